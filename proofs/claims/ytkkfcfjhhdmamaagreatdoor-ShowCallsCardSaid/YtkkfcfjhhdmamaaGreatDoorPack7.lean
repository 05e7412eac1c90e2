/-
  Texts of this proof, one behind the other (part 7).
-/
import Derived.Test.YtkkfcfjhhdmamaaGreatDoorPack6
import Derived.Shelf.Strconv.Itoa1
import Derived.Shelf.Strconv.Itoa0


section

set_option linter.unusedVariables false
set_option linter.unusedSimpArgs false
namespace Go.Proofs.YtkkfcfjhhdmamaaGreatDoor.lex
open Go.Abs Go.RowKit
set_option maxRecDepth 100000
set_option maxHeartbeats 4000000
def ckB (n : Nat) (g : Bool) : AHeap := [⟨true, 0, 0, .cells [.int .i64 n] 3⟩, ⟨true, 1, 0, .cells [.bool g] 4⟩, ⟨true, 2, 0, .cells [.func (.func 93) [] [.ptr 0 0]] 102⟩]
def ckH (s : Nat × Bool) : AHeap := [⟨true, 0, 0, .cells [.int .i64 s.1] 3⟩, ⟨true, 1, 0, .cells [.bool s.2] 4⟩, ⟨true, 2, 0, .cells [.func (.func 93) [] [.ptr 0 0]] 102⟩, ⟨true, 3, 0, .cells [.func (.func 65) [] [.ptr 2 0, .ptr 1 0]] 102⟩]
def lim (n : Nat) (d : Int) : Bool := decide (((n + 1 : Nat) : Int) ≤ 2000) && decide (d ≤ 32)
def ckE (_ : Ex) (d : Int) (s : Nat × Bool) : Bool × (Nat × Bool) := (lim s.1 d, (s.1 + 1, lim s.1 d))
def ckS (_ : St) (d : Int) (s : Nat × Bool) : Bool × (Nat × Bool) := (lim s.1 d, (s.1 + 1, lim s.1 d))
theorem ck1_ok (cs : List AV) (d : Int) (n : Nat) (g : Bool) (hn : n ≤ 2000) : MemOK Tryz.prog runLives.gl 94 [.rp cs, .int .i64 d, .ptr 3 0] (ckH (n, g)) (.bool (lim n d)) (ckH (n + 1, lim n d)) := by
  refine fn_mem (k := 4) follows noNum (orcN_sound follows noNum isWordF_sound 4) rfl Tryz.func94 rfl (wcall_ok (isC := fun _ => false) 4) ?_
  repeat' ((conv => whnf); first | refine stp ?_ | with_reducible refine condB (fun h => ?_) (fun h => ?_))
  all_goals (conv => whnf)
  all_goals (exact ⟨by unfold lim; rw [h]; rfl, by unfold lim; rw [h]; rfl, rfl⟩)
theorem ck2_ok (cs : List AV) (d : Int) (n : Nat) (g : Bool) (hn : n ≤ 2000) : MemOK Tryz.prog runLives.gl 95 [.rp cs, .int .i64 d, .ptr 3 0] (ckH (n, g)) (.bool (lim n d)) (ckH (n + 1, lim n d)) := by
  refine fn_mem (k := 4) follows noNum (orcN_sound follows noNum isWordF_sound 4) rfl Tryz.func95 rfl (wcall_ok (isC := fun _ => false) 4) ?_
  repeat' ((conv => whnf); first | refine stp ?_ | with_reducible refine condB (fun h => ?_) (fun h => ?_))
  all_goals (conv => whnf)
  all_goals (exact ⟨by unfold lim; rw [h]; rfl, by unfold lim; rw [h]; rfl, rfl⟩)
theorem ckH_inj {a b : Nat × Bool} (h : ckH a = ckH b) : a = b := by
  simp only [ckH, List.cons.injEq, AObj.mk.injEq, ABody.cells.injEq, AV.int.injEq, AV.bool.injEq, and_true, true_and] at h
  obtain ⟨x, y⟩ := a
  obtain ⟨z, w⟩ := b
  simp only at h
  rw [show x = z by omega, h.2]
def tw (r : Bool × Nat) : Bool × (Nat × Bool) := (r.1, (r.2, r.1))
theorem tw_then {r : Bool × Nat} {f : Nat → Bool × Nat} {f' : Nat × Bool → Bool × (Nat × Bool)} (h : ∀ n, f' (n, true) = tw (f n)) : thenB (tw r) f' = tw (thenB r f) := by
  obtain ⟨b, n⟩ := r
  cases b with
  | true => exact h n
  | false => rfl
mutual
theorem goE_ck : ∀ (e : Ex) (d : Int) (n : Nat), goE ckE e d (n, true) = tw (goE cE e d n)
  | .mk o num s k, d, n => by
    have e1 : goE ckE (.mk o num s k) d (n, true) = thenB (tw (cE (.mk o num s k) d n)) fun s => goL ckE k (d + 1) s := by simp only [goE]; rfl
    have e2 : goE cE (.mk o num s k) d n = thenB (cE (.mk o num s k) d n) fun s => goL cE k (d + 1) s := by simp only [goE, thenB]
    rw [e1, e2]
    exact tw_then fun n => goL_ck k (d + 1) n
theorem goL_ck : ∀ (l : List Ex) (d : Int) (n : Nat), goL ckE l d (n, true) = tw (goL cE l d n)
  | [], d, n => by simp only [goL, tw]
  | e :: l, d, n => by
    have e1 : goL ckE (e :: l) d (n, true) = thenB (goE ckE e d (n, true)) fun s => goL ckE l d s := by simp only [goL, thenB]
    have e2 : goL cE (e :: l) d n = thenB (goE cE e d n) fun s => goL cE l d s := by simp only [goL, thenB]
    rw [e1, e2, goE_ck e d n]
    exact tw_then fun n => goL_ck l d n
end
mutual
theorem goS_ck : ∀ (x : St) (d : Int) (n : Nat), goS ckE ckS x d (n, true) = tw (goS cE cS x d n)
  | .mk k nm lc o x t e, d, n => by
    simp only [goS]
    rw [show ckS (.mk k nm lc o x t e) d (n, true) = tw (cS (.mk k nm lc o x t e) d n) from rfl]
    exact tw_then fun n => by
      rw [goL_ck x (d + 1) n]
      exact tw_then fun n => by
        rw [goSL_ck t (d + 1) n]
        exact tw_then fun n => goSL_ck e (d + 1) n
theorem goSL_ck : ∀ (l : List St) (d : Int) (n : Nat), goSL ckE ckS l d (n, true) = tw (goSL cE cS l d n)
  | [], d, n => by simp only [goSL, tw]
  | e :: l, d, n => by
    simp only [goSL]
    rw [goS_ck e d n]
    exact tw_then fun n => goSL_ck l d n
end
theorem ckV_down (d : Int) (s : Nat × Bool) (h : 0 ≤ d ∧ d ≤ 33 ∧ s.1 ≤ 2000) (ht : lim s.1 d = true) : 0 ≤ d + 1 ∧ d + 1 ≤ 33 ∧ s.1 + 1 ≤ 2000 :=
  have h2 : s.1 + 1 ≤ 2000 ∧ d + 1 ≤ 33 := (cnt_one d s.1).1.1 ht
  have h3 : 0 ≤ d := h.1
  ⟨by clear h ht h2; omega, h2.2, h2.1⟩
theorem ckV_up (d : Int) (s : Nat × Bool) (h0 : 0 ≤ d) (h : 0 ≤ d + 1 ∧ d + 1 ≤ 33 ∧ s.1 ≤ 2000) : 0 ≤ d ∧ d ≤ 33 ∧ s.1 ≤ 2000 := ⟨h0, by have := h.2.1; clear h; omega, h.2.2⟩
theorem ckV_bnd (d : Int) (s : Nat × Bool) (h : 0 ≤ d ∧ d ≤ 33 ∧ s.1 ≤ 2000) : 0 ≤ d ∧ d ≤ 1152921504606846976 := ⟨h.1, by have := h.2.1; clear h; omega⟩
def ckV : TvS runLives.gl where
  σ := Nat × Bool
  Mem := ckH
  k := 4
  len := fun _ => rfl
  same := fun s => ⟨⟨⟨rfl, rfl, rfl, rfl, BodyGe.pre (rest := []) rfl rfl⟩, ⟨rfl, rfl, rfl, rfl, BodyGe.pre (rest := []) rfl rfl⟩, ⟨rfl, rfl, rfl, rfl, BodyGe.cellsL ⟨Wk.func trivial ⟨Wk.ptr rfl rfl, trivial⟩, trivial⟩⟩, ⟨rfl, rfl, rfl, rfl, BodyGe.cellsL ⟨Wk.func trivial ⟨Wk.ptr rfl rfl, Wk.ptr rfl rfl, trivial⟩, trivial⟩⟩, trivial⟩, rfl, rfl⟩
  evo := fun _ _ => rfl
  inj := fun _ _ h => ckH_inj h
  I := fun d s m => 0 ≤ d ∧ d ≤ 33 ∧ s.1 ≤ 2000
  up := fun d s m h0 h => ckV_up d s h0 h
  less := fun d s m h => h
  bnd := fun d s m h => ckV_bnd d s h
  gE := 94
  cE := [.ptr 3 0]
  hE := ckE
  bodyE := by kernel_rfl
  wkE := ⟨Wk.ptr rfl rfl, trivial⟩
  okE := fun e rest d s m _ h => ck1_ok (e.cells ++ rest) d s.1 s.2 h.2.2
  downE := fun e d s m h ht => ckV_down d s h ht
  gS := 95
  cS := [.ptr 3 0]
  hS := ckS
  bodyS := by kernel_rfl
  wkS := ⟨Wk.ptr rfl rfl, trivial⟩
  okS := fun x rest d s m _ h => ck2_ok (x.cells ++ rest) d s.1 s.2 h.2.2
  downS := fun e d s m h ht => ckV_down d s h ht
def ckF : AV := .func (.func 94) [] [.ptr 3 0]
def ckG : AV := .func (.func 95) [] [.ptr 3 0]
theorem ck_stmts (l : List St) (n : Nat) (hok : okSL l) (hl : l.length ≤ 9223372036854775807) (hn : n ≤ 2000) : MemOK Tryz.prog runLives.gl 67 [stA l, .int .i64 1, ckF, ckG] (ckH (n, true)) (.bool (goSL cE cS l 1 n).1) (ckH ((goSL cE cS l 1 n).2, (goSL cE cS l 1 n).1)) := by
  have := TvS.stmts ckV (sizeSL l) l 1 (n, true) 0 (Nat.le_refl _) hok hl ⟨by decide, by decide, hn⟩
  have e : goSL ckV.hE ckV.hS l 1 (n, true) = tw (goSL cE cS l 1 n) := goSL_ck l 1 n
  rw [e] at this
  exact this
def cnH (n : Nat) (g : Bool) (nd nt : Nat) (cd ct : List AV) : AHeap := [⟨true, 0, 0, .cells [.int .i64 n] 3⟩, ⟨true, 1, 0, .cells [.bool g] 4⟩, ⟨true, 2, 0, .cells [.func (.func 93) [] [.ptr 0 0]] 102⟩, ⟨true, 3, 0, .cells [.rs nd 3 cd, .rs nt 1 ct] 25⟩, ⟨true, 4, 0, .cells [.func (.func 65) [] [.ptr 2 0, .ptr 1 0]] 102⟩]
def cnF : AV := .func (.func 94) [] [.ptr 4 0]
def cnG : AV := .func (.func 95) [] [.ptr 4 0]
theorem ck_nd (nd nt : Nat) (cd ct : List AV) (l : List St) (n : Nat) (hok : okSL l) (hl : l.length ≤ 9223372036854775807) (hn : n ≤ 2000) : MemOK Tryz.prog runLives.gl 67 [stA l, .int .i64 1, cnF, cnG] (cnH n true nd nt cd ct) (.bool (goSL cE cS l 1 n).1) (cnH (goSL cE cS l 1 n).2 (goSL cE cS l 1 n).1 nd nt cd ct) := by
  have hM := ck_stmts l n hok hl hn
  generalize goSL cE cS l 1 n = r at *
  have h := mem_frame (m := [0, 1, 2, 4]) (n := 5) (Hc := cnH n true nd nt cd ct) (cargs := [stA l, .int .i64 1, cnF, cnG]) hM ?_ ?_ rfl rfl rfl rfl rfl rfl
  · have e1 : updM [0, 1, 2, 4] (ckH (r.2, r.1)) 0 (cnH n true nd nt cd ct) = cnH r.2 r.1 nd nt cd ct := rfl
    rw [e1] at h
    exact h
  · rfl
  · exact ⟨⟨rfl, rfl, rfl, rfl, BodyGe.pre (rest := []) rfl rfl⟩, ⟨rfl, rfl, rfl, rfl, BodyGe.pre (rest := []) rfl rfl⟩, ⟨rfl, rfl, rfl, rfl, BodyGe.cellsL ⟨Wk.func trivial ⟨Wk.ptr rfl rfl, trivial⟩, trivial⟩⟩, ⟨rfl, rfl, rfl, rfl, BodyGe.cellsL ⟨Wk.func trivial ⟨Wk.ptr rfl rfl, Wk.ptr rfl rfl, trivial⟩, trivial⟩⟩, trivial⟩
def goT (g : List St → Nat → Bool × Nat) : List (List St) → Nat → Bool × Nat
  | [], n => (true, n)
  | l :: t, n => thenB (g l n) fun n => goT g t n
theorem goT_at {g : List St → Nat → Bool × Nat} : ∀ (t : List (List St)) (n i : Nat) (hi : i < t.length), (goT g (t.take i) n).1 = true → goT g (t.take (i + 1)) n = g t[i] (goT g (t.take i) n).2
  | e :: l, n, 0, _, _ => by
    simp only [List.take_zero, List.take_succ_cons, goT, List.getElem_cons_zero, thenB]
    split
    · rename_i h2; rw [← h2]
    · rename_i h2; rw [← Bool.eq_false_iff.2 h2]
  | e :: l, n, i + 1, hi, ht => by
    simp only [List.take_succ_cons, goT, List.getElem_cons_succ, thenB] at ht ⊢
    split
    · rename_i h2
      rw [if_pos h2] at ht
      exact goT_at l _ i (by simpa using hi) ht
    · rename_i h2; rw [if_neg h2] at ht; cases ht
theorem goT_stop {g : List St → Nat → Bool × Nat} : ∀ (t : List (List St)) (n i : Nat), (goT g (t.take i) n).1 = false → goT g t n = goT g (t.take i) n
  | [], n, i, hf => by simp
  | e :: l, n, 0, hf => by simp only [List.take_zero, goT] at hf; cases hf
  | e :: l, n, i + 1, hf => by
    simp only [List.take_succ_cons, goT, thenB] at hf ⊢
    split
    · rename_i h2
      rw [if_pos h2] at hf
      exact goT_stop l _ i hf
    · rfl
def cT (ts : List (List St)) (n : Nat) : Bool × Nat := goT (fun l n => goSL cE cS l 1 n) ts n
theorem cT_cnt : ∀ (ts : List (List St)) (n : Nat), n ≤ 2000 → Cnt (cT ts n) n (sizeTL ts) (1 + deepTL ts)
  | [], n, h => by
    simp only [cT, goT, sizeTL, deepTL]
    exact ⟨⟨fun _ => by omega, fun _ => rfl⟩, fun _ => rfl⟩
  | l :: t, n, h => by
    have := cnt_then (f := fun n => cT t n) (goSL_c l 1 n h (by omega)) fun h1 _ => cT_cnt t _ h1
    refine Cnt.to this (by simp only [sizeTL]) ?_
    simp only [deepTL]; omega
theorem nodes_ck (ts : List (List St)) (nd : Nat) (cd : List AV) (hok : okTL ts) (hl : ts.length ≤ 9223372036854775807) :
    MemOK Tryz.prog runLives.gl 64 [.agg [.rs nd 3 cd, .rs ts.length 1 (ts.map stA)], .func (.func 65) [] [.ptr 2 0, .ptr 1 0]] (ckB 0 true) (.tuple []) (ckB (cT ts 0).2 (cT ts 0).1) := by
  obtain ⟨O, hO, ⟨p1, -⟩, -⟩ := famsM (P := Tryz.prog) (gl := runLives.gl) [{ I := List St × Nat, f := 67, G := (fun p => okSL p.1 ∧ p.1.length ≤ 9223372036854775807 ∧ p.2 ≤ 2000), A := (fun p => [stA p.1, .int .i64 1, cnF, cnG]), H := (fun p => cnH p.2 true nd ts.length cd (ts.map stA)), R := (fun p => .bool (goSL cE cS p.1 1 p.2).1), O := (fun p => cnH (goSL cE cS p.1 1 p.2).2 (goSL cE cS p.1 1 p.2).1 nd ts.length cd (ts.map stA)), body := (by kernel_rfl), inj := (fun p q _ _ ha hh => by simp only [List.cons.injEq, and_true] at ha; simp only [cnH, List.cons.injEq, AObj.mk.injEq, ABody.cells.injEq, AV.int.injEq, and_true, true_and] at hh; rw [stA_inj ha, show p.2 = q.2 by omega]; exact ⟨rfl, rfl⟩), ok := (fun p hp => ck_nd _ _ _ _ p.1 p.2 hp.1 hp.2.1 hp.2.2) }] [] rfl
  have q1 : ∀ l n, okSL l → l.length ≤ 9223372036854775807 → n ≤ 2000 → acall Tryz.prog O (cnH n true nd ts.length cd (ts.map stA)) 67 [stA l, .int .i64 1, cnF, cnG] = some (.bool (goSL cE cS l 1 n).1, cnH (goSL cE cS l 1 n).2 (goSL cE cS l 1 n).1 nd ts.length cd (ts.map stA)) := fun l n h1 h2 h3 => p1 (l, n) ⟨h1, h2, h3⟩
  clear p1
  refine fn_mem (k := 3) follows noNum hO rfl Tryz.func64 rfl (cw0_ok _ _) ?_
  repeat' ((conv => whnf); first | refine stp ?_ | with_reducible refine condB (fun h => ?_) (fun h => ?_))
  conv => whnf
  refine ⟨Nat, (fun i => i ≤ ts.length ∧ (cT (ts.take i) 0).1 = true), (fun i => [(4, cnF), (5, cnG), (11, .rs ts.length 1 (ts.map stA)), (12, .int .i64 ts.length), (13, .int .i64 i)]), (fun i => cnH (cT (ts.take i) 0).2 true nd ts.length cd (ts.map stA)), (fun i => ts.length - i), ⟨0, ⟨Nat.zero_le _, rfl⟩, FgLK.mk [0, 1, 2, 3, 4] rfl rfl ?_ ⟨⟨rfl, rfl, rfl, rfl, BodyGe.pre (rest := []) rfl rfl⟩, ⟨rfl, rfl, rfl, rfl, BodyGe.pre (rest := []) rfl rfl⟩, ⟨rfl, rfl, rfl, rfl, BodyGe.cellsL ⟨Wk.func trivial ⟨Wk.ptr rfl rfl, trivial⟩, trivial⟩⟩, ⟨rfl, rfl, rfl, rfl, BodyGe.pre (rest := []) rfl rfl⟩, ⟨rfl, rfl, rfl, rfl, BodyGe.cellsL ⟨Wk.func trivial ⟨Wk.ptr rfl rfl, Wk.ptr rfl rfl, trivial⟩, trivial⟩⟩, trivial⟩ rfl⟩, ?_⟩
  · refine And.intro (Wk.func trivial ⟨Wk.ptr rfl rfl, trivial⟩) ?_
    refine And.intro (Wk.func trivial ⟨Wk.ptr rfl rfl, trivial⟩) ?_
    refine And.intro (Wk.noref rfl) ?_
    refine And.intro (Wk.int rfl) ?_
    exact ⟨Wk.int rfl, trivial⟩
  rintro i ⟨hi, hall⟩
  dsimp only
  have hb : (cT (ts.take i) 0).2 ≤ 2000 := by
    have h1 := cT_cnt (ts.take i) 0 (by decide)
    rw [h1.2 hall]; exact (h1.1.1 hall).1
  by_cases hlt : i < ts.length
  · have e1 : decide ((i : Int) < (ts.length : Int)) = true := by simpa using hlt
    have hat : cT (ts.take (i + 1)) 0 = goSL cE cS ts[i] 1 (cT (ts.take i) 0).2 := goT_at ts 0 i hlt hall
    have hst : (cT (ts.take (i + 1)) 0).1 = false → cT ts 0 = cT (ts.take (i + 1)) 0 := goT_stop ts 0 (i + 1)
    have hx := th1 ts i hlt
    obtain ⟨k1, k2⟩ := okTL_get hok _ (get_mem hlt)
    have q2 := q1 ts[i] (cT (ts.take i) 0).2 k1 k2 hb
    generalize (cT (ts.take i) 0).2 = n at *
    generalize ts[i] = l at *
    generalize goSL cE cS l 1 n = r at *
    obtain ⟨b, n2⟩ := r
    simp only [stA] at hx
    simp only [stA, cnF, cnG, cnH] at q2
    cases b with
    | true =>
      repeat' ((conv => whnf); first | (refine exI hx ?_) | (refine exI q2 ?_) | (with_reducible refine ixJ i rfl ?_ ?_; (focus (omega))) | (first | refine stp ?_ | with_reducible refine condB (fun h => ?_) (fun h => ?_)))
      conv => whnf
      refine ⟨i + 1, ⟨hlt, by rw [hat]⟩, by show ts.length - (i + 1) < ts.length - i; omega, FgLK.mk [0, 1, 2, 3, 4] rfl rfl ?_ ⟨⟨rfl, rfl, rfl, rfl, ?_⟩, ⟨rfl, rfl, rfl, rfl, BodyGe.pre (rest := []) rfl rfl⟩, ⟨rfl, rfl, rfl, rfl, BodyGe.cellsL ⟨Wk.func trivial ⟨Wk.ptr rfl rfl, trivial⟩, trivial⟩⟩, ⟨rfl, rfl, rfl, rfl, BodyGe.pre (rest := []) rfl rfl⟩, ⟨rfl, rfl, rfl, rfl, BodyGe.cellsL ⟨Wk.func trivial ⟨Wk.ptr rfl rfl, Wk.ptr rfl rfl, trivial⟩, trivial⟩⟩, trivial⟩ rfl⟩
      · refine And.intro (Wk.func trivial ⟨Wk.ptr rfl rfl, trivial⟩) ?_
        refine And.intro (Wk.func trivial ⟨Wk.ptr rfl rfl, trivial⟩) ?_
        refine And.intro (Wk.noref rfl) ?_
        refine And.intro (Wk.int rfl) ?_
        exact ⟨Wk.int rfl, trivial⟩
      · rw [hat]
        exact BodyGe.pre (rest := []) rfl rfl
    | false =>
      rw [hst (by rw [hat]), hat]
      repeat' ((conv => whnf); first | (refine exI hx ?_) | (refine exI q2 ?_) | (with_reducible refine ixJ i rfl ?_ ?_; (focus (omega))) | (first | refine stp ?_ | with_reducible refine condB (fun h => ?_) (fun h => ?_)))
      all_goals (conv => whnf)
      all_goals (exact ⟨rfl, rfl⟩)
  · have e1 : decide ((i : Int) < (ts.length : Int)) = false := by simpa using hlt
    have hi2 : i = ts.length := by have := hi; omega
    subst hi2
    rw [List.take_length] at hall ⊢
    rw [hall]
    generalize (cT ts 0).2 = n at *
    repeat' ((conv => whnf); first | refine stp ?_ | with_reducible refine condB (fun h => ?_) (fun h => ?_))
    all_goals (conv => whnf)
    all_goals (exact ⟨rfl, rfl⟩)
end Go.Proofs.YtkkfcfjhhdmamaaGreatDoor.lex
end


section

set_option linter.unusedVariables false
set_option linter.unusedSimpArgs false
namespace Go.Proofs.YtkkfcfjhhdmamaaGreatDoor.lex
open Go.Abs Go.RowKit
set_option maxRecDepth 100000
set_option maxHeartbeats 4000000
variable {gl : Glob}
def famSL {g : Nat} (hb : hasBody Tryz.prog g = true) (r : List St → AV) (G : List St → Prop) (each : ∀ x, G x → ValOK Tryz.prog gl g [stA x] (r x)) : Fam Tryz.prog gl where
  I := List St
  f := g
  G := G
  A := fun x => [stA x]
  R := r
  body := hb
  inj := fun i j _ _ h => by simp only [List.cons.injEq, and_true] at h; rw [stA_inj h]
  ok := fun x hx => ⟨rfl, each x hx⟩
def famX {g : Nat} (hb : hasBody Tryz.prog g = true) (r : Ex → AV) (G : Ex → Prop) (each : ∀ k, G k → ValOK Tryz.prog gl g [.agg k.cells] (r k)) : Fam Tryz.prog gl where
  I := Ex
  f := g
  G := G
  A := fun k => [.agg k.cells]
  R := r
  body := hb
  inj := fun i j _ _ h => by rw [agg_inj h]
  ok := fun k hk => ⟨ex_refs k, each k hk⟩
theorem sizesR_ok : ∀ (n : Nat) (l : List St), sizeSL l ≤ n → sizeSL l ≤ 1048576 → ValOK Tryz.prog gl 73 [stA l] (.int .i64 (sizeSL l))
  | n, l, h, hb => by
    obtain ⟨O, hO, p1, p2, -⟩ := fams (P := Tryz.prog) (gl := gl) [famSL (g := 73) (by kernel_rfl) (fun x => .int .i64 (sizeSL x)) (fun x => sizeSL x < n ∧ sizeSL x ≤ 1048576) (fun x hx => match n, hx with | n + 1, hx => sizesR_ok n x (by omega) hx.2),
      famX (g := 50) (by kernel_rfl) (fun k => .int .i64 (sizeE k)) (fun k => sizeE k ≤ 1048576) (fun k hk => sizeR_ok _ k (Nat.le_refl _) hk)] rfl
    have q1 : ∀ x, sizeSL x < n ∧ sizeSL x ≤ 1048576 → ∀ H, acall Tryz.prog O H 73 [stA x] = some (.int .i64 (sizeSL x), H) := p1
    have q2 : ∀ k, sizeE k ≤ 1048576 → ∀ H, acall Tryz.prog O H 50 [.agg k.cells] = some (.int .i64 (sizeE k), H) := p2
    clear p1 p2
    have hlen := sizeSL_len l
    simp only [stA] at q1 ⊢
    refine fn_val follows noNum hO Tryz.func73 rfl ?_
    repeat' ((conv => whnf); first | refine stp ?_ | with_reducible refine condB (fun h => ?_) (fun h => ?_))
    conv => whnf
    refine ⟨Nat, (fun i => i ≤ l.length), (fun i => [(0, .rs l.length 7 (stC l)), (3, .int .i64 (sizeSL (l.take i) : Nat)), (4, .int .i64 i)]), (fun _ => []), (fun i => l.length - i), ⟨0, Nat.zero_le _, FgL.mk0 rfl ?_⟩, ?_⟩
    · simp only [List.take_zero, sizeSL]; (repeat (first | exact trivial | refine stw ?_))
    intro i hi
    dsimp only
    by_cases hlt : i < l.length
    · have e1 : decide ((i : Int) < (l.length : Int)) = true := by simpa using hlt
      have hs := sizeSL_take l i hlt
      have hg := sizeSL_get l i hlt
      have hse := sizeS_eq l[i]
      have hx4 : tk 1 (((stC l).drop (i * 7)).drop 4) = some [exA l[i].exprs] := by rw [stC_at l i hlt]; exact cell_x _ _
      have hx5 : tk 1 (((stC l).drop (i * 7)).drop 5) = some [stA l[i].thn] := by rw [stC_at l i hlt]; exact cell_t _ _
      have hx6 : tk 1 (((stC l).drop (i * 7)).drop 6) = some [stA l[i].els] := by rw [stC_at l i hlt]; exact cell_e _ _
      have qt := q1 l[i].thn ⟨by omega, by omega⟩
      have qe := q1 l[i].els ⟨by omega, by omega⟩
      generalize l[i] = x at *
      simp only [exA, stA] at hx4 hx5 hx6
      have hxl := sizeL_len x.exprs
      generalize hT : sizeSL x.thn = zt at *
      generalize hE : sizeSL x.els = ze at *
      repeat' ((conv => whnf); first | (refine exI hx4 ?_) | (refine exI hx5 ?_) | (refine exI hx6 ?_) | (refine exI (qt _) ?_) | (refine exI (qe _) ?_) | (with_reducible refine ixJ i rfl ?_ ?_; (focus (omega))) | (first | refine stp ?_ | with_reducible refine condB (fun h => ?_) (fun h => ?_)))
      conv => whnf
      refine ⟨Nat, (fun k => k ≤ x.exprs.length), (fun k => [(0, .rs l.length 7 (stC l)), (3, .int .i64 (sizeSL (l.take i) + 1 + zt + ze + sizeL (x.exprs.take k) : Nat)), (4, .int .i64 i), (5, .int .i64 k)]), (fun _ => []), (fun k => x.exprs.length - k), ⟨0, Nat.zero_le _, FgL.mk0 rfl ?_⟩, ?_⟩
      · simp only [List.take_zero, sizeL]; (repeat (first | exact trivial | refine stw ?_))
      intro k hk
      dsimp only
      by_cases hkt : k < x.exprs.length
      · have e2 : decide ((k : Int) < (x.exprs.length : Int)) = true := by simpa using hkt
        have hy := ex4 x.exprs k hkt
        have ht := sizeL_take x.exprs k hkt
        have hgk := sizeL_get x.exprs k hkt
        have qk := q2 x.exprs[k] (by omega)
        generalize x.exprs[k] = y at *
        repeat' ((conv => whnf); first | (refine exI hx4 ?_) | (refine exI hy ?_) | (refine exI (qk _) ?_) | (with_reducible refine ixJ i rfl ?_ ?_; (focus (omega))) | (with_reducible refine ixJ k rfl ?_ ?_; (focus (omega))) | (first | refine stp ?_ | with_reducible refine condB (fun h => ?_) (fun h => ?_)))
        conv => whnf
        refine ⟨k + 1, hkt, by show x.exprs.length - (k + 1) < x.exprs.length - k; omega, FgL.mk0 rfl ?_⟩
        rw [ht]; (repeat (first | exact trivial | refine stw ?_))
      · have e2 : decide ((k : Int) < (x.exprs.length : Int)) = false := by simpa using hkt
        have hk2 : k = x.exprs.length := by have := hk; omega
        subst hk2
        repeat' ((conv => whnf); first | (refine exI hx4 ?_) | (with_reducible refine ixJ i rfl ?_ ?_; (focus (omega))) | (first | refine stp ?_ | with_reducible refine condB (fun h => ?_) (fun h => ?_)))
        conv => whnf
        refine ⟨i + 1, hlt, by show l.length - (i + 1) < l.length - i; omega, FgL.mk0 rfl ?_⟩
        rw [hs, List.take_length, hse]; (repeat (first | exact trivial | refine stw ?_))
    · have e1 : decide ((i : Int) < (l.length : Int)) = false := by simpa using hlt
      have hi2 : i = l.length := by have := hi; omega
      subst hi2
      rw [List.take_length]
      repeat' ((conv => whnf); first | refine stp ?_ | with_reducible refine condB (fun h => ?_) (fun h => ?_))
      all_goals rfl
theorem deepsR_ok : ∀ (n : Nat) (l : List St), sizeSL l ≤ n → sizeSL l ≤ 1048576 → ValOK Tryz.prog gl 74 [stA l] (.int .i64 (deepSL l))
  | n, l, h, hb => by
    obtain ⟨O, hO, p1, p2, -⟩ := fams (P := Tryz.prog) (gl := gl) [famSL (g := 74) (by kernel_rfl) (fun x => .int .i64 (deepSL x)) (fun x => sizeSL x < n ∧ sizeSL x ≤ 1048576) (fun x hx => match n, hx with | n + 1, hx => deepsR_ok n x (by omega) hx.2),
      famX (g := 51) (by kernel_rfl) (fun k => .int .i64 (deepE k)) (fun k => sizeE k ≤ 1048576) (fun k hk => deepR_ok _ k (Nat.le_refl _) hk)] rfl
    have q1 : ∀ x, sizeSL x < n ∧ sizeSL x ≤ 1048576 → ∀ H, acall Tryz.prog O H 74 [stA x] = some (.int .i64 (deepSL x), H) := p1
    have q2 : ∀ k, sizeE k ≤ 1048576 → ∀ H, acall Tryz.prog O H 51 [.agg k.cells] = some (.int .i64 (deepE k), H) := p2
    clear p1 p2
    have hlen := sizeSL_len l
    have hds := deepSL_size l
    simp only [stA] at q1 ⊢
    refine fn_val follows noNum hO Tryz.func74 rfl ?_
    repeat' ((conv => whnf); first | refine stp ?_ | with_reducible refine condB (fun h => ?_) (fun h => ?_))
    conv => whnf
    refine ⟨Nat, (fun i => i ≤ l.length), (fun i => [(0, .rs l.length 7 (stC l)), (3, .int .i64 (deepSL (l.take i) : Nat)), (4, .int .i64 i)]), (fun _ => []), (fun i => l.length - i), ⟨0, Nat.zero_le _, FgL.mk0 rfl ?_⟩, ?_⟩
    · simp only [List.take_zero, deepSL]; (repeat (first | exact trivial | refine stw ?_))
    intro i hi
    dsimp only
    by_cases hlt : i < l.length
    · have e1 : decide ((i : Int) < (l.length : Int)) = true := by simpa using hlt
      have hs := deepSL_take l i hlt
      have hle := deepSL_le l i
      have hsz := sizeSL_mem _ _ (get_mem hlt)
      have hse := sizeS_eq l[i]
      have hde := deepS_eq l[i]
      have hx4 : tk 1 (((stC l).drop (i * 7)).drop 4) = some [exA l[i].exprs] := by rw [stC_at l i hlt]; exact cell_x _ _
      have hx5 : tk 1 (((stC l).drop (i * 7)).drop 5) = some [stA l[i].thn] := by rw [stC_at l i hlt]; exact cell_t _ _
      have hx6 : tk 1 (((stC l).drop (i * 7)).drop 6) = some [stA l[i].els] := by rw [stC_at l i hlt]; exact cell_e _ _
      have qt := q1 l[i].thn ⟨by omega, by omega⟩
      have qe := q1 l[i].els ⟨by omega, by omega⟩
      generalize l[i] = x at *
      simp only [exA, stA] at hx4 hx5 hx6
      have hxl := sizeL_len x.exprs
      have h1 := deepSL_size x.thn
      have h2 := deepSL_size x.els
      have h3 := deepL_size x.exprs
      generalize hT : deepSL x.thn = zt at *
      generalize hE : deepSL x.els = ze at *
      repeat' ((conv => whnf); first | (refine exI hx4 ?_) | (refine exI hx5 ?_) | (refine exI hx6 ?_) | (refine exI (qt _) ?_) | (refine exI (qe _) ?_) | (with_reducible refine ixJ i rfl ?_ ?_; (focus (omega))) | (first | refine stp ?_ | with_reducible refine condB (fun h => ?_) (fun h => ?_)))
      conv => whnf
      refine ⟨Nat, (fun k => k ≤ x.exprs.length), (fun k => [(0, .rs l.length 7 (stC l)), (3, .int .i64 (deepSL (l.take i) : Nat)), (4, .int .i64 i), (5, .int .i64 (max (max zt ze) (deepL (x.exprs.take k)) : Nat)), (6, .int .i64 k)]), (fun _ => []), (fun k => x.exprs.length - k), ⟨0, Nat.zero_le _, FgL.mk0 rfl ?_⟩, ?_⟩
      · refine And.intro (Wk.noref rfl) ?_
        refine And.intro (Wk.noref rfl) ?_
        refine And.intro (Wk.noref rfl) ?_
        refine And.intro (Wk.int ?_) ?_
        · simp only [List.take_zero, deepL]; first | omega | (split <;> omega)
        exact ⟨Wk.int rfl, trivial⟩
      intro k hk
      dsimp only
      by_cases hkt : k < x.exprs.length
      · have e2 : decide ((k : Int) < (x.exprs.length : Int)) = true := by simpa using hkt
        have hy := ex4 x.exprs k hkt
        have ht := deepL_take x.exprs k hkt
        have hmk := sizeL_mem _ _ (get_mem hkt)
        have qk := q2 x.exprs[k] (by omega)
        generalize x.exprs[k] = y at *
        repeat' ((conv => whnf); first | (refine exI hx4 ?_) | (refine exI hy ?_) | (refine exI (qk _) ?_) | (with_reducible refine ixJ i rfl ?_ ?_; (focus (omega))) | (with_reducible refine ixJ k rfl ?_ ?_; (focus (omega))) | (first | refine stp ?_ | with_reducible refine condB (fun h => ?_) (fun h => ?_)))
        conv => whnf
        refine ⟨k + 1, hkt, by show x.exprs.length - (k + 1) < x.exprs.length - k; omega, FgL.mk0 rfl ?_⟩
        refine And.intro (Wk.noref rfl) ?_
        refine And.intro (Wk.noref rfl) ?_
        refine And.intro (Wk.noref rfl) ?_
        refine And.intro (Wk.int ?_) ?_
        · rw [ht]; first | omega | (split <;> omega)
        exact ⟨Wk.int rfl, trivial⟩
      · have e2 : decide ((k : Int) < (x.exprs.length : Int)) = false := by simpa using hkt
        have hk2 : k = x.exprs.length := by have := hk; omega
        subst hk2
        rw [List.take_length]
        repeat' ((conv => whnf); first | (refine exI hx4 ?_) | (with_reducible refine ixJ i rfl ?_ ?_; (focus (omega))) | (first | refine stp ?_ | with_reducible refine condB (fun h => ?_) (fun h => ?_)))
        conv => whnf
        refine ⟨i + 1, hlt, by show l.length - (i + 1) < l.length - i; omega, FgL.mk0 rfl ?_⟩
        refine And.intro (Wk.noref rfl) ?_
        refine And.intro (Wk.int ?_) ?_
        · rw [hs, hde]; first | omega | (split <;> omega)
        exact ⟨Wk.int rfl, trivial⟩
    · have e1 : decide ((i : Int) < (l.length : Int)) = false := by simpa using hlt
      have hi2 : i = l.length := by have := hi; omega
      subst hi2
      rw [List.take_length]
      repeat' ((conv => whnf); first | refine stp ?_ | with_reducible refine condB (fun h => ?_) (fun h => ?_))
      all_goals rfl
end Go.Proofs.YtkkfcfjhhdmamaaGreatDoor.lex
end


section

set_option linter.unusedVariables false
set_option linter.unusedSimpArgs false
namespace Go.Proofs.YtkkfcfjhhdmamaaGreatDoor.lex
open Go.Abs Go.RowKit
set_option maxRecDepth 100000
set_option maxHeartbeats 8000000
variable {gl : Glob}
def isK (k : Int) : Bool := decide (1 ≤ k ∧ k ≤ 11)
def hX (k : Int) : Int := if isK k then hasX k else 0
def hT (k : Int) : Bool := isK k && hasT k
def partsV (k : Int) : AV := .tuple [.agg [.bool (hasN k), .bool (hasL k), .bool (hasO k), .int .i64 (hX k), .bool (hT k), .bool (hasE k)], .bool (isK k)]
theorem parts_ok (k : Int) : ValOK Tryz.prog gl 76 [.int .i64 k] (partsV k) := by
  by_cases hk : 1 ≤ k ∧ k ≤ 11
  · have hop : k = 1 ∨ k = 2 ∨ k = 3 ∨ k = 4 ∨ k = 5 ∨ k = 6 ∨ k = 7 ∨ k = 8 ∨ k = 9 ∨ k = 10 ∨ k = 11 := by omega
    rcases hop with rfl | rfl | rfl | rfl | rfl | rfl | rfl | rfl | rfl | rfl | rfl
    all_goals (refine fn_val follows noNum none_sound Tryz.func76 rfl ?_)
    all_goals (repeat' ((conv => whnf); first | refine stp ?_ | with_reducible refine condB (fun h => ?_) (fun h => ?_)))
    all_goals rfl
  · have e : partsV k = .tuple [.agg [.bool false, .bool false, .bool false, .int .i64 0, .bool false, .bool false], .bool false] := by
      have h1 : isK k = false := by unfold isK; simpa using fun h => by omega
      simp only [partsV, hX, hT, h1, Bool.false_and, Bool.false_eq_true, if_false]
      unfold hasN hasL hasO hasE
      have : (k == 1) = false ∧ (k == 2) = false ∧ (k == 4) = false ∧ (k == 5) = false ∧ (k == 6) = false ∧ (k == 10) = false := by simp only [beq_eq_false_iff_ne]; omega
      obtain ⟨a, b, c, d, e, f⟩ := this
      simp only [a, b, c, d, e, f, Bool.false_or]
      have g1 : decide (2 ≤ k ∧ k ≤ 6) = false := by simpa using fun h => by omega
      have g2 : decide (2 ≤ k ∧ k ≤ 7) = false := by simpa using fun h => by omega
      rw [g1, g2]
    rw [e]
    have n1 : (k == 1) = false := by simp only [beq_eq_false_iff_ne]; omega
    have n2 : (k == 2) = false := by simp only [beq_eq_false_iff_ne]; omega
    have n3 : (k == 3) = false := by simp only [beq_eq_false_iff_ne]; omega
    have n4 : (k == 4) = false := by simp only [beq_eq_false_iff_ne]; omega
    have n5 : (k == 5) = false := by simp only [beq_eq_false_iff_ne]; omega
    have n6 : (k == 6) = false := by simp only [beq_eq_false_iff_ne]; omega
    have n7 : (k == 7) = false := by simp only [beq_eq_false_iff_ne]; omega
    have n8 : (k == 8) = false := by simp only [beq_eq_false_iff_ne]; omega
    have n9 : (k == 9) = false := by simp only [beq_eq_false_iff_ne]; omega
    have n10 : (k == 10) = false := by simp only [beq_eq_false_iff_ne]; omega
    have n11 : (k == 11) = false := by simp only [beq_eq_false_iff_ne]; omega
    refine fn_val follows noNum none_sound Tryz.func76 rfl ?_
    repeat' ((conv => whnf); first | (with_reducible refine condF ?_ ?_; (focus (assumption))) | (first | refine stp ?_ | with_reducible refine condB (fun h => ?_) (fun h => ?_)))
    all_goals rfl
def ownD (n lo o t e is : Bool) (x : Int) (name loc : List UInt8) (order : Int) (nx nt ne : Nat) : Bool :=
  is && ((n == wordB name) && ((n || name == []) && ((lo == wordB loc) && ((lo || loc == []) && (decide ((nx : Int) = x) && ((t || decide (nt = 0)) && ((e || decide (ne = 0)) && (if o then decide (1 ≤ order ∧ order ≤ 6) else order == 0))))))))
theorem isW_eq (m : Bool) (s : List UInt8) : isW m s = ((m == wordB s) && (m || s == [])) := by
  unfold isW
  cases m with
  | true => simp
  | false =>
    by_cases h : s = []
    · subst h; rfl
    · simp [h]
theorem ownD_eq (k : Int) (name loc : List UInt8) (order : Int) (nx nt ne : Nat) : ownD (hasN k) (hasL k) (hasO k) (hT k) (hasE k) (isK k) (hX k) name loc order nx nt ne = ownSF k name loc order nx nt ne := by
  unfold ownD ownSF
  rw [isW_eq, isW_eq]
  cases hk : isK k with
  | false => unfold isK at hk; rw [hk]; simp
  | true =>
    have h2 : decide (1 ≤ k ∧ k ≤ 11) = true := hk
    have h3 : decide ((nx : Int) = (hasX k : Int)) = decide (nx = hasX k) := by rw [decide_eq_decide]; omega
    simp only [h2, hX, hT, hk, if_true, Bool.true_and, h3]
    rw [Bool.eq_iff_iff]
    simp only [Bool.and_eq_true]
    constructor
    · rintro ⟨a, b, c, d, e, f, g, h⟩; exact ⟨⟨a, b⟩, ⟨c, d⟩, h, e, f, g⟩
    · rintro ⟨⟨a, b⟩, ⟨c, d⟩, h, e, f, g⟩; exact ⟨a, b, c, d, e, f, g, h⟩
theorem rightSL_take : ∀ (l : List St) (i : Nat) (h : i < l.length), rightSL (l.take (i + 1)) = (rightSL (l.take i) && rightS l[i])
  | e :: l, 0, h => by simp only [List.take_succ_cons, List.take_zero, rightSL, List.getElem_cons_zero, Bool.and_true, Bool.true_and]
  | e :: l, i + 1, h => by
    have := rightSL_take l i (by simpa using h)
    simp only [List.take_succ_cons, rightSL, List.getElem_cons_succ] at this ⊢; rw [this, Bool.and_assoc]
theorem rightSL_get : ∀ {l : List St} {i : Nat} (h : i < l.length), rightS l[i] = false → rightSL l = false
  | e :: l, 0, h, h2 => by simp only [List.getElem_cons_zero] at h2; simp only [rightSL, h2, Bool.false_and]
  | e :: l, i + 1, h, h2 => by simp only [List.getElem_cons_succ] at h2; simp only [rightSL, rightSL_get (l := l) (by simpa using h) h2, Bool.and_false]
end Go.Proofs.YtkkfcfjhhdmamaaGreatDoor.lex
end


section

set_option linter.unusedVariables false
set_option linter.unusedSimpArgs false
namespace Go.Proofs.YtkkfcfjhhdmamaaGreatDoor.lex
open Go.Abs Go.RowKit
set_option maxRecDepth 100000
set_option maxHeartbeats 8000000
variable {gl : Glob}
theorem rights_ok : ∀ (n : Nat) (l : List St), sizeSL l ≤ n → okSL l → sizeSL l ≤ 1048576 → ValOK Tryz.prog gl 40 [stA l] (.bool (rightSL l))
  | n, l, h, hok, hb => by
    obtain ⟨O, hO, p1, p2, p3, p4, -⟩ := fams (P := Tryz.prog) (gl := gl) [famSL (g := 40) (by kernel_rfl) (fun x => .bool (rightSL x)) (fun x => sizeSL x < n ∧ okSL x ∧ sizeSL x ≤ 1048576) (fun x hx => match n, hx with | n + 1, hx => rights_ok n x (by omega) hx.2.1 hx.2.2),
      famX (g := 52) (by kernel_rfl) (fun k => .bool (rightE k)) okE (fun k hk => right_ok _ k (Nat.le_refl _) hk),
      { I := Int, f := 76, G := fun _ => True, A := fun k => [.int .i64 k], R := partsV, body := (by kernel_rfl), inj := (fun i j _ _ h => by simp only [List.cons.injEq, AV.int.injEq, true_and, and_true] at h; rw [h]), ok := (fun k _ => ⟨rfl, parts_ok k⟩) },
      { I := List UInt8, f := 39, G := fun s => s.length ≤ 9223372036854775807, A := fun s => [.str s], R := fun s => .bool (wordB s), body := (by kernel_rfl), inj := (fun i j _ _ h => by simp only [List.cons.injEq, AV.str.injEq, and_true] at h; rw [h]), ok := (fun s hs => ⟨rfl, wordRef_ok s hs⟩) }] rfl
    have q1 : ∀ x, sizeSL x < n ∧ okSL x ∧ sizeSL x ≤ 1048576 → ∀ H, acall Tryz.prog O H 40 [stA x] = some (.bool (rightSL x), H) := p1
    have q2 : ∀ k, okE k → ∀ H, acall Tryz.prog O H 52 [.agg k.cells] = some (.bool (rightE k), H) := p2
    have q3 : ∀ k H, acall Tryz.prog O H 76 [.int .i64 k] = some (partsV k, H) := fun k => p3 k trivial
    have q4 : ∀ s, s.length ≤ 9223372036854775807 → ∀ H, acall Tryz.prog O H 39 [.str s] = some (.bool (wordB s), H) := p4
    clear p1 p2 p3 p4
    have hlen := sizeSL_len l
    simp only [stA] at q1 ⊢
    refine fn_val follows noNum hO Tryz.func40 rfl ?_
    repeat' ((conv => whnf); first | refine stp ?_ | with_reducible refine condB (fun h => ?_) (fun h => ?_))
    conv => whnf
    refine ⟨Nat, (fun i => i ≤ l.length ∧ rightSL (l.take i) = true), (fun i => [(0, .rs l.length 7 (stC l)), (3, .int .i64 i)]), (fun _ => []), (fun i => l.length - i), ⟨0, ⟨Nat.zero_le _, by simp only [List.take_zero, rightSL]⟩, FgL.mk0 rfl ?_⟩, ?_⟩
    · (repeat (first | exact trivial | refine stw ?_))
    rintro i ⟨hi, hall⟩
    dsimp only
    by_cases hlt : i < l.length
    · have e1 : decide ((i : Int) < (l.length : Int)) = true := by simpa using hlt
      have hg := sizeSL_get l i hlt
      have hse := sizeS_eq l[i]
      have hat := rightSL_take l i hlt
      have hfalse : rightS l[i] = false → rightSL l = false := rightSL_get hlt
      have hx := st7 l i hlt
      obtain ⟨k1, k2, k3, k4, k5, k6, k7, k8⟩ := okS_parts (okSL_get hok _ (get_mem hlt))
      have qt := q1 l[i].thn ⟨by omega, k7, by omega⟩
      have qe := q1 l[i].els ⟨by omega, k8, by omega⟩
      have hr := rightS_eq l[i]
      have ho : ownS l[i] = ownD (hasN l[i].kind) (hasL l[i].kind) (hasO l[i].kind) (hT l[i].kind) (hasE l[i].kind) (isK l[i].kind) (hX l[i].kind) l[i].name l[i].loc l[i].order l[i].exprs.length l[i].thn.length l[i].els.length := by
        rw [ownD_eq]; rfl
      rw [hall, Bool.true_and] at hat
      have hxs := sizeL_len l[i].exprs
      have hbx : sizeL l[i].exprs ≤ 1048576 := by omega
      generalize l[i] = x at *
      obtain ⟨kind, name, loc, order, exprs, thn, els⟩ := x
      simp only [St.kind, St.name, St.loc, St.order, St.exprs, St.thn, St.els, St.cells, exA] at *
      have qn := q4 name k1
      have ql := q4 loc k2
      have qp := q3 kind
      simp only [partsV] at qp
      clear q1 q3 q4 hse hg
      obtain ⟨w1, hw1⟩ : ∃ w, wordB name = w := ⟨_, rfl⟩
      obtain ⟨w2, hw2⟩ : ∃ w, wordB loc = w := ⟨_, rfl⟩
      rw [hw1] at qn
      rw [hw2] at ql
      cases hk : isK kind with
      | false =>
        have ho2 : ownS (.mk kind name loc order exprs thn els) = false := by rw [ho]; simp [ownD, hk]
        rw [hfalse (by rw [hr, ho2]; rfl)]
        rw [hk] at qp
        clear hr ho hat hfalse
        repeat' ((conv => whnf); first | (refine exI hx ?_) | (refine exI (qp _) ?_) | (with_reducible refine ixJ i rfl ?_ ?_; (focus (omega))) | (first | refine stp ?_ | with_reducible refine condB (fun h => ?_) (fun h => ?_)))
        all_goals rfl
      | true =>
        have hop : kind = 1 ∨ kind = 2 ∨ kind = 3 ∨ kind = 4 ∨ kind = 5 ∨ kind = 6 ∨ kind = 7 ∨ kind = 8 ∨ kind = 9 ∨ kind = 10 ∨ kind = 11 := by
          unfold isK at hk; simp only [decide_eq_true_eq] at hk; omega
        rw [hk] at qp ho
        clear hk
        simp only [ownD, hw1, hw2, Bool.true_and] at ho
        cases hown : ((hasN kind == w1) && ((hasN kind || name == []) && ((hasL kind == w2) && ((hasL kind || loc == []) && (decide ((exprs.length : Int) = hX kind) && ((hT kind || decide (thn.length = 0)) && ((hasE kind || decide (els.length = 0)) && (if hasO kind then decide (1 ≤ order ∧ order ≤ 6) else order == 0)))))))) with
        | false =>
          rw [hown] at ho
          rw [hfalse (by rw [hr, ho]; rfl)]
          clear hr ho hat hfalse hw1 hw2
          rcases hop with rfl | rfl | rfl | rfl | rfl | rfl | rfl | rfl | rfl | rfl | rfl
          all_goals (as_aux_lemma => (
            repeat' ((conv => whnf); first | (with_reducible refine exI (qp _) ?_) | (with_reducible refine exI (qn _) ?_) | (with_reducible refine exI (ql _) ?_) | (with_reducible refine ixJ i rfl ?_ ?_; (focus (omega))) | (refine exI hx ?_) | (first | refine stp ?_ | with_reducible refine condB (fun h => ?_) (fun h => ?_)))
            all_goals (first | rfl | (exfalso; clear qp qn ql qt qe q2 hO hx; simp_all [hasN, hasL, hasO, hX, hasX, hT, hasT, hasE, isK]; done) | (exfalso; clear qp qn ql qt qe q2 hO hx; simp_all [hasN, hasL, hasO, hX, hasX, hT, hasT, hasE, isK]; omega))))
        | true =>
          rw [hown] at ho
          rw [ho, Bool.true_and] at hr
          simp only [Bool.and_eq_true, beq_iff_eq, Bool.or_eq_true, decide_eq_true_eq] at hown
          obtain ⟨f1, f2, f3, f4, f5, f6, f7, f8⟩ := hown
          have g5 : ((exprs.length : Int) != hX kind) = false := by rw [f5]; simp
          have g6 : hT kind = false → decide ((thn.length : Int) > 0) = false := fun h => by rw [h] at f6; simpa using f6
          have g7 : hasE kind = false → decide ((els.length : Int) > 0) = false := fun h => by rw [h] at f7; simpa using f7
          have g8 : hasO kind = true → decide (order < 1) = false ∧ decide (order > 6) = false := fun h => by rw [h] at f8; simp at f8 ⊢; omega
          have g9 : hasO kind = false → (order != 0) = false := fun h => by rw [h] at f8; simpa using f8
          have f2' : hasN kind = false → name = [] := fun h => by rw [h] at f2; simpa using f2
          have f4' : hasL kind = false → loc = [] := fun h => by rw [h] at f4; simpa using f4
          subst f1; subst f3
          have hle := sizeL_len exprs
          have hf2 := hfalse
          clear f2 f4 f5 f6 f7 f8 hw1 hw2 ho hfalse
          rcases hop with rfl | rfl | rfl | rfl | rfl | rfl | rfl | rfl | rfl | rfl | rfl
          all_goals (try (obtain rfl := f2' rfl))
          all_goals (try (obtain rfl := f4' rfl))
          all_goals (try (replace g6 := g6 rfl))
          all_goals (try (replace g7 := g7 rfl))
          all_goals (try (obtain ⟨g81, g82⟩ := g8 rfl))
          all_goals (try (replace g9 := g9 rfl))
          all_goals (generalize rightSL thn = rt at *; generalize rightSL els = re at *)
          all_goals (as_aux_lemma => (
            repeat' ((conv => whnf); first | (with_reducible refine exI (qp _) ?_) | (with_reducible refine exI (qn _) ?_) | (with_reducible refine exI (ql _) ?_) | (with_reducible refine exI (qt _) ?_) | (with_reducible refine exI (qe _) ?_) | (with_reducible refine ixJ i rfl ?_ ?_; (focus (omega))) | (refine exI hx ?_) | (first | refine stp ?_ | with_reducible refine condB (fun h => ?_) (fun h => ?_)))
            all_goals (first | (rw [hf2 (by rw [hr, show rt = false from by simpa using ‹(!rt) = true›]; simp)]; rfl) | (rw [hf2 (by rw [hr, show re = false from by simpa using ‹(!re) = true›]; simp)]; rfl) | skip)
            all_goals (rw [show rt = true from by simpa using ‹(!rt) = false›, show re = true from by simpa using ‹(!re) = false›, Bool.and_true, Bool.and_true] at hr)
            all_goals (conv => whnf)
            all_goals (refine ⟨Nat, (fun k => k ≤ exprs.length ∧ rightL (exprs.take k) = true), (fun k => [(0, .rs l.length 7 (stC l)), (3, .int .i64 i), (4, .ptr 0 0), (7, .int .i64 k)]), (fun _ => [⟨true, 0, 0, .cells [.int .i64 _, .str _, .str _, .int .i64 order, .rs exprs.length 4 (exC exprs), .rs thn.length 7 (stC thn), .rs els.length 7 (stC els)] 49⟩]), (fun k => exprs.length - k), ⟨0, ⟨Nat.zero_le _, by simp only [List.take_zero, rightL]⟩, FgL.mk [0] rfl ?_ ⟨⟨rfl, rfl, rfl, rfl, BodyGe.pre (rest := []) rfl rfl⟩, trivial⟩ rfl⟩, ?_⟩)
            all_goals (first | ((repeat (first | exact trivial | refine stw ?_)); done) | skip)
            all_goals (
              rintro k ⟨hk, hkall⟩
              dsimp only
              by_cases hkt : k < exprs.length
              · have e2 : decide ((k : Int) < (exprs.length : Int)) = true := by simpa using hkt
                have hy := ex4 exprs k hkt
                have htk := rightL_take exprs k hkt
                have hgf := fun h => rightL_get (l := exprs) hkt h
                rw [hkall, Bool.true_and] at htk
                have qk := q2 exprs[k] (okL_get k6 _ (get_mem hkt))
                cases hrk : rightE exprs[k] with
                | true =>
                  rw [hrk] at qk htk
                  generalize exprs[k] = y at *
                  repeat' ((conv => whnf); first | (with_reducible refine exI (qk _) ?_) | (with_reducible refine ixJ k rfl ?_ ?_; (focus (omega))) | (refine exI hy ?_) | (first | refine stp ?_ | with_reducible refine condB (fun h => ?_) (fun h => ?_)))
                  conv => whnf
                  refine ⟨k + 1, ⟨hkt, htk⟩, by show exprs.length - (k + 1) < exprs.length - k; omega, FgL.mk [0] rfl ?_ ⟨⟨rfl, rfl, rfl, rfl, BodyGe.pre (rest := []) rfl rfl⟩, trivial⟩ rfl⟩
                  (repeat (first | exact trivial | refine stw ?_))
                | false =>
                  have hfx := hgf hrk
                  rw [hrk] at qk
                  rw [hf2 (by rw [hr, hfx])]
                  generalize exprs[k] = y at *
                  repeat' ((conv => whnf); first | (with_reducible refine exI (qk _) ?_) | (with_reducible refine ixJ k rfl ?_ ?_; (focus (omega))) | (refine exI hy ?_) | (first | refine stp ?_ | with_reducible refine condB (fun h => ?_) (fun h => ?_)))
                  all_goals rfl
              · have e2 : decide ((k : Int) < (exprs.length : Int)) = false := by simpa using hkt
                have hk2 : k = exprs.length := by have := hk; omega
                subst hk2
                rw [List.take_length] at hkall
                rw [hkall] at hr
                repeat' ((conv => whnf); first | (with_reducible refine ixJ i rfl ?_ ?_; (focus (omega))) | (first | refine stp ?_ | with_reducible refine condB (fun h => ?_) (fun h => ?_)))
                conv => whnf
                refine ⟨i + 1, ⟨hlt, by rw [hat, hr]⟩, by show l.length - (i + 1) < l.length - i; omega, FgL.mk0 rfl ?_⟩
                (repeat (first | exact trivial | refine stw ?_)))))
    · have e1 : decide ((i : Int) < (l.length : Int)) = false := by simpa using hlt
      have hi2 : i = l.length := by have := hi; omega
      subst hi2
      rw [List.take_length] at hall
      rw [hall]
      repeat' ((conv => whnf); first | refine stp ?_ | with_reducible refine condB (fun h => ?_) (fun h => ?_))
      all_goals rfl
end Go.Proofs.YtkkfcfjhhdmamaaGreatDoor.lex
end


section

set_option linter.unusedVariables false
set_option linter.unusedSimpArgs false
namespace Go.Proofs.YtkkfcfjhhdmamaaGreatDoor.lex
open Go.Abs Go.RowKit
set_option maxRecDepth 100000
set_option maxHeartbeats 4000000
variable {gl : Glob}
def dcB (d : Dc) : Bool := wordB d.name && decide (0 ≤ d.val)
def rightTL : List (List St) → Bool
  | [] => true
  | l :: t => rightSL l && rightTL t
def checkP (p : Pr) : Int := if 2000 < sizeTL p.threads ∨ 32 < deepTL p.threads then 3 else if p.decls.all dcB && rightTL p.threads then 0 else 2
theorem rightTL_take : ∀ (l : List (List St)) (i : Nat) (h : i < l.length), rightTL (l.take (i + 1)) = (rightTL (l.take i) && rightSL l[i])
  | e :: l, 0, h => by simp only [List.take_succ_cons, List.take_zero, rightTL, List.getElem_cons_zero, Bool.and_true, Bool.true_and]
  | e :: l, i + 1, h => by
    have := rightTL_take l i (by simpa using h)
    simp only [List.take_succ_cons, rightTL, List.getElem_cons_succ] at this ⊢; rw [this, Bool.and_assoc]
theorem rightTL_get : ∀ {l : List (List St)} {i : Nat} (h : i < l.length), rightSL l[i] = false → rightTL l = false
  | e :: l, 0, h, h2 => by simp only [List.getElem_cons_zero] at h2; simp only [rightTL, h2, Bool.false_and]
  | e :: l, i + 1, h, h2 => by simp only [List.getElem_cons_succ] at h2; simp only [rightTL, rightTL_get (l := l) (by simpa using h) h2, Bool.and_false]
theorem all_take {α : Type} (f : α → Bool) : ∀ (l : List α) (i : Nat) (h : i < l.length), (l.take (i + 1)).all f = ((l.take i).all f && f l[i])
  | e :: l, 0, h => by simp
  | e :: l, i + 1, h => by
    have := all_take f l i (by simpa using h)
    simp only [List.take_succ_cons, List.all_cons, List.getElem_cons_succ] at this ⊢; rw [this, Bool.and_assoc]
theorem all_get {α : Type} (f : α → Bool) {l : List α} {i : Nat} (h : i < l.length) (h2 : f l[i] = false) : l.all f = false := by
  rw [List.all_eq_false]; exact ⟨_, get_mem h, by simp [h2]⟩
def famTL {g : Nat} (hb : hasBody Tryz.prog g = true) (r : List St → AV) (ts : List (List St)) (each : ∀ x ∈ ts, ValOK Tryz.prog gl g [stA x] (r x)) : Fam Tryz.prog gl := famSL hb r (fun x => x ∈ ts) each
theorem deepTL_size : ∀ (t : List (List St)), deepTL t ≤ sizeTL t
  | [] => Nat.le_refl _
  | e :: t => by have := deepSL_size e; have := deepTL_size t; simp only [deepTL, sizeTL]; omega
theorem sizePR_ok (p : Pr) (hl : p.threads.length ≤ 9223372036854775807) (hs : sizeTL p.threads ≤ 1048576) : ValOK Tryz.prog gl 37 [p.av] (.int .i64 (sizeTL p.threads)) := by
  obtain ⟨ds, ts⟩ := p
  simp only [Pr.av] at *
  obtain ⟨O, hO, p1, -⟩ := fams (P := Tryz.prog) (gl := gl) [famTL (g := 73) (by kernel_rfl) (fun x => .int .i64 (sizeSL x)) ts (fun x hx => sizesR_ok _ x (Nat.le_refl _) (by have := sizeTL_mem _ _ hx; omega))] rfl
  have q1 : ∀ x ∈ ts, ∀ H, acall Tryz.prog O H 73 [stA x] = some (.int .i64 (sizeSL x), H) := p1
  clear p1
  refine fn_val follows noNum hO Tryz.func37 rfl ?_
  repeat' ((conv => whnf); first | refine stp ?_ | with_reducible refine condB (fun h => ?_) (fun h => ?_))
  conv => whnf
  refine ⟨Nat, (fun i => i ≤ ts.length), (fun i => [(1, .ptr 0 0), (3, .int .i64 (sizeTL (ts.take i) : Nat)), (4, .int .i64 i)]), (fun _ => [⟨true, 0, 0, .cells [.rs ds.length 3 (dcC ds), .rs ts.length 1 (ts.map stA)] 25⟩]), (fun i => ts.length - i), ⟨0, Nat.zero_le _, FgL.mk [0] rfl ?_ ⟨⟨rfl, rfl, rfl, rfl, BodyGe.pre (rest := []) rfl rfl⟩, trivial⟩ rfl⟩, ?_⟩
  · simp only [List.take_zero, sizeTL]; (repeat (first | exact trivial | refine stw ?_))
  intro i hi
  dsimp only
  by_cases hlt : i < ts.length
  · have e1 : decide ((i : Int) < (ts.length : Int)) = true := by simpa using hlt
    have hst := sizeTL_take ts i hlt
    have hle := sizeTL_le ts i hlt
    have hx := th1 ts i hlt
    have q2 := q1 ts[i] (get_mem hlt)
    generalize ts[i] = l at *
    simp only [stA] at hx q2
    repeat' ((conv => whnf); first | (with_reducible refine exI (q2 _) ?_) | (with_reducible refine ixJ i rfl ?_ ?_; (focus (omega))) | (refine exI hx ?_) | (first | refine stp ?_ | with_reducible refine condB (fun h => ?_) (fun h => ?_)))
    conv => whnf
    refine ⟨i + 1, hlt, by show ts.length - (i + 1) < ts.length - i; omega, FgL.mk [0] rfl ?_ ⟨⟨rfl, rfl, rfl, rfl, BodyGe.pre (rest := []) rfl rfl⟩, trivial⟩ rfl⟩
    rw [hst]; (repeat (first | exact trivial | refine stw ?_))
  · have e1 : decide ((i : Int) < (ts.length : Int)) = false := by simpa using hlt
    have hi2 : i = ts.length := by have := hi; omega
    subst hi2
    rw [List.take_length]
    repeat' ((conv => whnf); first | refine stp ?_ | with_reducible refine condB (fun h => ?_) (fun h => ?_))
    all_goals rfl
theorem deepPR_ok (p : Pr) (hl : p.threads.length ≤ 9223372036854775807) (hs : sizeTL p.threads ≤ 1048576) : ValOK Tryz.prog gl 38 [p.av] (.int .i64 (deepTL p.threads)) := by
  obtain ⟨ds, ts⟩ := p
  simp only [Pr.av] at *
  obtain ⟨O, hO, p1, -⟩ := fams (P := Tryz.prog) (gl := gl) [famTL (g := 74) (by kernel_rfl) (fun x => .int .i64 (deepSL x)) ts (fun x hx => deepsR_ok _ x (Nat.le_refl _) (by have := sizeTL_mem _ _ hx; omega))] rfl
  have q1 : ∀ x ∈ ts, ∀ H, acall Tryz.prog O H 74 [stA x] = some (.int .i64 (deepSL x), H) := p1
  clear p1
  refine fn_val follows noNum hO Tryz.func38 rfl ?_
  repeat' ((conv => whnf); first | refine stp ?_ | with_reducible refine condB (fun h => ?_) (fun h => ?_))
  conv => whnf
  refine ⟨Nat, (fun i => i ≤ ts.length), (fun i => [(1, .ptr 0 0), (3, .int .i64 (deepTL (ts.take i) : Nat)), (4, .int .i64 i)]), (fun _ => [⟨true, 0, 0, .cells [.rs ds.length 3 (dcC ds), .rs ts.length 1 (ts.map stA)] 25⟩]), (fun i => ts.length - i), ⟨0, Nat.zero_le _, FgL.mk [0] rfl ?_ ⟨⟨rfl, rfl, rfl, rfl, BodyGe.pre (rest := []) rfl rfl⟩, trivial⟩ rfl⟩, ?_⟩
  · simp only [List.take_zero, deepTL]; (repeat (first | exact trivial | refine stw ?_))
  intro i hi
  dsimp only
  by_cases hlt : i < ts.length
  · have e1 : decide ((i : Int) < (ts.length : Int)) = true := by simpa using hlt
    have hst := deepTL_take ts i hlt
    have hx := th1 ts i hlt
    have q2 := q1 ts[i] (get_mem hlt)
    generalize ts[i] = l at *
    simp only [stA] at hx q2
    repeat' ((conv => whnf); first | (with_reducible refine exI (q2 _) ?_) | (with_reducible refine ixJ i rfl ?_ ?_; (focus (omega))) | (refine exI hx ?_) | (first | refine stp ?_ | with_reducible refine condB (fun h => ?_) (fun h => ?_)))
    conv => whnf
    refine ⟨i + 1, hlt, by show ts.length - (i + 1) < ts.length - i; omega, FgL.mk [0] rfl ?_ ⟨⟨rfl, rfl, rfl, rfl, BodyGe.pre (rest := []) rfl rfl⟩, trivial⟩ rfl⟩
    refine And.intro (Wk.ptr rfl rfl) ?_
    refine And.intro (Wk.int ?_) ?_
    · rw [hst]; split <;> omega
    exact ⟨Wk.int rfl, trivial⟩
  · have e1 : decide ((i : Int) < (ts.length : Int)) = false := by simpa using hlt
    have hi2 : i = ts.length := by have := hi; omega
    subst hi2
    rw [List.take_length]
    repeat' ((conv => whnf); first | refine stp ?_ | with_reducible refine condB (fun h => ?_) (fun h => ?_))
    all_goals rfl
theorem checkPR_ok (p : Pr) (hok : okP p) (hs : sizeTL p.threads ≤ 1048576) : ValOK Tryz.prog gl 10 [p.av] (.int .i64 (checkP p)) := by
  obtain ⟨⟨hd1, hd2⟩, ht1, ht2⟩ := hok
  have hdp := deepTL_size p.threads
  obtain ⟨O, hO, p1, p2, p3, p4, -⟩ := fams (P := Tryz.prog) (gl := gl) [{ I := Unit, f := 37, G := fun _ => True, A := fun _ => [p.av], R := fun _ => .int .i64 (sizeTL p.threads), body := (by kernel_rfl), inj := (fun _ _ _ _ _ => rfl), ok := (fun _ _ => ⟨rfl, sizePR_ok p ht2 hs⟩) },
    { I := Unit, f := 38, G := fun _ => True, A := fun _ => [p.av], R := fun _ => .int .i64 (deepTL p.threads), body := (by kernel_rfl), inj := (fun _ _ _ _ _ => rfl), ok := (fun _ _ => ⟨rfl, deepPR_ok p ht2 hs⟩) },
    famTL (g := 40) (by kernel_rfl) (fun x => .bool (rightSL x)) p.threads (fun x hx => rights_ok _ x (Nat.le_refl _) (okTL_get ht1 _ hx).1 (by have := sizeTL_mem _ _ hx; omega)),
    { I := List UInt8, f := 39, G := fun s => s.length ≤ 9223372036854775807, A := fun s => [.str s], R := fun s => .bool (wordB s), body := (by kernel_rfl), inj := (fun i j _ _ h => by simp only [List.cons.injEq, AV.str.injEq, and_true] at h; rw [h]), ok := (fun s hs => ⟨rfl, wordRef_ok s hs⟩) }] rfl
  have q1 : ∀ H, acall Tryz.prog O H 37 [p.av] = some (.int .i64 (sizeTL p.threads), H) := p1 () trivial
  have q2 : ∀ H, acall Tryz.prog O H 38 [p.av] = some (.int .i64 (deepTL p.threads), H) := p2 () trivial
  have q3 : ∀ x ∈ p.threads, ∀ H, acall Tryz.prog O H 40 [stA x] = some (.bool (rightSL x), H) := p3
  have q4 : ∀ s, s.length ≤ 9223372036854775807 → ∀ H, acall Tryz.prog O H 39 [.str s] = some (.bool (wordB s), H) := p4
  clear p1 p2 p3 p4
  unfold checkP
  obtain ⟨ds, ts⟩ := p
  simp only [Pr.av] at *
  generalize sizeTL ts = sz at *
  generalize deepTL ts = dp at *
  refine fn_val follows noNum hO Tryz.func10 rfl ?_
  by_cases hlong : 2000 < sz ∨ 32 < dp
  · rw [if_pos hlong]
    by_cases h1 : 2000 < sz
    · have e1 : decide ((sz : Int) > 2000) = true := by simp only [decide_eq_true_eq]; omega
      repeat' ((conv => whnf); first | (with_reducible refine exI (q1 _) ?_) | (with_reducible refine exI (q2 _) ?_) | (first | refine stp ?_ | with_reducible refine condB (fun h => ?_) (fun h => ?_)))
      all_goals rfl
    · have e1 : decide ((sz : Int) > 2000) = false := by simp only [decide_eq_false_iff_not]; omega
      have e2 : decide ((dp : Int) > 32) = true := by simp only [decide_eq_true_eq]; omega
      repeat' ((conv => whnf); first | (with_reducible refine exI (q1 _) ?_) | (with_reducible refine exI (q2 _) ?_) | (first | refine stp ?_ | with_reducible refine condB (fun h => ?_) (fun h => ?_)))
      all_goals rfl
  rw [if_neg hlong]
  have e1 : decide ((sz : Int) > 2000) = false := by simp only [decide_eq_false_iff_not]; omega
  have e2 : decide ((dp : Int) > 32) = false := by simp only [decide_eq_false_iff_not]; omega
  repeat' ((conv => whnf); first | (with_reducible refine exI (q1 _) ?_) | (with_reducible refine exI (q2 _) ?_) | (first | refine stp ?_ | with_reducible refine condB (fun h => ?_) (fun h => ?_)))
  conv => whnf
  refine ⟨Nat, (fun i => i ≤ ds.length ∧ (ds.take i).all dcB = true), (fun i => [(1, .ptr 0 0), (3, .int .i64 i)]), (fun _ => [⟨true, 0, 0, .cells [.rs ds.length 3 (dcC ds), .rs ts.length 1 (ts.map stA)] 25⟩]), (fun i => ds.length - i), ⟨0, ⟨Nat.zero_le _, rfl⟩, FgL.mk [0] rfl ?_ ⟨⟨rfl, rfl, rfl, rfl, BodyGe.pre (rest := []) rfl rfl⟩, trivial⟩ rfl⟩, ?_⟩
  · (repeat (first | exact trivial | refine stw ?_))
  rintro i ⟨hi, hall⟩
  dsimp only
  by_cases hlt : i < ds.length
  · have e1 : decide ((i : Int) < (ds.length : Int)) = true := by simpa using hlt
    have hat := all_take dcB ds i hlt
    rw [hall, Bool.true_and] at hat
    have hfalse : dcB ds[i] = false → ds.all dcB = false := all_get dcB hlt
    have hxn := dcn ds i hlt
    have hxv := dcv ds i hlt
    have qn := q4 ds[i].name (hd2 _ (get_mem hlt))
    generalize hd : ds[i] = d at *
    obtain ⟨nm, pl, vl⟩ := d
    simp only [dcB] at hat hfalse hxn hxv qn
    generalize wordB nm = w at *
    by_cases hv : 0 ≤ vl
    · have e3 : decide (vl < 0) = false := by simpa using hv
      rw [show decide (0 ≤ vl) = true from by simpa using hv, Bool.and_true] at hat hfalse
      cases w with
      | true =>
        repeat' ((conv => whnf); first | (with_reducible refine exI (qn _) ?_) | (with_reducible refine ixJ i rfl ?_ ?_; (focus (omega))) | (refine exI hxn ?_) | (refine exI hxv ?_) | (first | refine stp ?_ | with_reducible refine condB (fun h => ?_) (fun h => ?_)))
        conv => whnf
        refine ⟨i + 1, ⟨hlt, hat⟩, by show ds.length - (i + 1) < ds.length - i; omega, FgL.mk [0] rfl ?_ ⟨⟨rfl, rfl, rfl, rfl, BodyGe.pre (rest := []) rfl rfl⟩, trivial⟩ rfl⟩
        (repeat (first | exact trivial | refine stw ?_))
      | false =>
        rw [hfalse rfl]
        repeat' ((conv => whnf); first | (with_reducible refine exI (qn _) ?_) | (with_reducible refine ixJ i rfl ?_ ?_; (focus (omega))) | (refine exI hxn ?_) | (refine exI hxv ?_) | (first | refine stp ?_ | with_reducible refine condB (fun h => ?_) (fun h => ?_)))
        all_goals rfl
    · have e3 : decide (vl < 0) = true := by simp only [decide_eq_true_eq]; omega
      rw [show decide (0 ≤ vl) = false from by simpa using hv, Bool.and_false] at hat hfalse
      rw [hfalse rfl]
      cases w
      all_goals (repeat' ((conv => whnf); first | (with_reducible refine exI (qn _) ?_) | (with_reducible refine ixJ i rfl ?_ ?_; (focus (omega))) | (refine exI hxn ?_) | (refine exI hxv ?_) | (first | refine stp ?_ | with_reducible refine condB (fun h => ?_) (fun h => ?_))))
      all_goals rfl
  · have e1 : decide ((i : Int) < (ds.length : Int)) = false := by simpa using hlt
    have hi2 : i = ds.length := by have := hi; omega
    subst hi2
    rw [List.take_length] at hall
    rw [hall, Bool.true_and]
    repeat' ((conv => whnf); first | refine stp ?_ | with_reducible refine condB (fun h => ?_) (fun h => ?_))
    conv => whnf
    refine ⟨Nat, (fun i => i ≤ ts.length ∧ rightTL (ts.take i) = true), (fun i => [(1, .ptr 0 0), (4, .int .i64 i)]), (fun _ => [⟨true, 0, 0, .cells [.rs ds.length 3 (dcC ds), .rs ts.length 1 (ts.map stA)] 25⟩]), (fun i => ts.length - i), ⟨0, ⟨Nat.zero_le _, rfl⟩, FgL.mk [0] rfl ?_ ⟨⟨rfl, rfl, rfl, rfl, BodyGe.pre (rest := []) rfl rfl⟩, trivial⟩ rfl⟩, ?_⟩
    · (repeat (first | exact trivial | refine stw ?_))
    rintro i ⟨hi, hrl⟩
    dsimp only
    by_cases hlt : i < ts.length
    · have e1 : decide ((i : Int) < (ts.length : Int)) = true := by simpa using hlt
      have hat := rightTL_take ts i hlt
      rw [hrl, Bool.true_and] at hat
      have hfalse : rightSL ts[i] = false → rightTL ts = false := rightTL_get hlt
      have hx := th1 ts i hlt
      have qr := q3 ts[i] (get_mem hlt)
      generalize ts[i] = l at *
      simp only [stA] at hx qr
      cases hr : rightSL l with
      | true =>
        rw [hr] at hat qr
        repeat' ((conv => whnf); first | (with_reducible refine exI (qr _) ?_) | (with_reducible refine ixJ i rfl ?_ ?_; (focus (omega))) | (refine exI hx ?_) | (first | refine stp ?_ | with_reducible refine condB (fun h => ?_) (fun h => ?_)))
        conv => whnf
        refine ⟨i + 1, ⟨hlt, hat⟩, by show ts.length - (i + 1) < ts.length - i; omega, FgL.mk [0] rfl ?_ ⟨⟨rfl, rfl, rfl, rfl, BodyGe.pre (rest := []) rfl rfl⟩, trivial⟩ rfl⟩
        (repeat (first | exact trivial | refine stw ?_))
      | false =>
        rw [hr] at qr
        rw [hfalse hr]
        repeat' ((conv => whnf); first | (with_reducible refine exI (qr _) ?_) | (with_reducible refine ixJ i rfl ?_ ?_; (focus (omega))) | (refine exI hx ?_) | (first | refine stp ?_ | with_reducible refine condB (fun h => ?_) (fun h => ?_)))
        all_goals rfl
    · have e1 : decide ((i : Int) < (ts.length : Int)) = false := by simpa using hlt
      have hi2 : i = ts.length := by have := hi; omega
      subst hi2
      rw [List.take_length] at hrl
      rw [hrl]
      repeat' ((conv => whnf); first | refine stp ?_ | with_reducible refine condB (fun h => ?_) (fun h => ?_))
      all_goals rfl
end Go.Proofs.YtkkfcfjhhdmamaaGreatDoor.lex
end


section

set_option linter.unusedVariables false
set_option linter.unusedSimpArgs false
namespace Go.Proofs.YtkkfcfjhhdmamaaGreatDoor.lex
open Go.Abs Go.RowKit
set_option maxRecDepth 100000
set_option maxHeartbeats 4000000
variable {gl : Glob}
def ifp (l : Int) (f : Int → Int) : Int := if 0 ≤ l then f l else l
mutual
def heftS : St → Int → Int
  | .mk _ n lc _ x t e, l => ifp (ifp (heftL x (l - 1 - (n.length / 20 : Nat) - (lc.length / 20 : Nat))) (heftSL t)) (heftSL e)
def heftSL : List St → Int → Int
  | [], l => l
  | x :: k, l => if 0 ≤ l then heftSL k (heftS x l) else l
end
theorem heftS_eq : ∀ (x : St) (l : Int), heftS x l = ifp (ifp (heftL x.exprs (l - 1 - (x.name.length / 20 : Nat) - (x.loc.length / 20 : Nat))) (heftSL x.thn)) (heftSL x.els)
  | .mk _ _ _ _ _ _ _, l => by simp only [heftS, St.exprs, St.name, St.loc, St.thn, St.els]
mutual
theorem heftS_size : ∀ (x : St) (l : Int), 0 ≤ heftS x l → (sizeS x : Int) + heftS x l ≤ l
  | .mk _ n lc _ x t e, l, h => by
    simp only [heftS, sizeS, ifp] at *
    generalize hl1 : l - 1 - ((n.length / 20 : Nat) : Int) - ((lc.length / 20 : Nat) : Int) = l1 at *
    have hx := heftL_size x l1
    have ht := heftSL_size t (heftL x l1)
    by_cases h1 : 0 ≤ heftL x l1
    · simp only [if_pos h1] at *
      have he := heftSL_size e (heftSL t (heftL x l1))
      by_cases h2 : 0 ≤ heftSL t (heftL x l1)
      · simp only [if_pos h2] at *
        have := hx h1; have := ht h2; have := he h; omega
      · simp only [if_neg h2] at *; omega
    · simp only [if_neg h1] at *; omega
theorem heftSL_size : ∀ (k : List St) (l : Int), 0 ≤ heftSL k l → (sizeSL k : Int) + heftSL k l ≤ l
  | [], l, h => by simp only [heftSL, sizeSL] at *; omega
  | x :: k, l, h => by
    simp only [heftSL, sizeSL] at *
    split at h
    · rename_i hl
      rw [if_pos hl]
      have h1 := heftSL_size k _ h
      have h2 : 0 ≤ heftS x l := by omega
      have h3 := heftS_size x l h2
      omega
    · omega
end
theorem ifp_le {l : Int} {f : Int → Int} (h : ∀ m, f m ≤ m) : ifp l f ≤ l := by
  unfold ifp; split
  · exact h l
  · exact Int.le_refl _
mutual
theorem heftS_le : ∀ (x : St) (l : Int), heftS x l ≤ l
  | .mk _ n lc _ x t e, l => by
    simp only [heftS]
    have h1 := heftL_le x (l - 1 - ((n.length / 20 : Nat) : Int) - ((lc.length / 20 : Nat) : Int))
    have h2 := ifp_le (l := heftL x (l - 1 - ((n.length / 20 : Nat) : Int) - ((lc.length / 20 : Nat) : Int))) (heftSL_le t)
    have h3 := ifp_le (l := ifp (heftL x (l - 1 - ((n.length / 20 : Nat) : Int) - ((lc.length / 20 : Nat) : Int))) (heftSL t)) (heftSL_le e)
    omega
theorem heftSL_le : ∀ (k : List St) (l : Int), heftSL k l ≤ l
  | [], l => by simp only [heftSL]; omega
  | x :: k, l => by
    simp only [heftSL]
    split
    · have := heftSL_le k (heftS x l); have := heftS_le x l; omega
    · omega
end
theorem heftSL_at : ∀ (k : List St) (l : Int) (i : Nat) (h : i < k.length), heftSL (k.take (i + 1)) l = if 0 ≤ heftSL (k.take i) l then heftS k[i] (heftSL (k.take i) l) else heftSL (k.take i) l
  | e :: k, l, 0, h => by simp only [List.take_succ_cons, List.take_zero, heftSL, List.getElem_cons_zero]
  | e :: k, l, i + 1, h => by
    have ih := fun l => heftSL_at k l i (by simpa using h)
    simp only [List.take_succ_cons, heftSL, List.getElem_cons_succ] at ih ⊢
    split
    · exact ih _
    · rename_i h2; simp [h2]
theorem heftSL_stop : ∀ (k : List St) (l : Int) (i : Nat), heftSL (k.take i) l < 0 → heftSL k l = heftSL (k.take i) l
  | [], l, i, h => by simp [heftSL]
  | e :: k, l, 0, h => by
    simp only [List.take_zero, heftSL] at *
    rw [if_neg (by omega)]
  | e :: k, l, i + 1, h => by
    simp only [List.take_succ_cons, heftSL] at *
    split
    · rename_i hl
      rw [if_pos hl] at h
      exact heftSL_stop k _ i h
    · rfl
theorem cell_l (s : St) (rest : List AV) : tk 1 ((s.cells ++ rest).drop 2) = some [.str s.loc] := by
  obtain ⟨k, n, l, o, x, t, e⟩ := s
  simp only [St.cells, St.loc]; rfl
theorem hefts_ok : ∀ (n : Nat) (l : List St) (a : Int), sizeSL l ≤ n → okSL l → l.length ≤ 9223372036854775807 → 0 ≤ a → a ≤ 1048576 → ValOK Tryz.prog gl 30 [stA l, .int .i64 a] (.int .i64 (heftSL l a))
  | n, l, a, h, hok, hl, ha0, ha1 => by
    obtain ⟨O, hO, p1, p2, -⟩ := fams (P := Tryz.prog) (gl := gl) [{ I := List St × Int, f := 30, G := fun p => sizeSL p.1 < n ∧ okSL p.1 ∧ p.1.length ≤ 9223372036854775807 ∧ 0 ≤ p.2 ∧ p.2 ≤ 1048576, A := fun p => [stA p.1, .int .i64 p.2], R := fun p => .int .i64 (heftSL p.1 p.2), body := (by kernel_rfl), inj := (fun i j _ _ h => by simp only [List.cons.injEq, AV.int.injEq, and_true, true_and] at h; rw [stA_inj h.1, h.2]), ok := (fun p hp => ⟨rfl, match n, hp.1 with | n + 1, h => hefts_ok n p.1 p.2 (by omega) hp.2.1 hp.2.2.1 hp.2.2.2.1 hp.2.2.2.2⟩) },
      { I := Ex × Int, f := 31, G := fun p => okE p.1 ∧ 0 ≤ p.2 ∧ p.2 ≤ 1048576, A := fun p => [.agg p.1.cells, .int .i64 p.2], R := fun p => .int .i64 (heftE p.1 p.2), body := (by kernel_rfl), inj := (fun i j _ _ h => by simp only [List.cons.injEq, AV.agg.injEq, AV.int.injEq, and_true, true_and] at h; rw [cells_inj _ _ h.1, h.2]), ok := (fun p hp => ⟨by have := ex_refs p.1; simpa [refsL, refs] using this, heft_ok _ p.1 p.2 (Nat.le_refl _) hp.1 hp.2.1 hp.2.2⟩) }] rfl
    have q1 : ∀ x a, sizeSL x < n → okSL x → x.length ≤ 9223372036854775807 → 0 ≤ a → a ≤ 1048576 → ∀ H, acall Tryz.prog O H 30 [stA x, .int .i64 a] = some (.int .i64 (heftSL x a), H) := fun x a h1 h2 h3 h4 h5 => p1 (x, a) ⟨h1, h2, h3, h4, h5⟩
    have q2 : ∀ k a, okE k → 0 ≤ a → a ≤ 1048576 → ∀ H, acall Tryz.prog O H 31 [.agg k.cells, .int .i64 a] = some (.int .i64 (heftE k a), H) := fun k a h1 h2 h3 => p2 (k, a) ⟨h1, h2, h3⟩
    clear p1 p2
    simp only [stA] at q1 ⊢
    refine fn_val follows noNum hO Tryz.func30 rfl ?_
    repeat' ((conv => whnf); first | refine stp ?_ | with_reducible refine condB (fun h => ?_) (fun h => ?_))
    conv => whnf
    refine ⟨Nat, (fun i => i ≤ l.length), (fun i => [(0, .rs l.length 7 (stC l)), (1, .int .i64 (heftSL (l.take i) a)), (5, .int .i64 i)]), (fun _ => []), (fun i => l.length - i), ⟨0, Nat.zero_le _, FgL.mk0 rfl ?_⟩, ?_⟩
    · simp only [List.take_zero, heftSL]; (repeat (first | exact trivial | refine stw ?_))
    intro i hi
    dsimp only
    have hle := heftSL_le (l.take i) a
    by_cases hlt : i < l.length
    · have e1 : decide ((i : Int) < (l.length : Int)) = true := by simpa using hlt
      by_cases hpos : 0 ≤ heftSL (l.take i) a
      · have e2 : decide (heftSL (l.take i) a ≥ 0) = true := by simpa using hpos
        have hs := heftSL_at l a i hlt
        rw [if_pos hpos, heftS_eq] at hs
        have hsz := sizeSL_mem _ _ (get_mem hlt)
        have hse := sizeS_eq l[i]
        have hx1 : tk 1 (((stC l).drop (i * 7)).drop 1) = some [.str l[i].name] := by rw [stC_at l i hlt]; exact cell_n _ _
        have hx2 : tk 1 (((stC l).drop (i * 7)).drop 2) = some [.str l[i].loc] := by rw [stC_at l i hlt]; exact cell_l _ _
        have hx4 : tk 1 (((stC l).drop (i * 7)).drop 4) = some [exA l[i].exprs] := by rw [stC_at l i hlt]; exact cell_x _ _
        have hx5 : tk 1 (((stC l).drop (i * 7)).drop 5) = some [stA l[i].thn] := by rw [stC_at l i hlt]; exact cell_t _ _
        have hx6 : tk 1 (((stC l).drop (i * 7)).drop 6) = some [stA l[i].els] := by rw [stC_at l i hlt]; exact cell_e _ _
        obtain ⟨k1, k2, k3, k4, k5, k6, k7, k8⟩ := okS_parts (okSL_get hok _ (get_mem hlt))
        have qt := fun a => q1 l[i].thn a (by omega) k7 k4
        have qe := fun a => q1 l[i].els a (by omega) k8 k5
        clear q1
        generalize (heftSL (l.take i) a) = b at *
        generalize l[i] = x at *
        obtain ⟨kind, name, loc, order, exprs, thn, els⟩ := x
        simp only [St.name, St.loc, St.exprs, St.thn, St.els, exA, stA] at *
        clear hsz hse
        have q20 : Int.tdiv (name.length : Int) 20 = ((name.length / 20 : Nat) : Int) := rfl
        have q21 : Int.tdiv (loc.length : Int) 20 = ((loc.length / 20 : Nat) : Int) := rfl
        have w1 : IntKind.i64.wrap (b - 1) = b - 1 := wrapB (by omega) (by omega)
        have w2 : IntKind.i64.wrap (Int.tdiv (name.length : Int) 20) = ((name.length / 20 : Nat) : Int) := by rw [q20]; exact wrapB (by omega) (by omega)
        have w2' : IntKind.i64.wrap (Int.tdiv (loc.length : Int) 20) = ((loc.length / 20 : Nat) : Int) := by rw [q21]; exact wrapB (by omega) (by omega)
        have w3 : IntKind.i64.wrap (b - 1 - ((name.length / 20 : Nat) : Int)) = b - 1 - ((name.length / 20 : Nat) : Int) := wrapB (by omega) (by omega)
        have w4 : IntKind.i64.wrap (b - 1 - ((name.length / 20 : Nat) : Int) - ((loc.length / 20 : Nat) : Int)) = b - 1 - ((name.length / 20 : Nat) : Int) - ((loc.length / 20 : Nat) : Int) := wrapB (by omega) (by omega)
        repeat' ((conv => whnf); first | (with_reducible refine exW w1 ?_) | (refine And.intro (show (20 : Int) ≠ 0 by decide) ?_) | (rw [w2]) | (rw [w2']) | (with_reducible refine exW w3 ?_) | (with_reducible refine exW w4 ?_) | (with_reducible refine ixJ i rfl ?_ ?_; (focus (omega))) | (refine exI hx1 ?_) | (refine exI hx2 ?_) | (first | refine stp ?_ | with_reducible refine condB (fun h => ?_) (fun h => ?_)))
        conv => whnf
        have hb0 : b - 1 - ((name.length / 20 : Nat) : Int) - ((loc.length / 20 : Nat) : Int) ≤ 1048576 := by omega
        clear w1 w2 w2' w3 w4
        generalize hl0 : b - 1 - ((name.length / 20 : Nat) : Int) - ((loc.length / 20 : Nat) : Int) = l0 at *
        refine ⟨Nat, (fun k => k ≤ exprs.length), (fun k => [(0, .rs l.length 7 (stC l)), (1, .int .i64 (heftL (exprs.take k) l0)), (5, .int .i64 i), (6, .int .i64 k)]), (fun _ => []), (fun k => exprs.length - k), ⟨0, Nat.zero_le _, FgL.mk0 rfl ?_⟩, ?_⟩
        · simp only [List.take_zero, heftL]; (repeat (first | exact trivial | refine stw ?_))
        intro k hk
        dsimp only
        have hke := heftL_le (exprs.take k) l0
        have fin : ∀ v, heftL exprs l0 = v → ∃ w, True := fun _ _ => ⟨(), trivial⟩
        by_cases hkt : k < exprs.length
        · have e3 : decide ((k : Int) < (exprs.length : Int)) = true := by simpa using hkt
          by_cases hp2 : 0 ≤ heftL (exprs.take k) l0
          · have e4 : decide (heftL (exprs.take k) l0 ≥ 0) = true := by simpa using hp2
            have hy := ex4 exprs k hkt
            have hat := heftL_at exprs l0 k hkt
            rw [if_pos hp2] at hat
            have qk := q2 exprs[k] (heftL (exprs.take k) l0) (okL_get k6 _ (get_mem hkt)) hp2 (by omega)
            generalize exprs[k] = y at *
            repeat' ((conv => whnf); first | (with_reducible refine exI (qk _) ?_) | (with_reducible refine ixJ i rfl ?_ ?_; (focus (omega))) | (with_reducible refine ixJ k rfl ?_ ?_; (focus (omega))) | (refine exI hx4 ?_) | (refine exI hy ?_) | (refine exI (qk _) ?_) | (first | refine stp ?_ | with_reducible refine condB (fun h => ?_) (fun h => ?_)))
            conv => whnf
            refine ⟨k + 1, hkt, by show exprs.length - (k + 1) < exprs.length - k; omega, FgL.mk0 rfl ?_⟩
            rw [hat]; (repeat (first | exact trivial | refine stw ?_))
          · have e4 : decide (heftL (exprs.take k) l0 ≥ 0) = false := by simpa using hp2
            have hst := heftL_stop exprs l0 k (by omega)
            rw [hst] at hs
            simp only [ifp, if_neg hp2] at hs
            repeat' ((conv => whnf); first | (with_reducible refine ixJ i rfl ?_ ?_; (focus (omega))) | (refine exI hx4 ?_) | (first | refine stp ?_ | with_reducible refine condB (fun h => ?_) (fun h => ?_)))
            conv => whnf
            refine ⟨i + 1, hlt, by show l.length - (i + 1) < l.length - i; omega, FgL.mk0 rfl ?_⟩
            rw [hs]; (repeat (first | exact trivial | refine stw ?_))
        · have e3 : decide ((k : Int) < (exprs.length : Int)) = false := by simpa using hkt
          have hk2 : k = exprs.length := by have := hk; omega
          subst hk2
          rw [List.take_length] at hke ⊢
          generalize heftL exprs l0 = l1 at *
          by_cases hp2 : 0 ≤ l1
          · have e4 : decide (l1 ≥ 0) = true := by simpa using hp2
            simp only [ifp, if_pos hp2] at hs
            have qt1 := qt l1 hp2 (by omega)
            have ht1 := heftSL_le thn l1
            generalize heftSL thn l1 = l2 at *
            by_cases hp3 : 0 ≤ l2
            · have e5 : decide (l2 ≥ 0) = true := by simpa using hp3
              simp only [if_pos hp3] at hs
              have qe1 := qe l2 hp3 (by omega)
              generalize heftSL els l2 = l3 at *
              repeat' ((conv => whnf); first | (with_reducible refine ixJ i rfl ?_ ?_; (focus (omega))) | (refine exI hx4 ?_) | (refine exI hx5 ?_) | (refine exI hx6 ?_) | (refine exI (qt1 _) ?_) | (refine exI (qe1 _) ?_) | (first | refine stp ?_ | with_reducible refine condB (fun h => ?_) (fun h => ?_)))
              conv => whnf
              refine ⟨i + 1, hlt, by show l.length - (i + 1) < l.length - i; omega, FgL.mk0 rfl ?_⟩
              rw [hs]; (repeat (first | exact trivial | refine stw ?_))
            · have e5 : decide (l2 ≥ 0) = false := by simpa using hp3
              simp only [if_neg hp3] at hs
              repeat' ((conv => whnf); first | (with_reducible refine ixJ i rfl ?_ ?_; (focus (omega))) | (refine exI hx4 ?_) | (refine exI hx5 ?_) | (refine exI hx6 ?_) | (refine exI (qt1 _) ?_) | (first | refine stp ?_ | with_reducible refine condB (fun h => ?_) (fun h => ?_)))
              conv => whnf
              refine ⟨i + 1, hlt, by show l.length - (i + 1) < l.length - i; omega, FgL.mk0 rfl ?_⟩
              rw [hs]; (repeat (first | exact trivial | refine stw ?_))
          · have e4 : decide (l1 ≥ 0) = false := by simpa using hp2
            simp only [ifp, if_neg hp2] at hs
            repeat' ((conv => whnf); first | (with_reducible refine ixJ i rfl ?_ ?_; (focus (omega))) | (refine exI hx4 ?_) | (first | refine stp ?_ | with_reducible refine condB (fun h => ?_) (fun h => ?_)))
            conv => whnf
            refine ⟨i + 1, hlt, by show l.length - (i + 1) < l.length - i; omega, FgL.mk0 rfl ?_⟩
            rw [hs]; (repeat (first | exact trivial | refine stw ?_))
      · have e2 : decide (heftSL (l.take i) a ≥ 0) = false := by simpa using hpos
        have hst := heftSL_stop l a i (by omega)
        rw [hst]
        repeat' ((conv => whnf); first | refine stp ?_ | with_reducible refine condB (fun h => ?_) (fun h => ?_))
        all_goals rfl
    · have e1 : decide ((i : Int) < (l.length : Int)) = false := by simpa using hlt
      have hi2 : i = l.length := by have := hi; omega
      subst hi2
      rw [List.take_length]
      repeat' ((conv => whnf); first | refine stp ?_ | with_reducible refine condB (fun h => ?_) (fun h => ?_))
      all_goals rfl
end Go.Proofs.YtkkfcfjhhdmamaaGreatDoor.lex
end


section

set_option linter.unusedVariables false
set_option linter.unusedSimpArgs false
namespace Go.Proofs.YtkkfcfjhhdmamaaGreatDoor.lex
open Go.Abs Go.RowKit
set_option maxRecDepth 100000
set_option maxHeartbeats 4000000
variable {gl : Glob}
def heftD : List Dc → Int → Int
  | [], l => l
  | x :: k, l => if 0 ≤ l then heftD k (l - (x.name.length / 20 : Nat)) else l
def heftTL : List (List St) → Int → Int
  | [], l => l
  | x :: k, l => if 0 ≤ l then heftTL k (heftSL x l) else l
def lightP (p : Pr) (m : Int) : Bool := decide (0 ≤ heftTL p.threads (heftD p.decls (m - min (m + 1) (p.decls.length : Int) - min (m + 1) (p.threads.length : Int))))
theorem heftD_le : ∀ (k : List Dc) (l : Int), heftD k l ≤ l
  | [], l => by simp only [heftD]; omega
  | x :: k, l => by
    simp only [heftD]
    split
    · have := heftD_le k (l - (x.name.length / 20 : Nat)); omega
    · omega
theorem heftTL_le : ∀ (k : List (List St)) (l : Int), heftTL k l ≤ l
  | [], l => by simp only [heftTL]; omega
  | x :: k, l => by
    simp only [heftTL]
    split
    · have := heftTL_le k (heftSL x l); have := heftSL_le x l; omega
    · omega
theorem heftTL_size : ∀ (k : List (List St)) (l : Int), 0 ≤ heftTL k l → (sizeTL k : Int) + heftTL k l ≤ l
  | [], l, h => by simp only [heftTL, sizeTL] at *; omega
  | x :: k, l, h => by
    simp only [heftTL, sizeTL] at *
    split at h
    · rename_i hl
      rw [if_pos hl]
      have h1 := heftTL_size k _ h
      have h2 : 0 ≤ heftSL x l := by omega
      have h3 := heftSL_size x l h2
      omega
    · omega
theorem lightP_size (p : Pr) (m : Nat) (h : lightP p m = true) : sizeTL p.threads ≤ m := by
  simp only [lightP, decide_eq_true_eq] at h
  have h1 := heftTL_size _ _ h
  have h2 := heftD_le p.decls ((m : Int) - min ((m : Int) + 1) (p.decls.length : Int) - min ((m : Int) + 1) (p.threads.length : Int))
  omega
theorem heftD_at : ∀ (k : List Dc) (l : Int) (i : Nat) (h : i < k.length), heftD (k.take (i + 1)) l = if 0 ≤ heftD (k.take i) l then heftD (k.take i) l - (k[i].name.length / 20 : Nat) else heftD (k.take i) l
  | e :: k, l, 0, h => by simp only [List.take_succ_cons, List.take_zero, heftD, List.getElem_cons_zero]
  | e :: k, l, i + 1, h => by
    have ih := fun l => heftD_at k l i (by simpa using h)
    simp only [List.take_succ_cons, heftD, List.getElem_cons_succ] at ih ⊢
    split
    · exact ih _
    · rename_i h2; simp [h2]
theorem heftD_stop : ∀ (k : List Dc) (l : Int) (i : Nat), heftD (k.take i) l < 0 → heftD k l = heftD (k.take i) l
  | [], l, i, h => by simp [heftD]
  | e :: k, l, 0, h => by
    simp only [List.take_zero, heftD] at *
    rw [if_neg (by omega)]
  | e :: k, l, i + 1, h => by
    simp only [List.take_succ_cons, heftD] at *
    split
    · rename_i hl
      rw [if_pos hl] at h
      exact heftD_stop k _ i h
    · rfl
theorem heftTL_at : ∀ (k : List (List St)) (l : Int) (i : Nat) (h : i < k.length), heftTL (k.take (i + 1)) l = if 0 ≤ heftTL (k.take i) l then heftSL k[i] (heftTL (k.take i) l) else heftTL (k.take i) l
  | e :: k, l, 0, h => by simp only [List.take_succ_cons, List.take_zero, heftTL, List.getElem_cons_zero]
  | e :: k, l, i + 1, h => by
    have ih := fun l => heftTL_at k l i (by simpa using h)
    simp only [List.take_succ_cons, heftTL, List.getElem_cons_succ] at ih ⊢
    split
    · exact ih _
    · rename_i h2; simp [h2]
theorem heftTL_stop : ∀ (k : List (List St)) (l : Int) (i : Nat), heftTL (k.take i) l < 0 → heftTL k l = heftTL (k.take i) l
  | [], l, i, h => by simp [heftTL]
  | e :: k, l, 0, h => by
    simp only [List.take_zero, heftTL] at *
    rw [if_neg (by omega)]
  | e :: k, l, i + 1, h => by
    simp only [List.take_succ_cons, heftTL] at *
    split
    · rename_i hl
      rw [if_pos hl] at h
      exact heftTL_stop k _ i h
    · rfl
theorem lightP_ok (p : Pr) (m : Int) (hok : okP p) (hm0 : 0 ≤ m) (hm1 : m ≤ 1048576) : ValOK Tryz.prog gl 7 [p.av, .int .i64 m] (.bool (lightP p m)) := by
  obtain ⟨⟨hd1, hd2⟩, ht1, ht2⟩ := hok
  obtain ⟨O, hO, p1, -⟩ := fams (P := Tryz.prog) (gl := gl) [{ I := List St × Int, f := 30, G := fun q => okSL q.1 ∧ q.1.length ≤ 9223372036854775807 ∧ 0 ≤ q.2 ∧ q.2 ≤ 1048576, A := fun q => [stA q.1, .int .i64 q.2], R := fun q => .int .i64 (heftSL q.1 q.2), body := (by kernel_rfl), inj := (fun i j _ _ h => by simp only [List.cons.injEq, AV.int.injEq, and_true, true_and] at h; rw [stA_inj h.1, h.2]), ok := (fun q hq => ⟨rfl, hefts_ok _ q.1 q.2 (Nat.le_refl _) hq.1 hq.2.1 hq.2.2.1 hq.2.2.2⟩) }] rfl
  have q1 : ∀ x a, okSL x → x.length ≤ 9223372036854775807 → 0 ≤ a → a ≤ 1048576 → ∀ H, acall Tryz.prog O H 30 [stA x, .int .i64 a] = some (.int .i64 (heftSL x a), H) := fun x a h1 h2 h3 h4 => p1 (x, a) ⟨h1, h2, h3, h4⟩
  clear p1
  obtain ⟨ds, ts⟩ := p
  simp only [Pr.av, lightP] at *
  have w1 : IntKind.i64.wrap (m + 1) = m + 1 := wrapB (by omega) (by omega)
  have hl0 : m - (if (ds.length : Int) < m + 1 then (ds.length : Int) else m + 1) - (if (ts.length : Int) < m + 1 then (ts.length : Int) else m + 1) = m - min (m + 1) (ds.length : Int) - min (m + 1) (ts.length : Int) := by
    rw [Int.min_def, Int.min_def]; split <;> split <;> split <;> split <;> omega
  generalize m - min (m + 1) (ds.length : Int) - min (m + 1) (ts.length : Int) = l0 at *
  have hlm : l0 ≤ 1048576 := by omega
  have hlm2 : -9000000000000000000 ≤ l0 := by omega
  refine fn_val follows noNum hO Tryz.func7 rfl ?_
  repeat' ((conv => whnf); first | (with_reducible refine exW w1 ?_) | (first | refine stp ?_ | with_reducible refine condB (fun h => ?_) (fun h => ?_)))
  conv => whnf
  rw [hl0]
  refine ⟨Nat, (fun i => i ≤ ds.length), (fun i => [(2, .ptr 0 0), (5, .int .i64 (heftD (ds.take i) l0)), (6, .int .i64 i)]), (fun _ => [⟨true, 0, 0, .cells [.rs ds.length 3 (dcC ds), .rs ts.length 1 (ts.map stA)] 25⟩]), (fun i => ds.length - i), ⟨0, Nat.zero_le _, FgL.mk [0] rfl ?_ ⟨⟨rfl, rfl, rfl, rfl, BodyGe.pre (rest := []) rfl rfl⟩, trivial⟩ rfl⟩, ?_⟩
  · simp only [List.take_zero, heftD]; (repeat (first | exact trivial | refine stw ?_))
  intro i hi
  dsimp only
  have hle := heftD_le (ds.take i) l0
  by_cases hc : i < ds.length ∧ 0 ≤ heftD (ds.take i) l0
  · obtain ⟨hlt, hpos⟩ := hc
    have e1 : decide ((i : Int) < (ds.length : Int)) = true := by simpa using hlt
    have e2 : decide (heftD (ds.take i) l0 ≥ 0) = true := by simpa using hpos
    have hs := heftD_at ds l0 i hlt
    rw [if_pos hpos] at hs
    have hxn := dcn ds i hlt
    have hln := hd2 _ (get_mem hlt)
    generalize heftD (ds.take i) l0 = b at *
    generalize ds[i] = d at *
    obtain ⟨name, pl, vl⟩ := d
    simp only at *
    have q20 : Int.tdiv (name.length : Int) 20 = ((name.length / 20 : Nat) : Int) := rfl
    have w2 : IntKind.i64.wrap (Int.tdiv (name.length : Int) 20) = ((name.length / 20 : Nat) : Int) := by rw [q20]; exact wrapB (by omega) (by omega)
    have w3 : IntKind.i64.wrap (b - ((name.length / 20 : Nat) : Int)) = b - ((name.length / 20 : Nat) : Int) := wrapB (by omega) (by omega)
    repeat' ((conv => whnf); first | (refine And.intro (show (20 : Int) ≠ 0 by decide) ?_) | (rw [w2]) | (with_reducible refine exW w3 ?_) | (with_reducible refine ixJ i rfl ?_ ?_; (focus (omega))) | (refine exI hxn ?_) | (first | refine stp ?_ | with_reducible refine condB (fun h => ?_) (fun h => ?_)))
    conv => whnf
    refine ⟨i + 1, hlt, by show ds.length - (i + 1) < ds.length - i; omega, FgL.mk [0] rfl ?_ ⟨⟨rfl, rfl, rfl, rfl, BodyGe.pre (rest := []) rfl rfl⟩, trivial⟩ rfl⟩
    rw [hs]; (repeat (first | exact trivial | refine stw ?_))
  · have hfin : heftD (ds.take i) l0 = heftD ds l0 := by
      by_cases hlt : i < ds.length
      · exact (heftD_stop ds l0 i (by omega)).symm
      · rw [List.take_of_length_le (by omega)]
    rw [hfin] at hc hle ⊢
    generalize heftD ds l0 = l1 at *
    obtain ⟨b1, e1, hb⟩ : ∃ b1, decide ((i : Int) < (ds.length : Int)) = b1 ∧ (b1 = true → decide (l1 ≥ 0) = false) := ⟨_, rfl, fun h => by simp only [decide_eq_true_eq, decide_eq_false_iff_not] at *; omega⟩
    have hb2 : b1 = false ∨ b1 = true ∧ decide (l1 ≥ 0) = false := by cases b1 <;> simp_all
    clear hb
    rcases hb2 with rfl | ⟨rfl, e2⟩
    all_goals
      repeat' ((conv => whnf); first | refine stp ?_ | with_reducible refine condB (fun h => ?_) (fun h => ?_))
      conv => whnf
      refine ⟨Nat, (fun i => i ≤ ts.length), (fun i => [(2, .ptr 0 0), (5, .int .i64 (heftTL (ts.take i) l1)), (7, .int .i64 i)]), (fun _ => [⟨true, 0, 0, .cells [.rs ds.length 3 (dcC ds), .rs ts.length 1 (ts.map stA)] 25⟩]), (fun i => ts.length - i), ⟨0, Nat.zero_le _, FgL.mk [0] rfl ?_ ⟨⟨rfl, rfl, rfl, rfl, BodyGe.pre (rest := []) rfl rfl⟩, trivial⟩ rfl⟩, ?_⟩
      · simp only [List.take_zero, heftTL]; (repeat (first | exact trivial | refine stw ?_))
      clear e1
      try clear e2
      intro k hk
      dsimp only
      have hlk := heftTL_le (ts.take k) l1
      by_cases hkt : k < ts.length
      · have e1 : decide ((k : Int) < (ts.length : Int)) = true := by simpa using hkt
        by_cases hpos : 0 ≤ heftTL (ts.take k) l1
        · have e2 : decide (heftTL (ts.take k) l1 ≥ 0) = true := by simpa using hpos
          have hs := heftTL_at ts l1 k hkt
          rw [if_pos hpos] at hs
          have hx := th1 ts k hkt
          have hok := okTL_get ht1 _ (get_mem hkt)
          have q2 := q1 ts[k] (heftTL (ts.take k) l1) hok.1 hok.2 hpos (by omega)
          generalize heftTL (ts.take k) l1 = b at *
          generalize ts[k] = t at *
          simp only [stA] at hx q2
          repeat' ((conv => whnf); first | (with_reducible refine exI (q2 _) ?_) | (with_reducible refine ixJ k rfl ?_ ?_; (focus (omega))) | (refine exI hx ?_) | (first | refine stp ?_ | with_reducible refine condB (fun h => ?_) (fun h => ?_)))
          conv => whnf
          refine ⟨k + 1, hkt, by show ts.length - (k + 1) < ts.length - k; omega, FgL.mk [0] rfl ?_ ⟨⟨rfl, rfl, rfl, rfl, BodyGe.pre (rest := []) rfl rfl⟩, trivial⟩ rfl⟩
          rw [hs]; (repeat (first | exact trivial | refine stw ?_))
        · have e2 : decide (heftTL (ts.take k) l1 ≥ 0) = false := by simpa using hpos
          have hst := heftTL_stop ts l1 k (by omega)
          rw [hst]
          repeat' ((conv => whnf); first | refine stp ?_ | with_reducible refine condB (fun h => ?_) (fun h => ?_))
          all_goals rfl
      · have e1 : decide ((k : Int) < (ts.length : Int)) = false := by simpa using hkt
        have hk2 : k = ts.length := by have := hk; omega
        subst hk2
        rw [List.take_length]
        repeat' ((conv => whnf); first | refine stp ?_ | with_reducible refine condB (fun h => ?_) (fun h => ?_))
        all_goals rfl
end Go.Proofs.YtkkfcfjhhdmamaaGreatDoor.lex
end


section

set_option linter.unusedVariables false
set_option linter.unusedSimpArgs false
namespace Go.Proofs.YtkkfcfjhhdmamaaGreatDoor.lex
open Go.Abs Go.RowKit
set_option maxRecDepth 100000
set_option maxHeartbeats 4000000
def lev (op : Int) : Int :=
  if op = 5 then 1 else if op = 6 then 2 else if op = 7 ∨ op = 8 then 3 else if op = 9 ∨ op = 10 then 4 else if op = 11 then 5 else if op = 12 then 6 else if op = 13 then 7 else if op = 14 ∨ op = 15 then 8 else if op = 16 then 9 else if op = 3 ∨ op = 4 then 10 else 11
def sgnT (op : Int) : List UInt8 :=
  if op = 3 ∨ op = 15 then [45] else if op = 4 then [33] else if op = 5 then [124, 124] else if op = 6 then [38, 38] else if op = 7 then [61, 61] else if op = 8 then [33, 61] else if op = 9 then [60] else if op = 10 then [60, 61] else if op = 11 then [124]
  else if op = 12 then [94] else if op = 13 then [38] else if op = 14 then [43] else if op = 16 then [42] else []
def ordT (o : Int) : List UInt8 :=
  if o = 1 then [110, 97] else if o = 2 then [114, 108, 120] else if o = 3 then [97, 99, 113] else if o = 4 then [114, 101, 108] else if o = 5 then [97, 114] else if o = 6 then [115, 99] else []
def digN (n : Nat) : List UInt8 := if n < 10 then [UInt8.ofNat (48 + n)] else digN (n / 10) ++ [UInt8.ofNat (48 + n % 10)]
def digI (n : Int) : List UInt8 := digN n.toNat
def spc (n : Nat) : List UInt8 := List.replicate (2 * n) 32
def brk (p : Int × List UInt8) (n : Int) : List UInt8 := if lev p.1 < n then 40 :: (p.2 ++ [41]) else p.2
def wrC (op num : Int) (name : List UInt8) (ks : List (Int × List UInt8)) : List UInt8 :=
  if op = 1 then digI num else if op = 2 then name else match ks with
    | [] => []
    | [a] => sgnT op ++ brk a 10
    | a :: b :: _ => brk a (lev op) ++ (32 :: (sgnT op ++ (32 :: brk b (lev op + 1))))
mutual
def wrE : Ex → List UInt8
  | .mk op num name kids => wrC op num name (wrL kids)
def wrL : List Ex → List (Int × List UInt8)
  | [] => []
  | e :: l => (e.op, wrE e) :: wrL l
end
def argT : List Ex → List UInt8
  | [] => []
  | e :: l => 44 :: 32 :: (wrE e ++ argT l)
def accT (word loc : List UInt8) (x : List Ex) (o : Int) : List UInt8 := word ++ (40 :: (loc ++ (argT x ++ (44 :: 32 :: (ordT o ++ [41])))))
def hdT : List Ex → List UInt8
  | [] => []
  | e :: _ => wrE e
def opnT (n : List UInt8) : List UInt8 := if n = [] then [] else n ++ [32, 61, 32]
def plnT (k : Int) (lc : List UInt8) (o : Int) (x : List Ex) : List UInt8 :=
  if k = 1 then hdT x else if k = 2 then accT [108, 111, 97, 100] lc x o else if k = 3 then accT [115, 116, 111, 114, 101] lc x o else if k = 4 then accT [99, 97, 115] lc x o else if k = 5 then accT [97, 100, 100] lc x o
  else if k = 6 then accT [115, 119, 97, 112] lc x o else if k = 7 then [102, 101, 110, 99, 101, 40] ++ (ordT o ++ [41]) else if k = 8 then [97, 115, 115, 117, 109, 101, 40] ++ (hdT x ++ [41]) else if k = 9 then [97, 115, 115, 101, 114, 116, 40] ++ (hdT x ++ [41]) else []
mutual
def stT : St → Nat → List UInt8
  | .mk k n lc o x t e, i => opnT n ++
    (if k = 10 then [105, 102, 32, 40] ++ (hdT x ++ ([41, 32] ++ ((123 :: 10 :: (lnT t (i + 1) ++ (spc i ++ [125]))) ++ (if e.length = 0 then [] else [32, 101, 108, 115, 101, 32] ++ (123 :: 10 :: (lnT e (i + 1) ++ (spc i ++ [125])))))))
     else if k = 11 then [119, 104, 105, 108, 101, 32, 40] ++ (hdT x ++ ([41, 32] ++ (123 :: 10 :: (lnT t (i + 1) ++ (spc i ++ [125])))))
     else plnT k lc o x ++ [59])
def lnT : List St → Nat → List UInt8
  | [], _ => []
  | s :: l, i => spc i ++ (stT s i ++ (10 :: lnT l i))
end
def blkT (l : List St) (i : Nat) : List UInt8 := 123 :: 10 :: (lnT l (i + 1) ++ (spc i ++ [125]))
def dcT (d : Dc) : List UInt8 := (if d.plain then [112, 108, 97, 105, 110, 32] else [115, 104, 97, 114, 101, 100, 32]) ++ (d.name ++ ([32, 61, 32] ++ (digI d.val ++ [59, 10])))
def dcsT : List Dc → List UInt8
  | [] => []
  | d :: l => dcT d ++ dcsT l
def thT (l : List St) : List UInt8 := [116, 104, 114, 101, 97, 100, 32] ++ (blkT l 0 ++ [10])
def thsT : List (List St) → List UInt8
  | [] => []
  | l :: t => thT l ++ thsT t
def prT (p : Pr) : List UInt8 := dcsT p.decls ++ thsT p.threads
def rgI (n : Int) : Prop := -9223372036854775808 ≤ n ∧ n ≤ 9223372036854775807
mutual
def rgE : Ex → Prop
  | .mk _ n _ k => rgI n ∧ rgL k
def rgL : List Ex → Prop
  | [] => True
  | e :: l => rgE e ∧ rgL l
end
mutual
def rgS : St → Prop
  | .mk _ _ _ _ x t e => rgL x ∧ rgSL t ∧ rgSL e
def rgSL : List St → Prop
  | [] => True
  | s :: l => rgS s ∧ rgSL l
end
def rgTL : List (List St) → Prop
  | [] => True
  | l :: t => rgSL l ∧ rgTL t
def rgP (p : Pr) : Prop := (∀ d ∈ p.decls, rgI d.val) ∧ rgTL p.threads
theorem rgL_get : ∀ {l : List Ex}, rgL l → ∀ e ∈ l, rgE e
  | x :: l, h, e, he => by
    simp only [rgL] at h
    rcases List.mem_cons.1 he with rfl | he
    · exact h.1
    · exact rgL_get h.2 e he
theorem rgSL_get : ∀ {l : List St}, rgSL l → ∀ e ∈ l, rgS e
  | x :: l, h, e, he => by
    simp only [rgSL] at h
    rcases List.mem_cons.1 he with rfl | he
    · exact h.1
    · exact rgSL_get h.2 e he
theorem rgTL_get : ∀ {l : List (List St)}, rgTL l → ∀ e ∈ l, rgSL e
  | x :: l, h, e, he => by
    simp only [rgTL] at h
    rcases List.mem_cons.1 he with rfl | he
    · exact h.1
    · exact rgTL_get h.2 e he
theorem dig_len : ∀ (k n : Nat), n < 10 ^ (k + 1) → (digN n).length ≤ k + 1
  | 0, n, h => by rw [digN, if_pos (by omega)]; simp
  | k + 1, n, h => by
    rw [digN]
    split
    · simp
    · have := dig_len k (n / 10) (by rw [Nat.pow_succ] at h; omega)
      simp; omega
theorem dig_pos (n : Nat) : digN n ≠ [] := by
  rw [digN]; split <;> simp
theorem digI_len {n : Int} (h : rgI n) : (digI n).length ≤ 20 := dig_len 19 n.toNat (by have := h.2; omega)
theorem sgn_len (op : Int) : (sgnT op).length ≤ 2 := by
  have hi : ∀ (c : Prop) [Decidable c] (a b : List UInt8), a.length ≤ 2 → b.length ≤ 2 → (if c then a else b).length ≤ 2 := fun c _ a b h1 h2 => by split <;> assumption
  unfold sgnT
  repeat' (first | exact hi _ _ _ (by decide) (by decide) | refine hi _ _ _ (by decide) ?_)
theorem ord_len (o : Int) : (ordT o).length ≤ 3 := by
  unfold ordT; repeat' split
  all_goals simp
theorem brk_len (p : Int × List UInt8) (n : Int) : (brk p n).length ≤ p.2.length + 2 := by
  unfold brk; split
  · simp only [List.length_cons, List.length_append, List.length_nil]; omega
  · omega
def sumK : List (Int × List UInt8) → Nat
  | [] => 0
  | p :: l => p.2.length + 2 + sumK l
theorem wrC_len (op num : Int) (name : List UInt8) (ks : List (Int × List UInt8)) (h : rgI num) : (wrC op num name ks).length ≤ 24 + name.length + sumK ks := by
  have h1 := digI_len h
  have h2 := sgn_len op
  unfold wrC
  split
  · omega
  · split
    · omega
    · match ks with
      | [] => simp
      | [a] =>
        have := brk_len a 10
        simp only [List.length_append, sumK]; omega
      | a :: b :: l =>
        have := brk_len a (lev op)
        have := brk_len b (lev op + 1)
        simp only [List.length_append, List.length_cons, sumK]; omega
mutual
theorem wrE_len : ∀ (e : Ex) (l : Int), rgE e → 0 ≤ heftE e l → ((wrE e).length : Int) + 2 ≤ 64 * (l - heftE e l)
  | .mk op num name kids, l, hr, h => by
    simp only [rgE] at hr
    simp only [heftE, wrE] at h ⊢
    have h1 := wrC_len op num name (wrL kids) hr.1
    have h2 := wrL_len kids (l - 1 - (name.length / 20 : Nat)) hr.2 h
    have := heftL_le kids (l - 1 - (name.length / 20 : Nat))
    omega
theorem wrL_len : ∀ (k : List Ex) (l : Int), rgL k → 0 ≤ heftL k l → (sumK (wrL k) : Int) ≤ 64 * (l - heftL k l)
  | [], l, _, h => by simp only [wrL, sumK, heftL]; omega
  | e :: k, l, hr, h => by
    simp only [rgL] at hr
    simp only [heftL, wrL, sumK] at h ⊢
    split at h
    · rename_i h0
      rw [if_pos h0]
      have h3 : 0 ≤ heftE e l := by have := heftL_le k (heftE e l); omega
      have h1 := wrE_len e l hr.1 h3
      have h2 := wrL_len k (heftE e l) hr.2 h
      omega
    · omega
end
theorem argT_len : ∀ (k : List Ex) (l : Int), rgL k → 0 ≤ heftL k l → ((argT k).length : Int) ≤ 64 * (l - heftL k l)
  | [], l, _, h => by simp only [argT, heftL, List.length_nil]; omega
  | e :: k, l, hr, h => by
    simp only [rgL] at hr
    simp only [heftL, argT, List.length_cons, List.length_append] at h ⊢
    split at h
    · rename_i h0
      rw [if_pos h0]
      have h3 : 0 ≤ heftE e l := by have := heftL_le k (heftE e l); omega
      have h1 := wrE_len e l hr.1 h3
      have h2 := argT_len k (heftE e l) hr.2 h
      omega
    · omega
theorem hdT_len (k : List Ex) (l : Int) (hr : rgL k) (h : 0 ≤ heftL k l) : ((hdT k).length : Int) ≤ 64 * (l - heftL k l) := by
  have h1 := argT_len k l hr h
  cases k with
  | nil => simp only [hdT, List.length_nil]; simp only [argT, List.length_nil] at h1; exact h1
  | cons e k => simp only [hdT]; simp only [argT, List.length_cons, List.length_append] at h1; omega
theorem plnT_len (k : Int) (lc : List UInt8) (o : Int) (x : List Ex) : (plnT k lc o x).length ≤ 30 + lc.length + (argT x).length + (hdT x).length := by
  have h1 := ord_len o
  unfold plnT accT
  repeat' split
  all_goals (try simp only [List.length_append, List.length_cons, List.length_nil])
  all_goals omega
theorem spc_len (n : Nat) : (spc n).length = 2 * n := by simp [spc]
mutual
theorem stT_len : ∀ (s : St) (i : Nat) (l : Int), rgS s → i + deepS s ≤ 41 → 0 ≤ heftS s l → ((stT s i).length : Int) + 84 ≤ 512 * (l - heftS s l)
  | .mk k n lc o x t e, i, l, hr, hd, h => by
    simp only [rgS] at hr
    simp only [deepS] at hd
    simp only [heftS] at h ⊢
    generalize hl0 : l - 1 - (n.length / 20 : Nat) - (lc.length / 20 : Nat) = l0 at *
    have a1 := heftL_le x l0
    generalize hl1 : heftL x l0 = l1 at *
    have b1 : 0 ≤ l1 := by
      simp only [ifp] at h
      split at h
      · assumption
      · exact absurd (by simpa [ifp] using h) ‹¬ 0 ≤ l1›
    simp only [ifp, if_pos b1] at h ⊢
    have a2 := heftSL_le t l1
    have b2 : 0 ≤ heftSL t l1 := by
      split at h
      · assumption
      · exact h
    simp only [if_pos b2] at h ⊢
    have a3 := heftSL_le e (heftSL t l1)
    have c1 := argT_len x l0 hr.1 (by omega)
    have c2 := hdT_len x l0 hr.1 (by omega)
    have c3 := lnT_len t (i + 1) l1 hr.2.1 (by omega) b2
    have c4 := lnT_len e (i + 1) (heftSL t l1) hr.2.2 (by omega) h
    have c5 := plnT_len k lc o x
    have hi : i ≤ 41 := by omega
    have c6 := spc_len i
    have c7 : (opnT n).length ≤ n.length + 3 := by unfold opnT; split <;> simp
    simp only [stT]
    generalize heftSL e (heftSL t l1) = l3 at *
    generalize heftSL t l1 = l2 at *
    generalize argT x = A at *
    generalize hdT x = D at *
    generalize plnT k lc o x = P at *
    generalize lnT t (i + 1) = T at *
    generalize lnT e (i + 1) = E at *
    split
    · split
      all_goals simp only [List.length_append, List.length_cons, List.length_nil]
      all_goals omega
    · split
      all_goals simp only [List.length_append, List.length_cons, List.length_nil]
      all_goals omega
theorem lnT_len : ∀ (k : List St) (i : Nat) (l : Int), rgSL k → i + deepSL k ≤ 41 → 0 ≤ heftSL k l → ((lnT k i).length : Int) ≤ 512 * (l - heftSL k l)
  | [], i, l, _, _, h => by simp only [lnT, heftSL, List.length_nil]; omega
  | s :: k, i, l, hr, hd, h => by
    simp only [rgSL] at hr
    simp only [deepSL] at hd
    simp only [heftSL, lnT, List.length_append, List.length_cons] at h ⊢
    split at h
    · rename_i h0
      rw [if_pos h0]
      have h3 : 0 ≤ heftS s l := by have := heftSL_le k (heftS s l); omega
      have hds : 0 < deepS s := by cases s; simp only [deepS]; omega
      have h1 := stT_len s i l hr.1 (by omega) h3
      have h2 := lnT_len k i (heftS s l) hr.2 (by omega) h
      have := spc_len i
      omega
    · omega
end
end Go.Proofs.YtkkfcfjhhdmamaaGreatDoor.lex
end


section

set_option linter.unusedVariables false
set_option linter.unusedSimpArgs false
namespace Go.Proofs.YtkkfcfjhhdmamaaGreatDoor.lex
open Go.Abs Go.RowKit
set_option maxRecDepth 100000
set_option maxHeartbeats 4000000
variable {gl : Glob}
theorem ops_cases (op : Int) : (op < 1 ∨ 16 < op) ∨ op = 1 ∨ op = 2 ∨ op = 3 ∨ op = 4 ∨ op = 5 ∨ op = 6 ∨ op = 7 ∨ op = 8 ∨ op = 9 ∨ op = 10 ∨ op = 11 ∨ op = 12 ∨ op = 13 ∨ op = 14 ∨ op = 15 ∨ op = 16 := by omega
theorem ords_cases (o : Int) : (o < 1 ∨ 6 < o) ∨ o = 1 ∨ o = 2 ∨ o = 3 ∨ o = 4 ∨ o = 5 ∨ o = 6 := by omega
theorem lev_out {op : Int} (h : op < 1 ∨ 16 < op) : lev op = 11 := by
  unfold lev; repeat rw [if_neg (by omega)]
theorem sgn_out {op : Int} (h : op < 1 ∨ 16 < op) : sgnT op = [] := by
  unfold sgnT; repeat rw [if_neg (by omega)]
theorem ord_out {o : Int} (h : o < 1 ∨ 6 < o) : ordT o = [] := by
  unfold ordT; repeat rw [if_neg (by omega)]
theorem levX_ok (op : Int) : ValOK Tryz.prog gl 83 [.int .i64 op] (.int .i64 (lev op)) := by
  rcases ops_cases op with hout | rfl | rfl | rfl | rfl | rfl | rfl | rfl | rfl | rfl | rfl | rfl | rfl | rfl | rfl | rfl | rfl
  · rw [lev_out hout]
    refine fn_val follows noNum none_sound Tryz.func83 rfl ?_
    repeat' ((conv => whnf); first | refine stp ?_ | with_reducible refine condB (fun h => ?_) (fun h => ?_))
    all_goals first | rfl | (exfalso; simp only [beq_iff_eq] at *; omega)
  all_goals
    refine fn_val follows noNum none_sound Tryz.func83 rfl ?_
    repeat' ((conv => whnf); first | refine stp ?_ | with_reducible refine condB (fun h => ?_) (fun h => ?_))
    rfl
def levR (op : Int) : Int := if op < 1 ∨ 16 < op then 0 else lev op
theorem levR_ok (op : Int) : ValOK Tryz.prog gl 90 [.int .i64 op] (.int .i64 (levR op)) := by
  rcases ops_cases op with hout | rfl | rfl | rfl | rfl | rfl | rfl | rfl | rfl | rfl | rfl | rfl | rfl | rfl | rfl | rfl | rfl
  · unfold levR; rw [if_pos hout]
    refine fn_val follows noNum none_sound Tryz.func90 rfl ?_
    repeat' ((conv => whnf); first | refine stp ?_ | with_reducible refine condB (fun h => ?_) (fun h => ?_))
    all_goals first | rfl | (exfalso; simp only [beq_iff_eq] at *; omega)
  all_goals
    refine fn_val follows noNum none_sound Tryz.func90 rfl ?_
    repeat' ((conv => whnf); first | refine stp ?_ | with_reducible refine condB (fun h => ?_) (fun h => ?_))
    rfl
theorem sgnX_ok (op : Int) : ValOK Tryz.prog gl 24 [.int .i64 op] (.str (sgnT op)) := by
  rcases ops_cases op with hout | rfl | rfl | rfl | rfl | rfl | rfl | rfl | rfl | rfl | rfl | rfl | rfl | rfl | rfl | rfl | rfl
  · rw [sgn_out hout]
    refine fn_val follows noNum none_sound Tryz.func24 rfl ?_
    repeat' ((conv => whnf); first | refine stp ?_ | with_reducible refine condB (fun h => ?_) (fun h => ?_))
    all_goals first | rfl | (exfalso; simp only [beq_iff_eq] at *; omega)
  all_goals
    refine fn_val follows noNum none_sound Tryz.func24 rfl ?_
    repeat' ((conv => whnf); first | refine stp ?_ | with_reducible refine condB (fun h => ?_) (fun h => ?_))
    rfl
theorem sgnR_ok (op : Int) : ValOK Tryz.prog gl 25 [.int .i64 op] (.str (sgnT op)) := by
  rcases ops_cases op with hout | rfl | rfl | rfl | rfl | rfl | rfl | rfl | rfl | rfl | rfl | rfl | rfl | rfl | rfl | rfl | rfl
  · rw [sgn_out hout]
    by_cases h1 : op < 3
    · have e1 : decide (op < 3) = true := by simpa using h1
      refine fn_val follows noNum none_sound Tryz.func25 rfl ?_
      repeat' ((conv => whnf); first | refine stp ?_ | with_reducible refine condB (fun h => ?_) (fun h => ?_))
      all_goals rfl
    · have e1 : decide (op < 3) = false := by simpa using h1
      have e2 : decide (op > 16) = true := by simp only [gt_iff_lt, decide_eq_true_eq]; omega
      refine fn_val follows noNum none_sound Tryz.func25 rfl ?_
      repeat' ((conv => whnf); first | refine stp ?_ | with_reducible refine condB (fun h => ?_) (fun h => ?_))
      all_goals rfl
  all_goals
    refine fn_val follows noNum none_sound Tryz.func25 rfl ?_
    repeat' ((conv => whnf); first | refine stp ?_ | with_reducible refine condB (fun h => ?_) (fun h => ?_))
    all_goals rfl
theorem ordX_ok (o : Int) : ValOK Tryz.prog gl 22 [.int .i64 o] (.str (ordT o)) := by
  rcases ords_cases o with hout | rfl | rfl | rfl | rfl | rfl | rfl
  · rw [ord_out hout]
    refine fn_val follows noNum none_sound Tryz.func22 rfl ?_
    repeat' ((conv => whnf); first | refine stp ?_ | with_reducible refine condB (fun h => ?_) (fun h => ?_))
    all_goals first | rfl | (exfalso; simp only [beq_iff_eq] at *; omega)
  all_goals
    refine fn_val follows noNum none_sound Tryz.func22 rfl ?_
    repeat' ((conv => whnf); first | refine stp ?_ | with_reducible refine condB (fun h => ?_) (fun h => ?_))
    rfl
theorem ordR_ok (o : Int) : ValOK Tryz.prog gl 23 [.int .i64 o] (.str (ordT o)) := by
  rcases ords_cases o with hout | rfl | rfl | rfl | rfl | rfl | rfl
  · rw [ord_out hout]
    by_cases h1 : o < 1
    · have e1 : decide (o < 1) = true := by simpa using h1
      refine fn_val follows noNum none_sound Tryz.func23 rfl ?_
      repeat' ((conv => whnf); first | refine stp ?_ | with_reducible refine condB (fun h => ?_) (fun h => ?_))
      all_goals rfl
    · have e1 : decide (o < 1) = false := by simpa using h1
      have e2 : decide (o > 6) = true := by simp only [gt_iff_lt, decide_eq_true_eq]; omega
      refine fn_val follows noNum none_sound Tryz.func23 rfl ?_
      repeat' ((conv => whnf); first | refine stp ?_ | with_reducible refine condB (fun h => ?_) (fun h => ?_))
      all_goals rfl
  all_goals
    refine fn_val follows noNum none_sound Tryz.func23 rfl ?_
    repeat' ((conv => whnf); first | refine stp ?_ | with_reducible refine condB (fun h => ?_) (fun h => ?_))
    all_goals rfl
theorem dig_one {n : Nat} (h : n < 10) : digN n = [UInt8.ofNat (48 + n)] := by rw [digN, if_pos h]
theorem dig_more {n : Nat} (h : ¬ n < 10) : digN n = digN (n / 10) ++ [UInt8.ofNat (48 + n % 10)] := by rw [digN, if_neg h]
def isStrB (s : List UInt8) (r : Res) : Bool := match r with
  | some (.str t, _) => t == s
  | _ => false
theorem val_run {f m fuel : Nat} {az : List AV} {s : List UInt8} (h : isStrB s (frun Tryz.prog gl [] fuel m f az TH.empty) = true) : ValOK Tryz.prog gl f az (.str s) := by
  unfold isStrB at h
  split at h
  · rename_i t T e
    have ht : t = s := by simpa using h
    subst ht
    obtain ⟨H', h1, _⟩ := frun_ok (P := Tryz.prog) (gl := gl) (tbl := []) m f az TH.empty _ T e [] Rep.empty
    intro sn W cargs hg hR ha
    refine (runsT_sound follows noNum tblO_nil m f az [] _ _ h1 sn noI W cargs hg hR ha).mono ?_
    rintro e W' ⟨v, sn', ι', rfl, hv, hs⟩
    exact ⟨_, rfl, Stq.ext (Stp.q (k := 0) hR hs), by simpa only [VR] using hv⟩
  · cases h
theorem rep_all : ((List.range 40).all fun n => isStrB (spc n) (frun Tryz.prog (fun _ => none) [] 100000 100 102 [.str [32, 32], .int .i64 (Int.ofNat n)] TH.empty)) = true := by kernel_rfl
theorem rep_ok0 (n : Nat) (hn : n < 40) : ValOK Tryz.prog (fun _ => none) 102 [.str [32, 32], .int .i64 n] (.str (spc n)) := val_run (List.all_eq_true.1 rep_all n (List.mem_range.2 hn))
theorem rep_ok (n : Nat) (hn : n < 40) : ValOK Tryz.prog gl 102 [.str [32, 32], .int .i64 n] (.str (spc n)) := fun sn W cargs hg hR ha => rep_ok0 n hn sn W cargs (fun g cs h => by cases h) hR ha
end Go.Proofs.YtkkfcfjhhdmamaaGreatDoor.lex
end


section

set_option linter.unusedVariables false
set_option linter.unusedSimpArgs false
namespace Go.Proofs.YtkkfcfjhhdmamaaGreatDoor.lex
open Go.Abs Go.RowKit Go.Sort
set_option maxRecDepth 100000
set_option maxHeartbeats 4000000
theorem ext_refl (W : World) : Ext W W := ⟨fun _ _ => rfl, Nat.le_refl _, rfl, rfl, rfl⟩
theorem digN_eq : ∀ n : Nat, digN n = Lib.decDigits n := by
  intro n
  induction n using Nat.strongRecOn with
  | _ n ih =>
    rw [digN, Lib.decDigits]
    by_cases h : n < 10
    · rw [if_pos h, dif_pos h]
    · rw [if_neg h, dif_neg h, ih (n / 10) (by omega)]
section
variable {gl : Glob}
theorem len64_ok (u : Nat) (h : u < 18446744073709551616) : ValOK Tryz.prog gl 116 [.int .u64 u] (.int .i64 (Lib.bitLen u)) := by
  intro sn W cargs hg hR ha
  simp only [LR] at ha
  obtain ⟨v1, _, rfl, h1, rfl⟩ := ha
  cases h1.int
  refine (Any.bits_Len64 shelf.fblen u W (by omega) (by omega)).mono ?_
  rintro e W' ⟨rfl, rfl⟩
  exact ⟨_, rfl, ext_refl _, by simp [VR]⟩
theorem log10_ok (x : Nat) (h : x ≤ 64) : ValOK Tryz.prog gl 115 [.int .i64 x] (.int .i64 (Lib.l10 x)) := by
  intro sn W cargs hg hR ha
  simp only [LR] at ha
  obtain ⟨v1, _, rfl, h1, rfl⟩ := ha
  cases h1.int
  refine (Any.internal_strconv_log10Pow2 shelf.fblog x h W).mono ?_
  rintro e W' ⟨rfl, rfl⟩
  exact ⟨_, rfl, ext_refl _, by simp [VR]⟩
theorem bool2_ok (b : Bool) : ValOK Tryz.prog gl 117 [.bool b] (.int .i64 (if b then 1 else 0)) := by
  intro sn W cargs hg hR ha
  simp only [LR] at ha
  obtain ⟨v1, _, rfl, h1, rfl⟩ := ha
  cases h1.bool
  refine (Any.internal_strconv_bool2_int shelf.fbbool b W).mono ?_
  rintro e W' ⟨rfl, rfl⟩
  exact ⟨_, rfl, ext_refl _, by simp [VR]⟩
end
theorem bitLen_64 (u : Nat) (h : u < 18446744073709551616) : Lib.bitLen u ≤ 64 := Lib.bitLen_le u 64 (Nat.le_refl _) h
def pow10T : List AV := (List.range 20).map fun i => AV.int .u64 ((10 ^ i : Nat) : Int)
theorem p10 : runLives.tbl2 = pow10T := by kernel_rfl
theorem p10_at (j : Nat) (h : j < 20) : tk 1 (runLives.tbl2.drop (j * 1)) = some [.int .u64 ((10 ^ j : Nat) : Int)] := by
  have := tk1_map (fun i : Nat => AV.int .u64 ((10 ^ i : Nat) : Int)) (List.range 20) j (by simpa using h) (off := j * 1) (by omega)
  rw [p10]; simpa [pow10T] using this
theorem nd_ok (u : Nat) (h1 : 1 ≤ u) (h2 : u < 18446744073709551616) : ValOK Tryz.prog runLives.gl 99 [.int .u64 u] (.int .i64 (Lib.nDigits u)) := by
  obtain ⟨O, hO, q1, q2, q3, -⟩ := fams (P := Tryz.prog) (gl := runLives.gl) [
    { I := Nat, f := 116, G := (fun u => u < 18446744073709551616), A := (fun u => [.int .u64 u]), R := (fun u => .int .i64 (Lib.bitLen u)), body := (by kernel_rfl), inj := (fun i j _ _ h => by simp only [List.cons.injEq, AV.int.injEq, true_and, and_true] at h; rw [Int.ofNat_inj.1 h]), ok := (fun u h => ⟨rfl, len64_ok u h⟩) },
    { I := Nat, f := 115, G := (fun u => u ≤ 64), A := (fun u => [.int .i64 u]), R := (fun u => .int .i64 (Lib.l10 u)), body := (by kernel_rfl), inj := (fun i j _ _ h => by simp only [List.cons.injEq, AV.int.injEq, true_and, and_true] at h; rw [Int.ofNat_inj.1 h]), ok := (fun u h => ⟨rfl, log10_ok u h⟩) },
    { I := Bool, f := 117, G := (fun _ => True), A := (fun b => [.bool b]), R := (fun b => .int .i64 (if b then 1 else 0)), body := (by kernel_rfl), inj := (fun i j _ _ h => by simp only [List.cons.injEq, AV.bool.injEq, and_true] at h; rw [h]), ok := (fun b _ => ⟨rfl, bool2_ok b⟩) }] rfl
  have r1 : ∀ H, acall Tryz.prog O H 116 [.int .u64 u] = some (.int .i64 (Lib.bitLen u), H) := q1 u h2
  have r2 : ∀ H, acall Tryz.prog O H 115 [.int .i64 (Lib.bitLen u)] = some (.int .i64 (Lib.l10 (Lib.bitLen u)), H) := q2 _ (bitLen_64 u h2)
  have r3 : ∀ b H, acall Tryz.prog O H 117 [.bool b] = some (.int .i64 (if b then 1 else 0), H) := fun b => q3 b trivial
  clear q1 q2 q3
  obtain ⟨e1, e2⟩ := Lib.numDigits_eq u h1 h2
  generalize Lib.nDigits u = nd at *
  generalize Lib.l10 (Lib.bitLen u) = l at *
  generalize Lib.bitLen u = bl at *
  have hp := p10_at l (by omega)
  have hd : decide ((u : Int) ≥ ((10 ^ l : Nat) : Int)) = decide (10 ^ l ≤ u) := by
    have : ((u : Int) ≥ ((10 ^ l : Nat) : Int)) ↔ 10 ^ l ≤ u := by omega
    simp only [this]
  have hw : IntKind.i64.wrap ((l : Int) + (if decide (10 ^ l ≤ u) then 1 else 0)) = (nd : Int) := by
    have : ((l : Int) + (if decide (10 ^ l ≤ u) = true then 1 else 0)) = (nd : Int) := by
      rw [← e1]; by_cases h : 10 ^ l ≤ u <;> simp [h]
    rw [this]; exact wrapB (by omega) (by split at e1 <;> omega)
  refine fn_val follows noNum hO Tryz.func99 rfl ?_
  repeat' ((conv => whnf); first | (with_reducible refine exI (r1 _) ?_) | (with_reducible refine exI (r2 _) ?_) | (rw [hd]; with_reducible refine exI (r3 _ _) ?_) | (refine exI hp ?_) | (with_reducible refine ixJ l rfl ?_ ?_; (focus (omega))) | (with_reducible refine exW hw ?_) | (first | refine stp ?_ | with_reducible refine condB (fun h => ?_) (fun h => ?_)))
  all_goals rfl
def dig2 (n : Nat) : List UInt8 := if n < 10 then [UInt8.ofNat (48 + n)] else [UInt8.ofNat (48 + n / 10), UInt8.ofNat (48 + n % 10)]
theorem dig2_eq (n : Nat) (h : n < 100) : dig2 n = digN n := by
  unfold dig2
  by_cases h1 : n < 10
  · rw [if_pos h1, dig_one h1]
  · rw [if_neg h1, dig_more h1, dig_one (by omega)]; rfl
theorem fi_all : ((List.range 100).all fun n => isStrB (dig2 n) (frun Tryz.prog (fun _ => none) [] 100000 100 34 [.int .i64 (Int.ofNat n), .int .i64 10] TH.empty)) = true := by kernel_rfl
theorem fi_small {gl : Glob} (n : Nat) (hn : n < 100) : ValOK Tryz.prog gl 34 [.int .i64 n, .int .i64 10] (.str (digN n)) := by
  have h : ValOK Tryz.prog (fun _ => none) 34 [.int .i64 n, .int .i64 10] (.str (dig2 n)) := val_run (List.all_eq_true.1 fi_all n (List.mem_range.2 hn))
  rw [dig2_eq n hn] at h
  exact fun sn W cargs hg hR ha => h sn W cargs (fun g cs h => by cases h) hR ha
theorem strS : aConvS Tryz.prog 65 9 = true := by kernel_rfl
theorem slA_ok {P : Program} {orc : Orc} {ρ : Operand → Option AV} {o : Oper} {H : AHeap} {t e : TypeId} {x lo hi : Operand} {b off f sh n z : Nat} {cs : List AV} {ty : TypeId} (l h off' len' cap' : Nat) (ho : o.op = .slice t x (some lo) (some hi) none) (hx : ρ x = some (.ptr b off)) (hlo : ρ lo = some (.int .i64 (l : Int))) (hhi : ρ hi = some (.int .i64 (h : Int)))
    (ht : P.underlying t = some (.array n e) ∧ tsz P e = some z) (hH : H[b]? = some ⟨true, f, sh, .cells cs ty⟩) (hc : Nat.ble (off + n * z) cs.length = true) (h1 : l ≤ h) (h2 : h ≤ n) (e1 : off + l * z = off') (e2 : h - l = len') (e3 : n - l = cap') : aop P orc ρ o H = some (.slice b off' len' cap' z, H) := by
  subst e1; subst e2; subst e3
  have c1 : bnd (some (.int .i64 (h : Int))) n n = some h := by simp only [bnd]; rw [if_pos (by omega), Int.toNat_natCast]
  have c2 : bnd (some (.int .i64 (l : Int))) 0 h = some l := by simp only [bnd]; rw [if_pos (by omega), Int.toNat_natCast]
  simp only [aop, apure', apure, aeff, ho, hx, hlo, hhi, aopt, aSlice, aSliceA, ht.1, ht.2, hH, hc, c1, c2, if_true]
theorem arrT : Tryz.prog.underlying 146 = some (.array 24 5) ∧ tsz Tryz.prog 5 = some 1 := ⟨by kernel_rfl, by kernel_rfl⟩
theorem nD_le (u : Nat) (h1 : 1 ≤ u) (h2 : u < 18446744073709551616) : Lib.nDigits u ≤ 20 := by
  obtain ⟨e1, e2⟩ := Lib.numDigits_eq u h1 h2
  split at e1 <;> omega
theorem fi_big (u : Nat) (h1 : 100 ≤ u) (h2 : u ≤ 9223372036854775807) : ValOK Tryz.prog runLives.gl 71 [.int .i64 u, .int .i64 10] (.str (digN u)) := by
  obtain ⟨O, hO, ⟨q2, -⟩, ⟨q1, -⟩⟩ := famsM (P := Tryz.prog) (gl := runLives.gl) [
    { I := Unit, f := 100, G := (fun _ => True), A := (fun _ => [.slice 0 1 (Lib.nDigits u) 23 1, .int .u64 u]), H := (fun _ => [⟨true, 0, 0, .cells (byt (List.replicate 24 0)) 146⟩]), R := (fun _ => .tuple []), O := (fun _ => [⟨true, 0, 0, .cells (byt ((List.replicate 24 0).take 1 ++ (Lib.decDigits u ++ (List.replicate 24 0).drop (1 + Lib.nDigits u)))) 146⟩]), body := (by kernel_rfl), inj := (fun _ _ _ _ _ _ => ⟨rfl, rfl⟩),
      ok := (fun _ _ => fb_ok u (by omega) (List.replicate 24 0) (by simp) (by have := nD_le u (by omega) (by omega); omega) 23 _) }] [
    { I := Unit, f := 99, G := (fun _ => True), A := (fun _ => [.int .u64 u]), R := (fun _ => .int .i64 (Lib.nDigits u)), body := (by kernel_rfl), inj := (fun _ _ _ _ _ => rfl), ok := (fun _ _ => ⟨rfl, nd_ok u (by omega) (by omega)⟩) }] rfl
  have r1 : ∀ H, acall Tryz.prog O H 99 [.int .u64 u] = some (.int .i64 (Lib.nDigits u), H) := q1 () trivial
  have r2 := q2 () trivial
  dsimp only at r2
  clear q1 q2
  have hlen := Lib.decDigits_length u
  rw [digN_eq]
  have hnd : Lib.nDigits u ≤ 20 := nD_le u (by omega) (by omega)
  generalize Lib.decDigits u = D at *
  generalize Lib.nDigits u = nd at *
  have hlenB : (byt ((List.replicate 24 (0 : UInt8)).take 1 ++ (D ++ (List.replicate 24 0).drop (1 + nd)))).length = 24 := by rw [byt_len]; simp only [List.length_append, List.length_take, List.length_drop, List.length_replicate]; omega
  have hble : Nat.ble (0 + 24 * 1) (byt ((List.replicate 24 (0 : UInt8)).take 1 ++ (D ++ (List.replicate 24 0).drop (1 + nd)))).length = true := by rw [hlenB]; rfl
  have hcv : tk nd ((byt ((List.replicate 24 (0 : UInt8)).take 1 ++ (D ++ (List.replicate 24 0).drop (1 + nd)))).drop 1) = some (byt D) := by
    have h : (byt ((List.replicate 24 (0 : UInt8)).take 1 ++ (D ++ (List.replicate 24 0).drop (1 + nd)))).drop 1 = byt D ++ byt ((List.replicate 24 (0 : UInt8)).drop (1 + nd)) := by rw [← byt_app]; rfl
    rw [h, ← hlen, ← byt_len D]; exact tk_app _ _
  have e1 : decide ((0 : Int) ≤ (u : Int)) = true := by simp
  have e2 : decide ((u : Int) < 100) = false := by simp; omega
  have e3 : decide ((u : Int) < 0) = false := by simp
  have w1 : IntKind.u64.wrap (u : Int) = (u : Int) := by simp [IntKind.wrap, IntKind.bits, IntKind.signed]; omega
  have w2 : IntKind.i64.wrap (1 + (nd : Int)) = ((1 + nd : Nat) : Int) := by
    have : 1 + (nd : Int) = ((1 + nd : Nat) : Int) := by omega
    rw [this]; exact wrapB (by omega) (by omega)
  refine fn_val follows noNum hO Tryz.func71 rfl ?_
  repeat' ((conv => whnf); first | (rw [w1]; with_reducible refine exI (r1 _) ?_) | (refine exI r2 ?_) | (refine exI (slA_ok 1 (1 + nd) 1 nd 23 rfl rfl rfl rfl arrT rfl rfl (by omega) (by omega) rfl (by omega) rfl) ?_) | (refine exI (slA_ok 1 (1 + nd) 1 nd 23 rfl rfl rfl rfl arrT rfl hble (by omega) (by omega) rfl (by omega) rfl) ?_) | (refine exI (cstr_ok D rfl rfl strS rfl hcv) ?_) | (with_reducible refine exW w1 ?_) | (with_reducible refine exW w2 ?_) | (first | refine stp ?_ | with_reducible refine condB (fun h => ?_) (fun h => ?_)))
  all_goals rfl
theorem fmt_ok (n : Int) (h0 : 0 ≤ n) (h1 : rgI n) : ValOK Tryz.prog runLives.gl 34 [.int .i64 n, .int .i64 10] (.str (digI n)) := by
  obtain ⟨u, rfl⟩ : ∃ u : Nat, n = u := ⟨n.toNat, by omega⟩
  have h2 : u ≤ 9223372036854775807 := by have := h1.2; omega
  show ValOK Tryz.prog runLives.gl 34 [.int .i64 u, .int .i64 10] (.str (digN (u : Int).toNat))
  rw [Int.toNat_natCast]
  by_cases hs : u < 100
  · exact fi_small u hs
  · obtain ⟨O, hO, q1, -⟩ := fams (P := Tryz.prog) (gl := runLives.gl) [{ I := Unit, f := 71, G := (fun _ => True), A := (fun _ => [.int .i64 u, .int .i64 10]), R := (fun _ => .str (digN u)), body := (by kernel_rfl), inj := (fun _ _ _ _ _ => rfl), ok := (fun _ _ => ⟨rfl, fi_big u (by omega) h2⟩) }] rfl
    have r1 : ∀ H, acall Tryz.prog O H 71 [.int .i64 u, .int .i64 10] = some (.str (digN u), H) := q1 () trivial
    clear q1
    refine fn_val follows noNum hO Tryz.func34 rfl ?_
    repeat' ((conv => whnf); first | (with_reducible refine exI (r1 _) ?_) | (first | refine stp ?_ | with_reducible refine condB (fun h => ?_) (fun h => ?_)))
    all_goals rfl
end Go.Proofs.YtkkfcfjhhdmamaaGreatDoor.lex
end


section

set_option linter.unusedVariables false
set_option linter.unusedSimpArgs false
namespace Go.Proofs.YtkkfcfjhhdmamaaGreatDoor.lex
open Go.Abs Go.RowKit Go.Sort
set_option maxRecDepth 100000
set_option maxHeartbeats 4000000
theorem digR_okN : ∀ (k u : Nat), u < 10 ^ (k + 1) → u ≤ 9223372036854775807 → ValOK Tryz.prog runLives.gl 55 [.int .i64 u] (.str (digN u)) := by
  intro k
  have b8 : ∀ m : Nat, m < 10 → IntKind.i64.wrap (48 + (m : Int)) = ((48 + m : Nat) : Int) ∧ IntKind.u8.wrap ((48 + m : Nat) : Int) = ((UInt8.ofNat (48 + m)).toNat : Int) := by
    intro m hm
    have h1 : (48 + (m : Int)) = ((48 + m : Nat) : Int) := by omega
    refine ⟨by rw [h1]; exact wrapB (by omega) (by omega), ?_⟩
    have h2 : (UInt8.ofNat (48 + m)).toNat = 48 + m := by rw [UInt8.toNat_ofNat']; omega
    rw [h2]
    simp [IntKind.wrap, IntKind.bits, IntKind.signed]; omega
  induction k with
  | zero =>
    intro u hu hm
    have hu' : u < 10 := by omega
    have e1 : decide ((u : Int) < 10) = true := by simp; omega
    obtain ⟨w1, w2⟩ := b8 u hu'
    have hcv : tk 1 (List.drop 0 [AV.int .u8 (IntKind.u8.wrap ((48 + u : Nat) : Int))]) = some (byt [UInt8.ofNat (48 + u)]) := by rw [w2]; rfl
    rw [dig_one hu']
    refine fn_val follows noNum none_sound Tryz.func55 rfl ?_
    repeat' ((conv => whnf); first | (with_reducible refine exW w1 ?_) | (refine exI (cstr_ok _ rfl rfl strS rfl hcv) ?_) | (refine exI (cstrP_ok _ rfl rfl strS rfl hcv) ?_) | (first | refine stp ?_ | with_reducible refine condB (fun h => ?_) (fun h => ?_)))
    all_goals rfl
  | succ k ih =>
    intro u hu hm
    by_cases hu' : u < 10
    · exact ih u (Nat.lt_of_lt_of_le hu' (by rw [Nat.pow_succ]; have := Nat.pow_pos (n := k) (show 0 < 10 by omega); omega)) hm
    · have e1 : decide ((u : Int) < 10) = false := by simp; omega
      have hq := ih (u / 10) (by rw [Nat.pow_succ] at hu; omega) (by omega)
      obtain ⟨w1, w2⟩ := b8 (u % 10) (by omega)
      have hcv : tk 1 (List.drop 0 [AV.int .u8 (IntKind.u8.wrap ((48 + u % 10 : Nat) : Int))]) = some (byt [UInt8.ofNat (48 + u % 10)]) := by rw [w2]; rfl
      have w3 : IntKind.i64.wrap (Int.tdiv (u : Int) 10) = ((u / 10 : Nat) : Int) := by
        have : Int.tdiv (u : Int) 10 = ((u / 10 : Nat) : Int) := rfl
        rw [this]; exact wrapB (by omega) (by omega)
      have w4 : Int.tmod (u : Int) 10 = ((u % 10 : Nat) : Int) := rfl
      have w5 : IntKind.i64.wrap (Int.tmod (u : Int) 10) = ((u % 10 : Nat) : Int) := by rw [w4]; exact wrapB (by omega) (by omega)
      rw [dig_more hu']
      obtain ⟨O, hO, q1, -⟩ := fams (P := Tryz.prog) (gl := runLives.gl) [{ I := Unit, f := 55, G := (fun _ => True), A := (fun _ => [.int .i64 ((u / 10 : Nat) : Int)]), R := (fun _ => .str (digN (u / 10))), body := (by kernel_rfl), inj := (fun _ _ _ _ _ => rfl), ok := (fun _ _ => ⟨rfl, hq⟩) }] rfl
      have r1 : ∀ H, acall Tryz.prog O H 55 [.int .i64 ((u / 10 : Nat) : Int)] = some (.str (digN (u / 10)), H) := q1 () trivial
      clear q1 ih hq
      have hD : (digN (u / 10)).length ≤ 20 := dig_len 19 (u / 10) (by omega)
      have hD2 : (digN (u / 10)).length + [UInt8.ofNat (48 + u % 10)].length ≤ 9223372036854775807 := by simp only [List.length_cons, List.length_nil]; omega
      clear hD
      generalize digN (u / 10) = D at *
      generalize u / 10 = q at *
      generalize u % 10 = m at *
      refine fn_val follows noNum hO Tryz.func55 rfl ?_
      repeat' ((conv => whnf); first | (with_reducible refine exW w1 ?_) | (with_reducible refine And.intro hD2 ?_) | (refine And.intro (show (10 : Int) ≠ 0 by decide) ?_; rw [w3]) | (refine And.intro (show (10 : Int) ≠ 0 by decide) ?_; rw [w4]) | (with_reducible refine exI (r1 _) ?_) | (refine exI (cstr_ok _ rfl rfl strS rfl hcv) ?_) | (refine exI (cstrP_ok _ rfl rfl strS rfl hcv) ?_) | (first | refine stp ?_ | with_reducible refine condB (fun h => ?_) (fun h => ?_)))
      conv => whnf
      all_goals rfl
theorem digsR_ok (n : Int) (h0 : 0 ≤ n) (h1 : rgI n) : ValOK Tryz.prog runLives.gl 55 [.int .i64 n] (.str (digI n)) := by
  obtain ⟨u, rfl⟩ := Int.eq_ofNat_of_zero_le h0
  have h2 : u ≤ 9223372036854775807 := by have := h1.2; omega
  exact digR_okN 19 u (by omega) h2
end Go.Proofs.YtkkfcfjhhdmamaaGreatDoor.lex
end


section

set_option linter.unusedVariables false
set_option linter.unusedSimpArgs false
namespace Go.Proofs.YtkkfcfjhhdmamaaGreatDoor.lex
open Go.Abs Go.RowKit
set_option maxRecDepth 100000
set_option maxHeartbeats 4000000
variable {gl : Glob}
abbrev tW : TypeId := 69
abbrev tB : TypeId := 5
theorem apB : appT Tryz.prog 65 9 = some (5, 1, 1) := by kernel_rfl
theorem unsU : Tryz.prog.underlying 162 = some .unsafePointer := by kernel_rfl
theorem unsB : Tryz.prog.underlying 64 = some (.pointer 67) := by kernel_rfl
theorem unsL : liesAt Tryz.prog Tryz.prog.depth 69 1 0 67 1 = true := by kernel_rfl
theorem unsC : Tryz.prog.cellsOf 69 = 3 := by kernel_rfl
theorem unsZ : tsz Tryz.prog 67 = some 2 := by kernel_rfl
theorem cnvP {H : AHeap} {b f : Nat} {c1 c2 c3 : AV} (h : H[b]? = some ⟨true, f, 0, .cells [c1, c2, c3] tW⟩) : aConvP Tryz.prog 162 64 b 0 H = true := by
  unfold aConvP
  simp only [h, unsU, unsB, unsZ, unsC, unsL]
  rfl
theorem cnv_ok {orc : Orc} {ρ : Operand → Option AV} {o : Oper} {x : Operand} {H : AHeap} {b f : Nat} {c1 c2 c3 : AV} (ho : o.op = .convert 162 64 x) (hx : ρ x = some (.ptr b 0)) (h : H[b]? = some ⟨true, f, 0, .cells [c1, c2, c3] tW⟩) : aop Tryz.prog orc ρ o H = some (.ptr b 0, H) := by
  have hc := cnvP h
  simp [aop, apure', apure, aeff, ho, hx, aConv, unsU, unsB, aConvB, hc]
theorem flat_take (l : List (List UInt8)) (i : Nat) (h : i < l.length) : (l.take (i + 1)).flatten = (l.take i).flatten ++ l[i] := by
  rw [List.take_succ_eq_append_getElem h, List.flatten_append]; simp only [List.flatten_cons, List.flatten_nil, List.append_nil]
theorem flat_le (l : List (List UInt8)) (i : Nat) (h : i < l.length) : (l.take i).flatten.length + l[i].length ≤ l.flatten.length := by
  have h1 : l = l.take (i + 1) ++ l.drop (i + 1) := (List.take_append_drop _ _).symm
  have h2 := congrArg (fun m => m.flatten.length) h1
  simp only [List.flatten_append, List.length_append, flat_take l i h] at h2
  omega
theorem put_ok (l : List (List UInt8)) (s : List UInt8) (d : Int) (hl : l.length ≤ 100) (h0 : s = [] → ∃ x t, l = x :: t ∧ x ≠ []) (hb : (s ++ l.flatten).length ≤ 1073741824) :
    MemQ Tryz.prog gl 1 33 [.ptr 0 0, .rs l.length 1 (l.map AV.str)] (WH tW tB s d) (.tuple []) (WH tW tB (s ++ l.flatten) d) := by
  refine fn_memqI (fun g => false) 3 follows noNum none_sound Tryz.func33 rfl ?_
  repeat' ((conv => whnf); first | refine stp ?_ | with_reducible refine condB (fun h => ?_) (fun h => ?_))
  conv => whnf
  have hz : ∀ s : List UInt8, ∃ m, pref 1 0 m = true ∧ HpGe (WH tW tB s d) m m (WH tW tB s d) 0 ∧ nodupN (m.map (famOf (WH tW tB s d))) = true ∧ m[0]? = some 0 := by
    intro s
    cases s with
    | nil => exact ⟨[0], rfl, wh_ge0 rfl rfl, rfl, rfl⟩
    | cons x s => exact ⟨[0, 1], rfl, wh_ge (s := x :: s) (List.cons_ne_nil _ _) rfl rfl rfl rfl rfl, rfl, rfl⟩
  refine ⟨Nat × List UInt8, (fun p => p.1 ≤ l.length ∧ p.2 = s ++ (l.take p.1).flatten ∧ (p.2 = [] → p.1 = 0)), (fun p => [(0, .ptr 0 0), (6, .rs l.length 1 (l.map AV.str)), (7, .int .i64 l.length), (8, .int .i64 p.1)]), (fun p => WH tW tB p.2 d), (fun p => l.length - p.1), ⟨(0, s), ⟨Nat.zero_le _, by simp, fun _ => rfl⟩, ?_⟩, ?_⟩
  · obtain ⟨m, m1, m2, m3, m4⟩ := hz s
    refine FgLK.mk m m1 rfl ?_ m2 m3
    refine And.intro (Wk.ptr m4 rfl) ?_
    refine And.intro (Wk.noref rfl) ?_
    refine And.intro (Wk.int rfl) ?_
    exact ⟨Wk.int rfl, trivial⟩
  rintro ⟨i, acc⟩ ⟨h1, h2, h3⟩
  dsimp only at h1 h2 h3
  dsimp only
  clear hz
  by_cases hlt : i < l.length
  · have e1 : decide ((i : Int) < (l.length : Int)) = true := by simpa using hlt
    have hx := tk1_map AV.str l i hlt (off := i * 1) (by omega)
    have hft := flat_take l i hlt
    have hfl := flat_le l i hlt
    have hh : acc = [] → l[i] ≠ [] := by
      intro e
      have hi := h3 e
      subst hi
      rw [e] at h2
      have hs : s = [] := by
        have := h2.symm
        simp at this; exact this
      obtain ⟨x', t', rfl, hx'⟩ := h0 hs
      simpa using hx'
    generalize l[i] = x at *
    have hab : acc.length + x.length ≤ 1073741824 := by
      rw [h2, List.length_append]
      rw [List.length_append] at hb; omega
    have h4 : acc ++ x = s ++ (l.take (i + 1)).flatten := by rw [hft, h2, List.append_assoc]
    clear hft hfl hb h0 h2
    cases acc with
    | nil =>
      have hne := hh rfl
      obtain ⟨c, t, rfl⟩ : ∃ c t, x = c :: t := by cases x with | nil => exact absurd rfl hne | cons c t => exact ⟨c, t, rfl⟩
      simp only [WH]
      repeat' ((conv => whnf); first | (refine exI (cnv_ok rfl rfl rfl) ?_) | (refine exI hx ?_) | (refine exI (app_nil apB (xs := byt (c :: t)) (n := (c :: t).length) rfl (by simp) ⟨by simp at hab ⊢; omega, by simp at hab ⊢; omega⟩) ?_) | (with_reducible refine ixJ i rfl ?_ ?_; (focus (omega))) | (first | refine stp ?_ | with_reducible refine condB (fun h => ?_) (fun h => ?_)))
      conv => whnf
      refine ⟨(i + 1, c :: t), ⟨hlt, h4, fun e => by cases e⟩, by show l.length - (i + 1) < l.length - i; omega, FgLK.mk [0, 1] rfl rfl ?_ (wh_ge (s := c :: t) (List.cons_ne_nil _ _) rfl rfl rfl rfl rfl) rfl⟩
      refine And.intro (Wk.ptr rfl rfl) ?_
      refine And.intro (Wk.noref rfl) ?_
      refine And.intro (Wk.int rfl) ?_
      exact ⟨Wk.int rfl, trivial⟩
    | cons y u =>
      simp only [WH]
      by_cases hxe : x = []
      · subst hxe
        repeat' ((conv => whnf); first | (refine exI hx ?_) | (refine exI (app_zero apB rfl) ?_) | (with_reducible refine ixJ i rfl ?_ ?_; (focus (omega))) | (first | refine stp ?_ | with_reducible refine condB (fun h => ?_) (fun h => ?_)))
        conv => whnf
        refine ⟨(i + 1, y :: u), ⟨hlt, by rw [← h4]; simp, fun e => by cases e⟩, by show l.length - (i + 1) < l.length - i; omega, FgLK.mk [0, 1] rfl rfl ?_ (wh_ge (s := y :: u) (List.cons_ne_nil _ _) rfl rfl rfl rfl rfl) rfl⟩
        refine And.intro (Wk.ptr rfl rfl) ?_
        refine And.intro (Wk.noref rfl) ?_
        refine And.intro (Wk.int rfl) ?_
        exact ⟨Wk.int rfl, trivial⟩
      · have hxl : x.length ≠ 0 := fun e => hxe (List.eq_nil_of_length_eq_zero e)
        repeat' ((conv => whnf); first | (refine exI hx ?_) | (refine exI (app_okG apB (xs := byt x) (n := x.length) (cs := byt (y :: u)) rfl rfl (ekil_le (by simp [ABody.len])) ((byt_len _).trans (Nat.mul_one _).symm) (byt_one x) hxl ⟨by simp at hab ⊢; omega, by simp at hab ⊢; omega⟩) ?_) | (with_reducible refine ixJ i rfl ?_ ?_; (focus (omega))) | (first | refine stp ?_ | with_reducible refine condB (fun h => ?_) (fun h => ?_)))
        conv => whnf
        refine ⟨(i + 1, y :: (u ++ x)), ⟨hlt, h4, fun e => by cases e⟩, by show l.length - (i + 1) < l.length - i; omega, FgLK.mk [0, 2] rfl rfl ?_ (wh_ge (s := y :: (u ++ x)) (List.cons_ne_nil _ _) rfl rfl (show (y :: u).length + x.length = (y :: (u ++ x)).length by simp; omega) rfl (show byt (y :: u) ++ byt x = byt (y :: (u ++ x)) by rw [← byt_app]; rfl)) rfl⟩
        refine And.intro (Wk.ptr rfl rfl) ?_
        refine And.intro (Wk.noref rfl) ?_
        refine And.intro (Wk.int rfl) ?_
        exact ⟨Wk.int rfl, trivial⟩
  · have e1 : decide ((i : Int) < (l.length : Int)) = false := by simpa using hlt
    have hi2 : i = l.length := by omega
    subst hi2
    rw [List.take_length] at h2
    subst h2
    cases hc : s ++ l.flatten with
    | nil =>
      have := h3 hc
      simp only [WH]
      repeat' ((conv => whnf); first | refine stp ?_ | with_reducible refine condB (fun h => ?_) (fun h => ?_))
      conv => whnf
      exact ⟨[0], rfl, wh_ge0 (tB := tB) rfl rfl, rfl, Wk.noref rfl⟩
    | cons y u =>
      simp only [WH]
      repeat' ((conv => whnf); first | refine stp ?_ | with_reducible refine condB (fun h => ?_) (fun h => ?_))
      conv => whnf
      exact ⟨[0, 1], rfl, wh_ge (s := y :: u) (List.cons_ne_nil _ _) rfl rfl rfl rfl rfl, rfl, Wk.noref rfl⟩
end Go.Proofs.YtkkfcfjhhdmamaaGreatDoor.lex
end


section

set_option linter.unusedVariables false
set_option linter.unusedSimpArgs false
namespace Go.Proofs.YtkkfcfjhhdmamaaGreatDoor.lex
open Go.Abs Go.RowKit
set_option maxRecDepth 100000
set_option maxHeartbeats 4000000
abbrev rgl : Glob := runLives.gl
theorem strs_inj : ∀ {a b : List (List UInt8)}, a.map AV.str = b.map AV.str → a = b
  | [], [], _ => rfl
  | [], _ :: _, h => by simp at h
  | _ :: _, [], h => by simp at h
  | x :: a, y :: b, h => by
    simp only [List.map_cons, List.cons.injEq, AV.str.injEq] at h
    rw [h.1, strs_inj h.2]
def wmPut : WM Tryz.prog rgl tW tB where
  f := 33
  X := List (List UInt8) × Int
  G := fun x => x.1.length ≤ 100
  G0 := fun x => ∃ a t, x.1 = a :: t ∧ a ≠ []
  A := fun x => [.rs x.1.length 1 (x.1.map AV.str)]
  D := fun x => x.2
  T := fun x => x.1.flatten
  L := 1073741824
  body := by kernel_rfl
  inj := by
    rintro x y _ _ h _
    simp only [List.cons.injEq, AV.rs.injEq, and_true, true_and] at h
    rw [strs_inj h.2]
  ne := by
    rintro x _ ⟨a, t, e, ha⟩
    rw [e]; simp [ha]
  ok := fun x g s h0 hb => put_ok x.1 s x.2 g h0 hb
theorem put1 {O : Orc} (h : wmPut.fam.Ask O) (l : List (List UInt8)) (t : List UInt8) (ht : l.flatten = t) (hl : Nat.ble l.length 100 = true) {s : List UInt8} {b c fb fc : Nat} {H : AHeap} {rest : List AV} {d : Int} (hs : s ≠ []) (hb : (s ++ t).length ≤ 1073741824) (e2 : H[b]? = some ⟨true, fb, 0, .cells [.ptr b 0, .slice c 0 s.length s.length 1, .int .i64 d] tW⟩)
    (e1 : H[c]? = some ⟨true, fc, 0, .cells (byt s) tB⟩) (e3 : Nat.beq fb fc = false) (e4 : loneA [b, c] [fb, fc] 0 H = true) (e5 : frzL (frzM [b, c] (kilM [b, c] H) 30) rest = some [.rs l.length 1 (l.map AV.str)]) :
    acall Tryz.prog O H 33 (.ptr b 0 :: rest) = some (.tuple [], out1 tW tB H b c fb fc (s ++ t) d) := by
  subst ht; exact WM.ask1 (W := wmPut) h (l, d) (Nat.le_of_ble_eq_true hl) hs hb e1 e2 e3 e4 e5
theorem put0 {O : Orc} (h : wmPut.fam.Ask O) (a : List UInt8) (l : List (List UInt8)) (t : List UInt8) (ht : (a :: l).flatten = t) (hl : Nat.ble (a :: l).length 100 = true) (ha : a ≠ []) {b fb : Nat} {H : AHeap} {rest : List AV} {d : Int} (hb : t.length ≤ 1073741824) (e1 : H[b]? = some ⟨true, fb, 0, .cells [.nptr, .nslice, .int .i64 d] tW⟩)
    (e2 : loneA [b] [fb] 0 H = true) (e3 : famLt H.length H = true) (e4 : frzL (frzM [b] (kilM [b] H) 30) rest = some [.rs (a :: l).length 1 ((a :: l).map AV.str)]) :
    acall Tryz.prog O H 33 (.ptr b 0 :: rest) = some (.tuple [], out0 tW tB H b fb t d) := by
  subst ht; exact WM.ask0 (W := wmPut) h (a :: l, d) (Nat.le_of_ble_eq_true hl) ⟨a, l, rfl, ha⟩ hb e1 e2 e3 e4
def famRep : Fam Tryz.prog rgl := { I := Nat, f := 102, G := (fun n => n < 40), A := (fun n => [.str [32, 32], .int .i64 n]), R := (fun n => .str (spc n)), body := (by kernel_rfl), inj := (fun i j _ _ h => by simp only [List.cons.injEq, AV.int.injEq, true_and, and_true] at h; rw [Int.ofNat_inj.1 h]), ok := (fun n h => ⟨rfl, rep_ok n h⟩) }
theorem begin_ok (n : Nat) (hn : n < 40) (s : List UInt8) (hs : s ≠ []) (hb : (s ++ spc n).length ≤ 1073741824) : MemQ Tryz.prog rgl 1 72 [.ptr 0 0] (WH tW tB s n) (.tuple []) (WH tW tB (s ++ spc n) n) := by
  obtain ⟨O, hO, ⟨p1, -⟩, ⟨p2, -⟩⟩ := famsM (P := Tryz.prog) (gl := rgl) [wmPut.fam] [famRep] rfl
  have q2 : ∀ H, acall Tryz.prog O H 102 [.str [32, 32], .int .i64 n] = some (.str (spc n), H) := p2 n hn
  obtain ⟨c, t, rfl⟩ : ∃ c t, s = c :: t := by cases s with | nil => exact absurd rfl hs | cons c t => exact ⟨c, t, rfl⟩
  generalize spc n = sp at *
  refine fn_memqC follows noNum hO Tryz.func72 rfl ?_
  simp only [WH]
  repeat' ((conv => whnf); first | (with_reducible refine exI (q2 _) ?_) | (refine exO1 (put1 p1 [sp] sp (List.append_nil _) rfl (s := c :: t) ?_ ?_ rfl rfl rfl rfl rfl) ?_; (focus (first | exact List.cons_ne_nil _ _ | assumption | (simp; done) | (intro hz; simp only [List.append_eq_nil_iff] at hz; simp_all; done))); (focus ((try simp only [List.length_append, List.length_cons, List.length_nil] at *); omega))) | (first | refine stp ?_ | with_reducible refine condB (fun h => ?_) (fun h => ?_)))
  conv => whnf
  exact ⟨[0, 3], rfl, wh_ge (s := c :: t ++ sp) (List.cons_ne_nil _ _) rfl rfl rfl rfl rfl, rfl, Wk.noref rfl⟩
end Go.Proofs.YtkkfcfjhhdmamaaGreatDoor.lex
end


section

set_option linter.unusedVariables false
set_option linter.unusedSimpArgs false
namespace Go.Proofs.YtkkfcfjhhdmamaaGreatDoor.lex
open Go.Abs Go.RowKit
set_option maxRecDepth 100000
set_option maxHeartbeats 4000000
theorem right_cases {e : Ex} (h : rightE e = true) : (∃ n, e = .mk 1 n [] [] ∧ 0 ≤ n) ∨ (∃ s, e = .mk 2 0 s [] ∧ wordB s = true) ∨ (∃ op a, (op = 3 ∨ op = 4) ∧ e = .mk op 0 [] [a] ∧ rightE a = true) ∨
    (∃ op a b, (5 ≤ op ∧ op ≤ 16) ∧ e = .mk op 0 [] [a, b] ∧ rightE a = true ∧ rightE b = true) := by
  obtain ⟨op, num, name, kids⟩ := e
  simp only [rightE, ownF, Bool.and_eq_true, beq_iff_eq, Bool.or_eq_true, decide_eq_true_eq] at h
  obtain ⟨⟨h1, h2, h3, h4, h5⟩, h6⟩ := h
  unfold kidsI at h1
  split at h1
  · rename_i hop
    have hk : kids = [] := List.eq_nil_of_length_eq_zero (by omega)
    subst hk
    rcases hop with rfl | rfl
    · have hn : name = [] := by rcases h3 with h | h; exact absurd h (by decide); exact h
      subst hn
      exact .inl ⟨num, rfl, h4⟩
    · have hm : num = 0 := by rcases h5 with h | h; exact absurd h (by decide); exact h
      subst hm
      exact .inr (.inl ⟨name, rfl, by simpa using h2.symm⟩)
  · rename_i ho1
    have hn : name = [] := by rcases h3 with h | h; omega; exact h
    have hm : num = 0 := by rcases h5 with h | h; omega; exact h
    subst hn; subst hm
    split at h1
    · rename_i hop
      match kids, h1, h6 with
      | [a], _, h6 =>
        simp only [rightL, Bool.and_true] at h6
        exact .inr (.inr (.inl ⟨op, a, hop, rfl, h6⟩))
      | [], h1, _ => simp at h1
      | _ :: _ :: _, h1, _ => simp only [List.length_cons] at h1; omega
    · split at h1
      · rename_i hop
        match kids, h1, h6 with
        | [a, b], _, h6 =>
          simp only [rightL, Bool.and_true, Bool.and_eq_true] at h6
          exact .inr (.inr (.inr ⟨op, a, b, hop, rfl, h6.1, h6.2⟩))
        | [], h1, _ => simp at h1
        | [_], h1, _ => simp at h1
        | _ :: _ :: _ :: _, h1, _ => simp only [List.length_cons] at h1; omega
      · omega
theorem wordB_ne {s : List UInt8} (h : wordB s = true) : s ≠ [] := by rintro rfl; cases h
theorem sgn_ne {op : Int} (h : op = 3 ∨ op = 4) : sgnT op ≠ [] := by rcases h with rfl | rfl <;> decide
theorem wrE_ne {e : Ex} (h : rightE e = true) : wrE e ≠ [] := by
  rcases right_cases h with ⟨n, rfl, _⟩ | ⟨s, rfl, hs⟩ | ⟨op, a, hop, rfl, _⟩ | ⟨op, a, b, hop, rfl, _⟩
  · simp only [wrE, wrL, wrC]; exact dig_pos _
  · simp only [wrE, wrL, wrC]; exact wordB_ne hs
  · simp only [wrE, wrL, wrC]
    rw [if_neg (by omega), if_neg (by omega)]
    simp [sgn_ne hop]
  · simp only [wrE, wrL, wrC]
    rw [if_neg (by omega), if_neg (by omega)]
    simp
theorem brk_ne {p : Int × List UInt8} {n : Int} (h : p.2 ≠ []) : brk p n ≠ [] := by
  unfold brk; split
  · simp
  · exact h
def ExprOK (e : Ex) (least : Int) : Prop := ∀ (s : List UInt8) (d : Int), (s ++ brk (e.op, wrE e) least).length ≤ 1073741824 → MemQ Tryz.prog rgl 1 49 [.ptr 0 0, .agg e.cells, .int .i64 least] (WH tW tB s d) (.tuple []) (WH tW tB (s ++ brk (e.op, wrE e) least) d)
def wmExpr (K : Ex → Int → Prop) (hne : ∀ e l, K e l → rightE e = true) (hok : ∀ e l, K e l → ExprOK e l) : WM Tryz.prog rgl tW tB where
  f := 49
  X := Ex × Int × Int
  G := fun x => K x.1 x.2.1
  G0 := fun _ => True
  A := fun x => [.agg x.1.cells, .int .i64 x.2.1]
  D := fun x => x.2.2
  T := fun x => brk (x.1.op, wrE x.1) x.2.1
  L := 1073741824
  body := by kernel_rfl
  inj := by
    rintro x y _ _ h _
    simp only [List.cons.injEq, AV.int.injEq, and_true, true_and] at h
    have := agg_inj (a := x.1) (b := y.1) (by rw [h.1])
    rw [this, h.2]
  ne := fun x g _ => brk_ne (wrE_ne (hne _ _ g))
  ok := fun x g s _ hb => hok x.1 x.2.1 g s x.2.2 hb
theorem expr1 {K : Ex → Int → Prop} {hne : ∀ e l, K e l → rightE e = true} {hok : ∀ e l, K e l → ExprOK e l} {O : Orc} (h : (wmExpr K hne hok).fam.Ask O) (e : Ex) (l : Int) (g : K e l) {s : List UInt8} {b c fb fc : Nat} {H : AHeap} {rest : List AV} {d : Int} (hs : s ≠ []) (hb : (s ++ brk (e.op, wrE e) l).length ≤ 1073741824)
    (e2 : H[b]? = some ⟨true, fb, 0, .cells [.ptr b 0, .slice c 0 s.length s.length 1, .int .i64 d] tW⟩) (e1 : H[c]? = some ⟨true, fc, 0, .cells (byt s) tB⟩) (e3 : Nat.beq fb fc = false) (e4 : loneA [b, c] [fb, fc] 0 H = true) (e5 : frzL (frzM [b, c] (kilM [b, c] H) 30) rest = some [.agg e.cells, .int .i64 l]) :
    acall Tryz.prog O H 49 (.ptr b 0 :: rest) = some (.tuple [], out1 tW tB H b c fb fc (s ++ brk (e.op, wrE e) l) d) := WM.ask1 (W := wmExpr K hne hok) h (e, l, d) g hs hb e1 e2 e3 e4 e5
theorem expr0 {K : Ex → Int → Prop} {hne : ∀ e l, K e l → rightE e = true} {hok : ∀ e l, K e l → ExprOK e l} {O : Orc} (h : (wmExpr K hne hok).fam.Ask O) (e : Ex) (l : Int) (g : K e l) {b fb : Nat} {H : AHeap} {rest : List AV} {d : Int} (hb : (brk (e.op, wrE e) l).length ≤ 1073741824)
    (e1 : H[b]? = some ⟨true, fb, 0, .cells [.nptr, .nslice, .int .i64 d] tW⟩) (e2 : loneA [b] [fb] 0 H = true) (e3 : famLt H.length H = true) (e4 : frzL (frzM [b] (kilM [b] H) 30) rest = some [.agg e.cells, .int .i64 l]) :
    acall Tryz.prog O H 49 (.ptr b 0 :: rest) = some (.tuple [], out0 tW tB H b fb (brk (e.op, wrE e) l) d) := WM.ask0 (W := wmExpr K hne hok) h (e, l, d) g trivial hb e1 e2 e3 e4
def famLev : Fam Tryz.prog rgl := { I := Int, f := 83, G := (fun _ => True), A := (fun n => [.int .i64 n]), R := (fun n => .int .i64 (lev n)), body := (by kernel_rfl), inj := (fun i j _ _ h => by simp only [List.cons.injEq, AV.int.injEq, true_and, and_true] at h; rw [h]), ok := (fun n _ => ⟨rfl, levX_ok n⟩) }
def famSgn : Fam Tryz.prog rgl := { I := Int, f := 24, G := (fun _ => True), A := (fun n => [.int .i64 n]), R := (fun n => .str (sgnT n)), body := (by kernel_rfl), inj := (fun i j _ _ h => by simp only [List.cons.injEq, AV.int.injEq, true_and, and_true] at h; rw [h]), ok := (fun n _ => ⟨rfl, sgnX_ok n⟩) }
def famOrd : Fam Tryz.prog rgl := { I := Int, f := 22, G := (fun _ => True), A := (fun n => [.int .i64 n]), R := (fun n => .str (ordT n)), body := (by kernel_rfl), inj := (fun i j _ _ h => by simp only [List.cons.injEq, AV.int.injEq, true_and, and_true] at h; rw [h]), ok := (fun n _ => ⟨rfl, ordX_ok n⟩) }
def famFmt : Fam Tryz.prog rgl := { I := Int, f := 34, G := (fun n => 0 ≤ n ∧ rgI n), A := (fun n => [.int .i64 n, .int .i64 10]), R := (fun n => .str (digI n)), body := (by kernel_rfl), inj := (fun i j _ _ h => by simp only [List.cons.injEq, AV.int.injEq, true_and, and_true] at h; rw [h]), ok := (fun n h => ⟨rfl, fmt_ok n h.1 h.2⟩) }
theorem expr_brk {e : Ex} {least : Int} (hr : rightE e = true) (hlt : lev e.op < least) (h0 : ExprOK e 0) (hl0 : ¬ lev e.op < 0) : ExprOK e least := by
  intro s d hb
  have hne := wrE_ne hr
  obtain ⟨O, hO, ⟨p1, p2, -⟩, ⟨p3, -⟩⟩ := famsM (P := Tryz.prog) (gl := rgl) [wmPut.fam, (wmExpr (fun e' l => e' = e ∧ l = 0) (fun e' l h => by rw [h.1]; exact hr) (fun e' l h => by rw [h.1, h.2]; exact h0)).fam] [famLev] rfl
  have q3 : ∀ H, acall Tryz.prog O H 83 [.int .i64 e.op] = some (.int .i64 (lev e.op), H) := p3 e.op trivial
  have ht : brk (e.op, wrE e) least = 40 :: (wrE e ++ [41]) := if_pos hlt
  have ht0 : brk (e.op, wrE e) 0 = wrE e := if_neg hl0
  rw [ht] at hb ⊢
  have q1 := fun {s : List UInt8} {b c fb fc : Nat} {H : AHeap} {rest : List AV} {d : Int} hs hb e2 e1 e3 e4 e5 => expr1 p2 e 0 ⟨rfl, rfl⟩ (s := s) (b := b) (c := c) (fb := fb) (fc := fc) (H := H) (rest := rest) (d := d) hs hb e2 e1 e3 e4 e5
  rw [ht0] at q1
  obtain ⟨lv, hlv⟩ : ∃ lv, lev e.op = lv := ⟨_, rfl⟩
  rw [hlv] at q3 hlt
  have e1 : decide (lv < least) = true := by simpa using hlt
  clear ht ht0 h0 p2 p3 hl0 hlt hlv hr
  simp only [List.length_append, List.length_cons, List.length_nil] at hb
  generalize wrE e = w at *
  obtain ⟨op, num, name, kids⟩ := e
  simp only [Ex.op, Ex.cells] at *
  generalize hN : WH tW tB (s ++ 40 :: (w ++ [41])) d = N
  refine fn_memqC follows noNum hO Tryz.func49 rfl ?_
  cases s with
  | nil =>
    simp only [WH]
    repeat' ((conv => whnf); first | (with_reducible refine exI (q3 _) ?_) | (refine exO0 (put0 p1  [40] [] [40]  rfl rfl (List.cons_ne_nil _ _) ?_ rfl rfl rfl rfl) ?_; (focus ((try simp only [List.length_append, List.length_cons, List.length_nil] at *); omega))) | (refine exO1 (put1 p1  [[41]] [41]  rfl rfl ?_ ?_ rfl rfl rfl rfl rfl) ?_; (focus (first | exact List.cons_ne_nil _ _ | assumption | (simp; done) | (intro hz; simp only [List.append_eq_nil_iff] at hz; simp_all; done))); (focus ((try simp only [List.length_append, List.length_cons, List.length_nil] at *); omega))) | (refine exO1 (q1 ?_ ?_ rfl rfl rfl rfl rfl) ?_; (focus (first | exact List.cons_ne_nil _ _ | assumption | (simp; done) | (intro hz; simp only [List.append_eq_nil_iff] at hz; simp_all; done))); (focus ((try simp only [List.length_append, List.length_cons, List.length_nil] at *); omega))) | (first | refine stp ?_ | with_reducible refine condB (fun h => ?_) (fun h => ?_)))
    conv => whnf
    (apply finE hN; rotate_left; rotate_left; (focus (exact rfl)); (focus (exact rfl)); (focus (exact rfl)); (focus (exact rfl)); (focus (simp; done)); (focus (first | exact List.cons_ne_nil _ _ | assumption | (simp; done) | (intro hz; simp only [List.append_eq_nil_iff] at hz; simp_all; done))))
  | cons c t =>
    simp only [WH]
    repeat' ((conv => whnf); first | (with_reducible refine exI (q3 _) ?_) | (refine exO1 (put1 p1  [[40]] [40]  rfl rfl ?_ ?_ rfl rfl rfl rfl rfl) ?_; (focus (first | exact List.cons_ne_nil _ _ | assumption | (simp; done) | (intro hz; simp only [List.append_eq_nil_iff] at hz; simp_all; done))); (focus ((try simp only [List.length_append, List.length_cons, List.length_nil] at *); omega))) | (refine exO1 (put1 p1  [[41]] [41]  rfl rfl ?_ ?_ rfl rfl rfl rfl rfl) ?_; (focus (first | exact List.cons_ne_nil _ _ | assumption | (simp; done) | (intro hz; simp only [List.append_eq_nil_iff] at hz; simp_all; done))); (focus ((try simp only [List.length_append, List.length_cons, List.length_nil] at *); omega))) | (refine exO1 (q1 ?_ ?_ rfl rfl rfl rfl rfl) ?_; (focus (first | exact List.cons_ne_nil _ _ | assumption | (simp; done) | (intro hz; simp only [List.append_eq_nil_iff] at hz; simp_all; done))); (focus ((try simp only [List.length_append, List.length_cons, List.length_nil] at *); omega))) | (first | refine stp ?_ | with_reducible refine condB (fun h => ?_) (fun h => ?_)))
    conv => whnf
    (apply finE hN; rotate_left; rotate_left; (focus (exact rfl)); (focus (exact rfl)); (focus (exact rfl)); (focus (exact rfl)); (focus (simp; done)); (focus (first | exact List.cons_ne_nil _ _ | assumption | (simp; done) | (intro hz; simp only [List.append_eq_nil_iff] at hz; simp_all; done))))
theorem lev_pos {op : Int} (h : 1 ≤ op ∧ op ≤ 16) : 1 ≤ lev op ∧ lev op ≤ 11 := by
  rcases ops_cases op with hout | rfl | rfl | rfl | rfl | rfl | rfl | rfl | rfl | rfl | rfl | rfl | rfl | rfl | rfl | rfl | rfl
  · omega
  all_goals decide
theorem right_op {e : Ex} (h : rightE e = true) : 1 ≤ e.op ∧ e.op ≤ 16 := by
  rcases right_cases h with ⟨n, rfl, _⟩ | ⟨s, rfl, hs⟩ | ⟨op, a, hop, rfl, _⟩ | ⟨op, a, b, hop, rfl, _⟩
  all_goals (simp only [Ex.op]; omega)
theorem expr_num {n : Int} (h0 : 0 ≤ n) (h1 : rgI n) (least : Int) (hl : least ≤ 11) : ExprOK (.mk 1 n [] []) least := by
  intro s d hb
  have ht : brk (Ex.op (.mk 1 n [] []), wrE (.mk 1 n [] [])) least = digI n := if_neg (show ¬ (11 : Int) < least by omega)
  rw [ht] at hb ⊢
  obtain ⟨O, hO, ⟨p1, -⟩, ⟨p3, p4, -⟩⟩ := famsM (P := Tryz.prog) (gl := rgl) [wmPut.fam] [famLev, famFmt] rfl
  have q3 : ∀ H, acall Tryz.prog O H 83 [.int .i64 1] = some (.int .i64 11, H) := p3 (1 : Int) trivial
  have q4 : ∀ H, acall Tryz.prog O H 34 [.int .i64 n, .int .i64 10] = some (.str (digI n), H) := p4 n ⟨h0, h1⟩
  have e1 : decide ((11 : Int) < least) = false := by simp only [decide_eq_false_iff_not]; omega
  have hne : digI n ≠ [] := dig_pos _
  clear p3 p4 ht
  simp only [List.length_append] at hb
  generalize digI n = w at *
  simp only [Ex.cells]
  generalize hN : WH tW tB (s ++ w) d = N
  refine fn_memqC follows noNum hO Tryz.func49 rfl ?_
  cases s with
  | nil =>
    simp only [WH]
    repeat' ((conv => whnf); first | (with_reducible refine exI (q3 _) ?_) | (with_reducible refine exI (q4 _) ?_) | (refine exO0 (put0 p1 w [] w (List.append_nil _) rfl hne ?_ rfl rfl rfl rfl) ?_; (focus ((try simp only [List.length_append, List.length_cons, List.length_nil] at *); omega))) | (first | refine stp ?_ | with_reducible refine condB (fun h => ?_) (fun h => ?_)))
    conv => whnf
    (apply finE hN; rotate_left; rotate_left; (focus (exact rfl)); (focus (exact rfl)); (focus (exact rfl)); (focus (exact rfl)); (focus (simp; done)); (focus (first | exact List.cons_ne_nil _ _ | assumption | (simp; done) | (intro hz; simp only [List.append_eq_nil_iff] at hz; simp_all; done))))
  | cons c t =>
    simp only [WH]
    repeat' ((conv => whnf); first | (with_reducible refine exI (q3 _) ?_) | (with_reducible refine exI (q4 _) ?_) | (refine exO1 (put1 p1 [w] w (List.append_nil _) rfl ?_ ?_ rfl rfl rfl rfl rfl) ?_; (focus (first | exact List.cons_ne_nil _ _ | assumption | (simp; done) | (intro hz; simp only [List.append_eq_nil_iff] at hz; simp_all; done))); (focus ((try simp only [List.length_append, List.length_cons, List.length_nil] at *); omega))) | (first | refine stp ?_ | with_reducible refine condB (fun h => ?_) (fun h => ?_)))
    conv => whnf
    (apply finE hN; rotate_left; rotate_left; (focus (exact rfl)); (focus (exact rfl)); (focus (exact rfl)); (focus (exact rfl)); (focus (simp; done)); (focus (first | exact List.cons_ne_nil _ _ | assumption | (simp; done) | (intro hz; simp only [List.append_eq_nil_iff] at hz; simp_all; done))))
theorem expr_reg {w : List UInt8} (hw : wordB w = true) (least : Int) (hl : least ≤ 11) : ExprOK (.mk 2 0 w []) least := by
  intro s d hb
  have ht : brk (Ex.op (.mk 2 0 w []), wrE (.mk 2 0 w [])) least = w := if_neg (show ¬ (11 : Int) < least by omega)
  rw [ht] at hb ⊢
  obtain ⟨O, hO, ⟨p1, -⟩, ⟨p3, -⟩⟩ := famsM (P := Tryz.prog) (gl := rgl) [wmPut.fam] [famLev] rfl
  have q3 : ∀ H, acall Tryz.prog O H 83 [.int .i64 2] = some (.int .i64 11, H) := p3 (2 : Int) trivial
  have e1 : decide ((11 : Int) < least) = false := by simp only [decide_eq_false_iff_not]; omega
  have hne : w ≠ [] := wordB_ne hw
  clear p3 ht
  simp only [List.length_append] at hb
  simp only [Ex.cells]
  generalize hN : WH tW tB (s ++ w) d = N
  refine fn_memqC follows noNum hO Tryz.func49 rfl ?_
  cases s with
  | nil =>
    simp only [WH]
    repeat' ((conv => whnf); first | (with_reducible refine exI (q3 _) ?_) | (refine exO0 (put0 p1 w [] w (List.append_nil _) rfl hne ?_ rfl rfl rfl rfl) ?_; (focus ((try simp only [List.length_append, List.length_cons, List.length_nil] at *); omega))) | (first | refine stp ?_ | with_reducible refine condB (fun h => ?_) (fun h => ?_)))
    conv => whnf
    (apply finE hN; rotate_left; rotate_left; (focus (exact rfl)); (focus (exact rfl)); (focus (exact rfl)); (focus (exact rfl)); (focus (simp; done)); (focus (first | exact List.cons_ne_nil _ _ | assumption | (simp; done) | (intro hz; simp only [List.append_eq_nil_iff] at hz; simp_all; done))))
  | cons c t =>
    simp only [WH]
    repeat' ((conv => whnf); first | (with_reducible refine exI (q3 _) ?_) | (refine exO1 (put1 p1 [w] w (List.append_nil _) rfl ?_ ?_ rfl rfl rfl rfl rfl) ?_; (focus (first | exact List.cons_ne_nil _ _ | assumption | (simp; done) | (intro hz; simp only [List.append_eq_nil_iff] at hz; simp_all; done))); (focus ((try simp only [List.length_append, List.length_cons, List.length_nil] at *); omega))) | (first | refine stp ?_ | with_reducible refine condB (fun h => ?_) (fun h => ?_)))
    conv => whnf
    (apply finE hN; rotate_left; rotate_left; (focus (exact rfl)); (focus (exact rfl)); (focus (exact rfl)); (focus (exact rfl)); (focus (simp; done)); (focus (first | exact List.cons_ne_nil _ _ | assumption | (simp; done) | (intro hz; simp only [List.append_eq_nil_iff] at hz; simp_all; done))))
theorem expr_un {op : Int} (hop : op = 3 ∨ op = 4) {a : Ex} (hr : rightE a = true) (ha : ExprOK a 10) (least : Int) (hl : least ≤ 10) : ExprOK (.mk op 0 [] [a]) least := by
  intro s d hb
  have ht : brk (Ex.op (.mk op 0 [] [a]), wrE (.mk op 0 [] [a])) least = sgnT op ++ brk (a.op, wrE a) 10 := by
    have h1 : lev op = 10 := by rcases hop with rfl | rfl <;> rfl
    have h2 : wrE (.mk op 0 [] [a]) = sgnT op ++ brk (a.op, wrE a) 10 := by
      simp only [wrE, wrL, wrC]
      rw [if_neg (by omega), if_neg (by omega)]
    rw [← h2]
    exact if_neg (show ¬ lev op < least by omega)
  rw [ht] at hb ⊢
  obtain ⟨O, hO, ⟨p1, p2, -⟩, ⟨p3, p4, -⟩⟩ := famsM (P := Tryz.prog) (gl := rgl) [wmPut.fam, (wmExpr (fun e' l => e' = a ∧ l = 10) (fun e' l h => by rw [h.1]; exact hr) (fun e' l h => by rw [h.1, h.2]; exact ha)).fam] [famLev, famSgn] rfl
  have h10 : lev op = 10 := by rcases hop with rfl | rfl <;> rfl
  have q3 : ∀ H, acall Tryz.prog O H 83 [.int .i64 op] = some (.int .i64 (lev op), H) := p3 op trivial
  rw [h10] at q3
  have q4 : ∀ H, acall Tryz.prog O H 24 [.int .i64 op] = some (.str (sgnT op), H) := p4 op trivial
  have q1 := fun {s : List UInt8} {b c fb fc : Nat} {H : AHeap} {rest : List AV} {d : Int} hs hb e2 e1 e3 e4 e5 => expr1 p2 a 10 ⟨rfl, rfl⟩ (s := s) (b := b) (c := c) (fb := fb) (fc := fc) (H := H) (rest := rest) (d := d) hs hb e2 e1 e3 e4 e5
  have hx := ex4 [a] 0 (by simp)
  simp only [List.getElem_cons_zero] at hx
  have e1 : decide ((10 : Int) < least) = false := by simp only [decide_eq_false_iff_not]; omega
  have e2 : (op == 1) = false := by simp; omega
  have e3 : (op == 2) = false := by simp; omega
  have hne := sgn_ne hop
  clear p2 p3 p4 ht ha hr hop
  simp only [List.length_append] at hb
  generalize sgnT op = w at *
  generalize brk (a.op, wrE a) 10 = v at *
  simp only [Ex.cells]
  generalize exC [a] = ks at *
  obtain ⟨ao, an, as_, ak⟩ := a
  simp only [Ex.cells] at *
  generalize hN : WH tW tB (s ++ (w ++ v)) d = N
  refine fn_memqC follows noNum hO Tryz.func49 rfl ?_
  cases s with
  | nil =>
    simp only [WH]
    repeat' ((conv => whnf); first | (with_reducible refine exI (q3 _) ?_) | (with_reducible refine exI (q4 _) ?_) | (refine exI hx ?_) | (refine exO0 (put0 p1 w [] w (List.append_nil _) rfl hne ?_ rfl rfl rfl rfl) ?_; (focus ((try simp only [List.length_append, List.length_cons, List.length_nil] at *); omega))) | (refine exO1 (q1 ?_ ?_ rfl rfl rfl rfl rfl) ?_; (focus (first | exact List.cons_ne_nil _ _ | assumption | (simp; done) | (intro hz; simp only [List.append_eq_nil_iff] at hz; simp_all; done))); (focus ((try simp only [List.length_append, List.length_cons, List.length_nil] at *); omega))) | (first | refine stp ?_ | with_reducible refine condB (fun h => ?_) (fun h => ?_)))
    conv => whnf
    (apply finE hN; rotate_left; rotate_left; (focus (exact rfl)); (focus (exact rfl)); (focus (exact rfl)); (focus (exact rfl)); (focus (simp; done)); (focus (first | exact List.cons_ne_nil _ _ | assumption | (simp; done) | (intro hz; simp only [List.append_eq_nil_iff] at hz; simp_all; done))))
  | cons c t =>
    simp only [WH]
    repeat' ((conv => whnf); first | (with_reducible refine exI (q3 _) ?_) | (with_reducible refine exI (q4 _) ?_) | (refine exI hx ?_) | (refine exO1 (put1 p1 [w] w (List.append_nil _) rfl ?_ ?_ rfl rfl rfl rfl rfl) ?_; (focus (first | exact List.cons_ne_nil _ _ | assumption | (simp; done) | (intro hz; simp only [List.append_eq_nil_iff] at hz; simp_all; done))); (focus ((try simp only [List.length_append, List.length_cons, List.length_nil] at *); omega))) | (refine exO1 (q1 ?_ ?_ rfl rfl rfl rfl rfl) ?_; (focus (first | exact List.cons_ne_nil _ _ | assumption | (simp; done) | (intro hz; simp only [List.append_eq_nil_iff] at hz; simp_all; done))); (focus ((try simp only [List.length_append, List.length_cons, List.length_nil] at *); omega))) | (first | refine stp ?_ | with_reducible refine condB (fun h => ?_) (fun h => ?_)))
    conv => whnf
    (apply finE hN; rotate_left; rotate_left; (focus (exact rfl)); (focus (exact rfl)); (focus (exact rfl)); (focus (exact rfl)); (focus (simp; done)); (focus (first | exact List.cons_ne_nil _ _ | assumption | (simp; done) | (intro hz; simp only [List.append_eq_nil_iff] at hz; simp_all; done))))
theorem expr_bin {op : Int} (hop : 5 ≤ op ∧ op ≤ 16) {a b : Ex} (hra : rightE a = true) (hrb : rightE b = true) (ha : ExprOK a (lev op)) (hb' : ExprOK b (lev op + 1)) (least : Int) (hl : least ≤ lev op) : ExprOK (.mk op 0 [] [a, b]) least := by
  intro s d hb
  have hl1 : 1 ≤ lev op ∧ lev op ≤ 9 := by
    rcases ops_cases op with hout | rfl | rfl | rfl | rfl | rfl | rfl | rfl | rfl | rfl | rfl | rfl | rfl | rfl | rfl | rfl | rfl
    any_goals omega
    all_goals decide
  have ht : brk (Ex.op (.mk op 0 [] [a, b]), wrE (.mk op 0 [] [a, b])) least = brk (a.op, wrE a) (lev op) ++ (32 :: (sgnT op ++ (32 :: brk (b.op, wrE b) (lev op + 1)))) := by
    have h2 : wrE (.mk op 0 [] [a, b]) = brk (a.op, wrE a) (lev op) ++ (32 :: (sgnT op ++ (32 :: brk (b.op, wrE b) (lev op + 1)))) := by
      simp only [wrE, wrL, wrC]
      rw [if_neg (by omega), if_neg (by omega)]
    rw [← h2]
    exact if_neg (show ¬ lev op < least by omega)
  rw [ht] at hb ⊢
  obtain ⟨O, hO, ⟨p1, p2, -⟩, ⟨p3, p4, -⟩⟩ := famsM (P := Tryz.prog) (gl := rgl) [wmPut.fam, (wmExpr (fun e' l => (e' = a ∧ l = lev op) ∨ (e' = b ∧ l = lev op + 1)) (fun e' l h => by rcases h with h | h; rw [h.1]; exact hra; rw [h.1]; exact hrb) (fun e' l h => by rcases h with h | h; rw [h.1, h.2]; exact ha; rw [h.1, h.2]; exact hb')).fam] [famLev, famSgn] rfl
  have q3 : ∀ H, acall Tryz.prog O H 83 [.int .i64 op] = some (.int .i64 (lev op), H) := p3 op trivial
  have q4 : ∀ H, acall Tryz.prog O H 24 [.int .i64 op] = some (.str (sgnT op), H) := p4 op trivial
  have q0 := fun {b' fb : Nat} {H : AHeap} {rest : List AV} {d : Int} hb e1 e2 e3 e4 => expr0 p2 a (lev op) (.inl ⟨rfl, rfl⟩) (b := b') (fb := fb) (H := H) (rest := rest) (d := d) hb e1 e2 e3 e4
  have q1 := fun {s : List UInt8} {b' c fb fc : Nat} {H : AHeap} {rest : List AV} {d : Int} hs hb e2 e1 e3 e4 e5 => expr1 p2 a (lev op) (.inl ⟨rfl, rfl⟩) (s := s) (b := b') (c := c) (fb := fb) (fc := fc) (H := H) (rest := rest) (d := d) hs hb e2 e1 e3 e4 e5
  have q2 := fun {s : List UInt8} {b' c fb fc : Nat} {H : AHeap} {rest : List AV} {d : Int} hs hb e2 e1 e3 e4 e5 => expr1 p2 b (lev op + 1) (.inr ⟨rfl, rfl⟩) (s := s) (b := b') (c := c) (fb := fb) (fc := fc) (H := H) (rest := rest) (d := d) hs hb e2 e1 e3 e4 e5
  have hx := ex4 [a, b] 0 (by simp)
  have hy := ex4 [a, b] 1 (by simp)
  simp only [List.getElem_cons_zero, List.getElem_cons_succ] at hx hy
  have hva : brk (a.op, wrE a) (lev op) ≠ [] := brk_ne (wrE_ne hra)
  have e2 : (op == 1) = false := by simp; omega
  have e3 : (op == 2) = false := by simp; omega
  generalize brk (a.op, wrE a) (lev op) = va at *
  generalize brk (b.op, wrE b) (lev op + 1) = vb at *
  obtain ⟨lv, hlv⟩ : ∃ lv, lev op = lv := ⟨_, rfl⟩
  rw [hlv] at q3 q0 q1 q2 hl hl1
  have e1 : decide (lv < least) = false := by simp only [decide_eq_false_iff_not]; omega
  have e4 : (lv == 10) = false := by simp; omega
  have w1 : IntKind.i64.wrap (lv + 1) = lv + 1 := wrapB (by omega) (by omega)
  clear p2 p3 p4 ht ha hb' hra hrb hop hlv hl hl1
  simp only [List.length_append, List.length_cons] at hb
  generalize sgnT op = w at *
  simp only [Ex.cells]
  generalize exC [a, b] = ks at *
  obtain ⟨ao, an, as_, ak⟩ := a
  obtain ⟨bo, bn, bs_, bk⟩ := b
  simp only [Ex.cells] at *
  generalize hN : WH tW tB (s ++ (va ++ 32 :: (w ++ 32 :: vb))) d = N
  refine fn_memqC follows noNum hO Tryz.func49 rfl ?_
  cases s with
  | nil =>
    simp only [WH]
    repeat' ((conv => whnf); first | (with_reducible refine exI (q3 _) ?_) | (with_reducible refine exI (q4 _) ?_) | (with_reducible refine exW w1 ?_) | (refine exI hx ?_) | (refine exI hy ?_) | (refine exO0 (q0 ?_ rfl rfl rfl rfl) ?_; (focus ((try simp only [List.length_append, List.length_cons, List.length_nil] at *); omega))) | (refine exO1 (put1 p1 [[32], w, [32]] (32 :: (w ++ [32])) rfl rfl ?_ ?_ rfl rfl rfl rfl rfl) ?_; (focus (first | exact List.cons_ne_nil _ _ | assumption | (simp; done) | (intro hz; simp only [List.append_eq_nil_iff] at hz; simp_all; done))); (focus ((try simp only [List.length_append, List.length_cons, List.length_nil] at *); omega))) | (refine exO1 (q2 ?_ ?_ rfl rfl rfl rfl rfl) ?_; (focus (first | exact List.cons_ne_nil _ _ | assumption | (simp; done) | (intro hz; simp only [List.append_eq_nil_iff] at hz; simp_all; done))); (focus ((try simp only [List.length_append, List.length_cons, List.length_nil] at *); omega))) | (first | refine stp ?_ | with_reducible refine condB (fun h => ?_) (fun h => ?_)))
    conv => whnf
    (apply finE hN; rotate_left; rotate_left; (focus (exact rfl)); (focus (exact rfl)); (focus (exact rfl)); (focus (exact rfl)); (focus (simp; done)); (focus (first | exact List.cons_ne_nil _ _ | assumption | (simp; done) | (intro hz; simp only [List.append_eq_nil_iff] at hz; simp_all; done))))
  | cons c t =>
    simp only [WH]
    repeat' ((conv => whnf); first | (with_reducible refine exI (q3 _) ?_) | (with_reducible refine exI (q4 _) ?_) | (with_reducible refine exW w1 ?_) | (refine exI hx ?_) | (refine exI hy ?_) | (refine exO1 (q1 ?_ ?_ rfl rfl rfl rfl rfl) ?_; (focus (first | exact List.cons_ne_nil _ _ | assumption | (simp; done) | (intro hz; simp only [List.append_eq_nil_iff] at hz; simp_all; done))); (focus ((try simp only [List.length_append, List.length_cons, List.length_nil] at *); omega))) | (refine exO1 (put1 p1 [[32], w, [32]] (32 :: (w ++ [32])) rfl rfl ?_ ?_ rfl rfl rfl rfl rfl) ?_; (focus (first | exact List.cons_ne_nil _ _ | assumption | (simp; done) | (intro hz; simp only [List.append_eq_nil_iff] at hz; simp_all; done))); (focus ((try simp only [List.length_append, List.length_cons, List.length_nil] at *); omega))) | (refine exO1 (q2 ?_ ?_ rfl rfl rfl rfl rfl) ?_; (focus (first | exact List.cons_ne_nil _ _ | assumption | (simp; done) | (intro hz; simp only [List.append_eq_nil_iff] at hz; simp_all; done))); (focus ((try simp only [List.length_append, List.length_cons, List.length_nil] at *); omega))) | (first | refine stp ?_ | with_reducible refine condB (fun h => ?_) (fun h => ?_)))
    conv => whnf
    (apply finE hN; rotate_left; rotate_left; (focus (exact rfl)); (focus (exact rfl)); (focus (exact rfl)); (focus (exact rfl)); (focus (simp; done)); (focus (first | exact List.cons_ne_nil _ _ | assumption | (simp; done) | (intro hz; simp only [List.append_eq_nil_iff] at hz; simp_all; done))))
theorem expr_okN : ∀ (n : Nat) (e : Ex), sizeE e ≤ n → rightE e = true → rgE e → ∀ least : Int, least ≤ 11 → ExprOK e least
  | 0, e, h, _, _, _, _ => by have := sizeE_pos e; omega
  | n + 1, e, h, hr, hg, least, hl => by
    have hlow : ∀ l : Int, l ≤ lev e.op → ExprOK e l := by
      intro l hle
      have hp := lev_pos (right_op hr)
      rcases right_cases hr with ⟨m, rfl, hm⟩ | ⟨w, rfl, hw⟩ | ⟨op, a, hop, rfl, h1⟩ | ⟨op, a, b, hop, rfl, h1, h2⟩
      · simp only [rgE] at hg
        exact expr_num hm hg.1 l (by omega)
      · exact expr_reg hw l (by omega)
      · simp only [rgE, rgL] at hg
        simp only [sizeE, sizeL] at h
        have : lev op = 10 := by rcases hop with rfl | rfl <;> rfl
        simp only [Ex.op] at hle
        exact expr_un hop h1 (expr_okN n a (by omega) h1 hg.2.1 10 (by omega)) l (by omega)
      · simp only [rgE, rgL] at hg
        simp only [sizeE, sizeL] at h
        simp only [Ex.op] at hle hp
        have h9 : lev op ≤ 9 := by
          rcases ops_cases op with hout | rfl | rfl | rfl | rfl | rfl | rfl | rfl | rfl | rfl | rfl | rfl | rfl | rfl | rfl | rfl | rfl
          any_goals omega
          all_goals decide
        exact expr_bin hop h1 h2 (expr_okN n a (by omega) h1 hg.2.1 _ (by omega)) (expr_okN n b (by omega) h2 hg.2.2.1 _ (by omega)) l hle
    by_cases hlt : lev e.op < least
    · have hp := lev_pos (right_op hr)
      exact expr_brk hr hlt (hlow 0 (by omega)) (by omega)
    · exact hlow least (by omega)
end Go.Proofs.YtkkfcfjhhdmamaaGreatDoor.lex
end


section

set_option linter.unusedVariables false
set_option linter.unusedSimpArgs false
namespace Go.Proofs.YtkkfcfjhhdmamaaGreatDoor.lex
open Go.Abs Go.RowKit
set_option maxRecDepth 100000
set_option maxHeartbeats 4000000
def famI {f : Nat} (hb : hasBody Tryz.prog f = true) (G : Int → Prop) (r : Int → AV) (h : ∀ n, G n → ValOK Tryz.prog rgl f [.int .i64 n] (r n)) : Fam Tryz.prog rgl := { I := Int, f := f, G := G, A := (fun n => [.int .i64 n]), R := r, body := hb, inj := (fun i j _ _ h => by simp only [List.cons.injEq, AV.int.injEq, true_and, and_true] at h; rw [h]), ok := (fun n g => ⟨rfl, h n g⟩) }
theorem levR_eq {op : Int} (h : 1 ≤ op ∧ op ≤ 16) : levR op = lev op := if_neg (by omega)
theorem within_of {e : Ex} (hr : rightE e = true) (hw : ValOK Tryz.prog rgl 58 [.agg e.cells] (.str (wrE e))) (hl : (wrE e).length ≤ 1073741824) (n : Int) : ValOK Tryz.prog rgl 91 [.agg e.cells, .int .i64 n] (.str (brk (e.op, wrE e) n)) := by
  obtain ⟨O, hO, p1, p2, -⟩ := fams (P := Tryz.prog) (gl := rgl) [famE (g := 58) (by kernel_rfl) (fun k => .str (wrE k)) [e] (fun k hk => by rw [List.mem_singleton.1 hk]; exact hw),
    famI (f := 90) (by kernel_rfl) (fun _ => True) (fun n => .int .i64 (levR n)) (fun n _ => levR_ok n)] rfl
  have q1 : ∀ H, acall Tryz.prog O H 58 [.agg e.cells] = some (.str (wrE e), H) := p1 e (List.mem_singleton.2 rfl)
  have q2 : ∀ H, acall Tryz.prog O H 90 [.int .i64 e.op] = some (.int .i64 (levR e.op), H) := p2 e.op trivial
  rw [levR_eq (right_op hr)] at q2
  clear p1 p2 hw hr
  by_cases h : lev e.op < n
  · rw [show brk (e.op, wrE e) n = 40 :: (wrE e ++ [41]) from if_pos h]
    obtain ⟨lv, hlv⟩ : ∃ lv, lev e.op = lv := ⟨_, rfl⟩
    rw [hlv] at q2 h
    generalize wrE e = w at *
    clear hlv
    obtain ⟨op, num, name, kids⟩ := e
    simp only [Ex.op, Ex.cells] at *
    have b1 : ([40] : List UInt8).length + w.length ≤ 9223372036854775807 := by simp only [List.length_cons, List.length_nil]; omega
    have b2 : ([40] ++ w : List UInt8).length + ([41] : List UInt8).length ≤ 9223372036854775807 := by simp only [List.length_append, List.length_cons, List.length_nil]; omega
    have e1 : decide (lv < n) = true := by simpa using h
    refine fn_val follows noNum hO Tryz.func91 rfl ?_
    repeat' ((conv => whnf); first | (with_reducible refine exI (q1 _) ?_) | (with_reducible refine exI (q2 _) ?_) | (refine And.intro b1 ?_) | (refine And.intro b2 ?_) | (first | refine stp ?_ | with_reducible refine condB (fun h => ?_) (fun h => ?_)))
    all_goals rfl
  · rw [show brk (e.op, wrE e) n = wrE e from if_neg h]
    obtain ⟨lv, hlv⟩ : ∃ lv, lev e.op = lv := ⟨_, rfl⟩
    rw [hlv] at q2 h
    generalize wrE e = w at *
    clear hlv
    obtain ⟨op, num, name, kids⟩ := e
    simp only [Ex.op, Ex.cells] at *
    have e1 : decide (lv < n) = false := by simpa using h
    refine fn_val follows noNum hO Tryz.func91 rfl ?_
    repeat' ((conv => whnf); first | (with_reducible refine exI (q1 _) ?_) | (with_reducible refine exI (q2 _) ?_) | (first | refine stp ?_ | with_reducible refine condB (fun h => ?_) (fun h => ?_)))
    all_goals rfl
theorem brk_le (p : Int × List UInt8) (n : Int) : p.2.length ≤ (brk p n).length := by
  unfold brk; split
  · simp only [List.length_cons, List.length_append, List.length_nil]; omega
  · exact Nat.le_refl _
theorem write_okN : ∀ (n : Nat) (e : Ex), sizeE e ≤ n → rightE e = true → rgE e → (wrE e).length ≤ 1073741824 → ValOK Tryz.prog rgl 58 [.agg e.cells] (.str (wrE e))
  | 0, e, h, _, _, _ => by have := sizeE_pos e; omega
  | n + 1, e, h, hr, hg, hl => by
    rcases right_cases hr with ⟨m, rfl, hm⟩ | ⟨w, rfl, hw⟩ | ⟨op, a, hop, rfl, h1⟩ | ⟨op, a, b, hop, rfl, h1, h2⟩
    · simp only [rgE] at hg
      obtain ⟨O, hO, p1, p2, -⟩ := fams (P := Tryz.prog) (gl := rgl) [famI (f := 90) (by kernel_rfl) (fun _ => True) (fun n => .int .i64 (levR n)) (fun n _ => levR_ok n), famI (f := 55) (by kernel_rfl) (fun n => 0 ≤ n ∧ rgI n) (fun n => .str (digI n)) (fun n g => digsR_ok n g.1 g.2)] rfl
      have q1 : ∀ H, acall Tryz.prog O H 90 [.int .i64 1] = some (.int .i64 11, H) := p1 (1 : Int) trivial
      have q2 : ∀ H, acall Tryz.prog O H 55 [.int .i64 m] = some (.str (digI m), H) := p2 m ⟨hm, hg.1⟩
      show ValOK _ _ _ _ (.str (digI m))
      clear p1 p2
      generalize digI m = w at *
      simp only [Ex.cells]
      refine fn_val follows noNum hO Tryz.func58 rfl ?_
      repeat' ((conv => whnf); first | (with_reducible refine exI (q1 _) ?_) | (with_reducible refine exI (q2 _) ?_) | (first | refine stp ?_ | with_reducible refine condB (fun h => ?_) (fun h => ?_)))
      all_goals rfl
    · obtain ⟨O, hO, p1, -⟩ := fams (P := Tryz.prog) (gl := rgl) [famI (f := 90) (by kernel_rfl) (fun _ => True) (fun n => .int .i64 (levR n)) (fun n _ => levR_ok n)] rfl
      have q1 : ∀ H, acall Tryz.prog O H 90 [.int .i64 2] = some (.int .i64 11, H) := p1 (2 : Int) trivial
      show ValOK _ _ _ _ (.str w)
      simp only [Ex.cells]
      refine fn_val follows noNum hO Tryz.func58 rfl ?_
      repeat' ((conv => whnf); first | (with_reducible refine exI (q1 _) ?_) | (first | refine stp ?_ | with_reducible refine condB (fun h => ?_) (fun h => ?_)))
      all_goals rfl
    · simp only [rgE, rgL] at hg
      simp only [sizeE, sizeL] at h
      have h10 : lev op = 10 := by rcases hop with rfl | rfl <;> rfl
      have hst : wrE (.mk op 0 [] [a]) = sgnT op ++ brk (a.op, wrE a) 10 := by
        simp only [wrE, wrL, wrC]
        rw [if_neg (by omega), if_neg (by omega)]
      rw [hst] at hl ⊢
      have hbl := brk_le (a.op, wrE a) 10
      simp only [List.length_append] at hl
      have hwa := write_okN n a (by omega) h1 hg.2.1 (by simp only at hbl; omega)
      have hin := within_of h1 hwa (by simp only at hbl; omega) 10
      obtain ⟨O, hO, p1, p2, p3, -⟩ := fams (P := Tryz.prog) (gl := rgl) [famI (f := 90) (by kernel_rfl) (fun _ => True) (fun n => .int .i64 (levR n)) (fun n _ => levR_ok n), famI (f := 25) (by kernel_rfl) (fun _ => True) (fun n => .str (sgnT n)) (fun n _ => sgnR_ok n),
        { I := Unit, f := 91, G := (fun _ => True), A := (fun _ => [.agg a.cells, .int .i64 10]), R := (fun _ => .str (brk (a.op, wrE a) 10)), body := (by kernel_rfl), inj := (fun _ _ _ _ _ => rfl), ok := (fun _ _ => ⟨by have := ex_refs a; simpa [refsL, refs] using this, hin⟩) }] rfl
      have q1 : ∀ H, acall Tryz.prog O H 90 [.int .i64 op] = some (.int .i64 (levR op), H) := p1 op trivial
      rw [levR_eq (by omega), h10] at q1
      have q2 : ∀ H, acall Tryz.prog O H 25 [.int .i64 op] = some (.str (sgnT op), H) := p2 op trivial
      have q3 : ∀ H, acall Tryz.prog O H 91 [.agg a.cells, .int .i64 10] = some (.str (brk (a.op, wrE a) 10), H) := p3 () trivial
      have hx := ex4 [a] 0 (by simp)
      simp only [List.getElem_cons_zero] at hx
      clear p1 p2 p3 hin hwa hbl hst
      generalize sgnT op = w at *
      generalize brk (a.op, wrE a) 10 = v at *
      have b1 : w.length + v.length ≤ 9223372036854775807 := by omega
      simp only [Ex.cells]
      generalize exC [a] = ks at *
      obtain ⟨ao, an, as_, ak⟩ := a
      simp only [Ex.cells] at *
      refine fn_val follows noNum hO Tryz.func58 rfl ?_
      repeat' ((conv => whnf); first | (with_reducible refine exI (q1 _) ?_) | (with_reducible refine exI (q2 _) ?_) | (with_reducible refine exI (q3 _) ?_) | (refine exI hx ?_) | (with_reducible refine And.intro b1 ?_) | (first | refine stp ?_ | with_reducible refine condB (fun h => ?_) (fun h => ?_)))
      all_goals rfl
    · simp only [rgE, rgL] at hg
      simp only [sizeE, sizeL] at h
      have hl1 : 1 ≤ lev op ∧ lev op ≤ 9 := by
        rcases ops_cases op with hout | rfl | rfl | rfl | rfl | rfl | rfl | rfl | rfl | rfl | rfl | rfl | rfl | rfl | rfl | rfl | rfl
        any_goals omega
        all_goals decide
      have hst : wrE (.mk op 0 [] [a, b]) = brk (a.op, wrE a) (lev op) ++ (32 :: (sgnT op ++ (32 :: brk (b.op, wrE b) (lev op + 1)))) := by
        simp only [wrE, wrL, wrC]
        rw [if_neg (by omega), if_neg (by omega)]
      rw [hst] at hl ⊢
      have hbla := brk_le (a.op, wrE a) (lev op)
      have hblb := brk_le (b.op, wrE b) (lev op + 1)
      simp only [List.length_append, List.length_cons] at hl
      simp only at hbla hblb
      have hia := within_of h1 (write_okN n a (by omega) h1 hg.2.1 (by omega)) (by omega) (lev op)
      have hib := within_of h2 (write_okN n b (by omega) h2 hg.2.2.1 (by omega)) (by omega) (lev op + 1)
      obtain ⟨O, hO, p1, p2, p3, -⟩ := fams (P := Tryz.prog) (gl := rgl) [famI (f := 90) (by kernel_rfl) (fun _ => True) (fun n => .int .i64 (levR n)) (fun n _ => levR_ok n), famI (f := 25) (by kernel_rfl) (fun _ => True) (fun n => .str (sgnT n)) (fun n _ => sgnR_ok n),
        { I := Ex × Int, f := 91, G := (fun x => (x.1 = a ∧ x.2 = lev op) ∨ (x.1 = b ∧ x.2 = lev op + 1)), A := (fun x => [.agg x.1.cells, .int .i64 x.2]), R := (fun x => .str (brk (x.1.op, wrE x.1) x.2)), body := (by kernel_rfl), inj := (fun x y _ _ h => by
            simp only [List.cons.injEq, AV.int.injEq, true_and, and_true] at h
            have := agg_inj (a := x.1) (b := y.1) (by rw [h.1])
            rw [this, h.2]), ok := (fun x g => ⟨by have := ex_refs x.1; simpa [refsL, refs] using this, by rcases g with ⟨g1, g2⟩ | ⟨g1, g2⟩; rw [g1, g2]; exact hia; rw [g1, g2]; exact hib⟩) }] rfl
      have q1 : ∀ H, acall Tryz.prog O H 90 [.int .i64 op] = some (.int .i64 (levR op), H) := p1 op trivial
      rw [levR_eq (by omega)] at q1
      have q2 : ∀ H, acall Tryz.prog O H 25 [.int .i64 op] = some (.str (sgnT op), H) := p2 op trivial
      have q3 : ∀ H, acall Tryz.prog O H 91 [.agg a.cells, .int .i64 (lev op)] = some (.str (brk (a.op, wrE a) (lev op)), H) := p3 (a, lev op) (.inl ⟨rfl, rfl⟩)
      have q4 : ∀ H, acall Tryz.prog O H 91 [.agg b.cells, .int .i64 (lev op + 1)] = some (.str (brk (b.op, wrE b) (lev op + 1)), H) := p3 (b, lev op + 1) (.inr ⟨rfl, rfl⟩)
      have hx := ex4 [a, b] 0 (by simp)
      have hy := ex4 [a, b] 1 (by simp)
      simp only [List.getElem_cons_zero, List.getElem_cons_succ] at hx hy
      clear p1 p2 p3 hia hib hbla hblb
      generalize brk (a.op, wrE a) (lev op) = va at *
      generalize brk (b.op, wrE b) (lev op + 1) = vb at *
      obtain ⟨lv, hlv⟩ : ∃ lv, lev op = lv := ⟨_, rfl⟩
      rw [hlv] at q1 q3 q4 hl1
      clear hlv hst
      have w1 : IntKind.i64.wrap (lv + 1) = lv + 1 := wrapB (by omega) (by omega)
      have f1 : (lv == 11) = false := by simp; omega
      have f2 : (lv == 10) = false := by simp; omega
      generalize sgnT op = w at *
      have hfin : va ++ [32] ++ w ++ [32] ++ vb = va ++ (32 :: (w ++ (32 :: vb))) := by simp
      rw [← hfin]
      simp only [Ex.cells]
      generalize exC [a, b] = ks at *
      obtain ⟨ao, an, as_, ak⟩ := a
      obtain ⟨bo, bn, bs_, bk⟩ := b
      simp only [Ex.cells] at *
      refine fn_val follows noNum hO Tryz.func58 rfl ?_
      repeat' ((conv => whnf); first | (with_reducible refine exI (q1 _) ?_) | (with_reducible refine exI (q2 _) ?_) | (with_reducible refine exI (q3 _) ?_) | (with_reducible refine exI (q4 _) ?_) | (with_reducible refine exW w1 ?_) | (refine exI hx ?_) | (refine exI hy ?_) | (refine And.intro (show List.length _ + List.length _ ≤ 9223372036854775807 from ?_) ?_; (focus ((try simp only [List.length_append, List.length_cons, List.length_nil] at *); omega))) | (first | refine stp ?_ | with_reducible refine condB (fun h => ?_) (fun h => ?_)))
      all_goals rfl
end Go.Proofs.YtkkfcfjhhdmamaaGreatDoor.lex
end


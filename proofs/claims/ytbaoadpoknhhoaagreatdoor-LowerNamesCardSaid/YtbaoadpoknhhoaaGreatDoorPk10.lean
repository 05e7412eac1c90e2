/-
  Texts of this proof, one behind the other (part 10).
-/
import Derived.Test.YtbaoadpoknhhoaaGreatDoorPk9
set_option linter.unusedVariables false
set_option linter.unusedSimpArgs false

section
namespace Go.Proofs.YtbaoadpoknhhoaaGreatDoor.lex
open Go.Abs Go.RowKit
set_option maxRecDepth 100000
set_option maxHeartbeats 4000000
theorem Zfm (l : List St) : ValOK Tryz.prog runLives.gl 50 [stA l] (.func (.func 88) [] [.rp [stA l]]) := by
 unfold stA
 refine Z15 follows noNum Z1n Tryz.func50 rfl ?_
 repeat' ((conv => whnf); first | refine stp ?_ | with_reducible refine Z05 (fun h => ?_) (fun h => ?_))
 all_goals rfl
theorem Zfn (ds : List Dc) (ts : List (List St)) (t L : Nat) (l : List St) (hd : ds.length <= 9223372036854775807) (ht : t <= 1000000) (hok : okSL l) (hl : l.length <= 9223372036854775807) (hs : sizeSL l <= 800000) :
  Z10 Tryz.prog runLives.gl 88 [yA L, .rp [stA l]] (bsC ds ts t L none) (.tuple []) (bsC ds ts t L (stO (nbSL (Z36 ds) l 0))) := by
 obtain ⟨O, hO, ⟨p1, -⟩, -⟩ := Z9o (P := Tryz.prog) (gl := runLives.gl) [{ I := Unit, f := 89, G := (fun _ => True), A := (fun _ => [stA l, .ptr 5 0, .ptr 6 0, .ptr 7 0]), H := (fun _ => ecH ds ts t L 0 none), R := (fun _ => .bool ((nbSL (Z36 ds) l 0).2 == 0)), O := (fun _ => ecH ds ts t L ((nbSL (Z36 ds) l 0).1 : Nat) (stO (nbSL (Z36 ds) l 0))), body := (by kernel_rfl), inj := (fun _ _ _ _ _ _ => ⟨rfl, rfl⟩), ok := (fun _ _ => ZdU ds ts t L hd ht _ l 0 (Nat.le_refl _) hok hl (by omega)) }] [] rfl
 have q1 := p1 () trivial
 clear p1
 simp only [stA] at *
 refine Z3c (k := 5) follows noNum hO rfl Tryz.func88 rfl (Z30 _ _) ?_
 generalize nbSL (Z36 ds) l 0 = r at *
 obtain ⟨r1, r2⟩ := r
 cases hr : r2 == 0 with
 | true =>
  have hst : stO (r1, r2) = none := by unfold stO; simp only [hr, cond_true]
  rw [hst] at q1 ⊢
  repeat' ((conv => whnf); first | (refine exI q1 ?_) | (first | refine stp ?_ | with_reducible refine Z05 (fun h => ?_) (fun h => ?_)))
  all_goals (conv => whnf)
  all_goals first | exact ⟨rfl, rfl⟩ | exact ⟨rfl, rfl, rfl⟩ | trace_state
 | false =>
  have hst : stO (r1, r2) = some (r1, r2) := by unfold stO; simp only [hr, cond_false]
  rw [hst] at q1 ⊢
  repeat' ((conv => whnf); first | (refine exI q1 ?_) | (first | refine stp ?_ | with_reducible refine Z05 (fun h => ?_) (fun h => ?_)))
  all_goals (conv => whnf)
  all_goals first | exact ⟨rfl, rfl⟩ | exact ⟨rfl, rfl, rfl⟩ | trace_state
def ZkA (ds : List Dc) (ts : List (List St)) : Z00 := [⟨true, 0, 0, .cells [.rs ds.length 3 (dcC ds), .rs ts.length 1 (ts.map stA)] 43⟩, ⟨true, 1, 0, .cells [.int .i64 0, .int .i64 0] 63⟩, ⟨true, 2, 0, .cells [.int .i64 0] 28⟩]
theorem ZbA : ∀ (ds : List Dc) (i : Nat), (dcC ds).take (i * 3) = dcC (ds.take i)
 | [], i => by simp [dcC]
 | d :: l, 0 => by simp [dcC]
 | d :: l, i + 1 => by
  rw [show (i + 1) * 3 = i * 3 + 1 + 1 + 1 from by omega]
  simp only [List.take_succ_cons, dcC, Dc.cells, List.cons_append, List.nil_append]
  rw [ZbA l i]
theorem Zb9 (s : List UInt8) : ∀ (l : List Dc) (k : Nat), (decide (0 <= fdI s l k)) = !noD s l
 | [], k => rfl
 | d :: l, k => by
  simp only [fdI, noD]
  rcases Bool.eq_false_or_eq_true (d.name == s) with h | h
  · have : decide ((0 : Int) <= (k : Int)) = true := by simp only [decide_eq_true_eq]; omega
    simp only [h, cond_true, Bool.not_true, Bool.false_and, Bool.not_false, this]
  · simp only [h, cond_false, Bool.not_false, Bool.true_and]
    exact Zb9 s l (k + 1)
theorem Zja {ds : List Dc} {ts : List (List St)} {p q : Nat × Nat} (ha : [yA p.2, .rp [stA (ts.getD p.1 [])]] = [yA q.2, .rp [stA (ts.getD q.1 [])]]) (hh : bsC ds ts p.1 p.2 none = bsC ds ts q.1 q.2 none) : p = q := by
 obtain ⟨p1, p2⟩ := p
 obtain ⟨q1, q2⟩ := q
 simp only [yA, List.cons.injEq, AV.func.injEq, Fn.yield.injEq, true_and, and_true] at ha
 simp only [bsC, List.cons.injEq, AObj.mk.injEq, ABody.cells.injEq, AV.int.injEq, and_true, true_and] at hh
 have h1 : p1 = q1 := by omega
 rw [h1, ha.1]
theorem Zkc {ds : List Dc} {ts : List (List St)} (hd1 : ds.length <= 9223372036854775807) (ht1 : Zho ts) (hs : Z2r ts <= 800000) (p : Nat × Nat) (h1 : p.1 < ts.length) (h2 : p.1 <= 1000000) :
  Z10 Tryz.prog runLives.gl 88 [yA p.2, .rp [stA (ts.getD p.1 [])]] (bsC ds ts p.1 p.2 none) (.tuple []) (bsC ds ts p.1 p.2 (stO (nbSL (Z36 ds) (ts.getD p.1 []) 0))) := by
 have hg : ts.getD p.1 [] = ts[p.1] := by simp [List.getD_eq_getElem?_getD, h1]
 have hm : ts[p.1] ∈ ts := Z1a h1
 rw [hg]
 exact Zfn ds ts p.1 p.2 _ hd1 h2 (Z24 ht1 _ hm).1 (Z24 ht1 _ hm).2 (by have := Z3t ts _ hm; omega)
theorem Zcr (p : Pr) (hok : okP p) (hs : Z2r p.threads <= 800000) : ValOK Tryz.prog runLives.gl 19 [p.av] (ZiZ (Zig (Z4y p) p.decls p.threads (Z36 p.decls))) := by
 obtain ⟨⟨hd1, hd2⟩, ht1, ht2⟩ := id hok
 have hck := Zcs p hok (by omega)
 obtain ⟨ds, ts⟩ := p
 simp only [Pr.av] at *
 generalize Z4y ⟨ds, ts⟩ = e0 at *
 obtain ⟨O, hO, ⟨p5, -⟩, ⟨p1, p2, p3, p4, -⟩⟩ := Z9o (P := Tryz.prog) (gl := runLives.gl) [{ I := Nat × Nat, f := 88, G := (fun p => p.1 < ts.length /\ p.1 <= 1000000), A := (fun p => [yA p.2, .rp [stA (ts.getD p.1 [])]]), H := (fun p => bsC ds ts p.1 p.2 none), R := (fun _ => .tuple []), O := (fun p => bsC ds ts p.1 p.2 (stO (nbSL (Z36 ds) (ts.getD p.1 []) 0))), body := (by kernel_rfl), inj := (fun p q _ _ ha hh => by rw [Zja ha hh]; exact ⟨rfl, rfl⟩), ok := (fun p hp => Zkc hd1 ht1 hs p hp.1 hp.2) }] [
  { I := Unit, f := 48, G := fun _ => True, A := fun _ => [.agg [.rs ds.length 3 (dcC ds), .rs ts.length 1 (ts.map stA)]], R := fun _ => .int .i64 e0, body := (by kernel_rfl), inj := (fun i j _ _ h => rfl), ok := (fun _ _ => ⟨rfl, hck⟩) },
  { I := Nat × List UInt8, f := 49, G := fun _ => True, A := fun p => [.rs (ds.take p.1).length 3 (dcC (ds.take p.1)), .str p.2], R := fun p => .int .i64 (Z0K (ds.take p.1) p.2), body := (by kernel_rfl), inj := (fun i j _ _ h => by simp only [List.cons.injEq, AV.str.injEq, AV.rs.injEq, and_true, true_and] at h; rw [List.take_eq_take_min, show min i.1 ds.length = min j.1 ds.length by simpa [List.length_take] using h.1.1, <- List.take_eq_take_min, h.2]), ok := (fun p _ => ⟨rfl, Zbr (ds.take p.1) p.2 (by simp; omega)⟩) },
  { I := List St, f := 50, G := fun _ => True, A := fun l => [stA l], R := fun l => .func (.func 88) [] [.rp [stA l]], body := (by kernel_rfl), inj := (fun i j _ _ h => by simp only [List.cons.injEq, and_true] at h; rw [Z3S h]), ok := (fun l _ => ⟨rfl, Zfm l⟩) },
  { I := List St, f := 52, G := fun l => l ∈ ts, A := fun l => [stA l], R := fun l => rsK (Z2g (Z70 l)), body := (by kernel_rfl), inj := (fun i j _ _ h => by simp only [List.cons.injEq, and_true] at h; rw [Z3S h]), ok := (fun l hl => ⟨rfl, Zb3 l (Z24 ht1 l hl).1 (Z24 ht1 l hl).2 (by have := Z3t ts l hl; omega)⟩) }] rfl
 have q1 : ∀ H, Z0e Tryz.prog O H 48 [.agg [.rs ds.length 3 (dcC ds), .rs ts.length 1 (ts.map stA)]] = some (.int .i64 e0, H) := p1 () trivial
 have q2 : ∀ i s H, i <= ds.length -> Z0e Tryz.prog O H 49 [.rs i 3 ((dcC ds).take (i * 3)), .str s] = some (.int .i64 (Z0K (ds.take i) s), H) := fun i s H h => by
  have := p2 (i, s) trivial H
  simp only at this
  rw [List.length_take, Nat.min_eq_left h] at this
  rw [ZbA]; exact this
 have q3 : ∀ l H, Z0e Tryz.prog O H 50 [stA l] = some (.func (.func 88) [] [.rp [stA l]], H) := fun l => p3 l trivial
 have q4 : ∀ l ∈ ts, ∀ H, Z0e Tryz.prog O H 52 [stA l] = some (.rs (Z2g (Z70 l)).length 1 ((Z2g (Z70 l)).map .str), H) := p4
 have q5 : ∀ (i L : Nat) (h : i < ts.length), i <= 1000000 -> Z0e Tryz.prog O (bsC ds ts i L none) 88 [yA L, .rp [stA ts[i]]] = some (.tuple [], bsC ds ts i L (stO (nbSL (Z36 ds) ts[i] 0))) := fun i L h h2 => by
  have hg : ts.getD i [] = ts[i] := by simp [List.getD_eq_getElem?_getD, h]
  have := p5 (i, L) ⟨h, h2⟩
  simp only [hg] at this
  exact this
 clear p1 p2 p3 p4 p5 hck
 generalize Z36 ds = f at *
 generalize hR0 : Zig e0 ds ts f = R0
 unfold Zig at hR0
 refine fn_valXR (Φ := (· = ZiZ R0)) (rf := rfK Tryz.prog (cw0 Tryz.prog O)) (ZiY noNum hO (Z30 _ _)) follows noNum hO (fun r' e sn v h => e ▸ h) Tryz.func19 rfl (Z30 _ _) ?_
 cases h0 : e0 == 0 with
 | false =>
  rw [h0] at hR0
  simp only [cond_false] at hR0
  subst hR0
  have t0 : (e0 != 0) = true := Z2c h0
  repeat' ((conv => whnf); first | (refine exI (q1 _) ?_) | (first | refine stp ?_ | with_reducible refine Z05 (fun h => ?_) (fun h => ?_)))
  all_goals rfl
 | true =>
  rw [h0] at hR0
  simp only [cond_true] at hR0
  have t0 : (e0 != 0) = false := Z2c h0
  cases h1 : ZfA ds.length ts.length with
  | true =>
   rw [h1] at hR0
   simp only [cond_true] at hR0
   subst hR0
   unfold ZfA at h1
   by_cases a1 : ts.length < 1
   · have e1 : decide ((ts.length : Int) < 1) = true := by simp only [decide_eq_true_eq]; omega
     repeat' ((conv => whnf); first | (refine exI (q1 _) ?_) | (first | refine stp ?_ | with_reducible refine Z05 (fun h => ?_) (fun h => ?_)))
     all_goals rfl
   · have e1 : decide ((ts.length : Int) < 1) = false := by simp only [decide_eq_false_iff_not]; omega
     by_cases a2 : 4 < ts.length
     · have e2 : decide (4 < (ts.length : Int)) = true := by simp only [decide_eq_true_eq]; omega
       repeat' ((conv => whnf); first | (refine exI (q1 _) ?_) | (first | refine stp ?_ | with_reducible refine Z05 (fun h => ?_) (fun h => ?_)))
       all_goals rfl
     · have e2 : decide (4 < (ts.length : Int)) = false := by simp only [decide_eq_false_iff_not]; omega
       have e3 : decide (6 < (ds.length : Int)) = true := by
        simp only [Bool.or_eq_true, decide_eq_true_eq] at h1 ⊢
        omega
       repeat' ((conv => whnf); first | (refine exI (q1 _) ?_) | (first | refine stp ?_ | with_reducible refine Z05 (fun h => ?_) (fun h => ?_)))
       all_goals rfl
  | false =>
   rw [h1] at hR0
   simp only [cond_false] at hR0
   unfold ZfA at h1
   simp only [Bool.or_eq_false_iff, decide_eq_false_iff_not] at h1
   have e1 : decide ((ts.length : Int) < 1) = false := by simp only [decide_eq_false_iff_not]; omega
   have e2 : decide (4 < (ts.length : Int)) = false := by simp only [decide_eq_false_iff_not]; omega
   have e3 : decide (6 < (ds.length : Int)) = false := by simp only [decide_eq_false_iff_not]; omega
   repeat' ((conv => whnf); first | (refine exI (q1 _) ?_) | (first | refine stp ?_ | with_reducible refine Z05 (fun h => ?_) (fun h => ?_)))
   conv => whnf
   refine ⟨Nat, (fun i => i <= ds.length /\ Z1h (gD ds) i = none), (fun i => [(1, .ptr 0 0), (2, .ptr 1 0), (3, .ptr 2 0), (38, .rs ds.length 3 (dcC ds)), (39, .int .i64 ds.length), (40, .int .i64 i)]), (fun _ => ZkA ds ts), (fun i => ds.length - i), ⟨0, ⟨Nat.zero_le _, rfl⟩, FgL.mk [0, 1, 2] rfl ?_ ⟨⟨rfl, rfl, rfl, rfl, BodyGe.pre (rest := []) rfl rfl⟩, ⟨rfl, rfl, rfl, rfl, BodyGe.pre (rest := []) rfl rfl⟩, ⟨rfl, rfl, rfl, rfl, BodyGe.pre (rest := []) rfl rfl⟩, trivial⟩ rfl⟩, ?_⟩
   · (repeat (first | exact trivial | refine stw ?_))
   rintro i ⟨hi, hno⟩
   dsimp only
   by_cases hlt : i < ds.length
   · have f1 : decide ((i : Int) < (ds.length : Int)) = true := by simpa using hlt
     have hx := dc3 ds i hlt
     have hg := Zkr hlt
     have hq := fun H => q2 i ds[i].name H (by omega)
     have hnf : decide (0 <= Z0K (ds.take i) ds[i].name) = !noD ds[i].name (ds.take i) := Zb9 ds[i].name (ds.take i) 0
     generalize ds[i] = d at *
     obtain ⟨s, pl, vl⟩ := d
     simp only [Dc.cells] at hx hq hg hnf
     cases hn : noD s (ds.take i) with
     | false =>
      rw [hn] at hg hnf
      simp only [cond_false, Bool.not_false] at hg hnf
      rw [Z6A hlt hno hg] at hR0
      subst hR0
      repeat' ((conv => whnf); first | (refine exI hx ?_) | (refine exI (hq _) ?_) | (with_reducible refine ixJ i rfl ?_ ?_; (focus (omega))) | (with_reducible refine Zkj i rfl ?_ ?_; (focus (omega))) | (first | refine stp ?_ | with_reducible refine Z05 (fun h => ?_) (fun h => ?_)))
      all_goals rfl
     | true =>
      rw [hn] at hg hnf
      simp only [cond_true, Bool.not_true] at hg hnf
      have hno2 := (Z2Q hno).trans hg
      repeat' ((conv => whnf); first | (refine exI hx ?_) | (refine exI (hq _) ?_) | (with_reducible refine ixJ i rfl ?_ ?_; (focus (omega))) | (with_reducible refine Zkj i rfl ?_ ?_; (focus (omega))) | (first | refine stp ?_ | with_reducible refine Z05 (fun h => ?_) (fun h => ?_)))
      conv => whnf
      refine ⟨i + 1, ⟨hlt, hno2⟩, by show ds.length - (i + 1) < ds.length - i; omega, FgL.mk [0, 1, 2] rfl ?_ ⟨⟨rfl, rfl, rfl, rfl, BodyGe.pre (rest := []) rfl rfl⟩, ⟨rfl, rfl, rfl, rfl, BodyGe.pre (rest := []) rfl rfl⟩, ⟨rfl, rfl, rfl, rfl, BodyGe.pre (rest := []) rfl rfl⟩, trivial⟩ rfl⟩
      (repeat (first | exact trivial | refine stw ?_))
   · have f1 : decide ((i : Int) < (ds.length : Int)) = false := by simpa using hlt
     have hi2 : i = ds.length := by have := hi; omega
     subst hi2
     rw [hno] at hR0
     simp only at hR0
     repeat' ((conv => whnf); first | refine stp ?_ | with_reducible refine Z05 (fun h => ?_) (fun h => ?_))
     conv => whnf
     refine ⟨Nat, (fun i => i <= ts.length /\ Z1h (gT f ts) i = none), (fun i => [(1, .ptr 0 0), (2, .ptr 1 0), (3, .ptr 2 0), (57, .rs ts.length 1 (ts.map stA)), (58, .int .i64 ts.length), (59, .int .i64 i)]), (fun _ => ZkA ds ts), (fun i => ts.length - i), ⟨0, ⟨Nat.zero_le _, rfl⟩, FgL.mk [0, 1, 2] rfl ?_ ⟨⟨rfl, rfl, rfl, rfl, BodyGe.pre (rest := []) rfl rfl⟩, ⟨rfl, rfl, rfl, rfl, BodyGe.pre (rest := []) rfl rfl⟩, ⟨rfl, rfl, rfl, rfl, BodyGe.pre (rest := []) rfl rfl⟩, trivial⟩ rfl⟩, ?_⟩
     · (repeat (first | exact trivial | refine stw ?_))
     rintro i ⟨hi, hno⟩
     dsimp only
     by_cases hlt : i < ts.length
     · have f1 : decide ((i : Int) < (ts.length : Int)) = true := by simpa using hlt
       have hx := th1 ts i hlt
       have hg := ZhK (f := f) hlt
       have hqn := q3 ts[i]
       have hq5 := fun L => q5 i L hlt (by omega)
       generalize ts[i] = l at *
       simp only [stA] at hx hqn hq5
       generalize nbSL f l 0 = r at *
       obtain ⟨r1, r2⟩ := r
       simp only at hg
       cases hn : r2 == 0 with
       | false =>
        rw [hn] at hg
        simp only [cond_false] at hg
        rw [Z6A hlt hno hg] at hR0
        subst hR0
        have hst : stO (r1, r2) = some (r1, r2) := by unfold stO; simp only [hn, cond_false]
        rw [hst] at hq5
        repeat' ((conv => whnf); first | (refine exI hx ?_) | (refine exI (hqn _) ?_) | (refine ⟨by kernel_rfl, 80, tsC, rfl, ⟨rfl, rfl, rfl, rfl, trivial⟩, fun L => ?_⟩) | (refine exI (hq5 _) ?_) | (refine And.intro (show LoopState.ready ≠ LoopState.busy from by intro h; cases h) ?_) | (refine And.intro (show LoopState.done ≠ LoopState.busy from by intro h; cases h) ?_) | (with_reducible refine ixJ i rfl ?_ ?_; (focus (omega))) | (first | refine stp ?_ | with_reducible refine Z05 (fun h => ?_) (fun h => ?_)))
        all_goals rfl
       | true =>
        rw [hn] at hg
        simp only [cond_true] at hg
        have hno2 := (Z2Q hno).trans hg
        have hst : stO (r1, r2) = none := by unfold stO; simp only [hn, cond_true]
        rw [hst] at hq5
        repeat' ((conv => whnf); first | (refine exI hx ?_) | (refine exI (hqn _) ?_) | (refine ⟨by kernel_rfl, 80, tsC, rfl, ⟨rfl, rfl, rfl, rfl, trivial⟩, fun L => ?_⟩) | (refine exI (hq5 _) ?_) | (refine And.intro (show LoopState.ready ≠ LoopState.busy from by intro h; cases h) ?_) | (refine And.intro (show LoopState.done ≠ LoopState.busy from by intro h; cases h) ?_) | (with_reducible refine ixJ i rfl ?_ ?_; (focus (omega))) | (first | refine stp ?_ | with_reducible refine Z05 (fun h => ?_) (fun h => ?_)))
        conv => whnf
        refine ⟨i + 1, ⟨hlt, hno2⟩, by show ts.length - (i + 1) < ts.length - i; omega, FgL.mk [0, 1, 2] rfl ?_ ⟨⟨rfl, rfl, rfl, rfl, BodyGe.pre (rest := []) rfl rfl⟩, ⟨rfl, rfl, rfl, rfl, BodyGe.pre (rest := []) rfl rfl⟩, ⟨rfl, rfl, rfl, rfl, BodyGe.pre (rest := []) rfl rfl⟩, trivial⟩ rfl⟩
        (repeat (first | exact trivial | refine stw ?_))
     · have f1 : decide ((i : Int) < (ts.length : Int)) = false := by simpa using hlt
       have hi2 : i = ts.length := by have := hi; omega
       subst hi2
       rw [hno] at hR0
       simp only at hR0
       repeat' ((conv => whnf); first | refine stp ?_ | with_reducible refine Z05 (fun h => ?_) (fun h => ?_))
       conv => whnf
       refine ⟨Nat, (fun i => i <= ts.length /\ Z1h (gR ts) i = none), (fun i => [(1, .ptr 0 0), (2, .ptr 1 0), (3, .ptr 2 0), (81, .rs ts.length 1 (ts.map stA)), (82, .int .i64 ts.length), (83, .int .i64 i)]), (fun _ => ZkA ds ts), (fun i => ts.length - i), ⟨0, ⟨Nat.zero_le _, rfl⟩, FgL.mk [0, 1, 2] rfl ?_ ⟨⟨rfl, rfl, rfl, rfl, BodyGe.pre (rest := []) rfl rfl⟩, ⟨rfl, rfl, rfl, rfl, BodyGe.pre (rest := []) rfl rfl⟩, ⟨rfl, rfl, rfl, rfl, BodyGe.pre (rest := []) rfl rfl⟩, trivial⟩ rfl⟩, ?_⟩
       · (repeat (first | exact trivial | refine stw ?_))
       rintro i ⟨hi, hno⟩
       dsimp only
       by_cases hlt : i < ts.length
       · have f1 : decide ((i : Int) < (ts.length : Int)) = true := by simpa using hlt
         have hx := th1 ts i hlt
         have hg := Zkq hlt
         have hq := q4 ts[i] (Z1a hlt)
         generalize ts[i] = l at *
         simp only [stA] at hx hq
         generalize Z2g (Z70 l) = nm at *
         by_cases hn : 16 < nm.length
         · rw [decide_eq_true hn] at hg
           simp only [cond_true] at hg
           rw [Z6A hlt hno hg] at hR0
           subst hR0
           have f2 : decide (16 < (nm.length : Int)) = true := by simp only [decide_eq_true_eq]; omega
           repeat' ((conv => whnf); first | (refine exI hx ?_) | (refine exI (hq _) ?_) | (with_reducible refine ixJ i rfl ?_ ?_; (focus (omega))) | (first | refine stp ?_ | with_reducible refine Z05 (fun h => ?_) (fun h => ?_)))
           all_goals rfl
         · rw [decide_eq_false hn] at hg
           simp only [cond_false] at hg
           have hno2 := (Z2Q hno).trans hg
           have f2 : decide (16 < (nm.length : Int)) = false := by simp only [decide_eq_false_iff_not]; omega
           repeat' ((conv => whnf); first | (refine exI hx ?_) | (refine exI (hq _) ?_) | (with_reducible refine ixJ i rfl ?_ ?_; (focus (omega))) | (first | refine stp ?_ | with_reducible refine Z05 (fun h => ?_) (fun h => ?_)))
           conv => whnf
           refine ⟨i + 1, ⟨hlt, hno2⟩, by show ts.length - (i + 1) < ts.length - i; omega, FgL.mk [0, 1, 2] rfl ?_ ⟨⟨rfl, rfl, rfl, rfl, BodyGe.pre (rest := []) rfl rfl⟩, ⟨rfl, rfl, rfl, rfl, BodyGe.pre (rest := []) rfl rfl⟩, ⟨rfl, rfl, rfl, rfl, BodyGe.pre (rest := []) rfl rfl⟩, trivial⟩ rfl⟩
           (repeat (first | exact trivial | refine stw ?_))
       · have f1 : decide ((i : Int) < (ts.length : Int)) = false := by simpa using hlt
         have hi2 : i = ts.length := by have := hi; omega
         subst hi2
         rw [hno] at hR0
         simp only at hR0
         subst hR0
         repeat' ((conv => whnf); first | refine stp ?_ | with_reducible refine Z05 (fun h => ?_) (fun h => ?_))
         all_goals rfl
end Go.Proofs.YtbaoadpoknhhoaaGreatDoor.lex
end

section
namespace Go.Proofs.YtbaoadpoknhhoaaGreatDoor.lex
open Go.Abs Go.RowKit
set_option maxRecDepth 100000
theorem Zfk (ds : List Dc) (x : St) (h : Zgq x = true) : Z36 ds x = Zfl ds x := by
 unfold Zgq Zae at h
 simp only [Bool.and_eq_true, decide_eq_true_eq] at h
 obtain ⟨hk, hn, hl, ho, hx, -, -⟩ := h
 unfold Z36 Zfl Zdd Zj3
 obtain ⟨k, n, l, o, ex, t, e⟩ := x
 simp only [St.kind, St.name, St.loc, St.order, St.exprs] at *
 by_cases h7 : k = 7
 · subst h7
   have hL : ZgA 7 = false := by decide
   have hN : ZhJ 7 = false := by decide
   have hO : Zgz 7 = true := by decide
   have hX : Zjg 7 = 0 := by decide
   simp only [hL, hN, hO, hX, isW, Bool.false_eq_true, if_false, eq_self, if_true, decide_eq_true_eq, List.length_eq_zero_iff] at hl hn ho hx
   simp only [beq_iff_eq] at hl hn
   subst hl; subst hn; subst hx
   have ho := of_decide_eq_true ho
   have h0 : (o == 0) = false := by simp only [beq_eq_false_iff_ne, ne_eq]; omega
   have hh : Zkk ds (.mk 7 [] [] o [] t e) = false := rfl
   simp only [beq_self_eq_true, Bool.not_true, Bool.false_and, cond_false, cond_true, h0, Bool.not_false, Bool.true_and, hh]
   cases hm : Z6X 7 o false == 0 with
   | true => simp only [Bool.not_true, cond_false]; simpa using (beq_iff_eq.1 hm).symm
   | false => simp only [Bool.not_false, cond_true]
 · have e7 : (k == 7) = false := by simpa using h7
   simp only [e7, cond_false]
   by_cases hL : ZgA k = true
   · simp only [hL, isW, eq_self, if_true] at hl
     have hne : (l == []) = false := by
      cases l with
      | nil => simp [Z49] at hl
      | cons _ _ => rfl
     have hO : Zgz k = true := by
      simp only [ZgA, Zgz, decide_eq_true_eq] at hL ⊢; omega
     simp only [hO, eq_self, if_true, decide_eq_true_eq] at ho
     have ho := of_decide_eq_true ho
     have h0 : (o == 0) = false := by simp only [beq_eq_false_iff_ne, ne_eq]; omega
     simp only [hne, h0, Bool.not_false, Bool.true_and, cond_false]
   · have hL : ZgA k = false := by simpa using hL
     simp only [hL, isW, Bool.false_eq_true, if_false, beq_iff_eq] at hl
     subst hl
     have hO : Zgz k = false := by
      simp only [ZgA, Zgz, decide_eq_false_iff_not] at hL ⊢; omega
     simp only [hO, Bool.false_eq_true, if_false, beq_iff_eq] at ho
     subst ho
     simp only [beq_self_eq_true, Bool.not_true, Bool.false_and, cond_false]
mutual
theorem Zdg {f g : St -> Int} (h : ∀ x, Zgq x = true -> f x = g x) : ∀ (x : St) (m : Nat), Z68 x = true -> nbS f x m = nbS g x m
 | .mk k n l o ex t e, m, hr => by
  rw [Zd0] at hr
  simp only [Bool.and_eq_true, St.exprs, St.thn, St.els] at hr
  obtain ⟨h1, _, h3, h4⟩ := hr
  have hE : nbSL f e = nbSL g e := funext fun m => nbSL_congr h e m h4
  simp only [nbS]
  rw [h _ h1, nbSL_congr h t (m + 1) h3, hE]
theorem nbSL_congr {f g : St -> Int} (h : ∀ x, Zgq x = true -> f x = g x) : ∀ (l : List St) (m : Nat), rightSL l = true -> nbSL f l m = nbSL g l m
 | [], m, hr => by simp only [nbSL]
 | x :: l, m, hr => by
  simp only [rightSL, Bool.and_eq_true] at hr
  have hL : nbSL f l = nbSL g l := funext fun m => nbSL_congr h l m hr.2
  simp only [nbSL]
  rw [Zdg h x m hr.1, hL]
end
theorem Z67 : ∀ {ts : List (List St)} {i : Nat} (h : i < ts.length), Z0V ts = true -> rightSL ts[i] = true
 | l :: t, 0, h, hr => by simp only [Z0V, Bool.and_eq_true] at hr; exact hr.1
 | l :: t, i + 1, h, hr => by simp only [Z0V, Bool.and_eq_true] at hr; simpa using Z67 (by simpa using h) hr.2
theorem Zg1 (p : Pr) : Zig (Z4y p) p.decls p.threads (Z36 p.decls) = Zig (Z4y p) p.decls p.threads (Zfl p.decls) := by
 unfold Zig
 cases h : Z4y p == 0 with
 | false => rfl
 | true =>
  have hr : Z0V p.threads = true := by
   unfold Z4y at h
   split at h
   · cases h
   · split at h
     · rename_i h2; simp only [Bool.and_eq_true] at h2; exact h2.2
     · cases h
  have : ∀ i, i < p.threads.length -> gT (Z36 p.decls) p.threads i = gT (Zfl p.decls) p.threads i := fun i hi => by
   rw [ZhK hi, ZhK hi, nbSL_congr (fun x hx => Zfk p.decls x hx) _ 0 (Z67 hi hr)]
  rw [Z5l this]
def Zle (p : Pr) : W3 := Zig (Z4y p) p.decls p.threads (Zfl p.decls)
theorem Zes (p : Pr) (hok : okP p) (hs : Z2r p.threads <= 800000) : ValOK Tryz.prog runLives.gl 19 [p.av] (ZiZ (Zle p)) := by
 have := Zcr p hok hs
 rw [Zg1] at this; exact this
end Go.Proofs.YtbaoadpoknhhoaaGreatDoor.lex
end

section
namespace Go.Abs
open Go.RowKit
noncomputable def ZdA (T : TH) : Nat -> AV -> Option AV
 | 0, _ => none
 | n + 1, u => match u with
  | .ptr b off => match (T.get b).alive, (T.get b).body with
   | true, .cells cs _ => match Z2N (ZdA T n) (cs.drop off) with | some l => some (.rp l) | none => none
   | _, _ => none
  | .slice b off len _ z => match len with
   | 0 => some (.rs 0 z [])
   | _ + 1 => match (T.get b).alive, (T.get b).body with
    | true, .cells cs _ => match tk (len * z) (cs.drop off) with
     | some cs => match Z2N (ZdA T n) cs with | some l => some (.rs len z l) | none => none
     | none => none
    | _, _ => none
  | .agg cs => match Z2N (ZdA T n) cs with | some l => some (.agg l) | none => none
  | .tuple cs => match Z2N (ZdA T n) cs with | some l => some (.tuple l) | none => none
  | .iface t v => match ZdA T n v with | some x => some (.iface t x) | none => none
  | .func fn f c => match Z2N (ZdA T n) f, Z2N (ZdA T n) c with | some f, some c => some (.func fn f c) | _, _ => none
  | .map _ => none
  | u => some u
theorem Z25 {f g : AV -> Option AV} (h : ∀ u r, f u = some r -> g u = some r) : ∀ {l l' : List AV}, Z2N f l = some l' -> Z2N g l = some l'
 | [], l', e => e
 | c :: l, l', e => by
  simp only [Z2N] at e ⊢
  split at e <;> simp at e
  rename_i x y hx hy
  subst e
  rw [h _ _ hx, Z25 h hy]
theorem ZfI {T : TH} {H : Z00} (hR : Rep T H) : ∀ (n : Nat) (u r : AV), ZdA T n u = some r -> frz H n u = some r := by
 intro n
 induction n with
 | zero => intro u r h; simp [ZdA] at h
 | succ n ih =>
  intro u r h
  unfold ZdA at h
  unfold frz
  split at h
  · rename_i b off
    split at h <;> try (simp at h; done)
    rename_i cs ty ha hb
    split at h <;> simp at h
    rename_i l hl
    subst h
    simp only [hR.obj b ha, ha, hb, Z25 ih hl]
  · rename_i b off len cap z
    split at h
    · simp at h; subst h; rfl
    · rename_i len
      split at h <;> try (simp at h; done)
      rename_i cs ty ha hb
      split at h <;> try (simp at h; done)
      rename_i cs' hcs
      split at h <;> simp at h
      rename_i l hl
      subst h
      simp only [hR.obj b ha, ha, hb, hcs, Z25 ih hl]
  · split at h <;> simp at h
    rename_i l hl; subst h
    simp only [Z25 ih hl]
  · split at h <;> simp at h
    rename_i l hl; subst h
    simp only [Z25 ih hl]
  · split at h <;> simp at h
    rename_i x hx; subst h
    simp only [ih _ _ hx]
  · split at h <;> simp at h
    rename_i f c hf hc; subst h
    simp only [Z25 ih hf, Z25 ih hc]
  · simp at h
  · rename_i e1 e2 e3 e4 e5 e6 e7
    simp at h; subst h
    cases u with
    | ptr b o => exact (e1 _ _ rfl).elim
    | slice b o l c z => exact (e2 _ _ _ _ _ rfl).elim
    | agg cs => exact (e3 _ rfl).elim
    | tuple cs => exact (e4 _ rfl).elim
    | iface t v => exact (e5 _ _ rfl).elim
    | func fn f c => exact (e6 _ _ _ rfl).elim
    | map b => exact (e7 _ rfl).elim
    | _ => rfl
noncomputable def ZhU (F : Nat -> List AV -> Option AV) : Z4K := fun f args T => match Z2N (ZdA T 30) args with
 | some az => match F f az with | some r => some (r, T) | none => none
 | none => none
theorem ZdE (F : Nat -> List AV -> Option AV) : Z16 (ZhU F) (Z9V F) := by
 intro f args T r T' h H hR
 unfold ZhU at h
 split at h <;> try (simp at h; done)
 rename_i az hz
 split at h <;> simp at h
 rename_i r' hr
 obtain ⟨rfl, rfl⟩ := h
 exact ⟨H, by simp only [Z9V, Z25 (ZfI hR 30) hz, hr], hR⟩
mutual
def wkV : AV -> AV -> Bool
 | .nslice, .rs 0 _ [] => true
 | .agg a, .agg b => wkVL a b
 | .rs n z a, .rs n' z' b => Nat.beq n n' && (Nat.beq z z' && wkVL a b)
 | .rp a, .rp b => wkVL a b
 | u, u2 => veq u u2
def wkVL : List AV -> List AV -> Bool
 | [], [] => true
 | u :: l, u2 :: l2 => wkV u u2 && wkVL l l2
 | _, _ => false
end
theorem Z7X : ∀ {l l2 : List AV}, wkVL l l2 = true -> l.length = l2.length
 | [], [], _ => rfl
 | u :: l, u2 :: l2, h => by simp only [wkVL, Bool.and_eq_true] at h; simp [Z7X h.2]
 | [], _ :: _, h => by simp [wkVL] at h
 | _ :: _, [], h => by simp [wkVL] at h
mutual
theorem Zgi {sn : Z0d} {ι : Z0a} : ∀ (u u2 : AV) (v : Value), wkV u u2 = true -> VR sn ι u v -> VR sn ι u2 v
 | .agg a, .agg b, v, h, e => by
  simp only [wkV] at h
  obtain ⟨d, rfl, h1⟩ := e.agg
  exact Z3K (wkVL_LR a b _ h h1)
 | .rs n z a, .rs n' z' b, v, h, e => by
  simp only [wkV, Bool.and_eq_true] at h
  obtain ⟨h1, h2, h3⟩ := h
  have := Nat.eq_of_beq_eq_true h1; subst this
  have := Nat.eq_of_beq_eq_true h2; subst this
  have hl := Z7X h3
  simp only [VR] at e ⊢
  rcases e with ⟨e1, rfl, e3⟩ | ⟨ad, cap, e1, e2, e3, e4, e5⟩
  · exact .inl ⟨e1, by cases b with | nil => rfl | cons _ _ => simp at hl, e3⟩
  · exact .inr ⟨ad, cap, e1, e2, by rw [<- hl]; exact e3, wkVL_MR a b _ _ h3 e4, e5⟩
 | .rp a, .rp b, v, h, e => by
  simp only [wkV] at h
  simp only [VR] at e ⊢
  obtain ⟨bl, o, e1, e2⟩ := e
  exact ⟨bl, o, e1, wkVL_MR a b _ _ h e2⟩
 | u, u2, v, h, e => by
  by_cases hn : u = .nslice /\ ∃ z, u2 = .rs 0 z []
  · obtain ⟨rfl, z, rfl⟩ := hn
    exact Zdf e
  · have : veq u u2 = true \/ ((∃ a b, u = .agg a /\ u2 = .agg b) \/ (∃ n z a n' z' b, u = .rs n z a /\ u2 = .rs n' z' b) \/ (∃ a b, u = .rp a /\ u2 = .rp b)) := by
     unfold wkV at h
     split at h
     · exact (hn ⟨rfl, _, rfl⟩).elim
     · exact .inr (.inl ⟨_, _, rfl, rfl⟩)
     · exact .inr (.inr (.inl ⟨_, _, _, _, _, _, rfl, rfl⟩))
     · exact .inr (.inr (.inr ⟨_, _, rfl, rfl⟩))
     · exact .inl h
    rcases this with h | ⟨a, b, rfl, rfl⟩ | ⟨n, z, a, n', z', b, rfl, rfl⟩ | ⟨a, b, rfl, rfl⟩
    · have := Z7b _ _ h; subst this; exact e
    · simp only [wkV] at h
      obtain ⟨d, rfl, h1⟩ := e.agg
      exact Z3K (wkVL_LR a b _ h h1)
    · simp only [wkV, Bool.and_eq_true] at h
      obtain ⟨h1, h2, h3⟩ := h
      have := Nat.eq_of_beq_eq_true h1; subst this
      have := Nat.eq_of_beq_eq_true h2; subst this
      have hl := Z7X h3
      simp only [VR] at e ⊢
      rcases e with ⟨e1, rfl, e3⟩ | ⟨ad, cap, e1, e2, e3, e4, e5⟩
      · exact .inl ⟨e1, by cases b with | nil => rfl | cons _ _ => simp at hl, e3⟩
      · exact .inr ⟨ad, cap, e1, e2, by rw [<- hl]; exact e3, wkVL_MR a b _ _ h3 e4, e5⟩
    · simp only [wkV] at h
      simp only [VR] at e ⊢
      obtain ⟨bl, o, e1, e2⟩ := e
      exact ⟨bl, o, e1, wkVL_MR a b _ _ h e2⟩
theorem wkVL_LR {sn : Z0d} {ι : Z0a} : ∀ (l l2 : List AV) (vs : List Value), wkVL l l2 = true -> LR sn ι l vs -> LR sn ι l2 vs
 | [], [], vs, h, e => e
 | u :: l, u2 :: l2, vs, h, e => by
  simp only [wkVL, Bool.and_eq_true] at h
  simp only [LR] at e ⊢
  obtain ⟨d, ds, e1, e2, e3⟩ := e
  exact ⟨d, ds, e1, Zgi u u2 d h.1 e2, wkVL_LR l l2 ds h.2 e3⟩
 | [], _ :: _, _, h, _ => by simp [wkVL] at h
 | _ :: _, [], _, h, _ => by simp [wkVL] at h
theorem wkVL_MR {sn : Z0d} : ∀ (l l2 : List AV) (b o : Nat), wkVL l l2 = true -> MR sn l b o -> MR sn l2 b o
 | [], [], b, o, h, e => e
 | u :: l, u2 :: l2, b, o, h, e => by
  simp only [wkVL, Bool.and_eq_true] at h
  simp only [MR] at e ⊢
  obtain ⟨⟨v, e1, e2⟩, e3⟩ := e
  exact ⟨⟨v, e1, Zgi u u2 v h.1 e2⟩, wkVL_MR l l2 b (o + 1) h.2 e3⟩
 | [], _ :: _, _, _, h, _ => by simp [wkVL] at h
 | _ :: _, [], _, _, h, _ => by simp [wkVL] at h
end
theorem ValOK.nils {P : Program} {gl : Glob} {f : Nat} {args args2 : List AV} {r : AV} (h : ValOK P gl f args2 r) (hw : wkVL args args2 = true) : ValOK P gl f args r :=
 h.weak fun sn vs e => wkVL_LR args args2 vs hw e
end Go.Abs
end

section
set_option maxRecDepth 100000
namespace Go.Proofs.YtbaoadpoknhhoaaGreatDoor.runLives
open Go.RowKit Go.Abs Go.Proofs.YtbaoadpoknhhoaaGreatDoor.lex
def ld (n l : List UInt8) (o : Int) : St := .mk 2 n l o [] [] []
def dx : Dc := ⟨[120], false, 0⟩
def eR : Ex := .mk 2 0 [114] []
def eN : Ex := .mk 1 1 [] []
def Zda : List (Pr × W3) := [
 (⟨[dx], [[ld [114] [120] 3, .mk 10 [] [] 0 [.mk 7 0 [] [eR, eN]] [.mk 3 [] [120] 4 [.mk 14 0 [] [eR, eN]] [] []] []]]⟩, (0, 0, 0)),
 (⟨[dx], [[.mk 11 [] [] 0 [.mk 9 0 [] [eR, .mk 1 3 [] []]] [.mk 1 [114] [] 0 [.mk 14 0 [] [eR, eN]] [] []] []]]⟩, (0, 0, 0)),
 (⟨[dx], [[.mk 10 [] [] 0 [eN] [.mk 7 [] [] 6 [] [] []] [.mk 1 [114] [] 0 [.mk 1 2 [] []] [] []]]]⟩, (0, 0, 0)),
 (⟨[], []⟩, (0, 0, 3))]
def look (args : List AV) : List (Pr × W3) -> Option AV
 | [] => none
 | (p, r) :: l => if wkVL args [p.av] then some (ZiZ r) else look args l
theorem Zbe {args : List AV} : ∀ {l : List (Pr × W3)} {x : AV}, look args l = some x -> ∃ p r, (p, r) ∈ l /\ wkVL args [p.av] = true /\ x = ZiZ r
 | (p, r) :: l, x, h => by
  unfold look at h
  split at h
  · rename_i hw; simp at h; exact ⟨p, r, by simp, hw, h.symm⟩
  · obtain ⟨p', r', h1, h2⟩ := Zbe h; exact ⟨p', r', by simp [h1], h2⟩
 | [], x, h => by simp [look] at h
def ZiU : Nat -> List AV -> Option AV := fun f args => if Nat.beq f 19 then look args Zda else none
theorem Zfh : ∀ x ∈ Zda, okP x.1 /\ Z2r x.1.threads <= 800000 /\ Zle x.1 = x.2 := by
 have h : ∀ x, x ∈ Zda -> x ∈ Zda := fun x h => h
 intro x hx
 simp only [Zda, List.mem_cons, List.not_mem_nil, or_false] at hx
 rcases hx with rfl | rfl | rfl | rfl <;> refine ⟨?_, by decide, by rfl⟩ <;> simp [okP, okD, Zho, okSL, okS, okL, okE, okN, ld, dx, eR, eN]
theorem tabW_sound : OrcSound Tryz.prog gl (Z9V ZiU) := Z1F fun f args r h => by
 unfold ZiU at h
 split at h
 · rename_i e
   have e := Nat.eq_of_beq_eq_true e
   subst e
   obtain ⟨p, r', hm, hw, rfl⟩ := Zbe h
   obtain ⟨h1, h2, h3⟩ := Zfh _ hm
   simp only at h1 h2 h3
   subst h3
   exact ⟨rfl, (Zes p h1 h2).nils hw⟩
 · cases h
def isS (l : List (Nat × List AV)) : Nat -> List AV -> Bool := fun f args => Nat.beq f 94 || (Nat.beq f 19 || ZiL f args l)
noncomputable def foS (l : List (Nat × List AV)) : Z4K := Z5L (fun f _ => Nat.beq f 94) (Zdy 94 129) (Z5L (fun f _ => Nat.beq f 19) (ZhU ZiU) (ZhL l))
def toS (l : List (Nat × List AV)) : Orc := Zaf (fun f _ => Nat.beq f 94) (sortO 94 129) (Zaf (fun f _ => Nat.beq f 19) (Z9V ZiU) (tblO l))
theorem simS (l : List (Nat × List AV)) : Z16 (foS l) (toS l) := Z5k (Zcg _ _) (Z5k (ZdE ZiU) (Zdx l))
theorem Zkg : Z5D (ZdB Tryz.prog gl (isS []) (foS []) 100000 100 7 [] TH.empty) = true := by kernel_rfl
theorem knownLives : OrcSound Tryz.prog gl (tblO [(7, [])]) := Z6o follows noNum (simS []) (Z2K shelf.sound (Z2K tabW_sound ZaV)) ZaV rfl Zkg
end Go.Proofs.YtbaoadpoknhhoaaGreatDoor.runLives
end

section
set_option maxRecDepth 100000
namespace Go.Proofs.YtbaoadpoknhhoaaGreatDoor.runLowerNames
open Go.RowKit Go.Abs
def gl : Glob := runLives.gl
theorem globs {W : World} (h : laidMetH Tryz.prog Rows.lowerNamesRow.laid W) : GlOK gl (snap0 W) := runLives.globs h
theorem Zkb : Z5D (ZdB Tryz.prog gl (runLives.isS [(7, [])]) (runLives.foS [(7, [])]) 100000 100 3 [] TH.empty) = true := by kernel_rfl
theorem known : OrcSound Tryz.prog gl (tblO [(3, []), (7, [])]) := Z6o runLives.follows runLives.noNum (runLives.simS [(7, [])]) (Z2K shelf.sound (Z2K runLives.tabW_sound runLives.knownLives)) runLives.knownLives rfl Zkb
end Go.Proofs.YtbaoadpoknhhoaaGreatDoor.runLowerNames
end

/-
  Texts of this proof, one behind the other (part 9).
-/
import Derived.Test.YtbaoadpoknhhoaaGreatDoorPk8
set_option linter.unusedVariables false
set_option linter.unusedSimpArgs false

section
namespace Go.Proofs.YtbaoadpoknhhoaaGreatDoor.lex
open Go.Abs Go.RowKit
set_option maxRecDepth 100000
set_option maxHeartbeats 4000000
noncomputable def rcC : Array Tmp × Code × Code := Zln Tryz.f19.body
noncomputable def Zk7 (L : Nat) (st : Option (Nat × Int)) : ALoop := match st with
 | none => ⟨L, .ready, none, 80, rcC.1, rcC.2.1, rcC.2.2⟩
 | some _ => ⟨L, .done, some .ret, 80, rcC.1, rcC.2.1, rcC.2.2⟩
def tsC : List (Nat × AV) := [(1, .ptr 0 0), (2, .ptr 1 0), (3, .ptr 2 0), (7, .ptr 3 0)]
def wC (t : Nat) (st : Option (Nat × Int)) : List AV := match st with
 | none => [.int .i64 0, .int .i64 0]
 | some r => [.int .i64 ((t + 1 : Nat) : Int), .int .i64 (r.1 : Nat)]
def eC (st : Option (Nat × Int)) : List AV := match st with
 | none => [.int .i64 0]
 | some r => [.int .i64 r.2]
noncomputable def bsC (ds : List Dc) (ts : List (List St)) (t L : Nat) (st : Option (Nat × Int)) : Z00 := [⟨true, 0, 0, .cells [.rs ds.length 3 (dcC ds), .rs ts.length 1 (ts.map stA)] 43⟩, ⟨true, 1, 0, .cells (wC t st) 63⟩, ⟨true, 2, 0, .cells (eC st) 28⟩, ⟨true, 3, 0, .cells [.int .i64 (t : Nat)] 3⟩, ⟨true, 4, 0, .loop (Zk7 L st) tsC⟩]
def yA (L : Nat) : AV := .func (.yield L) [] []
def ecA : AV := .func (.func 89) [] [.ptr 5 0, .ptr 6 0, .ptr 7 0]
noncomputable def ecH (ds : List Dc) (ts : List (List St)) (t L : Nat) (n : Int) (st : Option (Nat × Int)) : Z00 := [⟨true, 0, 0, .cells [.rs ds.length 3 (dcC ds), .rs ts.length 1 (ts.map stA)] 43⟩, ⟨true, 1, 0, .cells (wC t st) 63⟩, ⟨true, 2, 0, .cells (eC st) 28⟩, ⟨true, 3, 0, .cells [.int .i64 (t : Nat)] 3⟩, ⟨true, 4, 0, .loop (Zk7 L st) tsC⟩,
 ⟨true, 5, 0, .cells [yA L] 150⟩, ⟨true, 6, 0, .cells [.int .i64 n] 3⟩, ⟨true, 7, 0, .cells [ecA] 138⟩]
def stO (r : Nat × Int) : Option (Nat × Int) := cond (r.2 == 0) none (some r)
theorem Zff (ds : List Dc) (ts : List (List St)) (t L n : Nat) (x : St) (hd : ds.length <= 9223372036854775807) (hok : okS x) (hs : sizeL x.exprs <= 800000) (ht : t <= 1000000) :
  Z10 Tryz.prog runLives.gl (Z6Y L) [.int .i64 (n : Nat), .agg x.cells] (ecH ds ts t L n none) (.bool (Z36 ds x == 0)) (ecH ds ts t L n (stO (n, Z36 ds x))) := by
 obtain ⟨O, hO, p1, -⟩ := fams (P := Tryz.prog) (gl := runLives.gl) [{ I := Unit, f := 51, G := fun _ => True, A := fun _ => [.rs ds.length 3 (dcC ds), .agg x.cells], R := fun _ => .int .i64 (Z36 ds x), body := (by kernel_rfl), inj := (fun i j _ _ h => rfl), ok := (fun _ _ => ⟨Zf9 ds x, Zf8 ds x hd hok hs⟩) }] rfl
 have q1 : ∀ H, Z0e Tryz.prog O H 51 [.rs ds.length 3 (dcC ds), .agg x.cells] = some (.int .i64 (Z36 ds x), H) := p1 () trivial
 clear p1
 generalize Z36 ds x = e at *
 obtain ⟨k, nm, lc, o, ex, th, el⟩ := x
 simp only [St.cells, exA] at *
 refine ZcX (k := 8) (b := 4) (fam := 4) (sh := 0) (g := Zk7 L none) (ts := tsC) follows noNum hO (Z30 _ _) rfl rfl rfl rfl ?_
 cases he : e == 0 with
 | true =>
  have f1 : (e != 0) = false := Z2c he
  have hst : stO (n, e) = none := by unfold stO; simp only [he, cond_true]
  rw [hst]
  repeat' ((conv => whnf); first | (refine exI (q1 _) ?_) | (refine And.intro (rfl : (_ : LoopState) = _) ?_) | (first | refine stp ?_ | with_reducible refine Z05 (fun h => ?_) (fun h => ?_)))
  all_goals (conv => whnf)
  all_goals first | exact ⟨rfl, rfl⟩ | exact ⟨rfl, rfl, rfl⟩ | trace_state
 | false =>
  have f1 : (e != 0) = true := Z2c he
  have hst : stO (n, e) = some (n, e) := by unfold stO; simp only [he, cond_false]
  rw [hst]
  repeat' ((conv => whnf); first | (refine exI (q1 _) ?_) | (refine And.intro (rfl : (_ : LoopState) = _) ?_) | (first | refine stp ?_ | with_reducible refine Z05 (fun h => ?_) (fun h => ?_)))
  all_goals (conv => whnf)
  all_goals first | exact ⟨rfl, rfl⟩ | exact ⟨rfl, rfl, rfl⟩ | trace_state
theorem Zi1 {ds : List Dc} {ts : List (List St)} {t L : Nat} {n m : Int} (h : ecH ds ts t L n none = ecH ds ts t L m none) : n = m := by
 simpa only [ecH, List.cons.injEq, AObj.mk.injEq, ABody.cells.injEq, AV.int.injEq, and_true, true_and] using h
theorem ZdT {ds : List Dc} {ts : List (List St)} {t L : Nat} {n m : Int} {X Y : Z00} (h : ecH ds ts t L n none ++ X = ecH ds ts t L m none ++ Y) : n = m /\ X = Y := by
 obtain ⟨h1, h2⟩ := List.append_inj h rfl
 exact ⟨Zi1 h1, h2⟩
def fs8 : List Nat := [0, 1, 2, 3, 4, 5, 6, 7]
theorem Zbv (ds : List Dc) (ts : List (List St)) (t L : Nat) (n : Int) : Zci 8 (ecH ds ts t L n none) = true := rfl
theorem Zj7 (L f : Nat) (h : f < 1024) : Z6Y L ≠ f := fun e => by have e : L + 1024 = f := e; omega
theorem ZdU (ds : List Dc) (ts : List (List St)) (t L : Nat) (hd : ds.length <= 9223372036854775807) (ht : t <= 1000000) : ∀ (q : Nat) (l : List St) (n : Nat), sizeSL l <= q -> okSL l -> l.length <= 9223372036854775807 -> n + sizeSL l <= 800000 ->
  Z10 Tryz.prog runLives.gl 89 [stA l, .ptr 5 0, .ptr 6 0, .ptr 7 0] (ecH ds ts t L n none) (.bool ((nbSL (Z36 ds) l n).2 == 0)) (ecH ds ts t L (nbSL (Z36 ds) l n).1 (stO (nbSL (Z36 ds) l n)))
 | q, l, n, hq, hok, hl, hn => by
  have hO : ∃ O, OrcSound Tryz.prog runLives.gl O /\ (∀ x ∈ l, ∀ (c : Nat) (X : Z00), Z3N fs8 X = true -> Z0e Tryz.prog O (ecH ds ts t L c none ++ X) (Z6Y L) (Z8O L :: [.int .i64 (c : Nat), .agg x.cells]) = some (.bool (Z36 ds x == 0), ecH ds ts t L c (stO (c, Z36 ds x)) ++ X)) /\
    (∀ (y : List St) (c : Nat) (X : Z00), sizeSL y < q -> okSL y -> y.length <= 9223372036854775807 -> c + sizeSL y <= 800000 -> Z3N fs8 X = true -> Z0e Tryz.prog O (ecH ds ts t L c none ++ X) 89 [stA y, .ptr 5 0, .ptr 6 0, .ptr 7 0] = some (.bool ((nbSL (Z36 ds) y c).2 == 0), ecH ds ts t L (nbSL (Z36 ds) y c).1 (stO (nbSL (Z36 ds) y c)) ++ X)) := by
   refine ⟨Z2h (orcI (fun p : Nat × St × Z00 => p.2.1 ∈ l /\ Z3N fs8 p.2.2 = true) (fun _ => Z6Y L) (fun p => [.int .i64 (p.1 : Nat), .agg p.2.1.cells]) (fun p => ecH ds ts t L p.1 none ++ p.2.2) (fun p => .bool (Z36 ds p.2.1 == 0)) (fun p => ecH ds ts t L p.1 (stO (p.1, Z36 ds p.2.1)) ++ p.2.2)) (orcI (fun p : List St × Nat × Z00 => sizeSL p.1 < q /\ okSL p.1 /\ p.1.length <= 9223372036854775807 /\ p.2.1 + sizeSL p.1 <= 800000 /\ Z3N fs8 p.2.2 = true) (fun _ => 89) (fun p => [stA p.1, .ptr 5 0, .ptr 6 0, .ptr 7 0]) (fun p => ecH ds ts t L p.2.1 none ++ p.2.2) (fun p => .bool ((nbSL (Z36 ds) p.1 p.2.1).2 == 0)) (fun p => ecH ds ts t L (nbSL (Z36 ds) p.1 p.2.1).1 (stO (nbSL (Z36 ds) p.1 p.2.1)) ++ p.2.2)), Z0L (Z13 fun p hp => ?_) (Z13 fun p hp => ?_), fun x hx c X hX => ?_, fun y c X h0 h1 h2 h3 hX => ?_⟩
   · exact Zdk (Zff ds ts t L p.1 p.2.1 hd (Z3v hok _ hp.1) (by have := Z4R l p.2.1 hp.1; rw [Z7k] at this; omega) ht) p.2.2 rfl (by cases p.2.1; rfl) (Zbv ..) hp.2
   · obtain ⟨h0, h1, h2, h3, h4⟩ := hp
     refine Zdk ?_ p.2.2 rfl rfl (Zbv ..) h4
     match q, hq, h0 with
     | q + 1, hq, h0 => exact ZdU ds ts t L hd ht q p.1 p.2.1 (by omega) h1 h2 h3
   · exact Zga noNum (Zhl (fun i j _ _ _ ha hh => by
      obtain ⟨i1, i2, i3⟩ := i
      obtain ⟨j1, j2, j3⟩ := j
      obtain ⟨h1, rfl⟩ := ZdT hh
      obtain rfl : i1 = j1 := by simp only at h1; omega
      simp only [List.cons.injEq, and_true, true_and] at ha
      rw [Z8B ha]; exact ⟨rfl, rfl⟩) (c, x, X) ⟨hx, hX⟩ rfl rfl rfl)
   · exact Z2j (by kernel_rfl) (Z2t fun p _ e _ => Zj7 _ _ (by decide) e) (Zay (P := Tryz.prog) (fun i j _ _ _ ha hh => by
      obtain ⟨i1, i2, i3⟩ := i
      obtain ⟨j1, j2, j3⟩ := j
      obtain ⟨h1, rfl⟩ := ZdT hh
      obtain rfl : i2 = j2 := by simp only at h1; omega
      simp only [List.cons.injEq, and_true] at ha
      rw [Z3S ha]; exact ⟨rfl, rfl⟩) (by kernel_rfl) (y, c, X) ⟨h0, h1, h2, h3, hX⟩ rfl rfl rfl)
  obtain ⟨O, hO, q1, q2⟩ := hO
  generalize Z36 ds = f at *
  show Z10 _ _ _ [.rs l.length 7 (stC l), .ptr 5 0, .ptr 6 0, .ptr 7 0] _ _ _
  refine Z3c (k := 8) follows noNum hO rfl Tryz.func89 rfl (Z30 _ _) ?_
  repeat' ((conv => whnf); first | refine stp ?_ | with_reducible refine Z05 (fun h => ?_) (fun h => ?_))
  conv => whnf
  refine ⟨Nat, (fun i => i <= l.length /\ (nbSL f (l.take i) n).2 = 0), (fun i => [(1, .ptr 5 0), (2, .ptr 6 0), (3, .ptr 7 0), (8, .rs l.length 7 (stC l)), (9, .int .i64 l.length), (10, .int .i64 i)]), (fun i => ecH ds ts t L ((nbSL f (l.take i) n).1 : Nat) none), (fun i => l.length - i), ⟨0, ⟨Nat.zero_le _, rfl⟩, FgLK.mk [0, 1, 2, 3, 4, 5, 6, 7] rfl rfl ?_ ⟨⟨rfl, rfl, rfl, rfl, BodyGe.pre (rest := []) rfl rfl⟩, ⟨rfl, rfl, rfl, rfl, BodyGe.pre (rest := []) rfl rfl⟩, ⟨rfl, rfl, rfl, rfl, BodyGe.pre (rest := []) rfl rfl⟩, ⟨rfl, rfl, rfl, rfl, BodyGe.pre (rest := []) rfl rfl⟩, ⟨rfl, rfl, rfl, rfl, rfl, rfl, Wk.ptr rfl rfl, rfl, Wk.ptr rfl rfl, rfl, Wk.ptr rfl rfl, rfl, Wk.ptr rfl rfl, trivial⟩, ⟨rfl, rfl, rfl, rfl, BodyGe.pre (rest := []) rfl rfl⟩, ⟨rfl, rfl, rfl, rfl, BodyGe.pre (rest := []) rfl rfl⟩, ⟨rfl, rfl, rfl, rfl, BodyGe.cellsL ⟨Wk.func trivial ⟨Wk.ptr rfl rfl, Wk.ptr rfl rfl, Wk.ptr rfl rfl, trivial⟩, trivial⟩⟩, trivial⟩ rfl⟩, ?_⟩
  · (repeat (first | exact trivial | refine stw ?_))
  rintro i ⟨hi, h0⟩
  dsimp only
  by_cases hlt : i < l.length
  · have e1 : decide ((i : Int) < (l.length : Int)) = true := by simpa using hlt
    have hat := Zdh f l n i hlt h0
    have hstop := Z9a f l n (i + 1)
    have hle := nbSL_le f (l.take i) n
    have hsz := Z93 l i hlt
    have hx := st7 l i hlt
    have hmem := Z1a hlt
    have hok' := Z38 (Z3v hok _ hmem)
    have hkids := Z7k l[i]
    have hy := fun c X hX => q1 _ hmem c X hX
    generalize hc : (nbSL f (l.take i) n).1 = c at *
    generalize l[i] = x at *
    rw [Zj9] at hat
    obtain ⟨_, _, _, ht1, he, _, ht2, he2⟩ := hok'
    have hX : Z3N fs8 [⟨true, 8, 0, .cells x.cells 109⟩] = true := rfl
    have hy := hy c _ hX
    have hqt := q2 x.thn (c + 1) _ (by omega) ht2 ht1 (by omega) hX
    have hlt2 := nbSL_le f x.thn (c + 1)
    rw [show ((c + 1 : Nat) : Int) = (c : Int) + 1 from by omega] at hqt
    cases h1 : f x == 0 with
    | false =>
     rw [h1] at hat hy
     simp only [cond_false] at hat
     have hst := hstop (by rw [hat]; simpa using h1)
     rw [hst, hat]
     have hsO : stO (c, f x) = some (c, f x) := by unfold stO; simp only [h1, cond_false]
     simp only [h1]
     rw [hsO] at hy ⊢
     obtain ⟨k, nm, lc, o, ex, th, el⟩ := x
     simp only [St.cells, exA, St.thn, St.els, stA] at *
     clear hqt hat hst hstop q1 q2
     generalize f (St.mk k nm lc o ex th el) = fx at *
     repeat' ((conv => whnf); first | (refine exI hx ?_) | (refine exI hy ?_) | (with_reducible refine ixJ i rfl ?_ ?_; (focus (omega))) | (first | refine stp ?_ | with_reducible refine Z05 (fun h => ?_) (fun h => ?_)))
     all_goals exact ⟨rfl, rfl⟩
    | true =>
     rw [h1] at hat hy
     simp only [cond_true] at hat
     have hsO : stO (c, f x) = none := by unfold stO; simp only [h1, cond_true]
     rw [hsO] at hy
     clear hsO
     have hqe := q2 x.els (nbSL f x.thn (c + 1)).1 _ (by omega) he2 he (by omega) hX
     have hle2 := nbSL_le f x.els (nbSL f x.thn (c + 1)).1
     generalize nbSL f x.thn (c + 1) = T at *
     obtain ⟨T1, T2⟩ := T
     simp only [Z82] at *
     cases h2 : T2 == 0 with
     | false =>
      rw [h2] at hat hqt
      simp only [cond_false] at hat
      have hst := hstop (by rw [hat]; simpa using h2)
      rw [hst, hat]
      have hsT : stO (T1, T2) = some (T1, T2) := by unfold stO; simp only [h2, cond_false]
      simp only [h2]
      rw [hsT] at hqt ⊢
      obtain ⟨k, nm, lc, o, ex, th, el⟩ := x
      simp only [St.cells, exA, St.thn, St.els, stA] at *
      clear hqe hat hst hstop q1 q2
      repeat' ((conv => whnf); first | (refine exI hx ?_) | (refine exI hy ?_) | (refine exI hqt ?_) | (refine exI hqe ?_) | (with_reducible refine ixJ i rfl ?_ ?_; (focus (omega))) | (first | refine stp ?_ | with_reducible refine Z05 (fun h => ?_) (fun h => ?_)))
      all_goals exact ⟨rfl, rfl⟩
     | true =>
      rw [h2] at hat hqt
      simp only [cond_true] at hat
      have hsT : stO (T1, T2) = none := by unfold stO; simp only [h2, cond_true]
      rw [hsT] at hqt
      clear hsT
      generalize nbSL f x.els T1 = E at *
      obtain ⟨E1, E2⟩ := E
      simp only at hqe hat
      cases h3 : E2 == 0 with
      | false =>
       rw [h3] at hqe
       have hst := hstop (by rw [hat]; simpa using h3)
       rw [hst, hat]
       have hsE : stO (E1, E2) = some (E1, E2) := by unfold stO; simp only [h3, cond_false]
       simp only [h3]
       rw [hsE] at hqe ⊢
       obtain ⟨k, nm, lc, o, ex, th, el⟩ := x
       simp only [St.cells, exA, St.thn, St.els, stA] at *
       clear hat hst hstop q1 q2
       repeat' ((conv => whnf); first | (refine exI hx ?_) | (refine exI hy ?_) | (refine exI hqt ?_) | (refine exI hqe ?_) | (with_reducible refine ixJ i rfl ?_ ?_; (focus (omega))) | (first | refine stp ?_ | with_reducible refine Z05 (fun h => ?_) (fun h => ?_)))
       all_goals exact ⟨rfl, rfl⟩
      | true =>
       rw [h3] at hqe
       have hsE : stO (E1, E2) = none := by unfold stO; simp only [h3, cond_true]
       rw [hsE] at hqe
       have h4 : (nbSL f (l.take (i + 1)) n).2 = 0 := by rw [hat]; simpa using h3
       obtain ⟨k, nm, lc, o, ex, th, el⟩ := x
       simp only [St.cells, exA, St.thn, St.els, stA] at *
       clear hstop q1 q2
       repeat' ((conv => whnf); first | (refine exI hx ?_) | (refine exI hy ?_) | (refine exI hqt ?_) | (refine exI hqe ?_) | (with_reducible refine ixJ i rfl ?_ ?_; (focus (omega))) | (first | refine stp ?_ | with_reducible refine Z05 (fun h => ?_) (fun h => ?_)))
       conv => whnf
       refine ⟨i + 1, ⟨hlt, h4⟩, by show l.length - (i + 1) < l.length - i; omega, ?_⟩
       rw [hat]
       refine FgLK.mk [0, 1, 2, 3, 4, 5, 6, 7] rfl rfl ?_ ⟨⟨rfl, rfl, rfl, rfl, BodyGe.pre (rest := []) rfl rfl⟩, ⟨rfl, rfl, rfl, rfl, BodyGe.pre (rest := []) rfl rfl⟩, ⟨rfl, rfl, rfl, rfl, BodyGe.pre (rest := []) rfl rfl⟩, ⟨rfl, rfl, rfl, rfl, BodyGe.pre (rest := []) rfl rfl⟩, ⟨rfl, rfl, rfl, rfl, rfl, rfl, Wk.ptr rfl rfl, rfl, Wk.ptr rfl rfl, rfl, Wk.ptr rfl rfl, rfl, Wk.ptr rfl rfl, trivial⟩, ⟨rfl, rfl, rfl, rfl, BodyGe.pre (rest := []) rfl rfl⟩, ⟨rfl, rfl, rfl, rfl, BodyGe.pre (rest := []) rfl rfl⟩, ⟨rfl, rfl, rfl, rfl, BodyGe.cellsL ⟨Wk.func trivial ⟨Wk.ptr rfl rfl, Wk.ptr rfl rfl, Wk.ptr rfl rfl, trivial⟩, trivial⟩⟩, trivial⟩ rfl
       (repeat (first | exact trivial | refine stw ?_))
  · have e1 : decide ((i : Int) < (l.length : Int)) = false := by simpa using hlt
    have hi2 : i = l.length := by have := hi; omega
    subst hi2
    rw [List.take_length] at h0 ⊢
    have hsL : stO (nbSL f l n) = none := by unfold stO; simp only [h0]; rfl
    rw [hsL, h0]
    repeat' ((conv => whnf); first | refine stp ?_ | with_reducible refine Z05 (fun h => ?_) (fun h => ?_))
    all_goals exact ⟨rfl, rfl⟩
end Go.Proofs.YtbaoadpoknhhoaaGreatDoor.lex
end

/-
  Texts of this proof, one behind the other (part 8).
-/
import Derived.Test.YteidjbahodbgdaaGreatDoorPg7
set_option linter.unusedVariables false
set_option linter.unusedSimpArgs false

section
namespace Go.Proofs.YteidjbahodbgdaaGreatDoor.lex
open Go.Abs Go.RowKit Go.Flat
set_option maxRecDepth 100000
set_option maxHeartbeats 4000000
variable {gl : Z0l}
theorem ZhL (e : Ex) (hok : okE e) (hs : Z0f e <= 800000) : ValOK Tryz.prog gl 57 [.agg e.cells] (rsK (Z4U (nmE e))) := by
 have hregs := (ZhK (gl := gl) [ZiD 0 [] [] 0 [e]] (ZkR (by decide) (by decide) (by simp only [okL]; exact ⟨hok, trivial⟩) (by simp)) (by simp) (by rw [ZgY]; simp only [sizeL]; omega)).weak (ZkQ 0 [] [] 0 [e])
 have hnm : nmSL [ZiD 0 [] [] 0 [e]] = nmE e := by simp [nmSL, ZiD, nmS, nmL]
 rw [hnm] at hregs
 have hO1 := Zei hregs
 have q1 : ∀ H args, Z0L (frz H 30) args = some [alA 0 [] [] 0 [e].length (exC [e])] -> Z04 Tryz.prog (ZjV (Zlh 70 [alA 0 [] [] 0 [e].length (exC [e])] (rsK (Z4U (nmE e))))) H 70 args = some (rsK (Z4U (nmE e)), kil (fun _ _ => true) 0 H) := fun H args h => ZmM (by kernel_rfl) h (by unfold Zlh; exact if_pos ⟨rfl, rfl⟩)
 generalize ZjV (Zlh 70 [alA 0 [] [] 0 [e].length (exC [e])] (rsK (Z4U (nmE e)))) = OO at *
 generalize Z4U (nmE e) = nm at *
 clear hregs hnm
 obtain ⟨op, num, name, kids⟩ := e
 simp only [Ex.cells, alA, rsK, exC, List.append_nil, List.length_cons, List.length_nil] at *
 refine Z0a follows Z09 hO1 Tryz.func57 rfl ?_
 repeat' ((conv => whnf); first | (refine exI (q1 _ _ rfl) ?_) | (first | refine stp ?_ | with_reducible refine Z01 (fun h => ?_) (fun h => ?_)))
 all_goals rfl
theorem ZhJ (regs : Int) (l : List (List UInt8)) : Z8b regs (Z4U l) = Z8b regs l := by
 unfold Z8b
 rw [Bool.eq_iff_iff, List.all_eq_true, List.all_eq_true]
 constructor
 · intro h x hx; exact h x (Z6P.2 (.inr hx))
 · intro h x hx
   rcases Z6P.1 hx with h2 | h2
   · cases h2
   · exact h x h2
theorem ZfB (l : List (List UInt8)) : (Z4U l).length <= l.length := by
 have := Z9l l []
 unfold Z4U
 simpa using this
theorem ZjG {l : List (List UInt8)} (h : ∀ x ∈ l, x.length <= 9223372036854775807) : ∀ x ∈ Z4U l, x.length <= 9223372036854775807 := fun x hx => by
 rcases Z6P.1 hx with h2 | h2
 · cases h2
 · exact h x h2
theorem Z3c (k : Int) (h : 1 <= k /\ k <= 13) :
  (Z6I k = false /\ Z36 k = true /\ Zd6 k = false /\ toB k = false /\ (k == 7) = false /\ (k == 10) = false /\ (k == 11) = false) \/
  (Z6I k = true /\ Z36 k = true /\ Zd6 k = true /\ toB k = false /\ (k == 7) = false /\ (k == 10) = false /\ (k == 11) = false) \/
  (Z6I k = true /\ Z36 k = false /\ Zd6 k = true /\ toB k = false /\ (k == 7) = false /\ (k == 10) = false /\ (k == 11) = false) \/
  (Z6I k = false /\ Z36 k = false /\ Zd6 k = true /\ toB k = false /\ (k == 7) = true /\ (k == 10) = false /\ (k == 11) = false) \/
  (Z6I k = false /\ Z36 k = false /\ Zd6 k = false /\ toB k = false /\ (k == 7) = false /\ (k == 10) = false /\ (k == 11) = false) \/
  (Z6I k = false /\ Z36 k = false /\ Zd6 k = false /\ toB k = true /\ (k == 7) = false /\ (k == 10) = true /\ (k == 11) = false) \/
  (Z6I k = false /\ Z36 k = false /\ Zd6 k = false /\ toB k = true /\ (k == 7) = false /\ (k == 10) = false /\ (k == 11) = true) := by
 have : k = 1 \/ k = 2 \/ k = 3 \/ k = 4 \/ k = 5 \/ k = 6 \/ k = 7 \/ k = 8 \/ k = 9 \/ k = 10 \/ k = 11 \/ k = 12 \/ k = 13 := by omega
 rcases this with rfl | rfl | rfl | rfl | rfl | rfl | rfl | rfl | rfl | rfl | rfl | rfl | rfl <;> decide
def exR (regs : Int) (e : Ex) : Bool := (Z24 (Z3D e) == 0) && Z8b regs (nmE e)
theorem Zkx (regs : Int) {e : Ex} (h : Z4W e = false) : exR regs e = Z0q regs e := by
 unfold exR; rw [ZgN h, Z8x]
theorem Z4D (regs : Int) : ∀ l : List Ex, rightPL regs l = l.all (Z0q regs)
 | [] => rfl
 | e :: l => by simp only [rightPL, List.all_cons, Z4D regs l]
theorem Zc3 (regs : Int) (n : Nat) (cs : List AV) (i : Ins) (hok : okL i.ex) (hl : i.ex.length <= 9223372036854775807) (hn : n <= 9223372036854775807) (hs : ∀ e ∈ i.ex, Z0f e <= 800000) (hb : ∀ e ∈ i.ex, Z4W e = false) : ValOK Tryz.prog gl 35 [.agg [.int .i64 regs, .rs n 6 cs], .agg (Z0m i)] (.bool (Z0I regs n i)) := by
 obtain ⟨kind, reg, loc, order, to, ex⟩ := i
 simp only at hok hl hs hb
 have hinjE : ∀ {r : Ex -> AV} (x y : Ex), x ∈ ex -> y ∈ ex -> [AV.agg x.cells] = [AV.agg y.cells] -> r x = r y := fun x y _ _ h => by rw [Z6c h]
 have hinjN : ∀ x y : Ex, x ∈ ex -> y ∈ ex -> [AV.agg x.cells, .str [114]] = [AV.agg y.cells, .str [114]] -> AV.agg (Z3D x).cells = .agg (Z3D y).cells := fun x y _ _ h => by
  simp only [List.cons.injEq, AV.agg.injEq, and_true] at h
  rw [Z16 _ _ h]
 have hinjC : ∀ x y : Ex, x ∈ ex -> y ∈ ex -> [AV.agg (Z3D x).cells] = [AV.agg (Z3D y).cells] -> AV.int .i64 (Z24 (Z3D x)) = .int .i64 (Z24 (Z3D y)) := fun x y _ _ h => by
  rw [Z6c h]
 obtain ⟨O, hO, p1, p2, p3, p4, p5, p6, p7, -⟩ := fams (P := Tryz.prog) (gl := gl) [{ I := Int, f := 53, G := fun _ => True, A := fun k => [.int .i64 k], R := fun k => .bool (Z6I k), body := (by kernel_rfl), inj := (fun i j _ _ h => by simp only [List.cons.injEq, AV.int.injEq, and_true, true_and] at h; rw [h]), ok := fun _ _ => ⟨rfl, Zjh _⟩ },
  { I := Int, f := 55, G := fun _ => True, A := fun k => [.int .i64 k], R := fun k => .bool (Z36 k), body := (by kernel_rfl), inj := (fun i j _ _ h => by simp only [List.cons.injEq, AV.int.injEq, and_true, true_and] at h; rw [h]), ok := fun _ _ => ⟨rfl, ZjF _⟩ },
  { I := Int, f := 54, G := fun _ => True, A := fun k => [.int .i64 k], R := fun k => .int .i64 (ZiY k), body := (by kernel_rfl), inj := (fun i j _ _ h => by simp only [List.cons.injEq, AV.int.injEq, and_true, true_and] at h; rw [h]), ok := fun _ _ => ⟨rfl, Zlx _⟩ },
  { I := Ex, f := 56, G := fun x => x ∈ ex, A := fun x => [.agg x.cells, .str [114]], R := fun x => .agg (Z3D x).cells, body := (by kernel_rfl), inj := hinjN, ok := (fun x hx => ⟨by obtain ⟨o, m, s, k⟩ := x; simp only [Ex.cells]; rfl, Zdi _ x (Nat.le_refl _) (Z0H hok _ hx) (by have := hs x hx; omega)⟩) },
  { I := Ex, f := 34, G := fun x => x ∈ ex, A := fun x => [.agg (Z3D x).cells], R := fun x => .int .i64 (Z24 (Z3D x)), body := (by kernel_rfl), inj := hinjC, ok := (fun x hx => ⟨Z40 _, Z8Y _ (Zg1 _ (Z0H hok _ hx)) (by rw [Z7u]; have := hs x hx; omega)⟩) },
  { I := Ex, f := 57, G := fun x => x ∈ ex, A := fun x => [.agg x.cells], R := fun x => rsK (Z4U (nmE x)), body := (by kernel_rfl), inj := hinjE, ok := (fun x hx => ⟨Z40 _, ZhL _ (Z0H hok _ hx) (hs x hx)⟩) },
  { I := List UInt8, f := 58, G := fun s => s.length <= 9223372036854775807, A := fun s => [.str s], R := fun s => .int .i64 (Z1X s), body := (by kernel_rfl), inj := (fun i j _ _ h => by simp only [List.cons.injEq, AV.str.injEq, and_true] at h; rw [h]), ok := fun s hs => ⟨rfl, ZfZ s hs⟩ }] rfl
 have q1 : ∀ k H, Z04 Tryz.prog O H 53 [.int .i64 k] = some (.bool (Z6I k), H) := fun k => p1 k trivial
 have q2 : ∀ k H, Z04 Tryz.prog O H 55 [.int .i64 k] = some (.bool (Z36 k), H) := fun k => p2 k trivial
 have q3 : ∀ k H, Z04 Tryz.prog O H 54 [.int .i64 k] = some (.int .i64 (ZiY k), H) := fun k => p3 k trivial
 have q4 : ∀ x ∈ ex, ∀ H, Z04 Tryz.prog O H 56 [.agg x.cells, .str [114]] = some (.agg (Z3D x).cells, H) := p4
 have q5 : ∀ x ∈ ex, ∀ H, Z04 Tryz.prog O H 34 [.agg (Z3D x).cells] = some (.int .i64 (Z24 (Z3D x)), H) := p5
 have q6 : ∀ x ∈ ex, ∀ H, Z04 Tryz.prog O H 57 [.agg x.cells] = some (rsK (Z4U (nmE x)), H) := p6
 have q7 : ∀ s, s.length <= 9223372036854775807 -> ∀ H, Z04 Tryz.prog O H 58 [.str s] = some (.int .i64 (Z1X s), H) := p7
 clear p1 p2 p3 p4 p5 p6 p7 hinjN hinjC
 simp only [Z0m, exA]
 refine Z0a follows Z09 hO Tryz.func35 rfl ?_
 have q1k := q1 kind
 have q2k := q2 kind
 have q3k := q3 kind
 clear q1 q2 q3
 by_cases hk : 1 <= kind /\ kind <= 13
 · have hr : Z0I regs n ⟨kind, reg, loc, order, to, ex⟩ = (((ex.length : Int) == Z3W kind) && ((inW order 1 7 (Zd6 kind) && (inW reg 0 regs (Z36 kind) && (inW loc 0 6 (Z6I kind) && inW to 0 n (toB kind)))) && rightPL regs ex)) := by
    unfold Z0I
    rw [show decide (1 <= kind /\ kind <= 13) = true by simpa using hk]
    generalize inW order 1 7 (Zd6 kind) = a
    generalize inW reg 0 regs (Z36 kind) = b
    generalize inW loc 0 6 (Z6I kind) = c
    generalize inW to 0 n (toB kind) = d
    generalize ((ex.length : Int) == Z3W kind) = e
    generalize rightPL regs ex = f
    cases a <;> cases b <;> cases c <;> cases d <;> cases e <;> cases f <;> rfl
   rw [hr]
   have hnx : ZiY kind = Z3W kind := by unfold ZiY; rw [if_pos hk]
   rw [hnx] at q3k
   clear hr hnx
   generalize Z3W kind = nx at *
   cases hc : ((ex.length : Int) == nx) with
   | false =>
    have e0 : (nx != (ex.length : Int)) = true := by simp only [beq_eq_false_iff_ne] at hc; simp only [bne_iff_ne]; omega
    rcases Z3c kind hk with h | h | h | h | h | h | h
    all_goals (
     obtain ⟨h1, h2, h3, h4, h5, h6, h7⟩ := h
     rw [h1] at q1k; rw [h2] at q2k
     repeat' ((conv => whnf); first | (refine exI (q1k _) ?_) | (refine exI (q2k _) ?_) | (refine exI (q3k _) ?_) | (first | refine stp ?_ | with_reducible refine Z01 (fun h => ?_) (fun h => ?_))))
    all_goals rfl
   | true =>
    have e0 : (nx != (ex.length : Int)) = false := by simp only [beq_iff_eq] at hc; simp only [bne_eq_false_iff_eq]; omega
    rw [Bool.true_and]
    by_cases hw : (inW order 1 7 (Zd6 kind) && (inW reg 0 regs (Z36 kind) && (inW loc 0 6 (Z6I kind) && inW to 0 n (toB kind)))) = true
    · rw [hw, Bool.true_and, Z4D]
      rcases Z3c kind hk with h | h | h | h | h | h | h
      all_goals (
       obtain ⟨h1, h2, h3, h4, h5, h6, h7⟩ := h
       rw [h1] at q1k; rw [h2] at q2k
       rw [h1, h2, h3, h4] at hw
       simp only [inW, Bool.and_eq_true, decide_eq_true_eq, beq_iff_eq, if_true, Bool.false_eq_true, if_false] at hw
       obtain ⟨w1, w2, w3, w4⟩ := hw
       try have f8 : (!((kind == 7) == decide (order <= 6))) = false := by rw [h5]; simp; omega
       have g5 := h5
       have g6 := h6
       have g7 := h7
       simp only [beq_iff_eq, beq_eq_false_iff_ne, ne_eq] at g5 g6 g7
       repeat' ((conv => whnf); first | (refine exI (q1k _) ?_) | (refine exI (q2k _) ?_) | (refine exI (q3k _) ?_) | (first | refine stp ?_ | with_reducible refine Z01 (fun h => ?_) (fun h => ?_)))
       (try clear f8); clear q1k q2k q3k h1 h2 h3 h4 h5 h6 h7 w1 w2 w3 w4 g5 g6 g7
       conv => whnf
       refine ⟨Nat, (fun i => i <= ex.length /\ (ex.take i).all (Z0q regs) = true), (fun i => [(2, .ptr 0 0), (3, .ptr 1 0), (7, .int .i64 i)]), (fun _ => [⟨true, 0, 0, .cells [.int .i64 regs, .rs n 6 cs] 24⟩, ⟨true, 1, 0, .cells [.int .i64 kind, .int .i64 reg, .int .i64 loc, .int .i64 order, .int .i64 to, .rs ex.length 4 (exC ex)] 62⟩]), (fun i => ex.length - i), ⟨0, ⟨Nat.zero_le _, rfl⟩, ?_⟩, ?_⟩
       · refine FgL.mk [0, 1] rfl ?_ ⟨⟨rfl, rfl, rfl, rfl, BodyGe.pre (rest := []) rfl rfl⟩, ⟨rfl, rfl, rfl, rfl, BodyGe.pre (rest := []) rfl rfl⟩, trivial⟩ rfl
         (repeat (first | exact trivial | refine stw ?_))
       rintro i ⟨hi, hall⟩
       dsimp only
       by_cases hlt : i < ex.length
       · have e1 : decide ((i : Int) < (ex.length : Int)) = true := by simpa using hlt
         have hx := ex4 ex i hlt
         have hm := Z0i hlt
         have y4 := q4 _ hm
         have y5 := q5 _ hm
         have y6 := q6 _ hm
         have hat := Zl9 (p := Z0q regs) ex i hlt
         rw [hall, Bool.true_and] at hat
         have hst := Z6a (p := Z0q regs) hlt
         rw [<- Zkx regs (hb _ hm)] at hat hst
         have hsv : ∀ s ∈ Z4U (nmE ex[i]), s.length <= 9223372036854775807 := ZjG (ZiX (Z0H hok _ hm))
         have hll : (Z4U (nmE ex[i])).length <= 800000 := by
          have := ZfB (nmE ex[i])
          have := Z4E ex[i]
          have := hs _ hm
          omega
         simp only [exR] at hat hst
         rw [<- ZhJ regs (nmE ex[i])] at hat hst
         simp only [rsK] at y6
         clear q4 q5 q6
         generalize Z4U (nmE ex[i]) = l at *
         generalize Z24 (Z3D ex[i]) = ce at *
         generalize Z3D ex[i] = ne at *
         generalize ex[i] = x at *
         obtain ⟨xo, xn, xs, xk⟩ := x
         obtain ⟨no, nn, ns, nk⟩ := ne
         simp only [Ex.cells] at hx y4 y5 y6
         cases hce : (ce == 0) with
         | false =>
          have e2 : (ce != 0) = true := by simp [bne, hce]
          rw [hst (by rw [hce]; rfl)]
          repeat' ((conv => whnf); first | (refine exI hx ?_) | (refine exI (y4 _) ?_) | (refine exI (y5 _) ?_) | (with_reducible refine ixJ i rfl ?_ ?_; (focus (omega))) | (first | refine stp ?_ | with_reducible refine Z01 (fun h => ?_) (fun h => ?_)))
          all_goals rfl
         | true =>
          have e2 : (ce != 0) = false := by simp [bne, hce]
          rw [hce, Bool.true_and] at hat hst
          repeat' ((conv => whnf); first | (refine exI hx ?_) | (refine exI (y4 _) ?_) | (refine exI (y5 _) ?_) | (refine exI (y6 _) ?_) | (with_reducible refine ixJ i rfl ?_ ?_; (focus (omega))) | (first | refine stp ?_ | with_reducible refine Z01 (fun h => ?_) (fun h => ?_)))
          conv => whnf
          refine ⟨Nat, (fun m => m <= l.length /\ Z8b regs (l.take m) = true), (fun m => [(2, .ptr 0 0), (3, .ptr 1 0), (7, .int .i64 i), (8, .rs l.length 1 (l.map .str)), (9, .int .i64 m)]), (fun _ => [⟨true, 0, 0, .cells [.int .i64 regs, .rs n 6 cs] 24⟩, ⟨true, 1, 0, .cells [.int .i64 kind, .int .i64 reg, .int .i64 loc, .int .i64 order, .int .i64 to, .rs ex.length 4 (exC ex)] 62⟩]), (fun m => l.length - m), ⟨0, ⟨Nat.zero_le _, rfl⟩, ?_⟩, ?_⟩
          · refine FgL.mk [0, 1] rfl ?_ ⟨⟨rfl, rfl, rfl, rfl, BodyGe.pre (rest := []) rfl rfl⟩, ⟨rfl, rfl, rfl, rfl, BodyGe.pre (rest := []) rfl rfl⟩, trivial⟩ rfl
            (repeat (first | exact trivial | refine stw ?_))
          rintro m ⟨hmi, hall2⟩
          dsimp only
          by_cases hmt : m < l.length
          · have e3 : decide ((m : Int) < (l.length : Int)) = true := by simpa using hmt
            have hxm : tk 1 ((l.map AV.str).drop (m * 1)) = some [.str l[m]] := Z11 _ l m hmt (by omega)
            have q7m := q7 l[m] (hsv _ (Z0i hmt))
            have ham := Zl9 (p := fun s => decide (Z1X s < regs)) l m hmt
            rw [show (l.take m).all (fun s => decide (Z1X s < regs)) = true from hall2, Bool.true_and] at ham
            have hst2 := Z6a (p := fun s => decide (Z1X s < regs)) hmt
            clear q7 hsv
            generalize l[m] = s at *
            generalize Z1X s = nn2 at *
            by_cases hlr : nn2 < regs
            · have e4 : decide (nn2 >= regs) = false := by simp; omega
              repeat' ((conv => whnf); first | (refine exI hxm ?_) | (refine exI (q7m _) ?_) | (with_reducible refine ixJ m rfl ?_ ?_; (focus (omega))) | (first | refine stp ?_ | with_reducible refine Z01 (fun h => ?_) (fun h => ?_)))
              conv => whnf
              refine ⟨m + 1, ⟨hmt, by show (l.take (m + 1)).all _ = true; rw [ham]; simpa using hlr⟩, by show l.length - (m + 1) < l.length - m; omega, ?_⟩
              refine FgL.mk [0, 1] rfl ?_ ⟨⟨rfl, rfl, rfl, rfl, BodyGe.pre (rest := []) rfl rfl⟩, ⟨rfl, rfl, rfl, rfl, BodyGe.pre (rest := []) rfl rfl⟩, trivial⟩ rfl
              (repeat (first | exact trivial | refine stw ?_))
            · have e4 : decide (nn2 >= regs) = true := by simp; omega
              rw [hst (hst2 (by simpa using hlr))]
              repeat' ((conv => whnf); first | (refine exI hxm ?_) | (refine exI (q7m _) ?_) | (with_reducible refine ixJ m rfl ?_ ?_; (focus (omega))) | (first | refine stp ?_ | with_reducible refine Z01 (fun h => ?_) (fun h => ?_)))
              all_goals rfl
          · have e3 : decide ((m : Int) < (l.length : Int)) = false := by simpa using hmt
            have hm2 : m = l.length := by omega
            subst hm2
            rw [List.take_length] at hall2
            rw [hall2] at hat
            repeat' ((conv => whnf); first | (first | refine stp ?_ | with_reducible refine Z01 (fun h => ?_) (fun h => ?_)))
            conv => whnf
            refine ⟨i + 1, ⟨hlt, hat⟩, by show ex.length - (i + 1) < ex.length - i; omega, ?_⟩
            refine FgL.mk [0, 1] rfl ?_ ⟨⟨rfl, rfl, rfl, rfl, BodyGe.pre (rest := []) rfl rfl⟩, ⟨rfl, rfl, rfl, rfl, BodyGe.pre (rest := []) rfl rfl⟩, trivial⟩ rfl
            (repeat (first | exact trivial | refine stw ?_))
       · have e1 : decide ((i : Int) < (ex.length : Int)) = false := by simpa using hlt
         have hi2 : i = ex.length := by omega
         subst hi2
         rw [List.take_length] at hall
         rw [hall]
         repeat' ((conv => whnf); first | refine stp ?_ | with_reducible refine Z01 (fun h => ?_) (fun h => ?_))
         all_goals rfl)
    · rw [Bool.eq_false_iff.2 hw, Bool.false_and]
      rcases Z3c kind hk with h | h | h | h | h | h | h
      all_goals (
       obtain ⟨h1, h2, h3, h4, h5, h6, h7⟩ := h
       rw [h1] at q1k; rw [h2] at q2k
       rw [h1, h2, h3, h4] at hw
       simp only [inW, Bool.and_eq_true, decide_eq_true_eq, beq_iff_eq, if_true, Bool.false_eq_true, if_false] at hw
       have g5 := h5
       have g6 := h6
       have g7 := h7
       simp only [beq_iff_eq, beq_eq_false_iff_ne, ne_eq] at g5 g6 g7
       repeat' ((conv => whnf); first | (refine exI (q1k _) ?_) | (refine exI (q2k _) ?_) | (refine exI (q3k _) ?_) | (first | refine stp ?_ | with_reducible refine Z01 (fun h => ?_) (fun h => ?_))))
      all_goals (first | rfl | (exfalso; clear q1k q2k q3k q4 q5 q6 q7 hO hok hl hs hb; simp_all; done) | (exfalso; clear q1k q2k q3k q4 q5 q6 q7 hO hok hl hs hb; simp_all; omega))
 · have hr : Z0I regs n ⟨kind, reg, loc, order, to, ex⟩ = false := by
    unfold Z0I
    rw [show decide (1 <= kind /\ kind <= 13) = false by simpa using hk]; rfl
   rw [hr]
   have hnx : ZiY kind = -1 := by unfold ZiY; rw [if_neg hk]
   rw [hnx] at q3k
   have e0 : ((-1 : Int) != (ex.length : Int)) = true := by simp only [bne_iff_ne]; omega
   have e7 : (kind == 7) = false := by simp only [beq_eq_false_iff_ne]; omega
   have e10 : (kind == 10) = false := by simp only [beq_eq_false_iff_ne]; omega
   have e11 : (kind == 11) = false := by simp only [beq_eq_false_iff_ne]; omega
   have ha : Z6I kind = false := by simp only [Z6I, decide_eq_false_iff_not]; omega
   rw [ha] at q1k
   repeat' ((conv => whnf); first | (refine exI (q1k _) ?_) | (refine exI (q2k _) ?_) | (refine exI (q3k _) ?_) | (first | refine stp ?_ | with_reducible refine Z01 (fun h => ?_) (fun h => ?_)))
   all_goals rfl
end Go.Proofs.YteidjbahodbgdaaGreatDoor.lex
end

/-
  Texts of this proof, one behind the other (part 9).
-/
import Derived.Test.YteidjbahodbgdaaGreatDoorPg8
set_option linter.unusedVariables false
set_option linter.unusedSimpArgs false

section
namespace Go.Proofs.YteidjbahodbgdaaGreatDoor.lex
open Go.Abs Go.RowKit Go.Flat
set_option maxRecDepth 100000
set_option maxHeartbeats 4000000
variable {gl : Z0l}
theorem ZeN (e : Ex) : (Z24 e == 3) = Z4W e := by
 unfold Z24 Z4W
 by_cases h : 2000 < Z0f e \/ 32 < Z3u e
 · simp [h]
 · rw [if_neg h]
   cases Z1A e <;> simp [h]
theorem Z2s (c : Cd) (hok : okC c) (hs : ∀ i ∈ c.ins, ∀ e ∈ i.ex, Z0f e <= 800000) : ValOK Tryz.prog gl 12 [c.av] (.int .i64 (Z31 c)) := by
 obtain ⟨regs, ins⟩ := c
 obtain ⟨hl, hx⟩ := hok
 simp only at hl hx hs
 have hinj1 : ∀ x y : Ex, (okE x /\ Z0f x <= 800000) -> (okE y /\ Z0f y <= 800000) -> [AV.agg x.cells] = [AV.agg y.cells] -> AV.int .i64 (Z24 x) = .int .i64 (Z24 y) := fun x y _ _ h => by rw [Z6c h]
 have hinj2 : ∀ p q : Ins, (p ∈ ins /\ ∀ e ∈ p.ex, Z4W e = false) -> (q ∈ ins /\ ∀ e ∈ q.ex, Z4W e = false) -> [AV.agg [.int .i64 regs, .rs ins.length 6 (inC ins)], AV.agg (Z0m p)] = [AV.agg [.int .i64 regs, .rs ins.length 6 (inC ins)], AV.agg (Z0m q)] ->
   AV.bool (Z0I regs ins.length p) = .bool (Z0I regs ins.length q) := fun p q _ _ ha => by
  simp only [List.cons.injEq, AV.agg.injEq, and_true, true_and] at ha
  rw [Z8K ha]
 obtain ⟨O, hO, p1, p2, -⟩ := fams (P := Tryz.prog) (gl := gl) [{ I := Ex, f := 34, G := fun x => okE x /\ Z0f x <= 800000, A := fun x => [.agg x.cells], R := fun x => .int .i64 (Z24 x), body := (by kernel_rfl), inj := hinj1, ok := (fun x hx => ⟨Z40 _, Z8Y _ hx.1 (by have := hx.2; omega)⟩) },
  { I := Ins, f := 35, G := fun p => p ∈ ins /\ ∀ e ∈ p.ex, Z4W e = false, A := fun p => [.agg [.int .i64 regs, .rs ins.length 6 (inC ins)], .agg (Z0m p)], R := fun p => .bool (Z0I regs ins.length p), body := (by kernel_rfl), inj := hinj2, ok := (fun p hp => ⟨rfl, Zc3 regs ins.length (inC ins) p (hx p hp.1).2 (hx p hp.1).1 hl (hs p hp.1) hp.2⟩) }] rfl
 have q1 : ∀ (ex : List Ex) m (h : m < ex.length), okL ex -> (∀ e ∈ ex, Z0f e <= 800000) -> ∀ H, Z04 Tryz.prog O H 34 [.agg ex[m].cells] = some (.int .i64 (Z24 ex[m]), H) := fun ex m h ho hz => p1 ex[m] ⟨Z0H ho _ (Z0i h), hz _ (Z0i h)⟩
 have q2 : ∀ i (h : i < ins.length), Zhk ⟨regs, ins⟩ = false -> ∀ H, Z04 Tryz.prog O H 35 [.agg [.int .i64 regs, .rs ins.length 6 (inC ins)], .agg (Z0m ins[i])] = some (.bool (Z0I regs ins.length ins[i]), H) := fun i h hb => p2 ins[i] ⟨Z0i h, fun e he => by
  rw [Bool.eq_false_iff]; intro h2
  have : Zhk ⟨regs, ins⟩ = true := Z80 (p := fun i : Ins => i.ex.any Z4W) h (List.any_eq_true.2 ⟨e, he, h2⟩)
  rw [hb] at this; cases this⟩
 clear p1 p2 hinj1 hinj2
 unfold Z31
 simp only [Cd.av] at *
 by_cases h1 : 16 < regs \/ 4000 < ins.length
 · rw [if_pos (.inl h1)]
   refine Z0a follows Z09 hO Tryz.func12 rfl ?_
   by_cases h2 : 16 < regs
   · have e1 : decide (regs > 16) = true := by simpa using h2
     repeat' ((conv => whnf); first | refine stp ?_ | with_reducible refine Z01 (fun h => ?_) (fun h => ?_))
     all_goals rfl
   · have e1 : decide (regs > 16) = false := by simpa using h2
     have e2 : decide ((ins.length : Int) > 4000) = true := by simp; omega
     repeat' ((conv => whnf); first | refine stp ?_ | with_reducible refine Z01 (fun h => ?_) (fun h => ?_))
     all_goals rfl
 have e1 : decide (regs > 16) = false := by simp; omega
 have e2 : decide ((ins.length : Int) > 4000) = false := by simp; omega
 refine Z0a follows Z09 hO Tryz.func12 rfl ?_
 repeat' ((conv => whnf); first | refine stp ?_ | with_reducible refine Z01 (fun h => ?_) (fun h => ?_))
 conv => whnf
 refine ⟨Nat, (fun i => i <= ins.length /\ (ins.take i).any (fun i => i.ex.any Z4W) = false), (fun i => [(1, .ptr 0 0), (3, .int .i64 i)]), (fun i => [⟨true, 0, 0, .cells [.int .i64 regs, .rs ins.length 6 (inC ins)] 24⟩]), (fun i => ins.length - i), ⟨0, ⟨Nat.zero_le _, rfl⟩, ?_⟩, ?_⟩
 · refine FgL.mk [0] rfl ?_ ⟨⟨rfl, rfl, rfl, rfl, BodyGe.pre (rest := []) rfl rfl⟩, trivial⟩ rfl
   (repeat (first | exact trivial | refine stw ?_))
 rintro i ⟨hi, hall⟩
 dsimp only
 by_cases hlt : i < ins.length
 · have e3 : decide ((i : Int) < (ins.length : Int)) = true := by simpa using hlt
   have hx5 := Zkh ins i hlt
   have hat := Zmg (p := fun i : Ins => i.ex.any Z4W) ins i hlt
   rw [hall, Bool.false_or] at hat
   have hbg : ins[i].ex.any Z4W = true -> Zhk ⟨regs, ins⟩ = true := fun h => Z80 (p := fun i : Ins => i.ex.any Z4W) hlt h
   have hxi := hx _ (Z0i hlt)
   have hsi := hs _ (Z0i hlt)
   have q1' := q1 ins[i].ex
   clear q1 q2 hs hx
   generalize ins[i] = y at *
   obtain ⟨k, r, lo, od, to, ex⟩ := y
   simp only [exA] at *
   repeat' ((conv => whnf); first | (refine exI hx5 ?_) | (with_reducible refine ixJ i rfl ?_ ?_; (focus (omega))) | (first | refine stp ?_ | with_reducible refine Z01 (fun h => ?_) (fun h => ?_)))
   conv => whnf
   refine ⟨Nat, (fun m => m <= ex.length /\ (ex.take m).any Z4W = false), (fun m => [(1, .ptr 0 0), (3, .int .i64 i), (4, .int .i64 m)]), (fun m => [⟨true, 0, 0, .cells [.int .i64 regs, .rs ins.length 6 (inC ins)] 24⟩]), (fun m => ex.length - m), ⟨0, ⟨Nat.zero_le _, rfl⟩, ?_⟩, ?_⟩
   · refine FgL.mk [0] rfl ?_ ⟨⟨rfl, rfl, rfl, rfl, BodyGe.pre (rest := []) rfl rfl⟩, trivial⟩ rfl
     (repeat (first | exact trivial | refine stw ?_))
   rintro m ⟨hm, hall2⟩
   dsimp only
   by_cases hmt : m < ex.length
   · have e4 : decide ((m : Int) < (ex.length : Int)) = true := by simpa using hmt
     have q3 := q1' m hmt hxi.2 hsi
     have hx4 := ex4 ex m hmt
     have ham := Zmg (p := Z4W) ex m hmt
     rw [hall2, Bool.false_or] at ham
     have hb2 := Z80 (p := Z4W) (l := ex) hmt
     have hcb := ZeN ex[m]
     clear q1'
     generalize Z24 ex[m] = ce at *
     generalize Z4W ex[m] = b at *
     generalize ex[m] = x at *
     obtain ⟨xo, xn, xs, xk⟩ := x
     simp only [Ex.cells] at hx4 q3
     cases b with
     | false =>
      repeat' ((conv => whnf); first | (refine exI (q3 _) ?_) | (refine exI hx5 ?_) | (refine exI hx4 ?_) | (with_reducible refine ixJ i rfl ?_ ?_; (focus (omega))) | (with_reducible refine ixJ m rfl ?_ ?_; (focus (omega))) | (first | refine stp ?_ | with_reducible refine Z01 (fun h => ?_) (fun h => ?_)))
      conv => whnf
      refine ⟨m + 1, ⟨hmt, ham⟩, by show ex.length - (m + 1) < ex.length - m; omega, ?_⟩
      refine FgL.mk [0] rfl ?_ ⟨⟨rfl, rfl, rfl, rfl, BodyGe.pre (rest := []) rfl rfl⟩, trivial⟩ rfl
      (repeat (first | exact trivial | refine stw ?_))
     | true =>
      rw [if_pos (.inr (hbg (hb2 rfl)))]
      repeat' ((conv => whnf); first | (refine exI (q3 _) ?_) | (refine exI hx5 ?_) | (refine exI hx4 ?_) | (with_reducible refine ixJ i rfl ?_ ?_; (focus (omega))) | (with_reducible refine ixJ m rfl ?_ ?_; (focus (omega))) | (first | refine stp ?_ | with_reducible refine Z01 (fun h => ?_) (fun h => ?_)))
      all_goals rfl
   · have e4 : decide ((m : Int) < (ex.length : Int)) = false := by simpa using hmt
     have hm2 : m = ex.length := by omega
     subst hm2
     rw [List.take_length] at hall2
     rw [hall2] at hat
     repeat' ((conv => whnf); first | (refine exI hx5 ?_) | (with_reducible refine ixJ i rfl ?_ ?_; (focus (omega))) | (first | refine stp ?_ | with_reducible refine Z01 (fun h => ?_) (fun h => ?_)))
     conv => whnf
     refine ⟨i + 1, ⟨hlt, hat⟩, by show ins.length - (i + 1) < ins.length - i; omega, ?_⟩
     refine FgL.mk [0] rfl ?_ ⟨⟨rfl, rfl, rfl, rfl, BodyGe.pre (rest := []) rfl rfl⟩, trivial⟩ rfl
     (repeat (first | exact trivial | refine stw ?_))
 · have e3 : decide ((i : Int) < (ins.length : Int)) = false := by simpa using hlt
   have hi2 : i = ins.length := by omega
   subst hi2
   rw [List.take_length] at hall
   have q2 := fun i h => q2 i h hall
   clear q1
   have hbig : ¬ ((16 < regs \/ 4000 < ins.length) \/ Zhk ⟨regs, ins⟩ = true) := by
    rintro (h | h)
    · exact h1 h
    · rw [show Zhk ⟨regs, ins⟩ = false from hall] at h; cases h
   rw [if_neg hbig]
   by_cases h2 : regs < 0 \/ ins.length = 0
   · rw [if_pos h2]
     by_cases h3 : regs < 0
     · have e4 : decide (regs < 0) = true := by simpa using h3
       repeat' ((conv => whnf); first | (first | refine stp ?_ | with_reducible refine Z01 (fun h => ?_) (fun h => ?_)))
       all_goals rfl
     · have e4 : decide (regs < 0) = false := by simpa using h3
       have e5 : ((ins.length : Int) == 0) = true := by simp; rcases h2 with h2 | h2; exact absurd h2 h3; simpa using h2
       repeat' ((conv => whnf); first | (first | refine stp ?_ | with_reducible refine Z01 (fun h => ?_) (fun h => ?_)))
       all_goals rfl
   rw [if_neg h2]
   have e4 : decide (regs < 0) = false := by simp; omega
   have h0 : ins.length ≠ 0 := fun e => h2 (.inr e)
   have e5 : ((ins.length : Int) == 0) = false := by simp; intro e; exact h0 (by rw [e]; rfl)
   repeat' ((conv => whnf); first | (first | refine stp ?_ | with_reducible refine Z01 (fun h => ?_) (fun h => ?_)))
   conv => whnf
   refine ⟨Nat, (fun i => i <= ins.length /\ (ins.take i).all (Z0I regs ins.length) = true), (fun i => [(1, .ptr 0 0), (5, .int .i64 i)]), (fun i => [⟨true, 0, 0, .cells [.int .i64 regs, .rs ins.length 6 (inC ins)] 24⟩]), (fun i => ins.length - i), ⟨0, ⟨Nat.zero_le _, rfl⟩, ?_⟩, ?_⟩
   · refine FgL.mk [0] rfl ?_ ⟨⟨rfl, rfl, rfl, rfl, BodyGe.pre (rest := []) rfl rfl⟩, trivial⟩ rfl
     (repeat (first | exact trivial | refine stw ?_))
   rintro i ⟨hi, hall3⟩
   dsimp only
   by_cases hlt : i < ins.length
   · have e6 : decide ((i : Int) < (ins.length : Int)) = true := by simpa using hlt
     have q3 := q2 i hlt
     have hx6 := in6 ins i hlt
     have hat := Zl9 (p := Z0I regs ins.length) ins i hlt
     rw [hall3, Bool.true_and] at hat
     have hst := Z6a (p := Z0I regs ins.length) hlt
     clear q2
     generalize Z0I regs ins.length ins[i] = b at *
     generalize ins[i] = y at *
     obtain ⟨k, r, lo, od, to, ex⟩ := y
     simp only [Z0m, exA] at hx6 q3
     cases b with
     | true =>
      repeat' ((conv => whnf); first | (refine exI (q3 _) ?_) | (refine exI hx6 ?_) | (with_reducible refine ixJ i rfl ?_ ?_; (focus (omega))) | (first | refine stp ?_ | with_reducible refine Z01 (fun h => ?_) (fun h => ?_)))
      conv => whnf
      refine ⟨i + 1, ⟨hlt, hat⟩, by show ins.length - (i + 1) < ins.length - i; omega, ?_⟩
      refine FgL.mk [0] rfl ?_ ⟨⟨rfl, rfl, rfl, rfl, BodyGe.pre (rest := []) rfl rfl⟩, trivial⟩ rfl
      (repeat (first | exact trivial | refine stw ?_))
     | false =>
      rw [if_pos (hst rfl)]
      repeat' ((conv => whnf); first | (refine exI (q3 _) ?_) | (refine exI hx6 ?_) | (with_reducible refine ixJ i rfl ?_ ?_; (focus (omega))) | (first | refine stp ?_ | with_reducible refine Z01 (fun h => ?_) (fun h => ?_)))
      all_goals rfl
   · have e6 : decide ((i : Int) < (ins.length : Int)) = false := by simpa using hlt
     have hi2 : i = ins.length := by omega
     subst hi2
     rw [List.take_length] at hall3
     rw [if_neg (by rw [hall3]; decide)]
     have hlast : ins.length - 1 < ins.length := by omega
     have hk := Zkg ins (ins.length - 1) hlast
     have hlb : ZeG ⟨regs, ins⟩ = (ins[ins.length - 1].kind == 10 || (ins[ins.length - 1].kind == 12 || ins[ins.length - 1].kind == 13)) := by
      simp only [ZeG, List.getElem?_eq_getElem hlast]
     rw [hlb]
     have w1 : IntKind.i64.wrap ((ins.length : Int) - 1) = ((ins.length - 1 : Nat) : Int) := by rw [Z4X (by omega) (by omega)]; omega
     clear q2
     generalize ins[ins.length - 1].kind = k at *
     have n1 : (k != 10) = !(k == 10) := rfl
     have n2 : (k != 12) = !(k == 12) := rfl
     have n3 : (k != 13) = !(k == 13) := rfl
     cases c1 : (k == 10) <;> cases c2 : (k == 12) <;> cases c3 : (k == 13)
     all_goals (rw [c1] at n1; rw [c2] at n2; rw [c3] at n3; simp only [Bool.not_true, Bool.not_false] at n1 n2 n3)
     all_goals (repeat' ((conv => whnf); first | (refine exI hk ?_) | (with_reducible refine exW w1 ?_) | (with_reducible refine ixJ (ins.length - 1) rfl ?_ ?_; (focus (omega))) | (first | refine stp ?_ | with_reducible refine Z01 (fun h => ?_) (fun h => ?_))))
     all_goals rfl
end Go.Proofs.YteidjbahodbgdaaGreatDoor.lex
end

section
namespace Go.Proofs.YteidjbahodbgdaaGreatDoor.lex
open Go.Abs Go.RowKit Go.Flat
set_option maxRecDepth 100000
set_option maxHeartbeats 4000000
variable {gl : Z0l}
theorem Zdg (regs : Int) (l : List Ins) (a : Nat) (ha : a < l.length) (hl : l.length <= 4000) (h0 : Zla (Z0h l a)) : ValOK Tryz.prog gl 86 [.agg [.int .i64 regs, .rs l.length 6 (inC l)], .int .i64 a] (Z8F (Z2T l a)) := by
 have hx := in6 l a ha
 unfold Z2T
 rw [Z2V ha] at h0 ⊢
 have ha2 : a < l.length := ha
 generalize l[a] = i at *
 obtain ⟨k, r, lo, od, to, ex⟩ := i
 simp only [Zla] at h0
 simp only [nx8, Z0m, exA, Z8F] at *
 by_cases h12 : k = 12 \/ k = 13
 · rw [if_pos h12]
   simp only [nis, List.map_nil, List.length_nil]
   refine Z5Y follows Z09 Z05 Tryz.func86 rfl ?_
   rcases h12 with rfl | rfl
   · repeat' ((conv => whnf); first | (refine exI hx ?_) | (with_reducible refine ixJ a rfl ?_ ?_; (focus (omega))) | (first | refine stp ?_ | with_reducible refine Z01 (fun h => ?_) (fun h => ?_)))
     all_goals exact .inr ⟨rfl, 1, rfl⟩
   · repeat' ((conv => whnf); first | (refine exI hx ?_) | (with_reducible refine ixJ a rfl ?_ ?_; (focus (omega))) | (first | refine stp ?_ | with_reducible refine Z01 (fun h => ?_) (fun h => ?_)))
     all_goals exact .inr ⟨rfl, 1, rfl⟩
 rw [if_neg h12]
 have e12 : (k == 12) = false := by simp; omega
 have e13 : (k == 13) = false := by simp; omega
 have w : IntKind.i64.wrap ((a : Int) + 1) = ((a + 1 : Nat) : Int) := Z2n (by omega)
 by_cases h10 : k = 10
 · subst h10
   obtain ⟨t, rfl⟩ : ∃ t : Nat, to = t := ⟨to.toNat, by omega⟩
   simp only [Int.toNat_natCast, if_true, nis, List.map_cons, List.map_nil, List.length_cons, List.length_nil]
   refine Z0a follows Z09 Z05 Tryz.func86 rfl ?_
   repeat' ((conv => whnf); first | (refine exI hx ?_) | (with_reducible refine ixJ a rfl ?_ ?_; (focus (omega))) | (first | refine stp ?_ | with_reducible refine Z01 (fun h => ?_) (fun h => ?_)))
   all_goals rfl
 rw [if_neg h10]
 have e10 : (k == 10) = false := by simpa using h10
 by_cases h11 : k = 11
 · subst h11
   obtain ⟨t, rfl⟩ : ∃ t : Nat, to = t := ⟨to.toNat, by omega⟩
   rw [if_pos rfl]
   simp only [Int.toNat_natCast]
   refine Z0a follows Z09 Z05 Tryz.func86 rfl ?_
   by_cases c1 : t < a + 1
   · rw [if_pos c1]
     have d1 : decide ((t : Int) < ((a + 1 : Nat) : Int)) = true := by simp; omega
     simp only [nis, List.map_cons, List.map_nil, List.length_cons, List.length_nil]
     repeat' ((conv => whnf); first | (refine exI hx ?_) | (with_reducible refine exW w ?_) | (with_reducible refine ixJ a rfl ?_ ?_; (focus (omega))) | (first | refine stp ?_ | with_reducible refine Z01 (fun h => ?_) (fun h => ?_)))
     all_goals rfl
   · rw [if_neg c1]
     have d1 : decide ((t : Int) < ((a + 1 : Nat) : Int)) = false := by simp; omega
     by_cases c2 : a + 1 < t
     · rw [if_pos c2]
       have d2 : decide ((t : Int) > ((a + 1 : Nat) : Int)) = true := by simp; omega
       simp only [nis, List.map_cons, List.map_nil, List.length_cons, List.length_nil]
       repeat' ((conv => whnf); first | (refine exI hx ?_) | (with_reducible refine exW w ?_) | (with_reducible refine ixJ a rfl ?_ ?_; (focus (omega))) | (first | refine stp ?_ | with_reducible refine Z01 (fun h => ?_) (fun h => ?_)))
       all_goals rfl
     · rw [if_neg c2]
       have d2 : decide ((t : Int) > ((a + 1 : Nat) : Int)) = false := by simp; omega
       simp only [nis, List.map_cons, List.map_nil, List.length_cons, List.length_nil]
       repeat' ((conv => whnf); first | (refine exI hx ?_) | (with_reducible refine exW w ?_) | (with_reducible refine ixJ a rfl ?_ ?_; (focus (omega))) | (first | refine stp ?_ | with_reducible refine Z01 (fun h => ?_) (fun h => ?_)))
       all_goals rfl
 · rw [if_neg h11]
   have e11 : (k == 11) = false := by simpa using h11
   simp only [nis, List.map_cons, List.map_nil, List.length_cons, List.length_nil]
   refine Z0a follows Z09 Z05 Tryz.func86 rfl ?_
   repeat' ((conv => whnf); first | (refine exI hx ?_) | (with_reducible refine exW w ?_) | (with_reducible refine ixJ a rfl ?_ ?_; (focus (omega))) | (first | refine stp ?_ | with_reducible refine Z01 (fun h => ?_) (fun h => ?_)))
   all_goals rfl
theorem Z9O (regs : Int) (l : List Ins) (a : Nat) (ha : a < l.length) (hl : l.length <= 4000) (h0 : Zla (Z0h l a)) : ValOK Tryz.prog gl 72 [.agg [.int .i64 regs, .rs l.length 6 (inC l)], .int .i64 a] (Z8F (Z2T l a)) := by
 obtain ⟨O, hO, p1, -⟩ := fams (P := Tryz.prog) (gl := gl) [{ I := Unit, f := 86, G := fun _ => True, A := fun _ => [.agg [.int .i64 regs, .rs l.length 6 (inC l)], .int .i64 a], R := fun _ => Z8F (Z2T l a), body := (by kernel_rfl), inj := fun _ _ _ _ _ => rfl, ok := fun _ _ => ⟨rfl, Zdg regs l a ha hl h0⟩ }] rfl
 have q1 : ∀ H, Z04 Tryz.prog O H 86 [.agg [.int .i64 regs, .rs l.length 6 (inC l)], .int .i64 a] = some (Z8F (Z2T l a), H) := p1 () trivial
 clear p1
 simp only [Z8F] at *
 refine Z0a follows Z09 hO Tryz.func72 rfl ?_
 repeat' ((conv => whnf); first | (refine exI (q1 _) ?_) | (first | refine stp ?_ | with_reducible refine Z01 (fun h => ?_) (fun h => ?_)))
 all_goals rfl
end Go.Proofs.YteidjbahodbgdaaGreatDoor.lex
end

section
namespace Go.Proofs.YteidjbahodbgdaaGreatDoor.lex
open Go.Abs Go.RowKit Go.Flat
set_option maxRecDepth 100000
set_option maxHeartbeats 4000000
variable {gl : Z0l}
structure Fine (c : Cd) : Prop where
 good : Good c.ins
 right : ∀ i ∈ c.ins, Z0I c.regs c.ins.length i = true
 reg0 : 0 <= c.regs
 reg1 : c.regs <= 16
 big : Zhk c = false
theorem Z62 {c : Cd} (h : Z31 c = 0) : Fine c := by
 unfold Z31 at h
 split at h
 · cases h
 rename_i h1
 split at h
 · cases h
 rename_i h2
 split at h
 · cases h
 rename_i h3
 split at h
 · rename_i h4
   have hr : ∀ i ∈ c.ins, Z0I c.regs c.ins.length i = true := by
    have : c.ins.all (Z0I c.regs c.ins.length) = true := by simpa using h3
    exact List.all_eq_true.1 this
   have hto : ∀ v, v < c.ins.length -> (Z0h c.ins v).kind = 10 \/ (Z0h c.ins v).kind = 11 -> 0 <= (Z0h c.ins v).to /\ (Z0h c.ins v).to < c.ins.length := fun v hv hk => by
    rw [Z2V hv] at hk ⊢
    have := hr _ (Z0i hv)
    unfold Z0I at this
    simp only [Bool.and_eq_true] at this
    have h5 := this.2.2.2.2.1
    have ht : toB c.ins[v].kind = true := by unfold toB; rcases hk with h | h <;> simp [h]
    rw [ht] at h5
    simp only [inW, if_true, Bool.and_eq_true, decide_eq_true_eq] at h5
    exact h5
   refine ⟨⟨by omega, by omega, fun v hv hk => ?_, fun v hv w hw => ?_⟩, hr, by omega, by omega, by rw [<- Bool.not_eq_true]; exact fun h => h1 (.inr h)⟩
   · have := hto v hv hk; omega
   · unfold nxL nxI at hw
     split at hw
     · rename_i hk
       have := hto v hv (.inl hk)
       simp only [List.mem_cons, List.not_mem_nil, or_false] at hw
       omega
     · rename_i hk10
       have hlast : ¬ ((Z0h c.ins v).kind = 12 \/ (Z0h c.ins v).kind = 13) -> v + 1 < c.ins.length := fun hk => by
        refine Nat.lt_of_not_le fun hle => ?_
        have hv2 : v = c.ins.length - 1 := by omega
        unfold ZeG at h4
        rw [<- hv2, List.getElem?_eq_getElem hv] at h4
        rw [Z2V hv] at hk hk10
        simp only [Bool.or_eq_true, beq_iff_eq] at h4
        omega
       split at hw
       · rename_i hk
         have := hto v hv (.inr hk)
         have := hlast (by omega)
         simp only [List.mem_cons, List.not_mem_nil, or_false] at hw
         omega
       · split at hw
         · cases hw
         · rename_i hk
           have := hlast hk
           simp only [List.mem_cons, List.not_mem_nil, or_false] at hw
           omega
 · cases h
open Classical in
noncomputable def Zf2 (nx : Nat -> List Nat) (v : Nat) : Bool := decide (Rch nx v)
theorem Z9q {nx : Nat -> List Nat} {v : Nat} : Zf2 nx v = true ↔ Rch nx v := by unfold Zf2; simp
theorem Good.nx8 {l : List Ins} (h : Good l) {v : Nat} (hv : v < l.length) {w : Nat} (hw : w ∈ Z2T l v) : w < l.length := h.nx v hv w ((Z4c l v w).1 hw)
theorem Good.lt8 {l : List Ins} (h : Good l) {v : Nat} (hv : Rch (Z2T l) v) : v < l.length := h.lt ((Zam (Z4c l) v).1 hv)
theorem ZfY (l : List Ins) (v : Nat) : (Z2T l v).length <= 2 := by
 unfold Z2T nx8
 repeat' split
 all_goals simp
theorem Zlz (n : Nat) (h : n <= 1048576) (H : Z00) : Z17 Tryz.prog 111 (.int .i64 n) (.int .i64 n) H = some (.slice H.length 0 n n 1, Z3a H (Z4u n [.bool false]) 4) := by
 have hz : tsz Tryz.prog 4 = some 1 := by kernel_rfl
 have hb : (Tryz.prog.info? 4).map (·.bytes) = some 1 := by kernel_rfl
 have hu : Z2Q Tryz.prog 4 = some (.bool false) := by kernel_rfl
 exact Zdk Tryz.underlying111 hz hb hu rfl (by decide) n (by omega) (by omega)
theorem Zi4 (n : Nat) (out : Nat -> Bool) (stk : List Nat) : Z3s n out stk <= 2 * n + stk.length := by
 unfold Z3s
 have : ∀ l : List Nat, (l.map fun v => if out v = true then 0 else 2).sum <= 2 * l.length := by
  intro l
  induction l with
  | nil => simp
  | cons x l ih => simp only [List.map_cons, List.sum_cons, List.length_cons]; split <;> omega
 have := this (List.range n)
 simp only [List.length_range] at this
 omega
theorem Zdo (n : Nat) (out : Nat -> Bool) (stk : List Nat) : stk.length <= Z3s n out stk := by unfold Z3s; omega
def reH (regs : Int) (l : List Ins) (out : Nat -> Bool) (stk : List Nat) : Z00 :=
 [⟨true, 0, 0, .cells [.int .i64 regs, .rs l.length 6 (inC l)] 24⟩, ⟨true, 1, 0, .cells (arr (fun v => .bool (out v)) l.length) 4⟩, ⟨true, 2, 0, .cells (nis stk.reverse) 3⟩]
theorem Z28 (out : Nat -> Bool) (n : Nat) : refsL (arr (fun v => .bool (out v)) n) [] = [] := Z72 (fun _ => rfl) n
theorem Zep (c : Cd) (hok : okC c) (hs : ∀ i ∈ c.ins, ∀ e ∈ i.ex, Z0f e <= 800000) (hc : Z31 c = 0) : ValOK Tryz.prog gl 71 [c.av] (.rs c.ins.length 1 (arr (fun v => .bool (Zf2 (Z2T c.ins) v)) c.ins.length)) := by
 have hck := Z2s (gl := gl) c hok hs
 rw [hc] at hck
 have hg := (Z62 hc).good
 obtain ⟨regs, l⟩ := c
 simp only [Cd.av] at *
 have hp := hg.pos
 have hf := hg.few
 obtain ⟨O, hO, p1, p2, -⟩ := fams (P := Tryz.prog) (gl := gl) [{ I := Unit, f := 12, G := fun _ => True, A := fun _ => [.agg [.int .i64 regs, .rs l.length 6 (inC l)]], R := fun _ => .int .i64 0, body := (by kernel_rfl), inj := fun _ _ _ _ _ => rfl, ok := fun _ _ => ⟨rfl, hck⟩ },
  { I := Nat, f := 86, G := fun a => a < l.length, A := fun a => [.agg [.int .i64 regs, .rs l.length 6 (inC l)], .int .i64 a], R := fun a => Z8F (Z2T l a), body := (by kernel_rfl), inj := (fun i j _ _ h => by simp only [List.cons.injEq, AV.int.injEq, and_true, true_and] at h; rw [show i = j by omega]), ok := fun a ha => ⟨rfl, Zdg regs l a ha hf (hg.to a ha)⟩ }] rfl
 have q1 : ∀ H, Z04 Tryz.prog O H 12 [.agg [.int .i64 regs, .rs l.length 6 (inC l)]] = some (.int .i64 0, H) := p1 () trivial
 have q2 : ∀ a, a < l.length -> ∀ H, Z04 Tryz.prog O H 86 [.agg [.int .i64 regs, .rs l.length 6 (inC l)], .int .i64 a] = some (Z8F (Z2T l a), H) := p2
 clear p1 p2 hck hc
 have hm := Zlz l.length (by omega)
 have hT : Z74 Tryz.prog 39 39 = some (3, 1, 8) := by kernel_rfl
 have hz : ∀ off, off = 0 -> spl (Z4u l.length [AV.bool false]) off [.bool true] = some (arr (fun v => .bool (upd (fun _ => false) 0 true v)) l.length) := fun off e => by
  rw [Z5c, Z7U _ _ hp e]
  congr 2
  funext v
  by_cases h : v = 0
  · subst h; rw [Z0b, Z0b]
  · rw [Z08 h, Z08 h]
 simp only [Z8F] at q2
 have hnx : ∀ v, v < l.length -> ∀ w ∈ Z2T l v, w < l.length := fun v hv w hw => hg.nx8 hv hw
 have hlt : ∀ v, Rch (Z2T l) v -> v < l.length := fun v hv => hg.lt8 hv
 have h2 : ∀ v, (Z2T l v).length <= 2 := ZfY l
 clear hok hs hg
 generalize Z2T l = nx at *
 refine Z0a follows Z09 hO Tryz.func71 rfl ?_
 repeat' ((conv => whnf); first | (refine exI (q1 _) ?_) | (refine exI (hm _) ?_) | (refine exI (hz _ rfl) ?_) | (with_reducible refine ixJ 0 rfl ?_ ?_; (focus (omega))) | (first | refine stp ?_ | with_reducible refine Z01 (fun h => ?_) (fun h => ?_)))
 conv => whnf
 refine ⟨(Nat -> Bool) × List Nat, (fun s => Rs nx s.1 s.2 /\ Z3s l.length s.1 s.2 <= 8001), (fun s => [(1, .ptr 0 0), (3, .slice 1 0 l.length l.length 1), (4, .slice 2 0 s.2.length s.2.length 1)]), (fun s => reH regs l s.1 s.2), (fun s => Z3s l.length s.1 s.2), ⟨(upd (fun _ => false) 0 true, [0]), ⟨Rs.start nx, by have := Zi4 l.length (upd (fun _ => false) 0 true) [0]; simp only [List.length_cons, List.length_nil] at this; show Z3s _ (upd (fun _ => false) 0 true) [0] <= _; omega⟩, ?_⟩, ?_⟩
 · refine FgL.mk [0, 1, 2] rfl ?_ ⟨⟨rfl, rfl, rfl, rfl, BodyGe.pre (rest := []) rfl rfl⟩, ⟨rfl, rfl, rfl, rfl, BodyGe.pre (rest := []) (by rw [List.append_nil]) (Z28 _ _)⟩, ⟨rfl, rfl, rfl, rfl, BodyGe.pre (rest := []) rfl rfl⟩, trivial⟩ rfl
   simp only [List.length_cons, List.length_nil]
   (repeat (first | exact trivial | refine stw ?_))
 rintro ⟨out, stk⟩ ⟨hR, hb⟩
 dsimp only at *
 cases stk with
 | nil =>
  have ha : arr (fun v => AV.bool (out v)) l.length = arr (fun v => .bool (Zf2 nx v)) l.length := by
   congr 1
   funext v
   congr 1
   rw [Bool.eq_iff_iff, Z9q]; exact hR.all v
  rw [<- ha]
  simp only [reH, List.length_nil]
  repeat' ((conv => whnf); first | refine stp ?_ | with_reducible refine Z01 (fun h => ?_) (fun h => ?_))
  all_goals (conv => whnf)
  all_goals exact ⟨_, Z02 (n := 28) (b := 1) rfl (by rw [Z4N]; omega) (ZkN (fun _ => rfl) _), rfl⟩
 | cons v stk =>
  have hv := hlt v (hR.rch v (hR.mark v (by simp)))
  have hge := Zdo l.length out (v :: stk)
  simp only [List.length_cons] at hge
  have e1 : decide (((stk.length + 1 : Nat) : Int) > 0) = true := by simp <;> omega
  have w1 : IntKind.i64.wrap (((stk.length + 1 : Nat) : Int) - 1) = (stk.length : Int) := by rw [Z4X (by omega) (by omega)]; omega
  have hx : ∀ off, off = stk.length -> tk 1 ((nis (stk.reverse ++ [v])).drop off) = some [.int .i64 v] := fun off e => by
   have := ZaW (stk.reverse ++ [v]) (k := stk.length) (by simp) e
   rw [this]; simp
  have q2v := q2 v hv
  have hnxv := hnx v hv
  have hpop := hR.pop
  simp only [reH, List.length_cons, List.reverse_cons] at *
  repeat' ((conv => whnf); first | (with_reducible refine exW w1 ?_) | (refine exI (hx _ (by omega)) ?_) | (refine exI (q2v _) ?_) | (with_reducible refine ixJ stk.length rfl ?_ ?_; (focus (omega))) | (with_reducible refine ZbM stk.length rfl ?_ ?_; (focus (omega))) | (first | refine stp ?_ | with_reducible refine Z01 (fun h => ?_) (fun h => ?_)))
  conv => whnf
  refine ⟨(Nat -> Bool) × List Nat × Nat, (fun s => Rm nx v s.2.2 s.1 s.2.1 /\ s.2.2 <= (nx v).length /\ Z3s l.length s.1 s.2.1 < Z3s l.length out (v :: stk)), (fun s => [(1, .ptr 0 0), (3, .slice 1 0 l.length l.length 1), (4, .slice 2 0 s.2.1.length s.2.1.length 1), (6, .rs (nx v).length 1 (nis (nx v))), (7, .int .i64 (s.2.2 : Nat))]), (fun s => reH regs l s.1 s.2.1), (fun s => (nx v).length - s.2.2), ⟨(out, stk, 0), ⟨hpop, Nat.zero_le _, Zge⟩, ?_⟩, ?_⟩
  · refine FgL.mk [0, 1, 2] rfl ?_ ⟨⟨rfl, rfl, rfl, rfl, BodyGe.pre (rest := []) rfl rfl⟩, ⟨rfl, rfl, rfl, rfl, BodyGe.pre (rest := []) (by rw [List.append_nil]) (Z28 _ _)⟩, ⟨rfl, rfl, rfl, rfl, BodyGe.pre (rest := [.int .i64 v]) (Z9z _ _) (Z1n _)⟩, trivial⟩ rfl
    simp only [List.length_cons, List.length_nil]
    (repeat (first | exact trivial | refine stw ?_))
  rintro ⟨out2, stk2, j⟩ ⟨hM, hj, hl2⟩
  dsimp only at *
  simp only [reH]
  clear hx w1 e1 hge q2v
  by_cases hjt : j < (nx v).length
  · have e1 : decide ((j : Int) < ((nx v).length : Int)) = true := by simpa using hjt
    have hx2 : ∀ off, off = j -> tk 1 ((nis (nx v)).drop off) = some [.int .i64 ((nx v)[j] : Nat)] := fun off e => ZaW (nx v) hjt e
    have hw := List.getElem?_eq_getElem hjt
    have hwl := hnxv _ (List.getElem_mem hjt)
    have hlen := h2 v
    generalize (nx v)[j] = w at *
    have hx3 : ∀ off, off = w -> tk 1 ((arr (fun v => AV.bool (out2 v)) l.length).drop off) = some [.bool (out2 w)] := fun off e => Z7W _ hwl e
    cases ho : out2 w with
    | true =>
     rw [ho] at hx3
     repeat' ((conv => whnf); first | (refine exI (hx2 _ (by omega)) ?_) | (refine exI (hx3 _ (by omega)) ?_) | (with_reducible refine ixJ j rfl ?_ ?_; (focus (omega))) | (with_reducible refine ixJ w rfl ?_ ?_; (focus (omega))) | (first | refine stp ?_ | with_reducible refine Z01 (fun h => ?_) (fun h => ?_)))
     conv => whnf
     refine ⟨(out2, stk2, j + 1), ⟨hM.old hw ho, hjt, hl2⟩, by show (nx v).length - (j + 1) < (nx v).length - j; omega, ?_⟩
     refine FgL.mk [0, 1, 2] rfl ?_ ⟨⟨rfl, rfl, rfl, rfl, BodyGe.pre (rest := []) rfl rfl⟩, ⟨rfl, rfl, rfl, rfl, BodyGe.pre (rest := []) (by rw [List.append_nil]) (Z28 _ _)⟩, ⟨rfl, rfl, rfl, rfl, BodyGe.pre (rest := []) (by rw [List.append_nil]) (Z1n _)⟩, trivial⟩ rfl
     simp only [List.length_cons]
     (repeat (first | exact trivial | refine stw ?_))
    | false =>
     rw [ho] at hx3
     have hl3 := ZeE (stk := stk2) hwl ho
     have hge := Zdo l.length out2 stk2
     have hso := Z5S stk2.reverse
     have hsl := Z3V stk2.reverse
     rw [List.length_reverse] at hsl
     have hy : ∀ off, off = w -> spl (arr (fun v => AV.bool (out2 v)) l.length) off [.bool true] = some (arr (fun v => .bool (upd out2 w true v)) l.length) := fun off e => by
      rw [Z7U _ _ hwl e]
      congr 2
      funext u
      by_cases h : u = w
      · subst h; rw [Z0b, Z0b]
      · rw [Z08 h, Z08 h]
     repeat' ((conv => whnf); first | (refine exI (hx2 _ (by omega)) ?_) | (refine exI (hx3 _ (by omega)) ?_) | (refine exI (hy _ (by omega)) ?_) | (with_reducible refine ixJ j rfl ?_ ?_; (focus (omega))) | (with_reducible refine ixJ w rfl ?_ ?_; (focus (omega))) | (refine apS ?_) | (first | refine stp ?_ | with_reducible refine Z01 (fun h => ?_) (fun h => ?_)))
     conv => whnf
     refine ⟨(upd out2 w true, w :: stk2, j + 1), ⟨hM.push hw, hjt, by show Z3s l.length (upd out2 w true) (w :: stk2) < _; omega⟩, by show (nx v).length - (j + 1) < (nx v).length - j; omega, ?_⟩
     refine FgL.mk [0, 1, 4] rfl ?_ ⟨⟨rfl, rfl, rfl, rfl, BodyGe.pre (rest := []) rfl rfl⟩, ⟨rfl, rfl, rfl, rfl, BodyGe.pre (rest := []) (by rw [List.append_nil]) (Z28 _ _)⟩, ⟨rfl, rfl, rfl, rfl, BodyGe.pre (rest := []) (by rw [List.append_nil, List.reverse_cons, Z9z]; rfl) (Z1n _)⟩, trivial⟩ rfl
     simp only [List.length_cons]
     (repeat (first | exact trivial | refine stw ?_))
  · have e1 : decide ((j : Int) < ((nx v).length : Int)) = false := by simpa using hjt
    have hj2 : j = (nx v).length := by omega
    subst hj2
    repeat' ((conv => whnf); first | refine stp ?_ | with_reducible refine Z01 (fun h => ?_) (fun h => ?_))
    conv => whnf
    refine ⟨(out2, stk2), ⟨hM.fin, by show Z3s l.length out2 stk2 <= _; omega⟩, by show Z3s l.length out2 stk2 < Z3s l.length out (v :: stk); omega, ?_⟩
    refine FgL.mk [0, 1, 2] rfl ?_ ⟨⟨rfl, rfl, rfl, rfl, BodyGe.pre (rest := []) rfl rfl⟩, ⟨rfl, rfl, rfl, rfl, BodyGe.pre (rest := []) (by rw [List.append_nil]) (Z28 _ _)⟩, ⟨rfl, rfl, rfl, rfl, BodyGe.pre (rest := []) (by rw [List.append_nil]) (Z1n _)⟩, trivial⟩ rfl
    simp only [List.length_cons, List.length_nil]
    (repeat (first | exact trivial | refine stw ?_))
end Go.Proofs.YteidjbahodbgdaaGreatDoor.lex
end

section
namespace Go.Flat
def mx (best : Nat -> Nat) : List Nat -> Nat
 | [] => 0
 | w :: l => max (best w) (mx best l)
theorem ZhX {best : Nat -> Nat} {k : Nat} : ∀ {l : List Nat}, (∀ w ∈ l, best w <= k) -> mx best l <= k
 | [], _ => Nat.zero_le _
 | w :: l, h => by
  have h1 := h w (by simp)
  have h2 := ZhX (l := l) fun x hx => h x (by simp [hx])
  simp only [mx]; omega
theorem ZlG {best : Nat -> Nat} : ∀ {l : List Nat} {w : Nat}, w ∈ l -> best w <= mx best l
 | x :: l, w, h => by
  simp only [mx]
  rcases List.mem_cons.1 h with rfl | h
  · omega
  · have := ZlG (best := best) h; omega
theorem Z6S {f g : Nat -> Nat} : ∀ {l : List Nat}, (∀ w ∈ l, f w = g w) -> mx f l = mx g l
 | [], _ => rfl
 | w :: l, h => by simp only [mx, h w (by simp), Z6S (l := l) fun x hx => h x (by simp [hx])]
def Eqn (nx : Nat -> List Nat) (best : Nat -> Nat) (v : Nat) : Prop := best v = mx best (nx v) + 1
structure Rnd (nx : Nat -> List Nat) (rank : Nat -> Nat) (t : Nat) (best0 best : Nat -> Nat) (i : Nat) : Prop where
 bnd : ∀ v, Rch nx v -> best v <= rank v + 1
 old : ∀ v, Rch nx v -> rank v < t -> best v = best0 v
 eq0 : ∀ v, Rch nx v -> rank v < t -> Eqn nx best v
 eq1 : ∀ v, Rch nx v -> i <= v -> rank v <= t -> Eqn nx best v
def Zha (nx : Nat -> List Nat) (rank : Nat -> Nat) : Prop := ∀ v w, Rch nx v -> w ∈ nx v -> rank w < rank v
theorem Rnd.begin {nx : Nat -> List Nat} {rank : Nat -> Nat} {t n : Nat} {best : Nat -> Nat} (hb : ∀ v, Rch nx v -> best v <= rank v + 1) (he : ∀ v, Rch nx v -> rank v < t -> Eqn nx best v) (hn : ∀ v, Rch nx v -> v < n) : Rnd nx rank t best best n :=
 ⟨hb, fun _ _ _ => rfl, he, fun v hv hi _ => absurd (hn v hv) (by omega)⟩
theorem Rnd.skip {nx : Nat -> List Nat} {rank : Nat -> Nat} {t i : Nat} {best0 best : Nat -> Nat} (h : Rnd nx rank t best0 best (i + 1)) (hi : ¬ Rch nx i) : Rnd nx rank t best0 best i :=
 ⟨h.bnd, h.old, h.eq0, fun v hv hle ht => h.eq1 v hv (by
   rcases Nat.lt_or_eq_of_le hle with h1 | h1
   · omega
   · subst h1; exact absurd hv hi) ht⟩
theorem Rnd.put {nx : Nat -> List Nat} {rank : Nat -> Nat} {t i : Nat} {best0 best : Nat -> Nat} (hr : Zha nx rank) (h : Rnd nx rank t best0 best (i + 1)) (hi : Rch nx i) : Rnd nx rank t best0 (upd best i (mx best (nx i) + 1)) i := by
 have self : rank i <= t -> Eqn nx (upd best i (mx best (nx i) + 1)) i := fun _ => by
  unfold Eqn
  rw [Z0b, Z6S (f := upd best i (mx best (nx i) + 1)) (g := best) fun w hw => Z08 fun e => by have := hr i w hi hw; subst e; omega]
 have keep : rank i < t -> mx best (nx i) + 1 = best i := fun ht => (h.eq0 i hi ht).symm
 have other : ∀ v, Rch nx v -> v ≠ i -> (rank v < t \/ rank v <= t) -> Eqn nx best v -> Eqn nx (upd best i (mx best (nx i) + 1)) v := fun v hv hne ht he => by
  unfold Eqn at he ⊢
  rw [Z08 hne, he]
  congr 1
  refine Z6S fun w hw => ?_
  by_cases e : w = i
  · subst e
    have := hr v w hv hw
    rw [Z0b, keep (by omega)]
  · rw [Z08 e]
 refine ⟨fun v hv => ?_, fun v hv ht => ?_, fun v hv ht => ?_, fun v hv hle ht => ?_⟩
 · by_cases e : v = i
   · subst e
     rw [Z0b]
     have := ZhX (best := best) (l := nx v) (k := rank v) fun w hw => by
      have := h.bnd w (.next hv hw); have := hr v w hv hw; omega
     omega
   · rw [Z08 e]; exact h.bnd v hv
 · by_cases e : v = i
   · subst e; rw [Z0b, keep ht]; exact h.old v hv ht
   · rw [Z08 e]; exact h.old v hv ht
 · by_cases e : v = i
   · subst e; exact self (by omega)
   · exact other v hv e (.inl ht) (h.eq0 v hv ht)
 · by_cases e : v = i
   · subst e; exact self ht
   · exact other v hv e (.inr ht) (h.eq1 v hv (by omega) ht)
theorem Rnd.done {nx : Nat -> List Nat} {rank : Nat -> Nat} {t : Nat} {best0 best : Nat -> Nat} (h : Rnd nx rank t best0 best 0) : ∀ v, Rch nx v -> rank v < t + 1 -> Eqn nx best v := fun v hv ht => h.eq1 v hv (Nat.zero_le _) (by omega)
theorem Rnd.same {nx : Nat -> List Nat} {rank : Nat -> Nat} {t i : Nat} {best0 best : Nat -> Nat} (h : Rnd nx rank t best0 best (i + 1)) (hi : Rch nx i) (ht : rank i < t) : mx best (nx i) + 1 = best i := (h.eq0 i hi ht).symm
end Go.Flat
end

section
namespace Go.Flat
theorem Zkz {n : Nat} {nx : Nat -> List Nat} {best : Nat -> Nat} (h : ∀ v, Rch nx v -> Eqn nx best v) (hb : ∀ v, Rch nx v -> best v <= n) : Acy nx n :=
 ⟨fun v => best v - 1, fun v hv => by have h1 := h v hv; have h2 := hb v hv; unfold Eqn at h1; show best v - 1 < n; omega, fun v w hv hw => by
   have h1 := h v hv
   have h2 := h w (.next hv hw)
   have h3 := ZlG (best := best) hw
   unfold Eqn at h1 h2
   show best w - 1 < best v - 1
   omega⟩
theorem ZdI {nx : Nat -> List Nat} {rank f g : Nat -> Nat} (hr : Zha nx rank) (hf : ∀ v, Rch nx v -> Eqn nx f v) (hg : ∀ v, Rch nx v -> Eqn nx g v) : ∀ (k v : Nat), rank v < k -> Rch nx v -> f v = g v
 | 0, v, h, _ => absurd h (Nat.not_lt_zero _)
 | k + 1, v, h, hv => by
  have h1 := hf v hv
  have h2 := hg v hv
  unfold Eqn at h1 h2
  rw [h1, h2, Z6S fun w hw => ZdI hr hf hg k w (by have := hr v w hv hw; omega) (.next hv hw)]
theorem Zg2 (best : Nat -> Nat) (w : Nat) : ∀ l : List Nat, mx best (l ++ [w]) = max (mx best l) (best w)
 | [] => by simp [mx]
 | x :: l => by simp only [List.cons_append, mx, Zg2 best w l]; omega
theorem Zk7 (best : Nat -> Nat) (l : List Nat) (k : Nat) (h : k < l.length) : mx best (l.take (k + 1)) = max (mx best (l.take k)) (best l[k]) := by
 rw [List.take_succ_eq_append_getElem h, Zg2]
open Classical in
noncomputable def hgt (nx : Nat -> List Nat) : Nat := if h : ∃ f : Nat -> Nat, ∀ v, Rch nx v -> Eqn nx f v then (Classical.choose h) 0 else 0
theorem ZlI {nx : Nat -> List Nat} {n : Nat} {f : Nat -> Nat} (ha : Acy nx n) (hf : ∀ v, Rch nx v -> Eqn nx f v) : f 0 = hgt nx := by
 obtain ⟨rank, _, hr⟩ := ha
 have hx : ∃ f : Nat -> Nat, ∀ v, Rch nx v -> Eqn nx f v := ⟨f, hf⟩
 unfold hgt
 rw [dif_pos hx]
 exact ZdI (rank := rank) hr hf (Classical.choose_spec hx) _ 0 (Nat.lt_succ_self _) .zero
open Classical in
noncomputable def Ze2 (nx : Nat -> List Nat) (n : Nat) : Bool := decide (Acy nx n)
theorem Z5I {nx : Nat -> List Nat} {n : Nat} : Ze2 nx n = true ↔ Acy nx n := by unfold Ze2; simp
theorem ZjR {nx : Nat -> List Nat} {n : Nat} : ∃ rank : Nat -> Nat, Ze2 nx n = true -> (∀ v, Rch nx v -> rank v < n) /\ Zha nx rank := by
 by_cases h : Ze2 nx n = true
 · obtain ⟨r, h1, h2⟩ := Z5I.1 h
   exact ⟨r, fun _ => ⟨h1, h2⟩⟩
 · exact ⟨fun _ => 0, fun h2 => absurd h2 h⟩
end Go.Flat
end

section
namespace Go.Proofs.YteidjbahodbgdaaGreatDoor.lex
open Go.Abs Go.RowKit Go.Flat
set_option maxRecDepth 100000
set_option maxHeartbeats 4000000
variable {gl : Z0l}
def lnH (regs : Int) (l : List Ins) (best : Nat -> Nat) : Z00 :=
 [⟨true, 0, 0, .cells [.int .i64 regs, .rs l.length 6 (inC l)] 24⟩, ⟨true, 1, 0, .cells (arr (fun v => .int .i64 (best v : Nat)) l.length) 3⟩]
theorem Z1e (f : Nat -> Nat) (n : Nat) : refsL (arr (fun v => .int .i64 (f v : Nat)) n) [] = [] := Z72 (fun _ => rfl) n
theorem ZeJ (f : Nat -> Nat) {n k : Nat} (x : Nat) (h : k < n) {off : Nat} (e : off = k) : spl (arr (fun v => AV.int .i64 (f v : Nat)) n) off [.int .i64 (x : Nat)] = some (arr (fun v => .int .i64 ((upd f k x v : Nat) : Int)) n) := by
 rw [Z7U _ _ h e]
 congr 2
 funext v
 by_cases h : v = k
 · subst h; rw [Z0b, Z0b]
 · rw [Z08 h, Z08 h]
theorem ZiZ (n : Nat) (h : n <= 1048576) (H : Z00) : Z17 Tryz.prog 39 (.int .i64 n) (.int .i64 n) H = some (.slice H.length 0 n n 1, Z3a H (Z4u n [.int .i64 0]) 3) := by
 have hz : tsz Tryz.prog 3 = some 1 := by kernel_rfl
 have hb : (Tryz.prog.info? 3).map (·.bytes) = some 8 := by kernel_rfl
 have hu : Z2Q Tryz.prog 3 = some (.int .i64 0) := by kernel_rfl
 exact Zdk Tryz.underlying39 hz hb hu rfl (by decide) n (by omega) (by omega)
noncomputable def lnR (nx : Nat -> List Nat) (n : Nat) : AV := if Ze2 nx n = true then .tuple [.int .i64 (hgt nx : Nat), .bool true] else .tuple [.int .i64 0, .bool false]
theorem ZeC (c : Cd) (hok : okC c) (hs : ∀ i ∈ c.ins, ∀ e ∈ i.ex, Z0f e <= 800000) (hc : Z31 c = 0) : ValOK Tryz.prog gl 59 [c.av, .bool false] (lnR (Z2T c.ins) c.ins.length) := by
 have hrc := Zep (gl := gl) c hok hs hc
 have hg := (Z62 hc).good
 obtain ⟨regs, l⟩ := c
 simp only [Cd.av] at *
 have hp := hg.pos
 have hf := hg.few
 obtain ⟨O, hO, p1, p2, -⟩ := fams (P := Tryz.prog) (gl := gl) [{ I := Unit, f := 71, G := fun _ => True, A := fun _ => [.agg [.int .i64 regs, .rs l.length 6 (inC l)]], R := fun _ => .rs l.length 1 (arr (fun v => .bool (Zf2 (Z2T l) v)) l.length), body := (by kernel_rfl), inj := fun _ _ _ _ _ => rfl, ok := fun _ _ => ⟨rfl, hrc⟩ },
  { I := Nat, f := 72, G := fun a => a < l.length, A := fun a => [.agg [.int .i64 regs, .rs l.length 6 (inC l)], .int .i64 a], R := fun a => Z8F (Z2T l a), body := (by kernel_rfl), inj := (fun i j _ _ h => by simp only [List.cons.injEq, AV.int.injEq, and_true, true_and] at h; rw [show i = j by omega]), ok := fun a ha => ⟨rfl, Z9O regs l a ha hf (hg.to a ha)⟩ }] rfl
 have q1 : ∀ H, Z04 Tryz.prog O H 71 [.agg [.int .i64 regs, .rs l.length 6 (inC l)]] = some (.rs l.length 1 (arr (fun v => .bool (Zf2 (Z2T l) v)) l.length), H) := p1 () trivial
 have q2 : ∀ a, a < l.length -> ∀ H, Z04 Tryz.prog O H 72 [.agg [.int .i64 regs, .rs l.length 6 (inC l)], .int .i64 a] = some (Z8F (Z2T l a), H) := p2
 clear p1 p2 hrc hc
 have hm := ZiZ l.length (by omega)
 simp only [Z8F] at q2
 have hnx : ∀ v, v < l.length -> ∀ w ∈ Z2T l v, w < l.length := fun v hv w hw => hg.nx8 hv hw
 have hlt : ∀ v, Rch (Z2T l) v -> v < l.length := fun v hv => hg.lt8 hv
 have h2 : ∀ v, (Z2T l v).length <= 2 := ZfY l
 have hkd : ∀ v, v < l.length -> tk 1 (((inC l).drop (v * 6)).drop 0) = some [.int .i64 (Z0h l v).kind] := fun v hv => by rw [Z2V hv]; exact Zkg l v hv
 clear hok hs hg
 generalize Z2T l = nx at *
 obtain ⟨rank, hrank⟩ := ZjR (nx := nx) (n := l.length)
 refine Z0a follows Z09 hO Tryz.func59 rfl ?_
 repeat' ((conv => whnf); first | (refine exI (q1 _) ?_) | (refine exI (hm _) ?_) | (with_reducible refine ixJ 0 rfl ?_ ?_; (focus (omega))) | (first | refine stp ?_ | with_reducible refine Z01 (fun h => ?_) (fun h => ?_)))
 conv => whnf
 have wl : IntKind.i64.wrap ((l.length : Int) + 1) = ((l.length + 1 : Nat) : Int) := Z2n (by omega)
 refine ⟨Nat × (Nat -> Nat), (fun s => s.1 <= l.length + 2 /\ (∀ v, Rch nx v -> s.2 v <= l.length) /\ (Ze2 nx l.length = true -> s.1 <= l.length /\ (∀ v, Rch nx v -> s.2 v <= rank v + 1) /\ (∀ v, Rch nx v -> rank v < s.1 -> Eqn nx s.2 v))), (fun s => [(1, .bool false), (2, .ptr 0 0), (6, .rs l.length 1 (arr (fun v => .bool (Zf2 nx v)) l.length)), (7, .slice 1 0 l.length l.length 1), (8, .int .i64 (s.1 : Nat))]), (fun s => lnH regs l s.2), (fun s => l.length + 2 - s.1), ⟨(0, fun _ => 0), ⟨by show (0 : Nat) <= _; omega, fun v _ => Nat.zero_le _, fun _ => ⟨Nat.zero_le _, fun v _ => Nat.zero_le _, fun v _ h => absurd h (Nat.not_lt_zero _)⟩⟩, ?_⟩, ?_⟩
 · refine FgL.mk [0, 1] rfl ?_ ⟨⟨rfl, rfl, rfl, rfl, BodyGe.pre (rest := []) rfl rfl⟩, ⟨rfl, rfl, rfl, rfl, BodyGe.pre (rest := []) (by rw [List.append_nil]; exact Z5c _ _) (Z1e (fun _ => 0) _)⟩, trivial⟩ rfl
   try dsimp only
   (repeat (first | exact trivial | refine stw ?_))
 rintro ⟨t, best0⟩ ⟨ht, hbd0, hA0⟩
 dsimp only at ht hbd0 hA0
 try dsimp only
 simp only [lnH]
 clear q1 hm
 by_cases htt : t <= l.length + 1
 · have e1 : decide ((t : Int) <= ((l.length + 1 : Nat) : Int)) = true := by simp; omega
   have w1 : IntKind.i64.wrap ((l.length : Int) - 1) = (l.length : Int) - 1 := Z4X (by omega) (by omega)
   repeat' ((conv => whnf); first | (with_reducible refine exW wl ?_) | (with_reducible refine exW w1 ?_) | (first | refine stp ?_ | with_reducible refine Z01 (fun h => ?_) (fun h => ?_)))
   conv => whnf
   refine ⟨Int × (Nat -> Nat) × Bool, (fun s => -1 <= s.1 /\ s.1 < l.length /\ (∀ v, Rch nx v -> s.2.1 v <= l.length) /\ (s.2.2 = true -> s.2.1 = best0 /\ ∀ v, Rch nx v -> (s.1 + 1).toNat <= v -> Eqn nx best0 v) /\ (Ze2 nx l.length = true -> Rnd nx rank t best0 s.2.1 (s.1 + 1).toNat /\ (s.2.2 = false -> t < l.length))), (fun s => [(1, .bool false), (2, .ptr 0 0), (6, .rs l.length 1 (arr (fun v => .bool (Zf2 nx v)) l.length)), (7, .slice 1 0 l.length l.length 1), (8, .int .i64 (t : Nat)), (9, .bool s.2.2), (10, .int .i64 s.1)]), (fun s => lnH regs l s.2.1), (fun s => (s.1 + 1).toNat), ⟨((l.length : Int) - 1, best0, true), ⟨by show -1 <= (l.length : Int) - 1; omega, by show (l.length : Int) - 1 < _; omega, hbd0, fun _ => ⟨rfl, fun v hv hk => ?_⟩, fun h => ⟨?_, fun h => by cases h⟩⟩, ?_⟩, ?_⟩
   · have := hlt v hv
     have hk : ((l.length : Int) - 1 + 1).toNat <= v := hk
     omega
   · have h3 := Rnd.begin (n := l.length) (hA0 h).2.1 (hA0 h).2.2 hlt
     rw [show ((l.length : Int) - 1, best0, true).1 = (l.length : Int) - 1 from rfl, show ((l.length : Int) - 1 + 1).toNat = l.length by omega]
     exact h3
   · refine FgL.mk [0, 1] rfl ?_ ⟨⟨rfl, rfl, rfl, rfl, BodyGe.pre (rest := []) rfl rfl⟩, ⟨rfl, rfl, rfl, rfl, BodyGe.pre (rest := []) (by rw [List.append_nil]) (Z1e _ _)⟩, trivial⟩ rfl
     try dsimp only
     (repeat (first | exact trivial | refine stw ?_))
   rintro ⟨k, best, fl⟩ ⟨hk1, hk2, hbd, hfl, hA⟩
   dsimp only at hk1 hk2 hbd hfl hA
   try dsimp only
   simp only [lnH]
   by_cases hk : 0 <= k
   · have e2 : decide (k >= 0) = true := by simpa using hk
     obtain ⟨i, rfl⟩ : ∃ i : Nat, k = i := ⟨k.toNat, by omega⟩
     have hi : i < l.length := by omega
     have h6 : ∀ off, off = i -> tk 1 ((arr (fun v => AV.bool (Zf2 nx v)) l.length).drop off) = some [.bool (Zf2 nx i)] := fun off e => Z7W _ hi e
     have wi : IntKind.i64.wrap ((i : Int) - 1) = (i : Int) - 1 := Z4X (by omega) (by omega)
     rw [show ((i : Int) + 1).toNat = i + 1 by omega] at hA hfl
     cases hrc : Zf2 nx i with
     | false =>
      rw [hrc] at h6
      have hnr : ¬ Rch nx i := fun h => by have := Z9q.2 h; rw [hrc] at this; cases this
      repeat' ((conv => whnf); first | (refine exI (h6 _ (by omega)) ?_) | (with_reducible refine exW wi ?_) | (with_reducible refine ixJ i rfl ?_ ?_; (focus (omega))) | (first | refine stp ?_ | with_reducible refine Z01 (fun h => ?_) (fun h => ?_)))
      conv => whnf
      refine ⟨((i : Int) - 1, best, fl), ⟨by show -1 <= (i : Int) - 1; omega, by show (i : Int) - 1 < _; omega, hbd, fun h => ⟨(hfl h).1, fun v hv hle => ?_⟩, fun h => ⟨?_, (hA h).2⟩⟩, by show ((i : Int) - 1 + 1).toNat < ((i : Int) + 1).toNat; omega, ?_⟩
      · have hle : ((i : Int) - 1 + 1).toNat <= v := hle
        refine (hfl h).2 v hv ?_
        rcases Nat.lt_or_eq_of_le (show i <= v by omega) with h1 | h1
        · omega
        · subst h1; exact absurd hv hnr
      · have := (hA h).1.skip hnr
        rw [show (((i : Int) - 1, best, fl).1 + 1).toNat = i by show ((i : Int) - 1 + 1).toNat = i; omega]
        exact this
      refine FgL.mk [0, 1] rfl ?_ ⟨⟨rfl, rfl, rfl, rfl, BodyGe.pre (rest := []) rfl rfl⟩, ⟨rfl, rfl, rfl, rfl, BodyGe.pre (rest := []) (by rw [List.append_nil]) (Z1e _ _)⟩, trivial⟩ rfl
      try dsimp only
      (repeat (first | exact trivial | refine stw ?_))
     | true =>
      rw [hrc] at h6
      have hr := Z9q.1 hrc
      have q2i := q2 i hi
      have hki := hkd i hi
      have hni := hnx i hi
      have h2i := h2 i
      have hmb : mx best (nx i) <= l.length := ZhX fun w hw => hbd w (.next hr hw)
      repeat' ((conv => whnf); first | (refine exI (h6 _ (by omega)) ?_) | (refine exI (q2i _) ?_) | (with_reducible refine ixJ i rfl ?_ ?_; (focus (omega))) | (first | refine stp ?_ | with_reducible refine Z01 (fun h => ?_) (fun h => ?_)))
      conv => whnf
      refine ⟨Nat, (fun m => m <= (nx i).length), (fun m => [(1, .bool false), (2, .ptr 0 0), (6, .rs l.length 1 (arr (fun v => .bool (Zf2 nx v)) l.length)), (7, .slice 1 0 l.length l.length 1), (8, .int .i64 (t : Nat)), (9, .bool fl), (10, .int .i64 (i : Nat)), (11, .int .i64 (mx best ((nx i).take m) : Nat)), (12, .rs (nx i).length 1 (nis (nx i))), (13, .int .i64 (m : Nat))]), (fun m => lnH regs l best), (fun m => (nx i).length - m), ⟨0, Nat.zero_le _, ?_⟩, ?_⟩
      · simp only [List.take_zero, mx]
        refine FgL.mk [0, 1] rfl ?_ ⟨⟨rfl, rfl, rfl, rfl, BodyGe.pre (rest := []) rfl rfl⟩, ⟨rfl, rfl, rfl, rfl, BodyGe.pre (rest := []) (by rw [List.append_nil]) (Z1e _ _)⟩, trivial⟩ rfl
        (repeat (first | exact trivial | refine stw ?_))
      rintro m hmi
      (try dsimp only at hmi)
      try dsimp only
      simp only [lnH]
      clear h6
      by_cases hmt : m < (nx i).length
      · have e3 : decide ((m : Int) < ((nx i).length : Int)) = true := by simpa using hmt
        have hx12 : ∀ off, off = m -> tk 1 ((nis (nx i)).drop off) = some [.int .i64 ((nx i)[m] : Nat)] := fun off e => ZaW (nx i) hmt e
        have hwl := hni _ (List.getElem_mem hmt)
        have htk := Zk7 best (nx i) m hmt
        generalize (nx i)[m] = w at *
        have hx7 : ∀ off, off = w -> tk 1 ((arr (fun v => AV.int .i64 (best v : Nat)) l.length).drop off) = some [.int .i64 (best w : Nat)] := fun off e => Z7W _ hwl e
        repeat' ((conv => whnf); first | (refine exI (hx12 _ (by omega)) ?_) | (refine exI (hx7 _ (by omega)) ?_) | (with_reducible refine ixJ m rfl ?_ ?_; (focus (omega))) | (with_reducible refine ixJ w rfl ?_ ?_; (focus (omega))) | (first | refine stp ?_ | with_reducible refine Z01 (fun h => ?_) (fun h => ?_)))
        conv => whnf
        refine ⟨m + 1, hmt, by show (nx i).length - (m + 1) < (nx i).length - m; omega, ?_⟩
        rw [htk]
        refine FgL.mk [0, 1] rfl ?_ ⟨⟨rfl, rfl, rfl, rfl, BodyGe.pre (rest := []) rfl rfl⟩, ⟨rfl, rfl, rfl, rfl, BodyGe.pre (rest := []) (by rw [List.append_nil]) (Z1e _ _)⟩, trivial⟩ rfl
        (iterate 7 (refine stw ?_))
        refine And.intro (Wk.int ?_) ?_
        · split <;> omega
        (repeat (first | exact trivial | refine stw ?_))
      · have e3 : decide ((m : Int) < ((nx i).length : Int)) = false := by simpa using hmt
        have hm2 : m = (nx i).length := by omega
        subst hm2
        rw [List.take_length]
        have hput := fun h => (hA h).1.put (hrank h).2 hr
        have hsame := fun h => (hA h).1.same (t := t) hr
        have hbi := hbd i hr
        have hyb : ∀ v, Rch nx v -> mx best (nx i) + 1 <= l.length -> upd best i (mx best (nx i) + 1) v <= l.length := fun v hv hle => by
         by_cases h : v = i
         · subst h; rw [Z0b]; exact hle
         · rw [Z08 h]; exact hbd v hv
        have heq : fl = true -> mx best (nx i) + 1 = best i -> Eqn nx best0 i := fun h h3 => by
         unfold Eqn; rw [<- (hfl h).1]; exact h3.symm
        have hbig : Ze2 nx l.length = true -> mx best (nx i) + 1 <= l.length := fun h => by
         have h3 := ZhX (best := best) (l := nx i) (k := rank i) fun w hw => by
          have := (hA h).1.bnd w (.next hr hw)
          have := (hrank h).2 i w hr hw
          omega
         have := (hrank h).1 i hr
         omega
        generalize hM : mx best (nx i) = M at *
        have wM : IntKind.i64.wrap ((M : Int) + 1) = ((M + 1 : Nat) : Int) := Z2n (by omega)
        have hx7 : ∀ off, off = i -> tk 1 ((arr (fun v => AV.int .i64 (best v : Nat)) l.length).drop off) = some [.int .i64 (best i : Nat)] := fun off e => Z7W _ hi e
        by_cases hc : M + 1 <= l.length
        · have e4 : decide (((M + 1 : Nat) : Int) > (l.length : Int)) = false := by simp; omega
          by_cases hq : M + 1 = best i
          · have e5 : (((M + 1 : Nat) : Int) != (best i : Int)) = false := by rw [hq]; simp
            repeat' ((conv => whnf); first | (refine exI hki ?_) | (refine exI (hx7 _ (by omega)) ?_) | (with_reducible refine exW wM ?_) | (with_reducible refine exW wi ?_) | (with_reducible refine ixJ i rfl ?_ ?_; (focus (omega))) | (first | refine stp ?_ | with_reducible refine Z01 (fun h => ?_) (fun h => ?_)))
            conv => whnf
            refine ⟨((i : Int) - 1, best, fl), ⟨by show -1 <= (i : Int) - 1; omega, by show (i : Int) - 1 < _; omega, hbd, fun h => ⟨(hfl h).1, fun v hv hle => ?_⟩, fun h => ⟨?_, (hA h).2⟩⟩, by show ((i : Int) - 1 + 1).toNat < ((i : Int) + 1).toNat; omega, ?_⟩
            · have hle : ((i : Int) - 1 + 1).toNat <= v := hle
              rcases Nat.lt_or_eq_of_le (show i <= v by omega) with h1 | h1
              · exact (hfl h).2 v hv (by omega)
              · subst h1; exact heq h hq
            · have := hput h
              rw [show (((i : Int) - 1, best, fl).1 + 1).toNat = i by show ((i : Int) - 1 + 1).toNat = i; omega]
              rw [show upd best i (M + 1) = best from by
               funext v
               by_cases h : v = i
               · subst h; rw [Z0b, hq]
               · rw [Z08 h]] at this
              exact this
            refine FgL.mk [0, 1] rfl ?_ ⟨⟨rfl, rfl, rfl, rfl, BodyGe.pre (rest := []) rfl rfl⟩, ⟨rfl, rfl, rfl, rfl, BodyGe.pre (rest := []) (by rw [List.append_nil]) (Z1e _ _)⟩, trivial⟩ rfl
            try dsimp only
            (repeat (first | exact trivial | refine stw ?_))
          · have e5 : (((M + 1 : Nat) : Int) != (best i : Int)) = true := by simp; omega
            have hst : ∀ off, off = i -> spl (arr (fun v => AV.int .i64 (best v : Nat)) l.length) off [.int .i64 ((M + 1 : Nat) : Int)] = some (arr (fun v => .int .i64 ((upd best i (M + 1) v : Nat) : Int)) l.length) := fun off e => ZeJ best (M + 1) hi e
            repeat' ((conv => whnf); first | (refine exI hki ?_) | (refine exI (hx7 _ (by omega)) ?_) | (refine exI (hst _ (by omega)) ?_) | (with_reducible refine exW wM ?_) | (with_reducible refine exW wi ?_) | (with_reducible refine ixJ i rfl ?_ ?_; (focus (omega))) | (first | refine stp ?_ | with_reducible refine Z01 (fun h => ?_) (fun h => ?_)))
            conv => whnf
            refine ⟨((i : Int) - 1, upd best i (M + 1), false), ⟨by show -1 <= (i : Int) - 1; omega, by show (i : Int) - 1 < _; omega, fun v hv => hyb v hv hc, fun h => (by cases h), fun h => ⟨?_, fun _ => ?_⟩⟩, by show ((i : Int) - 1 + 1).toNat < ((i : Int) + 1).toNat; omega, ?_⟩
            · have := hput h
              rw [show (((i : Int) - 1, upd best i (M + 1), false).1 + 1).toNat = i by show ((i : Int) - 1 + 1).toNat = i; omega]
              exact this
            · refine Nat.lt_of_not_le fun hle => hq (hsame h ?_)
              have := (hrank h).1 i hr
              omega
            refine FgL.mk [0, 1] rfl ?_ ⟨⟨rfl, rfl, rfl, rfl, BodyGe.pre (rest := []) rfl rfl⟩, ⟨rfl, rfl, rfl, rfl, BodyGe.pre (rest := []) (by rw [List.append_nil]) (Z1e _ _)⟩, trivial⟩ rfl
            try dsimp only
            (repeat (first | exact trivial | refine stw ?_))
        · have e4 : decide (((M + 1 : Nat) : Int) > (l.length : Int)) = true := by simp; omega
          have hR : lnR nx l.length = .tuple [.int .i64 0, .bool false] := by
           unfold lnR
           rw [if_neg (fun h => hc (hbig h))]
          rw [hR]
          repeat' ((conv => whnf); first | (refine exI hki ?_) | (with_reducible refine exW wM ?_) | (with_reducible refine exW wi ?_) | (with_reducible refine ixJ i rfl ?_ ?_; (focus (omega))) | (first | refine stp ?_ | with_reducible refine Z01 (fun h => ?_) (fun h => ?_)))
          all_goals rfl
   · have e2 : decide (k >= 0) = false := by simpa using hk
     have hk0 : (k + 1).toNat = 0 := by omega
     rw [hk0] at hA hfl
     cases fl with
     | true =>
      obtain ⟨rfl, hall⟩ := hfl rfl
      have hall : ∀ v, Rch nx v -> Eqn nx best v := fun v hv => hall v hv (Nat.zero_le _)
      have hac := Zkz hall hbd
      have hR : lnR nx l.length = .tuple [.int .i64 (best 0 : Nat), .bool true] := by
       unfold lnR
       rw [if_pos (Z5I.2 hac), ZlI hac hall]
      rw [hR]
      have hx7 : ∀ off, off = 0 -> tk 1 ((arr (fun v => AV.int .i64 (best v : Nat)) l.length).drop off) = some [.int .i64 (best 0 : Nat)] := fun off e => Z7W _ hp e
      repeat' ((conv => whnf); first | (refine exI (hx7 _ (by omega)) ?_) | (with_reducible refine ixJ 0 rfl ?_ ?_; (focus (omega))) | (first | refine stp ?_ | with_reducible refine Z01 (fun h => ?_) (fun h => ?_)))
      all_goals rfl
     | false =>
      repeat' ((conv => whnf); first | (first | refine stp ?_ | with_reducible refine Z01 (fun h => ?_) (fun h => ?_)))
      conv => whnf
      refine ⟨(t + 1, best), ⟨by show t + 1 <= _; omega, hbd, fun h => ⟨by have := (hA h).2 rfl; show t + 1 <= _; omega, (hA h).1.bnd, (hA h).1.done⟩⟩, by show l.length + 2 - (t + 1) < l.length + 2 - t; omega, ?_⟩
      refine FgL.mk [0, 1] rfl ?_ ⟨⟨rfl, rfl, rfl, rfl, BodyGe.pre (rest := []) rfl rfl⟩, ⟨rfl, rfl, rfl, rfl, BodyGe.pre (rest := []) (by rw [List.append_nil]) (Z1e _ _)⟩, trivial⟩ rfl
      try dsimp only
      (repeat (first | exact trivial | refine stw ?_))
 · have e1 : decide ((t : Int) <= ((l.length + 1 : Nat) : Int)) = false := by simp; omega
   have hR : lnR nx l.length = .tuple [.int .i64 0, .bool false] := by
    unfold lnR
    rw [if_neg (fun h => by have := (hA0 h).1; omega)]
   rw [hR]
   repeat' ((conv => whnf); first | (with_reducible refine exW wl ?_) | (first | refine stp ?_ | with_reducible refine Z01 (fun h => ?_) (fun h => ?_)))
   all_goals rfl
noncomputable def Z0E (c : Cd) : Bool := (Z31 c == 0) && Ze2 (Z2T c.ins) c.ins.length
noncomputable def lgI (c : Cd) : Int := if Z0E c = true then (hgt (Z2T c.ins) : Int) else -1
theorem Zcc (c : Cd) (hok : okC c) (hs : ∀ i ∈ c.ins, ∀ e ∈ i.ex, Z0f e <= 800000) : ValOK Tryz.prog gl 36 [c.av] (.int .i64 (lgI c)) := by
 have hck := Z2s (gl := gl) c hok hs
 by_cases hc : Z31 c = 0
 · have hl := ZeC (gl := gl) c hok hs hc
   rw [hc] at hck
   have hfl : Z0E c = Ze2 (Z2T c.ins) c.ins.length := by unfold Z0E; rw [hc]; rfl
   obtain ⟨O, hO, p1, p2, -⟩ := fams (P := Tryz.prog) (gl := gl) [{ I := Unit, f := 12, G := fun _ => True, A := fun _ => [c.av], R := fun _ => .int .i64 0, body := (by kernel_rfl), inj := fun _ _ _ _ _ => rfl, ok := fun _ _ => ⟨rfl, hck⟩ },
    { I := Unit, f := 59, G := fun _ => True, A := fun _ => [c.av, .bool false], R := fun _ => lnR (Z2T c.ins) c.ins.length, body := (by kernel_rfl), inj := fun _ _ _ _ _ => rfl, ok := fun _ _ => ⟨rfl, hl⟩ }] rfl
   have q1 : ∀ H, Z04 Tryz.prog O H 12 [c.av] = some (.int .i64 0, H) := p1 () trivial
   have q2 : ∀ H, Z04 Tryz.prog O H 59 [c.av, .bool false] = some (lnR (Z2T c.ins) c.ins.length, H) := p2 () trivial
   clear p1 p2 hck hl
   unfold lgI
   rw [hfl]
   unfold lnR at q2
   clear hfl
   generalize Ze2 (Z2T c.ins) c.ins.length = b at *
   generalize hgt (Z2T c.ins) = h at *
   obtain ⟨regs, l⟩ := c
   simp only [Cd.av] at *
   refine Z0a follows Z09 hO Tryz.func36 rfl ?_
   cases b with
   | true =>
    simp only [if_true] at q2 ⊢
    repeat' ((conv => whnf); first | (refine exI (q1 _) ?_) | (refine exI (q2 _) ?_) | (first | refine stp ?_ | with_reducible refine Z01 (fun h => ?_) (fun h => ?_)))
    all_goals rfl
   | false =>
    simp only [Bool.false_eq_true, if_false] at q2 ⊢
    repeat' ((conv => whnf); first | (refine exI (q1 _) ?_) | (refine exI (q2 _) ?_) | (first | refine stp ?_ | with_reducible refine Z01 (fun h => ?_) (fun h => ?_)))
    all_goals rfl
 · obtain ⟨O, hO, p1, -⟩ := fams (P := Tryz.prog) (gl := gl) [{ I := Unit, f := 12, G := fun _ => True, A := fun _ => [c.av], R := fun _ => .int .i64 (Z31 c), body := (by kernel_rfl), inj := fun _ _ _ _ _ => rfl, ok := fun _ _ => ⟨rfl, hck⟩ }] rfl
   have q1 : ∀ H, Z04 Tryz.prog O H 12 [c.av] = some (.int .i64 (Z31 c), H) := p1 () trivial
   clear p1 hck
   have e1 : (Z31 c != 0) = true := by simpa using hc
   have hR : lgI c = -1 := by
    unfold lgI
    rw [if_neg]
    unfold Z0E
    rw [show (Z31 c == 0) = false by simpa using hc]; simp
   rw [hR]
   generalize Z31 c = k at *
   obtain ⟨regs, l⟩ := c
   simp only [Cd.av] at *
   refine Z0a follows Z09 hO Tryz.func36 rfl ?_
   repeat' ((conv => whnf); first | (refine exI (q1 _) ?_) | (first | refine stp ?_ | with_reducible refine Z01 (fun h => ?_) (fun h => ?_)))
   all_goals rfl
theorem Zi3 (c : Cd) : decide (lgI c >= 0) = Z0E c := by
 unfold lgI
 cases Z0E c <;> simp
theorem Z9R (c : Cd) (hok : okC c) (hs : ∀ i ∈ c.ins, ∀ e ∈ i.ex, Z0f e <= 800000) : ValOK Tryz.prog gl 13 [c.av] (.bool (Z0E c)) := by
 have hl := Zcc (gl := gl) c hok hs
 rw [<- Zi3]
 obtain ⟨O, hO, p1, -⟩ := fams (P := Tryz.prog) (gl := gl) [{ I := Unit, f := 36, G := fun _ => True, A := fun _ => [c.av], R := fun _ => .int .i64 (lgI c), body := (by kernel_rfl), inj := fun _ _ _ _ _ => rfl, ok := fun _ _ => ⟨rfl, hl⟩ }] rfl
 have q1 : ∀ H, Z04 Tryz.prog O H 36 [c.av] = some (.int .i64 (lgI c), H) := p1 () trivial
 clear p1 hl
 generalize lgI c = k at *
 obtain ⟨regs, l⟩ := c
 simp only [Cd.av] at *
 refine Z0a follows Z09 hO Tryz.func13 rfl ?_
 repeat' ((conv => whnf); first | (refine exI (q1 _) ?_) | (first | refine stp ?_ | with_reducible refine Z01 (fun h => ?_) (fun h => ?_)))
 all_goals rfl
end Go.Proofs.YteidjbahodbgdaaGreatDoor.lex
end

section
namespace Go.Flat
def dstep (nx : Nat -> List Nat) (s : Ds) : Ds ⊕ Option (List Nat) := match s.path with
 | [] => .inr (some s.l)
 | v :: p => match (nx v)[s.gone v]? with
  | none => .inl (shut s v p)
  | some w => if s.st w = 2 then .inl (past s v) else if s.st w = 1 then .inr none else .inl (deep s v w)
def ZkE (nx : Nat -> List Nat) : Nat -> Ds -> Option (List Nat)
 | 0, _ => none
 | f + 1, s => match dstep nx s with
  | .inl s' => ZkE nx f s'
  | .inr r => r
structure In2 (n : Nat) (nx : Nat -> List Nat) (s : Ds) : Prop where
 inv : Inv n nx s
 two : ∀ v, s.st v <= 2
section
variable {n : Nat} {nx : Nat -> List Nat}
theorem ZaG (h : 0 < n) : In2 n nx start := ⟨Zfo nx h, fun v => by
 show upd (fun _ => 0) 0 1 v <= 2
 by_cases e : v = 0
 · subst e; rw [Z0b]; omega
 · rw [Z08 e]; omega⟩
theorem Z3g (hn : ∀ v, v < n -> ∀ w ∈ nx v, w < n) {s s' : Ds} (h : In2 n nx s) (e : dstep nx s = .inl s') : In2 n nx s' /\ left n nx s' < left n nx s := by
 unfold dstep at e
 cases hp : s.path with
 | nil => rw [hp] at e; cases e
 | cons v p =>
  rw [hp] at e
  simp only at e
  have hv1 : s.st v = 1 := (h.inv.opn v).2 (by rw [hp]; simp)
  have hvn := h.inv.lt v (by omega)
  cases hw : (nx v)[s.gone v]? with
  | none =>
   rw [hw] at e
   cases e
   have hg : s.gone v = (nx v).length := by
    have := h.inv.le v
    have := List.getElem?_eq_none_iff.1 hw
    omega
   refine ⟨⟨ZhH h.inv hp hg, fun u => ?_⟩, Zgb h.inv hp⟩
   show upd s.st v 2 u <= 2
   by_cases e : u = v
   · subst e; rw [Z0b]; omega
   · rw [Z08 e]; exact h.two u
  | some w =>
   rw [hw] at e
   simp only at e
   split at e
   · rename_i h2
     cases e
     exact ⟨⟨ZhN h.inv hp hw h2, h.two⟩, Zgc h.inv hp hw⟩
   · split at e
     · cases e
     · rename_i h2 h1
       cases e
       have h0 : s.st w = 0 := by have := h.two w; omega
       have hwn := hn v hvn w (List.mem_of_getElem? hw)
       refine ⟨⟨Zir h.inv hp hw h0 hwn, fun u => ?_⟩, Zgd h.inv hp hw h0⟩
       show upd s.st w 1 u <= 2
       by_cases e : u = w
       · subst e; rw [Z0b]; omega
       · rw [Z08 e]; exact h.two u
theorem Zbi (hn : ∀ v, v < n -> ∀ w ∈ nx v, w < n) : ∀ (f g : Nat) (s : Ds), In2 n nx s -> left n nx s < f -> left n nx s < g -> ZkE nx f s = ZkE nx g s
 | 0, _, _, _, h, _ => absurd h (Nat.not_lt_zero _)
 | _, 0, _, _, _, h => absurd h (Nat.not_lt_zero _)
 | f + 1, g + 1, s, hs, hf, hg => by
  unfold ZkE
  cases e : dstep nx s with
  | inr r => rfl
  | inl s' =>
   obtain ⟨h1, h2⟩ := Z3g hn hs e
   exact Zbi hn f g s' h1 (by omega) (by omega)
def dfs (n : Nat) (nx : Nat -> List Nat) (s : Ds) : Option (List Nat) := ZkE nx (left n nx s + 1) s
theorem Z71 (hn : ∀ v, v < n -> ∀ w ∈ nx v, w < n) {s s' : Ds} (hs : In2 n nx s) (e : dstep nx s = .inl s') : dfs n nx s = dfs n nx s' := by
 obtain ⟨h1, h2⟩ := Z3g hn hs e
 unfold dfs
 conv => lhs; unfold ZkE
 rw [e]
 exact Zbi hn _ _ s' h1 h2 (Nat.lt_succ_self _)
theorem Za2 {s : Ds} {r : Option (List Nat)} (e : dstep nx s = .inr r) : dfs n nx s = r := by
 unfold dfs ZkE
 rw [e]
theorem ZgM (hn : ∀ v, v < n -> ∀ w ∈ nx v, w < n) : ∀ (k : Nat) (s : Ds), In2 n nx s -> left n nx s < k -> ((dfs n nx s).isSome = true ↔ Acy nx n)
 | 0, _, _, h => absurd h (Nat.not_lt_zero _)
 | k + 1, s, hs, hk => by
  cases e : dstep nx s with
  | inl s' =>
   obtain ⟨h1, h2⟩ := Z3g hn hs e
   rw [Z71 hn hs e]
   exact ZgM hn k s' h1 (by omega)
  | inr r =>
   rw [Za2 e]
   unfold dstep at e
   cases hp : s.path with
   | nil =>
    rw [hp] at e
    cases e
    exact ⟨fun _ => hs.inv.acy hp, fun _ => rfl⟩
   | cons v p =>
    rw [hp] at e
    simp only at e
    cases hw : (nx v)[s.gone v]? with
    | none => rw [hw] at e; cases e
    | some w =>
     rw [hw] at e
     simp only at e
     split at e
     · cases e
     · split at e
       · rename_i h1
         cases e
         exact ⟨fun h => (by cases h), fun h => absurd h (hs.inv.back hp hw h1 n)⟩
       · cases e
theorem In2.paths {s : Ds} (h : In2 n nx s) : s.path.length <= n /\ s.l.length <= n := by
 constructor
 · have := Z5h (b := List.range n) h.inv.nd fun x hx => List.mem_range.2 (h.inv.lt x (by have := (h.inv.opn x).2 hx; omega))
   simpa using this
 · have := Z5h (b := List.range n) h.inv.ndl fun x hx => List.mem_range.2 (h.inv.lt x (by have := (h.inv.cls x).2 hx; omega))
   simpa using this
end
end Go.Flat
end

section
namespace Go.Proofs.YteidjbahodbgdaaGreatDoor.lex
open Go.Abs Go.RowKit Go.Flat
set_option maxRecDepth 100000
set_option maxHeartbeats 4000000
variable {gl : Z0l}
theorem Zk1 (a b : Int) : ValOK Tryz.prog gl 64 [.int .i64 a, .int .i64 b] (.bool false) := by
 refine Z0a follows Z09 Z05 Tryz.func64 rfl ?_
 repeat' ((conv => whnf); first | refine stp ?_ | with_reducible refine Z01 (fun h => ?_) (fun h => ?_))
 all_goals rfl
theorem Zly (n : Nat) (h : n <= 1048576) (H : Z00) : Z17 Tryz.prog 120 (.int .i64 n) (.int .i64 n) H = some (.slice H.length 0 n n 1, Z3a H (Z4u n [.int .u8 0]) 5) := by
 have hz : tsz Tryz.prog 5 = some 1 := by kernel_rfl
 have hb : (Tryz.prog.info? 5).map (·.bytes) = some 1 := by kernel_rfl
 have hu : Z2Q Tryz.prog 5 = some (.int .u8 0) := by kernel_rfl
 exact Zdk Tryz.underlying120 hz hb hu rfl (by decide) n (by omega) (by omega)
theorem Z0S (K : IntKind) (f : Nat -> Nat) (n : Nat) : refsL (arr (fun v => .int K (f v : Nat)) n) [] = [] := Z72 (fun _ => rfl) n
theorem Z6U (K : IntKind) (f : Nat -> Nat) {n k : Nat} (x : Nat) (h : k < n) {off : Nat} (e : off = k) : spl (arr (fun v => AV.int K (f v : Nat)) n) off [.int K (x : Nat)] = some (arr (fun v => .int K ((upd f k x v : Nat) : Int)) n) := by
 rw [Z7U _ _ h e]
 congr 2
 funext v
 by_cases h : v = k
 · subst h; rw [Z0b, Z0b]
 · rw [Z08 h, Z08 h]
theorem ZjZ (l : List Ins) (v : Nat) : (nxL l v).length <= 2 := by
 unfold nxL nxI
 repeat' split
 all_goals simp
theorem Zdy {H : Z00} {n : Nat} {a b a' b' : AV} (h1 : frz H n a = some a') (h2 : frz H n b = some b') : frz H (n + 1) (.tuple [a, b]) = some (.tuple [a', b']) := by
 show (match Z0L (frz H n) [a, b] with | some l => some (AV.tuple l) | none => none) = _
 simp only [Z0L, h1, h2]
def srC (l : List Nat) : List AV := nis l.reverse
def srH (regs : Int) (l : List Ins) (s : Ds) : Z00 :=
 ⟨true, 0, 0, .cells [.int .i64 regs, .rs l.length 6 (inC l)] 24⟩ :: ⟨true, 1, 0, .cells (arr (fun v => .int .u8 (s.st v : Nat)) l.length) 5⟩ :: ⟨true, 2, 0, .cells (arr (fun v => .int .i64 (s.gone v : Nat)) l.length) 3⟩ :: ⟨true, 3, 0, .cells (nis s.path.reverse) 3⟩ :: grB 4 srC 3 s.l
def srR (r : Option (List Nat)) : AV := match r with
 | some l => .tuple [Z8F l.reverse, .bool true]
 | none => .tuple [.nslice, .bool false]
theorem Zfu (c : Cd) (hok : okC c) (hc : Z31 c = 0) : ValOK Tryz.prog gl 63 [c.av, .func (.func 64) [] []] (srR (dfs c.ins.length (nxL c.ins) Flat.start)) := by
 have hg := (Z62 hc).good
 obtain ⟨regs, l⟩ := c
 simp only [Cd.av] at *
 have hp := hg.pos
 have hf := hg.few
 obtain ⟨O, hO, p1, p2, -⟩ := fams (P := Tryz.prog) (gl := gl) [{ I := Int × Int, f := 64, G := fun _ => True, A := fun p => [.int .i64 p.1, .int .i64 p.2], R := fun _ => .bool false, body := (by kernel_rfl), inj := fun _ _ _ _ _ => rfl, ok := fun p _ => ⟨rfl, Zk1 p.1 p.2⟩ },
  { I := Nat, f := 76, G := fun a => a < l.length, A := fun a => [.agg (Z0m (Z0h l a)), .int .i64 a], R := fun a => Z8F (nxL l a), body := (by kernel_rfl), inj := (fun i j _ _ h => by simp only [List.cons.injEq, AV.int.injEq, and_true, true_and] at h; rw [show i = j by omega]), ok := fun a ha => ⟨rfl, Zb7 (Z0h l a) a (hg.to a ha) (by omega)⟩ }] rfl
 have q1 : ∀ a b H, Z04 Tryz.prog O H 64 [.int .i64 a, .int .i64 b] = some (.bool false, H) := fun a b H => p1 (a, b) trivial H
 have q2 : ∀ a, a < l.length -> ∀ H, Z04 Tryz.prog O H 76 [.agg (Z0m (Z0h l a)), .int .i64 a] = some (Z8F (nxL l a), H) := p2
 clear p1 p2
 have hm1 := Zly l.length (by omega)
 have hm2 := ZiZ l.length (by omega)
 have hT : Z74 Tryz.prog 39 39 = some (3, 1, 8) := by kernel_rfl
 have hz : ∀ off, off = 0 -> spl (Z4u l.length [AV.int .u8 0]) off [.int .u8 1] = some (arr (fun v => .int .u8 ((upd (fun _ => 0) 0 1 v : Nat) : Int)) l.length) := fun off e => by
  rw [Z5c]; exact Z6U .u8 (fun _ => 0) 1 hp e
 have hnx : ∀ v, v < l.length -> ∀ w ∈ nxL l v, w < l.length := hg.nx
 have h6 : ∀ v, v < l.length -> tk 6 ((inC l).drop (v * 6)) = some (Z0m (Z0h l v)) := fun v hv => by rw [Z2V hv]; exact in6 l v hv
 simp only [Z8F] at q2
 have nx2 : ∀ v, (nxL l v).length <= 2 := ZjZ l
 clear hok hc hg
 generalize hnn : nxL l = nx at *
 clear hnn
 refine Z5Y follows Z09 hO Tryz.func63 rfl ?_
 repeat' ((conv => whnf); first | (refine exI (hm1 _) ?_) | (refine exI (hm2 _) ?_) | (refine exI (hz _ rfl) ?_) | (with_reducible refine ixJ 0 rfl ?_ ?_; (focus (omega))) | (first | refine stp ?_ | with_reducible refine Z01 (fun h => ?_) (fun h => ?_)))
 conv => whnf
 refine ⟨Ds, (fun s => In2 l.length nx s /\ dfs l.length nx s = dfs l.length nx Flat.start), (fun s => [(1, .func (.func 64) [] []), (2, .ptr 0 0), (6, .slice 1 0 l.length l.length 1), (7, .slice 2 0 l.length l.length 1), (8, grA 4 1 s.l), (9, .slice 3 0 s.path.length s.path.length 1)]), (fun s => srH regs l s), (fun s => left l.length nx s), ⟨Flat.start, ⟨ZaG hp, rfl⟩, ?_⟩, ?_⟩
 · refine FgL.mk [0, 1, 2, 3] rfl ?_ ⟨⟨rfl, rfl, rfl, rfl, BodyGe.pre (rest := []) rfl rfl⟩, ⟨rfl, rfl, rfl, rfl, BodyGe.pre (rest := []) (by rw [List.append_nil]; rfl) (Z0S .u8 _ _)⟩, ⟨rfl, rfl, rfl, rfl, BodyGe.pre (rest := []) (by rw [List.append_nil]; exact Z5c _ _) (Z0S .i64 (fun _ => 0) _)⟩, ⟨rfl, rfl, rfl, rfl, BodyGe.pre (rest := []) rfl rfl⟩, trivial⟩ rfl
   simp only [Flat.start, List.length_cons, List.length_nil, grA]
   (repeat (first | exact trivial | refine stw ?_))
 rintro s ⟨hI, hR⟩
 rw [<- hR]
 clear hR
 have hps := hI.paths
 obtain ⟨st, gone, path, cl⟩ := s
 dsimp only at hps
 try dsimp only
 cases path with
 | nil =>
  rw [Za2 (r := some cl) rfl]
  cases cl with
  | nil =>
   have h0 := (hI.inv.cls 0).1 (hI.inv.zero rfl)
   cases h0
  | cons x cl =>
   rw [show srR (some (x :: cl)) = .tuple [.rs (cl.length + 1) 1 (nis (x :: cl).reverse), .bool true] from by simp [srR, Z8F]]
   simp only [srH, grB, grA, srC, List.length_nil]
   repeat' ((conv => whnf); first | refine stp ?_ | with_reducible refine Z01 (fun h => ?_) (fun h => ?_))
   all_goals (conv => whnf)
   all_goals exact ⟨_, Zdy (n := 29) (Z02 (n := 27) (b := 4) rfl (by rw [Z3V]; simp) (Zdd _)) rfl, .inl rfl⟩
 | cons v p =>
  have hv1 : st v = 1 := (hI.inv.opn v).2 (by simp)
  have hv : v < l.length := hI.inv.lt v (by show st v ≠ 0; omega)
  have hlp : p.length + 1 <= l.length := hps.1
  have e1 : decide (((p.length + 1 : Nat) : Int) > 0) = true := by simp <;> omega
  have w1 : IntKind.i64.wrap (((p.length + 1 : Nat) : Int) - 1) = (p.length : Int) := by rw [Z4X (by omega) (by omega)]; omega
  have hx9 : ∀ off, off = p.length -> tk 1 ((nis (p.reverse ++ [v])).drop off) = some [.int .i64 v] := fun off e => by
   have := ZaW (p.reverse ++ [v]) (k := p.length) (by simp) e
   rw [this]; simp
  have h6v := h6 v hv
  have q2v := q2 v hv
  simp only [Z0m, exA] at h6v q2v
  have hnv := hnx v hv
  have hx7 : ∀ off, off = v -> tk 1 ((arr (fun v => AV.int .i64 (gone v : Nat)) l.length).drop off) = some [.int .i64 (gone v : Nat)] := fun off e => Z7W _ hv e
  have hpl := Z3V p.reverse
  rw [List.length_reverse] at hpl
  have hpv := Z3V (p.reverse ++ [v])
  rw [List.length_append, List.length_reverse, List.length_cons, List.length_nil] at hpv
  have hpo := Z5S (p.reverse ++ [v])
  have hcln := hps.2
  clear h6 q2 hm1 hm2 hz
  generalize Z0h l v = iv at *
  obtain ⟨ik, ir, il, io, it, ix⟩ := iv
  by_cases hge : gone v = (nx v).length
  · have e2 : ((gone v : Int) == ((nx v).length : Int)) = true := by simp [hge]
    have hd : Flat.dstep nx ⟨st, gone, v :: p, cl⟩ = .inl (Flat.shut ⟨st, gone, v :: p, cl⟩ v p) := by
     simp only [Flat.dstep, List.getElem?_eq_none (show (nx v).length <= gone v by omega)]
    have hnxt := Z3g hnx hI hd
    rw [Z71 hnx hI hd]
    have hs6 : ∀ off, off = v -> spl (arr (fun v => AV.int .u8 (st v : Nat)) l.length) off [.int .u8 2] = some (arr (fun u => .int .u8 ((upd st v 2 u : Nat) : Int)) l.length) := fun off e => Z6U .u8 st 2 hv e
    simp only [srH, List.length_cons, List.reverse_cons] at *
    clear hI hd
    cases cl with
    | nil =>
     simp only [srH, grB, grA]
     repeat' ((conv => whnf); first | (refine exI (hx9 _ (by omega)) ?_) | (refine exI h6v ?_) | (refine exI (q2v _) ?_) | (refine exI (hx7 _ (by omega)) ?_) | (with_reducible refine exW w1 ?_) | (with_reducible refine ixJ p.length rfl ?_ ?_; (focus (omega))) | (with_reducible refine ZbM p.length rfl ?_ ?_; (focus (omega))) | (with_reducible refine ixJ v rfl ?_ ?_; (focus (omega))) | (refine exI (hs6 _ (by omega)) ?_) | (refine apS ?_) | (first | refine stp ?_ | with_reducible refine Z01 (fun h => ?_) (fun h => ?_)))
     conv => whnf
     refine ⟨_, ⟨hnxt.1, rfl⟩, hnxt.2, ?_⟩
     refine FgL.mk [0, 1, 2, 3, 5] rfl ?_ ⟨⟨rfl, rfl, rfl, rfl, BodyGe.pre (rest := []) rfl rfl⟩, ⟨rfl, rfl, rfl, rfl, BodyGe.pre (rest := []) (by rw [List.append_nil] <;> rfl) (Z0S .u8 _ _)⟩, ⟨rfl, rfl, rfl, rfl, BodyGe.pre (rest := []) (by rw [List.append_nil] <;> rfl) (Z0S .i64 _ _)⟩, ⟨rfl, rfl, rfl, rfl, BodyGe.pre (rest := [.int .i64 v]) (Z9z _ _) (Z1n _)⟩, ⟨rfl, rfl, rfl, rfl, BodyGe.pre (rest := []) rfl rfl⟩, trivial⟩ rfl
     simp only [Flat.shut, grA, List.length_cons, List.length_nil]
     (repeat (first | exact trivial | refine stw ?_))
    | cons x cl =>
     simp only [srH, grB, grA, srC, List.length_cons] at *
     have hcl := Z3V (x :: cl).reverse
     rw [List.length_reverse, List.length_cons] at hcl
     have hon := Z5S (x :: cl).reverse
     repeat' ((conv => whnf); first | (refine exI (hx9 _ (by omega)) ?_) | (refine exI h6v ?_) | (refine exI (q2v _) ?_) | (refine exI (hx7 _ (by omega)) ?_) | (with_reducible refine exW w1 ?_) | (with_reducible refine ixJ p.length rfl ?_ ?_; (focus (omega))) | (with_reducible refine ZbM p.length rfl ?_ ?_; (focus (omega))) | (with_reducible refine ixJ v rfl ?_ ?_; (focus (omega))) | (refine exI (hs6 _ (by omega)) ?_) | (refine apS ?_) | (first | refine stp ?_ | with_reducible refine Z01 (fun h => ?_) (fun h => ?_)))
     conv => whnf
     refine ⟨_, ⟨hnxt.1, rfl⟩, hnxt.2, ?_⟩
     refine FgL.mk [0, 1, 2, 3, 6] rfl ?_ ⟨⟨rfl, rfl, rfl, rfl, BodyGe.pre (rest := []) rfl rfl⟩, ⟨rfl, rfl, rfl, rfl, BodyGe.pre (rest := []) (by rw [List.append_nil] <;> rfl) (Z0S .u8 _ _)⟩, ⟨rfl, rfl, rfl, rfl, BodyGe.pre (rest := []) (by rw [List.append_nil] <;> rfl) (Z0S .i64 _ _)⟩, ⟨rfl, rfl, rfl, rfl, BodyGe.pre (rest := [.int .i64 v]) (Z9z _ _) (Z1n _)⟩, ⟨rfl, rfl, rfl, rfl, BodyGe.pre (rest := []) (by rw [List.append_nil]; simp [srC, nis, Flat.shut]) (Z1n _)⟩, trivial⟩ rfl
     simp only [Flat.shut, grA, List.length_cons, List.length_nil]
     (repeat (first | exact trivial | refine stw ?_))
  · have hgl : gone v < (nx v).length := by have := hI.inv.le v; have : gone v <= (nx v).length := this; omega
    have e2 : ((gone v : Int) == ((nx v).length : Int)) = false := by simp; omega
    have hw : (nx v)[gone v]? = some (nx v)[gone v] := List.getElem?_eq_getElem hgl
    have hwl := hnv _ (List.getElem_mem hgl)
    have hx11 : ∀ off, off = gone v -> tk 1 ((nis (nx v)).drop off) = some [.int .i64 ((nx v)[gone v] : Nat)] := fun off e => ZaW (nx v) hgl e
    have wg : IntKind.i64.wrap ((gone v : Int) + 1) = ((gone v + 1 : Nat) : Int) := by
     have h2 := nx2 v
     exact Z2n (by omega)
    have hs7 : ∀ off, off = v -> spl (arr (fun v => AV.int .i64 (gone v : Nat)) l.length) off [.int .i64 ((gone v + 1 : Nat) : Int)] = some (arr (fun u => .int .i64 ((upd gone v (gone v + 1) u : Nat) : Int)) l.length) := fun off e => Z6U .i64 gone _ hv e
    generalize (nx v)[gone v] = w at *
    have hx6 : ∀ off, off = w -> tk 1 ((arr (fun v => AV.int .u8 (st v : Nat)) l.length).drop off) = some [.int .u8 (st w : Nat)] := fun off e => Z7W _ hwl e
    by_cases h2 : st w = 2
    · have e3 : ((st w : Int) == 2) = true := by simp [h2]
      have hd : Flat.dstep nx ⟨st, gone, v :: p, cl⟩ = .inl (Flat.past ⟨st, gone, v :: p, cl⟩ v) := by
       simp only [Flat.dstep, hw, if_pos h2]
      have hnxt := Z3g hnx hI hd
      rw [Z71 hnx hI hd]
      simp only [srH, List.length_cons, List.reverse_cons] at *
      clear hI hd
      cases cl with
      | nil =>
       simp only [srH, grB, grA]
       repeat' ((conv => whnf); first | (refine exI (hx9 _ (by omega)) ?_) | (refine exI h6v ?_) | (refine exI (q2v _) ?_) | (refine exI (hx7 _ (by omega)) ?_) | (with_reducible refine exW w1 ?_) | (with_reducible refine ixJ p.length rfl ?_ ?_; (focus (omega))) | (with_reducible refine ZbM p.length rfl ?_ ?_; (focus (omega))) | (with_reducible refine ixJ v rfl ?_ ?_; (focus (omega))) | (refine exI (hx11 _ (by omega)) ?_) | (refine exI (hs7 _ (by omega)) ?_) | (refine exI (hx6 _ (by omega)) ?_) | (refine exI (q1 _ _ _) ?_) | (with_reducible refine exW wg ?_) | (with_reducible refine ixJ w rfl ?_ ?_; (focus (omega))) | (with_reducible refine ixJ (gone v) rfl ?_ ?_; (focus (omega))) | (first | refine stp ?_ | with_reducible refine Z01 (fun h => ?_) (fun h => ?_)))
       conv => whnf
       refine ⟨_, ⟨hnxt.1, rfl⟩, hnxt.2, ?_⟩
       refine FgL.mk [0, 1, 2, 3] rfl ?_ ⟨⟨rfl, rfl, rfl, rfl, BodyGe.pre (rest := []) rfl rfl⟩, ⟨rfl, rfl, rfl, rfl, BodyGe.pre (rest := []) (by rw [List.append_nil] <;> rfl) (Z0S .u8 _ _)⟩, ⟨rfl, rfl, rfl, rfl, BodyGe.pre (rest := []) (by rw [List.append_nil] <;> rfl) (Z0S .i64 _ _)⟩, ⟨rfl, rfl, rfl, rfl, BodyGe.pre (rest := []) (by rw [List.append_nil]; simp [nis, Flat.past]) (Z1n _)⟩, trivial⟩ rfl
       simp only [Flat.past, grA, List.length_cons, List.length_nil]
       (repeat (first | exact trivial | refine stw ?_))
      | cons x cl =>
       simp only [srH, grB, grA, srC, List.length_cons] at *
       have hcl := Z3V (x :: cl).reverse
       rw [List.length_reverse, List.length_cons] at hcl
       have hon := Z5S (x :: cl).reverse
       repeat' ((conv => whnf); first | (refine exI (hx9 _ (by omega)) ?_) | (refine exI h6v ?_) | (refine exI (q2v _) ?_) | (refine exI (hx7 _ (by omega)) ?_) | (with_reducible refine exW w1 ?_) | (with_reducible refine ixJ p.length rfl ?_ ?_; (focus (omega))) | (with_reducible refine ZbM p.length rfl ?_ ?_; (focus (omega))) | (with_reducible refine ixJ v rfl ?_ ?_; (focus (omega))) | (refine exI (hx11 _ (by omega)) ?_) | (refine exI (hs7 _ (by omega)) ?_) | (refine exI (hx6 _ (by omega)) ?_) | (refine exI (q1 _ _ _) ?_) | (with_reducible refine exW wg ?_) | (with_reducible refine ixJ w rfl ?_ ?_; (focus (omega))) | (with_reducible refine ixJ (gone v) rfl ?_ ?_; (focus (omega))) | (first | refine stp ?_ | with_reducible refine Z01 (fun h => ?_) (fun h => ?_)))
       conv => whnf
       refine ⟨_, ⟨hnxt.1, rfl⟩, hnxt.2, ?_⟩
       refine FgL.mk [0, 1, 2, 3, 4] rfl ?_ ⟨⟨rfl, rfl, rfl, rfl, BodyGe.pre (rest := []) rfl rfl⟩, ⟨rfl, rfl, rfl, rfl, BodyGe.pre (rest := []) (by rw [List.append_nil] <;> rfl) (Z0S .u8 _ _)⟩, ⟨rfl, rfl, rfl, rfl, BodyGe.pre (rest := []) (by rw [List.append_nil] <;> rfl) (Z0S .i64 _ _)⟩, ⟨rfl, rfl, rfl, rfl, BodyGe.pre (rest := []) (by rw [List.append_nil]; simp [nis, Flat.past]) (Z1n _)⟩, ⟨rfl, rfl, rfl, rfl, BodyGe.pre (rest := []) (by rw [List.append_nil] <;> simp [srC, nis, Flat.past, Flat.deep]) (Z1n _)⟩, trivial⟩ rfl
       simp only [Flat.past, grA, List.length_cons, List.length_nil]
       (repeat (first | exact trivial | refine stw ?_))
    · have e3 : ((st w : Int) == 2) = false := by simp; omega
      by_cases h1 : st w = 1
      · have e4 : ((st w : Int) == 1) = true := by simp [h1]
        have hd : Flat.dstep nx ⟨st, gone, v :: p, cl⟩ = .inr none := by
         simp only [Flat.dstep, hw, if_neg h2, if_pos h1]
        rw [Za2 hd]
        simp only [srH, srR, List.length_cons, List.reverse_cons] at *
        clear hI hd
        cases cl with
        | nil =>
         simp only [srH, grB, grA]
         repeat' ((conv => whnf); first | (refine exI (hx9 _ (by omega)) ?_) | (refine exI h6v ?_) | (refine exI (q2v _) ?_) | (refine exI (hx7 _ (by omega)) ?_) | (with_reducible refine exW w1 ?_) | (with_reducible refine ixJ p.length rfl ?_ ?_; (focus (omega))) | (with_reducible refine ZbM p.length rfl ?_ ?_; (focus (omega))) | (with_reducible refine ixJ v rfl ?_ ?_; (focus (omega))) | (refine exI (hx11 _ (by omega)) ?_) | (refine exI (hs7 _ (by omega)) ?_) | (refine exI (hx6 _ (by omega)) ?_) | (refine exI (q1 _ _ _) ?_) | (with_reducible refine exW wg ?_) | (with_reducible refine ixJ w rfl ?_ ?_; (focus (omega))) | (with_reducible refine ixJ (gone v) rfl ?_ ?_; (focus (omega))) | (first | refine stp ?_ | with_reducible refine Z01 (fun h => ?_) (fun h => ?_)))
         all_goals exact .inl rfl
        | cons x cl =>
         simp only [srH, grB, grA, srC, List.length_cons] at *
         have hcl := Z3V (x :: cl).reverse
         rw [List.length_reverse, List.length_cons] at hcl
         have hon := Z5S (x :: cl).reverse
         repeat' ((conv => whnf); first | (refine exI (hx9 _ (by omega)) ?_) | (refine exI h6v ?_) | (refine exI (q2v _) ?_) | (refine exI (hx7 _ (by omega)) ?_) | (with_reducible refine exW w1 ?_) | (with_reducible refine ixJ p.length rfl ?_ ?_; (focus (omega))) | (with_reducible refine ZbM p.length rfl ?_ ?_; (focus (omega))) | (with_reducible refine ixJ v rfl ?_ ?_; (focus (omega))) | (refine exI (hx11 _ (by omega)) ?_) | (refine exI (hs7 _ (by omega)) ?_) | (refine exI (hx6 _ (by omega)) ?_) | (refine exI (q1 _ _ _) ?_) | (with_reducible refine exW wg ?_) | (with_reducible refine ixJ w rfl ?_ ?_; (focus (omega))) | (with_reducible refine ixJ (gone v) rfl ?_ ?_; (focus (omega))) | (first | refine stp ?_ | with_reducible refine Z01 (fun h => ?_) (fun h => ?_)))
         all_goals exact .inl rfl
      · have e4 : ((st w : Int) == 1) = false := by simp; omega
        have hd : Flat.dstep nx ⟨st, gone, v :: p, cl⟩ = .inl (Flat.deep ⟨st, gone, v :: p, cl⟩ v w) := by
         simp only [Flat.dstep, hw, if_neg h2, if_neg h1]
        have hnxt := Z3g hnx hI hd
        rw [Z71 hnx hI hd]
        have hs6 : ∀ off, off = w -> spl (arr (fun v => AV.int .u8 (st v : Nat)) l.length) off [.int .u8 1] = some (arr (fun u => .int .u8 ((upd st w 1 u : Nat) : Int)) l.length) := fun off e => Z6U .u8 st 1 hwl e
        simp only [srH, List.length_cons, List.reverse_cons] at *
        clear hI hd
        cases cl with
        | nil =>
         simp only [srH, grB, grA]
         repeat' ((conv => whnf); first | (refine exI (hx9 _ (by omega)) ?_) | (refine exI h6v ?_) | (refine exI (q2v _) ?_) | (refine exI (hx7 _ (by omega)) ?_) | (with_reducible refine exW w1 ?_) | (with_reducible refine ixJ p.length rfl ?_ ?_; (focus (omega))) | (with_reducible refine ZbM p.length rfl ?_ ?_; (focus (omega))) | (with_reducible refine ixJ v rfl ?_ ?_; (focus (omega))) | (refine exI (hx11 _ (by omega)) ?_) | (refine exI (hs7 _ (by omega)) ?_) | (refine exI (hx6 _ (by omega)) ?_) | (refine exI (q1 _ _ _) ?_) | (with_reducible refine exW wg ?_) | (with_reducible refine ixJ w rfl ?_ ?_; (focus (omega))) | (with_reducible refine ixJ (gone v) rfl ?_ ?_; (focus (omega))) | (refine exI (hs6 _ (by omega)) ?_) | (refine apS ?_) | (first | refine stp ?_ | with_reducible refine Z01 (fun h => ?_) (fun h => ?_)))
         conv => whnf
         refine ⟨_, ⟨hnxt.1, rfl⟩, hnxt.2, ?_⟩
         refine FgL.mk [0, 1, 2, 5] rfl ?_ ⟨⟨rfl, rfl, rfl, rfl, BodyGe.pre (rest := []) rfl rfl⟩, ⟨rfl, rfl, rfl, rfl, BodyGe.pre (rest := []) (by rw [List.append_nil] <;> rfl) (Z0S .u8 _ _)⟩, ⟨rfl, rfl, rfl, rfl, BodyGe.pre (rest := []) (by rw [List.append_nil] <;> rfl) (Z0S .i64 _ _)⟩, ⟨rfl, rfl, rfl, rfl, BodyGe.pre (rest := []) (by rw [List.append_nil]; simp [nis, Flat.deep]) (Z1n _)⟩, trivial⟩ rfl
         simp only [Flat.deep, grA, List.length_cons, List.length_nil]
         (repeat (first | exact trivial | refine stw ?_))
        | cons x cl =>
         simp only [srH, grB, grA, srC, List.length_cons] at *
         have hcl := Z3V (x :: cl).reverse
         rw [List.length_reverse, List.length_cons] at hcl
         have hon := Z5S (x :: cl).reverse
         repeat' ((conv => whnf); first | (refine exI (hx9 _ (by omega)) ?_) | (refine exI h6v ?_) | (refine exI (q2v _) ?_) | (refine exI (hx7 _ (by omega)) ?_) | (with_reducible refine exW w1 ?_) | (with_reducible refine ixJ p.length rfl ?_ ?_; (focus (omega))) | (with_reducible refine ZbM p.length rfl ?_ ?_; (focus (omega))) | (with_reducible refine ixJ v rfl ?_ ?_; (focus (omega))) | (refine exI (hx11 _ (by omega)) ?_) | (refine exI (hs7 _ (by omega)) ?_) | (refine exI (hx6 _ (by omega)) ?_) | (refine exI (q1 _ _ _) ?_) | (with_reducible refine exW wg ?_) | (with_reducible refine ixJ w rfl ?_ ?_; (focus (omega))) | (with_reducible refine ixJ (gone v) rfl ?_ ?_; (focus (omega))) | (refine exI (hs6 _ (by omega)) ?_) | (refine apS ?_) | (first | refine stp ?_ | with_reducible refine Z01 (fun h => ?_) (fun h => ?_)))
         conv => whnf
         refine ⟨_, ⟨hnxt.1, rfl⟩, hnxt.2, ?_⟩
         refine FgL.mk [0, 1, 2, 6, 4] rfl ?_ ⟨⟨rfl, rfl, rfl, rfl, BodyGe.pre (rest := []) rfl rfl⟩, ⟨rfl, rfl, rfl, rfl, BodyGe.pre (rest := []) (by rw [List.append_nil] <;> rfl) (Z0S .u8 _ _)⟩, ⟨rfl, rfl, rfl, rfl, BodyGe.pre (rest := []) (by rw [List.append_nil] <;> rfl) (Z0S .i64 _ _)⟩, ⟨rfl, rfl, rfl, rfl, BodyGe.pre (rest := []) (by rw [List.append_nil]; simp [nis, Flat.deep]) (Z1n _)⟩, ⟨rfl, rfl, rfl, rfl, BodyGe.pre (rest := []) (by rw [List.append_nil] <;> simp [srC, nis, Flat.past, Flat.deep]) (Z1n _)⟩, trivial⟩ rfl
         simp only [Flat.deep, grA, List.length_cons, List.length_nil]
         (repeat (first | exact trivial | refine stw ?_))
end Go.Proofs.YteidjbahodbgdaaGreatDoor.lex
end

section
namespace Go.Proofs.YteidjbahodbgdaaGreatDoor.lex
open Go.Abs Go.RowKit Go.Flat
set_option maxRecDepth 100000
set_option maxHeartbeats 4000000
theorem Ziq {c : Cd} (hc : Z31 c = 0) : (dfs c.ins.length (nxL c.ins) Flat.start).isSome = Z0E c := by
 have hg := (Z62 hc).good
 have h1 := ZgM hg.nx _ Flat.start (ZaG hg.pos) (Nat.lt_succ_self _)
 have h2 : Ze2 (Z2T c.ins) c.ins.length = true ↔ Acy (nxL c.ins) c.ins.length := by
  rw [Z5I]
  exact ⟨Z89 (Z4c _), Z89 fun v w => (Z4c _ v w).symm⟩
 have h3 : Z0E c = Ze2 (Z2T c.ins) c.ins.length := by unfold Z0E; rw [hc]; rfl
 rw [h3, Bool.eq_iff_iff, h1, h2]
theorem Zif (c : Cd) (hok : okC c) : ValOK Tryz.prog runLives.gl 46 [c.av] (.bool (Z0E c)) := by
 have hck := Z8I c hok
 by_cases hc : Z31 c = 0
 · have hl := Zfu (gl := runLives.gl) c hok hc
   rw [<- Ziq hc]
   rw [hc] at hck
   generalize dfs c.ins.length (nxL c.ins) Flat.start = r at *
   obtain ⟨O, hO, p1, p2, -⟩ := fams (P := Tryz.prog) (gl := runLives.gl) [{ I := Unit, f := 47, G := fun _ => True, A := fun _ => [c.av], R := fun _ => .int .i64 0, body := (by kernel_rfl), inj := fun _ _ _ _ _ => rfl, ok := fun _ _ => ⟨rfl, hck⟩ },
    { I := Unit, f := 63, G := fun _ => True, A := fun _ => [c.av, .func (.func 64) [] []], R := fun _ => srR r, body := (by kernel_rfl), inj := fun _ _ _ _ _ => rfl, ok := fun _ _ => ⟨rfl, hl⟩ }] rfl
   have q1 : ∀ H, Z04 Tryz.prog O H 47 [c.av] = some (.int .i64 0, H) := p1 () trivial
   have q2 : ∀ H, Z04 Tryz.prog O H 63 [c.av, .func (.func 64) [] []] = some (srR r, H) := p2 () trivial
   clear p1 p2 hck hl
   obtain ⟨regs, l⟩ := c
   simp only [Cd.av] at *
   refine Z0a follows Z09 hO Tryz.func46 rfl ?_
   cases r with
   | some L =>
    simp only [srR, Z8F] at q2
    repeat' ((conv => whnf); first | (refine exI (q1 _) ?_) | (refine exI (q2 _) ?_) | (first | refine stp ?_ | with_reducible refine Z01 (fun h => ?_) (fun h => ?_)))
    all_goals rfl
   | none =>
    simp only [srR] at q2
    repeat' ((conv => whnf); first | (refine exI (q1 _) ?_) | (refine exI (q2 _) ?_) | (first | refine stp ?_ | with_reducible refine Z01 (fun h => ?_) (fun h => ?_)))
    all_goals rfl
 · obtain ⟨O, hO, p1, -⟩ := fams (P := Tryz.prog) (gl := runLives.gl) [{ I := Unit, f := 47, G := fun _ => True, A := fun _ => [c.av], R := fun _ => .int .i64 (Z31 c), body := (by kernel_rfl), inj := fun _ _ _ _ _ => rfl, ok := fun _ _ => ⟨rfl, hck⟩ }] rfl
   have q1 : ∀ H, Z04 Tryz.prog O H 47 [c.av] = some (.int .i64 (Z31 c), H) := p1 () trivial
   clear p1 hck
   have e1 : (Z31 c != 0) = true := by simpa using hc
   have hR : Z0E c = false := by unfold Z0E; rw [show (Z31 c == 0) = false by simpa using hc]; rfl
   rw [hR]
   generalize Z31 c = k at *
   obtain ⟨regs, l⟩ := c
   simp only [Cd.av] at *
   refine Z0a follows Z09 hO Tryz.func46 rfl ?_
   repeat' ((conv => whnf); first | (refine exI (q1 _) ?_) | (first | refine stp ?_ | with_reducible refine Z01 (fun h => ?_) (fun h => ?_)))
   all_goals rfl
noncomputable def Z1y (c : Cd) : Int := if Z0E c = true then 0 else if Z31 c = 0 then 2 else Z31 c
theorem Z15 {c : Cd} : Z1y c = 0 ↔ Z0E c = true := by
 unfold Z1y
 cases h : Z0E c with
 | true => simp
 | false =>
  simp only [Bool.false_eq_true, if_false, iff_false]
  split
  · decide
  · assumption
theorem Z1Z {c : Cd} (h : Z0E c = true) : Z31 c = 0 := by
 unfold Z0E at h
 simp only [Bool.and_eq_true, beq_iff_eq] at h
 exact h.1
theorem Z5z (c : Cd) (hok : okC c) : ValOK Tryz.prog runLives.gl 29 [c.av] (.int .i64 (Z1y c)) := by
 obtain ⟨O, hO, p1, p2, -⟩ := fams (P := Tryz.prog) (gl := runLives.gl) [{ I := Unit, f := 47, G := fun _ => True, A := fun _ => [c.av], R := fun _ => .int .i64 (Z31 c), body := (by kernel_rfl), inj := fun _ _ _ _ _ => rfl, ok := fun _ _ => ⟨rfl, Z8I c hok⟩ },
  { I := Unit, f := 46, G := fun _ => True, A := fun _ => [c.av], R := fun _ => .bool (Z0E c), body := (by kernel_rfl), inj := fun _ _ _ _ _ => rfl, ok := fun _ _ => ⟨rfl, Zif c hok⟩ }] rfl
 have q1 : ∀ H, Z04 Tryz.prog O H 47 [c.av] = some (.int .i64 (Z31 c), H) := p1 () trivial
 have q2 : ∀ H, Z04 Tryz.prog O H 46 [c.av] = some (.bool (Z0E c), H) := p2 () trivial
 clear p1 p2
 unfold Z1y
 generalize Z0E c = b at *
 generalize Z31 c = k at *
 obtain ⟨regs, l⟩ := c
 simp only [Cd.av] at *
 refine Z0a follows Z09 hO Tryz.func29 rfl ?_
 cases b with
 | true =>
  repeat' ((conv => whnf); first | (refine exI (q2 _) ?_) | (first | refine stp ?_ | with_reducible refine Z01 (fun h => ?_) (fun h => ?_)))
  all_goals rfl
 | false =>
  by_cases hk : k = 0
  · subst hk
    repeat' ((conv => whnf); first | (refine exI (q1 _) ?_) | (refine exI (q2 _) ?_) | (first | refine stp ?_ | with_reducible refine Z01 (fun h => ?_) (fun h => ?_)))
    all_goals rfl
  · have e1 : (k != 0) = true := by simpa using hk
    simp only [Bool.false_eq_true, if_false, if_neg hk]
    repeat' ((conv => whnf); first | (refine exI (q1 _) ?_) | (refine exI (q2 _) ?_) | (first | refine stp ?_ | with_reducible refine Z01 (fun h => ?_) (fun h => ?_)))
    all_goals rfl
end Go.Proofs.YteidjbahodbgdaaGreatDoor.lex
end

section
namespace Go.Abs
open Go.RowKit
open Classical in
theorem Z7B {P : Program} {gl : Z0l} {I : Type} {f0 : Nat} {G : I -> Prop} {A : I -> List AV} {R : I -> AV} (hr : ∀ i, G i -> plain (R i) = true) (hi : ∀ i j, G i -> G j -> A i = A j -> R i = R j) (hv : ∀ i, G i -> ValOK P gl f0 (A i) (R i)) (hb : Z0C P f0 = true) {O : Orc} (hO : Z06 P gl O) :
  ∃ O', Z06 P gl O' /\ (∀ i, G i -> ∀ H args, Z0L (frz H 30) args = some (A i) -> Z04 P O' H f0 args = some (R i, H)) /\ ∀ g, g ≠ f0 -> ∀ args H, Z04 P O' H g args = Z04 P O H g args := by
 have hz : Z06 P gl (Z5P fun f args => if h : ∃ i, f = f0 /\ G i /\ A i = args then some (R (Classical.choose h)) else none) := Z1m fun f args r h => by
  split at h
  · rename_i e
    have hsp := Classical.choose_spec e
    cases h
    generalize Classical.choose e = i at *
    obtain ⟨e1, e2, e3⟩ := hsp
    have := hv _ e2
    rw [e3] at this
    exact ⟨hr _ e2, by rw [e1]; exact this⟩
  · cases h
 refine ⟨Z1v (Z5P fun f args => if h : ∃ i, f = f0 /\ G i /\ A i = args then some (R (Classical.choose h)) else none) O, Z1z hz hO, fun i gi H args ha => Z4M hb (Zis hb ha ?_), fun g hg args H => ?_⟩
 · have h : ∃ j, f0 = f0 /\ G j /\ A j = A i := ⟨i, rfl, gi, rfl⟩
   rw [dif_pos h]
   obtain ⟨e1, e2, e3⟩ := Classical.choose_spec h
   rw [hi _ _ e2 gi e3]
 · unfold Z04
   have h1 : Z1v (Z5P fun f args => if h : ∃ i, f = f0 /\ G i /\ A i = args then some (R (Classical.choose h)) else none) O g = O g := by
    funext args H
    unfold Z1v Z5P
    cases Z0L (frz H 30) args with
    | none => rfl
    | some fa => simp only; rw [dif_neg (fun ⟨_, h, _⟩ => hg h)]
   have hy : yl (Z1v (Z5P fun f args => if h : ∃ i, f = f0 /\ G i /\ A i = args then some (R (Classical.choose h)) else none) O) H g args = yl O H g args := by unfold yl; simp only [h1]
   rw [h1, hy]
end Go.Abs
end

section
namespace Go.Flat
variable {α : Type} (ev : α -> List Int -> Int) (wr : Int -> Int) (ins : Nat -> In α)
def Zhi (e : Ev) : Bool := e.kind == 1 || e.kind == 3
def reads (l : List Ev) : List Int := (l.filter Zhi).map (·.rd)
theorem Z37 (a b : List Ev) : reads (a ++ b) = reads a ++ reads b := by simp [reads]
theorem Z9g {i : In α} {s t : Th} (h : stp ev i s = .on t) : ∃ l, t.evs = s.evs ++ l /\ reads l = [] := by
 unfold stp at h
 simp only at h
 split at h
 · cases h; exact ⟨[], by simp, rfl⟩
 split at h
 · cases h; exact ⟨_, rfl, rfl⟩
 split at h
 · cases h; exact ⟨_, rfl, rfl⟩
 split at h
 · split at h <;> cases h; exact ⟨[], by simp, rfl⟩
 split at h
 · split at h <;> cases h; exact ⟨[], by simp, rfl⟩
 split at h
 · cases h; exact ⟨[], by simp, rfl⟩
 split at h
 · split at h <;> cases h <;> exact ⟨[], by simp, rfl⟩
 split at h
 · cases h
 split at h
 · cases h
 · cases h
theorem Zjv {i : In α} {s : Th} {e : Int} (h : stp ev i s = .ends e) : e ≠ 0 := by
 unfold stp at h
 simp only at h
 split at h
 · cases h
 split at h
 · cases h
 split at h
 · cases h
 split at h
 · split at h <;> cases h; decide
 split at h
 · split at h <;> cases h; decide
 split at h
 · cases h
 split at h
 · split at h <;> cases h
 split at h
 · cases h; decide
 split at h
 · cases h; decide
 · cases h
theorem Zct : ∀ (f : Nat) (s : Th), ∃ l, (adv ev ins f s).1.evs = s.evs ++ l /\ reads l = []
 | 0, s => ⟨[], by simp [adv], rfl⟩
 | f + 1, s => by
  unfold adv
  cases hst : stp ev (ins s.at_) s with
  | on t =>
   obtain ⟨l, h1, h2⟩ := Z9g ev hst
   obtain ⟨m, h3, h4⟩ := Zct f t
   exact ⟨l ++ m, by simp only; rw [h3, h1, List.append_assoc], by rw [Z37, h2, h4]; rfl⟩
  | ends e => exact ⟨[], by simp, rfl⟩
  | asks => exact ⟨[], by simp, rfl⟩
theorem Z42 : ∀ (f : Nat) (s : Th) (e : Int), (adv ev ins f s).2 = some e -> e ≠ 0
 | 0, s, e, h => by cases h
 | f + 1, s, e, h => by
  unfold adv at h
  cases hst : stp ev (ins s.at_) s with
  | on t => rw [hst] at h; exact Z42 f t e h
  | ends x => rw [hst] at h; cases h; exact Zjv ev hst
  | asks => rw [hst] at h; cases h
theorem Zm2 (q : Qu) (v : Int) : Zhi (ans wr q v) = true /\ (ans wr q v).rd = v := by
 unfold ans
 split
 · exact ⟨rfl, rfl⟩
 split
 · split <;> exact ⟨rfl, rfl⟩
 split
 · exact ⟨rfl, rfl⟩
 · exact ⟨rfl, rfl⟩
theorem Z52 (i : In α) (s : Th) (v : Int) : (Z1k ev wr i s v).evs = s.evs ++ [ans wr (qu ev i s.regs) v] := rfl
theorem Zb3 {f : Nat} : ∀ (l r : List Int) (s : Th) (n : Nat), go ev wr ins f (l ++ r) s n = if (go ev wr ins f l s n).fin = 0 then
  (match r with | [] => go ev wr ins f l s n | v :: r => go ev wr ins f r (Z1k ev wr (ins (go ev wr ins f l s n).th.at_) (go ev wr ins f l s n).th v) ((go ev wr ins f l s n).asked + 1)) else go ev wr ins f l s n
 | [], r, s, n => by
  cases ha : adv ev ins f s with
  | mk t o =>
   cases o with
   | some e =>
    have he := Z42 ev ins f s e (by rw [ha])
    cases r with
    | nil => simp only [List.append_nil, go, ha, he, if_false]
    | cons v r => simp only [List.nil_append, go, ha, he, if_false]
   | none =>
    cases r with
    | nil => simp only [List.append_nil, go, ha, if_true]
    | cons v r => simp only [List.nil_append, go, ha, if_true]
 | v :: l, r, s, n => by
  cases ha : adv ev ins f s with
  | mk t o =>
   cases o with
   | some e =>
    have he := Z42 ev ins f s e (by rw [ha])
    simp only [List.cons_append, go, ha, he, if_false]
   | none =>
    simp only [List.cons_append, go, ha]
    exact Zb3 l r _ _
theorem Z6W {f : Nat} : ∀ (l : List Int) (s : Th) (n : Nat), ∃ k, k <= l.length /\ (go ev wr ins f l s n).asked = n + k /\ reads (go ev wr ins f l s n).th.evs = reads s.evs ++ l.take k /\ ((go ev wr ins f l s n).fin = 0 -> k = l.length) /\ ∃ m, (go ev wr ins f l s n).th.evs = s.evs ++ m
 | [], s, n => by
  obtain ⟨m, h1, h2⟩ := Zct ev ins f s
  refine ⟨0, Nat.le_refl _, ?_, ?_, fun _ => rfl, m, ?_⟩
  · cases ha : adv ev ins f s with
    | mk t o => cases o <;> simp only [go, ha, Nat.add_zero]
  · cases ha : adv ev ins f s with
    | mk t o => rw [ha] at h1; cases o <;> simp only [go, ha, List.take_zero, List.append_nil] <;> rw [h1, Z37, h2, List.append_nil]
  · cases ha : adv ev ins f s with
    | mk t o => rw [ha] at h1; cases o <;> simp only [go, ha] <;> exact h1
 | v :: l, s, n => by
  obtain ⟨m, h1, h2⟩ := Zct ev ins f s
  cases ha : adv ev ins f s with
  | mk t o =>
   rw [ha] at h1
   cases o with
   | some e =>
    have he := Z42 ev ins f s e (by rw [ha])
    refine ⟨0, Nat.zero_le _, ?_, ?_, fun h => ?_, m, ?_⟩
    · simp only [go, ha, Nat.add_zero]
    · simp only [go, ha, List.take_zero, List.append_nil]; rw [h1, Z37, h2, List.append_nil]
    · simp only [go, ha] at h; exact absurd h he
    · simp only [go, ha]; exact h1
   | none =>
    obtain ⟨k, g1, g2, g3, g4, m2, g5⟩ := Z6W (f := f) l (Z1k ev wr (ins t.at_) t v) (n + 1)
    have e : go ev wr ins f (v :: l) s n = go ev wr ins f l (Z1k ev wr (ins t.at_) t v) (n + 1) := by simp only [go, ha]
    rw [e]
    refine ⟨k + 1, by simp only [List.length_cons]; omega, by omega, ?_, fun h => by simp only [List.length_cons, g4 h], m ++ [ans wr (qu ev (ins t.at_) t.regs) v] ++ m2, ?_⟩
    · rw [g3, Z52, Z37, h1, Z37, h2, List.append_nil, List.take_succ_cons, List.append_assoc]
      obtain ⟨r1, r2⟩ := Zm2 wr (qu ev (ins t.at_) t.regs) v
      simp only [reads, List.filter_cons, r1, if_true, List.filter_nil, List.map_cons, List.map_nil, r2, List.cons_append, List.nil_append]
    · rw [g5, Z52, h1]; simp only [List.append_assoc]
end Go.Flat
end

section
namespace Go.Abs
open Go.RowKit
def Zc6 (fs : List Nat) (F : Nat -> List AV -> Option AV) : Orc := fun f args H => match Z0L (frz (kil (fun _ o => !mem o.fam fs) 0 H) 30) args with
 | some az => match F f az with | some r => some (r, kil (fun _ o => mem o.fam fs) 0 H) | none => none
 | none => none
theorem Z8D {P : Program} {gl : Z0l} {fs : List Nat} {F : Nat -> List AV -> Option AV} (h : ∀ f args r, F f args = some r -> ValOK P gl f args r) : Z06 P gl (Zc6 fs F) := by
 intro f args H r H' hf sn ι W cargs hg hR ha
 unfold Zc6 at hf
 split at hf <;> try (simp at hf; done)
 rename_i az has
 split at hf <;> simp at hf
 rename_i r' hr
 obtain ⟨rfl, rfl⟩ := hf
 have h2 := h f az r' hr
 generalize hHQ : kil (fun _ o => !mem o.fam fs) 0 H = HQ at has
 have inQ : ∀ (b : Nat) (o : AObj), HQ[b]? = some o -> o.alive = true -> H[b]? = some o /\ mem o.fam fs = true := fun b o hb hal => by
  rw [<- hHQ] at hb
  obtain ⟨o0, g1, _, _, g4⟩ := Z0x hb
  obtain ⟨rfl, g5⟩ := g4 hal
  exact ⟨g1, by simpa using g5⟩
 have hle : ∀ a v, sn a = some v -> snO sn ι HQ W a = some v := fun a v hv => by
  unfold snO
  split
  · exact (hR.snap a v hv).2.1
  · exact hv
 have hcell : ∀ a v, snO sn ι HQ W a = some v -> W.cell? a = some v := fun a v hv => by
  unfold snO at hv
  split at hv
  · exact hv
  · exact (hR.snap a v hv).2.1
 have hR' : R (snO sn ι HQ W) noI [] W :=
  ⟨fun b => ⟨fun hb => by simp at hb, fun ⟨p, hp⟩ => by simp [noI] at hp⟩, fun b p hp => by simp [noI] at hp, fun b o p hb => by simp at hb, fun b b' o o' p p' hb => by simp at hb,
    fun a v hv => ⟨Z65 (hcell a v hv), hcell a v hv, fun b o p hb => by simp at hb⟩, fun b o p hb => by simp at hb⟩
 have hobjQ : ∀ (b : Nat) (o : AObj) p, HQ[b]? = some o -> o.alive = true -> ι b = some p -> OR sn ι W o.body p := fun b o p hb hal hp => hR.obj b o p (inQ b o hb hal).1 hal hp
 have hargs : LR (snO sn ι HQ W) noI az cargs := Z0O (fun u r v => Z1R hobjQ ⟨hle, fun _ _ h => h⟩ (fun b o p hb hal hp off v hv => by
  unfold snO; rw [if_pos ⟨b, o, p, hb, hal, hp, rfl⟩]; exact hv) 30 u r v) has ha
 refine (h2 _ W cargs (hg.mono (Z8g hle)) hR' hargs).monoY ?_
 rintro e W' ⟨v, rfl, hx, hv⟩
 generalize hs1 : snx (snO sn ι HQ W) W.heap.size W' = s1 at hv
 have h1lt : ∀ a, a.block < W.heap.size -> s1 a = snO sn ι HQ W a := fun a ha => by rw [<- hs1]; unfold snx; rw [if_pos ha]
 have h1ge : ∀ a, ¬ a.block < W.heap.size -> s1 a = W'.cell? a := fun a ha => by rw [<- hs1]; unfold snx; rw [if_neg ha]
 have hle1 : ∀ a v, sn a = some v -> s1 a = some v := fun a v hv => by rw [h1lt a (hR.snap a v hv).1]; exact hle a v hv
 have hcell1 : ∀ a v, s1 a = some v -> W'.cell? a = some v := fun a v hv => by
  by_cases hlt : a.block < W.heap.size
  · rw [h1lt a hlt] at hv
    have := hcell a v hv
    unfold World.cell? at this ⊢
    rw [hx.old _ hlt]; exact this
  · rw [h1ge a hlt] at hv; exact hv
 refine ⟨v, s1, ι, rfl, Z88 hv, ⟨fun b => ⟨fun hb => ?_, fun ⟨p, hp⟩ => ?_⟩, fun b p hp => ?_, fun b o p hb hal hp => ?_, fun b b' o o' p p' hb hb' ha ha' hp hp' e => ?_, fun a v hv => ?_, fun b o p hb hp e => ?_⟩, ⟨hle1, fun _ _ h => h⟩, fun b p hp => .inl hp, fun c hc _ => hx.old c hc, hx.size, hx.os, hx.tape, hx.output, fun a v hv => ?_, fun b o hb => ?_⟩
 · rw [Z0u] at hb; exact (hR.dom b).1 hb
 · rw [Z0u]; exact (hR.dom b).2 ⟨p, hp⟩
 · have := hR.blk b p hp; have := hx.size; omega
 · obtain ⟨o0, g1, _, _, h4⟩ := Z0x hb
   obtain ⟨rfl, _⟩ := h4 hal
   exact Z0N ⟨hle1, fun _ _ h => h⟩ (hx.old _ (hR.blk b p hp)) (hR.obj b o p g1 hal hp)
 · obtain ⟨o0, g1, g2, g3, g4⟩ := Z0x hb
   obtain ⟨o0', g1', g2', g3', g4'⟩ := Z0x hb'
   rw [g2, g3, g2', g3']
   exact hR.sep b b' o0 o0' p p' g1 g1' (by rw [<- (g4 ha).1]; exact ha) (by rw [<- (g4' ha').1]; exact ha') hp hp' e
 · refine ⟨Z65 (hcell1 a v hv), hcell1 a v hv, fun b o p hb hal hp hne => ?_⟩
   obtain ⟨o0, g1, _, _, h4⟩ := Z0x hb
   obtain ⟨rfl, g5⟩ := h4 hal
   have hlt : a.block < W.heap.size := hne ▸ hR.blk b p hp
   rw [h1lt a hlt] at hv
   unfold snO at hv
   split at hv
   · rename_i hex
     obtain ⟨b', o', p', x1, x2, x3, x4⟩ := hex
     obtain ⟨y1, y2⟩ := inQ b' o' x1 x2
     have := (hR.sep b b' o o' p p' g1 y1 hal x2 hp x3 (hne.trans x4.symm)).1
     rw [this, y2] at g5; cases g5
   · exact (hR.snap a v hv).2.2 b o p g1 hal hp hne
 · obtain ⟨o0, g1, g2, g3, _⟩ := Z0x hb
   exact hR.shz b o0 p g1 hp (by rw [<- g3]; exact e)
 · by_cases hlt : a.block < W.heap.size
   · rw [h1lt a hlt] at hv
     unfold snO at hv
     split at hv
     · rename_i hex
       obtain ⟨b, o, p, x1, x2, x3, x4⟩ := hex
       exact .inr (.inr ⟨b, o, p, (inQ b o x1 x2).1, x2, x3, x4⟩)
     · exact .inl hv
   · exact .inr (.inl (by omega))
 · rw [Z2U, hb]
   simp only [Nat.zero_add, Option.map_some]
   refine ⟨_, rfl, ?_⟩
   split <;> simp [AObj.dead]
theorem ZeP {P : Program} {fs : List Nat} {F : Nat -> List AV -> Option AV} {H : Z00} {g : Nat} {args fa : List AV} {r : AV} (h1 : Z0C P g = true) (h2 : Z0L (frz (kil (fun _ o => !mem o.fam fs) 0 H) 30) args = some fa) (h3 : F g fa = some r) : Z04 P (Zc6 fs F) H g args = some (r, kil (fun _ o => mem o.fam fs) 0 H) := by
 simp only [Z04, h1, if_true, Zc6, h2, h3]
end Go.Abs
end

section
namespace Go.Abs
open Go.RowKit
def ZhS (fs : List Nat) (H : Z00) : Z00 := kil (fun _ o => !mem o.fam fs) 0 H
def WkZ (fs : List Nat) (H : Z00) (m : List Nat) (u u2 : AV) : Prop := Wk m u u2 \/ frz (ZhS fs H) 30 u = some u2
def BodyGeZ (fs : List Nat) (H : Z00) (m : List Nat) : ABody -> ABody -> Prop
 | .cells cs ty, .cells cs2 ty2 => ty = ty2 /\ cs2.length <= cs.length /\ ∀ (i : Nat) (c2 : AV), cs2[i]? = some c2 -> ∃ c, cs[i]? = some c /\ WkZ fs H m c c2
 | b, b2 => BodyGe m b b2
def HpGeZ (fs : List Nat) (H : Z00) (m : List Nat) : List Nat -> Z00 -> Nat -> Prop
 | [], [], _ => True
 | j :: l, o2 :: H2, i => (onO H[j]? fun o => o.alive = true /\ o2.alive = true /\ o2.fam = i /\ o2.sh = o.sh /\ BodyGeZ fs H m o.body o2.body) /\ HpGeZ fs H m l H2 (i + 1)
 | _, _, _ => False
theorem HpGeZ.get {fs : List Nat} {H : Z00} {m : List Nat} : ∀ {l : List Nat} {H2 : Z00} {i : Nat}, HpGeZ fs H m l H2 i -> H2.length = l.length /\ ∀ b, b < l.length -> ∃ j o o2, l[b]? = some j /\ H[j]? = some o /\ H2[b]? = some o2 /\ o.alive = true /\ o2.alive = true /\ o2.fam = i + b /\ o2.sh = o.sh /\ BodyGeZ fs H m o.body o2.body
 | [], [], i, h => ⟨rfl, fun b hb => by simp at hb⟩
 | j :: l, o2 :: H2, i, h => by
  obtain ⟨h1, h2⟩ := h
  obtain ⟨o, ho, e1, e2, e3, e4, e5⟩ := Z03 h1
  obtain ⟨k1, k2⟩ := h2.get
  refine ⟨by simp [k1], fun b hb => ?_⟩
  cases b with
  | zero => exact ⟨j, o, o2, rfl, ho, rfl, e1, e2, e3, e4, e5⟩
  | succ b =>
   obtain ⟨j', o', o2', x1, x2, x3, x4, x5, x6, x7, x8⟩ := k2 b (by simpa using hb)
   exact ⟨j', o', o2', by simpa using x1, x2, by simpa using x3, x4, x5, by omega, x7, x8⟩
 | [], _ :: _, i, h => h.elim
 | _ :: _, [], i, h => h.elim
theorem FgS.giveup {k : Nat} {fs m : List Nat} {tm tm2 : Tr} {H H2 : Z00} (htr : ∀ n u2, Z1u tm2 n = some u2 -> ∃ u, Z1u tm n = some u /\ WkZ fs H m u u2) (htx : ∀ n, tex tm2 n = true -> tex tm n = true)
  (hp : HpGeZ fs H m m H2 0) (hfams : Z0Q (m.map (Z1r H)) = true) (hkp : Zer k 0 m = true) (hd : (m.map (Z1r H)).all (fun f => !mem f fs) = true) : FgS k tm H tm2 H2 := by
 intro sn ι W a hR ht
 obtain ⟨hl, hg⟩ := hp.get
 generalize hHQ : ZhS fs H = HQ
 have inQ : ∀ (b : Nat) (o : AObj), HQ[b]? = some o -> o.alive = true -> H[b]? = some o /\ mem o.fam fs = true := fun b o hb hal => by
  rw [<- hHQ] at hb
  obtain ⟨o0, g1, _, _, g4⟩ := Z0x hb
  obtain ⟨rfl, g5⟩ := g4 hal
  exact ⟨g1, by simpa using g5⟩
 have hle : ∀ a v, sn a = some v -> snO sn ι HQ W a = some v := fun a v hv => by
  unfold snO
  split
  · exact (hR.snap a v hv).2.1
  · exact hv
 have hcell : ∀ a v, snO sn ι HQ W a = some v -> W.cell? a = some v := fun a v hv => by
  unfold snO at hv
  split at hv
  · exact hv
  · exact (hR.snap a v hv).2.1
 have hobjQ : ∀ (b : Nat) (o : AObj) p, HQ[b]? = some o -> o.alive = true -> ι b = some p -> OR sn ι W o.body p := fun b o p hb hal hp => hR.obj b o p (inQ b o hb hal).1 hal hp
 have hz : ∀ (u u2 : AV) (v : Value), WkZ fs H m u u2 -> VR sn ι u v -> VR (snO sn ι HQ W) (iot m ι) u2 v := fun u u2 v h hv => by
  rcases h with h | h
  · exact Z0W ⟨hle, fun _ _ h => h⟩ _ _ (h _ _ _ hv)
  · rw [hHQ] at h
    exact Z88 (Z1R hobjQ ⟨hle, fun _ _ h => h⟩ (fun b o p hb hal hp off v hv => by
     unfold snO; rw [if_pos ⟨b, o, p, hb, hal, hp, rfl⟩]; exact hv) 30 u u2 v h hv)
 have at2 : ∀ {b : Nat} {o2 : AObj} {p : Place}, H2[b]? = some o2 -> iot m ι b = some p -> ∃ j o, m[b]? = some j /\ H[j]? = some o /\ ι j = some p /\ o.alive = true /\ o2.alive = true /\ o2.fam = b /\ o2.sh = o.sh /\ BodyGeZ fs H m o.body o2.body := by
  intro b o2 p hb hp
  obtain ⟨j, o, o2', x1, x2, x3, x4, x5, x6, x7, x8⟩ := hg b (by rw [<- hl]; exact (List.getElem?_eq_some_iff.1 hb).1)
  rw [hb] at x3; simp at x3; subst x3
  simp only [iot, x1] at hp
  exact ⟨j, o, x1, x2, hp, x4, x5, by omega, x7, x8⟩
 have hout : ∀ {b j : Nat} {o : AObj}, m[b]? = some j -> H[j]? = some o -> mem o.fam fs = false := fun {b j o} x1 x2 => by
  have hm : o.fam ∈ m.map (Z1r H) := List.mem_map.2 ⟨j, List.mem_of_getElem? x1, by simp [Z1r, x2]⟩
  have := List.all_eq_true.1 hd _ hm
  simpa using this
 have hR2 : R (snO sn ι HQ W) (iot m ι) H2 W := by
  refine ⟨fun b => ⟨fun hb => ?_, fun ⟨p, hp⟩ => ?_⟩, fun b p hp => ?_, fun b o2 p hb ha hp => ?_, fun b b' o o' p p' hb hb' ha ha' hp hp' e => ?_, fun ad v hv => ?_, fun b o2 p hb hp e => ?_⟩
  · obtain ⟨j, o, o2, x1, x2, _⟩ := hg b (by omega)
    obtain ⟨p, hp⟩ := hR.place x2
    exact ⟨p, by simp only [iot, x1]; exact hp⟩
  · unfold iot at hp
    split at hp
    · rename_i j hj; rw [hl]; exact (List.getElem?_eq_some_iff.1 hj).1
    · cases hp
  · unfold iot at hp
    split at hp
    · exact hR.blk _ p hp
    · cases hp
  · obtain ⟨j, o, x1, x2, x3, x4, x5, x6, x7, x8⟩ := at2 hb hp
    have hor := hR.obj j o p x2 x4 x3
    generalize o.body = b1 at x8 hor
    generalize o2.body = b2 at x8
    unfold BodyGeZ at x8
    split at x8
    · obtain ⟨rfl, h1, h2⟩ := x8
      simp only [OR] at hor ⊢
      obtain ⟨arr, g1, g2, g3, g4⟩ := hor
      refine ⟨arr, g1, g2, by omega, fun i c2 hc => ?_⟩
      obtain ⟨c, e1, e2⟩ := h2 i c2 hc
      obtain ⟨v, e3, e4⟩ := g4 i c e1
      exact ⟨v, e3, hz _ _ _ e2 e4⟩
    · exact Z0N ⟨hle, fun _ _ h => h⟩ rfl (x8.or hor)
  · obtain ⟨j, q, x1, x2, x3, x4, x5, x6, x7, x8⟩ := at2 hb hp
    obtain ⟨j', q', y1, y2, y3, y4, y5, y6, y7, y8⟩ := at2 hb' hp'
    have hs := hR.sep j j' q q' p p' x2 y2 x4 y4 x3 y3 e
    have : b = b' := Z4d (l := m.map (Z1r H)) (x := q.fam) hfams (by simp [x1, Z1r, x2]) (by simp [y1, Z1r, y2, hs.1])
    subst this
    exact ⟨by rw [x6, y6], by rw [x7, y7]; exact hs.2⟩
  · refine ⟨Z65 (hcell ad v hv), hcell ad v hv, fun b o2 p hb ha hp hne => ?_⟩
    obtain ⟨j, o, x1, x2, x3, x4, _⟩ := at2 hb hp
    unfold snO at hv
    split at hv
    · rename_i hex
      obtain ⟨b', o', p', z1, z2, z3, z4⟩ := hex
      obtain ⟨y1, y2⟩ := inQ b' o' z1 z2
      have := (hR.sep j b' o o' p p' x2 y1 x4 z2 x3 z3 (hne.trans z4.symm)).1
      have h5 := hout x1 x2
      rw [this, y2] at h5; cases h5
    · exact (hR.snap ad v hv).2.2 j o p x2 x4 x3 hne
  · obtain ⟨j, o, x1, x2, x3, x4, x5, x6, x7, x8⟩ := at2 hb hp
    exact hR.shz j o p x2 x3 (by omega)
 refine ⟨snO sn ι HQ W, iot m ι, ⟨hR2, hle, fun b o2 p hb ha hp => ?_, fun _ _ _ => rfl, Nat.le_refl _, rfl, rfl, rfl, fun ad v hv => ?_, fun b p hb hp => by have := Z9r hkp b hb; simp only [Nat.zero_add] at this; simp only [iot, this]; exact hp⟩, fun t u2 hu => ?_, fun t hx => ht.2 t (htx t hx)⟩
 · obtain ⟨j, o, x1, x2, x3, x4, _⟩ := at2 hb hp
   exact .inr ⟨j, o, p, x2, x4, x3, rfl⟩
 · unfold snO at hv
   split at hv
   · rename_i hex
     obtain ⟨b, o, p, x1, x2, x3, x4⟩ := hex
     exact .inr (.inr ⟨b, o, p, (inQ b o x1 x2).1, x2, x3, x4⟩)
   · exact .inl hv
 · obtain ⟨u, h1, h2⟩ := htr t u2 hu
   obtain ⟨v, h3, h4⟩ := ht.1 t u h1
   exact ⟨v, h3, hz _ _ _ h2 h4⟩
theorem BodyGe.z {fs : List Nat} {H : Z00} {m : List Nat} {b b2 : ABody} (h : BodyGe m b b2) : BodyGeZ fs H m b b2 := by
 unfold BodyGeZ
 split
 · obtain ⟨h1, h2, h3⟩ := h
   exact ⟨h1, h2, fun i c2 hc => let ⟨c, e1, e2⟩ := h3 i c2 hc; ⟨c, e1, .inl e2⟩⟩
 · exact h
end Go.Abs
end

section
namespace Go.Abs
open Go.RowKit
def sgE (k d : Nat) (b : Nat) : Nat := if b < k then b else d + (b - k)
def Z4s (k : Nat) (σ : Nat -> Nat) (Hs : Z00) : Nat -> Z00 -> Z00
 | _, [] => []
 | i, o :: H => (if Nat.blt i k then (match Hs[i]? with
  | some o' => { o with alive := o'.alive, body := Z1C σ o'.body }
  | none => o) else o.dead) :: Z4s k σ Hs (i + 1) H
theorem ZcN (k : Nat) (σ : Nat -> Nat) (Hs : Z00) : ∀ (H : Z00) (i b : Nat), (Z4s k σ Hs i H)[b]? = (H[b]?).map fun o => if Nat.blt (i + b) k then (match Hs[i + b]? with
  | some o' => { o with alive := o'.alive, body := Z1C σ o'.body }
  | none => o) else o.dead
 | [], i, b => by simp [Z4s]
 | o :: H, i, 0 => by
  simp only [Z4s, List.getElem?_cons_zero, Option.map_some, Nat.add_zero] <;> rfl
 | o :: H, i, b + 1 => by
  simp only [Z4s, List.getElem?_cons_succ]
  rw [ZcN k σ Hs H (i + 1) b, show i + 1 + b = i + (b + 1) by omega]
theorem ZcM (k : Nat) (σ : Nat -> Nat) (Hs : Z00) : ∀ (H : Z00) (i : Nat), (Z4s k σ Hs i H).length = H.length
 | [], i => rfl
 | o :: H, i => by simp only [Z4s, List.length_cons, ZcM k σ Hs H (i + 1)]
def shE (σ : Nat -> Nat) : Z00 -> Z00
 | [] => []
 | o :: H => { o with body := Z1C σ o.body } :: shE σ H
theorem Zfz (σ : Nat -> Nat) : ∀ (H : Z00) (b : Nat), (shE σ H)[b]? = (H[b]?).map fun o => { o with body := Z1C σ o.body }
 | [], b => by simp [shE]
 | o :: H, 0 => rfl
 | o :: H, b + 1 => by simp only [shE, List.getElem?_cons_succ]; exact Zfz σ H b
theorem ZbZ (σ : Nat -> Nat) : ∀ H : Z00, (shE σ H).length = H.length
 | [] => rfl
 | o :: H => by simp only [shE, List.length_cons, ZbZ σ H]
theorem Zg3 {P : Program} {gl : Z0l} {f k : Nat} {Hs Hs' : Z00} {args : List AV} {r : AV} (hM : Z76 P gl k f args Hs r Hs') (hl : Hs.length = k) (hl' : Hs'.length = k)
  (hev : ∀ (b : Nat) (o o' : AObj), Hs[b]? = some o -> Hs'[b]? = some o' -> o'.fam = o.fam /\ o'.sh = o.sh /\ (o'.alive = true -> o.alive = true)) : Z1O P gl f args Hs r Hs' := by
 intro sn ι W vargs hg hR ha
 refine (hM sn ι W vargs hg hR ha).mono ?_
 rintro e W' ⟨v, sn', ι', rfl, hv, hst⟩
 have hι : ∀ b p, ι b = some p -> ι' b = some p := fun b p hp => hst.keep b p (by have := (hR.dom b).2 ⟨p, hp⟩; omega) hp
 have hι2 : ∀ b p, ι' b = some p -> ι b = some p := fun b p hp => by
  obtain ⟨q, hq⟩ := (hR.dom b).1 (by have := (hst.rel.dom b).2 ⟨p, hp⟩; omega)
  have := hι b q hq
  rw [hp] at this; cases this; exact hq
 refine ⟨v, sn', ι', rfl, hv, hst.rel, ⟨hst.le, hι⟩, fun b p hp => .inl (hι2 b p hp), hst.frame, hst.size, hst.os, hst.tape, hst.output, hst.sfresh, fun b o hb => ?_⟩
 have hb' : b < Hs'.length := by have := (List.getElem?_eq_some_iff.1 hb).1; omega
 obtain ⟨e1, e2, e3⟩ := hev b o _ hb (List.getElem?_eq_getElem hb')
 exact ⟨_, List.getElem?_eq_getElem hb', e1, e2, e3⟩
theorem Z2m {P : Program} {gl : Z0l} {f k : Nat} {Hs Hs' : Z00} {args : List AV} {r : AV} (hM : Z76 P gl k f args Hs r Hs') (hk : k <= Hs.length) (hk' : k <= Hs'.length)
  (hg2 : ∀ (i : Nat) (o : AObj), Hs'[i]? = some o -> o.fam = i /\ o.alive = true /\ Z0M Hs'.length (Z3I o.body []) = true) (hs0 : ∀ (i : Nat) (o : AObj), Hs[i]? = some o -> o.alive = true /\ o.fam = i)
  (hrk : Z0M Hs'.length (Z1N r []) = true) :
  Z1O P gl f args Hs (ren (sgE k Hs.length) r) (Z4s k (sgE k Hs.length) Hs' 0 Hs ++ shE (sgE k Hs.length) (Hs'.drop k)) := by
 intro sn ι W vargs hg hR hla
 refine (hM sn ι W vargs hg hR hla).mono ?_
 rintro e W' ⟨v, sn', ι', rfl, hv, hst⟩
 generalize hd : Hs.length = d at *
 let κ : Z0k := fun b => if b < d then ι b else ι' (k + (b - d))
 have k1 : ∀ b, b < d -> κ b = ι b := fun b hb => if_pos hb
 have k2 : ∀ b, d <= b -> κ b = ι' (k + (b - d)) := fun b hb => by show (if b < d then ι b else ι' (k + (b - d))) = _; rw [if_neg (by omega)]
 have hkeep : ∀ b p, b < k -> ι' b = some p -> ι b = some p := fun b p hb hp => by
  obtain ⟨q, hq⟩ := (hR.dom b).1 (by omega)
  have := hst.keep b q hb hq
  rw [hp] at this; cases this; exact hq
 have hback : ∀ i, i < Hs'.length -> ∀ p, ι' i = some p -> κ (sgE k d i) = some p := fun i hi p hp => by
  unfold sgE
  by_cases hik : i < k
  · rw [if_pos hik, k1 i (by omega)]; exact hkeep i p hik hp
  · rw [if_neg hik, k2 _ (by omega), show k + (d + (i - k) - d) = i by omega]; exact hp
 have hlen : (Z4s k (sgE k d) Hs' 0 Hs).length = d := by rw [ZcM, hd]
 have hget : ∀ (b : Nat) (o' : AObj) (p : Place), (Z4s k (sgE k d) Hs' 0 Hs ++ shE (sgE k d) (Hs'.drop k))[b]? = some o' -> κ b = some p ->
   (b < d /\ ι b = some p /\ ∃ o, Hs[b]? = some o /\ o'.fam = o.fam /\ o'.sh = o.sh /\ (o'.alive = true -> ∃ x, b < k /\ Hs'[b]? = some x /\ o'.body = Z1C (sgE k d) x.body /\ x.alive = true /\ ι' b = some p)) \/
   (d <= b /\ ι' (k + (b - d)) = some p /\ ∃ x, Hs'[k + (b - d)]? = some x /\ o' = { x with body := Z1C (sgE k d) x.body }) := by
  intro b o' p hb hp
  by_cases hlt : b < d
  · rw [List.getElem?_append_left (by omega)] at hb
    rw [k1 b hlt] at hp
    refine .inl ⟨hlt, hp, ?_⟩
    rw [ZcN] at hb
    simp only [Nat.zero_add] at hb
    cases hx : Hs[b]? with
    | none => rw [hx] at hb; cases hb
    | some o =>
     rw [hx] at hb
     simp only [Option.map_some, Option.some.injEq] at hb
     refine ⟨o, rfl, ?_⟩
     by_cases hbk : b < k
     · have hi' : b < Hs'.length := by omega
       simp only [Nat.blt_eq, hbk, List.getElem?_eq_getElem hi', if_true] at hb
       subst hb
       exact ⟨rfl, rfl, fun h => ⟨Hs'[b], hbk, List.getElem?_eq_getElem hi', rfl, h, hst.keep b p hbk hp⟩⟩
     · simp only [Nat.blt_eq, hbk, if_false] at hb
       subst hb
       exact ⟨rfl, rfl, fun h => by simp [AObj.dead] at h⟩
  · rw [List.getElem?_append_right (by omega), hlen, Zfz, List.getElem?_drop] at hb
    rw [k2 b (by omega)] at hp
    cases hx : Hs'[k + (b - d)]? with
    | none => rw [hx] at hb; cases hb
    | some x =>
     rw [hx] at hb
     simp only [Option.map_some, Option.some.injEq] at hb
     exact .inr ⟨by omega, hp, x, rfl, hb.symm⟩
 have hR' : R sn' κ (Z4s k (sgE k d) Hs' 0 Hs ++ shE (sgE k d) (Hs'.drop k)) W' := by
  refine ⟨fun b => ⟨fun hb => ?_, fun ⟨p, hp⟩ => ?_⟩, fun b p hp => ?_, fun b o' p hb ha hp => ?_, fun b b' o o' p p' hb hb' ha ha' hp hp' e => ?_, fun a v hv => ?_, fun b o' p hb hp e => ?_⟩
  · simp only [List.length_append, hlen, ZbZ, List.length_drop] at hb
    by_cases hlt : b < d
    · rw [k1 b hlt]; exact (hR.dom b).1 (by omega)
    · rw [k2 b (by omega)]; exact (hst.rel.dom _).1 (by omega)
  · simp only [List.length_append, hlen, ZbZ, List.length_drop]
    by_cases hlt : b < d
    · omega
    · rw [k2 b (by omega)] at hp
      have := (hst.rel.dom _).2 ⟨p, hp⟩; omega
  · by_cases hlt : b < d
    · rw [k1 b hlt] at hp; exact Nat.lt_of_lt_of_le (hR.blk b p hp) hst.size
    · rw [k2 b (by omega)] at hp; exact hst.rel.blk _ p hp
  · rcases hget b o' p hb hp with ⟨b1, b2, o, b3, b4, b5, b6⟩ | ⟨b1, b2, x, b3, rfl⟩
    · obtain ⟨x, c1, c2, c3, c4, c5⟩ := b6 ha
      rw [c3]
      exact Z97 x.body (Z4T x.body p (fun y hy => hback y (Z1f (hg2 b x c2).2.2 y hy)) (hst.rel.obj b x p c2 c4 c5))
    · exact Z97 x.body (Z4T x.body p (fun y hy => hback y (Z1f (hg2 _ x b3).2.2 y hy)) (hst.rel.obj _ x p b3 (hg2 _ x b3).2.1 b2))
  · rcases hget b o p hb hp with ⟨b1, b2, x, b3, b4, b5, b6⟩ | ⟨b1, b2, x, b3, rfl⟩ <;> rcases hget b' o' p' hb' hp' with ⟨c1, c2, y, c3, c4, c5, c6⟩ | ⟨c1, c2, y, c3, rfl⟩
    · rw [b4, b5, c4, c5]
      exact hR.sep b b' x y p p' b3 c3 (hs0 b x b3).1 (hs0 b' y c3).1 b2 c2 e
    · exfalso
      obtain ⟨z, d1, d2, d3, d4, d5⟩ := b6 ha
      have := (hst.rel.sep b _ z y p p' d2 c3 d4 (hg2 _ y c3).2.1 d5 c2 e).1
      rw [(hg2 b z d2).1, (hg2 _ y c3).1] at this; omega
    · exfalso
      obtain ⟨z, d1, d2, d3, d4, d5⟩ := c6 ha'
      have := (hst.rel.sep _ b' x z p p' b3 d2 (hg2 _ x b3).2.1 d4 b2 d5 e).1
      rw [(hg2 b' z d2).1, (hg2 _ x b3).1] at this; omega
    · exact hst.rel.sep _ _ x y p p' b3 c3 (hg2 _ x b3).2.1 (hg2 _ y c3).2.1 b2 c2 e
  · obtain ⟨h1, h2, h3⟩ := hst.rel.snap a v hv
    refine ⟨h1, h2, fun b o' p hb ha hp => ?_⟩
    rcases hget b o' p hb hp with ⟨b1, b2, o, b3, b4, b5, b6⟩ | ⟨b1, b2, x, b3, rfl⟩
    · obtain ⟨x, c1, c2, c3, c4, c5⟩ := b6 ha
      exact h3 b x p c2 c4 c5
    · exact h3 _ x p b3 (hg2 _ x b3).2.1 b2
  · rcases hget b o' p hb hp with ⟨b1, b2, o, b3, b4, b5, b6⟩ | ⟨b1, b2, x, b3, rfl⟩
    · exact hR.shz b o p b3 b2 (by rw [<- b5]; exact e)
    · exact hst.rel.shz _ x p b3 b2 e
 refine ⟨v, sn', κ, rfl, ?_, hR', ⟨hst.le, fun b p hb => ?_⟩, fun b p hp => ?_, hst.frame, hst.size, hst.os, hst.tape, hst.output, hst.sfresh, fun b o hb => ?_⟩
 · exact (Z4y r v).2 (Z1g r [] v (fun y hy => hback y (Z1f hrk y hy)) hv)
 · rw [k1 b (by have := (hR.dom b).2 ⟨p, hb⟩; omega)]; exact hb
 · by_cases hlt : b < d
   · rw [k1 b hlt] at hp; exact .inl hp
   · rw [k2 b (by omega)] at hp
     obtain ⟨x, hx⟩ : ∃ x, Hs'[k + (b - d)]? = some x := ⟨_, List.getElem?_eq_getElem ((hst.rel.dom _).2 ⟨p, hp⟩)⟩
     rcases hst.fresh _ _ p hx (hg2 _ _ hx).2.1 hp with h | h
     · exact .inr (.inl h)
     · exact .inr (.inr h)
 · have hb' : b < (Z4s k (sgE k d) Hs' 0 Hs).length := by rw [hlen, <- hd]; exact (List.getElem?_eq_some_iff.1 hb).1
   have hx := List.getElem?_eq_getElem hb'
   obtain ⟨p, hp⟩ := hR.place hb
   have hbd : b < d := by omega
   rcases hget b _ p (by rw [List.getElem?_append_left hb']; exact hx) (by rw [k1 b hbd]; exact hp) with ⟨b1, b2, o2, b3, b4, b5, b6⟩ | ⟨b1, _⟩
   · rw [hb] at b3; cases b3
     exact ⟨_, by rw [List.getElem?_append_left hb']; exact hx, b4, b5, fun _ => (hs0 b o hb).1⟩
   · omega
end Go.Abs
end

section
namespace Go.Proofs.YteidjbahodbgdaaGreatDoor.lex
open Go.Abs Go.RowKit Go.Flat
set_option maxRecDepth 100000
set_option maxHeartbeats 4000000
variable {gl : Z0l}
def Z0c (e : Ev) : List AV := [.int .i64 e.kind, .int .i64 e.loc, .int .i64 e.order, .int .i64 e.rd, .int .i64 e.wr]
def Z14 : List Ev -> List AV
 | [] => []
 | e :: l => Z0c e ++ Z14 l
theorem ZdG : ∀ l : List Ev, (Z14 l).length = l.length * 5
 | [] => rfl
 | e :: l => by simp only [Z14, List.length_append, ZdG l, Z0c, List.length_cons, List.length_nil]; omega
theorem ZdH : ∀ (a b : List Ev), Z14 (a ++ b) = Z14 a ++ Z14 b
 | [], b => rfl
 | e :: a, b => by simp only [List.cons_append, Z14, ZdH a b, List.append_assoc]
theorem Z0t : ∀ l : List Ev, (Z14 l).all Z61 = true
 | [] => rfl
 | e :: l => by simp only [Z14, List.all_append, Z0t l, Bool.and_true]; rfl
theorem Z10 : ∀ l : List Ev, (Z14 l).all Go.Abs.one = true
 | [] => rfl
 | e :: l => by simp only [Z14, List.all_append, Z10 l, Bool.and_true]; rfl
theorem Z5x (l : List Ev) : refsL (Z14 l) [] = [] := Z49 (Zgx (Z0t l))
theorem Z0g (e : Ev) (l : List Ev) : (Z14 (e :: l)).length = (l.length + 1) * 5 := by rw [ZdG]; rfl
theorem ZgA (e : Ev) (l : List Ev) (k : Nat) : (Z14 (e :: l)).drop ((k + 1) * 5) = (Z14 l).drop (k * 5) := by
 rw [show (k + 1) * 5 = k * 5 + 1 + 1 + 1 + 1 + 1 from by omega]
 simp only [Z14, Z0c, List.cons_append, List.nil_append, List.drop_succ_cons]
theorem Z9Z : ∀ (l : List Ev) (k : Nat) (h : k < l.length), (Z14 l).drop (k * 5) = Z0c l[k] ++ Z14 (l.drop (k + 1))
 | e :: l, 0, h => by simp only [Nat.zero_mul, List.drop_zero, Z14, List.getElem_cons_zero, List.drop_succ_cons]
 | e :: l, k + 1, h => by rw [ZgA, Z9Z l k (by simpa using h)]; simp only [List.getElem_cons_succ, List.drop_succ_cons]
theorem ev5 (l : List Ev) (k : Nat) (h : k < l.length) : tk 5 ((Z14 l).drop (k * 5)) = some (Z0c l[k]) := by
 rw [Z9Z l k h]; rfl
theorem Z4L {a b : Ev} (h : Z0c a = Z0c b) : a = b := by
 obtain ⟨k, l, o, r, w⟩ := a
 obtain ⟨k', l', o', r', w'⟩ := b
 simp only [Z0c, List.cons.injEq, AV.int.injEq, true_and, and_true] at h
 obtain ⟨rfl, rfl, rfl, rfl, rfl⟩ := h
 rfl
theorem Z0e (l : List Int) : (ksC l).all Z61 = true := by simp only [ksC, List.all_map]; simp [Z61]
theorem Z0d (l : List Int) : (ksC l).length = l.length * 1 := by rw [Z9E]; omega
theorem Z4F (s : List Int) (j : Nat) (v : Int) (h : j < s.length) {off : Nat} (e : off = j) : spl (ksC s) off [.int .i64 v] = some (ksC (s.set j v)) := by
 have := Zkb s j v h
 rw [show 0 + j * 1 = j by omega] at this
 rw [e]; exact this
def thH (regs : Int) (l : List Ins) (s : Th) (asked fin : Int) (asks : Bool) : Z00 :=
 ⟨true, 0, 0, .cells [.int .i64 regs, .rs l.length 6 (inC l), .int .i64 (s.at_ : Nat), .slice 1 0 s.regs.length s.regs.length 1, grA 2 5 s.evs, .int .i64 asked, .int .i64 fin, .bool asks] 69⟩ :: ⟨true, 1, 0, .cells (ksC s.regs) 2⟩ :: grB 2 Z14 47 s.evs
theorem Z1a {H : Z00} {f0 n z : Nat} {T0 : TypeId} {regs at_ asked fin xo xn : Int} {asks : Bool} {cs : List AV} {R E E' xk : AV} {xs : List UInt8} {r : List Int} (h0 : H[0]? = some ⟨true, f0, 0, .cells [.int .i64 regs, .rs n z cs, .int .i64 at_, R, E, .int .i64 asked, .int .i64 fin, .bool asks] T0⟩)
  (hR : frz H 29 R = some (rsI r)) (hE : frz H 29 E = some E') (hk : frz H 29 xk = some xk) : Z0L (frz H 30) [.ptr 0 0, .agg [.int .i64 xo, .int .i64 xn, .str xs, xk]] = some [.rp (.int .i64 regs :: .rs n z cs :: .int .i64 at_ :: rsI r :: [E', .int .i64 asked, .int .i64 fin, .bool asks]), .agg [.int .i64 xo, .int .i64 xn, .str xs, xk]] := by
 have h1 : frz H 30 (.ptr 0 0) = some (.rp (.int .i64 regs :: .rs n z cs :: .int .i64 at_ :: rsI r :: [E', .int .i64 asked, .int .i64 fin, .bool asks])) := by
  show (match H[0]? with
   | some o => match o.alive, o.body with
    | true, .cells cs _ => match Z0L (frz H 29) (cs.drop 0) with | some l => some (AV.rp l) | none => none
    | _, _ => none
   | none => none) = _
  rw [h0]
  simp only [List.drop_zero, Z0L, hR, hE]
  rfl
 have h2 : frz H 30 (.agg [.int .i64 xo, .int .i64 xn, .str xs, xk]) = some (.agg [.int .i64 xo, .int .i64 xn, .str xs, xk]) := by
  show (match Z0L (frz H 29) [.int .i64 xo, .int .i64 xn, .str xs, xk] with | some l => some (AV.agg l) | none => none) = _
  simp only [Z0L, hk]
  rfl
 simp only [Z0L, h1, h2]
theorem Z4k {O : Orc} (hO : Z06 Tryz.prog gl O) : ∃ O', Z06 Tryz.prog gl O' /\ (∀ (a b c : AV) (r : List Int) (rest : List AV) (e : Ex), okE e -> Z0f e <= 1048576 -> Z0q r.length e = true -> ∀ H args, Z0L (frz H 30) args = some [.rp (a :: b :: c :: rsI r :: rest), .agg e.cells] -> Z04 Tryz.prog O' H 62 args = some (.int .i64 (evC r e), H)) /\
  ∀ g, g ≠ 62 -> ∀ args H, Z04 Tryz.prog O' H g args = Z04 Tryz.prog O H g args := by
 obtain ⟨O', h1, h2, h3⟩ := Z7B (P := Tryz.prog) (gl := gl) (I := AV × AV × AV × List Int × List AV × Ex) (f0 := 62) (G := fun i => okE i.2.2.2.2.2 /\ Z0f i.2.2.2.2.2 <= 1048576 /\ Z0q i.2.2.2.1.length i.2.2.2.2.2 = true) (A := fun i => [.rp (i.1 :: i.2.1 :: i.2.2.1 :: rsI i.2.2.2.1 :: i.2.2.2.2.1), .agg i.2.2.2.2.2.cells]) (R := fun i => .int .i64 (evC i.2.2.2.1 i.2.2.2.2.2))
  (fun _ _ => rfl) (fun i j _ _ h => by
   simp only [List.cons.injEq, AV.rp.injEq, AV.agg.injEq, rsI, AV.rs.injEq, and_true] at h
   obtain ⟨⟨_, _, _, ⟨_, _, h1⟩, _⟩, h2⟩ := h
   rw [Z4H h1, Z16 _ _ h2]) (fun i h => Z70 _ _ _ _ _ _ _ (Nat.le_refl _) h.1 h.2.1 h.2.2) (by kernel_rfl) hO
 exact ⟨O', h1, fun a b c r rest e g1 g2 g3 H args ha => h2 (a, b, c, r, rest, e) ⟨g1, g2, g3⟩ H args ha, h3⟩
theorem Z0p (f : Nat -> Nat) : ∀ l : List Int, renL f (ksC l) = ksC l
 | [] => rfl
 | x :: l => by
  have := Z0p f l
  simp only [ksC, List.map_cons, renL, ren] at this ⊢
  rw [this]
theorem Z0r (f : Nat -> Nat) : ∀ l : List Ev, renL f (Z14 l) = Z14 l
 | [] => rfl
 | e :: l => by
  simp only [Z14, Z0c, List.cons_append, List.nil_append, renL, ren, Z0r f l]
theorem stk {P Q : Prop} (q : Q) (h : ZcF P Q := by
 first
 | (refine swA (Wk.int ?_); (focus (first | rfl | (simp; done) | omega | (simp; omega)))) | exact swA (Wk.noref rfl)
 | (refine swA (Wk.slice rfl ?_ ?_ ?_ ?_ ?_) <;> (first | exact rfl | exact Nat.le_refl _ | (simp; done) | omega))
 | (refine swA (Wk.bool ?_); (focus (first | rfl | (simp; done)))) | exact swA (Wk.ptr rfl rfl)) : P := h q
theorem sth {P Q : Prop} (q : Q) (h : ZcF P Q := by
 first
 | exact swA ⟨rfl, rfl, rfl, rfl, BodyGe.pre (rest := []) rfl rfl⟩
 | (refine swA ⟨rfl, rfl, rfl, rfl, BodyGe.cellsL ?_⟩; (focus ((repeat (first | exact trivial | refine stk ?_)); done)))
 | (refine swA ⟨rfl, rfl, rfl, rfl, BodyGe.pre (rest := []) ?_ ?_⟩; (focus (first | (rw [List.append_nil]; done) | (rw [List.append_nil]; rfl) | (rw [List.append_nil]; simp only [Z0p, Z0r]; done) | (rw [List.append_nil]; simp [ksC, Z14, ZdH, Z0c]; done))); (focus (first | exact Z0R _ | exact Z5x _)))) : P := h q
theorem hpA {H : Z00} {m l : List Nat} {H2 : Z00} {i : Nat} (h : HpGe H m l H2 i := by (repeat (first | exact trivial | refine sth ?_)); first | done | fail) : HpGe H m l H2 i := h
theorem fgA {k : Nat} {t0 tm : Tr} {H : Z00} {l : List (Nat × AV)} {H2 : Z00} (m : List Nat) (h2 : HpGe H m m H2 0 := by (repeat (first | exact trivial | refine sth ?_)); first | done | fail) (h1 : SlotsGe m tm l := by (repeat (first | exact trivial | refine stw ?_)); first | done | fail) (hk : Zer k 0 m = true := by exact rfl) (h : Zfj t0 tm = true := by exact rfl)
 (h3 : Z0Q (m.map (Z1r H)) = true := by exact rfl) : FgLK k t0 tm H l H2 := FgLK.mk m hk h h1 h2 h3
theorem Z4x {k : Nat} {H N : Z00} {u r : AV} (m : List Nat) (h2 : HpGe H m m N 0 := by (repeat (first | exact trivial | refine sth ?_)); first | done | fail) (hk : Zer k 0 m = true := by exact rfl) (h3 : Z0Q (m.map (Z1r H)) = true := by exact rfl)
 (hw : Wk m u r := by first | exact Wk.noref rfl | exact Wk.ptr rfl rfl) : ∃ m, Zer k 0 m = true /\ HpGe H m m N 0 /\ Z0Q (m.map (Z1r H)) = true /\ Wk m u r := ⟨m, hk, h2, h3, hw⟩
theorem Zl7 {H N : Z00} {u r : AV} (m : List Nat) (h2 : HpGe H m m N 0 := by (repeat (first | exact trivial | refine sth ?_)); first | done | fail) (h3 : Z0Q (m.map (Z1r H)) = true := by exact rfl)
 (hw : Wk m u r := by first | exact Wk.noref rfl | exact Wk.ptr rfl rfl) : ∃ m, HpGe H m m N 0 /\ Z0Q (m.map (Z1r H)) = true /\ Wk m u r := ⟨m, h2, h3, hw⟩
end Go.Proofs.YteidjbahodbgdaaGreatDoor.lex
end

section
namespace Go.Proofs.YteidjbahodbgdaaGreatDoor.lex
open Go.Abs Go.RowKit Go.Flat
set_option maxRecDepth 100000
set_option maxHeartbeats 4000000
variable {gl : Z0l}
def ZeI (f : Nat) : Bool := Nat.beq f 62
abbrev evF : Ex -> List Int -> Int := fun e r => evC r e
def Z2c : Stp -> Bool
 | .on _ => true
 | _ => false
def Z4t (regs : Int) (l : List Ins) (s : Th) (asked : Int) : Stp -> Z00
 | .on t => thH regs l t asked 0 false
 | .ends e => thH regs l s asked e false
 | .asks => thH regs l s asked 0 true
structure InsOK (regs n : Nat) (i : Ins) : Prop where
 kind : 1 <= i.kind /\ i.kind <= 13
 reg : Z36 i.kind = true -> 0 <= i.reg /\ i.reg < regs
 to : toB i.kind = true -> 0 <= i.to /\ i.to < n
 nex : (i.ex.length : Int) = Z3W i.kind
 right : ∀ e ∈ i.ex, Z0q regs e = true
 ok : ∀ e ∈ i.ex, okE e /\ Z0f e <= 1048576
theorem Z2J {l : List Ex} (h : l.length = 1) : ∃ x, l = [x] := by
 match l, h with
 | [x], _ => exact ⟨x, rfl⟩
def StT (gl : Z0l) (k : Int) : Prop := ∀ (regs : Nat) (l : List Ins) (s_at : Nat) (r : List Int) (evs : List Ev) (asked : Int) (rg lo od to_ : Int) (ex : List Ex), s_at < l.length -> l.length <= 4000 -> r.length = regs -> evs.length <= 1048576 -> InsOK regs l.length ⟨k, rg, lo, od, to_, ex⟩ ->
 IntKind.i64.wrap ((s_at : Int) + 1) = ((s_at + 1 : Nat) : Int) -> Z74 Tryz.prog 33 33 = some (47, 5, 40) -> tk 6 ((inC l).drop (s_at * 6)) = some (Z0m ⟨k, rg, lo, od, to_, ex⟩) ->
 Z76 Tryz.prog gl 2 67 [.ptr 0 0] (thH regs l ⟨s_at, r, evs⟩ asked 0 false) (.bool (Z2c (Flat.stp evF ⟨k, rg, lo, od, to_, ex⟩ ⟨s_at, r, evs⟩))) (Z4t regs l ⟨s_at, r, evs⟩ asked (Flat.stp evF ⟨k, rg, lo, od, to_, ex⟩ ⟨s_at, r, evs⟩))
theorem StT.at {k : Int} (h : StT gl k) (regs : Nat) (l : List Ins) (s_at : Nat) (r : List Int) (evs : List Ev) (asked : Int) (rg lo od to_ : Int) (ex : List Ex) (ha : s_at < l.length) (hl : l.length <= 4000) (hrl : r.length = regs) (hev : evs.length <= 1048576) (hi : l[s_at] = ⟨k, rg, lo, od, to_, ex⟩) (ho : InsOK regs l.length ⟨k, rg, lo, od, to_, ex⟩) :
  Z76 Tryz.prog gl 2 67 [.ptr 0 0] (thH regs l ⟨s_at, r, evs⟩ asked 0 false) (.bool (Z2c (Flat.stp evF ⟨k, rg, lo, od, to_, ex⟩ ⟨s_at, r, evs⟩))) (Z4t regs l ⟨s_at, r, evs⟩ asked (Flat.stp evF ⟨k, rg, lo, od, to_, ex⟩ ⟨s_at, r, evs⟩)) :=
 h regs l s_at r evs asked rg lo od to_ ex ha hl hrl hev ho (Z2n (by omega)) (by kernel_rfl) (by have hx := in6 l s_at ha; rw [hi] at hx; exact hx)
theorem Zlk : StT gl 1 := by
 intro regs l s_at r evs asked rg lo od to_ ex ha hl hrl hev ho wa hT hx
 obtain ⟨x, rfl⟩ := Z2J (l := ex) (by have := ho.nex; rw [show Z3W 1 = 1 by decide] at this; simp only at this; omega)
 have hrx := ho.right x (by simp)
 have hox := ho.ok x (by simp)
 rw [<- hrl] at hrx
 have hval : val evF (⟨1, rg, lo, od, to_, [x]⟩ : Ins) r 0 = evC r x := rfl
 obtain ⟨O, hO, q3, -⟩ := Z4k (gl := gl) Z05
 have q1 := fun E => q3 (.int .i64 regs) (.rs l.length 6 (inC l)) (.int .i64 (s_at : Nat)) r [E, .int .i64 asked, .int .i64 0, .bool false] x hox.1 hox.2 hrx
 clear q3
 rw [show Flat.stp evF ⟨1, rg, lo, od, to_, [x]⟩ ⟨s_at, r, evs⟩ = .on ⟨s_at + 1, r.set rg.toNat (evC r x), evs⟩ by simp [Flat.stp, hval]]
 obtain ⟨g, rfl⟩ : ∃ g : Nat, rg = g := ⟨rg.toNat, by have := (ho.reg rfl).1; simp only at this; omega⟩
 have hg : g < r.length := by have := (ho.reg rfl).2; simp only at this; omega
 simp only [Int.toNat_natCast]
 clear hrx hox ho hval
 generalize evC r x = v at *
 obtain ⟨xo, xn, xs, xk⟩ := x
 simp only [Z0m, exA, exC, Ex.cells, List.append_nil, List.length_cons, List.length_nil] at *
 rcases evs with _ | ⟨e0, evs⟩
 case' nil => have q1 := q1 .nslice
 case' cons => have q1 := q1 (.rs (evs.length + 1) 5 (Z14 (e0 :: evs))); have hcl := Z0g e0 evs; have hon := Z10 (e0 :: evs); simp only [List.length_cons] at hev
 all_goals
  simp only [thH, grA, grB, Z2c, Z4t, List.length_cons]
  refine Z0Z ZeI 4 follows Z09 hO Tryz.func67 rfl ?_
  repeat' ((conv => whnf); first | (with_reducible refine exW wa ?_) | (refine exI hx ?_) | (with_reducible refine ixJ s_at rfl ?_ ?_; (focus (omega))) | (refine exI (q1 _ _ ?_) ?_; (focus (first | exact Z1a rfl (Z02 (n := 27) (b := 1) rfl (Z0d _) (Z0e _)) (Z02 (n := 27) (b := 2) rfl (Z0g _ _) (Z0t _)) rfl | exact Z1a rfl (Z02 (n := 27) (b := 1) rfl (Z0d _) (Z0e _)) rfl rfl))) | (refine exI (Z4F r g _ hg (by omega)) ?_) | (with_reducible refine ixJ g rfl ?_ ?_; (focus (omega))) | (refine apS ?_) | (first | refine stp ?_ | with_reducible refine Z01 (fun h => ?_) (fun h => ?_)))
  all_goals (conv => whnf)
  all_goals first | exact Z4x [0, 1] | exact Z4x [0, 1, 2]
theorem ZhA : StT gl 3 := by
 intro regs l s_at r evs asked rg lo od to_ ex ha hl hrl hev ho wa hT hx
 obtain ⟨x, rfl⟩ := Z2J (l := ex) (by have := ho.nex; rw [show Z3W 3 = 1 by decide] at this; simp only at this; omega)
 have hrx := ho.right x (by simp)
 have hox := ho.ok x (by simp)
 rw [<- hrl] at hrx
 have hval : val evF (⟨3, rg, lo, od, to_, [x]⟩ : Ins) r 0 = evC r x := rfl
 obtain ⟨O, hO, q3, -⟩ := Z4k (gl := gl) Z05
 have q1 := fun E => q3 (.int .i64 regs) (.rs l.length 6 (inC l)) (.int .i64 (s_at : Nat)) r [E, .int .i64 asked, .int .i64 0, .bool false] x hox.1 hox.2 hrx
 clear q3
 rw [show Flat.stp evF ⟨3, rg, lo, od, to_, [x]⟩ ⟨s_at, r, evs⟩ = .on ⟨s_at + 1, r, evs ++ [⟨2, lo, od, 0, evC r x⟩]⟩ by simp [Flat.stp, hval]]
 clear hrx hox ho hval
 generalize evC r x = v at *
 obtain ⟨xo, xn, xs, xk⟩ := x
 simp only [Z0m, exA, exC, Ex.cells, List.append_nil, List.length_cons, List.length_nil] at *
 rcases evs with _ | ⟨e0, evs⟩
 case' nil => have q1 := q1 .nslice
 case' cons => have q1 := q1 (.rs (evs.length + 1) 5 (Z14 (e0 :: evs))); have hcl := Z0g e0 evs; have hon := Z10 (e0 :: evs); simp only [List.length_cons] at hev
 all_goals
  simp only [thH, grA, grB, Z2c, Z4t, List.length_cons]
  refine Z0Z ZeI 4 follows Z09 hO Tryz.func67 rfl ?_
  repeat' ((conv => whnf); first | (with_reducible refine exW wa ?_) | (refine exI hx ?_) | (with_reducible refine ixJ s_at rfl ?_ ?_; (focus (omega))) | (refine exI (q1 _ _ ?_) ?_; (focus (first | exact Z1a rfl (Z02 (n := 27) (b := 1) rfl (Z0d _) (Z0e _)) (Z02 (n := 27) (b := 2) rfl (Z0g _ _) (Z0t _)) rfl | exact Z1a rfl (Z02 (n := 27) (b := 1) rfl (Z0d _) (Z0e _)) rfl rfl))) | (refine apS ?_) | (first | refine stp ?_ | with_reducible refine Z01 (fun h => ?_) (fun h => ?_)))
  all_goals (conv => whnf)
  all_goals first | exact Z4x [0, 1, 7] | exact Z4x [0, 1, 8]
theorem ZhB : StT gl 7 := by
 intro regs l s_at r evs asked rg lo od to_ ex ha hl hrl hev ho wa hT hx
 have hO := Z05 (gl := gl)
 rw [show Flat.stp evF ⟨7, rg, lo, od, to_, ex⟩ ⟨s_at, r, evs⟩ = .on ⟨s_at + 1, r, evs ++ [⟨4, 0, od, 0, 0⟩]⟩ by simp [Flat.stp]]
 simp only [Z0m, exA] at *
 rcases evs with _ | ⟨e0, evs⟩
 case' cons => have hcl := Z0g e0 evs; have hon := Z10 (e0 :: evs); simp only [List.length_cons] at hev
 all_goals
  simp only [thH, grA, grB, Z2c, Z4t, List.length_cons]
  refine Z0Z ZeI 4 follows Z09 hO Tryz.func67 rfl ?_
  repeat' ((conv => whnf); first | (with_reducible refine exW wa ?_) | (refine exI hx ?_) | (with_reducible refine ixJ s_at rfl ?_ ?_; (focus (omega))) | (refine apS ?_) | (first | refine stp ?_ | with_reducible refine Z01 (fun h => ?_) (fun h => ?_)))
  all_goals (conv => whnf)
  all_goals first | exact Z4x [0, 1, 7] | exact Z4x [0, 1, 8]
theorem Zfq : StT gl 8 := by
 intro regs l s_at r evs asked rg lo od to_ ex ha hl hrl hev ho wa hT hx
 obtain ⟨x, rfl⟩ := Z2J (l := ex) (by have := ho.nex; rw [show Z3W 8 = 1 by decide] at this; simp only at this; omega)
 have hrx := ho.right x (by simp)
 have hox := ho.ok x (by simp)
 rw [<- hrl] at hrx
 have hval : val evF (⟨8, rg, lo, od, to_, [x]⟩ : Ins) r 0 = evC r x := rfl
 obtain ⟨O, hO, q3, -⟩ := Z4k (gl := gl) Z05
 have q1 := fun E => q3 (.int .i64 regs) (.rs l.length 6 (inC l)) (.int .i64 (s_at : Nat)) r [E, .int .i64 asked, .int .i64 0, .bool false] x hox.1 hox.2 hrx
 clear q3
 rw [show Flat.stp evF ⟨8, rg, lo, od, to_, [x]⟩ ⟨s_at, r, evs⟩ = if evC r x = 0 then .ends 2 else .on ⟨s_at + 1, r, evs⟩ by simp [Flat.stp, hval]]
 clear hrx hox ho hval
 generalize evC r x = v at *
 obtain ⟨xo, xn, xs, xk⟩ := x
 simp only [Z0m, exA, exC, Ex.cells, List.append_nil, List.length_cons, List.length_nil] at *
 rcases evs with _ | ⟨e0, evs⟩
 case' nil => have q1 := q1 .nslice
 case' cons => have q1 := q1 (.rs (evs.length + 1) 5 (Z14 (e0 :: evs))); have hcl := Z0g e0 evs; have hon := Z10 (e0 :: evs); simp only [List.length_cons] at hev
 all_goals by_cases hv : v = 0
 all_goals (try (have ev0 : (v == 0) = true := by simpa using hv)); (try (have ev0 : (v == 0) = false := by simpa using hv))
 all_goals
  simp only [hv, if_true, if_false]
  simp only [thH, grA, grB, Z2c, Z4t, List.length_cons]
  refine Z0Z ZeI 4 follows Z09 hO Tryz.func67 rfl ?_
  repeat' ((conv => whnf); first | (with_reducible refine exW wa ?_) | (refine exI hx ?_) | (with_reducible refine ixJ s_at rfl ?_ ?_; (focus (omega))) | (refine exI (q1 _ _ ?_) ?_; (focus (first | exact Z1a rfl (Z02 (n := 27) (b := 1) rfl (Z0d _) (Z0e _)) (Z02 (n := 27) (b := 2) rfl (Z0g _ _) (Z0t _)) rfl | exact Z1a rfl (Z02 (n := 27) (b := 1) rfl (Z0d _) (Z0e _)) rfl rfl))) | (refine apS ?_) | (first | refine stp ?_ | with_reducible refine Z01 (fun h => ?_) (fun h => ?_)))
  all_goals (conv => whnf)
  all_goals first | exact Z4x [0, 1] | exact Z4x [0, 1, 2]
theorem Zfr : StT gl 9 := by
 intro regs l s_at r evs asked rg lo od to_ ex ha hl hrl hev ho wa hT hx
 obtain ⟨x, rfl⟩ := Z2J (l := ex) (by have := ho.nex; rw [show Z3W 9 = 1 by decide] at this; simp only at this; omega)
 have hrx := ho.right x (by simp)
 have hox := ho.ok x (by simp)
 rw [<- hrl] at hrx
 have hval : val evF (⟨9, rg, lo, od, to_, [x]⟩ : Ins) r 0 = evC r x := rfl
 obtain ⟨O, hO, q3, -⟩ := Z4k (gl := gl) Z05
 have q1 := fun E => q3 (.int .i64 regs) (.rs l.length 6 (inC l)) (.int .i64 (s_at : Nat)) r [E, .int .i64 asked, .int .i64 0, .bool false] x hox.1 hox.2 hrx
 clear q3
 rw [show Flat.stp evF ⟨9, rg, lo, od, to_, [x]⟩ ⟨s_at, r, evs⟩ = if evC r x = 0 then .ends 3 else .on ⟨s_at + 1, r, evs⟩ by simp [Flat.stp, hval]]
 clear hrx hox ho hval
 generalize evC r x = v at *
 obtain ⟨xo, xn, xs, xk⟩ := x
 simp only [Z0m, exA, exC, Ex.cells, List.append_nil, List.length_cons, List.length_nil] at *
 rcases evs with _ | ⟨e0, evs⟩
 case' nil => have q1 := q1 .nslice
 case' cons => have q1 := q1 (.rs (evs.length + 1) 5 (Z14 (e0 :: evs))); have hcl := Z0g e0 evs; have hon := Z10 (e0 :: evs); simp only [List.length_cons] at hev
 all_goals by_cases hv : v = 0
 all_goals (try (have ev0 : (v == 0) = true := by simpa using hv)); (try (have ev0 : (v == 0) = false := by simpa using hv))
 all_goals
  simp only [hv, if_true, if_false]
  simp only [thH, grA, grB, Z2c, Z4t, List.length_cons]
  refine Z0Z ZeI 4 follows Z09 hO Tryz.func67 rfl ?_
  repeat' ((conv => whnf); first | (with_reducible refine exW wa ?_) | (refine exI hx ?_) | (with_reducible refine ixJ s_at rfl ?_ ?_; (focus (omega))) | (refine exI (q1 _ _ ?_) ?_; (focus (first | exact Z1a rfl (Z02 (n := 27) (b := 1) rfl (Z0d _) (Z0e _)) (Z02 (n := 27) (b := 2) rfl (Z0g _ _) (Z0t _)) rfl | exact Z1a rfl (Z02 (n := 27) (b := 1) rfl (Z0d _) (Z0e _)) rfl rfl))) | (refine apS ?_) | (first | refine stp ?_ | with_reducible refine Z01 (fun h => ?_) (fun h => ?_)))
  all_goals (conv => whnf)
  all_goals first | exact Z4x [0, 1] | exact Z4x [0, 1, 2]
theorem ZjA : StT gl 10 := by
 intro regs l s_at r evs asked rg lo od to_ ex ha hl hrl hev ho wa hT hx
 have hO := Z05 (gl := gl)
 rw [show Flat.stp evF ⟨10, rg, lo, od, to_, ex⟩ ⟨s_at, r, evs⟩ = .on ⟨to_.toNat, r, evs⟩ by simp [Flat.stp]]
 obtain ⟨g, rfl⟩ : ∃ g : Nat, to_ = g := ⟨to_.toNat, by have := (ho.to rfl).1; simp only at this; omega⟩
 simp only [Int.toNat_natCast]
 simp only [Z0m, exA] at *
 rcases evs with _ | ⟨e0, evs⟩
 case' cons => have hcl := Z0g e0 evs; have hon := Z10 (e0 :: evs); simp only [List.length_cons] at hev
 all_goals
  simp only [thH, grA, grB, Z2c, Z4t, List.length_cons]
  refine Z0Z ZeI 4 follows Z09 hO Tryz.func67 rfl ?_
  repeat' ((conv => whnf); first | (with_reducible refine exW wa ?_) | (refine exI hx ?_) | (with_reducible refine ixJ s_at rfl ?_ ?_; (focus (omega))) | (refine apS ?_) | (first | refine stp ?_ | with_reducible refine Z01 (fun h => ?_) (fun h => ?_)))
  all_goals (conv => whnf)
  all_goals first | exact Z4x [0, 1] | exact Z4x [0, 1, 2]
theorem Zfp : StT gl 11 := by
 intro regs l s_at r evs asked rg lo od to_ ex ha hl hrl hev ho wa hT hx
 obtain ⟨x, rfl⟩ := Z2J (l := ex) (by have := ho.nex; rw [show Z3W 11 = 1 by decide] at this; simp only at this; omega)
 have hrx := ho.right x (by simp)
 have hox := ho.ok x (by simp)
 rw [<- hrl] at hrx
 have hval : val evF (⟨11, rg, lo, od, to_, [x]⟩ : Ins) r 0 = evC r x := rfl
 obtain ⟨O, hO, q3, -⟩ := Z4k (gl := gl) Z05
 have q1 := fun E => q3 (.int .i64 regs) (.rs l.length 6 (inC l)) (.int .i64 (s_at : Nat)) r [E, .int .i64 asked, .int .i64 0, .bool false] x hox.1 hox.2 hrx
 clear q3
 rw [show Flat.stp evF ⟨11, rg, lo, od, to_, [x]⟩ ⟨s_at, r, evs⟩ = if evC r x = 0 then .on ⟨to_.toNat, r, evs⟩ else .on ⟨s_at + 1, r, evs⟩ by simp [Flat.stp, hval]]
 obtain ⟨g, rfl⟩ : ∃ g : Nat, to_ = g := ⟨to_.toNat, by have := (ho.to rfl).1; simp only at this; omega⟩
 simp only [Int.toNat_natCast]
 clear hrx hox ho hval
 generalize evC r x = v at *
 obtain ⟨xo, xn, xs, xk⟩ := x
 simp only [Z0m, exA, exC, Ex.cells, List.append_nil, List.length_cons, List.length_nil] at *
 rcases evs with _ | ⟨e0, evs⟩
 case' nil => have q1 := q1 .nslice
 case' cons => have q1 := q1 (.rs (evs.length + 1) 5 (Z14 (e0 :: evs))); have hcl := Z0g e0 evs; have hon := Z10 (e0 :: evs); simp only [List.length_cons] at hev
 all_goals by_cases hv : v = 0
 all_goals (try (have ev0 : (v == 0) = true := by simpa using hv)); (try (have ev0 : (v == 0) = false := by simpa using hv))
 all_goals
  simp only [hv, if_true, if_false]
  simp only [thH, grA, grB, Z2c, Z4t, List.length_cons]
  refine Z0Z ZeI 4 follows Z09 hO Tryz.func67 rfl ?_
  repeat' ((conv => whnf); first | (with_reducible refine exW wa ?_) | (refine exI hx ?_) | (with_reducible refine ixJ s_at rfl ?_ ?_; (focus (omega))) | (refine exI (q1 _ _ ?_) ?_; (focus (first | exact Z1a rfl (Z02 (n := 27) (b := 1) rfl (Z0d _) (Z0e _)) (Z02 (n := 27) (b := 2) rfl (Z0g _ _) (Z0t _)) rfl | exact Z1a rfl (Z02 (n := 27) (b := 1) rfl (Z0d _) (Z0e _)) rfl rfl))) | (refine apS ?_) | (first | refine stp ?_ | with_reducible refine Z01 (fun h => ?_) (fun h => ?_)))
  all_goals (conv => whnf)
  all_goals first | exact Z4x [0, 1] | exact Z4x [0, 1, 2]
theorem ZhC : StT gl 12 := by
 intro regs l s_at r evs asked rg lo od to_ ex ha hl hrl hev ho wa hT hx
 have hO := Z05 (gl := gl)
 rw [show Flat.stp evF ⟨12, rg, lo, od, to_, ex⟩ ⟨s_at, r, evs⟩ = .ends 4 by simp [Flat.stp]]
 simp only [Z0m, exA] at *
 rcases evs with _ | ⟨e0, evs⟩
 case' cons => have hcl := Z0g e0 evs; have hon := Z10 (e0 :: evs); simp only [List.length_cons] at hev
 all_goals
  simp only [thH, grA, grB, Z2c, Z4t, List.length_cons]
  refine Z0Z ZeI 4 follows Z09 hO Tryz.func67 rfl ?_
  repeat' ((conv => whnf); first | (with_reducible refine exW wa ?_) | (refine exI hx ?_) | (with_reducible refine ixJ s_at rfl ?_ ?_; (focus (omega))) | (refine apS ?_) | (first | refine stp ?_ | with_reducible refine Z01 (fun h => ?_) (fun h => ?_)))
  all_goals (conv => whnf)
  all_goals first | exact Z4x [0, 1] | exact Z4x [0, 1, 2]
theorem ZjB : StT gl 13 := by
 intro regs l s_at r evs asked rg lo od to_ ex ha hl hrl hev ho wa hT hx
 have hO := Z05 (gl := gl)
 rw [show Flat.stp evF ⟨13, rg, lo, od, to_, ex⟩ ⟨s_at, r, evs⟩ = .ends 1 by simp [Flat.stp]]
 simp only [Z0m, exA] at *
 rcases evs with _ | ⟨e0, evs⟩
 case' cons => have hcl := Z0g e0 evs; have hon := Z10 (e0 :: evs); simp only [List.length_cons] at hev
 all_goals
  simp only [thH, grA, grB, Z2c, Z4t, List.length_cons]
  refine Z0Z ZeI 4 follows Z09 hO Tryz.func67 rfl ?_
  repeat' ((conv => whnf); first | (with_reducible refine exW wa ?_) | (refine exI hx ?_) | (with_reducible refine ixJ s_at rfl ?_ ?_; (focus (omega))) | (refine apS ?_) | (first | refine stp ?_ | with_reducible refine Z01 (fun h => ?_) (fun h => ?_)))
  all_goals (conv => whnf)
  all_goals first | exact Z4x [0, 1] | exact Z4x [0, 1, 2]
theorem Zjz : StT gl 2 := by
 intro regs l s_at r evs asked rg lo od to_ ex ha hl hrl hev ho wa hT hx
 have hO := Z05 (gl := gl)
 rw [show Flat.stp evF ⟨2, rg, lo, od, to_, ex⟩ ⟨s_at, r, evs⟩ = .asks by simp [Flat.stp]]
 simp only [Z0m, exA] at *
 rcases evs with _ | ⟨e0, evs⟩
 case' cons => have hcl := Z0g e0 evs; have hon := Z10 (e0 :: evs); simp only [List.length_cons] at hev
 all_goals
  simp only [thH, grA, grB, Z2c, Z4t, List.length_cons]
  refine Z0Z ZeI 4 follows Z09 hO Tryz.func67 rfl ?_
  repeat' ((conv => whnf); first | (with_reducible refine exW wa ?_) | (refine exI hx ?_) | (with_reducible refine ixJ s_at rfl ?_ ?_; (focus (omega))) | (refine apS ?_) | (first | refine stp ?_ | with_reducible refine Z01 (fun h => ?_) (fun h => ?_)))
  all_goals (conv => whnf)
  all_goals first | exact Z4x [0, 1] | exact Z4x [0, 1, 2]
theorem Zll : StT gl 4 := by
 intro regs l s_at r evs asked rg lo od to_ ex ha hl hrl hev ho wa hT hx
 have hO := Z05 (gl := gl)
 rw [show Flat.stp evF ⟨4, rg, lo, od, to_, ex⟩ ⟨s_at, r, evs⟩ = .asks by simp [Flat.stp]]
 simp only [Z0m, exA] at *
 rcases evs with _ | ⟨e0, evs⟩
 case' cons => have hcl := Z0g e0 evs; have hon := Z10 (e0 :: evs); simp only [List.length_cons] at hev
 all_goals
  simp only [thH, grA, grB, Z2c, Z4t, List.length_cons]
  refine Z0Z ZeI 4 follows Z09 hO Tryz.func67 rfl ?_
  repeat' ((conv => whnf); first | (with_reducible refine exW wa ?_) | (refine exI hx ?_) | (with_reducible refine ixJ s_at rfl ?_ ?_; (focus (omega))) | (refine apS ?_) | (first | refine stp ?_ | with_reducible refine Z01 (fun h => ?_) (fun h => ?_)))
  all_goals (conv => whnf)
  all_goals first | exact Z4x [0, 1] | exact Z4x [0, 1, 2]
theorem Zlm : StT gl 5 := by
 intro regs l s_at r evs asked rg lo od to_ ex ha hl hrl hev ho wa hT hx
 have hO := Z05 (gl := gl)
 rw [show Flat.stp evF ⟨5, rg, lo, od, to_, ex⟩ ⟨s_at, r, evs⟩ = .asks by simp [Flat.stp]]
 simp only [Z0m, exA] at *
 rcases evs with _ | ⟨e0, evs⟩
 case' cons => have hcl := Z0g e0 evs; have hon := Z10 (e0 :: evs); simp only [List.length_cons] at hev
 all_goals
  simp only [thH, grA, grB, Z2c, Z4t, List.length_cons]
  refine Z0Z ZeI 4 follows Z09 hO Tryz.func67 rfl ?_
  repeat' ((conv => whnf); first | (with_reducible refine exW wa ?_) | (refine exI hx ?_) | (with_reducible refine ixJ s_at rfl ?_ ?_; (focus (omega))) | (refine apS ?_) | (first | refine stp ?_ | with_reducible refine Z01 (fun h => ?_) (fun h => ?_)))
  all_goals (conv => whnf)
  all_goals first | exact Z4x [0, 1] | exact Z4x [0, 1, 2]
theorem Zjy : StT gl 6 := by
 intro regs l s_at r evs asked rg lo od to_ ex ha hl hrl hev ho wa hT hx
 have hO := Z05 (gl := gl)
 rw [show Flat.stp evF ⟨6, rg, lo, od, to_, ex⟩ ⟨s_at, r, evs⟩ = .asks by simp [Flat.stp]]
 simp only [Z0m, exA] at *
 rcases evs with _ | ⟨e0, evs⟩
 case' cons => have hcl := Z0g e0 evs; have hon := Z10 (e0 :: evs); simp only [List.length_cons] at hev
 all_goals
  simp only [thH, grA, grB, Z2c, Z4t, List.length_cons]
  refine Z0Z ZeI 4 follows Z09 hO Tryz.func67 rfl ?_
  repeat' ((conv => whnf); first | (with_reducible refine exW wa ?_) | (refine exI hx ?_) | (with_reducible refine ixJ s_at rfl ?_ ?_; (focus (omega))) | (refine apS ?_) | (first | refine stp ?_ | with_reducible refine Z01 (fun h => ?_) (fun h => ?_)))
  all_goals (conv => whnf)
  all_goals first | exact Z4x [0, 1] | exact Z4x [0, 1, 2]
end Go.Proofs.YteidjbahodbgdaaGreatDoor.lex
end

section
namespace Go.Proofs.YteidjbahodbgdaaGreatDoor.lex
open Go.Abs Go.RowKit Go.Flat
set_option maxRecDepth 100000
set_option maxHeartbeats 4000000
variable {gl : Z0l}
def Z2t (pre : List Ev) (regs : Int) (l : List Ins) (s : Th) (asked fin : Int) (asks : Bool) : Z00 := match pre with
 | [] => thH regs l s asked fin asks
 | _ :: _ => ⟨true, 0, 0, .cells [.int .i64 regs, .rs l.length 6 (inC l), .int .i64 (s.at_ : Nat), .slice 1 0 s.regs.length s.regs.length 1, grA 3 5 s.evs, .int .i64 asked, .int .i64 fin, .bool asks] 69⟩ :: ⟨true, 1, 0, .cells (ksC s.regs) 2⟩ :: ⟨false, 2, 0, .cells [] 0⟩ :: (match s.evs with
  | [] => []
  | e :: r => [⟨true, 2, 0, .cells (Z14 (e :: r)) 47⟩])
theorem Z2R {regs : Int} {l : List Ins} {s : Th} {asked fin : Int} {asks : Bool} {i : Nat} {o : AObj} (h : (thH regs l s asked fin asks)[i]? = some o) : o.sh = 0 /\ o.fam = i /\ o.alive = true /\ Z0M 3 (Z3I o.body []) = true := by
 unfold thH at h
 match i with
 | 0 =>
  cases h
  refine ⟨rfl, rfl, rfl, ?_⟩
  cases s.evs <;> rfl
 | 1 =>
  cases h
  refine ⟨rfl, rfl, rfl, ?_⟩
  show Z0M 3 (refsL (ksC s.regs) []) = true
  rw [Z0R]; rfl
 | 2 =>
  cases he : s.evs with
  | nil => rw [he] at h; cases h
  | cons e r =>
   rw [he] at h
   cases h
   refine ⟨rfl, rfl, rfl, ?_⟩
   show Z0M 3 (refsL (Z14 (e :: r)) []) = true
   rw [Z5x]; rfl
 | n + 3 =>
  cases he : s.evs with
  | nil => rw [he] at h; cases h
  | cons e r => rw [he] at h; cases h
theorem Z5m {f : Nat} {args : List AV} {r : AV} {regs : Int} {l : List Ins} {s0 s : Th} {a0 f0 a1 f1 : Int} {k0 k1 : Bool} (hM : Z76 Tryz.prog gl 2 f args (thH regs l s0 a0 f0 k0) r (thH regs l s a1 f1 k1)) (hev : s0.evs ≠ [] -> s.evs ≠ []) (hr : ∀ g, ren g r = r) (hrr : Z0M 3 (Z1N r []) = true) :
  Z1O Tryz.prog gl f args (thH regs l s0 a0 f0 k0) r (Z2t s0.evs regs l s a1 f1 k1) := by
 obtain ⟨p, rg, ev⟩ := s
 obtain ⟨p0, rg0, ev0⟩ := s0
 cases ev with
 | nil =>
  cases ev0 with
  | cons e r => exact absurd rfl (hev (by simp))
  | nil =>
   refine Zg3 hM rfl rfl fun b o o' h h' => ?_
   have h1 := Z2R h
   have h2 := Z2R h'
   exact ⟨by rw [h1.2.1, h2.2.1], by rw [h1.1, h2.1], fun _ => h1.2.2.1⟩
 | cons e ev =>
  have h := Z2m hM (by show 2 <= (thH regs l ⟨p0, rg0, ev0⟩ a0 f0 k0).length; cases ev0 with | nil => exact Nat.le_refl _ | cons _ _ => exact Nat.le_succ _) (Nat.le_succ _) (fun i o h => (Z2R h).2) (fun i o h => ⟨(Z2R h).2.2.1, (Z2R h).2.1⟩) hrr
  rw [hr] at h
  cases ev0 with
  | nil =>
   have e1 : Z4s 2 (sgE 2 (thH regs l ⟨p0, rg0, []⟩ a0 f0 k0).length) (thH regs l ⟨p, rg, e :: ev⟩ a1 f1 k1) 0 (thH regs l ⟨p0, rg0, []⟩ a0 f0 k0) ++ shE (sgE 2 (thH regs l ⟨p0, rg0, []⟩ a0 f0 k0).length) ((thH regs l ⟨p, rg, e :: ev⟩ a1 f1 k1).drop 2) = Z2t [] regs l ⟨p, rg, e :: ev⟩ a1 f1 k1 := by
    simp only [thH, grA, grB, Z2t, Z4s, shE, Z0r, List.drop_succ_cons, List.drop_zero, List.length_cons, List.length_nil, Nat.blt, Nat.ble, List.getElem?_cons_zero, List.getElem?_cons_succ, Z1C, Z0p, renL, ren]
    rfl
   rw [e1] at h; exact h
  | cons z ev0 =>
   have e1 : Z4s 2 (sgE 2 (thH regs l ⟨p0, rg0, z :: ev0⟩ a0 f0 k0).length) (thH regs l ⟨p, rg, e :: ev⟩ a1 f1 k1) 0 (thH regs l ⟨p0, rg0, z :: ev0⟩ a0 f0 k0) ++ shE (sgE 2 (thH regs l ⟨p0, rg0, z :: ev0⟩ a0 f0 k0).length) ((thH regs l ⟨p, rg, e :: ev⟩ a1 f1 k1).drop 2) = Z2t (z :: ev0) regs l ⟨p, rg, e :: ev⟩ a1 f1 k1 := by
    simp only [thH, grA, grB, Z2t, Z4s, shE, Z0r, List.drop_succ_cons, List.drop_zero, List.length_cons, List.length_nil, Nat.blt, Nat.ble, List.getElem?_cons_zero, List.getElem?_cons_succ, Z1C, Z0p, renL, ren]
    rfl
   rw [e1] at h; exact h
structure Runs (regs : Nat) (l : List Ins) : Prop where
 good : Good l
 ins : ∀ v, v < l.length -> InsOK regs l.length (Z0h l v)
theorem Z3R {c : Cd} (hok : okC c) (hs : ∀ i ∈ c.ins, ∀ e ∈ i.ex, Z0f e <= 800000) (hc : Z31 c = 0) : Runs c.regs.toNat c.ins /\ 0 <= c.regs /\ c.regs <= 16 := by
 have hf := Z62 hc
 have hr0 := hf.reg0
 refine ⟨⟨hf.good, fun v hv => ?_⟩, hf.reg0, hf.reg1⟩
 rw [Z2V hv]
 have hm := Z0i hv
 have hr := hf.right _ hm
 have ho := hok.2 _ hm
 have hz := hs _ hm
 generalize c.ins[v] = i at *
 unfold Z0I at hr
 simp only [Bool.and_eq_true, decide_eq_true_eq, beq_iff_eq] at hr
 obtain ⟨h1, h2, h3, h4, h5, h6, h7⟩ := hr
 refine ⟨h1, fun h => ?_, fun h => ?_, h6, fun e he => ?_, fun e he => ⟨Z0H ho.2 _ he, by have := hz e he; omega⟩⟩
 · rw [h] at h2
   simp only [inW, if_true, Bool.and_eq_true, decide_eq_true_eq] at h2
   omega
 · rw [h] at h5
   simp only [inW, if_true, Bool.and_eq_true, decide_eq_true_eq] at h5
   exact h5
 · rw [show ((c.regs.toNat : Nat) : Int) = c.regs by omega]
   rw [Z4D] at h7
   exact List.all_eq_true.1 h7 e he
theorem Z9f {ev : Ex -> List Int -> Int} {i : Ins} {s t : Th} (h : Flat.stp ev i s = .on t) : t.regs.length = s.regs.length := by
 unfold Flat.stp at h
 simp only at h
 split at h
 · cases h; simp
 split at h
 · cases h; rfl
 split at h
 · cases h; rfl
 split at h
 · split at h <;> cases h; rfl
 split at h
 · split at h <;> cases h; rfl
 split at h
 · cases h; rfl
 split at h
 · split at h <;> cases h <;> rfl
 split at h
 · cases h
 split at h
 · cases h
 · cases h
theorem ZbT {ev : Ex -> List Int -> Int} {i : Ins} {s t : Th} (h : Flat.stp ev i s = .on t) : t.evs.length <= s.evs.length + 1 := by
 unfold Flat.stp at h
 simp only at h
 split at h
 · cases h; simp
 split at h
 · cases h; simp
 split at h
 · cases h; simp
 split at h
 · split at h <;> cases h; simp
 split at h
 · split at h <;> cases h; simp
 split at h
 · cases h; simp
 split at h
 · split at h <;> cases h <;> simp
 split at h
 · cases h
 split at h
 · cases h
 · cases h
theorem Zhx {regs : Nat} {l : List Ins} (hr : Runs regs l) (s : Th) (asked : Int) (ha : s.at_ < l.length) (hrl : s.regs.length = regs) (hev : s.evs.length <= 1048576) :
  Z76 Tryz.prog gl 2 67 [.ptr 0 0] (thH regs l s asked 0 false) (.bool (Z2c (Flat.stp evF (Z0h l s.at_) s))) (Z4t regs l s asked (Flat.stp evF (Z0h l s.at_) s)) := by
 have hi := hr.ins _ ha
 have hl := hr.good.few
 have he := Z2V ha
 obtain ⟨p, r, evs⟩ := s
 simp only at ha hrl hev he ⊢
 generalize Z0h l p = i at *
 obtain ⟨k, rg, lo, od, to, ex⟩ := i
 have hk := hi.kind
 simp only at hk
 have he := he.symm
 have : k = 1 \/ k = 2 \/ k = 3 \/ k = 4 \/ k = 5 \/ k = 6 \/ k = 7 \/ k = 8 \/ k = 9 \/ k = 10 \/ k = 11 \/ k = 12 \/ k = 13 := by omega
 rcases this with rfl | rfl | rfl | rfl | rfl | rfl | rfl | rfl | rfl | rfl | rfl | rfl | rfl
 all_goals refine StT.at ?_ regs l p r evs asked rg lo od to ex ha hl hrl hev he hi
 exact Zlk; exact Zjz; exact ZhA; exact Zll; exact Zlm; exact Zjy; exact ZhB; exact Zfq; exact Zfr; exact ZjA; exact Zfp; exact ZhC; exact ZjB
def ZaM (regs : Int) (l : List Ins) (s : Th) (asked : Int) : Stp -> Z00
 | .on t => Z2t s.evs regs l t asked 0 false
 | .ends e => Z2t s.evs regs l s asked e false
 | .asks => Z2t s.evs regs l s asked 0 true
theorem Zhy {regs : Nat} {l : List Ins} (hr : Runs regs l) (s : Th) (asked : Int) (ha : s.at_ < l.length) (hrl : s.regs.length = regs) (hev : s.evs.length <= 1048576) :
  Z1O Tryz.prog gl 67 [.ptr 0 0] (thH regs l s asked 0 false) (.bool (Z2c (Flat.stp evF (Z0h l s.at_) s))) (ZaM regs l s asked (Flat.stp evF (Z0h l s.at_) s)) := by
 have h := Zhx (gl := gl) hr s asked ha hrl hev
 cases hst : Flat.stp evF (Z0h l s.at_) s with
 | on t =>
  rw [hst] at h
  obtain ⟨m, h1, _⟩ := Z9g evF hst
  exact Z5m h (fun hn e => hn (by rw [h1] at e; exact (List.append_eq_nil_iff.1 e).1)) (fun _ => rfl) rfl
 | ends e => rw [hst] at h; exact Z5m h (fun hn => hn) (fun _ => rfl) rfl
 | asks => rw [hst] at h; exact Z5m h (fun hn => hn) (fun _ => rfl) rfl
theorem Zfi {regs : Int} {l : List Ins} {s t : Th} {a b f g : Int} {j k : Bool} (h : thH regs l s a f j = thH regs l t b g k) : s = t /\ a = b /\ f = g /\ j = k := by
 obtain ⟨p, r, ev⟩ := s
 obtain ⟨p', r', ev'⟩ := t
 simp only [thH, List.cons.injEq, AObj.mk.injEq, ABody.cells.injEq, AV.int.injEq, AV.bool.injEq, true_and, and_true] at h
 obtain ⟨⟨h1, h2, h3, h4, h5, h6⟩, h7, h8⟩ := h
 have e1 : r = r' := Z4H h7
 have e2 : ev = ev' := by
  cases ev with
  | nil => cases ev' with
   | nil => rfl
   | cons _ _ => simp [grA] at h3
  | cons x ev => cases ev' with
   | nil => simp [grA] at h3
   | cons y ev' =>
    simp only [grB, List.cons.injEq, AObj.mk.injEq, ABody.cells.injEq, true_and, and_true] at h8
    have inj : ∀ a b : List Ev, Z14 a = Z14 b -> a = b := by
     intro a
     induction a with
     | nil => intro b h; cases b with
      | nil => rfl
      | cons y b => simp [Z14, Z0c] at h
     | cons x a ih => intro b h; cases b with
      | nil => simp [Z14, Z0c] at h
      | cons y b =>
       simp only [Z14] at h
       have := List.append_inj h rfl
       rw [Z4L this.1, ih b this.2]
    exact inj _ _ h8
 subst e1; subst e2
 refine ⟨?_, h4, h5, h6⟩
 rw [show p = p' by omega]
def Zfl {regs : Nat} {l : List Ins} (hr : Runs regs l) : FamM Tryz.prog gl :=
 { I := Th × Int, f := 67, G := fun i => i.1.at_ < l.length /\ i.1.regs.length = regs /\ i.1.evs.length <= 1048576, A := fun _ => [.ptr 0 0], H := fun i => thH regs l i.1 i.2 0 false,
   R := fun i => .bool (Z2c (Flat.stp evF (Z0h l i.1.at_) i.1)), O := fun i => ZaM regs l i.1 i.2 (Flat.stp evF (Z0h l i.1.at_) i.1), body := (by kernel_rfl),
   inj := (fun i j _ _ _ h => by obtain ⟨e1, e2, _⟩ := Zfi h; rw [e1, e2]; exact ⟨rfl, rfl⟩), ok := fun i h => Zhy hr i.1 i.2 h.1 h.2.1 h.2.2 }
end Go.Proofs.YteidjbahodbgdaaGreatDoor.lex
end

section
namespace Go.Flat
variable {α : Type} (ev : α -> List Int -> Int) (wr : Int -> Int) (ins : Nat -> In α)
theorem Zjg {rank : Nat -> Nat} {f : Nat} (hr : ∀ v w, Rch (nxC ins) v -> w ∈ nxC ins v -> rank w < rank v) (hf : ∀ v, Rch (nxC ins) v -> rank v < f) {s t : Th} (hs : Rch (nxC ins) s.at_) (h : stp ev (ins s.at_) s = .on t) : adv ev ins f s = adv ev ins f t := by
 rw [<- Zab ev ins hr f s hs (hf _ hs)]
 show (match stp ev (ins s.at_) s with | .on t => adv ev ins f t | .ends e => (s, some e) | .asks => (s, none)) = _
 rw [h]
theorem Ze0 {rank : Nat -> Nat} {f : Nat} (hf : ∀ v, Rch (nxC ins) v -> rank v < f) {s : Th} {e : Int} (hs : Rch (nxC ins) s.at_) (h : stp ev (ins s.at_) s = .ends e) : adv ev ins f s = (s, some e) := by
 have ha := Z5H ev ins hf hs (fun t ht => by rw [h] at ht; cases ht)
 rw [h] at ha
 exact ha
theorem Ze1 {rank : Nat -> Nat} {f : Nat} (hf : ∀ v, Rch (nxC ins) v -> rank v < f) {s : Th} (hs : Rch (nxC ins) s.at_) (h : stp ev (ins s.at_) s = .asks) : adv ev ins f s = (s, none) := by
 have ha := Z5H ev ins hf hs (fun t ht => by rw [h] at ht; cases ht)
 rw [h] at ha
 exact ha
end Go.Flat
end

section
namespace Go.Proofs.YteidjbahodbgdaaGreatDoor.lex
open Go.Abs Go.RowKit Go.Flat
set_option maxRecDepth 100000
set_option maxHeartbeats 4000000
variable {gl : Z0l}
def Zhj (regs : Int) (l : List Ins) (asked : Int) (x : Th × Option Int) : Z00 := match x.2 with
 | some e => thH regs l x.1 asked e false
 | none => thH regs l x.1 asked 0 true
theorem Z9C (n : Nat) : ksC (List.replicate n 0) = Z4u n [.int .i64 0] := by
 induction n with
 | zero => rfl
 | succ n ih => simp only [Z4u, <- ih, ksC, List.replicate_succ, List.map_cons]; rfl
theorem ZdS {regs : Nat} {l : List Ins} (hr : Runs regs l) (ha : Acy (nxL l) l.length) (h16 : regs <= 16) :
  ZcH Tryz.prog gl 48 [.agg [.int .i64 regs, .rs l.length 6 (inC l)]] (.ptr 0 0) (Zhj regs l 0 (adv evF (Z0h l) l.length ⟨0, List.replicate regs 0, []⟩)) := by
 obtain ⟨rank, hrank⟩ := ha
 obtain ⟨O, hO, ⟨p1, -⟩, -⟩ := Z6G (P := Tryz.prog) (gl := gl) [Zfl hr] [] rfl
 have hf := hr.good.few
 have hm := Zca regs (by omega)
 have hmc : Z5l Tryz.prog 25 (.int .i64 regs) (.int .i64 regs) = some (Z4u regs [.int .i64 0], 2, 1, regs, regs) := by
  have hz : tsz Tryz.prog 2 = some 1 := by kernel_rfl
  have hb : (Tryz.prog.info? 2).map (·.bytes) = some 8 := by kernel_rfl
  have hu : Z2Q Tryz.prog 2 = some (.int .i64 0) := by kernel_rfl
  exact msC Tryz.underlying25 hz hb hu rfl (by decide) regs (by omega) (by omega)
 generalize hAA : adv evF (Z0h l) l.length ⟨0, List.replicate regs 0, []⟩ = AA
 have hrd : ∀ k, Z0M k (Z3I (.cells (Z4u regs [.int .i64 0]) 2) []) = true := fun k => by
  have : Z3I (.cells (Z4u regs [.int .i64 0]) 2) [] = [] := by show refsL (Z4u regs [.int .i64 0]) [] = []; rw [<- Z9C, Z0R]
  rw [this]; rfl
 have p1' : ∀ s : Th, s.at_ < l.length -> s.regs.length = regs -> s.evs.length <= 1048576 -> Z04 Tryz.prog O (thH regs l s 0 0 false) 67 [.ptr 0 0] = some (.bool (Z2c (Flat.stp evF (Z0h l s.at_) s)), ZaM regs l s 0 (Flat.stp evF (Z0h l s.at_) s)) := fun s h1 h2 h3 => p1 (s, 0) ⟨h1, h2, h3⟩
 clear p1
 refine Zj8 follows Z09 hO Tryz.func48 rfl (Z3G _ _) ?_
 repeat' ((conv => whnf); first | (rw [Zmq hmc]; rotate_left; (focus (rfl)); dsimp only; rw [if_pos (hrd _)]) | (first | refine stp ?_ | with_reducible refine Z01 (fun h => ?_) (fun h => ?_)))
 conv => whnf
 refine ⟨Th, (fun s => Rch (nxL l) s.at_ /\ s.regs.length = regs /\ adv evF (Z0h l) l.length s = AA /\ s.evs.length + rank s.at_ <= l.length), (fun s => [(3, .ptr 0 0)]), (fun s => thH regs l s 0 0 false), (fun s => rank s.at_), ⟨⟨0, List.replicate regs 0, []⟩, ⟨.zero, List.length_replicate, hAA, by have := hrank.1 0 .zero; show 0 + rank 0 <= _; omega⟩, ?_⟩, ?_⟩
 · have hz := Z9C regs
   rw [<- hz]
   exact fgA [2, 1]
 rintro s ⟨hs, hrl, hA, hb⟩
 have hat := hr.good.lt hs
 have q := p1' s hat hrl (by omega)
 have hsr : rank s.at_ < l.length := hrank.1 _ hs
 clear p1' hm hmc hrd hAA hO
 cases hst : Flat.stp evF (Z0h l s.at_) s
 case' on t =>
  have hn : t.at_ ∈ nxL l s.at_ := Z6l evF hst
  have hrk := hrank.2 _ _ hs hn
  have hl2 := ZbT hst
  have hr2 := Z9f hst
  obtain ⟨em, hem, -⟩ := Z9g evF hst
  have hA2 := (Zjg evF (Z0h l) hrank.2 hrank.1 hs hst).symm.trans hA
  rw [hst] at q
  have hI : Rch (nxL l) t.at_ /\ t.regs.length = regs /\ adv evF (Z0h l) l.length t = AA /\ t.evs.length + rank t.at_ <= l.length := ⟨.next hs hn, by omega, hA2, by omega⟩
  clear hst hn hl2 hA2 hA hb hr2
  obtain ⟨p, r, evs⟩ := s
  obtain ⟨p2, r2, evs2⟩ := t
  simp only at hem hrk
  rcases evs with _ | ⟨z, evs⟩ <;> rcases evs2 with _ | ⟨z2, evs2⟩
  all_goals (try (refine absurd hem ?_; simp; done))
  all_goals
   simp only [thH, ZaM, Z2t, grA, grB, Z2c, List.length_cons, List.length_nil] at q ⊢
   repeat' ((conv => whnf); first | (refine exI q ?_) | (first | refine stp ?_ | with_reducible refine Z01 (fun h => ?_) (fun h => ?_)))
   conv => whnf
   refine ⟨_, hI, hrk, ?_⟩
   first | exact fgA [0, 1] | exact fgA [0, 1, 2] | exact fgA [0, 1, 3]
 all_goals
  first | have hA2 := (Ze0 evF (Z0h l) hrank.1 hs hst).symm.trans hA | have hA2 := (Ze1 evF (Z0h l) hrank.1 hs hst).symm.trans hA
  rw [hst] at q
  rw [<- hA2]
  clear hst hA2 hA hb
  obtain ⟨p, r, evs⟩ := s
  rcases evs with _ | ⟨z, evs⟩
  all_goals
   simp only [thH, ZaM, Z2t, grA, grB, Z2c, Zhj, List.length_cons, List.length_nil] at q ⊢
   repeat' ((conv => whnf); first | (refine exI q ?_) | (first | refine stp ?_ | with_reducible refine Z01 (fun h => ?_) (fun h => ?_)))
   all_goals (conv => whnf)
   all_goals first | exact Zl7 [0, 1] | exact Zl7 [0, 1, 3]
end Go.Proofs.YteidjbahodbgdaaGreatDoor.lex
end

section
namespace Go.Proofs.YteidjbahodbgdaaGreatDoor.lex
open Go.Abs Go.RowKit Go.Flat
set_option maxRecDepth 100000
set_option maxHeartbeats 4000000
variable {gl : Z0l}
abbrev wrI : Int -> Int := fun n => IntKind.i64.wrap n
theorem ZiH (v a : Int) : IntKind.i64.wrap (IntKind.u64.wrap (IntKind.u64.wrap v + IntKind.u64.wrap a)) = IntKind.i64.wrap (v + a) := by
 simp only [IntKind.wrap_i64, Zlb]
 omega
def quC (q : Qu) : List AV := [.int .i64 q.kind, .int .i64 q.loc, .int .i64 q.order, .int .i64 q.a, .int .i64 q.b]
def Z83 (q : Qu) (v : Int) : Ev := if Z3d q.kind = true then ans wrI q v else ⟨0, 0, 0, 0, 0⟩
def Z82 (q : Qu) : Int := if Z3d q.kind = true then 0 else 2
theorem Z7z (k : Int) : (k = 2 \/ k = 4 \/ k = 5 \/ k = 6) \/ ((k == 2) = false /\ (k == 4) = false /\ (k == 5) = false /\ (k == 6) = false /\ Z3d k = false) := by
 unfold Z3d
 by_cases h2 : k = 2
 · exact .inl (.inl h2)
 by_cases h4 : k = 4
 · exact .inl (.inr (.inl h4))
 by_cases h5 : k = 5
 · exact .inl (.inr (.inr (.inl h5)))
 by_cases h6 : k = 6
 · exact .inl (.inr (.inr (.inr h6)))
 · exact .inr (by simp [h2, h4, h5, h6])
theorem Z92 (q : Qu) (v : Int) : ValOK Tryz.prog gl 19 [.agg (quC q), .int .i64 v] (.tuple [.agg (Z0c (Z83 q v)), .int .i64 (Z82 q)]) := by
 obtain ⟨k, lo, od, a, b⟩ := q
 simp only [quC]
 refine Z0a follows Z09 Z05 Tryz.func19 rfl ?_
 rcases Z7z k with h | ⟨h2, h4, h5, h6, h⟩
 · rcases h with rfl | rfl | rfl | rfl
   · repeat' ((conv => whnf); first | refine stp ?_ | with_reducible refine Z01 (fun h => ?_) (fun h => ?_))
     all_goals rfl
   · by_cases hv : v = a
     · have e : (v == a) = true := by simpa using hv
       repeat' ((conv => whnf); first | refine stp ?_ | with_reducible refine Z01 (fun h => ?_) (fun h => ?_))
       all_goals (simp [Z83, Z82, Z3d, ans, Z0c, hv, Z0J])
     · have e : (v == a) = false := by simpa using hv
       repeat' ((conv => whnf); first | refine stp ?_ | with_reducible refine Z01 (fun h => ?_) (fun h => ?_))
       all_goals (simp [Z83, Z82, Z3d, ans, Z0c, hv, Z0J])
   · repeat' ((conv => whnf); first | refine stp ?_ | with_reducible refine Z01 (fun h => ?_) (fun h => ?_))
     all_goals (try (show _ = AV.tuple [.agg (Z0c (Z83 ⟨5, lo, od, a, b⟩ v)), .int .i64 (Z82 ⟨5, lo, od, a, b⟩)]; simp [Z83, Z82, Z3d, ans, Z0c, Z0J, ZiH]))
   · repeat' ((conv => whnf); first | refine stp ?_ | with_reducible refine Z01 (fun h => ?_) (fun h => ?_))
     all_goals rfl
 · repeat' ((conv => whnf); first | refine stp ?_ | with_reducible refine Z01 (fun h => ?_) (fun h => ?_))
   all_goals (simp [Z83, Z82, h, Z0c, Z0J])
end Go.Proofs.YteidjbahodbgdaaGreatDoor.lex
end

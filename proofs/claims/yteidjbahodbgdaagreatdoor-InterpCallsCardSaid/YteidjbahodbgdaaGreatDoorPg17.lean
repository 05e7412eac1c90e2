/-
  Texts of this proof, one behind the other (part 17).
-/
import Derived.Test.YteidjbahodbgdaaGreatDoorPg14
set_option linter.unusedVariables false
set_option linter.unusedSimpArgs false

section
namespace Go.Abs
open Go.RowKit Go.ChangeShapes Go.WideShapes Go.ChangeAt
section opens
variable {P : Program}
theorem Zey {t : TypeId} {k : IntKind} (ht : P.underlying t = some (.int k)) : Z44 P t fun u => ∃ n, u = .int k n /\ (Lit.int k n).wf = true := by
 intro H enc W r b v d p hv ⟨fuel, h⟩
 obtain ⟨n, rfl⟩ := okWide_int ht hv
 obtain ⟨us, ⟨n', rfl, hw⟩, hl⟩ := Z0v ht H enc W fuel _ _ h
 exact ⟨_, ⟨n', rfl, hw⟩, Zj0 (by simpa [Value.cells] using hl)⟩
end opens
end Go.Abs
end

section
namespace Go.Proofs.YteidjbahodbgdaaGreatDoor.lex
open Go.Abs Go.RowKit Go.Flat
set_option maxRecDepth 100000
set_option maxHeartbeats 4000000
variable {gl : Z0l}
theorem Zco (q : Qu) (v : Int) : ValOK Tryz.prog gl 20 [.agg (quC q), .int .i64 v] (.tuple [.agg (Z0c (Z83 q v)), .int .i64 (Z82 q)]) := by
 obtain ⟨O, hO, p1, -⟩ := fams (P := Tryz.prog) (gl := gl) [{ I := Unit, f := 41, G := fun _ => True, A := fun _ => [.agg (quC q), .int .i64 v], R := fun _ => .tuple [.agg (Z0c (Z83 q v)), .int .i64 (Z82 q)], body := (by kernel_rfl), inj := fun _ _ _ _ _ => rfl, ok := fun _ _ => ⟨rfl, Z90 q v⟩ }] rfl
 have q1 : ∀ H, Z04 Tryz.prog O H 41 [.agg (quC q), .int .i64 v] = some (.tuple [.agg (Z0c (Z83 q v)), .int .i64 (Z82 q)], H) := p1 () trivial
 clear p1
 generalize Z83 q v = e at *
 generalize Z82 q = n at *
 obtain ⟨k, lo, od, a, b⟩ := q
 obtain ⟨ek, el, eo, er, ew⟩ := e
 simp only [quC, Z0c] at *
 refine Z0a follows Z09 hO Tryz.func20 rfl ?_
 repeat' ((conv => whnf); first | (refine exI (q1 _) ?_) | (first | refine stp ?_ | with_reducible refine Z01 (fun h => ?_) (fun h => ?_)))
 all_goals rfl
end Go.Proofs.YteidjbahodbgdaaGreatDoor.lex
end

section
namespace Go.Proofs.YteidjbahodbgdaaGreatDoor.lex
open Go.Abs Go.RowKit Go.Flat
set_option maxRecDepth 100000
set_option maxHeartbeats 4000000
variable {gl : Z0l}
theorem ZmF (l : List Ev) (k : Nat) (h : k < l.length) : tk 1 (((Z14 l).drop (k * 5)).drop 0) = some [.int .i64 l[k].kind] := by rw [Z9Z l k h]; rfl
theorem ZmE (l : List Ev) (k : Nat) (h : k < l.length) : tk 1 (((Z14 l).drop (k * 5)).drop 3) = some [.int .i64 l[k].rd] := by rw [Z9Z l k h]; rfl
theorem Z8z (l : List Ev) (k : Nat) (h : k < l.length) : reads (l.take (k + 1)) = reads (l.take k) ++ cond (Zhi l[k]) [l[k].rd] [] := by
 rw [List.take_succ_eq_append_getElem h, Z37]
 congr 1
 unfold reads
 cases h : Zhi l[k] <;> simp [h]
theorem Z4a (l : List Ev) : (reads l).length <= l.length := by
 unfold reads
 rw [List.length_map]
 exact List.length_filter_le _ _
theorem Z81 (l : List Ev) (hl : l.length <= 1000000) : ValOK Tryz.prog gl 22 [rsE l] (rsI (reads l)) := by
 have hT2 : Z74 Tryz.prog 25 25 = some (2, 1, 8) := by kernel_rfl
 simp only [rsE, rsI]
 refine fn_valX (Φ := fun r' => ∀ sn v, VR sn noI r' v -> VR sn noI (.rs (reads l).length 1 (ksC (reads l))) v) follows Z09 Z05 (fun r' h => h) Tryz.func22 rfl (Z3G _ _) ?_
 repeat' ((conv => whnf); first | (first | refine stp ?_ | with_reducible refine Z01 (fun h => ?_) (fun h => ?_)))
 conv => whnf
 refine ⟨Nat, (fun n => n <= l.length), (fun n => [(3, grA 0 1 (reads (l.take n))), (6, .rs l.length 5 (Z14 l)), (7, .int .i64 l.length), (8, .int .i64 (n : Nat))]), (fun n => grB 0 ksC 2 (reads (l.take n))), (fun n => l.length - n), ⟨0, Nat.zero_le _, ?_⟩, ?_⟩
 · simp only [List.take_zero, show reads [] = [] from rfl, grA, grB]
   refine FgL.mk0 rfl ?_
   (repeat (first | exact trivial | refine stw ?_))
 intro n hn
 (try dsimp only at hn)
 (try dsimp only)
 by_cases hlt : n < l.length
 · have e3 : decide ((n : Int) < (l.length : Int)) = true := by simpa using hlt
   have hx := ev5 l n hlt
   have hsn := Z8z l n hlt
   have hol : (reads (l.take n)).length <= 1000000 := by have := Z4a (l.take n); rw [List.length_take] at this; omega
   generalize reads (l.take n) = o at *
   generalize l[n] = e at *
   obtain ⟨ek, el, eo, er, ew⟩ := e
   simp only [Z0c] at hx
   simp only at hsn
   have hcase : (Zhi ⟨ek, el, eo, er, ew⟩ = true /\ ((ek == 1) = true \/ ((ek == 1) = false /\ (ek == 3) = true))) \/ (Zhi ⟨ek, el, eo, er, ew⟩ = false /\ (ek == 1) = false /\ (ek == 3) = false) := by
    unfold Zhi
    cases h1 : (ek == 1) <;> cases h3 : (ek == 3) <;> simp [h1, h3]
   rcases hcase with ⟨hi, h1 | ⟨h1, h3⟩⟩ | ⟨hi, h1, h3⟩
   all_goals (first | rw [hi, cond_true] at hsn | rw [hi, cond_false, List.append_nil] at hsn)
   all_goals (cases o with
    | nil =>
     simp only [grA, grB]
     repeat' ((conv => whnf); first | (refine exI hx ?_) | (with_reducible refine ixJ n rfl ?_ ?_; (focus (omega))) | (refine apS ?_) | (first | refine stp ?_ | with_reducible refine Z01 (fun h => ?_) (fun h => ?_)))
     conv => whnf
     refine ⟨n + 1, hlt, by show l.length - (n + 1) < l.length - n; omega, ?_⟩
     rw [hsn]
     simp only [grA, grB, List.nil_append, List.length_nil]
     first
     | (refine FgL.mk [] rfl ?_ trivial rfl
        ((repeat (first | exact trivial | refine stw ?_)))
        done)
     | (refine FgL.mk [2] rfl ?_ ⟨⟨rfl, rfl, rfl, rfl, BodyGe.pre (rest := []) rfl rfl⟩, trivial⟩ rfl
        ((repeat (first | exact trivial | refine stw ?_)))
        done)
    | cons y o =>
     have hcl := Z2e y o
     have hon := Z4G (y :: o)
     simp only [List.length_cons] at hol
     simp only [grA, grB]
     repeat' ((conv => whnf); first | (refine exI hx ?_) | (with_reducible refine ixJ n rfl ?_ ?_; (focus (omega))) | (refine apS ?_) | (first | refine stp ?_ | with_reducible refine Z01 (fun h => ?_) (fun h => ?_)))
     conv => whnf
     refine ⟨n + 1, hlt, by show l.length - (n + 1) < l.length - n; omega, ?_⟩
     rw [hsn]
     simp only [grA, grB, List.cons_append, List.length_append, List.length_cons, List.length_nil]
     first
     | (refine FgL.mk [0] rfl ?_ ⟨⟨rfl, rfl, rfl, rfl, BodyGe.pre (rest := []) (by rw [List.append_nil]) (Z0R _)⟩, trivial⟩ rfl
        ((repeat (first | exact trivial | refine stw ?_)))
        done)
     | (refine FgL.mk [3] rfl ?_ ⟨⟨rfl, rfl, rfl, rfl, BodyGe.pre (rest := []) (by rw [List.append_nil]; simp [ksC]) (Z0R _)⟩, trivial⟩ rfl
        ((repeat (first | exact trivial | refine stw ?_)))
        done))
 · have e3 : decide ((n : Int) < (l.length : Int)) = false := by simpa using hlt
   have hn2 : n = l.length := by omega
   subst hn2
   rw [List.take_length]
   generalize reads l = o at *
   cases o with
   | nil =>
    simp only [grA, grB]
    repeat' ((conv => whnf); first | refine stp ?_ | with_reducible refine Z01 (fun h => ?_) (fun h => ?_))
    all_goals exact fun sn v h => Z0X h
   | cons y o =>
    simp only [grA, grB]
    repeat' ((conv => whnf); first | refine stp ?_ | with_reducible refine Z01 (fun h => ?_) (fun h => ?_))
    all_goals (conv => whnf)
    all_goals exact ⟨_, Z02 (n := 28) (b := 0) rfl (Z2e y o) (Z0e _), fun sn v h => h⟩
theorem Z4O (l : List Ev) (hl : l.length <= 1000000) : ValOK Tryz.prog gl 23 [rsE l] (rsI (reads l)) := by
 have hT2 : Z74 Tryz.prog 25 25 = some (2, 1, 8) := by kernel_rfl
 simp only [rsE, rsI]
 refine fn_valX (Φ := fun r' => ∀ sn v, VR sn noI r' v -> VR sn noI (.rs (reads l).length 1 (ksC (reads l))) v) follows Z09 Z05 (fun r' h => h) Tryz.func23 rfl (Z3G _ _) ?_
 repeat' ((conv => whnf); first | (first | refine stp ?_ | with_reducible refine Z01 (fun h => ?_) (fun h => ?_)))
 conv => whnf
 refine ⟨Nat, (fun n => n <= l.length), (fun n => [(0, .rs l.length 5 (Z14 l)), (3, grA 0 1 (reads (l.take n))), (4, .int .i64 (n : Nat))]), (fun n => grB 0 ksC 2 (reads (l.take n))), (fun n => l.length - n), ⟨0, Nat.zero_le _, ?_⟩, ?_⟩
 · simp only [List.take_zero, show reads [] = [] from rfl, grA, grB]
   refine FgL.mk0 rfl ?_
   (repeat (first | exact trivial | refine stw ?_))
 intro n hn
 (try dsimp only at hn)
 (try dsimp only)
 by_cases hlt : n < l.length
 · have e3 : decide ((n : Int) < (l.length : Int)) = true := by simpa using hlt
   have hx := ZmF l n hlt
   have hx3 := ZmE l n hlt
   have hsn := Z8z l n hlt
   have hol : (reads (l.take n)).length <= 1000000 := by have := Z4a (l.take n); rw [List.length_take] at this; omega
   generalize reads (l.take n) = o at *
   generalize l[n] = e at *
   obtain ⟨ek, el, eo, er, ew⟩ := e
   simp only at hx hx3
   simp only at hsn
   have hcase : (Zhi ⟨ek, el, eo, er, ew⟩ = true /\ ((ek == 1) = true \/ ((ek == 1) = false /\ (ek == 3) = true))) \/ (Zhi ⟨ek, el, eo, er, ew⟩ = false /\ (ek == 1) = false /\ (ek == 3) = false) := by
    unfold Zhi
    cases h1 : (ek == 1) <;> cases h3 : (ek == 3) <;> simp [h1, h3]
   rcases hcase with ⟨hi, h1 | ⟨h1, h3⟩⟩ | ⟨hi, h1, h3⟩
   all_goals (first | rw [hi, cond_true] at hsn | rw [hi, cond_false, List.append_nil] at hsn)
   all_goals (cases o with
    | nil =>
     simp only [grA, grB]
     repeat' ((conv => whnf); first | (refine exI hx ?_) | (refine exI hx3 ?_) | (with_reducible refine ixJ n rfl ?_ ?_; (focus (omega))) | (refine apS ?_) | (first | refine stp ?_ | with_reducible refine Z01 (fun h => ?_) (fun h => ?_)))
     conv => whnf
     refine ⟨n + 1, hlt, by show l.length - (n + 1) < l.length - n; omega, ?_⟩
     rw [hsn]
     simp only [grA, grB, List.nil_append, List.length_nil]
     first
     | (refine FgL.mk [] rfl ?_ trivial rfl
        ((repeat (first | exact trivial | refine stw ?_)))
        done)
     | (refine FgL.mk [1] rfl ?_ ⟨⟨rfl, rfl, rfl, rfl, BodyGe.pre (rest := []) rfl rfl⟩, trivial⟩ rfl
        ((repeat (first | exact trivial | refine stw ?_)))
        done)
    | cons y o =>
     have hcl := Z2e y o
     have hon := Z4G (y :: o)
     simp only [List.length_cons] at hol
     simp only [grA, grB]
     repeat' ((conv => whnf); first | (refine exI hx ?_) | (refine exI hx3 ?_) | (with_reducible refine ixJ n rfl ?_ ?_; (focus (omega))) | (refine apS ?_) | (first | refine stp ?_ | with_reducible refine Z01 (fun h => ?_) (fun h => ?_)))
     conv => whnf
     refine ⟨n + 1, hlt, by show l.length - (n + 1) < l.length - n; omega, ?_⟩
     rw [hsn]
     simp only [grA, grB, List.cons_append, List.length_append, List.length_cons, List.length_nil]
     first
     | (refine FgL.mk [0] rfl ?_ ⟨⟨rfl, rfl, rfl, rfl, BodyGe.pre (rest := []) (by rw [List.append_nil]) (Z0R _)⟩, trivial⟩ rfl
        ((repeat (first | exact trivial | refine stw ?_)))
        done)
     | (refine FgL.mk [2] rfl ?_ ⟨⟨rfl, rfl, rfl, rfl, BodyGe.pre (rest := []) (by rw [List.append_nil]; simp [ksC]) (Z0R _)⟩, trivial⟩ rfl
        ((repeat (first | exact trivial | refine stw ?_)))
        done))
 · have e3 : decide ((n : Int) < (l.length : Int)) = false := by simpa using hlt
   have hn2 : n = l.length := by omega
   subst hn2
   rw [List.take_length]
   generalize reads l = o at *
   cases o with
   | nil =>
    simp only [grA, grB]
    repeat' ((conv => whnf); first | refine stp ?_ | with_reducible refine Z01 (fun h => ?_) (fun h => ?_))
    all_goals exact fun sn v h => Z0X h
   | cons y o =>
    simp only [grA, grB]
    repeat' ((conv => whnf); first | refine stp ?_ | with_reducible refine Z01 (fun h => ?_) (fun h => ?_))
    all_goals (conv => whnf)
    all_goals exact ⟨_, Z02 (n := 28) (b := 0) rfl (Z2e y o) (Z0e _), fun sn v h => h⟩
end Go.Proofs.YteidjbahodbgdaaGreatDoor.lex
end

section
namespace Go.Proofs.YteidjbahodbgdaaGreatDoor.lex
open Go.Abs Go.RowKit Go.Flat
set_option maxRecDepth 100000
set_option maxHeartbeats 4000000
variable {gl : Z0l}
theorem Z2H {l evs : List Ev} : Z6Z l evs = true ↔ evs.take l.length = l := by unfold Z6Z; simp
theorem ZgD (a b : List Ev) (ha : a.length <= 1000000) (hb : b.length <= 1000000) : ValOK Tryz.prog gl 61 [rsE a, rsE b] (.bool (Z7R a b)) := by
 simp only [rsE]
 by_cases hl : a.length = b.length
 case' neg =>
  have e1 : ((a.length : Int) != (b.length : Int)) = true := by simp; omega
  rw [show Z7R a b = false from Z8e Z2h (fun h => hl (by rw [h]))]
  refine Z0a follows Z09 Z05 Tryz.func61 rfl ?_
  repeat' ((conv => whnf); first | refine stp ?_ | with_reducible refine Z01 (fun h => ?_) (fun h => ?_))
  all_goals rfl
 have e1 : ((a.length : Int) != (b.length : Int)) = false := by simp; omega
 have hle : a.length <= b.length := by omega
 have hres : a.take a.length = b.take a.length -> Z7R a b = true := fun h => Z2h.2 (by rw [List.take_length, hl, List.take_length] at h; exact h)
 have hno : ∀ i (h1 : i < a.length) (h2 : i < b.length), a[i] ≠ b[i] -> Z7R a b = false := fun i h1 h2 e => Z8e Z2h (Zk5 h1 h2 e)
 generalize Z7R a b = R at *
 refine Z0a follows Z09 Z05 Tryz.func61 rfl ?_
 repeat' ((conv => whnf); first | (first | refine stp ?_ | with_reducible refine Z01 (fun h => ?_) (fun h => ?_)))
 conv => whnf
 refine ⟨Nat, (fun i => i <= a.length /\ a.take i = b.take i), (fun i => [(0, .rs a.length 5 (Z14 a)), (1, .rs b.length 5 (Z14 b)), (12, .int .i64 a.length), (13, .int .i64 (i : Nat))]), (fun _ => []), (fun i => a.length - i), ⟨0, ⟨Nat.zero_le _, rfl⟩, FgL.mk0 rfl ?_⟩, ?_⟩
 · (repeat (first | exact trivial | refine stw ?_))
 rintro i ⟨hi, hall⟩
 dsimp only
 by_cases hlt : i < a.length
 · have e2 : decide ((i : Int) < (a.length : Int)) = true := by simpa using hlt
   have hlt2 : i < b.length := by omega
   have hx := ev5 a i hlt
   have hy := ev5 b i hlt2
   have hst := Z53 hall hlt hlt2
   have hno := hno i hlt hlt2
   generalize a[i] = x at *
   generalize b[i] = y at *
   obtain ⟨x1, x2, x3, x4, x5⟩ := x
   obtain ⟨y1, y2, y3, y4, y5⟩ := y
   simp only [Z0c] at hx hy
   have ha2 := Zmh x1 x2 x3 x4 x5 y1 y2 y3 y4 y5
   have he := @Za1 x1 x2 x3 x4 x5 y1 y2 y3 y4 y5
   have hn := @ZgF x1 x2 x3 x4 x5 y1 y2 y3 y4 y5
   generalize eq5 (x1, x2, x3, x4, x5) (y1, y2, y3, y4, y5) = q at *
   cases q with
   | true =>
    have hst := hst (he.1 rfl)
    repeat' ((conv => whnf); first | (refine exI hx ?_) | (refine exI hy ?_) | (refine exI ha2 ?_) | (with_reducible refine ixJ i rfl ?_ ?_; (focus (omega))) | (first | refine stp ?_ | with_reducible refine Z01 (fun h => ?_) (fun h => ?_)))
    conv => whnf
    refine ⟨i + 1, ⟨hlt, hst⟩, by show a.length - (i + 1) < a.length - i; omega, FgL.mk0 rfl ?_⟩
    (repeat (first | exact trivial | refine stw ?_))
   | false =>
    rw [hno (hn.1 rfl)]
    repeat' ((conv => whnf); first | (refine exI hx ?_) | (refine exI hy ?_) | (refine exI ha2 ?_) | (with_reducible refine ixJ i rfl ?_ ?_; (focus (omega))) | (first | refine stp ?_ | with_reducible refine Z01 (fun h => ?_) (fun h => ?_)))
    all_goals rfl
 · have e2 : decide ((i : Int) < (a.length : Int)) = false := by simpa using hlt
   have hi2 : i = a.length := by omega
   subst hi2
   rw [hres hall]
   repeat' ((conv => whnf); first | refine stp ?_ | with_reducible refine Z01 (fun h => ?_) (fun h => ?_))
   all_goals rfl
theorem Zba (a b : List Ev) (ha : a.length <= 1000000) (hb : b.length <= 1000000) : ValOK Tryz.prog gl 40 [rsE a, rsE b] (.bool (Z6Z a b)) := by
 simp only [rsE]
 by_cases hl : a.length <= b.length
 case' neg =>
  have e1 : decide ((a.length : Int) > (b.length : Int)) = true := by simp; omega
  rw [show Z6Z a b = false from Z8e Z2H (fun h => hl (by have := congrArg List.length h; rw [List.length_take] at this; omega))]
  refine Z0a follows Z09 Z05 Tryz.func40 rfl ?_
  repeat' ((conv => whnf); first | refine stp ?_ | with_reducible refine Z01 (fun h => ?_) (fun h => ?_))
  all_goals rfl
 have e1 : decide ((a.length : Int) > (b.length : Int)) = false := by simp; omega
 have hle : a.length <= b.length := hl
 have hres : a.take a.length = b.take a.length -> Z6Z a b = true := fun h => Z2H.2 (by rw [List.take_length] at h; exact h.symm)
 have hno : ∀ i (h1 : i < a.length) (h2 : i < b.length), a[i] ≠ b[i] -> Z6Z a b = false := fun i h1 h2 e => Z8e Z2H (fun h => e (by
  have : (b.take a.length)[i]? = a[i]? := by rw [h]
  rw [List.getElem?_take, if_pos h1, List.getElem?_eq_getElem h1, List.getElem?_eq_getElem h2] at this
  exact (Option.some.inj this).symm))
 generalize Z6Z a b = R at *
 refine Z0a follows Z09 Z05 Tryz.func40 rfl ?_
 repeat' ((conv => whnf); first | (first | refine stp ?_ | with_reducible refine Z01 (fun h => ?_) (fun h => ?_)))
 conv => whnf
 refine ⟨Nat, (fun i => i <= a.length /\ a.take i = b.take i), (fun i => [(0, .rs a.length 5 (Z14 a)), (1, .rs b.length 5 (Z14 b)), (5, .int .i64 (i : Nat))]), (fun _ => []), (fun i => a.length - i), ⟨0, ⟨Nat.zero_le _, rfl⟩, FgL.mk0 rfl ?_⟩, ?_⟩
 · (repeat (first | exact trivial | refine stw ?_))
 rintro i ⟨hi, hall⟩
 dsimp only
 by_cases hlt : i < a.length
 · have e2 : decide ((i : Int) < (a.length : Int)) = true := by simpa using hlt
   have hlt2 : i < b.length := by omega
   have hx := ev5 a i hlt
   have hy := ev5 b i hlt2
   have hst := Z53 hall hlt hlt2
   have hno := hno i hlt hlt2
   generalize a[i] = x at *
   generalize b[i] = y at *
   obtain ⟨x1, x2, x3, x4, x5⟩ := x
   obtain ⟨y1, y2, y3, y4, y5⟩ := y
   simp only [Z0c] at hx hy
   have ha2 := Zmh x1 x2 x3 x4 x5 y1 y2 y3 y4 y5
   have he := @Za1 x1 x2 x3 x4 x5 y1 y2 y3 y4 y5
   have hn := @ZgF x1 x2 x3 x4 x5 y1 y2 y3 y4 y5
   generalize eq5 (x1, x2, x3, x4, x5) (y1, y2, y3, y4, y5) = q at *
   cases q with
   | true =>
    have hst := hst (he.1 rfl)
    repeat' ((conv => whnf); first | (refine exI hx ?_) | (refine exI hy ?_) | (refine exI ha2 ?_) | (with_reducible refine ixJ i rfl ?_ ?_; (focus (omega))) | (first | refine stp ?_ | with_reducible refine Z01 (fun h => ?_) (fun h => ?_)))
    conv => whnf
    refine ⟨i + 1, ⟨hlt, hst⟩, by show a.length - (i + 1) < a.length - i; omega, FgL.mk0 rfl ?_⟩
    (repeat (first | exact trivial | refine stw ?_))
   | false =>
    rw [hno (hn.1 rfl)]
    repeat' ((conv => whnf); first | (refine exI hx ?_) | (refine exI hy ?_) | (refine exI ha2 ?_) | (with_reducible refine ixJ i rfl ?_ ?_; (focus (omega))) | (first | refine stp ?_ | with_reducible refine Z01 (fun h => ?_) (fun h => ?_)))
    all_goals rfl
 · have e2 : decide ((i : Int) < (a.length : Int)) = false := by simpa using hlt
   have hi2 : i = a.length := by omega
   subst hi2
   rw [hres hall]
   repeat' ((conv => whnf); first | refine stp ?_ | with_reducible refine Z01 (fun h => ?_) (fun h => ?_))
   all_goals rfl
end Go.Proofs.YteidjbahodbgdaaGreatDoor.lex
end

section
namespace Go.Proofs.YteidjbahodbgdaaGreatDoor.lex
open Go.Abs Go.RowKit Go.Flat
set_option maxRecDepth 100000
set_option maxHeartbeats 4000000
theorem ZiK : ∀ (l : List Ev) (k : Nat), k <= l.length -> tk (k * 5) (Z14 l) = some (Z14 (l.take k))
 | l, 0, _ => by simp only [Nat.zero_mul, List.take_zero]; cases l <;> rfl
 | [], k + 1, h => absurd h (by simp)
 | e :: l, k + 1, h => by
  have ih := ZiK l k (by simpa using h)
  rw [show (k + 1) * 5 = k * 5 + 1 + 1 + 1 + 1 + 1 from by omega]
  simp only [Z14, Z0c, List.cons_append, List.nil_append, List.take_succ_cons, tk, ih]
theorem Zl3 {H : Z00} {n b f sh cap k : Nat} {l : List Ev} {g : Nat -> Nat} {ty : TypeId} (hH : H[b]? = some ⟨true, f, sh, .cells (renL g (Z14 l)) ty⟩) (hk : k <= l.length) : frz H (n + 2) (.slice b 0 k cap 5) = some (rsE (l.take k)) := by
 rw [Z0r] at hH
 cases k with
 | zero => simp only [List.take_zero]; rfl
 | succ k =>
  have hlen : (l.take (k + 1)).length = k + 1 := by rw [List.length_take]; omega
  show (match H[b]? with
   | some o => match o.alive, o.body with
    | true, .cells cs _ => match tk ((k + 1) * 5) (cs.drop 0) with
     | some cs => match Z0L (frz H (n + 1)) cs with | some l => some (AV.rs (k + 1) 5 l) | none => none
     | none => none
    | _, _ => none
   | none => none) = _
  rw [hH]
  simp only [List.drop_zero, ZiK l (k + 1) hk, Z7D (Z0t (l.take (k + 1)))]
  rw [rsE, hlen]
section
variable {gl : Z0l}
theorem ZgC {O : Orc} (hO : Z06 Tryz.prog gl O) : ∃ O', Z06 Tryz.prog gl O' /\ (∀ (a b : List Ev), a.length <= 1000000 -> b.length <= 1000000 -> ∀ H args, (Z0L (frz H 30) args = some [rsE a, rsE b] \/ (a = [] /\ Z0L (frz H 30) args = some [.nslice, rsE b])) -> Z04 Tryz.prog O' H 61 args = some (.bool (Z7R a b), H)) /\
  ∀ g, g ≠ 61 -> ∀ args H, Z04 Tryz.prog O' H g args = Z04 Tryz.prog O H g args := by
 have inj : ∀ a b : List Ev, Z14 a = Z14 b -> a = b := by
  intro a
  induction a with
  | nil => intro b h; cases b with
   | nil => rfl
   | cons y b => simp [Z14, Z0c] at h
  | cons x a ih => intro b h; cases b with
   | nil => simp [Z14, Z0c] at h
   | cons y b =>
    simp only [Z14] at h
    have := List.append_inj h rfl
    rw [Z4L this.1, ih b this.2]
 obtain ⟨O', h1, h2, h3⟩ := Z7B (P := Tryz.prog) (gl := gl) (I := List Ev × List Ev × Bool) (f0 := 61) (G := fun i => i.1.length <= 1000000 /\ i.2.1.length <= 1000000 /\ (i.2.2 = true -> i.1 = [])) (A := fun i => [if i.2.2 = true then .nslice else rsE i.1, rsE i.2.1]) (R := fun i => .bool (Z7R i.1 i.2.1))
  (fun _ _ => rfl) (fun i j hi hj h => by
   obtain ⟨a, b, f⟩ := i
   obtain ⟨a', b', f'⟩ := j
   simp only [List.cons.injEq, rsE, AV.rs.injEq, and_true, true_and] at h hi hj ⊢
   obtain ⟨h1, _, h2⟩ := h
   have e2 := inj _ _ h2
   subst e2
   cases f <;> cases f' <;> simp at h1 hi hj
   · rw [inj _ _ h1.2]
   · rw [hi.2.2, hj.2.2]) (fun i h => by
   obtain ⟨a, b, f⟩ := i
   simp only at h ⊢
   have hq := ZgD (gl := gl) a b h.1 h.2.1
   cases f with
   | false => exact hq
   | true =>
    have ha := h.2.2 rfl
    subst ha
    refine hq.weak fun sn vs hv => ?_
    simp only [if_true, LR] at hv
    obtain ⟨d, ds, e, k1, k2⟩ := hv
    simp only [LR]
    exact ⟨d, ds, e, Z0X k1, k2⟩) (by kernel_rfl) hO
 refine ⟨O', h1, fun a b g1 g2 H args ha => ?_, h3⟩
 rcases ha with ha | ⟨rfl, ha⟩
 · exact h2 (a, b, false) ⟨g1, g2, fun h => by cases h⟩ H args ha
 · exact h2 ([], b, true) ⟨g1, g2, fun _ => rfl⟩ H args ha
end
def z5 : List AV := [.int .i64 0, .int .i64 0, .int .i64 0, .int .i64 0, .int .i64 0]
def Z6E : Option Ev -> Flat.Stand -> AV
 | some e, _ => .tuple [.agg (Z0c e ++ z5 ++ [.int .i64 0]), .int .i64 0]
 | none, st => .tuple [.agg (z5 ++ Z3H st.q ++ [.int .i64 st.fin]), .int .i64 0]
noncomputable def Z9A (c : Cd) (l : List Ev) : AV := if Z1y c ≠ 0 then .tuple [.agg (z5 ++ z5 ++ [.int .i64 0]), .int .i64 (Z1y c)] else
 if Z6Z l (Z07 c (reads l)).th.evs = true then Z6E (Z07 c (reads l)).th.evs[l.length]? (Z07 c (reads l)) else .tuple [.agg (z5 ++ z5 ++ [.int .i64 0]), .int .i64 2]
noncomputable def Z6F (c : Cd) (l : List Ev) : Bool := Z1y c == 0 && Z6Z l (Z07 c (reads l)).th.evs
def Zm9 (f : Nat) : Bool := Nat.beq f 29 || (Nat.beq f 31 || (Nat.beq f 39 || (Nat.beq f 22 || Nat.beq f 61)))
theorem Zdf {regs : Nat} {l : List Ins} (hr : Runs regs l) (hac : Acy (nxL l) l.length) (h16 : regs <= 16) (e : Int) (hck : ValOK Tryz.prog runLives.gl 29 [.agg [.int .i64 regs, .rs l.length 6 (inC l)]] (.int .i64 e)) (L : List Ev) (hL : L.length <= 1000) :
  ∃ O, Z06 Tryz.prog runLives.gl O /\ (∀ H, Z04 Tryz.prog O H 29 [.agg [.int .i64 regs, .rs l.length 6 (inC l)]] = some (.int .i64 e, H)) /\ (∀ H, Z04 Tryz.prog O H 22 [rsE L] = some (rsI (reads L), H)) /\
   (∀ H, Z04 Tryz.prog O H 31 [.agg [.int .i64 regs, .rs l.length 6 (inC l)], rsI (reads L)] = some (ren (· + H.length) (.ptr 0 0), H ++ shA H.length (Z1G regs l (goI l (reads L) (th0 regs) 0)))) /\
   (∀ (p : Nat) (r : List Int) (rest : List AV), p < l.length -> r.length = regs -> ∀ H args, Z0L (frz H 30) args = some [.rp (.int .i64 regs :: .rs l.length 6 (inC l) :: .int .i64 (p : Nat) :: rsI r :: rest)] -> Z04 Tryz.prog O H 39 args = some (.agg (quC (qu evF (Z0h l p) r)), H)) /\
   (∀ (a b : List Ev), a.length <= 1000000 -> b.length <= 1000000 -> ∀ H args, (Z0L (frz H 30) args = some [rsE a, rsE b] \/ (a = [] /\ Z0L (frz H 30) args = some [.nslice, rsE b])) -> Z04 Tryz.prog O H 61 args = some (.bool (Z7R a b), H)) := by
 have hal : (reads L).length <= 1000 := by have := Z4a L; omega
 obtain ⟨O1, hO1, p1, p2, -⟩ := fams (P := Tryz.prog) (gl := runLives.gl) [{ I := Unit, f := 29, G := fun _ => True, A := fun _ => [.agg [.int .i64 regs, .rs l.length 6 (inC l)]], R := fun _ => .int .i64 e, body := (by kernel_rfl), inj := fun _ _ _ _ _ => rfl, ok := fun _ _ => ⟨rfl, hck⟩ },
  { I := Unit, f := 22, G := fun _ => True, A := fun _ => [rsE L], R := fun _ => rsI (reads L), body := (by kernel_rfl), inj := fun _ _ _ _ _ => rfl, ok := fun _ _ => ⟨rfl, Z81 L (by omega)⟩ }] rfl
 have halive : ∀ o ∈ Z1G regs l (goI l (reads L) (th0 regs) 0), o.alive = true := fun o ho => by
  obtain ⟨i, hi⟩ := List.getElem?_of_mem ho
  exact (Z2R hi).2.2.1
 obtain ⟨O2, hO2, q0, hoth⟩ := Z5v (P := Tryz.prog) (gl := runLives.gl) { I := Unit, f := 31, G := fun _ => True, A := fun _ => [.agg [.int .i64 regs, .rs l.length 6 (inC l)], rsI (reads L)], R := fun _ => .ptr 0 0, N := fun _ => Z1G regs l (goI l (reads L) (th0 regs) 0), body := (by kernel_rfl), inj := fun _ _ _ _ _ => ⟨rfl, rfl⟩, ok := fun _ _ => ⟨rfl, halive, ZfD hr hac h16 _ hal⟩ } hO1
 obtain ⟨O3, hO3, q2, hoth2⟩ := ZgU (gl := runLives.gl) hr hO2
 obtain ⟨O, hO, q3, hoth3⟩ := ZgC (gl := runLives.gl) hO3
 refine ⟨O, hO, fun H => ?_, fun H => ?_, fun H => ?_, fun p r rest g1 g2 H args ha => ?_, q3⟩
 · exact (hoth3 _ (by show (29 : Nat) ≠ 61; decide) _ _).trans ((hoth2 _ (by show (29 : Nat) ≠ 39; decide) _ _).trans ((hoth _ (by show (29 : Nat) ≠ 31; decide) _ _).trans (p1 () trivial H)))
 · exact (hoth3 _ (by show (22 : Nat) ≠ 61; decide) _ _).trans ((hoth2 _ (by show (22 : Nat) ≠ 39; decide) _ _).trans ((hoth _ (by show (22 : Nat) ≠ 31; decide) _ _).trans (p2 () trivial H)))
 · exact (hoth3 _ (by show (31 : Nat) ≠ 61; decide) _ _).trans ((hoth2 _ (by show (31 : Nat) ≠ 39; decide) _ _).trans (q0 () trivial H))
 · exact (hoth3 _ (by show (39 : Nat) ≠ 61; decide) _ _).trans (q2 p r rest g1 g2 H args ha)
end Go.Proofs.YteidjbahodbgdaaGreatDoor.lex
end

section
namespace Go.Proofs.YteidjbahodbgdaaGreatDoor.lex
open Go.Abs Go.RowKit Go.Flat
set_option maxRecDepth 100000
set_option maxHeartbeats 4000000
theorem Z63 {H : Z00} {S x : AV} {n : Nat} {cs : List AV} (h : frz H 30 S = some x) : Z0L (frz H 30) [S, .rs n 5 cs] = some [x, .rs n 5 cs] := by
 have h2 : frz H 30 (.rs n 5 cs) = some (.rs n 5 cs) := rfl
 simp only [Z0L, h, h2]
theorem Zky (g : Nat -> Nat) (evs : List Ev) {k : Nat} (h : k < evs.length) {off : Nat} (e : off = k * 5) : tk 5 ((renL g (Z14 evs)).drop off) = some (Z0c evs[k]) := by
 subst e; rw [Z0r]; exact ev5 evs k h
theorem ZhV (c : Cd) (hok : okC c) (hs : ∀ i ∈ c.ins, ∀ e ∈ i.ex, Z0f e <= 800000) (L : List Ev) (hL : L.length <= 1000) :
  ValOK Tryz.prog runLives.gl 17 [c.av, rsE L] (Z9A c L) := by
 have hck := Z5z c hok
 by_cases hfl : Z0E c = true
 · have hc := Z1Z hfl
   obtain ⟨hr, hr0, hr16⟩ := Z3R hok hs hc
   have hac := Z2G hfl
   have hsi := Z3P hr hfl (reads L)
   have hst : Z07 c (reads L) = goI c.ins (reads L) (th0 c.regs.toNat) 0 := by unfold Z07; rw [if_pos hfl]
   have he : Z1y c = 0 := Z15.2 hfl
   have hR : Z9A c L = if Z6Z L (Z07 c (reads L)).th.evs = true then Z6E (Z07 c (reads L)).th.evs[L.length]? (Z07 c (reads L)) else .tuple [.agg (z5 ++ z5 ++ [.int .i64 0]), .int .i64 2] := by unfold Z9A; rw [if_neg (by rw [he]; decide)]
   rw [hR]
   rw [he] at hck
   clear hR
   obtain ⟨rg, l⟩ := c
   obtain ⟨regs, rfl⟩ : ∃ regs : Nat, rg = regs := ⟨rg.toNat, by simp only at hr0; omega⟩
   simp only [Cd.av, Int.toNat_natCast] at *
   obtain ⟨O, hO, q1, q4, q3, q2, q5⟩ := Zdf hr hac (by omega) 0 hck L hL
   rw [<- hst] at q3
   clear hst hfl hc he hs hok hac hck
   generalize Z07 ⟨(regs : Int), l⟩ (reads L) = st at *
   obtain ⟨h1, h2, h3, h4, h5, h6⟩ := hsi
   obtain ⟨⟨p, r, evs⟩, fin, q, asked⟩ := st
   have q2' := q2 p r
   have q5' := q5 (evs.take L.length) L (by rw [List.length_take]; omega) (by omega)
   have hfe : Z7R (evs.take L.length) L = Z6Z L evs := by rw [Bool.eq_iff_iff, Z2h, Z2H]
   rw [hfe] at q5'
   have hno : ¬ L.length <= evs.length -> Z6Z L evs = false := fun h => Z8e Z2H (fun e => h (by have := congrArg List.length e; rw [List.length_take] at this; omega))
   simp only [Z1G, thH, rsI, rsE] at *
   generalize hfb : Z6Z L evs = b at *
   generalize reads L = az at *
   clear q2 q5 hfe
   refine Z7I Zm9 3 follows Z09 hO Tryz.func17 rfl ?_
   cases evs with
   | nil =>
    simp only [grA, grB] at q3
    by_cases hle : L.length <= ([] : List Ev).length
    · obtain rfl : L = [] := List.length_eq_zero_iff.1 (by simpa using hle)
      cases b with
      | false =>
       rw [if_neg (by decide)]
       repeat' ((conv => whnf); first | (refine exI (q1 _) ?_) | (refine exI (q4 _) ?_) | (refine exI (q3 _) ?_) | (refine exI (q5' _ _ ?_) ?_; (focus (exact .inr ⟨rfl, rfl⟩))) | (first | refine stp ?_ | with_reducible refine Z01 (fun h => ?_) (fun h => ?_)))
       all_goals rfl
      | true =>
       rw [if_pos rfl]
       rw [show ([] : List Ev)[([] : List Ev).length]? = none from rfl]
       by_cases hfin : fin = 0
       · subst hfin
         obtain ⟨-, hq⟩ := h5 rfl
         subst hq
         generalize qu evF (Z0h l p) r = qq at *
         obtain ⟨qk, ql, qo, qa, qb⟩ := qq
         clear h5 h6
         simp only [Z6E, Z3H, quC, z5, List.cons_append, List.nil_append] at *
         repeat' ((conv => whnf); first | (refine exI (q1 _) ?_) | (refine exI (q4 _) ?_) | (refine exI (q3 _) ?_) | (refine exI (q5' _ _ ?_) ?_; (focus (exact .inr ⟨rfl, rfl⟩))) | (refine exI (q2' [.nslice, .int .i64 (asked : Nat), .int .i64 0, .bool true] h1 h2 _ _ ?_) ?_; (focus (exact Z9d (b := 2) rfl (Zj6 (n := 27) (b := 3) rfl rfl) rfl))) | (first | refine stp ?_ | with_reducible refine Z01 (fun h => ?_) (fun h => ?_)))
         all_goals rfl
       · have hfb2 : (fin == 0) = false := by simpa using hfin
         obtain ⟨-, hq⟩ := h6 hfin
         subst hq
         rw [hfb2] at q3
         simp only [Z6E, Z3H, z5, List.cons_append, List.nil_append] at *
         repeat' ((conv => whnf); first | (refine exI (q1 _) ?_) | (refine exI (q4 _) ?_) | (refine exI (q3 _) ?_) | (refine exI (q5' _ _ ?_) ?_; (focus (exact .inr ⟨rfl, rfl⟩))) | (first | refine stp ?_ | with_reducible refine Z01 (fun h => ?_) (fun h => ?_)))
         all_goals rfl
    · have hb := hno hle
      subst hb
      have e1 : decide ((0 : Int) >= (L.length : Int)) = false := decide_eq_false (by have h0 : ¬ L.length <= 0 := hle; omega)
      rw [if_neg (by decide)]
      repeat' ((conv => whnf); first | (refine exI (q1 _) ?_) | (refine exI (q4 _) ?_) | (refine exI (q3 _) ?_) | (first | refine stp ?_ | with_reducible refine Z01 (fun h => ?_) (fun h => ?_)))
      all_goals rfl
   | cons z evs =>
    simp only [grA, grB] at q3
    by_cases hle : L.length <= (z :: evs : List Ev).length
    · have e1 : decide (((evs.length + 1 : Nat) : Int) >= (L.length : Int)) = true := by simp only [List.length_cons] at hle; simp; omega
      have wj : L.length <= evs.length + 1 := by simpa using hle
      cases b with
      | false =>
       rw [if_neg (by decide)]
       repeat' ((conv => whnf); first | (refine exI (q1 _) ?_) | (refine exI (q4 _) ?_) | (refine exI (q3 _) ?_) | (refine exI (q5' _ _ ?_) ?_; (focus (exact .inl (Z63 (Zl3 (n := 28) (b := 4) (g := (· + 2)) (l := z :: evs) rfl hle))))) | (with_reducible refine ZbM L.length rfl ?_ ?_; (focus (omega))) | (first | refine stp ?_ | with_reducible refine Z01 (fun h => ?_) (fun h => ?_)))
       all_goals rfl
      | true =>
       rw [if_pos rfl]
       by_cases hlt : L.length < (z :: evs).length
       · have e2 : decide (((evs.length + 1 : Nat) : Int) > (L.length : Int)) = true := by simp only [List.length_cons] at hlt; simp; omega
         have hlt' : L.length < evs.length + 1 := by simpa using hlt
         have hx5 := fun (g : Nat -> Nat) (off : Nat) (e : off = L.length * 5) => Zky g (z :: evs) hlt e
         rw [List.getElem?_eq_getElem hlt]
         generalize (z :: evs)[L.length] = ev at *
         obtain ⟨ek, el, eo, er, ew⟩ := ev
         simp only [Z6E, Z0c, z5, List.cons_append, List.nil_append] at *
         repeat' ((conv => whnf); first | (refine exI (q1 _) ?_) | (refine exI (q4 _) ?_) | (refine exI (q3 _) ?_) | (refine exI (q5' _ _ ?_) ?_; (focus (exact .inl (Z63 (Zl3 (n := 28) (b := 4) (g := (· + 2)) (l := z :: evs) rfl hle))))) | (refine exI (hx5 _ _ (by omega)) ?_) | (with_reducible refine ixJ L.length rfl ?_ ?_; (focus (omega))) | (with_reducible refine ZbM L.length rfl ?_ ?_; (focus (omega))) | (first | refine stp ?_ | with_reducible refine Z01 (fun h => ?_) (fun h => ?_)))
         all_goals rfl
       · have e2 : decide (((evs.length + 1 : Nat) : Int) > (L.length : Int)) = false := by simp only [List.length_cons] at hlt; simp; omega
         rw [List.getElem?_eq_none (by omega)]
         by_cases hfin : fin = 0
         · subst hfin
           obtain ⟨-, hq⟩ := h5 rfl
           subst hq
           generalize qu evF (Z0h l p) r = qq at *
           obtain ⟨qk, ql, qo, qa, qb⟩ := qq
           clear h5 h6
           simp only [Z6E, Z3H, quC, z5, List.cons_append, List.nil_append] at *
           repeat' ((conv => whnf); first | (refine exI (q1 _) ?_) | (refine exI (q4 _) ?_) | (refine exI (q3 _) ?_) | (refine exI (q5' _ _ ?_) ?_; (focus (exact .inl (Z63 (Zl3 (n := 28) (b := 4) (g := (· + 2)) (l := z :: evs) rfl hle))))) | (refine exI (q2' [.rs (evs.length + 1) 5 (Z14 (z :: evs)), .int .i64 (asked : Nat), .int .i64 0, .bool true] h1 h2 _ _ ?_) ?_; (focus (exact Z9d (b := 2) rfl (Zj6 (n := 27) (b := 3) rfl rfl) (Zma (n := 27) (b := 4) rfl)))) | (with_reducible refine ZbM L.length rfl ?_ ?_; (focus (omega))) | (first | refine stp ?_ | with_reducible refine Z01 (fun h => ?_) (fun h => ?_)))
           all_goals rfl
         · have hfb2 : (fin == 0) = false := by simpa using hfin
           obtain ⟨-, hq⟩ := h6 hfin
           subst hq
           rw [hfb2] at q3
           simp only [Z6E, Z3H, z5, List.cons_append, List.nil_append] at *
           repeat' ((conv => whnf); first | (refine exI (q1 _) ?_) | (refine exI (q4 _) ?_) | (refine exI (q3 _) ?_) | (refine exI (q5' _ _ ?_) ?_; (focus (exact .inl (Z63 (Zl3 (n := 28) (b := 4) (g := (· + 2)) (l := z :: evs) rfl hle))))) | (with_reducible refine ZbM L.length rfl ?_ ?_; (focus (omega))) | (first | refine stp ?_ | with_reducible refine Z01 (fun h => ?_) (fun h => ?_)))
           all_goals rfl
    · have hb := hno hle
      subst hb
      have e1 : decide (((evs.length + 1 : Nat) : Int) >= (L.length : Int)) = false := by simp only [List.length_cons] at hle; simp; omega
      rw [if_neg (by decide)]
      repeat' ((conv => whnf); first | (refine exI (q1 _) ?_) | (refine exI (q4 _) ?_) | (refine exI (q3 _) ?_) | (first | refine stp ?_ | with_reducible refine Z01 (fun h => ?_) (fun h => ?_)))
      all_goals rfl
 · have he : Z1y c ≠ 0 := fun h => hfl (Z15.1 h)
   have hR : Z9A c L = .tuple [.agg (z5 ++ z5 ++ [.int .i64 0]), .int .i64 (Z1y c)] := by unfold Z9A; rw [if_pos he]
   rw [hR]
   have e1 : (Z1y c != 0) = true := by simpa using he
   have e1' : (Z1y c == 0) = false := by simpa using he
   obtain ⟨O, hO, p1, -⟩ := fams (P := Tryz.prog) (gl := runLives.gl) [{ I := Unit, f := 29, G := fun _ => True, A := fun _ => [c.av], R := fun _ => .int .i64 (Z1y c), body := (by kernel_rfl), inj := fun _ _ _ _ _ => rfl, ok := fun _ _ => ⟨rfl, hck⟩ }] rfl
   have q1 : ∀ H, Z04 Tryz.prog O H 29 [c.av] = some (.int .i64 (Z1y c), H) := p1 () trivial
   clear p1 hck he hfl hok hs hR
   generalize Z1y c = n at *
   obtain ⟨regs, l⟩ := c
   simp only [Cd.av, rsE, z5, List.cons_append, List.nil_append] at *
   refine Z7I Zm9 3 follows Z09 hO Tryz.func17 rfl ?_
   repeat' ((conv => whnf); first | (refine exI (q1 _) ?_) | (first | refine stp ?_ | with_reducible refine Z01 (fun h => ?_) (fun h => ?_)))
   all_goals rfl
theorem Zih (c : Cd) (hok : okC c) (hs : ∀ i ∈ c.ins, ∀ e ∈ i.ex, Z0f e <= 800000) (L : List Ev) (hL : L.length <= 1000) :
  ValOK Tryz.prog runLives.gl 24 [c.av, rsE L] (.bool (Z6F c L)) := by
 have hck := Z5z c hok
 by_cases hfl : Z0E c = true
 · have hc := Z1Z hfl
   obtain ⟨hr, hr0, hr16⟩ := Z3R hok hs hc
   have hac := Z2G hfl
   have hsi := Z3P hr hfl (reads L)
   have hst : Z07 c (reads L) = goI c.ins (reads L) (th0 c.regs.toNat) 0 := by unfold Z07; rw [if_pos hfl]
   have he : Z1y c = 0 := Z15.2 hfl
   have hR : Z6F c L = Z6Z L (Z07 c (reads L)).th.evs := by unfold Z6F; rw [he]; rfl
   rw [hR]
   rw [he] at hck
   clear hR
   obtain ⟨rg, l⟩ := c
   obtain ⟨regs, rfl⟩ : ∃ regs : Nat, rg = regs := ⟨rg.toNat, by simp only at hr0; omega⟩
   simp only [Cd.av, Int.toNat_natCast] at *
   obtain ⟨O, hO, q1, q4, q3, q2, q5⟩ := Zdf hr hac (by omega) 0 hck L hL
   rw [<- hst] at q3
   clear hst hfl hc he hs hok hac hck
   generalize Z07 ⟨(regs : Int), l⟩ (reads L) = st at *
   obtain ⟨h1, h2, h3, h4, h5, h6⟩ := hsi
   obtain ⟨⟨p, r, evs⟩, fin, q, asked⟩ := st
   have q2' := q2 p r
   have q5' := q5 (evs.take L.length) L (by rw [List.length_take]; omega) (by omega)
   have hfe : Z7R (evs.take L.length) L = Z6Z L evs := by rw [Bool.eq_iff_iff, Z2h, Z2H]
   rw [hfe] at q5'
   have hno : ¬ L.length <= evs.length -> Z6Z L evs = false := fun h => Z8e Z2H (fun e => h (by have := congrArg List.length e; rw [List.length_take] at this; omega))
   simp only [Z1G, thH, rsI, rsE] at *
   generalize hfb : Z6Z L evs = b at *
   generalize reads L = az at *
   clear q2 q5 hfe
   refine Z7I Zm9 3 follows Z09 hO Tryz.func24 rfl ?_
   cases evs with
   | nil =>
    simp only [grA, grB] at q3
    by_cases hle : L.length <= ([] : List Ev).length
    · obtain rfl : L = [] := List.length_eq_zero_iff.1 (by simpa using hle)
      cases b with
      | false =>
       repeat' ((conv => whnf); first | (refine exI (q1 _) ?_) | (refine exI (q4 _) ?_) | (refine exI (q3 _) ?_) | (refine exI (q5' _ _ ?_) ?_; (focus (exact .inr ⟨rfl, rfl⟩))) | (first | refine stp ?_ | with_reducible refine Z01 (fun h => ?_) (fun h => ?_)))
       all_goals rfl
      | true =>
       repeat' ((conv => whnf); first | (refine exI (q1 _) ?_) | (refine exI (q4 _) ?_) | (refine exI (q3 _) ?_) | (refine exI (q5' _ _ ?_) ?_; (focus (exact .inr ⟨rfl, rfl⟩))) | (first | refine stp ?_ | with_reducible refine Z01 (fun h => ?_) (fun h => ?_)))
       all_goals rfl
    · have hb := hno hle
      subst hb
      have e1 : decide ((0 : Int) >= (L.length : Int)) = false := decide_eq_false (by have h0 : ¬ L.length <= 0 := hle; omega)
      repeat' ((conv => whnf); first | (refine exI (q1 _) ?_) | (refine exI (q4 _) ?_) | (refine exI (q3 _) ?_) | (first | refine stp ?_ | with_reducible refine Z01 (fun h => ?_) (fun h => ?_)))
      all_goals rfl
   | cons z evs =>
    simp only [grA, grB] at q3
    by_cases hle : L.length <= (z :: evs : List Ev).length
    · have e1 : decide (((evs.length + 1 : Nat) : Int) >= (L.length : Int)) = true := by simp only [List.length_cons] at hle; simp; omega
      have wj : L.length <= evs.length + 1 := by simpa using hle
      cases b with
      | false =>
       repeat' ((conv => whnf); first | (refine exI (q1 _) ?_) | (refine exI (q4 _) ?_) | (refine exI (q3 _) ?_) | (refine exI (q5' _ _ ?_) ?_; (focus (exact .inl (Z63 (Zl3 (n := 28) (b := 3) (g := (· + 1)) (l := z :: evs) rfl hle))))) | (with_reducible refine ZbM L.length rfl ?_ ?_; (focus (omega))) | (first | refine stp ?_ | with_reducible refine Z01 (fun h => ?_) (fun h => ?_)))
       all_goals rfl
      | true =>
       repeat' ((conv => whnf); first | (refine exI (q1 _) ?_) | (refine exI (q4 _) ?_) | (refine exI (q3 _) ?_) | (refine exI (q5' _ _ ?_) ?_; (focus (exact .inl (Z63 (Zl3 (n := 28) (b := 3) (g := (· + 1)) (l := z :: evs) rfl hle))))) | (with_reducible refine ZbM L.length rfl ?_ ?_; (focus (omega))) | (first | refine stp ?_ | with_reducible refine Z01 (fun h => ?_) (fun h => ?_)))
       all_goals rfl
    · have hb := hno hle
      subst hb
      have e1 : decide (((evs.length + 1 : Nat) : Int) >= (L.length : Int)) = false := by simp only [List.length_cons] at hle; simp; omega
      repeat' ((conv => whnf); first | (refine exI (q1 _) ?_) | (refine exI (q4 _) ?_) | (refine exI (q3 _) ?_) | (first | refine stp ?_ | with_reducible refine Z01 (fun h => ?_) (fun h => ?_)))
      all_goals rfl
 · have he : Z1y c ≠ 0 := fun h => hfl (Z15.1 h)
   have hR : Z6F c L = false := by unfold Z6F; rw [show (Z1y c == 0) = false by simpa using he]; rfl
   rw [hR]
   have e1 : (Z1y c != 0) = true := by simpa using he
   have e1' : (Z1y c == 0) = false := by simpa using he
   obtain ⟨O, hO, p1, -⟩ := fams (P := Tryz.prog) (gl := runLives.gl) [{ I := Unit, f := 29, G := fun _ => True, A := fun _ => [c.av], R := fun _ => .int .i64 (Z1y c), body := (by kernel_rfl), inj := fun _ _ _ _ _ => rfl, ok := fun _ _ => ⟨rfl, hck⟩ }] rfl
   have q1 : ∀ H, Z04 Tryz.prog O H 29 [c.av] = some (.int .i64 (Z1y c), H) := p1 () trivial
   clear p1 hck he hfl hok hs hR
   generalize Z1y c = n at *
   obtain ⟨regs, l⟩ := c
   simp only [Cd.av, rsE, z5, List.cons_append, List.nil_append] at *
   refine Z7I Zm9 3 follows Z09 hO Tryz.func24 rfl ?_
   repeat' ((conv => whnf); first | (refine exI (q1 _) ?_) | (first | refine stp ?_ | with_reducible refine Z01 (fun h => ?_) (fun h => ?_)))
   all_goals rfl
end Go.Proofs.YteidjbahodbgdaaGreatDoor.lex
end

section
namespace Go.Proofs.YteidjbahodbgdaaGreatDoor.lex
open Go.Abs Go.RowKit Go.Flat
set_option maxRecDepth 100000
set_option maxHeartbeats 4000000
variable {gl : Z0l}
theorem Zez (c : Cd) (hok : okC c) (hs : ∀ i ∈ c.ins, ∀ e ∈ i.ex, Z0f e <= 800000) (L : List Ev) (hL : L.length <= 1000) :
  ValOK Tryz.prog gl 18 [c.av, rsE L] (Z9A c L) := by
 have hal : (reads L).length <= 1000 := by have := Z4a L; omega
 have hrun := Z9n (gl := gl) c hok hs (reads L) hal
 have hev := Z7f hok hs (reads L)
 obtain ⟨O, hO, p1, p2, p3, -⟩ := fams (P := Tryz.prog) (gl := gl) [{ I := Unit, f := 23, G := fun _ => True, A := fun _ => [rsE L], R := fun _ => rsI (reads L), body := (by kernel_rfl), inj := fun _ _ _ _ _ => rfl, ok := fun _ _ => ⟨rfl, Z4O L (by omega)⟩ },
  { I := Unit, f := 16, G := fun _ => True, A := fun _ => [c.av, rsI (reads L)], R := fun _ => .tuple [.agg (Z0T (Z07 c (reads L))), .int .i64 (Z1y c)], body := (by kernel_rfl), inj := fun _ _ _ _ _ => rfl, ok := fun _ _ => ⟨rfl, hrun⟩ },
  { I := Unit, f := 40, G := fun _ => True, A := fun _ => [rsE L, rsE (Z07 c (reads L)).th.evs], R := fun _ => .bool (Z6Z L (Z07 c (reads L)).th.evs), body := (by kernel_rfl), inj := fun _ _ _ _ _ => rfl, ok := fun _ _ => ⟨rfl, Zba _ _ (by omega) (by omega)⟩ }] rfl
 have q1 : ∀ H, Z04 Tryz.prog O H 23 [rsE L] = some (rsI (reads L), H) := p1 () trivial
 have q2 : ∀ H, Z04 Tryz.prog O H 16 [c.av, rsI (reads L)] = some (.tuple [.agg (Z0T (Z07 c (reads L))), .int .i64 (Z1y c)], H) := p2 () trivial
 have q3 : ∀ H, Z04 Tryz.prog O H 40 [rsE L, rsE (Z07 c (reads L)).th.evs] = some (.bool (Z6Z L (Z07 c (reads L)).th.evs), H) := p3 () trivial
 clear p1 p2 p3 hrun hok hs
 unfold Z9A
 have hfl : Z6Z L (Z07 c (reads L)).th.evs = true -> L.length <= (Z07 c (reads L)).th.evs.length := fun h => by
  have := congrArg List.length (Z2H.1 h)
  rw [List.length_take] at this; omega
 generalize Z07 c (reads L) = st at *
 generalize Z1y c = n at *
 generalize reads L = az at *
 generalize hfb : Z6Z L st.th.evs = b at *
 obtain ⟨regs, l⟩ := c
 obtain ⟨⟨p, r, evs⟩, fin, q, asked⟩ := st
 simp only [Cd.av, rsI, rsE, Z0T] at *
 refine Z0a follows Z09 hO Tryz.func18 rfl ?_
 by_cases hn : n = 0
 · subst hn
   rw [if_neg (by decide)]
   cases b with
   | false =>
    rw [if_neg (by decide)]
    cases q with
    | none =>
     simp only [Z3H, z5, List.cons_append, List.nil_append] at *
     repeat' ((conv => whnf); first | (refine exI (q1 _) ?_) | (refine exI (q2 _) ?_) | (refine exI (q3 _) ?_) | (first | refine stp ?_ | with_reducible refine Z01 (fun h => ?_) (fun h => ?_)))
     all_goals rfl
    | some q =>
     obtain ⟨qk, ql, qo, qa, qb⟩ := q
     simp only [Z3H, quC, z5, List.cons_append, List.nil_append] at *
     repeat' ((conv => whnf); first | (refine exI (q1 _) ?_) | (refine exI (q2 _) ?_) | (refine exI (q3 _) ?_) | (first | refine stp ?_ | with_reducible refine Z01 (fun h => ?_) (fun h => ?_)))
     all_goals rfl
   | true =>
    rw [if_pos rfl]
    have hle := hfl rfl
    by_cases hlt : L.length < evs.length
    · have e2 : decide ((evs.length : Int) > (L.length : Int)) = true := by simp; omega
      have hx := ev5 evs L.length hlt
      rw [List.getElem?_eq_getElem hlt]
      generalize evs[L.length] = ev at *
      obtain ⟨ek, el, eo, er, ew⟩ := ev
      cases q with
      | none =>
       simp only [Z6E, Z3H, Z0c, z5, List.cons_append, List.nil_append] at *
       repeat' ((conv => whnf); first | (refine exI (q1 _) ?_) | (refine exI (q2 _) ?_) | (refine exI (q3 _) ?_) | (refine exI hx ?_) | (with_reducible refine ixJ L.length rfl ?_ ?_; (focus (omega))) | (first | refine stp ?_ | with_reducible refine Z01 (fun h => ?_) (fun h => ?_)))
       all_goals rfl
      | some q =>
       obtain ⟨qk, ql, qo, qa, qb⟩ := q
       simp only [Z6E, Z3H, quC, Z0c, z5, List.cons_append, List.nil_append] at *
       repeat' ((conv => whnf); first | (refine exI (q1 _) ?_) | (refine exI (q2 _) ?_) | (refine exI (q3 _) ?_) | (refine exI hx ?_) | (with_reducible refine ixJ L.length rfl ?_ ?_; (focus (omega))) | (first | refine stp ?_ | with_reducible refine Z01 (fun h => ?_) (fun h => ?_)))
       all_goals rfl
    · have e2 : decide ((evs.length : Int) > (L.length : Int)) = false := by simp; omega
      rw [List.getElem?_eq_none (by omega)]
      cases q with
      | none =>
       simp only [Z6E, Z3H, z5, List.cons_append, List.nil_append] at *
       repeat' ((conv => whnf); first | (refine exI (q1 _) ?_) | (refine exI (q2 _) ?_) | (refine exI (q3 _) ?_) | (first | refine stp ?_ | with_reducible refine Z01 (fun h => ?_) (fun h => ?_)))
       all_goals rfl
      | some q =>
       obtain ⟨qk, ql, qo, qa, qb⟩ := q
       simp only [Z6E, Z3H, quC, z5, List.cons_append, List.nil_append] at *
       repeat' ((conv => whnf); first | (refine exI (q1 _) ?_) | (refine exI (q2 _) ?_) | (refine exI (q3 _) ?_) | (first | refine stp ?_ | with_reducible refine Z01 (fun h => ?_) (fun h => ?_)))
       all_goals rfl
 · rw [if_pos hn]
   have e1 : (n != 0) = true := by simpa using hn
   cases q with
   | none =>
    simp only [Z3H, z5, List.cons_append, List.nil_append] at *
    repeat' ((conv => whnf); first | (refine exI (q1 _) ?_) | (refine exI (q2 _) ?_) | (first | refine stp ?_ | with_reducible refine Z01 (fun h => ?_) (fun h => ?_)))
    all_goals rfl
   | some q =>
    obtain ⟨qk, ql, qo, qa, qb⟩ := q
    simp only [Z3H, quC, z5, List.cons_append, List.nil_append] at *
    repeat' ((conv => whnf); first | (refine exI (q1 _) ?_) | (refine exI (q2 _) ?_) | (first | refine stp ?_ | with_reducible refine Z01 (fun h => ?_) (fun h => ?_)))
    all_goals rfl
theorem ZeM (c : Cd) (hok : okC c) (hs : ∀ i ∈ c.ins, ∀ e ∈ i.ex, Z0f e <= 800000) (L : List Ev) (hL : L.length <= 1000) :
  ValOK Tryz.prog gl 25 [c.av, rsE L] (.bool (Z6F c L)) := by
 have hal : (reads L).length <= 1000 := by have := Z4a L; omega
 have hrun := Z9n (gl := gl) c hok hs (reads L) hal
 have hev := Z7f hok hs (reads L)
 obtain ⟨O, hO, p1, p2, p3, -⟩ := fams (P := Tryz.prog) (gl := gl) [{ I := Unit, f := 23, G := fun _ => True, A := fun _ => [rsE L], R := fun _ => rsI (reads L), body := (by kernel_rfl), inj := fun _ _ _ _ _ => rfl, ok := fun _ _ => ⟨rfl, Z4O L (by omega)⟩ },
  { I := Unit, f := 16, G := fun _ => True, A := fun _ => [c.av, rsI (reads L)], R := fun _ => .tuple [.agg (Z0T (Z07 c (reads L))), .int .i64 (Z1y c)], body := (by kernel_rfl), inj := fun _ _ _ _ _ => rfl, ok := fun _ _ => ⟨rfl, hrun⟩ },
  { I := Unit, f := 40, G := fun _ => True, A := fun _ => [rsE L, rsE (Z07 c (reads L)).th.evs], R := fun _ => .bool (Z6Z L (Z07 c (reads L)).th.evs), body := (by kernel_rfl), inj := fun _ _ _ _ _ => rfl, ok := fun _ _ => ⟨rfl, Zba _ _ (by omega) (by omega)⟩ }] rfl
 have q1 : ∀ H, Z04 Tryz.prog O H 23 [rsE L] = some (rsI (reads L), H) := p1 () trivial
 have q2 : ∀ H, Z04 Tryz.prog O H 16 [c.av, rsI (reads L)] = some (.tuple [.agg (Z0T (Z07 c (reads L))), .int .i64 (Z1y c)], H) := p2 () trivial
 have q3 : ∀ H, Z04 Tryz.prog O H 40 [rsE L, rsE (Z07 c (reads L)).th.evs] = some (.bool (Z6Z L (Z07 c (reads L)).th.evs), H) := p3 () trivial
 clear p1 p2 p3 hrun hok hs
 unfold Z6F
 generalize Z07 c (reads L) = st at *
 generalize Z1y c = n at *
 generalize reads L = az at *
 generalize hfb : Z6Z L st.th.evs = b at *
 obtain ⟨regs, l⟩ := c
 obtain ⟨⟨p, r, evs⟩, fin, q, asked⟩ := st
 simp only [Cd.av, rsI, rsE, Z0T] at *
 refine Z0a follows Z09 hO Tryz.func25 rfl ?_
 cases hn : (n == 0) with
 | true =>
  cases q with
  | none =>
   simp only [Z3H, List.cons_append, List.nil_append] at *
   repeat' ((conv => whnf); first | (refine exI (q1 _) ?_) | (refine exI (q2 _) ?_) | (refine exI (q3 _) ?_) | (first | refine stp ?_ | with_reducible refine Z01 (fun h => ?_) (fun h => ?_)))
   all_goals rfl
  | some q =>
   obtain ⟨qk, ql, qo, qa, qb⟩ := q
   simp only [Z3H, quC, List.cons_append, List.nil_append] at *
   repeat' ((conv => whnf); first | (refine exI (q1 _) ?_) | (refine exI (q2 _) ?_) | (refine exI (q3 _) ?_) | (first | refine stp ?_ | with_reducible refine Z01 (fun h => ?_) (fun h => ?_)))
   all_goals rfl
 | false =>
  cases q with
  | none =>
   simp only [Z3H, List.cons_append, List.nil_append] at *
   repeat' ((conv => whnf); first | (refine exI (q1 _) ?_) | (refine exI (q2 _) ?_) | (first | refine stp ?_ | with_reducible refine Z01 (fun h => ?_) (fun h => ?_)))
   all_goals (first | rfl | (show AV.bool _ = AV.bool _; congr 1))
  | some q =>
   obtain ⟨qk, ql, qo, qa, qb⟩ := q
   simp only [Z3H, quC, List.cons_append, List.nil_append] at *
   repeat' ((conv => whnf); first | (refine exI (q1 _) ?_) | (refine exI (q2 _) ?_) | (first | refine stp ?_ | with_reducible refine Z01 (fun h => ?_) (fun h => ?_)))
   all_goals (first | rfl | (show AV.bool _ = AV.bool _; congr 1))
end Go.Proofs.YteidjbahodbgdaaGreatDoor.lex
end

section
namespace Go.Proofs.YteidjbahodbgdaaGreatDoor.lex
open Go.Abs Go.RowKit Go.Flat
set_option maxRecDepth 100000
set_option maxHeartbeats 4000000
def QV (us : List AV) : Prop := ∃ e : Ev, us = Z0c e
theorem ZgB : ∀ l : List (List AV), (∀ u ∈ l, QV u /\ u.length = 5) -> ∃ m : List Ev, l.flatten = Z14 m /\ l.length = m.length
 | [], _ => ⟨[], by simp only [Z14, List.flatten_nil], rfl⟩
 | u :: l, h => by
  obtain ⟨m, h1, h2⟩ := ZgB l fun v hv => h v (by simp [hv])
  obtain ⟨⟨e, rfl⟩, _⟩ := h u (by simp)
  exact ⟨e :: m, by simp only [List.flatten_cons, Z14, h1], by simp [h2]⟩
theorem fsV : Z1U Tryz.prog (match Tryz.prog.underlying 47 with | some (.struct fs) => fs.toList | _ => []) [QI, QI, QI, QI, QI] 0 (Tryz.prog.cellsOf 47) := by
 rw [Tryz.underlying47]
 refine ⟨rfl, Z0v Tryz.underlying3, ?_⟩
 refine ⟨by kernel_rfl, Z0v Tryz.underlying3, ?_⟩
 refine ⟨by kernel_rfl, Z0v Tryz.underlying3, ?_⟩
 refine ⟨by kernel_rfl, Z0v Tryz.underlying2, ?_⟩
 refine ⟨by kernel_rfl, Z0v Tryz.underlying2, ?_⟩
 unfold Z1U; kernel_rfl
theorem fsA : Z1U Tryz.prog (match Tryz.prog.underlying 35 with | some (.struct fs) => fs.toList | _ => []) [QI, QI, QI, QI, QI] 0 (Tryz.prog.cellsOf 35) := by
 rw [Tryz.underlying35]
 refine ⟨rfl, Z0v Tryz.underlying3, ?_⟩
 refine ⟨by kernel_rfl, Z0v Tryz.underlying3, ?_⟩
 refine ⟨by kernel_rfl, Z0v Tryz.underlying3, ?_⟩
 refine ⟨by kernel_rfl, Z0v Tryz.underlying2, ?_⟩
 refine ⟨by kernel_rfl, Z0v Tryz.underlying2, ?_⟩
 unfold Z1U; kernel_rfl
theorem q_5 {us : List AV} (h : FsQ [QI, QI, QI, QI, QI] us) : ∃ a b c d e : Int, us = [.int .i64 a, .int .i64 b, .int .i64 c, .int .i64 d, .int .i64 e] := by
 obtain ⟨a, u1, rfl, ⟨n1, rfl, _⟩, b, u2, rfl, ⟨n2, rfl, _⟩, c, u3, rfl, ⟨n3, rfl, _⟩, d, u4, rfl, ⟨n4, rfl, _⟩, e, u5, rfl, ⟨n5, rfl, _⟩, h3⟩ := h
 have h3 : u5 = [] := h3
 subst h3
 exact ⟨n1, n2, n3, n4, n5, rfl⟩
theorem ZjW : Z44 Tryz.prog 33 fun u => ∃ l : List Ev, u = rsE l /\ l.length <= 9223372036854775807 := by
 have h3 := fsV
 rw [Tryz.underlying47] at h3
 refine Z2u (Z3U Tryz.underlying33 (by kernel_rfl) (show (5 : Nat) ≠ 0 by decide) (Z5R (Z3T Tryz.underlying47 h3) fun u hu => (show QV u by obtain ⟨a, b, c, d, e, rfl⟩ := q_5 hu; exact ⟨⟨a, b, c, d, e⟩, rfl⟩))) ?_
 rintro u ⟨l, hl, rfl, hll⟩
 obtain ⟨m, e1, e2⟩ := ZgB l hl
 exact ⟨m, by rw [e1, e2]; rfl, by rw [<- e2]; exact hll⟩
theorem Zls : Z44 Tryz.prog 35 fun u => ∃ q : Qu, u = .agg (quC q) := by
 have h3 := fsA
 rw [Tryz.underlying35] at h3
 refine Z2u (Z5f Tryz.underlying35 h3) ?_
 rintro u ⟨us, rfl, hu⟩
 obtain ⟨a, b, c, d, e, rfl⟩ := q_5 hu
 exact ⟨⟨a, b, c, d, e⟩, rfl⟩
variable {gl : Z0l}
end Go.Proofs.YteidjbahodbgdaaGreatDoor.lex
end

section
namespace Go.Proofs.YteidjbahodbgdaaGreatDoor.lex
open Go.Abs Go.RowKit Go.Flat
set_option maxRecDepth 100000
set_option maxHeartbeats 4000000
theorem ZgE {P : Program} {e : TypeId -> AV -> AV -> Option Bool} {t off z : Nat} {fs : List (TypeId × Nat)} {xs ys xs' ys' : List AV} {p q : Bool} (ht : Z47 P t = some true) (hz : tsz P t = some z) (hx : tk z (xs.drop off) = some xs') (hy : tk z (ys.drop off) = some ys') (h : e t (.agg xs') (.agg ys') = some p) (h2 : Z6H e P fs xs ys = some q) :
  Z6H e P ((t, off) :: fs) xs ys = some (p && q) := by
 simp only [Z6H, Z5E, ht, hz, hx, hy, h, h2]
theorem Zn9 : Z47 Tryz.prog 47 = some true := by kernel_rfl
theorem Zna : Z47 Tryz.prog 35 = some true := by kernel_rfl
theorem Zn7 : tsz Tryz.prog 47 = some 5 := by kernel_rfl
theorem Zn8 : tsz Tryz.prog 35 = some 5 := by kernel_rfl
theorem egN : Tryz.prog.eqGuardType Tryz.prog.depth 49 = false := by kernel_rfl
theorem feN : Z2g Tryz.prog 49 = some [(47, 0), (35, 5), (3, 10)] := by kernel_rfl
theorem Zcm (a : Int × Int × Int × Int × Int) : eq5 a a = true := Zjd.2 rfl
theorem Znh (d : Nat) (a b c x y a' b' c' x' y' : Int) : eqB Tryz.prog (d + 2) 47 (.agg [.int .i64 a, .int .i64 b, .int .i64 c, .int .i64 x, .int .i64 y]) (.agg [.int .i64 a', .int .i64 b', .int .i64 c', .int .i64 x', .int .i64 y']) = some (eq5 (a, b, c, x, y) (a', b', c', x', y')) :=
 (Zcl (d := d + 1) feE).trans (Z0A tgI rfl rfl (Z0U Tryz.underlying3 _ _) (Z0A tgI rfl rfl (Z0U Tryz.underlying3 _ _) (Z0A tgI rfl rfl (Z0U Tryz.underlying3 _ _) (Z0A tgL rfl rfl (Z0U Tryz.underlying2 _ _) (Z0A tgL rfl rfl (Z0U Tryz.underlying2 _ _) rfl)))))
theorem Zni (d : Nat) (a b c x y a' b' c' x' y' : Int) : eqB Tryz.prog (d + 2) 35 (.agg [.int .i64 a, .int .i64 b, .int .i64 c, .int .i64 x, .int .i64 y]) (.agg [.int .i64 a', .int .i64 b', .int .i64 c', .int .i64 x', .int .i64 y']) = some (eq5 (a, b, c, x, y) (a', b', c', x', y')) :=
 (Zcl (d := d + 1) feA).trans (Z0A tgI rfl rfl (Z0U Tryz.underlying3 _ _) (Z0A tgI rfl rfl (Z0U Tryz.underlying3 _ _) (Z0A tgI rfl rfl (Z0U Tryz.underlying3 _ _) (Z0A tgL rfl rfl (Z0U Tryz.underlying2 _ _) (Z0A tgL rfl rfl (Z0U Tryz.underlying2 _ _) rfl)))))
def c11 (a b : Int × Int × Int × Int × Int) (e : Int) : List AV := [.int .i64 a.1, .int .i64 a.2.1, .int .i64 a.2.2.1, .int .i64 a.2.2.2.1, .int .i64 a.2.2.2.2, .int .i64 b.1, .int .i64 b.2.1, .int .i64 b.2.2.1, .int .i64 b.2.2.2.1, .int .i64 b.2.2.2.2, .int .i64 e]
theorem Znk (a b a' b' : Int × Int × Int × Int × Int) (e e' : Int) : Zaa Tryz.prog 49 (c11 a b e) (c11 a' b' e') = some (eq5 a a' && (eq5 b b' && ((e == e') && true))) :=
 Za9 egN feN (ZgE Zn9 Zn7 rfl rfl (Znh 9997 _ _ _ _ _ _ _ _ _ _) (ZgE Zna Zn8 rfl rfl (Zni 9997 _ _ _ _ _ _ _ _ _ _) (Z0A tgI rfl rfl (Z0U Tryz.underlying3 _ _) rfl)))
theorem ZeA (c : Cd) (L : List Ev) : ∃ a b e n, Z9A c L = .tuple [.agg (c11 a b e), .int .i64 n] := by
 unfold Z9A
 split
 · exact ⟨(0, 0, 0, 0, 0), (0, 0, 0, 0, 0), 0, _, rfl⟩
 split
 · cases (Z07 c (reads L)).th.evs[L.length]? with
   | none =>
    refine ⟨(0, 0, 0, 0, 0), qu5 (Z07 c (reads L)).q, (Z07 c (reads L)).fin, 0, ?_⟩
    simp only [Z6E, Z2k]; rfl
   | some e => exact ⟨(e.kind, e.loc, e.order, e.rd, e.wr), (0, 0, 0, 0, 0), 0, 0, rfl⟩
 · exact ⟨(0, 0, 0, 0, 0), (0, 0, 0, 0, 0), 0, 2, rfl⟩
theorem icLaw (c : Cd) (az : List Int) (L : List Ev) (a : Qu) (v : Int) (hok : okC c) (haz : az.length <= 9223372036854775807) (hL : L.length <= 9223372036854775807) : ValOK Tryz.prog runLives.gl 5 [c.av, rsI az, rsE L, .agg (quC a), .int .i64 v] (.bool true) := by
 have hsz := fun h => (Z4g (c := c) (n := 30) h).2
 by_cases hlight : ltC c 30 = true /\ az.length <= 30 /\ L.length <= 30
 case' neg =>
  obtain ⟨O, hO, p0, p1, -⟩ := fams (P := Tryz.prog) (gl := runLives.gl) [
   one0 (f := 7) (A := []) (R := .bool true) True (by kernel_rfl) rfl (fun _ => Z8G),
   one0 (f := 8) (A := [c.av, .int .i64 30]) (R := .bool (ltC c 30)) True (by kernel_rfl) rfl (fun _ => Z3b c hok 30)] rfl
  have q0 : ∀ H, Z04 Tryz.prog O H 7 [] = some (.bool true, H) := p0 () trivial
  have q1 : ∀ H, Z04 Tryz.prog O H 8 [c.av, .int .i64 30] = some (.bool (ltC c 30), H) := p1 () trivial
  clear p0 p1 hsz hok
  generalize ltC c 30 = lt at *
  obtain ⟨regs, l⟩ := c
  obtain ⟨ak, al, ao, aa, ab⟩ := a
  simp only [Cd.av, rsI, rsE, quC] at *
  refine Z0a follows Z09 hO Tryz.func5 rfl ?_
  cases lt with
  | false =>
   repeat' ((conv => whnf); first | (refine exI (q0 _) ?_) | (refine exI (q1 _) ?_) | (first | refine stp ?_ | with_reducible refine Z01 (fun h => ?_) (fun h => ?_)))
   all_goals rfl
  | true =>
   by_cases h1 : az.length <= 30
   · have e1 : decide ((az.length : Int) > 30) = false := by simp; omega
     have e2 : decide ((L.length : Int) > 30) = true := by simp; simp only [true_and] at hlight; omega
     repeat' ((conv => whnf); first | (refine exI (q0 _) ?_) | (refine exI (q1 _) ?_) | (first | refine stp ?_ | with_reducible refine Z01 (fun h => ?_) (fun h => ?_)))
     all_goals rfl
   · have e1 : decide ((az.length : Int) > 30) = true := by simp; omega
     repeat' ((conv => whnf); first | (refine exI (q0 _) ?_) | (refine exI (q1 _) ?_) | (first | refine stp ?_ | with_reducible refine Z01 (fun h => ?_) (fun h => ?_)))
     all_goals rfl
 obtain ⟨hlt, h1, h2⟩ := hlight
 have hs := hsz hlt
 obtain ⟨hse, hsr⟩ := Z5M hok hs az
 have hrl := Z4a L
 have hLK := ZaY (gl := runLives.gl) (reads L) (reads L) (by omega) (by omega)
 rw [Z5o.2 rfl] at hLK
 have hST := Z7g (gl := runLives.gl) (Z07 c az) (Z07 c az) (by omega) (by omega) (by omega) (by omega)
 rw [Z9j] at hST
 have hLt := Z3b (gl := runLives.gl) c hok 30
 rw [hlt] at hLt
 obtain ⟨na, nb, ne, nn, hnx⟩ := ZeA c L
 have hN1 := ZhV c hok hs L (by omega)
 have hN2 := Zez (gl := runLives.gl) c hok hs L (by omega)
 rw [hnx] at hN1 hN2
 obtain ⟨O, hO, p0, p1, p2, p3, p4, p5, p6, p7, p8, p9, p10, p11, p12, p13, -⟩ := fams (P := Tryz.prog) (gl := runLives.gl) [
  one0 (f := 7) (A := []) (R := .bool true) True (by kernel_rfl) rfl (fun _ => Z8G),
  one0 (f := 8) (A := [c.av, .int .i64 30]) (R := .bool true) True (by kernel_rfl) rfl (fun _ => hLt),
  one0 (f := 15) (A := [c.av, rsI az]) (R := .tuple [.agg (Z0T (Z07 c az)), .int .i64 (Z1y c)]) True (by kernel_rfl) rfl (fun _ => Z7i c hok hs az (by omega)),
  one0 (f := 16) (A := [c.av, rsI az]) (R := .tuple [.agg (Z0T (Z07 c az)), .int .i64 (Z1y c)]) True (by kernel_rfl) rfl (fun _ => Z9n c hok hs az (by omega)),
  one0 (f := 17) (A := [c.av, rsE L]) (R := .tuple [.agg (c11 na nb ne), .int .i64 nn]) True (by kernel_rfl) rfl (fun _ => hN1),
  one0 (f := 18) (A := [c.av, rsE L]) (R := .tuple [.agg (c11 na nb ne), .int .i64 nn]) True (by kernel_rfl) rfl (fun _ => hN2),
  one0 (f := 19) (A := [.agg (quC a), .int .i64 v]) (R := .tuple [.agg (Z0c (Z83 a v)), .int .i64 (Z82 a)]) True (by kernel_rfl) rfl (fun _ => Z92 a v),
  one0 (f := 20) (A := [.agg (quC a), .int .i64 v]) (R := .tuple [.agg (Z0c (Z83 a v)), .int .i64 (Z82 a)]) True (by kernel_rfl) rfl (fun _ => Zco a v),
  one0 (f := 11) (A := [.agg (Z0T (Z07 c az)), .agg (Z0T (Z07 c az))]) (R := .bool true) True (by kernel_rfl) (Z9i _ _) (fun _ => hST),
  one0 (f := 22) (A := [rsE L]) (R := rsI (reads L)) True (by kernel_rfl) rfl (fun _ => Z81 L (by omega)),
  one0 (f := 23) (A := [rsE L]) (R := rsI (reads L)) True (by kernel_rfl) rfl (fun _ => Z4O L (by omega)),
  one0 (f := 21) (A := [rsI (reads L), rsI (reads L)]) (R := .bool true) True (by kernel_rfl) rfl (fun _ => hLK),
  one0 (f := 24) (A := [c.av, rsE L]) (R := .bool (Z6F c L)) True (by kernel_rfl) rfl (fun _ => Zih c hok hs L (by omega)),
  one0 (f := 25) (A := [c.av, rsE L]) (R := .bool (Z6F c L)) True (by kernel_rfl) rfl (fun _ => ZeM c hok hs L (by omega))] rfl
 have q0 : ∀ H, Z04 Tryz.prog O H 7 [] = some (.bool true, H) := p0 () trivial
 have q1 : ∀ H, Z04 Tryz.prog O H 8 [c.av, .int .i64 30] = some (.bool true, H) := p1 () trivial
 have q2 : ∀ H, Z04 Tryz.prog O H 15 [c.av, rsI az] = some (.tuple [.agg (Z0T (Z07 c az)), .int .i64 (Z1y c)], H) := p2 () trivial
 have q3 : ∀ H, Z04 Tryz.prog O H 16 [c.av, rsI az] = some (.tuple [.agg (Z0T (Z07 c az)), .int .i64 (Z1y c)], H) := p3 () trivial
 have q4 : ∀ H, Z04 Tryz.prog O H 17 [c.av, rsE L] = some (.tuple [.agg (c11 na nb ne), .int .i64 nn], H) := p4 () trivial
 have q5 : ∀ H, Z04 Tryz.prog O H 18 [c.av, rsE L] = some (.tuple [.agg (c11 na nb ne), .int .i64 nn], H) := p5 () trivial
 have q6 : ∀ H, Z04 Tryz.prog O H 19 [.agg (quC a), .int .i64 v] = some (.tuple [.agg (Z0c (Z83 a v)), .int .i64 (Z82 a)], H) := p6 () trivial
 have q7 : ∀ H, Z04 Tryz.prog O H 20 [.agg (quC a), .int .i64 v] = some (.tuple [.agg (Z0c (Z83 a v)), .int .i64 (Z82 a)], H) := p7 () trivial
 have q8 : ∀ H, Z04 Tryz.prog O H 11 [.agg (Z0T (Z07 c az)), .agg (Z0T (Z07 c az))] = some (.bool true, H) := p8 () trivial
 have q9 : ∀ H, Z04 Tryz.prog O H 22 [rsE L] = some (rsI (reads L), H) := p9 () trivial
 have q10 : ∀ H, Z04 Tryz.prog O H 23 [rsE L] = some (rsI (reads L), H) := p10 () trivial
 have q11 : ∀ H, Z04 Tryz.prog O H 21 [rsI (reads L), rsI (reads L)] = some (.bool true, H) := p11 () trivial
 have q12 : ∀ H, Z04 Tryz.prog O H 24 [c.av, rsE L] = some (.bool (Z6F c L), H) := p12 () trivial
 have q13 : ∀ H, Z04 Tryz.prog O H 25 [c.av, rsE L] = some (.bool (Z6F c L), H) := p13 () trivial
 clear p0 p1 p2 p3 p4 p5 p6 p7 p8 p9 p10 p11 p12 p13 hN1 hN2 hnx hLt hST hLK hs hsz hok
 have e1 : decide ((az.length : Int) > 30) = false := by simp; omega
 have e2 : decide ((L.length : Int) > 30) = false := by simp; omega
 generalize reads L = rl at *
 generalize Z6F c L = fi at *
 generalize Z1y c = er at *
 generalize Z82 a = an at *
 generalize Z83 a v = ae at *
 generalize Z07 c az = st at *
 have hagN := Znk na nb na nb ne ne
 rw [Zcm, Zcm, beq_self_eq_true] at hagN
 simp only [c11, Bool.and_true] at hagN q4 q5
 obtain ⟨ek, el, eo, err, ew⟩ := ae
 have hagE := Zmh ek el eo err ew ek el eo err ew
 rw [Zcm] at hagE
 obtain ⟨⟨p, r, evs⟩, fin, q, asked⟩ := st
 obtain ⟨regs, l⟩ := c
 obtain ⟨ak, al, ao, aa, ab⟩ := a
 simp only [Cd.av, rsI, rsE, quC, Z0T, Z2k, Z0c, List.cons_append, List.nil_append] at *
 generalize qu5 q = qv at *
 have f1 : (er == er) = true := by simp
 have f2 : (nn == nn) = true := by simp
 have f3 : (an == an) = true := by simp
 refine Z0a follows Z09 hO Tryz.func5 rfl ?_
 cases fi
 all_goals (repeat' ((conv => whnf); first | (refine exI (q0 _) ?_) | (refine exI (q1 _) ?_) | (refine exI (q2 _) ?_) | (refine exI (q3 _) ?_) | (refine exI (q4 _) ?_) | (refine exI (q5 _) ?_) | (refine exI (q6 _) ?_) | (refine exI (q7 _) ?_) | (refine exI (q8 _) ?_) | (refine exI (q9 _) ?_) | (refine exI (q10 _) ?_) | (refine exI (q11 _) ?_) | (refine exI (q12 _) ?_) | (refine exI (q13 _) ?_) | (refine exI hagN ?_) | (refine exI hagE ?_) | (first | refine stp ?_ | with_reducible refine Z01 (fun h => ?_) (fun h => ?_))))
 all_goals rfl
end Go.Proofs.YteidjbahodbgdaaGreatDoor.lex
namespace Go.Proofs.YteidjbahodbgdaaGreatDoor.icLaw
open Go.Abs Go.RowKit Go.Flat lex
def Qs : List (AV -> Prop) := [fun u => ∃ c : Cd, u = c.av /\ okC c, fun u => ∃ l : List Int, u = rsI l /\ l.length <= 9223372036854775807, fun u => ∃ l : List Ev, u = rsE l /\ l.length <= 9223372036854775807, fun u => ∃ q : Qu, u = .agg (quC q), fun u => ∃ n, u = .int .i64 n /\ (Lit.int .i64 n).wf = true]
theorem opens : Z4q Tryz.prog Tryz.f5.params.toList Qs := by
 rw [Tryz.params5]
 exact ⟨ZfR, Zc7, ZjW, Zls, Zey Tryz.underlying2, trivial⟩
theorem law (us : List AV) (h : ZiG Qs us) : ValOK Tryz.prog runLives.gl 5 us (.bool true) := by
 obtain ⟨_, _, rfl, ⟨c, rfl, hc⟩, h1⟩ := Z1w h
 obtain ⟨_, _, rfl, ⟨az, rfl, ha⟩, h2⟩ := Z1w h1
 obtain ⟨_, _, rfl, ⟨L, rfl, hL⟩, h3⟩ := Z1w h2
 obtain ⟨_, _, rfl, ⟨q, rfl⟩, h4⟩ := Z1w h3
 obtain ⟨_, _, rfl, ⟨v, rfl, hv⟩, h5⟩ := Z1w h4
 cases Za6 h5
 exact lex.icLaw c az L q v hc ha hL
theorem solid : Solid Tryz.prog := by unfold Solid; kernel_rfl
end Go.Proofs.YteidjbahodbgdaaGreatDoor.icLaw
end

/-
  Texts of this proof, one behind the other (part 18).
-/
import Derived.Test.YteidjbahodbgdaaGreatDoorPg15
set_option linter.unusedVariables false
set_option linter.unusedSimpArgs false

section
namespace Go.Proofs.YteidjbahodbgdaaGreatDoor.lex
open Go.Abs Go.RowKit Go.Flat
set_option maxRecDepth 100000
set_option maxHeartbeats 4000000
theorem ZjX : Z44 Tryz.prog 39 fun u => ∃ l : List Int, u = rsI l /\ l.length <= 9223372036854775807 := by
 refine Z2u (Z3U Tryz.underlying39 (by kernel_rfl) (show (1 : Nat) ≠ 0 by decide) (Z0v Tryz.underlying3)) ?_
 rintro u ⟨l, hl, rfl, hll⟩
 obtain ⟨m, e1, e2⟩ := Zc8 l hl
 exact ⟨m, by rw [e1, e2]; rfl, by rw [<- e2]; exact hll⟩
variable {gl : Z0l}
end Go.Proofs.YteidjbahodbgdaaGreatDoor.lex
end

section
namespace Go.Flat
variable {α : Type} (ev : α -> List Int -> Int) (wr : Int -> Int) (ins : Nat -> In α) (f : Nat) (s0 : Th) (vals : List Int)
theorem Z7H {g : Int -> List Stand -> Option (List Stand)} (hg : ∀ v o r, g v o = some r -> ∃ m, r = o ++ m) : ∀ {l : List Int} {o r : List Stand}, Z8h g l o = some r -> ∃ m, r = o ++ m
 | [], o, r, h => by cases h; exact ⟨[], by simp⟩
 | v :: l, o, r, h => by
  unfold Z8h at h
  split at h
  · rename_i o' ho
    obtain ⟨m, rfl⟩ := hg v o o' ho
    obtain ⟨m', rfl⟩ := Z7H hg h
    exact ⟨m ++ m', by simp⟩
  · cases h
theorem Zgl : ∀ {d : Nat} {az : List Int} {o r : List Stand}, gat ev wr ins f s0 vals d az o = some r -> ∃ m, r = o ++ m
 | 0, az, o, r, h => by
  unfold gat at h
  split at h
  · cases h
  · split at h
    · cases h; exact ⟨_, rfl⟩
    · cases h
 | d + 1, az, o, r, h => by
  unfold gat at h
  split at h
  · exact Z7H (fun v o r h => Zgl h) h
  · split at h
    · cases h; exact ⟨_, rfl⟩
    · cases h
theorem ZdD {g : Int -> List Stand -> Option (List Stand)} (hg : ∀ v o r, g v o = some r -> ∃ m, r = o ++ m) : ∀ {l : List Int} {o r : List Stand}, Z8h g l o = some r -> ∀ v ∈ l, ∃ o1 r1 m, g v o1 = some r1 /\ r = r1 ++ m
 | [], o, r, h, v, hv => by cases hv
 | x :: l, o, r, h, v, hv => by
  unfold Z8h at h
  split at h
  · rename_i o' ho
    rcases List.mem_cons.1 hv with rfl | hv
    · obtain ⟨m, rfl⟩ := Z7H hg h
      exact ⟨o, o', m, ho, rfl⟩
    · exact ZdD hg h v hv
  · cases h
theorem Zgm : ∀ {d : Nat} {az : List Int} {o r : List Stand}, gat ev wr ins f s0 vals d az o = some r -> ∀ l : List Int, (∀ v ∈ l, v ∈ vals) -> (go ev wr ins f (az ++ l) s0 0).fin ≠ 0 -> go ev wr ins f (az ++ l) s0 0 ∈ r
 | 0, az, o, r, h, l, hl, hf => by
  unfold gat at h
  split at h
  · cases h
  · rename_i h0
    split at h
    · cases h
      rw [Zb3, if_neg h0]; simp
    · cases h
 | d + 1, az, o, r, h, l, hl, hf => by
  unfold gat at h
  split at h
  · rename_i h0
    cases l with
    | nil => rw [List.append_nil] at hf; exact absurd h0 hf
    | cons v l =>
     obtain ⟨o1, r1, m, h1, rfl⟩ := ZdD (fun v o r h => Zgl ev wr ins f s0 vals h) h v (hl v (by simp))
     have e : az ++ v :: l = (az ++ [v]) ++ l := by simp
     rw [e] at hf ⊢
     have := Zgm h1 l (fun x hx => hl x (by simp [hx])) hf
     exact List.mem_append_left _ this
  · rename_i h0
    split at h
    · cases h
      rw [Zb3, if_neg h0]; simp
    · cases h
end Go.Flat
end

section
namespace Go.Proofs.YteidjbahodbgdaaGreatDoor.lex
open Go.Abs Go.RowKit
set_option maxRecDepth 100000
variable {gl : Z0l}
def Z8d (n : Int) (m : Nat) : Int := cond (decide (n.tmod m < 0)) (n.tmod m + m) (n.tmod m)
theorem Z9t (n : Int) {m : Nat} (h : 0 < m) : 0 <= Z8d n m /\ Z8d n m < m := by
 have h1 := Int.tmod_lt_of_pos n (b := (m : Int)) (by omega)
 have h2 : -(m : Int) < n.tmod m := by
  have := Int.tmod_lt_of_pos (-n) (b := (m : Int)) (by omega)
  rw [Int.neg_tmod] at this; omega
 unfold Z8d
 cases h3 : decide (n.tmod m < 0) with
 | true => have := of_decide_eq_true h3; simp only [cond_true]; omega
 | false => have := of_decide_eq_false h3; simp only [cond_false]; omega
theorem ZjT (n : Int) (m : Nat) (hm : 0 < m) (hm2 : m <= 9223372036854775807) : ValOK Tryz.prog gl 14 [.int .i64 n, .int .i64 m] (.int .i64 (Z8d n m)) := by
 refine Z0a follows Z09 Z05 Tryz.func14 rfl ?_
 have h0 : (m : Int) ≠ 0 := by omega
 repeat' ((conv => whnf); first | (refine And.intro h0 ?_) | (first | refine stp ?_ | with_reducible refine Z01 (fun h => ?_) (fun h => ?_)))
 · show AV.int _ _ = AV.int _ _
   have h1 := Z9t n hm
   unfold Z8d at h1 ⊢
   rw [h] at h1 ⊢
   simp only [cond_true] at h1 ⊢
   rw [Z4X (by omega) (by omega)]
 · show AV.int _ _ = AV.int _ _
   unfold Z8d
   rw [h]; rfl
end Go.Proofs.YteidjbahodbgdaaGreatDoor.lex
end

section
namespace Go.Abs
open Go.RowKit
open Classical in
theorem ZhR {P : Program} {gl : Z0l} (fs : List Nat) {f0 : Nat} {A0 : List AV} {r0 : AV} (hv : ValOK P gl f0 A0 r0) (hb : Z0C P f0 = true) {O : Orc} (hO : Z06 P gl O) : ∃ O', Z06 P gl O' /\ (∀ H args, Z0L (frz (kil (fun _ o => !mem o.fam fs) 0 H) 30) args = some A0 -> Z04 P O' H f0 args = some (r0, kil (fun _ o => mem o.fam fs) 0 H)) /\
  ∀ g, g ≠ f0 -> ∀ args H, Z04 P O' H g args = Z04 P O H g args := by
 have hz : Z06 P gl (Zc6 fs fun f args => if f = f0 /\ args = A0 then some r0 else none) := Z8D fun f args r h => by
  split at h
  · rename_i e
    obtain ⟨rfl, rfl⟩ := e
    cases h
    exact hv
  · cases h
 refine ⟨Z1v (Zc6 fs fun f args => if f = f0 /\ args = A0 then some r0 else none) O, Z1z hz hO, fun H args ha => Z4M hb (ZeP hb ha (if_pos ⟨rfl, rfl⟩)), fun g hg args H => ?_⟩
 unfold Z04
 have h1 : Z1v (Zc6 fs fun f args => if f = f0 /\ args = A0 then some r0 else none) O g = O g := by
  funext args H
  unfold Z1v Zc6
  cases Z0L (frz (kil (fun _ o => !mem o.fam fs) 0 H) 30) args with
  | none => rfl
  | some fa => simp only; rw [if_neg (fun h => hg h.1)]
 have hy : yl (Z1v (Zc6 fs fun f args => if f = f0 /\ args = A0 then some r0 else none) O) H g args = yl O H g args := by unfold yl; simp only [h1]
 rw [h1, hy]
theorem Zn3 {f : AV -> Option AV} {x y x' y' : AV} (h1 : f x = some x') (h2 : f y = some y') : Z0L f [x, y] = some [x', y'] := by simp only [Z0L, h1, h2]
end Go.Abs
namespace Go.Proofs.YteidjbahodbgdaaGreatDoor.lex
open Go.Abs Go.RowKit Go.Flat
set_option maxRecDepth 100000
set_option maxHeartbeats 4000000
theorem Zhz {a a' b : Flat.Stand} (h : Z0T a = Z0T a') : Zf1 a b = Zf1 a' b := by
 obtain ⟨⟨p, r, evs⟩, fin, q, n⟩ := a
 obtain ⟨⟨p', r', evs'⟩, fin', q', n'⟩ := a'
 have hq : Z3H q = [.int .i64 (qu5 q).1, .int .i64 (qu5 q).2.1, .int .i64 (qu5 q).2.2.1, .int .i64 (qu5 q).2.2.2.1, .int .i64 (qu5 q).2.2.2.2] := Z2k q
 have hq' := Z2k q'
 simp only [Z0T, rsE, rsI, hq, hq', List.cons_append, List.nil_append, List.cons.injEq, AV.int.injEq, AV.rs.injEq, true_and, and_true] at h
 obtain ⟨⟨_, h1⟩, h2, e1, e2, e3, e4, e5, h3, ⟨_, h4⟩, h5⟩ := h
 have h6 := Z9Y _ _ h1
 have h7 := Z4H h4
 have h8 : p = p' := by omega
 have h9 : n = n' := by omega
 subst h6 h7 h8 h9 h2
 have h10 : Z3H q = Z3H q' := by rw [hq, hq', e1, e2, e3, e4, e5]
 rw [Bool.eq_iff_iff]
 simp only [Zf1, decide_eq_true_eq, h10]
def pkN (picks : List Int) (m n : Nat) : Nat := match picks[n]? with
 | some p => (Z8d p m).toNat
 | none => 0
def Zm3 (vs picks : List Int) (n : Nat) : Int := vs[pkN picks vs.length n]?.getD 0
def Z8c (vs picks : List Int) : Nat -> List Int
 | 0 => []
 | n + 1 => Z8c vs picks n ++ [Zm3 vs picks n]
theorem Za5 (vs picks : List Int) : ∀ n, (Z8c vs picks n).length = n
 | 0 => rfl
 | n + 1 => by simp only [Z8c, List.length_append, Za5 vs picks n, List.length_cons, List.length_nil]
theorem ZiR {picks : List Int} {m : Nat} (h : 0 < m) (n : Nat) : pkN picks m n < m := by
 unfold pkN
 split
 · have := Z9t ‹Int› h; omega
 · exact h
theorem ZiA {vs picks : List Int} (h : 0 < vs.length) (n : Nat) : Zm3 vs picks n ∈ vs := by
 unfold Zm3
 rw [List.getElem?_eq_getElem (ZiR h n)]
 exact List.getElem_mem _
theorem ZdV {vs picks : List Int} (h : 0 < vs.length) : ∀ n, ∀ v ∈ Z8c vs picks n, v ∈ vs
 | 0, v, hv => by cases hv
 | n + 1, v, hv => by
  rcases List.mem_append.1 hv with hv | hv
  · exact ZdV h n v hv
  · rw [List.mem_singleton.1 hv]; exact ZiA h n
theorem ZlT {c : Cd} {vs az : List Int} (hfl : Z0E c = true) (h14 : c.ins.length <= az.length) (hm : ∀ v ∈ az, v ∈ vs) : (Z07 c az).fin ≠ 0 /\ ∀ out, Z6y c vs = some out -> Z07 c az ∈ out := by
 obtain ⟨rank, hrank⟩ := Z2G hfl
 have e : Z07 c az = go evF wrI (Z0h c.ins) c.ins.length az (th0 c.regs.toNat) 0 := by unfold Z07; rw [if_pos hfl]
 have h0 := hrank.1 0 .zero
 have hf : (Z07 c az).fin ≠ 0 := by
  rw [e]
  exact Zdw evF wrI (Z0h c.ins) c.ins.length hrank.2 hrank.1 az (th0 c.regs.toNat) 0 .zero (by show rank 0 < _; omega)
 refine ⟨hf, fun out ho => ?_⟩
 rw [e] at hf ⊢
 have := Zgm evF wrI (Z0h c.ins) c.ins.length (th0 c.regs.toNat) vs (az := []) ho az hm hf
 exact this
end Go.Proofs.YteidjbahodbgdaaGreatDoor.lex
end

section
namespace Go.Proofs.YteidjbahodbgdaaGreatDoor.lex
open Go.Abs Go.RowKit Go.Flat
set_option maxRecDepth 100000
set_option maxHeartbeats 4000000
theorem Zlg : ∀ a b c d e f : Bool, (a = false \/ (a = true /\ b = true) \/ (a = true /\ b = false /\ c = true) \/ (a = true /\ b = false /\ c = false /\ d = true) \/ (a = true /\ b = false /\ c = false /\ d = false /\ e = true) \/ (a = true /\ b = false /\ c = false /\ d = false /\ e = false /\ f = false)) \/ (a = true /\ b = false /\ c = false /\ d = false /\ e = false /\ f = true) := by
 intro a b c d e f
 cases a <;> cases b <;> cases c <;> cases d <;> cases e <;> cases f <;> simp
theorem ZlS (c : Cd) (vs picks : List Int) (hok : okC c) (hneg : ltC c 14 = false \/ (ltC c 14 = true /\ decide ((vs.length : Int) < 1) = true) \/ (ltC c 14 = true /\ decide ((vs.length : Int) < 1) = false /\ decide ((vs.length : Int) > 3) = true) \/
  (ltC c 14 = true /\ decide ((vs.length : Int) < 1) = false /\ decide ((vs.length : Int) > 3) = false /\ decide ((picks.length : Int) > 30) = true) \/
  (ltC c 14 = true /\ decide ((vs.length : Int) < 1) = false /\ decide ((vs.length : Int) > 3) = false /\ decide ((picks.length : Int) > 30) = false /\ (Z31 c != 0) = true) \/
  (ltC c 14 = true /\ decide ((vs.length : Int) < 1) = false /\ decide ((vs.length : Int) > 3) = false /\ decide ((picks.length : Int) > 30) = false /\ (Z31 c != 0) = false /\ Z0E c = false)) :
  ValOK Tryz.prog runLives.gl 4 [c.av, rsI vs, rsI picks] (.bool true) := by
 obtain ⟨O, hO, p0, p1, p2, p3, -⟩ := fams (P := Tryz.prog) (gl := runLives.gl) [
  one0 (f := 7) (A := []) (R := .bool true) True (by kernel_rfl) rfl (fun _ => Z8G),
  one0 (f := 8) (A := [c.av, .int .i64 14]) (R := .bool (ltC c 14)) True (by kernel_rfl) rfl (fun _ => Z3b c hok 14),
  one0 (f := 12) (A := [c.av]) (R := .int .i64 (Z31 c)) (ltC c 14 = true) (by kernel_rfl) rfl (fun h => Z2s c hok (Z4g h).2),
  one0 (f := 13) (A := [c.av]) (R := .bool (Z0E c)) (ltC c 14 = true) (by kernel_rfl) rfl (fun h => Z9R c hok (Z4g h).2)] rfl
 have q0 : ∀ H, Z04 Tryz.prog O H 7 [] = some (.bool true, H) := p0 () trivial
 have q1 : ∀ H, Z04 Tryz.prog O H 8 [c.av, .int .i64 14] = some (.bool (ltC c 14), H) := p1 () trivial
 have q2 : ltC c 14 = true -> ∀ H, Z04 Tryz.prog O H 12 [c.av] = some (.int .i64 (Z31 c), H) := p2 ()
 have q3 : ltC c 14 = true -> ∀ H, Z04 Tryz.prog O H 13 [c.av] = some (.bool (Z0E c), H) := p3 ()
 clear p0 p1 p2 p3 hok
 generalize ltC c 14 = lt at *
 generalize Z31 c = ck at *
 generalize Z0E c = fl at *
 obtain ⟨regs, l⟩ := c
 simp only [Cd.av, rsI] at *
 refine Z0a follows Z09 hO Tryz.func4 rfl ?_
 rcases hneg with rfl | ⟨rfl, e1⟩ | ⟨rfl, e1, e2⟩ | ⟨rfl, e1, e2, e3⟩ | ⟨rfl, e1, e2, e3, e4⟩ | ⟨rfl, e1, e2, e3, e4, rfl⟩
 all_goals repeat' ((conv => whnf); first | (refine exI (q0 _) ?_) | (refine exI (q1 _) ?_) | (refine exI (q2 rfl _) ?_) | (refine exI (q3 rfl _) ?_) | (first | refine stp ?_ | with_reducible refine Z01 (fun h => ?_) (fun h => ?_)))
 all_goals rfl
theorem cvLaw (c : Cd) (vs picks : List Int) (hok : okC c) : ValOK Tryz.prog runLives.gl 4 [c.av, rsI vs, rsI picks] (.bool true) := by
 rcases Zlg (ltC c 14) (decide ((vs.length : Int) < 1)) (decide ((vs.length : Int) > 3)) (decide ((picks.length : Int) > 30)) (Z31 c != 0) (Z0E c) with hneg | ⟨hlt, e1, e2, e3, e4, hfl⟩
 · exact ZlS c vs picks hok hneg
 obtain ⟨h14, hs⟩ := Z4g hlt
 have hv1 : 0 < vs.length := by have := of_decide_eq_false e1; omega
 have hv3 : vs.length <= 3 := by have := of_decide_eq_false e2; omega
 have hp30 : picks.length <= 30 := by have := of_decide_eq_false e3; omega
 have hlen := Za5 vs picks 14
 obtain ⟨hfin, hin⟩ := ZlT (c := c) (vs := vs) (az := Z8c vs picks 14) hfl (by omega) (ZdV hv1 14)
 have hrun := Z7i c hok hs (Z8c vs picks 14) (by omega)
 have hall := Zcq c hok hs vs (by omega)
 have he : Z1y c = 0 := Z15.2 hfl
 have hfew := fun out h => ZdX (c := c) (vs := vs) (out := out) h
 have hlens := fun out h => Zbo hok hs hfl (vs := vs) (out := out) h
 have hst := Z5M hok hs (Z8c vs picks 14)
 have hck : Z31 c = 0 := Z1Z hfl
 have hLt := Z3b (gl := runLives.gl) c hok 14
 have hC := Z2s (gl := runLives.gl) c hok hs
 have hF := Z9R (gl := runLives.gl) c hok hs
 rw [he] at hrun
 rw [hlt] at hLt
 rw [hck] at hC
 rw [hfl] at hF
 have eA : ZdZ c vs = (Z6y c vs).getD [] := if_pos hfl
 have eN : ZiC c vs = cond (Z6y c vs).isSome 0 3 := if_pos hfl
 unfold ZeS at hall
 rw [eA, eN] at hall
 have hmem : ∀ a ∈ (Z6y c vs).getD [], a.th.evs.length <= 4000 /\ a.th.regs.length <= 16 := fun a ha => by
  cases h : Z6y c vs with
  | none => rw [h] at ha; cases ha
  | some out => rw [h] at ha; exact hlens out h a ha
 obtain ⟨O1, hO1, p0, p1, p2, p3, p4, p5, p6, -⟩ := fams (P := Tryz.prog) (gl := runLives.gl) [
  one0 (f := 7) (A := []) (R := .bool true) True (by kernel_rfl) rfl (fun _ => Z8G),
  one0 (f := 8) (A := [c.av, .int .i64 14]) (R := .bool true) True (by kernel_rfl) rfl (fun _ => hLt),
  one0 (f := 12) (A := [c.av]) (R := .int .i64 0) True (by kernel_rfl) rfl (fun _ => hC),
  one0 (f := 13) (A := [c.av]) (R := .bool true) True (by kernel_rfl) rfl (fun _ => hF),
  one0 (f := 9) (A := [c.av, rsI vs]) (R := .tuple [.rs ((Z6y c vs).getD []).length 10 (Z0P ((Z6y c vs).getD [])), .int .i64 (cond (Z6y c vs).isSome 0 3)]) True (by kernel_rfl) rfl (fun _ => hall),
  { I := Int, f := 14, G := fun _ => True, A := fun n => [.int .i64 n, .int .i64 (vs.length : Int)], R := fun n => .int .i64 (Z8d n vs.length), body := (by kernel_rfl), inj := (fun i j _ _ h => by simp only [List.cons.injEq, AV.int.injEq, true_and, and_true] at h; rw [h]), ok := (fun n _ => ⟨rfl, ZjT n vs.length hv1 (by omega)⟩) },
  { I := Flat.Stand, f := 11, G := fun a => a ∈ (Z6y c vs).getD [], A := fun a => [.agg (Z0T a), .agg (Z0T (Z07 c (Z8c vs picks 14)))], R := fun a => .bool (Zf1 a (Z07 c (Z8c vs picks 14))), body := (by kernel_rfl), inj := (fun i j _ _ h => by simp only [List.cons.injEq, AV.agg.injEq, and_true] at h; rw [Zhz h]), ok := (fun a ha => ⟨Z9i _ _, Z7g _ _ (by have := hmem a ha; omega) (by omega) (by have := hmem a ha; omega) (by omega)⟩) }] rfl
 obtain ⟨O, hO, q7, hoth⟩ := ZhR [1] hrun (by kernel_rfl) hO1
 have q0 : ∀ H, Z04 Tryz.prog O H 7 [] = some (.bool true, H) := fun H => (hoth _ (by decide) _ _).trans (p0 () trivial H)
 have q1 : ∀ H, Z04 Tryz.prog O H 8 [c.av, .int .i64 14] = some (.bool true, H) := fun H => (hoth _ (by decide) _ _).trans (p1 () trivial H)
 have q2 : ∀ H, Z04 Tryz.prog O H 12 [c.av] = some (.int .i64 0, H) := fun H => (hoth _ (by decide) _ _).trans (p2 () trivial H)
 have q3 : ∀ H, Z04 Tryz.prog O H 13 [c.av] = some (.bool true, H) := fun H => (hoth _ (by decide) _ _).trans (p3 () trivial H)
 have q4 : ∀ H, Z04 Tryz.prog O H 9 [c.av, rsI vs] = some (.tuple [.rs ((Z6y c vs).getD []).length 10 (Z0P ((Z6y c vs).getD [])), .int .i64 (cond (Z6y c vs).isSome 0 3)], H) := fun H => (hoth _ (by decide) _ _).trans (p4 () trivial H)
 have q5 : ∀ (n : Int) H, Z04 Tryz.prog O H 14 [.int .i64 n, .int .i64 (vs.length : Int)] = some (.int .i64 (Z8d n vs.length), H) := fun n H => (hoth _ (by decide) _ _).trans (p5 n trivial H)
 have q6 : ∀ a ∈ (Z6y c vs).getD [], ∀ H, Z04 Tryz.prog O H 11 [.agg (Z0T a), .agg (Z0T (Z07 c (Z8c vs picks 14)))] = some (.bool (Zf1 a (Z07 c (Z8c vs picks 14))), H) := fun a ha H => (hoth _ (by decide) _ _).trans (p6 a ha H)
 clear p0 p1 p2 p3 p4 p5 p6 hoth hO1 hall hrun hLt hC hF hmem hlens hst hs hlt hfl eA eN he hck e4
 have hAV : ∀ n, Z8c vs picks (n + 1) = Z8c vs picks n ++ [Zm3 vs picks n] := fun _ => rfl
 generalize Z6y c vs = F at *
 generalize Z07 c (Z8c vs picks 14) = st at *
 obtain ⟨regs, l⟩ := c
 have hT : Z74 Tryz.prog 25 25 = some (2, 1, 8) := by kernel_rfl
 simp only [Cd.av, rsI] at *
 refine Z0a follows Z09 hO Tryz.func4 rfl ?_
 repeat' ((conv => whnf); first | (refine exI (q0 _) ?_) | (refine exI (q1 _) ?_) | (refine exI (q2 _) ?_) | (refine exI (q3 _) ?_) | (first | refine stp ?_ | with_reducible refine Z01 (fun h => ?_) (fun h => ?_)))
 conv => whnf
 refine ⟨Nat, (fun n => n <= 14), (fun n => [(1, .rs vs.length 1 (ksC vs)), (2, .rs picks.length 1 (ksC picks)), (3, .ptr 0 0), (7, grA 1 1 (Z8c vs picks n)), (8, .int .i64 (n : Nat))]),
  (fun n => ⟨true, 0, 0, .cells [.int .i64 regs, .rs l.length 6 (inC l)] 24⟩ :: grB 1 ksC 2 (Z8c vs picks n)), (fun n => 14 - n), ⟨0, Nat.zero_le _, ?_⟩, ?_⟩
 · simp only [Z8c, grA, grB]
   exact fgA [0]
 intro n hn
 (try dsimp only at hn)
 (try dsimp only)
 by_cases hlt : n < 14
 · have f1 : decide ((n : Int) < 14) = true := by simp; omega
   obtain ⟨k, hk, hkv, hpk⟩ : ∃ k : Nat, k < vs.length /\ Zm3 vs picks n = vs[k]?.getD 0 /\ (∀ p, picks[n]? = some p -> Z8d p vs.length = (k : Int)) /\ (picks[n]? = none -> k = 0) := by
    refine ⟨pkN picks vs.length n, ZiR hv1 n, rfl, fun p hp => ?_, fun hp => by unfold pkN; rw [hp]⟩
    have := Z9t p hv1
    unfold pkN; rw [hp]; simp only; omega
   have hvx : ∀ off, off = k -> tk 1 ((ksC vs).drop off) = some [.int .i64 vs[k]] := fun off e => Z11 _ vs k hk e
   rw [List.getElem?_eq_getElem hk, Option.getD_some] at hkv
   have hsn : Z8c vs picks (n + 1) = Z8c vs picks n ++ [vs[k]] := by rw [hAV, hkv]
   have hol : (Z8c vs picks n).length <= 14 := by rw [Za5]; omega
   clear q0 q1 q2 q3 q4 q6 q7 hin hfin hfew hAV hkv hlen
   generalize vs[k] = v at *
   generalize Z8c vs picks n = o at *
   by_cases hp : n < picks.length
   · have f2 : decide ((n : Int) < (picks.length : Int)) = true := by simpa using hp
     have hpx : ∀ off, off = n -> tk 1 ((ksC picks).drop off) = some [.int .i64 picks[n]] := fun off e => Z11 _ picks n hp e
     have hq := q5 picks[n]
     rw [hpk.1 _ (List.getElem?_eq_getElem hp)] at hq
     clear q5 hpk
     generalize picks[n] = p at *
     rcases o with _ | ⟨y0, o⟩
     case' cons => have hcl := Z2e y0 o; have hon := Z4G (y0 :: o); simp only [List.length_cons] at hol
     all_goals
      simp only [grA, grB]
      repeat' ((conv => whnf); first | (refine exI (hq _) ?_) | (refine exI (hpx _ (by omega)) ?_) | (refine exI (hvx _ (by omega)) ?_) | (with_reducible refine ixJ n rfl ?_ ?_; (focus (omega))) | (with_reducible refine ixJ k rfl ?_ ?_; (focus (omega))) | (refine apS ?_) | (first | refine stp ?_ | with_reducible refine Z01 (fun h => ?_) (fun h => ?_)))
      conv => whnf
      refine ⟨n + 1, hlt, by show 14 - (n + 1) < 14 - n; omega, ?_⟩
      rw [hsn]
      simp only [grA, grB, List.nil_append, List.cons_append, List.length_append, List.length_cons, List.length_nil]
      first | exact fgA [0, 2] | exact fgA [0, 3]
   · have f2 : decide ((n : Int) < (picks.length : Int)) = false := by simpa using hp
     obtain rfl := hpk.2 (List.getElem?_eq_none (by omega))
     clear q5 hpk
     rcases o with _ | ⟨y0, o⟩
     case' cons => have hcl := Z2e y0 o; have hon := Z4G (y0 :: o); simp only [List.length_cons] at hol
     all_goals
      simp only [grA, grB]
      repeat' ((conv => whnf); first | (refine exI (hvx _ (by omega)) ?_) | (with_reducible refine ixJ 0 rfl ?_ ?_; (focus (omega))) | (refine apS ?_) | (first | refine stp ?_ | with_reducible refine Z01 (fun h => ?_) (fun h => ?_)))
      conv => whnf
      refine ⟨n + 1, hlt, by show 14 - (n + 1) < 14 - n; omega, ?_⟩
      rw [hsn]
      simp only [grA, grB, List.nil_append, List.cons_append, List.length_append, List.length_cons, List.length_nil]
      first | exact fgA [0, 2] | exact fgA [0, 3]
 obtain rfl : n = 14 := by omega
 have f1 : decide (((14 : Nat) : Int) < 14) = false := rfl
 have ef : (st.fin == 0) = false := by simpa using hfin
 obtain ⟨n1, c1, a1, a2, a3, a4, a5, p, n2, c2, k, hcs⟩ := Z7e st
 rw [hcs] at q6 q7
 generalize Z8c vs picks 14 = az at *
 clear q0 q1 q2 q3 q5 hAV hn
 rcases az with _ | ⟨y0, az⟩
 · cases hlen
 simp only [grA, grB]
 simp only [rsI, List.length_cons] at q7
 rcases F with _ | out
 · simp only [Option.getD_none, Option.isSome_none, cond_false, List.length_nil, Z0P] at q4
   clear q6 hin hfew
   generalize st.fin = fin at *
   repeat' ((conv => whnf); first | (refine exI (q7 _ _ ?_) ?_; (focus (exact Zn3 rfl (Z02 (n := 28) (b := 1) rfl (Z0d _) (Z0e _))))) | (refine exI (q4 _) ?_) | (first | refine stp ?_ | with_reducible refine Z01 (fun h => ?_) (fun h => ?_)))
   all_goals rfl
 · have hmem := hin out rfl
   have hfew := hfew out rfl
   simp only [Option.getD_some, Option.isSome_some, cond_true] at q4 q6
   generalize hsf : st.fin = fin at *
   repeat' ((conv => whnf); first | (refine exI (q7 _ _ ?_) ?_; (focus (exact Zn3 rfl (Z02 (n := 28) (b := 1) rfl (Z0d _) (Z0e _))))) | (refine exI (q4 _) ?_) | (first | refine stp ?_ | with_reducible refine Z01 (fun h => ?_) (fun h => ?_)))
   conv => whnf
   refine ⟨Nat, (fun n => ∃ j, n <= j /\ out[j]? = some st), (fun n => [(10, .ptr 0 0), (12, .rs out.length 10 (Z0P out)), (14, .int .i64 (n : Nat))]),
    (fun n => [⟨true, 0, 0, .cells [.rs n1 5 c1, .int .i64 fin, .int .i64 a1, .int .i64 a2, .int .i64 a3, .int .i64 a4, .int .i64 a5, .int .i64 p, .rs n2 1 c2, .int .i64 k] 37⟩]), (fun n => out.length - n), ⟨0, ?_, ?_⟩, ?_⟩
   · obtain ⟨j, hj⟩ := List.getElem?_of_mem hmem
     exact ⟨j, Nat.zero_le _, hj⟩
   · exact fgA [2]
   rintro n ⟨j, hnj, hj⟩
   (try dsimp only)
   have hjl := (List.getElem?_eq_some_iff.1 hj).1
   have hlt : n < out.length := by omega
   have f2 : decide ((n : Int) < (out.length : Int)) = true := by simpa using hlt
   have hx := Zlj out n hlt
   have hq := q6 out[n] (List.getElem_mem _)
   have hbj : Zf1 out[n] st = false -> n + 1 <= j := fun h => by
    rcases Nat.lt_or_ge n j with h2 | h2
    · exact h2
    · obtain rfl : n = j := by omega
      rw [List.getElem?_eq_getElem hlt] at hj
      rw [Option.some.inj hj, Z9j] at h
      cases h
   obtain ⟨m1, d1, b1, b2, b3, b4, b5, p', m2, d2, k', hcs'⟩ := Z7e out[n]
   rw [hcs'] at hx hq
   clear q4 q6 q7 hcs hcs'
   generalize Zf1 out[n] st = b at *
   cases b
   all_goals repeat' ((conv => whnf); first | (refine exI hx ?_) | (refine exI (hq _) ?_) | (with_reducible refine ixJ n rfl ?_ ?_; (focus (omega))) | (first | refine stp ?_ | with_reducible refine Z01 (fun h => ?_) (fun h => ?_)))
   · conv => whnf
     refine ⟨n + 1, ⟨j, hbj rfl, hj⟩, by show out.length - (n + 1) < out.length - n; omega, ?_⟩
     exact fgA [0]
   · rfl
end Go.Proofs.YteidjbahodbgdaaGreatDoor.lex
namespace Go.Proofs.YteidjbahodbgdaaGreatDoor.cvLaw
open Go.Abs Go.RowKit Go.Flat lex
def Qs : List (AV -> Prop) := [fun u => ∃ c : Cd, u = c.av /\ okC c, fun u => ∃ l : List Int, u = rsI l /\ l.length <= 9223372036854775807, fun u => ∃ l : List Int, u = rsI l /\ l.length <= 9223372036854775807]
theorem opens : Z4q Tryz.prog Tryz.f4.params.toList Qs := by
 rw [Tryz.params4]
 exact ⟨ZfR, Zc7, ZjX, trivial⟩
theorem law (us : List AV) (h : ZiG Qs us) : ValOK Tryz.prog runLives.gl 4 us (.bool true) := by
 obtain ⟨_, _, rfl, ⟨c, rfl, hc⟩, h1⟩ := Z1w h
 obtain ⟨_, _, rfl, ⟨vs, rfl, hv⟩, h2⟩ := Z1w h1
 obtain ⟨_, _, rfl, ⟨ps, rfl, hp⟩, h3⟩ := Z1w h2
 cases Za6 h3
 exact lex.cvLaw c vs ps hc
theorem solid : Solid Tryz.prog := by unfold Solid; kernel_rfl
end Go.Proofs.YteidjbahodbgdaaGreatDoor.cvLaw
end

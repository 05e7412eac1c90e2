/-
  Texts of this proof, one behind the other (part 7).
-/
import Derived.Test.YtbaoadpoknhhoaaGreatDoorPk6
import Derived.Shelf.SlIter.Nil
import Derived.Shelf.SortM.Plain
import Derived.Shelf.SortM.SortNone
import Derived.Test.YtbaoadpoknhhoaaGreatDoorProg
set_option linter.unusedVariables false
set_option linter.unusedSimpArgs false

section
namespace Go.Proofs.YtbaoadpoknhhoaaGreatDoor.lex
open Go.Abs Go.RowKit
set_option maxRecDepth 100000
set_option maxHeartbeats 4000000
variable {gl : Glob}
theorem Z2c {α : Type} [BEq α] {x y : α} {b : Bool} (h : (x == y) = b) : (x != y) = !b := by simp only [bne, h]
inductive Ex where
 | mk (op num : Int) (name : List UInt8) (kids : List Ex)
instance : Inhabited Ex := ⟨.mk 0 0 [] []⟩
def Ex.op : Ex -> Int
 | .mk o _ _ _ => o
def Ex.num : Ex -> Int
 | .mk _ n _ _ => n
def Ex.name : Ex -> List UInt8
 | .mk _ _ s _ => s
def Ex.kids : Ex -> List Ex
 | .mk _ _ _ k => k
mutual
def Ex.cells : Ex -> List AV
 | .mk op num name kids => [.int .i64 op, .int .i64 num, .str name, .rs kids.length 4 (exC kids)]
def exC : List Ex -> List AV
 | [] => []
 | e :: l => e.cells ++ exC l
end
def exA (l : List Ex) : AV := .rs l.length 4 (exC l)
mutual
def Z4l : Ex -> Nat
 | .mk _ _ _ kids => 1 + sizeL kids
def sizeL : List Ex -> Nat
 | [] => 0
 | e :: l => Z4l e + sizeL l
end
mutual
def Zi6 : Ex -> Nat
 | .mk _ _ _ kids => deepL kids + 1
def deepL : List Ex -> Nat
 | [] => 0
 | e :: l => max (Zi6 e) (deepL l)
end
theorem Z4z : ∀ e : Ex, e.cells.length = 4
 | .mk _ _ _ _ => by simp only [Ex.cells]; rfl
theorem ZdN : ∀ l : List Ex, (exC l).length = l.length * 4
 | [] => by simp only [exC]; rfl
 | e :: l => by simp only [exC, List.length_append, Z4z, ZdN l, List.length_cons]; omega
theorem ZfU (e : Ex) (l : List Ex) (i : Nat) : (exC (e :: l)).drop ((i + 1) * 4) = (exC l).drop (i * 4) := by
 have h : (i + 1) * 4 = 4 + i * 4 := by omega
 rw [h, <- List.drop_drop, exC, List.drop_left' (Z4z e)]
theorem Zgj : ∀ (a b : List AV), tk a.length (a ++ b) = some a
 | [], b => by cases b <;> rfl
 | c :: a, b => by simp only [List.length_cons, List.cons_append, tk, Zgj a b]
theorem ZdO : ∀ (l : List Ex) (i : Nat) (h : i < l.length), (exC l).drop (i * 4) = l[i].cells ++ exC (l.drop (i + 1))
 | e :: l, 0, h => by simp only [Nat.zero_mul, List.drop_zero, exC, List.getElem_cons_zero, List.drop_succ_cons]
 | e :: l, i + 1, h => by rw [ZfU, ZdO l i (by simpa using h)]; simp only [List.getElem_cons_succ, List.drop_succ_cons]
mutual
theorem Zeu : ∀ (a b : Ex), a.cells = b.cells -> a = b
 | .mk o n s k, .mk o' n' s' k', h => by
  simp only [Ex.cells] at h
  simp at h
  obtain ⟨rfl, rfl, rfl, hl, hk⟩ := h
  rw [exC_inj k k' hk hl]
theorem exC_inj : ∀ (a b : List Ex), exC a = exC b -> a.length = b.length -> a = b
 | [], [], _, _ => rfl
 | x :: a, y :: b, h, hl => by
  simp only [exC] at h
  have h' := List.append_inj h (by rw [Z4z, Z4z])
  rw [Zeu x y h'.1, exC_inj a b h'.2 (by simpa using hl)]
 | [], _ :: _, _, hl => by simp at hl
 | _ :: _, [], _, hl => by simp at hl
end
theorem Zap {a b : List Ex} (h : exA a = exA b) : a = b := by
 simp only [exA, AV.rs.injEq, true_and] at h
 exact exC_inj _ _ h.2 h.1
theorem ZcV : ∀ e : Ex, 0 < Z4l e
 | .mk _ _ _ _ => by simp only [Z4l]; omega
theorem Z94 : ∀ (l : List Ex) (i : Nat) (h : i < l.length), sizeL l = sizeL (l.take i) + Z4l l[i] + sizeL (l.drop (i + 1))
 | e :: l, 0, h => by simp only [List.take_zero, sizeL, List.getElem_cons_zero, List.drop_succ_cons, List.drop_zero]; omega
 | e :: l, i + 1, h => by
  have := Z94 l i (by simpa using h)
  simp only [List.take_succ_cons, sizeL, List.getElem_cons_succ, List.drop_succ_cons]; omega
theorem Z7m : ∀ e : Ex, Z4l e = 1 + sizeL e.kids
 | .mk _ _ _ _ => by simp only [Z4l, Ex.kids]
theorem Z64 : ∀ (l : List Ex) (e : Ex), e ∈ l -> Z4l e <= sizeL l
 | e :: l, f, h => by
  simp only [sizeL]
  rcases List.mem_cons.1 h with rfl | h
  · omega
  · have := Z64 l f h; omega
theorem Z1a {α : Type} {l : List α} {i : Nat} (h : i < l.length) : l[i] ∈ l := List.getElem_mem h
end Go.Proofs.YtbaoadpoknhhoaaGreatDoor.lex
end

section
namespace Go.Proofs.YtbaoadpoknhhoaaGreatDoor.lex
open Go.Abs Go.RowKit
set_option maxRecDepth 100000
set_option maxHeartbeats 4000000
variable {gl : Glob}
def Z49 (s : List UInt8) : Bool := !s.isEmpty && (Z4L s == s.length && !keysL.contains s)
theorem ZgW (s : List UInt8) : ∃ k w, Z6Z s = .tuple [.int .i64 k, .bool w] /\ (w && (k == 1)) = Z49 s /\ (k == 1) = Z49 s := by
 unfold Z6Z Z49
 by_cases h0 : s = []
 · subst h0; exact ⟨0, false, by rw [if_neg (fun h => h.1 rfl)], rfl, rfl⟩
 · by_cases hw : Z4L s = s.length
   · rw [if_pos ⟨h0, hw⟩]
     refine ⟨_, _, rfl, ?_⟩
     have : s.isEmpty = false := by cases s with | nil => exact absurd rfl h0 | cons _ _ => rfl
     rw [this, hw]
     cases keysL.contains s <;> simp
   · rw [if_neg (fun h => hw h.2)]
     refine ⟨_, _, rfl, ?_⟩
     have : (Z4L s == s.length) = false := by simpa using hw
     rw [this]; simp
theorem Z9g (s : List UInt8) (hs : s.length <= 9223372036854775807) (m : Bool) : ValOK Tryz.prog gl 82 [.str s, .bool m] (.bool (if m then Z49 s else s == [])) := by
 obtain ⟨k, w, h1, h2, h3⟩ := ZgW s
 have hO := Zc5 (P := Tryz.prog) (gl := gl) (l := [(126, [.str s], Z6Z s)]) ⟨rfl, Zf2 s hs, trivial⟩
 have q : ∀ H, Z0e Tryz.prog (ZjL [(126, [.str s], Z6Z s)]) H 126 [.str s] = some (Z6Z s, H) := fun H => ZkD (by kernel_rfl) Zcj
 rw [h1] at q hO
 rw [<- h3]
 cases m with
 | true =>
  refine Z15 follows noNum hO Tryz.func82 rfl ?_
  repeat' ((conv => whnf); first | (refine exI (q _) ?_) | (first | refine stp ?_ | with_reducible refine Z05 (fun h => ?_) (fun h => ?_)))
  all_goals rfl
 | false =>
  refine Z15 follows noNum hO Tryz.func82 rfl ?_
  repeat' ((conv => whnf); first | (refine exI (q _) ?_) | (first | refine stp ?_ | with_reducible refine Z05 (fun h => ?_) (fun h => ?_)))
  all_goals rfl
end Go.Proofs.YtbaoadpoknhhoaaGreatDoor.lex
end

section
namespace Go.Proofs.YtbaoadpoknhhoaaGreatDoor.lex
open Go.Abs Go.RowKit
set_option maxRecDepth 100000
set_option maxHeartbeats 4000000
variable {gl : Glob}
def okN (s : List UInt8) (n : Nat) : Prop := s.length <= 9223372036854775807 /\ n <= 9223372036854775807
mutual
def okE : Ex -> Prop
 | .mk _ _ s k => okN s k.length /\ okL k
def okL : List Ex -> Prop
 | [] => True
 | e :: l => okE e /\ okL l
end
theorem Z8i : ∀ {l : List Ex}, okL l -> ∀ e ∈ l, okE e
 | x :: l, h, e, he => by
  simp only [okL] at h
  rcases List.mem_cons.1 he with rfl | he
  · exact h.1
  · exact Z8i h.2 e he
theorem Z5F : ∀ {e : Ex}, okE e -> okN e.name e.kids.length /\ okL e.kids
 | .mk _ _ s k, h => by simp only [okE] at h; exact h
def Z8m (op : Int) : Int := if op = 1 \/ op = 2 then 0 else if op = 3 \/ op = 4 then 1 else if 5 <= op /\ op <= 16 then 2 else -1
def Zf0 (op num : Int) (name : List UInt8) (n : Nat) : Bool := Z8m op == (n : Int) && ((op == 2) == Z49 name && ((op == 2 || name == []) && (decide (0 <= num) && (op == 1 || num == 0))))
def Zk9 (e : Ex) : Bool := Zf0 e.op e.num e.name e.kids.length
mutual
def ZaY : Ex -> Bool
 | .mk o n s k => Zf0 o n s k.length && rightL k
def rightL : List Ex -> Bool
 | [] => true
 | e :: l => ZaY e && rightL l
end
end Go.Proofs.YtbaoadpoknhhoaaGreatDoor.lex
end

section
namespace Go.Proofs.YtbaoadpoknhhoaaGreatDoor.lex
open Go.Abs Go.RowKit
set_option maxRecDepth 100000
set_option maxHeartbeats 4000000
theorem FgLK.same {k : Nat} {t0 tm : Tr} {H : Z00} {l : List (Nat × AV)} (h1 : ZcO t0 tm = true) (hs : SlotsGe (List.range k) tm l) (hH : HpGe H (List.range k) (List.range k) H 0 /\ Z1B ((List.range k).map (Z3J H)) = true /\ Zfi k 0 (List.range k) = true) : FgLK k t0 tm H l H := by
 unfold FgLK
 rw [h1]
 exact .inl ⟨List.range k, hH.2.2, hs, hH.1, hH.2.1⟩
structure TvE (gl : Glob) where
 σ : Type
 Mem : σ -> Z00
 k : Nat
 len : ∀ s, (Mem s).length = k
 same : ∀ s, HpGe (Mem s) (List.range k) (List.range k) (Mem s) 0 /\ Z1B ((List.range k).map (Z3J (Mem s))) = true /\ Zfi k 0 (List.range k) = true
 evo : ∀ s s', Zcm k (Mem s) (Mem s') = true
 inj : ∀ s s', Mem s = Mem s' -> s = s'
 I : Int -> σ -> Nat -> Prop
 up : ∀ d s m, 0 <= d -> I (d + 1) s m -> I d s m
 less : ∀ d s m, I d s (m + 1) -> I d s m
 bnd : ∀ d s m, I d s m -> 0 <= d /\ d <= 1152921504606846976
 gE : Nat
 cE : List AV
 hE : Ex -> Int -> σ -> Bool × σ
 bodyE : Z09 Tryz.prog gE = true
 wkE : WkL (List.range k) cE cE
 okE : ∀ e rest d s m, okE e -> I d s (m + 1) -> Z10 Tryz.prog gl gE ([.rp (e.cells ++ rest), .int .i64 d] ++ cE) (Mem s) (.bool (hE e d s).1) (Mem (hE e d s).2)
 downE : ∀ e d s m, I d s (m + 1) -> (hE e d s).1 = true -> I (d + 1) (hE e d s).2 m
section
variable {σ : Type}
mutual
def goE (h : Ex -> Int -> σ -> Bool × σ) : Ex -> Int -> σ -> Bool × σ
 | .mk o n s k, d, t => if (h (.mk o n s k) d t).1 = true then goL h k (d + 1) (h (.mk o n s k) d t).2 else (false, (h (.mk o n s k) d t).2)
def goL (h : Ex -> Int -> σ -> Bool × σ) : List Ex -> Int -> σ -> Bool × σ
 | [], d, t => (true, t)
 | e :: l, d, t => if (goE h e d t).1 = true then goL h l d (goE h e d t).2 else (false, (goE h e d t).2)
end
variable {h : Ex -> Int -> σ -> Bool × σ}
theorem Zjl (e : Ex) (d : Int) (t : σ) : goE h e d t = if (h e d t).1 = true then goL h e.kids (d + 1) (h e d t).2 else (false, (h e d t).2) := by
 obtain ⟨o, n, s, k⟩ := e
 simp only [goE, Ex.kids]
theorem ZgC : ∀ (l : List Ex) (d : Int) (t : σ) (i : Nat) (hi : i < l.length), (goL h (l.take i) d t).1 = true -> goL h (l.take (i + 1)) d t = goE h l[i] d (goL h (l.take i) d t).2
 | e :: l, d, t, 0, _, _ => by
  simp only [List.take_zero, List.take_succ_cons, goL, List.getElem_cons_zero]
  split
  · rename_i h2; rw [<- h2]
  · rename_i h2; rw [<- Bool.eq_false_iff.2 h2]
 | e :: l, d, t, i + 1, hi, ht => by
  simp only [List.take_succ_cons, goL, List.getElem_cons_succ] at ht ⊢
  split
  · rename_i h2
    rw [if_pos h2] at ht
    exact ZgC l d _ i (by simpa using hi) ht
  · rename_i h2; rw [if_neg h2] at ht; cases ht
theorem Zbm : ∀ (l : List Ex) (d : Int) (t : σ) (i : Nat), (goL h (l.take i) d t).1 = false -> goL h l d t = goL h (l.take i) d t
 | [], d, t, i, hf => by simp
 | e :: l, d, t, 0, hf => by simp only [List.take_zero, goL] at hf; cases hf
 | e :: l, d, t, i + 1, hf => by
  simp only [List.take_succ_cons, goL] at hf ⊢
  split
  · rename_i h2
    rw [if_pos h2] at hf
    exact Zbm l d _ i hf
  · rfl
end
section
variable {gl : Glob} (V : TvE gl)
def TvE.F : AV := .func (.func V.gE) [] V.cE
mutual
theorem TvE.keepE : ∀ (e : Ex) (d : Int) (s : V.σ) (m : Nat), V.I d s (Z4l e + m) -> (goE V.hE e d s).1 = true -> V.I d (goE V.hE e d s).2 m
 | .mk o n t k, d, s, m, hI, ht => by
  simp only [goE, Z4l] at hI ht ⊢
  split
  · rename_i h2
    rw [if_pos h2] at ht
    have h3 := V.downE _ d s (sizeL k + m) (by rw [show 1 + sizeL k + m = sizeL k + m + 1 from by omega] at hI; exact hI) h2
    exact V.up _ _ _ (V.bnd _ _ _ hI).1 (TvE.keepL k (d + 1) _ m h3 ht)
  · rename_i h2; rw [if_neg h2] at ht; cases ht
theorem TvE.keepL : ∀ (l : List Ex) (d : Int) (s : V.σ) (m : Nat), V.I d s (sizeL l + m) -> (goL V.hE l d s).1 = true -> V.I d (goL V.hE l d s).2 m
 | [], d, s, m, hI, ht => by simp only [goL, sizeL, Nat.zero_add] at hI ⊢; exact hI
 | e :: l, d, s, m, hI, ht => by
  simp only [goL, sizeL] at hI ht ⊢
  split
  · rename_i h2
    rw [if_pos h2] at ht
    exact TvE.keepL l d _ m (TvE.keepE e d s (sizeL l + m) (by rw [<- Nat.add_assoc]; exact hI) h2) ht
  · rename_i h2; rw [if_neg h2] at ht; cases ht
end
theorem ZfG (e : Ex) (rest : List AV) : tk 1 ((e.cells ++ rest).drop 3) = some [exA e.kids] := by
 obtain ⟨o, n, s, k⟩ := e
 simp only [Ex.cells, exA, Ex.kids]; rfl
theorem TvE.fin (s t : V.σ) (b : Bool) : List.take V.k (V.Mem t) = V.Mem t /\ (Z0T V.k (Z12 (AV.bool b) []) && Zcm V.k (V.Mem s) (V.Mem t)) = true :=
 ⟨List.take_of_length_le (by rw [V.len]; exact Nat.le_refl _), by rw [V.evo]; rfl⟩
theorem TvE.exprs (hf : Tryz.prog.follows .mixedOrders = true) : ∀ (n : Nat) (l : List Ex) (d : Int) (s : V.σ) (m : Nat), sizeL l <= n -> okL l -> l.length <= 9223372036854775807 -> V.I d s (sizeL l + m) ->
  Z10 Tryz.prog gl 105 [exA l, .int .i64 d, V.F] (V.Mem s) (.bool (goL V.hE l d s).1) (V.Mem (goL V.hE l d s).2)
 | n, l, d, s, m, hn, hok, hl, hI => by
  have hF : ∃ O, OrcSound Tryz.prog gl O /\ (∀ (i : Nat) (hi : i < l.length) (t : V.σ) (q : Nat), n ≠ 0 -> V.I (d + 1) t (sizeL l[i].kids + q) -> Z0e Tryz.prog O (V.Mem t) 105 [exA l[i].kids, .int .i64 (d + 1), V.F] = some (.bool (goL V.hE l[i].kids (d + 1) t).1, V.Mem (goL V.hE l[i].kids (d + 1) t).2)) /\
    (∀ (i : Nat) (hi : i < l.length) (t : V.σ) (q : Nat), V.I d t (q + 1) -> Z0e Tryz.prog O (V.Mem t) V.gE ([.rp ((exC l).drop (i * 4)), .int .i64 d] ++ V.cE) = some (.bool (V.hE l[i] d t).1, V.Mem (V.hE l[i] d t).2)) := by
   have s1 := Z13 (P := Tryz.prog) (gl := gl) (I := Nat × V.σ × Nat) (G := fun p => ∃ hp : p.1 < l.length, n ≠ 0 /\ V.I (d + 1) p.2.1 (sizeL l[p.1].kids + p.2.2)) (fF := fun _ => 105) (fA := fun p => [exA (l.getD p.1 default).kids, .int .i64 (d + 1), V.F]) (fH := fun p => V.Mem p.2.1) (fR := fun p => .bool (goL V.hE (l.getD p.1 default).kids (d + 1) p.2.1).1) (fO := fun p => V.Mem (goL V.hE (l.getD p.1 default).kids (d + 1) p.2.1).2) fun p hp => by
    obtain ⟨hp, h0, h1⟩ := hp
    have hg : l.getD p.1 default = l[p.1] := by simp [List.getD_eq_getElem?_getD, hp]
    rw [hg]
    have hke := Z8i hok _ (Z1a hp)
    have hsz := Z64 _ _ (Z1a hp)
    have hsk := Z7m l[p.1]
    match n, hn, h0 with
    | n + 1, hn, _ => exact TvE.exprs hf n _ (d + 1) p.2.1 p.2.2 (by omega) (Z5F hke).2 (Z5F hke).1.2 h1
   have s2 := Z13 (P := Tryz.prog) (gl := gl) (I := Nat × V.σ × Nat) (G := fun p => p.1 < l.length /\ V.I d p.2.1 (p.2.2 + 1)) (fF := fun _ => V.gE) (fA := fun p => [.rp ((exC l).drop (p.1 * 4)), .int .i64 d] ++ V.cE) (fH := fun p => V.Mem p.2.1) (fR := fun p => .bool (V.hE (l.getD p.1 default) d p.2.1).1) (fO := fun p => V.Mem (V.hE (l.getD p.1 default) d p.2.1).2) fun p hp => by
    obtain ⟨hp, h1⟩ := hp
    have hg : l.getD p.1 default = l[p.1] := by simp [List.getD_eq_getElem?_getD, hp]
    have hke := Z8i hok _ (Z1a hp)
    simp only [hg]
    rw [ZdO l p.1 hp]
    exact V.okE _ _ _ _ _ hke h1
   refine ⟨_, Z0L s1 s2, fun i hi t q h0 h1 => ?_, fun i hi t q h1 => ?_⟩
   · have hg : l.getD i default = l[i] := by simp [List.getD_eq_getElem?_getD, hi]
     have := Zay (P := Tryz.prog) (I := Nat × V.σ × Nat) (G := fun p => ∃ hp : p.1 < l.length, n ≠ 0 /\ V.I (d + 1) p.2.1 (sizeL l[p.1].kids + p.2.2)) (fF := fun _ => 105) (fA := fun p => [exA (l.getD p.1 default).kids, .int .i64 (d + 1), V.F]) (fH := fun p => V.Mem p.2.1) (fR := fun p => .bool (goL V.hE (l.getD p.1 default).kids (d + 1) p.2.1).1) (fO := fun p => V.Mem (goL V.hE (l.getD p.1 default).kids (d + 1) p.2.1).2)
      (fun p q _ _ _ ha hh => by
        have e2 := V.inj _ _ hh
        simp only [List.cons.injEq, and_true, true_and] at ha
        rw [Zap ha, e2]; exact ⟨rfl, rfl⟩) (g := 105) (args := [exA l[i].kids, .int .i64 (d + 1), V.F]) (H := V.Mem t) (by kernel_rfl) (i, t, q) ⟨hi, h0, h1⟩ rfl (by rw [hg]) rfl
     simp only [hg] at this
     exact Z40 (by kernel_rfl) this
   · have hg : l.getD i default = l[i] := by simp [List.getD_eq_getElem?_getD, hi]
     refine Z2j V.bodyE (Z2t fun p _ _ ha => ?_) ?_
     · have := congrArg (fun a => a.head?) ha
       simp [exA] at this
     · have := Zay (P := Tryz.prog) (I := Nat × V.σ × Nat) (G := fun p => p.1 < l.length /\ V.I d p.2.1 (p.2.2 + 1)) (fF := fun _ => V.gE) (fA := fun p => [.rp ((exC l).drop (p.1 * 4)), .int .i64 d] ++ V.cE) (fH := fun p => V.Mem p.2.1) (fR := fun p => .bool (V.hE (l.getD p.1 default) d p.2.1).1) (fO := fun p => V.Mem (V.hE (l.getD p.1 default) d p.2.1).2)
        (fun p q hp hq _ ha hh => by
          have e2 := V.inj _ _ hh
          simp only [List.cons_append, List.nil_append, List.cons.injEq, AV.rp.injEq, true_and, and_true] at ha
          have := congrArg List.length ha
          simp only [List.length_drop, ZdN] at this
          have e : p.1 = q.1 := by have := hp.1; have := hq.1; omega
          rw [e, e2]; exact ⟨rfl, rfl⟩) (g := V.gE) (args := [.rp ((exC l).drop (i * 4)), .int .i64 d] ++ V.cE) (H := V.Mem t) V.bodyE (i, t, q) ⟨hi, h1⟩ rfl rfl rfl
       simp only [hg] at this
       exact this
  obtain ⟨O, hO, q2, q1⟩ := hF
  have hbd := V.bnd _ _ _ hI
  have w1 : IntKind.i64.wrap (d + 1) = d + 1 := ZgU (by omega) (by omega)
  simp only [exA, TvE.F] at q2 ⊢
  refine Z3c (k := V.k) follows noNum hO (V.len s) Tryz.func105 rfl (Z30 _ _) ?_
  repeat' ((conv => whnf); first | (rw [Z06]) | (first | refine stp ?_ | with_reducible refine Z05 (fun h => ?_) (fun h => ?_)))
  conv => whnf
  refine ⟨Nat, (fun i => i <= l.length /\ (goL V.hE (l.take i) d s).1 = true), (fun i => [(0, .rs l.length 4 (exC l)), (1, .int .i64 d), (2, .func (.func V.gE) [] V.cE), (9, .int .i64 l.length), (10, .int .i64 i)]), (fun i => V.Mem (goL V.hE (l.take i) d s).2), (fun i => l.length - i), ⟨0, ⟨Nat.zero_le _, by simp only [List.take_zero, goL]⟩, ?_⟩, ?_⟩
  · simp only [List.take_zero, goL]
    refine FgLK.same rfl ?_ (V.same _)
    refine And.intro (Wk.noref rfl) ?_
    refine And.intro (Wk.noref rfl) ?_
    refine And.intro (Wk.func trivial V.wkE) ?_
    refine And.intro (Wk.int rfl) ?_
    exact ⟨Wk.int rfl, trivial⟩
  rintro i ⟨hi, hall⟩
  dsimp only
  conv => whnf
  rw [Z06]
  by_cases hlt : i < l.length
  · have e1 : decide ((i : Int) < (l.length : Int)) = true := by simpa using hlt
    have hat := ZgC (h := V.hE) l d s i hlt hall
    have hI2 : V.I d (goL V.hE (l.take i) d s).2 (sizeL (l.drop i) + m) := V.keepL (l.take i) d s (sizeL (l.drop i) + m) (by
     have := Z94 l i hlt
     have e : sizeL (l.drop i) = Z4l l[i] + sizeL (l.drop (i + 1)) := by rw [List.drop_eq_getElem_cons hlt]; simp only [sizeL]
     have e2 : sizeL (l.take i) + (sizeL (l.drop i) + m) = sizeL l + m := by omega
     rw [e2]; exact hI) hall
    generalize (goL V.hE (l.take i) d s).2 = t at *
    have esz : sizeL (l.drop i) + m = (sizeL l[i].kids + (sizeL (l.drop (i + 1)) + m)) + 1 := by
     rw [List.drop_eq_getElem_cons hlt]; simp only [sizeL]; have := Z7m l[i]; omega
    rw [esz] at hI2
    have q1' := q1 i hlt t _ hI2
    have hd2 := V.downE l[i] d t _ hI2
    have hx3 : tk 1 (((exC l).drop (i * 4)).drop 3) = some [exA l[i].kids] := by rw [ZdO l i hlt]; exact ZfG _ _
    have hn0 : n ≠ 0 := by have := Z64 _ _ (Z1a hlt); have := ZcV l[i]; omega
    have q2' := fun t q => q2 i hlt t q hn0
    rw [Zjl] at hat
    have hst := Zbm (h := V.hE) l d s (i + 1)
    generalize l[i] = e at *
    generalize hr : V.hE e d t = r at *
    obtain ⟨b, t1⟩ := r
    dsimp only at *
    cases b with
    | false =>
     simp only [Bool.false_eq_true, if_false] at hat
     rw [hat] at hst
     rw [hst rfl]
     clear q2 q2' hx3
     repeat' ((conv => whnf); first | (refine exI q1' ?_) | (rw [Z06]) | (with_reducible refine ixJ i rfl ?_ ?_; (focus (omega))) | (first | refine stp ?_ | with_reducible refine Z05 (fun h => ?_) (fun h => ?_)))
     all_goals (conv => whnf)
     all_goals (exact V.fin s t1 false)
    | true =>
     simp only [if_true] at hat
     have q2'' := q2' t1 _ (hd2 rfl)
     generalize hg : goL V.hE e.kids (d + 1) t1 = g at *
     obtain ⟨b2, t2⟩ := g
     dsimp only at *
     simp only [exA] at hx3 q2''
     cases b2 with
     | true =>
      repeat' ((conv => whnf); first | (refine exI q1' ?_) | (refine exI q2'' ?_) | (refine exI hx3 ?_) | (rw [Z06]) | (with_reducible refine exW w1 ?_) | (with_reducible refine ixJ i rfl ?_ ?_; (focus (omega))) | (first | refine stp ?_ | with_reducible refine Z05 (fun h => ?_) (fun h => ?_)))
      all_goals (conv => whnf)
      refine ⟨i + 1, ⟨hlt, by rw [hat]⟩, by show l.length - (i + 1) < l.length - i; omega, ?_⟩
      rw [hat]
      refine FgLK.same rfl ?_ (V.same _)
      refine And.intro (Wk.noref rfl) ?_
      refine And.intro (Wk.noref rfl) ?_
      refine And.intro (Wk.func trivial V.wkE) ?_
      refine And.intro (Wk.int rfl) ?_
      exact ⟨Wk.int rfl, trivial⟩
     | false =>
      rw [hat] at hst
      rw [hst rfl]
      repeat' ((conv => whnf); first | (refine exI q1' ?_) | (refine exI q2'' ?_) | (refine exI hx3 ?_) | (rw [Z06]) | (with_reducible refine exW w1 ?_) | (with_reducible refine ixJ i rfl ?_ ?_; (focus (omega))) | (first | refine stp ?_ | with_reducible refine Z05 (fun h => ?_) (fun h => ?_)))
      all_goals (conv => whnf)
      all_goals (exact V.fin s t2 false)
  · have e1 : decide ((i : Int) < (l.length : Int)) = false := by simpa using hlt
    have hi2 : i = l.length := by have := hi; omega
    subst hi2
    rw [List.take_length] at hall ⊢
    rw [hall]
    generalize (goL V.hE l d s).2 = t at *
    repeat' ((conv => whnf); first | (rw [Z06]) | (first | refine stp ?_ | with_reducible refine Z05 (fun h => ?_) (fun h => ?_)))
    all_goals (conv => whnf)
    all_goals (exact V.fin s t true)
end
end Go.Proofs.YtbaoadpoknhhoaaGreatDoor.lex
end

section
namespace Go.Proofs.YtbaoadpoknhhoaaGreatDoor.lex
open Go.Abs Go.RowKit
set_option maxRecDepth 100000
set_option maxHeartbeats 4000000
inductive St where
 | mk (kind : Int) (name loc : List UInt8) (order : Int) (exprs : List Ex) (thn els : List St)
instance : Inhabited St := ⟨.mk 0 [] [] 0 [] [] []⟩
def St.kind : St -> Int
 | .mk k _ _ _ _ _ _ => k
def St.name : St -> List UInt8
 | .mk _ n _ _ _ _ _ => n
def St.loc : St -> List UInt8
 | .mk _ _ l _ _ _ _ => l
def St.order : St -> Int
 | .mk _ _ _ o _ _ _ => o
def St.exprs : St -> List Ex
 | .mk _ _ _ _ x _ _ => x
def St.thn : St -> List St
 | .mk _ _ _ _ _ t _ => t
def St.els : St -> List St
 | .mk _ _ _ _ _ _ e => e
mutual
def St.cells : St -> List AV
 | .mk k n l o x t e => [.int .i64 k, .str n, .str l, .int .i64 o, exA x, .rs t.length 7 (stC t), .rs e.length 7 (stC e)]
def stC : List St -> List AV
 | [] => []
 | s :: l => s.cells ++ stC l
end
def stA (l : List St) : AV := .rs l.length 7 (stC l)
mutual
def Z2I : St -> Nat
 | .mk _ _ _ _ x t e => 1 + sizeL x + sizeSL t + sizeSL e
def sizeSL : List St -> Nat
 | [] => 0
 | s :: l => Z2I s + sizeSL l
end
mutual
def Zi5 : St -> Nat
 | .mk _ _ _ _ x t e => max (max (deepSL t) (deepSL e)) (deepL x) + 1
def deepSL : List St -> Nat
 | [] => 0
 | s :: l => max (Zi5 s) (deepSL l)
end
mutual
def okS : St -> Prop
 | .mk _ n l _ x t e => okN n x.length /\ okN l t.length /\ e.length <= 9223372036854775807 /\ okL x /\ okSL t /\ okSL e
def okSL : List St -> Prop
 | [] => True
 | s :: l => okS s /\ okSL l
end
theorem Z3v : ∀ {l : List St}, okSL l -> ∀ s ∈ l, okS s
 | x :: l, h, e, he => by
  simp only [okSL] at h
  rcases List.mem_cons.1 he with rfl | he
  · exact h.1
  · exact Z3v h.2 e he
theorem Z38 : ∀ {s : St}, okS s -> s.name.length <= 9223372036854775807 /\ s.loc.length <= 9223372036854775807 /\ s.exprs.length <= 9223372036854775807 /\ s.thn.length <= 9223372036854775807 /\ s.els.length <= 9223372036854775807 /\ okL s.exprs /\ okSL s.thn /\ okSL s.els
 | .mk _ _ _ _ _ _ _, h => by
  simp only [okS, okN] at h
  simp only [St.name, St.loc, St.exprs, St.thn, St.els]
  exact ⟨h.1.1, h.2.1.1, h.1.2, h.2.1.2, h.2.2.1, h.2.2.2⟩
theorem Z2s : ∀ s : St, s.cells.length = 7
 | .mk _ _ _ _ _ _ _ => by simp only [St.cells]; rfl
theorem ZcQ : ∀ l : List St, (stC l).length = l.length * 7
 | [] => by simp only [stC]; rfl
 | s :: l => by simp only [stC, List.length_append, Z2s, ZcQ l, List.length_cons]; omega
theorem Zfa (s : St) (l : List St) (i : Nat) : (stC (s :: l)).drop ((i + 1) * 7) = (stC l).drop (i * 7) := by
 have h : (i + 1) * 7 = 7 + i * 7 := by omega
 rw [h, <- List.drop_drop, stC, List.drop_left' (Z2s s)]
theorem Z7i : ∀ (l : List St) (i : Nat) (h : i < l.length), (stC l).drop (i * 7) = l[i].cells ++ stC (l.drop (i + 1))
 | s :: l, 0, h => by simp only [Nat.zero_mul, List.drop_zero, stC, List.getElem_cons_zero, List.drop_succ_cons]
 | s :: l, i + 1, h => by rw [Zfa, Z7i l i (by simpa using h)]; simp only [List.getElem_cons_succ, List.drop_succ_cons]
theorem st7 (l : List St) (i : Nat) (h : i < l.length) : tk 7 ((stC l).drop (i * 7)) = some l[i].cells := by
 rw [Z7i l i h]
 have := Zgj l[i].cells (stC (l.drop (i + 1)))
 rwa [Z2s] at this
mutual
theorem ZbY : ∀ (a b : St), a.cells = b.cells -> a = b
 | .mk k n l o x t e, .mk k' n' l' o' x' t' e', h => by
  simp only [St.cells, List.cons.injEq, AV.int.injEq, AV.str.injEq, AV.rs.injEq, true_and, and_true] at h
  obtain ⟨rfl, rfl, rfl, rfl, hx, ht, he⟩ := h
  rw [Zap hx, stC_inj t t' ht.2 ht.1, stC_inj e e' he.2 he.1]
theorem stC_inj : ∀ (a b : List St), stC a = stC b -> a.length = b.length -> a = b
 | [], [], _, _ => rfl
 | x :: a, y :: b, h, hl => by
  simp only [stC] at h
  have h' := List.append_inj h (by rw [Z2s, Z2s])
  rw [ZbY x y h'.1, stC_inj a b h'.2 (by simpa using hl)]
 | [], _ :: _, _, hl => by simp at hl
 | _ :: _, [], _, hl => by simp at hl
end
theorem Z3S {a b : List St} (h : stA a = stA b) : a = b := by
 simp only [stA, AV.rs.injEq, true_and] at h
 exact stC_inj _ _ h.2 h.1
theorem ZaX : ∀ s : St, Z2I s = 1 + sizeL s.exprs + sizeSL s.thn + sizeSL s.els
 | .mk _ _ _ _ _ _ _ => by simp only [Z2I, St.exprs, St.thn, St.els]
theorem Z7l : ∀ (l : List St) (i : Nat) (h : i < l.length), sizeSL l = sizeSL (l.take i) + Z2I l[i] + sizeSL (l.drop (i + 1))
 | s :: l, 0, h => by simp only [List.take_zero, sizeSL, List.getElem_cons_zero, List.drop_succ_cons, List.drop_zero]; omega
 | s :: l, i + 1, h => by
  have := Z7l l i (by simpa using h)
  simp only [List.take_succ_cons, sizeSL, List.getElem_cons_succ, List.drop_succ_cons]; omega
theorem Z4R : ∀ (l : List St) (s : St), s ∈ l -> Z2I s <= sizeSL l
 | e :: l, f, h => by
  simp only [sizeSL]
  rcases List.mem_cons.1 h with rfl | h
  · omega
  · have := Z4R l f h; omega
theorem ZjA (s : St) (rest : List AV) : tk 1 ((s.cells ++ rest).drop 4) = some [exA s.exprs] := by
 obtain ⟨k, n, l, o, x, t, e⟩ := s
 simp only [St.cells, exA, St.exprs]; rfl
theorem ZjB (s : St) (rest : List AV) : tk 1 ((s.cells ++ rest).drop 5) = some [stA s.thn] := by
 obtain ⟨k, n, l, o, x, t, e⟩ := s
 simp only [St.cells, stA, St.thn]; rfl
theorem ZjD (s : St) (rest : List AV) : tk 1 ((s.cells ++ rest).drop 6) = some [stA s.els] := by
 obtain ⟨k, n, l, o, x, t, e⟩ := s
 simp only [St.cells, stA, St.els]; rfl
theorem ZjC (s : St) (rest : List AV) : tk 1 ((s.cells ++ rest).drop 1) = some [.str s.name] := by
 obtain ⟨k, n, l, o, x, t, e⟩ := s
 simp only [St.cells, St.name]; rfl
end Go.Proofs.YtbaoadpoknhhoaaGreatDoor.lex
end

section
namespace Go.Proofs.YtbaoadpoknhhoaaGreatDoor.lex
open Go.Abs Go.RowKit
set_option maxRecDepth 100000
set_option maxHeartbeats 4000000
structure TvS (gl : Glob) extends TvE gl where
 gS : Nat
 cS : List AV
 hS : St -> Int -> σ -> Bool × σ
 bodyS : Z09 Tryz.prog gS = true
 wkS : WkL (List.range k) cS cS
 okS : ∀ x rest d s m, lex.okS x -> I d s (m + 1) -> Z10 Tryz.prog gl gS ([.rp (x.cells ++ rest), .int .i64 d] ++ cS) (Mem s) (.bool (hS x d s).1) (Mem (hS x d s).2)
 downS : ∀ x d s m, I d s (m + 1) -> (hS x d s).1 = true -> I (d + 1) (hS x d s).2 m
section
variable {σ : Type}
def Z0F (r : Bool × σ) (f : σ -> Bool × σ) : Bool × σ := if r.1 = true then f r.2 else (false, r.2)
mutual
def goS (hE : Ex -> Int -> σ -> Bool × σ) (hS : St -> Int -> σ -> Bool × σ) : St -> Int -> σ -> Bool × σ
 | .mk k n l o x t e, d, s => Z0F (hS (.mk k n l o x t e) d s) fun s1 => Z0F (goL hE x (d + 1) s1) fun s2 => Z0F (goSL hE hS t (d + 1) s2) fun s3 => goSL hE hS e (d + 1) s3
def goSL (hE : Ex -> Int -> σ -> Bool × σ) (hS : St -> Int -> σ -> Bool × σ) : List St -> Int -> σ -> Bool × σ
 | [], d, s => (true, s)
 | x :: l, d, s => Z0F (goS hE hS x d s) fun s1 => goSL hE hS l d s1
end
variable {hE : Ex -> Int -> σ -> Bool × σ} {hS : St -> Int -> σ -> Bool × σ}
theorem Zji (x : St) (d : Int) (s : σ) : goS hE hS x d s = Z0F (hS x d s) fun s1 => Z0F (goL hE x.exprs (d + 1) s1) fun s2 => Z0F (goSL hE hS x.thn (d + 1) s2) fun s3 => goSL hE hS x.els (d + 1) s3 := by
 obtain ⟨k, n, l, o, x, t, e⟩ := x
 simp only [goS, St.exprs, St.thn, St.els]
theorem Zdv : ∀ (l : List St) (d : Int) (t : σ) (i : Nat) (hi : i < l.length), (goSL hE hS (l.take i) d t).1 = true -> goSL hE hS (l.take (i + 1)) d t = goS hE hS l[i] d (goSL hE hS (l.take i) d t).2
 | e :: l, d, t, 0, _, _ => by
  simp only [List.take_zero, List.take_succ_cons, goSL, List.getElem_cons_zero, Z0F]
  split
  · rename_i h2; rw [<- h2]
  · rename_i h2; rw [<- Bool.eq_false_iff.2 h2]
 | e :: l, d, t, i + 1, hi, ht => by
  simp only [List.take_succ_cons, goSL, List.getElem_cons_succ, Z0F] at ht ⊢
  split
  · rename_i h2
    rw [if_pos h2] at ht
    exact Zdv l d _ i (by simpa using hi) ht
  · rename_i h2; rw [if_neg h2] at ht; cases ht
theorem Z9h : ∀ (l : List St) (d : Int) (t : σ) (i : Nat), (goSL hE hS (l.take i) d t).1 = false -> goSL hE hS l d t = goSL hE hS (l.take i) d t
 | [], d, t, i, hf => by simp
 | e :: l, d, t, 0, hf => by simp only [List.take_zero, goSL] at hf; cases hf
 | e :: l, d, t, i + 1, hf => by
  simp only [List.take_succ_cons, goSL, Z0F] at hf ⊢
  split
  · rename_i h2
    rw [if_pos h2] at hf
    exact Z9h l d _ i hf
  · rfl
theorem Z3r {r : Bool × σ} {f : σ -> Bool × σ} (h : (Z0F r f).1 = true) : r.1 = true /\ Z0F r f = f r.2 := by
 unfold Z0F at h ⊢
 split at h
 · rename_i h2; exact ⟨h2, by rw [if_pos h2]⟩
 · cases h
end
section
variable {gl : Glob} (V : TvS gl)
def TvS.G : AV := .func (.func V.gS) [] V.cS
mutual
theorem TvS.keepS : ∀ (x : St) (d : Int) (s : V.σ) (m : Nat), V.I d s (Z2I x + m) -> (goS V.hE V.hS x d s).1 = true -> V.I d (goS V.hE V.hS x d s).2 m
 | .mk k n l o x t e, d, s, m, hI, ht => by
  simp only [goS, Z2I] at hI ht ⊢
  obtain ⟨h1, e1⟩ := Z3r ht
  rw [e1] at ht ⊢
  obtain ⟨h2, e2⟩ := Z3r ht
  rw [e2] at ht ⊢
  obtain ⟨h3, e3⟩ := Z3r ht
  rw [e3] at ht ⊢
  have i1 := V.downS _ d s (sizeL x + (sizeSL t + (sizeSL e + m))) (by rw [show 1 + sizeL x + sizeSL t + sizeSL e + m = sizeL x + (sizeSL t + (sizeSL e + m)) + 1 from by omega] at hI; exact hI) h1
  have i2 := V.toTvE.keepL x (d + 1) _ _ i1 h2
  have i3 := TvS.keepSL t (d + 1) _ _ i2 h3
  exact V.up _ _ _ (V.bnd _ _ _ hI).1 (TvS.keepSL e (d + 1) _ m i3 ht)
theorem TvS.keepSL : ∀ (l : List St) (d : Int) (s : V.σ) (m : Nat), V.I d s (sizeSL l + m) -> (goSL V.hE V.hS l d s).1 = true -> V.I d (goSL V.hE V.hS l d s).2 m
 | [], d, s, m, hI, ht => by simp only [goSL, sizeSL, Nat.zero_add] at hI ⊢; exact hI
 | x :: l, d, s, m, hI, ht => by
  simp only [goSL, sizeSL] at hI ht ⊢
  obtain ⟨h1, e1⟩ := Z3r ht
  rw [e1] at ht ⊢
  exact TvS.keepSL l d _ m (TvS.keepS x d s (sizeSL l + m) (by rw [<- Nat.add_assoc]; exact hI) h1) ht
end
theorem TvS.stmts : ∀ (n : Nat) (l : List St) (d : Int) (s : V.σ) (m : Nat), sizeSL l <= n -> okSL l -> l.length <= 9223372036854775807 -> V.I d s (sizeSL l + m) ->
  Z10 Tryz.prog gl 83 [stA l, .int .i64 d, V.toTvE.F, V.G] (V.Mem s) (.bool (goSL V.hE V.hS l d s).1) (V.Mem (goSL V.hE V.hS l d s).2)
 | n, l, d, s, m, hn, hok, hl, hI => by
  have hF : ∃ O, OrcSound Tryz.prog gl O /\
    (∀ (x : List St) (t : V.σ) (q : Nat), sizeSL x < n -> okSL x -> x.length <= 9223372036854775807 -> V.I (d + 1) t (sizeSL x + q) -> Z0e Tryz.prog O (V.Mem t) 83 [stA x, .int .i64 (d + 1), V.toTvE.F, V.G] = some (.bool (goSL V.hE V.hS x (d + 1) t).1, V.Mem (goSL V.hE V.hS x (d + 1) t).2)) /\
    (∀ (x : List Ex) (t : V.σ) (q : Nat), okL x -> x.length <= 9223372036854775807 -> V.I (d + 1) t (sizeL x + q) -> Z0e Tryz.prog O (V.Mem t) 105 [exA x, .int .i64 (d + 1), V.toTvE.F] = some (.bool (goL V.hE x (d + 1) t).1, V.Mem (goL V.hE x (d + 1) t).2)) /\
    (∀ (i : Nat) (hi : i < l.length) (t : V.σ) (q : Nat), V.I d t (q + 1) -> Z0e Tryz.prog O (V.Mem t) V.gS ([.rp ((stC l).drop (i * 7)), .int .i64 d] ++ V.cS) = some (.bool (V.hS l[i] d t).1, V.Mem (V.hS l[i] d t).2)) := by
   have s1 := Z13 (P := Tryz.prog) (gl := gl) (I := List St × V.σ × Nat) (G := fun p => sizeSL p.1 < n /\ okSL p.1 /\ p.1.length <= 9223372036854775807 /\ V.I (d + 1) p.2.1 (sizeSL p.1 + p.2.2)) (fF := fun _ => 83) (fA := fun p => [stA p.1, .int .i64 (d + 1), V.toTvE.F, V.G]) (fH := fun p => V.Mem p.2.1) (fR := fun p => .bool (goSL V.hE V.hS p.1 (d + 1) p.2.1).1) (fO := fun p => V.Mem (goSL V.hE V.hS p.1 (d + 1) p.2.1).2) fun p hp => by
    obtain ⟨h0, h1, h2, h3⟩ := hp
    match n, hn, h0 with
    | n + 1, hn, h0 => exact TvS.stmts n _ (d + 1) p.2.1 p.2.2 (by omega) h1 h2 h3
   have s2 := Z13 (P := Tryz.prog) (gl := gl) (I := List Ex × V.σ × Nat) (G := fun p => okL p.1 /\ p.1.length <= 9223372036854775807 /\ V.I (d + 1) p.2.1 (sizeL p.1 + p.2.2)) (fF := fun _ => 105) (fA := fun p => [exA p.1, .int .i64 (d + 1), V.toTvE.F]) (fH := fun p => V.Mem p.2.1) (fR := fun p => .bool (goL V.hE p.1 (d + 1) p.2.1).1) (fO := fun p => V.Mem (goL V.hE p.1 (d + 1) p.2.1).2) fun p hp =>
    V.toTvE.exprs follows _ p.1 (d + 1) p.2.1 p.2.2 (Nat.le_refl _) hp.1 hp.2.1 hp.2.2
   have s3 := Z13 (P := Tryz.prog) (gl := gl) (I := Nat × V.σ × Nat) (G := fun p => p.1 < l.length /\ V.I d p.2.1 (p.2.2 + 1)) (fF := fun _ => V.gS) (fA := fun p => [.rp ((stC l).drop (p.1 * 7)), .int .i64 d] ++ V.cS) (fH := fun p => V.Mem p.2.1) (fR := fun p => .bool (V.hS (l.getD p.1 default) d p.2.1).1) (fO := fun p => V.Mem (V.hS (l.getD p.1 default) d p.2.1).2) fun p hp => by
    obtain ⟨hp, h1⟩ := hp
    have hg : l.getD p.1 default = l[p.1] := by simp [List.getD_eq_getElem?_getD, hp]
    have hke := Z3v hok _ (Z1a hp)
    simp only [hg]
    rw [Z7i l p.1 hp]
    exact V.okS _ _ _ _ _ hke h1
   refine ⟨_, Z0L s1 (Z0L s2 s3), fun x t q h0 h1 h2 h3 => ?_, fun x t q h0 h1 h2 => ?_, fun i hi t q h1 => ?_⟩
   · exact Z40 (by kernel_rfl) (Zay (P := Tryz.prog) (fun p q _ _ _ ha hh => by
      have e2 := V.inj _ _ hh
      simp only [List.cons.injEq, and_true, true_and] at ha
      rw [Z3S ha, e2]; exact ⟨rfl, rfl⟩) (by kernel_rfl) (x, t, q) ⟨h0, h1, h2, h3⟩ rfl rfl rfl)
   · refine Z2j (by kernel_rfl) (Z2t fun p _ e _ => absurd e (by decide)) ?_
     exact Z40 (by kernel_rfl) (Zay (P := Tryz.prog) (fun p q _ _ _ ha hh => by
      have e2 := V.inj _ _ hh
      simp only [List.cons.injEq, and_true, true_and] at ha
      rw [Zap ha, e2]; exact ⟨rfl, rfl⟩) (by kernel_rfl) (x, t, q) ⟨h0, h1, h2⟩ rfl rfl rfl)
   · have hg : l.getD i default = l[i] := by simp [List.getD_eq_getElem?_getD, hi]
     refine Z2j V.bodyS (Z2t fun p _ _ ha => ?_) ?_
     · have := congrArg (fun a => a.head?) ha
       simp [stA] at this
     refine Z2j V.bodyS (Z2t fun p _ _ ha => ?_) ?_
     · have := congrArg (fun a => a.head?) ha
       simp [exA] at this
     · have := Zay (P := Tryz.prog) (I := Nat × V.σ × Nat) (G := fun p => p.1 < l.length /\ V.I d p.2.1 (p.2.2 + 1)) (fF := fun _ => V.gS) (fA := fun p => [.rp ((stC l).drop (p.1 * 7)), .int .i64 d] ++ V.cS) (fH := fun p => V.Mem p.2.1) (fR := fun p => .bool (V.hS (l.getD p.1 default) d p.2.1).1) (fO := fun p => V.Mem (V.hS (l.getD p.1 default) d p.2.1).2)
        (fun p q hp hq _ ha hh => by
          have e2 := V.inj _ _ hh
          simp only [List.cons_append, List.nil_append, List.cons.injEq, AV.rp.injEq, true_and, and_true] at ha
          have := congrArg List.length ha
          simp only [List.length_drop, ZcQ] at this
          have e : p.1 = q.1 := by have := hp.1; have := hq.1; omega
          rw [e, e2]; exact ⟨rfl, rfl⟩) (g := V.gS) (args := [.rp ((stC l).drop (i * 7)), .int .i64 d] ++ V.cS) (H := V.Mem t) V.bodyS (i, t, q) ⟨hi, h1⟩ rfl rfl rfl
       simp only [hg] at this
       exact this
  obtain ⟨O, hO, q3, q2, q1⟩ := hF
  have hbd := V.bnd _ _ _ hI
  have w1 : IntKind.i64.wrap (d + 1) = d + 1 := ZgU (by omega) (by omega)
  simp only [stA, exA, TvE.F, TvS.G] at q2 q3 ⊢
  refine Z3c (k := V.k) follows noNum hO (V.len s) Tryz.func83 rfl (Z30 _ _) ?_
  repeat' ((conv => whnf); (first | refine stp ?_ | with_reducible refine Z05 (fun h => ?_) (fun h => ?_)))
  conv => whnf
  refine ⟨Nat, (fun i => i <= l.length /\ (goSL V.hE V.hS (l.take i) d s).1 = true), (fun i => [(0, .rs l.length 7 (stC l)), (1, .int .i64 d), (2, .func (.func V.gE) [] V.cE), (3, .func (.func V.gS) [] V.cS), (12, .int .i64 l.length), (13, .int .i64 i)]), (fun i => V.Mem (goSL V.hE V.hS (l.take i) d s).2), (fun i => l.length - i), ⟨0, ⟨Nat.zero_le _, by simp only [List.take_zero, goSL]⟩, ?_⟩, ?_⟩
  · simp only [List.take_zero, goSL]
    refine FgLK.same rfl ?_ (V.same _)
    refine And.intro (Wk.noref rfl) ?_
    refine And.intro (Wk.noref rfl) ?_
    refine And.intro (Wk.func trivial V.wkE) ?_
    refine And.intro (Wk.func trivial V.wkS) ?_
    refine And.intro (Wk.int rfl) ?_
    exact ⟨Wk.int rfl, trivial⟩
  rintro i ⟨hi, hall⟩
  dsimp only
  conv => whnf
  rw [Z06]
  by_cases hlt : i < l.length
  · have e1 : decide ((i : Int) < (l.length : Int)) = true := by simpa using hlt
    have hat := Zdv (hE := V.hE) (hS := V.hS) l d s i hlt hall
    have hI2 : V.I d (goSL V.hE V.hS (l.take i) d s).2 (sizeSL (l.drop i) + m) := V.keepSL (l.take i) d s (sizeSL (l.drop i) + m) (by
     have := Z7l l i hlt
     have e : sizeSL (l.drop i) = Z2I l[i] + sizeSL (l.drop (i + 1)) := by rw [List.drop_eq_getElem_cons hlt]; simp only [sizeSL]
     have e2 : sizeSL (l.take i) + (sizeSL (l.drop i) + m) = sizeSL l + m := by omega
     rw [e2]; exact hI) hall
    generalize (goSL V.hE V.hS (l.take i) d s).2 = t at *
    have esz : sizeSL (l.drop i) + m = (sizeL l[i].exprs + (sizeSL l[i].thn + (sizeSL l[i].els + (sizeSL (l.drop (i + 1)) + m)))) + 1 := by
     rw [List.drop_eq_getElem_cons hlt]; simp only [sizeSL]; have := ZaX l[i]; omega
    rw [esz] at hI2
    have q1' := q1 i hlt t _ hI2
    have hd2 := V.downS l[i] d t _ hI2
    have hx4 : tk 1 (((stC l).drop (i * 7)).drop 4) = some [exA l[i].exprs] := by rw [Z7i l i hlt]; exact ZjA _ _
    have hx5 : tk 1 (((stC l).drop (i * 7)).drop 5) = some [stA l[i].thn] := by rw [Z7i l i hlt]; exact ZjB _ _
    have hx6 : tk 1 (((stC l).drop (i * 7)).drop 6) = some [stA l[i].els] := by rw [Z7i l i hlt]; exact ZjD _ _
    obtain ⟨_, _, k1, k2, k3, k4, k5, k6⟩ := Z38 (Z3v hok _ (Z1a hlt))
    have hsz := Z4R _ _ (Z1a hlt)
    have hse := ZaX l[i]
    have qx := fun t q => q2 l[i].exprs t q k4 k1
    have qt := fun t q => q3 l[i].thn t q (by omega) k5 k2
    have qe := fun t q => q3 l[i].els t q (by omega) k6 k3
    have kx := fun s m => V.toTvE.keepL l[i].exprs (d + 1) s m
    have kt := fun s m => V.keepSL l[i].thn (d + 1) s m
    rw [Zji] at hat
    have hst := Z9h (hE := V.hE) (hS := V.hS) l d s (i + 1)
    clear q1 q2 q3 hse hsz k1 k2 k3 k4 k5 k6
    generalize l[i] = e at *
    generalize hr : V.hS e d t = r at *
    obtain ⟨b, t1⟩ := r
    simp only [exA, stA] at hx4 hx5 hx6 qx qt qe
    dsimp only [Z0F] at *
    cases b with
    | false =>
     simp only [Bool.false_eq_true, if_false] at hat
     rw [hat] at hst
     rw [hst rfl]
     repeat' ((conv => whnf); first | (refine exI q1' ?_) | (rw [Z06]) | (with_reducible refine ixJ i rfl ?_ ?_; (focus (omega))) | (first | refine stp ?_ | with_reducible refine Z05 (fun h => ?_) (fun h => ?_)))
     all_goals (conv => whnf)
     all_goals (exact V.toTvE.fin s t1 false)
    | true =>
     simp only [if_true] at hat
     have i1 := hd2 rfl
     have qx' := qx t1 _ i1
     have kx' := kx t1 _ i1
     generalize hg : goL V.hE e.exprs (d + 1) t1 = g at *
     obtain ⟨b2, t2⟩ := g
     dsimp only at *
     cases b2 with
     | false =>
      simp only [Bool.false_eq_true, if_false] at hat
      rw [hat] at hst
      rw [hst rfl]
      repeat' ((conv => whnf); first | (refine exI q1' ?_) | (refine exI qx' ?_) | (refine exI hx4 ?_) | (rw [Z06]) | (with_reducible refine exW w1 ?_) | (with_reducible refine ixJ i rfl ?_ ?_; (focus (omega))) | (first | refine stp ?_ | with_reducible refine Z05 (fun h => ?_) (fun h => ?_)))
      all_goals (conv => whnf)
      all_goals (exact V.toTvE.fin s t2 false)
     | true =>
      simp only [if_true] at hat
      have i2 := kx' rfl
      have qt' := qt t2 _ i2
      have kt' := kt t2 _ i2
      generalize hg2 : goSL V.hE V.hS e.thn (d + 1) t2 = g2 at *
      obtain ⟨b3, t3⟩ := g2
      dsimp only at *
      cases b3 with
      | false =>
       simp only [Bool.false_eq_true, if_false] at hat
       rw [hat] at hst
       rw [hst rfl]
       repeat' ((conv => whnf); first | (refine exI q1' ?_) | (refine exI qx' ?_) | (refine exI qt' ?_) | (refine exI hx4 ?_) | (refine exI hx5 ?_) | (rw [Z06]) | (with_reducible refine exW w1 ?_) | (with_reducible refine ixJ i rfl ?_ ?_; (focus (omega))) | (first | refine stp ?_ | with_reducible refine Z05 (fun h => ?_) (fun h => ?_)))
       all_goals (conv => whnf)
       all_goals (exact V.toTvE.fin s t3 false)
      | true =>
       simp only [if_true] at hat
       have i3 := kt' rfl
       have qe' := qe t3 _ i3
       generalize hg3 : goSL V.hE V.hS e.els (d + 1) t3 = g3 at *
       obtain ⟨b4, t4⟩ := g3
       dsimp only at *
       cases b4 with
       | false =>
        rw [hat] at hst
        rw [hst rfl]
        repeat' ((conv => whnf); first | (refine exI q1' ?_) | (refine exI qx' ?_) | (refine exI qt' ?_) | (refine exI qe' ?_) | (refine exI hx4 ?_) | (refine exI hx5 ?_) | (refine exI hx6 ?_) | (rw [Z06]) | (with_reducible refine exW w1 ?_) | (with_reducible refine ixJ i rfl ?_ ?_; (focus (omega))) | (first | refine stp ?_ | with_reducible refine Z05 (fun h => ?_) (fun h => ?_)))
        all_goals (conv => whnf)
        all_goals (exact V.toTvE.fin s t4 false)
       | true =>
        repeat' ((conv => whnf); first | (refine exI q1' ?_) | (refine exI qx' ?_) | (refine exI qt' ?_) | (refine exI qe' ?_) | (refine exI hx4 ?_) | (refine exI hx5 ?_) | (refine exI hx6 ?_) | (rw [Z06]) | (with_reducible refine exW w1 ?_) | (with_reducible refine ixJ i rfl ?_ ?_; (focus (omega))) | (first | refine stp ?_ | with_reducible refine Z05 (fun h => ?_) (fun h => ?_)))
        all_goals (conv => whnf)
        refine ⟨i + 1, ⟨hlt, by rw [hat]⟩, by show l.length - (i + 1) < l.length - i; omega, ?_⟩
        rw [hat]
        refine FgLK.same rfl ?_ (V.same _)
        refine And.intro (Wk.noref rfl) ?_
        refine And.intro (Wk.noref rfl) ?_
        refine And.intro (Wk.func trivial V.wkE) ?_
        refine And.intro (Wk.func trivial V.wkS) ?_
        refine And.intro (Wk.int rfl) ?_
        exact ⟨Wk.int rfl, trivial⟩
  · have e1 : decide ((i : Int) < (l.length : Int)) = false := by simpa using hlt
    have hi2 : i = l.length := by have := hi; omega
    subst hi2
    rw [List.take_length] at hall ⊢
    rw [hall]
    generalize (goSL V.hE V.hS l d s).2 = t at *
    repeat' ((conv => whnf); first | (rw [Z06]) | (first | refine stp ?_ | with_reducible refine Z05 (fun h => ?_) (fun h => ?_)))
    all_goals (conv => whnf)
    all_goals (exact V.toTvE.fin s t true)
end
end Go.Proofs.YtbaoadpoknhhoaaGreatDoor.lex
end

section
namespace Go.Proofs.YtbaoadpoknhhoaaGreatDoor.lex
open Go.Abs Go.RowKit
set_option maxRecDepth 100000
set_option maxHeartbeats 4000000
variable {gl : Glob}
def Z2r : List (List St) -> Nat
 | [] => 0
 | l :: t => sizeSL l + Z2r t
def Zho : List (List St) -> Prop
 | [] => True
 | l :: t => okSL l /\ l.length <= 9223372036854775807 /\ Zho t
theorem Z24 : ∀ {t : List (List St)}, Zho t -> ∀ l ∈ t, okSL l /\ l.length <= 9223372036854775807
 | x :: t, h, l, hl => by
  rcases List.mem_cons.1 hl with rfl | hl
  · exact ⟨h.1, h.2.1⟩
  · exact Z24 h.2.2 l hl
theorem th1 (t : List (List St)) (i : Nat) (h : i < t.length) : tk 1 ((t.map stA).drop (i * 1)) = some [stA t[i]] := Z5Y stA t i h (by omega)
structure Dc where
 name : List UInt8
 plain : Bool
 val : Int
def Dc.cells (d : Dc) : List AV := [.str d.name, .bool d.plain, .int .i64 d.val]
def dcC : List Dc -> List AV
 | [] => []
 | d :: l => d.cells ++ dcC l
theorem ZfZ (d : Dc) (l : List Dc) (i : Nat) : (dcC (d :: l)).drop ((i + 1) * 3) = (dcC l).drop (i * 3) := by
 have h : (i + 1) * 3 = 3 + i * 3 := by omega
 rw [h, <- List.drop_drop]
 have h2 : (dcC (d :: l)).drop 3 = dcC l := rfl
 rw [h2]
theorem ZdY : ∀ (l : List Dc) (i : Nat) (h : i < l.length), (dcC l).drop (i * 3) = l[i].cells ++ dcC (l.drop (i + 1))
 | d :: l, 0, h => by simp only [Nat.zero_mul, List.drop_zero, dcC, List.getElem_cons_zero, List.drop_succ_cons]
 | d :: l, i + 1, h => by rw [ZfZ, ZdY l i (by simpa using h)]; simp only [List.getElem_cons_succ, List.drop_succ_cons]
theorem dc3 (l : List Dc) (i : Nat) (h : i < l.length) : tk 3 ((dcC l).drop (i * 3)) = some l[i].cells := by
 rw [ZdY l i h]; rfl
structure Pr where
 decls : List Dc
 threads : List (List St)
def Pr.av (p : Pr) : AV := .agg [.rs p.decls.length 3 (dcC p.decls), .rs p.threads.length 1 (p.threads.map stA)]
def okD (l : List Dc) : Prop := l.length <= 9223372036854775807 /\ ∀ d ∈ l, d.name.length <= 9223372036854775807
def okP (p : Pr) : Prop := okD p.decls /\ Zho p.threads /\ p.threads.length <= 9223372036854775807
theorem Z3t : ∀ (t : List (List St)) (l : List St), l ∈ t -> sizeSL l <= Z2r t
 | e :: t, l, h => by
  simp only [Z2r]
  rcases List.mem_cons.1 h with rfl | h
  · omega
  · have := Z3t t l h; omega
end Go.Proofs.YtbaoadpoknhhoaaGreatDoor.lex
end

section
namespace Go.Proofs.YtbaoadpoknhhoaaGreatDoor.lex
open Go.Abs Go.RowKit
set_option maxRecDepth 100000
set_option maxHeartbeats 4000000
variable {gl : Glob}
def fdI (s : List UInt8) : List Dc -> Nat -> Int
 | [], _ => -1
 | d :: l, i => cond (d.name == s) (i : Int) (fdI s l (i + 1))
def Z0K (ds : List Dc) (s : List UInt8) : Int := fdI s ds 0
def noD (s : List UInt8) : List Dc -> Bool
 | [] => true
 | d :: l => !(d.name == s) && noD s l
theorem ZgH (s : List UInt8) : ∀ (l : List Dc) (k i : Nat) (h : i < l.length), noD s (l.take i) = true -> (l[i].name == s) = true -> fdI s l k = ((k + i : Nat) : Int)
 | d :: l, k, 0, h, h1, h2 => by
  simp only [List.getElem_cons_zero] at h2
  simp only [fdI, h2, cond_true, Nat.add_zero]
 | d :: l, k, i + 1, h, h1, h2 => by
  simp only [List.take_succ_cons, noD, Bool.and_eq_true, Bool.not_eq_true'] at h1
  simp only [List.getElem_cons_succ] at h2
  simp only [fdI, h1.1, cond_false]
  rw [ZgH s l (k + 1) i (by simpa using h) h1.2 h2, show k + 1 + i = k + (i + 1) from by omega]
theorem Zbs (s : List UInt8) : ∀ (l : List Dc) (k : Nat), noD s l = true -> fdI s l k = -1
 | [], k, h => rfl
 | d :: l, k, h => by
  simp only [noD, Bool.and_eq_true, Bool.not_eq_true'] at h
  simp only [fdI, h.1, cond_false]
  exact Zbs s l (k + 1) h.2
theorem Zb8 (s : List UInt8) : ∀ (l : List Dc) (i : Nat) (h : i < l.length), noD s (l.take i) = true -> (l[i].name == s) = false -> noD s (l.take (i + 1)) = true
 | d :: l, 0, h, h1, h2 => by
  simp only [List.getElem_cons_zero] at h2
  simp [noD, h2]
 | d :: l, i + 1, h, h1, h2 => by
  simp only [List.take_succ_cons, noD, Bool.and_eq_true, Bool.not_eq_true'] at h1 ⊢
  simp only [List.getElem_cons_succ] at h2
  exact ⟨h1.1, Zb8 s l i (by simpa using h) h1.2 h2⟩
theorem ZgG (s : List UInt8) : ∀ (l : List Dc) (k : Nat), fdI s l k = -1 \/ ∃ i : Nat, fdI s l k = ((k + i : Nat) : Int) /\ i < l.length /\ (l[i]?).map (·.name) = some s
 | [], k => .inl rfl
 | d :: l, k => by
  simp only [fdI]
  cases h : d.name == s with
  | true => exact .inr ⟨0, by simp, by simp, by simpa using h⟩
  | false =>
   rcases ZgG s l (k + 1) with h | ⟨i, h1, h2, h3⟩
   · exact .inl h
   · exact .inr ⟨i + 1, by rw [cond_false, h1]; congr 1; omega, by simpa using h2, by simpa using h3⟩
theorem ZfO (ds : List Dc) (s : List UInt8) : Z0K ds s = -1 \/ ∃ i : Nat, Z0K ds s = (i : Int) /\ i < ds.length /\ (ds[i]?).map (·.name) = some s := by
 rcases ZgG s ds 0 with h | ⟨i, h1, h2, h3⟩
 · exact .inl h
 · exact .inr ⟨i, by unfold Z0K; rw [h1, Nat.zero_add], h2, h3⟩
def nmH (s : List UInt8) : Z00 := [⟨true, 0, 0, .cells [.str s] 9⟩]
theorem ZfP (d : Dc) (s : List UInt8) : Z10 Tryz.prog gl 87 [.agg d.cells, .ptr 0 0] (nmH s) (.bool (d.name == s)) (nmH s) := by
 obtain ⟨nm, pl, v⟩ := d
 simp only [Dc.cells]
 refine Z3c (k := 1) follows noNum Z1n rfl Tryz.func87 rfl (Z30 _ _) ?_
 repeat' ((conv => whnf); first | refine stp ?_ | with_reducible refine Z05 (fun h => ?_) (fun h => ?_))
 all_goals first | rfl | exact ⟨rfl, rfl⟩ | exact ⟨rfl, rfl, rfl⟩
theorem Zdt (ds : List Dc) (s : List UInt8) (hl : ds.length <= 9223372036854775807) : Z10 Tryz.prog gl 86 [.rs ds.length 3 (dcC ds), .func (.func 87) [] [.ptr 0 0]] (nmH s) (.int .i64 (Z0K ds s)) (nmH s) := by
 obtain ⟨O, hO, ⟨p1, -⟩, -⟩ := Z9o (P := Tryz.prog) (gl := gl) [{ I := Dc, f := 87, G := fun _ => True, A := fun d => [.agg d.cells, .ptr 0 0], H := fun _ => nmH s, R := fun d => .bool (d.name == s), O := fun _ => nmH s, body := (by kernel_rfl), inj := (fun i j _ _ h _ => by obtain ⟨a, b, c⟩ := i; obtain ⟨a', b', c'⟩ := j; simp only [Dc.cells, List.cons.injEq, AV.agg.injEq, AV.str.injEq, and_true] at h; rw [h.1]; exact ⟨rfl, rfl⟩), ok := (fun d _ => ZfP d s) }] [] rfl
 have q1 : ∀ d : Dc, Z0e Tryz.prog O (nmH s) 87 [.agg d.cells, .ptr 0 0] = some (.bool (d.name == s), nmH s) := fun d => p1 d trivial
 clear p1
 refine Z3c (k := 1) follows noNum hO rfl Tryz.func86 rfl (Z30 _ _) ?_
 repeat' ((conv => whnf); first | refine stp ?_ | with_reducible refine Z05 (fun h => ?_) (fun h => ?_))
 conv => whnf
 refine ⟨Nat, (fun i => i <= ds.length /\ noD s (ds.take i) = true), (fun i => [(0, .rs ds.length 3 (dcC ds)), (1, .func (.func 87) [] [.ptr 0 0]), (7, .int .i64 ds.length), (8, .int .i64 i)]), (fun _ => nmH s), (fun i => ds.length - i), ⟨0, ⟨Nat.zero_le _, rfl⟩, FgLK.mk [0] rfl rfl ?_ ⟨⟨rfl, rfl, rfl, rfl, BodyGe.pre (rest := []) rfl rfl⟩, trivial⟩ rfl⟩, ?_⟩
 · (repeat (first | exact trivial | refine stw ?_))
 rintro i ⟨hi, hno⟩
 dsimp only
 by_cases hlt : i < ds.length
 · have e1 : decide ((i : Int) < (ds.length : Int)) = true := by simpa using hlt
   have hx := dc3 ds i hlt
   have hq := q1 ds[i]
   have hat := ZgH s ds 0 i hlt hno
   have hnx := Zb8 s ds i hlt hno
   rw [Nat.zero_add] at hat
   cases hr : ds[i].name == s with
   | true =>
    rw [hr] at hq
    have hat := hat hr
    have hat : Z0K ds s = (i : Int) := hat
    rw [hat]
    generalize ds[i] = d at *
    repeat' ((conv => whnf); first | (refine exI hx ?_) | (with_reducible refine ixJ i rfl ?_ ?_; (focus (omega))) | (refine exI hq ?_) | (first | refine stp ?_ | with_reducible refine Z05 (fun h => ?_) (fun h => ?_)))
    all_goals first | rfl | exact ⟨rfl, rfl⟩ | exact ⟨rfl, rfl, rfl⟩
   | false =>
    rw [hr] at hq
    have hnx2 := hnx hr
    clear hnx
    generalize ds[i] = d at *
    repeat' ((conv => whnf); first | (refine exI hx ?_) | (with_reducible refine ixJ i rfl ?_ ?_; (focus (omega))) | (refine exI hq ?_) | (first | refine stp ?_ | with_reducible refine Z05 (fun h => ?_) (fun h => ?_)))
    conv => whnf
    refine ⟨i + 1, ⟨hlt, hnx2⟩, by show ds.length - (i + 1) < ds.length - i; omega, FgLK.mk [0] rfl rfl ?_ ⟨⟨rfl, rfl, rfl, rfl, BodyGe.pre (rest := []) rfl rfl⟩, trivial⟩ rfl⟩
    (repeat (first | exact trivial | refine stw ?_))
 · have e1 : decide ((i : Int) < (ds.length : Int)) = false := by simpa using hlt
   have hi2 : i = ds.length := by have := hi; omega
   subst hi2
   rw [List.take_length] at hno
   have hat : Z0K ds s = -1 := Zbs s ds 0 hno
   rw [hat]
   repeat' ((conv => whnf); first | refine stp ?_ | with_reducible refine Z05 (fun h => ?_) (fun h => ?_))
   all_goals first | rfl | exact ⟨rfl, rfl⟩ | exact ⟨rfl, rfl, rfl⟩
theorem Zbr (ds : List Dc) (s : List UInt8) (hl : ds.length <= 9223372036854775807) : ValOK Tryz.prog gl 49 [.rs ds.length 3 (dcC ds), .str s] (.int .i64 (Z0K ds s)) := by
 obtain ⟨O, hO, ⟨p1, -⟩, -⟩ := Z9o (P := Tryz.prog) (gl := gl) [{ I := Unit, f := 86, G := fun _ => True, A := fun _ => [.rs ds.length 3 (dcC ds), .func (.func 87) [] [.ptr 0 0]], H := fun _ => nmH s, R := fun _ => .int .i64 (Z0K ds s), O := fun _ => nmH s, body := (by kernel_rfl), inj := (fun _ _ _ _ _ _ => ⟨rfl, rfl⟩), ok := (fun _ _ => Zdt ds s hl) }] [] rfl
 have q1 := p1 () trivial
 clear p1
 refine Z15 follows noNum hO Tryz.func49 rfl ?_
 repeat' ((conv => whnf); first | (refine exI q1 ?_) | (first | refine stp ?_ | with_reducible refine Z05 (fun h => ?_) (fun h => ?_)))
 all_goals rfl
end Go.Proofs.YtbaoadpoknhhoaaGreatDoor.lex
end

section
namespace Go.Proofs.YtbaoadpoknhhoaaGreatDoor.runLives
open Go.RowKit Go.Abs
def ZkR : List AV := [.int .u8 (.ofNat 0), .int .u8 (.ofNat 1), .int .u8 (.ofNat 28), .int .u8 (.ofNat 2), .int .u8 (.ofNat 29), .int .u8 (.ofNat 14), .int .u8 (.ofNat 24),
 .int .u8 (.ofNat 3), .int .u8 (.ofNat 30), .int .u8 (.ofNat 22), .int .u8 (.ofNat 20), .int .u8 (.ofNat 15), .int .u8 (.ofNat 25),
 .int .u8 (.ofNat 17), .int .u8 (.ofNat 4), .int .u8 (.ofNat 8), .int .u8 (.ofNat 31), .int .u8 (.ofNat 27), .int .u8 (.ofNat 13), .int .u8 (.ofNat 23),
 .int .u8 (.ofNat 21), .int .u8 (.ofNat 19), .int .u8 (.ofNat 16), .int .u8 (.ofNat 7), .int .u8 (.ofNat 26), .int .u8 (.ofNat 12),
 .int .u8 (.ofNat 18), .int .u8 (.ofNat 6), .int .u8 (.ofNat 11), .int .u8 (.ofNat 5), .int .u8 (.ofNat 10), .int .u8 (.ofNat 9)]
def ZkQ : List AV := [.int .u8 (.ofNat 0), .int .u8 (.ofNat 1), .int .u8 (.ofNat 56), .int .u8 (.ofNat 2), .int .u8 (.ofNat 57), .int .u8 (.ofNat 49), .int .u8 (.ofNat 28),
 .int .u8 (.ofNat 3), .int .u8 (.ofNat 61), .int .u8 (.ofNat 58), .int .u8 (.ofNat 42), .int .u8 (.ofNat 50), .int .u8 (.ofNat 38),
 .int .u8 (.ofNat 29), .int .u8 (.ofNat 17), .int .u8 (.ofNat 4), .int .u8 (.ofNat 62), .int .u8 (.ofNat 47), .int .u8 (.ofNat 59),
 .int .u8 (.ofNat 36), .int .u8 (.ofNat 45), .int .u8 (.ofNat 43), .int .u8 (.ofNat 51), .int .u8 (.ofNat 22), .int .u8 (.ofNat 53),
 .int .u8 (.ofNat 39), .int .u8 (.ofNat 33), .int .u8 (.ofNat 30), .int .u8 (.ofNat 24), .int .u8 (.ofNat 18), .int .u8 (.ofNat 12),
 .int .u8 (.ofNat 5), .int .u8 (.ofNat 63), .int .u8 (.ofNat 55), .int .u8 (.ofNat 48), .int .u8 (.ofNat 27), .int .u8 (.ofNat 60),
 .int .u8 (.ofNat 41), .int .u8 (.ofNat 37), .int .u8 (.ofNat 16), .int .u8 (.ofNat 46), .int .u8 (.ofNat 35), .int .u8 (.ofNat 44),
 .int .u8 (.ofNat 21), .int .u8 (.ofNat 52), .int .u8 (.ofNat 32), .int .u8 (.ofNat 23), .int .u8 (.ofNat 11), .int .u8 (.ofNat 54),
 .int .u8 (.ofNat 26), .int .u8 (.ofNat 40), .int .u8 (.ofNat 15), .int .u8 (.ofNat 34), .int .u8 (.ofNat 20), .int .u8 (.ofNat 31),
 .int .u8 (.ofNat 10), .int .u8 (.ofNat 25), .int .u8 (.ofNat 14), .int .u8 (.ofNat 19), .int .u8 (.ofNat 9), .int .u8 (.ofNat 13), .int .u8 (.ofNat 8),
 .int .u8 (.ofNat 7), .int .u8 (.ofNat 6)]
def ZkP : List AV := [.int .u64 (.ofNat 1), .int .u64 (.ofNat 10), .int .u64 (.ofNat 100), .int .u64 (.ofNat 1000), .int .u64 (.ofNat 10000), .int .u64 (.ofNat 100000),
 .int .u64 (.ofNat 1000000), .int .u64 (.ofNat 10000000), .int .u64 (.ofNat 100000000), .int .u64 (.ofNat 1000000000), .int .u64 (.ofNat 10000000000),
 .int .u64 (.ofNat 100000000000), .int .u64 (.ofNat 1000000000000), .int .u64 (.ofNat 10000000000000), .int .u64 (.ofNat 100000000000000),
 .int .u64 (.ofNat 1000000000000000), .int .u64 (.ofNat 10000000000000000), .int .u64 (.ofNat 100000000000000000),
 .int .u64 (.ofNat 1000000000000000000), .int .u64 (.ofNat 10000000000000000000)]
def ZkO : List AV := [.bool false, .bool false, .int .i64 (.ofNat 0), .bool true, .bool false, .int .i64 (.ofNat 0), .bool false, .bool true, .int .i64 (.ofNat 0),
 .bool false, .bool false, .int .i64 (.ofNat 1), .bool false, .bool false, .int .i64 (.ofNat 1), .bool false, .bool false, .int .i64 (.ofNat 2),
 .bool false, .bool false, .int .i64 (.ofNat 2), .bool false, .bool false, .int .i64 (.ofNat 2), .bool false, .bool false, .int .i64 (.ofNat 2),
 .bool false, .bool false, .int .i64 (.ofNat 2), .bool false, .bool false, .int .i64 (.ofNat 2), .bool false, .bool false, .int .i64 (.ofNat 2),
 .bool false, .bool false, .int .i64 (.ofNat 2), .bool false, .bool false, .int .i64 (.ofNat 2), .bool false, .bool false, .int .i64 (.ofNat 2),
 .bool false, .bool false, .int .i64 (.ofNat 2), .bool false, .bool false, .int .i64 (.ofNat 2)]
def ZkN : List AV := [.bool false, .bool false, .bool false, .int .i64 (.ofNat 0), .bool false, .bool false, .bool true, .bool false, .bool false, .int .i64 (.ofNat 1),
 .bool false, .bool false, .bool true, .bool true, .bool true, .int .i64 (.ofNat 0), .bool false, .bool false, .bool false, .bool true, .bool true,
 .int .i64 (.ofNat 1), .bool false, .bool false, .bool true, .bool true, .bool true, .int .i64 (.ofNat 2), .bool false, .bool false, .bool true,
 .bool true, .bool true, .int .i64 (.ofNat 1), .bool false, .bool false, .bool true, .bool true, .bool true, .int .i64 (.ofNat 1), .bool false,
 .bool false, .bool false, .bool false, .bool true, .int .i64 (.ofNat 0), .bool false, .bool false, .bool false, .bool false, .bool false,
 .int .i64 (.ofNat 1), .bool false, .bool false, .bool false, .bool false, .bool false, .int .i64 (.ofNat 1), .bool false, .bool false, .bool false,
 .bool false, .bool false, .int .i64 (.ofNat 1), .bool true, .bool true, .bool false, .bool false, .bool false, .int .i64 (.ofNat 1), .bool true,
 .bool false]
def ZkM : List AV := [.bool false, .bool false, .bool false, .bool false, .bool false, .bool false, .bool false, .bool false, .bool false, .bool false, .bool false,
 .bool false, .bool false, .bool false, .bool false, .bool true, .bool true, .bool true, .bool false, .bool false, .bool true, .bool false, .bool true,
 .bool true, .bool false, .bool true, .bool false, .bool true, .bool false, .bool false, .bool true, .bool true, .bool true, .bool true, .bool true,
 .bool false, .bool false, .bool true, .bool true, .bool true, .bool true, .bool true, .bool false, .bool false, .bool true, .bool true, .bool true,
 .bool true, .bool true, .bool false, .bool false, .bool false, .bool true, .bool true, .bool true, .bool true]
def ZkL : List AV := [.bool false, .bool false, .bool false, .bool false, .int .i64 (.ofNat 0), .bool true, .bool false, .bool false, .bool false, .int .i64 (.ofNat 1),
 .bool true, .bool true, .bool true, .bool false, .int .i64 (.ofNat 0), .bool false, .bool true, .bool true, .bool false, .int .i64 (.ofNat 1),
 .bool true, .bool true, .bool true, .bool false, .int .i64 (.ofNat 2), .bool true, .bool true, .bool true, .bool false, .int .i64 (.ofNat 1),
 .bool true, .bool true, .bool true, .bool false, .int .i64 (.ofNat 1), .bool false, .bool false, .bool true, .bool false, .int .i64 (.ofNat 0),
 .bool false, .bool false, .bool false, .bool false, .int .i64 (.ofNat 1), .bool false, .bool false, .bool false, .bool false, .int .i64 (.ofNat 1),
 .bool false, .bool false, .bool false, .bool true, .int .i64 (.ofNat 0), .bool false, .bool false, .bool false, .bool true, .int .i64 (.ofNat 1),
 .bool false, .bool false, .bool false, .bool false, .int .i64 (.ofNat 0), .bool false, .bool false, .bool false, .bool false, .int .i64 (.ofNat 0)]
def gl : Glob := fun g => if Nat.beq g 6 then some ZkR else if Nat.beq g 7 then some ZkQ else if Nat.beq g 4 then some ZkP else if Nat.beq g 1 then some ZkO else if Nat.beq g 2 then some ZkN else if Nat.beq g 3 then some ZkM else if Nat.beq g 0 then some ZkL else none
set_option maxRecDepth 100000
theorem follows : Tryz.prog.follows .mixedOrders = true := by kernel_rfl
theorem Z8j : (Tryz.prog.funcs.toList.all fun fn => !(fn.name == "runtime.NumGoroutine")) = true := by kernel_rfl
theorem noNum : NoNum Tryz.prog := ⟨fun g fn h => by
 have h1 := List.all_eq_true.1 Z8j fn (Array.mem_toList_iff.2 (Array.mem_of_getElem? h))
 simpa using h1, of_decide_eq_true (by kernel_rfl)⟩
theorem n0 : Tryz.prog.globalNamed "math/bits.deBruijn32tab" = some 6 := by kernel_rfl
theorem ty0 : (Tryz.prog.globals[6]?).map (·.type) = some 256 := by kernel_rfl
theorem av0 : Zcv Tryz.prog 6 256 (Rows.laid_math_bits_deBruijn32tab (H := Unit)) = some ZkR := by kernel_rfl
theorem n1 : Tryz.prog.globalNamed "math/bits.deBruijn64tab" = some 7 := by kernel_rfl
theorem ty1 : (Tryz.prog.globals[7]?).map (·.type) = some 257 := by kernel_rfl
theorem av1 : Zcv Tryz.prog 6 257 (Rows.laid_math_bits_deBruijn64tab (H := Unit)) = some ZkQ := by kernel_rfl
theorem n2 : Tryz.prog.globalNamed "internal/strconv.uint64pow10" = some 4 := by kernel_rfl
theorem ty2 : (Tryz.prog.globals[4]?).map (·.type) = some 226 := by kernel_rfl
theorem av2 : Zcv Tryz.prog 6 226 (Rows.laid_internal_strconv_uint64pow10 (H := Unit)) = some ZkP := by kernel_rfl
theorem n3 : Tryz.prog.globalNamed "cantilever/ast.shapes" = some 1 := by kernel_rfl
theorem ty3 : (Tryz.prog.globals[1]?).map (·.type) = some 194 := by kernel_rfl
theorem av3 : Zcv Tryz.prog 6 194 (Rows.laid_cantilever_ast_shapes (H := Unit)) = some ZkO := by kernel_rfl
theorem n4 : Tryz.prog.globalNamed "cantilever/ast.forms" = some 2 := by kernel_rfl
theorem ty4 : (Tryz.prog.globals[2]?).map (·.type) = some 197 := by kernel_rfl
theorem av4 : Zcv Tryz.prog 6 197 (Rows.laid_cantilever_ast_forms (H := Unit)) = some ZkN := by kernel_rfl
theorem n5 : Tryz.prog.globalNamed "cantilever/check.may" = some 3 := by kernel_rfl
theorem ty5 : (Tryz.prog.globals[3]?).map (·.type) = some 199 := by kernel_rfl
theorem av5 : Zcv Tryz.prog 6 199 (Rows.laid_cantilever_check_may (H := Unit)) = some ZkM := by kernel_rfl
theorem n6 : Tryz.prog.globalNamed "cantilever/ir.shapes" = some 0 := by kernel_rfl
theorem ty6 : (Tryz.prog.globals[0]?).map (·.type) = some 168 := by kernel_rfl
theorem av6 : Zcv Tryz.prog 6 168 (Rows.laid_cantilever_ir_shapes (H := Unit)) = some ZkL := by kernel_rfl
theorem globs {W : World} (h : laidMetH Tryz.prog [("math/bits.deBruijn32tab", Rows.laid_math_bits_deBruijn32tab), ("math/bits.deBruijn64tab", Rows.laid_math_bits_deBruijn64tab), ("internal/strconv.uint64pow10", Rows.laid_internal_strconv_uint64pow10), ("cantilever/ast.shapes", Rows.laid_cantilever_ast_shapes), ("cantilever/ast.forms", Rows.laid_cantilever_ast_forms), ("cantilever/check.may", Rows.laid_cantilever_check_may), ("cantilever/ir.shapes", Rows.laid_cantilever_ir_shapes)] W) : GlOK gl (snap0 W) := by
 have h' : laidMet Tryz.prog [("math/bits.deBruijn32tab", Rows.laid_math_bits_deBruijn32tab), ("math/bits.deBruijn64tab", Rows.laid_math_bits_deBruijn64tab), ("internal/strconv.uint64pow10", Rows.laid_internal_strconv_uint64pow10), ("cantilever/ast.shapes", Rows.laid_cantilever_ast_shapes), ("cantilever/ast.forms", Rows.laid_cantilever_ast_forms), ("cantilever/check.may", Rows.laid_cantilever_check_may), ("cantilever/ir.shapes", Rows.laid_cantilever_ir_shapes)] W := h
 obtain ⟨_, hv, _⟩ := id h'
 obtain ⟨m0, _⟩ := Z1M n0 ty0 av0 hv
 have h' := laidMet.tail h'
 obtain ⟨_, hv, _⟩ := id h'
 obtain ⟨m1, _⟩ := Z1M n1 ty1 av1 hv
 have h' := laidMet.tail h'
 obtain ⟨_, hv, _⟩ := id h'
 obtain ⟨m2, _⟩ := Z1M n2 ty2 av2 hv
 have h' := laidMet.tail h'
 obtain ⟨_, hv, _⟩ := id h'
 obtain ⟨m3, _⟩ := Z1M n3 ty3 av3 hv
 have h' := laidMet.tail h'
 obtain ⟨_, hv, _⟩ := id h'
 obtain ⟨m4, _⟩ := Z1M n4 ty4 av4 hv
 have h' := laidMet.tail h'
 obtain ⟨_, hv, _⟩ := id h'
 obtain ⟨m5, _⟩ := Z1M n5 ty5 av5 hv
 have h' := laidMet.tail h'
 obtain ⟨_, hv, _⟩ := id h'
 obtain ⟨m6, _⟩ := Z1M n6 ty6 av6 hv
 intro g cs hg
 unfold gl at hg
 split at hg
 · rename_i e; have := Nat.eq_of_beq_eq_true e; subst this; simp at hg; subst hg; exact m0
 split at hg
 · rename_i e; have := Nat.eq_of_beq_eq_true e; subst this; simp at hg; subst hg; exact m1
 split at hg
 · rename_i e; have := Nat.eq_of_beq_eq_true e; subst this; simp at hg; subst hg; exact m2
 split at hg
 · rename_i e; have := Nat.eq_of_beq_eq_true e; subst this; simp at hg; subst hg; exact m3
 split at hg
 · rename_i e; have := Nat.eq_of_beq_eq_true e; subst this; simp at hg; subst hg; exact m4
 split at hg
 · rename_i e; have := Nat.eq_of_beq_eq_true e; subst this; simp at hg; subst hg; exact m5
 split at hg
 · rename_i e; have := Nat.eq_of_beq_eq_true e; subst this; simp at hg; subst hg; exact m6
 cases hg
end Go.Proofs.YtbaoadpoknhhoaaGreatDoor.runLives
end

section
namespace Go.Proofs.YtbaoadpoknhhoaaGreatDoor.lex
open Go.Abs Go.RowKit
set_option maxRecDepth 100000
set_option maxHeartbeats 4000000
def Z6X (k o : Int) (p : Bool) : Int :=
 if k < 2 \/ 7 < k then 2 else if o < 1 \/ 6 < o then 7
 else if k = 7 then (if o = 1 \/ o = 2 then 7 else 0)
 else if ((k = 4 \/ k = 5 \/ k = 6) /\ p = true) \/ p ≠ decide (o = 1) then 8
 else if (k = 2 /\ (o = 4 \/ o = 5)) \/ (k = 3 /\ (o = 3 \/ o = 5)) then 7 else 0
theorem Zdl {k : Int} (h : ¬ (k < 2 \/ 7 < k)) : k = 2 \/ k = 3 \/ k = 4 \/ k = 5 \/ k = 6 \/ k = 7 := by omega
theorem Zdb {o : Int} (h : ¬ (o < 1 \/ 6 < o)) : o = 1 \/ o = 2 \/ o = 3 \/ o = 4 \/ o = 5 \/ o = 6 := by omega
theorem Zhw (k o : Int) (p : Bool) : ValOK Tryz.prog runLives.gl 90 [.int .i64 k, .int .i64 o, .bool p] (.int .i64 (Z6X k o p)) := by
 refine Z15 follows noNum Z1n Tryz.func90 rfl ?_
 by_cases hk : k < 2 \/ 7 < k
 · have e : Z6X k o p = 2 := by unfold Z6X; rw [if_pos hk]
   rw [e]
   rcases hk with hk | hk
   · have e1 : decide (k < 2) = true := by simpa using hk
     repeat' ((conv => whnf); first | refine stp ?_ | with_reducible refine Z05 (fun h => ?_) (fun h => ?_))
     all_goals rfl
   · have e1 : decide (k < 2) = false := by simp; omega
     have e2 : decide (7 < k) = true := by simpa using hk
     repeat' ((conv => whnf); first | refine stp ?_ | with_reducible refine Z05 (fun h => ?_) (fun h => ?_))
     all_goals rfl
 · have e1 : decide (k < 2) = false := by simp; omega
   have e2 : decide (7 < k) = false := by simp; omega
   by_cases ho : o < 1 \/ 6 < o
   · have e : Z6X k o p = 7 := by unfold Z6X; rw [if_neg hk, if_pos ho]
     rw [e]
     rcases ho with ho | ho
     · have e3 : decide (o < 1) = true := by simpa using ho
       repeat' ((conv => whnf); first | refine stp ?_ | with_reducible refine Z05 (fun h => ?_) (fun h => ?_))
       all_goals rfl
     · have e3 : decide (o < 1) = false := by simp; omega
       have e4 : decide (6 < o) = true := by simpa using ho
       repeat' ((conv => whnf); first | refine stp ?_ | with_reducible refine Z05 (fun h => ?_) (fun h => ?_))
       all_goals rfl
   · rcases Zdl hk with rfl | rfl | rfl | rfl | rfl | rfl
     all_goals rcases Zdb ho with rfl | rfl | rfl | rfl | rfl | rfl
     all_goals cases p
     all_goals clear e1 e2 hk ho
     all_goals (repeat' ((conv => whnf); first | refine stp ?_ | with_reducible refine Z05 (fun h => ?_) (fun h => ?_)))
     all_goals rfl
end Go.Proofs.YtbaoadpoknhhoaaGreatDoor.lex
end

section
namespace Go.Proofs.YtbaoadpoknhhoaaGreatDoor.lex
open Go.Abs Go.RowKit
set_option maxRecDepth 100000
set_option maxHeartbeats 4000000
def Z3a (f : Nat) (xs : List AV) : Option AV := match f with
 | 82 => match xs with | [.str s, .bool m] => if s.length <= 9223372036854775807 then some (.bool (if m then Z49 s else s == [])) else none | _ => none
 | _ => none
theorem Z0i {gl : Glob} : OrcSound Tryz.prog gl (Z9V Z3a) := Z1F fun f xs r h => by
 unfold Z3a at h
 split at h
 · split at h <;> try (cases h; done)
   split at h <;> cases h
   rename_i hs
   exact ⟨rfl, Z9g _ hs _⟩
 · cases h
theorem Z8Q : Z49 [] = false := rfl
theorem ZcZ (e : Ex) (rest : List AV) (d : Int) (hok : okE e) : ValOK Tryz.prog runLives.gl 84 [.rp (e.cells ++ rest), .int .i64 d] (.bool (Zk9 e)) := by
 obtain ⟨⟨hn1, hn2⟩, _⟩ := Z5F hok
 have hb : Z09 Tryz.prog 82 = true := by kernel_rfl
 have key : ∀ (op num : Int) (name : List UInt8) (v : AV) (n : Nat), (∃ cs, v = .rs n 4 cs) -> name.length <= 9223372036854775807 -> ValOK Tryz.prog runLives.gl 84 [.rp (.int .i64 op :: .int .i64 num :: .str name :: v :: rest), .int .i64 d] (.bool (Zf0 op num name n)) := by
  intro op num name v n hv hname
  have q : ∀ (m : Bool) (H : Z00), Z0e Tryz.prog (Z9V Z3a) H 82 [.str name, .bool m] = some (.bool (if m then Z49 name else name == []), H) := fun m H => Z8y hb rfl (by simp only [Z3a]; rw [if_pos hname])
  by_cases h1 : op < 1
  · have e1 : decide (op < 1) = true := by simpa using h1
    have hk : Z8m op = -1 := by unfold Z8m; rw [if_neg (by omega), if_neg (by omega), if_neg (by omega)]
    obtain ⟨cs, rfl⟩ := hv
    all_goals
     refine Z15 follows noNum Z0i Tryz.func84 rfl ?_
     repeat' ((conv => whnf); first | (refine exI (q _ _) ?_) | (first | refine stp ?_ | with_reducible refine Z05 (fun h => ?_) (fun h => ?_)))
    all_goals (show AV.bool _ = AV.bool _; congr 1; unfold Zf0; rw [hk])
    all_goals (first | rfl | (symm; simp; intros; omega))
  · have e1 : decide (op < 1) = false := by simpa using h1
    by_cases h2 : 16 < op
    · have e2 : decide (op > 16) = true := by simpa using h2
      have hk : Z8m op = -1 := by unfold Z8m; rw [if_neg (by omega), if_neg (by omega), if_neg (by omega)]
      obtain ⟨cs, rfl⟩ := hv
      all_goals
       refine Z15 follows noNum Z0i Tryz.func84 rfl ?_
       repeat' ((conv => whnf); first | (refine exI (q _ _) ?_) | (first | refine stp ?_ | with_reducible refine Z05 (fun h => ?_) (fun h => ?_)))
      all_goals (show AV.bool _ = AV.bool _; congr 1; unfold Zf0; rw [hk])
      all_goals (first | rfl | (symm; simp; intros; omega))
    · clear e1
      have hop : op = 1 \/ op = 2 \/ op = 3 \/ op = 4 \/ op = 5 \/ op = 6 \/ op = 7 \/ op = 8 \/ op = 9 \/ op = 10 \/ op = 11 \/ op = 12 \/ op = 13 \/ op = 14 \/ op = 15 \/ op = 16 := by omega
      clear h1 h2
      rcases hop with rfl | rfl | rfl | rfl | rfl | rfl | rfl | rfl | rfl | rfl | rfl | rfl | rfl | rfl | rfl | rfl
      all_goals (obtain ⟨cs, rfl⟩ := hv)
      all_goals (refine Z15 follows noNum Z0i Tryz.func84 rfl ?_)
      all_goals (repeat' ((conv => whnf); first | (refine exI (q _ _) ?_) | (first | refine stp ?_ | with_reducible refine Z05 (fun h => ?_) (fun h => ?_))))
      all_goals (first | rfl | (show AV.bool _ = AV.bool _; clear q hb hok hn1 hn2; simp_all [Zf0, Z8m]; done) | (show AV.bool _ = AV.bool _; clear q hb hok hn1 hn2; simp_all [Zf0, Z8m]; omega) | skip)
      all_goals (clear q hb hok hn1 hn2)
      all_goals (show AV.bool _ = AV.bool _; rw [AV.bool.injEq, Bool.eq_iff_iff])
      all_goals (first | (simp_all [Zf0, Z8m, Z8Q]; done) | (simp_all [Zf0, Z8m, Z8Q]; omega))
 obtain ⟨op, num, name, kids⟩ := e
 simp only [Ex.cells]; exact key op num name _ kids.length ⟨_, rfl⟩ hn1
end Go.Proofs.YtbaoadpoknhhoaaGreatDoor.lex
end

section
namespace Go.Proofs.YtbaoadpoknhhoaaGreatDoor.lex
open Go.Abs Go.RowKit
set_option maxRecDepth 100000
set_option maxHeartbeats 4000000
theorem Zj4 {sn : Z0d} {ι : Z0a} {W : World} (h : R sn ι [] W) : ι = noI := by
 funext b
 cases hb : ι b with
 | none => rfl
 | some p => have := (h.dom b).2 ⟨p, hb⟩; simp at this
theorem Z7y {P : Program} {gl : Glob} {f : Nat} {args : List AV} {r : AV} (h : ValOK P gl f args r) (hp : plain r = true) : Z10 P gl f args [] r [] := by
 intro sn ι W cargs hg hR ha
 have := Zj4 hR; subst this
 refine (h sn W cargs hg hR ha).monoY ?_
 rintro e W' ⟨v, rfl, hx, hv⟩
 exact ⟨v, sn, noI, rfl, Z4q hp hv, Stp.ext hR hx⟩
theorem ZbT {P : Program} {gl : Glob} {f : Nat} {args : List AV} {r : AV} (h : Z10 P gl f args [] r []) (hp : plain r = true) (hb : (P.funcs[f]?).isSome = true := by kernel_rfl) : ValOK P gl f args r := by
 intro sn W cargs hg hR ha
 obtain ⟨fn, hfn⟩ := Option.isSome_iff_exists.1 hb
 refine ((h sn noI W cargs hg hR ha).calls hfn).mono ?_
 rintro e W' ⟨v, sn', ι', rfl, hv, hs⟩
 exact ⟨v, rfl, ⟨fun c hc => hs.frame c hc fun b o p hb => by simp at hb, hs.size, hs.os, hs.tape, hs.output⟩, Z4q hp hv⟩
def rE (e : Ex) (_ : Int) (s : Unit) : Bool × Unit := (Zk9 e, s)
mutual
theorem Zko : ∀ (e : Ex) (d : Int) (s : Unit), goE rE e d s = (ZaY e, ())
 | .mk o n s k, d, t => by
  have := goL_r k (d + 1) ()
  simp only [goE, rE, Zk9, Ex.op, Ex.num, Ex.name, Ex.kids, ZaY, this]
  cases Zf0 o n s k.length <;> rfl
theorem goL_r : ∀ (l : List Ex) (d : Int) (s : Unit), goL rE l d s = (rightL l, ())
 | [], d, s => by simp only [goL, rightL]
 | e :: l, d, s => by
  simp only [goL, Zko e d s, goL_r l d (), rightL]
  cases ZaY e <;> rfl
end
def cE (_ : Ex) (d : Int) (n : Nat) : Bool × Nat := (decide (((n + 1 : Nat) : Int) <= 2000) && decide (d <= 32), n + 1)
def Cnt (r : Bool × Nat) (n a : Nat) (D : Int) : Prop := (r.1 = true ↔ n + a <= 2000 /\ D <= 33) /\ (r.1 = true -> r.2 = n + a)
theorem Z2S {r : Bool × Nat} {f : Nat -> Bool × Nat} {n a b : Nat} {D1 D2 : Int} (h1 : Cnt r n a D1) (h2 : n + a <= 2000 -> D1 <= 33 -> Cnt (f (n + a)) (n + a) b D2) : Cnt (Z0F r f) n (a + b) (max D1 D2) := by
 obtain ⟨g1, g2⟩ := h1
 unfold Z0F
 by_cases h : r.1 = true
 · rw [if_pos h, g2 h]
   have h3 := g1.1 h
   obtain ⟨k1, k2⟩ := h2 h3.1 h3.2
   refine ⟨?_, fun h4 => by rw [k2 h4]; omega⟩
   rw [k1]
   constructor <;> (intro h; omega)
 · rw [if_neg h]
   refine ⟨⟨fun h => (by cases h), fun h3 => absurd (g1.2 (by omega)) h⟩, fun h => (by cases h)⟩
theorem Zaw (d : Int) (n : Nat) : Cnt (decide (((n + 1 : Nat) : Int) <= 2000) && decide (d <= 32), n + 1) n 1 (d + 1) := by
 refine ⟨?_, fun _ => rfl⟩
 simp only [Bool.and_eq_true, decide_eq_true_eq]
 constructor <;> (intro h; omega)
theorem Cnt.to {r : Bool × Nat} {n a b : Nat} {D E : Int} (h : Cnt r n a D) (e1 : a = b) (e2 : D = E) : Cnt r n b E := by subst e1; subst e2; exact h
mutual
theorem Zkp : ∀ (e : Ex) (d : Int) (n : Nat), Cnt (goE cE e d n) n (Z4l e) (d + Zi6 e)
 | .mk o num s k, d, n => by
  have : goE cE (.mk o num s k) d n = Z0F (cE (.mk o num s k) d n) fun n => goL cE k (d + 1) n := by simp only [goE, Z0F]
  rw [this]
  exact (Z2S (Zaw d n) fun h1 h2 => goL_c k (d + 1) (n + 1) h1 h2).to (by simp only [Z4l]) (by simp only [Zi6]; omega)
theorem goL_c : ∀ (l : List Ex) (d : Int) (n : Nat), n <= 2000 -> d <= 33 -> Cnt (goL cE l d n) n (sizeL l) (d + deepL l)
 | [], d, n, h1, h2 => by simp only [goL, sizeL, deepL]; exact ⟨⟨fun _ => by omega, fun _ => rfl⟩, fun _ => rfl⟩
 | e :: l, d, n, h1, h2 => by
  have : goL cE (e :: l) d n = Z0F (goE cE e d n) fun n => goL cE l d n := by simp only [goL, Z0F]
  rw [this]
  exact (Z2S (Zkp e d n) fun h1 _ => goL_c l d _ h1 h2).to (by simp only [sizeL]) (by simp only [deepL]; omega)
end
end Go.Proofs.YtbaoadpoknhhoaaGreatDoor.lex
end

section
namespace Go.Proofs.YtbaoadpoknhhoaaGreatDoor.lex
open Go.Abs Go.RowKit
set_option maxRecDepth 100000
set_option maxHeartbeats 4000000
def rgE : Nat -> List (List UInt8) -> List (AV × AV × Nat)
 | _, [] => []
 | i, s :: l => (.str s, .agg [], i) :: rgE (i + 1) l
def rgH (n : List (List UInt8)) : Z00 := [⟨true, 0, 0, .map (rgE 0 n) n.length⟩, ⟨true, 1, 0, .cells [.map 0] 152⟩, ⟨true, 2, 0, .cells [.func (.func 91) [] [.ptr 1 0]] 90⟩]
theorem Zd6 : ∀ {a b : List (List UInt8)} {i : Nat}, rgE i a = rgE i b -> a = b
 | [], [], _, _ => rfl
 | [], _ :: _, _, h => by simp [rgE] at h
 | _ :: _, [], _, h => by simp [rgE] at h
 | x :: a, y :: b, i, h => by
  simp only [rgE, List.cons.injEq, Prod.mk.injEq, AV.str.injEq, and_true] at h
  rw [h.1, Zd6 h.2]
theorem Zhh {a b : List (List UInt8)} (h : rgH a = rgH b) : a = b := by
 simp only [rgH, List.cons.injEq, AObj.mk.injEq, ABody.map.injEq, and_true, true_and] at h
 exact Zd6 h.1
theorem Zd7 (s : List UInt8) : ∀ (a : List (List UInt8)) (i : Nat), rgE i (a ++ [s]) = rgE i a ++ [(.str s, .agg [], i + a.length)]
 | [], i => rfl
 | x :: a, i => by
  simp only [List.cons_append, rgE, Zd7 s a (i + 1), List.length_cons]
  rw [show i + 1 + a.length = i + (a.length + 1) by omega]
theorem Zd2 (s : List UInt8) : ∀ (a : List (List UInt8)) (i j : Nat), a.contains s = false -> Z3n .string (.str s) (rgE i a) j = some none
 | [], i, j, h => rfl
 | x :: a, i, j, h => by
  simp only [List.contains_cons, Bool.or_eq_false_iff] at h
  simp only [rgE, Z3n, Z6R, h.1]
  exact Zd2 s a (i + 1) (j + 1) h.2
theorem ZaZ (s : List UInt8) : ∀ (a : List (List UInt8)) (i j : Nat), a.contains s = true -> ∃ k v, Z3n .string (.str s) (rgE i a) j = some (some (j + k, v)) /\ Zfu (.str s) (.agg []) k (rgE i a) = rgE i a
 | [], i, j, h => by simp at h
 | x :: a, i, j, h => by
  simp only [List.contains_cons, Bool.or_eq_true] at h
  cases hx : (s == x) with
  | true =>
   refine ⟨0, .agg [], by simp only [rgE, Z3n, Z6R, hx]; rfl, ?_⟩
   have : s = x := by simpa using hx
   subst this; rfl
  | false =>
   rw [hx] at h
   obtain ⟨k, v, h1, h2⟩ := ZaZ s a (i + 1) (j + 1) (by simpa using h)
   refine ⟨k + 1, v, ?_, ?_⟩
   · simp only [rgE, Z3n, Z6R, hx]; rw [h1, show j + 1 + k = j + (k + 1) by omega]
   · simp only [rgE, Zfu, h2]
def rgP (s : List UInt8) (n : List (List UInt8)) : List (List UInt8) := if n.contains s = true then n else n ++ [s]
theorem Zgl (s : List UInt8) (n : List (List UInt8)) : Z1T Tryz.prog 152 (.map 0) (.str s) (.agg []) (rgH n) = some (rgH (rgP s n)) := by
 have hd : Z2i Tryz.prog 152 = some (.string, 153) := by kernel_rfl
 have hw : Z3o 0 0 (rgH n) = rgH n := ZcJ (o := ⟨true, 0, 0, .map (rgE 0 n) n.length⟩) rfl rfl
 unfold Z1T
 simp only [hd]
 have h0 : (rgH n)[0]? = some ⟨true, 0, 0, .map (rgE 0 n) n.length⟩ := rfl
 simp only [h0, hw]
 cases h : n.contains s with
 | false =>
  rw [Zd2 s n 0 0 h]
  simp only [rgP, h]
  rw [if_neg (by decide)]
  simp only [rgH, Zd7, List.set_cons_zero, Nat.zero_add, List.length_append, List.length_cons, List.length_nil]
 | true =>
  obtain ⟨k, v, h1, h2⟩ := ZaZ s n 0 0 h
  rw [h1]
  simp only [rgP, h, if_true, Nat.zero_add, h2]
  rfl
theorem Zb0 : ∀ (n : List (List UInt8)) (i : Nat), Z3H (.map (rgE i n) i) [] = []
 | [], i => rfl
 | x :: n, i => Zb0 n (i + 1)
theorem Zgm (m : List Nat) : ∀ (n : List (List UInt8)) (i : Nat), EGe m (rgE i n) (rgE i n)
 | [], i => trivial
 | x :: n, i => ⟨Wk.noref rfl, Wk.noref rfl, rfl, Zgm m n (i + 1)⟩
theorem Zd3 (s s' : List (List UInt8)) : Zcm 3 (rgH s) (rgH s') = true := by
 have h : ∀ c, Z3H (.map (rgE 0 s') c) [] = [] := fun c => Zb0 s' 0
 simp only [rgH, Zcm, h]; rfl
def rgI (d : Int) (_ : List (List UInt8)) (m : Nat) : Prop := 0 <= d /\ d + (m : Int) <= 576460752303423488
def rgN (s : List UInt8) (n : List (List UInt8)) : List (List UInt8) := cond (s == []) n (rgP s n)
theorem Zih (x : Ex) (rest : List AV) : tk 1 ((x.cells ++ rest).drop 0) = some [.int .i64 x.op] := by
 obtain ⟨o, n, s, k⟩ := x
 rfl
theorem Zii (x : Ex) (rest : List AV) : tk 1 ((x.cells ++ rest).drop 2) = some [.str x.name] := by
 obtain ⟨o, n, s, k⟩ := x
 rfl
theorem ZiW (x : St) (rest : List AV) (d : Int) (n : List (List UInt8)) : Z10 Tryz.prog runLives.gl 93 [.rp (x.cells ++ rest), .int .i64 d, .ptr 2 0] (rgH n) (.bool true) (rgH (rgN x.name n)) := by
 have hx := ZjC x rest
 refine Z3c (k := 3) follows noNum (Z1G follows noNum Z0i 3) rfl Tryz.func93 rfl (Z3p (isC := fun _ => false) 3) ?_
 have he := Zd3 n (rgN x.name n)
 have hset := Zgl x.name n
 unfold rgN at he ⊢
 generalize x.name = s at *
 generalize x.cells ++ rest = cs at *
 cases hs : (s == []) with
 | true =>
  rw [hs, cond_true] at he
  rw [cond_true]
  have e1 : (!(s == [])) = false := by rw [hs]; rfl
  repeat' ((conv => whnf); first | (refine exI hx ?_) | (first | refine stp ?_ | with_reducible refine Z05 (fun h => ?_) (fun h => ?_)))
  all_goals (conv => whnf)
  all_goals (exact ⟨rfl, by rw [he]; rfl⟩)
 | false =>
  rw [hs, cond_false] at he
  rw [cond_false]
  have e1 : (!(s == [])) = true := by rw [hs]; rfl
  simp only [rgH] at hset he ⊢
  generalize rgE 0 (rgP s n) = es' at *
  generalize (rgP s n).length = c' at *
  repeat' ((conv => whnf); first | (refine exI hx ?_) | (refine exI hset ?_) | (first | refine stp ?_ | with_reducible refine Z05 (fun h => ?_) (fun h => ?_)))
  all_goals (conv => whnf)
  all_goals (exact ⟨rfl, by rw [he]; rfl⟩)
end Go.Proofs.YtbaoadpoknhhoaaGreatDoor.lex
end

section
namespace Go.Proofs.YtbaoadpoknhhoaaGreatDoor.lex
open Go.Abs Go.RowKit
set_option maxRecDepth 100000
set_option maxHeartbeats 4000000
mutual
def nmE : Ex -> List (List UInt8)
 | .mk o _ s k => (cond (o == 2 && !(s == [])) [s] []) ++ nmL k
def nmL : List Ex -> List (List UInt8)
 | [] => []
 | e :: l => nmE e ++ nmL l
end
mutual
def nmS : St -> List (List UInt8)
 | .mk _ n _ _ x t e => (cond (!(n == [])) [n] []) ++ (nmL x ++ (nmSL t ++ nmSL e))
def nmSL : List St -> List (List UInt8)
 | [] => []
 | x :: l => nmS x ++ nmSL l
end
mutual
theorem Zht : ∀ e : Ex, (nmE e).length <= Z4l e
 | .mk o m s k => by
  have := nmL_len k
  simp only [nmE, Z4l, List.length_append]
  cases (o == 2 && !(s == [])) <;> simp <;> omega
theorem nmL_len : ∀ l : List Ex, (nmL l).length <= sizeL l
 | [] => by simp [nmL]
 | e :: l => by have := Zht e; have := nmL_len l; simp only [nmL, sizeL, List.length_append]; omega
end
mutual
theorem Zhs : ∀ e : St, (nmS e).length <= Z2I e
 | .mk k n lc o x t e => by
  have := nmL_len x; have := nmSL_len t; have := nmSL_len e
  simp only [nmS, Z2I, List.length_append]
  cases (!(n == [])) <;> simp <;> omega
theorem nmSL_len : ∀ l : List St, (nmSL l).length <= sizeSL l
 | [] => by simp [nmSL]
 | e :: l => by have := Zhs e; have := nmSL_len l; simp only [nmSL, sizeSL, List.length_append]; omega
end
mutual
theorem Zj6 : ∀ {e : Ex}, okE e -> ∀ x ∈ nmE e, x.length <= 9223372036854775807
 | .mk o m s k, h, x, hx => by
  have h1 := Z5F h
  simp only [Ex.name, Ex.kids, okN] at h1
  simp only [nmE, List.mem_append] at hx
  rcases hx with hx | hx
  · cases hb : (o == 2 && !(s == [])) with
    | true => rw [hb] at hx; simp at hx; subst hx; exact h1.1.1
    | false => rw [hb] at hx; simp at hx
  · exact nmL_ok h1.2 x hx
theorem nmL_ok : ∀ {l : List Ex}, okL l -> ∀ x ∈ nmL l, x.length <= 9223372036854775807
 | [], h, x, hx => by simp [nmL] at hx
 | e :: l, h, x, hx => by
  simp only [nmL, List.mem_append] at hx
  rcases hx with hx | hx
  · exact Zj6 (Z8i h e (by simp)) x hx
  · exact nmL_ok (by simp only [okL] at h; exact h.2) x hx
end
mutual
theorem Zj5 : ∀ {e : St}, okS e -> ∀ x ∈ nmS e, x.length <= 9223372036854775807
 | .mk k n lc o ex t e, h, x, hx => by
  obtain ⟨k1, k2, k3, k4, k5, k6, k7, k8⟩ := Z38 h
  simp only [St.name, St.exprs, St.thn, St.els] at *
  simp only [nmS, List.mem_append] at hx
  rcases hx with hx | hx | hx | hx
  · cases hb : (!(n == [])) with
    | true => rw [hb] at hx; simp at hx; subst hx; exact k1
    | false => rw [hb] at hx; simp at hx
  · exact nmL_ok k6 x hx
  · exact nmSL_ok k7 x hx
  · exact nmSL_ok k8 x hx
theorem nmSL_ok : ∀ {l : List St}, okSL l -> ∀ x ∈ nmSL l, x.length <= 9223372036854775807
 | [], h, x, hx => by simp [nmSL] at hx
 | e :: l, h, x, hx => by
  simp only [nmSL, List.mem_append] at hx
  rcases hx with hx | hx
  · exact Zj5 (Z3v h e (by simp)) x hx
  · exact nmSL_ok (by simp only [okSL] at h; exact h.2) x hx
end
end Go.Proofs.YtbaoadpoknhhoaaGreatDoor.lex
end

section
namespace Go.Proofs.YtbaoadpoknhhoaaGreatDoor.shelf
open Go.Shelf Go.RowKit Go.Maps Go.Sort
def Z7F : Go.Shelf.Ren := ⟨fun | 7 => 95 | 10 => 129 | n => n, fun | 23 => 152 | 26 => 9 | 3 => 153 | 28 => 157 | 0 => 0 | 27 => 156 | 33 => 90 | 4 => 4 | n => n, fun | n => n⟩
theorem Zjd : Go.Proofs.SlLaysZ.n7 Tryz.prog Z7F := {
 mixed := by kernel_rfl
 f7 := ⟨Tryz.f95.name, by decide, Tryz.func95.trans (congrArg some (by kernel_rfl))⟩
 f10 := ⟨Tryz.f129.name, by decide, Tryz.func129.trans (congrArg some (by kernel_rfl))⟩
 t0 := Tryz.underlying0
 a0 := Tryz.isAgg0
 z0 := Tryz.sizeOf0
 v0 := Tryz.zeroValue0
 t4 := Tryz.underlying4
 a4 := Tryz.isAgg4
 z4 := Tryz.sizeOf4
 v4 := Tryz.zeroValue4
 t23 := Tryz.underlying152
 a23 := Tryz.isAgg152
 z23 := Tryz.sizeOf152
 v23 := Tryz.zeroValue152
 t26 := Tryz.underlying9
 a26 := Tryz.isAgg9
 z26 := Tryz.sizeOf9
 v26 := Tryz.zeroValue9
 t27 := Tryz.underlying156
 a27 := Tryz.isAgg156
 z27 := Tryz.sizeOf156
 v27 := Tryz.zeroValue156
 t28 := Tryz.underlying157
 a28 := Tryz.isAgg157
 z28 := Tryz.sizeOf157
 v28 := Tryz.zeroValue157
 t33 := Tryz.underlying90
 a33 := Tryz.isAgg90
 z33 := Tryz.sizeOf90
 v33 := Tryz.zeroValue90 }
def Z5a : Go.Shelf.Ren := ⟨fun | 6 => 94 | 8 => 127 | 9 => 128 | 11 => 163 | 13 => 165 | 12 => 164 | 23 => 195 | 24 => 171 | 14 => 186 | 15 => 187 | 16 => 188 | 17 => 189 | 18 => 190 | 19 => 191 | 20 => 192 | 21 => 193 | 22 => 194 | 25 => 202 | 26 => 203 | 27 => 204 | 28 => 205 | 29 => 206 | 30 => 207 | 31 => 210 | n => n, fun | 26 => 9 | 28 => 157 | 24 => 74 | 0 => 0 | 3 => 3 | 37 => 222 | 48 => 227 | 50 => 207 | 4 => 4 | 40 => 238 | 39 => 237 | 45 => 184 | 5 => 5 | 9 => 9 | 51 => 250 | 55 => 122 | 57 => 258 | 58 => 259 | 33 => 90 | n => n, fun | n => n⟩
theorem Zfb : Go.Proofs.SlLaysZ.n6 Tryz.prog Z5a := {
 mixed := by kernel_rfl
 f6 := ⟨Tryz.f94.name, by decide, Tryz.func94.trans (congrArg some (by kernel_rfl))⟩
 f8 := ⟨Tryz.f127.name, by decide, Tryz.func127.trans (congrArg some (by kernel_rfl))⟩
 f11 := ⟨Tryz.f163.name, by decide, Tryz.func163.trans (congrArg some (by kernel_rfl))⟩
 t0 := Tryz.underlying0
 a0 := Tryz.isAgg0
 z0 := Tryz.sizeOf0
 v0 := Tryz.zeroValue0
 t24 := Tryz.underlying74
 a24 := Tryz.isAgg74
 z24 := Tryz.sizeOf74
 v24 := Tryz.zeroValue74
 t26 := Tryz.underlying9
 a26 := Tryz.isAgg9
 z26 := Tryz.sizeOf9
 v26 := Tryz.zeroValue9
 t28 := Tryz.underlying157
 a28 := Tryz.isAgg157
 z28 := Tryz.sizeOf157
 v28 := Tryz.zeroValue157
 i26 := by kernel_rfl }
def Za6 : Go.Shelf.Ren := ⟨fun | 6 => 128 | 8 => 165 | 9 => 164 | 19 => 195 | 20 => 171 | 21 => 186 | 22 => 187 | 23 => 188 | 24 => 189 | 25 => 190 | 26 => 191 | 27 => 192 | 28 => 193 | 29 => 194 | 36 => 202 | 31 => 203 | 32 => 204 | 37 => 205 | 38 => 206 | 39 => 207 | 41 => 210 | n => n, fun | 27 => 74 | 29 => 9 | 3 => 3 | 32 => 222 | 26 => 74 | 0 => 0 | 44 => 227 | 46 => 207 | 4 => 4 | 36 => 238 | 35 => 237 | 41 => 184 | 5 => 5 | 9 => 9 | 53 => 250 | 57 => 122 | 63 => 258 | 64 => 259 | n => n, fun | n => n⟩
theorem ZcS : Go.Proofs.SlLaysM.n6 Tryz.prog Za6 := {
 mixed := by kernel_rfl
 f6 := ⟨Tryz.f128.name, by decide, Tryz.func128.trans (congrArg some (by kernel_rfl))⟩
 f8 := Tryz.func165.trans (congrArg some (by kernel_rfl))
 f9 := ⟨Tryz.f164.name, by decide, Tryz.func164.trans (congrArg some (by kernel_rfl))⟩
 f19 := Tryz.func195.trans (congrArg some (by kernel_rfl))
 f20 := Tryz.func171.trans (congrArg some (by kernel_rfl))
 f21 := ⟨Tryz.f186.name, by decide, Tryz.func186.trans (congrArg some (by kernel_rfl))⟩
 f22 := ⟨Tryz.f187.name, by decide, Tryz.func187.trans (congrArg some (by kernel_rfl))⟩
 f23 := ⟨Tryz.f188.name, by decide, Tryz.func188.trans (congrArg some (by kernel_rfl))⟩
 f24 := ⟨Tryz.f189.name, by decide, Tryz.func189.trans (congrArg some (by kernel_rfl))⟩
 f25 := ⟨Tryz.f190.name, by decide, Tryz.func190.trans (congrArg some (by kernel_rfl))⟩
 f26 := ⟨Tryz.f191.name, by decide, Tryz.func191.trans (congrArg some (by kernel_rfl))⟩
 f27 := ⟨Tryz.f192.name, by decide, Tryz.func192.trans (congrArg some (by kernel_rfl))⟩
 f28 := ⟨Tryz.f193.name, by decide, Tryz.func193.trans (congrArg some (by kernel_rfl))⟩
 f29 := ⟨Tryz.f194.name, by decide, Tryz.func194.trans (congrArg some (by kernel_rfl))⟩
 f31 := Tryz.func203.trans (congrArg some (by kernel_rfl))
 f32 := Tryz.func204.trans (congrArg some (by kernel_rfl))
 f36 := ⟨Tryz.f202.name, by decide, Tryz.func202.trans (congrArg some (by kernel_rfl))⟩
 f37 := ⟨Tryz.f205.name, by decide, Tryz.func205.trans (congrArg some (by kernel_rfl))⟩
 f38 := ⟨Tryz.f206.name, by decide, Tryz.func206.trans (congrArg some (by kernel_rfl))⟩
 f39 := ⟨Tryz.f207.name, by decide, Tryz.func207.trans (congrArg some (by kernel_rfl))⟩
 f41 := ⟨Tryz.f210.name, by decide, Tryz.func210.trans (congrArg some (by kernel_rfl))⟩
 t0 := Tryz.underlying0
 a0 := Tryz.isAgg0
 z0 := Tryz.sizeOf0
 v0 := Tryz.zeroValue0
 t3 := Tryz.underlying3
 a3 := Tryz.isAgg3
 z3 := Tryz.sizeOf3
 v3 := Tryz.zeroValue3
 t4 := Tryz.underlying4
 a4 := Tryz.isAgg4
 z4 := Tryz.sizeOf4
 v4 := Tryz.zeroValue4
 t5 := Tryz.underlying5
 a5 := Tryz.isAgg5
 z5 := Tryz.sizeOf5
 v5 := Tryz.zeroValue5
 t9 := Tryz.underlying9
 a9 := Tryz.isAgg9
 z9 := Tryz.sizeOf9
 v9 := Tryz.zeroValue9
 t26 := Tryz.underlying74
 a26 := Tryz.isAgg74
 z26 := Tryz.sizeOf74
 v26 := Tryz.zeroValue74
 t27 := Tryz.underlying74
 a27 := Tryz.isAgg74
 z27 := Tryz.sizeOf74
 v27 := Tryz.zeroValue74
 t29 := Tryz.underlying9
 a29 := Tryz.isAgg9
 z29 := Tryz.sizeOf9
 v29 := Tryz.zeroValue9
 t32 := Tryz.underlying222
 a32 := Tryz.isAgg222
 z32 := Tryz.sizeOf222
 v32 := Tryz.zeroValue222
 t35 := Tryz.underlying237
 a35 := Tryz.isAgg237
 z35 := Tryz.sizeOf237
 v35 := Tryz.zeroValue237
 t36 := Tryz.underlying238
 a36 := Tryz.isAgg238
 z36 := Tryz.sizeOf238
 v36 := Tryz.zeroValue238
 t41 := Tryz.underlying184
 a41 := Tryz.isAgg184
 z41 := Tryz.sizeOf184
 v41 := Tryz.zeroValue184
 t44 := Tryz.underlying227
 a44 := Tryz.isAgg227
 z44 := Tryz.sizeOf227
 v44 := Tryz.zeroValue227
 t46 := Tryz.underlying207
 a46 := Tryz.isAgg207
 z46 := Tryz.sizeOf207
 v46 := Tryz.zeroValue207
 t53 := Tryz.underlying250
 a53 := Tryz.isAgg250
 z53 := Tryz.sizeOf250
 v53 := Tryz.zeroValue250
 t57 := Tryz.underlying122
 a57 := Tryz.isAgg122
 z57 := Tryz.sizeOf122
 v57 := Tryz.zeroValue122
 t63 := Tryz.underlying258
 a63 := Tryz.isAgg258
 z63 := Tryz.sizeOf258
 v63 := Tryz.zeroValue258
 t64 := Tryz.underlying259
 a64 := Tryz.isAgg259
 z64 := Tryz.sizeOf259
 v64 := Tryz.zeroValue259 }
theorem Zk4 (m : Nat) : AnyZ.SortsIn Tryz.prog Z5a Fence.wide m :=
 ⟨fun blk off cap ss W hH hblk hsz => callsIn_wide.2 (AnyM.slices_Sort_string ZcS blk off cap ss W hH hblk hsz),
  fun p cap W => callsIn_wide.2 (AnyM.slices_Sort_string_none ZcS p cap W)⟩
set_option maxHeartbeats 1000000 in
theorem ZcR : Go.Abs.SortsKeys Tryz.prog 94 129 9 := by
 intro Bm b nn D0 R W hcell hown hmax hbytes
 have hBm : Bm < W.heap.size := by
  by_cases h : Bm < W.heap.size
  · exact h
  · have h2 : W.heap[Bm]? = none := Array.getElem?_eq_none (by omega)
    simp [World.cell?, h2] at hcell
 have hseq : SeqGives Fence.wide 2 Tryz.prog 129 #[.pointer (some ⟨Bm, 0, none⟩)] encStr (fun ss => ss.Perm (strKeys D0)) (Maps.size D0) W :=
  AnyZ.keys_gives (ρ := Z7F) { Zjd with } Fence.wide _ trivial rfl (by omega) Bm b nn D0 W hBm hcell hown
 exact callsIn_wide.1 (AnyZ.sorted_in Zfb Fence.wide 5 trivial trivial trivial trivial rfl (by omega) (Zk4 _) (enters_of Tryz.func128 (by kernel_rfl) rfl) 129 #[.pointer (some ⟨Bm, 0, none⟩)] trivial (enters_of Tryz.func129 (by kernel_rfl) rfl) _ _ hmax hbytes W hseq)
theorem Zlp : Tryz.prog.underlying 9 = some .string := by kernel_rfl
theorem sound {gl : Go.Abs.Glob} : Go.Abs.OrcSound Tryz.prog gl (Go.Abs.sortO 94 129) := Go.Abs.sortO_sound ZcR Zlp
end Go.Proofs.YtbaoadpoknhhoaaGreatDoor.shelf
end

section
namespace Go.Proofs.YtbaoadpoknhhoaaGreatDoor.lex
open Go.Abs Go.RowKit
set_option maxRecDepth 100000
set_option maxHeartbeats 4000000
theorem ZiX (x : Ex) (rest : List AV) (d : Int) (n : List (List UInt8)) : Z10 Tryz.prog runLives.gl 92 [.rp (x.cells ++ rest), .int .i64 d, .ptr 2 0] (rgH n) (.bool true) (rgH (cond (x.op == 2) (rgN x.name n) n)) := by
 have hx := Zih x rest
 have hx2 := Zii x rest
 refine Z3c (k := 3) follows noNum (Z1G follows noNum Z0i 3) rfl Tryz.func92 rfl (Z3p (isC := fun _ => false) 3) ?_
 have he := Zd3 n (cond (x.op == 2) (rgN x.name n) n)
 have hset := Zgl x.name n
 unfold rgN at he ⊢
 generalize x.name = s at *
 generalize x.op = o at *
 generalize x.cells ++ rest = cs at *
 cases ho : (o == 2) with
 | false =>
  rw [ho, cond_false] at he
  rw [cond_false]
  have e1 : (o != 2) = true := Z2c (b := false) ho
  repeat' ((conv => whnf); first | (refine exI hx ?_) | (refine exI hx2 ?_) | (first | refine stp ?_ | with_reducible refine Z05 (fun h => ?_) (fun h => ?_)))
  all_goals (conv => whnf)
  all_goals (exact ⟨rfl, by rw [he]; rfl⟩)
 | true =>
  rw [ho, cond_true] at he
  rw [cond_true]
  have e0 : (o != 2) = false := Z2c (b := true) ho
  cases hs : (s == []) with
  | true =>
   rw [hs, cond_true] at he
   rw [cond_true]
   have e1 : (!(s == [])) = false := by rw [hs]; rfl
   repeat' ((conv => whnf); first | (refine exI hx ?_) | (refine exI hx2 ?_) | (first | refine stp ?_ | with_reducible refine Z05 (fun h => ?_) (fun h => ?_)))
   all_goals (conv => whnf)
   all_goals (exact ⟨rfl, by rw [he]; rfl⟩)
  | false =>
   rw [hs, cond_false] at he
   rw [cond_false]
   have e1 : (!(s == [])) = true := by rw [hs]; rfl
   simp only [rgH] at hset he ⊢
   generalize rgE 0 (rgP s n) = es' at *
   generalize (rgP s n).length = c' at *
   repeat' ((conv => whnf); first | (refine exI hx ?_) | (refine exI hx2 ?_) | (refine exI hset ?_) | (first | refine stp ?_ | with_reducible refine Z05 (fun h => ?_) (fun h => ?_)))
   all_goals (conv => whnf)
   all_goals (exact ⟨rfl, by rw [he]; rfl⟩)
def ZiJ (x : Ex) (_ : Int) (n : List (List UInt8)) : Bool × List (List UInt8) := (true, cond (x.op == 2) (rgN x.name n) n)
def ZjK (x : St) (_ : Int) (n : List (List UInt8)) : Bool × List (List UInt8) := (true, rgN x.name n)
def rgV : TvS runLives.gl where
 σ := List (List UInt8)
 Mem := rgH
 k := 3
 len := fun _ => rfl
 same := fun s => ⟨⟨⟨rfl, rfl, rfl, rfl, ⟨rfl, Zgm _ s 0⟩⟩, ⟨rfl, rfl, rfl, rfl, BodyGe.cellsL ⟨Wk.map rfl, trivial⟩⟩, ⟨rfl, rfl, rfl, rfl, BodyGe.cellsL ⟨Wk.func trivial ⟨Wk.ptr rfl rfl, trivial⟩, trivial⟩⟩, trivial⟩, rfl, rfl⟩
 evo := fun s s' => Zd3 s s'
 inj := fun _ _ h => Zhh h
 I := rgI
 up := fun d s m h0 h => ⟨h0, by have := h.2; omega⟩
 less := fun d s m h => ⟨h.1, by have := h.2; omega⟩
 bnd := fun d s m h => ⟨h.1, by have := h.2; omega⟩
 gE := 92
 cE := [.ptr 2 0]
 hE := ZiJ
 bodyE := by kernel_rfl
 wkE := ⟨Wk.ptr rfl rfl, trivial⟩
 okE := fun e rest d s m _ h => ZiX e rest d s
 downE := fun e d s m h _ => ⟨by have := h.1; omega, by have := h.2; omega⟩
 gS := 93
 cS := [.ptr 2 0]
 hS := ZjK
 bodyS := by kernel_rfl
 wkS := ⟨Wk.ptr rfl rfl, trivial⟩
 okS := fun x rest d s m _ h => ZiW x rest d s
 downS := fun e d s m h _ => ⟨by have := h.1; omega, by have := h.2; omega⟩
def Z9Z (l : List (List UInt8)) (n : List (List UInt8)) : List (List UInt8) := l.foldl (fun n s => rgP s n) n
theorem Z5R (a b n : List (List UInt8)) : Z9Z (a ++ b) n = Z9Z b (Z9Z a n) := List.foldl_append
theorem Zd5 (b : Bool) (s : List UInt8) (n : List (List UInt8)) : cond b (rgN s n) n = Z9Z (cond (b && !(s == [])) [s] []) n := by
 unfold rgN
 cases b <;> cases (s == []) <;> rfl
mutual
theorem Zjk : ∀ (e : Ex) (d : Int) (n : List (List UInt8)), goE ZiJ e d n = (true, Z9Z (nmE e) n)
 | .mk o m s k, d, n => by
  simp only [goE, ZiJ, if_true, Ex.op, Ex.name]
  rw [goL_rg k (d + 1), Zd5, nmE, Z5R]
theorem goL_rg : ∀ (l : List Ex) (d : Int) (n : List (List UInt8)), goL ZiJ l d n = (true, Z9Z (nmL l) n)
 | [], d, n => by simp only [goL, nmL]; rfl
 | e :: l, d, n => by
  simp only [goL, Zjk e d n, if_true, goL_rg l d, nmL, Z5R]
end
mutual
theorem Zjh : ∀ (x : St) (d : Int) (n : List (List UInt8)), goS ZiJ ZjK x d n = (true, Z9Z (nmS x) n)
 | .mk k m lc o x t e, d, n => by
  have h := Zd5 true m n
  simp only [cond_true, Bool.true_and] at h
  simp only [goS]
  rw [show ZjK (.mk k m lc o x t e) d n = (true, rgN m n) from rfl, h]
  simp only [Z0F, goL_rg, if_true, goSL_rg t, goSL_rg e, nmS, Z5R]
theorem goSL_rg : ∀ (l : List St) (d : Int) (n : List (List UInt8)), goSL ZiJ ZjK l d n = (true, Z9Z (nmSL l) n)
 | [], d, n => by simp only [goSL, nmSL]; rfl
 | e :: l, d, n => by
  simp only [goSL, Z0F, Zjh e d n, if_true, goSL_rg l d, nmSL, Z5R]
end
theorem Zd4 {s : List UInt8} {n : List (List UInt8)} (h : n.Nodup) : (rgP s n).Nodup := by
 unfold rgP
 split
 · exact h
 · rename_i hc
   have hm : s ∉ n := by simpa using hc
   exact List.nodup_append.2 ⟨h, by simp, fun a ha b hb => by simp at hb; subst hb; exact fun e => hm (e ▸ ha)⟩
theorem Z7S : ∀ (l n : List (List UInt8)), n.Nodup -> (Z9Z l n).Nodup
 | [], n, h => h
 | s :: l, n, h => Z7S l (rgP s n) (Zd4 h)
theorem Zhg {s x : List UInt8} {n : List (List UInt8)} : x ∈ rgP s n ↔ x ∈ n \/ x = s := by
 unfold rgP
 split
 · rename_i hc
   have hm : s ∈ n := by simpa using hc
   exact ⟨.inl, fun h => h.elim id (fun e => e ▸ hm)⟩
 · simp
theorem ZbJ {x : List UInt8} : ∀ {l n : List (List UInt8)}, x ∈ Z9Z l n ↔ x ∈ n \/ x ∈ l
 | [], n => by simp [Z9Z]
 | s :: l, n => by
  have := ZbJ (x := x) (l := l) (n := rgP s n)
  rw [Zhg] at this
  show x ∈ Z9Z l (rgP s n) ↔ _
  rw [this]; simp only [List.mem_cons]; exact or_assoc
theorem Z8C : ∀ (l n : List (List UInt8)), (Z9Z l n).length <= n.length + l.length
 | [], n => by simp [Z9Z]
 | s :: l, n => by
  have := Z8C l (rgP s n)
  have h2 : (rgP s n).length <= n.length + 1 := by unfold rgP; split <;> simp
  show (Z9Z l (rgP s n)).length <= _
  simp only [List.length_cons]; omega
theorem ZaW : ∀ (n : List (List UInt8)) (i : Nat), Za3 (rgE i n) = some n
 | [], i => rfl
 | x :: n, i => by simp only [rgE, Za3, ZaW n (i + 1)]
theorem Zez : ∀ (n : List (List UInt8)) (i : Nat), (rgE i n).map (·.2.2) = (List.range' i n.length)
 | [], i => rfl
 | x :: n, i => by simp only [rgE, List.map_cons, Zez n (i + 1), List.length_cons, List.range'_succ]
theorem Zhf {n : List (List UInt8)} (h1 : n.Nodup) (h2 : ∀ x ∈ n, x.length <= 9223372036854775807) (h3 : n.length <= 1000000) : Z7u n (rgE 0 n) n.length = true := by
 unfold Z7u
 simp only [Zez, Bool.and_eq_true, decide_eq_true_eq]
 refine ⟨h1, h2, List.nodup_range', ?_, by simpa using h3⟩
 rw [List.all_eq_true]
 intro b hb
 have := List.mem_range'_1.1 hb
 simp only [decide_eq_true_eq]; omega
end Go.Proofs.YtbaoadpoknhhoaaGreatDoor.lex
end

section
namespace Go.Proofs.YtbaoadpoknhhoaaGreatDoor.lex
open Go.Abs Go.RowKit
set_option maxRecDepth 100000
set_option maxHeartbeats 4000000
def Z70 (l : List St) : List (List UInt8) := Z9Z (nmSL l) []
theorem Zfg (l : List St) (hok : okSL l) (hl : l.length <= 9223372036854775807) (h : sizeSL l <= 1048576) : Z10 Tryz.prog runLives.gl 83 [stA l, .int .i64 1, .func (.func 92) [] [.ptr 2 0], .func (.func 93) [] [.ptr 2 0]] (rgH []) (.bool true) (rgH (Z70 l)) := by
 have hI : rgI 1 [] (sizeSL l + 0) := ⟨by omega, by omega⟩
 have := TvS.stmts rgV (sizeSL l) l 1 [] 0 (Nat.le_refl _) hok hl hI
 have e := goSL_rg l 1 []
 have e1 : (goSL rgV.hE rgV.hS l 1 []).1 = true := congrArg Prod.fst e
 have e2 : (goSL rgV.hE rgV.hS l 1 []).2 = Z70 l := congrArg Prod.snd e
 rw [e1, e2] at this
 exact this
theorem Zd1 {orc : Orc} (n : List (List UInt8)) (hk : Z7u n (rgE 0 n) n.length = true) : Z0e Tryz.prog (Z2h (sortO 94 129) orc) (rgH n ++ [⟨true, 3, 0, .cells [.map 0] 152⟩]) 94 [.func (.func 129) [] [.ptr 3 0]] = some (rsK (Z2g n), rgH n ++ [⟨true, 3, 0, .cells [.map 0] 152⟩]) := by
 refine Z40 (by kernel_rfl) ?_
 have hb : Z09 Tryz.prog 94 = true := by kernel_rfl
 unfold Z0e
 rw [if_pos hb]
 have h1 : Z4Q (rgE 0 n) n.length = some (rsK (Z2g n)) := by
  unfold Z4Q
  rw [ZaW]
  simp only [hk, if_true]
 have h2 : Zcd ⟨true, 3, 0, .cells [.map 0] 152⟩ = some 0 := rfl
 have h3 : Zcc ⟨true, 0, 0, .map (rgE 0 n) n.length⟩ = some (rgE 0 n, n.length) := rfl
 simp only [sortO, if_true, Z63, rgH]
 show (match Zcd ⟨true, 3, 0, .cells [.map 0] 152⟩ with | some b => _ | none => none) = _
 rw [h2]
 show (match Zcc ⟨true, 0, 0, .map (rgE 0 n) n.length⟩ with | some (es, clock) => _ | none => none) = _
 rw [h3]
 show (match Z4Q (rgE 0 n) n.length with | some v => _ | none => none) = _
 rw [h1]
theorem Zb3 (l : List St) (hok : okSL l) (hl : l.length <= 9223372036854775807) (h : sizeSL l <= 900000) : ValOK Tryz.prog runLives.gl 52 [stA l] (rsK (Z2g (Z70 l))) := by
 obtain ⟨O, hO, ⟨p1, -⟩, -⟩ := Z9o (P := Tryz.prog) (gl := runLives.gl) [{ I := Unit, f := 83, G := (fun _ => True), A := (fun _ => [stA l, .int .i64 1, .func (.func 92) [] [.ptr 2 0], .func (.func 93) [] [.ptr 2 0]]), H := (fun _ => rgH []), R := (fun _ => .bool true), O := (fun _ => rgH (Z70 l)), body := (by kernel_rfl), inj := (fun _ _ _ _ _ _ => ⟨rfl, rfl⟩), ok := (fun _ _ => Zfg l hok hl (by omega)) }] [] rfl
 have hO2 := Z0L (shelf.sound (gl := runLives.gl)) hO
 have q1 : Z0e Tryz.prog (Z2h (sortO 94 129) O) (rgH []) 83 [stA l, .int .i64 1, .func (.func 92) [] [.ptr 2 0], .func (.func 93) [] [.ptr 2 0]] = some (.bool true, rgH (Z70 l)) := Z2j (by kernel_rfl) rfl (p1 () trivial)
 have hlen := Z8C (nmSL l) []
 have hlen2 := nmSL_len l
 simp only [List.length_nil] at hlen
 have hk : Z7u (Z70 l) (rgE 0 (Z70 l)) (Z70 l).length = true := by
  refine Zhf (Z7S _ _ List.nodup_nil) (fun x hx => ?_) (by unfold Z70; omega)
  rcases ZbJ.1 hx with hx | hx
  · cases hx
  · exact nmSL_ok hok x hx
 have q2 := Zd1 (orc := O) (Z70 l) hk
 simp only [stA, rgH] at q1 q2 ⊢
 generalize rgE 0 (Z70 l) = es at *
 generalize (Z70 l).length = c at *
 refine Zan (fun g => Nat.beq g 83 || Nat.beq g 94) 2 follows noNum hO2 Tryz.func52 rfl ?_
 repeat' ((conv => whnf); first | (refine exI q1 ?_) | (refine exI q2 ?_) | (first | refine stp ?_ | with_reducible refine Z05 (fun h => ?_) (fun h => ?_)))
 all_goals (conv => whnf)
 all_goals rfl
end Go.Proofs.YtbaoadpoknhhoaaGreatDoor.lex
end

section
namespace Go.Abs
open Go.RowKit
section
open Classical
noncomputable def snO (sn : Z0d) (ι : Z0a) (H : Z00) (W : World) : Z0d := fun a => if ∃ (b : Nat) (o : AObj) (p : Place), H[b]? = some o /\ o.alive = true /\ ι b = some p /\ p.blk = a.block then W.cell? a else sn a
end
def Zdc (F : Nat -> List AV -> Option AV) : Orc := fun f args H => match Z2N (frz H 30) args with
 | some az => match F f az with | some r => some (r, kil (fun _ _ => true) 0 H) | none => none
 | none => none
theorem Zev {W : World} {a : Addr} {v : Value} (hv : W.cell? a = some v) : a.block < W.heap.size := by
 cases hq : W.heap[a.block]? with
 | none => unfold World.cell? at hv; rw [hq] at hv; simp at hv
 | some ob => exact (Array.getElem?_eq_some_iff.1 hq).1
theorem Zc6 {P : Program} {gl : Glob} {F : Nat -> List AV -> Option AV} (h : ∀ f args r, F f args = some r -> ValOK P gl f args r) : OrcSound P gl (Zdc F) := by
 intro f args H r H' hf sn ι W cargs hg hR ha
 unfold Zdc at hf
 split at hf <;> try (simp at hf; done)
 rename_i az has
 split at hf <;> simp at hf
 rename_i r' hr
 obtain ⟨rfl, rfl⟩ := hf
 have h2 := h f az r' hr
 have hle : ∀ a v, sn a = some v -> snO sn ι H W a = some v := fun a v hv => by
  unfold snO
  split
  · exact (hR.snap a v hv).2.1
  · exact hv
 have hcell : ∀ a v, snO sn ι H W a = some v -> W.cell? a = some v := fun a v hv => by
  unfold snO at hv
  split at hv
  · exact hv
  · exact (hR.snap a v hv).2.1
 have hR' : R (snO sn ι H W) noI [] W :=
  ⟨fun b => ⟨fun hb => by simp at hb, fun ⟨p, hp⟩ => by simp [noI] at hp⟩, fun b p hp => by simp [noI] at hp, fun b o p hb => by simp at hb, fun b b' o o' p p' hb => by simp at hb,
    fun a v hv => ⟨Zev (hcell a v hv), hcell a v hv, fun b o p hb => by simp at hb⟩, fun b o p hb => by simp at hb⟩
 have hargs : LR (snO sn ι H W) noI az cargs := Z0z (fun u r v => Z3y hR.obj ⟨hle, fun _ _ h => h⟩ (fun b o p hb hal hp off v hv => by
  unfold snO; rw [if_pos ⟨b, o, p, hb, hal, hp, rfl⟩]; exact hv) 30 u r v) has ha
 refine (h2 _ W cargs (hg.mono (Z8o hle)) hR' hargs).monoY ?_
 rintro e W' ⟨v, rfl, hx, hv⟩
 generalize hs1 : snx (snO sn ι H W) W.heap.size W' = s1 at hv
 have h1lt : ∀ a, a.block < W.heap.size -> s1 a = snO sn ι H W a := fun a ha => by rw [<- hs1]; unfold snx; rw [if_pos ha]
 have h1ge : ∀ a, ¬ a.block < W.heap.size -> s1 a = W'.cell? a := fun a ha => by rw [<- hs1]; unfold snx; rw [if_neg ha]
 have hle1 : ∀ a v, sn a = some v -> s1 a = some v := fun a v hv => by rw [h1lt a (hR.snap a v hv).1]; exact hle a v hv
 have hcell1 : ∀ a v, s1 a = some v -> W'.cell? a = some v := fun a v hv => by
  by_cases hlt : a.block < W.heap.size
  · rw [h1lt a hlt] at hv
    have := hcell a v hv
    unfold World.cell? at this ⊢
    rw [hx.old _ hlt]; exact this
  · rw [h1ge a hlt] at hv; exact hv
 refine ⟨v, s1, ι, rfl, ZbL hv, ⟨fun b => ⟨fun hb => ?_, fun ⟨p, hp⟩ => ?_⟩, fun b p hp => ?_, fun b o p hb hal hp => ?_, fun b b' o o' p p' hb hb' ha ha' hp hp' e => ?_, fun a v hv => ?_, fun b o p hb hp e => ?_⟩, ⟨hle1, fun _ _ h => h⟩, fun b p hp => .inl hp, fun c hc _ => hx.old c hc, hx.size, hx.os, hx.tape, hx.output, fun a v hv => ?_, fun b o hb => ?_⟩
 · rw [Z0b] at hb; exact (hR.dom b).1 hb
 · rw [Z0b]; exact (hR.dom b).2 ⟨p, hp⟩
 · have := hR.blk b p hp; have := hx.size; omega
 · obtain ⟨o0, _, _, _, h4⟩ := Z0R hb
   have := (h4 hal).2; simp at this
 · obtain ⟨o0, g1, g2, g3, g4⟩ := Z0R hb
   obtain ⟨o0', g1', g2', g3', g4'⟩ := Z0R hb'
   rw [g2, g3, g2', g3']
   exact hR.sep b b' o0 o0' p p' g1 g1' (by rw [<- (g4 ha).1]; exact ha) (by rw [<- (g4' ha').1]; exact ha') hp hp' e
 · refine ⟨Zev (hcell1 a v hv), hcell1 a v hv, fun b o p hb hal hp => ?_⟩
   obtain ⟨o0, _, _, _, h4⟩ := Z0R hb
   have := (h4 hal).2; simp at this
 · obtain ⟨o0, g1, g2, g3, _⟩ := Z0R hb
   exact hR.shz b o0 p g1 hp (by rw [<- g3]; exact e)
 · by_cases hlt : a.block < W.heap.size
   · rw [h1lt a hlt] at hv
     unfold snO at hv
     split at hv
     · rename_i hex
       obtain ⟨b, o, p, x1, x2, x3, x4⟩ := hex
       exact .inr (.inr ⟨b, o, p, x1, x2, x3, x4⟩)
     · exact .inl hv
   · exact .inr (.inl (by omega))
 · rw [Z1N, hb]
   simp only [Nat.zero_add, Option.map_some]
   refine ⟨_, rfl, ?_⟩
   simp [AObj.dead]
theorem ZkE {P : Program} {F : Nat -> List AV -> Option AV} {H : Z00} {g : Nat} {args fa : List AV} {r : AV} (h1 : Z09 P g = true) (h2 : Z2N (frz H 30) args = some fa) (h3 : F g fa = some r) : Z0e P (Zdc F) H g args = some (r, kil (fun _ _ => true) 0 H) := by
 simp only [Z0e, h1, if_true, Zdc, h2, h3]
end Go.Abs
end

section
namespace Go.Proofs.YtbaoadpoknhhoaaGreatDoor.lex
open Go.Abs Go.RowKit
set_option maxRecDepth 100000
set_option maxHeartbeats 4000000
variable {gl : Glob}
def ZgL (k : Int) (n l : List UInt8) (o : Int) (x : List Ex) : St := .mk k n l o x [] []
def alA (k : Int) (n l : List UInt8) (o : Int) (nx : Nat) (cx : List AV) : AV := .rs 1 7 [.int .i64 k, .str n, .str l, .int .i64 o, .rs nx 4 cx, .nslice, .nslice]
theorem Ziw (k : Int) (n l : List UInt8) (o : Int) (x : List Ex) : ∀ sn vs, LR sn noI [alA k n l o x.length (exC x)] vs -> LR sn noI [stA [ZgL k n l o x]] vs := by
 intro sn vs h
 have hE : stA [ZgL k n l o x] = .rs 1 7 [.int .i64 k, .str n, .str l, .int .i64 o, .rs x.length 4 (exC x), .rs 0 7 [], .rs 0 7 []] := rfl
 rw [hE]
 simp only [alA, LR] at h ⊢
 obtain ⟨d, ds, rfl, h1, h2⟩ := h
 refine ⟨d, ds, rfl, ?_, h2⟩
 unfold VR at h1 ⊢
 rcases h1 with ⟨h1, _⟩ | ⟨a, cap, x1, x2, x3, x4, x5⟩
 · cases h1
 · refine .inr ⟨a, cap, x1, x2, rfl, ?_, x5⟩
   simp only [MR] at x4 ⊢
   obtain ⟨m1, m2, m3, m4, m5, ⟨v6, n6, k6⟩, ⟨v7, n7, k7⟩, m8⟩ := x4
   exact ⟨m1, m2, m3, m4, m5, ⟨v6, n6, Zdf k6⟩, ⟨v7, n7, Zdf k7⟩, m8⟩
section
open Classical
noncomputable def ZeZ (g : Nat) (A : List AV) (r : AV) : Nat -> List AV -> Option AV := fun f fa => if f = g /\ fa = A then some r else none
end
theorem ZbW {g : Nat} {A : List AV} {r : AV} (h : ValOK Tryz.prog gl g A r) : OrcSound Tryz.prog gl (Zdc (ZeZ g A r)) := Zc6 fun f args r' hr => by
 unfold ZeZ at hr
 split at hr
 · rename_i h2
   obtain ⟨rfl, rfl⟩ := h2
   simp only [Option.some.injEq] at hr
   subst hr
   exact h
 · cases hr
theorem Z8Y {g f : Nat} {A : List AV} {r : AV} (h : f ≠ g) (args : List AV) (H : Z00) : Zdc (ZeZ g A r) f args H = none := by
 unfold Zdc
 split
 · rename_i az _
   have : ZeZ g A r f az = none := by unfold ZeZ; rw [if_neg (fun e => h e.1)]
   rw [this]
 · rfl
theorem Zix {k : Int} {n l : List UInt8} {o : Int} {x : List Ex} (hn : n.length <= 9223372036854775807) (hl : l.length <= 9223372036854775807) (hx : okL x) (hxl : x.length <= 9223372036854775807) : okSL [ZgL k n l o x] := by
 simp [okSL, ZgL, okS, okL, okN, hn, hl, hx, hxl]
theorem ZeK (k : Int) (n l : List UInt8) (o : Int) (x : List Ex) : sizeSL [ZgL k n l o x] = 1 + sizeL x := by simp [ZgL, sizeSL, Z2I]
end Go.Proofs.YtbaoadpoknhhoaaGreatDoor.lex
end

section
namespace Go.Proofs.YtbaoadpoknhhoaaGreatDoor.lex
open Go.Abs Go.RowKit
set_option maxRecDepth 100000
set_option maxHeartbeats 4000000
variable {gl : Glob}
def Zf1 (x : St) : List (List UInt8) := Z2g (Z70 [.mk x.kind x.name [] 0 x.exprs [] []])
def ZaE (ds : List Dc) : List (List UInt8) -> Bool
 | [] => false
 | s :: l => decide (0 <= Z0K ds s) || ZaE ds l
def Zkk (ds : List Dc) (x : St) : Bool := ZaE ds (Zf1 x)
theorem Z6L (ds : List Dc) : ∀ (l : List (List UInt8)) (i : Nat) (h : i < l.length), 0 <= Z0K ds l[i] -> ZaE ds l = true
 | s :: l, 0, h, h2 => by simp only [List.getElem_cons_zero] at h2; simp only [ZaE, decide_eq_true h2, Bool.true_or]
 | s :: l, i + 1, h, h2 => by simp only [ZaE, Z6L ds l i (by simpa using h) (by simpa using h2), Bool.or_true]
theorem Z3k (ds : List Dc) : ∀ (l : List (List UInt8)) (i : Nat) (h : i < l.length), ZaE ds (l.take i) = false -> Z0K ds l[i] < 0 -> ZaE ds (l.take (i + 1)) = false
 | s :: l, 0, h, h1, h2 => by
  simp only [List.getElem_cons_zero] at h2
  simp only [List.take_succ_cons, List.take_zero, ZaE, Bool.or_false, decide_eq_false_iff_not]; omega
 | s :: l, i + 1, h, h1, h2 => by
  simp only [List.take_succ_cons, ZaE, Bool.or_eq_false_iff] at h1 ⊢
  exact ⟨h1.1, Z3k ds l i (by simpa using h) h1.2 (by simpa using h2)⟩
def Z4S (ds : List Dc) (i : Int) : Bool := ((ds[i.toNat]?).map (·.plain)).getD false
def Zdd (ds : List Dc) (k o : Int) (loc : List UInt8) (hid : Bool) : Int :=
 cond (!(loc == []) && decide (Z0K ds loc < 0)) 6
  (cond (!(o == 0) && !(Z6X k o (cond (loc == []) false (Z4S ds (Z0K ds loc))) == 0)) (Z6X k o (cond (loc == []) false (Z4S ds (Z0K ds loc)))) (cond hid 6 0))
def Z36 (ds : List Dc) (x : St) : Int := Zdd ds x.kind x.order x.loc (Zkk ds x)
theorem dcp (l : List Dc) (i : Nat) (h : i < l.length) : tk 1 (((dcC l).drop (i * 3)).drop 1) = some [.bool l[i].plain] := by
 rw [ZdY l i h]; rfl
theorem Zfr (x : St) (hs : sizeL x.exprs <= 800000) : (Zf1 x).length <= 800001 := by
 unfold Zf1 Z70
 rw [(Z4P _).length_eq]
 have h1 := Z8C (nmSL [St.mk x.kind x.name [] 0 x.exprs [] []]) []
 have h2 := nmSL_len [St.mk x.kind x.name [] 0 x.exprs [] []]
 simp only [sizeSL, Z2I, List.length_nil] at h1 h2
 omega
theorem Zf8 (ds : List Dc) (x : St) (hd : ds.length <= 9223372036854775807) (hok : okS x) (hs : sizeL x.exprs <= 800000) : ValOK Tryz.prog runLives.gl 51 [.rs ds.length 3 (dcC ds), .agg x.cells] (.int .i64 (Z36 ds x)) := by
 obtain ⟨k1, k2, k3, _, _, k4, _, _⟩ := Z38 hok
 have hregs := (Zb3 [ZgL x.kind x.name [] 0 x.exprs] (Zix k1 (by simp) k4 k3) (by simp) (by rw [ZeK]; omega)).weak (Ziw x.kind x.name [] 0 x.exprs)
 have hO1 := ZbW hregs
 have hD := ZfO ds x.loc
 have hnm : Z2g (Z70 [ZgL x.kind x.name [] 0 x.exprs]) = Zf1 x := rfl
 rw [hnm] at hO1 hregs
 have q1 : ∀ (o2 : Orc) H args, Z2N (frz H 30) args = some [alA x.kind x.name [] 0 x.exprs.length (exC x.exprs)] -> Z0e Tryz.prog (Z2h (Zdc (ZeZ 52 [alA x.kind x.name [] 0 x.exprs.length (exC x.exprs)] (rsK (Zf1 x)))) o2) H 52 args = some (rsK (Zf1 x), kil (fun _ _ => true) 0 H) := fun o2 H args h => Z40 (by kernel_rfl) (ZkE (by kernel_rfl) h (by unfold ZeZ; exact if_pos ⟨rfl, rfl⟩))
 have hlen : (Zf1 x).length <= 800001 := Zfr x hs
 have hnm2 : Zf1 x = Zf1 x := rfl
 generalize hnm3 : Zf1 x = nm at *
 obtain ⟨O, hO, p2, p3, -⟩ := fams (P := Tryz.prog) (gl := runLives.gl) [{ I := List UInt8, f := 49, G := fun _ => True, A := fun s => [.rs ds.length 3 (dcC ds), .str s], R := fun s => .int .i64 (Z0K ds s), body := (by kernel_rfl), inj := (fun i j _ _ h => by simp only [List.cons.injEq, AV.str.injEq, and_true, true_and] at h; rw [h]), ok := (fun s _ => ⟨rfl, Zbr ds s hd⟩) },
  { I := Int × Int × Bool, f := 90, G := fun _ => True, A := fun p => [.int .i64 p.1, .int .i64 p.2.1, .bool p.2.2], R := fun p => .int .i64 (Z6X p.1 p.2.1 p.2.2), body := (by kernel_rfl), inj := (fun i j _ _ h => by simp only [List.cons.injEq, AV.int.injEq, AV.bool.injEq, and_true, true_and] at h; rw [h.1, h.2.1, h.2.2]), ok := (fun p _ => ⟨rfl, Zhw p.1 p.2.1 p.2.2⟩) }] rfl
 have hOO := Z0L hO1 hO
 have q2 : ∀ s H, Z0e Tryz.prog (Z2h (Zdc (ZeZ 52 [alA x.kind x.name [] 0 x.exprs.length (exC x.exprs)] (rsK nm))) O) H 49 [.rs ds.length 3 (dcC ds), .str s] = some (.int .i64 (Z0K ds s), H) := fun s H => Z2j (by kernel_rfl) (Z8Y (by decide) _ _) (p2 s trivial H)
 have q3 : ∀ k o p H, Z0e Tryz.prog (Z2h (Zdc (ZeZ 52 [alA x.kind x.name [] 0 x.exprs.length (exC x.exprs)] (rsK nm))) O) H 90 [.int .i64 k, .int .i64 o, .bool p] = some (.int .i64 (Z6X k o p), H) := fun k o p H => Z2j (by kernel_rfl) (Z8Y (by decide) _ _) (p3 (k, o, p) trivial H)
 have q1 := q1 O
 clear p2 p3 hO hO1 hregs
 generalize Z2h (Zdc (ZeZ 52 [alA x.kind x.name [] 0 x.exprs.length (exC x.exprs)] (rsK nm))) O = OO at *
 have hnl : nm.length <= 9223372036854775807 := by omega
 obtain ⟨kd, nam, loc, ord, ex, th, el⟩ := x
 simp only [St.kind, St.name, St.loc, St.order, St.exprs, St.cells, exA, alA, rsK] at *
 have hR0 : Z36 ds (.mk kd nam loc ord ex th el) = Zdd ds kd ord loc (ZaE ds nm) := by rw [<- hnm3]; rfl
 rw [hR0]
 clear hR0 hnm2 hnm3 hnm
 generalize hR0 : Zdd ds kd ord loc (ZaE ds nm) = R0
 unfold Zdd at hR0
 refine Z15 follows noNum hOO Tryz.func51 rfl ?_
 cases hl : loc == [] with
 | true =>
  rw [hl] at hR0
  simp only [Bool.not_true, Bool.false_and, cond_false, cond_true] at hR0
  have hl2 : loc = [] := by simpa using hl
  subst hl2
  cases ho : ord == 0 with
  | true =>
   rw [ho] at hR0
   simp only [Bool.not_true, Bool.false_and, cond_false] at hR0
   have t2 : (ord != 0) = false := Z2c ho
   repeat' ((conv => whnf); first | (refine exI (q1 _ _ rfl) ?_) | (refine exI (q2 _ _) ?_) | (refine exI (q3 _ _ _ _) ?_) | (first | refine stp ?_ | with_reducible refine Z05 (fun h => ?_) (fun h => ?_)))
   (conv => whnf)
   refine ⟨Nat, (fun i => i <= nm.length /\ ZaE ds (nm.take i) = false), (fun i => [(0, .rs ds.length 3 (dcC ds)), (46, .rs nm.length 1 (nm.map .str)), (47, .int .i64 nm.length), (48, .int .i64 i)]), (fun _ => []), (fun i => nm.length - i), ⟨0, ⟨Nat.zero_le _, rfl⟩, FgL.mk0 rfl ?_⟩, ?_⟩
   · (repeat (first | exact trivial | refine stw ?_))
   rintro i ⟨hi, hno⟩
   dsimp only
   by_cases hlt : i < nm.length
   · have e1 : decide ((i : Int) < (nm.length : Int)) = true := by simpa using hlt
     have hx : tk 1 ((nm.map AV.str).drop (i * 1)) = some [AV.str nm[i]] := Z5Y AV.str nm i hlt (by omega)
     have hyes := Z6L ds nm i hlt
     have hnx := Z3k ds nm i hlt hno
     generalize nm[i] = s at *
     by_cases hf : 0 <= Z0K ds s
     · have e2 : decide (0 <= Z0K ds s) = true := by simpa using hf
       rw [hyes hf] at hR0
       simp only [cond_true] at hR0
       subst hR0
       repeat' ((conv => whnf); first | (refine exI hx ?_) | (refine exI (q2 _ _) ?_) | (with_reducible refine ixJ i rfl ?_ ?_; (focus (omega))) | (first | refine stp ?_ | with_reducible refine Z05 (fun h => ?_) (fun h => ?_)))
       all_goals rfl
     · have e2 : decide (0 <= Z0K ds s) = false := by simpa using hf
       have hnx2 := hnx (by omega)
       repeat' ((conv => whnf); first | (refine exI hx ?_) | (refine exI (q2 _ _) ?_) | (with_reducible refine ixJ i rfl ?_ ?_; (focus (omega))) | (first | refine stp ?_ | with_reducible refine Z05 (fun h => ?_) (fun h => ?_)))
       conv => whnf
       refine ⟨i + 1, ⟨hlt, hnx2⟩, by show nm.length - (i + 1) < nm.length - i; omega, FgL.mk0 rfl ?_⟩
       (repeat (first | exact trivial | refine stw ?_))
   · have e1 : decide ((i : Int) < (nm.length : Int)) = false := by simpa using hlt
     have hi2 : i = nm.length := by have := hi; omega
     subst hi2
     rw [List.take_length] at hno
     rw [hno] at hR0
     simp only [cond_false] at hR0
     subst hR0
     repeat' ((conv => whnf); first | refine stp ?_ | with_reducible refine Z05 (fun h => ?_) (fun h => ?_))
     all_goals rfl
  | false =>
   rw [ho] at hR0
   simp only [Bool.not_false, Bool.true_and] at hR0
   have t2 : (ord != 0) = true := Z2c ho
   cases hm : Z6X kd ord false == 0 with
   | true =>
    rw [hm] at hR0
    simp only [Bool.not_true, cond_false] at hR0
    have t3 : (Z6X kd ord false != 0) = false := Z2c hm
    repeat' ((conv => whnf); first | (refine exI (q1 _ _ rfl) ?_) | (refine exI (q2 _ _) ?_) | (refine exI (q3 _ _ _ _) ?_) | (first | refine stp ?_ | with_reducible refine Z05 (fun h => ?_) (fun h => ?_)))
    (conv => whnf)
    refine ⟨Nat, (fun i => i <= nm.length /\ ZaE ds (nm.take i) = false), (fun i => [(0, .rs ds.length 3 (dcC ds)), (46, .rs nm.length 1 (nm.map .str)), (47, .int .i64 nm.length), (48, .int .i64 i)]), (fun _ => []), (fun i => nm.length - i), ⟨0, ⟨Nat.zero_le _, rfl⟩, FgL.mk0 rfl ?_⟩, ?_⟩
    · (repeat (first | exact trivial | refine stw ?_))
    rintro i ⟨hi, hno⟩
    dsimp only
    by_cases hlt : i < nm.length
    · have e1 : decide ((i : Int) < (nm.length : Int)) = true := by simpa using hlt
      have hx : tk 1 ((nm.map AV.str).drop (i * 1)) = some [AV.str nm[i]] := Z5Y AV.str nm i hlt (by omega)
      have hyes := Z6L ds nm i hlt
      have hnx := Z3k ds nm i hlt hno
      generalize nm[i] = s at *
      by_cases hf : 0 <= Z0K ds s
      · have e2 : decide (0 <= Z0K ds s) = true := by simpa using hf
        rw [hyes hf] at hR0
        simp only [cond_true] at hR0
        subst hR0
        repeat' ((conv => whnf); first | (refine exI hx ?_) | (refine exI (q2 _ _) ?_) | (with_reducible refine ixJ i rfl ?_ ?_; (focus (omega))) | (first | refine stp ?_ | with_reducible refine Z05 (fun h => ?_) (fun h => ?_)))
        all_goals rfl
      · have e2 : decide (0 <= Z0K ds s) = false := by simpa using hf
        have hnx2 := hnx (by omega)
        repeat' ((conv => whnf); first | (refine exI hx ?_) | (refine exI (q2 _ _) ?_) | (with_reducible refine ixJ i rfl ?_ ?_; (focus (omega))) | (first | refine stp ?_ | with_reducible refine Z05 (fun h => ?_) (fun h => ?_)))
        conv => whnf
        refine ⟨i + 1, ⟨hlt, hnx2⟩, by show nm.length - (i + 1) < nm.length - i; omega, FgL.mk0 rfl ?_⟩
        (repeat (first | exact trivial | refine stw ?_))
    · have e1 : decide ((i : Int) < (nm.length : Int)) = false := by simpa using hlt
      have hi2 : i = nm.length := by have := hi; omega
      subst hi2
      rw [List.take_length] at hno
      rw [hno] at hR0
      simp only [cond_false] at hR0
      subst hR0
      repeat' ((conv => whnf); first | refine stp ?_ | with_reducible refine Z05 (fun h => ?_) (fun h => ?_))
      all_goals rfl
   | false =>
    rw [hm] at hR0
    simp only [Bool.not_false, cond_true] at hR0
    have t3 : (Z6X kd ord false != 0) = true := Z2c hm
    have q3' := fun H => q3 kd ord false H
    generalize Z6X kd ord false = mm at *
    subst hR0
    repeat' ((conv => whnf); first | (refine exI (q3' _) ?_) | (first | refine stp ?_ | with_reducible refine Z05 (fun h => ?_) (fun h => ?_)))
    all_goals rfl
 | false =>
  rw [hl] at hR0
  simp only [Bool.not_false, Bool.true_and, cond_false] at hR0
  have t0 : (!(loc == [])) = true := by rw [hl]; rfl
  rcases hD with hD | ⟨j, hD, hj, _⟩
  · rw [hD] at hR0
    have e0 : decide ((-1 : Int) < 0) = true := rfl
    simp only [e0, cond_true] at hR0
    subst hR0
    have q2' := fun H => (q2 loc H).trans (by rw [hD])
    repeat' ((conv => whnf); first | (refine exI (q2' _) ?_) | (first | refine stp ?_ | with_reducible refine Z05 (fun h => ?_) (fun h => ?_)))
    all_goals rfl
  · have e0 : decide (Z0K ds loc < 0) = false := by simp only [decide_eq_false_iff_not]; omega
    have e3 : Z4S ds (Z0K ds loc) = ds[j].plain := by unfold Z4S; rw [hD]; simp [hj]
    rw [e0, e3] at hR0
    simp only [cond_false] at hR0
    have hx2 := dcp ds j hj
    generalize ds[j].plain = pl at *
    have q2l := fun H => (q2 loc H).trans (by rw [hD])
    have e4 : decide ((j : Int) < 0) = false := by simp only [decide_eq_false_iff_not]; omega
    cases ho : ord == 0 with
    | true =>
     rw [ho] at hR0
     simp only [Bool.not_true, Bool.false_and, cond_false] at hR0
     have t2 : (ord != 0) = false := Z2c ho
     repeat' ((conv => whnf); first | (refine exI (q1 _ _ rfl) ?_) | (refine exI (q2l _) ?_) | (with_reducible refine ixJ j rfl ?_ ?_; (focus (omega))) | (refine exI hx2 ?_) | (first | refine stp ?_ | with_reducible refine Z05 (fun h => ?_) (fun h => ?_)))
     (conv => whnf)
     refine ⟨Nat, (fun i => i <= nm.length /\ ZaE ds (nm.take i) = false), (fun i => [(0, .rs ds.length 3 (dcC ds)), (46, .rs nm.length 1 (nm.map .str)), (47, .int .i64 nm.length), (48, .int .i64 i)]), (fun _ => []), (fun i => nm.length - i), ⟨0, ⟨Nat.zero_le _, rfl⟩, FgL.mk0 rfl ?_⟩, ?_⟩
     · (repeat (first | exact trivial | refine stw ?_))
     rintro i ⟨hi, hno⟩
     dsimp only
     by_cases hlt : i < nm.length
     · have e1 : decide ((i : Int) < (nm.length : Int)) = true := by simpa using hlt
       have hx : tk 1 ((nm.map AV.str).drop (i * 1)) = some [AV.str nm[i]] := Z5Y AV.str nm i hlt (by omega)
       have hyes := Z6L ds nm i hlt
       have hnx := Z3k ds nm i hlt hno
       generalize nm[i] = s at *
       by_cases hf : 0 <= Z0K ds s
       · have e2 : decide (0 <= Z0K ds s) = true := by simpa using hf
         rw [hyes hf] at hR0
         simp only [cond_true] at hR0
         subst hR0
         repeat' ((conv => whnf); first | (refine exI hx ?_) | (refine exI (q2 _ _) ?_) | (with_reducible refine ixJ i rfl ?_ ?_; (focus (omega))) | (first | refine stp ?_ | with_reducible refine Z05 (fun h => ?_) (fun h => ?_)))
         all_goals rfl
       · have e2 : decide (0 <= Z0K ds s) = false := by simpa using hf
         have hnx2 := hnx (by omega)
         repeat' ((conv => whnf); first | (refine exI hx ?_) | (refine exI (q2 _ _) ?_) | (with_reducible refine ixJ i rfl ?_ ?_; (focus (omega))) | (first | refine stp ?_ | with_reducible refine Z05 (fun h => ?_) (fun h => ?_)))
         conv => whnf
         refine ⟨i + 1, ⟨hlt, hnx2⟩, by show nm.length - (i + 1) < nm.length - i; omega, FgL.mk0 rfl ?_⟩
         (repeat (first | exact trivial | refine stw ?_))
     · have e1 : decide ((i : Int) < (nm.length : Int)) = false := by simpa using hlt
       have hi2 : i = nm.length := by have := hi; omega
       subst hi2
       rw [List.take_length] at hno
       rw [hno] at hR0
       simp only [cond_false] at hR0
       subst hR0
       repeat' ((conv => whnf); first | refine stp ?_ | with_reducible refine Z05 (fun h => ?_) (fun h => ?_))
       all_goals rfl
    | false =>
     rw [ho] at hR0
     simp only [Bool.not_false, Bool.true_and] at hR0
     have t2 : (ord != 0) = true := Z2c ho
     have q3' := fun H => q3 kd ord pl H
     cases hm : Z6X kd ord pl == 0 with
     | true =>
      rw [hm] at hR0
      simp only [Bool.not_true, cond_false] at hR0
      have t3 : (Z6X kd ord pl != 0) = false := Z2c hm
      generalize Z6X kd ord pl = mm at *
      repeat' ((conv => whnf); first | (refine exI (q1 _ _ rfl) ?_) | (refine exI (q2l _) ?_) | (refine exI (q3' _) ?_) | (with_reducible refine ixJ j rfl ?_ ?_; (focus (omega))) | (refine exI hx2 ?_) | (first | refine stp ?_ | with_reducible refine Z05 (fun h => ?_) (fun h => ?_)))
      (conv => whnf)
      refine ⟨Nat, (fun i => i <= nm.length /\ ZaE ds (nm.take i) = false), (fun i => [(0, .rs ds.length 3 (dcC ds)), (46, .rs nm.length 1 (nm.map .str)), (47, .int .i64 nm.length), (48, .int .i64 i)]), (fun _ => []), (fun i => nm.length - i), ⟨0, ⟨Nat.zero_le _, rfl⟩, FgL.mk0 rfl ?_⟩, ?_⟩
      · (repeat (first | exact trivial | refine stw ?_))
      rintro i ⟨hi, hno⟩
      dsimp only
      by_cases hlt : i < nm.length
      · have e1 : decide ((i : Int) < (nm.length : Int)) = true := by simpa using hlt
        have hx : tk 1 ((nm.map AV.str).drop (i * 1)) = some [AV.str nm[i]] := Z5Y AV.str nm i hlt (by omega)
        have hyes := Z6L ds nm i hlt
        have hnx := Z3k ds nm i hlt hno
        generalize nm[i] = s at *
        by_cases hf : 0 <= Z0K ds s
        · have e2 : decide (0 <= Z0K ds s) = true := by simpa using hf
          rw [hyes hf] at hR0
          simp only [cond_true] at hR0
          subst hR0
          repeat' ((conv => whnf); first | (refine exI hx ?_) | (refine exI (q2 _ _) ?_) | (with_reducible refine ixJ i rfl ?_ ?_; (focus (omega))) | (first | refine stp ?_ | with_reducible refine Z05 (fun h => ?_) (fun h => ?_)))
          all_goals rfl
        · have e2 : decide (0 <= Z0K ds s) = false := by simpa using hf
          have hnx2 := hnx (by omega)
          repeat' ((conv => whnf); first | (refine exI hx ?_) | (refine exI (q2 _ _) ?_) | (with_reducible refine ixJ i rfl ?_ ?_; (focus (omega))) | (first | refine stp ?_ | with_reducible refine Z05 (fun h => ?_) (fun h => ?_)))
          conv => whnf
          refine ⟨i + 1, ⟨hlt, hnx2⟩, by show nm.length - (i + 1) < nm.length - i; omega, FgL.mk0 rfl ?_⟩
          (repeat (first | exact trivial | refine stw ?_))
      · have e1 : decide ((i : Int) < (nm.length : Int)) = false := by simpa using hlt
        have hi2 : i = nm.length := by have := hi; omega
        subst hi2
        rw [List.take_length] at hno
        rw [hno] at hR0
        simp only [cond_false] at hR0
        subst hR0
        repeat' ((conv => whnf); first | refine stp ?_ | with_reducible refine Z05 (fun h => ?_) (fun h => ?_))
        all_goals rfl
     | false =>
      rw [hm] at hR0
      simp only [Bool.not_false, cond_true] at hR0
      have t3 : (Z6X kd ord pl != 0) = true := Z2c hm
      generalize Z6X kd ord pl = mm at *
      subst hR0
      repeat' ((conv => whnf); first | (refine exI (q2l _) ?_) | (refine exI (q3' _) ?_) | (with_reducible refine ixJ j rfl ?_ ?_; (focus (omega))) | (refine exI hx2 ?_) | (first | refine stp ?_ | with_reducible refine Z05 (fun h => ?_) (fun h => ?_)))
      all_goals rfl
end Go.Proofs.YtbaoadpoknhhoaaGreatDoor.lex
end

section
namespace Go.Proofs.YtbaoadpoknhhoaaGreatDoor.lex
open Go.Abs Go.RowKit
set_option maxRecDepth 100000
set_option maxHeartbeats 4000000
variable {gl : Glob}
def Zj3 (ds : List Dc) (k o : Int) (loc : List UInt8) (hid : Bool) : Int :=
 cond (k == 7) (Z6X k o false) (cond (!(loc == []) && decide (Z0K ds loc < 0)) 6
  (cond (!(loc == []) && !(Z6X k o (Z4S ds (Z0K ds loc)) == 0)) (Z6X k o (Z4S ds (Z0K ds loc))) (cond hid 6 0)))
def Zfl (ds : List Dc) (x : St) : Int := Zj3 ds x.kind x.order x.loc (Zkk ds x)
end Go.Proofs.YtbaoadpoknhhoaaGreatDoor.lex
end

section
namespace Go.Proofs.YtbaoadpoknhhoaaGreatDoor.lex
open Go.Abs Go.RowKit
set_option maxRecDepth 100000
set_option maxHeartbeats 4000000
variable {gl : Glob}
def Z82 (r : Nat × Int) (g : Nat -> Nat × Int) : Nat × Int := cond (r.2 == 0) (g r.1) r
mutual
def nbS (f : St -> Int) : St -> Nat -> Nat × Int
 | .mk k n l o x t e, m => cond (f (.mk k n l o x t e) == 0) (Z82 (nbSL f t (m + 1)) (nbSL f e)) (m, f (.mk k n l o x t e))
def nbSL (f : St -> Int) : List St -> Nat -> Nat × Int
 | [], m => (m, 0)
 | x :: l, m => Z82 (nbS f x m) (nbSL f l)
end
theorem Zj9 (f : St -> Int) (x : St) (m : Nat) : nbS f x m = cond (f x == 0) (Z82 (nbSL f x.thn (m + 1)) (nbSL f x.els)) (m, f x) := by
 obtain ⟨k, n, l, o, x, t, e⟩ := x
 simp only [nbS, St.thn, St.els]
theorem Zdh (f : St -> Int) : ∀ (l : List St) (m i : Nat) (h : i < l.length), (nbSL f (l.take i) m).2 = 0 -> nbSL f (l.take (i + 1)) m = nbS f l[i] (nbSL f (l.take i) m).1
 | x :: l, m, 0, h, _ => by
  simp only [List.take_zero, List.take_succ_cons, nbSL, List.getElem_cons_zero, Z82]
  generalize nbS f x m = r
  cases hr : r.2 == 0 with
  | true => simp only [cond_true]; have : r.2 = 0 := by simpa using hr
            rw [<- this]
  | false => simp only [cond_false]
 | x :: l, m, i + 1, h, h0 => by
  simp only [List.take_succ_cons, nbSL, List.getElem_cons_succ, Z82] at h0 ⊢
  generalize nbS f x m = r at *
  cases hr : r.2 == 0 with
  | true =>
   rw [hr] at h0
   simp only [cond_true] at h0 ⊢
   exact Zdh f l r.1 i (by simpa using h) h0
  | false =>
   rw [hr] at h0
   simp only [cond_false] at h0
   rw [h0] at hr; cases hr
theorem Z9a (f : St -> Int) : ∀ (l : List St) (m i : Nat), (nbSL f (l.take i) m).2 ≠ 0 -> nbSL f l m = nbSL f (l.take i) m
 | [], m, i, h => by simp
 | x :: l, m, 0, h => by simp [nbSL] at h
 | x :: l, m, i + 1, h => by
  simp only [List.take_succ_cons, nbSL, Z82] at h ⊢
  generalize nbS f x m = r at *
  cases hr : r.2 == 0 with
  | true =>
   rw [hr] at h
   simp only [cond_true] at h ⊢
   exact Z9a f l r.1 i h
  | false => simp only [cond_false]
mutual
theorem Zj8 (f : St -> Int) : ∀ (x : St) (m : Nat), m <= (nbS f x m).1 /\ (nbS f x m).1 <= m + Z2I x
 | .mk k n l o x t e, m => by
  simp only [nbS, Z2I, Z82]
  have h1 := nbSL_le f t (m + 1)
  generalize nbSL f t (m + 1) = r at *
  have h2 := nbSL_le f e r.1
  cases f (.mk k n l o x t e) == 0 <;> cases r.2 == 0 <;> simp only [cond_true, cond_false] <;> omega
theorem nbSL_le (f : St -> Int) : ∀ (l : List St) (m : Nat), m <= (nbSL f l m).1 /\ (nbSL f l m).1 <= m + sizeSL l
 | [], m => by simp only [nbSL, sizeSL]; omega
 | x :: l, m => by
  simp only [nbSL, sizeSL, Z82]
  have h1 := Zj8 f x m
  generalize nbS f x m = r at *
  have h2 := nbSL_le f l r.1
  cases r.2 == 0 <;> simp only [cond_true, cond_false] <;> omega
end
theorem Z93 : ∀ (l : List St) (i : Nat) (h : i < l.length), sizeSL (l.take i) + Z2I l[i] <= sizeSL l
 | x :: l, 0, h => by simp [sizeSL]
 | x :: l, i + 1, h => by
  simp only [List.take_succ_cons, sizeSL, List.getElem_cons_succ]
  have := Z93 l i (by simpa using h)
  omega
theorem Z7k (x : St) : Z2I x = 1 + sizeL x.exprs + sizeSL x.thn + sizeSL x.els := by cases x; simp only [Z2I, St.exprs, St.thn, St.els]
theorem Z8B {x y : St} (h : AV.agg x.cells = .agg y.cells) : x = y := by
 have : stA [x] = stA [y] := by
  simp only [AV.agg.injEq] at h
  simp only [stA, stC, h]; rfl
 have := Z3S this
 simpa using this
theorem Zf9 (ds : List Dc) (x : St) : refsL [.rs ds.length 3 (dcC ds), .agg x.cells] [] = [] := by cases x; rfl
end Go.Proofs.YtbaoadpoknhhoaaGreatDoor.lex
end

section
namespace Go.Proofs.YtbaoadpoknhhoaaGreatDoor.lex
open Go.Abs Go.RowKit
set_option maxRecDepth 100000
set_option maxHeartbeats 8000000
def isW (m : Bool) (s : List UInt8) : Bool := if m then Z49 s else s == []
def ZhJ (k : Int) : Bool := k == 1 || (k == 2 || (k == 4 || (k == 5 || k == 6)))
def ZgA (k : Int) : Bool := decide (2 <= k /\ k <= 6)
def Zgz (k : Int) : Bool := decide (2 <= k /\ k <= 7)
def Zjg (k : Int) : Nat := if k = 2 \/ k = 7 then 0 else if k = 4 then 2 else 1
def ZjQ (k : Int) : Bool := k == 10 || k == 11
def Zkl (k : Int) : Bool := k == 10
def Zae (kind : Int) (name loc : List UInt8) (order : Int) (nx nt ne : Nat) : Bool :=
 decide (1 <= kind /\ kind <= 11) && (isW (ZhJ kind) name && (isW (ZgA kind) loc && ((if Zgz kind then decide (1 <= order /\ order <= 6) else order == 0) && (decide (nx = Zjg kind) && ((ZjQ kind || decide (nt = 0)) && (Zkl kind || decide (ne = 0)))))))
def Zgq (x : St) : Bool := Zae x.kind x.name x.loc x.order x.exprs.length x.thn.length x.els.length
theorem Zc0 (kind : Int) (name loc : List UInt8) (order : Int) (nx nt ne : Nat) (cx ct ce rest : List AV) (d : Int) (hn : name.length <= 9223372036854775807) (hl : loc.length <= 9223372036854775807) :
  ValOK Tryz.prog runLives.gl 85 [.rp (.int .i64 kind :: .str name :: .str loc :: .int .i64 order :: .rs nx 4 cx :: .rs nt 7 ct :: .rs ne 7 ce :: rest), .int .i64 d] (.bool (Zae kind name loc order nx nt ne)) := by
 have hb : Z09 Tryz.prog 82 = true := by kernel_rfl
 have q1 : ∀ (m : Bool) (H : Z00), Z0e Tryz.prog (Z9V Z3a) H 82 [.str name, .bool m] = some (.bool (isW m name), H) := fun m H => Z8y hb rfl (by simp only [Z3a, isW]; rw [if_pos hn])
 have q2 : ∀ (m : Bool) (H : Z00), Z0e Tryz.prog (Z9V Z3a) H 82 [.str loc, .bool m] = some (.bool (isW m loc), H) := fun m H => Z8y hb rfl (by simp only [Z3a, isW]; rw [if_pos hl])
 by_cases h1 : kind < 1
 · have e1 : decide (kind < 1) = true := by simpa using h1
   refine Z15 follows noNum Z0i Tryz.func85 rfl ?_
   repeat' ((conv => whnf); (first | refine stp ?_ | with_reducible refine Z05 (fun h => ?_) (fun h => ?_)))
   all_goals (show AV.bool _ = AV.bool _; congr 1; unfold Zae; symm; rw [Bool.and_eq_false_iff]; left; simpa using fun h => absurd h (by omega))
 · have e1 : decide (kind < 1) = false := by simpa using h1
   by_cases h2 : 11 < kind
   · have e2 : decide (kind > 11) = true := by simpa using h2
     refine Z15 follows noNum Z0i Tryz.func85 rfl ?_
     repeat' ((conv => whnf); (first | refine stp ?_ | with_reducible refine Z05 (fun h => ?_) (fun h => ?_)))
     all_goals (show AV.bool _ = AV.bool _; congr 1; unfold Zae; symm; rw [Bool.and_eq_false_iff]; left; simpa using fun _ => h2)
   · clear e1
     have hop : kind = 1 \/ kind = 2 \/ kind = 3 \/ kind = 4 \/ kind = 5 \/ kind = 6 \/ kind = 7 \/ kind = 8 \/ kind = 9 \/ kind = 10 \/ kind = 11 := by omega
     clear h1 h2
     have b1 : ∀ m, isW m name = true \/ isW m name = false := fun m => by cases isW m name <;> simp
     have b2 : ∀ m, isW m loc = true \/ isW m loc = false := fun m => by cases isW m loc <;> simp
     rcases hop with rfl | rfl | rfl | rfl | rfl | rfl | rfl | rfl | rfl | rfl | rfl
     all_goals (refine Z15 follows noNum Z0i Tryz.func85 rfl ?_)
     all_goals (repeat' ((conv => whnf); first | (refine exI (q1 _ _) ?_) | (refine exI (q2 _ _) ?_) | (first | refine stp ?_ | with_reducible refine Z05 (fun h => ?_) (fun h => ?_))))
     all_goals (clear q1 q2 hb b1 b2)
     all_goals (first | rfl | (show AV.bool _ = AV.bool _; rw [AV.bool.injEq, Bool.eq_iff_iff]; simp_all [Zae, ZhJ, ZgA, Zgz, Zjg, ZjQ, Zkl]; done) | (show AV.bool _ = AV.bool _; rw [AV.bool.injEq, Bool.eq_iff_iff]; simp_all [Zae, ZhJ, ZgA, Zgz, Zjg, ZjQ, Zkl]; omega) | skip)
     all_goals trace_state
end Go.Proofs.YtbaoadpoknhhoaaGreatDoor.lex
end

section
namespace Go.Proofs.YtbaoadpoknhhoaaGreatDoor.lex
open Go.Abs Go.RowKit
set_option maxRecDepth 100000
set_option maxHeartbeats 4000000
def rS (x : St) (_ : Int) (s : Unit) : Bool × Unit := (Zgq x, s)
mutual
def Z68 : St -> Bool
 | .mk k n l o x t e => Zgq (.mk k n l o x t e) && (rightL x && (rightSL t && rightSL e))
def rightSL : List St -> Bool
 | [] => true
 | x :: l => Z68 x && rightSL l
end
theorem Zd0 : ∀ x : St, Z68 x = (Zgq x && (rightL x.exprs && (rightSL x.thn && rightSL x.els)))
 | .mk _ _ _ _ _ _ _ => by simp only [Z68, St.exprs, St.thn, St.els]
mutual
theorem Zkm : ∀ (x : St) (d : Int) (s : Unit), goS rE rS x d s = (Z68 x, ())
 | .mk k n l o x t e, d, s => by
  simp only [goS, rS, Z68, goL_r x (d + 1) (), goSL_r t (d + 1) (), goSL_r e (d + 1) (), Z0F]
  cases Zgq (.mk k n l o x t e) <;> cases rightL x <;> cases rightSL t <;> rfl
theorem goSL_r : ∀ (l : List St) (d : Int) (s : Unit), goSL rE rS l d s = (rightSL l, ())
 | [], d, s => by simp only [goSL, rightSL]
 | x :: l, d, s => by
  simp only [goSL, Zkm x d s, goSL_r l d (), rightSL, Z0F]
  cases Z68 x <;> rfl
end
def rV : TvS runLives.gl where
 σ := Unit
 Mem := fun _ => []
 k := 0
 len := fun _ => rfl
 same := fun _ => ⟨trivial, rfl, rfl⟩
 evo := fun _ _ => rfl
 inj := fun _ _ _ => rfl
 I := fun d s m => 0 <= d /\ d + m <= 1152921504606846976
 up := fun d s m h0 h => ⟨h0, by have := h.2; omega⟩
 less := fun d s m h => ⟨h.1, by have := h.2; omega⟩
 bnd := fun d s m h => ⟨h.1, by have := h.2; omega⟩
 gE := 84
 cE := []
 hE := rE
 bodyE := by kernel_rfl
 wkE := trivial
 okE := fun e rest d s m ho _ => Z7y (ZcZ e rest d ho) rfl
 downE := fun e d s m h _ => ⟨by have := h.1; omega, by have := h.2; omega⟩
 gS := 85
 cS := []
 hS := rS
 bodyS := by kernel_rfl
 wkS := trivial
 okS := fun x rest d s m ho _ => by
  refine Z7y ?_ rfl
  obtain ⟨k1, k2, _⟩ := Z38 ho
  obtain ⟨k, n, l, o, x, t, e⟩ := x
  simp only [St.cells, exA]
  exact Zc0 k n l o x.length t.length e.length _ _ _ rest d k1 k2
 downS := fun e d s m h _ => ⟨by have := h.1; omega, by have := h.2; omega⟩
theorem Zh3 (l : List St) (d : Int) (hok : okSL l) (hl : l.length <= 9223372036854775807) (h0 : 0 <= d) (h1 : d + sizeSL l <= 1152921504606846976) : ValOK Tryz.prog runLives.gl 83 [stA l, .int .i64 d, .func (.func 84) [] [], .func (.func 85) [] []] (.bool (rightSL l)) := by
 have := TvS.stmts rV (sizeSL l) l d () 0 (Nat.le_refl _) hok hl ⟨h0, h1⟩
 have e : (goSL rV.hE rV.hS l d ()).1 = rightSL l := by
  have := goSL_r l d ()
  show (goSL rE rS l d ()).1 = _
  rw [this]
 rw [e] at this
 exact ZbT this rfl
def cS (_ : St) (d : Int) (n : Nat) : Bool × Nat := (decide (((n + 1 : Nat) : Int) <= 2000) && decide (d <= 32), n + 1)
mutual
theorem Zkn : ∀ (x : St) (d : Int) (n : Nat), Cnt (goS cE cS x d n) n (Z2I x) (d + Zi5 x)
 | .mk k nm lc o x t e, d, n => by
  simp only [goS]
  refine Cnt.to (Z2S (Zaw d n) fun h1 h2 => Z2S (goL_c x (d + 1) (n + 1) h1 h2) fun h1 _ => Z2S (goSL_c t (d + 1) _ h1 h2) fun h1 _ => goSL_c e (d + 1) _ h1 h2) ?_ ?_
  · simp only [Z2I]; omega
  · simp only [Zi5]; omega
theorem goSL_c : ∀ (l : List St) (d : Int) (n : Nat), n <= 2000 -> d <= 33 -> Cnt (goSL cE cS l d n) n (sizeSL l) (d + deepSL l)
 | [], d, n, h1, h2 => by simp only [goSL, sizeSL, deepSL]; exact ⟨⟨fun _ => by omega, fun _ => rfl⟩, fun _ => rfl⟩
 | e :: l, d, n, h1, h2 => by
  simp only [goSL]
  exact (Z2S (Zkn e d n) fun h1 _ => goSL_c l d _ h1 h2).to (by simp only [sizeSL]) (by simp only [deepSL]; omega)
end
end Go.Proofs.YtbaoadpoknhhoaaGreatDoor.lex
end

section
namespace Go.Proofs.YtbaoadpoknhhoaaGreatDoor.lex
open Go.Abs Go.RowKit
set_option maxRecDepth 100000
set_option maxHeartbeats 4000000
def Z7O : List (List St) -> Nat
 | [] => 0
 | l :: t => max (deepSL l) (Z7O t)
end Go.Proofs.YtbaoadpoknhhoaaGreatDoor.lex
end

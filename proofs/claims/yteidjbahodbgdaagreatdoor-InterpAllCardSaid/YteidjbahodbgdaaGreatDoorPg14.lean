/-
  Texts of this proof, one behind the other (part 14).
-/
import Derived.Test.YteidjbahodbgdaaGreatDoorPg13
set_option linter.unusedVariables false
set_option linter.unusedSimpArgs false

section
namespace Go.Proofs.YteidjbahodbgdaaGreatDoor.lex
open Go.Abs Go.RowKit Go.Flat
set_option maxRecDepth 100000
set_option maxHeartbeats 4000000
variable {gl : Z0l}
theorem Z9n (c : Cd) (hok : okC c) (hs : ∀ i ∈ c.ins, ∀ e ∈ i.ex, Z0f e <= 800000) (az : List Int) (hal : az.length <= 1000) :
  ValOK Tryz.prog gl 16 [c.av, rsI az] (.tuple [.agg (Z0T (Z07 c az)), .int .i64 (Z1y c)]) := by
 have hck := Z2s (gl := gl) c hok hs
 have hfl := Z9R (gl := gl) c hok hs
 have hΦ : ∀ r' : AV, (∀ sn v, VR sn noI r' v -> VR sn noI (.tuple [.agg (Z0T (Z07 c az)), .int .i64 (Z1y c)]) v) -> ∀ sn v, VR sn noI r' v -> VR sn noI (.tuple [.agg (Z0T (Z07 c az)), .int .i64 (Z1y c)]) v := fun r' h => h
 have hgo : Z0E c = true -> ValOK Tryz.prog gl 37 [c.av, rsI az] (.agg (Z0T (Z07 c az))) := fun h => by
  have hc := Z1Z h
  obtain ⟨hr, hr0, hr16⟩ := Z3R hok hs hc
  have hst : Z07 c az = goI c.ins az (th0 c.regs.toNat) 0 := by unfold Z07; rw [if_pos h]
  rw [hst]
  have := Zj5 (gl := gl) hr (Z2G h) (by omega) az hal
  rw [show ((c.regs.toNat : Nat) : Int) = c.regs by omega] at this
  exact this
 have hnf : Z0E c = false -> Z07 c az = ⟨⟨0, [], []⟩, 0, none, 0⟩ := fun h => by unfold Z07; rw [if_neg (by rw [h]; decide)]
 have hfc : Z0E c = true -> Z31 c = 0 := Z1Z
 obtain ⟨O, hO, p1, p2, p3, -⟩ := fams (P := Tryz.prog) (gl := gl) [{ I := Unit, f := 12, G := fun _ => True, A := fun _ => [c.av], R := fun _ => .int .i64 (Z31 c), body := (by kernel_rfl), inj := fun _ _ _ _ _ => rfl, ok := fun _ _ => ⟨rfl, hck⟩ },
  { I := Unit, f := 13, G := fun _ => True, A := fun _ => [c.av], R := fun _ => .bool (Z0E c), body := (by kernel_rfl), inj := fun _ _ _ _ _ => rfl, ok := fun _ _ => ⟨rfl, hfl⟩ },
  { I := Unit, f := 37, G := fun _ => Z0E c = true, A := fun _ => [c.av, rsI az], R := fun _ => .agg (Z0T (Z07 c az)), body := (by kernel_rfl), inj := fun _ _ _ _ _ => rfl, ok := fun _ h => ⟨rfl, hgo h⟩ }] rfl
 have q1 : ∀ H, Z04 Tryz.prog O H 12 [c.av] = some (.int .i64 (Z31 c), H) := p1 () trivial
 have q2 : ∀ H, Z04 Tryz.prog O H 13 [c.av] = some (.bool (Z0E c), H) := p2 () trivial
 have q3 : Z0E c = true -> ∀ H, Z04 Tryz.prog O H 37 [c.av, rsI az] = some (.agg (Z0T (Z07 c az)), H) := p3 ()
 clear p1 p2 p3 hck hfl hgo hok hs
 unfold Z1y at *
 generalize Z07 c az = st at *
 generalize Z0E c = b at *
 generalize Z31 c = k at *
 obtain ⟨regs, l⟩ := c
 simp only [Cd.av, rsI] at *
 refine fn_valX follows Z09 hO hΦ Tryz.func16 rfl (Z3G _ _) ?_
 clear hΦ
 cases b with
 | true =>
  obtain rfl := hfc rfl
  have q3 := q3 rfl
  obtain ⟨⟨p, r, evs⟩, fin, q, asked⟩ := st
  cases q with
  | none =>
   simp only [Z0T, Z3H, rsE, rsI, List.cons_append, List.nil_append] at q3
   repeat' ((conv => whnf); first | (refine exI (q1 _) ?_) | (refine exI (q2 _) ?_) | (refine exI (q3 _) ?_) | (first | refine stp ?_ | with_reducible refine Z01 (fun h => ?_) (fun h => ?_)))
   all_goals exact fun sn v h => h
  | some q =>
   obtain ⟨qk, ql, qo, qa, qb⟩ := q
   simp only [Z0T, Z3H, quC, rsE, rsI, List.cons_append, List.nil_append] at q3
   repeat' ((conv => whnf); first | (refine exI (q1 _) ?_) | (refine exI (q2 _) ?_) | (refine exI (q3 _) ?_) | (first | refine stp ?_ | with_reducible refine Z01 (fun h => ?_) (fun h => ?_)))
   all_goals exact fun sn v h => h
 | false =>
  rw [hnf rfl]
  by_cases hk : k = 0
  · subst hk
    repeat' ((conv => whnf); first | (refine exI (q1 _) ?_) | (refine exI (q2 _) ?_) | (first | refine stp ?_ | with_reducible refine Z01 (fun h => ?_) (fun h => ?_)))
    all_goals exact fun sn v h => Zas (fun _ h => Z0X h) (fun _ h => Z0X h) h
  · have e1 : (k != 0) = true := by simpa using hk
    simp only [Bool.false_eq_true, if_false, if_neg hk]
    repeat' ((conv => whnf); first | (refine exI (q1 _) ?_) | (refine exI (q2 _) ?_) | (first | refine stp ?_ | with_reducible refine Z01 (fun h => ?_) (fun h => ?_)))
    all_goals exact fun sn v h => Zas (fun _ h => Z0X h) (fun _ h => Z0X h) h
end Go.Proofs.YteidjbahodbgdaaGreatDoor.lex
end

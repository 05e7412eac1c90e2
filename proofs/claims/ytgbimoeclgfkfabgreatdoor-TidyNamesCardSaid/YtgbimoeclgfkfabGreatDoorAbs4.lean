/-
  A verified abstract interpreter, part 4: the pure operations of the model's code.
-/
import Derived.Test.YtgbimoeclgfkfabGreatDoorAbs3
set_option linter.unusedSimpArgs false
set_option linter.unusedVariables false
namespace Go.Abs
open Go.RowKit

def aBinInt (op : BinOp) (k : IntKind) (a b : Int) : Option AV :=
  match op with
  | .add => some (.int k (k.wrap (a + b)))
  | .sub => some (.int k (k.wrap (a - b)))
  | .mul => some (.int k (k.wrap (a * b)))
  | .quo => if b = 0 then none else some (.int k (k.wrap (a.tdiv b)))
  | .rem => if b = 0 then none else some (.int k (a.tmod b))
  | .and => some (.int k (bits .and k a b))
  | .or => some (.int k (bits .or k a b))
  | .xor => some (.int k (bits .xor k a b))
  | .andNot => some (.int k (bits .andNot k a b))
  | .eql => some (.bool (a == b))
  | .neq => some (.bool (a != b))
  | .lss => some (.bool (decide (a < b)))
  | .leq => some (.bool (decide (a ≤ b)))
  | .gtr => some (.bool (decide (a > b)))
  | .geq => some (.bool (decide (a ≥ b)))
  | .shl => none
  | .shr => none

def aBinStr (op : BinOp) (a b : List UInt8) : Option AV :=
  match op with
  | .add => if a.length + b.length ≤ 9223372036854775807 then some (.str (a ++ b)) else none
  | .eql => some (.bool (a == b))
  | .neq => some (.bool !(a == b))
  | .lss => some (.bool (Op.bytesLess a b))
  | .leq => some (.bool (Op.bytesLess a b || a == b))
  | .gtr => some (.bool !(Op.bytesLess a b || a == b))
  | .geq => some (.bool !(Op.bytesLess a b))
  | _ => none

def aBin (P : Program) (op : BinOp) (t : TypeId) (x y : AV) : Option AV :=
  match x, y with
  | .int k a, .int k' b =>
    match op with
    | .shl => if b < 0 then none else some (.int k (k.wrap (a * 2 ^ (min b.toNat k.bits))))
    | .shr => if b < 0 then none else some (.int k (a.fdiv (2 ^ (min b.toNat k.bits))))
    | _ => if k = k' then aBinInt op k a b else none
  | .str a, .str b => aBinStr op a b
  | .agg a, .agg b =>
    if P.eqGuardType P.depth t then none else
    match op with
    | .eql => match aEq P 10000 t x y with | some r => some (.bool r) | none => none
    | .neq => match aEq P 10000 t x y with | some r => some (.bool !r) | none => none
    | _ => none
  | .niface, _ => none
  | .iface _ _, _ => none
  | .tuple _, _ => none
  | x, y =>
    match op with
    | .eql => match aEq P 10000 t x y with | some r => some (.bool r) | none => none
    | .neq => match aEq P 10000 t x y with | some r => some (.bool !r) | none => none
    | _ => none

section pure
variable {P : Program} {sn : Snap} {ι : IMap} {H : AHeap} {W : World}

theorem ex_int {s : Sem Value} {k : IntKind} {n : Int} {w : World} (h : s.run P w = .ok (.int k n) w) : ∃ x, s.run P w = .ok x w ∧ VR sn ι (.int k n) x := ⟨_, h, vr_int _ _⟩
theorem ex_bool {s : Sem Value} {b : Bool} {w : World} (h : s.run P w = .ok (.bool b) w) : ∃ x, s.run P w = .ok x w ∧ VR sn ι (.bool b) x := ⟨_, h, vr_bool _⟩

theorem aBinInt_sound {op : BinOp} {k : IntKind} {a b : Int} {u : AV} (h : aBinInt op k a b = some u) (t : TypeId) (w : World) :
    ∃ x, (binOp op t (.int k a) (.int k b)).run P w = .ok x w ∧ VR sn ι u x := by
  cases op <;> simp only [aBinInt] at h
  case quo => split at h <;> simp at h; subst h; rename_i hb; exact ex_int (by simp [binOp_quo, Op.intDiv, hb])
  case rem => split at h <;> simp at h; subst h; rename_i hb; exact ex_int (by simp [binOp_rem, Op.intDiv, hb])
  case shl => simp at h
  case shr => simp at h
  all_goals
    simp at h; subst h
    first
      | exact ex_int (by simp [binOp_add, binOp_sub, binOp_mul, Op.intArith])
      | exact ex_int (by simp [binOp_and, binOp_or, binOp_xor, binOp_andNot, intBits_and, intBits_or, intBits_xor, intBits_andNot])
      | exact ex_bool (by simp [binOp_eql, binOp_neq, binOp_lss, binOp_leq, binOp_gtr, binOp_geq])

theorem aBinStr_sound {op : BinOp} {a b : List UInt8} {u : AV} (h : aBinStr op a b = some u) (t : TypeId) {x y : ByteArray} (hx : x.data.toList = a) (hy : y.data.toList = b) (w : World) :
    ∃ z, (binOp op t (.string x) (.string y)).run P w = .ok z w ∧ VR sn ι u z := by
  have e : binOp op t (.string x) (.string y) = Op.stringOp op x y := by cases op <;> rfl
  rw [e]
  have lx : x.size = a.length := by rw [← hx]; cases x; rfl
  have ly : y.size = b.length := by rw [← hy]; cases y; rfl
  subst hx; subst hy
  cases op <;> simp only [aBinStr] at h
  case add =>
    split at h <;> simp at h
    subst h; rename_i hl
    refine ⟨.string (x ++ y), ?_, vr_str (by simp)⟩
    have : ¬ (((x.size + y.size : Nat) : Int) > IntKind.i64.max) := by simp [IntKind.max, IntKind.bits, IntKind.signed]; omega
    simp only [Op.stringOp, this, if_false, Sem.run_pure]
  all_goals first
    | (simp at h; done)
    | (simp only [Option.some.injEq] at h; subst h; exact ex_bool (by simp only [Op.stringOp, ByteArray.toList_eq, Sem.run_pure]))

theorem aBin_sound {op : BinOp} {t : TypeId} {x y u : AV} (h : aBin P op t x y = some u) {x' y' : Value} (hx : VR sn ι x x') (hy : VR sn ι y y') (ox oy : Operand) (w : World) :
    ∃ z, (do eqGuard op t ox oy x' y'; binOp op t x' y' : Sem Value).run P w = .ok z w ∧ VR sn ι u z := by
  unfold aBin at h
  split at h
  case _ k a k' b =>
    cases hx.int; cases hy.int
    have hg : eqGuard op t ox oy (.int k a) (.int k' b) = pure () := by cases op <;> rfl
    simp only [hg, Sem.run_bind, Sem.run_pure, Result.andThen_ok]
    split at h
    · split at h <;> simp at h
      subst h; rename_i hb
      exact ex_int (by simp [binOp_shl, Op.shift, hb])
    · split at h <;> simp at h
      subst h; rename_i hb
      exact ex_int (by simp [binOp_shr, Op.shift, hb])
    · split at h
      · rename_i hk; subst hk; exact aBinInt_sound h t w
      · simp at h
  case _ a b =>
    obtain ⟨ba, rfl, hba⟩ := hx.str; obtain ⟨bb, rfl, hbb⟩ := hy.str
    have hg : eqGuard op t ox oy (.string ba) (.string bb) = pure () := by cases op <;> rfl
    simp only [hg, Sem.run_bind, Sem.run_pure, Result.andThen_ok]
    exact aBinStr_sound h t hba hbb w
  case _ a b =>
    split at h
    · simp at h
    rename_i hgt
    obtain ⟨dx, rfl, hdx⟩ := hx.agg; obtain ⟨dy, rfl, hdy⟩ := hy.agg
    have hgr : (eqGuard op t ox oy (.agg dx) (.agg dy)).run P w = .ok () w := by
      cases op <;> simp [eqGuard, hgt]
    split at h
    · split at h <;> simp at h
      subst h; rename_i r he
      have hrun := aEq_sound 10000 t _ _ r he _ _ hx hy w
      exact ex_bool (by simp only [Sem.run_bind, hgr, Result.andThen_ok, binOp, Op.equal, Op.maxDepth, hrun, Sem.run_pure])
    · split at h <;> simp at h
      subst h; rename_i r he
      have hrun := aEq_sound 10000 t _ _ r he _ _ hx hy w
      exact ex_bool (by simp only [Sem.run_bind, hgr, Result.andThen_ok, binOp, Op.equal, Op.maxDepth, hrun, Sem.run_pure])
    · simp at h
  case _ => simp at h
  case _ => simp at h
  case _ => simp at h
  case _ h1 h2 h3 h4 h5 h6 =>
    have fin : ∀ r, aEq P 10000 t x y = some r → eqGuard op t ox oy x' y' = pure () ∧ (binOp .eql t x' y' = (do pure (.bool (← Op.equal t x' y')) : Sem Value)) ∧ (binOp .neq t x' y' = (do pure (.bool (!(← Op.equal t x' y'))) : Sem Value)) := by
      intro r he
      rw [show (10000 : Nat) = 9999 + 1 from rfl] at he
      unfold aEq at he
      split at he
      all_goals first
        | (exfalso; first | exact h4 _ _ _ _ rfl rfl | exact h5 _ _ rfl rfl | exact h6 _ _ rfl rfl)
        | (simp at he; done)
        | (simp only [VR] at hx hy
           try (replace hx := hx.resolve_left (fun h0 => absurd h0.1 (Nat.succ_ne_zero _)))
           try (replace hy := hy.resolve_left (fun h0 => absurd h0.1 (Nat.succ_ne_zero _)))
           first | (subst hx) | (obtain ⟨_, _, rfl⟩ := hx) | (obtain ⟨_, _, _, _, rfl, _⟩ := hx) | (obtain ⟨_, _, _, rfl, _⟩ := hx) | (obtain ⟨_, _, rfl, _⟩ := hx)
           first | (subst hy) | (obtain ⟨_, _, rfl⟩ := hy) | (obtain ⟨_, _, _, _, rfl, _⟩ := hy) | (obtain ⟨_, _, _, rfl, _⟩ := hy) | (obtain ⟨_, _, rfl, _⟩ := hy)
           exact ⟨by cases op <;> rfl, rfl, rfl⟩)
    split at h
    · split at h <;> simp at h
      subst h; rename_i r he
      obtain ⟨f1, f2, f3⟩ := fin r he
      have hrun := aEq_sound 10000 t _ _ r he _ _ hx hy w
      exact ex_bool (by simp only [Sem.run_bind, f1, Sem.run_pure, Result.andThen_ok, f2, Op.equal, Op.maxDepth, hrun])
    · split at h <;> simp at h
      subst h; rename_i r he
      obtain ⟨f1, f2, f3⟩ := fin r he
      have hrun := aEq_sound 10000 t _ _ r he _ _ hx hy w
      exact ex_bool (by simp only [Sem.run_bind, f1, Sem.run_pure, Result.andThen_ok, f3, Op.equal, Op.maxDepth, hrun])
    · simp at h
end pure
end Go.Abs

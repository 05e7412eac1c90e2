/-
  A verified abstract interpreter, part 42: a call of a function that writes to some of the caller's blocks; all else it is handed is read alone.
-/
import Derived.Test.YtajhailaofchlaaDoorAbs41
set_option linter.unusedSimpArgs false
set_option linter.unusedVariables false
namespace Go.Abs
open Go.RowKit

mutual
/-- Nothing that is read alone is named. -/
def noRO : AV → Bool
  | .rp _ => false
  | .rs _ _ _ => false
  | .func _ f c => noROL f && noROL c
  | .iface _ v => noRO v
  | .agg cs => noROL cs
  | .tuple cs => noROL cs
  | .bool _ => true
  | .int _ _ => true
  | .str _ => true
  | .nptr => true
  | .ptr _ _ => true
  | .nslice => true
  | .slice _ _ _ _ _ => true
  | .nmap => true
  | .map _ => true
  | .nfunc => true
  | .niface => true
def noROL : List AV → Bool
  | [] => true
  | c :: l => noRO c && noROL l
end
def noROE : List (AV × AV × Nat) → Bool
  | [] => true
  | (k, v, _) :: l => noRO k && (noRO v && noROE l)
def noROB : ABody → Bool
  | .cells cs _ => noROL cs
  | .map es _ => noROE es
  | .siter _ _ => true
def noROH : AHeap → Bool
  | [] => true
  | o :: l => noROB o.body && noROH l
mutual
theorem VR_snap {sn sn' : Snap} {ι : IMap} : ∀ (u : AV) (v : Value), noRO u = true → VR sn ι u v → VR sn' ι u v
  | .rp _, v, h, e => by simp [noRO] at h
  | .rs _ _ _, v, h, e => by simp [noRO] at h
  | .func fn f c, v, h, e => by
    simp only [noRO, Bool.and_eq_true] at h
    simp only [VR] at *; obtain ⟨x, y, h1, h2, h3⟩ := e
    exact ⟨x, y, h1, LR_snap f _ h.1 h2, LR_snap c _ h.2 h3⟩
  | .iface t u, v, h, e => by
    simp only [noRO] at h
    simp only [VR] at *; obtain ⟨x, h1, h2⟩ := e
    exact ⟨x, h1, VR_snap u _ h h2⟩
  | .agg cs, v, h, e => by
    simp only [noRO] at h
    simp only [VR] at *; obtain ⟨x, h1, h2⟩ := e
    exact ⟨x, h1, LR_snap cs _ h h2⟩
  | .tuple cs, v, h, e => by
    simp only [noRO] at h
    simp only [VR] at *; obtain ⟨x, h1, h2⟩ := e
    exact ⟨x, h1, LR_snap cs _ h h2⟩
  | .bool _, v, h, e => by simpa [VR] using e
  | .int _ _, v, h, e => by simpa [VR] using e
  | .str _, v, h, e => by simpa [VR] using e
  | .nptr, v, h, e => by simpa [VR] using e
  | .ptr _ _, v, h, e => by simpa [VR] using e
  | .nslice, v, h, e => by simpa [VR] using e
  | .slice _ _ _ _ _, v, h, e => by simpa [VR] using e
  | .nmap, v, h, e => by simpa [VR] using e
  | .map _, v, h, e => by simpa [VR] using e
  | .nfunc, v, h, e => by simpa [VR] using e
  | .niface, v, h, e => by simpa [VR] using e
theorem LR_snap {sn sn' : Snap} {ι : IMap} : ∀ (us : List AV) (vs : List Value), noROL us = true → LR sn ι us vs → LR sn' ι us vs
  | [], vs, h, e => by simpa [LR] using e
  | u :: us, vs, h, e => by
    simp only [noROL, Bool.and_eq_true] at h
    simp only [LR] at *; obtain ⟨d, ds, h1, h2, h3⟩ := e
    exact ⟨d, ds, h1, VR_snap u _ h.1 h2, LR_snap us _ h.2 h3⟩
end
theorem ER_snap {sn sn' : Snap} {ι : IMap} : ∀ (es : List (AV × AV × Nat)) (l : List MapEntry), noROE es = true → ER sn ι es l → ER sn' ι es l
  | [], l, h, e => by simpa [ER] using e
  | (k, v, n) :: es, l, h, e => by
    simp only [noROE, Bool.and_eq_true] at h
    simp only [ER] at *
    obtain ⟨x, l', h1, h2, h3, h4, h5⟩ := e
    exact ⟨x, l', h1, VR_snap k _ h.1 h2, VR_snap v _ h.2.1 h3, h4, ER_snap es _ h.2.2 h5⟩
theorem OR_snap {sn sn' : Snap} {ι : IMap} {W : World} {p : Place} : ∀ (b : ABody), noROB b = true → OR sn ι W b p → OR sn' ι W b p
  | .cells cs ty, h, e => by
    simp only [OR] at e ⊢
    obtain ⟨arr, h1, h2, h3, h4⟩ := e
    refine ⟨arr, h1, h2, h3, fun i c hc => ?_⟩
    obtain ⟨v, k1, k2⟩ := h4 i c hc
    have hn : ∀ (l : List AV) (i : Nat), noROL l = true → l[i]? = some c → noRO c = true := by
      intro l
      induction l with
      | nil => intro i h hc; simp at hc
      | cons x l ih =>
        intro i h hc
        simp only [noROL, Bool.and_eq_true] at h
        cases i with
        | zero => simp at hc; subst hc; exact h.1
        | succ i => exact ih i h.2 (by simpa using hc)
    exact ⟨v, k1, VR_snap c v (hn cs i h hc) k2⟩
  | .map es c, h, e => by
    simp only [OR] at e ⊢
    obtain ⟨mes, h1, h2⟩ := e
    exact ⟨mes, h1, ER_snap es _ h h2⟩
  | .siter s q, h, e => by simpa only [OR] using e

/-! names turned back -/
def renE (f : Nat → Nat) : List (AV × AV × Nat) → List (AV × AV × Nat)
  | [] => []
  | (k, v, n) :: l => (ren f k, ren f v, n) :: renE f l
def renB (f : Nat → Nat) : ABody → ABody
  | .cells cs ty => .cells (renL f cs) ty
  | .map es c => .map (renE f es) c
  | .siter s p => .siter s p
theorem renL_get (f : Nat → Nat) : ∀ (l : List AV) (i : Nat), (renL f l)[i]? = (l[i]?).map (ren f)
  | [], i => by simp [renL]
  | c :: l, 0 => by simp [renL]
  | c :: l, i + 1 => by simpa [renL] using renL_get f l i
theorem renL_len (f : Nat → Nat) : ∀ (l : List AV), (renL f l).length = l.length
  | [] => rfl
  | c :: l => by simp [renL, renL_len f l]
theorem ER_ren {sn : Snap} {ι : IMap} {f : Nat → Nat} : ∀ (es : List (AV × AV × Nat)) (l : List MapEntry), ER sn (fun b => ι (f b)) es l → ER sn ι (renE f es) l
  | [], l, e => by simpa [ER, renE] using e
  | (k, v, n) :: es, l, e => by
    simp only [ER, renE] at *
    obtain ⟨x, l', h1, h2, h3, h4, h5⟩ := e
    exact ⟨x, l', h1, (VR_ren k _).2 h2, (VR_ren v _).2 h3, h4, ER_ren es _ h5⟩
theorem OR_ren {sn : Snap} {ι : IMap} {f : Nat → Nat} {W : World} {p : Place} : ∀ (b : ABody), OR sn (fun b => ι (f b)) W b p → OR sn ι W (renB f b) p
  | .cells cs ty, e => by
    simp only [OR, renB] at *
    obtain ⟨arr, h1, h2, h3, h4⟩ := e
    refine ⟨arr, h1, h2, by rw [renL_len]; exact h3, fun i c hc => ?_⟩
    rw [renL_get] at hc
    cases hx : cs[i]? with
    | none => rw [hx] at hc; cases hc
    | some x =>
      rw [hx] at hc; simp at hc; subst hc
      obtain ⟨v, k1, k2⟩ := h4 i x hx
      exact ⟨v, k1, (VR_ren x _).2 k2⟩
  | .map es c, e => by
    simp only [OR, renB] at *
    obtain ⟨mes, h1, h2⟩ := e
    exact ⟨mes, h1, ER_ren es _ h2⟩
  | .siter s q, e => by simpa only [OR, renB] using e

/-! what a call is handed -/
def posN : List Nat → Nat → Nat → Option Nat
  | [], _, _ => none
  | j :: l, b, i => if Nat.beq j b then some i else posN l b (i + 1)
theorem posN_some : ∀ {m : List Nat} {b i j : Nat}, posN m b i = some j → i ≤ j ∧ m[j - i]? = some b
  | [], b, i, j, h => by simp [posN] at h
  | x :: m, b, i, j, h => by
    simp only [posN] at h
    split at h
    · rename_i e
      cases h
      exact ⟨Nat.le_refl _, by simp [Nat.eq_of_beq_eq_true e]⟩
    · obtain ⟨h1, h2⟩ := posN_some h
      refine ⟨by omega, ?_⟩
      rw [show j - i = (j - (i + 1)) + 1 by omega]; simpa using h2
theorem posN_none : ∀ {m : List Nat} {b i : Nat}, posN m b i = none → b ∉ m
  | [], b, i, h => by simp
  | x :: m, b, i, h => by
    simp only [posN] at h
    split at h
    · cases h
    · rename_i e
      intro hm
      rcases List.mem_cons.1 hm with rfl | hm
      · exact e (by simp)
      · exact posN_none h hm
/-- A value as a callee is handed it: blocks of m by their place in it, all else with all that it leads to. -/
def frzM (m : List Nat) (Hk : AHeap) : Nat → AV → Option AV
  | 0, _ => none
  | n + 1, u => match u with
    | .ptr b off => match posN m b 0 with | some i => some (.ptr i off) | none => frz Hk 30 (.ptr b off)
    | .slice b off len cap z => match posN m b 0 with | some i => some (.slice i off len cap z) | none => frz Hk 30 (.slice b off len cap z)
    | .map b => match posN m b 0 with | some i => some (.map i) | none => none
    | .func fn f c => match frzL (frzM m Hk n) f, frzL (frzM m Hk n) c with | some f, some c => some (.func fn f c) | _, _ => none
    | u => frz Hk 30 u
/-- No block beside those of m is of their families. -/
def loneM (m fs : List Nat) : Nat → AHeap → Bool
  | _, [] => true
  | i, o :: H => (mem i m || !mem o.fam fs) && loneM m fs (i + 1) H
theorem loneM_get {m fs : List Nat} : ∀ {H : AHeap} {i j : Nat} {o : AObj}, loneM m fs i H = true → H[j]? = some o → i + j ∈ m ∨ o.fam ∉ fs
  | [], i, j, o, h, e => by simp at e
  | x :: H, i, 0, o, h, e => by
    simp only [loneM, Bool.and_eq_true, Bool.or_eq_true, Bool.not_eq_true'] at h
    simp at e; subst e
    rcases h.1 with h1 | h1
    · exact .inl (mem_iff.1 h1)
    · exact .inr fun e => by rw [mem_iff.2 e] at h1; cases h1
  | x :: H, i, j + 1, o, h, e => by
    simp only [loneM, Bool.and_eq_true] at h
    have := loneM_get h.2 (by simpa using e)
    rcases this with h1 | h1
    · exact .inl (by rw [show i + (j + 1) = i + 1 + j by omega]; exact h1)
    · exact .inr h1
/-- The caller's memory behind the call. -/
def updM (m : List Nat) (Hs : AHeap) : Nat → AHeap → AHeap
  | _, [] => []
  | i, o :: H => (match posN m i 0 with
    | some j => match Hs[j]? with
      | some o' => { o with alive := o'.alive, body := renB (fun b => m.getD b 0) o'.body }
      | none => o
    | none => o) :: updM m Hs (i + 1) H
end Go.Abs

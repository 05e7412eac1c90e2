/-
  A verified abstract interpreter, part 21: the same, cheap for the kernel: trees of temporaries (their ways laid ahead) and of blocks.
-/
import Derived.Test.YtgbimoeclgfkfabGreatDoorAbs20
set_option linter.unusedSimpArgs false
set_option linter.unusedVariables false
namespace Go.Abs
open Go.RowKit

/-! a node of eight -/
structure N8 (α : Type) where
  a0 : α
  a1 : α
  a2 : α
  a3 : α
  a4 : α
  a5 : α
  a6 : α
  a7 : α

/-- What the kernel has reckoned once and finds again. -/
structure Bx (α : Type) where
  v : α

def N8.sel {α : Type} (e : N8 α) : Nat → α
  | 0 => e.a0 | 1 => e.a1 | 2 => e.a2 | 3 => e.a3 | 4 => e.a4 | 5 => e.a5 | 6 => e.a6 | _ => e.a7

def N8.upd {α : Type} (e : N8 α) (v : α) : Nat → N8 α
  | 0 => { e with a0 := v } | 1 => { e with a1 := v } | 2 => { e with a2 := v } | 3 => { e with a3 := v } | 4 => { e with a4 := v } | 5 => { e with a5 := v } | 6 => { e with a6 := v } | _ => { e with a7 := v }

theorem N8.sel_upd {α : Type} (e : N8 α) (v : α) {i j : Nat} (hi : i < 8) (hj : j < 8) : (e.upd v i).sel j = if j = i then v else e.sel j := by
  match i, hi with
  | 0, _ | 1, _ | 2, _ | 3, _ | 4, _ | 5, _ | 6, _ | 7, _ =>
    match j, hj with
    | 0, _ | 1, _ | 2, _ | 3, _ | 4, _ | 5, _ | 6, _ | 7, _ => simp [N8.upd, N8.sel]

/-- Trees of depth d. -/
def Tre (α : Type) : Nat → Type
  | 0 => α
  | d + 1 => N8 (Tre α d)

def teget {α : Type} : (d : Nat) → Nat → Tre α d → α
  | 0, _, e => e
  | d + 1, t, e => teget d (t / 8) (N8.sel e (t % 8))

def teput {α : Type} : (d : Nat) → Nat → α → Tre α d → Tre α d
  | 0, _, v, _ => v
  | d + 1, t, v, e => N8.upd e (teput d (t / 8) v (N8.sel e (t % 8))) (t % 8)

theorem teget_put {α : Type} : ∀ (d t s : Nat) (v : α) (e : Tre α d), t < 8 ^ d → s < 8 ^ d → teget d s (teput d t v e) = if s = t then v else teget d s e
  | 0, t, s, v, e, ht, hs => by
    simp at ht hs; subst ht; subst hs; simp [teget, teput]
  | d + 1, t, s, v, e, ht, hs => by
    have ht' : t / 8 < 8 ^ d := by rw [Nat.pow_succ] at ht; omega
    have hs' : s / 8 < 8 ^ d := by rw [Nat.pow_succ] at hs; omega
    refine (congrArg (teget d (s / 8)) (N8.sel_upd (α := Tre α d) e (teput d (t / 8) v (N8.sel (α := Tre α d) e (t % 8))) (i := t % 8) (j := s % 8) (by omega) (by omega))).trans ?_
    by_cases h : s % 8 = t % 8
    · rw [if_pos h, teget_put d _ _ _ _ ht' hs']
      have e1 : (s / 8 = t / 8) ↔ s = t := by omega
      have e2 : teget (d + 1) s e = teget d (s / 8) (N8.sel (α := Tre α d) e (t % 8)) := by rw [← h]; rfl
      rw [e2]; simp only [e1]
    · rw [if_neg h, if_neg (by intro e; exact h (by rw [e]))]; rfl

/-! the ways, laid ahead -/
noncomputable def selB {α : Type} (k : Nat) : Bx (N8 α → α) :=
  Nat.rec ⟨fun e => e.a0⟩ (fun k _ => Nat.rec ⟨fun e => e.a1⟩ (fun k _ => Nat.rec ⟨fun e => e.a2⟩ (fun k _ => Nat.rec ⟨fun e => e.a3⟩ (fun k _ => Nat.rec ⟨fun e => e.a4⟩ (fun k _ => Nat.rec ⟨fun e => e.a5⟩
    (fun k _ => Nat.rec ⟨fun e => e.a6⟩ (fun _ _ => ⟨fun e => e.a7⟩) k) k) k) k) k) k) k

theorem selB_eq {α : Type} : ∀ (k : Nat) (e : N8 α), (selB k).v e = e.sel k
  | 0, _ | 1, _ | 2, _ | 3, _ | 4, _ | 5, _ | 6, _ | _ + 7, _ => rfl

noncomputable def getB (α : Type) (d : Nat) : Nat → Bx (Tre α d → α) :=
  Nat.rec (motive := fun d => Nat → Bx (Tre α d → α)) (fun _ => ⟨fun e => e⟩) (fun d ih t => Bx.rec (fun g => Bx.rec (fun s => ⟨fun e => g (s e)⟩) (selB (α := Tre α d) (Nat.mod t 8))) (ih (Nat.div t 8))) d

theorem getB_eq {α : Type} : ∀ (d t : Nat) (e : Tre α d), (getB α d t).v e = teget d t e
  | 0, t, e => rfl
  | d + 1, t, e => by
    refine (congrArg (getB α d (t / 8)).v (selB_eq (α := Tre α d) (t % 8) e)).trans ?_
    exact getB_eq d _ _

abbrev PutT (α β : Type) (d : Nat) := α → Tre α d → (Tre α d → β) → β

noncomputable def putN {α β γ : Type} (k : Nat) : Bx ((α → γ → (γ → β) → β) → α → N8 γ → (N8 γ → β) → β) :=
  Nat.rec ⟨fun g v e f => N8.rec (fun a0 a1 a2 a3 a4 a5 a6 a7 => g v a0 fun x => f ⟨x, a1, a2, a3, a4, a5, a6, a7⟩) e⟩ (fun k _ =>
  Nat.rec ⟨fun g v e f => N8.rec (fun a0 a1 a2 a3 a4 a5 a6 a7 => g v a1 fun x => f ⟨a0, x, a2, a3, a4, a5, a6, a7⟩) e⟩ (fun k _ =>
  Nat.rec ⟨fun g v e f => N8.rec (fun a0 a1 a2 a3 a4 a5 a6 a7 => g v a2 fun x => f ⟨a0, a1, x, a3, a4, a5, a6, a7⟩) e⟩ (fun k _ =>
  Nat.rec ⟨fun g v e f => N8.rec (fun a0 a1 a2 a3 a4 a5 a6 a7 => g v a3 fun x => f ⟨a0, a1, a2, x, a4, a5, a6, a7⟩) e⟩ (fun k _ =>
  Nat.rec ⟨fun g v e f => N8.rec (fun a0 a1 a2 a3 a4 a5 a6 a7 => g v a4 fun x => f ⟨a0, a1, a2, a3, x, a5, a6, a7⟩) e⟩ (fun k _ =>
  Nat.rec ⟨fun g v e f => N8.rec (fun a0 a1 a2 a3 a4 a5 a6 a7 => g v a5 fun x => f ⟨a0, a1, a2, a3, a4, x, a6, a7⟩) e⟩ (fun k _ =>
  Nat.rec ⟨fun g v e f => N8.rec (fun a0 a1 a2 a3 a4 a5 a6 a7 => g v a6 fun x => f ⟨a0, a1, a2, a3, a4, a5, x, a7⟩) e⟩ (fun _ _ =>
  ⟨fun g v e f => N8.rec (fun a0 a1 a2 a3 a4 a5 a6 a7 => g v a7 fun x => f ⟨a0, a1, a2, a3, a4, a5, a6, x⟩) e⟩) k) k) k) k) k) k) k

theorem putN_eq {α β γ : Type} : ∀ (k : Nat) (g : α → γ → (γ → β) → β) (v : α) (e : N8 γ) (f : N8 γ → β), (putN k).v g v e f = g v (e.sel k) fun x => f (e.upd x k)
  | 0, _, _, _, _ | 1, _, _, _, _ | 2, _, _, _, _ | 3, _, _, _, _ | 4, _, _, _, _ | 5, _, _, _, _ | 6, _, _, _, _ | _ + 7, _, _, _, _ => rfl

noncomputable def putB (α β : Type) (d : Nat) : Nat → Bx (PutT α β d) :=
  Nat.rec (motive := fun d => Nat → Bx (PutT α β d)) (fun _ => ⟨fun v _ f => f v⟩) (fun d ih t => Bx.rec (fun g => Bx.rec (fun s => ⟨fun v e f => s g v e f⟩) (putN (γ := Tre α d) (Nat.mod t 8))) (ih (Nat.div t 8))) d

theorem putB_eq {α β : Type} : ∀ (d t : Nat) (v : α) (e : Tre α d) (f : Tre α d → β), (putB α β d t).v v e f = f (teput d t v e)
  | 0, t, v, e, f => rfl
  | d + 1, t, v, e, f => by
    refine (putN_eq (γ := Tre α d) (t % 8) (putB α β d (t / 8)).v v e f).trans ?_
    exact putB_eq d _ _ _ _

/-- The same everywhere. -/
def tesame {α : Type} (v : α) : (d : Nat) → Tre α d
  | 0 => v
  | d + 1 => ⟨tesame v d, tesame v d, tesame v d, tesame v d, tesame v d, tesame v d, tesame v d, tesame v d⟩

theorem teget_same {α : Type} (v : α) : ∀ (d t : Nat), teget d t (tesame v d) = v
  | 0, t => rfl
  | d + 1, t => by
    simp only [teget, tesame]
    have : ∀ k, N8.sel (⟨tesame v d, tesame v d, tesame v d, tesame v d, tesame v d, tesame v d, tesame v d, tesame v d⟩ : N8 (Tre α d)) k = tesame v d := by
      intro k; match k with
      | 0 | 1 | 2 | 3 | 4 | 5 | 6 | _ + 7 => rfl
    rw [this]; exact teget_same v d _

/-! blocks: a tree of two -/
def BT (α : Type) : Nat → Type
  | 0 => α
  | d + 1 => BT α d × BT α d

noncomputable def btget {α : Type} (z : α) (d : Nat) : Nat → BT α d → α :=
  Nat.rec (motive := fun d => Nat → BT α d → α) (fun b t => Bool.rec z t (Nat.beq b 0)) (fun _ ih b t => ih (Nat.div b 2) (Bool.rec t.2 t.1 (Nat.beq (Nat.mod b 2) 0))) d

noncomputable def btput {α : Type} (d : Nat) : Nat → α → BT α d → BT α d :=
  Nat.rec (motive := fun d => Nat → α → BT α d → BT α d) (fun _ v _ => v) (fun _ ih b v t => Bool.rec (t.1, ih (Nat.div b 2) v t.2) (ih (Nat.div b 2) v t.1, t.2) (Nat.beq (Nat.mod b 2) 0)) d

noncomputable def btputK {α β : Type} (d : Nat) : Nat → α → BT α d → (BT α d → β) → β :=
  Nat.rec (motive := fun d => Nat → α → BT α d → (BT α d → β) → β) (fun _ v _ f => f v)
    (fun _ ih b v t f => Prod.rec (fun l r => Bool.rec (ih (Nat.div b 2) v r fun x => f (l, x)) (ih (Nat.div b 2) v l fun x => f (x, r)) (Nat.beq (Nat.mod b 2) 0)) t) d

theorem btputK_eq {α β : Type} : ∀ (d b : Nat) (v : α) (t : BT α d) (f : BT α d → β), btputK d b v t f = f (btput d b v t)
  | 0, b, v, t, f => rfl
  | d + 1, b, v, (l, r), f => by
    show (Bool.rec (btputK d (b / 2) v r fun x => f (l, x)) (btputK d (b / 2) v l fun x => f (x, r)) (Nat.beq (b % 2) 0) : β) = f (Bool.rec (l, btput d (b / 2) v r) (btput d (b / 2) v l, r) (Nat.beq (b % 2) 0))
    cases Nat.beq (b % 2) 0 with
    | true => exact btputK_eq d _ _ _ _
    | false => exact btputK_eq d _ _ _ _

theorem btget_ge {α : Type} (z : α) : ∀ (d b : Nat) (t : BT α d), 2 ^ d ≤ b → btget z d b t = z
  | 0, b, t, h => by
    show (Bool.rec z t (Nat.beq b 0) : α) = z
    have : Nat.beq b 0 = false := by cases hq : Nat.beq b 0 with | false => rfl | true => have := Nat.eq_of_beq_eq_true hq; simp at h; omega
    rw [this]
  | d + 1, b, t, h => by
    show btget z d (b / 2) (Bool.rec t.2 t.1 (Nat.beq (b % 2) 0)) = z
    exact btget_ge z d _ _ (by rw [Nat.pow_succ] at h; omega)

theorem btget_put {α : Type} (z : α) : ∀ (d b c : Nat) (v : α) (t : BT α d), b < 2 ^ d → btget z d c (btput d b v t) = if c = b then v else btget z d c t
  | 0, b, c, v, t, h => by
    simp at h; subst h
    show (Bool.rec z v (Nat.beq c 0) : α) = if c = 0 then v else (Bool.rec z t (Nat.beq c 0) : α)
    by_cases hc : c = 0
    · subst hc; simp
    · have : Nat.beq c 0 = false := by cases hq : Nat.beq c 0 with | false => rfl | true => exact absurd (Nat.eq_of_beq_eq_true hq) hc
      rw [if_neg hc, this]
  | d + 1, b, c, v, t, h => by
    have h' : b / 2 < 2 ^ d := by rw [Nat.pow_succ] at h; omega
    show btget z d (c / 2) (Bool.rec (btput (d + 1) b v t).2 (btput (d + 1) b v t).1 (Nat.beq (c % 2) 0)) = if c = b then v else btget z d (c / 2) (Bool.rec t.2 t.1 (Nat.beq (c % 2) 0))
    have hb : btput (d + 1) b v t = Bool.rec (t.1, btput d (b / 2) v t.2) (btput d (b / 2) v t.1, t.2) (Nat.beq (b % 2) 0) := rfl
    rw [hb]
    have hcase : ∀ n : Nat, (n % 2 = 0 ∧ Nat.beq (n % 2) 0 = true) ∨ (n % 2 = 1 ∧ Nat.beq (n % 2) 0 = false) := by
      intro n
      rcases Nat.mod_two_eq_zero_or_one n with e | e
      · exact .inl ⟨e, by rw [e]; rfl⟩
      · exact .inr ⟨e, by rw [e]; rfl⟩
    rcases hcase b with ⟨b1, b2⟩ | ⟨b1, b2⟩ <;> rcases hcase c with ⟨c1, c2⟩ | ⟨c1, c2⟩ <;> rw [b2, c2] <;> simp only
    · rw [btget_put z d _ _ _ _ h']
      have e : (c / 2 = b / 2) ↔ c = b := by omega
      simp only [e]
    · rw [if_neg (by omega)]
    · rw [if_neg (by omega)]
    · rw [btget_put z d _ _ _ _ h']
      have e : (c / 2 = b / 2) ↔ c = b := by omega
      simp only [e]

def btsame {α : Type} (z : α) : (d : Nat) → BT α d
  | 0 => z
  | d + 1 => (btsame z d, btsame z d)

theorem btget_same {α : Type} (z : α) : ∀ (d b : Nat), btget z d b (btsame z d) = z
  | 0, b => by show (Bool.rec z z (Nat.beq b 0) : α) = z; cases Nat.beq b 0 <;> rfl
  | d + 1, b => by
    show btget z d (b / 2) (Bool.rec (btsame z d) (btsame z d) (Nat.beq (b % 2) 0)) = z
    have : (Bool.rec (btsame z d) (btsame z d) (Nat.beq (b % 2) 0) : BT α d) = btsame z d := by cases Nat.beq (b % 2) 0 <;> rfl
    rw [this]; exact btget_same z d _

end Go.Abs

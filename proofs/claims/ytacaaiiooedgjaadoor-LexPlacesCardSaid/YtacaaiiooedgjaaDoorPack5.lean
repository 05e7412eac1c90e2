/-
  Texts of this proof, one behind the other (part 5).
-/
import Derived.Test.YtacaaiiooedgjaaDoorPack4
import Derived.ChangeReads
import Derived.ChangeArms
import Derived.OpenShut
import Derived.ProofKit
import Derived.Test.YtacaaiiooedgjaaDoorRows
import Derived.KernelRfl

/-
  A verified abstract interpreter, part 34: code whose values are not all known: from one state to another, forgetting, loops by what holds at their heads.
-/
section
set_option linter.unusedSimpArgs false
set_option linter.unusedVariables false
namespace Go.Abs
open Go.RowKit

/-- From one state to another, whatever the blocks' numbers. -/
structure Stq (sn : Snap) (ι : IMap) (H : AHeap) (W : World) (sn' : Snap) (ι' : IMap) (H' : AHeap) (W' : World) : Prop where
  rel : R sn' ι' H' W'
  le : ∀ a v, sn a = some v → sn' a = some v
  fresh : ∀ (b : Nat) (o : AObj) p, H'[b]? = some o → o.alive = true → ι' b = some p → W.heap.size ≤ p.blk ∨ ∃ (b0 : Nat) (o0 : AObj) (p0 : Place), H[b0]? = some o0 ∧ o0.alive = true ∧ ι b0 = some p0 ∧ p0.blk = p.blk
  frame : ∀ c, c < W.heap.size → (∀ (b : Nat) (o : AObj) p, H[b]? = some o → o.alive = true → ι b = some p → p.blk ≠ c) → W'.heap[c]? = W.heap[c]?
  size : W.heap.size ≤ W'.heap.size
  os : W'.os = W.os
  tape : W'.tape = W.tape
  output : W'.output = W.output
  sfresh : ∀ a v, sn' a = some v → sn a = some v ∨ W.heap.size ≤ a.block ∨ ∃ (b0 : Nat) (o0 : AObj) (p0 : Place), H[b0]? = some o0 ∧ o0.alive = true ∧ ι b0 = some p0 ∧ p0.blk = a.block

theorem Stp.q {sn sn' : Snap} {ι ι' : IMap} {H H' : AHeap} {W W' : World} (h0 : R sn ι H W) (h : Stp sn ι H W sn' ι' H' W') : Stq sn ι H W sn' ι' H' W' := by
  refine ⟨h.rel, h.le.sn, fun b o p hb ha hp => ?_, h.frame, h.size, h.os, h.tape, h.output, h.sfresh⟩
  rcases h.fresh b p hp with h1 | h1 | h1
  · have hbl : b < H.length := (h0.dom b).2 ⟨p, h1⟩
    have hg : H[b]? = some H[b] := List.getElem?_eq_getElem hbl
    obtain ⟨o', e1, _, _, e4⟩ := h.evo b _ hg
    rw [hb] at e1; simp at e1; subst e1
    exact .inr ⟨b, _, p, hg, e4 ha, h1, rfl⟩
  · exact .inl h1
  · exact .inr h1

theorem Stq.refl {sn : Snap} {ι : IMap} {H : AHeap} {W : World} (h : R sn ι H W) : Stq sn ι H W sn ι H W := (Stp.refl h).q h

theorem Stq.trans {sn sn1 sn2 : Snap} {ι ι1 ι2 : IMap} {H H1 H2 : AHeap} {W W1 W2 : World} (h : Stq sn ι H W sn1 ι1 H1 W1) (k : Stq sn1 ι1 H1 W1 sn2 ι2 H2 W2) : Stq sn ι H W sn2 ι2 H2 W2 := by
  have via : ∀ c, (W1.heap.size ≤ c ∨ ∃ (b0 : Nat) (o0 : AObj) (p0 : Place), H1[b0]? = some o0 ∧ o0.alive = true ∧ ι1 b0 = some p0 ∧ p0.blk = c) →
      W.heap.size ≤ c ∨ ∃ (b0 : Nat) (o0 : AObj) (p0 : Place), H[b0]? = some o0 ∧ o0.alive = true ∧ ι b0 = some p0 ∧ p0.blk = c := by
    rintro c (h1 | ⟨b1, o1, p1, g1, g2, g3, rfl⟩)
    · exact .inl (Nat.le_trans h.size h1)
    · exact h.fresh b1 o1 p1 g1 g2 g3
  refine ⟨k.rel, fun a v e => k.le a v (h.le a v e), fun b o p hb ha hp => via _ (k.fresh b o p hb ha hp), fun c hc hno => ?_, Nat.le_trans h.size k.size, k.os.trans h.os, k.tape.trans h.tape, k.output.trans h.output, fun a v hv => ?_⟩
  · rw [k.frame c (by have := h.size; omega), h.frame c hc hno]
    intro b o p hb ha hp e
    rcases h.fresh b o p hb ha hp with h1 | ⟨b0, o0, p0, e1, e2, e3, e4⟩
    · omega
    · exact hno b0 o0 p0 e1 e2 e3 (by omega)
  · rcases k.sfresh a v hv with h1 | h1
    · exact h.sfresh a v h1
    · exact .inr (via _ h1)

/-! forgetting -/
/-- The places of those that are kept: m tells the old number of each. -/
def iot (m : List Nat) (ι : IMap) : IMap := fun b => match m[b]? with | some j => ι j | none => none

/-- What the first says of a value, the second says in the new numbers, or less. -/
def Wk (m : List Nat) (u u2 : AV) : Prop := ∀ sn ι v, VR sn ι u v → VR sn (iot m ι) u2 v

theorem Wk.noref {m : List Nat} {u : AV} (h : refs u [] = []) : Wk m u u := fun sn ι v hv => VR_refs u [] v (fun b hb => by rw [h] at hb; cases hb) hv
theorem Wk.int {m : List Nat} {k : IntKind} {a b : Int} (h : a = b) : Wk m (.int k a) (.int k b) := by subst h; exact Wk.noref rfl
theorem Wk.bool {m : List Nat} {a b : Bool} (h : a = b) : Wk m (.bool a) (.bool b) := by subst h; exact Wk.noref rfl
theorem Wk.str {m : List Nat} {a b : List UInt8} (h : a = b) : Wk m (.str a) (.str b) := by subst h; exact Wk.noref rfl
theorem Wk.eq {m : List Nat} {u u2 : AV} (h : u = u2) (hr : refs u2 [] = []) : Wk m u u2 := by subst h; exact Wk.noref hr
theorem Wk.ptr {m : List Nat} {b b2 off off2 : Nat} (h : m[b2]? = some b) (e : off = off2) : Wk m (.ptr b off) (.ptr b2 off2) := by
  subst e
  intro sn ι v hv
  obtain ⟨p, h1, h2⟩ := hv.ptr
  simp only [VR]; exact ⟨p, by simp only [iot, h]; exact h1, h2⟩
theorem Wk.map {m : List Nat} {b b2 : Nat} (h : m[b2]? = some b) : Wk m (.map b) (.map b2) := by
  intro sn ι v hv
  obtain ⟨p, h1, h2⟩ := hv.map
  simp only [VR]; exact ⟨p, by simp only [iot, h]; exact h1, h2⟩
theorem Wk.slice {m : List Nat} {b b2 off off2 len len2 c c2 z z2 : Nat} (h : m[b2]? = some b) (eo : off = off2) (el : len = len2) (h1 : len2 ≤ c2) (h2 : c2 ≤ c) (ez : z = z2) : Wk m (.slice b off len c z) (.slice b2 off2 len2 c2 z2) := by
  subst eo; subst el; subst ez
  intro sn ι v hv
  obtain ⟨p, a, cap', g1, rfl, g2, g3, g4⟩ := hv.slice
  simp only [VR]; exact ⟨p, a, cap', by simp only [iot, h]; exact g1, rfl, h1, by omega, g4⟩

def WkL (m : List Nat) : List AV → List AV → Prop
  | [], [] => True
  | a :: l, b :: l2 => Wk m a b ∧ WkL m l l2
  | _, _ => False
theorem WkL.lr {m : List Nat} {sn : Snap} {ι : IMap} : ∀ {l l2 : List AV} {vs : List Value}, WkL m l l2 → LR sn ι l vs → LR sn (iot m ι) l2 vs
  | [], [], vs, h, hv => by simpa [LR] using hv
  | a :: l, b :: l2, vs, h, hv => by
    simp only [LR] at hv ⊢
    obtain ⟨d, ds, rfl, h1, h2⟩ := hv
    exact ⟨d, ds, rfl, h.1 _ _ _ h1, WkL.lr h.2 h2⟩
  | [], _ :: _, vs, h, hv => h.elim
  | _ :: _, [], vs, h, hv => h.elim
theorem Wk.agg {m : List Nat} {l l2 : List AV} (h : WkL m l l2) : Wk m (.agg l) (.agg l2) := by
  intro sn ι v hv
  obtain ⟨d, rfl, h2⟩ := hv.agg
  exact vr_agg (h.lr h2)
theorem Wk.tuple {m : List Nat} {l l2 : List AV} (h : WkL m l l2) : Wk m (.tuple l) (.tuple l2) := by
  intro sn ι v hv
  obtain ⟨d, rfl, h2⟩ := hv.tuple
  exact vr_tuple (h.lr h2)
theorem Wk.func {m : List Nat} {fn : Fn} {f f2 c c2 : List AV} (h : WkL m f f2) (k : WkL m c c2) : Wk m (.func fn f c) (.func fn f2 c2) := by
  intro sn ι v hv
  obtain ⟨x, y, rfl, h1, h2⟩ := hv.func
  simp only [VR]; exact ⟨x, y, rfl, h.lr h1, k.lr h2⟩
theorem Wk.iface {m : List Nat} {t : TypeId} {u u2 : AV} (h : Wk m u u2) : Wk m (.iface t u) (.iface t u2) := by
  intro sn ι v hv
  obtain ⟨x, rfl, h1⟩ := hv.iface
  simp only [VR]; exact ⟨x, rfl, h _ _ _ h1⟩

/-- No more is known of the temporaries. -/
def TrGe (m : List Nat) (t t2 : Tr) : Prop := (∀ n u2, tget t2 n = some u2 → ∃ u, tget t n = some u ∧ Wk m u u2) ∧ ∀ n, tex t2 n = true → tex t n = true

/-- The temporaries that are there; of them what g tells is known. -/
def mask : (Nat → Option AV) → Tr → Tr
  | _, .leaf => .leaf
  | g, .node x l r => .node (match x with | some _ => some (g 0) | none => none) (mask (fun i => g (Nat.add (Nat.mul 2 i) 1)) l) (mask (fun i => g (Nat.add (Nat.mul 2 i) 2)) r)

theorem mask_get : ∀ (t : Tr) (g : Nat → Option AV) (n : Nat) (u : AV), tget (mask g t) n = some u → g n = some u
  | .leaf, g, n, u, h => by simp [mask, tget] at h
  | .node x l r, g, 0, u, h => by cases x <;> simp [mask, tget] at h; exact h
  | .node x l r, g, n + 1, u, h => by
    simp only [mask, tget] at h
    split at h
    · rename_i hn
      have := mask_get l _ _ u h
      have hn' : n % 2 = 0 := hn
      have e : Nat.add (Nat.mul 2 (Nat.div n 2)) 1 = n + 1 := by show 2 * (n / 2) + 1 = n + 1; omega
      rw [e] at this; exact this
    · rename_i hn
      have := mask_get r _ _ u h
      have hn' : ¬ n % 2 = 0 := hn
      have e : Nat.add (Nat.mul 2 (Nat.div n 2)) 2 = n + 1 := by show 2 * (n / 2) + 2 = n + 1; omega
      rw [e] at this; exact this

theorem mask_tex : ∀ (t : Tr) (g : Nat → Option AV) (n : Nat), tex (mask g t) n = tex t n
  | .leaf, g, n => rfl
  | .node x l r, g, 0 => by cases x <;> rfl
  | .node x l r, g, n + 1 => by
    simp only [mask, tex]
    split <;> exact mask_tex _ _ _

/-- All that is there in the one is there in the other. -/
def subT : Tr → Tr → Bool
  | .leaf, _ => true
  | .node x l r, .node y l2 r2 => (match x, y with | some _, none => false | _, _ => true) && (subT l l2 && subT r r2)
  | .node .., .leaf => false

theorem subT_tex : ∀ {t t2 : Tr}, subT t t2 = true → ∀ n, tex t n = true → tex t2 n = true
  | .leaf, t2, h, n, e => by simp [tex] at e
  | .node x l r, .node y l2 r2, h, 0, e => by
    simp only [subT, Bool.and_eq_true] at h
    cases x with
    | none => simp [tex] at e
    | some x => cases y with
      | none => simp at h
      | some y => rfl
  | .node x l r, .node y l2 r2, h, n + 1, e => by
    simp only [subT, Bool.and_eq_true] at h
    simp only [tex] at e ⊢
    split at e
    · exact subT_tex h.2.1 _ e
    · exact subT_tex h.2.2 _ e
  | .node .., .leaf, h, n, e => by simp [subT] at h

def SlotsGe (m : List Nat) (t : Tr) : List (Nat × AV) → Prop
  | [] => True
  | (n, u2) :: l => (onO (tget t n) fun u => Wk m u u2) ∧ SlotsGe m t l

theorem SlotsGe.get {m : List Nat} {t : Tr} : ∀ {l : List (Nat × AV)}, SlotsGe m t l → ∀ n u2, alook n l = some u2 → ∃ u, tget t n = some u ∧ Wk m u u2
  | [], h, n, u2, e => by simp [alook] at e
  | (k, v) :: l, h, n, u2, e => by
    simp only [alook] at e
    split at e
    · rename_i hk
      have := Nat.eq_of_beq_eq_true hk; subst this
      simp at e; subst e
      exact onO_some h.1
    · exact h.2.get n u2 e

def EGe (m : List Nat) : List (AV × AV × Nat) → List (AV × AV × Nat) → Prop
  | [], [] => True
  | (k, v, n) :: l, (k2, v2, n2) :: l2 => Wk m k k2 ∧ Wk m v v2 ∧ n = n2 ∧ EGe m l l2
  | _, _ => False
theorem EGe.er {m : List Nat} {sn : Snap} {ι : IMap} : ∀ {l l2 : List (AV × AV × Nat)} {es : List MapEntry}, EGe m l l2 → ER sn ι l es → ER sn (iot m ι) l2 es
  | [], [], es, h, e => by simpa [ER] using e
  | (k, v, n) :: l, (k2, v2, n2) :: l2, es, h, e => by
    obtain ⟨h1, h2, rfl, h4⟩ := h
    simp only [ER] at e ⊢
    obtain ⟨x, l', rfl, g1, g2, g3, g4⟩ := e
    exact ⟨x, l', rfl, h1 _ _ _ g1, h2 _ _ _ g2, g3, h4.er g4⟩
  | [], _ :: _, es, h, e => h.elim
  | _ :: _, [], es, h, e => h.elim

def BodyGe (m : List Nat) : ABody → ABody → Prop
  | .cells cs ty, .cells cs2 ty2 => ty = ty2 ∧ cs2.length ≤ cs.length ∧ ∀ (i : Nat) (c2 : AV), cs2[i]? = some c2 → ∃ c, cs[i]? = some c ∧ Wk m c c2
  | .map es c, .map es2 c2 => c = c2 ∧ EGe m es es2
  | .siter s p, .siter s2 p2 => s = s2 ∧ p = p2
  | _, _ => False

/-- The cells from the first on, none of which names a block. -/
theorem BodyGe.pre {m : List Nat} {cs cs2 rest : List AV} {ty : TypeId} (e : cs = cs2 ++ rest) (h : refsL cs2 [] = []) : BodyGe m (.cells cs ty) (.cells cs2 ty) := by
  subst e
  refine ⟨rfl, by simp, fun i c hc => ⟨c, ?_, fun sn ι v hv => ?_⟩⟩
  · rw [List.getElem?_append_left (List.getElem?_eq_some_iff.1 hc).1]; exact hc
  · have key : ∀ (l : List AV), refsL l [] = [] → ∀ (i : Nat) (c : AV), l[i]? = some c → ∀ b, b ∈ refs c [] → False := by
      intro l
      induction l with
      | nil => intro _ i c hc; simp at hc
      | cons x l ih =>
        intro hl i c hc b hb
        have hx : ∀ y, y ∈ refs x (refsL l []) → False := fun y hy => by simp only [refsL] at hl; rw [hl] at hy; cases hy
        have hl' : refsL l [] = [] := by
          rw [List.eq_nil_iff_forall_not_mem]; intro y hy; exact hx y (refs_acc x _ y hy)
        cases i with
        | zero => simp at hc; subst hc; rw [hl'] at hx; exact hx b hb
        | succ i => exact ih hl' i c (by simpa using hc) b hb
    exact VR_refs c [] v (fun b hb => (key cs2 h i c hc b hb).elim) hv

theorem BodyGe.cellsL {m : List Nat} {cs cs2 : List AV} {ty : TypeId} (h : WkL m cs cs2) : BodyGe m (.cells cs ty) (.cells cs2 ty) := by
  refine ⟨rfl, ?_, ?_⟩
  · have : ∀ (l l2 : List AV), WkL m l l2 → l2.length ≤ l.length := by
      intro l
      induction l with
      | nil => intro l2 h; cases l2 with | nil => simp | cons _ _ => exact h.elim
      | cons x l ih => intro l2 h; cases l2 with | nil => exact h.elim | cons _ _ => simp; exact ih _ h.2
    exact this _ _ h
  · have : ∀ (l l2 : List AV), WkL m l l2 → ∀ (i : Nat) (c2 : AV), l2[i]? = some c2 → ∃ c, l[i]? = some c ∧ Wk m c c2 := by
      intro l
      induction l with
      | nil => intro l2 h i c2 hc; cases l2 with | nil => simp at hc | cons _ _ => exact h.elim
      | cons x l ih =>
        intro l2 h i c2 hc
        cases l2 with
        | nil => exact h.elim
        | cons y l2 => cases i with
          | zero => simp at hc; subst hc; exact ⟨x, rfl, h.1⟩
          | succ i => simpa using ih _ h.2 i c2 (by simpa using hc)
    exact this _ _ h

theorem BodyGe.or {m : List Nat} {sn : Snap} {ι : IMap} {W : World} {p : Place} : ∀ {b b2 : ABody}, BodyGe m b b2 → OR sn ι W b p → OR sn (iot m ι) W b2 p
  | .cells cs ty, .cells cs2 ty2, h, e => by
    obtain ⟨rfl, h1, h2⟩ := h
    simp only [OR] at e ⊢
    obtain ⟨arr, g1, g2, g3, g4⟩ := e
    refine ⟨arr, g1, g2, by omega, fun i c2 hc => ?_⟩
    obtain ⟨c, e1, e2⟩ := h2 i c2 hc
    obtain ⟨v, e3, e4⟩ := g4 i c e1
    exact ⟨v, e3, e2 _ _ _ e4⟩
  | .map es c, .map es2 c2, h, e => by
    obtain ⟨rfl, h1⟩ := h
    simp only [OR] at e ⊢
    obtain ⟨mes, g1, g2⟩ := e
    exact ⟨mes, g1, h1.er g2⟩
  | .siter s q, .siter s2 q2, h, e => by
    obtain ⟨rfl, rfl⟩ := h
    simpa only [OR] using e
  | .cells _ _, .map _ _, h, _ => h.elim
  | .cells _ _, .siter _ _, h, _ => h.elim
  | .map _ _, .cells _ _, h, _ => h.elim
  | .map _ _, .siter _ _, h, _ => h.elim
  | .siter _ _, .cells _ _, h, _ => h.elim
  | .siter _ _, .map _ _, h, _ => h.elim

def HpGe (H : AHeap) (m : List Nat) : List Nat → AHeap → Nat → Prop
  | [], [], _ => True
  | j :: l, o2 :: H2, i => (onO H[j]? fun o => o.alive = true ∧ o2.alive = true ∧ o2.fam = i ∧ o2.sh = o.sh ∧ BodyGe m o.body o2.body) ∧ HpGe H m l H2 (i + 1)
  | _, _, _ => False

theorem HpGe.get {H : AHeap} {m : List Nat} : ∀ {l : List Nat} {H2 : AHeap} {i : Nat}, HpGe H m l H2 i → H2.length = l.length ∧ ∀ b, b < l.length → ∃ j o o2, l[b]? = some j ∧ H[j]? = some o ∧ H2[b]? = some o2 ∧ o.alive = true ∧ o2.alive = true ∧ o2.fam = i + b ∧ o2.sh = o.sh ∧ BodyGe m o.body o2.body
  | [], [], i, h => ⟨rfl, fun b hb => by simp at hb⟩
  | j :: l, o2 :: H2, i, h => by
    obtain ⟨h1, h2⟩ := h
    obtain ⟨o, ho, e1, e2, e3, e4, e5⟩ := onO_some h1
    obtain ⟨k1, k2⟩ := h2.get
    refine ⟨by simp [k1], fun b hb => ?_⟩
    cases b with
    | zero => exact ⟨j, o, o2, rfl, ho, rfl, e1, e2, e3, e4, e5⟩
    | succ b =>
      obtain ⟨j', o', o2', x1, x2, x3, x4, x5, x6, x7, x8⟩ := k2 b (by simpa using hb)
      exact ⟨j', o', o2', by simpa using x1, x2, by simpa using x3, x4, x5, by omega, x7, x8⟩
  | [], _ :: _, i, h => h.elim
  | _ :: _, [], i, h => h.elim

def famOf (H : AHeap) (j : Nat) : Nat := match H[j]? with | some o => o.fam | none => 0
def nodupN : List Nat → Bool
  | [] => true
  | n :: l => !(mem n l) && nodupN l
theorem nodupN_inj : ∀ {l : List Nat} {i j : Nat} {x : Nat}, nodupN l = true → l[i]? = some x → l[j]? = some x → i = j
  | [], i, j, x, h, hi, hj => by simp at hi
  | n :: l, i, j, x, h, hi, hj => by
    simp only [nodupN, Bool.and_eq_true, Bool.not_eq_true'] at h
    have nm : ∀ k, l[k]? = some n → False := fun k hk => by
      have : mem n l = true := mem_iff.2 (List.mem_of_getElem? hk)
      rw [h.1] at this; cases this
    cases i with
    | zero => cases j with
      | zero => rfl
      | succ j => simp at hi hj; subst hi; exact (nm j hj).elim
    | succ i => cases j with
      | zero => simp at hi hj; subst hj; exact (nm i hi).elim
      | succ j => simp at hi hj; rw [nodupN_inj h.2 hi hj]

/-- What is known less: the blocks that m names, in its order; of the temporaries no more than what was known. -/
structure Fg (m : List Nat) (tm : Tr) (H : AHeap) (tm2 : Tr) (H2 : AHeap) : Prop where
  tr : TrGe m tm tm2
  hp : HpGe H m m H2 0
  fams : nodupN (m.map (famOf H)) = true

theorem Fg.sound {m : List Nat} {tm tm2 : Tr} {H H2 : AHeap} (h : Fg m tm H tm2 H2) {sn : Snap} {ι : IMap} {W : World} {a : Act} (hR : R sn ι H W) (ht : TRel sn ι tm a) : Stq sn ι H W sn (iot m ι) H2 W ∧ TRel sn (iot m ι) tm2 a := by
  obtain ⟨hl, hg⟩ := h.hp.get
  have at2 : ∀ {b : Nat} {o2 : AObj} {p : Place}, H2[b]? = some o2 → iot m ι b = some p → ∃ j o, m[b]? = some j ∧ H[j]? = some o ∧ ι j = some p ∧ o.alive = true ∧ o2.alive = true ∧ o2.fam = b ∧ o2.sh = o.sh ∧ BodyGe m o.body o2.body := by
    intro b o2 p hb hp
    obtain ⟨j, o, o2', x1, x2, x3, x4, x5, x6, x7, x8⟩ := hg b (by rw [← hl]; exact (List.getElem?_eq_some_iff.1 hb).1)
    rw [hb] at x3; simp at x3; subst x3
    simp only [iot, x1] at hp
    exact ⟨j, o, x1, x2, hp, x4, x5, by omega, x7, x8⟩
  have hR2 : R sn (iot m ι) H2 W := by
    refine ⟨fun b => ⟨fun hb => ?_, fun ⟨p, hp⟩ => ?_⟩, fun b p hp => ?_, fun b o2 p hb ha hp => ?_, fun b b' o o' p p' hb hb' hp hp' e => ?_, fun ad v hv => ?_, fun b o2 p hb hp e => ?_⟩
    · obtain ⟨j, o, o2, x1, x2, _⟩ := hg b (by omega)
      obtain ⟨p, hp⟩ := hR.place x2
      exact ⟨p, by simp only [iot, x1]; exact hp⟩
    · unfold iot at hp
      split at hp
      · rename_i j hj; rw [hl]; exact (List.getElem?_eq_some_iff.1 hj).1
      · cases hp
    · unfold iot at hp
      split at hp
      · exact hR.blk _ p hp
      · cases hp
    · obtain ⟨j, o, x1, x2, x3, x4, x5, x6, x7, x8⟩ := at2 hb hp
      exact x8.or (hR.obj j o p x2 x4 x3)
    · obtain ⟨j, q, x1, x2, x3, x4, x5, x6, x7, x8⟩ := at2 hb hp
      obtain ⟨j', q', y1, y2, y3, y4, y5, y6, y7, y8⟩ := at2 hb' hp'
      have hs := hR.sep j j' q q' p p' x2 y2 x3 y3 e
      have : b = b' := nodupN_inj (l := m.map (famOf H)) (x := q.fam) h.fams (by simp [x1, famOf, x2]) (by simp [y1, famOf, y2, hs.1])
      subst this
      exact ⟨by rw [x6, y6], by rw [x7, y7]; exact hs.2⟩
    · obtain ⟨h1, h2, h3⟩ := hR.snap ad v hv
      refine ⟨h1, h2, fun b o2 p hb ha hp => ?_⟩
      obtain ⟨j, o, x1, x2, x3, x4, _⟩ := at2 hb hp
      exact h3 j o p x2 x4 x3
    · obtain ⟨j, o, x1, x2, x3, x4, x5, x6, x7, x8⟩ := at2 hb hp
      exact hR.shz j o p x2 x3 (by omega)
  refine ⟨⟨hR2, fun _ _ h => h, fun b o2 p hb ha hp => ?_, fun _ _ _ => rfl, Nat.le_refl _, rfl, rfl, rfl, fun _ _ h => .inl h⟩, fun t u2 hu => ?_, fun t hx => ht.2 t (h.tr.2 t hx)⟩
  · obtain ⟨j, o, x1, x2, x3, x4, _⟩ := at2 hb hp
    exact .inr ⟨j, o, p, x2, x4, x3, rfl⟩
  · obtain ⟨u, h1, h2⟩ := h.tr.1 t u2 hu
    obtain ⟨v, h3, h4⟩ := ht.1 t u h1
    exact ⟨v, h3, h2 _ _ _ h4⟩

theorem gl_le {sn sn' : Snap} (h : ∀ a v, sn a = some v → sn' a = some v) : Le sn sn' noI noI := ⟨h, fun _ _ h => h⟩

/-- What is known at the head of a loop whose temporaries were those of t0: those of l, and the blocks H2. -/
def FgL (t0 tm : Tr) (H : AHeap) (l : List (Nat × AV)) (H2 : AHeap) : Prop :=
  match subT t0 tm with
  | true => ∃ m, SlotsGe m tm l ∧ HpGe H m m H2 0 ∧ nodupN (m.map (famOf H)) = true
  | false => False

theorem FgL.fg {t0 tm : Tr} {H : AHeap} {l : List (Nat × AV)} {H2 : AHeap} (h : FgL t0 tm H l H2) : ∃ m, Fg m tm H (mask (fun n => alook n l) t0) H2 := by
  unfold FgL at h
  split at h
  · rename_i hs
    obtain ⟨m, h1, h2, h3⟩ := h
    exact ⟨m, ⟨fun n u2 e => h1.get n u2 (mask_get _ _ _ _ e), fun n e => subT_tex hs n (by rwa [mask_tex] at e)⟩, h2, h3⟩
  · exact h.elim

def frcOO (x : Option (Option AV)) (k : Option (Option AV) → Prop) : Prop := match x with
  | none => k none
  | some none => k (some none)
  | some (some v) => frc1 v fun v => k (some (some v))
theorem frcOO_eq (x : Option (Option AV)) (k : Option (Option AV) → Prop) : frcOO x k = k x := by
  cases x with
  | none => rfl
  | some x => cases x with
    | none => rfl
    | some v => simp only [frcOO, frc1_eq]
def frcTr : Tr → (Tr → Prop) → Prop
  | .leaf, k => k .leaf
  | .node x l r, k => frcOO x fun x => frcTr l fun l => frcTr r fun r => k (.node x l r)
theorem frcTr_eq : ∀ (t : Tr) (k : Tr → Prop), frcTr t k = k t
  | .leaf, k => rfl
  | .node x l r, k => by simp only [frcTr, frcOO_eq, frcTr_eq l, frcTr_eq r]

/-! code -/
/-- From what is known of the beginning to what is known of the end. -/
def Tri (P : Program) (gl : Glob) (c : Code) (tm : Tr) (H : AHeap) (Φ : AEx → Tr → AHeap → Prop) : Prop :=
  ∀ (a : Act) (W : World) (sn : Snap) (ι : IMap) (Q : Exit → Act → World → Prop), GlOK gl sn → R sn ι H W → TRel sn ι tm a →
    (∀ x tm' H' a' W' sn' ι', Φ x tm' H' → Stq sn ι H W sn' ι' H' W' → TRel sn' ι' tm' a' → a'.defers = a.defers → Q (exOf x) a' W') → c.wp P Q a W

def finP (kn : Tr → AHeap → Prop) (kx : Nat → Tr → AHeap → Prop) (kr : Tr → AHeap → Prop) (x : AEx) (tm : Tr) (H : AHeap) : Prop := match x with
  | .normal => kn tm H
  | .exit id => kx id tm H
  | .ret => kr tm H

/-- A loop: what holds at its head (the temporaries L, the blocks B), and what falls. -/
def wloop (body : (Tr → AHeap → Prop) → Tr → AHeap → Prop) (tm : Tr) (H : AHeap) : Prop :=
  ∃ (S : Type) (I : S → Prop) (L : S → List (Nat × AV)) (B : S → AHeap) (μ : S → Nat), (∃ s, I s ∧ FgL tm tm H (L s) (B s)) ∧
    ∀ s, I s → frcTr (mask (fun n => alook n (L s)) tm) fun tm1 => frcHW (B s) fun H1 => body (fun tm' H' => ∃ s', I s' ∧ μ s' < μ s ∧ FgL tm tm' H' (L s') (B s')) tm1 H1

abbrev KN := Tr → AHeap → Prop
abbrev KX := Nat → Tr → AHeap → Prop
abbrev LH := ((Tr → AHeap → Prop) → Tr → AHeap → Prop) → Tr → AHeap → Prop
def noLoop : LH := fun _ _ _ => False
noncomputable def wexec (P : Program) (gl : Glob) (orc : Orc) (cw : CW) (lh : LH) (c : Code) : KN → KX → KN → Tr → AHeap → Prop :=
  Code.rec (motive := fun _ => KN → KX → KN → Tr → AHeap → Prop)
    (fun kn _ _ tm H => kn tm H)
    (fun _ ops draw kn _ _ tm H => match draw with
      | true => drawW P gl orc cw ops.toList tm H kn
      | false => seqW P gl orc cw ops.toList ops.toList tm H kn)
    (fun _ _ iha ihb kn kx kr tm H => iha (fun tm H => ihb kn kx kr tm H) kx kr tm H)
    (fun c _ _ iha ihb kn kx kr tm H => onO (aeval gl tm c) fun v => match v with
      | .bool t => (t = true → iha kn kx kr tm H) ∧ (t = false → ihb kn kx kr tm H)
      | _ => False)
    (fun id _ ih kn kx kr tm H => ih kn (fun id' tm H => match Nat.beq id' id with | true => kn tm H | false => kx id' tm H) kr tm H)
    (fun _ ih _ kx kr tm H => lh (fun kn tm H => ih kn kx kr tm H) tm H)
    (fun _ _ _ _ _ _ _ _ _ _ _ => False)
    (fun id _ kx _ tm H => kx id tm H)
    (fun _ _ _ _ _ _ _ => False)
    (fun _ _ _ _ _ _ => False)
    (fun _ _ _ _ _ _ => False)
    (fun _ _ kr tm H => kr tm H)
    (fun _ _ _ _ _ _ => False) c

section code
variable {P : Program} {gl : Glob} {orc : Orc}

theorem Tri.mono {c : Code} {tm : Tr} {H : AHeap} {Φ Ψ : AEx → Tr → AHeap → Prop} (h : Tri P gl c tm H Φ) (hk : ∀ x tm' H', Φ x tm' H' → Ψ x tm' H') : Tri P gl c tm H Ψ :=
  fun a W sn ι Q hg hR ht hQ => h a W sn ι Q hg hR ht fun x tm' H' a' W' sn' ι' hx => hQ x tm' H' a' W' sn' ι' (hk _ _ _ hx)

theorem Tri.seq {c d : Code} {tm : Tr} {H : AHeap} {Φ : AEx → Tr → AHeap → Prop} (h : Tri P gl c tm H fun x tm1 H1 => match x with | .normal => Tri P gl d tm1 H1 Φ | x => Φ x tm1 H1) : Tri P gl (.seq c d) tm H Φ := by
  intro a W sn ι Q hg hR ht hQ
  refine wp_seq (h a W sn ι _ hg hR ht fun x tm1 H1 a1 W1 sn1 ι1 hx s1 t1 d1 => ?_)
  cases x with
  | normal =>
    show Code.wp P d Q a1 W1
    refine hx a1 W1 sn1 ι1 Q (hg.mono (gl_le s1.le)) s1.rel t1 fun x tm2 H2 a2 W2 sn2 ι2 hx2 s2 t2 d2 => ?_
    exact hQ _ _ _ _ _ _ _ hx2 (s1.trans s2) t2 (d2.trans d1)
  | exit id => exact hQ (.exit id) tm1 H1 _ _ _ _ hx s1 t1 d1
  | ret => exact hQ .ret tm1 H1 _ _ _ _ hx s1 t1 d1

theorem Tri.forget {c : Code} {tm : Tr} {H : AHeap} {Φ : AEx → Tr → AHeap → Prop} {m : List Nat} {tm2 : Tr} {H2 : AHeap} (hf : Fg m tm H tm2 H2) (h : Tri P gl c tm2 H2 Φ) : Tri P gl c tm H Φ := by
  intro a W sn ι Q hg hR ht hQ
  obtain ⟨s1, t1⟩ := hf.sound hR ht
  exact h a W sn (iot m ι) Q hg s1.rel t1 fun x tm' H' a' W' sn' ι' hx s2 t2 d2 => hQ x tm' H' a' W' sn' ι' hx (s1.trans s2) t2 d2

theorem Tri.loop {b : Code} {S : Type} {I : S → Prop} {T : S → Tr} {B : S → AHeap} {μ : S → Nat} {Φ : AEx → Tr → AHeap → Prop}
    (h : ∀ s, I s → Tri P gl b (T s) (B s) fun x tm' H' => match x with | .normal => ∃ s', I s' ∧ μ s' < μ s ∧ ∃ m, Fg m tm' H' (T s') (B s') | x => Φ x tm' H') {s : S} (h0 : I s) : Tri P gl (.loop b) (T s) (B s) Φ := by
  have key : ∀ (n : Nat) (s : S), μ s < n → I s → ∀ (a : Act) (W : World) (sn : Snap) (ι : IMap) (Q : Exit → Act → World → Prop), GlOK gl sn → R sn ι (B s) W → TRel sn ι (T s) a →
      (∀ x tm' H' a' W' sn' ι', Φ x tm' H' → Stq sn ι (B s) W sn' ι' H' W' → TRel sn' ι' tm' a' → a'.defers = a.defers → Q (exOf x) a' W') → Code.rounds P b Q n a W := by
    intro n
    induction n with
    | zero => intro s hs; omega
    | succ n ih =>
      intro s hs hI a W sn ι Q hg hR ht hQ
      rw [rounds_succ]
      refine h s hI a W sn ι _ hg hR ht fun x tm1 H1 a1 W1 sn1 ι1 hx s1 t1 d1 => ?_
      cases x with
      | normal =>
        show Code.rounds P b Q n a1 W1
        obtain ⟨s', hI', hs', m, hf⟩ := hx
        obtain ⟨s2, t2⟩ := hf.sound s1.rel t1
        refine ih s' (by omega) hI' a1 W1 sn1 (iot m ι1) Q (hg.mono (gl_le s1.le)) s2.rel t2 fun x tm3 H3 a3 W3 sn3 ι3 hx3 s3 t3 d3 => ?_
        exact hQ _ _ _ _ _ _ _ hx3 ((s1.trans s2).trans s3) t3 (d3.trans d1)
      | exit id => exact hQ (.exit id) tm1 H1 _ _ _ _ hx s1 t1 d1
      | ret => exact hQ .ret tm1 H1 _ _ _ _ hx s1 t1 d1
  intro a W sn ι Q hg hR ht hQ
  exact wp_loop_rounds (μ s + 1) (key (μ s + 1) s (by omega) h0 a W sn ι Q hg hR ht hQ)

theorem wexec_ok (hm : P.follows .mixedOrders = true) (hn : NoNum P) (hO : OrcSound P gl orc) {cw : CW} (hcw : CWok P orc cw) : ∀ (c : Code) {kn : Tr → AHeap → Prop} {kx : Nat → Tr → AHeap → Prop} {kr : Tr → AHeap → Prop} {tm : Tr} {H : AHeap},
    wexec P gl orc cw wloop c kn kx kr tm H → Tri P gl c tm H (finP kn kx kr)
  | .skip, kn, kx, kr, tm, H, h => fun a W sn ι Q hg hR ht hQ => by
    exact wp_skip (hQ .normal tm H a W sn ι h (Stq.refl hR) ht rfl)
  | .region id ops draw, kn, kx, kr, tm, H, h => fun a W sn ι Q hg hR ht hQ => by
    cases draw with
    | true =>
      replace h : drawW P gl orc cw ops.toList tm H kn := h
      obtain ⟨tm', H', h1, h⟩ := drawW_ok P gl orc cw hcw h
      exact adraw_sound hm hn hO hg hR ht h1 (fun a' W' sn' ι' s1 t1 d1 => hQ .normal tm' H' a' W' sn' ι' h (s1.q hR) t1 d1) id
    | false =>
      replace h : seqW P gl orc cw ops.toList ops.toList tm H kn := h
      obtain ⟨tm', H', h1, h⟩ := seqW_ok P gl orc cw hcw h
      exact wp_region_list (aseq_sound hn hO ops _ _ _ _ _ _ _ _ _ h1 hg hR ht fun a' W' sn' ι' s1 t1 d1 => hQ .normal tm' H' a' W' sn' ι' h (s1.q hR) t1 d1)
  | .seq c d, kn, kx, kr, tm, H, h => by
    replace h : wexec P gl orc cw wloop c (fun tm H => wexec P gl orc cw wloop d kn kx kr tm H) kx kr tm H := h
    refine Tri.seq ((wexec_ok hm hn hO hcw c h).mono fun x tm1 H1 hx => ?_)
    cases x with
    | normal => exact wexec_ok hm hn hO hcw d hx
    | exit id => exact hx
    | ret => exact hx
  | .cond e c d, kn, kx, kr, tm, H, h => fun a W sn ι Q hg hR ht hQ => by
    replace h : (onO (aeval gl tm e) fun v => match v with
      | .bool t => (t = true → wexec P gl orc cw wloop c kn kx kr tm H) ∧ (t = false → wexec P gl orc cw wloop d kn kx kr tm H)
      | _ => False) := h
    obtain ⟨v, hv, h⟩ := onO_some h
    split at h
    · rename_i t
      have he := (aeval_sound hg ht _ _ hv).bool
      cases t with
      | true => exact wp_cond_true he (wexec_ok hm hn hO hcw c (h.1 rfl) a W sn ι Q hg hR ht hQ)
      | false => exact wp_cond_false he (wexec_ok hm hn hO hcw d (h.2 rfl) a W sn ι Q hg hR ht hQ)
    · exact h.elim
  | .block id b, kn, kx, kr, tm, H, h => fun a W sn ι Q hg hR ht hQ => by
    replace h : wexec P gl orc cw wloop b kn (fun id' tm H => match Nat.beq id' id with | true => kn tm H | false => kx id' tm H) kr tm H := h
    refine wp_block (wexec_ok hm hn hO hcw b h a W sn ι _ hg hR ht fun x tm1 H1 a1 W1 sn1 ι1 hx s1 t1 d1 => ?_)
    cases x with
    | normal => exact hQ .normal tm1 H1 _ _ _ _ hx s1 t1 d1
    | ret => exact hQ .ret tm1 H1 _ _ _ _ hx s1 t1 d1
    | exit id' =>
      show (if id' = id then Q .normal a1 W1 else Q (.exit id') a1 W1)
      have hx : (match Nat.beq id' id with | true => kn tm1 H1 | false => kx id' tm1 H1) := hx
      by_cases e : id' = id
      · rw [if_pos e]
        subst e
        have : Nat.beq id' id' = true := by simp
        rw [this] at hx
        exact hQ .normal tm1 H1 _ _ _ _ hx s1 t1 d1
      · rw [if_neg e]
        have : Nat.beq id' id = false := by cases hb : Nat.beq id' id with | false => rfl | true => exact (e (Nat.eq_of_beq_eq_true hb)).elim
        rw [this] at hx
        exact hQ (.exit id') tm1 H1 _ _ _ _ hx s1 t1 d1
  | .loop b, kn, kx, kr, tm, H, h => by
    replace h : wloop (fun kn tm H => wexec P gl orc cw wloop b kn kx kr tm H) tm H := h
    unfold wloop at h
    obtain ⟨S, I, L, B, μ, ⟨s, h0, hf⟩, h⟩ := h
    obtain ⟨m, hf⟩ := hf.fg
    refine Tri.forget hf (Tri.loop (I := I) (T := fun s => mask (fun n => alook n (L s)) tm) (B := B) (μ := μ) (fun s hI => ?_) h0)
    have h := h s hI
    rw [frcTr_eq, frcHW_eq] at h
    refine (wexec_ok hm hn hO hcw b h).mono fun x tm' H' hx => ?_
    cases x with
    | normal =>
      obtain ⟨s', k1, k2, k3⟩ := hx
      exact ⟨s', k1, k2, k3.fg⟩
    | exit id => exact hx
    | ret => exact hx
  | .exit id, kn, kx, kr, tm, H, h => fun a W sn ι Q hg hR ht hQ => by
    exact wp_exit (hQ (.exit id) tm H a W sn ι h (Stq.refl hR) ht rfl)
  | .ret, kn, kx, kr, tm, H, h => fun a W sn ι Q hg hR ht hQ => by
    exact wp_ret (hQ .ret tm H a W sn ι h (Stq.refl hR) ht rfl)
  | .rangeFunc .., kn, kx, kr, tm, H, h => (h : False).elim
  | .scope .., kn, kx, kr, tm, H, h => (h : False).elim
  | .label .., kn, kx, kr, tm, H, h => (h : False).elim
  | .goto .., kn, kx, kr, tm, H, h => (h : False).elim
  | .refuse .., kn, kx, kr, tm, H, h => (h : False).elim
/-- Code without loops: the interpreter itself comes to what was found. -/
theorem wexecF_ok {fuel : Nat} {cw : CW} (hcw : CWok P orc cw) : ∀ (c : Code) {kn : Tr → AHeap → Prop} {kx : Nat → Tr → AHeap → Prop} {kr : Tr → AHeap → Prop} {tm : Tr} {H : AHeap},
    wexec P gl orc cw noLoop c kn kx kr tm H → ∃ x tm' H', aexec P gl orc fuel c tm H = some (x, tm', H') ∧ finP kn kx kr x tm' H'
  | .skip, kn, kx, kr, tm, H, h => ⟨.normal, tm, H, rfl, h⟩
  | .region id ops draw, kn, kx, kr, tm, H, h => by
    cases draw with
    | true =>
      replace h : drawW P gl orc cw ops.toList tm H kn := h
      obtain ⟨tm', H', h1, h⟩ := drawW_ok P gl orc cw hcw h
      exact ⟨.normal, tm', H', by simp only [aexec, if_true, h1], h⟩
    | false =>
      replace h : seqW P gl orc cw ops.toList ops.toList tm H kn := h
      obtain ⟨tm', H', h1, h⟩ := seqW_ok P gl orc cw hcw h
      exact ⟨.normal, tm', H', by simp only [aexec, Bool.false_eq_true, if_false, h1], h⟩
  | .seq c d, kn, kx, kr, tm, H, h => by
    replace h : wexec P gl orc cw noLoop c (fun tm H => wexec P gl orc cw noLoop d kn kx kr tm H) kx kr tm H := h
    obtain ⟨x, tm1, H1, h1, h⟩ := wexecF_ok (fuel := fuel) hcw c h
    cases x with
    | normal =>
      obtain ⟨x2, tm2, H2, h2, h⟩ := wexecF_ok (fuel := fuel) hcw d (show wexec P gl orc cw noLoop d kn kx kr tm1 H1 from h)
      exact ⟨x2, tm2, H2, by simp only [aexec, h1, h2], h⟩
    | exit id => exact ⟨.exit id, tm1, H1, by simp only [aexec, h1], h⟩
    | ret => exact ⟨.ret, tm1, H1, by simp only [aexec, h1], h⟩
  | .cond e c d, kn, kx, kr, tm, H, h => by
    replace h : (onO (aeval gl tm e) fun v => match v with
      | .bool t => (t = true → wexec P gl orc cw noLoop c kn kx kr tm H) ∧ (t = false → wexec P gl orc cw noLoop d kn kx kr tm H)
      | _ => False) := h
    obtain ⟨v, hv, h⟩ := onO_some h
    split at h
    · rename_i t
      cases t with
      | true => obtain ⟨x, tm1, H1, h1, h⟩ := wexecF_ok (fuel := fuel) hcw c (h.1 rfl); exact ⟨x, tm1, H1, by simp only [aexec, hv, h1], h⟩
      | false => obtain ⟨x, tm1, H1, h1, h⟩ := wexecF_ok (fuel := fuel) hcw d (h.2 rfl); exact ⟨x, tm1, H1, by simp only [aexec, hv, h1], h⟩
    · exact h.elim
  | .block id b, kn, kx, kr, tm, H, h => by
    replace h : wexec P gl orc cw noLoop b kn (fun id' tm H => match Nat.beq id' id with | true => kn tm H | false => kx id' tm H) kr tm H := h
    obtain ⟨x, tm1, H1, h1, h⟩ := wexecF_ok (fuel := fuel) hcw b h
    cases x with
    | normal => exact ⟨.normal, tm1, H1, by simp only [aexec, h1], h⟩
    | ret => exact ⟨.ret, tm1, H1, by simp only [aexec, h1], h⟩
    | exit id' =>
      have h : (match Nat.beq id' id with | true => kn tm1 H1 | false => kx id' tm1 H1) := h
      cases hb : Nat.beq id' id with
      | true => rw [hb] at h; exact ⟨.normal, tm1, H1, by simp only [aexec, h1, hb, if_true], h⟩
      | false => rw [hb] at h; exact ⟨.exit id', tm1, H1, by simp only [aexec, h1, hb, Bool.false_eq_true, if_false], h⟩
  | .loop b, kn, kx, kr, tm, H, h => (h : False).elim
  | .exit id, kn, kx, kr, tm, H, h => ⟨.exit id, tm, H, rfl, h⟩
  | .ret, kn, kx, kr, tm, H, h => ⟨.ret, tm, H, rfl, h⟩
  | .rangeFunc .., kn, kx, kr, tm, H, h => (h : False).elim
  | .scope .., kn, kx, kr, tm, H, h => (h : False).elim
  | .label .., kn, kx, kr, tm, H, h => (h : False).elim
  | .goto .., kn, kx, kr, tm, H, h => (h : False).elim
  | .refuse .., kn, kx, kr, tm, H, h => (h : False).elim
end code
end Go.Abs
end

/-
  A verified abstract interpreter, part 35: functions from values to values, whatever memory holds; what they hand back is read alone from there on.
-/
section
set_option linter.unusedSimpArgs false
set_option linter.unusedVariables false
namespace Go.Abs
open Go.RowKit

def frzL (f : AV → Option AV) : List AV → Option (List AV)
  | [] => some []
  | c :: l => match f c, frzL f l with | some x, some y => some (x :: y) | _, _ => none

/-- A value with all that it leads to. -/
def frz (H : AHeap) : Nat → AV → Option AV
  | 0, _ => none
  | n + 1, u => match u with
    | .ptr b off => match H[b]? with
      | some o => match o.alive, o.body with
        | true, .cells cs _ => match frzL (frz H n) (cs.drop off) with | some l => some (.rp l) | none => none
        | _, _ => none
      | none => none
    | .slice b off len _ z => match len with
      | 0 => some (.rs 0 z [])
      | _ + 1 => match H[b]? with
        | some o => match o.alive, o.body with
          | true, .cells cs _ => match tk (len * z) (cs.drop off) with
            | some cs => match frzL (frz H n) cs with | some l => some (.rs len z l) | none => none
            | none => none
          | _, _ => none
        | none => none
    | .agg cs => match frzL (frz H n) cs with | some l => some (.agg l) | none => none
    | .tuple cs => match frzL (frz H n) cs with | some l => some (.tuple l) | none => none
    | .iface t v => match frz H n v with | some x => some (.iface t x) | none => none
    | .func fn f c => match frzL (frz H n) f, frzL (frz H n) c with | some f, some c => some (.func fn f c) | _, _ => none
    | .map _ => none
    | u => some u

section frz
variable {sn : Snap} {ι : IMap} {H : AHeap} {W : World} {g : Nat}

theorem frzL_sound {f : AV → Option AV} {sn' : Snap} (hf : ∀ u r v, f u = some r → VR sn ι u v → VR sn' noI r v) : ∀ {l l' : List AV} {vs : List Value}, frzL f l = some l' → LR sn ι l vs → LR sn' noI l' vs
  | [], l', vs, h, e => by simp [frzL] at h; subst h; simpa [LR] using e
  | c :: l, l', vs, h, e => by
    simp only [frzL] at h
    split at h <;> simp at h
    rename_i x y hx hy
    subst h
    simp only [LR] at e ⊢
    obtain ⟨d, ds, rfl, h1, h2⟩ := e
    exact ⟨d, ds, rfl, hf _ _ _ hx h1, frzL_sound hf hy h2⟩

theorem frzL_get {f : AV → Option AV} : ∀ {l l' : List AV}, frzL f l = some l' → l'.length = l.length ∧ ∀ (i : Nat) (x : AV), l'[i]? = some x → ∃ c, l[i]? = some c ∧ f c = some x
  | [], l', h => by simp [frzL] at h; subst h; simp
  | c :: l, l', h => by
    simp only [frzL] at h
    split at h <;> simp at h
    rename_i x y hx hy
    subst h
    obtain ⟨h1, h2⟩ := frzL_get hy
    refine ⟨by simp [h1], fun i z hz => ?_⟩
    cases i with
    | zero => simp at hz; subst hz; exact ⟨c, rfl, hx⟩
    | succ i => simpa using h2 i z (by simpa using hz)

theorem mr_of_get {sn : Snap} : ∀ {us : List AV} {b o : Nat}, (∀ (i : Nat) (u : AV), us[i]? = some u → ∃ v, sn ⟨b, o + i, none⟩ = some v ∧ VR sn noI u v) → MR sn us b o
  | [], b, o, h => by simp [MR]
  | u :: us, b, o, h => by
    simp only [MR]
    refine ⟨by simpa using h 0 u rfl, mr_of_get fun i x hx => ?_⟩
    have := h (i + 1) x (by simpa using hx)
    rwa [show o + (i + 1) = o + 1 + i from by omega] at this

theorem frz_sound (hR : R sn ι H W) (hfr : ∀ (b : Nat) (o : AObj) p, H[b]? = some o → o.alive = true → ι b = some p → g ≤ p.blk) :
    ∀ (n : Nat) (u r : AV) (v : Value), frz H n u = some r → VR sn ι u v → VR (snx sn g W) noI r v := by
  have hle : Le sn (snx sn g W) noI noI := ⟨fun a v hv => by
    unfold snx
    split
    · exact hv
    · exact (hR.snap a v hv).2.1, fun _ _ h => h⟩
  intro n
  induction n with
  | zero => intro u r v h; simp [frz] at h
  | succ n ih =>
    -- the cells of a living block
    have cells : ∀ {b : Nat} {o : AObj} {p : Place} {cs l : List AV} {ty : TypeId} {off : Nat}, H[b]? = some o → o.alive = true → o.body = .cells cs ty → ι b = some p → frzL (frz H n) (cs.drop off) = some l → MR (snx sn g W) l p.blk (p.sh + off) := by
      intro b o p cs l ty off ho ha hb hp hl
      obtain ⟨_, h2⟩ := frzL_get hl
      have hor := hR.obj b o p ho ha hp
      rw [hb] at hor
      simp only [OR] at hor
      obtain ⟨arr, k1, k2, k3, k4⟩ := hor
      refine mr_of_get fun i x hx => ?_
      obtain ⟨c, hc, hcx⟩ := h2 i x hx
      rw [List.getElem?_drop] at hc
      obtain ⟨v, e1, e2⟩ := k4 (off + i) c hc
      refine ⟨v, ?_, ih c x v hcx e2⟩
      have hge := hfr b o p ho ha hp
      unfold snx
      rw [if_neg (by show ¬ p.blk < g; omega), cell_of_heap k1]
      rw [← e1]; congr 1; omega
    intro u r v h hv
    unfold frz at h
    split at h
    · rename_i b off
      split at h <;> try (simp at h; done)
      rename_i o ho
      split at h <;> try (simp at h; done)
      rename_i cs ty ha hb
      split at h <;> simp at h
      rename_i l hl
      subst h
      obtain ⟨p, hp, rfl⟩ := hv.ptr
      simp only [VR]
      exact ⟨_, _, rfl, cells ho ha hb hp hl⟩
    · rename_i b off len cap z
      obtain ⟨p, a, cap', hp, rfl, h1, h2, h3⟩ := hv.slice
      split at h
      · simp at h; subst h
        simp only [VR]
        exact ⟨a, cap', rfl, by omega, by simp, by simp [MR], fun h => absurd rfl h⟩
      · rename_i len
        split at h <;> try (simp at h; done)
        rename_i o ho
        split at h <;> try (simp at h; done)
        rename_i cs ty ha hb
        split at h <;> try (simp at h; done)
        rename_i cs' hcs
        split at h <;> simp at h
        rename_i l hl
        subst h
        obtain ⟨ha', _⟩ := h3 (by omega)
        subst ha'
        obtain ⟨e1, rfl⟩ := tk_some hcs
        obtain ⟨f1, f2⟩ := frzL_get hl
        simp only [VR]
        refine ⟨_, cap', rfl, by omega, ?_, ?_, fun _ => rfl⟩
        · rw [f1, List.length_take]; exact Nat.min_eq_left e1
        · have hor := hR.obj b o p ho ha hp
          rw [hb] at hor
          simp only [OR] at hor
          obtain ⟨arr, k1, k2, k3, k4⟩ := hor
          refine mr_of_get fun i x hx => ?_
          obtain ⟨c, hc, hcx⟩ := f2 i x hx
          rw [List.getElem?_take] at hc
          split at hc <;> try (simp at hc; done)
          rw [List.getElem?_drop] at hc
          obtain ⟨v, g1, g2⟩ := k4 (off + i) c hc
          refine ⟨v, ?_, ih c x v hcx g2⟩
          have hge := hfr b o p ho ha hp
          unfold snx
          rw [if_neg (by show ¬ p.blk < g; omega), cell_of_heap k1]
          rw [← g1]; congr 1; simp only; omega
    · split at h <;> simp at h
      rename_i l hl; subst h
      obtain ⟨d, rfl, h1⟩ := hv.agg
      exact vr_agg (frzL_sound ih hl h1)
    · split at h <;> simp at h
      rename_i l hl; subst h
      obtain ⟨d, rfl, h1⟩ := hv.tuple
      exact vr_tuple (frzL_sound ih hl h1)
    · split at h <;> simp at h
      rename_i x hx; subst h
      obtain ⟨y, rfl, h1⟩ := hv.iface
      simp only [VR]; exact ⟨y, rfl, ih _ _ _ hx h1⟩
    · split at h <;> simp at h
      rename_i f c hf hc; subst h
      obtain ⟨x, y, rfl, h1, h2⟩ := hv.func
      simp only [VR]; exact ⟨x, y, rfl, frzL_sound ih hf h1, frzL_sound ih hc h2⟩
    · simp at h
    · rename_i e1 e2 e3 e4 e5 e6 e7
      simp at h; subst h
      cases u with
      | ptr b o => exact (e1 _ _ rfl).elim
      | slice b o l c z => exact (e2 _ _ _ _ _ rfl).elim
      | agg cs => exact (e3 _ rfl).elim
      | tuple cs => exact (e4 _ rfl).elim
      | iface t v => exact (e5 _ _ rfl).elim
      | func fn f c => exact (e6 _ _ _ rfl).elim
      | map b => exact (e7 _ rfl).elim
      | _ => exact VR_mono (ι := noI) hle _ _ (VR_refs (ι := ι) _ [] _ (fun b hb => by simp [refs] at hb) hv)
end frz

/-- A function that hands values back for values, and leaves memory as it was. -/
def ValOK (P : Program) (gl : Glob) (f : Nat) (args : List AV) (r : AV) : Prop :=
  ∀ (sn : Snap) (W : World) (cargs : List Value), GlOK gl sn → R sn noI [] W → LR sn noI args cargs →
    Calls P f cargs.toArray W fun e W' => ∃ v, e = .returned v ∧ Ext W W' ∧ VR (snx sn W.heap.size W') noI r v

theorem R.none {sn : Snap} {ι : IMap} {H : AHeap} {W : World} (h : R sn ι H W) : R sn noI [] W :=
  ⟨fun b => ⟨fun hb => by simp at hb, fun ⟨p, hp⟩ => by simp [noI] at hp⟩, fun b p hp => by simp [noI] at hp, fun b o p hb => by simp at hb, fun b b' o o' p p' hb => by simp at hb,
    fun a v hv => ⟨(h.snap a v hv).1, (h.snap a v hv).2.1, fun b o p hb => by simp at hb⟩, fun b o p hb => by simp at hb⟩

theorem Stq.ext {sn sn' : Snap} {ι' : IMap} {H' : AHeap} {W W' : World} (h : Stq sn noI [] W sn' ι' H' W') : Ext W W' :=
  ⟨fun c hc => h.frame c hc fun b o p hb => by simp at hb, h.size, h.os, h.tape, h.output⟩

/-- An oracle for functions from values to values. -/
def orcV (F : Nat → List AV → Option AV) : Orc := fun f args H => match F f args with | some r => some (r, H) | none => none

theorem orcV_sound {P : Program} {gl : Glob} {F : Nat → List AV → Option AV} (h : ∀ f args r, F f args = some r → refsL args [] = [] ∧ ValOK P gl f args r) : OrcSound P gl (orcV F) := by
  intro f args H r H' hf sn ι W cargs hg hR ha
  unfold orcV at hf
  split at hf <;> simp at hf
  rename_i r' hr
  obtain ⟨rfl, rfl⟩ := hf
  obtain ⟨h1, h2⟩ := h f args r' hr
  refine (h2 sn W cargs hg hR.none (LR_refs args [] _ (fun b hb => by rw [h1] at hb; cases hb) ha)).mono ?_
  rintro e W' ⟨v, rfl, hx, hv⟩
  exact ⟨v, _, ι, rfl, VR_noI hv, Stp.snap hR hx⟩

/-- Two oracles: what the first does not answer, the second may. -/
def orcOr (o1 o2 : Orc) : Orc := fun f args H => match o1 f args H with | some r => some r | none => o2 f args H
theorem orcOr_sound {P : Program} {gl : Glob} {o1 o2 : Orc} (h1 : OrcSound P gl o1) (h2 : OrcSound P gl o2) : OrcSound P gl (orcOr o1 o2) := by
  intro f args H r H' hf
  unfold orcOr at hf
  split at hf
  · rename_i x hx
    simp at hf; subst hf
    exact h1 f args H r H' hx
  · exact h2 f args H r H' hf


def resOf : List AV → AV
  | [v] => v
  | vs => .tuple vs

/-- Calls n deep are gone into, but for those that are the oracle's. -/
def orcN (P : Program) (gl : Glob) (orc : Orc) (isC : Nat → Bool) : Nat → Orc
  | 0 => orc
  | n + 1 => fun f args H => match isC f with | true => orc f args H | false => afunc P gl (orcN P gl orc isC n) 0 f args H
theorem orcN_sound {P : Program} {gl : Glob} {orc : Orc} {isC : Nat → Bool} (hm : P.follows .mixedOrders = true) (hn : NoNum P) (hO : OrcSound P gl orc) : ∀ n, OrcSound P gl (orcN P gl orc isC n)
  | 0 => hO
  | n + 1 => by
    intro f args H r H' hf
    simp only [orcN] at hf
    split at hf
    · exact hO f args H r H' hf
    · exact afunc_sound (fuel := 0) hm hn (orcN_sound hm hn hO n) f args H r H' hf

/-- A call: the oracle answers, or it is gone into (isC: the oracle's). -/
noncomputable def wcall (P : Program) (gl : Glob) (orc : Orc) (isC : Nat → Bool) : Nat → CW :=
  Nat.rec (motive := fun _ => CW) (cw0 P orc) (fun n ih g args H k => match isC g || !(hasBody P g) with
    | true => ∃ y, acall P orc H g args = some y ∧ frcW y.1 fun r => frcHW y.2 fun H' => k r H'
    | false => onO P.funcs[g]? fun fn => onO fn.body fun c => frcTr (tmk (tini args fn.ntmps args.length) (tdep 20 fn.ntmps)) fun tm =>
      wexec P gl (orcN P gl orc isC n) ih noLoop c (fun tm H => onO (aress P tm H fn.results.toList) fun vs => frcW (resOf vs) fun r => k r H) (fun _ _ _ => False) (fun tm H => onO (aress P tm H fn.results.toList) fun vs => frcW (resOf vs) fun r => k r H) tm H)

def finR (P : Program) (l : List ResultVar) (Φ : AV → Prop) (tm : Tr) (H : AHeap) : Prop := onO (aress P tm H l) fun vs => ∃ r, frz H 30 (resOf vs) = some r ∧ Φ r

theorem wcall_ok {P : Program} {gl : Glob} {orc : Orc} {isC : Nat → Bool} : ∀ n, CWok P (orcN P gl orc isC n) (wcall P gl orc isC n)
  | 0 => cw0_ok P orc
  | n + 1 => by
    intro g args H k h
    replace h : (match isC g || !(hasBody P g) with
      | true => ∃ y, acall P orc H g args = some y ∧ frcW y.1 fun r => frcHW y.2 fun H' => k r H'
      | false => onO P.funcs[g]? fun fn => onO fn.body fun c => frcTr (tmk (tini args fn.ntmps args.length) (tdep 20 fn.ntmps)) fun tm =>
        wexec P gl (orcN P gl orc isC n) (wcall P gl orc isC n) noLoop c (fun tm H => onO (aress P tm H fn.results.toList) fun vs => frcW (resOf vs) fun r => k r H) (fun _ _ _ => False) (fun tm H => onO (aress P tm H fn.results.toList) fun vs => frcW (resOf vs) fun r => k r H) tm H) := h
    split at h
    · obtain ⟨y, h1, h2⟩ := h
      rename_i hc
      rw [frcW_eq, frcHW_eq] at h2
      refine ⟨y.1, y.2, ?_, h2⟩
      unfold acall at h1 ⊢
      cases hb : hasBody P g with
      | false => rw [hb] at h1; exact h1
      | true =>
        rw [hb] at h1 hc
        have hi : isC g = true := by simpa using hc
        simp only [if_true] at h1 ⊢
        simp only [orcN, hi]; exact h1
    · rename_i hb
      have hi : isC g = false := by cases hq : isC g with | false => rfl | true => rw [hq] at hb; simp at hb
      have hb' : hasBody P g = true := by cases hq : hasBody P g with | true => rfl | false => rw [hq] at hb; simp at hb
      obtain ⟨fn, hfn, h⟩ := onO_some h
      obtain ⟨c, hc, h⟩ := onO_some h
      rw [frcTr_eq] at h
      unfold acall
      rw [if_pos hb']
      simp only [orcN, hi]
      obtain ⟨x, tm1, H1, h1, h⟩ := wexecF_ok (fuel := 0) (wcall_ok n) c h
      have fin : ∀ {tm1 H1}, (onO (aress P tm1 H1 fn.results.toList) fun vs => frcW (resOf vs) fun r => k r H1) → ∃ us, aress P tm1 H1 fn.results.toList = some us ∧ k (resOf us) H1 := fun h => by
        obtain ⟨us, e1, e2⟩ := onO_some h
        rw [frcW_eq] at e2
        exact ⟨us, e1, e2⟩
      have done : ∀ {us : List AV}, aress P tm1 H1 fn.results.toList = some us → (x = .normal ∨ x = .ret) → afunc P gl (orcN P gl orc isC n) 0 g args H = some (resOf us, H1) := by
        intro us e hx
        unfold afunc
        simp only [hfn, hc, frcVL_eq, frcH_eq, h1]
        rcases hx with rfl | rfl
        all_goals
          simp only [e]
          match us with
          | [] => rfl
          | [u] => rfl
          | u :: u' :: l => rfl
      cases x with
      | normal => obtain ⟨us, e1, e2⟩ := fin h; exact ⟨_, _, done e1 (.inl rfl), e2⟩
      | exit id => exact (h : False).elim
      | ret => obtain ⟨us, e1, e2⟩ := fin h; exact ⟨_, _, done e1 (.inr rfl), e2⟩

/-- A function's body, run. -/
theorem fn_valG {P : Program} {gl : Glob} {orc : Orc} (hm : P.follows .mixedOrders = true) (hn : NoNum P) (hO : OrcSound P gl orc) {f : Nat} {fn : Func} {c : Code} {args : List AV} {r : AV}
    (hf : P.funcs[f]? = some fn) (hc : fn.body = some c)
    {cw : CW} (hcw : CWok P orc cw)
    (h : frcTr (tmk (tini args fn.ntmps args.length) (tdep 20 fn.ntmps)) fun tm => wexec P gl orc cw wloop c (finR P fn.results.toList (· = r)) (fun _ _ _ => False) (finR P fn.results.toList (· = r)) tm []) : ValOK P gl f args r := by
  intro sn W cargs hg hR ha
  rw [frcTr_eq] at h
  refine calls_of_wp hf hc (wexec_ok hm hn hO hcw c h _ W sn noI _ hg hR (tini_sound ha _ _ _) fun x tm1 H1 a1 W1 sn1 ι1 hx s1 t1 d1 => ?_)
  have key : finR P fn.results.toList (· = r) tm1 H1 → ∃ v, (results fn a1.tmps).run P W1 = .ok v W1 ∧ VR (snx sn W.heap.size W1) noI r v := by
    intro h
    obtain ⟨us, h1, r', h2, h3⟩ := onO_some h
    subst h3
    obtain ⟨vs, h4, h5⟩ := aress_sound s1.rel t1 _ _ h1
    have hle : Le (snx sn1 W.heap.size W1) (snx sn W.heap.size W1) noI noI := ⟨fun a v hv => by
      unfold snx at hv ⊢
      split at hv
      · rename_i hlt
        rw [if_pos hlt]
        rcases s1.sfresh a v hv with h | h | ⟨b0, o0, p0, hb, _⟩
        · exact h
        · omega
        · simp at hb
      · rename_i hlt
        rw [if_neg hlt]; exact hv, fun _ _ h => h⟩
    have hfr : ∀ (b : Nat) (o : AObj) p, H1[b]? = some o → o.alive = true → ι1 b = some p → W.heap.size ≤ p.blk := by
      intro b o p hb ha hp
      rcases s1.fresh b o p hb ha hp with h | ⟨b0, o0, p0, hb, _⟩
      · exact h
      · simp at hb
    refine ⟨_, results_list h5, VR_mono hle _ _ (frz_sound s1.rel hfr 30 _ _ _ h2 ?_)⟩
    clear h1 h2
    match us, h4 with
    | [], h4 => simp only [LR] at h4; subst h4; simp [resOf, VR, LR]
    | [u], h4 =>
      simp only [LR] at h4
      obtain ⟨d, ds, rfl, hd, rfl⟩ := h4
      simpa [resOf] using hd
    | u :: u' :: l, h4 =>
      have hl := h4.length
      simp only [List.length_cons] at hl
      have : vs.toArray.size ≠ 1 := by simp [hl]
      rw [dif_neg this]
      simp only [resOf, VR]
      exact ⟨_, rfl, h4⟩
  cases x with
  | normal =>
    obtain ⟨v, k1, k2⟩ := key hx
    exact bodyPost_end k1 d1 ⟨v, rfl, s1.ext, k2⟩
  | exit id => exact hx.elim
  | ret =>
    obtain ⟨v, k1, k2⟩ := key hx
    exact bodyPost_ret k1 d1 ⟨v, rfl, s1.ext, k2⟩

/-- A function's body, run; calls are the oracle's. -/
theorem fn_val {P : Program} {gl : Glob} {orc : Orc} (hm : P.follows .mixedOrders = true) (hn : NoNum P) (hO : OrcSound P gl orc) {f : Nat} {fn : Func} {c : Code} {args : List AV} {r : AV} (hf : P.funcs[f]? = some fn) (hc : fn.body = some c)
    (h : frcTr (tmk (tini args fn.ntmps args.length) (tdep 20 fn.ntmps)) fun tm => wexec P gl orc (cw0 P orc) wloop c (finR P fn.results.toList (· = r)) (fun _ _ _ => False) (finR P fn.results.toList (· = r)) tm []) : ValOK P gl f args r :=
  fn_valG hm hn hO hf hc (cw0_ok P orc) h

/-- A function's body, run; calls are gone into, n deep, but for those that are the oracle's. -/
theorem fn_valI {P : Program} {gl : Glob} {orc : Orc} (isC : Nat → Bool) (n : Nat) (hm : P.follows .mixedOrders = true) (hn : NoNum P) (hO : OrcSound P gl orc) {f : Nat} {fn : Func} {c : Code} {args : List AV} {r : AV} (hf : P.funcs[f]? = some fn) (hc : fn.body = some c)
    (h : frcTr (tmk (tini args fn.ntmps args.length) (tdep 20 fn.ntmps)) fun tm => wexec P gl (orcN P gl orc isC n) (wcall P gl orc isC n) wloop c (finR P fn.results.toList (· = r)) (fun _ _ _ => False) (finR P fn.results.toList (· = r)) tm []) : ValOK P gl f args r :=
  fn_valG hm hn (orcN_sound hm hn hO n) hf hc (wcall_ok n) h

/-- A law: it says true, whatever it is handed. -/
theorem val_calls {P : Program} {gl : Glob} {f : Nat} {args : List AV} {b : Bool} (h : ValOK P gl f args (.bool b)) {W : World} (hg : GlOK gl (snap0 W)) {cargs : List Value} (ha : LR (snap0 W) noI args cargs) :
    Calls P f cargs.toArray W fun e W' => e = .returned (.bool b) ∧ Below W.heap.size W W' := by
  refine (h (snap0 W) W cargs hg (R0 W) ha).mono ?_
  rintro e W' ⟨v, rfl, hx, hv⟩
  cases hv.bool
  exact ⟨rfl, ((R0 W).ext hx |> fun _ => Stp.below (Stp.ext (R0 W) hx))⟩
end Go.Abs
end

/-
  A verified abstract interpreter, part 36: functions that read what they are handed and hand back plain values; steps of a proof.
-/
section
set_option linter.unusedSimpArgs false
set_option linter.unusedVariables false
namespace Go.Abs
open Go.RowKit

mutual
/-- Nothing in memory hangs on it. -/
def plain : AV → Bool
  | .bool _ => true
  | .int _ _ => true
  | .str _ => true
  | .nptr => true
  | .nslice => true
  | .nmap => true
  | .nfunc => true
  | .niface => true
  | .agg cs => plainL cs
  | .tuple cs => plainL cs
  | .iface _ u => plain u
  | _ => false
def plainL : List AV → Bool
  | [] => true
  | c :: l => plain c && plainL l
end

mutual
theorem plain_VR {sn sn' : Snap} {ι ι' : IMap} : ∀ {u : AV} {v : Value}, plain u = true → VR sn ι u v → VR sn' ι' u v
  | .bool _, v, h, e => by simpa [VR] using e
  | .int _ _, v, h, e => by simpa [VR] using e
  | .str _, v, h, e => by simpa [VR] using e
  | .nptr, v, h, e => by simpa [VR] using e
  | .nslice, v, h, e => by simpa [VR] using e
  | .nmap, v, h, e => by simpa [VR] using e
  | .nfunc, v, h, e => by simpa [VR] using e
  | .niface, v, h, e => by simpa [VR] using e
  | .agg cs, v, h, e => by
    obtain ⟨d, rfl, h1⟩ := e.agg
    exact vr_agg (plainL_LR (by simpa [plain] using h) h1)
  | .tuple cs, v, h, e => by
    obtain ⟨d, rfl, h1⟩ := e.tuple
    exact vr_tuple (plainL_LR (by simpa [plain] using h) h1)
  | .ptr _ _, v, h, e => by simp [plain] at h
  | .rp _, v, h, e => by simp [plain] at h
  | .slice .., v, h, e => by simp [plain] at h
  | .rs .., v, h, e => by simp [plain] at h
  | .map _, v, h, e => by simp [plain] at h
  | .func .., v, h, e => by simp [plain] at h
  | .iface t u, v, h, e => by
    simp only [VR] at e ⊢
    obtain ⟨x, rfl, h1⟩ := e
    exact ⟨x, rfl, plain_VR (by simpa [plain] using h) h1⟩
theorem plainL_LR {sn sn' : Snap} {ι ι' : IMap} : ∀ {l : List AV} {vs : List Value}, plainL l = true → LR sn ι l vs → LR sn' ι' l vs
  | [], vs, h, e => by simpa [LR] using e
  | c :: l, vs, h, e => by
    simp only [plainL, Bool.and_eq_true] at h
    simp only [LR] at e ⊢
    obtain ⟨d, ds, rfl, h1, h2⟩ := e
    exact ⟨d, ds, rfl, plain_VR h.1 h1, plainL_LR h.2 h2⟩
end

/-- An oracle for functions that hand back plain values: they see what they are handed with all that it leads to. -/
def orcZ (F : Nat → List AV → Option AV) : Orc := fun f args H => match frzL (frz H 30) args with
  | some az => match F f az with | some r => some (r, H) | none => none
  | none => none

theorem orcZ_sound {P : Program} {gl : Glob} {F : Nat → List AV → Option AV} (h : ∀ f args r, F f args = some r → plain r = true ∧ ValOK P gl f args r) : OrcSound P gl (orcZ F) := by
  intro f args H r H' hf sn ι W cargs hg hR ha
  unfold orcZ at hf
  split at hf <;> try (simp at hf; done)
  rename_i az has
  split at hf <;> simp at hf
  rename_i r' hr
  obtain ⟨rfl, rfl⟩ := hf
  obtain ⟨h1, h2⟩ := h f az r' hr
  have hle : ∀ a v, sn a = some v → snx sn 0 W a = some v := fun a v hv => by
    unfold snx; rw [if_neg (by omega)]; exact (hR.snap a v hv).2.1
  have hR' : R (snx sn 0 W) noI [] W :=
    ⟨fun b => ⟨fun hb => by simp at hb, fun ⟨p, hp⟩ => by simp [noI] at hp⟩, fun b p hp => by simp [noI] at hp, fun b o p hb => by simp at hb, fun b b' o o' p p' hb => by simp at hb,
      fun a v hv => by
        unfold snx at hv; rw [if_neg (by omega)] at hv
        refine ⟨?_, hv, fun b o p hb => by simp at hb⟩
        cases hq : W.heap[a.block]? with
        | none => unfold World.cell? at hv; rw [hq] at hv; simp at hv
        | some ob => exact (Array.getElem?_eq_some_iff.1 hq).1,
      fun b o p hb => by simp at hb⟩
  have hargs : LR (snx sn 0 W) noI az cargs := frzL_sound (fun u r v => frz_sound hR (fun _ _ _ _ _ _ => Nat.zero_le _) 30 u r v) has ha
  refine (h2 _ W cargs (hg.mono (gl_le hle)) hR' hargs).mono ?_
  rintro e W' ⟨v, rfl, hx, hv⟩
  exact ⟨v, sn, ι, rfl, plain_VR h1 hv, Stp.ext hR hx⟩

/-! steps -/
theorem condT {t : Bool} {A B : Prop} (h : t = true) (a : A) : (t = true → A) ∧ (t = false → B) := ⟨fun _ => a, fun e => (by rw [h] at e; cases e)⟩
theorem condF {t : Bool} {A B : Prop} (h : t = false) (b : B) : (t = true → A) ∧ (t = false → B) := ⟨fun e => (by rw [h] at e; cases e), fun _ => b⟩
theorem condB {t : Bool} {A B : Prop} (a : t = true → A) (b : t = false → B) : (t = true → A) ∧ (t = false → B) := ⟨a, b⟩
theorem exI {α : Type} {o : Option α} {r : α} {K : α → Prop} (h : o = some r) (k : K r) : ∃ r, o = some r ∧ K r := ⟨r, h, k⟩
theorem exW {α : Type} {x n : α} {K : α → Prop} (h : x = n) (k : K n) : ∃ n, x = n ∧ K n := ⟨n, h, k⟩
theorem wrapN {m j : Nat} (h : m + j ≤ 9223372036854775807) : IntKind.i64.wrap ((m : Int) + (j : Int)) = ((m + j : Nat) : Int) := by rw [IntWalk.i64_in _ ⟨by omega, by omega⟩]; omega
theorem wrapN1 {m : Nat} (h : m + 1 ≤ 9223372036854775807) : IntKind.i64.wrap ((m : Int) + 1) = ((m + 1 : Nat) : Int) := by rw [IntWalk.i64_in _ ⟨by omega, by omega⟩]; omega
theorem wrapB {n : Int} (h1 : -9223372036854775808 ≤ n) (h2 : n ≤ 9223372036854775807) : IntKind.i64.wrap n = n := IntWalk.i64_in n ⟨h1, h2⟩
/-- An index, its bound. -/
theorem ixJ {i : Int} {n : Nat} {K : Nat → Prop} (j : Nat) (h1 : i = (j : Int)) (h2 : j < n) (k : K j) : ∃ j : Nat, (i = (j : Int) ∧ j < n) ∧ K j := ⟨j, ⟨h1, h2⟩, k⟩
theorem ixJ' {i : Int} {n : Nat} {K : Nat → Prop} (j : Nat) (h1 : i = (j : Int)) (h2 : j ≤ n) (k : K j) : ∃ j : Nat, (i = (j : Int) ∧ j ≤ n) ∧ K j := ⟨j, ⟨h1, h2⟩, k⟩
/-- A byte of a text. -/
theorem ixS {i : Int} {s : List UInt8} {K : Nat → UInt8 → Prop} (j : Nat) {b : UInt8} (h1 : i = (j : Int)) (h2 : s[j]? = some b) (k : K j b) : ∃ j : Nat, i = (j : Int) ∧ ∃ b, s[j]? = some b ∧ K j b := ⟨j, h1, b, h2, k⟩
theorem bndI {a b c d : Int} {K : Prop} (h1 : a ≤ b) (h2 : c < d) (k : K) : (a ≤ b ∧ c < d) ∧ K := ⟨⟨h1, h2⟩, k⟩
theorem bndI' {a b c d : Int} {K : Prop} (h1 : a ≤ b) (h2 : c ≤ d) (k : K) : (a ≤ b ∧ c ≤ d) ∧ K := ⟨⟨h1, h2⟩, k⟩
theorem eqR {u v : AV} {K : Prop} (h : u = v) (k : K) : u = v ∧ K := ⟨h, k⟩
theorem eqI {α : Type} {a b : α} (h : a = b) : (fun x => x = b) a := h

/-- The numbers of a list of cells. -/
def intsOf : List AV → Option (List Int)
  | [] => some []
  | .int .i64 n :: l => match intsOf l with | some r => some (n :: r) | none => none
  | _ => none
theorem intsOf_map : ∀ l : List Int, intsOf (l.map (AV.int .i64)) = some l
  | [] => rfl
  | n :: l => by simp only [List.map_cons, intsOf, intsOf_map l]
theorem intsOf_some : ∀ {cs : List AV} {l : List Int}, intsOf cs = some l → cs = l.map (AV.int .i64)
  | [], l, h => by simp [intsOf] at h; subst h; rfl
  | c :: cs, l, h => by
    unfold intsOf at h
    split at h <;> try (simp at h; done)
    · rename_i e; simp at e
    · rename_i n l' e
      simp at e; obtain ⟨rfl, rfl⟩ := e
      split at h <;> simp at h
      rename_i r hr
      subst h
      rw [intsOf_some hr]; rfl

/-- Of arguments among which there is a slice: it has az many cells az it must. -/
theorem ValOK.rs {P : Program} {gl : Glob} {f : Nat} {pre post : List AV} {n z : Nat} {cs : List AV} {r : AV} (h : cs.length = n * z → ValOK P gl f (pre ++ .rs n z cs :: post) r) : ValOK P gl f (pre ++ .rs n z cs :: post) r := by
  intro sn W cargs hg hR ha
  have hc : cs.length = n * z := by
    have h1 : (pre ++ .rs n z cs :: post)[pre.length]? = some (.rs n z cs) := by simp
    obtain ⟨v, _, h2⟩ := ha.get h1
    obtain ⟨_, _, _, _, h3, _⟩ := h2.rs
    exact h3
  exact h hc sn W cargs hg hR ha
theorem callZ {P : Program} {F : Nat → List AV → Option AV} {H : AHeap} {g : Nat} {args fa : List AV} {r : AV} (h1 : hasBody P g = true) (h2 : frzL (frz H 30) args = some fa) (h3 : F g fa = some r) : acall P (orcZ F) H g args = some (r, H) := by
  simp only [acall, h1, if_true, orcZ, h2, h3]
end Go.Abs
end

/-
  A verified abstract interpreter, part 37: a law's arguments: what is read of them as data, as values of the interpreter; they read as before behind the call.
-/
section
set_option linter.unusedSimpArgs false
set_option linter.unusedVariables false
namespace Go.Abs
open Go.RowKit Go.ChangeShapes Go.WideShapes Go.ChangeAt

/-- What a type is made of stands in the table; the elements of a slice have cells. -/
def okType (P : Program) (t : TypeId) : Bool := match P.underlying t with
  | some (.slice e) => Nat.blt e P.types.size && !(Nat.beq (P.cellsOf e) 0)
  | some (.pointer e) => Nat.blt e P.types.size
  | some (.array _ e) => Nat.blt e P.types.size
  | some (.map _ e) => Nat.blt e P.types.size
  | some (.struct fs) => fs.toList.all fun f => Nat.blt f.type P.types.size
  | _ => true
def Solid (P : Program) : Prop := ((List.range P.types.size).all fun t => okType P t) = true
theorem Solid.at {P : Program} (h : Solid P) {t : TypeId} (ht : t < P.types.size) : okType P t = true := List.all_eq_true.1 h t (List.mem_range.2 ht)
theorem blt_lt {a b : Nat} (h : Nat.blt a b = true) : a < b := by simpa [Nat.blt_eq] using h

section keep
variable {H : Type} {enc : TypeId × Value → H} {P : Program} {w w' : World} {base : Nat} {sp : Nat → Bool}

/-- What was read with all spare places is read alike where the blocks that were met are asked for theirs. -/
theorem trod_spare (hP : Solid P) : ∀ (n : Nat) (t : TypeId) (cs : List Value) (x : DataW H × List MemPlace), t < P.types.size → DataW.trod enc P w base (fun _ => true) true n t cs = some x → (∀ p ∈ x.2, sp p.block = true) → DataW.trod enc P w base sp true n t cs = some x := by
  intro n
  induction n with
  | zero => intro t cs x _ h; simp [DataW.trod] at h
  | succ n ih =>
    intro t cs x htl h hs
    have hok := hP.at htl
    unfold okType at hok
    rw [DataW.trod_step] at h ⊢
    unfold DataW.trodStep at h ⊢
    split at h
    case h_6 e a hu =>
      simp only [hu] at hok
      simp only [Option.map_eq_some_iff, Option.bind_eq_some_iff] at h ⊢
      obtain ⟨y, ⟨cs', hc, hy⟩, rfl⟩ := h
      exact ⟨y, ⟨cs', hc, ih _ _ _ (blt_lt hok) hy fun p hp => hs p (by simp [hp])⟩, rfl⟩
    case h_8 e a len cap hu =>
      simp only [hu, Bool.and_eq_true] at hok
      have hel := blt_lt hok.1
      have hz : P.cellsOf e ≠ 0 := fun h0 => by rw [h0] at hok; cases hok.2
      simp only [if_true] at h ⊢
      split at h
      · rename_i hc
        rw [if_pos hc]
        simp only [Option.map_eq_some_iff, Option.bind_eq_some_iff] at h ⊢
        obtain ⟨els, he, rest, hrest, rfl⟩ := h
        have each : ∀ (i : Nat) (y : DataW H × List MemPlace), y ∈ els ++ rest → (w.cells? base (a.add (i * P.cellsOf e)) (P.cellsOf e)).bind (DataW.trod enc P w base (fun _ => true) true n e) = some y →
            (w.cells? base (a.add (i * P.cellsOf e)) (P.cellsOf e)).bind (DataW.trod enc P w base sp true n e) = some y := by
          intro i y hy hv
          simp only [Option.bind_eq_some_iff] at hv ⊢
          obtain ⟨cs', h1, h2⟩ := hv
          exact ⟨cs', h1, ih _ _ _ hel h2 fun p hp => hs p (by simp only [List.mem_append, List.mem_flatMap]; exact .inr ⟨y, by simpa using hy, hp⟩)⟩
        refine ⟨els, mapM_carry he fun i y _ hy hv => each i y (by simp [hy]) hv, rest, ?_, rfl⟩
        have hr := mapM_carry hrest fun j y _ hy hv => each (len + j) y (by simp [hy]) hv
        cases hsp : sp a.block with
        | true => simpa using hr
        | false =>
          have h0 : rest = [] := by
            cases hq : rest with
            | nil => rfl
            | cons y l =>
              exfalso
              have h1 : 0 < (els.length + rest.length) * P.cellsOf e := Nat.mul_pos (by rw [hq]; simp only [List.length_cons]; omega) (by omega)
              have := hs (.cell a.block (a.off + 0)) (by simp only [List.mem_append]; exact .inl (MemPlace.mem_row.2 ⟨0, h1, rfl⟩))
              simp only [MemPlace.block] at this
              rw [hsp] at this; cases this
          subst h0
          have hl : ([] : List (DataW H × List MemPlace)).length = cap - len := by simpa using mapM_some_length hrest
          rfl
      · cases h
    case h_9 fs hu =>
      simp only [hu] at hok
      split at h
      · rename_i hc
        rw [if_pos hc]
        simp only [Option.map_eq_some_iff] at h ⊢
        obtain ⟨xs, hx, rfl⟩ := h
        exact ⟨xs, mapM_carry hx fun f y hf hy hv => ih _ _ _ (blt_lt (List.all_eq_true.1 hok f hf)) hv fun p hp => hs p (List.mem_flatMap.2 ⟨y, hy, hp⟩), rfl⟩
      · cases h
    case h_10 k e hu =>
      simp only [hu] at hok
      split at h
      · rename_i hc
        rw [if_pos hc]
        simp only [Option.map_eq_some_iff] at h ⊢
        obtain ⟨xs, hx, rfl⟩ := h
        exact ⟨xs, mapM_carry hx fun f y _ hy hv => ih _ _ _ (blt_lt hok) hv fun p hp => hs p (List.mem_flatMap.2 ⟨y, hy, hp⟩), rfl⟩
      · cases h
    case h_12 => split at h <;> first | exact h | (rename_i e _; cases e) | cases h
    case h_14 k e b hu =>
      simp only [hu] at hok
      split at h
      · rename_i es clock hb
        split at h
        · rename_i hc
          simp only [Option.bind_eq_some_iff] at h
          obtain ⟨entries, he, hd⟩ := h
          split at hd
          · rename_i hris
            have hx := Option.some.inj hd
            subst hx
            simp only [hb, if_pos hc, Option.bind_eq_some_iff]
            refine ⟨entries, mapM_carry he (fun x y _ hy hv => ?_), by simp [hris]⟩
            simp only [Option.bind_eq_some_iff] at hv ⊢
            obtain ⟨key, hk, hz⟩ := hv
            refine ⟨key, hk, ?_⟩
            split at hz
            · rename_i hf
              rw [if_pos hf]
              simp only [Option.map_eq_some_iff] at hz ⊢
              obtain ⟨q, hq, rfl⟩ := hz
              exact ⟨q, ih _ _ _ (blt_lt hok) hq fun p hp => hs p (by simp only [List.mem_cons, List.mem_flatMap]; exact .inr ⟨_, hy, hp⟩), rfl⟩
            · cases hz
          · cases hd
        · cases h
      · cases h
    all_goals first | exact h | cases h

theorem sameAt_ext (he : Ext w w') {p : MemPlace} (hp : p.block < w.heap.size) : w.sameAt w' p := by
  cases p with
  | cell b off =>
    have := he.old b hp
    simp only [World.sameAt, World.cell?, this]
  | map b => exact he.old b hp

theorem trodAll_keep (hP : Solid P) (he : Ext w w') : ∀ {ts : List TypeId} {vs : List Value} {ds : List (DataW H)} {ps : List MemPlace}, (∀ t ∈ ts, t < P.types.size) → DataW.TrodAll enc P w base (fun _ => true) true ts vs ds ps → (∀ p ∈ ps, p.block < w.heap.size) → (∀ p ∈ ps, sp p.block = true) →
    DataW.TrodAll enc P w' base sp true ts vs ds ps
  | [], [], [], ps, _, h, _, _ => h
  | t :: ts, v :: vs, d :: ds, ps, ht, h, h1, h2 => by
    obtain ⟨p, q, ⟨fuel, hp⟩, hq, rfl⟩ := h
    refine ⟨p, q, ⟨fuel, trod_spare hP _ _ _ _ (ht t (by simp)) (DataW.trod_carry _ _ _ _ hp fun x hx => sameAt_ext he (h1 x (by simp [hx]))) fun x hx => h2 x (by simp [hx])⟩,
      trodAll_keep hP he (fun t h => ht t (by simp [h])) hq (fun x hx => h1 x (by simp [hx])) (fun x hx => h2 x (by simp [hx])), rfl⟩
  | [], [], _ :: _, _, _, h, _, _ => h.elim
  | [], _ :: _, _, _, _, h, _, _ => h.elim
  | _ :: _, [], _, _, _, h, _, _ => h.elim
  | _ :: _, _ :: _, [], _, _, h, _, _ => h.elim
end keep

/-! what is read, as values -/
/-- Whatever is read as data of type t, its cells are such. -/
def Opens (P : Program) (t : TypeId) (Q : List AV → Prop) : Prop :=
  ∀ (H : Type) (enc : TypeId × Value → H) (W : World) (fuel : Nat) (cs : List Value) (x : DataW H × List MemPlace), DataW.trod enc P W 0 (fun _ => true) true fuel t cs = some x → ∃ us, Q us ∧ LR (snap0 W) noI us cs

section opens
variable {P : Program}

theorem opens_mono {t : TypeId} {Q Q' : List AV → Prop} (h : Opens P t Q) (hq : ∀ us, Q us → Q' us) : Opens P t Q' := fun H enc W fuel cs x hx => let ⟨us, h1, h2⟩ := h H enc W fuel cs x hx; ⟨us, hq _ h1, h2⟩

theorem opens_bool {t : TypeId} (ht : P.underlying t = some .bool) : Opens P t fun us => ∃ b, us = [.bool b] := by
  intro H enc W fuel cs x h
  obtain ⟨b, rfl, _⟩ := DataW.trod_bool ht h
  exact ⟨_, ⟨b, rfl⟩, by simp [LR, VR]⟩

theorem opens_int {t : TypeId} {k : IntKind} (ht : P.underlying t = some (.int k)) : Opens P t fun us => ∃ n, us = [.int k n] ∧ (Lit.int k n).wf = true := by
  intro H enc W fuel cs x h
  obtain ⟨n, rfl, _, hw⟩ := DataW.trod_int ht h
  exact ⟨_, ⟨n, rfl, hw⟩, by simp [LR, VR]⟩

theorem opens_str {t : TypeId} (ht : P.underlying t = some .string) : Opens P t fun us => ∃ s : List UInt8, us = [.str s] ∧ s.length ≤ maxLen := by
  intro H enc W fuel cs x h
  obtain ⟨s, rfl, _, hw⟩ := DataW.trod_string ht h
  refine ⟨_, ⟨s.data.toList, rfl, ?_⟩, by simp [LR, VR]⟩
  have : s.data.toList.length = s.size := by cases s; rfl
  omega

theorem cells?_get {W : World} {a : Addr} {n : Nat} {cs : List Value} (h : W.cells? 0 a n = some cs) : cs.length = n ∧ ∀ (i : Nat) (v : Value), cs[i]? = some v → W.cell? (a.add i) = some v := by
  unfold World.cells? at h
  rw [if_pos (Nat.zero_le _)] at h
  have hl : cs.length = n := by simpa using mapM_some_length h
  refine ⟨hl, fun i v hv => ?_⟩
  have hi : i < n := by rw [← hl]; exact (List.getElem?_eq_some_iff.1 hv).1
  have := mapM_some_get h i i (by simp [hi])
  rw [this, hv]

theorem LR_flat {sn : Snap} {ι : IMap} : ∀ {us : List (List AV)} {vs : List (List Value)}, us.length = vs.length → (∀ (i : Nat) (u : List AV) (v : List Value), us[i]? = some u → vs[i]? = some v → LR sn ι u v) → LR sn ι us.flatten vs.flatten
  | [], [], _, _ => by simp [LR]
  | u :: us, v :: vs, hl, h => by
    simp only [List.flatten_cons]
    exact (h 0 u v rfl rfl).append (LR_flat (by simpa using hl) fun i x y hx hy => h (i + 1) x y (by simpa using hx) (by simpa using hy))
  | [], _ :: _, hl, _ => by simp at hl
  | _ :: _, [], hl, _ => by simp at hl

theorem getElem_flatten {α : Type} {z : Nat} : ∀ {l : List (List α)} {i j : Nat} {x : List α} {y : α}, (∀ u ∈ l, u.length = z) → l[i]? = some x → x[j]? = some y → l.flatten[i * z + j]? = some y
  | [], i, j, x, y, h, hi, hj => by simp at hi
  | u :: l, 0, j, x, y, h, hi, hj => by
    simp at hi; subst hi
    simp only [List.flatten_cons, Nat.zero_mul, Nat.zero_add]
    rw [List.getElem?_append_left (List.getElem?_eq_some_iff.1 hj).1]; exact hj
  | u :: l, i + 1, j, x, y, h, hi, hj => by
    have hu := h u (by simp)
    simp only [List.flatten_cons]
    rw [List.getElem?_append_right (by rw [hu, Nat.add_mul]; omega), hu, show (i + 1) * z + j - z = i * z + j from by rw [Nat.add_mul]; omega]
    exact getElem_flatten (fun v hv => h v (by simp [hv])) (by simpa using hi) hj

theorem flatten_at {α : Type} {z : Nat} (hz : z ≠ 0) : ∀ {l : List (List α)} {k : Nat} {y : α}, (∀ u ∈ l, u.length = z) → l.flatten[k]? = some y → ∃ x, l[k / z]? = some x ∧ x[k % z]? = some y
  | [], k, y, h, hk => by simp at hk
  | u :: l, k, y, h, hk => by
    have hu := h u (by simp)
    simp only [List.flatten_cons] at hk
    by_cases hlt : k < z
    · rw [List.getElem?_append_left (by omega)] at hk
      exact ⟨u, by simp [Nat.div_eq_of_lt hlt], by rw [Nat.mod_eq_of_lt hlt]; exact hk⟩
    · rw [List.getElem?_append_right (by omega), hu] at hk
      obtain ⟨x, h1, h2⟩ := flatten_at hz (fun v hv => h v (by simp [hv])) hk
      have e1 : k / z = (k - z) / z + 1 := by
        rw [← Nat.add_div_right _ (by omega), Nat.sub_add_cancel (by omega)]
      have e2 : k % z = (k - z) % z := by
        rw [← Nat.add_mod_right (k - z) z, Nat.sub_add_cancel (by omega)]
      exact ⟨x, by rw [e1]; simpa using h1, by rw [e2]; exact h2⟩

theorem addr_addadd (a : Addr) (h : a.spot = none) (i j : Nat) : (a.add i).add j = ⟨a.block, a.off + i + j, none⟩ := by
  obtain ⟨b, o, s⟩ := a
  simp only at h
  subst h
  unfold Addr.add
  split <;> split <;> simp_all

/-- A slice: none, or one with such elements. -/
theorem opens_slice {t e : TypeId} {z : Nat} {Q : List AV → Prop} (ht : P.underlying t = some (.slice e)) (hz : P.cellsOf e = z) (hz0 : z ≠ 0) (he : Opens P e Q) :
    Opens P t fun us => us = [.nslice] ∨ ∃ l : List (List AV), (∀ u ∈ l, Q u ∧ u.length = z) ∧ us = [.rs l.length z l.flatten] ∧ l.length ≤ maxLen := by
  intro H enc W fuel cs x h
  rcases DataW.trod_slice ht h with ⟨rfl, _⟩ | ⟨a, len, cap, els, rest, n, _, rfl, _, _, hlc, hcm, hl, hel, hrest⟩
  · exact ⟨_, .inl rfl, by simp [LR, VR]⟩
  · rw [hz] at hel
    have each : ∀ i, i < len → ∃ (vs : List Value) (u : List AV), W.cells? 0 (a.add (i * z)) z = some vs ∧ Q u ∧ LR (snap0 W) noI u vs := by
      intro i hi
      have h1 := hel i hi
      have h2 : els[i]? = some els[i] := List.getElem?_eq_getElem (by omega)
      rw [h2] at h1
      simp only [Option.bind_eq_some_iff] at h1
      obtain ⟨vs, h3, h4⟩ := h1
      obtain ⟨u, h5, h6⟩ := he H enc W n vs _ h4
      exact ⟨vs, u, h3, h5, h6⟩
    have hex : ∃ (l : List (List AV)) (vss : List (List Value)), l.length = len ∧ vss.length = len ∧ ∀ i, i < len → ∃ vs u, l[i]? = some u ∧ vss[i]? = some vs ∧ W.cells? 0 (a.add (i * z)) z = some vs ∧ Q u ∧ LR (snap0 W) noI u vs := by
      clear hel hl h hlc hcm hrest
      induction len with
      | zero => exact ⟨[], [], rfl, rfl, fun i hi => by omega⟩
      | succ m ih =>
        obtain ⟨l, vss, h1, h2, h3⟩ := ih fun i hi => each i (by omega)
        obtain ⟨vs, u, g1, g2, g3⟩ := each m (by omega)
        refine ⟨l ++ [u], vss ++ [vs], by simp [h1], by simp [h2], fun i hi => ?_⟩
        by_cases e : i = m
        · subst e
          exact ⟨vs, u, by simp [← h1], by simp [← h2], g1, g2, g3⟩
        · obtain ⟨vs', u', k1, k2, k3⟩ := h3 i (by omega)
          exact ⟨vs', u', by rw [List.getElem?_append_left (by omega)]; exact k1, by rw [List.getElem?_append_left (by omega)]; exact k2, k3⟩
    obtain ⟨l, vss, h1, h2, h3⟩ := hex
    have hll : ∀ u ∈ l, Q u ∧ u.length = z := by
      intro u hu
      obtain ⟨i, hi, rfl⟩ := List.mem_iff_getElem.1 hu
      obtain ⟨vs, u', k1, k2, k3, k4, k5⟩ := h3 i (by omega)
      rw [List.getElem?_eq_getElem hi] at k1; simp at k1
      rw [k1]
      exact ⟨k4, by rw [← k5.length, (cells?_get k3).1]⟩
    refine ⟨_, .inr ⟨l, hll, rfl, by omega⟩, ?_⟩
    simp only [LR]
    refine ⟨_, _, rfl, ?_, rfl⟩
    simp only [VR]
    have hfl : l.flatten.length = l.length * z := by
      clear h1 h3
      induction l with
      | nil => simp
      | cons u l ih => simp only [List.flatten_cons, List.length_append, List.length_cons, (hll u (by simp)).2, ih fun v hv => hll v (by simp [hv])]; rw [Nat.add_mul]; omega
    have hspot : len ≠ 0 → a.spot = none := by
      intro h0
      obtain ⟨vs, u, k1, k2, k3, k4, k5⟩ := h3 0 (by omega)
      obtain ⟨g1, g2⟩ := cells?_get k3
      have : W.cell? ((a.add (0 * z)).add 0) = some vs[0] := g2 0 _ (List.getElem?_eq_getElem (by omega))
      rw [Nat.zero_mul] at this
      simpa [Addr.add] using World.cell?_spot this
    refine ⟨a, cap, by rw [h1], by omega, hfl, mr_of_get fun k u hu => ?_, fun h0 => hspot (by rw [← h1]; exact h0)⟩
    obtain ⟨x', g1, g2⟩ := flatten_at hz0 (fun u hu => (hll u hu).2) hu
    have hklt : k / z < len := by rw [← h1]; exact (List.getElem?_eq_some_iff.1 g1).1
    obtain ⟨vs, u', k1, k2, k3, k4, k5⟩ := h3 (k / z) hklt
    rw [g1] at k1; simp at k1; subst k1
    obtain ⟨v, e1, e2⟩ := k5.get g2
    refine ⟨v, ?_, e2⟩
    have hc := (cells?_get k3).2 _ _ e1
    rw [addr_addadd a (hspot (Nat.ne_of_gt (Nat.lt_of_le_of_lt (Nat.zero_le _) hklt)))] at hc
    have hk : a.off + k / z * z + k % z = a.off + k := by rw [Nat.add_assoc, Nat.mul_comm, Nat.div_add_mod]
    rw [hk] at hc
    unfold snap0
    have hlt : a.block < W.heap.size := by
      cases hq : W.heap[a.block]? with
      | none => unfold World.cell? at hc; simp only [hq] at hc; cases hc
      | some ob => exact (Array.getElem?_eq_some_iff.1 hq).1
    rw [if_pos (by exact hlt)]; exact hc

/-- The fields of a struct, one behind the other. -/
def FsQ : List (List AV → Prop) → List AV → Prop
  | [], us => us = []
  | Q :: Qs, us => ∃ u us', us = u ++ us' ∧ Q u ∧ FsQ Qs us'

def FsOpens (P : Program) : List Field → List (List AV → Prop) → Nat → Nat → Prop
  | [], [], off, tot => off = tot
  | f :: fs, Q :: Qs, off, tot => f.offset = off ∧ Opens P f.type Q ∧ FsOpens P fs Qs (off + P.cellsOf f.type) tot
  | _, _, _, _ => False

theorem opens_fs {H : Type} {enc : TypeId × Value → H} {W : World} {n tot : Nat} {cs : List Value} (hcs : cs.length = tot) : ∀ {fs : List Field} {Qs : List (List AV → Prop)} {xs : List (DataW H × List MemPlace)} {off : Nat}, FsOpens P fs Qs off tot → xs.length = fs.length → off ≤ tot →
    (∀ (i : Nat) (f : Field), fs[i]? = some f → DataW.trod enc P W 0 (fun _ => true) true n f.type ((cs.drop f.offset).take (P.cellsOf f.type)) = xs[i]?) → ∃ us, FsQ Qs us ∧ LR (snap0 W) noI us (cs.drop off)
  | [], [], xs, off, h, hl, ho, hx => by
    have : off = tot := h
    subst this
    exact ⟨[], rfl, by simp [LR, ← hcs]⟩
  | f :: fs, Q :: Qs, xs, off, h, hl, ho, hx => by
    obtain ⟨h1, h2, h3⟩ := h
    cases xs with
    | nil => simp at hl
    | cons x xs =>
      have h0 := hx 0 f rfl
      simp only [List.getElem?_cons_zero] at h0
      obtain ⟨u, q1, q2⟩ := h2 H enc W n _ _ h0
      have hle : ∀ (fs : List Field) (Qs : List (List AV → Prop)) (o : Nat), FsOpens P fs Qs o tot → o ≤ tot := by
        intro fs
        induction fs with
        | nil => intro Qs o h; cases Qs with | nil => exact Nat.le_of_eq h | cons _ _ => exact h.elim
        | cons g gs ih => intro Qs o h; cases Qs with | nil => exact h.elim | cons _ _ => have := ih _ _ h.2.2; omega
      obtain ⟨us, q3, q4⟩ := opens_fs hcs h3 (by simpa using hl) (hle _ _ _ h3) fun i g hg => by simpa using hx (i + 1) g (by simpa using hg)
      refine ⟨u ++ us, ⟨u, us, rfl, q1, q3⟩, ?_⟩
      rw [h1] at q2
      have := q2.append q4
      rwa [← List.drop_drop, List.take_append_drop] at this
  | [], _ :: _, xs, off, h, hl, ho, hx => h.elim
  | _ :: _, [], xs, off, h, hl, ho, hx => h.elim

theorem opens_struct {t : TypeId} {fs : Array Field} {Qs : List (List AV → Prop)} (ht : P.underlying t = some (.struct fs)) (h : FsOpens P fs.toList Qs 0 (P.cellsOf t)) : Opens P t (FsQ Qs) := by
  intro H enc W fuel cs x hx
  obtain ⟨xs, n, _, _, hl, hlen, hf⟩ := DataW.trod_struct ht hx
  obtain ⟨us, h1, h2⟩ := opens_fs hl h (by simpa using hlen) (Nat.zero_le _) fun i f hi => hf i f (by simpa using hi)
  exact ⟨us, h1, by simpa using h2⟩
end opens

/-- A value, from its cells. -/
def CellsTo (P : Program) (t : TypeId) (us : List AV) (u : AV) : Prop := match P.underlying t with
  | some (.struct _) => u = .agg us
  | some (.array _ _) => u = .agg us
  | _ => us = [u] ∧ one u = true
end Go.Abs
end

/-
  A verified abstract interpreter, part 38: a law with arguments: it says true and leaves all as it was.
-/
section
set_option linter.unusedSimpArgs false
set_option linter.unusedVariables false
namespace Go.Abs
open Go.RowKit Go.ChangeShapes Go.WideShapes Go.ChangeAt

/-- An argument of type t, as the interpreter knows it. -/
def OpensV (P : Program) (t : TypeId) (Q : AV → Prop) : Prop :=
  ∀ (H : Type) (enc : TypeId × Value → H) (W : World) (r : Reach) (b : Nat) (v : Value) (d : DataW H) (p : List MemPlace), Value.okWide P W r b t v → DataW.Trod enc P W 0 (fun _ => true) true t v d p → ∃ u, Q u ∧ VR (snap0 W) noI u v

section opens
variable {P : Program}
theorem lr_one {sn : Snap} {ι : IMap} {u : AV} {v : Value} (h : LR sn ι [u] [v]) : VR sn ι u v := by
  simp only [LR] at h
  obtain ⟨d, ds, e, h1, h2⟩ := h
  simp at e; obtain ⟨rfl, rfl⟩ := e
  exact h1

theorem opensV_int {t : TypeId} {k : IntKind} (ht : P.underlying t = some (.int k)) : OpensV P t fun u => ∃ n, u = .int k n ∧ (Lit.int k n).wf = true := by
  intro H enc W r b v d p hv ⟨fuel, h⟩
  obtain ⟨n, rfl⟩ := okWide_int ht hv
  obtain ⟨us, ⟨n', rfl, hw⟩, hl⟩ := opens_int ht H enc W fuel _ _ h
  exact ⟨_, ⟨n', rfl, hw⟩, lr_one (by simpa [Value.cells] using hl)⟩
theorem opensV_bool {t : TypeId} (ht : P.underlying t = some .bool) : OpensV P t fun u => ∃ b, u = .bool b := by
  intro H enc W r b v d p hv ⟨fuel, h⟩
  obtain ⟨n, rfl⟩ := okWide_bool ht hv
  obtain ⟨us, ⟨n', rfl⟩, hl⟩ := opens_bool ht H enc W fuel _ _ h
  exact ⟨_, ⟨n', rfl⟩, lr_one (by simpa [Value.cells] using hl)⟩
theorem opensV_str {t : TypeId} (ht : P.underlying t = some .string) : OpensV P t fun u => ∃ s : List UInt8, u = .str s ∧ s.length ≤ maxLen := by
  intro H enc W r b v d p hv ⟨fuel, h⟩
  obtain ⟨n, rfl⟩ := okWide_string ht hv
  obtain ⟨us, ⟨s, rfl, hs⟩, hl⟩ := opens_str ht H enc W fuel _ _ h
  exact ⟨_, ⟨s, rfl, hs⟩, lr_one (by simpa [Value.cells] using hl)⟩
theorem opensV_slice {t e : TypeId} {z : Nat} {Q : List AV → Prop} (ht : P.underlying t = some (.slice e)) (hz : P.cellsOf e = z) (hz0 : z ≠ 0) (he : Opens P e Q) :
    OpensV P t fun u => u = .nslice ∨ ∃ l : List (List AV), (∀ u ∈ l, Q u ∧ u.length = z) ∧ u = .rs l.length z l.flatten ∧ l.length ≤ maxLen := by
  intro H enc W r b v d p hv ⟨fuel, h⟩
  obtain ⟨a, n, c, rfl⟩ := okWide_slice ht hv
  obtain ⟨us, hq, hl⟩ := opens_slice ht hz hz0 he H enc W fuel _ _ h
  rcases hq with rfl | ⟨l, h1, rfl, h2⟩
  · exact ⟨_, .inl rfl, lr_one (by simpa [Value.cells] using hl)⟩
  · exact ⟨_, .inr ⟨l, h1, rfl, h2⟩, lr_one (by simpa [Value.cells] using hl)⟩
theorem opensV_struct {t : TypeId} {fs : Array Field} {Qs : List (List AV → Prop)} (ht : P.underlying t = some (.struct fs)) (h : FsOpens P fs.toList Qs 0 (P.cellsOf t)) : OpensV P t fun u => ∃ us, u = .agg us ∧ FsQ Qs us := by
  intro H enc W r b v d p hv ⟨fuel, hx⟩
  obtain ⟨cs, rfl, _⟩ := okWide_struct ht hv
  obtain ⟨us, hq, hl⟩ := opens_struct ht h H enc W fuel _ _ hx
  exact ⟨_, ⟨us, rfl, hq⟩, vr_agg (by simpa [Value.cells] using hl)⟩
theorem opensV_mono {t : TypeId} {Q Q' : AV → Prop} (h : OpensV P t Q) (hq : ∀ u, Q u → Q' u) : OpensV P t Q' := fun H enc W r b v d p hv ht => let ⟨u, h1, h2⟩ := h H enc W r b v d p hv ht; ⟨u, hq _ h1, h2⟩
end opens

def OpensAll (P : Program) : List TypeId → List (AV → Prop) → Prop
  | [], [] => True
  | t :: ts, Q :: Qs => OpensV P t Q ∧ OpensAll P ts Qs
  | _, _ => False
def AllQ : List (AV → Prop) → List AV → Prop
  | [], [] => True
  | Q :: Qs, u :: us => Q u ∧ AllQ Qs us
  | _, _ => False

theorem allQ_nil {us : List AV} (h : AllQ [] us) : us = [] := by cases us with | nil => rfl | cons _ _ => exact h.elim
theorem allQ_cons {Q : AV → Prop} {Qs : List (AV → Prop)} {us : List AV} (h : AllQ (Q :: Qs) us) : ∃ u us', us = u :: us' ∧ Q u ∧ AllQ Qs us' := by
  cases us with
  | nil => exact h.elim
  | cons u us => exact ⟨u, us, rfl, h.1, h.2⟩

theorem open_args {P : Program} {H : Type} {enc : TypeId × Value → H} {W : World} {r : Reach} {b : Nat} : ∀ {ts : List TypeId} {Qs : List (AV → Prop)} {vs : List Value} {ds : List (DataW H)} {ps : List MemPlace}, OpensAll P ts Qs →
    (∀ (j : Nat) t v, ts[j]? = some t → vs[j]? = some v → Value.okWide P W r b t v) → DataW.TrodAll enc P W 0 (fun _ => true) true ts vs ds ps → ds.length = ts.length ∧ ∃ us, AllQ Qs us ∧ LR (snap0 W) noI us vs
  | [], [], [], [], ps, ho, hv, h => ⟨rfl, [], trivial, by simp [LR]⟩
  | t :: ts, Q :: Qs, v :: vs, d :: ds, ps, ho, hv, h => by
    obtain ⟨p, q, hp, hq, _⟩ := h
    obtain ⟨u, h1, h2⟩ := ho.1 H enc W r b v d p (hv 0 t v rfl rfl) hp
    obtain ⟨hl, us, h3, h4⟩ := open_args ho.2 (fun j t v ht hv' => hv (j + 1) t v (by simpa using ht) (by simpa using hv')) hq
    exact ⟨by simp [hl], u :: us, ⟨h1, h3⟩, by simp only [LR]; exact ⟨v, vs, rfl, h2, h4⟩⟩
  | [], _ :: _, _, _, _, ho, _, _ => ho.elim
  | _ :: _, [], _, _, _, ho, _, _ => ho.elim
  | [], [], [], _ :: _, _, _, _, h => h.elim
  | [], [], _ :: _, _, _, _, _, h => h.elim
  | _ :: _, _ :: _, [], _, _, _, _, h => h.elim
  | _ :: _, _ :: _, _ :: _, [], _, _, _, h => h.elim

/-- A law: called with whatever can be read as data, it says true; all reads as before. -/
theorem law_calls {P : Program} {gl : Glob} {f : Nat} {fn : Func} {s : ChangeSpec} {Qs : List (AV → Prop)} {tb : TypeId} (hP : Solid P) (hts : (fn.params.toList.all fun t => Nat.blt t P.types.size) = true) (ho : OpensAll P fn.params.toList Qs) (hlaw : ∀ us, AllQ Qs us → ValOK P gl f us (.bool true))
    (hvars : s.vars = []) (hfn : ∀ (H : Type) (ds : List (DataW H)), ds.length = fn.params.toList.length → (s.fn H ds).results = [.lit (.bool true)] ∧ (s.fn H ds).args = ds ∧ (s.fn H ds).vars = []) (hr : fn.resultTypes = #[tb]) (hb : P.underlying tb = some .bool)
    {H : Type} {enc : TypeId × Value → H} {W : World} {base : Nat} {args : Array Value} {ds gs : List (DataW H)} {before : List MemPlace} (hg : GlOK gl (snap0 W))
    (hval : ∀ (j : Nat) t v, fn.params[j]? = some t → args[j]? = some v → Value.okWide P W .any base t v) (hW : DataW.Whole enc P fn.params.toList s.vars false W args.toList ds gs before) :
    Calls P f args W fun e W' => ∃ v, e = .returned v ∧ s.post enc P fn false true false false W args v W' := by
  have hW' := hW
  obtain ⟨p, q, hA, hV, rfl, hfz, hnd⟩ := hW
  rw [hvars] at hV
  obtain ⟨rfl, rfl⟩ := trodVars_none hV
  obtain ⟨hl, us, hq, hlr⟩ := open_args ho (fun j t v ht hv => hval j t v (by simpa using ht) (by simpa using hv)) hA
  have hlt : ∀ x ∈ p ++ [], x.block < W.heap.size := fun x hx => hW'.lt x hx
  refine ((hlaw us hq) (snap0 W) W args.toList hg (R0 W) hlr).mono ?_
  rintro e W' ⟨v, rfl, hx, hv⟩
  cases hv.bool
  obtain ⟨h1, h2, h3⟩ := hfn H ds (by simpa using hl)
  refine ⟨_, rfl, post_below (pa := p) (pv := []) hW' (fun b sp hd => ?_) (fun sp hsp => ?_) (fun sp _ => by rw [hvars, List.append_nil, h3]; rfl) rfl (Stp.below (Stp.ext (R0 W) hx)) (ok_one hr rfl (okWide_bool_mk hb _))⟩
  · rw [List.append_nil, h1, hr]
    exact trodAll_cons_mk (shut_bool hb _) trodAll_mk0
  · rw [List.append_nil, h2]
    exact trodAll_keep hP hx (fun t ht => blt_lt (List.all_eq_true.1 hts t ht)) hA (fun x hx => hlt x (by simp [hx])) fun x hx => hsp x (by simp [hx])
end Go.Abs
end

/-
  A verified abstract interpreter, part 39: steps of a proof: loops, texts.
-/
section
set_option linter.unusedSimpArgs false
set_option linter.unusedVariables false
namespace Go.Abs
open Go.RowKit

theorem FgL.mk {t0 tm : Tr} {H : AHeap} {l : List (Nat × AV)} {H2 : AHeap} (m : List Nat) (h : subT t0 tm = true) (h1 : SlotsGe m tm l) (h2 : HpGe H m m H2 0) (h3 : nodupN (m.map (famOf H)) = true) : FgL t0 tm H l H2 := by
  unfold FgL; rw [h]; exact ⟨m, h1, h2, h3⟩
/-- Nothing of memory is kept. -/
theorem FgL.mk0 {t0 tm : Tr} {H : AHeap} {l : List (Nat × AV)} (h : subT t0 tm = true) (h1 : SlotsGe [] tm l) : FgL t0 tm H l [] := FgL.mk [] h h1 trivial rfl
theorem wrapI {n : Int} (h : -9223372036854775808 ≤ n ∧ n ≤ 9223372036854775807) : IntKind.i64.wrap n = n := IntWalk.i64_in n h
/-- A loop, by what holds at its head. -/
theorem loopI {S : Type} (I : S → Prop) (L : S → List (Nat × AV)) (B : S → AHeap) (μ : S → Nat) {body : (Tr → AHeap → Prop) → Tr → AHeap → Prop} {tm : Tr} {H : AHeap} (s : S) (h0 : I s) (h1 : FgL tm tm H (L s) (B s))
    (h : ∀ s, I s → frcTr (mask (fun n => alook n (L s)) tm) fun tm1 => frcHW (B s) fun H1 => body (fun tm' H' => ∃ s', I s' ∧ μ s' < μ s ∧ FgL tm tm' H' (L s') (B s')) tm1 H1) : wloop body tm H := ⟨S, I, L, B, μ, ⟨s, h0, h1⟩, h⟩
theorem roundI {S : Type} {I : S → Prop} {μ : S → Nat} {K : S → Prop} {s0 : S} (s : S) (h0 : I s) (h1 : μ s < μ s0) (h2 : K s) : ∃ s', I s' ∧ μ s' < μ s0 ∧ K s' := ⟨s, h0, h1, h2⟩
/-- A shift's count. -/
theorem shlI {a b : Int} {K : Prop} (h : a ≤ b) (k : K) : a ≤ b ∧ K := ⟨h, k⟩
end Go.Abs
end

/-
  Of 'cantileverlaw02': letters, digits, blanks; how many bytes at the beginning are such.
-/
section
set_option linter.unusedVariables false
set_option linter.unusedSimpArgs false
namespace Go.Proofs.YtacaaiiooedgjaaDoor.lex
open Go.Abs Go.RowKit
set_option maxRecDepth 100000
theorem follows : Tryd.prog.follows .mixedOrders = true := by kernel_rfl
theorem noNumAll : (Tryd.prog.funcs.toList.all fun fn => !(fn.name == "runtime.NumGoroutine")) = true := by kernel_rfl
theorem noNum : NoNum Tryd.prog := fun g fn h => by
  have h1 := List.all_eq_true.1 noNumAll fn (Array.mem_toList_iff.2 (Array.mem_of_getElem? h))
  simpa using h1
variable {gl : Glob}
theorem none_sound : OrcSound Tryd.prog gl (orcV fun _ _ => none) := orcV_sound fun _ _ _ h => by cases h

def letB (n : Int) : Bool := decide (97 ≤ n) && decide (n ≤ 122) || decide (65 ≤ n) && decide (n ≤ 90)
def digB (n : Int) : Bool := decide (48 ≤ n) && decide (n ≤ 57)
def blaB (n : Int) : Bool := n == 32 || n == 9 || n == 10 || n == 13

theorem let_ok (n : Int) : ValOK Tryd.prog gl 37 [.int .u8 n] (.bool (letB n)) := by
  refine fn_val follows noNum none_sound Tryd.func37 rfl ?_
  repeat' ((conv => whnf); first | (with_reducible refine condT ?_ ?_; (focus ((first | assumption | decide | (simp; done) | (simp; omega)); done))) | (with_reducible refine condF ?_ ?_; (focus ((first | assumption | decide | (simp; done) | (simp; omega)); done))) | with_reducible refine condB (fun h => ?_) (fun h => ?_) | with_reducible refine exI rfl ?_ | with_reducible refine eqR rfl ?_ | (with_reducible refine exW (wrapN1 ?_) ?_; (focus (omega))) | (with_reducible refine exW (wrapN ?_) ?_; (focus (omega))) | (with_reducible refine exW (wrapB ?_ ?_) ?_; (focus (omega)); (focus (omega))) | with_reducible refine exW rfl ?_ | (with_reducible refine ixJ _ rfl ?_ ?_; (focus ((first | decide | omega | (simp; done) | (simp; omega)); done))) | (with_reducible refine ixJ' _ rfl ?_ ?_; (focus ((first | decide | omega | (simp; done) | (simp; omega)); done))) | (refine ixJ (Int.toNat _) ?_ ?_ ?_; (focus ((first | rfl | decide | omega | (simp; done)); done)); (focus ((first | decide | omega | (simp; done) | (simp; omega)); done))) | (refine ixJ' (Int.toNat _) ?_ ?_ ?_; (focus ((first | rfl | decide | omega | (simp; done)); done)); (focus ((first | decide | omega | (simp; done) | (simp; omega)); done))) | with_reducible refine ixS _ rfl (by assumption) ?_ | (with_reducible refine shlI ?_ ?_; (focus (first | decide | omega))) | (refine exI (callZ rfl rfl (if_pos ?_)) ?_; (focus ((first | decide | omega | (simp; done) | (simp; omega)); done))))
  all_goals (try simp_all [resOf, letB])
  all_goals omega
theorem dig_ok (n : Int) : ValOK Tryd.prog gl 39 [.int .u8 n] (.bool (digB n)) := by
  refine fn_val follows noNum none_sound Tryd.func39 rfl ?_
  repeat' ((conv => whnf); first | (with_reducible refine condT ?_ ?_; (focus ((first | assumption | decide | (simp; done) | (simp; omega)); done))) | (with_reducible refine condF ?_ ?_; (focus ((first | assumption | decide | (simp; done) | (simp; omega)); done))) | with_reducible refine condB (fun h => ?_) (fun h => ?_) | with_reducible refine exI rfl ?_ | with_reducible refine eqR rfl ?_ | (with_reducible refine exW (wrapN1 ?_) ?_; (focus (omega))) | (with_reducible refine exW (wrapN ?_) ?_; (focus (omega))) | (with_reducible refine exW (wrapB ?_ ?_) ?_; (focus (omega)); (focus (omega))) | with_reducible refine exW rfl ?_ | (with_reducible refine ixJ _ rfl ?_ ?_; (focus ((first | decide | omega | (simp; done) | (simp; omega)); done))) | (with_reducible refine ixJ' _ rfl ?_ ?_; (focus ((first | decide | omega | (simp; done) | (simp; omega)); done))) | (refine ixJ (Int.toNat _) ?_ ?_ ?_; (focus ((first | rfl | decide | omega | (simp; done)); done)); (focus ((first | decide | omega | (simp; done) | (simp; omega)); done))) | (refine ixJ' (Int.toNat _) ?_ ?_ ?_; (focus ((first | rfl | decide | omega | (simp; done)); done)); (focus ((first | decide | omega | (simp; done) | (simp; omega)); done))) | with_reducible refine ixS _ rfl (by assumption) ?_ | (with_reducible refine shlI ?_ ?_; (focus (first | decide | omega))) | (refine exI (callZ rfl rfl (if_pos ?_)) ?_; (focus ((first | decide | omega | (simp; done) | (simp; omega)); done))))
  all_goals (try simp_all [resOf, digB])
  all_goals omega
theorem bla_ok (n : Int) : ValOK Tryd.prog gl 30 [.int .u8 n] (.bool (blaB n)) := by
  refine fn_val follows noNum none_sound Tryd.func30 rfl ?_
  repeat' ((conv => whnf); first | (with_reducible refine condT ?_ ?_; (focus ((first | assumption | decide | (simp; done) | (simp; omega)); done))) | (with_reducible refine condF ?_ ?_; (focus ((first | assumption | decide | (simp; done) | (simp; omega)); done))) | with_reducible refine condB (fun h => ?_) (fun h => ?_) | with_reducible refine exI rfl ?_ | with_reducible refine eqR rfl ?_ | (with_reducible refine exW (wrapN1 ?_) ?_; (focus (omega))) | (with_reducible refine exW (wrapN ?_) ?_; (focus (omega))) | (with_reducible refine exW (wrapB ?_ ?_) ?_; (focus (omega)); (focus (omega))) | with_reducible refine exW rfl ?_ | (with_reducible refine ixJ _ rfl ?_ ?_; (focus ((first | decide | omega | (simp; done) | (simp; omega)); done))) | (with_reducible refine ixJ' _ rfl ?_ ?_; (focus ((first | decide | omega | (simp; done) | (simp; omega)); done))) | (refine ixJ (Int.toNat _) ?_ ?_ ?_; (focus ((first | rfl | decide | omega | (simp; done)); done)); (focus ((first | decide | omega | (simp; done) | (simp; omega)); done))) | (refine ixJ' (Int.toNat _) ?_ ?_ ?_; (focus ((first | rfl | decide | omega | (simp; done)); done)); (focus ((first | decide | omega | (simp; done) | (simp; omega)); done))) | with_reducible refine ixS _ rfl (by assumption) ?_ | (with_reducible refine shlI ?_ ?_; (focus (first | decide | omega))) | (refine exI (callZ rfl rfl (if_pos ?_)) ?_; (focus ((first | decide | omega | (simp; done) | (simp; omega)); done))))
  all_goals (try simp_all [resOf, blaB])
theorem letR_ok (n : Int) : ValOK Tryd.prog gl 23 [.int .u8 n] (.bool (letB n)) := by
  refine fn_val follows noNum none_sound Tryd.func23 rfl ?_
  repeat' ((conv => whnf); first | (with_reducible refine condT ?_ ?_; (focus ((first | assumption | decide | (simp; done) | (simp; omega)); done))) | (with_reducible refine condF ?_ ?_; (focus ((first | assumption | decide | (simp; done) | (simp; omega)); done))) | with_reducible refine condB (fun h => ?_) (fun h => ?_) | with_reducible refine exI rfl ?_ | with_reducible refine eqR rfl ?_ | (with_reducible refine exW (wrapN1 ?_) ?_; (focus (omega))) | (with_reducible refine exW (wrapN ?_) ?_; (focus (omega))) | (with_reducible refine exW (wrapB ?_ ?_) ?_; (focus (omega)); (focus (omega))) | with_reducible refine exW rfl ?_ | (with_reducible refine ixJ _ rfl ?_ ?_; (focus ((first | decide | omega | (simp; done) | (simp; omega)); done))) | (with_reducible refine ixJ' _ rfl ?_ ?_; (focus ((first | decide | omega | (simp; done) | (simp; omega)); done))) | (refine ixJ (Int.toNat _) ?_ ?_ ?_; (focus ((first | rfl | decide | omega | (simp; done)); done)); (focus ((first | decide | omega | (simp; done) | (simp; omega)); done))) | (refine ixJ' (Int.toNat _) ?_ ?_ ?_; (focus ((first | rfl | decide | omega | (simp; done)); done)); (focus ((first | decide | omega | (simp; done) | (simp; omega)); done))) | with_reducible refine ixS _ rfl (by assumption) ?_ | (with_reducible refine shlI ?_ ?_; (focus (first | decide | omega))) | (refine exI (callZ rfl rfl (if_pos ?_)) ?_; (focus ((first | decide | omega | (simp; done) | (simp; omega)); done))))
  all_goals (try simp_all [resOf, letB])
  all_goals omega
theorem digR_ok (n : Int) : ValOK Tryd.prog gl 24 [.int .u8 n] (.bool (digB n)) := by
  refine fn_val follows noNum none_sound Tryd.func24 rfl ?_
  repeat' ((conv => whnf); first | (with_reducible refine condT ?_ ?_; (focus ((first | assumption | decide | (simp; done) | (simp; omega)); done))) | (with_reducible refine condF ?_ ?_; (focus ((first | assumption | decide | (simp; done) | (simp; omega)); done))) | with_reducible refine condB (fun h => ?_) (fun h => ?_) | with_reducible refine exI rfl ?_ | with_reducible refine eqR rfl ?_ | (with_reducible refine exW (wrapN1 ?_) ?_; (focus (omega))) | (with_reducible refine exW (wrapN ?_) ?_; (focus (omega))) | (with_reducible refine exW (wrapB ?_ ?_) ?_; (focus (omega)); (focus (omega))) | with_reducible refine exW rfl ?_ | (with_reducible refine ixJ _ rfl ?_ ?_; (focus ((first | decide | omega | (simp; done) | (simp; omega)); done))) | (with_reducible refine ixJ' _ rfl ?_ ?_; (focus ((first | decide | omega | (simp; done) | (simp; omega)); done))) | (refine ixJ (Int.toNat _) ?_ ?_ ?_; (focus ((first | rfl | decide | omega | (simp; done)); done)); (focus ((first | decide | omega | (simp; done) | (simp; omega)); done))) | (refine ixJ' (Int.toNat _) ?_ ?_ ?_; (focus ((first | rfl | decide | omega | (simp; done)); done)); (focus ((first | decide | omega | (simp; done) | (simp; omega)); done))) | with_reducible refine ixS _ rfl (by assumption) ?_ | (with_reducible refine shlI ?_ ?_; (focus (first | decide | omega))) | (refine exI (callZ rfl rfl (if_pos ?_)) ?_; (focus ((first | decide | omega | (simp; done) | (simp; omega)); done))))
  all_goals (try simp_all [resOf, digB])
  all_goals omega
theorem blaR_ok (n : Int) : ValOK Tryd.prog gl 20 [.int .u8 n] (.bool (blaB n)) := by
  refine fn_val follows noNum none_sound Tryd.func20 rfl ?_
  repeat' ((conv => whnf); first | (with_reducible refine condT ?_ ?_; (focus ((first | assumption | decide | (simp; done) | (simp; omega)); done))) | (with_reducible refine condF ?_ ?_; (focus ((first | assumption | decide | (simp; done) | (simp; omega)); done))) | with_reducible refine condB (fun h => ?_) (fun h => ?_) | with_reducible refine exI rfl ?_ | with_reducible refine eqR rfl ?_ | (with_reducible refine exW (wrapN1 ?_) ?_; (focus (omega))) | (with_reducible refine exW (wrapN ?_) ?_; (focus (omega))) | (with_reducible refine exW (wrapB ?_ ?_) ?_; (focus (omega)); (focus (omega))) | with_reducible refine exW rfl ?_ | (with_reducible refine ixJ _ rfl ?_ ?_; (focus ((first | decide | omega | (simp; done) | (simp; omega)); done))) | (with_reducible refine ixJ' _ rfl ?_ ?_; (focus ((first | decide | omega | (simp; done) | (simp; omega)); done))) | (refine ixJ (Int.toNat _) ?_ ?_ ?_; (focus ((first | rfl | decide | omega | (simp; done)); done)); (focus ((first | decide | omega | (simp; done) | (simp; omega)); done))) | (refine ixJ' (Int.toNat _) ?_ ?_ ?_; (focus ((first | rfl | decide | omega | (simp; done)); done)); (focus ((first | decide | omega | (simp; done) | (simp; omega)); done))) | with_reducible refine ixS _ rfl (by assumption) ?_ | (with_reducible refine shlI ?_ ?_; (focus (first | decide | omega))) | (refine exI (callZ rfl rfl (if_pos ?_)) ?_; (focus ((first | decide | omega | (simp; done) | (simp; omega)); done))))
  all_goals (try simp_all [resOf, blaB])
/-- No end of a row. -/
theorem gap1_ok (n : Int) : ValOK Tryd.prog gl 32 [.int .u8 n] (.bool (n != 10)) := by
  refine fn_val follows noNum none_sound Tryd.func32 rfl ?_
  repeat' ((conv => whnf); first | (with_reducible refine condT ?_ ?_; (focus ((first | assumption | decide | (simp; done) | (simp; omega)); done))) | (with_reducible refine condF ?_ ?_; (focus ((first | assumption | decide | (simp; done) | (simp; omega)); done))) | with_reducible refine condB (fun h => ?_) (fun h => ?_) | with_reducible refine exI rfl ?_ | with_reducible refine eqR rfl ?_ | (with_reducible refine exW (wrapN1 ?_) ?_; (focus (omega))) | (with_reducible refine exW (wrapN ?_) ?_; (focus (omega))) | (with_reducible refine exW (wrapB ?_ ?_) ?_; (focus (omega)); (focus (omega))) | with_reducible refine exW rfl ?_ | (with_reducible refine ixJ _ rfl ?_ ?_; (focus ((first | decide | omega | (simp; done) | (simp; omega)); done))) | (with_reducible refine ixJ' _ rfl ?_ ?_; (focus ((first | decide | omega | (simp; done) | (simp; omega)); done))) | (refine ixJ (Int.toNat _) ?_ ?_ ?_; (focus ((first | rfl | decide | omega | (simp; done)); done)); (focus ((first | decide | omega | (simp; done) | (simp; omega)); done))) | (refine ixJ' (Int.toNat _) ?_ ?_ ?_; (focus ((first | rfl | decide | omega | (simp; done)); done)); (focus ((first | decide | omega | (simp; done) | (simp; omega)); done))) | with_reducible refine ixS _ rfl (by assumption) ?_ | (with_reducible refine shlI ?_ ?_; (focus (first | decide | omega))) | (refine exI (callZ rfl rfl (if_pos ?_)) ?_; (focus ((first | decide | omega | (simp; done) | (simp; omega)); done))))
  all_goals (try simp_all [resOf])

def F1 (f : Nat) (xs : List AV) : Option AV := match f with
  | 37 => match xs with | [.int .u8 n] => some (.bool (letB n)) | _ => none
  | 39 => match xs with | [.int .u8 n] => some (.bool (digB n)) | _ => none
  | 30 => match xs with | [.int .u8 n] => some (.bool (blaB n)) | _ => none
  | 23 => match xs with | [.int .u8 n] => some (.bool (letB n)) | _ => none
  | 24 => match xs with | [.int .u8 n] => some (.bool (digB n)) | _ => none
  | 20 => match xs with | [.int .u8 n] => some (.bool (blaB n)) | _ => none
  | 32 => match xs with | [.int .u8 n] => some (.bool (n != 10)) | _ => none
  | _ => none
theorem F1_sound : OrcSound Tryd.prog gl (orcZ F1) := orcZ_sound fun f xs r h => by
  unfold F1 at h
  split at h <;> try (cases h; done)
  all_goals (split at h <;> cases h)
  · exact ⟨rfl, let_ok _⟩
  · exact ⟨rfl, dig_ok _⟩
  · exact ⟨rfl, bla_ok _⟩
  · exact ⟨rfl, letR_ok _⟩
  · exact ⟨rfl, digR_ok _⟩
  · exact ⟨rfl, blaR_ok _⟩
  · exact ⟨rfl, gap1_ok _⟩

def worB (n : Int) : Bool := letB n || digB n || n == 95
theorem word1_ok (n : Int) : ValOK Tryd.prog gl 38 [.int .u8 n] (.bool (worB n)) := by
  refine fn_val follows noNum F1_sound Tryd.func38 rfl ?_
  repeat' ((conv => whnf); first | (with_reducible refine condT ?_ ?_; (focus ((first | assumption | decide | (simp; done) | (simp; omega)); done))) | (with_reducible refine condF ?_ ?_; (focus ((first | assumption | decide | (simp; done) | (simp; omega)); done))) | with_reducible refine condB (fun h => ?_) (fun h => ?_) | with_reducible refine exI rfl ?_ | with_reducible refine eqR rfl ?_ | (with_reducible refine exW (wrapN1 ?_) ?_; (focus (omega))) | (with_reducible refine exW (wrapN ?_) ?_; (focus (omega))) | (with_reducible refine exW (wrapB ?_ ?_) ?_; (focus (omega)); (focus (omega))) | with_reducible refine exW rfl ?_ | (with_reducible refine ixJ _ rfl ?_ ?_; (focus ((first | decide | omega | (simp; done) | (simp; omega)); done))) | (with_reducible refine ixJ' _ rfl ?_ ?_; (focus ((first | decide | omega | (simp; done) | (simp; omega)); done))) | (refine ixJ (Int.toNat _) ?_ ?_ ?_; (focus ((first | rfl | decide | omega | (simp; done)); done)); (focus ((first | decide | omega | (simp; done) | (simp; omega)); done))) | (refine ixJ' (Int.toNat _) ?_ ?_ ?_; (focus ((first | rfl | decide | omega | (simp; done)); done)); (focus ((first | decide | omega | (simp; done) | (simp; omega)); done))) | with_reducible refine ixS _ rfl (by assumption) ?_ | (with_reducible refine shlI ?_ ?_; (focus (first | decide | omega))) | (refine exI (callZ rfl rfl (if_pos ?_)) ?_; (focus ((first | decide | omega | (simp; done) | (simp; omega)); done))))
  all_goals (try simp_all [resOf, worB])
def F2 (f : Nat) (xs : List AV) : Option AV := match f with
  | 38 => match xs with | [.int .u8 n] => some (.bool (worB n)) | _ => none
  | f => F1 f xs
theorem F2_val {f : Nat} {xs : List AV} {r : AV} (h : F2 f xs = some r) : plain r = true ∧ ValOK Tryd.prog gl f xs r := by
  unfold F2 at h
  split at h
  · split at h <;> cases h
    exact ⟨rfl, word1_ok _⟩
  · have := h
    unfold F1 at h
    split at h <;> try (cases h; done)
    all_goals (split at h <;> cases h)
    · exact ⟨rfl, let_ok _⟩
    · exact ⟨rfl, dig_ok _⟩
    · exact ⟨rfl, bla_ok _⟩
    · exact ⟨rfl, letR_ok _⟩
    · exact ⟨rfl, digR_ok _⟩
    · exact ⟨rfl, blaR_ok _⟩
    · exact ⟨rfl, gap1_ok _⟩
theorem F2_sound : OrcSound Tryd.prog gl (orcZ F2) := orcZ_sound fun f xs r h => F2_val h

/-- How many bytes at the beginning are such. -/
def spanN (p : Int → Bool) (s : List UInt8) : Nat := (s.takeWhile fun c => p c.toNat).length

theorem spanN_true {p : Int → Bool} {c : UInt8} (l : List UInt8) (h : p c.toNat = true) : spanN p (c :: l) = spanN p l + 1 := by simp [spanN, h]
theorem spanN_false {p : Int → Bool} {c : UInt8} (l : List UInt8) (h : p c.toNat = false) : spanN p (c :: l) = 0 := by simp [spanN, h]
theorem span_ok (g : Nat) (p : Int → Bool) (hF : ∀ n, F2 g [.int .u8 n] = some (.bool (p n))) (hb : hasBody Tryd.prog g = true) (s : List UInt8) (hs : s.length ≤ 9223372036854775807) :
    ValOK Tryd.prog gl 29 [.str s, .func (.func g) [] []] (.int .i64 (spanN p s)) := by
  refine fn_val follows noNum F2_sound Tryd.func29 rfl ?_
  conv => whnf
  refine ⟨Nat, (fun k => k ≤ s.length ∧ spanN p s = k + spanN p (s.drop k)), (fun k => [(0, .str s), (1, .func (.func g) [] []), (5, .int .i64 k)]), (fun _ => []), (fun k => s.length - k), ⟨0, ⟨Nat.zero_le _, by simp⟩, ?_⟩, ?_⟩
  · refine FgL.mk0 rfl ?_
    refine And.intro (Wk.noref rfl) ?_
    refine And.intro (Wk.noref rfl) ?_
    refine And.intro (Wk.noref rfl) ?_
    trivial
  · intro k ⟨hk, hsp⟩
    by_cases hlt : k < s.length
    · have e1 : decide ((k : Int) < (s.length : Int)) = true := by simpa using hlt
      have hc : s[k]? = some s[k] := by simp [hlt]
      have hd : s.drop k = s[k] :: s.drop (k + 1) := List.drop_eq_getElem_cons hlt
      cases hp : p s[k].toNat with
      | true =>
        repeat' ((conv => whnf); first | with_reducible refine ixS _ rfl hc ?_ | with_reducible refine exI (callZ hb rfl (hF _)) ?_ | (first | (with_reducible refine condT ?_ ?_; (focus ((first | assumption | decide | (simp; done) | (simp; omega)); done))) | (with_reducible refine condF ?_ ?_; (focus ((first | assumption | decide | (simp; done) | (simp; omega)); done))) | with_reducible refine condB (fun h => ?_) (fun h => ?_) | with_reducible refine exI rfl ?_ | with_reducible refine eqR rfl ?_ | (with_reducible refine exW (wrapN1 ?_) ?_; (focus (omega))) | (with_reducible refine exW (wrapN ?_) ?_; (focus (omega))) | (with_reducible refine exW (wrapB ?_ ?_) ?_; (focus (omega)); (focus (omega))) | with_reducible refine exW rfl ?_ | (with_reducible refine ixJ _ rfl ?_ ?_; (focus ((first | decide | omega | (simp; done) | (simp; omega)); done))) | (with_reducible refine ixJ' _ rfl ?_ ?_; (focus ((first | decide | omega | (simp; done) | (simp; omega)); done))) | (refine ixJ (Int.toNat _) ?_ ?_ ?_; (focus ((first | rfl | decide | omega | (simp; done)); done)); (focus ((first | decide | omega | (simp; done) | (simp; omega)); done))) | (refine ixJ' (Int.toNat _) ?_ ?_ ?_; (focus ((first | rfl | decide | omega | (simp; done)); done)); (focus ((first | decide | omega | (simp; done) | (simp; omega)); done))) | with_reducible refine ixS _ rfl (by assumption) ?_ | (with_reducible refine shlI ?_ ?_; (focus (first | decide | omega))) | (refine exI (callZ rfl rfl (if_pos ?_)) ?_; (focus ((first | decide | omega | (simp; done) | (simp; omega)); done)))))
        (conv => whnf)
        have hn := spanN_true (s.drop (k + 1)) hp
        rw [← hd] at hn
        exact ⟨k + 1, ⟨hlt, by omega⟩, by show s.length - (k + 1) < s.length - k; omega, FgL.mk0 rfl ⟨Wk.noref rfl, Wk.noref rfl, Wk.int rfl, trivial⟩⟩
      | false =>
        repeat' ((conv => whnf); first | with_reducible refine ixS _ rfl hc ?_ | with_reducible refine exI (callZ hb rfl (hF _)) ?_ | (first | (with_reducible refine condT ?_ ?_; (focus ((first | assumption | decide | (simp; done) | (simp; omega)); done))) | (with_reducible refine condF ?_ ?_; (focus ((first | assumption | decide | (simp; done) | (simp; omega)); done))) | with_reducible refine condB (fun h => ?_) (fun h => ?_) | with_reducible refine exI rfl ?_ | with_reducible refine eqR rfl ?_ | (with_reducible refine exW (wrapN1 ?_) ?_; (focus (omega))) | (with_reducible refine exW (wrapN ?_) ?_; (focus (omega))) | (with_reducible refine exW (wrapB ?_ ?_) ?_; (focus (omega)); (focus (omega))) | with_reducible refine exW rfl ?_ | (with_reducible refine ixJ _ rfl ?_ ?_; (focus ((first | decide | omega | (simp; done) | (simp; omega)); done))) | (with_reducible refine ixJ' _ rfl ?_ ?_; (focus ((first | decide | omega | (simp; done) | (simp; omega)); done))) | (refine ixJ (Int.toNat _) ?_ ?_ ?_; (focus ((first | rfl | decide | omega | (simp; done)); done)); (focus ((first | decide | omega | (simp; done) | (simp; omega)); done))) | (refine ixJ' (Int.toNat _) ?_ ?_ ?_; (focus ((first | rfl | decide | omega | (simp; done)); done)); (focus ((first | decide | omega | (simp; done) | (simp; omega)); done))) | with_reducible refine ixS _ rfl (by assumption) ?_ | (with_reducible refine shlI ?_ ?_; (focus (first | decide | omega))) | (refine exI (callZ rfl rfl (if_pos ?_)) ?_; (focus ((first | decide | omega | (simp; done) | (simp; omega)); done)))))
        have hn := spanN_false (s.drop (k + 1)) hp
        rw [← hd] at hn
        rw [hsp, hn]; rfl
    · have e1 : decide ((k : Int) < (s.length : Int)) = false := by simpa using hlt
      have hk' : k = s.length := by omega
      repeat' ((conv => whnf); first | (with_reducible refine condT ?_ ?_; (focus ((first | assumption | decide | (simp; done) | (simp; omega)); done))) | (with_reducible refine condF ?_ ?_; (focus ((first | assumption | decide | (simp; done) | (simp; omega)); done))) | with_reducible refine condB (fun h => ?_) (fun h => ?_) | with_reducible refine exI rfl ?_ | with_reducible refine eqR rfl ?_ | (with_reducible refine exW (wrapN1 ?_) ?_; (focus (omega))) | (with_reducible refine exW (wrapN ?_) ?_; (focus (omega))) | (with_reducible refine exW (wrapB ?_ ?_) ?_; (focus (omega)); (focus (omega))) | with_reducible refine exW rfl ?_ | (with_reducible refine ixJ _ rfl ?_ ?_; (focus ((first | decide | omega | (simp; done) | (simp; omega)); done))) | (with_reducible refine ixJ' _ rfl ?_ ?_; (focus ((first | decide | omega | (simp; done) | (simp; omega)); done))) | (refine ixJ (Int.toNat _) ?_ ?_ ?_; (focus ((first | rfl | decide | omega | (simp; done)); done)); (focus ((first | decide | omega | (simp; done) | (simp; omega)); done))) | (refine ixJ' (Int.toNat _) ?_ ?_ ?_; (focus ((first | rfl | decide | omega | (simp; done)); done)); (focus ((first | decide | omega | (simp; done) | (simp; omega)); done))) | with_reducible refine ixS _ rfl (by assumption) ?_ | (with_reducible refine shlI ?_ ?_; (focus (first | decide | omega))) | (refine exI (callZ rfl rfl (if_pos ?_)) ?_; (focus ((first | decide | omega | (simp; done) | (simp; omega)); done))))
      rw [hsp, hk']; simp [resOf, spanN]
end Go.Proofs.YtacaaiiooedgjaaDoor.lex
end

/-
  Of 'cantileverlaw02': the program's words, gaps, signs.
-/
section
set_option linter.unusedVariables false
set_option linter.unusedSimpArgs false
namespace Go.Proofs.YtacaaiiooedgjaaDoor.lex
open Go.Abs Go.RowKit
set_option maxRecDepth 100000
variable {gl : Glob}

def spanF (g : Nat) (s : List UInt8) : Option AV := match g with
  | 38 => some (.int .i64 (spanN worB s))
  | 39 => some (.int .i64 (spanN digB s))
  | 30 => some (.int .i64 (spanN blaB s))
  | 32 => some (.int .i64 (spanN (· != 10) s))
  | _ => none
def F3 (f : Nat) (xs : List AV) : Option AV := match f with
  | 29 => match xs with
    | [.str s, .func (.func g) [] []] => if s.length ≤ 9223372036854775807 then spanF g s else none
    | _ => none
  | f => F2 f xs
theorem F3_sound : OrcSound Tryd.prog gl (orcZ F3) := orcZ_sound fun f xs r h => by
  unfold F3 at h
  split at h
  · split at h <;> try (cases h; done)
    split at h <;> try (cases h; done)
    rename_i hs
    unfold spanF at h
    split at h <;> cases h
    · exact ⟨rfl, span_ok 38 worB (fun _ => rfl) (by kernel_rfl) _ hs⟩
    · exact ⟨rfl, span_ok 39 digB (fun _ => rfl) (by kernel_rfl) _ hs⟩
    · exact ⟨rfl, span_ok 30 blaB (fun _ => rfl) (by kernel_rfl) _ hs⟩
    · exact ⟨rfl, span_ok 32 (· != 10) (fun _ => rfl) (by kernel_rfl) _ hs⟩
  · have hk : plain r = true ∧ ValOK Tryd.prog gl f xs r := F2_val h
    exact hk

/-- How long the word is with which a text begins. -/
def wordN : List UInt8 → Nat
  | [] => 0
  | c :: s => if letB c.toNat then spanN worB (c :: s) else 0

theorem word_ok (s : List UInt8) (hs : s.length ≤ 9223372036854775807) : ValOK Tryd.prog gl 22 [.str s] (.int .i64 (wordN s)) := by
  match s with
  | [] =>
    refine fn_val follows noNum F3_sound Tryd.func22 rfl ?_
    repeat' ((conv => whnf); first | (with_reducible refine condT ?_ ?_; (focus ((first | assumption | decide | (simp; done) | (simp; omega)); done))) | (with_reducible refine condF ?_ ?_; (focus ((first | assumption | decide | (simp; done) | (simp; omega)); done))) | with_reducible refine condB (fun h => ?_) (fun h => ?_) | with_reducible refine exI rfl ?_ | with_reducible refine eqR rfl ?_ | (with_reducible refine exW (wrapN1 ?_) ?_; (focus (omega))) | (with_reducible refine exW (wrapN ?_) ?_; (focus (omega))) | (with_reducible refine exW (wrapB ?_ ?_) ?_; (focus (omega)); (focus (omega))) | with_reducible refine exW rfl ?_ | (with_reducible refine ixJ _ rfl ?_ ?_; (focus ((first | decide | omega | (simp; done) | (simp; omega)); done))) | (with_reducible refine ixJ' _ rfl ?_ ?_; (focus ((first | decide | omega | (simp; done) | (simp; omega)); done))) | (refine ixJ (Int.toNat _) ?_ ?_ ?_; (focus ((first | rfl | decide | omega | (simp; done)); done)); (focus ((first | decide | omega | (simp; done) | (simp; omega)); done))) | (refine ixJ' (Int.toNat _) ?_ ?_ ?_; (focus ((first | rfl | decide | omega | (simp; done)); done)); (focus ((first | decide | omega | (simp; done) | (simp; omega)); done))) | with_reducible refine ixS _ rfl (by assumption) ?_ | (with_reducible refine shlI ?_ ?_; (focus (first | decide | omega))) | (refine exI (callZ rfl rfl (if_pos ?_)) ?_; (focus ((first | decide | omega | (simp; done) | (simp; omega)); done))))
    all_goals (try simp_all [resOf, wordN])
  | c :: s =>
    have h1 : ((c :: s) == []) = false := by simp
    have h2 : (c :: s)[0]? = some c := rfl
    refine fn_val follows noNum F3_sound Tryd.func22 rfl ?_
    repeat' ((conv => whnf); first | with_reducible refine ixS 0 rfl h2 ?_ | (first | (with_reducible refine condT ?_ ?_; (focus ((first | assumption | decide | (simp; done) | (simp; omega)); done))) | (with_reducible refine condF ?_ ?_; (focus ((first | assumption | decide | (simp; done) | (simp; omega)); done))) | with_reducible refine condB (fun h => ?_) (fun h => ?_) | with_reducible refine exI rfl ?_ | with_reducible refine eqR rfl ?_ | (with_reducible refine exW (wrapN1 ?_) ?_; (focus (omega))) | (with_reducible refine exW (wrapN ?_) ?_; (focus (omega))) | (with_reducible refine exW (wrapB ?_ ?_) ?_; (focus (omega)); (focus (omega))) | with_reducible refine exW rfl ?_ | (with_reducible refine ixJ _ rfl ?_ ?_; (focus ((first | decide | omega | (simp; done) | (simp; omega)); done))) | (with_reducible refine ixJ' _ rfl ?_ ?_; (focus ((first | decide | omega | (simp; done) | (simp; omega)); done))) | (refine ixJ (Int.toNat _) ?_ ?_ ?_; (focus ((first | rfl | decide | omega | (simp; done)); done)); (focus ((first | decide | omega | (simp; done) | (simp; omega)); done))) | (refine ixJ' (Int.toNat _) ?_ ?_ ?_; (focus ((first | rfl | decide | omega | (simp; done)); done)); (focus ((first | decide | omega | (simp; done) | (simp; omega)); done))) | with_reducible refine ixS _ rfl (by assumption) ?_ | (with_reducible refine shlI ?_ ?_; (focus (first | decide | omega))) | (refine exI (callZ rfl rfl (if_pos ?_)) ?_; (focus ((first | decide | omega | (simp; done) | (simp; omega)); done)))))
    all_goals (try (simp_all [resOf, wordN]; done))
end Go.Proofs.YtacaaiiooedgjaaDoor.lex
end

/-
  Of 'cantileverlaw02': gaps.
-/
section
set_option linter.unusedVariables false
set_option linter.unusedSimpArgs false
namespace Go.Proofs.YtacaaiiooedgjaaDoor.lex
open Go.Abs Go.RowKit
set_option maxRecDepth 100000
set_option maxHeartbeats 4000000
variable {gl : Glob}

/-- How many bytes of blanks and remarks a text begins with (true: in a remark). -/
def skip : Bool → List UInt8 → Nat
  | _, [] => 0
  | true, c :: s => if c = 10 then skip false s + 1 else skip true s + 1
  | false, c :: s => if blaB c.toNat then skip false s + 1 else if c = 47 ∧ s.head? = some 47 then skip true s + 1 else 0

theorem bla_ten : blaB ((10 : UInt8).toNat : Int) = true := by decide
theorem skip_bla : ∀ s, skip false s = spanN blaB s + skip false (s.drop (spanN blaB s))
  | [] => by simp [skip, spanN]
  | c :: s => by
    cases hc : blaB c.toNat with
    | true => rw [spanN_true s hc]; simp [skip, hc, -List.drop_drop]; rw [skip_bla s]; omega
    | false => rw [spanN_false s hc]; simp
theorem skip_rem : ∀ s, skip true s = spanN (· != 10) s + skip false (s.drop (spanN (· != 10) s))
  | [] => by simp [skip, spanN]
  | c :: s => by
    by_cases hc : c = 10
    · subst hc
      rw [spanN_false s (by decide)]; have := bla_ten; simp [skip] at *; simp [this]
    · have h1 : ((c.toNat : Int) != 10) = true := by
        have : c.toNat ≠ 10 := fun e => hc (by apply UInt8.toNat_inj.1; rw [e]; rfl)
        simp; omega
      rw [spanN_true s h1]; simp only [skip, hc, if_false, List.drop_succ_cons]; rw [skip_rem s]; omega
theorem spanN_le (p : Int → Bool) (s : List UInt8) : spanN p s ≤ s.length := by
  unfold spanN; exact (List.takeWhile_prefix _).length_le
theorem skip_two {s : List UInt8} (h : s.take 2 = [47, 47]) : skip false s = skip true s ∧ 0 < spanN (· != 10) s := by
  match s with
  | [] => simp at h
  | [a] => simp at h
  | a :: b :: s =>
    simp at h
    obtain ⟨rfl, rfl⟩ := h
    refine ⟨?_, ?_⟩
    · have : blaB ((47 : UInt8).toNat : Int) = false := by decide
      simp at this; simp [skip, this]
    · rw [spanN_true _ (by decide)]; omega
theorem skip_end {s : List UInt8} (hb : spanN blaB s = 0) (h : ¬ s.take 2 = [47, 47]) : skip false s = 0 := by
  match s with
  | [] => simp [skip]
  | c :: s =>
    cases hc : blaB c.toNat with
    | true => rw [spanN_true s hc] at hb; omega
    | false =>
      have : ¬ (c = 47 ∧ s.head? = some 47) := by
        rintro ⟨rfl, h2⟩
        match s with
        | [] => simp at h2
        | a :: s => simp at h2; subst h2; simp at h
      simp [skip, hc, this]
theorem spanN_drop (p : Int → Bool) : ∀ s : List UInt8, spanN p (s.drop (spanN p s)) = 0
  | [] => by simp [spanN]
  | c :: s => by
    cases hc : p c.toNat with
    | true => rw [spanN_true s hc]; simpa using spanN_drop p s
    | false => rw [spanN_false s hc]; simp [spanN_false s hc]

theorem gap_ok (s : List UInt8) (hs : s.length ≤ 9223372036854775807) : ValOK Tryd.prog gl 18 [.str s] (.int .i64 (skip false s)) := by
  refine fn_valI (fun g => g != 31 && g != 48) 2 follows noNum F3_sound Tryd.func18 rfl ?_
  conv => whnf
  refine ⟨Nat, (fun k => k ≤ s.length ∧ skip false s = k + skip false (s.drop k)), (fun k => [(0, .str s), (3, .int .i64 k)]), (fun _ => []), (fun k => s.length - k), ⟨0, ⟨Nat.zero_le _, by simp⟩, ?_⟩, ?_⟩
  · refine FgL.mk0 rfl ?_
    refine And.intro (Wk.noref rfl) ?_
    refine And.intro (Wk.noref rfl) ?_
    trivial
  · intro k ⟨hk, hsk⟩
    have h1 : spanN blaB (s.drop k) ≤ s.length - k := by have := spanN_le blaB (s.drop k); simpa using this
    have h1' : (s.drop k).length ≤ 9223372036854775807 := by simp; omega
    have h2 := skip_bla (s.drop k)
    have h3 := spanN_drop blaB (s.drop k)
    rw [List.drop_drop] at h2 h3
    have h5 : spanN (· != 10) (s.drop (k + spanN blaB (s.drop k))) ≤ s.length - (k + spanN blaB (s.drop k)) := by have := spanN_le (· != 10) (s.drop (k + spanN blaB (s.drop k))); simpa using this
    have h6 := skip_rem (s.drop (k + spanN blaB (s.drop k)))
    rw [List.drop_drop] at h6
    repeat' ((conv => whnf); first | (with_reducible refine ixJ' 2 ?_ ?_ ?_; (focus (decide)); (focus (simp at h ⊢; omega))) | (first | (with_reducible refine condT ?_ ?_; (focus ((first | assumption | decide | (simp; done) | (simp; omega)); done))) | (with_reducible refine condF ?_ ?_; (focus ((first | assumption | decide | (simp; done) | (simp; omega)); done))) | with_reducible refine condB (fun h => ?_) (fun h => ?_) | with_reducible refine exI rfl ?_ | with_reducible refine eqR rfl ?_ | (with_reducible refine exW (wrapN1 ?_) ?_; (focus (omega))) | (with_reducible refine exW (wrapN ?_) ?_; (focus (omega))) | (with_reducible refine exW (wrapB ?_ ?_) ?_; (focus (omega)); (focus (omega))) | with_reducible refine exW rfl ?_ | (with_reducible refine ixJ _ rfl ?_ ?_; (focus ((first | decide | omega | (simp; done) | (simp; omega)); done))) | (with_reducible refine ixJ' _ rfl ?_ ?_; (focus ((first | decide | omega | (simp; done) | (simp; omega)); done))) | (refine ixJ (Int.toNat _) ?_ ?_ ?_; (focus ((first | rfl | decide | omega | (simp; done)); done)); (focus ((first | decide | omega | (simp; done) | (simp; omega)); done))) | (refine ixJ' (Int.toNat _) ?_ ?_ ?_; (focus ((first | rfl | decide | omega | (simp; done)); done)); (focus ((first | decide | omega | (simp; done) | (simp; omega)); done))) | with_reducible refine ixS _ rfl (by assumption) ?_ | (with_reducible refine shlI ?_ ?_; (focus (first | decide | omega))) | (refine exI (callZ rfl rfl (if_pos ?_)) ?_; (focus ((first | decide | omega | (simp; done) | (simp; omega)); done)))))
    · have := skip_end h3 (by simpa using h)
      show AV.int .i64 _ = _
      rw [hsk, h2, this]; rfl
    · conv => whnf
      obtain ⟨h7, h8⟩ := skip_two (s := s.drop (k + spanN blaB (s.drop k))) (by simpa using h)
      refine ⟨k + spanN blaB (s.drop k) + spanN (· != 10) (s.drop (k + spanN blaB (s.drop k))), ⟨by omega, by omega⟩, by show s.length - (_) < s.length - k; omega, FgL.mk0 rfl ⟨Wk.noref rfl, Wk.int rfl, trivial⟩⟩
    · have := skip_end h3 (by
        simp at h
        intro he
        have := congrArg List.length he
        simp at this; omega)
      show AV.int .i64 _ = _
      rw [hsk, h2, this]; rfl
end Go.Proofs.YtacaaiiooedgjaaDoor.lex
end

/-
  Of 'cantileverlaw02': signs.
-/
section
set_option linter.unusedVariables false
set_option linter.unusedSimpArgs false
namespace Go.Proofs.YtacaaiiooedgjaaDoor.lex
open Go.Abs Go.RowKit
set_option maxRecDepth 100000
set_option maxHeartbeats 4000000
variable {gl : Glob}

def signN : List UInt8 → Nat
  | [] => 0
  | [c] => if [124,38,61,33,60,43,45,42,94,40,41,123,125,44,59].contains c then 1 else 0
  | c :: d :: _ => if (d = c ∧ (c = 124 ∨ c = 38 ∨ c = 61)) ∨ (d = 61 ∧ (c = 33 ∨ c = 60)) then 2 else if [124,38,61,33,60,43,45,42,94,40,41,123,125,44,59].contains c then 1 else 0

def sgnL : List UInt8 := [124,38,61,33,60,43,45,42,94,40,41,123,125,44,59]
theorem ixB_ge (b : UInt8) : ∀ (l : List UInt8) (k : Nat), decide (ixB b l k ≥ (0 : Int)) = l.contains b
  | [], k => by simp [ixB]
  | c :: l, k => by
    have ih := ixB_ge b l (k + 1)
    by_cases h : c = b
    · subst h; simp [ixB]
    · have h' : ¬ b = c := fun e => h e.symm
      have h2 : (c.toNat.beq b.toNat) = false := by
        cases e : c.toNat.beq b.toNat with
        | false => rfl
        | true => exact absurd (UInt8.toNat_inj.1 (Nat.eq_of_beq_eq_true e)) h
      unfold ixB
      rw [h2]
      simp [h'] at ih ⊢
      exact ih
theorem sgn_c (c : UInt8) : decide (ixB (UInt8.ofNat c.toNat) { data := #[124, 38, 61, 33, 60, 43, 45, 42, 94, 40, 41, 123, 125, 44, 59] : ByteArray }.data.toList 0 ≥ (0 : Int)) = sgnL.contains c := by
  rw [ixB_ge]; simp [sgnL]
theorem u8_eq (c : UInt8) (n : Nat) (h : n < 256) : ((c.toNat : Int) == (n : Int)) = (c == UInt8.ofNat n) := by
  by_cases e : c = UInt8.ofNat n
  · subst e; simp; omega
  · have : c.toNat ≠ n := fun e' => e (by apply UInt8.toNat_inj.1; rw [e']; simp [Nat.mod_eq_of_lt h])
    rw [beq_eq_false_iff_ne.2 e, beq_eq_false_iff_ne]; omega

theorem sign1_ok (c : UInt8) : ValOK Tryd.prog gl 34 [.str [c]] (.int .i64 (signN [c])) := by
  have h2 : ([c])[0]? = some c := rfl
  have s0 := sgn_c c
  have e1 := u8_eq c 124 (by decide)
  have e2 := u8_eq c 38 (by decide)
  have e3 := u8_eq c 61 (by decide)
  have e4 := u8_eq c 33 (by decide)
  have e5 := u8_eq c 60 (by decide)
  refine fn_valI (fun g => g != 50 && g != 56) 2 follows noNum F3_sound Tryd.func34 rfl ?_
  repeat' ((conv => whnf); first | with_reducible refine ixS 0 rfl h2 ?_ | (first | (with_reducible refine condT ?_ ?_; (focus ((first | assumption | decide | (simp; done) | (simp; omega)); done))) | (with_reducible refine condF ?_ ?_; (focus ((first | assumption | decide | (simp; done) | (simp; omega)); done))) | with_reducible refine condB (fun h => ?_) (fun h => ?_) | with_reducible refine exI rfl ?_ | with_reducible refine eqR rfl ?_ | (with_reducible refine exW (wrapN1 ?_) ?_; (focus (omega))) | (with_reducible refine exW (wrapN ?_) ?_; (focus (omega))) | (with_reducible refine exW (wrapB ?_ ?_) ?_; (focus (omega)); (focus (omega))) | with_reducible refine exW rfl ?_ | (with_reducible refine ixJ _ rfl ?_ ?_; (focus ((first | decide | omega | (simp; done) | (simp; omega)); done))) | (with_reducible refine ixJ' _ rfl ?_ ?_; (focus ((first | decide | omega | (simp; done) | (simp; omega)); done))) | (refine ixJ (Int.toNat _) ?_ ?_ ?_; (focus ((first | rfl | decide | omega | (simp; done)); done)); (focus ((first | decide | omega | (simp; done) | (simp; omega)); done))) | (refine ixJ' (Int.toNat _) ?_ ?_ ?_; (focus ((first | rfl | decide | omega | (simp; done)); done)); (focus ((first | decide | omega | (simp; done) | (simp; omega)); done))) | with_reducible refine ixS _ rfl (by assumption) ?_ | (with_reducible refine shlI ?_ ?_; (focus (first | decide | omega))) | (refine exI (callZ rfl rfl (if_pos ?_)) ?_; (focus ((first | decide | omega | (simp; done) | (simp; omega)); done)))))
  all_goals show AV.int .i64 _ = AV.int .i64 _
  all_goals congr 1
  all_goals (first | (exfalso; simp at *; omega) | (simp_all [signN, sgnL]; done) | (have h0 : c = 0 := (by apply UInt8.toNat_inj.1; simp at *; omega); subst h0; first | (exfalso; revert h; decide) | decide))

theorem sign2_ok (c d : UInt8) (t : List UInt8) (hs : (c :: d :: t).length ≤ 9223372036854775807) : ValOK Tryd.prog gl 34 [.str (c :: d :: t)] (.int .i64 (signN (c :: d :: t))) := by
  have h2 : (c :: d :: t)[0]? = some c := rfl
  have h3 : (c :: d :: t)[1]? = some d := rfl
  have h4 : decide (((c :: d :: t).length : Int) > 1) = true := by simp; omega
  have s0 := sgn_c c
  have e1 := u8_eq c 124 (by decide)
  have e2 := u8_eq c 38 (by decide)
  have e3 := u8_eq c 61 (by decide)
  have e4 := u8_eq c 33 (by decide)
  have e5 := u8_eq c 60 (by decide)
  have e6 := u8_eq d 61 (by decide)
  have e7 : ((d.toNat : Int) == (c.toNat : Int)) = (d == c) := by
    by_cases e : d = c
    · subst e; simp
    · have : d.toNat ≠ c.toNat := fun e' => e (UInt8.toNat_inj.1 e')
      rw [beq_eq_false_iff_ne.2 e, beq_eq_false_iff_ne]; omega
  refine fn_valI (fun g => g != 50 && g != 56) 2 follows noNum F3_sound Tryd.func34 rfl ?_
  repeat' ((conv => whnf); first | with_reducible refine ixS 0 rfl h2 ?_ | with_reducible refine ixS 1 rfl h3 ?_ | (first | (with_reducible refine condT ?_ ?_; (focus ((first | assumption | decide | (simp; done) | (simp; omega)); done))) | (with_reducible refine condF ?_ ?_; (focus ((first | assumption | decide | (simp; done) | (simp; omega)); done))) | with_reducible refine condB (fun h => ?_) (fun h => ?_) | with_reducible refine exI rfl ?_ | with_reducible refine eqR rfl ?_ | (with_reducible refine exW (wrapN1 ?_) ?_; (focus (omega))) | (with_reducible refine exW (wrapN ?_) ?_; (focus (omega))) | (with_reducible refine exW (wrapB ?_ ?_) ?_; (focus (omega)); (focus (omega))) | with_reducible refine exW rfl ?_ | (with_reducible refine ixJ _ rfl ?_ ?_; (focus ((first | decide | omega | (simp; done) | (simp; omega)); done))) | (with_reducible refine ixJ' _ rfl ?_ ?_; (focus ((first | decide | omega | (simp; done) | (simp; omega)); done))) | (refine ixJ (Int.toNat _) ?_ ?_ ?_; (focus ((first | rfl | decide | omega | (simp; done)); done)); (focus ((first | decide | omega | (simp; done) | (simp; omega)); done))) | (refine ixJ' (Int.toNat _) ?_ ?_ ?_; (focus ((first | rfl | decide | omega | (simp; done)); done)); (focus ((first | decide | omega | (simp; done) | (simp; omega)); done))) | with_reducible refine ixS _ rfl (by assumption) ?_ | (with_reducible refine shlI ?_ ?_; (focus (first | decide | omega))) | (refine exI (callZ rfl rfl (if_pos ?_)) ?_; (focus ((first | decide | omega | (simp; done) | (simp; omega)); done)))))
  all_goals show AV.int .i64 _ = AV.int .i64 _
  all_goals congr 1
  all_goals (first | (exfalso; simp at *; omega) | (simp_all [signN, sgnL]; done))

theorem sign_ok (s : List UInt8) (hs : s.length ≤ 9223372036854775807) (h0 : s ≠ []) : ValOK Tryd.prog gl 34 [.str s] (.int .i64 (signN s)) := by
  match s with
  | [] => exact absurd rfl h0
  | [c] => exact sign1_ok c
  | c :: d :: t => exact sign2_ok c d t hs
end Go.Proofs.YtacaaiiooedgjaaDoor.lex
end

/-
  Of 'cantileverlaw02': numbers.
-/
section
set_option linter.unusedVariables false
set_option linter.unusedSimpArgs false
namespace Go.Proofs.YtacaaiiooedgjaaDoor.lex
open Go.Abs Go.RowKit
set_option maxRecDepth 100000
set_option maxHeartbeats 4000000
variable {gl : Glob}

/-- The number that digits tell. -/
def valN (l : List UInt8) : Nat := l.foldl (fun n c => n * 10 + (c.toNat - 48)) 0
theorem valN_snoc (l : List UInt8) (k : Nat) (h : k < l.length) : valN (l.take (k + 1)) = valN (l.take k) * 10 + (l[k].toNat - 48) := by
  unfold valN
  rw [List.take_succ_eq_append_getElem h, List.foldl_append]; rfl
theorem valN_mono (l : List UInt8) : ∀ k, k ≤ l.length → ∀ j, j ≤ k → valN (l.take j) ≤ valN (l.take k)
  | 0, _, j, hj => by have : j = 0 := by omega
                      subst this; exact Nat.le_refl _
  | k + 1, hk, j, hj => by
    by_cases e : j = k + 1
    · subst e; exact Nat.le_refl _
    · have h1 := valN_mono l k (by omega) j (by omega)
      have h2 := valN_snoc l k (by omega)
      omega

def puR (n : Nat) : AV := if n < 18446744073709551616 then .tuple [.int .u64 n, .niface] else .tuple [.int .u64 18446744073709551615, .iface 79 (.int .i64 1)]

theorem u64w (n : Int) : IntKind.u64.wrap n = n % 18446744073709551616 := by rw [show (18446744073709551616 : Int) = 2 ^ 64 from rfl]; simp [IntKind.wrap, IntKind.signed, IntKind.bits]
theorem puR_big {n : Nat} (h : 18446744073709551616 ≤ n) : AV.tuple [AV.int IntKind.u64 18446744073709551615, AV.iface 79 (AV.int IntKind.i64 1)] = puR n := by
  unfold puR; rw [if_neg (by omega)]
theorem pu_ok (l : List UInt8) (h0 : l ≠ []) (hl : l.length ≤ 9223372036854775807) (hd : ∀ c ∈ l, digB c.toNat = true) : ValOK Tryd.prog gl 62 [.str l, .int .i64 10, .int .i64 64] (puR (valN l)) := by
  have h1 : (l == []) = false := by simpa using h0
  refine fn_val follows noNum F3_sound Tryd.func62 rfl ?_
  repeat' ((conv => whnf); first | (with_reducible refine condT ?_ ?_; (focus ((first | assumption | decide | (simp; done) | (simp; omega)); done))) | (with_reducible refine condF ?_ ?_; (focus ((first | assumption | decide | (simp; done) | (simp; omega)); done))) | with_reducible refine condB (fun h => ?_) (fun h => ?_) | with_reducible refine exI rfl ?_ | with_reducible refine eqR rfl ?_ | (with_reducible refine exW (wrapN1 ?_) ?_; (focus (omega))) | (with_reducible refine exW (wrapN ?_) ?_; (focus (omega))) | (with_reducible refine exW (wrapB ?_ ?_) ?_; (focus (omega)); (focus (omega))) | with_reducible refine exW rfl ?_ | (with_reducible refine ixJ _ rfl ?_ ?_; (focus ((first | decide | omega | (simp; done) | (simp; omega)); done))) | (with_reducible refine ixJ' _ rfl ?_ ?_; (focus ((first | decide | omega | (simp; done) | (simp; omega)); done))) | (refine ixJ (Int.toNat _) ?_ ?_ ?_; (focus ((first | rfl | decide | omega | (simp; done)); done)); (focus ((first | decide | omega | (simp; done) | (simp; omega)); done))) | (refine ixJ' (Int.toNat _) ?_ ?_ ?_; (focus ((first | rfl | decide | omega | (simp; done)); done)); (focus ((first | decide | omega | (simp; done) | (simp; omega)); done))) | with_reducible refine ixS _ rfl (by assumption) ?_ | (with_reducible refine shlI ?_ ?_; (focus (first | decide | omega))) | (refine exI (callZ rfl rfl (if_pos ?_)) ?_; (focus ((first | decide | omega | (simp; done) | (simp; omega)); done))))
  conv => whnf
  refine ⟨Nat, (fun k => k ≤ l.length ∧ valN (l.take k) < 18446744073709551616), (fun k => [(1, .int .i64 10), (8, .bool false), (10, .int .u64 1844674407370955162), (11, .int .u64 18446744073709551615), (12, .bool false), (13, .int .u64 (valN (l.take k))), (99, .rs l.length 1 (l.map fun b => .int .u8 b.toNat)), (100, .int .i64 l.length), (101, .int .i64 k)]), (fun _ => []), (fun k => l.length - k), ⟨0, ⟨Nat.zero_le _, by simp [valN]⟩, ?_⟩, ?_⟩
  · exact FgL.mk0 rfl ⟨Wk.int rfl, Wk.noref rfl, Wk.int rfl, Wk.int rfl, Wk.noref rfl, Wk.int rfl, Wk.noref rfl, Wk.int rfl, Wk.int rfl, trivial⟩
  · intro k ⟨hk, hv⟩
    by_cases hlt : k < l.length
    · have e1 : decide ((k : Int) < (l.length : Int)) = true := by simpa using hlt
      have hc : tk 1 (List.drop (k * 1) (l.map fun b => AV.int .u8 b.toNat)) = some [AV.int .u8 l[k].toNat] := by
        rw [Nat.mul_one, List.drop_eq_getElem_cons (by simpa using hlt)]; simp [tk]
      have hdk : 48 ≤ l[k].toNat ∧ l[k].toNat ≤ 57 := by have := hd l[k] (List.getElem_mem hlt); simp [digB] at this; omega
      have hm1 := valN_snoc l k hlt
      have hm2 := valN_mono l l.length (Nat.le_refl _) (k + 1) hlt
      rw [List.take_length] at hm2
      generalize hcc : l[k].toNat = c at *
      repeat' ((conv => whnf); first | (with_reducible refine exI hc ?_) | (first | (with_reducible refine condT ?_ ?_; (focus ((first | assumption | decide | (simp; done) | (simp; omega)); done))) | (with_reducible refine condF ?_ ?_; (focus ((first | assumption | decide | (simp; done) | (simp; omega)); done))) | with_reducible refine condB (fun h => ?_) (fun h => ?_) | with_reducible refine exI rfl ?_ | with_reducible refine eqR rfl ?_ | (with_reducible refine exW (wrapN1 ?_) ?_; (focus (omega))) | (with_reducible refine exW (wrapN ?_) ?_; (focus (omega))) | (with_reducible refine exW (wrapB ?_ ?_) ?_; (focus (omega)); (focus (omega))) | with_reducible refine exW rfl ?_ | (with_reducible refine ixJ _ rfl ?_ ?_; (focus ((first | decide | omega | (simp; done) | (simp; omega)); done))) | (with_reducible refine ixJ' _ rfl ?_ ?_; (focus ((first | decide | omega | (simp; done) | (simp; omega)); done))) | (refine ixJ (Int.toNat _) ?_ ?_ ?_; (focus ((first | rfl | decide | omega | (simp; done)); done)); (focus ((first | decide | omega | (simp; done) | (simp; omega)); done))) | (refine ixJ' (Int.toNat _) ?_ ?_ ?_; (focus ((first | rfl | decide | omega | (simp; done)); done)); (focus ((first | decide | omega | (simp; done) | (simp; omega)); done))) | with_reducible refine ixS _ rfl (by assumption) ?_ | (with_reducible refine shlI ?_ ?_; (focus (first | decide | omega))) | (refine exI (callZ rfl rfl (if_pos ?_)) ?_; (focus ((first | decide | omega | (simp; done) | (simp; omega)); done)))))
      · exfalso; simp only [IntKind.wrap_u8, decide_eq_true_eq] at h; omega
      · refine puR_big ?_; simp only [decide_eq_true_eq] at h; omega
      · rename_i g; refine puR_big ?_; simp only [decide_eq_true_eq, decide_eq_false_iff_not, u64w, IntKind.wrap_u8] at h g; omega
      · rename_i g _; simp only [decide_eq_true_eq, decide_eq_false_iff_not, u64w, IntKind.wrap_u8] at h g; omega
      · rename_i g1 g2 g3
        conv => whnf
        have e : IntKind.u64.wrap (IntKind.u64.wrap (↑(valN (List.take k l)) * IntKind.u64.wrap 10) + IntKind.u64.wrap (IntKind.u8.wrap (↑c - 48))) = (valN (l.take (k + 1)) : Int) := by
          simp only [decide_eq_true_eq, decide_eq_false_iff_not, u64w, IntKind.wrap_u8] at g2 g3 h ⊢; omega
        have e' : valN (l.take (k + 1)) < 18446744073709551616 := by
          simp only [decide_eq_true_eq, decide_eq_false_iff_not, u64w, IntKind.wrap_u8] at g2 g3 h e; omega
        rw [e]
        exact ⟨k + 1, ⟨hlt, e'⟩, by show l.length - (k + 1) < l.length - k; omega, FgL.mk0 rfl ⟨Wk.int rfl, Wk.noref rfl, Wk.int rfl, Wk.int rfl, Wk.noref rfl, Wk.int rfl, Wk.noref rfl, Wk.int rfl, Wk.int rfl, trivial⟩⟩
    · have e1 : decide ((k : Int) < (l.length : Int)) = false := by simpa using hlt
      have hk' : k = l.length := by omega
      repeat' ((conv => whnf); first | (with_reducible refine condT ?_ ?_; (focus ((first | assumption | decide | (simp; done) | (simp; omega)); done))) | (with_reducible refine condF ?_ ?_; (focus ((first | assumption | decide | (simp; done) | (simp; omega)); done))) | with_reducible refine condB (fun h => ?_) (fun h => ?_) | with_reducible refine exI rfl ?_ | with_reducible refine eqR rfl ?_ | (with_reducible refine exW (wrapN1 ?_) ?_; (focus (omega))) | (with_reducible refine exW (wrapN ?_) ?_; (focus (omega))) | (with_reducible refine exW (wrapB ?_ ?_) ?_; (focus (omega)); (focus (omega))) | with_reducible refine exW rfl ?_ | (with_reducible refine ixJ _ rfl ?_ ?_; (focus ((first | decide | omega | (simp; done) | (simp; omega)); done))) | (with_reducible refine ixJ' _ rfl ?_ ?_; (focus ((first | decide | omega | (simp; done) | (simp; omega)); done))) | (refine ixJ (Int.toNat _) ?_ ?_ ?_; (focus ((first | rfl | decide | omega | (simp; done)); done)); (focus ((first | decide | omega | (simp; done) | (simp; omega)); done))) | (refine ixJ' (Int.toNat _) ?_ ?_ ?_; (focus ((first | rfl | decide | omega | (simp; done)); done)); (focus ((first | decide | omega | (simp; done) | (simp; omega)); done))) | with_reducible refine ixS _ rfl (by assumption) ?_ | (with_reducible refine shlI ?_ ?_; (focus (first | decide | omega))) | (refine exI (callZ rfl rfl (if_pos ?_)) ?_; (focus ((first | decide | omega | (simp; done) | (simp; omega)); done))))
      rw [hk', List.take_length] at hv ⊢
      unfold puR; rw [if_pos hv]
end Go.Proofs.YtacaaiiooedgjaaDoor.lex
end

/-
  Of 'cantileverlaw02': a copy of a text.
-/
section
set_option linter.unusedVariables false
set_option linter.unusedSimpArgs false
namespace Go.Proofs.YtacaaiiooedgjaaDoor.lex
open Go.Abs Go.RowKit
set_option maxRecDepth 100000
set_option maxHeartbeats 4000000
variable {gl : Glob}

theorem u60 : Tryd.prog.underlying 60 = some (.slice 5) := by kernel_rfl
theorem z5 : tsz Tryd.prog 5 = some 1 := by kernel_rfl
theorem ze5 : tzero Tryd.prog 5 = some (.int .u8 0) := by kernel_rfl
theorem i5 : (Tryd.prog.info? 5).map (·.bytes) = some 1 := by kernel_rfl
theorem ms_ok (n : Nat) (h0 : n ≠ 0) (h : n ≤ 1099511627776) : aMakeSlice Tryd.prog 60 (.int .i64 n) (.int .i64 n) [] = some (.slice 0 0 n n 1, [⟨true, 0, 0, .cells (repl n [.int .u8 0]) 5⟩]) := by
  have i5 := i5
  cases hi : Tryd.prog.info? 5 with
  | none => rw [hi] at i5; cases i5
  | some i =>
    rw [hi] at i5
    simp only [Option.map_some, Option.some.injEq] at i5
    simp only [aMakeSlice, msCore, u60, z5, hi, i5, ze5]
    rw [if_pos ⟨by omega, by omega, by omega, by omega⟩, if_neg (by simp; omega)]
    simp [AV.cells, newBlk]
theorem repl_len (n : Nat) (v : AV) : (repl n [v]).length = n := by
  induction n with
  | zero => rfl
  | succ n ih => simp [repl, ih]
theorem spl_all : ∀ {cs vs : List AV}, cs.length = vs.length → spl cs 0 vs = some vs
  | [], [], _ => rfl
  | c :: cs, v :: vs, h => by simp only [spl]; rw [spl_all (by simpa using h)]
  | [], _ :: _, h => by simp at h
  | _ :: _, [], h => by simp at h
theorem tk_all : ∀ (l : List AV), tk l.length l = some l
  | [] => rfl
  | c :: l => by simp only [List.length_cons, tk]; rw [tk_all l]
theorem cp_ok (s : List UInt8) (h0 : s ≠ []) : aCopy Tryd.prog 60 (.slice 0 0 s.length s.length 1) (.str s) [⟨true, 0, 0, .cells (repl s.length [.int .u8 0]) 5⟩] = some (.int .i64 s.length, [⟨true, 0, 0, .cells (s.map fun b => .int .u8 b.toNat) 5⟩]) := by
  have hl : s.length ≠ 0 := fun e => h0 (by simpa using e)
  simp only [aCopy, u60, z5, xcells, if_true]
  have hm : Nat.min s.length s.length = s.length := Nat.min_self _
  have ht : tk (s.length * 1) (s.map fun b => AV.int .u8 b.toNat) = some (s.map fun b => AV.int .u8 b.toNat) := by
    have := tk_all (s.map fun b => AV.int .u8 b.toNat)
    simpa using this
  rw [hm, if_neg hl, ht]
  have ho : (s.map fun b => AV.int .u8 b.toNat).all one = true := by simp [List.all_eq_true, one]
  simp only [wr, List.getElem?_cons_zero, ho, if_true]
  rw [spl_all (by rw [repl_len]; simp)]
  rfl
theorem bytes_ok : ∀ (s : List UInt8), bytesOfL (s.map fun b => AV.int .u8 b.toNat) = some s
  | [] => rfl
  | b :: s => by
    have h : Nat.blt b.toNat 256 = true := by have := b.toNat_lt; simp [Nat.blt]; omega
    show (if Nat.blt b.toNat 256 then (match bytesOfL (s.map fun b => AV.int .u8 b.toNat) with | some r => some (UInt8.ofNat b.toNat :: r) | none => none) else none) = _
    rw [if_pos h, bytes_ok s]; simp
theorem us_ok (t : TypeId) (ht : Tryd.prog.underlying t = some (.pointer 5)) (s : List UInt8) (h0 : s ≠ []) (h : s.length ≤ 1099511627776) : aUStr Tryd.prog t (.ptr 0 0) s.length [⟨true, 0, 0, .cells (s.map fun b => .int .u8 b.toNat) 5⟩] = some (.str s, [AObj.dead ⟨true, 0, 0, .cells (s.map fun b => .int .u8 b.toNat) 5⟩]) := by
  have hc : Tryd.prog.cellsOf 5 = 1 := by kernel_rfl
  cases s with
  | nil => exact absurd rfl h0
  | cons b s =>
    have ht' := tk_all ((b :: s).map fun b => AV.int .u8 b.toNat)
    rw [List.length_map] at ht'
    have hb := bytes_ok (b :: s)
    have hle : Nat.ble (s.length + 1) 9223372036854775807 = true := by simp at h ⊢; omega
    simp only [List.length_cons, aUStr, List.getElem?_cons_zero, ht, hc, hle]
    simp only [List.length_cons] at ht'
    rw [ht', if_pos (by decide)]
    generalize ((b :: s).map fun b => AV.int .u8 b.toNat) = m at *
    simp only [hb]
    rfl
theorem u72 : Tryd.prog.underlying 72 = some (.pointer 5) := by kernel_rfl
theorem clone_ok (s : List UInt8) (hs : s.length ≤ 1099511627776) : ValOK Tryd.prog gl 71 [.str s] (.str s) := by
  by_cases h0 : s = []
  · subst h0
    refine fn_val follows noNum F3_sound Tryd.func71 rfl ?_
    repeat' ((conv => whnf); first | (with_reducible refine condT ?_ ?_; (focus ((first | assumption | decide | (simp; done) | (simp; omega)); done))) | (with_reducible refine condF ?_ ?_; (focus ((first | assumption | decide | (simp; done) | (simp; omega)); done))) | with_reducible refine condB (fun h => ?_) (fun h => ?_) | with_reducible refine exI rfl ?_ | with_reducible refine eqR rfl ?_ | (with_reducible refine exW (wrapN1 ?_) ?_; (focus (omega))) | (with_reducible refine exW (wrapN ?_) ?_; (focus (omega))) | (with_reducible refine exW (wrapB ?_ ?_) ?_; (focus (omega)); (focus (omega))) | with_reducible refine exW rfl ?_ | (with_reducible refine ixJ _ rfl ?_ ?_; (focus ((first | decide | omega | (simp; done) | (simp; omega)); done))) | (with_reducible refine ixJ' _ rfl ?_ ?_; (focus ((first | decide | omega | (simp; done) | (simp; omega)); done))) | (refine ixJ (Int.toNat _) ?_ ?_ ?_; (focus ((first | rfl | decide | omega | (simp; done)); done)); (focus ((first | decide | omega | (simp; done) | (simp; omega)); done))) | (refine ixJ' (Int.toNat _) ?_ ?_ ?_; (focus ((first | rfl | decide | omega | (simp; done)); done)); (focus ((first | decide | omega | (simp; done) | (simp; omega)); done))) | with_reducible refine ixS _ rfl (by assumption) ?_ | (with_reducible refine shlI ?_ ?_; (focus (first | decide | omega))) | (refine exI (callZ rfl rfl (if_pos ?_)) ?_; (focus ((first | decide | omega | (simp; done) | (simp; omega)); done))))
    rfl
  · have hl : s.length ≠ 0 := fun e => h0 (by simpa using e)
    have e1 : ((s.length : Int) == 0) = false := by simp; exact h0
    refine fn_val follows noNum F3_sound Tryd.func71 rfl ?_
    repeat' ((conv => whnf); first | refine exI (ms_ok s.length hl hs) ?_ | refine exI (cp_ok s h0) ?_ | refine exI (us_ok 72 u72 s h0 hs) ?_ | (first | (with_reducible refine condT ?_ ?_; (focus ((first | assumption | decide | (simp; done) | (simp; omega)); done))) | (with_reducible refine condF ?_ ?_; (focus ((first | assumption | decide | (simp; done) | (simp; omega)); done))) | with_reducible refine condB (fun h => ?_) (fun h => ?_) | with_reducible refine exI rfl ?_ | with_reducible refine eqR rfl ?_ | (with_reducible refine exW (wrapN1 ?_) ?_; (focus (omega))) | (with_reducible refine exW (wrapN ?_) ?_; (focus (omega))) | (with_reducible refine exW (wrapB ?_ ?_) ?_; (focus (omega)); (focus (omega))) | with_reducible refine exW rfl ?_ | (with_reducible refine ixJ _ rfl ?_ ?_; (focus ((first | decide | omega | (simp; done) | (simp; omega)); done))) | (with_reducible refine ixJ' _ rfl ?_ ?_; (focus ((first | decide | omega | (simp; done) | (simp; omega)); done))) | (refine ixJ (Int.toNat _) ?_ ?_ ?_; (focus ((first | rfl | decide | omega | (simp; done)); done)); (focus ((first | decide | omega | (simp; done) | (simp; omega)); done))) | (refine ixJ' (Int.toNat _) ?_ ?_ ?_; (focus ((first | rfl | decide | omega | (simp; done)); done)); (focus ((first | decide | omega | (simp; done) | (simp; omega)); done))) | with_reducible refine ixS _ rfl (by assumption) ?_ | (with_reducible refine shlI ?_ ?_; (focus (first | decide | omega))) | (refine exI (callZ rfl rfl (if_pos ?_)) ?_; (focus ((first | decide | omega | (simp; done) | (simp; omega)); done)))))
    rfl
end Go.Proofs.YtacaaiiooedgjaaDoor.lex
end

/-
  Of 'cantileverlaw02': the variables that the statement lists, as the abstract interpreter knows them; 'lives' and the chapter's examples, run by the kernel.
-/
section
set_option linter.unusedVariables false
namespace Go.Proofs.YtacaaiiooedgjaaDoor.runLives
open Go.RowKit Go.Abs

/-- 'bits.deBruijn32tab', cell by cell. -/
def tbl0 : List AV := [.int .u8 (.ofNat 0), .int .u8 (.ofNat 1), .int .u8 (.ofNat 28), .int .u8 (.ofNat 2), .int .u8 (.ofNat 29), .int .u8 (.ofNat 14), .int .u8 (.ofNat 24), 
    .int .u8 (.ofNat 3), .int .u8 (.ofNat 30), .int .u8 (.ofNat 22), .int .u8 (.ofNat 20), .int .u8 (.ofNat 15), .int .u8 (.ofNat 25), 
    .int .u8 (.ofNat 17), .int .u8 (.ofNat 4), .int .u8 (.ofNat 8), .int .u8 (.ofNat 31), .int .u8 (.ofNat 27), .int .u8 (.ofNat 13), .int .u8 (.ofNat 23), 
    .int .u8 (.ofNat 21), .int .u8 (.ofNat 19), .int .u8 (.ofNat 16), .int .u8 (.ofNat 7), .int .u8 (.ofNat 26), .int .u8 (.ofNat 12), 
    .int .u8 (.ofNat 18), .int .u8 (.ofNat 6), .int .u8 (.ofNat 11), .int .u8 (.ofNat 5), .int .u8 (.ofNat 10), .int .u8 (.ofNat 9)]

/-- 'bits.deBruijn64tab', cell by cell. -/
def tbl1 : List AV := [.int .u8 (.ofNat 0), .int .u8 (.ofNat 1), .int .u8 (.ofNat 56), .int .u8 (.ofNat 2), .int .u8 (.ofNat 57), .int .u8 (.ofNat 49), .int .u8 (.ofNat 28), 
    .int .u8 (.ofNat 3), .int .u8 (.ofNat 61), .int .u8 (.ofNat 58), .int .u8 (.ofNat 42), .int .u8 (.ofNat 50), .int .u8 (.ofNat 38), 
    .int .u8 (.ofNat 29), .int .u8 (.ofNat 17), .int .u8 (.ofNat 4), .int .u8 (.ofNat 62), .int .u8 (.ofNat 47), .int .u8 (.ofNat 59), 
    .int .u8 (.ofNat 36), .int .u8 (.ofNat 45), .int .u8 (.ofNat 43), .int .u8 (.ofNat 51), .int .u8 (.ofNat 22), .int .u8 (.ofNat 53), 
    .int .u8 (.ofNat 39), .int .u8 (.ofNat 33), .int .u8 (.ofNat 30), .int .u8 (.ofNat 24), .int .u8 (.ofNat 18), .int .u8 (.ofNat 12), 
    .int .u8 (.ofNat 5), .int .u8 (.ofNat 63), .int .u8 (.ofNat 55), .int .u8 (.ofNat 48), .int .u8 (.ofNat 27), .int .u8 (.ofNat 60), 
    .int .u8 (.ofNat 41), .int .u8 (.ofNat 37), .int .u8 (.ofNat 16), .int .u8 (.ofNat 46), .int .u8 (.ofNat 35), .int .u8 (.ofNat 44), 
    .int .u8 (.ofNat 21), .int .u8 (.ofNat 52), .int .u8 (.ofNat 32), .int .u8 (.ofNat 23), .int .u8 (.ofNat 11), .int .u8 (.ofNat 54), 
    .int .u8 (.ofNat 26), .int .u8 (.ofNat 40), .int .u8 (.ofNat 15), .int .u8 (.ofNat 34), .int .u8 (.ofNat 20), .int .u8 (.ofNat 31), 
    .int .u8 (.ofNat 10), .int .u8 (.ofNat 25), .int .u8 (.ofNat 14), .int .u8 (.ofNat 19), .int .u8 (.ofNat 9), .int .u8 (.ofNat 13), .int .u8 (.ofNat 8), 
    .int .u8 (.ofNat 7), .int .u8 (.ofNat 6)]

/-- 'strconv.uint64pow10', cell by cell. -/
def tbl2 : List AV := [.int .u64 (.ofNat 1), .int .u64 (.ofNat 10), .int .u64 (.ofNat 100), .int .u64 (.ofNat 1000), .int .u64 (.ofNat 10000), .int .u64 (.ofNat 100000), 
    .int .u64 (.ofNat 1000000), .int .u64 (.ofNat 10000000), .int .u64 (.ofNat 100000000), .int .u64 (.ofNat 1000000000), .int .u64 (.ofNat 10000000000), 
    .int .u64 (.ofNat 100000000000), .int .u64 (.ofNat 1000000000000), .int .u64 (.ofNat 10000000000000), .int .u64 (.ofNat 100000000000000), 
    .int .u64 (.ofNat 1000000000000000), .int .u64 (.ofNat 10000000000000000), .int .u64 (.ofNat 100000000000000000), 
    .int .u64 (.ofNat 1000000000000000000), .int .u64 (.ofNat 10000000000000000000)]

/-- 'strconv.ErrRange': a sentinel. -/
def sen0 : List AV := [.iface 94 (.rp [.str [118, 97, 108, 117, 101, 32, 111, 117, 116, 32, 111, 102, 32, 114, 97, 110, 103, 101]])]

/-- 'strconv.ErrSyntax': a sentinel. -/
def sen1 : List AV := [.iface 94 (.rp [.str [105, 110, 118, 97, 108, 105, 100, 32, 115, 121, 110, 116, 97, 120]])]

def gl : Glob := fun g => if Nat.beq g 4 then some tbl0 else if Nat.beq g 5 then some tbl1 else if Nat.beq g 3 then some tbl2 else if Nat.beq g 2 then some sen0 else if Nat.beq g 1 then some sen1 else none

set_option maxRecDepth 100000

theorem follows : Tryd.prog.follows .mixedOrders = true := by kernel_rfl

theorem noNumAll : (Tryd.prog.funcs.toList.all fun fn => !(fn.name == "runtime.NumGoroutine")) = true := by kernel_rfl

theorem noNum : NoNum Tryd.prog := fun g fn h => by
  have h1 := List.all_eq_true.1 noNumAll fn (Array.mem_toList_iff.2 (Array.mem_of_getElem? h))
  simpa using h1

theorem laid_skip {P : Program} {W : World} {name : String} {d : DataW Unit} {rest : List (String × DataW Unit)} {ps : List MemPlace} (h : DataW.LaidVars P W ((name, d) :: rest) ps) : ∃ qs, DataW.LaidVars P W rest qs := by
  obtain ⟨_, _, _, _, _, q, _, _, _, _, hr, _⟩ := h
  exact ⟨q, hr⟩

theorem n0 : Tryd.prog.globalNamed "math/bits.deBruijn32tab" = some 4 := by kernel_rfl
theorem ty0 : (Tryd.prog.globals[4]?).map (·.type) = some 109 := by kernel_rfl
theorem av0 : avOf Tryd.prog 6 109 (Rows.laid_math_bits_deBruijn32tab (H := Unit)) = some tbl0 := by kernel_rfl
theorem n1 : Tryd.prog.globalNamed "math/bits.deBruijn64tab" = some 5 := by kernel_rfl
theorem ty1 : (Tryd.prog.globals[5]?).map (·.type) = some 110 := by kernel_rfl
theorem av1 : avOf Tryd.prog 6 110 (Rows.laid_math_bits_deBruijn64tab (H := Unit)) = some tbl1 := by kernel_rfl
theorem n2 : Tryd.prog.globalNamed "internal/strconv.uint64pow10" = some 3 := by kernel_rfl
theorem ty2 : (Tryd.prog.globals[3]?).map (·.type) = some 104 := by kernel_rfl
theorem av2 : avOf Tryd.prog 6 104 (Rows.laid_internal_strconv_uint64pow10 (H := Unit)) = some tbl2 := by kernel_rfl
theorem star : "*" ++ "errors.errorString" = "*errors.errorString" := by decide
theorem named (u : TypeId) (h : Tryd.prog.typeName? 3 u = some "*errors.errorString") : u = 94 :=
  typeName_ptr_named (nm := "errors.errorString") (by rw [star]; kernel_rfl) (by kernel_rfl) (by decide) u (by rw [star]; exact h)
noncomputable def fld : Field := match Tryd.prog.underlying 96 with | some (.struct fs) => (fs.toList.head?).getD default | _ => default
theorem unE : Tryd.prog.underlying 96 = some (.struct #[fld]) := by kernel_rfl
theorem unP : Tryd.prog.underlying 94 = some (.pointer 96) := by kernel_rfl
theorem unS : Tryd.prog.underlying 9 = some .string := by kernel_rfl
theorem fldT : fld.type = 9 := by kernel_rfl
theorem fldO : fld.offset = 0 := by kernel_rfl
theorem cellsE : Tryd.prog.cellsOf 96 = 1 := by kernel_rfl
theorem cellsS : Tryd.prog.cellsOf 9 = 1 := by kernel_rfl
theorem sn0 : Tryd.prog.globalNamed "strconv.ErrRange" = some 2 := by kernel_rfl
theorem sty0 : (Tryd.prog.globals[2]?).map (·.type) = some 65 := by kernel_rfl
noncomputable def itf0 : Array (String × TypeId) := match Tryd.prog.underlying 65 with | some (.interface ms) => ms | _ => #[]
theorem unI0 : Tryd.prog.underlying 65 = some (.interface itf0) := by kernel_rfl
theorem sn1 : Tryd.prog.globalNamed "strconv.ErrSyntax" = some 1 := by kernel_rfl
theorem sty1 : (Tryd.prog.globals[1]?).map (·.type) = some 65 := by kernel_rfl
noncomputable def itf1 : Array (String × TypeId) := match Tryd.prog.underlying 65 with | some (.interface ms) => ms | _ => #[]
theorem unI1 : Tryd.prog.underlying 65 = some (.interface itf1) := by kernel_rfl

theorem globs {W : World} (h : laidMetH Tryd.prog [("math/bits.deBruijn32tab", Rows.laid_math_bits_deBruijn32tab), ("math/bits.deBruijn64tab", Rows.laid_math_bits_deBruijn64tab), ("internal/strconv.uint64pow10", Rows.laid_internal_strconv_uint64pow10), ("strconv.ErrRange", Rows.laid_strconv_ErrRange), ("strconv.ErrSyntax", Rows.laid_strconv_ErrSyntax)] W) : GlOK gl (snap0 W) := by
  have h' : laidMet Tryd.prog [("math/bits.deBruijn32tab", Rows.laid_math_bits_deBruijn32tab), ("math/bits.deBruijn64tab", Rows.laid_math_bits_deBruijn64tab), ("internal/strconv.uint64pow10", Rows.laid_internal_strconv_uint64pow10), ("strconv.ErrRange", Rows.laid_strconv_ErrRange), ("strconv.ErrSyntax", Rows.laid_strconv_ErrSyntax)] W := h
  obtain ⟨_, hv, _⟩ := id h'
  obtain ⟨m0, _⟩ := laid_glob n0 ty0 av0 hv
  have h' := laidMet.tail h'
  obtain ⟨_, hv, _⟩ := id h'
  obtain ⟨m1, _⟩ := laid_glob n1 ty1 av1 hv
  have h' := laidMet.tail h'
  obtain ⟨_, hv, _⟩ := id h'
  obtain ⟨m2, _⟩ := laid_glob n2 ty2 av2 hv
  have h' := laidMet.tail h'
  have s0 := laid_sent h' sn0 sty0 unI0 named unP unE fldT fldO unS cellsE cellsS
  have h' := laidMet.tail h'
  have s1 := laid_sent h' sn1 sty1 unI1 named unP unE fldT fldO unS cellsE cellsS
  intro g cs hg
  unfold gl at hg
  split at hg
  · rename_i e; have := Nat.eq_of_beq_eq_true e; subst this; simp at hg; subst hg; exact m0
  split at hg
  · rename_i e; have := Nat.eq_of_beq_eq_true e; subst this; simp at hg; subst hg; exact m1
  split at hg
  · rename_i e; have := Nat.eq_of_beq_eq_true e; subst this; simp at hg; subst hg; exact m2
  split at hg
  · rename_i e; have := Nat.eq_of_beq_eq_true e; subst this; simp at hg; subst hg; exact s0
  split at hg
  · rename_i e; have := Nat.eq_of_beq_eq_true e; subst this; simp at hg; subst hg; exact s1
  cases hg

theorem lives : saysTrue (frun Tryd.prog gl [] 100000 100 7 [] TH.empty) = true := by kernel_rfl
theorem knownLives : OrcSound Tryd.prog gl (tblO [(7, [])]) := known_true follows noNum tblO_nil rfl lives

end Go.Proofs.YtacaaiiooedgjaaDoor.runLives
end

/-
  Of 'cantileverlaw02': numbers: strconv's answer.
-/
section
set_option linter.unusedVariables false
set_option linter.unusedSimpArgs false
namespace Go.Proofs.YtacaaiiooedgjaaDoor.lex
open Go.Abs Go.RowKit
set_option maxRecDepth 100000
set_option maxHeartbeats 4000000
variable {gl : Glob}

theorem F3_val {f : Nat} {xs : List AV} {r : AV} (h : F3 f xs = some r) : plain r = true ∧ ValOK Tryd.prog gl f xs r := by
  unfold F3 at h
  split at h
  · split at h <;> try (cases h; done)
    split at h <;> try (cases h; done)
    rename_i hs
    unfold spanF at h
    split at h <;> cases h
    · exact ⟨rfl, span_ok 38 worB (fun _ => rfl) (by kernel_rfl) _ hs⟩
    · exact ⟨rfl, span_ok 39 digB (fun _ => rfl) (by kernel_rfl) _ hs⟩
    · exact ⟨rfl, span_ok 30 blaB (fun _ => rfl) (by kernel_rfl) _ hs⟩
    · exact ⟨rfl, span_ok 32 (· != 10) (fun _ => rfl) (by kernel_rfl) _ hs⟩
  · exact F2_val h

def digs (l : List UInt8) : Bool := !l.isEmpty && decide (l.length ≤ 9223372036854775807) && l.all fun c => digB c.toNat
theorem digs_of {l : List UInt8} (h : digs l = true) : l ≠ [] ∧ l.length ≤ 9223372036854775807 ∧ ∀ c ∈ l, digB c.toNat = true := by
  simp only [digs, Bool.and_eq_true, decide_eq_true_eq, List.all_eq_true] at h
  exact ⟨fun e => by subst e; simp at h, h.1.2, h.2⟩
theorem plain_puR (n : Nat) : plain (puR n) = true := by unfold puR; split <;> rfl
def F4 (f : Nat) (xs : List AV) : Option AV := match f with
  | 62 => match xs with
    | [.str s, .int .i64 10, .int .i64 64] => if digs s then some (puR (valN s)) else none
    | _ => none
  | f => F3 f xs
theorem F4_val {f : Nat} {xs : List AV} {r : AV} (h : F4 f xs = some r) : plain r = true ∧ ValOK Tryd.prog gl f xs r := by
  unfold F4 at h
  split at h
  · split at h <;> try (cases h; done)
    split at h <;> cases h
    rename_i hd
    obtain ⟨h1, h2, h3⟩ := digs_of hd
    exact ⟨plain_puR _, pu_ok _ h1 h2 h3⟩
  · exact F3_val h
theorem F4_sound : OrcSound Tryd.prog gl (orcZ F4) := orcZ_sound fun f xs r h => F4_val h

def piR (n : Nat) : AV := if n < 9223372036854775808 then .tuple [.int .i64 n, .niface] else .tuple [.int .i64 9223372036854775807, .iface 79 (.int .i64 1)]
theorem piR_lt {n : Nat} (h : n < 9223372036854775808) : piR n = .tuple [.int .i64 n, .niface] := by unfold piR; rw [if_pos h]
theorem piR_ge {n : Nat} (h : ¬ n < 9223372036854775808) : piR n = .tuple [.int .i64 9223372036854775807, .iface 79 (.int .i64 1)] := by unfold piR; rw [if_neg h]
theorem w63 : IntKind.u64.wrap (1 * 2 ^ min (IntKind.u64.wrap (64 - 1)).toNat IntKind.u64.bits) = 9223372036854775808 := by decide
theorem w63' : IntKind.i64.wrap (IntKind.u64.wrap (9223372036854775808 - 1)) = 9223372036854775807 := by decide
theorem pi_ok (l : List UInt8) (hd : digs l = true) : ValOK Tryd.prog gl 54 [.str l, .int .i64 10, .int .i64 64] (piR (valN l)) := by
  obtain ⟨h1, h2, h3⟩ := digs_of hd
  have hb : hasBody Tryd.prog 62 = true := by kernel_rfl
  have e0 : F4 62 [.str l, .int .i64 10, .int .i64 64] = some (puR (valN l)) := by simp only [F4]; rw [if_pos hd]
  have e1 : (l == []) = false := by simpa using h1
  obtain ⟨c, t, rfl⟩ : ∃ c t, l = c :: t := by cases l with | nil => exact absurd rfl h1 | cons c t => exact ⟨c, t, rfl⟩
  have hc := h3 c (by simp)
  simp only [digB, Bool.and_eq_true, decide_eq_true_eq] at hc
  have hc0 : (c :: t)[0]? = some c := rfl
  have n1 : ((c.toNat : Int) == 43) = false := by simp; omega
  have n2 : ((c.toNat : Int) == 45) = false := by simp; omega
  by_cases h63 : valN (c :: t) < 9223372036854775808
  · rw [piR_lt h63]
    have e2 : F4 62 [.str (c :: t), .int .i64 10, .int .i64 64] = some (.tuple [.int .u64 (valN (c :: t)), .niface]) := by rw [e0]; unfold puR; rw [if_pos (by omega)]
    generalize valN (c :: t) = v at *
    refine fn_val follows noNum F4_sound Tryd.func54 rfl ?_
    repeat' ((conv => whnf); first | with_reducible refine ixS 0 rfl hc0 ?_ | with_reducible refine exI (callZ hb rfl e2) ?_ | (first | (with_reducible refine condT ?_ ?_; (focus ((first | assumption | decide | (simp; done) | (simp; omega)); done))) | (with_reducible refine condF ?_ ?_; (focus ((first | assumption | decide | (simp; done) | (simp; omega)); done))) | with_reducible refine condB (fun h => ?_) (fun h => ?_) | with_reducible refine exI rfl ?_ | with_reducible refine eqR rfl ?_ | (with_reducible refine exW (wrapN1 ?_) ?_; (focus (omega))) | (with_reducible refine exW (wrapN ?_) ?_; (focus (omega))) | (with_reducible refine exW (wrapB ?_ ?_) ?_; (focus (omega)); (focus (omega))) | with_reducible refine exW rfl ?_ | (with_reducible refine ixJ _ rfl ?_ ?_; (focus ((first | decide | omega | (simp; done) | (simp; omega)); done))) | (with_reducible refine ixJ' _ rfl ?_ ?_; (focus ((first | decide | omega | (simp; done) | (simp; omega)); done))) | (refine ixJ (Int.toNat _) ?_ ?_ ?_; (focus ((first | rfl | decide | omega | (simp; done)); done)); (focus ((first | decide | omega | (simp; done) | (simp; omega)); done))) | (refine ixJ' (Int.toNat _) ?_ ?_ ?_; (focus ((first | rfl | decide | omega | (simp; done)); done)); (focus ((first | decide | omega | (simp; done) | (simp; omega)); done))) | with_reducible refine ixS _ rfl (by assumption) ?_ | (with_reducible refine shlI ?_ ?_; (focus (first | decide | omega))) | (refine exI (callZ rfl rfl (if_pos ?_)) ?_; (focus ((first | decide | omega | (simp; done) | (simp; omega)); done)))))
    · exfalso; rw [w63] at h; simp only [decide_eq_true_eq] at h; omega
    · rw [IntWalk.i64_in _ ⟨by omega, by omega⟩]
  · rw [piR_ge h63]
    by_cases h64 : valN (c :: t) < 18446744073709551616
    · have e2 : F4 62 [.str (c :: t), .int .i64 10, .int .i64 64] = some (.tuple [.int .u64 (valN (c :: t)), .niface]) := by rw [e0]; unfold puR; rw [if_pos (by omega)]
      generalize valN (c :: t) = v at *
      refine fn_val follows noNum F4_sound Tryd.func54 rfl ?_
      repeat' ((conv => whnf); first | with_reducible refine ixS 0 rfl hc0 ?_ | with_reducible refine exI (callZ hb rfl e2) ?_ | (first | (with_reducible refine condT ?_ ?_; (focus ((first | assumption | decide | (simp; done) | (simp; omega)); done))) | (with_reducible refine condF ?_ ?_; (focus ((first | assumption | decide | (simp; done) | (simp; omega)); done))) | with_reducible refine condB (fun h => ?_) (fun h => ?_) | with_reducible refine exI rfl ?_ | with_reducible refine eqR rfl ?_ | (with_reducible refine exW (wrapN1 ?_) ?_; (focus (omega))) | (with_reducible refine exW (wrapN ?_) ?_; (focus (omega))) | (with_reducible refine exW (wrapB ?_ ?_) ?_; (focus (omega)); (focus (omega))) | with_reducible refine exW rfl ?_ | (with_reducible refine ixJ _ rfl ?_ ?_; (focus ((first | decide | omega | (simp; done) | (simp; omega)); done))) | (with_reducible refine ixJ' _ rfl ?_ ?_; (focus ((first | decide | omega | (simp; done) | (simp; omega)); done))) | (refine ixJ (Int.toNat _) ?_ ?_ ?_; (focus ((first | rfl | decide | omega | (simp; done)); done)); (focus ((first | decide | omega | (simp; done) | (simp; omega)); done))) | (refine ixJ' (Int.toNat _) ?_ ?_ ?_; (focus ((first | rfl | decide | omega | (simp; done)); done)); (focus ((first | decide | omega | (simp; done) | (simp; omega)); done))) | with_reducible refine ixS _ rfl (by assumption) ?_ | (with_reducible refine shlI ?_ ?_; (focus (first | decide | omega))) | (refine exI (callZ rfl rfl (if_pos ?_)) ?_; (focus ((first | decide | omega | (simp; done) | (simp; omega)); done)))))
      · rw [w63, w63']
      · exfalso; rw [w63] at h; simp only [decide_eq_false_iff_not] at h; omega
    · have e2 : F4 62 [.str (c :: t), .int .i64 10, .int .i64 64] = some (.tuple [.int .u64 18446744073709551615, .iface 79 (.int .i64 1)]) := by rw [e0]; unfold puR; rw [if_neg (by omega)]
      refine fn_val follows noNum F4_sound Tryd.func54 rfl ?_
      repeat' ((conv => whnf); first | with_reducible refine ixS 0 rfl hc0 ?_ | with_reducible refine exI (callZ hb rfl e2) ?_ | (first | (with_reducible refine condT ?_ ?_; (focus ((first | assumption | decide | (simp; done) | (simp; omega)); done))) | (with_reducible refine condF ?_ ?_; (focus ((first | assumption | decide | (simp; done) | (simp; omega)); done))) | with_reducible refine condB (fun h => ?_) (fun h => ?_) | with_reducible refine exI rfl ?_ | with_reducible refine eqR rfl ?_ | (with_reducible refine exW (wrapN1 ?_) ?_; (focus (omega))) | (with_reducible refine exW (wrapN ?_) ?_; (focus (omega))) | (with_reducible refine exW (wrapB ?_ ?_) ?_; (focus (omega)); (focus (omega))) | with_reducible refine exW rfl ?_ | (with_reducible refine ixJ _ rfl ?_ ?_; (focus ((first | decide | omega | (simp; done) | (simp; omega)); done))) | (with_reducible refine ixJ' _ rfl ?_ ?_; (focus ((first | decide | omega | (simp; done) | (simp; omega)); done))) | (refine ixJ (Int.toNat _) ?_ ?_ ?_; (focus ((first | rfl | decide | omega | (simp; done)); done)); (focus ((first | decide | omega | (simp; done) | (simp; omega)); done))) | (refine ixJ' (Int.toNat _) ?_ ?_ ?_; (focus ((first | rfl | decide | omega | (simp; done)); done)); (focus ((first | decide | omega | (simp; done) | (simp; omega)); done))) | with_reducible refine ixS _ rfl (by assumption) ?_ | (with_reducible refine shlI ?_ ?_; (focus (first | decide | omega))) | (refine exI (callZ rfl rfl (if_pos ?_)) ?_; (focus ((first | decide | omega | (simp; done) | (simp; omega)); done)))))
      · rw [w63, w63']
theorem plain_piR (n : Nat) : plain (piR n) = true := by unfold piR; split <;> rfl
def F5 (f : Nat) (xs : List AV) : Option AV := match f with
  | 54 => match xs with
    | [.str s, .int .i64 10, .int .i64 64] => if digs s then some (piR (valN s)) else none
    | _ => none
  | 71 => match xs with
    | [.str s] => if s.length ≤ 1099511627776 then some (.str s) else none
    | _ => none
  | f => F4 f xs
theorem F5_val {f : Nat} {xs : List AV} {r : AV} (h : F5 f xs = some r) : plain r = true ∧ ValOK Tryd.prog gl f xs r := by
  unfold F5 at h
  split at h
  · split at h <;> try (cases h; done)
    split at h <;> cases h
    rename_i hd
    exact ⟨plain_piR _, pi_ok _ hd⟩
  · split at h <;> try (cases h; done)
    split at h <;> cases h
    rename_i hd
    exact ⟨rfl, clone_ok _ hd⟩
  · exact F4_val h
theorem F5_sound : OrcSound Tryd.prog gl (orcZ F5) := orcZ_sound fun f xs r h => F5_val h

/-- How long the number is with which a text begins, and which one. -/
def numN (s : List UInt8) : Nat × Nat :=
  let n := spanN digB s
  if n = 0 ∨ (1 < n ∧ s.head? = some 48) ∨ (match s[n]? with | some c => letB c.toNat || c == 95 | none => false) = true ∨ ¬ valN (s.take n) < 9223372036854775808 then (0, 0) else (n, valN (s.take n))

theorem digs_span {s : List UInt8} (hs : s.length ≤ 9223372036854775807) (h : 0 < spanN digB s) : digs (s.take (spanN digB s)) = true := by
  have hl := spanN_le digB s
  have ht : s.take (spanN digB s) = s.takeWhile fun c => digB c.toNat := by
    unfold spanN; exact (List.prefix_iff_eq_take.1 (List.takeWhile_prefix _)).symm
  simp only [digs, Bool.and_eq_true, decide_eq_true_eq]
  refine ⟨⟨?_, ?_⟩, ?_⟩
  · cases e : s.take (spanN digB s) with
    | nil =>
      have := congrArg List.length e
      rw [List.length_take] at this; simp only [List.length_nil] at this; omega
    | cons a b => rfl
  · simp; omega
  · rw [ht]; simp [List.all_takeWhile]

theorem num_ok (s : List UInt8) (hs : s.length ≤ 1099511627776) : ValOK Tryd.prog runLives.gl 33 [.str s] (.tuple [.int .i64 (numN s).1, .int .i64 (numN s).2]) := by
  refine fn_valI (fun g => Nat.beq g 29 || Nat.beq g 37 || Nat.beq g 54 || Nat.beq g 71) 4 follows noNum F5_sound Tryd.func33 rfl ?_
  have h1 := spanN_le digB s
  by_cases hz : spanN digB s = 0
  · have e1 : ((spanN digB s : Int) == 0) = true := by simp [hz]
    repeat' ((conv => whnf); first | (with_reducible refine condT ?_ ?_; (focus ((first | assumption | decide | (simp; done) | (simp; omega)); done))) | (with_reducible refine condF ?_ ?_; (focus ((first | assumption | decide | (simp; done) | (simp; omega)); done))) | with_reducible refine condB (fun h => ?_) (fun h => ?_) | with_reducible refine exI rfl ?_ | with_reducible refine eqR rfl ?_ | (with_reducible refine exW (wrapN1 ?_) ?_; (focus (omega))) | (with_reducible refine exW (wrapN ?_) ?_; (focus (omega))) | (with_reducible refine exW (wrapB ?_ ?_) ?_; (focus (omega)); (focus (omega))) | with_reducible refine exW rfl ?_ | (with_reducible refine ixJ _ rfl ?_ ?_; (focus ((first | decide | omega | (simp; done) | (simp; omega)); done))) | (with_reducible refine ixJ' _ rfl ?_ ?_; (focus ((first | decide | omega | (simp; done) | (simp; omega)); done))) | (refine ixJ (Int.toNat _) ?_ ?_ ?_; (focus ((first | rfl | decide | omega | (simp; done)); done)); (focus ((first | decide | omega | (simp; done) | (simp; omega)); done))) | (refine ixJ' (Int.toNat _) ?_ ?_ ?_; (focus ((first | rfl | decide | omega | (simp; done)); done)); (focus ((first | decide | omega | (simp; done) | (simp; omega)); done))) | with_reducible refine ixS _ rfl (by assumption) ?_ | (with_reducible refine shlI ?_ ?_; (focus (first | decide | omega))) | (refine exI (callZ rfl rfl (if_pos ?_)) ?_; (focus ((first | decide | omega | (simp; done) | (simp; omega)); done))))
    unfold numN; simp [hz]
  · have hdg := digs_span (s := s) (by omega) (by omega)
    have e0 : F5 54 [.str (s.take (spanN digB s)), .int .i64 10, .int .i64 64] = some (piR (valN (s.take (spanN digB s)))) := by simp only [F5]; rw [if_pos hdg]
    have hb : hasBody Tryd.prog 54 = true := by kernel_rfl
    have e1 : ((spanN digB s : Int) == 0) = false := by simp [hz]
    obtain ⟨c, hc⟩ : ∃ c, s[0]? = some c := by cases s with | nil => simp [spanN] at hz | cons c t => exact ⟨c, rfl⟩
    have hh : s.head? = some c := by rw [← hc]; cases s <;> rfl
    have u0 := u8_eq c 48 (by decide)
    have u2 : ∀ n : Nat, decide ((n : Int) > 1) = decide (1 < n) := fun n => by simp; omega
    have hb2 : hasBody Tryd.prog 71 = true := by kernel_rfl
    have e3 : F5 71 [.str (s.take (spanN digB s))] = some (.str (s.take (spanN digB s))) := by simp only [F5]; rw [if_pos (by rw [List.length_take]; omega)]
    by_cases hn : spanN digB s < s.length
    · have e2 : decide ((spanN digB s : Int) < (s.length : Int)) = true := by simpa using hn
      have hx : s[spanN digB s]? = some s[spanN digB s] := by simp [hn]
      have u1 := u8_eq s[spanN digB s] 95 (by decide)
      by_cases hv : valN (s.take (spanN digB s)) < 9223372036854775808
      · rw [piR_lt hv] at e0
        repeat' ((conv => whnf); first | with_reducible refine ixS 0 rfl hc ?_ | with_reducible refine ixS _ rfl hx ?_ | with_reducible refine exI (callZ hb rfl e0) ?_ | with_reducible refine exI (callZ hb2 rfl e3) ?_ | (first | (with_reducible refine condT ?_ ?_; (focus ((first | assumption | decide | (simp; done) | (simp; omega)); done))) | (with_reducible refine condF ?_ ?_; (focus ((first | assumption | decide | (simp; done) | (simp; omega)); done))) | with_reducible refine condB (fun h => ?_) (fun h => ?_) | with_reducible refine exI rfl ?_ | with_reducible refine eqR rfl ?_ | (with_reducible refine exW (wrapN1 ?_) ?_; (focus (omega))) | (with_reducible refine exW (wrapN ?_) ?_; (focus (omega))) | (with_reducible refine exW (wrapB ?_ ?_) ?_; (focus (omega)); (focus (omega))) | with_reducible refine exW rfl ?_ | (with_reducible refine ixJ _ rfl ?_ ?_; (focus ((first | decide | omega | (simp; done) | (simp; omega)); done))) | (with_reducible refine ixJ' _ rfl ?_ ?_; (focus ((first | decide | omega | (simp; done) | (simp; omega)); done))) | (refine ixJ (Int.toNat _) ?_ ?_ ?_; (focus ((first | rfl | decide | omega | (simp; done)); done)); (focus ((first | decide | omega | (simp; done) | (simp; omega)); done))) | (refine ixJ' (Int.toNat _) ?_ ?_ ?_; (focus ((first | rfl | decide | omega | (simp; done)); done)); (focus ((first | decide | omega | (simp; done) | (simp; omega)); done))) | with_reducible refine ixS _ rfl (by assumption) ?_ | (with_reducible refine shlI ?_ ?_; (focus (first | decide | omega))) | (refine exI (callZ rfl rfl (if_pos ?_)) ?_; (focus ((first | decide | omega | (simp; done) | (simp; omega)); done)))))
        all_goals (first | (show AV.tuple _ = AV.tuple _; clear e0 hdg; simp only [numN, hx, hh]; simp only [u2] at *; simp_all; done) | (show AV.tuple _ = AV.tuple _; have hg : ¬ (1 < spanN digB s) := (by intro hg; have hg' : decide ((spanN digB s : Int) > 1) = true := (by simp; omega); simp_all; done); clear e0 hdg u2; simp only [numN, hx, hh]; simp_all; rw [if_neg (fun hq => by have := hq.1; omega)]; exact ⟨rfl, rfl⟩))
      · rw [piR_ge hv] at e0
        repeat' ((conv => whnf); first | with_reducible refine ixS 0 rfl hc ?_ | with_reducible refine ixS _ rfl hx ?_ | with_reducible refine exI (callZ hb rfl e0) ?_ | with_reducible refine exI (callZ hb2 rfl e3) ?_ | (first | (with_reducible refine condT ?_ ?_; (focus ((first | assumption | decide | (simp; done) | (simp; omega)); done))) | (with_reducible refine condF ?_ ?_; (focus ((first | assumption | decide | (simp; done) | (simp; omega)); done))) | with_reducible refine condB (fun h => ?_) (fun h => ?_) | with_reducible refine exI rfl ?_ | with_reducible refine eqR rfl ?_ | (with_reducible refine exW (wrapN1 ?_) ?_; (focus (omega))) | (with_reducible refine exW (wrapN ?_) ?_; (focus (omega))) | (with_reducible refine exW (wrapB ?_ ?_) ?_; (focus (omega)); (focus (omega))) | with_reducible refine exW rfl ?_ | (with_reducible refine ixJ _ rfl ?_ ?_; (focus ((first | decide | omega | (simp; done) | (simp; omega)); done))) | (with_reducible refine ixJ' _ rfl ?_ ?_; (focus ((first | decide | omega | (simp; done) | (simp; omega)); done))) | (refine ixJ (Int.toNat _) ?_ ?_ ?_; (focus ((first | rfl | decide | omega | (simp; done)); done)); (focus ((first | decide | omega | (simp; done) | (simp; omega)); done))) | (refine ixJ' (Int.toNat _) ?_ ?_ ?_; (focus ((first | rfl | decide | omega | (simp; done)); done)); (focus ((first | decide | omega | (simp; done) | (simp; omega)); done))) | with_reducible refine ixS _ rfl (by assumption) ?_ | (with_reducible refine shlI ?_ ?_; (focus (first | decide | omega))) | (refine exI (callZ rfl rfl (if_pos ?_)) ?_; (focus ((first | decide | omega | (simp; done) | (simp; omega)); done)))))
        all_goals (first | (show AV.tuple _ = AV.tuple _; clear e0 hdg; simp only [numN, hx, hh]; simp only [u2] at *; simp_all; done) | (show AV.tuple _ = AV.tuple _; have hg : ¬ (1 < spanN digB s) := (by intro hg; have hg' : decide ((spanN digB s : Int) > 1) = true := (by simp; omega); simp_all; done); clear e0 hdg u2; simp only [numN, hx, hh]; simp_all; rw [if_neg (fun hq => by have := hq.1; omega)]; exact ⟨rfl, rfl⟩))
    · have e2 : decide ((spanN digB s : Int) < (s.length : Int)) = false := by simpa using hn
      have hx : s[spanN digB s]? = none := by simp; omega
      by_cases hv : valN (s.take (spanN digB s)) < 9223372036854775808
      · rw [piR_lt hv] at e0
        repeat' ((conv => whnf); first | with_reducible refine ixS 0 rfl hc ?_ | with_reducible refine exI (callZ hb rfl e0) ?_ | with_reducible refine exI (callZ hb2 rfl e3) ?_ | (first | (with_reducible refine condT ?_ ?_; (focus ((first | assumption | decide | (simp; done) | (simp; omega)); done))) | (with_reducible refine condF ?_ ?_; (focus ((first | assumption | decide | (simp; done) | (simp; omega)); done))) | with_reducible refine condB (fun h => ?_) (fun h => ?_) | with_reducible refine exI rfl ?_ | with_reducible refine eqR rfl ?_ | (with_reducible refine exW (wrapN1 ?_) ?_; (focus (omega))) | (with_reducible refine exW (wrapN ?_) ?_; (focus (omega))) | (with_reducible refine exW (wrapB ?_ ?_) ?_; (focus (omega)); (focus (omega))) | with_reducible refine exW rfl ?_ | (with_reducible refine ixJ _ rfl ?_ ?_; (focus ((first | decide | omega | (simp; done) | (simp; omega)); done))) | (with_reducible refine ixJ' _ rfl ?_ ?_; (focus ((first | decide | omega | (simp; done) | (simp; omega)); done))) | (refine ixJ (Int.toNat _) ?_ ?_ ?_; (focus ((first | rfl | decide | omega | (simp; done)); done)); (focus ((first | decide | omega | (simp; done) | (simp; omega)); done))) | (refine ixJ' (Int.toNat _) ?_ ?_ ?_; (focus ((first | rfl | decide | omega | (simp; done)); done)); (focus ((first | decide | omega | (simp; done) | (simp; omega)); done))) | with_reducible refine ixS _ rfl (by assumption) ?_ | (with_reducible refine shlI ?_ ?_; (focus (first | decide | omega))) | (refine exI (callZ rfl rfl (if_pos ?_)) ?_; (focus ((first | decide | omega | (simp; done) | (simp; omega)); done)))))
        all_goals (first | (show AV.tuple _ = AV.tuple _; clear e0 hdg; simp only [numN, hx, hh]; simp only [u2] at *; simp_all; done) | (show AV.tuple _ = AV.tuple _; have hg : ¬ (1 < spanN digB s) := (by intro hg; have hg' : decide ((spanN digB s : Int) > 1) = true := (by simp; omega); simp_all; done); clear e0 hdg u2; simp only [numN, hx, hh]; simp_all; rw [if_neg (fun hq => by have := hq.1; omega)]; exact ⟨rfl, rfl⟩))
      · rw [piR_ge hv] at e0
        repeat' ((conv => whnf); first | with_reducible refine ixS 0 rfl hc ?_ | with_reducible refine exI (callZ hb rfl e0) ?_ | with_reducible refine exI (callZ hb2 rfl e3) ?_ | (first | (with_reducible refine condT ?_ ?_; (focus ((first | assumption | decide | (simp; done) | (simp; omega)); done))) | (with_reducible refine condF ?_ ?_; (focus ((first | assumption | decide | (simp; done) | (simp; omega)); done))) | with_reducible refine condB (fun h => ?_) (fun h => ?_) | with_reducible refine exI rfl ?_ | with_reducible refine eqR rfl ?_ | (with_reducible refine exW (wrapN1 ?_) ?_; (focus (omega))) | (with_reducible refine exW (wrapN ?_) ?_; (focus (omega))) | (with_reducible refine exW (wrapB ?_ ?_) ?_; (focus (omega)); (focus (omega))) | with_reducible refine exW rfl ?_ | (with_reducible refine ixJ _ rfl ?_ ?_; (focus ((first | decide | omega | (simp; done) | (simp; omega)); done))) | (with_reducible refine ixJ' _ rfl ?_ ?_; (focus ((first | decide | omega | (simp; done) | (simp; omega)); done))) | (refine ixJ (Int.toNat _) ?_ ?_ ?_; (focus ((first | rfl | decide | omega | (simp; done)); done)); (focus ((first | decide | omega | (simp; done) | (simp; omega)); done))) | (refine ixJ' (Int.toNat _) ?_ ?_ ?_; (focus ((first | rfl | decide | omega | (simp; done)); done)); (focus ((first | decide | omega | (simp; done) | (simp; omega)); done))) | with_reducible refine ixS _ rfl (by assumption) ?_ | (with_reducible refine shlI ?_ ?_; (focus (first | decide | omega))) | (refine exI (callZ rfl rfl (if_pos ?_)) ?_; (focus ((first | decide | omega | (simp; done) | (simp; omega)); done)))))
        all_goals (first | (show AV.tuple _ = AV.tuple _; clear e0 hdg; simp only [numN, hx, hh]; simp only [u2] at *; simp_all; done) | (show AV.tuple _ = AV.tuple _; have hg : ¬ (1 < spanN digB s) := (by intro hg; have hg' : decide ((spanN digB s : Int) > 1) = true := (by simp; omega); simp_all; done); clear e0 hdg u2; simp only [numN, hx, hh]; simp_all; rw [if_neg (fun hq => by have := hq.1; omega)]; exact ⟨rfl, rfl⟩))
end Go.Proofs.YtacaaiiooedgjaaDoor.lex
end


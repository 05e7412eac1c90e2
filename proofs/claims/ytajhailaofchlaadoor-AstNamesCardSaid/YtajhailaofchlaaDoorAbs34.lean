/-
  A verified abstract interpreter, part 34: code whose values are not all known: from one state to another, forgetting, loops by what holds at their heads.
-/
import Derived.Test.YtajhailaofchlaaDoorAbs33
set_option linter.unusedSimpArgs false
set_option linter.unusedVariables false
namespace Go.Abs
open Go.RowKit

/-- From one state to another, whatever the blocks' numbers; the first k blocks keep theirs. -/
structure Stq (k : Nat) (sn : Snap) (ι : IMap) (H : AHeap) (W : World) (sn' : Snap) (ι' : IMap) (H' : AHeap) (W' : World) : Prop where
  rel : R sn' ι' H' W'
  le : ∀ a v, sn a = some v → sn' a = some v
  fresh : ∀ (b : Nat) (o : AObj) p, H'[b]? = some o → o.alive = true → ι' b = some p → W.heap.size ≤ p.blk ∨ ∃ (b0 : Nat) (o0 : AObj) (p0 : Place), H[b0]? = some o0 ∧ o0.alive = true ∧ ι b0 = some p0 ∧ p0.blk = p.blk
  frame : ∀ c, c < W.heap.size → (∀ (b : Nat) (o : AObj) p, H[b]? = some o → o.alive = true → ι b = some p → p.blk ≠ c) → W'.heap[c]? = W.heap[c]?
  size : W.heap.size ≤ W'.heap.size
  os : W'.os = W.os
  tape : W'.tape = W.tape
  output : W'.output = W.output
  sfresh : ∀ a v, sn' a = some v → sn a = some v ∨ W.heap.size ≤ a.block ∨ ∃ (b0 : Nat) (o0 : AObj) (p0 : Place), H[b0]? = some o0 ∧ o0.alive = true ∧ ι b0 = some p0 ∧ p0.blk = a.block
  keep : ∀ b p, b < k → ι b = some p → ι' b = some p

theorem Stp.q {k : Nat} {sn sn' : Snap} {ι ι' : IMap} {H H' : AHeap} {W W' : World} (h0 : R sn ι H W) (h : Stp sn ι H W sn' ι' H' W') : Stq k sn ι H W sn' ι' H' W' := by
  refine ⟨h.rel, h.le.sn, fun b o p hb ha hp => ?_, h.frame, h.size, h.os, h.tape, h.output, h.sfresh, fun b p _ hp => h.le.ι b p hp⟩
  rcases h.fresh b p hp with h1 | h1 | h1
  · have hbl : b < H.length := (h0.dom b).2 ⟨p, h1⟩
    have hg : H[b]? = some H[b] := List.getElem?_eq_getElem hbl
    obtain ⟨o', e1, _, _, e4⟩ := h.evo b _ hg
    rw [hb] at e1; simp at e1; subst e1
    exact .inr ⟨b, _, p, hg, e4 ha, h1, rfl⟩
  · exact .inl h1
  · exact .inr h1

theorem Stq.refl {k : Nat} {sn : Snap} {ι : IMap} {H : AHeap} {W : World} (h : R sn ι H W) : Stq k sn ι H W sn ι H W := (Stp.refl h).q h

theorem Stq.trans {n : Nat} {sn sn1 sn2 : Snap} {ι ι1 ι2 : IMap} {H H1 H2 : AHeap} {W W1 W2 : World} (h : Stq n sn ι H W sn1 ι1 H1 W1) (k : Stq n sn1 ι1 H1 W1 sn2 ι2 H2 W2) : Stq n sn ι H W sn2 ι2 H2 W2 := by
  have via : ∀ c, (W1.heap.size ≤ c ∨ ∃ (b0 : Nat) (o0 : AObj) (p0 : Place), H1[b0]? = some o0 ∧ o0.alive = true ∧ ι1 b0 = some p0 ∧ p0.blk = c) →
      W.heap.size ≤ c ∨ ∃ (b0 : Nat) (o0 : AObj) (p0 : Place), H[b0]? = some o0 ∧ o0.alive = true ∧ ι b0 = some p0 ∧ p0.blk = c := by
    rintro c (h1 | ⟨b1, o1, p1, g1, g2, g3, rfl⟩)
    · exact .inl (Nat.le_trans h.size h1)
    · exact h.fresh b1 o1 p1 g1 g2 g3
  refine ⟨k.rel, fun a v e => k.le a v (h.le a v e), fun b o p hb ha hp => via _ (k.fresh b o p hb ha hp), fun c hc hno => ?_, Nat.le_trans h.size k.size, k.os.trans h.os, k.tape.trans h.tape, k.output.trans h.output, fun a v hv => ?_, fun b p hb hp => k.keep b p hb (h.keep b p hb hp)⟩
  · rw [k.frame c (by have := h.size; omega), h.frame c hc hno]
    intro b o p hb ha hp e
    rcases h.fresh b o p hb ha hp with h1 | ⟨b0, o0, p0, e1, e2, e3, e4⟩
    · omega
    · exact hno b0 o0 p0 e1 e2 e3 (by omega)
  · rcases k.sfresh a v hv with h1 | h1
    · exact h.sfresh a v h1
    · exact .inr (via _ h1)

/-! forgetting -/
/-- The places of those that are kept: m tells the old number of each. -/
def iot (m : List Nat) (ι : IMap) : IMap := fun b => match m[b]? with | some j => ι j | none => none

/-- What the first says of a value, the second says in the new numbers, or less. -/
def Wk (m : List Nat) (u u2 : AV) : Prop := ∀ sn ι v, VR sn ι u v → VR sn (iot m ι) u2 v

theorem Wk.noref {m : List Nat} {u : AV} (h : refs u [] = []) : Wk m u u := fun sn ι v hv => VR_refs u [] v (fun b hb => by rw [h] at hb; cases hb) hv
theorem Wk.int {m : List Nat} {k : IntKind} {a b : Int} (h : a = b) : Wk m (.int k a) (.int k b) := by subst h; exact Wk.noref rfl
theorem Wk.bool {m : List Nat} {a b : Bool} (h : a = b) : Wk m (.bool a) (.bool b) := by subst h; exact Wk.noref rfl
theorem Wk.str {m : List Nat} {a b : List UInt8} (h : a = b) : Wk m (.str a) (.str b) := by subst h; exact Wk.noref rfl
theorem Wk.eq {m : List Nat} {u u2 : AV} (h : u = u2) (hr : refs u2 [] = []) : Wk m u u2 := by subst h; exact Wk.noref hr
theorem Wk.ptr {m : List Nat} {b b2 off off2 : Nat} (h : m[b2]? = some b) (e : off = off2) : Wk m (.ptr b off) (.ptr b2 off2) := by
  subst e
  intro sn ι v hv
  obtain ⟨p, h1, h2⟩ := hv.ptr
  simp only [VR]; exact ⟨p, by simp only [iot, h]; exact h1, h2⟩
theorem Wk.map {m : List Nat} {b b2 : Nat} (h : m[b2]? = some b) : Wk m (.map b) (.map b2) := by
  intro sn ι v hv
  obtain ⟨p, h1, h2⟩ := hv.map
  simp only [VR]; exact ⟨p, by simp only [iot, h]; exact h1, h2⟩
theorem Wk.slice {m : List Nat} {b b2 off off2 len len2 c c2 z z2 : Nat} (h : m[b2]? = some b) (eo : off = off2) (el : len = len2) (h1 : len2 ≤ c2) (h2 : c2 ≤ c) (ez : z = z2) : Wk m (.slice b off len c z) (.slice b2 off2 len2 c2 z2) := by
  subst eo; subst el; subst ez
  intro sn ι v hv
  obtain ⟨p, a, cap', g1, rfl, g2, g3, g4⟩ := hv.slice
  simp only [VR]; exact ⟨p, a, cap', by simp only [iot, h]; exact g1, rfl, h1, by omega, g4⟩

def WkL (m : List Nat) : List AV → List AV → Prop
  | [], [] => True
  | a :: l, b :: l2 => Wk m a b ∧ WkL m l l2
  | _, _ => False
theorem WkL.lr {m : List Nat} {sn : Snap} {ι : IMap} : ∀ {l l2 : List AV} {vs : List Value}, WkL m l l2 → LR sn ι l vs → LR sn (iot m ι) l2 vs
  | [], [], vs, h, hv => by simpa [LR] using hv
  | a :: l, b :: l2, vs, h, hv => by
    simp only [LR] at hv ⊢
    obtain ⟨d, ds, rfl, h1, h2⟩ := hv
    exact ⟨d, ds, rfl, h.1 _ _ _ h1, WkL.lr h.2 h2⟩
  | [], _ :: _, vs, h, hv => h.elim
  | _ :: _, [], vs, h, hv => h.elim
theorem Wk.agg {m : List Nat} {l l2 : List AV} (h : WkL m l l2) : Wk m (.agg l) (.agg l2) := by
  intro sn ι v hv
  obtain ⟨d, rfl, h2⟩ := hv.agg
  exact vr_agg (h.lr h2)
theorem Wk.tuple {m : List Nat} {l l2 : List AV} (h : WkL m l l2) : Wk m (.tuple l) (.tuple l2) := by
  intro sn ι v hv
  obtain ⟨d, rfl, h2⟩ := hv.tuple
  exact vr_tuple (h.lr h2)
theorem Wk.func {m : List Nat} {fn : Fn} {f f2 c c2 : List AV} (h : WkL m f f2) (k : WkL m c c2) : Wk m (.func fn f c) (.func fn f2 c2) := by
  intro sn ι v hv
  obtain ⟨x, y, rfl, h1, h2⟩ := hv.func
  simp only [VR]; exact ⟨x, y, rfl, h.lr h1, k.lr h2⟩
theorem Wk.iface {m : List Nat} {t : TypeId} {u u2 : AV} (h : Wk m u u2) : Wk m (.iface t u) (.iface t u2) := by
  intro sn ι v hv
  obtain ⟨x, rfl, h1⟩ := hv.iface
  simp only [VR]; exact ⟨x, rfl, h _ _ _ h1⟩

/-- No more is known of the temporaries. -/
def TrGe (m : List Nat) (t t2 : Tr) : Prop := (∀ n u2, tget t2 n = some u2 → ∃ u, tget t n = some u ∧ Wk m u u2) ∧ ∀ n, tex t2 n = true → tex t n = true

/-- The temporaries that are there; of them what g tells is known. -/
def mask : (Nat → Option AV) → Tr → Tr
  | _, .leaf => .leaf
  | g, .node x l r => .node (match x with | some _ => some (g 0) | none => none) (mask (fun i => g (Nat.add (Nat.mul 2 i) 1)) l) (mask (fun i => g (Nat.add (Nat.mul 2 i) 2)) r)

theorem mask_get : ∀ (t : Tr) (g : Nat → Option AV) (n : Nat) (u : AV), tget (mask g t) n = some u → g n = some u
  | .leaf, g, n, u, h => by simp [mask, tget] at h
  | .node x l r, g, 0, u, h => by cases x <;> simp [mask, tget] at h; exact h
  | .node x l r, g, n + 1, u, h => by
    simp only [mask, tget] at h
    split at h
    · rename_i hn
      have := mask_get l _ _ u h
      have hn' : n % 2 = 0 := hn
      have e : Nat.add (Nat.mul 2 (Nat.div n 2)) 1 = n + 1 := by show 2 * (n / 2) + 1 = n + 1; omega
      rw [e] at this; exact this
    · rename_i hn
      have := mask_get r _ _ u h
      have hn' : ¬ n % 2 = 0 := hn
      have e : Nat.add (Nat.mul 2 (Nat.div n 2)) 2 = n + 1 := by show 2 * (n / 2) + 2 = n + 1; omega
      rw [e] at this; exact this

theorem mask_tex : ∀ (t : Tr) (g : Nat → Option AV) (n : Nat), tex (mask g t) n = tex t n
  | .leaf, g, n => rfl
  | .node x l r, g, 0 => by cases x <;> rfl
  | .node x l r, g, n + 1 => by
    simp only [mask, tex]
    split <;> exact mask_tex _ _ _

/-- All that is there in the one is there in the other. -/
def subT : Tr → Tr → Bool
  | .leaf, _ => true
  | .node x l r, .node y l2 r2 => (match x, y with | some _, none => false | _, _ => true) && (subT l l2 && subT r r2)
  | .node .., .leaf => false

theorem subT_tex : ∀ {t t2 : Tr}, subT t t2 = true → ∀ n, tex t n = true → tex t2 n = true
  | .leaf, t2, h, n, e => by simp [tex] at e
  | .node x l r, .node y l2 r2, h, 0, e => by
    simp only [subT, Bool.and_eq_true] at h
    cases x with
    | none => simp [tex] at e
    | some x => cases y with
      | none => simp at h
      | some y => rfl
  | .node x l r, .node y l2 r2, h, n + 1, e => by
    simp only [subT, Bool.and_eq_true] at h
    simp only [tex] at e ⊢
    split at e
    · exact subT_tex h.2.1 _ e
    · exact subT_tex h.2.2 _ e
  | .node .., .leaf, h, n, e => by simp [subT] at h

def SlotsGe (m : List Nat) (t : Tr) : List (Nat × AV) → Prop
  | [] => True
  | (n, u2) :: l => (onO (tget t n) fun u => Wk m u u2) ∧ SlotsGe m t l

theorem SlotsGe.get {m : List Nat} {t : Tr} : ∀ {l : List (Nat × AV)}, SlotsGe m t l → ∀ n u2, alook n l = some u2 → ∃ u, tget t n = some u ∧ Wk m u u2
  | [], h, n, u2, e => by simp [alook] at e
  | (k, v) :: l, h, n, u2, e => by
    simp only [alook] at e
    split at e
    · rename_i hk
      have := Nat.eq_of_beq_eq_true hk; subst this
      simp at e; subst e
      exact onO_some h.1
    · exact h.2.get n u2 e

def EGe (m : List Nat) : List (AV × AV × Nat) → List (AV × AV × Nat) → Prop
  | [], [] => True
  | (k, v, n) :: l, (k2, v2, n2) :: l2 => Wk m k k2 ∧ Wk m v v2 ∧ n = n2 ∧ EGe m l l2
  | _, _ => False
theorem EGe.er {m : List Nat} {sn : Snap} {ι : IMap} : ∀ {l l2 : List (AV × AV × Nat)} {es : List MapEntry}, EGe m l l2 → ER sn ι l es → ER sn (iot m ι) l2 es
  | [], [], es, h, e => by simpa [ER] using e
  | (k, v, n) :: l, (k2, v2, n2) :: l2, es, h, e => by
    obtain ⟨h1, h2, rfl, h4⟩ := h
    simp only [ER] at e ⊢
    obtain ⟨x, l', rfl, g1, g2, g3, g4⟩ := e
    exact ⟨x, l', rfl, h1 _ _ _ g1, h2 _ _ _ g2, g3, h4.er g4⟩
  | [], _ :: _, es, h, e => h.elim
  | _ :: _, [], es, h, e => h.elim

def BodyGe (m : List Nat) : ABody → ABody → Prop
  | .cells cs ty, .cells cs2 ty2 => ty = ty2 ∧ cs2.length ≤ cs.length ∧ ∀ (i : Nat) (c2 : AV), cs2[i]? = some c2 → ∃ c, cs[i]? = some c ∧ Wk m c c2
  | .map es c, .map es2 c2 => c = c2 ∧ EGe m es es2
  | .siter s p, .siter s2 p2 => s = s2 ∧ p = p2
  | _, _ => False

/-- The cells from the first on, none of which names a block. -/
theorem BodyGe.pre {m : List Nat} {cs cs2 rest : List AV} {ty : TypeId} (e : cs = cs2 ++ rest) (h : refsL cs2 [] = []) : BodyGe m (.cells cs ty) (.cells cs2 ty) := by
  subst e
  refine ⟨rfl, by simp, fun i c hc => ⟨c, ?_, fun sn ι v hv => ?_⟩⟩
  · rw [List.getElem?_append_left (List.getElem?_eq_some_iff.1 hc).1]; exact hc
  · have key : ∀ (l : List AV), refsL l [] = [] → ∀ (i : Nat) (c : AV), l[i]? = some c → ∀ b, b ∈ refs c [] → False := by
      intro l
      induction l with
      | nil => intro _ i c hc; simp at hc
      | cons x l ih =>
        intro hl i c hc b hb
        have hx : ∀ y, y ∈ refs x (refsL l []) → False := fun y hy => by simp only [refsL] at hl; rw [hl] at hy; cases hy
        have hl' : refsL l [] = [] := by
          rw [List.eq_nil_iff_forall_not_mem]; intro y hy; exact hx y (refs_acc x _ y hy)
        cases i with
        | zero => simp at hc; subst hc; rw [hl'] at hx; exact hx b hb
        | succ i => exact ih hl' i c (by simpa using hc) b hb
    exact VR_refs c [] v (fun b hb => (key cs2 h i c hc b hb).elim) hv

theorem BodyGe.cellsL {m : List Nat} {cs cs2 : List AV} {ty : TypeId} (h : WkL m cs cs2) : BodyGe m (.cells cs ty) (.cells cs2 ty) := by
  refine ⟨rfl, ?_, ?_⟩
  · have : ∀ (l l2 : List AV), WkL m l l2 → l2.length ≤ l.length := by
      intro l
      induction l with
      | nil => intro l2 h; cases l2 with | nil => simp | cons _ _ => exact h.elim
      | cons x l ih => intro l2 h; cases l2 with | nil => exact h.elim | cons _ _ => simp; exact ih _ h.2
    exact this _ _ h
  · have : ∀ (l l2 : List AV), WkL m l l2 → ∀ (i : Nat) (c2 : AV), l2[i]? = some c2 → ∃ c, l[i]? = some c ∧ Wk m c c2 := by
      intro l
      induction l with
      | nil => intro l2 h i c2 hc; cases l2 with | nil => simp at hc | cons _ _ => exact h.elim
      | cons x l ih =>
        intro l2 h i c2 hc
        cases l2 with
        | nil => exact h.elim
        | cons y l2 => cases i with
          | zero => simp at hc; subst hc; exact ⟨x, rfl, h.1⟩
          | succ i => simpa using ih _ h.2 i c2 (by simpa using hc)
    exact this _ _ h

theorem BodyGe.or {m : List Nat} {sn : Snap} {ι : IMap} {W : World} {p : Place} : ∀ {b b2 : ABody}, BodyGe m b b2 → OR sn ι W b p → OR sn (iot m ι) W b2 p
  | .cells cs ty, .cells cs2 ty2, h, e => by
    obtain ⟨rfl, h1, h2⟩ := h
    simp only [OR] at e ⊢
    obtain ⟨arr, g1, g2, g3, g4⟩ := e
    refine ⟨arr, g1, g2, by omega, fun i c2 hc => ?_⟩
    obtain ⟨c, e1, e2⟩ := h2 i c2 hc
    obtain ⟨v, e3, e4⟩ := g4 i c e1
    exact ⟨v, e3, e2 _ _ _ e4⟩
  | .map es c, .map es2 c2, h, e => by
    obtain ⟨rfl, h1⟩ := h
    simp only [OR] at e ⊢
    obtain ⟨mes, g1, g2⟩ := e
    exact ⟨mes, g1, h1.er g2⟩
  | .siter s q, .siter s2 q2, h, e => by
    obtain ⟨rfl, rfl⟩ := h
    simpa only [OR] using e
  | .cells _ _, .map _ _, h, _ => h.elim
  | .cells _ _, .siter _ _, h, _ => h.elim
  | .map _ _, .cells _ _, h, _ => h.elim
  | .map _ _, .siter _ _, h, _ => h.elim
  | .siter _ _, .cells _ _, h, _ => h.elim
  | .siter _ _, .map _ _, h, _ => h.elim

def HpGe (H : AHeap) (m : List Nat) : List Nat → AHeap → Nat → Prop
  | [], [], _ => True
  | j :: l, o2 :: H2, i => (onO H[j]? fun o => o.alive = true ∧ o2.alive = true ∧ o2.fam = i ∧ o2.sh = o.sh ∧ BodyGe m o.body o2.body) ∧ HpGe H m l H2 (i + 1)
  | _, _, _ => False

theorem HpGe.get {H : AHeap} {m : List Nat} : ∀ {l : List Nat} {H2 : AHeap} {i : Nat}, HpGe H m l H2 i → H2.length = l.length ∧ ∀ b, b < l.length → ∃ j o o2, l[b]? = some j ∧ H[j]? = some o ∧ H2[b]? = some o2 ∧ o.alive = true ∧ o2.alive = true ∧ o2.fam = i + b ∧ o2.sh = o.sh ∧ BodyGe m o.body o2.body
  | [], [], i, h => ⟨rfl, fun b hb => by simp at hb⟩
  | j :: l, o2 :: H2, i, h => by
    obtain ⟨h1, h2⟩ := h
    obtain ⟨o, ho, e1, e2, e3, e4, e5⟩ := onO_some h1
    obtain ⟨k1, k2⟩ := h2.get
    refine ⟨by simp [k1], fun b hb => ?_⟩
    cases b with
    | zero => exact ⟨j, o, o2, rfl, ho, rfl, e1, e2, e3, e4, e5⟩
    | succ b =>
      obtain ⟨j', o', o2', x1, x2, x3, x4, x5, x6, x7, x8⟩ := k2 b (by simpa using hb)
      exact ⟨j', o', o2', by simpa using x1, x2, by simpa using x3, x4, x5, by omega, x7, x8⟩
  | [], _ :: _, i, h => h.elim
  | _ :: _, [], i, h => h.elim

def famOf (H : AHeap) (j : Nat) : Nat := match H[j]? with | some o => o.fam | none => 0
def nodupN : List Nat → Bool
  | [] => true
  | n :: l => !(mem n l) && nodupN l
theorem nodupN_inj : ∀ {l : List Nat} {i j : Nat} {x : Nat}, nodupN l = true → l[i]? = some x → l[j]? = some x → i = j
  | [], i, j, x, h, hi, hj => by simp at hi
  | n :: l, i, j, x, h, hi, hj => by
    simp only [nodupN, Bool.and_eq_true, Bool.not_eq_true'] at h
    have nm : ∀ k, l[k]? = some n → False := fun k hk => by
      have : mem n l = true := mem_iff.2 (List.mem_of_getElem? hk)
      rw [h.1] at this; cases this
    cases i with
    | zero => cases j with
      | zero => rfl
      | succ j => simp at hi hj; subst hi; exact (nm j hj).elim
    | succ i => cases j with
      | zero => simp at hi hj; subst hj; exact (nm i hi).elim
      | succ j => simp at hi hj; rw [nodupN_inj h.2 hi hj]

/-- The first k stay where they are. -/
def pref : Nat → Nat → List Nat → Bool
  | 0, _, _ => true
  | k + 1, i, j :: m => Nat.beq j i && pref k (i + 1) m
  | _ + 1, _, [] => false
theorem pref_get : ∀ {k i : Nat} {m : List Nat}, pref k i m = true → ∀ b, b < k → m[b]? = some (i + b)
  | 0, i, m, h, b, hb => by omega
  | k + 1, i, [], h, b, hb => by simp [pref] at h
  | k + 1, i, j :: m, h, b, hb => by
    simp only [pref, Bool.and_eq_true] at h
    have := Nat.eq_of_beq_eq_true h.1; subst this
    cases b with
    | zero => simp
    | succ b => have := pref_get h.2 b (by omega); simp only [List.getElem?_cons_succ, this]; congr 1; omega
/-- What is known less: the blocks that m names, in its order; of the temporaries no more than what was known. -/
structure Fg (k : Nat) (m : List Nat) (tm : Tr) (H : AHeap) (tm2 : Tr) (H2 : AHeap) : Prop where
  tr : TrGe m tm tm2
  hp : HpGe H m m H2 0
  fams : nodupN (m.map (famOf H)) = true
  kp : pref k 0 m = true

theorem Fg.sound {k : Nat} {m : List Nat} {tm tm2 : Tr} {H H2 : AHeap} (h : Fg k m tm H tm2 H2) {sn : Snap} {ι : IMap} {W : World} {a : Act} (hR : R sn ι H W) (ht : TRel sn ι tm a) : Stq k sn ι H W sn (iot m ι) H2 W ∧ TRel sn (iot m ι) tm2 a := by
  obtain ⟨hl, hg⟩ := h.hp.get
  have at2 : ∀ {b : Nat} {o2 : AObj} {p : Place}, H2[b]? = some o2 → iot m ι b = some p → ∃ j o, m[b]? = some j ∧ H[j]? = some o ∧ ι j = some p ∧ o.alive = true ∧ o2.alive = true ∧ o2.fam = b ∧ o2.sh = o.sh ∧ BodyGe m o.body o2.body := by
    intro b o2 p hb hp
    obtain ⟨j, o, o2', x1, x2, x3, x4, x5, x6, x7, x8⟩ := hg b (by rw [← hl]; exact (List.getElem?_eq_some_iff.1 hb).1)
    rw [hb] at x3; simp at x3; subst x3
    simp only [iot, x1] at hp
    exact ⟨j, o, x1, x2, hp, x4, x5, by omega, x7, x8⟩
  have hR2 : R sn (iot m ι) H2 W := by
    refine ⟨fun b => ⟨fun hb => ?_, fun ⟨p, hp⟩ => ?_⟩, fun b p hp => ?_, fun b o2 p hb ha hp => ?_, fun b b' o o' p p' hb hb' hp hp' e => ?_, fun ad v hv => ?_, fun b o2 p hb hp e => ?_⟩
    · obtain ⟨j, o, o2, x1, x2, _⟩ := hg b (by omega)
      obtain ⟨p, hp⟩ := hR.place x2
      exact ⟨p, by simp only [iot, x1]; exact hp⟩
    · unfold iot at hp
      split at hp
      · rename_i j hj; rw [hl]; exact (List.getElem?_eq_some_iff.1 hj).1
      · cases hp
    · unfold iot at hp
      split at hp
      · exact hR.blk _ p hp
      · cases hp
    · obtain ⟨j, o, x1, x2, x3, x4, x5, x6, x7, x8⟩ := at2 hb hp
      exact x8.or (hR.obj j o p x2 x4 x3)
    · obtain ⟨j, q, x1, x2, x3, x4, x5, x6, x7, x8⟩ := at2 hb hp
      obtain ⟨j', q', y1, y2, y3, y4, y5, y6, y7, y8⟩ := at2 hb' hp'
      have hs := hR.sep j j' q q' p p' x2 y2 x3 y3 e
      have : b = b' := nodupN_inj (l := m.map (famOf H)) (x := q.fam) h.fams (by simp [x1, famOf, x2]) (by simp [y1, famOf, y2, hs.1])
      subst this
      exact ⟨by rw [x6, y6], by rw [x7, y7]; exact hs.2⟩
    · obtain ⟨h1, h2, h3⟩ := hR.snap ad v hv
      refine ⟨h1, h2, fun b o2 p hb ha hp => ?_⟩
      obtain ⟨j, o, x1, x2, x3, x4, _⟩ := at2 hb hp
      exact h3 j o p x2 x4 x3
    · obtain ⟨j, o, x1, x2, x3, x4, x5, x6, x7, x8⟩ := at2 hb hp
      exact hR.shz j o p x2 x3 (by omega)
  refine ⟨⟨hR2, fun _ _ h => h, fun b o2 p hb ha hp => ?_, fun _ _ _ => rfl, Nat.le_refl _, rfl, rfl, rfl, fun _ _ h => .inl h, fun b p hb hp => by have := pref_get h.kp b hb; simp only [Nat.zero_add] at this; simp only [iot, this]; exact hp⟩, fun t u2 hu => ?_, fun t hx => ht.2 t (h.tr.2 t hx)⟩
  · obtain ⟨j, o, x1, x2, x3, x4, _⟩ := at2 hb hp
    exact .inr ⟨j, o, p, x2, x4, x3, rfl⟩
  · obtain ⟨u, h1, h2⟩ := h.tr.1 t u2 hu
    obtain ⟨v, h3, h4⟩ := ht.1 t u h1
    exact ⟨v, h3, h2 _ _ _ h4⟩

theorem gl_le {sn sn' : Snap} (h : ∀ a v, sn a = some v → sn' a = some v) : Le sn sn' noI noI := ⟨h, fun _ _ h => h⟩

/-- What is known at the head of a loop whose temporaries were those of t0: those of l, and the blocks H2. -/
def FgLK (k : Nat) (t0 tm : Tr) (H : AHeap) (l : List (Nat × AV)) (H2 : AHeap) : Prop :=
  match subT t0 tm with
  | true => ∃ m, pref k 0 m = true ∧ SlotsGe m tm l ∧ HpGe H m m H2 0 ∧ nodupN (m.map (famOf H)) = true
  | false => False

abbrev FgL := FgLK 0

theorem FgLK.fg {k : Nat} {t0 tm : Tr} {H : AHeap} {l : List (Nat × AV)} {H2 : AHeap} (h : FgLK k t0 tm H l H2) : ∃ m, Fg k m tm H (mask (fun n => alook n l) t0) H2 := by
  unfold FgLK at h
  split at h
  · rename_i hs
    obtain ⟨m, h0, h1, h2, h3⟩ := h
    exact ⟨m, ⟨fun n u2 e => h1.get n u2 (mask_get _ _ _ _ e), fun n e => subT_tex hs n (by rwa [mask_tex] at e)⟩, h2, h3, h0⟩
  · exact h.elim

def frcOO (x : Option (Option AV)) (k : Option (Option AV) → Prop) : Prop := match x with
  | none => k none
  | some none => k (some none)
  | some (some v) => frc1 v fun v => k (some (some v))
theorem frcOO_eq (x : Option (Option AV)) (k : Option (Option AV) → Prop) : frcOO x k = k x := by
  cases x with
  | none => rfl
  | some x => cases x with
    | none => rfl
    | some v => simp only [frcOO, frc1_eq]
def frcTr : Tr → (Tr → Prop) → Prop
  | .leaf, k => k .leaf
  | .node x l r, k => frcOO x fun x => frcTr l fun l => frcTr r fun r => k (.node x l r)
theorem frcTr_eq : ∀ (t : Tr) (k : Tr → Prop), frcTr t k = k t
  | .leaf, k => rfl
  | .node x l r, k => by simp only [frcTr, frcOO_eq, frcTr_eq l, frcTr_eq r]

/-! code -/
/-- From what is known of the beginning to what is known of the end. -/
def Tri (P : Program) (gl : Glob) (k : Nat) (c : Code) (tm : Tr) (H : AHeap) (Φ : AEx → Tr → AHeap → Prop) : Prop :=
  ∀ (a : Act) (W : World) (sn : Snap) (ι : IMap) (Q : Exit → Act → World → Prop), GlOK gl sn → R sn ι H W → TRel sn ι tm a →
    (∀ x tm' H' a' W' sn' ι', Φ x tm' H' → Stq k sn ι H W sn' ι' H' W' → TRel sn' ι' tm' a' → a'.defers = a.defers → Q (exOf x) a' W') → c.wp P Q a W

def finP (kn : Tr → AHeap → Prop) (kx : Nat → Tr → AHeap → Prop) (kr : Tr → AHeap → Prop) (x : AEx) (tm : Tr) (H : AHeap) : Prop := match x with
  | .normal => kn tm H
  | .exit id => kx id tm H
  | .ret => kr tm H

/-- A loop: what holds at its head (the temporaries L, the blocks B), and what falls. -/
def wloopK (k : Nat) (body : (Tr → AHeap → Prop) → Tr → AHeap → Prop) (tm : Tr) (H : AHeap) : Prop :=
  ∃ (S : Type) (I : S → Prop) (L : S → List (Nat × AV)) (B : S → AHeap) (μ : S → Nat), (∃ s, I s ∧ FgLK k tm tm H (L s) (B s)) ∧
    ∀ s, I s → frcTr (mask (fun n => alook n (L s)) tm) fun tm1 => frcHW (B s) fun H1 => body (fun tm' H' => ∃ s', I s' ∧ μ s' < μ s ∧ FgLK k tm tm' H' (L s') (B s')) tm1 H1
abbrev wloop := wloopK 0

abbrev KN := Tr → AHeap → Prop
abbrev KX := Nat → Tr → AHeap → Prop
abbrev LH := ((Tr → AHeap → Prop) → Tr → AHeap → Prop) → Tr → AHeap → Prop
def noLoop : LH := fun _ _ _ => False
noncomputable def wexec (P : Program) (gl : Glob) (orc : Orc) (cw : CW) (lh : LH) (c : Code) : KN → KX → KN → Tr → AHeap → Prop :=
  Code.rec (motive := fun _ => KN → KX → KN → Tr → AHeap → Prop)
    (fun kn _ _ tm H => kn tm H)
    (fun _ ops draw kn _ _ tm H => match draw with
      | true => drawW P gl orc cw ops.toList tm H kn
      | false => seqW P gl orc cw ops.toList ops.toList tm H kn)
    (fun _ _ iha ihb kn kx kr tm H => iha (fun tm H => ihb kn kx kr tm H) kx kr tm H)
    (fun c _ _ iha ihb kn kx kr tm H => onO (aeval gl tm c) fun v => match v with
      | .bool t => (t = true → iha kn kx kr tm H) ∧ (t = false → ihb kn kx kr tm H)
      | _ => False)
    (fun id _ ih kn kx kr tm H => ih kn (fun id' tm H => match Nat.beq id' id with | true => kn tm H | false => kx id' tm H) kr tm H)
    (fun _ ih _ kx kr tm H => lh (fun kn tm H => ih kn kx kr tm H) tm H)
    (fun _ _ _ _ _ _ _ _ _ _ _ => False)
    (fun id _ kx _ tm H => kx id tm H)
    (fun _ _ _ _ _ _ _ => False)
    (fun _ _ _ _ _ _ => False)
    (fun _ _ _ _ _ _ => False)
    (fun _ _ kr tm H => kr tm H)
    (fun _ _ _ _ _ _ => False) c

section code
variable {P : Program} {gl : Glob} {orc : Orc} {k : Nat}

theorem Tri.mono {c : Code} {tm : Tr} {H : AHeap} {Φ Ψ : AEx → Tr → AHeap → Prop} (h : Tri P gl k c tm H Φ) (hk : ∀ x tm' H', Φ x tm' H' → Ψ x tm' H') : Tri P gl k c tm H Ψ :=
  fun a W sn ι Q hg hR ht hQ => h a W sn ι Q hg hR ht fun x tm' H' a' W' sn' ι' hx => hQ x tm' H' a' W' sn' ι' (hk _ _ _ hx)

theorem Tri.seq {c d : Code} {tm : Tr} {H : AHeap} {Φ : AEx → Tr → AHeap → Prop} (h : Tri P gl k c tm H fun x tm1 H1 => match x with | .normal => Tri P gl k d tm1 H1 Φ | x => Φ x tm1 H1) : Tri P gl k (.seq c d) tm H Φ := by
  intro a W sn ι Q hg hR ht hQ
  refine wp_seq (h a W sn ι _ hg hR ht fun x tm1 H1 a1 W1 sn1 ι1 hx s1 t1 d1 => ?_)
  cases x with
  | normal =>
    show Code.wp P d Q a1 W1
    refine hx a1 W1 sn1 ι1 Q (hg.mono (gl_le s1.le)) s1.rel t1 fun x tm2 H2 a2 W2 sn2 ι2 hx2 s2 t2 d2 => ?_
    exact hQ _ _ _ _ _ _ _ hx2 (s1.trans s2) t2 (d2.trans d1)
  | exit id => exact hQ (.exit id) tm1 H1 _ _ _ _ hx s1 t1 d1
  | ret => exact hQ .ret tm1 H1 _ _ _ _ hx s1 t1 d1

theorem Tri.forget {c : Code} {tm : Tr} {H : AHeap} {Φ : AEx → Tr → AHeap → Prop} {m : List Nat} {tm2 : Tr} {H2 : AHeap} (hf : Fg k m tm H tm2 H2) (h : Tri P gl k c tm2 H2 Φ) : Tri P gl k c tm H Φ := by
  intro a W sn ι Q hg hR ht hQ
  obtain ⟨s1, t1⟩ := hf.sound hR ht
  exact h a W sn (iot m ι) Q hg s1.rel t1 fun x tm' H' a' W' sn' ι' hx s2 t2 d2 => hQ x tm' H' a' W' sn' ι' hx (s1.trans s2) t2 d2

theorem Tri.loop {b : Code} {S : Type} {I : S → Prop} {T : S → Tr} {B : S → AHeap} {μ : S → Nat} {Φ : AEx → Tr → AHeap → Prop}
    (h : ∀ s, I s → Tri P gl k b (T s) (B s) fun x tm' H' => match x with | .normal => ∃ s', I s' ∧ μ s' < μ s ∧ ∃ m, Fg k m tm' H' (T s') (B s') | x => Φ x tm' H') {s : S} (h0 : I s) : Tri P gl k (.loop b) (T s) (B s) Φ := by
  have key : ∀ (n : Nat) (s : S), μ s < n → I s → ∀ (a : Act) (W : World) (sn : Snap) (ι : IMap) (Q : Exit → Act → World → Prop), GlOK gl sn → R sn ι (B s) W → TRel sn ι (T s) a →
      (∀ x tm' H' a' W' sn' ι', Φ x tm' H' → Stq k sn ι (B s) W sn' ι' H' W' → TRel sn' ι' tm' a' → a'.defers = a.defers → Q (exOf x) a' W') → Code.rounds P b Q n a W := by
    intro n
    induction n with
    | zero => intro s hs; omega
    | succ n ih =>
      intro s hs hI a W sn ι Q hg hR ht hQ
      rw [rounds_succ]
      refine h s hI a W sn ι _ hg hR ht fun x tm1 H1 a1 W1 sn1 ι1 hx s1 t1 d1 => ?_
      cases x with
      | normal =>
        show Code.rounds P b Q n a1 W1
        obtain ⟨s', hI', hs', m, hf⟩ := hx
        obtain ⟨s2, t2⟩ := hf.sound s1.rel t1
        refine ih s' (by omega) hI' a1 W1 sn1 (iot m ι1) Q (hg.mono (gl_le s1.le)) s2.rel t2 fun x tm3 H3 a3 W3 sn3 ι3 hx3 s3 t3 d3 => ?_
        exact hQ _ _ _ _ _ _ _ hx3 ((s1.trans s2).trans s3) t3 (d3.trans d1)
      | exit id => exact hQ (.exit id) tm1 H1 _ _ _ _ hx s1 t1 d1
      | ret => exact hQ .ret tm1 H1 _ _ _ _ hx s1 t1 d1
  intro a W sn ι Q hg hR ht hQ
  exact wp_loop_rounds (μ s + 1) (key (μ s + 1) s (by omega) h0 a W sn ι Q hg hR ht hQ)

theorem wexec_ok (hm : P.follows .mixedOrders = true) (hn : NoNum P) (hO : OrcSound P gl orc) {cw : CW} (hcw : CWok P orc cw) : ∀ (c : Code) {kn : Tr → AHeap → Prop} {kx : Nat → Tr → AHeap → Prop} {kr : Tr → AHeap → Prop} {tm : Tr} {H : AHeap},
    wexec P gl orc cw (wloopK k) c kn kx kr tm H → Tri P gl k c tm H (finP kn kx kr)
  | .skip, kn, kx, kr, tm, H, h => fun a W sn ι Q hg hR ht hQ => by
    exact wp_skip (hQ .normal tm H a W sn ι h (Stq.refl hR) ht rfl)
  | .region id ops draw, kn, kx, kr, tm, H, h => fun a W sn ι Q hg hR ht hQ => by
    cases draw with
    | true =>
      replace h : drawW P gl orc cw ops.toList tm H kn := h
      obtain ⟨tm', H', h1, h⟩ := drawW_ok P gl orc cw hcw h
      exact adraw_sound hm hn hO hg hR ht h1 (fun a' W' sn' ι' s1 t1 d1 => hQ .normal tm' H' a' W' sn' ι' h (s1.q hR) t1 d1) id
    | false =>
      replace h : seqW P gl orc cw ops.toList ops.toList tm H kn := h
      obtain ⟨tm', H', h1, h⟩ := seqW_ok P gl orc cw hcw h
      exact wp_region_list (aseq_sound hn hO ops _ _ _ _ _ _ _ _ _ h1 hg hR ht fun a' W' sn' ι' s1 t1 d1 => hQ .normal tm' H' a' W' sn' ι' h (s1.q hR) t1 d1)
  | .seq c d, kn, kx, kr, tm, H, h => by
    replace h : wexec P gl orc cw (wloopK k) c (fun tm H => wexec P gl orc cw (wloopK k) d kn kx kr tm H) kx kr tm H := h
    refine Tri.seq ((wexec_ok hm hn hO hcw c h).mono fun x tm1 H1 hx => ?_)
    cases x with
    | normal => exact wexec_ok hm hn hO hcw d hx
    | exit id => exact hx
    | ret => exact hx
  | .cond e c d, kn, kx, kr, tm, H, h => fun a W sn ι Q hg hR ht hQ => by
    replace h : (onO (aeval gl tm e) fun v => match v with
      | .bool t => (t = true → wexec P gl orc cw (wloopK k) c kn kx kr tm H) ∧ (t = false → wexec P gl orc cw (wloopK k) d kn kx kr tm H)
      | _ => False) := h
    obtain ⟨v, hv, h⟩ := onO_some h
    split at h
    · rename_i t
      have he := (aeval_sound hg ht _ _ hv).bool
      cases t with
      | true => exact wp_cond_true he (wexec_ok hm hn hO hcw c (h.1 rfl) a W sn ι Q hg hR ht hQ)
      | false => exact wp_cond_false he (wexec_ok hm hn hO hcw d (h.2 rfl) a W sn ι Q hg hR ht hQ)
    · exact h.elim
  | .block id b, kn, kx, kr, tm, H, h => fun a W sn ι Q hg hR ht hQ => by
    replace h : wexec P gl orc cw (wloopK k) b kn (fun id' tm H => match Nat.beq id' id with | true => kn tm H | false => kx id' tm H) kr tm H := h
    refine wp_block (wexec_ok hm hn hO hcw b h a W sn ι _ hg hR ht fun x tm1 H1 a1 W1 sn1 ι1 hx s1 t1 d1 => ?_)
    cases x with
    | normal => exact hQ .normal tm1 H1 _ _ _ _ hx s1 t1 d1
    | ret => exact hQ .ret tm1 H1 _ _ _ _ hx s1 t1 d1
    | exit id' =>
      show (if id' = id then Q .normal a1 W1 else Q (.exit id') a1 W1)
      have hx : (match Nat.beq id' id with | true => kn tm1 H1 | false => kx id' tm1 H1) := hx
      by_cases e : id' = id
      · rw [if_pos e]
        subst e
        have : Nat.beq id' id' = true := by simp
        rw [this] at hx
        exact hQ .normal tm1 H1 _ _ _ _ hx s1 t1 d1
      · rw [if_neg e]
        have : Nat.beq id' id = false := by cases hb : Nat.beq id' id with | false => rfl | true => exact (e (Nat.eq_of_beq_eq_true hb)).elim
        rw [this] at hx
        exact hQ (.exit id') tm1 H1 _ _ _ _ hx s1 t1 d1
  | .loop b, kn, kx, kr, tm, H, h => by
    replace h : wloopK k (fun kn tm H => wexec P gl orc cw (wloopK k) b kn kx kr tm H) tm H := h
    unfold wloopK at h
    obtain ⟨S, I, L, B, μ, ⟨s, h0, hf⟩, h⟩ := h
    obtain ⟨m, hf⟩ := hf.fg
    refine Tri.forget hf (Tri.loop (I := I) (T := fun s => mask (fun n => alook n (L s)) tm) (B := B) (μ := μ) (fun s hI => ?_) h0)
    have h := h s hI
    rw [frcTr_eq, frcHW_eq] at h
    refine (wexec_ok hm hn hO hcw b h).mono fun x tm' H' hx => ?_
    cases x with
    | normal =>
      obtain ⟨s', k1, k2, k3⟩ := hx
      exact ⟨s', k1, k2, k3.fg⟩
    | exit id => exact hx
    | ret => exact hx
  | .exit id, kn, kx, kr, tm, H, h => fun a W sn ι Q hg hR ht hQ => by
    exact wp_exit (hQ (.exit id) tm H a W sn ι h (Stq.refl hR) ht rfl)
  | .ret, kn, kx, kr, tm, H, h => fun a W sn ι Q hg hR ht hQ => by
    exact wp_ret (hQ .ret tm H a W sn ι h (Stq.refl hR) ht rfl)
  | .rangeFunc .., kn, kx, kr, tm, H, h => (h : False).elim
  | .scope .., kn, kx, kr, tm, H, h => (h : False).elim
  | .label .., kn, kx, kr, tm, H, h => (h : False).elim
  | .goto .., kn, kx, kr, tm, H, h => (h : False).elim
  | .refuse .., kn, kx, kr, tm, H, h => (h : False).elim
/-- Code without loops: the interpreter itself comes to what was found. -/
theorem wexecF_ok {fuel : Nat} {cw : CW} (hcw : CWok P orc cw) : ∀ (c : Code) {kn : Tr → AHeap → Prop} {kx : Nat → Tr → AHeap → Prop} {kr : Tr → AHeap → Prop} {tm : Tr} {H : AHeap},
    wexec P gl orc cw noLoop c kn kx kr tm H → ∃ x tm' H', aexec P gl orc fuel c tm H = some (x, tm', H') ∧ finP kn kx kr x tm' H'
  | .skip, kn, kx, kr, tm, H, h => ⟨.normal, tm, H, rfl, h⟩
  | .region id ops draw, kn, kx, kr, tm, H, h => by
    cases draw with
    | true =>
      replace h : drawW P gl orc cw ops.toList tm H kn := h
      obtain ⟨tm', H', h1, h⟩ := drawW_ok P gl orc cw hcw h
      exact ⟨.normal, tm', H', by simp only [aexec, if_true, h1], h⟩
    | false =>
      replace h : seqW P gl orc cw ops.toList ops.toList tm H kn := h
      obtain ⟨tm', H', h1, h⟩ := seqW_ok P gl orc cw hcw h
      exact ⟨.normal, tm', H', by simp only [aexec, Bool.false_eq_true, if_false, h1], h⟩
  | .seq c d, kn, kx, kr, tm, H, h => by
    replace h : wexec P gl orc cw noLoop c (fun tm H => wexec P gl orc cw noLoop d kn kx kr tm H) kx kr tm H := h
    obtain ⟨x, tm1, H1, h1, h⟩ := wexecF_ok (fuel := fuel) hcw c h
    cases x with
    | normal =>
      obtain ⟨x2, tm2, H2, h2, h⟩ := wexecF_ok (fuel := fuel) hcw d (show wexec P gl orc cw noLoop d kn kx kr tm1 H1 from h)
      exact ⟨x2, tm2, H2, by simp only [aexec, h1, h2], h⟩
    | exit id => exact ⟨.exit id, tm1, H1, by simp only [aexec, h1], h⟩
    | ret => exact ⟨.ret, tm1, H1, by simp only [aexec, h1], h⟩
  | .cond e c d, kn, kx, kr, tm, H, h => by
    replace h : (onO (aeval gl tm e) fun v => match v with
      | .bool t => (t = true → wexec P gl orc cw noLoop c kn kx kr tm H) ∧ (t = false → wexec P gl orc cw noLoop d kn kx kr tm H)
      | _ => False) := h
    obtain ⟨v, hv, h⟩ := onO_some h
    split at h
    · rename_i t
      cases t with
      | true => obtain ⟨x, tm1, H1, h1, h⟩ := wexecF_ok (fuel := fuel) hcw c (h.1 rfl); exact ⟨x, tm1, H1, by simp only [aexec, hv, h1], h⟩
      | false => obtain ⟨x, tm1, H1, h1, h⟩ := wexecF_ok (fuel := fuel) hcw d (h.2 rfl); exact ⟨x, tm1, H1, by simp only [aexec, hv, h1], h⟩
    · exact h.elim
  | .block id b, kn, kx, kr, tm, H, h => by
    replace h : wexec P gl orc cw noLoop b kn (fun id' tm H => match Nat.beq id' id with | true => kn tm H | false => kx id' tm H) kr tm H := h
    obtain ⟨x, tm1, H1, h1, h⟩ := wexecF_ok (fuel := fuel) hcw b h
    cases x with
    | normal => exact ⟨.normal, tm1, H1, by simp only [aexec, h1], h⟩
    | ret => exact ⟨.ret, tm1, H1, by simp only [aexec, h1], h⟩
    | exit id' =>
      have h : (match Nat.beq id' id with | true => kn tm1 H1 | false => kx id' tm1 H1) := h
      cases hb : Nat.beq id' id with
      | true => rw [hb] at h; exact ⟨.normal, tm1, H1, by simp only [aexec, h1, hb, if_true], h⟩
      | false => rw [hb] at h; exact ⟨.exit id', tm1, H1, by simp only [aexec, h1, hb, Bool.false_eq_true, if_false], h⟩
  | .loop b, kn, kx, kr, tm, H, h => (h : False).elim
  | .exit id, kn, kx, kr, tm, H, h => ⟨.exit id, tm, H, rfl, h⟩
  | .ret, kn, kx, kr, tm, H, h => ⟨.ret, tm, H, rfl, h⟩
  | .rangeFunc .., kn, kx, kr, tm, H, h => (h : False).elim
  | .scope .., kn, kx, kr, tm, H, h => (h : False).elim
  | .label .., kn, kx, kr, tm, H, h => (h : False).elim
  | .goto .., kn, kx, kr, tm, H, h => (h : False).elim
  | .refuse .., kn, kx, kr, tm, H, h => (h : False).elim
end code
end Go.Abs

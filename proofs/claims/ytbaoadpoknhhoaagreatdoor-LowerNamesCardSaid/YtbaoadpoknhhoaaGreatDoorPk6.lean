/-
  Texts of this proof, one behind the other (part 6).
-/
import Derived.Test.YtbaoadpoknhhoaaGreatDoorPk5
import Derived.RangeFuncRecord
import Derived.RangeFuncIn
import Derived.ChangeReads
import Derived.ChangeArms
import Derived.Test.YtbaoadpoknhhoaaGreatDoorRows
import Derived.KernelRfl
import Derived.Sort.KeysCollected
import Derived.Maps.OwnSet
set_option linter.unusedVariables false
set_option linter.unusedSimpArgs false

section
namespace Go.Abs
open Go.RowKit
structure Stq (k : Nat) (sn : Z0d) (ι : Z0a) (H : Z00) (W : World) (sn' : Z0d) (ι' : Z0a) (H' : Z00) (W' : World) : Prop where
 rel : R sn' ι' H' W'
 le : ∀ a v, sn a = some v -> sn' a = some v
 fresh : ∀ (b : Nat) (o : AObj) p, H'[b]? = some o -> o.alive = true -> ι' b = some p -> W.heap.size <= p.blk \/ ∃ (b0 : Nat) (o0 : AObj) (p0 : Place), H[b0]? = some o0 /\ o0.alive = true /\ ι b0 = some p0 /\ p0.blk = p.blk
 frame : ∀ c, c < W.heap.size -> (∀ (b : Nat) (o : AObj) p, H[b]? = some o -> o.alive = true -> ι b = some p -> p.blk ≠ c) -> W'.heap[c]? = W.heap[c]?
 size : W.heap.size <= W'.heap.size
 os : W'.os = W.os
 tape : W'.tape = W.tape
 output : W'.output = W.output
 sfresh : ∀ a v, sn' a = some v -> sn a = some v \/ W.heap.size <= a.block \/ ∃ (b0 : Nat) (o0 : AObj) (p0 : Place), H[b0]? = some o0 /\ o0.alive = true /\ ι b0 = some p0 /\ p0.blk = a.block
 keep : ∀ b p, b < k -> ι b = some p -> ι' b = some p
theorem Stp.q {k : Nat} {sn sn' : Z0d} {ι ι' : Z0a} {H H' : Z00} {W W' : World} (h0 : R sn ι H W) (h : Stp sn ι H W sn' ι' H' W') : Stq k sn ι H W sn' ι' H' W' := by
 refine ⟨h.rel, h.le.sn, fun b o p hb ha hp => ?_, h.frame, h.size, h.os, h.tape, h.output, h.sfresh, fun b p _ hp => h.le.ι b p hp⟩
 rcases h.fresh b p hp with h1 | h1 | h1
 · have hbl : b < H.length := (h0.dom b).2 ⟨p, h1⟩
   have hg : H[b]? = some H[b] := List.getElem?_eq_getElem hbl
   obtain ⟨o', e1, _, _, e4⟩ := h.evo b _ hg
   rw [hb] at e1; simp at e1; subst e1
   exact .inr ⟨b, _, p, hg, e4 ha, h1, rfl⟩
 · exact .inl h1
 · exact .inr h1
theorem Stq.refl {k : Nat} {sn : Z0d} {ι : Z0a} {H : Z00} {W : World} (h : R sn ι H W) : Stq k sn ι H W sn ι H W := (Stp.refl h).q h
theorem Stq.trans {n : Nat} {sn sn1 sn2 : Z0d} {ι ι1 ι2 : Z0a} {H H1 H2 : Z00} {W W1 W2 : World} (h : Stq n sn ι H W sn1 ι1 H1 W1) (k : Stq n sn1 ι1 H1 W1 sn2 ι2 H2 W2) : Stq n sn ι H W sn2 ι2 H2 W2 := by
 have via : ∀ c, (W1.heap.size <= c \/ ∃ (b0 : Nat) (o0 : AObj) (p0 : Place), H1[b0]? = some o0 /\ o0.alive = true /\ ι1 b0 = some p0 /\ p0.blk = c) ->
   W.heap.size <= c \/ ∃ (b0 : Nat) (o0 : AObj) (p0 : Place), H[b0]? = some o0 /\ o0.alive = true /\ ι b0 = some p0 /\ p0.blk = c := by
  rintro c (h1 | ⟨b1, o1, p1, g1, g2, g3, rfl⟩)
  · exact .inl (Nat.le_trans h.size h1)
  · exact h.fresh b1 o1 p1 g1 g2 g3
 refine ⟨k.rel, fun a v e => k.le a v (h.le a v e), fun b o p hb ha hp => via _ (k.fresh b o p hb ha hp), fun c hc hno => ?_, Nat.le_trans h.size k.size, k.os.trans h.os, k.tape.trans h.tape, k.output.trans h.output, fun a v hv => ?_, fun b p hb hp => k.keep b p hb (h.keep b p hb hp)⟩
 · rw [k.frame c (by have := h.size; omega), h.frame c hc hno]
   intro b o p hb ha hp e
   rcases h.fresh b o p hb ha hp with h1 | ⟨b0, o0, p0, e1, e2, e3, e4⟩
   · omega
   · exact hno b0 o0 p0 e1 e2 e3 (by omega)
 · rcases k.sfresh a v hv with h1 | h1
   · exact h.sfresh a v h1
   · exact .inr (via _ h1)
def iot (m : List Nat) (ι : Z0a) : Z0a := fun b => match m[b]? with | some j => ι j | none => none
def Wk (m : List Nat) (u u2 : AV) : Prop := ∀ sn ι v, VR sn ι u v -> VR sn (iot m ι) u2 v
theorem Wk.noref {m : List Nat} {u : AV} (h : Z12 u [] = []) : Wk m u u := fun sn ι v hv => Z1t u [] v (fun b hb => by rw [h] at hb; cases hb) hv
theorem Wk.int {m : List Nat} {k : IntKind} {a b : Int} (h : a = b) : Wk m (.int k a) (.int k b) := by subst h; exact Wk.noref rfl
theorem Wk.bool {m : List Nat} {a b : Bool} (h : a = b) : Wk m (.bool a) (.bool b) := by subst h; exact Wk.noref rfl
theorem Wk.ptr {m : List Nat} {b b2 off off2 : Nat} (h : m[b2]? = some b) (e : off = off2) : Wk m (.ptr b off) (.ptr b2 off2) := by
 subst e
 intro sn ι v hv
 obtain ⟨p, h1, h2⟩ := hv.ptr
 simp only [VR]; exact ⟨p, by simp only [iot, h]; exact h1, h2⟩
theorem Wk.map {m : List Nat} {b b2 : Nat} (h : m[b2]? = some b) : Wk m (.map b) (.map b2) := by
 intro sn ι v hv
 obtain ⟨p, h1, h2⟩ := hv.map
 simp only [VR]; exact ⟨p, by simp only [iot, h]; exact h1, h2⟩
theorem Wk.slice {m : List Nat} {b b2 off off2 len len2 c c2 z z2 : Nat} (h : m[b2]? = some b) (eo : off = off2) (el : len = len2) (h1 : len2 <= c2) (h2 : c2 <= c) (ez : z = z2) : Wk m (.slice b off len c z) (.slice b2 off2 len2 c2 z2) := by
 subst eo; subst el; subst ez
 intro sn ι v hv
 obtain ⟨p, a, cap', g1, rfl, g2, g3, g4⟩ := hv.slice
 simp only [VR]; exact ⟨p, a, cap', by simp only [iot, h]; exact g1, rfl, h1, by omega, g4⟩
def WkL (m : List Nat) : List AV -> List AV -> Prop
 | [], [] => True
 | a :: l, b :: l2 => Wk m a b /\ WkL m l l2
 | _, _ => False
theorem WkL.lr {m : List Nat} {sn : Z0d} {ι : Z0a} : ∀ {l l2 : List AV} {vs : List Value}, WkL m l l2 -> LR sn ι l vs -> LR sn (iot m ι) l2 vs
 | [], [], vs, h, hv => by simpa [LR] using hv
 | a :: l, b :: l2, vs, h, hv => by
  simp only [LR] at hv ⊢
  obtain ⟨d, ds, rfl, h1, h2⟩ := hv
  exact ⟨d, ds, rfl, h.1 _ _ _ h1, WkL.lr h.2 h2⟩
 | [], _ :: _, vs, h, hv => h.elim
 | _ :: _, [], vs, h, hv => h.elim
theorem Wk.func {m : List Nat} {fn : Fn} {f f2 c c2 : List AV} (h : WkL m f f2) (k : WkL m c c2) : Wk m (.func fn f c) (.func fn f2 c2) := by
 intro sn ι v hv
 obtain ⟨x, y, rfl, h1, h2⟩ := hv.func
 simp only [VR]; exact ⟨x, y, rfl, h.lr h1, k.lr h2⟩
def Zlq (m : List Nat) (t t2 : Tr) : Prop := (∀ n u2, Z0I t2 n = some u2 -> ∃ u, Z0I t n = some u /\ Wk m u u2) /\ ∀ n, tex t2 n = true -> tex t n = true
def Zcb : (Nat -> Option AV) -> Tr -> Tr
 | _, .leaf => .leaf
 | g, .node x l r => .node (match x with | some _ => some (g 0) | none => none) (Zcb (fun i => g (Nat.add (Nat.mul 2 i) 1)) l) (Zcb (fun i => g (Nat.add (Nat.mul 2 i) 2)) r)
theorem Z5G : ∀ (t : Tr) (g : Nat -> Option AV) (n : Nat) (u : AV), Z0I (Zcb g t) n = some u -> g n = some u
 | .leaf, g, n, u, h => by simp [Zcb, Z0I] at h
 | .node x l r, g, 0, u, h => by cases x <;> simp [Zcb, Z0I] at h; exact h
 | .node x l r, g, n + 1, u, h => by
  simp only [Zcb, Z0I] at h
  split at h
  · rename_i hn
    have := Z5G l _ _ u h
    have hn' : n % 2 = 0 := hn
    have e : Nat.add (Nat.mul 2 (Nat.div n 2)) 1 = n + 1 := by show 2 * (n / 2) + 1 = n + 1; omega
    rw [e] at this; exact this
  · rename_i hn
    have := Z5G r _ _ u h
    have hn' : ¬ n % 2 = 0 := hn
    have e : Nat.add (Nat.mul 2 (Nat.div n 2)) 2 = n + 1 := by show 2 * (n / 2) + 2 = n + 1; omega
    rw [e] at this; exact this
theorem Z8k : ∀ (t : Tr) (g : Nat -> Option AV) (n : Nat), tex (Zcb g t) n = tex t n
 | .leaf, g, n => rfl
 | .node x l r, g, 0 => by cases x <;> rfl
 | .node x l r, g, n + 1 => by
  simp only [Zcb, tex]
  split <;> exact Z8k _ _ _
def ZcO : Tr -> Tr -> Bool
 | .leaf, _ => true
 | .node x l r, .node y l2 r2 => (match x, y with | some _, none => false | _, _ => true) && (ZcO l l2 && ZcO r r2)
 | .node .., .leaf => false
theorem Z84 : ∀ {t t2 : Tr}, ZcO t t2 = true -> ∀ n, tex t n = true -> tex t2 n = true
 | .leaf, t2, h, n, e => by simp [tex] at e
 | .node x l r, .node y l2 r2, h, 0, e => by
  simp only [ZcO, Bool.and_eq_true] at h
  cases x with
  | none => simp [tex] at e
  | some x => cases y with
   | none => simp at h
   | some y => rfl
 | .node x l r, .node y l2 r2, h, n + 1, e => by
  simp only [ZcO, Bool.and_eq_true] at h
  simp only [tex] at e ⊢
  split at e
  · exact Z84 h.2.1 _ e
  · exact Z84 h.2.2 _ e
 | .node .., .leaf, h, n, e => by simp [ZcO] at h
def SlotsGe (m : List Nat) (t : Tr) : List (Nat × AV) -> Prop
 | [] => True
 | (n, u2) :: l => (onO (Z0I t n) fun u => Wk m u u2) /\ SlotsGe m t l
theorem SlotsGe.get {m : List Nat} {t : Tr} : ∀ {l : List (Nat × AV)}, SlotsGe m t l -> ∀ n u2, Z0S n l = some u2 -> ∃ u, Z0I t n = some u /\ Wk m u u2
 | [], h, n, u2, e => by simp [Z0S] at e
 | (k, v) :: l, h, n, u2, e => by
  simp only [Z0S] at e
  split at e
  · rename_i hk
    have := Nat.eq_of_beq_eq_true hk; subst this
    simp at e; subst e
    exact Z01 h.1
  · exact h.2.get n u2 e
def EGe (m : List Nat) : List (AV × AV × Nat) -> List (AV × AV × Nat) -> Prop
 | [], [] => True
 | (k, v, n) :: l, (k2, v2, n2) :: l2 => Wk m k k2 /\ Wk m v v2 /\ n = n2 /\ EGe m l l2
 | _, _ => False
theorem EGe.er {m : List Nat} {sn : Z0d} {ι : Z0a} : ∀ {l l2 : List (AV × AV × Nat)} {es : List MapEntry}, EGe m l l2 -> ER sn ι l es -> ER sn (iot m ι) l2 es
 | [], [], es, h, e => by simpa [ER] using e
 | (k, v, n) :: l, (k2, v2, n2) :: l2, es, h, e => by
  obtain ⟨h1, h2, rfl, h4⟩ := h
  simp only [ER] at e ⊢
  obtain ⟨x, l', rfl, g1, g2, g3, g4⟩ := e
  exact ⟨x, l', rfl, h1 _ _ _ g1, h2 _ _ _ g2, g3, h4.er g4⟩
 | [], _ :: _, es, h, e => h.elim
 | _ :: _, [], es, h, e => h.elim
def TSGe (m : List Nat) : List (Nat × AV) -> List (Nat × AV) -> Prop
 | [], [] => True
 | x :: l, y :: l2 => x.1 = y.1 /\ Wk m x.2 y.2 /\ TSGe m l l2
 | _, _ => False
theorem TSGe.tsr {m : List Nat} {sn : Z0d} {ι : Z0a} {a : Array Value} : ∀ {l l2 : List (Nat × AV)}, TSGe m l l2 -> TSR sn ι l a -> TSR sn (iot m ι) l2 a
 | [], [], _, _ => trivial
 | x :: l, y :: l2, ⟨h1, h2, h3⟩, ⟨⟨v, e1, e2⟩, e3⟩ => ⟨⟨v, h1 ▸ e1, h2 _ _ _ e2⟩, h3.tsr e3⟩
 | [], _ :: _, h, _ => h.elim
 | _ :: _, [], h, _ => h.elim
def BodyGe (m : List Nat) : ABody -> ABody -> Prop
 | .cells cs ty, .cells cs2 ty2 => ty = ty2 /\ cs2.length <= cs.length /\ ∀ (i : Nat) (c2 : AV), cs2[i]? = some c2 -> ∃ c, cs[i]? = some c /\ Wk m c c2
 | .map es c, .map es2 c2 => c = c2 /\ EGe m es es2
 | .siter s p, .siter s2 p2 => s = s2 /\ p = p2
 | .loop g ts, .loop g2 ts2 => g = g2 /\ TSGe m ts ts2
 | _, _ => False
theorem BodyGe.pre {m : List Nat} {cs cs2 rest : List AV} {ty : TypeId} (e : cs = cs2 ++ rest) (h : refsL cs2 [] = []) : BodyGe m (.cells cs ty) (.cells cs2 ty) := by
 subst e
 refine ⟨rfl, by simp, fun i c hc => ⟨c, ?_, fun sn ι v hv => ?_⟩⟩
 · rw [List.getElem?_append_left (List.getElem?_eq_some_iff.1 hc).1]; exact hc
 · have key : ∀ (l : List AV), refsL l [] = [] -> ∀ (i : Nat) (c : AV), l[i]? = some c -> ∀ b, b ∈ Z12 c [] -> False := by
    intro l
    induction l with
    | nil => intro _ i c hc; simp at hc
    | cons x l ih =>
     intro hl i c hc b hb
     have hx : ∀ y, y ∈ Z12 x (refsL l []) -> False := fun y hy => by simp only [refsL] at hl; rw [hl] at hy; cases hy
     have hl' : refsL l [] = [] := by
      rw [List.eq_nil_iff_forall_not_mem]; intro y hy; exact hx y (Z1u x _ y hy)
     cases i with
     | zero => simp at hc; subst hc; rw [hl'] at hx; exact hx b hb
     | succ i => exact ih hl' i c (by simpa using hc) b hb
   exact Z1t c [] v (fun b hb => (key cs2 h i c hc b hb).elim) hv
theorem BodyGe.cellsL {m : List Nat} {cs cs2 : List AV} {ty : TypeId} (h : WkL m cs cs2) : BodyGe m (.cells cs ty) (.cells cs2 ty) := by
 refine ⟨rfl, ?_, ?_⟩
 · have : ∀ (l l2 : List AV), WkL m l l2 -> l2.length <= l.length := by
    intro l
    induction l with
    | nil => intro l2 h; cases l2 with | nil => simp | cons _ _ => exact h.elim
    | cons x l ih => intro l2 h; cases l2 with | nil => exact h.elim | cons _ _ => simp; exact ih _ h.2
   exact this _ _ h
 · have : ∀ (l l2 : List AV), WkL m l l2 -> ∀ (i : Nat) (c2 : AV), l2[i]? = some c2 -> ∃ c, l[i]? = some c /\ Wk m c c2 := by
    intro l
    induction l with
    | nil => intro l2 h i c2 hc; cases l2 with | nil => simp at hc | cons _ _ => exact h.elim
    | cons x l ih =>
     intro l2 h i c2 hc
     cases l2 with
     | nil => exact h.elim
     | cons y l2 => cases i with
      | zero => simp at hc; subst hc; exact ⟨x, rfl, h.1⟩
      | succ i => simpa using ih _ h.2 i c2 (by simpa using hc)
   exact this _ _ h
theorem BodyGe.or {m : List Nat} {sn : Z0d} {ι : Z0a} {W : World} {p : Place} : ∀ {b b2 : ABody}, BodyGe m b b2 -> OR sn ι W b p -> OR sn (iot m ι) W b2 p
 | .cells cs ty, .cells cs2 ty2, h, e => by
  obtain ⟨rfl, h1, h2⟩ := h
  simp only [OR] at e ⊢
  obtain ⟨arr, g1, g2, g3, g4⟩ := e
  refine ⟨arr, g1, g2, by omega, fun i c2 hc => ?_⟩
  obtain ⟨c, e1, e2⟩ := h2 i c2 hc
  obtain ⟨v, e3, e4⟩ := g4 i c e1
  exact ⟨v, e3, e2 _ _ _ e4⟩
 | .map es c, .map es2 c2, h, e => by
  obtain ⟨rfl, h1⟩ := h
  simp only [OR] at e ⊢
  obtain ⟨mes, g1, g2⟩ := e
  exact ⟨mes, g1, h1.er g2⟩
 | .siter s q, .siter s2 q2, h, e => by
  obtain ⟨rfl, rfl⟩ := h
  simpa only [OR] using e
 | .loop g ts, .loop g2 ts2, h, e => by
  obtain ⟨rfl, h2⟩ := h
  simp only [OR] at e ⊢
  obtain ⟨r, g1, g2, g3, g4⟩ := e
  exact ⟨r, g1, g2, g3, h2.tsr g4⟩
 | .cells _ _, .loop _ _, h, _ => h.elim
 | .map _ _, .loop _ _, h, _ => h.elim
 | .siter _ _, .loop _ _, h, _ => h.elim
 | .loop _ _, .cells _ _, h, _ => h.elim
 | .loop _ _, .map _ _, h, _ => h.elim
 | .loop _ _, .siter _ _, h, _ => h.elim
 | .cells _ _, .map _ _, h, _ => h.elim
 | .cells _ _, .siter _ _, h, _ => h.elim
 | .map _ _, .cells _ _, h, _ => h.elim
 | .map _ _, .siter _ _, h, _ => h.elim
 | .siter _ _, .cells _ _, h, _ => h.elim
 | .siter _ _, .map _ _, h, _ => h.elim
def HpGe (H : Z00) (m : List Nat) : List Nat -> Z00 -> Nat -> Prop
 | [], [], _ => True
 | j :: l, o2 :: H2, i => (onO H[j]? fun o => o.alive = true /\ o2.alive = true /\ o2.fam = i /\ o2.sh = o.sh /\ BodyGe m o.body o2.body) /\ HpGe H m l H2 (i + 1)
 | _, _, _ => False
theorem HpGe.get {H : Z00} {m : List Nat} : ∀ {l : List Nat} {H2 : Z00} {i : Nat}, HpGe H m l H2 i -> H2.length = l.length /\ ∀ b, b < l.length -> ∃ j o o2, l[b]? = some j /\ H[j]? = some o /\ H2[b]? = some o2 /\ o.alive = true /\ o2.alive = true /\ o2.fam = i + b /\ o2.sh = o.sh /\ BodyGe m o.body o2.body
 | [], [], i, h => ⟨rfl, fun b hb => by simp at hb⟩
 | j :: l, o2 :: H2, i, h => by
  obtain ⟨h1, h2⟩ := h
  obtain ⟨o, ho, e1, e2, e3, e4, e5⟩ := Z01 h1
  obtain ⟨k1, k2⟩ := h2.get
  refine ⟨by simp [k1], fun b hb => ?_⟩
  cases b with
  | zero => exact ⟨j, o, o2, rfl, ho, rfl, e1, e2, e3, e4, e5⟩
  | succ b =>
   obtain ⟨j', o', o2', x1, x2, x3, x4, x5, x6, x7, x8⟩ := k2 b (by simpa using hb)
   exact ⟨j', o', o2', by simpa using x1, x2, by simpa using x3, x4, x5, by omega, x7, x8⟩
 | [], _ :: _, i, h => h.elim
 | _ :: _, [], i, h => h.elim
def Z3J (H : Z00) (j : Nat) : Nat := match H[j]? with | some o => o.fam | none => 0
def Z1B : List Nat -> Bool
 | [] => true
 | n :: l => !(mem n l) && Z1B l
theorem Z4W : ∀ {l : List Nat} {i j : Nat} {x : Nat}, Z1B l = true -> l[i]? = some x -> l[j]? = some x -> i = j
 | [], i, j, x, h, hi, hj => by simp at hi
 | n :: l, i, j, x, h, hi, hj => by
  simp only [Z1B, Bool.and_eq_true, Bool.not_eq_true'] at h
  have nm : ∀ k, l[k]? = some n -> False := fun k hk => by
   have : mem n l = true := mem_iff.2 (List.mem_of_getElem? hk)
   rw [h.1] at this; cases this
  cases i with
  | zero => cases j with
   | zero => rfl
   | succ j => simp at hi hj; subst hi; exact (nm j hj).elim
  | succ i => cases j with
   | zero => simp at hi hj; subst hj; exact (nm i hi).elim
   | succ j => simp at hi hj; rw [Z4W h.2 hi hj]
def Zfi : Nat -> Nat -> List Nat -> Bool
 | 0, _, _ => true
 | k + 1, i, j :: m => Nat.beq j i && Zfi k (i + 1) m
 | _ + 1, _, [] => false
theorem Zb6 : ∀ {k i : Nat} {m : List Nat}, Zfi k i m = true -> ∀ b, b < k -> m[b]? = some (i + b)
 | 0, i, m, h, b, hb => by omega
 | k + 1, i, [], h, b, hb => by simp [Zfi] at h
 | k + 1, i, j :: m, h, b, hb => by
  simp only [Zfi, Bool.and_eq_true] at h
  have := Nat.eq_of_beq_eq_true h.1; subst this
  cases b with
  | zero => simp
  | succ b => have := Zb6 h.2 b (by omega); simp only [List.getElem?_cons_succ, this]; congr 1; omega
structure Fg (k : Nat) (m : List Nat) (tm : Tr) (H : Z00) (tm2 : Tr) (H2 : Z00) : Prop where
 tr : Zlq m tm tm2
 hp : HpGe H m m H2 0
 fams : Z1B (m.map (Z3J H)) = true
 kp : Zfi k 0 m = true
theorem Fg.sound {k : Nat} {m : List Nat} {tm tm2 : Tr} {H H2 : Z00} (h : Fg k m tm H tm2 H2) {sn : Z0d} {ι : Z0a} {W : World} {a : Act} (hR : R sn ι H W) (ht : TRel sn ι tm a) : Stq k sn ι H W sn (iot m ι) H2 W /\ TRel sn (iot m ι) tm2 a := by
 obtain ⟨hl, hg⟩ := h.hp.get
 have at2 : ∀ {b : Nat} {o2 : AObj} {p : Place}, H2[b]? = some o2 -> iot m ι b = some p -> ∃ j o, m[b]? = some j /\ H[j]? = some o /\ ι j = some p /\ o.alive = true /\ o2.alive = true /\ o2.fam = b /\ o2.sh = o.sh /\ BodyGe m o.body o2.body := by
  intro b o2 p hb hp
  obtain ⟨j, o, o2', x1, x2, x3, x4, x5, x6, x7, x8⟩ := hg b (by rw [<- hl]; exact (List.getElem?_eq_some_iff.1 hb).1)
  rw [hb] at x3; simp at x3; subst x3
  simp only [iot, x1] at hp
  exact ⟨j, o, x1, x2, hp, x4, x5, by omega, x7, x8⟩
 have hR2 : R sn (iot m ι) H2 W := by
  refine ⟨fun b => ⟨fun hb => ?_, fun ⟨p, hp⟩ => ?_⟩, fun b p hp => ?_, fun b o2 p hb ha hp => ?_, fun b b' o o' p p' hb hb' ha ha' hp hp' e => ?_, fun ad v hv => ?_, fun b o2 p hb hp e => ?_⟩
  · obtain ⟨j, o, o2, x1, x2, _⟩ := hg b (by omega)
    obtain ⟨p, hp⟩ := hR.place x2
    exact ⟨p, by simp only [iot, x1]; exact hp⟩
  · unfold iot at hp
    split at hp
    · rename_i j hj; rw [hl]; exact (List.getElem?_eq_some_iff.1 hj).1
    · cases hp
  · unfold iot at hp
    split at hp
    · exact hR.blk _ p hp
    · cases hp
  · obtain ⟨j, o, x1, x2, x3, x4, x5, x6, x7, x8⟩ := at2 hb hp
    exact x8.or (hR.obj j o p x2 x4 x3)
  · obtain ⟨j, q, x1, x2, x3, x4, x5, x6, x7, x8⟩ := at2 hb hp
    obtain ⟨j', q', y1, y2, y3, y4, y5, y6, y7, y8⟩ := at2 hb' hp'
    have hs := hR.sep j j' q q' p p' x2 y2 x4 y4 x3 y3 e
    have : b = b' := Z4W (l := m.map (Z3J H)) (x := q.fam) h.fams (by simp [x1, Z3J, x2]) (by simp [y1, Z3J, y2, hs.1])
    subst this
    exact ⟨by rw [x6, y6], by rw [x7, y7]; exact hs.2⟩
  · obtain ⟨h1, h2, h3⟩ := hR.snap ad v hv
    refine ⟨h1, h2, fun b o2 p hb ha hp => ?_⟩
    obtain ⟨j, o, x1, x2, x3, x4, _⟩ := at2 hb hp
    exact h3 j o p x2 x4 x3
  · obtain ⟨j, o, x1, x2, x3, x4, x5, x6, x7, x8⟩ := at2 hb hp
    exact hR.shz j o p x2 x3 (by omega)
 refine ⟨⟨hR2, fun _ _ h => h, fun b o2 p hb ha hp => ?_, fun _ _ _ => rfl, Nat.le_refl _, rfl, rfl, rfl, fun _ _ h => .inl h, fun b p hb hp => by have := Zb6 h.kp b hb; simp only [Nat.zero_add] at this; simp only [iot, this]; exact hp⟩, fun t u2 hu => ?_, fun t hx => ht.2 t (h.tr.2 t hx)⟩
 · obtain ⟨j, o, x1, x2, x3, x4, _⟩ := at2 hb hp
   exact .inr ⟨j, o, p, x2, x4, x3, rfl⟩
 · obtain ⟨u, h1, h2⟩ := h.tr.1 t u2 hu
   obtain ⟨v, h3, h4⟩ := ht.1 t u h1
   exact ⟨v, h3, h2 _ _ _ h4⟩
theorem Z8o {sn sn' : Z0d} (h : ∀ a v, sn a = some v -> sn' a = some v) : Le sn sn' noI noI := ⟨h, fun _ _ h => h⟩
def FgS (k : Nat) (tm : Tr) (H : Z00) (tm2 : Tr) (H2 : Z00) : Prop :=
 ∀ (sn : Z0d) (ι : Z0a) (W : World) (a : Act), R sn ι H W -> TRel sn ι tm a -> ∃ sn' ι', Stq k sn ι H W sn' ι' H2 W /\ TRel sn' ι' tm2 a
theorem Fg.s {k : Nat} {m : List Nat} {tm tm2 : Tr} {H H2 : Z00} (h : Fg k m tm H tm2 H2) : FgS k tm H tm2 H2 := fun sn ι W a hR ht => ⟨sn, iot m ι, h.sound hR ht⟩
def FgLK (k : Nat) (t0 tm : Tr) (H : Z00) (l : List (Nat × AV)) (H2 : Z00) : Prop :=
 match ZcO t0 tm with
 | true => (∃ m, Zfi k 0 m = true /\ SlotsGe m tm l /\ HpGe H m m H2 0 /\ Z1B (m.map (Z3J H)) = true) \/ FgS k tm H (Zcb (fun n => Z0S n l) t0) H2
 | false => False
abbrev FgL := FgLK 0
theorem FgLK.fg {k : Nat} {t0 tm : Tr} {H : Z00} {l : List (Nat × AV)} {H2 : Z00} (h : FgLK k t0 tm H l H2) : FgS k tm H (Zcb (fun n => Z0S n l) t0) H2 := by
 unfold FgLK at h
 split at h
 · rename_i hs
   rcases h with ⟨m, h0, h1, h2, h3⟩ | h
   · exact Fg.s (m := m) ⟨⟨fun n u2 e => h1.get n u2 (Z5G _ _ _ _ e), fun n e => Z84 hs n (by rwa [Z8k] at e)⟩, h2, h3, h0⟩
   · exact h
 · exact h.elim
def ZhP (x : Option (Option AV)) (k : Option (Option AV) -> Prop) : Prop := match x with
 | none => k none
 | some none => k (some none)
 | some (some v) => frc1 v fun v => k (some (some v))
theorem ZfK (x : Option (Option AV)) (k : Option (Option AV) -> Prop) : ZhP x k = k x := by
 cases x with
 | none => rfl
 | some x => cases x with
  | none => rfl
  | some v => simp only [ZhP, Z0h]
def Z3U : Tr -> (Tr -> Prop) -> Prop
 | .leaf, k => k .leaf
 | .node x l r, k => ZhP x fun x => Z3U l fun l => Z3U r fun r => k (.node x l r)
theorem Z2O : ∀ (t : Tr) (k : Tr -> Prop), Z3U t k = k t
 | .leaf, k => rfl
 | .node x l r, k => by simp only [Z3U, ZfK, Z2O l, Z2O r]
def Zco (D : Nat) : Deferred := { target := .collected D, args := #[] }
def DefOK (W0 : World) (d0 : List Deferred) (ι : Z0a) (H : Z00) (W : World) (d : List Deferred) : Prop :=
 ∃ ds : List Nat, d = ds.map Zco ++ d0 /\ ds.Nodup /\ ∀ D ∈ ds, W0.heap.size <= D /\ W.heap[D]? = some (.deferred (some [])) /\ ∀ (b : Nat) (o : AObj) p, H[b]? = some o -> o.alive = true -> ι b = some p -> p.blk ≠ D
theorem DefOK.eq {W0 W : World} {d0 d : List Deferred} {ι : Z0a} {H : Z00} (h : d = d0) : DefOK W0 d0 ι H W d := ⟨[], by simp [h], List.nodup_nil, fun _ h => by cases h⟩
theorem DefOK.trans {k : Nat} {W W1 W2 : World} {d d1 d2 : List Deferred} {sn1 sn2 : Z0d} {ι1 ι2 : Z0a} {H1 H2 : Z00} (hs : W.heap.size <= W1.heap.size) (h : DefOK W d ι1 H1 W1 d1) (s : Stq k sn1 ι1 H1 W1 sn2 ι2 H2 W2) (h2 : DefOK W1 d1 ι2 H2 W2 d2) : DefOK W d ι2 H2 W2 d2 := by
 obtain ⟨ds, rfl, n1, e1⟩ := h
 obtain ⟨ds2, rfl, n2, e2⟩ := h2
 have hlt : ∀ D ∈ ds, D < W1.heap.size := fun D hD => (Array.getElem?_eq_some_iff.1 (e1 D hD).2.1).1
 refine ⟨ds2 ++ ds, by simp, ?_, fun D hD => ?_⟩
 · rw [List.nodup_append]
   refine ⟨n2, n1, fun a ha b hb e => ?_⟩
   subst e
   have := (e2 a ha).1; have := hlt a hb; omega
 · rcases List.mem_append.1 hD with hD | hD
   · obtain ⟨g1, g2, g3⟩ := e2 D hD
     exact ⟨by omega, g2, g3⟩
   · obtain ⟨g1, g2, g3⟩ := e1 D hD
     refine ⟨g1, by rw [s.frame D (hlt D hD) g3]; exact g2, fun b o p hb ha hp e => ?_⟩
     rcases s.fresh b o p hb ha hp with f1 | ⟨b0, o0, p0, f1, f2, f3, f4⟩
     · have := hlt D hD; omega
     · exact g3 b0 o0 p0 f1 f2 f3 (f4.trans e)
structure Shut (ds : List Nat) (W W' : World) : Prop where
 other : ∀ c, c ∉ ds -> W'.heap[c]? = W.heap[c]?
 size : W'.heap.size = W.heap.size
 os : W'.os = W.os
 tape : W'.tape = W.tape
 output : W'.output = W.output
theorem Stq.shut {k : Nat} {ds : List Nat} {sn sn1 : Z0d} {ι ι1 : Z0a} {H H1 : Z00} {W W1 W2 : World} (s : Stq k sn ι H W sn1 ι1 H1 W1) (hd : ∀ D ∈ ds, W.heap.size <= D /\ W1.heap[D]? = some (.deferred (some [])) /\ ∀ (b : Nat) (o : AObj) p, H1[b]? = some o -> o.alive = true -> ι1 b = some p -> p.blk ≠ D) (h : Shut ds W1 W2) : Stq k sn ι H W sn1 ι1 H1 W2 := by
 have hR := s.rel
 refine ⟨⟨hR.dom, fun b p hp => by rw [h.size]; exact hR.blk b p hp, fun b o p hb ha hp => ?_, hR.sep, fun a v hv => ?_, hR.shz⟩, s.le, s.fresh, fun c hc hno => ?_, by rw [h.size]; exact s.size, h.os.trans s.os, h.tape.trans s.tape, h.output.trans s.output, s.sfresh, s.keep⟩
 · exact Z0C (Le.refl _ _) (h.other _ fun hm => (hd _ hm).2.2 b o p hb ha hp rfl) (hR.obj b o p hb ha hp)
 · obtain ⟨g1, g2, g3⟩ := hR.snap a v hv
   refine ⟨by rw [h.size]; exact g1, ?_, g3⟩
   rw [World.cell?_of_block (h.other _ fun hm => ?_)]
   · exact g2
   · have := (hd _ hm).2.1
     unfold World.cell? at g2
     rw [this] at g2; cases g2
 · rw [h.other c fun hm => by have := (hd _ hm).1; omega]
   exact s.frame c hc hno
def Tri (P : Program) (gl : Glob) (rd : Option Nat) (k : Nat) (c : Code) (tm : Tr) (H : Z00) (Φ : AEx -> Tr -> Z00 -> Prop) : Prop :=
 ∀ (a : Act) (W : World) (sn : Z0d) (ι : Z0a) (Q : Exit -> Act -> World -> Prop), GlOK gl sn -> R sn ι H W -> TRel sn ι tm a ->
  (∀ x tm' H' a' W' sn' ι', Φ x tm' H' -> Stq k sn ι H W sn' ι' H' W' -> TRel sn' ι' tm' a' -> DefOK W a.defers ι' H' W' a'.defers -> Q (ZjV x) a' W') -> c.wpIn (Fq rd) 0 P Q a W
def ZjU (kn : Tr -> Z00 -> Prop) (kx : Nat -> Tr -> Z00 -> Prop) (kr : Tr -> Z00 -> Prop) (x : AEx) (tm : Tr) (H : Z00) : Prop := match x with
 | .normal => kn tm H
 | .exit id => kx id tm H
 | .ret => kr tm H
def Z5u (k : Nat) (body : (Tr -> Z00 -> Prop) -> Tr -> Z00 -> Prop) (tm : Tr) (H : Z00) : Prop :=
 ∃ (S : Type) (I : S -> Prop) (L : S -> List (Nat × AV)) (B : S -> Z00) (μ : S -> Nat), (∃ s, I s /\ FgLK k tm tm H (L s) (B s)) /\
  ∀ s, I s -> Z3U (Zcb (fun n => Z0S n (L s)) tm) fun tm1 => Z0O (B s) fun H1 => body (fun tm' H' => ∃ s', I s' /\ μ s' < μ s /\ FgLK k tm tm' H' (L s') (B s')) tm1 H1
abbrev KN := Tr -> Z00 -> Prop
abbrev KX := Nat -> Tr -> Z00 -> Prop
structure LH where
 lp : ((Tr -> Z00 -> Prop) -> Tr -> Z00 -> Prop) -> Tr -> Z00 -> Prop
 rf : AV -> Array Tmp -> Code -> Code -> KN -> KX -> KN -> Tr -> Z00 -> Prop
def Zl0 : AV -> Array Tmp -> Code -> Code -> KN -> KX -> KN -> Tr -> Z00 -> Prop := fun _ _ _ _ _ _ _ _ _ => False
def Z4s : LH := ⟨fun _ _ _ => False, Zl0⟩
def Z79 (k : Nat) : LH := ⟨Z5u k, Zl0⟩
abbrev Zf4 := Z79 0
noncomputable def Z1j (P : Program) (gl : Glob) (orc : Orc) (cw : CW) (lh : LH) (c : Code) : KN -> KX -> KN -> Tr -> Z00 -> Prop :=
 Code.rec (motive := fun _ => KN -> KX -> KN -> Tr -> Z00 -> Prop)
  (fun kn _ _ tm H => kn tm H)
  (fun _ ops draw kn _ _ tm H => match draw with
    | true => ZdX P gl orc cw ops.toList tm H kn
    | false => Zhd P gl orc cw ops.toList ops.toList tm H kn)
  (fun _ _ iha ihb kn kx kr tm H => iha (fun tm H => ihb kn kx kr tm H) kx kr tm H)
  (fun c _ _ iha ihb kn kx kr tm H => onO (Z1g gl tm c) fun v => match v with
    | .bool t => (t = true -> iha kn kx kr tm H) /\ (t = false -> ihb kn kx kr tm H)
    | _ => False)
  (fun id _ ih kn kx kr tm H => ih kn (fun id' tm H => match Nat.beq id' id with | true => kn tm H | false => kx id' tm H) kr tm H)
  (fun _ ih _ kx kr tm H => lh.lp (fun kn tm H => ih kn kx kr tm H) tm H)
  (fun f ps asg bd _ _ kn kx kr tm H => onO (Z1g gl tm f) fun v => lh.rf v ps asg bd kn kx kr tm H)
  (fun id _ kx _ tm H => kx id tm H)
  (fun _ _ _ _ _ _ _ => False)
  (fun _ _ _ _ _ _ => False)
  (fun _ _ _ _ _ _ => False)
  (fun _ _ kr tm H => kr tm H)
  (fun _ _ _ _ _ _ => False) c
section code
variable {P : Program} {gl : Glob} {orc : Orc} {k : Nat} {rd : Option Nat}
theorem Tri.mono {c : Code} {tm : Tr} {H : Z00} {Φ Ψ : AEx -> Tr -> Z00 -> Prop} (h : Tri P gl rd k c tm H Φ) (hk : ∀ x tm' H', Φ x tm' H' -> Ψ x tm' H') : Tri P gl rd k c tm H Ψ :=
 fun a W sn ι Q hg hR ht hQ => h a W sn ι Q hg hR ht fun x tm' H' a' W' sn' ι' hx => hQ x tm' H' a' W' sn' ι' (hk _ _ _ hx)
theorem Tri.seq {c d : Code} {tm : Tr} {H : Z00} {Φ : AEx -> Tr -> Z00 -> Prop} (h : Tri P gl rd k c tm H fun x tm1 H1 => match x with | .normal => Tri P gl rd k d tm1 H1 Φ | x => Φ x tm1 H1) : Tri P gl rd k (.seq c d) tm H Φ := by
 intro a W sn ι Q hg hR ht hQ
 refine wpIn_seq (h a W sn ι _ hg hR ht fun x tm1 H1 a1 W1 sn1 ι1 hx s1 t1 d1 => ?_)
 cases x with
 | normal =>
  show Code.wpIn (Fq rd) 0 P d Q a1 W1
  refine hx a1 W1 sn1 ι1 Q (hg.mono (Z8o s1.le)) s1.rel t1 fun x tm2 H2 a2 W2 sn2 ι2 hx2 s2 t2 d2 => ?_
  exact hQ _ _ _ _ _ _ _ hx2 (s1.trans s2) t2 (DefOK.trans s1.size d1 s2 d2)
 | exit id => exact hQ (.exit id) tm1 H1 _ _ _ _ hx s1 t1 d1
 | ret => exact hQ .ret tm1 H1 _ _ _ _ hx s1 t1 d1
theorem Tri.forget {c : Code} {tm : Tr} {H : Z00} {Φ : AEx -> Tr -> Z00 -> Prop} {tm2 : Tr} {H2 : Z00} (hf : FgS k tm H tm2 H2) (h : Tri P gl rd k c tm2 H2 Φ) : Tri P gl rd k c tm H Φ := by
 intro a W sn ι Q hg hR ht hQ
 obtain ⟨sn1, ι1, s1, t1⟩ := hf sn ι W a hR ht
 exact h a W sn1 ι1 Q (hg.mono (Z8o s1.le)) s1.rel t1 fun x tm' H' a' W' sn' ι' hx s2 t2 d2 => hQ x tm' H' a' W' sn' ι' hx (s1.trans s2) t2 d2
theorem Tri.loop {b : Code} {S : Type} {I : S -> Prop} {T : S -> Tr} {B : S -> Z00} {μ : S -> Nat} {Φ : AEx -> Tr -> Z00 -> Prop}
  (h : ∀ s, I s -> Tri P gl rd k b (T s) (B s) fun x tm' H' => match x with | .normal => ∃ s', I s' /\ μ s' < μ s /\ FgS k tm' H' (T s') (B s') | x => Φ x tm' H') {s : S} (h0 : I s) : Tri P gl rd k (.loop b) (T s) (B s) Φ := by
 have key : ∀ (n : Nat) (s : S), μ s < n -> I s -> ∀ (a : Act) (W : World) (sn : Z0d) (ι : Z0a) (Q : Exit -> Act -> World -> Prop), GlOK gl sn -> R sn ι (B s) W -> TRel sn ι (T s) a ->
   (∀ x tm' H' a' W' sn' ι', Φ x tm' H' -> Stq k sn ι (B s) W sn' ι' H' W' -> TRel sn' ι' tm' a' -> DefOK W a.defers ι' H' W' a'.defers -> Q (ZjV x) a' W') -> Code.roundsIn (Fq rd) 0 P b Q n a W := by
  intro n
  induction n with
  | zero => intro s hs; omega
  | succ n ih =>
   intro s hs hI a W sn ι Q hg hR ht hQ
   rw [roundsIn_succ]
   refine h s hI a W sn ι _ hg hR ht fun x tm1 H1 a1 W1 sn1 ι1 hx s1 t1 d1 => ?_
   cases x with
   | normal =>
    show Code.roundsIn (Fq rd) 0 P b Q n a1 W1
    obtain ⟨s', hI', hs', hf⟩ := hx
    obtain ⟨sn2, ι2, s2, t2⟩ := hf sn1 ι1 W1 a1 s1.rel t1
    refine ih s' (by omega) hI' a1 W1 sn2 ι2 Q ((hg.mono (Z8o s1.le)).mono (Z8o s2.le)) s2.rel t2 fun x tm3 H3 a3 W3 sn3 ι3 hx3 s3 t3 d3 => ?_
    exact hQ _ _ _ _ _ _ _ hx3 ((s1.trans s2).trans s3) t3 (DefOK.trans s1.size d1 (s2.trans s3) d3)
   | exit id => exact hQ (.exit id) tm1 H1 _ _ _ _ hx s1 t1 d1
   | ret => exact hQ .ret tm1 H1 _ _ _ _ hx s1 t1 d1
 intro a W sn ι Q hg hR ht hQ
 exact wpIn_loop_rounds (μ s + 1) (key (μ s + 1) s (by omega) h0 a W sn ι Q hg hR ht hQ)
def ZjZ (P : Program) (gl : Glob) (rd : Option Nat) (k : Nat) (rf : AV -> Array Tmp -> Code -> Code -> KN -> KX -> KN -> Tr -> Z00 -> Prop) : Prop :=
 ∀ f v ps asg bd kn kx kr tm H, Z1g gl tm f = some v -> rf v ps asg bd kn kx kr tm H -> Tri P gl rd k (.rangeFunc f ps asg bd) tm H (ZjU kn kx kr)
theorem Z18 {rf : AV -> Array Tmp -> Code -> Code -> KN -> KX -> KN -> Tr -> Z00 -> Prop} (hrf : ZjZ P gl rd k rf) (hm : P.follows .mixedOrders = true) (hn : NoNum P) (hO : OrcSound P gl orc) {cw : CW} (hcw : Z9T P orc cw) : ∀ (c : Code) {kn : Tr -> Z00 -> Prop} {kx : Nat -> Tr -> Z00 -> Prop} {kr : Tr -> Z00 -> Prop} {tm : Tr} {H : Z00},
  Z1j P gl orc cw ⟨Z5u k, rf⟩ c kn kx kr tm H -> Tri P gl rd k c tm H (ZjU kn kx kr)
 | .skip, kn, kx, kr, tm, H, h => fun a W sn ι Q hg hR ht hQ => by
  exact wpIn_skip (hQ .normal tm H a W sn ι h (Stq.refl hR) ht (DefOK.eq rfl))
 | .region id ops draw, kn, kx, kr, tm, H, h => fun a W sn ι Q hg hR ht hQ => by
  cases draw with
  | true =>
   replace h : ZdX P gl orc cw ops.toList tm H kn := h
   obtain ⟨tm', H', h1, h⟩ := Zbz P gl orc cw hcw h
   exact Z6O hm hn hO hg hR ht h1 (fun a' W' sn' ι' s1 t1 d1 => hQ .normal tm' H' a' W' sn' ι' h (s1.q hR) t1 (DefOK.eq d1)) id
  | false =>
   replace h : Zhd P gl orc cw ops.toList ops.toList tm H kn := h
   obtain ⟨tm', H', h1, h⟩ := Z88 P gl orc cw hcw h
   exact wpIn_region_list (Z3D hn hO ops _ _ _ _ _ _ _ _ _ h1 hg hR ht fun a' W' sn' ι' s1 t1 d1 => hQ .normal tm' H' a' W' sn' ι' h (s1.q hR) t1 (DefOK.eq d1))
 | .seq c d, kn, kx, kr, tm, H, h => by
  replace h : Z1j P gl orc cw ⟨Z5u k, rf⟩ c (fun tm H => Z1j P gl orc cw ⟨Z5u k, rf⟩ d kn kx kr tm H) kx kr tm H := h
  refine Tri.seq ((Z18 hrf hm hn hO hcw c h).mono fun x tm1 H1 hx => ?_)
  cases x with
  | normal => exact Z18 hrf hm hn hO hcw d hx
  | exit id => exact hx
  | ret => exact hx
 | .cond e c d, kn, kx, kr, tm, H, h => fun a W sn ι Q hg hR ht hQ => by
  replace h : (onO (Z1g gl tm e) fun v => match v with
   | .bool t => (t = true -> Z1j P gl orc cw ⟨Z5u k, rf⟩ c kn kx kr tm H) /\ (t = false -> Z1j P gl orc cw ⟨Z5u k, rf⟩ d kn kx kr tm H)
   | _ => False) := h
  obtain ⟨v, hv, h⟩ := Z01 h
  split at h
  · rename_i t
    have he := (Z1S hg ht _ _ hv).bool
    cases t with
    | true => exact wpIn_cond_true he (Z18 hrf hm hn hO hcw c (h.1 rfl) a W sn ι Q hg hR ht hQ)
    | false => exact wpIn_cond_false he (Z18 hrf hm hn hO hcw d (h.2 rfl) a W sn ι Q hg hR ht hQ)
  · exact h.elim
 | .block id b, kn, kx, kr, tm, H, h => fun a W sn ι Q hg hR ht hQ => by
  replace h : Z1j P gl orc cw ⟨Z5u k, rf⟩ b kn (fun id' tm H => match Nat.beq id' id with | true => kn tm H | false => kx id' tm H) kr tm H := h
  refine wpIn_block (Z18 hrf hm hn hO hcw b h a W sn ι _ hg hR ht fun x tm1 H1 a1 W1 sn1 ι1 hx s1 t1 d1 => ?_)
  cases x with
  | normal => exact hQ .normal tm1 H1 _ _ _ _ hx s1 t1 d1
  | ret => exact hQ .ret tm1 H1 _ _ _ _ hx s1 t1 d1
  | exit id' =>
   show (if id' = id then Q .normal a1 W1 else Q (.exit id') a1 W1)
   have hx : (match Nat.beq id' id with | true => kn tm1 H1 | false => kx id' tm1 H1) := hx
   by_cases e : id' = id
   · rw [if_pos e]
     subst e
     have : Nat.beq id' id' = true := by simp
     rw [this] at hx
     exact hQ .normal tm1 H1 _ _ _ _ hx s1 t1 d1
   · rw [if_neg e]
     have : Nat.beq id' id = false := by cases hb : Nat.beq id' id with | false => rfl | true => exact (e (Nat.eq_of_beq_eq_true hb)).elim
     rw [this] at hx
     exact hQ (.exit id') tm1 H1 _ _ _ _ hx s1 t1 d1
 | .loop b, kn, kx, kr, tm, H, h => by
  replace h : Z5u k (fun kn tm H => Z1j P gl orc cw ⟨Z5u k, rf⟩ b kn kx kr tm H) tm H := h
  unfold Z5u at h
  obtain ⟨S, I, L, B, μ, ⟨s, h0, hf⟩, h⟩ := h
  refine Tri.forget hf.fg (Tri.loop (I := I) (T := fun s => Zcb (fun n => Z0S n (L s)) tm) (B := B) (μ := μ) (fun s hI => ?_) h0)
  have h := h s hI
  rw [Z2O, Z06] at h
  refine (Z18 hrf hm hn hO hcw b h).mono fun x tm' H' hx => ?_
  cases x with
  | normal =>
   obtain ⟨s', k1, k2, k3⟩ := hx
   exact ⟨s', k1, k2, k3.fg⟩
  | exit id => exact hx
  | ret => exact hx
 | .exit id, kn, kx, kr, tm, H, h => fun a W sn ι Q hg hR ht hQ => by
  exact wpIn_exit (hQ (.exit id) tm H a W sn ι h (Stq.refl hR) ht (DefOK.eq rfl))
 | .ret, kn, kx, kr, tm, H, h => fun a W sn ι Q hg hR ht hQ => by
  exact wpIn_ret (hQ .ret tm H a W sn ι h (Stq.refl hR) ht (DefOK.eq rfl))
 | .rangeFunc f ps asg bd, kn, kx, kr, tm, H, h => by
  replace h : (onO (Z1g gl tm f) fun v => rf v ps asg bd kn kx kr tm H) := h
  obtain ⟨v, hv, h⟩ := Z01 h
  exact hrf f v ps asg bd kn kx kr tm H hv h
 | .scope .., kn, kx, kr, tm, H, h => (h : False).elim
 | .label .., kn, kx, kr, tm, H, h => (h : False).elim
 | .goto .., kn, kx, kr, tm, H, h => (h : False).elim
 | .refuse .., kn, kx, kr, tm, H, h => (h : False).elim
theorem ZaR (hm : P.follows .mixedOrders = true) (hn : NoNum P) (hO : OrcSound P gl orc) {cw : CW} (hcw : Z9T P orc cw) (c : Code) {kn : Tr -> Z00 -> Prop} {kx : Nat -> Tr -> Z00 -> Prop} {kr : Tr -> Z00 -> Prop} {tm : Tr} {H : Z00}
 (h : Z1j P gl orc cw (Z79 k) c kn kx kr tm H) : Tri P gl rd k c tm H (ZjU kn kx kr) := Z18 (fun _ _ _ _ _ _ _ _ _ _ _ h => h.elim) hm hn hO hcw c h
theorem Z2o {fuel : Nat} {cw : CW} (hcw : Z9T P orc cw) : ∀ (c : Code) {kn : Tr -> Z00 -> Prop} {kx : Nat -> Tr -> Z00 -> Prop} {kr : Tr -> Z00 -> Prop} {tm : Tr} {H : Z00},
  Z1j P gl orc cw Z4s c kn kx kr tm H -> ∃ x tm' H', Z0o P gl orc fuel c tm H = some (x, tm', H') /\ ZjU kn kx kr x tm' H'
 | .skip, kn, kx, kr, tm, H, h => ⟨.normal, tm, H, rfl, h⟩
 | .region id ops draw, kn, kx, kr, tm, H, h => by
  cases draw with
  | true =>
   replace h : ZdX P gl orc cw ops.toList tm H kn := h
   obtain ⟨tm', H', h1, h⟩ := Zbz P gl orc cw hcw h
   exact ⟨.normal, tm', H', by simp only [Z0o, if_true, h1], h⟩
  | false =>
   replace h : Zhd P gl orc cw ops.toList ops.toList tm H kn := h
   obtain ⟨tm', H', h1, h⟩ := Z88 P gl orc cw hcw h
   exact ⟨.normal, tm', H', by simp only [Z0o, Bool.false_eq_true, if_false, h1], h⟩
 | .seq c d, kn, kx, kr, tm, H, h => by
  replace h : Z1j P gl orc cw Z4s c (fun tm H => Z1j P gl orc cw Z4s d kn kx kr tm H) kx kr tm H := h
  obtain ⟨x, tm1, H1, h1, h⟩ := Z2o (fuel := fuel) hcw c h
  cases x with
  | normal =>
   obtain ⟨x2, tm2, H2, h2, h⟩ := Z2o (fuel := fuel) hcw d (show Z1j P gl orc cw Z4s d kn kx kr tm1 H1 from h)
   exact ⟨x2, tm2, H2, by simp only [Z0o, h1, h2], h⟩
  | exit id => exact ⟨.exit id, tm1, H1, by simp only [Z0o, h1], h⟩
  | ret => exact ⟨.ret, tm1, H1, by simp only [Z0o, h1], h⟩
 | .cond e c d, kn, kx, kr, tm, H, h => by
  replace h : (onO (Z1g gl tm e) fun v => match v with
   | .bool t => (t = true -> Z1j P gl orc cw Z4s c kn kx kr tm H) /\ (t = false -> Z1j P gl orc cw Z4s d kn kx kr tm H)
   | _ => False) := h
  obtain ⟨v, hv, h⟩ := Z01 h
  split at h
  · rename_i t
    cases t with
    | true => obtain ⟨x, tm1, H1, h1, h⟩ := Z2o (fuel := fuel) hcw c (h.1 rfl); exact ⟨x, tm1, H1, by simp only [Z0o, hv, h1], h⟩
    | false => obtain ⟨x, tm1, H1, h1, h⟩ := Z2o (fuel := fuel) hcw d (h.2 rfl); exact ⟨x, tm1, H1, by simp only [Z0o, hv, h1], h⟩
  · exact h.elim
 | .block id b, kn, kx, kr, tm, H, h => by
  replace h : Z1j P gl orc cw Z4s b kn (fun id' tm H => match Nat.beq id' id with | true => kn tm H | false => kx id' tm H) kr tm H := h
  obtain ⟨x, tm1, H1, h1, h⟩ := Z2o (fuel := fuel) hcw b h
  cases x with
  | normal => exact ⟨.normal, tm1, H1, by simp only [Z0o, h1], h⟩
  | ret => exact ⟨.ret, tm1, H1, by simp only [Z0o, h1], h⟩
  | exit id' =>
   have h : (match Nat.beq id' id with | true => kn tm1 H1 | false => kx id' tm1 H1) := h
   cases hb : Nat.beq id' id with
   | true => rw [hb] at h; exact ⟨.normal, tm1, H1, by simp only [Z0o, h1, hb, if_true], h⟩
   | false => rw [hb] at h; exact ⟨.exit id', tm1, H1, by simp only [Z0o, h1, hb, Bool.false_eq_true, if_false], h⟩
 | .loop b, kn, kx, kr, tm, H, h => (h : False).elim
 | .exit id, kn, kx, kr, tm, H, h => ⟨.exit id, tm, H, rfl, h⟩
 | .ret, kn, kx, kr, tm, H, h => ⟨.ret, tm, H, rfl, h⟩
 | .rangeFunc f ps asg bd, kn, kx, kr, tm, H, h => by
  replace h : (onO (Z1g gl tm f) fun _ => False) := h
  obtain ⟨_, _, h⟩ := Z01 h
  exact h.elim
 | .scope .., kn, kx, kr, tm, H, h => (h : False).elim
 | .label .., kn, kx, kr, tm, H, h => (h : False).elim
 | .goto .., kn, kx, kr, tm, H, h => (h : False).elim
 | .refuse .., kn, kx, kr, tm, H, h => (h : False).elim
theorem Z5h {fn : Func} {tmps : Array Value} {Q : Ending -> World -> Prop} : ∀ (ds : List Nat) (W : World), ds.Nodup -> (∀ D ∈ ds, W.heap[D]? = some (.deferred (some []))) ->
  (∀ W', Shut ds W W' -> ∃ v, (results fn tmps).run P W' = .ok v W' /\ Q (.returned v) W') -> LeavesInM (Fq none) 0 P fn tmps Q (ds.map Zco) .returning W
 | [], W, hn, hd, h => by
  obtain ⟨v, h1, h2⟩ := h W ⟨fun _ _ => rfl, rfl, rfl, rfl, rfl⟩
  exact ⟨v, h1, h2⟩
 | D :: ds, W, hn, hd, h => by
  have hn' := List.nodup_cons.1 hn
  refine ⟨by simp, .inl ⟨D, W.putObj D (.deferred none), rfl, run_takeDeferred (hd D (by simp)), ?_⟩⟩
  have hlt : D < W.heap.size := (Array.getElem?_eq_some_iff.1 (hd D (by simp))).1
  refine Z5h ds _ hn'.2 (fun E hE => ?_) fun W' hs => h W' ?_
  · rw [World.putObj_heap_other (by rintro rfl; exact hn'.1 hE)]
    exact hd E (by simp [hE])
  · refine ⟨fun c hc => ?_, by rw [hs.size]; simp, hs.os, hs.tape, hs.output⟩
    simp only [List.mem_cons, not_or] at hc
    rw [hs.other c hc.2, World.putObj_heap_other hc.1]
theorem Z5o {f : Nat} {fn : Func} {c : Code} {args : List AV} {cargs : List Value} {H0 : Z00} {W : World} {sn : Z0d} {ι : Z0a} {Φ : AEx -> Tr -> Z00 -> Prop} {Q : Ending -> World -> Prop} (hf : P.funcs[f]? = some fn) (hc : fn.body = some c)
  (h : Tri P gl none k c (tmk (Z8N args fn.ntmps args.length) (Z7e 20 fn.ntmps)) H0 Φ) (hg : GlOK gl sn) (hR : R sn ι H0 W) (ha : LR sn ι args cargs) (hx : ∀ id tm H, ¬ Φ (.exit id) tm H)
  (hq : ∀ x tm1 H1 a1 W1 sn1 ι1, Φ x tm1 H1 -> Stq k sn ι H0 W sn1 ι1 H1 W1 -> TRel sn1 ι1 tm1 a1 -> ∃ v, (results fn a1.tmps).run P W1 = .ok v W1 /\ Q (.returned v) W1) : Calls P f cargs.toArray W Q := by
 refine Z6H.1 (callsIn_of_wp_marks (F := Fq none) (n := 0) hf hc trivial (h _ W sn ι _ hg hR (Z7c ha _ _ _) fun x tm1 H1 a1 W1 sn1 ι1 hx1 s1 t1 d1 => ?_))
 have key : LeavesInM (Fq none) 0 P fn a1.tmps Q a1.defers .returning W1 := by
  obtain ⟨ds, e, n1, hd⟩ := d1
  have e : a1.defers = ds.map Zco := by rw [e]; simp
  rw [e]
  exact Z5h ds W1 n1 (fun D hD => (hd D hD).2.1) fun W2 hs => hq x tm1 H1 a1 W2 sn1 ι1 hx1 (s1.shut hd hs) t1
 cases x with
 | normal => exact key
 | ret => exact key
 | exit id => exact (hx id tm1 H1 hx1).elim
end code
end Go.Abs
end

section
namespace Go.Abs
open Go.RowKit
def Z2N (f : AV -> Option AV) : List AV -> Option (List AV)
 | [] => some []
 | c :: l => match f c, Z2N f l with | some x, some y => some (x :: y) | _, _ => none
def frz (H : Z00) : Nat -> AV -> Option AV
 | 0, _ => none
 | n + 1, u => match u with
  | .ptr b off => match H[b]? with
   | some o => match o.alive, o.body with
    | true, .cells cs _ => match Z2N (frz H n) (cs.drop off) with | some l => some (.rp l) | none => none
    | _, _ => none
   | none => none
  | .slice b off len _ z => match len with
   | 0 => some (.rs 0 z [])
   | _ + 1 => match H[b]? with
    | some o => match o.alive, o.body with
     | true, .cells cs _ => match tk (len * z) (cs.drop off) with
      | some cs => match Z2N (frz H n) cs with | some l => some (.rs len z l) | none => none
      | none => none
     | _, _ => none
    | none => none
  | .agg cs => match Z2N (frz H n) cs with | some l => some (.agg l) | none => none
  | .tuple cs => match Z2N (frz H n) cs with | some l => some (.tuple l) | none => none
  | .iface t v => match frz H n v with | some x => some (.iface t x) | none => none
  | .func fn f c => match Z2N (frz H n) f, Z2N (frz H n) c with | some f, some c => some (.func fn f c) | _, _ => none
  | .map _ => none
  | u => some u
section frz
variable {sn : Z0d} {ι : Z0a} {H : Z00} {W : World} {g : Nat}
theorem Z0z {f : AV -> Option AV} {sn' : Z0d} (hf : ∀ u r v, f u = some r -> VR sn ι u v -> VR sn' noI r v) : ∀ {l l' : List AV} {vs : List Value}, Z2N f l = some l' -> LR sn ι l vs -> LR sn' noI l' vs
 | [], l', vs, h, e => by simp [Z2N] at h; subst h; simpa [LR] using e
 | c :: l, l', vs, h, e => by
  simp only [Z2N] at h
  split at h <;> simp at h
  rename_i x y hx hy
  subst h
  simp only [LR] at e ⊢
  obtain ⟨d, ds, rfl, h1, h2⟩ := e
  exact ⟨d, ds, rfl, hf _ _ _ hx h1, Z0z hf hy h2⟩
theorem Z4u {f : AV -> Option AV} : ∀ {l l' : List AV}, Z2N f l = some l' -> l'.length = l.length /\ ∀ (i : Nat) (x : AV), l'[i]? = some x -> ∃ c, l[i]? = some c /\ f c = some x
 | [], l', h => by simp [Z2N] at h; subst h; simp
 | c :: l, l', h => by
  simp only [Z2N] at h
  split at h <;> simp at h
  rename_i x y hx hy
  subst h
  obtain ⟨h1, h2⟩ := Z4u hy
  refine ⟨by simp [h1], fun i z hz => ?_⟩
  cases i with
  | zero => simp at hz; subst hz; exact ⟨c, rfl, hx⟩
  | succ i => simpa using h2 i z (by simpa using hz)
theorem Z39 {sn : Z0d} : ∀ {us : List AV} {b o : Nat}, (∀ (i : Nat) (u : AV), us[i]? = some u -> ∃ v, sn ⟨b, o + i, none⟩ = some v /\ VR sn noI u v) -> MR sn us b o
 | [], b, o, h => by simp [MR]
 | u :: us, b, o, h => by
  simp only [MR]
  refine ⟨by simpa using h 0 u rfl, Z39 fun i x hx => ?_⟩
  have := h (i + 1) x (by simpa using hx)
  rwa [show o + (i + 1) = o + 1 + i from by omega] at this
theorem Z9j (hR : R sn ι H W) (hfr : ∀ (b : Nat) (o : AObj) p, H[b]? = some o -> o.alive = true -> ι b = some p -> g <= p.blk) :
  ∀ (n : Nat) (u r : AV) (v : Value), frz H n u = some r -> VR sn ι u v -> VR (snx sn g W) noI r v := by
 have hle : Le sn (snx sn g W) noI noI := ⟨fun a v hv => by
  unfold snx
  split
  · exact hv
  · exact (hR.snap a v hv).2.1, fun _ _ h => h⟩
 intro n
 induction n with
 | zero => intro u r v h; simp [frz] at h
 | succ n ih =>
  have cells : ∀ {b : Nat} {o : AObj} {p : Place} {cs l : List AV} {ty : TypeId} {off : Nat}, H[b]? = some o -> o.alive = true -> o.body = .cells cs ty -> ι b = some p -> Z2N (frz H n) (cs.drop off) = some l -> MR (snx sn g W) l p.blk (p.sh + off) := by
   intro b o p cs l ty off ho ha hb hp hl
   obtain ⟨_, h2⟩ := Z4u hl
   have hor := hR.obj b o p ho ha hp
   rw [hb] at hor
   simp only [OR] at hor
   obtain ⟨arr, k1, k2, k3, k4⟩ := hor
   refine Z39 fun i x hx => ?_
   obtain ⟨c, hc, hcx⟩ := h2 i x hx
   rw [List.getElem?_drop] at hc
   obtain ⟨v, e1, e2⟩ := k4 (off + i) c hc
   refine ⟨v, ?_, ih c x v hcx e2⟩
   have hge := hfr b o p ho ha hp
   unfold snx
   rw [if_neg (by show ¬ p.blk < g; omega), Z0P k1]
   rw [<- e1]; congr 1; omega
  intro u r v h hv
  unfold frz at h
  split at h
  · rename_i b off
    split at h <;> try (simp at h; done)
    rename_i o ho
    split at h <;> try (simp at h; done)
    rename_i cs ty ha hb
    split at h <;> simp at h
    rename_i l hl
    subst h
    obtain ⟨p, hp, rfl⟩ := hv.ptr
    simp only [VR]
    exact ⟨_, _, rfl, cells ho ha hb hp hl⟩
  · rename_i b off len cap z
    obtain ⟨p, a, cap', hp, rfl, h1, h2, h3⟩ := hv.slice
    split at h
    · simp at h; subst h
      simp only [VR]
      exact .inr ⟨a, cap', rfl, by omega, by simp, by simp [MR], fun h => absurd rfl h⟩
    · rename_i len
      split at h <;> try (simp at h; done)
      rename_i o ho
      split at h <;> try (simp at h; done)
      rename_i cs ty ha hb
      split at h <;> try (simp at h; done)
      rename_i cs' hcs
      split at h <;> simp at h
      rename_i l hl
      subst h
      obtain ⟨ha', _⟩ := h3 (by omega)
      subst ha'
      obtain ⟨e1, rfl⟩ := Z32 hcs
      obtain ⟨f1, f2⟩ := Z4u hl
      simp only [VR]
      refine .inr ⟨_, cap', rfl, by omega, ?_, ?_, fun _ => rfl⟩
      · rw [f1, List.length_take]; exact Nat.min_eq_left e1
      · have hor := hR.obj b o p ho ha hp
        rw [hb] at hor
        simp only [OR] at hor
        obtain ⟨arr, k1, k2, k3, k4⟩ := hor
        refine Z39 fun i x hx => ?_
        obtain ⟨c, hc, hcx⟩ := f2 i x hx
        rw [List.getElem?_take] at hc
        split at hc <;> try (simp at hc; done)
        rw [List.getElem?_drop] at hc
        obtain ⟨v, g1, g2⟩ := k4 (off + i) c hc
        refine ⟨v, ?_, ih c x v hcx g2⟩
        have hge := hfr b o p ho ha hp
        unfold snx
        rw [if_neg (by show ¬ p.blk < g; omega), Z0P k1]
        rw [<- g1]; congr 1; simp only; omega
  · split at h <;> simp at h
    rename_i l hl; subst h
    obtain ⟨d, rfl, h1⟩ := hv.agg
    exact Z3K (Z0z ih hl h1)
  · split at h <;> simp at h
    rename_i l hl; subst h
    obtain ⟨d, rfl, h1⟩ := hv.tuple
    exact Z4c (Z0z ih hl h1)
  · split at h <;> simp at h
    rename_i x hx; subst h
    obtain ⟨y, rfl, h1⟩ := hv.iface
    simp only [VR]; exact ⟨y, rfl, ih _ _ _ hx h1⟩
  · split at h <;> simp at h
    rename_i f c hf hc; subst h
    obtain ⟨x, y, rfl, h1, h2⟩ := hv.func
    simp only [VR]; exact ⟨x, y, rfl, Z0z ih hf h1, Z0z ih hc h2⟩
  · simp at h
  · rename_i e1 e2 e3 e4 e5 e6 e7
    simp at h; subst h
    cases u with
    | ptr b o => exact (e1 _ _ rfl).elim
    | slice b o l c z => exact (e2 _ _ _ _ _ rfl).elim
    | agg cs => exact (e3 _ rfl).elim
    | tuple cs => exact (e4 _ rfl).elim
    | iface t v => exact (e5 _ _ rfl).elim
    | func fn f c => exact (e6 _ _ _ rfl).elim
    | map b => exact (e7 _ rfl).elim
    | _ => exact Z0B (ι := noI) hle _ _ (Z1t (ι := ι) _ [] _ (fun b hb => by simp [Z12] at hb) hv)
end frz
def ValOK (P : Program) (gl : Glob) (f : Nat) (args : List AV) (r : AV) : Prop :=
 ∀ (sn : Z0d) (W : World) (cargs : List Value), GlOK gl sn -> R sn noI [] W -> LR sn noI args cargs ->
  Calls P f cargs.toArray W fun e W' => ∃ v, e = .returned v /\ Ext W W' /\ VR (snx sn W.heap.size W') noI r v
theorem R.none {sn : Z0d} {ι : Z0a} {H : Z00} {W : World} (h : R sn ι H W) : R sn noI [] W :=
 ⟨fun b => ⟨fun hb => by simp at hb, fun ⟨p, hp⟩ => by simp [noI] at hp⟩, fun b p hp => by simp [noI] at hp, fun b o p hb => by simp at hb, fun b b' o o' p p' hb => by simp at hb,
   fun a v hv => ⟨(h.snap a v hv).1, (h.snap a v hv).2.1, fun b o p hb => by simp at hb⟩, fun b o p hb => by simp at hb⟩
theorem Stq.ext {k : Nat} {sn sn' : Z0d} {ι' : Z0a} {H' : Z00} {W W' : World} (h : Stq k sn noI [] W sn' ι' H' W') : Ext W W' :=
 ⟨fun c hc => h.frame c hc fun b o p hb => by simp at hb, h.size, h.os, h.tape, h.output⟩
def Zgr (F : Nat -> List AV -> Option AV) : Orc := fun f args H => match F f args with | some r => some (r, H) | none => none
theorem Z4T {P : Program} {gl : Glob} {F : Nat -> List AV -> Option AV} (h : ∀ f args r, F f args = some r -> refsL args [] = [] /\ ValOK P gl f args r) : OrcSound P gl (Zgr F) := by
 intro f args H r H' hf sn ι W cargs hg hR ha
 unfold Zgr at hf
 split at hf <;> simp at hf
 rename_i r' hr
 obtain ⟨rfl, rfl⟩ := hf
 obtain ⟨h1, h2⟩ := h f args r' hr
 refine .inl ((h2 sn W cargs hg hR.none (LR_refs args [] _ (fun b hb => by rw [h1] at hb; cases hb) ha)).mono ?_)
 rintro e W' ⟨v, rfl, hx, hv⟩
 exact ⟨v, _, ι, rfl, ZbL hv, Stp.snap hR hx⟩
def Z2h (o1 o2 : Orc) : Orc := fun f args H => match o1 f args H with | some r => some r | none => o2 f args H
theorem Z0L {P : Program} {gl : Glob} {o1 o2 : Orc} (h1 : OrcSound P gl o1) (h2 : OrcSound P gl o2) : OrcSound P gl (Z2h o1 o2) := by
 intro f args H r H' hf
 unfold Z2h at hf
 split at hf
 · rename_i x hx
   simp at hf; subst hf
   exact h1 f args H r H' hx
 · exact h2 f args H r H' hf
def Z1D : List AV -> AV
 | [v] => v
 | vs => .tuple vs
def ZcF (P : Program) (gl : Glob) (orc : Orc) (isC : Nat -> Bool) : Nat -> Orc
 | 0 => orc
 | n + 1 => fun f args H => match isC f || !(Z09 P f) with | true => orc f args H | false => Z9E P gl (ZcF P gl orc isC n) 0 f args H
theorem Z1G {P : Program} {gl : Glob} {orc : Orc} {isC : Nat -> Bool} (hm : P.follows .mixedOrders = true) (hn : NoNum P) (hO : OrcSound P gl orc) : ∀ n, OrcSound P gl (ZcF P gl orc isC n)
 | 0 => hO
 | n + 1 => by
  intro f args H r H' hf
  simp only [ZcF] at hf
  split at hf
  · exact hO f args H r H' hf
  · exact Z6N (fuel := 0) hm hn (Z1G hm hn hO n) f args H r H' hf
noncomputable def ZgX (P : Program) (gl : Glob) (orc : Orc) (isC : Nat -> Bool) : Nat -> CW :=
 Nat.rec (motive := fun _ => CW) (cw0 P orc) (fun n ih g args H k => match isC g || !(Z09 P g) with
  | true => ∃ y, Z0e P orc H g args = some y /\ Z6u y.1 fun r => Z0O y.2 fun H' => k r H'
  | false => onO P.funcs[g]? fun fn => onO fn.body fun c => Z3U (tmk (Z8N args fn.ntmps args.length) (Z7e 20 fn.ntmps)) fun tm =>
   Z1j P gl (ZcF P gl orc isC n) ih Z4s c (fun tm H => onO (Z1Y P tm H fn.results.toList) fun vs => Z6u (Z1D vs) fun r => k r H) (fun _ _ _ => False) (fun tm H => onO (Z1Y P tm H fn.results.toList) fun vs => Z6u (Z1D vs) fun r => k r H) tm H)
def ZdJ (P : Program) (l : List ResultVar) (Φ : AV -> Prop) (tm : Tr) (H : Z00) : Prop := onO (Z1Y P tm H l) fun vs => ∃ r, frz H 30 (Z1D vs) = some r /\ Φ r
theorem Z3p {P : Program} {gl : Glob} {orc : Orc} {isC : Nat -> Bool} : ∀ n, Z9T P (ZcF P gl orc isC n) (ZgX P gl orc isC n)
 | 0 => Z30 P orc
 | n + 1 => by
  intro g args H k h
  replace h : (match isC g || !(Z09 P g) with
   | true => ∃ y, Z0e P orc H g args = some y /\ Z6u y.1 fun r => Z0O y.2 fun H' => k r H'
   | false => onO P.funcs[g]? fun fn => onO fn.body fun c => Z3U (tmk (Z8N args fn.ntmps args.length) (Z7e 20 fn.ntmps)) fun tm =>
    Z1j P gl (ZcF P gl orc isC n) (ZgX P gl orc isC n) Z4s c (fun tm H => onO (Z1Y P tm H fn.results.toList) fun vs => Z6u (Z1D vs) fun r => k r H) (fun _ _ _ => False) (fun tm H => onO (Z1Y P tm H fn.results.toList) fun vs => Z6u (Z1D vs) fun r => k r H) tm H) := h
  split at h
  · obtain ⟨y, h1, h2⟩ := h
    rename_i hc
    rw [Z1O, Z06] at h2
    refine ⟨y.1, y.2, ?_, h2⟩
    have ho : ZcF P gl orc isC (n + 1) g = orc g := by funext args H; simp only [ZcF, hc]
    have hy : yl (ZcF P gl orc isC (n + 1)) H g args = yl orc H g args := by unfold yl; simp only [ho]
    unfold Z0e at h1 ⊢
    rw [ho, hy]; exact h1
  · rename_i hb
    have hi : isC g = false := by cases hq : isC g with | false => rfl | true => rw [hq] at hb; simp at hb
    have hb' : Z09 P g = true := by cases hq : Z09 P g with | true => rfl | false => rw [hq] at hb; simp at hb
    obtain ⟨fn, hfn, h⟩ := Z01 h
    obtain ⟨c, hc, h⟩ := Z01 h
    rw [Z2O] at h
    unfold Z0e
    rw [if_pos hb']
    simp only [ZcF, hi, hb', Bool.not_true, Bool.or_false]
    obtain ⟨x, tm1, H1, h1, h⟩ := Z2o (fuel := 0) (Z3p n) c h
    have fin : ∀ {tm1 H1}, (onO (Z1Y P tm1 H1 fn.results.toList) fun vs => Z6u (Z1D vs) fun r => k r H1) -> ∃ us, Z1Y P tm1 H1 fn.results.toList = some us /\ k (Z1D us) H1 := fun h => by
     obtain ⟨us, e1, e2⟩ := Z01 h
     rw [Z1O] at e2
     exact ⟨us, e1, e2⟩
    have done : ∀ {us : List AV}, Z1Y P tm1 H1 fn.results.toList = some us -> (x = .normal \/ x = .ret) -> Z9E P gl (ZcF P gl orc isC n) 0 g args H = some (Z1D us, H1) := by
     intro us e hx
     unfold Z9E
     simp only [hfn, hc, frcVL_eq, Z6x, h1]
     rcases hx with rfl | rfl
     all_goals
      simp only [e]
      match us with
      | [] => rfl
      | [u] => rfl
      | u :: u' :: l => rfl
    cases x with
    | normal => obtain ⟨us, e1, e2⟩ := fin h; exact ⟨_, _, done e1 (.inl rfl), e2⟩
    | exit id => exact (h : False).elim
    | ret => obtain ⟨us, e1, e2⟩ := fin h; exact ⟨_, _, done e1 (.inr rfl), e2⟩
theorem fn_valXR {rf : AV -> Array Tmp -> Code -> Code -> KN -> KX -> KN -> Tr -> Z00 -> Prop} {Φ : AV -> Prop} {P : Program} {gl : Glob} {orc : Orc} (hrf : ZjZ P gl none 0 rf) (hm : P.follows .mixedOrders = true) (hn : NoNum P) (hO : OrcSound P gl orc) {f : Nat} {fn : Func} {c : Code} {args : List AV} {r : AV} (hΦ : ∀ r', Φ r' -> ∀ sn v, VR sn noI r' v -> VR sn noI r v)
  (hf : P.funcs[f]? = some fn) (hc : fn.body = some c)
  {cw : CW} (hcw : Z9T P orc cw)
  (h : Z3U (tmk (Z8N args fn.ntmps args.length) (Z7e 20 fn.ntmps)) fun tm => Z1j P gl orc cw ⟨Z5u 0, rf⟩ c (ZdJ P fn.results.toList Φ) (fun _ _ _ => False) (ZdJ P fn.results.toList Φ) tm []) : ValOK P gl f args r := by
 intro sn W cargs hg hR ha
 rw [Z2O] at h
 refine Z5o hf hc (Z18 (rd := none) hrf hm hn hO hcw c h) hg hR ha (fun _ _ _ h => h) fun x tm1 H1 a1 W1 sn1 ι1 hx s1 t1 => ?_
 have key : ZdJ P fn.results.toList Φ tm1 H1 -> ∃ v, (results fn a1.tmps).run P W1 = .ok v W1 /\ VR (snx sn W.heap.size W1) noI r v := by
  intro h
  obtain ⟨us, h1, r', h2, h3⟩ := Z01 h
  obtain ⟨vs, h4, h5⟩ := Z1q s1.rel t1 _ _ h1
  have hle : Le (snx sn1 W.heap.size W1) (snx sn W.heap.size W1) noI noI := ⟨fun a v hv => by
   unfold snx at hv ⊢
   split at hv
   · rename_i hlt
     rw [if_pos hlt]
     rcases s1.sfresh a v hv with h | h | ⟨b0, o0, p0, hb, _⟩
     · exact h
     · omega
     · simp at hb
   · rename_i hlt
     rw [if_neg hlt]; exact hv, fun _ _ h => h⟩
  have hfr : ∀ (b : Nat) (o : AObj) p, H1[b]? = some o -> o.alive = true -> ι1 b = some p -> W.heap.size <= p.blk := by
   intro b o p hb ha hp
   rcases s1.fresh b o p hb ha hp with h | ⟨b0, o0, p0, hb, _⟩
   · exact h
   · simp at hb
  refine ⟨_, Z22 h5, hΦ _ h3 _ _ (Z0B hle _ _ (Z9j s1.rel hfr 30 _ _ _ h2 ?_))⟩
  clear h1 h2 h3
  match us, h4 with
  | [], h4 => simp only [LR] at h4; subst h4; simp [Z1D, VR, LR]
  | [u], h4 =>
   simp only [LR] at h4
   obtain ⟨d, ds, rfl, hd, rfl⟩ := h4
   simpa [Z1D] using hd
  | u :: u' :: l, h4 =>
   have hl := h4.length
   simp only [List.length_cons] at hl
   have : vs.toArray.size ≠ 1 := by simp [hl]
   rw [dif_neg this]
   simp only [Z1D, VR]
   exact ⟨_, rfl, h4⟩
 cases x with
 | normal =>
  obtain ⟨v, k1, k2⟩ := key hx
  exact ⟨v, k1, v, rfl, s1.ext, k2⟩
 | exit id => exact hx.elim
 | ret =>
  obtain ⟨v, k1, k2⟩ := key hx
  exact ⟨v, k1, v, rfl, s1.ext, k2⟩
theorem fn_valX {Φ : AV -> Prop} {P : Program} {gl : Glob} {orc : Orc} (hm : P.follows .mixedOrders = true) (hn : NoNum P) (hO : OrcSound P gl orc) {f : Nat} {fn : Func} {c : Code} {args : List AV} {r : AV} (hΦ : ∀ r', Φ r' -> ∀ sn v, VR sn noI r' v -> VR sn noI r v)
  (hf : P.funcs[f]? = some fn) (hc : fn.body = some c)
  {cw : CW} (hcw : Z9T P orc cw)
  (h : Z3U (tmk (Z8N args fn.ntmps args.length) (Z7e 20 fn.ntmps)) fun tm => Z1j P gl orc cw Zf4 c (ZdJ P fn.results.toList Φ) (fun _ _ _ => False) (ZdJ P fn.results.toList Φ) tm []) : ValOK P gl f args r :=
 fn_valXR (fun _ _ _ _ _ _ _ _ _ _ _ h => h.elim) hm hn hO hΦ hf hc hcw h
theorem ZdG {P : Program} {gl : Glob} {orc : Orc} (hm : P.follows .mixedOrders = true) (hn : NoNum P) (hO : OrcSound P gl orc) {f : Nat} {fn : Func} {c : Code} {args : List AV} {r : AV}
  (hf : P.funcs[f]? = some fn) (hc : fn.body = some c)
  {cw : CW} (hcw : Z9T P orc cw)
  (h : Z3U (tmk (Z8N args fn.ntmps args.length) (Z7e 20 fn.ntmps)) fun tm => Z1j P gl orc cw Zf4 c (ZdJ P fn.results.toList (· = r)) (fun _ _ _ => False) (ZdJ P fn.results.toList (· = r)) tm []) : ValOK P gl f args r :=
 fn_valX (Φ := (· = r)) hm hn hO (fun r' e sn v h => e ▸ h) hf hc hcw h
theorem Z15 {P : Program} {gl : Glob} {orc : Orc} (hm : P.follows .mixedOrders = true) (hn : NoNum P) (hO : OrcSound P gl orc) {f : Nat} {fn : Func} {c : Code} {args : List AV} {r : AV} (hf : P.funcs[f]? = some fn) (hc : fn.body = some c)
  (h : Z3U (tmk (Z8N args fn.ntmps args.length) (Z7e 20 fn.ntmps)) fun tm => Z1j P gl orc (cw0 P orc) Zf4 c (ZdJ P fn.results.toList (· = r)) (fun _ _ _ => False) (ZdJ P fn.results.toList (· = r)) tm []) : ValOK P gl f args r :=
 ZdG hm hn hO hf hc (Z30 P orc) h
theorem Zan {P : Program} {gl : Glob} {orc : Orc} (isC : Nat -> Bool) (n : Nat) (hm : P.follows .mixedOrders = true) (hn : NoNum P) (hO : OrcSound P gl orc) {f : Nat} {fn : Func} {c : Code} {args : List AV} {r : AV} (hf : P.funcs[f]? = some fn) (hc : fn.body = some c)
  (h : Z3U (tmk (Z8N args fn.ntmps args.length) (Z7e 20 fn.ntmps)) fun tm => Z1j P gl (ZcF P gl orc isC n) (ZgX P gl orc isC n) Zf4 c (ZdJ P fn.results.toList (· = r)) (fun _ _ _ => False) (ZdJ P fn.results.toList (· = r)) tm []) : ValOK P gl f args r :=
 ZdG hm hn (Z1G hm hn hO n) hf hc (Z3p n) h
end Go.Abs
end

section
namespace Go.Abs
open Go.RowKit
mutual
def plain : AV -> Bool
 | .bool _ => true
 | .int _ _ => true
 | .str _ => true
 | .nptr => true
 | .nslice => true
 | .nmap => true
 | .nfunc => true
 | .niface => true
 | .agg cs => plainL cs
 | .tuple cs => plainL cs
 | .iface _ u => plain u
 | _ => false
def plainL : List AV -> Bool
 | [] => true
 | c :: l => plain c && plainL l
end
mutual
theorem Z4q {sn sn' : Z0d} {ι ι' : Z0a} : ∀ {u : AV} {v : Value}, plain u = true -> VR sn ι u v -> VR sn' ι' u v
 | .bool _, v, h, e => by simpa [VR] using e
 | .int _ _, v, h, e => by simpa [VR] using e
 | .str _, v, h, e => by simpa [VR] using e
 | .nptr, v, h, e => by simpa [VR] using e
 | .nslice, v, h, e => by simpa [VR] using e
 | .nmap, v, h, e => by simpa [VR] using e
 | .nfunc, v, h, e => by simpa [VR] using e
 | .niface, v, h, e => by simpa [VR] using e
 | .agg cs, v, h, e => by
  obtain ⟨d, rfl, h1⟩ := e.agg
  exact Z3K (plainL_LR (by simpa [plain] using h) h1)
 | .tuple cs, v, h, e => by
  obtain ⟨d, rfl, h1⟩ := e.tuple
  exact Z4c (plainL_LR (by simpa [plain] using h) h1)
 | .ptr _ _, v, h, e => by simp [plain] at h
 | .rp _, v, h, e => by simp [plain] at h
 | .slice .., v, h, e => by simp [plain] at h
 | .rs .., v, h, e => by simp [plain] at h
 | .map _, v, h, e => by simp [plain] at h
 | .func .., v, h, e => by simp [plain] at h
 | .iface t u, v, h, e => by
  simp only [VR] at e ⊢
  obtain ⟨x, rfl, h1⟩ := e
  exact ⟨x, rfl, Z4q (by simpa [plain] using h) h1⟩
theorem plainL_LR {sn sn' : Z0d} {ι ι' : Z0a} : ∀ {l : List AV} {vs : List Value}, plainL l = true -> LR sn ι l vs -> LR sn' ι' l vs
 | [], vs, h, e => by simpa [LR] using e
 | c :: l, vs, h, e => by
  simp only [plainL, Bool.and_eq_true] at h
  simp only [LR] at e ⊢
  obtain ⟨d, ds, rfl, h1, h2⟩ := e
  exact ⟨d, ds, rfl, Z4q h.1 h1, plainL_LR h.2 h2⟩
end
def Z9V (F : Nat -> List AV -> Option AV) : Orc := fun f args H => match Z2N (frz H 30) args with
 | some az => match F f az with | some r => some (r, H) | none => none
 | none => none
theorem Z1F {P : Program} {gl : Glob} {F : Nat -> List AV -> Option AV} (h : ∀ f args r, F f args = some r -> plain r = true /\ ValOK P gl f args r) : OrcSound P gl (Z9V F) := by
 intro f args H r H' hf sn ι W cargs hg hR ha
 unfold Z9V at hf
 split at hf <;> try (simp at hf; done)
 rename_i az has
 split at hf <;> simp at hf
 rename_i r' hr
 obtain ⟨rfl, rfl⟩ := hf
 obtain ⟨h1, h2⟩ := h f az r' hr
 have hle : ∀ a v, sn a = some v -> snx sn 0 W a = some v := fun a v hv => by
  unfold snx; rw [if_neg (by omega)]; exact (hR.snap a v hv).2.1
 have hR' : R (snx sn 0 W) noI [] W :=
  ⟨fun b => ⟨fun hb => by simp at hb, fun ⟨p, hp⟩ => by simp [noI] at hp⟩, fun b p hp => by simp [noI] at hp, fun b o p hb => by simp at hb, fun b b' o o' p p' hb => by simp at hb,
    fun a v hv => by
     unfold snx at hv; rw [if_neg (by omega)] at hv
     refine ⟨?_, hv, fun b o p hb => by simp at hb⟩
     cases hq : W.heap[a.block]? with
     | none => unfold World.cell? at hv; rw [hq] at hv; simp at hv
     | some ob => exact (Array.getElem?_eq_some_iff.1 hq).1,
    fun b o p hb => by simp at hb⟩
 have hargs : LR (snx sn 0 W) noI az cargs := Z0z (fun u r v => Z9j hR (fun _ _ _ _ _ _ => Nat.zero_le _) 30 u r v) has ha
 refine (h2 _ W cargs (hg.mono (Z8o hle)) hR' hargs).monoY ?_
 rintro e W' ⟨v, rfl, hx, hv⟩
 exact ⟨v, sn, ι, rfl, Z4q h1 hv, Stp.ext hR hx⟩
theorem Zkw {t : Bool} {A B : Prop} (h : t = true) (a : A) : (t = true -> A) /\ (t = false -> B) := ⟨fun _ => a, fun e => (by rw [h] at e; cases e)⟩
theorem Zkx {t : Bool} {A B : Prop} (h : t = false) (b : B) : (t = true -> A) /\ (t = false -> B) := ⟨fun e => (by rw [h] at e; cases e), fun _ => b⟩
theorem Z05 {t : Bool} {A B : Prop} (a : t = true -> A) (b : t = false -> B) : (t = true -> A) /\ (t = false -> B) := ⟨a, b⟩
theorem exI {α : Type} {o : Option α} {r : α} {K : α -> Prop} (h : o = some r) (k : K r) : ∃ r, o = some r /\ K r := ⟨r, h, k⟩
theorem exW {α : Type} {x n : α} {K : α -> Prop} (h : x = n) (k : K n) : ∃ n, x = n /\ K n := ⟨n, h, k⟩
theorem Zk0 {m j : Nat} (h : m + j <= 9223372036854775807) : IntKind.i64.wrap ((m : Int) + (j : Int)) = ((m + j : Nat) : Int) := by rw [IntWalk.i64_in _ ⟨by omega, by omega⟩]; omega
theorem ZiS {m : Nat} (h : m + 1 <= 9223372036854775807) : IntKind.i64.wrap ((m : Int) + 1) = ((m + 1 : Nat) : Int) := by rw [IntWalk.i64_in _ ⟨by omega, by omega⟩]; omega
theorem ZgU {n : Int} (h1 : -9223372036854775808 <= n) (h2 : n <= 9223372036854775807) : IntKind.i64.wrap n = n := IntWalk.i64_in n ⟨h1, h2⟩
theorem ixJ {i : Int} {n : Nat} {K : Nat -> Prop} (j : Nat) (h1 : i = (j : Int)) (h2 : j < n) (k : K j) : ∃ j : Nat, (i = (j : Int) /\ j < n) /\ K j := ⟨j, ⟨h1, h2⟩, k⟩
theorem Zkj {i : Int} {n : Nat} {K : Nat -> Prop} (j : Nat) (h1 : i = (j : Int)) (h2 : j <= n) (k : K j) : ∃ j : Nat, (i = (j : Int) /\ j <= n) /\ K j := ⟨j, ⟨h1, h2⟩, k⟩
theorem ixS {i : Int} {s : List UInt8} {K : Nat -> UInt8 -> Prop} (j : Nat) {b : UInt8} (h1 : i = (j : Int)) (h2 : s[j]? = some b) (k : K j b) : ∃ j : Nat, i = (j : Int) /\ ∃ b, s[j]? = some b /\ K j b := ⟨j, h1, b, h2, k⟩
theorem eqR {u v : AV} {K : Prop} (h : u = v) (k : K) : u = v /\ K := ⟨h, k⟩
theorem Z8y {P : Program} {F : Nat -> List AV -> Option AV} {H : Z00} {g : Nat} {args fa : List AV} {r : AV} (h1 : Z09 P g = true) (h2 : Z2N (frz H 30) args = some fa) (h3 : F g fa = some r) : Z0e P (Z9V F) H g args = some (r, H) := by
 simp only [Z0e, h1, if_true, Z9V, h2, h3]
end Go.Abs
end

section
namespace Go.Abs
open Go.RowKit Go.ChangeShapes Go.WideShapes Go.ChangeAt
theorem ZeA {a b : Nat} (h : Nat.blt a b = true) : a < b := by simpa [Nat.blt_eq] using h
end Go.Abs
end

section
namespace Go.Abs
open Go.RowKit
theorem FgL.mk {t0 tm : Tr} {H : Z00} {l : List (Nat × AV)} {H2 : Z00} (m : List Nat) (h : ZcO t0 tm = true) (h1 : SlotsGe m tm l) (h2 : HpGe H m m H2 0) (h3 : Z1B (m.map (Z3J H)) = true) : FgL t0 tm H l H2 := by
 unfold FgL FgLK; rw [h]; exact .inl ⟨m, rfl, h1, h2, h3⟩
theorem FgLK.mk {k : Nat} {t0 tm : Tr} {H : Z00} {l : List (Nat × AV)} {H2 : Z00} (m : List Nat) (hk : Zfi k 0 m = true) (h : ZcO t0 tm = true) (h1 : SlotsGe m tm l) (h2 : HpGe H m m H2 0) (h3 : Z1B (m.map (Z3J H)) = true) : FgLK k t0 tm H l H2 := by
 unfold FgLK; rw [h]; exact .inl ⟨m, hk, h1, h2, h3⟩
theorem FgL.mk0 {t0 tm : Tr} {H : Z00} {l : List (Nat × AV)} (h : ZcO t0 tm = true) (h1 : SlotsGe [] tm l) : FgL t0 tm H l [] := FgL.mk [] h h1 trivial rfl
theorem Zlm {a b : Int} {K : Prop} (h : a <= b) (k : K) : a <= b /\ K := ⟨h, k⟩
def ZcI (P Q : Prop) : Prop := Q -> P
theorem s1T {t : Bool} {A B : Prop} (h : t = true) : ZcI ((t = true -> A) /\ (t = false -> B)) A := Zkw h
theorem s1F {t : Bool} {A B : Prop} (h : t = false) : ZcI ((t = true -> A) /\ (t = false -> B)) B := Zkx h
theorem s1I {α : Type} {o : Option α} {r : α} {K : α -> Prop} (h : o = some r) : ZcI (∃ r, o = some r /\ K r) (K r) := exI h
theorem s1R {u v : AV} {K : Prop} (h : u = v) : ZcI (u = v /\ K) K := eqR h
theorem s1W {α : Type} {x n : α} {K : α -> Prop} (h : x = n) : ZcI (∃ n, x = n /\ K n) (K n) := exW h
theorem s1J {i : Int} {n : Nat} {K : Nat -> Prop} (j : Nat) (h1 : i = (j : Int)) (h2 : j < n) : ZcI (∃ j : Nat, (i = (j : Int) /\ j < n) /\ K j) (K j) := ixJ j h1 h2
theorem ZkX {i : Int} {n : Nat} {K : Nat -> Prop} (j : Nat) (h1 : i = (j : Int)) (h2 : j <= n) : ZcI (∃ j : Nat, (i = (j : Int) /\ j <= n) /\ K j) (K j) := Zkj j h1 h2
theorem s1S {i : Int} {s : List UInt8} {K : Nat -> UInt8 -> Prop} (j : Nat) {b : UInt8} (h1 : i = (j : Int)) (h2 : s[j]? = some b) : ZcI (∃ j : Nat, i = (j : Int) /\ ∃ b, s[j]? = some b /\ K j b) (K j b) := ixS j h1 h2
theorem s1L {a b : Int} {K : Prop} (h : a <= b) : ZcI (a <= b /\ K) K := Zlm h
theorem stp {P Q : Prop} (q : Q) (h : ZcI P Q := by
 first
 | (with_reducible refine s1T ?_; (focus (assumption))) | (with_reducible refine s1F ?_; (focus (assumption)))
 | (with_reducible refine s1T ?_; (focus (decide))) | (with_reducible refine s1F ?_; (focus (decide)))
 | (with_reducible refine s1T ?_; (focus ((first | assumption | decide | (simp; done) | (simp; omega)); done)))
 | (with_reducible refine s1F ?_; (focus ((first | assumption | decide | (simp; done) | (simp; omega)); done)))
 | with_reducible exact s1I rfl
 | with_reducible exact s1R rfl
 | (with_reducible refine s1W (ZiS ?_); (focus (omega))) | (with_reducible refine s1W (Zk0 ?_); (focus (omega))) | (with_reducible refine s1W (ZgU ?_ ?_); (focus (omega)); (focus (omega)))
 | with_reducible exact s1W rfl
 | (with_reducible refine s1J _ rfl ?_; (focus ((first | decide | omega | (simp; done) | (simp; omega)); done)))
 | (with_reducible refine ZkX _ rfl ?_; (focus ((first | decide | omega | (simp; done) | (simp; omega)); done)))
 | (refine s1J (Int.toNat _) ?_ ?_; (focus ((first | rfl | decide | omega | (simp; done)); done)); (focus ((first | decide | omega | (simp; done) | (simp; omega)); done)))
 | (refine ZkX (Int.toNat _) ?_ ?_; (focus ((first | rfl | decide | omega | (simp; done)); done)); (focus ((first | decide | omega | (simp; done) | (simp; omega)); done)))
 | with_reducible exact s1S _ rfl (by assumption)
 | (with_reducible refine s1L ?_; (focus (first | decide | omega)))
 | (refine s1I (Z8y rfl rfl (if_pos ?_)); (focus ((first | decide | omega | (simp; done) | (simp; omega)); done)))) : P := h q
end Go.Abs
end

section
namespace Go.Abs
open Go.RowKit
def lone (f b : Nat) : Nat -> Z00 -> Bool
 | _, [] => true
 | i, o :: H => (Nat.beq i b || !Nat.beq o.fam f) && lone f b (i + 1) H
theorem Zbf {f b : Nat} : ∀ {H : Z00} {i j : Nat} {o : AObj}, lone f b i H = true -> H[j]? = some o -> i + j = b \/ o.fam ≠ f
 | [], i, j, o, h, e => by simp at e
 | x :: H, i, 0, o, h, e => by
  simp only [lone, Bool.and_eq_true, Bool.or_eq_true, Bool.not_eq_true'] at h
  simp at e; subst e
  rcases h.1 with h1 | h1
  · exact .inl (Nat.eq_of_beq_eq_true h1)
  · exact .inr fun e => by rw [e] at h1; simp at h1
 | x :: H, i, j + 1, o, h, e => by
  simp only [lone, Bool.and_eq_true] at h
  have := Zbf h.2 (by simpa using e)
  rcases this with h1 | h1
  · exact .inl (by omega)
  · exact .inr h1
theorem Zgw {q : Nat -> AObj -> Bool} : ∀ (H : Z00) (i : Nat), (∀ j o, H[j]? = some o -> q (i + j) o = false) -> kil q i H = H
 | [], i, h => rfl
 | o :: H, i, h => by
  have h0 := h 0 o rfl
  simp only [Nat.add_zero] at h0
  simp only [kil, h0]
  rw [Zgw H (i + 1) fun j o' e => by have := h (j + 1) o' (by simpa using e); rw [<- this]; congr 1; omega]
  simp
theorem ZcJ {f b : Nat} {H : Z00} {o : AObj} (hH : H[b]? = some o) (hl : lone f b 0 H = true) : Z3o b f H = H := by
 refine Zgw H 0 fun j o e => ?_
 rcases Zbf hl e with h | h
 · simp only [Nat.zero_add] at h; subst h; simp
 · have : Nat.beq o.fam f = false := Bool.eq_false_iff.2 fun e => h (Nat.eq_of_beq_eq_true e)
   rw [this]; rfl
def lit : AV -> Bool
 | .bool _ => true
 | .int _ _ => true
 | .str _ => true
 | _ => false
theorem Z5Y {α : Type} (f : α -> AV) (l : List α) (j : Nat) (h : j < l.length) {off : Nat} (e : off = j) : tk 1 ((l.map f).drop off) = some [f l[j]] := by
 subst e
 rw [List.drop_eq_getElem_cons (by simpa using h)]; simp [tk]
section facts
open Classical
noncomputable def ZjL (l : List (Nat × List AV × AV)) : Orc := Zgr fun f args => (l.find? fun p => decide (p.1 = f /\ p.2.1 = args)).map (·.2.2)
def Facts (P : Program) (gl : Glob) : List (Nat × List AV × AV) -> Prop
 | [] => True
 | (f, args, r) :: l => refsL args [] = [] /\ ValOK P gl f args r /\ Facts P gl l
theorem Facts.mem {P : Program} {gl : Glob} : ∀ {l : List (Nat × List AV × AV)} {p}, Facts P gl l -> p ∈ l -> refsL p.2.1 [] = [] /\ ValOK P gl p.1 p.2.1 p.2.2
 | (f, args, r) :: l, p, h, hm => by
  rcases List.mem_cons.1 hm with rfl | hm
  · exact ⟨h.1, h.2.1⟩
  · exact Facts.mem h.2.2 hm
theorem Zc5 {P : Program} {gl : Glob} {l : List (Nat × List AV × AV)} (h : Facts P gl l) : OrcSound P gl (ZjL l) := Z4T fun f args r e => by
 simp only [Option.map_eq_some_iff] at e
 obtain ⟨p, e1, rfl⟩ := e
 have hm := List.mem_of_find?_eq_some e1
 have hp := List.find?_some e1
 simp only [decide_eq_true_eq] at hp
 obtain ⟨rfl, rfl⟩ := hp
 exact h.mem hm
theorem ZkD {P : Program} {l : List (Nat × List AV × AV)} {H : Z00} {g : Nat} {args : List AV} {r : AV} (h1 : Z09 P g = true) (h2 : l.find? (fun p => decide (p.1 = g /\ p.2.1 = args)) = some (g, args, r)) : Z0e P (ZjL l) H g args = some (r, H) := by
 simp only [Z0e, h1, if_true, ZjL, Zgr, h2, Option.map_some]
theorem Zcj {l : List (Nat × List AV × AV)} {g : Nat} {args : List AV} {r : AV} : ((g, args, r) :: l).find? (fun p => decide (p.1 = g /\ p.2.1 = args)) = some (g, args, r) := by simp
end facts
end Go.Abs
end

section
namespace Go.Abs
open Go.RowKit
def Z10 (P : Program) (gl : Glob) (f : Nat) (args : List AV) (H : Z00) (r : AV) (H' : Z00) : Prop :=
 ∀ (sn : Z0d) (ι : Z0a) (W : World) (cargs : List Value), GlOK gl sn -> R sn ι H W -> LR sn ι args cargs ->
  CallsY P f cargs.toArray W fun e W' => ∃ v sn' ι', e = .returned v /\ VR sn' ι' r v /\ Stp sn ι H W sn' ι' H' W'
def Zcm (k : Nat) : Z00 -> Z00 -> Bool
 | [], [] => true
 | o :: H, o' :: H' => Nat.beq o'.fam o.fam && (Nat.beq o'.sh o.sh && ((!o'.alive || o.alive) && (Z0T k (Z3H o'.body []) && Zcm k H H')))
 | _, _ => false
theorem Z8v {k : Nat} : ∀ {H H' : Z00}, Zcm k H H' = true -> H'.length = H.length /\ ∀ (b : Nat) (o o' : AObj), H[b]? = some o -> H'[b]? = some o' -> o'.fam = o.fam /\ o'.sh = o.sh /\ (o'.alive = true -> o.alive = true) /\ Z0T k (Z3H o'.body []) = true
 | [], [], h => ⟨rfl, fun b o o' e => by simp at e⟩
 | x :: H, y :: H', h => by
  simp only [Zcm, Bool.and_eq_true] at h
  obtain ⟨h1, h2, h3, h4, h5⟩ := h
  obtain ⟨k1, k2⟩ := Z8v h5
  refine ⟨by simp [k1], fun b o o' e e' => ?_⟩
  cases b with
  | zero =>
   simp at e e'; subst e; subst e'
   exact ⟨Nat.eq_of_beq_eq_true h1, Nat.eq_of_beq_eq_true h2, fun ha => by simpa [ha] using h3, h4⟩
  | succ b => exact k2 b o o' (by simpa using e) (by simpa using e')
 | [], _ :: _, h => by simp [Zcm] at h
 | _ :: _, [], h => by simp [Zcm] at h
theorem Z1R {k : Nat} : ∀ {l : List Nat}, Z0T k l = true -> ∀ b ∈ l, b < k
 | [], h, b, hb => by cases hb
 | n :: l, h, b, hb => by
  simp only [Z0T, Bool.and_eq_true] at h
  rcases List.mem_cons.1 hb with rfl | hb
  · exact ZeA h.1
  · exact Z1R h.2 b hb
def Zjq (P : Program) (l : List ResultVar) (k : Nat) (H0 : Z00) (r : AV) (H1 : Z00) (tm : Tr) (H : Z00) : Prop :=
 onO (Z1Y P tm H l) fun vs => Z1D vs = r /\ H.take k = H1 /\ (Z0T k (Z12 r []) && Zcm k H0 H1) = true
theorem Zd8 {sn : Z0d} {ι : Z0a} {us : List AV} {vs : List Value} {fn : Func} (h4 : LR sn ι us vs) : VR sn ι (Z1D us) (if h : vs.toArray.size = 1 then vs.toArray[0] else .tuple vs.toArray) := by
 match us, h4 with
 | [], h4 => simp only [LR] at h4; subst h4; simp [Z1D, VR, LR]
 | [u], h4 =>
  simp only [LR] at h4
  obtain ⟨d, ds, rfl, hd, rfl⟩ := h4
  simpa [Z1D] using hd
 | u :: u' :: l, h4 =>
  have hl := h4.length
  simp only [List.length_cons] at hl
  have : vs.toArray.size ≠ 1 := by simp [hl]
  rw [dif_neg this]
  simp only [Z1D, VR]
  exact ⟨_, rfl, h4⟩
theorem Z7g {sn sn1 : Z0d} {ι ι1 : Z0a} {H0 H H1 : Z00} {W W1 : World} {k : Nat} (hk : H0.length = k) (hR : R sn ι H0 W) (s1 : Stq k sn ι H0 W sn1 ι1 H W1) (h3 : H.take k = H1) (h5 : Zcm k H0 H1 = true) :
  ∃ ι', Stp sn ι H0 W sn1 ι' H1 W1 /\ ∀ u v, Z0T k (Z12 u []) = true -> VR sn1 ι1 u v -> VR sn1 ι' u v := by
 obtain ⟨e1, e2⟩ := Z8v h5
 have hpl : ∀ b, b < k -> ∃ p, ι b = some p /\ ι1 b = some p := fun b hb => by
  obtain ⟨p, hp⟩ := (hR.dom b).1 (by omega)
  exact ⟨p, hp, s1.keep b p hb hp⟩
 let ι' : Z0a := fun b => if b < k then ι1 b else none
 have hi : ∀ b, b < k -> ∀ p, ι1 b = some p -> ι' b = some p := fun b hb p hp => by show (if b < k then ι1 b else none) = some p; rw [if_pos hb]; exact hp
 have hi2 : ∀ b p, ι' b = some p -> b < k /\ ι1 b = some p := fun b p hp => by
  have hp : (if b < k then ι1 b else none) = some p := hp
  split at hp
  · exact ⟨by assumption, hp⟩
  · cases hp
 have hH : ∀ (b : Nat) (o : AObj), H1[b]? = some o -> b < k /\ H[b]? = some o := fun b o hb => by
  have hb' : b < H1.length := (List.getElem?_eq_some_iff.1 hb).1
  rw [e1, hk] at hb'
  rw [<- h3, List.getElem?_take_of_lt hb'] at hb
  exact ⟨hb', hb⟩
 have hR1 : R sn1 ι' H1 W1 := by
  refine ⟨fun b => ⟨fun hb => ?_, fun ⟨p, hp⟩ => ?_⟩, fun b p hp => s1.rel.blk b p (hi2 b p hp).2, fun b o p hb hal hp => ?_, fun b b' o o' p p' hb hb' ha ha' hp hp' e => ?_, fun ad v hv => ?_, fun b o p hb hp e => ?_⟩
  · rw [e1, hk] at hb
    obtain ⟨p, _, hp⟩ := hpl b hb
    exact ⟨p, hi b hb p hp⟩
  · rw [e1, hk]; exact (hi2 b p hp).1
  · obtain ⟨hb1, hb2⟩ := hH b o hb
    obtain ⟨_, hp⟩ := hi2 b p hp
    have h0 : b < H0.length := by omega
    have h6 := (e2 b _ o (List.getElem?_eq_getElem h0) hb).2.2.2
    exact Z8M o.body p (fun x hx q hq => hi x (Z1R h6 x hx) q hq) (s1.rel.obj b o p hb2 hal hp)
  · obtain ⟨_, hb2⟩ := hH b o hb
    obtain ⟨_, hb2'⟩ := hH b' o' hb'
    exact s1.rel.sep b b' o o' p p' hb2 hb2' ha ha' (hi2 _ _ hp).2 (hi2 _ _ hp').2 e
  · obtain ⟨g1, g2, g3⟩ := s1.rel.snap ad v hv
    refine ⟨g1, g2, fun b o p hb hal hp => ?_⟩
    obtain ⟨_, hb2⟩ := hH b o hb
    exact g3 b o p hb2 hal (hi2 _ _ hp).2
  · obtain ⟨_, hb2⟩ := hH b o hb
    exact s1.rel.shz b o p hb2 (hi2 _ _ hp).2 e
 refine ⟨ι', ⟨hR1, ⟨s1.le, fun b p hb => ?_⟩, fun b p hp => .inl ?_, s1.frame, s1.size, s1.os, s1.tape, s1.output, s1.sfresh, fun b o hb => ?_⟩, fun u v hu hv => ?_⟩
 · have hbk : b < k := by have := (hR.dom b).2 ⟨p, hb⟩; omega
   exact hi b hbk p (s1.keep b p hbk hb)
 · obtain ⟨hbk, hp1⟩ := hi2 b p hp
   obtain ⟨q, hq, hq1⟩ := hpl b hbk
   rw [hq1] at hp1; cases hp1; exact hq
 · have hb0 := (List.getElem?_eq_some_iff.1 hb).1
   have hb1 : b < H1.length := by omega
   obtain ⟨g1, g2, g3, _⟩ := e2 b o _ hb (List.getElem?_eq_getElem hb1)
   exact ⟨_, List.getElem?_eq_getElem hb1, g1, g2, g3⟩
 · exact Z1t (ι := ι1) u [] _ (fun x hx q hq => hi x (Z1R hu x hx) q hq) hv
theorem fn_memR {rf : AV -> Array Tmp -> Code -> Code -> KN -> KX -> KN -> Tr -> Z00 -> Prop} {P : Program} {gl : Glob} {orc : Orc} {k : Nat} (hrf : ZjZ P gl none k rf) (hm : P.follows .mixedOrders = true) (hn : NoNum P) (hO : OrcSound P gl orc) {f : Nat} {fn : Func} {c : Code} {args : List AV} {H0 H1 : Z00} {r : AV} (hk : H0.length = k)
  (hf : P.funcs[f]? = some fn) (hc : fn.body = some c) {cw : CW} (hcw : Z9T P orc cw)
  (h : Z3U (tmk (Z8N args fn.ntmps args.length) (Z7e 20 fn.ntmps)) fun tm => Z1j P gl orc cw ⟨Z5u k, rf⟩ c (Zjq P fn.results.toList k H0 r H1) (fun _ _ _ => False) (Zjq P fn.results.toList k H0 r H1) tm H0) : Z10 P gl f args H0 r H1 := by
 intro sn ι W cargs hg hR ha
 rw [Z2O] at h
 refine .inl (Z5o hf hc (Z18 (rd := none) hrf hm hn hO hcw c h) hg hR ha (fun _ _ _ h => h) fun x tm1 H a1 W1 sn1 ι1 hx s1 t1 => ?_)
 have key : Zjq P fn.results.toList k H0 r H1 tm1 H -> ∃ v, (results fn a1.tmps).run P W1 = .ok v W1 /\ ∃ sn' ι', VR sn' ι' r v /\ Stp sn ι H0 W sn' ι' H1 W1 := by
  intro h
  obtain ⟨us, h1, h2, h3, h4⟩ := Z01 h
  simp only [Bool.and_eq_true] at h4
  obtain ⟨h4, h5⟩ := h4
  obtain ⟨vs, k1, k2⟩ := Z1q s1.rel t1 _ _ h1
  obtain ⟨ι', g1, g2⟩ := Z7g hk hR s1 h3 h5
  refine ⟨_, Z22 k2, sn1, ι', ?_, g1⟩
  rw [<- h2] at h4 ⊢
  exact g2 _ _ h4 (Zd8 (fn := fn) k1)
 cases x with
 | normal =>
  obtain ⟨v, k1, sn', ι', k2, k3⟩ := key hx
  exact ⟨v, k1, v, sn', ι', rfl, k2, k3⟩
 | exit id => exact hx.elim
 | ret =>
  obtain ⟨v, k1, sn', ι', k2, k3⟩ := key hx
  exact ⟨v, k1, v, sn', ι', rfl, k2, k3⟩
theorem Z3c {P : Program} {gl : Glob} {orc : Orc} (hm : P.follows .mixedOrders = true) (hn : NoNum P) (hO : OrcSound P gl orc) {f k : Nat} {fn : Func} {c : Code} {args : List AV} {H0 H1 : Z00} {r : AV} (hk : H0.length = k)
  (hf : P.funcs[f]? = some fn) (hc : fn.body = some c) {cw : CW} (hcw : Z9T P orc cw)
  (h : Z3U (tmk (Z8N args fn.ntmps args.length) (Z7e 20 fn.ntmps)) fun tm => Z1j P gl orc cw (Z79 k) c (Zjq P fn.results.toList k H0 r H1) (fun _ _ _ => False) (Zjq P fn.results.toList k H0 r H1) tm H0) : Z10 P gl f args H0 r H1 :=
 fn_memR (fun _ _ _ _ _ _ _ _ _ _ _ h => h.elim) hm hn hO hk hf hc hcw h
section orcI
open Classical
noncomputable def orcI {I : Type} (G : I -> Prop) (fF : I -> Nat) (fA : I -> List AV) (fH : I -> Z00) (fR : I -> AV) (fO : I -> Z00) : Orc := fun f args H =>
 if h : ∃ i, G i /\ fF i = f /\ fA i = args /\ fH i = H then some (fR (Classical.choose h), fO (Classical.choose h)) else none
theorem Z13 {P : Program} {gl : Glob} {I : Type} {G : I -> Prop} {fF : I -> Nat} {fA : I -> List AV} {fH : I -> Z00} {fR : I -> AV} {fO : I -> Z00} (h : ∀ i, G i -> Z10 P gl (fF i) (fA i) (fH i) (fR i) (fO i)) : OrcSound P gl (orcI G fF fA fH fR fO) := by
 intro f args H r H' e
 unfold orcI at e
 split at e
 · rename_i hx
   simp only [Option.some.injEq, Prod.mk.injEq] at e
   obtain ⟨rfl, rfl⟩ := e
   obtain ⟨g1, e1, e2, e3⟩ := Classical.choose_spec hx
   have := h _ g1
   rw [e1, e2, e3] at this; exact this
 · cases e
theorem Zay {P : Program} {I : Type} {G : I -> Prop} {fF : I -> Nat} {fA : I -> List AV} {fH : I -> Z00} {fR : I -> AV} {fO : I -> Z00} (hinj : ∀ i j, G i -> G j -> fF i = fF j -> fA i = fA j -> fH i = fH j -> fR i = fR j /\ fO i = fO j) {g : Nat} {args : List AV} {H : Z00} (hb : Z09 P g = true) (i : I) (hi : G i) (h1 : fF i = g) (h2 : fA i = args) (h3 : fH i = H) :
  Z0e P (orcI G fF fA fH fR fO) H g args = some (fR i, fO i) := by
 have hx : ∃ i, G i /\ fF i = g /\ fA i = args /\ fH i = H := ⟨i, hi, h1, h2, h3⟩
 unfold Z0e
 rw [if_pos hb]
 unfold orcI
 rw [dif_pos hx]
 obtain ⟨g1, g2, g3, g4⟩ := Classical.choose_spec hx
 obtain ⟨e1, e2⟩ := hinj _ i g1 hi (g2.trans h1.symm) (g3.trans h2.symm) (g4.trans h3.symm)
 rw [e1, e2]
end orcI
end Go.Abs
end

section
namespace Go.Abs
open Go.RowKit
mutual
def Zb7 : AV -> Bool
 | .rp _ => false
 | .rs _ _ _ => false
 | .func _ f c => noROL f && noROL c
 | .iface _ v => Zb7 v
 | .agg cs => noROL cs
 | .tuple cs => noROL cs
 | .bool _ => true
 | .int _ _ => true
 | .str _ => true
 | .nptr => true
 | .ptr _ _ => true
 | .nslice => true
 | .slice _ _ _ _ _ => true
 | .nmap => true
 | .map _ => true
 | .nfunc => true
 | .niface => true
def noROL : List AV -> Bool
 | [] => true
 | c :: l => Zb7 c && noROL l
end
def Zfq : List (AV × AV × Nat) -> Bool
 | [] => true
 | (k, v, _) :: l => Zb7 k && (Zb7 v && Zfq l)
def Zfp : List (Nat × AV) -> Bool
 | [] => true
 | x :: l => Zb7 x.2 && Zfp l
def Zhr : ABody -> Bool
 | .cells cs _ => noROL cs
 | .map es _ => Zfq es
 | .siter _ _ => true
 | .loop _ ts => Zfp ts
def Zde : Z00 -> Bool
 | [] => true
 | o :: l => Zhr o.body && Zde l
mutual
theorem Z47 {sn sn' : Z0d} {ι : Z0a} : ∀ (u : AV) (v : Value), Zb7 u = true -> VR sn ι u v -> VR sn' ι u v
 | .rp _, v, h, e => by simp [Zb7] at h
 | .rs _ _ _, v, h, e => by simp [Zb7] at h
 | .func fn f c, v, h, e => by
  simp only [Zb7, Bool.and_eq_true] at h
  simp only [VR] at *; obtain ⟨x, y, h1, h2, h3⟩ := e
  exact ⟨x, y, h1, LR_snap f _ h.1 h2, LR_snap c _ h.2 h3⟩
 | .iface t u, v, h, e => by
  simp only [Zb7] at h
  simp only [VR] at *; obtain ⟨x, h1, h2⟩ := e
  exact ⟨x, h1, Z47 u _ h h2⟩
 | .agg cs, v, h, e => by
  simp only [Zb7] at h
  simp only [VR] at *; obtain ⟨x, h1, h2⟩ := e
  exact ⟨x, h1, LR_snap cs _ h h2⟩
 | .tuple cs, v, h, e => by
  simp only [Zb7] at h
  simp only [VR] at *; obtain ⟨x, h1, h2⟩ := e
  exact ⟨x, h1, LR_snap cs _ h h2⟩
 | .bool _, v, h, e => by simpa [VR] using e
 | .int _ _, v, h, e => by simpa [VR] using e
 | .str _, v, h, e => by simpa [VR] using e
 | .nptr, v, h, e => by simpa [VR] using e
 | .ptr _ _, v, h, e => by simpa [VR] using e
 | .nslice, v, h, e => by simpa [VR] using e
 | .slice _ _ _ _ _, v, h, e => by simpa [VR] using e
 | .nmap, v, h, e => by simpa [VR] using e
 | .map _, v, h, e => by simpa [VR] using e
 | .nfunc, v, h, e => by simpa [VR] using e
 | .niface, v, h, e => by simpa [VR] using e
theorem LR_snap {sn sn' : Z0d} {ι : Z0a} : ∀ (us : List AV) (vs : List Value), noROL us = true -> LR sn ι us vs -> LR sn' ι us vs
 | [], vs, h, e => by simpa [LR] using e
 | u :: us, vs, h, e => by
  simp only [noROL, Bool.and_eq_true] at h
  simp only [LR] at *; obtain ⟨d, ds, h1, h2, h3⟩ := e
  exact ⟨d, ds, h1, Z47 u _ h.1 h2, LR_snap us _ h.2 h3⟩
end
theorem ZeS {sn sn' : Z0d} {ι : Z0a} : ∀ (es : List (AV × AV × Nat)) (l : List MapEntry), Zfq es = true -> ER sn ι es l -> ER sn' ι es l
 | [], l, h, e => by simpa [ER] using e
 | (k, v, n) :: es, l, h, e => by
  simp only [Zfq, Bool.and_eq_true] at h
  simp only [ER] at *
  obtain ⟨x, l', h1, h2, h3, h4, h5⟩ := e
  exact ⟨x, l', h1, Z47 k _ h.1 h2, Z47 v _ h.2.1 h3, h4, ZeS es _ h.2.2 h5⟩
theorem ZbM {sn sn' : Z0d} {ι : Z0a} {a : Array Value} : ∀ (ts : List (Nat × AV)), Zfp ts = true -> TSR sn ι ts a -> TSR sn' ι ts a
 | [], h, e => trivial
 | x :: l, h, ⟨⟨v, h1, h2⟩, h3⟩ => by
  simp only [Zfp, Bool.and_eq_true] at h
  exact ⟨⟨v, h1, Z47 x.2 v h.1 h2⟩, ZbM l h.2 h3⟩
theorem ZiD {sn sn' : Z0d} {ι : Z0a} {W : World} {p : Place} : ∀ (b : ABody), Zhr b = true -> OR sn ι W b p -> OR sn' ι W b p
 | .cells cs ty, h, e => by
  simp only [OR] at e ⊢
  obtain ⟨arr, h1, h2, h3, h4⟩ := e
  refine ⟨arr, h1, h2, h3, fun i c hc => ?_⟩
  obtain ⟨v, k1, k2⟩ := h4 i c hc
  have hn : ∀ (l : List AV) (i : Nat), noROL l = true -> l[i]? = some c -> Zb7 c = true := by
   intro l
   induction l with
   | nil => intro i h hc; simp at hc
   | cons x l ih =>
    intro i h hc
    simp only [noROL, Bool.and_eq_true] at h
    cases i with
    | zero => simp at hc; subst hc; exact h.1
    | succ i => exact ih i h.2 (by simpa using hc)
  exact ⟨v, k1, Z47 c v (hn cs i h hc) k2⟩
 | .map es c, h, e => by
  simp only [OR] at e ⊢
  obtain ⟨mes, h1, h2⟩ := e
  exact ⟨mes, h1, ZeS es _ h h2⟩
 | .siter s q, h, e => by simpa only [OR] using e
 | .loop g ts, h, e => by
  simp only [OR] at e ⊢
  obtain ⟨r, h1, h2, h3, h4⟩ := e
  exact ⟨r, h1, h2, h3, ZbM ts h h4⟩
def Zj0 (f : Nat -> Nat) : List (AV × AV × Nat) -> List (AV × AV × Nat)
 | [] => []
 | (k, v, n) :: l => (ren f k, ren f v, n) :: Zj0 f l
def Zk6 (f : Nat -> Nat) : List (Nat × AV) -> List (Nat × AV)
 | [] => []
 | x :: l => (x.1, ren f x.2) :: Zk6 f l
def Zgo (f : Nat -> Nat) : ABody -> ABody
 | .cells cs ty => .cells (renL f cs) ty
 | .map es c => .map (Zj0 f es) c
 | .siter s p => .siter s p
 | .loop g ts => .loop g (Zk6 f ts)
theorem Zb2 (f : Nat -> Nat) : ∀ (l : List AV) (i : Nat), (renL f l)[i]? = (l[i]?).map (ren f)
 | [], i => by simp [renL]
 | c :: l, 0 => by simp [renL]
 | c :: l, i + 1 => by simpa [renL] using Zb2 f l i
theorem Zb1 (f : Nat -> Nat) : ∀ (l : List AV), (renL f l).length = l.length
 | [] => rfl
 | c :: l => by simp [renL, Zb1 f l]
theorem ZgR {sn : Z0d} {ι : Z0a} {f : Nat -> Nat} : ∀ (es : List (AV × AV × Nat)) (l : List MapEntry), ER sn (fun b => ι (f b)) es l -> ER sn ι (Zj0 f es) l
 | [], l, e => by simpa [ER, Zj0] using e
 | (k, v, n) :: es, l, e => by
  simp only [ER, Zj0] at *
  obtain ⟨x, l', h1, h2, h3, h4, h5⟩ := e
  exact ⟨x, l', h1, (Z6V k _).2 h2, (Z6V v _).2 h3, h4, ZgR es _ h5⟩
theorem ZeO {sn : Z0d} {ι : Z0a} {f : Nat -> Nat} {a : Array Value} : ∀ (ts : List (Nat × AV)), TSR sn (fun b => ι (f b)) ts a -> TSR sn ι (Zk6 f ts) a
 | [], e => trivial
 | x :: l, ⟨⟨v, h1, h2⟩, h3⟩ => ⟨⟨v, h1, (Z6V x.2 _).2 h2⟩, ZeO l h3⟩
theorem ZjH {sn : Z0d} {ι : Z0a} {f : Nat -> Nat} {W : World} {p : Place} : ∀ (b : ABody), OR sn (fun b => ι (f b)) W b p -> OR sn ι W (Zgo f b) p
 | .cells cs ty, e => by
  simp only [OR, Zgo] at *
  obtain ⟨arr, h1, h2, h3, h4⟩ := e
  refine ⟨arr, h1, h2, by rw [Zb1]; exact h3, fun i c hc => ?_⟩
  rw [Zb2] at hc
  cases hx : cs[i]? with
  | none => rw [hx] at hc; cases hc
  | some x =>
   rw [hx] at hc; simp at hc; subst hc
   obtain ⟨v, k1, k2⟩ := h4 i x hx
   exact ⟨v, k1, (Z6V x _).2 k2⟩
 | .map es c, e => by
  simp only [OR, Zgo] at *
  obtain ⟨mes, h1, h2⟩ := e
  exact ⟨mes, h1, ZgR es _ h2⟩
 | .siter s q, e => by simpa only [OR, Zgo] using e
 | .loop g ts, e => by
  simp only [OR, Zgo] at *
  obtain ⟨r, h1, h2, h3, h4⟩ := e
  exact ⟨r, h1, h2, h3, ZeO ts h4⟩
def Z9U : List Nat -> Nat -> Nat -> Option Nat
 | [], _, _ => none
 | j :: l, b, i => if Nat.beq j b then some i else Z9U l b (i + 1)
theorem Z4p : ∀ {m : List Nat} {b i j : Nat}, Z9U m b i = some j -> i <= j /\ m[j - i]? = some b
 | [], b, i, j, h => by simp [Z9U] at h
 | x :: m, b, i, j, h => by
  simp only [Z9U] at h
  split at h
  · rename_i e
    cases h
    exact ⟨Nat.le_refl _, by simp [Nat.eq_of_beq_eq_true e]⟩
  · obtain ⟨h1, h2⟩ := Z4p h
    refine ⟨by omega, ?_⟩
    rw [show j - i = (j - (i + 1)) + 1 by omega]; simpa using h2
theorem Z95 : ∀ {m : List Nat} {b i : Nat}, Z9U m b i = none -> b ∉ m
 | [], b, i, h => by simp
 | x :: m, b, i, h => by
  simp only [Z9U] at h
  split at h
  · cases h
  · rename_i e
    intro hm
    rcases List.mem_cons.1 hm with rfl | hm
    · exact e (by simp)
    · exact Z95 h hm
def ZgE (m : List Nat) (Hk : Z00) : Nat -> AV -> Option AV
 | 0, _ => none
 | n + 1, u => match u with
  | .ptr b off => match Z9U m b 0 with | some i => some (.ptr i off) | none => frz Hk 30 (.ptr b off)
  | .slice b off len cap z => match Z9U m b 0 with | some i => some (.slice i off len cap z) | none => frz Hk 30 (.slice b off len cap z)
  | .map b => match Z9U m b 0 with | some i => some (.map i) | none => none
  | .func fn f c => match Z2N (ZgE m Hk n) f, Z2N (ZgE m Hk n) c with | some f, some c => some (.func fn f c) | _, _ => none
  | u => frz Hk 30 u
def Zdp (m fs : List Nat) : Nat -> Z00 -> Bool
 | _, [] => true
 | i, o :: H => (mem i m || !mem o.fam fs) && Zdp m fs (i + 1) H
theorem Z9d {m fs : List Nat} : ∀ {H : Z00} {i j : Nat} {o : AObj}, Zdp m fs i H = true -> H[j]? = some o -> i + j ∈ m \/ o.fam ∉ fs
 | [], i, j, o, h, e => by simp at e
 | x :: H, i, 0, o, h, e => by
  simp only [Zdp, Bool.and_eq_true, Bool.or_eq_true, Bool.not_eq_true'] at h
  simp at e; subst e
  rcases h.1 with h1 | h1
  · exact .inl (mem_iff.1 h1)
  · exact .inr fun e => by rw [mem_iff.2 e] at h1; cases h1
 | x :: H, i, j + 1, o, h, e => by
  simp only [Zdp, Bool.and_eq_true] at h
  have := Z9d h.2 (by simpa using e)
  rcases this with h1 | h1
  · exact .inl (by rw [show i + (j + 1) = i + 1 + j by omega]; exact h1)
  · exact .inr h1
def ZbU (m : List Nat) (Hs : Z00) : Nat -> Z00 -> Z00
 | _, [] => []
 | i, o :: H => (match Z9U m i 0 with
  | some j => match Hs[j]? with
   | some o' => { o with alive := o'.alive, body := Zgo (fun b => m.getD b 0) o'.body }
   | none => o
  | none => o) :: ZbU m Hs (i + 1) H
end Go.Abs
end

section
namespace Go.Abs
open Go.RowKit
theorem Z3y {sn sn2 : Z0d} {ι : Z0a} {H : Z00} {W : World} (hobj : ∀ (b : Nat) (o : AObj) p, H[b]? = some o -> o.alive = true -> ι b = some p -> OR sn ι W o.body p) (hle : Le sn sn2 noI noI)
  (hcell : ∀ (b : Nat) (o : AObj) p, H[b]? = some o -> o.alive = true -> ι b = some p -> ∀ (off : Nat) (v : Value), W.cell? ⟨p.blk, off, none⟩ = some v -> sn2 ⟨p.blk, off, none⟩ = some v) :
  ∀ (n : Nat) (u r : AV) (v : Value), frz H n u = some r -> VR sn ι u v -> VR sn2 noI r v := by
 intro n
 induction n with
 | zero => intro u r v h; simp [frz] at h
 | succ n ih =>
  have cells : ∀ {b : Nat} {o : AObj} {p : Place} {cs l : List AV} {ty : TypeId} {off : Nat}, H[b]? = some o -> o.alive = true -> o.body = .cells cs ty -> ι b = some p -> Z2N (frz H n) (cs.drop off) = some l -> MR sn2 l p.blk (p.sh + off) := by
   intro b o p cs l ty off ho ha hb hp hl
   obtain ⟨_, h2⟩ := Z4u hl
   have hor := hobj b o p ho ha hp
   rw [hb] at hor
   simp only [OR] at hor
   obtain ⟨arr, k1, k2, k3, k4⟩ := hor
   refine Z39 fun i x hx => ?_
   obtain ⟨c, hc, hcx⟩ := h2 i x hx
   rw [List.getElem?_drop] at hc
   obtain ⟨v, e1, e2⟩ := k4 (off + i) c hc
   refine ⟨v, ?_, ih c x v hcx e2⟩
   refine hcell b o p ho ha hp _ _ ?_
   rw [Z0P k1]
   rw [<- e1]; congr 1; omega
  intro u r v h hv
  unfold frz at h
  split at h
  · rename_i b off
    split at h <;> try (simp at h; done)
    rename_i o ho
    split at h <;> try (simp at h; done)
    rename_i cs ty ha hb
    split at h <;> simp at h
    rename_i l hl
    subst h
    obtain ⟨p, hp, rfl⟩ := hv.ptr
    simp only [VR]
    exact ⟨_, _, rfl, cells ho ha hb hp hl⟩
  · rename_i b off len cap z
    obtain ⟨p, a, cap', hp, rfl, h1, h2, h3⟩ := hv.slice
    split at h
    · simp at h; subst h
      simp only [VR]
      exact .inr ⟨a, cap', rfl, by omega, by simp, by simp [MR], fun h => absurd rfl h⟩
    · rename_i len
      split at h <;> try (simp at h; done)
      rename_i o ho
      split at h <;> try (simp at h; done)
      rename_i cs ty ha hb
      split at h <;> try (simp at h; done)
      rename_i cs' hcs
      split at h <;> simp at h
      rename_i l hl
      subst h
      obtain ⟨ha', _⟩ := h3 (by omega)
      subst ha'
      obtain ⟨e1, rfl⟩ := Z32 hcs
      obtain ⟨f1, f2⟩ := Z4u hl
      simp only [VR]
      refine .inr ⟨_, cap', rfl, by omega, ?_, ?_, fun _ => rfl⟩
      · rw [f1, List.length_take]; exact Nat.min_eq_left e1
      · have hor := hobj b o p ho ha hp
        rw [hb] at hor
        simp only [OR] at hor
        obtain ⟨arr, k1, k2, k3, k4⟩ := hor
        refine Z39 fun i x hx => ?_
        obtain ⟨c, hc, hcx⟩ := f2 i x hx
        rw [List.getElem?_take] at hc
        split at hc <;> try (simp at hc; done)
        rw [List.getElem?_drop] at hc
        obtain ⟨v, g1, g2⟩ := k4 (off + i) c hc
        refine ⟨v, ?_, ih c x v hcx g2⟩
        refine hcell b o p ho ha hp _ _ ?_
        rw [Z0P k1]
        rw [<- g1]; congr 1; simp only; omega
  · split at h <;> simp at h
    rename_i l hl; subst h
    obtain ⟨d, rfl, h1⟩ := hv.agg
    exact Z3K (Z0z ih hl h1)
  · split at h <;> simp at h
    rename_i l hl; subst h
    obtain ⟨d, rfl, h1⟩ := hv.tuple
    exact Z4c (Z0z ih hl h1)
  · split at h <;> simp at h
    rename_i x hx; subst h
    obtain ⟨y, rfl, h1⟩ := hv.iface
    simp only [VR]; exact ⟨y, rfl, ih _ _ _ hx h1⟩
  · split at h <;> simp at h
    rename_i f c hf hc; subst h
    obtain ⟨x, y, rfl, h1, h2⟩ := hv.func
    simp only [VR]; exact ⟨x, y, rfl, Z0z ih hf h1, Z0z ih hc h2⟩
  · simp at h
  · rename_i e1 e2 e3 e4 e5 e6 e7
    simp at h; subst h
    cases u with
    | ptr b o => exact (e1 _ _ rfl).elim
    | slice b o l c z => exact (e2 _ _ _ _ _ rfl).elim
    | agg cs => exact (e3 _ rfl).elim
    | tuple cs => exact (e4 _ rfl).elim
    | iface t v => exact (e5 _ _ rfl).elim
    | func fn f c => exact (e6 _ _ _ rfl).elim
    | map b => exact (e7 _ rfl).elim
    | _ => exact Z0B (ι := noI) hle _ _ (Z1t (ι := ι) _ [] _ (fun b hb => by simp [Z12] at hb) hv)
theorem Zk1 {m : List Nat} {H H2 : Z00} (hp : HpGe H m m H2 0) (hfam : Z1B (m.map (Z3J H)) = true) {sn : Z0d} {ι : Z0a} {W : World} (hR : R sn ι H W) : R sn (iot m ι) H2 W := by
 obtain ⟨hl, hg⟩ := hp.get
 have at2 : ∀ {b : Nat} {o2 : AObj} {p : Place}, H2[b]? = some o2 -> iot m ι b = some p -> ∃ j o, m[b]? = some j /\ H[j]? = some o /\ ι j = some p /\ o.alive = true /\ o2.alive = true /\ o2.fam = b /\ o2.sh = o.sh /\ BodyGe m o.body o2.body := by
  intro b o2 p hb hp
  obtain ⟨j, o, o2', x1, x2, x3, x4, x5, x6, x7, x8⟩ := hg b (by rw [<- hl]; exact (List.getElem?_eq_some_iff.1 hb).1)
  rw [hb] at x3; simp at x3; subst x3
  simp only [iot, x1] at hp
  exact ⟨j, o, x1, x2, hp, x4, x5, by omega, x7, x8⟩
 have hR2 : R sn (iot m ι) H2 W := by
  refine ⟨fun b => ⟨fun hb => ?_, fun ⟨p, hp⟩ => ?_⟩, fun b p hp => ?_, fun b o2 p hb ha hp => ?_, fun b b' o o' p p' hb hb' ha ha' hp hp' e => ?_, fun ad v hv => ?_, fun b o2 p hb hp e => ?_⟩
  · obtain ⟨j, o, o2, x1, x2, _⟩ := hg b (by omega)
    obtain ⟨p, hp⟩ := hR.place x2
    exact ⟨p, by simp only [iot, x1]; exact hp⟩
  · unfold iot at hp
    split at hp
    · rename_i j hj; rw [hl]; exact (List.getElem?_eq_some_iff.1 hj).1
    · cases hp
  · unfold iot at hp
    split at hp
    · exact hR.blk _ p hp
    · cases hp
  · obtain ⟨j, o, x1, x2, x3, x4, x5, x6, x7, x8⟩ := at2 hb hp
    exact x8.or (hR.obj j o p x2 x4 x3)
  · obtain ⟨j, q, x1, x2, x3, x4, x5, x6, x7, x8⟩ := at2 hb hp
    obtain ⟨j', q', y1, y2, y3, y4, y5, y6, y7, y8⟩ := at2 hb' hp'
    have hs := hR.sep j j' q q' p p' x2 y2 x4 y4 x3 y3 e
    have : b = b' := Z4W (l := m.map (Z3J H)) (x := q.fam) hfam (by simp [x1, Z3J, x2]) (by simp [y1, Z3J, y2, hs.1])
    subst this
    exact ⟨by rw [x6, y6], by rw [x7, y7]; exact hs.2⟩
  · obtain ⟨h1, h2, h3⟩ := hR.snap ad v hv
    refine ⟨h1, h2, fun b o2 p hb ha hp => ?_⟩
    obtain ⟨j, o, x1, x2, x3, x4, _⟩ := at2 hb hp
    exact h3 j o p x2 x4 x3
  · obtain ⟨j, o, x1, x2, x3, x4, x5, x6, x7, x8⟩ := at2 hb hp
    exact hR.shz j o p x2 x3 (by omega)
 exact hR2
def ZjP (m : List Nat) (H : Z00) : Z00 := kil (fun i _ => mem i m) 0 H
theorem Zbi {m : List Nat} {H : Z00} {b : Nat} {o : AObj} (h : (ZjP m H)[b]? = some o) (ha : o.alive = true) : H[b]? = some o /\ b ∉ m := by
 unfold ZjP at h
 rw [Z1N] at h
 cases hx : H[b]? with
 | none => rw [hx] at h; cases h
 | some x =>
  rw [hx] at h
  simp only [Option.map_some, Option.some.injEq, Nat.zero_add] at h
  split at h
  · subst h; simp [AObj.dead] at ha
  · rename_i hm
    subst h
    exact ⟨rfl, fun hb => hm (mem_iff.2 hb)⟩
theorem ZaS (m : List Nat) (Hs : Z00) : ∀ (H : Z00) (i b : Nat), (ZbU m Hs i H)[b]? = (H[b]?).map fun o => match Z9U m (i + b) 0 with
  | some j => match Hs[j]? with
   | some o' => { o with alive := o'.alive, body := Zgo (fun b => m.getD b 0) o'.body }
   | none => o
  | none => o
 | [], i, b => by simp [ZbU]
 | o :: H, i, 0 => by
  simp only [ZbU, List.getElem?_cons_zero, Option.map_some, Nat.add_zero] <;> rfl
 | o :: H, i, b + 1 => by
  simp only [ZbU, List.getElem?_cons_succ]
  rw [ZaS m Hs H (i + 1) b, show i + 1 + b = i + (b + 1) by omega]
theorem Zch {sn sn2 : Z0d} {ι : Z0a} {H : Z00} {W : World} {m : List Nat} (hobj : ∀ (b : Nat) (o : AObj) p, H[b]? = some o -> o.alive = true -> ι b = some p -> OR sn ι W o.body p) (hle : Le sn sn2 noI noI)
  (hcell : ∀ (b : Nat) (o : AObj) p, H[b]? = some o -> o.alive = true -> ι b = some p -> ∀ (off : Nat) (v : Value), W.cell? ⟨p.blk, off, none⟩ = some v -> sn2 ⟨p.blk, off, none⟩ = some v) :
  ∀ (n : Nat) (u r : AV) (v : Value), ZgE m H n u = some r -> VR sn ι u v -> VR sn2 (iot m ι) r v := by
 have lift : ∀ {r : AV} {v : Value}, VR sn2 noI r v -> VR sn2 (iot m ι) r v := fun h => Z0B ⟨fun _ _ h => h, fun b p h => by simp [noI] at h⟩ _ _ h
 have at_ : ∀ {b i : Nat}, Z9U m b 0 = some i -> ∀ p, ι b = some p -> iot m ι i = some p := fun h p hp => by
  have := (Z4p h).2
  simp only [Nat.sub_zero] at this
  simp only [iot, this]; exact hp
 intro n
 induction n with
 | zero => intro u r v h; simp [ZgE] at h
 | succ n ih =>
  intro u r v h hv
  unfold ZgE at h
  split at h
  · split at h
    · rename_i b off i hi
      simp at h; subst h
      obtain ⟨p, hp, rfl⟩ := hv.ptr
      simp only [VR]; exact ⟨p, at_ hi p hp, rfl⟩
    · exact lift (Z3y hobj hle hcell 30 _ _ _ h hv)
  · split at h
    · rename_i b off len cap z i hi
      simp at h; subst h
      obtain ⟨p, a, cap', hp, h1⟩ := hv.slice
      simp only [VR]; exact ⟨p, a, cap', at_ hi p hp, h1⟩
    · exact lift (Z3y hobj hle hcell 30 _ _ _ h hv)
  · split at h
    · rename_i b i hi
      simp at h; subst h
      simp only [VR] at hv ⊢
      obtain ⟨p, hp, h1⟩ := hv
      exact ⟨p, at_ hi p hp, h1⟩
    · cases h
  · split at h <;> simp at h
    rename_i f c hf hc; subst h
    obtain ⟨x, y, rfl, h1, h2⟩ := hv.func
    have each : ∀ {l l' : List AV} {vs : List Value}, Z2N (ZgE m H n) l = some l' -> LR sn ι l vs -> LR sn2 (iot m ι) l' vs := by
     intro l
     induction l with
     | nil => intro l' vs h e; simp [Z2N] at h; subst h; simpa [LR] using e
     | cons c l ih2 =>
      intro l' vs h e
      simp only [Z2N] at h
      split at h <;> simp at h
      rename_i x y hx hy
      subst h
      simp only [LR] at e ⊢
      obtain ⟨d, ds, rfl, h1, h2⟩ := e
      exact ⟨d, ds, rfl, ih _ _ _ hx h1, ih2 hy h2⟩
    simp only [VR]; exact ⟨x, y, rfl, each hf h1, each hc h2⟩
  · exact lift (Z3y hobj hle hcell 30 _ _ _ h hv)
theorem Z6t {sn sn2 : Z0d} {ι : Z0a} {H : Z00} {W : World} {m : List Nat} (hobj : ∀ (b : Nat) (o : AObj) p, H[b]? = some o -> o.alive = true -> ι b = some p -> OR sn ι W o.body p) (hle : Le sn sn2 noI noI)
  (hcell : ∀ (b : Nat) (o : AObj) p, H[b]? = some o -> o.alive = true -> ι b = some p -> ∀ (off : Nat) (v : Value), W.cell? ⟨p.blk, off, none⟩ = some v -> sn2 ⟨p.blk, off, none⟩ = some v) (n : Nat) :
  ∀ (us rs : List AV) (vs : List Value), Z2N (ZgE m H n) us = some rs -> LR sn ι us vs -> LR sn2 (iot m ι) rs vs
 | [], rs, vs, h, e => by simp [Z2N] at h; subst h; simpa [LR] using e
 | u :: us, rs, vs, h, e => by
  simp only [Z2N] at h
  split at h <;> simp at h
  rename_i x y hx hy
  subst h
  simp only [LR] at e ⊢
  obtain ⟨d, ds, rfl, h1, h2⟩ := e
  exact ⟨d, ds, rfl, Zch hobj hle hcell n _ _ _ hx h1, Z6t hobj hle hcell n us y ds hy h2⟩
theorem Z99 : ∀ {H : Z00} {i : Nat} {o : AObj}, Zde H = true -> H[i]? = some o -> Zhr o.body = true
 | [], i, o, h, e => by simp at e
 | x :: H, 0, o, h, e => by simp [Zde] at h e; subst e; exact h.1
 | x :: H, i + 1, o, h, e => by simp [Zde] at h e; exact Z99 h.2 e
theorem Z9c {P : Program} {gl : Glob} {f : Nat} {Hs Hs' Hc : Z00} {fargs cargs : List AV} {r : AV} {m : List Nat} {n : Nat} (hM : Z10 P gl f fargs Hs r Hs') (hargs : Z2N (ZgE m (ZjP m Hc) n) cargs = some fargs) (hsub : HpGe Hc m m Hs 0)
  (hnd : Z1B (m.map (Z3J Hc)) = true) (hlone : Zdp m (m.map (Z3J Hc)) 0 Hc = true) (hev : Zcm m.length Hs Hs' = true) (hro : Zde Hs' = true) (hrr : Zb7 r = true) (hrk : Z0T m.length (Z12 r []) = true) :
  Z10 P gl f cargs Hc (ren (fun b => m.getD b 0) r) (ZbU m Hs' 0 Hc) := by
 intro sn ι W vargs hg hR hl
 obtain ⟨hl1, hg1⟩ := hsub.get
 obtain ⟨hl2, hg2⟩ := Z8v hev
 have inm : ∀ b, b ∈ m -> ∃ (i : Nat) (o o2 : AObj) (p : Place), m[i]? = some b /\ Hc[b]? = some o /\ Hs[i]? = some o2 /\ o.alive = true /\ o2.alive = true /\ ι b = some p := by
  intro b hb
  obtain ⟨i, hi, rfl⟩ := List.mem_iff_getElem.1 hb
  obtain ⟨j, o, o2, x1, x2, x3, x4, x5, _⟩ := hg1 i hi
  rw [List.getElem?_eq_getElem hi] at x1
  cases x1
  obtain ⟨p, hp⟩ := hR.place x2
  exact ⟨i, o, o2, p, List.getElem?_eq_getElem hi, x2, x3, x4, x5, hp⟩
 have apart_ : ∀ (b : Nat) (o : AObj) (p : Place), Hc[b]? = some o -> o.alive = true -> b ∉ m -> ι b = some p -> ∀ b' p', b' ∈ m -> ι b' = some p' -> p'.blk ≠ p.blk := by
  intro b o p ho hoa hb hp b' p' hb' hp' e
  obtain ⟨i, o', o2, q, y1, y2, y3, y4, y5, y6⟩ := inm b' hb'
  have hs := hR.sep b b' o o' p p' ho y2 hoa y4 hp hp' e.symm
  rcases Z9d hlone ho with h | h
  · exact hb (by simpa using h)
  · refine h ?_
    rw [List.mem_map]
    exact ⟨b', hb', by simp only [Z3J, y2]; exact hs.1.symm⟩
 let q : Nat -> Prop := fun c => ∃ b p, b ∈ m /\ ι b = some p /\ p.blk = c
 let sn2 : Z0d := fun a => open Classical in if q a.block \/ ¬ a.block < W.heap.size then none else W.cell? a
 have hsn2 : ∀ a v, sn2 a = some v -> ¬ q a.block /\ a.block < W.heap.size /\ W.cell? a = some v := fun a v h => by
  have h : (open Classical in if q a.block \/ ¬ a.block < W.heap.size then none else W.cell? a) = some v := h
  split at h
  · cases h
  · rename_i hx
    simp only [not_or, Classical.not_not] at hx
    exact ⟨hx.1, hx.2, h⟩
 have hsn2' : ∀ a v, ¬ q a.block -> a.block < W.heap.size -> W.cell? a = some v -> sn2 a = some v := fun a v h1 h2 h3 => by
  show (open Classical in if q a.block \/ ¬ a.block < W.heap.size then none else W.cell? a) = some v
  rw [if_neg (by simp only [not_or, Classical.not_not]; exact ⟨h1, h2⟩)]; exact h3
 have hle : ∀ a v, sn a = some v -> sn2 a = some v := fun a v hv => by
  obtain ⟨h1, h2, h3⟩ := hR.snap a v hv
  refine hsn2' a v ?_ h1 h2
  rintro ⟨b, p, hb, hp, e⟩
  obtain ⟨i, o, o2, p', y1, y2, y3, y4, y5, y6⟩ := inm b hb
  exact h3 b o p y2 y4 hp e
 have hR0 := Zk1 hsub hnd hR
 have atm : ∀ {i : Nat} {p : Place}, iot m ι i = some p -> ∃ b, m[i]? = some b /\ b ∈ m /\ ι b = some p := fun {i p} hp => by
  unfold iot at hp
  split at hp
  · rename_i b hb; exact ⟨b, hb, List.mem_of_getElem? hb, hp⟩
  · cases hp
 have hRs : R sn2 (iot m ι) Hs W := by
  refine ⟨hR0.dom, hR0.blk, fun b o p hb ha hp => Z0C ⟨hle, fun _ _ h => h⟩ rfl (hR0.obj b o p hb ha hp), hR0.sep, fun a v hv => ?_, hR0.shz⟩
  obtain ⟨h1, h2, h3⟩ := hsn2 a v hv
  refine ⟨h2, h3, fun b o p hb ha hp e => ?_⟩
  obtain ⟨c, _, hc, hp'⟩ := atm hp
  exact h1 ⟨c, p, hc, hp', e⟩
 have hla : LR sn2 (iot m ι) fargs vargs := by
  refine Z6t (H := ZjP m Hc) (W := W) (fun b o p hb ha hp => ?_) (Z8o hle) (fun b o p hb ha hp off v hv => ?_) n _ _ _ hargs hl
  · exact hR.obj b o p (Zbi hb ha).1 ha hp
  · obtain ⟨h1, h2⟩ := Zbi hb ha
    refine hsn2' _ v ?_ (hR.blk b p hp) hv
    rintro ⟨b', p', hb', hp', e⟩
    exact apart_ b o p h1 ha h2 hp b' p' hb' hp' e
 refine (hM sn2 (iot m ι) W vargs (hg.mono (Z8o hle)) hRs hla).mono ?_
 rintro e W' ⟨v, sn', ι', rfl, hv, hst⟩
 have hback : ∀ i, i < m.length -> ∀ p, ι' i = some p -> ι (m.getD i 0) = some p := fun i hi p hp => by
  obtain ⟨b, hb⟩ : ∃ b, m[i]? = some b := ⟨m[i], List.getElem?_eq_getElem hi⟩
  obtain ⟨p0, hp0⟩ := (hRs.dom i).1 (by omega)
  have h1 := hst.le.ι i p0 hp0
  rw [hp] at h1; cases h1
  obtain ⟨c, hc, _, hp1⟩ := atm hp0
  rw [hb] at hc; cases hc
  rw [List.getD_eq_getElem?_getD, hb]; exact hp1
 have hfwd : ∀ (i b : Nat) (p : Place), m[i]? = some b -> ι b = some p -> ι' i = some p := fun i b p hb hp => hst.le.ι i p (by simp only [iot, hb]; exact hp)
 have pos_ : ∀ b, b ∈ m -> ∃ i, Z9U m b 0 = some i /\ m[i]? = some b := fun b hb => by
  cases hx : Z9U m b 0 with
  | none => exact (Z95 hx hb).elim
  | some i => exact ⟨i, rfl, by simpa using (Z4p hx).2⟩
 have old : ∀ (b : Nat) (o : AObj) (p : Place), Hc[b]? = some o -> o.alive = true -> b ∉ m -> ι b = some p -> W'.heap[p.blk]? = W.heap[p.blk]? := fun b o p ho hoa hb hp => by
  refine hst.frame _ (hR.blk b p hp) fun i o2 p2 hi ha hp2 e => ?_
  obtain ⟨c, _, hc, hp3⟩ := atm hp2
  exact apart_ b o p ho hoa hb hp c p2 hc hp3 e
 have hup : ∀ (b : Nat) (o' : AObj), (ZbU m Hs' 0 Hc)[b]? = some o' -> ∃ o, Hc[b]? = some o /\ o'.fam = o.fam /\ o'.sh = o.sh /\ ((b ∉ m /\ o' = o) \/ ∃ (i : Nat) (x : AObj), m[i]? = some b /\ Hs'[i]? = some x /\ o'.alive = x.alive /\ o'.body = Zgo (fun b => m.getD b 0) x.body /\ o.alive = true) := by
  intro b o' h
  rw [ZaS] at h
  simp only [Nat.zero_add] at h
  cases hx : Hc[b]? with
  | none => rw [hx] at h; cases h
  | some o =>
   rw [hx] at h
   simp only [Option.map_some, Option.some.injEq] at h
   refine ⟨o, rfl, ?_⟩
   by_cases hb : b ∈ m
   · obtain ⟨i, h1, h2⟩ := pos_ b hb
     have hi : i < m.length := (List.getElem?_eq_some_iff.1 h2).1
     have hi' : i < Hs'.length := by omega
     rw [h1] at h
     simp only [List.getElem?_eq_getElem hi'] at h
     subst h
     obtain ⟨_, y, _, _, _, y2, _, y4, _⟩ := inm b hb
     rw [hx] at y2; cases y2
     exact ⟨rfl, rfl, .inr ⟨i, Hs'[i], h2, List.getElem?_eq_getElem hi', rfl, rfl, y4⟩⟩
   · have hn : Z9U m b 0 = none := by
      cases hx : Z9U m b 0 with
      | none => rfl
      | some i => exact (hb (List.mem_of_getElem? (Z4p hx).2)).elim
     rw [hn] at h
     subst h
     exact ⟨rfl, rfl, .inl ⟨hb, rfl⟩⟩
 have hlen : (ZbU m Hs' 0 Hc).length = Hc.length := by
  have : ∀ (H : Z00) (i : Nat), (ZbU m Hs' i H).length = H.length := by
   intro H
   induction H with
   | nil => intro i; rfl
   | cons o H ih => intro i; simp [ZbU, ih]
  exact this _ _
 have hnr : ∀ c, c < W.heap.size -> (∀ (b : Nat) (o : AObj) p, Hc[b]? = some o -> o.alive = true -> ι b = some p -> p.blk ≠ c) -> W'.heap[c]? = W.heap[c]? := fun c hc hno => by
  refine hst.frame c hc fun i o2 p2 hi ha hp2 e => ?_
  obtain ⟨b, _, hb, hp3⟩ := atm hp2
  obtain ⟨_, o, _, _, _, y2, _, y4, _⟩ := inm b hb
  exact hno b o p2 y2 y4 hp3 e
 have hR' : R sn ι (ZbU m Hs' 0 Hc) W' := by
  refine ⟨fun b => by rw [hlen]; exact hR.dom b, fun b p hp => Nat.lt_of_lt_of_le (hR.blk b p hp) hst.size, fun b o' p hb ha hp => ?_, fun b b' o o' p p' hb hb' ha ha' hp hp' e => ?_, fun a v hv => ?_, fun b o' p hb hp e => ?_⟩
  · obtain ⟨o, ho, _, _, h | ⟨i, x, h1, h2, h3, h4, h5⟩⟩ := hup b o' hb
    · obtain ⟨h1, rfl⟩ := h
      exact Z0C (Le.refl _ _) (old b _ p ho ha h1 hp) (hR.obj b _ p ho ha hp)
    · rw [h4]
      have hi : i < m.length := (List.getElem?_eq_some_iff.1 h1).1
      have h6 := hst.rel.obj i x p h2 (by rw [<- h3]; exact ha) (hfwd i b p h1 hp)
      have h7 := (hg2 i _ x (List.getElem?_eq_getElem (by omega)) h2).2.2.2
      exact ZjH x.body (Z8M x.body p (fun y hy => hback y (Z1R h7 y hy)) (ZiD x.body (Z99 hro h2) h6))
  · obtain ⟨x, hx, e1, e2, hz⟩ := hup b o hb
    obtain ⟨y, hy, e3, e4, hw⟩ := hup b' o' hb'
    have hxa : x.alive = true := by
     rcases hz with ⟨_, rfl⟩ | ⟨_, _, _, _, _, _, h⟩
     · exact ha
     · exact h
    have hya : y.alive = true := by
     rcases hw with ⟨_, rfl⟩ | ⟨_, _, _, _, _, _, h⟩
     · exact ha'
     · exact h
    have := hR.sep b b' x y p p' hx hy hxa hya hp hp' e
    rw [e1, e2, e3, e4]; exact this
  · obtain ⟨h1, h2, h3⟩ := hR.snap a v hv
    refine ⟨Nat.lt_of_lt_of_le h1 hst.size, ?_, fun b o' p hb ha hp => ?_⟩
    · rw [<- h2]; exact World.cell?_of_block (hnr _ h1 h3)
    · obtain ⟨o, ho, _, _, h | ⟨i, x, _, _, _, _, h5⟩⟩ := hup b o' hb
      · obtain ⟨_, rfl⟩ := h; exact h3 b _ p ho ha hp
      · exact h3 b o p ho h5 hp
  · obtain ⟨o, ho, _, e2, _⟩ := hup b o' hb
    exact hR.shz b o p ho hp (by rw [<- e2]; exact e)
 refine ⟨v, sn, ι, rfl, ?_, hR', Le.refl _ _, fun _ _ h => .inl h, hnr, hst.size, hst.os, hst.tape, hst.output, fun _ _ h => .inl h, fun b o hb => ?_⟩
 · exact (Z6V r v).2 (Z1t r [] v (fun y hy => hback y (Z1R hrk y hy)) (Z47 r v hrr hv))
 · have hb' : b < (ZbU m Hs' 0 Hc).length := by rw [hlen]; exact (List.getElem?_eq_some_iff.1 hb).1
   have hx := List.getElem?_eq_getElem hb'
   obtain ⟨x, hx1, e1, e2, h | ⟨i, y, h1, h2, h3, h4, h5⟩⟩ := hup b _ hx
   · rw [hb] at hx1; cases hx1
     exact ⟨_, hx, e1, e2, fun ha => by rw [h.2] at ha; exact ha⟩
   · rw [hb] at hx1; cases hx1
     exact ⟨_, hx, e1, e2, fun _ => h5⟩
end Go.Abs
end

section
namespace Go.Proofs.YtbaoadpoknhhoaaGreatDoor.lex
open Go.Abs Go.RowKit
set_option maxRecDepth 100000
set_option maxHeartbeats 4000000
theorem follows : Tryz.prog.follows .mixedOrders = true := by kernel_rfl
theorem Z8j : (Tryz.prog.funcs.toList.all fun fn => !(fn.name == "runtime.NumGoroutine")) = true := by kernel_rfl
theorem noNum : NoNum Tryz.prog := ⟨fun g fn h => by
 have h1 := List.all_eq_true.1 Z8j fn (Array.mem_toList_iff.2 (Array.mem_of_getElem? h))
 simpa using h1, of_decide_eq_true (by kernel_rfl)⟩
variable {gl : Glob}
theorem Z1n : OrcSound Tryz.prog gl (Zgr fun _ _ => none) := Z4T fun _ _ _ h => by cases h
def Zgv (n : Int) : Bool := decide (97 <= n) && decide (n <= 122) || decide (65 <= n) && decide (n <= 90)
def Zi4 (n : Int) : Bool := decide (48 <= n) && decide (n <= 57)
theorem Zjb (n : Int) : ValOK Tryz.prog gl 182 [.int .u8 n] (.bool (Zgv n)) := by
 refine Z15 follows noNum Z1n Tryz.func182 rfl ?_
 repeat' ((conv => whnf); first | refine stp ?_ | with_reducible refine Z05 (fun h => ?_) (fun h => ?_))
 all_goals (try simp_all [Z1D, Zgv])
 all_goals omega
theorem Zjv (n : Int) : ValOK Tryz.prog gl 185 [.int .u8 n] (.bool (Zi4 n)) := by
 refine Z15 follows noNum Z1n Tryz.func185 rfl ?_
 repeat' ((conv => whnf); first | refine stp ?_ | with_reducible refine Z05 (fun h => ?_) (fun h => ?_))
 all_goals (try simp_all [Z1D, Zi4])
 all_goals omega
theorem ZhA (n : Int) : ValOK Tryz.prog gl 152 [.int .u8 n] (.bool (Zgv n)) := by
 refine Z15 follows noNum Z1n Tryz.func152 rfl ?_
 repeat' ((conv => whnf); first | refine stp ?_ | with_reducible refine Z05 (fun h => ?_) (fun h => ?_))
 all_goals (try simp_all [Z1D, Zgv])
 all_goals omega
theorem Zi3 (n : Int) : ValOK Tryz.prog gl 153 [.int .u8 n] (.bool (Zi4 n)) := by
 refine Z15 follows noNum Z1n Tryz.func153 rfl ?_
 repeat' ((conv => whnf); first | refine stp ?_ | with_reducible refine Z05 (fun h => ?_) (fun h => ?_))
 all_goals (try simp_all [Z1D, Zi4])
 all_goals omega
def F1 (f : Nat) (xs : List AV) : Option AV := match f with
 | 182 => match xs with | [.int .u8 n] => some (.bool (Zgv n)) | _ => none
 | 185 => match xs with | [.int .u8 n] => some (.bool (Zi4 n)) | _ => none
 | 152 => match xs with | [.int .u8 n] => some (.bool (Zgv n)) | _ => none
 | 153 => match xs with | [.int .u8 n] => some (.bool (Zi4 n)) | _ => none
 | _ => none
theorem ZgP {f : Nat} {xs : List AV} {r : AV} (h : F1 f xs = some r) : plain r = true /\ ValOK Tryz.prog gl f xs r := by
 unfold F1 at h
 split at h <;> try (cases h; done)
 all_goals (split at h <;> cases h)
 · exact ⟨rfl, Zjb _⟩
 · exact ⟨rfl, Zjv _⟩
 · exact ⟨rfl, ZhA _⟩
 · exact ⟨rfl, Zi3 _⟩
theorem Zgf : OrcSound Tryz.prog gl (Z9V F1) := Z1F fun f xs r h => ZgP h
def ZiF (n : Int) : Bool := Zgv n || Zi4 n || n == 95
theorem Zf3 (n : Int) : ValOK Tryz.prog gl 184 [.int .u8 n] (.bool (ZiF n)) := by
 refine Z15 follows noNum Zgf Tryz.func184 rfl ?_
 repeat' ((conv => whnf); first | refine stp ?_ | with_reducible refine Z05 (fun h => ?_) (fun h => ?_))
 all_goals (try simp_all [Z1D, ZiF])
def F2 (f : Nat) (xs : List AV) : Option AV := match f with
 | 184 => match xs with | [.int .u8 n] => some (.bool (ZiF n)) | _ => none
 | f => F1 f xs
theorem ZgO {f : Nat} {xs : List AV} {r : AV} (h : F2 f xs = some r) : plain r = true /\ ValOK Tryz.prog gl f xs r := by
 unfold F2 at h
 split at h
 · split at h <;> cases h
   exact ⟨rfl, Zf3 _⟩
 · exact ZgP h
theorem Zge : OrcSound Tryz.prog gl (Z9V F2) := Z1F fun f xs r h => ZgO h
def Z62 (p : Int -> Bool) (s : List UInt8) : Nat := (s.takeWhile fun c => p c.toNat).length
theorem ZbX {p : Int -> Bool} {c : UInt8} (l : List UInt8) (h : p c.toNat = true) : Z62 p (c :: l) = Z62 p l + 1 := by simp [Z62, h]
theorem Za5 {p : Int -> Bool} {c : UInt8} (l : List UInt8) (h : p c.toNat = false) : Z62 p (c :: l) = 0 := by simp [Z62, h]
theorem Zh6 (g : Nat) (p : Int -> Bool) (hF : ∀ n, F2 g [.int .u8 n] = some (.bool (p n))) (hb : Z09 Tryz.prog g = true) (s : List UInt8) (hs : s.length <= 9223372036854775807) :
  ValOK Tryz.prog gl 183 [.str s, .func (.func g) [] []] (.int .i64 (Z62 p s)) := by
 refine Z15 follows noNum Zge Tryz.func183 rfl ?_
 conv => whnf
 refine ⟨Nat, (fun k => k <= s.length /\ Z62 p s = k + Z62 p (s.drop k)), (fun k => [(0, .str s), (1, .func (.func g) [] []), (5, .int .i64 k)]), (fun _ => []), (fun k => s.length - k), ⟨0, ⟨Nat.zero_le _, by simp⟩, ?_⟩, ?_⟩
 · refine FgL.mk0 rfl ?_
   refine And.intro (Wk.noref rfl) ?_
   refine And.intro (Wk.noref rfl) ?_
   refine And.intro (Wk.noref rfl) ?_
   trivial
 · intro k ⟨hk, hsp⟩
   by_cases hlt : k < s.length
   · have e1 : decide ((k : Int) < (s.length : Int)) = true := by simpa using hlt
     have hc : s[k]? = some s[k] := by simp [hlt]
     have hd : s.drop k = s[k] :: s.drop (k + 1) := List.drop_eq_getElem_cons hlt
     cases hp : p s[k].toNat with
     | true =>
      repeat' ((conv => whnf); first | with_reducible refine ixS _ rfl hc ?_ | with_reducible refine exI (Z8y hb rfl (hF _)) ?_ | (first | refine stp ?_ | with_reducible refine Z05 (fun h => ?_) (fun h => ?_)))
      (conv => whnf)
      have hn := ZbX (s.drop (k + 1)) hp
      rw [<- hd] at hn
      exact ⟨k + 1, ⟨hlt, by omega⟩, by show s.length - (k + 1) < s.length - k; omega, FgL.mk0 rfl ⟨Wk.noref rfl, Wk.noref rfl, Wk.int rfl, trivial⟩⟩
     | false =>
      repeat' ((conv => whnf); first | with_reducible refine ixS _ rfl hc ?_ | with_reducible refine exI (Z8y hb rfl (hF _)) ?_ | (first | refine stp ?_ | with_reducible refine Z05 (fun h => ?_) (fun h => ?_)))
      have hn := Za5 (s.drop (k + 1)) hp
      rw [<- hd] at hn
      rw [hsp, hn]; rfl
   · have e1 : decide ((k : Int) < (s.length : Int)) = false := by simpa using hlt
     have hk' : k = s.length := by omega
     repeat' ((conv => whnf); first | refine stp ?_ | with_reducible refine Z05 (fun h => ?_) (fun h => ?_))
     rw [hsp, hk']; simp [Z1D, Z62]
def F3 (f : Nat) (xs : List AV) : Option AV := match f with
 | 183 => match xs with
  | [.str s, .func (.func 184) [] []] => if s.length <= 9223372036854775807 then some (.int .i64 (Z62 ZiF s)) else none
  | _ => none
 | f => F2 f xs
theorem ZgN {f : Nat} {xs : List AV} {r : AV} (h : F3 f xs = some r) : plain r = true /\ ValOK Tryz.prog gl f xs r := by
 unfold F3 at h
 split at h
 · split at h <;> try (cases h; done)
   split at h <;> cases h
   rename_i hs
   exact ⟨rfl, Zh6 184 ZiF (fun _ => rfl) (by kernel_rfl) _ hs⟩
 · exact ZgO h
theorem ZbQ : OrcSound Tryz.prog gl (Z9V F3) := Z1F fun f xs r h => ZgN h
def Z4L : List UInt8 -> Nat
 | [] => 0
 | c :: s => if Zgv c.toNat then Z62 ZiF (c :: s) else 0
theorem ZgV (s : List UInt8) (hs : s.length <= 9223372036854775807) : ValOK Tryz.prog gl 161 [.str s] (.int .i64 (Z4L s)) := by
 match s with
 | [] =>
  refine Z15 follows noNum ZbQ Tryz.func161 rfl ?_
  repeat' ((conv => whnf); first | refine stp ?_ | with_reducible refine Z05 (fun h => ?_) (fun h => ?_))
  all_goals (try simp_all [Z1D, Z4L])
 | c :: s =>
  have h1 : ((c :: s) == []) = false := by simp
  have h2 : (c :: s)[0]? = some c := rfl
  refine Z15 follows noNum ZbQ Tryz.func161 rfl ?_
  repeat' ((conv => whnf); first | with_reducible refine ixS 0 rfl h2 ?_ | (first | refine stp ?_ | with_reducible refine Z05 (fun h => ?_) (fun h => ?_)))
  all_goals (try (simp_all [Z1D, Z4L]; done))
def keysL : List (List UInt8) := [[115, 104, 97, 114, 101, 100], [112, 108, 97, 105, 110], [116, 104, 114, 101, 97, 100], [105, 102], [101, 108, 115, 101], [119, 104, 105, 108, 101], [108, 111, 97, 100], [115, 116, 111, 114, 101], [99, 97, 115], [97, 100, 100], [115, 119, 97, 112], [102, 101, 110, 99, 101], [97, 115, 115, 117, 109, 101], [97, 115, 115, 101, 114, 116], [110, 97], [114, 108, 120], [97, 99, 113], [114, 101, 108], [97, 114], [115, 99]]
def ZdS : Nat -> List (List UInt8) -> List (AV × AV × Nat)
 | _, [] => []
 | n, k :: l => (.str k, .agg [], n) :: ZdS (n + 1) l
theorem ZdI (x : List UInt8) : ∀ (l : List (List UInt8)) (n i : Nat), ∃ o, Z3n .string (.str x) (ZdS n l) i = some o /\ o.isSome = l.contains x /\ ∀ p, o = some p -> p.2 = .agg []
 | [], n, i => ⟨none, rfl, by simp, fun p h => by cases h⟩
 | k :: l, n, i => by
  obtain ⟨o, h1, h2, h3⟩ := ZdI x l (n + 1) (i + 1)
  by_cases e : x = k
  · subst e
    exact ⟨some (i, .agg []), by simp [ZdS, Z3n, Z6R], by simp, fun p h => by cases h; rfl⟩
  · refine ⟨o, ?_, by simp [h2, e], h3⟩
    have : (x == k) = false := by simpa using e
    simp [ZdS, Z3n, Z6R, this, h1]
theorem kdK : Z2i Tryz.prog 152 = some (.string, 153) := by kernel_rfl
theorem Z5I {H : Z00} {b : Nat} (x : List UInt8) (h : Zdm H (.map b) = some (ZdS 0 keysL)) : Z3m Tryz.prog 152 (.map b) (.str x) true H = some (.tuple [.agg [], .bool (keysL.contains x)]) := by
 obtain ⟨o, h1, h2, h3⟩ := ZdI x keysL 0 0
 have hz : Z1C Tryz.prog 153 = some (.agg []) := by kernel_rfl
 simp only [Z3m, kdK, h, h1, <- h2]
 cases o with
 | none => simp [hz]
 | some p => have := h3 p rfl; obtain ⟨j, v⟩ := p; subst this; simp
def Z6Z (s : List UInt8) : AV := if s ≠ [] /\ Z4L s = s.length then .tuple [.int .i64 (if keysL.contains s then 2 else 1), .bool true] else .tuple [.int .i64 0, .bool false]
def F4 (f : Nat) (xs : List AV) : Option AV := match f with
 | 161 => match xs with | [.str s] => if s.length <= 9223372036854775807 then some (.int .i64 (Z4L s)) else none | _ => none
 | f => F3 f xs
theorem ZjI {f : Nat} {xs : List AV} {r : AV} (h : F4 f xs = some r) : plain r = true /\ ValOK Tryz.prog gl f xs r := by
 unfold F4 at h
 split at h
 · split at h <;> try (cases h; done)
   split at h <;> cases h
   rename_i hs; exact ⟨rfl, ZgV _ hs⟩
 · exact ZgN h
theorem Zgd : OrcSound Tryz.prog gl (Z9V F4) := Z1F fun f xs r h => ZjI h
section
attribute [local irreducible] Z4L
theorem Zf2 (s : List UInt8) (hs : s.length <= 9223372036854775807) : ValOK Tryz.prog gl 126 [.str s] (Z6Z s) := by
 have e2 : F4 161 [.str s] = some (.int .i64 (Z4L s)) := by simp only [F4]; rw [if_pos (by omega)]
 have hb : Z09 Tryz.prog 161 = true := by kernel_rfl
 refine Zan (fun g => Nat.beq g 161) 2 follows noNum Zgd Tryz.func126 rfl ?_
 by_cases h0 : s = []
 · have e1 : (s == []) = true := by simpa using h0
   repeat' ((conv => whnf); (first | refine stp ?_ | with_reducible refine Z05 (fun h => ?_) (fun h => ?_)))
   unfold Z6Z; rw [if_neg (by simp [h0])]
 · have e1 : (s == []) = false := by simpa using h0
   by_cases hw : Z4L s = s.length
   · have e3 : ((Z4L s : Int) != (s.length : Int)) = false := by rw [hw]; simp
     have eR : Z6Z s = .tuple [.int .i64 (if keysL.contains s then 2 else 1), .bool true] := by unfold Z6Z; rw [if_pos ⟨h0, hw⟩]
     rw [eR]
     cases hc : keysL.contains s with
     | true =>
      repeat' ((conv => whnf); first | (with_reducible refine exI (Z8y hb rfl e2) ?_) | (with_reducible refine exI (Z5I _ ?_) ?_; (focus rfl)) | (first | refine stp ?_ | with_reducible refine Z05 (fun h => ?_) (fun h => ?_)))
      conv => whnf
      refine exI (Z5I _ ?_) ?_
      · rfl
      rw [hc]
      repeat' ((conv => whnf); (first | refine stp ?_ | with_reducible refine Z05 (fun h => ?_) (fun h => ?_)))
      rfl
     | false =>
      repeat' ((conv => whnf); first | (with_reducible refine exI (Z8y hb rfl e2) ?_) | (with_reducible refine exI (Z5I _ ?_) ?_; (focus rfl)) | (first | refine stp ?_ | with_reducible refine Z05 (fun h => ?_) (fun h => ?_)))
      conv => whnf
      refine exI (Z5I _ ?_) ?_
      · rfl
      rw [hc]
      repeat' ((conv => whnf); (first | refine stp ?_ | with_reducible refine Z05 (fun h => ?_) (fun h => ?_)))
      rfl
   · have e3 : ((Z4L s : Int) != (s.length : Int)) = true := by simp; omega
     repeat' ((conv => whnf); first | (with_reducible refine exI (Z8y hb rfl e2) ?_) | (first | refine stp ?_ | with_reducible refine Z05 (fun h => ?_) (fun h => ?_)))
     unfold Z6Z; rw [if_neg (fun h => hw h.2)]
end
end Go.Proofs.YtbaoadpoknhhoaaGreatDoor.lex
end

section
namespace Go.Abs
open Go.RowKit Go.Maps
open Go.Proofs (encStr)
def Zac (P : Program) (gl : Glob) (isO : Nat -> List AV -> Bool) (tbl : Orc) (fuel : Nat) : Nat -> Orc
 | 0 => fun _ _ _ => none
 | n + 1 => fun f args H => if isO f args = true then tbl f args H else Z9E P gl (Zac P gl isO tbl fuel n) fuel f args H
theorem Z65 {P : Program} {gl : Glob} {isO : Nat -> List AV -> Bool} {tbl : Orc} {fuel : Nat} (hm : P.follows .mixedOrders = true) (hn : NoNum P) (ht : OrcSound P gl tbl) : ∀ n, OrcSound P gl (Zac P gl isO tbl fuel n)
 | 0 => by intro f args H r H' h; simp [Zac] at h
 | n + 1 => by
  have := Z6N (fuel := fuel) hm hn (Z65 (fuel := fuel) (isO := isO) hm hn ht n)
  intro f args H r H' h
  simp only [Zac] at h
  split at h
  · exact ht f args H r H' h
  · exact this f args H r H' h
noncomputable def ZdB (P : Program) (gl : Glob) (isO : Nat -> List AV -> Bool) (fo : Z4K) (fuel n : Nat) : Z4K :=
 Nat.rec (motive := fun _ => Z4K) (fun _ _ _ => none) (fun _ ih f args T => iff' (isO f args) (fo f args T) (Option.rec none (fun run => run ih args T) (ZdL P gl fuel f))) n
section
variable {P : Program} {gl : Glob} {fuel : Nat}
theorem Zbn {isO : Nat -> List AV -> Bool} {fo : Z4K} {tbl : Orc} (hs : Z16 fo tbl) : ∀ m, Z16 (ZdB P gl isO fo fuel m) (Zac P gl isO tbl fuel m)
 | 0 => by intro f args T r T' h; cases h
 | m + 1 => by
  intro f args T r T' h H hR
  rcases Z0u (show iff' (isO f args) (fo f args T) (Option.rec none (fun run => run (ZdB P gl isO fo fuel m) args T) (ZdL P gl fuel f)) = some (r, T') from h) with ⟨h1, h2⟩ | ⟨h1, h2⟩
  · obtain ⟨H', g1, g2⟩ := hs f args T r T' h2 H hR
    exact ⟨H', by simp [Zac, h1, g1], g2⟩
  · cases hf : ZdL P gl fuel f with
    | none => rw [hf] at h2; cases h2
    | some run =>
     rw [hf] at h2
     obtain ⟨H', g1, g2⟩ := ZfR (Zbn hs m) hf hR h2
     exact ⟨H', by simp [Zac, h1, g1], g2⟩
theorem Z6o (hm : P.follows .mixedOrders = true) (hn : NoNum P) {isO : Nat -> List AV -> Bool} {fo : Z4K} {tbl : Orc} (hs : Z16 fo tbl) (ht : OrcSound P gl tbl)
  {l : List (Nat × List AV)} (hl : OrcSound P gl (tblO l)) {m f : Nat} {az : List AV} (hrefs : refsL az [] = []) (h : Z5D (ZdB P gl isO fo fuel m f az TH.empty) = true) : OrcSound P gl (tblO ((f, az) :: l)) := by
 obtain ⟨T', h'⟩ := Z89 h
 obtain ⟨H', h1, _⟩ := Zbn hs m f az TH.empty _ T' h' [] Rep.empty
 exact ZcN hl hrefs (Z65 hm hn ht m) h1
def ZhL (l : List (Nat × List AV)) : Z4K := fun f args T => if ZiL f args l then some (.bool true, T) else none
theorem Zdx (l : List (Nat × List AV)) : Z16 (ZhL l) (tblO l) := by
 intro f args T r T' h H hR
 simp only [ZhL] at h
 split at h <;> simp at h
 obtain ⟨rfl, rfl⟩ := h
 exact ⟨H, by simp [tblO, *], hR⟩
def Z5L (g : Nat -> List AV -> Bool) (a b : Z4K) : Z4K := fun f args T => if g f args = true then a f args T else b f args T
def Zaf (g : Nat -> List AV -> Bool) (a b : Orc) : Orc := fun f args H => if g f args = true then a f args H else b f args H
theorem Z2K {g : Nat -> List AV -> Bool} {a b : Orc} (ha : OrcSound P gl a) (hb : OrcSound P gl b) : OrcSound P gl (Zaf g a b) := by
 intro f args H r H' h
 simp only [Zaf] at h
 split at h
 · exact ha f args H r H' h
 · exact hb f args H r H' h
theorem Z5k {g : Nat -> List AV -> Bool} {fa fb : Z4K} {a b : Orc} (ha : Z16 fa a) (hb : Z16 fb b) : Z16 (Z5L g fa fb) (Zaf g a b) := by
 intro f args T r T' h H hR
 simp only [Z5L] at h
 split at h
 · obtain ⟨H', h1, h2⟩ := ha f args T r T' h H hR
   exact ⟨H', by simp [Zaf, *], h2⟩
 · obtain ⟨H', h1, h2⟩ := hb f args T r T' h H hR
   exact ⟨H', by simp [Zaf, *], h2⟩
end
def ZhF (x : List UInt8) : List (List UInt8) -> List (List UInt8)
 | [] => [x]
 | y :: l => if leB x y = true then x :: y :: l else y :: ZhF x l
def Z2g : List (List UInt8) -> List (List UInt8)
 | [] => []
 | x :: l => ZhF x (Z2g l)
theorem Z6r (x : List UInt8) : ∀ l : List (List UInt8), (ZhF x l).Perm (x :: l)
 | [] => .refl _
 | y :: l => by
  simp only [ZhF]
  split
  · exact .refl _
  · exact ((Z6r x l).cons y).trans (.swap x y l)
theorem Z4P : ∀ l : List (List UInt8), (Z2g l).Perm l
 | [] => .refl _
 | x :: l => (Z6r x _).trans ((Z4P l).cons x)
theorem Z9f (a b : List UInt8) : leB a b = true \/ leB b a = true := by
 simp only [leB, decide_eq_true_eq]
 exact List.le_total a b
theorem Z9e {a b c : List UInt8} (h : leB a b = true) (h' : leB b c = true) : leB a c = true := by
 simp only [leB, decide_eq_true_eq] at *
 exact List.le_trans h h'
theorem ZfF {a b : List UInt8} (h : leB a b = true) (h' : leB b a = true) : a = b := by
 simp only [leB, decide_eq_true_eq] at *
 exact List.le_antisymm h h'
theorem Z6q (x : List UInt8) : ∀ l : List (List UInt8), l.Pairwise (fun a b => leB a b = true) -> (ZhF x l).Pairwise (fun a b => leB a b = true)
 | [], _ => by simp [ZhF]
 | y :: l, h => by
  rw [List.pairwise_cons] at h
  simp only [ZhF]
  split
  · rename_i hxy
    rw [List.pairwise_cons]
    refine ⟨fun a ha => ?_, by rw [List.pairwise_cons]; exact h⟩
    rcases List.mem_cons.1 ha with rfl | ha
    · exact hxy
    · exact Z9e hxy (h.1 a ha)
  · rename_i hxy
    rw [List.pairwise_cons]
    refine ⟨fun a ha => ?_, Z6q x l h.2⟩
    rcases List.mem_cons.1 ((Z6r x l).mem_iff.1 ha) with rfl | ha
    · exact (Z9f a y).resolve_left hxy
    · exact h.1 a ha
theorem Z5b : ∀ l : List (List UInt8), (Z2g l).Pairwise (fun a b => leB a b = true)
 | [] => List.Pairwise.nil
 | x :: l => Z6q x _ (Z5b l)
theorem Z90 {l l' : List (List UInt8)} (hp : l'.Perm l) (hs : l'.Pairwise (fun a b => leB a b = true)) : l' = Z2g l :=
 List.Perm.eq_of_pairwise (le := fun a b => leB a b = true) (fun a b _ _ h1 h2 => ZfF h1 h2) hs (Z5b l) (hp.trans (Z4P l).symm)
theorem Z6k {ss l : List (List UInt8)} (hp : ss.Perm l) : ss.mergeSort leB = Z2g l := by
 refine Z90 ((List.mergeSort_perm ss leB).trans hp) ?_
 exact List.pairwise_mergeSort (le := leB) (fun a b c h1 h2 => Z9e h1 h2) (fun a b => by simp only [Bool.or_eq_true]; exact Z9f a b) ss
def SortsKeys (P : Program) (fS fI kt : Nat) : Prop := ∀ (Bm b nn : Nat) (D0 : DataW Unit) (R : Value -> Option (DataW Unit × List MemPlace)) (W : World),
 W.cell? ⟨Bm, 0, none⟩ = some (.map (some b)) -> W.ownsMap P kt R b nn D0 -> Maps.size D0 <= maxLen -> Maps.size D0 * 16 <= 140737488355328 ->
 Calls P fS #[.func (.func fI) #[] #[.pointer (some ⟨Bm, 0, none⟩)]] W fun e W' => ∃ (v : Value) (ss : List (List UInt8)), e = .returned v /\ ss.Perm (strKeys D0) /\
  W'.ownsRow W.heap.size kt 1 v ss.length ((ss.mergeSort leB).map encStr) /\ (v = .slice none 0 0 ↔ ss = []) /\ Below W.heap.size W W'
def rsK (l : List (List UInt8)) : AV := .rs l.length 1 (l.map .str)
theorem ZeP {sn : Z0d} {ι : Z0a} : ∀ {l : List (List UInt8)}, LR sn ι (l.map .str) (l.map encStr)
 | [] => by simp [LR]
 | x :: l => by
  simp only [List.map_cons, LR]
  exact ⟨_, _, rfl, by simp [VR, encStr], ZeP⟩
theorem ZeW {sn : Z0d} {ι : Z0a} : ∀ {es : List (AV × AV × Nat)} {l : List MapEntry} {keys : List (List UInt8)}, ER sn ι es l -> es.map (·.1) = keys.map AV.str -> l.map (·.key) = keys.map encStr /\ l.map (·.born) = es.map (·.2.2)
 | [], l, keys, h, hk => by
  simp [ER] at h; subst h
  cases keys <;> simp at hk
  simp
 | (k, v, n) :: es, l, keys, h, hk => by
  simp only [ER] at h
  obtain ⟨x, l', rfl, h1, h2, h3, h4⟩ := h
  cases keys with
  | nil => simp at hk
  | cons c keys =>
   simp only [List.map_cons, List.cons.injEq] at hk
   obtain ⟨rfl, hk⟩ := hk
   obtain ⟨e1, e2⟩ := ZeW h4 hk
   obtain ⟨ba, e3, e4⟩ := h1.str
   simp only [List.map_cons, e1, e2, h3, and_true, List.cons.injEq]
   rw [e3, <- e4]
theorem Z6W {sn : Z0d} {W : World} {g : Nat} {B : Nat} (hg : B <= g) : ∀ (us : List AV) (vs : List Value) (o : Nat), LR (snx sn B W) noI us vs -> (∀ (i : Nat) (v : Value), vs[i]? = some v -> W.cell? ⟨g, o + i, none⟩ = some v) -> MR (snx sn B W) us g o
 | [], vs, o, h, hc => by simp [MR]
 | u :: us, vs, o, h, hc => by
  simp only [LR] at h
  obtain ⟨d, ds, rfl, h1, h2⟩ := h
  simp only [MR]
  refine ⟨⟨d, ?_, h1⟩, Z6W hg us ds (o + 1) h2 fun i v hv => ?_⟩
  · have := hc 0 d rfl
    simp only [snx]
    rw [if_neg (show ¬ g < B by omega)]
    exact this
  · have := hc (i + 1) v (by simpa using hv)
    rw [show o + 1 + i = o + (i + 1) from by omega]; exact this
theorem Z8Z {P : Program} {fS fI kt : Nat} (hS : SortsKeys P fS fI kt) (hk : P.underlying kt = some .string) {sn : Z0d} {ι : Z0a} {H : Z00} {W : World} (hR : R sn ι H W)
  {c b : Nat} {oc ob : AObj} {cs : List AV} {ty : TypeId} {es : List (AV × AV × Nat)} {clock : Nat} {keys : List (List UInt8)}
  (hc : H[c]? = some oc) (hca : oc.alive = true) (hcs : oc.sh = 0) (hcb : oc.body = .cells (.map b :: cs) ty) (hb : H[b]? = some ob) (hba : ob.alive = true) (hbb : ob.body = .map es clock)
  (hkeys : es.map (·.1) = keys.map AV.str) (hnd : keys.Nodup) (hlen : ∀ k ∈ keys, k.length <= maxLen) (hbn : (es.map (·.2.2)).Nodup) (hbc : ∀ n ∈ es.map (·.2.2), n < clock) (hsz : keys.length <= 1000000)
  {cargs : List Value} (ha : LR sn ι [.func (.func fI) [] [.ptr c 0]] cargs) :
  Calls P fS cargs.toArray W fun e W' => ∃ v sn' ι', e = .returned v /\ VR sn' ι' (rsK (Z2g keys)) v /\ Stp sn ι H W sn' ι' H W' := by
 obtain ⟨pc, hpc⟩ := hR.place hc
 obtain ⟨pb, hpb⟩ := hR.place hb
 have hoc := hR.obj c oc pc hc hca hpc
 have hob := hR.obj b ob pb hb hba hpb
 rw [hcb] at hoc; rw [hbb] at hob
 simp only [OR] at hoc hob
 obtain ⟨arr, hw1, hw2, hw3, hw4⟩ := hoc
 obtain ⟨mes, hm1, hm2⟩ := hob
 have hz := hR.shz c oc pc hc hpc hcs
 obtain ⟨v0, hv0, hv1⟩ := hw4 0 (.map b) rfl
 obtain ⟨p', hp', rfl⟩ := hv1.map
 rw [hpb] at hp'; simp at hp'; subst hp'
 have hcell : W.cell? ⟨pc.blk, 0, none⟩ = some (.map (some pb.blk)) := by
  rw [Z0P hw1]; rw [hz] at hv0; simpa using hv0
 obtain ⟨hk1, hk2⟩ := ZeW hm2 hkeys
 have hlens : mes.size = keys.length := by
  have := congrArg List.length hk1
  simpa using this
 have hmx : maxLen = 9223372036854775807 := rfl
 let R0 : Value -> Option (DataW Unit × List MemPlace) := fun _ => some (.nil, [])
 have hkeyOf : ∀ x ∈ mes.toList, ∃ s, x.key = encStr s /\ s ∈ keys /\ keyOf P kt x.key = some (.string s) := by
  intro x hx
  have : x.key ∈ mes.toList.map (·.key) := List.mem_map_of_mem hx
  rw [hk1] at this
  obtain ⟨s, hs, e⟩ := List.mem_map.1 this
  refine ⟨s, e.symm, hs, ?_⟩
  rw [<- e]
  have hl := hlen s hs
  simp only [keyOf, hk, mapKey, encStr]
  have : (⟨⟨s⟩⟩ : ByteArray).size <= maxLen := by simpa [ByteArray.size] using hl
  rw [if_pos this]
 have hF : WideElems.Fit P kt R0 mes clock := by
  refine ⟨by omega, ⟨fun x hx => ?_, by rw [hk2]; exact hbn, ?_⟩, fun x hx => ?_⟩
  · exact hbc _ (by rw [<- hk2]; exact List.mem_map_of_mem hx)
  · rw [hk1]
    exact (List.nodup_iff_pairwise_ne.1 hnd).map _ fun a b hab e => hab (encStr_inj e)
  · obtain ⟨s, _, _, h3⟩ := hkeyOf x hx
    exact ⟨(.string s, .nil), by simp [WideElems.rd, h3, R0]⟩
 let D0 : DataW Unit := .map ((mes.toList.map (WideElems.rg P kt R0)).foldr DataW.insert [])
 have hown : W.ownsMap P kt R0 pb.blk mes.size D0 := ⟨mes, clock, hm1, hF, Nat.le_refl _, rfl⟩
 have hsize : Maps.size D0 = mes.size := by simp only [D0, Maps.size]; exact length_read mes
 have hperm : (strKeys D0).Perm keys := by
  have h1 : ((mes.toList.map (WideElems.rg P kt R0)).foldr DataW.insert []).Perm (mes.toList.map (WideElems.rg P kt R0)) := by
   generalize mes.toList.map (WideElems.rg P kt R0) = l
   induction l with
   | nil => exact .refl _
   | cons x l ih =>
    have hins : ∀ (y : Lit × DataW Unit) (m : List (Lit × DataW Unit)), (DataW.insert y m).Perm (y :: m) := by
     intro y m
     induction m with
     | nil => exact .refl _
     | cons z m ih2 =>
      simp only [DataW.insert]
      split
      · exact .refl _
      · exact (ih2.cons z).trans (.swap y z m)
    exact (hins x _).trans (ih.cons x)
  have h2 := h1.map (fun p => strOf p.1)
  refine h2.trans ?_
  have : (mes.toList.map (WideElems.rg P kt R0)).map (fun p => strOf p.1) = keys := by
   have e : (mes.toList.map (WideElems.rg P kt R0)).map (fun p => encStr (strOf p.1)) = keys.map encStr := by
    rw [<- hk1, List.map_map]
    refine List.map_congr_left fun x hx => ?_
    obtain ⟨s, h1, _, h3⟩ := hkeyOf x hx
    have hr : WideElems.rd P kt R0 x = some (.string s, .nil) := by simp [WideElems.rd, h3, R0]
    simp only [Function.comp, WideElems.rg_of hr, strOf, h1]
   have : (((mes.toList.map (WideElems.rg P kt R0)).map (fun p => strOf p.1)).map encStr) = keys.map encStr := by rw [List.map_map]; exact e
   exact List.map_inj_right (fun a b h => encStr_inj h) |>.1 this
  rw [this]
 have hargs : cargs = [.func (.func fI) #[] #[.pointer (some ⟨pc.blk, 0, none⟩)]] := by
  simp only [LR] at ha
  obtain ⟨d, ds, rfl, h1, rfl⟩ := ha
  obtain ⟨f', c', rfl, h2, h3⟩ := h1.func
  simp only [LR] at h2 h3
  obtain ⟨d2, ds2, h4, h5, h6⟩ := h3
  subst h6
  obtain ⟨p, hp, rfl⟩ := h5.ptr
  rw [hpc] at hp; simp at hp; subst hp
  have e1 : f' = #[] := by apply Array.ext'; simpa using h2
  have e2 : c' = #[.pointer (some ⟨pc.blk, 0, none⟩)] := by apply Array.ext'; simp [h4, hz]
  rw [e1, e2]
 rw [hargs]
 refine (hS pc.blk pb.blk mes.size D0 R0 W hcell hown (by omega) (by omega)).mono ?_
 rintro e W' ⟨v, ss, rfl, hss, hrow, hnil, hbel⟩
 have hext : Ext W W' := ⟨fun c hc => hbel.block c hc, hbel.size, hbel.os, hbel.tape, hbel.output⟩
 refine ⟨v, snx sn W.heap.size W', ι, rfl, ?_, Stp.snap hR hext⟩
 have hms : ss.mergeSort leB = Z2g keys := Z6k (hss.trans hperm)
 rw [hms] at hrow
 have hlen2 : (Z2g keys).length = ss.length := by rw [<- hms, List.length_mergeSort]
 obtain ⟨hr0, hr⟩ := hrow
 rcases hr with ⟨rfl, hz0⟩ | ⟨g, cap, cur, rfl, hg1, hg2, hg3, hg4, hg5, hg6⟩
 · have : Z2g keys = [] := List.eq_nil_of_length_eq_zero (by omega)
   rw [this]; simp [rsK, VR]
 · simp only [rsK, VR]
   refine .inr ⟨⟨g, 0, none⟩, cap, by rw [hlen2], by omega, by simp, ?_, fun _ => rfl⟩
   refine Z6W hg1 _ _ 0 ZeP fun i v hv => ?_
   rw [Z0P hg2]
   simp only [Nat.zero_add]
   have : (cur.toList.take (ss.length * 1))[i]? = some v := by rw [hg6]; exact hv
   rw [List.getElem?_take] at this
   split at this
   · simpa using this
   · cases this
def Za3 : List (AV × AV × Nat) -> Option (List (List UInt8))
 | [] => some []
 | (.str s, _, _) :: es => match Za3 es with | some l => some (s :: l) | none => none
 | _ => none
theorem Z7f : ∀ {es : List (AV × AV × Nat)} {l : List (List UInt8)}, Za3 es = some l -> es.map (·.1) = l.map AV.str
 | [], l, h => by simp [Za3] at h; subst h; rfl
 | (k, v, n) :: es, l, h => by
  unfold Za3 at h
  split at h
  · rename_i e; cases e
  · rename_i e
    simp only [List.cons.injEq, Prod.mk.injEq] at e
    obtain ⟨⟨rfl, rfl, rfl⟩, rfl⟩ := e
    split at h <;> simp at h
    subst h
    simp [Z7f (by assumption)]
  · cases h
def Z7u (keys : List (List UInt8)) (es : List (AV × AV × Nat)) (clock : Nat) : Bool :=
 decide keys.Nodup && (decide (∀ k ∈ keys, k.length <= 9223372036854775807) && (decide (es.map (·.2.2)).Nodup && ((es.map (·.2.2)).all (fun n => decide (n < clock)) && Nat.ble keys.length 1000000)))
def Z4Q (es : List (AV × AV × Nat)) (clock : Nat) : Option AV := match Za3 es with
 | some keys => if Z7u keys es clock = true then some (rsK (Z2g keys)) else none
 | none => none
def Z63 (fI : Nat) : List AV -> Option Nat
 | [.func (.func g) [] [.ptr c 0]] => if g = fI then some c else none
 | _ => none
def Zcd (oc : AObj) : Option Nat := if oc.alive = true /\ oc.sh = 0 then (match oc.body with | .cells [.map b] _ => some b | _ => none) else none
def Zcc (ob : AObj) : Option (List (AV × AV × Nat) × Nat) := if ob.alive = true then (match ob.body with | .map es clock => some (es, clock) | _ => none) else none
def sortO (fS fI : Nat) : Orc := fun f args H =>
 if f = fS then (match Z63 fI args with
  | some c => match H[c]? with
   | some oc => match Zcd oc with
    | some b => match H[b]? with
     | some ob => match Zcc ob with
      | some (es, clock) => match Z4Q es clock with
       | some v => some (v, H)
       | none => none
      | none => none
     | none => none
    | none => none
   | none => none
  | none => none) else none
noncomputable def Zdy (fS fI : Nat) : Z4K := fun f args T =>
 if f = fS then (match Z63 fI args with
  | some c => match Zcd (T.get c) with
   | some b => match Zcc (T.get b) with
    | some (es, clock) => match Z4Q es clock with
     | some v => some (v, T)
     | none => none
    | none => none
   | none => none
  | none => none) else none
theorem Z7B {oc : AObj} {b : Nat} (h : Zcd oc = some b) : oc.alive = true /\ oc.sh = 0 /\ ∃ ty, oc.body = .cells [.map b] ty := by
 unfold Zcd at h
 split at h <;> try (cases h; done)
 rename_i h1
 split at h <;> simp at h
 subst h
 exact ⟨h1.1, h1.2, _, by assumption⟩
theorem Z7z {ob : AObj} {x : List (AV × AV × Nat) × Nat} (h : Zcc ob = some x) : ob.alive = true /\ ob.body = .map x.1 x.2 := by
 unfold Zcc at h
 split at h <;> try (cases h; done)
 split at h <;> simp at h
 subst h
 exact ⟨by assumption, by assumption⟩
theorem Z91 {fI c : Nat} {args : List AV} (h : Z63 fI args = some c) : args = [.func (.func fI) [] [.ptr c 0]] := by
 unfold Z63 at h
 split at h <;> try (cases h; done)
 split at h <;> simp at h
 subst h; rename_i e; subst e; rfl
theorem Zcg (fS fI : Nat) : Z16 (Zdy fS fI) (sortO fS fI) := by
 intro f args T r T' h H hR
 simp only [Zdy] at h
 split at h <;> try (cases h; done)
 rename_i hf
 split at h <;> try (cases h; done)
 rename_i c hc
 split at h <;> try (cases h; done)
 rename_i b hb
 split at h <;> try (cases h; done)
 rename_i es clock hm
 split at h <;> simp at h
 obtain ⟨rfl, rfl⟩ := h
 rename_i v hv
 have h1 := hR.obj c (Z7B hb).1
 have h2 := hR.obj b (Z7z hm).1
 exact ⟨H, by simp [sortO, hf, hc, h1, hb, h2, hm, hv], hR⟩
theorem sortO_sound {P : Program} {gl : Glob} {fS fI kt : Nat} (hS : SortsKeys P fS fI kt) (hk : P.underlying kt = some .string) : OrcSound P gl (sortO fS fI) := by
 intro f args H r H' h sn ι W cargs hg hR ha
 simp only [sortO] at h
 split at h <;> try (cases h; done)
 rename_i hf
 subst hf
 split at h <;> try (cases h; done)
 rename_i c hc
 split at h <;> try (cases h; done)
 rename_i oc hoc
 split at h <;> try (cases h; done)
 rename_i b hb
 split at h <;> try (cases h; done)
 rename_i ob hob
 split at h <;> try (cases h; done)
 rename_i es clock hm
 split at h <;> simp at h
 obtain ⟨rfl, rfl⟩ := h
 rename_i v hv
 unfold Z4Q at hv
 split at hv <;> try (cases hv; done)
 rename_i keys hks
 split at hv <;> simp at hv
 subst hv
 rename_i hok
 simp only [Z7u, Bool.and_eq_true, decide_eq_true_eq, List.all_eq_true] at hok
 obtain ⟨o1, o2, o3, o4, o5⟩ := hok
 obtain ⟨m1, m2, ty, m3⟩ := Z7B hb
 obtain ⟨n1, n2⟩ := Z7z hm
 rw [Z91 hc] at ha
 exact .inl (Z8Z hS hk hR hoc m1 m2 m3 hob n1 n2 (Z7f hks) o1 o2 o3 o4 (Nat.le_of_ble_eq_true o5) ha)
end Go.Abs
end

section
namespace Go.Abs
open Go.RowKit
theorem Wk.nil {m : List Nat} {z : Nat} : Wk m .nslice (.rs 0 z []) := fun sn ι v h => by simp only [VR] at h ⊢; exact .inl ⟨trivial, trivial, h⟩
theorem swA {A B : Prop} (h : A) : ZcI (A /\ B) B := fun b => ⟨h, b⟩
theorem stw {P Q : Prop} (q : Q) (h : ZcI P Q := by
 first
 | (refine swA (Wk.int ?_); (focus (first | rfl | omega | (simp; done) | (simp; omega)))) | (refine swA (Wk.bool ?_); (focus (first | rfl | (simp; done)))) | exact swA (Wk.noref rfl)
 | exact swA (Wk.ptr rfl rfl) | (refine swA (Wk.slice rfl ?_ ?_ ?_ ?_ ?_); (focus (first | rfl | omega)); (focus (first | rfl | omega)); (focus (first | rfl | omega)); (focus (first | rfl | omega)); (focus rfl)) | exact swA Wk.nil | exact swA (Wk.func trivial ⟨Wk.ptr rfl rfl, trivial⟩) | exact swA (Wk.map rfl)) : P := h q
theorem ValOK.weak {P : Program} {gl : Glob} {f : Nat} {args args2 : List AV} {r : AV} (h : ValOK P gl f args2 r) (hw : ∀ sn vs, LR sn noI args vs -> LR sn noI args2 vs) : ValOK P gl f args r :=
 fun sn W cargs hg hR ha => h sn W cargs hg hR (hw _ _ ha)
theorem Zdf {z : Nat} {sn : Z0d} {ι : Z0a} {v : Value} (h : VR sn ι .nslice v) : VR sn ι (.rs 0 z []) v := by simp only [VR] at h ⊢; exact .inl ⟨trivial, trivial, h⟩
section
open Classical
noncomputable def ZiK {I : Type} (G : I -> Prop) (fF : I -> Nat) (fA : I -> List AV) (fR : I -> AV) : Orc := Zgr fun f args => if h : ∃ i, G i /\ fF i = f /\ fA i = args then some (fR (Classical.choose h)) else none
theorem Zc4 {P : Program} {gl : Glob} {I : Type} {G : I -> Prop} {fF : I -> Nat} {fA : I -> List AV} {fR : I -> AV} (h : ∀ i, G i -> refsL (fA i) [] = [] /\ ValOK P gl (fF i) (fA i) (fR i)) : OrcSound P gl (ZiK G fF fA fR) := Z4T fun f args r e => by
 split at e
 · rename_i hx
   simp only [Option.some.injEq] at e
   subst e
   obtain ⟨g1, e1, e2⟩ := Classical.choose_spec hx
   have := h _ g1
   rw [e1, e2] at this; exact this
 · cases e
theorem ZkC {P : Program} {I : Type} {G : I -> Prop} {fF : I -> Nat} {fA : I -> List AV} {fR : I -> AV} (hinj : ∀ i j, G i -> G j -> fF i = fF j -> fA i = fA j -> fR i = fR j) {H : Z00} (i : I) (hb : Z09 P (fF i) = true) (hi : G i) :
  Z0e P (ZiK G fF fA fR) H (fF i) (fA i) = some (fR i, H) := by
 have hx : ∃ j, G j /\ fF j = fF i /\ fA j = fA i := ⟨i, hi, rfl, rfl⟩
 unfold Z0e
 rw [if_pos hb]
 unfold ZiK Zgr
 simp only [dif_pos hx]
 obtain ⟨g1, g2, g3⟩ := Classical.choose_spec hx
 rw [hinj _ i g1 hi g2 g3]
theorem Z2t {I : Type} {G : I -> Prop} {fF : I -> Nat} {fA : I -> List AV} {fH : I -> Z00} {fR : I -> AV} {fO : I -> Z00} {g : Nat} {args : List AV} {H : Z00} (h : ∀ i, G i -> fF i = g -> fA i ≠ args) : orcI G fF fA fH fR fO g args H = none := by
 unfold orcI
 rw [dif_neg]
 rintro ⟨i, h1, h2, h3, _⟩
 exact h i h1 h2 h3
end
theorem Z40 {P : Program} {o1 o2 : Orc} {H : Z00} {g : Nat} {args : List AV} {x : AV × Z00} (hb : Z09 P g = true) (h : Z0e P o1 H g args = some x) : Z0e P (Z2h o1 o2) H g args = some x := by
 unfold Z0e at h ⊢
 rw [if_pos hb] at h ⊢
 unfold Z2h; rw [h]
theorem Z2j {P : Program} {o1 o2 : Orc} {H : Z00} {g : Nat} {args : List AV} {x : AV × Z00} (hb : Z09 P g = true) (h1 : o1 g args H = none) (h : Z0e P o2 H g args = some x) : Z0e P (Z2h o1 o2) H g args = some x := by
 unfold Z0e at h ⊢
 rw [if_pos hb] at h ⊢
 unfold Z2h; rw [h1]; exact h
structure Fam (P : Program) (gl : Glob) where
 I : Type
 f : Nat
 G : I -> Prop
 A : I -> List AV
 R : I -> AV
 body : Z09 P f = true
 inj : ∀ i j, G i -> G j -> A i = A j -> R i = R j
 ok : ∀ i, G i -> refsL (A i) [] = [] /\ ValOK P gl f (A i) (R i)
structure FamM (P : Program) (gl : Glob) where
 I : Type
 f : Nat
 G : I -> Prop
 A : I -> List AV
 H : I -> Z00
 R : I -> AV
 O : I -> Z00
 body : Z09 P f = true
 inj : ∀ i j, G i -> G j -> A i = A j -> H i = H j -> R i = R j /\ O i = O j
 ok : ∀ i, G i -> Z10 P gl f (A i) (H i) (R i) (O i)
section
variable {P : Program} {gl : Glob}
def Fam.Ask (F : Fam P gl) (O : Orc) : Prop := ∀ i, F.G i -> ∀ H, Z0e P O H F.f (F.A i) = some (F.R i, H)
def FamM.Ask (F : FamM P gl) (O : Orc) : Prop := ∀ i, F.G i -> Z0e P O (F.H i) F.f (F.A i) = some (F.R i, F.O i)
def AllAsk (O : Orc) : List (Fam P gl) -> Prop
 | [] => True
 | F :: l => F.Ask O /\ AllAsk O l
def AllAskM (O : Orc) : List (FamM P gl) -> Prop
 | [] => True
 | F :: l => F.Ask O /\ AllAskM O l
theorem ZaF {o O : Orc} {f : Nat} (ho : ∀ g args H, g ≠ f -> o g args H = none) : (∀ F : Fam P gl, F.f ≠ f -> F.Ask O -> F.Ask (Z2h o O)) /\ (∀ F : FamM P gl, F.f ≠ f -> F.Ask O -> F.Ask (Z2h o O)) :=
 ⟨fun F hf h i hi H => Z2j F.body (ho _ _ _ hf) (h i hi H), fun F hf h i hi => Z2j F.body (ho _ _ _ hf) (h i hi)⟩
theorem Z8r : ∀ (l : List (Fam P gl)), Z1B (l.map (·.f)) = true -> ∃ O, OrcSound P gl O /\ AllAsk O l
 | [], _ => ⟨fun _ _ _ => none, (fun f args H r H' h => by cases h), trivial⟩
 | F :: l, h => by
  simp only [List.map_cons, Z1B, Bool.and_eq_true, Bool.not_eq_true'] at h
  obtain ⟨O, hO, ha⟩ := Z8r l h.2
  have ho : ∀ g args H, g ≠ F.f -> ZiK F.G (fun _ => F.f) F.A F.R g args H = none := by
   intro g args H hg
   have : ¬ ∃ i, F.G i /\ F.f = g /\ F.A i = args := by
    rintro ⟨i, _, h2, _⟩
    exact hg h2.symm
   simp only [ZiK, Zgr, dif_neg this]
  refine ⟨Z2h (ZiK F.G (fun _ => F.f) F.A F.R) O, Z0L (Zc4 F.ok) hO, fun i hi H => Z40 F.body (ZkC (fun i j hi hj _ ha => F.inj i j hi hj ha) i F.body hi), ?_⟩
  have hn : ∀ G ∈ l, G.f ≠ F.f := fun G hG e => by
   have h1 := h.1
   have : mem F.f (l.map (·.f)) = true := mem_iff.2 (by rw [<- e]; exact List.mem_map_of_mem hG)
   rw [this] at h1; cases h1
  clear h
  induction l with
  | nil => trivial
  | cons G l ih =>
   exact ⟨(ZaF ho).1 G (hn G (by simp)) ha.1, ih ha.2 fun K hK => hn K (by simp [hK])⟩
theorem fams (l : List (Fam P gl)) (h : Z1B (l.map (·.f)) = true) : ∃ O, OrcSound P gl O /\ AllAsk O l := Z8r l h
theorem AllAsk.add {o O : Orc} {f : Nat} (ho : ∀ g args H, g ≠ f -> o g args H = none) : ∀ {l : List (Fam P gl)}, mem f (l.map (·.f)) = false -> AllAsk O l -> AllAsk (Z2h o O) l
 | [], _, _ => trivial
 | F :: l, h, ha => by
  simp only [List.map_cons, mem, Bool.or_eq_false_iff] at h
  exact ⟨(ZaF ho).1 F (fun e => by rw [e] at h; simp at h) ha.1, AllAsk.add ho h.2 ha.2⟩
theorem AllAskM.add {o O : Orc} {f : Nat} (ho : ∀ g args H, g ≠ f -> o g args H = none) : ∀ {l : List (FamM P gl)}, mem f (l.map (·.f)) = false -> AllAskM O l -> AllAskM (Z2h o O) l
 | [], _, _ => trivial
 | F :: l, h, ha => by
  simp only [List.map_cons, mem, Bool.or_eq_false_iff] at h
  exact ⟨(ZaF ho).2 F (fun e => by rw [e] at h; simp at h) ha.1, AllAskM.add ho h.2 ha.2⟩
theorem Z9o : ∀ (m : List (FamM P gl)) (l : List (Fam P gl)), Z1B (m.map (·.f) ++ l.map (·.f)) = true -> ∃ O, OrcSound P gl O /\ AllAskM O m /\ AllAsk O l
 | [], l, h => by
  obtain ⟨O, h1, h2⟩ := Z8r l h
  exact ⟨O, h1, trivial, h2⟩
 | F :: m, l, h => by
  simp only [List.map_cons, List.cons_append, Z1B, Bool.and_eq_true, Bool.not_eq_true'] at h
  obtain ⟨O, hO, ha, hb⟩ := Z9o m l h.2
  have ho : ∀ g args H, g ≠ F.f -> orcI F.G (fun _ => F.f) F.A F.H F.R F.O g args H = none := fun g args H hg => Z2t fun i _ e => absurd e.symm hg
  have hmem : ∀ {a b : List Nat}, mem F.f (a ++ b) = false -> mem F.f a = false /\ mem F.f b = false := by
   intro a b h
   constructor
   · cases hx : mem F.f a with
     | false => rfl
     | true => rw [mem_iff.2 (List.mem_append.2 (.inl (mem_iff.1 hx)))] at h; cases h
   · cases hx : mem F.f b with
     | false => rfl
     | true => rw [mem_iff.2 (List.mem_append.2 (.inr (mem_iff.1 hx)))] at h; cases h
  obtain ⟨n1, n2⟩ := hmem h.1
  refine ⟨Z2h (orcI F.G (fun _ => F.f) F.A F.H F.R F.O) O, Z0L (Z13 F.ok) hO, ⟨fun i hi => Z40 F.body (Zay (fun i j hi hj _ ha hh => F.inj i j hi hj ha hh) F.body i hi rfl rfl rfl), AllAskM.add ho n1 ha⟩, AllAsk.add ho n2 hb⟩
end
end Go.Abs
end

/-
  A verified abstract interpreter, part 2: abstract memory, its relation to the world, and steps of both.
-/
import Derived.Test.YtgbimoeclgfkfabGreatDoorAbs1
set_option linter.unusedSimpArgs false
set_option linter.unusedVariables false
namespace Go.Abs
open Go.RowKit

inductive ABody where
  | cells (cs : List AV) (ty : TypeId)
  | map (es : List (AV × AV × Nat)) (clock : Nat)
  | siter (s : List UInt8) (pos : Nat)
  deriving Inhabited

structure AObj where
  alive : Bool
  fam : Nat
  sh : Nat
  body : ABody
  deriving Inhabited

abbrev AHeap := List AObj

def AObj.dead (o : AObj) : AObj := { o with alive := false, body := .cells [] 0 }

def ER (sn : Snap) (ι : IMap) : List (AV × AV × Nat) → List MapEntry → Prop
  | [], l => l = []
  | (k, v, n) :: es, l => ∃ e l', l = e :: l' ∧ VR sn ι k e.key ∧ VR sn ι v e.val ∧ e.born = n ∧ ER sn ι es l'

theorem ER_mono {sn sn' : Snap} {ι ι' : IMap} (h : Le sn sn' ι ι') : ∀ {es : List (AV × AV × Nat)} {l : List MapEntry}, ER sn ι es l → ER sn' ι' es l
  | [], l, e => e
  | (k, v, n) :: es, l, e => by
    simp only [ER] at *; obtain ⟨x, l', h1, h2, h3, h4, h5⟩ := e
    exact ⟨x, l', h1, VR_mono h _ _ h2, VR_mono h _ _ h3, h4, ER_mono h h5⟩

def OR (sn : Snap) (ι : IMap) (W : World) : ABody → Place → Prop
  | .cells cs ty, p => ∃ arr, W.heap[p.blk]? = some (.cells arr ty (0, 0)) ∧ arr.size = p.n ∧ p.sh + cs.length ≤ p.n ∧
      ∀ (i : Nat) (c : AV), cs[i]? = some c → ∃ v, arr[p.sh + i]? = some v ∧ VR sn ι c v
  | .map es clock, p => ∃ mes, W.heap[p.blk]? = some (.map mes clock) ∧ ER sn ι es mes.toList
  | .siter s pos, p => ∃ ba : ByteArray, W.heap[p.blk]? = some (.stringIter ba pos) ∧ ba.data.toList = s

theorem OR_mono {sn sn' : Snap} {ι ι' : IMap} (h : Le sn sn' ι ι') {W W' : World} : ∀ {o : ABody} {p : Place}, W'.heap[p.blk]? = W.heap[p.blk]? → OR sn ι W o p → OR sn' ι' W' o p
  | .cells cs ty, p, e, x => by
    simp only [OR] at *; obtain ⟨arr, h1, h2, h3, h4⟩ := x
    exact ⟨arr, e.trans h1, h2, h3, fun i c hc => let ⟨v, a, b⟩ := h4 i c hc; ⟨v, a, VR_mono h _ _ b⟩⟩
  | .map es clock, p, e, x => by
    simp only [OR] at *; obtain ⟨m, h1, h2⟩ := x
    exact ⟨m, e.trans h1, ER_mono h h2⟩
  | .siter s pos, p, e, x => by
    simp only [OR] at *; obtain ⟨m, h1, h2⟩ := x
    exact ⟨m, e.trans h1, h2⟩

structure R (sn : Snap) (ι : IMap) (H : AHeap) (W : World) : Prop where
  dom : ∀ b, b < H.length ↔ ∃ p, ι b = some p
  blk : ∀ b p, ι b = some p → p.blk < W.heap.size
  obj : ∀ (b : Nat) (o : AObj) p, H[b]? = some o → o.alive = true → ι b = some p → OR sn ι W o.body p
  sep : ∀ (b b' : Nat) (o o' : AObj) p p', H[b]? = some o → H[b']? = some o' → ι b = some p → ι b' = some p' → p.blk = p'.blk → o.fam = o'.fam ∧ p.sh + o'.sh = p'.sh + o.sh
  snap : ∀ a v, sn a = some v → a.block < W.heap.size ∧ W.cell? a = some v ∧ ∀ (b : Nat) (o : AObj) p, H[b]? = some o → o.alive = true → ι b = some p → p.blk ≠ a.block
  shz : ∀ (b : Nat) (o : AObj) p, H[b]? = some o → ι b = some p → o.sh = 0 → p.sh = 0

/-- What looking at memory needs. -/
structure RO (sn : Snap) (ι : IMap) (H : AHeap) (W : World) : Prop where
  pl : ∀ b, b < H.length → ∃ p, ι b = some p
  obj : ∀ (b : Nat) (o : AObj) p, H[b]? = some o → o.alive = true → ι b = some p → OR sn ι W o.body p
  snap : ∀ a v, sn a = some v → W.cell? a = some v

theorem R.ro {sn : Snap} {ι : IMap} {H : AHeap} {W : World} (h : R sn ι H W) : RO sn ι H W :=
  ⟨fun b hb => (h.dom b).1 hb, h.obj, fun a v hv => (h.snap a v hv).2.1⟩

theorem RO.place {sn : Snap} {ι : IMap} {H : AHeap} {W : World} (h : RO sn ι H W) {b : Nat} {o : AObj} (hb : H[b]? = some o) : ∃ p, ι b = some p :=
  h.pl b (List.getElem?_eq_some_iff.1 hb).1

theorem RO.le {sn : Snap} {ι ι' : IMap} {H : AHeap} {W : World} (h : RO sn ι H W) (hl : Le sn sn ι ι') : RO sn ι' H W :=
  ⟨fun b hb => let ⟨p, hp⟩ := h.pl b hb; ⟨p, hl.ι _ _ hp⟩, fun b o p hb ha hp => by
    obtain ⟨q, hq⟩ := h.place hb
    have := hl.ι _ _ hq
    rw [hp] at this; simp at this; subst this
    exact OR_mono hl rfl (h.obj b o p hb ha hq), h.snap⟩

structure Stp (sn : Snap) (ι : IMap) (H : AHeap) (W : World) (sn' : Snap) (ι' : IMap) (H' : AHeap) (W' : World) : Prop where
  rel : R sn' ι' H' W'
  le : Le sn sn' ι ι'
  fresh : ∀ b p, ι' b = some p → ι b = some p ∨ W.heap.size ≤ p.blk ∨ ∃ (b0 : Nat) (o0 : AObj) (p0 : Place), H[b0]? = some o0 ∧ o0.alive = true ∧ ι b0 = some p0 ∧ p0.blk = p.blk
  frame : ∀ c, c < W.heap.size → (∀ (b : Nat) (o : AObj) p, H[b]? = some o → o.alive = true → ι b = some p → p.blk ≠ c) → W'.heap[c]? = W.heap[c]?
  size : W.heap.size ≤ W'.heap.size
  os : W'.os = W.os
  tape : W'.tape = W.tape
  output : W'.output = W.output
  sfresh : ∀ a v, sn' a = some v → sn a = some v ∨ W.heap.size ≤ a.block ∨ ∃ (b0 : Nat) (o0 : AObj) (p0 : Place), H[b0]? = some o0 ∧ o0.alive = true ∧ ι b0 = some p0 ∧ p0.blk = a.block
  evo : ∀ (b : Nat) (o : AObj), H[b]? = some o → ∃ o', H'[b]? = some o' ∧ o'.fam = o.fam ∧ o'.sh = o.sh ∧ (o'.alive = true → o.alive = true)

theorem Stp.refl {sn : Snap} {ι : IMap} {H : AHeap} {W : World} (h : R sn ι H W) : Stp sn ι H W sn ι H W :=
  ⟨h, Le.refl _ _, fun _ _ h => .inl h, fun _ _ _ => rfl, Nat.le_refl _, rfl, rfl, rfl, fun _ _ h => .inl h, fun b o h => ⟨o, h, rfl, rfl, id⟩⟩

theorem R.place {sn : Snap} {ι : IMap} {H : AHeap} {W : World} (h : R sn ι H W) {b : Nat} {o : AObj} (hb : H[b]? = some o) : ∃ p, ι b = some p :=
  (h.dom b).1 (List.getElem?_eq_some_iff.1 hb).1

theorem Stp.trans {sn sn1 sn2 : Snap} {ι ι1 ι2 : IMap} {H H1 H2 : AHeap} {W W1 W2 : World} (h0 : R sn ι H W)
    (h : Stp sn ι H W sn1 ι1 H1 W1) (k : Stp sn1 ι1 H1 W1 sn2 ι2 H2 W2) : Stp sn ι H W sn2 ι2 H2 W2 := by
  -- a block that lives after the first step and lies in old memory lies where a block lived before
  have old : ∀ (b : Nat) (o : AObj) p, H1[b]? = some o → o.alive = true → ι1 b = some p → p.blk < W.heap.size →
      ∃ (b0 : Nat) (o0 : AObj) (p0 : Place), H[b0]? = some o0 ∧ o0.alive = true ∧ ι b0 = some p0 ∧ p0.blk = p.blk := by
    intro b o p hb ha hp hlt
    rcases h.fresh b p hp with h1 | h1 | h1
    · have hbl : b < H.length := (h0.dom b).2 ⟨p, h1⟩
      have hg : H[b]? = some H[b] := List.getElem?_eq_getElem hbl
      obtain ⟨o', e1, _, _, e4⟩ := h.evo b _ hg
      rw [hb] at e1; simp at e1; subst e1
      exact ⟨b, _, p, hg, e4 ha, h1, rfl⟩
    · omega
    · exact h1
  refine ⟨k.rel, h.le.trans k.le, ?_, ?_, Nat.le_trans h.size k.size, k.os.trans h.os, k.tape.trans h.tape, k.output.trans h.output, ?_, ?_⟩
  · intro b p hp
    rcases k.fresh b p hp with h1 | h1 | ⟨b1, o1, p1, g1, g2, g3, g4⟩
    · exact h.fresh b p h1
    · exact .inr (.inl (Nat.le_trans h.size h1))
    · by_cases hlt : p1.blk < W.heap.size
      · obtain ⟨b0, o0, p0, e1, e2, e3, e4⟩ := old b1 o1 p1 g1 g2 g3 hlt
        exact .inr (.inr ⟨b0, o0, p0, e1, e2, e3, e4.trans g4⟩)
      · exact .inr (.inl (by omega))
  · intro c hc hno
    rw [k.frame c (by have := h.size; omega), h.frame c hc hno]
    intro b o p hb ha hp e
    obtain ⟨b0, o0, p0, e1, e2, e3, e4⟩ := old b o p hb ha hp (by omega)
    exact hno b0 o0 p0 e1 e2 e3 (by omega)
  · intro a v hv
    rcases k.sfresh a v hv with h1 | h1 | ⟨b1, o1, p1, g1, g2, g3, g4⟩
    · exact h.sfresh a v h1
    · exact .inr (.inl (Nat.le_trans h.size h1))
    · by_cases hlt : p1.blk < W.heap.size
      · obtain ⟨b0, o0, p0, e1, e2, e3, e4⟩ := old b1 o1 p1 g1 g2 g3 hlt
        exact .inr (.inr ⟨b0, o0, p0, e1, e2, e3, e4.trans g4⟩)
      · exact .inr (.inl (by omega))
  · intro b o hb
    obtain ⟨o1, e1, e2, e3, e4⟩ := h.evo b o hb
    obtain ⟨o2, f1, f2, f3, f4⟩ := k.evo b o1 e1
    exact ⟨o2, f1, f2.trans e2, f3.trans e3, fun x => e4 (f4 x)⟩

/-- Objects that are given up. -/
def kil (q : Nat → AObj → Bool) : Nat → AHeap → AHeap
  | _, [] => []
  | i, o :: H => (if q i o then o.dead else o) :: kil q (i + 1) H

theorem kil_get (q : Nat → AObj → Bool) : ∀ (H : AHeap) (i b : Nat), (kil q i H)[b]? = (H[b]?).map fun o => if q (i + b) o then o.dead else o
  | [], i, b => by simp [kil]
  | o :: H, i, b => by
    simp only [kil]
    cases b with
    | zero => simp
    | succ b => simp only [List.getElem?_cons_succ, kil_get q H (i + 1) b]; rw [show i + 1 + b = i + (b + 1) from by omega]

theorem kil_length (q : Nat → AObj → Bool) : ∀ (H : AHeap) (i : Nat), (kil q i H).length = H.length
  | [], i => rfl
  | o :: H, i => by simp [kil, kil_length q H]

theorem kil_some {q : Nat → AObj → Bool} {H : AHeap} {b : Nat} {o' : AObj} (h : (kil q 0 H)[b]? = some o') :
    ∃ o, H[b]? = some o ∧ o'.fam = o.fam ∧ o'.sh = o.sh ∧ (o'.alive = true → o' = o ∧ q b o = false) := by
  rw [kil_get] at h
  simp at h
  obtain ⟨o, h1, h2⟩ := h
  refine ⟨o, h1, ?_⟩
  split at h2
  · subst h2; simp [AObj.dead]
  · subst h2; rename_i hq; exact ⟨rfl, rfl, fun _ => ⟨rfl, by simpa using hq⟩⟩

/-- Memory that is only changed by giving up, and in which other blocks of the world may be turned that nobody lives in. -/
theorem Stp.kil {sn : Snap} {ι : IMap} {H : AHeap} {W : World} (h : R sn ι H W) (q : Nat → AObj → Bool) : Stp sn ι H W sn ι (kil q 0 H) W := by
  refine ⟨⟨?_, h.blk, ?_, ?_, ?_, fun b o p hb hp hz => by
      obtain ⟨o1, e1, _, s1, _⟩ := kil_some hb
      exact h.shz b o1 p e1 hp (by rw [← s1]; exact hz)⟩, Le.refl _ _, fun _ _ h => .inl h, fun _ _ _ => rfl, Nat.le_refl _, rfl, rfl, rfl, fun _ _ h => .inl h, ?_⟩
  · intro b; rw [kil_length]; exact h.dom b
  · intro b o p hb ha hp
    obtain ⟨o1, e1, _, _, e4⟩ := kil_some hb
    obtain ⟨rfl, _⟩ := e4 ha
    exact h.obj b o p e1 ha hp
  · intro b b' o o' p p' hb hb' hp hp' e
    obtain ⟨o1, e1, f1, s1, _⟩ := kil_some hb
    obtain ⟨o2, e2, f2, s2, _⟩ := kil_some hb'
    rw [f1, f2, s1, s2]; exact h.sep b b' o1 o2 p p' e1 e2 hp hp' e
  · intro a v hv
    obtain ⟨h1, h2, h3⟩ := h.snap a v hv
    refine ⟨h1, h2, fun b o p hb ha hp => ?_⟩
    obtain ⟨o1, e1, _, _, e4⟩ := kil_some hb
    obtain ⟨rfl, _⟩ := e4 ha
    exact h3 b o p e1 ha hp
  · intro b o hb
    refine ⟨if q b o then o.dead else o, by rw [kil_get, hb]; simp, ?_, ?_, ?_⟩ <;> split <;> simp [AObj.dead]

def upd (ι : IMap) (n : Nat) (p : Place) : IMap := fun b => if b = n then some p else ι b

theorem R.fresh_none {sn : Snap} {ι : IMap} {H : AHeap} {W : World} (h : R sn ι H W) : ι H.length = none := by
  cases e : ι H.length with
  | none => rfl
  | some p => have := (h.dom H.length).2 ⟨p, e⟩; omega

theorem Le.upd {sn : Snap} {ι : IMap} {n : Nat} (h : ι n = Option.none) (p : Place) : Le sn sn ι (upd ι n p) :=
  ⟨fun _ _ h => h, fun b q hq => by unfold Abs.upd; split; · subst_vars; rw [h] at hq; cases hq
                                    · exact hq⟩

/-- The world is turned in new blocks alone. -/
structure Ext (W W' : World) : Prop where
  old : ∀ c, c < W.heap.size → W'.heap[c]? = W.heap[c]?
  size : W.heap.size ≤ W'.heap.size
  os : W'.os = W.os
  tape : W'.tape = W.tape
  output : W'.output = W.output

theorem R.ext {sn : Snap} {ι : IMap} {H : AHeap} {W W' : World} (h : R sn ι H W) (e : Ext W W') : R sn ι H W' := by
  refine ⟨h.dom, fun b p hp => Nat.lt_of_lt_of_le (h.blk b p hp) e.size, fun b o p hb ha hp => ?_, h.sep, fun a v hv => ?_, h.shz⟩
  · exact OR_mono (Le.refl _ _) (e.old _ (h.blk b p hp)) (h.obj b o p hb ha hp)
  · obtain ⟨h1, h2, h3⟩ := h.snap a v hv
    refine ⟨Nat.lt_of_lt_of_le h1 e.size, ?_, h3⟩
    rw [← h2]; exact World.cell?_of_block (e.old _ h1)

theorem Stp.ext {sn : Snap} {ι : IMap} {H : AHeap} {W W' : World} (h : R sn ι H W) (e : Ext W W') : Stp sn ι H W sn ι H W' :=
  ⟨h.ext e, Le.refl _ _, fun _ _ h => .inl h, fun c hc _ => e.old c hc, e.size, e.os, e.tape, e.output, fun _ _ h => .inl h, fun b o hb => ⟨o, hb, rfl, rfl, id⟩⟩

/-- A new block. -/
theorem Stp.alloc {sn : Snap} {ι : IMap} {H : AHeap} {W : World} (h : R sn ι H W) (o : AObj) (ob : Obj) (n : Nat)
    (ho : o.alive = true → OR sn ι (W.alloc ob) o.body ⟨W.heap.size, 0, n⟩) :
    Stp sn ι H W sn (upd ι H.length ⟨W.heap.size, 0, n⟩) (H ++ [o]) (W.alloc ob) := by
  have hn := h.fresh_none
  have hle : Le sn sn ι (Abs.upd ι H.length ⟨W.heap.size, 0, n⟩) := Le.upd hn _
  have hold : ∀ c, c < W.heap.size → (W.alloc ob).heap[c]? = W.heap[c]? := fun c hc => Below.heap_alloc W ob c hc
  have hcase : ∀ b p, Abs.upd ι H.length ⟨W.heap.size, 0, n⟩ b = some p → (b = H.length ∧ p = ⟨W.heap.size, 0, n⟩) ∨ (b < H.length ∧ ι b = some p) := by
    intro b p hp
    unfold Abs.upd at hp
    split at hp
    · simp at hp; exact .inl ⟨by assumption, hp.symm⟩
    · exact .inr ⟨(h.dom b).2 ⟨p, hp⟩, hp⟩
  have hget : ∀ (b : Nat) (x : AObj), (H ++ [o])[b]? = some x → (b = H.length ∧ x = o) ∨ (b < H.length ∧ H[b]? = some x) := by
    intro b x hx
    rw [List.getElem?_append] at hx
    split at hx
    · exact .inr ⟨by assumption, hx⟩
    · rw [List.getElem?_singleton] at hx; split at hx
      · simp at hx; exact .inl ⟨by omega, hx.symm⟩
      · cases hx
  refine ⟨⟨?_, ?_, ?_, ?_, ?_, fun b x p hb hp hz => by
      rcases hcase b p hp with ⟨_, rfl⟩ | ⟨hlt, hp⟩
      · rfl
      · rcases hget b x hb with ⟨rfl, _⟩ | ⟨_, hb⟩
        · omega
        · exact h.shz b x p hb hp hz⟩, hle, ?_, fun c hc _ => hold c hc, by simp, rfl, rfl, rfl, fun _ _ h => .inl h, ?_⟩
  · intro b
    simp only [List.length_append, List.length_singleton]
    constructor
    · intro hb
      by_cases hb' : b < H.length
      · obtain ⟨p, hp⟩ := (h.dom b).1 hb'; exact ⟨p, hle.ι _ _ hp⟩
      · exact ⟨_, by unfold Abs.upd; rw [if_pos (by omega)]⟩
    · rintro ⟨p, hp⟩
      rcases hcase b p hp with ⟨rfl, _⟩ | ⟨hb, _⟩ <;> omega
  · intro b p hp
    rw [World.size_alloc]
    rcases hcase b p hp with ⟨_, rfl⟩ | ⟨_, hp⟩
    · simp
    · have := h.blk b p hp; omega
  · intro b x p hb ha hp
    rcases hget b x hb with ⟨rfl, rfl⟩ | ⟨hlt, hb⟩
    · rcases hcase _ p hp with ⟨_, rfl⟩ | ⟨hlt, _⟩
      · exact OR_mono hle rfl (ho ha)
      · omega
    · rcases hcase _ p hp with ⟨rfl, rfl⟩ | ⟨_, hp⟩
      · omega
      · exact OR_mono hle (hold _ (h.blk b p hp)) (h.obj b x p hb ha hp)
  · intro b b' x x' p p' hb hb' hp hp' e
    rcases hcase b p hp with ⟨rfl, rfl⟩ | ⟨hlt, hp⟩ <;> rcases hcase b' p' hp' with ⟨rfl, rfl⟩ | ⟨hlt', hp'⟩
    · rw [hb] at hb'; simp at hb'; subst hb'; exact ⟨rfl, rfl⟩
    · have := h.blk b' p' hp'; simp at e; omega
    · have := h.blk b p hp; simp at e; omega
    · rcases hget b x hb with ⟨rfl, _⟩ | ⟨_, hb⟩
      · omega
      rcases hget b' x' hb' with ⟨rfl, _⟩ | ⟨_, hb'⟩
      · omega
      exact h.sep b b' x x' p p' hb hb' hp hp' e
  · intro a v hv
    obtain ⟨h1, h2, h3⟩ := h.snap a v hv
    refine ⟨by simp; omega, ?_, ?_⟩
    · rw [← h2]; exact World.cell?_of_block (hold _ h1)
    · intro b x p hb ha hp
      rcases hcase b p hp with ⟨rfl, rfl⟩ | ⟨hlt, hp⟩
      · simp; omega
      · rcases hget b x hb with ⟨rfl, _⟩ | ⟨_, hb⟩
        · omega
        exact h3 b x p hb ha hp
  · intro b p hp
    rcases hcase b p hp with ⟨rfl, rfl⟩ | ⟨_, hp⟩
    · exact .inr (.inl (Nat.le_refl _))
    · exact .inl hp
  · intro b x hb
    have hlt : b < H.length := (List.getElem?_eq_some_iff.1 hb).1
    exact ⟨x, by rw [List.getElem?_append_left hlt]; exact hb, rfl, rfl, id⟩

/-- One block of the world is turned. -/
structure Turn (W W' : World) (g : Nat) : Prop where
  other : ∀ c, c ≠ g → W'.heap[c]? = W.heap[c]?
  size : W'.heap.size = W.heap.size
  os : W'.os = W.os
  tape : W'.tape = W.tape
  output : W'.output = W.output

/-- A block is written: all that may share it is given up. -/
def wkil (b f : Nat) (H : AHeap) : AHeap := kil (fun i o => Nat.beq o.fam f && !Nat.beq i b) 0 H

theorem Stp.write {sn : Snap} {ι : IMap} {H : AHeap} {W W' : World} (h : R sn ι H W) {b : Nat} {o : AObj} {p : Place} (hb : H[b]? = some o) (ha : o.alive = true) (hp : ι b = some p)
    (t : Turn W W' p.blk) (bd : ABody) (ho : OR sn ι W' bd p) : Stp sn ι H W sn ι ((wkil b o.fam H).set b { o with body := bd }) W' := by
  have hblt : b < H.length := (List.getElem?_eq_some_iff.1 hb).1
  -- what stands behind, and lives
  have hget : ∀ (c : Nat) (x : AObj), ((wkil b o.fam H).set b { o with body := bd })[c]? = some x →
      (c = b ∧ x = { o with body := bd }) ∨ (c ≠ b ∧ ∃ y, H[c]? = some y ∧ x.fam = y.fam ∧ x.sh = y.sh ∧ (x.alive = true → x = y ∧ y.fam ≠ o.fam)) := by
    intro c x hx
    rw [List.getElem?_set] at hx
    split at hx
    · subst_vars
      rw [wkil, kil_length, if_pos hblt] at hx; simp at hx; exact .inl ⟨rfl, hx.symm⟩
    · rename_i hne
      obtain ⟨y, h1, h2, h3, h4⟩ := kil_some hx
      refine .inr ⟨Ne.symm hne, y, h1, h2, h3, fun hal => ?_⟩
      obtain ⟨h5, h6⟩ := h4 hal
      refine ⟨h5, fun hf => ?_⟩
      have : Nat.beq y.fam o.fam = true := by simp [hf]
      have h7 : Nat.beq c b = false := by cases hq : Nat.beq c b with | false => rfl | true => exact absurd (Nat.eq_of_beq_eq_true hq).symm hne
      simp [this, h7] at h6
  refine ⟨⟨?_, ?_, ?_, ?_, ?_, fun c x q hc hq hz => by
      rcases hget c x hc with ⟨rfl, rfl⟩ | ⟨_, y, h1, _, h3, _⟩
      · exact h.shz c o q hb hq hz
      · exact h.shz c y q h1 hq (by rw [← h3]; exact hz)⟩, Le.refl _ _, fun _ _ h => .inl h, ?_, by rw [t.size]; exact Nat.le_refl _, t.os, t.tape, t.output, fun _ _ h => .inl h, ?_⟩
  · intro c; simp only [List.length_set, wkil, kil_length]; exact h.dom c
  · intro c q hq; rw [t.size]; exact h.blk c q hq
  · intro c x q hc hal hq
    rcases hget c x hc with ⟨rfl, rfl⟩ | ⟨hne, y, h1, h2, h3, h4⟩
    · rw [hp] at hq; simp at hq; subst hq; exact ho
    · obtain ⟨rfl, hf⟩ := h4 hal
      refine OR_mono (Le.refl _ _) (t.other _ fun e => ?_) (h.obj c x q h1 hal hq)
      exact hf (h.sep c b x o q p h1 hb hq hp e).1
  · intro c c' x x' q q' hc hc' hq hq' e
    have key : ∀ (c : Nat) (x : AObj), ((wkil b o.fam H).set b { o with body := bd })[c]? = some x → ∃ y, H[c]? = some y ∧ x.fam = y.fam ∧ x.sh = y.sh := by
      intro c x hx
      rcases hget c x hx with ⟨rfl, rfl⟩ | ⟨_, y, h1, h2, h3, _⟩
      · exact ⟨o, hb, rfl, rfl⟩
      · exact ⟨y, h1, h2, h3⟩
    obtain ⟨y, h1, h2, h3⟩ := key c x hc
    obtain ⟨y', h1', h2', h3'⟩ := key c' x' hc'
    rw [h2, h3, h2', h3']
    exact h.sep c c' y y' q q' h1 h1' hq hq' e
  · intro a v hv
    obtain ⟨h1, h2, h3⟩ := h.snap a v hv
    refine ⟨by rw [t.size]; exact h1, ?_, ?_⟩
    · rw [← h2]; exact World.cell?_of_block (t.other _ (Ne.symm (h3 b o p hb ha hp)))
    · intro c x q hc hal hq
      rcases hget c x hc with ⟨rfl, rfl⟩ | ⟨hne, y, e1, e2, e3, e4⟩
      · exact h3 c o q hb ha hq
      · obtain ⟨rfl, _⟩ := e4 hal; exact h3 c x q e1 hal hq
  · intro c hc hno; exact t.other c (Ne.symm (hno b o p hb ha hp))
  · intro c x hc
    by_cases hcb : c = b
    · subst hcb; rw [hb] at hc; simp at hc; subst hc
      refine ⟨{ o with body := bd }, ?_, rfl, rfl, id⟩
      rw [List.getElem?_set, if_pos rfl, if_pos (by rw [wkil, kil_length]; exact hblt)]
    · rw [List.getElem?_set, if_neg (Ne.symm hcb)]
      refine ⟨_, by rw [wkil, kil_get, hc]; rfl, ?_, ?_, ?_⟩ <;> (dsimp only; split <;> simp [AObj.dead])

/-- A block is turned, and given up with all that may share it. -/
theorem Stp.lose {sn : Snap} {ι : IMap} {H : AHeap} {W W' : World} (h : R sn ι H W) {b : Nat} {o : AObj} {p : Place} (hb : H[b]? = some o) (ha : o.alive = true) (hp : ι b = some p)
    (t : Turn W W' p.blk) : Stp sn ι H W sn ι ((wkil b o.fam H).set b o.dead) W' := by
  have hblt : b < H.length := (List.getElem?_eq_some_iff.1 hb).1
  have hget : ∀ (c : Nat) (x : AObj), ((wkil b o.fam H).set b o.dead)[c]? = some x →
      (c = b ∧ x = o.dead) ∨ (c ≠ b ∧ ∃ y, H[c]? = some y ∧ x.fam = y.fam ∧ x.sh = y.sh ∧ (x.alive = true → x = y ∧ y.fam ≠ o.fam)) := by
    intro c x hx
    rw [List.getElem?_set] at hx
    split at hx
    · subst_vars
      rw [wkil, kil_length, if_pos hblt] at hx; simp at hx; exact .inl ⟨rfl, hx.symm⟩
    · rename_i hne
      obtain ⟨y, h1, h2, h3, h4⟩ := kil_some hx
      refine .inr ⟨Ne.symm hne, y, h1, h2, h3, fun hal => ?_⟩
      obtain ⟨h5, h6⟩ := h4 hal
      refine ⟨h5, fun hf => ?_⟩
      have : Nat.beq y.fam o.fam = true := by simp [hf]
      have h7 : Nat.beq c b = false := by cases hq : Nat.beq c b with | false => rfl | true => exact absurd (Nat.eq_of_beq_eq_true hq).symm hne
      simp [this, h7] at h6
  have key : ∀ (c : Nat) (x : AObj), ((wkil b o.fam H).set b o.dead)[c]? = some x → ∃ y, H[c]? = some y ∧ x.fam = y.fam ∧ x.sh = y.sh := by
    intro c x hx
    rcases hget c x hx with ⟨rfl, rfl⟩ | ⟨_, y, h1, h2, h3, _⟩
    · exact ⟨o, hb, rfl, rfl⟩
    · exact ⟨y, h1, h2, h3⟩
  refine ⟨⟨?_, ?_, ?_, ?_, ?_, fun c x q hc hq hz => by
      obtain ⟨y, h1, _, h3⟩ := key c x hc
      exact h.shz c y q h1 hq (by rw [← h3]; exact hz)⟩, Le.refl _ _, fun _ _ h => .inl h, ?_, by rw [t.size]; exact Nat.le_refl _, t.os, t.tape, t.output, fun _ _ h => .inl h, ?_⟩
  · intro c; simp only [List.length_set, wkil, kil_length]; exact h.dom c
  · intro c q hq; rw [t.size]; exact h.blk c q hq
  · intro c x q hc hal hq
    rcases hget c x hc with ⟨rfl, rfl⟩ | ⟨hne, y, h1, h2, h3, h4⟩
    · simp [AObj.dead] at hal
    · obtain ⟨rfl, hf⟩ := h4 hal
      refine OR_mono (Le.refl _ _) (t.other _ fun e => ?_) (h.obj c x q h1 hal hq)
      exact hf (h.sep c b x o q p h1 hb hq hp e).1
  · intro c c' x x' q q' hc hc' hq hq' e
    obtain ⟨y, h1, h2, h3⟩ := key c x hc
    obtain ⟨y', h1', h2', h3'⟩ := key c' x' hc'
    rw [h2, h3, h2', h3']
    exact h.sep c c' y y' q q' h1 h1' hq hq' e
  · intro a v hv
    obtain ⟨h1, h2, h3⟩ := h.snap a v hv
    refine ⟨by rw [t.size]; exact h1, ?_, ?_⟩
    · rw [← h2]; exact World.cell?_of_block (t.other _ (Ne.symm (h3 b o p hb ha hp)))
    · intro c x q hc hal hq
      rcases hget c x hc with ⟨rfl, rfl⟩ | ⟨hne, y, e1, e2, e3, e4⟩
      · simp [AObj.dead] at hal
      · obtain ⟨rfl, _⟩ := e4 hal; exact h3 c x q e1 hal hq
  · intro c hc hno; exact t.other c (Ne.symm (hno b o p hb ha hp))
  · intro c x hc
    by_cases hcb : c = b
    · subst hcb; rw [hb] at hc; simp at hc; subst hc
      refine ⟨o.dead, ?_, rfl, rfl, fun h => by simp [AObj.dead] at h⟩
      rw [List.getElem?_set, if_pos rfl, if_pos (by rw [wkil, kil_length]; exact hblt)]
    · rw [List.getElem?_set, if_neg (Ne.symm hcb)]
      refine ⟨_, by rw [wkil, kil_get, hc]; rfl, ?_, ?_, ?_⟩ <;> (dsimp only; split <;> simp [AObj.dead])

/-- How far a body's cells reach. -/
def ABody.len : ABody → Nat
  | .cells cs _ => cs.length
  | _ => 0

/-- What reaches further than e in its family is given up. -/
def ekil (f e : Nat) (H : AHeap) : AHeap := kil (fun _ o => Nat.beq o.fam f && !Nat.ble (o.sh + o.body.len) e) 0 H

/-- A slice grows in place: its old cells stay, and a new block is the whole. -/
theorem Stp.grow {sn : Snap} {ι : IMap} {H : AHeap} {W W' : World} (h : R sn ι H W) {b : Nat} {o : AObj} {p : Place} {cs : List AV} {ty : TypeId} (hb : H[b]? = some o) (ha : o.alive = true) (hp : ι b = some p)
    (hbd : o.body = .cells cs ty) (t : Turn W W' p.blk) (arr arr' : Array Value) (hw : W.heap[p.blk]? = some (.cells arr ty (0, 0))) (hw' : W'.heap[p.blk]? = some (.cells arr' ty (0, 0)))
    (hsz : arr'.size = arr.size) (hkeep : ∀ j, j < p.sh + cs.length → arr'[j]? = arr[j]?) (off : Nat) (bd : ABody) (ho : OR sn ι W' bd ⟨p.blk, p.sh + off, p.n⟩) :
    Stp sn ι H W sn (upd ι H.length ⟨p.blk, p.sh + off, p.n⟩) (ekil o.fam (o.sh + cs.length) H ++ [⟨true, o.fam, o.sh + off, bd⟩]) W' := by
  have hn := h.fresh_none
  have hle : Le sn sn ι (Abs.upd ι H.length ⟨p.blk, p.sh + off, p.n⟩) := Le.upd hn _
  have hcase : ∀ c q, Abs.upd ι H.length ⟨p.blk, p.sh + off, p.n⟩ c = some q → (c = H.length ∧ q = ⟨p.blk, p.sh + off, p.n⟩) ∨ (c < H.length ∧ ι c = some q) := by
    intro c q hq
    unfold Abs.upd at hq
    split at hq
    · simp at hq; exact .inl ⟨by assumption, hq.symm⟩
    · exact .inr ⟨(h.dom c).2 ⟨q, hq⟩, hq⟩
  have hget : ∀ (c : Nat) (x : AObj), (ekil o.fam (o.sh + cs.length) H ++ [⟨true, o.fam, o.sh + off, bd⟩])[c]? = some x →
      (c = H.length ∧ x = ⟨true, o.fam, o.sh + off, bd⟩) ∨ (c < H.length ∧ ∃ y, H[c]? = some y ∧ x.fam = y.fam ∧ x.sh = y.sh ∧ (x.alive = true → x = y ∧ (y.fam = o.fam → y.sh + y.body.len ≤ o.sh + cs.length))) := by
    intro c x hx
    rw [List.getElem?_append, ekil, kil_length] at hx
    split at hx
    · rename_i hlt
      obtain ⟨y, h1, h2, h3, h4⟩ := kil_some hx
      refine .inr ⟨hlt, y, h1, h2, h3, fun hal => ?_⟩
      obtain ⟨h5, h6⟩ := h4 hal
      refine ⟨h5, fun hf => ?_⟩
      have : Nat.beq y.fam o.fam = true := by simp [hf]
      simp [this] at h6
      exact h6
    · rw [List.getElem?_singleton] at hx; split at hx
      · simp at hx; exact .inl ⟨by omega, hx.symm⟩
      · cases hx
  refine ⟨⟨?_, ?_, ?_, ?_, ?_, fun c x q hc hq hz => by
      rcases hcase c q hq with ⟨rfl, rfl⟩ | ⟨hlt, hq⟩
      · rcases hget _ x hc with ⟨_, rfl⟩ | ⟨_, _⟩
        · have hz' : o.sh + off = 0 := hz
          have := h.shz b o p hb hp (by omega)
          show p.sh + off = 0
          omega
        · omega
      · rcases hget c x hc with ⟨rfl, _⟩ | ⟨_, y, h1, _, h3, _⟩
        · omega
        · exact h.shz c y q h1 hq (by rw [← h3]; exact hz)⟩, hle, ?_, ?_, by rw [t.size]; exact Nat.le_refl _, t.os, t.tape, t.output, fun _ _ h => .inl h, ?_⟩
  · intro c
    simp only [List.length_append, List.length_singleton, ekil, kil_length]
    constructor
    · intro hc
      by_cases hc' : c < H.length
      · obtain ⟨q, hq⟩ := (h.dom c).1 hc'; exact ⟨q, hle.ι _ _ hq⟩
      · exact ⟨_, by unfold Abs.upd; rw [if_pos (by omega)]⟩
    · rintro ⟨q, hq⟩
      rcases hcase c q hq with ⟨rfl, _⟩ | ⟨hc, _⟩ <;> omega
  · intro c q hq
    rw [t.size]
    rcases hcase c q hq with ⟨_, rfl⟩ | ⟨_, hq⟩
    · exact h.blk b p hp
    · exact h.blk c q hq
  · intro c x q hc hal hq
    rcases hget c x hc with ⟨rfl, rfl⟩ | ⟨hlt, y, h1, h2, h3, h4⟩
    · rcases hcase _ q hq with ⟨_, rfl⟩ | ⟨hlt, _⟩
      · exact OR_mono hle rfl ho
      · omega
    · rcases hcase _ q hq with ⟨rfl, rfl⟩ | ⟨_, hq⟩
      · omega
      · obtain ⟨rfl, hend⟩ := h4 hal
        have hob := h.obj c x q h1 hal hq
        by_cases hblk : q.blk = p.blk
        · obtain ⟨hf, hs⟩ := h.sep c b x o q p h1 hb hq hp hblk
          have hend := hend hf
          cases hxb : x.body with
          | cells cs' ty' =>
            rw [hxb] at hob hend
            simp only [OR] at hob
            obtain ⟨a1, g1, g2, g3, g4⟩ := hob
            rw [hblk, hw] at g1; simp at g1; obtain ⟨rfl, rfl⟩ := g1
            refine ⟨arr', by rw [hblk, hw'], by omega, g3, fun i c hi => ?_⟩
            obtain ⟨v, k1, k2⟩ := g4 i c hi
            have hil : i < cs'.length := (List.getElem?_eq_some_iff.1 hi).1
            refine ⟨v, ?_, VR_mono hle _ _ k2⟩
            rw [hkeep _ (by simp only [ABody.len] at hend; omega)]; exact k1
          | map es cl => rw [hxb] at hob; simp only [OR] at hob; obtain ⟨_, g1, _⟩ := hob; rw [hblk, hw] at g1; cases g1
          | siter s ps => rw [hxb] at hob; simp only [OR] at hob; obtain ⟨_, g1, _⟩ := hob; rw [hblk, hw] at g1; cases g1
        · exact OR_mono hle (t.other _ hblk) hob
  · intro c c' x x' q q' hc hc' hq hq' e
    rcases hcase c q hq with ⟨rfl, rfl⟩ | ⟨hlt, hq⟩ <;> rcases hcase c' q' hq' with ⟨rfl, rfl⟩ | ⟨hlt', hq'⟩
    · rw [hc] at hc'; simp at hc'; subst hc'; exact ⟨rfl, rfl⟩
    · rcases hget _ x hc with ⟨_, rfl⟩ | ⟨_, _⟩
      · rcases hget c' x' hc' with ⟨rfl, _⟩ | ⟨_, y, h1, h2, h3, _⟩
        · omega
        · obtain ⟨hf, hs⟩ := h.sep b c' o y p q' hb h1 hp hq' e
          rw [h2, h3]; exact ⟨hf, by simp; omega⟩
      · omega
    · rcases hget _ x' hc' with ⟨_, rfl⟩ | ⟨_, _⟩
      · rcases hget c x hc with ⟨rfl, _⟩ | ⟨_, y, h1, h2, h3, _⟩
        · omega
        · obtain ⟨hf, hs⟩ := h.sep c b y o q p h1 hb hq hp e
          rw [h2, h3]; exact ⟨hf, by simp; omega⟩
      · omega
    · rcases hget c x hc with ⟨rfl, _⟩ | ⟨_, y, h1, h2, h3, _⟩
      · omega
      rcases hget c' x' hc' with ⟨rfl, _⟩ | ⟨_, y', h1', h2', h3', _⟩
      · omega
      rw [h2, h3, h2', h3']
      exact h.sep c c' y y' q q' h1 h1' hq hq' e
  · intro a v hv
    obtain ⟨h1, h2, h3⟩ := h.snap a v hv
    refine ⟨by rw [t.size]; exact h1, ?_, ?_⟩
    · rw [← h2]; exact World.cell?_of_block (t.other _ (Ne.symm (h3 b o p hb ha hp)))
    · intro c x q hc hal hq
      rcases hcase c q hq with ⟨rfl, rfl⟩ | ⟨hlt, hq⟩
      · exact h3 b o p hb ha hp
      · rcases hget c x hc with ⟨rfl, _⟩ | ⟨_, y, e1, _, _, e4⟩
        · omega
        · obtain ⟨rfl, _⟩ := e4 hal; exact h3 c x q e1 hal hq
  · intro c q hq
    rcases hcase c q hq with ⟨rfl, rfl⟩ | ⟨_, hq⟩
    · exact .inr (.inr ⟨b, o, p, hb, ha, hp, rfl⟩)
    · exact .inl hq
  · intro c hc hno; exact t.other c (Ne.symm (hno b o p hb ha hp))
  · intro c x hc
    have hlt : c < H.length := (List.getElem?_eq_some_iff.1 hc).1
    rw [List.getElem?_append_left (by rw [ekil, kil_length]; exact hlt)]
    refine ⟨_, by rw [ekil, kil_get, hc]; rfl, ?_, ?_, ?_⟩ <;> (dsimp only; split <;> simp [AObj.dead])

end Go.Abs

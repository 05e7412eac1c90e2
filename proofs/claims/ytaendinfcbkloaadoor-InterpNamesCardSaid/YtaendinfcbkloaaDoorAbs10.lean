/-
  A verified abstract interpreter, part 10: what a call is handed of memory, and what comes back.
-/
import Derived.Test.YtaendinfcbkloaaDoorAbs9
set_option linter.unusedSimpArgs false
set_option linter.unusedVariables false
namespace Go.Abs
open Go.RowKit

/-- Where a number stands. -/
def pos (i : Nat) : List Nat → Nat → Option Nat
  | [], _ => none
  | j :: l, k => if Nat.beq i j then some k else pos i l (k + 1)

theorem pos_some {i : Nat} : ∀ {l : List Nat} {k n : Nat}, pos i l k = some n → k ≤ n ∧ l[n - k]? = some i
  | [], k, n, h => by simp [pos] at h
  | j :: l, k, n, h => by
    simp only [pos] at h
    split at h
    · simp at h; subst h; rename_i e; have := Nat.eq_of_beq_eq_true e; subst this; simp
    · obtain ⟨h1, h2⟩ := pos_some h
      exact ⟨by omega, by rw [show n - k = (n - (k + 1)) + 1 from by omega]; simpa using h2⟩

theorem pos_none {i : Nat} : ∀ {l : List Nat} {k : Nat}, pos i l k = none → i ∉ l
  | [], k, h => by simp
  | j :: l, k, h => by
    simp only [pos] at h
    split at h
    · simp at h
    · rename_i e
      have := pos_none h
      simp only [List.mem_cons, not_or]
      exact ⟨fun hij => e (by simp [hij]), this⟩

/-- From the callee's numbers to the caller's. -/
def imp (ids : List Nat) (base : Nat) (k : Nat) : Nat := match ids[k]? with | some i => i | none => base + (k - ids.length)

mutual
/-- The blocks that a value names. -/
def refs : AV → List Nat → List Nat
  | .ptr b _, acc => b :: acc
  | .slice b _ _ _ _, acc => b :: acc
  | .map b, acc => b :: acc
  | .func _ f c, acc => refsL f (refsL c acc)
  | .iface _ v, acc => refs v acc
  | .agg cs, acc => refsL cs acc
  | .tuple cs, acc => refsL cs acc
  | .bool _, acc => acc
  | .int _ _, acc => acc
  | .str _, acc => acc
  | .nptr, acc => acc
  | .rp _, acc => acc
  | .nslice, acc => acc
  | .rs _ _ _, acc => acc
  | .nmap, acc => acc
  | .nfunc, acc => acc
  | .niface, acc => acc
def refsL : List AV → List Nat → List Nat
  | [], acc => acc
  | v :: l, acc => refs v (refsL l acc)
end

def refsE : List (AV × AV × Nat) → List Nat → List Nat
  | [], acc => acc
  | (k, v, _) :: es, acc => refs k (refs v (refsE es acc))

def refsB : ABody → List Nat → List Nat
  | .cells cs _, acc => refsL cs acc
  | .map es _, acc => refsE es acc
  | .siter _ _, acc => acc

def reach (H : AHeap) : Nat → List Nat → List Nat → List Nat
  | 0, _, seen => seen.reverse
  | _ + 1, [], seen => seen.reverse
  | n + 1, i :: todo, seen =>
    match pos i seen 0 with
    | some _ => reach H n todo seen
    | none => match H[i]? with
      | some o => reach H n (refsB o.body todo) (i :: seen)
      | none => reach H n todo (i :: seen)

def expE (g : Nat → Option Nat) : List (AV × AV × Nat) → Option (List (AV × AV × Nat))
  | [] => some []
  | (k, v, n) :: es => match exp g k, exp g v, expE g es with | some k, some v, some es => some ((k, v, n) :: es) | _, _, _ => none

def expB (g : Nat → Option Nat) : ABody → Option ABody
  | .cells cs ty => match expL g cs with | some cs => some (.cells cs ty) | none => none
  | .map es clock => match expE g es with | some es => some (.map es clock) | none => none
  | .siter s p => some (.siter s p)

def renE (f : Nat → Nat) : List (AV × AV × Nat) → List (AV × AV × Nat)
  | [] => []
  | (k, v, n) :: es => (ren f k, ren f v, n) :: renE f es

def renB (f : Nat → Nat) : ABody → ABody
  | .cells cs ty => .cells (renL f cs) ty
  | .map es clock => .map (renE f es) clock
  | .siter s p => .siter s p

theorem ER_ren {sn : Snap} {ι : IMap} {f : Nat → Nat} : ∀ (es : List (AV × AV × Nat)) (l : List MapEntry), ER sn ι (renE f es) l ↔ ER sn (fun b => ι (f b)) es l
  | [], l => by simp [renE, ER]
  | (k, v, n) :: es, l => by simp [renE, ER, VR_ren k, VR_ren v, ER_ren es]

theorem renL_get {f : Nat → Nat} : ∀ (cs : List AV) (i : Nat), (renL f cs)[i]? = (cs[i]?).map (ren f)
  | [], i => by simp [renL]
  | c :: cs, 0 => by simp [renL]
  | c :: cs, i + 1 => by simp [renL, renL_get cs i]

theorem renL_length {f : Nat → Nat} : ∀ (cs : List AV), (renL f cs).length = cs.length
  | [] => rfl
  | c :: cs => by simp [renL, renL_length cs]

theorem OR_ren {sn : Snap} {ι : IMap} {W : World} {f : Nat → Nat} : ∀ (o : ABody) (p : Place), OR sn ι W (renB f o) p ↔ OR sn (fun b => ι (f b)) W o p
  | .cells cs ty, p => by
    simp only [renB, OR, renL_length]
    constructor
    · rintro ⟨arr, h1, h2, h3, h4⟩
      refine ⟨arr, h1, h2, h3, fun i c hc => ?_⟩
      obtain ⟨v, e1, e2⟩ := h4 i (ren f c) (by rw [renL_get, hc]; rfl)
      exact ⟨v, e1, (VR_ren c v).1 e2⟩
    · rintro ⟨arr, h1, h2, h3, h4⟩
      refine ⟨arr, h1, h2, h3, fun i c hc => ?_⟩
      rw [renL_get] at hc
      simp at hc
      obtain ⟨c', e1, rfl⟩ := hc
      obtain ⟨v, e2, e3⟩ := h4 i c' e1
      exact ⟨v, e2, (VR_ren c' v).2 e3⟩
  | .map es clock, p => by simp only [renB, OR, ER_ren]
  | .siter s ps, p => by simp [renB, OR]

theorem expE_ren {f : Nat → Nat} {g : Nat → Option Nat} (h : ∀ i k, g i = some k → f k = i) : ∀ (es es' : List (AV × AV × Nat)), expE g es = some es' → es = renE f es'
  | [], es', e => by simp [expE] at e; subst e; rfl
  | (k, v, n) :: es, es', e => by
    simp only [expE] at e; split at e <;> simp at e; subst e
    simp only [renE]; rw [← exp_ren h k _ (by assumption), ← exp_ren h v _ (by assumption), ← expE_ren h es _ (by assumption)]

theorem expB_ren {f : Nat → Nat} {g : Nat → Option Nat} (h : ∀ i k, g i = some k → f k = i) : ∀ (o o' : ABody), expB g o = some o' → o = renB f o'
  | .cells cs ty, o', e => by simp only [expB] at e; split at e <;> simp at e; subst e; simp only [renB]; rw [← expL_ren h cs _ (by assumption)]
  | .map es clock, o', e => by simp only [expB] at e; split at e <;> simp at e; subst e; simp only [renB]; rw [← expE_ren h es _ (by assumption)]
  | .siter s p, o', e => by simp [expB] at e; subst e; rfl

def fams (H : AHeap) : List Nat → List Nat
  | [] => []
  | i :: l => (match H[i]? with | some o => o.fam | none => 0) :: fams H l

theorem fams_get (H : AHeap) : ∀ (l : List Nat) (k : Nat), (fams H l)[k]? = (l[k]?).map fun i => match H[i]? with | some o => o.fam | none => 0
  | [], k => by simp [fams]
  | i :: l, 0 => by simp [fams]
  | i :: l, k + 1 => by simp [fams, fams_get H l k]

/-- The part of memory that is handed over: the blocks l, which stand from place k on among ids. -/
def extr (H : AHeap) (ids fs : List Nat) : List Nat → Nat → Option AHeap
  | [], _ => some []
  | i :: l, k =>
    match H[i]?, pos i ids 0 with
    | some o, some k' => if k' = k then
        match expB (fun b => pos b ids 0) o.body, pos o.fam fs 0, extr H ids fs l (k + 1) with
        | some b, some f, some r => some (⟨o.alive, f, o.sh, b⟩ :: r)
        | _, _, _ => none
      else none
    | _, _ => none

theorem extr_get {H : AHeap} {ids fs : List Nat} : ∀ {l : List Nat} {k : Nat} {r : AHeap}, extr H ids fs l k = some r → r.length = l.length ∧
    ∀ (j : Nat) (i : Nat), l[j]? = some i → ∃ o b f, H[i]? = some o ∧ pos i ids 0 = some (k + j) ∧ expB (fun b => pos b ids 0) o.body = some b ∧ pos o.fam fs 0 = some f ∧ r[j]? = some ⟨o.alive, f, o.sh, b⟩
  | [], k, r, h => by simp [extr] at h; subst h; simp
  | i :: l, k, r, h => by
    simp only [extr] at h
    split at h <;> try (simp at h; done)
    rename_i o k' ho hk
    split at h <;> try (simp at h; done)
    rename_i hkk; subst hkk
    split at h <;> simp at h
    subst h; rename_i b f r' hb hf hr
    obtain ⟨h1, h2⟩ := extr_get hr
    refine ⟨by simp [h1], fun j x hx => ?_⟩
    cases j with
    | zero => simp at hx; subst hx; exact ⟨o, b, f, ho, by simpa using hk, hb, hf, by simp⟩
    | succ j =>
      simp at hx
      obtain ⟨o', b', f', e1, e2, e3, e4, e5⟩ := h2 j x hx
      exact ⟨o', b', f', e1, by rw [e2]; congr 1; omega, e3, e4, by simpa using e5⟩

section sub
variable {sn : Snap} {ι : IMap} {H : AHeap} {W : World}

theorem imp_pos {ids : List Nat} {base i k : Nat} (h : pos i ids 0 = some k) : imp ids base k = i := by
  obtain ⟨_, h2⟩ := pos_some h
  simp at h2
  simp [imp, h2]

theorem sub_ι (hR : R sn ι H W) {ids : List Nat} {k : Nat} {p : Place} (h : ι (imp ids H.length k) = some p) : ∃ i, ids[k]? = some i ∧ ι i = some p := by
  unfold imp at h
  split at h
  · rename_i i hi; exact ⟨i, hi, h⟩
  · have := (hR.dom _).2 ⟨p, h⟩; omega

/-- The part that is handed over, and its relation to the world. -/
theorem R.sub (hR : R sn ι H W) {ids : List Nat} {Hs : AHeap} (h : extr H ids (fams H ids) ids 0 = some Hs) : R sn (fun k => ι (imp ids H.length k)) Hs W := by
  obtain ⟨hl, hg⟩ := extr_get h
  have hgi : ∀ (k : Nat) (x : AObj), Hs[k]? = some x → ∃ i o b f, ids[k]? = some i ∧ H[i]? = some o ∧ expB (fun b => pos b ids 0) o.body = some b ∧ pos o.fam (fams H ids) 0 = some f ∧ x = ⟨o.alive, f, o.sh, b⟩ := by
    intro k x hx
    have hk : k < ids.length := by have := (List.getElem?_eq_some_iff.1 hx).1; omega
    obtain ⟨o, b, f, e1, _, e3, e4, e5⟩ := hg k ids[k] (List.getElem?_eq_getElem hk)
    rw [hx] at e5; simp at e5
    exact ⟨ids[k], o, b, f, List.getElem?_eq_getElem hk, e1, e3, e4, e5⟩
  refine ⟨?_, ?_, ?_, ?_, ?_⟩
  · intro k
    constructor
    · intro hk
      obtain ⟨i, o, b, f, e1, e2, _⟩ := hgi k Hs[k] (List.getElem?_eq_getElem hk)
      obtain ⟨p, hp⟩ := hR.place e2
      exact ⟨p, by simp [imp, e1, hp]⟩
    · rintro ⟨p, hp⟩
      obtain ⟨i, hi, _⟩ := sub_ι hR hp
      have := (List.getElem?_eq_some_iff.1 hi).1; omega
  · intro k p hp; exact hR.blk _ p hp
  · intro k x p hx ha hp
    obtain ⟨i, o, b, f, e1, e2, e3, e4, rfl⟩ := hgi k x hx
    have hp' : ι i = some p := by simpa [imp, e1] using hp
    have ho := hR.obj i o p e2 ha hp'
    rw [expB_ren (f := imp ids H.length) (fun i k hik => imp_pos hik) _ _ e3] at ho
    exact (OR_ren b p).1 ho
  · intro k k' x x' p p' hx hx' hp hp' e
    obtain ⟨i, o, b, f, e1, e2, e3, e4, rfl⟩ := hgi k x hx
    obtain ⟨i', o', b', f', e1', e2', e3', e4', rfl⟩ := hgi k' x' hx'
    obtain ⟨hf, hs⟩ := hR.sep i i' o o' p p' e2 e2' (by simpa [imp, e1] using hp) (by simpa [imp, e1'] using hp') e
    refine ⟨?_, hs⟩
    rw [hf, e4'] at e4; simpa using e4.symm
  · intro a v hv
    obtain ⟨h1, h2, h3⟩ := hR.snap a v hv
    refine ⟨h1, h2, fun k x p hx ha hp => ?_⟩
    obtain ⟨i, o, b, f, e1, e2, e3, e4, rfl⟩ := hgi k x hx
    exact h3 i o p e2 ha (by simpa [imp, e1] using hp)

def mem (i : Nat) : List Nat → Bool
  | [] => false
  | j :: l => Nat.beq i j || mem i l

theorem mem_iff {i : Nat} : ∀ {l : List Nat}, mem i l = true ↔ i ∈ l
  | [] => by simp [mem]
  | j :: l => by simp [mem, mem_iff (l := l), Nat.beq_eq]

/-- The callee's block in the caller's numbers. -/
def impO (ids fs : List Nat) (base : Nat) (o : AObj) : AObj :=
  { alive := o.alive, fam := (match fs[o.fam]? with | some f => f | none => base + (o.fam - ids.length)), sh := o.sh, body := renB (imp ids base) o.body }

/-- The caller's memory behind a call: what was handed over comes back; what shared with it and was not handed over is given up. -/
def merge (ids fs : List Nat) (H1 : AHeap) : Nat → AHeap → AHeap
  | _, [] => []
  | b, o :: H => (match pos b ids 0 with
      | some k => (match H1[k]? with | some o1 => o1 | none => o.dead)
      | none => if mem o.fam fs then o.dead else o) :: merge ids fs H1 (b + 1) H

def back (H : AHeap) (ids : List Nat) (H1 : AHeap) : AHeap :=
  merge ids (fams H ids) (H1.map (impO ids (fams H ids) H.length)) 0 H ++ (H1.drop ids.length).map (impO ids (fams H ids) H.length)

theorem merge_get {ids fs : List Nat} {H1 : AHeap} : ∀ (H : AHeap) (b c : Nat), (merge ids fs H1 b H)[c]? = (H[c]?).map fun o => match pos (b + c) ids 0 with
      | some k => (match H1[k]? with | some o1 => o1 | none => o.dead)
      | none => if mem o.fam fs then o.dead else o
  | [], b, c => by simp [merge]
  | o :: H, b, 0 => by simp [merge]
  | o :: H, b, c + 1 => by simp only [merge, List.getElem?_cons_succ, merge_get H (b + 1) c]; rw [show b + 1 + c = b + (c + 1) from by omega]

theorem merge_length {ids fs : List Nat} {H1 : AHeap} : ∀ (H : AHeap) (b : Nat), (merge ids fs H1 b H).length = H.length
  | [], b => rfl
  | o :: H, b => by simp [merge, merge_length H]

/-- What becomes of names. -/
def backI (ι ι1 : IMap) (n m : Nat) : IMap := fun b => if b < n then ι b else ι1 (m + (b - n))

theorem Stp.back (hR : R sn ι H W) {ids : List Nat} {Hs : AHeap} (h : extr H ids (fams H ids) ids 0 = some Hs) {sn1 : Snap} {ι1 : IMap} {H1 : AHeap} {W1 : World}
    (k : Stp sn (fun k => ι (imp ids H.length k)) Hs W sn1 ι1 H1 W1) :
    Stp sn ι H W sn1 (backI ι ι1 H.length ids.length) (back H ids H1) W1 ∧ ∀ u v, VR sn1 ι1 u v → VR sn1 (backI ι ι1 H.length ids.length) (ren (imp ids H.length) u) v := by
  obtain ⟨hl, hg⟩ := extr_get h
  have hl1 : ids.length ≤ H1.length := by
    rcases Nat.lt_or_ge H1.length ids.length with hlt | hge
    · exfalso
      have : H1.length < Hs.length := by omega
      obtain ⟨o', e1, _⟩ := k.evo H1.length Hs[H1.length] (List.getElem?_eq_getElem this)
      simp at e1
    · exact hge
  -- the callee's names are the caller's, renamed
  have hιk : ∀ j, ι1 j = backI ι ι1 H.length ids.length (imp ids H.length j) := by
    intro j
    unfold imp
    split
    · rename_i i hi
      have hj : j < ids.length := (List.getElem?_eq_some_iff.1 hi).1
      obtain ⟨o, b, f, e1, _⟩ := hg j i hi
      obtain ⟨p, hp⟩ := hR.place e1
      have hil : i < H.length := (List.getElem?_eq_some_iff.1 e1).1
      have := k.le.ι j p (by simp [imp, hi, hp])
      rw [this]; simp [backI, hil, hp]
    · rename_i hi
      have hj : ids.length ≤ j := by simpa using hi
      simp only [backI]
      rw [if_neg (by omega)]
      congr 1; omega
  have hfun : (fun j => backI ι ι1 H.length ids.length (imp ids H.length j)) = ι1 := funext fun j => (hιk j).symm
  have hVR : ∀ u v, VR sn1 ι1 u v → VR sn1 (backI ι ι1 H.length ids.length) (ren (imp ids H.length) u) v := by
    intro u v huv; rw [VR_ren, hfun]; exact huv
  have hle : Le sn sn1 ι (backI ι ι1 H.length ids.length) := ⟨k.le.sn, fun b p hb => by
    have := (hR.dom b).2 ⟨p, hb⟩; simp [backI, this, hb]⟩
  -- an old block that is handed over
  have hext : ∀ {c j : Nat}, pos c ids 0 = some j → ∃ o o1, H[c]? = some o ∧ H1[j]? = some o1 ∧ j < ids.length ∧ ids[j]? = some c ∧ o1.sh = o.sh ∧ (impO ids (fams H ids) H.length o1).fam = o.fam ∧ (o1.alive = true → o.alive = true) ∧
      (∃ x, Hs[j]? = some x ∧ x.alive = o.alive) := by
    intro c j hj
    obtain ⟨_, hj2⟩ := pos_some hj
    simp at hj2
    obtain ⟨o, b, f, e1, e2, e3, e4, e5⟩ := hg j c hj2
    obtain ⟨o1, g1, g2, g3, g4⟩ := k.evo j _ e5
    refine ⟨o, o1, e1, g1, (List.getElem?_eq_some_iff.1 hj2).1, hj2, g3, ?_, g4, ⟨_, e5, rfl⟩⟩
    obtain ⟨_, hf⟩ := pos_some e4
    simp at hf
    simp only at g2
    simp only [impO, g2, hf]
  have hb0 : ∀ (c : Nat) (x : AObj), c < H.length → (Abs.back H ids H1)[c]? = some x →
      (∃ j o o1, pos c ids 0 = some j ∧ H[c]? = some o ∧ H1[j]? = some o1 ∧ x = impO ids (fams H ids) H.length o1) ∨
      (pos c ids 0 = none ∧ ∃ o, H[c]? = some o ∧ x.fam = o.fam ∧ x.sh = o.sh ∧ (x.alive = true → x = o ∧ o.fam ∉ fams H ids)) := by
    intro c x hc hx
    rw [Abs.back, List.getElem?_append_left (by rw [merge_length]; exact hc), merge_get] at hx
    simp only [Nat.zero_add, Option.map_eq_some_iff] at hx
    obtain ⟨o, ho, hx⟩ := hx
    split at hx
    · rename_i j hj
      obtain ⟨o', o1, e1, e2, _⟩ := hext hj
      rw [List.getElem?_map, e2] at hx
      simp at hx
      exact .inl ⟨j, o, o1, hj, ho, e2, hx.symm⟩
    · rename_i hj
      refine .inr ⟨hj, o, ho, ?_⟩
      split at hx
      · subst hx; simp [AObj.dead]
      · rename_i hm
        subst hx; exact ⟨rfl, rfl, fun _ => ⟨rfl, fun hmem => hm (mem_iff.2 hmem)⟩⟩
  have hb1 : ∀ (c : Nat) (x : AObj), H.length ≤ c → (Abs.back H ids H1)[c]? = some x → ∃ o1, H1[ids.length + (c - H.length)]? = some o1 ∧ x = impO ids (fams H ids) H.length o1 := by
    intro c x hc hx
    rw [Abs.back, List.getElem?_append_right (by rw [merge_length]; exact hc), merge_length, List.getElem?_map, List.getElem?_drop] at hx
    simp at hx
    obtain ⟨o1, e1, e2⟩ := hx
    exact ⟨o1, e1, e2.symm⟩
  -- every living or dead block behind the call: an old one that was not handed over, or one of the callee's
  have hb2 : ∀ (c : Nat) (x : AObj) p, (Abs.back H ids H1)[c]? = some x → backI ι ι1 H.length ids.length c = some p →
      (pos c ids 0 = none ∧ ι c = some p ∧ ∃ o, H[c]? = some o ∧ x.fam = o.fam ∧ x.sh = o.sh ∧ (x.alive = true → x = o ∧ o.fam ∉ fams H ids)) ∨
      (∃ j o1, H1[j]? = some o1 ∧ ι1 j = some p ∧ x = impO ids (fams H ids) H.length o1 ∧ ((∃ o, j < ids.length ∧ ids[j]? = some c ∧ H[c]? = some o ∧ x.fam = o.fam ∧ x.sh = o.sh ∧ ι c = some p) ∨ ids.length ≤ j)) := by
    intro c x p hx hp
    rcases Nat.lt_or_ge c H.length with hc | hc
    · have hp' : ι c = some p := by simpa [backI, hc] using hp
      rcases hb0 c x hc hx with ⟨j, o, o1, e1, e2, e3, rfl⟩ | ⟨e1, o, e2, e3, e4, e5⟩
      · obtain ⟨o', o1', f1, f2, f3, f4, f5, f6, f7, _⟩ := hext e1
        rw [e2] at f1; simp at f1; subst f1
        rw [e3] at f2; simp at f2; subst f2
        refine .inr ⟨j, o1, e3, ?_, rfl, .inl ⟨o, f3, f4, e2, f6, f5, hp'⟩⟩
        rw [hιk j]; simp [imp, f4, hp]
      · exact .inl ⟨e1, hp', o, e2, e3, e4, e5⟩
    · obtain ⟨o1, e1, rfl⟩ := hb1 c x hc hx
      refine .inr ⟨_, o1, e1, ?_, rfl, .inr (by omega)⟩
      simp only [backI] at hp; rw [if_neg (by omega)] at hp; exact hp
  -- an old block that was not handed over, and one of the callee's, in one block of the world
  have hcross : ∀ (c : Nat) (o : AObj) (p : Place), H[c]? = some o → ι c = some p → ∀ (j : Nat) (o1 : AObj) (q : Place), H1[j]? = some o1 → ι1 j = some q → p.blk = q.blk →
      o.fam = (impO ids (fams H ids) H.length o1).fam ∧ p.sh + o1.sh = q.sh + o.sh ∧ o.fam ∈ fams H ids := by
    intro c o p ho hp j o1 q hj hq e
    have hfj : ∀ {j' : Nat} {i' : Nat} {o' : AObj}, ids[j']? = some i' → H[i']? = some o' → o'.fam ∈ fams H ids := by
      intro j' i' o' h1 h2
      have := fams_get H ids j'
      rw [h1] at this; simp [h2] at this
      exact List.mem_of_getElem? this
    rcases k.fresh j q hq with h1 | h1 | ⟨b0, x0, p0, g1, g2, g3, g4⟩
    · obtain ⟨i, hi, hqi⟩ := sub_ι hR h1
      obtain ⟨oi, b, f, e1, e2, e3, e4, e5⟩ := hg j i hi
      obtain ⟨o', o1', f1, f2, f3, f4, f5, f6, _⟩ := hext (by simpa using e2)
      rw [hj] at f2; simp at f2; subst f2
      rw [e1] at f1; simp at f1; subst f1
      obtain ⟨hf, hs⟩ := hR.sep c i o oi p q ho e1 hp hqi e
      exact ⟨hf.trans f6.symm, by rw [f5]; exact hs, hf ▸ hfj hi e1⟩
    · have := hR.blk c p hp; omega
    · obtain ⟨i, hi, hqi⟩ := sub_ι hR g3
      obtain ⟨oi, b, f, e1, e2, e3, e4, e5⟩ := hg b0 i hi
      obtain ⟨o', o0, f1, f2, f3, f4, f5, f6, _⟩ := hext (by simpa using e2)
      rw [e1] at f1; simp at f1; subst f1
      have hp0 : ι1 b0 = some p0 := k.le.ι _ _ g3
      obtain ⟨hf1, hs1⟩ := k.rel.sep b0 j o0 o1 p0 q f2 hj hp0 hq g4
      obtain ⟨hf, hs⟩ := hR.sep c i o oi p p0 ho e1 hp hqi (by omega)
      refine ⟨?_, by omega, hf ▸ hfj hi e1⟩
      rw [hf, ← f6]; simp only [impO, hf1]
  refine ⟨⟨⟨?_, ?_, ?_, ?_, ?_⟩, hle, ?_, ?_, k.size, k.os, k.tape, k.output, ?_, ?_⟩, hVR⟩
  · -- dom
    intro c
    have hlen : (Abs.back H ids H1).length = H.length + (H1.length - ids.length) := by simp [Abs.back, merge_length]
    rw [hlen]
    constructor
    · intro hc
      by_cases hcl : c < H.length
      · obtain ⟨p, hp⟩ := (hR.dom c).1 hcl; exact ⟨p, hle.ι _ _ hp⟩
      · obtain ⟨p, hp⟩ := (k.rel.dom (ids.length + (c - H.length))).1 (by omega)
        exact ⟨p, by simp only [backI]; rw [if_neg (by omega)]; exact hp⟩
    · rintro ⟨p, hp⟩
      by_cases hcl : c < H.length
      · omega
      · simp only [backI] at hp; rw [if_neg (by omega)] at hp
        have := (k.rel.dom _).2 ⟨p, hp⟩; omega
  · -- blk
    intro c p hp
    by_cases hcl : c < H.length
    · have hp' : ι c = some p := by simpa [backI, hcl] using hp
      exact Nat.lt_of_lt_of_le (hR.blk c p hp') k.size
    · simp only [backI] at hp; rw [if_neg (by omega)] at hp
      exact k.rel.blk _ p hp
  · -- obj
    intro c x p hx ha hp
    rcases hb2 c x p hx hp with ⟨e1, hp', o, e2, e3, e4, e5⟩ | ⟨j, o1, e1, e2, rfl, _⟩
    · obtain ⟨rfl, hnf⟩ := e5 ha
      refine OR_mono hle (k.frame _ (hR.blk c p hp') ?_) (hR.obj c x p e2 ha hp')
      intro b y q hy hya hq e
      obtain ⟨i, hi, hqi⟩ := sub_ι hR hq
      obtain ⟨oi, b', f, g1, _⟩ := hg b i hi
      have hf := (hR.sep c i x oi p q e2 g1 hp' hqi e.symm).1
      apply hnf
      rw [hf]
      have := fams_get H ids b
      rw [hi] at this; simp [g1] at this
      exact List.mem_of_getElem? this
    · show OR sn1 _ W1 (renB (imp ids H.length) o1.body) p
      rw [OR_ren, hfun]
      exact k.rel.obj j o1 p e1 ha e2
  · -- sep
    intro c c' x x' p p' hx hx' hp hp' e
    rcases hb2 c x p hx hp with ⟨_, hq, o, e2, e3, e4, _⟩ | ⟨j, o1, e1, e2, rfl, hc1⟩ <;> rcases hb2 c' x' p' hx' hp' with ⟨_, hq', o', e2', e3', e4', _⟩ | ⟨j', o1', e1', e2', rfl, hc1'⟩
    · rw [e3, e4, e3', e4']; exact hR.sep c c' o o' p p' e2 e2' hq hq' e
    · rw [e3, e4]
      obtain ⟨h1, h2, _⟩ := hcross c o p e2 hq j' o1' p' e1' e2' e
      exact ⟨h1, h2⟩
    · rw [e3', e4']
      obtain ⟨h1, h2, _⟩ := hcross c' o' p' e2' hq' j o1 p e1 e2 e.symm
      exact ⟨h1.symm, h2.symm⟩
    · obtain ⟨h1, h2⟩ := k.rel.sep j j' o1 o1' p p' e1 e1' e2 e2' e
      exact ⟨by simp only [impO, h1], h2⟩
  · -- snap
    intro a v hv
    obtain ⟨h1, h2, h3⟩ := k.rel.snap a v hv
    refine ⟨h1, h2, fun c x p hx ha hp => ?_⟩
    rcases hb2 c x p hx hp with ⟨e1, hp', o, e2, e3, e4, e5⟩ | ⟨j, o1, e1, e2, rfl, _⟩
    · obtain ⟨rfl, hnf⟩ := e5 ha
      rcases k.sfresh a v hv with g | g | ⟨b0, x0, p0, g1, g2, g3, g4⟩
      · exact (hR.snap a v g).2.2 c x p e2 ha hp'
      · have := hR.blk c p hp'; omega
      · intro e
        obtain ⟨i, hi, hqi⟩ := sub_ι hR g3
        obtain ⟨oi, b', f, f1, _⟩ := hg b0 i hi
        have hf := (hR.sep c i x oi p p0 e2 f1 hp' hqi (by omega)).1
        apply hnf
        rw [hf]
        have := fams_get H ids b0
        rw [hi] at this; simp [f1] at this
        exact List.mem_of_getElem? this
    · exact h3 j o1 p e1 ha e2
  · -- fresh
    intro c p hp
    by_cases hcl : c < H.length
    · exact .inl (by simpa [backI, hcl] using hp)
    · simp only [backI] at hp; rw [if_neg (by omega)] at hp
      rcases k.fresh _ p hp with h1 | h1 | ⟨b0, x0, p0, g1, g2, g3, g4⟩
      · obtain ⟨i, hi, hqi⟩ := sub_ι hR h1
        have := (List.getElem?_eq_some_iff.1 hi).1; omega
      · exact .inr (.inl h1)
      · obtain ⟨i, hi, hqi⟩ := sub_ι hR g3
        obtain ⟨oi, b', f, f1, _, _, _, f5⟩ := hg b0 i hi
        rw [g1] at f5; simp at f5; subst f5
        exact .inr (.inr ⟨i, oi, p0, f1, g2, hqi, g4⟩)
  · -- frame
    intro c hc hno
    refine k.frame c hc fun b x p hb ha hp => ?_
    obtain ⟨i, hi, hqi⟩ := sub_ι hR hp
    obtain ⟨oi, b', f, f1, _, _, _, f5⟩ := hg b i hi
    rw [hb] at f5; simp at f5; subst f5
    exact hno i oi p f1 ha hqi
  · -- sfresh
    intro a v hv
    rcases k.sfresh a v hv with g | g | ⟨b0, x0, p0, g1, g2, g3, g4⟩
    · exact .inl g
    · exact .inr (.inl g)
    · obtain ⟨i, hi, hqi⟩ := sub_ι hR g3
      obtain ⟨oi, b', f, f1, _, _, _, f5⟩ := hg b0 i hi
      rw [g1] at f5; simp at f5; subst f5
      exact .inr (.inr ⟨i, oi, p0, f1, g2, hqi, g4⟩)
  · -- evo
    intro c o hc
    have hcl : c < H.length := (List.getElem?_eq_some_iff.1 hc).1
    have hlt : c < (Abs.back H ids H1).length := by simp [Abs.back, merge_length]; omega
    have hx : (Abs.back H ids H1)[c]? = some (Abs.back H ids H1)[c] := List.getElem?_eq_getElem hlt
    rcases hb0 c _ hcl hx with ⟨j, o', o1, e1, e2, e3, e4⟩ | ⟨e1, o', e2, e3, e4, e5⟩
    · obtain ⟨o'', o1', f1, f2, f3, f4, f5, f6, f7, _⟩ := hext e1
      rw [hc] at f1; simp at f1; subst f1
      rw [e3] at f2; simp at f2; subst f2
      refine ⟨_, hx, ?_, ?_, ?_⟩
      · rw [e4]; exact f6
      · rw [e4]; exact f5
      · rw [e4]; exact f7
    · rw [hc] at e2; simp at e2; subst e2
      exact ⟨_, hx, e3, e4, fun ha => by rw [(e5 ha).1] at ha; exact ha⟩
end sub
end Go.Abs

/-
  Texts of this proof, one behind the other (part 6).
-/
import Derived.Test.YtacaaiiooedgjaaDoorPack5

/-
  A verified abstract interpreter, part 40: what is appended to a list that is known as a whole; what a function hands back of its own lists.
-/
section
set_option linter.unusedSimpArgs false
set_option linter.unusedVariables false
namespace Go.Abs
open Go.RowKit

/-- No other block is of this family. -/
def lone (f b : Nat) : Nat → AHeap → Bool
  | _, [] => true
  | i, o :: H => (Nat.beq i b || !Nat.beq o.fam f) && lone f b (i + 1) H
theorem lone_get {f b : Nat} : ∀ {H : AHeap} {i j : Nat} {o : AObj}, lone f b i H = true → H[j]? = some o → i + j = b ∨ o.fam ≠ f
  | [], i, j, o, h, e => by simp at e
  | x :: H, i, 0, o, h, e => by
    simp only [lone, Bool.and_eq_true, Bool.or_eq_true, Bool.not_eq_true'] at h
    simp at e; subst e
    rcases h.1 with h1 | h1
    · exact .inl (Nat.eq_of_beq_eq_true h1)
    · exact .inr fun e => by rw [e] at h1; simp at h1
  | x :: H, i, j + 1, o, h, e => by
    simp only [lone, Bool.and_eq_true] at h
    have := lone_get h.2 (by simpa using e)
    rcases this with h1 | h1
    · exact .inl (by omega)
    · exact .inr h1
theorem kil_id {q : Nat → AObj → Bool} : ∀ (H : AHeap) (i : Nat), (∀ j o, H[j]? = some o → q (i + j) o = false) → kil q i H = H
  | [], i, h => rfl
  | o :: H, i, h => by
    have h0 := h 0 o rfl
    simp only [Nat.add_zero] at h0
    simp only [kil, h0]
    rw [kil_id H (i + 1) fun j o' e => by have := h (j + 1) o' (by simpa using e); rw [← this]; congr 1; omega]
    simp
theorem ekil_lone {f b sh : Nat} {H : AHeap} {cs : List AV} {ty : TypeId} (hH : H[b]? = some ⟨true, f, sh, .cells cs ty⟩) (hl : lone f b 0 H = true) : ekil f (sh + cs.length) H = H := by
  refine kil_id H 0 fun j o e => ?_
  rcases lone_get hl e with h | h
  · simp only [Nat.zero_add] at h; subst h; rw [hH] at e; cases e; simp [ABody.len]
  · have : Nat.beq o.fam f = false := Bool.eq_false_iff.2 fun e => h (Nat.eq_of_beq_eq_true e)
    rw [this]; rfl
theorem wkil_lone {f b : Nat} {H : AHeap} {o : AObj} (hH : H[b]? = some o) (hl : lone f b 0 H = true) : wkil b f H = H := by
  refine kil_id H 0 fun j o e => ?_
  rcases lone_get hl e with h | h
  · simp only [Nat.zero_add] at h; subst h; simp
  · have : Nat.beq o.fam f = false := Bool.eq_false_iff.2 fun e => h (Nat.eq_of_beq_eq_true e)
    rw [this]; rfl

/-- Of the types of an append: the elements', their cells, their bytes. -/
def appT (P : Program) (t t2 : TypeId) : Option (TypeId × Nat × Nat) :=
  match P.underlying t with
  | some (.slice e) => match P.info? e, tzero P e with
    | some i, some u => if apx P t2 && u.cells.length == i.size then some (e, i.size, i.bytes) else none
    | _, _ => none
  | _ => none
theorem appT_some {P : Program} {t t2 e : TypeId} {z by_ : Nat} (h : appT P t t2 = some (e, z, by_)) : P.underlying t = some (.slice e) ∧ ∃ i u, P.info? e = some i ∧ tzero P e = some u ∧ (apx P t2 && u.cells.length == i.size) = true ∧ i.size = z ∧ i.bytes = by_ := by
  unfold appT at h
  split at h <;> try (cases h; done)
  rename_i e' he
  split at h <;> try (cases h; done)
  rename_i i u hi hu
  split at h <;> cases h
  rename_i hc
  exact ⟨he, i, u, hi, hu, hc, rfl, rfl⟩
/-- To a list that is known az a whole, and has no room. -/
theorem app_ok {P : Program} {t t2 e : TypeId} {z by_ : Nat} (hT : appT P t t2 = some (e, z, by_)) {H : AHeap} {x : AV} {b f len n : Nat} {cs xs : List AV} (hx : xcells H z x = some (n, xs)) (hH : H[b]? = some ⟨true, f, 0, .cells cs e⟩)
    (hl : lone f b 0 H = true) (hc : cs.length = len * z) (ho : xs.all one = true) (hn : n ≠ 0) (hs : len + n ≤ 1099511627776 ∧ (len + n) * by_ ≤ 70368744177664) :
    aAppend P t t2 (.slice b 0 len len z) x H = some (.slice H.length 0 (len + n) (len + n) z, H ++ [⟨true, f, 0, .cells (cs ++ xs) e⟩]) := by
  obtain ⟨h1, i, u, h2, h3, h4, rfl, rfl⟩ := appT_some hT
  have hk := ekil_lone hH hl
  simp only [aAppend, h1, h2, h3]
  rw [if_pos h4]
  simp only [hx]
  rw [if_neg hn, if_pos trivial, if_neg (by intro h; omega), if_pos hs]
  simp only [hH]
  rw [if_pos ⟨by omega, trivial, ho⟩]
  simp only [List.drop_zero, Nat.add_zero, hk]
theorem ekil_le {f e : Nat} {H : AHeap} (h : ∀ o ∈ H, o.fam = f → o.sh + o.body.len ≤ e) : ekil f e H = H := by
  refine kil_id H 0 fun j o ho => ?_
  by_cases hf : o.fam = f
  · have := h o (List.mem_of_getElem? ho) hf
    simp [hf, this]
  · have : Nat.beq o.fam f = false := Bool.eq_false_iff.2 fun e => hf (Nat.eq_of_beq_eq_true e)
    rw [this]; rfl
/-- To a list that is known as a whole, whatever room it has. -/
theorem app_okG {P : Program} {t t2 e : TypeId} {z by_ : Nat} (hT : appT P t t2 = some (e, z, by_)) {H : AHeap} {x : AV} {b f len cap n : Nat} {cs xs : List AV} (hx : xcells H z x = some (n, xs)) (hH : H[b]? = some ⟨true, f, 0, .cells cs e⟩)
    (hk : ekil f cs.length H = H) (hc : cs.length = len * z) (ho : xs.all one = true) (hn : n ≠ 0) (hs : len + n ≤ 1099511627776 ∧ (len + n) * by_ ≤ 70368744177664) :
    aAppend P t t2 (.slice b 0 len cap z) x H = some (.slice H.length 0 (len + n) (len + n) z, H ++ [⟨true, f, 0, .cells (cs ++ xs) e⟩]) := by
  obtain ⟨h1, i, u, h2, h3, h4, rfl, rfl⟩ := appT_some hT
  have hcl : clen H b = cs.length := by unfold clen; rw [hH]
  simp only [aAppend, h1, h2, h3]
  rw [if_pos h4]
  simp only [hx]
  rw [if_neg hn, if_pos trivial, if_neg (by intro h; rw [hcl] at h; omega), if_pos hs]
  simp only [hH]
  rw [if_pos ⟨by omega, trivial, ho⟩]
  simp only [List.drop_zero, Nat.add_zero, Nat.zero_add, hk]
/-- Nothing is appended. -/
theorem app_zero {P : Program} {t t2 e : TypeId} {z by_ : Nat} (hT : appT P t t2 = some (e, z, by_)) {H : AHeap} {x : AV} {b off len cap : Nat} {xs : List AV} (hx : xcells H z x = some (0, xs)) :
    aAppend P t t2 (.slice b off len cap z) x H = some (.slice b off len cap z, H) := by
  obtain ⟨h1, i, u, h2, h3, h4, rfl, rfl⟩ := appT_some hT
  simp only [aAppend, h1, h2, h3]
  rw [if_pos h4]
  simp only [hx, if_true]
theorem tk_all : ∀ {cs : List AV} {n : Nat}, cs.length = n → tk n cs = some cs
  | [], 0, _ => rfl
  | c :: cs, n + 1, h => by simp only [tk, tk_all (cs := cs) (n := n) (by simpa using h)]
  | c :: cs, 0, h => by simp at h
  | [], n + 1, h => by simp at h
/-- unsafe.String of bytes of ours. -/
theorem bytesOfL_ok : ∀ (s : List UInt8), bytesOfL (s.map fun b => AV.int .u8 b.toNat) = some s
  | [] => rfl
  | b :: s => by
    have h : Nat.blt b.toNat 256 = true := by have := b.toNat_lt; simp [Nat.blt]; omega
    show (if Nat.blt b.toNat 256 then (match bytesOfL (s.map fun b => AV.int .u8 b.toNat) with | some r => some (UInt8.ofNat b.toNat :: r) | none => none) else none) = _
    rw [if_pos h, bytesOfL_ok s]; simp
theorem ustr_ok {P : Program} {t ty : TypeId} {H : AHeap} {b f : Nat} {s : List UInt8} (ht : P.underlying t = some (.pointer ty)) (hc : P.cellsOf ty = 1) (hH : H[b]? = some ⟨true, f, 0, .cells (s.map fun c => .int .u8 c.toNat) ty⟩) (h0 : s ≠ []) (hs : s.length ≤ 1099511627776) :
    aUStr P t (.ptr b 0) s.length H = some (.str s, (wkil b f H).set b (AObj.dead ⟨true, f, 0, .cells (s.map fun c => .int .u8 c.toNat) ty⟩)) := by
  cases s with
  | nil => exact absurd rfl h0
  | cons c s =>
    have ht' : tk (s.length + 1) ((c :: s).map fun b => AV.int .u8 b.toNat) = some ((c :: s).map fun b => AV.int .u8 b.toNat) := tk_all (by simp)
    have hb := bytesOfL_ok (c :: s)
    have hle : Nat.ble (s.length + 1) 9223372036854775807 = true := by simp at hs ⊢; omega
    simp only [List.length_cons, aUStr, hH, ht, hc, hle]
    rw [ht', if_pos (by simp)]
    generalize ((c :: s).map fun b => AV.int .u8 b.toNat) = m at *
    simp only [hb]
/-- bytealg.MakeNoZero. -/
theorem mkz_ok {P : Program} {orc : Orc} {H : AHeap} {g e n : Nat} (hb : hasBody P g = false) (h1 : ∀ args, extId P g args = none) (h2 : ∀ args, extIx P g args = none) (h3 : extMk P g = some e) (hn : n ≤ 281474976710656) :
    acall P orc H g [.int .i64 n] = some (.slice H.length 0 n n 1, H ++ [⟨true, H.length, 0, .cells [] e⟩]) := by
  unfold acall
  rw [hb]
  simp only [h1, h2, h3]
  show (if false = true then _ else if n ≤ 281474976710656 then _ else _) = _
  rw [if_neg (by decide), if_pos hn]
/-- To nil. -/
theorem app_nil {P : Program} {t t2 e : TypeId} {z by_ : Nat} (hT : appT P t t2 = some (e, z, by_)) {H : AHeap} {x : AV} {n : Nat} {xs : List AV} (hx : xcells H z x = some (n, xs)) (hn : n ≠ 0) (hs : n ≤ 1099511627776 ∧ n * by_ ≤ 70368744177664) :
    aAppend P t t2 .nslice x H = some (.slice H.length 0 n n z, newBlk H xs e) := by
  obtain ⟨h1, i, u, h2, h3, h4, rfl, rfl⟩ := appT_some hT
  simp only [aAppend, h1, h2, h3]
  rw [if_pos h4]
  simp only [hx]
  rw [if_neg hn, if_pos hs]

/-- Numbers, truths, texts. -/
def lit : AV → Bool
  | .bool _ => true
  | .int _ _ => true
  | .str _ => true
  | _ => false
theorem frz_lit {H : AHeap} {n : Nat} : ∀ {u : AV}, lit u = true → frz H (n + 1) u = some u
  | .bool _, _ => rfl
  | .int _ _, _ => rfl
  | .str _, _ => rfl
theorem frzL_lit {H : AHeap} {n : Nat} : ∀ {cs : List AV}, cs.all lit = true → frzL (frz H (n + 1)) cs = some cs
  | [], _ => rfl
  | c :: cs, h => by
    simp only [List.all_cons, Bool.and_eq_true] at h
    simp only [frzL, frz_lit h.1, frzL_lit h.2]
/-- One cell of a list. -/
theorem tk1_map {α : Type} (f : α → AV) (l : List α) (j : Nat) (h : j < l.length) {off : Nat} (e : off = j) : tk 1 ((l.map f).drop off) = some [f l[j]] := by
  subst e
  rw [List.drop_eq_getElem_cons (by simpa using h)]; simp [tk]
theorem tk1_get {cs : List AV} {off : Nat} {c : AV} (h : cs[off]? = some c) : tk 1 (cs.drop off) = some [c] := by
  obtain ⟨hl, rfl⟩ := List.getElem?_eq_some_iff.1 h
  rw [List.drop_eq_getElem_cons hl]; simp [tk]
/-- A list of ours that is handed back. -/
theorem frz_slice {H : AHeap} {n b f sh len cap z : Nat} {cs : List AV} {ty : TypeId} (hH : H[b]? = some ⟨true, f, sh, .cells cs ty⟩) (hc : cs.length = len * z) (hl : cs.all lit = true) : frz H (n + 2) (.slice b 0 len cap z) = some (.rs len z cs) := by
  cases len with
  | zero =>
    have : cs = [] := List.eq_nil_of_length_eq_zero (by omega)
    subst this; rfl
  | succ m =>
    have h2 : frzL (frz H (n + 1)) cs = some cs := frzL_lit hl
    unfold frz
    simp only [hH, List.drop_zero, tk_all hc]
    rw [h2]
theorem frz_two {H : AHeap} {n : Nat} {a b x y : AV} (h1 : frz H n a = some x) (h2 : frz H n b = some y) : frz H (n + 1) (resOf [a, b]) = some (.tuple [x, y]) := by
  have h : frzL (frz H n) [a, b] = some [x, y] := by simp only [frzL, h1, h2]
  show frz H (n + 1) (.tuple [a, b]) = _
  unfold frz
  show (match frzL (frz H n) [a, b] with | some l => some (AV.tuple l) | none => none) = _
  rw [h]
theorem frz_aggL {H : AHeap} {n : Nat} {cs : List AV} (h : cs.all lit = true) : frz H (n + 2) (.agg cs) = some (.agg cs) := by
  have h : frzL (frz H (n + 1)) cs = some cs := frzL_lit h
  unfold frz
  show (match frzL (frz H (n + 1)) cs with | some l => some (AV.agg l) | none => none) = _
  rw [h]

/-- What a sound oracle answers of values without blocks. -/
theorem val_of_orc {P : Program} {gl : Glob} {orc : Orc} (hO : OrcSound P gl orc) {f : Nat} {args : List AV} {r : AV} (h : orc f args [] = some (r, [])) (hp : plain r = true) : ValOK P gl f args r := by
  intro sn W cargs hg hR hl
  refine (hO f args [] r [] h sn noI W cargs hg hR hl).mono ?_
  rintro e W' ⟨v, sn', ι', rfl, hv, hst⟩
  exact ⟨v, rfl, (hst.q hR).ext, plain_VR hp hv⟩

/-! structs compared, field by field -/
theorem eqB_int {P : Program} {d t : Nat} {k : IntKind} (h : P.underlying t = some (.int k)) (a b : Int) : eqB P (d + 1) t (.int k a) (.int k b) = some (a == b) := by simp [eqB, aEq, h]
theorem eqB_str {P : Program} {d t : Nat} (h : P.underlying t = some .string) (a b : List UInt8) : eqB P (d + 1) t (.str a) (.str b) = some (a == b) := by simp [eqB, aEq, h]
theorem eqB_bool {P : Program} {d t : Nat} (h : P.underlying t = some .bool) (a b : Bool) : eqB P (d + 1) t (.bool a) (.bool b) = some (a == b) := by simp [eqB, aEq, h]
theorem eqF_cons {P : Program} {e : TypeId → AV → AV → Option Bool} {t off : Nat} {fs : List (TypeId × Nat)} {xs ys : List AV} {a b : AV} {p q : Bool} (ht : tagg P t = some false) (hx : xs[off]? = some a) (hy : ys[off]? = some b) (h : e t a b = some p) (h2 : eqFsB e P fs xs ys = some q) :
    eqFsB e P ((t, off) :: fs) xs ys = some (p && q) := by
  simp only [eqFsB, apart, ht, hx, hy, h, h2]
theorem eqB_agg {P : Program} {d t : Nat} {fs : List (TypeId × Nat)} {xs ys : List AV} (hf : fieldsEq P t = some fs) : eqB P (d + 1) t (.agg xs) (.agg ys) = eqFsB (eqB P d) P fs xs ys := by simp only [eqB, hf]
theorem aggEq_ok {P : Program} {t : TypeId} {fs : List (TypeId × Nat)} {xs ys : List AV} {r : Bool} (hg : P.eqGuardType P.depth t = false) (hf : fieldsEq P t = some fs) (h : eqFsB (eqB P 9999) P fs xs ys = some r) : aggEq P t xs ys = some r := by
  unfold aggEq
  rw [hg, if_neg (by decide)]
  exact (eqB_agg (d := 9999) hf).trans h

section facts
open Classical
/-- An oracle by a list of facts. -/
noncomputable def orcF (l : List (Nat × List AV × AV)) : Orc := orcV fun f args => (l.find? fun p => decide (p.1 = f ∧ p.2.1 = args)).map (·.2.2)
def Facts (P : Program) (gl : Glob) : List (Nat × List AV × AV) → Prop
  | [] => True
  | (f, args, r) :: l => refsL args [] = [] ∧ ValOK P gl f args r ∧ Facts P gl l
theorem Facts.mem {P : Program} {gl : Glob} : ∀ {l : List (Nat × List AV × AV)} {p}, Facts P gl l → p ∈ l → refsL p.2.1 [] = [] ∧ ValOK P gl p.1 p.2.1 p.2.2
  | (f, args, r) :: l, p, h, hm => by
    rcases List.mem_cons.1 hm with rfl | hm
    · exact ⟨h.1, h.2.1⟩
    · exact Facts.mem h.2.2 hm
theorem orcF_sound {P : Program} {gl : Glob} {l : List (Nat × List AV × AV)} (h : Facts P gl l) : OrcSound P gl (orcF l) := orcV_sound fun f args r e => by
  simp only [Option.map_eq_some_iff] at e
  obtain ⟨p, e1, rfl⟩ := e
  have hm := List.mem_of_find?_eq_some e1
  have hp := List.find?_some e1
  simp only [decide_eq_true_eq] at hp
  obtain ⟨rfl, rfl⟩ := hp
  exact h.mem hm
theorem callF {P : Program} {l : List (Nat × List AV × AV)} {H : AHeap} {g : Nat} {args : List AV} {r : AV} (h1 : hasBody P g = true) (h2 : l.find? (fun p => decide (p.1 = g ∧ p.2.1 = args)) = some (g, args, r)) : acall P (orcF l) H g args = some (r, H) := by
  simp only [acall, h1, if_true, orcF, orcV, h2, Option.map_some]
theorem findF_here {l : List (Nat × List AV × AV)} {g : Nat} {args : List AV} {r : AV} : ((g, args, r) :: l).find? (fun p => decide (p.1 = g ∧ p.2.1 = args)) = some (g, args, r) := by simp
theorem findF_next {l : List (Nat × List AV × AV)} {g f : Nat} {args az : List AV} {q r : AV} (h : Nat.beq f g = false) (h2 : l.find? (fun p => decide (p.1 = g ∧ p.2.1 = args)) = some (g, args, r)) : ((f, az, q) :: l).find? (fun p => decide (p.1 = g ∧ p.2.1 = args)) = some (g, args, r) := by
  have : f ≠ g := fun e => by subst e; simp at h
  have e : decide ((f, az, q).1 = g ∧ (f, az, q).2.1 = args) = false := by simp [this]
  rw [List.find?_cons, e]; exact h2
theorem findF_fn {l : List (Nat × List AV × AV)} {g f : Nat} {args az : List AV} {q r : AV} (h : az = args → q = r) (h2 : l.find? (fun p => decide (p.1 = g ∧ p.2.1 = args)) = some (g, args, r)) : ((f, az, q) :: l).find? (fun p => decide (p.1 = g ∧ p.2.1 = args)) = some (g, args, r) := by
  by_cases e : f = g ∧ az = args
  · obtain ⟨rfl, rfl⟩ := e
    rw [h rfl]; exact findF_here
  · have e' : decide ((f, az, q).1 = g ∧ (f, az, q).2.1 = args) = false := by simpa using e
    rw [List.find?_cons, e']; exact h2
end facts
end Go.Abs
end

/-
  Of 'cantileverlaw02': all tokens.
-/
section
set_option linter.unusedVariables false
set_option linter.unusedSimpArgs false
namespace Go.Proofs.YtacaaiiooedgjaaDoor.lex
open Go.Abs Go.RowKit
set_option maxRecDepth 100000
set_option maxHeartbeats 4000000

def F6 (f : Nat) (xs : List AV) : Option AV := match f with
  | 18 => match xs with | [.str s] => if s.length ≤ 9223372036854775807 then some (.int .i64 (skip false s)) else none | _ => none
  | 22 => match xs with | [.str s] => if s.length ≤ 9223372036854775807 then some (.int .i64 (wordN s)) else none | _ => none
  | 33 => match xs with | [.str s] => if s.length ≤ 1099511627776 then some (.tuple [.int .i64 (numN s).1, .int .i64 (numN s).2]) else none | _ => none
  | 34 => match xs with | [.str (c :: s)] => if (c :: s).length ≤ 9223372036854775807 then some (.int .i64 (signN (c :: s))) else none | _ => none
  | f => F3 f xs
theorem F6_val {f : Nat} {xs : List AV} {r : AV} (h : F6 f xs = some r) : plain r = true ∧ ValOK Tryd.prog runLives.gl f xs r := by
  unfold F6 at h
  split at h <;> try (exact F3_val h)
  all_goals (split at h <;> try (cases h; done))
  all_goals (split at h <;> cases h)
  · rename_i hs; exact ⟨rfl, gap_ok _ hs⟩
  · rename_i hs; exact ⟨rfl, word_ok _ hs⟩
  · rename_i hs; exact ⟨rfl, num_ok _ hs⟩
  · rename_i hs; exact ⟨rfl, sign_ok _ hs (by simp)⟩
theorem F6_sound : OrcSound Tryd.prog runLives.gl (orcZ F6) := orcZ_sound fun f xs r h => F6_val h

/-- The words that are keys. -/
def keysL : List (List UInt8) := [[115, 104, 97, 114, 101, 100], [112, 108, 97, 105, 110], [116, 104, 114, 101, 97, 100], [105, 102], [101, 108, 115, 101], [119, 104, 105, 108, 101], [108, 111, 97, 100], [115, 116, 111, 114, 101], [99, 97, 115], [97, 100, 100], [115, 119, 97, 112], [102, 101, 110, 99, 101], [97, 115, 115, 117, 109, 101], [97, 115, 115, 101, 114, 116], [110, 97], [114, 108, 120], [97, 99, 113], [114, 101, 108], [97, 114], [115, 99]]
def entsF : Nat → List (List UInt8) → List (AV × AV × Nat)
  | _, [] => []
  | n, k :: l => (.str k, .agg [], n) :: entsF (n + 1) l
def keysB : ABody := .map (entsF 0 keysL) 20

structure Tk where
  kind : Nat
  text : List UInt8
  num : Nat
  pos : Nat
def Tk.cells (t : Tk) : List AV := [.int .i64 t.kind, .str t.text, .int .i64 t.num, .int .i64 t.pos]
def tksC : List Tk → List AV
  | [] => []
  | t :: l => t.cells ++ tksC l
/-- The token with which a text begins: its kind, its length, its number. -/
def tok1 (s : List UInt8) : Option (Nat × Nat × Nat) :=
  if 0 < wordN s then some (if keysL.contains (s.take (wordN s)) then 2 else 1, wordN s, 0)
  else if 0 < (numN s).1 then some (3, (numN s).1, (numN s).2)
  else if 0 < signN s then some (4, signN s, 0) else none
/-- The tokens of what is left of a text (at most so many), or where there is none. -/
def lexF : Nat → Nat → List UInt8 → Nat ⊕ List Tk
  | 0, _, _ => .inr []
  | n + 1, pos, s => if s = [] then .inr [] else match tok1 s with
    | none => .inl pos
    | some (kind, len, num) => match lexF n (pos + len + skip false (s.drop len)) (s.drop (len + skip false (s.drop len))) with
      | .inl e => .inl e
      | .inr l => .inr (⟨kind, s.take len, num, pos⟩ :: l)
def lexN (s : List UInt8) : Nat ⊕ List Tk := lexF (s.length + 1) (skip false s) (s.drop (skip false s))
def joinL (acc : List Tk) : Nat ⊕ List Tk → Nat ⊕ List Tk
  | .inl e => .inl e
  | .inr l => .inr (acc ++ l)
def allR (s : List UInt8) : AV := if 65536 < s.length then .tuple [.nslice, .agg [.int .i64 3, .int .i64 0]] else match lexN s with
  | .inl e => .tuple [.nslice, .agg [.int .i64 4, .int .i64 e]]
  | .inr l => .tuple [.rs (l.length + 1) 4 (tksC (l ++ [⟨5, [], 0, s.length⟩])), .agg [.int .i64 0, .int .i64 0]]

theorem ege_refl {m : List Nat} : ∀ (n : Nat) (l : List (List UInt8)), EGe m (entsF n l) (entsF n l)
  | _, [] => trivial
  | n, k :: l => ⟨Wk.noref rfl, Wk.noref rfl, rfl, ege_refl (n + 1) l⟩
theorem skip_le : ∀ (b : Bool) (s : List UInt8), skip b s ≤ s.length
  | _, [] => by simp [skip]
  | true, c :: s => by
    have h1 := skip_le false s
    have h2 := skip_le true s
    simp only [skip, List.length_cons]; split <;> omega
  | false, c :: s => by
    have h1 := skip_le false s
    have h2 := skip_le true s
    simp only [skip, List.length_cons]; split
    · omega
    · split <;> omega
theorem joinL_nil (x : Nat ⊕ List Tk) : joinL [] x = x := by cases x <;> rfl

theorem wordN_le (s : List UInt8) : wordN s ≤ s.length := by
  cases s with
  | nil => simp [wordN]
  | cons c s => simp only [wordN]; split; exact spanN_le _ _; omega
theorem ite_fst_le {p : Prop} [Decidable p] {a b : Nat × Nat} {m : Nat} (h1 : a.1 ≤ m) (h2 : b.1 ≤ m) : (if p then a else b).1 ≤ m := by split <;> assumption
theorem numN_le (s : List UInt8) : (numN s).1 ≤ s.length := by
  unfold numN; exact ite_fst_le (Nat.zero_le _) (spanN_le _ _)
theorem signN_le (s : List UInt8) : signN s ≤ s.length := by
  match s with
  | [] => simp [signN]
  | [c] => simp only [signN]; split <;> simp
  | c :: d :: t => simp only [signN, List.length_cons]; split; omega; split <;> omega

theorem find_ok (x : List UInt8) : ∀ (l : List (List UInt8)) (n i : Nat), ∃ o, aFind .string (.str x) (entsF n l) i = some o ∧ o.isSome = l.contains x ∧ ∀ p, o = some p → p.2 = .agg []
  | [], n, i => ⟨none, rfl, by simp, fun p h => by cases h⟩
  | k :: l, n, i => by
    obtain ⟨o, h1, h2, h3⟩ := find_ok x l (n + 1) (i + 1)
    by_cases e : x = k
    · subst e
      exact ⟨some (i, .agg []), by simp [entsF, aFind, aSame], by simp, fun p h => by cases h; rfl⟩
    · refine ⟨o, ?_, by simp [h2, e], h3⟩
      have : (x == k) = false := by simpa using e
      simp [entsF, aFind, aSame, this, h1]
theorem kd40 : keyDesc Tryd.prog 40 = some (.string, 47) := by kernel_rfl
theorem look_ok {H : AHeap} (x : List UInt8) (h : mapEs H (.map 1) = some (entsF 0 keysL)) : aLookup Tryd.prog 40 (.map 1) (.str x) true H = some (.tuple [.agg [], .bool (keysL.contains x)]) := by
  obtain ⟨o, h1, h2, h3⟩ := find_ok x keysL 0 0
  have hz : tzero Tryd.prog 47 = some (.agg []) := by kernel_rfl
  simp only [aLookup, kd40, h, h1, ← h2]
  cases o with
  | none => simp [hz]
  | some p => have := h3 p rfl; obtain ⟨j, v⟩ := p; subst this; simp

theorem joinL_snoc (acc : List Tk) (t : Tk) (x : Nat ⊕ List Tk) : joinL acc (match x with | .inl e => .inl e | .inr l => .inr (t :: l)) = joinL (acc ++ [t]) x := by
  cases x with
  | inl e => rfl
  | inr l => simp [joinL]
theorem lex_step {s : List UInt8} {k n : Nat} {acc : List Tk} {kind len num : Nat} (hk : k < s.length) (h2 : s.length < k + n) (ht : tok1 (s.drop k) = some (kind, len, num)) (h3 : lexN s = joinL acc (lexF n k (s.drop k))) :
    lexN s = joinL (acc ++ [⟨kind, (s.drop k).take len, num, k⟩]) (lexF (n - 1) (k + len + skip false (s.drop (k + len))) (s.drop (k + len + skip false (s.drop (k + len))))) := by
  obtain ⟨n, rfl⟩ : ∃ m, n = m + 1 := ⟨n - 1, by omega⟩
  have hne : ¬ s.drop k = [] := by intro e; have := congrArg List.length e; simp at this; omega
  rw [h3, lexF, if_neg hne, ht]
  simp only [List.drop_drop, Nat.add_sub_cancel]
  rw [← Nat.add_assoc, joinL_snoc]

theorem lex_none {s : List UInt8} {k n : Nat} {acc : List Tk} (hk : k < s.length) (h2 : s.length < k + n) (ht : tok1 (s.drop k) = none) (h3 : lexN s = joinL acc (lexF n k (s.drop k))) : lexN s = .inl k := by
  obtain ⟨n, rfl⟩ : ∃ m, n = m + 1 := ⟨n - 1, by omega⟩
  have hne : ¬ s.drop k = [] := by intro e; have := congrArg List.length e; simp at this; omega
  rw [h3, lexF, if_neg hne, ht]; rfl

theorem aT : appT Tryd.prog 23 23 = some (30, 4, 40) := by kernel_rfl
theorem tksC_len : ∀ l : List Tk, (tksC l).length = l.length * 4
  | [] => rfl
  | t :: l => by simp only [tksC, List.length_append, tksC_len l, List.length_cons]; simp [Tk.cells]; omega
theorem tksC_append : ∀ (l : List Tk) (t : Tk), tksC (l ++ [t]) = tksC l ++ t.cells
  | [], t => by simp [tksC]
  | a :: l, t => by simp only [List.cons_append, tksC, tksC_append l t, List.append_assoc]
theorem len_snoc {α : Type} (l : List α) (t : α) : (l ++ [t]).length = l.length + 1 := by simp
theorem tksC_refs : ∀ l : List Tk, refsL (tksC l) [] = []
  | [] => rfl
  | t :: l => tksC_refs l
theorem tksC_lit : ∀ l : List Tk, (tksC l).all lit = true
  | [] => rfl
  | t :: l => by simp only [tksC, List.all_append, tksC_lit l, Bool.and_true]; rfl
theorem lex_end {s : List UInt8} {k n : Nat} {acc : List Tk} (h1 : k ≤ s.length) (hk : ¬ k < s.length) (h2 : s.length < k + n) (h3 : lexN s = joinL acc (lexF n k (s.drop k))) : lexN s = .inr acc := by
  obtain ⟨n, rfl⟩ : ∃ m, n = m + 1 := ⟨n - 1, by omega⟩
  have he : s.drop k = [] := List.drop_eq_nil_of_le (by omega)
  rw [h3, lexF, if_pos he]; simp [joinL]

attribute [local irreducible] numN wordN signN skip spanN
theorem all_ok (s : List UInt8) (hs : s.length ≤ 65536) : ValOK Tryd.prog runLives.gl 8 [.str s] (allR s) := by
  have e0 : decide ((s.length : Int) > 65536) = false := by simp; omega
  refine fn_valI (fun g => Nat.beq g 18 || Nat.beq g 22 || Nat.beq g 33 || Nat.beq g 34) 2 follows noNum F6_sound Tryd.func8 rfl ?_
  repeat' ((conv => whnf); first | (with_reducible refine condT ?_ ?_; (focus ((first | assumption | decide | (simp; done) | (simp; omega)); done))) | (with_reducible refine condF ?_ ?_; (focus ((first | assumption | decide | (simp; done) | (simp; omega)); done))) | with_reducible refine condB (fun h => ?_) (fun h => ?_) | with_reducible refine exI rfl ?_ | with_reducible refine eqR rfl ?_ | (with_reducible refine exW (wrapN1 ?_) ?_; (focus (omega))) | (with_reducible refine exW (wrapN ?_) ?_; (focus (omega))) | (with_reducible refine exW (wrapB ?_ ?_) ?_; (focus (omega)); (focus (omega))) | with_reducible refine exW rfl ?_ | (with_reducible refine ixJ _ rfl ?_ ?_; (focus ((first | decide | omega | (simp; done) | (simp; omega)); done))) | (with_reducible refine ixJ' _ rfl ?_ ?_; (focus ((first | decide | omega | (simp; done) | (simp; omega)); done))) | (refine ixJ (Int.toNat _) ?_ ?_ ?_; (focus ((first | rfl | decide | omega | (simp; done)); done)); (focus ((first | decide | omega | (simp; done) | (simp; omega)); done))) | (refine ixJ' (Int.toNat _) ?_ ?_ ?_; (focus ((first | rfl | decide | omega | (simp; done)); done)); (focus ((first | decide | omega | (simp; done) | (simp; omega)); done))) | with_reducible refine ixS _ rfl (by assumption) ?_ | (with_reducible refine shlI ?_ ?_; (focus (first | decide | omega))) | (refine exI (callZ rfl rfl (if_pos ?_)) ?_; (focus ((first | decide | omega | (simp; done) | (simp; omega)); done))))
  conv => whnf
  refine ⟨Nat × Nat × List Tk, (fun p => p.1 ≤ s.length ∧ s.length < p.1 + p.2.1 ∧ lexN s = joinL p.2.2 (lexF p.2.1 p.1 (s.drop p.1)) ∧ p.2.2.length ≤ p.1), (fun p => [(0, .str s), (3, .ptr 0 0), (4, .map 1), (5, match p.2.2 with | [] => .nslice | _ :: _ => .slice 2 0 p.2.2.length p.2.2.length 4), (6, .int .i64 p.1)]),
    (fun p => ⟨true, 0, 0, .cells [.int .i64 0, .int .i64 0] 26⟩ :: ⟨true, 1, 0, keysB⟩ :: match p.2.2 with | [] => [] | _ :: _ => [⟨true, 2, 0, .cells (tksC p.2.2) 30⟩]), (fun p => s.length - p.1), ⟨(skip false s, s.length + 1, []), ?_, ?_⟩, ?_⟩
  · exact ⟨skip_le _ _, by show s.length < skip false s + (s.length + 1); omega, (joinL_nil _).symm, Nat.zero_le _⟩
  · refine FgL.mk [0, 1] rfl ?_ ?_ rfl
    · exact ⟨Wk.noref rfl, Wk.ptr rfl rfl, Wk.map rfl, Wk.noref rfl, Wk.int rfl, trivial⟩
    · exact ⟨⟨rfl, rfl, rfl, rfl, BodyGe.pre (rest := []) rfl rfl⟩, ⟨rfl, rfl, rfl, rfl, ⟨rfl, ege_refl 0 keysL⟩⟩, trivial⟩
  · rintro ⟨k, n, acc⟩ ⟨h1, h2, h3, h4⟩
    dsimp only at h1 h2 h3 h4
    have w1 := wordN_le (s.drop k)
    have w2 := numN_le (s.drop k)
    have w3 := signN_le (s.drop k)
    have w4 : (s.drop k).length = s.length - k := List.length_drop
    have g1 : skip false (s.drop (k + wordN (s.drop k))) ≤ s.length - (k + wordN (s.drop k)) := by have := skip_le false (s.drop (k + wordN (s.drop k))); simpa using this
    have g2 : skip false (s.drop (k + (numN (s.drop k)).1)) ≤ s.length - (k + (numN (s.drop k)).1) := by have := skip_le false (s.drop (k + (numN (s.drop k)).1)); simpa using this
    have g3 : skip false (s.drop (k + signN (s.drop k))) ≤ s.length - (k + signN (s.drop k)) := by have := skip_le false (s.drop (k + signN (s.drop k))); simpa using this
    have hb : hasBody Tryd.prog 34 = true := by kernel_rfl
    have t1 : (List.take (wordN (s.drop k)) (s.drop k)).length = wordN (s.drop k) := by rw [List.length_take]; omega
    have t2 : (List.take (numN (s.drop k)).1 (s.drop k)).length = (numN (s.drop k)).1 := by rw [List.length_take]; omega
    have t3 : (List.take (signN (s.drop k)) (s.drop k)).length = signN (s.drop k) := by rw [List.length_take]; omega
    by_cases hk : k < s.length
    · have e1 : decide ((k : Int) < (s.length : Int)) = true := by simpa using hk
      obtain ⟨c, t, hr⟩ : ∃ c t, s.drop k = c :: t := by
        cases e : s.drop k with
        | nil => rw [e] at w4; simp at w4; omega
        | cons c t => exact ⟨c, t, rfl⟩
      have e2 : F6 34 [.str (s.drop k)] = some (.int .i64 (signN (s.drop k))) := by
        rw [hr] at w4 ⊢; simp only [F6]; rw [if_pos (by omega)]
      cases acc with
      | nil =>
        dsimp only
        by_cases hw : 0 < wordN (s.drop k)
        · have d1 : decide ((wordN (s.drop k) : Int) > 0) = true := by simpa using hw
          cases hc : keysL.contains ((s.drop k).take (wordN (s.drop k))) with
          | true =>
            clear w2 w3 t2 t3 e2
            repeat' ((conv => whnf); first | (with_reducible refine exI (look_ok _ ?_) ?_; (focus rfl)) | (first | (with_reducible refine condT ?_ ?_; (focus ((first | assumption | decide | (simp; done) | (simp; omega)); done))) | (with_reducible refine condF ?_ ?_; (focus ((first | assumption | decide | (simp; done) | (simp; omega)); done))) | with_reducible refine condB (fun h => ?_) (fun h => ?_) | with_reducible refine exI rfl ?_ | with_reducible refine eqR rfl ?_ | (with_reducible refine exW (wrapN1 ?_) ?_; (focus (omega))) | (with_reducible refine exW (wrapN ?_) ?_; (focus (omega))) | (with_reducible refine exW (wrapB ?_ ?_) ?_; (focus (omega)); (focus (omega))) | with_reducible refine exW rfl ?_ | (with_reducible refine ixJ _ rfl ?_ ?_; (focus ((first | decide | omega | (simp; done) | (simp; omega)); done))) | (with_reducible refine ixJ' _ rfl ?_ ?_; (focus ((first | decide | omega | (simp; done) | (simp; omega)); done))) | (refine ixJ (Int.toNat _) ?_ ?_ ?_; (focus ((first | rfl | decide | omega | (simp; done)); done)); (focus ((first | decide | omega | (simp; done) | (simp; omega)); done))) | (refine ixJ' (Int.toNat _) ?_ ?_ ?_; (focus ((first | rfl | decide | omega | (simp; done)); done)); (focus ((first | decide | omega | (simp; done) | (simp; omega)); done))) | with_reducible refine ixS _ rfl (by assumption) ?_ | (with_reducible refine shlI ?_ ?_; (focus (first | decide | omega))) | (refine exI (callZ rfl rfl (if_pos ?_)) ?_; (focus ((first | decide | omega | (simp; done) | (simp; omega)); done)))))
            conv => whnf
            refine exI (look_ok _ ?_) ?_
            · rfl
            rw [hc]
            repeat' ((conv => whnf); (first | (with_reducible refine condT ?_ ?_; (focus ((first | assumption | decide | (simp; done) | (simp; omega)); done))) | (with_reducible refine condF ?_ ?_; (focus ((first | assumption | decide | (simp; done) | (simp; omega)); done))) | with_reducible refine condB (fun h => ?_) (fun h => ?_) | with_reducible refine exI rfl ?_ | with_reducible refine eqR rfl ?_ | (with_reducible refine exW (wrapN1 ?_) ?_; (focus (omega))) | (with_reducible refine exW (wrapN ?_) ?_; (focus (omega))) | (with_reducible refine exW (wrapB ?_ ?_) ?_; (focus (omega)); (focus (omega))) | with_reducible refine exW rfl ?_ | (with_reducible refine ixJ _ rfl ?_ ?_; (focus ((first | decide | omega | (simp; done) | (simp; omega)); done))) | (with_reducible refine ixJ' _ rfl ?_ ?_; (focus ((first | decide | omega | (simp; done) | (simp; omega)); done))) | (refine ixJ (Int.toNat _) ?_ ?_ ?_; (focus ((first | rfl | decide | omega | (simp; done)); done)); (focus ((first | decide | omega | (simp; done) | (simp; omega)); done))) | (refine ixJ' (Int.toNat _) ?_ ?_ ?_; (focus ((first | rfl | decide | omega | (simp; done)); done)); (focus ((first | decide | omega | (simp; done) | (simp; omega)); done))) | with_reducible refine ixS _ rfl (by assumption) ?_ | (with_reducible refine shlI ?_ ?_; (focus (first | decide | omega))) | (refine exI (callZ rfl rfl (if_pos ?_)) ?_; (focus ((first | decide | omega | (simp; done) | (simp; omega)); done)))))
            conv => whnf
            refine ⟨(k + wordN (s.drop k) + skip false (s.drop (k + wordN (s.drop k))), n - 1, [⟨2, (s.drop k).take (wordN (s.drop k)), 0, k⟩]), ⟨?_, ?_, ?_, ?_⟩, ?_, FgL.mk [0, 1, 6] rfl ?_ ?_ rfl⟩
            · show k + wordN (s.drop k) + skip false (s.drop (k + wordN (s.drop k))) ≤ s.length; omega
            · show s.length < k + wordN (s.drop k) + skip false (s.drop (k + wordN (s.drop k))) + (n - 1); omega
            · exact lex_step (acc := []) hk h2 (by unfold tok1; rw [if_pos hw, if_pos hc]) h3
            · show 1 ≤ k + wordN (s.drop k) + skip false (s.drop (k + wordN (s.drop k))); omega
            · show s.length - (k + wordN (s.drop k) + skip false (s.drop (k + wordN (s.drop k)))) < s.length - k; omega
            · refine ⟨Wk.noref rfl, Wk.ptr rfl rfl, Wk.map rfl, Wk.slice rfl rfl rfl ?_ ?_ rfl, Wk.int ?_, trivial⟩
              · exact Nat.le_refl _
              · exact Nat.le_refl _
              · rw [t1]; exact wrapN (by omega)
            · exact ⟨⟨rfl, rfl, rfl, rfl, BodyGe.pre (rest := []) rfl rfl⟩, ⟨rfl, rfl, rfl, rfl, ⟨rfl, ege_refl 0 keysL⟩⟩, ⟨rfl, rfl, rfl, rfl, BodyGe.pre (rest := []) rfl rfl⟩, trivial⟩
          | false =>
            clear w2 w3 t2 t3 e2
            repeat' ((conv => whnf); first | (with_reducible refine exI (look_ok _ ?_) ?_; (focus rfl)) | (first | (with_reducible refine condT ?_ ?_; (focus ((first | assumption | decide | (simp; done) | (simp; omega)); done))) | (with_reducible refine condF ?_ ?_; (focus ((first | assumption | decide | (simp; done) | (simp; omega)); done))) | with_reducible refine condB (fun h => ?_) (fun h => ?_) | with_reducible refine exI rfl ?_ | with_reducible refine eqR rfl ?_ | (with_reducible refine exW (wrapN1 ?_) ?_; (focus (omega))) | (with_reducible refine exW (wrapN ?_) ?_; (focus (omega))) | (with_reducible refine exW (wrapB ?_ ?_) ?_; (focus (omega)); (focus (omega))) | with_reducible refine exW rfl ?_ | (with_reducible refine ixJ _ rfl ?_ ?_; (focus ((first | decide | omega | (simp; done) | (simp; omega)); done))) | (with_reducible refine ixJ' _ rfl ?_ ?_; (focus ((first | decide | omega | (simp; done) | (simp; omega)); done))) | (refine ixJ (Int.toNat _) ?_ ?_ ?_; (focus ((first | rfl | decide | omega | (simp; done)); done)); (focus ((first | decide | omega | (simp; done) | (simp; omega)); done))) | (refine ixJ' (Int.toNat _) ?_ ?_ ?_; (focus ((first | rfl | decide | omega | (simp; done)); done)); (focus ((first | decide | omega | (simp; done) | (simp; omega)); done))) | with_reducible refine ixS _ rfl (by assumption) ?_ | (with_reducible refine shlI ?_ ?_; (focus (first | decide | omega))) | (refine exI (callZ rfl rfl (if_pos ?_)) ?_; (focus ((first | decide | omega | (simp; done) | (simp; omega)); done)))))
            conv => whnf
            refine exI (look_ok _ ?_) ?_
            · rfl
            rw [hc]
            repeat' ((conv => whnf); (first | (with_reducible refine condT ?_ ?_; (focus ((first | assumption | decide | (simp; done) | (simp; omega)); done))) | (with_reducible refine condF ?_ ?_; (focus ((first | assumption | decide | (simp; done) | (simp; omega)); done))) | with_reducible refine condB (fun h => ?_) (fun h => ?_) | with_reducible refine exI rfl ?_ | with_reducible refine eqR rfl ?_ | (with_reducible refine exW (wrapN1 ?_) ?_; (focus (omega))) | (with_reducible refine exW (wrapN ?_) ?_; (focus (omega))) | (with_reducible refine exW (wrapB ?_ ?_) ?_; (focus (omega)); (focus (omega))) | with_reducible refine exW rfl ?_ | (with_reducible refine ixJ _ rfl ?_ ?_; (focus ((first | decide | omega | (simp; done) | (simp; omega)); done))) | (with_reducible refine ixJ' _ rfl ?_ ?_; (focus ((first | decide | omega | (simp; done) | (simp; omega)); done))) | (refine ixJ (Int.toNat _) ?_ ?_ ?_; (focus ((first | rfl | decide | omega | (simp; done)); done)); (focus ((first | decide | omega | (simp; done) | (simp; omega)); done))) | (refine ixJ' (Int.toNat _) ?_ ?_ ?_; (focus ((first | rfl | decide | omega | (simp; done)); done)); (focus ((first | decide | omega | (simp; done) | (simp; omega)); done))) | with_reducible refine ixS _ rfl (by assumption) ?_ | (with_reducible refine shlI ?_ ?_; (focus (first | decide | omega))) | (refine exI (callZ rfl rfl (if_pos ?_)) ?_; (focus ((first | decide | omega | (simp; done) | (simp; omega)); done)))))
            conv => whnf
            refine ⟨(k + wordN (s.drop k) + skip false (s.drop (k + wordN (s.drop k))), n - 1, [⟨1, (s.drop k).take (wordN (s.drop k)), 0, k⟩]), ⟨?_, ?_, ?_, ?_⟩, ?_, FgL.mk [0, 1, 6] rfl ?_ ?_ rfl⟩
            · show k + wordN (s.drop k) + skip false (s.drop (k + wordN (s.drop k))) ≤ s.length; omega
            · show s.length < k + wordN (s.drop k) + skip false (s.drop (k + wordN (s.drop k))) + (n - 1); omega
            · exact lex_step (acc := []) hk h2 (by unfold tok1; rw [if_pos hw, if_neg (by rw [hc]; decide)]) h3
            · show 1 ≤ k + wordN (s.drop k) + skip false (s.drop (k + wordN (s.drop k))); omega
            · show s.length - (k + wordN (s.drop k) + skip false (s.drop (k + wordN (s.drop k)))) < s.length - k; omega
            · refine ⟨Wk.noref rfl, Wk.ptr rfl rfl, Wk.map rfl, Wk.slice rfl rfl rfl ?_ ?_ rfl, Wk.int ?_, trivial⟩
              · exact Nat.le_refl _
              · exact Nat.le_refl _
              · rw [t1]; exact wrapN (by omega)
            · exact ⟨⟨rfl, rfl, rfl, rfl, BodyGe.pre (rest := []) rfl rfl⟩, ⟨rfl, rfl, rfl, rfl, ⟨rfl, ege_refl 0 keysL⟩⟩, ⟨rfl, rfl, rfl, rfl, BodyGe.pre (rest := []) rfl rfl⟩, trivial⟩
        · have d1 : decide ((wordN (s.drop k) : Int) > 0) = false := by simpa using hw
          by_cases hn : 0 < (numN (s.drop k)).1
          · have d2 : decide (((numN (s.drop k)).1 : Int) > 0) = true := by simpa using hn
            clear w1 w3 t1 t3 e2
            repeat' ((conv => whnf); (first | (with_reducible refine condT ?_ ?_; (focus ((first | assumption | decide | (simp; done) | (simp; omega)); done))) | (with_reducible refine condF ?_ ?_; (focus ((first | assumption | decide | (simp; done) | (simp; omega)); done))) | with_reducible refine condB (fun h => ?_) (fun h => ?_) | with_reducible refine exI rfl ?_ | with_reducible refine eqR rfl ?_ | (with_reducible refine exW (wrapN1 ?_) ?_; (focus (omega))) | (with_reducible refine exW (wrapN ?_) ?_; (focus (omega))) | (with_reducible refine exW (wrapB ?_ ?_) ?_; (focus (omega)); (focus (omega))) | with_reducible refine exW rfl ?_ | (with_reducible refine ixJ _ rfl ?_ ?_; (focus ((first | decide | omega | (simp; done) | (simp; omega)); done))) | (with_reducible refine ixJ' _ rfl ?_ ?_; (focus ((first | decide | omega | (simp; done) | (simp; omega)); done))) | (refine ixJ (Int.toNat _) ?_ ?_ ?_; (focus ((first | rfl | decide | omega | (simp; done)); done)); (focus ((first | decide | omega | (simp; done) | (simp; omega)); done))) | (refine ixJ' (Int.toNat _) ?_ ?_ ?_; (focus ((first | rfl | decide | omega | (simp; done)); done)); (focus ((first | decide | omega | (simp; done) | (simp; omega)); done))) | with_reducible refine ixS _ rfl (by assumption) ?_ | (with_reducible refine shlI ?_ ?_; (focus (first | decide | omega))) | (refine exI (callZ rfl rfl (if_pos ?_)) ?_; (focus ((first | decide | omega | (simp; done) | (simp; omega)); done)))))
            conv => whnf
            refine ⟨(k + (numN (s.drop k)).1 + skip false (s.drop (k + (numN (s.drop k)).1)), n - 1, [⟨3, (s.drop k).take ((numN (s.drop k)).1), (numN (s.drop k)).2, k⟩]), ⟨?_, ?_, ?_, ?_⟩, ?_, FgL.mk [0, 1, 5] rfl ?_ ?_ rfl⟩
            · show k + (numN (s.drop k)).1 + skip false (s.drop (k + (numN (s.drop k)).1)) ≤ s.length; omega
            · show s.length < k + (numN (s.drop k)).1 + skip false (s.drop (k + (numN (s.drop k)).1)) + (n - 1); omega
            · exact lex_step (acc := []) hk h2 (by unfold tok1; rw [if_neg hw, if_pos hn]) h3
            · show 1 ≤ k + (numN (s.drop k)).1 + skip false (s.drop (k + (numN (s.drop k)).1)); omega
            · show s.length - (k + (numN (s.drop k)).1 + skip false (s.drop (k + (numN (s.drop k)).1))) < s.length - k; omega
            · refine ⟨Wk.noref rfl, Wk.ptr rfl rfl, Wk.map rfl, Wk.slice rfl rfl rfl ?_ ?_ rfl, Wk.int ?_, trivial⟩
              · exact Nat.le_refl _
              · exact Nat.le_refl _
              · rw [t2]; exact wrapN (by omega)
            · exact ⟨⟨rfl, rfl, rfl, rfl, BodyGe.pre (rest := []) rfl rfl⟩, ⟨rfl, rfl, rfl, rfl, ⟨rfl, ege_refl 0 keysL⟩⟩, ⟨rfl, rfl, rfl, rfl, BodyGe.pre (rest := []) rfl rfl⟩, trivial⟩
          · have d2 : decide (((numN (s.drop k)).1 : Int) > 0) = false := by simpa using hn
            by_cases hg : 0 < signN (s.drop k)
            · have d3 : decide ((signN (s.drop k) : Int) > 0) = true := by simpa using hg
              clear w1 w2 t1 t2
              repeat' ((conv => whnf); first | (with_reducible refine exI (callZ hb rfl e2) ?_) | (first | (with_reducible refine condT ?_ ?_; (focus ((first | assumption | decide | (simp; done) | (simp; omega)); done))) | (with_reducible refine condF ?_ ?_; (focus ((first | assumption | decide | (simp; done) | (simp; omega)); done))) | with_reducible refine condB (fun h => ?_) (fun h => ?_) | with_reducible refine exI rfl ?_ | with_reducible refine eqR rfl ?_ | (with_reducible refine exW (wrapN1 ?_) ?_; (focus (omega))) | (with_reducible refine exW (wrapN ?_) ?_; (focus (omega))) | (with_reducible refine exW (wrapB ?_ ?_) ?_; (focus (omega)); (focus (omega))) | with_reducible refine exW rfl ?_ | (with_reducible refine ixJ _ rfl ?_ ?_; (focus ((first | decide | omega | (simp; done) | (simp; omega)); done))) | (with_reducible refine ixJ' _ rfl ?_ ?_; (focus ((first | decide | omega | (simp; done) | (simp; omega)); done))) | (refine ixJ (Int.toNat _) ?_ ?_ ?_; (focus ((first | rfl | decide | omega | (simp; done)); done)); (focus ((first | decide | omega | (simp; done) | (simp; omega)); done))) | (refine ixJ' (Int.toNat _) ?_ ?_ ?_; (focus ((first | rfl | decide | omega | (simp; done)); done)); (focus ((first | decide | omega | (simp; done) | (simp; omega)); done))) | with_reducible refine ixS _ rfl (by assumption) ?_ | (with_reducible refine shlI ?_ ?_; (focus (first | decide | omega))) | (refine exI (callZ rfl rfl (if_pos ?_)) ?_; (focus ((first | decide | omega | (simp; done) | (simp; omega)); done)))))
              conv => whnf
              refine ⟨(k + signN (s.drop k) + skip false (s.drop (k + signN (s.drop k))), n - 1, [⟨4, (s.drop k).take (signN (s.drop k)), 0, k⟩]), ⟨?_, ?_, ?_, ?_⟩, ?_, FgL.mk [0, 1, 5] rfl ?_ ?_ rfl⟩
              · show k + signN (s.drop k) + skip false (s.drop (k + signN (s.drop k))) ≤ s.length; omega
              · show s.length < k + signN (s.drop k) + skip false (s.drop (k + signN (s.drop k))) + (n - 1); omega
              · exact lex_step (acc := []) hk h2 (by unfold tok1; rw [if_neg hw, if_neg hn, if_pos hg]) h3
              · show 1 ≤ k + signN (s.drop k) + skip false (s.drop (k + signN (s.drop k))); omega
              · show s.length - (k + signN (s.drop k) + skip false (s.drop (k + signN (s.drop k)))) < s.length - k; omega
              · refine ⟨Wk.noref rfl, Wk.ptr rfl rfl, Wk.map rfl, Wk.slice rfl rfl rfl ?_ ?_ rfl, Wk.int ?_, trivial⟩
                · exact Nat.le_refl _
                · exact Nat.le_refl _
                · rw [t3]; exact wrapN (by omega)
              · exact ⟨⟨rfl, rfl, rfl, rfl, BodyGe.pre (rest := []) rfl rfl⟩, ⟨rfl, rfl, rfl, rfl, ⟨rfl, ege_refl 0 keysL⟩⟩, ⟨rfl, rfl, rfl, rfl, BodyGe.pre (rest := []) rfl rfl⟩, trivial⟩
            · have d3 : decide ((signN (s.drop k) : Int) > 0) = false := by simpa using hg
              clear w1 w2 t1 t2 g1 g2 g3
              repeat' ((conv => whnf); first | (with_reducible refine exI (callZ hb rfl e2) ?_) | (first | (with_reducible refine condT ?_ ?_; (focus ((first | assumption | decide | (simp; done) | (simp; omega)); done))) | (with_reducible refine condF ?_ ?_; (focus ((first | assumption | decide | (simp; done) | (simp; omega)); done))) | with_reducible refine condB (fun h => ?_) (fun h => ?_) | with_reducible refine exI rfl ?_ | with_reducible refine eqR rfl ?_ | (with_reducible refine exW (wrapN1 ?_) ?_; (focus (omega))) | (with_reducible refine exW (wrapN ?_) ?_; (focus (omega))) | (with_reducible refine exW (wrapB ?_ ?_) ?_; (focus (omega)); (focus (omega))) | with_reducible refine exW rfl ?_ | (with_reducible refine ixJ _ rfl ?_ ?_; (focus ((first | decide | omega | (simp; done) | (simp; omega)); done))) | (with_reducible refine ixJ' _ rfl ?_ ?_; (focus ((first | decide | omega | (simp; done) | (simp; omega)); done))) | (refine ixJ (Int.toNat _) ?_ ?_ ?_; (focus ((first | rfl | decide | omega | (simp; done)); done)); (focus ((first | decide | omega | (simp; done) | (simp; omega)); done))) | (refine ixJ' (Int.toNat _) ?_ ?_ ?_; (focus ((first | rfl | decide | omega | (simp; done)); done)); (focus ((first | decide | omega | (simp; done) | (simp; omega)); done))) | with_reducible refine ixS _ rfl (by assumption) ?_ | (with_reducible refine shlI ?_ ?_; (focus (first | decide | omega))) | (refine exI (callZ rfl rfl (if_pos ?_)) ?_; (focus ((first | decide | omega | (simp; done) | (simp; omega)); done)))))
              have e9 := lex_none hk h2 (by unfold tok1; rw [if_neg hw, if_neg hn, if_neg hg]) h3
              unfold allR; rw [if_neg (by omega), e9]
      | cons a acc =>
        dsimp only
        by_cases hw : 0 < wordN (s.drop k)
        · have d1 : decide ((wordN (s.drop k) : Int) > 0) = true := by simpa using hw
          cases hc : keysL.contains ((s.drop k).take (wordN (s.drop k))) with
          | true =>
            clear w2 w3 t2 t3 e2
            repeat' ((conv => whnf); first | (with_reducible refine exI (look_ok _ ?_) ?_; (focus rfl)) | (first | (with_reducible refine condT ?_ ?_; (focus ((first | assumption | decide | (simp; done) | (simp; omega)); done))) | (with_reducible refine condF ?_ ?_; (focus ((first | assumption | decide | (simp; done) | (simp; omega)); done))) | with_reducible refine condB (fun h => ?_) (fun h => ?_) | with_reducible refine exI rfl ?_ | with_reducible refine eqR rfl ?_ | (with_reducible refine exW (wrapN1 ?_) ?_; (focus (omega))) | (with_reducible refine exW (wrapN ?_) ?_; (focus (omega))) | (with_reducible refine exW (wrapB ?_ ?_) ?_; (focus (omega)); (focus (omega))) | with_reducible refine exW rfl ?_ | (with_reducible refine ixJ _ rfl ?_ ?_; (focus ((first | decide | omega | (simp; done) | (simp; omega)); done))) | (with_reducible refine ixJ' _ rfl ?_ ?_; (focus ((first | decide | omega | (simp; done) | (simp; omega)); done))) | (refine ixJ (Int.toNat _) ?_ ?_ ?_; (focus ((first | rfl | decide | omega | (simp; done)); done)); (focus ((first | decide | omega | (simp; done) | (simp; omega)); done))) | (refine ixJ' (Int.toNat _) ?_ ?_ ?_; (focus ((first | rfl | decide | omega | (simp; done)); done)); (focus ((first | decide | omega | (simp; done) | (simp; omega)); done))) | with_reducible refine ixS _ rfl (by assumption) ?_ | (with_reducible refine shlI ?_ ?_; (focus (first | decide | omega))) | (refine exI (callZ rfl rfl (if_pos ?_)) ?_; (focus ((first | decide | omega | (simp; done) | (simp; omega)); done)))))
            conv => whnf
            refine exI (look_ok _ ?_) ?_
            · rfl
            rw [hc]
            repeat' ((conv => whnf); (first | (with_reducible refine condT ?_ ?_; (focus ((first | assumption | decide | (simp; done) | (simp; omega)); done))) | (with_reducible refine condF ?_ ?_; (focus ((first | assumption | decide | (simp; done) | (simp; omega)); done))) | with_reducible refine condB (fun h => ?_) (fun h => ?_) | with_reducible refine exI rfl ?_ | with_reducible refine eqR rfl ?_ | (with_reducible refine exW (wrapN1 ?_) ?_; (focus (omega))) | (with_reducible refine exW (wrapN ?_) ?_; (focus (omega))) | (with_reducible refine exW (wrapB ?_ ?_) ?_; (focus (omega)); (focus (omega))) | with_reducible refine exW rfl ?_ | (with_reducible refine ixJ _ rfl ?_ ?_; (focus ((first | decide | omega | (simp; done) | (simp; omega)); done))) | (with_reducible refine ixJ' _ rfl ?_ ?_; (focus ((first | decide | omega | (simp; done) | (simp; omega)); done))) | (refine ixJ (Int.toNat _) ?_ ?_ ?_; (focus ((first | rfl | decide | omega | (simp; done)); done)); (focus ((first | decide | omega | (simp; done) | (simp; omega)); done))) | (refine ixJ' (Int.toNat _) ?_ ?_ ?_; (focus ((first | rfl | decide | omega | (simp; done)); done)); (focus ((first | decide | omega | (simp; done) | (simp; omega)); done))) | with_reducible refine ixS _ rfl (by assumption) ?_ | (with_reducible refine shlI ?_ ?_; (focus (first | decide | omega))) | (refine exI (callZ rfl rfl (if_pos ?_)) ?_; (focus ((first | decide | omega | (simp; done) | (simp; omega)); done)))))
            conv => whnf
            refine exI (app_ok aT (xs := [.int .i64 2, .str ((s.drop k).take (wordN (s.drop k))), .int .i64 0, .int .i64 k]) rfl rfl rfl (tksC_len _) rfl (by decide) ⟨by simp at h4 ⊢; omega, by simp at h4 ⊢; omega⟩) ?_
            repeat' ((conv => whnf); (first | (with_reducible refine condT ?_ ?_; (focus ((first | assumption | decide | (simp; done) | (simp; omega)); done))) | (with_reducible refine condF ?_ ?_; (focus ((first | assumption | decide | (simp; done) | (simp; omega)); done))) | with_reducible refine condB (fun h => ?_) (fun h => ?_) | with_reducible refine exI rfl ?_ | with_reducible refine eqR rfl ?_ | (with_reducible refine exW (wrapN1 ?_) ?_; (focus (omega))) | (with_reducible refine exW (wrapN ?_) ?_; (focus (omega))) | (with_reducible refine exW (wrapB ?_ ?_) ?_; (focus (omega)); (focus (omega))) | with_reducible refine exW rfl ?_ | (with_reducible refine ixJ _ rfl ?_ ?_; (focus ((first | decide | omega | (simp; done) | (simp; omega)); done))) | (with_reducible refine ixJ' _ rfl ?_ ?_; (focus ((first | decide | omega | (simp; done) | (simp; omega)); done))) | (refine ixJ (Int.toNat _) ?_ ?_ ?_; (focus ((first | rfl | decide | omega | (simp; done)); done)); (focus ((first | decide | omega | (simp; done) | (simp; omega)); done))) | (refine ixJ' (Int.toNat _) ?_ ?_ ?_; (focus ((first | rfl | decide | omega | (simp; done)); done)); (focus ((first | decide | omega | (simp; done) | (simp; omega)); done))) | with_reducible refine ixS _ rfl (by assumption) ?_ | (with_reducible refine shlI ?_ ?_; (focus (first | decide | omega))) | (refine exI (callZ rfl rfl (if_pos ?_)) ?_; (focus ((first | decide | omega | (simp; done) | (simp; omega)); done)))))
            conv => whnf
            refine ⟨(k + wordN (s.drop k) + skip false (s.drop (k + wordN (s.drop k))), n - 1, (a :: acc) ++ [⟨2, (s.drop k).take (wordN (s.drop k)), 0, k⟩]), ⟨?_, ?_, ?_, ?_⟩, ?_, FgL.mk [0, 1, 7] rfl ?_ ?_ rfl⟩
            · show k + wordN (s.drop k) + skip false (s.drop (k + wordN (s.drop k))) ≤ s.length; omega
            · show s.length < k + wordN (s.drop k) + skip false (s.drop (k + wordN (s.drop k))) + (n - 1); omega
            · exact lex_step hk h2 (by unfold tok1; rw [if_pos hw, if_pos hc]) h3
            · show ((a :: acc) ++ [_]).length ≤ k + wordN (s.drop k) + skip false (s.drop (k + wordN (s.drop k))); rw [List.length_append]; simp only [List.length_cons, List.length_nil] at h4 ⊢; omega
            · show s.length - (k + wordN (s.drop k) + skip false (s.drop (k + wordN (s.drop k)))) < s.length - k; omega
            · refine ⟨Wk.noref rfl, Wk.ptr rfl rfl, Wk.map rfl, Wk.slice rfl rfl ?_ ?_ ?_ rfl, Wk.int ?_, trivial⟩
              · exact (len_snoc (a :: acc) _).symm
              · exact Nat.le_refl _
              · exact Nat.le_of_eq (len_snoc (a :: acc) _)
              · rw [t1]; exact wrapN (by omega)
            · exact ⟨⟨rfl, rfl, rfl, rfl, BodyGe.pre (rest := []) rfl rfl⟩, ⟨rfl, rfl, rfl, rfl, ⟨rfl, ege_refl 0 keysL⟩⟩, ⟨rfl, rfl, rfl, rfl, BodyGe.pre (rest := []) ((tksC_append (a :: acc) ⟨2, (s.drop k).take (wordN (s.drop k)), 0, k⟩).symm.trans (List.append_nil _).symm) (tksC_refs _)⟩, trivial⟩
          | false =>
            clear w2 w3 t2 t3 e2
            repeat' ((conv => whnf); first | (with_reducible refine exI (look_ok _ ?_) ?_; (focus rfl)) | (first | (with_reducible refine condT ?_ ?_; (focus ((first | assumption | decide | (simp; done) | (simp; omega)); done))) | (with_reducible refine condF ?_ ?_; (focus ((first | assumption | decide | (simp; done) | (simp; omega)); done))) | with_reducible refine condB (fun h => ?_) (fun h => ?_) | with_reducible refine exI rfl ?_ | with_reducible refine eqR rfl ?_ | (with_reducible refine exW (wrapN1 ?_) ?_; (focus (omega))) | (with_reducible refine exW (wrapN ?_) ?_; (focus (omega))) | (with_reducible refine exW (wrapB ?_ ?_) ?_; (focus (omega)); (focus (omega))) | with_reducible refine exW rfl ?_ | (with_reducible refine ixJ _ rfl ?_ ?_; (focus ((first | decide | omega | (simp; done) | (simp; omega)); done))) | (with_reducible refine ixJ' _ rfl ?_ ?_; (focus ((first | decide | omega | (simp; done) | (simp; omega)); done))) | (refine ixJ (Int.toNat _) ?_ ?_ ?_; (focus ((first | rfl | decide | omega | (simp; done)); done)); (focus ((first | decide | omega | (simp; done) | (simp; omega)); done))) | (refine ixJ' (Int.toNat _) ?_ ?_ ?_; (focus ((first | rfl | decide | omega | (simp; done)); done)); (focus ((first | decide | omega | (simp; done) | (simp; omega)); done))) | with_reducible refine ixS _ rfl (by assumption) ?_ | (with_reducible refine shlI ?_ ?_; (focus (first | decide | omega))) | (refine exI (callZ rfl rfl (if_pos ?_)) ?_; (focus ((first | decide | omega | (simp; done) | (simp; omega)); done)))))
            conv => whnf
            refine exI (look_ok _ ?_) ?_
            · rfl
            rw [hc]
            repeat' ((conv => whnf); (first | (with_reducible refine condT ?_ ?_; (focus ((first | assumption | decide | (simp; done) | (simp; omega)); done))) | (with_reducible refine condF ?_ ?_; (focus ((first | assumption | decide | (simp; done) | (simp; omega)); done))) | with_reducible refine condB (fun h => ?_) (fun h => ?_) | with_reducible refine exI rfl ?_ | with_reducible refine eqR rfl ?_ | (with_reducible refine exW (wrapN1 ?_) ?_; (focus (omega))) | (with_reducible refine exW (wrapN ?_) ?_; (focus (omega))) | (with_reducible refine exW (wrapB ?_ ?_) ?_; (focus (omega)); (focus (omega))) | with_reducible refine exW rfl ?_ | (with_reducible refine ixJ _ rfl ?_ ?_; (focus ((first | decide | omega | (simp; done) | (simp; omega)); done))) | (with_reducible refine ixJ' _ rfl ?_ ?_; (focus ((first | decide | omega | (simp; done) | (simp; omega)); done))) | (refine ixJ (Int.toNat _) ?_ ?_ ?_; (focus ((first | rfl | decide | omega | (simp; done)); done)); (focus ((first | decide | omega | (simp; done) | (simp; omega)); done))) | (refine ixJ' (Int.toNat _) ?_ ?_ ?_; (focus ((first | rfl | decide | omega | (simp; done)); done)); (focus ((first | decide | omega | (simp; done) | (simp; omega)); done))) | with_reducible refine ixS _ rfl (by assumption) ?_ | (with_reducible refine shlI ?_ ?_; (focus (first | decide | omega))) | (refine exI (callZ rfl rfl (if_pos ?_)) ?_; (focus ((first | decide | omega | (simp; done) | (simp; omega)); done)))))
            conv => whnf
            refine exI (app_ok aT (xs := [.int .i64 1, .str ((s.drop k).take (wordN (s.drop k))), .int .i64 0, .int .i64 k]) rfl rfl rfl (tksC_len _) rfl (by decide) ⟨by simp at h4 ⊢; omega, by simp at h4 ⊢; omega⟩) ?_
            repeat' ((conv => whnf); (first | (with_reducible refine condT ?_ ?_; (focus ((first | assumption | decide | (simp; done) | (simp; omega)); done))) | (with_reducible refine condF ?_ ?_; (focus ((first | assumption | decide | (simp; done) | (simp; omega)); done))) | with_reducible refine condB (fun h => ?_) (fun h => ?_) | with_reducible refine exI rfl ?_ | with_reducible refine eqR rfl ?_ | (with_reducible refine exW (wrapN1 ?_) ?_; (focus (omega))) | (with_reducible refine exW (wrapN ?_) ?_; (focus (omega))) | (with_reducible refine exW (wrapB ?_ ?_) ?_; (focus (omega)); (focus (omega))) | with_reducible refine exW rfl ?_ | (with_reducible refine ixJ _ rfl ?_ ?_; (focus ((first | decide | omega | (simp; done) | (simp; omega)); done))) | (with_reducible refine ixJ' _ rfl ?_ ?_; (focus ((first | decide | omega | (simp; done) | (simp; omega)); done))) | (refine ixJ (Int.toNat _) ?_ ?_ ?_; (focus ((first | rfl | decide | omega | (simp; done)); done)); (focus ((first | decide | omega | (simp; done) | (simp; omega)); done))) | (refine ixJ' (Int.toNat _) ?_ ?_ ?_; (focus ((first | rfl | decide | omega | (simp; done)); done)); (focus ((first | decide | omega | (simp; done) | (simp; omega)); done))) | with_reducible refine ixS _ rfl (by assumption) ?_ | (with_reducible refine shlI ?_ ?_; (focus (first | decide | omega))) | (refine exI (callZ rfl rfl (if_pos ?_)) ?_; (focus ((first | decide | omega | (simp; done) | (simp; omega)); done)))))
            conv => whnf
            refine ⟨(k + wordN (s.drop k) + skip false (s.drop (k + wordN (s.drop k))), n - 1, (a :: acc) ++ [⟨1, (s.drop k).take (wordN (s.drop k)), 0, k⟩]), ⟨?_, ?_, ?_, ?_⟩, ?_, FgL.mk [0, 1, 7] rfl ?_ ?_ rfl⟩
            · show k + wordN (s.drop k) + skip false (s.drop (k + wordN (s.drop k))) ≤ s.length; omega
            · show s.length < k + wordN (s.drop k) + skip false (s.drop (k + wordN (s.drop k))) + (n - 1); omega
            · exact lex_step hk h2 (by unfold tok1; rw [if_pos hw, if_neg (by rw [hc]; decide)]) h3
            · show ((a :: acc) ++ [_]).length ≤ k + wordN (s.drop k) + skip false (s.drop (k + wordN (s.drop k))); rw [List.length_append]; simp only [List.length_cons, List.length_nil] at h4 ⊢; omega
            · show s.length - (k + wordN (s.drop k) + skip false (s.drop (k + wordN (s.drop k)))) < s.length - k; omega
            · refine ⟨Wk.noref rfl, Wk.ptr rfl rfl, Wk.map rfl, Wk.slice rfl rfl ?_ ?_ ?_ rfl, Wk.int ?_, trivial⟩
              · exact (len_snoc (a :: acc) _).symm
              · exact Nat.le_refl _
              · exact Nat.le_of_eq (len_snoc (a :: acc) _)
              · rw [t1]; exact wrapN (by omega)
            · exact ⟨⟨rfl, rfl, rfl, rfl, BodyGe.pre (rest := []) rfl rfl⟩, ⟨rfl, rfl, rfl, rfl, ⟨rfl, ege_refl 0 keysL⟩⟩, ⟨rfl, rfl, rfl, rfl, BodyGe.pre (rest := []) ((tksC_append (a :: acc) ⟨1, (s.drop k).take (wordN (s.drop k)), 0, k⟩).symm.trans (List.append_nil _).symm) (tksC_refs _)⟩, trivial⟩
        · have d1 : decide ((wordN (s.drop k) : Int) > 0) = false := by simpa using hw
          by_cases hn : 0 < (numN (s.drop k)).1
          · have d2 : decide (((numN (s.drop k)).1 : Int) > 0) = true := by simpa using hn
            clear w1 w3 t1 t3 e2
            repeat' ((conv => whnf); (first | (with_reducible refine condT ?_ ?_; (focus ((first | assumption | decide | (simp; done) | (simp; omega)); done))) | (with_reducible refine condF ?_ ?_; (focus ((first | assumption | decide | (simp; done) | (simp; omega)); done))) | with_reducible refine condB (fun h => ?_) (fun h => ?_) | with_reducible refine exI rfl ?_ | with_reducible refine eqR rfl ?_ | (with_reducible refine exW (wrapN1 ?_) ?_; (focus (omega))) | (with_reducible refine exW (wrapN ?_) ?_; (focus (omega))) | (with_reducible refine exW (wrapB ?_ ?_) ?_; (focus (omega)); (focus (omega))) | with_reducible refine exW rfl ?_ | (with_reducible refine ixJ _ rfl ?_ ?_; (focus ((first | decide | omega | (simp; done) | (simp; omega)); done))) | (with_reducible refine ixJ' _ rfl ?_ ?_; (focus ((first | decide | omega | (simp; done) | (simp; omega)); done))) | (refine ixJ (Int.toNat _) ?_ ?_ ?_; (focus ((first | rfl | decide | omega | (simp; done)); done)); (focus ((first | decide | omega | (simp; done) | (simp; omega)); done))) | (refine ixJ' (Int.toNat _) ?_ ?_ ?_; (focus ((first | rfl | decide | omega | (simp; done)); done)); (focus ((first | decide | omega | (simp; done) | (simp; omega)); done))) | with_reducible refine ixS _ rfl (by assumption) ?_ | (with_reducible refine shlI ?_ ?_; (focus (first | decide | omega))) | (refine exI (callZ rfl rfl (if_pos ?_)) ?_; (focus ((first | decide | omega | (simp; done) | (simp; omega)); done)))))
            conv => whnf
            refine exI (app_ok aT (xs := [.int .i64 3, .str ((s.drop k).take ((numN (s.drop k)).1)), .int .i64 ((numN (s.drop k)).2 : Nat), .int .i64 k]) rfl rfl rfl (tksC_len _) rfl (by decide) ⟨by simp at h4 ⊢; omega, by simp at h4 ⊢; omega⟩) ?_
            repeat' ((conv => whnf); (first | (with_reducible refine condT ?_ ?_; (focus ((first | assumption | decide | (simp; done) | (simp; omega)); done))) | (with_reducible refine condF ?_ ?_; (focus ((first | assumption | decide | (simp; done) | (simp; omega)); done))) | with_reducible refine condB (fun h => ?_) (fun h => ?_) | with_reducible refine exI rfl ?_ | with_reducible refine eqR rfl ?_ | (with_reducible refine exW (wrapN1 ?_) ?_; (focus (omega))) | (with_reducible refine exW (wrapN ?_) ?_; (focus (omega))) | (with_reducible refine exW (wrapB ?_ ?_) ?_; (focus (omega)); (focus (omega))) | with_reducible refine exW rfl ?_ | (with_reducible refine ixJ _ rfl ?_ ?_; (focus ((first | decide | omega | (simp; done) | (simp; omega)); done))) | (with_reducible refine ixJ' _ rfl ?_ ?_; (focus ((first | decide | omega | (simp; done) | (simp; omega)); done))) | (refine ixJ (Int.toNat _) ?_ ?_ ?_; (focus ((first | rfl | decide | omega | (simp; done)); done)); (focus ((first | decide | omega | (simp; done) | (simp; omega)); done))) | (refine ixJ' (Int.toNat _) ?_ ?_ ?_; (focus ((first | rfl | decide | omega | (simp; done)); done)); (focus ((first | decide | omega | (simp; done) | (simp; omega)); done))) | with_reducible refine ixS _ rfl (by assumption) ?_ | (with_reducible refine shlI ?_ ?_; (focus (first | decide | omega))) | (refine exI (callZ rfl rfl (if_pos ?_)) ?_; (focus ((first | decide | omega | (simp; done) | (simp; omega)); done)))))
            conv => whnf
            refine ⟨(k + (numN (s.drop k)).1 + skip false (s.drop (k + (numN (s.drop k)).1)), n - 1, (a :: acc) ++ [⟨3, (s.drop k).take ((numN (s.drop k)).1), (numN (s.drop k)).2, k⟩]), ⟨?_, ?_, ?_, ?_⟩, ?_, FgL.mk [0, 1, 6] rfl ?_ ?_ rfl⟩
            · show k + (numN (s.drop k)).1 + skip false (s.drop (k + (numN (s.drop k)).1)) ≤ s.length; omega
            · show s.length < k + (numN (s.drop k)).1 + skip false (s.drop (k + (numN (s.drop k)).1)) + (n - 1); omega
            · exact lex_step hk h2 (by unfold tok1; rw [if_neg hw, if_pos hn]) h3
            · show ((a :: acc) ++ [_]).length ≤ k + (numN (s.drop k)).1 + skip false (s.drop (k + (numN (s.drop k)).1)); rw [List.length_append]; simp only [List.length_cons, List.length_nil] at h4 ⊢; omega
            · show s.length - (k + (numN (s.drop k)).1 + skip false (s.drop (k + (numN (s.drop k)).1))) < s.length - k; omega
            · refine ⟨Wk.noref rfl, Wk.ptr rfl rfl, Wk.map rfl, Wk.slice rfl rfl ?_ ?_ ?_ rfl, Wk.int ?_, trivial⟩
              · exact (len_snoc (a :: acc) _).symm
              · exact Nat.le_refl _
              · exact Nat.le_of_eq (len_snoc (a :: acc) _)
              · rw [t2]; exact wrapN (by omega)
            · exact ⟨⟨rfl, rfl, rfl, rfl, BodyGe.pre (rest := []) rfl rfl⟩, ⟨rfl, rfl, rfl, rfl, ⟨rfl, ege_refl 0 keysL⟩⟩, ⟨rfl, rfl, rfl, rfl, BodyGe.pre (rest := []) ((tksC_append (a :: acc) ⟨3, (s.drop k).take ((numN (s.drop k)).1), (numN (s.drop k)).2, k⟩).symm.trans (List.append_nil _).symm) (tksC_refs _)⟩, trivial⟩
          · have d2 : decide (((numN (s.drop k)).1 : Int) > 0) = false := by simpa using hn
            by_cases hg : 0 < signN (s.drop k)
            · have d3 : decide ((signN (s.drop k) : Int) > 0) = true := by simpa using hg
              clear w1 w2 t1 t2
              repeat' ((conv => whnf); first | (with_reducible refine exI (callZ hb rfl e2) ?_) | (first | (with_reducible refine condT ?_ ?_; (focus ((first | assumption | decide | (simp; done) | (simp; omega)); done))) | (with_reducible refine condF ?_ ?_; (focus ((first | assumption | decide | (simp; done) | (simp; omega)); done))) | with_reducible refine condB (fun h => ?_) (fun h => ?_) | with_reducible refine exI rfl ?_ | with_reducible refine eqR rfl ?_ | (with_reducible refine exW (wrapN1 ?_) ?_; (focus (omega))) | (with_reducible refine exW (wrapN ?_) ?_; (focus (omega))) | (with_reducible refine exW (wrapB ?_ ?_) ?_; (focus (omega)); (focus (omega))) | with_reducible refine exW rfl ?_ | (with_reducible refine ixJ _ rfl ?_ ?_; (focus ((first | decide | omega | (simp; done) | (simp; omega)); done))) | (with_reducible refine ixJ' _ rfl ?_ ?_; (focus ((first | decide | omega | (simp; done) | (simp; omega)); done))) | (refine ixJ (Int.toNat _) ?_ ?_ ?_; (focus ((first | rfl | decide | omega | (simp; done)); done)); (focus ((first | decide | omega | (simp; done) | (simp; omega)); done))) | (refine ixJ' (Int.toNat _) ?_ ?_ ?_; (focus ((first | rfl | decide | omega | (simp; done)); done)); (focus ((first | decide | omega | (simp; done) | (simp; omega)); done))) | with_reducible refine ixS _ rfl (by assumption) ?_ | (with_reducible refine shlI ?_ ?_; (focus (first | decide | omega))) | (refine exI (callZ rfl rfl (if_pos ?_)) ?_; (focus ((first | decide | omega | (simp; done) | (simp; omega)); done)))))
              conv => whnf
              refine exI (app_ok aT (xs := [.int .i64 4, .str ((s.drop k).take (signN (s.drop k))), .int .i64 0, .int .i64 k]) rfl rfl rfl (tksC_len _) rfl (by decide) ⟨by simp at h4 ⊢; omega, by simp at h4 ⊢; omega⟩) ?_
              repeat' ((conv => whnf); (first | (with_reducible refine condT ?_ ?_; (focus ((first | assumption | decide | (simp; done) | (simp; omega)); done))) | (with_reducible refine condF ?_ ?_; (focus ((first | assumption | decide | (simp; done) | (simp; omega)); done))) | with_reducible refine condB (fun h => ?_) (fun h => ?_) | with_reducible refine exI rfl ?_ | with_reducible refine eqR rfl ?_ | (with_reducible refine exW (wrapN1 ?_) ?_; (focus (omega))) | (with_reducible refine exW (wrapN ?_) ?_; (focus (omega))) | (with_reducible refine exW (wrapB ?_ ?_) ?_; (focus (omega)); (focus (omega))) | with_reducible refine exW rfl ?_ | (with_reducible refine ixJ _ rfl ?_ ?_; (focus ((first | decide | omega | (simp; done) | (simp; omega)); done))) | (with_reducible refine ixJ' _ rfl ?_ ?_; (focus ((first | decide | omega | (simp; done) | (simp; omega)); done))) | (refine ixJ (Int.toNat _) ?_ ?_ ?_; (focus ((first | rfl | decide | omega | (simp; done)); done)); (focus ((first | decide | omega | (simp; done) | (simp; omega)); done))) | (refine ixJ' (Int.toNat _) ?_ ?_ ?_; (focus ((first | rfl | decide | omega | (simp; done)); done)); (focus ((first | decide | omega | (simp; done) | (simp; omega)); done))) | with_reducible refine ixS _ rfl (by assumption) ?_ | (with_reducible refine shlI ?_ ?_; (focus (first | decide | omega))) | (refine exI (callZ rfl rfl (if_pos ?_)) ?_; (focus ((first | decide | omega | (simp; done) | (simp; omega)); done)))))
              conv => whnf
              refine ⟨(k + signN (s.drop k) + skip false (s.drop (k + signN (s.drop k))), n - 1, (a :: acc) ++ [⟨4, (s.drop k).take (signN (s.drop k)), 0, k⟩]), ⟨?_, ?_, ?_, ?_⟩, ?_, FgL.mk [0, 1, 6] rfl ?_ ?_ rfl⟩
              · show k + signN (s.drop k) + skip false (s.drop (k + signN (s.drop k))) ≤ s.length; omega
              · show s.length < k + signN (s.drop k) + skip false (s.drop (k + signN (s.drop k))) + (n - 1); omega
              · exact lex_step hk h2 (by unfold tok1; rw [if_neg hw, if_neg hn, if_pos hg]) h3
              · show ((a :: acc) ++ [_]).length ≤ k + signN (s.drop k) + skip false (s.drop (k + signN (s.drop k))); rw [List.length_append]; simp only [List.length_cons, List.length_nil] at h4 ⊢; omega
              · show s.length - (k + signN (s.drop k) + skip false (s.drop (k + signN (s.drop k)))) < s.length - k; omega
              · refine ⟨Wk.noref rfl, Wk.ptr rfl rfl, Wk.map rfl, Wk.slice rfl rfl ?_ ?_ ?_ rfl, Wk.int ?_, trivial⟩
                · exact (len_snoc (a :: acc) _).symm
                · exact Nat.le_refl _
                · exact Nat.le_of_eq (len_snoc (a :: acc) _)
                · rw [t3]; exact wrapN (by omega)
              · exact ⟨⟨rfl, rfl, rfl, rfl, BodyGe.pre (rest := []) rfl rfl⟩, ⟨rfl, rfl, rfl, rfl, ⟨rfl, ege_refl 0 keysL⟩⟩, ⟨rfl, rfl, rfl, rfl, BodyGe.pre (rest := []) ((tksC_append (a :: acc) ⟨4, (s.drop k).take (signN (s.drop k)), 0, k⟩).symm.trans (List.append_nil _).symm) (tksC_refs _)⟩, trivial⟩
            · have d3 : decide ((signN (s.drop k) : Int) > 0) = false := by simpa using hg
              clear w1 w2 t1 t2 g1 g2 g3
              repeat' ((conv => whnf); first | (with_reducible refine exI (callZ hb rfl e2) ?_) | (first | (with_reducible refine condT ?_ ?_; (focus ((first | assumption | decide | (simp; done) | (simp; omega)); done))) | (with_reducible refine condF ?_ ?_; (focus ((first | assumption | decide | (simp; done) | (simp; omega)); done))) | with_reducible refine condB (fun h => ?_) (fun h => ?_) | with_reducible refine exI rfl ?_ | with_reducible refine eqR rfl ?_ | (with_reducible refine exW (wrapN1 ?_) ?_; (focus (omega))) | (with_reducible refine exW (wrapN ?_) ?_; (focus (omega))) | (with_reducible refine exW (wrapB ?_ ?_) ?_; (focus (omega)); (focus (omega))) | with_reducible refine exW rfl ?_ | (with_reducible refine ixJ _ rfl ?_ ?_; (focus ((first | decide | omega | (simp; done) | (simp; omega)); done))) | (with_reducible refine ixJ' _ rfl ?_ ?_; (focus ((first | decide | omega | (simp; done) | (simp; omega)); done))) | (refine ixJ (Int.toNat _) ?_ ?_ ?_; (focus ((first | rfl | decide | omega | (simp; done)); done)); (focus ((first | decide | omega | (simp; done) | (simp; omega)); done))) | (refine ixJ' (Int.toNat _) ?_ ?_ ?_; (focus ((first | rfl | decide | omega | (simp; done)); done)); (focus ((first | decide | omega | (simp; done) | (simp; omega)); done))) | with_reducible refine ixS _ rfl (by assumption) ?_ | (with_reducible refine shlI ?_ ?_; (focus (first | decide | omega))) | (refine exI (callZ rfl rfl (if_pos ?_)) ?_; (focus ((first | decide | omega | (simp; done) | (simp; omega)); done)))))
              have e9 := lex_none hk h2 (by unfold tok1; rw [if_neg hw, if_neg hn, if_neg hg]) h3
              unfold allR; rw [if_neg (by omega), e9]
    · have e1 : decide ((k : Int) < (s.length : Int)) = false := by simpa using hk
      have e9 := lex_end h1 hk h2 h3
      clear g1 g2 g3 w1 w2 w3 w4 t1 t2 t3
      cases acc with
      | nil =>
        dsimp only
        repeat' ((conv => whnf); first | (with_reducible refine condT ?_ ?_; (focus ((first | assumption | decide | (simp; done) | (simp; omega)); done))) | (with_reducible refine condF ?_ ?_; (focus ((first | assumption | decide | (simp; done) | (simp; omega)); done))) | with_reducible refine condB (fun h => ?_) (fun h => ?_) | with_reducible refine exI rfl ?_ | with_reducible refine eqR rfl ?_ | (with_reducible refine exW (wrapN1 ?_) ?_; (focus (omega))) | (with_reducible refine exW (wrapN ?_) ?_; (focus (omega))) | (with_reducible refine exW (wrapB ?_ ?_) ?_; (focus (omega)); (focus (omega))) | with_reducible refine exW rfl ?_ | (with_reducible refine ixJ _ rfl ?_ ?_; (focus ((first | decide | omega | (simp; done) | (simp; omega)); done))) | (with_reducible refine ixJ' _ rfl ?_ ?_; (focus ((first | decide | omega | (simp; done) | (simp; omega)); done))) | (refine ixJ (Int.toNat _) ?_ ?_ ?_; (focus ((first | rfl | decide | omega | (simp; done)); done)); (focus ((first | decide | omega | (simp; done) | (simp; omega)); done))) | (refine ixJ' (Int.toNat _) ?_ ?_ ?_; (focus ((first | rfl | decide | omega | (simp; done)); done)); (focus ((first | decide | omega | (simp; done) | (simp; omega)); done))) | with_reducible refine ixS _ rfl (by assumption) ?_ | (with_reducible refine shlI ?_ ?_; (focus (first | decide | omega))) | (refine exI (callZ rfl rfl (if_pos ?_)) ?_; (focus ((first | decide | omega | (simp; done) | (simp; omega)); done))))
        unfold allR; rw [if_neg (by omega), e9]; rfl
      | cons a acc =>
        dsimp only
        repeat' ((conv => whnf); (first | (with_reducible refine condT ?_ ?_; (focus ((first | assumption | decide | (simp; done) | (simp; omega)); done))) | (with_reducible refine condF ?_ ?_; (focus ((first | assumption | decide | (simp; done) | (simp; omega)); done))) | with_reducible refine condB (fun h => ?_) (fun h => ?_) | with_reducible refine exI rfl ?_ | with_reducible refine eqR rfl ?_ | (with_reducible refine exW (wrapN1 ?_) ?_; (focus (omega))) | (with_reducible refine exW (wrapN ?_) ?_; (focus (omega))) | (with_reducible refine exW (wrapB ?_ ?_) ?_; (focus (omega)); (focus (omega))) | with_reducible refine exW rfl ?_ | (with_reducible refine ixJ _ rfl ?_ ?_; (focus ((first | decide | omega | (simp; done) | (simp; omega)); done))) | (with_reducible refine ixJ' _ rfl ?_ ?_; (focus ((first | decide | omega | (simp; done) | (simp; omega)); done))) | (refine ixJ (Int.toNat _) ?_ ?_ ?_; (focus ((first | rfl | decide | omega | (simp; done)); done)); (focus ((first | decide | omega | (simp; done) | (simp; omega)); done))) | (refine ixJ' (Int.toNat _) ?_ ?_ ?_; (focus ((first | rfl | decide | omega | (simp; done)); done)); (focus ((first | decide | omega | (simp; done) | (simp; omega)); done))) | with_reducible refine ixS _ rfl (by assumption) ?_ | (with_reducible refine shlI ?_ ?_; (focus (first | decide | omega))) | (refine exI (callZ rfl rfl (if_pos ?_)) ?_; (focus ((first | decide | omega | (simp; done) | (simp; omega)); done)))))
        conv => whnf
        refine exI (app_ok aT (xs := [.int .i64 5, .str [], .int .i64 0, .int .i64 s.length]) rfl rfl rfl (tksC_len _) rfl (by decide) ⟨by simp at h4 ⊢; omega, by simp at h4 ⊢; omega⟩) ?_
        repeat' ((conv => whnf); (first | (with_reducible refine condT ?_ ?_; (focus ((first | assumption | decide | (simp; done) | (simp; omega)); done))) | (with_reducible refine condF ?_ ?_; (focus ((first | assumption | decide | (simp; done) | (simp; omega)); done))) | with_reducible refine condB (fun h => ?_) (fun h => ?_) | with_reducible refine exI rfl ?_ | with_reducible refine eqR rfl ?_ | (with_reducible refine exW (wrapN1 ?_) ?_; (focus (omega))) | (with_reducible refine exW (wrapN ?_) ?_; (focus (omega))) | (with_reducible refine exW (wrapB ?_ ?_) ?_; (focus (omega)); (focus (omega))) | with_reducible refine exW rfl ?_ | (with_reducible refine ixJ _ rfl ?_ ?_; (focus ((first | decide | omega | (simp; done) | (simp; omega)); done))) | (with_reducible refine ixJ' _ rfl ?_ ?_; (focus ((first | decide | omega | (simp; done) | (simp; omega)); done))) | (refine ixJ (Int.toNat _) ?_ ?_ ?_; (focus ((first | rfl | decide | omega | (simp; done)); done)); (focus ((first | decide | omega | (simp; done) | (simp; omega)); done))) | (refine ixJ' (Int.toNat _) ?_ ?_ ?_; (focus ((first | rfl | decide | omega | (simp; done)); done)); (focus ((first | decide | omega | (simp; done) | (simp; omega)); done))) | with_reducible refine ixS _ rfl (by assumption) ?_ | (with_reducible refine shlI ?_ ?_; (focus (first | decide | omega))) | (refine exI (callZ rfl rfl (if_pos ?_)) ?_; (focus ((first | decide | omega | (simp; done) | (simp; omega)); done)))))
        conv => whnf
        refine ⟨.tuple [.rs (acc.length + 1 + 1) 4 (tksC (a :: acc) ++ Tk.cells ⟨5, [], 0, s.length⟩), .agg [.int .i64 0, .int .i64 0]], frz_two (frz_slice (b := 4) rfl ?_ ?_) (frz_aggL rfl), ?_⟩
        · exact (congrArg List.length (tksC_append (a :: acc) ⟨5, [], 0, s.length⟩)).symm.trans ((tksC_len _).trans (by simp))
        · exact (congrArg (List.all · lit) (tksC_append (a :: acc) ⟨5, [], 0, s.length⟩)).symm.trans (tksC_lit _)
        · show _ = allR s
          unfold allR; rw [if_neg (by omega), e9, ← tksC_append]; rfl
end Go.Proofs.YtacaaiiooedgjaaDoor.lex
end

/-
  Of 'cantileverlaw02': the document's answer: kinds of words, numbers.
-/
section
set_option linter.unusedVariables false
set_option linter.unusedSimpArgs false
namespace Go.Proofs.YtacaaiiooedgjaaDoor.lex
open Go.Abs Go.RowKit
set_option maxRecDepth 100000
set_option maxHeartbeats 4000000

theorem kind_ok (x : List UInt8) : ValOK Tryd.prog runLives.gl 25 [.str x] (.int .i64 (if keysL.contains x then 2 else 1)) := by
  refine fn_valI (fun _ => false) 2 follows noNum F6_sound Tryd.func25 rfl ?_
  repeat' ((conv => whnf); first | (with_reducible refine condT ?_ ?_; (focus ((first | assumption | decide | (simp; done) | (simp; omega)); done))) | (with_reducible refine condF ?_ ?_; (focus ((first | assumption | decide | (simp; done) | (simp; omega)); done))) | with_reducible refine condB (fun h => ?_) (fun h => ?_) | with_reducible refine exI rfl ?_ | with_reducible refine eqR rfl ?_ | (with_reducible refine exW (wrapN1 ?_) ?_; (focus (omega))) | (with_reducible refine exW (wrapN ?_) ?_; (focus (omega))) | (with_reducible refine exW (wrapB ?_ ?_) ?_; (focus (omega)); (focus (omega))) | with_reducible refine exW rfl ?_ | (with_reducible refine ixJ _ rfl ?_ ?_; (focus ((first | decide | omega | (simp; done) | (simp; omega)); done))) | (with_reducible refine ixJ' _ rfl ?_ ?_; (focus ((first | decide | omega | (simp; done) | (simp; omega)); done))) | (refine ixJ (Int.toNat _) ?_ ?_ ?_; (focus ((first | rfl | decide | omega | (simp; done)); done)); (focus ((first | decide | omega | (simp; done) | (simp; omega)); done))) | (refine ixJ' (Int.toNat _) ?_ ?_ ?_; (focus ((first | rfl | decide | omega | (simp; done)); done)); (focus ((first | decide | omega | (simp; done) | (simp; omega)); done))) | with_reducible refine ixS _ rfl (by assumption) ?_ | (with_reducible refine shlI ?_ ?_; (focus (first | decide | omega))) | (refine exI (callZ rfl rfl (if_pos ?_)) ?_; (focus ((first | decide | omega | (simp; done) | (simp; omega)); done))))
  conv => whnf
  refine ⟨Nat, (fun i => i ≤ 20 ∧ keysL.contains x = (keysL.drop i).contains x), (fun i => [(0, .str x), (3, .slice 0 0 20 20 1), (4, .int .i64 i)]), (fun _ => [⟨true, 0, 0, .cells (keysL.map AV.str) 9⟩]), (fun i => 20 - i), ⟨0, ⟨by omega, rfl⟩, ?_⟩, ?_⟩
  · refine FgL.mk [0] rfl ?_ ?_ rfl
    · exact ⟨Wk.noref rfl, Wk.slice rfl rfl rfl (Nat.le_refl _) (Nat.le_refl _) rfl, Wk.int rfl, trivial⟩
    · exact ⟨⟨rfl, rfl, rfl, rfl, BodyGe.pre (rest := []) rfl rfl⟩, trivial⟩
  · intro i ⟨hi, hs⟩
    by_cases hlt : i < 20
    · have e1 : decide ((i : Int) < 20) = true := by simp; omega
      have hlk : i < keysL.length := hlt
      have hd : keysL.drop i = keysL[i] :: keysL.drop (i + 1) := List.drop_eq_getElem_cons hlk
      repeat' ((conv => whnf); first | (with_reducible refine exI (tk1_map AV.str keysL i hlk ?_) ?_; (focus (omega))) | (first | (with_reducible refine condT ?_ ?_; (focus ((first | assumption | decide | (simp; done) | (simp; omega)); done))) | (with_reducible refine condF ?_ ?_; (focus ((first | assumption | decide | (simp; done) | (simp; omega)); done))) | with_reducible refine condB (fun h => ?_) (fun h => ?_) | with_reducible refine exI rfl ?_ | with_reducible refine eqR rfl ?_ | (with_reducible refine exW (wrapN1 ?_) ?_; (focus (omega))) | (with_reducible refine exW (wrapN ?_) ?_; (focus (omega))) | (with_reducible refine exW (wrapB ?_ ?_) ?_; (focus (omega)); (focus (omega))) | with_reducible refine exW rfl ?_ | (with_reducible refine ixJ _ rfl ?_ ?_; (focus ((first | decide | omega | (simp; done) | (simp; omega)); done))) | (with_reducible refine ixJ' _ rfl ?_ ?_; (focus ((first | decide | omega | (simp; done) | (simp; omega)); done))) | (refine ixJ (Int.toNat _) ?_ ?_ ?_; (focus ((first | rfl | decide | omega | (simp; done)); done)); (focus ((first | decide | omega | (simp; done) | (simp; omega)); done))) | (refine ixJ' (Int.toNat _) ?_ ?_ ?_; (focus ((first | rfl | decide | omega | (simp; done)); done)); (focus ((first | decide | omega | (simp; done) | (simp; omega)); done))) | with_reducible refine ixS _ rfl (by assumption) ?_ | (with_reducible refine shlI ?_ ?_; (focus (first | decide | omega))) | (refine exI (callZ rfl rfl (if_pos ?_)) ?_; (focus ((first | decide | omega | (simp; done) | (simp; omega)); done)))))
      · have hc : keysL.contains x = true := by rw [hs, hd, List.contains_cons, eq_of_beq h]; simp
        rw [hc]; rfl
      · conv => whnf
        have hx : (x == keysL[i]) = false := beq_eq_false_iff_ne.2 (fun e => by rw [← e] at h; simp at h)
        exact ⟨i + 1, ⟨hlt, by rw [hs, hd, List.contains_cons, hx, Bool.false_or]⟩, by show 20 - (i + 1) < 20 - i; omega, FgL.mk [0] rfl ⟨Wk.noref rfl, Wk.slice rfl rfl rfl (Nat.le_refl _) (Nat.le_refl _) rfl, Wk.int rfl, trivial⟩ ⟨⟨rfl, rfl, rfl, rfl, BodyGe.pre (rest := []) rfl rfl⟩, trivial⟩ rfl⟩
    · have e1 : decide ((i : Int) < 20) = false := by simp; omega
      have hi' : i = 20 := by omega
      subst hi'
      repeat' ((conv => whnf); first | (with_reducible refine condT ?_ ?_; (focus ((first | assumption | decide | (simp; done) | (simp; omega)); done))) | (with_reducible refine condF ?_ ?_; (focus ((first | assumption | decide | (simp; done) | (simp; omega)); done))) | with_reducible refine condB (fun h => ?_) (fun h => ?_) | with_reducible refine exI rfl ?_ | with_reducible refine eqR rfl ?_ | (with_reducible refine exW (wrapN1 ?_) ?_; (focus (omega))) | (with_reducible refine exW (wrapN ?_) ?_; (focus (omega))) | (with_reducible refine exW (wrapB ?_ ?_) ?_; (focus (omega)); (focus (omega))) | with_reducible refine exW rfl ?_ | (with_reducible refine ixJ _ rfl ?_ ?_; (focus ((first | decide | omega | (simp; done) | (simp; omega)); done))) | (with_reducible refine ixJ' _ rfl ?_ ?_; (focus ((first | decide | omega | (simp; done) | (simp; omega)); done))) | (refine ixJ (Int.toNat _) ?_ ?_ ?_; (focus ((first | rfl | decide | omega | (simp; done)); done)); (focus ((first | decide | omega | (simp; done) | (simp; omega)); done))) | (refine ixJ' (Int.toNat _) ?_ ?_ ?_; (focus ((first | rfl | decide | omega | (simp; done)); done)); (focus ((first | decide | omega | (simp; done) | (simp; omega)); done))) | with_reducible refine ixS _ rfl (by assumption) ?_ | (with_reducible refine shlI ?_ ?_; (focus (first | decide | omega))) | (refine exI (callZ rfl rfl (if_pos ?_)) ?_; (focus ((first | decide | omega | (simp; done) | (simp; omega)); done))))
      have hc : keysL.contains x = false := by rw [hs]; rfl
      rw [hc]; rfl

theorem valN_lt (l : List UInt8) (hd : ∀ c ∈ l, digB c.toNat = true) : ∀ k, k ≤ l.length → valN (l.take k) < 10 ^ k
  | 0, _ => by simp [valN]
  | k + 1, h => by
    have h1 := valN_lt l hd k (by omega)
    have h2 := valN_snoc l k (by omega)
    have h3 := hd l[k] (List.getElem_mem _)
    simp only [digB, Bool.and_eq_true, decide_eq_true_eq] at h3
    rw [h2, Nat.pow_succ]; omega
def numR (l : List UInt8) : AV := if (1 < l.length ∧ l.head? = some 48) ∨ 19 < l.length then .tuple [.int .i64 0, .bool false] else .tuple [.int .i64 (IntKind.i64.wrap (valN l)), .bool (decide ((valN l : Int) < 9223372036854775808))]
theorem numbR_ok (l : List UInt8) (h0 : l ≠ []) (hl : l.length ≤ 65536) (hd : ∀ c ∈ l, digB c.toNat = true) : ValOK Tryd.prog runLives.gl 35 [.str l] (numR l) := by
  obtain ⟨c, t, rfl⟩ : ∃ c t, l = c :: t := by cases l with | nil => exact absurd rfl h0 | cons c t => exact ⟨c, t, rfl⟩
  have hc0 : (c :: t)[0]? = some c := rfl
  have u0 := u8_eq c 48 (by decide)
  have d1 : decide (((c :: t).length : Int) > 1) = decide (1 < (c :: t).length) := by simp; omega
  have d2 : decide (((c :: t).length : Int) > 19) = decide (19 < (c :: t).length) := by simp; omega
  refine fn_val follows noNum F6_sound Tryd.func35 rfl ?_
  generalize hl' : c :: t = l at *
  have hh : l.head? = some c := by rw [← hl']; rfl
  by_cases hbad : (1 < l.length ∧ c = 48) ∨ 19 < l.length
  · have e : numR l = .tuple [.int .i64 0, .bool false] := by unfold numR; rw [hh]; rw [if_pos]; simpa using hbad
    rw [e]
    clear e
    repeat' ((conv => whnf); first | with_reducible refine ixS 0 rfl hc0 ?_ | (first | (with_reducible refine condT ?_ ?_; (focus ((first | assumption | decide | (simp; done) | (simp; omega)); done))) | (with_reducible refine condF ?_ ?_; (focus ((first | assumption | decide | (simp; done) | (simp; omega)); done))) | with_reducible refine condB (fun h => ?_) (fun h => ?_) | with_reducible refine exI rfl ?_ | with_reducible refine eqR rfl ?_ | (with_reducible refine exW (wrapN1 ?_) ?_; (focus (omega))) | (with_reducible refine exW (wrapN ?_) ?_; (focus (omega))) | (with_reducible refine exW (wrapB ?_ ?_) ?_; (focus (omega)); (focus (omega))) | with_reducible refine exW rfl ?_ | (with_reducible refine ixJ _ rfl ?_ ?_; (focus ((first | decide | omega | (simp; done) | (simp; omega)); done))) | (with_reducible refine ixJ' _ rfl ?_ ?_; (focus ((first | decide | omega | (simp; done) | (simp; omega)); done))) | (refine ixJ (Int.toNat _) ?_ ?_ ?_; (focus ((first | rfl | decide | omega | (simp; done)); done)); (focus ((first | decide | omega | (simp; done) | (simp; omega)); done))) | (refine ixJ' (Int.toNat _) ?_ ?_ ?_; (focus ((first | rfl | decide | omega | (simp; done)); done)); (focus ((first | decide | omega | (simp; done) | (simp; omega)); done))) | with_reducible refine ixS _ rfl (by assumption) ?_ | (with_reducible refine shlI ?_ ?_; (focus (first | decide | omega))) | (refine exI (callZ rfl rfl (if_pos ?_)) ?_; (focus ((first | decide | omega | (simp; done) | (simp; omega)); done)))))
    all_goals (first | rfl | (exfalso; simp_all; done) | (exfalso; simp_all; omega))
  · have e : numR l = .tuple [.int .i64 (IntKind.i64.wrap (valN l)), .bool (decide ((valN l : Int) < 9223372036854775808))] := by unfold numR; rw [hh]; rw [if_neg]; simpa using hbad
    rw [e]
    have hl19 : ¬ 19 < l.length := fun h => hbad (.inr h)
    have d2' : decide ((l.length : Int) > 19) = false := by rw [d2]; simpa using hl19
    repeat' ((conv => whnf); first | with_reducible refine ixS 0 rfl hc0 ?_ | (first | (with_reducible refine condT ?_ ?_; (focus ((first | assumption | decide | (simp; done) | (simp; omega)); done))) | (with_reducible refine condF ?_ ?_; (focus ((first | assumption | decide | (simp; done) | (simp; omega)); done))) | with_reducible refine condB (fun h => ?_) (fun h => ?_) | with_reducible refine exI rfl ?_ | with_reducible refine eqR rfl ?_ | (with_reducible refine exW (wrapN1 ?_) ?_; (focus (omega))) | (with_reducible refine exW (wrapN ?_) ?_; (focus (omega))) | (with_reducible refine exW (wrapB ?_ ?_) ?_; (focus (omega)); (focus (omega))) | with_reducible refine exW rfl ?_ | (with_reducible refine ixJ _ rfl ?_ ?_; (focus ((first | decide | omega | (simp; done) | (simp; omega)); done))) | (with_reducible refine ixJ' _ rfl ?_ ?_; (focus ((first | decide | omega | (simp; done) | (simp; omega)); done))) | (refine ixJ (Int.toNat _) ?_ ?_ ?_; (focus ((first | rfl | decide | omega | (simp; done)); done)); (focus ((first | decide | omega | (simp; done) | (simp; omega)); done))) | (refine ixJ' (Int.toNat _) ?_ ?_ ?_; (focus ((first | rfl | decide | omega | (simp; done)); done)); (focus ((first | decide | omega | (simp; done) | (simp; omega)); done))) | with_reducible refine ixS _ rfl (by assumption) ?_ | (with_reducible refine shlI ?_ ?_; (focus (first | decide | omega))) | (refine exI (callZ rfl rfl (if_pos ?_)) ?_; (focus ((first | decide | omega | (simp; done) | (simp; omega)); done)))))
    all_goals (first | (exfalso; simp_all; done) | (exfalso; simp_all; omega) | skip)
    all_goals (conv => whnf)
    all_goals (
      refine ⟨Nat, (fun k => k ≤ l.length), (fun k => [(0, .str l), (4, .int .u64 (valN (l.take k))), (5, .int .i64 k)]), (fun _ => []), (fun k => l.length - k), ⟨0, Nat.zero_le _, FgL.mk0 rfl ⟨Wk.noref rfl, Wk.int rfl, Wk.int rfl, trivial⟩⟩, ?_⟩
      intro k hk
      by_cases hlt : k < l.length
      · have e1 : decide ((k : Int) < (l.length : Int)) = true := by simpa using hlt
        have hx : l[k]? = some l[k] := by simp [hlt]
        have hdk : 48 ≤ l[k].toNat ∧ l[k].toNat ≤ 57 := by have := hd l[k] (List.getElem_mem hlt); simp [digB] at this; omega
        have hm1 := valN_snoc l k hlt
        have hm2 := valN_lt l hd (k + 1) hlt
        have hm3 : 10 ^ (k + 1) ≤ 10 ^ 19 := Nat.pow_le_pow_right (by decide) (by omega)
        repeat' ((conv => whnf); first | with_reducible refine ixS _ rfl hx ?_ | (first | (with_reducible refine condT ?_ ?_; (focus ((first | assumption | decide | (simp; done) | (simp; omega)); done))) | (with_reducible refine condF ?_ ?_; (focus ((first | assumption | decide | (simp; done) | (simp; omega)); done))) | with_reducible refine condB (fun h => ?_) (fun h => ?_) | with_reducible refine exI rfl ?_ | with_reducible refine eqR rfl ?_ | (with_reducible refine exW (wrapN1 ?_) ?_; (focus (omega))) | (with_reducible refine exW (wrapN ?_) ?_; (focus (omega))) | (with_reducible refine exW (wrapB ?_ ?_) ?_; (focus (omega)); (focus (omega))) | with_reducible refine exW rfl ?_ | (with_reducible refine ixJ _ rfl ?_ ?_; (focus ((first | decide | omega | (simp; done) | (simp; omega)); done))) | (with_reducible refine ixJ' _ rfl ?_ ?_; (focus ((first | decide | omega | (simp; done) | (simp; omega)); done))) | (refine ixJ (Int.toNat _) ?_ ?_ ?_; (focus ((first | rfl | decide | omega | (simp; done)); done)); (focus ((first | decide | omega | (simp; done) | (simp; omega)); done))) | (refine ixJ' (Int.toNat _) ?_ ?_ ?_; (focus ((first | rfl | decide | omega | (simp; done)); done)); (focus ((first | decide | omega | (simp; done) | (simp; omega)); done))) | with_reducible refine ixS _ rfl (by assumption) ?_ | (with_reducible refine shlI ?_ ?_; (focus (first | decide | omega))) | (refine exI (callZ rfl rfl (if_pos ?_)) ?_; (focus ((first | decide | omega | (simp; done) | (simp; omega)); done)))))
        conv => whnf
        have e : IntKind.u64.wrap (IntKind.u64.wrap (↑(valN (List.take k l)) * 10) + IntKind.u64.wrap (IntKind.u8.wrap (↑l[k].toNat - 48))) = (valN (l.take (k + 1)) : Int) := by
          simp only [u64w, IntKind.wrap_u8]; omega
        first | rw [e] | skip
        exact ⟨k + 1, hlt, by show l.length - (k + 1) < l.length - k; omega, FgL.mk0 rfl ⟨Wk.noref rfl, Wk.int rfl, Wk.int rfl, trivial⟩⟩
      · have e1 : decide ((k : Int) < (l.length : Int)) = false := by simpa using hlt
        have hk' : k = l.length := by omega
        repeat' ((conv => whnf); first | (with_reducible refine condT ?_ ?_; (focus ((first | assumption | decide | (simp; done) | (simp; omega)); done))) | (with_reducible refine condF ?_ ?_; (focus ((first | assumption | decide | (simp; done) | (simp; omega)); done))) | with_reducible refine condB (fun h => ?_) (fun h => ?_) | with_reducible refine exI rfl ?_ | with_reducible refine eqR rfl ?_ | (with_reducible refine exW (wrapN1 ?_) ?_; (focus (omega))) | (with_reducible refine exW (wrapN ?_) ?_; (focus (omega))) | (with_reducible refine exW (wrapB ?_ ?_) ?_; (focus (omega)); (focus (omega))) | with_reducible refine exW rfl ?_ | (with_reducible refine ixJ _ rfl ?_ ?_; (focus ((first | decide | omega | (simp; done) | (simp; omega)); done))) | (with_reducible refine ixJ' _ rfl ?_ ?_; (focus ((first | decide | omega | (simp; done) | (simp; omega)); done))) | (refine ixJ (Int.toNat _) ?_ ?_ ?_; (focus ((first | rfl | decide | omega | (simp; done)); done)); (focus ((first | decide | omega | (simp; done) | (simp; omega)); done))) | (refine ixJ' (Int.toNat _) ?_ ?_ ?_; (focus ((first | rfl | decide | omega | (simp; done)); done)); (focus ((first | decide | omega | (simp; done) | (simp; omega)); done))) | with_reducible refine ixS _ rfl (by assumption) ?_ | (with_reducible refine shlI ?_ ?_; (focus (first | decide | omega))) | (refine exI (callZ rfl rfl (if_pos ?_)) ?_; (focus ((first | decide | omega | (simp; done) | (simp; omega)); done))))
        rw [hk', List.take_length]; try rfl)
end Go.Proofs.YtacaaiiooedgjaaDoor.lex
end

/-
  Of 'cantileverlaw02': the document's answer: one token.
-/
section
set_option linter.unusedVariables false
set_option linter.unusedSimpArgs false
namespace Go.Proofs.YtacaaiiooedgjaaDoor.lex
open Go.Abs Go.RowKit
set_option maxRecDepth 100000
set_option maxHeartbeats 4000000

theorem plain_numR (l : List UInt8) : plain (numR l) = true := by unfold numR; split <;> rfl
def F7 (f : Nat) (xs : List AV) : Option AV := match f with
  | 25 => match xs with | [.str x] => some (.int .i64 (if keysL.contains x then 2 else 1)) | _ => none
  | 35 => match xs with | [.str l] => if digs l && decide (l.length ≤ 65536) then some (numR l) else none | _ => none
  | f => F6 f xs
theorem F7_val {f : Nat} {xs : List AV} {r : AV} (h : F7 f xs = some r) : plain r = true ∧ ValOK Tryd.prog runLives.gl f xs r := by
  unfold F7 at h
  split at h <;> try (exact F6_val h)
  · split at h <;> cases h
    exact ⟨rfl, kind_ok _⟩
  · split at h <;> try (cases h; done)
    split at h <;> cases h
    rename_i hd
    simp only [Bool.and_eq_true, decide_eq_true_eq] at hd
    obtain ⟨h1, h2, h3⟩ := digs_of hd.1
    exact ⟨plain_numR _, numbR_ok _ h1 hd.2 h3⟩
theorem F7_sound : OrcSound Tryd.prog runLives.gl (orcZ F7) := orcZ_sound fun f xs r h => F7_val h

/-- All signs, longer ones ahead. -/
def sgnsL : List (List UInt8) := [[124, 124], [38, 38], [61, 61], [33, 61], [60, 61], [60], [43], [45], [42], [38], [124], [94], [33], [61], [40], [41], [123], [125], [44], [59]]
def fitB (t p : List UInt8) : Bool := t.take p.length == p
def sgn1 (t : List UInt8) (l : List (List UInt8)) : Nat := match l.find? (fitB t) with | some p => p.length | none => 0
theorem sgn_one (c : UInt8) : sgn1 [c] sgnsL = signN [c] := by
  by_cases h1 : c = 124; · subst h1; decide
  by_cases h2 : c = 38; · subst h2; decide
  by_cases h3 : c = 61; · subst h3; decide
  by_cases h4 : c = 33; · subst h4; decide
  by_cases h5 : c = 60; · subst h5; decide
  by_cases h6 : c = 43; · subst h6; decide
  by_cases h7 : c = 45; · subst h7; decide
  by_cases h8 : c = 42; · subst h8; decide
  by_cases h9 : c = 94; · subst h9; decide
  by_cases h10 : c = 40; · subst h10; decide
  by_cases h11 : c = 41; · subst h11; decide
  by_cases h12 : c = 123; · subst h12; decide
  by_cases h13 : c = 125; · subst h13; decide
  by_cases h14 : c = 44; · subst h14; decide
  by_cases h15 : c = 59; · subst h15; decide
  have e : sgn1 [c] sgnsL = 0 := by simp [sgn1, sgnsL, fitB, *]
  rw [e]; simp [signN, *]
theorem sgn_two (c d : UInt8) (t : List UInt8) : sgn1 (c :: d :: t) sgnsL = signN (c :: d :: t) := by
  by_cases k1 : d = 124 <;> by_cases k2 : d = 38 <;> by_cases k3 : d = 61
  all_goals (try (subst k1); try (subst k2); try (subst k3))
  all_goals (try (exfalso; revert k1; decide))
  all_goals (try (exfalso; revert k2; decide))
  all_goals (try (exfalso; revert k3; decide))
  all_goals (try have b1 : (d == 124) = false := beq_eq_false_iff_ne.2 k1)
  all_goals (try have b2 : (d == 38) = false := beq_eq_false_iff_ne.2 k2)
  all_goals (try have b3 : (d == 61) = false := beq_eq_false_iff_ne.2 k3)
  all_goals (
    by_cases h1 : c = 124; · subst h1; simp [sgn1, sgnsL, fitB, signN, List.find?, *]
    by_cases h2 : c = 38; · subst h2; simp [sgn1, sgnsL, fitB, signN, List.find?, *]
    by_cases h3 : c = 61; · subst h3; simp [sgn1, sgnsL, fitB, signN, List.find?, *]
    by_cases h4 : c = 33; · subst h4; simp [sgn1, sgnsL, fitB, signN, List.find?, *]
    by_cases h5 : c = 60; · subst h5; simp [sgn1, sgnsL, fitB, signN, List.find?, *]
    by_cases h6 : c = 43; · subst h6; simp [sgn1, sgnsL, fitB, signN, List.find?, *]
    by_cases h7 : c = 45; · subst h7; simp [sgn1, sgnsL, fitB, signN, List.find?, *]
    by_cases h8 : c = 42; · subst h8; simp [sgn1, sgnsL, fitB, signN, List.find?, *]
    by_cases h9 : c = 94; · subst h9; simp [sgn1, sgnsL, fitB, signN, List.find?, *]
    by_cases h10 : c = 40; · subst h10; simp [sgn1, sgnsL, fitB, signN, List.find?, *]
    by_cases h11 : c = 41; · subst h11; simp [sgn1, sgnsL, fitB, signN, List.find?, *]
    by_cases h12 : c = 123; · subst h12; simp [sgn1, sgnsL, fitB, signN, List.find?, *]
    by_cases h13 : c = 125; · subst h13; simp [sgn1, sgnsL, fitB, signN, List.find?, *]
    by_cases h14 : c = 44; · subst h14; simp [sgn1, sgnsL, fitB, signN, List.find?, *]
    by_cases h15 : c = 59; · subst h15; simp [sgn1, sgnsL, fitB, signN, List.find?, *]
    simp [sgn1, sgnsL, fitB, signN, List.find?, *, beq_eq_false_iff_ne.2 h1, beq_eq_false_iff_ne.2 h2, beq_eq_false_iff_ne.2 h3, beq_eq_false_iff_ne.2 h4, beq_eq_false_iff_ne.2 h5, beq_eq_false_iff_ne.2 h6, beq_eq_false_iff_ne.2 h7, beq_eq_false_iff_ne.2 h8, beq_eq_false_iff_ne.2 h9, beq_eq_false_iff_ne.2 h10, beq_eq_false_iff_ne.2 h11, beq_eq_false_iff_ne.2 h12, beq_eq_false_iff_ne.2 h13, beq_eq_false_iff_ne.2 h14, beq_eq_false_iff_ne.2 h15])
theorem sgn_eq (t : List UInt8) : sgn1 t sgnsL = signN t := by
  match t with
  | [] => decide
  | [c] => exact sgn_one c
  | c :: d :: t => exact sgn_two c d t
end Go.Proofs.YtacaaiiooedgjaaDoor.lex
end

/-
  Of 'cantileverlaw02': the document's answer: the token that stands at a place.
-/
section
set_option linter.unusedVariables false
set_option linter.unusedSimpArgs false
namespace Go.Proofs.YtacaaiiooedgjaaDoor.lex
open Go.Abs Go.RowKit
set_option maxRecDepth 100000
set_option maxHeartbeats 4000000

def resB : AHeap := [⟨true, 0, 0, .cells [.int .i64 0, .str [], .int .i64 0, .int .i64 0] 30⟩]
def noTok : AV := .tuple [.agg [.int .i64 0, .str [], .int .i64 0, .int .i64 0], .bool false]
def oneR (s : List UInt8) (k : Nat) : AV := match tok1 (s.drop k) with
  | none => noTok
  | some (kind, len, num) => .tuple [.agg [.int .i64 kind, .str ((s.drop k).take len), .int .i64 num, .int .i64 k], .bool true]
theorem spanN_at {p : Int → Bool} {s : List UInt8} {e : Nat} (h : e < s.length) : spanN p (s.drop e) = if p s[e].toNat then spanN p (s.drop (e + 1)) + 1 else 0 := by
  rw [List.drop_eq_getElem_cons h]
  cases hp : p s[e].toNat with
  | true => rw [spanN_true _ hp]; rfl
  | false => rw [spanN_false _ hp]; rfl
theorem spanN_end {p : Int → Bool} {s : List UInt8} {e : Nat} (h : ¬ e < s.length) : spanN p (s.drop e) = 0 := by
  rw [List.drop_eq_nil_of_le (by omega)]; rfl
theorem let_not_dig {n : Int} (h : letB n = true) : digB n = false := by
  simp only [letB, digB, Bool.or_eq_true, Bool.and_eq_true, decide_eq_true_eq, Bool.and_eq_false_iff, decide_eq_false_iff_not] at *; omega
theorem wordN_let {s : List UInt8} {k : Nat} (hk : k < s.length) : wordN (s.drop k) = if letB s[k].toNat then spanN worB (s.drop k) else 0 := by
  rw [List.drop_eq_getElem_cons hk]; rfl

theorem one_word {s : List UInt8} {k : Nat} (hs : s.length ≤ 65536) (hk : k < s.length) (hl : letB s[k].toNat = true) : ValOK Tryd.prog runLives.gl 21 [.str s, .int .i64 k] (oneR s k) := by
  have hx : s[k]? = some s[k] := by simp [hk]
  have hw : wordN (s.drop k) = spanN worB (s.drop k) := by rw [wordN_let hk, if_pos hl]
  have hw0 : 0 < wordN (s.drop k) := by rw [hw, spanN_at hk]; simp [worB, hl]
  have ht : tok1 (s.drop k) = some (if keysL.contains ((s.drop k).take (wordN (s.drop k))) then 2 else 1, wordN (s.drop k), 0) := by unfold tok1; rw [if_pos hw0]
  refine fn_val follows noNum F7_sound Tryd.func21 rfl ?_
  repeat' ((conv => whnf); first | with_reducible refine ixS _ rfl hx ?_ | (first | (with_reducible refine condT ?_ ?_; (focus ((first | assumption | decide | (simp; done) | (simp; omega)); done))) | (with_reducible refine condF ?_ ?_; (focus ((first | assumption | decide | (simp; done) | (simp; omega)); done))) | with_reducible refine condB (fun h => ?_) (fun h => ?_) | with_reducible refine exI rfl ?_ | with_reducible refine eqR rfl ?_ | (with_reducible refine exW (wrapN1 ?_) ?_; (focus (omega))) | (with_reducible refine exW (wrapN ?_) ?_; (focus (omega))) | (with_reducible refine exW (wrapB ?_ ?_) ?_; (focus (omega)); (focus (omega))) | with_reducible refine exW rfl ?_ | (with_reducible refine ixJ _ rfl ?_ ?_; (focus ((first | decide | omega | (simp; done) | (simp; omega)); done))) | (with_reducible refine ixJ' _ rfl ?_ ?_; (focus ((first | decide | omega | (simp; done) | (simp; omega)); done))) | (refine ixJ (Int.toNat _) ?_ ?_ ?_; (focus ((first | rfl | decide | omega | (simp; done)); done)); (focus ((first | decide | omega | (simp; done) | (simp; omega)); done))) | (refine ixJ' (Int.toNat _) ?_ ?_ ?_; (focus ((first | rfl | decide | omega | (simp; done)); done)); (focus ((first | decide | omega | (simp; done) | (simp; omega)); done))) | with_reducible refine ixS _ rfl (by assumption) ?_ | (with_reducible refine shlI ?_ ?_; (focus (first | decide | omega))) | (refine exI (callZ rfl rfl (if_pos ?_)) ?_; (focus ((first | decide | omega | (simp; done) | (simp; omega)); done)))))
  conv => whnf
  refine ⟨Nat, (fun e => e ≤ s.length ∧ k ≤ e ∧ spanN worB (s.drop k) = (e - k) + spanN worB (s.drop e)), (fun e => [(0, .str s), (1, .int .i64 k), (4, .ptr 0 0), (6, .int .i64 e)]), (fun _ => resB), (fun e => s.length - e), ⟨k, ⟨by omega, by omega, by omega⟩, FgL.mk [0] rfl ⟨Wk.noref rfl, Wk.int rfl, Wk.ptr rfl rfl, Wk.int rfl, trivial⟩ ⟨⟨rfl, rfl, rfl, rfl, BodyGe.pre (rest := []) rfl rfl⟩, trivial⟩ rfl⟩, ?_⟩
  intro e ⟨he, hke, hsp⟩
  by_cases hlt : e < s.length
  · have e1 : decide ((e : Int) < (s.length : Int)) = true := by simpa using hlt
    have hy : s[e]? = some s[e] := by simp [hlt]
    have hat := spanN_at (p := worB) hlt
    cases hp : worB s[e].toNat with
    | true =>
      rw [hp, if_pos rfl] at hat
      repeat' ((conv => whnf); first | with_reducible refine ixS _ rfl hy ?_ | (first | (with_reducible refine condT ?_ ?_; (focus ((first | assumption | decide | (simp; done) | (simp; omega)); done))) | (with_reducible refine condF ?_ ?_; (focus ((first | assumption | decide | (simp; done) | (simp; omega)); done))) | with_reducible refine condB (fun h => ?_) (fun h => ?_) | with_reducible refine exI rfl ?_ | with_reducible refine eqR rfl ?_ | (with_reducible refine exW (wrapN1 ?_) ?_; (focus (omega))) | (with_reducible refine exW (wrapN ?_) ?_; (focus (omega))) | (with_reducible refine exW (wrapB ?_ ?_) ?_; (focus (omega)); (focus (omega))) | with_reducible refine exW rfl ?_ | (with_reducible refine ixJ _ rfl ?_ ?_; (focus ((first | decide | omega | (simp; done) | (simp; omega)); done))) | (with_reducible refine ixJ' _ rfl ?_ ?_; (focus ((first | decide | omega | (simp; done) | (simp; omega)); done))) | (refine ixJ (Int.toNat _) ?_ ?_ ?_; (focus ((first | rfl | decide | omega | (simp; done)); done)); (focus ((first | decide | omega | (simp; done) | (simp; omega)); done))) | (refine ixJ' (Int.toNat _) ?_ ?_ ?_; (focus ((first | rfl | decide | omega | (simp; done)); done)); (focus ((first | decide | omega | (simp; done) | (simp; omega)); done))) | with_reducible refine ixS _ rfl (by assumption) ?_ | (with_reducible refine shlI ?_ ?_; (focus (first | decide | omega))) | (refine exI (callZ rfl rfl (if_pos ?_)) ?_; (focus ((first | decide | omega | (simp; done) | (simp; omega)); done)))))
      all_goals (first | (exfalso; simp_all [worB]; done) | skip)
      all_goals (conv => whnf)
      all_goals exact ⟨e + 1, ⟨hlt, by omega, by omega⟩, by show s.length - (e + 1) < s.length - e; omega, FgL.mk [0] rfl ⟨Wk.noref rfl, Wk.int rfl, Wk.ptr rfl rfl, Wk.int rfl, trivial⟩ ⟨⟨rfl, rfl, rfl, rfl, BodyGe.pre (rest := []) rfl rfl⟩, trivial⟩ rfl⟩
    | false =>
      rw [hp, if_neg (by decide)] at hat
      have hn : e - k = wordN (s.drop k) := by omega
      repeat' ((conv => whnf); first | with_reducible refine ixS _ rfl hy ?_ | (first | (with_reducible refine condT ?_ ?_; (focus ((first | assumption | decide | (simp; done) | (simp; omega)); done))) | (with_reducible refine condF ?_ ?_; (focus ((first | assumption | decide | (simp; done) | (simp; omega)); done))) | with_reducible refine condB (fun h => ?_) (fun h => ?_) | with_reducible refine exI rfl ?_ | with_reducible refine eqR rfl ?_ | (with_reducible refine exW (wrapN1 ?_) ?_; (focus (omega))) | (with_reducible refine exW (wrapN ?_) ?_; (focus (omega))) | (with_reducible refine exW (wrapB ?_ ?_) ?_; (focus (omega)); (focus (omega))) | with_reducible refine exW rfl ?_ | (with_reducible refine ixJ _ rfl ?_ ?_; (focus ((first | decide | omega | (simp; done) | (simp; omega)); done))) | (with_reducible refine ixJ' _ rfl ?_ ?_; (focus ((first | decide | omega | (simp; done) | (simp; omega)); done))) | (refine ixJ (Int.toNat _) ?_ ?_ ?_; (focus ((first | rfl | decide | omega | (simp; done)); done)); (focus ((first | decide | omega | (simp; done) | (simp; omega)); done))) | (refine ixJ' (Int.toNat _) ?_ ?_ ?_; (focus ((first | rfl | decide | omega | (simp; done)); done)); (focus ((first | decide | omega | (simp; done) | (simp; omega)); done))) | with_reducible refine ixS _ rfl (by assumption) ?_ | (with_reducible refine shlI ?_ ?_; (focus (first | decide | omega))) | (refine exI (callZ rfl rfl (if_pos ?_)) ?_; (focus ((first | decide | omega | (simp; done) | (simp; omega)); done)))))
      all_goals (first | (exfalso; simp_all [worB]; done) | skip)
      all_goals (unfold oneR; rw [ht]; simp only [hn]; try rfl)
      all_goals (split <;> rfl)
  · have e1 : decide ((e : Int) < (s.length : Int)) = false := by simpa using hlt
    have hat := spanN_end (p := worB) hlt
    have hn : e - k = wordN (s.drop k) := by omega
    repeat' ((conv => whnf); first | (with_reducible refine condT ?_ ?_; (focus ((first | assumption | decide | (simp; done) | (simp; omega)); done))) | (with_reducible refine condF ?_ ?_; (focus ((first | assumption | decide | (simp; done) | (simp; omega)); done))) | with_reducible refine condB (fun h => ?_) (fun h => ?_) | with_reducible refine exI rfl ?_ | with_reducible refine eqR rfl ?_ | (with_reducible refine exW (wrapN1 ?_) ?_; (focus (omega))) | (with_reducible refine exW (wrapN ?_) ?_; (focus (omega))) | (with_reducible refine exW (wrapB ?_ ?_) ?_; (focus (omega)); (focus (omega))) | with_reducible refine exW rfl ?_ | (with_reducible refine ixJ _ rfl ?_ ?_; (focus ((first | decide | omega | (simp; done) | (simp; omega)); done))) | (with_reducible refine ixJ' _ rfl ?_ ?_; (focus ((first | decide | omega | (simp; done) | (simp; omega)); done))) | (refine ixJ (Int.toNat _) ?_ ?_ ?_; (focus ((first | rfl | decide | omega | (simp; done)); done)); (focus ((first | decide | omega | (simp; done) | (simp; omega)); done))) | (refine ixJ' (Int.toNat _) ?_ ?_ ?_; (focus ((first | rfl | decide | omega | (simp; done)); done)); (focus ((first | decide | omega | (simp; done) | (simp; omega)); done))) | with_reducible refine ixS _ rfl (by assumption) ?_ | (with_reducible refine shlI ?_ ?_; (focus (first | decide | omega))) | (refine exI (callZ rfl rfl (if_pos ?_)) ?_; (focus ((first | decide | omega | (simp; done) | (simp; omega)); done))))
    unfold oneR; rw [ht]; simp only [hn]; split <;> rfl

def sgnB : AHeap := [⟨true, 0, 0, .cells [.int .i64 0, .str [], .int .i64 0, .int .i64 0] 30⟩, ⟨true, 1, 0, .cells (sgnsL.map AV.str) 9⟩]
theorem dig_no_sign {c : UInt8} (h : digB c.toNat = true) (t : List UInt8) : signN (c :: t) = 0 := by
  have hc : 48 ≤ c.toNat ∧ c.toNat ≤ 57 := by simp [digB] at h; omega
  have ne : ∀ d : UInt8, (d.toNat < 48 ∨ 57 < d.toNat) → c ≠ d := fun d hd e => by subst e; omega
  have hm : [124,38,61,33,60,43,45,42,94,40,41,123,125,44,59].contains c = false := by
    rw [Bool.eq_false_iff]
    intro hc
    rw [List.contains_iff_mem] at hc
    simp only [List.mem_cons, List.not_mem_nil, or_false] at hc
    rcases hc with h | h | h | h | h | h | h | h | h | h | h | h | h | h | h <;> exact ne _ (by decide) h
  match t with
  | [] => simp only [signN]; rw [hm]; rfl
  | d :: t =>
    simp only [signN]
    rw [if_neg (by
      rintro (⟨_, h | h | h⟩ | ⟨_, h | h⟩) <;> exact ne _ (by decide) h), hm]; rfl
theorem valN_ge (l : List UInt8) (h0 : l.head? ≠ some 48) (hd : ∀ c ∈ l, digB c.toNat = true) : ∀ k, k + 1 ≤ l.length → 10 ^ k ≤ valN (l.take (k + 1))
  | 0, h => by
    cases l with
    | nil => simp at h
    | cons c t =>
      have h3 := hd c (by simp)
      simp only [digB, Bool.and_eq_true, decide_eq_true_eq] at h3
      have h4 : c.toNat ≠ 48 := fun e => h0 (by
        have : c = 48 := UInt8.toNat_inj.1 e
        subst this; rfl)
      simp [valN]; omega
  | k + 1, h => by
    have h1 := valN_ge l h0 hd k (by omega)
    have h2 := valN_snoc l (k + 1) h
    rw [h2, Nat.pow_succ]; omega
theorem valN_big {l : List UInt8} (h0 : l.head? ≠ some 48) (hd : ∀ c ∈ l, digB c.toNat = true) (h : 19 < l.length) : ¬ valN l < 9223372036854775808 := by
  have h1 := valN_ge l h0 hd (l.length - 1) (by omega)
  have e : l.length - 1 + 1 = l.length := by omega
  rw [e, List.take_length] at h1
  have h2 : 10 ^ 19 ≤ 10 ^ (l.length - 1) := Nat.pow_le_pow_right (by decide) (by omega)
  omega
theorem head_take {s : List UInt8} {n : Nat} (h : 0 < n) : (s.take n).head? = s.head? := by
  cases s with
  | nil => simp
  | cons c t => cases n with | zero => omega | succ n => rfl
def tailB (s : List UInt8) (n : Nat) : Bool := match s[n]? with | some c => letB c.toNat || c == 95 | none => false
theorem numN_eq (s : List UInt8) : numN s = if spanN digB s = 0 ∨ (1 < spanN digB s ∧ s.head? = some 48) ∨ tailB s (spanN digB s) = true ∨ ¬ valN (s.take (spanN digB s)) < 9223372036854775808 then (0, 0) else (spanN digB s, valN (s.take (spanN digB s))) := rfl
theorem one_dig {s : List UInt8} {k : Nat} (hs : s.length ≤ 65536) (hk : k < s.length) (hl : letB s[k].toNat = false) (hd : digB s[k].toNat = true) : ValOK Tryd.prog runLives.gl 21 [.str s, .int .i64 k] (oneR s k) := by
  have hx : s[k]? = some s[k] := by simp [hk]
  have hdr := List.drop_eq_getElem_cons hk
  have hw : wordN (s.drop k) = 0 := by rw [wordN_let hk, hl]; rfl
  have hsg : signN (s.drop k) = 0 := by rw [hdr]; exact dig_no_sign hd _
  have hn0 : 0 < spanN digB (s.drop k) := by rw [spanN_at hk, hd, if_pos rfl]; omega
  have hle := spanN_le digB (s.drop k)
  have hdl : (s.drop k).length = s.length - k := List.length_drop
  have hdg := digs_span (s := s.drop k) (by omega) hn0
  have htl : ((s.drop k).take (spanN digB (s.drop k))).length = spanN digB (s.drop k) := by rw [List.length_take]; omega
  have hhd : ((s.drop k).take (spanN digB (s.drop k))).head? = (s.drop k).head? := head_take hn0
  have hne := numN_eq (s.drop k)
  have hy : (s.drop k)[spanN digB (s.drop k)]? = s[k + spanN digB (s.drop k)]? := by simp
  have e0 : F7 35 [.str ((s.drop k).take (spanN digB (s.drop k)))] = some (numR ((s.drop k).take (spanN digB (s.drop k)))) := by
    simp only [F7]; rw [if_pos]; simp only [hdg, Bool.true_and, decide_eq_true_eq]; omega
  have hb : hasBody Tryd.prog 35 = true := by kernel_rfl
  refine fn_val follows noNum F7_sound Tryd.func21 rfl ?_
  repeat' ((conv => whnf); first | with_reducible refine ixS _ rfl hx ?_ | (first | (with_reducible refine condT ?_ ?_; (focus ((first | assumption | decide | (simp; done) | (simp; omega)); done))) | (with_reducible refine condF ?_ ?_; (focus ((first | assumption | decide | (simp; done) | (simp; omega)); done))) | with_reducible refine condB (fun h => ?_) (fun h => ?_) | with_reducible refine exI rfl ?_ | with_reducible refine eqR rfl ?_ | (with_reducible refine exW (wrapN1 ?_) ?_; (focus (omega))) | (with_reducible refine exW (wrapN ?_) ?_; (focus (omega))) | (with_reducible refine exW (wrapB ?_ ?_) ?_; (focus (omega)); (focus (omega))) | with_reducible refine exW rfl ?_ | (with_reducible refine ixJ _ rfl ?_ ?_; (focus ((first | decide | omega | (simp; done) | (simp; omega)); done))) | (with_reducible refine ixJ' _ rfl ?_ ?_; (focus ((first | decide | omega | (simp; done) | (simp; omega)); done))) | (refine ixJ (Int.toNat _) ?_ ?_ ?_; (focus ((first | rfl | decide | omega | (simp; done)); done)); (focus ((first | decide | omega | (simp; done) | (simp; omega)); done))) | (refine ixJ' (Int.toNat _) ?_ ?_ ?_; (focus ((first | rfl | decide | omega | (simp; done)); done)); (focus ((first | decide | omega | (simp; done) | (simp; omega)); done))) | with_reducible refine ixS _ rfl (by assumption) ?_ | (with_reducible refine shlI ?_ ?_; (focus (first | decide | omega))) | (refine exI (callZ rfl rfl (if_pos ?_)) ?_; (focus ((first | decide | omega | (simp; done) | (simp; omega)); done)))))
  conv => whnf
  refine ⟨Nat, (fun e => e ≤ s.length ∧ k ≤ e ∧ spanN digB (s.drop k) = (e - k) + spanN digB (s.drop e)), (fun e => [(0, .str s), (1, .int .i64 k), (4, .ptr 0 0), (6, .int .i64 e)]), (fun _ => resB), (fun e => s.length - e), ⟨k, ⟨by omega, by omega, by omega⟩, FgL.mk [0] rfl ⟨Wk.noref rfl, Wk.int rfl, Wk.ptr rfl rfl, Wk.int rfl, trivial⟩ ⟨⟨rfl, rfl, rfl, rfl, BodyGe.pre (rest := []) rfl rfl⟩, trivial⟩ rfl⟩, ?_⟩
  intro e ⟨he, hke, hsp⟩
  generalize hnn : spanN digB (s.drop k) = n at *
  generalize hxx : (s.drop k).take n = x at *
  have hdx := digs_of hdg
  have hcs : (∃ w, numR x = .tuple [.int .i64 w, .bool false] ∧ tok1 (s.drop k) = none) ∨ (∃ v : Nat, numR x = .tuple [.int .i64 v, .bool true] ∧ tok1 (s.drop k) = if tailB (s.drop k) n then none else some (3, n, v)) := by
    have t1 : (numN (s.drop k)).1 = 0 → tok1 (s.drop k) = none := fun h => by unfold tok1; rw [if_neg (by omega), if_neg (by omega), if_neg (by omega)]
    by_cases hbad : (1 < x.length ∧ x.head? = some 48) ∨ 19 < x.length
    · refine .inl ⟨0, by unfold numR; rw [if_pos hbad], t1 ?_⟩
      rw [hne, if_pos]
      by_cases hz : 1 < x.length ∧ x.head? = some 48
      · exact .inr (.inl (by rw [← htl, ← hhd]; exact hz))
      · have h19 : 19 < x.length := by rcases hbad with h | h; exact absurd h hz; exact h
        exact .inr (.inr (.inr (valN_big (fun h => hz ⟨by omega, h⟩) hdx.2.2 h19)))
    · by_cases hv : valN x < 9223372036854775808
      · have dv : decide ((valN x : Int) < 9223372036854775808) = true := by simp; omega
        refine .inr ⟨valN x, by unfold numR; rw [if_neg hbad, IntWalk.i64_in _ ⟨by omega, by omega⟩, dv], ?_⟩
        by_cases htB : tailB (s.drop k) n = true
        · rw [if_pos htB]; exact t1 (by rw [hne, if_pos (.inr (.inr (.inl htB)))])
        · rw [if_neg htB]
          have e2 : numN (s.drop k) = (n, valN x) := by
            rw [hne, if_neg]
            rintro (h | h | h | h)
            · omega
            · rw [← htl, ← hhd] at h; exact hbad (.inl h)
            · exact htB h
            · exact h hv
          unfold tok1; rw [if_neg (by omega), e2, if_pos hn0]
      · have dv : decide ((valN x : Int) < 9223372036854775808) = false := by simp; omega
        refine .inl ⟨IntKind.i64.wrap (valN x), by unfold numR; rw [if_neg hbad, dv], t1 (by rw [hne, if_pos (.inr (.inr (.inr hv)))])⟩
  by_cases hlt : e < s.length
  · have e1 : decide ((e : Int) < (s.length : Int)) = true := by simpa using hlt
    have hye : s[e]? = some s[e] := by simp [hlt]
    have hat := spanN_at (p := digB) hlt
    cases hp : digB s[e].toNat with
    | true =>
      rw [hp, if_pos rfl] at hat
      clear hcs hy hne hdg e0 hdx hxx htl
      repeat' ((conv => whnf); first | with_reducible refine ixS _ rfl hye ?_ | (first | (with_reducible refine condT ?_ ?_; (focus ((first | assumption | decide | (simp; done) | (simp; omega)); done))) | (with_reducible refine condF ?_ ?_; (focus ((first | assumption | decide | (simp; done) | (simp; omega)); done))) | with_reducible refine condB (fun h => ?_) (fun h => ?_) | with_reducible refine exI rfl ?_ | with_reducible refine eqR rfl ?_ | (with_reducible refine exW (wrapN1 ?_) ?_; (focus (omega))) | (with_reducible refine exW (wrapN ?_) ?_; (focus (omega))) | (with_reducible refine exW (wrapB ?_ ?_) ?_; (focus (omega)); (focus (omega))) | with_reducible refine exW rfl ?_ | (with_reducible refine ixJ _ rfl ?_ ?_; (focus ((first | decide | omega | (simp; done) | (simp; omega)); done))) | (with_reducible refine ixJ' _ rfl ?_ ?_; (focus ((first | decide | omega | (simp; done) | (simp; omega)); done))) | (refine ixJ (Int.toNat _) ?_ ?_ ?_; (focus ((first | rfl | decide | omega | (simp; done)); done)); (focus ((first | decide | omega | (simp; done) | (simp; omega)); done))) | (refine ixJ' (Int.toNat _) ?_ ?_ ?_; (focus ((first | rfl | decide | omega | (simp; done)); done)); (focus ((first | decide | omega | (simp; done) | (simp; omega)); done))) | with_reducible refine ixS _ rfl (by assumption) ?_ | (with_reducible refine shlI ?_ ?_; (focus (first | decide | omega))) | (refine exI (callZ rfl rfl (if_pos ?_)) ?_; (focus ((first | decide | omega | (simp; done) | (simp; omega)); done)))))
      conv => whnf
      exact ⟨e + 1, ⟨hlt, by omega, by omega⟩, by show s.length - (e + 1) < s.length - e; omega, FgL.mk [0] rfl ⟨Wk.noref rfl, Wk.int rfl, Wk.ptr rfl rfl, Wk.int rfl, trivial⟩ ⟨⟨rfl, rfl, rfl, rfl, BodyGe.pre (rest := []) rfl rfl⟩, trivial⟩ rfl⟩
    | false =>
      rw [hp, if_neg (by decide)] at hat
      have hn : n = e - k := by omega
      have hke' : k + n = e := by omega
      have hxe : (s.drop k).take (e - k) = x := by rw [← hn]; exact hxx
      have htl2 : tailB (s.drop k) n = (letB s[e].toNat || s[e] == 95) := by unfold tailB; rw [hy, hke', hye]
      have u1 := u8_eq s[e] 95 (by decide)
      have e0' : F7 35 [.str ((s.drop k).take (e - k))] = some (numR x) := by rw [hxe]; exact e0
      rcases hcs with ⟨w, h1, h2⟩ | ⟨v, h1, h2⟩
      · rw [h1] at e0'
        clear hy hne hdg e0 hdx htl htl2 u1 hx
        repeat' ((conv => whnf); first | with_reducible refine ixS _ rfl hye ?_ | with_reducible refine exI (callZ hb rfl e0') ?_ | (first | (with_reducible refine condT ?_ ?_; (focus ((first | assumption | decide | (simp; done) | (simp; omega)); done))) | (with_reducible refine condF ?_ ?_; (focus ((first | assumption | decide | (simp; done) | (simp; omega)); done))) | with_reducible refine condB (fun h => ?_) (fun h => ?_) | with_reducible refine exI rfl ?_ | with_reducible refine eqR rfl ?_ | (with_reducible refine exW (wrapN1 ?_) ?_; (focus (omega))) | (with_reducible refine exW (wrapN ?_) ?_; (focus (omega))) | (with_reducible refine exW (wrapB ?_ ?_) ?_; (focus (omega)); (focus (omega))) | with_reducible refine exW rfl ?_ | (with_reducible refine ixJ _ rfl ?_ ?_; (focus ((first | decide | omega | (simp; done) | (simp; omega)); done))) | (with_reducible refine ixJ' _ rfl ?_ ?_; (focus ((first | decide | omega | (simp; done) | (simp; omega)); done))) | (refine ixJ (Int.toNat _) ?_ ?_ ?_; (focus ((first | rfl | decide | omega | (simp; done)); done)); (focus ((first | decide | omega | (simp; done) | (simp; omega)); done))) | (refine ixJ' (Int.toNat _) ?_ ?_ ?_; (focus ((first | rfl | decide | omega | (simp; done)); done)); (focus ((first | decide | omega | (simp; done) | (simp; omega)); done))) | with_reducible refine ixS _ rfl (by assumption) ?_ | (with_reducible refine shlI ?_ ?_; (focus (first | decide | omega))) | (refine exI (callZ rfl rfl (if_pos ?_)) ?_; (focus ((first | decide | omega | (simp; done) | (simp; omega)); done)))))
        unfold oneR; rw [h2]; rfl
      · rw [h1] at e0'
        rw [htl2] at h2
        clear hy hne hdg e0 hdx htl htl2 hx
        repeat' ((conv => whnf); first | with_reducible refine ixS _ rfl hye ?_ | with_reducible refine exI (callZ hb rfl e0') ?_ | (first | (with_reducible refine condT ?_ ?_; (focus ((first | assumption | decide | (simp; done) | (simp; omega)); done))) | (with_reducible refine condF ?_ ?_; (focus ((first | assumption | decide | (simp; done) | (simp; omega)); done))) | with_reducible refine condB (fun h => ?_) (fun h => ?_) | with_reducible refine exI rfl ?_ | with_reducible refine eqR rfl ?_ | (with_reducible refine exW (wrapN1 ?_) ?_; (focus (omega))) | (with_reducible refine exW (wrapN ?_) ?_; (focus (omega))) | (with_reducible refine exW (wrapB ?_ ?_) ?_; (focus (omega)); (focus (omega))) | with_reducible refine exW rfl ?_ | (with_reducible refine ixJ _ rfl ?_ ?_; (focus ((first | decide | omega | (simp; done) | (simp; omega)); done))) | (with_reducible refine ixJ' _ rfl ?_ ?_; (focus ((first | decide | omega | (simp; done) | (simp; omega)); done))) | (refine ixJ (Int.toNat _) ?_ ?_ ?_; (focus ((first | rfl | decide | omega | (simp; done)); done)); (focus ((first | decide | omega | (simp; done) | (simp; omega)); done))) | (refine ixJ' (Int.toNat _) ?_ ?_ ?_; (focus ((first | rfl | decide | omega | (simp; done)); done)); (focus ((first | decide | omega | (simp; done) | (simp; omega)); done))) | with_reducible refine ixS _ rfl (by assumption) ?_ | (with_reducible refine shlI ?_ ?_; (focus (first | decide | omega))) | (refine exI (callZ rfl rfl (if_pos ?_)) ?_; (focus ((first | decide | omega | (simp; done) | (simp; omega)); done)))))
        · unfold oneR; rw [h2, if_pos (by simp_all)]; rfl
        · unfold oneR; rw [h2, if_pos (by simp_all)]; rfl
        · unfold oneR; rw [h2, if_neg (by simp_all)]; simp only [hn]; rfl
  · have e1 : decide ((e : Int) < (s.length : Int)) = false := by simpa using hlt
    have hat := spanN_end (p := digB) hlt
    have hn : n = e - k := by omega
    have hxe : (s.drop k).take (e - k) = x := by rw [← hn]; exact hxx
    have htl2 : tailB (s.drop k) n = false := by unfold tailB; rw [hy, List.getElem?_eq_none (by omega)]
    have e0' : F7 35 [.str ((s.drop k).take (e - k))] = some (numR x) := by rw [hxe]; exact e0
    rcases hcs with ⟨w, h1, h2⟩ | ⟨v, h1, h2⟩
    · rw [h1] at e0'
      clear hy hne hdg e0 hdx htl htl2 hx
      repeat' ((conv => whnf); first | with_reducible refine exI (callZ hb rfl e0') ?_ | (first | (with_reducible refine condT ?_ ?_; (focus ((first | assumption | decide | (simp; done) | (simp; omega)); done))) | (with_reducible refine condF ?_ ?_; (focus ((first | assumption | decide | (simp; done) | (simp; omega)); done))) | with_reducible refine condB (fun h => ?_) (fun h => ?_) | with_reducible refine exI rfl ?_ | with_reducible refine eqR rfl ?_ | (with_reducible refine exW (wrapN1 ?_) ?_; (focus (omega))) | (with_reducible refine exW (wrapN ?_) ?_; (focus (omega))) | (with_reducible refine exW (wrapB ?_ ?_) ?_; (focus (omega)); (focus (omega))) | with_reducible refine exW rfl ?_ | (with_reducible refine ixJ _ rfl ?_ ?_; (focus ((first | decide | omega | (simp; done) | (simp; omega)); done))) | (with_reducible refine ixJ' _ rfl ?_ ?_; (focus ((first | decide | omega | (simp; done) | (simp; omega)); done))) | (refine ixJ (Int.toNat _) ?_ ?_ ?_; (focus ((first | rfl | decide | omega | (simp; done)); done)); (focus ((first | decide | omega | (simp; done) | (simp; omega)); done))) | (refine ixJ' (Int.toNat _) ?_ ?_ ?_; (focus ((first | rfl | decide | omega | (simp; done)); done)); (focus ((first | decide | omega | (simp; done) | (simp; omega)); done))) | with_reducible refine ixS _ rfl (by assumption) ?_ | (with_reducible refine shlI ?_ ?_; (focus (first | decide | omega))) | (refine exI (callZ rfl rfl (if_pos ?_)) ?_; (focus ((first | decide | omega | (simp; done) | (simp; omega)); done)))))
      unfold oneR; rw [h2]; rfl
    · rw [h1] at e0'
      rw [htl2] at h2
      clear hy hne hdg e0 hdx htl htl2 hx
      repeat' ((conv => whnf); first | with_reducible refine exI (callZ hb rfl e0') ?_ | (first | (with_reducible refine condT ?_ ?_; (focus ((first | assumption | decide | (simp; done) | (simp; omega)); done))) | (with_reducible refine condF ?_ ?_; (focus ((first | assumption | decide | (simp; done) | (simp; omega)); done))) | with_reducible refine condB (fun h => ?_) (fun h => ?_) | with_reducible refine exI rfl ?_ | with_reducible refine eqR rfl ?_ | (with_reducible refine exW (wrapN1 ?_) ?_; (focus (omega))) | (with_reducible refine exW (wrapN ?_) ?_; (focus (omega))) | (with_reducible refine exW (wrapB ?_ ?_) ?_; (focus (omega)); (focus (omega))) | with_reducible refine exW rfl ?_ | (with_reducible refine ixJ _ rfl ?_ ?_; (focus ((first | decide | omega | (simp; done) | (simp; omega)); done))) | (with_reducible refine ixJ' _ rfl ?_ ?_; (focus ((first | decide | omega | (simp; done) | (simp; omega)); done))) | (refine ixJ (Int.toNat _) ?_ ?_ ?_; (focus ((first | rfl | decide | omega | (simp; done)); done)); (focus ((first | decide | omega | (simp; done) | (simp; omega)); done))) | (refine ixJ' (Int.toNat _) ?_ ?_ ?_; (focus ((first | rfl | decide | omega | (simp; done)); done)); (focus ((first | decide | omega | (simp; done) | (simp; omega)); done))) | with_reducible refine ixS _ rfl (by assumption) ?_ | (with_reducible refine shlI ?_ ?_; (focus (first | decide | omega))) | (refine exI (callZ rfl rfl (if_pos ?_)) ?_; (focus ((first | decide | omega | (simp; done) | (simp; omega)); done)))))
      unfold oneR; rw [h2]; simp only [hn]; rfl
theorem one_sign {s : List UInt8} {k : Nat} (hs : s.length ≤ 65536) (hk : k < s.length) (hl : letB s[k].toNat = false) (hd : digB s[k].toNat = false) : ValOK Tryd.prog runLives.gl 21 [.str s, .int .i64 k] (oneR s k) := by
  have hx : s[k]? = some s[k] := by simp [hk]
  have hw : wordN (s.drop k) = 0 := by rw [wordN_let hk, hl]; rfl
  have hn : (numN (s.drop k)).1 = 0 := by unfold numN; rw [if_pos]; exact .inl (by rw [spanN_at hk, hd]; rfl)
  have ht : tok1 (s.drop k) = if 0 < signN (s.drop k) then some (4, signN (s.drop k), 0) else none := by unfold tok1; rw [if_neg (by omega), if_neg (by omega)]
  refine fn_valI (fun g => !Nat.beq g 36) 2 follows noNum F7_sound Tryd.func21 rfl ?_
  repeat' ((conv => whnf); first | with_reducible refine ixS _ rfl hx ?_ | (first | (with_reducible refine condT ?_ ?_; (focus ((first | assumption | decide | (simp; done) | (simp; omega)); done))) | (with_reducible refine condF ?_ ?_; (focus ((first | assumption | decide | (simp; done) | (simp; omega)); done))) | with_reducible refine condB (fun h => ?_) (fun h => ?_) | with_reducible refine exI rfl ?_ | with_reducible refine eqR rfl ?_ | (with_reducible refine exW (wrapN1 ?_) ?_; (focus (omega))) | (with_reducible refine exW (wrapN ?_) ?_; (focus (omega))) | (with_reducible refine exW (wrapB ?_ ?_) ?_; (focus (omega)); (focus (omega))) | with_reducible refine exW rfl ?_ | (with_reducible refine ixJ _ rfl ?_ ?_; (focus ((first | decide | omega | (simp; done) | (simp; omega)); done))) | (with_reducible refine ixJ' _ rfl ?_ ?_; (focus ((first | decide | omega | (simp; done) | (simp; omega)); done))) | (refine ixJ (Int.toNat _) ?_ ?_ ?_; (focus ((first | rfl | decide | omega | (simp; done)); done)); (focus ((first | decide | omega | (simp; done) | (simp; omega)); done))) | (refine ixJ' (Int.toNat _) ?_ ?_ ?_; (focus ((first | rfl | decide | omega | (simp; done)); done)); (focus ((first | decide | omega | (simp; done) | (simp; omega)); done))) | with_reducible refine ixS _ rfl (by assumption) ?_ | (with_reducible refine shlI ?_ ?_; (focus (first | decide | omega))) | (refine exI (callZ rfl rfl (if_pos ?_)) ?_; (focus ((first | decide | omega | (simp; done) | (simp; omega)); done)))))
  conv => whnf
  refine ⟨Nat, (fun i => i ≤ 20 ∧ signN (s.drop k) = sgn1 (s.drop k) (sgnsL.drop i)), (fun i => [(0, .str s), (1, .int .i64 k), (4, .ptr 0 0), (9, .slice 1 0 20 20 1), (10, .int .i64 i)]), (fun _ => sgnB), (fun i => 20 - i), ⟨0, ⟨by omega, (sgn_eq _).symm⟩, ?_⟩, ?_⟩
  · refine FgL.mk [0, 1] rfl ?_ ?_ rfl
    · exact ⟨Wk.noref rfl, Wk.int rfl, Wk.ptr rfl rfl, Wk.slice rfl rfl rfl (Nat.le_refl _) (Nat.le_refl _) rfl, Wk.int rfl, trivial⟩
    · exact ⟨⟨rfl, rfl, rfl, rfl, BodyGe.pre (rest := []) rfl rfl⟩, ⟨rfl, rfl, rfl, rfl, BodyGe.pre (rest := []) rfl rfl⟩, trivial⟩
  intro i ⟨hi, hsg⟩
  by_cases hlt : i < 20
  · have e1 : decide ((i : Int) < 20) = true := by simp; omega
    have hlk : i < sgnsL.length := hlt
    have hdr : sgnsL.drop i = sgnsL[i] :: sgnsL.drop (i + 1) := List.drop_eq_getElem_cons hlk
    have hl2 : sgnsL[i].length ≤ 2 ∧ 0 < sgnsL[i].length := by
      have h : (sgnsL.all fun p => decide (p.length ≤ 2 ∧ 0 < p.length)) = true := by decide
      simpa using List.all_eq_true.1 h _ (List.getElem_mem hlk)
    have hdl : (s.drop k).length = s.length - k := List.length_drop
    have hcell : (sgnsL.map AV.str)[i]? = some (.str sgnsL[i]) := by simp [hlk]
    generalize sgnsL[i] = p at *
    by_cases hfit : fitB (s.drop k) p = true
    · have hpl : p.length ≤ s.length - k := by
        have := congrArg List.length (eq_of_beq hfit)
        rw [List.length_take] at this; omega
      have d1 : decide ((s.length : Int) - (k : Int) ≥ (p.length : Int)) = true := by simp; omega
      have d2 : (List.take (k + p.length - k) (List.drop k s) == p) = true := by rw [Nat.add_sub_cancel_left]; exact hfit
      have hsn : signN (s.drop k) = p.length := by rw [hsg, hdr, sgn1, List.find?, hfit]
      have htk : (s.drop k).take p.length = p := eq_of_beq hfit
      repeat' ((conv => whnf); first | (with_reducible refine exI (tk1_get (c := .str p) hcell) ?_) | (refine exI (tk1_get (c := .str p) (by simpa using hcell)) ?_) | (first | (with_reducible refine condT ?_ ?_; (focus ((first | assumption | decide | (simp; done) | (simp; omega)); done))) | (with_reducible refine condF ?_ ?_; (focus ((first | assumption | decide | (simp; done) | (simp; omega)); done))) | with_reducible refine condB (fun h => ?_) (fun h => ?_) | with_reducible refine exI rfl ?_ | with_reducible refine eqR rfl ?_ | (with_reducible refine exW (wrapN1 ?_) ?_; (focus (omega))) | (with_reducible refine exW (wrapN ?_) ?_; (focus (omega))) | (with_reducible refine exW (wrapB ?_ ?_) ?_; (focus (omega)); (focus (omega))) | with_reducible refine exW rfl ?_ | (with_reducible refine ixJ _ rfl ?_ ?_; (focus ((first | decide | omega | (simp; done) | (simp; omega)); done))) | (with_reducible refine ixJ' _ rfl ?_ ?_; (focus ((first | decide | omega | (simp; done) | (simp; omega)); done))) | (refine ixJ (Int.toNat _) ?_ ?_ ?_; (focus ((first | rfl | decide | omega | (simp; done)); done)); (focus ((first | decide | omega | (simp; done) | (simp; omega)); done))) | (refine ixJ' (Int.toNat _) ?_ ?_ ?_; (focus ((first | rfl | decide | omega | (simp; done)); done)); (focus ((first | decide | omega | (simp; done) | (simp; omega)); done))) | with_reducible refine ixS _ rfl (by assumption) ?_ | (with_reducible refine shlI ?_ ?_; (focus (first | decide | omega))) | (refine exI (callZ rfl rfl (if_pos ?_)) ?_; (focus ((first | decide | omega | (simp; done) | (simp; omega)); done)))))
      unfold oneR; rw [ht, if_pos (by omega)]; simp only [hsn, htk]; rfl
    · have d2 : (List.take (k + p.length - k) (List.drop k s) == p) = false := by rw [Nat.add_sub_cancel_left]; simpa [fitB] using hfit
      have hsn : signN (s.drop k) = sgn1 (s.drop k) (sgnsL.drop (i + 1)) := by rw [hsg, hdr, sgn1, List.find?, Bool.eq_false_iff.2 hfit]; rfl
      by_cases hpl : p.length ≤ s.length - k
      · have d1 : decide ((s.length : Int) - (k : Int) ≥ (p.length : Int)) = true := by simp; omega
        repeat' ((conv => whnf); first | (refine exI (tk1_get (c := .str p) (by simpa using hcell)) ?_) | (first | (with_reducible refine condT ?_ ?_; (focus ((first | assumption | decide | (simp; done) | (simp; omega)); done))) | (with_reducible refine condF ?_ ?_; (focus ((first | assumption | decide | (simp; done) | (simp; omega)); done))) | with_reducible refine condB (fun h => ?_) (fun h => ?_) | with_reducible refine exI rfl ?_ | with_reducible refine eqR rfl ?_ | (with_reducible refine exW (wrapN1 ?_) ?_; (focus (omega))) | (with_reducible refine exW (wrapN ?_) ?_; (focus (omega))) | (with_reducible refine exW (wrapB ?_ ?_) ?_; (focus (omega)); (focus (omega))) | with_reducible refine exW rfl ?_ | (with_reducible refine ixJ _ rfl ?_ ?_; (focus ((first | decide | omega | (simp; done) | (simp; omega)); done))) | (with_reducible refine ixJ' _ rfl ?_ ?_; (focus ((first | decide | omega | (simp; done) | (simp; omega)); done))) | (refine ixJ (Int.toNat _) ?_ ?_ ?_; (focus ((first | rfl | decide | omega | (simp; done)); done)); (focus ((first | decide | omega | (simp; done) | (simp; omega)); done))) | (refine ixJ' (Int.toNat _) ?_ ?_ ?_; (focus ((first | rfl | decide | omega | (simp; done)); done)); (focus ((first | decide | omega | (simp; done) | (simp; omega)); done))) | with_reducible refine ixS _ rfl (by assumption) ?_ | (with_reducible refine shlI ?_ ?_; (focus (first | decide | omega))) | (refine exI (callZ rfl rfl (if_pos ?_)) ?_; (focus ((first | decide | omega | (simp; done) | (simp; omega)); done)))))
        conv => whnf
        exact ⟨i + 1, ⟨hlt, hsn⟩, by show 20 - (i + 1) < 20 - i; omega, FgL.mk [0, 1] rfl ⟨Wk.noref rfl, Wk.int rfl, Wk.ptr rfl rfl, Wk.slice rfl rfl rfl (Nat.le_refl _) (Nat.le_refl _) rfl, Wk.int rfl, trivial⟩ ⟨⟨rfl, rfl, rfl, rfl, BodyGe.pre (rest := []) rfl rfl⟩, ⟨rfl, rfl, rfl, rfl, BodyGe.pre (rest := []) rfl rfl⟩, trivial⟩ rfl⟩
      · have d1 : decide ((s.length : Int) - (k : Int) ≥ (p.length : Int)) = false := by simp; omega
        repeat' ((conv => whnf); first | (refine exI (tk1_get (c := .str p) (by simpa using hcell)) ?_) | (first | (with_reducible refine condT ?_ ?_; (focus ((first | assumption | decide | (simp; done) | (simp; omega)); done))) | (with_reducible refine condF ?_ ?_; (focus ((first | assumption | decide | (simp; done) | (simp; omega)); done))) | with_reducible refine condB (fun h => ?_) (fun h => ?_) | with_reducible refine exI rfl ?_ | with_reducible refine eqR rfl ?_ | (with_reducible refine exW (wrapN1 ?_) ?_; (focus (omega))) | (with_reducible refine exW (wrapN ?_) ?_; (focus (omega))) | (with_reducible refine exW (wrapB ?_ ?_) ?_; (focus (omega)); (focus (omega))) | with_reducible refine exW rfl ?_ | (with_reducible refine ixJ _ rfl ?_ ?_; (focus ((first | decide | omega | (simp; done) | (simp; omega)); done))) | (with_reducible refine ixJ' _ rfl ?_ ?_; (focus ((first | decide | omega | (simp; done) | (simp; omega)); done))) | (refine ixJ (Int.toNat _) ?_ ?_ ?_; (focus ((first | rfl | decide | omega | (simp; done)); done)); (focus ((first | decide | omega | (simp; done) | (simp; omega)); done))) | (refine ixJ' (Int.toNat _) ?_ ?_ ?_; (focus ((first | rfl | decide | omega | (simp; done)); done)); (focus ((first | decide | omega | (simp; done) | (simp; omega)); done))) | with_reducible refine ixS _ rfl (by assumption) ?_ | (with_reducible refine shlI ?_ ?_; (focus (first | decide | omega))) | (refine exI (callZ rfl rfl (if_pos ?_)) ?_; (focus ((first | decide | omega | (simp; done) | (simp; omega)); done)))))
        conv => whnf
        exact ⟨i + 1, ⟨hlt, hsn⟩, by show 20 - (i + 1) < 20 - i; omega, FgL.mk [0, 1] rfl ⟨Wk.noref rfl, Wk.int rfl, Wk.ptr rfl rfl, Wk.slice rfl rfl rfl (Nat.le_refl _) (Nat.le_refl _) rfl, Wk.int rfl, trivial⟩ ⟨⟨rfl, rfl, rfl, rfl, BodyGe.pre (rest := []) rfl rfl⟩, ⟨rfl, rfl, rfl, rfl, BodyGe.pre (rest := []) rfl rfl⟩, trivial⟩ rfl⟩
  · have e1 : decide ((i : Int) < 20) = false := by simp; omega
    have hi' : i = 20 := by omega
    subst hi'
    have h0 : signN (s.drop k) = 0 := hsg
    repeat' ((conv => whnf); first | (with_reducible refine condT ?_ ?_; (focus ((first | assumption | decide | (simp; done) | (simp; omega)); done))) | (with_reducible refine condF ?_ ?_; (focus ((first | assumption | decide | (simp; done) | (simp; omega)); done))) | with_reducible refine condB (fun h => ?_) (fun h => ?_) | with_reducible refine exI rfl ?_ | with_reducible refine eqR rfl ?_ | (with_reducible refine exW (wrapN1 ?_) ?_; (focus (omega))) | (with_reducible refine exW (wrapN ?_) ?_; (focus (omega))) | (with_reducible refine exW (wrapB ?_ ?_) ?_; (focus (omega)); (focus (omega))) | with_reducible refine exW rfl ?_ | (with_reducible refine ixJ _ rfl ?_ ?_; (focus ((first | decide | omega | (simp; done) | (simp; omega)); done))) | (with_reducible refine ixJ' _ rfl ?_ ?_; (focus ((first | decide | omega | (simp; done) | (simp; omega)); done))) | (refine ixJ (Int.toNat _) ?_ ?_ ?_; (focus ((first | rfl | decide | omega | (simp; done)); done)); (focus ((first | decide | omega | (simp; done) | (simp; omega)); done))) | (refine ixJ' (Int.toNat _) ?_ ?_ ?_; (focus ((first | rfl | decide | omega | (simp; done)); done)); (focus ((first | decide | omega | (simp; done) | (simp; omega)); done))) | with_reducible refine ixS _ rfl (by assumption) ?_ | (with_reducible refine shlI ?_ ?_; (focus (first | decide | omega))) | (refine exI (callZ rfl rfl (if_pos ?_)) ?_; (focus ((first | decide | omega | (simp; done) | (simp; omega)); done))))
    unfold oneR; rw [ht, if_neg (by omega)]; rfl
end Go.Proofs.YtacaaiiooedgjaaDoor.lex
end


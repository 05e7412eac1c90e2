/-
  A verified abstract interpreter, part 40: what is appended to a list that is known as a whole; what a function hands back of its own lists.
-/
import Derived.Test.YtajhailaofchlaaDoorAbs39
set_option linter.unusedSimpArgs false
set_option linter.unusedVariables false
namespace Go.Abs
open Go.RowKit

/-- No other block is of this family. -/
def lone (f b : Nat) : Nat → AHeap → Bool
  | _, [] => true
  | i, o :: H => (Nat.beq i b || !Nat.beq o.fam f) && lone f b (i + 1) H
theorem lone_get {f b : Nat} : ∀ {H : AHeap} {i j : Nat} {o : AObj}, lone f b i H = true → H[j]? = some o → i + j = b ∨ o.fam ≠ f
  | [], i, j, o, h, e => by simp at e
  | x :: H, i, 0, o, h, e => by
    simp only [lone, Bool.and_eq_true, Bool.or_eq_true, Bool.not_eq_true'] at h
    simp at e; subst e
    rcases h.1 with h1 | h1
    · exact .inl (Nat.eq_of_beq_eq_true h1)
    · exact .inr fun e => by rw [e] at h1; simp at h1
  | x :: H, i, j + 1, o, h, e => by
    simp only [lone, Bool.and_eq_true] at h
    have := lone_get h.2 (by simpa using e)
    rcases this with h1 | h1
    · exact .inl (by omega)
    · exact .inr h1
theorem kil_id {q : Nat → AObj → Bool} : ∀ (H : AHeap) (i : Nat), (∀ j o, H[j]? = some o → q (i + j) o = false) → kil q i H = H
  | [], i, h => rfl
  | o :: H, i, h => by
    have h0 := h 0 o rfl
    simp only [Nat.add_zero] at h0
    simp only [kil, h0]
    rw [kil_id H (i + 1) fun j o' e => by have := h (j + 1) o' (by simpa using e); rw [← this]; congr 1; omega]
    simp
theorem ekil_lone {f b sh : Nat} {H : AHeap} {cs : List AV} {ty : TypeId} (hH : H[b]? = some ⟨true, f, sh, .cells cs ty⟩) (hl : lone f b 0 H = true) : ekil f (sh + cs.length) H = H := by
  refine kil_id H 0 fun j o e => ?_
  rcases lone_get hl e with h | h
  · simp only [Nat.zero_add] at h; subst h; rw [hH] at e; cases e; simp [ABody.len]
  · have : Nat.beq o.fam f = false := Bool.eq_false_iff.2 fun e => h (Nat.eq_of_beq_eq_true e)
    rw [this]; rfl
theorem wkil_lone {f b : Nat} {H : AHeap} {o : AObj} (hH : H[b]? = some o) (hl : lone f b 0 H = true) : wkil b f H = H := by
  refine kil_id H 0 fun j o e => ?_
  rcases lone_get hl e with h | h
  · simp only [Nat.zero_add] at h; subst h; simp
  · have : Nat.beq o.fam f = false := Bool.eq_false_iff.2 fun e => h (Nat.eq_of_beq_eq_true e)
    rw [this]; rfl

/-- Of the types of an append: the elements', their cells, their bytes. -/
def appT (P : Program) (t t2 : TypeId) : Option (TypeId × Nat × Nat) :=
  match P.underlying t with
  | some (.slice e) => match P.info? e, tzero P e with
    | some i, some u => if apx P t2 && u.cells.length == i.size then some (e, i.size, i.bytes) else none
    | _, _ => none
  | _ => none
theorem appT_some {P : Program} {t t2 e : TypeId} {z by_ : Nat} (h : appT P t t2 = some (e, z, by_)) : P.underlying t = some (.slice e) ∧ ∃ i u, P.info? e = some i ∧ tzero P e = some u ∧ (apx P t2 && u.cells.length == i.size) = true ∧ i.size = z ∧ i.bytes = by_ := by
  unfold appT at h
  split at h <;> try (cases h; done)
  rename_i e' he
  split at h <;> try (cases h; done)
  rename_i i u hi hu
  split at h <;> cases h
  rename_i hc
  exact ⟨he, i, u, hi, hu, hc, rfl, rfl⟩
/-- To a list that is known az a whole, and has no room. -/
theorem app_ok {P : Program} {t t2 e : TypeId} {z by_ : Nat} (hT : appT P t t2 = some (e, z, by_)) {H : AHeap} {x : AV} {b f len n : Nat} {cs xs : List AV} (hx : xcells H z x = some (n, xs)) (hH : H[b]? = some ⟨true, f, 0, .cells cs e⟩)
    (hl : lone f b 0 H = true) (hc : cs.length = len * z) (ho : xs.all one = true) (hn : n ≠ 0) (hs : len + n ≤ 1099511627776 ∧ (len + n) * by_ ≤ 70368744177664) :
    aAppend P t t2 (.slice b 0 len len z) x H = some (.slice H.length 0 (len + n) (len + n) z, H ++ [⟨true, f, 0, .cells (cs ++ xs) e⟩]) := by
  obtain ⟨h1, i, u, h2, h3, h4, rfl, rfl⟩ := appT_some hT
  have hk := ekil_lone hH hl
  simp only [aAppend, h1, h2, h3]
  rw [if_pos h4]
  simp only [hx]
  rw [if_neg hn, if_pos trivial, if_neg (by intro h; omega), if_pos hs]
  simp only [hH]
  rw [if_pos ⟨by omega, trivial, ho⟩]
  simp only [List.drop_zero, Nat.add_zero, hk]
theorem ekil_le {f e : Nat} {H : AHeap} (h : ∀ o ∈ H, o.fam = f → o.sh + o.body.len ≤ e) : ekil f e H = H := by
  refine kil_id H 0 fun j o ho => ?_
  by_cases hf : o.fam = f
  · have := h o (List.mem_of_getElem? ho) hf
    simp [hf, this]
  · have : Nat.beq o.fam f = false := Bool.eq_false_iff.2 fun e => hf (Nat.eq_of_beq_eq_true e)
    rw [this]; rfl
/-- To a list that is known as a whole, whatever room it has. -/
theorem app_okG {P : Program} {t t2 e : TypeId} {z by_ : Nat} (hT : appT P t t2 = some (e, z, by_)) {H : AHeap} {x : AV} {b f len cap n : Nat} {cs xs : List AV} (hx : xcells H z x = some (n, xs)) (hH : H[b]? = some ⟨true, f, 0, .cells cs e⟩)
    (hk : ekil f cs.length H = H) (hc : cs.length = len * z) (ho : xs.all one = true) (hn : n ≠ 0) (hs : len + n ≤ 1099511627776 ∧ (len + n) * by_ ≤ 70368744177664) :
    aAppend P t t2 (.slice b 0 len cap z) x H = some (.slice H.length 0 (len + n) (len + n) z, H ++ [⟨true, f, 0, .cells (cs ++ xs) e⟩]) := by
  obtain ⟨h1, i, u, h2, h3, h4, rfl, rfl⟩ := appT_some hT
  have hcl : clen H b = cs.length := by unfold clen; rw [hH]
  simp only [aAppend, h1, h2, h3]
  rw [if_pos h4]
  simp only [hx]
  rw [if_neg hn, if_pos trivial, if_neg (by intro h; rw [hcl] at h; omega), if_pos hs]
  simp only [hH]
  rw [if_pos ⟨by omega, trivial, ho⟩]
  simp only [List.drop_zero, Nat.add_zero, Nat.zero_add, hk]
/-- Nothing is appended. -/
theorem app_zero {P : Program} {t t2 e : TypeId} {z by_ : Nat} (hT : appT P t t2 = some (e, z, by_)) {H : AHeap} {x : AV} {b off len cap : Nat} {xs : List AV} (hx : xcells H z x = some (0, xs)) :
    aAppend P t t2 (.slice b off len cap z) x H = some (.slice b off len cap z, H) := by
  obtain ⟨h1, i, u, h2, h3, h4, rfl, rfl⟩ := appT_some hT
  simp only [aAppend, h1, h2, h3]
  rw [if_pos h4]
  simp only [hx, if_true]
theorem tk_all : ∀ {cs : List AV} {n : Nat}, cs.length = n → tk n cs = some cs
  | [], 0, _ => rfl
  | c :: cs, n + 1, h => by simp only [tk, tk_all (cs := cs) (n := n) (by simpa using h)]
  | c :: cs, 0, h => by simp at h
  | [], n + 1, h => by simp at h
/-- unsafe.String of bytes of ours. -/
theorem bytesOfL_ok : ∀ (s : List UInt8), bytesOfL (s.map fun b => AV.int .u8 b.toNat) = some s
  | [] => rfl
  | b :: s => by
    have h : Nat.blt b.toNat 256 = true := by have := b.toNat_lt; simp [Nat.blt]; omega
    show (if Nat.blt b.toNat 256 then (match bytesOfL (s.map fun b => AV.int .u8 b.toNat) with | some r => some (UInt8.ofNat b.toNat :: r) | none => none) else none) = _
    rw [if_pos h, bytesOfL_ok s]; simp
theorem ustr_ok {P : Program} {t ty : TypeId} {H : AHeap} {b f : Nat} {s : List UInt8} (ht : P.underlying t = some (.pointer ty)) (hc : P.cellsOf ty = 1) (hH : H[b]? = some ⟨true, f, 0, .cells (s.map fun c => .int .u8 c.toNat) ty⟩) (h0 : s ≠ []) (hs : s.length ≤ 1099511627776) :
    aUStr P t (.ptr b 0) s.length H = some (.str s, (wkil b f H).set b (AObj.dead ⟨true, f, 0, .cells (s.map fun c => .int .u8 c.toNat) ty⟩)) := by
  cases s with
  | nil => exact absurd rfl h0
  | cons c s =>
    have ht' : tk (s.length + 1) ((c :: s).map fun b => AV.int .u8 b.toNat) = some ((c :: s).map fun b => AV.int .u8 b.toNat) := tk_all (by simp)
    have hb := bytesOfL_ok (c :: s)
    have hle : Nat.ble (s.length + 1) 9223372036854775807 = true := by simp at hs ⊢; omega
    simp only [List.length_cons, aUStr, hH, ht, hc, hle]
    rw [ht', if_pos (by simp)]
    generalize ((c :: s).map fun b => AV.int .u8 b.toNat) = m at *
    simp only [hb]
/-- bytealg.MakeNoZero. -/
theorem mkz_ok {P : Program} {orc : Orc} {H : AHeap} {g e n : Nat} (hb : hasBody P g = false) (h1 : ∀ args, extId P g args = none) (h2 : ∀ args, extIx P g args = none) (h3 : extMk P g = some e) (hn : n ≤ 281474976710656) :
    acall P orc H g [.int .i64 n] = some (.slice H.length 0 n n 1, H ++ [⟨true, H.length, 0, .cells [] e⟩]) := by
  unfold acall
  rw [hb]
  simp only [h1, h2, h3]
  show (if false = true then _ else if n ≤ 281474976710656 then _ else _) = _
  rw [if_neg (by decide), if_pos hn]
/-- To nil. -/
theorem app_nil {P : Program} {t t2 e : TypeId} {z by_ : Nat} (hT : appT P t t2 = some (e, z, by_)) {H : AHeap} {x : AV} {n : Nat} {xs : List AV} (hx : xcells H z x = some (n, xs)) (hn : n ≠ 0) (hs : n ≤ 1099511627776 ∧ n * by_ ≤ 70368744177664) :
    aAppend P t t2 .nslice x H = some (.slice H.length 0 n n z, newBlk H xs e) := by
  obtain ⟨h1, i, u, h2, h3, h4, rfl, rfl⟩ := appT_some hT
  simp only [aAppend, h1, h2, h3]
  rw [if_pos h4]
  simp only [hx]
  rw [if_neg hn, if_pos hs]

/-- Numbers, truths, texts. -/
def lit : AV → Bool
  | .bool _ => true
  | .int _ _ => true
  | .str _ => true
  | _ => false
theorem frz_lit {H : AHeap} {n : Nat} : ∀ {u : AV}, lit u = true → frz H (n + 1) u = some u
  | .bool _, _ => rfl
  | .int _ _, _ => rfl
  | .str _, _ => rfl
theorem frzL_lit {H : AHeap} {n : Nat} : ∀ {cs : List AV}, cs.all lit = true → frzL (frz H (n + 1)) cs = some cs
  | [], _ => rfl
  | c :: cs, h => by
    simp only [List.all_cons, Bool.and_eq_true] at h
    simp only [frzL, frz_lit h.1, frzL_lit h.2]
/-- One cell of a list. -/
theorem tk1_map {α : Type} (f : α → AV) (l : List α) (j : Nat) (h : j < l.length) {off : Nat} (e : off = j) : tk 1 ((l.map f).drop off) = some [f l[j]] := by
  subst e
  rw [List.drop_eq_getElem_cons (by simpa using h)]; simp [tk]
theorem tk1_get {cs : List AV} {off : Nat} {c : AV} (h : cs[off]? = some c) : tk 1 (cs.drop off) = some [c] := by
  obtain ⟨hl, rfl⟩ := List.getElem?_eq_some_iff.1 h
  rw [List.drop_eq_getElem_cons hl]; simp [tk]
/-- A list of ours that is handed back. -/
theorem frz_slice {H : AHeap} {n b f sh len cap z : Nat} {cs : List AV} {ty : TypeId} (hH : H[b]? = some ⟨true, f, sh, .cells cs ty⟩) (hc : cs.length = len * z) (hl : cs.all lit = true) : frz H (n + 2) (.slice b 0 len cap z) = some (.rs len z cs) := by
  cases len with
  | zero =>
    have : cs = [] := List.eq_nil_of_length_eq_zero (by omega)
    subst this; rfl
  | succ m =>
    have h2 : frzL (frz H (n + 1)) cs = some cs := frzL_lit hl
    unfold frz
    simp only [hH, List.drop_zero, tk_all hc]
    rw [h2]
theorem frz_two {H : AHeap} {n : Nat} {a b x y : AV} (h1 : frz H n a = some x) (h2 : frz H n b = some y) : frz H (n + 1) (resOf [a, b]) = some (.tuple [x, y]) := by
  have h : frzL (frz H n) [a, b] = some [x, y] := by simp only [frzL, h1, h2]
  show frz H (n + 1) (.tuple [a, b]) = _
  unfold frz
  show (match frzL (frz H n) [a, b] with | some l => some (AV.tuple l) | none => none) = _
  rw [h]
theorem frz_aggL {H : AHeap} {n : Nat} {cs : List AV} (h : cs.all lit = true) : frz H (n + 2) (.agg cs) = some (.agg cs) := by
  have h : frzL (frz H (n + 1)) cs = some cs := frzL_lit h
  unfold frz
  show (match frzL (frz H (n + 1)) cs with | some l => some (AV.agg l) | none => none) = _
  rw [h]

/-- What a sound oracle answers of values without blocks. -/
theorem val_of_orc {P : Program} {gl : Glob} {orc : Orc} (hO : OrcSound P gl orc) {f : Nat} {args : List AV} {r : AV} (h : orc f args [] = some (r, [])) (hp : plain r = true) : ValOK P gl f args r := by
  intro sn W cargs hg hR hl
  refine (hO f args [] r [] h sn noI W cargs hg hR hl).mono ?_
  rintro e W' ⟨v, sn', ι', rfl, hv, hst⟩
  exact ⟨v, rfl, (hst.q (k := 0) hR).ext, plain_VR hp hv⟩

/-! structs compared, field by field -/
theorem eqB_int {P : Program} {d t : Nat} {k : IntKind} (h : P.underlying t = some (.int k)) (a b : Int) : eqB P (d + 1) t (.int k a) (.int k b) = some (a == b) := by simp [eqB, aEq, h]
theorem eqB_str {P : Program} {d t : Nat} (h : P.underlying t = some .string) (a b : List UInt8) : eqB P (d + 1) t (.str a) (.str b) = some (a == b) := by simp [eqB, aEq, h]
theorem eqB_bool {P : Program} {d t : Nat} (h : P.underlying t = some .bool) (a b : Bool) : eqB P (d + 1) t (.bool a) (.bool b) = some (a == b) := by simp [eqB, aEq, h]
theorem eqF_cons {P : Program} {e : TypeId → AV → AV → Option Bool} {t off : Nat} {fs : List (TypeId × Nat)} {xs ys : List AV} {a b : AV} {p q : Bool} (ht : tagg P t = some false) (hx : xs[off]? = some a) (hy : ys[off]? = some b) (h : e t a b = some p) (h2 : eqFsB e P fs xs ys = some q) :
    eqFsB e P ((t, off) :: fs) xs ys = some (p && q) := by
  simp only [eqFsB, apart, ht, hx, hy, h, h2]
theorem eqB_agg {P : Program} {d t : Nat} {fs : List (TypeId × Nat)} {xs ys : List AV} (hf : fieldsEq P t = some fs) : eqB P (d + 1) t (.agg xs) (.agg ys) = eqFsB (eqB P d) P fs xs ys := by simp only [eqB, hf]
theorem aggEq_ok {P : Program} {t : TypeId} {fs : List (TypeId × Nat)} {xs ys : List AV} {r : Bool} (hg : P.eqGuardType P.depth t = false) (hf : fieldsEq P t = some fs) (h : eqFsB (eqB P 9999) P fs xs ys = some r) : aggEq P t xs ys = some r := by
  unfold aggEq
  rw [hg, if_neg (by decide)]
  exact (eqB_agg (d := 9999) hf).trans h

section facts
open Classical
/-- An oracle by a list of facts. -/
noncomputable def orcF (l : List (Nat × List AV × AV)) : Orc := orcV fun f args => (l.find? fun p => decide (p.1 = f ∧ p.2.1 = args)).map (·.2.2)
def Facts (P : Program) (gl : Glob) : List (Nat × List AV × AV) → Prop
  | [] => True
  | (f, args, r) :: l => refsL args [] = [] ∧ ValOK P gl f args r ∧ Facts P gl l
theorem Facts.mem {P : Program} {gl : Glob} : ∀ {l : List (Nat × List AV × AV)} {p}, Facts P gl l → p ∈ l → refsL p.2.1 [] = [] ∧ ValOK P gl p.1 p.2.1 p.2.2
  | (f, args, r) :: l, p, h, hm => by
    rcases List.mem_cons.1 hm with rfl | hm
    · exact ⟨h.1, h.2.1⟩
    · exact Facts.mem h.2.2 hm
theorem orcF_sound {P : Program} {gl : Glob} {l : List (Nat × List AV × AV)} (h : Facts P gl l) : OrcSound P gl (orcF l) := orcV_sound fun f args r e => by
  simp only [Option.map_eq_some_iff] at e
  obtain ⟨p, e1, rfl⟩ := e
  have hm := List.mem_of_find?_eq_some e1
  have hp := List.find?_some e1
  simp only [decide_eq_true_eq] at hp
  obtain ⟨rfl, rfl⟩ := hp
  exact h.mem hm
theorem callF {P : Program} {l : List (Nat × List AV × AV)} {H : AHeap} {g : Nat} {args : List AV} {r : AV} (h1 : hasBody P g = true) (h2 : l.find? (fun p => decide (p.1 = g ∧ p.2.1 = args)) = some (g, args, r)) : acall P (orcF l) H g args = some (r, H) := by
  simp only [acall, h1, if_true, orcF, orcV, h2, Option.map_some]
theorem findF_here {l : List (Nat × List AV × AV)} {g : Nat} {args : List AV} {r : AV} : ((g, args, r) :: l).find? (fun p => decide (p.1 = g ∧ p.2.1 = args)) = some (g, args, r) := by simp
theorem findF_next {l : List (Nat × List AV × AV)} {g f : Nat} {args az : List AV} {q r : AV} (h : Nat.beq f g = false) (h2 : l.find? (fun p => decide (p.1 = g ∧ p.2.1 = args)) = some (g, args, r)) : ((f, az, q) :: l).find? (fun p => decide (p.1 = g ∧ p.2.1 = args)) = some (g, args, r) := by
  have : f ≠ g := fun e => by subst e; simp at h
  have e : decide ((f, az, q).1 = g ∧ (f, az, q).2.1 = args) = false := by simp [this]
  rw [List.find?_cons, e]; exact h2
theorem findF_fn {l : List (Nat × List AV × AV)} {g f : Nat} {args az : List AV} {q r : AV} (h : az = args → q = r) (h2 : l.find? (fun p => decide (p.1 = g ∧ p.2.1 = args)) = some (g, args, r)) : ((f, az, q) :: l).find? (fun p => decide (p.1 = g ∧ p.2.1 = args)) = some (g, args, r) := by
  by_cases e : f = g ∧ az = args
  · obtain ⟨rfl, rfl⟩ := e
    rw [h rfl]; exact findF_here
  · have e' : decide ((f, az, q).1 = g ∧ (f, az, q).2.1 = args) = false := by simpa using e
    rw [List.find?_cons, e']; exact h2
end facts
end Go.Abs

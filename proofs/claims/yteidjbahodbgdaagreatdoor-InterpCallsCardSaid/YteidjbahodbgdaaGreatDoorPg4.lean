/-
  Texts of this proof, one behind the other (part 4).
-/
import Derived.Test.YteidjbahodbgdaaGreatDoorPg3
import Derived.Test.YteidjbahodbgdaaGreatDoorRows
import Derived.KernelRfl
import Derived.Sort.KeysCollected
import Derived.Maps.OwnSet
set_option linter.unusedVariables false
set_option linter.unusedSimpArgs false

section
namespace Go.Abs
open Go.RowKit
theorem FgL.mk {t0 tm : Tr} {H : Z00} {l : List (Nat × AV)} {H2 : Z00} (m : List Nat) (h : Zfj t0 tm = true) (h1 : SlotsGe m tm l) (h2 : HpGe H m m H2 0) (h3 : Z0Q (m.map (Z1r H)) = true) : FgL t0 tm H l H2 := by
 unfold FgL FgLK; rw [h]; exact .inl ⟨m, rfl, h1, h2, h3⟩
theorem FgLK.mk {k : Nat} {t0 tm : Tr} {H : Z00} {l : List (Nat × AV)} {H2 : Z00} (m : List Nat) (hk : Zer k 0 m = true) (h : Zfj t0 tm = true) (h1 : SlotsGe m tm l) (h2 : HpGe H m m H2 0) (h3 : Z0Q (m.map (Z1r H)) = true) : FgLK k t0 tm H l H2 := by
 unfold FgLK; rw [h]; exact .inl ⟨m, hk, h1, h2, h3⟩
theorem FgL.mk0 {t0 tm : Tr} {H : Z00} {l : List (Nat × AV)} (h : Zfj t0 tm = true) (h1 : SlotsGe [] tm l) : FgL t0 tm H l [] := FgL.mk [] h h1 trivial rfl
theorem Zmk {n : Int} (h : -9223372036854775808 <= n /\ n <= 9223372036854775807) : IntKind.i64.wrap n = n := IntWalk.i64_in n h
theorem Znb {a b : Int} {K : Prop} (h : a <= b) (k : K) : a <= b /\ K := ⟨h, k⟩
def ZcF (P Q : Prop) : Prop := Q -> P
theorem s1T {t : Bool} {A B : Prop} (h : t = true) : ZcF ((t = true -> A) /\ (t = false -> B)) A := ZmH h
theorem s1F {t : Bool} {A B : Prop} (h : t = false) : ZcF ((t = true -> A) /\ (t = false -> B)) B := ZmI h
theorem s1I {α : Type} {o : Option α} {r : α} {K : α -> Prop} (h : o = some r) : ZcF (∃ r, o = some r /\ K r) (K r) := exI h
theorem s1R {u v : AV} {K : Prop} (h : u = v) : ZcF (u = v /\ K) K := eqR h
theorem s1W {α : Type} {x n : α} {K : α -> Prop} (h : x = n) : ZcF (∃ n, x = n /\ K n) (K n) := exW h
theorem s1J {i : Int} {n : Nat} {K : Nat -> Prop} (j : Nat) (h1 : i = (j : Int)) (h2 : j < n) : ZcF (∃ j : Nat, (i = (j : Int) /\ j < n) /\ K j) (K j) := ixJ j h1 h2
theorem ZmX {i : Int} {n : Nat} {K : Nat -> Prop} (j : Nat) (h1 : i = (j : Int)) (h2 : j <= n) : ZcF (∃ j : Nat, (i = (j : Int) /\ j <= n) /\ K j) (K j) := ZbM j h1 h2
theorem s1S {i : Int} {s : List UInt8} {K : Nat -> UInt8 -> Prop} (j : Nat) {b : UInt8} (h1 : i = (j : Int)) (h2 : s[j]? = some b) : ZcF (∃ j : Nat, i = (j : Int) /\ ∃ b, s[j]? = some b /\ K j b) (K j b) := ixS j h1 h2
theorem s1L {a b : Int} {K : Prop} (h : a <= b) : ZcF (a <= b /\ K) K := Znb h
theorem stp {P Q : Prop} (q : Q) (h : ZcF P Q := by
 first
 | (with_reducible refine s1T ?_; (focus (assumption))) | (with_reducible refine s1F ?_; (focus (assumption)))
 | (with_reducible refine s1T ?_; (focus (decide))) | (with_reducible refine s1F ?_; (focus (decide)))
 | (with_reducible refine s1T ?_; (focus ((first | assumption | decide | (simp; done) | (simp; omega)); done)))
 | (with_reducible refine s1F ?_; (focus ((first | assumption | decide | (simp; done) | (simp; omega)); done)))
 | with_reducible exact s1I rfl
 | with_reducible exact s1R rfl
 | (with_reducible refine s1W (Z2n ?_); (focus (omega))) | (with_reducible refine s1W (Zmj ?_); (focus (omega))) | (with_reducible refine s1W (Z4X ?_ ?_); (focus (omega)); (focus (omega)))
 | with_reducible exact s1W rfl
 | (with_reducible refine s1J _ rfl ?_; (focus ((first | decide | omega | (simp; done) | (simp; omega)); done)))
 | (with_reducible refine ZmX _ rfl ?_; (focus ((first | decide | omega | (simp; done) | (simp; omega)); done)))
 | (refine s1J (Int.toNat _) ?_ ?_; (focus ((first | rfl | decide | omega | (simp; done)); done)); (focus ((first | decide | omega | (simp; done) | (simp; omega)); done)))
 | (refine ZmX (Int.toNat _) ?_ ?_; (focus ((first | rfl | decide | omega | (simp; done)); done)); (focus ((first | decide | omega | (simp; done) | (simp; omega)); done)))
 | with_reducible exact s1S _ rfl (by assumption)
 | (with_reducible refine s1L ?_; (focus (first | decide | omega)))
 | (refine s1I (Zis rfl rfl (if_pos ?_)); (focus ((first | decide | omega | (simp; done) | (simp; omega)); done)))) : P := h q
end Go.Abs
end

section
namespace Go.Abs
open Go.RowKit
def lone (f b : Nat) : Nat -> Z00 -> Bool
 | _, [] => true
 | i, o :: H => (Nat.beq i b || !Nat.beq o.fam f) && lone f b (i + 1) H
theorem Zj2 {q : Nat -> AObj -> Bool} : ∀ (H : Z00) (i : Nat), (∀ j o, H[j]? = some o -> q (i + j) o = false) -> kil q i H = H
 | [], i, h => rfl
 | o :: H, i, h => by
  have h0 := h 0 o rfl
  simp only [Nat.add_zero] at h0
  simp only [kil, h0]
  rw [Zj2 H (i + 1) fun j o' e => by have := h (j + 1) o' (by simpa using e); rw [<- this]; congr 1; omega]
  simp
def Z74 (P : Program) (t t2 : TypeId) : Option (TypeId × Nat × Nat) :=
 match P.underlying t with
 | some (.slice e) => match P.info? e, Z2Q P e with
  | some i, some u => if apx P t2 && u.cells.length == i.size then some (e, i.size, i.bytes) else none
  | _, _ => none
 | _ => none
theorem Z5D {P : Program} {t t2 e : TypeId} {z by_ : Nat} (h : Z74 P t t2 = some (e, z, by_)) : P.underlying t = some (.slice e) /\ ∃ i u, P.info? e = some i /\ Z2Q P e = some u /\ (apx P t2 && u.cells.length == i.size) = true /\ i.size = z /\ i.bytes = by_ := by
 unfold Z74 at h
 split at h <;> try (cases h; done)
 rename_i e' he
 split at h <;> try (cases h; done)
 rename_i i u hi hu
 split at h <;> cases h
 rename_i hc
 exact ⟨he, i, u, hi, hu, hc, rfl, rfl⟩
theorem ZkD {f e : Nat} {H : Z00} (h : ∀ o ∈ H, o.fam = f -> o.sh + o.body.len <= e) : Zf5 f e H = H := by
 refine Zj2 H 0 fun j o ho => ?_
 by_cases hf : o.fam = f
 · have := h o (List.mem_of_getElem? ho) hf
   simp [hf, this]
 · have : Nat.beq o.fam f = false := Bool.eq_false_iff.2 fun e => hf (Nat.eq_of_beq_eq_true e)
   rw [this]; rfl
theorem Z7Y {P : Program} {t t2 e : TypeId} {z by_ : Nat} (hT : Z74 P t t2 = some (e, z, by_)) {H : Z00} {x : AV} {b f len cap n : Nat} {cs xs : List AV} (hx : Z2b H z x = some (n, xs)) (hH : H[b]? = some ⟨true, f, 0, .cells cs e⟩)
  (hk : Zf5 f cs.length H = H) (hc : cs.length = len * z) (ho : xs.all one = true) (hn : n ≠ 0) (hs : len + n <= 1099511627776 /\ (len + n) * by_ <= 70368744177664) :
  Z2a P t t2 (.slice b 0 len cap z) x H = some (.slice H.length 0 (len + n) (len + n) z, H ++ [⟨true, f, 0, .cells (cs ++ xs) e⟩]) := by
 obtain ⟨h1, i, u, h2, h3, h4, rfl, rfl⟩ := Z5D hT
 have hcl : ZmJ H b = cs.length := by unfold ZmJ; rw [hH]
 simp only [Z2a, h1, h2, h3]
 rw [if_pos h4]
 simp only [hx]
 rw [if_neg hn, if_pos trivial, if_neg (by intro h; rw [hcl] at h; omega), if_pos hs]
 simp only [hH]
 rw [if_pos ⟨by omega, trivial, ho⟩]
 simp only [List.drop_zero, Nat.add_zero, Nat.zero_add, hk]
theorem ZdT {P : Program} {t t2 e : TypeId} {z by_ : Nat} (hT : Z74 P t t2 = some (e, z, by_)) {H : Z00} {x : AV} {b off len cap : Nat} {xs : List AV} (hx : Z2b H z x = some (0, xs)) :
  Z2a P t t2 (.slice b off len cap z) x H = some (.slice b off len cap z, H) := by
 obtain ⟨h1, i, u, h2, h3, h4, rfl, rfl⟩ := Z5D hT
 simp only [Z2a, h1, h2, h3]
 rw [if_pos h4]
 simp only [hx, if_true]
theorem Zaz : ∀ {cs : List AV} {n : Nat}, cs.length = n -> tk n cs = some cs
 | [], 0, _ => rfl
 | c :: cs, n + 1, h => by simp only [tk, Zaz (cs := cs) (n := n) (by simpa using h)]
 | c :: cs, 0, h => by simp at h
 | [], n + 1, h => by simp at h
theorem ZkO {P : Program} {t t2 e : TypeId} {z by_ : Nat} (hT : Z74 P t t2 = some (e, z, by_)) {H : Z00} {x : AV} {n : Nat} {xs : List AV} (hx : Z2b H z x = some (n, xs)) (hn : n ≠ 0) (hs : n <= 1099511627776 /\ n * by_ <= 70368744177664) :
  Z2a P t t2 .nslice x H = some (.slice H.length 0 n n z, Z3a H xs e) := by
 obtain ⟨h1, i, u, h2, h3, h4, rfl, rfl⟩ := Z5D hT
 simp only [Z2a, h1, h2, h3]
 rw [if_pos h4]
 simp only [hx]
 rw [if_neg hn, if_pos hs]
def lit : AV -> Bool
 | .bool _ => true
 | .int _ _ => true
 | .str _ => true
 | _ => false
theorem Zkq {H : Z00} {n : Nat} : ∀ {u : AV}, lit u = true -> frz H (n + 1) u = some u
 | .bool _, _ => rfl
 | .int _ _, _ => rfl
 | .str _, _ => rfl
theorem ZdA {H : Z00} {n : Nat} : ∀ {cs : List AV}, cs.all lit = true -> Z0L (frz H (n + 1)) cs = some cs
 | [], _ => rfl
 | c :: cs, h => by
  simp only [List.all_cons, Bool.and_eq_true] at h
  simp only [Z0L, Zkq h.1, ZdA h.2]
theorem Z11 {α : Type} (f : α -> AV) (l : List α) (j : Nat) (h : j < l.length) {off : Nat} (e : off = j) : tk 1 ((l.map f).drop off) = some [f l[j]] := by
 subst e
 rw [List.drop_eq_getElem_cons (by simpa using h)]; simp [tk]
theorem Zjt {cs : List AV} {off : Nat} {c : AV} (h : cs[off]? = some c) : tk 1 (cs.drop off) = some [c] := by
 obtain ⟨hl, rfl⟩ := List.getElem?_eq_some_iff.1 h
 rw [List.drop_eq_getElem_cons hl]; simp [tk]
theorem Z3X {H : Z00} {n b f sh len cap z : Nat} {cs : List AV} {ty : TypeId} (hH : H[b]? = some ⟨true, f, sh, .cells cs ty⟩) (hc : cs.length = len * z) (hl : cs.all lit = true) : frz H (n + 2) (.slice b 0 len cap z) = some (.rs len z cs) := by
 cases len with
 | zero =>
  have : cs = [] := List.eq_nil_of_length_eq_zero (by omega)
  subst this; rfl
 | succ m =>
  have h2 : Z0L (frz H (n + 1)) cs = some cs := ZdA hl
  unfold frz
  simp only [hH, List.drop_zero, Zaz hc]
  rw [h2]
theorem Zgn {H : Z00} {n : Nat} {a b x y : AV} (h1 : frz H n a = some x) (h2 : frz H n b = some y) : frz H (n + 1) (Z0J [a, b]) = some (.tuple [x, y]) := by
 have h : Z0L (frz H n) [a, b] = some [x, y] := by simp only [Z0L, h1, h2]
 show frz H (n + 1) (.tuple [a, b]) = _
 unfold frz
 show (match Z0L (frz H n) [a, b] with | some l => some (AV.tuple l) | none => none) = _
 rw [h]
theorem Z0U {P : Program} {d t : Nat} {k : IntKind} (h : P.underlying t = some (.int k)) (a b : Int) : eqB P (d + 1) t (.int k a) (.int k b) = some (a == b) := by simp [eqB, aEq, h]
theorem Z0A {P : Program} {e : TypeId -> AV -> AV -> Option Bool} {t off : Nat} {fs : List (TypeId × Nat)} {xs ys : List AV} {a b : AV} {p q : Bool} (ht : Z47 P t = some false) (hx : xs[off]? = some a) (hy : ys[off]? = some b) (h : e t a b = some p) (h2 : Z6H e P fs xs ys = some q) :
  Z6H e P ((t, off) :: fs) xs ys = some (p && q) := by
 simp only [Z6H, Z5E, ht, hx, hy, h, h2]
theorem Zcl {P : Program} {d t : Nat} {fs : List (TypeId × Nat)} {xs ys : List AV} (hf : Z2g P t = some fs) : eqB P (d + 1) t (.agg xs) (.agg ys) = Z6H (eqB P d) P fs xs ys := by simp only [eqB, hf]
theorem Za9 {P : Program} {t : TypeId} {fs : List (TypeId × Nat)} {xs ys : List AV} {r : Bool} (hg : P.eqGuardType P.depth t = false) (hf : Z2g P t = some fs) (h : Z6H (eqB P 9999) P fs xs ys = some r) : Zaa P t xs ys = some r := by
 unfold Zaa
 rw [hg, if_neg (by decide)]
 exact (Zcl (d := 9999) hf).trans h
section facts
open Classical
noncomputable def Zlr (l : List (Nat × List AV × AV)) : Orc := ZiU fun f args => (l.find? fun p => decide (p.1 = f /\ p.2.1 = args)).map (·.2.2)
def Facts (P : Program) (gl : Z0l) : List (Nat × List AV × AV) -> Prop
 | [] => True
 | (f, args, r) :: l => refsL args [] = [] /\ ValOK P gl f args r /\ Facts P gl l
theorem Facts.mem {P : Program} {gl : Z0l} : ∀ {l : List (Nat × List AV × AV)} {p}, Facts P gl l -> p ∈ l -> refsL p.2.1 [] = [] /\ ValOK P gl p.1 p.2.1 p.2.2
 | (f, args, r) :: l, p, h, hm => by
  rcases List.mem_cons.1 hm with rfl | hm
  · exact ⟨h.1, h.2.1⟩
  · exact Facts.mem h.2.2 hm
theorem Z8C {P : Program} {gl : Z0l} {l : List (Nat × List AV × AV)} (h : Facts P gl l) : Z06 P gl (Zlr l) := Z5Q fun f args r e => by
 simp only [Option.map_eq_some_iff] at e
 obtain ⟨p, e1, rfl⟩ := e
 have hm := List.mem_of_find?_eq_some e1
 have hp := List.find?_some e1
 simp only [decide_eq_true_eq] at hp
 obtain ⟨rfl, rfl⟩ := hp
 exact h.mem hm
theorem ZlY {P : Program} {l : List (Nat × List AV × AV)} {H : Z00} {g : Nat} {args : List AV} {r : AV} (h1 : Z0C P g = true) (h2 : l.find? (fun p => decide (p.1 = g /\ p.2.1 = args)) = some (g, args, r)) : Z04 P (Zlr l) H g args = some (r, H) := by
 simp only [Z04, h1, if_true, Zlr, ZiU, h2, Option.map_some]
theorem Z1B {l : List (Nat × List AV × AV)} {g : Nat} {args : List AV} {r : AV} : ((g, args, r) :: l).find? (fun p => decide (p.1 = g /\ p.2.1 = args)) = some (g, args, r) := by simp
theorem Z1S {l : List (Nat × List AV × AV)} {g f : Nat} {args az : List AV} {q r : AV} (h : Nat.beq f g = false) (h2 : l.find? (fun p => decide (p.1 = g /\ p.2.1 = args)) = some (g, args, r)) : ((f, az, q) :: l).find? (fun p => decide (p.1 = g /\ p.2.1 = args)) = some (g, args, r) := by
 have : f ≠ g := fun e => by subst e; simp at h
 have e : decide ((f, az, q).1 = g /\ (f, az, q).2.1 = args) = false := by simp [this]
 rw [List.find?_cons, e]; exact h2
theorem Z9S {l : List (Nat × List AV × AV)} {g f : Nat} {args az : List AV} {q r : AV} (h : az = args -> q = r) (h2 : l.find? (fun p => decide (p.1 = g /\ p.2.1 = args)) = some (g, args, r)) : ((f, az, q) :: l).find? (fun p => decide (p.1 = g /\ p.2.1 = args)) = some (g, args, r) := by
 by_cases e : f = g /\ az = args
 · obtain ⟨rfl, rfl⟩ := e
   rw [h rfl]; exact Z1B
 · have e' : decide ((f, az, q).1 = g /\ (f, az, q).2.1 = args) = false := by simpa using e
   rw [List.find?_cons, e']; exact h2
end facts
end Go.Abs
end

section
namespace Go.Abs
open Go.RowKit
def Z1O (P : Program) (gl : Z0l) (f : Nat) (args : List AV) (H : Z00) (r : AV) (H' : Z00) : Prop :=
 ∀ (sn : Z0j) (ι : Z0k) (W : World) (cargs : List Value), GlOK gl sn -> R sn ι H W -> LR sn ι args cargs ->
  CallsY P f cargs.toArray W fun e W' => ∃ v sn' ι', e = .returned v /\ VR sn' ι' r v /\ Stp sn ι H W sn' ι' H' W'
def Zjb (k : Nat) : Z00 -> Z00 -> Bool
 | [], [] => true
 | o :: H, o' :: H' => Nat.beq o'.fam o.fam && (Nat.beq o'.sh o.sh && ((!o'.alive || o.alive) && (Z0M k (Z3I o'.body []) && Zjb k H H')))
 | _, _ => false
theorem Za0 {k : Nat} : ∀ {H H' : Z00}, Zjb k H H' = true -> H'.length = H.length /\ ∀ (b : Nat) (o o' : AObj), H[b]? = some o -> H'[b]? = some o' -> o'.fam = o.fam /\ o'.sh = o.sh /\ (o'.alive = true -> o.alive = true) /\ Z0M k (Z3I o'.body []) = true
 | [], [], h => ⟨rfl, fun b o o' e => by simp at e⟩
 | x :: H, y :: H', h => by
  simp only [Zjb, Bool.and_eq_true] at h
  obtain ⟨h1, h2, h3, h4, h5⟩ := h
  obtain ⟨k1, k2⟩ := Za0 h5
  refine ⟨by simp [k1], fun b o o' e e' => ?_⟩
  cases b with
  | zero =>
   simp at e e'; subst e; subst e'
   exact ⟨Nat.eq_of_beq_eq_true h1, Nat.eq_of_beq_eq_true h2, fun ha => by simpa [ha] using h3, h4⟩
  | succ b => exact k2 b o o' (by simpa using e) (by simpa using e')
 | [], _ :: _, h => by simp [Zjb] at h
 | _ :: _, [], h => by simp [Zjb] at h
theorem Z1f {k : Nat} : ∀ {l : List Nat}, Z0M k l = true -> ∀ b ∈ l, b < k
 | [], h, b, hb => by cases hb
 | n :: l, h, b, hb => by
  simp only [Z0M, Bool.and_eq_true] at h
  rcases List.mem_cons.1 hb with rfl | hb
  · exact Z6x h.1
  · exact Z1f h.2 b hb
def ZlN (P : Program) (l : List ResultVar) (k : Nat) (H0 : Z00) (r : AV) (H1 : Z00) (tm : Tr) (H : Z00) : Prop :=
 onO (Z3i P tm H l) fun vs => Z0J vs = r /\ H.take k = H1 /\ (Z0M k (Z1N r []) && Zjb k H0 H1) = true
theorem Z5b {sn : Z0j} {ι : Z0k} {us : List AV} {vs : List Value} {fn : Func} (h4 : LR sn ι us vs) : VR sn ι (Z0J us) (if h : vs.toArray.size = 1 then vs.toArray[0] else .tuple vs.toArray) := by
 match us, h4 with
 | [], h4 => simp only [LR] at h4; subst h4; simp [Z0J, VR, LR]
 | [u], h4 =>
  simp only [LR] at h4
  obtain ⟨d, ds, rfl, hd, rfl⟩ := h4
  simpa [Z0J] using hd
 | u :: u' :: l, h4 =>
  have hl := h4.length
  simp only [List.length_cons] at hl
  have : vs.toArray.size ≠ 1 := by simp [hl]
  rw [dif_neg this]
  simp only [Z0J, VR]
  exact ⟨_, rfl, h4⟩
theorem Zej {sn sn1 : Z0j} {ι ι1 : Z0k} {H0 H H1 : Z00} {W W1 : World} {k : Nat} (hk : H0.length = k) (hR : R sn ι H0 W) (s1 : Stq k sn ι H0 W sn1 ι1 H W1) (h3 : H.take k = H1) (h5 : Zjb k H0 H1 = true) :
  ∃ ι', Stp sn ι H0 W sn1 ι' H1 W1 /\ ∀ u v, Z0M k (Z1N u []) = true -> VR sn1 ι1 u v -> VR sn1 ι' u v := by
 obtain ⟨e1, e2⟩ := Za0 h5
 have hpl : ∀ b, b < k -> ∃ p, ι b = some p /\ ι1 b = some p := fun b hb => by
  obtain ⟨p, hp⟩ := (hR.dom b).1 (by omega)
  exact ⟨p, hp, s1.keep b p hb hp⟩
 let ι' : Z0k := fun b => if b < k then ι1 b else none
 have hi : ∀ b, b < k -> ∀ p, ι1 b = some p -> ι' b = some p := fun b hb p hp => by show (if b < k then ι1 b else none) = some p; rw [if_pos hb]; exact hp
 have hi2 : ∀ b p, ι' b = some p -> b < k /\ ι1 b = some p := fun b p hp => by
  have hp : (if b < k then ι1 b else none) = some p := hp
  split at hp
  · exact ⟨by assumption, hp⟩
  · cases hp
 have hH : ∀ (b : Nat) (o : AObj), H1[b]? = some o -> b < k /\ H[b]? = some o := fun b o hb => by
  have hb' : b < H1.length := (List.getElem?_eq_some_iff.1 hb).1
  rw [e1, hk] at hb'
  rw [<- h3, List.getElem?_take_of_lt hb'] at hb
  exact ⟨hb', hb⟩
 have hR1 : R sn1 ι' H1 W1 := by
  refine ⟨fun b => ⟨fun hb => ?_, fun ⟨p, hp⟩ => ?_⟩, fun b p hp => s1.rel.blk b p (hi2 b p hp).2, fun b o p hb hal hp => ?_, fun b b' o o' p p' hb hb' ha ha' hp hp' e => ?_, fun ad v hv => ?_, fun b o p hb hp e => ?_⟩
  · rw [e1, hk] at hb
    obtain ⟨p, _, hp⟩ := hpl b hb
    exact ⟨p, hi b hb p hp⟩
  · rw [e1, hk]; exact (hi2 b p hp).1
  · obtain ⟨hb1, hb2⟩ := hH b o hb
    obtain ⟨_, hp⟩ := hi2 b p hp
    have h0 : b < H0.length := by omega
    have h6 := (e2 b _ o (List.getElem?_eq_getElem h0) hb).2.2.2
    exact Z4T o.body p (fun x hx q hq => hi x (Z1f h6 x hx) q hq) (s1.rel.obj b o p hb2 hal hp)
  · obtain ⟨_, hb2⟩ := hH b o hb
    obtain ⟨_, hb2'⟩ := hH b' o' hb'
    exact s1.rel.sep b b' o o' p p' hb2 hb2' ha ha' (hi2 _ _ hp).2 (hi2 _ _ hp').2 e
  · obtain ⟨g1, g2, g3⟩ := s1.rel.snap ad v hv
    refine ⟨g1, g2, fun b o p hb hal hp => ?_⟩
    obtain ⟨_, hb2⟩ := hH b o hb
    exact g3 b o p hb2 hal (hi2 _ _ hp).2
  · obtain ⟨_, hb2⟩ := hH b o hb
    exact s1.rel.shz b o p hb2 (hi2 _ _ hp).2 e
 refine ⟨ι', ⟨hR1, ⟨s1.le, fun b p hb => ?_⟩, fun b p hp => .inl ?_, s1.frame, s1.size, s1.os, s1.tape, s1.output, s1.sfresh, fun b o hb => ?_⟩, fun u v hu hv => ?_⟩
 · have hbk : b < k := by have := (hR.dom b).2 ⟨p, hb⟩; omega
   exact hi b hbk p (s1.keep b p hbk hb)
 · obtain ⟨hbk, hp1⟩ := hi2 b p hp
   obtain ⟨q, hq, hq1⟩ := hpl b hbk
   rw [hq1] at hp1; cases hp1; exact hq
 · have hb0 := (List.getElem?_eq_some_iff.1 hb).1
   have hb1 : b < H1.length := by omega
   obtain ⟨g1, g2, g3, _⟩ := e2 b o _ hb (List.getElem?_eq_getElem hb1)
   exact ⟨_, List.getElem?_eq_getElem hb1, g1, g2, g3⟩
 · exact Z1g (ι := ι1) u [] _ (fun x hx q hq => hi x (Z1f hu x hx) q hq) hv
theorem fn_memR {rf : AV -> Array Tmp -> Code -> Code -> KN -> KX -> KN -> Tr -> Z00 -> Prop} {P : Program} {gl : Z0l} {orc : Orc} {k : Nat} (hrf : Zmi P gl none k rf) (hm : P.follows .mixedOrders = true) (hn : NoNum P) (hO : Z06 P gl orc) {f : Nat} {fn : Func} {c : Code} {args : List AV} {H0 H1 : Z00} {r : AV} (hk : H0.length = k)
  (hf : P.funcs[f]? = some fn) (hc : fn.body = some c) {cw : CW} (hcw : Zan P orc cw)
  (h : Z2z (tmk (Z8a args fn.ntmps args.length) (Z8r 20 fn.ntmps)) fun tm => Z1t P gl orc cw ⟨Z5T k, rf⟩ c (ZlN P fn.results.toList k H0 r H1) (fun _ _ _ => False) (ZlN P fn.results.toList k H0 r H1) tm H0) : Z1O P gl f args H0 r H1 := by
 intro sn ι W cargs hg hR ha
 rw [Z2f] at h
 refine .inl (Z26 hf hc (Z1b (rd := none) hrf hm hn hO hcw c h) hg hR ha (fun _ _ _ h => h) fun x tm1 H a1 W1 sn1 ι1 hx s1 t1 => ?_)
 have key : ZlN P fn.results.toList k H0 r H1 tm1 H -> ∃ v, (results fn a1.tmps).run P W1 = .ok v W1 /\ ∃ sn' ι', VR sn' ι' r v /\ Stp sn ι H0 W sn' ι' H1 W1 := by
  intro h
  obtain ⟨us, h1, h2, h3, h4⟩ := Z03 h
  simp only [Bool.and_eq_true] at h4
  obtain ⟨h4, h5⟩ := h4
  obtain ⟨vs, k1, k2⟩ := Z13 s1.rel t1 _ _ h1
  obtain ⟨ι', g1, g2⟩ := Zej hk hR s1 h3 h5
  refine ⟨_, Z1c k2, sn1, ι', ?_, g1⟩
  rw [<- h2] at h4 ⊢
  exact g2 _ _ h4 (Z5b (fn := fn) k1)
 cases x with
 | normal =>
  obtain ⟨v, k1, sn', ι', k2, k3⟩ := key hx
  exact ⟨v, k1, v, sn', ι', rfl, k2, k3⟩
 | exit id => exact hx.elim
 | ret =>
  obtain ⟨v, k1, sn', ι', k2, k3⟩ := key hx
  exact ⟨v, k1, v, sn', ι', rfl, k2, k3⟩
theorem ZlM {P : Program} {gl : Z0l} {orc : Orc} (hm : P.follows .mixedOrders = true) (hn : NoNum P) (hO : Z06 P gl orc) {f k : Nat} {fn : Func} {c : Code} {args : List AV} {H0 H1 : Z00} {r : AV} (hk : H0.length = k)
  (hf : P.funcs[f]? = some fn) (hc : fn.body = some c) {cw : CW} (hcw : Zan P orc cw)
  (h : Z2z (tmk (Z8a args fn.ntmps args.length) (Z8r 20 fn.ntmps)) fun tm => Z1t P gl orc cw (Z6h k) c (ZlN P fn.results.toList k H0 r H1) (fun _ _ _ => False) (ZlN P fn.results.toList k H0 r H1) tm H0) : Z1O P gl f args H0 r H1 :=
 fn_memR (fun _ _ _ _ _ _ _ _ _ _ _ h => h.elim) hm hn hO hk hf hc hcw h
section orcI
open Classical
noncomputable def orcI {I : Type} (G : I -> Prop) (fF : I -> Nat) (fA : I -> List AV) (fH : I -> Z00) (fR : I -> AV) (fO : I -> Z00) : Orc := fun f args H =>
 if h : ∃ i, G i /\ fF i = f /\ fA i = args /\ fH i = H then some (fR (Classical.choose h), fO (Classical.choose h)) else none
theorem Zew {P : Program} {gl : Z0l} {I : Type} {G : I -> Prop} {fF : I -> Nat} {fA : I -> List AV} {fH : I -> Z00} {fR : I -> AV} {fO : I -> Z00} (h : ∀ i, G i -> Z1O P gl (fF i) (fA i) (fH i) (fR i) (fO i)) : Z06 P gl (orcI G fF fA fH fR fO) := by
 intro f args H r H' e
 unfold orcI at e
 split at e
 · rename_i hx
   simp only [Option.some.injEq, Prod.mk.injEq] at e
   obtain ⟨rfl, rfl⟩ := e
   obtain ⟨g1, e1, e2, e3⟩ := Classical.choose_spec hx
   have := h _ g1
   rw [e1, e2, e3] at this; exact this
 · cases e
theorem ZmL {P : Program} {I : Type} {G : I -> Prop} {fF : I -> Nat} {fA : I -> List AV} {fH : I -> Z00} {fR : I -> AV} {fO : I -> Z00} (hinj : ∀ i j, G i -> G j -> fF i = fF j -> fA i = fA j -> fH i = fH j -> fR i = fR j /\ fO i = fO j) {g : Nat} {args : List AV} {H : Z00} (hb : Z0C P g = true) (i : I) (hi : G i) (h1 : fF i = g) (h2 : fA i = args) (h3 : fH i = H) :
  Z04 P (orcI G fF fA fH fR fO) H g args = some (fR i, fO i) := by
 have hx : ∃ i, G i /\ fF i = g /\ fA i = args /\ fH i = H := ⟨i, hi, h1, h2, h3⟩
 unfold Z04
 rw [if_pos hb]
 unfold orcI
 rw [dif_pos hx]
 obtain ⟨g1, g2, g3, g4⟩ := Classical.choose_spec hx
 obtain ⟨e1, e2⟩ := hinj _ i g1 hi (g2.trans h1.symm) (g3.trans h2.symm) (g4.trans h3.symm)
 rw [e1, e2]
end orcI
end Go.Abs
end

section
namespace Go.Abs
open Go.RowKit
mutual
def Zdc : AV -> Bool
 | .rp _ => false
 | .rs _ _ _ => false
 | .func _ f c => noROL f && noROL c
 | .iface _ v => Zdc v
 | .agg cs => noROL cs
 | .tuple cs => noROL cs
 | .bool _ => true
 | .int _ _ => true
 | .str _ => true
 | .nptr => true
 | .ptr _ _ => true
 | .nslice => true
 | .slice _ _ _ _ _ => true
 | .nmap => true
 | .map _ => true
 | .nfunc => true
 | .niface => true
def noROL : List AV -> Bool
 | [] => true
 | c :: l => Zdc c && noROL l
end
def ZhU : List (AV × AV × Nat) -> Bool
 | [] => true
 | (k, v, _) :: l => Zdc k && (Zdc v && ZhU l)
def ZhT : List (Nat × AV) -> Bool
 | [] => true
 | x :: l => Zdc x.2 && ZhT l
def Zk2 : ABody -> Bool
 | .cells cs _ => noROL cs
 | .map es _ => ZhU es
 | .siter _ _ => true
 | .loop _ ts => ZhT ts
def Zg0 : Z00 -> Bool
 | [] => true
 | o :: l => Zk2 o.body && Zg0 l
mutual
theorem Z4S {sn sn' : Z0j} {ι : Z0k} : ∀ (u : AV) (v : Value), Zdc u = true -> VR sn ι u v -> VR sn' ι u v
 | .rp _, v, h, e => by simp [Zdc] at h
 | .rs _ _ _, v, h, e => by simp [Zdc] at h
 | .func fn f c, v, h, e => by
  simp only [Zdc, Bool.and_eq_true] at h
  simp only [VR] at *; obtain ⟨x, y, h1, h2, h3⟩ := e
  exact ⟨x, y, h1, LR_snap f _ h.1 h2, LR_snap c _ h.2 h3⟩
 | .iface t u, v, h, e => by
  simp only [Zdc] at h
  simp only [VR] at *; obtain ⟨x, h1, h2⟩ := e
  exact ⟨x, h1, Z4S u _ h h2⟩
 | .agg cs, v, h, e => by
  simp only [Zdc] at h
  simp only [VR] at *; obtain ⟨x, h1, h2⟩ := e
  exact ⟨x, h1, LR_snap cs _ h h2⟩
 | .tuple cs, v, h, e => by
  simp only [Zdc] at h
  simp only [VR] at *; obtain ⟨x, h1, h2⟩ := e
  exact ⟨x, h1, LR_snap cs _ h h2⟩
 | .bool _, v, h, e => by simpa [VR] using e
 | .int _ _, v, h, e => by simpa [VR] using e
 | .str _, v, h, e => by simpa [VR] using e
 | .nptr, v, h, e => by simpa [VR] using e
 | .ptr _ _, v, h, e => by simpa [VR] using e
 | .nslice, v, h, e => by simpa [VR] using e
 | .slice _ _ _ _ _, v, h, e => by simpa [VR] using e
 | .nmap, v, h, e => by simpa [VR] using e
 | .map _, v, h, e => by simpa [VR] using e
 | .nfunc, v, h, e => by simpa [VR] using e
 | .niface, v, h, e => by simpa [VR] using e
theorem LR_snap {sn sn' : Z0j} {ι : Z0k} : ∀ (us : List AV) (vs : List Value), noROL us = true -> LR sn ι us vs -> LR sn' ι us vs
 | [], vs, h, e => by simpa [LR] using e
 | u :: us, vs, h, e => by
  simp only [noROL, Bool.and_eq_true] at h
  simp only [LR] at *; obtain ⟨d, ds, h1, h2, h3⟩ := e
  exact ⟨d, ds, h1, Z4S u _ h.1 h2, LR_snap us _ h.2 h3⟩
end
theorem Zhc {sn sn' : Z0j} {ι : Z0k} : ∀ (es : List (AV × AV × Nat)) (l : List MapEntry), ZhU es = true -> ER sn ι es l -> ER sn' ι es l
 | [], l, h, e => by simpa [ER] using e
 | (k, v, n) :: es, l, h, e => by
  simp only [ZhU, Bool.and_eq_true] at h
  simp only [ER] at *
  obtain ⟨x, l', h1, h2, h3, h4, h5⟩ := e
  exact ⟨x, l', h1, Z4S k _ h.1 h2, Z4S v _ h.2.1 h3, h4, Zhc es _ h.2.2 h5⟩
theorem Ze3 {sn sn' : Z0j} {ι : Z0k} {a : Array Value} : ∀ (ts : List (Nat × AV)), ZhT ts = true -> TSR sn ι ts a -> TSR sn' ι ts a
 | [], h, e => trivial
 | x :: l, h, ⟨⟨v, h1, h2⟩, h3⟩ => by
  simp only [ZhT, Bool.and_eq_true] at h
  exact ⟨⟨v, h1, Z4S x.2 v h.1 h2⟩, Ze3 l h.2 h3⟩
theorem ZkZ {sn sn' : Z0j} {ι : Z0k} {W : World} {p : Place} : ∀ (b : ABody), Zk2 b = true -> OR sn ι W b p -> OR sn' ι W b p
 | .cells cs ty, h, e => by
  simp only [OR] at e ⊢
  obtain ⟨arr, h1, h2, h3, h4⟩ := e
  refine ⟨arr, h1, h2, h3, fun i c hc => ?_⟩
  obtain ⟨v, k1, k2⟩ := h4 i c hc
  have hn : ∀ (l : List AV) (i : Nat), noROL l = true -> l[i]? = some c -> Zdc c = true := by
   intro l
   induction l with
   | nil => intro i h hc; simp at hc
   | cons x l ih =>
    intro i h hc
    simp only [noROL, Bool.and_eq_true] at h
    cases i with
    | zero => simp at hc; subst hc; exact h.1
    | succ i => exact ih i h.2 (by simpa using hc)
  exact ⟨v, k1, Z4S c v (hn cs i h hc) k2⟩
 | .map es c, h, e => by
  simp only [OR] at e ⊢
  obtain ⟨mes, h1, h2⟩ := e
  exact ⟨mes, h1, Zhc es _ h h2⟩
 | .siter s q, h, e => by simpa only [OR] using e
 | .loop g ts, h, e => by
  simp only [OR] at e ⊢
  obtain ⟨r, h1, h2, h3, h4⟩ := e
  exact ⟨r, h1, h2, h3, Ze3 ts h h4⟩
def Zlp (f : Nat -> Nat) : List (AV × AV × Nat) -> List (AV × AV × Nat)
 | [] => []
 | (k, v, n) :: l => (ren f k, ren f v, n) :: Zlp f l
def Zmm (f : Nat -> Nat) : List (Nat × AV) -> List (Nat × AV)
 | [] => []
 | x :: l => (x.1, ren f x.2) :: Zmm f l
def Z1C (f : Nat -> Nat) : ABody -> ABody
 | .cells cs ty => .cells (renL f cs) ty
 | .map es c => .map (Zlp f es) c
 | .siter s p => .siter s p
 | .loop g ts => .loop g (Zmm f ts)
theorem Zd0 (f : Nat -> Nat) : ∀ (l : List AV) (i : Nat), (renL f l)[i]? = (l[i]?).map (ren f)
 | [], i => by simp [renL]
 | c :: l, 0 => by simp [renL]
 | c :: l, i + 1 => by simpa [renL] using Zd0 f l i
theorem ZcZ (f : Nat -> Nat) : ∀ (l : List AV), (renL f l).length = l.length
 | [] => rfl
 | c :: l => by simp [renL, ZcZ f l]
theorem Zjk {sn : Z0j} {ι : Z0k} {f : Nat -> Nat} : ∀ (es : List (AV × AV × Nat)) (l : List MapEntry), ER sn (fun b => ι (f b)) es l -> ER sn ι (Zlp f es) l
 | [], l, e => by simpa [ER, Zlp] using e
 | (k, v, n) :: es, l, e => by
  simp only [ER, Zlp] at *
  obtain ⟨x, l', h1, h2, h3, h4, h5⟩ := e
  exact ⟨x, l', h1, (Z4y k _).2 h2, (Z4y v _).2 h3, h4, Zjk es _ h5⟩
theorem Zh8 {sn : Z0j} {ι : Z0k} {f : Nat -> Nat} {a : Array Value} : ∀ (ts : List (Nat × AV)), TSR sn (fun b => ι (f b)) ts a -> TSR sn ι (Zmm f ts) a
 | [], e => trivial
 | x :: l, ⟨⟨v, h1, h2⟩, h3⟩ => ⟨⟨v, h1, (Z4y x.2 _).2 h2⟩, Zh8 l h3⟩
theorem Z97 {sn : Z0j} {ι : Z0k} {f : Nat -> Nat} {W : World} {p : Place} : ∀ (b : ABody), OR sn (fun b => ι (f b)) W b p -> OR sn ι W (Z1C f b) p
 | .cells cs ty, e => by
  simp only [OR, Z1C] at *
  obtain ⟨arr, h1, h2, h3, h4⟩ := e
  refine ⟨arr, h1, h2, by rw [ZcZ]; exact h3, fun i c hc => ?_⟩
  rw [Zd0] at hc
  cases hx : cs[i]? with
  | none => rw [hx] at hc; cases hc
  | some x =>
   rw [hx] at hc; simp at hc; subst hc
   obtain ⟨v, k1, k2⟩ := h4 i x hx
   exact ⟨v, k1, (Z4y x _).2 k2⟩
 | .map es c, e => by
  simp only [OR, Z1C] at *
  obtain ⟨mes, h1, h2⟩ := e
  exact ⟨mes, h1, Zjk es _ h2⟩
 | .siter s q, e => by simpa only [OR, Z1C] using e
 | .loop g ts, e => by
  simp only [OR, Z1C] at *
  obtain ⟨r, h1, h2, h3, h4⟩ := e
  exact ⟨r, h1, h2, h3, Zh8 ts h4⟩
def Z3m : List Nat -> Nat -> Nat -> Option Nat
 | [], _, _ => none
 | j :: l, b, i => if Nat.beq j b then some i else Z3m l b (i + 1)
theorem Z38 : ∀ {m : List Nat} {b i j : Nat}, Z3m m b i = some j -> i <= j /\ m[j - i]? = some b
 | [], b, i, j, h => by simp [Z3m] at h
 | x :: m, b, i, j, h => by
  simp only [Z3m] at h
  split at h
  · rename_i e
    cases h
    exact ⟨Nat.le_refl _, by simp [Nat.eq_of_beq_eq_true e]⟩
  · obtain ⟨h1, h2⟩ := Z38 h
    refine ⟨by omega, ?_⟩
    rw [show j - i = (j - (i + 1)) + 1 by omega]; simpa using h2
theorem Z7p : ∀ {m : List Nat} {b i : Nat}, Z3m m b i = none -> b ∉ m
 | [], b, i, h => by simp
 | x :: m, b, i, h => by
  simp only [Z3m] at h
  split at h
  · cases h
  · rename_i e
    intro hm
    rcases List.mem_cons.1 hm with rfl | hm
    · exact e (by simp)
    · exact Z7p h hm
def Zj7 (m : List Nat) (Hk : Z00) : Nat -> AV -> Option AV
 | 0, _ => none
 | n + 1, u => match u with
  | .ptr b off => match Z3m m b 0 with | some i => some (.ptr i off) | none => frz Hk 30 (.ptr b off)
  | .slice b off len cap z => match Z3m m b 0 with | some i => some (.slice i off len cap z) | none => frz Hk 30 (.slice b off len cap z)
  | .map b => match Z3m m b 0 with | some i => some (.map i) | none => none
  | .func fn f c => match Z0L (Zj7 m Hk n) f, Z0L (Zj7 m Hk n) c with | some f, some c => some (.func fn f c) | _, _ => none
  | u => frz Hk 30 u
def Zg6 (m fs : List Nat) : Nat -> Z00 -> Bool
 | _, [] => true
 | i, o :: H => (mem i m || !mem o.fam fs) && Zg6 m fs (i + 1) H
theorem ZaZ {m fs : List Nat} : ∀ {H : Z00} {i j : Nat} {o : AObj}, Zg6 m fs i H = true -> H[j]? = some o -> i + j ∈ m \/ o.fam ∉ fs
 | [], i, j, o, h, e => by simp at e
 | x :: H, i, 0, o, h, e => by
  simp only [Zg6, Bool.and_eq_true, Bool.or_eq_true, Bool.not_eq_true'] at h
  simp at e; subst e
  rcases h.1 with h1 | h1
  · exact .inl (Z18.1 h1)
  · exact .inr fun e => by rw [Z18.2 e] at h1; cases h1
 | x :: H, i, j + 1, o, h, e => by
  simp only [Zg6, Bool.and_eq_true] at h
  have := ZaZ h.2 (by simpa using e)
  rcases this with h1 | h1
  · exact .inl (by rw [show i + (j + 1) = i + 1 + j by omega]; exact h1)
  · exact .inr h1
def Zed (m : List Nat) (Hs : Z00) : Nat -> Z00 -> Z00
 | _, [] => []
 | i, o :: H => (match Z3m m i 0 with
  | some j => match Hs[j]? with
   | some o' => { o with alive := o'.alive, body := Z1C (fun b => m.getD b 0) o'.body }
   | none => o
  | none => o) :: Zed m Hs (i + 1) H
end Go.Abs
end

section
namespace Go.Abs
open Go.RowKit
theorem Z1R {sn sn2 : Z0j} {ι : Z0k} {H : Z00} {W : World} (hobj : ∀ (b : Nat) (o : AObj) p, H[b]? = some o -> o.alive = true -> ι b = some p -> OR sn ι W o.body p) (hle : Le sn sn2 noI noI)
  (hcell : ∀ (b : Nat) (o : AObj) p, H[b]? = some o -> o.alive = true -> ι b = some p -> ∀ (off : Nat) (v : Value), W.cell? ⟨p.blk, off, none⟩ = some v -> sn2 ⟨p.blk, off, none⟩ = some v) :
  ∀ (n : Nat) (u r : AV) (v : Value), frz H n u = some r -> VR sn ι u v -> VR sn2 noI r v := by
 intro n
 induction n with
 | zero => intro u r v h; simp [frz] at h
 | succ n ih =>
  have cells : ∀ {b : Nat} {o : AObj} {p : Place} {cs l : List AV} {ty : TypeId} {off : Nat}, H[b]? = some o -> o.alive = true -> o.body = .cells cs ty -> ι b = some p -> Z0L (frz H n) (cs.drop off) = some l -> MR sn2 l p.blk (p.sh + off) := by
   intro b o p cs l ty off ho ha hb hp hl
   obtain ⟨_, h2⟩ := Z5s hl
   have hor := hobj b o p ho ha hp
   rw [hb] at hor
   simp only [OR] at hor
   obtain ⟨arr, k1, k2, k3, k4⟩ := hor
   refine Z2v fun i x hx => ?_
   obtain ⟨c, hc, hcx⟩ := h2 i x hx
   rw [List.getElem?_drop] at hc
   obtain ⟨v, e1, e2⟩ := k4 (off + i) c hc
   refine ⟨v, ?_, ih c x v hcx e2⟩
   refine hcell b o p ho ha hp _ _ ?_
   rw [Z25 k1]
   rw [<- e1]; congr 1; omega
  intro u r v h hv
  unfold frz at h
  split at h
  · rename_i b off
    split at h <;> try (simp at h; done)
    rename_i o ho
    split at h <;> try (simp at h; done)
    rename_i cs ty ha hb
    split at h <;> simp at h
    rename_i l hl
    subst h
    obtain ⟨p, hp, rfl⟩ := hv.ptr
    simp only [VR]
    exact ⟨_, _, rfl, cells ho ha hb hp hl⟩
  · rename_i b off len cap z
    obtain ⟨p, a, cap', hp, rfl, h1, h2, h3⟩ := hv.slice
    split at h
    · simp at h; subst h
      simp only [VR]
      exact .inr ⟨a, cap', rfl, by omega, by simp, by simp [MR], fun h => absurd rfl h⟩
    · rename_i len
      split at h <;> try (simp at h; done)
      rename_i o ho
      split at h <;> try (simp at h; done)
      rename_i cs ty ha hb
      split at h <;> try (simp at h; done)
      rename_i cs' hcs
      split at h <;> simp at h
      rename_i l hl
      subst h
      obtain ⟨ha', _⟩ := h3 (by omega)
      subst ha'
      obtain ⟨e1, rfl⟩ := Z3N hcs
      obtain ⟨f1, f2⟩ := Z5s hl
      simp only [VR]
      refine .inr ⟨_, cap', rfl, by omega, ?_, ?_, fun _ => rfl⟩
      · rw [f1, List.length_take]; exact Nat.min_eq_left e1
      · have hor := hobj b o p ho ha hp
        rw [hb] at hor
        simp only [OR] at hor
        obtain ⟨arr, k1, k2, k3, k4⟩ := hor
        refine Z2v fun i x hx => ?_
        obtain ⟨c, hc, hcx⟩ := f2 i x hx
        rw [List.getElem?_take] at hc
        split at hc <;> try (simp at hc; done)
        rw [List.getElem?_drop] at hc
        obtain ⟨v, g1, g2⟩ := k4 (off + i) c hc
        refine ⟨v, ?_, ih c x v hcx g2⟩
        refine hcell b o p ho ha hp _ _ ?_
        rw [Z25 k1]
        rw [<- g1]; congr 1; simp only; omega
  · split at h <;> simp at h
    rename_i l hl; subst h
    obtain ⟨d, rfl, h1⟩ := hv.agg
    exact Z3K (Z0O ih hl h1)
  · split at h <;> simp at h
    rename_i l hl; subst h
    obtain ⟨d, rfl, h1⟩ := hv.tuple
    exact Z45 (Z0O ih hl h1)
  · split at h <;> simp at h
    rename_i x hx; subst h
    obtain ⟨y, rfl, h1⟩ := hv.iface
    simp only [VR]; exact ⟨y, rfl, ih _ _ _ hx h1⟩
  · split at h <;> simp at h
    rename_i f c hf hc; subst h
    obtain ⟨x, y, rfl, h1, h2⟩ := hv.func
    simp only [VR]; exact ⟨x, y, rfl, Z0O ih hf h1, Z0O ih hc h2⟩
  · simp at h
  · rename_i e1 e2 e3 e4 e5 e6 e7
    simp at h; subst h
    cases u with
    | ptr b o => exact (e1 _ _ rfl).elim
    | slice b o l c z => exact (e2 _ _ _ _ _ rfl).elim
    | agg cs => exact (e3 _ rfl).elim
    | tuple cs => exact (e4 _ rfl).elim
    | iface t v => exact (e5 _ _ rfl).elim
    | func fn f c => exact (e6 _ _ _ rfl).elim
    | map b => exact (e7 _ rfl).elim
    | _ => exact Z0W (ι := noI) hle _ _ (Z1g (ι := ι) _ [] _ (fun b hb => by simp [Z1N] at hb) hv)
theorem Zli {m : List Nat} {H H2 : Z00} (hp : HpGe H m m H2 0) (hfam : Z0Q (m.map (Z1r H)) = true) {sn : Z0j} {ι : Z0k} {W : World} (hR : R sn ι H W) : R sn (iot m ι) H2 W := by
 obtain ⟨hl, hg⟩ := hp.get
 have at2 : ∀ {b : Nat} {o2 : AObj} {p : Place}, H2[b]? = some o2 -> iot m ι b = some p -> ∃ j o, m[b]? = some j /\ H[j]? = some o /\ ι j = some p /\ o.alive = true /\ o2.alive = true /\ o2.fam = b /\ o2.sh = o.sh /\ BodyGe m o.body o2.body := by
  intro b o2 p hb hp
  obtain ⟨j, o, o2', x1, x2, x3, x4, x5, x6, x7, x8⟩ := hg b (by rw [<- hl]; exact (List.getElem?_eq_some_iff.1 hb).1)
  rw [hb] at x3; simp at x3; subst x3
  simp only [iot, x1] at hp
  exact ⟨j, o, x1, x2, hp, x4, x5, by omega, x7, x8⟩
 have hR2 : R sn (iot m ι) H2 W := by
  refine ⟨fun b => ⟨fun hb => ?_, fun ⟨p, hp⟩ => ?_⟩, fun b p hp => ?_, fun b o2 p hb ha hp => ?_, fun b b' o o' p p' hb hb' ha ha' hp hp' e => ?_, fun ad v hv => ?_, fun b o2 p hb hp e => ?_⟩
  · obtain ⟨j, o, o2, x1, x2, _⟩ := hg b (by omega)
    obtain ⟨p, hp⟩ := hR.place x2
    exact ⟨p, by simp only [iot, x1]; exact hp⟩
  · unfold iot at hp
    split at hp
    · rename_i j hj; rw [hl]; exact (List.getElem?_eq_some_iff.1 hj).1
    · cases hp
  · unfold iot at hp
    split at hp
    · exact hR.blk _ p hp
    · cases hp
  · obtain ⟨j, o, x1, x2, x3, x4, x5, x6, x7, x8⟩ := at2 hb hp
    exact x8.or (hR.obj j o p x2 x4 x3)
  · obtain ⟨j, q, x1, x2, x3, x4, x5, x6, x7, x8⟩ := at2 hb hp
    obtain ⟨j', q', y1, y2, y3, y4, y5, y6, y7, y8⟩ := at2 hb' hp'
    have hs := hR.sep j j' q q' p p' x2 y2 x4 y4 x3 y3 e
    have : b = b' := Z4d (l := m.map (Z1r H)) (x := q.fam) hfam (by simp [x1, Z1r, x2]) (by simp [y1, Z1r, y2, hs.1])
    subst this
    exact ⟨by rw [x6, y6], by rw [x7, y7]; exact hs.2⟩
  · obtain ⟨h1, h2, h3⟩ := hR.snap ad v hv
    refine ⟨h1, h2, fun b o2 p hb ha hp => ?_⟩
    obtain ⟨j, o, x1, x2, x3, x4, _⟩ := at2 hb hp
    exact h3 j o p x2 x4 x3
  · obtain ⟨j, o, x1, x2, x3, x4, x5, x6, x7, x8⟩ := at2 hb hp
    exact hR.shz j o p x2 x3 (by omega)
 exact hR2
def Zm8 (m : List Nat) (H : Z00) : Z00 := kil (fun i _ => mem i m) 0 H
theorem Zdp {m : List Nat} {H : Z00} {b : Nat} {o : AObj} (h : (Zm8 m H)[b]? = some o) (ha : o.alive = true) : H[b]? = some o /\ b ∉ m := by
 unfold Zm8 at h
 rw [Z2U] at h
 cases hx : H[b]? with
 | none => rw [hx] at h; cases h
 | some x =>
  rw [hx] at h
  simp only [Option.map_some, Option.some.injEq, Nat.zero_add] at h
  split at h
  · subst h; simp [AObj.dead] at ha
  · rename_i hm
    subst h
    exact ⟨rfl, fun hb => hm (Z18.2 hb)⟩
theorem ZcL (m : List Nat) (Hs : Z00) : ∀ (H : Z00) (i b : Nat), (Zed m Hs i H)[b]? = (H[b]?).map fun o => match Z3m m (i + b) 0 with
  | some j => match Hs[j]? with
   | some o' => { o with alive := o'.alive, body := Z1C (fun b => m.getD b 0) o'.body }
   | none => o
  | none => o
 | [], i, b => by simp [Zed]
 | o :: H, i, 0 => by
  simp only [Zed, List.getElem?_cons_zero, Option.map_some, Nat.add_zero] <;> rfl
 | o :: H, i, b + 1 => by
  simp only [Zed, List.getElem?_cons_succ]
  rw [ZcL m Hs H (i + 1) b, show i + 1 + b = i + (b + 1) by omega]
theorem ZeK {sn sn2 : Z0j} {ι : Z0k} {H : Z00} {W : World} {m : List Nat} (hobj : ∀ (b : Nat) (o : AObj) p, H[b]? = some o -> o.alive = true -> ι b = some p -> OR sn ι W o.body p) (hle : Le sn sn2 noI noI)
  (hcell : ∀ (b : Nat) (o : AObj) p, H[b]? = some o -> o.alive = true -> ι b = some p -> ∀ (off : Nat) (v : Value), W.cell? ⟨p.blk, off, none⟩ = some v -> sn2 ⟨p.blk, off, none⟩ = some v) :
  ∀ (n : Nat) (u r : AV) (v : Value), Zj7 m H n u = some r -> VR sn ι u v -> VR sn2 (iot m ι) r v := by
 have lift : ∀ {r : AV} {v : Value}, VR sn2 noI r v -> VR sn2 (iot m ι) r v := fun h => Z0W ⟨fun _ _ h => h, fun b p h => by simp [noI] at h⟩ _ _ h
 have at_ : ∀ {b i : Nat}, Z3m m b 0 = some i -> ∀ p, ι b = some p -> iot m ι i = some p := fun h p hp => by
  have := (Z38 h).2
  simp only [Nat.sub_zero] at this
  simp only [iot, this]; exact hp
 intro n
 induction n with
 | zero => intro u r v h; simp [Zj7] at h
 | succ n ih =>
  intro u r v h hv
  unfold Zj7 at h
  split at h
  · split at h
    · rename_i b off i hi
      simp at h; subst h
      obtain ⟨p, hp, rfl⟩ := hv.ptr
      simp only [VR]; exact ⟨p, at_ hi p hp, rfl⟩
    · exact lift (Z1R hobj hle hcell 30 _ _ _ h hv)
  · split at h
    · rename_i b off len cap z i hi
      simp at h; subst h
      obtain ⟨p, a, cap', hp, h1⟩ := hv.slice
      simp only [VR]; exact ⟨p, a, cap', at_ hi p hp, h1⟩
    · exact lift (Z1R hobj hle hcell 30 _ _ _ h hv)
  · split at h
    · rename_i b i hi
      simp at h; subst h
      simp only [VR] at hv ⊢
      obtain ⟨p, hp, h1⟩ := hv
      exact ⟨p, at_ hi p hp, h1⟩
    · cases h
  · split at h <;> simp at h
    rename_i f c hf hc; subst h
    obtain ⟨x, y, rfl, h1, h2⟩ := hv.func
    have each : ∀ {l l' : List AV} {vs : List Value}, Z0L (Zj7 m H n) l = some l' -> LR sn ι l vs -> LR sn2 (iot m ι) l' vs := by
     intro l
     induction l with
     | nil => intro l' vs h e; simp [Z0L] at h; subst h; simpa [LR] using e
     | cons c l ih2 =>
      intro l' vs h e
      simp only [Z0L] at h
      split at h <;> simp at h
      rename_i x y hx hy
      subst h
      simp only [LR] at e ⊢
      obtain ⟨d, ds, rfl, h1, h2⟩ := e
      exact ⟨d, ds, rfl, ih _ _ _ hx h1, ih2 hy h2⟩
    simp only [VR]; exact ⟨x, y, rfl, each hf h1, each hc h2⟩
  · exact lift (Z1R hobj hle hcell 30 _ _ _ h hv)
theorem Z7C {sn sn2 : Z0j} {ι : Z0k} {H : Z00} {W : World} {m : List Nat} (hobj : ∀ (b : Nat) (o : AObj) p, H[b]? = some o -> o.alive = true -> ι b = some p -> OR sn ι W o.body p) (hle : Le sn sn2 noI noI)
  (hcell : ∀ (b : Nat) (o : AObj) p, H[b]? = some o -> o.alive = true -> ι b = some p -> ∀ (off : Nat) (v : Value), W.cell? ⟨p.blk, off, none⟩ = some v -> sn2 ⟨p.blk, off, none⟩ = some v) (n : Nat) :
  ∀ (us rs : List AV) (vs : List Value), Z0L (Zj7 m H n) us = some rs -> LR sn ι us vs -> LR sn2 (iot m ι) rs vs
 | [], rs, vs, h, e => by simp [Z0L] at h; subst h; simpa [LR] using e
 | u :: us, rs, vs, h, e => by
  simp only [Z0L] at h
  split at h <;> simp at h
  rename_i x y hx hy
  subst h
  simp only [LR] at e ⊢
  obtain ⟨d, ds, rfl, h1, h2⟩ := e
  exact ⟨d, ds, rfl, ZeK hobj hle hcell n _ _ _ hx h1, Z7C hobj hle hcell n us y ds hy h2⟩
theorem ZaU : ∀ {H : Z00} {i : Nat} {o : AObj}, Zg0 H = true -> H[i]? = some o -> Zk2 o.body = true
 | [], i, o, h, e => by simp at e
 | x :: H, 0, o, h, e => by simp [Zg0] at h e; subst e; exact h.1
 | x :: H, i + 1, o, h, e => by simp [Zg0] at h e; exact ZaU h.2 e
theorem Zg4 {P : Program} {gl : Z0l} {f : Nat} {Hs Hs' Hc : Z00} {fargs cargs : List AV} {r : AV} {m : List Nat} {n : Nat} (hM : Z1O P gl f fargs Hs r Hs') (hargs : Z0L (Zj7 m (Zm8 m Hc) n) cargs = some fargs) (hsub : HpGe Hc m m Hs 0)
  (hnd : Z0Q (m.map (Z1r Hc)) = true) (hlone : Zg6 m (m.map (Z1r Hc)) 0 Hc = true) (hev : Zjb m.length Hs Hs' = true) (hro : Zg0 Hs' = true) (hrr : Zdc r = true) (hrk : Z0M m.length (Z1N r []) = true) :
  Z1O P gl f cargs Hc (ren (fun b => m.getD b 0) r) (Zed m Hs' 0 Hc) := by
 intro sn ι W vargs hg hR hl
 obtain ⟨hl1, hg1⟩ := hsub.get
 obtain ⟨hl2, hg2⟩ := Za0 hev
 have inm : ∀ b, b ∈ m -> ∃ (i : Nat) (o o2 : AObj) (p : Place), m[i]? = some b /\ Hc[b]? = some o /\ Hs[i]? = some o2 /\ o.alive = true /\ o2.alive = true /\ ι b = some p := by
  intro b hb
  obtain ⟨i, hi, rfl⟩ := List.mem_iff_getElem.1 hb
  obtain ⟨j, o, o2, x1, x2, x3, x4, x5, _⟩ := hg1 i hi
  rw [List.getElem?_eq_getElem hi] at x1
  cases x1
  obtain ⟨p, hp⟩ := hR.place x2
  exact ⟨i, o, o2, p, List.getElem?_eq_getElem hi, x2, x3, x4, x5, hp⟩
 have apart_ : ∀ (b : Nat) (o : AObj) (p : Place), Hc[b]? = some o -> o.alive = true -> b ∉ m -> ι b = some p -> ∀ b' p', b' ∈ m -> ι b' = some p' -> p'.blk ≠ p.blk := by
  intro b o p ho hoa hb hp b' p' hb' hp' e
  obtain ⟨i, o', o2, q, y1, y2, y3, y4, y5, y6⟩ := inm b' hb'
  have hs := hR.sep b b' o o' p p' ho y2 hoa y4 hp hp' e.symm
  rcases ZaZ hlone ho with h | h
  · exact hb (by simpa using h)
  · refine h ?_
    rw [List.mem_map]
    exact ⟨b', hb', by simp only [Z1r, y2]; exact hs.1.symm⟩
 let q : Nat -> Prop := fun c => ∃ b p, b ∈ m /\ ι b = some p /\ p.blk = c
 let sn2 : Z0j := fun a => open Classical in if q a.block \/ ¬ a.block < W.heap.size then none else W.cell? a
 have hsn2 : ∀ a v, sn2 a = some v -> ¬ q a.block /\ a.block < W.heap.size /\ W.cell? a = some v := fun a v h => by
  have h : (open Classical in if q a.block \/ ¬ a.block < W.heap.size then none else W.cell? a) = some v := h
  split at h
  · cases h
  · rename_i hx
    simp only [not_or, Classical.not_not] at hx
    exact ⟨hx.1, hx.2, h⟩
 have hsn2' : ∀ a v, ¬ q a.block -> a.block < W.heap.size -> W.cell? a = some v -> sn2 a = some v := fun a v h1 h2 h3 => by
  show (open Classical in if q a.block \/ ¬ a.block < W.heap.size then none else W.cell? a) = some v
  rw [if_neg (by simp only [not_or, Classical.not_not]; exact ⟨h1, h2⟩)]; exact h3
 have hle : ∀ a v, sn a = some v -> sn2 a = some v := fun a v hv => by
  obtain ⟨h1, h2, h3⟩ := hR.snap a v hv
  refine hsn2' a v ?_ h1 h2
  rintro ⟨b, p, hb, hp, e⟩
  obtain ⟨i, o, o2, p', y1, y2, y3, y4, y5, y6⟩ := inm b hb
  exact h3 b o p y2 y4 hp e
 have hR0 := Zli hsub hnd hR
 have atm : ∀ {i : Nat} {p : Place}, iot m ι i = some p -> ∃ b, m[i]? = some b /\ b ∈ m /\ ι b = some p := fun {i p} hp => by
  unfold iot at hp
  split at hp
  · rename_i b hb; exact ⟨b, hb, List.mem_of_getElem? hb, hp⟩
  · cases hp
 have hRs : R sn2 (iot m ι) Hs W := by
  refine ⟨hR0.dom, hR0.blk, fun b o p hb ha hp => Z0N ⟨hle, fun _ _ h => h⟩ rfl (hR0.obj b o p hb ha hp), hR0.sep, fun a v hv => ?_, hR0.shz⟩
  obtain ⟨h1, h2, h3⟩ := hsn2 a v hv
  refine ⟨h2, h3, fun b o p hb ha hp e => ?_⟩
  obtain ⟨c, _, hc, hp'⟩ := atm hp
  exact h1 ⟨c, p, hc, hp', e⟩
 have hla : LR sn2 (iot m ι) fargs vargs := by
  refine Z7C (H := Zm8 m Hc) (W := W) (fun b o p hb ha hp => ?_) (Z8g hle) (fun b o p hb ha hp off v hv => ?_) n _ _ _ hargs hl
  · exact hR.obj b o p (Zdp hb ha).1 ha hp
  · obtain ⟨h1, h2⟩ := Zdp hb ha
    refine hsn2' _ v ?_ (hR.blk b p hp) hv
    rintro ⟨b', p', hb', hp', e⟩
    exact apart_ b o p h1 ha h2 hp b' p' hb' hp' e
 refine (hM sn2 (iot m ι) W vargs (hg.mono (Z8g hle)) hRs hla).mono ?_
 rintro e W' ⟨v, sn', ι', rfl, hv, hst⟩
 have hback : ∀ i, i < m.length -> ∀ p, ι' i = some p -> ι (m.getD i 0) = some p := fun i hi p hp => by
  obtain ⟨b, hb⟩ : ∃ b, m[i]? = some b := ⟨m[i], List.getElem?_eq_getElem hi⟩
  obtain ⟨p0, hp0⟩ := (hRs.dom i).1 (by omega)
  have h1 := hst.le.ι i p0 hp0
  rw [hp] at h1; cases h1
  obtain ⟨c, hc, _, hp1⟩ := atm hp0
  rw [hb] at hc; cases hc
  rw [List.getD_eq_getElem?_getD, hb]; exact hp1
 have hfwd : ∀ (i b : Nat) (p : Place), m[i]? = some b -> ι b = some p -> ι' i = some p := fun i b p hb hp => hst.le.ι i p (by simp only [iot, hb]; exact hp)
 have pos_ : ∀ b, b ∈ m -> ∃ i, Z3m m b 0 = some i /\ m[i]? = some b := fun b hb => by
  cases hx : Z3m m b 0 with
  | none => exact (Z7p hx hb).elim
  | some i => exact ⟨i, rfl, by simpa using (Z38 hx).2⟩
 have old : ∀ (b : Nat) (o : AObj) (p : Place), Hc[b]? = some o -> o.alive = true -> b ∉ m -> ι b = some p -> W'.heap[p.blk]? = W.heap[p.blk]? := fun b o p ho hoa hb hp => by
  refine hst.frame _ (hR.blk b p hp) fun i o2 p2 hi ha hp2 e => ?_
  obtain ⟨c, _, hc, hp3⟩ := atm hp2
  exact apart_ b o p ho hoa hb hp c p2 hc hp3 e
 have hup : ∀ (b : Nat) (o' : AObj), (Zed m Hs' 0 Hc)[b]? = some o' -> ∃ o, Hc[b]? = some o /\ o'.fam = o.fam /\ o'.sh = o.sh /\ ((b ∉ m /\ o' = o) \/ ∃ (i : Nat) (x : AObj), m[i]? = some b /\ Hs'[i]? = some x /\ o'.alive = x.alive /\ o'.body = Z1C (fun b => m.getD b 0) x.body /\ o.alive = true) := by
  intro b o' h
  rw [ZcL] at h
  simp only [Nat.zero_add] at h
  cases hx : Hc[b]? with
  | none => rw [hx] at h; cases h
  | some o =>
   rw [hx] at h
   simp only [Option.map_some, Option.some.injEq] at h
   refine ⟨o, rfl, ?_⟩
   by_cases hb : b ∈ m
   · obtain ⟨i, h1, h2⟩ := pos_ b hb
     have hi : i < m.length := (List.getElem?_eq_some_iff.1 h2).1
     have hi' : i < Hs'.length := by omega
     rw [h1] at h
     simp only [List.getElem?_eq_getElem hi'] at h
     subst h
     obtain ⟨_, y, _, _, _, y2, _, y4, _⟩ := inm b hb
     rw [hx] at y2; cases y2
     exact ⟨rfl, rfl, .inr ⟨i, Hs'[i], h2, List.getElem?_eq_getElem hi', rfl, rfl, y4⟩⟩
   · have hn : Z3m m b 0 = none := by
      cases hx : Z3m m b 0 with
      | none => rfl
      | some i => exact (hb (List.mem_of_getElem? (Z38 hx).2)).elim
     rw [hn] at h
     subst h
     exact ⟨rfl, rfl, .inl ⟨hb, rfl⟩⟩
 have hlen : (Zed m Hs' 0 Hc).length = Hc.length := by
  have : ∀ (H : Z00) (i : Nat), (Zed m Hs' i H).length = H.length := by
   intro H
   induction H with
   | nil => intro i; rfl
   | cons o H ih => intro i; simp [Zed, ih]
  exact this _ _
 have hnr : ∀ c, c < W.heap.size -> (∀ (b : Nat) (o : AObj) p, Hc[b]? = some o -> o.alive = true -> ι b = some p -> p.blk ≠ c) -> W'.heap[c]? = W.heap[c]? := fun c hc hno => by
  refine hst.frame c hc fun i o2 p2 hi ha hp2 e => ?_
  obtain ⟨b, _, hb, hp3⟩ := atm hp2
  obtain ⟨_, o, _, _, _, y2, _, y4, _⟩ := inm b hb
  exact hno b o p2 y2 y4 hp3 e
 have hR' : R sn ι (Zed m Hs' 0 Hc) W' := by
  refine ⟨fun b => by rw [hlen]; exact hR.dom b, fun b p hp => Nat.lt_of_lt_of_le (hR.blk b p hp) hst.size, fun b o' p hb ha hp => ?_, fun b b' o o' p p' hb hb' ha ha' hp hp' e => ?_, fun a v hv => ?_, fun b o' p hb hp e => ?_⟩
  · obtain ⟨o, ho, _, _, h | ⟨i, x, h1, h2, h3, h4, h5⟩⟩ := hup b o' hb
    · obtain ⟨h1, rfl⟩ := h
      exact Z0N (Le.refl _ _) (old b _ p ho ha h1 hp) (hR.obj b _ p ho ha hp)
    · rw [h4]
      have hi : i < m.length := (List.getElem?_eq_some_iff.1 h1).1
      have h6 := hst.rel.obj i x p h2 (by rw [<- h3]; exact ha) (hfwd i b p h1 hp)
      have h7 := (hg2 i _ x (List.getElem?_eq_getElem (by omega)) h2).2.2.2
      exact Z97 x.body (Z4T x.body p (fun y hy => hback y (Z1f h7 y hy)) (ZkZ x.body (ZaU hro h2) h6))
  · obtain ⟨x, hx, e1, e2, hz⟩ := hup b o hb
    obtain ⟨y, hy, e3, e4, hw⟩ := hup b' o' hb'
    have hxa : x.alive = true := by
     rcases hz with ⟨_, rfl⟩ | ⟨_, _, _, _, _, _, h⟩
     · exact ha
     · exact h
    have hya : y.alive = true := by
     rcases hw with ⟨_, rfl⟩ | ⟨_, _, _, _, _, _, h⟩
     · exact ha'
     · exact h
    have := hR.sep b b' x y p p' hx hy hxa hya hp hp' e
    rw [e1, e2, e3, e4]; exact this
  · obtain ⟨h1, h2, h3⟩ := hR.snap a v hv
    refine ⟨Nat.lt_of_lt_of_le h1 hst.size, ?_, fun b o' p hb ha hp => ?_⟩
    · rw [<- h2]; exact World.cell?_of_block (hnr _ h1 h3)
    · obtain ⟨o, ho, _, _, h | ⟨i, x, _, _, _, _, h5⟩⟩ := hup b o' hb
      · obtain ⟨_, rfl⟩ := h; exact h3 b _ p ho ha hp
      · exact h3 b o p ho h5 hp
  · obtain ⟨o, ho, _, e2, _⟩ := hup b o' hb
    exact hR.shz b o p ho hp (by rw [<- e2]; exact e)
 refine ⟨v, sn, ι, rfl, ?_, hR', Le.refl _ _, fun _ _ h => .inl h, hnr, hst.size, hst.os, hst.tape, hst.output, fun _ _ h => .inl h, fun b o hb => ?_⟩
 · exact (Z4y r v).2 (Z1g r [] v (fun y hy => hback y (Z1f hrk y hy)) (Z4S r v hrr hv))
 · have hb' : b < (Zed m Hs' 0 Hc).length := by rw [hlen]; exact (List.getElem?_eq_some_iff.1 hb).1
   have hx := List.getElem?_eq_getElem hb'
   obtain ⟨x, hx1, e1, e2, h | ⟨i, y, h1, h2, h3, h4, h5⟩⟩ := hup b _ hx
   · rw [hb] at hx1; cases hx1
     exact ⟨_, hx, e1, e2, fun ha => by rw [h.2] at ha; exact ha⟩
   · rw [hb] at hx1; cases hx1
     exact ⟨_, hx, e1, e2, fun _ => h5⟩
end Go.Abs
end

section
namespace Go.Proofs.YteidjbahodbgdaaGreatDoor.lex
open Go.Abs Go.RowKit
set_option maxRecDepth 100000
set_option maxHeartbeats 4000000
theorem follows : Tryz.prog.follows .mixedOrders = true := by kernel_rfl
theorem Z9x : (Tryz.prog.funcs.toList.all fun fn => !(fn.name == "runtime.NumGoroutine")) = true := by kernel_rfl
theorem Z09 : NoNum Tryz.prog := ⟨fun g fn h => by
 have h1 := List.all_eq_true.1 Z9x fn (Array.mem_toList_iff.2 (Array.mem_of_getElem? h))
 simpa using h1, of_decide_eq_true (by kernel_rfl)⟩
variable {gl : Z0l}
theorem Z05 : Z06 Tryz.prog gl (ZiU fun _ _ => none) := Z5Q fun _ _ _ h => by cases h
def Zga (n : Int) : Bool := decide (97 <= n) && decide (n <= 122) || decide (65 <= n) && decide (n <= 90)
def Z8V (n : Int) : Bool := decide (48 <= n) && decide (n <= 57)
theorem Zka (n : Int) : ValOK Tryz.prog gl 94 [.int .u8 n] (.bool (Zga n)) := by
 refine Z0a follows Z09 Z05 Tryz.func94 rfl ?_
 repeat' ((conv => whnf); first | refine stp ?_ | with_reducible refine Z01 (fun h => ?_) (fun h => ?_))
 all_goals (try simp_all [Z0J, Zga])
 all_goals omega
theorem ZkG (n : Int) : ValOK Tryz.prog gl 95 [.int .u8 n] (.bool (Z8V n)) := by
 refine Z0a follows Z09 Z05 Tryz.func95 rfl ?_
 repeat' ((conv => whnf); first | refine stp ?_ | with_reducible refine Z01 (fun h => ?_) (fun h => ?_))
 all_goals (try simp_all [Z0J, Z8V])
 all_goals omega
def F1 (f : Nat) (xs : List AV) : Option AV := match f with
 | 94 => match xs with | [.int .u8 n] => some (.bool (Zga n)) | _ => none
 | 95 => match xs with | [.int .u8 n] => some (.bool (Z8V n)) | _ => none
 | _ => none
theorem Zjj {f : Nat} {xs : List AV} {r : AV} (h : F1 f xs = some r) : plain r = true /\ ValOK Tryz.prog gl f xs r := by
 unfold F1 at h
 split at h <;> try (cases h; done)
 all_goals (split at h <;> cases h)
 · exact ⟨rfl, Zka _⟩
 · exact ⟨rfl, ZkG _⟩
theorem ZiF : Z06 Tryz.prog gl (Z5P F1) := Z1m fun f xs r h => Zjj h
def ZbK (n : Int) : Bool := Zga n || Z8V n || n == 95
def Z59 (p : Int -> Bool) (s : List UInt8) : Nat := (s.takeWhile fun c => p c.toNat).length
theorem Zek {p : Int -> Bool} {c : UInt8} (l : List UInt8) (h : p c.toNat = true) : Z59 p (c :: l) = Z59 p l + 1 := by simp [Z59, h]
theorem ZbV {p : Int -> Bool} {c : UInt8} (l : List UInt8) (h : p c.toNat = false) : Z59 p (c :: l) = 0 := by simp [Z59, h]
theorem ZcS {p : Int -> Bool} {s : List UInt8} {e : Nat} (h : e < s.length) : Z59 p (s.drop e) = if p s[e].toNat then Z59 p (s.drop (e + 1)) + 1 else 0 := by
 rw [List.drop_eq_getElem_cons h]
 cases hp : p s[e].toNat with
 | true => rw [Zek _ hp]; rfl
 | false => rw [ZbV _ hp]; rfl
theorem Zft {p : Int -> Bool} {s : List UInt8} {e : Nat} (h : ¬ e < s.length) : Z59 p (s.drop e) = 0 := by
 rw [List.drop_eq_nil_of_le (by omega)]; rfl
theorem Zjp (c : UInt8) (n : Nat) (h : n < 256) : ((c.toNat : Int) == (n : Int)) = (c == UInt8.ofNat n) := by
 by_cases e : c = UInt8.ofNat n
 · subst e; simp; omega
 · have : c.toNat ≠ n := fun e' => e (by apply UInt8.toNat_inj.1; rw [e']; simp [Nat.mod_eq_of_lt h])
   rw [beq_eq_false_iff_ne.2 e, beq_eq_false_iff_ne]; omega
def Zap : List UInt8 -> Nat
 | [] => 0
 | c :: s => if Zga c.toNat then Z59 ZbK (c :: s) else 0
def keysL : List (List UInt8) := [[115, 104, 97, 114, 101, 100], [112, 108, 97, 105, 110], [116, 104, 114, 101, 97, 100], [105, 102], [101, 108, 115, 101], [119, 104, 105, 108, 101], [108, 111, 97, 100], [115, 116, 111, 114, 101], [99, 97, 115], [97, 100, 100], [115, 119, 97, 112], [102, 101, 110, 99, 101], [97, 115, 115, 117, 109, 101], [97, 115, 115, 101, 114, 116], [110, 97], [114, 108, 120], [97, 99, 113], [114, 101, 108], [97, 114], [115, 99]]
def Z78 (s : List UInt8) : AV := if s ≠ [] /\ Zap s = s.length then .tuple [.int .i64 (if keysL.contains s then 2 else 1), .bool true] else .tuple [.int .i64 0, .bool false]
theorem Zkc (x : List UInt8) : ValOK Tryz.prog gl 96 [.str x] (.int .i64 (if keysL.contains x then 2 else 1)) := by
 refine Z7I (fun _ => false) 2 follows Z09 ZiF Tryz.func96 rfl ?_
 repeat' ((conv => whnf); first | refine stp ?_ | with_reducible refine Z01 (fun h => ?_) (fun h => ?_))
 conv => whnf
 refine ⟨Nat, (fun i => i <= 20 /\ keysL.contains x = (keysL.drop i).contains x), (fun i => [(0, .str x), (3, .slice 0 0 20 20 1), (4, .int .i64 i)]), (fun _ => [⟨true, 0, 0, .cells (keysL.map AV.str) 9⟩]), (fun i => 20 - i), ⟨0, ⟨by omega, rfl⟩, ?_⟩, ?_⟩
 · refine FgL.mk [0] rfl ?_ ?_ rfl
   · exact ⟨Wk.noref rfl, Wk.slice rfl rfl rfl (Nat.le_refl _) (Nat.le_refl _) rfl, Wk.int rfl, trivial⟩
   · exact ⟨⟨rfl, rfl, rfl, rfl, BodyGe.pre (rest := []) rfl rfl⟩, trivial⟩
 · intro i ⟨hi, hs⟩
   by_cases hlt : i < 20
   · have e1 : decide ((i : Int) < 20) = true := by simp; omega
     have hlk : i < keysL.length := hlt
     have hd : keysL.drop i = keysL[i] :: keysL.drop (i + 1) := List.drop_eq_getElem_cons hlk
     repeat' ((conv => whnf); first | (with_reducible refine exI (Z11 AV.str keysL i hlk ?_) ?_; (focus (omega))) | (first | refine stp ?_ | with_reducible refine Z01 (fun h => ?_) (fun h => ?_)))
     · have hc : keysL.contains x = true := by rw [hs, hd, List.contains_cons, eq_of_beq h]; simp
       rw [hc]; rfl
     · conv => whnf
       have hx : (x == keysL[i]) = false := beq_eq_false_iff_ne.2 (fun e => by rw [<- e] at h; simp at h)
       exact ⟨i + 1, ⟨hlt, by rw [hs, hd, List.contains_cons, hx, Bool.false_or]⟩, by show 20 - (i + 1) < 20 - i; omega, FgL.mk [0] rfl ⟨Wk.noref rfl, Wk.slice rfl rfl rfl (Nat.le_refl _) (Nat.le_refl _) rfl, Wk.int rfl, trivial⟩ ⟨⟨rfl, rfl, rfl, rfl, BodyGe.pre (rest := []) rfl rfl⟩, trivial⟩ rfl⟩
   · have e1 : decide ((i : Int) < 20) = false := by simp; omega
     have hi' : i = 20 := by omega
     subst hi'
     repeat' ((conv => whnf); first | refine stp ?_ | with_reducible refine Z01 (fun h => ?_) (fun h => ?_))
     have hc : keysL.contains x = false := by rw [hs]; rfl
     rw [hc]; rfl
def F5 (f : Nat) (xs : List AV) : Option AV := match f with
 | 96 => match xs with | [.str x] => some (.int .i64 (if keysL.contains x then 2 else 1)) | _ => none
 | f => F1 f xs
theorem Zm4 {f : Nat} {xs : List AV} {r : AV} (h : F5 f xs = some r) : plain r = true /\ ValOK Tryz.prog gl f xs r := by
 unfold F5 at h
 split at h
 · split at h <;> cases h
   exact ⟨rfl, Zkc _⟩
 · exact Zjj h
theorem ZiE : Z06 Tryz.prog gl (Z5P F5) := Z1m fun f xs r h => Zm4 h
theorem Zao {s : List UInt8} (h : 0 < s.length) : Zap s = if Zga s[0].toNat then Z59 ZbK s else 0 := by
 cases s with
 | nil => simp at h
 | cons c t => rfl
def Zle (s : List UInt8) (i : Nat) : Prop := i <= s.length /\ (i = 0 \/ (0 < i /\ Zap s = Z59 ZbK s /\ Z59 ZbK s = i + Z59 ZbK (s.drop i)))
theorem Zaq {s : List UInt8} {i : Nat} (h : Zle s i) (hlt : i < s.length) (h2 : Zga s[i].toNat = true \/ (i ≠ 0 /\ ZbK s[i].toNat = true)) : Zle s (i + 1) := by
 have hat := ZcS (p := ZbK) hlt
 have hw : ZbK s[i].toNat = true := by rcases h2 with h2 | h2; simp [ZbK, h2]; exact h2.2
 rw [hw, if_pos rfl] at hat
 refine ⟨hlt, .inr ⟨by omega, ?_, ?_⟩⟩
 · rcases h.2 with h0 | h0
   · subst h0
     have : Zga s[0].toNat = true := by rcases h2 with h2 | h2; exact h2; exact absurd rfl h2.1
     rw [Zao (by omega), this, if_pos rfl]
   · exact h0.2.1
 · rcases h.2 with h0 | h0
   · subst h0; rw [List.drop_zero] at hat; omega
   · omega
theorem ZcI {s : List UInt8} {i : Nat} (h : Zle s i) (hlt : i < s.length) (h1 : Zga s[i].toNat = false) (h2 : i = 0 \/ ZbK s[i].toNat = false) : Z78 s = .tuple [.int .i64 0, .bool false] := by
 unfold Z78
 rw [if_neg]
 rintro ⟨_, h4⟩
 rcases h.2 with h0 | h0
 · subst h0
   rw [Zao (by omega), h1] at h4
   simp at h4; omega
 · have hat := ZcS (p := ZbK) hlt
   rcases h2 with h2 | h2
   · omega
   · rw [h2, if_neg (by decide)] at hat; omega
theorem Zht {s : List UInt8} (h : Zle s s.length) (h0 : s ≠ []) : Z78 s = .tuple [.int .i64 (if keysL.contains s then 2 else 1), .bool true] := by
 have hl : 0 < s.length := List.length_pos_iff.2 h0
 unfold Z78
 rw [if_pos]
 refine ⟨h0, ?_⟩
 rcases h.2 with h1 | h1
 · omega
 · have := Zft (p := ZbK) (s := s) (e := s.length) (by omega); omega
theorem Zho (s : List UInt8) (hs : s.length <= 9223372036854775807) : ValOK Tryz.prog gl 83 [.str s] (Z78 s) := by
 refine Z0a follows Z09 ZiE Tryz.func83 rfl ?_
 conv => whnf
 repeat' ((conv => whnf); first | refine stp ?_ | with_reducible refine Z01 (fun h => ?_) (fun h => ?_))
 conv => whnf
 refine ⟨Nat, Zle s, (fun i => [(0, .str s), (4, .int .i64 i)]), (fun _ => []), (fun i => s.length - i), ⟨0, ⟨Nat.zero_le _, .inl rfl⟩, FgL.mk0 rfl ⟨Wk.noref rfl, Wk.int rfl, trivial⟩⟩, ?_⟩
 intro i hI
 have hi := hI.1
 by_cases hlt : i < s.length
 · have e1 : decide ((i : Int) < (s.length : Int)) = true := by simpa using hlt
   have hx : s[i]? = some s[i] := by simp [hlt]
   have u1 := Zjp s[i] 95 (by decide)
   cases hl : Zga s[i].toNat with
   | true =>
    repeat' ((conv => whnf); first | with_reducible refine ixS _ rfl hx ?_ | (first | refine stp ?_ | with_reducible refine Z01 (fun h => ?_) (fun h => ?_)))
    conv => whnf
    exact ⟨i + 1, Zaq hI hlt (.inl hl), by show s.length - (i + 1) < s.length - i; omega, FgL.mk0 rfl ⟨Wk.noref rfl, Wk.int rfl, trivial⟩⟩
   | false =>
    by_cases h0 : i = 0
    · have e2 : ((i : Int) == 0) = true := by simp [h0]
      repeat' ((conv => whnf); first | with_reducible refine ixS _ rfl hx ?_ | (first | refine stp ?_ | with_reducible refine Z01 (fun h => ?_) (fun h => ?_)))
      exact (ZcI hI hlt hl (.inl h0)).symm
    · have e2 : ((i : Int) == 0) = false := by simp [h0]
      cases hw : ZbK s[i].toNat with
      | true =>
       repeat' ((conv => whnf); first | with_reducible refine ixS _ rfl hx ?_ | (first | refine stp ?_ | with_reducible refine Z01 (fun h => ?_) (fun h => ?_)))
       all_goals (first | (exfalso; simp_all [ZbK]; done) | skip)
       all_goals (conv => whnf)
       all_goals exact ⟨i + 1, Zaq hI hlt (.inr ⟨h0, hw⟩), by show s.length - (i + 1) < s.length - i; omega, FgL.mk0 rfl ⟨Wk.noref rfl, Wk.int rfl, trivial⟩⟩
      | false =>
       repeat' ((conv => whnf); first | with_reducible refine ixS _ rfl hx ?_ | (first | refine stp ?_ | with_reducible refine Z01 (fun h => ?_) (fun h => ?_)))
       all_goals (first | (exfalso; simp_all [ZbK]; done) | skip)
       all_goals exact (ZcI hI hlt hl (.inr hw)).symm
 · have e1 : decide ((i : Int) < (s.length : Int)) = false := by simpa using hlt
   have hi2 : i = s.length := by omega
   subst hi2
   by_cases h0 : s = []
   · have e2 : (s == []) = true := by simpa using h0
     repeat' ((conv => whnf); first | refine stp ?_ | with_reducible refine Z01 (fun h => ?_) (fun h => ?_))
     unfold Z78; rw [if_neg (fun h => h.1 h0)]
   · have e2 : (s == []) = false := by simpa using h0
     repeat' ((conv => whnf); first | refine stp ?_ | with_reducible refine Z01 (fun h => ?_) (fun h => ?_))
     rw [Zht hI h0]
end Go.Proofs.YteidjbahodbgdaaGreatDoor.lex
end

section
namespace Go.Abs
open Go.RowKit Go.Maps
open Go.Proofs (encStr)
def rsK (l : List (List UInt8)) : AV := .rs l.length 1 (l.map .str)
end Go.Abs
end

section
namespace Go.Abs
open Go.RowKit
theorem Wk.nil {m : List Nat} {z : Nat} : Wk m .nslice (.rs 0 z []) := fun sn ι v h => by simp only [VR] at h ⊢; exact .inl ⟨trivial, trivial, h⟩
theorem swA {A B : Prop} (h : A) : ZcF (A /\ B) B := fun b => ⟨h, b⟩
theorem stw {P Q : Prop} (q : Q) (h : ZcF P Q := by
 first
 | (refine swA (Wk.int ?_); (focus (first | rfl | omega | (simp; done) | (simp; omega)))) | (refine swA (Wk.bool ?_); (focus (first | rfl | (simp; done)))) | exact swA (Wk.noref rfl)
 | exact swA (Wk.ptr rfl rfl) | (refine swA (Wk.slice rfl ?_ ?_ ?_ ?_ ?_); (focus (first | rfl | omega)); (focus (first | rfl | omega)); (focus (first | rfl | omega)); (focus (first | rfl | omega)); (focus rfl)) | exact swA Wk.nil | exact swA (Wk.func trivial ⟨Wk.ptr rfl rfl, trivial⟩) | exact swA (Wk.map rfl)) : P := h q
theorem ValOK.weak {P : Program} {gl : Z0l} {f : Nat} {args args2 : List AV} {r : AV} (h : ValOK P gl f args2 r) (hw : ∀ sn vs, LR sn noI args vs -> LR sn noI args2 vs) : ValOK P gl f args r :=
 fun sn W cargs hg hR ha => h sn W cargs hg hR (hw _ _ ha)
theorem Zde {z : Nat} {sn : Z0j} {ι : Z0k} {v : Value} (h : VR sn ι .nslice v) : VR sn ι (.rs 0 z []) v := by simp only [VR] at h ⊢; exact .inl ⟨trivial, trivial, h⟩
section
open Classical
noncomputable def Zl1 {I : Type} (G : I -> Prop) (fF : I -> Nat) (fA : I -> List AV) (fR : I -> AV) : Orc := ZiU fun f args => if h : ∃ i, G i /\ fF i = f /\ fA i = args then some (fR (Classical.choose h)) else none
theorem Zev {P : Program} {gl : Z0l} {I : Type} {G : I -> Prop} {fF : I -> Nat} {fA : I -> List AV} {fR : I -> AV} (h : ∀ i, G i -> refsL (fA i) [] = [] /\ ValOK P gl (fF i) (fA i) (fR i)) : Z06 P gl (Zl1 G fF fA fR) := Z5Q fun f args r e => by
 split at e
 · rename_i hx
   simp only [Option.some.injEq] at e
   subst e
   obtain ⟨g1, e1, e2⟩ := Classical.choose_spec hx
   have := h _ g1
   rw [e1, e2] at this; exact this
 · cases e
theorem ZmK {P : Program} {I : Type} {G : I -> Prop} {fF : I -> Nat} {fA : I -> List AV} {fR : I -> AV} (hinj : ∀ i j, G i -> G j -> fF i = fF j -> fA i = fA j -> fR i = fR j) {H : Z00} (i : I) (hb : Z0C P (fF i) = true) (hi : G i) :
  Z04 P (Zl1 G fF fA fR) H (fF i) (fA i) = some (fR i, H) := by
 have hx : ∃ j, G j /\ fF j = fF i /\ fA j = fA i := ⟨i, hi, rfl, rfl⟩
 unfold Z04
 rw [if_pos hb]
 unfold Zl1 ZiU
 simp only [dif_pos hx]
 obtain ⟨g1, g2, g3⟩ := Classical.choose_spec hx
 rw [hinj _ i g1 hi g2 g3]
theorem ZfP {I : Type} {G : I -> Prop} {fF : I -> Nat} {fA : I -> List AV} {fH : I -> Z00} {fR : I -> AV} {fO : I -> Z00} {g : Nat} {args : List AV} {H : Z00} (h : ∀ i, G i -> fF i = g -> fA i ≠ args) : orcI G fF fA fH fR fO g args H = none := by
 unfold orcI
 rw [dif_neg]
 rintro ⟨i, h1, h2, h3, _⟩
 exact h i h1 h2 h3
end
theorem Z4M {P : Program} {o1 o2 : Orc} {H : Z00} {g : Nat} {args : List AV} {x : AV × Z00} (hb : Z0C P g = true) (h : Z04 P o1 H g args = some x) : Z04 P (Z1v o1 o2) H g args = some x := by
 unfold Z04 at h ⊢
 rw [if_pos hb] at h ⊢
 unfold Z1v; rw [h]
theorem Z66 {P : Program} {o1 o2 : Orc} {H : Z00} {g : Nat} {args : List AV} {x : AV × Z00} (hb : Z0C P g = true) (h1 : o1 g args H = none) (h : Z04 P o2 H g args = some x) : Z04 P (Z1v o1 o2) H g args = some x := by
 unfold Z04 at h ⊢
 rw [if_pos hb] at h ⊢
 unfold Z1v; rw [h1]; exact h
structure Fam (P : Program) (gl : Z0l) where
 I : Type
 f : Nat
 G : I -> Prop
 A : I -> List AV
 R : I -> AV
 body : Z0C P f = true
 inj : ∀ i j, G i -> G j -> A i = A j -> R i = R j
 ok : ∀ i, G i -> refsL (A i) [] = [] /\ ValOK P gl f (A i) (R i)
structure FamM (P : Program) (gl : Z0l) where
 I : Type
 f : Nat
 G : I -> Prop
 A : I -> List AV
 H : I -> Z00
 R : I -> AV
 O : I -> Z00
 body : Z0C P f = true
 inj : ∀ i j, G i -> G j -> A i = A j -> H i = H j -> R i = R j /\ O i = O j
 ok : ∀ i, G i -> Z1O P gl f (A i) (H i) (R i) (O i)
section
variable {P : Program} {gl : Z0l}
def Fam.Ask (F : Fam P gl) (O : Orc) : Prop := ∀ i, F.G i -> ∀ H, Z04 P O H F.f (F.A i) = some (F.R i, H)
def FamM.Ask (F : FamM P gl) (O : Orc) : Prop := ∀ i, F.G i -> Z04 P O (F.H i) F.f (F.A i) = some (F.R i, F.O i)
def AllAsk (O : Orc) : List (Fam P gl) -> Prop
 | [] => True
 | F :: l => F.Ask O /\ AllAsk O l
def AllAskM (O : Orc) : List (FamM P gl) -> Prop
 | [] => True
 | F :: l => F.Ask O /\ AllAskM O l
theorem Zcu {o O : Orc} {f : Nat} (ho : ∀ g args H, g ≠ f -> o g args H = none) : (∀ F : Fam P gl, F.f ≠ f -> F.Ask O -> F.Ask (Z1v o O)) /\ (∀ F : FamM P gl, F.f ≠ f -> F.Ask O -> F.Ask (Z1v o O)) :=
 ⟨fun F hf h i hi H => Z66 F.body (ho _ _ _ hf) (h i hi H), fun F hf h i hi => Z66 F.body (ho _ _ _ hf) (h i hi)⟩
theorem Z9T : ∀ (l : List (Fam P gl)), Z0Q (l.map (·.f)) = true -> ∃ O, Z06 P gl O /\ AllAsk O l
 | [], _ => ⟨fun _ _ _ => none, (fun f args H r H' h => by cases h), trivial⟩
 | F :: l, h => by
  simp only [List.map_cons, Z0Q, Bool.and_eq_true, Bool.not_eq_true'] at h
  obtain ⟨O, hO, ha⟩ := Z9T l h.2
  have ho : ∀ g args H, g ≠ F.f -> Zl1 F.G (fun _ => F.f) F.A F.R g args H = none := by
   intro g args H hg
   have : ¬ ∃ i, F.G i /\ F.f = g /\ F.A i = args := by
    rintro ⟨i, _, h2, _⟩
    exact hg h2.symm
   simp only [Zl1, ZiU, dif_neg this]
  refine ⟨Z1v (Zl1 F.G (fun _ => F.f) F.A F.R) O, Z1z (Zev F.ok) hO, fun i hi H => Z4M F.body (ZmK (fun i j hi hj _ ha => F.inj i j hi hj ha) i F.body hi), ?_⟩
  have hn : ∀ G ∈ l, G.f ≠ F.f := fun G hG e => by
   have h1 := h.1
   have : mem F.f (l.map (·.f)) = true := Z18.2 (by rw [<- e]; exact List.mem_map_of_mem hG)
   rw [this] at h1; cases h1
  clear h
  induction l with
  | nil => trivial
  | cons G l ih =>
   exact ⟨(Zcu ho).1 G (hn G (by simp)) ha.1, ih ha.2 fun K hK => hn K (by simp [hK])⟩
theorem fams (l : List (Fam P gl)) (h : Z0Q (l.map (·.f)) = true) : ∃ O, Z06 P gl O /\ AllAsk O l := Z9T l h
theorem AllAsk.add {o O : Orc} {f : Nat} (ho : ∀ g args H, g ≠ f -> o g args H = none) : ∀ {l : List (Fam P gl)}, mem f (l.map (·.f)) = false -> AllAsk O l -> AllAsk (Z1v o O) l
 | [], _, _ => trivial
 | F :: l, h, ha => by
  simp only [List.map_cons, mem, Bool.or_eq_false_iff] at h
  exact ⟨(Zcu ho).1 F (fun e => by rw [e] at h; simp at h) ha.1, AllAsk.add ho h.2 ha.2⟩
theorem AllAskM.add {o O : Orc} {f : Nat} (ho : ∀ g args H, g ≠ f -> o g args H = none) : ∀ {l : List (FamM P gl)}, mem f (l.map (·.f)) = false -> AllAskM O l -> AllAskM (Z1v o O) l
 | [], _, _ => trivial
 | F :: l, h, ha => by
  simp only [List.map_cons, mem, Bool.or_eq_false_iff] at h
  exact ⟨(Zcu ho).2 F (fun e => by rw [e] at h; simp at h) ha.1, AllAskM.add ho h.2 ha.2⟩
theorem Z6G : ∀ (m : List (FamM P gl)) (l : List (Fam P gl)), Z0Q (m.map (·.f) ++ l.map (·.f)) = true -> ∃ O, Z06 P gl O /\ AllAskM O m /\ AllAsk O l
 | [], l, h => by
  obtain ⟨O, h1, h2⟩ := Z9T l h
  exact ⟨O, h1, trivial, h2⟩
 | F :: m, l, h => by
  simp only [List.map_cons, List.cons_append, Z0Q, Bool.and_eq_true, Bool.not_eq_true'] at h
  obtain ⟨O, hO, ha, hb⟩ := Z6G m l h.2
  have ho : ∀ g args H, g ≠ F.f -> orcI F.G (fun _ => F.f) F.A F.H F.R F.O g args H = none := fun g args H hg => ZfP fun i _ e => absurd e.symm hg
  have hmem : ∀ {a b : List Nat}, mem F.f (a ++ b) = false -> mem F.f a = false /\ mem F.f b = false := by
   intro a b h
   constructor
   · cases hx : mem F.f a with
     | false => rfl
     | true => rw [Z18.2 (List.mem_append.2 (.inl (Z18.1 hx)))] at h; cases h
   · cases hx : mem F.f b with
     | false => rfl
     | true => rw [Z18.2 (List.mem_append.2 (.inr (Z18.1 hx)))] at h; cases h
  obtain ⟨n1, n2⟩ := hmem h.1
  refine ⟨Z1v (orcI F.G (fun _ => F.f) F.A F.H F.R F.O) O, Z1z (Zew F.ok) hO, ⟨fun i hi => Z4M F.body (ZmL (fun i j hi hj _ ha hh => F.inj i j hi hj ha hh) F.body i hi rfl rfl rfl), AllAskM.add ho n1 ha⟩, AllAsk.add ho n2 hb⟩
end
end Go.Abs
end

section
namespace Go.Proofs.YteidjbahodbgdaaGreatDoor.lex
open Go.Abs Go.RowKit
set_option maxRecDepth 100000
set_option maxHeartbeats 4000000
variable {gl : Z0l}
inductive Ex where
 | mk (op num : Int) (name : List UInt8) (kids : List Ex)
instance : Inhabited Ex := ⟨.mk 0 0 [] []⟩
def Ex.op : Ex -> Int
 | .mk o _ _ _ => o
def Ex.name : Ex -> List UInt8
 | .mk _ _ s _ => s
def Ex.kids : Ex -> List Ex
 | .mk _ _ _ k => k
mutual
def Ex.cells : Ex -> List AV
 | .mk op num name kids => [.int .i64 op, .int .i64 num, .str name, .rs kids.length 4 (exC kids)]
def exC : List Ex -> List AV
 | [] => []
 | e :: l => e.cells ++ exC l
end
def exA (l : List Ex) : AV := .rs l.length 4 (exC l)
mutual
def Z0f : Ex -> Nat
 | .mk _ _ _ kids => 1 + sizeL kids
def sizeL : List Ex -> Nat
 | [] => 0
 | e :: l => Z0f e + sizeL l
end
mutual
def Z3u : Ex -> Nat
 | .mk _ _ _ kids => deepL kids + 1
def deepL : List Ex -> Nat
 | [] => 0
 | e :: l => max (Z3u e) (deepL l)
end
theorem Z2x : ∀ e : Ex, e.cells.length = 4
 | .mk _ _ _ _ => by simp only [Ex.cells]; rfl
theorem Zch : ∀ l : List Ex, (exC l).length = l.length * 4
 | [] => by simp only [exC]; rfl
 | e :: l => by simp only [exC, List.length_append, Z2x, Zch l, List.length_cons]; omega
theorem Z9X : ∀ a b : List Ex, exC (a ++ b) = exC a ++ exC b
 | [], b => by simp only [exC, List.nil_append]
 | e :: a, b => by simp only [exC, List.cons_append, Z9X a b, List.append_assoc]
theorem Zim (e : Ex) (l : List Ex) (i : Nat) : (exC (e :: l)).drop ((i + 1) * 4) = (exC l).drop (i * 4) := by
 have h : (i + 1) * 4 = 4 + i * 4 := by omega
 rw [h, <- List.drop_drop, exC, List.drop_left' (Z2x e)]
theorem Zfh : ∀ (a b : List AV), tk a.length (a ++ b) = some a
 | [], b => by cases b <;> rfl
 | c :: a, b => by simp only [List.length_cons, List.cons_append, tk, Zfh a b]
theorem Z8P : ∀ (l : List Ex) (i : Nat) (h : i < l.length), (exC l).drop (i * 4) = l[i].cells ++ exC (l.drop (i + 1))
 | e :: l, 0, h => by simp only [Nat.zero_mul, List.drop_zero, exC, List.getElem_cons_zero, List.drop_succ_cons]
 | e :: l, i + 1, h => by rw [Zim, Z8P l i (by simpa using h)]; simp only [List.getElem_cons_succ, List.drop_succ_cons]
theorem ex4 (l : List Ex) (i : Nat) (h : i < l.length) : tk 4 ((exC l).drop (i * 4)) = some l[i].cells := by
 rw [Z8P l i h]
 have := Zfh l[i].cells (exC (l.drop (i + 1)))
 rwa [Z2x] at this
mutual
theorem Z16 : ∀ (a b : Ex), a.cells = b.cells -> a = b
 | .mk o n s k, .mk o' n' s' k', h => by
  simp only [Ex.cells] at h
  simp at h
  obtain ⟨rfl, rfl, rfl, hl, hk⟩ := h
  rw [exC_inj k k' hk hl]
theorem exC_inj : ∀ (a b : List Ex), exC a = exC b -> a.length = b.length -> a = b
 | [], [], _, _ => rfl
 | x :: a, y :: b, h, hl => by
  simp only [exC] at h
  have h' := List.append_inj h (by rw [Z2x, Z2x])
  rw [Z16 x y h'.1, exC_inj a b h'.2 (by simpa using hl)]
 | [], _ :: _, _, hl => by simp at hl
 | _ :: _, [], _, hl => by simp at hl
end
theorem Zgz {a b : List Ex} (h : exA a = exA b) : a = b := by
 simp only [exA, AV.rs.injEq, true_and] at h
 exact exC_inj _ _ h.2 h.1
theorem Z2p : ∀ e : Ex, 0 < Z0f e
 | .mk _ _ _ _ => by simp only [Z0f]; omega
theorem ZaI : ∀ (l : List Ex) (i : Nat) (h : i < l.length), sizeL l = sizeL (l.take i) + Z0f l[i] + sizeL (l.drop (i + 1))
 | e :: l, 0, h => by simp only [List.take_zero, sizeL, List.getElem_cons_zero, List.drop_succ_cons, List.drop_zero]; omega
 | e :: l, i + 1, h => by
  have := ZaI l i (by simpa using h)
  simp only [List.take_succ_cons, sizeL, List.getElem_cons_succ, List.drop_succ_cons]; omega
theorem Z8u : ∀ (l : List Ex) (i : Nat) (h : i < l.length), sizeL (l.take (i + 1)) = sizeL (l.take i) + Z0f l[i]
 | e :: l, 0, h => by simp only [List.take_succ_cons, List.take_zero, sizeL, List.getElem_cons_zero]; omega
 | e :: l, i + 1, h => by
  have := Z8u l i (by simpa using h)
  simp only [List.take_succ_cons, sizeL, List.getElem_cons_succ] at this ⊢; omega
theorem Z1H : ∀ l : List Ex, l.length <= sizeL l
 | [] => Nat.zero_le _
 | e :: l => by have := Z1H l; have := Z2p e; simp only [sizeL, List.length_cons]; omega
theorem Z0w : ∀ (l : List Ex) (e : Ex), e ∈ l -> Z0f e <= sizeL l
 | e :: l, f, h => by
  simp only [sizeL]
  rcases List.mem_cons.1 h with rfl | h
  · omega
  · have := Z0w l f h; omega
theorem Z8W : ∀ (l : List Ex) (i : Nat) (h : i < l.length), deepL (l.take (i + 1)) = max (deepL (l.take i)) (Z3u l[i])
 | e :: l, 0, h => by simp only [List.take_succ_cons, List.take_zero, deepL, List.getElem_cons_zero]; omega
 | e :: l, i + 1, h => by
  have := Z8W l i (by simpa using h)
  simp only [List.take_succ_cons, deepL, List.getElem_cons_succ] at this ⊢; omega
mutual
theorem Z8X : ∀ e : Ex, Z3u e <= Z0f e
 | .mk _ _ _ k => by have := deepL_size k; simp only [Z3u, Z0f]; omega
theorem deepL_size : ∀ l : List Ex, deepL l <= sizeL l
 | [] => Nat.le_refl _
 | e :: l => by have := Z8X e; have := deepL_size l; simp only [deepL, sizeL]; omega
end
theorem Z40 (e : Ex) : refsL [.agg e.cells] [] = [] := by
 obtain ⟨o, n, s, k⟩ := e
 simp only [Ex.cells]; rfl
theorem Z6c {a b : Ex} (h : [AV.agg a.cells] = [AV.agg b.cells]) : a = b := by
 simp only [List.cons.injEq, AV.agg.injEq, and_true] at h
 exact Z16 _ _ h
def famE {g : Nat} (hb : Z0C Tryz.prog g = true) (r : Ex -> AV) (l : List Ex) (each : ∀ k ∈ l, ValOK Tryz.prog gl g [.agg k.cells] (r k)) : Fam Tryz.prog gl where
 I := Ex
 f := g
 G := fun k => k ∈ l
 A := fun k => [.agg k.cells]
 R := r
 body := hb
 inj := fun i j _ _ h => by rw [Z6c h]
 ok := fun k hk => ⟨Z40 k, each k hk⟩
theorem Z0i {α : Type} {l : List α} {i : Nat} (h : i < l.length) : l[i] ∈ l := List.getElem_mem h
theorem ZcV : ∀ (n : Nat) (e : Ex), Z0f e <= n -> Z0f e <= 1048576 -> ValOK Tryz.prog gl 50 [.agg e.cells] (.int .i64 (Z0f e))
 | 0, e, h, _ => by have := Z2p e; omega
 | n + 1, .mk op num name kids, h, hb => by
  simp only [Z0f] at h hb ⊢
  obtain ⟨O, hO, q, -⟩ := fams (P := Tryz.prog) (gl := gl) [famE (g := 50) (by kernel_rfl) (fun k => .int .i64 (Z0f k)) kids fun k hk => ZcV n k (by have := Z0w _ _ hk; omega) (by have := Z0w _ _ hk; omega)] rfl
  have hlen := Z1H kids
  simp only [Ex.cells]
  refine Z0a follows Z09 hO Tryz.func50 rfl ?_
  repeat' ((conv => whnf); first | refine stp ?_ | with_reducible refine Z01 (fun h => ?_) (fun h => ?_))
  conv => whnf
  refine ⟨Nat, (fun i => i <= kids.length), (fun i => [(1, .ptr 0 0), (3, .int .i64 (1 + sizeL (kids.take i) : Nat)), (4, .int .i64 i)]), (fun _ => [⟨true, 0, 0, .cells [.int .i64 op, .int .i64 num, .str name, .rs kids.length 4 (exC kids)] 65⟩]), (fun i => kids.length - i), ⟨0, Nat.zero_le _, FgL.mk [0] rfl ?_ ⟨⟨rfl, rfl, rfl, rfl, BodyGe.pre (rest := []) rfl rfl⟩, trivial⟩ rfl⟩, ?_⟩
  · simp only [List.take_zero, sizeL]; (repeat (first | exact trivial | refine stw ?_))
  intro i hi
  dsimp only
  by_cases hlt : i < kids.length
  · have e1 : decide ((i : Int) < (kids.length : Int)) = true := by simpa using hlt
    have hx := ex4 kids i hlt
    have hs := Z8u kids i hlt
    have hg := ZaI kids i hlt
    have q1 : ∀ H, Z04 Tryz.prog O H 50 [.agg kids[i].cells] = some (.int .i64 (Z0f kids[i]), H) := q _ (Z0i hlt)
    generalize kids[i] = k at *
    repeat' ((conv => whnf); first | (refine exI hx ?_) | (refine exI (q1 _) ?_) | (with_reducible refine ixJ i rfl ?_ ?_; (focus (omega))) | (first | refine stp ?_ | with_reducible refine Z01 (fun h => ?_) (fun h => ?_)))
    conv => whnf
    refine ⟨i + 1, hlt, by show kids.length - (i + 1) < kids.length - i; omega, FgL.mk [0] rfl ?_ ⟨⟨rfl, rfl, rfl, rfl, BodyGe.pre (rest := []) rfl rfl⟩, trivial⟩ rfl⟩
    rw [hs, <- Nat.add_assoc]; (repeat (first | exact trivial | refine stw ?_))
  · have e1 : decide ((i : Int) < (kids.length : Int)) = false := by simpa using hlt
    have hi2 : i = kids.length := by have := hi; omega
    subst hi2
    repeat' ((conv => whnf); first | refine stp ?_ | with_reducible refine Z01 (fun h => ?_) (fun h => ?_))
    simp only [List.take_length]; rfl
theorem ZdP : ∀ (n : Nat) (e : Ex), Z0f e <= n -> Z0f e <= 1048576 -> ValOK Tryz.prog gl 51 [.agg e.cells] (.int .i64 (Z3u e))
 | 0, e, h, _ => by have := Z2p e; omega
 | n + 1, .mk op num name kids, h, hb => by
  simp only [Z0f] at h hb
  simp only [Z3u]
  obtain ⟨O, hO, q, -⟩ := fams (P := Tryz.prog) (gl := gl) [famE (g := 51) (by kernel_rfl) (fun k => .int .i64 (Z3u k)) kids fun k hk => ZdP n k (by have := Z0w _ _ hk; omega) (by have := Z0w _ _ hk; omega)] rfl
  have hlen := Z1H kids
  have hds := deepL_size kids
  simp only [Ex.cells]
  refine Z0a follows Z09 hO Tryz.func51 rfl ?_
  repeat' ((conv => whnf); first | refine stp ?_ | with_reducible refine Z01 (fun h => ?_) (fun h => ?_))
  conv => whnf
  refine ⟨Nat, (fun i => i <= kids.length), (fun i => [(1, .ptr 0 0), (3, .int .i64 (deepL (kids.take i))), (4, .int .i64 i)]), (fun _ => [⟨true, 0, 0, .cells [.int .i64 op, .int .i64 num, .str name, .rs kids.length 4 (exC kids)] 65⟩]), (fun i => kids.length - i), ⟨0, Nat.zero_le _, FgL.mk [0] rfl ?_ ⟨⟨rfl, rfl, rfl, rfl, BodyGe.pre (rest := []) rfl rfl⟩, trivial⟩ rfl⟩, ?_⟩
  · simp only [List.take_zero, deepL]; (repeat (first | exact trivial | refine stw ?_))
  intro i hi
  dsimp only
  by_cases hlt : i < kids.length
  · have e1 : decide ((i : Int) < (kids.length : Int)) = true := by simpa using hlt
    have hx := ex4 kids i hlt
    have hs := Z8W kids i hlt
    have q1 : ∀ H, Z04 Tryz.prog O H 51 [.agg kids[i].cells] = some (.int .i64 (Z3u kids[i]), H) := q _ (Z0i hlt)
    generalize kids[i] = k at *
    repeat' ((conv => whnf); first | (refine exI hx ?_) | (refine exI (q1 _) ?_) | (with_reducible refine ixJ i rfl ?_ ?_; (focus (omega))) | (first | refine stp ?_ | with_reducible refine Z01 (fun h => ?_) (fun h => ?_)))
    conv => whnf
    refine ⟨i + 1, hlt, by show kids.length - (i + 1) < kids.length - i; omega, FgL.mk [0] rfl ?_ ⟨⟨rfl, rfl, rfl, rfl, BodyGe.pre (rest := []) rfl rfl⟩, trivial⟩ rfl⟩
    refine And.intro (Wk.ptr rfl rfl) ?_
    refine And.intro (Wk.int ?_) ?_
    · rw [hs]; split <;> omega
    (repeat (first | exact trivial | refine stw ?_))
  · have e1 : decide ((i : Int) < (kids.length : Int)) = false := by simpa using hlt
    have hi2 : i = kids.length := by have := hi; omega
    subst hi2
    rw [List.take_length]
    repeat' ((conv => whnf); first | refine stp ?_ | with_reducible refine Z01 (fun h => ?_) (fun h => ?_))
    rfl
end Go.Proofs.YteidjbahodbgdaaGreatDoor.lex
end

section
namespace Go.Proofs.YteidjbahodbgdaaGreatDoor.lex
open Go.Abs Go.RowKit
set_option maxRecDepth 100000
set_option maxHeartbeats 4000000
variable {gl : Z0l}
def Z6B (s : List UInt8) : Bool := !s.isEmpty && (Zap s == s.length && !keysL.contains s)
theorem Zjn (s : List UInt8) : ∃ k w, Z78 s = .tuple [.int .i64 k, .bool w] /\ (w && (k == 1)) = Z6B s /\ (k == 1) = Z6B s := by
 unfold Z78 Z6B
 by_cases h0 : s = []
 · subst h0; exact ⟨0, false, by rw [if_neg (fun h => h.1 rfl)], rfl, rfl⟩
 · by_cases hw : Zap s = s.length
   · rw [if_pos ⟨h0, hw⟩]
     refine ⟨_, _, rfl, ?_⟩
     have : s.isEmpty = false := by cases s with | nil => exact absurd rfl h0 | cons _ _ => rfl
     rw [this, hw]
     cases keysL.contains s <;> simp
   · rw [if_neg (fun h => hw h.2)]
     refine ⟨_, _, rfl, ?_⟩
     have : (Zap s == s.length) = false := by simpa using hw
     rw [this]; simp
theorem Ze8 (s : List UInt8) (hs : s.length <= 9223372036854775807) : ValOK Tryz.prog gl 69 [.str s] (.bool (Z6B s)) := by
 obtain ⟨k, w, h1, h2, h3⟩ := Zjn s
 have hO := Z8C (P := Tryz.prog) (gl := gl) (l := [(83, [.str s], Z78 s)]) ⟨rfl, Zho s hs, trivial⟩
 have q : ∀ H, Z04 Tryz.prog (Zlr [(83, [.str s], Z78 s)]) H 83 [.str s] = some (Z78 s, H) := fun H => ZlY (by kernel_rfl) Z1B
 rw [h1] at q hO
 rw [<- h2]
 refine Z0a follows Z09 hO Tryz.func69 rfl ?_
 repeat' ((conv => whnf); first | (refine exI (q _) ?_) | (first | refine stp ?_ | with_reducible refine Z01 (fun h => ?_) (fun h => ?_)))
 all_goals (try (simp_all [Z0J]; done))
end Go.Proofs.YteidjbahodbgdaaGreatDoor.lex
end

section
namespace Go.Proofs.YteidjbahodbgdaaGreatDoor.lex
open Go.Abs Go.RowKit
set_option maxRecDepth 100000
set_option maxHeartbeats 4000000
variable {gl : Z0l}
def okN (s : List UInt8) (n : Nat) : Prop := s.length <= 9223372036854775807 /\ n <= 9223372036854775807
mutual
def okE : Ex -> Prop
 | .mk _ _ s k => okN s k.length /\ okL k
def okL : List Ex -> Prop
 | [] => True
 | e :: l => okE e /\ okL l
end
theorem Z0H : ∀ {l : List Ex}, okL l -> ∀ e ∈ l, okE e
 | x :: l, h, e, he => by
  simp only [okL] at h
  rcases List.mem_cons.1 he with rfl | he
  · exact h.1
  · exact Z0H h.2 e he
theorem Z2d : ∀ {e : Ex}, okE e -> okN e.name e.kids.length /\ okL e.kids
 | .mk _ _ s k, h => by simp only [okE] at h; exact h
def ZeH (op : Int) : Int := if op = 1 \/ op = 2 then 0 else if op = 3 \/ op = 4 then 1 else if 5 <= op /\ op <= 16 then 2 else -1
theorem Zkd (op : Int) : ValOK Tryz.prog gl 68 [.int .i64 op] (.int .i64 (ZeH op)) := by
 refine Z0a follows Z09 Z05 Tryz.func68 rfl ?_
 repeat' ((conv => whnf); first | refine stp ?_ | with_reducible refine Z01 (fun h => ?_) (fun h => ?_))
 all_goals (show AV.int _ _ = AV.int _ _; congr 1; unfold ZeH; simp only [beq_iff_eq, decide_eq_true_eq, beq_eq_false_iff_ne, decide_eq_false_iff_not, ge_iff_le, Int.not_le] at *)
 all_goals (repeat' split)
 all_goals omega
mutual
def Z22 : Ex -> Int -> Int
 | .mk _ _ s k, l => heftL k (l - 1 - (s.length / 20 : Nat))
def heftL : List Ex -> Int -> Int
 | [], l => l
 | e :: k, l => if 0 <= l then heftL k (Z22 e l) else l
end
mutual
theorem Z8M : ∀ (e : Ex) (l : Int), 0 <= Z22 e l -> (Z0f e : Int) + Z22 e l <= l
 | .mk _ _ s k, l, h => by
  simp only [Z22, Z0f] at *
  have := heftL_size k _ h; omega
theorem heftL_size : ∀ (k : List Ex) (l : Int), 0 <= heftL k l -> (sizeL k : Int) + heftL k l <= l
 | [], l, h => by simp only [heftL, sizeL] at *; omega
 | e :: k, l, h => by
  simp only [heftL, sizeL] at *
  split at h
  · rename_i hl
    rw [if_pos hl]
    have h1 := heftL_size k _ h
    have h2 : 0 <= Z22 e l := by omega
    have h3 := Z8M e l h2
    omega
  · omega
end
mutual
theorem Zi9 : ∀ (e : Ex) (l : Int), Z22 e l <= l
 | .mk _ _ s k, l => by simp only [Z22]; have := heftL_le k (l - 1 - (s.length / 20 : Nat)); omega
theorem heftL_le : ∀ (k : List Ex) (l : Int), heftL k l <= l
 | [], l => by simp only [heftL]; omega
 | e :: k, l => by
  simp only [heftL]
  split
  · have := heftL_le k (Z22 e l); have := Zi9 e l; omega
  · omega
end
theorem Zdu : ∀ (k : List Ex) (l : Int) (i : Nat) (h : i < k.length), heftL (k.take (i + 1)) l = if 0 <= heftL (k.take i) l then Z22 k[i] (heftL (k.take i) l) else heftL (k.take i) l
 | e :: k, l, 0, h => by simp only [List.take_succ_cons, List.take_zero, heftL, List.getElem_cons_zero]
 | e :: k, l, i + 1, h => by
  have ih := fun l => Zdu k l i (by simpa using h)
  simp only [List.take_succ_cons, heftL, List.getElem_cons_succ] at ih ⊢
  split
  · exact ih _
  · rename_i h2; simp [h2]
theorem Z8L : ∀ (k : List Ex) (l : Int) (i : Nat), heftL (k.take i) l < 0 -> heftL k l = heftL (k.take i) l
 | [], l, i, h => by simp [heftL]
 | e :: k, l, 0, h => by
  simp only [List.take_zero, heftL] at *
  rw [if_neg (by omega)]
 | e :: k, l, i + 1, h => by
  simp only [List.take_succ_cons, heftL] at *
  split
  · rename_i hl
    rw [if_pos hl] at h
    exact Z8L k _ i h
  · rfl
theorem Zgi : ∀ (n : Nat) (e : Ex) (l : Int), Z0f e <= n -> okE e -> 0 <= l -> l <= 1048576 -> ValOK Tryz.prog gl 45 [.agg e.cells, .int .i64 l] (.int .i64 (Z22 e l))
 | 0, e, l, h, _, _, _ => by have := Z2p e; omega
 | n + 1, .mk op num name kids, l, h, hok, hl0, hl1 => by
  simp only [Z0f] at h
  obtain ⟨⟨hn1, hn2⟩, hok2⟩ := Z2d hok
  simp only [Ex.name, Ex.kids] at hn1 hn2 hok2
  obtain ⟨O, hO, q, -⟩ := fams (P := Tryz.prog) (gl := gl) [{ I := Ex × Int, f := 45, G := fun p => p.1 ∈ kids /\ 0 <= p.2 /\ p.2 <= 1048576, A := fun p => [.agg p.1.cells, .int .i64 p.2], R := fun p => .int .i64 (Z22 p.1 p.2), body := (by kernel_rfl), inj := (fun i j _ _ h => by simp only [List.cons.injEq, AV.agg.injEq, AV.int.injEq, and_true, true_and] at h; rw [Z16 _ _ h.1, h.2]), ok := (fun p hp => ⟨by have := Z40 p.1; simpa [refsL, Z1N] using this, Zgi n p.1 p.2 (by have := Z0w _ _ hp.1; omega) (Z0H hok2 _ hp.1) hp.2.1 hp.2.2⟩) }] rfl
  have q20 : Int.tdiv (name.length : Int) 20 = ((name.length / 20 : Nat) : Int) := rfl
  have w1 : IntKind.i64.wrap (l - 1) = l - 1 := Z4X (by omega) (by omega)
  have w2 : IntKind.i64.wrap (Int.tdiv (name.length : Int) 20) = ((name.length / 20 : Nat) : Int) := by rw [q20]; exact Z4X (by omega) (by omega)
  have w3 : IntKind.i64.wrap (l - 1 - ((name.length / 20 : Nat) : Int)) = l - 1 - ((name.length / 20 : Nat) : Int) := Z4X (by omega) (by omega)
  simp only [Ex.cells, Z22]
  refine Z0a follows Z09 hO Tryz.func45 rfl ?_
  repeat' ((conv => whnf); first | (with_reducible refine exW w1 ?_) | (refine And.intro (show (20 : Int) ≠ 0 by decide) ?_) | (rw [w2]) | (with_reducible refine exW w3 ?_) | (first | refine stp ?_ | with_reducible refine Z01 (fun h => ?_) (fun h => ?_)))
  conv => whnf
  generalize hl00 : l - 1 - ((name.length / 20 : Nat) : Int) = l0 at *
  refine ⟨Nat, (fun i => i <= kids.length), (fun i => [(1, .int .i64 (heftL (kids.take i) l0)), (2, .ptr 0 0), (5, .int .i64 i)]), (fun _ => [⟨true, 0, 0, .cells [.int .i64 op, .int .i64 num, .str name, .rs kids.length 4 (exC kids)] 65⟩]), (fun i => kids.length - i), ⟨0, Nat.zero_le _, FgL.mk [0] rfl ?_ ⟨⟨rfl, rfl, rfl, rfl, BodyGe.pre (rest := []) rfl rfl⟩, trivial⟩ rfl⟩, ?_⟩
  · simp only [List.take_zero, heftL]; (repeat (first | exact trivial | refine stw ?_))
  intro i hi
  dsimp only
  have hle := heftL_le (kids.take i) l0
  by_cases hlt : i < kids.length
  · have e1 : decide ((i : Int) < (kids.length : Int)) = true := by simpa using hlt
    by_cases hpos : 0 <= heftL (kids.take i) l0
    · have e2 : decide (heftL (kids.take i) l0 >= 0) = true := by simpa using hpos
      have hx := ex4 kids i hlt
      have hs := Zdu kids l0 i hlt
      rw [if_pos hpos] at hs
      have hc' : ∀ H, Z04 Tryz.prog O H 45 [.agg kids[i].cells, .int .i64 (heftL (kids.take i) l0)] = some (.int .i64 (Z22 kids[i] (heftL (kids.take i) l0)), H) := q (kids[i], _) ⟨Z0i hlt, hpos, by show heftL (kids.take i) l0 <= 1048576; omega⟩
      generalize kids[i] = k at *
      repeat' ((conv => whnf); first | (refine exI hx ?_) | (refine exI (hc' _) ?_) | (with_reducible refine ixJ i rfl ?_ ?_; (focus (omega))) | (first | refine stp ?_ | with_reducible refine Z01 (fun h => ?_) (fun h => ?_)))
      conv => whnf
      refine ⟨i + 1, hlt, by show kids.length - (i + 1) < kids.length - i; omega, FgL.mk [0] rfl ?_ ⟨⟨rfl, rfl, rfl, rfl, BodyGe.pre (rest := []) rfl rfl⟩, trivial⟩ rfl⟩
      rw [hs]; (repeat (first | exact trivial | refine stw ?_))
    · have e2 : decide (heftL (kids.take i) l0 >= 0) = false := by simpa using hpos
      have hst := Z8L kids l0 i (by omega)
      rw [hst]
      repeat' ((conv => whnf); first | refine stp ?_ | with_reducible refine Z01 (fun h => ?_) (fun h => ?_))
      rfl
  · have e1 : decide ((i : Int) < (kids.length : Int)) = false := by simpa using hlt
    have hi2 : i = kids.length := by have := hi; omega
    subst hi2
    rw [List.take_length]
    repeat' ((conv => whnf); first | refine stp ?_ | with_reducible refine Z01 (fun h => ?_) (fun h => ?_))
    rfl
theorem Zi2 (e : Ex) (l : Int) (hok : okE e) (hl0 : 0 <= l) (hl1 : l <= 1048576) : ValOK Tryz.prog gl 28 [.agg e.cells, .int .i64 l] (.bool (decide (0 <= Z22 e l))) := by
 have hO := Z8C (P := Tryz.prog) (gl := gl) (l := [(45, [.agg e.cells, .int .i64 l], .int .i64 (Z22 e l))]) ⟨by have := Z40 e; simpa [refsL, Z1N] using this, Zgi _ e l (Nat.le_refl _) hok hl0 hl1, trivial⟩
 have q : ∀ H, Z04 Tryz.prog (Zlr [(45, [.agg e.cells, .int .i64 l], .int .i64 (Z22 e l))]) H 45 [.agg e.cells, .int .i64 l] = some (.int .i64 (Z22 e l), H) := fun H => ZlY (by kernel_rfl) Z1B
 obtain ⟨op, num, name, kids⟩ := e
 simp only [Ex.cells] at *
 refine Z0a follows Z09 hO Tryz.func28 rfl ?_
 repeat' ((conv => whnf); first | (refine exI (q _) ?_) | (first | refine stp ?_ | with_reducible refine Z01 (fun h => ?_) (fun h => ?_)))
 all_goals rfl
def ZiT (op num : Int) (name : List UInt8) (n : Nat) : Bool := ZeH op == (n : Int) && ((op == 2) == Z6B name && ((op == 2 || name == []) && (decide (0 <= num) && (op == 1 || num == 0))))
mutual
def Z1A : Ex -> Bool
 | .mk o n s k => ZiT o n s k.length && rightL k
def rightL : List Ex -> Bool
 | [] => true
 | e :: l => Z1A e && rightL l
end
theorem Z8y : ∀ {l : List Ex} {i : Nat} (h : i < l.length), Z1A l[i] = false -> rightL l = false
 | e :: l, 0, h, h2 => by simp only [List.getElem_cons_zero] at h2; simp only [rightL, h2, Bool.false_and]
 | e :: l, i + 1, h, h2 => by simp only [List.getElem_cons_succ] at h2; simp only [rightL, Z8y (l := l) (by simpa using h) h2, Bool.and_false]
theorem Z7j : ∀ (l : List Ex) (i : Nat) (h : i < l.length), rightL (l.take (i + 1)) = (rightL (l.take i) && Z1A l[i])
 | e :: l, 0, h => by simp only [List.take_succ_cons, List.take_zero, rightL, List.getElem_cons_zero, Bool.and_true, Bool.true_and]
 | e :: l, i + 1, h => by
  have := Z7j l i (by simpa using h)
  simp only [List.take_succ_cons, rightL, List.getElem_cons_succ] at this ⊢; rw [this, Bool.and_assoc]
theorem ZcY : ∀ (n : Nat) (e : Ex), Z0f e <= n -> okE e -> ValOK Tryz.prog gl 52 [.agg e.cells] (.bool (Z1A e))
 | 0, e, h, _ => by have := Z2p e; omega
 | n + 1, .mk op num name kids, h, hok => by
  simp only [Z0f] at h
  obtain ⟨⟨hn1, hn2⟩, hok2⟩ := Z2d hok
  simp only [Ex.name, Ex.kids] at hn1 hn2 hok2
  obtain ⟨O, hO, p1, p2, p3, -⟩ := fams (P := Tryz.prog) (gl := gl) [{ I := Unit, f := 68, G := fun _ => True, A := fun _ => [.int .i64 op], R := fun _ => .int .i64 (ZeH op), body := by kernel_rfl, inj := fun _ _ _ _ _ => rfl, ok := fun _ _ => ⟨rfl, Zkd _⟩ },
   { I := Unit, f := 69, G := fun _ => True, A := fun _ => [.str name], R := fun _ => .bool (Z6B name), body := by kernel_rfl, inj := fun _ _ _ _ _ => rfl, ok := fun _ _ => ⟨rfl, Ze8 _ hn1⟩ },
   famE (g := 52) (by kernel_rfl) (fun k => .bool (Z1A k)) kids fun k hk => ZcY n k (by have := Z0w _ _ hk; omega) (Z0H hok2 _ hk)] rfl
  have q1 : ∀ H, Z04 Tryz.prog O H 68 [.int .i64 op] = some (.int .i64 (ZeH op), H) := p1 () trivial
  have q2 : ∀ H, Z04 Tryz.prog O H 69 [.str name] = some (.bool (Z6B name), H) := p2 () trivial
  have q3 : ∀ i (h : i < kids.length) H, Z04 Tryz.prog O H 52 [.agg kids[i].cells] = some (.bool (Z1A kids[i]), H) := fun i h => p3 _ (Z0i h)
  clear p1 p2 p3
  simp only [Ex.cells]
  refine Z0a follows Z09 hO Tryz.func52 rfl ?_
  have hop : (op == 2) = true \/ (op == 2) = false := by cases (op == 2) <;> simp
  obtain ⟨w, hw⟩ : ∃ w, Z6B name = w := ⟨_, rfl⟩
  rw [hw] at q2
  cases w <;> rcases hop with hop | hop
  all_goals (repeat' ((conv => whnf); first | (refine exI (q1 _) ?_) | (refine exI (q2 _) ?_) | (first | refine stp ?_ | with_reducible refine Z01 (fun h => ?_) (fun h => ?_))))
  all_goals (first | (clear q1 q2 q3 hO; simp only [Z1A]; (first | (simp_all [Z0J, ZiT]; done) | (simp_all [Z0J, ZiT]; intros; omega))) | skip)
  all_goals (have hown : ZiT op num name kids.length = true := by (clear q1 q2 q3 hO; simp_all [ZiT]))
  all_goals (conv => whnf)
  all_goals refine ⟨Nat, (fun i => i <= kids.length /\ rightL (kids.take i) = true), (fun i => [(1, .ptr 0 0), (3, .int .i64 i)]), (fun _ => [⟨true, 0, 0, .cells [.int .i64 op, .int .i64 num, .str name, .rs kids.length 4 (exC kids)] 65⟩]), (fun i => kids.length - i), ⟨0, ⟨Nat.zero_le _, rfl⟩, FgL.mk [0] rfl ?_ ⟨⟨rfl, rfl, rfl, rfl, BodyGe.pre (rest := []) rfl rfl⟩, trivial⟩ rfl⟩, ?_⟩
  all_goals first | ((repeat (first | exact trivial | refine stw ?_)); done) | skip
  all_goals (
   rintro i ⟨hi, hall⟩
   dsimp only
   by_cases hlt : i < kids.length
   · have e1 : decide ((i : Int) < (kids.length : Int)) = true := by simpa using hlt
     have hx := ex4 kids i hlt
     have q3' := q3 i hlt
     have ht := Z7j kids i hlt
     rw [hall, Bool.true_and] at ht
     cases hr : Z1A kids[i] with
     | true =>
      rw [hr] at q3' ht
      generalize kids[i] = k at *
      repeat' ((conv => whnf); first | (refine exI hx ?_) | (refine exI (q3' _) ?_) | (with_reducible refine ixJ i rfl ?_ ?_; (focus (omega))) | (first | refine stp ?_ | with_reducible refine Z01 (fun h => ?_) (fun h => ?_)))
      conv => whnf
      refine ⟨i + 1, ⟨hlt, ht⟩, by show kids.length - (i + 1) < kids.length - i; omega, FgL.mk [0] rfl ?_ ⟨⟨rfl, rfl, rfl, rfl, BodyGe.pre (rest := []) rfl rfl⟩, trivial⟩ rfl⟩
      (repeat (first | exact trivial | refine stw ?_))
     | false =>
      have hf := Z8y hlt hr
      rw [hr] at q3'
      generalize kids[i] = k at *
      repeat' ((conv => whnf); first | (refine exI hx ?_) | (refine exI (q3' _) ?_) | (with_reducible refine ixJ i rfl ?_ ?_; (focus (omega))) | (first | refine stp ?_ | with_reducible refine Z01 (fun h => ?_) (fun h => ?_)))
      simp only [Z1A, hf, Bool.and_false]; rfl
   · have e1 : decide ((i : Int) < (kids.length : Int)) = false := by simpa using hlt
     have hi2 : i = kids.length := by have := hi; omega
     subst hi2
     rw [List.take_length] at hall
     repeat' ((conv => whnf); (first | refine stp ?_ | with_reducible refine Z01 (fun h => ?_) (fun h => ?_)))
     simp only [Z1A, hall, hown, Bool.and_true]; rfl)
def Z24 (e : Ex) : Int := if 2000 < Z0f e \/ 32 < Z3u e then 3 else if Z1A e then 0 else 2
theorem Z8Y (e : Ex) (hok : okE e) (hs : Z0f e <= 1048576) : ValOK Tryz.prog gl 34 [.agg e.cells] (.int .i64 (Z24 e)) := by
 have hd := Z8X e
 obtain ⟨O, hO, p1, p2, p3, -⟩ := fams (P := Tryz.prog) (gl := gl) [famE (g := 50) (by kernel_rfl) (fun k => .int .i64 (Z0f k)) [e] fun k hk => by rw [List.mem_singleton.1 hk]; exact ZcV _ e (Nat.le_refl _) hs,
  famE (g := 51) (by kernel_rfl) (fun k => .int .i64 (Z3u k)) [e] fun k hk => by rw [List.mem_singleton.1 hk]; exact ZdP _ e (Nat.le_refl _) hs,
  famE (g := 52) (by kernel_rfl) (fun k => .bool (Z1A k)) [e] fun k hk => by rw [List.mem_singleton.1 hk]; exact ZcY _ e (Nat.le_refl _) hok] rfl
 have q1 : ∀ H, Z04 Tryz.prog O H 50 [.agg e.cells] = some (.int .i64 (Z0f e), H) := p1 e (by show e ∈ [e]; simp)
 have q2 : ∀ H, Z04 Tryz.prog O H 51 [.agg e.cells] = some (.int .i64 (Z3u e), H) := p2 e (by show e ∈ [e]; simp)
 have q3 : ∀ H, Z04 Tryz.prog O H 52 [.agg e.cells] = some (.bool (Z1A e), H) := p3 e (by show e ∈ [e]; simp)
 clear p1 p2 p3
 unfold Z24
 generalize Z0f e = n at *
 generalize Z3u e = d at *
 generalize Z1A e = r at *
 obtain ⟨op, num, name, kids⟩ := e
 simp only [Ex.cells] at *
 refine Z0a follows Z09 hO Tryz.func34 rfl ?_
 repeat' ((conv => whnf); first | (refine exI (q1 _) ?_) | (refine exI (q2 _) ?_) | (refine exI (q3 _) ?_) | (first | refine stp ?_ | with_reducible refine Z01 (fun h => ?_) (fun h => ?_)))
 all_goals (show AV.int _ _ = AV.int _ _; congr 1; clear q1 q2 q3 hO; simp only [decide_eq_true_eq, decide_eq_false_iff_not, Bool.not_eq_true', Bool.not_eq_false'] at *)
 all_goals (repeat' split)
 all_goals (first | rfl | omega | (simp_all; done) | (exfalso; simp_all; omega))
end Go.Proofs.YteidjbahodbgdaaGreatDoor.lex
end

section
namespace Go.Proofs.YteidjbahodbgdaaGreatDoor.lex
open Go.Abs Go.RowKit
set_option maxRecDepth 100000
set_option maxHeartbeats 4000000
variable {gl : Z0l}
def Z6C (l : List UInt8) : Nat := l.foldl (fun n c => n * 10 + (c.toNat - 48)) 0
def Za8 (l : List UInt8) : Bool := l.all fun c => Z8V c.toNat
theorem Z50 (l : List UInt8) (k : Nat) (h : k < l.length) : Z6C (l.take (k + 1)) = Z6C (l.take k) * 10 + (l[k].toNat - 48) := by
 unfold Z6C
 rw [List.take_succ_eq_append_getElem h, List.foldl_append]; rfl
theorem Zbq (l : List UInt8) (k : Nat) (h : k < l.length) : Za8 (l.take (k + 1)) = (Za8 (l.take k) && Z8V l[k].toNat) := by
 unfold Za8
 rw [List.take_succ_eq_append_getElem h, List.all_append]; simp
theorem Zbp (l : List UInt8) (k : Nat) (h : k < l.length) (hd : Z8V l[k].toNat = false) : Za8 l = false := by
 unfold Za8
 rw [Bool.eq_false_iff]; intro h2
 have := List.all_eq_true.1 h2 _ (List.getElem_mem h)
 rw [hd] at this; cases this
theorem Zfe (l : List UInt8) (ha : Za8 l = true) : ∀ k, k <= l.length -> Z6C (l.take k) < 10 ^ k
 | 0, _ => by simp [Z6C]
 | k + 1, h => by
  have h1 := Zfe l ha k (by omega)
  have h2 := Z50 l k (by omega)
  have h3 : Z8V l[k].toNat = true := List.all_eq_true.1 ha _ (List.getElem_mem (by omega))
  simp only [Z8V, Bool.and_eq_true, decide_eq_true_eq] at h3
  rw [Nat.pow_succ]; omega
theorem Z9b (l : List UInt8) (k : Nat) (hk : k <= l.length) (hl : k <= 4) (ha : Za8 (l.take k) = true) : Z6C (l.take k) < 10000 := by
 have h := Zfe (l.take k) ha k (by simp; omega)
 rw [List.take_take, Nat.min_self] at h
 have : 10 ^ k <= 10 ^ 4 := Nat.pow_le_pow_right (by decide) hl
 omega
def ZaT (s : List UInt8) : Bool := s == [] || (decide (4 < s.length) || (decide (1 < s.length) && (s[0]? == some 48)))
def Z1X (s : List UInt8) : Int := if ZaT s = true then -1 else if Za8 s = true then Z6C s else -1
theorem Z3r {s : List UInt8} (h : ZaT s = true) : Z1X s = -1 := by unfold Z1X; rw [if_pos h]
theorem Zdb {s : List UInt8} (h : Za8 s = false) : Z1X s = -1 := by unfold Z1X; split; rfl; simp [h]
theorem Z9w {s : List UInt8} (h : ZaT s = false) (ha : Za8 s = true) : Z1X s = Z6C s := by unfold Z1X; rw [h, ha]; rfl
def ZiP (s : List UInt8) : AV := if Z1X s < 0 then .tuple [.int .i64 0, .bool false] else .tuple [.int .i64 (Z1X s), .bool true]
theorem Z6Q {s : List UInt8} (h : Z1X s = -1) : ZiP s = .tuple [.int .i64 0, .bool false] := by unfold ZiP; rw [h]; rfl
theorem ZhM {s : List UInt8} (h : ZaT s = false) (ha : Za8 s = true) : ZiP s = .tuple [.int .i64 (Z6C s), .bool true] := by
 unfold ZiP; rw [Z9w h ha, if_neg (by omega)]
theorem Zd9 {s : List UInt8} (h : s.length = 0) : ZaT s = true := by
 have : s = [] := List.length_eq_zero_iff.1 h
 subst this; rfl
theorem ZaS {s : List UInt8} (h : 4 < s.length) : ZaT s = true := by simp [ZaT, h]
theorem ZaR {s : List UInt8} {c : UInt8} (h : 1 < s.length) (h2 : s[0]? = some c) (h3 : ((c.toNat : Int) == 48) = true) : ZaT s = true := by
 have : c = 48 := by rw [show ((c.toNat : Int) == 48) = (c == 48) from Zjp c 48 (by decide)] at h3; simpa using h3
 subst this; simp [ZaT, h, h2]
theorem ZfX {s : List UInt8} {c : UInt8} (h0 : s.length ≠ 0) (h4 : ¬ 4 < s.length) (h2 : s[0]? = some c) (h3 : ¬ 1 < s.length \/ ((c.toNat : Int) == 48) = false) : ZaT s = false := by
 have e0 : (s == []) = false := by cases s with | nil => simp at h0 | cons _ _ => rfl
 rcases h3 with h3 | h3
 · simp [ZaT, e0, h4, h3]
 · have : (c == 48) = false := by rw [show ((c.toNat : Int) == 48) = (c == 48) from Zjp c 48 (by decide)] at h3; simpa using h3
   have h5 : c ≠ 48 := by simpa using this
   simp [ZaT, e0, h4, h2, h5]
theorem Zc4 (s : List UInt8) (hs : s.length <= 9223372036854775807) : ValOK Tryz.prog gl 93 [.str s] (ZiP s) := by
 by_cases h0 : s.length = 0
 · have e0 : ((s.length : Int) == 0) = true := by simp [h0]
   have es : (s == []) = true := by simpa using h0
   rw [Z6Q (Z3r (Zd9 h0))]
   refine Z0a follows Z09 Z05 Tryz.func93 rfl ?_
   repeat' ((conv => whnf); first | refine stp ?_ | with_reducible refine Z01 (fun h => ?_) (fun h => ?_))
   all_goals rfl
 have e0 : ((s.length : Int) == 0) = false := by simp [h0]
 have es : (s == []) = false := by simpa using h0
 by_cases h4 : 4 < s.length
 · have e4 : decide ((s.length : Int) > 4) = true := by simp; omega
   rw [Z6Q (Z3r (ZaS h4))]
   refine Z0a follows Z09 Z05 Tryz.func93 rfl ?_
   repeat' ((conv => whnf); first | refine stp ?_ | with_reducible refine Z01 (fun h => ?_) (fun h => ?_))
   all_goals rfl
 have e4 : decide ((s.length : Int) > 4) = false := by simp; omega
 obtain ⟨c, hc⟩ : ∃ c, s[0]? = some c := ⟨s[0], by simp⟩
 by_cases hb : 1 < s.length /\ ((c.toNat : Int) == 48) = true
 · obtain ⟨h1, hz⟩ := hb
   have e1 : decide ((s.length : Int) > 1) = true := by simp; omega
   rw [Z6Q (Z3r (ZaR h1 hc hz))]
   refine Z0a follows Z09 Z05 Tryz.func93 rfl ?_
   repeat' ((conv => whnf); first | with_reducible refine ixS 0 rfl hc ?_ | (first | refine stp ?_ | with_reducible refine Z01 (fun h => ?_) (fun h => ?_)))
   all_goals rfl
 have ho : ZaT s = false := ZfX h0 h4 hc (by
  by_cases h1 : 1 < s.length
  · exact .inr (by simpa using fun h => hb ⟨h1, h⟩)
  · exact .inl h1)
 have hcase : (decide ((s.length : Int) > 1) = false) \/ (decide ((s.length : Int) > 1) = true /\ ((c.toNat : Int) == 48) = false) := by
  by_cases h1 : 1 < s.length
  · exact .inr ⟨by simp; omega, by simpa using fun h => hb ⟨h1, h⟩⟩
  · exact .inl (by simp; omega)
 refine Z0a follows Z09 Z05 Tryz.func93 rfl ?_
 clear hb
 rcases hcase with e1 | ⟨e1, hz⟩
 all_goals (repeat' ((conv => whnf); first | with_reducible refine ixS 0 rfl hc ?_ | (first | refine stp ?_ | with_reducible refine Z01 (fun h => ?_) (fun h => ?_))))
 all_goals (conv => whnf)
 all_goals (refine ⟨Nat, (fun i => i <= s.length /\ Za8 (s.take i) = true), (fun i => [(0, .str s), (4, .int .i64 (Z6C (s.take i))), (25, .int .i64 s.length), (26, .int .i64 i)]), (fun _ => []), (fun i => s.length - i), ⟨0, ⟨Nat.zero_le _, rfl⟩, FgL.mk0 rfl ?_⟩, ?_⟩)
 all_goals (first | (simp only [List.take_zero, Z6C, List.foldl_nil]; (repeat (first | exact trivial | refine stw ?_)); done) | skip)
 all_goals (
  rintro i ⟨hi, hall⟩
  dsimp only
  by_cases hlt : i < s.length
  · have e2 : decide ((i : Int) < (s.length : Int)) = true := by simpa using hlt
    have hx : s[i]? = some s[i] := by simp [hlt]
    have hsn := Z50 s i hlt
    have hal := Zbq s i hlt
    have hst := Zbp s i hlt
    have hv := Z9b s i hi (by omega) hall
    rw [hall, Bool.true_and] at hal
    cases hd : Z8V s[i].toNat with
    | true =>
     rw [hd] at hal
     have hd' := hd
     simp only [Z8V, Bool.and_eq_true, decide_eq_true_eq] at hd'
     have d1 : decide (((s[i]).toNat : Int) < 48) = false := by simp; omega
     have d2 : decide (((s[i]).toNat : Int) > 57) = false := by simp; omega
     clear hst
     generalize Z6C (s.take i) = v at *
     generalize s[i] = b at *
     repeat' ((conv => whnf); first | with_reducible refine ixS i rfl hx ?_ | (first | refine stp ?_ | with_reducible refine Z01 (fun h => ?_) (fun h => ?_)))
     conv => whnf
     refine ⟨i + 1, ⟨hlt, hal⟩, by show s.length - (i + 1) < s.length - i; omega, FgL.mk0 rfl ?_⟩
     have ew : IntKind.i64.wrap (10 * (v : Int) + IntKind.i64.wrap (IntKind.u8.wrap ((b.toNat : Int) - 48))) = ((Z6C (s.take (i + 1)) : Nat) : Int) := by
      rw [hsn]; simp only [IntKind.wrap_u8, IntKind.wrap_i64]; omega
     skip
     (repeat (first | exact trivial | refine stw ?_))
    | false =>
     rw [Z6Q (Zdb (hst hd))]
     have hd' := hd
     simp only [Z8V, Bool.and_eq_false_iff, decide_eq_false_iff_not] at hd'
     clear hst hal hsn
     generalize s[i] = b at *
     by_cases h48 : (b.toNat : Int) < 48
     · have d1 : decide ((b.toNat : Int) < 48) = true := by simpa using h48
       repeat' ((conv => whnf); first | with_reducible refine ixS i rfl hx ?_ | (first | refine stp ?_ | with_reducible refine Z01 (fun h => ?_) (fun h => ?_)))
       all_goals rfl
     · have d1 : decide ((b.toNat : Int) < 48) = false := by simpa using h48
       have d2 : decide ((b.toNat : Int) > 57) = true := by simp only [decide_eq_true_eq]; omega
       repeat' ((conv => whnf); first | with_reducible refine ixS i rfl hx ?_ | (first | refine stp ?_ | with_reducible refine Z01 (fun h => ?_) (fun h => ?_)))
       all_goals rfl
  · have e2 : decide ((i : Int) < (s.length : Int)) = false := by simpa using hlt
    have hi2 : i = s.length := by omega
    subst hi2
    rw [List.take_length] at hall ⊢
    rw [ZhM ho hall]
    repeat' ((conv => whnf); first | refine stp ?_ | with_reducible refine Z01 (fun h => ?_) (fun h => ?_))
    all_goals rfl)
theorem Z5g {s : List UInt8} (h : Z1X s = -1) : AV.int .i64 (Z1X s) = .int .i64 (-1) := by rw [h]
theorem ZfZ (s : List UInt8) (hs : s.length <= 9223372036854775807) : ValOK Tryz.prog gl 58 [.str s] (.int .i64 (Z1X s)) := by
 by_cases h0 : s.length = 0
 · have e0 : ((s.length : Int) == 0) = true := by simp [h0]
   have es : (s == []) = true := by simpa using h0
   rw [Z5g (Z3r (Zd9 h0))]
   refine Z0a follows Z09 Z05 Tryz.func58 rfl ?_
   repeat' ((conv => whnf); first | refine stp ?_ | with_reducible refine Z01 (fun h => ?_) (fun h => ?_))
   all_goals rfl
 have e0 : ((s.length : Int) == 0) = false := by simp [h0]
 have es : (s == []) = false := by simpa using h0
 by_cases h4 : 4 < s.length
 · have e4 : decide ((s.length : Int) > 4) = true := by simp; omega
   rw [Z5g (Z3r (ZaS h4))]
   refine Z0a follows Z09 Z05 Tryz.func58 rfl ?_
   repeat' ((conv => whnf); first | refine stp ?_ | with_reducible refine Z01 (fun h => ?_) (fun h => ?_))
   all_goals rfl
 have e4 : decide ((s.length : Int) > 4) = false := by simp; omega
 obtain ⟨c, hc⟩ : ∃ c, s[0]? = some c := ⟨s[0], by simp⟩
 by_cases hb : 1 < s.length /\ ((c.toNat : Int) == 48) = true
 · obtain ⟨h1, hz⟩ := hb
   have e1 : decide ((s.length : Int) > 1) = true := by simp; omega
   rw [Z5g (Z3r (ZaR h1 hc hz))]
   refine Z0a follows Z09 Z05 Tryz.func58 rfl ?_
   repeat' ((conv => whnf); first | with_reducible refine ixS 0 rfl hc ?_ | (first | refine stp ?_ | with_reducible refine Z01 (fun h => ?_) (fun h => ?_)))
   all_goals rfl
 have ho : ZaT s = false := ZfX h0 h4 hc (by
  by_cases h1 : 1 < s.length
  · exact .inr (by simpa using fun h => hb ⟨h1, h⟩)
  · exact .inl h1)
 have hcase : (decide ((s.length : Int) > 1) = false) \/ (decide ((s.length : Int) > 1) = true /\ ((c.toNat : Int) == 48) = false) := by
  by_cases h1 : 1 < s.length
  · exact .inr ⟨by simp; omega, by simpa using fun h => hb ⟨h1, h⟩⟩
  · exact .inl (by simp; omega)
 refine Z0a follows Z09 Z05 Tryz.func58 rfl ?_
 clear hb
 rcases hcase with e1 | ⟨e1, hz⟩
 all_goals (repeat' ((conv => whnf); first | with_reducible refine ixS 0 rfl hc ?_ | (first | refine stp ?_ | with_reducible refine Z01 (fun h => ?_) (fun h => ?_))))
 all_goals (conv => whnf)
 all_goals (refine ⟨Nat, (fun i => i <= s.length /\ Za8 (s.take i) = true), (fun i => [(0, .str s), (3, .int .i64 (Z6C (s.take i))), (4, .int .i64 i)]), (fun _ => []), (fun i => s.length - i), ⟨0, ⟨Nat.zero_le _, rfl⟩, FgL.mk0 rfl ?_⟩, ?_⟩)
 all_goals (first | (simp only [List.take_zero, Z6C, List.foldl_nil]; (repeat (first | exact trivial | refine stw ?_)); done) | skip)
 all_goals (
  rintro i ⟨hi, hall⟩
  dsimp only
  by_cases hlt : i < s.length
  · have e2 : decide ((i : Int) < (s.length : Int)) = true := by simpa using hlt
    have hx : s[i]? = some s[i] := by simp [hlt]
    have hsn := Z50 s i hlt
    have hal := Zbq s i hlt
    have hst := Zbp s i hlt
    have hv := Z9b s i hi (by omega) hall
    rw [hall, Bool.true_and] at hal
    cases hd : Z8V s[i].toNat with
    | true =>
     rw [hd] at hal
     have hd' := hd
     simp only [Z8V, Bool.and_eq_true, decide_eq_true_eq] at hd'
     have d1 : decide (((s[i]).toNat : Int) < 48) = false := by simp; omega
     have d2 : decide (((s[i]).toNat : Int) > 57) = false := by simp; omega
     clear hst
     generalize Z6C (s.take i) = v at *
     generalize s[i] = b at *
     repeat' ((conv => whnf); first | with_reducible refine ixS i rfl hx ?_ | (first | refine stp ?_ | with_reducible refine Z01 (fun h => ?_) (fun h => ?_)))
     conv => whnf
     refine ⟨i + 1, ⟨hlt, hal⟩, by show s.length - (i + 1) < s.length - i; omega, FgL.mk0 rfl ?_⟩
     have ew : IntKind.i64.wrap ((v : Int) * 10 + IntKind.i64.wrap (IntKind.u8.wrap ((b.toNat : Int) - 48))) = ((Z6C (s.take (i + 1)) : Nat) : Int) := by
      rw [hsn]; simp only [IntKind.wrap_u8, IntKind.wrap_i64]; omega
     skip
     (repeat (first | exact trivial | refine stw ?_))
    | false =>
     rw [Z5g (Zdb (hst hd))]
     have hd' := hd
     simp only [Z8V, Bool.and_eq_false_iff, decide_eq_false_iff_not] at hd'
     clear hst hal hsn
     generalize s[i] = b at *
     by_cases h48 : (b.toNat : Int) < 48
     · have d1 : decide ((b.toNat : Int) < 48) = true := by simpa using h48
       repeat' ((conv => whnf); first | with_reducible refine ixS i rfl hx ?_ | (first | refine stp ?_ | with_reducible refine Z01 (fun h => ?_) (fun h => ?_)))
       all_goals rfl
     · have d1 : decide ((b.toNat : Int) < 48) = false := by simpa using h48
       have d2 : decide ((b.toNat : Int) > 57) = true := by simp only [decide_eq_true_eq]; omega
       repeat' ((conv => whnf); first | with_reducible refine ixS i rfl hx ?_ | (first | refine stp ?_ | with_reducible refine Z01 (fun h => ?_) (fun h => ?_)))
       all_goals rfl
  · have e2 : decide ((i : Int) < (s.length : Int)) = false := by simpa using hlt
    have hi2 : i = s.length := by omega
    subst hi2
    rw [List.take_length] at hall ⊢
    rw [Z9w ho hall]
    repeat' ((conv => whnf); first | refine stp ?_ | with_reducible refine Z01 (fun h => ?_) (fun h => ?_))
    all_goals rfl)
end Go.Proofs.YteidjbahodbgdaaGreatDoor.lex
end

section
namespace Go.Proofs.YteidjbahodbgdaaGreatDoor.lex
open Go.Abs Go.RowKit
set_option maxRecDepth 100000
def ksC (n : List Int) : List AV := n.map (AV.int .i64)
theorem Z9E (s : List Int) : (ksC s).length = s.length := by simp [ksC]
theorem Zkk {s : List Int} {j : Nat} (h : j < s.length) : s.getD j 0 = s[j] := by rw [List.getD_eq_getElem?_getD, List.getElem?_eq_getElem h]; rfl
theorem Zj1 (s : List Int) (j : Nat) (h : j < s.length) : tk 1 ((ksC s).drop (0 + j * 1)) = some [.int .i64 (s.getD j 0)] := by
 have := Z11 (AV.int .i64) s j h (off := 0 + j * 1) (by omega)
 rw [Zkk h]; exact this
theorem ZmW : ∀ (cs : List AV) (k : Nat) (v : AV), k < cs.length -> spl cs k [v] = some (cs.set k v)
 | c :: cs, 0, v, h => by cases cs <;> rfl
 | c :: cs, k + 1, v, h => by simp only [spl, ZmW cs k v (by simpa using h)]; rfl
theorem Zkb (s : List Int) (j : Nat) (v : Int) (h : j < s.length) : spl (ksC s) (0 + j * 1) [.int .i64 v] = some (ksC (s.set j v)) := by
 rw [show 0 + j * 1 = j by omega, ZmW _ _ _ (by rw [Z9E]; exact h)]
 unfold ksC; rw [List.map_set]
theorem Z4H : ∀ {a b : List Int}, ksC a = ksC b -> a = b
 | [], [], _ => rfl
 | [], _ :: _, h => by simp [ksC] at h
 | _ :: _, [], h => by simp [ksC] at h
 | x :: a, y :: b, h => by
  simp only [ksC, List.map_cons, List.cons.injEq, AV.int.injEq, true_and] at h
  rw [h.1, Z4H (a := a) (b := b) h.2]
theorem Z0R : ∀ (n : List Int), refsL (ksC n) [] = []
 | [] => rfl
 | c :: n => Z0R n
theorem Z2e (c : Int) (n : List Int) : (ksC (c :: n)).length = (n.length + 1) * 1 := by simp [ksC]
theorem Z4G : ∀ n, (ksC n).all Go.Abs.one = true
 | [] => rfl
 | c :: n => by simp only [ksC, List.map_cons, List.all_cons]; exact Z4G n
end Go.Proofs.YteidjbahodbgdaaGreatDoor.lex
end

section
namespace Go.Proofs.YteidjbahodbgdaaGreatDoor.runLives
open Go.RowKit Go.Abs
def ZmU : List AV := [.int .u8 (.ofNat 0), .int .u8 (.ofNat 1), .int .u8 (.ofNat 28), .int .u8 (.ofNat 2), .int .u8 (.ofNat 29), .int .u8 (.ofNat 14), .int .u8 (.ofNat 24),
 .int .u8 (.ofNat 3), .int .u8 (.ofNat 30), .int .u8 (.ofNat 22), .int .u8 (.ofNat 20), .int .u8 (.ofNat 15), .int .u8 (.ofNat 25),
 .int .u8 (.ofNat 17), .int .u8 (.ofNat 4), .int .u8 (.ofNat 8), .int .u8 (.ofNat 31), .int .u8 (.ofNat 27), .int .u8 (.ofNat 13), .int .u8 (.ofNat 23),
 .int .u8 (.ofNat 21), .int .u8 (.ofNat 19), .int .u8 (.ofNat 16), .int .u8 (.ofNat 7), .int .u8 (.ofNat 26), .int .u8 (.ofNat 12),
 .int .u8 (.ofNat 18), .int .u8 (.ofNat 6), .int .u8 (.ofNat 11), .int .u8 (.ofNat 5), .int .u8 (.ofNat 10), .int .u8 (.ofNat 9)]
def ZmT : List AV := [.int .u8 (.ofNat 0), .int .u8 (.ofNat 1), .int .u8 (.ofNat 56), .int .u8 (.ofNat 2), .int .u8 (.ofNat 57), .int .u8 (.ofNat 49), .int .u8 (.ofNat 28),
 .int .u8 (.ofNat 3), .int .u8 (.ofNat 61), .int .u8 (.ofNat 58), .int .u8 (.ofNat 42), .int .u8 (.ofNat 50), .int .u8 (.ofNat 38),
 .int .u8 (.ofNat 29), .int .u8 (.ofNat 17), .int .u8 (.ofNat 4), .int .u8 (.ofNat 62), .int .u8 (.ofNat 47), .int .u8 (.ofNat 59),
 .int .u8 (.ofNat 36), .int .u8 (.ofNat 45), .int .u8 (.ofNat 43), .int .u8 (.ofNat 51), .int .u8 (.ofNat 22), .int .u8 (.ofNat 53),
 .int .u8 (.ofNat 39), .int .u8 (.ofNat 33), .int .u8 (.ofNat 30), .int .u8 (.ofNat 24), .int .u8 (.ofNat 18), .int .u8 (.ofNat 12),
 .int .u8 (.ofNat 5), .int .u8 (.ofNat 63), .int .u8 (.ofNat 55), .int .u8 (.ofNat 48), .int .u8 (.ofNat 27), .int .u8 (.ofNat 60),
 .int .u8 (.ofNat 41), .int .u8 (.ofNat 37), .int .u8 (.ofNat 16), .int .u8 (.ofNat 46), .int .u8 (.ofNat 35), .int .u8 (.ofNat 44),
 .int .u8 (.ofNat 21), .int .u8 (.ofNat 52), .int .u8 (.ofNat 32), .int .u8 (.ofNat 23), .int .u8 (.ofNat 11), .int .u8 (.ofNat 54),
 .int .u8 (.ofNat 26), .int .u8 (.ofNat 40), .int .u8 (.ofNat 15), .int .u8 (.ofNat 34), .int .u8 (.ofNat 20), .int .u8 (.ofNat 31),
 .int .u8 (.ofNat 10), .int .u8 (.ofNat 25), .int .u8 (.ofNat 14), .int .u8 (.ofNat 19), .int .u8 (.ofNat 9), .int .u8 (.ofNat 13), .int .u8 (.ofNat 8),
 .int .u8 (.ofNat 7), .int .u8 (.ofNat 6)]
def ZmS : List AV := [.int .u64 (.ofNat 1), .int .u64 (.ofNat 10), .int .u64 (.ofNat 100), .int .u64 (.ofNat 1000), .int .u64 (.ofNat 10000), .int .u64 (.ofNat 100000),
 .int .u64 (.ofNat 1000000), .int .u64 (.ofNat 10000000), .int .u64 (.ofNat 100000000), .int .u64 (.ofNat 1000000000), .int .u64 (.ofNat 10000000000),
 .int .u64 (.ofNat 100000000000), .int .u64 (.ofNat 1000000000000), .int .u64 (.ofNat 10000000000000), .int .u64 (.ofNat 100000000000000),
 .int .u64 (.ofNat 1000000000000000), .int .u64 (.ofNat 10000000000000000), .int .u64 (.ofNat 100000000000000000),
 .int .u64 (.ofNat 1000000000000000000), .int .u64 (.ofNat 10000000000000000000)]
def tbl3 : List AV := [.bool false, .bool false, .bool false, .bool false, .int .i64 (.ofNat 0), .bool true, .bool false, .bool false, .bool false, .int .i64 (.ofNat 1),
 .bool true, .bool true, .bool true, .bool false, .int .i64 (.ofNat 0), .bool false, .bool true, .bool true, .bool false, .int .i64 (.ofNat 1),
 .bool true, .bool true, .bool true, .bool false, .int .i64 (.ofNat 2), .bool true, .bool true, .bool true, .bool false, .int .i64 (.ofNat 1),
 .bool true, .bool true, .bool true, .bool false, .int .i64 (.ofNat 1), .bool false, .bool false, .bool true, .bool false, .int .i64 (.ofNat 0),
 .bool false, .bool false, .bool false, .bool false, .int .i64 (.ofNat 1), .bool false, .bool false, .bool false, .bool false, .int .i64 (.ofNat 1),
 .bool false, .bool false, .bool false, .bool true, .int .i64 (.ofNat 0), .bool false, .bool false, .bool false, .bool true, .int .i64 (.ofNat 1),
 .bool false, .bool false, .bool false, .bool false, .int .i64 (.ofNat 0), .bool false, .bool false, .bool false, .bool false, .int .i64 (.ofNat 0)]
def gl : Z0l := fun g => if Nat.beq g 4 then some ZmU else if Nat.beq g 5 then some ZmT else if Nat.beq g 3 then some ZmS else if Nat.beq g 0 then some tbl3 else none
set_option maxRecDepth 100000
theorem follows : Tryz.prog.follows .mixedOrders = true := by kernel_rfl
theorem Z9x : (Tryz.prog.funcs.toList.all fun fn => !(fn.name == "runtime.NumGoroutine")) = true := by kernel_rfl
theorem Z09 : NoNum Tryz.prog := ⟨fun g fn h => by
 have h1 := List.all_eq_true.1 Z9x fn (Array.mem_toList_iff.2 (Array.mem_of_getElem? h))
 simpa using h1, of_decide_eq_true (by kernel_rfl)⟩
theorem n0 : Tryz.prog.globalNamed "math/bits.deBruijn32tab" = some 4 := by kernel_rfl
theorem ty0 : (Tryz.prog.globals[4]?).map (·.type) = some 168 := by kernel_rfl
theorem av0 : Zhl Tryz.prog 6 168 (Rows.laid_math_bits_deBruijn32tab (H := Unit)) = some ZmU := by kernel_rfl
theorem n1 : Tryz.prog.globalNamed "math/bits.deBruijn64tab" = some 5 := by kernel_rfl
theorem ty1 : (Tryz.prog.globals[5]?).map (·.type) = some 169 := by kernel_rfl
theorem av1 : Zhl Tryz.prog 6 169 (Rows.laid_math_bits_deBruijn64tab (H := Unit)) = some ZmT := by kernel_rfl
theorem n2 : Tryz.prog.globalNamed "internal/strconv.uint64pow10" = some 3 := by kernel_rfl
theorem ty2 : (Tryz.prog.globals[3]?).map (·.type) = some 163 := by kernel_rfl
theorem av2 : Zhl Tryz.prog 6 163 (Rows.laid_internal_strconv_uint64pow10 (H := Unit)) = some ZmS := by kernel_rfl
theorem n3 : Tryz.prog.globalNamed "cantilever/ir.shapes" = some 0 := by kernel_rfl
theorem ty3 : (Tryz.prog.globals[0]?).map (·.type) = some 124 := by kernel_rfl
theorem av3 : Zhl Tryz.prog 6 124 (Rows.laid_cantilever_ir_shapes (H := Unit)) = some tbl3 := by kernel_rfl
theorem globs {W : World} (h : laidMetH Tryz.prog [("math/bits.deBruijn32tab", Rows.laid_math_bits_deBruijn32tab), ("math/bits.deBruijn64tab", Rows.laid_math_bits_deBruijn64tab), ("internal/strconv.uint64pow10", Rows.laid_internal_strconv_uint64pow10), ("strconv.ErrRange", Rows.laid_strconv_ErrRange), ("strconv.ErrSyntax", Rows.laid_strconv_ErrSyntax), ("cantilever/ir.shapes", Rows.laid_cantilever_ir_shapes)] W) : GlOK gl (Z2o W) := by
 have h' : laidMet Tryz.prog [("math/bits.deBruijn32tab", Rows.laid_math_bits_deBruijn32tab), ("math/bits.deBruijn64tab", Rows.laid_math_bits_deBruijn64tab), ("internal/strconv.uint64pow10", Rows.laid_internal_strconv_uint64pow10), ("strconv.ErrRange", Rows.laid_strconv_ErrRange), ("strconv.ErrSyntax", Rows.laid_strconv_ErrSyntax), ("cantilever/ir.shapes", Rows.laid_cantilever_ir_shapes)] W := h
 obtain ⟨_, hv, _⟩ := id h'
 obtain ⟨m0, _⟩ := Z5q n0 ty0 av0 hv
 have h' := laidMet.tail h'
 obtain ⟨_, hv, _⟩ := id h'
 obtain ⟨m1, _⟩ := Z5q n1 ty1 av1 hv
 have h' := laidMet.tail h'
 obtain ⟨_, hv, _⟩ := id h'
 obtain ⟨m2, _⟩ := Z5q n2 ty2 av2 hv
 have h' := laidMet.tail h'
 have h' := laidMet.tail h'
 have h' := laidMet.tail h'
 obtain ⟨_, hv, _⟩ := id h'
 obtain ⟨m3, _⟩ := Z5q n3 ty3 av3 hv
 intro g cs hg
 unfold gl at hg
 split at hg
 · rename_i e; have := Nat.eq_of_beq_eq_true e; subst this; simp at hg; subst hg; exact m0
 split at hg
 · rename_i e; have := Nat.eq_of_beq_eq_true e; subst this; simp at hg; subst hg; exact m1
 split at hg
 · rename_i e; have := Nat.eq_of_beq_eq_true e; subst this; simp at hg; subst hg; exact m2
 split at hg
 · rename_i e; have := Nat.eq_of_beq_eq_true e; subst this; simp at hg; subst hg; exact m3
 cases hg
end Go.Proofs.YteidjbahodbgdaaGreatDoor.runLives
end

section
namespace Go.Abs
open Go.RowKit
def grA {α : Type} (b z : Nat) : List α -> AV
 | [] => .nslice
 | _ :: r => .slice b 0 (r.length + 1) (r.length + 1) z
def grB {α : Type} (b : Nat) (C : List α -> List AV) (ty : TypeId) : List α -> Z00
 | [] => []
 | x :: r => [⟨true, b, 0, .cells (C (x :: r)) ty⟩]
theorem Zm1 {P : Program} {t t2 e : TypeId} {z by_ : Nat} (hT : Z74 P t t2 = some (e, z, by_)) {H : Z00} {x : AV} {xs : List AV} (hx : Z2b H z x = some (0, xs)) :
  Z2a P t t2 .nslice x H = some (.nslice, H) := by
 obtain ⟨h1, i, u, h2, h3, h4, rfl, rfl⟩ := Z5D hT
 simp only [Z2a, h1, h2, h3]
 rw [if_pos h4]
 simp only [hx, if_true]
def Zin (f e : Nat) : Z00 -> Prop
 | [] => True
 | o :: H => (o.fam ≠ f \/ o.sh + o.body.len <= e) /\ Zin f e H
theorem ZdK {f e : Nat} : ∀ {H : Z00}, Zin f e H -> ∀ o ∈ H, o.fam = f -> o.sh + o.body.len <= e
 | [], _, o, h, _ => by cases h
 | x :: H, h, o, ho, hf => by
  rcases List.mem_cons.1 ho with rfl | ho
  · rcases h.1 with h1 | h1
    · exact absurd hf h1
    · exact h1
  · exact ZdK h.2 o ho hf
theorem Z7T {f e : Nat} {H : Z00} (h : Zin f e H) : Zf5 f e H = H := ZkD (ZdK h)
theorem apS {P Q : Prop} (q : Q) (h : ZcF P Q := by
 first
 | (with_reducible apply s1I (Zm1 (by assumption) ?_)); (any_goals (exact rfl)); done
 | (with_reducible apply s1I (ZdT (by assumption) ?_)); (any_goals (exact rfl)); done
 | (with_reducible apply s1I (ZkO (by assumption) ?_ ?_ ?_)); (any_goals (exact rfl)); (all_goals first | omega | (simp only [List.length_cons]; omega))
 | (with_reducible apply s1I (Z7Y (by assumption) ?_ ?_ (Z7T ?_) ?_ ?_ ?_ ?_)); (any_goals (exact rfl)); (all_goals first
  | assumption
  | omega
  | (simp only [List.length_cons]; omega)
  | (simp [Zin, ABody.len]; done) | (simp [Zin, ABody.len]; omega)
  | (simp; done) | (simp; omega))) : P := h q
theorem Z1E : ∀ l : List (List UInt8), (l.map AV.str).all one = true
 | [] => rfl
 | x :: l => Z1E l
theorem ZaD : ∀ (l : List (List UInt8)) (acc : List Nat), refsL (l.map AV.str) acc = acc
 | [], acc => rfl
 | x :: l, acc => ZaD l acc
end Go.Abs
end

section
namespace Go.Abs
open Go.RowKit
def ZcH (P : Program) (gl : Z0l) (f : Nat) (args : List AV) (r : AV) (N : Z00) : Prop :=
 ∀ (sn : Z0j) (W : World) (cargs : List Value), GlOK gl sn -> R sn noI [] W -> LR sn noI args cargs ->
  Calls P f cargs.toArray W fun e W' => ∃ v sn' ι', e = .returned v /\ VR sn' ι' r v /\ Stq 0 sn noI [] W sn' ι' N W'
def ZmD (P : Program) (l : List ResultVar) (r : AV) (N : Z00) (tm : Tr) (H : Z00) : Prop :=
 onO (Z3i P tm H l) fun vs => ∃ m, HpGe H m m N 0 /\ Z0Q (m.map (Z1r H)) = true /\ Wk m (Z0J vs) r
theorem Zj8 {P : Program} {gl : Z0l} {orc : Orc} (hm : P.follows .mixedOrders = true) (hn : NoNum P) (hO : Z06 P gl orc) {f : Nat} {fn : Func} {c : Code} {args : List AV} {N : Z00} {r : AV}
  (hf : P.funcs[f]? = some fn) (hc : fn.body = some c) {cw : CW} (hcw : Zan P orc cw)
  (h : Z2z (tmk (Z8a args fn.ntmps args.length) (Z8r 20 fn.ntmps)) fun tm => Z1t P gl orc cw Ze9 c (ZmD P fn.results.toList r N) (fun _ _ _ => False) (ZmD P fn.results.toList r N) tm []) : ZcH P gl f args r N := by
 intro sn W cargs hg hR ha
 rw [Z2f] at h
 refine Z26 hf hc (Zhp (rd := none) hm hn hO hcw c h) hg hR ha (fun _ _ _ h => h) fun x tm1 H a1 W1 sn1 ι1 hx s1 t1 => ?_
 have key : ZmD P fn.results.toList r N tm1 H -> ∃ v, (results fn a1.tmps).run P W1 = .ok v W1 /\ ∃ sn' ι', VR sn' ι' r v /\ Stq 0 sn noI [] W sn' ι' N W1 := by
  intro h
  obtain ⟨us, h1, m, h2, h3, h4⟩ := Z03 h
  obtain ⟨vs, k1, k2⟩ := Z13 s1.rel t1 _ _ h1
  obtain ⟨hS, _⟩ := Fg.sound (k := 0) (m := m) (tm := tm1) (tm2 := Zcb (fun _ => none) tm1) ⟨⟨fun n u2 e => (by have := Z4f _ _ _ _ e; cases this), fun n e => (by rw [Z5n] at e; exact e)⟩, h2, h3, rfl⟩ s1.rel t1
  exact ⟨_, Z1c k2, sn1, iot m ι1, h4 _ _ _ (Z5b (fn := fn) k1), s1.trans hS⟩
 cases x with
 | normal =>
  obtain ⟨v, k1, sn', ι', k2, k3⟩ := key hx
  exact ⟨v, k1, v, sn', ι', rfl, k2, k3⟩
 | exit id => exact hx.elim
 | ret =>
  obtain ⟨v, k1, sn', ι', k2, k3⟩ := key hx
  exact ⟨v, k1, v, sn', ι', rfl, k2, k3⟩
def shO (d : Nat) (o : AObj) : AObj := ⟨o.alive, o.fam + d, o.sh, Z1C (· + d) o.body⟩
def shA (d : Nat) (N : Z00) : Z00 := N.map (shO d)
theorem ZjE {d : Nat} {N : Z00} {b : Nat} {o : AObj} (h : (shA d N)[b]? = some o) : ∃ o0, N[b]? = some o0 /\ o = shO d o0 := by
 unfold shA at h
 rw [List.getElem?_map] at h
 cases hN : N[b]? with
 | none => rw [hN] at h; cases h
 | some o0 => rw [hN] at h; simp at h; exact ⟨o0, rfl, h.symm⟩
section
open Classical
noncomputable def ZjU {I : Type} (G : I -> Prop) (fF : I -> Nat) (fA : I -> List AV) (fR : I -> AV) (fN : I -> Z00) : Orc := fun f args H =>
 if h : ∃ i, G i /\ fF i = f /\ fA i = args then some (ren (· + H.length) (fR (Classical.choose h)), H ++ shA H.length (fN (Classical.choose h))) else none
theorem Zet {P : Program} {gl : Z0l} {I : Type} {G : I -> Prop} {fF : I -> Nat} {fA : I -> List AV} {fR : I -> AV} {fN : I -> Z00}
  (h : ∀ i, G i -> refsL (fA i) [] = [] /\ (∀ o ∈ fN i, o.alive = true) /\ ZcH P gl (fF i) (fA i) (fR i) (fN i)) : Z06 P gl (ZjU G fF fA fR fN) := by
 intro f args H r H' e sn ι W cargs hg hR ha
 unfold ZjU at e
 split at e
 · rename_i hi
   simp only [Option.some.injEq, Prod.mk.injEq] at e
   obtain ⟨rfl, rfl⟩ := e
   obtain ⟨h1, h2, h3⟩ := Classical.choose_spec hi
   generalize Classical.choose hi = i at *
   subst h2; subst h3
   obtain ⟨hr, hal, hok⟩ := h i h1
   have hR0 : R sn noI [] W := ⟨fun b => ⟨fun hb => (by simp at hb), fun ⟨p, hp⟩ => (by cases hp)⟩, fun b p hp => (by cases hp), fun b o p hb => (by simp at hb), fun b b' o o' p p' hb => (by simp at hb),
    fun a v hv => ⟨(hR.snap a v hv).1, (hR.snap a v hv).2.1, fun b o p hb => (by simp at hb)⟩, fun b o p hb => (by simp at hb)⟩
   have ha0 : LR sn noI (fA i) cargs := by
    have : VR sn ι (.tuple (fA i)) (.tuple cargs.toArray) := by simp only [VR]; exact ⟨_, rfl, by simpa using ha⟩
    have h2 := Z1g (ι := ι) (ι' := noI) (.tuple (fA i)) [] _ (fun x hx => by simp only [Z1N] at hx; rw [hr] at hx; cases hx) this
    simp only [VR] at h2
    obtain ⟨d, e1, e2⟩ := h2
    simp at e1; subst e1; simpa using e2
   refine (hok sn W cargs hg hR0 ha0).monoY ?_
   rintro e W' ⟨v, sn', ι', rfl, hv, hs⟩
   generalize hd : H.length = d
   let κ : Z0k := fun b => if b < d then ι b else ι' (b - d)
   have k1 : ∀ b, b < d -> κ b = ι b := fun b hb => if_pos hb
   have k2 : ∀ b, κ (b + d) = ι' b := fun b => by show (if b + d < d then ι (b + d) else ι' (b + d - d)) = ι' b; rw [if_neg (by omega), Nat.add_sub_cancel]
   have hκ : (fun b => κ (b + d)) = ι' := funext k2
   have hle : Le sn sn' ι κ := ⟨hs.le, fun b p hb => by
    have : b < d := by have := (hR.dom b).2 ⟨p, hb⟩; omega
    rw [k1 b this]; exact hb⟩
   have hframe : ∀ c, c < W.heap.size -> W'.heap[c]? = W.heap[c]? := fun c hc => hs.frame c hc fun b o p hb => by simp at hb
   have hnew : ∀ (b : Nat) (o : AObj) p, (fN i)[b]? = some o -> ι' b = some p -> W.heap.size <= p.blk := fun b o p hb hp => by
    rcases hs.fresh b o p hb (hal o (List.mem_of_getElem? hb)) hp with h | ⟨b0, o0, p0, h, _⟩
    · exact h
    · simp at h
   have hget : ∀ (b : Nat) (o : AObj) p, (H ++ shA d (fN i))[b]? = some o -> κ b = some p -> (b < d /\ H[b]? = some o /\ ι b = some p /\ p.blk < W.heap.size) \/ ∃ o0, d <= b /\ (fN i)[b - d]? = some o0 /\ o = shO d o0 /\ ι' (b - d) = some p /\ W.heap.size <= p.blk := by
    intro b o p hb hp
    by_cases hlt : b < d
    · rw [List.getElem?_append_left (by omega)] at hb
      rw [k1 b hlt] at hp
      exact .inl ⟨hlt, hb, hp, hR.blk b p hp⟩
    · rw [List.getElem?_append_right (by omega), hd] at hb
      obtain ⟨o0, e1, e2⟩ := ZjE hb
      have hp2 : ι' (b - d) = some p := by have := k2 (b - d); rw [Nat.sub_add_cancel (by omega)] at this; rw [<- this]; exact hp
      exact .inr ⟨o0, by omega, e1, e2, hp2, hnew _ _ _ e1 hp2⟩
   have hrel : R sn' κ (H ++ shA d (fN i)) W' := by
    refine ⟨fun b => ⟨fun hb => ?_, fun ⟨p, hp⟩ => ?_⟩, fun b p hp => ?_, fun b o p hb ha hp => ?_, fun b b' o o' p p' hb hb' ha ha' hp hp' e => ?_, fun a v hv => ?_, fun b o p hb hp e => ?_⟩
    · by_cases hlt : b < d
      · rw [k1 b hlt]; exact (hR.dom b).1 (by omega)
      · have : b - d < (fN i).length := by simp [shA] at hb; omega
        obtain ⟨p, hp⟩ := (hs.rel.dom (b - d)).1 this
        have := k2 (b - d); rw [Nat.sub_add_cancel (by omega)] at this
        exact ⟨p, by rw [this]; exact hp⟩
    · by_cases hlt : b < d
      · simp; omega
      · have := k2 (b - d); rw [Nat.sub_add_cancel (by omega)] at this
        rw [this] at hp
        have := (hs.rel.dom (b - d)).2 ⟨p, hp⟩
        simp [shA]; omega
    · by_cases hlt : b < d
      · rw [k1 b hlt] at hp
        have := hR.blk b p hp; have := hs.size; omega
      · have := k2 (b - d); rw [Nat.sub_add_cancel (by omega)] at this
        rw [this] at hp
        exact hs.rel.blk _ p hp
    · rcases hget b o p hb hp with ⟨h1, h2, h3, h4⟩ | ⟨o0, h1, h2, rfl, h3, h4⟩
      · exact Z0N hle (hframe _ h4) (hR.obj b o p h2 ha h3)
      · have h5 := hs.rel.obj _ _ _ h2 ha h3
        refine Z97 _ ?_
        show OR sn' (fun b => κ (b + d)) W' o0.body p
        rw [hκ]; exact h5
    · rcases hget b o p hb hp with ⟨h1, h2, h3, h4⟩ | ⟨o0, h1, h2, rfl, h3, h4⟩ <;> rcases hget b' o' p' hb' hp' with ⟨g1, g2, g3, g4⟩ | ⟨o0', g1, g2, rfl, g3, g4⟩
      · exact hR.sep b b' o o' p p' h2 g2 ha ha' h3 g3 e
      · omega
      · omega
      · obtain ⟨e1, e2⟩ := hs.rel.sep _ _ _ _ p p' h2 g2 ha ha' h3 g3 e
        exact ⟨by simp only [shO, e1], e2⟩
    · obtain ⟨g1, g2, g3⟩ := hs.rel.snap a v hv
      refine ⟨g1, g2, fun b o p hb ha hp => ?_⟩
      rcases hget b o p hb hp with ⟨h1, h2, h3, h4⟩ | ⟨o0, h1, h2, rfl, h3, h4⟩
      · rcases hs.sfresh a v hv with h | h | ⟨b0, o0, p0, h, _⟩
        · exact (hR.snap a v h).2.2 b o p h2 ha h3
        · omega
        · simp at h
      · exact g3 _ _ p h2 ha h3
    · rcases hget b o p hb hp with ⟨h1, h2, h3, h4⟩ | ⟨o0, h1, h2, rfl, h3, h4⟩
      · exact hR.shz b o p h2 h3 e
      · exact hs.rel.shz _ _ p h2 h3 e
   refine ⟨v, sn', κ, rfl, ?_, hrel, hle, fun b p hp => ?_, fun c hc _ => hframe c hc, hs.size, hs.os, hs.tape, hs.output, fun a v hv => ?_, fun b o hb => ?_⟩
   · rw [Z4y, hκ]; exact hv
   · by_cases hlt : b < d
     · rw [k1 b hlt] at hp; exact .inl hp
     · have h3 := k2 (b - d); rw [Nat.sub_add_cancel (by omega)] at h3
       rw [h3] at hp
       obtain ⟨o, ho⟩ : ∃ o, (fN i)[b - d]? = some o := ⟨_, List.getElem?_eq_getElem ((hs.rel.dom (b - d)).2 ⟨p, hp⟩)⟩
       exact .inr (.inl (hnew _ _ _ ho hp))
   · rcases hs.sfresh a v hv with h | h | ⟨b0, o0, p0, h, _⟩
     · exact .inl h
     · exact .inr (.inl h)
     · simp at h
   · exact ⟨o, by rw [List.getElem?_append_left (List.getElem?_eq_some_iff.1 hb).1]; exact hb, rfl, rfl, id⟩
 · cases e
end
structure FamN (P : Program) (gl : Z0l) where
 I : Type
 f : Nat
 G : I -> Prop
 A : I -> List AV
 R : I -> AV
 N : I -> Z00
 body : Z0C P f = true
 inj : ∀ i j, G i -> G j -> A i = A j -> R i = R j /\ N i = N j
 ok : ∀ i, G i -> refsL (A i) [] = [] /\ (∀ o ∈ N i, o.alive = true) /\ ZcH P gl f (A i) (R i) (N i)
theorem Z5v {P : Program} {gl : Z0l} (F : FamN P gl) {O : Orc} (hO : Z06 P gl O) : ∃ O', Z06 P gl O' /\ (∀ i, F.G i -> ∀ H, Z04 P O' H F.f (F.A i) = some (ren (· + H.length) (F.R i), H ++ shA H.length (F.N i))) /\
  ∀ g, g ≠ F.f -> ∀ args H, Z04 P O' H g args = Z04 P O H g args := by
 refine ⟨Z1v (ZjU F.G (fun _ => F.f) F.A F.R F.N) O, Z1z (Zet F.ok) hO, fun i hi H => Z4M F.body ?_, fun g hg args H => ?_⟩
 · unfold Z04
   rw [if_pos F.body]
   unfold ZjU
   have h : ∃ j, F.G j /\ F.f = F.f /\ F.A j = F.A i := ⟨i, hi, rfl, rfl⟩
   rw [dif_pos h]
   obtain ⟨h1, _, h3⟩ := Classical.choose_spec h
   obtain ⟨e1, e2⟩ := F.inj _ _ h1 hi h3
   rw [e1, e2]
 · unfold Z04
   have : ∀ args H, Z1v (ZjU F.G (fun _ => F.f) F.A F.R F.N) O g args H = O g args H := fun args H => by
    unfold Z1v ZjU
    rw [dif_neg (fun ⟨j, _, h2, _⟩ => hg h2.symm)]
   have hy : yl (Z1v (ZjU F.G (fun _ => F.f) F.A F.R F.N) O) H g args = yl O H g args := by unfold yl; simp only [this]
   rw [this, hy]
end Go.Abs
end

section
namespace Go.Proofs.YteidjbahodbgdaaGreatDoor.lex
open Go.Abs Go.RowKit
set_option maxRecDepth 100000
set_option maxHeartbeats 4000000
variable {gl : Z0l}
def Z19 (b : Bool) : Int := if b then 1 else 0
theorem ZcO (b : Bool) : ValOK Tryz.prog gl 103 [.bool b] (.int .i64 (Z19 b)) := by
 refine Z0a follows Z09 Z05 Tryz.func103 rfl ?_
 repeat' ((conv => whnf); first | refine stp ?_ | with_reducible refine Z01 (fun h => ?_) (fun h => ?_))
 all_goals (try simp_all [Z0J, Z19])
def Zjs (op a b : Int) : Int :=
 if op = 5 then Z19 (a != 0 || b != 0) else
 if op = 6 then Z19 (a != 0 && b != 0) else
 if op = 7 then Z19 (a == b) else
 if op = 8 then Z19 (a != b) else
 if op = 9 then Z19 (decide (a < b)) else
 if op = 10 then Z19 (decide (a <= b)) else
 if op = 11 then IntKind.i64.wrap (bits .or .u64 (IntKind.u64.wrap a) (IntKind.u64.wrap b)) else
 if op = 12 then IntKind.i64.wrap (bits .xor .u64 (IntKind.u64.wrap a) (IntKind.u64.wrap b)) else
 if op = 13 then IntKind.i64.wrap (bits .and .u64 (IntKind.u64.wrap a) (IntKind.u64.wrap b)) else
 if op = 14 then IntKind.i64.wrap (IntKind.u64.wrap (IntKind.u64.wrap a + IntKind.u64.wrap b)) else
 if op = 15 then IntKind.i64.wrap (IntKind.u64.wrap (IntKind.u64.wrap a - IntKind.u64.wrap b)) else
 IntKind.i64.wrap (IntKind.u64.wrap (IntKind.u64.wrap a * IntKind.u64.wrap b))
def vF1 (f : Nat) (xs : List AV) : Option AV := match f with
 | 103 => match xs with | [.bool b] => some (.int .i64 (Z19 b)) | _ => none
 | _ => none
theorem Zaw : Z06 Tryz.prog gl (Z5P vF1) := Z1m fun f xs r h => by
 unfold vF1 at h
 split at h
 · split at h <;> cases h
   exact ⟨rfl, ZcO _⟩
 · cases h
theorem Zlf (op a b : Int) : ValOK Tryz.prog gl 92 [.int .i64 op, .int .i64 a, .int .i64 b] (.int .i64 (Zjs op a b)) := by
 refine Z0a follows Z09 Zaw Tryz.func92 rfl ?_
 repeat' ((conv => whnf); first | refine stp ?_ | with_reducible refine Z01 (fun h => ?_) (fun h => ?_))
 all_goals (try simp_all [Z0J, Zjs, Z19])
def Zlu (op a : Int) : Int := if op = 3 then IntKind.i64.wrap (IntKind.u64.wrap (0 - IntKind.u64.wrap a)) else Z19 (a == 0)
theorem Zlt (op a : Int) : ValOK Tryz.prog gl 91 [.int .i64 op, .int .i64 a] (.int .i64 (Zlu op a)) := by
 refine Z0a follows Z09 Zaw Tryz.func91 rfl ?_
 repeat' ((conv => whnf); first | refine stp ?_ | with_reducible refine Z01 (fun h => ?_) (fun h => ?_))
 all_goals (try simp_all [Z0J, Zlu, Z19])
def vF2 (f : Nat) (xs : List AV) : Option AV := match f with
 | 103 => match xs with | [.bool b] => some (.int .i64 (Z19 b)) | _ => none
 | 91 => match xs with | [.int .i64 op, .int .i64 a] => some (.int .i64 (Zlu op a)) | _ => none
 | 92 => match xs with | [.int .i64 op, .int .i64 a, .int .i64 b] => some (.int .i64 (Zjs op a b)) | _ => none
 | _ => none
theorem Z3M : Z06 Tryz.prog gl (Z5P vF2) := Z1m fun f xs r h => by
 unfold vF2 at h
 split at h
 · split at h <;> cases h
   exact ⟨rfl, ZcO _⟩
 · split at h <;> cases h
   exact ⟨rfl, Zlt _ _⟩
 · split at h <;> cases h
   exact ⟨rfl, Zlf _ _ _⟩
 · cases h
def doI (op : Int) (l : List Int) : Int × Int := match l with
 | [a] => if op = 3 \/ op = 4 then (Zlu op a, 0) else (0, 2)
 | [a, b] => if 5 <= op /\ op <= 16 then (Zjs op a b, 0) else (0, 2)
 | _ => (0, 2)
theorem ZlR (op : Int) (l : List Int) (x : AV) (hx : x = .rs l.length 1 (l.map (AV.int .i64)) \/ (l = [] /\ x = .nslice)) : ValOK Tryz.prog gl 75 [.int .i64 op, x] (.tuple [.int .i64 (doI op l).1, .int .i64 (doI op l).2]) := by
 rcases hx with rfl | ⟨rfl, rfl⟩
 · match l with
   | [] =>
    refine Z0a follows Z09 Z3M Tryz.func75 rfl ?_
    repeat' ((conv => whnf); first | refine stp ?_ | with_reducible refine Z01 (fun h => ?_) (fun h => ?_))
    all_goals (try simp_all [Z0J, doI])
   | [a] =>
    refine Z0a follows Z09 Z3M Tryz.func75 rfl ?_
    repeat' ((conv => whnf); first | refine stp ?_ | with_reducible refine Z01 (fun h => ?_) (fun h => ?_))
    all_goals (try simp_all [Z0J, doI])
   | [a, b] =>
    refine Z0a follows Z09 Z3M Tryz.func75 rfl ?_
    repeat' ((conv => whnf); first | refine stp ?_ | with_reducible refine Z01 (fun h => ?_) (fun h => ?_))
    all_goals (try simp_all [Z0J, doI])
    all_goals (rw [if_neg (by omega)]; exact ⟨rfl, rfl⟩)
   | a :: b :: c :: l =>
    refine Z0a follows Z09 Z3M Tryz.func75 rfl ?_
    have h1 : (((a :: b :: c :: l).length : Int) == 1) = false := by simp; omega
    have h2 : (((a :: b :: c :: l).length : Int) == 2) = false := by simp; omega
    repeat' ((conv => whnf); first | refine stp ?_ | with_reducible refine Z01 (fun h => ?_) (fun h => ?_))
    all_goals (try simp_all [Z0J, doI])
 · refine Z0a follows Z09 Z3M Tryz.func75 rfl ?_
   repeat' ((conv => whnf); first | refine stp ?_ | with_reducible refine Z01 (fun h => ?_) (fun h => ?_))
   all_goals (try simp_all [Z0J, doI])
theorem Zlb (n : Int) : IntKind.u64.wrap n = n % 18446744073709551616 := by
 simp [IntKind.wrap, IntKind.bits, IntKind.signed]
def doF (f : Nat) (xs : List AV) : Option AV := match f with
 | 75 => match xs with
  | [.int .i64 op, .rs _ 1 cs] => match Z3E cs with
   | some l => some (.tuple [.int .i64 (doI op l).1, .int .i64 (doI op l).2])
   | none => none
  | [.int .i64 op, .nslice] => some (.tuple [.int .i64 (doI op []).1, .int .i64 (doI op []).2])
  | _ => none
 | _ => none
theorem ZgL : Z06 Tryz.prog gl (Z5P doF) := Z1m fun f xs r h => by
 unfold doF at h
 split at h
 · split at h <;> try (cases h; done)
   · split at h <;> cases h
     rename_i n cs _ l hl
     refine ⟨rfl, ValOK.rs (pre := [_]) (post := []) fun hc => ?_⟩
     have := Z4I hl; subst this
     simp at hc; subst hc
     exact ZlR _ _ _ (.inl rfl)
   · cases h; exact ⟨rfl, ZlR _ [] _ (.inr ⟨rfl, rfl⟩)⟩
 · cases h
end Go.Proofs.YteidjbahodbgdaaGreatDoor.lex
end

section
namespace Go.Proofs.YteidjbahodbgdaaGreatDoor.lex
open Go.Abs Go.RowKit
set_option maxRecDepth 100000
set_option maxHeartbeats 4000000
variable {gl : Z0l}
theorem Zdk {P : Program} {t e : TypeId} {z b : Nat} {u : AV} {H : Z00} (ht : P.underlying t = some (.slice e)) (hz : tsz P e = some z) (hb : (P.info? e).map (·.bytes) = some b) (hu : Z2Q P e = some u) (hul : u.cells.length = z) (hz0 : z ≠ 0) (n : Nat)
  (h : n <= 1099511627776) (h2 : b * n <= 140737488355328) : Z17 P t (.int .i64 n) (.int .i64 n) H = some (.slice H.length 0 n n z, Z3a H (Z4u n u.cells) e) := by
 cases hi : P.info? e with
 | none => rw [hi] at hb; cases hb
 | some i =>
  rw [hi] at hb
  simp only [Option.map_some, Option.some.injEq] at hb
  have h2' : (b : Int) * (n : Int) <= 140737488355328 := by
   have : ((b * n : Nat) : Int) <= ((140737488355328 : Nat) : Int) := Int.ofNat_le.2 h2
   simpa using this
  simp only [Z17, Z5l, ht, hz, hi, hb, hu]
  rw [if_pos ⟨by omega, by omega, by omega, h2'⟩]
  try simp only [Int.toNat_natCast]
  by_cases hn : n = 0
  · subst hn; simp [Z4u, Z3a]
  · have h0 : ¬ (n * z = 0) := fun e => by rcases Nat.mul_eq_zero.1 e with e | e; exact hn e; exact hz0 e
    rw [if_neg h0, if_pos hul]
def Z61 : AV -> Bool
 | .bool _ => true
 | .int _ _ => true
 | .str _ => true
 | .rs _ _ _ => true
 | _ => false
theorem Zic {H : Z00} {n : Nat} : ∀ {u : AV}, Z61 u = true -> frz H (n + 1) u = some u
 | .bool _, _ => rfl
 | .int _ _, _ => rfl
 | .str _, _ => rfl
 | .rs _ _ _, _ => rfl
theorem Z7D {H : Z00} {n : Nat} : ∀ {cs : List AV}, cs.all Z61 = true -> Z0L (frz H (n + 1)) cs = some cs
 | [], _ => rfl
 | c :: cs, h => by
  simp only [List.all_cons, Bool.and_eq_true] at h
  simp only [Z0L, Zic h.1, Z7D h.2]
theorem Z02 {H : Z00} {n b f sh len cap z : Nat} {cs : List AV} {ty : TypeId} (hH : H[b]? = some ⟨true, f, sh, .cells cs ty⟩) (hc : cs.length = len * z) (hl : cs.all Z61 = true) : frz H (n + 2) (.slice b 0 len cap z) = some (.rs len z cs) := by
 cases len with
 | zero =>
  have : cs = [] := List.eq_nil_of_length_eq_zero (by omega)
  subst this; rfl
 | succ m =>
  have h2 : Z0L (frz H (n + 1)) cs = some cs := Z7D hl
  unfold frz
  simp only [hH, List.drop_zero, Zaz hc]
  rw [h2]
def Zig : AV -> Bool
 | .bool _ => true
 | .int _ _ => true
 | .str _ => true
 | .rs _ _ _ => true
 | .nslice => true
 | _ => false
theorem ZfK : ∀ {u : AV} {acc : List Nat}, Zig u = true -> Z1N u acc = acc
 | .bool _, _, _ => by simp only [Z1N]
 | .int _ _, _, _ => by simp only [Z1N]
 | .str _, _, _ => by simp only [Z1N]
 | .rs _ _ _, _, _ => by simp only [Z1N]
 | .nslice, _, _ => by simp only [Z1N]
theorem Z49 : ∀ {l : List AV} {acc : List Nat}, l.all Zig = true -> refsL l acc = acc
 | [], _, _ => by simp only [refsL]
 | c :: l, acc, h => by
  simp only [List.all_cons, Bool.and_eq_true] at h
  simp only [refsL, ZfK h.1, Z49 h.2]
theorem Zgx : ∀ {l : List AV}, l.all Z61 = true -> l.all Zig = true := by
 intro l h
 rw [List.all_eq_true] at h ⊢
 intro u hu
 have := h u hu
 cases u <;> simp_all [Z61, Zig]
end Go.Proofs.YteidjbahodbgdaaGreatDoor.lex
end

section
namespace Go.Proofs.YteidjbahodbgdaaGreatDoor.lex
open Go.Abs Go.RowKit
set_option maxRecDepth 100000
set_option maxHeartbeats 4000000
theorem msC {P : Program} {t e : TypeId} {z b : Nat} {u : AV} (ht : P.underlying t = some (.slice e)) (hz : tsz P e = some z) (hb : (P.info? e).map (·.bytes) = some b) (hu : Z2Q P e = some u) (hul : u.cells.length = z) (hz0 : z ≠ 0) (n : Nat)
  (h : n <= 1099511627776) (h2 : b * n <= 140737488355328) : Z5l P t (.int .i64 n) (.int .i64 n) = some (Z4u n u.cells, e, z, n, n) := by
 cases hi : P.info? e with
 | none => rw [hi] at hb; cases hb
 | some i =>
  rw [hi] at hb
  simp only [Option.map_some, Option.some.injEq] at hb
  have h2' : (b : Int) * (n : Int) <= 140737488355328 := by
   have : ((b * n : Nat) : Int) <= ((140737488355328 : Nat) : Int) := Int.ofNat_le.2 h2
   simpa using this
  simp only [Z5l, ht, hz, hi, hb, hu]
  rw [if_pos ⟨by omega, by omega, by omega, h2'⟩]
  by_cases hn : n = 0
  · subst hn; simp [Z4u]
  · have h0 : ¬ (n * z = 0) := fun e => by rcases Nat.mul_eq_zero.1 e with e | e; exact hn e; exact hz0 e
    simp only [Int.toNat_natCast]
    rw [if_neg h0, if_pos hul]
theorem Zmq {P : Program} {ρ : Operand -> Option AV} {t e ty : TypeId} {z n : Nat} {zs : List AV} {d : Option Nat} {l : Operand} {p : String} {af : Array Edge} {gu : Option (Nat × Bool)} (h : Z5l P t (.int .i64 n) (.int .i64 n) = some (zs, e, z, n, n)) (hl : ρ l = some (.int .i64 n)) :
  Z2y P ρ { dst := d, op := .makeSlice t l l, type := ty, pos := p, after := af, guard := gu } = some (fun b => .slice b 0 n n z, .cells zs e) := by
 simp only [Z2y, hl, h]
end Go.Proofs.YteidjbahodbgdaaGreatDoor.lex
end

section
namespace Go.Proofs.YteidjbahodbgdaaGreatDoor.lex
open Go.Abs Go.RowKit
set_option maxRecDepth 100000
set_option maxHeartbeats 4000000
inductive St where
 | mk (kind : Int) (name loc : List UInt8) (order : Int) (exprs : List Ex) (thn els : List St)
instance : Inhabited St := ⟨.mk 0 [] [] 0 [] [] []⟩
def St.kind : St -> Int
 | .mk k _ _ _ _ _ _ => k
def St.name : St -> List UInt8
 | .mk _ n _ _ _ _ _ => n
def St.loc : St -> List UInt8
 | .mk _ _ l _ _ _ _ => l
def St.exprs : St -> List Ex
 | .mk _ _ _ _ x _ _ => x
def St.thn : St -> List St
 | .mk _ _ _ _ _ t _ => t
def St.els : St -> List St
 | .mk _ _ _ _ _ _ e => e
mutual
def St.cells : St -> List AV
 | .mk k n l o x t e => [.int .i64 k, .str n, .str l, .int .i64 o, exA x, .rs t.length 7 (stC t), .rs e.length 7 (stC e)]
def stC : List St -> List AV
 | [] => []
 | s :: l => s.cells ++ stC l
end
def stA (l : List St) : AV := .rs l.length 7 (stC l)
mutual
def ZbW : St -> Nat
 | .mk _ _ _ _ x t e => 1 + sizeL x + sizeSL t + sizeSL e
def sizeSL : List St -> Nat
 | [] => 0
 | s :: l => ZbW s + sizeSL l
end
mutual
def okS : St -> Prop
 | .mk _ n l _ x t e => okN n x.length /\ okN l t.length /\ e.length <= 9223372036854775807 /\ okL x /\ okSL t /\ okSL e
def okSL : List St -> Prop
 | [] => True
 | s :: l => okS s /\ okSL l
end
theorem Zd8 : ∀ {l : List St}, okSL l -> ∀ s ∈ l, okS s
 | x :: l, h, e, he => by
  simp only [okSL] at h
  rcases List.mem_cons.1 he with rfl | he
  · exact h.1
  · exact Zd8 h.2 e he
theorem ZfU : ∀ {s : St}, okS s -> s.name.length <= 9223372036854775807 /\ s.loc.length <= 9223372036854775807 /\ s.exprs.length <= 9223372036854775807 /\ s.thn.length <= 9223372036854775807 /\ s.els.length <= 9223372036854775807 /\ okL s.exprs /\ okSL s.thn /\ okSL s.els
 | .mk _ _ _ _ _ _ _, h => by
  simp only [okS, okN] at h
  simp only [St.name, St.loc, St.exprs, St.thn, St.els]
  exact ⟨h.1.1, h.2.1.1, h.1.2, h.2.1.2, h.2.2.1, h.2.2.2⟩
theorem Z5O : ∀ s : St, s.cells.length = 7
 | .mk _ _ _ _ _ _ _ => by simp only [St.cells]; rfl
theorem ZhD (s : St) (l : List St) (i : Nat) : (stC (s :: l)).drop ((i + 1) * 7) = (stC l).drop (i * 7) := by
 have h : (i + 1) * 7 = 7 + i * 7 := by omega
 rw [h, <- List.drop_drop, stC, List.drop_left' (Z5O s)]
theorem ZaH : ∀ (l : List St) (i : Nat) (h : i < l.length), (stC l).drop (i * 7) = l[i].cells ++ stC (l.drop (i + 1))
 | s :: l, 0, h => by simp only [Nat.zero_mul, List.drop_zero, stC, List.getElem_cons_zero, List.drop_succ_cons]
 | s :: l, i + 1, h => by rw [ZhD, ZaH l i (by simpa using h)]; simp only [List.getElem_cons_succ, List.drop_succ_cons]
mutual
theorem Zel : ∀ (a b : St), a.cells = b.cells -> a = b
 | .mk k n l o x t e, .mk k' n' l' o' x' t' e', h => by
  simp only [St.cells, List.cons.injEq, AV.int.injEq, AV.str.injEq, AV.rs.injEq, true_and, and_true] at h
  obtain ⟨rfl, rfl, rfl, rfl, hx, ht, he⟩ := h
  rw [Zgz hx, stC_inj t t' ht.2 ht.1, stC_inj e e' he.2 he.1]
theorem stC_inj : ∀ (a b : List St), stC a = stC b -> a.length = b.length -> a = b
 | [], [], _, _ => rfl
 | x :: a, y :: b, h, hl => by
  simp only [stC] at h
  have h' := List.append_inj h (by rw [Z5O, Z5O])
  rw [Zel x y h'.1, stC_inj a b h'.2 (by simpa using hl)]
 | [], _ :: _, _, hl => by simp at hl
 | _ :: _, [], _, hl => by simp at hl
end
theorem ZjC {a b : List St} (h : stA a = stA b) : a = b := by
 simp only [stA, AV.rs.injEq, true_and] at h
 exact stC_inj _ _ h.2 h.1
theorem ZhF : ∀ s : St, ZbW s = 1 + sizeL s.exprs + sizeSL s.thn + sizeSL s.els
 | .mk _ _ _ _ _ _ _ => by simp only [ZbW, St.exprs, St.thn, St.els]
theorem Z8t : ∀ (l : List St) (s : St), s ∈ l -> ZbW s <= sizeSL l
 | e :: l, f, h => by
  simp only [sizeSL]
  rcases List.mem_cons.1 h with rfl | h
  · omega
  · have := Z8t l f h; omega
theorem ZlU (s : St) (rest : List AV) : tk 1 ((s.cells ++ rest).drop 4) = some [exA s.exprs] := by
 obtain ⟨k, n, l, o, x, t, e⟩ := s
 simp only [St.cells, exA, St.exprs]; rfl
theorem ZlV (s : St) (rest : List AV) : tk 1 ((s.cells ++ rest).drop 5) = some [stA s.thn] := by
 obtain ⟨k, n, l, o, x, t, e⟩ := s
 simp only [St.cells, stA, St.thn]; rfl
theorem ZlX (s : St) (rest : List AV) : tk 1 ((s.cells ++ rest).drop 6) = some [stA s.els] := by
 obtain ⟨k, n, l, o, x, t, e⟩ := s
 simp only [St.cells, stA, St.els]; rfl
theorem ZlW (s : St) (rest : List AV) : tk 1 ((s.cells ++ rest).drop 1) = some [.str s.name] := by
 obtain ⟨k, n, l, o, x, t, e⟩ := s
 simp only [St.cells, St.name]; rfl
end Go.Proofs.YteidjbahodbgdaaGreatDoor.lex
end

section
namespace Go.Proofs.YteidjbahodbgdaaGreatDoor.lex
open Go.Abs Go.RowKit
set_option maxRecDepth 100000
set_option maxHeartbeats 4000000
mutual
def nmE : Ex -> List (List UInt8)
 | .mk o _ s k => (cond (o == 2 && !(s == [])) [s] []) ++ nmL k
def nmL : List Ex -> List (List UInt8)
 | [] => []
 | e :: l => nmE e ++ nmL l
end
mutual
def nmS : St -> List (List UInt8)
 | .mk _ n _ _ x t e => (cond (!(n == [])) [n] []) ++ (nmL x ++ (nmSL t ++ nmSL e))
def nmSL : List St -> List (List UInt8)
 | [] => []
 | x :: l => nmS x ++ nmSL l
end
mutual
theorem Z4E : ∀ e : Ex, (nmE e).length <= Z0f e
 | .mk o m s k => by
  have := nmL_len k
  simp only [nmE, Z0f, List.length_append]
  cases (o == 2 && !(s == [])) <;> simp <;> omega
theorem nmL_len : ∀ l : List Ex, (nmL l).length <= sizeL l
 | [] => by simp [nmL]
 | e :: l => by have := Z4E e; have := nmL_len l; simp only [nmL, sizeL, List.length_append]; omega
end
mutual
theorem Zk3 : ∀ e : St, (nmS e).length <= ZbW e
 | .mk k n lc o x t e => by
  have := nmL_len x; have := nmSL_len t; have := nmSL_len e
  simp only [nmS, ZbW, List.length_append]
  cases (!(n == [])) <;> simp <;> omega
theorem nmSL_len : ∀ l : List St, (nmSL l).length <= sizeSL l
 | [] => by simp [nmSL]
 | e :: l => by have := Zk3 e; have := nmSL_len l; simp only [nmSL, sizeSL, List.length_append]; omega
end
mutual
theorem ZiX : ∀ {e : Ex}, okE e -> ∀ x ∈ nmE e, x.length <= 9223372036854775807
 | .mk o m s k, h, x, hx => by
  have h1 := Z2d h
  simp only [Ex.name, Ex.kids, okN] at h1
  simp only [nmE, List.mem_append] at hx
  rcases hx with hx | hx
  · cases hb : (o == 2 && !(s == [])) with
    | true => rw [hb] at hx; simp at hx; subst hx; exact h1.1.1
    | false => rw [hb] at hx; simp at hx
  · exact nmL_ok h1.2 x hx
theorem nmL_ok : ∀ {l : List Ex}, okL l -> ∀ x ∈ nmL l, x.length <= 9223372036854775807
 | [], h, x, hx => by simp [nmL] at hx
 | e :: l, h, x, hx => by
  simp only [nmL, List.mem_append] at hx
  rcases hx with hx | hx
  · exact ZiX (Z0H h e (by simp)) x hx
  · exact nmL_ok (by simp only [okL] at h; exact h.2) x hx
end
end Go.Proofs.YteidjbahodbgdaaGreatDoor.lex
end

section
namespace Go.Proofs.YteidjbahodbgdaaGreatDoor.lex
open Go.Abs Go.RowKit
set_option maxRecDepth 100000
set_option maxHeartbeats 4000000
mutual
def smE : Ex -> Int -> Nat -> Bool × Nat
 | .mk _ _ _ k, d, n => if n + 1 <= 2000 /\ d <= 32 then smL k (d + 1) (n + 1) else (false, n + 1)
def smL : List Ex -> Int -> Nat -> Bool × Nat
 | [], _, n => (true, n)
 | e :: l, d, n => if (smE e d n).1 = true then smL l d (smE e d n).2 else (false, (smE e d n).2)
end
mutual
theorem Zfv : ∀ (e : Ex) (d : Int) (n : Nat), ((smE e d n).1 = true ↔ n + Z0f e <= 2000 /\ d + Z3u e <= 33) /\ ((smE e d n).1 = true -> (smE e d n).2 = n + Z0f e)
 | .mk o m s k, d, n => by
  simp only [smE, Z0f, Z3u]
  by_cases h : n + 1 <= 2000 /\ d <= 32
  · rw [if_pos h]
    obtain ⟨h1, h2⟩ := smL_law k (d + 1) (n + 1) (by omega) (by omega)
    refine ⟨?_, fun h3 => by rw [h2 h3]; omega⟩
    rw [h1]; constructor <;> (intro h; omega)
  · rw [if_neg h]
    refine ⟨⟨fun h => (by cases h), fun h2 => absurd (show n + 1 <= 2000 /\ d <= 32 by omega) h⟩, fun h => (by cases h)⟩
theorem smL_law : ∀ (l : List Ex) (d : Int) (n : Nat), n <= 2000 -> d <= 33 -> ((smL l d n).1 = true ↔ n + sizeL l <= 2000 /\ d + deepL l <= 33) /\ ((smL l d n).1 = true -> (smL l d n).2 = n + sizeL l)
 | [], d, n, h1, h2 => by simp only [smL, sizeL, deepL]; refine ⟨⟨fun _ => by omega, fun _ => by first | rfl | trivial⟩, fun _ => by first | rfl | trivial | omega⟩
 | e :: l, d, n, h1, h2 => by
  obtain ⟨g1, g2⟩ := Zfv e d n
  simp only [smL, sizeL, deepL]
  by_cases h : (smE e d n).1 = true
  · rw [if_pos h, g2 h]
    have g3 := g1.1 h
    obtain ⟨k1, k2⟩ := smL_law l d (n + Z0f e) g3.1 h2
    refine ⟨?_, fun h3 => by rw [k2 h3]; omega⟩
    rw [k1]; constructor <;> (intro h; omega)
  · rw [if_neg h]
    refine ⟨⟨fun h => (by cases h), fun h2 => absurd (g1.2 (by omega)) h⟩, fun h => (by cases h)⟩
end
theorem ZiM : ∀ (l : List Ex) (d : Int) (n : Nat) (i : Nat) (h : i < l.length), (smL (l.take i) d n).1 = true -> smL (l.take (i + 1)) d n = (if (smE l[i] d (smL (l.take i) d n).2).1 = true then (true, (smE l[i] d (smL (l.take i) d n).2).2) else (false, (smE l[i] d (smL (l.take i) d n).2).2))
 | e :: l, d, n, 0, h, _ => by
  simp only [List.take_succ_cons, List.take_zero, smL, List.getElem_cons_zero]
 | e :: l, d, n, i + 1, h, h2 => by
  simp only [List.take_succ_cons, smL, List.getElem_cons_succ] at h2 ⊢
  by_cases h3 : (smE e d n).1 = true
  · rw [if_pos h3] at h2 ⊢
    rw [if_pos h3]
    exact ZiM l d _ i (by simpa using h) h2
  · rw [if_neg h3] at h2; cases h2
theorem ZcU : ∀ (l : List Ex) (d : Int) (n : Nat) (i : Nat), (smL (l.take i) d n).1 = false -> smL l d n = smL (l.take i) d n
 | [], d, n, i, h => by simp
 | e :: l, d, n, 0, h => by simp only [List.take_zero, smL] at h; cases h
 | e :: l, d, n, i + 1, h => by
  simp only [List.take_succ_cons, smL] at h ⊢
  split
  · rename_i h2
    rw [if_pos h2] at h
    exact ZcU l d _ i h
  · rfl
def Z4W (e : Ex) : Bool := decide (2000 < Z0f e \/ 32 < Z3u e)
theorem Zln (e : Ex) : (smE e 1 0).1 = !Z4W e := by
 have h := (Zfv e 1 0).1
 unfold Z4W
 rw [Bool.eq_iff_iff, h, Bool.not_eq_true', decide_eq_false_iff_not]
 constructor <;> (intro h; omega)
def ZiS (regs op num : Int) (name : List UInt8) (n : Nat) : Bool :=
 if op = 1 then decide (0 <= num) && (name == [] && decide (n = 0))
 else if op = 2 then decide (0 <= Z1X name) && (decide (Z1X name < regs) && (num == 0 && decide (n = 0)))
 else if op = 3 \/ op = 4 then num == 0 && (name == [] && decide (n = 1))
 else if 5 <= op /\ op <= 16 then num == 0 && (name == [] && decide (n = 2))
 else false
mutual
def Z0q (regs : Int) : Ex -> Bool
 | .mk op num name kids => ZiS regs op num name kids.length && rightPL regs kids
def rightPL (regs : Int) : List Ex -> Bool
 | [] => true
 | e :: l => Z0q regs e && rightPL regs l
end
theorem Z2r {regs : Int} : ∀ {l : List Ex} {i : Nat} (h : i < l.length), Z0q regs l[i] = false -> rightPL regs l = false
 | e :: l, 0, h, h2 => by simp only [List.getElem_cons_zero] at h2; simp only [rightPL, h2, Bool.false_and]
 | e :: l, i + 1, h, h2 => by simp only [List.getElem_cons_succ] at h2; simp only [rightPL, Z2r (l := l) (by simpa using h) h2, Bool.and_false]
theorem Z21 (regs : Int) : ∀ (l : List Ex) (i : Nat) (h : i < l.length), rightPL regs (l.take (i + 1)) = (rightPL regs (l.take i) && Z0q regs l[i])
 | e :: l, 0, h => by simp only [List.take_succ_cons, List.take_zero, rightPL, List.getElem_cons_zero, Bool.and_true, Bool.true_and]
 | e :: l, i + 1, h => by
  have := Z21 regs l i (by simpa using h)
  simp only [List.take_succ_cons, rightPL, List.getElem_cons_succ] at this ⊢; rw [this, Bool.and_assoc]
def ZeB (name : List UInt8) : List UInt8 := if 0 <= Z1X name then 114 :: name else [48]
mutual
def Z3D : Ex -> Ex
 | .mk op num name kids => .mk op num (if op = 2 then ZeB name else name) (namL kids)
def namL : List Ex -> List Ex
 | [] => []
 | e :: l => Z3D e :: namL l
end
theorem Z1Y : ∀ l : List Ex, (namL l).length = l.length
 | [] => by simp only [namL]
 | e :: l => by simp only [namL, List.length_cons, Z1Y l]
mutual
theorem Z7u : ∀ e : Ex, Z0f (Z3D e) = Z0f e
 | .mk _ _ _ k => by simp only [Z3D, Z0f, namL_size k]
theorem namL_size : ∀ l : List Ex, sizeL (namL l) = sizeL l
 | [] => by simp only [namL]
 | e :: l => by simp only [namL, sizeL, Z7u e, namL_size l]
end
mutual
theorem ZaX : ∀ e : Ex, Z3u (Z3D e) = Z3u e
 | .mk _ _ _ k => by simp only [Z3D, Z3u, namL_deep k]
theorem namL_deep : ∀ l : List Ex, deepL (namL l) = deepL l
 | [] => by simp only [namL]
 | e :: l => by simp only [namL, deepL, ZaX e, namL_deep l]
end
theorem Z5k : ∀ (l : List Ex) (i : Nat) (h : i < l.length), namL (l.take (i + 1)) = namL (l.take i) ++ [Z3D l[i]]
 | e :: l, 0, h => by simp [namL]
 | e :: l, i + 1, h => by
  have := Z5k l i (by simpa using h)
  simp only [List.take_succ_cons, namL, List.getElem_cons_succ, this, List.cons_append]
theorem Zdj (s : List UInt8) (h : 0 <= Z1X s) : s.length <= 4 := by
 unfold Z1X at h
 split at h
 · omega
 · rename_i h2
   simp only [ZaT, Bool.or_eq_true, not_or, decide_eq_true_eq] at h2
   omega
theorem Zk6 (s : List UInt8) : (ZeB s).length <= 5 := by
 unfold ZeB
 split
 · rename_i h; have := Zdj s h; simp only [List.length_cons]; omega
 · simp
mutual
theorem Zg1 : ∀ e : Ex, okE e -> okE (Z3D e)
 | .mk op num name kids, h => by
  simp only [okE, okN, Z3D, Z1Y] at h ⊢
  refine ⟨⟨?_, h.1.2⟩, namL_ok kids h.2⟩
  split
  · have := Zk6 name; omega
  · exact h.1.1
theorem namL_ok : ∀ l : List Ex, okL l -> okL (namL l)
 | [], h => by simp only [namL, okL]
 | e :: l, h => by simp only [namL, okL] at h ⊢; exact ⟨Zg1 e h.1, namL_ok l h.2⟩
end
theorem ZaB {p : UInt8 -> Bool} : ∀ {l : List UInt8}, (∀ c ∈ l, p c = true) -> l.takeWhile p = l
 | [], _ => rfl
 | c :: l, h => by rw [List.takeWhile_cons, h c (by simp), if_pos rfl, ZaB fun d hd => h d (by simp [hd])]
theorem Zld {s : List UInt8} (h0 : s ≠ []) (h : Za8 s = true) : Z6B (114 :: s) = true := by
 have hw : Zap (114 :: s) = (114 :: s).length := by
  have h1 : Zga ((114 : UInt8).toNat : Int) = true := by decide
  simp only [Zap, h1, if_true]
  unfold Z59
  rw [ZaB]
  intro c hc
  rcases List.mem_cons.1 hc with rfl | hc
  · decide
  · have := List.all_eq_true.1 h c hc
    simp [ZbK, this]
 obtain ⟨c, t, rfl⟩ : ∃ c t, s = c :: t := by cases s with | nil => exact absurd rfl h0 | cons c t => exact ⟨c, t, rfl⟩
 have hc : Z8V c.toNat = true := List.all_eq_true.1 h c (by simp)
 have h1 : c ≠ 108 := fun e => by subst e; revert hc; decide
 have h2 : c ≠ 101 := fun e => by subst e; revert hc; decide
 have hk : keysL.contains (114 :: c :: t) = false := by
  simp [keysL, h1, h2]
 unfold Z6B
 rw [hw, hk]; simp
theorem Zjo : Z6B [48] = false := by decide
theorem Z98 : Z6B [] = false := by decide
def Z8b (regs : Int) (l : List (List UInt8)) : Bool := l.all fun s => decide (Z1X s < regs)
theorem Zda {s : List UInt8} (h : 0 <= Z1X s) : s ≠ [] /\ Za8 s = true := by
 unfold Z1X at h
 split at h
 · omega
 · rename_i h2
   split at h
   · rename_i h3
     refine ⟨fun e => ?_, h3⟩
     subst e; exact h2 (by decide)
   · omega
theorem ZhQ (regs op num : Int) (name : List UInt8) (n : Nat) : ZiS regs op num name n = (ZiT op num (if op = 2 then ZeB name else name) n && Z8b regs (cond (op == 2 && !(name == [])) [name] [])) := by
 unfold ZiS ZiT ZeH
 by_cases h1 : op = 1
 · subst h1
   cases name with
   | nil => rw [Bool.eq_iff_iff]; simp [Z98, Z8b] <;> omega
   | cons c t => simp
 · by_cases h2 : op = 2
   · subst h2
     by_cases hn : 0 <= Z1X name
     · obtain ⟨h3, h4⟩ := Zda hn
       have h5 := Zld h3 h4
       have h6 : (name == []) = false := by simpa using h3
       rw [Bool.eq_iff_iff]
       simp [ZeB, hn, h5, h6, Z8b]
       constructor
       · rintro ⟨a, rfl, rfl⟩; simp [a]
       · rintro ⟨⟨a, b, c⟩, d⟩; refine ⟨d, c, by omega⟩
     · rw [Bool.eq_iff_iff]
       simp [ZeB, hn, Zjo]
   · have h3 : (op == 2) = false := by simpa using h2
     cases name with
     | nil =>
      rw [Bool.eq_iff_iff]
      by_cases h4 : op = 3 \/ op = 4
      · have h5 : ¬ (op = 1 \/ op = 2) := by omega
        have h6 : ¬ op = 1 := h1
        simp [h1, h2, h4, h3, Z98, Z8b] <;> omega
      · by_cases h5 : 5 <= op /\ op <= 16
        · simp [h1, h2, h4, h3, h5, Z98, Z8b] <;> omega
        · simp [h1, h2, h4, h3, h5, Z98, Z8b] <;> omega
     | cons c t =>
      have h5 : (op == 2 || (c :: t) == []) = false := by rw [h3]; rfl
      simp [h1, h2, h3]
theorem ZdF (regs : Int) (a b : List (List UInt8)) : Z8b regs (a ++ b) = (Z8b regs a && Z8b regs b) := by simp [Z8b]
mutual
theorem Z8x (regs : Int) : ∀ e : Ex, Z0q regs e = (Z1A (Z3D e) && Z8b regs (nmE e))
 | .mk op num name kids => by
  simp only [Z0q, Z3D, Z1A, nmE, ZhQ regs op num name kids.length, rightPL_law regs kids, Z1Y, ZdF]
  generalize ZiT op num (if op = 2 then ZeB name else name) kids.length = a
  generalize Z8b regs (cond (op == 2 && !(name == [])) [name] []) = b
  generalize rightL (namL kids) = c
  generalize Z8b regs (nmL kids) = d
  cases a <;> cases b <;> cases c <;> cases d <;> rfl
theorem rightPL_law (regs : Int) : ∀ l : List Ex, rightPL regs l = (rightL (namL l) && Z8b regs (nmL l))
 | [] => by simp [rightPL, namL, rightL, nmL, Z8b]
 | e :: l => by
  simp only [rightPL, namL, rightL, nmL, Z8x regs e, rightPL_law regs l, ZdF]
  generalize Z1A (Z3D e) = a
  generalize Z8b regs (nmE e) = b
  generalize rightL (namL l) = c
  generalize Z8b regs (nmL l) = d
  cases a <;> cases b <;> cases c <;> cases d <;> rfl
end
theorem ZgN {e : Ex} (h : Z4W e = false) : (Z24 (Z3D e) == 0) = Z1A (Z3D e) := by
 unfold Z24
 rw [Z7u, ZaX]
 simp only [Z4W, decide_eq_false_iff_not] at h
 rw [if_neg h]
 cases Z1A (Z3D e) <;> rfl
end Go.Proofs.YteidjbahodbgdaaGreatDoor.lex
end

section
namespace Go.Abs
open Go.RowKit
section
open Classical
noncomputable def snO (sn : Z0j) (ι : Z0k) (H : Z00) (W : World) : Z0j := fun a => if ∃ (b : Nat) (o : AObj) (p : Place), H[b]? = some o /\ o.alive = true /\ ι b = some p /\ p.blk = a.block then W.cell? a else sn a
end
def ZjV (F : Nat -> List AV -> Option AV) : Orc := fun f args H => match Z0L (frz H 30) args with
 | some az => match F f az with | some r => some (r, kil (fun _ _ => true) 0 H) | none => none
 | none => none
theorem Z65 {W : World} {a : Addr} {v : Value} (hv : W.cell? a = some v) : a.block < W.heap.size := by
 cases hq : W.heap[a.block]? with
 | none => unfold World.cell? at hv; rw [hq] at hv; simp at hv
 | some ob => exact (Array.getElem?_eq_some_iff.1 hq).1
theorem Zex {P : Program} {gl : Z0l} {F : Nat -> List AV -> Option AV} (h : ∀ f args r, F f args = some r -> ValOK P gl f args r) : Z06 P gl (ZjV F) := by
 intro f args H r H' hf sn ι W cargs hg hR ha
 unfold ZjV at hf
 split at hf <;> try (simp at hf; done)
 rename_i az has
 split at hf <;> simp at hf
 rename_i r' hr
 obtain ⟨rfl, rfl⟩ := hf
 have h2 := h f az r' hr
 have hle : ∀ a v, sn a = some v -> snO sn ι H W a = some v := fun a v hv => by
  unfold snO
  split
  · exact (hR.snap a v hv).2.1
  · exact hv
 have hcell : ∀ a v, snO sn ι H W a = some v -> W.cell? a = some v := fun a v hv => by
  unfold snO at hv
  split at hv
  · exact hv
  · exact (hR.snap a v hv).2.1
 have hR' : R (snO sn ι H W) noI [] W :=
  ⟨fun b => ⟨fun hb => by simp at hb, fun ⟨p, hp⟩ => by simp [noI] at hp⟩, fun b p hp => by simp [noI] at hp, fun b o p hb => by simp at hb, fun b b' o o' p p' hb => by simp at hb,
    fun a v hv => ⟨Z65 (hcell a v hv), hcell a v hv, fun b o p hb => by simp at hb⟩, fun b o p hb => by simp at hb⟩
 have hargs : LR (snO sn ι H W) noI az cargs := Z0O (fun u r v => Z1R hR.obj ⟨hle, fun _ _ h => h⟩ (fun b o p hb hal hp off v hv => by
  unfold snO; rw [if_pos ⟨b, o, p, hb, hal, hp, rfl⟩]; exact hv) 30 u r v) has ha
 refine (h2 _ W cargs (hg.mono (Z8g hle)) hR' hargs).monoY ?_
 rintro e W' ⟨v, rfl, hx, hv⟩
 generalize hs1 : snx (snO sn ι H W) W.heap.size W' = s1 at hv
 have h1lt : ∀ a, a.block < W.heap.size -> s1 a = snO sn ι H W a := fun a ha => by rw [<- hs1]; unfold snx; rw [if_pos ha]
 have h1ge : ∀ a, ¬ a.block < W.heap.size -> s1 a = W'.cell? a := fun a ha => by rw [<- hs1]; unfold snx; rw [if_neg ha]
 have hle1 : ∀ a v, sn a = some v -> s1 a = some v := fun a v hv => by rw [h1lt a (hR.snap a v hv).1]; exact hle a v hv
 have hcell1 : ∀ a v, s1 a = some v -> W'.cell? a = some v := fun a v hv => by
  by_cases hlt : a.block < W.heap.size
  · rw [h1lt a hlt] at hv
    have := hcell a v hv
    unfold World.cell? at this ⊢
    rw [hx.old _ hlt]; exact this
  · rw [h1ge a hlt] at hv; exact hv
 refine ⟨v, s1, ι, rfl, Z88 hv, ⟨fun b => ⟨fun hb => ?_, fun ⟨p, hp⟩ => ?_⟩, fun b p hp => ?_, fun b o p hb hal hp => ?_, fun b b' o o' p p' hb hb' ha ha' hp hp' e => ?_, fun a v hv => ?_, fun b o p hb hp e => ?_⟩, ⟨hle1, fun _ _ h => h⟩, fun b p hp => .inl hp, fun c hc _ => hx.old c hc, hx.size, hx.os, hx.tape, hx.output, fun a v hv => ?_, fun b o hb => ?_⟩
 · rw [Z0u] at hb; exact (hR.dom b).1 hb
 · rw [Z0u]; exact (hR.dom b).2 ⟨p, hp⟩
 · have := hR.blk b p hp; have := hx.size; omega
 · obtain ⟨o0, _, _, _, h4⟩ := Z0x hb
   have := (h4 hal).2; simp at this
 · obtain ⟨o0, g1, g2, g3, g4⟩ := Z0x hb
   obtain ⟨o0', g1', g2', g3', g4'⟩ := Z0x hb'
   rw [g2, g3, g2', g3']
   exact hR.sep b b' o0 o0' p p' g1 g1' (by rw [<- (g4 ha).1]; exact ha) (by rw [<- (g4' ha').1]; exact ha') hp hp' e
 · refine ⟨Z65 (hcell1 a v hv), hcell1 a v hv, fun b o p hb hal hp => ?_⟩
   obtain ⟨o0, _, _, _, h4⟩ := Z0x hb
   have := (h4 hal).2; simp at this
 · obtain ⟨o0, g1, g2, g3, _⟩ := Z0x hb
   exact hR.shz b o0 p g1 hp (by rw [<- g3]; exact e)
 · by_cases hlt : a.block < W.heap.size
   · rw [h1lt a hlt] at hv
     unfold snO at hv
     split at hv
     · rename_i hex
       obtain ⟨b, o, p, x1, x2, x3, x4⟩ := hex
       exact .inr (.inr ⟨b, o, p, x1, x2, x3, x4⟩)
     · exact .inl hv
   · exact .inr (.inl (by omega))
 · rw [Z2U, hb]
   simp only [Nat.zero_add, Option.map_some]
   refine ⟨_, rfl, ?_⟩
   simp [AObj.dead]
theorem ZmM {P : Program} {F : Nat -> List AV -> Option AV} {H : Z00} {g : Nat} {args fa : List AV} {r : AV} (h1 : Z0C P g = true) (h2 : Z0L (frz H 30) args = some fa) (h3 : F g fa = some r) : Z04 P (ZjV F) H g args = some (r, kil (fun _ _ => true) 0 H) := by
 simp only [Z04, h1, if_true, ZjV, h2, h3]
end Go.Abs
end

section
namespace Go.Abs
open Go.RowKit
def Z76 (P : Program) (gl : Z0l) (k f : Nat) (args : List AV) (H : Z00) (r : AV) (H' : Z00) : Prop :=
 ∀ (sn : Z0j) (ι : Z0k) (W : World) (cargs : List Value), GlOK gl sn -> R sn ι H W -> LR sn ι args cargs ->
  CallsY P f cargs.toArray W fun e W' => ∃ v sn' ι', e = .returned v /\ VR sn' ι' r v /\ Stq k sn ι H W sn' ι' H' W'
def Zii (P : Program) (l : List ResultVar) (k : Nat) (r : AV) (N : Z00) (tm : Tr) (H : Z00) : Prop :=
 onO (Z3i P tm H l) fun vs => ∃ m, Zer k 0 m = true /\ HpGe H m m N 0 /\ Z0Q (m.map (Z1r H)) = true /\ Wk m (Z0J vs) r
theorem fn_memqR {rf : AV -> Array Tmp -> Code -> Code -> KN -> KX -> KN -> Tr -> Z00 -> Prop} {P : Program} {gl : Z0l} {orc : Orc} {k : Nat} (hrf : Zmi P gl none k rf) (hm : P.follows .mixedOrders = true) (hn : NoNum P) (hO : Z06 P gl orc) {f : Nat} {fn : Func} {c : Code} {args : List AV} {H0 N : Z00} {r : AV}
  (hf : P.funcs[f]? = some fn) (hc : fn.body = some c) {cw : CW} (hcw : Zan P orc cw)
  (h : Z2z (tmk (Z8a args fn.ntmps args.length) (Z8r 20 fn.ntmps)) fun tm => Z1t P gl orc cw ⟨Z5T k, rf⟩ c (Zii P fn.results.toList k r N) (fun _ _ _ => False) (Zii P fn.results.toList k r N) tm H0) : Z76 P gl k f args H0 r N := by
 intro sn ι W cargs hg hR ha
 rw [Z2f] at h
 refine .inl (Z26 hf hc (Z1b (rd := none) hrf hm hn hO hcw c h) hg hR ha (fun _ _ _ h => h) fun x tm1 H a1 W1 sn1 ι1 hx s1 t1 => ?_)
 have key : Zii P fn.results.toList k r N tm1 H -> ∃ v, (results fn a1.tmps).run P W1 = .ok v W1 /\ ∃ sn' ι', VR sn' ι' r v /\ Stq k sn ι H0 W sn' ι' N W1 := by
  intro h
  obtain ⟨us, h1, m, h0, h2, h3, h4⟩ := Z03 h
  obtain ⟨vs, k1, k2⟩ := Z13 s1.rel t1 _ _ h1
  obtain ⟨hS, _⟩ := Fg.sound (k := k) (m := m) (tm := tm1) (tm2 := Zcb (fun _ => none) tm1) ⟨⟨fun n u2 e => (by have := Z4f _ _ _ _ e; cases this), fun n e => (by rw [Z5n] at e; exact e)⟩, h2, h3, h0⟩ s1.rel t1
  exact ⟨_, Z1c k2, sn1, iot m ι1, h4 _ _ _ (Z5b (fn := fn) k1), s1.trans hS⟩
 cases x with
 | normal =>
  obtain ⟨v, k1, sn', ι', k2, k3⟩ := key hx
  exact ⟨v, k1, v, sn', ι', rfl, k2, k3⟩
 | exit id => exact hx.elim
 | ret =>
  obtain ⟨v, k1, sn', ι', k2, k3⟩ := key hx
  exact ⟨v, k1, v, sn', ι', rfl, k2, k3⟩
theorem Zgv {P : Program} {gl : Z0l} {orc : Orc} (hm : P.follows .mixedOrders = true) (hn : NoNum P) (hO : Z06 P gl orc) {f k : Nat} {fn : Func} {c : Code} {args : List AV} {H0 N : Z00} {r : AV}
  (hf : P.funcs[f]? = some fn) (hc : fn.body = some c) {cw : CW} (hcw : Zan P orc cw)
  (h : Z2z (tmk (Z8a args fn.ntmps args.length) (Z8r 20 fn.ntmps)) fun tm => Z1t P gl orc cw (Z6h k) c (Zii P fn.results.toList k r N) (fun _ _ _ => False) (Zii P fn.results.toList k r N) tm H0) : Z76 P gl k f args H0 r N :=
 fn_memqR (fun _ _ _ _ _ _ _ _ _ _ _ h => h.elim) hm hn hO hf hc hcw h
theorem Zie {P : Program} {gl : Z0l} {orc : Orc} (hm : P.follows .mixedOrders = true) (hn : NoNum P) (hO : Z06 P gl orc) {f k : Nat} {fn : Func} {c : Code} {args : List AV} {H0 N : Z00} {r : AV}
  (hf : P.funcs[f]? = some fn) (hc : fn.body = some c)
  (h : Z2z (tmk (Z8a args fn.ntmps args.length) (Z8r 20 fn.ntmps)) fun tm => Z1t P gl orc (cw0 P orc) (Z6h k) c (Zii P fn.results.toList k r N) (fun _ _ _ => False) (Zii P fn.results.toList k r N) tm H0) : Z76 P gl k f args H0 r N :=
 Zgv hm hn hO hf hc (Z3G P orc) h
theorem Z0Z {P : Program} {gl : Z0l} {orc : Orc} (isC : Nat -> Bool) (n : Nat) (hm : P.follows .mixedOrders = true) (hn : NoNum P) (hO : Z06 P gl orc) {f k : Nat} {fn : Func} {c : Code} {args : List AV} {H0 N : Z00} {r : AV}
  (hf : P.funcs[f]? = some fn) (hc : fn.body = some c)
  (h : Z2z (tmk (Z8a args fn.ntmps args.length) (Z8r 20 fn.ntmps)) fun tm => Z1t P gl (Zeu P gl orc isC n) (Zhq P gl orc isC n) (Z6h k) c (Zii P fn.results.toList k r N) (fun _ _ _ => False) (Zii P fn.results.toList k r N) tm H0) : Z76 P gl k f args H0 r N :=
 Zgv hm hn (Z0K hm hn hO n) hf hc (Z1j n) h
def Zn6 (m : List Nat) (σ : Nat -> Nat) (k : Nat) (Hs : Z00) : Nat -> Z00 -> Z00
 | _, [] => []
 | i, o :: H => (match Z3m m i 0 with
  | some j => if Nat.blt j k then (match Hs[j]? with
   | some o' => { o with alive := o'.alive, body := Z1C σ o'.body }
   | none => o) else o.dead
  | none => o) :: Zn6 m σ k Hs (i + 1) H
def Zg7 (m fs : List Nat) : Nat -> Z00 -> Bool
 | _, [] => true
 | i, o :: H => (mem i m || (!o.alive || !mem o.fam fs)) && Zg7 m fs (i + 1) H
theorem Zb0 {m fs : List Nat} : ∀ {H : Z00} {i j : Nat} {o : AObj}, Zg7 m fs i H = true -> H[j]? = some o -> o.alive = true -> i + j ∈ m \/ o.fam ∉ fs
 | [], i, j, o, h, e, _ => by simp at e
 | x :: H, i, 0, o, h, e, ha => by
  simp only [Zg7, Bool.and_eq_true, Bool.or_eq_true, Bool.not_eq_true'] at h
  simp at e; subst e
  rcases h.1 with h1 | h1 | h1
  · exact .inl (Z18.1 h1)
  · rw [ha] at h1; cases h1
  · exact .inr fun e => by rw [Z18.2 e] at h1; cases h1
 | x :: H, i, j + 1, o, h, e, ha => by
  simp only [Zg7, Bool.and_eq_true] at h
  have := Zb0 h.2 (by simpa using e) ha
  rcases this with h1 | h1
  · exact .inl (by rw [show i + (j + 1) = i + 1 + j by omega]; exact h1)
  · exact .inr h1
end Go.Abs
end

section
namespace Go.Abs
open Go.RowKit
def byt (s : List UInt8) : List AV := s.map fun b => .int .u8 b.toNat
def Zkw (d : Nat) : Z00 -> Bool
 | [] => true
 | o :: H => Nat.blt o.fam d && Zkw d H
theorem Z0z {d : Nat} : ∀ {H : Z00}, Zkw d H = true -> ∀ o ∈ H, o.fam < d
 | [], _, o, h => by cases h
 | x :: H, h, o, ho => by
  simp only [Zkw, Bool.and_eq_true] at h
  rcases List.mem_cons.1 ho with rfl | ho
  · exact Z6x h.1
  · exact Z0z h.2 o ho
end Go.Abs
end

section
namespace Go.Abs
open Go.RowKit
mutual
def wkV : AV -> AV -> Bool
 | .nslice, .rs 0 _ [] => true
 | .agg a, .agg b => wkVL a b
 | .rs n z a, .rs n' z' b => Nat.beq n n' && (Nat.beq z z' && wkVL a b)
 | .rp a, .rp b => wkVL a b
 | u, u2 => veq u u2
def wkVL : List AV -> List AV -> Bool
 | [], [] => true
 | u :: l, u2 :: l2 => wkV u u2 && wkVL l l2
 | _, _ => false
end
theorem Z9a : ∀ {l l2 : List AV}, wkVL l l2 = true -> l.length = l2.length
 | [], [], _ => rfl
 | u :: l, u2 :: l2, h => by simp only [wkVL, Bool.and_eq_true] at h; simp [Z9a h.2]
 | [], _ :: _, h => by simp [wkVL] at h
 | _ :: _, [], h => by simp [wkVL] at h
mutual
theorem Zfb {sn : Z0j} {ι : Z0k} : ∀ (u u2 : AV) (v : Value), wkV u u2 = true -> VR sn ι u v -> VR sn ι u2 v
 | .agg a, .agg b, v, h, e => by
  simp only [wkV] at h
  obtain ⟨d, rfl, h1⟩ := e.agg
  exact Z3K (wkVL_LR a b _ h h1)
 | .rs n z a, .rs n' z' b, v, h, e => by
  simp only [wkV, Bool.and_eq_true] at h
  obtain ⟨h1, h2, h3⟩ := h
  have := Nat.eq_of_beq_eq_true h1; subst this
  have := Nat.eq_of_beq_eq_true h2; subst this
  have hl := Z9a h3
  simp only [VR] at e ⊢
  rcases e with ⟨e1, rfl, e3⟩ | ⟨ad, cap, e1, e2, e3, e4, e5⟩
  · exact .inl ⟨e1, by cases b with | nil => rfl | cons _ _ => simp at hl, e3⟩
  · exact .inr ⟨ad, cap, e1, e2, by rw [<- hl]; exact e3, wkVL_MR a b _ _ h3 e4, e5⟩
 | .rp a, .rp b, v, h, e => by
  simp only [wkV] at h
  simp only [VR] at e ⊢
  obtain ⟨bl, o, e1, e2⟩ := e
  exact ⟨bl, o, e1, wkVL_MR a b _ _ h e2⟩
 | u, u2, v, h, e => by
  by_cases hn : u = .nslice /\ ∃ z, u2 = .rs 0 z []
  · obtain ⟨rfl, z, rfl⟩ := hn
    exact Zde e
  · have : veq u u2 = true \/ ((∃ a b, u = .agg a /\ u2 = .agg b) \/ (∃ n z a n' z' b, u = .rs n z a /\ u2 = .rs n' z' b) \/ (∃ a b, u = .rp a /\ u2 = .rp b)) := by
     unfold wkV at h
     split at h
     · exact (hn ⟨rfl, _, rfl⟩).elim
     · exact .inr (.inl ⟨_, _, rfl, rfl⟩)
     · exact .inr (.inr (.inl ⟨_, _, _, _, _, _, rfl, rfl⟩))
     · exact .inr (.inr (.inr ⟨_, _, rfl, rfl⟩))
     · exact .inl h
    rcases this with h | ⟨a, b, rfl, rfl⟩ | ⟨n, z, a, n', z', b, rfl, rfl⟩ | ⟨a, b, rfl, rfl⟩
    · have := Zau _ _ h; subst this; exact e
    · simp only [wkV] at h
      obtain ⟨d, rfl, h1⟩ := e.agg
      exact Z3K (wkVL_LR a b _ h h1)
    · simp only [wkV, Bool.and_eq_true] at h
      obtain ⟨h1, h2, h3⟩ := h
      have := Nat.eq_of_beq_eq_true h1; subst this
      have := Nat.eq_of_beq_eq_true h2; subst this
      have hl := Z9a h3
      simp only [VR] at e ⊢
      rcases e with ⟨e1, rfl, e3⟩ | ⟨ad, cap, e1, e2, e3, e4, e5⟩
      · exact .inl ⟨e1, by cases b with | nil => rfl | cons _ _ => simp at hl, e3⟩
      · exact .inr ⟨ad, cap, e1, e2, by rw [<- hl]; exact e3, wkVL_MR a b _ _ h3 e4, e5⟩
    · simp only [wkV] at h
      simp only [VR] at e ⊢
      obtain ⟨bl, o, e1, e2⟩ := e
      exact ⟨bl, o, e1, wkVL_MR a b _ _ h e2⟩
theorem wkVL_LR {sn : Z0j} {ι : Z0k} : ∀ (l l2 : List AV) (vs : List Value), wkVL l l2 = true -> LR sn ι l vs -> LR sn ι l2 vs
 | [], [], vs, h, e => e
 | u :: l, u2 :: l2, vs, h, e => by
  simp only [wkVL, Bool.and_eq_true] at h
  simp only [LR] at e ⊢
  obtain ⟨d, ds, e1, e2, e3⟩ := e
  exact ⟨d, ds, e1, Zfb u u2 d h.1 e2, wkVL_LR l l2 ds h.2 e3⟩
 | [], _ :: _, _, h, _ => by simp [wkVL] at h
 | _ :: _, [], _, h, _ => by simp [wkVL] at h
theorem wkVL_MR {sn : Z0j} : ∀ (l l2 : List AV) (b o : Nat), wkVL l l2 = true -> MR sn l b o -> MR sn l2 b o
 | [], [], b, o, h, e => e
 | u :: l, u2 :: l2, b, o, h, e => by
  simp only [wkVL, Bool.and_eq_true] at h
  simp only [MR] at e ⊢
  obtain ⟨⟨v, e1, e2⟩, e3⟩ := e
  exact ⟨⟨v, e1, Zfb u u2 v h.1 e2⟩, wkVL_MR l l2 b (o + 1) h.2 e3⟩
 | [], _ :: _, _, _, h, _ => by simp [wkVL] at h
 | _ :: _, [], _, _, h, _ => by simp [wkVL] at h
end
end Go.Abs
end

section
namespace Go.Proofs.YteidjbahodbgdaaGreatDoor.lex
open Go.Abs Go.RowKit
set_option maxRecDepth 100000
set_option maxHeartbeats 4000000
variable {gl : Z0l}
theorem ZlZ (s : List UInt8) (k : Nat) (h : k < s.length) {off : Nat} (e : off = k) : tk 1 ((byt s).drop off) = some [.int .u8 (s[k].toNat : Nat)] := Z11 _ s k h e
theorem Zix (s : List UInt8) (h0 : s ≠ []) (h4 : s.length <= 4) (hd : Za8 s = true) : ValOK Tryz.prog gl 89 [.str s] (.tuple [.int .i64 (Z6C s), .niface]) := by
 have hl : 0 < s.length := List.length_pos_iff.2 h0
 obtain ⟨c, hc⟩ : ∃ c, s[0]? = some c := ⟨s[0], by simp⟩
 have hcd : Z8V c.toNat = true := List.all_eq_true.1 hd c (List.mem_of_getElem? hc)
 simp only [Z8V, Bool.and_eq_true, decide_eq_true_eq] at hcd
 have f1 : ((c.toNat : Int) == 45) = false := by simp only [beq_eq_false_iff_ne]; omega
 have f2 : ((c.toNat : Int) == 43) = false := by simp only [beq_eq_false_iff_ne]; omega
 have e1 : decide (0 < (s.length : Int)) = true := by simp; omega
 have e2 : decide ((s.length : Int) < 19) = true := by simp; omega
 have es : (s == []) = false := by simpa using h0
 refine Z0a follows Z09 Z05 Tryz.func89 rfl ?_
 repeat' ((conv => whnf); first | with_reducible refine ixS 0 rfl hc ?_ | (first | refine stp ?_ | with_reducible refine Z01 (fun h => ?_) (fun h => ?_)))
 all_goals (conv => whnf)
 refine ⟨Nat, (fun i => i <= s.length), (fun i => [(5, .str s), (6, .int .i64 (Z6C (s.take i) : Nat)), (47, .rs s.length 1 (byt s)), (48, .int .i64 s.length), (49, .int .i64 (i : Nat))]), (fun _ => []), (fun i => s.length - i), ⟨0, Nat.zero_le _, FgL.mk0 rfl ?_⟩, ?_⟩
 · simp only [List.take_zero, Z6C, List.foldl_nil]
   (repeat (first | exact trivial | refine stw ?_))
 rintro i hi
 (try dsimp only at hi)
 (try dsimp only)
 by_cases hlt : i < s.length
 · have e3 : decide ((i : Int) < (s.length : Int)) = true := by simpa using hlt
   have hx : ∀ off, off = i -> tk 1 ((byt s).drop off) = some [.int .u8 (s[i].toNat : Nat)] := fun off e => ZlZ s i hlt e
   have hsn := Z50 s i hlt
   have hdi : Z8V s[i].toNat = true := List.all_eq_true.1 hd _ (List.getElem_mem hlt)
   have hall : Za8 (s.take i) = true := List.all_eq_true.2 fun x hx => List.all_eq_true.1 hd x (List.mem_of_mem_take hx)
   have hv := Z9b s i (by omega) (by omega) hall
   simp only [Z8V, Bool.and_eq_true, decide_eq_true_eq] at hdi
   generalize Z6C (s.take i) = v at *
   generalize s[i] = b at *
   have wu : IntKind.u8.wrap ((b.toNat : Int) - 48) = ((b.toNat - 48 : Nat) : Int) := by simp only [IntKind.wrap_u8]; omega
   have d1 : decide (((b.toNat - 48 : Nat) : Int) > 9) = false := by simp; omega
   have wm : IntKind.i64.wrap ((v : Int) * 10) = ((v * 10 : Nat) : Int) := by rw [Z4X (by omega) (by omega)]; omega
   have wc : IntKind.i64.wrap ((b.toNat - 48 : Nat) : Int) = ((b.toNat - 48 : Nat) : Int) := Z4X (by omega) (by omega)
   repeat' ((conv => whnf); first | (refine exI (hx _ (by omega)) ?_) | (with_reducible refine exW wu ?_) | (with_reducible refine exW wm ?_) | (with_reducible refine exW wc ?_) | (with_reducible refine ixJ i rfl ?_ ?_; (focus (omega))) | (first | refine stp ?_ | with_reducible refine Z01 (fun h => ?_) (fun h => ?_)))
   conv => whnf
   refine ⟨i + 1, hlt, by show s.length - (i + 1) < s.length - i; omega, FgL.mk0 rfl ?_⟩
   rw [hsn]
   (repeat (first | exact trivial | refine stw ?_))
 · have e3 : decide ((i : Int) < (s.length : Int)) = false := by simpa using hlt
   have hi2 : i = s.length := by omega
   subst hi2
   rw [List.take_length]
   repeat' ((conv => whnf); first | with_reducible refine ixS 0 rfl hc ?_ | (first | refine stp ?_ | with_reducible refine Z01 (fun h => ?_) (fun h => ?_)))
   all_goals rfl
theorem ZkJ (s : List UInt8) (h0 : s ≠ []) (h4 : s.length <= 4) (hd : Za8 s = true) : ValOK Tryz.prog gl 74 [.str s] (.tuple [.int .i64 (Z6C s), .niface]) := by
 obtain ⟨O, hO, p1, -⟩ := fams (P := Tryz.prog) (gl := gl) [{ I := Unit, f := 89, G := fun _ => True, A := fun _ => [.str s], R := fun _ => .tuple [.int .i64 (Z6C s), .niface], body := (by kernel_rfl), inj := fun _ _ _ _ _ => rfl, ok := fun _ _ => ⟨rfl, Zix s h0 h4 hd⟩ }] rfl
 have q1 : ∀ H, Z04 Tryz.prog O H 89 [.str s] = some (.tuple [.int .i64 (Z6C s), .niface], H) := p1 () trivial
 clear p1
 refine Z0a follows Z09 hO Tryz.func74 rfl ?_
 repeat' ((conv => whnf); first | (refine exI (q1 _) ?_) | (first | refine stp ?_ | with_reducible refine Z01 (fun h => ?_) (fun h => ?_)))
 all_goals rfl
end Go.Proofs.YteidjbahodbgdaaGreatDoor.lex
end

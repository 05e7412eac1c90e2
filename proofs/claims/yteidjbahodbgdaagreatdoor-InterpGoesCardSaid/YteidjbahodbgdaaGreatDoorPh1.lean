/-
  Texts of this proof, one behind the other (part 1).
-/
import Derived.Test.YteidjbahodbgdaaGreatDoorPg11
set_option linter.unusedVariables false
set_option linter.unusedSimpArgs false

section
namespace Go.Flat
variable {α : Type} (ev : α -> List Int -> Int) (wr : Int -> Int) (ins : Nat -> In α)
theorem reads_take (l : List Ev) (i : Nat) : reads (l.take i) = (reads l).take (reads (l.take i)).length := by
 have h : reads l = reads (l.take i) ++ reads (l.drop i) := by rw [<- Z37, List.take_append_drop]
 rw [h, List.take_left']
 rfl
theorem reads_mono {l : List Ev} {i j : Nat} (h : i <= j) : (reads (l.take i)).length <= (reads (l.take j)).length := by
 have e : l.take j = l.take i ++ (l.take j).drop i := by
  have := (List.take_append_drop i (l.take j)).symm
  rw [List.take_take, Nat.min_eq_left h] at this
  exact this
 rw [e, Z37, List.length_append]; omega
theorem goes_at {f : Nat} (A : List Int) (s0 : Th) (h0 : s0.evs = []) {i : Nat} (hi : i < (go ev wr ins f A s0 0).th.evs.length) :
  let s := go ev wr ins f A s0 0
  let l := reads (s.th.evs.take i)
  let e := go ev wr ins f l s0 0
  l = A.take l.length /\ (∃ m, s.th.evs = e.th.evs ++ m) /\
   (i < e.th.evs.length \/ (i = e.th.evs.length /\ e.fin = 0 /\ ∃ v, (s.th.evs[i]? = some (ans wr (qu ev (ins e.th.at_) e.th.regs) v)))) := by
 intro s l e
 obtain ⟨k, g1, g2, g3, g4, m, g5⟩ := Z6W ev wr ins (f := f) A s0 0
 have hA : reads s.th.evs = A.take k := by
  have : reads s.th.evs = reads s0.evs ++ A.take k := g3
  rw [h0] at this; simpa [reads] using this
 have hl : l = A.take l.length := by
  have h1 : l = (reads s.th.evs).take l.length := reads_take s.th.evs i
  have h2 : l.length <= k := by
   have := congrArg List.length h1
   rw [hA, List.length_take, List.length_take] at this
   omega
  rw [hA, List.take_take, Nat.min_eq_left h2] at h1
  exact h1
 have hll : l.length <= A.length := by
  have := congrArg List.length hl
  rw [List.length_take] at this; omega
 have happ : s = if e.fin = 0 then (match A.drop l.length with | [] => e | v :: r => go ev wr ins f r (Z1k ev wr (ins e.th.at_) e.th v) (e.asked + 1)) else e := by
  have h1 := Zb3 ev wr ins (f := f) l (A.drop l.length) s0 0
  have h2 : l ++ A.drop l.length = A := by
   have := List.take_append_drop l.length A
   rw [<- hl] at this; exact this
  rw [h2] at h1
  exact h1
 refine ⟨hl, ?_⟩
 by_cases hf : e.fin = 0
 · rw [if_pos hf] at happ
   cases hd : A.drop l.length with
   | nil =>
    rw [hd] at happ
    have happ : s = e := happ
    exact ⟨⟨[], by rw [happ]; simp⟩, .inl (by rw [<- happ]; exact hi)⟩
   | cons v r =>
    rw [hd] at happ
    have happ : s = go ev wr ins f r (Z1k ev wr (ins e.th.at_) e.th v) (e.asked + 1) := happ
    obtain ⟨k2, _, _, _, _, m2, y5⟩ := Z6W ev wr ins (f := f) r (Z1k ev wr (ins e.th.at_) e.th v) (e.asked + 1)
    have hev : s.th.evs = (e.th.evs ++ [ans wr (qu ev (ins e.th.at_) e.th.regs) v]) ++ m2 := by rw [happ]; exact y5
    refine ⟨⟨[ans wr (qu ev (ins e.th.at_) e.th.regs) v] ++ m2, by rw [hev, List.append_assoc]⟩, ?_⟩
    rcases Nat.lt_trichotomy i e.th.evs.length with h | h | h
    · exact .inl h
    · refine .inr ⟨h, hf, v, ?_⟩
      rw [hev, h, List.append_assoc, List.getElem?_append_right (Nat.le_refl _), Nat.sub_self]
      rfl
    ·
     exfalso
     obtain ⟨k3, x1, x2, x3, x4, m3, x5⟩ := Z6W ev wr ins (f := f) l s0 0
     have hk3 : k3 = l.length := x4 hf
     have he : reads e.th.evs = l := by
      have : reads e.th.evs = reads s0.evs ++ l.take k3 := x3
      rw [h0, hk3, List.take_length] at this
      simpa [reads] using this
     have hm := reads_mono (l := s.th.evs) (i := e.th.evs.length + 1) (j := i) h
     have ht : s.th.evs.take (e.th.evs.length + 1) = e.th.evs ++ [ans wr (qu ev (ins e.th.at_) e.th.regs) v] := by
      rw [hev, List.take_left' (by simp)]
     rw [ht, Z37, List.length_append, he] at hm
     obtain ⟨r1, r2⟩ := Zm2 wr (qu ev (ins e.th.at_) e.th.regs) v
     have h1 : (reads [ans wr (qu ev (ins e.th.at_) e.th.regs) v]).length = 1 := by simp [reads, List.filter_cons, r1]
     rw [h1] at hm
     have : (reads (s.th.evs.take i)).length = l.length := rfl
     omega
 · rw [if_neg hf] at happ
   exact ⟨⟨[], by rw [happ]; simp⟩, .inl (by rw [<- happ]; exact hi)⟩
end Go.Flat
end

section
namespace Go.Proofs.YteidjbahodbgdaaGreatDoor.lex
open Go.Abs Go.RowKit Go.Flat
set_option maxRecDepth 100000
set_option maxHeartbeats 4000000
variable {gl : Z0l}
theorem Z8z (l : List Ev) (k : Nat) (h : k < l.length) : reads (l.take (k + 1)) = reads (l.take k) ++ cond (Zhi l[k]) [l[k].rd] [] := by
 rw [List.take_succ_eq_append_getElem h, Z37]
 congr 1
 unfold reads
 cases h : Zhi l[k] <;> simp [h]
theorem Z4a (l : List Ev) : (reads l).length <= l.length := by
 unfold reads
 rw [List.length_map]
 exact List.length_filter_le _ _
theorem Z81 (l : List Ev) (hl : l.length <= 1000000) : ValOK Tryz.prog gl 22 [rsE l] (rsI (reads l)) := by
 have hT2 : Z74 Tryz.prog 25 25 = some (2, 1, 8) := by kernel_rfl
 simp only [rsE, rsI]
 refine fn_valX (Φ := fun r' => ∀ sn v, VR sn noI r' v -> VR sn noI (.rs (reads l).length 1 (ksC (reads l))) v) follows Z09 Z05 (fun r' h => h) Tryz.func22 rfl (Z3G _ _) ?_
 repeat' ((conv => whnf); first | (first | refine stp ?_ | with_reducible refine Z01 (fun h => ?_) (fun h => ?_)))
 conv => whnf
 refine ⟨Nat, (fun n => n <= l.length), (fun n => [(3, grA 0 1 (reads (l.take n))), (6, .rs l.length 5 (Z14 l)), (7, .int .i64 l.length), (8, .int .i64 (n : Nat))]), (fun n => grB 0 ksC 2 (reads (l.take n))), (fun n => l.length - n), ⟨0, Nat.zero_le _, ?_⟩, ?_⟩
 · simp only [List.take_zero, show reads [] = [] from rfl, grA, grB]
   refine FgL.mk0 rfl ?_
   (repeat (first | exact trivial | refine stw ?_))
 intro n hn
 (try dsimp only at hn)
 (try dsimp only)
 by_cases hlt : n < l.length
 · have e3 : decide ((n : Int) < (l.length : Int)) = true := by simpa using hlt
   have hx := ev5 l n hlt
   have hsn := Z8z l n hlt
   have hol : (reads (l.take n)).length <= 1000000 := by have := Z4a (l.take n); rw [List.length_take] at this; omega
   generalize reads (l.take n) = o at *
   generalize l[n] = e at *
   obtain ⟨ek, el, eo, er, ew⟩ := e
   simp only [Z0c] at hx
   simp only at hsn
   have hcase : (Zhi ⟨ek, el, eo, er, ew⟩ = true /\ ((ek == 1) = true \/ ((ek == 1) = false /\ (ek == 3) = true))) \/ (Zhi ⟨ek, el, eo, er, ew⟩ = false /\ (ek == 1) = false /\ (ek == 3) = false) := by
    unfold Zhi
    cases h1 : (ek == 1) <;> cases h3 : (ek == 3) <;> simp [h1, h3]
   rcases hcase with ⟨hi, h1 | ⟨h1, h3⟩⟩ | ⟨hi, h1, h3⟩
   all_goals (first | rw [hi, cond_true] at hsn | rw [hi, cond_false, List.append_nil] at hsn)
   all_goals (cases o with
    | nil =>
     simp only [grA, grB]
     repeat' ((conv => whnf); first | (refine exI hx ?_) | (with_reducible refine ixJ n rfl ?_ ?_; (focus (omega))) | (refine apS ?_) | (first | refine stp ?_ | with_reducible refine Z01 (fun h => ?_) (fun h => ?_)))
     conv => whnf
     refine ⟨n + 1, hlt, by show l.length - (n + 1) < l.length - n; omega, ?_⟩
     rw [hsn]
     simp only [grA, grB, List.nil_append, List.length_nil]
     first
     | (refine FgL.mk [] rfl ?_ trivial rfl
        ((repeat (first | exact trivial | refine stw ?_)))
        done)
     | (refine FgL.mk [2] rfl ?_ ⟨⟨rfl, rfl, rfl, rfl, BodyGe.pre (rest := []) rfl rfl⟩, trivial⟩ rfl
        ((repeat (first | exact trivial | refine stw ?_)))
        done)
    | cons y o =>
     have hcl := Z2e y o
     have hon := Z4G (y :: o)
     simp only [List.length_cons] at hol
     simp only [grA, grB]
     repeat' ((conv => whnf); first | (refine exI hx ?_) | (with_reducible refine ixJ n rfl ?_ ?_; (focus (omega))) | (refine apS ?_) | (first | refine stp ?_ | with_reducible refine Z01 (fun h => ?_) (fun h => ?_)))
     conv => whnf
     refine ⟨n + 1, hlt, by show l.length - (n + 1) < l.length - n; omega, ?_⟩
     rw [hsn]
     simp only [grA, grB, List.cons_append, List.length_append, List.length_cons, List.length_nil]
     first
     | (refine FgL.mk [0] rfl ?_ ⟨⟨rfl, rfl, rfl, rfl, BodyGe.pre (rest := []) (by rw [List.append_nil]) (Z0R _)⟩, trivial⟩ rfl
        ((repeat (first | exact trivial | refine stw ?_)))
        done)
     | (refine FgL.mk [3] rfl ?_ ⟨⟨rfl, rfl, rfl, rfl, BodyGe.pre (rest := []) (by rw [List.append_nil]; simp [ksC]) (Z0R _)⟩, trivial⟩ rfl
        ((repeat (first | exact trivial | refine stw ?_)))
        done))
 · have e3 : decide ((n : Int) < (l.length : Int)) = false := by simpa using hlt
   have hn2 : n = l.length := by omega
   subst hn2
   rw [List.take_length]
   generalize reads l = o at *
   cases o with
   | nil =>
    simp only [grA, grB]
    repeat' ((conv => whnf); first | refine stp ?_ | with_reducible refine Z01 (fun h => ?_) (fun h => ?_))
    all_goals exact fun sn v h => Z0X h
   | cons y o =>
    simp only [grA, grB]
    repeat' ((conv => whnf); first | refine stp ?_ | with_reducible refine Z01 (fun h => ?_) (fun h => ?_))
    all_goals (conv => whnf)
    all_goals exact ⟨_, Z02 (n := 28) (b := 0) rfl (Z2e y o) (Z0e _), fun sn v h => h⟩
end Go.Proofs.YteidjbahodbgdaaGreatDoor.lex
end

section
namespace Go.Proofs.YteidjbahodbgdaaGreatDoor.lex
open Go.Abs Go.RowKit Go.Flat
set_option maxRecDepth 100000
set_option maxHeartbeats 4000000
variable {gl : Z0l}
theorem Z2H {l evs : List Ev} : Z6Z l evs = true ↔ evs.take l.length = l := by unfold Z6Z; simp
theorem ZgD (a b : List Ev) (ha : a.length <= 1000000) (hb : b.length <= 1000000) : ValOK Tryz.prog gl 61 [rsE a, rsE b] (.bool (Z7R a b)) := by
 simp only [rsE]
 by_cases hl : a.length = b.length
 case' neg =>
  have e1 : ((a.length : Int) != (b.length : Int)) = true := by simp; omega
  rw [show Z7R a b = false from Z8e Z2h (fun h => hl (by rw [h]))]
  refine Z0a follows Z09 Z05 Tryz.func61 rfl ?_
  repeat' ((conv => whnf); first | refine stp ?_ | with_reducible refine Z01 (fun h => ?_) (fun h => ?_))
  all_goals rfl
 have e1 : ((a.length : Int) != (b.length : Int)) = false := by simp; omega
 have hle : a.length <= b.length := by omega
 have hres : a.take a.length = b.take a.length -> Z7R a b = true := fun h => Z2h.2 (by rw [List.take_length, hl, List.take_length] at h; exact h)
 have hno : ∀ i (h1 : i < a.length) (h2 : i < b.length), a[i] ≠ b[i] -> Z7R a b = false := fun i h1 h2 e => Z8e Z2h (Zk5 h1 h2 e)
 generalize Z7R a b = R at *
 refine Z0a follows Z09 Z05 Tryz.func61 rfl ?_
 repeat' ((conv => whnf); first | (first | refine stp ?_ | with_reducible refine Z01 (fun h => ?_) (fun h => ?_)))
 conv => whnf
 refine ⟨Nat, (fun i => i <= a.length /\ a.take i = b.take i), (fun i => [(0, .rs a.length 5 (Z14 a)), (1, .rs b.length 5 (Z14 b)), (12, .int .i64 a.length), (13, .int .i64 (i : Nat))]), (fun _ => []), (fun i => a.length - i), ⟨0, ⟨Nat.zero_le _, rfl⟩, FgL.mk0 rfl ?_⟩, ?_⟩
 · (repeat (first | exact trivial | refine stw ?_))
 rintro i ⟨hi, hall⟩
 dsimp only
 by_cases hlt : i < a.length
 · have e2 : decide ((i : Int) < (a.length : Int)) = true := by simpa using hlt
   have hlt2 : i < b.length := by omega
   have hx := ev5 a i hlt
   have hy := ev5 b i hlt2
   have hst := Z53 hall hlt hlt2
   have hno := hno i hlt hlt2
   generalize a[i] = x at *
   generalize b[i] = y at *
   obtain ⟨x1, x2, x3, x4, x5⟩ := x
   obtain ⟨y1, y2, y3, y4, y5⟩ := y
   simp only [Z0c] at hx hy
   have ha2 := Zmh x1 x2 x3 x4 x5 y1 y2 y3 y4 y5
   have he := @Za1 x1 x2 x3 x4 x5 y1 y2 y3 y4 y5
   have hn := @ZgF x1 x2 x3 x4 x5 y1 y2 y3 y4 y5
   generalize eq5 (x1, x2, x3, x4, x5) (y1, y2, y3, y4, y5) = q at *
   cases q with
   | true =>
    have hst := hst (he.1 rfl)
    repeat' ((conv => whnf); first | (refine exI hx ?_) | (refine exI hy ?_) | (refine exI ha2 ?_) | (with_reducible refine ixJ i rfl ?_ ?_; (focus (omega))) | (first | refine stp ?_ | with_reducible refine Z01 (fun h => ?_) (fun h => ?_)))
    conv => whnf
    refine ⟨i + 1, ⟨hlt, hst⟩, by show a.length - (i + 1) < a.length - i; omega, FgL.mk0 rfl ?_⟩
    (repeat (first | exact trivial | refine stw ?_))
   | false =>
    rw [hno (hn.1 rfl)]
    repeat' ((conv => whnf); first | (refine exI hx ?_) | (refine exI hy ?_) | (refine exI ha2 ?_) | (with_reducible refine ixJ i rfl ?_ ?_; (focus (omega))) | (first | refine stp ?_ | with_reducible refine Z01 (fun h => ?_) (fun h => ?_)))
    all_goals rfl
 · have e2 : decide ((i : Int) < (a.length : Int)) = false := by simpa using hlt
   have hi2 : i = a.length := by omega
   subst hi2
   rw [hres hall]
   repeat' ((conv => whnf); first | refine stp ?_ | with_reducible refine Z01 (fun h => ?_) (fun h => ?_))
   all_goals rfl
end Go.Proofs.YteidjbahodbgdaaGreatDoor.lex
end

section
namespace Go.Proofs.YteidjbahodbgdaaGreatDoor.lex
open Go.Abs Go.RowKit Go.Flat
set_option maxRecDepth 100000
set_option maxHeartbeats 4000000
theorem ZiK : ∀ (l : List Ev) (k : Nat), k <= l.length -> tk (k * 5) (Z14 l) = some (Z14 (l.take k))
 | l, 0, _ => by simp only [Nat.zero_mul, List.take_zero]; cases l <;> rfl
 | [], k + 1, h => absurd h (by simp)
 | e :: l, k + 1, h => by
  have ih := ZiK l k (by simpa using h)
  rw [show (k + 1) * 5 = k * 5 + 1 + 1 + 1 + 1 + 1 from by omega]
  simp only [Z14, Z0c, List.cons_append, List.nil_append, List.take_succ_cons, tk, ih]
theorem Zl3 {H : Z00} {n b f sh cap k : Nat} {l : List Ev} {g : Nat -> Nat} {ty : TypeId} (hH : H[b]? = some ⟨true, f, sh, .cells (renL g (Z14 l)) ty⟩) (hk : k <= l.length) : frz H (n + 2) (.slice b 0 k cap 5) = some (rsE (l.take k)) := by
 rw [Z0r] at hH
 cases k with
 | zero => simp only [List.take_zero]; rfl
 | succ k =>
  have hlen : (l.take (k + 1)).length = k + 1 := by rw [List.length_take]; omega
  show (match H[b]? with
   | some o => match o.alive, o.body with
    | true, .cells cs _ => match tk ((k + 1) * 5) (cs.drop 0) with
     | some cs => match Z0L (frz H (n + 1)) cs with | some l => some (AV.rs (k + 1) 5 l) | none => none
     | none => none
    | _, _ => none
   | none => none) = _
  rw [hH]
  simp only [List.drop_zero, ZiK l (k + 1) hk, Z7D (Z0t (l.take (k + 1)))]
  rw [rsE, hlen]
section
variable {gl : Z0l}
theorem ZgC {O : Orc} (hO : Z06 Tryz.prog gl O) : ∃ O', Z06 Tryz.prog gl O' /\ (∀ (a b : List Ev), a.length <= 1000000 -> b.length <= 1000000 -> ∀ H args, (Z0L (frz H 30) args = some [rsE a, rsE b] \/ (a = [] /\ Z0L (frz H 30) args = some [.nslice, rsE b])) -> Z04 Tryz.prog O' H 61 args = some (.bool (Z7R a b), H)) /\
  ∀ g, g ≠ 61 -> ∀ args H, Z04 Tryz.prog O' H g args = Z04 Tryz.prog O H g args := by
 have inj : ∀ a b : List Ev, Z14 a = Z14 b -> a = b := by
  intro a
  induction a with
  | nil => intro b h; cases b with
   | nil => rfl
   | cons y b => simp [Z14, Z0c] at h
  | cons x a ih => intro b h; cases b with
   | nil => simp [Z14, Z0c] at h
   | cons y b =>
    simp only [Z14] at h
    have := List.append_inj h rfl
    rw [Z4L this.1, ih b this.2]
 obtain ⟨O', h1, h2, h3⟩ := Z7B (P := Tryz.prog) (gl := gl) (I := List Ev × List Ev × Bool) (f0 := 61) (G := fun i => i.1.length <= 1000000 /\ i.2.1.length <= 1000000 /\ (i.2.2 = true -> i.1 = [])) (A := fun i => [if i.2.2 = true then .nslice else rsE i.1, rsE i.2.1]) (R := fun i => .bool (Z7R i.1 i.2.1))
  (fun _ _ => rfl) (fun i j hi hj h => by
   obtain ⟨a, b, f⟩ := i
   obtain ⟨a', b', f'⟩ := j
   simp only [List.cons.injEq, rsE, AV.rs.injEq, and_true, true_and] at h hi hj ⊢
   obtain ⟨h1, _, h2⟩ := h
   have e2 := inj _ _ h2
   subst e2
   cases f <;> cases f' <;> simp at h1 hi hj
   · rw [inj _ _ h1.2]
   · rw [hi.2.2, hj.2.2]) (fun i h => by
   obtain ⟨a, b, f⟩ := i
   simp only at h ⊢
   have hq := ZgD (gl := gl) a b h.1 h.2.1
   cases f with
   | false => exact hq
   | true =>
    have ha := h.2.2 rfl
    subst ha
    refine hq.weak fun sn vs hv => ?_
    simp only [if_true, LR] at hv
    obtain ⟨d, ds, e, k1, k2⟩ := hv
    simp only [LR]
    exact ⟨d, ds, e, Z0X k1, k2⟩) (by kernel_rfl) hO
 refine ⟨O', h1, fun a b g1 g2 H args ha => ?_, h3⟩
 rcases ha with ha | ⟨rfl, ha⟩
 · exact h2 (a, b, false) ⟨g1, g2, fun h => by cases h⟩ H args ha
 · exact h2 ([], b, true) ⟨g1, g2, fun _ => rfl⟩ H args ha
end
def z5 : List AV := [.int .i64 0, .int .i64 0, .int .i64 0, .int .i64 0, .int .i64 0]
def Z6E : Option Ev -> Flat.Stand -> AV
 | some e, _ => .tuple [.agg (Z0c e ++ z5 ++ [.int .i64 0]), .int .i64 0]
 | none, st => .tuple [.agg (z5 ++ Z3H st.q ++ [.int .i64 st.fin]), .int .i64 0]
noncomputable def Z9A (c : Cd) (l : List Ev) : AV := if Z1y c ≠ 0 then .tuple [.agg (z5 ++ z5 ++ [.int .i64 0]), .int .i64 (Z1y c)] else
 if Z6Z l (Z07 c (reads l)).th.evs = true then Z6E (Z07 c (reads l)).th.evs[l.length]? (Z07 c (reads l)) else .tuple [.agg (z5 ++ z5 ++ [.int .i64 0]), .int .i64 2]
noncomputable def Z6F (c : Cd) (l : List Ev) : Bool := Z1y c == 0 && Z6Z l (Z07 c (reads l)).th.evs
def Zm9 (f : Nat) : Bool := Nat.beq f 29 || (Nat.beq f 31 || (Nat.beq f 39 || (Nat.beq f 22 || Nat.beq f 61)))
theorem Zdf {regs : Nat} {l : List Ins} (hr : Runs regs l) (hac : Acy (nxL l) l.length) (h16 : regs <= 16) (e : Int) (hck : ValOK Tryz.prog runLives.gl 29 [.agg [.int .i64 regs, .rs l.length 6 (inC l)]] (.int .i64 e)) (L : List Ev) (hL : L.length <= 1000) :
  ∃ O, Z06 Tryz.prog runLives.gl O /\ (∀ H, Z04 Tryz.prog O H 29 [.agg [.int .i64 regs, .rs l.length 6 (inC l)]] = some (.int .i64 e, H)) /\ (∀ H, Z04 Tryz.prog O H 22 [rsE L] = some (rsI (reads L), H)) /\
   (∀ H, Z04 Tryz.prog O H 31 [.agg [.int .i64 regs, .rs l.length 6 (inC l)], rsI (reads L)] = some (ren (· + H.length) (.ptr 0 0), H ++ shA H.length (Z1G regs l (goI l (reads L) (th0 regs) 0)))) /\
   (∀ (p : Nat) (r : List Int) (rest : List AV), p < l.length -> r.length = regs -> ∀ H args, Z0L (frz H 30) args = some [.rp (.int .i64 regs :: .rs l.length 6 (inC l) :: .int .i64 (p : Nat) :: rsI r :: rest)] -> Z04 Tryz.prog O H 39 args = some (.agg (quC (qu evF (Z0h l p) r)), H)) /\
   (∀ (a b : List Ev), a.length <= 1000000 -> b.length <= 1000000 -> ∀ H args, (Z0L (frz H 30) args = some [rsE a, rsE b] \/ (a = [] /\ Z0L (frz H 30) args = some [.nslice, rsE b])) -> Z04 Tryz.prog O H 61 args = some (.bool (Z7R a b), H)) := by
 have hal : (reads L).length <= 1000 := by have := Z4a L; omega
 obtain ⟨O1, hO1, p1, p2, -⟩ := fams (P := Tryz.prog) (gl := runLives.gl) [{ I := Unit, f := 29, G := fun _ => True, A := fun _ => [.agg [.int .i64 regs, .rs l.length 6 (inC l)]], R := fun _ => .int .i64 e, body := (by kernel_rfl), inj := fun _ _ _ _ _ => rfl, ok := fun _ _ => ⟨rfl, hck⟩ },
  { I := Unit, f := 22, G := fun _ => True, A := fun _ => [rsE L], R := fun _ => rsI (reads L), body := (by kernel_rfl), inj := fun _ _ _ _ _ => rfl, ok := fun _ _ => ⟨rfl, Z81 L (by omega)⟩ }] rfl
 have halive : ∀ o ∈ Z1G regs l (goI l (reads L) (th0 regs) 0), o.alive = true := fun o ho => by
  obtain ⟨i, hi⟩ := List.getElem?_of_mem ho
  exact (Z2R hi).2.2.1
 obtain ⟨O2, hO2, q0, hoth⟩ := Z5v (P := Tryz.prog) (gl := runLives.gl) { I := Unit, f := 31, G := fun _ => True, A := fun _ => [.agg [.int .i64 regs, .rs l.length 6 (inC l)], rsI (reads L)], R := fun _ => .ptr 0 0, N := fun _ => Z1G regs l (goI l (reads L) (th0 regs) 0), body := (by kernel_rfl), inj := fun _ _ _ _ _ => ⟨rfl, rfl⟩, ok := fun _ _ => ⟨rfl, halive, ZfD hr hac h16 _ hal⟩ } hO1
 obtain ⟨O3, hO3, q2, hoth2⟩ := ZgU (gl := runLives.gl) hr hO2
 obtain ⟨O, hO, q3, hoth3⟩ := ZgC (gl := runLives.gl) hO3
 refine ⟨O, hO, fun H => ?_, fun H => ?_, fun H => ?_, fun p r rest g1 g2 H args ha => ?_, q3⟩
 · exact (hoth3 _ (by show (29 : Nat) ≠ 61; decide) _ _).trans ((hoth2 _ (by show (29 : Nat) ≠ 39; decide) _ _).trans ((hoth _ (by show (29 : Nat) ≠ 31; decide) _ _).trans (p1 () trivial H)))
 · exact (hoth3 _ (by show (22 : Nat) ≠ 61; decide) _ _).trans ((hoth2 _ (by show (22 : Nat) ≠ 39; decide) _ _).trans ((hoth _ (by show (22 : Nat) ≠ 31; decide) _ _).trans (p2 () trivial H)))
 · exact (hoth3 _ (by show (31 : Nat) ≠ 61; decide) _ _).trans ((hoth2 _ (by show (31 : Nat) ≠ 39; decide) _ _).trans (q0 () trivial H))
 · exact (hoth3 _ (by show (39 : Nat) ≠ 61; decide) _ _).trans (q2 p r rest g1 g2 H args ha)
end Go.Proofs.YteidjbahodbgdaaGreatDoor.lex
end

section
namespace Go.Proofs.YteidjbahodbgdaaGreatDoor.lex
open Go.Abs Go.RowKit Go.Flat
set_option maxRecDepth 100000
set_option maxHeartbeats 4000000
theorem Z63 {H : Z00} {S x : AV} {n : Nat} {cs : List AV} (h : frz H 30 S = some x) : Z0L (frz H 30) [S, .rs n 5 cs] = some [x, .rs n 5 cs] := by
 have h2 : frz H 30 (.rs n 5 cs) = some (.rs n 5 cs) := rfl
 simp only [Z0L, h, h2]
theorem Zky (g : Nat -> Nat) (evs : List Ev) {k : Nat} (h : k < evs.length) {off : Nat} (e : off = k * 5) : tk 5 ((renL g (Z14 evs)).drop off) = some (Z0c evs[k]) := by
 subst e; rw [Z0r]; exact ev5 evs k h
theorem ZhV (c : Cd) (hok : okC c) (hs : ∀ i ∈ c.ins, ∀ e ∈ i.ex, Z0f e <= 800000) (L : List Ev) (hL : L.length <= 1000) :
  ValOK Tryz.prog runLives.gl 17 [c.av, rsE L] (Z9A c L) := by
 have hck := Z5z c hok
 by_cases hfl : Z0E c = true
 · have hc := Z1Z hfl
   obtain ⟨hr, hr0, hr16⟩ := Z3R hok hs hc
   have hac := Z2G hfl
   have hsi := Z3P hr hfl (reads L)
   have hst : Z07 c (reads L) = goI c.ins (reads L) (th0 c.regs.toNat) 0 := by unfold Z07; rw [if_pos hfl]
   have he : Z1y c = 0 := Z15.2 hfl
   have hR : Z9A c L = if Z6Z L (Z07 c (reads L)).th.evs = true then Z6E (Z07 c (reads L)).th.evs[L.length]? (Z07 c (reads L)) else .tuple [.agg (z5 ++ z5 ++ [.int .i64 0]), .int .i64 2] := by unfold Z9A; rw [if_neg (by rw [he]; decide)]
   rw [hR]
   rw [he] at hck
   clear hR
   obtain ⟨rg, l⟩ := c
   obtain ⟨regs, rfl⟩ : ∃ regs : Nat, rg = regs := ⟨rg.toNat, by simp only at hr0; omega⟩
   simp only [Cd.av, Int.toNat_natCast] at *
   obtain ⟨O, hO, q1, q4, q3, q2, q5⟩ := Zdf hr hac (by omega) 0 hck L hL
   rw [<- hst] at q3
   clear hst hfl hc he hs hok hac hck
   generalize Z07 ⟨(regs : Int), l⟩ (reads L) = st at *
   obtain ⟨h1, h2, h3, h4, h5, h6⟩ := hsi
   obtain ⟨⟨p, r, evs⟩, fin, q, asked⟩ := st
   have q2' := q2 p r
   have q5' := q5 (evs.take L.length) L (by rw [List.length_take]; omega) (by omega)
   have hfe : Z7R (evs.take L.length) L = Z6Z L evs := by rw [Bool.eq_iff_iff, Z2h, Z2H]
   rw [hfe] at q5'
   have hno : ¬ L.length <= evs.length -> Z6Z L evs = false := fun h => Z8e Z2H (fun e => h (by have := congrArg List.length e; rw [List.length_take] at this; omega))
   simp only [Z1G, thH, rsI, rsE] at *
   generalize hfb : Z6Z L evs = b at *
   generalize reads L = az at *
   clear q2 q5 hfe
   refine Z7I Zm9 3 follows Z09 hO Tryz.func17 rfl ?_
   cases evs with
   | nil =>
    simp only [grA, grB] at q3
    by_cases hle : L.length <= ([] : List Ev).length
    · obtain rfl : L = [] := List.length_eq_zero_iff.1 (by simpa using hle)
      cases b with
      | false =>
       rw [if_neg (by decide)]
       repeat' ((conv => whnf); first | (refine exI (q1 _) ?_) | (refine exI (q4 _) ?_) | (refine exI (q3 _) ?_) | (refine exI (q5' _ _ ?_) ?_; (focus (exact .inr ⟨rfl, rfl⟩))) | (first | refine stp ?_ | with_reducible refine Z01 (fun h => ?_) (fun h => ?_)))
       all_goals rfl
      | true =>
       rw [if_pos rfl]
       rw [show ([] : List Ev)[([] : List Ev).length]? = none from rfl]
       by_cases hfin : fin = 0
       · subst hfin
         obtain ⟨-, hq⟩ := h5 rfl
         subst hq
         generalize qu evF (Z0h l p) r = qq at *
         obtain ⟨qk, ql, qo, qa, qb⟩ := qq
         clear h5 h6
         simp only [Z6E, Z3H, quC, z5, List.cons_append, List.nil_append] at *
         repeat' ((conv => whnf); first | (refine exI (q1 _) ?_) | (refine exI (q4 _) ?_) | (refine exI (q3 _) ?_) | (refine exI (q5' _ _ ?_) ?_; (focus (exact .inr ⟨rfl, rfl⟩))) | (refine exI (q2' [.nslice, .int .i64 (asked : Nat), .int .i64 0, .bool true] h1 h2 _ _ ?_) ?_; (focus (exact Z9d (b := 2) rfl (Zj6 (n := 27) (b := 3) rfl rfl) rfl))) | (first | refine stp ?_ | with_reducible refine Z01 (fun h => ?_) (fun h => ?_)))
         all_goals rfl
       · have hfb2 : (fin == 0) = false := by simpa using hfin
         obtain ⟨-, hq⟩ := h6 hfin
         subst hq
         rw [hfb2] at q3
         simp only [Z6E, Z3H, z5, List.cons_append, List.nil_append] at *
         repeat' ((conv => whnf); first | (refine exI (q1 _) ?_) | (refine exI (q4 _) ?_) | (refine exI (q3 _) ?_) | (refine exI (q5' _ _ ?_) ?_; (focus (exact .inr ⟨rfl, rfl⟩))) | (first | refine stp ?_ | with_reducible refine Z01 (fun h => ?_) (fun h => ?_)))
         all_goals rfl
    · have hb := hno hle
      subst hb
      have e1 : decide ((0 : Int) >= (L.length : Int)) = false := decide_eq_false (by have h0 : ¬ L.length <= 0 := hle; omega)
      rw [if_neg (by decide)]
      repeat' ((conv => whnf); first | (refine exI (q1 _) ?_) | (refine exI (q4 _) ?_) | (refine exI (q3 _) ?_) | (first | refine stp ?_ | with_reducible refine Z01 (fun h => ?_) (fun h => ?_)))
      all_goals rfl
   | cons z evs =>
    simp only [grA, grB] at q3
    by_cases hle : L.length <= (z :: evs : List Ev).length
    · have e1 : decide (((evs.length + 1 : Nat) : Int) >= (L.length : Int)) = true := by simp only [List.length_cons] at hle; simp; omega
      have wj : L.length <= evs.length + 1 := by simpa using hle
      cases b with
      | false =>
       rw [if_neg (by decide)]
       repeat' ((conv => whnf); first | (refine exI (q1 _) ?_) | (refine exI (q4 _) ?_) | (refine exI (q3 _) ?_) | (refine exI (q5' _ _ ?_) ?_; (focus (exact .inl (Z63 (Zl3 (n := 28) (b := 4) (g := (· + 2)) (l := z :: evs) rfl hle))))) | (with_reducible refine ZbM L.length rfl ?_ ?_; (focus (omega))) | (first | refine stp ?_ | with_reducible refine Z01 (fun h => ?_) (fun h => ?_)))
       all_goals rfl
      | true =>
       rw [if_pos rfl]
       by_cases hlt : L.length < (z :: evs).length
       · have e2 : decide (((evs.length + 1 : Nat) : Int) > (L.length : Int)) = true := by simp only [List.length_cons] at hlt; simp; omega
         have hlt' : L.length < evs.length + 1 := by simpa using hlt
         have hx5 := fun (g : Nat -> Nat) (off : Nat) (e : off = L.length * 5) => Zky g (z :: evs) hlt e
         rw [List.getElem?_eq_getElem hlt]
         generalize (z :: evs)[L.length] = ev at *
         obtain ⟨ek, el, eo, er, ew⟩ := ev
         simp only [Z6E, Z0c, z5, List.cons_append, List.nil_append] at *
         repeat' ((conv => whnf); first | (refine exI (q1 _) ?_) | (refine exI (q4 _) ?_) | (refine exI (q3 _) ?_) | (refine exI (q5' _ _ ?_) ?_; (focus (exact .inl (Z63 (Zl3 (n := 28) (b := 4) (g := (· + 2)) (l := z :: evs) rfl hle))))) | (refine exI (hx5 _ _ (by omega)) ?_) | (with_reducible refine ixJ L.length rfl ?_ ?_; (focus (omega))) | (with_reducible refine ZbM L.length rfl ?_ ?_; (focus (omega))) | (first | refine stp ?_ | with_reducible refine Z01 (fun h => ?_) (fun h => ?_)))
         all_goals rfl
       · have e2 : decide (((evs.length + 1 : Nat) : Int) > (L.length : Int)) = false := by simp only [List.length_cons] at hlt; simp; omega
         rw [List.getElem?_eq_none (by omega)]
         by_cases hfin : fin = 0
         · subst hfin
           obtain ⟨-, hq⟩ := h5 rfl
           subst hq
           generalize qu evF (Z0h l p) r = qq at *
           obtain ⟨qk, ql, qo, qa, qb⟩ := qq
           clear h5 h6
           simp only [Z6E, Z3H, quC, z5, List.cons_append, List.nil_append] at *
           repeat' ((conv => whnf); first | (refine exI (q1 _) ?_) | (refine exI (q4 _) ?_) | (refine exI (q3 _) ?_) | (refine exI (q5' _ _ ?_) ?_; (focus (exact .inl (Z63 (Zl3 (n := 28) (b := 4) (g := (· + 2)) (l := z :: evs) rfl hle))))) | (refine exI (q2' [.rs (evs.length + 1) 5 (Z14 (z :: evs)), .int .i64 (asked : Nat), .int .i64 0, .bool true] h1 h2 _ _ ?_) ?_; (focus (exact Z9d (b := 2) rfl (Zj6 (n := 27) (b := 3) rfl rfl) (Zma (n := 27) (b := 4) rfl)))) | (with_reducible refine ZbM L.length rfl ?_ ?_; (focus (omega))) | (first | refine stp ?_ | with_reducible refine Z01 (fun h => ?_) (fun h => ?_)))
           all_goals rfl
         · have hfb2 : (fin == 0) = false := by simpa using hfin
           obtain ⟨-, hq⟩ := h6 hfin
           subst hq
           rw [hfb2] at q3
           simp only [Z6E, Z3H, z5, List.cons_append, List.nil_append] at *
           repeat' ((conv => whnf); first | (refine exI (q1 _) ?_) | (refine exI (q4 _) ?_) | (refine exI (q3 _) ?_) | (refine exI (q5' _ _ ?_) ?_; (focus (exact .inl (Z63 (Zl3 (n := 28) (b := 4) (g := (· + 2)) (l := z :: evs) rfl hle))))) | (with_reducible refine ZbM L.length rfl ?_ ?_; (focus (omega))) | (first | refine stp ?_ | with_reducible refine Z01 (fun h => ?_) (fun h => ?_)))
           all_goals rfl
    · have hb := hno hle
      subst hb
      have e1 : decide (((evs.length + 1 : Nat) : Int) >= (L.length : Int)) = false := by simp only [List.length_cons] at hle; simp; omega
      rw [if_neg (by decide)]
      repeat' ((conv => whnf); first | (refine exI (q1 _) ?_) | (refine exI (q4 _) ?_) | (refine exI (q3 _) ?_) | (first | refine stp ?_ | with_reducible refine Z01 (fun h => ?_) (fun h => ?_)))
      all_goals rfl
 · have he : Z1y c ≠ 0 := fun h => hfl (Z15.1 h)
   have hR : Z9A c L = .tuple [.agg (z5 ++ z5 ++ [.int .i64 0]), .int .i64 (Z1y c)] := by unfold Z9A; rw [if_pos he]
   rw [hR]
   have e1 : (Z1y c != 0) = true := by simpa using he
   have e1' : (Z1y c == 0) = false := by simpa using he
   obtain ⟨O, hO, p1, -⟩ := fams (P := Tryz.prog) (gl := runLives.gl) [{ I := Unit, f := 29, G := fun _ => True, A := fun _ => [c.av], R := fun _ => .int .i64 (Z1y c), body := (by kernel_rfl), inj := fun _ _ _ _ _ => rfl, ok := fun _ _ => ⟨rfl, hck⟩ }] rfl
   have q1 : ∀ H, Z04 Tryz.prog O H 29 [c.av] = some (.int .i64 (Z1y c), H) := p1 () trivial
   clear p1 hck he hfl hok hs hR
   generalize Z1y c = n at *
   obtain ⟨regs, l⟩ := c
   simp only [Cd.av, rsE, z5, List.cons_append, List.nil_append] at *
   refine Z7I Zm9 3 follows Z09 hO Tryz.func17 rfl ?_
   repeat' ((conv => whnf); first | (refine exI (q1 _) ?_) | (first | refine stp ?_ | with_reducible refine Z01 (fun h => ?_) (fun h => ?_)))
   all_goals rfl
theorem Zih (c : Cd) (hok : okC c) (hs : ∀ i ∈ c.ins, ∀ e ∈ i.ex, Z0f e <= 800000) (L : List Ev) (hL : L.length <= 1000) :
  ValOK Tryz.prog runLives.gl 24 [c.av, rsE L] (.bool (Z6F c L)) := by
 have hck := Z5z c hok
 by_cases hfl : Z0E c = true
 · have hc := Z1Z hfl
   obtain ⟨hr, hr0, hr16⟩ := Z3R hok hs hc
   have hac := Z2G hfl
   have hsi := Z3P hr hfl (reads L)
   have hst : Z07 c (reads L) = goI c.ins (reads L) (th0 c.regs.toNat) 0 := by unfold Z07; rw [if_pos hfl]
   have he : Z1y c = 0 := Z15.2 hfl
   have hR : Z6F c L = Z6Z L (Z07 c (reads L)).th.evs := by unfold Z6F; rw [he]; rfl
   rw [hR]
   rw [he] at hck
   clear hR
   obtain ⟨rg, l⟩ := c
   obtain ⟨regs, rfl⟩ : ∃ regs : Nat, rg = regs := ⟨rg.toNat, by simp only at hr0; omega⟩
   simp only [Cd.av, Int.toNat_natCast] at *
   obtain ⟨O, hO, q1, q4, q3, q2, q5⟩ := Zdf hr hac (by omega) 0 hck L hL
   rw [<- hst] at q3
   clear hst hfl hc he hs hok hac hck
   generalize Z07 ⟨(regs : Int), l⟩ (reads L) = st at *
   obtain ⟨h1, h2, h3, h4, h5, h6⟩ := hsi
   obtain ⟨⟨p, r, evs⟩, fin, q, asked⟩ := st
   have q2' := q2 p r
   have q5' := q5 (evs.take L.length) L (by rw [List.length_take]; omega) (by omega)
   have hfe : Z7R (evs.take L.length) L = Z6Z L evs := by rw [Bool.eq_iff_iff, Z2h, Z2H]
   rw [hfe] at q5'
   have hno : ¬ L.length <= evs.length -> Z6Z L evs = false := fun h => Z8e Z2H (fun e => h (by have := congrArg List.length e; rw [List.length_take] at this; omega))
   simp only [Z1G, thH, rsI, rsE] at *
   generalize hfb : Z6Z L evs = b at *
   generalize reads L = az at *
   clear q2 q5 hfe
   refine Z7I Zm9 3 follows Z09 hO Tryz.func24 rfl ?_
   cases evs with
   | nil =>
    simp only [grA, grB] at q3
    by_cases hle : L.length <= ([] : List Ev).length
    · obtain rfl : L = [] := List.length_eq_zero_iff.1 (by simpa using hle)
      cases b with
      | false =>
       repeat' ((conv => whnf); first | (refine exI (q1 _) ?_) | (refine exI (q4 _) ?_) | (refine exI (q3 _) ?_) | (refine exI (q5' _ _ ?_) ?_; (focus (exact .inr ⟨rfl, rfl⟩))) | (first | refine stp ?_ | with_reducible refine Z01 (fun h => ?_) (fun h => ?_)))
       all_goals rfl
      | true =>
       repeat' ((conv => whnf); first | (refine exI (q1 _) ?_) | (refine exI (q4 _) ?_) | (refine exI (q3 _) ?_) | (refine exI (q5' _ _ ?_) ?_; (focus (exact .inr ⟨rfl, rfl⟩))) | (first | refine stp ?_ | with_reducible refine Z01 (fun h => ?_) (fun h => ?_)))
       all_goals rfl
    · have hb := hno hle
      subst hb
      have e1 : decide ((0 : Int) >= (L.length : Int)) = false := decide_eq_false (by have h0 : ¬ L.length <= 0 := hle; omega)
      repeat' ((conv => whnf); first | (refine exI (q1 _) ?_) | (refine exI (q4 _) ?_) | (refine exI (q3 _) ?_) | (first | refine stp ?_ | with_reducible refine Z01 (fun h => ?_) (fun h => ?_)))
      all_goals rfl
   | cons z evs =>
    simp only [grA, grB] at q3
    by_cases hle : L.length <= (z :: evs : List Ev).length
    · have e1 : decide (((evs.length + 1 : Nat) : Int) >= (L.length : Int)) = true := by simp only [List.length_cons] at hle; simp; omega
      have wj : L.length <= evs.length + 1 := by simpa using hle
      cases b with
      | false =>
       repeat' ((conv => whnf); first | (refine exI (q1 _) ?_) | (refine exI (q4 _) ?_) | (refine exI (q3 _) ?_) | (refine exI (q5' _ _ ?_) ?_; (focus (exact .inl (Z63 (Zl3 (n := 28) (b := 3) (g := (· + 1)) (l := z :: evs) rfl hle))))) | (with_reducible refine ZbM L.length rfl ?_ ?_; (focus (omega))) | (first | refine stp ?_ | with_reducible refine Z01 (fun h => ?_) (fun h => ?_)))
       all_goals rfl
      | true =>
       repeat' ((conv => whnf); first | (refine exI (q1 _) ?_) | (refine exI (q4 _) ?_) | (refine exI (q3 _) ?_) | (refine exI (q5' _ _ ?_) ?_; (focus (exact .inl (Z63 (Zl3 (n := 28) (b := 3) (g := (· + 1)) (l := z :: evs) rfl hle))))) | (with_reducible refine ZbM L.length rfl ?_ ?_; (focus (omega))) | (first | refine stp ?_ | with_reducible refine Z01 (fun h => ?_) (fun h => ?_)))
       all_goals rfl
    · have hb := hno hle
      subst hb
      have e1 : decide (((evs.length + 1 : Nat) : Int) >= (L.length : Int)) = false := by simp only [List.length_cons] at hle; simp; omega
      repeat' ((conv => whnf); first | (refine exI (q1 _) ?_) | (refine exI (q4 _) ?_) | (refine exI (q3 _) ?_) | (first | refine stp ?_ | with_reducible refine Z01 (fun h => ?_) (fun h => ?_)))
      all_goals rfl
 · have he : Z1y c ≠ 0 := fun h => hfl (Z15.1 h)
   have hR : Z6F c L = false := by unfold Z6F; rw [show (Z1y c == 0) = false by simpa using he]; rfl
   rw [hR]
   have e1 : (Z1y c != 0) = true := by simpa using he
   have e1' : (Z1y c == 0) = false := by simpa using he
   obtain ⟨O, hO, p1, -⟩ := fams (P := Tryz.prog) (gl := runLives.gl) [{ I := Unit, f := 29, G := fun _ => True, A := fun _ => [c.av], R := fun _ => .int .i64 (Z1y c), body := (by kernel_rfl), inj := fun _ _ _ _ _ => rfl, ok := fun _ _ => ⟨rfl, hck⟩ }] rfl
   have q1 : ∀ H, Z04 Tryz.prog O H 29 [c.av] = some (.int .i64 (Z1y c), H) := p1 () trivial
   clear p1 hck he hfl hok hs hR
   generalize Z1y c = n at *
   obtain ⟨regs, l⟩ := c
   simp only [Cd.av, rsE, z5, List.cons_append, List.nil_append] at *
   refine Z7I Zm9 3 follows Z09 hO Tryz.func24 rfl ?_
   repeat' ((conv => whnf); first | (refine exI (q1 _) ?_) | (first | refine stp ?_ | with_reducible refine Z01 (fun h => ?_) (fun h => ?_)))
   all_goals rfl
end Go.Proofs.YteidjbahodbgdaaGreatDoor.lex
end

section
namespace Go.Proofs.YteidjbahodbgdaaGreatDoor.lex
open Go.Abs Go.RowKit Go.Flat
set_option maxRecDepth 100000
set_option maxHeartbeats 4000000
theorem ZgE {P : Program} {e : TypeId -> AV -> AV -> Option Bool} {t off z : Nat} {fs : List (TypeId × Nat)} {xs ys xs' ys' : List AV} {p q : Bool} (ht : Z47 P t = some true) (hz : tsz P t = some z) (hx : tk z (xs.drop off) = some xs') (hy : tk z (ys.drop off) = some ys') (h : e t (.agg xs') (.agg ys') = some p) (h2 : Z6H e P fs xs ys = some q) :
  Z6H e P ((t, off) :: fs) xs ys = some (p && q) := by
 simp only [Z6H, Z5E, ht, hz, hx, hy, h, h2]
theorem Zn9 : Z47 Tryz.prog 47 = some true := by kernel_rfl
theorem Zna : Z47 Tryz.prog 35 = some true := by kernel_rfl
theorem Zn7 : tsz Tryz.prog 47 = some 5 := by kernel_rfl
theorem Zn8 : tsz Tryz.prog 35 = some 5 := by kernel_rfl
theorem egN : Tryz.prog.eqGuardType Tryz.prog.depth 49 = false := by kernel_rfl
theorem feN : Z2g Tryz.prog 49 = some [(47, 0), (35, 5), (3, 10)] := by kernel_rfl
theorem Zcm (a : Int × Int × Int × Int × Int) : eq5 a a = true := Zjd.2 rfl
theorem Znh (d : Nat) (a b c x y a' b' c' x' y' : Int) : eqB Tryz.prog (d + 2) 47 (.agg [.int .i64 a, .int .i64 b, .int .i64 c, .int .i64 x, .int .i64 y]) (.agg [.int .i64 a', .int .i64 b', .int .i64 c', .int .i64 x', .int .i64 y']) = some (eq5 (a, b, c, x, y) (a', b', c', x', y')) :=
 (Zcl (d := d + 1) feE).trans (Z0A tgI rfl rfl (Z0U Tryz.underlying3 _ _) (Z0A tgI rfl rfl (Z0U Tryz.underlying3 _ _) (Z0A tgI rfl rfl (Z0U Tryz.underlying3 _ _) (Z0A tgL rfl rfl (Z0U Tryz.underlying2 _ _) (Z0A tgL rfl rfl (Z0U Tryz.underlying2 _ _) rfl)))))
theorem Zni (d : Nat) (a b c x y a' b' c' x' y' : Int) : eqB Tryz.prog (d + 2) 35 (.agg [.int .i64 a, .int .i64 b, .int .i64 c, .int .i64 x, .int .i64 y]) (.agg [.int .i64 a', .int .i64 b', .int .i64 c', .int .i64 x', .int .i64 y']) = some (eq5 (a, b, c, x, y) (a', b', c', x', y')) :=
 (Zcl (d := d + 1) feA).trans (Z0A tgI rfl rfl (Z0U Tryz.underlying3 _ _) (Z0A tgI rfl rfl (Z0U Tryz.underlying3 _ _) (Z0A tgI rfl rfl (Z0U Tryz.underlying3 _ _) (Z0A tgL rfl rfl (Z0U Tryz.underlying2 _ _) (Z0A tgL rfl rfl (Z0U Tryz.underlying2 _ _) rfl)))))
def c11 (a b : Int × Int × Int × Int × Int) (e : Int) : List AV := [.int .i64 a.1, .int .i64 a.2.1, .int .i64 a.2.2.1, .int .i64 a.2.2.2.1, .int .i64 a.2.2.2.2, .int .i64 b.1, .int .i64 b.2.1, .int .i64 b.2.2.1, .int .i64 b.2.2.2.1, .int .i64 b.2.2.2.2, .int .i64 e]
theorem Znk (a b a' b' : Int × Int × Int × Int × Int) (e e' : Int) : Zaa Tryz.prog 49 (c11 a b e) (c11 a' b' e') = some (eq5 a a' && (eq5 b b' && ((e == e') && true))) :=
 Za9 egN feN (ZgE Zn9 Zn7 rfl rfl (Znh 9997 _ _ _ _ _ _ _ _ _ _) (ZgE Zna Zn8 rfl rfl (Zni 9997 _ _ _ _ _ _ _ _ _ _) (Z0A tgI rfl rfl (Z0U Tryz.underlying3 _ _) rfl)))
end Go.Proofs.YteidjbahodbgdaaGreatDoor.lex
end

section
namespace Go.Flat
variable {α : Type} (ev : α -> List Int -> Int) (wr : Int -> Int) (ins : Nat -> In α)
theorem go_grow {f : Nat} (A : List Int) (v : Int) (s0 : Th) : (∃ m, (go ev wr ins f (A ++ [v]) s0 0).th.evs = (go ev wr ins f A s0 0).th.evs ++ m) /\ ((go ev wr ins f A s0 0).fin ≠ 0 -> go ev wr ins f (A ++ [v]) s0 0 = go ev wr ins f A s0 0) := by
 have h := Zb3 ev wr ins (f := f) A [v] s0 0
 by_cases hf : (go ev wr ins f A s0 0).fin = 0
 · rw [if_pos hf] at h
   refine ⟨?_, fun h2 => absurd hf h2⟩
   obtain ⟨k, _, _, _, _, m, hm⟩ := Z6W ev wr ins (f := f) [] (Z1k ev wr (ins (go ev wr ins f A s0 0).th.at_) (go ev wr ins f A s0 0).th v) ((go ev wr ins f A s0 0).asked + 1)
   have h : go ev wr ins f (A ++ [v]) s0 0 = go ev wr ins f [] (Z1k ev wr (ins (go ev wr ins f A s0 0).th.at_) (go ev wr ins f A s0 0).th v) ((go ev wr ins f A s0 0).asked + 1) := h
   rw [h, hm, Z52, List.append_assoc]
   exact ⟨_, rfl⟩
 · rw [if_neg hf] at h
   exact ⟨⟨[], by rw [h]; simp⟩, fun _ => h⟩
theorem go_self {f : Nat} (A : List Int) (s0 : Th) (h0 : s0.evs = []) : go ev wr ins f (reads (go ev wr ins f A s0 0).th.evs) s0 0 = go ev wr ins f A s0 0 /\ ((go ev wr ins f A s0 0).fin = 0 -> (go ev wr ins f A s0 0).asked = A.length) := by
 obtain ⟨k, hk, ha, hr, hf, _⟩ := Z6W ev wr ins (f := f) A s0 0
 refine ⟨?_, fun h => by rw [ha, hf h]; omega⟩
 rw [h0] at hr
 have hr : reads (go ev wr ins f A s0 0).th.evs = A.take k := hr
 rw [hr]
 have h := Zb3 ev wr ins (f := f) (A.take k) (A.drop k) s0 0
 rw [List.take_append_drop] at h
 by_cases hf0 : (go ev wr ins f (A.take k) s0 0).fin = 0
 · rw [if_pos hf0] at h
   obtain ⟨k3, _, ha3, _, hf3, _⟩ := Z6W ev wr ins (f := f) (A.take k) s0 0
   have h3 := hf3 hf0
   rw [List.length_take] at h3
   cases hd : A.drop k with
   | nil => rw [hd] at h; exact h.symm
   | cons v r =>
    rw [hd] at h
    obtain ⟨k2, _, ha2, _⟩ := Z6W ev wr ins (f := f) r (Z1k ev wr (ins (go ev wr ins f (A.take k) s0 0).th.at_) (go ev wr ins f (A.take k) s0 0).th v) ((go ev wr ins f (A.take k) s0 0).asked + 1)
    have h : go ev wr ins f A s0 0 = go ev wr ins f r (Z1k ev wr (ins (go ev wr ins f (A.take k) s0 0).th.at_) (go ev wr ins f (A.take k) s0 0).th v) ((go ev wr ins f (A.take k) s0 0).asked + 1) := h
    rw [<- h] at ha2
    omega
 · rw [if_neg hf0] at h
   exact h.symm
end Go.Flat
namespace Go.Proofs.YteidjbahodbgdaaGreatDoor.lex
open Go.Abs Go.RowKit Go.Flat
set_option maxRecDepth 100000
set_option maxHeartbeats 4000000
structure GoF (c : Cd) (k : Nat) (w s : Flat.Stand) : Prop where
 more : s.th.evs.take w.th.evs.length = w.th.evs /\ w.th.evs.length <= s.th.evs.length
 same : w.fin ≠ 0 -> w = s
 quiet : s.fin ≠ 0 -> s.q = none
 asked : s.fin = 0 -> s.asked = k
 fits : Z6F c s.th.evs = true
 next : Z9A c s.th.evs = .tuple [.agg (z5 ++ Z3H s.q ++ [.int .i64 s.fin]), .int .i64 0]
 step : ∀ i, (h : i < s.th.evs.length) -> Z9A c (s.th.evs.take i) = .tuple [.agg (Z0c s.th.evs[i] ++ z5 ++ [.int .i64 0]), .int .i64 0] \/
  ∃ q : Qu, Z3d q.kind = true /\ Z9A c (s.th.evs.take i) = .tuple [.agg (z5 ++ quC q ++ [.int .i64 0]), .int .i64 0] /\ ans wrI q s.th.evs[i].rd = s.th.evs[i]
 few : s.th.evs.length <= c.ins.length
theorem goes_facts {c : Cd} (hok : okC c) (hs : ∀ i ∈ c.ins, ∀ e ∈ i.ex, Z0f e <= 800000) (hfl : Z0E c = true) (az : List Int) (k : Nat) (hk : k <= az.length) : GoF c k (Z07 c (az.take (k - 1))) (Z07 c (az.take k)) := by
 have he : Z1y c = 0 := Z15.2 hfl
 have hr := (Z3R hok hs (Z1Z hfl)).1
 have eS : ∀ A, Z07 c A = go evF wrI (Z0h c.ins) c.ins.length A (th0 c.regs.toNat) 0 := fun A => by unfold Z07; rw [if_pos hfl]
 have h0 : (th0 c.regs.toNat).evs = [] := rfl
 have hself := fun A => go_self evF wrI (Z0h c.ins) (f := c.ins.length) A (th0 c.regs.toNat) h0
 have hgr : (∃ m, (Z07 c (az.take k)).th.evs = (Z07 c (az.take (k - 1))).th.evs ++ m) /\ ((Z07 c (az.take (k - 1))).fin ≠ 0 -> Z07 c (az.take k) = Z07 c (az.take (k - 1))) := by
  cases k with
  | zero => exact ⟨⟨[], by simp⟩, fun _ => rfl⟩
  | succ k =>
   have := go_grow evF wrI (Z0h c.ins) (f := c.ins.length) (az.take k) (az[k]'(by omega)) (th0 c.regs.toNat)
   rw [<- List.take_succ_eq_append_getElem (by omega)] at this
   simp only [Nat.add_sub_cancel, eS]
   exact this
 have hinv := Z3P hr hfl (az.take k)
 have hlen : (az.take k).length = k := by rw [List.length_take]; omega
 obtain ⟨hsf, hsa⟩ := hself (az.take k)
 have hat := fun i hi => goes_at evF wrI (Z0h c.ins) (f := c.ins.length) (az.take k) (th0 c.regs.toNat) h0 (i := i) hi
 rw [<- eS] at hsf hsa
 simp only [<- eS] at hat
 have hfew : (Z07 c (az.take k)).th.evs.length <= c.ins.length := by
  obtain ⟨rank, hrank⟩ := Z2G hfl
  have h1 := (Zb2 evF wrI (Z0h c.ins) (f := c.ins.length) hrank.2 hrank.1 (az.take k) (th0 c.regs.toNat) 0 .zero).evs
  rw [<- eS] at h1
  have h2 := hrank.1 0 .zero
  have h3 : (th0 c.regs.toNat).evs.length + rank (th0 c.regs.toNat).at_ = 0 + rank 0 := rfl
  omega
 have hinvA := fun A => Z3P hr hfl A
 have hn0 : ∀ L, Z9A c L = if Z6Z L (Z07 c (reads L)).th.evs = true then Z6E (Z07 c (reads L)).th.evs[L.length]? (Z07 c (reads L)) else .tuple [.agg (z5 ++ z5 ++ [.int .i64 0]), .int .i64 2] := fun L => by
  unfold Z9A; rw [if_neg (by rw [he]; decide)]
 rw [<- eS] at hsf
 generalize hS : Z07 c (az.take k) = s at *
 obtain ⟨⟨m, hm⟩, hsame⟩ := hgr
 refine ⟨⟨by rw [hm, List.take_left' rfl], by rw [hm]; simp⟩, fun h => (hsame h).symm, fun h => (hinv.2.2.2.2.2 h).2, fun h => by rw [hsa h, hlen], ?_, ?_, fun i hi => ?_, hfew⟩
 · unfold Z6F
   rw [hsf, he]
   simp only [Z2H.2 (List.take_length), beq_self_eq_true, Bool.and_true]
 · rw [hn0, hsf, if_pos (Z2H.2 List.take_length), List.getElem?_eq_none (Nat.le_refl _)]
   rfl
 · obtain ⟨_, ⟨m2, hm2⟩, hcase⟩ := hat i hi
   have hq := hinvA (reads (s.th.evs.take i))
   rw [hn0]
   generalize Z07 c (reads (s.th.evs.take i)) = e at *
   have hil : i <= e.th.evs.length := by rcases hcase with h | ⟨h, _⟩ <;> omega
   have hti : (s.th.evs.take i).length = i := by rw [List.length_take]; omega
   have hfit : Z6Z (s.th.evs.take i) e.th.evs = true := Z2H.2 (by rw [hti, hm2, List.take_append_of_le_length hil])
   rw [if_pos hfit, hti]
   rcases hcase with h | ⟨h, hf, v, hv⟩
   · left
     have e2 : s.th.evs[i]? = e.th.evs[i]? := by rw [hm2, List.getElem?_append_left h]
     rw [<- e2, List.getElem?_eq_getElem hi]
     rfl
   · right
     obtain ⟨ha, hqs⟩ := hq.2.2.2.2.1 hf
     have hask := (ZkL (hr.ins _ hq.1) ha).1
     refine ⟨qu evF (Z0h c.ins e.th.at_) e.th.regs, hask, ?_, ?_⟩
     · rw [List.getElem?_eq_none (by omega), Z6E, hqs, hf]
       rfl
     · rw [List.getElem?_eq_getElem hi] at hv
       have hv := Option.some.inj hv
       rw [hv, (Zm2 wrI _ v).2]
end Go.Proofs.YteidjbahodbgdaaGreatDoor.lex
end

section
namespace Go.Proofs.YteidjbahodbgdaaGreatDoor.lex
open Go.Abs Go.RowKit Go.Flat
set_option maxRecDepth 100000
set_option maxHeartbeats 4000000
theorem ig_not (c : Cd) (az : List Int) (hok : okC c) (hneg : ltC c 30 = false \/ (ltC c 30 = true /\ decide ((az.length : Int) > 30) = true) \/ (ltC c 30 = true /\ decide ((az.length : Int) > 30) = false /\ (Z31 c != 0) = true) \/
  (ltC c 30 = true /\ decide ((az.length : Int) > 30) = false /\ (Z31 c != 0) = false /\ Z0E c = false)) :
  ValOK Tryz.prog runLives.gl 6 [c.av, rsI az] (.bool true) := by
 obtain ⟨O, hO, p0, p1, p2, p3, -⟩ := fams (P := Tryz.prog) (gl := runLives.gl) [
  one0 (f := 7) (A := []) (R := .bool true) True (by kernel_rfl) rfl (fun _ => Z8G),
  one0 (f := 8) (A := [c.av, .int .i64 30]) (R := .bool (ltC c 30)) True (by kernel_rfl) rfl (fun _ => Z3b c hok 30),
  one0 (f := 12) (A := [c.av]) (R := .int .i64 (Z31 c)) (ltC c 30 = true) (by kernel_rfl) rfl (fun h => Z2s c hok (Z4g h).2),
  one0 (f := 13) (A := [c.av]) (R := .bool (Z0E c)) (ltC c 30 = true) (by kernel_rfl) rfl (fun h => Z9R c hok (Z4g h).2)] rfl
 have q0 : ∀ H, Z04 Tryz.prog O H 7 [] = some (.bool true, H) := p0 () trivial
 have q1 : ∀ H, Z04 Tryz.prog O H 8 [c.av, .int .i64 30] = some (.bool (ltC c 30), H) := p1 () trivial
 have q2 : ltC c 30 = true -> ∀ H, Z04 Tryz.prog O H 12 [c.av] = some (.int .i64 (Z31 c), H) := p2 ()
 have q3 : ltC c 30 = true -> ∀ H, Z04 Tryz.prog O H 13 [c.av] = some (.bool (Z0E c), H) := p3 ()
 clear p0 p1 p2 p3 hok
 generalize ltC c 30 = lt at *
 generalize Z31 c = ck at *
 generalize Z0E c = fl at *
 obtain ⟨regs, l⟩ := c
 simp only [Cd.av, rsI] at *
 refine Z0a follows Z09 hO Tryz.func6 rfl ?_
 rcases hneg with rfl | ⟨rfl, e1⟩ | ⟨rfl, e1, e2⟩ | ⟨rfl, e1, e2, rfl⟩
 all_goals repeat' ((conv => whnf); first | (refine exI (q0 _) ?_) | (refine exI (q1 _) ?_) | (refine exI (q2 rfl _) ?_) | (refine exI (q3 rfl _) ?_) | (first | refine stp ?_ | with_reducible refine Z01 (fun h => ?_) (fun h => ?_)))
 all_goals rfl
theorem ev3 (l : List Ev) (i : Nat) (h : i < l.length) : tk 1 (((Z14 l).drop (i * 5)).drop 3) = some [.int .i64 l[i].rd] := by
 rw [Z9Z l i h]; rfl
theorem stdC_eq (s : Flat.Stand) : Z0T s = [.rs s.th.evs.length 5 (Z14 s.th.evs), .int .i64 s.fin, .int .i64 (qu5 s.q).1, .int .i64 (qu5 s.q).2.1, .int .i64 (qu5 s.q).2.2.1, .int .i64 (qu5 s.q).2.2.2.1, .int .i64 (qu5 s.q).2.2.2.2, .int .i64 (s.th.at_ : Nat), .rs s.th.regs.length 1 (ksC s.th.regs), .int .i64 (s.asked : Nat)] := by
 simp only [Z0T, rsE, rsI, Z2k, List.cons_append, List.nil_append]
theorem cut5 (l : List Ev) (n : Nat) (h : n <= l.length) : (AV.rs (n - 0) 5 (((Z14 l).drop (0 * 5)).take ((n - 0) * 5))) = rsE (l.take n) := by
 have h1 : (l.take n).length = n := by rw [List.length_take]; omega
 have h2 : (Z14 l).take (n * 5) = Z14 (l.take n) := by
  have h3 : Z14 l = Z14 (l.take n) ++ Z14 (l.drop n) := by rw [<- ZdH, List.take_append_drop]
  rw [h3, List.take_left' (by rw [ZdG, h1])]
 simp only [Nat.sub_zero, Nat.zero_mul, List.drop_zero, rsE, h1, h2]
theorem cut1 (l : List Int) (n : Nat) (h : n <= l.length) : (AV.rs (n - 0) 1 (((ksC l).drop (0 * 1)).take ((n - 0) * 1))) = rsI (l.take n) := by
 have h1 : (l.take n).length = n := by rw [List.length_take]; omega
 simp only [Nat.sub_zero, Nat.zero_mul, List.drop_zero, rsI, h1, Nat.mul_one, ksC, List.map_take]
theorem quC_ne {q : Qu} (h : Z3d q.kind = true) : eq5 (q.kind, q.loc, q.order, q.a, q.b) (0, 0, 0, 0, 0) = false := by
 rw [Bool.eq_false_iff]
 intro h2
 have h3 := Zjd.1 h2
 simp only [Prod.mk.injEq] at h3
 rw [h3.1] at h
 cases h
structure GoI (c : Cd) (O : Orc) (evs : List Ev) : Prop where
 nx : ∀ i, (h : i < evs.length) -> ∃ a b c' d e, Z0c evs[i] = [.int .i64 a, .int .i64 b, .int .i64 c', .int .i64 d, .int .i64 e] /\
  ((∀ H, Z04 Tryz.prog O H 17 [c.av, .rs (i - 0) 5 (((Z14 evs).drop (0 * 5)).take ((i - 0) * 5))] = some (.tuple [.agg [.int .i64 a, .int .i64 b, .int .i64 c', .int .i64 d, .int .i64 e, .int .i64 0, .int .i64 0, .int .i64 0, .int .i64 0, .int .i64 0, .int .i64 0], .int .i64 0], H)) \/
  ∃ k l o x y, eq5 (k, l, o, x, y) (0, 0, 0, 0, 0) = false /\ (∀ H, Z04 Tryz.prog O H 17 [c.av, .rs (i - 0) 5 (((Z14 evs).drop (0 * 5)).take ((i - 0) * 5))] = some (.tuple [.agg [.int .i64 0, .int .i64 0, .int .i64 0, .int .i64 0, .int .i64 0, .int .i64 k, .int .i64 l, .int .i64 o, .int .i64 x, .int .i64 y, .int .i64 0], .int .i64 0], H)) /\
   (∀ H, Z04 Tryz.prog O H 19 [.agg [.int .i64 k, .int .i64 l, .int .i64 o, .int .i64 x, .int .i64 y], .int .i64 d] = some (.tuple [.agg [.int .i64 a, .int .i64 b, .int .i64 c', .int .i64 d, .int .i64 e], .int .i64 0], H)))
theorem ig_orc (c : Cd) (az : List Int) (hok : okC c) (hlt : ltC c 30 = true) (h30 : az.length <= 30) (hfl : Z0E c = true) (S : Nat -> Flat.Stand) (hS : ∀ k, S k = Z07 c (az.take k)) (hG : ∀ k, k <= az.length -> GoF c k (S (k - 1)) (S k)) :
  ∃ O, Z06 Tryz.prog runLives.gl O /\ (∀ H, Z04 Tryz.prog O H 7 [] = some (.bool true, H)) /\ (∀ H, Z04 Tryz.prog O H 8 [c.av, .int .i64 30] = some (.bool true, H)) /\ (∀ H, Z04 Tryz.prog O H 12 [c.av] = some (.int .i64 0, H)) /\ (∀ H, Z04 Tryz.prog O H 13 [c.av] = some (.bool true, H)) /\
   (∀ H, Z04 Tryz.prog O H 15 [c.av, .nslice] = some (.tuple [.agg (Z0T (S 0)), .int .i64 0], H)) /\
   (∀ k, k <= az.length -> ∀ H, Z04 Tryz.prog O H 15 [c.av, .rs (k - 0) 1 (((ksC az).drop (0 * 1)).take ((k - 0) * 1))] = some (.tuple [.agg (Z0T (S k)), .int .i64 0], H)) /\
   (∀ k, k <= az.length -> ∀ H, Z04 Tryz.prog O H 26 [.rs (S (k - 1)).th.evs.length 5 (Z14 (S (k - 1)).th.evs), .rs ((S (k - 1)).th.evs.length - 0) 5 (((Z14 (S k).th.evs).drop (0 * 5)).take (((S (k - 1)).th.evs.length - 0) * 5))] = some (.bool true, H)) /\
   (∀ k, k <= az.length -> ∀ H, Z04 Tryz.prog O H 24 [c.av, .rs (S k).th.evs.length 5 (Z14 (S k).th.evs)] = some (.bool true, H)) /\
   (∀ k, k <= az.length -> ∀ H, Z04 Tryz.prog O H 11 [.agg (Z0T (S k)), .agg (Z0T (S k))] = some (.bool true, H)) /\
   (∀ k, k <= az.length -> ∀ H, Z04 Tryz.prog O H 17 [c.av, .rs (S k).th.evs.length 5 (Z14 (S k).th.evs)] = some (.tuple [.agg (z5 ++ Z3H (S k).q ++ [.int .i64 (S k).fin]), .int .i64 0], H)) /\
   (∀ k, k <= az.length -> GoI c O (S k).th.evs) := by
 obtain ⟨hn, hs⟩ := Z4g hlt
 have he : Z1y c = 0 := Z15.2 hfl
 have hck : Z31 c = 0 := Z1Z hfl
 have hLt := Z3b (gl := runLives.gl) c hok 30
 have hC := Z2s (gl := runLives.gl) c hok hs
 have hF := Z9R (gl := runLives.gl) c hok hs
 rw [hlt] at hLt
 rw [hck] at hC
 rw [hfl] at hF
 have hfew : ∀ k, k <= az.length -> (S k).th.evs.length <= 30 := fun k h => by have := (hG k h).few; omega
 have hlens : ∀ k, (S k).th.evs.length <= 4000 /\ (S k).th.regs.length <= 16 := fun k => by rw [hS]; exact Z5M hok hs _
 have hinjA : ∀ i j : Qu × Int, Z3d i.1.kind = true -> Z3d j.1.kind = true -> [AV.agg (quC i.1), .int .i64 i.2] = [AV.agg (quC j.1), .int .i64 j.2] -> AV.tuple [.agg (Z0c (ans wrI i.1 i.2)), .int .i64 0] = .tuple [.agg (Z0c (ans wrI j.1 j.2)), .int .i64 0] := fun i j _ _ h => by
  obtain ⟨⟨k, lo, od, a, b⟩, v⟩ := i
  obtain ⟨⟨k', lo', od', a', b'⟩, v'⟩ := j
  simp only [quC, List.cons.injEq, AV.agg.injEq, AV.int.injEq, true_and, and_true] at h
  obtain ⟨⟨rfl, rfl, rfl, rfl, rfl⟩, rfl⟩ := h
  rfl
 have hRun : ∀ i : Option Nat, ValOK Tryz.prog runLives.gl 15 [c.av, match i with | none => .nslice | some k => rsI (az.take k)] (.tuple [.agg (Z0T (S (i.getD 0))), .int .i64 0]) := fun i => by
  have h := fun k => Z7i c hok hs (az.take k) (by rw [List.length_take]; omega)
  simp only [he, <- hS] at h
  cases i with
  | none => exact ZiJ (h 0)
  | some k => exact h k
 obtain ⟨O, hO, p0, p1, p2, p3, p4, p5, p6, p7, p8, p9, -⟩ := fams (P := Tryz.prog) (gl := runLives.gl) [
  one0 (f := 7) (A := []) (R := .bool true) True (by kernel_rfl) rfl (fun _ => Z8G),
  one0 (f := 8) (A := [c.av, .int .i64 30]) (R := .bool true) True (by kernel_rfl) rfl (fun _ => hLt),
  one0 (f := 12) (A := [c.av]) (R := .int .i64 0) True (by kernel_rfl) rfl (fun _ => hC),
  one0 (f := 13) (A := [c.av]) (R := .bool true) True (by kernel_rfl) rfl (fun _ => hF),
  { I := Option Nat, f := 15, G := fun _ => True, A := fun i => [c.av, match i with | none => .nslice | some k => rsI (az.take k)], R := fun i => .tuple [.agg (Z0T (S (i.getD 0))), .int .i64 0], body := (by kernel_rfl), inj := (fun i j _ _ h => by
     rcases i with _ | i <;> rcases j with _ | j <;> simp [rsI] at h
     · rfl
     · have := Z4H h.2
       simp only [Option.getD_some, hS, this]), ok := (fun i _ => ⟨by cases i <;> rfl, hRun i⟩) },
  { I := Nat, f := 26, G := fun k => k <= az.length, A := fun k => [rsE (S (k - 1)).th.evs, rsE ((S k).th.evs.take (S (k - 1)).th.evs.length)], R := fun _ => .bool true, body := (by kernel_rfl), inj := (fun _ _ _ _ _ => rfl), ok := (fun k hk => ⟨rfl, by
     have h := Z8Q (gl := runLives.gl) (S (k - 1)).th.evs ((S k).th.evs.take (S (k - 1)).th.evs.length) (by have := (hlens (k - 1)).1; omega) (by rw [List.length_take]; have := (hlens k).1; omega)
     rw [Z2h.2 (hG k hk).more.1.symm] at h; exact h⟩) },
  { I := Nat, f := 24, G := fun k => k <= az.length, A := fun k => [c.av, rsE (S k).th.evs], R := fun _ => .bool true, body := (by kernel_rfl), inj := (fun _ _ _ _ _ => rfl), ok := (fun k hk => ⟨rfl, by
     have h := Zih c hok hs (S k).th.evs (by have := hfew k hk; omega)
     rw [(hG k hk).fits] at h; exact h⟩) },
  { I := Nat, f := 11, G := fun k => k <= az.length, A := fun k => [.agg (Z0T (S k)), .agg (Z0T (S k))], R := fun _ => .bool true, body := (by kernel_rfl), inj := (fun _ _ _ _ _ => rfl), ok := (fun k hk => ⟨Z9i _ _, by
     have h := Z7g (gl := runLives.gl) (S k) (S k) (by have := hlens k; omega) (by have := hlens k; omega) (by have := hlens k; omega) (by have := hlens k; omega)
     rw [Z9j] at h; exact h⟩) },
  { I := Nat × Nat, f := 17, G := fun i => i.1 <= az.length, A := fun i => [c.av, rsE ((S i.1).th.evs.take i.2)], R := fun i => Z9A c ((S i.1).th.evs.take i.2), body := (by kernel_rfl), inj := (fun i j _ _ h => by
     simp only [rsE, List.cons.injEq, AV.rs.injEq, true_and, and_true] at h
     rw [Z9Y _ _ h.2]), ok := (fun i hi => ⟨rfl, ZhV c hok hs _ (by rw [List.length_take]; have := hfew i.1 hi; omega)⟩) },
  { I := Qu × Int, f := 19, G := fun i => Z3d i.1.kind = true, A := fun i => [.agg (quC i.1), .int .i64 i.2], R := fun i => .tuple [.agg (Z0c (ans wrI i.1 i.2)), .int .i64 0], body := (by kernel_rfl), inj := hinjA, ok := (fun i hi => ⟨rfl, by have h := Z92 (gl := runLives.gl) i.1 i.2; rw [show Z83 i.1 i.2 = ans wrI i.1 i.2 from if_pos hi, show Z82 i.1 = 0 from if_pos hi] at h; exact h⟩) }] rfl
 refine ⟨O, hO, p0 () trivial, p1 () trivial, p2 () trivial, p3 () trivial, p4 none trivial, fun k hk => ?_, fun k hk => ?_, p6, p7, fun k hk => ?_, fun k hk => ⟨fun i hi => ?_⟩⟩
 · rw [cut1 az k hk]; exact p4 (some k) trivial
 · rw [cut5 _ _ (hG k hk).more.2]; exact p5 k hk
 · have h := p8 (k, (S k).th.evs.length) hk
   simp only [List.take_length] at h
   intro H
   have h2 := h H
   rw [(hG k hk).next] at h2
   exact h2
 · have hst := (hG k hk).step i hi
   have h8 := p8 (k, i) hk
   have h9 := p9
   simp only at h8
   rw [cut5 _ i (by omega)]
   generalize (S k).th.evs[i] = e at *
   obtain ⟨a, b, c', d, e⟩ := e
   refine ⟨a, b, c', d, e, rfl, ?_⟩
   rcases hst with h | ⟨q, hq, h, h2⟩
   · left
     intro H
     have := h8 H
     rw [h] at this
     exact this
   · right
     obtain ⟨k1, l1, o1, x1, y1⟩ := q
     refine ⟨k1, l1, o1, x1, y1, quC_ne hq, fun H => ?_, fun H => ?_⟩
     · have := h8 H
       rw [h] at this
       exact this
     · have := h9 (⟨k1, l1, o1, x1, y1⟩, d) hq H
       simp only at h2 this
       rw [h2] at this
       exact this
end Go.Proofs.YteidjbahodbgdaaGreatDoor.lex
end

section
namespace Go.Proofs.YteidjbahodbgdaaGreatDoor.lex
open Go.Abs Go.RowKit Go.Flat
set_option maxRecDepth 100000
set_option maxHeartbeats 4000000
theorem Zlg : ∀ a b c d e f : Bool, (a = false \/ (a = true /\ b = true) \/ (a = true /\ b = false /\ c = true) \/ (a = true /\ b = false /\ c = false /\ d = true) \/ (a = true /\ b = false /\ c = false /\ d = false /\ e = true) \/ (a = true /\ b = false /\ c = false /\ d = false /\ e = false /\ f = false)) \/ (a = true /\ b = false /\ c = false /\ d = false /\ e = false /\ f = true) := by
 intro a b c d e f
 cases a <;> cases b <;> cases c <;> cases d <;> cases e <;> cases f <;> simp
end Go.Proofs.YteidjbahodbgdaaGreatDoor.lex
end

section
namespace Go.Proofs.YteidjbahodbgdaaGreatDoor.lex
open Go.Abs Go.RowKit Go.Flat
set_option maxRecDepth 100000
set_option maxHeartbeats 4000000
theorem igLaw (c : Cd) (az : List Int) (hok : okC c) : ValOK Tryz.prog runLives.gl 6 [c.av, rsI az] (.bool true) := by
 rcases Zlg (ltC c 30) false false (decide ((az.length : Int) > 30)) (Z31 c != 0) (Z0E c) with hneg | ⟨hlt, -, -, e3, e4, hfl⟩
 · refine ig_not c az hok ?_
   rcases hneg with h | ⟨_, h⟩ | ⟨_, _, h⟩ | ⟨h1, _, _, h2⟩ | ⟨h1, _, _, h2, h3⟩ | ⟨h1, _, _, h2, h3, h4⟩
   · exact .inl h
   · cases h
   · cases h
   · exact .inr (.inl ⟨h1, h2⟩)
   · exact .inr (.inr (.inl ⟨h1, h2, h3⟩))
   · exact .inr (.inr (.inr ⟨h1, h2, h3, h4⟩))
 have h30 : az.length <= 30 := by have := of_decide_eq_false e3; omega
 obtain ⟨S, hS⟩ : ∃ S : Nat -> Flat.Stand, ∀ k, S k = Z07 c (az.take k) := ⟨fun k => Z07 c (az.take k), fun _ => rfl⟩
 obtain ⟨hn, hs⟩ := Z4g hlt
 have hG : ∀ k, k <= az.length -> GoF c k (S (k - 1)) (S k) := fun k hk => by rw [hS, hS]; exact goes_facts hok hs hfl az k hk
 obtain ⟨O, hO, q0, q1, q2, q3, q4, q5, q6, q7, q8, q9, q10⟩ := ig_orc c az hok hlt h30 hfl S hS hG
 have hfew : ∀ k, k <= az.length -> (S k).th.evs.length <= 30 := fun k h => by have := (hG k h).few; omega
 have hmore := fun k hk => (hG k hk).more.2
 have hsame := fun k hk => (hG k hk).same
 have hquiet := fun k hk => (hG k hk).quiet
 have hasked := fun k hk => (hG k hk).asked
 clear hG hS hs hn hlt hfl e4 hok
 have hc0 := stdC_eq (S 0)
 obtain ⟨regs, l⟩ := c
 simp only [Cd.av, rsI] at *
 refine Z0a follows Z09 hO Tryz.func6 rfl ?_
 rw [hc0] at q4
 repeat' ((conv => whnf); first | (refine exI (q0 _) ?_) | (refine exI (q1 _) ?_) | (refine exI (q2 _) ?_) | (refine exI (q3 _) ?_) | (refine exI (q4 _) ?_) | (first | refine stp ?_ | with_reducible refine Z01 (fun h => ?_) (fun h => ?_)))
 conv => whnf
 refine ⟨Nat, (fun k => k <= az.length + 1), (fun k => [(1, .rs az.length 1 (ksC az)), (2, .ptr 0 0), (5, .ptr 1 0), (6, .int .i64 0), (7, .int .i64 (k : Nat))]),
  (fun k => [⟨true, 0, 0, .cells [.int .i64 regs, .rs l.length 6 (inC l)] 24⟩, ⟨true, 1, 0, .cells (Z0T (S (k - 1))) 37⟩]), (fun k => az.length + 1 - k), ⟨0, Nat.zero_le _, ?_⟩, ?_⟩
 · simp only [Nat.zero_sub, hc0]
   exact fgA [0, 1]
 clear q0 q1 q2 q3 q4 hc0
 intro k hk
 (try dsimp only at hk)
 (try dsimp only)
 by_cases hle : k <= az.length
 case' neg =>
  have e1 : decide ((k : Int) <= (az.length : Int)) = false := by simp; omega
  rw [stdC_eq (S (k - 1))]
  repeat' ((conv => whnf); first | (first | refine stp ?_ | with_reducible refine Z01 (fun h => ?_) (fun h => ?_)))
  all_goals rfl
 have e1 : decide ((k : Int) <= (az.length : Int)) = true := by simpa using hle
 have q5 := q5 k hle
 have q6 := q6 k hle
 have q7 := q7 k hle
 have q8 := q8 k hle
 have q9 := q9 k hle
 have q10 := (q10 k hle).nx
 have hfew := hfew k hle
 have hmore := hmore k hle
 have hsame := hsame k hle
 have hquiet := hquiet k hle
 have hasked := hasked k hle
 have e2 : decide (((S k).th.evs.length : Int) < ((S (k - 1)).th.evs.length : Int)) = false := by simp; omega
 have wa : IntKind.i64.wrap ((k : Int) + 1) = ((k + 1 : Nat) : Int) := Z2n (by omega)
 have hqz : (S k).fin ≠ 0 -> qu5 (S k).q = (0, 0, 0, 0, 0) := fun h => by rw [hquiet h]; rfl
 have haz : (S k).fin = 0 -> (((S k).asked : Int) != (k : Int)) = false := fun h => by rw [hasked h]; simp
 have hend : Z0T (S (k + 1 - 1)) = _ := stdC_eq (S k)
 rw [stdC_eq (S k)] at q5 q8
 simp only [z5, Z2k, List.cons_append, List.nil_append] at q9
 have hagN := Znk (0, 0, 0, 0, 0) (qu5 (S k).q) (0, 0, 0, 0, 0) (qu5 (S k).q) (S k).fin (S k).fin
 rw [Zcm, Zcm, beq_self_eq_true] at hagN
 simp only [c11, Bool.and_true] at hagN
 have hag0 := Zn4 0 0 0 0 0 0 0 0 0 0
 rw [Zcm] at hag0
 have hG : ∀ (n1 : Nat) (c1 : List AV) (f1 a1 a2 a3 a4 a5 p1 : Int) (n2 : Nat) (c2 : List AV) (k1 : Int), Z0T (S (k - 1)) = [.rs n1 5 c1, .int .i64 f1, .int .i64 a1, .int .i64 a2, .int .i64 a3, .int .i64 a4, .int .i64 a5, .int .i64 p1, .rs n2 1 c2, .int .i64 k1] -> True := fun _ _ _ _ _ _ _ _ _ _ _ _ _ => trivial
 clear hG
 have hw : ∃ (f1 a1 a2 a3 a4 a5 p1 : Int) (n2 : Nat) (c2 : List AV) (k1 : Int), Z0T (S (k - 1)) = [.rs (S (k - 1)).th.evs.length 5 (Z14 (S (k - 1)).th.evs), .int .i64 f1, .int .i64 a1, .int .i64 a2, .int .i64 a3, .int .i64 a4, .int .i64 a5, .int .i64 p1, .rs n2 1 c2, .int .i64 k1] /\
   ((f1 != 0) = false \/ (f1 != 0) = true /\ ∀ H, Z04 Tryz.prog O H 11 [.agg [.rs (S (k - 1)).th.evs.length 5 (Z14 (S (k - 1)).th.evs), .int .i64 f1, .int .i64 a1, .int .i64 a2, .int .i64 a3, .int .i64 a4, .int .i64 a5, .int .i64 p1, .rs n2 1 c2, .int .i64 k1], .agg [.rs (S k).th.evs.length 5 (Z14 (S k).th.evs), .int .i64 (S k).fin, .int .i64 (qu5 (S k).q).1, .int .i64 (qu5 (S k).q).2.1, .int .i64 (qu5 (S k).q).2.2.1, .int .i64 (qu5 (S k).q).2.2.2.1, .int .i64 (qu5 (S k).q).2.2.2.2, .int .i64 ((S k).th.at_ : Nat), .rs (S k).th.regs.length 1 (ksC (S k).th.regs), .int .i64 ((S k).asked : Nat)]] = some (.bool true, H)) := by
  refine ⟨_, _, _, _, _, _, _, _, _, _, stdC_eq (S (k - 1)), ?_⟩
  by_cases hf : (S (k - 1)).fin = 0
  · exact .inl (by simp [hf])
  · exact .inr ⟨by simpa using hf, by rw [hsame hf]; exact q8⟩
 obtain ⟨f1, a1, a2, a3, a4, a5, p1, n2, c2, k1, hcw, hst⟩ := hw
 rw [hcw]
 clear hcw hsame hquiet hasked q8
 generalize qu5 (S k).q = Q at *
 generalize (S k).th.evs = evs at *
 generalize (S k).th.regs = rs at *
 generalize (S k).th.at_ = pc at *
 generalize (S k).asked = asked at *
 generalize (S k).fin = fin at *
 generalize (S (k - 1)).th.evs = wev at *
 obtain ⟨qk, ql, qo, qa, qb⟩ := Q
 simp only at q5 q9 hst hagN hend hqz
 have hfs : (fin == 0) = true /\ (fin != 0) = false /\ ((asked : Int) != (k : Int)) = false \/ (fin == 0) = false /\ (fin != 0) = true /\ qk = 0 /\ ql = 0 /\ qo = 0 /\ qa = 0 /\ qb = 0 := by
  by_cases hf : fin = 0
  · exact .inl ⟨by simp [hf], by simp [hf], haz hf⟩
  · have := hqz hf
    simp only [Prod.mk.injEq] at this
    exact .inr ⟨by simpa using hf, by simpa using hf, this⟩
 clear hqz haz
 rcases hst with g1 | ⟨g1, q8⟩ <;> rcases hfs with ⟨g2, g3, g4⟩ | ⟨g2, g3, rfl, rfl, rfl, rfl, rfl⟩
 all_goals repeat' ((conv => whnf); first | (refine exI (q5 _) ?_) | (refine exI (q6 _) ?_) | (refine exI (q7 _) ?_) | (refine exI (q8 _) ?_) | (refine exI (q9 _) ?_) | (refine exI hagN ?_) | (refine exI hag0 ?_) | (with_reducible refine ZbM k rfl ?_ ?_; (focus (omega))) | (with_reducible refine ZbM wev.length rfl ?_ ?_; (focus (omega))) | (first | refine stp ?_ | with_reducible refine Z01 (fun h => ?_) (fun h => ?_)))
 all_goals (conv => whnf)
 all_goals
  refine ⟨Nat, (fun i => i <= evs.length), (fun i => [(1, .rs az.length 1 (ksC az)), (2, .ptr 0 0), (5, .ptr 1 0), (6, .int .i64 0), (7, .int .i64 (k : Nat)), (8, .ptr 2 0), (11, .int .i64 (i : Nat))]),
   (fun i => [⟨true, 0, 0, .cells [.int .i64 regs, .rs l.length 6 (inC l)] 24⟩, ⟨true, 1, 0, .cells [.rs wev.length 5 (Z14 wev), .int .i64 f1, .int .i64 a1, .int .i64 a2, .int .i64 a3, .int .i64 a4, .int .i64 a5, .int .i64 p1, .rs n2 1 c2, .int .i64 k1] 37⟩, ⟨true, 2, 0, .cells (Z0T (S (k + 1 - 1))) 37⟩]), (fun i => evs.length - i), ⟨0, Nat.zero_le _, ?_⟩, ?_⟩
  · rw [hend]
    exact fgA [0, 1, 2]
 all_goals
  clear q5 q6 q7 q9 hagN g1 g2 g3 e1 e2
  intro i hi
  (try dsimp only at hi)
  (try dsimp only)
  rw [hend]
  by_cases hlt : i < evs.length
  · have e4 : decide ((i : Int) < (evs.length : Int)) = true := by simpa using hlt
    obtain ⟨a, b, c', d, e, hev, hcase⟩ := q10 i hlt
    have hx5 := ev5 evs i hlt
    have hx3 := ev3 evs i hlt
    have hrd : evs[i].rd = d := by
     have h := hev
     simp only [Z0c, List.cons.injEq, AV.int.injEq, true_and, and_true] at h
     exact h.2.2.2.1
    rw [hev] at hx5
    rw [hrd] at hx3
    have hagE := Zmh a b c' d e a b c' d e
    rw [Zcm] at hagE
    clear q10 hev hrd
    rcases hcase with hn | ⟨k2, l2, o2, x2, y2, hne, hn, han⟩
    case' inr => have hagA := Zn4 k2 l2 o2 x2 y2 0 0 0 0 0; rw [hne] at hagA; clear hag0 hne
    all_goals repeat' ((conv => whnf); first | (refine exI (hn _) ?_) | (refine exI (han _) ?_) | (refine exI hx5 ?_) | (refine exI hx3 ?_) | (refine exI hagE ?_) | (refine exI hag0 ?_) | (refine exI hagA ?_) | (with_reducible refine ixJ i rfl ?_ ?_; (focus (omega))) | (with_reducible refine ZbM i rfl ?_ ?_; (focus (omega))) | (first | refine stp ?_ | with_reducible refine Z01 (fun h => ?_) (fun h => ?_)))
    all_goals (conv => whnf)
    all_goals refine ⟨i + 1, hlt, by show evs.length - (i + 1) < evs.length - i; omega, ?_⟩
    all_goals exact fgA [0, 1, 2]
  · have e4 : decide ((i : Int) < (evs.length : Int)) = false := by simpa using hlt
    clear q10
    repeat' ((conv => whnf); first | (with_reducible refine exW wa ?_) | (first | refine stp ?_ | with_reducible refine Z01 (fun h => ?_) (fun h => ?_)))
    all_goals (conv => whnf)
    all_goals refine ⟨k + 1, by omega, by show az.length + 1 - (k + 1) < az.length + 1 - k; omega, ?_⟩
    all_goals rw [hend]
    all_goals exact fgA [0, 1]
end Go.Proofs.YteidjbahodbgdaaGreatDoor.lex
namespace Go.Proofs.YteidjbahodbgdaaGreatDoor.igLaw
open Go.Abs Go.RowKit Go.Flat lex
def Qs : List (AV -> Prop) := [fun u => ∃ c : Cd, u = c.av /\ okC c, fun u => ∃ l : List Int, u = rsI l /\ l.length <= 9223372036854775807]
theorem opens : Z4q Tryz.prog Tryz.f6.params.toList Qs := by
 rw [Tryz.params6]
 exact ⟨ZfR, Zc7, trivial⟩
theorem law (us : List AV) (h : ZiG Qs us) : ValOK Tryz.prog runLives.gl 6 us (.bool true) := by
 obtain ⟨_, _, rfl, ⟨c, rfl, hc⟩, h1⟩ := Z1w h
 obtain ⟨_, _, rfl, ⟨vs, rfl, hv⟩, h2⟩ := Z1w h1
 cases Za6 h2
 exact lex.igLaw c vs hc
theorem solid : Solid Tryz.prog := by unfold Solid; kernel_rfl
end Go.Proofs.YteidjbahodbgdaaGreatDoor.igLaw
end

/-
  Texts of this proof, one behind the other (part 5).
-/
import Derived.Test.YteidjbahodbgdaaGreatDoorPg4
set_option linter.unusedVariables false
set_option linter.unusedSimpArgs false

section
namespace Go.Flat
inductive Rch (nx : Nat -> List Nat) : Nat -> Prop
 | zero : Rch nx 0
 | next {v w : Nat} (h : Rch nx v) (hw : w ∈ nx v) : Rch nx w
def Acy (nx : Nat -> List Nat) (b : Nat) : Prop := ∃ rank : Nat -> Nat, (∀ v, Rch nx v -> rank v < b) /\ ∀ v w, Rch nx v -> w ∈ nx v -> rank w < rank v
def upd {α : Type} (f : Nat -> α) (v : Nat) (x : α) : Nat -> α := fun u => if u = v then x else f u
theorem Z0b {α : Type} (f : Nat -> α) (v : Nat) (x : α) : upd f v x v = x := if_pos rfl
theorem Z08 {α : Type} {f : Nat -> α} {v u : Nat} {x : α} (h : u ≠ v) : upd f v x u = f u := if_neg h
structure Ds where
 st : Nat -> Nat
 gone : Nat -> Nat
 path : List Nat
 l : List Nat
def Rest (nx : Nat -> List Nat) (st : Nat -> Nat) (v m : Nat) : Prop := ∀ j, j < m -> ∀ w, (nx v)[j]? = some w -> st w = 2
def Up (nx : Nat -> List Nat) (st gone : Nat -> Nat) : Nat -> List Nat -> Prop
 | v, [] => v = 0
 | v, u :: p => 0 < gone u /\ (nx u)[gone u - 1]? = some v /\ Rest nx st u (gone u - 1) /\ Up nx st gone u p
structure Inv (n : Nat) (nx : Nat -> List Nat) (s : Ds) : Prop where
 opn : ∀ v, s.st v = 1 ↔ v ∈ s.path
 cls : ∀ v, s.st v = 2 ↔ v ∈ s.l
 nd : s.path.Nodup
 ndl : s.l.Nodup
 lt : ∀ v, s.st v ≠ 0 -> v < n
 new : ∀ v, s.st v = 0 -> s.gone v = 0
 le : ∀ v, s.gone v <= (nx v).length
 top : ∀ v p, s.path = v :: p -> Rest nx s.st v (s.gone v) /\ Up nx s.st s.gone v p
 zero : s.path = [] -> s.st 0 = 2
 fall : ∀ a v b, s.l = a ++ v :: b -> ∀ w ∈ nx v, w ∈ b
theorem Rest.mono {nx : Nat -> List Nat} {st st' : Nat -> Nat} {v m : Nat} (h : Rest nx st v m) (hs : ∀ w, st w = 2 -> st' w = 2) : Rest nx st' v m := fun j hj w hw => hs w (h j hj w hw)
theorem Up.mono {nx : Nat -> List Nat} {st st' gone gone' : Nat -> Nat} (hs : ∀ w, st w = 2 -> st' w = 2) : ∀ {v : Nat} {p : List Nat}, (∀ u ∈ p, gone' u = gone u) -> Up nx st gone v p -> Up nx st' gone' v p
 | v, [], hg, h => h
 | v, u :: p, hg, h => by
  obtain ⟨h1, h2, h3, h4⟩ := h
  have e := hg u (by simp)
  simp only [Up, e]
  exact ⟨h1, h2, h3.mono hs, h4.mono hs fun x hx => hg x (by simp [hx])⟩
def start : Ds := ⟨upd (fun _ => 0) 0 1, fun _ => 0, [0], []⟩
theorem Zfo {n : Nat} (nx : Nat -> List Nat) (h : 0 < n) : Inv n nx start where
 opn := fun v => by
  show upd (fun _ => 0) 0 1 v = 1 ↔ v ∈ [0]
  by_cases hv : v = 0
  · subst hv; simp [Z0b]
  · rw [Z08 hv]; simp [hv]
 cls := fun v => by
  show upd (fun _ => 0) 0 1 v = 2 ↔ v ∈ []
  by_cases hv : v = 0
  · subst hv; simp [Z0b]
  · rw [Z08 hv]; simp
 nd := by simp [start]
 ndl := by simp [start]
 lt := fun v hv => by
  by_cases h0 : v = 0
  · omega
  · exact absurd (show upd (fun _ => 0) 0 1 v = 0 from Z08 h0) hv
 new := fun v _ => rfl
 le := fun v => Nat.zero_le _
 top := fun v p e => by
  simp only [start, List.cons.injEq] at e
  obtain ⟨rfl, rfl⟩ := e
  exact ⟨fun j hj => absurd hj (Nat.not_lt_zero _), rfl⟩
 zero := fun e => by simp [start] at e
 fall := fun a v b e => by simp [start] at e
def shut (s : Ds) (v : Nat) (p : List Nat) : Ds := ⟨upd s.st v 2, s.gone, p, v :: s.l⟩
theorem ZhH {n : Nat} {nx : Nat -> List Nat} {s : Ds} {v : Nat} {p : List Nat} (h : Inv n nx s) (hp : s.path = v :: p) (hg : s.gone v = (nx v).length) : Inv n nx (shut s v p) := by
 have hv1 : s.st v = 1 := (h.opn v).2 (by rw [hp]; simp)
 have hnd := h.nd
 rw [hp] at hnd
 have hnd := List.nodup_cons.1 hnd
 have hvl : v ∉ s.l := fun hm => by have := (h.cls v).2 hm; omega
 have h2 : ∀ w, s.st w = 2 -> upd s.st v 2 w = 2 := fun w hw => by
  by_cases e : w = v
  · subst e; exact Z0b _ _ _
  · rw [Z08 e]; exact hw
 obtain ⟨t1, t2⟩ := h.top v p hp
 have hall : ∀ w ∈ nx v, w ∈ s.l := fun w hw => by
  obtain ⟨j, hj, rfl⟩ := List.getElem_of_mem hw
  exact (h.cls _).1 (t1 j (by omega) _ (List.getElem?_eq_getElem hj))
 refine ⟨fun u => ?_, fun u => ?_, hnd.2, List.nodup_cons.2 ⟨hvl, h.ndl⟩, fun u hu => ?_, fun u hu => ?_, h.le, fun u q e => ?_, fun e => ?_, fun a u b e w hw => ?_⟩
 · show upd s.st v 2 u = 1 ↔ u ∈ p
   by_cases e : u = v
   · subst e; rw [Z0b]; simp [hnd.1]
   · rw [Z08 e, h.opn, hp]; simp [e]
 · show upd s.st v 2 u = 2 ↔ u ∈ v :: s.l
   by_cases e : u = v
   · subst e; rw [Z0b]; simp
   · rw [Z08 e, h.cls]; simp [e]
 · by_cases e : u = v
   · subst e; exact h.lt u (by omega)
   · exact h.lt u (by have : upd s.st v 2 u = s.st u := Z08 e; rw [<- this]; exact hu)
 · by_cases e : u = v
   · subst e
     have : upd s.st u 2 u = 2 := Z0b _ _ _
     have hu : upd s.st u 2 u = 0 := hu
     omega
   · exact h.new u (by have : upd s.st v 2 u = s.st u := Z08 e; rw [<- this]; exact hu)
 · have e : p = u :: q := e
   subst e
   obtain ⟨g1, g2, g3, g4⟩ := t2
   refine ⟨fun j hj w hw => ?_, g4.mono h2 fun _ _ => rfl⟩
   have hj : j < s.gone u := hj
   by_cases e : j = s.gone u - 1
   · subst e
     rw [g2] at hw
     cases hw
     exact Z0b _ _ _
   · exact h2 w (g3 j (by omega) w hw)
 · have e : p = [] := e
   subst e
   have t2 : v = 0 := t2
   subst t2
   show upd s.st 0 2 0 = 2
   exact Z0b _ _ _
 · have e : v :: s.l = a ++ u :: b := e
   cases a with
   | nil =>
    simp only [List.nil_append, List.cons.injEq] at e
    obtain ⟨rfl, rfl⟩ := e
    exact hall w hw
   | cons x a =>
    simp only [List.cons_append, List.cons.injEq] at e
    exact h.fall a u b e.2 w hw
def past (s : Ds) (v : Nat) : Ds := ⟨s.st, upd s.gone v (s.gone v + 1), s.path, s.l⟩
theorem ZhN {n : Nat} {nx : Nat -> List Nat} {s : Ds} {v w : Nat} {p : List Nat} (h : Inv n nx s) (hp : s.path = v :: p) (hw : (nx v)[s.gone v]? = some w) (h2 : s.st w = 2) : Inv n nx (past s v) := by
 have hnd := h.nd
 rw [hp] at hnd
 have hnd := List.nodup_cons.1 hnd
 have hv1 : s.st v = 1 := (h.opn v).2 (by rw [hp]; simp)
 obtain ⟨t1, t2⟩ := h.top v p hp
 have hlt := (List.getElem?_eq_some_iff.1 hw).1
 refine ⟨h.opn, h.cls, h.nd, h.ndl, h.lt, fun u hu => ?_, fun u => ?_, fun u q e => ?_, h.zero, h.fall⟩
 · have e : u ≠ v := fun e => by subst e; have : s.st u = 0 := hu; omega
   show upd s.gone v _ u = 0
   rw [Z08 e]; exact h.new u hu
 · show upd s.gone v _ u <= _
   by_cases e : u = v
   · subst e; rw [Z0b]; omega
   · rw [Z08 e]; exact h.le u
 · have e : s.path = u :: q := e
   rw [hp] at e
   simp only [List.cons.injEq] at e
   obtain ⟨rfl, rfl⟩ := e
   refine ⟨fun j hj x hx => ?_, t2.mono (fun _ h => h) fun x hx => Z08 fun e => hnd.1 (e ▸ hx)⟩
   have hj : j < upd s.gone v (s.gone v + 1) v := hj
   rw [Z0b] at hj
   by_cases e : j = s.gone v
   · subst e; rw [hw] at hx; cases hx; exact h2
   · exact t1 j (by omega) x hx
def deep (s : Ds) (v w : Nat) : Ds := ⟨upd s.st w 1, upd s.gone v (s.gone v + 1), w :: s.path, s.l⟩
theorem Zir {n : Nat} {nx : Nat -> List Nat} {s : Ds} {v w : Nat} {p : List Nat} (h : Inv n nx s) (hp : s.path = v :: p) (hw : (nx v)[s.gone v]? = some w) (h0 : s.st w = 0) (hwn : w < n) : Inv n nx (deep s v w) := by
 have hnd := h.nd
 rw [hp] at hnd
 have hnd := List.nodup_cons.1 hnd
 have hv1 : s.st v = 1 := (h.opn v).2 (by rw [hp]; simp)
 have hwv : w ≠ v := fun e => by subst e; omega
 have hwp : w ∉ s.path := fun hm => by have := (h.opn w).2 hm; omega
 obtain ⟨t1, t2⟩ := h.top v p hp
 have hlt := (List.getElem?_eq_some_iff.1 hw).1
 have h2 : ∀ x, s.st x = 2 -> upd s.st w 1 x = 2 := fun x hx => by
  rw [Z08 (fun e => by subst e; omega)]; exact hx
 refine ⟨fun u => ?_, fun u => ?_, List.nodup_cons.2 ⟨hwp, h.nd⟩, h.ndl, fun u hu => ?_, fun u hu => ?_, fun u => ?_, fun u q e => ?_, fun e => absurd (show w :: s.path = [] from e) (by simp), h.fall⟩
 · show upd s.st w 1 u = 1 ↔ u ∈ w :: s.path
   by_cases e : u = w
   · subst e; rw [Z0b]; simp
   · rw [Z08 e, h.opn]; simp [e]
 · show upd s.st w 1 u = 2 ↔ u ∈ s.l
   by_cases e : u = w
   · subst e
     rw [Z0b]
     refine ⟨fun h => by omega, fun hm => ?_⟩
     have := (h.cls u).2 hm; omega
   · rw [Z08 e, h.cls]
 · by_cases e : u = w
   · subst e; exact hwn
   · exact h.lt u (by have : upd s.st w 1 u = s.st u := Z08 e; rw [<- this]; exact hu)
 · have hu : upd s.st w 1 u = 0 := hu
   have e : u ≠ w := fun e => by subst e; rw [Z0b] at hu; omega
   rw [Z08 e] at hu
   have e2 : u ≠ v := fun e => by subst e; omega
   show upd s.gone v _ u = 0
   rw [Z08 e2]; exact h.new u hu
 · show upd s.gone v _ u <= _
   by_cases e : u = v
   · subst e; rw [Z0b]; omega
   · rw [Z08 e]; exact h.le u
 · have e : w :: s.path = u :: q := e
   simp only [List.cons.injEq] at e
   obtain ⟨rfl, rfl⟩ := e
   refine ⟨fun j hj => ?_, ?_⟩
   · have hj : j < upd s.gone v (s.gone v + 1) w := hj
     rw [Z08 hwv, h.new w h0] at hj
     exact absurd hj (Nat.not_lt_zero _)
   · show Up nx (upd s.st w 1) (upd s.gone v (s.gone v + 1)) w s.path
     rw [hp]
     refine ⟨by rw [Z0b]; omega, by rw [Z0b]; exact hw, ?_, t2.mono h2 fun x hx => Z08 fun e => hnd.1 (e ▸ hx)⟩
     rw [Z0b]
     exact t1.mono h2
theorem Z5h {α : Type} : ∀ {a b : List α}, a.Nodup -> (∀ x ∈ a, x ∈ b) -> a.length <= b.length
 | [], b, _, _ => Nat.zero_le _
 | x :: a, b, hn, h => by
  obtain ⟨s, t, rfl⟩ := List.append_of_mem (h x (by simp))
  have hn := List.nodup_cons.1 hn
  have := Z5h (a := a) (b := s ++ t) hn.2 fun y hy => by
   have := h y (by simp [hy])
   simp only [List.mem_append, List.mem_cons] at this ⊢
   rcases this with h1 | rfl | h1
   · exact .inl h1
   · exact absurd hy hn.1
   · exact .inr h1
  simp only [List.length_append, List.length_cons] at this ⊢
  omega
def rk (v : Nat) : List Nat -> Nat
 | [] => 0
 | x :: l => if x = v then l.length else rk v l
theorem ZjN {v : Nat} : ∀ {l : List Nat}, v ∈ l -> rk v l < l.length
 | x :: l, h => by
  unfold rk
  split
  · simp
  · rename_i e
    rcases List.mem_cons.1 h with h | h
    · exact absurd h.symm e
    · have := ZjN h; simp only [List.length_cons]; omega
theorem ZiO {w v : Nat} : ∀ {a b : List Nat}, (a ++ v :: b).Nodup -> w ∈ b -> rk w (a ++ v :: b) < b.length /\ rk v (a ++ v :: b) = b.length
 | [], b, hn, hw => by
  have hn := List.nodup_cons.1 hn
  simp only [List.nil_append, rk, if_true]
  refine ⟨?_, trivial⟩
  rw [if_neg (fun e : v = w => hn.1 (by rw [e]; exact hw))]
  exact ZjN hw
 | x :: a, b, hn, hw => by
  have hn := List.nodup_cons.1 hn
  have ih := ZiO hn.2 hw
  simp only [List.cons_append, rk]
  rw [if_neg (fun e => hn.1 (by subst e; simp [hw])), if_neg (fun e => hn.1 (by subst e; simp))]
  exact ih
theorem Inv.acy {n : Nat} {nx : Nat -> List Nat} {s : Ds} (h : Inv n nx s) (hp : s.path = []) : Acy nx n := by
 have hr : ∀ v, Rch nx v -> v ∈ s.l := fun v hv => by
  induction hv with
  | zero => exact (h.cls 0).1 (h.zero hp)
  | next hv hw ih =>
   obtain ⟨a, b, e⟩ := List.append_of_mem ih
   rw [e]
   have := h.fall a _ b e _ hw
   simp [this]
 have hl : s.l.length <= n := by
  have := Z5h (b := List.range n) h.ndl fun x hx => List.mem_range.2 (h.lt x (by have := (h.cls x).2 hx; omega))
  simpa using this
 refine ⟨fun v => rk v s.l, fun v hv => Nat.lt_of_lt_of_le (ZjN (hr v hv)) hl, fun v w hv hw => ?_⟩
 obtain ⟨a, b, e⟩ := List.append_of_mem (hr v hv)
 have hb := h.fall a v b e w hw
 have hn := h.ndl
 rw [e] at hn
 have := ZiO hn hb
 show rk w s.l < rk v s.l
 rw [e, this.2]; exact this.1
theorem Up.rch {nx : Nat -> List Nat} {st gone : Nat -> Nat} : ∀ {v : Nat} {p : List Nat}, Up nx st gone v p -> ∀ x ∈ v :: p, Rch nx x
 | v, [], h, x, hx => by
  have h : v = 0 := h
  subst h
  simp only [List.mem_cons, List.not_mem_nil, or_false] at hx
  subst hx; exact .zero
 | v, u :: p, h, x, hx => by
  obtain ⟨_, h2, _, h4⟩ := h
  rcases List.mem_cons.1 hx with rfl | hx
  · exact .next (h4.rch u (by simp)) (List.mem_of_getElem? h2)
  · exact h4.rch x hx
theorem Up.rank {nx : Nat -> List Nat} {st gone rank : Nat -> Nat} (hr : ∀ v w, Rch nx v -> w ∈ nx v -> rank w < rank v) : ∀ {v : Nat} {p : List Nat}, Up nx st gone v p -> ∀ x ∈ v :: p, rank v <= rank x
 | v, [], h, x, hx => by simp only [List.mem_cons, List.not_mem_nil, or_false] at hx; subst hx; exact Nat.le_refl _
 | v, u :: p, h, x, hx => by
  obtain ⟨_, h2, _, h4⟩ := h
  rcases List.mem_cons.1 hx with rfl | hx
  · exact Nat.le_refl _
  · have h5 := hr u v (h4.rch u (by simp)) (List.mem_of_getElem? h2)
    have h6 := h4.rank hr x hx
    omega
theorem Inv.back {n : Nat} {nx : Nat -> List Nat} {s : Ds} {v w : Nat} {p : List Nat} (h : Inv n nx s) (hp : s.path = v :: p) (hw : (nx v)[s.gone v]? = some w) (h1 : s.st w = 1) (b : Nat) : ¬ Acy nx b := by
 rintro ⟨rank, _, hr⟩
 obtain ⟨_, t2⟩ := h.top v p hp
 have hm := (h.opn w).1 h1
 rw [hp] at hm
 have h2 := hr v w (t2.rch v (by simp)) (List.mem_of_getElem? hw)
 have h3 := t2.rank hr w hm
 omega
def left (n : Nat) (nx : Nat -> List Nat) (s : Ds) : Nat := ((List.range n).map fun v => ((nx v).length - s.gone v) + (if s.st v = 2 then 0 else 1)).sum
theorem ZcR {f g : Nat -> Nat} : ∀ {l : List Nat} {v : Nat}, v ∈ l -> (∀ x ∈ l, g x <= f x) -> g v < f v -> (l.map g).sum < (l.map f).sum
 | x :: l, v, hv, hle, hlt => by
  simp only [List.map_cons, List.sum_cons]
  have hx := hle x (by simp)
  have hls : (l.map g).sum <= (l.map f).sum := by
   clear hv hlt hx
   induction l with
   | nil => simp
   | cons y l ih =>
    simp only [List.map_cons, List.sum_cons]
    have := hle y (by simp)
    have := ih fun z hz => hle z (by
     rcases List.mem_cons.1 hz with rfl | hz
     · simp
     · simp [hz])
    omega
  by_cases e : v = x
  · subst e; omega
  · rcases List.mem_cons.1 hv with h | h
    · exact absurd h e
    · have := ZcR h (fun y hy => hle y (by simp [hy])) hlt
      omega
theorem Zgb {n : Nat} {nx : Nat -> List Nat} {s : Ds} {v : Nat} {p : List Nat} (h : Inv n nx s) (hp : s.path = v :: p) : left n nx (shut s v p) < left n nx s := by
 have hv1 : s.st v = 1 := (h.opn v).2 (by rw [hp]; simp)
 refine ZcR (v := v) (List.mem_range.2 (h.lt v (by omega))) (fun x _ => ?_) ?_
 · show ((nx x).length - s.gone x) + (if upd s.st v 2 x = 2 then 0 else 1) <= _
   by_cases e : x = v
   · subst e; rw [Z0b]; simp
   · rw [Z08 e]; exact Nat.le_refl _
 · show ((nx v).length - s.gone v) + (if upd s.st v 2 v = 2 then 0 else 1) < _
   rw [Z0b, hv1]; simp
theorem Zgc {n : Nat} {nx : Nat -> List Nat} {s : Ds} {v w : Nat} {p : List Nat} (h : Inv n nx s) (hp : s.path = v :: p) (hw : (nx v)[s.gone v]? = some w) : left n nx (past s v) < left n nx s := by
 have hv1 : s.st v = 1 := (h.opn v).2 (by rw [hp]; simp)
 have hlt := (List.getElem?_eq_some_iff.1 hw).1
 refine ZcR (v := v) (List.mem_range.2 (h.lt v (by omega))) (fun x _ => ?_) ?_
 · show ((nx x).length - upd s.gone v (s.gone v + 1) x) + _ <= _
   by_cases e : x = v
   · subst e; rw [Z0b]; show _ + (if s.st x = 2 then 0 else 1) <= _; omega
   · rw [Z08 e]; exact Nat.le_refl _
 · show ((nx v).length - upd s.gone v (s.gone v + 1) v) + (if s.st v = 2 then 0 else 1) < _
   rw [Z0b]; omega
theorem Zgd {n : Nat} {nx : Nat -> List Nat} {s : Ds} {v w : Nat} {p : List Nat} (h : Inv n nx s) (hp : s.path = v :: p) (hw : (nx v)[s.gone v]? = some w) (h0 : s.st w = 0) : left n nx (deep s v w) < left n nx s := by
 have hv1 : s.st v = 1 := (h.opn v).2 (by rw [hp]; simp)
 have hlt := (List.getElem?_eq_some_iff.1 hw).1
 have hwv : w ≠ v := fun e => by subst e; omega
 have key : ∀ x, (if upd s.st w 1 x = 2 then 0 else 1) = (if s.st x = 2 then 0 else 1) := fun x => by
  by_cases e : x = w
  · subst e; rw [Z0b, h0]; simp
  · rw [Z08 e]
 refine ZcR (v := v) (List.mem_range.2 (h.lt v (by omega))) (fun x _ => ?_) ?_
 · show ((nx x).length - upd s.gone v (s.gone v + 1) x) + (if upd s.st w 1 x = 2 then 0 else 1) <= _
   rw [key]
   by_cases e : x = v
   · subst e; rw [Z0b]; omega
   · rw [Z08 e]; exact Nat.le_refl _
 · show ((nx v).length - upd s.gone v (s.gone v + 1) v) + (if upd s.st w 1 v = 2 then 0 else 1) < _
   rw [key, Z0b]; omega
end Go.Flat
end

section
namespace Go.Flat
structure In (α : Type) where
 kind : Int
 reg : Int
 loc : Int
 order : Int
 to : Int
 ex : List α
structure Ev where
 kind : Int
 loc : Int
 order : Int
 rd : Int
 wr : Int
structure Qu where
 kind : Int
 loc : Int
 order : Int
 a : Int
 b : Int
structure Th where
 at_ : Nat
 regs : List Int
 evs : List Ev
inductive Stp where
 | on (s : Th)
 | ends (e : Int)
 | asks
variable {α : Type} (ev : α -> List Int -> Int) (wr : Int -> Int)
def val (i : In α) (regs : List Int) (k : Nat) : Int := match i.ex[k]? with | some e => ev e regs | none => 0
def stp (i : In α) (s : Th) : Stp :=
 let v := val ev i s.regs 0
 let nxt : Th := ⟨s.at_ + 1, s.regs, s.evs⟩
 if i.kind = 1 then .on ⟨s.at_ + 1, s.regs.set i.reg.toNat v, s.evs⟩
 else if i.kind = 3 then .on ⟨s.at_ + 1, s.regs, s.evs ++ [⟨2, i.loc, i.order, 0, v⟩]⟩
 else if i.kind = 7 then .on ⟨s.at_ + 1, s.regs, s.evs ++ [⟨4, 0, i.order, 0, 0⟩]⟩
 else if i.kind = 8 then (if v = 0 then .ends 2 else .on nxt)
 else if i.kind = 9 then (if v = 0 then .ends 3 else .on nxt)
 else if i.kind = 10 then .on ⟨i.to.toNat, s.regs, s.evs⟩
 else if i.kind = 11 then (if v = 0 then .on ⟨i.to.toNat, s.regs, s.evs⟩ else .on nxt)
 else if i.kind = 12 then .ends 4
 else if i.kind = 13 then .ends 1
 else .asks
def nxI (i : In α) (at_ : Nat) : List Nat :=
 if i.kind = 10 then [i.to.toNat] else if i.kind = 11 then [at_ + 1, i.to.toNat] else if i.kind = 12 \/ i.kind = 13 then [] else [at_ + 1]
theorem Z6l {i : In α} {s t : Th} (h : stp ev i s = .on t) : t.at_ ∈ nxI i s.at_ := by
 unfold stp at h
 unfold nxI
 simp only at h
 split at h
 · rename_i e; cases h; simp [e]
 split at h
 · rename_i e; cases h; simp [e]
 split at h
 · rename_i e; cases h; simp [e]
 split at h
 · rename_i e; split at h <;> cases h; simp [e]
 split at h
 · rename_i e; split at h <;> cases h; simp [e]
 split at h
 · rename_i e; cases h; simp [e]
 split at h
 · rename_i e; split at h <;> cases h <;> simp [e]
 split at h
 · cases h
 split at h
 · cases h
 · cases h
def Z3d (k : Int) : Bool := k == 2 || (k == 4 || (k == 5 || k == 6))
def qu (i : In α) (regs : List Int) : Qu := ⟨i.kind, i.loc, i.order, val ev i regs 0, val ev i regs 1⟩
def ans (q : Qu) (v : Int) : Ev :=
 if q.kind = 2 then ⟨1, q.loc, q.order, v, 0⟩
 else if q.kind = 4 then (if v = q.a then ⟨3, q.loc, q.order, v, q.b⟩ else ⟨1, q.loc, q.order, v, 0⟩)
 else if q.kind = 5 then ⟨3, q.loc, q.order, v, wr (v + q.a)⟩
 else ⟨3, q.loc, q.order, v, q.a⟩
def Z1k (i : In α) (s : Th) (v : Int) : Th := ⟨s.at_ + 1, s.regs.set i.reg.toNat v, s.evs ++ [ans wr (qu ev i s.regs) v]⟩
variable (ins : Nat -> In α)
def adv : Nat -> Th -> Th × Option Int
 | 0, s => (s, none)
 | f + 1, s => match stp ev (ins s.at_) s with
  | .on t => adv f t
  | .ends e => (s, some e)
  | .asks => (s, none)
structure Stand where
 th : Th
 fin : Int
 q : Option Qu
 asked : Nat
def go (f : Nat) : List Int -> Th -> Nat -> Stand
 | [], s, n => match adv ev ins f s with
  | (t, some e) => ⟨t, e, none, n⟩
  | (t, none) => ⟨t, 0, some (qu ev (ins t.at_) t.regs), n⟩
 | v :: l, s, n => match adv ev ins f s with
  | (t, some e) => ⟨t, e, none, n⟩
  | (t, none) => go f l (Z1k ev wr (ins t.at_) t v) (n + 1)
def nxC (v : Nat) : List Nat := nxI (ins v) v
theorem Zab {rank : Nat -> Nat} (hr : ∀ v w, Rch (nxC ins) v -> w ∈ nxC ins v -> rank w < rank v) : ∀ (f : Nat) (s : Th), Rch (nxC ins) s.at_ -> rank s.at_ < f -> adv ev ins (f + 1) s = adv ev ins f s
 | 0, s, _, h => absurd h (Nat.not_lt_zero _)
 | f + 1, s, hs, h => by
  show (match stp ev (ins s.at_) s with | .on t => adv ev ins (f + 1) t | .ends e => (s, some e) | .asks => (s, none)) = (match stp ev (ins s.at_) s with | .on t => adv ev ins f t | .ends e => (s, some e) | .asks => (s, none))
  cases hst : stp ev (ins s.at_) s with
  | on t =>
   have hn : t.at_ ∈ nxC ins s.at_ := Z6l ev hst
   have := hr _ _ hs hn
   exact Zab hr f t (.next hs hn) (by omega)
  | ends e => rfl
  | asks => rfl
theorem Z75 {rank : Nat -> Nat} (hr : ∀ v w, Rch (nxC ins) v -> w ∈ nxC ins v -> rank w < rank v) : ∀ (f : Nat) (s : Th), Rch (nxC ins) s.at_ -> rank s.at_ < f -> Rch (nxC ins) (adv ev ins f s).1.at_ /\ (stp ev (ins (adv ev ins f s).1.at_) (adv ev ins f s).1 = match (adv ev ins f s).2 with | some e => .ends e | none => .asks)
 | 0, s, _, h => absurd h (Nat.not_lt_zero _)
 | f + 1, s, hs, h => by
  unfold adv
  cases hst : stp ev (ins s.at_) s with
  | on t =>
   have hn : t.at_ ∈ nxC ins s.at_ := Z6l ev hst
   have := hr _ _ hs hn
   exact Z75 hr f t (.next hs hn) (by omega)
  | ends e => exact ⟨hs, hst⟩
  | asks => exact ⟨hs, hst⟩
theorem Z5H {rank : Nat -> Nat} {f : Nat} (hf : ∀ v, Rch (nxC ins) v -> rank v < f) {s : Th} (hs : Rch (nxC ins) s.at_) (h : ∀ t, stp ev (ins s.at_) s ≠ .on t) : adv ev ins f s = (s, match stp ev (ins s.at_) s with | .ends e => some e | _ => none) := by
 obtain ⟨g, rfl⟩ : ∃ g, f = g + 1 := ⟨f - 1, by have := hf _ hs; omega⟩
 unfold adv
 cases hst : stp ev (ins s.at_) s with
 | on t => exact absurd hst (h t)
 | ends e => rfl
 | asks => rfl
end Go.Flat
end

section
namespace Go.Proofs.YteidjbahodbgdaaGreatDoor.lex
open Go.Abs Go.RowKit Go.Flat
set_option maxRecDepth 100000
set_option maxHeartbeats 4000000
abbrev Ins := In Ex
def Z0m (i : Ins) : List AV := [.int .i64 i.kind, .int .i64 i.reg, .int .i64 i.loc, .int .i64 i.order, .int .i64 i.to, exA i.ex]
def inC : List Ins -> List AV
 | [] => []
 | i :: l => Z0m i ++ inC l
structure Cd where
 regs : Int
 ins : List Ins
def Cd.av (c : Cd) : AV := .agg [.int .i64 c.regs, .rs c.ins.length 6 (inC c.ins)]
def okC (c : Cd) : Prop := c.ins.length <= 9223372036854775807 /\ ∀ i ∈ c.ins, i.ex.length <= 9223372036854775807 /\ okL i.ex
theorem Zi8 (i : Ins) (l : List Ins) (k : Nat) : (inC (i :: l)).drop ((k + 1) * 6) = (inC l).drop (k * 6) := by
 rw [show (k + 1) * 6 = k * 6 + 1 + 1 + 1 + 1 + 1 + 1 from by omega]
 simp only [inC, Z0m, List.cons_append, List.nil_append, List.drop_succ_cons]
theorem Z8J : ∀ (l : List Ins) (k : Nat) (h : k < l.length), (inC l).drop (k * 6) = Z0m l[k] ++ inC (l.drop (k + 1))
 | i :: l, 0, h => by simp only [Nat.zero_mul, List.drop_zero, inC, List.getElem_cons_zero, List.drop_succ_cons]
 | i :: l, k + 1, h => by rw [Zi8, Z8J l k (by simpa using h)]; simp only [List.getElem_cons_succ, List.drop_succ_cons]
theorem in6 (l : List Ins) (k : Nat) (h : k < l.length) : tk 6 ((inC l).drop (k * 6)) = some (Z0m l[k]) := by
 rw [Z8J l k h]; rfl
end Go.Proofs.YteidjbahodbgdaaGreatDoor.lex
end

section
namespace Go.Flat
structure Rs (nx : Nat -> List Nat) (out : Nat -> Bool) (stk : List Nat) : Prop where
 zero : out 0 = true
 rch : ∀ v, out v = true -> Rch nx v
 mark : ∀ v ∈ stk, out v = true
 done : ∀ v, out v = true -> v ∉ stk -> ∀ w ∈ nx v, out w = true
structure Rm (nx : Nat -> List Nat) (v k : Nat) (out : Nat -> Bool) (stk : List Nat) : Prop where
 zero : out 0 = true
 rch : ∀ v, out v = true -> Rch nx v
 mark : ∀ v ∈ stk, out v = true
 self : out v = true
 done : ∀ u, out u = true -> u ∉ stk -> u ≠ v -> ∀ w ∈ nx u, out w = true
 part : ∀ j, j < k -> ∀ w, (nx v)[j]? = some w -> out w = true
theorem Rs.start (nx : Nat -> List Nat) : Rs nx (upd (fun _ => false) 0 true) [0] := by
 refine ⟨Z0b _ _ _, fun v h => ?_, fun v h => ?_, fun v h hn => ?_⟩
 · by_cases e : v = 0
   · subst e; exact .zero
   · rw [Z08 e] at h; cases h
 · simp only [List.mem_cons, List.not_mem_nil, or_false] at h; subst h; exact Z0b _ _ _
 · have e : v ≠ 0 := fun e => hn (by simp [e])
   rw [Z08 e] at h; cases h
theorem Rs.pop {nx : Nat -> List Nat} {out : Nat -> Bool} {stk : List Nat} {v : Nat} (h : Rs nx out (v :: stk)) : Rm nx v 0 out stk :=
 ⟨h.zero, h.rch, fun u hu => h.mark u (by simp [hu]), h.mark v (by simp), fun u hu hn hne => h.done u hu (by simp [hne, hn]), fun j hj => absurd hj (Nat.not_lt_zero _)⟩
theorem Rm.old {nx : Nat -> List Nat} {out : Nat -> Bool} {stk : List Nat} {v k w : Nat} (h : Rm nx v k out stk) (hw : (nx v)[k]? = some w) (ho : out w = true) : Rm nx v (k + 1) out stk :=
 ⟨h.zero, h.rch, h.mark, h.self, h.done, fun j hj x hx => by
   by_cases e : j = k
   · subst e; rw [hw] at hx; cases hx; exact ho
   · exact h.part j (by omega) x hx⟩
theorem Rm.push {nx : Nat -> List Nat} {out : Nat -> Bool} {stk : List Nat} {v k w : Nat} (h : Rm nx v k out stk) (hw : (nx v)[k]? = some w) : Rm nx v (k + 1) (upd out w true) (w :: stk) := by
 have up : ∀ x, out x = true -> upd out w true x = true := fun x hx => by
  by_cases e : x = w
  · subst e; exact Z0b _ _ _
  · rw [Z08 e]; exact hx
 refine ⟨up _ h.zero, fun x hx => ?_, fun x hx => ?_, up _ h.self, fun u hu hn hne x hx => ?_, fun j hj x hx => ?_⟩
 · by_cases e : x = w
   · subst e; exact .next (h.rch v h.self) (List.mem_of_getElem? hw)
   · rw [Z08 e] at hx; exact h.rch x hx
 · rcases List.mem_cons.1 hx with rfl | hx
   · exact Z0b _ _ _
   · exact up _ (h.mark x hx)
 · have e : u ≠ w := fun e => hn (by simp [e])
   rw [Z08 e] at hu
   exact up _ (h.done u hu (fun hm => hn (by simp [hm])) hne x hx)
 · by_cases e : j = k
   · subst e; rw [hw] at hx; cases hx; exact Z0b _ _ _
   · exact up _ (h.part j (by omega) x hx)
theorem Rm.fin {nx : Nat -> List Nat} {out : Nat -> Bool} {stk : List Nat} {v : Nat} (h : Rm nx v (nx v).length out stk) : Rs nx out stk :=
 ⟨h.zero, h.rch, h.mark, fun u hu hn w hw => by
   by_cases e : u = v
   · subst e
     obtain ⟨j, hj, rfl⟩ := List.getElem_of_mem hw
     exact h.part j hj _ (List.getElem?_eq_getElem hj)
   · exact h.done u hu hn e w hw⟩
theorem Rs.all {nx : Nat -> List Nat} {out : Nat -> Bool} (h : Rs nx out []) (v : Nat) : out v = true ↔ Rch nx v := by
 refine ⟨h.rch v, fun hv => ?_⟩
 induction hv with
 | zero => exact h.zero
 | next hv hw ih => exact h.done _ ih (by simp) _ hw
def Z3s (n : Nat) (out : Nat -> Bool) (stk : List Nat) : Nat := ((List.range n).map fun v => if out v = true then 0 else 2).sum + stk.length
theorem Zge {n : Nat} {out : Nat -> Bool} {stk : List Nat} {v : Nat} : Z3s n out stk < Z3s n out (v :: stk) := by simp only [Z3s, List.length_cons]; omega
theorem ZeE {n : Nat} {out : Nat -> Bool} {stk : List Nat} {w : Nat} (hw : w < n) (ho : out w = false) : Z3s n (upd out w true) (w :: stk) < Z3s n out stk := by
 have key : ((List.range n).map fun v => if upd out w true v = true then 0 else 2).sum + 1 < ((List.range n).map fun v => if out v = true then 0 else 2).sum := by
  have : ∀ (l : List Nat), w ∈ l -> ((l.map fun v => if upd out w true v = true then 0 else 2).sum + 1 < (l.map fun v => if out v = true then 0 else 2).sum) := by
   have le : ∀ (l : List Nat), (l.map fun v => if upd out w true v = true then 0 else 2).sum <= (l.map fun v => if out v = true then 0 else 2).sum := by
    intro l
    induction l with
    | nil => simp
    | cons x l ih =>
     simp only [List.map_cons, List.sum_cons]
     have : (if upd out w true x = true then 0 else 2) <= (if out x = true then 0 else 2) := by
      by_cases e : x = w
      · subst e; rw [Z0b]; simp
      · rw [Z08 e]; exact Nat.le_refl _
     omega
   intro l hl
   induction l with
   | nil => cases hl
   | cons x l ih =>
    simp only [List.map_cons, List.sum_cons]
    by_cases e : x = w
    · subst e
      have := le l
      rw [Z0b, ho]
      simp only [if_true, Bool.false_eq_true, if_false]
      omega
    · have := ih (by rcases List.mem_cons.1 hl with h | h; exact absurd h.symm e; exact h)
      rw [Z08 e]
      omega
  exact this _ (List.mem_range.2 hw)
 simp only [Z3s, List.length_cons]; omega
end Go.Flat
end

section
namespace Go.Proofs.YteidjbahodbgdaaGreatDoor.lex
open Go.Abs Go.RowKit Go.Flat
set_option maxRecDepth 100000
set_option maxHeartbeats 4000000
variable {gl : Z0l}
def arr (f : Nat -> AV) (n : Nat) : List AV := (List.range n).map f
theorem Z4N (f : Nat -> AV) (n : Nat) : (arr f n).length = n := by simp [arr]
theorem Z7V (f : Nat -> AV) (n k : Nat) (h : k < n) : (arr f n)[k]? = some (f k) := by simp [arr, h]
theorem Z7W (f : Nat -> AV) {n k : Nat} (h : k < n) {off : Nat} (e : off = k) : tk 1 ((arr f n).drop off) = some [f k] := by
 subst e; exact Zjt (Z7V f n off h)
theorem ZmV : ∀ (cs : List AV) (k : Nat) (v : AV), k < cs.length -> spl cs k [v] = some (cs.set k v)
 | c :: cs, 0, v, _ => by simp only [spl, List.set_cons_zero]
 | c :: cs, k + 1, v, h => by simp only [spl, ZmV cs k v (by simpa using h), List.set_cons_succ]
theorem Z7U (f : Nat -> AV) {n k : Nat} (v : AV) (h : k < n) {off : Nat} (e : off = k) : spl (arr f n) off [v] = some (arr (upd f k v) n) := by
 subst e
 rw [ZmV _ _ _ (by rw [Z4N]; exact h)]
 congr 1
 apply List.ext_getElem?
 intro i
 by_cases hi : i < n
 · rw [Z7V _ _ _ hi, List.getElem?_set, Z4N]
   by_cases e : off = i
   · subst e; rw [if_pos rfl, if_pos hi, Z0b]
   · rw [if_neg e, Z7V _ _ _ hi, Z08 (fun h => e h.symm)]
 · rw [List.getElem?_eq_none (by rw [List.length_set, Z4N]; omega), List.getElem?_eq_none (by rw [Z4N]; omega)]
theorem Z5c (z : AV) (n : Nat) : Z4u n [z] = arr (fun _ => z) n := by
 have h : ∀ n, Z4u n [z] = List.replicate n z := by
  intro n
  induction n with
  | zero => rfl
  | succ n ih => simp only [Z4u, ih, List.replicate_succ]; rfl
 rw [h]
 apply List.ext_getElem?
 intro i
 by_cases hi : i < n
 · rw [Z7V _ _ _ hi]; simp [hi]
 · rw [List.getElem?_eq_none (by simp; omega), List.getElem?_eq_none (by rw [Z4N]; omega)]
theorem Z72 {f : Nat -> AV} (h : ∀ k, Z1N (f k) [] = []) (n : Nat) : refsL (arr f n) [] = [] := by
 unfold arr
 induction List.range n with
 | nil => rfl
 | cons k l ih => simp only [List.map_cons, refsL, h, ih]
theorem ZkN {f : Nat -> AV} {p : AV -> Bool} (h : ∀ k, p (f k) = true) (n : Nat) : (arr f n).all p = true := by
 simp [arr, h]
def nis (l : List Nat) : List AV := l.map fun v : Nat => AV.int .i64 v
theorem Z3V (l : List Nat) : (nis l).length = l.length := by simp [nis]
theorem ZaW (l : List Nat) {k : Nat} (h : k < l.length) {off : Nat} (e : off = k) : tk 1 ((nis l).drop off) = some [.int .i64 (l[k] : Nat)] := Z11 _ l k h e
theorem Z5S (l : List Nat) : (nis l).all Go.Abs.one = true := by simp [nis, List.all_eq_true, Go.Abs.one]
theorem Zdd (l : List Nat) : (nis l).all Z61 = true := by
 unfold nis
 induction l with
 | nil => rfl
 | cons a l ih => simp only [List.map_cons, List.all_cons, ih, Bool.and_true]; rfl
theorem Z1n (l : List Nat) : refsL (nis l) [] = [] := Z49 (Zgx (Zdd l))
theorem Z9z (a b : List Nat) : nis (a ++ b) = nis a ++ nis b := by simp [nis]
def Z8F (l : List Nat) : AV := .rs l.length 1 (nis l)
def Z0h (l : List Ins) (v : Nat) : Ins := match l[v]? with | some i => i | none => ⟨13, 0, 0, 0, 0, []⟩
theorem Z2V {l : List Ins} {v : Nat} (h : v < l.length) : Z0h l v = l[v] := by simp [Z0h, h]
def Zla (i : Ins) : Prop := i.kind = 10 \/ i.kind = 11 -> 0 <= i.to /\ i.to <= 4611686018427387904
theorem Zb7 (i : Ins) (a : Nat) (h0 : Zla i) (ha : a < 4611686018427387904) : ValOK Tryz.prog gl 76 [.agg (Z0m i), .int .i64 a] (Z8F (nxI i a)) := by
 obtain ⟨k, r, lo, od, to, ex⟩ := i
 simp only [Zla] at h0
 simp only [nxI, Z0m, exA, Z8F]
 by_cases h10 : k = 10
 · subst h10
   obtain ⟨t, rfl⟩ : ∃ t : Nat, to = t := ⟨to.toNat, by omega⟩
   simp only [Int.toNat_natCast, if_true, nis, List.map_cons, List.map_nil, List.length_cons, List.length_nil]
   refine Z0a follows Z09 Z05 Tryz.func76 rfl ?_
   repeat' ((conv => whnf); first | refine stp ?_ | with_reducible refine Z01 (fun h => ?_) (fun h => ?_))
   all_goals rfl
 by_cases h11 : k = 11
 · subst h11
   obtain ⟨t, rfl⟩ : ∃ t : Nat, to = t := ⟨to.toNat, by omega⟩
   have w : IntKind.i64.wrap ((a : Int) + 1) = ((a + 1 : Nat) : Int) := Z2n (by omega)
   simp only [Int.toNat_natCast, if_true, nis, List.map_cons, List.map_nil, List.length_cons, List.length_nil, show ¬ ((11 : Int) = 10) by decide, if_false]
   refine Z0a follows Z09 Z05 Tryz.func76 rfl ?_
   repeat' ((conv => whnf); first | refine stp ?_ | with_reducible refine Z01 (fun h => ?_) (fun h => ?_))
   all_goals rfl
 rw [if_neg h10, if_neg h11]
 have e10 : (k == 10) = false := by simpa using h10
 have e11 : (k == 11) = false := by simpa using h11
 by_cases h12 : k = 12 \/ k = 13
 · rw [if_pos h12]
   simp only [nis, List.map_nil, List.length_nil]
   refine Z5Y follows Z09 Z05 Tryz.func76 rfl ?_
   rcases h12 with rfl | rfl
   · repeat' ((conv => whnf); first | refine stp ?_ | with_reducible refine Z01 (fun h => ?_) (fun h => ?_))
     all_goals exact .inr ⟨rfl, 1, rfl⟩
   · repeat' ((conv => whnf); first | refine stp ?_ | with_reducible refine Z01 (fun h => ?_) (fun h => ?_))
     all_goals exact .inr ⟨rfl, 1, rfl⟩
 · rw [if_neg h12]
   have e12 : (k == 12) = false := by simp; omega
   have e13 : (k == 13) = false := by simp; omega
   have w : IntKind.i64.wrap ((a : Int) + 1) = ((a + 1 : Nat) : Int) := Z2n (by omega)
   simp only [nis, List.map_cons, List.map_nil, List.length_cons, List.length_nil]
   refine Z0a follows Z09 Z05 Tryz.func76 rfl ?_
   repeat' ((conv => whnf); first | refine stp ?_ | with_reducible refine Z01 (fun h => ?_) (fun h => ?_))
   all_goals rfl
def nx8 (i : Ins) (a : Nat) : List Nat :=
 if i.kind = 12 \/ i.kind = 13 then [] else if i.kind = 10 then [i.to.toNat] else if i.kind = 11 then (if i.to.toNat < a + 1 then [i.to.toNat, a + 1] else if a + 1 < i.to.toNat then [a + 1, i.to.toNat] else [a + 1]) else [a + 1]
theorem Zk0 (i : Ins) (a w : Nat) : w ∈ nx8 i a ↔ w ∈ nxI i a := by
 unfold nx8 nxI
 by_cases h12 : i.kind = 12 \/ i.kind = 13
 · have h1 : ¬ i.kind = 10 := by omega
   have h2 : ¬ i.kind = 11 := by omega
   rw [if_pos h12, if_neg h1, if_neg h2, if_pos h12]
 · rw [if_neg h12]
   by_cases h10 : i.kind = 10
   · simp [h10]
   · rw [if_neg h10, if_neg h10]
     by_cases h11 : i.kind = 11
     · rw [if_pos h11, if_pos h11]
       split
       · simp; omega
       · split
         · simp
         · have : i.to.toNat = a + 1 := by omega
           simp [this]
     · rw [if_neg h11, if_neg h11, if_neg h12]
def nxL (l : List Ins) (v : Nat) : List Nat := nxI (Z0h l v) v
def Z2T (l : List Ins) (v : Nat) : List Nat := nx8 (Z0h l v) v
theorem ZbG {f g : Nat -> List Nat} (h : ∀ v w, w ∈ f v -> w ∈ g v) {v : Nat} (hv : Rch f v) : Rch g v := by
 induction hv with
 | zero => exact .zero
 | next hv hw ih => exact .next ih (h _ _ hw)
theorem Zam {f g : Nat -> List Nat} (h : ∀ v w, w ∈ f v ↔ w ∈ g v) (v : Nat) : Rch f v ↔ Rch g v := ⟨ZbG fun v w => (h v w).1, ZbG fun v w => (h v w).2⟩
theorem Z89 {f g : Nat -> List Nat} (h : ∀ v w, w ∈ f v ↔ w ∈ g v) {b : Nat} (ha : Acy f b) : Acy g b := by
 obtain ⟨r, h1, h2⟩ := ha
 exact ⟨r, fun v hv => h1 v ((Zam h v).2 hv), fun v w hv hw => h2 v w ((Zam h v).2 hv) ((h v w).2 hw)⟩
theorem Z4c (l : List Ins) (v w : Nat) : w ∈ Z2T l v ↔ w ∈ nxL l v := Zk0 _ _ _
structure Good (l : List Ins) : Prop where
 pos : 0 < l.length
 few : l.length <= 4000
 to : ∀ v, v < l.length -> Zla (Z0h l v)
 nx : ∀ v, v < l.length -> ∀ w ∈ nxL l v, w < l.length
theorem Good.lt {l : List Ins} (h : Good l) {v : Nat} (hv : Rch (nxL l) v) : v < l.length := by
 induction hv with
 | zero => exact h.pos
 | next hv hw ih => exact h.nx _ ih _ hw
end Go.Proofs.YteidjbahodbgdaaGreatDoor.lex
end

section
namespace Go.Proofs.YteidjbahodbgdaaGreatDoor.lex
open Go.Abs Go.RowKit
set_option maxRecDepth 100000
set_option maxHeartbeats 4000000
variable {gl : Z0l}
def szH (s : Nat) : Z00 := [⟨true, 0, 0, .cells [.int .i64 s] 3⟩]
theorem Zju {a b : Nat} (h : szH a = szH b) : a = b := by
 simp only [szH, List.cons.injEq, AObj.mk.injEq, ABody.cells.injEq, AV.int.injEq, and_true, true_and] at h
 omega
theorem ZfF {kids : List Ex} {i j : Nat} (hi : i < kids.length) (hj : j < kids.length) (h : (exC kids).drop (i * 4) = (exC kids).drop (j * 4)) : i = j := by
 have := congrArg List.length h
 simp only [List.length_drop, Zch] at this
 omega
theorem ZcT : ∀ (n : Nat) (e : Ex) (rest : List AV) (d : Int) (s : Nat), Z0f e <= n -> okE e -> s <= 2000 -> 0 <= d -> d <= 33 ->
  Z1O Tryz.prog gl 65 [.rp (e.cells ++ rest), .int .i64 d, .ptr 0 0] (szH s) (.bool (smE e d s).1) (szH (smE e d s).2)
 | 0, e, rest, d, s, h, _, _, _, _ => by have := Z2p e; omega
 | n + 1, .mk op num name kids, rest, d, s, h, hok, hs, h0, h1 => by
  simp only [Z0f] at h
  obtain ⟨⟨hn1, hn2⟩, hok2⟩ := Z2d hok
  simp only [Ex.name, Ex.kids] at hn1 hn2 hok2
  have hinj : ∀ p q : Nat × Nat, (p.1 < kids.length /\ p.2 <= 2000 /\ d + 1 <= 33) -> (q.1 < kids.length /\ q.2 <= 2000 /\ d + 1 <= 33) -> [AV.rp ((exC kids).drop (p.1 * 4)), .int .i64 (d + 1), .ptr 0 0] = [AV.rp ((exC kids).drop (q.1 * 4)), .int .i64 (d + 1), .ptr 0 0] -> szH p.2 = szH q.2 ->
    AV.bool (smE (kids.getD p.1 default) (d + 1) p.2).1 = .bool (smE (kids.getD q.1 default) (d + 1) q.2).1 /\ szH (smE (kids.getD p.1 default) (d + 1) p.2).2 = szH (smE (kids.getD q.1 default) (d + 1) q.2).2 := fun p q hp hq ha hh => by
   simp only [List.cons.injEq, AV.rp.injEq, and_true] at ha
   rw [ZfF hp.1 hq.1 ha, Zju hh]; exact ⟨rfl, rfl⟩
  have hall : ∀ p : Nat × Nat, (p.1 < kids.length /\ p.2 <= 2000 /\ d + 1 <= 33) -> Z1O Tryz.prog gl 65 [.rp ((exC kids).drop (p.1 * 4)), .int .i64 (d + 1), .ptr 0 0] (szH p.2) (.bool (smE (kids.getD p.1 default) (d + 1) p.2).1) (szH (smE (kids.getD p.1 default) (d + 1) p.2).2) := fun p hp => by
   have hg : kids.getD p.1 default = kids[p.1]'hp.1 := by simp [List.getD_eq_getElem?_getD, hp.1]
   rw [hg, Z8P kids p.1 hp.1]
   exact ZcT n _ _ (d + 1) p.2 (by have := Z0w _ _ (Z0i hp.1); omega) (Z0H hok2 _ (Z0i hp.1)) hp.2.1 (by omega) hp.2.2
  obtain ⟨O, hO, ⟨p1, -⟩, -⟩ := Z6G (P := Tryz.prog) (gl := gl) [{ I := Nat × Nat, f := 65, G := fun p => p.1 < kids.length /\ p.2 <= 2000 /\ d + 1 <= 33, A := fun p => [.rp ((exC kids).drop (p.1 * 4)), .int .i64 (d + 1), .ptr 0 0], H := fun p => szH p.2, R := fun p => .bool (smE (kids.getD p.1 default) (d + 1) p.2).1, O := fun p => szH (smE (kids.getD p.1 default) (d + 1) p.2).2, body := (by kernel_rfl), inj := hinj, ok := hall }] [] rfl
  have q1 : ∀ i (h : i < kids.length) t, t <= 2000 -> d + 1 <= 33 -> Z04 Tryz.prog O (szH t) 65 [.rp ((exC kids).drop (i * 4)), .int .i64 (d + 1), .ptr 0 0] = some (.bool (smE kids[i] (d + 1) t).1, szH (smE kids[i] (d + 1) t).2) := fun i h t h2 h3 => by
   have hg : kids.getD i default = kids[i]'h := by simp [List.getD_eq_getElem?_getD, h]
   have := p1 (i, t) ⟨h, h2, h3⟩
   simpa only [hg] using this
  clear p1 hinj hall
  simp only [Ex.cells]
  have w1 : IntKind.i64.wrap (d + 1) = d + 1 := Z4X (by omega) (by omega)
  have w2 : IntKind.i64.wrap ((s : Int) + 1) = ((s + 1 : Nat) : Int) := Z2n (by omega)
  simp only [smE]
  refine ZlM (k := 1) follows Z09 hO rfl Tryz.func65 rfl (Z3G _ _) ?_
  by_cases hs1 : s + 1 <= 2000
  · have e1 : decide (((s + 1 : Nat) : Int) > 2000) = false := by simp; omega
    by_cases hd : d <= 32
    · have e2 : decide (d > 32) = false := by simp; omega
      rw [if_pos ⟨hs1, hd⟩]
      repeat' ((conv => whnf); first | (with_reducible refine exW w2 ?_) | (first | refine stp ?_ | with_reducible refine Z01 (fun h => ?_) (fun h => ?_)))
      conv => whnf
      refine ⟨Nat, (fun i => i <= kids.length /\ (smL (kids.take i) (d + 1) (s + 1)).1 = true), (fun i => [(0, .rp ([.int .i64 op, .int .i64 num, .str name, .rs kids.length 4 (exC kids)] ++ rest)), (1, .int .i64 d), (2, .ptr 0 0), (25, .int .i64 kids.length), (26, .int .i64 i)]), (fun i => szH (smL (kids.take i) (d + 1) (s + 1)).2), (fun i => kids.length - i), ⟨0, ⟨Nat.zero_le _, by simp only [List.take_zero, smL]⟩, ?_⟩, ?_⟩
      · simp only [List.take_zero, smL]
        refine FgLK.mk [0] rfl rfl ?_ ⟨⟨rfl, rfl, rfl, rfl, BodyGe.pre (rest := []) rfl rfl⟩, trivial⟩ rfl
        (repeat (first | exact trivial | refine stw ?_))
      rintro i ⟨hi, hall⟩
      dsimp only
      have ht := (smL_law (kids.take i) (d + 1) (s + 1) hs1 (by omega)).2 hall
      have ht2 := ((smL_law (kids.take i) (d + 1) (s + 1) hs1 (by omega)).1.1 hall).1
      by_cases hlt : i < kids.length
      · have e3 : decide ((i : Int) < (kids.length : Int)) = true := by simpa using hlt
        have q2 := q1 i hlt (smL (kids.take i) (d + 1) (s + 1)).2 (by omega) (by omega)
        have hat := ZiM kids (d + 1) (s + 1) i hlt hall
        have hst := ZcU kids (d + 1) (s + 1) (i + 1)
        clear q1 ht ht2
        generalize (smL (kids.take i) (d + 1) (s + 1)).2 = t at *
        generalize smE kids[i] (d + 1) t = r at *
        obtain ⟨b, t2⟩ := r
        simp only [szH] at *
        cases b with
        | true =>
         simp only [if_true] at hat
         repeat' ((conv => whnf); first | (refine exI q2 ?_) | (with_reducible refine exW w1 ?_) | (with_reducible refine ixJ i rfl ?_ ?_; (focus (omega))) | (first | refine stp ?_ | with_reducible refine Z01 (fun h => ?_) (fun h => ?_)))
         conv => whnf
         refine ⟨i + 1, ⟨hlt, by rw [hat]⟩, by show kids.length - (i + 1) < kids.length - i; omega, ?_⟩
         rw [hat]
         refine FgLK.mk [0] rfl rfl ?_ ⟨⟨rfl, rfl, rfl, rfl, BodyGe.pre (rest := []) rfl rfl⟩, trivial⟩ rfl
         (repeat (first | exact trivial | refine stw ?_))
        | false =>
         simp only [Bool.false_eq_true, if_false] at hat
         rw [hst (by rw [hat]), hat]
         repeat' ((conv => whnf); first | (refine exI q2 ?_) | (with_reducible refine exW w1 ?_) | (with_reducible refine ixJ i rfl ?_ ?_; (focus (omega))) | (first | refine stp ?_ | with_reducible refine Z01 (fun h => ?_) (fun h => ?_)))
         all_goals (conv => whnf)
         all_goals exact ⟨rfl, rfl⟩
      · have e3 : decide ((i : Int) < (kids.length : Int)) = false := by simpa using hlt
        have hi2 : i = kids.length := by omega
        subst hi2
        rw [List.take_length] at hall ⊢
        generalize smL kids (d + 1) (s + 1) = r at *
        obtain ⟨b, t2⟩ := r
        simp only at hall
        subst hall
        repeat' ((conv => whnf); first | (first | refine stp ?_ | with_reducible refine Z01 (fun h => ?_) (fun h => ?_)))
        all_goals (conv => whnf)
        all_goals exact ⟨rfl, rfl⟩
    · have e2 : decide (d > 32) = true := by simp; omega
      rw [if_neg (by omega)]
      repeat' ((conv => whnf); first | (with_reducible refine exW w2 ?_) | (first | refine stp ?_ | with_reducible refine Z01 (fun h => ?_) (fun h => ?_)))
      all_goals (conv => whnf)
      all_goals exact ⟨rfl, rfl⟩
  · have e1 : decide (((s + 1 : Nat) : Int) > 2000) = true := by simp; omega
    rw [if_neg (by omega)]
    repeat' ((conv => whnf); first | (with_reducible refine exW w2 ?_) | (first | refine stp ?_ | with_reducible refine Z01 (fun h => ?_) (fun h => ?_)))
    all_goals (conv => whnf)
    all_goals exact ⟨rfl, rfl⟩
theorem ZjQ {regs num : Int} {name : List UInt8} {kids : List Ex} : Z0q regs (.mk 1 num name kids) = (decide (num >= 0) && (name == [] && ((kids.length : Int) == 0))) := by
 simp only [Z0q, ZiS, if_true]
 cases kids with
 | nil => simp [rightPL]
 | cons k l => simp; intros; omega
theorem ZfJ {regs num : Int} {name : List UInt8} {kids : List Ex} : Z0q regs (.mk 2 num name kids) = (decide (0 <= Z1X name) && (decide (Z1X name < regs) && (num == 0 && ((kids.length : Int) == 0)))) := by
 simp only [Z0q, ZiS]
 rw [if_neg (by decide), if_pos trivial]
 cases kids with
 | nil => simp [rightPL]
 | cons k l => simp; intros; omega
theorem ZjP {regs op num : Int} {name : List UInt8} {kids : List Ex} (h : op = 3 \/ op = 4) : Z0q regs (.mk op num name kids) = (num == 0 && (name == [] && (((kids.length : Int) == 1) && rightPL regs kids))) := by
 simp only [Z0q, ZiS]
 rw [if_neg (by omega), if_neg (by omega), if_pos h]
 rw [Bool.eq_iff_iff]; simp only [Bool.and_eq_true, beq_iff_eq, decide_eq_true_eq]
 constructor
 · rintro ⟨⟨a, b, c⟩, d⟩; exact ⟨a, b, by omega, d⟩
 · rintro ⟨a, b, c, d⟩; exact ⟨⟨a, b, by omega⟩, d⟩
theorem ZjO {regs op num : Int} {name : List UInt8} {kids : List Ex} (h : 5 <= op /\ op <= 16) : Z0q regs (.mk op num name kids) = (num == 0 && (name == [] && (((kids.length : Int) == 2) && rightPL regs kids))) := by
 simp only [Z0q, ZiS]
 rw [if_neg (by omega), if_neg (by omega), if_neg (by omega), if_pos h]
 rw [Bool.eq_iff_iff]; simp only [Bool.and_eq_true, beq_iff_eq, decide_eq_true_eq]
 constructor
 · rintro ⟨⟨a, b, c⟩, d⟩; exact ⟨a, b, by omega, d⟩
 · rintro ⟨a, b, c, d⟩; exact ⟨⟨a, b, by omega⟩, d⟩
theorem ZaK : ∀ (n : Nat) (e : Ex) (rest : List AV) (regs : Int), Z0f e <= n -> okE e -> ValOK Tryz.prog gl 78 [.rp (e.cells ++ rest), .int .i64 regs] (.bool (Z0q regs e))
 | 0, e, rest, regs, h, _ => by have := Z2p e; omega
 | n + 1, .mk op num name kids, rest, regs, h, hok => by
  simp only [Z0f] at h
  obtain ⟨⟨hn1, hn2⟩, hok2⟩ := Z2d hok
  simp only [Ex.name, Ex.kids] at hn1 hn2 hok2
  have hinj : ∀ i j : Nat, i < kids.length -> j < kids.length -> [AV.rp ((exC kids).drop (i * 4)), .int .i64 regs] = [AV.rp ((exC kids).drop (j * 4)), .int .i64 regs] -> AV.bool (Z0q regs (kids.getD i default)) = .bool (Z0q regs (kids.getD j default)) := fun i j hi hj ha => by
   simp only [List.cons.injEq, AV.rp.injEq, and_true] at ha
   rw [ZfF hi hj ha]
  have hall : ∀ i : Nat, i < kids.length -> refsL [AV.rp ((exC kids).drop (i * 4)), .int .i64 regs] [] = [] /\ ValOK Tryz.prog gl 78 [.rp ((exC kids).drop (i * 4)), .int .i64 regs] (.bool (Z0q regs (kids.getD i default))) := fun i hi => by
   have hg : kids.getD i default = kids[i]'hi := by simp [List.getD_eq_getElem?_getD, hi]
   rw [hg, Z8P kids i hi]
   exact ⟨rfl, ZaK n _ _ regs (by have := Z0w _ _ (Z0i hi); omega) (Z0H hok2 _ (Z0i hi))⟩
  obtain ⟨O, hO, p1, p2, -⟩ := fams (P := Tryz.prog) (gl := gl) [{ I := Unit, f := 93, G := fun _ => True, A := fun _ => [.str name], R := fun _ => ZiP name, body := (by kernel_rfl), inj := fun _ _ _ _ _ => rfl, ok := fun _ _ => ⟨rfl, Zc4 _ hn1⟩ },
   { I := Nat, f := 78, G := fun i => i < kids.length, A := fun i => [.rp ((exC kids).drop (i * 4)), .int .i64 regs], R := fun i => .bool (Z0q regs (kids.getD i default)), body := (by kernel_rfl), inj := hinj, ok := hall }] rfl
  have q1 : ∀ H, Z04 Tryz.prog O H 93 [.str name] = some (ZiP name, H) := p1 () trivial
  have q2 : ∀ i (h : i < kids.length) H, Z04 Tryz.prog O H 78 [.rp ((exC kids).drop (i * 4)), .int .i64 regs] = some (.bool (Z0q regs kids[i]), H) := fun i h H => by
   have hg : kids.getD i default = kids[i]'h := by simp [List.getD_eq_getElem?_getD, h]
   have := p2 i h H
   simpa only [hg] using this
  clear p1 p2 hinj hall
  simp only [Ex.cells]
  by_cases c1 : op = 1
  · subst c1
    rw [ZjQ]
    refine Z0a follows Z09 hO Tryz.func78 rfl ?_
    repeat' ((conv => whnf); first | refine stp ?_ | with_reducible refine Z01 (fun h => ?_) (fun h => ?_))
    all_goals (clear q1 q2 hO; show AV.bool _ = AV.bool _; congr 1; (first | (simp_all; done) | (simp_all; omega) | (simp_all; intros; omega)))
  by_cases c2 : op = 2
  · subst c2
    rw [ZfJ]
    unfold ZiP at q1
    by_cases hr : Z1X name < 0
    · rw [if_pos hr] at q1
      have hr2 : decide (0 <= Z1X name) = false := by simpa using hr
      rw [hr2]
      refine Z0a follows Z09 hO Tryz.func78 rfl ?_
      repeat' ((conv => whnf); first | (refine exI (q1 _) ?_) | (first | refine stp ?_ | with_reducible refine Z01 (fun h => ?_) (fun h => ?_)))
      all_goals rfl
    · rw [if_neg hr] at q1
      have hr2 : decide (0 <= Z1X name) = true := by simpa using hr
      rw [hr2]
      clear hr hr2
      generalize Z1X name = nn at *
      refine Z0a follows Z09 hO Tryz.func78 rfl ?_
      repeat' ((conv => whnf); first | (refine exI (q1 _) ?_) | (first | refine stp ?_ | with_reducible refine Z01 (fun h => ?_) (fun h => ?_)))
      all_goals (clear q1 q2 hO; show AV.bool _ = AV.bool _; congr 1; (first | (simp_all; done) | (simp_all; omega) | (simp_all; intros; omega)))
  have f1 : (op == 1) = false := by simpa using c1
  have f2 : (op == 2) = false := by simpa using c2
  by_cases cr : 3 <= op /\ op <= 16
  · have main : ∃ a : Int, Z0q regs (.mk op num name kids) = (num == 0 && (name == [] && (((kids.length : Int) == a) && rightPL regs kids))) /\ ((op = 3 /\ a = 1) \/ (op = 4 /\ a = 1) \/ (5 <= op /\ a = 2)) := by
     rcases (show (op = 3 \/ op = 4) \/ 5 <= op by omega) with c3 | c5
     · exact ⟨1, ZjP c3, by omega⟩
     · exact ⟨2, ZjO ⟨c5, cr.2⟩, by omega⟩
    obtain ⟨a, hr, hc⟩ := main
    rw [hr]
    clear hr
    refine Z0a follows Z09 hO Tryz.func78 rfl ?_
    rcases hc with ⟨rfl, rfl⟩ | ⟨rfl, rfl⟩ | ⟨c5, rfl⟩
    case inr.inr =>
     have f3 : (op == 3) = false := by simp; omega
     have f4 : (op == 4) = false := by simp; omega
     have f5 : decide (op < 5) = false := by simp; omega
     have f6 : decide (op > 16) = false := by simp; omega
     clear c5 cr
     repeat' ((conv => whnf); first | (first | refine stp ?_ | with_reducible refine Z01 (fun h => ?_) (fun h => ?_)))
     all_goals (first | (clear q1 q2 hO; show AV.bool _ = AV.bool _; congr 1; (first | (simp_all; done) | (simp_all; omega) | (simp_all; intros; omega))) | (
      have hz : (((num == 0) && (name == [])) && ((kids.length : Int) == 2)) = true := by clear q1 q2 hO; simp_all
      have hr3 : (num == 0 && (name == [] && (((kids.length : Int) == 2) && rightPL regs kids))) = rightPL regs kids := by
       rw [<- Bool.and_assoc, <- Bool.and_assoc, hz, Bool.true_and]
      rw [hr3]
      clear hz hr3
      conv => whnf
      refine ⟨Nat, (fun i => i <= kids.length /\ rightPL regs (kids.take i) = true), (fun i => [(0, .rp ([.int .i64 op, .int .i64 num, .str name, .rs kids.length 4 (exC kids)] ++ rest)), (1, .int .i64 regs), (121, .int .i64 kids.length), (122, .int .i64 i)]), (fun i => []), (fun i => kids.length - i), ⟨0, ⟨Nat.zero_le _, rfl⟩, FgL.mk0 rfl ?_⟩, ?_⟩
      · (repeat (first | exact trivial | refine stw ?_))
      rintro i ⟨hi, hall⟩
      dsimp only
      by_cases hlt : i < kids.length
      · have e3 : decide ((i : Int) < (kids.length : Int)) = true := by simpa using hlt
        have q2' := q2 i hlt
        have hat := Z21 regs kids i hlt
        rw [hall, Bool.true_and] at hat
        have hst := Z2r (regs := regs) hlt
        generalize Z0q regs kids[i] = r at *
        cases r with
        | true =>
         repeat' ((conv => whnf); first | (refine exI (q2' _) ?_) | (with_reducible refine ixJ i rfl ?_ ?_; (focus (omega))) | (first | refine stp ?_ | with_reducible refine Z01 (fun h => ?_) (fun h => ?_)))
         conv => whnf
         refine ⟨i + 1, ⟨hlt, hat⟩, by show kids.length - (i + 1) < kids.length - i; omega, FgL.mk0 rfl ?_⟩
         (repeat (first | exact trivial | refine stw ?_))
        | false =>
         rw [hst rfl]
         repeat' ((conv => whnf); first | (refine exI (q2' _) ?_) | (with_reducible refine ixJ i rfl ?_ ?_; (focus (omega))) | (first | refine stp ?_ | with_reducible refine Z01 (fun h => ?_) (fun h => ?_)))
         all_goals rfl
      · have e3 : decide ((i : Int) < (kids.length : Int)) = false := by simpa using hlt
        have hi2 : i = kids.length := by omega
        subst hi2
        rw [List.take_length] at hall
        rw [hall]
        repeat' ((conv => whnf); first | (first | refine stp ?_ | with_reducible refine Z01 (fun h => ?_) (fun h => ?_)))
        all_goals rfl))
    case inl =>
     repeat' ((conv => whnf); first | (first | refine stp ?_ | with_reducible refine Z01 (fun h => ?_) (fun h => ?_)))
     all_goals (first | (clear q1 q2 hO; show AV.bool _ = AV.bool _; congr 1; (first | (simp_all; done) | (simp_all; omega) | (simp_all; intros; omega))) | (
      have hz : (((num == 0) && (name == [])) && ((kids.length : Int) == 1)) = true := by clear q1 q2 hO; simp_all
      have hr3 : (num == 0 && (name == [] && (((kids.length : Int) == 1) && rightPL regs kids))) = rightPL regs kids := by
       rw [<- Bool.and_assoc, <- Bool.and_assoc, hz, Bool.true_and]
      rw [hr3]
      clear hz hr3
      conv => whnf
      refine ⟨Nat, (fun i => i <= kids.length /\ rightPL regs (kids.take i) = true), (fun i => [(0, .rp ([.int .i64 3, .int .i64 num, .str name, .rs kids.length 4 (exC kids)] ++ rest)), (1, .int .i64 regs), (121, .int .i64 kids.length), (122, .int .i64 i)]), (fun i => []), (fun i => kids.length - i), ⟨0, ⟨Nat.zero_le _, rfl⟩, FgL.mk0 rfl ?_⟩, ?_⟩
      · (repeat (first | exact trivial | refine stw ?_))
      rintro i ⟨hi, hall⟩
      dsimp only
      by_cases hlt : i < kids.length
      · have e3 : decide ((i : Int) < (kids.length : Int)) = true := by simpa using hlt
        have q2' := q2 i hlt
        have hat := Z21 regs kids i hlt
        rw [hall, Bool.true_and] at hat
        have hst := Z2r (regs := regs) hlt
        generalize Z0q regs kids[i] = r at *
        cases r with
        | true =>
         repeat' ((conv => whnf); first | (refine exI (q2' _) ?_) | (with_reducible refine ixJ i rfl ?_ ?_; (focus (omega))) | (first | refine stp ?_ | with_reducible refine Z01 (fun h => ?_) (fun h => ?_)))
         conv => whnf
         refine ⟨i + 1, ⟨hlt, hat⟩, by show kids.length - (i + 1) < kids.length - i; omega, FgL.mk0 rfl ?_⟩
         (repeat (first | exact trivial | refine stw ?_))
        | false =>
         rw [hst rfl]
         repeat' ((conv => whnf); first | (refine exI (q2' _) ?_) | (with_reducible refine ixJ i rfl ?_ ?_; (focus (omega))) | (first | refine stp ?_ | with_reducible refine Z01 (fun h => ?_) (fun h => ?_)))
         all_goals rfl
      · have e3 : decide ((i : Int) < (kids.length : Int)) = false := by simpa using hlt
        have hi2 : i = kids.length := by omega
        subst hi2
        rw [List.take_length] at hall
        rw [hall]
        repeat' ((conv => whnf); first | (first | refine stp ?_ | with_reducible refine Z01 (fun h => ?_) (fun h => ?_)))
        all_goals rfl))
    case inr.inl =>
     repeat' ((conv => whnf); first | (first | refine stp ?_ | with_reducible refine Z01 (fun h => ?_) (fun h => ?_)))
     all_goals (first | (clear q1 q2 hO; show AV.bool _ = AV.bool _; congr 1; (first | (simp_all; done) | (simp_all; omega) | (simp_all; intros; omega))) | (
      have hz : (((num == 0) && (name == [])) && ((kids.length : Int) == 1)) = true := by clear q1 q2 hO; simp_all
      have hr3 : (num == 0 && (name == [] && (((kids.length : Int) == 1) && rightPL regs kids))) = rightPL regs kids := by
       rw [<- Bool.and_assoc, <- Bool.and_assoc, hz, Bool.true_and]
      rw [hr3]
      clear hz hr3
      conv => whnf
      refine ⟨Nat, (fun i => i <= kids.length /\ rightPL regs (kids.take i) = true), (fun i => [(0, .rp ([.int .i64 4, .int .i64 num, .str name, .rs kids.length 4 (exC kids)] ++ rest)), (1, .int .i64 regs), (121, .int .i64 kids.length), (122, .int .i64 i)]), (fun i => []), (fun i => kids.length - i), ⟨0, ⟨Nat.zero_le _, rfl⟩, FgL.mk0 rfl ?_⟩, ?_⟩
      · (repeat (first | exact trivial | refine stw ?_))
      rintro i ⟨hi, hall⟩
      dsimp only
      by_cases hlt : i < kids.length
      · have e3 : decide ((i : Int) < (kids.length : Int)) = true := by simpa using hlt
        have q2' := q2 i hlt
        have hat := Z21 regs kids i hlt
        rw [hall, Bool.true_and] at hat
        have hst := Z2r (regs := regs) hlt
        generalize Z0q regs kids[i] = r at *
        cases r with
        | true =>
         repeat' ((conv => whnf); first | (refine exI (q2' _) ?_) | (with_reducible refine ixJ i rfl ?_ ?_; (focus (omega))) | (first | refine stp ?_ | with_reducible refine Z01 (fun h => ?_) (fun h => ?_)))
         conv => whnf
         refine ⟨i + 1, ⟨hlt, hat⟩, by show kids.length - (i + 1) < kids.length - i; omega, FgL.mk0 rfl ?_⟩
         (repeat (first | exact trivial | refine stw ?_))
        | false =>
         rw [hst rfl]
         repeat' ((conv => whnf); first | (refine exI (q2' _) ?_) | (with_reducible refine ixJ i rfl ?_ ?_; (focus (omega))) | (first | refine stp ?_ | with_reducible refine Z01 (fun h => ?_) (fun h => ?_)))
         all_goals rfl
      · have e3 : decide ((i : Int) < (kids.length : Int)) = false := by simpa using hlt
        have hi2 : i = kids.length := by omega
        subst hi2
        rw [List.take_length] at hall
        rw [hall]
        repeat' ((conv => whnf); first | (first | refine stp ?_ | with_reducible refine Z01 (fun h => ?_) (fun h => ?_)))
        all_goals rfl))
  · have hr : Z0q regs (.mk op num name kids) = false := by
     simp only [Z0q, ZiS]
     rw [if_neg c1, if_neg c2, if_neg (by omega), if_neg (by omega)]; rfl
    rw [hr]
    have f3 : (op == 3) = false := by simp; omega
    have f4 : (op == 4) = false := by simp; omega
    refine Z0a follows Z09 hO Tryz.func78 rfl ?_
    by_cases c5 : op < 5
    · have f5 : decide (op < 5) = true := by simpa using c5
      repeat' ((conv => whnf); first | (first | refine stp ?_ | with_reducible refine Z01 (fun h => ?_) (fun h => ?_)))
      all_goals rfl
    · have f5 : decide (op < 5) = false := by simpa using c5
      have f6 : decide (op > 16) = true := by simp; omega
      repeat' ((conv => whnf); first | (first | refine stp ?_ | with_reducible refine Z01 (fun h => ?_) (fun h => ?_)))
      all_goals rfl
end Go.Proofs.YteidjbahodbgdaaGreatDoor.lex
end

section
namespace Go.Proofs.YteidjbahodbgdaaGreatDoor.lex
open Go.Abs Go.RowKit Go.Flat
set_option maxRecDepth 100000
set_option maxHeartbeats 4000000
variable {gl : Z0l}
mutual
def evC (r : List Int) : Ex -> Int
 | .mk op num name kids => if op = 1 then num else if op = 2 then r.getD (Z1X name).toNat 0 else (doI op (evCL r kids)).1
def evCL (r : List Int) : List Ex -> List Int
 | [] => []
 | e :: l => evC r e :: evCL r l
end
theorem Z2i (r : List Int) : ∀ l : List Ex, evCL r l = l.map (evC r)
 | [] => rfl
 | e :: l => by simp only [evCL, List.map_cons, Z2i r l]
def rsI (l : List Int) : AV := .rs l.length 1 (ksC l)
theorem Z9u {F : Nat -> List AV -> Option AV} {f : Nat} {args : List AV} {H : Z00} (h : ∀ a, F f a = none) : Z5P F f args H = none := by
 unfold Z5P
 split
 · rw [h]
 · rfl
theorem ZaJ {regs num : Int} {name : List UInt8} {kids : List Ex} (h : Z0q regs (.mk 2 num name kids) = true) : 0 <= Z1X name /\ Z1X name < regs := by
 rw [ZfJ] at h
 simp only [Bool.and_eq_true, decide_eq_true_eq] at h
 exact ⟨h.1, h.2.1⟩
theorem Z8w {regs op num : Int} {name : List UInt8} {kids : List Ex} (h : Z0q regs (.mk op num name kids) = true) : ∀ e ∈ kids, Z0q regs e = true := by
 have hl : rightPL regs kids = true := by
  simp only [Z0q, Bool.and_eq_true] at h
  exact h.2
 have : ∀ l : List Ex, rightPL regs l = true -> ∀ e ∈ l, Z0q regs e = true := by
  intro l
  induction l with
  | nil => intro _ e he; cases he
  | cons x l ih =>
   intro h e he
   simp only [rightPL, Bool.and_eq_true] at h
   rcases List.mem_cons.1 he with rfl | he
   · exact h.1
   · exact ih h.2 e he
 exact this kids hl
theorem Zca (n : Nat) (h : n <= 1048576) (H : Z00) : Z17 Tryz.prog 25 (.int .i64 n) (.int .i64 n) H = some (.slice H.length 0 n n 1, Z3a H (Z4u n [.int .i64 0]) 2) := by
 have hz : tsz Tryz.prog 2 = some 1 := by kernel_rfl
 have hb : (Tryz.prog.info? 2).map (·.bytes) = some 8 := by kernel_rfl
 have hu : Z2Q Tryz.prog 2 = some (.int .i64 0) := by kernel_rfl
 exact Zdk Tryz.underlying25 hz hb hu rfl (by decide) n (by omega) (by omega)
def part (vs : List Int) (i v : Nat) : Int := if v < i then vs.getD v 0 else 0
theorem ZfO (vs : List Int) (n : Nat) : arr (fun v => .int .i64 (part vs 0 v)) n = Z4u n [.int .i64 0] := by
 rw [Z5c]; congr 1
theorem ZhP (vs : List Int) : arr (fun v => .int .i64 (part vs vs.length v)) vs.length = ksC vs := by
 apply List.ext_getElem?
 intro i
 by_cases hi : i < vs.length
 · rw [Z7V _ _ _ hi]
   simp [part, hi, ksC]
 · rw [List.getElem?_eq_none (by rw [Z4N]; omega), List.getElem?_eq_none (by rw [Z9E]; omega)]
theorem ZhO (vs : List Int) {i n : Nat} (h : i < n) {off : Nat} (e : off = i) : spl (arr (fun v => .int .i64 (part vs i v)) n) off [.int .i64 (vs.getD i 0)] = some (arr (fun v => .int .i64 (part vs (i + 1) v)) n) := by
 rw [Z7U _ _ h e]
 congr 2
 funext v
 unfold part
 by_cases hv : v = i
 · subst hv; rw [Z0b, if_pos (by omega)]
 · rw [Z08 hv]
   by_cases h2 : v < i
   · rw [if_pos h2, if_pos (by omega)]
   · rw [if_neg h2, if_neg (by omega)]
theorem ZaN (vs : List Int) (i n : Nat) : refsL (arr (fun v => .int .i64 (part vs i v)) n) [] = [] := Z72 (fun _ => rfl) n
theorem Zc9 {s : List UInt8} (h : 0 <= Z1X s) : s ≠ [] /\ s.length <= 4 /\ Za8 s = true /\ Z1X s = Z6C s := by
 have h1 := Zda h
 have ho : ZaT s = false := by
  rw [Bool.eq_false_iff]; intro ho
  rw [Z3r ho] at h; omega
 refine ⟨h1.1, ?_, h1.2, Z9w ho h1.2⟩
 simp only [ZaT, Bool.or_eq_false_iff, decide_eq_false_iff_not] at ho
 omega
theorem Z70 : ∀ (n : Nat) (e : Ex) (r : List Int) (a b c : AV) (rest : List AV), Z0f e <= n -> okE e -> Z0f e <= 1048576 -> Z0q r.length e = true -> ValOK Tryz.prog gl 62 [.rp (a :: b :: c :: rsI r :: rest), .agg e.cells] (.int .i64 (evC r e))
 | n, .mk op num name kids, r, a, b, c, rest, h, hok, hs, hr => by
  obtain ⟨⟨hn1, hn2⟩, hok2⟩ := Z2d hok
  simp only [Ex.name, Ex.kids] at hn1 hn2 hok2
  simp only [Z0f] at h hs
  have hkl := Z1H kids
  have hrk := Z8w hr
  have hinj : ∀ x y : Ex, (Z0f x < n /\ x ∈ kids) -> (Z0f y < n /\ y ∈ kids) -> [AV.rp (a :: b :: c :: rsI r :: rest), AV.agg x.cells] = [AV.rp (a :: b :: c :: rsI r :: rest), AV.agg y.cells] -> AV.int .i64 (evC r x) = .int .i64 (evC r y) := fun x y _ _ h => by
   simp only [List.cons.injEq, AV.agg.injEq, and_true, true_and] at h
   rw [Z16 _ _ h]
  obtain ⟨O, hO, p1, p2, -⟩ := fams (P := Tryz.prog) (gl := gl) [{ I := Ex, f := 62, G := fun x => Z0f x < n /\ x ∈ kids, A := fun x => [.rp (a :: b :: c :: rsI r :: rest), .agg x.cells], R := fun x => .int .i64 (evC r x), body := (by kernel_rfl), inj := hinj, ok := (fun x hx => ⟨by obtain ⟨o, m, s, k⟩ := x; simp only [Ex.cells]; rfl, match n, hx.1 with | n + 1, h => Z70 n x r a b c rest (by omega) (Z0H hok2 _ hx.2) (by have := Z0w _ _ hx.2; omega) (hrk _ hx.2)⟩) },
   { I := Unit, f := 74, G := fun _ => 0 <= Z1X name, A := fun _ => [.str name], R := fun _ => .tuple [.int .i64 (Z1X name), .niface], body := (by kernel_rfl), inj := fun _ _ _ _ _ => rfl, ok := fun _ hp => ⟨rfl, by obtain ⟨d1, d2, d3, d4⟩ := Zc9 hp; rw [d4]; exact ZkJ name d1 d2 d3⟩ }] rfl
  have hO2 := Z1z (ZgL (gl := gl)) hO
  have q1 : ∀ x ∈ kids, ∀ H, Z04 Tryz.prog (Z1v (Z5P doF) O) H 62 [.rp (a :: b :: c :: rsI r :: rest), .agg x.cells] = some (.int .i64 (evC r x), H) := fun x hx H => Z66 (by kernel_rfl) (Z9u fun _ => rfl) (p1 x ⟨by have := Z0w _ _ hx; omega, hx⟩ H)
  have q2 : 0 <= Z1X name -> ∀ H, Z04 Tryz.prog (Z1v (Z5P doF) O) H 74 [.str name] = some (.tuple [.int .i64 (Z1X name), .niface], H) := fun h H => Z66 (by kernel_rfl) (Z9u fun _ => rfl) (p2 () h H)
  have q3 : ∀ H x, frz H 30 x = some (rsI (evCL r kids)) -> Z04 Tryz.prog (Z1v (Z5P doF) O) H 75 [.int .i64 op, x] = some (.tuple [.int .i64 (doI op (evCL r kids)).1, .int .i64 (doI op (evCL r kids)).2], H) := fun H x hx => by
   refine Z4M (by kernel_rfl) (Zis (fa := [.int .i64 op, rsI (evCL r kids)]) (by kernel_rfl) ?_ ?_)
   · simp only [Z0L, hx]; rfl
   · show (match Z3E (ksC (evCL r kids)) with | some l => _ | none => none) = _
     rw [show Z3E (ksC (evCL r kids)) = some (evCL r kids) from Z5V _]
  clear p1 p2 hinj
  have hm := Zca kids.length (by omega)
  generalize Z1v (Z5P doF) O = O2 at *
  simp only [Ex.cells, exA, evC]
  refine Z0a follows Z09 hO2 Tryz.func62 rfl ?_
  by_cases h1 : op = 1
  · subst h1
    rw [if_pos rfl]
    repeat' ((conv => whnf); first | refine stp ?_ | with_reducible refine Z01 (fun h => ?_) (fun h => ?_))
    all_goals rfl
  rw [if_neg h1]
  have e1 : (op == 1) = false := by simpa using h1
  by_cases h2 : op = 2
  · subst h2
    rw [if_pos rfl]
    obtain ⟨g1, g2⟩ := ZaJ hr
    have q2 := q2 g1
    obtain ⟨k, hk⟩ : ∃ k : Nat, Z1X name = k := ⟨(Z1X name).toNat, by omega⟩
    rw [hk] at q2 g2 ⊢
    have hx : ∀ off, off = k -> tk 1 ((ksC r).drop off) = some [.int .i64 (r.getD k 0)] := fun off e => by
     subst e
     have := Zj1 r off (by omega)
     rw [show 0 + off * 1 = off by omega] at this; exact this
    simp only [Int.toNat_natCast, rsI] at *
    repeat' ((conv => whnf); first | (refine exI (q2 _) ?_) | (refine exI (hx _ (by omega)) ?_) | (with_reducible refine ixJ k rfl ?_ ?_; (focus (omega))) | (first | refine stp ?_ | with_reducible refine Z01 (fun h => ?_) (fun h => ?_)))
    all_goals rfl
  rw [if_neg h2]
  have e2 : (op == 2) = false := by simpa using h2
  have hvl : (evCL r kids).length = kids.length := by rw [Z2i]; simp
  have hvg : ∀ i (h : i < kids.length), (evCL r kids).getD i 0 = evC r kids[i] := fun i h => by
   rw [Z2i]; simp [h]
  simp only [rsI] at *
  repeat' ((conv => whnf); first | (refine exI (hm _) ?_) | (first | refine stp ?_ | with_reducible refine Z01 (fun h => ?_) (fun h => ?_)))
  conv => whnf
  refine ⟨Nat, (fun i => i <= kids.length), (fun i => [(0, .rp (a :: b :: c :: .rs r.length 1 (ksC r) :: rest)), (3, .ptr 0 0), (7, .slice 1 0 kids.length kids.length 1), (38, .rs kids.length 4 (exC kids)), (39, .int .i64 kids.length), (40, .int .i64 (i : Nat))]), (fun i => [⟨true, 0, 0, .cells [.int .i64 op, .int .i64 num, .str name, .rs kids.length 4 (exC kids)] 65⟩, ⟨true, 1, 0, .cells (arr (fun v => .int .i64 (part (evCL r kids) i v)) kids.length) 2⟩]), (fun i => kids.length - i), ⟨0, Nat.zero_le _, ?_⟩, ?_⟩
  · refine FgL.mk [0, 1] rfl ?_ ⟨⟨rfl, rfl, rfl, rfl, BodyGe.pre (rest := []) rfl rfl⟩, ⟨rfl, rfl, rfl, rfl, BodyGe.pre (rest := []) (by rw [List.append_nil, ZfO]) (ZaN _ _ _)⟩, trivial⟩ rfl
    (repeat (first | exact trivial | refine stw ?_))
  intro i hi
  dsimp only
  by_cases hlt : i < kids.length
  · have e3 : decide ((i : Int) < (kids.length : Int)) = true := by simpa using hlt
    have hx := ex4 kids i hlt
    have q1k := q1 kids[i] (Z0i hlt)
    have hst : ∀ off, off = i -> spl (arr (fun v => AV.int .i64 (part (evCL r kids) i v)) kids.length) off [.int .i64 (evC r kids[i])] = some (arr (fun v => .int .i64 (part (evCL r kids) (i + 1) v)) kids.length) := fun off e => by
     rw [<- hvg i hlt]; exact ZhO _ hlt e
    clear q1 q2 q3 hrk hvg
    generalize evC r kids[i] = y at *
    generalize kids[i] = x at *
    obtain ⟨xo, xn, xs, xk⟩ := x
    simp only [Ex.cells] at hx q1k
    repeat' ((conv => whnf); first | (refine exI (q1k _) ?_) | (refine exI hx ?_) | (refine exI (hst _ (by omega)) ?_) | (with_reducible refine ixJ i rfl ?_ ?_; (focus (omega))) | (first | refine stp ?_ | with_reducible refine Z01 (fun h => ?_) (fun h => ?_)))
    conv => whnf
    refine ⟨i + 1, hlt, by show kids.length - (i + 1) < kids.length - i; omega, ?_⟩
    refine FgL.mk [0, 1] rfl ?_ ⟨⟨rfl, rfl, rfl, rfl, BodyGe.pre (rest := []) rfl rfl⟩, ⟨rfl, rfl, rfl, rfl, BodyGe.pre (rest := []) (by rw [List.append_nil]) (ZaN _ _ _)⟩, trivial⟩ rfl
    (repeat (first | exact trivial | refine stw ?_))
  · have e3 : decide ((i : Int) < (kids.length : Int)) = false := by simpa using hlt
    have hi2 : i = kids.length := by have := hi; omega
    subst hi2
    have hpa := ZhP (evCL r kids)
    rw [hvl] at hpa
    rw [hpa]
    have hfz : ∀ cap, frz [⟨true, 0, 0, .cells [.int .i64 op, .int .i64 num, .str name, .rs kids.length 4 (exC kids)] 65⟩, ⟨true, 1, 0, .cells (ksC (evCL r kids)) 2⟩] 30 (.slice 1 0 kids.length cap 1) = some (.rs (evCL r kids).length 1 (ksC (evCL r kids))) := fun cap => by
     rw [hvl]
     exact Z02 (n := 28) (b := 1) rfl (by rw [Z9E, hvl]; omega) (by simp only [ksC, List.all_map]; simp [Z61])
    clear q1 q2 hvg hpa
    repeat' ((conv => whnf); first | (refine exI (q3 _ _ (hfz _)) ?_) | (first | refine stp ?_ | with_reducible refine Z01 (fun h => ?_) (fun h => ?_)))
    all_goals rfl
end Go.Proofs.YteidjbahodbgdaaGreatDoor.lex
end

section
namespace Go.Proofs.YteidjbahodbgdaaGreatDoor.lex
open Go.Abs Go.RowKit Go.Flat
set_option maxRecDepth 100000
set_option maxHeartbeats 4000000
def Z36 (k : Int) : Bool := k == 1 || (k == 2 || (k == 4 || (k == 5 || k == 6)))
def Z6I (k : Int) : Bool := decide (2 <= k /\ k <= 6)
def Zd6 (k : Int) : Bool := decide (2 <= k /\ k <= 7)
def toB (k : Int) : Bool := k == 10 || k == 11
def Z3W (k : Int) : Int := if k = 4 then 2 else if k = 1 \/ k = 3 \/ k = 5 \/ k = 6 \/ k = 8 \/ k = 9 \/ k = 11 then 1 else 0
def inW (n lo hi : Int) (must : Bool) : Bool := if must then decide (lo <= n) && decide (n < hi) else n == 0
def Z0I (regs n : Int) (i : Ins) : Bool := decide (1 <= i.kind /\ i.kind <= 13) && (inW i.reg 0 regs (Z36 i.kind) && (inW i.loc 0 6 (Z6I i.kind) && (inW i.order 1 7 (Zd6 i.kind) && (inW i.to 0 n (toB i.kind) && (((i.ex.length : Int) == Z3W i.kind) && rightPL regs i.ex)))))
theorem Zfc {gl : Z0l} (n lo hi : Int) (m : Bool) : ValOK Tryz.prog gl 77 [.int .i64 n, .int .i64 lo, .int .i64 hi, .bool m] (.bool (inW n lo hi m)) := by
 refine Z0a follows Z09 Z05 Tryz.func77 rfl ?_
 repeat' ((conv => whnf); first | refine stp ?_ | with_reducible refine Z01 (fun h => ?_) (fun h => ?_))
 all_goals (show AV.bool _ = AV.bool _; congr 1; unfold inW; (first | (simp_all; done) | (simp_all; omega) | (simp_all; intros; omega)))
def ZiN (k : Int) : List AV := [.bool (Z36 k), .bool (Z6I k), .bool (Zd6 k), .bool (toB k), .int .i64 (Z3W k)]
theorem ZhI (k : Nat) (h1 : 1 <= k) (h2 : k <= 13) : tk 5 (runLives.tbl3.drop (k * 5)) = some (ZiN k) := by
 have : k = 1 \/ k = 2 \/ k = 3 \/ k = 4 \/ k = 5 \/ k = 6 \/ k = 7 \/ k = 8 \/ k = 9 \/ k = 10 \/ k = 11 \/ k = 12 \/ k = 13 := by omega
 rcases this with rfl | rfl | rfl | rfl | rfl | rfl | rfl | rfl | rfl | rfl | rfl | rfl | rfl <;> rfl
theorem ZfI (regs : Int) (n : Nat) (cs : List AV) (i : Ins) (rest : List AV) (hok : okL i.ex) (hl : i.ex.length <= 9223372036854775807) : ValOK Tryz.prog runLives.gl 66 [.agg [.int .i64 regs, .rs n 6 cs], .rp (Z0m i ++ rest)] (.bool (Z0I regs n i)) := by
 obtain ⟨kind, reg, loc, order, to, ex⟩ := i
 simp only at hok hl
 have hinj : ∀ i j : Nat, i < ex.length -> j < ex.length -> [AV.rp ((exC ex).drop (i * 4)), .int .i64 regs] = [AV.rp ((exC ex).drop (j * 4)), .int .i64 regs] -> AV.bool (Z0q regs (ex.getD i default)) = .bool (Z0q regs (ex.getD j default)) := fun i j hi hj ha => by
  simp only [List.cons.injEq, AV.rp.injEq, and_true] at ha
  rw [ZfF hi hj ha]
 have hall : ∀ i : Nat, i < ex.length -> refsL [AV.rp ((exC ex).drop (i * 4)), .int .i64 regs] [] = [] /\ ValOK Tryz.prog runLives.gl 78 [.rp ((exC ex).drop (i * 4)), .int .i64 regs] (.bool (Z0q regs (ex.getD i default))) := fun i hi => by
  have hg : ex.getD i default = ex[i]'hi := by simp [List.getD_eq_getElem?_getD, hi]
  rw [hg, Z8P ex i hi]
  exact ⟨rfl, ZaK _ _ _ regs (Nat.le_refl _) (Z0H hok _ (Z0i hi))⟩
 obtain ⟨O, hO, p1, p2, -⟩ := fams (P := Tryz.prog) (gl := runLives.gl) [{ I := Int × Int × Int × Bool, f := 77, G := fun _ => True, A := fun p => [.int .i64 p.1, .int .i64 p.2.1, .int .i64 p.2.2.1, .bool p.2.2.2], R := fun p => .bool (inW p.1 p.2.1 p.2.2.1 p.2.2.2), body := (by kernel_rfl), inj := (fun p q _ _ h => by simp only [List.cons.injEq, AV.int.injEq, AV.bool.injEq, and_true, true_and] at h; rw [h.1, h.2.1, h.2.2.1, h.2.2.2]), ok := fun p _ => ⟨rfl, Zfc _ _ _ _⟩ },
  { I := Nat, f := 78, G := fun i => i < ex.length, A := fun i => [.rp ((exC ex).drop (i * 4)), .int .i64 regs], R := fun i => .bool (Z0q regs (ex.getD i default)), body := (by kernel_rfl), inj := hinj, ok := hall }] rfl
 have q1 : ∀ a b c d H, Z04 Tryz.prog O H 77 [.int .i64 a, .int .i64 b, .int .i64 c, .bool d] = some (.bool (inW a b c d), H) := fun a b c d H => p1 (a, b, c, d) trivial H
 have q2 : ∀ i (h : i < ex.length) H, Z04 Tryz.prog O H 78 [.rp ((exC ex).drop (i * 4)), .int .i64 regs] = some (.bool (Z0q regs ex[i]), H) := fun i h H => by
  have hg : ex.getD i default = ex[i]'h := by simp [List.getD_eq_getElem?_getD, h]
  have := p2 i h H
  simpa only [hg] using this
 clear p1 p2 hinj hall
 simp only [Z0m, exA]
 by_cases hk : 1 <= kind /\ kind <= 13
 · obtain ⟨k, rfl⟩ : ∃ k : Nat, kind = k := ⟨kind.toNat, by omega⟩
   have e1 : decide ((k : Int) < 1) = false := by simp; omega
   have e2 : decide ((k : Int) > 13) = false := by simp; omega
   have hx := ZhI k (by omega) (by omega)
   have hr : Z0I regs n ⟨k, reg, loc, order, to, ex⟩ = (inW reg 0 regs (Z36 k) && (inW loc 0 6 (Z6I k) && (inW order 1 7 (Zd6 k) && (inW to 0 n (toB k) && (((ex.length : Int) == Z3W k) && rightPL regs ex))))) := by
    unfold Z0I
    rw [show decide (1 <= (k : Int) /\ (k : Int) <= 13) = true by simpa using hk]
    rfl
   rw [hr]
   simp only [ZiN] at hx
   clear hr
   generalize Z36 k = b1 at *
   generalize Z6I k = b2 at *
   generalize Zd6 k = b3 at *
   generalize toB k = b4 at *
   generalize Z3W k = nx at *
   have q11 := q1 reg 0 regs b1
   have q12 := q1 loc 0 6 b2
   have q13 := q1 order 1 7 b3
   have q14 := q1 to 0 n b4
   clear q1
   generalize inW reg 0 regs b1 = w1 at *
   generalize inW loc 0 6 b2 = w2 at *
   generalize inW order 1 7 b3 = w3 at *
   generalize inW to 0 n b4 = w4 at *
   refine Z0a follows Z09 hO Tryz.func66 rfl ?_
   have hw : (w1 && (w2 && (w3 && w4))) = true \/ (w1 && (w2 && (w3 && w4))) = false := by cases (w1 && (w2 && (w3 && w4))) <;> simp
   rcases hw with hw | hw
   · simp only [Bool.and_eq_true] at hw
     obtain ⟨rfl, rfl, rfl, rfl⟩ := hw
     simp only [Bool.true_and]
     cases hn : ((ex.length : Int) == nx) with
     | false =>
      have e3 : ((ex.length : Int) != nx) = true := by simp only [bne, hn]; rfl
      repeat' ((conv => whnf); first | (refine exI (q11 _) ?_) | (refine exI (q12 _) ?_) | (refine exI (q13 _) ?_) | (refine exI (q14 _) ?_) | (refine exI hx ?_) | (with_reducible refine ixJ k rfl ?_ ?_; (focus (omega))) | (first | refine stp ?_ | with_reducible refine Z01 (fun h => ?_) (fun h => ?_)))
      all_goals rfl
     | true =>
      have e3 : ((ex.length : Int) != nx) = false := by simp only [bne, hn]; rfl
      rw [Bool.true_and]
      repeat' ((conv => whnf); first | (refine exI (q11 _) ?_) | (refine exI (q12 _) ?_) | (refine exI (q13 _) ?_) | (refine exI (q14 _) ?_) | (refine exI hx ?_) | (with_reducible refine ixJ k rfl ?_ ?_; (focus (omega))) | (first | refine stp ?_ | with_reducible refine Z01 (fun h => ?_) (fun h => ?_)))
      conv => whnf
      clear q11 q12 q13 q14 hx
      refine ⟨Nat, (fun i => i <= ex.length /\ rightPL regs (ex.take i) = true), (fun i => [(1, .rp ([.int .i64 k, .int .i64 reg, .int .i64 loc, .int .i64 order, .int .i64 to, .rs ex.length 4 (exC ex)] ++ rest)), (2, .ptr 0 0), (80, .int .i64 ex.length), (81, .int .i64 i)]), (fun i => [⟨true, 0, 0, .cells [.int .i64 regs, .rs n 6 cs] 24⟩]), (fun i => ex.length - i), ⟨0, ⟨Nat.zero_le _, rfl⟩, ?_⟩, ?_⟩
      · refine FgL.mk [0] rfl ?_ ⟨⟨rfl, rfl, rfl, rfl, BodyGe.pre (rest := []) rfl rfl⟩, trivial⟩ rfl
        (repeat (first | exact trivial | refine stw ?_))
      rintro i ⟨hi, hall⟩
      dsimp only
      by_cases hlt : i < ex.length
      · have e3 : decide ((i : Int) < (ex.length : Int)) = true := by simpa using hlt
        have q2' := q2 i hlt
        have hat := Z21 regs ex i hlt
        rw [hall, Bool.true_and] at hat
        have hst := Z2r (regs := regs) hlt
        generalize Z0q regs ex[i] = r at *
        cases r with
        | true =>
         repeat' ((conv => whnf); first | (refine exI (q2' _) ?_) | (with_reducible refine ixJ i rfl ?_ ?_; (focus (omega))) | (first | refine stp ?_ | with_reducible refine Z01 (fun h => ?_) (fun h => ?_)))
         conv => whnf
         refine ⟨i + 1, ⟨hlt, hat⟩, by show ex.length - (i + 1) < ex.length - i; omega, ?_⟩
         refine FgL.mk [0] rfl ?_ ⟨⟨rfl, rfl, rfl, rfl, BodyGe.pre (rest := []) rfl rfl⟩, trivial⟩ rfl
         (repeat (first | exact trivial | refine stw ?_))
        | false =>
         rw [hst rfl]
         repeat' ((conv => whnf); first | (refine exI (q2' _) ?_) | (with_reducible refine ixJ i rfl ?_ ?_; (focus (omega))) | (first | refine stp ?_ | with_reducible refine Z01 (fun h => ?_) (fun h => ?_)))
         all_goals rfl
      · have e3 : decide ((i : Int) < (ex.length : Int)) = false := by simpa using hlt
        have hi2 : i = ex.length := by omega
        subst hi2
        rw [List.take_length] at hall
        rw [hall]
        repeat' ((conv => whnf); first | (first | refine stp ?_ | with_reducible refine Z01 (fun h => ?_) (fun h => ?_)))
        all_goals rfl
   · rw [show (w1 && (w2 && (w3 && (w4 && (((ex.length : Int) == nx) && rightPL regs ex))))) = false by revert hw; cases w1 <;> cases w2 <;> cases w3 <;> cases w4 <;> simp]
     cases w1 with
     | false =>
      repeat' ((conv => whnf); first | (refine exI (q11 _) ?_) | (refine exI (q12 _) ?_) | (refine exI (q13 _) ?_) | (refine exI (q14 _) ?_) | (refine exI hx ?_) | (with_reducible refine ixJ k rfl ?_ ?_; (focus (omega))) | (first | refine stp ?_ | with_reducible refine Z01 (fun h => ?_) (fun h => ?_)))
      all_goals rfl
     | true =>
      cases w2 with
      | false =>
       repeat' ((conv => whnf); first | (refine exI (q11 _) ?_) | (refine exI (q12 _) ?_) | (refine exI (q13 _) ?_) | (refine exI (q14 _) ?_) | (refine exI hx ?_) | (with_reducible refine ixJ k rfl ?_ ?_; (focus (omega))) | (first | refine stp ?_ | with_reducible refine Z01 (fun h => ?_) (fun h => ?_)))
       all_goals rfl
      | true =>
       cases w3 with
       | false =>
        repeat' ((conv => whnf); first | (refine exI (q11 _) ?_) | (refine exI (q12 _) ?_) | (refine exI (q13 _) ?_) | (refine exI (q14 _) ?_) | (refine exI hx ?_) | (with_reducible refine ixJ k rfl ?_ ?_; (focus (omega))) | (first | refine stp ?_ | with_reducible refine Z01 (fun h => ?_) (fun h => ?_)))
        all_goals rfl
       | true =>
        cases w4 with
        | false =>
         repeat' ((conv => whnf); first | (refine exI (q11 _) ?_) | (refine exI (q12 _) ?_) | (refine exI (q13 _) ?_) | (refine exI (q14 _) ?_) | (refine exI hx ?_) | (with_reducible refine ixJ k rfl ?_ ?_; (focus (omega))) | (first | refine stp ?_ | with_reducible refine Z01 (fun h => ?_) (fun h => ?_)))
         all_goals rfl
        | true => cases hw
 · have hr : Z0I regs n ⟨kind, reg, loc, order, to, ex⟩ = false := by
    unfold Z0I
    rw [show decide (1 <= kind /\ kind <= 13) = false by simpa using hk]; rfl
   rw [hr]
   refine Z0a follows Z09 hO Tryz.func66 rfl ?_
   by_cases h1 : kind < 1
   · have e1 : decide (kind < 1) = true := by simpa using h1
     repeat' ((conv => whnf); first | (first | refine stp ?_ | with_reducible refine Z01 (fun h => ?_) (fun h => ?_)))
     all_goals rfl
   · have e1 : decide (kind < 1) = false := by simpa using h1
     have e2 : decide (kind > 13) = true := by simp; omega
     repeat' ((conv => whnf); first | (first | refine stp ?_ | with_reducible refine Z01 (fun h => ?_) (fun h => ?_)))
     all_goals rfl
end Go.Proofs.YteidjbahodbgdaaGreatDoor.lex
end

section
namespace Go.Proofs.YteidjbahodbgdaaGreatDoor.lex
open Go.Abs Go.RowKit Go.Flat
set_option maxRecDepth 100000
set_option maxHeartbeats 4000000
instance : Inhabited (In Ex) := ⟨⟨0, 0, 0, 0, 0, []⟩⟩
def Zhk (c : Cd) : Bool := c.ins.any fun i => i.ex.any Z4W
def ZeG (c : Cd) : Bool := match c.ins[c.ins.length - 1]? with
 | some i => i.kind == 10 || (i.kind == 12 || i.kind == 13)
 | none => false
def Z31 (c : Cd) : Int := if (16 < c.regs \/ 4000 < c.ins.length) \/ Zhk c = true then 3 else if c.regs < 0 \/ c.ins.length = 0 then 2 else if c.ins.all (Z0I c.regs c.ins.length) = false then 2 else if ZeG c = true then 0 else 2
theorem Zmg {α : Type} {p : α -> Bool} (l : List α) (i : Nat) (h : i < l.length) : (l.take (i + 1)).any p = ((l.take i).any p || p l[i]) := by
 rw [List.take_succ_eq_append_getElem h, List.any_append]; simp
theorem Zl9 {α : Type} {p : α -> Bool} (l : List α) (i : Nat) (h : i < l.length) : (l.take (i + 1)).all p = ((l.take i).all p && p l[i]) := by
 rw [List.take_succ_eq_append_getElem h, List.all_append]; simp
theorem Z80 {α : Type} {p : α -> Bool} {l : List α} {i : Nat} (h : i < l.length) (h2 : p l[i] = true) : l.any p = true := List.any_eq_true.2 ⟨_, List.getElem_mem h, h2⟩
theorem Z6a {α : Type} {p : α -> Bool} {l : List α} {i : Nat} (h : i < l.length) (h2 : p l[i] = false) : l.all p = false := by
 rw [Bool.eq_false_iff]; intro h3
 rw [List.all_eq_true.1 h3 _ (List.getElem_mem h)] at h2; cases h2
def ckH (regs : Int) (n : Nat) (cs : List AV) (s : Nat) : Z00 := [⟨true, 0, 0, .cells [.int .i64 regs, .rs n 6 cs] 24⟩, ⟨true, 1, 0, .cells [.int .i64 s] 3⟩]
theorem ZhE (regs : Int) (n : Nat) (cs : List AV) (e : Ex) (rest : List AV) (hok : okE e) : Z1O Tryz.prog runLives.gl 65 [.rp (e.cells ++ rest), .int .i64 1, .ptr 1 0] (ckH regs n cs 0) (.bool (smE e 1 0).1) (ckH regs n cs (smE e 1 0).2) := by
 have hM := ZcT (gl := runLives.gl) (Z0f e) e rest 1 0 (Nat.le_refl _) hok (by omega) (by omega) (by omega)
 generalize (smE e 1 0).1 = b at *
 generalize (smE e 1 0).2 = t at *
 have h := Zg4 (m := [1]) (n := 3) (Hc := ckH regs n cs 0) (cargs := [.rp (e.cells ++ rest), .int .i64 1, .ptr 1 0]) hM rfl ?_ rfl rfl rfl rfl rfl rfl
 · have e1 : Zed [1] (szH t) 0 (ckH regs n cs 0) = ckH regs n cs t := rfl
   rw [e1] at h
   exact h
 · exact ⟨⟨rfl, rfl, rfl, rfl, BodyGe.pre (rest := []) rfl rfl⟩, trivial⟩
theorem Za3 {a b : Ex} {r s : List AV} (h : a.cells ++ r = b.cells ++ s) : a = b := Z16 _ _ (List.append_inj_left h (by rw [Z2x, Z2x]))
theorem Z8K {a b : Ins} (h : Z0m a = Z0m b) : a = b := by
 obtain ⟨k, r, l, o, t, x⟩ := a
 obtain ⟨k', r', l', o', t', x'⟩ := b
 simp only [Z0m, List.cons.injEq, AV.int.injEq, true_and, and_true] at h
 obtain ⟨rfl, rfl, rfl, rfl, rfl, h⟩ := h
 rw [Zgz h]
theorem Z8f {a b : Ins} {r s : List AV} (h : Z0m a ++ r = Z0m b ++ s) : a = b := Z8K (List.append_inj_left h rfl)
theorem Zkh (l : List Ins) (k : Nat) (h : k < l.length) : tk 1 (((inC l).drop (k * 6)).drop 5) = some [exA l[k].ex] := by rw [Z8J l k h]; rfl
theorem Zkg (l : List Ins) (k : Nat) (h : k < l.length) : tk 1 (((inC l).drop (k * 6)).drop 0) = some [.int .i64 l[k].kind] := by rw [Z8J l k h]; rfl
theorem Z8I (c : Cd) (hok : okC c) : ValOK Tryz.prog runLives.gl 47 [c.av] (.int .i64 (Z31 c)) := by
 obtain ⟨regs, ins⟩ := c
 obtain ⟨hl, hx⟩ := hok
 simp only at hl hx
 have hinj : ∀ p q : Ex × List AV, okE p.1 -> okE q.1 -> [AV.rp (p.1.cells ++ p.2), .int .i64 1, .ptr 1 0] = [AV.rp (q.1.cells ++ q.2), .int .i64 1, .ptr 1 0] -> ckH regs ins.length (inC ins) 0 = ckH regs ins.length (inC ins) 0 ->
   AV.bool (smE p.1 1 0).1 = .bool (smE q.1 1 0).1 /\ ckH regs ins.length (inC ins) (smE p.1 1 0).2 = ckH regs ins.length (inC ins) (smE q.1 1 0).2 := fun p q _ _ ha _ => by
  simp only [List.cons.injEq, AV.rp.injEq, and_true] at ha
  rw [Za3 ha]; exact ⟨rfl, rfl⟩
 have hinj2 : ∀ p q : Ins × List AV, (okL p.1.ex /\ p.1.ex.length <= 9223372036854775807) -> (okL q.1.ex /\ q.1.ex.length <= 9223372036854775807) -> [AV.agg [.int .i64 regs, .rs ins.length 6 (inC ins)], AV.rp (Z0m p.1 ++ p.2)] = [AV.agg [.int .i64 regs, .rs ins.length 6 (inC ins)], AV.rp (Z0m q.1 ++ q.2)] ->
   AV.bool (Z0I regs ins.length p.1) = .bool (Z0I regs ins.length q.1) := fun p q _ _ ha => by
  simp only [List.cons.injEq, AV.rp.injEq, and_true, true_and] at ha
  rw [Z8f ha]
 obtain ⟨O, hO, ⟨p1, -⟩, p2, -⟩ := Z6G (P := Tryz.prog) (gl := runLives.gl) [{ I := Ex × List AV, f := 65, G := fun p => okE p.1, A := fun p => [.rp (p.1.cells ++ p.2), .int .i64 1, .ptr 1 0], H := fun p => ckH regs ins.length (inC ins) 0, R := fun p => .bool (smE p.1 1 0).1, O := fun p => ckH regs ins.length (inC ins) (smE p.1 1 0).2, body := (by kernel_rfl), inj := hinj, ok := fun p hp => ZhE regs ins.length (inC ins) p.1 p.2 hp }]
  [{ I := Ins × List AV, f := 66, G := fun p => okL p.1.ex /\ p.1.ex.length <= 9223372036854775807, A := fun p => [.agg [.int .i64 regs, .rs ins.length 6 (inC ins)], .rp (Z0m p.1 ++ p.2)], R := fun p => .bool (Z0I regs ins.length p.1), body := (by kernel_rfl), inj := hinj2, ok := fun p hp => ⟨rfl, ZfI regs ins.length (inC ins) p.1 p.2 hp.1 hp.2⟩ }] rfl
 have q1 : ∀ (ex : List Ex) m (h : m < ex.length), okL ex -> Z04 Tryz.prog O (ckH regs ins.length (inC ins) 0) 65 [.rp ((exC ex).drop (m * 4)), .int .i64 1, .ptr 1 0] = some (.bool (!Z4W ex[m]), ckH regs ins.length (inC ins) (smE ex[m] 1 0).2) := fun ex m h ho => by
  rw [Z8P ex m h, <- Zln]
  exact p1 (ex[m], _) (Z0H ho _ (Z0i h))
 have q2 : ∀ i (h : i < ins.length) H, Z04 Tryz.prog O H 66 [.agg [.int .i64 regs, .rs ins.length 6 (inC ins)], .rp ((inC ins).drop (i * 6))] = some (.bool (Z0I regs ins.length ins[i]), H) := fun i h H => by
  rw [Z8J ins i h]
  exact p2 (ins[i], _) ⟨(hx _ (Z0i h)).2, (hx _ (Z0i h)).1⟩ H
 clear p1 p2 hinj hinj2
 unfold Z31
 simp only [Cd.av, ckH] at q1 ⊢
 by_cases h1 : 16 < regs \/ 4000 < ins.length
 · rw [if_pos (.inl h1)]
   refine Z0a follows Z09 hO Tryz.func47 rfl ?_
   by_cases h2 : 16 < regs
   · have e1 : decide (regs > 16) = true := by simpa using h2
     repeat' ((conv => whnf); first | refine stp ?_ | with_reducible refine Z01 (fun h => ?_) (fun h => ?_))
     all_goals rfl
   · have e1 : decide (regs > 16) = false := by simpa using h2
     have e2 : decide ((ins.length : Int) > 4000) = true := by simp; omega
     repeat' ((conv => whnf); first | refine stp ?_ | with_reducible refine Z01 (fun h => ?_) (fun h => ?_))
     all_goals rfl
 have e1 : decide (regs > 16) = false := by simp; omega
 have e2 : decide ((ins.length : Int) > 4000) = false := by simp; omega
 refine Z0a follows Z09 hO Tryz.func47 rfl ?_
 repeat' ((conv => whnf); first | refine stp ?_ | with_reducible refine Z01 (fun h => ?_) (fun h => ?_))
 conv => whnf
 refine ⟨Nat, (fun i => i <= ins.length /\ (ins.take i).any (fun i => i.ex.any Z4W) = false), (fun i => [(1, .ptr 0 0), (18, .int .i64 ins.length), (19, .int .i64 i)]), (fun i => [⟨true, 0, 0, .cells [.int .i64 regs, .rs ins.length 6 (inC ins)] 24⟩]), (fun i => ins.length - i), ⟨0, ⟨Nat.zero_le _, rfl⟩, ?_⟩, ?_⟩
 · refine FgL.mk [0] rfl ?_ ⟨⟨rfl, rfl, rfl, rfl, BodyGe.pre (rest := []) rfl rfl⟩, trivial⟩ rfl
   (repeat (first | exact trivial | refine stw ?_))
 rintro i ⟨hi, hall⟩
 dsimp only
 by_cases hlt : i < ins.length
 · have e3 : decide ((i : Int) < (ins.length : Int)) = true := by simpa using hlt
   have hx5 := Zkh ins i hlt
   have hat := Zmg (p := fun i : Ins => i.ex.any Z4W) ins i hlt
   rw [hall, Bool.false_or] at hat
   have hbg : ins[i].ex.any Z4W = true -> Zhk ⟨regs, ins⟩ = true := fun h => Z80 (p := fun i : Ins => i.ex.any Z4W) hlt h
   have hxi := hx _ (Z0i hlt)
   have q1' := q1 ins[i].ex
   clear q1
   generalize ins[i] = y at *
   obtain ⟨k, r, lo, od, to, ex⟩ := y
   simp only [exA] at *
   repeat' ((conv => whnf); first | (refine exI hx5 ?_) | (with_reducible refine ixJ i rfl ?_ ?_; (focus (omega))) | (first | refine stp ?_ | with_reducible refine Z01 (fun h => ?_) (fun h => ?_)))
   conv => whnf
   refine ⟨Nat, (fun m => m <= ex.length /\ (ex.take m).any Z4W = false), (fun m => [(1, .ptr 0 0), (3, .int .i64 i), (18, .int .i64 ins.length), (19, .int .i64 i), (28, .int .i64 ex.length), (29, .int .i64 m)]), (fun m => [⟨true, 0, 0, .cells [.int .i64 regs, .rs ins.length 6 (inC ins)] 24⟩]), (fun m => ex.length - m), ⟨0, ⟨Nat.zero_le _, rfl⟩, ?_⟩, ?_⟩
   · refine FgL.mk [0] rfl ?_ ⟨⟨rfl, rfl, rfl, rfl, BodyGe.pre (rest := []) rfl rfl⟩, trivial⟩ rfl
     (repeat (first | exact trivial | refine stw ?_))
   rintro m ⟨hm, hall2⟩
   dsimp only
   by_cases hmt : m < ex.length
   · have e4 : decide ((m : Int) < (ex.length : Int)) = true := by simpa using hmt
     have q3 := q1' m hmt hxi.2
     have ham := Zmg (p := Z4W) ex m hmt
     rw [hall2, Bool.false_or] at ham
     have hb2 := Z80 (p := Z4W) (l := ex) hmt
     generalize (smE ex[m] 1 0).2 = t at *
     generalize Z4W ex[m] = b at *
     cases b with
     | false =>
      simp only [Bool.not_false] at q3
      repeat' ((conv => whnf); first | (refine exI q3 ?_) | (refine exI hx5 ?_) | (with_reducible refine ixJ i rfl ?_ ?_; (focus (omega))) | (with_reducible refine ixJ m rfl ?_ ?_; (focus (omega))) | (first | refine stp ?_ | with_reducible refine Z01 (fun h => ?_) (fun h => ?_)))
      conv => whnf
      refine ⟨m + 1, ⟨hmt, ham⟩, by show ex.length - (m + 1) < ex.length - m; omega, ?_⟩
      refine FgL.mk [0] rfl ?_ ⟨⟨rfl, rfl, rfl, rfl, BodyGe.pre (rest := []) rfl rfl⟩, trivial⟩ rfl
      (repeat (first | exact trivial | refine stw ?_))
     | true =>
      simp only [Bool.not_true] at q3
      rw [if_pos (.inr (hbg (hb2 rfl)))]
      repeat' ((conv => whnf); first | (refine exI q3 ?_) | (refine exI hx5 ?_) | (with_reducible refine ixJ i rfl ?_ ?_; (focus (omega))) | (with_reducible refine ixJ m rfl ?_ ?_; (focus (omega))) | (first | refine stp ?_ | with_reducible refine Z01 (fun h => ?_) (fun h => ?_)))
      all_goals rfl
   · have e4 : decide ((m : Int) < (ex.length : Int)) = false := by simpa using hmt
     have hm2 : m = ex.length := by omega
     subst hm2
     rw [List.take_length] at hall2
     rw [hall2] at hat
     repeat' ((conv => whnf); first | (first | refine stp ?_ | with_reducible refine Z01 (fun h => ?_) (fun h => ?_)))
     conv => whnf
     refine ⟨i + 1, ⟨hlt, hat⟩, by show ins.length - (i + 1) < ins.length - i; omega, ?_⟩
     refine FgL.mk [0] rfl ?_ ⟨⟨rfl, rfl, rfl, rfl, BodyGe.pre (rest := []) rfl rfl⟩, trivial⟩ rfl
     (repeat (first | exact trivial | refine stw ?_))
 · have e3 : decide ((i : Int) < (ins.length : Int)) = false := by simpa using hlt
   have hi2 : i = ins.length := by omega
   subst hi2
   rw [List.take_length] at hall
   clear q1
   have hbig : ¬ ((16 < regs \/ 4000 < ins.length) \/ Zhk ⟨regs, ins⟩ = true) := by
    rintro (h | h)
    · exact h1 h
    · rw [show Zhk ⟨regs, ins⟩ = false from hall] at h; cases h
   rw [if_neg hbig]
   by_cases h2 : regs < 0 \/ ins.length = 0
   · rw [if_pos h2]
     by_cases h3 : regs < 0
     · have e4 : decide (regs < 0) = true := by simpa using h3
       repeat' ((conv => whnf); first | (first | refine stp ?_ | with_reducible refine Z01 (fun h => ?_) (fun h => ?_)))
       all_goals rfl
     · have e4 : decide (regs < 0) = false := by simpa using h3
       have e5 : ((ins.length : Int) == 0) = true := by simp; rcases h2 with h2 | h2; exact absurd h2 h3; simpa using h2
       repeat' ((conv => whnf); first | (first | refine stp ?_ | with_reducible refine Z01 (fun h => ?_) (fun h => ?_)))
       all_goals rfl
   rw [if_neg h2]
   have e4 : decide (regs < 0) = false := by simp; omega
   have h0 : ins.length ≠ 0 := fun e => h2 (.inr e)
   have e5 : ((ins.length : Int) == 0) = false := by simp; intro e; exact h0 (by rw [e]; rfl)
   repeat' ((conv => whnf); first | (first | refine stp ?_ | with_reducible refine Z01 (fun h => ?_) (fun h => ?_)))
   conv => whnf
   refine ⟨Nat, (fun i => i <= ins.length /\ (ins.take i).all (Z0I regs ins.length) = true), (fun i => [(1, .ptr 0 0), (55, .int .i64 ins.length), (56, .int .i64 i)]), (fun i => [⟨true, 0, 0, .cells [.int .i64 regs, .rs ins.length 6 (inC ins)] 24⟩]), (fun i => ins.length - i), ⟨0, ⟨Nat.zero_le _, rfl⟩, ?_⟩, ?_⟩
   · refine FgL.mk [0] rfl ?_ ⟨⟨rfl, rfl, rfl, rfl, BodyGe.pre (rest := []) rfl rfl⟩, trivial⟩ rfl
     (repeat (first | exact trivial | refine stw ?_))
   rintro i ⟨hi, hall3⟩
   dsimp only
   by_cases hlt : i < ins.length
   · have e6 : decide ((i : Int) < (ins.length : Int)) = true := by simpa using hlt
     have q3 := q2 i hlt
     have hat := Zl9 (p := Z0I regs ins.length) ins i hlt
     rw [hall3, Bool.true_and] at hat
     have hst := Z6a (p := Z0I regs ins.length) hlt
     generalize Z0I regs ins.length ins[i] = b at *
     cases b with
     | true =>
      repeat' ((conv => whnf); first | (refine exI (q3 _) ?_) | (with_reducible refine ixJ i rfl ?_ ?_; (focus (omega))) | (first | refine stp ?_ | with_reducible refine Z01 (fun h => ?_) (fun h => ?_)))
      conv => whnf
      refine ⟨i + 1, ⟨hlt, hat⟩, by show ins.length - (i + 1) < ins.length - i; omega, ?_⟩
      refine FgL.mk [0] rfl ?_ ⟨⟨rfl, rfl, rfl, rfl, BodyGe.pre (rest := []) rfl rfl⟩, trivial⟩ rfl
      (repeat (first | exact trivial | refine stw ?_))
     | false =>
      rw [if_pos (hst rfl)]
      repeat' ((conv => whnf); first | (refine exI (q3 _) ?_) | (with_reducible refine ixJ i rfl ?_ ?_; (focus (omega))) | (first | refine stp ?_ | with_reducible refine Z01 (fun h => ?_) (fun h => ?_)))
      all_goals rfl
   · have e6 : decide ((i : Int) < (ins.length : Int)) = false := by simpa using hlt
     have hi2 : i = ins.length := by omega
     subst hi2
     rw [List.take_length] at hall3
     rw [if_neg (by rw [hall3]; decide)]
     have hlast : ins.length - 1 < ins.length := by omega
     have hk := Zkg ins (ins.length - 1) hlast
     have hlb : ZeG ⟨regs, ins⟩ = (ins[ins.length - 1].kind == 10 || (ins[ins.length - 1].kind == 12 || ins[ins.length - 1].kind == 13)) := by
      simp only [ZeG, List.getElem?_eq_getElem hlast]
     rw [hlb]
     have w1 : IntKind.i64.wrap ((ins.length : Int) - 1) = ((ins.length - 1 : Nat) : Int) := by rw [Z4X (by omega) (by omega)]; omega
     generalize ins[ins.length - 1].kind = k at *
     cases c1 : (k == 10) <;> cases c2 : (k == 12) <;> cases c3 : (k == 13)
     all_goals (repeat' ((conv => whnf); first | (refine exI hk ?_) | (with_reducible refine exW w1 ?_) | (with_reducible refine ixJ (ins.length - 1) rfl ?_ ?_; (focus (omega))) | (first | refine stp ?_ | with_reducible refine Z01 (fun h => ?_) (fun h => ?_))))
     all_goals rfl
end Go.Proofs.YteidjbahodbgdaaGreatDoor.lex
end

section
namespace Go.Proofs.YteidjbahodbgdaaGreatDoor.lex
open Go.Abs Go.RowKit
def Z3C (s : List UInt8) : List (List UInt8) -> Nat
 | [] => 0
 | x :: o => if Op.bytesLess x s = true then Z3C s o + 1 else 0
def Z9H (s : List UInt8) : List (List UInt8) -> List (List UInt8)
 | [] => [s]
 | x :: o => if Op.bytesLess x s = true then x :: Z9H s o else if (x == s) = true then x :: o else s :: x :: o
def Z4U (l : List (List UInt8)) : List (List UInt8) := l.foldl (fun o s => Z9H s o) []
theorem Zc5 (s : List UInt8) : ∀ o, Z3C s o <= o.length
 | [] => Nat.le_refl _
 | x :: o => by have := Zc5 s o; simp only [Z3C, List.length_cons]; split <;> omega
theorem ZfM (s : List UInt8) : ∀ (o : List (List UInt8)) (k : Nat) (h : k < o.length), k < Z3C s o -> Op.bytesLess o[k] s = true
 | x :: o, 0, h, hk => by
  simp only [Z3C] at hk
  split at hk
  · assumption
  · omega
 | x :: o, k + 1, h, hk => by
  simp only [Z3C] at hk
  split at hk
  · exact ZfM s o k (by simpa using h) (by omega)
  · omega
theorem ZfN (s : List UInt8) : ∀ (o : List (List UInt8)) (h : Z3C s o < o.length), Op.bytesLess o[Z3C s o] s = false
 | x :: o, h => by
  cases hx : Op.bytesLess x s with
  | true =>
   have e : Z3C s (x :: o) = Z3C s o + 1 := by simp [Z3C, hx]
   simp only [e, List.length_cons] at h
   simp only [e, List.getElem_cons_succ]
   exact ZfN s o (by omega)
  | false =>
   have e : Z3C s (x :: o) = 0 := by simp [Z3C, hx]
   simp only [e, List.getElem_cons_zero]; exact hx
theorem Zb1 (s : List UInt8) : ∀ (o : List (List UInt8)) (h : Z3C s o < o.length), (o[Z3C s o] == s) = true -> Z9H s o = o
 | x :: o, h, he => by
  cases hx : Op.bytesLess x s with
  | true =>
   have e : Z3C s (x :: o) = Z3C s o + 1 := by simp [Z3C, hx]
   simp only [e, List.length_cons] at h
   simp only [e, List.getElem_cons_succ] at he
   simp only [Z9H, hx, if_true, Zb1 s o (by omega) he]
  | false =>
   have e : Z3C s (x :: o) = 0 := by simp [Z3C, hx]
   simp only [e, List.getElem_cons_zero] at he
   simp only [Z9H, hx, he, if_true, Bool.false_eq_true, if_false]
theorem Zdr (s : List UInt8) : ∀ (o : List (List UInt8)), (∀ h : Z3C s o < o.length, (o[Z3C s o] == s) = false) -> Z9H s o = o.take (Z3C s o) ++ (s :: o.drop (Z3C s o))
 | [], _ => rfl
 | x :: o, he => by
  cases hx : Op.bytesLess x s with
  | true =>
   have e : Z3C s (x :: o) = Z3C s o + 1 := by simp [Z3C, hx]
   have := Zdr s o fun h => by
    have := he (by rw [e]; simpa using h)
    simpa only [e, List.getElem_cons_succ] using this
   rw [e]
   simp only [Z9H, hx, if_true, List.take_succ_cons, List.drop_succ_cons, List.cons_append, <- this]
  | false =>
   have e : Z3C s (x :: o) = 0 := by simp [Z3C, hx]
   have h2 := he (by rw [e]; simp)
   simp only [e, List.getElem_cons_zero] at h2
   rw [e]
   simp only [Z9H, hx, h2, Bool.false_eq_true, if_false, List.take_zero, List.drop_zero, List.nil_append]
theorem Zds {s x : List UInt8} : ∀ {o : List (List UInt8)}, x ∈ Z9H s o ↔ x ∈ o \/ x = s
 | [] => by simp [Z9H]
 | y :: o => by
  have ih := Zds (s := s) (x := x) (o := o)
  simp only [Z9H]
  split
  · simp only [List.mem_cons, ih, or_assoc]
  · split
    · rename_i h
      have : y = s := by simpa using h
      subst this
      simp only [List.mem_cons]
      constructor
      · exact .inl
      · rintro (h | rfl)
        · exact h
        · exact .inl rfl
    · simp only [List.mem_cons]
      constructor
      · rintro (h | h)
        · exact .inr h
        · exact .inl h
      · rintro (h | h)
        · exact .inr h
        · exact .inl h
theorem Zdt (s : List UInt8) : ∀ o, (Z9H s o).length <= o.length + 1
 | [] => by simp [Z9H]
 | x :: o => by have := Zdt s o; simp only [Z9H]; split <;> (try split) <;> simp only [List.length_cons] <;> omega
theorem Z9l : ∀ (l o : List (List UInt8)), (l.foldl (fun o s => Z9H s o) o).length <= o.length + l.length
 | [], o => by simp
 | s :: l, o => by
  have := Z9l l (Z9H s o)
  have h2 := Zdt s o
  simp only [List.foldl_cons, List.length_cons]; omega
theorem Z6P {x : List UInt8} : ∀ {l o : List (List UInt8)}, x ∈ l.foldl (fun o s => Z9H s o) o ↔ x ∈ o \/ x ∈ l
 | [], o => by simp
 | s :: l, o => by
  have := Z6P (x := x) (l := l) (o := Z9H s o)
  simp only [List.foldl_cons, this, Zds, List.mem_cons, or_assoc]
theorem ZfA (l : List (List UInt8)) (i : Nat) (h : i < l.length) : Z4U (l.take (i + 1)) = Z9H l[i] (Z4U (l.take i)) := by
 unfold Z4U
 rw [List.take_succ_eq_append_getElem h, List.foldl_append]; rfl
theorem Z9k (l : List (List UInt8)) (i : Nat) : (Z4U (l.take i)).length <= l.length := by
 have := Z9l (l.take i) []
 unfold Z4U
 simp only [List.length_nil, List.length_take] at this
 omega
end Go.Proofs.YteidjbahodbgdaaGreatDoor.lex
end

section
namespace Go.Proofs.YteidjbahodbgdaaGreatDoor.lex
open Go.Abs Go.RowKit
set_option maxRecDepth 100000
set_option maxHeartbeats 4000000
variable {gl : Z0l}
def Z1h (l : List (List UInt8)) : List AV := l.map AV.str
theorem Z2C (l : List (List UInt8)) : (Z1h l).length = l.length * 1 := by simp [Z1h]
theorem Z1F (x : List UInt8) (l : List (List UInt8)) : (Z1h (x :: l)).length = (l.length + 1) * 1 := by simp [Z1h]
theorem Zhw (a b : List (List UInt8)) : Z1h (a ++ b) = Z1h a ++ Z1h b := by simp [Z1h]
theorem Z48 : ∀ l : List (List UInt8), (Z1h l).all lit = true
 | [] => rfl
 | x :: l => Z48 l
theorem Z0s (l : List (List UInt8)) : refsL (Z1h l) [] = [] := ZaD l []
theorem Z5j : ∀ (l : List Ex) (i : Nat) (h : i < l.length), nmL (l.take (i + 1)) = nmL (l.take i) ++ nmE l[i]
 | e :: l, 0, h => by simp [nmL]
 | e :: l, i + 1, h => by
  have := Z5j l i (by simpa using h)
  simp only [List.take_succ_cons, nmL, List.getElem_cons_succ] at this ⊢
  rw [this, List.append_assoc]
theorem Z2E (l : List Ex) (i : Nat) : (nmL (l.take i)).length <= (nmL l).length := by
 have h : nmL l = nmL (l.take i) ++ nmL (l.drop i) := by
  have hg : ∀ a b : List Ex, nmL (a ++ b) = nmL a ++ nmL b := by
   intro a b
   induction a with
   | nil => rfl
   | cons x a ih => simp only [List.cons_append, nmL, ih, List.append_assoc]
  rw [<- hg, List.take_append_drop]
 rw [h, List.length_append]; omega
end Go.Proofs.YteidjbahodbgdaaGreatDoor.lex
end

section
namespace Go.Proofs.YteidjbahodbgdaaGreatDoor.lex
open Go.Abs Go.RowKit
set_option maxRecDepth 100000
set_option maxHeartbeats 4000000
variable {gl : Z0l}
theorem Zd1 : ∀ (n : Nat) (e : Ex), Z0f e <= n -> okE e -> Z0f e <= 1048576 -> ValOK Tryz.prog gl 97 [.agg e.cells] (rsK (nmE e))
 | n, e, h, hok, hs => by
  obtain ⟨O, hO, p1, -⟩ := fams (P := Tryz.prog) (gl := gl) [{ I := Ex, f := 97, G := fun x => Z0f x < n /\ okE x /\ Z0f x <= 1048576, A := fun x => [.agg x.cells], R := fun x => rsK (nmE x), body := (by kernel_rfl), inj := (fun i j _ _ h => by rw [Z6c h]), ok := (fun x hx => ⟨Z40 x, match n, hx.1 with | n + 1, h => Zd1 n x (by omega) hx.2.1 hx.2.2⟩) }] rfl
  have q1 : ∀ x, Z0f x < n -> okE x -> Z0f x <= 1048576 -> ∀ H, Z04 Tryz.prog O H 97 [.agg x.cells] = some (.rs (nmE x).length 1 (Z1h (nmE x)), H) := fun x h1 h2 h3 => p1 x ⟨h1, h2, h3⟩
  clear p1
  have hT : Z74 Tryz.prog 91 91 = some (9, 1, 16) := by kernel_rfl
  obtain ⟨op, num, name, kids⟩ := e
  have hk := Z2d hok
  simp only [Ex.kids, Ex.name, okN] at hk
  have hnl := Z4E (.mk op num name kids)
  simp only [Z0f] at h hs hnl
  simp only [nmE, List.length_append] at hnl ⊢
  simp only [Ex.cells, exA, rsK]
  refine Z5Y follows Z09 hO Tryz.func97 rfl ?_
  generalize hpre : (cond (op == 2 && !(name == [])) [name] []) = pre at *
  cases ho : (op == 2) with
  | false =>
   rw [ho] at hpre
   simp only [Bool.false_and, cond_false] at hpre
   repeat' ((conv => whnf); first | refine stp ?_ | with_reducible refine Z01 (fun h => ?_) (fun h => ?_))
   conv => whnf
   refine ⟨Nat, (fun i => i <= kids.length), (fun i => [(1, .ptr 0 0), (3, grA 1 1 (pre ++ nmL (kids.take i))), (4, .int .i64 i)]), (fun i => ⟨true, 0, 0, .cells [.int .i64 op, .int .i64 num, .str name, .rs kids.length 4 (exC kids)] 65⟩ :: grB 1 Z1h 9 (pre ++ nmL (kids.take i))), (fun i => kids.length - i), ⟨0, Nat.zero_le _, ?_⟩, ?_⟩
   · subst hpre
     exact FgL.mk [0] rfl ⟨Wk.ptr rfl rfl, Wk.noref rfl, Wk.int rfl, trivial⟩ ⟨⟨rfl, rfl, rfl, rfl, BodyGe.pre (rest := []) rfl rfl⟩, trivial⟩ rfl
   intro i hi
   dsimp only
   have hle := Z2E kids i
   by_cases hlt : i < kids.length
   · have e1 : decide ((i : Int) < (kids.length : Int)) = true := by simpa using hlt
     have hx := ex4 kids i hlt
     have hsz := Z0w _ _ (Z0i hlt)
     have hlr := Z4E kids[i]
     have q2 := q1 kids[i] (by omega) (Z0H hk.2 _ (Z0i hlt)) (by omega)
     have hnx : pre ++ nmL (kids.take (i + 1)) = (pre ++ nmL (kids.take i)) ++ nmE kids[i] := by rw [Z5j kids i hlt, List.append_assoc]
     have hlo : (pre ++ nmL (kids.take i)).length <= 2097152 := by rw [List.length_append]; omega
     generalize pre ++ nmL (kids.take i) = o at *
     generalize hr : nmE kids[i] = r at *
     generalize kids[i] = x at *
     obtain ⟨xo, xn, xs, xk⟩ := x
     simp only [Ex.cells] at hx q2
     cases o with
     | nil =>
      cases r with
      | nil =>
       repeat' ((conv => whnf); first | (with_reducible refine exI (q2 _) ?_) | (with_reducible refine ixJ i rfl ?_ ?_; (focus (omega))) | (refine exI hx ?_) | (refine apS ?_) | (first | refine stp ?_ | with_reducible refine Z01 (fun h => ?_) (fun h => ?_)))
       conv => whnf
       refine ⟨i + 1, hlt, by show kids.length - (i + 1) < kids.length - i; omega, ?_⟩
       rw [hnx]
       exact FgL.mk [0] rfl ⟨Wk.ptr rfl rfl, Wk.noref rfl, Wk.int rfl, trivial⟩ ⟨⟨rfl, rfl, rfl, rfl, BodyGe.pre (rest := []) rfl rfl⟩, trivial⟩ rfl
      | cons y r =>
       simp only [List.length_cons] at hlr
       repeat' ((conv => whnf); first | (with_reducible refine exI (q2 _) ?_) | (with_reducible refine ixJ i rfl ?_ ?_; (focus (omega))) | (refine exI hx ?_) | (refine apS ?_) | (first | refine stp ?_ | with_reducible refine Z01 (fun h => ?_) (fun h => ?_)))
       conv => whnf
       refine ⟨i + 1, hlt, by show kids.length - (i + 1) < kids.length - i; omega, ?_⟩
       rw [hnx]
       exact FgL.mk [0, 1] rfl ⟨Wk.ptr rfl rfl, Wk.slice rfl rfl rfl (Nat.le_refl _) (Nat.le_refl _) rfl, Wk.int rfl, trivial⟩ ⟨⟨rfl, rfl, rfl, rfl, BodyGe.pre (rest := []) rfl rfl⟩, ⟨rfl, rfl, rfl, rfl, BodyGe.pre (rest := []) (by simp [Z1h]) (Z0s _)⟩, trivial⟩ rfl
     | cons z o =>
      have hcl := Z1F z o
      simp only [List.length_cons] at hlo
      cases r with
      | nil =>
       repeat' ((conv => whnf); first | (with_reducible refine exI (q2 _) ?_) | (with_reducible refine ixJ i rfl ?_ ?_; (focus (omega))) | (refine exI hx ?_) | (refine apS ?_) | (first | refine stp ?_ | with_reducible refine Z01 (fun h => ?_) (fun h => ?_)))
       conv => whnf
       refine ⟨i + 1, hlt, by show kids.length - (i + 1) < kids.length - i; omega, ?_⟩
       rw [hnx, List.append_nil]
       exact FgL.mk [0, 1] rfl ⟨Wk.ptr rfl rfl, Wk.slice rfl rfl rfl (Nat.le_refl _) (Nat.le_refl _) rfl, Wk.int rfl, trivial⟩ ⟨⟨rfl, rfl, rfl, rfl, BodyGe.pre (rest := []) rfl rfl⟩, ⟨rfl, rfl, rfl, rfl, BodyGe.pre (rest := []) (by simp) (Z0s _)⟩, trivial⟩ rfl
      | cons y r =>
       have hon := Z1E (y :: r)
       simp only [List.length_cons] at hlr
       repeat' ((conv => whnf); first | (with_reducible refine exI (q2 _) ?_) | (with_reducible refine ixJ i rfl ?_ ?_; (focus (omega))) | (refine exI hx ?_) | (refine apS ?_) | (first | refine stp ?_ | with_reducible refine Z01 (fun h => ?_) (fun h => ?_)))
       conv => whnf
       refine ⟨i + 1, hlt, by show kids.length - (i + 1) < kids.length - i; omega, ?_⟩
       rw [hnx]
       exact FgL.mk [0, 2] rfl ⟨Wk.ptr rfl rfl, Wk.slice rfl rfl (by simp; omega) (Nat.le_refl _) (by simp; omega) rfl, Wk.int rfl, trivial⟩ ⟨⟨rfl, rfl, rfl, rfl, BodyGe.pre (rest := []) rfl rfl⟩, ⟨rfl, rfl, rfl, rfl, BodyGe.pre (rest := []) (by simp [Z1h]) (Z0s _)⟩, trivial⟩ rfl
   · have e1 : decide ((i : Int) < (kids.length : Int)) = false := by simpa using hlt
     have hi2 : i = kids.length := by have := hi; omega
     subst hi2
     rw [List.take_length] at hle ⊢
     generalize pre ++ nmL kids = o at *
     cases o with
     | nil =>
      repeat' ((conv => whnf); first | refine stp ?_ | with_reducible refine Z01 (fun h => ?_) (fun h => ?_))
      all_goals exact .inr ⟨rfl, _, rfl⟩
     | cons z o =>
      repeat' ((conv => whnf); first | refine stp ?_ | with_reducible refine Z01 (fun h => ?_) (fun h => ?_))
      conv => whnf
      exact ⟨_, Z3X (b := 1) rfl (Z1F z o) (Z48 (z :: o)), .inl rfl⟩
  | true =>
   rw [ho] at hpre
   cases hs2 : (name == []) with
   | true =>
    rw [hs2] at hpre
    simp only [Bool.not_true, Bool.and_false, cond_false] at hpre
    have e2 : (!(name == [])) = false := by rw [hs2]; rfl
    repeat' ((conv => whnf); first | refine stp ?_ | with_reducible refine Z01 (fun h => ?_) (fun h => ?_))
    conv => whnf
    refine ⟨Nat, (fun i => i <= kids.length), (fun i => [(1, .ptr 0 0), (3, grA 1 1 (pre ++ nmL (kids.take i))), (4, .int .i64 i)]), (fun i => ⟨true, 0, 0, .cells [.int .i64 op, .int .i64 num, .str name, .rs kids.length 4 (exC kids)] 65⟩ :: grB 1 Z1h 9 (pre ++ nmL (kids.take i))), (fun i => kids.length - i), ⟨0, Nat.zero_le _, ?_⟩, ?_⟩
    · subst hpre
      exact FgL.mk [0] rfl ⟨Wk.ptr rfl rfl, Wk.noref rfl, Wk.int rfl, trivial⟩ ⟨⟨rfl, rfl, rfl, rfl, BodyGe.pre (rest := []) rfl rfl⟩, trivial⟩ rfl
    intro i hi
    dsimp only
    have hle := Z2E kids i
    by_cases hlt : i < kids.length
    · have e1 : decide ((i : Int) < (kids.length : Int)) = true := by simpa using hlt
      have hx := ex4 kids i hlt
      have hsz := Z0w _ _ (Z0i hlt)
      have hlr := Z4E kids[i]
      have q2 := q1 kids[i] (by omega) (Z0H hk.2 _ (Z0i hlt)) (by omega)
      have hnx : pre ++ nmL (kids.take (i + 1)) = (pre ++ nmL (kids.take i)) ++ nmE kids[i] := by rw [Z5j kids i hlt, List.append_assoc]
      have hlo : (pre ++ nmL (kids.take i)).length <= 2097152 := by rw [List.length_append]; omega
      generalize pre ++ nmL (kids.take i) = o at *
      generalize hr : nmE kids[i] = r at *
      generalize kids[i] = x at *
      obtain ⟨xo, xn, xs, xk⟩ := x
      simp only [Ex.cells] at hx q2
      cases o with
      | nil =>
       cases r with
       | nil =>
        repeat' ((conv => whnf); first | (with_reducible refine exI (q2 _) ?_) | (with_reducible refine ixJ i rfl ?_ ?_; (focus (omega))) | (refine exI hx ?_) | (refine apS ?_) | (first | refine stp ?_ | with_reducible refine Z01 (fun h => ?_) (fun h => ?_)))
        conv => whnf
        refine ⟨i + 1, hlt, by show kids.length - (i + 1) < kids.length - i; omega, ?_⟩
        rw [hnx]
        exact FgL.mk [0] rfl ⟨Wk.ptr rfl rfl, Wk.noref rfl, Wk.int rfl, trivial⟩ ⟨⟨rfl, rfl, rfl, rfl, BodyGe.pre (rest := []) rfl rfl⟩, trivial⟩ rfl
       | cons y r =>
        simp only [List.length_cons] at hlr
        repeat' ((conv => whnf); first | (with_reducible refine exI (q2 _) ?_) | (with_reducible refine ixJ i rfl ?_ ?_; (focus (omega))) | (refine exI hx ?_) | (refine apS ?_) | (first | refine stp ?_ | with_reducible refine Z01 (fun h => ?_) (fun h => ?_)))
        conv => whnf
        refine ⟨i + 1, hlt, by show kids.length - (i + 1) < kids.length - i; omega, ?_⟩
        rw [hnx]
        exact FgL.mk [0, 1] rfl ⟨Wk.ptr rfl rfl, Wk.slice rfl rfl rfl (Nat.le_refl _) (Nat.le_refl _) rfl, Wk.int rfl, trivial⟩ ⟨⟨rfl, rfl, rfl, rfl, BodyGe.pre (rest := []) rfl rfl⟩, ⟨rfl, rfl, rfl, rfl, BodyGe.pre (rest := []) (by simp [Z1h]) (Z0s _)⟩, trivial⟩ rfl
      | cons z o =>
       have hcl := Z1F z o
       simp only [List.length_cons] at hlo
       cases r with
       | nil =>
        repeat' ((conv => whnf); first | (with_reducible refine exI (q2 _) ?_) | (with_reducible refine ixJ i rfl ?_ ?_; (focus (omega))) | (refine exI hx ?_) | (refine apS ?_) | (first | refine stp ?_ | with_reducible refine Z01 (fun h => ?_) (fun h => ?_)))
        conv => whnf
        refine ⟨i + 1, hlt, by show kids.length - (i + 1) < kids.length - i; omega, ?_⟩
        rw [hnx, List.append_nil]
        exact FgL.mk [0, 1] rfl ⟨Wk.ptr rfl rfl, Wk.slice rfl rfl rfl (Nat.le_refl _) (Nat.le_refl _) rfl, Wk.int rfl, trivial⟩ ⟨⟨rfl, rfl, rfl, rfl, BodyGe.pre (rest := []) rfl rfl⟩, ⟨rfl, rfl, rfl, rfl, BodyGe.pre (rest := []) (by simp) (Z0s _)⟩, trivial⟩ rfl
       | cons y r =>
        have hon := Z1E (y :: r)
        simp only [List.length_cons] at hlr
        repeat' ((conv => whnf); first | (with_reducible refine exI (q2 _) ?_) | (with_reducible refine ixJ i rfl ?_ ?_; (focus (omega))) | (refine exI hx ?_) | (refine apS ?_) | (first | refine stp ?_ | with_reducible refine Z01 (fun h => ?_) (fun h => ?_)))
        conv => whnf
        refine ⟨i + 1, hlt, by show kids.length - (i + 1) < kids.length - i; omega, ?_⟩
        rw [hnx]
        exact FgL.mk [0, 2] rfl ⟨Wk.ptr rfl rfl, Wk.slice rfl rfl (by simp; omega) (Nat.le_refl _) (by simp; omega) rfl, Wk.int rfl, trivial⟩ ⟨⟨rfl, rfl, rfl, rfl, BodyGe.pre (rest := []) rfl rfl⟩, ⟨rfl, rfl, rfl, rfl, BodyGe.pre (rest := []) (by simp [Z1h]) (Z0s _)⟩, trivial⟩ rfl
    · have e1 : decide ((i : Int) < (kids.length : Int)) = false := by simpa using hlt
      have hi2 : i = kids.length := by have := hi; omega
      subst hi2
      rw [List.take_length] at hle ⊢
      generalize pre ++ nmL kids = o at *
      cases o with
      | nil =>
       repeat' ((conv => whnf); first | refine stp ?_ | with_reducible refine Z01 (fun h => ?_) (fun h => ?_))
       all_goals exact .inr ⟨rfl, _, rfl⟩
      | cons z o =>
       repeat' ((conv => whnf); first | refine stp ?_ | with_reducible refine Z01 (fun h => ?_) (fun h => ?_))
       conv => whnf
       exact ⟨_, Z3X (b := 1) rfl (Z1F z o) (Z48 (z :: o)), .inl rfl⟩
   | false =>
    rw [hs2] at hpre
    simp only [Bool.not_false, Bool.and_true, cond_true] at hpre
    have e2 : (!(name == [])) = true := by rw [hs2]; rfl
    repeat' ((conv => whnf); first | (refine apS ?_) | (first | refine stp ?_ | with_reducible refine Z01 (fun h => ?_) (fun h => ?_)))
    conv => whnf
    refine ⟨Nat, (fun i => i <= kids.length), (fun i => [(1, .ptr 0 0), (3, grA 1 1 (pre ++ nmL (kids.take i))), (4, .int .i64 i)]), (fun i => ⟨true, 0, 0, .cells [.int .i64 op, .int .i64 num, .str name, .rs kids.length 4 (exC kids)] 65⟩ :: grB 1 Z1h 9 (pre ++ nmL (kids.take i))), (fun i => kids.length - i), ⟨0, Nat.zero_le _, ?_⟩, ?_⟩
    · subst hpre
      exact FgL.mk [0, 2] rfl ⟨Wk.ptr rfl rfl, Wk.slice rfl rfl rfl (Nat.le_refl _) (Nat.le_refl _) rfl, Wk.int rfl, trivial⟩ ⟨⟨rfl, rfl, rfl, rfl, BodyGe.pre (rest := []) rfl rfl⟩, ⟨rfl, rfl, rfl, rfl, BodyGe.pre (rest := []) rfl rfl⟩, trivial⟩ rfl
    intro i hi
    dsimp only
    have hle := Z2E kids i
    by_cases hlt : i < kids.length
    · have e1 : decide ((i : Int) < (kids.length : Int)) = true := by simpa using hlt
      have hx := ex4 kids i hlt
      have hsz := Z0w _ _ (Z0i hlt)
      have hlr := Z4E kids[i]
      have q2 := q1 kids[i] (by omega) (Z0H hk.2 _ (Z0i hlt)) (by omega)
      have hnx : pre ++ nmL (kids.take (i + 1)) = (pre ++ nmL (kids.take i)) ++ nmE kids[i] := by rw [Z5j kids i hlt, List.append_assoc]
      have hlo : (pre ++ nmL (kids.take i)).length <= 2097152 := by rw [List.length_append]; omega
      generalize pre ++ nmL (kids.take i) = o at *
      generalize hr : nmE kids[i] = r at *
      generalize kids[i] = x at *
      obtain ⟨xo, xn, xs, xk⟩ := x
      simp only [Ex.cells] at hx q2
      cases o with
      | nil =>
       cases r with
       | nil =>
        repeat' ((conv => whnf); first | (with_reducible refine exI (q2 _) ?_) | (with_reducible refine ixJ i rfl ?_ ?_; (focus (omega))) | (refine exI hx ?_) | (refine apS ?_) | (first | refine stp ?_ | with_reducible refine Z01 (fun h => ?_) (fun h => ?_)))
        conv => whnf
        refine ⟨i + 1, hlt, by show kids.length - (i + 1) < kids.length - i; omega, ?_⟩
        rw [hnx]
        exact FgL.mk [0] rfl ⟨Wk.ptr rfl rfl, Wk.noref rfl, Wk.int rfl, trivial⟩ ⟨⟨rfl, rfl, rfl, rfl, BodyGe.pre (rest := []) rfl rfl⟩, trivial⟩ rfl
       | cons y r =>
        simp only [List.length_cons] at hlr
        repeat' ((conv => whnf); first | (with_reducible refine exI (q2 _) ?_) | (with_reducible refine ixJ i rfl ?_ ?_; (focus (omega))) | (refine exI hx ?_) | (refine apS ?_) | (first | refine stp ?_ | with_reducible refine Z01 (fun h => ?_) (fun h => ?_)))
        conv => whnf
        refine ⟨i + 1, hlt, by show kids.length - (i + 1) < kids.length - i; omega, ?_⟩
        rw [hnx]
        exact FgL.mk [0, 1] rfl ⟨Wk.ptr rfl rfl, Wk.slice rfl rfl rfl (Nat.le_refl _) (Nat.le_refl _) rfl, Wk.int rfl, trivial⟩ ⟨⟨rfl, rfl, rfl, rfl, BodyGe.pre (rest := []) rfl rfl⟩, ⟨rfl, rfl, rfl, rfl, BodyGe.pre (rest := []) (by simp [Z1h]) (Z0s _)⟩, trivial⟩ rfl
      | cons z o =>
       have hcl := Z1F z o
       simp only [List.length_cons] at hlo
       cases r with
       | nil =>
        repeat' ((conv => whnf); first | (with_reducible refine exI (q2 _) ?_) | (with_reducible refine ixJ i rfl ?_ ?_; (focus (omega))) | (refine exI hx ?_) | (refine apS ?_) | (first | refine stp ?_ | with_reducible refine Z01 (fun h => ?_) (fun h => ?_)))
        conv => whnf
        refine ⟨i + 1, hlt, by show kids.length - (i + 1) < kids.length - i; omega, ?_⟩
        rw [hnx, List.append_nil]
        exact FgL.mk [0, 1] rfl ⟨Wk.ptr rfl rfl, Wk.slice rfl rfl rfl (Nat.le_refl _) (Nat.le_refl _) rfl, Wk.int rfl, trivial⟩ ⟨⟨rfl, rfl, rfl, rfl, BodyGe.pre (rest := []) rfl rfl⟩, ⟨rfl, rfl, rfl, rfl, BodyGe.pre (rest := []) (by simp) (Z0s _)⟩, trivial⟩ rfl
       | cons y r =>
        have hon := Z1E (y :: r)
        simp only [List.length_cons] at hlr
        repeat' ((conv => whnf); first | (with_reducible refine exI (q2 _) ?_) | (with_reducible refine ixJ i rfl ?_ ?_; (focus (omega))) | (refine exI hx ?_) | (refine apS ?_) | (first | refine stp ?_ | with_reducible refine Z01 (fun h => ?_) (fun h => ?_)))
        conv => whnf
        refine ⟨i + 1, hlt, by show kids.length - (i + 1) < kids.length - i; omega, ?_⟩
        rw [hnx]
        exact FgL.mk [0, 2] rfl ⟨Wk.ptr rfl rfl, Wk.slice rfl rfl (by simp; omega) (Nat.le_refl _) (by simp; omega) rfl, Wk.int rfl, trivial⟩ ⟨⟨rfl, rfl, rfl, rfl, BodyGe.pre (rest := []) rfl rfl⟩, ⟨rfl, rfl, rfl, rfl, BodyGe.pre (rest := []) (by simp [Z1h]) (Z0s _)⟩, trivial⟩ rfl
    · have e1 : decide ((i : Int) < (kids.length : Int)) = false := by simpa using hlt
      have hi2 : i = kids.length := by have := hi; omega
      subst hi2
      rw [List.take_length] at hle ⊢
      generalize pre ++ nmL kids = o at *
      cases o with
      | nil =>
       repeat' ((conv => whnf); first | refine stp ?_ | with_reducible refine Z01 (fun h => ?_) (fun h => ?_))
       all_goals exact .inr ⟨rfl, _, rfl⟩
      | cons z o =>
       repeat' ((conv => whnf); first | refine stp ?_ | with_reducible refine Z01 (fun h => ?_) (fun h => ?_))
       conv => whnf
       exact ⟨_, Z3X (b := 1) rfl (Z1F z o) (Z48 (z :: o)), .inl rfl⟩
end Go.Proofs.YteidjbahodbgdaaGreatDoor.lex
end

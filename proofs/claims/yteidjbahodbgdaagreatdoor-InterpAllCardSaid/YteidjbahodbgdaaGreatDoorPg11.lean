/-
  Texts of this proof, one behind the other (part 11).
-/
import Derived.Test.YteidjbahodbgdaaGreatDoorPg10
set_option linter.unusedVariables false
set_option linter.unusedSimpArgs false

section
namespace Go.Flat
variable {α : Type} (ev : α -> List Int -> Int) (wr : Int -> Int) (ins : Nat -> In α)
theorem Zfk {i : In α} {s t : Th} (h : stp ev i s = .on t) : t.regs.length = s.regs.length /\ t.evs.length <= s.evs.length + 1 := by
 unfold stp at h
 simp only at h
 split at h
 · cases h; simp
 split at h
 · cases h; simp
 split at h
 · cases h; simp
 split at h
 · split at h <;> cases h; simp
 split at h
 · split at h <;> cases h; simp
 split at h
 · cases h; simp
 split at h
 · split at h <;> cases h <;> simp
 split at h
 · cases h
 split at h
 · cases h
 · cases h
theorem ZgT {i : In α} {s : Th} (h : stp ev i s = .asks) : s.at_ + 1 ∈ nxI i s.at_ := by
 unfold stp at h
 unfold nxI
 simp only at h
 split at h
 · cases h
 split at h
 · cases h
 split at h
 · cases h
 split at h
 · split at h <;> cases h
 split at h
 · split at h <;> cases h
 split at h
 · cases h
 split at h
 · split at h <;> cases h
 split at h
 · cases h
 split at h
 · cases h
 · rename_i h1 h2 h3 h4 h5 h6 h7 h8 h9
   rw [if_neg h6, if_neg h7, if_neg (by omega)]
   simp
theorem Zcs {rank : Nat -> Nat} (hr : ∀ v w, Rch (nxC ins) v -> w ∈ nxC ins v -> rank w < rank v) : ∀ (f : Nat) (s : Th), Rch (nxC ins) s.at_ -> (adv ev ins f s).1.regs.length = s.regs.length /\ (adv ev ins f s).1.evs.length + rank (adv ev ins f s).1.at_ <= s.evs.length + rank s.at_
 | 0, s, _ => ⟨rfl, Nat.le_refl _⟩
 | f + 1, s, hs => by
  unfold adv
  cases hst : stp ev (ins s.at_) s with
  | on t =>
   have hn : t.at_ ∈ nxC ins s.at_ := Z6l ev hst
   have h1 := hr _ _ hs hn
   obtain ⟨h2, h3⟩ := Zfk ev hst
   obtain ⟨h4, h5⟩ := Zcs hr f t (.next hs hn)
   exact ⟨h4.trans h2, by show (adv ev ins f t).1.evs.length + rank (adv ev ins f t).1.at_ <= _; omega⟩
  | ends e => exact ⟨rfl, Nat.le_refl _⟩
  | asks => exact ⟨rfl, Nat.le_refl _⟩
structure GoInv (rank : Nat -> Nat) (s : Th) (m : Nat) (st : Stand) : Prop where
 rch : Rch (nxC ins) st.th.at_
 regs : st.th.regs.length = s.regs.length
 evs : st.th.evs.length + rank st.th.at_ <= s.evs.length + rank s.at_
 asked : st.asked <= m
 asks : st.fin = 0 -> stp ev (ins st.th.at_) st.th = .asks /\ st.q = some (qu ev (ins st.th.at_) st.th.regs)
 ends : st.fin ≠ 0 -> stp ev (ins st.th.at_) st.th = .ends st.fin /\ st.q = none
theorem Zb2 {rank : Nat -> Nat} {f : Nat} (hr : ∀ v w, Rch (nxC ins) v -> w ∈ nxC ins v -> rank w < rank v) (hf : ∀ v, Rch (nxC ins) v -> rank v < f) : ∀ (l : List Int) (s : Th) (n : Nat), Rch (nxC ins) s.at_ -> GoInv ev ins rank s (n + l.length) (go ev wr ins f l s n)
 | [], s, n, hs => by
  obtain ⟨h1, h2⟩ := Zcs ev ins hr f s hs
  obtain ⟨h3, h4⟩ := Z75 ev ins hr f s hs (hf _ hs)
  cases ha : adv ev ins f s with
  | mk t o =>
   rw [ha] at h1 h2 h3 h4
   cases o with
   | some e =>
    have e1 : go ev wr ins f [] s n = ⟨t, e, none, n⟩ := by simp only [go, ha]
    rw [e1]
    exact ⟨h3, h1, h2, Nat.le_refl _, fun h => absurd h (Z42 ev ins f s e (by rw [ha])), fun _ => ⟨h4, rfl⟩⟩
   | none =>
    have e1 : go ev wr ins f [] s n = ⟨t, 0, some (qu ev (ins t.at_) t.regs), n⟩ := by simp only [go, ha]
    rw [e1]
    exact ⟨h3, h1, h2, Nat.le_refl _, fun _ => ⟨h4, rfl⟩, fun h => absurd rfl h⟩
 | v :: l, s, n, hs => by
  obtain ⟨h1, h2⟩ := Zcs ev ins hr f s hs
  obtain ⟨h3, h4⟩ := Z75 ev ins hr f s hs (hf _ hs)
  cases ha : adv ev ins f s with
  | mk t o =>
   rw [ha] at h1 h2 h3 h4
   cases o with
   | some e =>
    have e1 : go ev wr ins f (v :: l) s n = ⟨t, e, none, n⟩ := by simp only [go, ha]
    rw [e1]
    exact ⟨h3, h1, h2, Nat.le_add_right _ _, fun h => absurd h (Z42 ev ins f s e (by rw [ha])), fun _ => ⟨h4, rfl⟩⟩
   | none =>
    have e1 : go ev wr ins f (v :: l) s n = go ev wr ins f l (Z1k ev wr (ins t.at_) t v) (n + 1) := by simp only [go, ha]
    rw [e1]
    have hn : t.at_ + 1 ∈ nxC ins t.at_ := ZgT ev h4
    have h5 : rank (t.at_ + 1) < rank t.at_ := hr _ _ h3 hn
    have ih := Zb2 hr hf l (Z1k ev wr (ins t.at_) t v) (n + 1) (.next h3 hn)
    have e2 : (Z1k ev wr (ins t.at_) t v).regs.length = t.regs.length := by simp [Z1k]
    have e3 : (Z1k ev wr (ins t.at_) t v).evs.length = t.evs.length + 1 := by simp [Z1k]
    have e4 : (Z1k ev wr (ins t.at_) t v).at_ = t.at_ + 1 := rfl
    refine ⟨ih.rch, ih.regs.trans (e2.trans h1), ?_, by have := ih.asked; simp only [List.length_cons]; omega, ih.asks, ih.ends⟩
    have := ih.evs
    rw [e3, e4] at this
    simp only at h2
    omega
theorem Zgk {f : Nat} (l : List Int) (v : Int) (s : Th) (n : Nat) : go ev wr ins f (l ++ [v]) s n = if (go ev wr ins f l s n).fin = 0 then go ev wr ins f [] (Z1k ev wr (ins (go ev wr ins f l s n).th.at_) (go ev wr ins f l s n).th v) ((go ev wr ins f l s n).asked + 1) else go ev wr ins f l s n := Zb3 ev wr ins l [v] s n
theorem Zgj {f : Nat} (l r : List Int) (s : Th) (n : Nat) (h : (go ev wr ins f l s n).fin ≠ 0) : go ev wr ins f (l ++ r) s n = go ev wr ins f l s n := by
 rw [Zb3, if_neg h]
end Go.Flat
end

section
namespace Go.Proofs.YteidjbahodbgdaaGreatDoor.lex
open Go.Abs Go.RowKit Go.Flat
set_option maxRecDepth 100000
set_option maxHeartbeats 4000000
variable {gl : Z0l}
def Z1G (regs : Int) (l : List Ins) (st : Flat.Stand) : Z00 := thH regs l st.th (st.asked : Nat) st.fin (st.fin == 0)
abbrev goI (l : List Ins) (az : List Int) (s : Th) (n : Nat) : Flat.Stand := go evF wrI (Z0h l) l.length az s n
theorem Z7M (regs : Int) (l : List Ins) (s : Th) (n : Nat) : Zhj regs l (n : Nat) (adv evF (Z0h l) l.length s) = Z1G regs l (goI l [] s n) := by
 unfold Zhj Z1G goI
 cases ha : adv evF (Z0h l) l.length s with
 | mk t o =>
  cases o with
  | some e =>
   have he := Z42 evF (Z0h l) l.length s e (by rw [ha])
   simp only [go, ha]
   rw [show (e == 0) = false by simpa using he]
  | none => simp only [go, ha]; rfl
def th0 (regs : Nat) : Th := ⟨0, List.replicate regs 0, []⟩
theorem Z91 {regs : Nat} {l : List Ins} (hr : Runs regs l) (ha : Acy (nxL l) l.length) (st : Flat.Stand) (v : Int) (hs : Rch (nxL l) st.th.at_) (hrl : st.th.regs.length = regs) (hev : st.th.evs.length <= 1000000) (has : st.asked <= 1000000) (hf : st.fin = 0) (hst : Flat.stp evF (Z0h l st.th.at_) st.th = .asks) :
  Z1O Tryz.prog gl 49 [.ptr 0 0, .int .i64 v] (Z1G regs l st) (.tuple []) (Z2t st.th.evs regs l (goI l [] (Z1k evF wrI (Z0h l st.th.at_) st.th v) (st.asked + 1)).th ((goI l [] (Z1k evF wrI (Z0h l st.th.at_) st.th v) (st.asked + 1)).asked : Nat) (goI l [] (Z1k evF wrI (Z0h l st.th.at_) st.th v) (st.asked + 1)).fin ((goI l [] (Z1k evF wrI (Z0h l st.th.at_) st.th v) (st.asked + 1)).fin == 0)) := by
 have h := ZgW (gl := gl) hr ha st.th st.asked v hs hrl hev has hst
 rw [Z7M] at h
 have e : Z1G regs l st = thH regs l st.th (st.asked : Nat) 0 true := by unfold Z1G; rw [hf]; rfl
 rw [e]
 refine Z5m h (fun hn he => ?_) (fun _ => rfl) rfl
 obtain ⟨k, _, _, _, _, m, hm⟩ := Z6W evF wrI (Z0h l) (f := l.length) [] (Z1k evF wrI (Z0h l st.th.at_) st.th v) (st.asked + 1)
 have he : (go evF wrI (Z0h l) l.length [] (Z1k evF wrI (Z0h l st.th.at_) st.th v) (st.asked + 1)).th.evs = [] := he
 rw [hm] at he
 have := (List.append_eq_nil_iff.1 he).1
 rw [Z52] at this
 exact absurd this (by simp)
theorem ZfD {regs : Nat} {l : List Ins} (hr : Runs regs l) (ha : Acy (nxL l) l.length) (h16 : regs <= 16) (az : List Int) (hal : az.length <= 1000) :
  ZcH Tryz.prog gl 31 [.agg [.int .i64 regs, .rs l.length 6 (inC l)], rsI az] (.ptr 0 0) (Z1G regs l (goI l az (th0 regs) 0)) := by
 obtain ⟨rank, hrank⟩ := id ha
 have hf := hr.good.few
 have hinv := fun (az : List Int) => Zb2 evF wrI (Z0h l) (f := l.length) hrank.2 hrank.1 az (th0 regs) 0 .zero
 have hev0 : ∀ az : List Int, (goI l az (th0 regs) 0).th.evs.length <= 4000 := fun az => by
  have h1 := (hinv az).evs
  have h2 := hrank.1 0 .zero
  have h3 : (th0 regs).evs.length + rank (th0 regs).at_ = 0 + rank 0 := rfl
  have h4 : (goI l az (th0 regs) 0).th.evs.length + rank (goI l az (th0 regs) 0).th.at_ <= _ := h1
  omega
 have hrl0 : ∀ az : List Int, (goI l az (th0 regs) 0).th.regs.length = regs := fun az => (hinv az).regs.trans List.length_replicate
 obtain ⟨O1, hO1, ⟨p1, -⟩, -⟩ := Z6G (P := Tryz.prog) (gl := gl) [{ I := Flat.Stand × Int, f := 49, G := fun i => Rch (nxL l) i.1.th.at_ /\ i.1.th.regs.length = regs /\ i.1.th.evs.length <= 1000000 /\ i.1.asked <= 1000000 /\ i.1.fin = 0 /\ Flat.stp evF (Z0h l i.1.th.at_) i.1.th = .asks, A := fun i => [.ptr 0 0, .int .i64 i.2], H := fun i => Z1G regs l i.1, R := fun i => .tuple [], O := fun i => Z2t i.1.th.evs regs l (goI l [] (Z1k evF wrI (Z0h l i.1.th.at_) i.1.th i.2) (i.1.asked + 1)).th ((goI l [] (Z1k evF wrI (Z0h l i.1.th.at_) i.1.th i.2) (i.1.asked + 1)).asked : Nat) (goI l [] (Z1k evF wrI (Z0h l i.1.th.at_) i.1.th i.2) (i.1.asked + 1)).fin ((goI l [] (Z1k evF wrI (Z0h l i.1.th.at_) i.1.th i.2) (i.1.asked + 1)).fin == 0), body := (by kernel_rfl), inj := (fun i j _ _ h1 h2 => by obtain ⟨e1, e2, e3, _⟩ := Zfi h2; simp only [List.cons.injEq, AV.int.injEq, and_true, true_and] at h1; rw [e1, h1, show i.1.asked = j.1.asked by omega]; exact ⟨rfl, rfl⟩), ok := fun i h => Z91 hr ha i.1 i.2 h.1 h.2.1 h.2.2.1 h.2.2.2.1 h.2.2.2.2.1 h.2.2.2.2.2 }] [] rfl
 have halive : ∀ o ∈ Zhj regs l ((0 : Nat) : Int) (adv evF (Z0h l) l.length (th0 regs)), o.alive = true := fun o ho => by
  obtain ⟨i, hi⟩ := List.getElem?_of_mem ho
  rw [Z7M] at hi
  exact (Z2R hi).2.2.1
 obtain ⟨O, hO, q0, hoth⟩ := Z5v (P := Tryz.prog) (gl := gl) { I := Unit, f := 48, G := fun _ => True, A := fun _ => [.agg [.int .i64 regs, .rs l.length 6 (inC l)]], R := fun _ => .ptr 0 0, N := fun _ => Zhj regs l ((0 : Nat) : Int) (adv evF (Z0h l) l.length (th0 regs)), body := (by kernel_rfl), inj := fun _ _ _ _ _ => ⟨rfl, rfl⟩, ok := fun _ _ => ⟨rfl, halive, ZdS hr ha h16⟩ } hO1
 have p1' : ∀ (st : Flat.Stand) (v : Int), Rch (nxL l) st.th.at_ -> st.th.regs.length = regs -> st.th.evs.length <= 1000000 -> st.asked <= 1000000 -> st.fin = 0 -> Flat.stp evF (Z0h l st.th.at_) st.th = .asks -> Z04 Tryz.prog O (Z1G regs l st) 49 [.ptr 0 0, .int .i64 v] = some (.tuple [], Z2t st.th.evs regs l (goI l [] (Z1k evF wrI (Z0h l st.th.at_) st.th v) (st.asked + 1)).th ((goI l [] (Z1k evF wrI (Z0h l st.th.at_) st.th v) (st.asked + 1)).asked : Nat) (goI l [] (Z1k evF wrI (Z0h l st.th.at_) st.th v) (st.asked + 1)).fin ((goI l [] (Z1k evF wrI (Z0h l st.th.at_) st.th v) (st.asked + 1)).fin == 0)) := fun st v h1 h2 h3 h4 h5 h6 => (hoth _ (by show (49 : Nat) ≠ 48; decide) _ _).trans (p1 (st, v) ⟨h1, h2, h3, h4, h5, h6⟩)
 have q1 := q0 () trivial
 simp only [Z7M] at q1
 clear p1 q0 hoth hO1
 simp only [rsI]
 refine Zj8 follows Z09 hO Tryz.func31 rfl (Z3G _ _) ?_
 have hS0 : Z1G regs l (goI l [] (th0 regs) 0) = thH regs l (goI l [] (th0 regs) 0).th ((goI l [] (th0 regs) 0).asked : Nat) (goI l [] (th0 regs) 0).fin ((goI l [] (th0 regs) 0).fin == 0) := rfl
 rw [hS0] at q1
 have hI0 : (fun i => i <= az.length) 0 := Nat.zero_le _
 have hmain : ∀ i, i <= az.length -> goI l (az.take i) (th0 regs) 0 = goI l (az.take i) (th0 regs) 0 := fun _ _ => rfl
 clear hmain
 generalize hst0 : goI l [] (th0 regs) 0 = st0 at q1
 obtain ⟨⟨p, r, evs⟩, fin, qq, asked⟩ := st0
 cases evs
 case' nil =>
  simp only [thH, grA, grB] at q1
  repeat' ((conv => whnf); first | (refine exI (q1 _) ?_) | (first | refine stp ?_ | with_reducible refine Z01 (fun h => ?_) (fun h => ?_)))
  conv => whnf
  refine ⟨Nat, (fun i => i <= az.length), (fun i => [(5, .ptr 0 0), (10, .rs az.length 1 (ksC az)), (11, .int .i64 az.length), (12, .int .i64 (i : Nat))]), (fun i => Z1G regs l (goI l (az.take i) (th0 regs) 0)), (fun i => az.length - i), ⟨0, hI0, ?_⟩, ?_⟩
  · simp only [List.take_zero, hst0, Z1G, thH, grA, grB]
    exact fgA [1, 2]
 case' cons z evs =>
  simp only [thH, grA, grB] at q1
  repeat' ((conv => whnf); first | (refine exI (q1 _) ?_) | (first | refine stp ?_ | with_reducible refine Z01 (fun h => ?_) (fun h => ?_)))
  conv => whnf
  refine ⟨Nat, (fun i => i <= az.length), (fun i => [(5, .ptr 0 0), (10, .rs az.length 1 (ksC az)), (11, .int .i64 az.length), (12, .int .i64 (i : Nat))]), (fun i => Z1G regs l (goI l (az.take i) (th0 regs) 0)), (fun i => az.length - i), ⟨0, hI0, ?_⟩, ?_⟩
  · simp only [List.take_zero, hst0, Z1G, thH, grA, grB]
    exact fgA [1, 2, 3]
 all_goals (
  clear hst0 q1 hI0 hS0
  rintro i hi
  (try dsimp only at hi)
  (try dsimp only)
  have gi := hinv (az.take i)
  have hgev := hev0 (az.take i)
  have hgrl := hrl0 (az.take i)
  have hask : (goI l (az.take i) (th0 regs) 0).asked <= 1000 := by have := gi.asked; rw [List.length_take] at this; have h2 : (goI l (az.take i) (th0 regs) 0).asked <= _ := this; omega
  have hrch : Rch (nxL l) (goI l (az.take i) (th0 regs) 0).th.at_ := gi.rch
  have hasks : (goI l (az.take i) (th0 regs) 0).fin = 0 -> Flat.stp evF (Z0h l (goI l (az.take i) (th0 regs) 0).th.at_) (goI l (az.take i) (th0 regs) 0).th = .asks := fun h => (gi.asks h).1
  clear gi
  by_cases hlt : i < az.length
  · have e1 : decide ((i : Int) < (az.length : Int)) = true := by simpa using hlt
    have hx : ∀ off, off = i -> tk 1 ((ksC az).drop off) = some [.int .i64 az[i]] := fun off e => Z11 _ az i hlt e
    have hsn : goI l (az.take (i + 1)) (th0 regs) 0 = if (goI l (az.take i) (th0 regs) 0).fin = 0 then goI l [] (Z1k evF wrI (Z0h l (goI l (az.take i) (th0 regs) 0).th.at_) (goI l (az.take i) (th0 regs) 0).th az[i]) ((goI l (az.take i) (th0 regs) 0).asked + 1) else goI l (az.take i) (th0 regs) 0 := by
     rw [List.take_succ_eq_append_getElem hlt]; exact Zgk evF wrI (Z0h l) _ _ _ _
    have hstop : (goI l (az.take i) (th0 regs) 0).fin ≠ 0 -> goI l az (th0 regs) 0 = goI l (az.take i) (th0 regs) 0 := fun h => by
     have h2 := Zgj evF wrI (Z0h l) (f := l.length) (az.take i) (az.drop i) (th0 regs) 0 h
     rw [List.take_append_drop] at h2; exact h2
    have hgrow : (goI l (az.take i) (th0 regs) 0).fin = 0 -> (goI l [] (Z1k evF wrI (Z0h l (goI l (az.take i) (th0 regs) 0).th.at_) (goI l (az.take i) (th0 regs) 0).th az[i]) ((goI l (az.take i) (th0 regs) 0).asked + 1)).th.evs ≠ [] := fun _ he => by
     obtain ⟨k, _, _, _, _, m, hm⟩ := Z6W evF wrI (Z0h l) (f := l.length) [] (Z1k evF wrI (Z0h l (goI l (az.take i) (th0 regs) 0).th.at_) (goI l (az.take i) (th0 regs) 0).th az[i]) ((goI l (az.take i) (th0 regs) 0).asked + 1)
     have he : (go evF wrI (Z0h l) l.length [] (Z1k evF wrI (Z0h l (goI l (az.take i) (th0 regs) 0).th.at_) (goI l (az.take i) (th0 regs) 0).th az[i]) ((goI l (az.take i) (th0 regs) 0).asked + 1)).th.evs = [] := he
     rw [hm] at he
     have := (List.append_eq_nil_iff.1 he).1
     rw [Z52] at this
     exact absurd this (by simp)
    have q := p1' (goI l (az.take i) (th0 regs) 0) az[i] hrch hgrl (by omega) (by omega)
    by_cases hfin : (goI l (az.take i) (th0 regs) 0).fin = 0
    · have q := q hfin (hasks hfin)
      have hgrow := hgrow hfin
      rw [if_pos hfin] at hsn
      rw [hsn.symm] at hgrow
      rw [<- hsn] at q
      have ef : ((goI l (az.take i) (th0 regs) 0).fin == 0) = true := by simp [hfin]
      clear hsn hstop hinv hev0 hrl0 hrch hasks p1'
      generalize hN : goI l (az.take (i + 1)) (th0 regs) 0 = N at *
      generalize goI l (az.take i) (th0 regs) 0 = M at *
      generalize az[i] = v at *
      obtain ⟨⟨p2, r2, evs2⟩, fin2, qq2, asked2⟩ := N
      obtain ⟨⟨p3, r3, evs3⟩, fin3, qq3, asked3⟩ := M
      simp only at hgrow ef hfin hask hgev
      cases evs2 with
      | nil => exact absurd rfl hgrow
      | cons z2 evs2 =>
       cases evs3 with
       | nil =>
        simp only [Z1G, thH, Z2t, grA, grB, ef, List.length_cons] at q ⊢
        repeat' ((conv => whnf); first | (refine exI q ?_) | (refine exI (hx _ (by omega)) ?_) | (with_reducible refine ixJ i rfl ?_ ?_; (focus (omega))) | (first | refine stp ?_ | with_reducible refine Z01 (fun h => ?_) (fun h => ?_)))
        conv => whnf
        refine ⟨i + 1, hlt, by show az.length - (i + 1) < az.length - i; omega, ?_⟩
        rw [hN]
        exact fgA [0, 1, 2]
       | cons z3 evs3 =>
        simp only [Z1G, thH, Z2t, grA, grB, ef, List.length_cons] at q ⊢
        repeat' ((conv => whnf); first | (refine exI q ?_) | (refine exI (hx _ (by omega)) ?_) | (with_reducible refine ixJ i rfl ?_ ?_; (focus (omega))) | (first | refine stp ?_ | with_reducible refine Z01 (fun h => ?_) (fun h => ?_)))
        conv => whnf
        refine ⟨i + 1, hlt, by show az.length - (i + 1) < az.length - i; omega, ?_⟩
        rw [hN]
        exact fgA [0, 1, 3]
    · rw [hstop hfin]
      have ef : ((goI l (az.take i) (th0 regs) 0).fin == 0) = false := by simpa using hfin
      clear hsn hstop hinv hev0 hrl0 hrch hasks p1' q hgrow
      generalize goI l (az.take i) (th0 regs) 0 = M at *
      generalize az[i] = v at *
      obtain ⟨⟨p3, r3, evs3⟩, fin3, qq3, asked3⟩ := M
      simp only at ef hfin hask hgev
      cases evs3 with
      | nil =>
       simp only [Z1G, thH, grA, grB, ef]
       repeat' ((conv => whnf); first | (refine exI (hx _ (by omega)) ?_) | (with_reducible refine ixJ i rfl ?_ ?_; (focus (omega))) | (first | refine stp ?_ | with_reducible refine Z01 (fun h => ?_) (fun h => ?_)))
       all_goals (conv => whnf)
       all_goals exact Zl7 [0, 1]
      | cons z3 evs3 =>
       simp only [Z1G, thH, grA, grB, ef]
       repeat' ((conv => whnf); first | (refine exI (hx _ (by omega)) ?_) | (with_reducible refine ixJ i rfl ?_ ?_; (focus (omega))) | (first | refine stp ?_ | with_reducible refine Z01 (fun h => ?_) (fun h => ?_)))
       all_goals (conv => whnf)
       all_goals exact Zl7 [0, 1, 2]
  · have e1 : decide ((i : Int) < (az.length : Int)) = false := by simpa using hlt
    have hi2 : i = az.length := by omega
    subst hi2
    clear hinv hev0 hrl0 hrch hasks p1' hgrl hask hgev
    rw [List.take_length]
    generalize goI l az (th0 regs) 0 = M at *
    obtain ⟨⟨p3, r3, evs3⟩, fin3, qq3, asked3⟩ := M
    cases evs3 with
    | nil =>
     simp only [Z1G, thH, grA, grB]
     repeat' ((conv => whnf); first | (first | refine stp ?_ | with_reducible refine Z01 (fun h => ?_) (fun h => ?_)))
     all_goals (conv => whnf)
     all_goals exact Zl7 [0, 1]
    | cons z3 evs3 =>
     simp only [Z1G, thH, grA, grB]
     repeat' ((conv => whnf); first | (first | refine stp ?_ | with_reducible refine Z01 (fun h => ?_) (fun h => ?_)))
     all_goals (conv => whnf)
     all_goals exact Zl7 [0, 1, 2])
end Go.Proofs.YteidjbahodbgdaaGreatDoor.lex
end

section
namespace Go.Proofs.YteidjbahodbgdaaGreatDoor.lex
open Go.Abs Go.RowKit Go.Flat
set_option maxRecDepth 100000
set_option maxHeartbeats 4000000
variable {gl : Z0l}
theorem ZlO {l : List Ex} (h : l.length <= 2) : l = [] \/ (∃ x, l = [x]) \/ ∃ x y, l = [x, y] := by
 match l, h with
 | [], _ => exact .inl rfl
 | [x], _ => exact .inr (.inl ⟨x, rfl⟩)
 | [x, y], _ => exact .inr (.inr ⟨x, y, rfl⟩)
theorem ZcX (cs : List AV) (e : Ex) : refsL [.rp cs, .agg e.cells] [] = [] := by
 obtain ⟨o, n, s, k⟩ := e
 simp only [Ex.cells]; rfl
theorem Zdh (k : Int) : Z3W k <= 2 := by
 unfold Z3W
 split
 · omega
 · split <;> omega
theorem Zm0 {regs : Nat} {l : List Ins} (hr : Runs regs l) (p : Nat) (r : List Int) (rest : List AV) (hp : p < l.length) (hrl : r.length = regs) :
  ValOK Tryz.prog gl 39 [.rp (.int .i64 regs :: .rs l.length 6 (inC l) :: .int .i64 (p : Nat) :: rsI r :: rest)] (.agg (quC (qu evF (Z0h l p) r))) := by
 have hio := hr.ins p hp
 have hx := in6 l p hp
 rw [<- Z2V hp] at hx
 have hq : quC (qu evF (Z0h l p) r) = [.int .i64 (Z0h l p).kind, .int .i64 (Z0h l p).loc, .int .i64 (Z0h l p).order, .int .i64 (val evF (Z0h l p) r 0), .int .i64 (val evF (Z0h l p) r 1)] := rfl
 rw [hq]
 clear hq
 generalize Z0h l p = i at *
 have hright := hio.right
 have hxok := hio.ok
 have hex := hio.nex
 rw [<- hrl] at hright
 obtain ⟨k, rg, lo, od, to, ex⟩ := i
 simp only at hx hright hxok hex ⊢
 have hex2 := Zdh k
 rcases ZlO (l := ex) (by omega) with rfl | ⟨x, rfl⟩ | ⟨x, y, rfl⟩
 · simp only [Z0m, exA, exC, List.length_nil, rsI] at *
   rw [show val evF (⟨k, rg, lo, od, to, []⟩ : Ins) r 0 = 0 from rfl, show val evF (⟨k, rg, lo, od, to, []⟩ : Ins) r 1 = 0 from rfl]
   refine Z0a follows Z09 Z05 Tryz.func39 rfl ?_
   repeat' ((conv => whnf); first | (refine exI hx ?_) | (with_reducible refine ixJ p rfl ?_ ?_; (focus (omega))) | (first | refine stp ?_ | with_reducible refine Z01 (fun h => ?_) (fun h => ?_)))
   all_goals rfl
 · obtain ⟨O, hO, p1, -⟩ := fams (P := Tryz.prog) (gl := gl) [{ I := Unit, f := 62, G := fun _ => True, A := fun _ => [.rp (.int .i64 regs :: .rs l.length 6 (inC l) :: .int .i64 (p : Nat) :: rsI r :: rest), .agg x.cells], R := fun _ => .int .i64 (evC r x), body := (by kernel_rfl), inj := fun _ _ _ _ _ => rfl, ok := fun _ _ => ⟨ZcX _ x, Z70 _ x r _ _ _ _ (Nat.le_refl _) (hxok x (by simp)).1 (hxok x (by simp)).2 (hright x (by simp))⟩ }] rfl
   have q1 : ∀ H, Z04 Tryz.prog O H 62 [.rp (.int .i64 regs :: .rs l.length 6 (inC l) :: .int .i64 (p : Nat) :: rsI r :: rest), .agg x.cells] = some (.int .i64 (evC r x), H) := p1 () trivial
   clear p1 hright hxok
   rw [show val evF (⟨k, rg, lo, od, to, [x]⟩ : Ins) r 0 = evC r x from rfl, show val evF (⟨k, rg, lo, od, to, [x]⟩ : Ins) r 1 = 0 from rfl]
   generalize evC r x = v0 at *
   obtain ⟨xo, xn, xs, xk⟩ := x
   simp only [Z0m, exA, exC, Ex.cells, List.append_nil, List.length_cons, List.length_nil, rsI] at *
   refine Z0a follows Z09 hO Tryz.func39 rfl ?_
   repeat' ((conv => whnf); first | (refine exI hx ?_) | (refine exI (q1 _) ?_) | (with_reducible refine ixJ p rfl ?_ ?_; (focus (omega))) | (first | refine stp ?_ | with_reducible refine Z01 (fun h => ?_) (fun h => ?_)))
   all_goals rfl
 · have hinj : ∀ a b : Ex, a ∈ [x, y] -> b ∈ [x, y] -> [AV.rp (.int .i64 regs :: .rs l.length 6 (inC l) :: .int .i64 (p : Nat) :: rsI r :: rest), .agg a.cells] = [AV.rp (.int .i64 regs :: .rs l.length 6 (inC l) :: .int .i64 (p : Nat) :: rsI r :: rest), .agg b.cells] -> AV.int .i64 (evC r a) = .int .i64 (evC r b) := fun a b _ _ h => by
    simp only [List.cons.injEq, AV.agg.injEq, and_true, true_and] at h
    rw [Z16 _ _ h]
   obtain ⟨O, hO, p1, -⟩ := fams (P := Tryz.prog) (gl := gl) [{ I := Ex, f := 62, G := fun a => a ∈ [x, y], A := fun a => [.rp (.int .i64 regs :: .rs l.length 6 (inC l) :: .int .i64 (p : Nat) :: rsI r :: rest), .agg a.cells], R := fun a => .int .i64 (evC r a), body := (by kernel_rfl), inj := hinj, ok := fun a ha => ⟨ZcX _ a, Z70 _ a r _ _ _ _ (Nat.le_refl _) (hxok a ha).1 (hxok a ha).2 (hright a ha)⟩ }] rfl
   have q1 : ∀ H, Z04 Tryz.prog O H 62 [.rp (.int .i64 regs :: .rs l.length 6 (inC l) :: .int .i64 (p : Nat) :: rsI r :: rest), .agg x.cells] = some (.int .i64 (evC r x), H) := p1 x (by simp)
   have q2 : ∀ H, Z04 Tryz.prog O H 62 [.rp (.int .i64 regs :: .rs l.length 6 (inC l) :: .int .i64 (p : Nat) :: rsI r :: rest), .agg y.cells] = some (.int .i64 (evC r y), H) := p1 y (by simp)
   clear p1 hright hxok hinj
   rw [show val evF (⟨k, rg, lo, od, to, [x, y]⟩ : Ins) r 0 = evC r x from rfl, show val evF (⟨k, rg, lo, od, to, [x, y]⟩ : Ins) r 1 = evC r y from rfl]
   generalize evC r x = v0 at *
   generalize evC r y = v1 at *
   obtain ⟨xo, xn, xs, xk⟩ := x
   obtain ⟨yo, yn, ys, yk⟩ := y
   simp only [Z0m, exA, exC, Ex.cells, List.append_nil, List.cons_append, List.nil_append, List.length_cons, List.length_nil, rsI] at *
   refine Z0a follows Z09 hO Tryz.func39 rfl ?_
   repeat' ((conv => whnf); first | (refine exI hx ?_) | (refine exI (q1 _) ?_) | (refine exI (q2 _) ?_) | (with_reducible refine ixJ p rfl ?_ ?_; (focus (omega))) | (first | refine stp ?_ | with_reducible refine Z01 (fun h => ?_) (fun h => ?_)))
   all_goals rfl
theorem Z9d {H : Z00} {b f0 n z : Nat} {T0 : TypeId} {regs at_ asked fin : Int} {asks : Bool} {cs : List AV} {R E E' : AV} {r : List Int} (h0 : H[b]? = some ⟨true, f0, 0, .cells [.int .i64 regs, .rs n z cs, .int .i64 at_, R, E, .int .i64 asked, .int .i64 fin, .bool asks] T0⟩)
  (hR : frz H 29 R = some (rsI r)) (hE : frz H 29 E = some E') : Z0L (frz H 30) [.ptr b 0] = some [.rp (.int .i64 regs :: .rs n z cs :: .int .i64 at_ :: rsI r :: [E', .int .i64 asked, .int .i64 fin, .bool asks])] := by
 have h1 : frz H 30 (.ptr b 0) = some (.rp (.int .i64 regs :: .rs n z cs :: .int .i64 at_ :: rsI r :: [E', .int .i64 asked, .int .i64 fin, .bool asks])) := by
  show (match H[b]? with
   | some o => match o.alive, o.body with
    | true, .cells cs _ => match Z0L (frz H 29) (cs.drop 0) with | some l => some (AV.rp l) | none => none
    | _, _ => none
   | none => none) = _
  rw [h0]
  simp only [List.drop_zero, Z0L, hR, hE]
  rfl
 simp only [Z0L, h1]
theorem ZgU {regs : Nat} {l : List Ins} (hr : Runs regs l) {O : Orc} (hO : Z06 Tryz.prog gl O) : ∃ O', Z06 Tryz.prog gl O' /\ (∀ (p : Nat) (r : List Int) (rest : List AV), p < l.length -> r.length = regs -> ∀ H args, Z0L (frz H 30) args = some [.rp (.int .i64 regs :: .rs l.length 6 (inC l) :: .int .i64 (p : Nat) :: rsI r :: rest)] -> Z04 Tryz.prog O' H 39 args = some (.agg (quC (qu evF (Z0h l p) r)), H)) /\
  ∀ g, g ≠ 39 -> ∀ args H, Z04 Tryz.prog O' H g args = Z04 Tryz.prog O H g args := by
 obtain ⟨O', h1, h2, h3⟩ := Z7B (P := Tryz.prog) (gl := gl) (I := Nat × List Int × List AV) (f0 := 39) (G := fun i => i.1 < l.length /\ i.2.1.length = regs) (A := fun i => [.rp (.int .i64 regs :: .rs l.length 6 (inC l) :: .int .i64 (i.1 : Nat) :: rsI i.2.1 :: i.2.2)]) (R := fun i => .agg (quC (qu evF (Z0h l i.1) i.2.1)))
  (fun _ _ => rfl) (fun i j _ _ h => by
   simp only [List.cons.injEq, AV.rp.injEq, rsI, AV.rs.injEq, AV.int.injEq, and_true, true_and] at h
   obtain ⟨h1, ⟨_, h2⟩, _⟩ := h
   rw [show i.1 = j.1 by omega, Z4H h2]) (fun i h => Zm0 hr _ _ _ h.1 h.2) (by kernel_rfl) hO
 exact ⟨O', h1, fun p r rest g1 g2 H args ha => h2 (p, r, rest) ⟨g1, g2⟩ H args ha, h3⟩
end Go.Proofs.YteidjbahodbgdaaGreatDoor.lex
end

section
namespace Go.Proofs.YteidjbahodbgdaaGreatDoor.lex
open Go.Abs Go.RowKit Go.Flat
set_option maxRecDepth 100000
set_option maxHeartbeats 4000000
def rsE (l : List Ev) : AV := .rs l.length 5 (Z14 l)
def Z3H : Option Qu -> List AV
 | some q => quC q
 | none => [.int .i64 0, .int .i64 0, .int .i64 0, .int .i64 0, .int .i64 0]
def Z0T (st : Flat.Stand) : List AV := rsE st.th.evs :: .int .i64 st.fin :: (Z3H st.q ++ [.int .i64 (st.th.at_ : Nat), rsI st.th.regs, .int .i64 (st.asked : Nat)])
noncomputable def Z07 (c : Cd) (az : List Int) : Flat.Stand := if Z0E c = true then goI c.ins az (th0 c.regs.toNat) 0 else ⟨⟨0, [], []⟩, 0, none, 0⟩
theorem Z2G {c : Cd} (h : Z0E c = true) : Acy (nxL c.ins) c.ins.length := by
 unfold Z0E at h
 simp only [Bool.and_eq_true] at h
 exact Z89 (Z4c _) (Z5I.1 h.2)
theorem Z9I {H : Z00} {E E' R R' : AV} {f a1 a2 a3 a4 a5 p k e : Int} (hE : frz H 28 E = some E') (hR : frz H 28 R = some R') :
  frz H 30 (.tuple [.agg [E, .int .i64 f, .int .i64 a1, .int .i64 a2, .int .i64 a3, .int .i64 a4, .int .i64 a5, .int .i64 p, R, .int .i64 k], .int .i64 e]) = some (.tuple [.agg [E', .int .i64 f, .int .i64 a1, .int .i64 a2, .int .i64 a3, .int .i64 a4, .int .i64 a5, .int .i64 p, R', .int .i64 k], .int .i64 e]) := by
 have h1 : frz H 29 (.agg [E, .int .i64 f, .int .i64 a1, .int .i64 a2, .int .i64 a3, .int .i64 a4, .int .i64 a5, .int .i64 p, R, .int .i64 k]) = some (.agg [E', .int .i64 f, .int .i64 a1, .int .i64 a2, .int .i64 a3, .int .i64 a4, .int .i64 a5, .int .i64 p, R', .int .i64 k]) := by
  show (match Z0L (frz H 28) [E, .int .i64 f, .int .i64 a1, .int .i64 a2, .int .i64 a3, .int .i64 a4, .int .i64 a5, .int .i64 p, R, .int .i64 k] with | some l => some (AV.agg l) | none => none) = _
  simp only [Z0L, hE, hR]
  rfl
 exact Zdy (n := 29) h1 rfl
theorem Zj6 {H : Z00} {n b f sh len cap : Nat} {r : List Int} {g : Nat -> Nat} {ty : TypeId} (hH : H[b]? = some ⟨true, f, sh, .cells (renL g (ksC r)) ty⟩) (hl : len = r.length) : frz H (n + 2) (.slice b 0 len cap 1) = some (rsI r) := by
 rw [Z0p] at hH
 subst hl
 exact Z02 hH (Z0d _) (Z0e _)
theorem Zma {H : Z00} {n b f sh cap : Nat} {e : Ev} {l : List Ev} {g : Nat -> Nat} {ty : TypeId} (hH : H[b]? = some ⟨true, f, sh, .cells (renL g (Z14 (e :: l))) ty⟩) : frz H (n + 2) (.slice b 0 (l.length + 1) cap 5) = some (.rs (l.length + 1) 5 (Z14 (e :: l))) := by
 rw [Z0r] at hH
 exact Z02 hH (Z0g _ _) (Z0t _)
theorem Z0X {sn : Z0j} {z : Nat} {v : Value} (h : VR sn noI .nslice v) : VR sn noI (.rs 0 z []) v := by simp only [VR] at h ⊢; exact .inl ⟨trivial, trivial, h⟩
theorem Zas {sn : Z0j} {E E' R R' : AV} {e : AV} {v : Value} (hE : ∀ v, VR sn noI E v -> VR sn noI E' v) (hR : ∀ v, VR sn noI R v -> VR sn noI R' v) {f a1 a2 a3 a4 a5 p k : AV}
  (h : VR sn noI (.tuple [.agg [E, f, a1, a2, a3, a4, a5, p, R, k], e]) v) : VR sn noI (.tuple [.agg [E', f, a1, a2, a3, a4, a5, p, R', k], e]) v := by
 simp only [VR, LR] at h ⊢
 obtain ⟨d, hd, d1, l1, e1, ⟨g, hg, g1, m1, f1, r1, g2, m2, f2, r2, g3, m3, f3, r3, g4, m4, f4, r4, g5, m5, f5, r5, g6, m6, f6, r6, g7, m7, f7, r7, g8, m8, f8, r8, g9, m9, f9, r9, rest⟩, rest2⟩ := h
 exact ⟨d, hd, d1, l1, e1, ⟨g, hg, g1, m1, f1, hE _ r1, g2, m2, f2, r2, g3, m3, f3, r3, g4, m4, f4, r4, g5, m5, f5, r5, g6, m6, f6, r6, g7, m7, f7, r7, g8, m8, f8, r8, g9, m9, f9, hR _ r9, rest⟩, rest2⟩
def ZmZ (f : Nat) : Bool := Nat.beq f 29 || (Nat.beq f 31 || Nat.beq f 39)
theorem Z3P {c : Cd} (hr : Runs c.regs.toNat c.ins) (h : Z0E c = true) (az : List Int) : (Z07 c az).th.at_ < c.ins.length /\ (Z07 c az).th.regs.length = c.regs.toNat /\ (Z07 c az).th.evs.length <= 4000 /\ (Z07 c az).asked <= az.length /\
  ((Z07 c az).fin = 0 -> Flat.stp evF (Z0h c.ins (Z07 c az).th.at_) (Z07 c az).th = .asks /\ (Z07 c az).q = some (qu evF (Z0h c.ins (Z07 c az).th.at_) (Z07 c az).th.regs)) /\ ((Z07 c az).fin ≠ 0 -> Flat.stp evF (Z0h c.ins (Z07 c az).th.at_) (Z07 c az).th = .ends (Z07 c az).fin /\ (Z07 c az).q = none) := by
 obtain ⟨rank, hrank⟩ := Z2G h
 have hinv := Zb2 evF wrI (Z0h c.ins) (f := c.ins.length) hrank.2 hrank.1 az (th0 c.regs.toNat) 0 .zero
 have e : Z07 c az = go evF wrI (Z0h c.ins) c.ins.length az (th0 c.regs.toNat) 0 := by unfold Z07; rw [if_pos h]
 rw [e]
 have h1 := hinv.evs
 have h2 := hrank.1 0 .zero
 have h3 : (th0 c.regs.toNat).evs.length + rank (th0 c.regs.toNat).at_ = 0 + rank 0 := rfl
 have hf := hr.good.few
 refine ⟨hr.good.lt hinv.rch, hinv.regs.trans List.length_replicate, by omega, by have := hinv.asked; omega, hinv.asks, hinv.ends⟩
theorem Z7i (c : Cd) (hok : okC c) (hs : ∀ i ∈ c.ins, ∀ e ∈ i.ex, Z0f e <= 800000) (az : List Int) (hal : az.length <= 1000) :
  ValOK Tryz.prog runLives.gl 15 [c.av, rsI az] (.tuple [.agg (Z0T (Z07 c az)), .int .i64 (Z1y c)]) := by
 have hck := Z5z c hok
 have hΦ : ∀ r' : AV, (∀ sn v, VR sn noI r' v -> VR sn noI (.tuple [.agg (Z0T (Z07 c az)), .int .i64 (Z1y c)]) v) -> ∀ sn v, VR sn noI r' v -> VR sn noI (.tuple [.agg (Z0T (Z07 c az)), .int .i64 (Z1y c)]) v := fun r' h => h
 by_cases hfl : Z0E c = true
 · have hc := Z1Z hfl
   obtain ⟨hr, hr0, hr16⟩ := Z3R hok hs hc
   have hac := Z2G hfl
   have hsi := Z3P hr hfl az
   have hst : Z07 c az = goI c.ins az (th0 c.regs.toNat) 0 := by unfold Z07; rw [if_pos hfl]
   have he : Z1y c = 0 := Z15.2 hfl
   rw [he] at hck hΦ ⊢
   obtain ⟨rg, l⟩ := c
   obtain ⟨regs, rfl⟩ : ∃ regs : Nat, rg = regs := ⟨rg.toNat, by simp only at hr0; omega⟩
   simp only [Cd.av, Int.toNat_natCast] at *
   have hrun := ZfD (gl := runLives.gl) hr hac (by omega) az hal
   rw [<- hst] at hrun
   clear hst hfl hc he hs hok hac
   generalize Z07 ⟨(regs : Int), l⟩ az = st at *
   obtain ⟨O1, hO1, p1, -⟩ := fams (P := Tryz.prog) (gl := runLives.gl) [{ I := Unit, f := 29, G := fun _ => True, A := fun _ => [.agg [.int .i64 regs, .rs l.length 6 (inC l)]], R := fun _ => .int .i64 0, body := (by kernel_rfl), inj := fun _ _ _ _ _ => rfl, ok := fun _ _ => ⟨rfl, hck⟩ }] rfl
   have halive : ∀ o ∈ Z1G regs l st, o.alive = true := fun o ho => by
    obtain ⟨i, hi⟩ := List.getElem?_of_mem ho
    exact (Z2R hi).2.2.1
   obtain ⟨O2, hO2, q0, hoth⟩ := Z5v (P := Tryz.prog) (gl := runLives.gl) { I := Unit, f := 31, G := fun _ => True, A := fun _ => [.agg [.int .i64 regs, .rs l.length 6 (inC l)], rsI az], R := fun _ => .ptr 0 0, N := fun _ => Z1G regs l st, body := (by kernel_rfl), inj := fun _ _ _ _ _ => ⟨rfl, rfl⟩, ok := fun _ _ => ⟨rfl, halive, hrun⟩ } hO1
   obtain ⟨O, hO, q2, hoth2⟩ := ZgU (gl := runLives.gl) hr hO2
   have q1 : ∀ H, Z04 Tryz.prog O H 29 [.agg [.int .i64 regs, .rs l.length 6 (inC l)]] = some (.int .i64 0, H) := fun H => (hoth2 _ (by show (29 : Nat) ≠ 39; decide) _ _).trans ((hoth _ (by show (29 : Nat) ≠ 31; decide) _ _).trans (p1 () trivial H))
   have q3 : ∀ H, Z04 Tryz.prog O H 31 [.agg [.int .i64 regs, .rs l.length 6 (inC l)], rsI az] = some (ren (· + H.length) (.ptr 0 0), H ++ shA H.length (Z1G regs l st)) := fun H => (hoth2 _ (by show (31 : Nat) ≠ 39; decide) _ _).trans (q0 () trivial H)
   obtain ⟨h1, h2, h3, h4, h5, h6⟩ := hsi
   have q2' := q2 st.th.at_ st.th.regs
   clear p1 q0 q2 hoth hoth2 hrun hck halive hO1 hO2
   simp only [rsI] at q3 q2' ⊢
   refine fn_valX follows Z09 (Z0K follows Z09 hO 3) hΦ Tryz.func15 rfl (Z1j (isC := ZmZ) 3) ?_
   clear hΦ
   obtain ⟨⟨p, r, evs⟩, fin, q, asked⟩ := st
   simp only [Z1G, thH] at *
   by_cases hfin : fin = 0
   · subst hfin
     obtain ⟨-, hq⟩ := h5 rfl
     subst hq
     generalize qu evF (Z0h l p) r = qq at *
     obtain ⟨qk, ql, qo, qa, qb⟩ := qq
     simp only [Z0T, Z3H, quC, List.cons_append, List.nil_append, rsI, rsE] at *
     cases evs with
     | nil =>
      have q2' := q2' [.nslice, .int .i64 (asked : Nat), .int .i64 0, .bool true] h1 h2
      simp only [grA, grB] at q3
      repeat' ((conv => whnf); first | (refine exI (q1 _) ?_) | (refine exI (q3 _) ?_) | (refine exI (q2' _ _ ?_) ?_; (focus (exact Z9d (b := 2) rfl (Zj6 (n := 27) (b := 3) rfl rfl) rfl))) | (first | refine stp ?_ | with_reducible refine Z01 (fun h => ?_) (fun h => ?_)))
      all_goals (conv => whnf)
      all_goals exact ⟨_, Z9I rfl (Zj6 (n := 26) (b := 3) rfl rfl), fun sn v h => Zas (fun _ h => Z0X h) (fun _ h => h) h⟩
     | cons z evs =>
      have q2' := q2' [.rs (evs.length + 1) 5 (Z14 (z :: evs)), .int .i64 (asked : Nat), .int .i64 0, .bool true] h1 h2
      simp only [grA, grB] at q3
      repeat' ((conv => whnf); first | (refine exI (q1 _) ?_) | (refine exI (q3 _) ?_) | (refine exI (q2' _ _ ?_) ?_; (focus (exact Z9d (b := 2) rfl (Zj6 (n := 27) (b := 3) rfl rfl) (Zma (n := 27) (b := 4) rfl)))) | (first | refine stp ?_ | with_reducible refine Z01 (fun h => ?_) (fun h => ?_)))
      all_goals (conv => whnf)
      all_goals exact ⟨_, Z9I (Zma (n := 26) (b := 4) rfl) (Zj6 (n := 26) (b := 3) rfl rfl), fun sn v h => h⟩
   · have hfb : (fin == 0) = false := by simpa using hfin
     obtain ⟨-, hq⟩ := h6 hfin
     subst hq
     rw [hfb] at q3
     clear q2'
     simp only [Z0T, Z3H, quC, List.cons_append, List.nil_append, rsI, rsE] at *
     cases evs with
     | nil =>
      simp only [grA, grB] at q3
      repeat' ((conv => whnf); first | (refine exI (q1 _) ?_) | (refine exI (q3 _) ?_) | (first | refine stp ?_ | with_reducible refine Z01 (fun h => ?_) (fun h => ?_)))
      all_goals (conv => whnf)
      all_goals exact ⟨_, Z9I rfl (Zj6 (n := 26) (b := 3) rfl rfl), fun sn v h => Zas (fun _ h => Z0X h) (fun _ h => h) h⟩
     | cons z evs =>
      simp only [grA, grB] at q3
      repeat' ((conv => whnf); first | (refine exI (q1 _) ?_) | (refine exI (q3 _) ?_) | (first | refine stp ?_ | with_reducible refine Z01 (fun h => ?_) (fun h => ?_)))
      all_goals (conv => whnf)
      all_goals exact ⟨_, Z9I (Zma (n := 26) (b := 4) rfl) (Zj6 (n := 26) (b := 3) rfl rfl), fun sn v h => h⟩
 · have he : Z1y c ≠ 0 := fun h => hfl (Z15.1 h)
   have hst : Z07 c az = ⟨⟨0, [], []⟩, 0, none, 0⟩ := by unfold Z07; rw [if_neg hfl]
   rw [hst] at hΦ ⊢
   have e1 : (Z1y c != 0) = true := by simpa using he
   obtain ⟨O, hO, p1, -⟩ := fams (P := Tryz.prog) (gl := runLives.gl) [{ I := Unit, f := 29, G := fun _ => True, A := fun _ => [c.av], R := fun _ => .int .i64 (Z1y c), body := (by kernel_rfl), inj := fun _ _ _ _ _ => rfl, ok := fun _ _ => ⟨rfl, hck⟩ }] rfl
   have q1 : ∀ H, Z04 Tryz.prog O H 29 [c.av] = some (.int .i64 (Z1y c), H) := p1 () trivial
   clear p1 hck hst he hfl hok hs
   generalize Z1y c = n at *
   obtain ⟨regs, l⟩ := c
   simp only [Cd.av, rsI] at *
   refine fn_valX follows Z09 (Z0K follows Z09 hO 3) hΦ Tryz.func15 rfl (Z1j (isC := ZmZ) 3) ?_
   clear hΦ
   repeat' ((conv => whnf); first | (refine exI (q1 _) ?_) | (first | refine stp ?_ | with_reducible refine Z01 (fun h => ?_) (fun h => ?_)))
   all_goals exact fun sn v h => Zas (fun _ h => Z0X h) (fun _ h => Z0X h) h
end Go.Proofs.YteidjbahodbgdaaGreatDoor.lex
end

section
namespace Go.Proofs.YteidjbahodbgdaaGreatDoor.lex
open Go.Abs Go.RowKit Go.Flat
set_option maxRecDepth 100000
set_option maxHeartbeats 4000000
variable {gl : Z0l}
theorem tgI : Z47 Tryz.prog 3 = some false := by kernel_rfl
theorem tgL : Z47 Tryz.prog 2 = some false := by kernel_rfl
theorem egE : Tryz.prog.eqGuardType Tryz.prog.depth 47 = false := by kernel_rfl
theorem feE : Z2g Tryz.prog 47 = some [(3, 0), (3, 1), (3, 2), (2, 3), (2, 4)] := by kernel_rfl
theorem egA : Tryz.prog.eqGuardType Tryz.prog.depth 35 = false := by kernel_rfl
theorem feA : Z2g Tryz.prog 35 = some [(3, 0), (3, 1), (3, 2), (2, 3), (2, 4)] := by kernel_rfl
def eq5 (a b : Int × Int × Int × Int × Int) : Bool := a.1 == b.1 && (a.2.1 == b.2.1 && (a.2.2.1 == b.2.2.1 && (a.2.2.2.1 == b.2.2.2.1 && (a.2.2.2.2 == b.2.2.2.2 && true))))
theorem Zmh (a b c d e a' b' c' d' e' : Int) : Zaa Tryz.prog 47 [.int .i64 a, .int .i64 b, .int .i64 c, .int .i64 d, .int .i64 e] [.int .i64 a', .int .i64 b', .int .i64 c', .int .i64 d', .int .i64 e'] = some (eq5 (a, b, c, d, e) (a', b', c', d', e')) :=
 Za9 egE feE (Z0A tgI rfl rfl (Z0U Tryz.underlying3 _ _) (Z0A tgI rfl rfl (Z0U Tryz.underlying3 _ _) (Z0A tgI rfl rfl (Z0U Tryz.underlying3 _ _) (Z0A tgL rfl rfl (Z0U Tryz.underlying2 _ _) (Z0A tgL rfl rfl (Z0U Tryz.underlying2 _ _) rfl)))))
theorem Zn4 (a b c d e a' b' c' d' e' : Int) : Zaa Tryz.prog 35 [.int .i64 a, .int .i64 b, .int .i64 c, .int .i64 d, .int .i64 e] [.int .i64 a', .int .i64 b', .int .i64 c', .int .i64 d', .int .i64 e'] = some (eq5 (a, b, c, d, e) (a', b', c', d', e')) :=
 Za9 egA feA (Z0A tgI rfl rfl (Z0U Tryz.underlying3 _ _) (Z0A tgI rfl rfl (Z0U Tryz.underlying3 _ _) (Z0A tgI rfl rfl (Z0U Tryz.underlying3 _ _) (Z0A tgL rfl rfl (Z0U Tryz.underlying2 _ _) (Z0A tgL rfl rfl (Z0U Tryz.underlying2 _ _) rfl)))))
theorem Za1 {a b c d e a' b' c' d' e' : Int} : eq5 (a, b, c, d, e) (a', b', c', d', e') = true ↔ (⟨a, b, c, d, e⟩ : Ev) = ⟨a', b', c', d', e'⟩ := by
 simp [eq5]
theorem ZgF {a b c d e a' b' c' d' e' : Int} : eq5 (a, b, c, d, e) (a', b', c', d', e') = false ↔ (⟨a, b, c, d, e⟩ : Ev) ≠ ⟨a', b', c', d', e'⟩ := by
 rw [<- Bool.not_eq_true, Za1]
open Classical in
noncomputable def Z7R (a b : List Ev) : Bool := decide (a = b)
open Classical in
noncomputable def Z6Z (l evs : List Ev) : Bool := decide (evs.take l.length = l)
def Zg8 (a b : List Int) : Bool := decide (a = b)
theorem Z2h {a b : List Ev} : Z7R a b = true ↔ a = b := by unfold Z7R; simp
theorem Z5o {a b : List Int} : Zg8 a b = true ↔ a = b := by unfold Zg8; simp
theorem Z8e {b : Bool} {p : Prop} (h : b = true ↔ p) (n : ¬ p) : b = false := by rw [Bool.eq_false_iff]; exact fun e => n (h.1 e)
theorem Z53 {α : Type} {a b : List α} {i : Nat} (h : a.take i = b.take i) (ha : i < a.length) (hb : i < b.length) (e : a[i] = b[i]) : a.take (i + 1) = b.take (i + 1) := by
 rw [List.take_succ_eq_append_getElem ha, List.take_succ_eq_append_getElem hb, h, e]
theorem Zk5 {α : Type} {a b : List α} {i : Nat} (ha : i < a.length) (hb : i < b.length) (e : a[i] ≠ b[i]) : a ≠ b := fun h => e (by subst h; rfl)
theorem Z8Q (a b : List Ev) (ha : a.length <= 1000000) (hb : b.length <= 1000000) : ValOK Tryz.prog gl 26 [rsE a, rsE b] (.bool (Z7R a b)) := by
 simp only [rsE]
 by_cases hl : a.length = b.length
 case' neg =>
  have e1 : ((a.length : Int) != (b.length : Int)) = true := by simp; omega
  rw [show Z7R a b = false from Z8e Z2h (fun h => hl (by rw [h]))]
  refine Z0a follows Z09 Z05 Tryz.func26 rfl ?_
  repeat' ((conv => whnf); first | refine stp ?_ | with_reducible refine Z01 (fun h => ?_) (fun h => ?_))
  all_goals rfl
 have e1 : ((a.length : Int) != (b.length : Int)) = false := by simp; omega
 have hle : a.length <= b.length := by omega
 have hres : a.take a.length = b.take a.length -> Z7R a b = true := fun h => Z2h.2 (by rw [List.take_length, hl, List.take_length] at h; exact h)
 have hno : ∀ i (h1 : i < a.length) (h2 : i < b.length), a[i] ≠ b[i] -> Z7R a b = false := fun i h1 h2 e => Z8e Z2h (Zk5 h1 h2 e)
 generalize Z7R a b = R at *
 refine Z0a follows Z09 Z05 Tryz.func26 rfl ?_
 repeat' ((conv => whnf); first | (first | refine stp ?_ | with_reducible refine Z01 (fun h => ?_) (fun h => ?_)))
 conv => whnf
 refine ⟨Nat, (fun i => i <= a.length /\ a.take i = b.take i), (fun i => [(0, .rs a.length 5 (Z14 a)), (1, .rs b.length 5 (Z14 b)), (5, .int .i64 (i : Nat))]), (fun _ => []), (fun i => a.length - i), ⟨0, ⟨Nat.zero_le _, rfl⟩, FgL.mk0 rfl ?_⟩, ?_⟩
 · (repeat (first | exact trivial | refine stw ?_))
 rintro i ⟨hi, hall⟩
 dsimp only
 by_cases hlt : i < a.length
 · have e2 : decide ((i : Int) < (a.length : Int)) = true := by simpa using hlt
   have hlt2 : i < b.length := by omega
   have hx := ev5 a i hlt
   have hy := ev5 b i hlt2
   have hst := Z53 hall hlt hlt2
   have hno := hno i hlt hlt2
   generalize a[i] = x at *
   generalize b[i] = y at *
   obtain ⟨x1, x2, x3, x4, x5⟩ := x
   obtain ⟨y1, y2, y3, y4, y5⟩ := y
   simp only [Z0c] at hx hy
   have ha2 := Zmh x1 x2 x3 x4 x5 y1 y2 y3 y4 y5
   have he := @Za1 x1 x2 x3 x4 x5 y1 y2 y3 y4 y5
   have hn := @ZgF x1 x2 x3 x4 x5 y1 y2 y3 y4 y5
   generalize eq5 (x1, x2, x3, x4, x5) (y1, y2, y3, y4, y5) = q at *
   cases q with
   | true =>
    have hst := hst (he.1 rfl)
    repeat' ((conv => whnf); first | (refine exI hx ?_) | (refine exI hy ?_) | (refine exI ha2 ?_) | (with_reducible refine ixJ i rfl ?_ ?_; (focus (omega))) | (first | refine stp ?_ | with_reducible refine Z01 (fun h => ?_) (fun h => ?_)))
    conv => whnf
    refine ⟨i + 1, ⟨hlt, hst⟩, by show a.length - (i + 1) < a.length - i; omega, FgL.mk0 rfl ?_⟩
    (repeat (first | exact trivial | refine stw ?_))
   | false =>
    rw [hno (hn.1 rfl)]
    repeat' ((conv => whnf); first | (refine exI hx ?_) | (refine exI hy ?_) | (refine exI ha2 ?_) | (with_reducible refine ixJ i rfl ?_ ?_; (focus (omega))) | (first | refine stp ?_ | with_reducible refine Z01 (fun h => ?_) (fun h => ?_)))
    all_goals rfl
 · have e2 : decide ((i : Int) < (a.length : Int)) = false := by simpa using hlt
   have hi2 : i = a.length := by omega
   subst hi2
   rw [hres hall]
   repeat' ((conv => whnf); first | refine stp ?_ | with_reducible refine Z01 (fun h => ?_) (fun h => ?_))
   all_goals rfl
theorem ZaY (a b : List Int) (ha : a.length <= 1000000) (hb : b.length <= 1000000) : ValOK Tryz.prog gl 21 [rsI a, rsI b] (.bool (Zg8 a b)) := by
 simp only [rsI]
 by_cases hl : a.length = b.length
 case' neg =>
  have e1 : ((a.length : Int) != (b.length : Int)) = true := by simp; omega
  rw [show Zg8 a b = false from Z8e Z5o (fun h => hl (by rw [h]))]
  refine Z0a follows Z09 Z05 Tryz.func21 rfl ?_
  repeat' ((conv => whnf); first | refine stp ?_ | with_reducible refine Z01 (fun h => ?_) (fun h => ?_))
  all_goals rfl
 have e1 : ((a.length : Int) != (b.length : Int)) = false := by simp; omega
 have hle : a.length <= b.length := by omega
 have hres : a.take a.length = b.take a.length -> Zg8 a b = true := fun h => Z5o.2 (by rw [List.take_length, hl, List.take_length] at h; exact h)
 have hno : ∀ i (h1 : i < a.length) (h2 : i < b.length), a[i] ≠ b[i] -> Zg8 a b = false := fun i h1 h2 e => Z8e Z5o (Zk5 h1 h2 e)
 generalize Zg8 a b = R at *
 refine Z0a follows Z09 Z05 Tryz.func21 rfl ?_
 repeat' ((conv => whnf); first | (first | refine stp ?_ | with_reducible refine Z01 (fun h => ?_) (fun h => ?_)))
 conv => whnf
 refine ⟨Nat, (fun i => i <= a.length /\ a.take i = b.take i), (fun i => [(0, .rs a.length 1 (ksC a)), (1, .rs b.length 1 (ksC b)), (5, .int .i64 (i : Nat))]), (fun _ => []), (fun i => a.length - i), ⟨0, ⟨Nat.zero_le _, rfl⟩, FgL.mk0 rfl ?_⟩, ?_⟩
 · (repeat (first | exact trivial | refine stw ?_))
 rintro i ⟨hi, hall⟩
 dsimp only
 by_cases hlt : i < a.length
 · have e2 : decide ((i : Int) < (a.length : Int)) = true := by simpa using hlt
   have hlt2 : i < b.length := by omega
   have hx : ∀ off, off = i -> tk 1 ((ksC a).drop off) = some [.int .i64 a[i]] := fun off e => Z11 _ a i hlt e
   have hy : ∀ off, off = i -> tk 1 ((ksC b).drop off) = some [.int .i64 b[i]] := fun off e => Z11 _ b i hlt2 e
   have hst := Z53 hall hlt hlt2
   have hno := hno i hlt hlt2
   generalize a[i] = x at *
   generalize b[i] = y at *
   cases hq : (x != y) with
   | false =>
    have hst := hst (by simpa using hq)
    repeat' ((conv => whnf); first | (refine exI (hx _ (by omega)) ?_) | (refine exI (hy _ (by omega)) ?_) | (with_reducible refine ixJ i rfl ?_ ?_; (focus (omega))) | (first | refine stp ?_ | with_reducible refine Z01 (fun h => ?_) (fun h => ?_)))
    conv => whnf
    refine ⟨i + 1, ⟨hlt, hst⟩, by show a.length - (i + 1) < a.length - i; omega, FgL.mk0 rfl ?_⟩
    (repeat (first | exact trivial | refine stw ?_))
   | true =>
    rw [hno (by simpa using hq)]
    repeat' ((conv => whnf); first | (refine exI (hx _ (by omega)) ?_) | (refine exI (hy _ (by omega)) ?_) | (with_reducible refine ixJ i rfl ?_ ?_; (focus (omega))) | (first | refine stp ?_ | with_reducible refine Z01 (fun h => ?_) (fun h => ?_)))
    all_goals rfl
 · have e2 : decide ((i : Int) < (a.length : Int)) = false := by simpa using hlt
   have hi2 : i = a.length := by omega
   subst hi2
   rw [hres hall]
   repeat' ((conv => whnf); first | refine stp ?_ | with_reducible refine Z01 (fun h => ?_) (fun h => ?_))
   all_goals rfl
end Go.Proofs.YteidjbahodbgdaaGreatDoor.lex
end

section
namespace Go.Proofs.YteidjbahodbgdaaGreatDoor.lex
open Go.Abs Go.RowKit Go.Flat
set_option maxRecDepth 100000
set_option maxHeartbeats 4000000
variable {gl : Z0l}
theorem Z7f {c : Cd} (hok : okC c) (hs : ∀ i ∈ c.ins, ∀ e ∈ i.ex, Z0f e <= 800000) (az : List Int) : (Z07 c az).th.evs.length <= 4000 := by
 by_cases h : Z0E c = true
 · exact (Z3P (Z3R hok hs (Z1Z h)).1 h az).2.2.1
 · unfold Z07; rw [if_neg h]; show 0 <= 4000; omega
open Classical in
noncomputable def Zf1 (a b : Flat.Stand) : Bool := decide (a.th = b.th /\ a.fin = b.fin /\ Z3H a.q = Z3H b.q /\ a.asked = b.asked)
def qu5 : Option Qu -> Int × Int × Int × Int × Int
 | some q => (q.kind, q.loc, q.order, q.a, q.b)
 | none => (0, 0, 0, 0, 0)
theorem Z2k (q : Option Qu) : Z3H q = [.int .i64 (qu5 q).1, .int .i64 (qu5 q).2.1, .int .i64 (qu5 q).2.2.1, .int .i64 (qu5 q).2.2.2.1, .int .i64 (qu5 q).2.2.2.2] := by
 cases q <;> rfl
theorem Zjd {a b : Int × Int × Int × Int × Int} : eq5 a b = true ↔ a = b := by
 obtain ⟨a1, a2, a3, a4, a5⟩ := a
 obtain ⟨b1, b2, b3, b4, b5⟩ := b
 simp [eq5]
theorem Z7g (a b : Flat.Stand) (ha : a.th.evs.length <= 1000000) (hb : b.th.evs.length <= 1000000) (ha2 : a.th.regs.length <= 1000000) (hb2 : b.th.regs.length <= 1000000) : ValOK Tryz.prog gl 11 [.agg (Z0T a), .agg (Z0T b)] (.bool (Zf1 a b)) := by
 obtain ⟨O, hO, p1, p2, -⟩ := fams (P := Tryz.prog) (gl := gl) [{ I := Unit, f := 26, G := fun _ => True, A := fun _ => [rsE a.th.evs, rsE b.th.evs], R := fun _ => .bool (Z7R a.th.evs b.th.evs), body := (by kernel_rfl), inj := fun _ _ _ _ _ => rfl, ok := fun _ _ => ⟨rfl, Z8Q _ _ ha hb⟩ },
  { I := Unit, f := 21, G := fun _ => True, A := fun _ => [rsI a.th.regs, rsI b.th.regs], R := fun _ => .bool (Zg8 a.th.regs b.th.regs), body := (by kernel_rfl), inj := fun _ _ _ _ _ => rfl, ok := fun _ _ => ⟨rfl, ZaY _ _ ha2 hb2⟩ }] rfl
 have q1 : ∀ H, Z04 Tryz.prog O H 26 [rsE a.th.evs, rsE b.th.evs] = some (.bool (Z7R a.th.evs b.th.evs), H) := p1 () trivial
 have q2 : ∀ H, Z04 Tryz.prog O H 21 [rsI a.th.regs, rsI b.th.regs] = some (.bool (Zg8 a.th.regs b.th.regs), H) := p2 () trivial
 clear p1 p2
 have hR : Zf1 a b = (Z7R a.th.evs b.th.evs && ((a.fin == b.fin) && (eq5 (qu5 a.q) (qu5 b.q) && ((((a.th.at_ : Nat) : Int) == ((b.th.at_ : Nat) : Int)) && (Zg8 a.th.regs b.th.regs && (((a.asked : Nat) : Int) == ((b.asked : Nat) : Int))))))) := by
  rw [Bool.eq_iff_iff]
  simp only [Zf1, Bool.and_eq_true, Z2h, Z5o, beq_iff_eq, Zjd, decide_eq_true_eq]
  have e1 : Z3H a.q = Z3H b.q ↔ qu5 a.q = qu5 b.q := by
   rw [Z2k, Z2k]
   generalize qu5 a.q = x
   generalize qu5 b.q = y
   obtain ⟨x1, x2, x3, x4, x5⟩ := x
   obtain ⟨y1, y2, y3, y4, y5⟩ := y
   simp
  rw [e1]
  obtain ⟨⟨p, r, ev⟩, f, q, k⟩ := a
  obtain ⟨⟨p', r', ev'⟩, f', q', k'⟩ := b
  simp only [Th.mk.injEq]
  constructor
  · rintro ⟨⟨rfl, rfl, rfl⟩, rfl, h, rfl⟩; exact ⟨rfl, rfl, h, rfl, rfl, rfl⟩
  · rintro ⟨h1, h2, h3, h4, h5, h6⟩; exact ⟨⟨by omega, h5, h1⟩, h2, h3, by omega⟩
 rw [hR]
 have hagg := Zn4 (qu5 a.q).1 (qu5 a.q).2.1 (qu5 a.q).2.2.1 (qu5 a.q).2.2.2.1 (qu5 a.q).2.2.2.2 (qu5 b.q).1 (qu5 b.q).2.1 (qu5 b.q).2.2.1 (qu5 b.q).2.2.2.1 (qu5 b.q).2.2.2.2
 simp only [Z0T, Z2k, List.cons_append, List.nil_append, rsE, rsI] at *
 clear hR ha hb ha2 hb2
 generalize Z7R a.th.evs b.th.evs = b1 at *
 generalize Zg8 a.th.regs b.th.regs = b2 at *
 have hq : eq5 ((qu5 a.q).1, (qu5 a.q).2.1, (qu5 a.q).2.2.1, (qu5 a.q).2.2.2.1, (qu5 a.q).2.2.2.2) ((qu5 b.q).1, (qu5 b.q).2.1, (qu5 b.q).2.2.1, (qu5 b.q).2.2.2.1, (qu5 b.q).2.2.2.2) = eq5 (qu5 a.q) (qu5 b.q) := rfl
 rw [hq] at hagg
 generalize eq5 (qu5 a.q) (qu5 b.q) = b3 at *
 clear hq
 refine Z0a follows Z09 hO Tryz.func11 rfl ?_
 cases b1 <;> cases b2 <;> cases b3 <;> cases h1 : (a.fin == b.fin) <;> cases h2 : (((a.th.at_ : Nat) : Int) == ((b.th.at_ : Nat) : Int)) <;> cases h3 : (((a.asked : Nat) : Int) == ((b.asked : Nat) : Int))
 all_goals (repeat' ((conv => whnf); first | (refine exI (q1 _) ?_) | (refine exI (q2 _) ?_) | (refine exI hagg ?_) | (first | refine stp ?_ | with_reducible refine Z01 (fun h => ?_) (fun h => ?_))))
 all_goals (first | rfl | (show AV.bool _ = AV.bool _; congr 1 <;> simp [h1, h2, h3]))
end Go.Proofs.YteidjbahodbgdaaGreatDoor.lex
end

section
namespace Go.Abs
open Go.RowKit Go.ChangeShapes Go.WideShapes Go.ChangeAt
def OpensB (P : Program) (N : Nat) (t : TypeId) (Q : List AV -> Prop) : Prop :=
 ∀ (H : Type) (enc : TypeId × Value -> H) (W : World) (fuel : Nat) (cs : List Value) (x : DataW H × List MemPlace), fuel <= N -> DataW.trod enc P W 0 (fun _ => true) true fuel t cs = some x -> ∃ us, Q us /\ LR (Z2o W) noI us cs
section opens
variable {P : Program}
theorem OpensB.mono {N : Nat} {t : TypeId} {Q Q' : List AV -> Prop} (h : OpensB P N t Q) (hq : ∀ u, Q u -> Q' u) : OpensB P N t Q' := fun H enc W fuel cs x hN hx => let ⟨u, h1, h2⟩ := h H enc W fuel cs x hN hx; ⟨u, hq _ h1, h2⟩
theorem OpensB.of {N : Nat} {t : TypeId} {Q : List AV -> Prop} (h : Z6M P t Q) : OpensB P N t Q := fun H enc W fuel cs x _ hx => h H enc W fuel cs x hx
theorem OpensB.all {t : TypeId} {Q : List AV -> Prop} (h : ∀ N, OpensB P N t Q) : Z6M P t Q := fun H enc W fuel cs x hx => h fuel H enc W fuel cs x (Nat.le_refl _) hx
theorem Z7r {t : TypeId} {Q : List AV -> Prop} : OpensB P 0 t Q := fun H enc W fuel cs x hN hx => by
 obtain rfl : fuel = 0 := by omega
 simp [DataW.trod] at hx
theorem ZaO {N : Nat} {t e : TypeId} {z : Nat} {Q : List AV -> Prop} (ht : P.underlying t = some (.slice e)) (hz : P.cellsOf e = z) (hz0 : z ≠ 0) (he : OpensB P N e Q) :
  OpensB P (N + 1) t fun us => ∃ l : List (List AV), (∀ u ∈ l, Q u /\ u.length = z) /\ us = [.rs l.length z l.flatten] /\ l.length <= maxLen := by
 intro H enc W fuel cs x hN h
 rcases DataW.trod_slice ht h with ⟨rfl, _⟩ | ⟨a, len, cap, els, rest, n, hfu, rfl, _, _, hlc, hcm, hl, hel, hrest⟩
 · exact ⟨_, ⟨[], by simp, rfl, by simp⟩, by simp [LR, VR]⟩
 · rw [hz] at hel
   have each : ∀ i, i < len -> ∃ (vs : List Value) (u : List AV), W.cells? 0 (a.add (i * z)) z = some vs /\ Q u /\ LR (Z2o W) noI u vs := by
    intro i hi
    have h1 := hel i hi
    have h2 : els[i]? = some els[i] := List.getElem?_eq_getElem (by omega)
    rw [h2] at h1
    simp only [Option.bind_eq_some_iff] at h1
    obtain ⟨vs, h3, h4⟩ := h1
    obtain ⟨u, h5, h6⟩ := he H enc W n vs _ (by omega) h4
    exact ⟨vs, u, h3, h5, h6⟩
   have hex : ∃ (l : List (List AV)) (vss : List (List Value)), l.length = len /\ vss.length = len /\ ∀ i, i < len -> ∃ vs u, l[i]? = some u /\ vss[i]? = some vs /\ W.cells? 0 (a.add (i * z)) z = some vs /\ Q u /\ LR (Z2o W) noI u vs := by
    clear hel hl h hlc hcm hrest
    induction len with
    | zero => exact ⟨[], [], rfl, rfl, fun i hi => by omega⟩
    | succ m ih =>
     obtain ⟨l, vss, h1, h2, h3⟩ := ih fun i hi => each i (by omega)
     obtain ⟨vs, u, g1, g2, g3⟩ := each m (by omega)
     refine ⟨l ++ [u], vss ++ [vs], by simp [h1], by simp [h2], fun i hi => ?_⟩
     by_cases e : i = m
     · subst e
       exact ⟨vs, u, by simp [<- h1], by simp [<- h2], g1, g2, g3⟩
     · obtain ⟨vs', u', k1, k2, k3⟩ := h3 i (by omega)
       exact ⟨vs', u', by rw [List.getElem?_append_left (by omega)]; exact k1, by rw [List.getElem?_append_left (by omega)]; exact k2, k3⟩
   obtain ⟨l, vss, h1, h2, h3⟩ := hex
   have hll : ∀ u ∈ l, Q u /\ u.length = z := by
    intro u hu
    obtain ⟨i, hi, rfl⟩ := List.mem_iff_getElem.1 hu
    obtain ⟨vs, u', k1, k2, k3, k4, k5⟩ := h3 i (by omega)
    rw [List.getElem?_eq_getElem hi] at k1; simp at k1
    rw [k1]
    exact ⟨k4, by rw [<- k5.length, (cells?_get k3).1]⟩
   refine ⟨_, ⟨l, hll, rfl, by omega⟩, ?_⟩
   simp only [LR]
   refine ⟨_, _, rfl, ?_, rfl⟩
   simp only [VR]
   have hfl : l.flatten.length = l.length * z := by
    clear h1 h3
    induction l with
    | nil => simp
    | cons u l ih => simp only [List.flatten_cons, List.length_append, List.length_cons, (hll u (by simp)).2, ih fun v hv => hll v (by simp [hv])]; rw [Nat.add_mul]; omega
   have hspot : len ≠ 0 -> a.spot = none := by
    intro h0
    obtain ⟨vs, u, k1, k2, k3, k4, k5⟩ := h3 0 (by omega)
    obtain ⟨g1, g2⟩ := cells?_get k3
    have : W.cell? ((a.add (0 * z)).add 0) = some vs[0] := g2 0 _ (List.getElem?_eq_getElem (by omega))
    rw [Nat.zero_mul] at this
    simpa [Addr.add] using World.cell?_spot this
   refine .inr ⟨a, cap, by rw [h1], by omega, hfl, Z2v fun k u hu => ?_, fun h0 => hspot (by rw [<- h1]; exact h0)⟩
   obtain ⟨x', g1, g2⟩ := Z5Z hz0 (fun u hu => (hll u hu).2) hu
   have hklt : k / z < len := by rw [<- h1]; exact (List.getElem?_eq_some_iff.1 g1).1
   obtain ⟨vs, u', k1, k2, k3, k4, k5⟩ := h3 (k / z) hklt
   rw [g1] at k1; simp at k1; subst k1
   obtain ⟨v, e1, e2⟩ := k5.get g2
   refine ⟨v, ?_, e2⟩
   have hc := (cells?_get k3).2 _ _ e1
   rw [Z85 a (hspot (Nat.ne_of_gt (Nat.lt_of_le_of_lt (Nat.zero_le _) hklt)))] at hc
   have hk : a.off + k / z * z + k % z = a.off + k := by rw [Nat.add_assoc, Nat.mul_comm, Nat.div_add_mod]
   rw [hk] at hc
   unfold Z2o
   have hlt : a.block < W.heap.size := by
    cases hq : W.heap[a.block]? with
    | none => unfold World.cell? at hc; simp only [hq] at hc; cases hc
    | some ob => exact (Array.getElem?_eq_some_iff.1 hq).1
   rw [if_pos (by exact hlt)]; exact hc
def Z4r (P : Program) (N : Nat) : List Field -> List (List AV -> Prop) -> Nat -> Nat -> Prop
 | [], [], off, tot => off = tot
 | f :: fs, Q :: Qs, off, tot => f.offset = off /\ OpensB P N f.type Q /\ Z4r P N fs Qs (off + P.cellsOf f.type) tot
 | _, _, _, _ => False
theorem ZaP {N : Nat} {H : Type} {enc : TypeId × Value -> H} {W : World} {n tot : Nat} {cs : List Value} (hcs : cs.length = tot) (hN : n <= N) : ∀ {fs : List Field} {Qs : List (List AV -> Prop)} {xs : List (DataW H × List MemPlace)} {off : Nat}, Z4r P N fs Qs off tot -> xs.length = fs.length -> off <= tot ->
  (∀ (i : Nat) (f : Field), fs[i]? = some f -> DataW.trod enc P W 0 (fun _ => true) true n f.type ((cs.drop f.offset).take (P.cellsOf f.type)) = xs[i]?) -> ∃ us, FsQ Qs us /\ LR (Z2o W) noI us (cs.drop off)
 | [], [], xs, off, h, hl, ho, hx => by
  have : off = tot := h
  subst this
  exact ⟨[], rfl, by simp [LR, <- hcs]⟩
 | f :: fs, Q :: Qs, xs, off, h, hl, ho, hx => by
  obtain ⟨h1, h2, h3⟩ := h
  cases xs with
  | nil => simp at hl
  | cons x xs =>
   have h0 := hx 0 f rfl
   simp only [List.getElem?_cons_zero] at h0
   obtain ⟨u, q1, q2⟩ := h2 H enc W n _ _ hN h0
   have hle : ∀ (fs : List Field) (Qs : List (List AV -> Prop)) (o : Nat), Z4r P N fs Qs o tot -> o <= tot := by
    intro fs
    induction fs with
    | nil => intro Qs o h; cases Qs with | nil => exact Nat.le_of_eq h | cons _ _ => exact h.elim
    | cons g gs ih => intro Qs o h; cases Qs with | nil => exact h.elim | cons _ _ => have := ih _ _ h.2.2; omega
   obtain ⟨us, q3, q4⟩ := ZaP hcs hN h3 (by simpa using hl) (hle _ _ _ h3) fun i g hg => by simpa using hx (i + 1) g (by simpa using hg)
   refine ⟨u ++ us, ⟨u, us, rfl, q1, q3⟩, ?_⟩
   rw [h1] at q2
   have := q2.append q4
   rwa [<- List.drop_drop, List.take_append_drop] at this
 | [], _ :: _, xs, off, h, hl, ho, hx => h.elim
 | _ :: _, [], xs, off, h, hl, ho, hx => h.elim
theorem Z9v {N : Nat} {t : TypeId} {fs : Array Field} {Qs : List (List AV -> Prop)} (ht : P.underlying t = some (.struct fs)) (h : Z4r P N fs.toList Qs 0 (P.cellsOf t)) : OpensB P (N + 1) t (FsQ Qs) := by
 intro H enc W fuel cs x hN hx
 obtain ⟨xs, n, hfu, _, hl, hlen, hf⟩ := DataW.trod_struct ht hx
 obtain ⟨us, h1, h2⟩ := ZaP hl (by omega) h (by simpa using hlen) (Nat.zero_le _) fun i f hi => hf i f (by simpa using hi)
 exact ⟨us, h1, by simpa using h2⟩
end opens
end Go.Abs
end

section
namespace Go.Proofs.YteidjbahodbgdaaGreatDoor.lex
open Go.Abs Go.RowKit Go.Flat
set_option maxRecDepth 100000
set_option maxHeartbeats 4000000
def QE (us : List AV) : Prop := ∃ e : Ex, us = e.cells /\ okE e
def QEL (us : List AV) : Prop := ∃ l : List Ex, us = [exA l] /\ okL l /\ l.length <= maxLen
def QI (us : List AV) : Prop := ∃ n, us = [.int .i64 n] /\ (Lit.int .i64 n).wf = true
def QT (us : List AV) : Prop := ∃ s : List UInt8, us = [.str s] /\ s.length <= maxLen
theorem Zgy : ∀ l : List (List AV), (∀ u ∈ l, QE u /\ u.length = 4) -> ∃ m : List Ex, l.flatten = exC m /\ l.length = m.length /\ okL m
 | [], _ => ⟨[], by simp only [exC, List.flatten_nil], rfl, trivial⟩
 | u :: l, h => by
  obtain ⟨m, h1, h2, h3⟩ := Zgy l fun v hv => h v (by simp [hv])
  obtain ⟨⟨e, rfl, h4⟩, _⟩ := h u (by simp)
  exact ⟨e :: m, by simp only [List.flatten_cons, exC, h1], by simp [h2], by simp only [okL]; exact ⟨h4, h3⟩⟩
theorem fsE (N : Nat) (h : OpensB Tryz.prog N 60 QEL) : Z4r Tryz.prog N (match Tryz.prog.underlying 65 with | some (.struct fs) => fs.toList | _ => []) [QI, QI, QT, QEL] 0 (Tryz.prog.cellsOf 65) := by
 rw [Tryz.underlying65]
 refine ⟨rfl, .of (Z0v Tryz.underlying3), ?_⟩
 refine ⟨by kernel_rfl, .of (Z0v Tryz.underlying2), ?_⟩
 refine ⟨by kernel_rfl, .of (ZfQ Tryz.underlying9), ?_⟩
 refine ⟨by kernel_rfl, h, ?_⟩
 unfold Z4r; kernel_rfl
theorem q_e {us : List AV} (h : FsQ [QI, QI, QT, QEL] us) : QE us := by
 obtain ⟨a, u1, rfl, ⟨n1, rfl, _⟩, b, u2, rfl, ⟨n2, rfl, _⟩, c, u3, rfl, ⟨s, rfl, hs⟩, d, u4, rfl, ⟨k, rfl, hk, hkl⟩, h3⟩ := h
 have h3 : u4 = [] := h3
 subst h3
 exact ⟨.mk n1 n2 s k, by simp only [Ex.cells]; rfl, by simp only [okE, okN]; exact ⟨⟨hs, hkl⟩, hk⟩⟩
theorem ZiV : ∀ N, OpensB Tryz.prog N 65 QE /\ OpensB Tryz.prog N 60 QEL
 | 0 => ⟨Z7r, Z7r⟩
 | N + 1 => by
  obtain ⟨h1, h2⟩ := ZiV N
  have h3 := fsE N h2
  rw [Tryz.underlying65] at h3
  refine ⟨(Z9v Tryz.underlying65 h3).mono fun u hu => q_e hu, (ZaO Tryz.underlying60 (by kernel_rfl) (show (4 : Nat) ≠ 0 by decide) h1).mono ?_⟩
  rintro u ⟨l, hl, rfl, hll⟩
  obtain ⟨m, e1, e2, e3⟩ := Zgy l hl
  exact ⟨m, by rw [e1, e2]; rfl, e3, by rw [<- e2]; exact hll⟩
def QN (us : List AV) : Prop := ∃ i : Ins, us = Z0m i /\ i.ex.length <= 9223372036854775807 /\ okL i.ex
def QNL (us : List AV) : Prop := ∃ l : List Ins, us = [.rs l.length 6 (inC l)] /\ l.length <= 9223372036854775807 /\ ∀ i ∈ l, i.ex.length <= 9223372036854775807 /\ okL i.ex
theorem Zgh : ∀ l : List (List AV), (∀ u ∈ l, QN u /\ u.length = 6) -> ∃ m : List Ins, l.flatten = inC m /\ l.length = m.length /\ ∀ i ∈ m, i.ex.length <= 9223372036854775807 /\ okL i.ex
 | [], _ => ⟨[], by simp only [inC, List.flatten_nil], rfl, by simp⟩
 | u :: l, h => by
  obtain ⟨m, h1, h2, h3⟩ := Zgh l fun v hv => h v (by simp [hv])
  obtain ⟨⟨e, rfl, h4⟩, _⟩ := h u (by simp)
  exact ⟨e :: m, by simp only [List.flatten_cons, inC, h1], by simp [h2], fun d hd => by rcases List.mem_cons.1 hd with rfl | hd; exact h4; exact h3 d hd⟩
theorem fsN : Z1U Tryz.prog (match Tryz.prog.underlying 62 with | some (.struct fs) => fs.toList | _ => []) [QI, QI, QI, QI, QI, QEL] 0 (Tryz.prog.cellsOf 62) := by
 rw [Tryz.underlying62]
 refine ⟨rfl, Z0v Tryz.underlying3, ?_⟩
 refine ⟨by kernel_rfl, Z0v Tryz.underlying3, ?_⟩
 refine ⟨by kernel_rfl, Z0v Tryz.underlying3, ?_⟩
 refine ⟨by kernel_rfl, Z0v Tryz.underlying3, ?_⟩
 refine ⟨by kernel_rfl, Z0v Tryz.underlying3, ?_⟩
 refine ⟨by kernel_rfl, OpensB.all fun N => (ZiV N).2, ?_⟩
 unfold Z1U; kernel_rfl
theorem q_n {us : List AV} (h : FsQ [QI, QI, QI, QI, QI, QEL] us) : QN us := by
 obtain ⟨a, u1, rfl, ⟨n1, rfl, _⟩, b, u2, rfl, ⟨n2, rfl, _⟩, c, u3, rfl, ⟨n3, rfl, _⟩, d, u4, rfl, ⟨n4, rfl, _⟩, e, u5, rfl, ⟨n5, rfl, _⟩, f, u6, rfl, ⟨k, rfl, hk, hkl⟩, h3⟩ := h
 have h3 : u6 = [] := h3
 subst h3
 exact ⟨⟨n1, n2, n3, n4, n5, k⟩, rfl, hkl, hk⟩
theorem ZjY : Z6M Tryz.prog 22 QNL := by
 have h3 := fsN
 rw [Tryz.underlying62] at h3
 refine Z5R (Z7q Tryz.underlying22 (by kernel_rfl) (show (6 : Nat) ≠ 0 by decide) (Z5R (Z3T Tryz.underlying62 h3) fun u hu => q_n hu)) ?_
 rintro u ⟨l, hl, rfl, hll⟩
 obtain ⟨m, e1, e2, e3⟩ := Zgh l hl
 exact ⟨m, by rw [e1, e2], by rw [<- e2]; exact hll, e3⟩
theorem fsC : Z1U Tryz.prog (match Tryz.prog.underlying 24 with | some (.struct fs) => fs.toList | _ => []) [QI, QNL] 0 (Tryz.prog.cellsOf 24) := by
 rw [Tryz.underlying24]
 refine ⟨rfl, Z0v Tryz.underlying3, ?_⟩
 refine ⟨by kernel_rfl, ZjY, ?_⟩
 unfold Z1U; kernel_rfl
theorem ZfR : Z44 Tryz.prog 24 fun u => ∃ c : Cd, u = c.av /\ okC c := by
 have h3 := fsC
 rw [Tryz.underlying24] at h3
 refine Z2u (Z5f Tryz.underlying24 h3) ?_
 rintro u ⟨us, rfl, a, u1, rfl, ⟨n, rfl, _⟩, b, u2, rfl, ⟨l, rfl, hl, ho⟩, h4⟩
 have h4 : u2 = [] := h4
 subst h4
 exact ⟨⟨n, l⟩, rfl, hl, ho⟩
theorem Zc8 : ∀ l : List (List AV), (∀ u ∈ l, QI u /\ u.length = 1) -> ∃ m : List Int, l.flatten = ksC m /\ l.length = m.length
 | [], _ => ⟨[], by simp [ksC], rfl⟩
 | u :: l, h => by
  obtain ⟨m, h1, h2⟩ := Zc8 l fun v hv => h v (by simp [hv])
  obtain ⟨⟨s, rfl, _⟩, _⟩ := h u (by simp)
  exact ⟨s :: m, by simp [h1, ksC], by simp [h2]⟩
theorem Zc7 : Z44 Tryz.prog 25 fun u => ∃ l : List Int, u = rsI l /\ l.length <= 9223372036854775807 := by
 refine Z2u (Z3U Tryz.underlying25 (by kernel_rfl) (show (1 : Nat) ≠ 0 by decide) (Z0v Tryz.underlying2)) ?_
 rintro u ⟨l, hl, rfl, hll⟩
 obtain ⟨m, e1, e2⟩ := Zc8 l hl
 exact ⟨m, by rw [e1, e2]; rfl, by rw [<- e2]; exact hll⟩
def ltI (i : Ins) : Bool := decide (i.ex.length <= 4) && i.ex.all fun e => decide (0 <= Z22 e 60)
def ltC (c : Cd) (n : Int) : Bool := decide ((c.ins.length : Int) <= n) && c.ins.all ltI
theorem Z4g {c : Cd} {n : Int} (h : ltC c n = true) : (c.ins.length : Int) <= n /\ ∀ i ∈ c.ins, ∀ e ∈ i.ex, Z0f e <= 800000 := by
 unfold ltC at h
 simp only [Bool.and_eq_true, decide_eq_true_eq] at h
 refine ⟨h.1, fun i hi e he => ?_⟩
 have h1 := List.all_eq_true.1 h.2 i hi
 unfold ltI at h1
 simp only [Bool.and_eq_true, decide_eq_true_eq] at h1
 have h2 := List.all_eq_true.1 h1.2 e he
 simp only [decide_eq_true_eq] at h2
 have := Z8M e 60 h2
 omega
variable {gl : Z0l}
theorem Z3b (c : Cd) (hok : okC c) (n : Int) : ValOK Tryz.prog gl 8 [c.av, .int .i64 n] (.bool (ltC c n)) := by
 obtain ⟨regs, ins⟩ := c
 obtain ⟨hl, hx⟩ := hok
 simp only at hl hx
 have hinj : ∀ x y : Ex, okE x -> okE y -> [AV.agg x.cells, .int .i64 60] = [AV.agg y.cells, .int .i64 60] -> AV.bool (decide (0 <= Z22 x 60)) = .bool (decide (0 <= Z22 y 60)) := fun x y _ _ h => by
  simp only [List.cons.injEq, AV.agg.injEq, and_true] at h
  rw [Z16 _ _ h]
 obtain ⟨O, hO, p1, -⟩ := fams (P := Tryz.prog) (gl := gl) [{ I := Ex, f := 28, G := fun x => okE x, A := fun x => [.agg x.cells, .int .i64 60], R := fun x => .bool (decide (0 <= Z22 x 60)), body := (by kernel_rfl), inj := hinj, ok := (fun x hx => ⟨by obtain ⟨o, m, s, k⟩ := x; simp only [Ex.cells]; rfl, Zi2 x 60 hx (by decide) (by decide)⟩) }] rfl
 have q1 : ∀ x, okE x -> ∀ H, Z04 Tryz.prog O H 28 [.agg x.cells, .int .i64 60] = some (.bool (decide (0 <= Z22 x 60)), H) := p1
 clear p1 hinj
 unfold ltC
 simp only [Cd.av]
 refine Z0a follows Z09 hO Tryz.func8 rfl ?_
 by_cases h1 : (ins.length : Int) <= n
 case' neg =>
  have e1 : decide ((ins.length : Int) > n) = true := by simp; omega
  rw [show decide ((ins.length : Int) <= n) = false by simpa using h1]
  repeat' ((conv => whnf); first | refine stp ?_ | with_reducible refine Z01 (fun h => ?_) (fun h => ?_))
  all_goals rfl
 have e1 : decide ((ins.length : Int) > n) = false := by simp; omega
 rw [show decide ((ins.length : Int) <= n) = true by simpa using h1, Bool.true_and]
 repeat' ((conv => whnf); first | refine stp ?_ | with_reducible refine Z01 (fun h => ?_) (fun h => ?_))
 conv => whnf
 refine ⟨Nat, (fun i => i <= ins.length /\ (ins.take i).all ltI = true), (fun i => [(2, .ptr 0 0), (5, .int .i64 (i : Nat))]), (fun i => [⟨true, 0, 0, .cells [.int .i64 regs, .rs ins.length 6 (inC ins)] 24⟩]), (fun i => ins.length - i), ⟨0, ⟨Nat.zero_le _, rfl⟩, ?_⟩, ?_⟩
 · refine FgL.mk [0] rfl ?_ ⟨⟨rfl, rfl, rfl, rfl, BodyGe.pre (rest := []) rfl rfl⟩, trivial⟩ rfl
   (repeat (first | exact trivial | refine stw ?_))
 rintro i ⟨hi, hall⟩
 dsimp only
 by_cases hlt : i < ins.length
 · have e3 : decide ((i : Int) < (ins.length : Int)) = true := by simpa using hlt
   have hx5 := Zkh ins i hlt
   have hat := Zl9 (p := ltI) ins i hlt
   rw [hall, Bool.true_and] at hat
   have hst := Z6a (p := ltI) hlt
   have hxi := hx _ (Z0i hlt)
   generalize ins[i] = y at *
   obtain ⟨k, r, lo, od, to, ex⟩ := y
   simp only [exA, ltI] at *
   by_cases h4 : ex.length <= 4
   · have e4 : decide ((ex.length : Int) > 4) = false := by simp; omega
     rw [show decide (ex.length <= 4) = true by simpa using h4, Bool.true_and] at hat hst
     repeat' ((conv => whnf); first | (refine exI hx5 ?_) | (with_reducible refine ixJ i rfl ?_ ?_; (focus (omega))) | (first | refine stp ?_ | with_reducible refine Z01 (fun h => ?_) (fun h => ?_)))
     conv => whnf
     refine ⟨Nat, (fun m => m <= ex.length /\ (ex.take m).all (fun e => decide (0 <= Z22 e 60)) = true), (fun m => [(2, .ptr 0 0), (5, .int .i64 (i : Nat)), (6, .int .i64 (m : Nat))]), (fun m => [⟨true, 0, 0, .cells [.int .i64 regs, .rs ins.length 6 (inC ins)] 24⟩]), (fun m => ex.length - m), ⟨0, ⟨Nat.zero_le _, rfl⟩, ?_⟩, ?_⟩
     · refine FgL.mk [0] rfl ?_ ⟨⟨rfl, rfl, rfl, rfl, BodyGe.pre (rest := []) rfl rfl⟩, trivial⟩ rfl
       (repeat (first | exact trivial | refine stw ?_))
     rintro m ⟨hm, hall2⟩
     dsimp only
     by_cases hmt : m < ex.length
     · have e5 : decide ((m : Int) < (ex.length : Int)) = true := by simpa using hmt
       have q3 := q1 ex[m] (Z0H hxi.2 _ (Z0i hmt))
       have hx4 := ex4 ex m hmt
       have ham := Zl9 (p := fun e => decide (0 <= Z22 e 60)) ex m hmt
       rw [hall2, Bool.true_and] at ham
       have hb2 := Z6a (p := fun e => decide (0 <= Z22 e 60)) (l := ex) hmt
       clear q1
       generalize Z22 ex[m] 60 = ce at *
       generalize ex[m] = x at *
       obtain ⟨xo, xn, xs, xk⟩ := x
       simp only [Ex.cells] at hx4 q3
       cases hb : decide (0 <= ce) with
       | true =>
        rw [hb] at ham q3
        repeat' ((conv => whnf); first | (refine exI (q3 _) ?_) | (refine exI hx5 ?_) | (refine exI hx4 ?_) | (with_reducible refine ixJ i rfl ?_ ?_; (focus (omega))) | (with_reducible refine ixJ m rfl ?_ ?_; (focus (omega))) | (first | refine stp ?_ | with_reducible refine Z01 (fun h => ?_) (fun h => ?_)))
        conv => whnf
        refine ⟨m + 1, ⟨hmt, ham⟩, by show ex.length - (m + 1) < ex.length - m; omega, ?_⟩
        refine FgL.mk [0] rfl ?_ ⟨⟨rfl, rfl, rfl, rfl, BodyGe.pre (rest := []) rfl rfl⟩, trivial⟩ rfl
        (repeat (first | exact trivial | refine stw ?_))
       | false =>
        rw [hst (hb2 hb)]
        rw [hb] at q3
        repeat' ((conv => whnf); first | (refine exI (q3 _) ?_) | (refine exI hx5 ?_) | (refine exI hx4 ?_) | (with_reducible refine ixJ i rfl ?_ ?_; (focus (omega))) | (with_reducible refine ixJ m rfl ?_ ?_; (focus (omega))) | (first | refine stp ?_ | with_reducible refine Z01 (fun h => ?_) (fun h => ?_)))
        all_goals rfl
     · have e5 : decide ((m : Int) < (ex.length : Int)) = false := by simpa using hmt
       have hm2 : m = ex.length := by omega
       subst hm2
       rw [List.take_length] at hall2
       rw [hall2] at hat
       repeat' ((conv => whnf); first | (refine exI hx5 ?_) | (with_reducible refine ixJ i rfl ?_ ?_; (focus (omega))) | (first | refine stp ?_ | with_reducible refine Z01 (fun h => ?_) (fun h => ?_)))
       conv => whnf
       refine ⟨i + 1, ⟨hlt, hat⟩, by show ins.length - (i + 1) < ins.length - i; omega, ?_⟩
       refine FgL.mk [0] rfl ?_ ⟨⟨rfl, rfl, rfl, rfl, BodyGe.pre (rest := []) rfl rfl⟩, trivial⟩ rfl
       (repeat (first | exact trivial | refine stw ?_))
   · have e4 : decide ((ex.length : Int) > 4) = true := by simp; omega
     rw [hst (by rw [show decide (ex.length <= 4) = false by simpa using h4]; rfl)]
     repeat' ((conv => whnf); first | (refine exI hx5 ?_) | (with_reducible refine ixJ i rfl ?_ ?_; (focus (omega))) | (first | refine stp ?_ | with_reducible refine Z01 (fun h => ?_) (fun h => ?_)))
     all_goals rfl
 · have e3 : decide ((i : Int) < (ins.length : Int)) = false := by simpa using hlt
   have hi2 : i = ins.length := by omega
   subst hi2
   rw [List.take_length] at hall
   rw [hall]
   repeat' ((conv => whnf); first | (first | refine stp ?_ | with_reducible refine Z01 (fun h => ?_) (fun h => ?_)))
   all_goals rfl
end Go.Proofs.YteidjbahodbgdaaGreatDoor.lex
end

section
namespace Go.Abs
open Go.RowKit
def sgS (m : List Nat) (d : Nat) (b : Nat) : Nat := if b < m.length then m.getD b 0 else d + (b - m.length)
def Z4A (m : List Nat) (σ : Nat -> Nat) (Hs : Z00) : Nat -> Z00 -> Z00
 | _, [] => []
 | i, o :: H => (match Z3m m i 0 with
  | some j => match Hs[j]? with
   | some o' => { o with alive := o'.alive, body := Z1C σ o'.body }
   | none => o
  | none => o) :: Z4A m σ Hs (i + 1) H
theorem ZcK (m : List Nat) (σ : Nat -> Nat) (Hs : Z00) : ∀ (H : Z00) (i b : Nat), (Z4A m σ Hs i H)[b]? = (H[b]?).map fun o => match Z3m m (i + b) 0 with
  | some j => match Hs[j]? with
   | some o' => { o with alive := o'.alive, body := Z1C σ o'.body }
   | none => o
  | none => o
 | [], i, b => by simp [Z4A]
 | o :: H, i, 0 => by
  simp only [Z4A, List.getElem?_cons_zero, Option.map_some, Nat.add_zero] <;> rfl
 | o :: H, i, b + 1 => by
  simp only [Z4A, List.getElem?_cons_succ]
  rw [ZcK m σ Hs H (i + 1) b, show i + 1 + b = i + (b + 1) by omega]
theorem ZcJ (m : List Nat) (σ : Nat -> Nat) (Hs : Z00) : ∀ (H : Z00) (i : Nat), (Z4A m σ Hs i H).length = H.length
 | [], i => rfl
 | o :: H, i => by simp only [Z4A, List.length_cons, ZcJ m σ Hs H (i + 1)]
def shS (σ : Nat -> Nat) : Nat -> Z00 -> Z00
 | _, [] => []
 | n, o :: H => ⟨o.alive, n, o.sh, Z1C σ o.body⟩ :: shS σ (n + 1) H
theorem Zfy (σ : Nat -> Nat) : ∀ (H : Z00) (n b : Nat), (shS σ n H)[b]? = (H[b]?).map fun o => ⟨o.alive, n + b, o.sh, Z1C σ o.body⟩
 | [], n, b => by simp [shS]
 | o :: H, n, 0 => rfl
 | o :: H, n, b + 1 => by
  simp only [shS, List.getElem?_cons_succ]
  rw [Zfy σ H (n + 1) b, show n + 1 + b = n + (b + 1) by omega]
theorem ZbY (σ : Nat -> Nat) : ∀ (H : Z00) (n : Nat), (shS σ n H).length = H.length
 | [], n => rfl
 | o :: H, n => by simp only [shS, List.length_cons, ZbY σ H (n + 1)]
def Z7P : Z00 -> List Nat
 | [] => []
 | o :: H => cond o.alive (o.fam :: Z7P H) (Z7P H)
theorem Z7O : ∀ {H : Z00} {i : Nat} {o : AObj}, H[i]? = some o -> o.alive = true -> mem o.fam (Z7P H) = true
 | [], i, o, h, _ => by simp at h
 | x :: H, 0, o, h, ha => by
  simp at h; subst h
  simp only [Z7P, ha, cond_true]
  exact Z18.2 (List.mem_cons_self ..)
 | x :: H, i + 1, o, h, ha => by
  have := Z18.1 (Z7O (H := H) (by simpa using h) ha)
  unfold Z7P
  cases x.alive
  · exact Z18.2 this
  · exact Z18.2 (List.mem_cons_of_mem _ this)
theorem Z5u : ∀ {H : Z00} {i j : Nat} {o o' : AObj}, Z0Q (Z7P H) = true -> H[i]? = some o -> H[j]? = some o' -> o.alive = true -> o'.alive = true -> o.fam = o'.fam -> i = j
 | [], i, j, o, o', h, e, _, _, _, _ => by simp at e
 | x :: H, i, j, o, o', h, e, e', ha, ha', hf => by
  have hn : Z0Q (Z7P H) = true := by
   unfold Z7P at h
   cases hx : x.alive
   · rw [hx] at h; exact h
   · rw [hx] at h
     simp only [cond_true, Z0Q, Bool.and_eq_true] at h
     exact h.2
  have hx : x.alive = true -> mem x.fam (Z7P H) = false := fun hx => by
   unfold Z7P at h
   rw [hx] at h
   simp only [cond_true, Z0Q, Bool.and_eq_true, Bool.not_eq_true'] at h
   exact h.1
  cases i with
  | zero =>
   cases j with
   | zero => rfl
   | succ j =>
    simp at e e'; subst e
    have := Z7O e' ha'
    rw [<- hf, hx ha] at this; cases this
  | succ i =>
   cases j with
   | zero =>
    simp at e e'; subst e'
    have := Z7O e ha
    rw [hf, hx ha'] at this; cases this
   | succ j =>
    simp at e e'
    rw [Z5u hn e e' ha ha' hf]
theorem Z1d {P : Program} {gl : Z0l} {f : Nat} {Hs Hs' Hc : Z00} {fargs cargs : List AV} {r : AV} {m : List Nat} (hM : Z1O P gl f fargs Hs r Hs') (hargs : Wk m (.tuple cargs) (.tuple fargs)) (hsub : HpGe Hc m m Hs 0)
  (hnd : Z0Q (m.map (Z1r Hc)) = true) (hlone : Zg7 m (m.map (Z1r Hc)) 0 Hc = true) (hnA : Z0Q (Z7P Hs') = true) (hF : ∀ o ∈ Hc, o.fam < Hc.length)
  (hg2 : ∀ (i : Nat) (o : AObj), Hs'[i]? = some o -> Z0M Hs'.length (Z3I o.body []) = true) (hrk : Z0M Hs'.length (Z1N r []) = true) :
  Z1O P gl f cargs Hc (ren (sgS m Hc.length) r) (Z4A m (sgS m Hc.length) Hs' 0 Hc ++ shS (sgS m Hc.length) Hc.length (Hs'.drop m.length)) := by
 intro sn ι W vargs hg hR hl
 obtain ⟨hl1, hg1⟩ := hsub.get
 have inm : ∀ b, b ∈ m -> ∃ (i : Nat) (o o2 : AObj) (p : Place), m[i]? = some b /\ Hc[b]? = some o /\ Hs[i]? = some o2 /\ o.alive = true /\ o2.alive = true /\ ι b = some p /\ o2.sh = o.sh := by
  intro b hb
  obtain ⟨i, hi, rfl⟩ := List.mem_iff_getElem.1 hb
  obtain ⟨j, o, o2, x1, x2, x3, x4, x5, _, x7, _⟩ := hg1 i hi
  rw [List.getElem?_eq_getElem hi] at x1
  cases x1
  obtain ⟨p, hp⟩ := hR.place x2
  exact ⟨i, o, o2, p, List.getElem?_eq_getElem hi, x2, x3, x4, x5, hp, x7⟩
 have apart_ : ∀ (b : Nat) (o : AObj) (p : Place), Hc[b]? = some o -> o.alive = true -> b ∉ m -> ι b = some p -> ∀ b' p', b' ∈ m -> ι b' = some p' -> p'.blk ≠ p.blk := by
  intro b o p ho hoa hb hp b' p' hb' hp' e
  obtain ⟨i, o', o2, q, y1, y2, y3, y4, y5, y6, _⟩ := inm b' hb'
  have hs := hR.sep b b' o o' p p' ho y2 hoa y4 hp hp' e.symm
  rcases Zb0 hlone ho hoa with h | h
  · exact hb (by simpa using h)
  · refine h ?_
    rw [List.mem_map]
    exact ⟨b', hb', by simp only [Z1r, y2]; exact hs.1.symm⟩
 have hRs : R sn (iot m ι) Hs W := Zli hsub hnd hR
 have atm : ∀ {i : Nat} {p : Place}, iot m ι i = some p -> ∃ b, m[i]? = some b /\ b ∈ m /\ ι b = some p := fun {i p} hp => by
  unfold iot at hp
  split at hp
  · rename_i b hb; exact ⟨b, hb, List.mem_of_getElem? hb, hp⟩
  · cases hp
 have hla : LR sn (iot m ι) fargs vargs := by
  have h1 : VR sn ι (.tuple cargs) (.tuple vargs.toArray) := by simp only [VR]; exact ⟨_, rfl, by simpa using hl⟩
  have h2 := hargs _ _ _ h1
  simp only [VR] at h2
  obtain ⟨d, e1, e2⟩ := h2
  simp at e1; subst e1; simpa using e2
 refine (hM sn (iot m ι) W vargs hg hRs hla).mono ?_
 rintro e W' ⟨v, sn', ι', rfl, hv, hst⟩
 generalize hd : Hc.length = d at *
 generalize hk : m.length = k at *
 have hk' : k <= Hs'.length := by
  rcases Nat.eq_zero_or_pos k with h | h
  · omega
  · have := (List.getElem?_eq_some_iff.1 (hst.evo (k - 1) _ (List.getElem?_eq_getElem (by omega))).choose_spec.1).1
    omega
 let κ : Z0k := fun b => if b < d then ι b else ι' (k + (b - d))
 have k1 : ∀ b, b < d -> κ b = ι b := fun b hb => if_pos hb
 have k2 : ∀ b, d <= b -> κ b = ι' (k + (b - d)) := fun b hb => by show (if b < d then ι b else ι' (k + (b - d))) = _; rw [if_neg (by omega)]
 have mLt : ∀ {i b : Nat}, m[i]? = some b -> b < d := fun {i b} h => by
  obtain ⟨_, o, _, p, _, y2, _⟩ := inm b (List.mem_of_getElem? h)
  rw [<- hd]; exact (List.getElem?_eq_some_iff.1 y2).1
 have hfwd : ∀ (i b : Nat) (p : Place), m[i]? = some b -> ι b = some p -> ι' i = some p := fun i b p hb hp => hst.le.ι i p (by simp only [iot, hb]; exact hp)
 have hback : ∀ i, i < Hs'.length -> ∀ p, ι' i = some p -> κ (sgS m d i) = some p := fun i hi p hp => by
  unfold sgS
  rw [hk]
  by_cases hik : i < k
  · obtain ⟨b, hb⟩ : ∃ b, m[i]? = some b := ⟨m[i], List.getElem?_eq_getElem (by omega)⟩
    obtain ⟨q, hq⟩ := (hR.dom b).1 (by rw [hd]; exact mLt hb)
    have := hfwd i b q hb hq
    rw [hp] at this; cases this
    rw [if_pos hik, List.getD_eq_getElem?_getD, hb]
    show κ b = some p
    rw [k1 b (mLt hb)]; exact hq
  · rw [if_neg hik, k2 _ (by omega), show k + (d + (i - k) - d) = i by omega]; exact hp
 have pos_ : ∀ b, b ∈ m -> ∃ i, Z3m m b 0 = some i /\ m[i]? = some b := fun b hb => by
  cases hx : Z3m m b 0 with
  | none => exact (Z7p hx hb).elim
  | some i => exact ⟨i, rfl, by simpa using (Z38 hx).2⟩
 have hlen : (Z4A m (sgS m d) Hs' 0 Hc).length = d := by rw [ZcJ, hd]
 have hnr : ∀ c, c < W.heap.size -> (∀ (b : Nat) (o : AObj) p, Hc[b]? = some o -> o.alive = true -> ι b = some p -> p.blk ≠ c) -> W'.heap[c]? = W.heap[c]? := fun c hc hno => by
  refine hst.frame c hc fun i o2 p2 hi ha hp2 e => ?_
  obtain ⟨b, _, hb, hp3⟩ := atm hp2
  obtain ⟨_, o, _, _, _, y2, _, y4, _⟩ := inm b hb
  exact hno b o p2 y2 y4 hp3 e
 have old : ∀ (b : Nat) (o : AObj) (p : Place), Hc[b]? = some o -> o.alive = true -> b ∉ m -> ι b = some p -> W'.heap[p.blk]? = W.heap[p.blk]? := fun b o p ho hoa hb hp => by
  refine hst.frame _ (hR.blk b p hp) fun i o2 p2 hi ha hp2 e => ?_
  obtain ⟨c, _, hc, hp3⟩ := atm hp2
  exact apart_ b o p ho hoa hb hp c p2 hc hp3 e
 have new_ : ∀ (j : Nat) (x : AObj) (p : Place), Hs'[j]? = some x -> x.alive = true -> k <= j -> ι' j = some p -> ∀ (b : Nat) (o : AObj) (q : Place), Hc[b]? = some o -> o.alive = true -> b ∉ m -> ι b = some q -> q.blk ≠ p.blk := by
  intro j x p hj hja hkj hp b o q ho hoa hb hq e
  rcases hst.fresh j p hp with h | h | ⟨b0, o0, p0, e1, e2, e3, e4⟩
  · obtain ⟨c, hc, _⟩ := atm h
    have := (List.getElem?_eq_some_iff.1 hc).1; omega
  · have := hR.blk b q hq; omega
  · obtain ⟨c, _, hc, hp3⟩ := atm e3
    exact apart_ b o q ho hoa hb hq c p0 hc hp3 (e4.trans e.symm)
 have hget : ∀ (b : Nat) (o' : AObj) (p : Place), (Z4A m (sgS m d) Hs' 0 Hc ++ shS (sgS m d) d (Hs'.drop k))[b]? = some o' -> κ b = some p ->
   (b < d /\ ι b = some p /\ ∃ o, Hc[b]? = some o /\ o'.fam = o.fam /\ o'.sh = o.sh /\ ((b ∉ m /\ o' = o) \/ ∃ i x, m[i]? = some b /\ i < k /\ Hs'[i]? = some x /\ o'.alive = x.alive /\ o'.body = Z1C (sgS m d) x.body /\ o.alive = true /\ ι' i = some p)) \/
   (d <= b /\ ι' (k + (b - d)) = some p /\ ∃ x, Hs'[k + (b - d)]? = some x /\ o' = ⟨x.alive, b, x.sh, Z1C (sgS m d) x.body⟩) := by
  intro b o' p hb hp
  by_cases hlt : b < d
  · rw [List.getElem?_append_left (by omega)] at hb
    rw [k1 b hlt] at hp
    refine .inl ⟨hlt, hp, ?_⟩
    rw [ZcK] at hb
    simp only [Nat.zero_add] at hb
    cases hx : Hc[b]? with
    | none => rw [hx] at hb; cases hb
    | some o =>
     rw [hx] at hb
     simp only [Option.map_some, Option.some.injEq] at hb
     refine ⟨o, rfl, ?_⟩
     by_cases hbm : b ∈ m
     · obtain ⟨i, h1, h2⟩ := pos_ b hbm
       have hi : i < k := by rw [<- hk]; exact (List.getElem?_eq_some_iff.1 h2).1
       have hi' : i < Hs'.length := by omega
       rw [h1] at hb
       simp only [List.getElem?_eq_getElem hi'] at hb
       subst hb
       obtain ⟨_, y, _, _, _, y2, _, y4, _⟩ := inm b hbm
       rw [hx] at y2; cases y2
       exact ⟨rfl, rfl, .inr ⟨i, Hs'[i], h2, hi, List.getElem?_eq_getElem hi', rfl, rfl, y4, hfwd i b p h2 hp⟩⟩
     · have hn : Z3m m b 0 = none := by
        cases hx : Z3m m b 0 with
        | none => rfl
        | some i => exact (hbm (List.mem_of_getElem? (Z38 hx).2)).elim
       rw [hn] at hb
       subst hb
       exact ⟨rfl, rfl, .inl ⟨hbm, rfl⟩⟩
  · rw [List.getElem?_append_right (by omega), hlen, Zfy, List.getElem?_drop] at hb
    rw [k2 b (by omega)] at hp
    cases hx : Hs'[k + (b - d)]? with
    | none => rw [hx] at hb; cases hb
    | some x =>
     rw [hx] at hb
     simp only [Option.map_some, Option.some.injEq] at hb
     exact .inr ⟨by omega, hp, x, rfl, by rw [<- hb, show d + (b - d) = b by omega]⟩
 have hal : ∀ {b : Nat} {o o' : AObj} {p : Place}, ((b ∉ m /\ o' = o) \/ ∃ i x, m[i]? = some b /\ i < k /\ Hs'[i]? = some x /\ o'.alive = x.alive /\ o'.body = Z1C (sgS m d) x.body /\ o.alive = true /\ ι' i = some p) -> o'.alive = true -> o.alive = true := fun {b o o' p} h ha => by
  rcases h with ⟨_, rfl⟩ | ⟨_, _, _, _, _, _, _, h, _⟩
  · exact ha
  · exact h
 have hR' : R sn' κ (Z4A m (sgS m d) Hs' 0 Hc ++ shS (sgS m d) d (Hs'.drop k)) W' := by
  refine ⟨fun b => ⟨fun hb => ?_, fun ⟨p, hp⟩ => ?_⟩, fun b p hp => ?_, fun b o' p hb ha hp => ?_, fun b b' o o' p p' hb hb' ha ha' hp hp' e => ?_, fun a v hv => ?_, fun b o' p hb hp e => ?_⟩
  · simp only [List.length_append, hlen, ZbY, List.length_drop] at hb
    by_cases hlt : b < d
    · rw [k1 b hlt]; exact (hR.dom b).1 (by omega)
    · rw [k2 b (by omega)]; exact (hst.rel.dom _).1 (by omega)
  · simp only [List.length_append, hlen, ZbY, List.length_drop]
    by_cases hlt : b < d
    · omega
    · rw [k2 b (by omega)] at hp
      have := (hst.rel.dom _).2 ⟨p, hp⟩; omega
  · by_cases hlt : b < d
    · rw [k1 b hlt] at hp; exact Nat.lt_of_lt_of_le (hR.blk b p hp) hst.size
    · rw [k2 b (by omega)] at hp; exact hst.rel.blk _ p hp
  · rcases hget b o' p hb hp with ⟨b1, b2, o, b3, b4, b5, ⟨b6, rfl⟩ | ⟨i, x, c1, c2, c3, c4, c5, c6, c7⟩⟩ | ⟨b1, b2, x, b3, rfl⟩
    · refine Z0N ⟨hst.le.sn, fun c p hc => ?_⟩ (old b _ p b3 ha b6 b2) (hR.obj b _ p b3 ha b2)
      rw [k1 c (by have := (hR.dom c).2 ⟨p, hc⟩; omega)]; exact hc
    · rw [c5]
      exact Z97 x.body (Z4T x.body p (fun y hy => hback y (Z1f (hg2 i x c3) y hy)) (hst.rel.obj i x p c3 (by rw [<- c4]; exact ha) c7))
    · exact Z97 x.body (Z4T x.body p (fun y hy => hback y (Z1f (hg2 _ x b3) y hy)) (hst.rel.obj _ x p b3 ha b2))
  · rcases hget b o p hb hp with ⟨b1, b2, x, b3, b4, b5, b6⟩ | ⟨b1, b2, x, b3, rfl⟩ <;> rcases hget b' o' p' hb' hp' with ⟨c1, c2, y, c3, c4, c5, c6⟩ | ⟨c1, c2, y, c3, rfl⟩
    · rw [b4, b5, c4, c5]
      exact hR.sep b b' x y p p' b3 c3 (hal b6 ha) (hal c6 ha') b2 c2 e
    · exfalso
      rcases b6 with ⟨b6, rfl⟩ | ⟨i, z, d1, d2, d3, d4, d5, d6, d7⟩
      · exact new_ _ y p' c3 ha' (by omega) c2 b _ p b3 ha b6 b2 e
      · have hs := (hst.rel.sep i _ z y p p' d3 c3 (by rw [<- d4]; exact ha) ha' d7 c2 e).1
        have := Z5u hnA d3 c3 (by rw [<- d4]; exact ha) ha' hs
        omega
    · exfalso
      rcases c6 with ⟨c6, rfl⟩ | ⟨i, z, d1, d2, d3, d4, d5, d6, d7⟩
      · exact new_ _ x p b3 ha (by omega) b2 b' _ p' c3 ha' c6 c2 e.symm
      · have hs := (hst.rel.sep _ i x z p p' b3 d3 ha (by rw [<- d4]; exact ha') b2 d7 e).1
        have := Z5u hnA b3 d3 ha (by rw [<- d4]; exact ha') hs
        omega
    · have hs := hst.rel.sep _ _ x y p p' b3 c3 ha ha' b2 c2 e
      have := Z5u hnA b3 c3 ha ha' hs.1
      have hbb : b = b' := by omega
      exact ⟨hbb, hs.2⟩
  · obtain ⟨h1, h2, h3⟩ := hst.rel.snap a v hv
    refine ⟨h1, h2, fun b o' p hb ha hp he => ?_⟩
    rcases hget b o' p hb hp with ⟨b1, b2, o, b3, b4, b5, ⟨b6, rfl⟩ | ⟨i, x, c1, c2, c3, c4, c5, c6, c7⟩⟩ | ⟨b1, b2, x, b3, rfl⟩
    · rcases hst.sfresh a v hv with f1 | f1 | ⟨b0, o0, p0, f1, f2, f3, f4⟩
      · exact (hR.snap a v f1).2.2 b _ p b3 ha b2 he
      · have := hR.blk b p b2; omega
      · obtain ⟨c, _, hc, hp3⟩ := atm f3
        exact apart_ b _ p b3 ha b6 b2 c p0 hc hp3 (f4.trans he.symm)
    · exact h3 i x p c3 (by rw [<- c4]; exact ha) c7 he
    · exact h3 _ x p b3 ha b2 he
  · rcases hget b o' p hb hp with ⟨b1, b2, o, b3, b4, b5, b6⟩ | ⟨b1, b2, x, b3, rfl⟩
    · exact hR.shz b o p b3 b2 (by rw [<- b5]; exact e)
    · exact hst.rel.shz _ x p b3 b2 e
 have oldp : ∀ (b0 : Nat) (o0 : AObj) (p0 : Place), Hs[b0]? = some o0 -> o0.alive = true -> iot m ι b0 = some p0 -> ∃ (b1 : Nat) (o1 : AObj) (p1 : Place), Hc[b1]? = some o1 /\ o1.alive = true /\ ι b1 = some p1 /\ p1.blk = p0.blk := fun b0 o0 p0 e1 e2 e3 => by
  obtain ⟨c, _, hc, hp3⟩ := atm e3
  obtain ⟨_, o, _, _, _, y2, _, y4, _⟩ := inm c hc
  exact ⟨c, o, p0, y2, y4, hp3, rfl⟩
 refine ⟨v, sn', κ, rfl, ?_, hR', ⟨hst.le.sn, fun b p hb => ?_⟩, fun b p hp => ?_, hnr, hst.size, hst.os, hst.tape, hst.output, fun a v hv => ?_, fun b o hb => ?_⟩
 · exact (Z4y r v).2 (Z1g r [] v (fun y hy => hback y (Z1f hrk y hy)) hv)
 · rw [k1 b (by have := (hR.dom b).2 ⟨p, hb⟩; omega)]; exact hb
 · by_cases hlt : b < d
   · rw [k1 b hlt] at hp; exact .inl hp
   · rw [k2 b (by omega)] at hp
     rcases hst.fresh _ p hp with h | h | ⟨b0, o0, p0, e1, e2, e3, e4⟩
     · obtain ⟨c, hc, _⟩ := atm h
       have := (List.getElem?_eq_some_iff.1 hc).1; omega
     · exact .inr (.inl h)
     · obtain ⟨b1, o1, p1, g1, g2, g3, g4⟩ := oldp b0 o0 p0 e1 e2 e3
       exact .inr (.inr ⟨b1, o1, p1, g1, g2, g3, g4.trans e4⟩)
 · rcases hst.sfresh a v hv with f1 | f1 | ⟨b0, o0, p0, f1, f2, f3, f4⟩
   · exact .inl f1
   · exact .inr (.inl f1)
   · obtain ⟨b1, o1, p1, g1, g2, g3, g4⟩ := oldp b0 o0 p0 f1 f2 f3
     exact .inr (.inr ⟨b1, o1, p1, g1, g2, g3, g4.trans f4⟩)
 · have hbd : b < d := by rw [<- hd]; exact (List.getElem?_eq_some_iff.1 hb).1
   have hb' : b < (Z4A m (sgS m d) Hs' 0 Hc).length := by omega
   have hx := List.getElem?_eq_getElem hb'
   obtain ⟨p, hp⟩ := hR.place hb
   rcases hget b _ p (by rw [List.getElem?_append_left hb']; exact hx) (by rw [k1 b hbd]; exact hp) with ⟨b1, b2, o2, b3, b4, b5, b6⟩ | ⟨b1, _⟩
   · rw [hb] at b3; cases b3
     exact ⟨_, by rw [List.getElem?_append_left hb']; exact hx, b4, b5, fun ha => hal b6 ha⟩
   · omega
def ZmC (P : Program) (l : List ResultVar) (k : Nat) (r : AV) (N : Z00) (tm : Tr) (H : Z00) : Prop :=
 onO (Z3i P tm H l) fun vs => (∃ fs m, Zer k 0 m = true /\ HpGeZ fs H m m N 0 /\ Z0Q (m.map (Z1r H)) = true /\ (m.map (Z1r H)).all (fun f => !mem f fs) = true) /\ Z0J vs = r
theorem Z9Q {P : Program} {gl : Z0l} {orc : Orc} {k : Nat} (hm : P.follows .mixedOrders = true) (hn : NoNum P) (hO : Z06 P gl orc) {f : Nat} {fn : Func} {c : Code} {args : List AV} {H0 N : Z00} {r : AV} (hr : Z1N r [] = [])
  (hf : P.funcs[f]? = some fn) (hc : fn.body = some c) {cw : CW} (hcw : Zan P orc cw)
  (h : Z2z (tmk (Z8a args fn.ntmps args.length) (Z8r 20 fn.ntmps)) fun tm => Z1t P gl orc cw (Z6h k) c (ZmC P fn.results.toList k r N) (fun _ _ _ => False) (ZmC P fn.results.toList k r N) tm H0) : Z76 P gl k f args H0 r N := by
 intro sn ι W cargs hg hR ha
 rw [Z2f] at h
 refine .inl (Z26 hf hc (Z1b (rd := none) (fun _ _ _ _ _ _ _ _ _ _ _ h => h.elim) hm hn hO hcw c h) hg hR ha (fun _ _ _ h => h) fun x tm1 H a1 W1 sn1 ι1 hx s1 t1 => ?_)
 have key : ZmC P fn.results.toList k r N tm1 H -> ∃ v, (results fn a1.tmps).run P W1 = .ok v W1 /\ ∃ sn' ι', VR sn' ι' r v /\ Stq k sn ι H0 W sn' ι' N W1 := by
  intro h
  obtain ⟨us, h1, ⟨fs, m, h0, h2, h3, h4⟩, h5⟩ := Z03 h
  obtain ⟨vs, k1, k2⟩ := Z13 s1.rel t1 _ _ h1
  obtain ⟨sn', ι', hS, _⟩ := FgS.giveup (k := k) (fs := fs) (m := m) (tm := tm1) (tm2 := Zcb (fun _ => none) tm1) (fun n u2 e => (by have := Z4f _ _ _ _ e; cases this)) (fun n e => (by rw [Z5n] at e; exact e)) h2 h3 h0 h4 sn1 ι1 W1 a1 s1.rel t1
  have hv := Z5b (fn := fn) k1
  rw [h5] at hv
  exact ⟨_, Z1c k2, sn', ι', Z0W ⟨hS.le, fun _ _ h => h⟩ _ _ (Z1g r [] _ (fun b hb => by rw [hr] at hb; cases hb) hv), s1.trans hS⟩
 cases x with
 | normal =>
  obtain ⟨v, k1, sn', ι', k2, k3⟩ := key hx
  exact ⟨v, k1, v, sn', ι', rfl, k2, k3⟩
 | exit id => exact hx.elim
 | ret =>
  obtain ⟨v, k1, sn', ι', k2, k3⟩ := key hx
  exact ⟨v, k1, v, sn', ι', rfl, k2, k3⟩
end Go.Abs
end

section
namespace Go.Abs
open Go.RowKit
def ZmR (fs : List Nat) (H : Z00) : List AV -> List AV -> Prop
 | [], [] => True
 | u :: l, u2 :: l2 => (u = u2 \/ frz (ZhS fs H) 30 u = some u2) /\ ZmR fs H l l2
 | _, _ => False
def WkZL (fs : List Nat) (H : Z00) (m : List Nat) : List AV -> List AV -> Prop
 | [], [] => True
 | u :: l, u2 :: l2 => WkZ fs H m u u2 /\ WkZL fs H m l l2
 | _, _ => False
theorem WkZL.get {fs : List Nat} {H : Z00} {m : List Nat} : ∀ {l l2 : List AV}, WkZL fs H m l l2 -> l2.length = l.length /\ ∀ (i : Nat) (c2 : AV), l2[i]? = some c2 -> ∃ c, l[i]? = some c /\ WkZ fs H m c c2
 | [], [], _ => ⟨rfl, fun i c2 h => by simp at h⟩
 | u :: l, u2 :: l2, h => by
  obtain ⟨h1, h2⟩ := h
  obtain ⟨k1, k2⟩ := h2.get
  refine ⟨by simp [k1], fun i c2 hc => ?_⟩
  cases i with
  | zero => simp at hc; subst hc; exact ⟨u, rfl, h1⟩
  | succ i => simpa using k2 i c2 (by simpa using hc)
 | [], _ :: _, h => h.elim
 | _ :: _, [], h => h.elim
theorem BodyGeZ.app {fs : List Nat} {H : Z00} {m : List Nat} {cs l l2 : List AV} {ty : TypeId} (h : refsL cs [] = []) (hu : WkZL fs H m l l2) : BodyGeZ fs H m (.cells (cs ++ l) ty) (.cells (cs ++ l2) ty) := by
 obtain ⟨k1, k2⟩ := hu.get
 refine ⟨rfl, by simp [k1], fun i c2 hc => ?_⟩
 by_cases hi : i < cs.length
 · rw [List.getElem?_append_left hi] at hc ⊢
   obtain ⟨_, _, h3⟩ := BodyGe.pre (m := m) (cs := cs) (rest := []) (ty := ty) (by simp) h
   obtain ⟨c, e1, e2⟩ := h3 i c2 hc
   exact ⟨c, e1, .inl e2⟩
 · rw [List.getElem?_append_right (by omega)] at hc ⊢
   exact k2 _ _ hc
end Go.Abs
end

section
namespace Go.Proofs.YteidjbahodbgdaaGreatDoor.lex
open Go.Abs Go.RowKit Go.Flat
set_option maxRecDepth 100000
set_option maxHeartbeats 4000000
variable {gl : Z0l}
def Zf7 (az : List Int) : AObj := ⟨true, 0, 0, .cells (ksC az) 2⟩
def rnH (az : List Int) (regs : Int) (l : List Ins) (st : Flat.Stand) : Z00 := Zf7 az :: shA 1 (Z1G regs l st)
def rnP (az : List Int) (pre : List Ev) (regs : Int) (l : List Ins) (st : Flat.Stand) : Z00 := match pre with
 | [] => rnH az regs l st
 | _ :: _ => Zf7 az :: ⟨true, 1, 0, .cells [.int .i64 regs, .rs l.length 6 (inC l), .int .i64 (st.th.at_ : Nat), .slice 2 0 st.th.regs.length st.th.regs.length 1, grA 4 5 st.th.evs, .int .i64 (st.asked : Nat), .int .i64 st.fin, .bool (st.fin == 0)] 69⟩ :: ⟨true, 2, 0, .cells (ksC st.th.regs) 2⟩ :: ⟨false, 3, 0, .cells [] 0⟩ :: (match st.th.evs with
  | [] => []
  | e :: r => [⟨true, 4, 0, .cells (Z14 (e :: r)) 47⟩])
theorem ZeQ {regs : Nat} {l : List Ins} (az : List Int) (hr : Runs regs l) (ha : Acy (nxL l) l.length) (st : Flat.Stand) (v : Int) (hs : Rch (nxL l) st.th.at_) (hrl : st.th.regs.length = regs) (hev : st.th.evs.length <= 1000000) (has : st.asked <= 1000000) (hf : st.fin = 0) (hst : Flat.stp evF (Z0h l st.th.at_) st.th = .asks) (hgrow : (goI l [] (Z1k evF wrI (Z0h l st.th.at_) st.th v) (st.asked + 1)).th.evs ≠ []) :
  Z1O Tryz.prog gl 49 [.ptr 1 0, .int .i64 v] (rnH az regs l st) (.tuple []) (rnP az st.th.evs regs l (goI l [] (Z1k evF wrI (Z0h l st.th.at_) st.th v) (st.asked + 1))) := by
 have h := Z91 (gl := gl) hr ha st v hs hrl hev has hf hst
 generalize goI l [] (Z1k evF wrI (Z0h l st.th.at_) st.th v) (st.asked + 1) = N at *
 clear hst hs hr ha
 obtain ⟨⟨p, r, evs⟩, fin, q, asked⟩ := st
 obtain ⟨⟨p', r', evs'⟩, fin', q', asked'⟩ := N
 simp only at *
 have hrr : ∀ (x : List Int) (n : Nat), Z0M n (refsL (ksC x) []) = true := fun x n => by rw [Z0R]; rfl
 have her : ∀ (x : List Ev) (n : Nat), Z0M n (refsL (Z14 x) []) = true := fun x n => by rw [Z5x]; rfl
 cases evs' with
 | nil => exact absurd rfl hgrow
 | cons e' evs' =>
  cases evs with
  | nil =>
   have h2 := Z1d (m := [1, 2]) (Hc := rnH az regs l ⟨⟨p, r, []⟩, fin, q, asked⟩) (cargs := [.ptr 1 0, .int .i64 v]) h (Wk.tuple ⟨Wk.ptr rfl rfl, Wk.int rfl, trivial⟩)
    hpA rfl rfl rfl
    (Z0z rfl) (fun i o h => by
     match i, h with
     | 0, h => cases h; rfl
     | 1, h => cases h; exact hrr _ _
     | 2, h => cases h; exact her _ _
     | n + 3, h => cases h) rfl
   have e1 : Z4A [1, 2] (sgS [1, 2] (rnH az regs l ⟨⟨p, r, []⟩, fin, q, asked⟩).length) (Z2t [] regs l ⟨p', r', e' :: evs'⟩ (asked' : Nat) fin' (fin' == 0)) 0 (rnH az regs l ⟨⟨p, r, []⟩, fin, q, asked⟩) ++ shS (sgS [1, 2] (rnH az regs l ⟨⟨p, r, []⟩, fin, q, asked⟩).length) (rnH az regs l ⟨⟨p, r, []⟩, fin, q, asked⟩).length ((Z2t [] regs l ⟨p', r', e' :: evs'⟩ (asked' : Nat) fin' (fin' == 0)).drop 2) = rnP az [] regs l ⟨⟨p', r', e' :: evs'⟩, fin', q', asked'⟩ := by
    simp [rnH, rnP, Z1G, Z2t, thH, grA, grB, shA, shO, Z4A, Z3m, shS, sgS, Z1C, renL, ren, Z0p, Z0r, Zf7]
   rw [<- e1]; exact h2
  | cons e evs =>
   have h2 := Z1d (m := [1, 2, 3]) (Hc := rnH az regs l ⟨⟨p, r, e :: evs⟩, fin, q, asked⟩) (cargs := [.ptr 1 0, .int .i64 v]) h (Wk.tuple ⟨Wk.ptr rfl rfl, Wk.int rfl, trivial⟩)
    hpA rfl rfl rfl
    (Z0z rfl) (fun i o h => by
     match i, h with
     | 0, h => cases h; rfl
     | 1, h => cases h; exact hrr _ _
     | 2, h => cases h; rfl
     | 3, h => cases h; exact her _ _
     | n + 4, h => cases h) rfl
   have e1 : Z4A [1, 2, 3] (sgS [1, 2, 3] (rnH az regs l ⟨⟨p, r, e :: evs⟩, fin, q, asked⟩).length) (Z2t (e :: evs) regs l ⟨p', r', e' :: evs'⟩ (asked' : Nat) fin' (fin' == 0)) 0 (rnH az regs l ⟨⟨p, r, e :: evs⟩, fin, q, asked⟩) ++ shS (sgS [1, 2, 3] (rnH az regs l ⟨⟨p, r, e :: evs⟩, fin, q, asked⟩).length) (rnH az regs l ⟨⟨p, r, e :: evs⟩, fin, q, asked⟩).length ((Z2t (e :: evs) regs l ⟨p', r', e' :: evs'⟩ (asked' : Nat) fin' (fin' == 0)).drop 3) = rnP az (e :: evs) regs l ⟨⟨p', r', e' :: evs'⟩, fin', q', asked'⟩ := by
    simp [rnH, rnP, Z1G, Z2t, thH, grA, grB, shA, shO, Z4A, Z3m, shS, sgS, Z1C, renL, ren, Z0p, Z0r, Zf7]
   rw [<- e1]; exact h2
end Go.Proofs.YteidjbahodbgdaaGreatDoor.lex
end

section
namespace Go.Proofs.YteidjbahodbgdaaGreatDoor.lex
open Go.Abs Go.RowKit Go.Flat
set_option maxRecDepth 100000
set_option maxHeartbeats 4000000
variable {gl : Z0l}
theorem Z9Y : ∀ a b : List Ev, Z14 a = Z14 b -> a = b
 | [], [], _ => rfl
 | [], y :: b, h => by simp [Z14, Z0c] at h
 | x :: a, [], h => by simp [Z14, Z0c] at h
 | x :: a, y :: b, h => by
  simp only [Z14] at h
  have := List.append_inj h rfl
  rw [Z4L this.1, Z9Y a b this.2]
theorem ZjM {az : List Int} {regs : Int} {l : List Ins} {s t : Flat.Stand} (h : rnH az regs l s = rnH az regs l t) : s.th = t.th /\ s.asked = t.asked /\ s.fin = t.fin := by
 obtain ⟨⟨p, r, ev⟩, fin, q, asked⟩ := s
 obtain ⟨⟨p', r', ev'⟩, fin', q', asked'⟩ := t
 simp only [rnH, Z1G, thH, shA, shO, List.map_cons, Z1C, renL, ren, Z0p, List.cons.injEq, AObj.mk.injEq, ABody.cells.injEq, AV.int.injEq, AV.bool.injEq, true_and, and_true] at h
 obtain ⟨⟨h1, h2, h3, h4, h5, h6⟩, h7, h8⟩ := h
 have e1 : r = r' := Z4H h7
 have e2 : ev = ev' := by
  cases ev with
  | nil => cases ev' with
   | nil => rfl
   | cons _ _ => simp [grB] at h8
  | cons x ev => cases ev' with
   | nil => simp [grB] at h8
   | cons y ev' =>
    simp only [grB, List.map_cons, List.map_nil, shO, Z1C, Z0r, List.cons.injEq, AObj.mk.injEq, ABody.cells.injEq, true_and, and_true] at h8
    exact Z9Y _ _ h8
 subst e1; subst e2
 refine ⟨?_, by simp only; omega, h5⟩
 rw [show p = p' by omega]
theorem ZfH {az : List Int} {regs : Int} {l : List Ins} {s : Flat.Stand} {i : Nat} {o : AObj} (h : (rnH az regs l s)[i]? = some o) : o.fam = i /\ o.alive = true /\ Z0M (rnH az regs l s).length (Z3I o.body []) = true := by
 obtain ⟨⟨p, r, ev⟩, fin, q, asked⟩ := s
 have hrr : ∀ (x : List Int) (n : Nat), Z0M n (refsL (ksC x) []) = true := fun x n => by rw [Z0R]; rfl
 have her : ∀ (x : List Ev) (n : Nat), Z0M n (refsL (Z14 x) []) = true := fun x n => by rw [Z5x]; rfl
 have hr2 : ∀ (x : List Int) (n : Nat) (g : Nat -> Nat), Z0M n (refsL (renL g (ksC x)) []) = true := fun x n g => by rw [Z0p]; exact hrr x n
 have he2 : ∀ (x : List Ev) (n : Nat) (g : Nat -> Nat), Z0M n (refsL (renL g (Z14 x)) []) = true := fun x n g => by rw [Z0r]; exact her x n
 cases ev with
 | nil =>
  match i, h with
  | 0, h => cases h; exact ⟨rfl, rfl, hrr _ _⟩
  | 1, h => cases h; exact ⟨rfl, rfl, rfl⟩
  | 2, h => cases h; exact ⟨rfl, rfl, hr2 _ _ _⟩
  | n + 3, h => cases h
 | cons e ev =>
  match i, h with
  | 0, h => cases h; exact ⟨rfl, rfl, hrr _ _⟩
  | 1, h => cases h; exact ⟨rfl, rfl, rfl⟩
  | 2, h => cases h; exact ⟨rfl, rfl, hr2 _ _ _⟩
  | 3, h => cases h; exact ⟨rfl, rfl, he2 _ _ _⟩
  | n + 4, h => cases h
theorem ZjK {regs : Nat} {l : List Ins} (hr : Runs regs l) (ha : Acy (nxL l) l.length) (h16 : regs <= 16) (az : List Int) (hal : az.length <= 5000) :
  Z76 Tryz.prog gl 1 31 [.agg [.int .i64 regs, .rs l.length 6 (inC l)], .slice 0 0 az.length az.length 1] [Zf7 az] (.ptr 1 0) (rnH az regs l (goI l az (th0 regs) 0)) := by
 obtain ⟨rank, hrank⟩ := id ha
 have hf := hr.good.few
 have hinv := fun (az : List Int) => Zb2 evF wrI (Z0h l) (f := l.length) hrank.2 hrank.1 az (th0 regs) 0 .zero
 have hev0 : ∀ az : List Int, (goI l az (th0 regs) 0).th.evs.length <= 4000 := fun az => by
  have h1 := (hinv az).evs
  have h2 := hrank.1 0 .zero
  have h3 : (th0 regs).evs.length + rank (th0 regs).at_ = 0 + rank 0 := rfl
  have h4 : (goI l az (th0 regs) 0).th.evs.length + rank (goI l az (th0 regs) 0).th.at_ <= _ := h1
  omega
 have hrl0 : ∀ az : List Int, (goI l az (th0 regs) 0).th.regs.length = regs := fun az => (hinv az).regs.trans List.length_replicate
 obtain ⟨O1, hO1, ⟨p1, -⟩, -⟩ := Z6G (P := Tryz.prog) (gl := gl) [{ I := Flat.Stand × Int, f := 49, G := fun i => Rch (nxL l) i.1.th.at_ /\ i.1.th.regs.length = regs /\ i.1.th.evs.length <= 1000000 /\ i.1.asked <= 1000000 /\ i.1.fin = 0 /\ Flat.stp evF (Z0h l i.1.th.at_) i.1.th = .asks /\ (goI l [] (Z1k evF wrI (Z0h l i.1.th.at_) i.1.th i.2) (i.1.asked + 1)).th.evs ≠ [], A := fun i => [.ptr 1 0, .int .i64 i.2], H := fun i => rnH az regs l i.1, R := fun i => .tuple [], O := fun i => rnP az i.1.th.evs regs l (goI l [] (Z1k evF wrI (Z0h l i.1.th.at_) i.1.th i.2) (i.1.asked + 1)), body := (by kernel_rfl), inj := (fun i j _ _ h1 h2 => by obtain ⟨e1, e2, e3⟩ := ZjM h2; simp only [List.cons.injEq, AV.int.injEq, and_true, true_and] at h1; rw [e1, h1, e2]; exact ⟨rfl, rfl⟩), ok := fun i h => ZeQ az hr ha i.1 i.2 h.1 h.2.1 h.2.2.1 h.2.2.2.1 h.2.2.2.2.1 h.2.2.2.2.2.1 h.2.2.2.2.2.2 }] [] rfl
 have halive : ∀ o ∈ Zhj regs l ((0 : Nat) : Int) (adv evF (Z0h l) l.length (th0 regs)), o.alive = true := fun o ho => by
  obtain ⟨i, hi⟩ := List.getElem?_of_mem ho
  rw [Z7M] at hi
  exact (Z2R hi).2.2.1
 obtain ⟨O, hO, q0, hoth⟩ := Z5v (P := Tryz.prog) (gl := gl) { I := Unit, f := 48, G := fun _ => True, A := fun _ => [.agg [.int .i64 regs, .rs l.length 6 (inC l)]], R := fun _ => .ptr 0 0, N := fun _ => Zhj regs l ((0 : Nat) : Int) (adv evF (Z0h l) l.length (th0 regs)), body := (by kernel_rfl), inj := fun _ _ _ _ _ => ⟨rfl, rfl⟩, ok := fun _ _ => ⟨rfl, halive, ZdS hr ha h16⟩ } hO1
 have p1' : ∀ (st : Flat.Stand) (v : Int), Rch (nxL l) st.th.at_ -> st.th.regs.length = regs -> st.th.evs.length <= 1000000 -> st.asked <= 1000000 -> st.fin = 0 -> Flat.stp evF (Z0h l st.th.at_) st.th = .asks -> (goI l [] (Z1k evF wrI (Z0h l st.th.at_) st.th v) (st.asked + 1)).th.evs ≠ [] -> Z04 Tryz.prog O (rnH az regs l st) 49 [.ptr 1 0, .int .i64 v] = some (.tuple [], rnP az st.th.evs regs l (goI l [] (Z1k evF wrI (Z0h l st.th.at_) st.th v) (st.asked + 1))) := fun st v h1 h2 h3 h4 h5 h6 h7 => (hoth _ (by show (49 : Nat) ≠ 48; decide) _ _).trans (p1 (st, v) ⟨h1, h2, h3, h4, h5, h6, h7⟩)
 have q1 := q0 () trivial
 simp only [Z7M] at q1
 clear p1 q0 hoth hO1
 refine Zie follows Z09 hO Tryz.func31 rfl ?_
 have hS0 : Z1G regs l (goI l [] (th0 regs) 0) = thH regs l (goI l [] (th0 regs) 0).th ((goI l [] (th0 regs) 0).asked : Nat) (goI l [] (th0 regs) 0).fin ((goI l [] (th0 regs) 0).fin == 0) := rfl
 rw [hS0] at q1
 have hI0 : (fun i => i <= az.length) 0 := Nat.zero_le _
 have hmain : ∀ i, i <= az.length -> goI l (az.take i) (th0 regs) 0 = goI l (az.take i) (th0 regs) 0 := fun _ _ => rfl
 clear hmain
 generalize hst0 : goI l [] (th0 regs) 0 = st0 at q1
 obtain ⟨⟨p, r, evs⟩, fin, qq, asked⟩ := st0
 cases evs
 case' nil =>
  simp only [thH, grA, grB] at q1
  repeat' ((conv => whnf); first | (refine exI (q1 _) ?_) | (first | refine stp ?_ | with_reducible refine Z01 (fun h => ?_) (fun h => ?_)))
  conv => whnf
  refine ⟨Nat, (fun i => i <= az.length), (fun i => [(5, .ptr 1 0), (10, .slice 0 0 az.length az.length 1), (11, .int .i64 az.length), (12, .int .i64 (i : Nat))]), (fun i => rnH az regs l (goI l (az.take i) (th0 regs) 0)), (fun i => az.length - i), ⟨0, hI0, ?_⟩, ?_⟩
  · simp only [List.take_zero, hst0, rnH, Z1G, thH, shA, shO, List.map_cons, List.map_nil, grA, grB, Z1C, renL, ren, Z0p, Z0r]
    exact fgA [0, 2, 3]
 case' cons z evs =>
  simp only [thH, grA, grB] at q1
  repeat' ((conv => whnf); first | (refine exI (q1 _) ?_) | (first | refine stp ?_ | with_reducible refine Z01 (fun h => ?_) (fun h => ?_)))
  conv => whnf
  refine ⟨Nat, (fun i => i <= az.length), (fun i => [(5, .ptr 1 0), (10, .slice 0 0 az.length az.length 1), (11, .int .i64 az.length), (12, .int .i64 (i : Nat))]), (fun i => rnH az regs l (goI l (az.take i) (th0 regs) 0)), (fun i => az.length - i), ⟨0, hI0, ?_⟩, ?_⟩
  · simp only [List.take_zero, hst0, rnH, Z1G, thH, shA, shO, List.map_cons, List.map_nil, grA, grB, Z1C, renL, ren, Z0p, Z0r]
    exact fgA [0, 2, 3, 4]
 all_goals (
  clear hst0 q1 hI0 hS0
  rintro i hi
  (try dsimp only at hi)
  (try dsimp only)
  have gi := hinv (az.take i)
  have hgev := hev0 (az.take i)
  have hgrl := hrl0 (az.take i)
  have hask : (goI l (az.take i) (th0 regs) 0).asked <= 5000 := by have := gi.asked; rw [List.length_take] at this; have h2 : (goI l (az.take i) (th0 regs) 0).asked <= _ := this; omega
  have hrch : Rch (nxL l) (goI l (az.take i) (th0 regs) 0).th.at_ := gi.rch
  have hasks : (goI l (az.take i) (th0 regs) 0).fin = 0 -> Flat.stp evF (Z0h l (goI l (az.take i) (th0 regs) 0).th.at_) (goI l (az.take i) (th0 regs) 0).th = .asks := fun h => (gi.asks h).1
  clear gi
  by_cases hlt : i < az.length
  · have e1 : decide ((i : Int) < (az.length : Int)) = true := by simpa using hlt
    have hx : ∀ off, off = i -> tk 1 ((ksC az).drop off) = some [.int .i64 az[i]] := fun off e => Z11 _ az i hlt e
    have hsn : goI l (az.take (i + 1)) (th0 regs) 0 = if (goI l (az.take i) (th0 regs) 0).fin = 0 then goI l [] (Z1k evF wrI (Z0h l (goI l (az.take i) (th0 regs) 0).th.at_) (goI l (az.take i) (th0 regs) 0).th az[i]) ((goI l (az.take i) (th0 regs) 0).asked + 1) else goI l (az.take i) (th0 regs) 0 := by
     rw [List.take_succ_eq_append_getElem hlt]; exact Zgk evF wrI (Z0h l) _ _ _ _
    have hstop : (goI l (az.take i) (th0 regs) 0).fin ≠ 0 -> goI l az (th0 regs) 0 = goI l (az.take i) (th0 regs) 0 := fun h => by
     have h2 := Zgj evF wrI (Z0h l) (f := l.length) (az.take i) (az.drop i) (th0 regs) 0 h
     rw [List.take_append_drop] at h2; exact h2
    have hgrow : (goI l (az.take i) (th0 regs) 0).fin = 0 -> (goI l [] (Z1k evF wrI (Z0h l (goI l (az.take i) (th0 regs) 0).th.at_) (goI l (az.take i) (th0 regs) 0).th az[i]) ((goI l (az.take i) (th0 regs) 0).asked + 1)).th.evs ≠ [] := fun _ he => by
     obtain ⟨k, _, _, _, _, m, hm⟩ := Z6W evF wrI (Z0h l) (f := l.length) [] (Z1k evF wrI (Z0h l (goI l (az.take i) (th0 regs) 0).th.at_) (goI l (az.take i) (th0 regs) 0).th az[i]) ((goI l (az.take i) (th0 regs) 0).asked + 1)
     have he : (go evF wrI (Z0h l) l.length [] (Z1k evF wrI (Z0h l (goI l (az.take i) (th0 regs) 0).th.at_) (goI l (az.take i) (th0 regs) 0).th az[i]) ((goI l (az.take i) (th0 regs) 0).asked + 1)).th.evs = [] := he
     rw [hm] at he
     have := (List.append_eq_nil_iff.1 he).1
     rw [Z52] at this
     exact absurd this (by simp)
    have q := p1' (goI l (az.take i) (th0 regs) 0) az[i] hrch hgrl (by omega) (by omega)
    by_cases hfin : (goI l (az.take i) (th0 regs) 0).fin = 0
    · have hgrow := hgrow hfin
      have q := q hfin (hasks hfin) hgrow
      rw [if_pos hfin] at hsn
      rw [hsn.symm] at hgrow
      rw [<- hsn] at q
      have ef : ((goI l (az.take i) (th0 regs) 0).fin == 0) = true := by simp [hfin]
      clear hsn hstop hinv hev0 hrl0 hrch hasks p1'
      generalize hN : goI l (az.take (i + 1)) (th0 regs) 0 = N at *
      generalize goI l (az.take i) (th0 regs) 0 = M at *
      generalize az[i] = v at *
      obtain ⟨⟨p2, r2, evs2⟩, fin2, qq2, asked2⟩ := N
      obtain ⟨⟨p3, r3, evs3⟩, fin3, qq3, asked3⟩ := M
      simp only at hgrow ef hfin hask hgev
      cases evs2 with
      | nil => exact absurd rfl hgrow
      | cons z2 evs2 =>
       cases evs3 with
       | nil =>
        simp only [rnH, rnP, Z1G, thH, shA, shO, List.map_cons, List.map_nil, grA, grB, Z1C, renL, ren, Z0p, Z0r, ef, List.length_cons] at q ⊢
        repeat' ((conv => whnf); first | (refine exI q ?_) | (refine exI (hx _ (by omega)) ?_) | (with_reducible refine ixJ i rfl ?_ ?_; (focus (omega))) | (first | refine stp ?_ | with_reducible refine Z01 (fun h => ?_) (fun h => ?_)))
        conv => whnf
        refine ⟨i + 1, hlt, by show az.length - (i + 1) < az.length - i; omega, ?_⟩
        rw [hN]
        simp only [rnH, Z1G, thH, shA, shO, List.map_cons, List.map_nil, grA, grB, Z1C, renL, ren, Z0p, Z0r, List.length_cons]
        exact fgA [0, 1, 2, 3]
       | cons z3 evs3 =>
        simp only [rnH, rnP, Z1G, thH, shA, shO, List.map_cons, List.map_nil, grA, grB, Z1C, renL, ren, Z0p, Z0r, ef, List.length_cons] at q ⊢
        repeat' ((conv => whnf); first | (refine exI q ?_) | (refine exI (hx _ (by omega)) ?_) | (with_reducible refine ixJ i rfl ?_ ?_; (focus (omega))) | (first | refine stp ?_ | with_reducible refine Z01 (fun h => ?_) (fun h => ?_)))
        conv => whnf
        refine ⟨i + 1, hlt, by show az.length - (i + 1) < az.length - i; omega, ?_⟩
        rw [hN]
        simp only [rnH, Z1G, thH, shA, shO, List.map_cons, List.map_nil, grA, grB, Z1C, renL, ren, Z0p, Z0r, List.length_cons]
        exact fgA [0, 1, 2, 4]
    · rw [hstop hfin]
      have ef : ((goI l (az.take i) (th0 regs) 0).fin == 0) = false := by simpa using hfin
      clear hsn hstop hinv hev0 hrl0 hrch hasks p1' q hgrow
      generalize goI l (az.take i) (th0 regs) 0 = M at *
      generalize az[i] = v at *
      obtain ⟨⟨p3, r3, evs3⟩, fin3, qq3, asked3⟩ := M
      simp only at ef hfin hask hgev
      cases evs3 with
      | nil =>
       simp only [rnH, Z1G, thH, shA, shO, List.map_cons, List.map_nil, grA, grB, Z1C, renL, ren, Z0p, Z0r, ef]
       repeat' ((conv => whnf); first | (refine exI (hx _ (by omega)) ?_) | (with_reducible refine ixJ i rfl ?_ ?_; (focus (omega))) | (first | refine stp ?_ | with_reducible refine Z01 (fun h => ?_) (fun h => ?_)))
       all_goals (conv => whnf)
       all_goals exact Z4x [0, 1, 2]
      | cons z3 evs3 =>
       simp only [rnH, Z1G, thH, shA, shO, List.map_cons, List.map_nil, grA, grB, Z1C, renL, ren, Z0p, Z0r, ef]
       repeat' ((conv => whnf); first | (refine exI (hx _ (by omega)) ?_) | (with_reducible refine ixJ i rfl ?_ ?_; (focus (omega))) | (first | refine stp ?_ | with_reducible refine Z01 (fun h => ?_) (fun h => ?_)))
       all_goals (conv => whnf)
       all_goals exact Z4x [0, 1, 2, 3]
  · have e1 : decide ((i : Int) < (az.length : Int)) = false := by simpa using hlt
    have hi2 : i = az.length := by omega
    subst hi2
    clear hinv hev0 hrl0 hrch hasks p1' hgrl hask hgev
    rw [List.take_length]
    generalize goI l az (th0 regs) 0 = M at *
    obtain ⟨⟨p3, r3, evs3⟩, fin3, qq3, asked3⟩ := M
    cases evs3 with
    | nil =>
     simp only [rnH, Z1G, thH, shA, shO, List.map_cons, List.map_nil, grA, grB, Z1C, renL, ren, Z0p, Z0r]
     repeat' ((conv => whnf); first | (first | refine stp ?_ | with_reducible refine Z01 (fun h => ?_) (fun h => ?_)))
     all_goals (conv => whnf)
     all_goals exact Z4x [0, 1, 2]
    | cons z3 evs3 =>
     simp only [rnH, Z1G, thH, shA, shO, List.map_cons, List.map_nil, grA, grB, Z1C, renL, ren, Z0p, Z0r]
     repeat' ((conv => whnf); first | (first | refine stp ?_ | with_reducible refine Z01 (fun h => ?_) (fun h => ?_)))
     all_goals (conv => whnf)
     all_goals exact Z4x [0, 1, 2, 3])
theorem ZjJ {regs : Nat} {l : List Ins} (hr : Runs regs l) (ha : Acy (nxL l) l.length) (h16 : regs <= 16) (az : List Int) (hal : az.length <= 5000) :
  Z1O Tryz.prog gl 31 [.agg [.int .i64 regs, .rs l.length 6 (inC l)], .slice 0 0 az.length az.length 1] [Zf7 az] (.ptr 1 0) (rnH az regs l (goI l az (th0 regs) 0)) := by
 have h := Z2m (ZjK (gl := gl) hr ha h16 az hal) (Nat.le_refl _) (Nat.le_add_left _ _) (fun i o h => ZfH h) (fun i o h => by
  match i, h with
  | 0, h => cases h; exact ⟨rfl, rfl⟩
  | n + 1, h => cases h) (by
   generalize goI l az (th0 regs) 0 = M
   obtain ⟨⟨p, r, ev⟩, fin, q, asked⟩ := M
   cases ev <;> rfl)
 generalize goI l az (th0 regs) 0 = M at *
 obtain ⟨⟨p, r, ev⟩, fin, q, asked⟩ := M
 have e1 : Z4s 1 (sgE 1 [Zf7 az].length) (rnH az regs l ⟨⟨p, r, ev⟩, fin, q, asked⟩) 0 [Zf7 az] ++ shE (sgE 1 [Zf7 az].length) ((rnH az regs l ⟨⟨p, r, ev⟩, fin, q, asked⟩).drop 1) = rnH az regs l ⟨⟨p, r, ev⟩, fin, q, asked⟩ := by
  cases ev <;> (simp only [rnH, Zf7, Z1G, thH, shA, shO, List.map_cons, List.map_nil, grA, grB, Z1C, renL, ren, Z0p, Z0r, Z4s, shE, List.drop_succ_cons, List.drop_zero, List.length_cons, List.length_nil, Nat.blt, Nat.ble, List.getElem?_cons_zero]; rfl)
 rw [e1] at h
 exact h
end Go.Proofs.YteidjbahodbgdaaGreatDoor.lex
end

section
namespace Go.Proofs.YteidjbahodbgdaaGreatDoor.lex
open Go.Abs Go.RowKit Go.Flat
set_option maxRecDepth 100000
set_option maxHeartbeats 4000000
variable {gl : Z0l}
def Z2Y {σ : Type} (g : Int -> σ -> Option σ) : List Int -> σ -> Option σ
 | [], o => some o
 | v :: l, o => match g v o with
  | some o' => Z2Y g l o'
  | none => none
theorem Z9D (l : List Int) (v : Int) : ksC (l ++ [v]) = ksC l ++ [.int .i64 v] := by simp [ksC]
def Z6t (St : List Int -> Flat.Stand) (vals : List Int) : Nat -> List Int -> Nat × List AV -> Option (Nat × List AV)
 | 0, as_, o => if (St as_).fin = 0 then none else if o.1 < 4096 then some (o.1 + 1, o.2 ++ Z0T (St as_)) else none
 | d + 1, as_, o => if (St as_).fin = 0 then Z2Y (fun v o => Z6t St vals d (as_ ++ [v]) o) vals o else if o.1 < 4096 then some (o.1 + 1, o.2 ++ Z0T (St as_)) else none
structure OkC (n : Nat) (cs : List AV) : Prop where
 len : cs.length = n * 10
 rn : ∀ g, renL g cs = cs
 rf : refsL cs [] = []
 few : n <= 4096
theorem Z9p (g : Nat -> Nat) : ∀ a b : List AV, renL g (a ++ b) = renL g a ++ renL g b
 | [], b => rfl
 | x :: a, b => by simp only [List.cons_append, renL, Z9p g a b]
theorem Z7l : ∀ (a b : List AV) (acc : List Nat), refsL (a ++ b) acc = refsL a (refsL b acc)
 | [], b, acc => rfl
 | x :: a, b, acc => by simp only [List.cons_append, refsL, Z7l a b]
theorem Z7s : OkC 0 [] := ⟨rfl, fun _ => rfl, rfl, by omega⟩
theorem Z6O (st : Flat.Stand) : (Z0T st).length = 10 := by
 unfold Z0T
 cases st.q <;> rfl
theorem Zfm (st : Flat.Stand) (g : Nat -> Nat) : renL g (Z0T st) = Z0T st := by
 unfold Z0T
 cases st.q <;> rfl
theorem Zfn (st : Flat.Stand) : refsL (Z0T st) [] = [] := by
 unfold Z0T
 cases st.q <;> rfl
theorem OkC.snoc {n : Nat} {cs : List AV} (h : OkC n cs) (hn : n < 4096) (st : Flat.Stand) : OkC (n + 1) (cs ++ Z0T st) :=
 ⟨by rw [List.length_append, h.len, Z6O]; omega, fun g => by rw [Z9p, h.rn, Zfm], by rw [Z7l, Zfn, h.rf], by omega⟩
theorem Z9P {g : Int -> Nat × List AV -> Option (Nat × List AV)} (hg : ∀ v o o', OkC o.1 o.2 -> g v o = some o' -> OkC o'.1 o'.2 /\ o.1 <= o'.1) : ∀ (l : List Int) (o o' : Nat × List AV), OkC o.1 o.2 -> Z2Y g l o = some o' -> OkC o'.1 o'.2 /\ o.1 <= o'.1
 | [], o, o', h, e => by cases e; exact ⟨h, Nat.le_refl _⟩
 | v :: l, o, o', h, e => by
  unfold Z2Y at e
  split at e
  · rename_i o1 h1
    obtain ⟨h2, h3⟩ := hg v o o1 h h1
    obtain ⟨h4, h5⟩ := Z9P hg l o1 o' h2 e
    exact ⟨h4, by omega⟩
  · cases e
theorem Z5W {St : List Int -> Flat.Stand} {vals : List Int} : ∀ (d : Nat) (as_ : List Int) (o o' : Nat × List AV), OkC o.1 o.2 -> Z6t St vals d as_ o = some o' -> OkC o'.1 o'.2 /\ o.1 <= o'.1
 | 0, as_, o, o', h, e => by
  unfold Z6t at e
  split at e
  · cases e
  · split at e
    · cases e; exact ⟨h.snoc (by assumption) _, Nat.le_succ _⟩
    · cases e
 | d + 1, as_, o, o', h, e => by
  unfold Z6t at e
  split at e
  · exact Z9P (fun v o o' h e => Z5W d _ o o' h e) vals o o' h e
  · split at e
    · cases e; exact ⟨h.snoc (by assumption) _, Nat.le_succ _⟩
    · cases e
theorem Zdx {St : List Int -> Flat.Stand} {vals : List Int} (hv : vals ≠ []) : ∀ (d : Nat) (as_ : List Int) (o o' : Nat × List AV), OkC o.1 o.2 -> Z6t St vals d as_ o = some o' -> 0 < o'.1
 | 0, as_, o, o', h, e => by
  unfold Z6t at e
  split at e
  · cases e
  · split at e
    · cases e; exact Nat.succ_pos _
    · cases e
 | d + 1, as_, o, o', h, e => by
  unfold Z6t at e
  split at e
  · cases vals with
    | nil => exact absurd rfl hv
    | cons v l =>
     unfold Z2Y at e
     split at e
     · rename_i o1 h1
       have h2 := Zdx hv d _ o o1 h h1
       have h3 := (Z9P (fun v o o' h e => Z5W d _ o o' h e) l o1 o' (Z5W d _ o o1 h h1).1 e).2
       omega
     · cases e
  · split at e
    · cases e; exact Nat.succ_pos _
    · cases e
abbrev gF : AV := .func (.func 30) [] [.ptr 0 0, .ptr 2 0, .ptr 3 0, .ptr 1 0, .ptr 4 0]
abbrev gC : List AV := [.ptr 0 0, .ptr 2 0, .ptr 3 0, .ptr 1 0, .ptr 4 0]
def gx (regs : Int) (l : List Ins) (vs : List Int) (cA cE : List AV) (X : Z00) : Z00 :=
 ⟨true, 0, 0, .cells [.int .i64 regs, .rs l.length 6 (inC l)] 24⟩ :: ⟨true, 1, 0, .cells [rsI vs] 25⟩ :: ⟨true, 2, 0, .cells cA 25⟩ :: ⟨true, 3, 0, .cells cE 28⟩ :: ⟨true, 4, 0, .cells [gF] 26⟩ :: X
def gaH (regs : Int) (l : List Ins) (vs : List Int) : Option (List Int) -> Nat -> List AV -> Z00
 | none, 0, cs => gx regs l vs [.nslice] [.nslice] []
 | some a, 0, cs => gx regs l vs [.slice 5 0 a.length a.length 1] [.nslice] [⟨true, 5, 0, .cells (ksC a) 2⟩]
 | none, n + 1, cs => gx regs l vs [.nslice] [.slice 5 0 (n + 1) (n + 1) 10] [⟨true, 5, 0, .cells cs 37⟩]
 | some a, n + 1, cs => gx regs l vs [.slice 6 0 a.length a.length 1] [.slice 5 0 (n + 1) (n + 1) 10] [⟨true, 5, 0, .cells cs 37⟩, ⟨true, 6, 0, .cells (ksC a) 2⟩]
def hcH (regs : Int) (l : List Ins) (vs a : List Int) (v : Int) : Bool -> Nat -> List AV -> Z00
 | false, 0, cs => gx regs l vs [.slice 6 0 (a.length + 1) (a.length + 1) 1] [.nslice] [⟨true, 5, 0, .cells [.int .i64 v] 2⟩, ⟨true, 6, 0, .cells (ksC a ++ [.int .i64 v]) 2⟩]
 | false, n + 1, cs => gx regs l vs [.slice 7 0 (a.length + 1) (a.length + 1) 1] [.slice 5 0 (n + 1) (n + 1) 10] [⟨true, 5, 0, .cells cs 37⟩, ⟨true, 6, 0, .cells [.int .i64 v] 2⟩, ⟨true, 7, 0, .cells (ksC a ++ [.int .i64 v]) 2⟩]
 | true, 0, cs => gx regs l vs [.slice 7 0 (a.length + 1) (a.length + 1) 1] [.nslice] [⟨true, 5, 0, .cells (ksC a) 2⟩, ⟨true, 6, 0, .cells [.int .i64 v] 2⟩, ⟨true, 5, 0, .cells (ksC a ++ [.int .i64 v]) 2⟩]
 | true, n + 1, cs => gx regs l vs [.slice 8 0 (a.length + 1) (a.length + 1) 1] [.slice 5 0 (n + 1) (n + 1) 10] [⟨true, 5, 0, .cells cs 37⟩, ⟨true, 6, 0, .cells (ksC a) 2⟩, ⟨true, 7, 0, .cells [.int .i64 v] 2⟩, ⟨true, 6, 0, .cells (ksC a ++ [.int .i64 v]) 2⟩]
def hcD : Bool -> Nat -> Z00
 | false, 0 => [⟨false, 5, 0, .cells [] 0⟩, ⟨false, 6, 0, .cells [] 0⟩]
 | false, n + 1 => [⟨false, 5, 0, .cells [] 0⟩, ⟨false, 6, 0, .cells [] 0⟩, ⟨false, 7, 0, .cells [] 0⟩]
 | true, 0 => [⟨false, 5, 0, .cells [] 0⟩, ⟨false, 6, 0, .cells [] 0⟩, ⟨false, 5, 0, .cells [] 0⟩]
 | true, n + 1 => [⟨false, 5, 0, .cells [] 0⟩, ⟨false, 6, 0, .cells [] 0⟩, ⟨false, 7, 0, .cells [] 0⟩, ⟨false, 6, 0, .cells [] 0⟩]
def hcN : Bool -> Nat -> Nat
 | false, 0 => 7
 | false, n + 1 => 8
 | true, 0 => 8
 | true, n + 1 => 9
def hcO (regs : Int) (l : List Ins) (vs a : List Int) (v : Int) (sh : Bool) (n : Nat) : Option (Nat × List AV) -> Z00
 | some (n2, cs2) => gx regs l vs [.slice (hcN sh n + 1) 0 (a.length + 1) (a.length + 1) 1] [.slice (hcN sh n) 0 n2 n2 10] (hcD sh n ++ [⟨true, hcN sh n, 0, .cells cs2 37⟩, ⟨true, hcN sh n + 1, 0, .cells (ksC a ++ [.int .i64 v]) 2⟩])
 | none => gx regs l vs [] [] (hcD sh n)
def gaR (regs : Int) (l : List Ins) (vs : List Int) (a : List Int) : Option (Nat × List AV) -> Z00
 | some o => gaH regs l vs (some a) o.1 o.2
 | none => gx regs l vs [] [] []
theorem Zcd {H X bl : Z00} {m rest : List Nat} {regs : Int} {l : List Ins} {vs : List Int} {cA cA2 cE cE2 : List AV} (hm : m = 0 :: 1 :: 2 :: 3 :: 4 :: rest) (hH : H = gx regs l vs cA cE X) (hA : ∀ ty, BodyGe m (.cells cA ty) (.cells cA2 ty)) (hE : ∀ ty, BodyGe m (.cells cE ty) (.cells cE2 ty)) (hX : HpGe H m rest bl 5) : HpGe H m m (gx regs l vs cA2 cE2 bl) 0 := by
 subst hH
 have h : HpGe (gx regs l vs cA cE X) m (0 :: 1 :: 2 :: 3 :: 4 :: rest) (gx regs l vs cA2 cE2 bl) 0 :=
  ⟨⟨rfl, rfl, rfl, rfl, BodyGe.pre (rest := []) rfl rfl⟩, ⟨rfl, rfl, rfl, rfl, BodyGe.pre (rest := []) rfl rfl⟩, ⟨rfl, rfl, rfl, rfl, hA _⟩, ⟨rfl, rfl, rfl, rfl, hE _⟩, ⟨rfl, rfl, rfl, rfl, BodyGe.cellsL ⟨Wk.func trivial ⟨Wk.ptr (by rw [hm]; rfl) rfl, Wk.ptr (by rw [hm]; rfl) rfl, Wk.ptr (by rw [hm]; rfl) rfl, Wk.ptr (by rw [hm]; rfl) rfl, Wk.ptr (by rw [hm]; rfl) rfl, trivial⟩, trivial⟩⟩, hX⟩
 rw [<- hm] at h
 exact h
theorem bl0 {m : List Nat} {cs : List AV} {ty : TypeId} : BodyGe m (.cells cs ty) (.cells [] ty) := ⟨rfl, Nat.zero_le _, fun i c h => by simp at h⟩
theorem bl1 {m : List Nat} {u u2 : AV} (h : Wk m u u2) (ty : TypeId) : BodyGe m (.cells [u] ty) (.cells [u2] ty) := BodyGe.cellsL ⟨h, trivial⟩
theorem Z7A {regs : Int} {l : List Ins} {vs : List Int} {a : Option (List Int)} {n : Nat} {cs : List AV} (hcs : refsL cs [] = []) {i : Nat} {o : AObj} (h : (gaH regs l vs a n cs)[i]? = some o) : o.fam = i /\ o.alive = true /\ Z0M (gaH regs l vs a n cs).length (Z3I o.body []) = true := by
 have hrr : ∀ (x : List Int) (n : Nat), Z0M n (refsL (ksC x) []) = true := fun x n => by rw [Z0R]; rfl
 have hcc : ∀ n : Nat, Z0M n (refsL cs []) = true := fun n => by rw [hcs]; rfl
 cases a <;> cases n <;>
 · match i, h with
   | 0, h => cases h; exact ⟨rfl, rfl, rfl⟩
   | 1, h => cases h; exact ⟨rfl, rfl, rfl⟩
   | 2, h => cases h; exact ⟨rfl, rfl, rfl⟩
   | 3, h => cases h; exact ⟨rfl, rfl, rfl⟩
   | 4, h => cases h; exact ⟨rfl, rfl, rfl⟩
   | 5, h => first | (cases h; done) | (cases h; exact ⟨rfl, rfl, hrr _ _⟩) | (cases h; exact ⟨rfl, rfl, hcc _⟩)
   | 6, h => first | (cases h; done) | (cases h; exact ⟨rfl, rfl, hrr _ _⟩)
   | k + 7, h => cases h
theorem Zkn {regs : Int} {l : List Ins} {vs : List Int} {a : List Int} {F : Option (Nat × List AV)} (hcs : ∀ o, F = some o -> refsL o.2 [] = []) {i : Nat} {o : AObj} (h : (gaR regs l vs a F)[i]? = some o) : o.fam = i /\ o.alive = true /\ Z0M (gaR regs l vs a F).length (Z3I o.body []) = true := by
 cases F with
 | some p => exact Z7A (hcs p rfl) h
 | none =>
  match i, h with
  | 0, h => cases h; exact ⟨rfl, rfl, rfl⟩
  | 1, h => cases h; exact ⟨rfl, rfl, rfl⟩
  | 2, h => cases h; exact ⟨rfl, rfl, rfl⟩
  | 3, h => cases h; exact ⟨rfl, rfl, rfl⟩
  | 4, h => cases h; exact ⟨rfl, rfl, rfl⟩
  | k + 5, h => cases h
end Go.Proofs.YteidjbahodbgdaaGreatDoor.lex
end

section
namespace Go.Proofs.YteidjbahodbgdaaGreatDoor.lex
open Go.Abs Go.RowKit Go.Flat
set_option maxRecDepth 100000
set_option maxHeartbeats 4000000
variable {gl : Z0l}
theorem Z2F {P : Program} {gl : Z0l} {f : Nat} {q : Nat -> AObj -> Bool} {H H1 H' : Z00} {args : List AV} {r : AV} (hM : Z1O P gl f args H1 r H') (h1 : kil q 0 H = H1) : Z1O P gl f args H r H' := by
 subst h1
 intro sn ι W cargs hg hR ha
 have hs := Stp.kil hR q
 refine (hM sn ι W cargs hg hs.rel ha).mono ?_
 rintro e W' ⟨v, sn', ι', rfl, hv, hst⟩
 exact ⟨v, sn', ι', rfl, hv, Stp.trans hR hs hst⟩
theorem Zb4 {m rest : List Nat} (hm : m = 0 :: 1 :: 2 :: 3 :: 4 :: rest) : Wk m (.tuple gC) (.tuple gC) := Wk.tuple ⟨Wk.ptr (by rw [hm]; rfl) rfl, Wk.ptr (by rw [hm]; rfl) rfl, Wk.ptr (by rw [hm]; rfl) rfl, Wk.ptr (by rw [hm]; rfl) rfl, Wk.ptr (by rw [hm]; rfl) rfl, trivial⟩
theorem ks_pre {m : List Nat} {a : List Int} {ty : TypeId} : BodyGe m (.cells (ksC a) ty) (.cells (ksC a) ty) := BodyGe.pre (rest := []) (by rw [List.append_nil]) (Z0R _)
theorem Z1L {m : List Nat} {cs : List AV} (h : refsL cs [] = []) {ty : TypeId} : BodyGe m (.cells cs ty) (.cells cs ty) := BodyGe.pre (rest := []) (by rw [List.append_nil]) h
theorem Z1i {m : List Nat} {b b2 len z : Nat} (h : m[b2]? = some b) : Wk m (.slice b 0 len len z) (.slice b2 0 len len z) := Wk.slice h rfl rfl (Nat.le_refl _) (Nat.le_refl _) rfl
theorem Z6r {m : List Nat} {a : List Int} {v : Int} {ty : TypeId} : BodyGe m (.cells (ksC a ++ [.int .i64 v]) ty) (.cells (ksC (a ++ [v])) ty) := BodyGe.pre (rest := []) (by rw [List.append_nil, Z9D]) (Z0R _)
theorem ZiI {m : List Nat} {b b2 : Nat} {a : List Int} {v : Int} (h : m[b2]? = some b) : Wk m (.slice b 0 (a.length + 1) (a.length + 1) 1) (.slice b2 0 (a ++ [v]).length (a ++ [v]).length 1) := Wk.slice h rfl (by simp) (Nat.le_refl _) (by simp) rfl
theorem Zi7 {regs : Int} {l : List Ins} {vs a : List Int} {v : Int} {n : Nat} {cs : List AV} {F : Option (Nat × List AV)} {b : Bool} (sh : Bool) (hM : Z76 Tryz.prog gl 5 30 gC (gaH regs l vs (some (a ++ [v])) n cs) (.bool b) (gaR regs l vs (a ++ [v]) F)) (hc : OkC n cs) (hF : ∀ o, F = some o -> OkC o.1 o.2 /\ 0 < o.1) :
  Z1O Tryz.prog gl 30 gC (hcH regs l vs a v sh n cs) (.bool b) (hcO regs l vs a v sh n F) := by
 have hcs := hc.rf
 have hcr := hc.rn
 have h1 := Z2m hM (by cases n <;> exact Nat.le_add_left _ _) (by
  cases F with
  | none => exact Nat.le_refl _
  | some o => obtain ⟨n2, cs2⟩ := o; cases n2 <;> exact Nat.le_add_left _ _) (fun i o h => Zkn (fun o e => (hF o e).1.rf) h) (fun i o h => ⟨(Z7A hcs h).2.1, (Z7A hcs h).1⟩) rfl
 clear hM hc
 have hk2 : ∀ x : List Int, ksC (x ++ [v]) = ksC x ++ [.int .i64 v] := fun x => Z9D x v
 have hl2 : ∀ x : List Int, (x ++ [v]).length = x.length + 1 := fun x => by simp
 have hkr : ∀ (x : List Int) (g : Nat -> Nat), renL g (ksC x ++ [.int .i64 v]) = ksC x ++ [.int .i64 v] := fun x g => by rw [<- hk2, Z0p]
 have hrr : refsL (ksC a ++ [.int .i64 v]) [] = [] := by rw [<- hk2]; exact Z0R _
 rcases F with _ | ⟨n2, cs2⟩
 case' some =>
  obtain ⟨hF, hn2⟩ := hF _ rfl
  have hcs2 := hF.rf
  have hcr2 := hF.rn
  clear hF
  simp only at hn2 hcs2 hcr2
  obtain ⟨n2, rfl⟩ : ∃ k, n2 = k + 1 := ⟨n2 - 1, by omega⟩
  have hcc2 : ∀ (n : Nat) (g : Nat -> Nat), Z0M n (refsL (renL g cs2) []) = true := fun n g => by rw [hcr2, hcs2]; rfl
  have hrr2 : ∀ (n : Nat) (g : Nat -> Nat), Z0M n (refsL (renL g (ksC (a ++ [v]))) []) = true := fun n g => by rw [Z0p, Z0R]; rfl
 all_goals rcases sh with _ | _ <;> rcases n with _ | n
 · have h2 := Z1d (m := [0, 1, 2, 3, 4, 6]) (Hc := kil (fun i _ => mem i [5]) 0 (hcH regs l vs a v false 0 cs)) (cargs := gC) h1 (Zb4 rfl) (Zcd rfl rfl (bl1 (ZiI rfl)) (bl1 (Wk.noref rfl)) ⟨⟨rfl, rfl, rfl, rfl, Z6r⟩, trivial⟩) rfl rfl rfl (Z0z rfl) (fun i o h => by
    match i, h with
    | 0, h => cases h; rfl
    | 1, h => cases h; rfl
    | 2, h => cases h; rfl
    | 3, h => cases h; rfl
    | 4, h => cases h; rfl
    | 5, h => cases h; rfl
    | 6, h => cases h; exact hcc2 _ _
    | 7, h => cases h; exact hrr2 _ _
    | k + 8, h => cases h) rfl
   refine Z2F (q := fun i _ => mem i [5]) (cast ?_ h2) rfl
   simp [rsI, gF, kil, mem, hcH, hcO, hcD, hcN, gaH, gaR, gx, Z4A, Z3m, shS, sgS, Z4s, sgE, shE, Z1C, renL, ren, Z0p, hk2, hkr, hcr, hcr2, AObj.dead]
 · have h2 := Z1d (m := [0, 1, 2, 3, 4, 5, 7]) (Hc := kil (fun i _ => mem i [6]) 0 (hcH regs l vs a v false (n + 1) cs)) (cargs := gC) h1 (Zb4 rfl) (Zcd rfl rfl (bl1 (ZiI rfl)) (bl1 (Z1i rfl)) ⟨⟨rfl, rfl, rfl, rfl, Z1L hcs⟩, ⟨rfl, rfl, rfl, rfl, Z6r⟩, trivial⟩) rfl rfl rfl (Z0z rfl) (fun i o h => by
    match i, h with
    | 0, h => cases h; rfl
    | 1, h => cases h; rfl
    | 2, h => cases h; rfl
    | 3, h => cases h; rfl
    | 4, h => cases h; rfl
    | 5, h => cases h; rfl
    | 6, h => cases h; rfl
    | 7, h => cases h; exact hcc2 _ _
    | 8, h => cases h; exact hrr2 _ _
    | k + 9, h => cases h) rfl
   refine Z2F (q := fun i _ => mem i [6]) (cast ?_ h2) rfl
   simp [rsI, gF, kil, mem, hcH, hcO, hcD, hcN, gaH, gaR, gx, Z4A, Z3m, shS, sgS, Z4s, sgE, shE, Z1C, renL, ren, Z0p, hk2, hkr, hcr, hcr2, AObj.dead]
 · have h2 := Z1d (m := [0, 1, 2, 3, 4, 7]) (Hc := kil (fun i _ => mem i [5, 6]) 0 (hcH regs l vs a v true 0 cs)) (cargs := gC) h1 (Zb4 rfl) (Zcd rfl rfl (bl1 (ZiI rfl)) (bl1 (Wk.noref rfl)) ⟨⟨rfl, rfl, rfl, rfl, Z6r⟩, trivial⟩) rfl rfl rfl (Z0z rfl) (fun i o h => by
    match i, h with
    | 0, h => cases h; rfl
    | 1, h => cases h; rfl
    | 2, h => cases h; rfl
    | 3, h => cases h; rfl
    | 4, h => cases h; rfl
    | 5, h => cases h; rfl
    | 6, h => cases h; exact hcc2 _ _
    | 7, h => cases h; exact hrr2 _ _
    | k + 8, h => cases h) rfl
   refine Z2F (q := fun i _ => mem i [5, 6]) (cast ?_ h2) rfl
   simp [rsI, gF, kil, mem, hcH, hcO, hcD, hcN, gaH, gaR, gx, Z4A, Z3m, shS, sgS, Z4s, sgE, shE, Z1C, renL, ren, Z0p, hk2, hkr, hcr, hcr2, AObj.dead]
 · have h2 := Z1d (m := [0, 1, 2, 3, 4, 5, 8]) (Hc := kil (fun i _ => mem i [6, 7]) 0 (hcH regs l vs a v true (n + 1) cs)) (cargs := gC) h1 (Zb4 rfl) (Zcd rfl rfl (bl1 (ZiI rfl)) (bl1 (Z1i rfl)) ⟨⟨rfl, rfl, rfl, rfl, Z1L hcs⟩, ⟨rfl, rfl, rfl, rfl, Z6r⟩, trivial⟩) rfl rfl rfl (Z0z rfl) (fun i o h => by
    match i, h with
    | 0, h => cases h; rfl
    | 1, h => cases h; rfl
    | 2, h => cases h; rfl
    | 3, h => cases h; rfl
    | 4, h => cases h; rfl
    | 5, h => cases h; rfl
    | 6, h => cases h; rfl
    | 7, h => cases h; exact hcc2 _ _
    | 8, h => cases h; exact hrr2 _ _
    | k + 9, h => cases h) rfl
   refine Z2F (q := fun i _ => mem i [6, 7]) (cast ?_ h2) rfl
   simp [rsI, gF, kil, mem, hcH, hcO, hcD, hcN, gaH, gaR, gx, Z4A, Z3m, shS, sgS, Z4s, sgE, shE, Z1C, renL, ren, Z0p, hk2, hkr, hcr, hcr2, AObj.dead]
 · have h2 := Z1d (m := [0, 1, 2, 3, 4, 6]) (Hc := kil (fun i _ => mem i [5]) 0 (hcH regs l vs a v false 0 cs)) (cargs := gC) h1 (Zb4 rfl) (Zcd rfl rfl (bl1 (ZiI rfl)) (bl1 (Wk.noref rfl)) ⟨⟨rfl, rfl, rfl, rfl, Z6r⟩, trivial⟩) rfl rfl rfl (Z0z rfl) (fun i o h => by
    match i, h with
    | 0, h => cases h; rfl
    | 1, h => cases h; rfl
    | 2, h => cases h; rfl
    | 3, h => cases h; rfl
    | 4, h => cases h; rfl
    | 5, h => cases h; rfl
    | k + 6, h => cases h) rfl
   refine Z2F (q := fun i _ => mem i [5]) (cast ?_ h2) rfl
   simp [rsI, gF, kil, mem, hcH, hcO, hcD, hcN, gaH, gaR, gx, Z4A, Z3m, shS, sgS, Z4s, sgE, shE, Z1C, renL, ren, Z0p, hk2, hkr, hcr, AObj.dead]
 · have h2 := Z1d (m := [0, 1, 2, 3, 4, 5, 7]) (Hc := kil (fun i _ => mem i [6]) 0 (hcH regs l vs a v false (n + 1) cs)) (cargs := gC) h1 (Zb4 rfl) (Zcd rfl rfl (bl1 (ZiI rfl)) (bl1 (Z1i rfl)) ⟨⟨rfl, rfl, rfl, rfl, Z1L hcs⟩, ⟨rfl, rfl, rfl, rfl, Z6r⟩, trivial⟩) rfl rfl rfl (Z0z rfl) (fun i o h => by
    match i, h with
    | 0, h => cases h; rfl
    | 1, h => cases h; rfl
    | 2, h => cases h; rfl
    | 3, h => cases h; rfl
    | 4, h => cases h; rfl
    | 5, h => cases h; rfl
    | 6, h => cases h; rfl
    | k + 7, h => cases h) rfl
   refine Z2F (q := fun i _ => mem i [6]) (cast ?_ h2) rfl
   simp [rsI, gF, kil, mem, hcH, hcO, hcD, hcN, gaH, gaR, gx, Z4A, Z3m, shS, sgS, Z4s, sgE, shE, Z1C, renL, ren, Z0p, hk2, hkr, hcr, AObj.dead]
 · have h2 := Z1d (m := [0, 1, 2, 3, 4, 7]) (Hc := kil (fun i _ => mem i [5, 6]) 0 (hcH regs l vs a v true 0 cs)) (cargs := gC) h1 (Zb4 rfl) (Zcd rfl rfl (bl1 (ZiI rfl)) (bl1 (Wk.noref rfl)) ⟨⟨rfl, rfl, rfl, rfl, Z6r⟩, trivial⟩) rfl rfl rfl (Z0z rfl) (fun i o h => by
    match i, h with
    | 0, h => cases h; rfl
    | 1, h => cases h; rfl
    | 2, h => cases h; rfl
    | 3, h => cases h; rfl
    | 4, h => cases h; rfl
    | 5, h => cases h; rfl
    | k + 6, h => cases h) rfl
   refine Z2F (q := fun i _ => mem i [5, 6]) (cast ?_ h2) rfl
   simp [rsI, gF, kil, mem, hcH, hcO, hcD, hcN, gaH, gaR, gx, Z4A, Z3m, shS, sgS, Z4s, sgE, shE, Z1C, renL, ren, Z0p, hk2, hkr, hcr, AObj.dead]
 · have h2 := Z1d (m := [0, 1, 2, 3, 4, 5, 8]) (Hc := kil (fun i _ => mem i [6, 7]) 0 (hcH regs l vs a v true (n + 1) cs)) (cargs := gC) h1 (Zb4 rfl) (Zcd rfl rfl (bl1 (ZiI rfl)) (bl1 (Z1i rfl)) ⟨⟨rfl, rfl, rfl, rfl, Z1L hcs⟩, ⟨rfl, rfl, rfl, rfl, Z6r⟩, trivial⟩) rfl rfl rfl (Z0z rfl) (fun i o h => by
    match i, h with
    | 0, h => cases h; rfl
    | 1, h => cases h; rfl
    | 2, h => cases h; rfl
    | 3, h => cases h; rfl
    | 4, h => cases h; rfl
    | 5, h => cases h; rfl
    | 6, h => cases h; rfl
    | k + 7, h => cases h) rfl
   refine Z2F (q := fun i _ => mem i [6, 7]) (cast ?_ h2) rfl
   simp [rsI, gF, kil, mem, hcH, hcO, hcD, hcN, gaH, gaR, gx, Z4A, Z3m, shS, sgS, Z4s, sgE, shE, Z1C, renL, ren, Z0p, hk2, hkr, hcr, AObj.dead]
end Go.Proofs.YteidjbahodbgdaaGreatDoor.lex
end

section
namespace Go.Proofs.YteidjbahodbgdaaGreatDoor.lex
open Go.Abs Go.RowKit Go.Flat
set_option maxRecDepth 100000
set_option maxHeartbeats 4000000
variable {gl : Z0l}
def Zmv (f : Nat) : Bool := Nat.beq f 31 || Nat.beq f 30
def gaL (regs : Int) (l : List Ins) (vs : List Int) : Option (Nat × List AV) -> Z00
 | some (0, cs) => gx regs l vs [] [.nslice] []
 | some (n + 1, cs) => gx regs l vs [] [.slice 5 0 (n + 1) (n + 1) 10] [⟨true, 5, 0, .cells cs 37⟩]
 | none => gx regs l vs [] [] []
def gaZ (regs : Int) (l : List Ins) (vs : List Int) : Option (List Int) -> Option (Nat × List AV) -> Z00
 | some a, F => gaR regs l vs a F
 | none, F => gaL regs l vs F
def aV : Option (List Int) -> Nat -> AV
 | none, _ => .nslice
 | some a, 0 => .slice 5 0 a.length a.length 1
 | some a, n + 1 => .slice 6 0 a.length a.length 1
def gaN : Option (List Int) -> Nat -> Nat
 | none, 0 => 5
 | some _, 0 => 6
 | none, n + 1 => 6
 | some _, n + 1 => 7
theorem Z5r {fs : List Nat} {H X bl : Z00} {m rest : List Nat} {regs : Int} {l : List Ins} {vs : List Int} {cA cA2 cE cE2 : List AV} (hm : m = 0 :: 1 :: 2 :: 3 :: 4 :: rest) (hH : H = gx regs l vs cA cE X) (hA : ∀ ty, BodyGe m (.cells cA ty) (.cells cA2 ty)) (hE : ∀ ty, BodyGe m (.cells cE ty) (.cells cE2 ty)) (hX : HpGeZ fs H m rest bl 5) : HpGeZ fs H m m (gx regs l vs cA2 cE2 bl) 0 := by
 subst hH
 have h : HpGeZ fs (gx regs l vs cA cE X) m (0 :: 1 :: 2 :: 3 :: 4 :: rest) (gx regs l vs cA2 cE2 bl) 0 :=
  ⟨⟨rfl, rfl, rfl, rfl, BodyGe.z (BodyGe.pre (rest := []) rfl rfl)⟩, ⟨rfl, rfl, rfl, rfl, BodyGe.z (BodyGe.pre (rest := []) rfl rfl)⟩, ⟨rfl, rfl, rfl, rfl, BodyGe.z (hA _)⟩, ⟨rfl, rfl, rfl, rfl, BodyGe.z (hE _)⟩, ⟨rfl, rfl, rfl, rfl, BodyGe.z (BodyGe.cellsL ⟨Wk.func trivial ⟨Wk.ptr (by rw [hm]; rfl) rfl, Wk.ptr (by rw [hm]; rfl) rfl, Wk.ptr (by rw [hm]; rfl) rfl, Wk.ptr (by rw [hm]; rfl) rfl, Wk.ptr (by rw [hm]; rfl) rfl, trivial⟩, trivial⟩)⟩, hX⟩
 rw [<- hm] at h
 exact h
theorem Wk.nil0 {m : List Nat} {z : Nat} : Wk m .nslice (.rs 0 z []) := fun sn ι v h => by
 simp only [VR] at h ⊢
 exact .inl ⟨trivial, trivial, h⟩
theorem Zje {regs : Nat} {l : List Ins} {vs : List Int} {a : Option (List Int)} {n : Nat} {cs : List AV} (hc : OkC n cs) {O : Orc} (hO : Z06 Tryz.prog gl O) {st : Flat.Stand} (hfin : st.fin ≠ 0) (hq : st.q = none)
  (q1 : Z04 Tryz.prog O (gaH regs l vs a n cs) 31 [.agg [.int .i64 regs, .rs l.length 6 (inC l)], aV a n] = some (.ptr (gaN a n) 0, gaH regs l vs a n cs ++ shA (gaN a n) (Z1G regs l st))) :
  Z76 Tryz.prog gl 5 30 gC (gaH regs l vs a n cs) (.bool (decide (n < 4096))) (gaZ regs l vs a (if n < 4096 then some (n + 1, cs ++ Z0T st) else none)) := by
 have hT : Z74 Tryz.prog 28 28 = some (37, 10, 112) := by kernel_rfl
 have hlen := hc.len
 have hcs := hc.rf
 have hfew := hc.few
 have h0 : n = 0 -> cs = [] := fun h => List.length_eq_zero_iff.1 (by omega)
 clear hc
 have ef : (st.fin == 0) = false := by simpa using hfin
 obtain ⟨⟨p, r, evs⟩, fin, q, asked⟩ := st
 simp only at hq ef
 subst hq
 clear hfin
 by_cases hn : n < 4096
 · rw [if_pos hn, show decide (n < 4096) = true by simpa using hn]
   rcases a with _ | a <;> rcases n with _ | n <;> rcases evs with _ | ⟨z, evs⟩
   all_goals (try (have h0 := h0 rfl; subst h0))
   all_goals simp only [gaH, gaZ, gaR, gaL, gaN, aV, gx, Z1G, thH, shA, shO, List.map_cons, List.map_nil, grA, grB, Z1C, renL, ren, Z0p, Z0r, List.cons_append, List.nil_append, ef] at *
   all_goals refine Z9Q follows Z09 (Z0K follows Z09 hO 3) rfl Tryz.func30 rfl (Z1j (isC := Zmv) 3) ?_
   all_goals repeat' ((conv => whnf); first | (refine exI q1 ?_) | (refine apS ?_) | (first | refine stp ?_ | with_reducible refine Z01 (fun h => ?_) (fun h => ?_)))
   all_goals (conv => whnf)
   · refine ⟨⟨[6, 7], [0, 1, 2, 3, 4, 10], rfl, Z5r rfl rfl (fun _ => bl0) (bl1 (Z1i rfl)) ⟨⟨rfl, rfl, rfl, rfl, BodyGeZ.app (cs := []) rfl ⟨(.inl Wk.nil0), (.inl (Wk.int rfl)), (.inl (Wk.int rfl)), (.inl (Wk.int rfl)), (.inl (Wk.int rfl)), (.inl (Wk.int rfl)), (.inl (Wk.int rfl)), (.inl (Wk.int rfl)), (.inr (Z02 (n := 28) (b := 6) rfl (Z0d _) (Z0e _))), (.inl (Wk.int rfl)), trivial⟩⟩, trivial⟩, rfl, rfl⟩, ?_⟩
     exact congrArg AV.bool (by first | (simp; done) | (simp; omega))
   · refine ⟨⟨[6, 7], [0, 1, 2, 3, 4, 11], rfl, Z5r rfl rfl (fun _ => bl0) (bl1 (Z1i rfl)) ⟨⟨rfl, rfl, rfl, rfl, BodyGeZ.app (cs := []) rfl ⟨(.inr (Z02 (n := 28) (b := 7) rfl (Z0g _ _) (Z0t _))), (.inl (Wk.int rfl)), (.inl (Wk.int rfl)), (.inl (Wk.int rfl)), (.inl (Wk.int rfl)), (.inl (Wk.int rfl)), (.inl (Wk.int rfl)), (.inl (Wk.int rfl)), (.inr (Z02 (n := 28) (b := 6) rfl (Z0d _) (Z0e _))), (.inl (Wk.int rfl)), trivial⟩⟩, trivial⟩, rfl, rfl⟩, ?_⟩
     exact congrArg AV.bool (by first | (simp; done) | (simp; omega))
   · refine ⟨⟨[7, 8], [0, 1, 2, 3, 4, 11], rfl, Z5r rfl rfl (fun _ => bl0) (bl1 (Z1i rfl)) ⟨⟨rfl, rfl, rfl, rfl, BodyGeZ.app hcs ⟨(.inl Wk.nil0), (.inl (Wk.int rfl)), (.inl (Wk.int rfl)), (.inl (Wk.int rfl)), (.inl (Wk.int rfl)), (.inl (Wk.int rfl)), (.inl (Wk.int rfl)), (.inl (Wk.int rfl)), (.inr (Z02 (n := 28) (b := 7) rfl (Z0d _) (Z0e _))), (.inl (Wk.int rfl)), trivial⟩⟩, trivial⟩, rfl, rfl⟩, ?_⟩
     exact congrArg AV.bool (by first | (simp; done) | (simp; omega))
   · refine ⟨⟨[7, 8], [0, 1, 2, 3, 4, 12], rfl, Z5r rfl rfl (fun _ => bl0) (bl1 (Z1i rfl)) ⟨⟨rfl, rfl, rfl, rfl, BodyGeZ.app hcs ⟨(.inr (Z02 (n := 28) (b := 8) rfl (Z0g _ _) (Z0t _))), (.inl (Wk.int rfl)), (.inl (Wk.int rfl)), (.inl (Wk.int rfl)), (.inl (Wk.int rfl)), (.inl (Wk.int rfl)), (.inl (Wk.int rfl)), (.inl (Wk.int rfl)), (.inr (Z02 (n := 28) (b := 7) rfl (Z0d _) (Z0e _))), (.inl (Wk.int rfl)), trivial⟩⟩, trivial⟩, rfl, rfl⟩, ?_⟩
     exact congrArg AV.bool (by first | (simp; done) | (simp; omega))
   · refine ⟨⟨[7, 8], [0, 1, 2, 3, 4, 11, 5], rfl, Z5r rfl rfl (bl1 (Z1i rfl)) (bl1 (Z1i rfl)) ⟨⟨rfl, rfl, rfl, rfl, BodyGeZ.app (cs := []) rfl ⟨(.inl Wk.nil0), (.inl (Wk.int rfl)), (.inl (Wk.int rfl)), (.inl (Wk.int rfl)), (.inl (Wk.int rfl)), (.inl (Wk.int rfl)), (.inl (Wk.int rfl)), (.inl (Wk.int rfl)), (.inr (Z02 (n := 28) (b := 7) rfl (Z0d _) (Z0e _))), (.inl (Wk.int rfl)), trivial⟩⟩, ⟨rfl, rfl, rfl, rfl, ks_pre.z⟩, trivial⟩, rfl, rfl⟩, ?_⟩
     exact congrArg AV.bool (by first | (simp; done) | (simp; omega))
   · refine ⟨⟨[7, 8], [0, 1, 2, 3, 4, 12, 5], rfl, Z5r rfl rfl (bl1 (Z1i rfl)) (bl1 (Z1i rfl)) ⟨⟨rfl, rfl, rfl, rfl, BodyGeZ.app (cs := []) rfl ⟨(.inr (Z02 (n := 28) (b := 8) rfl (Z0g _ _) (Z0t _))), (.inl (Wk.int rfl)), (.inl (Wk.int rfl)), (.inl (Wk.int rfl)), (.inl (Wk.int rfl)), (.inl (Wk.int rfl)), (.inl (Wk.int rfl)), (.inl (Wk.int rfl)), (.inr (Z02 (n := 28) (b := 7) rfl (Z0d _) (Z0e _))), (.inl (Wk.int rfl)), trivial⟩⟩, ⟨rfl, rfl, rfl, rfl, ks_pre.z⟩, trivial⟩, rfl, rfl⟩, ?_⟩
     exact congrArg AV.bool (by first | (simp; done) | (simp; omega))
   · refine ⟨⟨[8, 9], [0, 1, 2, 3, 4, 12, 6], rfl, Z5r rfl rfl (bl1 (Z1i rfl)) (bl1 (Z1i rfl)) ⟨⟨rfl, rfl, rfl, rfl, BodyGeZ.app hcs ⟨(.inl Wk.nil0), (.inl (Wk.int rfl)), (.inl (Wk.int rfl)), (.inl (Wk.int rfl)), (.inl (Wk.int rfl)), (.inl (Wk.int rfl)), (.inl (Wk.int rfl)), (.inl (Wk.int rfl)), (.inr (Z02 (n := 28) (b := 8) rfl (Z0d _) (Z0e _))), (.inl (Wk.int rfl)), trivial⟩⟩, ⟨rfl, rfl, rfl, rfl, ks_pre.z⟩, trivial⟩, rfl, rfl⟩, ?_⟩
     exact congrArg AV.bool (by first | (simp; done) | (simp; omega))
   · refine ⟨⟨[8, 9], [0, 1, 2, 3, 4, 13, 6], rfl, Z5r rfl rfl (bl1 (Z1i rfl)) (bl1 (Z1i rfl)) ⟨⟨rfl, rfl, rfl, rfl, BodyGeZ.app hcs ⟨(.inr (Z02 (n := 28) (b := 9) rfl (Z0g _ _) (Z0t _))), (.inl (Wk.int rfl)), (.inl (Wk.int rfl)), (.inl (Wk.int rfl)), (.inl (Wk.int rfl)), (.inl (Wk.int rfl)), (.inl (Wk.int rfl)), (.inl (Wk.int rfl)), (.inr (Z02 (n := 28) (b := 8) rfl (Z0d _) (Z0e _))), (.inl (Wk.int rfl)), trivial⟩⟩, ⟨rfl, rfl, rfl, rfl, ks_pre.z⟩, trivial⟩, rfl, rfl⟩, ?_⟩
     exact congrArg AV.bool (by first | (simp; done) | (simp; omega))
 · rw [if_neg hn, show decide (n < 4096) = false by simpa using hn]
   rcases a with _ | a <;> rcases n with _ | n <;> rcases evs with _ | ⟨z, evs⟩
   all_goals simp only [gaH, gaZ, gaR, gaL, gaN, aV, gx, Z1G, thH, shA, shO, List.map_cons, List.map_nil, grA, grB, Z1C, renL, ren, Z0p, Z0r, List.cons_append, List.nil_append, ef] at *
   all_goals refine Z9Q follows Z09 (Z0K follows Z09 hO 3) rfl Tryz.func30 rfl (Z1j (isC := Zmv) 3) ?_
   all_goals repeat' ((conv => whnf); first | (refine exI q1 ?_) | (refine apS ?_) | (first | refine stp ?_ | with_reducible refine Z01 (fun h => ?_) (fun h => ?_)))
   all_goals (conv => whnf)
   all_goals exact ⟨⟨[], [0, 1, 2, 3, 4], rfl, Z5r rfl rfl (fun _ => bl0) (fun _ => bl0) trivial, rfl, rfl⟩, congrArg AV.bool (by first | (simp; done) | (simp; omega))⟩
end Go.Proofs.YteidjbahodbgdaaGreatDoor.lex
end

section
namespace Go.Proofs.YteidjbahodbgdaaGreatDoor.lex
open Go.Abs Go.RowKit Go.Flat
set_option maxRecDepth 100000
set_option maxHeartbeats 4000000
variable {gl : Z0l}
structure Gs where
 i : Nat
 f : Bool
 n : Nat
 cs : List AV
theorem Zgf {m : List Nat} {a : List Int} {v : Int} {ty : TypeId} : BodyGe m (.cells (ksC a ++ [.int .i64 v]) ty) (.cells (ksC a) ty) := BodyGe.pre (rest := [.int .i64 v]) rfl (Z0R _)
theorem Zfa {m : List Nat} {b b2 n : Nat} (h : m[b2]? = some b) : Wk m (.slice b 0 n (n + 1) 1) (.slice b2 0 n n 1) := Wk.slice h rfl rfl (Nat.le_refl _) (Nat.le_succ _) rfl
theorem ZkK {regs : Nat} {l : List Ins} {vs : List Int} {a : Option (List Int)} {n : Nat} {cs : List AV} (hc : OkC n cs) (hvs : vs.length <= 1000) (hal : (a.getD []).length <= 5000) {O : Orc} (hO : Z06 Tryz.prog gl O) {st : Flat.Stand} (hfin : st.fin = 0) {g : Int -> Nat × List AV -> Option (Nat × List AV)}
  (hg : ∀ v o o', OkC o.1 o.2 -> v ∈ vs -> g v o = some o' -> OkC o'.1 o'.2 /\ 0 < o'.1)
  (q1 : Z04 Tryz.prog O (gaH regs l vs a n cs) 31 [.agg [.int .i64 regs, .rs l.length 6 (inC l)], aV a n] = some (.ptr (gaN a n) 0, gaH regs l vs a n cs ++ shA (gaN a n) (Z1G regs l st)))
  (q2 : ∀ sh v n cs, OkC n cs -> v ∈ vs -> Z04 Tryz.prog O (hcH regs l vs (a.getD []) v sh n cs) 30 gC = some (.bool (g v (n, cs)).isSome, hcO regs l vs (a.getD []) v sh n (g v (n, cs)))) :
  Z76 Tryz.prog gl 5 30 gC (gaH regs l vs a n cs) (.bool (Z2Y g vs (n, cs)).isSome) (gaZ regs l vs a (Z2Y g vs (n, cs))) := by
 have hT : Z74 Tryz.prog 25 25 = some (2, 1, 8) := by kernel_rfl
 have ef : (st.fin == 0) = true := by simp [hfin]
 have hI0 : 0 <= vs.length /\ OkC n cs /\ Z2Y g (vs.drop 0) (n, cs) = Z2Y g vs (n, cs) /\ (a.isSome = false -> a = none) := ⟨Nat.zero_le _, hc, by rw [List.drop_zero], fun h => by cases a with | none => rfl | some _ => cases h⟩
 generalize hF : Z2Y g vs (n, cs) = F at hI0 ⊢
 clear hF
 have hcs := hc.rf
 obtain ⟨a0, ha0⟩ : ∃ a0, a0 = a.getD [] := ⟨_, rfl⟩
 obtain ⟨Pf, hPf⟩ : ∃ Pf : Bool -> Prop, Pf = fun f => f = false -> a = none := ⟨_, rfl⟩
 have hI0 : 0 <= vs.length /\ OkC n cs /\ Z2Y g (vs.drop 0) (n, cs) = F /\ Pf a.isSome := ⟨hI0.1, hI0.2.1, hI0.2.2.1, by rw [hPf]; exact hI0.2.2.2⟩
 rw [<- ha0] at q2 hal
 refine Z9Q follows Z09 (Z0K follows Z09 hO 3) rfl Tryz.func30 rfl (Z1j (isC := Zmv) 3) ?_
 obtain ⟨⟨p, r, evs⟩, fin, q, asked⟩ := st
 simp only at ef
 clear hfin hc
 rcases a with _ | a
 case' none =>
  rcases n with _ | n
  all_goals rcases evs with _ | ⟨z, evs⟩
  all_goals simp only [gaH, gaN, aV, gx, Z1G, thH, shA, shO, List.map_cons, List.map_nil, grA, grB, Z1C, renL, ren, Z0p, Z0r, List.cons_append, List.nil_append, ef] at q1 ⊢
  all_goals repeat' ((conv => whnf); first | (refine exI q1 ?_) | (first | refine stp ?_ | with_reducible refine Z01 (fun h => ?_) (fun h => ?_)))
  all_goals (conv => whnf)
  all_goals refine ⟨Gs, (fun s => s.i <= vs.length /\ OkC s.n s.cs /\ Z2Y g (vs.drop s.i) (s.n, s.cs) = F /\ Pf s.f), (fun s => [(1, .ptr 2 0), (4, .ptr 4 0), (25, rsI vs), (26, .int .i64 vs.length), (27, .int .i64 (s.i : Nat))]), (fun s => gaH regs l vs (cond s.f (some a0) none) s.n s.cs), (fun s => vs.length - s.i), ⟨⟨0, false, _, cs⟩, hI0, ?_⟩, ?_⟩
  all_goals (try (first
   | (refine FgLK.mk [0, 1, 2, 3, 4] rfl rfl ?_ (Zcd rfl rfl (bl1 (Wk.noref rfl)) (bl1 (Wk.noref rfl)) trivial) rfl; (repeat (first | exact trivial | refine stw ?_)))
   | (refine FgLK.mk [0, 1, 2, 3, 4, 5] rfl rfl ?_ (Zcd rfl rfl (bl1 (Wk.noref rfl)) (bl1 (Z1i rfl)) ⟨⟨rfl, rfl, rfl, rfl, Z1L hcs⟩, trivial⟩) rfl; (repeat (first | exact trivial | refine stw ?_)))))
 case' some =>
  rcases n with _ | n
  all_goals rcases evs with _ | ⟨z, evs⟩
  all_goals simp only [gaH, gaN, aV, gx, Z1G, thH, shA, shO, List.map_cons, List.map_nil, grA, grB, Z1C, renL, ren, Z0p, Z0r, List.cons_append, List.nil_append, ef, Option.getD_some] at q1 ha0 ⊢
  all_goals repeat' ((conv => whnf); first | (refine exI q1 ?_) | (first | refine stp ?_ | with_reducible refine Z01 (fun h => ?_) (fun h => ?_)))
  all_goals (conv => whnf)
  all_goals refine ⟨Gs, (fun s => s.i <= vs.length /\ OkC s.n s.cs /\ Z2Y g (vs.drop s.i) (s.n, s.cs) = F /\ Pf s.f), (fun s => [(1, .ptr 2 0), (4, .ptr 4 0), (25, rsI vs), (26, .int .i64 vs.length), (27, .int .i64 (s.i : Nat))]), (fun s => gaH regs l vs (cond s.f (some a0) none) s.n s.cs), (fun s => vs.length - s.i), ⟨⟨0, true, _, cs⟩, hI0, ?_⟩, ?_⟩
  all_goals (try (first
   | (rw [ha0]; refine FgLK.mk [0, 1, 2, 3, 4, 5] rfl rfl ?_ (Zcd rfl rfl (bl1 (Z1i rfl)) (bl1 (Wk.noref rfl)) ⟨⟨rfl, rfl, rfl, rfl, ks_pre⟩, trivial⟩) rfl; (repeat (first | exact trivial | refine stw ?_)))
   | (rw [ha0]; refine FgLK.mk [0, 1, 2, 3, 4, 5, 6] rfl rfl ?_ (Zcd rfl rfl (bl1 (Z1i rfl)) (bl1 (Z1i rfl)) ⟨⟨rfl, rfl, rfl, rfl, Z1L hcs⟩, ⟨rfl, rfl, rfl, rfl, ks_pre⟩, trivial⟩) rfl; (repeat (first | exact trivial | refine stw ?_)))))
  all_goals subst ha0
 all_goals (
  clear hI0 q1 ef hcs
  rintro ⟨i, f, n1, c1⟩ ⟨hi, hc, hf, hfa⟩
  dsimp only at hi hc hf hfa
  (try dsimp only)
  rw [hPf] at hfa
  have hlen := hc.len
  have hcs := hc.rf
  have hfew := hc.few
  have h0 : n1 = 0 -> c1 = [] := fun h => List.length_eq_zero_iff.1 (by omega)
  by_cases hlt : i < vs.length
  · have e1 : decide ((i : Int) < (vs.length : Int)) = true := by simpa using hlt
    have hx : ∀ off, off = i -> tk 1 ((ksC vs).drop off) = some [.int .i64 vs[i]] := fun off e => Z11 _ vs i hlt e
    have hkl : (ksC a0).length = a0.length * 1 := Z0d a0
    have hko : (ksC a0).all Go.Abs.one = true := by simp [ksC, Go.Abs.one]
    have hv : vs[i] ∈ vs := List.getElem_mem hlt
    have wa : IntKind.i64.wrap ((i : Int) + 1) = ((i + 1 : Nat) : Int) := Z2n (by omega)
    have wk : ∀ k : Nat, k <= 5000 -> IntKind.i64.wrap (((k + 1 : Nat) : Int) - 1) = (k : Int) := fun k h => by rw [Zmk (by omega)]; omega
    rw [List.drop_eq_getElem_cons hlt] at hf
    simp only [Z2Y] at hf
    have q := q2 f vs[i] n1 c1 hc hv
    have hok := fun o' => hg vs[i] (n1, c1) o' hc hv
    clear q2 hg
    generalize vs[i] = v at *
    generalize hgv : g v (n1, c1) = G at *
    clear hgv
    rcases G with _ | ⟨n2, c2⟩
    · simp only at hf
      subst hf
      clear hok
      cases f
      case' false => (simp at hfa) <;> (simp only [Option.getD_none] at ha0; subst ha0)
      all_goals clear hPf
      all_goals rcases n1 with _ | n1
      all_goals simp only [hcH, hcO, hcD, hcN, gaH, gx, cond_true, cond_false, List.cons_append, List.nil_append, List.length_nil, Nat.zero_add, Option.isSome_none] at q ⊢
      all_goals repeat' ((conv => whnf); first | (refine exI q ?_) | (refine exI (hx _ (by omega)) ?_) | (with_reducible refine ixJ i rfl ?_ ?_; (focus (omega))) | (refine apS ?_) | (first | refine stp ?_ | with_reducible refine Z01 (fun h => ?_) (fun h => ?_)))
      all_goals (conv => whnf)
      all_goals exact ⟨⟨[], [0, 1, 2, 3, 4], rfl, Z5r rfl rfl (fun _ => bl0) (fun _ => bl0) trivial, rfl, rfl⟩, rfl⟩
    · simp only at hf
      have hok := hok _ rfl
      obtain ⟨hok, hpos⟩ := hok
      simp only at hok hpos
      obtain ⟨n2, rfl⟩ : ∃ k, n2 = k + 1 := ⟨n2 - 1, by omega⟩
      have hcs2 := hok.rf
      cases f
      case' false => (simp at hfa) <;> (simp only [Option.getD_none] at ha0; subst ha0)
      all_goals rcases n1 with _ | n1
      all_goals simp only [hcH, hcO, hcD, hcN, gaH, gx, cond_true, cond_false, List.cons_append, List.nil_append, List.length_nil, Nat.zero_add, Option.isSome_some] at q ⊢
      all_goals repeat' ((conv => whnf); first | (refine exI q ?_) | (refine exI (hx _ (by omega)) ?_) | (with_reducible refine exW wa ?_) | (with_reducible refine exW (wk _ (by omega)) ?_) | (with_reducible refine ixJ i rfl ?_ ?_; (focus (omega))) | (refine apS ?_) | (first | refine stp ?_ | with_reducible refine Z01 (fun h => ?_) (fun h => ?_)))
      all_goals (conv => whnf)
      all_goals refine ⟨⟨i + 1, true, n2 + 1, c2⟩, ⟨hlt, hok, hf, by rw [hPf]; intro h; cases h⟩, by show vs.length - (i + 1) < vs.length - i; omega, ?_⟩
      all_goals first
       | (refine FgLK.mk [0, 1, 2, 3, 4, 7, 8] rfl rfl ?_ (Zcd rfl rfl (bl1 (Zfa rfl)) (bl1 (Z1i rfl)) ⟨⟨rfl, rfl, rfl, rfl, Z1L hcs2⟩, ⟨rfl, rfl, rfl, rfl, Zgf⟩, trivial⟩) rfl; (repeat (first | exact trivial | refine stw ?_)))
       | (refine FgLK.mk [0, 1, 2, 3, 4, 8, 9] rfl rfl ?_ (Zcd rfl rfl (bl1 (Zfa rfl)) (bl1 (Z1i rfl)) ⟨⟨rfl, rfl, rfl, rfl, Z1L hcs2⟩, ⟨rfl, rfl, rfl, rfl, Zgf⟩, trivial⟩) rfl; (repeat (first | exact trivial | refine stw ?_)))
       | (refine FgLK.mk [0, 1, 2, 3, 4, 9, 10] rfl rfl ?_ (Zcd rfl rfl (bl1 (Zfa rfl)) (bl1 (Z1i rfl)) ⟨⟨rfl, rfl, rfl, rfl, Z1L hcs2⟩, ⟨rfl, rfl, rfl, rfl, Zgf⟩, trivial⟩) rfl; (repeat (first | exact trivial | refine stw ?_)))
  · have e1 : decide ((i : Int) < (vs.length : Int)) = false := by simpa using hlt
    rw [List.drop_eq_nil_of_le (by omega)] at hf
    simp only [Z2Y] at hf
    clear q2 hg
    subst hf
    rcases f with _ | _
    all_goals (try (simp at hfa; done))
    all_goals rcases n1 with _ | n1
    all_goals simp only [gaH, gaZ, gaR, gaL, gx, cond_true, cond_false]
    all_goals repeat' ((conv => whnf); first | (first | refine stp ?_ | with_reducible refine Z01 (fun h => ?_) (fun h => ?_)))
    all_goals (conv => whnf)
    all_goals first
     | exact ⟨⟨[], [0, 1, 2, 3, 4], rfl, Z5r rfl rfl (fun _ => bl0) (bl1 (Wk.noref rfl)) trivial, rfl, rfl⟩, rfl⟩
     | exact ⟨⟨[], [0, 1, 2, 3, 4, 5], rfl, Z5r rfl rfl (fun _ => bl0) (bl1 (Z1i rfl)) ⟨⟨rfl, rfl, rfl, rfl, BodyGe.z (Z1L hcs)⟩, trivial⟩, rfl, rfl⟩, rfl⟩
     | exact ⟨⟨[], [0, 1, 2, 3, 4, 5], rfl, Z5r rfl rfl (bl1 (Z1i rfl)) (bl1 (Wk.noref rfl)) ⟨⟨rfl, rfl, rfl, rfl, BodyGe.z ks_pre⟩, trivial⟩, rfl, rfl⟩, rfl⟩
     | exact ⟨⟨[], [0, 1, 2, 3, 4, 5, 6], rfl, Z5r rfl rfl (bl1 (Z1i rfl)) (bl1 (Z1i rfl)) ⟨⟨rfl, rfl, rfl, rfl, BodyGe.z (Z1L hcs)⟩, ⟨rfl, rfl, rfl, rfl, BodyGe.z ks_pre⟩, trivial⟩, rfl, rfl⟩, rfl⟩)
end Go.Proofs.YteidjbahodbgdaaGreatDoor.lex
end

section
namespace Go.Flat
variable {α : Type} (ev : α -> List Int -> Int) (wr : Int -> Int) (ins : Nat -> In α) (f : Nat) (s0 : Th) (vals : List Int)
def Z8h (g : Int -> List Stand -> Option (List Stand)) : List Int -> List Stand -> Option (List Stand)
 | [], out => some out
 | v :: l, out => match g v out with | some o => Z8h g l o | none => none
def gat : Nat -> List Int -> List Stand -> Option (List Stand)
 | 0, az, out => if (go ev wr ins f az s0 0).fin = 0 then none else if out.length < 4096 then some (out ++ [go ev wr ins f az s0 0]) else none
 | d + 1, az, out => if (go ev wr ins f az s0 0).fin = 0 then Z8h (fun v o => gat d (az ++ [v]) o) vals out else if out.length < 4096 then some (out ++ [go ev wr ins f az s0 0]) else none
theorem Ziy {i : In α} {s : Th} (h : stp ev i s = .asks) (at_ : Nat) : at_ + 1 ∈ nxI i at_ := by
 unfold stp at h
 unfold nxI
 simp only at h
 split at h
 · cases h
 split at h
 · cases h
 split at h
 · cases h
 split at h
 · split at h <;> cases h
 split at h
 · split at h <;> cases h
 split at h
 · cases h
 split at h
 · split at h <;> cases h
 split at h
 · cases h
 split at h
 · cases h
 · rename_i h1 h2 h3 h4 h5 h6 h7 h8 h9
   simp [h6, h7, h8, h9]
theorem Zbr {rank : Nat -> Nat} (hr : ∀ v w, Rch (nxC ins) v -> w ∈ nxC ins v -> rank w < rank v) : ∀ (f : Nat) (s : Th), Rch (nxC ins) s.at_ -> rank (adv ev ins f s).1.at_ <= rank s.at_
 | 0, s, _ => Nat.le_refl _
 | f + 1, s, hs => by
  unfold adv
  cases hst : stp ev (ins s.at_) s with
  | on t =>
   have hn : t.at_ ∈ nxC ins s.at_ := Z6l ev hst
   have h1 := hr _ _ hs hn
   have h2 := Zbr hr f t (.next hs hn)
   simp only; omega
  | ends e => exact Nat.le_refl _
  | asks => exact Nat.le_refl _
theorem Zdw {rank : Nat -> Nat} (hr : ∀ v w, Rch (nxC ins) v -> w ∈ nxC ins v -> rank w < rank v) (hf : ∀ v, Rch (nxC ins) v -> rank v < f) : ∀ (l : List Int) (s : Th) (n : Nat), Rch (nxC ins) s.at_ -> rank s.at_ < l.length -> (go ev wr ins f l s n).fin ≠ 0
 | [], s, n, _, h => absurd h (Nat.not_lt_zero _)
 | v :: l, s, n, hs, h => by
  have h1 := Z75 ev ins hr f s hs (hf _ hs)
  have h2 := Zbr ev ins hr f s hs
  have h3 := Z42 ev ins f s
  cases ha : adv ev ins f s with
  | mk t o =>
   rw [ha] at h1 h2 h3
   cases o with
   | some e => simp only [go, ha]; exact h3 e rfl
   | none =>
    have h4 : (Z1k ev wr (ins t.at_) t v).at_ ∈ nxC ins t.at_ := Ziy ev h1.2 t.at_
    have h5 := hr _ _ h1.1 h4
    simp only [go, ha]
    exact Zdw hr hf l _ _ (.next h1.1 h4) (by simp only [List.length_cons] at h; simp only at h2 h5; omega)
end Go.Flat
end

section
namespace Go.Proofs.YteidjbahodbgdaaGreatDoor.lex
open Go.Abs Go.RowKit Go.Flat
set_option maxRecDepth 100000
set_option maxHeartbeats 4000000
variable {gl : Z0l}
theorem ZjL {regs : Nat} {l : List Ins} (hr : Runs regs l) (ha : Acy (nxL l) l.length) (h16 : regs <= 16) (vs a : List Int) (hal : a.length <= 5000) {n : Nat} {cs : List AV} (hc : OkC n cs) :
  Z1O Tryz.prog gl 31 [.agg [.int .i64 regs, .rs l.length 6 (inC l)], aV (some a) n] (gaH regs l vs (some a) n cs) (.ptr (gaN (some a) n) 0) (gaH regs l vs (some a) n cs ++ shA (gaN (some a) n) (Z1G regs l (goI l a (th0 regs) 0))) := by
 have h := ZjJ (gl := gl) hr ha h16 a hal
 generalize goI l a (th0 regs) 0 = M at *
 have hg := fun (i : Nat) (o : AObj) (h : (rnH a regs l M)[i]? = some o) => (ZfH h).2.2
 obtain ⟨⟨p, r, evs⟩, fin, q, asked⟩ := M
 have hcr := hc.rn
 rcases n with _ | n
 · have h2 := Z1d (m := [5]) (Hc := gaH regs l vs (some a) 0 cs) (cargs := [.agg [.int .i64 regs, .rs l.length 6 (inC l)], aV (some a) 0]) h (Wk.tuple ⟨Wk.noref rfl, Z1i rfl, trivial⟩) ⟨⟨rfl, rfl, rfl, rfl, ks_pre⟩, trivial⟩ rfl rfl (by cases evs <;> rfl) (Z0z rfl) hg (by cases evs <;> rfl)
   refine cast ?_ h2
   rcases evs with _ | ⟨z, evs⟩ <;> simp [rsI, gF, gaH, gaN, aV, gx, rnH, Z1G, thH, grA, grB, shA, shO, Z4A, Z3m, shS, sgS, Z1C, renL, ren, Z0p, Z0r, hcr, Zf7]
 · have h2 := Z1d (m := [6]) (Hc := gaH regs l vs (some a) (n + 1) cs) (cargs := [.agg [.int .i64 regs, .rs l.length 6 (inC l)], aV (some a) (n + 1)]) h (Wk.tuple ⟨Wk.noref rfl, Z1i rfl, trivial⟩) ⟨⟨rfl, rfl, rfl, rfl, ks_pre⟩, trivial⟩ rfl rfl (by cases evs <;> rfl) (Z0z rfl) hg (by cases evs <;> rfl)
   refine cast ?_ h2
   rcases evs with _ | ⟨z, evs⟩ <;> simp [rsI, gF, gaH, gaN, aV, gx, rnH, Z1G, thH, grA, grB, shA, shO, Z4A, Z3m, shS, sgS, Z1C, renL, ren, Z0p, Z0r, hcr, Zf7]
theorem Zki {regs : Int} {l : List Ins} {vs a : List Int} {v v' : Int} {sh sh' : Bool} {n n' : Nat} {cs cs' : List AV} (hc : OkC n cs) (hc' : OkC n' cs') (h : hcH regs l vs a v sh n cs = hcH regs l vs a v' sh' n' cs') : sh = sh' /\ v = v' /\ n = n' /\ cs = cs' := by
 have h0 : n = 0 -> cs = [] := fun h => List.length_eq_zero_iff.1 (by have := hc.len; omega)
 have h0' : n' = 0 -> cs' = [] := fun h => List.length_eq_zero_iff.1 (by have := hc'.len; omega)
 rcases sh with _ | _ <;> rcases sh' with _ | _ <;> rcases n with _ | n <;> rcases n' with _ | n' <;> simp [hcH, gx] at h
 · exact ⟨rfl, h, rfl, by rw [h0 rfl, h0' rfl]⟩
 · obtain ⟨h1, h2, h3⟩ := h
   exact ⟨rfl, h3, by omega, h2⟩
 · exact ⟨rfl, h, rfl, by rw [h0 rfl, h0' rfl]⟩
 · obtain ⟨h1, h2, h3⟩ := h
   exact ⟨rfl, h3, by omega, h2⟩
theorem Zlw {regs : Nat} {l : List Ins} {st : Flat.Stand} (h : ZcH Tryz.prog gl 31 [.agg [.int .i64 regs, .rs l.length 6 (inC l)], rsI []] (.ptr 0 0) (Z1G regs l st)) : ZcH Tryz.prog gl 31 [.agg [.int .i64 regs, .rs l.length 6 (inC l)], .nslice] (.ptr 0 0) (Z1G regs l st) := by
 intro sn W cargs hg hR ha
 refine h sn W cargs hg hR ?_
 simp only [LR] at ha ⊢
 obtain ⟨v, vs, rfl, h1, v2, vs2, rfl, h2, h3⟩ := ha
 exact ⟨v, _, rfl, h1, v2, _, rfl, Z0X h2, h3⟩
theorem Zkm {regs : Nat} {l : List Ins} {vs : List Int} (hr : Runs regs l) (ha : Acy (nxL l) l.length) (h16 : regs <= 16) (a : Option (List Int)) (hal : (a.getD []).length <= 5000) {n : Nat} {cs : List AV} (hc : OkC n cs) (Q : Prop) {g : Int -> Nat × List AV -> Option (Nat × List AV)}
  (hin : ∀ sh v n cs, Q -> OkC n cs -> v ∈ vs -> Z1O Tryz.prog gl 30 gC (hcH regs l vs (a.getD []) v sh n cs) (.bool (g v (n, cs)).isSome) (hcO regs l vs (a.getD []) v sh n (g v (n, cs)))) :
  ∃ O, Z06 Tryz.prog gl O /\ Z04 Tryz.prog O (gaH regs l vs a n cs) 31 [.agg [.int .i64 regs, .rs l.length 6 (inC l)], aV a n] = some (.ptr (gaN a n) 0, gaH regs l vs a n cs ++ shA (gaN a n) (Z1G regs l (goI l (a.getD []) (th0 regs) 0))) /\
   ∀ sh v n cs, Q -> OkC n cs -> v ∈ vs -> Z04 Tryz.prog O (hcH regs l vs (a.getD []) v sh n cs) 30 gC = some (.bool (g v (n, cs)).isSome, hcO regs l vs (a.getD []) v sh n (g v (n, cs))) := by
 let FM : FamM Tryz.prog gl := { I := Bool × Int × Nat × List AV, f := 30, G := fun i => Q /\ OkC i.2.2.1 i.2.2.2 /\ i.2.1 ∈ vs, A := fun i => gC, H := fun i => hcH regs l vs (a.getD []) i.2.1 i.1 i.2.2.1 i.2.2.2, R := fun i => .bool (g i.2.1 (i.2.2.1, i.2.2.2)).isSome, O := fun i => hcO regs l vs (a.getD []) i.2.1 i.1 i.2.2.1 (g i.2.1 (i.2.2.1, i.2.2.2)), body := (by kernel_rfl), inj := (fun i j h1 h2 _ h => by obtain ⟨e1, e2, e3, e4⟩ := Zki h1.2.1 h2.2.1 h; rw [e1, e2, e3, e4]; exact ⟨rfl, rfl⟩), ok := fun i h => hin _ _ _ _ h.1 h.2.1 h.2.2 }
 cases a with
 | none =>
  obtain ⟨O1, hO1, ⟨p1, -⟩, -⟩ := Z6G (P := Tryz.prog) (gl := gl) [FM] [] rfl
  have halive : ∀ o ∈ Z1G regs l (goI l [] (th0 regs) 0), o.alive = true := fun o ho => by
   obtain ⟨i, hi⟩ := List.getElem?_of_mem ho
   exact (Z2R hi).2.2.1
  obtain ⟨O, hO, q0, hoth⟩ := Z5v (P := Tryz.prog) (gl := gl) { I := Unit, f := 31, G := fun _ => True, A := fun _ => [.agg [.int .i64 regs, .rs l.length 6 (inC l)], .nslice], R := fun _ => .ptr 0 0, N := fun _ => Z1G regs l (goI l [] (th0 regs) 0), body := (by kernel_rfl), inj := fun _ _ _ _ _ => ⟨rfl, rfl⟩, ok := fun _ _ => ⟨rfl, halive, Zlw (ZfD hr ha h16 [] (Nat.zero_le _))⟩ } hO1
  refine ⟨O, hO, ?_, fun sh v n cs hQ h1 h2 => (hoth _ (by show (30 : Nat) ≠ 31; decide) _ _).trans (p1 (sh, v, n, cs) ⟨hQ, h1, h2⟩)⟩
  have := q0 () trivial (gaH regs l vs none n cs)
  cases n
  · exact this
  · exact this
 | some a =>
  obtain ⟨O, hO, ⟨p1, p2, -⟩, -⟩ := Z6G (P := Tryz.prog) (gl := gl) [FM, { I := Unit, f := 31, G := fun _ => True, A := fun _ => [.agg [.int .i64 regs, .rs l.length 6 (inC l)], aV (some a) n], H := fun _ => gaH regs l vs (some a) n cs, R := fun _ => .ptr (gaN (some a) n) 0, O := fun _ => gaH regs l vs (some a) n cs ++ shA (gaN (some a) n) (Z1G regs l (goI l a (th0 regs) 0)), body := (by kernel_rfl), inj := (fun _ _ _ _ _ _ => ⟨rfl, rfl⟩), ok := fun _ _ => ZjL hr ha h16 vs a hal hc }] [] rfl
  exact ⟨O, hO, p2 () trivial, fun sh v n cs hQ h1 h2 => p1 (sh, v, n, cs) ⟨hQ, h1, h2⟩⟩
theorem Zkl {regs : Nat} {l : List Ins} {vs : List Int} (hr : Runs regs l) (ha : Acy (nxL l) l.length) (h16 : regs <= 16) (hvs : vs.length <= 1000) : ∀ (d : Nat) (a : Option (List Int)) (n : Nat) (cs : List AV), OkC n cs -> (a.getD []).length + d = l.length ->
  Z76 Tryz.prog gl 5 30 gC (gaH regs l vs a n cs) (.bool (Z6t (fun az => goI l az (th0 regs) 0) vs d (a.getD []) (n, cs)).isSome) (gaZ regs l vs a (Z6t (fun az => goI l az (th0 regs) 0) vs d (a.getD []) (n, cs))) := by
 have hfew := hr.good.few
 obtain ⟨rank, hrank⟩ := id ha
 have hend : ∀ az : List Int, l.length <= az.length -> (goI l az (th0 regs) 0).fin ≠ 0 := fun az h => Zdw evF wrI (Z0h l) l.length hrank.2 hrank.1 az (th0 regs) 0 .zero (by have := hrank.1 0 .zero; show rank 0 < _; omega)
 have hq : ∀ az : List Int, (goI l az (th0 regs) 0).fin ≠ 0 -> (goI l az (th0 regs) 0).q = none := fun az h => ((Zb2 evF wrI (Z0h l) (f := l.length) hrank.2 hrank.1 az (th0 regs) 0 .zero).ends h).2
 clear hrank rank
 intro d
 induction d with
 | zero =>
  intro a n cs hc hd
  have hf := hend (a.getD []) (by omega)
  obtain ⟨O, hO, q1, -⟩ := Zkm (gl := gl) (vs := vs) hr ha h16 a (by omega) hc False (g := fun _ _ => none) (fun _ _ _ _ h => h.elim)
  have h := Zje (vs := vs) hc hO hf (hq _ hf) q1
  have e : Z6t (fun az => goI l az (th0 regs) 0) vs 0 (a.getD []) (n, cs) = if n < 4096 then some (n + 1, cs ++ Z0T (goI l (a.getD []) (th0 regs) 0)) else none := by
   unfold Z6t; rw [if_neg hf]
  rw [e, show (if n < 4096 then some (n + 1, cs ++ Z0T (goI l (a.getD []) (th0 regs) 0)) else none).isSome = decide (n < 4096) by split <;> simp [*]]
  exact h
 | succ d ih =>
  intro a n cs hc hd
  by_cases hf : (goI l (a.getD []) (th0 regs) 0).fin = 0
  · have e : Z6t (fun az => goI l az (th0 regs) 0) vs (d + 1) (a.getD []) (n, cs) = Z2Y (fun v o => Z6t (fun az => goI l az (th0 regs) 0) vs d (a.getD [] ++ [v]) o) vs (n, cs) := by
     show (if (goI l (a.getD []) (th0 regs) 0).fin = 0 then _ else _) = _
     rw [if_pos hf]
    rw [e]
    have hpos : ∀ v o o', OkC o.1 o.2 -> v ∈ vs -> Z6t (fun az => goI l az (th0 regs) 0) vs d (a.getD [] ++ [v]) o = some o' -> OkC o'.1 o'.2 /\ 0 < o'.1 := fun v o o' h1 h2 h3 =>
     ⟨(Z5W d _ o o' h1 h3).1, Zdx (fun h => by rw [h] at h2; cases h2) d _ o o' h1 h3⟩
    obtain ⟨O, hO, q1, q2⟩ := Zkm (gl := gl) (vs := vs) hr ha h16 a (by omega) hc True (g := fun v o => Z6t (fun az => goI l az (th0 regs) 0) vs d (a.getD [] ++ [v]) o) (fun sh v n cs _ h1 h2 => by
     have h3 := ih (some (a.getD [] ++ [v])) n cs h1 (by simp only [Option.getD_some, List.length_append, List.length_cons, List.length_nil]; omega)
     exact Zi7 sh h3 h1 (fun o ho => hpos v (n, cs) o h1 h2 ho))
    exact ZkK hc hvs (by omega) hO hf hpos q1 (fun sh v n cs h1 h2 => q2 sh v n cs trivial h1 h2)
  · obtain ⟨O, hO, q1, -⟩ := Zkm (gl := gl) (vs := vs) hr ha h16 a (by omega) hc False (g := fun _ _ => none) (fun _ _ _ _ h => h.elim)
    have h := Zje (vs := vs) hc hO hf (hq _ hf) q1
    have e : Z6t (fun az => goI l az (th0 regs) 0) vs (d + 1) (a.getD []) (n, cs) = if n < 4096 then some (n + 1, cs ++ Z0T (goI l (a.getD []) (th0 regs) 0)) else none := by
     show (if (goI l (a.getD []) (th0 regs) 0).fin = 0 then _ else _) = _
     rw [if_neg hf]
    rw [e, show (if n < 4096 then some (n + 1, cs ++ Z0T (goI l (a.getD []) (th0 regs) 0)) else none).isSome = decide (n < 4096) by split <;> simp [*]]
    exact h
end Go.Proofs.YteidjbahodbgdaaGreatDoor.lex
end

section
namespace Go.Proofs.YteidjbahodbgdaaGreatDoor.lex
open Go.Abs Go.RowKit Go.Flat
set_option maxRecDepth 100000
set_option maxHeartbeats 4000000
variable {gl : Z0l}
def Z0P : List Flat.Stand -> List AV
 | [] => []
 | s :: l => Z0T s ++ Z0P l
theorem Z7d : ∀ a b : List Flat.Stand, Z0P (a ++ b) = Z0P a ++ Z0P b
 | [], b => rfl
 | s :: a, b => by simp only [List.cons_append, Z0P, Z7d a b, List.append_assoc]
theorem ZaE : ∀ l : List Flat.Stand, (Z0P l).length = l.length * 10
 | [] => rfl
 | s :: l => by simp only [Z0P, List.length_append, Z6O, ZaE l, List.length_cons]; omega
theorem ZdB {f : AV -> Option AV} : ∀ {a b : List AV}, Z0L f a = some a -> Z0L f b = some b -> Z0L f (a ++ b) = some (a ++ b)
 | [], b, _, h => h
 | x :: a, b, h, k => by
  simp only [Z0L] at h
  split at h <;> simp at h
  rename_i y z hy hz
  obtain ⟨rfl, rfl⟩ := h
  simp only [List.cons_append, Z0L, hy, ZdB hz k]
theorem ZaF {H : Z00} {n : Nat} : ∀ l : List Flat.Stand, Z0L (frz H (n + 1)) (Z0P l) = some (Z0P l)
 | [] => rfl
 | s :: l => ZdB (by unfold Z0T; cases s.q <;> rfl) (ZaF l)
theorem Zdz {H : Z00} {n b f sh len cap : Nat} {l : List Flat.Stand} {ty : TypeId} (hH : H[b]? = some ⟨true, f, sh, .cells (Z0P l) ty⟩) (hl : len = l.length) : frz H (n + 2) (.slice b 0 len cap 10) = some (.rs len 10 (Z0P l)) := by
 subst hl
 have hc := ZaE l
 cases l with
 | nil => rfl
 | cons s l =>
  have h2 : Z0L (frz H (n + 1)) (Z0P (s :: l)) = some (Z0P (s :: l)) := ZaF _
  generalize Z0P (s :: l) = cs at *
  simp only [List.length_cons] at hc ⊢
  unfold frz
  simp only [hH, List.drop_zero, Zaz hc]
  rw [h2]
theorem Zgt {f : Int -> Nat × List AV -> Option (Nat × List AV)} {g : Int -> List Flat.Stand -> Option (List Flat.Stand)} (h : ∀ v out, f v (out.length, Z0P out) = (g v out).map fun r => (r.length, Z0P r)) : ∀ (l : List Int) (out : List Flat.Stand), Z2Y f l (out.length, Z0P out) = (Z8h g l out).map fun r => (r.length, Z0P r)
 | [], out => rfl
 | v :: l, out => by
  unfold Z2Y Z8h
  rw [h]
  cases g v out with
  | none => rfl
  | some o => exact Zgt h l o
theorem Z6X {l : List Ins} {s0 : Th} {vs : List Int} : ∀ (d : Nat) (az : List Int) (out : List Flat.Stand), Z6t (fun az => goI l az s0 0) vs d az (out.length, Z0P out) = (gat evF wrI (Z0h l) l.length s0 vs d az out).map fun r => (r.length, Z0P r)
 | 0, az, out => by
  unfold Z6t gat
  split
  · rfl
  · split
    · simp only [Option.map_some, List.length_append, List.length_cons, List.length_nil, Z7d, Z0P, List.append_nil]
    · rfl
 | d + 1, az, out => by
  unfold Z6t gat
  split
  · exact Zgt (fun v out => Z6X d (az ++ [v]) out) vs out
  · split
    · simp only [Option.map_some, List.length_append, List.length_cons, List.length_nil, Z7d, Z0P, List.append_nil]
    · rfl
def Z6y (c : Cd) (vs : List Int) : Option (List Flat.Stand) := gat evF wrI (Z0h c.ins) c.ins.length (th0 c.regs.toNat) vs c.ins.length [] []
noncomputable def ZdZ (c : Cd) (vs : List Int) : List Flat.Stand := if Z0E c = true then (Z6y c vs).getD [] else []
noncomputable def ZiC (c : Cd) (vs : List Int) : Int := if Z0E c = true then cond (Z6y c vs).isSome 0 3 else Z1y c
noncomputable def ZeS (c : Cd) (vs : List Int) : AV := .tuple [.rs (ZdZ c vs).length 10 (Z0P (ZdZ c vs)), .int .i64 (ZiC c vs)]
def Zn2 (f : Nat) : Bool := Nat.beq f 29 || Nat.beq f 30
theorem Zko {regs : Int} {l : List Ins} {vs : List Int} {F : Option (Nat × List AV)} (hcs : ∀ o, F = some o -> refsL o.2 [] = []) {i : Nat} {o : AObj} (h : (gaL regs l vs F)[i]? = some o) : o.fam = i /\ o.alive = true /\ Z0M (gaL regs l vs F).length (Z3I o.body []) = true := by
 rcases F with _ | ⟨n, cs⟩
 · match i, h with
   | 0, h => cases h; exact ⟨rfl, rfl, rfl⟩
   | 1, h => cases h; exact ⟨rfl, rfl, rfl⟩
   | 2, h => cases h; exact ⟨rfl, rfl, rfl⟩
   | 3, h => cases h; exact ⟨rfl, rfl, rfl⟩
   | 4, h => cases h; exact ⟨rfl, rfl, rfl⟩
   | k + 5, h => cases h
 · have hcc : ∀ n : Nat, Z0M n (refsL cs []) = true := fun n => by rw [hcs _ rfl]; rfl
   cases n <;>
   · match i, h with
     | 0, h => cases h; exact ⟨rfl, rfl, rfl⟩
     | 1, h => cases h; exact ⟨rfl, rfl, rfl⟩
     | 2, h => cases h; exact ⟨rfl, rfl, rfl⟩
     | 3, h => cases h; exact ⟨rfl, rfl, rfl⟩
     | 4, h => cases h; exact ⟨rfl, rfl, rfl⟩
     | 5, h => first | (cases h; done) | (cases h; exact ⟨rfl, rfl, hcc _⟩)
     | k + 6, h => cases h
theorem Zib {regs : Int} {l : List Ins} {vs : List Int} (F : Option (Nat × List AV)) : 5 <= (gaL regs l vs F).length := by
 rcases F with _ | ⟨n, cs⟩
 · exact Nat.le_refl _
 · cases n
   · exact Nat.le_refl _
   · exact Nat.le_succ _
theorem Zeb {sn : Z0j} {E E' e : AV} {v : Value} (hE : ∀ v, VR sn noI E v -> VR sn noI E' v) (h : VR sn noI (.tuple [E, e]) v) : VR sn noI (.tuple [E', e]) v := by
 simp only [VR, LR] at h ⊢
 obtain ⟨d, hd, v1, l1, e1, h1, rest⟩ := h
 exact ⟨d, hd, v1, l1, e1, hE _ h1, rest⟩
theorem Zia {regs : Nat} {l : List Ins} {vs : List Int} (hr : Runs regs l) (ha : Acy (nxL l) l.length) (h16 : regs <= 16) (hvs : vs.length <= 1000) :
  Z1O Tryz.prog gl 30 gC (gaH regs l vs none 0 []) (.bool (Z6t (fun az => goI l az (th0 regs) 0) vs l.length [] (0, [])).isSome) (gaL regs l vs (Z6t (fun az => goI l az (th0 regs) 0) vs l.length [] (0, []))) := by
 have h := Zkl (gl := gl) hr ha h16 hvs l.length none 0 [] Z7s (by simp)
 simp only [Option.getD_none] at h
 have hok := fun o e => Z5W (St := fun az => goI l az (th0 regs) 0) (vals := vs) l.length [] (0, []) o Z7s e
 generalize Z6t (fun az => goI l az (th0 regs) 0) vs l.length [] (0, []) = F at *
 have h1 := Z2m h (Nat.le_refl _) (Zib F) (fun i o h => Zko (fun o e => (hok o e).1.rf) h) (fun i o h => ⟨(Z7A rfl h).2.1, (Z7A rfl h).1⟩) rfl
 refine cast ?_ h1
 rcases F with _ | ⟨n, cs⟩
 · simp [rsI, gF, gaH, gaZ, gaL, gx, Z4s, sgE, shE, Z1C, renL, ren]
 · have hcr := (hok _ rfl).1.rn
   rcases n with _ | n <;> simp [rsI, gF, gaH, gaZ, gaL, gx, Z4s, sgE, shE, Z1C, renL, ren, hcr]
theorem Zcq (c : Cd) (hok : okC c) (hs : ∀ i ∈ c.ins, ∀ e ∈ i.ex, Z0f e <= 800000) (vs : List Int) (hvs : vs.length <= 1000) :
  ValOK Tryz.prog runLives.gl 9 [c.av, rsI vs] (ZeS c vs) := by
 have hck := Z5z c hok
 have hΦ : ∀ r' : AV, (∀ sn v, VR sn noI r' v -> VR sn noI (ZeS c vs) v) -> ∀ sn v, VR sn noI r' v -> VR sn noI (ZeS c vs) v := fun r' h => h
 by_cases hfl : Z0E c = true
 · have hc := Z1Z hfl
   obtain ⟨hr, hr0, hr16⟩ := Z3R hok hs hc
   have hac := Z2G hfl
   have he : Z1y c = 0 := Z15.2 hfl
   have hg := Zia (gl := runLives.gl) (vs := vs) hr hac (by omega) hvs
   have hgg := Z6X (l := c.ins) (s0 := th0 c.regs.toNat) (vs := vs) c.ins.length [] []
   rw [he] at hck
   have e1 : ZdZ c vs = (Z6y c vs).getD [] := if_pos hfl
   have e2 : ZiC c vs = cond (Z6y c vs).isSome 0 3 := if_pos hfl
   unfold ZeS at hΦ ⊢
   rw [e1, e2] at hΦ ⊢
   unfold Z6y at hΦ ⊢
   obtain ⟨rg, l⟩ := c
   obtain ⟨regs, rfl⟩ : ∃ regs : Nat, rg = regs := ⟨rg.toNat, by simp only at hr0; omega⟩
   simp only [Cd.av, Int.toNat_natCast, List.length_nil, Z0P] at *
   rw [hgg] at hg
   obtain ⟨O, hO, ⟨p1, -⟩, ⟨p2, -⟩⟩ := Z6G (P := Tryz.prog) (gl := runLives.gl) [{ I := Unit, f := 30, G := fun _ => True, A := fun _ => gC, H := fun _ => gaH regs l vs none 0 [], R := fun _ => .bool ((gat evF wrI (Z0h l) l.length (th0 regs) vs l.length [] []).map fun r => (r.length, Z0P r)).isSome, O := fun _ => gaL regs l vs ((gat evF wrI (Z0h l) l.length (th0 regs) vs l.length [] []).map fun r => (r.length, Z0P r)), body := (by kernel_rfl), inj := (fun _ _ _ _ _ _ => ⟨rfl, rfl⟩), ok := fun _ _ => hg }] [{ I := Unit, f := 29, G := fun _ => True, A := fun _ => [.agg [.int .i64 regs, .rs l.length 6 (inC l)]], R := fun _ => .int .i64 0, body := (by kernel_rfl), inj := fun _ _ _ _ _ => rfl, ok := fun _ _ => ⟨rfl, hck⟩ }] rfl
   have q1 : Z04 Tryz.prog O (gaH regs l vs none 0 []) 30 gC = some (.bool ((gat evF wrI (Z0h l) l.length (th0 regs) vs l.length [] []).map fun r => (r.length, Z0P r)).isSome, gaL regs l vs ((gat evF wrI (Z0h l) l.length (th0 regs) vs l.length [] []).map fun r => (r.length, Z0P r))) := p1 () trivial
   have q2 : ∀ H, Z04 Tryz.prog O H 29 [.agg [.int .i64 regs, .rs l.length 6 (inC l)]] = some (.int .i64 0, H) := p2 () trivial
   clear p1 p2 hg hgg hck e1 e2 he hfl hr hac hs hok hc hr0 hr16
   generalize gat evF wrI (Z0h l) l.length (th0 regs) vs l.length [] [] = F at *
   refine fn_valX follows Z09 (Z0K follows Z09 hO 3) hΦ Tryz.func9 rfl (Z1j (isC := Zn2) 3) ?_
   clear hΦ
   rcases F with _ | out
   · simp only [gaH, gaL, gx, Option.map_none, Option.isSome_none, rsI] at q1 ⊢
     repeat' ((conv => whnf); first | (refine exI (q2 _) ?_) | (refine exI q1 ?_) | (first | refine stp ?_ | with_reducible refine Z01 (fun h => ?_) (fun h => ?_)))
     all_goals (conv => whnf)
     all_goals exact fun sn v h => Zeb (fun _ h => Z0X h) h
   · rcases out with _ | ⟨z, out⟩
     all_goals simp only [gaH, gaL, gx, Option.map_some, Option.isSome_some, List.length_cons, List.length_nil, rsI] at q1 ⊢
     all_goals repeat' ((conv => whnf); first | (refine exI (q2 _) ?_) | (refine exI q1 ?_) | (first | refine stp ?_ | with_reducible refine Z01 (fun h => ?_) (fun h => ?_)))
     all_goals (conv => whnf)
     · exact fun sn v h => Zeb (fun _ h => Z0X h) h
     · exact ⟨_, Zgn (Zdz (n := 27) (b := 5) rfl rfl) rfl, fun sn v h => h⟩
 · have he : Z1y c ≠ 0 := fun h => hfl (Z15.1 h)
   have e1 : (Z1y c != 0) = true := by simpa using he
   have e2 : ZdZ c vs = [] := if_neg hfl
   have e3 : ZiC c vs = Z1y c := if_neg hfl
   unfold ZeS at hΦ ⊢
   rw [e2, e3] at hΦ ⊢
   obtain ⟨O, hO, p1, -⟩ := fams (P := Tryz.prog) (gl := runLives.gl) [{ I := Unit, f := 29, G := fun _ => True, A := fun _ => [c.av], R := fun _ => .int .i64 (Z1y c), body := (by kernel_rfl), inj := fun _ _ _ _ _ => rfl, ok := fun _ _ => ⟨rfl, hck⟩ }] rfl
   have q1 : ∀ H, Z04 Tryz.prog O H 29 [c.av] = some (.int .i64 (Z1y c), H) := p1 () trivial
   clear p1 hck he hfl hok hs
   generalize Z1y c = n at *
   obtain ⟨regs, l⟩ := c
   simp only [Cd.av, rsI] at *
   refine fn_valX follows Z09 (Z0K follows Z09 hO 3) hΦ Tryz.func9 rfl (Z1j (isC := Zn2) 3) ?_
   clear hΦ
   repeat' ((conv => whnf); first | (refine exI (q1 _) ?_) | (first | refine stp ?_ | with_reducible refine Z01 (fun h => ?_) (fun h => ?_)))
   all_goals exact fun sn v h => Zeb (fun _ h => Z0X h) h
end Go.Proofs.YteidjbahodbgdaaGreatDoor.lex
end

section
namespace Go.Proofs.YteidjbahodbgdaaGreatDoor.lex
open Go.Abs Go.RowKit Go.Flat
set_option maxRecDepth 100000
set_option maxHeartbeats 4000000
def Zm6 : Ex := .mk 2 0 [48] []
def Zm7 : Ex := .mk 1 1 [] []
def Zf3 : List Ins := [⟨2, 0, 0, 3, 0, []⟩, ⟨11, 0, 0, 0, 3, [.mk 7 0 [] [Zm6, Zm7]]⟩, ⟨3, 0, 0, 4, 0, [.mk 14 0 [] [Zm6, Zm7]]⟩, ⟨13, 0, 0, 0, 0, []⟩]
def linC : Cd := ⟨1, Zf3⟩
theorem Zg9 : Z31 linC = 0 := by kernel_rfl
theorem ZlF {v : Nat} (h : Rch (Z2T Zf3) v) : v < 4 := by
 have hg := (Z62 Zg9).good
 exact hg.lt ((Zam (Z4c Zf3) v).1 h)
theorem Z4h : Z0E linC = true := by
 unfold Z0E
 rw [Zg9]
 show Ze2 (Z2T Zf3) 4 = true
 rw [Z5I]
 refine ⟨fun v => 3 - v, fun v h => by dsimp only; omega, fun v w h hw => ?_⟩
 dsimp only
 have hv := ZlF h
 match v, hv with
 | 0, _ => have : w ∈ [1] := hw; simp at this; omega
 | 1, _ => have : w ∈ Z2T Zf3 1 := hw; simp [Z2T, Zf3, Z0h, nx8] at this; omega
 | 2, _ => have : w ∈ Z2T Zf3 2 := hw; simp [Z2T, Zf3, Z0h, nx8] at this; omega
 | 3, _ => have : w ∈ Z2T Zf3 3 := hw; simp [Z2T, Zf3, Z0h, nx8] at this
theorem Zdn : okC linC := by
 simp [okC, linC, Zf3, okL, okE, okN, Zm6, Zm7]
theorem Z6T : ∀ i ∈ linC.ins, ∀ e ∈ i.ex, Z0f e <= 800000 := by
 simp [linC, Zf3, Zm6, Zm7, Z0f, sizeL]
theorem ZlE : Z07 linC [] = ⟨⟨0, [0], []⟩, 0, some ⟨2, 0, 3, 0, 0⟩, 0⟩ := by unfold Z07; rw [if_pos Z4h]; kernel_rfl
theorem ZlD : Z07 linC [1] = ⟨⟨3, [1], [⟨1, 0, 3, 1, 0⟩, ⟨2, 0, 4, 0, 2⟩]⟩, 1, none, 1⟩ := by unfold Z07; rw [if_pos Z4h]; kernel_rfl
theorem ZlC : (Z07 linC [5, 6]).asked = 1 := by unfold Z07; rw [if_pos Z4h]; kernel_rfl
theorem Zk9 : (ZdZ linC [0, 1]).length = 2 /\ ZiC linC [0, 1] = 0 := by
 unfold ZdZ ZiC
 rw [if_pos Z4h, if_pos Z4h]
 exact ⟨by kernel_rfl, by kernel_rfl⟩
theorem ZiJ {gl : Z0l} {f : Nat} {x r : AV} (h : ValOK Tryz.prog gl f [x, rsI []] r) : ValOK Tryz.prog gl f [x, .nslice] r := by
 intro sn W cargs hg hR ha
 refine h sn W cargs hg hR ?_
 simp only [LR] at ha ⊢
 obtain ⟨v, vs, rfl, h1, v2, vs2, rfl, h2, h3⟩ := ha
 exact ⟨v, _, rfl, h1, v2, _, rfl, Z0X h2, h3⟩
def Nv (u u2 : AV) : Prop := ∀ (sn : Z0j) (v : Value), VR sn noI u v -> VR sn noI u2 v
def NvL : List AV -> List AV -> Prop
 | [], [] => True
 | a :: l, b :: l2 => Nv a b /\ NvL l l2
 | _, _ => False
theorem Nv.same {u : AV} : Nv u u := fun _ _ h => h
theorem Nv.nil {z : Nat} : Nv .nslice (.rs 0 z []) := fun _ _ h => Z0X h
theorem NvL.mr {sn : Z0j} {b : Nat} : ∀ {l l2 : List AV} {o : Nat}, NvL l l2 -> MR sn l b o -> MR sn l2 b o
 | [], [], o, _, h => h
 | a :: l, c :: l2, o, h, k => by
  simp only [MR] at k ⊢
  obtain ⟨⟨v, k1, k2⟩, k3⟩ := k
  exact ⟨⟨v, k1, h.1 _ _ k2⟩, NvL.mr h.2 k3⟩
 | [], _ :: _, _, h, _ => h.elim
 | _ :: _, [], _, h, _ => h.elim
theorem NvL.lr {sn : Z0j} : ∀ {l l2 : List AV} {vs : List Value}, NvL l l2 -> LR sn noI l vs -> LR sn noI l2 vs
 | [], [], _, _, h => h
 | a :: l, c :: l2, vs, h, k => by
  simp only [LR] at k ⊢
  obtain ⟨d, ds, e, k1, k2⟩ := k
  exact ⟨d, ds, e, h.1 _ _ k1, NvL.lr h.2 k2⟩
 | [], _ :: _, _, h, _ => h.elim
 | _ :: _, [], _, h, _ => h.elim
theorem Nv.rs {n z : Nat} {l l2 : List AV} (h : NvL l l2) (e : l2.length = l.length) : Nv (.rs n z l) (.rs n z l2) := fun sn v k => by
 simp only [VR] at k ⊢
 rcases k with ⟨k1, rfl, k3⟩ | ⟨a, cap, k1, k2, k3, k4, k5⟩
 · exact .inl ⟨k1, List.length_eq_zero_iff.1 e, k3⟩
 · exact .inr ⟨a, cap, k1, k2, by omega, NvL.mr h k4, k5⟩
theorem Nv.agg {l l2 : List AV} (h : NvL l l2) : Nv (.agg l) (.agg l2) := fun sn v k => by
 simp only [VR] at k ⊢
 obtain ⟨d, k1, k2⟩ := k
 exact ⟨d, k1, NvL.lr h k2⟩
theorem Zi1 {gl : Z0l} : ValOK Tryz.prog gl 27 [] linC.av := by
 have hΦ : ∀ r' : AV, Nv r' linC.av -> ∀ sn v, VR sn noI r' v -> VR sn noI linC.av v := fun r' h => h
 refine fn_valX follows Z09 (Z0K follows Z09 Z05 3) hΦ Tryz.func27 rfl (Z1j (isC := fun _ => false) 3) ?_
 repeat' ((conv => whnf); first | (first | refine stp ?_ | with_reducible refine Z01 (fun h => ?_) (fun h => ?_)))
 all_goals (conv => whnf)
 all_goals (repeat' first | exact trivial | exact Nv.same | exact Nv.nil | refine Nv.agg ?_ | refine Nv.rs ?_ rfl | refine And.intro ?_ ?_)
end Go.Proofs.YteidjbahodbgdaaGreatDoor.lex
end

section
namespace Go.Proofs.YteidjbahodbgdaaGreatDoor.lex
open Go.Abs Go.RowKit Go.Flat
set_option maxRecDepth 100000
set_option maxHeartbeats 4000000
open Classical in
noncomputable def Zeh (l : List (Nat × List AV × AV)) : Nat -> List AV -> Option AV := fun f args => (l.find? fun p => decide (p.1 = f /\ p.2.1 = args)).map (·.2.2)
theorem Zeg {P : Program} {gl : Z0l} : ∀ {l : List (Nat × List AV × AV)}, (∀ p ∈ l, ValOK P gl p.1 p.2.1 p.2.2) -> ∀ f args r, Zeh l f args = some r -> ValOK P gl f args r := by
 intro l h f args r e
 unfold Zeh at e
 simp only [Option.map_eq_some_iff] at e
 obtain ⟨p, e1, rfl⟩ := e
 have hp := List.find?_some e1
 simp only [decide_eq_true_eq] at hp
 obtain ⟨rfl, rfl⟩ := hp
 exact h p (List.mem_of_find?_eq_some e1)
def Zms : AV := .tuple [.agg [.rs 0 5 [], .int .i64 0, .int .i64 2, .int .i64 0, .int .i64 3, .int .i64 0, .int .i64 0, .int .i64 0, .rs 1 1 [.int .i64 0], .int .i64 0], .int .i64 0]
def Zmr : AV := .tuple [.agg [.rs 2 5 (Z14 [⟨1, 0, 3, 1, 0⟩, ⟨2, 0, 4, 0, 2⟩]), .int .i64 1, .int .i64 0, .int .i64 0, .int .i64 0, .int .i64 0, .int .i64 0, .int .i64 3, .rs 1 1 [.int .i64 1], .int .i64 1], .int .i64 0]
theorem ZlB : ValOK Tryz.prog runLives.gl 7 [] (.bool true) := by
 have he : Z1y linC = 0 := Z15.2 Z4h
 have h0 : ValOK Tryz.prog runLives.gl 15 [linC.av, .nslice] Zms := by
  have := ZiJ (Z7i linC Zdn Z6T [] (by decide))
  rw [ZlE, he] at this; exact this
 have h1 : ValOK Tryz.prog runLives.gl 15 [linC.av, rsI [1]] Zmr := by
  have := Z7i linC Zdn Z6T [1] (by decide)
  rw [ZlD, he] at this; exact this
 have h2 := Z7i linC Zdn Z6T [5, 6] (by decide)
 rw [he] at h2
 have ha := ZlC
 have h3 := Zcq linC Zdn Z6T [0, 1] (by decide)
 unfold ZeS at h3
 obtain ⟨g1, g2⟩ := Zk9
 rw [g1, g2] at h3
 generalize Z07 linC [5, 6] = st at *
 generalize ZdZ linC [0, 1] = out at *
 have h4 : ValOK Tryz.prog runLives.gl 27 [] linC.av := Zi1
 have h5 := Z8Q (gl := runLives.gl) [⟨1, 0, 3, 1, 0⟩, ⟨2, 0, 4, 0, 2⟩] [⟨1, 0, 3, 1, 0⟩, ⟨2, 0, 4, 0, 2⟩] (by decide) (by decide)
 have h6 : Z7R [⟨1, 0, 3, 1, 0⟩, ⟨2, 0, 4, 0, 2⟩] [⟨1, 0, 3, 1, 0⟩, ⟨2, 0, 4, 0, 2⟩] = true := by simp [Z7R]
 rw [h6] at h5
 obtain ⟨T, hT⟩ : ∃ T : List (Nat × List AV × AV), T = [(27, [], linC.av), (15, [linC.av, .nslice], Zms), (15, [linC.av, rsI [1]], Zmr), (15, [linC.av, rsI [5, 6]], .tuple [.agg (Z0T st), .int .i64 0]), (9, [linC.av, rsI [0, 1]], .tuple [.rs 2 10 (Z0P out), .int .i64 0])] := ⟨_, rfl⟩
 have hTs : ∀ p ∈ T, ValOK Tryz.prog runLives.gl p.1 p.2.1 p.2.2 := by
  rw [hT]
  intro p hp
  simp only [List.mem_cons, List.mem_nil_iff, or_false] at hp
  rcases hp with rfl | rfl | rfl | rfl | rfl
  · exact h4
  · exact h0
  · exact h1
  · exact h2
  · exact h3
 have hO1 := Z8D (fs := [2, 4, 6]) (Zeg hTs)
 have q0 : ∀ H args, Z0L (frz (kil (fun _ o => !mem o.fam [2, 4, 6]) 0 H) 30) args = some [] -> Z04 Tryz.prog (Zc6 [2, 4, 6] (Zeh T)) H 27 args = some (linC.av, kil (fun _ o => mem o.fam [2, 4, 6]) 0 H) := fun H args h => ZeP (by kernel_rfl) h (by rw [hT]; unfold Zeh; rw [Z1B]; rfl)
 have q1 : ∀ H args, Z0L (frz (kil (fun _ o => !mem o.fam [2, 4, 6]) 0 H) 30) args = some [linC.av, .nslice] -> Z04 Tryz.prog (Zc6 [2, 4, 6] (Zeh T)) H 15 args = some (Zms, kil (fun _ o => mem o.fam [2, 4, 6]) 0 H) := fun H args h => ZeP (by kernel_rfl) h (by rw [hT]; unfold Zeh; rw [Z1S rfl Z1B]; rfl)
 have q2 : ∀ H args, Z0L (frz (kil (fun _ o => !mem o.fam [2, 4, 6]) 0 H) 30) args = some [linC.av, rsI [1]] -> Z04 Tryz.prog (Zc6 [2, 4, 6] (Zeh T)) H 15 args = some (Zmr, kil (fun _ o => mem o.fam [2, 4, 6]) 0 H) := fun H args h => ZeP (by kernel_rfl) h (by rw [hT]; unfold Zeh; rw [Z1S rfl (Z9S (fun h => by simp [rsI] at h) Z1B)]; rfl)
 have q3 : ∀ H args, Z0L (frz (kil (fun _ o => !mem o.fam [2, 4, 6]) 0 H) 30) args = some [linC.av, rsI [5, 6]] -> Z04 Tryz.prog (Zc6 [2, 4, 6] (Zeh T)) H 15 args = some (.tuple [.agg (Z0T st), .int .i64 0], kil (fun _ o => mem o.fam [2, 4, 6]) 0 H) := fun H args h => ZeP (by kernel_rfl) h (by rw [hT]; unfold Zeh; rw [Z1S rfl (Z9S (fun h => by simp [rsI] at h) (Z9S (fun h => by simp [rsI, ksC] at h) Z1B))]; rfl)
 have q4 : ∀ H args, Z0L (frz (kil (fun _ o => !mem o.fam [2, 4, 6]) 0 H) 30) args = some [linC.av, rsI [0, 1]] -> Z04 Tryz.prog (Zc6 [2, 4, 6] (Zeh T)) H 9 args = some (.tuple [.rs 2 10 (Z0P out), .int .i64 0], kil (fun _ o => mem o.fam [2, 4, 6]) 0 H) := fun H args h => ZeP (by kernel_rfl) h (by rw [hT]; unfold Zeh; rw [Z1S rfl (Z1S rfl (Z1S rfl (Z1S rfl Z1B)))]; rfl)
 generalize Zc6 [2, 4, 6] (Zeh T) = O1 at *
 obtain ⟨O, hO, p5, hoth⟩ := Z7B (P := Tryz.prog) (gl := runLives.gl) (I := Unit) (f0 := 26) (G := fun _ => True) (A := fun _ => [rsE [⟨1, 0, 3, 1, 0⟩, ⟨2, 0, 4, 0, 2⟩], rsE [⟨1, 0, 3, 1, 0⟩, ⟨2, 0, 4, 0, 2⟩]]) (R := fun _ => .bool true) (fun _ _ => rfl) (fun _ _ _ _ _ => rfl) (fun _ _ => h5) (by kernel_rfl) hO1
 have q5 := p5 () trivial
 have q0' := fun H args h => (hoth _ (by show (27 : Nat) ≠ 26; decide) args H).trans (q0 H args h)
 have q1' := fun H args h => (hoth _ (by show (15 : Nat) ≠ 26; decide) args H).trans (q1 H args h)
 have q2' := fun H args h => (hoth _ (by show (15 : Nat) ≠ 26; decide) args H).trans (q2 H args h)
 have q3' := fun H args h => (hoth _ (by show (15 : Nat) ≠ 26; decide) args H).trans (q3 H args h)
 have q4' := fun H args h => (hoth _ (by show (9 : Nat) ≠ 26; decide) args H).trans (q4 H args h)
 clear q0 q1 q2 q3 q4 p5 hoth hO1 hTs hT h0 h1 h2 h3 h4 h5 h6 he g1 g2
 obtain ⟨⟨p, r, evs⟩, fin, q, asked⟩ := st
 simp only at ha
 subst ha
 refine Z0a follows Z09 hO Tryz.func7 rfl ?_
 cases q
 all_goals repeat' ((conv => whnf); first | (refine exI (q0' _ _ rfl) ?_) | (refine exI (q1' _ _ rfl) ?_) | (refine exI (q2' _ _ rfl) ?_) | (refine exI (q3' _ _ rfl) ?_) | (refine exI (q4' _ _ rfl) ?_) | (refine exI (q5 _ _ rfl) ?_) | (refine exI (Zn4 _ _ _ _ _ _ _ _ _ _) ?_) | (first | refine stp ?_ | with_reducible refine Z01 (fun h => ?_) (fun h => ?_)))
 all_goals (try (conv => whnf))
 all_goals rfl
end Go.Proofs.YteidjbahodbgdaaGreatDoor.lex
end

section
namespace Go.Proofs.YteidjbahodbgdaaGreatDoor.lex
open Go.Abs Go.RowKit Go.Flat
set_option maxRecDepth 100000
set_option maxHeartbeats 4000000
theorem Z8G : ValOK Tryz.prog runLives.gl 7 [] (.bool true) := ZlB
def one0 {gl : Z0l} {f : Nat} {A : List AV} {R : AV} (G : Prop) (hb : Z0C Tryz.prog f = true) (hr : refsL A [] = []) (h : G -> ValOK Tryz.prog gl f A R) : Fam Tryz.prog gl := { I := Unit, f := f, G := fun _ => G, A := fun _ => A, R := fun _ => R, body := hb, inj := (fun _ _ _ _ _ => rfl), ok := (fun _ hG => ⟨hr, h hG⟩) }
theorem Z5M {c : Cd} (hok : okC c) (hs : ∀ i ∈ c.ins, ∀ e ∈ i.ex, Z0f e <= 800000) (az : List Int) : (Z07 c az).th.evs.length <= 4000 /\ (Z07 c az).th.regs.length <= 16 := by
 refine ⟨Z7f hok hs az, ?_⟩
 by_cases h : Z0E c = true
 · obtain ⟨h1, h2, h3⟩ := Z3R hok hs (Z1Z h)
   have := (Z3P h1 h az).2.1
   omega
 · unfold Z07; rw [if_neg h]; show 0 <= 16; omega
theorem Z9i (a b : Flat.Stand) : refsL [.agg (Z0T a), .agg (Z0T b)] [] = [] := by
 simp only [Z0T, Z2k, rsE, rsI]
 rfl
theorem Z9j (a : Flat.Stand) : Zf1 a a = true := by unfold Zf1; simp
end Go.Proofs.YteidjbahodbgdaaGreatDoor.lex
end

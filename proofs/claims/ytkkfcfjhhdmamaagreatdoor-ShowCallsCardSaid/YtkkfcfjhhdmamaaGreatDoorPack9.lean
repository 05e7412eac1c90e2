/-
  Texts of this proof, one behind the other (part 9).
-/
import Derived.Test.YtkkfcfjhhdmamaaGreatDoorPack8


section

set_option linter.unusedSimpArgs false
set_option linter.unusedVariables false
namespace Go.Abs
open Go.RowKit Go.ChangeShapes Go.WideShapes Go.ChangeAt
def OpensB (P : Program) (N : Nat) (t : TypeId) (Q : List AV → Prop) : Prop :=
  ∀ (H : Type) (enc : TypeId × Value → H) (W : World) (fuel : Nat) (cs : List Value) (x : DataW H × List MemPlace), fuel ≤ N → DataW.trod enc P W 0 (fun _ => true) true fuel t cs = some x → ∃ us, Q us ∧ LR (snap0 W) noI us cs
section opens
variable {P : Program}
theorem OpensB.mono {N : Nat} {t : TypeId} {Q Q' : List AV → Prop} (h : OpensB P N t Q) (hq : ∀ u, Q u → Q' u) : OpensB P N t Q' := fun H enc W fuel cs x hN hx => let ⟨u, h1, h2⟩ := h H enc W fuel cs x hN hx; ⟨u, hq _ h1, h2⟩
theorem OpensB.of {N : Nat} {t : TypeId} {Q : List AV → Prop} (h : Opens P t Q) : OpensB P N t Q := fun H enc W fuel cs x _ hx => h H enc W fuel cs x hx
theorem OpensB.all {t : TypeId} {Q : List AV → Prop} (h : ∀ N, OpensB P N t Q) : Opens P t Q := fun H enc W fuel cs x hx => h fuel H enc W fuel cs x (Nat.le_refl _) hx
theorem opensB_zero {t : TypeId} {Q : List AV → Prop} : OpensB P 0 t Q := fun H enc W fuel cs x hN hx => by
  obtain rfl : fuel = 0 := by omega
  simp [DataW.trod] at hx
theorem opensB_slice {N : Nat} {t e : TypeId} {z : Nat} {Q : List AV → Prop} (ht : P.underlying t = some (.slice e)) (hz : P.cellsOf e = z) (hz0 : z ≠ 0) (he : OpensB P N e Q) :
    OpensB P (N + 1) t fun us => ∃ l : List (List AV), (∀ u ∈ l, Q u ∧ u.length = z) ∧ us = [.rs l.length z l.flatten] ∧ l.length ≤ maxLen := by
  intro H enc W fuel cs x hN h
  rcases DataW.trod_slice ht h with ⟨rfl, _⟩ | ⟨a, len, cap, els, rest, n, hfu, rfl, _, _, hlc, hcm, hl, hel, hrest⟩
  · exact ⟨_, ⟨[], by simp, rfl, by simp⟩, by simp [LR, VR]⟩
  · rw [hz] at hel
    have each : ∀ i, i < len → ∃ (vs : List Value) (u : List AV), W.cells? 0 (a.add (i * z)) z = some vs ∧ Q u ∧ LR (snap0 W) noI u vs := by
      intro i hi
      have h1 := hel i hi
      have h2 : els[i]? = some els[i] := List.getElem?_eq_getElem (by omega)
      rw [h2] at h1
      simp only [Option.bind_eq_some_iff] at h1
      obtain ⟨vs, h3, h4⟩ := h1
      obtain ⟨u, h5, h6⟩ := he H enc W n vs _ (by omega) h4
      exact ⟨vs, u, h3, h5, h6⟩
    have hex : ∃ (l : List (List AV)) (vss : List (List Value)), l.length = len ∧ vss.length = len ∧ ∀ i, i < len → ∃ vs u, l[i]? = some u ∧ vss[i]? = some vs ∧ W.cells? 0 (a.add (i * z)) z = some vs ∧ Q u ∧ LR (snap0 W) noI u vs := by
      clear hel hl h hlc hcm hrest
      induction len with
      | zero => exact ⟨[], [], rfl, rfl, fun i hi => by omega⟩
      | succ m ih =>
        obtain ⟨l, vss, h1, h2, h3⟩ := ih fun i hi => each i (by omega)
        obtain ⟨vs, u, g1, g2, g3⟩ := each m (by omega)
        refine ⟨l ++ [u], vss ++ [vs], by simp [h1], by simp [h2], fun i hi => ?_⟩
        by_cases e : i = m
        · subst e
          exact ⟨vs, u, by simp [← h1], by simp [← h2], g1, g2, g3⟩
        · obtain ⟨vs', u', k1, k2, k3⟩ := h3 i (by omega)
          exact ⟨vs', u', by rw [List.getElem?_append_left (by omega)]; exact k1, by rw [List.getElem?_append_left (by omega)]; exact k2, k3⟩
    obtain ⟨l, vss, h1, h2, h3⟩ := hex
    have hll : ∀ u ∈ l, Q u ∧ u.length = z := by
      intro u hu
      obtain ⟨i, hi, rfl⟩ := List.mem_iff_getElem.1 hu
      obtain ⟨vs, u', k1, k2, k3, k4, k5⟩ := h3 i (by omega)
      rw [List.getElem?_eq_getElem hi] at k1; simp at k1
      rw [k1]
      exact ⟨k4, by rw [← k5.length, (cells?_get k3).1]⟩
    refine ⟨_, ⟨l, hll, rfl, by omega⟩, ?_⟩
    simp only [LR]
    refine ⟨_, _, rfl, ?_, rfl⟩
    simp only [VR]
    have hfl : l.flatten.length = l.length * z := by
      clear h1 h3
      induction l with
      | nil => simp
      | cons u l ih => simp only [List.flatten_cons, List.length_append, List.length_cons, (hll u (by simp)).2, ih fun v hv => hll v (by simp [hv])]; rw [Nat.add_mul]; omega
    have hspot : len ≠ 0 → a.spot = none := by
      intro h0
      obtain ⟨vs, u, k1, k2, k3, k4, k5⟩ := h3 0 (by omega)
      obtain ⟨g1, g2⟩ := cells?_get k3
      have : W.cell? ((a.add (0 * z)).add 0) = some vs[0] := g2 0 _ (List.getElem?_eq_getElem (by omega))
      rw [Nat.zero_mul] at this
      simpa [Addr.add] using World.cell?_spot this
    refine .inr ⟨a, cap, by rw [h1], by omega, hfl, mr_of_get fun k u hu => ?_, fun h0 => hspot (by rw [← h1]; exact h0)⟩
    obtain ⟨x', g1, g2⟩ := flatten_at hz0 (fun u hu => (hll u hu).2) hu
    have hklt : k / z < len := by rw [← h1]; exact (List.getElem?_eq_some_iff.1 g1).1
    obtain ⟨vs, u', k1, k2, k3, k4, k5⟩ := h3 (k / z) hklt
    rw [g1] at k1; simp at k1; subst k1
    obtain ⟨v, e1, e2⟩ := k5.get g2
    refine ⟨v, ?_, e2⟩
    have hc := (cells?_get k3).2 _ _ e1
    rw [addr_addadd a (hspot (Nat.ne_of_gt (Nat.lt_of_le_of_lt (Nat.zero_le _) hklt)))] at hc
    have hk : a.off + k / z * z + k % z = a.off + k := by rw [Nat.add_assoc, Nat.mul_comm, Nat.div_add_mod]
    rw [hk] at hc
    unfold snap0
    have hlt : a.block < W.heap.size := by
      cases hq : W.heap[a.block]? with
      | none => unfold World.cell? at hc; simp only [hq] at hc; cases hc
      | some ob => exact (Array.getElem?_eq_some_iff.1 hq).1
    rw [if_pos (by exact hlt)]; exact hc
def FsOpensB (P : Program) (N : Nat) : List Field → List (List AV → Prop) → Nat → Nat → Prop
  | [], [], off, tot => off = tot
  | f :: fs, Q :: Qs, off, tot => f.offset = off ∧ OpensB P N f.type Q ∧ FsOpensB P N fs Qs (off + P.cellsOf f.type) tot
  | _, _, _, _ => False
theorem opensB_fs {N : Nat} {H : Type} {enc : TypeId × Value → H} {W : World} {n tot : Nat} {cs : List Value} (hcs : cs.length = tot) (hN : n ≤ N) : ∀ {fs : List Field} {Qs : List (List AV → Prop)} {xs : List (DataW H × List MemPlace)} {off : Nat}, FsOpensB P N fs Qs off tot → xs.length = fs.length → off ≤ tot →
    (∀ (i : Nat) (f : Field), fs[i]? = some f → DataW.trod enc P W 0 (fun _ => true) true n f.type ((cs.drop f.offset).take (P.cellsOf f.type)) = xs[i]?) → ∃ us, FsQ Qs us ∧ LR (snap0 W) noI us (cs.drop off)
  | [], [], xs, off, h, hl, ho, hx => by
    have : off = tot := h
    subst this
    exact ⟨[], rfl, by simp [LR, ← hcs]⟩
  | f :: fs, Q :: Qs, xs, off, h, hl, ho, hx => by
    obtain ⟨h1, h2, h3⟩ := h
    cases xs with
    | nil => simp at hl
    | cons x xs =>
      have h0 := hx 0 f rfl
      simp only [List.getElem?_cons_zero] at h0
      obtain ⟨u, q1, q2⟩ := h2 H enc W n _ _ hN h0
      have hle : ∀ (fs : List Field) (Qs : List (List AV → Prop)) (o : Nat), FsOpensB P N fs Qs o tot → o ≤ tot := by
        intro fs
        induction fs with
        | nil => intro Qs o h; cases Qs with | nil => exact Nat.le_of_eq h | cons _ _ => exact h.elim
        | cons g gs ih => intro Qs o h; cases Qs with | nil => exact h.elim | cons _ _ => have := ih _ _ h.2.2; omega
      obtain ⟨us, q3, q4⟩ := opensB_fs hcs hN h3 (by simpa using hl) (hle _ _ _ h3) fun i g hg => by simpa using hx (i + 1) g (by simpa using hg)
      refine ⟨u ++ us, ⟨u, us, rfl, q1, q3⟩, ?_⟩
      rw [h1] at q2
      have := q2.append q4
      rwa [← List.drop_drop, List.take_append_drop] at this
  | [], _ :: _, xs, off, h, hl, ho, hx => h.elim
  | _ :: _, [], xs, off, h, hl, ho, hx => h.elim
theorem opensB_struct {N : Nat} {t : TypeId} {fs : Array Field} {Qs : List (List AV → Prop)} (ht : P.underlying t = some (.struct fs)) (h : FsOpensB P N fs.toList Qs 0 (P.cellsOf t)) : OpensB P (N + 1) t (FsQ Qs) := by
  intro H enc W fuel cs x hN hx
  obtain ⟨xs, n, hfu, _, hl, hlen, hf⟩ := DataW.trod_struct ht hx
  obtain ⟨us, h1, h2⟩ := opensB_fs hl (by omega) h (by simpa using hlen) (Nat.zero_le _) fun i f hi => hf i f (by simpa using hi)
  exact ⟨us, h1, by simpa using h2⟩
end opens
end Go.Abs
end


section

set_option linter.unusedVariables false
set_option linter.unusedSimpArgs false
namespace Go.Proofs.YtkkfcfjhhdmamaaGreatDoor.lex
open Go.Abs Go.RowKit
set_option maxRecDepth 100000
set_option maxHeartbeats 4000000
def QE (us : List AV) : Prop := ∃ e : Ex, us = e.cells ∧ okE e ∧ rgE e
def QEL (us : List AV) : Prop := ∃ l : List Ex, us = [exA l] ∧ (okL l ∧ rgL l) ∧ l.length ≤ maxLen
def QI (us : List AV) : Prop := ∃ n, us = [.int .i64 n] ∧ (Lit.int .i64 n).wf = true
def QB (us : List AV) : Prop := ∃ b, us = [.bool b]
def QT (us : List AV) : Prop := ∃ s : List UInt8, us = [.str s] ∧ s.length ≤ maxLen
def QS (us : List AV) : Prop := ∃ e : St, us = e.cells ∧ okS e ∧ rgS e
def QSL (us : List AV) : Prop := ∃ l : List St, us = [stA l] ∧ (okSL l ∧ rgSL l) ∧ l.length ≤ maxLen
def QTL (us : List AV) : Prop := ∃ l : List (List St), us = [.rs l.length 1 (l.map stA)] ∧ (okTL l ∧ rgTL l) ∧ l.length ≤ maxLen
def QD (us : List AV) : Prop := ∃ d : Dc, us = d.cells ∧ d.name.length ≤ 9223372036854775807 ∧ rgI d.val
def QDL (us : List AV) : Prop := ∃ l : List Dc, us = [.rs l.length 3 (dcC l)] ∧ okD l ∧ ∀ d ∈ l, rgI d.val
theorem wf_in {n : Int} (h : (Lit.int .i64 n).wf = true) : rgI n := by
  have h' : IntKind.i64.min ≤ n ∧ n ≤ 9223372036854775807 := by simpa [Lit.wf] using h
  have h2 : IntKind.i64.min = -9223372036854775808 := rfl
  unfold rgI; omega
theorem ex_list : ∀ l : List (List AV), (∀ u ∈ l, QE u ∧ u.length = 4) → ∃ m : List Ex, l.flatten = exC m ∧ l.length = m.length ∧ okL m ∧ rgL m
  | [], _ => ⟨[], by simp only [exC, List.flatten_nil], rfl, trivial, trivial⟩
  | u :: l, h => by
    obtain ⟨m, h1, h2, h3, h5⟩ := ex_list l fun v hv => h v (by simp [hv])
    obtain ⟨⟨e, rfl, h4⟩, _⟩ := h u (by simp)
    exact ⟨e :: m, by simp only [List.flatten_cons, exC, h1], by simp [h2], by simp only [okL]; exact ⟨h4.1, h3⟩, by simp only [rgL]; exact ⟨h4.2, h5⟩⟩
theorem st_list : ∀ l : List (List AV), (∀ u ∈ l, QS u ∧ u.length = 7) → ∃ m : List St, l.flatten = stC m ∧ l.length = m.length ∧ okSL m ∧ rgSL m
  | [], _ => ⟨[], by simp only [stC, List.flatten_nil], rfl, trivial, trivial⟩
  | u :: l, h => by
    obtain ⟨m, h1, h2, h3, h5⟩ := st_list l fun v hv => h v (by simp [hv])
    obtain ⟨⟨e, rfl, h4⟩, _⟩ := h u (by simp)
    exact ⟨e :: m, by simp only [List.flatten_cons, stC, h1], by simp [h2], by simp only [okSL]; exact ⟨h4.1, h3⟩, by simp only [rgSL]; exact ⟨h4.2, h5⟩⟩
theorem dc_list : ∀ l : List (List AV), (∀ u ∈ l, QD u ∧ u.length = 3) → ∃ m : List Dc, l.flatten = dcC m ∧ l.length = m.length ∧ ∀ d ∈ m, d.name.length ≤ 9223372036854775807 ∧ rgI d.val
  | [], _ => ⟨[], by simp only [dcC, List.flatten_nil], rfl, by simp⟩
  | u :: l, h => by
    obtain ⟨m, h1, h2, h3⟩ := dc_list l fun v hv => h v (by simp [hv])
    obtain ⟨⟨e, rfl, h4⟩, _⟩ := h u (by simp)
    exact ⟨e :: m, by simp only [List.flatten_cons, dcC, h1], by simp [h2], fun d hd => by rcases List.mem_cons.1 hd with rfl | hd; exact h4; exact h3 d hd⟩
theorem th_list : ∀ l : List (List AV), (∀ u ∈ l, QSL u ∧ u.length = 1) → ∃ m : List (List St), l.flatten = m.map stA ∧ l.length = m.length ∧ okTL m ∧ rgTL m
  | [], _ => ⟨[], by simp only [List.map_nil, List.flatten_nil], rfl, trivial, trivial⟩
  | u :: l, h => by
    obtain ⟨m, h1, h2, h3, h6⟩ := th_list l fun v hv => h v (by simp [hv])
    obtain ⟨⟨e, rfl, h4, h5⟩, _⟩ := h u (by simp)
    exact ⟨e :: m, by simp only [List.flatten_cons, List.map_cons, h1]; rfl, by simp [h2], by simp only [okTL]; exact ⟨h4.1, h5, h3⟩, by simp only [rgTL]; exact ⟨h4.2, h6⟩⟩
theorem fsE (N : Nat) (h : OpensB Tryz.prog N 26 QEL) : FsOpensB Tryz.prog N (match Tryz.prog.underlying 28 with | some (.struct fs) => fs.toList | _ => []) [QI, QI, QT, QEL] 0 (Tryz.prog.cellsOf 28) := by
  rw [Tryz.underlying28]
  refine ⟨rfl, .of (opens_int Tryz.underlying3), ?_⟩
  refine ⟨by kernel_rfl, .of (opens_int Tryz.underlying2), ?_⟩
  refine ⟨by kernel_rfl, .of (opens_str Tryz.underlying9), ?_⟩
  refine ⟨by kernel_rfl, h, ?_⟩
  unfold FsOpensB; kernel_rfl
theorem q_e {us : List AV} (h : FsQ [QI, QI, QT, QEL] us) : QE us := by
  obtain ⟨a, u1, rfl, ⟨n1, rfl, _⟩, b, u2, rfl, ⟨n2, rfl, hw⟩, c, u3, rfl, ⟨s, rfl, hs⟩, d, u4, rfl, ⟨k, rfl, ⟨hk, hr⟩, hkl⟩, h3⟩ := h
  have h3 : u4 = [] := h3
  subst h3
  exact ⟨.mk n1 n2 s k, by simp only [Ex.cells]; rfl, by simp only [okE, okN]; exact ⟨⟨hs, hkl⟩, hk⟩, by simp only [rgE]; exact ⟨wf_in hw, hr⟩⟩
theorem opensE : ∀ N, OpensB Tryz.prog N 28 QE ∧ OpensB Tryz.prog N 26 QEL
  | 0 => ⟨opensB_zero, opensB_zero⟩
  | N + 1 => by
    obtain ⟨h1, h2⟩ := opensE N
    have h3 := fsE N h2
    rw [Tryz.underlying28] at h3
    refine ⟨(opensB_struct Tryz.underlying28 h3).mono fun u hu => q_e hu, (opensB_slice Tryz.underlying26 (by kernel_rfl) (show (4 : Nat) ≠ 0 by decide) h1).mono ?_⟩
    rintro u ⟨l, hl, rfl, hll⟩
    obtain ⟨m, e1, e2, e3, e4⟩ := ex_list l hl
    exact ⟨m, by rw [e1, e2]; rfl, ⟨e3, e4⟩, by rw [← e2]; exact hll⟩
theorem fsS (N : Nat) (h : OpensB Tryz.prog N 47 QSL) : FsOpensB Tryz.prog N (match Tryz.prog.underlying 49 with | some (.struct fs) => fs.toList | _ => []) [QI, QT, QT, QI, QEL, QSL, QSL] 0 (Tryz.prog.cellsOf 49) := by
  rw [Tryz.underlying49]
  refine ⟨rfl, .of (opens_int Tryz.underlying3), ?_⟩
  refine ⟨by kernel_rfl, .of (opens_str Tryz.underlying9), ?_⟩
  refine ⟨by kernel_rfl, .of (opens_str Tryz.underlying9), ?_⟩
  refine ⟨by kernel_rfl, .of (opens_int Tryz.underlying3), ?_⟩
  refine ⟨by kernel_rfl, (opensE N).2, ?_⟩
  refine ⟨by kernel_rfl, h, ?_⟩
  refine ⟨by kernel_rfl, h, ?_⟩
  unfold FsOpensB; kernel_rfl
theorem q_s {us : List AV} (h : FsQ [QI, QT, QT, QI, QEL, QSL, QSL] us) : QS us := by
  obtain ⟨a, u1, rfl, ⟨n1, rfl, _⟩, b, u2, rfl, ⟨s1, rfl, hs1⟩, c, u3, rfl, ⟨s2, rfl, hs2⟩, d, u4, rfl, ⟨n2, rfl, _⟩, e, u5, rfl, ⟨x, rfl, ⟨hx, hx2⟩, hxl⟩, f, u6, rfl, ⟨t, rfl, ⟨ht, ht2⟩, htl⟩, g, u7, rfl, ⟨k, rfl, ⟨hk, hk2⟩, hkl⟩, h3⟩ := h
  have h3 : u7 = [] := h3
  subst h3
  exact ⟨.mk n1 s1 s2 n2 x t k, by simp only [St.cells, stA]; rfl, by simp only [okS, okN]; exact ⟨⟨hs1, hxl⟩, ⟨hs2, htl⟩, hkl, hx, ht, hk⟩, by simp only [rgS]; exact ⟨hx2, ht2, hk2⟩⟩
theorem opensS : ∀ N, OpensB Tryz.prog N 49 QS ∧ OpensB Tryz.prog N 47 QSL
  | 0 => ⟨opensB_zero, opensB_zero⟩
  | N + 1 => by
    obtain ⟨h1, h2⟩ := opensS N
    have h3 := fsS N h2
    rw [Tryz.underlying49] at h3
    refine ⟨(opensB_struct Tryz.underlying49 h3).mono fun u hu => q_s hu, (opensB_slice Tryz.underlying47 (by kernel_rfl) (show (7 : Nat) ≠ 0 by decide) h1).mono ?_⟩
    rintro u ⟨l, hl, rfl, hll⟩
    obtain ⟨m, e1, e2, e3, e4⟩ := st_list l hl
    exact ⟨m, by rw [e1, e2]; rfl, ⟨e3, e4⟩, by rw [← e2]; exact hll⟩
theorem fsD : FsOpens Tryz.prog (match Tryz.prog.underlying 61 with | some (.struct fs) => fs.toList | _ => []) [QT, QB, QI] 0 (Tryz.prog.cellsOf 61) := by
  rw [Tryz.underlying61]
  refine ⟨rfl, opens_str Tryz.underlying9, ?_⟩
  refine ⟨by kernel_rfl, opens_bool Tryz.underlying4, ?_⟩
  refine ⟨by kernel_rfl, opens_int Tryz.underlying2, ?_⟩
  unfold FsOpens; kernel_rfl
theorem q_d {us : List AV} (h : FsQ [QT, QB, QI] us) : QD us := by
  obtain ⟨a, u1, rfl, ⟨s, rfl, hs⟩, b, u2, rfl, ⟨n1, rfl⟩, c, u3, rfl, ⟨n2, rfl, hw⟩, h3⟩ := h
  have h3 : u3 = [] := h3
  subst h3
  exact ⟨⟨s, n1, n2⟩, rfl, hs, wf_in hw⟩
theorem opensDL : Opens Tryz.prog 22 QDL := by
  have h3 := fsD
  rw [Tryz.underlying61] at h3
  refine opens_mono (opens_slice Tryz.underlying22 (by kernel_rfl) (show (3 : Nat) ≠ 0 by decide) (opens_mono (opens_struct Tryz.underlying61 h3) fun u hu => q_d hu)) ?_
  rintro u ⟨l, hl, rfl, hll⟩
  obtain ⟨m, e1, e2, e3⟩ := dc_list l hl
  exact ⟨m, by rw [e1, e2], ⟨by rw [← e2]; exact hll, fun d hd => (e3 d hd).1⟩, fun d hd => (e3 d hd).2⟩
theorem opensTL : Opens Tryz.prog 23 QTL := by
  refine opens_mono (opens_slice Tryz.underlying23 (by kernel_rfl) (show (1 : Nat) ≠ 0 by decide) (OpensB.all fun N => (opensS N).2)) ?_
  rintro u ⟨l, hl, rfl, hll⟩
  obtain ⟨m, e1, e2, e3, e4⟩ := th_list l hl
  exact ⟨m, by rw [e1, e2], ⟨e3, e4⟩, by rw [← e2]; exact hll⟩
theorem fsP : FsOpens Tryz.prog (match Tryz.prog.underlying 25 with | some (.struct fs) => fs.toList | _ => []) [QDL, QTL] 0 (Tryz.prog.cellsOf 25) := by
  rw [Tryz.underlying25]
  refine ⟨rfl, opensDL, ?_⟩
  refine ⟨by kernel_rfl, opensTL, ?_⟩
  unfold FsOpens; kernel_rfl
theorem opensP : OpensV Tryz.prog 25 fun u => ∃ p : Pr, u = p.av ∧ okP p ∧ rgP p := by
  have h3 := fsP
  rw [Tryz.underlying25] at h3
  refine opensV_mono (opensV_struct Tryz.underlying25 h3) ?_
  rintro u ⟨us, rfl, a, u1, rfl, ⟨ds, rfl, hd, hd2⟩, b, u2, rfl, ⟨ts, rfl, ⟨ht, ht2⟩, htl⟩, h4⟩
  have h4 : u2 = [] := h4
  subst h4
  exact ⟨⟨ds, ts⟩, rfl, ⟨hd, ht, htl⟩, hd2, ht2⟩
theorem opensX : OpensV Tryz.prog 28 fun u => ∃ e : Ex, u = .agg e.cells ∧ okE e ∧ rgE e := by
  have h3 : FsOpens Tryz.prog (match Tryz.prog.underlying 28 with | some (.struct fs) => fs.toList | _ => []) [QI, QI, QT, QEL] 0 (Tryz.prog.cellsOf 28) := by
    rw [Tryz.underlying28]
    refine ⟨rfl, opens_int Tryz.underlying3, ?_⟩
    refine ⟨by kernel_rfl, opens_int Tryz.underlying2, ?_⟩
    refine ⟨by kernel_rfl, opens_str Tryz.underlying9, ?_⟩
    refine ⟨by kernel_rfl, OpensB.all fun N => (opensE N).2, ?_⟩
    unfold FsOpens; kernel_rfl
  rw [Tryz.underlying28] at h3
  refine opensV_mono (opensV_struct Tryz.underlying28 h3) ?_
  rintro u ⟨us, rfl, hu⟩
  obtain ⟨e, rfl, he⟩ := q_e hu
  exact ⟨e, rfl, he⟩
theorem opensT : OpensV Tryz.prog 49 fun u => ∃ s : St, u = .agg s.cells ∧ okS s ∧ rgS s := by
  have h3 : FsOpens Tryz.prog (match Tryz.prog.underlying 49 with | some (.struct fs) => fs.toList | _ => []) [QI, QT, QT, QI, QEL, QSL, QSL] 0 (Tryz.prog.cellsOf 49) := by
    rw [Tryz.underlying49]
    refine ⟨rfl, opens_int Tryz.underlying3, ?_⟩
    refine ⟨by kernel_rfl, opens_str Tryz.underlying9, ?_⟩
    refine ⟨by kernel_rfl, opens_str Tryz.underlying9, ?_⟩
    refine ⟨by kernel_rfl, opens_int Tryz.underlying3, ?_⟩
    refine ⟨by kernel_rfl, OpensB.all fun N => (opensE N).2, ?_⟩
    refine ⟨by kernel_rfl, OpensB.all fun N => (opensS N).2, ?_⟩
    refine ⟨by kernel_rfl, OpensB.all fun N => (opensS N).2, ?_⟩
    unfold FsOpens; kernel_rfl
  rw [Tryz.underlying49] at h3
  refine opensV_mono (opensV_struct Tryz.underlying49 h3) ?_
  rintro u ⟨us, rfl, hu⟩
  obtain ⟨e, rfl, he⟩ := q_s hu
  exact ⟨e, rfl, he⟩
theorem opensN : OpensV Tryz.prog 3 fun u => ∃ n, u = .int .i64 n ∧ rgI n := by
  refine opensV_mono (opensV_int Tryz.underlying3) ?_
  rintro u ⟨n, rfl, hw⟩
  exact ⟨n, rfl, wf_in hw⟩
end Go.Proofs.YtkkfcfjhhdmamaaGreatDoor.lex
end


section

set_option linter.unusedVariables false
set_option linter.unusedSimpArgs false
namespace Go.Proofs.YtkkfcfjhhdmamaaGreatDoor.lex
open Go.Abs Go.RowKit
set_option maxRecDepth 100000
set_option maxHeartbeats 4000000
theorem livesV : ValOK Tryz.prog runLives.gl 6 [] (.bool true) := by
  intro sn W cargs hg hR ha
  refine (runLives.knownLives 6 [] [] (.bool true) [] (by kernel_rfl) sn noI W cargs hg hR ha).mono ?_
  rintro e W' ⟨v, sn', ι', rfl, hv, hs⟩
  cases hv.bool
  exact ⟨_, rfl, Stq.ext (Stp.q (k := 0) hR hs), by simp [VR]⟩
def one0 {gl : Glob} {f : Nat} {A : List AV} {R : AV} (G : Prop) (hb : hasBody Tryz.prog f = true) (hr : refsL A [] = []) (h : G → ValOK Tryz.prog gl f A R) : Fam Tryz.prog gl := { I := Unit, f := f, G := fun _ => G, A := fun _ => A, R := fun _ => R, body := hb, inj := (fun _ _ _ _ _ => rfl), ok := (fun _ hG => ⟨hr, h hG⟩) }
theorem e_refs (e : Ex) : refsL [.agg e.cells] [] = [] := by have := ex_refs e; simpa [refsL, refs] using this
theorem s_refs (x : St) : refsL [.agg x.cells] [] = [] := by obtain ⟨k, n, l, o, xs, t, e⟩ := x; rfl
theorem pr_le {p : Pr} (hg : rgP p) (h : lightP p 3000 = true) (hc : checkP p = 0) : (prT p).length ≤ 1073741824 := by
  obtain ⟨c1, c2, c3, c4⟩ := checkP_good hc
  have := prT_len p hg (by omega) h
  omega
theorem st_le {x : St} (hg : rgS x) (h : 0 ≤ heftS x 3000) (hc : checkP (soloP x) = 0) : (stT x 0).length + 1 ≤ 1073741824 := by
  obtain ⟨c1, c2, c3, c4⟩ := checkP_good hc
  rw [solo_deep] at c2
  have := stT_len x 0 3000 hg (by omega) h
  omega
theorem ex_le {e : Ex} (hg : rgE e) (h : 0 ≤ heftE e 3000) : (wrE e).length ≤ 1073741824 := by
  have := wrE_len e 3000 hg h
  omega
theorem sxLaw (p : Pr) (x : St) (e : Ex) (o r : Int) (hp : okP p ∧ rgP p) (hx : okS x ∧ rgS x) (he : okE e ∧ rgE e) : ValOK Tryz.prog runLives.gl 4 [p.av, .agg x.cells, .agg e.cells, .int .i64 o, .int .i64 r] (.bool true) := by
  obtain ⟨TP, hTP⟩ : ∃ t, (if checkP p = 0 then prT p else []) = t := ⟨_, rfl⟩
  obtain ⟨TS, hTS⟩ : ∃ t, (if checkP (soloP x) = 0 then stT x 0 ++ [10] else []) = t := ⟨_, rfl⟩
  obtain ⟨TE, hTE⟩ : ∃ t, (if checkE e = 0 then wrE e else []) = t := ⟨_, rfl⟩
  have lp : lightP p 3000 = true → sizeTL p.threads ≤ 1000000 := fun h => by have := lightP_size p 3000 h; omega
  have ls : 0 ≤ heftS x 3000 → sizeS x ≤ 1000000 := fun h => by have := heftS_size x 3000 h; omega
  have le : 0 ≤ heftE e 3000 → sizeE e ≤ 1048576 := fun h => by have := heftE_size e 3000 h; omega
  obtain ⟨O, hO, p1, p2, p4, p5, p6, p7, p8, p9, p10, p11, p12, p13, p14, -⟩ := fams (P := Tryz.prog) (gl := runLives.gl) [
    one0 (f := 6) (A := []) (R := .bool true) True (by kernel_rfl) rfl (fun _ => livesV),
    one0 (f := 7) (A := [p.av, .int .i64 3000]) (R := .bool (lightP p 3000)) True (by kernel_rfl) rfl (fun _ => lightP_ok p 3000 hp.1 (by omega) (by omega)),
    one0 (f := 8) (A := [.agg e.cells, .int .i64 3000]) (R := .bool (decide (0 ≤ heftE e 3000))) True (by kernel_rfl) (by have := ex_refs e; simpa [refsL, refs] using this) (fun _ => light_ok e 3000 he.1 (by omega) (by omega)),
    one0 (f := 9) (A := [p.av]) (R := .tuple [.str TP, .int .i64 (checkP p)]) (lightP p 3000 = true) (by kernel_rfl) rfl (fun h => hTP ▸ progP_ok p hp.1 hp.2 (lp h) (pr_le hp.2 h)),
    one0 (f := 18) (A := [p.av]) (R := .tuple [.str TP, .int .i64 (checkP p)]) (lightP p 3000 = true) (by kernel_rfl) rfl (fun h => hTP ▸ progR_ok p hp.1 hp.2 (lp h) (pr_le hp.2 h)),
    one0 (f := 19) (A := [.agg x.cells]) (R := .tuple [.str TS, .int .i64 (checkP (soloP x))]) (0 ≤ heftS x 3000) (by kernel_rfl) (s_refs x) (fun h => hTS ▸ stmtP_ok x hx.1 hx.2 (ls h) (st_le hx.2 h)),
    one0 (f := 20) (A := [.agg x.cells]) (R := .tuple [.str TS, .int .i64 (checkP (soloP x))]) (0 ≤ heftS x 3000) (by kernel_rfl) (s_refs x) (fun h => hTS ▸ stmtR_ok x hx.1 hx.2 (ls h) (st_le hx.2 h)),
    one0 (f := 13) (A := [.agg e.cells]) (R := .tuple [.str TE, .int .i64 (checkE e)]) (0 ≤ heftE e 3000) (by kernel_rfl) (e_refs e) (fun h => hTE ▸ exprP_ok e he.1 he.2 (le h) (fun _ => ex_le he.2 h)),
    one0 (f := 21) (A := [.agg e.cells]) (R := .tuple [.str TE, .int .i64 (checkE e)]) (0 ≤ heftE e 3000) (by kernel_rfl) (e_refs e) (fun h => hTE ▸ exprR_ok e he.1 he.2 (le h) (fun _ => ex_le he.2 h)),
    one0 (f := 22) (A := [.int .i64 o]) (R := .str (ordT o)) True (by kernel_rfl) rfl (fun _ => ordX_ok o),
    one0 (f := 23) (A := [.int .i64 o]) (R := .str (ordT o)) True (by kernel_rfl) rfl (fun _ => ordR_ok o),
    one0 (f := 24) (A := [.int .i64 r]) (R := .str (sgnT r)) True (by kernel_rfl) rfl (fun _ => sgnX_ok r),
    one0 (f := 25) (A := [.int .i64 r]) (R := .str (sgnT r)) True (by kernel_rfl) rfl (fun _ => sgnR_ok r)] rfl
  obtain ⟨O', hO', p3, ho⟩ := fz_add hO (f0 := 17) rfl (lightS_ok x hx.1) (by kernel_rfl)
  have q1 : ∀ H, acall Tryz.prog O' H 6 [] = some (.bool true, H) := fun H => ask_keep (p1 () trivial H) ho (by decide)
  have q2 : ∀ H, acall Tryz.prog O' H 7 [p.av, .int .i64 3000] = some (.bool (lightP p 3000), H) := fun H => ask_keep (p2 () trivial H) ho (by decide)
  have q4 : ∀ H, acall Tryz.prog O' H 8 [.agg e.cells, .int .i64 3000] = some (.bool (decide (0 ≤ heftE e 3000)), H) := fun H => ask_keep (p4 () trivial H) ho (by decide)
  have q5 : lightP p 3000 = true → ∀ H, acall Tryz.prog O' H 9 [p.av] = some (.tuple [.str TP, .int .i64 (checkP p)], H) := fun h H => ask_keep (p5 () h H) ho (by decide)
  have q6 : lightP p 3000 = true → ∀ H, acall Tryz.prog O' H 18 [p.av] = some (.tuple [.str TP, .int .i64 (checkP p)], H) := fun h H => ask_keep (p6 () h H) ho (by decide)
  have q7 : 0 ≤ heftS x 3000 → ∀ H, acall Tryz.prog O' H 19 [.agg x.cells] = some (.tuple [.str TS, .int .i64 (checkP (soloP x))], H) := fun h H => ask_keep (p7 () h H) ho (by decide)
  have q8 : 0 ≤ heftS x 3000 → ∀ H, acall Tryz.prog O' H 20 [.agg x.cells] = some (.tuple [.str TS, .int .i64 (checkP (soloP x))], H) := fun h H => ask_keep (p8 () h H) ho (by decide)
  have q9 : 0 ≤ heftE e 3000 → ∀ H, acall Tryz.prog O' H 13 [.agg e.cells] = some (.tuple [.str TE, .int .i64 (checkE e)], H) := fun h H => ask_keep (p9 () h H) ho (by decide)
  have q10 : 0 ≤ heftE e 3000 → ∀ H, acall Tryz.prog O' H 21 [.agg e.cells] = some (.tuple [.str TE, .int .i64 (checkE e)], H) := fun h H => ask_keep (p10 () h H) ho (by decide)
  have q11 : ∀ H, acall Tryz.prog O' H 22 [.int .i64 o] = some (.str (ordT o), H) := fun H => ask_keep (p11 () trivial H) ho (by decide)
  have q12 : ∀ H, acall Tryz.prog O' H 23 [.int .i64 o] = some (.str (ordT o), H) := fun H => ask_keep (p12 () trivial H) ho (by decide)
  have q13 : ∀ H, acall Tryz.prog O' H 24 [.int .i64 r] = some (.str (sgnT r), H) := fun H => ask_keep (p13 () trivial H) ho (by decide)
  have q14 : ∀ H, acall Tryz.prog O' H 25 [.int .i64 r] = some (.str (sgnT r), H) := fun H => ask_keep (p14 () trivial H) ho (by decide)
  clear p1 p2 p4 p5 p6 p7 p8 p9 p10 p11 p12 p13 p14 hO ho hTP hTS hTE lp ls le hp hx he
  generalize checkP p = c1 at *
  generalize checkP (soloP x) = c2 at *
  generalize checkE e = c3 at *
  generalize lightP p 3000 = l1 at *
  generalize heftS x 3000 = h2 at *
  generalize heftE e 3000 = h3 at *
  generalize ordT o = od at *
  generalize sgnT r = sg at *
  simp only [stA, stC, List.length_cons, List.length_nil] at p3
  obtain ⟨ds, ts⟩ := p
  obtain ⟨op, num, name, kids⟩ := e
  obtain ⟨k, nm, lc, o', xs, th, el⟩ := x
  simp only [Pr.av, Ex.cells, St.cells, exA, List.append_nil] at *
  have f1 : (TP == TP) = true := by simp
  have f2 : (TS == TS) = true := by simp
  have f3 : (TE == TE) = true := by simp
  have f4 : (c1 == c1) = true := by simp
  have f5 : (c2 == c2) = true := by simp
  have f6 : (c3 == c3) = true := by simp
  have f7 : (od == od) = true := by simp
  have f8 : (sg == sg) = true := by simp
  refine fn_val follows noNum hO' Tryz.func4 rfl ?_
  cases l1 with
  | false =>
    repeat' ((conv => whnf); first | (with_reducible refine exI (q1 _) ?_) | (with_reducible refine exI (q2 _) ?_) | (first | refine stp ?_ | with_reducible refine condB (fun h => ?_) (fun h => ?_)))
    all_goals rfl
  | true =>
    have q5 := q5 rfl
    have q6 := q6 rfl
    by_cases g2 : 0 ≤ h2
    · have e2 : decide (0 ≤ h2) = true := by simpa using g2
      rw [e2] at p3
      have q7 := q7 g2
      have q8 := q8 g2
      by_cases g3 : 0 ≤ h3
      · have e3 : decide (0 ≤ h3) = true := by simpa using g3
        rw [e3] at q4
        have q9 := q9 g3
        have q10 := q10 g3
        repeat' ((conv => whnf); first | (with_reducible refine exI (q1 _) ?_) | (with_reducible refine exI (q2 _) ?_) | (refine exI (p3 _ _ rfl) ?_) | (with_reducible refine exI (q4 _) ?_) | (with_reducible refine exI (q5 _) ?_) | (with_reducible refine exI (q6 _) ?_) | (with_reducible refine exI (q7 _) ?_) | (with_reducible refine exI (q8 _) ?_) | (with_reducible refine exI (q9 _) ?_) | (with_reducible refine exI (q10 _) ?_) | (with_reducible refine exI (q11 _) ?_) | (with_reducible refine exI (q12 _) ?_) | (with_reducible refine exI (q13 _) ?_) | (with_reducible refine exI (q14 _) ?_) | (first | refine stp ?_ | with_reducible refine condB (fun h => ?_) (fun h => ?_)))
        conv => whnf
        all_goals (rw [f8]; rfl)
      · have e3 : decide (0 ≤ h3) = false := by simpa using g3
        rw [e3] at q4
        repeat' ((conv => whnf); first | (with_reducible refine exI (q1 _) ?_) | (with_reducible refine exI (q2 _) ?_) | (refine exI (p3 _ _ rfl) ?_) | (with_reducible refine exI (q4 _) ?_) | (first | refine stp ?_ | with_reducible refine condB (fun h => ?_) (fun h => ?_)))
        all_goals rfl
    · have e2 : decide (0 ≤ h2) = false := by simpa using g2
      rw [e2] at p3
      repeat' ((conv => whnf); first | (with_reducible refine exI (q1 _) ?_) | (with_reducible refine exI (q2 _) ?_) | (refine exI (p3 _ _ rfl) ?_) | (first | refine stp ?_ | with_reducible refine condB (fun h => ?_) (fun h => ?_)))
      all_goals rfl
end Go.Proofs.YtkkfcfjhhdmamaaGreatDoor.lex
namespace Go.Proofs.YtkkfcfjhhdmamaaGreatDoor.sxLaw
open Go.Abs Go.RowKit
def Qs : List (AV → Prop) := [fun u => ∃ p : lex.Pr, u = p.av ∧ lex.okP p ∧ lex.rgP p, fun u => ∃ s : lex.St, u = .agg s.cells ∧ lex.okS s ∧ lex.rgS s, fun u => ∃ e : lex.Ex, u = .agg e.cells ∧ lex.okE e ∧ lex.rgE e, fun u => ∃ n, u = .int .i64 n ∧ lex.rgI n, fun u => ∃ n, u = .int .i64 n ∧ lex.rgI n]
theorem opens : OpensAll Tryz.prog Tryz.f4.params.toList Qs := by
  rw [Tryz.params4]
  exact ⟨lex.opensP, lex.opensT, lex.opensX, lex.opensN, lex.opensN, trivial⟩
theorem law (us : List AV) (h : AllQ Qs us) : ValOK Tryz.prog runLives.gl 4 us (.bool true) := by
  obtain ⟨_, _, rfl, ⟨p, rfl, hp⟩, h1⟩ := allQ_cons h
  obtain ⟨_, _, rfl, ⟨x, rfl, hx⟩, h2⟩ := allQ_cons h1
  obtain ⟨_, _, rfl, ⟨e, rfl, he⟩, h3⟩ := allQ_cons h2
  obtain ⟨_, _, rfl, ⟨o, rfl, ho⟩, h4⟩ := allQ_cons h3
  obtain ⟨_, _, rfl, ⟨r, rfl, hr⟩, h5⟩ := allQ_cons h4
  cases allQ_nil h5
  exact lex.sxLaw p x e o r hp hx he
theorem solid : Solid Tryz.prog := by unfold Solid; kernel_rfl
end Go.Proofs.YtkkfcfjhhdmamaaGreatDoor.sxLaw
end


/-
  Texts of this proof, one behind the other (part 9).
-/
import Derived.Test.YtcbjhdklbhlmhaaGreatDoorPack8

/-
  A verified abstract interpreter, part 46: what is read of types that hold themselves.
-/
section
set_option linter.unusedSimpArgs false
set_option linter.unusedVariables false
namespace Go.Abs
open Go.RowKit Go.ChangeShapes Go.WideShapes Go.ChangeAt

/-- Read with at most so much fuel. -/
def OpensB (P : Program) (N : Nat) (t : TypeId) (Q : List AV → Prop) : Prop :=
  ∀ (H : Type) (enc : TypeId × Value → H) (W : World) (fuel : Nat) (cs : List Value) (x : DataW H × List MemPlace), fuel ≤ N → DataW.trod enc P W 0 (fun _ => true) true fuel t cs = some x → ∃ us, Q us ∧ LR (snap0 W) noI us cs

section opens
variable {P : Program}
theorem OpensB.mono {N : Nat} {t : TypeId} {Q Q' : List AV → Prop} (h : OpensB P N t Q) (hq : ∀ u, Q u → Q' u) : OpensB P N t Q' := fun H enc W fuel cs x hN hx => let ⟨u, h1, h2⟩ := h H enc W fuel cs x hN hx; ⟨u, hq _ h1, h2⟩
theorem OpensB.of {N : Nat} {t : TypeId} {Q : List AV → Prop} (h : Opens P t Q) : OpensB P N t Q := fun H enc W fuel cs x _ hx => h H enc W fuel cs x hx
theorem OpensB.all {t : TypeId} {Q : List AV → Prop} (h : ∀ N, OpensB P N t Q) : Opens P t Q := fun H enc W fuel cs x hx => h fuel H enc W fuel cs x (Nat.le_refl _) hx
theorem opensB_zero {t : TypeId} {Q : List AV → Prop} : OpensB P 0 t Q := fun H enc W fuel cs x hN hx => by
  obtain rfl : fuel = 0 := by omega
  simp [DataW.trod] at hx
/-- A slice: none, or one with such elements. -/
theorem opensB_slice {N : Nat} {t e : TypeId} {z : Nat} {Q : List AV → Prop} (ht : P.underlying t = some (.slice e)) (hz : P.cellsOf e = z) (hz0 : z ≠ 0) (he : OpensB P N e Q) :
    OpensB P (N + 1) t fun us => ∃ l : List (List AV), (∀ u ∈ l, Q u ∧ u.length = z) ∧ us = [.rs l.length z l.flatten] ∧ l.length ≤ maxLen := by
  intro H enc W fuel cs x hN h
  rcases DataW.trod_slice ht h with ⟨rfl, _⟩ | ⟨a, len, cap, els, rest, n, hfu, rfl, _, _, hlc, hcm, hl, hel, hrest⟩
  · exact ⟨_, ⟨[], by simp, rfl, by simp⟩, by simp [LR, VR]⟩
  · rw [hz] at hel
    have each : ∀ i, i < len → ∃ (vs : List Value) (u : List AV), W.cells? 0 (a.add (i * z)) z = some vs ∧ Q u ∧ LR (snap0 W) noI u vs := by
      intro i hi
      have h1 := hel i hi
      have h2 : els[i]? = some els[i] := List.getElem?_eq_getElem (by omega)
      rw [h2] at h1
      simp only [Option.bind_eq_some_iff] at h1
      obtain ⟨vs, h3, h4⟩ := h1
      obtain ⟨u, h5, h6⟩ := he H enc W n vs _ (by omega) h4
      exact ⟨vs, u, h3, h5, h6⟩
    have hex : ∃ (l : List (List AV)) (vss : List (List Value)), l.length = len ∧ vss.length = len ∧ ∀ i, i < len → ∃ vs u, l[i]? = some u ∧ vss[i]? = some vs ∧ W.cells? 0 (a.add (i * z)) z = some vs ∧ Q u ∧ LR (snap0 W) noI u vs := by
      clear hel hl h hlc hcm hrest
      induction len with
      | zero => exact ⟨[], [], rfl, rfl, fun i hi => by omega⟩
      | succ m ih =>
        obtain ⟨l, vss, h1, h2, h3⟩ := ih fun i hi => each i (by omega)
        obtain ⟨vs, u, g1, g2, g3⟩ := each m (by omega)
        refine ⟨l ++ [u], vss ++ [vs], by simp [h1], by simp [h2], fun i hi => ?_⟩
        by_cases e : i = m
        · subst e
          exact ⟨vs, u, by simp [← h1], by simp [← h2], g1, g2, g3⟩
        · obtain ⟨vs', u', k1, k2, k3⟩ := h3 i (by omega)
          exact ⟨vs', u', by rw [List.getElem?_append_left (by omega)]; exact k1, by rw [List.getElem?_append_left (by omega)]; exact k2, k3⟩
    obtain ⟨l, vss, h1, h2, h3⟩ := hex
    have hll : ∀ u ∈ l, Q u ∧ u.length = z := by
      intro u hu
      obtain ⟨i, hi, rfl⟩ := List.mem_iff_getElem.1 hu
      obtain ⟨vs, u', k1, k2, k3, k4, k5⟩ := h3 i (by omega)
      rw [List.getElem?_eq_getElem hi] at k1; simp at k1
      rw [k1]
      exact ⟨k4, by rw [← k5.length, (cells?_get k3).1]⟩
    refine ⟨_, ⟨l, hll, rfl, by omega⟩, ?_⟩
    simp only [LR]
    refine ⟨_, _, rfl, ?_, rfl⟩
    simp only [VR]
    have hfl : l.flatten.length = l.length * z := by
      clear h1 h3
      induction l with
      | nil => simp
      | cons u l ih => simp only [List.flatten_cons, List.length_append, List.length_cons, (hll u (by simp)).2, ih fun v hv => hll v (by simp [hv])]; rw [Nat.add_mul]; omega
    have hspot : len ≠ 0 → a.spot = none := by
      intro h0
      obtain ⟨vs, u, k1, k2, k3, k4, k5⟩ := h3 0 (by omega)
      obtain ⟨g1, g2⟩ := cells?_get k3
      have : W.cell? ((a.add (0 * z)).add 0) = some vs[0] := g2 0 _ (List.getElem?_eq_getElem (by omega))
      rw [Nat.zero_mul] at this
      simpa [Addr.add] using World.cell?_spot this
    refine .inr ⟨a, cap, by rw [h1], by omega, hfl, mr_of_get fun k u hu => ?_, fun h0 => hspot (by rw [← h1]; exact h0)⟩
    obtain ⟨x', g1, g2⟩ := flatten_at hz0 (fun u hu => (hll u hu).2) hu
    have hklt : k / z < len := by rw [← h1]; exact (List.getElem?_eq_some_iff.1 g1).1
    obtain ⟨vs, u', k1, k2, k3, k4, k5⟩ := h3 (k / z) hklt
    rw [g1] at k1; simp at k1; subst k1
    obtain ⟨v, e1, e2⟩ := k5.get g2
    refine ⟨v, ?_, e2⟩
    have hc := (cells?_get k3).2 _ _ e1
    rw [addr_addadd a (hspot (Nat.ne_of_gt (Nat.lt_of_le_of_lt (Nat.zero_le _) hklt)))] at hc
    have hk : a.off + k / z * z + k % z = a.off + k := by rw [Nat.add_assoc, Nat.mul_comm, Nat.div_add_mod]
    rw [hk] at hc
    unfold snap0
    have hlt : a.block < W.heap.size := by
      cases hq : W.heap[a.block]? with
      | none => unfold World.cell? at hc; simp only [hq] at hc; cases hc
      | some ob => exact (Array.getElem?_eq_some_iff.1 hq).1
    rw [if_pos (by exact hlt)]; exact hc

def FsOpensB (P : Program) (N : Nat) : List Field → List (List AV → Prop) → Nat → Nat → Prop
  | [], [], off, tot => off = tot
  | f :: fs, Q :: Qs, off, tot => f.offset = off ∧ OpensB P N f.type Q ∧ FsOpensB P N fs Qs (off + P.cellsOf f.type) tot
  | _, _, _, _ => False

theorem opensB_fs {N : Nat} {H : Type} {enc : TypeId × Value → H} {W : World} {n tot : Nat} {cs : List Value} (hcs : cs.length = tot) (hN : n ≤ N) : ∀ {fs : List Field} {Qs : List (List AV → Prop)} {xs : List (DataW H × List MemPlace)} {off : Nat}, FsOpensB P N fs Qs off tot → xs.length = fs.length → off ≤ tot →
    (∀ (i : Nat) (f : Field), fs[i]? = some f → DataW.trod enc P W 0 (fun _ => true) true n f.type ((cs.drop f.offset).take (P.cellsOf f.type)) = xs[i]?) → ∃ us, FsQ Qs us ∧ LR (snap0 W) noI us (cs.drop off)
  | [], [], xs, off, h, hl, ho, hx => by
    have : off = tot := h
    subst this
    exact ⟨[], rfl, by simp [LR, ← hcs]⟩
  | f :: fs, Q :: Qs, xs, off, h, hl, ho, hx => by
    obtain ⟨h1, h2, h3⟩ := h
    cases xs with
    | nil => simp at hl
    | cons x xs =>
      have h0 := hx 0 f rfl
      simp only [List.getElem?_cons_zero] at h0
      obtain ⟨u, q1, q2⟩ := h2 H enc W n _ _ hN h0
      have hle : ∀ (fs : List Field) (Qs : List (List AV → Prop)) (o : Nat), FsOpensB P N fs Qs o tot → o ≤ tot := by
        intro fs
        induction fs with
        | nil => intro Qs o h; cases Qs with | nil => exact Nat.le_of_eq h | cons _ _ => exact h.elim
        | cons g gs ih => intro Qs o h; cases Qs with | nil => exact h.elim | cons _ _ => have := ih _ _ h.2.2; omega
      obtain ⟨us, q3, q4⟩ := opensB_fs hcs hN h3 (by simpa using hl) (hle _ _ _ h3) fun i g hg => by simpa using hx (i + 1) g (by simpa using hg)
      refine ⟨u ++ us, ⟨u, us, rfl, q1, q3⟩, ?_⟩
      rw [h1] at q2
      have := q2.append q4
      rwa [← List.drop_drop, List.take_append_drop] at this
  | [], _ :: _, xs, off, h, hl, ho, hx => h.elim
  | _ :: _, [], xs, off, h, hl, ho, hx => h.elim

theorem opensB_struct {N : Nat} {t : TypeId} {fs : Array Field} {Qs : List (List AV → Prop)} (ht : P.underlying t = some (.struct fs)) (h : FsOpensB P N fs.toList Qs 0 (P.cellsOf t)) : OpensB P (N + 1) t (FsQ Qs) := by
  intro H enc W fuel cs x hN hx
  obtain ⟨xs, n, hfu, _, hl, hlen, hf⟩ := DataW.trod_struct ht hx
  obtain ⟨us, h1, h2⟩ := opensB_fs hl (by omega) h (by simpa using hlen) (Nat.zero_le _) fun i f hi => hf i f (by simpa using hi)
  exact ⟨us, h1, by simpa using h2⟩
end opens

end Go.Abs
end

/-
  Lists of texts that are the same.
-/
section
set_option linter.unusedVariables false
set_option linter.unusedSimpArgs false
namespace Go.Proofs.YtcbjhdklbhlmhaaGreatDoor.lex
open Go.Abs Go.RowKit
set_option maxRecDepth 100000
set_option maxHeartbeats 4000000
variable {gl : Glob}
/-- The same texts. -/
theorem ktexts_ok (l : List (List UInt8)) (h : l.length ≤ 1048576) : ValOK Tryz.prog gl 14 [rsK l, rsK l] (.bool true) := by
  unfold rsK
  refine fn_val follows noNum none_sound Tryz.func14 rfl ?_
  have e0 : ((l.length : Int) != (l.length : Int)) = false := bne_of (b := true) (by simp)
  repeat' ((conv => whnf); first | refine stp ?_ | with_reducible refine condB (fun h => ?_) (fun h => ?_))
  conv => whnf
  refine ⟨Nat, (fun i => i ≤ l.length), (fun i => [(0, .rs l.length 1 (l.map .str)), (1, .rs l.length 1 (l.map .str)), (5, .int .i64 i)]), (fun _ => []), (fun i => l.length - i), ⟨0, Nat.zero_le _, FgL.mk0 rfl ?_⟩, ?_⟩
  · (repeat (first | exact trivial | refine stw ?_))
  intro i hi
  dsimp only
  by_cases hlt : i < l.length
  · have e1 : decide ((i : Int) < (l.length : Int)) = true := by simpa using hlt
    have hx := tk1_map AV.str l i hlt (off := i * 1) (by omega)
    have e2 : (!(l[i] == l[i])) = false := by simp
    generalize l[i] = x at *
    repeat' ((conv => whnf); first | (with_reducible refine ixJ i rfl ?_ ?_; (focus (omega))) | (refine exI hx ?_) | (first | refine stp ?_ | with_reducible refine condB (fun h => ?_) (fun h => ?_)))
    conv => whnf
    refine ⟨i + 1, hlt, by show l.length - (i + 1) < l.length - i; omega, FgL.mk0 rfl ?_⟩
    (repeat (first | exact trivial | refine stw ?_))
  · have e1 : decide ((i : Int) < (l.length : Int)) = false := by simpa using hlt
    repeat' ((conv => whnf); first | refine stp ?_ | with_reducible refine condB (fun h => ?_) (fun h => ?_))
    all_goals rfl
end Go.Proofs.YtcbjhdklbhlmhaaGreatDoor.lex
end

/-
  'lives', run by the kernel.
-/
section
set_option linter.unusedVariables false
namespace Go.Proofs.YtcbjhdklbhlmhaaGreatDoor.runLives
open Go.RowKit Go.Abs
set_option maxRecDepth 100000
theorem lives : saysTrue (frun Tryz.prog gl [] 100000 100 4 [] TH.empty) = true := by kernel_rfl
theorem knownLives : OrcSound Tryz.prog gl (tblO [(4, [])]) := known_true follows noNum tblO_nil rfl lives

end Go.Proofs.YtcbjhdklbhlmhaaGreatDoor.runLives
end

/-
  Expressions with numbers in their range, lists of words, lists of numbers: what is read of them.
-/
section
set_option linter.unusedVariables false
set_option linter.unusedSimpArgs false
namespace Go.Proofs.YtcbjhdklbhlmhaaGreatDoor.lex
open Go.Abs Go.RowKit
set_option maxRecDepth 100000
set_option maxHeartbeats 4000000
def OE (us : List AV) : Prop := ∃ e : Ex, us = e.cells ∧ okI e
def OEL (us : List AV) : Prop := ∃ l : List Ex, us = [exA l] ∧ (okL l ∧ inL l) ∧ l.length ≤ maxLen
def OI (us : List AV) : Prop := ∃ n, us = [.int .i64 n] ∧ (Lit.int .i64 n).wf = true
def OT (us : List AV) : Prop := ∃ s : List UInt8, us = [.str s] ∧ s.length ≤ maxLen
theorem wf_in {n : Int} (h : (Lit.int .i64 n).wf = true) : -9223372036854775808 ≤ n ∧ n ≤ 9223372036854775807 := by
  have h' : IntKind.i64.min ≤ n ∧ n ≤ 9223372036854775807 := by simpa [Lit.wf] using h
  have h2 : IntKind.i64.min = -9223372036854775808 := rfl
  omega
theorem oex_list : ∀ l : List (List AV), (∀ u ∈ l, OE u ∧ u.length = 4) → ∃ m : List Ex, l.flatten = exC m ∧ l.length = m.length ∧ okL m ∧ inL m
  | [], _ => ⟨[], by simp only [exC, List.flatten_nil], rfl, trivial, trivial⟩
  | u :: l, h => by
    obtain ⟨m, h1, h2, h3, h5⟩ := oex_list l fun v hv => h v (by simp [hv])
    obtain ⟨⟨e, rfl, h4⟩, _⟩ := h u (by simp)
    exact ⟨e :: m, by simp only [List.flatten_cons, exC, h1], by simp [h2], by simp only [okL]; exact ⟨h4.1, h3⟩, by simp only [inL]; exact ⟨h4.2, h5⟩⟩
theorem ofsE (N : Nat) (h : OpensB Tryz.prog N 22 OEL) : FsOpensB Tryz.prog N (match Tryz.prog.underlying 24 with | some (.struct fs) => fs.toList | _ => []) [OI, OI, OT, OEL] 0 (Tryz.prog.cellsOf 24) := by
  rw [Tryz.underlying24]
  refine ⟨rfl, .of (opens_int Tryz.underlying3), ?_⟩
  refine ⟨by kernel_rfl, .of (opens_int Tryz.underlying2), ?_⟩
  refine ⟨by kernel_rfl, .of (opens_str Tryz.underlying9), ?_⟩
  refine ⟨by kernel_rfl, h, ?_⟩
  unfold FsOpensB; kernel_rfl
theorem oq_e {us : List AV} (h : FsQ [OI, OI, OT, OEL] us) : OE us := by
  obtain ⟨a, u1, rfl, ⟨n1, rfl, _⟩, b, u2, rfl, ⟨n2, rfl, hw⟩, c, u3, rfl, ⟨s, rfl, hs⟩, d, u4, rfl, ⟨k, rfl, ⟨hk, hik⟩, hkl⟩, h3⟩ := h
  have h3 : u4 = [] := h3
  subst h3
  exact ⟨.mk n1 n2 s k, by simp only [Ex.cells]; rfl, by simp only [okE, okN]; exact ⟨⟨hs, hkl⟩, hk⟩, by simp only [inE]; exact ⟨wf_in hw, hik⟩⟩
theorem oopensE : ∀ N, OpensB Tryz.prog N 24 OE ∧ OpensB Tryz.prog N 22 OEL
  | 0 => ⟨opensB_zero, opensB_zero⟩
  | N + 1 => by
    obtain ⟨h1, h2⟩ := oopensE N
    have h3 := ofsE N h2
    rw [Tryz.underlying24] at h3
    refine ⟨(opensB_struct Tryz.underlying24 h3).mono fun u hu => oq_e hu, (opensB_slice Tryz.underlying22 (by kernel_rfl) (show (4 : Nat) ≠ 0 by decide) h1).mono ?_⟩
    rintro u ⟨l, hl, rfl, hll⟩
    obtain ⟨m, e1, e2, e3, e4⟩ := oex_list l hl
    exact ⟨m, by rw [e1, e2]; rfl, ⟨e3, e4⟩, by rw [← e2]; exact hll⟩
theorem oopensX : OpensV Tryz.prog 24 fun u => ∃ e : Ex, u = .agg e.cells ∧ okI e := by
  have h3 : FsOpens Tryz.prog (match Tryz.prog.underlying 24 with | some (.struct fs) => fs.toList | _ => []) [OI, OI, OT, OEL] 0 (Tryz.prog.cellsOf 24) := by
    rw [Tryz.underlying24]
    refine ⟨rfl, opens_int Tryz.underlying3, ?_⟩
    refine ⟨by kernel_rfl, opens_int Tryz.underlying2, ?_⟩
    refine ⟨by kernel_rfl, opens_str Tryz.underlying9, ?_⟩
    refine ⟨by kernel_rfl, OpensB.all fun N => (oopensE N).2, ?_⟩
    unfold FsOpens; kernel_rfl
  rw [Tryz.underlying24] at h3
  refine opensV_mono (opensV_struct Tryz.underlying24 h3) ?_
  rintro u ⟨us, rfl, hu⟩
  obtain ⟨e, rfl, he⟩ := oq_e hu
  exact ⟨e, rfl, he⟩
theorem ow_list : ∀ l : List (List AV), (∀ u ∈ l, OT u ∧ u.length = 1) → ∃ m : List (List UInt8), l.flatten = m.map .str ∧ l.length = m.length
  | [], _ => ⟨[], rfl, rfl⟩
  | u :: l, h => by
    obtain ⟨m, h1, h2⟩ := ow_list l fun v hv => h v (by simp [hv])
    obtain ⟨⟨s, rfl, _⟩, _⟩ := h u (by simp)
    exact ⟨s :: m, by simp [h1], by simp [h2]⟩
theorem oi_list : ∀ l : List (List AV), (∀ u ∈ l, OI u ∧ u.length = 1) → ∃ m : List Int, l.flatten = ksC m ∧ l.length = m.length
  | [], _ => ⟨[], rfl, rfl⟩
  | u :: l, h => by
    obtain ⟨m, h1, h2⟩ := oi_list l fun v hv => h v (by simp [hv])
    obtain ⟨⟨s, rfl, _⟩, _⟩ := h u (by simp)
    exact ⟨s :: m, by simp [h1, ksC], by simp [h2]⟩
theorem oopensW : OpensV Tryz.prog 25 fun u => ∃ n : List (List UInt8), u = rsK n := by
  refine opensV_mono (opensV_slice Tryz.underlying25 (by kernel_rfl) (show (1 : Nat) ≠ 0 by decide) (opens_str Tryz.underlying9)) ?_
  rintro u ⟨l, hl, rfl, _⟩
  obtain ⟨m, e1, e2⟩ := ow_list l hl
  exact ⟨m, by rw [e1, e2]; rfl⟩
theorem oopensI : OpensV Tryz.prog 26 fun u => ∃ l : List Int, u = .rs l.length 1 (ksC l) := by
  refine opensV_mono (opensV_slice Tryz.underlying26 (by kernel_rfl) (show (1 : Nat) ≠ 0 by decide) (opens_int Tryz.underlying2)) ?_
  rintro u ⟨l, hl, rfl, _⟩
  obtain ⟨m, e1, e2⟩ := oi_list l hl
  exact ⟨m, by rw [e1, e2]⟩
theorem oopensT : OpensV Tryz.prog 9 fun u => ∃ s : List UInt8, u = .str s := by
  refine opensV_mono (opensV_str Tryz.underlying9) ?_
  rintro u ⟨s, rfl, _⟩
  exact ⟨s, rfl⟩
end Go.Proofs.YtcbjhdklbhlmhaaGreatDoor.lex
end

/-
  'cantileverlaw07.ValueCalls': whatever it is handed, it says true.
-/
section
set_option linter.unusedVariables false
set_option linter.unusedSimpArgs false
namespace Go.Proofs.YtcbjhdklbhlmhaaGreatDoor.lex
open Go.Abs Go.RowKit
set_option maxRecDepth 100000
set_option maxHeartbeats 4000000
theorem livesV : ValOK Tryz.prog runLives.gl 4 [] (.bool true) := by
  intro sn W cargs hg hR ha
  refine (runLives.knownLives 4 [] [] (.bool true) [] (by kernel_rfl) sn noI W cargs hg hR ha).mono ?_
  rintro e W' ⟨v, sn', ι', rfl, hv, hs⟩
  cases hv.bool
  exact ⟨_, rfl, Stq.ext (Stp.q (k := 0) hR hs), by simp [VR]⟩
mutual
theorem sameE_rfl : ∀ e : Ex, sameE e e = true
  | .mk o n s k => by simp only [sameE, sameL_rfl k, beq_self_eq_true, Bool.and_true]
theorem sameL_rfl : ∀ l : List Ex, sameL l l = true
  | [] => by simp only [sameL]
  | e :: l => by simp only [sameL, sameE_rfl e, sameL_rfl l, Bool.and_true]
end
theorem light_sizeV (e : Ex) (h : 0 ≤ heftE e 3000) : sizeE e ≤ 3000 := by have := heftE_size e 3000 h; omega
def smX (e : Ex) : Ex := if checkE e = 0 then simpE e else zeroX
def ptX (e : Ex) (nm : List UInt8) (b : Ex) : Ex := if putI e nm b = 0 then putE nm b e else zeroX
theorem zero_ok : okE zeroX := by simp [zeroX, okE, okN, okL]
theorem smX_ok {e : Ex} (h : okI e) : okE (smX e) := by
  unfold smX
  split
  · rename_i h0; exact (good_simp (check0 h0 h).1).2.2
  · exact zero_ok
theorem ptX_ok {e b : Ex} {nm : List UInt8} (h : okI e) (hb : okI b) : okE (ptX e nm b) := by
  unfold ptX
  split
  · rename_i h0
    have h1 : checkE e = 0 := by
      unfold putI at h0
      by_cases hc : checkE e = 0
      · exact hc
      · rw [if_pos hc] at h0; exact absurd h0 hc
    have h2 : checkE b = 0 := by
      unfold putI at h0
      rw [if_neg (fun h => h h1)] at h0
      by_cases hc : checkE b = 0
      · exact hc
      · rw [if_pos hc] at h0; exact absurd h0 hc
    exact (good_put (check0 h2 hb).1 (check0 h1 h).1).2.2
  · exact zero_ok
def bxs (e b : Ex) (reg : List (List UInt8 × Int)) : AHeap := [⟨true, 0, 0, .cells e.cells 24⟩, ⟨true, 1, 0, .cells b.cells 24⟩, mapO 2 reg]
theorem evFrame2 {gl : Glob} {f : Nat} {e b : Ex} {reg : List (List UInt8 × Int)} {r : AV} (hM : MemOK Tryz.prog gl f [.agg e.cells, .map 0] (mapH reg) r (mapH reg)) (h1 : noRO r = true) (h2 : allLt 1 (refs r []) = true)
    (h3 : ren (fun b => ([2] : List Nat).getD b 0) r = r) : MemOK Tryz.prog gl f [.agg e.cells, .map 2] (bxs e b reg) r (bxs e b reg) := by
  have h := mem_frame (m := [2]) (n := 30) (Hc := bxs e b reg) (cargs := [.agg e.cells, .map 2]) hM (by obtain ⟨a1, a2, a3, a4⟩ := e; obtain ⟨b1, b2, b3, b4⟩ := b; rfl) ⟨⟨rfl, rfl, rfl, rfl, ⟨rfl, mp_ge _ _ _⟩⟩, trivial⟩ rfl (by obtain ⟨a1, a2, a3, a4⟩ := e; obtain ⟨b1, b2, b3, b4⟩ := b; rfl) (mapH_evo reg) (by simp only [mapH, mapO, noROH, noROB, mp_noRO]; rfl) h1 h2
  have e1 : updM [2] (mapH reg) 0 (bxs e b reg) = bxs e b reg := by
    have h1 : updM [2] (mapH reg) 0 (bxs e b reg) = [⟨true, 0, 0, .cells e.cells 24⟩, ⟨true, 1, 0, .cells b.cells 24⟩, ⟨true, 2, 0, renB (fun b => ([2] : List Nat).getD b 0) (.map (mpE 0 reg) reg.length)⟩] := rfl
    rw [h1]
    simp only [renB, mp_ren]; rfl
  rw [e1, h3] at h
  exact h
def famBx {f : Nat} (hb : hasBody Tryz.prog f = true) (reg : List (List UInt8 × Int)) (e b : Ex) (r : AV) (h1 : noRO r = true) (h2 : allLt 1 (refs r []) = true) (h3 : ren (fun b => ([2] : List Nat).getD b 0) r = r) (hM : MemOK Tryz.prog runLives.gl f [.agg e.cells, .map 0] (mapH reg) r (mapH reg)) : FamM Tryz.prog runLives.gl :=
  { I := Unit, f := f, G := fun _ => True, A := fun _ => [.agg e.cells, .map 2], H := fun _ => bxs e b reg, R := fun _ => r, O := fun _ => bxs e b reg, body := hb, inj := (fun _ _ _ _ _ _ => ⟨rfl, rfl⟩), ok := (fun _ _ => evFrame2 hM h1 h2 h3) }
theorem valueLaw (e b : Ex) (names : List (List UInt8)) (l : List Int) (nm : List UInt8) (he : okI e) (hb : okI b) : ValOK Tryz.prog runLives.gl 3 [.agg e.cells, .agg b.cells, rsK names, .rs l.length 1 (ksC l), .str nm] (.bool true) := by
  obtain ⟨reg, hreg⟩ : ∃ reg, regsN names l = reg := ⟨_, rfl⟩
  have h1 : ∀ r, noRO (evalO r e) = true := fun r => by unfold evalO; split <;> rfl
  have h2 : ∀ r, allLt 1 (refs (evalO r e) []) = true := fun r => by unfold evalO; split <;> rfl
  have h3 : ∀ r, ren (fun b => ([2] : List Nat).getD b 0) (evalO r e) = evalO r e := fun r => by unfold evalO; split <;> rfl
  by_cases hl : 0 ≤ heftE e 3000 ∧ 0 ≤ heftE b 3000
  · have hse := light_sizeV e hl.1
    have hsb := light_sizeV b hl.2
    obtain ⟨O, hO, ⟨m1, m2, -⟩, p1, p2, p3, p4, p5, p6, p7, p8, p9, p10, -⟩ := famsM (P := Tryz.prog) (gl := runLives.gl) [famBx (f := 7) (by kernel_rfl) reg e b (evalO (regR reg) e) (h1 _) (h2 _) (h3 _) (EvalX_ok e reg he.1 (by omega)),
      famBx (f := 8) (by kernel_rfl) reg e b (evalO (regR reg) e) (h1 _) (h2 _) (h3 _) (EvalR_ok e reg he.1 (by omega))] [
      oneV (f := 4) (A := []) (R := .bool true) True (by kernel_rfl) rfl (fun _ => livesV),
      { I := Ex, f := 5, G := okE, A := fun e => [.agg e.cells, .int .i64 3000], R := fun e => .bool (decide (0 ≤ heftE e 3000)), body := (by kernel_rfl), inj := (fun i j _ _ h => by simp only [List.cons.injEq] at h; rw [agg_inj (a := i) (b := j) (by rw [h.1])]), ok := (fun e he => ⟨pair_refs e 3000, light_ok e 3000 he (by omega) (by omega)⟩) },
      famOne (f := 9) (by kernel_rfl) e True (simpO e) (fun _ => SimpleX_ok e he (by omega)),
      famOne (f := 10) (by kernel_rfl) e True (simpO e) (fun _ => SimpleR_ok e he (by omega)),
      oneV (f := 11) (A := [.agg e.cells, .str nm, .agg b.cells]) (R := putO e nm b) True (by kernel_rfl) (by obtain ⟨a', b', c', d'⟩ := e; obtain ⟨a2, b2, c2, d2⟩ := b; rfl) (fun _ => PutX_ok e nm b he hb (by omega) (by omega)),
      oneV (f := 12) (A := [.agg e.cells, .str nm, .agg b.cells]) (R := putO e nm b) True (by kernel_rfl) (by obtain ⟨a', b', c', d'⟩ := e; obtain ⟨a2, b2, c2, d2⟩ := b; rfl) (fun _ => PutR_ok e nm b he hb (by omega) (by omega)),
      famTwo (g := 13) (by kernel_rfl) (fun p => okE p.1) (fun p hp => kexpr_ok _ p.1 p.2 (Nat.le_refl _) hp),
      famOne (f := 15) (by kernel_rfl) e True (nmsO e) (fun _ => NamesX_ok e he.1 (by omega)),
      famOne (f := 16) (by kernel_rfl) e True (nmsO e) (fun _ => NamesR_ok e he.1 (by omega)),
      oneV (f := 14) (A := [nmsO e, nmsO e]) (R := .bool true) True (by kernel_rfl) rfl (fun _ => ktexts_ok _ (by
        rw [(sortB_perm _).length_eq]
        have g1 := addA_len (nmE e) []
        have g2 := nmE_len e
        simp only [List.length_nil] at g1
        omega))] rfl
    obtain ⟨O2, hO2, n1, n2⟩ := famN_add { I := Unit, f := 6, G := fun _ => True, A := fun _ => [rsK names, .rs l.length 1 (ksC l)], R := fun _ => .map 0, N := fun _ => mapH reg, body := (by kernel_rfl), inj := (fun _ _ _ _ _ => ⟨rfl, rfl⟩), ok := (fun _ _ => ⟨rfl, fun o ho => by simp only [mapH, List.mem_singleton] at ho; subst ho; rfl, by rw [← hreg]; exact registers_ok names l⟩) } hO
    have qr : acall Tryz.prog O2 [⟨true, 0, 0, .cells e.cells 24⟩, ⟨true, 1, 0, .cells b.cells 24⟩] 6 [rsK names, .rs l.length 1 (ksC l)] = some (.map 2, [⟨true, 0, 0, .cells e.cells 24⟩, ⟨true, 1, 0, .cells b.cells 24⟩, ⟨true, 2, 0, .map (mpE 0 reg) reg.length⟩]) := by
      have := n1 () trivial [⟨true, 0, 0, .cells e.cells 24⟩, ⟨true, 1, 0, .cells b.cells 24⟩]
      rw [this]
      simp only [shA, mapH, mapO, List.map_cons, List.map_nil, shO, renB, mp_ren, List.length_nil, List.length_cons, List.cons_append, List.nil_append]
      rfl
    have w : ∀ g, g ≠ 6 → ∀ args H, acall Tryz.prog O2 H g args = acall Tryz.prog O H g args := n2
    have qE : acall Tryz.prog O2 (bxs e b reg) 7 [.agg e.cells, .map 2] = some (evalO (regR reg) e, bxs e b reg) := by rw [w _ (by decide)]; exact m1 () trivial
    have qE2 : acall Tryz.prog O2 (bxs e b reg) 8 [.agg e.cells, .map 2] = some (evalO (regR reg) e, bxs e b reg) := by rw [w _ (by decide)]; exact m2 () trivial
    simp only [bxs, mapO] at qE qE2
    have q1 : ∀ H, acall Tryz.prog O2 H 4 [] = some (.bool true, H) := fun H => by rw [w _ (by decide)]; exact p1 () trivial H
    have q2 : ∀ x, okE x → ∀ H, acall Tryz.prog O2 H 5 [.agg x.cells, .int .i64 3000] = some (.bool (decide (0 ≤ heftE x 3000)), H) := fun x hx H => by rw [w _ (by decide)]; exact p2 x hx H
    have q3 : ∀ H, acall Tryz.prog O2 H 9 [.agg e.cells] = some (simpO e, H) := fun H => by rw [w _ (by decide)]; exact p3 () trivial H
    have q4 : ∀ H, acall Tryz.prog O2 H 10 [.agg e.cells] = some (simpO e, H) := fun H => by rw [w _ (by decide)]; exact p4 () trivial H
    have q5 : ∀ H, acall Tryz.prog O2 H 11 [.agg e.cells, .str nm, .agg b.cells] = some (putO e nm b, H) := fun H => by rw [w _ (by decide)]; exact p5 () trivial H
    have q6 : ∀ H, acall Tryz.prog O2 H 12 [.agg e.cells, .str nm, .agg b.cells] = some (putO e nm b, H) := fun H => by rw [w _ (by decide)]; exact p6 () trivial H
    have q7 : ∀ x, okE x → ∀ H, acall Tryz.prog O2 H 13 [.agg x.cells, .agg x.cells] = some (.bool true, H) := fun x hx H => by rw [w _ (by decide)]; have := p7 (x, x) hx H; rw [show (famTwo (g := 13) (gl := runLives.gl) (by kernel_rfl) (fun p => okE p.1) (fun p hp => kexpr_ok _ p.1 p.2 (Nat.le_refl _) hp)).R (x, x) = .bool (sameE x x) from rfl, sameE_rfl] at this; exact this
    have q8 : ∀ H, acall Tryz.prog O2 H 15 [.agg e.cells] = some (nmsO e, H) := fun H => by rw [w _ (by decide)]; exact p8 () trivial H
    have q9 : ∀ H, acall Tryz.prog O2 H 16 [.agg e.cells] = some (nmsO e, H) := fun H => by rw [w _ (by decide)]; exact p9 () trivial H
    have q10 : ∀ H, acall Tryz.prog O2 H 14 [nmsO e, nmsO e] = some (.bool true, H) := fun H => by rw [w _ (by decide)]; exact p10 () trivial H
    have q2e := q2 e he.1
    have q2b := q2 b hb.1
    have q7a := q7 _ (smX_ok he)
    have q7b := q7 _ (ptX_ok (nm := nm) he hb)
    clear q2 q7 w n1 n2 m1 m2 p1 p2 p3 p4 p5 p6 p7 p8 p9 p10 h1 h2 h3 hO
    rw [show simpO e = .tuple [.agg (smX e).cells, .int .i64 (checkE e)] from rfl] at q3 q4
    rw [show putO e nm b = .tuple [.agg (ptX e nm b).cells, .int .i64 (putI e nm b)] from rfl] at q5 q6
    have e1 : decide (0 ≤ heftE e 3000) = true := by simpa using hl.1
    have e2 : decide (0 ≤ heftE b 3000) = true := by simpa using hl.2
    rw [e1] at q2e
    rw [e2] at q2b
    have hev : ∃ x y, evalO (regR reg) e = .tuple [.int .i64 x, .int .i64 y] := by unfold evalO; split <;> exact ⟨_, _, rfl⟩
    obtain ⟨v1, v2, hv⟩ := hev
    rw [hv] at qE qE2
    unfold nmsO at q8 q9 q10
    clear hv hl e1 e2 he hb hse hsb
    generalize smX e = s at *
    generalize checkE e = c at *
    generalize ptX e nm b = t at *
    generalize putI e nm b = pI at *
    generalize sortB (addA (nmE e) []) = ns at *
    obtain ⟨eo, en, es, ek⟩ := e
    obtain ⟨bo, bn, bs, bk⟩ := b
    obtain ⟨so, sn, ss, sk⟩ := s
    obtain ⟨to, tn, ts, tkk⟩ := t
    simp only [Ex.cells, exA, rsK] at q2e q2b qr qE qE2 q3 q4 q5 q6 q7a q7b q8 q9 q10 ⊢
    have f1 : (v1 == v1) = true := by simp
    have f2 : (v2 == v2) = true := by simp
    have f3 : (c == c) = true := by simp
    have f4 : (pI == pI) = true := by simp
    refine fn_val follows noNum hO2 Tryz.func3 rfl ?_
    repeat' ((conv => whnf); first | (with_reducible refine exI (q1 _) ?_) | (with_reducible refine exI (q2e _) ?_) | (with_reducible refine exI (q2b _) ?_) | (refine exI qr ?_) | (refine exI qE ?_) | (refine exI qE2 ?_) | (with_reducible refine exI (q3 _) ?_) | (with_reducible refine exI (q4 _) ?_) | (with_reducible refine exI (q5 _) ?_) | (with_reducible refine exI (q6 _) ?_) | (with_reducible refine exI (q7a _) ?_) | (with_reducible refine exI (q7b _) ?_) | (with_reducible refine exI (q8 _) ?_) | (with_reducible refine exI (q9 _) ?_) | (with_reducible refine exI (q10 _) ?_) | (first | refine stp ?_ | with_reducible refine condB (fun h => ?_) (fun h => ?_)))
    all_goals rfl
  · obtain ⟨O2, hO2, q1, p2, -⟩ := fams (P := Tryz.prog) (gl := runLives.gl) [
      oneV (f := 4) (A := []) (R := .bool true) True (by kernel_rfl) rfl (fun _ => livesV),
      { I := Ex, f := 5, G := okE, A := fun e => [.agg e.cells, .int .i64 3000], R := fun e => .bool (decide (0 ≤ heftE e 3000)), body := (by kernel_rfl), inj := (fun i j _ _ h => by simp only [List.cons.injEq] at h; rw [agg_inj (a := i) (b := j) (by rw [h.1])]), ok := (fun e he => ⟨pair_refs e 3000, light_ok e 3000 he (by omega) (by omega)⟩) }] rfl
    have q1 : ∀ H, acall Tryz.prog O2 H 4 [] = some (.bool true, H) := fun H => q1 () trivial H
    have q2e : ∀ H, acall Tryz.prog O2 H 5 [.agg e.cells, .int .i64 3000] = some (.bool (decide (0 ≤ heftE e 3000)), H) := p2 e he.1
    have q2b : ∀ H, acall Tryz.prog O2 H 5 [.agg b.cells, .int .i64 3000] = some (.bool (decide (0 ≤ heftE b 3000)), H) := p2 b hb.1
    clear p2 he hb h1 h2 h3 hreg
    generalize heftE e 3000 = he at *
    generalize heftE b 3000 = hb at *
    obtain ⟨eo, en, es, ek⟩ := e
    obtain ⟨bo, bn, bs, bk⟩ := b
    simp only [Ex.cells, exA, rsK] at q2e q2b ⊢
    refine fn_val follows noNum hO2 Tryz.func3 rfl ?_
    by_cases g1 : 0 ≤ he
    · have e1 : decide (0 ≤ he) = true := by simpa using g1
      have e2 : decide (0 ≤ hb) = false := by
        have : ¬ 0 ≤ hb := fun g => hl ⟨g1, g⟩
        simpa using this
      rw [e1] at q2e
      rw [e2] at q2b
      repeat' ((conv => whnf); first | (with_reducible refine exI (q1 _) ?_) | (with_reducible refine exI (q2e _) ?_) | (with_reducible refine exI (q2b _) ?_) | (first | refine stp ?_ | with_reducible refine condB (fun h => ?_) (fun h => ?_)))
      all_goals rfl
    · have e1 : decide (0 ≤ he) = false := by simpa using g1
      rw [e1] at q2e
      repeat' ((conv => whnf); first | (with_reducible refine exI (q1 _) ?_) | (with_reducible refine exI (q2e _) ?_) | (with_reducible refine exI (q2b _) ?_) | (first | refine stp ?_ | with_reducible refine condB (fun h => ?_) (fun h => ?_)))
      all_goals rfl
end Go.Proofs.YtcbjhdklbhlmhaaGreatDoor.lex
namespace Go.Proofs.YtcbjhdklbhlmhaaGreatDoor.valueLaw
open Go.Abs Go.RowKit
def Qs : List (AV → Prop) := [fun u => ∃ e : lex.Ex, u = .agg e.cells ∧ lex.okI e, fun u => ∃ e : lex.Ex, u = .agg e.cells ∧ lex.okI e, fun u => ∃ n : List (List UInt8), u = rsK n, fun u => ∃ l : List Int, u = .rs l.length 1 (lex.ksC l), fun u => ∃ s : List UInt8, u = .str s]
theorem opens : OpensAll Tryz.prog Tryz.f3.params.toList Qs := by
  rw [Tryz.params3]
  exact ⟨lex.oopensX, lex.oopensX, lex.oopensW, lex.oopensI, lex.oopensT, trivial⟩
theorem law (us : List AV) (h : AllQ Qs us) : ValOK Tryz.prog runLives.gl 3 us (.bool true) := by
  obtain ⟨_, _, rfl, ⟨e, rfl, he⟩, h1⟩ := allQ_cons h
  obtain ⟨_, _, rfl, ⟨b, rfl, hb⟩, h2⟩ := allQ_cons h1
  obtain ⟨_, _, rfl, ⟨names, rfl⟩, h3⟩ := allQ_cons h2
  obtain ⟨_, _, rfl, ⟨l, rfl⟩, h4⟩ := allQ_cons h3
  obtain ⟨_, _, rfl, ⟨nm, rfl⟩, h5⟩ := allQ_cons h4
  cases allQ_nil h5
  exact lex.valueLaw e b names l nm he hb
theorem solid : Solid Tryz.prog := by unfold Solid; kernel_rfl
end Go.Proofs.YtcbjhdklbhlmhaaGreatDoor.valueLaw
end


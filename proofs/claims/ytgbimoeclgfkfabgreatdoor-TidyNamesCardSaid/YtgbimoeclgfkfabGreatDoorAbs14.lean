/-
  A verified abstract interpreter, part 14: what is known when a region has been gone through once.
-/
import Derived.Test.YtgbimoeclgfkfabGreatDoorAbs13
set_option linter.unusedSimpArgs false
set_option linter.unusedVariables false
namespace Go.Abs
open Go.RowKit

section alloc
variable {P : Program} {sn : Snap} {ι : IMap} {H : AHeap}

theorem aallocF_inj {ρ : Operand → Option AV} {o : Oper} {mk : Nat → AV} {body : ABody} (h : aallocF P ρ o = some (mk, body)) {a b : Nat} (e : mk a = mk b) : a = b := by
  unfold aallocF at h
  split at h <;> (repeat' (split at h)) <;> simp at h <;> (try (obtain ⟨rfl, _⟩ := h)) <;> simpa using e

theorem aallocF_sound {ρ : Operand → Option AV} {ρ' : Operand → Value} (hρ : ∀ x u, ρ x = some u → VR sn ι u (ρ' x)) {o : Oper} {mk : Nat → AV} {body : ABody} (h : aallocF P ρ o = some (mk, body)) (W : World) :
    ∃ v ob n, (execOp ρ' o).run P W = .ok (.value v) (W.alloc ob) ∧ OR sn ι (W.alloc ob) body ⟨W.heap.size, 0, n⟩ ∧ ∀ sn' ι' id, ι' id = some ⟨W.heap.size, 0, n⟩ → VR sn' ι' (mk id) v := by
  have wrap : ∀ (s : Sem Value), execOp ρ' o = (do pure (.value (← s)) : Sem Next) → ∀ v ob, s.run P W = .ok v (W.alloc ob) → (execOp ρ' o).run P W = .ok (.value v) (W.alloc ob) := by
    intro s e v ob h1
    rw [e]; simp only [Sem.run_bind, h1, Result.andThen_ok, Sem.run_pure]
  have vptr : ∀ n sn' (ι' : IMap) id, ι' id = some ⟨W.heap.size, 0, n⟩ → VR sn' ι' (.ptr id 0) (.pointer (some ⟨W.heap.size, 0, none⟩)) := by
    intro n sn' ι' id hid; simp only [VR]; exact ⟨_, hid, rfl⟩
  have vsl : ∀ n l c z, l ≤ c → c * z ≤ n → ∀ sn' (ι' : IMap) id, ι' id = some ⟨W.heap.size, 0, n⟩ → VR sn' ι' (.slice id 0 l c z) (.slice (some ⟨W.heap.size, 0, none⟩) l c) := by
    intro n l c z h1 h2 sn' ι' id hid; simp only [VR]; exact ⟨_, _, c, hid, rfl, h1, Nat.le_refl _, fun _ => ⟨rfl, by simpa using h2⟩⟩
  unfold aallocF at h
  cases hop : o.op with
  | alloc e =>
    simp only [hop] at h
    split at h <;> simp at h
    obtain ⟨rfl, rfl⟩ := h; rename_i z hz
    obtain ⟨z', h1, h2⟩ := tzero_run hz
    have hrun : (Instr.alloc e true (.tuple #[])).run P W = .ok (.pointer (some ⟨W.heap.size, 0, none⟩)) (W.alloc (.cells z'.cells e)) := by
      simp [Instr.alloc, h1, newVar, newRow, run_newObj_alloc]
    have hor : OR sn ι (W.alloc (.cells z'.cells e)) (.cells z.cells e) ⟨W.heap.size, 0, z'.cells.size⟩ := or_cells (l := z'.cells.toList) (l' := []) (heap_alloc_new W (.cells z'.cells e)) (by simp) ((h2 sn ι).cells)
    have hv := vptr z'.cells.size
    exact ⟨_, _, z'.cells.size, wrap (Instr.alloc e true (.tuple #[])) (by simp only [execOp, hop]) _ _ hrun, hor, hv⟩
  | box e x =>
    simp only [hop] at h
    split at h <;> simp at h
    obtain ⟨rfl, rfl⟩ := h; rename_i u hu
    have hrun : (Instr.box e (ρ' x)).run P W = .ok (.pointer (some ⟨W.heap.size, 0, none⟩)) (W.alloc (.cells (ρ' x).cells e)) := by
      simp [Instr.box, newVar, newRow, run_newObj_alloc]
    have hor : OR sn ι (W.alloc (.cells (ρ' x).cells e)) (.cells u.cells e) ⟨W.heap.size, 0, (ρ' x).cells.size⟩ := or_cells (l := (ρ' x).cells.toList) (l' := []) (heap_alloc_new W (.cells (ρ' x).cells e)) (by simp) ((hρ _ _ hu).cells)
    have hv := vptr (ρ' x).cells.size
    exact ⟨_, _, (ρ' x).cells.size, wrap (Instr.box e (ρ' x)) (by simp only [execOp, hop]) _ _ hrun, hor, hv⟩
  | buildSlice t len ps =>
    simp only [hop] at h
    split at h <;> try (simp at h; done)
    rename_i us hus
    split at h <;> simp at h
    obtain ⟨rfl, rfl⟩ := h; rename_i cs e z hb
    obtain ⟨r', h1, h2, h3⟩ := bsCore_sound (sn := sn) (ι := ι) hb (ps' := ps.map fun (i, x) => (i, ρ' x)) (by rw [Array.toList_map]; exact aparts_sound hρ _ _ hus)
    have hor : OR sn ι (W.alloc (.cells r' e)) (.cells cs e) ⟨W.heap.size, 0, r'.size⟩ := or_cells (l := r'.toList) (l' := []) (heap_alloc_new W (.cells r' e)) (by simp) h2
    have hv := vsl r'.size len len z (Nat.le_refl _) (by omega)
    have hx := h1 W
    refine ⟨_, _, r'.size, ?_, hor, hv⟩
    simp only [execOp, hop, Sem.run_bind, hx, Result.andThen_ok, Sem.run_pure]
  | makeSlice t l c =>
    simp only [hop] at h
    split at h <;> try (simp at h; done)
    rename_i u v hu hv
    split at h <;> simp at h
    obtain ⟨rfl, rfl⟩ := h; rename_i zs e z ln cp hb
    obtain ⟨r', h1, h2, h3, h4⟩ := msCore_sound hb (hρ _ _ hu) (hρ _ _ hv)
    have hor : OR sn ι (W.alloc (.cells r' e)) (.cells zs e) ⟨W.heap.size, 0, r'.size⟩ := or_cells (l := r'.toList) (l' := []) (heap_alloc_new W (.cells r' e)) (by simp) h2
    have hv := vsl r'.size ln cp z h4 (by omega)
    have hx := h1 W
    refine ⟨_, _, r'.size, ?_, hor, hv⟩
    simp only [execOp, hop, Sem.run_bind, hx, Result.andThen_ok, Sem.run_pure]
  | makeMap t r' =>
    cases r' with
    | some x => simp [hop] at h
    | none =>
      simp [hop] at h
      obtain ⟨rfl, rfl⟩ := h
      refine ⟨_, _, 0, wrap (Instr.makeMap t none) (by simp only [execOp, hop, Option.map_none]) (.map (some W.heap.size)) (.map #[] 0) (by simp [Instr.makeMap, run_newObj_alloc]), ⟨#[], heap_alloc_new W _, by simp [ER]⟩, ?_⟩
      intro sn' ι' id hid; simp only [VR]; exact ⟨_, hid, rfl⟩
  | _ => simp [hop] at h
end alloc

/-! what is known -/
section known
variable (P : Program) (gl : Glob) (orc : Orc) (ops : List Oper) (an : List Nat) (tm : Tr)

/-- The operation, its environment, its value. -/
structure At (vals : List (Option AV)) (i : Nat) (o : Oper) (env : List (Nat × AV)) (v : AV) : Prop where
  op : ops[i]? = some o
  env : envOf tm vals ops (bit (an.getD i 0)) (looks ops o) = some env
  val : vals[i]? = some (some v)

inductive Allocs (vals : List (Option AV)) : AHeap → List Nat → AHeap → Prop
  | nil (B : AHeap) : Allocs vals B [] B
  | snoc {B H : AHeap} {nw : List Nat} {i : Nat} {o : Oper} {env : List (Nat × AV)} {mk : Nat → AV} {body : ABody} : Allocs vals B nw H → At ops an tm vals i o env (mk H.length) → kind o = 2 → wantedE ops env o = true →
      aallocF P (evalE gl env) o = some (mk, body) → allLt H.length (refsB body []) = true → Allocs vals B (nw ++ [i]) (H ++ [⟨true, H.length, 0, body⟩])

structure EffOK (vals : List (Option AV)) (i : Nat) (nw : List Nat) (H B' : AHeap) : Prop where
  ex : ∃ o env v, At ops an tm vals i o env v ∧ kind o = 3 ∧ allBit (an.getD i 0) nw = true ∧ allLt H.length (refsEnv env []) = true ∧ H.length ≤ B'.length ∧
    (wantedE ops env o = true → aop P orc (evalE gl env) o H = some (v, B')) ∧ (wantedE ops env o = false → v = .tuple [] ∧ B' = H)

inductive Chain (vals : List (Option AV)) : AHeap → List (Nat × AHeap × List Nat) → AHeap → Prop
  | nil (B : AHeap) : Chain vals B [] B
  | cons {B H B' Bf : AHeap} {nw : List Nat} {i : Nat} {l : List (Nat × AHeap × List Nat)} : Allocs P gl ops an tm vals B nw H → EffOK P gl orc ops an tm vals i nw H B' → Chain vals B' l Bf → Chain vals B ((i, B, nw) :: l) Bf

structure Fact (s : DSt) (i : Nat) : Prop where
  ex : ∃ o env v, At ops an tm s.vals i o env v ∧ (wantedE ops env o = false → v = .tuple []) ∧ (wantedE ops env o = true → kind o ≠ 2 → kind o ≠ 3 → ∃ H, apure' P (evalE gl env) H o = some v) ∧
    (kind o = 3 → i ∈ stFst s.sts) ∧ (kind o = 2 → wantedE ops env o = true → i ∈ s.new ∨ ∃ st ∈ s.sts, i ∈ st.2.2)

structure DI (H0 : AHeap) (s : DSt) : Prop where
  vdone : ∀ (i : Nat) (v : AV), s.vals[i]? = some (some v) → bit s.done i = true
  fact : ∀ i, bit s.done i = true → Fact P gl ops an tm s i
  allocs : Allocs P gl ops an tm s.vals s.base s.new s.heap
  chain : Chain P gl orc ops an tm s.vals H0 s.sts s.base
  len : s.vals.length = ops.length
end known

section run
variable {P : Program} {gl : Glob} {orc : Orc} {ops : List Oper} {an : List Nat} {tm : Tr}

theorem At.mono {vals vals' : List (Option AV)} (h : VLe vals vals') {i : Nat} {o : Oper} {env : List (Nat × AV)} {v : AV} (k : At ops an tm vals i o env v) : At ops an tm vals' i o env v :=
  ⟨k.op, envOf_mono h _ _ k.env, h _ _ k.val⟩

theorem Allocs.mono {vals vals' : List (Option AV)} (h : VLe vals vals') {B H : AHeap} {nw : List Nat} (k : Allocs P gl ops an tm vals B nw H) : Allocs P gl ops an tm vals' B nw H := by
  induction k with
  | nil => exact .nil _
  | snoc _ ha hk hw he hr ih => exact .snoc ih (ha.mono h) hk hw he hr

theorem EffOK.mono {vals vals' : List (Option AV)} (h : VLe vals vals') {i : Nat} {nw : List Nat} {H B' : AHeap} (k : EffOK P gl orc ops an tm vals i nw H B') : EffOK P gl orc ops an tm vals' i nw H B' := by
  obtain ⟨o, env, v, h1, h2⟩ := k.ex
  exact ⟨o, env, v, h1.mono h, h2⟩

theorem Chain.mono {vals vals' : List (Option AV)} (h : VLe vals vals') {B Bf : AHeap} {l : List (Nat × AHeap × List Nat)} (k : Chain P gl orc ops an tm vals B l Bf) : Chain P gl orc ops an tm vals' B l Bf := by
  induction k with
  | nil B => exact .nil B
  | cons ha he _ ih => exact .cons (ha.mono h) (he.mono h) ih

theorem Chain.snoc {vals : List (Option AV)} {B B1 H B2 : AHeap} {l : List (Nat × AHeap × List Nat)} {i : Nat} {nw : List Nat} (k : Chain P gl orc ops an tm vals B l B1) (ha : Allocs P gl ops an tm vals B1 nw H) (he : EffOK P gl orc ops an tm vals i nw H B2) :
    Chain P gl orc ops an tm vals B (l ++ [(i, B1, nw)]) B2 := by
  induction k with
  | nil B => exact .cons ha he (.nil _)
  | cons ha' he' _ ih => exact .cons ha' he' (ih ha)

theorem Allocs.length {vals : List (Option AV)} {B H : AHeap} {nw : List Nat} (k : Allocs P gl ops an tm vals B nw H) : H.length = B.length + nw.length := by
  induction k with
  | nil => simp
  | snoc _ ha hk hw he hr ih => simp [ih]; omega

theorem stFst_append (l : List (Nat × AHeap × List Nat)) (i : Nat) (B : AHeap) (nw : List Nat) : stFst (l ++ [(i, B, nw)]) = stFst l ++ [i] := by
  induction l with
  | nil => rfl
  | cons x l ih => obtain ⟨a, b, c⟩ := x; simp [stFst, ih]

theorem set_vle {vals : List (Option AV)} {i : Nat} {v : AV} (h : ∀ u, vals[i]? = some (some u) → False) : VLe vals (vals.set i (some v)) := by
  intro j u hj
  rw [List.getElem?_set]
  split
  · rename_i e; subst e; exact (h u hj).elim
  · exact hj

theorem bit_done (m i j : Nat) : bit (Nat.lor m (2 ^ i)) j = true ↔ bit m j = true ∨ i = j := by
  rw [bit_lor, bit_pow]; simp

theorem dstep_DI {H0 : AHeap} {i : Nat} {s s' : DSt} (h : DI P gl orc ops an tm H0 s) (e : dstep P gl orc ops an tm i s = some s') : DI P gl orc ops an tm H0 s' := by
  unfold dstep at e
  split at e <;> try (simp at e; done)
  rename_i o ho
  split at e <;> try (simp at e; done)
  rename_i env henv
  split at e <;> try (simp at e; done)
  rename_i hnd
  have hil : i < s.vals.length := by rw [h.len]; exact (List.getElem?_eq_some_iff.1 ho).1
  have hle : ∀ v, VLe s.vals (s.vals.set i (some v)) := fun v => set_vle fun u hu => hnd (h.vdone i u hu)
  have hat : ∀ v, At ops an tm (s.vals.set i (some v)) i o env v := fun v => ⟨ho, envOf_mono (hle v) _ _ henv, by simp [hil]⟩
  -- what all cases share
  have build : ∀ (v : AV) (base heap : AHeap) (new : List Nat) (sts : List (Nat × AHeap × List Nat)),
      (∀ j, j ∈ stFst s.sts → j ∈ stFst sts) → (∀ j, (j ∈ s.new ∨ ∃ st ∈ s.sts, j ∈ st.2.2) → (j ∈ new ∨ ∃ st ∈ sts, j ∈ st.2.2)) →
      (wantedE ops env o = false → v = .tuple []) → (wantedE ops env o = true → kind o ≠ 2 → kind o ≠ 3 → ∃ H, apure' P (evalE gl env) H o = some v) →
      (kind o = 3 → i ∈ stFst sts) → (kind o = 2 → wantedE ops env o = true → i ∈ new ∨ ∃ st ∈ sts, i ∈ st.2.2) →
      Allocs P gl ops an tm (s.vals.set i (some v)) base new heap → Chain P gl orc ops an tm (s.vals.set i (some v)) H0 sts base →
      DI P gl orc ops an tm H0 ⟨s.vals.set i (some v), Nat.lor s.done (2 ^ i), base, new, heap, sts⟩ := by
    intro v base heap new sts h1 h2 h3 h4 h5 h6 h7 h8
    refine ⟨?_, ?_, h7, h8, by simpa using h.len⟩
    · intro j u hj
      rw [bit_done]
      simp only [List.getElem?_set] at hj
      split at hj
      · rename_i e; exact .inr e
      · exact .inl (h.vdone j u hj)
    · intro j hj
      rcases (bit_done _ _ _).1 hj with hj | rfl
      · obtain ⟨o', env', v', a1, a2, a3, a4, a5⟩ := (h.fact j hj).ex
        exact ⟨o', env', v', a1.mono (hle v), a2, a3, fun hk => h1 j (a4 hk), fun hk hw => h2 j (a5 hk hw)⟩
      · exact ⟨o, env, v, hat v, h3, h4, h5, h6⟩
  split at e
  · -- a new block
    rename_i hk
    split at e
    · rename_i hw
      split at e <;> try (simp at e; done)
      rename_i mk body he
      split at e <;> try (simp at e; done)
      rename_i hr
      simp only [frcC_eq, Option.some.injEq] at e
      subst e
      refine build (mk s.heap.length) _ _ _ _ (fun j hj => hj) (fun j hj => hj.imp (fun h => by simp [h]) id) (fun h => by simp [hw] at h) (fun _ hk2 => absurd hk hk2) (fun hk3 => by simp [hk] at hk3) (fun _ _ => .inl (by simp)) ?_ (h.chain.mono (hle _))
      exact .snoc (h.allocs.mono (hle _)) (hat _) hk hw he hr
    · rename_i hw
      simp only [Option.some.injEq] at e
      subst e
      have hw' : wantedE ops env o = false := by simpa using hw
      exact build _ _ _ _ _ (fun j hj => hj) (fun j hj => hj) (fun _ => rfl) (fun h => by simp [hw'] at h) (fun hk3 => by simp [hk] at hk3) (fun _ h => by simp [hw'] at h) (h.allocs.mono (hle _)) (h.chain.mono (hle _))
  · -- an effect
    rename_i hk
    split at e <;> try (simp at e; done)
    rename_i hchk
    simp only [Bool.and_eq_true] at hchk
    have h1 : ∀ j, j ∈ stFst s.sts → j ∈ stFst (s.sts ++ [(i, s.base, s.new)]) := fun j hj => by rw [stFst_append]; simp [hj]
    have h2 : ∀ j, (j ∈ s.new ∨ ∃ st ∈ s.sts, j ∈ st.2.2) → (j ∈ ([] : List Nat) ∨ ∃ st ∈ s.sts ++ [(i, s.base, s.new)], j ∈ st.2.2) := by
      rintro j (hj | ⟨st, hs, hj⟩)
      · exact .inr ⟨(i, s.base, s.new), by simp, hj⟩
      · exact .inr ⟨st, by simp [hs], hj⟩
    split at e
    · rename_i hw
      split at e <;> try (simp at e; done)
      rename_i r H' he
      simp only [frcC_eq] at e
      split at e <;> simp at e
      rename_i hlen
      subst e
      refine build r _ _ _ _ h1 h2 (fun h => by simp [hw] at h) (fun _ _ hk3 => absurd hk hk3) (fun _ => by rw [stFst_append]; simp) (fun hk2 => by simp [hk] at hk2) (.nil _) ?_
      refine Chain.snoc (h.chain.mono (hle r)) (h.allocs.mono (hle r)) ⟨o, env, r, hat r, hk, hchk.1, hchk.2, by simpa using hlen, fun _ => he, fun h => by simp [hw] at h⟩
    · rename_i hw
      have hw' : wantedE ops env o = false := by simpa using hw
      simp only [Option.some.injEq] at e
      subst e
      refine build _ _ _ _ _ h1 h2 (fun _ => rfl) (fun h => by simp [hw'] at h) (fun _ => by rw [stFst_append]; simp) (fun hk2 => by simp [hk] at hk2) (.nil _) ?_
      exact Chain.snoc (h.chain.mono (hle _)) (h.allocs.mono (hle _)) ⟨o, env, _, hat _, hk, hchk.1, hchk.2, Nat.le_refl _, fun h => by simp [hw'] at h, fun _ => ⟨rfl, rfl⟩⟩
  · -- looking
    rename_i hk2 hk3
    split at e
    · rename_i hw
      split at e <;> try (simp at e; done)
      rename_i r he
      simp only [frcC_eq, Option.some.injEq] at e
      subst e
      exact build r _ _ _ _ (fun j hj => hj) (fun j hj => hj) (fun h => by simp [hw] at h) (fun _ _ _ => ⟨_, he⟩) (fun h => absurd h hk3) (fun h => absurd h hk2) (h.allocs.mono (hle r)) (h.chain.mono (hle r))
    · rename_i hw
      have hw' : wantedE ops env o = false := by simpa using hw
      simp only [Option.some.injEq] at e
      subst e
      exact build _ _ _ _ _ (fun j hj => hj) (fun j hj => hj) (fun _ => rfl) (fun h => by simp [hw'] at h) (fun h => absurd h hk3) (fun h => absurd h hk2) (h.allocs.mono (hle _)) (h.chain.mono (hle _))

theorem druns_DI {H0 : AHeap} : ∀ {l : List Nat} {s s' : DSt}, DI P gl orc ops an tm H0 s → druns P gl orc ops an tm l s = some s' → DI P gl orc ops an tm H0 s'
  | [], s, s', h, e => by simp [druns] at e; subst e; exact h
  | i :: l, s, s', h, e => by
    simp only [druns] at e
    split at e <;> try (simp at e; done)
    rename_i s1 hs
    exact druns_DI (dstep_DI h hs) e

theorem fillNone_length : ∀ (l : List Oper), (fillNone l).length = l.length
  | [] => rfl
  | _ :: l => by simp [fillNone, fillNone_length l]
theorem fillNone_get : ∀ (l : List Oper) (i : Nat) (v : AV), (fillNone l)[i]? = some (some v) → False
  | [], i, v, h => by simp [fillNone] at h
  | _ :: l, 0, v, h => by simp [fillNone] at h
  | _ :: l, i + 1, v, h => by simp [fillNone] at h; exact fillNone_get l i v h

theorem DI.start (H : AHeap) : DI P gl orc ops an tm H ⟨fillNone ops, 0, H, [], H, []⟩ :=
  ⟨fun i v h => (fillNone_get _ _ _ h).elim, fun i h => by simp [bit_zero] at h, .nil _, .nil _, fillNone_length _⟩
end run
end Go.Abs

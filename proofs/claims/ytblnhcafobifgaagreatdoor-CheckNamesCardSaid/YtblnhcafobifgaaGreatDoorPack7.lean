/-
  Texts of this proof, one behind the other (part 7).
-/
import Derived.Test.YtblnhcafobifgaaGreatDoorPack6


section

set_option linter.unusedSimpArgs false
set_option linter.unusedVariables false
namespace Go.Abs
open Go.RowKit
def MemQ (P : Program) (gl : Glob) (k f : Nat) (args : List AV) (H : AHeap) (r : AV) (H' : AHeap) : Prop :=
  ∀ (sn : Snap) (ι : IMap) (W : World) (cargs : List Value), GlOK gl sn → R sn ι H W → LR sn ι args cargs →
    CallsY P f cargs.toArray W fun e W' => ∃ v sn' ι', e = .returned v ∧ VR sn' ι' r v ∧ Stq k sn ι H W sn' ι' H' W'
def updQ (m : List Nat) (σ : Nat → Nat) (k : Nat) (Hs : AHeap) : Nat → AHeap → AHeap
  | _, [] => []
  | i, o :: H => (match posN m i 0 with
    | some j => if Nat.blt j k then (match Hs[j]? with
      | some o' => { o with alive := o'.alive, body := renB σ o'.body }
      | none => o) else o.dead
    | none => o) :: updQ m σ k Hs (i + 1) H
theorem updQ_get (m : List Nat) (σ : Nat → Nat) (k : Nat) (Hs : AHeap) : ∀ (H : AHeap) (i b : Nat), (updQ m σ k Hs i H)[b]? = (H[b]?).map fun o => match posN m (i + b) 0 with
    | some j => if Nat.blt j k then (match Hs[j]? with
      | some o' => { o with alive := o'.alive, body := renB σ o'.body }
      | none => o) else o.dead
    | none => o
  | [], i, b => by simp [updQ]
  | o :: H, i, 0 => by
    simp only [updQ, List.getElem?_cons_zero, Option.map_some, Nat.add_zero] <;> rfl
  | o :: H, i, b + 1 => by
    simp only [updQ, List.getElem?_cons_succ]
    rw [updQ_get m σ k Hs H (i + 1) b, show i + 1 + b = i + (b + 1) by omega]
theorem updQ_len (m : List Nat) (σ : Nat → Nat) (k : Nat) (Hs : AHeap) : ∀ (H : AHeap) (i : Nat), (updQ m σ k Hs i H).length = H.length
  | [], i => rfl
  | o :: H, i => by simp only [updQ, List.length_cons, updQ_len m σ k Hs H (i + 1)]
def loneA (m fs : List Nat) : Nat → AHeap → Bool
  | _, [] => true
  | i, o :: H => (mem i m || (!o.alive || !mem o.fam fs)) && loneA m fs (i + 1) H
theorem loneA_get {m fs : List Nat} : ∀ {H : AHeap} {i j : Nat} {o : AObj}, loneA m fs i H = true → H[j]? = some o → o.alive = true → i + j ∈ m ∨ o.fam ∉ fs
  | [], i, j, o, h, e, _ => by simp at e
  | x :: H, i, 0, o, h, e, ha => by
    simp only [loneA, Bool.and_eq_true, Bool.or_eq_true, Bool.not_eq_true'] at h
    simp at e; subst e
    rcases h.1 with h1 | h1 | h1
    · exact .inl (mem_iff.1 h1)
    · rw [ha] at h1; cases h1
    · exact .inr fun e => by rw [mem_iff.2 e] at h1; cases h1
  | x :: H, i, j + 1, o, h, e, ha => by
    simp only [loneA, Bool.and_eq_true] at h
    have := loneA_get h.2 (by simpa using e) ha
    rcases this with h1 | h1
    · exact .inl (by rw [show i + (j + 1) = i + 1 + j by omega]; exact h1)
    · exact .inr h1
def sig (m : List Nat) (k d : Nat) (b : Nat) : Nat := if b < k then m.getD b 0 else d
theorem memq_frame {P : Program} {gl : Glob} {f k : Nat} {Hs Hs' Hc : AHeap} {fargs cargs : List AV} {r : AV} {m : List Nat} {n F : Nat} {bL : ABody} (hM : MemQ P gl k f fargs Hs r Hs') (hargs : frzL (frzM m (kilM m Hc) n) cargs = some fargs) (hsub : HpGe Hc m m Hs 0)
    (hnd : nodupN (m.map (famOf Hc)) = true) (hlone : loneA m (m.map (famOf Hc)) 0 Hc = true) (hlen' : Hs'.length = k + 1) (hL : Hs'[k]? = some ⟨true, k, 0, bL⟩)
    (hg2 : ∀ (i : Nat) (o : AObj), Hs'[i]? = some o → o.fam = i ∧ allLt (k + 1) (refsB o.body []) = true) (hs0 : ∀ (i : Nat) (o : AObj), Hs[i]? = some o → o.sh = 0)
    (hro : noROH Hs' = true) (hrr : noRO r = true) (hrk : allLt (k + 1) (refs r []) = true) (hF : (m.length = k ∧ ∀ o ∈ Hc, o.fam < F) ∨ (m.length = k + 1 ∧ F = famOf Hc (m.getD k 0))) :
    MemOK P gl f cargs Hc (ren (sig m k Hc.length) r) (updQ m (sig m k Hc.length) k Hs' 0 Hc ++ [⟨true, F, 0, renB (sig m k Hc.length) bL⟩]) := by
  intro sn ι W vargs hg hR hl
  obtain ⟨hl1, hg1⟩ := hsub.get
  have hmk : k ≤ m.length ∧ m.length ≤ k + 1 := by rcases hF with ⟨h, _⟩ | ⟨h, _⟩ <;> omega
  have inm : ∀ b, b ∈ m → ∃ (i : Nat) (o o2 : AObj) (p : Place), m[i]? = some b ∧ Hc[b]? = some o ∧ Hs[i]? = some o2 ∧ o.alive = true ∧ o2.alive = true ∧ ι b = some p := by
    intro b hb
    obtain ⟨i, hi, rfl⟩ := List.mem_iff_getElem.1 hb
    obtain ⟨j, o, o2, x1, x2, x3, x4, x5, _⟩ := hg1 i hi
    rw [List.getElem?_eq_getElem hi] at x1
    cases x1
    obtain ⟨p, hp⟩ := hR.place x2
    exact ⟨i, o, o2, p, List.getElem?_eq_getElem hi, x2, x3, x4, x5, hp⟩
  have apart_ : ∀ (b : Nat) (o : AObj) (p : Place), Hc[b]? = some o → o.alive = true → b ∉ m → ι b = some p → ∀ b' p', b' ∈ m → ι b' = some p' → p'.blk ≠ p.blk := by
    intro b o p ho hoa hb hp b' p' hb' hp' e
    obtain ⟨i, o', o2, q, y1, y2, y3, y4, y5, y6⟩ := inm b' hb'
    have hs := hR.sep b b' o o' p p' ho y2 hp hp' e.symm
    rcases loneA_get hlone ho hoa with h | h
    · exact hb (by simpa using h)
    · refine h ?_
      rw [List.mem_map]
      exact ⟨b', hb', by simp only [famOf, y2]; exact hs.1.symm⟩
  let q : Nat → Prop := fun c => ∃ b p, b ∈ m ∧ ι b = some p ∧ p.blk = c
  let sn2 : Snap := fun a => open Classical in if q a.block ∨ ¬ a.block < W.heap.size then none else W.cell? a
  have hsn2 : ∀ a v, sn2 a = some v → ¬ q a.block ∧ a.block < W.heap.size ∧ W.cell? a = some v := fun a v h => by
    have h : (open Classical in if q a.block ∨ ¬ a.block < W.heap.size then none else W.cell? a) = some v := h
    split at h
    · cases h
    · rename_i hx
      simp only [not_or, Classical.not_not] at hx
      exact ⟨hx.1, hx.2, h⟩
  have hsn2' : ∀ a v, ¬ q a.block → a.block < W.heap.size → W.cell? a = some v → sn2 a = some v := fun a v h1 h2 h3 => by
    show (open Classical in if q a.block ∨ ¬ a.block < W.heap.size then none else W.cell? a) = some v
    rw [if_neg (by simp only [not_or, Classical.not_not]; exact ⟨h1, h2⟩)]; exact h3
  have hle : ∀ a v, sn a = some v → sn2 a = some v := fun a v hv => by
    obtain ⟨h1, h2, h3⟩ := hR.snap a v hv
    refine hsn2' a v ?_ h1 h2
    rintro ⟨b, p, hb, hp, e⟩
    obtain ⟨i, o, o2, p', y1, y2, y3, y4, y5, y6⟩ := inm b hb
    exact h3 b o p y2 y4 hp e
  have hR0 := sub_R hsub hnd hR
  have atm : ∀ {i : Nat} {p : Place}, iot m ι i = some p → ∃ b, m[i]? = some b ∧ b ∈ m ∧ ι b = some p := fun {i p} hp => by
    unfold iot at hp
    split at hp
    · rename_i b hb; exact ⟨b, hb, List.mem_of_getElem? hb, hp⟩
    · cases hp
  have hRs : R sn2 (iot m ι) Hs W := by
    refine ⟨hR0.dom, hR0.blk, fun b o p hb ha hp => OR_mono ⟨hle, fun _ _ h => h⟩ rfl (hR0.obj b o p hb ha hp), hR0.sep, fun a v hv => ?_, hR0.shz⟩
    obtain ⟨h1, h2, h3⟩ := hsn2 a v hv
    refine ⟨h2, h3, fun b o p hb ha hp e => ?_⟩
    obtain ⟨c, _, hc, hp'⟩ := atm hp
    exact h1 ⟨c, p, hc, hp', e⟩
  have hla : LR sn2 (iot m ι) fargs vargs := by
    refine frzML_sound (H := kilM m Hc) (W := W) (fun b o p hb ha hp => ?_) (gl_le hle) (fun b o p hb ha hp off v hv => ?_) n _ _ _ hargs hl
    · exact hR.obj b o p (kilM_get hb ha).1 ha hp
    · obtain ⟨h1, h2⟩ := kilM_get hb ha
      refine hsn2' _ v ?_ (hR.blk b p hp) hv
      rintro ⟨b', p', hb', hp', e⟩
      exact apart_ b o p h1 ha h2 hp b' p' hb' hp' e
  refine (hM sn2 (iot m ι) W vargs (hg.mono (gl_le hle)) hRs hla).mono ?_
  rintro e W' ⟨v, sn', ι', rfl, hv, hst⟩
  generalize hd : Hc.length = d at *
  obtain ⟨pL, hpL⟩ := (hst.rel.dom k).1 (by omega)
  have hshL : pL.sh = 0 := hst.rel.shz k _ pL hL hpL rfl
  have hblkL := hst.rel.blk k pL hpL
  let κ : IMap := fun b => if b < d then ι b else if b = d then some pL else none
  have k1 : ∀ b, b < d → κ b = ι b := fun b hb => if_pos hb
  have k2 : κ d = some pL := by show (if d < d then ι d else if d = d then some pL else none) = some pL; rw [if_neg (by omega), if_pos rfl]
  have kinv : ∀ b p, κ b = some p → (b < d ∧ ι b = some p) ∨ (b = d ∧ p = pL) := fun b p hp => by
    by_cases hb : b < d
    · rw [k1 b hb] at hp; exact .inl ⟨hb, hp⟩
    · have hp : (if b < d then ι b else if b = d then some pL else none) = some p := hp
      rw [if_neg hb] at hp
      split at hp
      · cases hp; exact .inr ⟨by assumption, rfl⟩
      · cases hp
  have whereL : W.heap.size ≤ pL.blk ∨ ∃ (c : Nat) (oc : AObj) (pc : Place), m.length = k + 1 ∧ m[k]? = some c ∧ Hc[c]? = some oc ∧ oc.alive = true ∧ oc.sh = 0 ∧ ι c = some pc ∧ pc.blk = pL.blk := by
    rcases hst.fresh k _ pL hL rfl hpL with h | ⟨b0, o0, p0, e1, e2, e3, e4⟩
    · exact .inl h
    · obtain ⟨c, hc, hcm, hpc⟩ := atm e3
      have hb0 : b0 < m.length := (List.getElem?_eq_some_iff.1 hc).1
      obtain ⟨j, o, o2, x1, x2, x3, x4, x5, x6, x7, x8⟩ := hg1 b0 hb0
      rw [hc] at x1; cases x1
      by_cases hlt : b0 < k
      · exfalso
        have hkeep := hst.keep b0 p0 hlt e3
        obtain ⟨ob, hob⟩ : ∃ ob, Hs'[b0]? = some ob := ⟨_, List.getElem?_eq_getElem (by omega)⟩
        have hs := hst.rel.sep b0 k ob _ p0 pL hob hL hkeep hpL e4
        have h1 := (hg2 b0 ob hob).1
        rw [h1] at hs
        simp at hs
        omega
      · have hbk : b0 = k := by omega
        subst hbk
        rw [e1] at x3; cases x3
        exact .inr ⟨c, o, p0, by omega, hc, x2, x4, by rw [← x7]; exact hs0 _ _ e1, hpc, e4⟩
  have mLt : ∀ {i b : Nat}, m[i]? = some b → b < d := fun {i b} h => by
    obtain ⟨_, o, _, p, _, y2, _⟩ := inm b (List.mem_of_getElem? h)
    rw [← hd]; exact (List.getElem?_eq_some_iff.1 y2).1
  have hback : ∀ i, i < k + 1 → ∀ p, ι' i = some p → κ (sig m k d i) = some p := fun i hi p hp => by
    by_cases hik : i < k
    · obtain ⟨b, hb⟩ : ∃ b, m[i]? = some b := ⟨m[i], List.getElem?_eq_getElem (by omega)⟩
      obtain ⟨p0, hp0⟩ := (hRs.dom i).1 (by omega)
      have h1 := hst.keep i p0 hik hp0
      rw [hp] at h1; cases h1
      obtain ⟨c, hc, _, hp1⟩ := atm hp0
      rw [hb] at hc; cases hc
      have : sig m k d i = b := by unfold sig; rw [if_pos hik, List.getD_eq_getElem?_getD, hb]; rfl
      rw [this, k1 b (mLt hb)]; exact hp1
    · have : i = k := by omega
      subst this
      rw [hpL] at hp; cases hp
      have : sig m i d i = d := by unfold sig; rw [if_neg (by omega)]
      rw [this]; exact k2
  have pos_ : ∀ b, b ∈ m → ∃ i, posN m b 0 = some i ∧ m[i]? = some b := fun b hb => by
    cases hx : posN m b 0 with
    | none => exact (posN_none hx hb).elim
    | some i => exact ⟨i, rfl, by simpa using (posN_some hx).2⟩
  have old : ∀ (b : Nat) (o : AObj) (p : Place), Hc[b]? = some o → o.alive = true → b ∉ m → ι b = some p → W'.heap[p.blk]? = W.heap[p.blk]? := fun b o p ho hoa hb hp => by
    refine hst.frame _ (hR.blk b p hp) fun i o2 p2 hi ha hp2 e => ?_
    obtain ⟨c, _, hc, hp3⟩ := atm hp2
    exact apart_ b o p ho hoa hb hp c p2 hc hp3 e
  have hup : ∀ (b : Nat) (o' : AObj), (updQ m (sig m k d) k Hs' 0 Hc)[b]? = some o' → ∃ o, Hc[b]? = some o ∧ o'.fam = o.fam ∧ o'.sh = o.sh ∧ ((b ∉ m ∧ o' = o) ∨ (∃ (i : Nat) (x : AObj), i < k ∧ m[i]? = some b ∧ Hs'[i]? = some x ∧ o'.alive = x.alive ∧ o'.body = renB (sig m k d) x.body ∧ o.alive = true) ∨ o'.alive = false) := by
    intro b o' h
    rw [updQ_get] at h
    simp only [Nat.zero_add] at h
    cases hx : Hc[b]? with
    | none => rw [hx] at h; cases h
    | some o =>
      rw [hx] at h
      simp only [Option.map_some, Option.some.injEq] at h
      refine ⟨o, rfl, ?_⟩
      by_cases hb : b ∈ m
      · obtain ⟨i, h1, h2⟩ := pos_ b hb
        have hi : i < m.length := (List.getElem?_eq_some_iff.1 h2).1
        rw [h1] at h
        by_cases hik : i < k
        · have hi' : i < Hs'.length := by omega
          simp only [Nat.blt_eq, hik, List.getElem?_eq_getElem hi', if_true] at h
          subst h
          obtain ⟨_, y, _, _, _, y2, _, y4, _⟩ := inm b hb
          rw [hx] at y2; cases y2
          exact ⟨rfl, rfl, .inr (.inl ⟨i, Hs'[i], hik, h2, List.getElem?_eq_getElem hi', rfl, rfl, y4⟩)⟩
        · simp only [Nat.blt_eq, hik, if_false] at h
          subst h
          exact ⟨rfl, rfl, .inr (.inr rfl)⟩
      · have hn : posN m b 0 = none := by
          cases hx : posN m b 0 with
          | none => rfl
          | some i => exact (hb (List.mem_of_getElem? (posN_some hx).2)).elim
        rw [hn] at h
        subst h
        exact ⟨rfl, rfl, .inl ⟨hb, rfl⟩⟩
  have hlen : (updQ m (sig m k d) k Hs' 0 Hc).length = d := by rw [updQ_len, hd]
  have hget : ∀ (b : Nat) (o' : AObj) (p : Place), (updQ m (sig m k d) k Hs' 0 Hc ++ [⟨true, F, 0, renB (sig m k d) bL⟩])[b]? = some o' → κ b = some p →
      (b < d ∧ ι b = some p ∧ (updQ m (sig m k d) k Hs' 0 Hc)[b]? = some o') ∨ (b = d ∧ p = pL ∧ o' = ⟨true, F, 0, renB (sig m k d) bL⟩) := by
    intro b o' p hb hp
    rcases kinv b p hp with ⟨h1, h2⟩ | ⟨rfl, rfl⟩
    · rw [List.getElem?_append_left (by omega)] at hb
      exact .inl ⟨h1, h2, hb⟩
    · rw [List.getElem?_append_right (by omega), hlen, Nat.sub_self] at hb
      simp at hb
      exact .inr ⟨rfl, rfl, hb.symm⟩
  have hnr : ∀ c, c < W.heap.size → (∀ (b : Nat) (o : AObj) p, Hc[b]? = some o → o.alive = true → ι b = some p → p.blk ≠ c) → W'.heap[c]? = W.heap[c]? := fun c hc hno => by
    refine hst.frame c hc fun i o2 p2 hi ha hp2 e => ?_
    obtain ⟨b, _, hb, hp3⟩ := atm hp2
    obtain ⟨_, o, _, _, _, y2, _, y4, _⟩ := inm b hb
    exact hno b o p2 y2 y4 hp3 e
  have sepL : ∀ (b : Nat) (o : AObj) (p : Place), Hc[b]? = some o → ι b = some p → p.blk = pL.blk → o.fam = F ∧ p.sh = o.sh := by
    intro b o p ho hp e
    rcases whereL with h | ⟨c, oc, pc, g1, g2, g3, g4, g5, g6, g7⟩
    · have := hR.blk b p hp; omega
    · have hs := hR.sep c b oc o pc p g3 ho g6 hp (g7.trans e.symm)
      have hpc := hR.shz c oc pc g3 g6 g5
      rcases hF with ⟨h, _⟩ | ⟨_, h⟩
      · omega
      · have : m.getD k 0 = c := by rw [List.getD_eq_getElem?_getD, g2]; rfl
        rw [this] at h
        simp only [famOf, g3] at h
        exact ⟨by rw [h]; exact hs.1.symm, by omega⟩
  have hR' : R sn κ (updQ m (sig m k d) k Hs' 0 Hc ++ [⟨true, F, 0, renB (sig m k d) bL⟩]) W' := by
    refine ⟨fun b => ⟨fun hb => ?_, fun ⟨p, hp⟩ => ?_⟩, fun b p hp => ?_, fun b o' p hb ha hp => ?_, fun b b' o o' p p' hb hb' hp hp' e => ?_, fun a v hv => ?_, fun b o' p hb hp e => ?_⟩
    · simp only [List.length_append, hlen, List.length_cons, List.length_nil] at hb
      by_cases hlt : b < d
      · rw [k1 b hlt]; exact (hR.dom b).1 (by omega)
      · have : b = d := by omega
        subst this; exact ⟨pL, k2⟩
    · simp only [List.length_append, hlen, List.length_cons, List.length_nil]
      rcases kinv b p hp with ⟨h1, _⟩ | ⟨h1, _⟩ <;> omega
    · rcases kinv b p hp with ⟨_, h1⟩ | ⟨_, rfl⟩
      · exact Nat.lt_of_lt_of_le (hR.blk b p h1) hst.size
      · exact hblkL
    · rcases hget b o' p hb hp with ⟨b1, b2, b3⟩ | ⟨b1, rfl, rfl⟩
      · obtain ⟨o, ho, _, _, h | ⟨i, x, h0, h1, h2, h3, h4, h5⟩ | h⟩ := hup b o' b3
        · obtain ⟨h1, rfl⟩ := h
          refine OR_mono ⟨fun _ _ h => h, fun c p hc => ?_⟩ (old b _ p ho ha h1 b2) (hR.obj b _ p ho ha b2)
          rw [k1 c (by have := (hR.dom c).2 ⟨p, hc⟩; omega)]; exact hc
        · rw [h4]
          have hi' := hst.rel.obj i x p h2 (by rw [← h3]; exact ha) (hst.keep i p h0 (by simp only [iot, h1]; exact b2))
          have h7 := (hg2 i x h2).2
          exact OR_ren x.body (OR_refs x.body p (fun y hy => hback y (allLt_mem h7 y hy)) (OR_snap x.body (noROH_get hro h2) hi'))
        · rw [h] at ha; cases ha
      · have hi' := hst.rel.obj k _ p hL rfl hpL
        have h7 := (hg2 k _ hL).2
        exact OR_ren bL (OR_refs bL p (fun y hy => hback y (allLt_mem h7 y hy)) (OR_snap bL (noROH_get hro hL) hi'))
    · rcases hget b o p hb hp with ⟨b1, b2, b3⟩ | ⟨b1, rfl, rfl⟩ <;> rcases hget b' o' p' hb' hp' with ⟨c1, c2, c3⟩ | ⟨c1, rfl, rfl⟩
      · obtain ⟨x, hx, e1, e2, _⟩ := hup b o b3
        obtain ⟨y, hy, e3, e4, _⟩ := hup b' o' c3
        have := hR.sep b b' x y p p' hx hy b2 c2 e
        rw [e1, e2, e3, e4]; exact this
      · obtain ⟨x, hx, e1, e2, _⟩ := hup b o b3
        obtain ⟨s1, s2⟩ := sepL b x p hx b2 e
        exact ⟨by rw [e1]; exact s1, by rw [e2, hshL, s2]; simp⟩
      · obtain ⟨x, hx, e1, e2, _⟩ := hup b' o' c3
        obtain ⟨s1, s2⟩ := sepL b' x p' hx c2 e.symm
        exact ⟨by rw [e1]; exact s1.symm, by rw [e2, hshL, s2]; simp⟩
      · exact ⟨rfl, rfl⟩
    · obtain ⟨h1, h2, h3⟩ := hR.snap a v hv
      refine ⟨Nat.lt_of_lt_of_le h1 hst.size, ?_, fun b o' p hb ha hp => ?_⟩
      · rw [← h2]; exact World.cell?_of_block (hnr _ h1 h3)
      · rcases hget b o' p hb hp with ⟨b1, b2, b3⟩ | ⟨b1, rfl, rfl⟩
        · obtain ⟨o, ho, _, _, h | ⟨i, x, _, _, _, _, _, h5⟩ | h⟩ := hup b o' b3
          · obtain ⟨_, rfl⟩ := h; exact h3 b _ p ho ha b2
          · exact h3 b o p ho h5 b2
          · rw [h] at ha; cases ha
        · rcases whereL with h | ⟨c, oc, pc, g1, g2, g3, g4, g5, g6, g7⟩
          · omega
          · have := h3 c oc pc g3 g4 g6; omega
    · rcases hget b o' p hb hp with ⟨b1, b2, b3⟩ | ⟨b1, rfl, rfl⟩
      · obtain ⟨o, ho, _, e2, _⟩ := hup b o' b3
        exact hR.shz b o p ho b2 (by rw [← e2]; exact e)
      · exact hshL
  refine ⟨v, sn, κ, rfl, ?_, hR', ⟨fun _ _ h => h, fun b p hb => ?_⟩, fun b p hp => ?_, hnr, hst.size, hst.os, hst.tape, hst.output, fun _ _ h => .inl h, fun b o hb => ?_⟩
  · exact (VR_ren r v).2 (VR_refs r [] v (fun y hy => hback y (allLt_mem hrk y hy)) (VR_snap r v hrr hv))
  · rw [k1 b (by have := (hR.dom b).2 ⟨p, hb⟩; omega)]; exact hb
  · rcases kinv b p hp with ⟨_, h1⟩ | ⟨_, rfl⟩
    · exact .inl h1
    · rcases whereL with h | ⟨c, oc, pc, g1, g2, g3, g4, g5, g6, g7⟩
      · exact .inr (.inl h)
      · exact .inr (.inr ⟨c, oc, pc, g3, g4, g6, g7⟩)
  · have hb' : b < (updQ m (sig m k d) k Hs' 0 Hc).length := by rw [hlen, ← hd]; exact (List.getElem?_eq_some_iff.1 hb).1
    have hx := List.getElem?_eq_getElem hb'
    obtain ⟨x, hx1, e1, e2, h | ⟨i, y, h0, h1, h2, h3, h4, h5⟩ | h⟩ := hup b _ hx
    · rw [hb] at hx1; cases hx1
      exact ⟨_, by rw [List.getElem?_append_left hb']; exact hx, e1, e2, fun ha => by rw [h.2] at ha; exact ha⟩
    · rw [hb] at hx1; cases hx1
      exact ⟨_, by rw [List.getElem?_append_left hb']; exact hx, e1, e2, fun _ => h5⟩
    · rw [hb] at hx1; cases hx1
      exact ⟨_, by rw [List.getElem?_append_left hb']; exact hx, e1, e2, fun ha => by rw [h] at ha; cases ha⟩
end Go.Abs
end


section

set_option linter.unusedSimpArgs false
set_option linter.unusedVariables false
namespace Go.Abs
open Go.RowKit
def byt (s : List UInt8) : List AV := s.map fun b => .int .u8 b.toNat
theorem byt_refs : ∀ (t : List UInt8) (acc : List Nat), refsL (byt t) acc = acc
  | [], _ => rfl
  | c :: t, acc => by show refsL (.int .u8 c.toNat :: byt t) acc = acc; simp only [refsL, refs]; exact byt_refs t acc
theorem byt_ren (f : Nat → Nat) : ∀ t : List UInt8, renL f (byt t) = byt t
  | [] => rfl
  | c :: t => by show ren f (.int .u8 c.toNat) :: renL f (byt t) = _; rw [byt_ren f t]; rfl
theorem byt_noRO : ∀ t : List UInt8, noROL (byt t) = true
  | [] => rfl
  | c :: t => by show (noRO (.int .u8 c.toNat) && noROL (byt t)) = true; rw [byt_noRO t]; rfl
theorem byt_inj : ∀ {a b : List UInt8}, byt a = byt b → a = b
  | [], [], _ => rfl
  | [], _ :: _, h => by simp [byt] at h
  | _ :: _, [], h => by simp [byt] at h
  | x :: a, y :: b, h => by
    have h' : AV.int .u8 x.toNat :: byt a = AV.int .u8 y.toNat :: byt b := h
    simp only [List.cons.injEq, AV.int.injEq, true_and] at h'
    have h2 : x.toNat = y.toNat := by have := h'.1; omega
    rw [UInt8.toNat_inj.1 h2, byt_inj h'.2]
def WH (tW tB : TypeId) : List UInt8 → Int → AHeap
  | [], d => [⟨true, 0, 0, .cells [.nptr, .nslice, .int .i64 d] tW⟩]
  | x :: s, d => [⟨true, 0, 0, .cells [.ptr 0 0, .slice 1 0 (x :: s).length (x :: s).length 1, .int .i64 d] tW⟩, ⟨true, 1, 0, .cells (byt (x :: s)) tB⟩]
def famLt (d : Nat) : AHeap → Bool
  | [] => true
  | o :: H => Nat.blt o.fam d && famLt d H
theorem famLt_mem {d : Nat} : ∀ {H : AHeap}, famLt d H = true → ∀ o ∈ H, o.fam < d
  | [], _, o, h => by cases h
  | x :: H, h, o, ho => by
    simp only [famLt, Bool.and_eq_true] at h
    rcases List.mem_cons.1 ho with rfl | ho
    · exact blt_lt h.1
    · exact famLt_mem h.2 o ho
def out0 (tW tB : TypeId) (Hc : AHeap) (b fb : Nat) (s' : List UInt8) (d : Int) : AHeap := Hc.set b ⟨true, fb, 0, .cells [.ptr b 0, .slice Hc.length 0 s'.length s'.length 1, .int .i64 d] tW⟩ ++ [⟨true, Hc.length, 0, .cells (byt s') tB⟩]
def out1 (tW tB : TypeId) (Hc : AHeap) (b c fb fc : Nat) (s' : List UInt8) (d : Int) : AHeap :=
  (Hc.set b ⟨true, fb, 0, .cells [.ptr b 0, .slice Hc.length 0 s'.length s'.length 1, .int .i64 d] tW⟩).set c ⟨false, fc, 0, .cells [] 0⟩ ++ [⟨true, fc, 0, .cells (byt s') tB⟩]
section
variable {P : Program} {gl : Glob} {tW tB : TypeId}
theorem wh_get {s : List UInt8} {d : Int} {i : Nat} {o : AObj} (h : (WH tW tB s d)[i]? = some o) : o.sh = 0 ∧ o.fam = i ∧ noROB o.body = true ∧ allLt 2 (refsB o.body []) = true := by
  cases s with
  | nil =>
    simp only [WH] at h
    match i, h with
    | 0, h => simp at h; subst h; exact ⟨rfl, rfl, rfl, rfl⟩
    | i + 1, h => simp at h
  | cons x s =>
    simp only [WH] at h
    match i, h with
    | 0, h => simp at h; subst h; exact ⟨rfl, rfl, rfl, rfl⟩
    | 1, h =>
      simp at h; subst h
      refine ⟨rfl, rfl, ?_, ?_⟩
      · exact byt_noRO (x :: s)
      · show allLt 2 (refsL (byt (x :: s)) []) = true
        rw [byt_refs]; rfl
    | i + 2, h => simp at h
theorem wh_noRO (s : List UInt8) (d : Int) : noROH (WH tW tB s d) = true := by
  cases s with
  | nil => rfl
  | cons x s =>
    show (noROB (.cells [.ptr 0 0, .slice 1 0 (x :: s).length (x :: s).length 1, .int .i64 d] tW) && (noROL (byt (x :: s)) && true)) = true
    rw [byt_noRO]; rfl
theorem wr_frame0 {f b fb : Nat} {Hc : AHeap} {fa rest : List AV} {d d' : Int} {s' : List UInt8} (hM : MemQ P gl 1 f (.ptr 0 0 :: fa) (WH tW tB [] d) (.tuple []) (WH tW tB s' d')) (hs' : s' ≠ []) (e1 : Hc[b]? = some ⟨true, fb, 0, .cells [.nptr, .nslice, .int .i64 d] tW⟩)
    (hl : loneA [b] [fb] 0 Hc = true) (hF : famLt Hc.length Hc = true) (ha : frzL (frzM [b] (kilM [b] Hc) 30) rest = some fa) :
    MemOK P gl f (.ptr b 0 :: rest) Hc (.tuple []) (out0 tW tB Hc b fb s' d') := by
  obtain ⟨x, t, rfl⟩ : ∃ x t, s' = x :: t := by cases s' with | nil => exact absurd rfl hs' | cons x t => exact ⟨x, t, rfl⟩
  have hfam : famOf Hc b = fb := by simp only [famOf, e1]
  have hp : posN [b] b 0 = some 0 := by simp [posN]
  have h := memq_frame (m := [b]) (n := 30) (F := Hc.length) (Hc := Hc) (cargs := .ptr b 0 :: rest) (bL := .cells (byt (x :: t)) tB) hM ?_ ?_ rfl ?_ rfl rfl (fun i o ho => ⟨(wh_get ho).2.1, (wh_get ho).2.2.2⟩) (fun i o ho => (wh_get ho).1) (wh_noRO _ _) rfl rfl (.inl ⟨rfl, famLt_mem hF⟩)
  · have hu : updQ [b] (sig [b] 1 Hc.length) 1 (WH tW tB (x :: t) d') 0 Hc ++ [⟨true, Hc.length, 0, renB (sig [b] 1 Hc.length) (.cells (byt (x :: t)) tB)⟩] = out0 tW tB Hc b fb (x :: t) d' := by
      unfold out0
      congr 1
      · apply List.ext_getElem?
        intro i
        rw [updQ_get]
        simp only [Nat.zero_add]
        by_cases hi : i = b
        · subst hi
          rw [hp, List.getElem?_set_self (List.getElem?_eq_some_iff.1 e1).1, e1]
          rfl
        · have : posN [b] i 0 = none := by
            have : Nat.beq b i = false := Bool.eq_false_iff.2 fun e => hi (Nat.eq_of_beq_eq_true e).symm
            simp only [posN, this]; rfl
          rw [this, List.getElem?_set_ne (fun e => hi e.symm)]
          cases Hc[i]? <;> rfl
      · simp only [renB, byt_ren]
    rw [hu] at h
    exact h
  · have : frzM [b] (kilM [b] Hc) 30 (.ptr b 0) = some (.ptr 0 0) := by
      unfold frzM; simp only [hp]
    simp only [frzL, this, ha]
  · exact ⟨by rw [e1]; exact ⟨rfl, rfl, rfl, rfl, BodyGe.cellsL ⟨Wk.noref rfl, Wk.noref rfl, Wk.int rfl, trivial⟩⟩, trivial⟩
  · simp only [List.map, hfam]; exact hl
theorem wr_frame1 {f b c fb fc : Nat} {Hc : AHeap} {fa rest : List AV} {d d' : Int} {s s' : List UInt8} (hM : MemQ P gl 1 f (.ptr 0 0 :: fa) (WH tW tB s d) (.tuple []) (WH tW tB s' d')) (hs : s ≠ []) (hs' : s' ≠ []) (e2 : Hc[c]? = some ⟨true, fc, 0, .cells (byt s) tB⟩)
    (e1 : Hc[b]? = some ⟨true, fb, 0, .cells [.ptr b 0, .slice c 0 s.length s.length 1, .int .i64 d] tW⟩) (hn : Nat.beq fb fc = false) (hl : loneA [b, c] [fb, fc] 0 Hc = true) (ha : frzL (frzM [b, c] (kilM [b, c] Hc) 30) rest = some fa) :
    MemOK P gl f (.ptr b 0 :: rest) Hc (.tuple []) (out1 tW tB Hc b c fb fc s' d') := by
  obtain ⟨x, t, rfl⟩ : ∃ x t, s' = x :: t := by cases s' with | nil => exact absurd rfl hs' | cons x t => exact ⟨x, t, rfl⟩
  obtain ⟨y, u, rfl⟩ : ∃ x t, s = x :: t := by cases s with | nil => exact absurd rfl hs | cons x t => exact ⟨x, t, rfl⟩
  have hfb : famOf Hc b = fb := by simp only [famOf, e1]
  have hfc : famOf Hc c = fc := by simp only [famOf, e2]
  have hne : fb ≠ fc := fun e => by rw [e] at hn; simp at hn
  have hbc : b ≠ c := fun e => by subst e; rw [hfb] at hfc; exact hne hfc
  have hb1 : Nat.beq b c = false := Bool.eq_false_iff.2 fun e => hbc (Nat.eq_of_beq_eq_true e)
  have hp : posN [b, c] b 0 = some 0 := by simp [posN]
  have hpc : posN [b, c] c 0 = some 1 := by simp only [posN, hb1]; simp
  have h := memq_frame (m := [b, c]) (n := 30) (F := fc) (Hc := Hc) (cargs := .ptr b 0 :: rest) (bL := .cells (byt (x :: t)) tB) hM ?_ ?_ ?_ ?_ rfl rfl (fun i o ho => ⟨(wh_get ho).2.1, (wh_get ho).2.2.2⟩) (fun i o ho => (wh_get ho).1) (wh_noRO _ _) rfl rfl (.inr ⟨rfl, hfc.symm⟩)
  · have hu : updQ [b, c] (sig [b, c] 1 Hc.length) 1 (WH tW tB (x :: t) d') 0 Hc ++ [⟨true, fc, 0, renB (sig [b, c] 1 Hc.length) (.cells (byt (x :: t)) tB)⟩] = out1 tW tB Hc b c fb fc (x :: t) d' := by
      unfold out1
      congr 1
      · apply List.ext_getElem?
        intro i
        rw [updQ_get]
        simp only [Nat.zero_add]
        have lb := (List.getElem?_eq_some_iff.1 e1).1
        have lc := (List.getElem?_eq_some_iff.1 e2).1
        by_cases hi : i = b
        · subst hi
          rw [hp, List.getElem?_set_ne hbc.symm, List.getElem?_set_self lb, e1]
          rfl
        · by_cases hj : i = c
          · subst hj
            rw [hpc, List.getElem?_set_self (by simpa using lc), e2]
            rfl
          · have : posN [b, c] i 0 = none := by
              have h1 : Nat.beq b i = false := Bool.eq_false_iff.2 fun e => hi (Nat.eq_of_beq_eq_true e).symm
              have h2 : Nat.beq c i = false := Bool.eq_false_iff.2 fun e => hj (Nat.eq_of_beq_eq_true e).symm
              simp only [posN, h1, h2]; rfl
            rw [this, List.getElem?_set_ne (fun e => hj e.symm), List.getElem?_set_ne (fun e => hi e.symm)]
            cases Hc[i]? <;> rfl
      · simp only [renB, byt_ren]
    rw [hu] at h
    exact h
  · have : frzM [b, c] (kilM [b, c] Hc) 30 (.ptr b 0) = some (.ptr 0 0) := by
      unfold frzM; simp only [hp]
    simp only [frzL, this, ha]
  · refine ⟨by rw [e1]; exact ⟨rfl, rfl, rfl, rfl, BodyGe.cellsL ⟨Wk.ptr rfl rfl, Wk.slice rfl rfl rfl (Nat.le_refl _) (Nat.le_refl _) rfl, Wk.int rfl, trivial⟩⟩, by rw [e2]; exact ⟨rfl, rfl, rfl, rfl, BodyGe.pre (rest := []) (by simp) (byt_refs _ _)⟩, trivial⟩
  · simp only [List.map, hfb, hfc, nodupN, mem]
    have : (fb == fc) = false := by simpa using hne
    simp only [this, Bool.or_false, Bool.not_false, Bool.and_true]
    first | rfl | (simp; exact hne) | (simp [hn])
  · simp only [List.map, hfb, hfc]; exact hl
structure WM (P : Program) (gl : Glob) (tW tB : TypeId) where
  f : Nat
  X : Type
  G : X → Prop
  G0 : X → Prop
  A : X → List AV
  D : X → Int
  T : X → List UInt8
  L : Nat
  body : hasBody P f = true
  inj : ∀ x y, G x → G y → A x = A y → D x = D y → T x = T y
  ne : ∀ x, G x → G0 x → T x ≠ []
  ok : ∀ x, G x → ∀ s, (s = [] → G0 x) → (s ++ T x).length ≤ L → MemQ P gl 1 f (.ptr 0 0 :: A x) (WH tW tB s (D x)) (.tuple []) (WH tW tB (s ++ T x) (D x))
structure WI (X : Type) where
  x : X
  s : List UInt8
  b : Nat
  c : Nat
  fb : Nat
  fc : Nat
  H : AHeap
  rest : List AV
def WM.Gd (W : WM P gl tW tB) (i : WI W.X) : Prop := W.G i.x ∧ (i.s ++ W.T i.x).length ≤ W.L ∧ match i.s with
  | [] => W.G0 i.x ∧ i.c = 0 ∧ i.fc = 0 ∧ i.H[i.b]? = some ⟨true, i.fb, 0, .cells [.nptr, .nslice, .int .i64 (W.D i.x)] tW⟩ ∧ loneA [i.b] [i.fb] 0 i.H = true ∧ famLt i.H.length i.H = true ∧ frzL (frzM [i.b] (kilM [i.b] i.H) 30) i.rest = some (W.A i.x)
  | y :: u => i.H[i.c]? = some ⟨true, i.fc, 0, .cells (byt (y :: u)) tB⟩ ∧ i.H[i.b]? = some ⟨true, i.fb, 0, .cells [.ptr i.b 0, .slice i.c 0 (y :: u).length (y :: u).length 1, .int .i64 (W.D i.x)] tW⟩ ∧
    Nat.beq i.fb i.fc = false ∧ loneA [i.b, i.c] [i.fb, i.fc] 0 i.H = true ∧ frzL (frzM [i.b, i.c] (kilM [i.b, i.c] i.H) 30) i.rest = some (W.A i.x)
def WM.Out (W : WM P gl tW tB) (i : WI W.X) : AHeap := match i.s with
  | [] => out0 tW tB i.H i.b i.fb (i.s ++ W.T i.x) (W.D i.x)
  | _ :: _ => out1 tW tB i.H i.b i.c i.fb i.fc (i.s ++ W.T i.x) (W.D i.x)
def WM.fam (W : WM P gl tW tB) : FamM P gl where
  I := WI W.X
  f := W.f
  G := W.Gd
  A := fun i => .ptr i.b 0 :: i.rest
  H := fun i => i.H
  R := fun _ => .tuple []
  O := W.Out
  body := W.body
  inj := by
    rintro ⟨x, s, b, c, fb, fc, H, rest⟩ ⟨x', s', b', c', fb', fc', H', rest'⟩ h h' e1 e2
    simp only [List.cons.injEq, AV.ptr.injEq, and_true] at e1
    obtain ⟨rfl, rfl⟩ := e1
    simp only at e2; subst e2
    refine ⟨rfl, ?_⟩
    simp only [WM.Gd] at h h'
    obtain ⟨g, _, h⟩ := h
    obtain ⟨g', _, h'⟩ := h'
    cases s with
    | nil =>
      cases s' with
      | nil =>
        obtain ⟨_, rfl, rfl, a1, a2, a3, a4⟩ := h
        obtain ⟨_, rfl, rfl, b1, b2, b3, b4⟩ := h'
        rw [a1] at b1
        simp only [Option.some.injEq, AObj.mk.injEq, ABody.cells.injEq, List.cons.injEq, AV.int.injEq, true_and, and_true] at b1
        obtain ⟨rfl, hd⟩ := b1
        rw [a4] at b4
        have ht := W.inj x x' g g' (Option.some.inj b4) hd
        simp only [WM.Out, ht, hd]
      | cons y u =>
        obtain ⟨_, _, _, a1, a2, a3, a4⟩ := h
        obtain ⟨b1, b2, b3, b4, b5⟩ := h'
        rw [a1] at b2
        simp at b2
    | cons y u =>
      cases s' with
      | nil =>
        obtain ⟨a1, a2, a3, a4, a5⟩ := h
        obtain ⟨_, _, _, b1, b2, b3, b4⟩ := h'
        rw [a2] at b1
        simp at b1
      | cons y' u' =>
        obtain ⟨a1, a2, a3, a4, a5⟩ := h
        obtain ⟨b1, b2, b3, b4, b5⟩ := h'
        rw [a2] at b2
        simp only [Option.some.injEq, AObj.mk.injEq, ABody.cells.injEq, List.cons.injEq, AV.int.injEq, AV.slice.injEq, true_and, and_true] at b2
        obtain ⟨rfl, ⟨rfl, _⟩, hd⟩ := b2
        rw [a1] at b1
        simp only [Option.some.injEq, AObj.mk.injEq, ABody.cells.injEq, true_and, and_true] at b1
        obtain ⟨rfl, hb⟩ := b1
        have hs := byt_inj hb
        simp only [List.cons.injEq] at hs
        obtain ⟨rfl, rfl⟩ := hs
        rw [a5] at b5
        have ht := W.inj x x' g g' (Option.some.inj b5) hd
        simp only [WM.Out, ht, hd]
  ok := by
    rintro ⟨x, s, b, c, fb, fc, H, rest⟩ h
    simp only [WM.Gd] at h
    obtain ⟨g, hl, h⟩ := h
    cases s with
    | nil =>
      obtain ⟨g0, rfl, rfl, a1, a2, a3, a4⟩ := h
      exact wr_frame0 (W.ok x g [] (fun _ => g0) hl) (by simpa using W.ne x g g0) a1 a2 a3 a4
    | cons y u =>
      obtain ⟨a1, a2, a3, a4, a5⟩ := h
      exact wr_frame1 (W.ok x g (y :: u) (fun e => by cases e) hl) (by simp) (by simp) a1 a2 a3 a4 a5
end
end Go.Abs
end


section

set_option linter.unusedSimpArgs false
set_option linter.unusedVariables false
namespace Go.Abs
open Go.RowKit
def hasN (tm : Tr) : Nat → Bool
  | 0 => true
  | n + 1 => tex tm n
def TsOf (tm : Tr) : List (Nat × AV) → Prop
  | [] => True
  | x :: l => tget tm x.1 = some x.2 ∧ TsOf tm l
section rel
variable {sn : Snap} {ι : IMap} {tm : Tr} {a : Act}
theorem hasN_le (ht : TRel sn ι tm a) : ∀ {n : Nat}, hasN tm n = true → n ≤ a.tmps.size
  | 0, _ => Nat.zero_le _
  | n + 1, h => ht.2 n h
theorem TsOf.tsr (ht : TRel sn ι tm a) : ∀ {ts : List (Nat × AV)}, TsOf tm ts → TSR sn ι ts a.tmps
  | [], _ => trivial
  | x :: l, ⟨h1, h2⟩ => ⟨ht.1 _ _ h1, h2.tsr ht⟩
theorem TSR.look {tmps : Array Value} : ∀ {ts : List (Nat × AV)}, TSR sn ι ts tmps → ∀ t u, alook t ts = some u → ∃ v, tmps[t]? = some v ∧ VR sn ι u v
  | [], _, t, u, e => by simp [alook] at e
  | (k, w) :: l, ⟨h1, h2⟩, t, u, e => by
    simp only [alook] at e
    split at e
    · rename_i hk
      have := Nat.eq_of_beq_eq_true hk; subst this
      simp at e; subst e
      exact h1
    · exact h2.look t u e
end rel
def rfK (P : Program) (cw : CW) : AV → Array Tmp → Code → Code → KN → KX → KN → Tr → AHeap → Prop := fun v ps asg bd kn kx kr tm H =>
  match v with
  | .func (.func g) first caps => hasBody P g = true ∧ ∃ (n : Nat) (ts : List (Nat × AV)), hasN tm n = true ∧ TsOf tm ts ∧ ∀ l : Nat,
      cw g (first ++ .func (.yield l) [] [] :: caps) (H ++ [⟨true, H.length, 0, .loop ⟨l, .ready, none, n, ps, asg, bd⟩ ts⟩]) fun _ H1 =>
        onO H1[H.length]? fun o => match o with
          | ⟨true, fam, sh, .loop g ts⟩ => g.st ≠ .busy ∧ frcHW ((wkil H.length fam H1).set H.length (AObj.dead ⟨true, fam, sh, .loop g ts⟩)) fun H2 => match g.pend with
            | none => kn tm H2
            | some .ret => kr tm H2
            | some (.exit id) => kx id tm H2
            | _ => False
          | _ => False
  | _ => False
theorem turn_putObj (W : World) (r : Nat) (o : Obj) : Turn W (W.putObj r o) r :=
  ⟨fun c hc => World.putObj_heap_other hc, by simp, rfl, rfl, rfl⟩
section stmt
variable {P : Program} {gl : Glob} {orc : Orc} {k : Nat}
theorem rfK_ok (hn : NoNum P) (hO : OrcSound P gl orc) {cw : CW} (hcw : CWok P orc cw) : RFok P gl none k (rfK P cw) := by
  intro f v ps asg bd kn kx kr tm H hv h a W sn ι Q hg hR ht hQ
  unfold rfK at h
  split at h <;> try exact h.elim
  rename_i g first caps
  obtain ⟨hb, n, ts, h1, h2, h⟩ := h
  obtain ⟨f', c', hfv, hl1, hl2⟩ := (aeval_sound hg ht _ _ hv).func
  refine wpIn_rangeFunc fun fn _ => ?_
  obtain ⟨rec, hrec⟩ : ∃ rec : Loop, rec = { state := .ready, pending := none, fn, tmps := a.tmps, params := ps, assign := asg, body := bd, defers := W.heap.size } := ⟨_, rfl⟩
  have hfnn : ∃ fn, P.funcs[g]? = some fn := by
    unfold hasBody at hb
    cases hfn : P.funcs[g]? with
    | none => rw [hfn] at hb; cases hb
    | some fn => exact ⟨fn, rfl⟩
  obtain ⟨gfn, hgfn⟩ := hfnn
  obtain ⟨W1, hW1⟩ : ∃ W1, W1 = W.alloc (.deferred (some [])) := ⟨_, rfl⟩
  obtain ⟨W2, hW2⟩ : ∃ W2, W2 = W1.alloc (.loop rec) := ⟨_, rfl⟩
  have hsz1 : W1.heap.size = W.heap.size + 1 := by rw [hW1]; simp
  have hsz2 : W2.heap.size = W.heap.size + 2 := by rw [hW2]; simp [hsz1]
  have hs1 : Stp sn ι H W sn ι H W1 := Stp.ext hR (by rw [hW1]; exact Ext.alloc W _)
  obtain ⟨p, hp⟩ : ∃ p : Place, p = ⟨W1.heap.size, 0, 0⟩ := ⟨_, rfl⟩
  obtain ⟨o, ho⟩ : ∃ o : AObj, o = ⟨true, H.length, 0, .loop ⟨W1.heap.size, .ready, none, n, ps, asg, bd⟩ ts⟩ := ⟨_, rfl⟩
  have hs2 : Stp sn ι H W1 sn (upd ι H.length p) (H ++ [o]) W2 := by
    rw [hp, hW2]
    refine Stp.alloc hs1.rel o (.loop rec) 0 fun _ => ?_
    rw [ho]
    simp only [OR]
    exact ⟨rec, World.alloc_heap_new W1 _, trivial, ⟨by rw [hrec], by rw [hrec], by rw [hrec]; exact hasN_le ht h1, by rw [hrec], by rw [hrec], by rw [hrec]⟩, by rw [hrec]; exact h2.tsr ht⟩
  have hs12 := Stp.trans hR hs1 hs2
  obtain ⟨r, H1, hc, h⟩ := hcw _ _ _ _ (h W1.heap.size)
  rw [← ho] at hc
  have ha : LR sn (upd ι H.length p) (first ++ .func (.yield W1.heap.size) [] [] :: caps) (f'.toList ++ .func (.yield W1.heap.size) #[] #[] :: c'.toList) := by
    refine LR.append (LR_mono hs2.le _ _ hl1) ?_
    simp only [LR]
    exact ⟨_, _, rfl, by simp [VR, LR], LR_mono hs2.le _ _ hl2⟩
  unfold acall at hc
  rw [if_pos hb] at hc
  have hcall := (hO g _ _ r H1 hc sn _ W2 _ hg hs2.rel ha).calls hgfn
  have hbn : gfn.body.isNone = false := by
    unfold hasBody at hb
    rw [hgfn] at hb
    have hb : gfn.body.isSome = true := hb
    cases hfb : gfn.body with
    | none => rw [hfb] at hb; cases hb
    | some _ => rfl
  refine ⟨W1.heap.size, [dmark W.heap.size], W2, { target := .fn (.func g) c', args := f' ++ #[.func (.yield W1.heap.size) #[] #[]] }, W2, g, (f' ++ #[.func (.yield W1.heap.size) #[] #[]]) ++ c', W2, ?_, ?_, fun f' _ => trivial, ?_, fun h => (by cases h), callsIn_q.2 ?_⟩
  · rw [hsz1, hW2, hW1, hrec]; exact run_enterLoop_outer fn a.tmps ps asg bd
  · simp only [resolve, hfv, Deferred.ofValue]
    simp [go_sem]
  · simp only [invoke, callFunc, Sem.run_bind, run_program, Result.andThen_ok, hgfn, hn.num g gfn hgfn, hbn, Bool.false_eq_true, if_false]
    rfl
  · have hargs : ((f' ++ #[.func (.yield W1.heap.size) #[] #[]]) ++ c') = (f'.toList ++ Value.func (.yield W1.heap.size) #[] #[] :: c'.toList).toArray := by apply Array.ext'; simp
    rw [hargs]
    refine hcall.mono ?_
    rintro e W3 ⟨u, sn', ι', rfl, hu, hs⟩
    obtain ⟨o1, hb1, h⟩ := onO_some h
    split at h <;> try exact h.elim
    rename_i fam sh gg ts1
    obtain ⟨hst, h⟩ := h
    rw [frcHW_eq] at h
    have hpb : (upd ι H.length p) H.length = some p := upd_self _ _ _
    have hpb' : ι' H.length = some p := hs.le.ι _ _ hpb
    have hor := hs.rel.obj _ _ p hb1 rfl hpb'
    simp only [OR] at hor
    obtain ⟨r3, e1, e2, e3, e4⟩ := hor
    have hpk : p.blk = W1.heap.size := by rw [hp]
    rw [hpk] at e1
    obtain ⟨r4, hr4⟩ : ∃ r4 : Loop, r4 = { r3 with state := .exhausted } := ⟨_, rfl⟩
    have hs4 : Stp sn' ι' H1 W3 sn' ι' ((wkil H.length fam H1).set H.length (AObj.dead ⟨true, fam, sh, .loop gg ts1⟩)) (W3.putObj W1.heap.size (.loop r4)) :=
      Stp.lose hs.rel (o := ⟨true, fam, sh, .loop gg ts1⟩) hb1 rfl hpb' (by rw [hpk]; exact turn_putObj W3 _ _)
    have hall := Stp.trans hR hs12 (Stp.trans hs12.rel hs hs4)
    have nott : ∀ (b : Nat) (q : Place), (upd ι H.length p) b = some q → q.blk ≠ W.heap.size := by
      intro b q hq e
      unfold upd at hq
      split at hq
      · cases hq; omega
      · have := hR.blk b q hq; omega
    have hD : W3.heap[W.heap.size]? = some (.deferred (some [])) := by
      rw [hs.frame _ (by omega) fun b o q _ _ hq => nott b q hq, hs2.frame _ (by omega) fun b o q _ _ hq e => (by have := hR.blk b q hq; omega), hW1]
      exact World.alloc_heap_new W _
    have hdef : DefOK W a.defers ι' ((wkil H.length fam H1).set H.length (AObj.dead ⟨true, fam, sh, .loop gg ts1⟩)) (W3.putObj W1.heap.size (.loop r4)) (dmark W.heap.size :: a.defers) := by
      refine ⟨[W.heap.size], rfl, by simp, fun D hD' => ?_⟩
      simp only [List.mem_singleton] at hD'
      subst hD'
      refine ⟨Nat.le_refl _, by rw [World.putObj_heap_other (by omega)]; exact hD, fun b o q _ _ hq e => ?_⟩
      rcases hs.fresh b q hq with f1 | f1 | ⟨b0, o0, p0, f1, f2, f3, f4⟩
      · exact nott b q f1 e
      · omega
      · exact nott b0 p0 f3 (f4.trans e)
    have htm : TRel sn' ι' tm { a with defers := dmark W.heap.size :: a.defers } := ht.mono (hs12.le.trans hs.le)
    refine ⟨r3.pending, W3.putObj W1.heap.size (.loop r4), by rw [hr4]; exact run_endLoop e1 (by rw [e3.st]; exact hst), ?_⟩
    rw [e3.pend]
    split at h
    · rename_i hpe
      rw [hpe]
      exact hQ .normal tm _ _ _ sn' ι' h (hall.q hR) htm hdef
    · rename_i hpe
      rw [hpe]
      exact wpIn_ret (hQ .ret tm _ _ _ sn' ι' h (hall.q hR) htm hdef)
    · rename_i id hpe
      rw [hpe]
      exact wpIn_exit (hQ (.exit id) tm _ _ _ sn' ι' h (hall.q hR) htm hdef)
    · exact h.elim
end stmt
def setLoop (H : AHeap) (b : Nat) (was st : LoopState) (pf : Option Code → Option Code) (k : AHeap → Prop) : Prop :=
  onO H[b]? fun o => match o with
    | ⟨true, fam, sh, .loop g ts⟩ => g.st = was ∧ frcHW ((wkil b fam H).set b ⟨true, fam, sh, .loop { g with st := st, pend := pf g.pend } ts⟩) k
    | _ => False
def tmR (n : Nat) (ts : List (Nat × AV)) : Tr := mask (fun t => alook t ts) (tmk (fun i => if Nat.blt i n then some (.tuple []) else none) (tdep 20 n))
def tsIn : List Nat → List AV → List (Nat × AV) → List (Nat × AV)
  | p :: ps, u :: us, ts => tsIn ps us ((p, u) :: ts)
  | _, _, ts => ts
theorem tsIn_look {sn : Snap} {ι : IMap} {n : Nat} : ∀ {ps : List Nat} {us : List AV} {vs : List Value} {ts : List (Nat × AV)} {tmps : Array Value}, allLt n ps = true → n ≤ tmps.size → ps.length = us.length → LR sn ι us vs →
    (∀ t u, alook t ts = some u → ∃ v, tmps[t]? = some v ∧ VR sn ι u v) →
    n ≤ ((ps.zip vs).foldl (fun tmps x => tmps.setIfInBounds x.1 x.2) tmps).size ∧ ∀ t u, alook t (tsIn ps us ts) = some u → ∃ v, ((ps.zip vs).foldl (fun tmps x => tmps.setIfInBounds x.1 x.2) tmps)[t]? = some v ∧ VR sn ι u v
  | [], [], vs, ts, tmps, hp, hn, hl, hv, h => by simpa [tsIn, hn] using h
  | p :: ps, u :: us, vs, ts, tmps, hp, hn, hl, hv, h => by
    simp only [allLt, Bool.and_eq_true] at hp
    simp only [LR] at hv
    obtain ⟨d, ds, rfl, h1, h2⟩ := hv
    simp only [List.zip_cons_cons, List.foldl_cons, tsIn]
    have hpl : p < tmps.size := by have := blt_lt hp.1; omega
    refine tsIn_look hp.2 (by simpa using hn) (by simpa using hl) h2 fun t u' e => ?_
    simp only [alook] at e
    split at e
    · rename_i hk
      have := Nat.eq_of_beq_eq_true hk; subst this
      simp at e; subst e
      exact ⟨d, by simp [hpl], h1⟩
    · rename_i hk
      obtain ⟨v, g1, g2⟩ := h t u' e
      exact ⟨v, by rw [Array.getElem?_setIfInBounds_ne (by rintro rfl; simp at hk)]; exact g1, g2⟩
  | [], _ :: _, _, _, _, _, _, hl, _, _ => by simp at hl
  | _ :: _, [], _, _, _, _, _, hl, _, _ => by simp at hl
section round
variable {P : Program} {gl : Glob} {orc : Orc} {k : Nat}
def finY (b k : Nat) (H0 : AHeap) (ok : Bool) (pend : Option Code) (r : AV) (N : AHeap) (H : AHeap) : Prop :=
  setLoop H b .busy (match ok with | true => .ready | false => .done) (fun _ => pend) fun H => r = .bool ok ∧ H.take k = N ∧ evoB k H0 N = true
theorem setLoop_sound {sn : Snap} {ι : IMap} {H : AHeap} {W : World} {b l : Nat} {was st : LoopState} {pf : Option Code → Option Code} {K : AHeap → Prop} (hR : R sn ι H W) (h : setLoop H b was st pf K) (hl : ∀ p, ι b = some p → p.blk = l) :
    ∃ r : Loop, W.heap[l]? = some (.loop r) ∧ r.state = was ∧ ∃ H', K H' ∧ ∀ r', r' = { r with state := st, pending := pf r.pending } → Stp sn ι H W sn ι H' (W.putObj l (.loop r')) := by
  obtain ⟨o, hb, h⟩ := onO_some h
  split at h <;> try exact h.elim
  rename_i fam sh g ts
  obtain ⟨hst, h⟩ := h
  rw [frcHW_eq] at h
  obtain ⟨p, hp⟩ := hR.place hb
  have hor := hR.obj _ _ p hb rfl hp
  simp only [OR] at hor
  obtain ⟨r, e1, e2, e3, e4⟩ := hor
  have hpl := hl p hp
  rw [hpl] at e1
  refine ⟨r, e1, by rw [e3.st]; exact hst, _, h, fun r' hr' => ?_⟩
  refine Stp.write hR (o := ⟨true, fam, sh, .loop g ts⟩) hb rfl hp (by rw [hpl]; exact turn_putObj W l _) (.loop { g with st := st, pend := pf g.pend } ts) ?_
  simp only [OR]
  rw [hpl]
  refine ⟨r', World.putObj_heap_same (Array.getElem?_eq_some_iff.1 e1).1, by rw [← hpl]; exact e2, ?_, by rw [hr']; exact e4⟩
  rw [hr']
  exact ⟨rfl, by rw [← e3.pend], e3.n, e3.ps, e3.asg, e3.bd⟩
theorem round_mem (hm : P.follows .mixedOrders = true) (hn : NoNum P) (hO : OrcSound P gl orc) {b : Nat} {args : List AV} {H0 N : AHeap} {r : AV} {fam sh : Nat} {g : ALoop} {ts : List (Nat × AV)} {cw : CW} (hcw : CWok P orc cw)
    (hk : H0.length = k) (hb : H0[b]? = some ⟨true, fam, sh, .loop g ts⟩) (hps : g.ps.toList.length = args.length) (hpn : allLt g.n g.ps.toList = true)
    (h : frcTr (tmR g.n (tsIn g.ps.toList args ts)) fun tm => wexec P gl orc cw (wloopK k) g.asg
      (fun tm H => setLoop H b .ready .busy (fun p => p) fun H => wexec P gl orc cw (wloopK k) g.bd (fun _ H => finY b k H0 true none r N H) (fun id _ H => finY b k H0 false (some (.exit id)) r N H) (fun _ H => finY b k H0 false (some .ret) r N H) tm H)
      (fun _ _ _ => False) (fun _ _ => False) tm H0) : MemOK P gl (ykey g.l) args H0 r N := by
  intro sn ι W cargs hg hR ha
  rw [frcTr_eq] at h
  have hbk : b < k := by rw [← hk]; exact (List.getElem?_eq_some_iff.1 hb).1
  obtain ⟨p, hp⟩ := hR.place hb
  have hor := hR.obj _ _ p hb rfl hp
  simp only [OR] at hor
  obtain ⟨rc, e1, e2, e3, e4⟩ := hor
  have keepl : ∀ {sn' : Snap} {ι' : IMap} {H' : AHeap} {W' : World}, Stq k sn ι H0 W sn' ι' H' W' → ∀ q, ι' b = some q → q.blk = g.l := fun s q hq => by
    have := s.keep b p hbk hp
    rw [hq] at this; cases this; exact e2
  rw [e2] at e1
  have hcl : cargs.toArray.size = rc.params.size := by
    have := ha.length
    rw [e3.ps]
    simp only [List.size_toArray, this, ← hps, Array.length_toList]
  refine .inr ⟨g.l, rfl, hn.key _, _, _, _, _, run_yield e1 hcl, ?_⟩
  rw [e3.asg, e3.bd, e3.ps]
  have hfold : ∀ (l : Array Tmp) (vs : List Value) (t0 : Array Value), (l.zip vs.toArray).foldl (fun tmps x => match x with | (t, a) => tmps.setIfInBounds t a) t0 = (l.toList.zip vs).foldl (fun tmps x => tmps.setIfInBounds x.1 x.2) t0 := by
    intro l vs t0
    rw [← Array.foldl_toList, Array.toList_zip]
  rw [hfold]
  obtain ⟨hsz, hlk⟩ := tsIn_look (ps := g.ps.toList) (us := args) (vs := cargs) (ts := ts) (tmps := rc.tmps) hpn e3.n hps ha (e4.look)
  have ht : TRel sn ι (tmR g.n (tsIn g.ps.toList args ts)) { tmps := (g.ps.toList.zip cargs).foldl (fun tmps x => tmps.setIfInBounds x.1 x.2) rc.tmps, defers := [] } := by
    refine ⟨fun t u e => hlk t u (mask_get _ _ _ _ e), fun t e => ?_⟩
    unfold tmR at e
    rw [mask_tex] at e
    obtain ⟨u, hu⟩ := tmk_tex _ _ _ e
    split at hu
    · rename_i hlt; exact Nat.lt_of_lt_of_le (blt_lt hlt) hsz
    · cases hu
  refine roundIn_of_wpIn (F := Fq none) trivial ?_
  have fin : ∀ {ok : Bool} {pend : Option Code} {sn' : Snap} {ι' : IMap} {H' : AHeap} {W' : World}, pend.isNone = ok → Stq k sn ι H0 W sn' ι' H' W' → finY b k H0 ok pend r N H' →
      ∃ v w', (Instr.endRound g.l pend).run P W' = .ok v w' ∧ ∃ v' sn2 ι2, Ending.returned v = .returned v' ∧ VR sn2 ι2 r v' ∧ Stp sn ι H0 W sn2 ι2 N w' := by
    intro ok pend sn' ι' H' W' hok s hf
    obtain ⟨r3, f1, f2, H3, ⟨rfl, g1, g2⟩, f3⟩ := setLoop_sound s.rel hf (keepl s)
    have hst := f3 { r3 with state := if pend.isNone then .ready else .done, pending := pend } (by rw [hok]; cases ok <;> rfl)
    have hrun := run_endRound (P := P) pend f1
    have s3 := s.trans (hst.q s.rel)
    obtain ⟨ι2, k1, k2⟩ := stp_of_stq hk hR s3 g1 g2
    exact ⟨_, _, hrun, _, sn', ι2, rfl, by rw [hok]; exact vr_bool ok, k1⟩
  refine (wexec_ok (rd := some g.l) hm hn hO hcw g.asg h) _ W sn ι _ hg hR ht fun x tm1 H1 a1 W1 sn1 ι1 hx s1 t1 d1 => ?_
  cases x with
  | normal =>
    replace hx : setLoop H1 b .ready .busy (fun p => p) fun H => wexec P gl orc cw (wloopK k) g.bd (fun _ H => finY b k H0 true none r N H) (fun id _ H => finY b k H0 false (some (.exit id)) r N H) (fun _ H => finY b k H0 false (some .ret) r N H) tm1 H := hx
    obtain ⟨r2, f1, f2, H2, hx, f3⟩ := setLoop_sound s1.rel hx (keepl s1)
    have hst := f3 { r2 with state := .busy } rfl
    refine ⟨_, run_beginRound f1 f2, ?_⟩
    refine (wexec_ok (rd := some g.l) hm hn hO hcw g.bd hx) a1 _ sn1 ι1 _ (hg.mono (gl_le s1.le)) hst.rel (t1.mono hst.le) fun x tm2 H3 a3 W3 sn3 ι3 hx3 s3 t3 d3 => ?_
    have s := (s1.trans (hst.q s1.rel)).trans s3
    cases x with
    | normal => exact fin rfl s hx3
    | ret => exact fin rfl s hx3
    | exit id => exact fin rfl s hx3
  | exit id => exact hx.elim
  | ret => exact hx.elim
end round
section call
open Classical
theorem orcI_at {I : Type} {G : I → Prop} {fF : I → Nat} {fA : I → List AV} {fH : I → AHeap} {fR : I → AV} {fO : I → AHeap} (hinj : ∀ i j, G i → G j → fF i = fF j → fA i = fA j → fH i = fH j → fR i = fR j ∧ fO i = fO j) {g : Nat} {args : List AV} {H : AHeap} (i : I) (hi : G i) (h1 : fF i = g) (h2 : fA i = args) (h3 : fH i = H) :
    orcI G fF fA fH fR fO g args H = some (fR i, fO i) := by
  have hx : ∃ i, G i ∧ fF i = g ∧ fA i = args ∧ fH i = H := ⟨i, hi, h1, h2, h3⟩
  unfold orcI
  rw [dif_pos hx]
  obtain ⟨g1, g2, g3, g4⟩ := Classical.choose_spec hx
  obtain ⟨e1, e2⟩ := hinj _ i g1 hi (g2.trans h1.symm) (g3.trans h2.symm) (g4.trans h3.symm)
  rw [e1, e2]
end call
theorem acall_y {P : Program} (hn : NoNum P) {O : Orc} {H : AHeap} {l : Nat} {args : List AV} {x : AV × AHeap} (h : O (ykey l) args H = some x) : acall P O H (ykey l) (ymark l :: args) = some x := by
  have hk := hn.key l
  unfold acall
  rw [hn.noBody, if_neg (by decide)]
  simp only [extId, extIx, extMk, hk, yl, ymark, if_true]
  exact h
theorem acall_y1 {P : Program} (hn : NoNum P) {O1 O2 : Orc} {H : AHeap} {l : Nat} {args : List AV} {x : AV × AHeap} (h : O1 (ykey l) args H = some x) : acall P (orcOr O1 O2) H (ykey l) (ymark l :: args) = some x :=
  acall_y hn (by unfold orcOr; rw [h])
def rfOf : Code → Option (Array Tmp × Code × Code)
  | .rangeFunc _ ps a b => some (ps, a, b)
  | .seq a b => match rfOf a with | some x => some x | none => rfOf b
  | .cond _ a b => match rfOf a with | some x => some x | none => rfOf b
  | .block _ b => rfOf b
  | .loop b => rfOf b
  | .scope b => rfOf b
  | _ => none
def rfIn (c : Option Code) : Array Tmp × Code × Code := match c with
  | some c => match rfOf c with | some x => x | none => (#[], .skip, .skip)
  | none => (#[], .skip, .skip)
def fitsB (k : Nat) : AHeap → Bool
  | [] => true
  | o :: H => allLt k (refsB o.body []) && fitsB k H
theorem fitsB_get {k : Nat} : ∀ {H : AHeap} {b : Nat} {o : AObj}, fitsB k H = true → H[b]? = some o → allLt k (refsB o.body []) = true
  | [], b, o, h, e => by simp at e
  | x :: H, 0, o, h, e => by simp only [fitsB, Bool.and_eq_true] at h; simp at e; subst e; exact h.1
  | x :: H, b + 1, o, h, e => by simp only [fitsB, Bool.and_eq_true] at h; exact fitsB_get h.2 (by simpa using e)
def otherF (fs : List Nat) : AHeap → Bool
  | [] => true
  | o :: H => !mem o.fam fs && otherF fs H
theorem otherF_get {fs : List Nat} : ∀ {X : AHeap} {b : Nat} {o : AObj}, otherF fs X = true → X[b]? = some o → o.fam ∉ fs
  | [], b, o, h, e => by simp at e
  | x :: X, 0, o, h, e => by
    simp only [otherF, Bool.and_eq_true, Bool.not_eq_true'] at h
    simp at e; subst e
    intro hm; rw [mem_iff.2 hm] at h; cases h.1
  | x :: X, b + 1, o, h, e => by simp only [otherF, Bool.and_eq_true] at h; exact otherF_get h.2 (by simpa using e)
theorem mem_app {P : Program} {gl : Glob} {f : Nat} {args : List AV} {H H' : AHeap} {r : AV} (hM : MemOK P gl f args H r H') (X : AHeap) (hl : H'.length = H.length) (ha : allLt H.length (refsL args []) = true) (hb : fitsB H.length H = true) (hX : otherF (H.map (·.fam)) X = true) : MemOK P gl f args (H ++ X) r (H' ++ X) := by
  intro sn ι W cargs hg hR hargs
  let ι0 : IMap := fun b => if b < H.length then ι b else none
  have i0 : ∀ b, b < H.length → ι0 b = ι b := fun b h => if_pos h
  have i0' : ∀ b p, ι0 b = some p → b < H.length ∧ ι b = some p := fun b p h => by
    have h : (if b < H.length then ι b else none) = some p := h
    split at h
    · exact ⟨by assumption, h⟩
    · cases h
  have gH : ∀ (b : Nat) (o : AObj), H[b]? = some o → (H ++ X)[b]? = some o := fun b o h => by
    rw [List.getElem?_append_left (List.getElem?_eq_some_iff.1 h).1]; exact h
  have hfam : ∀ (b c : Nat) (o x : AObj) (p q : Place), H[b]? = some o → (H ++ X)[c]? = some x → H.length ≤ c → ι b = some p → ι c = some q → p.blk = q.blk → False := by
    intro b c o x p q hb hc hk hp hq e
    have hf := (hR.sep b c o x p q (gH b o hb) hc hp hq e).1
    rw [List.getElem?_append_right hk] at hc
    exact otherF_get hX hc (by rw [← hf]; exact List.mem_map.2 ⟨o, List.mem_of_getElem? hb, rfl⟩)
  have hR0 : R sn ι0 H W := by
    refine ⟨fun b => ⟨fun hb => ?_, fun ⟨p, hp⟩ => (i0' b p hp).1⟩, fun b p hp => hR.blk b p (i0' b p hp).2, fun b o p ho hal hp => ?_, fun b b' o o' p p' ho ho' hp hp' e => hR.sep b b' o o' p p' (gH _ _ ho) (gH _ _ ho') (i0' _ _ hp).2 (i0' _ _ hp').2 e, fun a v hv => ?_, fun b o p ho hp e => hR.shz b o p (gH _ _ ho) (i0' _ _ hp).2 e⟩
    · obtain ⟨p, hp⟩ := (hR.dom b).1 (by rw [List.length_append]; omega)
      exact ⟨p, by rw [i0 b hb]; exact hp⟩
    · obtain ⟨hbl, hp⟩ := i0' b p hp
      exact OR_refs o.body p (fun x hx q hq => by rw [i0 x (allLt_mem (fitsB_get hb ho) x hx)]; exact hq) (hR.obj b o p (gH _ _ ho) hal hp)
    · obtain ⟨h1, h2, h3⟩ := hR.snap a v hv
      exact ⟨h1, h2, fun b o p ho hal hp => h3 b o p (gH _ _ ho) hal (i0' _ _ hp).2⟩
  have hl0 : LR sn ι0 args cargs := LR_refs args [] cargs (fun b hb' p hp => by rw [i0 b (allLt_mem ha b hb')]; exact hp) hargs
  refine (hM sn ι0 W cargs hg hR0 hl0).mono ?_
  rintro e W1 ⟨v, sn1, ι1, rfl, hv, hs⟩
  let ι2 : IMap := fun b => match ι1 b with | some p => some p | none => ι b
  have a1 : ∀ b p, ι1 b = some p → ι2 b = some p := fun b p h => by show (match ι1 b with | some p => some p | none => ι b) = some p; rw [h]
  have a2 : ∀ b, H.length ≤ b → ι2 b = ι b := fun b h => by
    show (match ι1 b with | some p => some p | none => ι b) = ι b
    cases hq : ι1 b with
    | none => rfl
    | some p => have := (hs.rel.dom b).2 ⟨p, hq⟩; omega
  have a3 : ∀ b p, ι b = some p → ι2 b = some p := fun b p h => by
    by_cases hb' : b < H.length
    · exact a1 b p (hs.le.ι b p (by rw [i0 b hb']; exact h))
    · rw [a2 b (by omega)]; exact h
  have a4 : ∀ b p, b < H.length → ι2 b = some p → ι1 b = some p ∧ ι b = some p := fun b p hb' h => by
    obtain ⟨q, hq⟩ := (hR.dom b).1 (by rw [List.length_append]; omega)
    have h1 := hs.le.ι b q (by rw [i0 b hb']; exact hq)
    have h2 := a1 b q h1
    rw [h] at h2; cases h2
    exact ⟨h1, hq⟩
  have hle : Le sn sn1 ι ι2 := ⟨hs.le.sn, a3⟩
  have g1 : ∀ (b : Nat) (o : AObj), (H' ++ X)[b]? = some o → (b < H.length ∧ H'[b]? = some o) ∨ (H.length ≤ b ∧ (H ++ X)[b]? = some o) := fun b o h => by
    by_cases hb' : b < H.length
    · rw [List.getElem?_append_left (by omega)] at h; exact .inl ⟨hb', h⟩
    · rw [List.getElem?_append_right (by omega), hl] at h
      exact .inr ⟨by omega, by rw [List.getElem?_append_right (by omega)]; exact h⟩
  have old : ∀ (b : Nat) (o : AObj) (p : Place), (H' ++ X)[b]? = some o → ι2 b = some p → ∃ o0, (H ++ X)[b]? = some o0 ∧ ι b = some p ∧ o.fam = o0.fam ∧ o.sh = o0.sh := by
    intro b o p ho hp
    rcases g1 b o ho with ⟨h1, h2⟩ | ⟨h1, h2⟩
    · obtain ⟨_, hq⟩ := a4 b p h1 hp
      obtain ⟨o', k1, k2, k3, _⟩ := hs.evo b _ (List.getElem?_eq_getElem h1)
      rw [h2] at k1; cases k1
      exact ⟨_, gH _ _ (List.getElem?_eq_getElem h1), hq, k2, k3⟩
    · rw [a2 b h1] at hp
      exact ⟨o, h2, hp, rfl, rfl⟩
  have same : ∀ (b : Nat) (o : AObj) (p : Place), (H ++ X)[b]? = some o → H.length ≤ b → ι b = some p → W1.heap[p.blk]? = W.heap[p.blk]? := fun b o p ho hk hp =>
    hs.frame p.blk (hR.blk b p hp) fun b' o' p' ho' _ hp' e => hfam b' b o' o p' p ho' ho hk (i0' _ _ hp').2 hp e
  refine ⟨v, sn1, ι2, rfl, VR_mono ⟨fun _ _ h => h, a1⟩ _ _ hv, ⟨?_, hle, fun b p hp => ?_, fun c hc hno => hs.frame c hc fun b o p ho hal hp => hno b o p (gH _ _ ho) hal (i0' _ _ hp).2, hs.size, hs.os, hs.tape, hs.output, fun a v hv => ?_, fun b o ho => ?_⟩⟩
  · refine ⟨fun b => ?_, fun b p hp => ?_, fun b o p ho hal hp => ?_, fun b b' o o' p p' ho ho' hp hp' e => ?_, fun a u hu => ?_, fun b o p ho hp e => ?_⟩
    · have := hR.dom b
      rw [List.length_append, hl, ← List.length_append, this]
      constructor
      · rintro ⟨p, hp⟩; exact ⟨p, a3 b p hp⟩
      · rintro ⟨p, hp⟩
        by_cases hb' : b < H.length
        · exact ⟨p, (a4 b p hb' hp).2⟩
        · exact ⟨p, by rw [← a2 b (by omega)]; exact hp⟩
    · by_cases hb' : b < H.length
      · exact hs.rel.blk b p (a4 b p hb' hp).1
      · rw [a2 b (by omega)] at hp
        have := hR.blk b p hp; have := hs.size; omega
    · rcases g1 b o ho with ⟨h1, h2⟩ | ⟨h1, h2⟩
      · obtain ⟨hp1, _⟩ := a4 b p h1 hp
        exact OR_mono ⟨fun _ _ h => h, a1⟩ rfl (hs.rel.obj b o p h2 hal hp1)
      · rw [a2 b h1] at hp
        exact OR_mono hle (same b o p h2 h1 hp) (hR.obj b o p h2 hal hp)
    · obtain ⟨o0, k1, k2, k3, k4⟩ := old b o p ho hp
      obtain ⟨o0', k1', k2', k3', k4'⟩ := old b' o' p' ho' hp'
      rw [k3, k3', k4, k4']
      exact hR.sep b b' o0 o0' p p' k1 k1' k2 k2' e
    · obtain ⟨h1, h2, h3⟩ := hs.rel.snap a u hu
      refine ⟨h1, h2, fun b o p ho hal hp e => ?_⟩
      rcases g1 b o ho with ⟨k1, k2⟩ | ⟨k1, k2⟩
      · exact h3 b o p k2 hal (a4 b p k1 hp).1 e
      · rw [a2 b k1] at hp
        rcases hs.sfresh a u hu with f1 | f1 | ⟨b0, o0, p0, f1, f2, f3, f4⟩
        · exact (hR.snap a u f1).2.2 b o p k2 hal hp e
        · have := hR.blk b p hp; omega
        · exact hfam b0 b o0 o p0 p f1 k2 k1 (i0' _ _ f3).2 hp (f4.trans e.symm)
    · obtain ⟨o0, k1, k2, _, k4⟩ := old b o p ho hp
      exact hR.shz b o0 p k1 k2 (by rw [← k4]; exact e)
  · by_cases hb' : b < H.length
    · exact .inl (a4 b p hb' hp).2
    · rw [a2 b (by omega)] at hp; exact .inl hp
  · rcases hs.sfresh a v hv with f1 | f1 | ⟨b0, o0, p0, f1, f2, f3, f4⟩
    · exact .inl f1
    · exact .inr (.inl f1)
    · exact .inr (.inr ⟨b0, o0, p0, gH _ _ f1, f2, (i0' _ _ f3).2, f4⟩)
  · by_cases hb' : b < H.length
    · rw [List.getElem?_append_left hb'] at ho
      obtain ⟨o', k1, k2, k3, k4⟩ := hs.evo b o ho
      exact ⟨o', by rw [List.getElem?_append_left (by omega)]; exact k1, k2, k3, k4⟩
    · rw [List.getElem?_append_right (by omega)] at ho
      exact ⟨o, by rw [List.getElem?_append_right (by omega), hl]; exact ho, rfl, rfl, id⟩
end Go.Abs
end


section

set_option linter.unusedVariables false
set_option linter.unusedSimpArgs false
namespace Go.Proofs.YtblnhcafobifgaaGreatDoor.lex
open Go.Abs Go.RowKit
set_option maxRecDepth 100000
set_option maxHeartbeats 4000000
noncomputable def rcC : Array Tmp × Code × Code := rfIn Tryz.f11.body
noncomputable def recC (L : Nat) (st : Option (Nat × Int)) : ALoop := match st with
  | none => ⟨L, .ready, none, 80, rcC.1, rcC.2.1, rcC.2.2⟩
  | some _ => ⟨L, .done, some .ret, 80, rcC.1, rcC.2.1, rcC.2.2⟩
def tsC : List (Nat × AV) := [(1, .ptr 0 0), (2, .ptr 1 0), (3, .ptr 2 0), (7, .ptr 3 0)]
def wC (t : Nat) (st : Option (Nat × Int)) : List AV := match st with
  | none => [.int .i64 0, .int .i64 0]
  | some r => [.int .i64 ((t + 1 : Nat) : Int), .int .i64 (r.1 : Nat)]
def eC (st : Option (Nat × Int)) : List AV := match st with
  | none => [.int .i64 0]
  | some r => [.int .i64 r.2]
noncomputable def bsC (ds : List Dc) (ts : List (List St)) (t L : Nat) (st : Option (Nat × Int)) : AHeap := [⟨true, 0, 0, .cells [.rs ds.length 3 (dcC ds), .rs ts.length 1 (ts.map stA)] 29⟩, ⟨true, 1, 0, .cells (wC t st) 32⟩, ⟨true, 2, 0, .cells (eC st) 23⟩, ⟨true, 3, 0, .cells [.int .i64 (t : Nat)] 3⟩, ⟨true, 4, 0, .loop (recC L st) tsC⟩]
def yA (L : Nat) : AV := .func (.yield L) [] []
def ecA : AV := .func (.func 52) [] [.ptr 5 0, .ptr 6 0, .ptr 7 0]
noncomputable def ecH (ds : List Dc) (ts : List (List St)) (t L : Nat) (n : Int) (st : Option (Nat × Int)) : AHeap := [⟨true, 0, 0, .cells [.rs ds.length 3 (dcC ds), .rs ts.length 1 (ts.map stA)] 29⟩, ⟨true, 1, 0, .cells (wC t st) 32⟩, ⟨true, 2, 0, .cells (eC st) 23⟩, ⟨true, 3, 0, .cells [.int .i64 (t : Nat)] 3⟩, ⟨true, 4, 0, .loop (recC L st) tsC⟩,
  ⟨true, 5, 0, .cells [yA L] 89⟩, ⟨true, 6, 0, .cells [.int .i64 n] 3⟩, ⟨true, 7, 0, .cells [ecA] 90⟩]
def stO (r : Nat × Int) : Option (Nat × Int) := cond (r.2 == 0) none (some r)
theorem round_ok (ds : List Dc) (ts : List (List St)) (t L n : Nat) (x : St) (hd : ds.length ≤ 9223372036854775807) (hok : okS x) (hs : sizeL x.exprs ≤ 800000) (ht : t ≤ 1000000) :
    MemOK Tryz.prog runLives.gl (ykey L) [.int .i64 (n : Nat), .agg x.cells] (ecH ds ts t L n none) (.bool (oneP ds x == 0)) (ecH ds ts t L n (stO (n, oneP ds x))) := by
  obtain ⟨O, hO, p1, -⟩ := fams (P := Tryz.prog) (gl := runLives.gl) [{ I := Unit, f := 29, G := fun _ => True, A := fun _ => [.rs ds.length 3 (dcC ds), .agg x.cells], R := fun _ => .int .i64 (oneP ds x), body := (by kernel_rfl), inj := (fun i j _ _ h => rfl), ok := (fun _ _ => ⟨st_refs2 ds x, stmtX_ok ds x hd hok hs⟩) }] rfl
  have q1 : ∀ H, acall Tryz.prog O H 29 [.rs ds.length 3 (dcC ds), .agg x.cells] = some (.int .i64 (oneP ds x), H) := p1 () trivial
  clear p1
  generalize oneP ds x = e at *
  obtain ⟨k, nm, lc, o, ex, th, el⟩ := x
  simp only [St.cells, exA] at *
  refine round_mem (k := 8) (b := 4) (fam := 4) (sh := 0) (g := recC L none) (ts := tsC) follows noNum hO (cw0_ok _ _) rfl rfl rfl rfl ?_
  cases he : e == 0 with
  | true =>
    have f1 : (e != 0) = false := bne_of he
    have hst : stO (n, e) = none := by unfold stO; simp only [he, cond_true]
    rw [hst]
    repeat' ((conv => whnf); first | (refine exI (q1 _) ?_) | (refine And.intro (rfl : (_ : LoopState) = _) ?_) | (first | refine stp ?_ | with_reducible refine condB (fun h => ?_) (fun h => ?_)))
    all_goals (conv => whnf)
    all_goals first | exact ⟨rfl, rfl⟩ | exact ⟨rfl, rfl, rfl⟩ | trace_state
  | false =>
    have f1 : (e != 0) = true := bne_of he
    have hst : stO (n, e) = some (n, e) := by unfold stO; simp only [he, cond_false]
    rw [hst]
    repeat' ((conv => whnf); first | (refine exI (q1 _) ?_) | (refine And.intro (rfl : (_ : LoopState) = _) ?_) | (first | refine stp ?_ | with_reducible refine condB (fun h => ?_) (fun h => ?_)))
    all_goals (conv => whnf)
    all_goals first | exact ⟨rfl, rfl⟩ | exact ⟨rfl, rfl, rfl⟩ | trace_state
theorem ecH_inj {ds : List Dc} {ts : List (List St)} {t L : Nat} {n m : Int} (h : ecH ds ts t L n none = ecH ds ts t L m none) : n = m := by
  simpa only [ecH, List.cons.injEq, AObj.mk.injEq, ABody.cells.injEq, AV.int.injEq, and_true, true_and] using h
theorem ecH_app {ds : List Dc} {ts : List (List St)} {t L : Nat} {n m : Int} {X Y : AHeap} (h : ecH ds ts t L n none ++ X = ecH ds ts t L m none ++ Y) : n = m ∧ X = Y := by
  obtain ⟨h1, h2⟩ := List.append_inj h rfl
  exact ⟨ecH_inj h1, h2⟩
def fs8 : List Nat := [0, 1, 2, 3, 4, 5, 6, 7]
theorem ecH_fits (ds : List Dc) (ts : List (List St)) (t L : Nat) (n : Int) : fitsB 8 (ecH ds ts t L n none) = true := rfl
theorem ne_key (L f : Nat) (h : f < 1024) : ykey L ≠ f := fun e => by have e : L + 1024 = f := e; omega
theorem each_ok (ds : List Dc) (ts : List (List St)) (t L : Nat) (hd : ds.length ≤ 9223372036854775807) (ht : t ≤ 1000000) : ∀ (q : Nat) (l : List St) (n : Nat), sizeSL l ≤ q → okSL l → l.length ≤ 9223372036854775807 → n + sizeSL l ≤ 800000 →
    MemOK Tryz.prog runLives.gl 52 [stA l, .ptr 5 0, .ptr 6 0, .ptr 7 0] (ecH ds ts t L n none) (.bool ((nbSL (oneP ds) l n).2 == 0)) (ecH ds ts t L (nbSL (oneP ds) l n).1 (stO (nbSL (oneP ds) l n)))
  | q, l, n, hq, hok, hl, hn => by
    have hO : ∃ O, OrcSound Tryz.prog runLives.gl O ∧ (∀ x ∈ l, ∀ (c : Nat) (X : AHeap), otherF fs8 X = true → acall Tryz.prog O (ecH ds ts t L c none ++ X) (ykey L) (ymark L :: [.int .i64 (c : Nat), .agg x.cells]) = some (.bool (oneP ds x == 0), ecH ds ts t L c (stO (c, oneP ds x)) ++ X)) ∧
        (∀ (y : List St) (c : Nat) (X : AHeap), sizeSL y < q → okSL y → y.length ≤ 9223372036854775807 → c + sizeSL y ≤ 800000 → otherF fs8 X = true → acall Tryz.prog O (ecH ds ts t L c none ++ X) 52 [stA y, .ptr 5 0, .ptr 6 0, .ptr 7 0] = some (.bool ((nbSL (oneP ds) y c).2 == 0), ecH ds ts t L (nbSL (oneP ds) y c).1 (stO (nbSL (oneP ds) y c)) ++ X)) := by
      refine ⟨orcOr (orcI (fun p : Nat × St × AHeap => p.2.1 ∈ l ∧ otherF fs8 p.2.2 = true) (fun _ => ykey L) (fun p => [.int .i64 (p.1 : Nat), .agg p.2.1.cells]) (fun p => ecH ds ts t L p.1 none ++ p.2.2) (fun p => .bool (oneP ds p.2.1 == 0)) (fun p => ecH ds ts t L p.1 (stO (p.1, oneP ds p.2.1)) ++ p.2.2)) (orcI (fun p : List St × Nat × AHeap => sizeSL p.1 < q ∧ okSL p.1 ∧ p.1.length ≤ 9223372036854775807 ∧ p.2.1 + sizeSL p.1 ≤ 800000 ∧ otherF fs8 p.2.2 = true) (fun _ => 52) (fun p => [stA p.1, .ptr 5 0, .ptr 6 0, .ptr 7 0]) (fun p => ecH ds ts t L p.2.1 none ++ p.2.2) (fun p => .bool ((nbSL (oneP ds) p.1 p.2.1).2 == 0)) (fun p => ecH ds ts t L (nbSL (oneP ds) p.1 p.2.1).1 (stO (nbSL (oneP ds) p.1 p.2.1)) ++ p.2.2)), orcOr_sound (orcI_sound fun p hp => ?_) (orcI_sound fun p hp => ?_), fun x hx c X hX => ?_, fun y c X h0 h1 h2 h3 hX => ?_⟩
      · exact mem_app (round_ok ds ts t L p.1 p.2.1 hd (okSL_get hok _ hp.1) (by have := sizeSL_mem l p.2.1 hp.1; rw [sizeS_kids] at this; omega) ht) p.2.2 rfl (by cases p.2.1; rfl) (ecH_fits ..) hp.2
      · obtain ⟨h0, h1, h2, h3, h4⟩ := hp
        refine mem_app ?_ p.2.2 rfl rfl (ecH_fits ..) h4
        match q, hq, h0 with
        | q + 1, hq, h0 => exact each_ok ds ts t L hd ht q p.1 p.2.1 (by omega) h1 h2 h3
      · exact acall_y1 noNum (orcI_at (fun i j _ _ _ ha hh => by
          obtain ⟨i1, i2, i3⟩ := i
          obtain ⟨j1, j2, j3⟩ := j
          obtain ⟨h1, rfl⟩ := ecH_app hh
          obtain rfl : i1 = j1 := by simp only at h1; omega
          simp only [List.cons.injEq, and_true, true_and] at ha
          rw [agg_cells_inj ha]; exact ⟨rfl, rfl⟩) (c, x, X) ⟨hx, hX⟩ rfl rfl rfl)
      · exact callOr2 (by kernel_rfl) (orcI_none fun p _ e _ => ne_key _ _ (by decide) e) (callI (P := Tryz.prog) (fun i j _ _ _ ha hh => by
          obtain ⟨i1, i2, i3⟩ := i
          obtain ⟨j1, j2, j3⟩ := j
          obtain ⟨h1, rfl⟩ := ecH_app hh
          obtain rfl : i2 = j2 := by simp only at h1; omega
          simp only [List.cons.injEq, and_true] at ha
          rw [stA_inj ha]; exact ⟨rfl, rfl⟩) (by kernel_rfl) (y, c, X) ⟨h0, h1, h2, h3, hX⟩ rfl rfl rfl)
    obtain ⟨O, hO, q1, q2⟩ := hO
    generalize oneP ds = f at *
    show MemOK _ _ _ [.rs l.length 7 (stC l), .ptr 5 0, .ptr 6 0, .ptr 7 0] _ _ _
    refine fn_mem (k := 8) follows noNum hO rfl Tryz.func52 rfl (cw0_ok _ _) ?_
    repeat' ((conv => whnf); first | refine stp ?_ | with_reducible refine condB (fun h => ?_) (fun h => ?_))
    conv => whnf
    refine ⟨Nat, (fun i => i ≤ l.length ∧ (nbSL f (l.take i) n).2 = 0), (fun i => [(1, .ptr 5 0), (2, .ptr 6 0), (3, .ptr 7 0), (8, .rs l.length 7 (stC l)), (9, .int .i64 l.length), (10, .int .i64 i)]), (fun i => ecH ds ts t L ((nbSL f (l.take i) n).1 : Nat) none), (fun i => l.length - i), ⟨0, ⟨Nat.zero_le _, rfl⟩, FgLK.mk [0, 1, 2, 3, 4, 5, 6, 7] rfl rfl ?_ ⟨⟨rfl, rfl, rfl, rfl, BodyGe.pre (rest := []) rfl rfl⟩, ⟨rfl, rfl, rfl, rfl, BodyGe.pre (rest := []) rfl rfl⟩, ⟨rfl, rfl, rfl, rfl, BodyGe.pre (rest := []) rfl rfl⟩, ⟨rfl, rfl, rfl, rfl, BodyGe.pre (rest := []) rfl rfl⟩, ⟨rfl, rfl, rfl, rfl, rfl, rfl, Wk.ptr rfl rfl, rfl, Wk.ptr rfl rfl, rfl, Wk.ptr rfl rfl, rfl, Wk.ptr rfl rfl, trivial⟩, ⟨rfl, rfl, rfl, rfl, BodyGe.pre (rest := []) rfl rfl⟩, ⟨rfl, rfl, rfl, rfl, BodyGe.pre (rest := []) rfl rfl⟩, ⟨rfl, rfl, rfl, rfl, BodyGe.cellsL ⟨Wk.func trivial ⟨Wk.ptr rfl rfl, Wk.ptr rfl rfl, Wk.ptr rfl rfl, trivial⟩, trivial⟩⟩, trivial⟩ rfl⟩, ?_⟩
    · (repeat (first | exact trivial | refine stw ?_))
    rintro i ⟨hi, h0⟩
    dsimp only
    by_cases hlt : i < l.length
    · have e1 : decide ((i : Int) < (l.length : Int)) = true := by simpa using hlt
      have hat := nbSL_at f l n i hlt h0
      have hstop := nbSL_stop f l n (i + 1)
      have hle := nbSL_le f (l.take i) n
      have hsz := sizeSL_at l i hlt
      have hx := st7 l i hlt
      have hmem := get_mem hlt
      have hok' := okS_parts (okSL_get hok _ hmem)
      have hkids := sizeS_kids l[i]
      have hy := fun c X hX => q1 _ hmem c X hX
      generalize hc : (nbSL f (l.take i) n).1 = c at *
      generalize l[i] = x at *
      rw [nbS_eq] at hat
      obtain ⟨_, _, _, ht1, he, _, ht2, he2⟩ := hok'
      have hX : otherF fs8 [⟨true, 8, 0, .cells x.cells 64⟩] = true := rfl
      have hy := hy c _ hX
      have hqt := q2 x.thn (c + 1) _ (by omega) ht2 ht1 (by omega) hX
      have hlt2 := nbSL_le f x.thn (c + 1)
      rw [show ((c + 1 : Nat) : Int) = (c : Int) + 1 from by omega] at hqt
      cases h1 : f x == 0 with
      | false =>
        rw [h1] at hat hy
        simp only [cond_false] at hat
        have hst := hstop (by rw [hat]; simpa using h1)
        rw [hst, hat]
        have hsO : stO (c, f x) = some (c, f x) := by unfold stO; simp only [h1, cond_false]
        simp only [h1]
        rw [hsO] at hy ⊢
        obtain ⟨k, nm, lc, o, ex, th, el⟩ := x
        simp only [St.cells, exA, St.thn, St.els, stA] at *
        clear hqt hat hst hstop q1 q2
        generalize f (St.mk k nm lc o ex th el) = fx at *
        repeat' ((conv => whnf); first | (refine exI hx ?_) | (refine exI hy ?_) | (with_reducible refine ixJ i rfl ?_ ?_; (focus (omega))) | (first | refine stp ?_ | with_reducible refine condB (fun h => ?_) (fun h => ?_)))
        all_goals exact ⟨rfl, rfl⟩
      | true =>
        rw [h1] at hat hy
        simp only [cond_true] at hat
        have hsO : stO (c, f x) = none := by unfold stO; simp only [h1, cond_true]
        rw [hsO] at hy
        clear hsO
        have hqe := q2 x.els (nbSL f x.thn (c + 1)).1 _ (by omega) he2 he (by omega) hX
        have hle2 := nbSL_le f x.els (nbSL f x.thn (c + 1)).1
        generalize nbSL f x.thn (c + 1) = T at *
        obtain ⟨T1, T2⟩ := T
        simp only [thenN] at *
        cases h2 : T2 == 0 with
        | false =>
          rw [h2] at hat hqt
          simp only [cond_false] at hat
          have hst := hstop (by rw [hat]; simpa using h2)
          rw [hst, hat]
          have hsT : stO (T1, T2) = some (T1, T2) := by unfold stO; simp only [h2, cond_false]
          simp only [h2]
          rw [hsT] at hqt ⊢
          obtain ⟨k, nm, lc, o, ex, th, el⟩ := x
          simp only [St.cells, exA, St.thn, St.els, stA] at *
          clear hqe hat hst hstop q1 q2
          repeat' ((conv => whnf); first | (refine exI hx ?_) | (refine exI hy ?_) | (refine exI hqt ?_) | (refine exI hqe ?_) | (with_reducible refine ixJ i rfl ?_ ?_; (focus (omega))) | (first | refine stp ?_ | with_reducible refine condB (fun h => ?_) (fun h => ?_)))
          all_goals exact ⟨rfl, rfl⟩
        | true =>
          rw [h2] at hat hqt
          simp only [cond_true] at hat
          have hsT : stO (T1, T2) = none := by unfold stO; simp only [h2, cond_true]
          rw [hsT] at hqt
          clear hsT
          generalize nbSL f x.els T1 = E at *
          obtain ⟨E1, E2⟩ := E
          simp only at hqe hat
          cases h3 : E2 == 0 with
          | false =>
            rw [h3] at hqe
            have hst := hstop (by rw [hat]; simpa using h3)
            rw [hst, hat]
            have hsE : stO (E1, E2) = some (E1, E2) := by unfold stO; simp only [h3, cond_false]
            simp only [h3]
            rw [hsE] at hqe ⊢
            obtain ⟨k, nm, lc, o, ex, th, el⟩ := x
            simp only [St.cells, exA, St.thn, St.els, stA] at *
            clear hat hst hstop q1 q2
            repeat' ((conv => whnf); first | (refine exI hx ?_) | (refine exI hy ?_) | (refine exI hqt ?_) | (refine exI hqe ?_) | (with_reducible refine ixJ i rfl ?_ ?_; (focus (omega))) | (first | refine stp ?_ | with_reducible refine condB (fun h => ?_) (fun h => ?_)))
            all_goals exact ⟨rfl, rfl⟩
          | true =>
            rw [h3] at hqe
            have hsE : stO (E1, E2) = none := by unfold stO; simp only [h3, cond_true]
            rw [hsE] at hqe
            have h4 : (nbSL f (l.take (i + 1)) n).2 = 0 := by rw [hat]; simpa using h3
            obtain ⟨k, nm, lc, o, ex, th, el⟩ := x
            simp only [St.cells, exA, St.thn, St.els, stA] at *
            clear hstop q1 q2
            repeat' ((conv => whnf); first | (refine exI hx ?_) | (refine exI hy ?_) | (refine exI hqt ?_) | (refine exI hqe ?_) | (with_reducible refine ixJ i rfl ?_ ?_; (focus (omega))) | (first | refine stp ?_ | with_reducible refine condB (fun h => ?_) (fun h => ?_)))
            conv => whnf
            refine ⟨i + 1, ⟨hlt, h4⟩, by show l.length - (i + 1) < l.length - i; omega, ?_⟩
            rw [hat]
            refine FgLK.mk [0, 1, 2, 3, 4, 5, 6, 7] rfl rfl ?_ ⟨⟨rfl, rfl, rfl, rfl, BodyGe.pre (rest := []) rfl rfl⟩, ⟨rfl, rfl, rfl, rfl, BodyGe.pre (rest := []) rfl rfl⟩, ⟨rfl, rfl, rfl, rfl, BodyGe.pre (rest := []) rfl rfl⟩, ⟨rfl, rfl, rfl, rfl, BodyGe.pre (rest := []) rfl rfl⟩, ⟨rfl, rfl, rfl, rfl, rfl, rfl, Wk.ptr rfl rfl, rfl, Wk.ptr rfl rfl, rfl, Wk.ptr rfl rfl, rfl, Wk.ptr rfl rfl, trivial⟩, ⟨rfl, rfl, rfl, rfl, BodyGe.pre (rest := []) rfl rfl⟩, ⟨rfl, rfl, rfl, rfl, BodyGe.pre (rest := []) rfl rfl⟩, ⟨rfl, rfl, rfl, rfl, BodyGe.cellsL ⟨Wk.func trivial ⟨Wk.ptr rfl rfl, Wk.ptr rfl rfl, Wk.ptr rfl rfl, trivial⟩, trivial⟩⟩, trivial⟩ rfl
            (repeat (first | exact trivial | refine stw ?_))
    · have e1 : decide ((i : Int) < (l.length : Int)) = false := by simpa using hlt
      have hi2 : i = l.length := by have := hi; omega
      subst hi2
      rw [List.take_length] at h0 ⊢
      have hsL : stO (nbSL f l n) = none := by unfold stO; simp only [h0]; rfl
      rw [hsL, h0]
      repeat' ((conv => whnf); first | refine stp ?_ | with_reducible refine condB (fun h => ?_) (fun h => ?_))
      all_goals exact ⟨rfl, rfl⟩
end Go.Proofs.YtblnhcafobifgaaGreatDoor.lex
end


section

set_option linter.unusedVariables false
set_option linter.unusedSimpArgs false
namespace Go.Proofs.YtblnhcafobifgaaGreatDoor.lex
open Go.Abs Go.RowKit
set_option maxRecDepth 100000
set_option maxHeartbeats 4000000
theorem numbX_ok (l : List St) : ValOK Tryz.prog runLives.gl 28 [stA l] (.func (.func 51) [] [.rp [stA l]]) := by
  unfold stA
  refine fn_val follows noNum none_sound Tryz.func28 rfl ?_
  repeat' ((conv => whnf); first | refine stp ?_ | with_reducible refine condB (fun h => ?_) (fun h => ?_))
  all_goals rfl
theorem numb1_ok (ds : List Dc) (ts : List (List St)) (t L : Nat) (l : List St) (hd : ds.length ≤ 9223372036854775807) (ht : t ≤ 1000000) (hok : okSL l) (hl : l.length ≤ 9223372036854775807) (hs : sizeSL l ≤ 800000) :
    MemOK Tryz.prog runLives.gl 51 [yA L, .rp [stA l]] (bsC ds ts t L none) (.tuple []) (bsC ds ts t L (stO (nbSL (oneP ds) l 0))) := by
  obtain ⟨O, hO, ⟨p1, -⟩, -⟩ := famsM (P := Tryz.prog) (gl := runLives.gl) [{ I := Unit, f := 52, G := (fun _ => True), A := (fun _ => [stA l, .ptr 5 0, .ptr 6 0, .ptr 7 0]), H := (fun _ => ecH ds ts t L 0 none), R := (fun _ => .bool ((nbSL (oneP ds) l 0).2 == 0)), O := (fun _ => ecH ds ts t L ((nbSL (oneP ds) l 0).1 : Nat) (stO (nbSL (oneP ds) l 0))), body := (by kernel_rfl), inj := (fun _ _ _ _ _ _ => ⟨rfl, rfl⟩), ok := (fun _ _ => each_ok ds ts t L hd ht _ l 0 (Nat.le_refl _) hok hl (by omega)) }] [] rfl
  have q1 := p1 () trivial
  clear p1
  simp only [stA] at *
  refine fn_mem (k := 5) follows noNum hO rfl Tryz.func51 rfl (cw0_ok _ _) ?_
  generalize nbSL (oneP ds) l 0 = r at *
  obtain ⟨r1, r2⟩ := r
  cases hr : r2 == 0 with
  | true =>
    have hst : stO (r1, r2) = none := by unfold stO; simp only [hr, cond_true]
    rw [hst] at q1 ⊢
    repeat' ((conv => whnf); first | (refine exI q1 ?_) | (first | refine stp ?_ | with_reducible refine condB (fun h => ?_) (fun h => ?_)))
    all_goals (conv => whnf)
    all_goals first | exact ⟨rfl, rfl⟩ | exact ⟨rfl, rfl, rfl⟩ | trace_state
  | false =>
    have hst : stO (r1, r2) = some (r1, r2) := by unfold stO; simp only [hr, cond_false]
    rw [hst] at q1 ⊢
    repeat' ((conv => whnf); first | (refine exI q1 ?_) | (first | refine stp ?_ | with_reducible refine condB (fun h => ?_) (fun h => ?_)))
    all_goals (conv => whnf)
    all_goals first | exact ⟨rfl, rfl⟩ | exact ⟨rfl, rfl, rfl⟩ | trace_state
def ckXH (ds : List Dc) (ts : List (List St)) : AHeap := [⟨true, 0, 0, .cells [.rs ds.length 3 (dcC ds), .rs ts.length 1 (ts.map stA)] 29⟩, ⟨true, 1, 0, .cells [.int .i64 0, .int .i64 0] 32⟩, ⟨true, 2, 0, .cells [.int .i64 0] 23⟩]
theorem dcC_take : ∀ (ds : List Dc) (i : Nat), (dcC ds).take (i * 3) = dcC (ds.take i)
  | [], i => by simp [dcC]
  | d :: l, 0 => by simp [dcC]
  | d :: l, i + 1 => by
    rw [show (i + 1) * 3 = i * 3 + 1 + 1 + 1 from by omega]
    simp only [List.take_succ_cons, dcC, Dc.cells, List.cons_append, List.nil_append]
    rw [dcC_take l i]
theorem noD_find (s : List UInt8) : ∀ (l : List Dc) (k : Nat), (decide (0 ≤ fdI s l k)) = !noD s l
  | [], k => rfl
  | d :: l, k => by
    simp only [fdI, noD]
    rcases Bool.eq_false_or_eq_true (d.name == s) with h | h
    · have : decide ((0 : Int) ≤ (k : Int)) = true := by simp only [decide_eq_true_eq]; omega
      simp only [h, cond_true, Bool.not_true, Bool.false_and, Bool.not_false, this]
    · simp only [h, cond_false, Bool.not_false, Bool.true_and]
      exact noD_find s l (k + 1)
theorem n1_inj {ds : List Dc} {ts : List (List St)} {p q : Nat × Nat} (ha : [yA p.2, .rp [stA (ts.getD p.1 [])]] = [yA q.2, .rp [stA (ts.getD q.1 [])]]) (hh : bsC ds ts p.1 p.2 none = bsC ds ts q.1 q.2 none) : p = q := by
  obtain ⟨p1, p2⟩ := p
  obtain ⟨q1, q2⟩ := q
  simp only [yA, List.cons.injEq, AV.func.injEq, Fn.yield.injEq, true_and, and_true] at ha
  simp only [bsC, List.cons.injEq, AObj.mk.injEq, ABody.cells.injEq, AV.int.injEq, and_true, true_and] at hh
  have h1 : p1 = q1 := by omega
  rw [h1, ha.1]
theorem n1_ok {ds : List Dc} {ts : List (List St)} (hd1 : ds.length ≤ 9223372036854775807) (ht1 : okTL ts) (hs : sizeTL ts ≤ 800000) (p : Nat × Nat) (h1 : p.1 < ts.length) (h2 : p.1 ≤ 1000000) :
    MemOK Tryz.prog runLives.gl 51 [yA p.2, .rp [stA (ts.getD p.1 [])]] (bsC ds ts p.1 p.2 none) (.tuple []) (bsC ds ts p.1 p.2 (stO (nbSL (oneP ds) (ts.getD p.1 []) 0))) := by
  have hg : ts.getD p.1 [] = ts[p.1] := by simp [List.getD_eq_getElem?_getD, h1]
  have hm : ts[p.1] ∈ ts := get_mem h1
  rw [hg]
  exact numb1_ok ds ts p.1 p.2 _ hd1 h2 (okTL_get ht1 _ hm).1 (okTL_get ht1 _ hm).2 (by have := sizeTL_mem ts _ hm; omega)
theorem checkWX_ok (p : Pr) (hok : okP p) (hs : sizeTL p.threads ≤ 800000) : ValOK Tryz.prog runLives.gl 11 [p.av] (resW (chkF (checkP p) p.decls p.threads (oneP p.decls))) := by
  obtain ⟨⟨hd1, hd2⟩, ht1, ht2⟩ := id hok
  have hck := checkPX_ok p hok (by omega)
  obtain ⟨ds, ts⟩ := p
  simp only [Pr.av] at *
  generalize checkP ⟨ds, ts⟩ = e0 at *
  obtain ⟨O, hO, ⟨p5, -⟩, ⟨p1, p2, p3, p4, -⟩⟩ := famsM (P := Tryz.prog) (gl := runLives.gl) [{ I := Nat × Nat, f := 51, G := (fun p => p.1 < ts.length ∧ p.1 ≤ 1000000), A := (fun p => [yA p.2, .rp [stA (ts.getD p.1 [])]]), H := (fun p => bsC ds ts p.1 p.2 none), R := (fun _ => .tuple []), O := (fun p => bsC ds ts p.1 p.2 (stO (nbSL (oneP ds) (ts.getD p.1 []) 0))), body := (by kernel_rfl), inj := (fun p q _ _ ha hh => by rw [n1_inj ha hh]; exact ⟨rfl, rfl⟩), ok := (fun p hp => n1_ok hd1 ht1 hs p hp.1 hp.2) }] [
    { I := Unit, f := 26, G := fun _ => True, A := fun _ => [.agg [.rs ds.length 3 (dcC ds), .rs ts.length 1 (ts.map stA)]], R := fun _ => .int .i64 e0, body := (by kernel_rfl), inj := (fun i j _ _ h => rfl), ok := (fun _ _ => ⟨rfl, hck⟩) },
    { I := Nat × List UInt8, f := 27, G := fun _ => True, A := fun p => [.rs (ds.take p.1).length 3 (dcC (ds.take p.1)), .str p.2], R := fun p => .int .i64 (findD (ds.take p.1) p.2), body := (by kernel_rfl), inj := (fun i j _ _ h => by simp only [List.cons.injEq, AV.str.injEq, AV.rs.injEq, and_true, true_and] at h; rw [List.take_eq_take_min, show min i.1 ds.length = min j.1 ds.length by simpa [List.length_take] using h.1.1, ← List.take_eq_take_min, h.2]), ok := (fun p _ => ⟨rfl, findX_ok (ds.take p.1) p.2 (by simp; omega)⟩) },
    { I := List St, f := 28, G := fun _ => True, A := fun l => [stA l], R := fun l => .func (.func 51) [] [.rp [stA l]], body := (by kernel_rfl), inj := (fun i j _ _ h => by simp only [List.cons.injEq, and_true] at h; rw [stA_inj h]), ok := (fun l _ => ⟨rfl, numbX_ok l⟩) },
    { I := List St, f := 30, G := fun l => l ∈ ts, A := fun l => [stA l], R := fun l => rsK (sortB (rgN0 l)), body := (by kernel_rfl), inj := (fun i j _ _ h => by simp only [List.cons.injEq, and_true] at h; rw [stA_inj h]), ok := (fun l hl => ⟨rfl, regsX_ok l (okTL_get ht1 l hl).1 (okTL_get ht1 l hl).2 (by have := sizeTL_mem ts l hl; omega)⟩) }] rfl
  have q1 : ∀ H, acall Tryz.prog O H 26 [.agg [.rs ds.length 3 (dcC ds), .rs ts.length 1 (ts.map stA)]] = some (.int .i64 e0, H) := p1 () trivial
  have q2 : ∀ i s H, i ≤ ds.length → acall Tryz.prog O H 27 [.rs i 3 ((dcC ds).take (i * 3)), .str s] = some (.int .i64 (findD (ds.take i) s), H) := fun i s H h => by
    have := p2 (i, s) trivial H
    simp only at this
    rw [List.length_take, Nat.min_eq_left h] at this
    rw [dcC_take]; exact this
  have q3 : ∀ l H, acall Tryz.prog O H 28 [stA l] = some (.func (.func 51) [] [.rp [stA l]], H) := fun l => p3 l trivial
  have q4 : ∀ l ∈ ts, ∀ H, acall Tryz.prog O H 30 [stA l] = some (.rs (sortB (rgN0 l)).length 1 ((sortB (rgN0 l)).map .str), H) := p4
  have q5 : ∀ (i L : Nat) (h : i < ts.length), i ≤ 1000000 → acall Tryz.prog O (bsC ds ts i L none) 51 [yA L, .rp [stA ts[i]]] = some (.tuple [], bsC ds ts i L (stO (nbSL (oneP ds) ts[i] 0))) := fun i L h h2 => by
    have hg : ts.getD i [] = ts[i] := by simp [List.getD_eq_getElem?_getD, h]
    have := p5 (i, L) ⟨h, h2⟩
    simp only [hg] at this
    exact this
  clear p1 p2 p3 p4 p5 hck
  generalize oneP ds = f at *
  generalize hR0 : chkF e0 ds ts f = R0
  unfold chkF at hR0
  refine fn_valXR (Φ := (· = resW R0)) (rf := rfK Tryz.prog (cw0 Tryz.prog O)) (rfK_ok noNum hO (cw0_ok _ _)) follows noNum hO (fun r' e sn v h => e ▸ h) Tryz.func11 rfl (cw0_ok _ _) ?_
  cases h0 : e0 == 0 with
  | false =>
    rw [h0] at hR0
    simp only [cond_false] at hR0
    subst hR0
    have t0 : (e0 != 0) = true := bne_of h0
    repeat' ((conv => whnf); first | (refine exI (q1 _) ?_) | (first | refine stp ?_ | with_reducible refine condB (fun h => ?_) (fun h => ?_)))
    all_goals rfl
  | true =>
    rw [h0] at hR0
    simp only [cond_true] at hR0
    have t0 : (e0 != 0) = false := bne_of h0
    cases h1 : longP ds.length ts.length with
    | true =>
      rw [h1] at hR0
      simp only [cond_true] at hR0
      subst hR0
      unfold longP at h1
      by_cases a1 : ts.length < 1
      · have e1 : decide ((ts.length : Int) < 1) = true := by simp only [decide_eq_true_eq]; omega
        repeat' ((conv => whnf); first | (refine exI (q1 _) ?_) | (first | refine stp ?_ | with_reducible refine condB (fun h => ?_) (fun h => ?_)))
        all_goals rfl
      · have e1 : decide ((ts.length : Int) < 1) = false := by simp only [decide_eq_false_iff_not]; omega
        by_cases a2 : 4 < ts.length
        · have e2 : decide (4 < (ts.length : Int)) = true := by simp only [decide_eq_true_eq]; omega
          repeat' ((conv => whnf); first | (refine exI (q1 _) ?_) | (first | refine stp ?_ | with_reducible refine condB (fun h => ?_) (fun h => ?_)))
          all_goals rfl
        · have e2 : decide (4 < (ts.length : Int)) = false := by simp only [decide_eq_false_iff_not]; omega
          have e3 : decide (6 < (ds.length : Int)) = true := by
            simp only [Bool.or_eq_true, decide_eq_true_eq] at h1 ⊢
            omega
          repeat' ((conv => whnf); first | (refine exI (q1 _) ?_) | (first | refine stp ?_ | with_reducible refine condB (fun h => ?_) (fun h => ?_)))
          all_goals rfl
    | false =>
      rw [h1] at hR0
      simp only [cond_false] at hR0
      unfold longP at h1
      simp only [Bool.or_eq_false_iff, decide_eq_false_iff_not] at h1
      have e1 : decide ((ts.length : Int) < 1) = false := by simp only [decide_eq_false_iff_not]; omega
      have e2 : decide (4 < (ts.length : Int)) = false := by simp only [decide_eq_false_iff_not]; omega
      have e3 : decide (6 < (ds.length : Int)) = false := by simp only [decide_eq_false_iff_not]; omega
      repeat' ((conv => whnf); first | (refine exI (q1 _) ?_) | (first | refine stp ?_ | with_reducible refine condB (fun h => ?_) (fun h => ?_)))
      conv => whnf
      refine ⟨Nat, (fun i => i ≤ ds.length ∧ firstO (gD ds) i = none), (fun i => [(1, .ptr 0 0), (2, .ptr 1 0), (3, .ptr 2 0), (38, .rs ds.length 3 (dcC ds)), (39, .int .i64 ds.length), (40, .int .i64 i)]), (fun _ => ckXH ds ts), (fun i => ds.length - i), ⟨0, ⟨Nat.zero_le _, rfl⟩, FgL.mk [0, 1, 2] rfl ?_ ⟨⟨rfl, rfl, rfl, rfl, BodyGe.pre (rest := []) rfl rfl⟩, ⟨rfl, rfl, rfl, rfl, BodyGe.pre (rest := []) rfl rfl⟩, ⟨rfl, rfl, rfl, rfl, BodyGe.pre (rest := []) rfl rfl⟩, trivial⟩ rfl⟩, ?_⟩
      · (repeat (first | exact trivial | refine stw ?_))
      rintro i ⟨hi, hno⟩
      dsimp only
      by_cases hlt : i < ds.length
      · have f1 : decide ((i : Int) < (ds.length : Int)) = true := by simpa using hlt
        have hx := dc3 ds i hlt
        have hg := gD_at hlt
        have hq := fun H => q2 i ds[i].name H (by omega)
        have hnf : decide (0 ≤ findD (ds.take i) ds[i].name) = !noD ds[i].name (ds.take i) := noD_find ds[i].name (ds.take i) 0
        generalize ds[i] = d at *
        obtain ⟨s, pl, vl⟩ := d
        simp only [Dc.cells] at hx hq hg hnf
        cases hn : noD s (ds.take i) with
        | false =>
          rw [hn] at hg hnf
          simp only [cond_false, Bool.not_false] at hg hnf
          rw [firstO_at hlt hno hg] at hR0
          subst hR0
          repeat' ((conv => whnf); first | (refine exI hx ?_) | (refine exI (hq _) ?_) | (with_reducible refine ixJ i rfl ?_ ?_; (focus (omega))) | (with_reducible refine ixJ' i rfl ?_ ?_; (focus (omega))) | (first | refine stp ?_ | with_reducible refine condB (fun h => ?_) (fun h => ?_)))
          all_goals rfl
        | true =>
          rw [hn] at hg hnf
          simp only [cond_true, Bool.not_true] at hg hnf
          have hno2 := (firstO_next hno).trans hg
          repeat' ((conv => whnf); first | (refine exI hx ?_) | (refine exI (hq _) ?_) | (with_reducible refine ixJ i rfl ?_ ?_; (focus (omega))) | (with_reducible refine ixJ' i rfl ?_ ?_; (focus (omega))) | (first | refine stp ?_ | with_reducible refine condB (fun h => ?_) (fun h => ?_)))
          conv => whnf
          refine ⟨i + 1, ⟨hlt, hno2⟩, by show ds.length - (i + 1) < ds.length - i; omega, FgL.mk [0, 1, 2] rfl ?_ ⟨⟨rfl, rfl, rfl, rfl, BodyGe.pre (rest := []) rfl rfl⟩, ⟨rfl, rfl, rfl, rfl, BodyGe.pre (rest := []) rfl rfl⟩, ⟨rfl, rfl, rfl, rfl, BodyGe.pre (rest := []) rfl rfl⟩, trivial⟩ rfl⟩
          (repeat (first | exact trivial | refine stw ?_))
      · have f1 : decide ((i : Int) < (ds.length : Int)) = false := by simpa using hlt
        have hi2 : i = ds.length := by have := hi; omega
        subst hi2
        rw [hno] at hR0
        simp only at hR0
        repeat' ((conv => whnf); first | refine stp ?_ | with_reducible refine condB (fun h => ?_) (fun h => ?_))
        conv => whnf
        refine ⟨Nat, (fun i => i ≤ ts.length ∧ firstO (gT f ts) i = none), (fun i => [(1, .ptr 0 0), (2, .ptr 1 0), (3, .ptr 2 0), (57, .rs ts.length 1 (ts.map stA)), (58, .int .i64 ts.length), (59, .int .i64 i)]), (fun _ => ckXH ds ts), (fun i => ts.length - i), ⟨0, ⟨Nat.zero_le _, rfl⟩, FgL.mk [0, 1, 2] rfl ?_ ⟨⟨rfl, rfl, rfl, rfl, BodyGe.pre (rest := []) rfl rfl⟩, ⟨rfl, rfl, rfl, rfl, BodyGe.pre (rest := []) rfl rfl⟩, ⟨rfl, rfl, rfl, rfl, BodyGe.pre (rest := []) rfl rfl⟩, trivial⟩ rfl⟩, ?_⟩
        · (repeat (first | exact trivial | refine stw ?_))
        rintro i ⟨hi, hno⟩
        dsimp only
        by_cases hlt : i < ts.length
        · have f1 : decide ((i : Int) < (ts.length : Int)) = true := by simpa using hlt
          have hx := th1 ts i hlt
          have hg := gT_at (f := f) hlt
          have hqn := q3 ts[i]
          have hq5 := fun L => q5 i L hlt (by omega)
          generalize ts[i] = l at *
          simp only [stA] at hx hqn hq5
          generalize nbSL f l 0 = r at *
          obtain ⟨r1, r2⟩ := r
          simp only at hg
          cases hn : r2 == 0 with
          | false =>
            rw [hn] at hg
            simp only [cond_false] at hg
            rw [firstO_at hlt hno hg] at hR0
            subst hR0
            have hst : stO (r1, r2) = some (r1, r2) := by unfold stO; simp only [hn, cond_false]
            rw [hst] at hq5
            repeat' ((conv => whnf); first | (refine exI hx ?_) | (refine exI (hqn _) ?_) | (refine ⟨by kernel_rfl, 80, tsC, rfl, ⟨rfl, rfl, rfl, rfl, trivial⟩, fun L => ?_⟩) | (refine exI (hq5 _) ?_) | (refine And.intro (show LoopState.ready ≠ LoopState.busy from by intro h; cases h) ?_) | (refine And.intro (show LoopState.done ≠ LoopState.busy from by intro h; cases h) ?_) | (with_reducible refine ixJ i rfl ?_ ?_; (focus (omega))) | (first | refine stp ?_ | with_reducible refine condB (fun h => ?_) (fun h => ?_)))
            all_goals rfl
          | true =>
            rw [hn] at hg
            simp only [cond_true] at hg
            have hno2 := (firstO_next hno).trans hg
            have hst : stO (r1, r2) = none := by unfold stO; simp only [hn, cond_true]
            rw [hst] at hq5
            repeat' ((conv => whnf); first | (refine exI hx ?_) | (refine exI (hqn _) ?_) | (refine ⟨by kernel_rfl, 80, tsC, rfl, ⟨rfl, rfl, rfl, rfl, trivial⟩, fun L => ?_⟩) | (refine exI (hq5 _) ?_) | (refine And.intro (show LoopState.ready ≠ LoopState.busy from by intro h; cases h) ?_) | (refine And.intro (show LoopState.done ≠ LoopState.busy from by intro h; cases h) ?_) | (with_reducible refine ixJ i rfl ?_ ?_; (focus (omega))) | (first | refine stp ?_ | with_reducible refine condB (fun h => ?_) (fun h => ?_)))
            conv => whnf
            refine ⟨i + 1, ⟨hlt, hno2⟩, by show ts.length - (i + 1) < ts.length - i; omega, FgL.mk [0, 1, 2] rfl ?_ ⟨⟨rfl, rfl, rfl, rfl, BodyGe.pre (rest := []) rfl rfl⟩, ⟨rfl, rfl, rfl, rfl, BodyGe.pre (rest := []) rfl rfl⟩, ⟨rfl, rfl, rfl, rfl, BodyGe.pre (rest := []) rfl rfl⟩, trivial⟩ rfl⟩
            (repeat (first | exact trivial | refine stw ?_))
        · have f1 : decide ((i : Int) < (ts.length : Int)) = false := by simpa using hlt
          have hi2 : i = ts.length := by have := hi; omega
          subst hi2
          rw [hno] at hR0
          simp only at hR0
          repeat' ((conv => whnf); first | refine stp ?_ | with_reducible refine condB (fun h => ?_) (fun h => ?_))
          conv => whnf
          refine ⟨Nat, (fun i => i ≤ ts.length ∧ firstO (gR ts) i = none), (fun i => [(1, .ptr 0 0), (2, .ptr 1 0), (3, .ptr 2 0), (81, .rs ts.length 1 (ts.map stA)), (82, .int .i64 ts.length), (83, .int .i64 i)]), (fun _ => ckXH ds ts), (fun i => ts.length - i), ⟨0, ⟨Nat.zero_le _, rfl⟩, FgL.mk [0, 1, 2] rfl ?_ ⟨⟨rfl, rfl, rfl, rfl, BodyGe.pre (rest := []) rfl rfl⟩, ⟨rfl, rfl, rfl, rfl, BodyGe.pre (rest := []) rfl rfl⟩, ⟨rfl, rfl, rfl, rfl, BodyGe.pre (rest := []) rfl rfl⟩, trivial⟩ rfl⟩, ?_⟩
          · (repeat (first | exact trivial | refine stw ?_))
          rintro i ⟨hi, hno⟩
          dsimp only
          by_cases hlt : i < ts.length
          · have f1 : decide ((i : Int) < (ts.length : Int)) = true := by simpa using hlt
            have hx := th1 ts i hlt
            have hg := gR_at hlt
            have hq := q4 ts[i] (get_mem hlt)
            generalize ts[i] = l at *
            simp only [stA] at hx hq
            generalize sortB (rgN0 l) = nm at *
            by_cases hn : 16 < nm.length
            · rw [decide_eq_true hn] at hg
              simp only [cond_true] at hg
              rw [firstO_at hlt hno hg] at hR0
              subst hR0
              have f2 : decide (16 < (nm.length : Int)) = true := by simp only [decide_eq_true_eq]; omega
              repeat' ((conv => whnf); first | (refine exI hx ?_) | (refine exI (hq _) ?_) | (with_reducible refine ixJ i rfl ?_ ?_; (focus (omega))) | (first | refine stp ?_ | with_reducible refine condB (fun h => ?_) (fun h => ?_)))
              all_goals rfl
            · rw [decide_eq_false hn] at hg
              simp only [cond_false] at hg
              have hno2 := (firstO_next hno).trans hg
              have f2 : decide (16 < (nm.length : Int)) = false := by simp only [decide_eq_false_iff_not]; omega
              repeat' ((conv => whnf); first | (refine exI hx ?_) | (refine exI (hq _) ?_) | (with_reducible refine ixJ i rfl ?_ ?_; (focus (omega))) | (first | refine stp ?_ | with_reducible refine condB (fun h => ?_) (fun h => ?_)))
              conv => whnf
              refine ⟨i + 1, ⟨hlt, hno2⟩, by show ts.length - (i + 1) < ts.length - i; omega, FgL.mk [0, 1, 2] rfl ?_ ⟨⟨rfl, rfl, rfl, rfl, BodyGe.pre (rest := []) rfl rfl⟩, ⟨rfl, rfl, rfl, rfl, BodyGe.pre (rest := []) rfl rfl⟩, ⟨rfl, rfl, rfl, rfl, BodyGe.pre (rest := []) rfl rfl⟩, trivial⟩ rfl⟩
              (repeat (first | exact trivial | refine stw ?_))
          · have f1 : decide ((i : Int) < (ts.length : Int)) = false := by simpa using hlt
            have hi2 : i = ts.length := by have := hi; omega
            subst hi2
            rw [hno] at hR0
            simp only at hR0
            subst hR0
            repeat' ((conv => whnf); first | refine stp ?_ | with_reducible refine condB (fun h => ?_) (fun h => ?_))
            all_goals rfl
end Go.Proofs.YtblnhcafobifgaaGreatDoor.lex
end


section

set_option linter.unusedVariables false
set_option linter.unusedSimpArgs false
namespace Go.Proofs.YtblnhcafobifgaaGreatDoor.lex
open Go.Abs Go.RowKit
set_option maxRecDepth 100000
theorem one_same (ds : List Dc) (x : St) (h : ownS x = true) : oneP ds x = oneR ds x := by
  unfold ownS ownSF at h
  simp only [Bool.and_eq_true, decide_eq_true_eq] at h
  obtain ⟨hk, hn, hl, ho, hx, -, -⟩ := h
  unfold oneP oneR onePF oneRF
  obtain ⟨k, n, l, o, ex, t, e⟩ := x
  simp only [St.kind, St.name, St.loc, St.order, St.exprs] at *
  by_cases h7 : k = 7
  · subst h7
    have hL : hasL 7 = false := by decide
    have hN : hasN 7 = false := by decide
    have hO : hasO 7 = true := by decide
    have hX : hasX 7 = 0 := by decide
    simp only [hL, hN, hO, hX, isW, Bool.false_eq_true, if_false, eq_self, if_true, decide_eq_true_eq, List.length_eq_zero_iff] at hl hn ho hx
    simp only [beq_iff_eq] at hl hn
    subst hl; subst hn; subst hx
    have ho := of_decide_eq_true ho
    have h0 : (o == 0) = false := by simp only [beq_eq_false_iff_ne, ne_eq]; omega
    have hh : hidB ds (.mk 7 [] [] o [] t e) = false := rfl
    simp only [beq_self_eq_true, Bool.not_true, Bool.false_and, cond_false, cond_true, h0, Bool.not_false, Bool.true_and, hh]
    cases hm : mayN 7 o false == 0 with
    | true => simp only [Bool.not_true, cond_false]; simpa using (beq_iff_eq.1 hm).symm
    | false => simp only [Bool.not_false, cond_true]
  · have e7 : (k == 7) = false := by simpa using h7
    simp only [e7, cond_false]
    by_cases hL : hasL k = true
    · simp only [hL, isW, eq_self, if_true] at hl
      have hne : (l == []) = false := by
        cases l with
        | nil => simp [wordB] at hl
        | cons _ _ => rfl
      have hO : hasO k = true := by
        simp only [hasL, hasO, decide_eq_true_eq] at hL ⊢; omega
      simp only [hO, eq_self, if_true, decide_eq_true_eq] at ho
      have ho := of_decide_eq_true ho
      have h0 : (o == 0) = false := by simp only [beq_eq_false_iff_ne, ne_eq]; omega
      simp only [hne, h0, Bool.not_false, Bool.true_and, cond_false]
    · have hL : hasL k = false := by simpa using hL
      simp only [hL, isW, Bool.false_eq_true, if_false, beq_iff_eq] at hl
      subst hl
      have hO : hasO k = false := by
        simp only [hasL, hasO, decide_eq_false_iff_not] at hL ⊢; omega
      simp only [hO, Bool.false_eq_true, if_false, beq_iff_eq] at ho
      subst ho
      simp only [beq_self_eq_true, Bool.not_true, Bool.false_and, cond_false]
mutual
theorem nbS_congr {f g : St → Int} (h : ∀ x, ownS x = true → f x = g x) : ∀ (x : St) (m : Nat), rightS x = true → nbS f x m = nbS g x m
  | .mk k n l o ex t e, m, hr => by
    rw [rightS_eq] at hr
    simp only [Bool.and_eq_true, St.exprs, St.thn, St.els] at hr
    obtain ⟨h1, _, h3, h4⟩ := hr
    have hE : nbSL f e = nbSL g e := funext fun m => nbSL_congr h e m h4
    simp only [nbS]
    rw [h _ h1, nbSL_congr h t (m + 1) h3, hE]
theorem nbSL_congr {f g : St → Int} (h : ∀ x, ownS x = true → f x = g x) : ∀ (l : List St) (m : Nat), rightSL l = true → nbSL f l m = nbSL g l m
  | [], m, hr => by simp only [nbSL]
  | x :: l, m, hr => by
    simp only [rightSL, Bool.and_eq_true] at hr
    have hL : nbSL f l = nbSL g l := funext fun m => nbSL_congr h l m hr.2
    simp only [nbSL]
    rw [nbS_congr h x m hr.1, hL]
end
theorem rightTL_all : ∀ {ts : List (List St)} {i : Nat} (h : i < ts.length), rightTL ts = true → rightSL ts[i] = true
  | l :: t, 0, h, hr => by simp only [rightTL, Bool.and_eq_true] at hr; exact hr.1
  | l :: t, i + 1, h, hr => by simp only [rightTL, Bool.and_eq_true] at hr; simpa using rightTL_all (by simpa using h) hr.2
theorem chk_same (p : Pr) : chkF (checkP p) p.decls p.threads (oneP p.decls) = chkF (checkP p) p.decls p.threads (oneR p.decls) := by
  unfold chkF
  cases h : checkP p == 0 with
  | false => rfl
  | true =>
    have hr : rightTL p.threads = true := by
      unfold checkP at h
      split at h
      · cases h
      · split at h
        · rename_i h2; simp only [Bool.and_eq_true] at h2; exact h2.2
        · cases h
    have : ∀ i, i < p.threads.length → gT (oneP p.decls) p.threads i = gT (oneR p.decls) p.threads i := fun i hi => by
      rw [gT_at hi, gT_at hi, nbSL_congr (fun x hx => one_same p.decls x hx) _ 0 (rightTL_all hi hr)]
    rw [firstO_congr this]
def chkW (p : Pr) : W3 := chkF (checkP p) p.decls p.threads (oneR p.decls)
theorem checkX_ok (p : Pr) (hok : okP p) (hs : sizeTL p.threads ≤ 800000) : ValOK Tryz.prog runLives.gl 11 [p.av] (resW (chkW p)) := by
  have := checkWX_ok p hok hs
  rw [chk_same] at this; exact this
end Go.Proofs.YtblnhcafobifgaaGreatDoor.lex
end


section

set_option linter.unusedSimpArgs false
set_option linter.unusedVariables false
namespace Go.Abs
open Go.RowKit
noncomputable def frzT (T : TH) : Nat → AV → Option AV
  | 0, _ => none
  | n + 1, u => match u with
    | .ptr b off => match (T.get b).alive, (T.get b).body with
        | true, .cells cs _ => match frzL (frzT T n) (cs.drop off) with | some l => some (.rp l) | none => none
        | _, _ => none
    | .slice b off len _ z => match len with
      | 0 => some (.rs 0 z [])
      | _ + 1 => match (T.get b).alive, (T.get b).body with
          | true, .cells cs _ => match tk (len * z) (cs.drop off) with
            | some cs => match frzL (frzT T n) cs with | some l => some (.rs len z l) | none => none
            | none => none
          | _, _ => none
    | .agg cs => match frzL (frzT T n) cs with | some l => some (.agg l) | none => none
    | .tuple cs => match frzL (frzT T n) cs with | some l => some (.tuple l) | none => none
    | .iface t v => match frzT T n v with | some x => some (.iface t x) | none => none
    | .func fn f c => match frzL (frzT T n) f, frzL (frzT T n) c with | some f, some c => some (.func fn f c) | _, _ => none
    | .map _ => none
    | u => some u
theorem frzL_imp {f g : AV → Option AV} (h : ∀ u r, f u = some r → g u = some r) : ∀ {l l' : List AV}, frzL f l = some l' → frzL g l = some l'
  | [], l', e => e
  | c :: l, l', e => by
    simp only [frzL] at e ⊢
    split at e <;> simp at e
    rename_i x y hx hy
    subst e
    rw [h _ _ hx, frzL_imp h hy]
theorem frzT_frz {T : TH} {H : AHeap} (hR : Rep T H) : ∀ (n : Nat) (u r : AV), frzT T n u = some r → frz H n u = some r := by
  intro n
  induction n with
  | zero => intro u r h; simp [frzT] at h
  | succ n ih =>
    intro u r h
    unfold frzT at h
    unfold frz
    split at h
    · rename_i b off
      split at h <;> try (simp at h; done)
      rename_i cs ty ha hb
      split at h <;> simp at h
      rename_i l hl
      subst h
      simp only [hR.obj b ha, ha, hb, frzL_imp ih hl]
    · rename_i b off len cap z
      split at h
      · simp at h; subst h; rfl
      · rename_i len
        split at h <;> try (simp at h; done)
        rename_i cs ty ha hb
        split at h <;> try (simp at h; done)
        rename_i cs' hcs
        split at h <;> simp at h
        rename_i l hl
        subst h
        simp only [hR.obj b ha, ha, hb, hcs, frzL_imp ih hl]
    · split at h <;> simp at h
      rename_i l hl; subst h
      simp only [frzL_imp ih hl]
    · split at h <;> simp at h
      rename_i l hl; subst h
      simp only [frzL_imp ih hl]
    · split at h <;> simp at h
      rename_i x hx; subst h
      simp only [ih _ _ hx]
    · split at h <;> simp at h
      rename_i f c hf hc; subst h
      simp only [frzL_imp ih hf, frzL_imp ih hc]
    · simp at h
    · rename_i e1 e2 e3 e4 e5 e6 e7
      simp at h; subst h
      cases u with
      | ptr b o => exact (e1 _ _ rfl).elim
      | slice b o l c z => exact (e2 _ _ _ _ _ rfl).elim
      | agg cs => exact (e3 _ rfl).elim
      | tuple cs => exact (e4 _ rfl).elim
      | iface t v => exact (e5 _ _ rfl).elim
      | func fn f c => exact (e6 _ _ _ rfl).elim
      | map b => exact (e7 _ rfl).elim
      | _ => rfl
noncomputable def forcZ (F : Nat → List AV → Option AV) : FOrc := fun f args T => match frzL (frzT T 30) args with
  | some az => match F f az with | some r => some (r, T) | none => none
  | none => none
theorem forcZ_sim (F : Nat → List AV → Option AV) : OrcSim (forcZ F) (orcZ F) := by
  intro f args T r T' h H hR
  unfold forcZ at h
  split at h <;> try (simp at h; done)
  rename_i az hz
  split at h <;> simp at h
  rename_i r' hr
  obtain ⟨rfl, rfl⟩ := h
  exact ⟨H, by simp only [orcZ, frzL_imp (frzT_frz hR 30) hz, hr], hR⟩
mutual
def wkV : AV → AV → Bool
  | .nslice, .rs 0 _ [] => true
  | .agg a, .agg b => wkVL a b
  | .rs n z a, .rs n' z' b => Nat.beq n n' && (Nat.beq z z' && wkVL a b)
  | .rp a, .rp b => wkVL a b
  | u, u2 => veq u u2
def wkVL : List AV → List AV → Bool
  | [], [] => true
  | u :: l, u2 :: l2 => wkV u u2 && wkVL l l2
  | _, _ => false
end
theorem wkVL_len : ∀ {l l2 : List AV}, wkVL l l2 = true → l.length = l2.length
  | [], [], _ => rfl
  | u :: l, u2 :: l2, h => by simp only [wkVL, Bool.and_eq_true] at h; simp [wkVL_len h.2]
  | [], _ :: _, h => by simp [wkVL] at h
  | _ :: _, [], h => by simp [wkVL] at h
mutual
theorem wkV_VR {sn : Snap} {ι : IMap} : ∀ (u u2 : AV) (v : Value), wkV u u2 = true → VR sn ι u v → VR sn ι u2 v
  | .agg a, .agg b, v, h, e => by
    simp only [wkV] at h
    obtain ⟨d, rfl, h1⟩ := e.agg
    exact vr_agg (wkVL_LR a b _ h h1)
  | .rs n z a, .rs n' z' b, v, h, e => by
    simp only [wkV, Bool.and_eq_true] at h
    obtain ⟨h1, h2, h3⟩ := h
    have := Nat.eq_of_beq_eq_true h1; subst this
    have := Nat.eq_of_beq_eq_true h2; subst this
    have hl := wkVL_len h3
    simp only [VR] at e ⊢
    rcases e with ⟨e1, rfl, e3⟩ | ⟨ad, cap, e1, e2, e3, e4, e5⟩
    · exact .inl ⟨e1, by cases b with | nil => rfl | cons _ _ => simp at hl, e3⟩
    · exact .inr ⟨ad, cap, e1, e2, by rw [← hl]; exact e3, wkVL_MR a b _ _ h3 e4, e5⟩
  | .rp a, .rp b, v, h, e => by
    simp only [wkV] at h
    simp only [VR] at e ⊢
    obtain ⟨bl, o, e1, e2⟩ := e
    exact ⟨bl, o, e1, wkVL_MR a b _ _ h e2⟩
  | u, u2, v, h, e => by
    by_cases hn : u = .nslice ∧ ∃ z, u2 = .rs 0 z []
    · obtain ⟨rfl, z, rfl⟩ := hn
      exact nil_rs e
    · have : veq u u2 = true ∨ ((∃ a b, u = .agg a ∧ u2 = .agg b) ∨ (∃ n z a n' z' b, u = .rs n z a ∧ u2 = .rs n' z' b) ∨ (∃ a b, u = .rp a ∧ u2 = .rp b)) := by
        unfold wkV at h
        split at h
        · exact (hn ⟨rfl, _, rfl⟩).elim
        · exact .inr (.inl ⟨_, _, rfl, rfl⟩)
        · exact .inr (.inr (.inl ⟨_, _, _, _, _, _, rfl, rfl⟩))
        · exact .inr (.inr (.inr ⟨_, _, rfl, rfl⟩))
        · exact .inl h
      rcases this with h | ⟨a, b, rfl, rfl⟩ | ⟨n, z, a, n', z', b, rfl, rfl⟩ | ⟨a, b, rfl, rfl⟩
      · have := veq_eq _ _ h; subst this; exact e
      · simp only [wkV] at h
        obtain ⟨d, rfl, h1⟩ := e.agg
        exact vr_agg (wkVL_LR a b _ h h1)
      · simp only [wkV, Bool.and_eq_true] at h
        obtain ⟨h1, h2, h3⟩ := h
        have := Nat.eq_of_beq_eq_true h1; subst this
        have := Nat.eq_of_beq_eq_true h2; subst this
        have hl := wkVL_len h3
        simp only [VR] at e ⊢
        rcases e with ⟨e1, rfl, e3⟩ | ⟨ad, cap, e1, e2, e3, e4, e5⟩
        · exact .inl ⟨e1, by cases b with | nil => rfl | cons _ _ => simp at hl, e3⟩
        · exact .inr ⟨ad, cap, e1, e2, by rw [← hl]; exact e3, wkVL_MR a b _ _ h3 e4, e5⟩
      · simp only [wkV] at h
        simp only [VR] at e ⊢
        obtain ⟨bl, o, e1, e2⟩ := e
        exact ⟨bl, o, e1, wkVL_MR a b _ _ h e2⟩
theorem wkVL_LR {sn : Snap} {ι : IMap} : ∀ (l l2 : List AV) (vs : List Value), wkVL l l2 = true → LR sn ι l vs → LR sn ι l2 vs
  | [], [], vs, h, e => e
  | u :: l, u2 :: l2, vs, h, e => by
    simp only [wkVL, Bool.and_eq_true] at h
    simp only [LR] at e ⊢
    obtain ⟨d, ds, e1, e2, e3⟩ := e
    exact ⟨d, ds, e1, wkV_VR u u2 d h.1 e2, wkVL_LR l l2 ds h.2 e3⟩
  | [], _ :: _, _, h, _ => by simp [wkVL] at h
  | _ :: _, [], _, h, _ => by simp [wkVL] at h
theorem wkVL_MR {sn : Snap} : ∀ (l l2 : List AV) (b o : Nat), wkVL l l2 = true → MR sn l b o → MR sn l2 b o
  | [], [], b, o, h, e => e
  | u :: l, u2 :: l2, b, o, h, e => by
    simp only [wkVL, Bool.and_eq_true] at h
    simp only [MR] at e ⊢
    obtain ⟨⟨v, e1, e2⟩, e3⟩ := e
    exact ⟨⟨v, e1, wkV_VR u u2 v h.1 e2⟩, wkVL_MR l l2 b (o + 1) h.2 e3⟩
  | [], _ :: _, _, _, h, _ => by simp [wkVL] at h
  | _ :: _, [], _, _, h, _ => by simp [wkVL] at h
end
theorem ValOK.nils {P : Program} {gl : Glob} {f : Nat} {args args2 : List AV} {r : AV} (h : ValOK P gl f args2 r) (hw : wkVL args args2 = true) : ValOK P gl f args r :=
  h.weak fun sn vs e => wkVL_LR args args2 vs hw e
end Go.Abs
end


section

set_option linter.unusedVariables false
set_option maxRecDepth 100000
namespace Go.Proofs.YtblnhcafobifgaaGreatDoor.runLives
open Go.RowKit Go.Abs Go.Proofs.YtblnhcafobifgaaGreatDoor.lex
def ld (n l : List UInt8) (o : Int) : St := .mk 2 n l o [] [] []
def dx : Dc := ⟨[120], false, 0⟩
def dd : Dc := ⟨[100], true, 0⟩
def eR : Ex := .mk 2 0 [114] []
def eN : Ex := .mk 1 1 [] []
def progs : List (Pr × W3) := [
  (⟨[dx], [[ld [114] [120] 3, .mk 10 [] [] 0 [.mk 7 0 [] [eR, eN]] [.mk 3 [] [120] 4 [.mk 14 0 [] [eR, eN]] [] []] []]]⟩, (0, 0, 0)),
  (⟨[dx, dd], [[ld [100] [120] 3]]⟩, (1, 0, 6)),
  (⟨[dx, dd], [[ld [114] [100] 3]]⟩, (1, 0, 8)),
  (⟨[dx, dd], [[ld [114] [120] 4]]⟩, (1, 0, 7)),
  (⟨[dx], [[.mk 1 [114] [] 0 [eN] [] [], .mk 10 [] [] 0 [eR] [.mk 3 [] [121] 4 [eN] [] []] []]]⟩, (1, 2, 6)),
  (⟨[dx], []⟩, (0, 0, 3)),
  (⟨[dx, dx], [[]]⟩, (0, 1, 6))]
def look (args : List AV) : List (Pr × W3) → Option AV
  | [] => none
  | (p, r) :: l => if wkVL args [p.av] then some (resW r) else look args l
theorem look_mem {args : List AV} : ∀ {l : List (Pr × W3)} {x : AV}, look args l = some x → ∃ p r, (p, r) ∈ l ∧ wkVL args [p.av] = true ∧ x = resW r
  | (p, r) :: l, x, h => by
    unfold look at h
    split at h
    · rename_i hw; simp at h; exact ⟨p, r, by simp, hw, h.symm⟩
    · obtain ⟨p', r', h1, h2⟩ := look_mem h; exact ⟨p', r', by simp [h1], h2⟩
  | [], x, h => by simp [look] at h
def tabW : Nat → List AV → Option AV := fun f args => if Nat.beq f 11 then look args progs else none
theorem progs_ok : ∀ x ∈ progs, okP x.1 ∧ sizeTL x.1.threads ≤ 800000 ∧ chkW x.1 = x.2 := by
  have h : ∀ x, x ∈ progs → x ∈ progs := fun x h => h
  intro x hx
  simp only [progs, List.mem_cons, List.not_mem_nil, or_false] at hx
  rcases hx with rfl | rfl | rfl | rfl | rfl | rfl | rfl <;> refine ⟨?_, by decide, by rfl⟩ <;> simp [okP, okD, okTL, okSL, okS, okL, okE, okN, ld, dx, dd, eR, eN]
theorem tabW_sound : OrcSound Tryz.prog gl (orcZ tabW) := orcZ_sound fun f args r h => by
  unfold tabW at h
  split at h
  · rename_i e
    have e := Nat.eq_of_beq_eq_true e
    subst e
    obtain ⟨p, r', hm, hw, rfl⟩ := look_mem h
    obtain ⟨h1, h2, h3⟩ := progs_ok _ hm
    simp only at h1 h2 h3
    subst h3
    exact ⟨rfl, (checkX_ok p h1 h2).nils hw⟩
  · cases h
def isS (l : List (Nat × List AV)) : Nat → List AV → Bool := fun f args => Nat.beq f 56 || (Nat.beq f 11 || memA f args l)
noncomputable def foS (l : List (Nat × List AV)) : FOrc := forcThen (fun f _ => Nat.beq f 56) (fsortO 56 78) (forcThen (fun f _ => Nat.beq f 11) (forcZ tabW) (ftblO l))
def toS (l : List (Nat × List AV)) : Orc := orcIf (fun f _ => Nat.beq f 56) (sortO 56 78) (orcIf (fun f _ => Nat.beq f 11) (orcZ tabW) (tblO l))
theorem simS (l : List (Nat × List AV)) : OrcSim (foS l) (toS l) := forcThen_sim (fsortO_sim _ _) (forcThen_sim (forcZ_sim tabW) (ftblO_sim l))
theorem lives : saysTrue (frunG Tryz.prog gl (isS []) (foS []) 100000 100 7 [] TH.empty) = true := by kernel_rfl
theorem knownLives : OrcSound Tryz.prog gl (tblO [(7, [])]) := known_trueG follows noNum (simS []) (orcIf_sound shelf.sound (orcIf_sound tabW_sound tblO_nil)) tblO_nil rfl lives
end Go.Proofs.YtblnhcafobifgaaGreatDoor.runLives
end


section

set_option linter.unusedVariables false
set_option maxRecDepth 100000
namespace Go.Proofs.YtblnhcafobifgaaGreatDoor.runCheckNames
open Go.RowKit Go.Abs
def gl : Glob := runLives.gl
theorem globs {W : World} (h : laidMetH Tryz.prog Rows.checkNamesRow.laid W) : GlOK gl (snap0 W) := runLives.globs h
theorem names : saysTrue (frunG Tryz.prog gl (runLives.isS [(7, [])]) (runLives.foS [(7, [])]) 100000 100 5 [] TH.empty) = true := by kernel_rfl
theorem known : OrcSound Tryz.prog gl (tblO [(5, []), (7, [])]) := known_trueG runLives.follows runLives.noNum (runLives.simS [(7, [])]) (orcIf_sound shelf.sound (orcIf_sound runLives.tabW_sound runLives.knownLives)) runLives.knownLives rfl names
end Go.Proofs.YtblnhcafobifgaaGreatDoor.runCheckNames
end


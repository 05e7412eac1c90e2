/-
  A verified abstract interpreter, part 43: a call of a function that writes to some of the caller's blocks: what the caller knows behind it.
-/
import Derived.Test.YtajhailaofchlaaDoorAbs42
set_option linter.unusedSimpArgs false
set_option linter.unusedVariables false
namespace Go.Abs
open Go.RowKit

theorem frz_sound2 {sn sn2 : Snap} {ι : IMap} {H : AHeap} {W : World} (hobj : ∀ (b : Nat) (o : AObj) p, H[b]? = some o → o.alive = true → ι b = some p → OR sn ι W o.body p) (hle : Le sn sn2 noI noI)
    (hcell : ∀ (b : Nat) (o : AObj) p, H[b]? = some o → o.alive = true → ι b = some p → ∀ (off : Nat) (v : Value), W.cell? ⟨p.blk, off, none⟩ = some v → sn2 ⟨p.blk, off, none⟩ = some v) :
    ∀ (n : Nat) (u r : AV) (v : Value), frz H n u = some r → VR sn ι u v → VR sn2 noI r v := by
  intro n
  induction n with
  | zero => intro u r v h; simp [frz] at h
  | succ n ih =>
    -- the cells of a living block
    have cells : ∀ {b : Nat} {o : AObj} {p : Place} {cs l : List AV} {ty : TypeId} {off : Nat}, H[b]? = some o → o.alive = true → o.body = .cells cs ty → ι b = some p → frzL (frz H n) (cs.drop off) = some l → MR sn2 l p.blk (p.sh + off) := by
      intro b o p cs l ty off ho ha hb hp hl
      obtain ⟨_, h2⟩ := frzL_get hl
      have hor := hobj b o p ho ha hp
      rw [hb] at hor
      simp only [OR] at hor
      obtain ⟨arr, k1, k2, k3, k4⟩ := hor
      refine mr_of_get fun i x hx => ?_
      obtain ⟨c, hc, hcx⟩ := h2 i x hx
      rw [List.getElem?_drop] at hc
      obtain ⟨v, e1, e2⟩ := k4 (off + i) c hc
      refine ⟨v, ?_, ih c x v hcx e2⟩
      refine hcell b o p ho ha hp _ _ ?_
      rw [cell_of_heap k1]
      rw [← e1]; congr 1; omega
    intro u r v h hv
    unfold frz at h
    split at h
    · rename_i b off
      split at h <;> try (simp at h; done)
      rename_i o ho
      split at h <;> try (simp at h; done)
      rename_i cs ty ha hb
      split at h <;> simp at h
      rename_i l hl
      subst h
      obtain ⟨p, hp, rfl⟩ := hv.ptr
      simp only [VR]
      exact ⟨_, _, rfl, cells ho ha hb hp hl⟩
    · rename_i b off len cap z
      obtain ⟨p, a, cap', hp, rfl, h1, h2, h3⟩ := hv.slice
      split at h
      · simp at h; subst h
        simp only [VR]
        exact ⟨a, cap', rfl, by omega, by simp, by simp [MR], fun h => absurd rfl h⟩
      · rename_i len
        split at h <;> try (simp at h; done)
        rename_i o ho
        split at h <;> try (simp at h; done)
        rename_i cs ty ha hb
        split at h <;> try (simp at h; done)
        rename_i cs' hcs
        split at h <;> simp at h
        rename_i l hl
        subst h
        obtain ⟨ha', _⟩ := h3 (by omega)
        subst ha'
        obtain ⟨e1, rfl⟩ := tk_some hcs
        obtain ⟨f1, f2⟩ := frzL_get hl
        simp only [VR]
        refine ⟨_, cap', rfl, by omega, ?_, ?_, fun _ => rfl⟩
        · rw [f1, List.length_take]; exact Nat.min_eq_left e1
        · have hor := hobj b o p ho ha hp
          rw [hb] at hor
          simp only [OR] at hor
          obtain ⟨arr, k1, k2, k3, k4⟩ := hor
          refine mr_of_get fun i x hx => ?_
          obtain ⟨c, hc, hcx⟩ := f2 i x hx
          rw [List.getElem?_take] at hc
          split at hc <;> try (simp at hc; done)
          rw [List.getElem?_drop] at hc
          obtain ⟨v, g1, g2⟩ := k4 (off + i) c hc
          refine ⟨v, ?_, ih c x v hcx g2⟩
          refine hcell b o p ho ha hp _ _ ?_
          rw [cell_of_heap k1]
          rw [← g1]; congr 1; simp only; omega
    · split at h <;> simp at h
      rename_i l hl; subst h
      obtain ⟨d, rfl, h1⟩ := hv.agg
      exact vr_agg (frzL_sound ih hl h1)
    · split at h <;> simp at h
      rename_i l hl; subst h
      obtain ⟨d, rfl, h1⟩ := hv.tuple
      exact vr_tuple (frzL_sound ih hl h1)
    · split at h <;> simp at h
      rename_i x hx; subst h
      obtain ⟨y, rfl, h1⟩ := hv.iface
      simp only [VR]; exact ⟨y, rfl, ih _ _ _ hx h1⟩
    · split at h <;> simp at h
      rename_i f c hf hc; subst h
      obtain ⟨x, y, rfl, h1, h2⟩ := hv.func
      simp only [VR]; exact ⟨x, y, rfl, frzL_sound ih hf h1, frzL_sound ih hc h2⟩
    · simp at h
    · rename_i e1 e2 e3 e4 e5 e6 e7
      simp at h; subst h
      cases u with
      | ptr b o => exact (e1 _ _ rfl).elim
      | slice b o l c z => exact (e2 _ _ _ _ _ rfl).elim
      | agg cs => exact (e3 _ rfl).elim
      | tuple cs => exact (e4 _ rfl).elim
      | iface t v => exact (e5 _ _ rfl).elim
      | func fn f c => exact (e6 _ _ _ rfl).elim
      | map b => exact (e7 _ rfl).elim
      | _ => exact VR_mono (ι := noI) hle _ _ (VR_refs (ι := ι) _ [] _ (fun b hb => by simp [refs] at hb) hv)

theorem sub_R {m : List Nat} {H H2 : AHeap} (hp : HpGe H m m H2 0) (hfam : nodupN (m.map (famOf H)) = true) {sn : Snap} {ι : IMap} {W : World} (hR : R sn ι H W) : R sn (iot m ι) H2 W := by
  obtain ⟨hl, hg⟩ := hp.get
  have at2 : ∀ {b : Nat} {o2 : AObj} {p : Place}, H2[b]? = some o2 → iot m ι b = some p → ∃ j o, m[b]? = some j ∧ H[j]? = some o ∧ ι j = some p ∧ o.alive = true ∧ o2.alive = true ∧ o2.fam = b ∧ o2.sh = o.sh ∧ BodyGe m o.body o2.body := by
    intro b o2 p hb hp
    obtain ⟨j, o, o2', x1, x2, x3, x4, x5, x6, x7, x8⟩ := hg b (by rw [← hl]; exact (List.getElem?_eq_some_iff.1 hb).1)
    rw [hb] at x3; simp at x3; subst x3
    simp only [iot, x1] at hp
    exact ⟨j, o, x1, x2, hp, x4, x5, by omega, x7, x8⟩
  have hR2 : R sn (iot m ι) H2 W := by
    refine ⟨fun b => ⟨fun hb => ?_, fun ⟨p, hp⟩ => ?_⟩, fun b p hp => ?_, fun b o2 p hb ha hp => ?_, fun b b' o o' p p' hb hb' hp hp' e => ?_, fun ad v hv => ?_, fun b o2 p hb hp e => ?_⟩
    · obtain ⟨j, o, o2, x1, x2, _⟩ := hg b (by omega)
      obtain ⟨p, hp⟩ := hR.place x2
      exact ⟨p, by simp only [iot, x1]; exact hp⟩
    · unfold iot at hp
      split at hp
      · rename_i j hj; rw [hl]; exact (List.getElem?_eq_some_iff.1 hj).1
      · cases hp
    · unfold iot at hp
      split at hp
      · exact hR.blk _ p hp
      · cases hp
    · obtain ⟨j, o, x1, x2, x3, x4, x5, x6, x7, x8⟩ := at2 hb hp
      exact x8.or (hR.obj j o p x2 x4 x3)
    · obtain ⟨j, q, x1, x2, x3, x4, x5, x6, x7, x8⟩ := at2 hb hp
      obtain ⟨j', q', y1, y2, y3, y4, y5, y6, y7, y8⟩ := at2 hb' hp'
      have hs := hR.sep j j' q q' p p' x2 y2 x3 y3 e
      have : b = b' := nodupN_inj (l := m.map (famOf H)) (x := q.fam) hfam (by simp [x1, famOf, x2]) (by simp [y1, famOf, y2, hs.1])
      subst this
      exact ⟨by rw [x6, y6], by rw [x7, y7]; exact hs.2⟩
    · obtain ⟨h1, h2, h3⟩ := hR.snap ad v hv
      refine ⟨h1, h2, fun b o2 p hb ha hp => ?_⟩
      obtain ⟨j, o, x1, x2, x3, x4, _⟩ := at2 hb hp
      exact h3 j o p x2 x4 x3
    · obtain ⟨j, o, x1, x2, x3, x4, x5, x6, x7, x8⟩ := at2 hb hp
      exact hR.shz j o p x2 x3 (by omega)
  exact hR2

def kilM (m : List Nat) (H : AHeap) : AHeap := kil (fun i _ => mem i m) 0 H
theorem kilM_get {m : List Nat} {H : AHeap} {b : Nat} {o : AObj} (h : (kilM m H)[b]? = some o) (ha : o.alive = true) : H[b]? = some o ∧ b ∉ m := by
  unfold kilM at h
  rw [kil_get] at h
  cases hx : H[b]? with
  | none => rw [hx] at h; cases h
  | some x =>
    rw [hx] at h
    simp only [Option.map_some, Option.some.injEq, Nat.zero_add] at h
    split at h
    · subst h; simp [AObj.dead] at ha
    · rename_i hm
      subst h
      exact ⟨rfl, fun hb => hm (mem_iff.2 hb)⟩
theorem updM_get (m : List Nat) (Hs : AHeap) : ∀ (H : AHeap) (i b : Nat), (updM m Hs i H)[b]? = (H[b]?).map fun o => match posN m (i + b) 0 with
    | some j => match Hs[j]? with
      | some o' => { o with alive := o'.alive, body := renB (fun b => m.getD b 0) o'.body }
      | none => o
    | none => o
  | [], i, b => by simp [updM]
  | o :: H, i, 0 => by
    simp only [updM, List.getElem?_cons_zero, Option.map_some, Nat.add_zero]
    rfl
  | o :: H, i, b + 1 => by
    simp only [updM, List.getElem?_cons_succ]
    rw [updM_get m Hs H (i + 1) b, show i + 1 + b = i + (b + 1) by omega]

theorem frzM_sound {sn sn2 : Snap} {ι : IMap} {H : AHeap} {W : World} {m : List Nat} (hobj : ∀ (b : Nat) (o : AObj) p, H[b]? = some o → o.alive = true → ι b = some p → OR sn ι W o.body p) (hle : Le sn sn2 noI noI)
    (hcell : ∀ (b : Nat) (o : AObj) p, H[b]? = some o → o.alive = true → ι b = some p → ∀ (off : Nat) (v : Value), W.cell? ⟨p.blk, off, none⟩ = some v → sn2 ⟨p.blk, off, none⟩ = some v) :
    ∀ (n : Nat) (u r : AV) (v : Value), frzM m H n u = some r → VR sn ι u v → VR sn2 (iot m ι) r v := by
  have lift : ∀ {r : AV} {v : Value}, VR sn2 noI r v → VR sn2 (iot m ι) r v := fun h => VR_mono ⟨fun _ _ h => h, fun b p h => by simp [noI] at h⟩ _ _ h
  have at_ : ∀ {b i : Nat}, posN m b 0 = some i → ∀ p, ι b = some p → iot m ι i = some p := fun h p hp => by
    have := (posN_some h).2
    simp only [Nat.sub_zero] at this
    simp only [iot, this]; exact hp
  intro n
  induction n with
  | zero => intro u r v h; simp [frzM] at h
  | succ n ih =>
    intro u r v h hv
    unfold frzM at h
    split at h
    · split at h
      · rename_i b off i hi
        simp at h; subst h
        obtain ⟨p, hp, rfl⟩ := hv.ptr
        simp only [VR]; exact ⟨p, at_ hi p hp, rfl⟩
      · exact lift (frz_sound2 hobj hle hcell 30 _ _ _ h hv)
    · split at h
      · rename_i b off len cap z i hi
        simp at h; subst h
        obtain ⟨p, a, cap', hp, h1⟩ := hv.slice
        simp only [VR]; exact ⟨p, a, cap', at_ hi p hp, h1⟩
      · exact lift (frz_sound2 hobj hle hcell 30 _ _ _ h hv)
    · split at h
      · rename_i b i hi
        simp at h; subst h
        simp only [VR] at hv ⊢
        obtain ⟨p, hp, h1⟩ := hv
        exact ⟨p, at_ hi p hp, h1⟩
      · cases h
    · split at h <;> simp at h
      rename_i f c hf hc; subst h
      obtain ⟨x, y, rfl, h1, h2⟩ := hv.func
      have each : ∀ {l l' : List AV} {vs : List Value}, frzL (frzM m H n) l = some l' → LR sn ι l vs → LR sn2 (iot m ι) l' vs := by
        intro l
        induction l with
        | nil => intro l' vs h e; simp [frzL] at h; subst h; simpa [LR] using e
        | cons c l ih2 =>
          intro l' vs h e
          simp only [frzL] at h
          split at h <;> simp at h
          rename_i x y hx hy
          subst h
          simp only [LR] at e ⊢
          obtain ⟨d, ds, rfl, h1, h2⟩ := e
          exact ⟨d, ds, rfl, ih _ _ _ hx h1, ih2 hy h2⟩
      simp only [VR]; exact ⟨x, y, rfl, each hf h1, each hc h2⟩
    · exact lift (frz_sound2 hobj hle hcell 30 _ _ _ h hv)
theorem frzML_sound {sn sn2 : Snap} {ι : IMap} {H : AHeap} {W : World} {m : List Nat} (hobj : ∀ (b : Nat) (o : AObj) p, H[b]? = some o → o.alive = true → ι b = some p → OR sn ι W o.body p) (hle : Le sn sn2 noI noI)
    (hcell : ∀ (b : Nat) (o : AObj) p, H[b]? = some o → o.alive = true → ι b = some p → ∀ (off : Nat) (v : Value), W.cell? ⟨p.blk, off, none⟩ = some v → sn2 ⟨p.blk, off, none⟩ = some v) (n : Nat) :
    ∀ (us rs : List AV) (vs : List Value), frzL (frzM m H n) us = some rs → LR sn ι us vs → LR sn2 (iot m ι) rs vs
  | [], rs, vs, h, e => by simp [frzL] at h; subst h; simpa [LR] using e
  | u :: us, rs, vs, h, e => by
    simp only [frzL] at h
    split at h <;> simp at h
    rename_i x y hx hy
    subst h
    simp only [LR] at e ⊢
    obtain ⟨d, ds, rfl, h1, h2⟩ := e
    exact ⟨d, ds, rfl, frzM_sound hobj hle hcell n _ _ _ hx h1, frzML_sound hobj hle hcell n us y ds hy h2⟩
theorem noROH_get : ∀ {H : AHeap} {i : Nat} {o : AObj}, noROH H = true → H[i]? = some o → noROB o.body = true
  | [], i, o, h, e => by simp at e
  | x :: H, 0, o, h, e => by simp [noROH] at h e; subst e; exact h.1
  | x :: H, i + 1, o, h, e => by simp [noROH] at h e; exact noROH_get h.2 e

/-- A call that writes to the blocks m. -/
theorem mem_frame {P : Program} {gl : Glob} {f : Nat} {Hs Hs' Hc : AHeap} {fargs cargs : List AV} {r : AV} {m : List Nat} {n : Nat} (hM : MemOK P gl f fargs Hs r Hs') (hargs : frzL (frzM m (kilM m Hc) n) cargs = some fargs) (hsub : HpGe Hc m m Hs 0)
    (hnd : nodupN (m.map (famOf Hc)) = true) (hlone : loneM m (m.map (famOf Hc)) 0 Hc = true) (hev : evoB m.length Hs Hs' = true) (hro : noROH Hs' = true) (hrr : noRO r = true) (hrk : allLt m.length (refs r []) = true) :
    MemOK P gl f cargs Hc (ren (fun b => m.getD b 0) r) (updM m Hs' 0 Hc) := by
  intro sn ι W vargs hg hR hl
  obtain ⟨hl1, hg1⟩ := hsub.get
  obtain ⟨hl2, hg2⟩ := evoB_get hev
  -- a block of m, its number in the callee's memory
  have inm : ∀ b, b ∈ m → ∃ (i : Nat) (o o2 : AObj) (p : Place), m[i]? = some b ∧ Hc[b]? = some o ∧ Hs[i]? = some o2 ∧ o.alive = true ∧ o2.alive = true ∧ ι b = some p := by
    intro b hb
    obtain ⟨i, hi, rfl⟩ := List.mem_iff_getElem.1 hb
    obtain ⟨j, o, o2, x1, x2, x3, x4, x5, _⟩ := hg1 i hi
    rw [List.getElem?_eq_getElem hi] at x1
    cases x1
    obtain ⟨p, hp⟩ := hR.place x2
    exact ⟨i, o, o2, p, List.getElem?_eq_getElem hi, x2, x3, x4, x5, hp⟩
  -- blocks outside m lie elsewhere
  have apart_ : ∀ (b : Nat) (o : AObj) (p : Place), Hc[b]? = some o → b ∉ m → ι b = some p → ∀ b' p', b' ∈ m → ι b' = some p' → p'.blk ≠ p.blk := by
    intro b o p ho hb hp b' p' hb' hp' e
    obtain ⟨i, o', o2, q, y1, y2, y3, y4, y5, y6⟩ := inm b' hb'
    have hs := hR.sep b b' o o' p p' ho y2 hp hp' e.symm
    rcases loneM_get hlone ho with h | h
    · exact hb (by simpa using h)
    · refine h ?_
      rw [List.mem_map]
      exact ⟨b', hb', by simp only [famOf, y2]; exact hs.1.symm⟩
  let q : Nat → Prop := fun c => ∃ b p, b ∈ m ∧ ι b = some p ∧ p.blk = c
  let sn2 : Snap := fun a => open Classical in if q a.block ∨ ¬ a.block < W.heap.size then none else W.cell? a
  have hsn2 : ∀ a v, sn2 a = some v → ¬ q a.block ∧ a.block < W.heap.size ∧ W.cell? a = some v := fun a v h => by
    have h : (open Classical in if q a.block ∨ ¬ a.block < W.heap.size then none else W.cell? a) = some v := h
    split at h
    · cases h
    · rename_i hx
      simp only [not_or, Classical.not_not] at hx
      exact ⟨hx.1, hx.2, h⟩
  have hsn2' : ∀ a v, ¬ q a.block → a.block < W.heap.size → W.cell? a = some v → sn2 a = some v := fun a v h1 h2 h3 => by
    show (open Classical in if q a.block ∨ ¬ a.block < W.heap.size then none else W.cell? a) = some v
    rw [if_neg (by simp only [not_or, Classical.not_not]; exact ⟨h1, h2⟩)]; exact h3
  have hle : ∀ a v, sn a = some v → sn2 a = some v := fun a v hv => by
    obtain ⟨h1, h2, h3⟩ := hR.snap a v hv
    refine hsn2' a v ?_ h1 h2
    rintro ⟨b, p, hb, hp, e⟩
    obtain ⟨i, o, o2, p', y1, y2, y3, y4, y5, y6⟩ := inm b hb
    exact h3 b o p y2 y4 hp e
  have hR0 := sub_R hsub hnd hR
  have atm : ∀ {i : Nat} {p : Place}, iot m ι i = some p → ∃ b, m[i]? = some b ∧ b ∈ m ∧ ι b = some p := fun {i p} hp => by
    unfold iot at hp
    split at hp
    · rename_i b hb; exact ⟨b, hb, List.mem_of_getElem? hb, hp⟩
    · cases hp
  have hRs : R sn2 (iot m ι) Hs W := by
    refine ⟨hR0.dom, hR0.blk, fun b o p hb ha hp => OR_mono ⟨hle, fun _ _ h => h⟩ rfl (hR0.obj b o p hb ha hp), hR0.sep, fun a v hv => ?_, hR0.shz⟩
    obtain ⟨h1, h2, h3⟩ := hsn2 a v hv
    refine ⟨h2, h3, fun b o p hb ha hp e => ?_⟩
    obtain ⟨c, _, hc, hp'⟩ := atm hp
    exact h1 ⟨c, p, hc, hp', e⟩
  have hla : LR sn2 (iot m ι) fargs vargs := by
    refine frzML_sound (H := kilM m Hc) (W := W) (fun b o p hb ha hp => ?_) (gl_le hle) (fun b o p hb ha hp off v hv => ?_) n _ _ _ hargs hl
    · exact hR.obj b o p (kilM_get hb ha).1 ha hp
    · obtain ⟨h1, h2⟩ := kilM_get hb ha
      refine hsn2' _ v ?_ (hR.blk b p hp) hv
      rintro ⟨b', p', hb', hp', e⟩
      exact apart_ b o p h1 h2 hp b' p' hb' hp' e
  refine (hM sn2 (iot m ι) W vargs (hg.mono (gl_le hle)) hRs hla).mono ?_
  rintro e W' ⟨v, sn', ι', rfl, hv, hst⟩
  -- names turned back
  have hback : ∀ i, i < m.length → ∀ p, ι' i = some p → ι (m.getD i 0) = some p := fun i hi p hp => by
    obtain ⟨b, hb⟩ : ∃ b, m[i]? = some b := ⟨m[i], List.getElem?_eq_getElem hi⟩
    obtain ⟨p0, hp0⟩ := (hRs.dom i).1 (by omega)
    have h1 := hst.le.ι i p0 hp0
    rw [hp] at h1; cases h1
    obtain ⟨c, hc, _, hp1⟩ := atm hp0
    rw [hb] at hc; cases hc
    rw [List.getD_eq_getElem?_getD, hb]; exact hp1
  have hfwd : ∀ (i b : Nat) (p : Place), m[i]? = some b → ι b = some p → ι' i = some p := fun i b p hb hp => hst.le.ι i p (by simp only [iot, hb]; exact hp)
  have pos_ : ∀ b, b ∈ m → ∃ i, posN m b 0 = some i ∧ m[i]? = some b := fun b hb => by
    cases hx : posN m b 0 with
    | none => exact (posN_none hx hb).elim
    | some i => exact ⟨i, rfl, by simpa using (posN_some hx).2⟩
  have old : ∀ (b : Nat) (o : AObj) (p : Place), Hc[b]? = some o → b ∉ m → ι b = some p → W'.heap[p.blk]? = W.heap[p.blk]? := fun b o p ho hb hp => by
    refine hst.frame _ (hR.blk b p hp) fun i o2 p2 hi ha hp2 e => ?_
    obtain ⟨c, _, hc, hp3⟩ := atm hp2
    exact apart_ b o p ho hb hp c p2 hc hp3 e
  have hup : ∀ (b : Nat) (o' : AObj), (updM m Hs' 0 Hc)[b]? = some o' → ∃ o, Hc[b]? = some o ∧ o'.fam = o.fam ∧ o'.sh = o.sh ∧ ((b ∉ m ∧ o' = o) ∨ ∃ (i : Nat) (x : AObj), m[i]? = some b ∧ Hs'[i]? = some x ∧ o'.alive = x.alive ∧ o'.body = renB (fun b => m.getD b 0) x.body ∧ o.alive = true) := by
    intro b o' h
    rw [updM_get] at h
    simp only [Nat.zero_add] at h
    cases hx : Hc[b]? with
    | none => rw [hx] at h; cases h
    | some o =>
      rw [hx] at h
      simp only [Option.map_some, Option.some.injEq] at h
      refine ⟨o, rfl, ?_⟩
      by_cases hb : b ∈ m
      · obtain ⟨i, h1, h2⟩ := pos_ b hb
        have hi : i < m.length := (List.getElem?_eq_some_iff.1 h2).1
        have hi' : i < Hs'.length := by omega
        rw [h1] at h
        simp only [List.getElem?_eq_getElem hi'] at h
        subst h
        obtain ⟨_, y, _, _, _, y2, _, y4, _⟩ := inm b hb
        rw [hx] at y2; cases y2
        exact ⟨rfl, rfl, .inr ⟨i, Hs'[i], h2, List.getElem?_eq_getElem hi', rfl, rfl, y4⟩⟩
      · have hn : posN m b 0 = none := by
          cases hx : posN m b 0 with
          | none => rfl
          | some i => exact (hb (List.mem_of_getElem? (posN_some hx).2)).elim
        rw [hn] at h
        subst h
        exact ⟨rfl, rfl, .inl ⟨hb, rfl⟩⟩
  have hlen : (updM m Hs' 0 Hc).length = Hc.length := by
    have : ∀ (H : AHeap) (i : Nat), (updM m Hs' i H).length = H.length := by
      intro H
      induction H with
      | nil => intro i; rfl
      | cons o H ih => intro i; simp [updM, ih]
    exact this _ _
  have hnr : ∀ c, c < W.heap.size → (∀ (b : Nat) (o : AObj) p, Hc[b]? = some o → o.alive = true → ι b = some p → p.blk ≠ c) → W'.heap[c]? = W.heap[c]? := fun c hc hno => by
    refine hst.frame c hc fun i o2 p2 hi ha hp2 e => ?_
    obtain ⟨b, _, hb, hp3⟩ := atm hp2
    obtain ⟨_, o, _, _, _, y2, _, y4, _⟩ := inm b hb
    exact hno b o p2 y2 y4 hp3 e
  have hR' : R sn ι (updM m Hs' 0 Hc) W' := by
    refine ⟨fun b => by rw [hlen]; exact hR.dom b, fun b p hp => Nat.lt_of_lt_of_le (hR.blk b p hp) hst.size, fun b o' p hb ha hp => ?_, fun b b' o o' p p' hb hb' hp hp' e => ?_, fun a v hv => ?_, fun b o' p hb hp e => ?_⟩
    · obtain ⟨o, ho, _, _, h | ⟨i, x, h1, h2, h3, h4, h5⟩⟩ := hup b o' hb
      · obtain ⟨h1, rfl⟩ := h
        exact OR_mono (Le.refl _ _) (old b _ p ho h1 hp) (hR.obj b _ p ho ha hp)
      · rw [h4]
        have hi : i < m.length := (List.getElem?_eq_some_iff.1 h1).1
        have h6 := hst.rel.obj i x p h2 (by rw [← h3]; exact ha) (hfwd i b p h1 hp)
        have h7 := (hg2 i _ x (List.getElem?_eq_getElem (by omega)) h2).2.2.2
        exact OR_ren x.body (OR_refs x.body p (fun y hy => hback y (allLt_mem h7 y hy)) (OR_snap x.body (noROH_get hro h2) h6))
    · obtain ⟨x, hx, e1, e2, _⟩ := hup b o hb
      obtain ⟨y, hy, e3, e4, _⟩ := hup b' o' hb'
      have := hR.sep b b' x y p p' hx hy hp hp' e
      rw [e1, e2, e3, e4]; exact this
    · obtain ⟨h1, h2, h3⟩ := hR.snap a v hv
      refine ⟨Nat.lt_of_lt_of_le h1 hst.size, ?_, fun b o' p hb ha hp => ?_⟩
      · rw [← h2]; exact World.cell?_of_block (hnr _ h1 h3)
      · obtain ⟨o, ho, _, _, h | ⟨i, x, _, _, _, _, h5⟩⟩ := hup b o' hb
        · obtain ⟨_, rfl⟩ := h; exact h3 b _ p ho ha hp
        · exact h3 b o p ho h5 hp
    · obtain ⟨o, ho, _, e2, _⟩ := hup b o' hb
      exact hR.shz b o p ho hp (by rw [← e2]; exact e)
  refine ⟨v, sn, ι, rfl, ?_, hR', Le.refl _ _, fun _ _ h => .inl h, hnr, hst.size, hst.os, hst.tape, hst.output, fun _ _ h => .inl h, fun b o hb => ?_⟩
  · exact (VR_ren r v).2 (VR_refs r [] v (fun y hy => hback y (allLt_mem hrk y hy)) (VR_snap r v hrr hv))
  · have hb' : b < (updM m Hs' 0 Hc).length := by rw [hlen]; exact (List.getElem?_eq_some_iff.1 hb).1
    have hx := List.getElem?_eq_getElem hb'
    obtain ⟨x, hx1, e1, e2, h | ⟨i, y, h1, h2, h3, h4, h5⟩⟩ := hup b _ hx
    · rw [hb] at hx1; cases hx1
      exact ⟨_, hx, e1, e2, fun ha => by rw [h.2] at ha; exact ha⟩
    · rw [hb] at hx1; cases hx1
      exact ⟨_, hx, e1, e2, fun _ => h5⟩
end Go.Abs

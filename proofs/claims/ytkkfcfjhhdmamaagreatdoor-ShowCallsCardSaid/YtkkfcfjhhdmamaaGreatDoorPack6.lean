/-
  Texts of this proof, one behind the other (part 6).
-/
import Derived.Test.YtkkfcfjhhdmamaaGreatDoorPack5
import Derived.Lib.ItoaMem
import Derived.Test.YtkkfcfjhhdmamaaGreatDoorRows
import Derived.KernelRfl


section

set_option linter.unusedSimpArgs false
set_option linter.unusedVariables false
namespace Go.Abs
open Go.RowKit
def MemQ (P : Program) (gl : Glob) (k f : Nat) (args : List AV) (H : AHeap) (r : AV) (H' : AHeap) : Prop :=
  ∀ (sn : Snap) (ι : IMap) (W : World) (cargs : List Value), GlOK gl sn → R sn ι H W → LR sn ι args cargs →
    Calls P f cargs.toArray W fun e W' => ∃ v sn' ι', e = .returned v ∧ VR sn' ι' r v ∧ Stq k sn ι H W sn' ι' H' W'
def finQ (P : Program) (l : List ResultVar) (k : Nat) (r : AV) (N : AHeap) (tm : Tr) (H : AHeap) : Prop :=
  onO (aress P tm H l) fun vs => ∃ m, pref k 0 m = true ∧ HpGe H m m N 0 ∧ nodupN (m.map (famOf H)) = true ∧ Wk m (resOf vs) r
theorem fn_memq {P : Program} {gl : Glob} {orc : Orc} (hm : P.follows .mixedOrders = true) (hn : NoNum P) (hO : OrcSound P gl orc) {f k : Nat} {fn : Func} {c : Code} {args : List AV} {H0 N : AHeap} {r : AV}
    (hf : P.funcs[f]? = some fn) (hc : fn.body = some c) {cw : CW} (hcw : CWok P orc cw)
    (h : frcTr (tmk (tini args fn.ntmps args.length) (tdep 20 fn.ntmps)) fun tm => wexec P gl orc cw (wloopK k) c (finQ P fn.results.toList k r N) (fun _ _ _ => False) (finQ P fn.results.toList k r N) tm H0) : MemQ P gl k f args H0 r N := by
  intro sn ι W cargs hg hR ha
  rw [frcTr_eq] at h
  refine calls_of_wp hf hc (wexec_ok hm hn hO hcw c h _ W sn ι _ hg hR (tini_sound ha _ _ _) fun x tm1 H a1 W1 sn1 ι1 hx s1 t1 d1 => ?_)
  have key : finQ P fn.results.toList k r N tm1 H → ∃ v, (results fn a1.tmps).run P W1 = .ok v W1 ∧ ∃ sn' ι', VR sn' ι' r v ∧ Stq k sn ι H0 W sn' ι' N W1 := by
    intro h
    obtain ⟨us, h1, m, h0, h2, h3, h4⟩ := onO_some h
    obtain ⟨vs, k1, k2⟩ := aress_sound s1.rel t1 _ _ h1
    obtain ⟨hS, _⟩ := Fg.sound (k := k) (m := m) (tm := tm1) (tm2 := mask (fun _ => none) tm1) ⟨⟨fun n u2 e => (by have := mask_get _ _ _ _ e; cases this), fun n e => (by rw [mask_tex] at e; exact e)⟩, h2, h3, h0⟩ s1.rel t1
    exact ⟨_, results_list k2, sn1, iot m ι1, h4 _ _ _ (resOf_res (fn := fn) k1), s1.trans hS⟩
  cases x with
  | normal =>
    obtain ⟨v, k1, sn', ι', k2, k3⟩ := key hx
    exact bodyPost_end k1 d1 ⟨v, sn', ι', rfl, k2, k3⟩
  | exit id => exact hx.elim
  | ret =>
    obtain ⟨v, k1, sn', ι', k2, k3⟩ := key hx
    exact bodyPost_ret k1 d1 ⟨v, sn', ι', rfl, k2, k3⟩
theorem fn_memqC {P : Program} {gl : Glob} {orc : Orc} (hm : P.follows .mixedOrders = true) (hn : NoNum P) (hO : OrcSound P gl orc) {f k : Nat} {fn : Func} {c : Code} {args : List AV} {H0 N : AHeap} {r : AV}
    (hf : P.funcs[f]? = some fn) (hc : fn.body = some c)
    (h : frcTr (tmk (tini args fn.ntmps args.length) (tdep 20 fn.ntmps)) fun tm => wexec P gl orc (cw0 P orc) (wloopK k) c (finQ P fn.results.toList k r N) (fun _ _ _ => False) (finQ P fn.results.toList k r N) tm H0) : MemQ P gl k f args H0 r N :=
  fn_memq hm hn hO hf hc (cw0_ok P orc) h
theorem fn_memqI {P : Program} {gl : Glob} {orc : Orc} (isC : Nat → Bool) (n : Nat) (hm : P.follows .mixedOrders = true) (hn : NoNum P) (hO : OrcSound P gl orc) {f k : Nat} {fn : Func} {c : Code} {args : List AV} {H0 N : AHeap} {r : AV}
    (hf : P.funcs[f]? = some fn) (hc : fn.body = some c)
    (h : frcTr (tmk (tini args fn.ntmps args.length) (tdep 20 fn.ntmps)) fun tm => wexec P gl (orcN P gl orc isC n) (wcall P gl orc isC n) (wloopK k) c (finQ P fn.results.toList k r N) (fun _ _ _ => False) (finQ P fn.results.toList k r N) tm H0) : MemQ P gl k f args H0 r N :=
  fn_memq hm hn (orcN_sound hm hn hO n) hf hc (wcall_ok n) h
def updQ (m : List Nat) (σ : Nat → Nat) (k : Nat) (Hs : AHeap) : Nat → AHeap → AHeap
  | _, [] => []
  | i, o :: H => (match posN m i 0 with
    | some j => if Nat.blt j k then (match Hs[j]? with
      | some o' => { o with alive := o'.alive, body := renB σ o'.body }
      | none => o) else o.dead
    | none => o) :: updQ m σ k Hs (i + 1) H
theorem updQ_get (m : List Nat) (σ : Nat → Nat) (k : Nat) (Hs : AHeap) : ∀ (H : AHeap) (i b : Nat), (updQ m σ k Hs i H)[b]? = (H[b]?).map fun o => match posN m (i + b) 0 with
    | some j => if Nat.blt j k then (match Hs[j]? with
      | some o' => { o with alive := o'.alive, body := renB σ o'.body }
      | none => o) else o.dead
    | none => o
  | [], i, b => by simp [updQ]
  | o :: H, i, 0 => by
    simp only [updQ, List.getElem?_cons_zero, Option.map_some, Nat.add_zero] <;> rfl
  | o :: H, i, b + 1 => by
    simp only [updQ, List.getElem?_cons_succ]
    rw [updQ_get m σ k Hs H (i + 1) b, show i + 1 + b = i + (b + 1) by omega]
theorem updQ_len (m : List Nat) (σ : Nat → Nat) (k : Nat) (Hs : AHeap) : ∀ (H : AHeap) (i : Nat), (updQ m σ k Hs i H).length = H.length
  | [], i => rfl
  | o :: H, i => by simp only [updQ, List.length_cons, updQ_len m σ k Hs H (i + 1)]
def loneA (m fs : List Nat) : Nat → AHeap → Bool
  | _, [] => true
  | i, o :: H => (mem i m || (!o.alive || !mem o.fam fs)) && loneA m fs (i + 1) H
theorem loneA_get {m fs : List Nat} : ∀ {H : AHeap} {i j : Nat} {o : AObj}, loneA m fs i H = true → H[j]? = some o → o.alive = true → i + j ∈ m ∨ o.fam ∉ fs
  | [], i, j, o, h, e, _ => by simp at e
  | x :: H, i, 0, o, h, e, ha => by
    simp only [loneA, Bool.and_eq_true, Bool.or_eq_true, Bool.not_eq_true'] at h
    simp at e; subst e
    rcases h.1 with h1 | h1 | h1
    · exact .inl (mem_iff.1 h1)
    · rw [ha] at h1; cases h1
    · exact .inr fun e => by rw [mem_iff.2 e] at h1; cases h1
  | x :: H, i, j + 1, o, h, e, ha => by
    simp only [loneA, Bool.and_eq_true] at h
    have := loneA_get h.2 (by simpa using e) ha
    rcases this with h1 | h1
    · exact .inl (by rw [show i + (j + 1) = i + 1 + j by omega]; exact h1)
    · exact .inr h1
def sig (m : List Nat) (k d : Nat) (b : Nat) : Nat := if b < k then m.getD b 0 else d
theorem memq_frame {P : Program} {gl : Glob} {f k : Nat} {Hs Hs' Hc : AHeap} {fargs cargs : List AV} {r : AV} {m : List Nat} {n F : Nat} {bL : ABody} (hM : MemQ P gl k f fargs Hs r Hs') (hargs : frzL (frzM m (kilM m Hc) n) cargs = some fargs) (hsub : HpGe Hc m m Hs 0)
    (hnd : nodupN (m.map (famOf Hc)) = true) (hlone : loneA m (m.map (famOf Hc)) 0 Hc = true) (hlen' : Hs'.length = k + 1) (hL : Hs'[k]? = some ⟨true, k, 0, bL⟩)
    (hg2 : ∀ (i : Nat) (o : AObj), Hs'[i]? = some o → o.fam = i ∧ allLt (k + 1) (refsB o.body []) = true) (hs0 : ∀ (i : Nat) (o : AObj), Hs[i]? = some o → o.sh = 0)
    (hro : noROH Hs' = true) (hrr : noRO r = true) (hrk : allLt (k + 1) (refs r []) = true) (hF : (m.length = k ∧ ∀ o ∈ Hc, o.fam < F) ∨ (m.length = k + 1 ∧ F = famOf Hc (m.getD k 0))) :
    MemOK P gl f cargs Hc (ren (sig m k Hc.length) r) (updQ m (sig m k Hc.length) k Hs' 0 Hc ++ [⟨true, F, 0, renB (sig m k Hc.length) bL⟩]) := by
  intro sn ι W vargs hg hR hl
  obtain ⟨hl1, hg1⟩ := hsub.get
  have hmk : k ≤ m.length ∧ m.length ≤ k + 1 := by rcases hF with ⟨h, _⟩ | ⟨h, _⟩ <;> omega
  have inm : ∀ b, b ∈ m → ∃ (i : Nat) (o o2 : AObj) (p : Place), m[i]? = some b ∧ Hc[b]? = some o ∧ Hs[i]? = some o2 ∧ o.alive = true ∧ o2.alive = true ∧ ι b = some p := by
    intro b hb
    obtain ⟨i, hi, rfl⟩ := List.mem_iff_getElem.1 hb
    obtain ⟨j, o, o2, x1, x2, x3, x4, x5, _⟩ := hg1 i hi
    rw [List.getElem?_eq_getElem hi] at x1
    cases x1
    obtain ⟨p, hp⟩ := hR.place x2
    exact ⟨i, o, o2, p, List.getElem?_eq_getElem hi, x2, x3, x4, x5, hp⟩
  have apart_ : ∀ (b : Nat) (o : AObj) (p : Place), Hc[b]? = some o → o.alive = true → b ∉ m → ι b = some p → ∀ b' p', b' ∈ m → ι b' = some p' → p'.blk ≠ p.blk := by
    intro b o p ho hoa hb hp b' p' hb' hp' e
    obtain ⟨i, o', o2, q, y1, y2, y3, y4, y5, y6⟩ := inm b' hb'
    have hs := hR.sep b b' o o' p p' ho y2 hp hp' e.symm
    rcases loneA_get hlone ho hoa with h | h
    · exact hb (by simpa using h)
    · refine h ?_
      rw [List.mem_map]
      exact ⟨b', hb', by simp only [famOf, y2]; exact hs.1.symm⟩
  let q : Nat → Prop := fun c => ∃ b p, b ∈ m ∧ ι b = some p ∧ p.blk = c
  let sn2 : Snap := fun a => open Classical in if q a.block ∨ ¬ a.block < W.heap.size then none else W.cell? a
  have hsn2 : ∀ a v, sn2 a = some v → ¬ q a.block ∧ a.block < W.heap.size ∧ W.cell? a = some v := fun a v h => by
    have h : (open Classical in if q a.block ∨ ¬ a.block < W.heap.size then none else W.cell? a) = some v := h
    split at h
    · cases h
    · rename_i hx
      simp only [not_or, Classical.not_not] at hx
      exact ⟨hx.1, hx.2, h⟩
  have hsn2' : ∀ a v, ¬ q a.block → a.block < W.heap.size → W.cell? a = some v → sn2 a = some v := fun a v h1 h2 h3 => by
    show (open Classical in if q a.block ∨ ¬ a.block < W.heap.size then none else W.cell? a) = some v
    rw [if_neg (by simp only [not_or, Classical.not_not]; exact ⟨h1, h2⟩)]; exact h3
  have hle : ∀ a v, sn a = some v → sn2 a = some v := fun a v hv => by
    obtain ⟨h1, h2, h3⟩ := hR.snap a v hv
    refine hsn2' a v ?_ h1 h2
    rintro ⟨b, p, hb, hp, e⟩
    obtain ⟨i, o, o2, p', y1, y2, y3, y4, y5, y6⟩ := inm b hb
    exact h3 b o p y2 y4 hp e
  have hR0 := sub_R hsub hnd hR
  have atm : ∀ {i : Nat} {p : Place}, iot m ι i = some p → ∃ b, m[i]? = some b ∧ b ∈ m ∧ ι b = some p := fun {i p} hp => by
    unfold iot at hp
    split at hp
    · rename_i b hb; exact ⟨b, hb, List.mem_of_getElem? hb, hp⟩
    · cases hp
  have hRs : R sn2 (iot m ι) Hs W := by
    refine ⟨hR0.dom, hR0.blk, fun b o p hb ha hp => OR_mono ⟨hle, fun _ _ h => h⟩ rfl (hR0.obj b o p hb ha hp), hR0.sep, fun a v hv => ?_, hR0.shz⟩
    obtain ⟨h1, h2, h3⟩ := hsn2 a v hv
    refine ⟨h2, h3, fun b o p hb ha hp e => ?_⟩
    obtain ⟨c, _, hc, hp'⟩ := atm hp
    exact h1 ⟨c, p, hc, hp', e⟩
  have hla : LR sn2 (iot m ι) fargs vargs := by
    refine frzML_sound (H := kilM m Hc) (W := W) (fun b o p hb ha hp => ?_) (gl_le hle) (fun b o p hb ha hp off v hv => ?_) n _ _ _ hargs hl
    · exact hR.obj b o p (kilM_get hb ha).1 ha hp
    · obtain ⟨h1, h2⟩ := kilM_get hb ha
      refine hsn2' _ v ?_ (hR.blk b p hp) hv
      rintro ⟨b', p', hb', hp', e⟩
      exact apart_ b o p h1 ha h2 hp b' p' hb' hp' e
  refine (hM sn2 (iot m ι) W vargs (hg.mono (gl_le hle)) hRs hla).mono ?_
  rintro e W' ⟨v, sn', ι', rfl, hv, hst⟩
  generalize hd : Hc.length = d at *
  obtain ⟨pL, hpL⟩ := (hst.rel.dom k).1 (by omega)
  have hshL : pL.sh = 0 := hst.rel.shz k _ pL hL hpL rfl
  have hblkL := hst.rel.blk k pL hpL
  let κ : IMap := fun b => if b < d then ι b else if b = d then some pL else none
  have k1 : ∀ b, b < d → κ b = ι b := fun b hb => if_pos hb
  have k2 : κ d = some pL := by show (if d < d then ι d else if d = d then some pL else none) = some pL; rw [if_neg (by omega), if_pos rfl]
  have kinv : ∀ b p, κ b = some p → (b < d ∧ ι b = some p) ∨ (b = d ∧ p = pL) := fun b p hp => by
    by_cases hb : b < d
    · rw [k1 b hb] at hp; exact .inl ⟨hb, hp⟩
    · have hp : (if b < d then ι b else if b = d then some pL else none) = some p := hp
      rw [if_neg hb] at hp
      split at hp
      · cases hp; exact .inr ⟨by assumption, rfl⟩
      · cases hp
  have whereL : W.heap.size ≤ pL.blk ∨ ∃ (c : Nat) (oc : AObj) (pc : Place), m.length = k + 1 ∧ m[k]? = some c ∧ Hc[c]? = some oc ∧ oc.alive = true ∧ oc.sh = 0 ∧ ι c = some pc ∧ pc.blk = pL.blk := by
    rcases hst.fresh k _ pL hL rfl hpL with h | ⟨b0, o0, p0, e1, e2, e3, e4⟩
    · exact .inl h
    · obtain ⟨c, hc, hcm, hpc⟩ := atm e3
      have hb0 : b0 < m.length := (List.getElem?_eq_some_iff.1 hc).1
      obtain ⟨j, o, o2, x1, x2, x3, x4, x5, x6, x7, x8⟩ := hg1 b0 hb0
      rw [hc] at x1; cases x1
      by_cases hlt : b0 < k
      · exfalso
        have hkeep := hst.keep b0 p0 hlt e3
        obtain ⟨ob, hob⟩ : ∃ ob, Hs'[b0]? = some ob := ⟨_, List.getElem?_eq_getElem (by omega)⟩
        have hs := hst.rel.sep b0 k ob _ p0 pL hob hL hkeep hpL e4
        have h1 := (hg2 b0 ob hob).1
        rw [h1] at hs
        simp at hs
        omega
      · have hbk : b0 = k := by omega
        subst hbk
        rw [e1] at x3; cases x3
        exact .inr ⟨c, o, p0, by omega, hc, x2, x4, by rw [← x7]; exact hs0 _ _ e1, hpc, e4⟩
  have mLt : ∀ {i b : Nat}, m[i]? = some b → b < d := fun {i b} h => by
    obtain ⟨_, o, _, p, _, y2, _⟩ := inm b (List.mem_of_getElem? h)
    rw [← hd]; exact (List.getElem?_eq_some_iff.1 y2).1
  have hback : ∀ i, i < k + 1 → ∀ p, ι' i = some p → κ (sig m k d i) = some p := fun i hi p hp => by
    by_cases hik : i < k
    · obtain ⟨b, hb⟩ : ∃ b, m[i]? = some b := ⟨m[i], List.getElem?_eq_getElem (by omega)⟩
      obtain ⟨p0, hp0⟩ := (hRs.dom i).1 (by omega)
      have h1 := hst.keep i p0 hik hp0
      rw [hp] at h1; cases h1
      obtain ⟨c, hc, _, hp1⟩ := atm hp0
      rw [hb] at hc; cases hc
      have : sig m k d i = b := by unfold sig; rw [if_pos hik, List.getD_eq_getElem?_getD, hb]; rfl
      rw [this, k1 b (mLt hb)]; exact hp1
    · have : i = k := by omega
      subst this
      rw [hpL] at hp; cases hp
      have : sig m i d i = d := by unfold sig; rw [if_neg (by omega)]
      rw [this]; exact k2
  have pos_ : ∀ b, b ∈ m → ∃ i, posN m b 0 = some i ∧ m[i]? = some b := fun b hb => by
    cases hx : posN m b 0 with
    | none => exact (posN_none hx hb).elim
    | some i => exact ⟨i, rfl, by simpa using (posN_some hx).2⟩
  have old : ∀ (b : Nat) (o : AObj) (p : Place), Hc[b]? = some o → o.alive = true → b ∉ m → ι b = some p → W'.heap[p.blk]? = W.heap[p.blk]? := fun b o p ho hoa hb hp => by
    refine hst.frame _ (hR.blk b p hp) fun i o2 p2 hi ha hp2 e => ?_
    obtain ⟨c, _, hc, hp3⟩ := atm hp2
    exact apart_ b o p ho hoa hb hp c p2 hc hp3 e
  have hup : ∀ (b : Nat) (o' : AObj), (updQ m (sig m k d) k Hs' 0 Hc)[b]? = some o' → ∃ o, Hc[b]? = some o ∧ o'.fam = o.fam ∧ o'.sh = o.sh ∧ ((b ∉ m ∧ o' = o) ∨ (∃ (i : Nat) (x : AObj), i < k ∧ m[i]? = some b ∧ Hs'[i]? = some x ∧ o'.alive = x.alive ∧ o'.body = renB (sig m k d) x.body ∧ o.alive = true) ∨ o'.alive = false) := by
    intro b o' h
    rw [updQ_get] at h
    simp only [Nat.zero_add] at h
    cases hx : Hc[b]? with
    | none => rw [hx] at h; cases h
    | some o =>
      rw [hx] at h
      simp only [Option.map_some, Option.some.injEq] at h
      refine ⟨o, rfl, ?_⟩
      by_cases hb : b ∈ m
      · obtain ⟨i, h1, h2⟩ := pos_ b hb
        have hi : i < m.length := (List.getElem?_eq_some_iff.1 h2).1
        rw [h1] at h
        by_cases hik : i < k
        · have hi' : i < Hs'.length := by omega
          simp only [Nat.blt_eq, hik, List.getElem?_eq_getElem hi', if_true] at h
          subst h
          obtain ⟨_, y, _, _, _, y2, _, y4, _⟩ := inm b hb
          rw [hx] at y2; cases y2
          exact ⟨rfl, rfl, .inr (.inl ⟨i, Hs'[i], hik, h2, List.getElem?_eq_getElem hi', rfl, rfl, y4⟩)⟩
        · simp only [Nat.blt_eq, hik, if_false] at h
          subst h
          exact ⟨rfl, rfl, .inr (.inr rfl)⟩
      · have hn : posN m b 0 = none := by
          cases hx : posN m b 0 with
          | none => rfl
          | some i => exact (hb (List.mem_of_getElem? (posN_some hx).2)).elim
        rw [hn] at h
        subst h
        exact ⟨rfl, rfl, .inl ⟨hb, rfl⟩⟩
  have hlen : (updQ m (sig m k d) k Hs' 0 Hc).length = d := by rw [updQ_len, hd]
  have hget : ∀ (b : Nat) (o' : AObj) (p : Place), (updQ m (sig m k d) k Hs' 0 Hc ++ [⟨true, F, 0, renB (sig m k d) bL⟩])[b]? = some o' → κ b = some p →
      (b < d ∧ ι b = some p ∧ (updQ m (sig m k d) k Hs' 0 Hc)[b]? = some o') ∨ (b = d ∧ p = pL ∧ o' = ⟨true, F, 0, renB (sig m k d) bL⟩) := by
    intro b o' p hb hp
    rcases kinv b p hp with ⟨h1, h2⟩ | ⟨rfl, rfl⟩
    · rw [List.getElem?_append_left (by omega)] at hb
      exact .inl ⟨h1, h2, hb⟩
    · rw [List.getElem?_append_right (by omega), hlen, Nat.sub_self] at hb
      simp at hb
      exact .inr ⟨rfl, rfl, hb.symm⟩
  have hnr : ∀ c, c < W.heap.size → (∀ (b : Nat) (o : AObj) p, Hc[b]? = some o → o.alive = true → ι b = some p → p.blk ≠ c) → W'.heap[c]? = W.heap[c]? := fun c hc hno => by
    refine hst.frame c hc fun i o2 p2 hi ha hp2 e => ?_
    obtain ⟨b, _, hb, hp3⟩ := atm hp2
    obtain ⟨_, o, _, _, _, y2, _, y4, _⟩ := inm b hb
    exact hno b o p2 y2 y4 hp3 e
  have sepL : ∀ (b : Nat) (o : AObj) (p : Place), Hc[b]? = some o → ι b = some p → p.blk = pL.blk → o.fam = F ∧ p.sh = o.sh := by
    intro b o p ho hp e
    rcases whereL with h | ⟨c, oc, pc, g1, g2, g3, g4, g5, g6, g7⟩
    · have := hR.blk b p hp; omega
    · have hs := hR.sep c b oc o pc p g3 ho g6 hp (g7.trans e.symm)
      have hpc := hR.shz c oc pc g3 g6 g5
      rcases hF with ⟨h, _⟩ | ⟨_, h⟩
      · omega
      · have : m.getD k 0 = c := by rw [List.getD_eq_getElem?_getD, g2]; rfl
        rw [this] at h
        simp only [famOf, g3] at h
        exact ⟨by rw [h]; exact hs.1.symm, by omega⟩
  have hR' : R sn κ (updQ m (sig m k d) k Hs' 0 Hc ++ [⟨true, F, 0, renB (sig m k d) bL⟩]) W' := by
    refine ⟨fun b => ⟨fun hb => ?_, fun ⟨p, hp⟩ => ?_⟩, fun b p hp => ?_, fun b o' p hb ha hp => ?_, fun b b' o o' p p' hb hb' hp hp' e => ?_, fun a v hv => ?_, fun b o' p hb hp e => ?_⟩
    · simp only [List.length_append, hlen, List.length_cons, List.length_nil] at hb
      by_cases hlt : b < d
      · rw [k1 b hlt]; exact (hR.dom b).1 (by omega)
      · have : b = d := by omega
        subst this; exact ⟨pL, k2⟩
    · simp only [List.length_append, hlen, List.length_cons, List.length_nil]
      rcases kinv b p hp with ⟨h1, _⟩ | ⟨h1, _⟩ <;> omega
    · rcases kinv b p hp with ⟨_, h1⟩ | ⟨_, rfl⟩
      · exact Nat.lt_of_lt_of_le (hR.blk b p h1) hst.size
      · exact hblkL
    · rcases hget b o' p hb hp with ⟨b1, b2, b3⟩ | ⟨b1, rfl, rfl⟩
      · obtain ⟨o, ho, _, _, h | ⟨i, x, h0, h1, h2, h3, h4, h5⟩ | h⟩ := hup b o' b3
        · obtain ⟨h1, rfl⟩ := h
          refine OR_mono ⟨fun _ _ h => h, fun c p hc => ?_⟩ (old b _ p ho ha h1 b2) (hR.obj b _ p ho ha b2)
          rw [k1 c (by have := (hR.dom c).2 ⟨p, hc⟩; omega)]; exact hc
        · rw [h4]
          have hi' := hst.rel.obj i x p h2 (by rw [← h3]; exact ha) (hst.keep i p h0 (by simp only [iot, h1]; exact b2))
          have h7 := (hg2 i x h2).2
          exact OR_ren x.body (OR_refs x.body p (fun y hy => hback y (allLt_mem h7 y hy)) (OR_snap x.body (noROH_get hro h2) hi'))
        · rw [h] at ha; cases ha
      · have hi' := hst.rel.obj k _ p hL rfl hpL
        have h7 := (hg2 k _ hL).2
        exact OR_ren bL (OR_refs bL p (fun y hy => hback y (allLt_mem h7 y hy)) (OR_snap bL (noROH_get hro hL) hi'))
    · rcases hget b o p hb hp with ⟨b1, b2, b3⟩ | ⟨b1, rfl, rfl⟩ <;> rcases hget b' o' p' hb' hp' with ⟨c1, c2, c3⟩ | ⟨c1, rfl, rfl⟩
      · obtain ⟨x, hx, e1, e2, _⟩ := hup b o b3
        obtain ⟨y, hy, e3, e4, _⟩ := hup b' o' c3
        have := hR.sep b b' x y p p' hx hy b2 c2 e
        rw [e1, e2, e3, e4]; exact this
      · obtain ⟨x, hx, e1, e2, _⟩ := hup b o b3
        obtain ⟨s1, s2⟩ := sepL b x p hx b2 e
        exact ⟨by rw [e1]; exact s1, by rw [e2, hshL, s2]; simp⟩
      · obtain ⟨x, hx, e1, e2, _⟩ := hup b' o' c3
        obtain ⟨s1, s2⟩ := sepL b' x p' hx c2 e.symm
        exact ⟨by rw [e1]; exact s1.symm, by rw [e2, hshL, s2]; simp⟩
      · exact ⟨rfl, rfl⟩
    · obtain ⟨h1, h2, h3⟩ := hR.snap a v hv
      refine ⟨Nat.lt_of_lt_of_le h1 hst.size, ?_, fun b o' p hb ha hp => ?_⟩
      · rw [← h2]; exact World.cell?_of_block (hnr _ h1 h3)
      · rcases hget b o' p hb hp with ⟨b1, b2, b3⟩ | ⟨b1, rfl, rfl⟩
        · obtain ⟨o, ho, _, _, h | ⟨i, x, _, _, _, _, _, h5⟩ | h⟩ := hup b o' b3
          · obtain ⟨_, rfl⟩ := h; exact h3 b _ p ho ha b2
          · exact h3 b o p ho h5 b2
          · rw [h] at ha; cases ha
        · rcases whereL with h | ⟨c, oc, pc, g1, g2, g3, g4, g5, g6, g7⟩
          · omega
          · have := h3 c oc pc g3 g4 g6; omega
    · rcases hget b o' p hb hp with ⟨b1, b2, b3⟩ | ⟨b1, rfl, rfl⟩
      · obtain ⟨o, ho, _, e2, _⟩ := hup b o' b3
        exact hR.shz b o p ho b2 (by rw [← e2]; exact e)
      · exact hshL
  refine ⟨v, sn, κ, rfl, ?_, hR', ⟨fun _ _ h => h, fun b p hb => ?_⟩, fun b p hp => ?_, hnr, hst.size, hst.os, hst.tape, hst.output, fun _ _ h => .inl h, fun b o hb => ?_⟩
  · exact (VR_ren r v).2 (VR_refs r [] v (fun y hy => hback y (allLt_mem hrk y hy)) (VR_snap r v hrr hv))
  · rw [k1 b (by have := (hR.dom b).2 ⟨p, hb⟩; omega)]; exact hb
  · rcases kinv b p hp with ⟨_, h1⟩ | ⟨_, rfl⟩
    · exact .inl h1
    · rcases whereL with h | ⟨c, oc, pc, g1, g2, g3, g4, g5, g6, g7⟩
      · exact .inr (.inl h)
      · exact .inr (.inr ⟨c, oc, pc, g3, g4, g6, g7⟩)
  · have hb' : b < (updQ m (sig m k d) k Hs' 0 Hc).length := by rw [hlen, ← hd]; exact (List.getElem?_eq_some_iff.1 hb).1
    have hx := List.getElem?_eq_getElem hb'
    obtain ⟨x, hx1, e1, e2, h | ⟨i, y, h0, h1, h2, h3, h4, h5⟩ | h⟩ := hup b _ hx
    · rw [hb] at hx1; cases hx1
      exact ⟨_, by rw [List.getElem?_append_left hb']; exact hx, e1, e2, fun ha => by rw [h.2] at ha; exact ha⟩
    · rw [hb] at hx1; cases hx1
      exact ⟨_, by rw [List.getElem?_append_left hb']; exact hx, e1, e2, fun _ => h5⟩
    · rw [hb] at hx1; cases hx1
      exact ⟨_, by rw [List.getElem?_append_left hb']; exact hx, e1, e2, fun ha => by rw [h] at ha; cases ha⟩
end Go.Abs
end


section

set_option linter.unusedSimpArgs false
set_option linter.unusedVariables false
namespace Go.Abs
open Go.RowKit
def byt (s : List UInt8) : List AV := s.map fun b => .int .u8 b.toNat
theorem byt_one (t : List UInt8) : (byt t).all one = true := by simp [byt, List.all_eq_true, one]
theorem byt_refs : ∀ (t : List UInt8) (acc : List Nat), refsL (byt t) acc = acc
  | [], _ => rfl
  | c :: t, acc => by show refsL (.int .u8 c.toNat :: byt t) acc = acc; simp only [refsL, refs]; exact byt_refs t acc
theorem byt_app (a b : List UInt8) : byt (a ++ b) = byt a ++ byt b := by simp [byt]
theorem byt_len (a : List UInt8) : (byt a).length = a.length := by simp [byt]
theorem byt_ren (f : Nat → Nat) : ∀ t : List UInt8, renL f (byt t) = byt t
  | [] => rfl
  | c :: t => by show ren f (.int .u8 c.toNat) :: renL f (byt t) = _; rw [byt_ren f t]; rfl
theorem byt_noRO : ∀ t : List UInt8, noROL (byt t) = true
  | [] => rfl
  | c :: t => by show (noRO (.int .u8 c.toNat) && noROL (byt t)) = true; rw [byt_noRO t]; rfl
theorem byt_inj : ∀ {a b : List UInt8}, byt a = byt b → a = b
  | [], [], _ => rfl
  | [], _ :: _, h => by simp [byt] at h
  | _ :: _, [], h => by simp [byt] at h
  | x :: a, y :: b, h => by
    have h' : AV.int .u8 x.toNat :: byt a = AV.int .u8 y.toNat :: byt b := h
    simp only [List.cons.injEq, AV.int.injEq, true_and] at h'
    have h2 : x.toNat = y.toNat := by have := h'.1; omega
    rw [UInt8.toNat_inj.1 h2, byt_inj h'.2]
theorem cstrP_ok {P : Program} {ρ : Operand → Option AV} {o : Oper} {x : Operand} {H : AHeap} {b f sh off len cap : Nat} {cs : List AV} {ty s d : TypeId} (bs : List UInt8) (ho : o.op = .convert s d x) (hx : ρ x = some (.slice b off len cap 1)) (hT : aConvS P s d = true)
    (hH : H[b]? = some ⟨true, f, sh, .cells cs ty⟩) (hc : tk len (cs.drop off) = some (byt bs)) : apure' P ρ H o = some (.str bs) := by
  have h1 : bytesOfL (byt bs) = some bs := bytesOfL_ok bs
  simp [apure', ho, hx, aConvR, hT, hH, hc, h1]
theorem cstr_ok {P : Program} {orc : Orc} {ρ : Operand → Option AV} {o : Oper} {x : Operand} {H : AHeap} {b f sh off len cap : Nat} {cs : List AV} {ty s d : TypeId} (bs : List UInt8) (ho : o.op = .convert s d x) (hx : ρ x = some (.slice b off len cap 1)) (hT : aConvS P s d = true)
    (hH : H[b]? = some ⟨true, f, sh, .cells cs ty⟩) (hc : tk len (cs.drop off) = some (byt bs)) : aop P orc ρ o H = some (.str bs, H) := by
  have h := cstrP_ok bs ho hx hT hH hc
  simp [aop, ho, h]
def WH (tW tB : TypeId) : List UInt8 → Int → AHeap
  | [], d => [⟨true, 0, 0, .cells [.nptr, .nslice, .int .i64 d] tW⟩]
  | x :: s, d => [⟨true, 0, 0, .cells [.ptr 0 0, .slice 1 0 (x :: s).length (x :: s).length 1, .int .i64 d] tW⟩, ⟨true, 1, 0, .cells (byt (x :: s)) tB⟩]
def famLt (d : Nat) : AHeap → Bool
  | [] => true
  | o :: H => Nat.blt o.fam d && famLt d H
theorem famLt_mem {d : Nat} : ∀ {H : AHeap}, famLt d H = true → ∀ o ∈ H, o.fam < d
  | [], _, o, h => by cases h
  | x :: H, h, o, ho => by
    simp only [famLt, Bool.and_eq_true] at h
    rcases List.mem_cons.1 ho with rfl | ho
    · exact blt_lt h.1
    · exact famLt_mem h.2 o ho
def out0 (tW tB : TypeId) (Hc : AHeap) (b fb : Nat) (s' : List UInt8) (d : Int) : AHeap := Hc.set b ⟨true, fb, 0, .cells [.ptr b 0, .slice Hc.length 0 s'.length s'.length 1, .int .i64 d] tW⟩ ++ [⟨true, Hc.length, 0, .cells (byt s') tB⟩]
def out1 (tW tB : TypeId) (Hc : AHeap) (b c fb fc : Nat) (s' : List UInt8) (d : Int) : AHeap :=
  (Hc.set b ⟨true, fb, 0, .cells [.ptr b 0, .slice Hc.length 0 s'.length s'.length 1, .int .i64 d] tW⟩).set c ⟨false, fc, 0, .cells [] 0⟩ ++ [⟨true, fc, 0, .cells (byt s') tB⟩]
def out0n (tW tB : TypeId) (Hc : AHeap) (b fb n : Nat) (s' : List UInt8) (d : Int) : AHeap := Hc.set b ⟨true, fb, 0, .cells [.ptr b 0, .slice n 0 s'.length s'.length 1, .int .i64 d] tW⟩ ++ [⟨true, n, 0, .cells (byt s') tB⟩]
def out1n (tW tB : TypeId) (Hc : AHeap) (b c fb fc n : Nat) (s' : List UInt8) (d : Int) : AHeap :=
  (Hc.set b ⟨true, fb, 0, .cells [.ptr b 0, .slice n 0 s'.length s'.length 1, .int .i64 d] tW⟩).set c ⟨false, fc, 0, .cells [] 0⟩ ++ [⟨true, fc, 0, .cells (byt s') tB⟩]
theorem exO0 {tW tB : TypeId} {H : AHeap} {b fb : Nat} {s' : List UInt8} {d : Int} {o : Option (AV × AHeap)} {K : AV × AHeap → Prop} (h : o = some (.tuple [], out0 tW tB H b fb s' d)) (k : frcNP H.length fun n => K (.tuple [], out0n tW tB H b fb n s' d)) : ∃ r, o = some r ∧ K r := by
  rw [frcNP_eq] at k; exact ⟨_, h, k⟩
theorem exO1 {tW tB : TypeId} {H : AHeap} {b c fb fc : Nat} {s' : List UInt8} {d : Int} {o : Option (AV × AHeap)} {K : AV × AHeap → Prop} (h : o = some (.tuple [], out1 tW tB H b c fb fc s' d)) (k : frcNP H.length fun n => K (.tuple [], out1n tW tB H b c fb fc n s' d)) : ∃ r, o = some r ∧ K r := by
  rw [frcNP_eq] at k; exact ⟨_, h, k⟩
section
variable {P : Program} {gl : Glob} {tW tB : TypeId}
theorem wh_get {s : List UInt8} {d : Int} {i : Nat} {o : AObj} (h : (WH tW tB s d)[i]? = some o) : o.sh = 0 ∧ o.fam = i ∧ noROB o.body = true ∧ allLt 2 (refsB o.body []) = true := by
  cases s with
  | nil =>
    simp only [WH] at h
    match i, h with
    | 0, h => simp at h; subst h; exact ⟨rfl, rfl, rfl, rfl⟩
    | i + 1, h => simp at h
  | cons x s =>
    simp only [WH] at h
    match i, h with
    | 0, h => simp at h; subst h; exact ⟨rfl, rfl, rfl, rfl⟩
    | 1, h =>
      simp at h; subst h
      refine ⟨rfl, rfl, ?_, ?_⟩
      · exact byt_noRO (x :: s)
      · show allLt 2 (refsL (byt (x :: s)) []) = true
        rw [byt_refs]; rfl
    | i + 2, h => simp at h
theorem wh_noRO (s : List UInt8) (d : Int) : noROH (WH tW tB s d) = true := by
  cases s with
  | nil => rfl
  | cons x s =>
    show (noROB (.cells [.ptr 0 0, .slice 1 0 (x :: s).length (x :: s).length 1, .int .i64 d] tW) && (noROL (byt (x :: s)) && true)) = true
    rw [byt_noRO]; rfl
theorem wr_frame0 {f b fb : Nat} {Hc : AHeap} {fa rest : List AV} {d d' : Int} {s' : List UInt8} (hM : MemQ P gl 1 f (.ptr 0 0 :: fa) (WH tW tB [] d) (.tuple []) (WH tW tB s' d')) (hs' : s' ≠ []) (e1 : Hc[b]? = some ⟨true, fb, 0, .cells [.nptr, .nslice, .int .i64 d] tW⟩)
    (hl : loneA [b] [fb] 0 Hc = true) (hF : famLt Hc.length Hc = true) (ha : frzL (frzM [b] (kilM [b] Hc) 30) rest = some fa) :
    MemOK P gl f (.ptr b 0 :: rest) Hc (.tuple []) (out0 tW tB Hc b fb s' d') := by
  obtain ⟨x, t, rfl⟩ : ∃ x t, s' = x :: t := by cases s' with | nil => exact absurd rfl hs' | cons x t => exact ⟨x, t, rfl⟩
  have hfam : famOf Hc b = fb := by simp only [famOf, e1]
  have hp : posN [b] b 0 = some 0 := by simp [posN]
  have h := memq_frame (m := [b]) (n := 30) (F := Hc.length) (Hc := Hc) (cargs := .ptr b 0 :: rest) (bL := .cells (byt (x :: t)) tB) hM ?_ ?_ rfl ?_ rfl rfl (fun i o ho => ⟨(wh_get ho).2.1, (wh_get ho).2.2.2⟩) (fun i o ho => (wh_get ho).1) (wh_noRO _ _) rfl rfl (.inl ⟨rfl, famLt_mem hF⟩)
  · have hu : updQ [b] (sig [b] 1 Hc.length) 1 (WH tW tB (x :: t) d') 0 Hc ++ [⟨true, Hc.length, 0, renB (sig [b] 1 Hc.length) (.cells (byt (x :: t)) tB)⟩] = out0 tW tB Hc b fb (x :: t) d' := by
      unfold out0
      congr 1
      · apply List.ext_getElem?
        intro i
        rw [updQ_get]
        simp only [Nat.zero_add]
        by_cases hi : i = b
        · subst hi
          rw [hp, List.getElem?_set_self (List.getElem?_eq_some_iff.1 e1).1, e1]
          rfl
        · have : posN [b] i 0 = none := by
            have : Nat.beq b i = false := Bool.eq_false_iff.2 fun e => hi (Nat.eq_of_beq_eq_true e).symm
            simp only [posN, this]; rfl
          rw [this, List.getElem?_set_ne (fun e => hi e.symm)]
          cases Hc[i]? <;> rfl
      · simp only [renB, byt_ren]
    rw [hu] at h
    exact h
  · have : frzM [b] (kilM [b] Hc) 30 (.ptr b 0) = some (.ptr 0 0) := by
      unfold frzM; simp only [hp]
    simp only [frzL, this, ha]
  · exact ⟨by rw [e1]; exact ⟨rfl, rfl, rfl, rfl, BodyGe.cellsL ⟨Wk.noref rfl, Wk.noref rfl, Wk.int rfl, trivial⟩⟩, trivial⟩
  · simp only [List.map, hfam]; exact hl
theorem wr_frame1 {f b c fb fc : Nat} {Hc : AHeap} {fa rest : List AV} {d d' : Int} {s s' : List UInt8} (hM : MemQ P gl 1 f (.ptr 0 0 :: fa) (WH tW tB s d) (.tuple []) (WH tW tB s' d')) (hs : s ≠ []) (hs' : s' ≠ []) (e2 : Hc[c]? = some ⟨true, fc, 0, .cells (byt s) tB⟩)
    (e1 : Hc[b]? = some ⟨true, fb, 0, .cells [.ptr b 0, .slice c 0 s.length s.length 1, .int .i64 d] tW⟩) (hn : Nat.beq fb fc = false) (hl : loneA [b, c] [fb, fc] 0 Hc = true) (ha : frzL (frzM [b, c] (kilM [b, c] Hc) 30) rest = some fa) :
    MemOK P gl f (.ptr b 0 :: rest) Hc (.tuple []) (out1 tW tB Hc b c fb fc s' d') := by
  obtain ⟨x, t, rfl⟩ : ∃ x t, s' = x :: t := by cases s' with | nil => exact absurd rfl hs' | cons x t => exact ⟨x, t, rfl⟩
  obtain ⟨y, u, rfl⟩ : ∃ x t, s = x :: t := by cases s with | nil => exact absurd rfl hs | cons x t => exact ⟨x, t, rfl⟩
  have hfb : famOf Hc b = fb := by simp only [famOf, e1]
  have hfc : famOf Hc c = fc := by simp only [famOf, e2]
  have hne : fb ≠ fc := fun e => by rw [e] at hn; simp at hn
  have hbc : b ≠ c := fun e => by subst e; rw [hfb] at hfc; exact hne hfc
  have hb1 : Nat.beq b c = false := Bool.eq_false_iff.2 fun e => hbc (Nat.eq_of_beq_eq_true e)
  have hp : posN [b, c] b 0 = some 0 := by simp [posN]
  have hpc : posN [b, c] c 0 = some 1 := by simp only [posN, hb1]; simp
  have h := memq_frame (m := [b, c]) (n := 30) (F := fc) (Hc := Hc) (cargs := .ptr b 0 :: rest) (bL := .cells (byt (x :: t)) tB) hM ?_ ?_ ?_ ?_ rfl rfl (fun i o ho => ⟨(wh_get ho).2.1, (wh_get ho).2.2.2⟩) (fun i o ho => (wh_get ho).1) (wh_noRO _ _) rfl rfl (.inr ⟨rfl, hfc.symm⟩)
  · have hu : updQ [b, c] (sig [b, c] 1 Hc.length) 1 (WH tW tB (x :: t) d') 0 Hc ++ [⟨true, fc, 0, renB (sig [b, c] 1 Hc.length) (.cells (byt (x :: t)) tB)⟩] = out1 tW tB Hc b c fb fc (x :: t) d' := by
      unfold out1
      congr 1
      · apply List.ext_getElem?
        intro i
        rw [updQ_get]
        simp only [Nat.zero_add]
        have lb := (List.getElem?_eq_some_iff.1 e1).1
        have lc := (List.getElem?_eq_some_iff.1 e2).1
        by_cases hi : i = b
        · subst hi
          rw [hp, List.getElem?_set_ne hbc.symm, List.getElem?_set_self lb, e1]
          rfl
        · by_cases hj : i = c
          · subst hj
            rw [hpc, List.getElem?_set_self (by simpa using lc), e2]
            rfl
          · have : posN [b, c] i 0 = none := by
              have h1 : Nat.beq b i = false := Bool.eq_false_iff.2 fun e => hi (Nat.eq_of_beq_eq_true e).symm
              have h2 : Nat.beq c i = false := Bool.eq_false_iff.2 fun e => hj (Nat.eq_of_beq_eq_true e).symm
              simp only [posN, h1, h2]; rfl
            rw [this, List.getElem?_set_ne (fun e => hj e.symm), List.getElem?_set_ne (fun e => hi e.symm)]
            cases Hc[i]? <;> rfl
      · simp only [renB, byt_ren]
    rw [hu] at h
    exact h
  · have : frzM [b, c] (kilM [b, c] Hc) 30 (.ptr b 0) = some (.ptr 0 0) := by
      unfold frzM; simp only [hp]
    simp only [frzL, this, ha]
  · refine ⟨by rw [e1]; exact ⟨rfl, rfl, rfl, rfl, BodyGe.cellsL ⟨Wk.ptr rfl rfl, Wk.slice rfl rfl rfl (Nat.le_refl _) (Nat.le_refl _) rfl, Wk.int rfl, trivial⟩⟩, by rw [e2]; exact ⟨rfl, rfl, rfl, rfl, BodyGe.pre (rest := []) (by simp) (byt_refs _ _)⟩, trivial⟩
  · simp only [List.map, hfb, hfc, nodupN, mem]
    have : (fb == fc) = false := by simpa using hne
    simp only [this, Bool.or_false, Bool.not_false, Bool.and_true]
    first | rfl | (simp; exact hne) | (simp [hn])
  · simp only [List.map, hfb, hfc]; exact hl
theorem wh_geM {H T : AHeap} {m rest : List Nat} {b f0 f1 n : Nat} {cs : List AV} {d d' : Int} {s : List UInt8} (hs : s ≠ []) (h0 : H[0]? = some ⟨true, f0, 0, .cells [.ptr 0 0, .slice b 0 n n 1, .int .i64 d'] tW⟩) (h1 : H[b]? = some ⟨true, f1, 0, .cells cs tB⟩) (m0 : m[0]? = some 0) (m1 : m[1]? = some b)
    (hn : n = s.length) (hd : d' = d) (hc : cs = byt s) (hr : HpGe H m rest T 2) : HpGe H m (0 :: b :: rest) (WH tW tB s d ++ T) 0 := by
  subst hn; subst hd; subst hc
  cases s with
  | nil => exact absurd rfl hs
  | cons x s =>
    exact ⟨by rw [h0]; exact ⟨rfl, rfl, rfl, rfl, BodyGe.cellsL ⟨Wk.ptr m0 rfl, Wk.slice m1 rfl rfl (Nat.le_refl _) (Nat.le_refl _) rfl, Wk.int rfl, trivial⟩⟩, by rw [h1]; exact ⟨rfl, rfl, rfl, rfl, BodyGe.pre (rest := []) (by simp) (byt_refs _ _)⟩, hr⟩
theorem wh_ge {H : AHeap} {b f0 f1 n : Nat} {cs : List AV} {d d' : Int} {s : List UInt8} (hs : s ≠ []) (h0 : H[0]? = some ⟨true, f0, 0, .cells [.ptr 0 0, .slice b 0 n n 1, .int .i64 d'] tW⟩) (h1 : H[b]? = some ⟨true, f1, 0, .cells cs tB⟩)
    (hn : n = s.length) (hd : d' = d) (hc : cs = byt s) : HpGe H [0, b] [0, b] (WH tW tB s d) 0 := by
  have h := wh_geM (m := [0, b]) (T := []) (rest := []) hs h0 h1 rfl rfl hn hd hc trivial
  rwa [List.append_nil] at h
theorem wh_geE {H : AHeap} {b f0 f1 : Nat} {d d' : Int} {s1 s : List UInt8} (e : s1 = s) (hs : s ≠ []) (h0 : H[0]? = some ⟨true, f0, 0, .cells [.ptr 0 0, .slice b 0 s1.length s1.length 1, .int .i64 d'] tW⟩) (h1 : H[b]? = some ⟨true, f1, 0, .cells (byt s1) tB⟩) (hd : d' = d) : HpGe H [0, b] [0, b] (WH tW tB s d) 0 := by
  subst e; exact wh_ge hs h0 h1 rfl hd rfl
theorem finE {H N : AHeap} {b f0 f1 : Nat} {d d' : Int} {s1 s : List UInt8} (hN : WH tW tB s d = N) (e : s1 = s) (hs : s ≠ []) (h0 : H[0]? = some ⟨true, f0, 0, .cells [.ptr 0 0, .slice b 0 s1.length s1.length 1, .int .i64 d'] tW⟩) (h1 : H[b]? = some ⟨true, f1, 0, .cells (byt s1) tB⟩) (hd : d' = d) (hn : Nat.beq f0 f1 = false) :
    ∃ m, pref 1 0 m = true ∧ HpGe H m m N 0 ∧ nodupN (m.map (famOf H)) = true ∧ Wk m (.tuple []) (.tuple []) := by
  subst hN
  refine ⟨[0, b], rfl, wh_geE e hs h0 h1 hd, ?_, Wk.noref rfl⟩
  have hne : f0 ≠ f1 := fun e => by rw [e] at hn; simp at hn
  simp only [List.map, famOf, h0, h1, nodupN, mem]
  have : (f0 == f1) = false := by simpa using hne
  first | (simp only [this, Bool.or_false, Bool.not_false, Bool.and_true]; done) | (simp [hn]; done) | (simp; exact hne)
theorem fgE {t0 tm : Tr} {H T : AHeap} {l : List (Nat × AV)} {rest : List Nat} {b f0 f1 : Nat} {d d' : Int} {s1 s : List UInt8} (h : subT t0 tm = true) (e : s1 = s) (hs : s ≠ []) (h0 : H[0]? = some ⟨true, f0, 0, .cells [.ptr 0 0, .slice b 0 s1.length s1.length 1, .int .i64 d'] tW⟩) (h1 : H[b]? = some ⟨true, f1, 0, .cells (byt s1) tB⟩)
    (hd : d' = d) (hr : HpGe H (0 :: b :: rest) rest T 2) (hn : nodupN ((0 :: b :: rest).map (famOf H)) = true) (hsl : SlotsGe (0 :: b :: rest) tm l) : FgLK 1 t0 tm H l (WH tW tB s d ++ T) := by
  subst e
  exact FgLK.mk (0 :: b :: rest) rfl h hsl (wh_geM hs h0 h1 rfl rfl rfl hd rfl hr) hn
theorem wh_ge0 {H : AHeap} {f0 : Nat} {d d' : Int} (h0 : H[0]? = some ⟨true, f0, 0, .cells [.nptr, .nslice, .int .i64 d'] tW⟩) (hd : d' = d) : HpGe H [0] [0] (WH tW tB [] d) 0 := by
  subst hd
  exact ⟨by rw [h0]; exact ⟨rfl, rfl, rfl, rfl, BodyGe.cellsL ⟨Wk.noref rfl, Wk.noref rfl, Wk.int rfl, trivial⟩⟩, trivial⟩
structure WM (P : Program) (gl : Glob) (tW tB : TypeId) where
  f : Nat
  X : Type
  G : X → Prop
  G0 : X → Prop
  A : X → List AV
  D : X → Int
  T : X → List UInt8
  L : Nat
  body : hasBody P f = true
  inj : ∀ x y, G x → G y → A x = A y → D x = D y → T x = T y
  ne : ∀ x, G x → G0 x → T x ≠ []
  ok : ∀ x, G x → ∀ s, (s = [] → G0 x) → (s ++ T x).length ≤ L → MemQ P gl 1 f (.ptr 0 0 :: A x) (WH tW tB s (D x)) (.tuple []) (WH tW tB (s ++ T x) (D x))
structure WI (X : Type) where
  x : X
  s : List UInt8
  b : Nat
  c : Nat
  fb : Nat
  fc : Nat
  H : AHeap
  rest : List AV
def WM.Gd (W : WM P gl tW tB) (i : WI W.X) : Prop := W.G i.x ∧ (i.s ++ W.T i.x).length ≤ W.L ∧ match i.s with
  | [] => W.G0 i.x ∧ i.c = 0 ∧ i.fc = 0 ∧ i.H[i.b]? = some ⟨true, i.fb, 0, .cells [.nptr, .nslice, .int .i64 (W.D i.x)] tW⟩ ∧ loneA [i.b] [i.fb] 0 i.H = true ∧ famLt i.H.length i.H = true ∧ frzL (frzM [i.b] (kilM [i.b] i.H) 30) i.rest = some (W.A i.x)
  | y :: u => i.H[i.c]? = some ⟨true, i.fc, 0, .cells (byt (y :: u)) tB⟩ ∧ i.H[i.b]? = some ⟨true, i.fb, 0, .cells [.ptr i.b 0, .slice i.c 0 (y :: u).length (y :: u).length 1, .int .i64 (W.D i.x)] tW⟩ ∧
    Nat.beq i.fb i.fc = false ∧ loneA [i.b, i.c] [i.fb, i.fc] 0 i.H = true ∧ frzL (frzM [i.b, i.c] (kilM [i.b, i.c] i.H) 30) i.rest = some (W.A i.x)
def WM.Out (W : WM P gl tW tB) (i : WI W.X) : AHeap := match i.s with
  | [] => out0 tW tB i.H i.b i.fb (i.s ++ W.T i.x) (W.D i.x)
  | _ :: _ => out1 tW tB i.H i.b i.c i.fb i.fc (i.s ++ W.T i.x) (W.D i.x)
def WM.fam (W : WM P gl tW tB) : FamM P gl where
  I := WI W.X
  f := W.f
  G := W.Gd
  A := fun i => .ptr i.b 0 :: i.rest
  H := fun i => i.H
  R := fun _ => .tuple []
  O := W.Out
  body := W.body
  inj := by
    rintro ⟨x, s, b, c, fb, fc, H, rest⟩ ⟨x', s', b', c', fb', fc', H', rest'⟩ h h' e1 e2
    simp only [List.cons.injEq, AV.ptr.injEq, and_true] at e1
    obtain ⟨rfl, rfl⟩ := e1
    simp only at e2; subst e2
    refine ⟨rfl, ?_⟩
    simp only [WM.Gd] at h h'
    obtain ⟨g, _, h⟩ := h
    obtain ⟨g', _, h'⟩ := h'
    cases s with
    | nil =>
      cases s' with
      | nil =>
        obtain ⟨_, rfl, rfl, a1, a2, a3, a4⟩ := h
        obtain ⟨_, rfl, rfl, b1, b2, b3, b4⟩ := h'
        rw [a1] at b1
        simp only [Option.some.injEq, AObj.mk.injEq, ABody.cells.injEq, List.cons.injEq, AV.int.injEq, true_and, and_true] at b1
        obtain ⟨rfl, hd⟩ := b1
        rw [a4] at b4
        have ht := W.inj x x' g g' (Option.some.inj b4) hd
        simp only [WM.Out, ht, hd]
      | cons y u =>
        obtain ⟨_, _, _, a1, a2, a3, a4⟩ := h
        obtain ⟨b1, b2, b3, b4, b5⟩ := h'
        rw [a1] at b2
        simp at b2
    | cons y u =>
      cases s' with
      | nil =>
        obtain ⟨a1, a2, a3, a4, a5⟩ := h
        obtain ⟨_, _, _, b1, b2, b3, b4⟩ := h'
        rw [a2] at b1
        simp at b1
      | cons y' u' =>
        obtain ⟨a1, a2, a3, a4, a5⟩ := h
        obtain ⟨b1, b2, b3, b4, b5⟩ := h'
        rw [a2] at b2
        simp only [Option.some.injEq, AObj.mk.injEq, ABody.cells.injEq, List.cons.injEq, AV.int.injEq, AV.slice.injEq, true_and, and_true] at b2
        obtain ⟨rfl, ⟨rfl, _⟩, hd⟩ := b2
        rw [a1] at b1
        simp only [Option.some.injEq, AObj.mk.injEq, ABody.cells.injEq, true_and, and_true] at b1
        obtain ⟨rfl, hb⟩ := b1
        have hs := byt_inj hb
        simp only [List.cons.injEq] at hs
        obtain ⟨rfl, rfl⟩ := hs
        rw [a5] at b5
        have ht := W.inj x x' g g' (Option.some.inj b5) hd
        simp only [WM.Out, ht, hd]
  ok := by
    rintro ⟨x, s, b, c, fb, fc, H, rest⟩ h
    simp only [WM.Gd] at h
    obtain ⟨g, hl, h⟩ := h
    cases s with
    | nil =>
      obtain ⟨g0, rfl, rfl, a1, a2, a3, a4⟩ := h
      exact wr_frame0 (W.ok x g [] (fun _ => g0) hl) (by simpa using W.ne x g g0) a1 a2 a3 a4
    | cons y u =>
      obtain ⟨a1, a2, a3, a4, a5⟩ := h
      exact wr_frame1 (W.ok x g (y :: u) (fun e => by cases e) hl) (by simp) (by simp) a1 a2 a3 a4 a5
theorem WM.ask0 {W : WM P gl tW tB} {O : Orc} (h : W.fam.Ask O) (x : W.X) {b fb : Nat} {H : AHeap} {rest : List AV} (g : W.G x) (g0 : W.G0 x) (hl : (W.T x).length ≤ W.L) (e1 : H[b]? = some ⟨true, fb, 0, .cells [.nptr, .nslice, .int .i64 (W.D x)] tW⟩) (e2 : loneA [b] [fb] 0 H = true) (e3 : famLt H.length H = true)
    (e4 : frzL (frzM [b] (kilM [b] H) 30) rest = some (W.A x)) : acall P O H W.f (.ptr b 0 :: rest) = some (.tuple [], out0 tW tB H b fb (W.T x) (W.D x)) :=
  h ⟨x, [], b, 0, fb, 0, H, rest⟩ ⟨g, hl, g0, rfl, rfl, e1, e2, e3, e4⟩
theorem WM.ask1 {W : WM P gl tW tB} {O : Orc} (h : W.fam.Ask O) (x : W.X) {s : List UInt8} {b c fb fc : Nat} {H : AHeap} {rest : List AV} (g : W.G x) (hs : s ≠ []) (hl : (s ++ W.T x).length ≤ W.L) (e1 : H[c]? = some ⟨true, fc, 0, .cells (byt s) tB⟩)
    (e2 : H[b]? = some ⟨true, fb, 0, .cells [.ptr b 0, .slice c 0 s.length s.length 1, .int .i64 (W.D x)] tW⟩) (e3 : Nat.beq fb fc = false) (e4 : loneA [b, c] [fb, fc] 0 H = true)
    (e5 : frzL (frzM [b, c] (kilM [b, c] H) 30) rest = some (W.A x)) : acall P O H W.f (.ptr b 0 :: rest) = some (.tuple [], out1 tW tB H b c fb fc (s ++ W.T x) (W.D x)) := by
  cases s with
  | nil => exact absurd rfl hs
  | cons y u => exact h ⟨x, y :: u, b, c, fb, fc, H, rest⟩ ⟨g, hl, e1, e2, e3, e4, e5⟩
end
end Go.Abs
end


section

set_option linter.unusedVariables false
set_option linter.unusedSimpArgs false
namespace Go.Proofs.YtkkfcfjhhdmamaaGreatDoor.lex
open Go.Abs Go.RowKit Go.Sort
set_option maxRecDepth 100000
set_option maxHeartbeats 4000000
variable {gl : Glob}
abbrev encB : UInt8 → Value := fun b => Value.int .u8 (b.toNat : Int)
theorem byt_get (d : List UInt8) (i : Nat) : (byt d)[i]? = (d[i]?).map fun b => AV.int .u8 b.toNat := by simp [byt]
theorem fb_ok (u : Nat) (hu : u < 18446744073709551616) (d0 : List UInt8) (hd : d0.length = 24) (hnd : Lib.nDigits u ≤ 23) (cap : Nat) (ty : TypeId) :
    MemOK Tryz.prog gl 100 [.slice 0 1 (Lib.nDigits u) cap 1, .int .u64 u] [⟨true, 0, 0, .cells (byt d0) ty⟩] (.tuple []) [⟨true, 0, 0, .cells (byt (d0.take 1 ++ (Lib.decDigits u ++ d0.drop (1 + Lib.nDigits u)))) ty⟩] := by
  intro sn ι W cargs hg hR ha
  simp only [LR] at ha
  obtain ⟨v1, _, rfl, h1, v2, _, rfl, h2, rfl⟩ := ha
  obtain ⟨p, a, cap', hp, rfl, c1, c2, c3⟩ := h1.slice
  cases h2.int
  have hob := hR.obj 0 _ p rfl rfl hp
  simp only [OR] at hob
  obtain ⟨arr, g1, g2, g3, g4⟩ := hob
  have hsh := hR.shz 0 _ p rfl hp rfl
  have hpos := Lib.nDigits_pos u
  have hlen := Lib.decDigits_length u
  generalize hn : Lib.nDigits u = nd at *
  obtain ⟨rfl, c4⟩ := c3 (by omega)
  rw [hsh] at g3 g4
  rw [hsh]
  rw [byt_len, hd] at g3
  have hcell : ∀ i (h : i < 24), W.cell? ⟨p.blk, i, none⟩ = some (encB d0[i]) := fun i h => by
    obtain ⟨v, e1, e2⟩ := g4 i (.int .u8 d0[i].toNat) (by rw [byt_get, List.getElem?_eq_getElem (by omega)]; rfl)
    cases e2.int
    simp only [World.cell?, g1]
    rw [Nat.zero_add] at e1; exact e1
  let d : Array UInt8 := ((d0.drop 1).take nd).toArray
  have hds : d.size = nd := by simp [d]; omega
  have hdj : ∀ j, j < nd → ∀ (h : 1 + j < d0.length), d[j]! = d0[1 + j] := fun j hj h => by
    rw [getElem!_pos d j (by omega)]
    simp [d, Nat.add_comm 1 j]
  have hH : Holds encB W p.blk 1 d := fun j hj => by
    rw [hds] at hj
    refine ⟨?_, ?_⟩
    · rw [hcell (1 + j) (by omega), hdj j hj (by omega)]
    · simp [World.frozen?, g1]
  have hpow : u < 10 ^ d.size := by rw [hds, ← hn]; exact Lib.lt_pow_nDigits u
  have hc := Any.internal_strconv_formatBase10 shelf.fb10 p.blk 1 cap' u d W hH hpow hu (by rw [hds]; omega)
  rw [hds] at hc
  refine hc.mono ?_
  rintro e W' ⟨rfl, k, v', dk, rfl, hF⟩
  have hks : dk.size = nd := hF.size
  have hdig : ∀ j (h : j < nd), encB dk[j]! = encB ((Lib.decDigits u)[j]'(by omega)) := fun j h => by
    have := Lib.row_is_numeral (u := u) (v' := v') (dk := dk) (by rw [hn]; exact hF) j (by omega)
    rw [this]
  have hother : ∀ c, c ≠ p.blk → ((putRow encB W p.blk 1 dk).drewN k).heap[c]? = W.heap[c]? := fun c hc => by
    show (putRow encB W p.blk 1 dk).heap[c]? = _
    simp only [putRow, mapBlock, Array.getElem?_modify]
    rw [if_neg (fun e => hc e.symm)]
  have hthis : ((putRow encB W p.blk 1 dk).drewN k).heap[p.blk]? = some (.cells (putCells encB 1 dk arr) ty (0, 0)) := by
    show (putRow encB W p.blk 1 dk).heap[p.blk]? = _
    simp only [putRow, mapBlock, Array.getElem?_modify, if_true, g1]
    rfl
  have hsize : ((putRow encB W p.blk 1 dk).drewN k).heap.size = W.heap.size := by
    show (putRow encB W p.blk 1 dk).heap.size = _
    simp
  have one0 : ∀ {b : Nat} {o o' : AObj}, [o'][b]? = some o → b = 0 ∧ o = o' := fun {b o o'} h => by
    cases b with
    | zero => simp at h; exact ⟨rfl, h.symm⟩
    | succ b => simp at h
  refine ⟨.tuple #[], sn, ι, rfl, by simp [VR, LR], ⟨fun b => ?_, fun b q hq => by rw [hsize]; exact hR.blk b q hq, fun b o q hb hal hq => ?_, fun b b' o o' q q' hb hb' hq hq' e => ?_, fun ad v hv => ?_, fun b o q hb hq e => ?_⟩, Le.refl _ _, fun _ _ h => .inl h, fun c hc hno => hother c (fun e => hno 0 _ p rfl rfl hp e.symm), by rw [hsize]; exact Nat.le_refl _, rfl, rfl, rfl, fun _ _ h => .inl h, fun b o hb => ?_⟩
  · exact hR.dom b
  · obtain ⟨rfl, rfl⟩ := one0 hb
    rw [hp] at hq; cases hq
    simp only [OR]
    refine ⟨_, hthis, by simp [putCells, g2], by rw [hsh, byt_len]; simp only [List.length_append, List.length_take, List.length_drop]; omega, fun i c hi => ?_⟩
    rw [hsh, Nat.zero_add]
    rw [byt_get] at hi
    have hi24 : i < 24 := by
      have h1 : i < (d0.take 1 ++ (Lib.decDigits u ++ d0.drop (1 + nd))).length := by
        cases hx : (d0.take 1 ++ (Lib.decDigits u ++ d0.drop (1 + nd)))[i]? with
        | none => rw [hx] at hi; cases hi
        | some b => exact (List.getElem?_eq_some_iff.1 hx).1
      simp only [List.length_append, List.length_take, List.length_drop] at h1
      omega
    have ha0 : arr[i]? = some (encB d0[i]) := by
      have := hcell i hi24
      simp [World.cell?, g1] at this
      exact this
    have hput : (putCells encB 1 dk arr)[i]? = some (if 1 ≤ i ∧ i < 1 + nd then encB dk[i - 1]! else encB d0[i]) := by
      simp only [putCells, Array.getElem?_mapIdx, ha0, Option.map_some, hks]
    rw [hput]
    refine ⟨_, rfl, ?_⟩
    by_cases h1 : 1 ≤ i ∧ i < 1 + nd
    · rw [if_pos h1, hdig (i - 1) (by omega)]
      have : (d0.take 1 ++ (Lib.decDigits u ++ d0.drop (1 + nd)))[i]? = some ((Lib.decDigits u)[i - 1]'(by omega)) := by
        rw [List.getElem?_append_right (by simp; omega), List.getElem?_append_left (by simp; omega), List.length_take]
        rw [show i - min 1 d0.length = i - 1 by omega]
        exact List.getElem?_eq_getElem (by omega)
      rw [this] at hi
      simp at hi; subst hi
      simp [VR]
    · rw [if_neg h1]
      have : (d0.take 1 ++ (Lib.decDigits u ++ d0.drop (1 + nd)))[i]? = some d0[i] := by
        by_cases h0 : i = 0
        · subst h0
          rw [List.getElem?_append_left (by simp; omega), List.getElem?_take]
          simp
        · rw [List.getElem?_append_right (by simp; omega), List.getElem?_append_right (by simp; omega), List.getElem?_drop, List.length_take]
          rw [show 1 + nd + (i - min 1 d0.length - (Lib.decDigits u).length) = i by omega]
          exact List.getElem?_eq_getElem (by omega)
      rw [this] at hi
      simp at hi; subst hi
      simp [VR]
  · obtain ⟨rfl, rfl⟩ := one0 hb
    obtain ⟨rfl, rfl⟩ := one0 hb'
    rw [hq] at hq'; cases hq'
    exact ⟨rfl, rfl⟩
  · obtain ⟨s1, s2, s3⟩ := hR.snap ad v hv
    refine ⟨by rw [hsize]; exact s1, ?_, fun b o q hb hal hq => ?_⟩
    · rw [← s2]
      exact World.cell?_of_block (hother _ fun e => s3 0 _ p rfl rfl hp e.symm)
    · obtain ⟨rfl, rfl⟩ := one0 hb
      exact s3 0 _ q rfl rfl hq
  · obtain ⟨rfl, rfl⟩ := one0 hb
    exact hR.shz 0 _ q rfl hq rfl
  · obtain ⟨rfl, rfl⟩ := one0 hb
    exact ⟨_, rfl, rfl, rfl, fun _ => rfl⟩
end Go.Proofs.YtkkfcfjhhdmamaaGreatDoor.lex
end


section

set_option linter.unusedVariables false
set_option linter.unusedSimpArgs false
namespace Go.Proofs.YtkkfcfjhhdmamaaGreatDoor.lex
open Go.Abs Go.RowKit
set_option maxRecDepth 100000
set_option maxHeartbeats 4000000
theorem follows : Tryz.prog.follows .mixedOrders = true := by kernel_rfl
theorem noNumAll : (Tryz.prog.funcs.toList.all fun fn => !(fn.name == "runtime.NumGoroutine")) = true := by kernel_rfl
theorem noNum : NoNum Tryz.prog := fun g fn h => by
  have h1 := List.all_eq_true.1 noNumAll fn (Array.mem_toList_iff.2 (Array.mem_of_getElem? h))
  simpa using h1
variable {gl : Glob}
theorem none_sound : OrcSound Tryz.prog gl (orcV fun _ _ => none) := orcV_sound fun _ _ _ h => by cases h
def letB (n : Int) : Bool := decide (97 ≤ n) && decide (n ≤ 122) || decide (65 ≤ n) && decide (n ≤ 90)
def digB (n : Int) : Bool := decide (48 ≤ n) && decide (n ≤ 57)
theorem let_ok (n : Int) : ValOK Tryz.prog gl 129 [.int .u8 n] (.bool (letB n)) := by
  refine fn_val follows noNum none_sound Tryz.func129 rfl ?_
  repeat' ((conv => whnf); first | refine stp ?_ | with_reducible refine condB (fun h => ?_) (fun h => ?_))
  all_goals (try simp_all [resOf, letB])
  all_goals omega
theorem dig_ok (n : Int) : ValOK Tryz.prog gl 132 [.int .u8 n] (.bool (digB n)) := by
  refine fn_val follows noNum none_sound Tryz.func132 rfl ?_
  repeat' ((conv => whnf); first | refine stp ?_ | with_reducible refine condB (fun h => ?_) (fun h => ?_))
  all_goals (try simp_all [resOf, digB])
  all_goals omega
theorem letR_ok (n : Int) : ValOK Tryz.prog gl 103 [.int .u8 n] (.bool (letB n)) := by
  refine fn_val follows noNum none_sound Tryz.func103 rfl ?_
  repeat' ((conv => whnf); first | refine stp ?_ | with_reducible refine condB (fun h => ?_) (fun h => ?_))
  all_goals (try simp_all [resOf, letB])
  all_goals omega
theorem digR_ok (n : Int) : ValOK Tryz.prog gl 104 [.int .u8 n] (.bool (digB n)) := by
  refine fn_val follows noNum none_sound Tryz.func104 rfl ?_
  repeat' ((conv => whnf); first | refine stp ?_ | with_reducible refine condB (fun h => ?_) (fun h => ?_))
  all_goals (try simp_all [resOf, digB])
  all_goals omega
def F1 (f : Nat) (xs : List AV) : Option AV := match f with
  | 129 => match xs with | [.int .u8 n] => some (.bool (letB n)) | _ => none
  | 132 => match xs with | [.int .u8 n] => some (.bool (digB n)) | _ => none
  | 103 => match xs with | [.int .u8 n] => some (.bool (letB n)) | _ => none
  | 104 => match xs with | [.int .u8 n] => some (.bool (digB n)) | _ => none
  | _ => none
theorem F1_val {f : Nat} {xs : List AV} {r : AV} (h : F1 f xs = some r) : plain r = true ∧ ValOK Tryz.prog gl f xs r := by
  unfold F1 at h
  split at h <;> try (cases h; done)
  all_goals (split at h <;> cases h)
  · exact ⟨rfl, let_ok _⟩
  · exact ⟨rfl, dig_ok _⟩
  · exact ⟨rfl, letR_ok _⟩
  · exact ⟨rfl, digR_ok _⟩
theorem F1_sound : OrcSound Tryz.prog gl (orcZ F1) := orcZ_sound fun f xs r h => F1_val h
def worB (n : Int) : Bool := letB n || digB n || n == 95
theorem word1_ok (n : Int) : ValOK Tryz.prog gl 131 [.int .u8 n] (.bool (worB n)) := by
  refine fn_val follows noNum F1_sound Tryz.func131 rfl ?_
  repeat' ((conv => whnf); first | refine stp ?_ | with_reducible refine condB (fun h => ?_) (fun h => ?_))
  all_goals (try simp_all [resOf, worB])
def F2 (f : Nat) (xs : List AV) : Option AV := match f with
  | 131 => match xs with | [.int .u8 n] => some (.bool (worB n)) | _ => none
  | f => F1 f xs
theorem F2_val {f : Nat} {xs : List AV} {r : AV} (h : F2 f xs = some r) : plain r = true ∧ ValOK Tryz.prog gl f xs r := by
  unfold F2 at h
  split at h
  · split at h <;> cases h
    exact ⟨rfl, word1_ok _⟩
  · exact F1_val h
theorem F2_sound : OrcSound Tryz.prog gl (orcZ F2) := orcZ_sound fun f xs r h => F2_val h
def spanN (p : Int → Bool) (s : List UInt8) : Nat := (s.takeWhile fun c => p c.toNat).length
theorem spanN_true {p : Int → Bool} {c : UInt8} (l : List UInt8) (h : p c.toNat = true) : spanN p (c :: l) = spanN p l + 1 := by simp [spanN, h]
theorem spanN_false {p : Int → Bool} {c : UInt8} (l : List UInt8) (h : p c.toNat = false) : spanN p (c :: l) = 0 := by simp [spanN, h]
theorem span_ok (g : Nat) (p : Int → Bool) (hF : ∀ n, F2 g [.int .u8 n] = some (.bool (p n))) (hb : hasBody Tryz.prog g = true) (s : List UInt8) (hs : s.length ≤ 9223372036854775807) :
    ValOK Tryz.prog gl 130 [.str s, .func (.func g) [] []] (.int .i64 (spanN p s)) := by
  refine fn_val follows noNum F2_sound Tryz.func130 rfl ?_
  conv => whnf
  refine ⟨Nat, (fun k => k ≤ s.length ∧ spanN p s = k + spanN p (s.drop k)), (fun k => [(0, .str s), (1, .func (.func g) [] []), (5, .int .i64 k)]), (fun _ => []), (fun k => s.length - k), ⟨0, ⟨Nat.zero_le _, by simp⟩, ?_⟩, ?_⟩
  · refine FgL.mk0 rfl ?_
    refine And.intro (Wk.noref rfl) ?_
    refine And.intro (Wk.noref rfl) ?_
    refine And.intro (Wk.noref rfl) ?_
    trivial
  · intro k ⟨hk, hsp⟩
    by_cases hlt : k < s.length
    · have e1 : decide ((k : Int) < (s.length : Int)) = true := by simpa using hlt
      have hc : s[k]? = some s[k] := by simp [hlt]
      have hd : s.drop k = s[k] :: s.drop (k + 1) := List.drop_eq_getElem_cons hlt
      cases hp : p s[k].toNat with
      | true =>
        repeat' ((conv => whnf); first | with_reducible refine ixS _ rfl hc ?_ | with_reducible refine exI (callZ hb rfl (hF _)) ?_ | (first | refine stp ?_ | with_reducible refine condB (fun h => ?_) (fun h => ?_)))
        (conv => whnf)
        have hn := spanN_true (s.drop (k + 1)) hp
        rw [← hd] at hn
        exact ⟨k + 1, ⟨hlt, by omega⟩, by show s.length - (k + 1) < s.length - k; omega, FgL.mk0 rfl ⟨Wk.noref rfl, Wk.noref rfl, Wk.int rfl, trivial⟩⟩
      | false =>
        repeat' ((conv => whnf); first | with_reducible refine ixS _ rfl hc ?_ | with_reducible refine exI (callZ hb rfl (hF _)) ?_ | (first | refine stp ?_ | with_reducible refine condB (fun h => ?_) (fun h => ?_)))
        have hn := spanN_false (s.drop (k + 1)) hp
        rw [← hd] at hn
        rw [hsp, hn]; rfl
    · have e1 : decide ((k : Int) < (s.length : Int)) = false := by simpa using hlt
      have hk' : k = s.length := by omega
      repeat' ((conv => whnf); first | refine stp ?_ | with_reducible refine condB (fun h => ?_) (fun h => ?_))
      rw [hsp, hk']; simp [resOf, spanN]
theorem spanN_at {p : Int → Bool} {s : List UInt8} {e : Nat} (h : e < s.length) : spanN p (s.drop e) = if p s[e].toNat then spanN p (s.drop (e + 1)) + 1 else 0 := by
  rw [List.drop_eq_getElem_cons h]
  cases hp : p s[e].toNat with
  | true => rw [spanN_true _ hp]; rfl
  | false => rw [spanN_false _ hp]; rfl
theorem spanN_end {p : Int → Bool} {s : List UInt8} {e : Nat} (h : ¬ e < s.length) : spanN p (s.drop e) = 0 := by
  rw [List.drop_eq_nil_of_le (by omega)]; rfl
theorem u8_eq (c : UInt8) (n : Nat) (h : n < 256) : ((c.toNat : Int) == (n : Int)) = (c == UInt8.ofNat n) := by
  by_cases e : c = UInt8.ofNat n
  · subst e; simp; omega
  · have : c.toNat ≠ n := fun e' => e (by apply UInt8.toNat_inj.1; rw [e']; simp [Nat.mod_eq_of_lt h])
    rw [beq_eq_false_iff_ne.2 e, beq_eq_false_iff_ne]; omega
def F3 (f : Nat) (xs : List AV) : Option AV := match f with
  | 130 => match xs with
    | [.str s, .func (.func 131) [] []] => if s.length ≤ 9223372036854775807 then some (.int .i64 (spanN worB s)) else none
    | _ => none
  | f => F2 f xs
theorem F3_val {f : Nat} {xs : List AV} {r : AV} (h : F3 f xs = some r) : plain r = true ∧ ValOK Tryz.prog gl f xs r := by
  unfold F3 at h
  split at h
  · split at h <;> try (cases h; done)
    split at h <;> cases h
    rename_i hs
    exact ⟨rfl, span_ok 131 worB (fun _ => rfl) (by kernel_rfl) _ hs⟩
  · exact F2_val h
theorem F3_sound : OrcSound Tryz.prog gl (orcZ F3) := orcZ_sound fun f xs r h => F3_val h
def wordN : List UInt8 → Nat
  | [] => 0
  | c :: s => if letB c.toNat then spanN worB (c :: s) else 0
theorem word_ok (s : List UInt8) (hs : s.length ≤ 9223372036854775807) : ValOK Tryz.prog gl 112 [.str s] (.int .i64 (wordN s)) := by
  match s with
  | [] =>
    refine fn_val follows noNum F3_sound Tryz.func112 rfl ?_
    repeat' ((conv => whnf); first | refine stp ?_ | with_reducible refine condB (fun h => ?_) (fun h => ?_))
    all_goals (try simp_all [resOf, wordN])
  | c :: s =>
    have h1 : ((c :: s) == []) = false := by simp
    have h2 : (c :: s)[0]? = some c := rfl
    refine fn_val follows noNum F3_sound Tryz.func112 rfl ?_
    repeat' ((conv => whnf); first | with_reducible refine ixS 0 rfl h2 ?_ | (first | refine stp ?_ | with_reducible refine condB (fun h => ?_) (fun h => ?_)))
    all_goals (try (simp_all [resOf, wordN]; done))
def keysL : List (List UInt8) := [[115, 104, 97, 114, 101, 100], [112, 108, 97, 105, 110], [116, 104, 114, 101, 97, 100], [105, 102], [101, 108, 115, 101], [119, 104, 105, 108, 101], [108, 111, 97, 100], [115, 116, 111, 114, 101], [99, 97, 115], [97, 100, 100], [115, 119, 97, 112], [102, 101, 110, 99, 101], [97, 115, 115, 117, 109, 101], [97, 115, 115, 101, 114, 116], [110, 97], [114, 108, 120], [97, 99, 113], [114, 101, 108], [97, 114], [115, 99]]
def entsF : Nat → List (List UInt8) → List (AV × AV × Nat)
  | _, [] => []
  | n, k :: l => (.str k, .agg [], n) :: entsF (n + 1) l
theorem find_ok (x : List UInt8) : ∀ (l : List (List UInt8)) (n i : Nat), ∃ o, aFind .string (.str x) (entsF n l) i = some o ∧ o.isSome = l.contains x ∧ ∀ p, o = some p → p.2 = .agg []
  | [], n, i => ⟨none, rfl, by simp, fun p h => by cases h⟩
  | k :: l, n, i => by
    obtain ⟨o, h1, h2, h3⟩ := find_ok x l (n + 1) (i + 1)
    by_cases e : x = k
    · subst e
      exact ⟨some (i, .agg []), by simp [entsF, aFind, aSame], by simp, fun p h => by cases h; rfl⟩
    · refine ⟨o, ?_, by simp [h2, e], h3⟩
      have : (x == k) = false := by simpa using e
      simp [entsF, aFind, aSame, this, h1]
theorem kdK : keyDesc Tryz.prog 160 = some (.string, 158) := by kernel_rfl
theorem look_ok' {H : AHeap} {b : Nat} (x : List UInt8) (h : mapEs H (.map b) = some (entsF 0 keysL)) : aLookup Tryz.prog 160 (.map b) (.str x) true H = some (.tuple [.agg [], .bool (keysL.contains x)]) := by
  obtain ⟨o, h1, h2, h3⟩ := find_ok x keysL 0 0
  have hz : tzero Tryz.prog 158 = some (.agg []) := by kernel_rfl
  simp only [aLookup, kdK, h, h1, ← h2]
  cases o with
  | none => simp [hz]
  | some p => have := h3 p rfl; obtain ⟨j, v⟩ := p; subst this; simp
def wordR (s : List UInt8) : AV := if s ≠ [] ∧ wordN s = s.length then .tuple [.int .i64 (if keysL.contains s then 2 else 1), .bool true] else .tuple [.int .i64 0, .bool false]
def F4 (f : Nat) (xs : List AV) : Option AV := match f with
  | 112 => match xs with | [.str s] => if s.length ≤ 9223372036854775807 then some (.int .i64 (wordN s)) else none | _ => none
  | f => F3 f xs
theorem F4_val {f : Nat} {xs : List AV} {r : AV} (h : F4 f xs = some r) : plain r = true ∧ ValOK Tryz.prog gl f xs r := by
  unfold F4 at h
  split at h
  · split at h <;> try (cases h; done)
    split at h <;> cases h
    rename_i hs; exact ⟨rfl, word_ok _ hs⟩
  · exact F3_val h
theorem F4_sound : OrcSound Tryz.prog gl (orcZ F4) := orcZ_sound fun f xs r h => F4_val h
section
attribute [local irreducible] wordN
theorem wordP_ok (s : List UInt8) (hs : s.length ≤ 9223372036854775807) : ValOK Tryz.prog gl 96 [.str s] (wordR s) := by
  have e2 : F4 112 [.str s] = some (.int .i64 (wordN s)) := by simp only [F4]; rw [if_pos (by omega)]
  have hb : hasBody Tryz.prog 112 = true := by kernel_rfl
  refine fn_valI (fun g => Nat.beq g 112) 2 follows noNum F4_sound Tryz.func96 rfl ?_
  by_cases h0 : s = []
  · have e1 : (s == []) = true := by simpa using h0
    repeat' ((conv => whnf); (first | refine stp ?_ | with_reducible refine condB (fun h => ?_) (fun h => ?_)))
    unfold wordR; rw [if_neg (by simp [h0])]
  · have e1 : (s == []) = false := by simpa using h0
    by_cases hw : wordN s = s.length
    · have e3 : ((wordN s : Int) != (s.length : Int)) = false := by rw [hw]; simp
      have eR : wordR s = .tuple [.int .i64 (if keysL.contains s then 2 else 1), .bool true] := by unfold wordR; rw [if_pos ⟨h0, hw⟩]
      rw [eR]
      cases hc : keysL.contains s with
      | true =>
        repeat' ((conv => whnf); first | (with_reducible refine exI (callZ hb rfl e2) ?_) | (with_reducible refine exI (look_ok' _ ?_) ?_; (focus rfl)) | (first | refine stp ?_ | with_reducible refine condB (fun h => ?_) (fun h => ?_)))
        conv => whnf
        refine exI (look_ok' _ ?_) ?_
        · rfl
        rw [hc]
        repeat' ((conv => whnf); (first | refine stp ?_ | with_reducible refine condB (fun h => ?_) (fun h => ?_)))
        rfl
      | false =>
        repeat' ((conv => whnf); first | (with_reducible refine exI (callZ hb rfl e2) ?_) | (with_reducible refine exI (look_ok' _ ?_) ?_; (focus rfl)) | (first | refine stp ?_ | with_reducible refine condB (fun h => ?_) (fun h => ?_)))
        conv => whnf
        refine exI (look_ok' _ ?_) ?_
        · rfl
        rw [hc]
        repeat' ((conv => whnf); (first | refine stp ?_ | with_reducible refine condB (fun h => ?_) (fun h => ?_)))
        rfl
    · have e3 : ((wordN s : Int) != (s.length : Int)) = true := by simp; omega
      repeat' ((conv => whnf); first | (with_reducible refine exI (callZ hb rfl e2) ?_) | (first | refine stp ?_ | with_reducible refine condB (fun h => ?_) (fun h => ?_)))
      unfold wordR; rw [if_neg (fun h => hw h.2)]
end
theorem kind_ok (x : List UInt8) : ValOK Tryz.prog gl 105 [.str x] (.int .i64 (if keysL.contains x then 2 else 1)) := by
  refine fn_valI (fun _ => false) 2 follows noNum F1_sound Tryz.func105 rfl ?_
  repeat' ((conv => whnf); first | refine stp ?_ | with_reducible refine condB (fun h => ?_) (fun h => ?_))
  conv => whnf
  refine ⟨Nat, (fun i => i ≤ 20 ∧ keysL.contains x = (keysL.drop i).contains x), (fun i => [(0, .str x), (3, .slice 0 0 20 20 1), (4, .int .i64 i)]), (fun _ => [⟨true, 0, 0, .cells (keysL.map AV.str) 9⟩]), (fun i => 20 - i), ⟨0, ⟨by omega, rfl⟩, ?_⟩, ?_⟩
  · refine FgL.mk [0] rfl ?_ ?_ rfl
    · exact ⟨Wk.noref rfl, Wk.slice rfl rfl rfl (Nat.le_refl _) (Nat.le_refl _) rfl, Wk.int rfl, trivial⟩
    · exact ⟨⟨rfl, rfl, rfl, rfl, BodyGe.pre (rest := []) rfl rfl⟩, trivial⟩
  · intro i ⟨hi, hs⟩
    by_cases hlt : i < 20
    · have e1 : decide ((i : Int) < 20) = true := by simp; omega
      have hlk : i < keysL.length := hlt
      have hd : keysL.drop i = keysL[i] :: keysL.drop (i + 1) := List.drop_eq_getElem_cons hlk
      repeat' ((conv => whnf); first | (with_reducible refine exI (tk1_map AV.str keysL i hlk ?_) ?_; (focus (omega))) | (first | refine stp ?_ | with_reducible refine condB (fun h => ?_) (fun h => ?_)))
      · have hc : keysL.contains x = true := by rw [hs, hd, List.contains_cons, eq_of_beq h]; simp
        rw [hc]; rfl
      · conv => whnf
        have hx : (x == keysL[i]) = false := beq_eq_false_iff_ne.2 (fun e => by rw [← e] at h; simp at h)
        exact ⟨i + 1, ⟨hlt, by rw [hs, hd, List.contains_cons, hx, Bool.false_or]⟩, by show 20 - (i + 1) < 20 - i; omega, FgL.mk [0] rfl ⟨Wk.noref rfl, Wk.slice rfl rfl rfl (Nat.le_refl _) (Nat.le_refl _) rfl, Wk.int rfl, trivial⟩ ⟨⟨rfl, rfl, rfl, rfl, BodyGe.pre (rest := []) rfl rfl⟩, trivial⟩ rfl⟩
    · have e1 : decide ((i : Int) < 20) = false := by simp; omega
      have hi' : i = 20 := by omega
      subst hi'
      repeat' ((conv => whnf); first | refine stp ?_ | with_reducible refine condB (fun h => ?_) (fun h => ?_))
      have hc : keysL.contains x = false := by rw [hs]; rfl
      rw [hc]; rfl
def F5 (f : Nat) (xs : List AV) : Option AV := match f with
  | 105 => match xs with | [.str x] => some (.int .i64 (if keysL.contains x then 2 else 1)) | _ => none
  | f => F1 f xs
theorem F5_val {f : Nat} {xs : List AV} {r : AV} (h : F5 f xs = some r) : plain r = true ∧ ValOK Tryz.prog gl f xs r := by
  unfold F5 at h
  split at h
  · split at h <;> cases h
    exact ⟨rfl, kind_ok _⟩
  · exact F1_val h
theorem F5_sound : OrcSound Tryz.prog gl (orcZ F5) := orcZ_sound fun f xs r h => F5_val h
theorem wordN_at0 {s : List UInt8} (h : 0 < s.length) : wordN s = if letB s[0].toNat then spanN worB s else 0 := by
  cases s with
  | nil => simp at h
  | cons c t => rfl
def wInv (s : List UInt8) (i : Nat) : Prop := i ≤ s.length ∧ (i = 0 ∨ (0 < i ∧ wordN s = spanN worB s ∧ spanN worB s = i + spanN worB (s.drop i)))
theorem wInv_step {s : List UInt8} {i : Nat} (h : wInv s i) (hlt : i < s.length) (h2 : letB s[i].toNat = true ∨ (i ≠ 0 ∧ worB s[i].toNat = true)) : wInv s (i + 1) := by
  have hat := spanN_at (p := worB) hlt
  have hw : worB s[i].toNat = true := by rcases h2 with h2 | h2; simp [worB, h2]; exact h2.2
  rw [hw, if_pos rfl] at hat
  refine ⟨hlt, .inr ⟨by omega, ?_, ?_⟩⟩
  · rcases h.2 with h0 | h0
    · subst h0
      have : letB s[0].toNat = true := by rcases h2 with h2 | h2; exact h2; exact absurd rfl h2.1
      rw [wordN_at0 (by omega), this, if_pos rfl]
    · exact h0.2.1
  · rcases h.2 with h0 | h0
    · subst h0; rw [List.drop_zero] at hat; omega
    · omega
theorem wInv_bad {s : List UInt8} {i : Nat} (h : wInv s i) (hlt : i < s.length) (h1 : letB s[i].toNat = false) (h2 : i = 0 ∨ worB s[i].toNat = false) : wordR s = .tuple [.int .i64 0, .bool false] := by
  unfold wordR
  rw [if_neg]
  rintro ⟨_, h4⟩
  rcases h.2 with h0 | h0
  · subst h0
    rw [wordN_at0 (by omega), h1] at h4
    simp at h4; omega
  · have hat := spanN_at (p := worB) hlt
    rcases h2 with h2 | h2
    · omega
    · rw [h2, if_neg (by decide)] at hat; omega
theorem wInv_end {s : List UInt8} (h : wInv s s.length) (h0 : s ≠ []) : wordR s = .tuple [.int .i64 (if keysL.contains s then 2 else 1), .bool true] := by
  have hl : 0 < s.length := List.length_pos_iff.2 h0
  unfold wordR
  rw [if_pos]
  refine ⟨h0, ?_⟩
  rcases h.2 with h1 | h1
  · omega
  · have := spanN_end (p := worB) (s := s) (e := s.length) (by omega); omega
theorem wordD_ok (s : List UInt8) (hs : s.length ≤ 9223372036854775807) : ValOK Tryz.prog gl 75 [.str s] (wordR s) := by
  refine fn_val follows noNum F5_sound Tryz.func75 rfl ?_
  conv => whnf
  repeat' ((conv => whnf); first | refine stp ?_ | with_reducible refine condB (fun h => ?_) (fun h => ?_))
  conv => whnf
  refine ⟨Nat, wInv s, (fun i => [(0, .str s), (4, .int .i64 i)]), (fun _ => []), (fun i => s.length - i), ⟨0, ⟨Nat.zero_le _, .inl rfl⟩, FgL.mk0 rfl ⟨Wk.noref rfl, Wk.int rfl, trivial⟩⟩, ?_⟩
  intro i hI
  have hi := hI.1
  by_cases hlt : i < s.length
  · have e1 : decide ((i : Int) < (s.length : Int)) = true := by simpa using hlt
    have hx : s[i]? = some s[i] := by simp [hlt]
    have u1 := u8_eq s[i] 95 (by decide)
    cases hl : letB s[i].toNat with
    | true =>
      repeat' ((conv => whnf); first | with_reducible refine ixS _ rfl hx ?_ | (first | refine stp ?_ | with_reducible refine condB (fun h => ?_) (fun h => ?_)))
      conv => whnf
      exact ⟨i + 1, wInv_step hI hlt (.inl hl), by show s.length - (i + 1) < s.length - i; omega, FgL.mk0 rfl ⟨Wk.noref rfl, Wk.int rfl, trivial⟩⟩
    | false =>
      by_cases h0 : i = 0
      · have e2 : ((i : Int) == 0) = true := by simp [h0]
        repeat' ((conv => whnf); first | with_reducible refine ixS _ rfl hx ?_ | (first | refine stp ?_ | with_reducible refine condB (fun h => ?_) (fun h => ?_)))
        exact (wInv_bad hI hlt hl (.inl h0)).symm
      · have e2 : ((i : Int) == 0) = false := by simp [h0]
        cases hw : worB s[i].toNat with
        | true =>
          repeat' ((conv => whnf); first | with_reducible refine ixS _ rfl hx ?_ | (first | refine stp ?_ | with_reducible refine condB (fun h => ?_) (fun h => ?_)))
          all_goals (first | (exfalso; simp_all [worB]; done) | skip)
          all_goals (conv => whnf)
          all_goals exact ⟨i + 1, wInv_step hI hlt (.inr ⟨h0, hw⟩), by show s.length - (i + 1) < s.length - i; omega, FgL.mk0 rfl ⟨Wk.noref rfl, Wk.int rfl, trivial⟩⟩
        | false =>
          repeat' ((conv => whnf); first | with_reducible refine ixS _ rfl hx ?_ | (first | refine stp ?_ | with_reducible refine condB (fun h => ?_) (fun h => ?_)))
          all_goals (first | (exfalso; simp_all [worB]; done) | skip)
          all_goals exact (wInv_bad hI hlt hl (.inr hw)).symm
  · have e1 : decide ((i : Int) < (s.length : Int)) = false := by simpa using hlt
    have hi2 : i = s.length := by omega
    subst hi2
    by_cases h0 : s = []
    · have e2 : (s == []) = true := by simpa using h0
      repeat' ((conv => whnf); first | refine stp ?_ | with_reducible refine condB (fun h => ?_) (fun h => ?_))
      unfold wordR; rw [if_neg (fun h => h.1 h0)]
    · have e2 : (s == []) = false := by simpa using h0
      repeat' ((conv => whnf); first | refine stp ?_ | with_reducible refine condB (fun h => ?_) (fun h => ?_))
      rw [wInv_end hI h0]
end Go.Proofs.YtkkfcfjhhdmamaaGreatDoor.lex
end


section

set_option linter.unusedVariables false
set_option linter.unusedSimpArgs false
namespace Go.Proofs.YtkkfcfjhhdmamaaGreatDoor.lex
open Go.Abs Go.RowKit
set_option maxRecDepth 100000
set_option maxHeartbeats 4000000
variable {gl : Glob}
inductive Ex where
  | mk (op num : Int) (name : List UInt8) (kids : List Ex)
instance : Inhabited Ex := ⟨.mk 0 0 [] []⟩
def Ex.op : Ex → Int
  | .mk o _ _ _ => o
def Ex.num : Ex → Int
  | .mk _ n _ _ => n
def Ex.name : Ex → List UInt8
  | .mk _ _ s _ => s
def Ex.kids : Ex → List Ex
  | .mk _ _ _ k => k
mutual
def Ex.cells : Ex → List AV
  | .mk op num name kids => [.int .i64 op, .int .i64 num, .str name, .rs kids.length 4 (exC kids)]
def exC : List Ex → List AV
  | [] => []
  | e :: l => e.cells ++ exC l
end
def exA (l : List Ex) : AV := .rs l.length 4 (exC l)
mutual
def sizeE : Ex → Nat
  | .mk _ _ _ kids => 1 + sizeL kids
def sizeL : List Ex → Nat
  | [] => 0
  | e :: l => sizeE e + sizeL l
end
mutual
def deepE : Ex → Nat
  | .mk _ _ _ kids => deepL kids + 1
def deepL : List Ex → Nat
  | [] => 0
  | e :: l => max (deepE e) (deepL l)
end
theorem cells_len : ∀ e : Ex, e.cells.length = 4
  | .mk _ _ _ _ => by simp only [Ex.cells]; rfl
theorem exC_len : ∀ l : List Ex, (exC l).length = l.length * 4
  | [] => by simp only [exC]; rfl
  | e :: l => by simp only [exC, List.length_append, cells_len, exC_len l, List.length_cons]; omega
theorem exC_drop (e : Ex) (l : List Ex) (i : Nat) : (exC (e :: l)).drop ((i + 1) * 4) = (exC l).drop (i * 4) := by
  have h : (i + 1) * 4 = 4 + i * 4 := by omega
  rw [h, ← List.drop_drop, exC, List.drop_left' (cells_len e)]
theorem tk_app : ∀ (a b : List AV), tk a.length (a ++ b) = some a
  | [], b => by cases b <;> rfl
  | c :: a, b => by simp only [List.length_cons, List.cons_append, tk, tk_app a b]
theorem exC_at : ∀ (l : List Ex) (i : Nat) (h : i < l.length), (exC l).drop (i * 4) = l[i].cells ++ exC (l.drop (i + 1))
  | e :: l, 0, h => by simp only [Nat.zero_mul, List.drop_zero, exC, List.getElem_cons_zero, List.drop_succ_cons]
  | e :: l, i + 1, h => by rw [exC_drop, exC_at l i (by simpa using h)]; simp only [List.getElem_cons_succ, List.drop_succ_cons]
theorem ex4 (l : List Ex) (i : Nat) (h : i < l.length) : tk 4 ((exC l).drop (i * 4)) = some l[i].cells := by
  rw [exC_at l i h]
  have := tk_app l[i].cells (exC (l.drop (i + 1)))
  rwa [cells_len] at this
mutual
theorem cells_inj : ∀ (a b : Ex), a.cells = b.cells → a = b
  | .mk o n s k, .mk o' n' s' k', h => by
    simp only [Ex.cells] at h
    simp at h
    obtain ⟨rfl, rfl, rfl, hl, hk⟩ := h
    rw [exC_inj k k' hk hl]
theorem exC_inj : ∀ (a b : List Ex), exC a = exC b → a.length = b.length → a = b
  | [], [], _, _ => rfl
  | x :: a, y :: b, h, hl => by
    simp only [exC] at h
    have h' := List.append_inj h (by rw [cells_len, cells_len])
    rw [cells_inj x y h'.1, exC_inj a b h'.2 (by simpa using hl)]
  | [], _ :: _, _, hl => by simp at hl
  | _ :: _, [], _, hl => by simp at hl
end
theorem exA_inj {a b : List Ex} (h : exA a = exA b) : a = b := by
  simp only [exA, AV.rs.injEq, true_and] at h
  exact exC_inj _ _ h.2 h.1
theorem sizeE_pos : ∀ e : Ex, 0 < sizeE e
  | .mk _ _ _ _ => by simp only [sizeE]; omega
theorem sizeL_get : ∀ (l : List Ex) (i : Nat) (h : i < l.length), sizeL l = sizeL (l.take i) + sizeE l[i] + sizeL (l.drop (i + 1))
  | e :: l, 0, h => by simp only [List.take_zero, sizeL, List.getElem_cons_zero, List.drop_succ_cons, List.drop_zero]; omega
  | e :: l, i + 1, h => by
    have := sizeL_get l i (by simpa using h)
    simp only [List.take_succ_cons, sizeL, List.getElem_cons_succ, List.drop_succ_cons]; omega
theorem sizeL_take : ∀ (l : List Ex) (i : Nat) (h : i < l.length), sizeL (l.take (i + 1)) = sizeL (l.take i) + sizeE l[i]
  | e :: l, 0, h => by simp only [List.take_succ_cons, List.take_zero, sizeL, List.getElem_cons_zero]; omega
  | e :: l, i + 1, h => by
    have := sizeL_take l i (by simpa using h)
    simp only [List.take_succ_cons, sizeL, List.getElem_cons_succ] at this ⊢; omega
theorem sizeL_len : ∀ l : List Ex, l.length ≤ sizeL l
  | [] => Nat.zero_le _
  | e :: l => by have := sizeL_len l; have := sizeE_pos e; simp only [sizeL, List.length_cons]; omega
theorem sizeE_kids : ∀ e : Ex, sizeE e = 1 + sizeL e.kids
  | .mk _ _ _ _ => by simp only [sizeE, Ex.kids]
theorem sizeL_mem : ∀ (l : List Ex) (e : Ex), e ∈ l → sizeE e ≤ sizeL l
  | e :: l, f, h => by
    simp only [sizeL]
    rcases List.mem_cons.1 h with rfl | h
    · omega
    · have := sizeL_mem l f h; omega
theorem deepL_take : ∀ (l : List Ex) (i : Nat) (h : i < l.length), deepL (l.take (i + 1)) = max (deepL (l.take i)) (deepE l[i])
  | e :: l, 0, h => by simp only [List.take_succ_cons, List.take_zero, deepL, List.getElem_cons_zero]; omega
  | e :: l, i + 1, h => by
    have := deepL_take l i (by simpa using h)
    simp only [List.take_succ_cons, deepL, List.getElem_cons_succ] at this ⊢; omega
mutual
theorem deepE_size : ∀ e : Ex, deepE e ≤ sizeE e
  | .mk _ _ _ k => by have := deepL_size k; simp only [deepE, sizeE]; omega
theorem deepL_size : ∀ l : List Ex, deepL l ≤ sizeL l
  | [] => Nat.le_refl _
  | e :: l => by have := deepE_size e; have := deepL_size l; simp only [deepL, sizeL]; omega
end
theorem ex_refs (e : Ex) : refsL [.agg e.cells] [] = [] := by
  obtain ⟨o, n, s, k⟩ := e
  simp only [Ex.cells]; rfl
theorem agg_inj {a b : Ex} (h : [AV.agg a.cells] = [AV.agg b.cells]) : a = b := by
  simp only [List.cons.injEq, AV.agg.injEq, and_true] at h
  exact cells_inj _ _ h
def famE {g : Nat} (hb : hasBody Tryz.prog g = true) (r : Ex → AV) (l : List Ex) (each : ∀ k ∈ l, ValOK Tryz.prog gl g [.agg k.cells] (r k)) : Fam Tryz.prog gl where
  I := Ex
  f := g
  G := fun k => k ∈ l
  A := fun k => [.agg k.cells]
  R := r
  body := hb
  inj := fun i j _ _ h => by rw [agg_inj h]
  ok := fun k hk => ⟨ex_refs k, each k hk⟩
theorem get_mem {α : Type} {l : List α} {i : Nat} (h : i < l.length) : l[i] ∈ l := List.getElem_mem h
theorem sizeR_ok : ∀ (n : Nat) (e : Ex), sizeE e ≤ n → sizeE e ≤ 1048576 → ValOK Tryz.prog gl 50 [.agg e.cells] (.int .i64 (sizeE e))
  | 0, e, h, _ => by have := sizeE_pos e; omega
  | n + 1, .mk op num name kids, h, hb => by
    simp only [sizeE] at h hb ⊢
    obtain ⟨O, hO, q, -⟩ := fams (P := Tryz.prog) (gl := gl) [famE (g := 50) (by kernel_rfl) (fun k => .int .i64 (sizeE k)) kids fun k hk => sizeR_ok n k (by have := sizeL_mem _ _ hk; omega) (by have := sizeL_mem _ _ hk; omega)] rfl
    have hlen := sizeL_len kids
    simp only [Ex.cells]
    refine fn_val follows noNum hO Tryz.func50 rfl ?_
    repeat' ((conv => whnf); first | refine stp ?_ | with_reducible refine condB (fun h => ?_) (fun h => ?_))
    conv => whnf
    refine ⟨Nat, (fun i => i ≤ kids.length), (fun i => [(1, .ptr 0 0), (3, .int .i64 (1 + sizeL (kids.take i) : Nat)), (4, .int .i64 i)]), (fun _ => [⟨true, 0, 0, .cells [.int .i64 op, .int .i64 num, .str name, .rs kids.length 4 (exC kids)] 28⟩]), (fun i => kids.length - i), ⟨0, Nat.zero_le _, FgL.mk [0] rfl ?_ ⟨⟨rfl, rfl, rfl, rfl, BodyGe.pre (rest := []) rfl rfl⟩, trivial⟩ rfl⟩, ?_⟩
    · simp only [List.take_zero, sizeL]; (repeat (first | exact trivial | refine stw ?_))
    intro i hi
    dsimp only
    by_cases hlt : i < kids.length
    · have e1 : decide ((i : Int) < (kids.length : Int)) = true := by simpa using hlt
      have hx := ex4 kids i hlt
      have hs := sizeL_take kids i hlt
      have hg := sizeL_get kids i hlt
      have q1 : ∀ H, acall Tryz.prog O H 50 [.agg kids[i].cells] = some (.int .i64 (sizeE kids[i]), H) := q _ (get_mem hlt)
      generalize kids[i] = k at *
      repeat' ((conv => whnf); first | (refine exI hx ?_) | (refine exI (q1 _) ?_) | (with_reducible refine ixJ i rfl ?_ ?_; (focus (omega))) | (first | refine stp ?_ | with_reducible refine condB (fun h => ?_) (fun h => ?_)))
      conv => whnf
      refine ⟨i + 1, hlt, by show kids.length - (i + 1) < kids.length - i; omega, FgL.mk [0] rfl ?_ ⟨⟨rfl, rfl, rfl, rfl, BodyGe.pre (rest := []) rfl rfl⟩, trivial⟩ rfl⟩
      rw [hs, ← Nat.add_assoc]; (repeat (first | exact trivial | refine stw ?_))
    · have e1 : decide ((i : Int) < (kids.length : Int)) = false := by simpa using hlt
      have hi2 : i = kids.length := by have := hi; omega
      subst hi2
      repeat' ((conv => whnf); first | refine stp ?_ | with_reducible refine condB (fun h => ?_) (fun h => ?_))
      simp only [List.take_length]; rfl
theorem deepR_ok : ∀ (n : Nat) (e : Ex), sizeE e ≤ n → sizeE e ≤ 1048576 → ValOK Tryz.prog gl 51 [.agg e.cells] (.int .i64 (deepE e))
  | 0, e, h, _ => by have := sizeE_pos e; omega
  | n + 1, .mk op num name kids, h, hb => by
    simp only [sizeE] at h hb
    simp only [deepE]
    obtain ⟨O, hO, q, -⟩ := fams (P := Tryz.prog) (gl := gl) [famE (g := 51) (by kernel_rfl) (fun k => .int .i64 (deepE k)) kids fun k hk => deepR_ok n k (by have := sizeL_mem _ _ hk; omega) (by have := sizeL_mem _ _ hk; omega)] rfl
    have hlen := sizeL_len kids
    have hds := deepL_size kids
    simp only [Ex.cells]
    refine fn_val follows noNum hO Tryz.func51 rfl ?_
    repeat' ((conv => whnf); first | refine stp ?_ | with_reducible refine condB (fun h => ?_) (fun h => ?_))
    conv => whnf
    refine ⟨Nat, (fun i => i ≤ kids.length), (fun i => [(1, .ptr 0 0), (3, .int .i64 (deepL (kids.take i))), (4, .int .i64 i)]), (fun _ => [⟨true, 0, 0, .cells [.int .i64 op, .int .i64 num, .str name, .rs kids.length 4 (exC kids)] 28⟩]), (fun i => kids.length - i), ⟨0, Nat.zero_le _, FgL.mk [0] rfl ?_ ⟨⟨rfl, rfl, rfl, rfl, BodyGe.pre (rest := []) rfl rfl⟩, trivial⟩ rfl⟩, ?_⟩
    · simp only [List.take_zero, deepL]; (repeat (first | exact trivial | refine stw ?_))
    intro i hi
    dsimp only
    by_cases hlt : i < kids.length
    · have e1 : decide ((i : Int) < (kids.length : Int)) = true := by simpa using hlt
      have hx := ex4 kids i hlt
      have hs := deepL_take kids i hlt
      have q1 : ∀ H, acall Tryz.prog O H 51 [.agg kids[i].cells] = some (.int .i64 (deepE kids[i]), H) := q _ (get_mem hlt)
      generalize kids[i] = k at *
      repeat' ((conv => whnf); first | (refine exI hx ?_) | (refine exI (q1 _) ?_) | (with_reducible refine ixJ i rfl ?_ ?_; (focus (omega))) | (first | refine stp ?_ | with_reducible refine condB (fun h => ?_) (fun h => ?_)))
      conv => whnf
      refine ⟨i + 1, hlt, by show kids.length - (i + 1) < kids.length - i; omega, FgL.mk [0] rfl ?_ ⟨⟨rfl, rfl, rfl, rfl, BodyGe.pre (rest := []) rfl rfl⟩, trivial⟩ rfl⟩
      refine And.intro (Wk.ptr rfl rfl) ?_
      refine And.intro (Wk.int ?_) ?_
      · rw [hs]; split <;> omega
      (repeat (first | exact trivial | refine stw ?_))
    · have e1 : decide ((i : Int) < (kids.length : Int)) = false := by simpa using hlt
      have hi2 : i = kids.length := by have := hi; omega
      subst hi2
      rw [List.take_length]
      repeat' ((conv => whnf); first | refine stp ?_ | with_reducible refine condB (fun h => ?_) (fun h => ?_))
      rfl
end Go.Proofs.YtkkfcfjhhdmamaaGreatDoor.lex
end


section

set_option linter.unusedVariables false
set_option linter.unusedSimpArgs false
namespace Go.Proofs.YtkkfcfjhhdmamaaGreatDoor.lex
open Go.Abs Go.RowKit
set_option maxRecDepth 100000
set_option maxHeartbeats 4000000
variable {gl : Glob}
def wordB (s : List UInt8) : Bool := !s.isEmpty && (wordN s == s.length && !keysL.contains s)
theorem wordR_B (s : List UInt8) : ∃ k w, wordR s = .tuple [.int .i64 k, .bool w] ∧ (w && (k == 1)) = wordB s ∧ (k == 1) = wordB s := by
  unfold wordR wordB
  by_cases h0 : s = []
  · subst h0; exact ⟨0, false, by rw [if_neg (fun h => h.1 rfl)], rfl, rfl⟩
  · by_cases hw : wordN s = s.length
    · rw [if_pos ⟨h0, hw⟩]
      refine ⟨_, _, rfl, ?_⟩
      have : s.isEmpty = false := by cases s with | nil => exact absurd rfl h0 | cons _ _ => rfl
      rw [this, hw]
      cases keysL.contains s <;> simp
    · rw [if_neg (fun h => hw h.2)]
      refine ⟨_, _, rfl, ?_⟩
      have : (wordN s == s.length) = false := by simpa using hw
      rw [this]; simp
theorem wordRef_ok (s : List UInt8) (hs : s.length ≤ 9223372036854775807) : ValOK Tryz.prog gl 39 [.str s] (.bool (wordB s)) := by
  obtain ⟨k, w, h1, h2, h3⟩ := wordR_B s
  have hO := orcF_sound (P := Tryz.prog) (gl := gl) (l := [(75, [.str s], wordR s)]) ⟨rfl, wordD_ok s hs, trivial⟩
  have q : ∀ H, acall Tryz.prog (orcF [(75, [.str s], wordR s)]) H 75 [.str s] = some (wordR s, H) := fun H => callF (by kernel_rfl) findF_here
  rw [h1] at q hO
  rw [← h2]
  refine fn_val follows noNum hO Tryz.func39 rfl ?_
  repeat' ((conv => whnf); first | (refine exI (q _) ?_) | (first | refine stp ?_ | with_reducible refine condB (fun h => ?_) (fun h => ?_)))
  all_goals (try (simp_all [resOf]; done))
theorem isWord_ok (s : List UInt8) (hs : s.length ≤ 9223372036854775807) (m : Bool) : ValOK Tryz.prog gl 66 [.str s, .bool m] (.bool (if m then wordB s else s == [])) := by
  obtain ⟨k, w, h1, h2, h3⟩ := wordR_B s
  have hO := orcF_sound (P := Tryz.prog) (gl := gl) (l := [(96, [.str s], wordR s)]) ⟨rfl, wordP_ok s hs, trivial⟩
  have q : ∀ H, acall Tryz.prog (orcF [(96, [.str s], wordR s)]) H 96 [.str s] = some (wordR s, H) := fun H => callF (by kernel_rfl) findF_here
  rw [h1] at q hO
  rw [← h3]
  cases m with
  | true =>
    refine fn_val follows noNum hO Tryz.func66 rfl ?_
    repeat' ((conv => whnf); first | (refine exI (q _) ?_) | (first | refine stp ?_ | with_reducible refine condB (fun h => ?_) (fun h => ?_)))
    all_goals rfl
  | false =>
    refine fn_val follows noNum hO Tryz.func66 rfl ?_
    repeat' ((conv => whnf); first | (refine exI (q _) ?_) | (first | refine stp ?_ | with_reducible refine condB (fun h => ?_) (fun h => ?_)))
    all_goals rfl
end Go.Proofs.YtkkfcfjhhdmamaaGreatDoor.lex
end


section

set_option linter.unusedVariables false
set_option linter.unusedSimpArgs false
namespace Go.Proofs.YtkkfcfjhhdmamaaGreatDoor.lex
open Go.Abs Go.RowKit
set_option maxRecDepth 100000
set_option maxHeartbeats 4000000
variable {gl : Glob}
def okN (s : List UInt8) (n : Nat) : Prop := s.length ≤ 9223372036854775807 ∧ n ≤ 9223372036854775807
mutual
def okE : Ex → Prop
  | .mk _ _ s k => okN s k.length ∧ okL k
def okL : List Ex → Prop
  | [] => True
  | e :: l => okE e ∧ okL l
end
theorem okL_get : ∀ {l : List Ex}, okL l → ∀ e ∈ l, okE e
  | x :: l, h, e, he => by
    simp only [okL] at h
    rcases List.mem_cons.1 he with rfl | he
    · exact h.1
    · exact okL_get h.2 e he
theorem okE_kids : ∀ {e : Ex}, okE e → okN e.name e.kids.length ∧ okL e.kids
  | .mk _ _ s k, h => by simp only [okE] at h; exact h
def kidsI (op : Int) : Int := if op = 1 ∨ op = 2 then 0 else if op = 3 ∨ op = 4 then 1 else if 5 ≤ op ∧ op ≤ 16 then 2 else -1
theorem kids_ok (op : Int) : ValOK Tryz.prog gl 84 [.int .i64 op] (.int .i64 (kidsI op)) := by
  refine fn_val follows noNum none_sound Tryz.func84 rfl ?_
  repeat' ((conv => whnf); first | refine stp ?_ | with_reducible refine condB (fun h => ?_) (fun h => ?_))
  all_goals (show AV.int _ _ = AV.int _ _; congr 1; unfold kidsI; simp only [beq_iff_eq, decide_eq_true_eq, beq_eq_false_iff_ne, decide_eq_false_iff_not, ge_iff_le, Int.not_le] at *)
  all_goals (repeat' split)
  all_goals omega
mutual
def heftE : Ex → Int → Int
  | .mk _ _ s k, l => heftL k (l - 1 - (s.length / 20 : Nat))
def heftL : List Ex → Int → Int
  | [], l => l
  | e :: k, l => if 0 ≤ l then heftL k (heftE e l) else l
end
mutual
theorem heftE_size : ∀ (e : Ex) (l : Int), 0 ≤ heftE e l → (sizeE e : Int) + heftE e l ≤ l
  | .mk _ _ s k, l, h => by
    simp only [heftE, sizeE] at *
    have := heftL_size k _ h; omega
theorem heftL_size : ∀ (k : List Ex) (l : Int), 0 ≤ heftL k l → (sizeL k : Int) + heftL k l ≤ l
  | [], l, h => by simp only [heftL, sizeL] at *; omega
  | e :: k, l, h => by
    simp only [heftL, sizeL] at *
    split at h
    · rename_i hl
      rw [if_pos hl]
      have h1 := heftL_size k _ h
      have h2 : 0 ≤ heftE e l := by omega
      have h3 := heftE_size e l h2
      omega
    · omega
end
mutual
theorem heftE_le : ∀ (e : Ex) (l : Int), heftE e l ≤ l
  | .mk _ _ s k, l => by simp only [heftE]; have := heftL_le k (l - 1 - (s.length / 20 : Nat)); omega
theorem heftL_le : ∀ (k : List Ex) (l : Int), heftL k l ≤ l
  | [], l => by simp only [heftL]; omega
  | e :: k, l => by
    simp only [heftL]
    split
    · have := heftL_le k (heftE e l); have := heftE_le e l; omega
    · omega
end
mutual
theorem heftE_ge : ∀ (e : Ex) (l : Int), okE e → 0 ≤ l → -9000000000000000000 ≤ heftE e l
  | .mk _ _ s k, l, h, h2 => by
    simp only [okE, okN] at h; simp only [heftE]
    exact heftL_ge k _ h.2 (by omega)
theorem heftL_ge : ∀ (k : List Ex) (l : Int), okL k → -9000000000000000000 ≤ l → -9000000000000000000 ≤ heftL k l
  | [], l, h, h2 => by simp only [heftL]; exact h2
  | e :: k, l, h, h2 => by
    simp only [okL] at h
    simp only [heftL]
    split
    · exact heftL_ge k _ h.2 (heftE_ge e l h.1 (by assumption))
    · exact h2
end
theorem heftL_at : ∀ (k : List Ex) (l : Int) (i : Nat) (h : i < k.length), heftL (k.take (i + 1)) l = if 0 ≤ heftL (k.take i) l then heftE k[i] (heftL (k.take i) l) else heftL (k.take i) l
  | e :: k, l, 0, h => by simp only [List.take_succ_cons, List.take_zero, heftL, List.getElem_cons_zero]
  | e :: k, l, i + 1, h => by
    have ih := fun l => heftL_at k l i (by simpa using h)
    simp only [List.take_succ_cons, heftL, List.getElem_cons_succ] at ih ⊢
    split
    · exact ih _
    · rename_i h2; simp [h2]
theorem heftL_stop : ∀ (k : List Ex) (l : Int) (i : Nat), heftL (k.take i) l < 0 → heftL k l = heftL (k.take i) l
  | [], l, i, h => by simp [heftL]
  | e :: k, l, 0, h => by
    simp only [List.take_zero, heftL] at *
    rw [if_neg (by omega)]
  | e :: k, l, i + 1, h => by
    simp only [List.take_succ_cons, heftL] at *
    split
    · rename_i hl
      rw [if_pos hl] at h
      exact heftL_stop k _ i h
    · rfl
theorem heft_ok : ∀ (n : Nat) (e : Ex) (l : Int), sizeE e ≤ n → okE e → 0 ≤ l → l ≤ 1048576 → ValOK Tryz.prog gl 31 [.agg e.cells, .int .i64 l] (.int .i64 (heftE e l))
  | 0, e, l, h, _, _, _ => by have := sizeE_pos e; omega
  | n + 1, .mk op num name kids, l, h, hok, hl0, hl1 => by
    simp only [sizeE] at h
    obtain ⟨⟨hn1, hn2⟩, hok2⟩ := okE_kids hok
    simp only [Ex.name, Ex.kids] at hn1 hn2 hok2
    obtain ⟨O, hO, q, -⟩ := fams (P := Tryz.prog) (gl := gl) [{ I := Ex × Int, f := 31, G := fun p => p.1 ∈ kids ∧ 0 ≤ p.2 ∧ p.2 ≤ 1048576, A := fun p => [.agg p.1.cells, .int .i64 p.2], R := fun p => .int .i64 (heftE p.1 p.2), body := (by kernel_rfl), inj := (fun i j _ _ h => by simp only [List.cons.injEq, AV.agg.injEq, AV.int.injEq, and_true, true_and] at h; rw [cells_inj _ _ h.1, h.2]), ok := (fun p hp => ⟨by have := ex_refs p.1; simpa [refsL, refs] using this, heft_ok n p.1 p.2 (by have := sizeL_mem _ _ hp.1; omega) (okL_get hok2 _ hp.1) hp.2.1 hp.2.2⟩) }] rfl
    have q20 : Int.tdiv (name.length : Int) 20 = ((name.length / 20 : Nat) : Int) := rfl
    have w1 : IntKind.i64.wrap (l - 1) = l - 1 := wrapB (by omega) (by omega)
    have w2 : IntKind.i64.wrap (Int.tdiv (name.length : Int) 20) = ((name.length / 20 : Nat) : Int) := by rw [q20]; exact wrapB (by omega) (by omega)
    have w3 : IntKind.i64.wrap (l - 1 - ((name.length / 20 : Nat) : Int)) = l - 1 - ((name.length / 20 : Nat) : Int) := wrapB (by omega) (by omega)
    simp only [Ex.cells, heftE]
    refine fn_val follows noNum hO Tryz.func31 rfl ?_
    repeat' ((conv => whnf); first | (with_reducible refine exW w1 ?_) | (refine And.intro (show (20 : Int) ≠ 0 by decide) ?_) | (rw [w2]) | (with_reducible refine exW w3 ?_) | (first | refine stp ?_ | with_reducible refine condB (fun h => ?_) (fun h => ?_)))
    conv => whnf
    generalize hl00 : l - 1 - ((name.length / 20 : Nat) : Int) = l0 at *
    refine ⟨Nat, (fun i => i ≤ kids.length), (fun i => [(1, .int .i64 (heftL (kids.take i) l0)), (2, .ptr 0 0), (5, .int .i64 i)]), (fun _ => [⟨true, 0, 0, .cells [.int .i64 op, .int .i64 num, .str name, .rs kids.length 4 (exC kids)] 28⟩]), (fun i => kids.length - i), ⟨0, Nat.zero_le _, FgL.mk [0] rfl ?_ ⟨⟨rfl, rfl, rfl, rfl, BodyGe.pre (rest := []) rfl rfl⟩, trivial⟩ rfl⟩, ?_⟩
    · simp only [List.take_zero, heftL]; (repeat (first | exact trivial | refine stw ?_))
    intro i hi
    dsimp only
    have hle := heftL_le (kids.take i) l0
    by_cases hlt : i < kids.length
    · have e1 : decide ((i : Int) < (kids.length : Int)) = true := by simpa using hlt
      by_cases hpos : 0 ≤ heftL (kids.take i) l0
      · have e2 : decide (heftL (kids.take i) l0 ≥ 0) = true := by simpa using hpos
        have hx := ex4 kids i hlt
        have hs := heftL_at kids l0 i hlt
        rw [if_pos hpos] at hs
        have hc' : ∀ H, acall Tryz.prog O H 31 [.agg kids[i].cells, .int .i64 (heftL (kids.take i) l0)] = some (.int .i64 (heftE kids[i] (heftL (kids.take i) l0)), H) := q (kids[i], _) ⟨get_mem hlt, hpos, by show heftL (kids.take i) l0 ≤ 1048576; omega⟩
        generalize kids[i] = k at *
        repeat' ((conv => whnf); first | (refine exI hx ?_) | (refine exI (hc' _) ?_) | (with_reducible refine ixJ i rfl ?_ ?_; (focus (omega))) | (first | refine stp ?_ | with_reducible refine condB (fun h => ?_) (fun h => ?_)))
        conv => whnf
        refine ⟨i + 1, hlt, by show kids.length - (i + 1) < kids.length - i; omega, FgL.mk [0] rfl ?_ ⟨⟨rfl, rfl, rfl, rfl, BodyGe.pre (rest := []) rfl rfl⟩, trivial⟩ rfl⟩
        rw [hs]; (repeat (first | exact trivial | refine stw ?_))
      · have e2 : decide (heftL (kids.take i) l0 ≥ 0) = false := by simpa using hpos
        have hst := heftL_stop kids l0 i (by omega)
        rw [hst]
        repeat' ((conv => whnf); first | refine stp ?_ | with_reducible refine condB (fun h => ?_) (fun h => ?_))
        rfl
    · have e1 : decide ((i : Int) < (kids.length : Int)) = false := by simpa using hlt
      have hi2 : i = kids.length := by have := hi; omega
      subst hi2
      rw [List.take_length]
      repeat' ((conv => whnf); first | refine stp ?_ | with_reducible refine condB (fun h => ?_) (fun h => ?_))
      rfl
theorem light_ok (e : Ex) (l : Int) (hok : okE e) (hl0 : 0 ≤ l) (hl1 : l ≤ 1048576) : ValOK Tryz.prog gl 8 [.agg e.cells, .int .i64 l] (.bool (decide (0 ≤ heftE e l))) := by
  have hO := orcF_sound (P := Tryz.prog) (gl := gl) (l := [(31, [.agg e.cells, .int .i64 l], .int .i64 (heftE e l))]) ⟨by have := ex_refs e; simpa [refsL, refs] using this, heft_ok _ e l (Nat.le_refl _) hok hl0 hl1, trivial⟩
  have q : ∀ H, acall Tryz.prog (orcF [(31, [.agg e.cells, .int .i64 l], .int .i64 (heftE e l))]) H 31 [.agg e.cells, .int .i64 l] = some (.int .i64 (heftE e l), H) := fun H => callF (by kernel_rfl) findF_here
  obtain ⟨op, num, name, kids⟩ := e
  simp only [Ex.cells] at *
  refine fn_val follows noNum hO Tryz.func8 rfl ?_
  repeat' ((conv => whnf); first | (refine exI (q _) ?_) | (first | refine stp ?_ | with_reducible refine condB (fun h => ?_) (fun h => ?_)))
  all_goals rfl
def ownF (op num : Int) (name : List UInt8) (n : Nat) : Bool := kidsI op == (n : Int) && ((op == 2) == wordB name && ((op == 2 || name == []) && (decide (0 ≤ num) && (op == 1 || num == 0))))
def ownE (e : Ex) : Bool := ownF e.op e.num e.name e.kids.length
mutual
def rightE : Ex → Bool
  | .mk o n s k => ownF o n s k.length && rightL k
def rightL : List Ex → Bool
  | [] => true
  | e :: l => rightE e && rightL l
end
theorem rightL_get : ∀ {l : List Ex} {i : Nat} (h : i < l.length), rightE l[i] = false → rightL l = false
  | e :: l, 0, h, h2 => by simp only [List.getElem_cons_zero] at h2; simp only [rightL, h2, Bool.false_and]
  | e :: l, i + 1, h, h2 => by simp only [List.getElem_cons_succ] at h2; simp only [rightL, rightL_get (l := l) (by simpa using h) h2, Bool.and_false]
theorem rightL_take : ∀ (l : List Ex) (i : Nat) (h : i < l.length), rightL (l.take (i + 1)) = (rightL (l.take i) && rightE l[i])
  | e :: l, 0, h => by simp only [List.take_succ_cons, List.take_zero, rightL, List.getElem_cons_zero, Bool.and_true, Bool.true_and]
  | e :: l, i + 1, h => by
    have := rightL_take l i (by simpa using h)
    simp only [List.take_succ_cons, rightL, List.getElem_cons_succ] at this ⊢; rw [this, Bool.and_assoc]
theorem right_ok : ∀ (n : Nat) (e : Ex), sizeE e ≤ n → okE e → ValOK Tryz.prog gl 52 [.agg e.cells] (.bool (rightE e))
  | 0, e, h, _ => by have := sizeE_pos e; omega
  | n + 1, .mk op num name kids, h, hok => by
    simp only [sizeE] at h
    obtain ⟨⟨hn1, hn2⟩, hok2⟩ := okE_kids hok
    simp only [Ex.name, Ex.kids] at hn1 hn2 hok2
    obtain ⟨O, hO, p1, p2, p3, -⟩ := fams (P := Tryz.prog) (gl := gl) [{ I := Unit, f := 84, G := fun _ => True, A := fun _ => [.int .i64 op], R := fun _ => .int .i64 (kidsI op), body := by kernel_rfl, inj := fun _ _ _ _ _ => rfl, ok := fun _ _ => ⟨rfl, kids_ok _⟩ },
      { I := Unit, f := 39, G := fun _ => True, A := fun _ => [.str name], R := fun _ => .bool (wordB name), body := by kernel_rfl, inj := fun _ _ _ _ _ => rfl, ok := fun _ _ => ⟨rfl, wordRef_ok _ hn1⟩ },
      famE (g := 52) (by kernel_rfl) (fun k => .bool (rightE k)) kids fun k hk => right_ok n k (by have := sizeL_mem _ _ hk; omega) (okL_get hok2 _ hk)] rfl
    have q1 : ∀ H, acall Tryz.prog O H 84 [.int .i64 op] = some (.int .i64 (kidsI op), H) := p1 () trivial
    have q2 : ∀ H, acall Tryz.prog O H 39 [.str name] = some (.bool (wordB name), H) := p2 () trivial
    have q3 : ∀ i (h : i < kids.length) H, acall Tryz.prog O H 52 [.agg kids[i].cells] = some (.bool (rightE kids[i]), H) := fun i h => p3 _ (get_mem h)
    clear p1 p2 p3
    simp only [Ex.cells]
    refine fn_val follows noNum hO Tryz.func52 rfl ?_
    have hop : (op == 2) = true ∨ (op == 2) = false := by cases (op == 2) <;> simp
    obtain ⟨w, hw⟩ : ∃ w, wordB name = w := ⟨_, rfl⟩
    rw [hw] at q2
    cases w <;> rcases hop with hop | hop
    all_goals (repeat' ((conv => whnf); first | (refine exI (q1 _) ?_) | (refine exI (q2 _) ?_) | (first | refine stp ?_ | with_reducible refine condB (fun h => ?_) (fun h => ?_))))
    all_goals (first | (clear q1 q2 q3 hO; simp only [rightE]; (first | (simp_all [resOf, ownF]; done) | (simp_all [resOf, ownF]; intros; omega))) | skip)
    all_goals (have hown : ownF op num name kids.length = true := by (clear q1 q2 q3 hO; simp_all [ownF]))
    all_goals (conv => whnf)
    all_goals refine ⟨Nat, (fun i => i ≤ kids.length ∧ rightL (kids.take i) = true), (fun i => [(1, .ptr 0 0), (3, .int .i64 i)]), (fun _ => [⟨true, 0, 0, .cells [.int .i64 op, .int .i64 num, .str name, .rs kids.length 4 (exC kids)] 28⟩]), (fun i => kids.length - i), ⟨0, ⟨Nat.zero_le _, rfl⟩, FgL.mk [0] rfl ?_ ⟨⟨rfl, rfl, rfl, rfl, BodyGe.pre (rest := []) rfl rfl⟩, trivial⟩ rfl⟩, ?_⟩
    all_goals first | ((repeat (first | exact trivial | refine stw ?_)); done) | skip
    all_goals (
      rintro i ⟨hi, hall⟩
      dsimp only
      by_cases hlt : i < kids.length
      · have e1 : decide ((i : Int) < (kids.length : Int)) = true := by simpa using hlt
        have hx := ex4 kids i hlt
        have q3' := q3 i hlt
        have ht := rightL_take kids i hlt
        rw [hall, Bool.true_and] at ht
        cases hr : rightE kids[i] with
        | true =>
          rw [hr] at q3' ht
          generalize kids[i] = k at *
          repeat' ((conv => whnf); first | (refine exI hx ?_) | (refine exI (q3' _) ?_) | (with_reducible refine ixJ i rfl ?_ ?_; (focus (omega))) | (first | refine stp ?_ | with_reducible refine condB (fun h => ?_) (fun h => ?_)))
          conv => whnf
          refine ⟨i + 1, ⟨hlt, ht⟩, by show kids.length - (i + 1) < kids.length - i; omega, FgL.mk [0] rfl ?_ ⟨⟨rfl, rfl, rfl, rfl, BodyGe.pre (rest := []) rfl rfl⟩, trivial⟩ rfl⟩
          (repeat (first | exact trivial | refine stw ?_))
        | false =>
          have hf := rightL_get hlt hr
          rw [hr] at q3'
          generalize kids[i] = k at *
          repeat' ((conv => whnf); first | (refine exI hx ?_) | (refine exI (q3' _) ?_) | (with_reducible refine ixJ i rfl ?_ ?_; (focus (omega))) | (first | refine stp ?_ | with_reducible refine condB (fun h => ?_) (fun h => ?_)))
          simp only [rightE, hf, Bool.and_false]; rfl
      · have e1 : decide ((i : Int) < (kids.length : Int)) = false := by simpa using hlt
        have hi2 : i = kids.length := by have := hi; omega
        subst hi2
        rw [List.take_length] at hall
        repeat' ((conv => whnf); (first | refine stp ?_ | with_reducible refine condB (fun h => ?_) (fun h => ?_)))
        simp only [rightE, hall, hown, Bool.and_true]; rfl)
def checkE (e : Ex) : Int := if 2000 < sizeE e ∨ 32 < deepE e then 3 else if rightE e then 0 else 2
theorem checkER_ok (e : Ex) (hok : okE e) (hs : sizeE e ≤ 1048576) : ValOK Tryz.prog gl 14 [.agg e.cells] (.int .i64 (checkE e)) := by
  have hd := deepE_size e
  obtain ⟨O, hO, p1, p2, p3, -⟩ := fams (P := Tryz.prog) (gl := gl) [famE (g := 50) (by kernel_rfl) (fun k => .int .i64 (sizeE k)) [e] fun k hk => by rw [List.mem_singleton.1 hk]; exact sizeR_ok _ e (Nat.le_refl _) hs,
    famE (g := 51) (by kernel_rfl) (fun k => .int .i64 (deepE k)) [e] fun k hk => by rw [List.mem_singleton.1 hk]; exact deepR_ok _ e (Nat.le_refl _) hs,
    famE (g := 52) (by kernel_rfl) (fun k => .bool (rightE k)) [e] fun k hk => by rw [List.mem_singleton.1 hk]; exact right_ok _ e (Nat.le_refl _) hok] rfl
  have q1 : ∀ H, acall Tryz.prog O H 50 [.agg e.cells] = some (.int .i64 (sizeE e), H) := p1 e (by show e ∈ [e]; simp)
  have q2 : ∀ H, acall Tryz.prog O H 51 [.agg e.cells] = some (.int .i64 (deepE e), H) := p2 e (by show e ∈ [e]; simp)
  have q3 : ∀ H, acall Tryz.prog O H 52 [.agg e.cells] = some (.bool (rightE e), H) := p3 e (by show e ∈ [e]; simp)
  clear p1 p2 p3
  unfold checkE
  generalize sizeE e = n at *
  generalize deepE e = d at *
  generalize rightE e = r at *
  obtain ⟨op, num, name, kids⟩ := e
  simp only [Ex.cells] at *
  refine fn_val follows noNum hO Tryz.func14 rfl ?_
  repeat' ((conv => whnf); first | (refine exI (q1 _) ?_) | (refine exI (q2 _) ?_) | (refine exI (q3 _) ?_) | (first | refine stp ?_ | with_reducible refine condB (fun h => ?_) (fun h => ?_)))
  all_goals (show AV.int _ _ = AV.int _ _; congr 1; clear q1 q2 q3 hO; simp only [decide_eq_true_eq, decide_eq_false_iff_not, Bool.not_eq_true', Bool.not_eq_false'] at *)
  all_goals (repeat' split)
  all_goals (first | rfl | omega | (simp_all; done) | (exfalso; simp_all; omega))
end Go.Proofs.YtkkfcfjhhdmamaaGreatDoor.lex
end


section

set_option linter.unusedVariables false
set_option linter.unusedSimpArgs false
namespace Go.Proofs.YtkkfcfjhhdmamaaGreatDoor.lex
open Go.Abs Go.RowKit
set_option maxRecDepth 100000
set_option maxHeartbeats 4000000
theorem FgLK.same {k : Nat} {t0 tm : Tr} {H : AHeap} {l : List (Nat × AV)} (h1 : subT t0 tm = true) (hs : SlotsGe (List.range k) tm l) (hH : HpGe H (List.range k) (List.range k) H 0 ∧ nodupN ((List.range k).map (famOf H)) = true ∧ pref k 0 (List.range k) = true) : FgLK k t0 tm H l H := by
  unfold FgLK
  rw [h1]
  exact ⟨List.range k, hH.2.2, hs, hH.1, hH.2.1⟩
structure TvE (gl : Glob) where
  σ : Type
  Mem : σ → AHeap
  k : Nat
  len : ∀ s, (Mem s).length = k
  same : ∀ s, HpGe (Mem s) (List.range k) (List.range k) (Mem s) 0 ∧ nodupN ((List.range k).map (famOf (Mem s))) = true ∧ pref k 0 (List.range k) = true
  evo : ∀ s s', evoB k (Mem s) (Mem s') = true
  inj : ∀ s s', Mem s = Mem s' → s = s'
  I : Int → σ → Nat → Prop
  up : ∀ d s m, 0 ≤ d → I (d + 1) s m → I d s m
  less : ∀ d s m, I d s (m + 1) → I d s m
  bnd : ∀ d s m, I d s m → 0 ≤ d ∧ d ≤ 1152921504606846976
  gE : Nat
  cE : List AV
  hE : Ex → Int → σ → Bool × σ
  bodyE : hasBody Tryz.prog gE = true
  wkE : WkL (List.range k) cE cE
  okE : ∀ e rest d s m, okE e → I d s (m + 1) → MemOK Tryz.prog gl gE ([.rp (e.cells ++ rest), .int .i64 d] ++ cE) (Mem s) (.bool (hE e d s).1) (Mem (hE e d s).2)
  downE : ∀ e d s m, I d s (m + 1) → (hE e d s).1 = true → I (d + 1) (hE e d s).2 m
section
variable {σ : Type}
mutual
def goE (h : Ex → Int → σ → Bool × σ) : Ex → Int → σ → Bool × σ
  | .mk o n s k, d, t => if (h (.mk o n s k) d t).1 = true then goL h k (d + 1) (h (.mk o n s k) d t).2 else (false, (h (.mk o n s k) d t).2)
def goL (h : Ex → Int → σ → Bool × σ) : List Ex → Int → σ → Bool × σ
  | [], d, t => (true, t)
  | e :: l, d, t => if (goE h e d t).1 = true then goL h l d (goE h e d t).2 else (false, (goE h e d t).2)
end
variable {h : Ex → Int → σ → Bool × σ}
theorem goE_eq (e : Ex) (d : Int) (t : σ) : goE h e d t = if (h e d t).1 = true then goL h e.kids (d + 1) (h e d t).2 else (false, (h e d t).2) := by
  obtain ⟨o, n, s, k⟩ := e
  simp only [goE, Ex.kids]
theorem goL_at : ∀ (l : List Ex) (d : Int) (t : σ) (i : Nat) (hi : i < l.length), (goL h (l.take i) d t).1 = true → goL h (l.take (i + 1)) d t = goE h l[i] d (goL h (l.take i) d t).2
  | e :: l, d, t, 0, _, _ => by
    simp only [List.take_zero, List.take_succ_cons, goL, List.getElem_cons_zero]
    split
    · rename_i h2; rw [← h2]
    · rename_i h2; rw [← Bool.eq_false_iff.2 h2]
  | e :: l, d, t, i + 1, hi, ht => by
    simp only [List.take_succ_cons, goL, List.getElem_cons_succ] at ht ⊢
    split
    · rename_i h2
      rw [if_pos h2] at ht
      exact goL_at l d _ i (by simpa using hi) ht
    · rename_i h2; rw [if_neg h2] at ht; cases ht
theorem goL_stop : ∀ (l : List Ex) (d : Int) (t : σ) (i : Nat), (goL h (l.take i) d t).1 = false → goL h l d t = goL h (l.take i) d t
  | [], d, t, i, hf => by simp
  | e :: l, d, t, 0, hf => by simp only [List.take_zero, goL] at hf; cases hf
  | e :: l, d, t, i + 1, hf => by
    simp only [List.take_succ_cons, goL] at hf ⊢
    split
    · rename_i h2
      rw [if_pos h2] at hf
      exact goL_stop l d _ i hf
    · rfl
end
section
variable {gl : Glob} (V : TvE gl)
def TvE.F : AV := .func (.func V.gE) [] V.cE
mutual
theorem TvE.keepE : ∀ (e : Ex) (d : Int) (s : V.σ) (m : Nat), V.I d s (sizeE e + m) → (goE V.hE e d s).1 = true → V.I d (goE V.hE e d s).2 m
  | .mk o n t k, d, s, m, hI, ht => by
    simp only [goE, sizeE] at hI ht ⊢
    split
    · rename_i h2
      rw [if_pos h2] at ht
      have h3 := V.downE _ d s (sizeL k + m) (by rw [show 1 + sizeL k + m = sizeL k + m + 1 from by omega] at hI; exact hI) h2
      exact V.up _ _ _ (V.bnd _ _ _ hI).1 (TvE.keepL k (d + 1) _ m h3 ht)
    · rename_i h2; rw [if_neg h2] at ht; cases ht
theorem TvE.keepL : ∀ (l : List Ex) (d : Int) (s : V.σ) (m : Nat), V.I d s (sizeL l + m) → (goL V.hE l d s).1 = true → V.I d (goL V.hE l d s).2 m
  | [], d, s, m, hI, ht => by simp only [goL, sizeL, Nat.zero_add] at hI ⊢; exact hI
  | e :: l, d, s, m, hI, ht => by
    simp only [goL, sizeL] at hI ht ⊢
    split
    · rename_i h2
      rw [if_pos h2] at ht
      exact TvE.keepL l d _ m (TvE.keepE e d s (sizeL l + m) (by rw [← Nat.add_assoc]; exact hI) h2) ht
    · rename_i h2; rw [if_neg h2] at ht; cases ht
end
theorem kid_cell (e : Ex) (rest : List AV) : tk 1 ((e.cells ++ rest).drop 3) = some [exA e.kids] := by
  obtain ⟨o, n, s, k⟩ := e
  simp only [Ex.cells, exA, Ex.kids]; rfl
theorem TvE.fin (s t : V.σ) (b : Bool) : List.take V.k (V.Mem t) = V.Mem t ∧ (allLt V.k (refs (AV.bool b) []) && evoB V.k (V.Mem s) (V.Mem t)) = true :=
  ⟨List.take_of_length_le (by rw [V.len]; exact Nat.le_refl _), by rw [V.evo]; rfl⟩
theorem TvE.exprs (hf : Tryz.prog.follows .mixedOrders = true) : ∀ (n : Nat) (l : List Ex) (d : Int) (s : V.σ) (m : Nat), sizeL l ≤ n → okL l → l.length ≤ 9223372036854775807 → V.I d s (sizeL l + m) →
    MemOK Tryz.prog gl 81 [exA l, .int .i64 d, V.F] (V.Mem s) (.bool (goL V.hE l d s).1) (V.Mem (goL V.hE l d s).2)
  | n, l, d, s, m, hn, hok, hl, hI => by
    have hF : ∃ O, OrcSound Tryz.prog gl O ∧ (∀ (i : Nat) (hi : i < l.length) (t : V.σ) (q : Nat), n ≠ 0 → V.I (d + 1) t (sizeL l[i].kids + q) → acall Tryz.prog O (V.Mem t) 81 [exA l[i].kids, .int .i64 (d + 1), V.F] = some (.bool (goL V.hE l[i].kids (d + 1) t).1, V.Mem (goL V.hE l[i].kids (d + 1) t).2)) ∧
        (∀ (i : Nat) (hi : i < l.length) (t : V.σ) (q : Nat), V.I d t (q + 1) → acall Tryz.prog O (V.Mem t) V.gE ([.rp ((exC l).drop (i * 4)), .int .i64 d] ++ V.cE) = some (.bool (V.hE l[i] d t).1, V.Mem (V.hE l[i] d t).2)) := by
      have s1 := orcI_sound (P := Tryz.prog) (gl := gl) (I := Nat × V.σ × Nat) (G := fun p => ∃ hp : p.1 < l.length, n ≠ 0 ∧ V.I (d + 1) p.2.1 (sizeL l[p.1].kids + p.2.2)) (fF := fun _ => 81) (fA := fun p => [exA (l.getD p.1 default).kids, .int .i64 (d + 1), V.F]) (fH := fun p => V.Mem p.2.1) (fR := fun p => .bool (goL V.hE (l.getD p.1 default).kids (d + 1) p.2.1).1) (fO := fun p => V.Mem (goL V.hE (l.getD p.1 default).kids (d + 1) p.2.1).2) fun p hp => by
        obtain ⟨hp, h0, h1⟩ := hp
        have hg : l.getD p.1 default = l[p.1] := by simp [List.getD_eq_getElem?_getD, hp]
        rw [hg]
        have hke := okL_get hok _ (get_mem hp)
        have hsz := sizeL_mem _ _ (get_mem hp)
        have hsk := sizeE_kids l[p.1]
        match n, hn, h0 with
        | n + 1, hn, _ => exact TvE.exprs hf n _ (d + 1) p.2.1 p.2.2 (by omega) (okE_kids hke).2 (okE_kids hke).1.2 h1
      have s2 := orcI_sound (P := Tryz.prog) (gl := gl) (I := Nat × V.σ × Nat) (G := fun p => p.1 < l.length ∧ V.I d p.2.1 (p.2.2 + 1)) (fF := fun _ => V.gE) (fA := fun p => [.rp ((exC l).drop (p.1 * 4)), .int .i64 d] ++ V.cE) (fH := fun p => V.Mem p.2.1) (fR := fun p => .bool (V.hE (l.getD p.1 default) d p.2.1).1) (fO := fun p => V.Mem (V.hE (l.getD p.1 default) d p.2.1).2) fun p hp => by
        obtain ⟨hp, h1⟩ := hp
        have hg : l.getD p.1 default = l[p.1] := by simp [List.getD_eq_getElem?_getD, hp]
        have hke := okL_get hok _ (get_mem hp)
        simp only [hg]
        rw [exC_at l p.1 hp]
        exact V.okE _ _ _ _ _ hke h1
      refine ⟨_, orcOr_sound s1 s2, fun i hi t q h0 h1 => ?_, fun i hi t q h1 => ?_⟩
      · have hg : l.getD i default = l[i] := by simp [List.getD_eq_getElem?_getD, hi]
        have := callI (P := Tryz.prog) (I := Nat × V.σ × Nat) (G := fun p => ∃ hp : p.1 < l.length, n ≠ 0 ∧ V.I (d + 1) p.2.1 (sizeL l[p.1].kids + p.2.2)) (fF := fun _ => 81) (fA := fun p => [exA (l.getD p.1 default).kids, .int .i64 (d + 1), V.F]) (fH := fun p => V.Mem p.2.1) (fR := fun p => .bool (goL V.hE (l.getD p.1 default).kids (d + 1) p.2.1).1) (fO := fun p => V.Mem (goL V.hE (l.getD p.1 default).kids (d + 1) p.2.1).2)
          (fun p q _ _ _ ha hh => by
            have e2 := V.inj _ _ hh
            simp only [List.cons.injEq, and_true, true_and] at ha
            rw [exA_inj ha, e2]; exact ⟨rfl, rfl⟩) (g := 81) (args := [exA l[i].kids, .int .i64 (d + 1), V.F]) (H := V.Mem t) (by kernel_rfl) (i, t, q) ⟨hi, h0, h1⟩ rfl (by rw [hg]) rfl
        simp only [hg] at this
        exact callOr1 (by kernel_rfl) this
      · have hg : l.getD i default = l[i] := by simp [List.getD_eq_getElem?_getD, hi]
        refine callOr2 V.bodyE (orcI_none fun p _ _ ha => ?_) ?_
        · have := congrArg (fun a => a.head?) ha
          simp [exA] at this
        · have := callI (P := Tryz.prog) (I := Nat × V.σ × Nat) (G := fun p => p.1 < l.length ∧ V.I d p.2.1 (p.2.2 + 1)) (fF := fun _ => V.gE) (fA := fun p => [.rp ((exC l).drop (p.1 * 4)), .int .i64 d] ++ V.cE) (fH := fun p => V.Mem p.2.1) (fR := fun p => .bool (V.hE (l.getD p.1 default) d p.2.1).1) (fO := fun p => V.Mem (V.hE (l.getD p.1 default) d p.2.1).2)
            (fun p q hp hq _ ha hh => by
              have e2 := V.inj _ _ hh
              simp only [List.cons_append, List.nil_append, List.cons.injEq, AV.rp.injEq, true_and, and_true] at ha
              have := congrArg List.length ha
              simp only [List.length_drop, exC_len] at this
              have e : p.1 = q.1 := by have := hp.1; have := hq.1; omega
              rw [e, e2]; exact ⟨rfl, rfl⟩) (g := V.gE) (args := [.rp ((exC l).drop (i * 4)), .int .i64 d] ++ V.cE) (H := V.Mem t) V.bodyE (i, t, q) ⟨hi, h1⟩ rfl rfl rfl
          simp only [hg] at this
          exact this
    obtain ⟨O, hO, q2, q1⟩ := hF
    have hbd := V.bnd _ _ _ hI
    have w1 : IntKind.i64.wrap (d + 1) = d + 1 := wrapB (by omega) (by omega)
    simp only [exA, TvE.F] at q2 ⊢
    refine fn_mem (k := V.k) follows noNum hO (V.len s) Tryz.func81 rfl (cw0_ok _ _) ?_
    repeat' ((conv => whnf); first | (rw [frcHW_eq]) | (first | refine stp ?_ | with_reducible refine condB (fun h => ?_) (fun h => ?_)))
    conv => whnf
    refine ⟨Nat, (fun i => i ≤ l.length ∧ (goL V.hE (l.take i) d s).1 = true), (fun i => [(0, .rs l.length 4 (exC l)), (1, .int .i64 d), (2, .func (.func V.gE) [] V.cE), (9, .int .i64 l.length), (10, .int .i64 i)]), (fun i => V.Mem (goL V.hE (l.take i) d s).2), (fun i => l.length - i), ⟨0, ⟨Nat.zero_le _, by simp only [List.take_zero, goL]⟩, ?_⟩, ?_⟩
    · simp only [List.take_zero, goL]
      refine FgLK.same rfl ?_ (V.same _)
      refine And.intro (Wk.noref rfl) ?_
      refine And.intro (Wk.noref rfl) ?_
      refine And.intro (Wk.func trivial V.wkE) ?_
      refine And.intro (Wk.int rfl) ?_
      exact ⟨Wk.int rfl, trivial⟩
    rintro i ⟨hi, hall⟩
    dsimp only
    conv => whnf
    rw [frcHW_eq]
    by_cases hlt : i < l.length
    · have e1 : decide ((i : Int) < (l.length : Int)) = true := by simpa using hlt
      have hat := goL_at (h := V.hE) l d s i hlt hall
      have hI2 : V.I d (goL V.hE (l.take i) d s).2 (sizeL (l.drop i) + m) := V.keepL (l.take i) d s (sizeL (l.drop i) + m) (by
        have := sizeL_get l i hlt
        have e : sizeL (l.drop i) = sizeE l[i] + sizeL (l.drop (i + 1)) := by rw [List.drop_eq_getElem_cons hlt]; simp only [sizeL]
        have e2 : sizeL (l.take i) + (sizeL (l.drop i) + m) = sizeL l + m := by omega
        rw [e2]; exact hI) hall
      generalize (goL V.hE (l.take i) d s).2 = t at *
      have esz : sizeL (l.drop i) + m = (sizeL l[i].kids + (sizeL (l.drop (i + 1)) + m)) + 1 := by
        rw [List.drop_eq_getElem_cons hlt]; simp only [sizeL]; have := sizeE_kids l[i]; omega
      rw [esz] at hI2
      have q1' := q1 i hlt t _ hI2
      have hd2 := V.downE l[i] d t _ hI2
      have hx3 : tk 1 (((exC l).drop (i * 4)).drop 3) = some [exA l[i].kids] := by rw [exC_at l i hlt]; exact kid_cell _ _
      have hn0 : n ≠ 0 := by have := sizeL_mem _ _ (get_mem hlt); have := sizeE_pos l[i]; omega
      have q2' := fun t q => q2 i hlt t q hn0
      rw [goE_eq] at hat
      have hst := goL_stop (h := V.hE) l d s (i + 1)
      generalize l[i] = e at *
      generalize hr : V.hE e d t = r at *
      obtain ⟨b, t1⟩ := r
      dsimp only at *
      cases b with
      | false =>
        simp only [Bool.false_eq_true, if_false] at hat
        rw [hat] at hst
        rw [hst rfl]
        clear q2 q2' hx3
        repeat' ((conv => whnf); first | (refine exI q1' ?_) | (rw [frcHW_eq]) | (with_reducible refine ixJ i rfl ?_ ?_; (focus (omega))) | (first | refine stp ?_ | with_reducible refine condB (fun h => ?_) (fun h => ?_)))
        all_goals (conv => whnf)
        all_goals (exact V.fin s t1 false)
      | true =>
        simp only [if_true] at hat
        have q2'' := q2' t1 _ (hd2 rfl)
        generalize hg : goL V.hE e.kids (d + 1) t1 = g at *
        obtain ⟨b2, t2⟩ := g
        dsimp only at *
        simp only [exA] at hx3 q2''
        cases b2 with
        | true =>
          repeat' ((conv => whnf); first | (refine exI q1' ?_) | (refine exI q2'' ?_) | (refine exI hx3 ?_) | (rw [frcHW_eq]) | (with_reducible refine exW w1 ?_) | (with_reducible refine ixJ i rfl ?_ ?_; (focus (omega))) | (first | refine stp ?_ | with_reducible refine condB (fun h => ?_) (fun h => ?_)))
          all_goals (conv => whnf)
          refine ⟨i + 1, ⟨hlt, by rw [hat]⟩, by show l.length - (i + 1) < l.length - i; omega, ?_⟩
          rw [hat]
          refine FgLK.same rfl ?_ (V.same _)
          refine And.intro (Wk.noref rfl) ?_
          refine And.intro (Wk.noref rfl) ?_
          refine And.intro (Wk.func trivial V.wkE) ?_
          refine And.intro (Wk.int rfl) ?_
          exact ⟨Wk.int rfl, trivial⟩
        | false =>
          rw [hat] at hst
          rw [hst rfl]
          repeat' ((conv => whnf); first | (refine exI q1' ?_) | (refine exI q2'' ?_) | (refine exI hx3 ?_) | (rw [frcHW_eq]) | (with_reducible refine exW w1 ?_) | (with_reducible refine ixJ i rfl ?_ ?_; (focus (omega))) | (first | refine stp ?_ | with_reducible refine condB (fun h => ?_) (fun h => ?_)))
          all_goals (conv => whnf)
          all_goals (exact V.fin s t2 false)
    · have e1 : decide ((i : Int) < (l.length : Int)) = false := by simpa using hlt
      have hi2 : i = l.length := by have := hi; omega
      subst hi2
      rw [List.take_length] at hall ⊢
      rw [hall]
      generalize (goL V.hE l d s).2 = t at *
      repeat' ((conv => whnf); first | (rw [frcHW_eq]) | (first | refine stp ?_ | with_reducible refine condB (fun h => ?_) (fun h => ?_)))
      all_goals (conv => whnf)
      all_goals (exact V.fin s t true)
end
end Go.Proofs.YtkkfcfjhhdmamaaGreatDoor.lex
end


section

set_option linter.unusedVariables false
set_option linter.unusedSimpArgs false
namespace Go.Proofs.YtkkfcfjhhdmamaaGreatDoor.lex
open Go.Abs Go.RowKit
set_option maxRecDepth 100000
set_option maxHeartbeats 4000000
inductive St where
  | mk (kind : Int) (name loc : List UInt8) (order : Int) (exprs : List Ex) (thn els : List St)
instance : Inhabited St := ⟨.mk 0 [] [] 0 [] [] []⟩
def St.kind : St → Int
  | .mk k _ _ _ _ _ _ => k
def St.name : St → List UInt8
  | .mk _ n _ _ _ _ _ => n
def St.loc : St → List UInt8
  | .mk _ _ l _ _ _ _ => l
def St.order : St → Int
  | .mk _ _ _ o _ _ _ => o
def St.exprs : St → List Ex
  | .mk _ _ _ _ x _ _ => x
def St.thn : St → List St
  | .mk _ _ _ _ _ t _ => t
def St.els : St → List St
  | .mk _ _ _ _ _ _ e => e
mutual
def St.cells : St → List AV
  | .mk k n l o x t e => [.int .i64 k, .str n, .str l, .int .i64 o, exA x, .rs t.length 7 (stC t), .rs e.length 7 (stC e)]
def stC : List St → List AV
  | [] => []
  | s :: l => s.cells ++ stC l
end
def stA (l : List St) : AV := .rs l.length 7 (stC l)
mutual
def sizeS : St → Nat
  | .mk _ _ _ _ x t e => 1 + sizeL x + sizeSL t + sizeSL e
def sizeSL : List St → Nat
  | [] => 0
  | s :: l => sizeS s + sizeSL l
end
mutual
def deepS : St → Nat
  | .mk _ _ _ _ x t e => max (max (deepSL t) (deepSL e)) (deepL x) + 1
def deepSL : List St → Nat
  | [] => 0
  | s :: l => max (deepS s) (deepSL l)
end
mutual
def okS : St → Prop
  | .mk _ n l _ x t e => okN n x.length ∧ okN l t.length ∧ e.length ≤ 9223372036854775807 ∧ okL x ∧ okSL t ∧ okSL e
def okSL : List St → Prop
  | [] => True
  | s :: l => okS s ∧ okSL l
end
theorem okSL_get : ∀ {l : List St}, okSL l → ∀ s ∈ l, okS s
  | x :: l, h, e, he => by
    simp only [okSL] at h
    rcases List.mem_cons.1 he with rfl | he
    · exact h.1
    · exact okSL_get h.2 e he
theorem okS_parts : ∀ {s : St}, okS s → s.name.length ≤ 9223372036854775807 ∧ s.loc.length ≤ 9223372036854775807 ∧ s.exprs.length ≤ 9223372036854775807 ∧ s.thn.length ≤ 9223372036854775807 ∧ s.els.length ≤ 9223372036854775807 ∧ okL s.exprs ∧ okSL s.thn ∧ okSL s.els
  | .mk _ _ _ _ _ _ _, h => by
    simp only [okS, okN] at h
    simp only [St.name, St.loc, St.exprs, St.thn, St.els]
    exact ⟨h.1.1, h.2.1.1, h.1.2, h.2.1.2, h.2.2.1, h.2.2.2⟩
theorem scells_len : ∀ s : St, s.cells.length = 7
  | .mk _ _ _ _ _ _ _ => by simp only [St.cells]; rfl
theorem stC_len : ∀ l : List St, (stC l).length = l.length * 7
  | [] => by simp only [stC]; rfl
  | s :: l => by simp only [stC, List.length_append, scells_len, stC_len l, List.length_cons]; omega
theorem stC_drop (s : St) (l : List St) (i : Nat) : (stC (s :: l)).drop ((i + 1) * 7) = (stC l).drop (i * 7) := by
  have h : (i + 1) * 7 = 7 + i * 7 := by omega
  rw [h, ← List.drop_drop, stC, List.drop_left' (scells_len s)]
theorem stC_at : ∀ (l : List St) (i : Nat) (h : i < l.length), (stC l).drop (i * 7) = l[i].cells ++ stC (l.drop (i + 1))
  | s :: l, 0, h => by simp only [Nat.zero_mul, List.drop_zero, stC, List.getElem_cons_zero, List.drop_succ_cons]
  | s :: l, i + 1, h => by rw [stC_drop, stC_at l i (by simpa using h)]; simp only [List.getElem_cons_succ, List.drop_succ_cons]
theorem st7 (l : List St) (i : Nat) (h : i < l.length) : tk 7 ((stC l).drop (i * 7)) = some l[i].cells := by
  rw [stC_at l i h]
  have := tk_app l[i].cells (stC (l.drop (i + 1)))
  rwa [scells_len] at this
mutual
theorem scells_inj : ∀ (a b : St), a.cells = b.cells → a = b
  | .mk k n l o x t e, .mk k' n' l' o' x' t' e', h => by
    simp only [St.cells, List.cons.injEq, AV.int.injEq, AV.str.injEq, AV.rs.injEq, true_and, and_true] at h
    obtain ⟨rfl, rfl, rfl, rfl, hx, ht, he⟩ := h
    rw [exA_inj hx, stC_inj t t' ht.2 ht.1, stC_inj e e' he.2 he.1]
theorem stC_inj : ∀ (a b : List St), stC a = stC b → a.length = b.length → a = b
  | [], [], _, _ => rfl
  | x :: a, y :: b, h, hl => by
    simp only [stC] at h
    have h' := List.append_inj h (by rw [scells_len, scells_len])
    rw [scells_inj x y h'.1, stC_inj a b h'.2 (by simpa using hl)]
  | [], _ :: _, _, hl => by simp at hl
  | _ :: _, [], _, hl => by simp at hl
end
theorem stA_inj {a b : List St} (h : stA a = stA b) : a = b := by
  simp only [stA, AV.rs.injEq, true_and] at h
  exact stC_inj _ _ h.2 h.1
theorem sizeS_pos : ∀ s : St, 0 < sizeS s
  | .mk _ _ _ _ _ _ _ => by simp only [sizeS]; omega
theorem sizeS_eq : ∀ s : St, sizeS s = 1 + sizeL s.exprs + sizeSL s.thn + sizeSL s.els
  | .mk _ _ _ _ _ _ _ => by simp only [sizeS, St.exprs, St.thn, St.els]
theorem deepS_eq : ∀ s : St, deepS s = max (max (deepSL s.thn) (deepSL s.els)) (deepL s.exprs) + 1
  | .mk _ _ _ _ _ _ _ => by simp only [deepS, St.exprs, St.thn, St.els]
theorem sizeSL_get : ∀ (l : List St) (i : Nat) (h : i < l.length), sizeSL l = sizeSL (l.take i) + sizeS l[i] + sizeSL (l.drop (i + 1))
  | s :: l, 0, h => by simp only [List.take_zero, sizeSL, List.getElem_cons_zero, List.drop_succ_cons, List.drop_zero]; omega
  | s :: l, i + 1, h => by
    have := sizeSL_get l i (by simpa using h)
    simp only [List.take_succ_cons, sizeSL, List.getElem_cons_succ, List.drop_succ_cons]; omega
theorem sizeSL_take : ∀ (l : List St) (i : Nat) (h : i < l.length), sizeSL (l.take (i + 1)) = sizeSL (l.take i) + sizeS l[i]
  | s :: l, 0, h => by simp only [List.take_succ_cons, List.take_zero, sizeSL, List.getElem_cons_zero]; omega
  | s :: l, i + 1, h => by
    have := sizeSL_take l i (by simpa using h)
    simp only [List.take_succ_cons, sizeSL, List.getElem_cons_succ] at this ⊢; omega
theorem sizeSL_len : ∀ l : List St, l.length ≤ sizeSL l
  | [] => Nat.zero_le _
  | s :: l => by have := sizeSL_len l; have := sizeS_pos s; simp only [sizeSL, List.length_cons]; omega
theorem sizeSL_mem : ∀ (l : List St) (s : St), s ∈ l → sizeS s ≤ sizeSL l
  | e :: l, f, h => by
    simp only [sizeSL]
    rcases List.mem_cons.1 h with rfl | h
    · omega
    · have := sizeSL_mem l f h; omega
theorem deepSL_take : ∀ (l : List St) (i : Nat) (h : i < l.length), deepSL (l.take (i + 1)) = max (deepSL (l.take i)) (deepS l[i])
  | e :: l, 0, h => by simp only [List.take_succ_cons, List.take_zero, deepSL, List.getElem_cons_zero]; omega
  | e :: l, i + 1, h => by
    have := deepSL_take l i (by simpa using h)
    simp only [List.take_succ_cons, deepSL, List.getElem_cons_succ] at this ⊢; omega
mutual
theorem deepS_size : ∀ s : St, deepS s ≤ sizeS s
  | .mk _ _ _ _ x t e => by have := deepSL_size t; have := deepSL_size e; have := deepL_size x; simp only [deepS, sizeS]; omega
theorem deepSL_size : ∀ l : List St, deepSL l ≤ sizeSL l
  | [] => Nat.le_refl _
  | s :: l => by have := deepS_size s; have := deepSL_size l; simp only [deepSL, sizeSL]; omega
end
theorem deepSL_le : ∀ (l : List St) (i : Nat), deepSL (l.take i) ≤ deepSL l
  | [], i => by simp [deepSL]
  | e :: l, 0 => by simp [deepSL]
  | e :: l, i + 1 => by have := deepSL_le l i; simp only [List.take_succ_cons, deepSL]; omega
theorem deepSL_mem : ∀ (l : List St) (s : St), s ∈ l → deepS s ≤ deepSL l
  | e :: l, f, h => by
    simp only [deepSL]
    rcases List.mem_cons.1 h with rfl | h
    · omega
    · have := deepSL_mem l f h; omega
theorem cell_x (s : St) (rest : List AV) : tk 1 ((s.cells ++ rest).drop 4) = some [exA s.exprs] := by
  obtain ⟨k, n, l, o, x, t, e⟩ := s
  simp only [St.cells, exA, St.exprs]; rfl
theorem cell_t (s : St) (rest : List AV) : tk 1 ((s.cells ++ rest).drop 5) = some [stA s.thn] := by
  obtain ⟨k, n, l, o, x, t, e⟩ := s
  simp only [St.cells, stA, St.thn]; rfl
theorem cell_e (s : St) (rest : List AV) : tk 1 ((s.cells ++ rest).drop 6) = some [stA s.els] := by
  obtain ⟨k, n, l, o, x, t, e⟩ := s
  simp only [St.cells, stA, St.els]; rfl
theorem cell_n (s : St) (rest : List AV) : tk 1 ((s.cells ++ rest).drop 1) = some [.str s.name] := by
  obtain ⟨k, n, l, o, x, t, e⟩ := s
  simp only [St.cells, St.name]; rfl
end Go.Proofs.YtkkfcfjhhdmamaaGreatDoor.lex
end


section

set_option linter.unusedVariables false
set_option linter.unusedSimpArgs false
namespace Go.Proofs.YtkkfcfjhhdmamaaGreatDoor.lex
open Go.Abs Go.RowKit
set_option maxRecDepth 100000
set_option maxHeartbeats 4000000
structure TvS (gl : Glob) extends TvE gl where
  gS : Nat
  cS : List AV
  hS : St → Int → σ → Bool × σ
  bodyS : hasBody Tryz.prog gS = true
  wkS : WkL (List.range k) cS cS
  okS : ∀ x rest d s m, lex.okS x → I d s (m + 1) → MemOK Tryz.prog gl gS ([.rp (x.cells ++ rest), .int .i64 d] ++ cS) (Mem s) (.bool (hS x d s).1) (Mem (hS x d s).2)
  downS : ∀ x d s m, I d s (m + 1) → (hS x d s).1 = true → I (d + 1) (hS x d s).2 m
section
variable {σ : Type}
def thenB (r : Bool × σ) (f : σ → Bool × σ) : Bool × σ := if r.1 = true then f r.2 else (false, r.2)
mutual
def goS (hE : Ex → Int → σ → Bool × σ) (hS : St → Int → σ → Bool × σ) : St → Int → σ → Bool × σ
  | .mk k n l o x t e, d, s => thenB (hS (.mk k n l o x t e) d s) fun s1 => thenB (goL hE x (d + 1) s1) fun s2 => thenB (goSL hE hS t (d + 1) s2) fun s3 => goSL hE hS e (d + 1) s3
def goSL (hE : Ex → Int → σ → Bool × σ) (hS : St → Int → σ → Bool × σ) : List St → Int → σ → Bool × σ
  | [], d, s => (true, s)
  | x :: l, d, s => thenB (goS hE hS x d s) fun s1 => goSL hE hS l d s1
end
variable {hE : Ex → Int → σ → Bool × σ} {hS : St → Int → σ → Bool × σ}
theorem goS_eq (x : St) (d : Int) (s : σ) : goS hE hS x d s = thenB (hS x d s) fun s1 => thenB (goL hE x.exprs (d + 1) s1) fun s2 => thenB (goSL hE hS x.thn (d + 1) s2) fun s3 => goSL hE hS x.els (d + 1) s3 := by
  obtain ⟨k, n, l, o, x, t, e⟩ := x
  simp only [goS, St.exprs, St.thn, St.els]
theorem goSL_at : ∀ (l : List St) (d : Int) (t : σ) (i : Nat) (hi : i < l.length), (goSL hE hS (l.take i) d t).1 = true → goSL hE hS (l.take (i + 1)) d t = goS hE hS l[i] d (goSL hE hS (l.take i) d t).2
  | e :: l, d, t, 0, _, _ => by
    simp only [List.take_zero, List.take_succ_cons, goSL, List.getElem_cons_zero, thenB]
    split
    · rename_i h2; rw [← h2]
    · rename_i h2; rw [← Bool.eq_false_iff.2 h2]
  | e :: l, d, t, i + 1, hi, ht => by
    simp only [List.take_succ_cons, goSL, List.getElem_cons_succ, thenB] at ht ⊢
    split
    · rename_i h2
      rw [if_pos h2] at ht
      exact goSL_at l d _ i (by simpa using hi) ht
    · rename_i h2; rw [if_neg h2] at ht; cases ht
theorem goSL_stop : ∀ (l : List St) (d : Int) (t : σ) (i : Nat), (goSL hE hS (l.take i) d t).1 = false → goSL hE hS l d t = goSL hE hS (l.take i) d t
  | [], d, t, i, hf => by simp
  | e :: l, d, t, 0, hf => by simp only [List.take_zero, goSL] at hf; cases hf
  | e :: l, d, t, i + 1, hf => by
    simp only [List.take_succ_cons, goSL, thenB] at hf ⊢
    split
    · rename_i h2
      rw [if_pos h2] at hf
      exact goSL_stop l d _ i hf
    · rfl
theorem thenB_true {r : Bool × σ} {f : σ → Bool × σ} (h : (thenB r f).1 = true) : r.1 = true ∧ thenB r f = f r.2 := by
  unfold thenB at h ⊢
  split at h
  · rename_i h2; exact ⟨h2, by rw [if_pos h2]⟩
  · cases h
end
section
variable {gl : Glob} (V : TvS gl)
def TvS.G : AV := .func (.func V.gS) [] V.cS
mutual
theorem TvS.keepS : ∀ (x : St) (d : Int) (s : V.σ) (m : Nat), V.I d s (sizeS x + m) → (goS V.hE V.hS x d s).1 = true → V.I d (goS V.hE V.hS x d s).2 m
  | .mk k n l o x t e, d, s, m, hI, ht => by
    simp only [goS, sizeS] at hI ht ⊢
    obtain ⟨h1, e1⟩ := thenB_true ht
    rw [e1] at ht ⊢
    obtain ⟨h2, e2⟩ := thenB_true ht
    rw [e2] at ht ⊢
    obtain ⟨h3, e3⟩ := thenB_true ht
    rw [e3] at ht ⊢
    have i1 := V.downS _ d s (sizeL x + (sizeSL t + (sizeSL e + m))) (by rw [show 1 + sizeL x + sizeSL t + sizeSL e + m = sizeL x + (sizeSL t + (sizeSL e + m)) + 1 from by omega] at hI; exact hI) h1
    have i2 := V.toTvE.keepL x (d + 1) _ _ i1 h2
    have i3 := TvS.keepSL t (d + 1) _ _ i2 h3
    exact V.up _ _ _ (V.bnd _ _ _ hI).1 (TvS.keepSL e (d + 1) _ m i3 ht)
theorem TvS.keepSL : ∀ (l : List St) (d : Int) (s : V.σ) (m : Nat), V.I d s (sizeSL l + m) → (goSL V.hE V.hS l d s).1 = true → V.I d (goSL V.hE V.hS l d s).2 m
  | [], d, s, m, hI, ht => by simp only [goSL, sizeSL, Nat.zero_add] at hI ⊢; exact hI
  | x :: l, d, s, m, hI, ht => by
    simp only [goSL, sizeSL] at hI ht ⊢
    obtain ⟨h1, e1⟩ := thenB_true ht
    rw [e1] at ht ⊢
    exact TvS.keepSL l d _ m (TvS.keepS x d s (sizeSL l + m) (by rw [← Nat.add_assoc]; exact hI) h1) ht
end
theorem TvS.stmts : ∀ (n : Nat) (l : List St) (d : Int) (s : V.σ) (m : Nat), sizeSL l ≤ n → okSL l → l.length ≤ 9223372036854775807 → V.I d s (sizeSL l + m) →
    MemOK Tryz.prog gl 67 [stA l, .int .i64 d, V.toTvE.F, V.G] (V.Mem s) (.bool (goSL V.hE V.hS l d s).1) (V.Mem (goSL V.hE V.hS l d s).2)
  | n, l, d, s, m, hn, hok, hl, hI => by
    have hF : ∃ O, OrcSound Tryz.prog gl O ∧
        (∀ (x : List St) (t : V.σ) (q : Nat), sizeSL x < n → okSL x → x.length ≤ 9223372036854775807 → V.I (d + 1) t (sizeSL x + q) → acall Tryz.prog O (V.Mem t) 67 [stA x, .int .i64 (d + 1), V.toTvE.F, V.G] = some (.bool (goSL V.hE V.hS x (d + 1) t).1, V.Mem (goSL V.hE V.hS x (d + 1) t).2)) ∧
        (∀ (x : List Ex) (t : V.σ) (q : Nat), okL x → x.length ≤ 9223372036854775807 → V.I (d + 1) t (sizeL x + q) → acall Tryz.prog O (V.Mem t) 81 [exA x, .int .i64 (d + 1), V.toTvE.F] = some (.bool (goL V.hE x (d + 1) t).1, V.Mem (goL V.hE x (d + 1) t).2)) ∧
        (∀ (i : Nat) (hi : i < l.length) (t : V.σ) (q : Nat), V.I d t (q + 1) → acall Tryz.prog O (V.Mem t) V.gS ([.rp ((stC l).drop (i * 7)), .int .i64 d] ++ V.cS) = some (.bool (V.hS l[i] d t).1, V.Mem (V.hS l[i] d t).2)) := by
      have s1 := orcI_sound (P := Tryz.prog) (gl := gl) (I := List St × V.σ × Nat) (G := fun p => sizeSL p.1 < n ∧ okSL p.1 ∧ p.1.length ≤ 9223372036854775807 ∧ V.I (d + 1) p.2.1 (sizeSL p.1 + p.2.2)) (fF := fun _ => 67) (fA := fun p => [stA p.1, .int .i64 (d + 1), V.toTvE.F, V.G]) (fH := fun p => V.Mem p.2.1) (fR := fun p => .bool (goSL V.hE V.hS p.1 (d + 1) p.2.1).1) (fO := fun p => V.Mem (goSL V.hE V.hS p.1 (d + 1) p.2.1).2) fun p hp => by
        obtain ⟨h0, h1, h2, h3⟩ := hp
        match n, hn, h0 with
        | n + 1, hn, h0 => exact TvS.stmts n _ (d + 1) p.2.1 p.2.2 (by omega) h1 h2 h3
      have s2 := orcI_sound (P := Tryz.prog) (gl := gl) (I := List Ex × V.σ × Nat) (G := fun p => okL p.1 ∧ p.1.length ≤ 9223372036854775807 ∧ V.I (d + 1) p.2.1 (sizeL p.1 + p.2.2)) (fF := fun _ => 81) (fA := fun p => [exA p.1, .int .i64 (d + 1), V.toTvE.F]) (fH := fun p => V.Mem p.2.1) (fR := fun p => .bool (goL V.hE p.1 (d + 1) p.2.1).1) (fO := fun p => V.Mem (goL V.hE p.1 (d + 1) p.2.1).2) fun p hp =>
        V.toTvE.exprs follows _ p.1 (d + 1) p.2.1 p.2.2 (Nat.le_refl _) hp.1 hp.2.1 hp.2.2
      have s3 := orcI_sound (P := Tryz.prog) (gl := gl) (I := Nat × V.σ × Nat) (G := fun p => p.1 < l.length ∧ V.I d p.2.1 (p.2.2 + 1)) (fF := fun _ => V.gS) (fA := fun p => [.rp ((stC l).drop (p.1 * 7)), .int .i64 d] ++ V.cS) (fH := fun p => V.Mem p.2.1) (fR := fun p => .bool (V.hS (l.getD p.1 default) d p.2.1).1) (fO := fun p => V.Mem (V.hS (l.getD p.1 default) d p.2.1).2) fun p hp => by
        obtain ⟨hp, h1⟩ := hp
        have hg : l.getD p.1 default = l[p.1] := by simp [List.getD_eq_getElem?_getD, hp]
        have hke := okSL_get hok _ (get_mem hp)
        simp only [hg]
        rw [stC_at l p.1 hp]
        exact V.okS _ _ _ _ _ hke h1
      refine ⟨_, orcOr_sound s1 (orcOr_sound s2 s3), fun x t q h0 h1 h2 h3 => ?_, fun x t q h0 h1 h2 => ?_, fun i hi t q h1 => ?_⟩
      · exact callOr1 (by kernel_rfl) (callI (P := Tryz.prog) (fun p q _ _ _ ha hh => by
            have e2 := V.inj _ _ hh
            simp only [List.cons.injEq, and_true, true_and] at ha
            rw [stA_inj ha, e2]; exact ⟨rfl, rfl⟩) (by kernel_rfl) (x, t, q) ⟨h0, h1, h2, h3⟩ rfl rfl rfl)
      · refine callOr2 (by kernel_rfl) (orcI_none fun p _ e _ => absurd e (by decide)) ?_
        exact callOr1 (by kernel_rfl) (callI (P := Tryz.prog) (fun p q _ _ _ ha hh => by
            have e2 := V.inj _ _ hh
            simp only [List.cons.injEq, and_true, true_and] at ha
            rw [exA_inj ha, e2]; exact ⟨rfl, rfl⟩) (by kernel_rfl) (x, t, q) ⟨h0, h1, h2⟩ rfl rfl rfl)
      · have hg : l.getD i default = l[i] := by simp [List.getD_eq_getElem?_getD, hi]
        refine callOr2 V.bodyS (orcI_none fun p _ _ ha => ?_) ?_
        · have := congrArg (fun a => a.head?) ha
          simp [stA] at this
        refine callOr2 V.bodyS (orcI_none fun p _ _ ha => ?_) ?_
        · have := congrArg (fun a => a.head?) ha
          simp [exA] at this
        · have := callI (P := Tryz.prog) (I := Nat × V.σ × Nat) (G := fun p => p.1 < l.length ∧ V.I d p.2.1 (p.2.2 + 1)) (fF := fun _ => V.gS) (fA := fun p => [.rp ((stC l).drop (p.1 * 7)), .int .i64 d] ++ V.cS) (fH := fun p => V.Mem p.2.1) (fR := fun p => .bool (V.hS (l.getD p.1 default) d p.2.1).1) (fO := fun p => V.Mem (V.hS (l.getD p.1 default) d p.2.1).2)
            (fun p q hp hq _ ha hh => by
              have e2 := V.inj _ _ hh
              simp only [List.cons_append, List.nil_append, List.cons.injEq, AV.rp.injEq, true_and, and_true] at ha
              have := congrArg List.length ha
              simp only [List.length_drop, stC_len] at this
              have e : p.1 = q.1 := by have := hp.1; have := hq.1; omega
              rw [e, e2]; exact ⟨rfl, rfl⟩) (g := V.gS) (args := [.rp ((stC l).drop (i * 7)), .int .i64 d] ++ V.cS) (H := V.Mem t) V.bodyS (i, t, q) ⟨hi, h1⟩ rfl rfl rfl
          simp only [hg] at this
          exact this
    obtain ⟨O, hO, q3, q2, q1⟩ := hF
    have hbd := V.bnd _ _ _ hI
    have w1 : IntKind.i64.wrap (d + 1) = d + 1 := wrapB (by omega) (by omega)
    simp only [stA, exA, TvE.F, TvS.G] at q2 q3 ⊢
    refine fn_mem (k := V.k) follows noNum hO (V.len s) Tryz.func67 rfl (cw0_ok _ _) ?_
    repeat' ((conv => whnf); (first | refine stp ?_ | with_reducible refine condB (fun h => ?_) (fun h => ?_)))
    conv => whnf
    refine ⟨Nat, (fun i => i ≤ l.length ∧ (goSL V.hE V.hS (l.take i) d s).1 = true), (fun i => [(0, .rs l.length 7 (stC l)), (1, .int .i64 d), (2, .func (.func V.gE) [] V.cE), (3, .func (.func V.gS) [] V.cS), (12, .int .i64 l.length), (13, .int .i64 i)]), (fun i => V.Mem (goSL V.hE V.hS (l.take i) d s).2), (fun i => l.length - i), ⟨0, ⟨Nat.zero_le _, by simp only [List.take_zero, goSL]⟩, ?_⟩, ?_⟩
    · simp only [List.take_zero, goSL]
      refine FgLK.same rfl ?_ (V.same _)
      refine And.intro (Wk.noref rfl) ?_
      refine And.intro (Wk.noref rfl) ?_
      refine And.intro (Wk.func trivial V.wkE) ?_
      refine And.intro (Wk.func trivial V.wkS) ?_
      refine And.intro (Wk.int rfl) ?_
      exact ⟨Wk.int rfl, trivial⟩
    rintro i ⟨hi, hall⟩
    dsimp only
    conv => whnf
    rw [frcHW_eq]
    by_cases hlt : i < l.length
    · have e1 : decide ((i : Int) < (l.length : Int)) = true := by simpa using hlt
      have hat := goSL_at (hE := V.hE) (hS := V.hS) l d s i hlt hall
      have hI2 : V.I d (goSL V.hE V.hS (l.take i) d s).2 (sizeSL (l.drop i) + m) := V.keepSL (l.take i) d s (sizeSL (l.drop i) + m) (by
        have := sizeSL_get l i hlt
        have e : sizeSL (l.drop i) = sizeS l[i] + sizeSL (l.drop (i + 1)) := by rw [List.drop_eq_getElem_cons hlt]; simp only [sizeSL]
        have e2 : sizeSL (l.take i) + (sizeSL (l.drop i) + m) = sizeSL l + m := by omega
        rw [e2]; exact hI) hall
      generalize (goSL V.hE V.hS (l.take i) d s).2 = t at *
      have esz : sizeSL (l.drop i) + m = (sizeL l[i].exprs + (sizeSL l[i].thn + (sizeSL l[i].els + (sizeSL (l.drop (i + 1)) + m)))) + 1 := by
        rw [List.drop_eq_getElem_cons hlt]; simp only [sizeSL]; have := sizeS_eq l[i]; omega
      rw [esz] at hI2
      have q1' := q1 i hlt t _ hI2
      have hd2 := V.downS l[i] d t _ hI2
      have hx4 : tk 1 (((stC l).drop (i * 7)).drop 4) = some [exA l[i].exprs] := by rw [stC_at l i hlt]; exact cell_x _ _
      have hx5 : tk 1 (((stC l).drop (i * 7)).drop 5) = some [stA l[i].thn] := by rw [stC_at l i hlt]; exact cell_t _ _
      have hx6 : tk 1 (((stC l).drop (i * 7)).drop 6) = some [stA l[i].els] := by rw [stC_at l i hlt]; exact cell_e _ _
      obtain ⟨_, _, k1, k2, k3, k4, k5, k6⟩ := okS_parts (okSL_get hok _ (get_mem hlt))
      have hsz := sizeSL_mem _ _ (get_mem hlt)
      have hse := sizeS_eq l[i]
      have qx := fun t q => q2 l[i].exprs t q k4 k1
      have qt := fun t q => q3 l[i].thn t q (by omega) k5 k2
      have qe := fun t q => q3 l[i].els t q (by omega) k6 k3
      have kx := fun s m => V.toTvE.keepL l[i].exprs (d + 1) s m
      have kt := fun s m => V.keepSL l[i].thn (d + 1) s m
      rw [goS_eq] at hat
      have hst := goSL_stop (hE := V.hE) (hS := V.hS) l d s (i + 1)
      clear q1 q2 q3 hse hsz k1 k2 k3 k4 k5 k6
      generalize l[i] = e at *
      generalize hr : V.hS e d t = r at *
      obtain ⟨b, t1⟩ := r
      simp only [exA, stA] at hx4 hx5 hx6 qx qt qe
      dsimp only [thenB] at *
      cases b with
      | false =>
        simp only [Bool.false_eq_true, if_false] at hat
        rw [hat] at hst
        rw [hst rfl]
        repeat' ((conv => whnf); first | (refine exI q1' ?_) | (rw [frcHW_eq]) | (with_reducible refine ixJ i rfl ?_ ?_; (focus (omega))) | (first | refine stp ?_ | with_reducible refine condB (fun h => ?_) (fun h => ?_)))
        all_goals (conv => whnf)
        all_goals (exact V.toTvE.fin s t1 false)
      | true =>
        simp only [if_true] at hat
        have i1 := hd2 rfl
        have qx' := qx t1 _ i1
        have kx' := kx t1 _ i1
        generalize hg : goL V.hE e.exprs (d + 1) t1 = g at *
        obtain ⟨b2, t2⟩ := g
        dsimp only at *
        cases b2 with
        | false =>
          simp only [Bool.false_eq_true, if_false] at hat
          rw [hat] at hst
          rw [hst rfl]
          repeat' ((conv => whnf); first | (refine exI q1' ?_) | (refine exI qx' ?_) | (refine exI hx4 ?_) | (rw [frcHW_eq]) | (with_reducible refine exW w1 ?_) | (with_reducible refine ixJ i rfl ?_ ?_; (focus (omega))) | (first | refine stp ?_ | with_reducible refine condB (fun h => ?_) (fun h => ?_)))
          all_goals (conv => whnf)
          all_goals (exact V.toTvE.fin s t2 false)
        | true =>
          simp only [if_true] at hat
          have i2 := kx' rfl
          have qt' := qt t2 _ i2
          have kt' := kt t2 _ i2
          generalize hg2 : goSL V.hE V.hS e.thn (d + 1) t2 = g2 at *
          obtain ⟨b3, t3⟩ := g2
          dsimp only at *
          cases b3 with
          | false =>
            simp only [Bool.false_eq_true, if_false] at hat
            rw [hat] at hst
            rw [hst rfl]
            repeat' ((conv => whnf); first | (refine exI q1' ?_) | (refine exI qx' ?_) | (refine exI qt' ?_) | (refine exI hx4 ?_) | (refine exI hx5 ?_) | (rw [frcHW_eq]) | (with_reducible refine exW w1 ?_) | (with_reducible refine ixJ i rfl ?_ ?_; (focus (omega))) | (first | refine stp ?_ | with_reducible refine condB (fun h => ?_) (fun h => ?_)))
            all_goals (conv => whnf)
            all_goals (exact V.toTvE.fin s t3 false)
          | true =>
            simp only [if_true] at hat
            have i3 := kt' rfl
            have qe' := qe t3 _ i3
            generalize hg3 : goSL V.hE V.hS e.els (d + 1) t3 = g3 at *
            obtain ⟨b4, t4⟩ := g3
            dsimp only at *
            cases b4 with
            | false =>
              rw [hat] at hst
              rw [hst rfl]
              repeat' ((conv => whnf); first | (refine exI q1' ?_) | (refine exI qx' ?_) | (refine exI qt' ?_) | (refine exI qe' ?_) | (refine exI hx4 ?_) | (refine exI hx5 ?_) | (refine exI hx6 ?_) | (rw [frcHW_eq]) | (with_reducible refine exW w1 ?_) | (with_reducible refine ixJ i rfl ?_ ?_; (focus (omega))) | (first | refine stp ?_ | with_reducible refine condB (fun h => ?_) (fun h => ?_)))
              all_goals (conv => whnf)
              all_goals (exact V.toTvE.fin s t4 false)
            | true =>
              repeat' ((conv => whnf); first | (refine exI q1' ?_) | (refine exI qx' ?_) | (refine exI qt' ?_) | (refine exI qe' ?_) | (refine exI hx4 ?_) | (refine exI hx5 ?_) | (refine exI hx6 ?_) | (rw [frcHW_eq]) | (with_reducible refine exW w1 ?_) | (with_reducible refine ixJ i rfl ?_ ?_; (focus (omega))) | (first | refine stp ?_ | with_reducible refine condB (fun h => ?_) (fun h => ?_)))
              all_goals (conv => whnf)
              refine ⟨i + 1, ⟨hlt, by rw [hat]⟩, by show l.length - (i + 1) < l.length - i; omega, ?_⟩
              rw [hat]
              refine FgLK.same rfl ?_ (V.same _)
              refine And.intro (Wk.noref rfl) ?_
              refine And.intro (Wk.noref rfl) ?_
              refine And.intro (Wk.func trivial V.wkE) ?_
              refine And.intro (Wk.func trivial V.wkS) ?_
              refine And.intro (Wk.int rfl) ?_
              exact ⟨Wk.int rfl, trivial⟩
    · have e1 : decide ((i : Int) < (l.length : Int)) = false := by simpa using hlt
      have hi2 : i = l.length := by have := hi; omega
      subst hi2
      rw [List.take_length] at hall ⊢
      rw [hall]
      generalize (goSL V.hE V.hS l d s).2 = t at *
      repeat' ((conv => whnf); first | (rw [frcHW_eq]) | (first | refine stp ?_ | with_reducible refine condB (fun h => ?_) (fun h => ?_)))
      all_goals (conv => whnf)
      all_goals (exact V.toTvE.fin s t true)
end
end Go.Proofs.YtkkfcfjhhdmamaaGreatDoor.lex
end


section

set_option linter.unusedVariables false
namespace Go.Proofs.YtkkfcfjhhdmamaaGreatDoor.runLives
open Go.RowKit Go.Abs
def tbl0 : List AV := [.int .u8 (.ofNat 0), .int .u8 (.ofNat 1), .int .u8 (.ofNat 28), .int .u8 (.ofNat 2), .int .u8 (.ofNat 29), .int .u8 (.ofNat 14), .int .u8 (.ofNat 24),
    .int .u8 (.ofNat 3), .int .u8 (.ofNat 30), .int .u8 (.ofNat 22), .int .u8 (.ofNat 20), .int .u8 (.ofNat 15), .int .u8 (.ofNat 25),
    .int .u8 (.ofNat 17), .int .u8 (.ofNat 4), .int .u8 (.ofNat 8), .int .u8 (.ofNat 31), .int .u8 (.ofNat 27), .int .u8 (.ofNat 13), .int .u8 (.ofNat 23),
    .int .u8 (.ofNat 21), .int .u8 (.ofNat 19), .int .u8 (.ofNat 16), .int .u8 (.ofNat 7), .int .u8 (.ofNat 26), .int .u8 (.ofNat 12),
    .int .u8 (.ofNat 18), .int .u8 (.ofNat 6), .int .u8 (.ofNat 11), .int .u8 (.ofNat 5), .int .u8 (.ofNat 10), .int .u8 (.ofNat 9)]
def tbl1 : List AV := [.int .u8 (.ofNat 0), .int .u8 (.ofNat 1), .int .u8 (.ofNat 56), .int .u8 (.ofNat 2), .int .u8 (.ofNat 57), .int .u8 (.ofNat 49), .int .u8 (.ofNat 28),
    .int .u8 (.ofNat 3), .int .u8 (.ofNat 61), .int .u8 (.ofNat 58), .int .u8 (.ofNat 42), .int .u8 (.ofNat 50), .int .u8 (.ofNat 38),
    .int .u8 (.ofNat 29), .int .u8 (.ofNat 17), .int .u8 (.ofNat 4), .int .u8 (.ofNat 62), .int .u8 (.ofNat 47), .int .u8 (.ofNat 59),
    .int .u8 (.ofNat 36), .int .u8 (.ofNat 45), .int .u8 (.ofNat 43), .int .u8 (.ofNat 51), .int .u8 (.ofNat 22), .int .u8 (.ofNat 53),
    .int .u8 (.ofNat 39), .int .u8 (.ofNat 33), .int .u8 (.ofNat 30), .int .u8 (.ofNat 24), .int .u8 (.ofNat 18), .int .u8 (.ofNat 12),
    .int .u8 (.ofNat 5), .int .u8 (.ofNat 63), .int .u8 (.ofNat 55), .int .u8 (.ofNat 48), .int .u8 (.ofNat 27), .int .u8 (.ofNat 60),
    .int .u8 (.ofNat 41), .int .u8 (.ofNat 37), .int .u8 (.ofNat 16), .int .u8 (.ofNat 46), .int .u8 (.ofNat 35), .int .u8 (.ofNat 44),
    .int .u8 (.ofNat 21), .int .u8 (.ofNat 52), .int .u8 (.ofNat 32), .int .u8 (.ofNat 23), .int .u8 (.ofNat 11), .int .u8 (.ofNat 54),
    .int .u8 (.ofNat 26), .int .u8 (.ofNat 40), .int .u8 (.ofNat 15), .int .u8 (.ofNat 34), .int .u8 (.ofNat 20), .int .u8 (.ofNat 31),
    .int .u8 (.ofNat 10), .int .u8 (.ofNat 25), .int .u8 (.ofNat 14), .int .u8 (.ofNat 19), .int .u8 (.ofNat 9), .int .u8 (.ofNat 13), .int .u8 (.ofNat 8),
    .int .u8 (.ofNat 7), .int .u8 (.ofNat 6)]
def tbl2 : List AV := [.int .u64 (.ofNat 1), .int .u64 (.ofNat 10), .int .u64 (.ofNat 100), .int .u64 (.ofNat 1000), .int .u64 (.ofNat 10000), .int .u64 (.ofNat 100000),
    .int .u64 (.ofNat 1000000), .int .u64 (.ofNat 10000000), .int .u64 (.ofNat 100000000), .int .u64 (.ofNat 1000000000), .int .u64 (.ofNat 10000000000),
    .int .u64 (.ofNat 100000000000), .int .u64 (.ofNat 1000000000000), .int .u64 (.ofNat 10000000000000), .int .u64 (.ofNat 100000000000000),
    .int .u64 (.ofNat 1000000000000000), .int .u64 (.ofNat 10000000000000000), .int .u64 (.ofNat 100000000000000000),
    .int .u64 (.ofNat 1000000000000000000), .int .u64 (.ofNat 10000000000000000000)]
def tbl3 : List AV := [.bool false, .bool false, .int .i64 (.ofNat 0), .bool true, .bool false, .int .i64 (.ofNat 0), .bool false, .bool true, .int .i64 (.ofNat 0),
    .bool false, .bool false, .int .i64 (.ofNat 1), .bool false, .bool false, .int .i64 (.ofNat 1), .bool false, .bool false, .int .i64 (.ofNat 2),
    .bool false, .bool false, .int .i64 (.ofNat 2), .bool false, .bool false, .int .i64 (.ofNat 2), .bool false, .bool false, .int .i64 (.ofNat 2),
    .bool false, .bool false, .int .i64 (.ofNat 2), .bool false, .bool false, .int .i64 (.ofNat 2), .bool false, .bool false, .int .i64 (.ofNat 2),
    .bool false, .bool false, .int .i64 (.ofNat 2), .bool false, .bool false, .int .i64 (.ofNat 2), .bool false, .bool false, .int .i64 (.ofNat 2),
    .bool false, .bool false, .int .i64 (.ofNat 2), .bool false, .bool false, .int .i64 (.ofNat 2)]
def tbl4 : List AV := [.bool false, .bool false, .bool false, .int .i64 (.ofNat 0), .bool false, .bool false, .bool true, .bool false, .bool false, .int .i64 (.ofNat 1),
    .bool false, .bool false, .bool true, .bool true, .bool true, .int .i64 (.ofNat 0), .bool false, .bool false, .bool false, .bool true, .bool true,
    .int .i64 (.ofNat 1), .bool false, .bool false, .bool true, .bool true, .bool true, .int .i64 (.ofNat 2), .bool false, .bool false, .bool true,
    .bool true, .bool true, .int .i64 (.ofNat 1), .bool false, .bool false, .bool true, .bool true, .bool true, .int .i64 (.ofNat 1), .bool false,
    .bool false, .bool false, .bool false, .bool true, .int .i64 (.ofNat 0), .bool false, .bool false, .bool false, .bool false, .bool false,
    .int .i64 (.ofNat 1), .bool false, .bool false, .bool false, .bool false, .bool false, .int .i64 (.ofNat 1), .bool false, .bool false, .bool false,
    .bool false, .bool false, .int .i64 (.ofNat 1), .bool true, .bool true, .bool false, .bool false, .bool false, .int .i64 (.ofNat 1), .bool true,
    .bool false]
def gl : Glob := fun g => if Nat.beq g 3 then some tbl0 else if Nat.beq g 4 then some tbl1 else if Nat.beq g 2 then some tbl2 else if Nat.beq g 0 then some tbl3 else if Nat.beq g 1 then some tbl4 else none
set_option maxRecDepth 100000
theorem follows : Tryz.prog.follows .mixedOrders = true := by kernel_rfl
theorem noNumAll : (Tryz.prog.funcs.toList.all fun fn => !(fn.name == "runtime.NumGoroutine")) = true := by kernel_rfl
theorem noNum : NoNum Tryz.prog := fun g fn h => by
  have h1 := List.all_eq_true.1 noNumAll fn (Array.mem_toList_iff.2 (Array.mem_of_getElem? h))
  simpa using h1
theorem n0 : Tryz.prog.globalNamed "math/bits.deBruijn32tab" = some 3 := by kernel_rfl
theorem ty0 : (Tryz.prog.globals[3]?).map (·.type) = some 185 := by kernel_rfl
theorem av0 : avOf Tryz.prog 6 185 (Rows.laid_math_bits_deBruijn32tab (H := Unit)) = some tbl0 := by kernel_rfl
theorem n1 : Tryz.prog.globalNamed "math/bits.deBruijn64tab" = some 4 := by kernel_rfl
theorem ty1 : (Tryz.prog.globals[4]?).map (·.type) = some 186 := by kernel_rfl
theorem av1 : avOf Tryz.prog 6 186 (Rows.laid_math_bits_deBruijn64tab (H := Unit)) = some tbl1 := by kernel_rfl
theorem n2 : Tryz.prog.globalNamed "internal/strconv.uint64pow10" = some 2 := by kernel_rfl
theorem ty2 : (Tryz.prog.globals[2]?).map (·.type) = some 165 := by kernel_rfl
theorem av2 : avOf Tryz.prog 6 165 (Rows.laid_internal_strconv_uint64pow10 (H := Unit)) = some tbl2 := by kernel_rfl
theorem n3 : Tryz.prog.globalNamed "cantilever/ast.shapes" = some 0 := by kernel_rfl
theorem ty3 : (Tryz.prog.globals[0]?).map (·.type) = some 142 := by kernel_rfl
theorem av3 : avOf Tryz.prog 6 142 (Rows.laid_cantilever_ast_shapes (H := Unit)) = some tbl3 := by kernel_rfl
theorem n4 : Tryz.prog.globalNamed "cantilever/ast.forms" = some 1 := by kernel_rfl
theorem ty4 : (Tryz.prog.globals[1]?).map (·.type) = some 145 := by kernel_rfl
theorem av4 : avOf Tryz.prog 6 145 (Rows.laid_cantilever_ast_forms (H := Unit)) = some tbl4 := by kernel_rfl
theorem globs {W : World} (h : laidMetH Tryz.prog [("math/bits.deBruijn32tab", Rows.laid_math_bits_deBruijn32tab), ("math/bits.deBruijn64tab", Rows.laid_math_bits_deBruijn64tab), ("internal/strconv.uint64pow10", Rows.laid_internal_strconv_uint64pow10), ("cantilever/ast.shapes", Rows.laid_cantilever_ast_shapes), ("cantilever/ast.forms", Rows.laid_cantilever_ast_forms)] W) : GlOK gl (snap0 W) := by
  have h' : laidMet Tryz.prog [("math/bits.deBruijn32tab", Rows.laid_math_bits_deBruijn32tab), ("math/bits.deBruijn64tab", Rows.laid_math_bits_deBruijn64tab), ("internal/strconv.uint64pow10", Rows.laid_internal_strconv_uint64pow10), ("cantilever/ast.shapes", Rows.laid_cantilever_ast_shapes), ("cantilever/ast.forms", Rows.laid_cantilever_ast_forms)] W := h
  obtain ⟨_, hv, _⟩ := id h'
  obtain ⟨m0, _⟩ := laid_glob n0 ty0 av0 hv
  have h' := laidMet.tail h'
  obtain ⟨_, hv, _⟩ := id h'
  obtain ⟨m1, _⟩ := laid_glob n1 ty1 av1 hv
  have h' := laidMet.tail h'
  obtain ⟨_, hv, _⟩ := id h'
  obtain ⟨m2, _⟩ := laid_glob n2 ty2 av2 hv
  have h' := laidMet.tail h'
  obtain ⟨_, hv, _⟩ := id h'
  obtain ⟨m3, _⟩ := laid_glob n3 ty3 av3 hv
  have h' := laidMet.tail h'
  obtain ⟨_, hv, _⟩ := id h'
  obtain ⟨m4, _⟩ := laid_glob n4 ty4 av4 hv
  intro g cs hg
  unfold gl at hg
  split at hg
  · rename_i e; have := Nat.eq_of_beq_eq_true e; subst this; simp at hg; subst hg; exact m0
  split at hg
  · rename_i e; have := Nat.eq_of_beq_eq_true e; subst this; simp at hg; subst hg; exact m1
  split at hg
  · rename_i e; have := Nat.eq_of_beq_eq_true e; subst this; simp at hg; subst hg; exact m2
  split at hg
  · rename_i e; have := Nat.eq_of_beq_eq_true e; subst this; simp at hg; subst hg; exact m3
  split at hg
  · rename_i e; have := Nat.eq_of_beq_eq_true e; subst this; simp at hg; subst hg; exact m4
  cases hg
end Go.Proofs.YtkkfcfjhhdmamaaGreatDoor.runLives
end


section

set_option linter.unusedVariables false
set_option linter.unusedSimpArgs false
namespace Go.Proofs.YtkkfcfjhhdmamaaGreatDoor.lex
open Go.Abs Go.RowKit
set_option maxRecDepth 100000
set_option maxHeartbeats 4000000
def isWordF (f : Nat) (xs : List AV) : Option AV := match f with
  | 66 => match xs with | [.str s, .bool m] => if s.length ≤ 9223372036854775807 then some (.bool (if m then wordB s else s == [])) else none | _ => none
  | _ => none
theorem isWordF_sound {gl : Glob} : OrcSound Tryz.prog gl (orcZ isWordF) := orcZ_sound fun f xs r h => by
  unfold isWordF at h
  split at h
  · split at h <;> try (cases h; done)
    split at h <;> cases h
    rename_i hs
    exact ⟨rfl, isWord_ok _ hs _⟩
  · cases h
theorem wordB_nil : wordB [] = false := rfl
theorem rightX_ok (e : Ex) (rest : List AV) (d : Int) (hok : okE e) : ValOK Tryz.prog runLives.gl 68 [.rp (e.cells ++ rest), .int .i64 d] (.bool (ownE e)) := by
  obtain ⟨⟨hn1, hn2⟩, _⟩ := okE_kids hok
  have hb : hasBody Tryz.prog 66 = true := by kernel_rfl
  have key : ∀ (op num : Int) (name : List UInt8) (v : AV) (n : Nat), (∃ cs, v = .rs n 4 cs) → name.length ≤ 9223372036854775807 → ValOK Tryz.prog runLives.gl 68 [.rp (.int .i64 op :: .int .i64 num :: .str name :: v :: rest), .int .i64 d] (.bool (ownF op num name n)) := by
    intro op num name v n hv hname
    have q : ∀ (m : Bool) (H : AHeap), acall Tryz.prog (orcZ isWordF) H 66 [.str name, .bool m] = some (.bool (if m then wordB name else name == []), H) := fun m H => callZ hb rfl (by simp only [isWordF]; rw [if_pos hname])
    by_cases h1 : op < 1
    · have e1 : decide (op < 1) = true := by simpa using h1
      have hk : kidsI op = -1 := by unfold kidsI; rw [if_neg (by omega), if_neg (by omega), if_neg (by omega)]
      obtain ⟨cs, rfl⟩ := hv
      all_goals
        refine fn_val follows noNum isWordF_sound Tryz.func68 rfl ?_
        repeat' ((conv => whnf); first | (refine exI (q _ _) ?_) | (first | refine stp ?_ | with_reducible refine condB (fun h => ?_) (fun h => ?_)))
      all_goals (show AV.bool _ = AV.bool _; congr 1; unfold ownF; rw [hk])
      all_goals (first | rfl | (symm; simp; intros; omega))
    · have e1 : decide (op < 1) = false := by simpa using h1
      by_cases h2 : 16 < op
      · have e2 : decide (op > 16) = true := by simpa using h2
        have hk : kidsI op = -1 := by unfold kidsI; rw [if_neg (by omega), if_neg (by omega), if_neg (by omega)]
        obtain ⟨cs, rfl⟩ := hv
        all_goals
          refine fn_val follows noNum isWordF_sound Tryz.func68 rfl ?_
          repeat' ((conv => whnf); first | (refine exI (q _ _) ?_) | (first | refine stp ?_ | with_reducible refine condB (fun h => ?_) (fun h => ?_)))
        all_goals (show AV.bool _ = AV.bool _; congr 1; unfold ownF; rw [hk])
        all_goals (first | rfl | (symm; simp; intros; omega))
      · clear e1
        have hop : op = 1 ∨ op = 2 ∨ op = 3 ∨ op = 4 ∨ op = 5 ∨ op = 6 ∨ op = 7 ∨ op = 8 ∨ op = 9 ∨ op = 10 ∨ op = 11 ∨ op = 12 ∨ op = 13 ∨ op = 14 ∨ op = 15 ∨ op = 16 := by omega
        clear h1 h2
        rcases hop with rfl | rfl | rfl | rfl | rfl | rfl | rfl | rfl | rfl | rfl | rfl | rfl | rfl | rfl | rfl | rfl
        all_goals (obtain ⟨cs, rfl⟩ := hv)
        all_goals (refine fn_val follows noNum isWordF_sound Tryz.func68 rfl ?_)
        all_goals (repeat' ((conv => whnf); first | (refine exI (q _ _) ?_) | (first | refine stp ?_ | with_reducible refine condB (fun h => ?_) (fun h => ?_))))
        all_goals (first | rfl | (show AV.bool _ = AV.bool _; clear q hb hok hn1 hn2; simp_all [ownF, kidsI]; done) | (show AV.bool _ = AV.bool _; clear q hb hok hn1 hn2; simp_all [ownF, kidsI]; omega) | skip)
        all_goals (clear q hb hok hn1 hn2)
        all_goals (show AV.bool _ = AV.bool _; rw [AV.bool.injEq, Bool.eq_iff_iff])
        all_goals (first | (simp_all [ownF, kidsI, wordB_nil]; done) | (simp_all [ownF, kidsI, wordB_nil]; omega))
  obtain ⟨op, num, name, kids⟩ := e
  simp only [Ex.cells]; exact key op num name _ kids.length ⟨_, rfl⟩ hn1
end Go.Proofs.YtkkfcfjhhdmamaaGreatDoor.lex
end


section

set_option linter.unusedVariables false
set_option linter.unusedSimpArgs false
namespace Go.Proofs.YtkkfcfjhhdmamaaGreatDoor.lex
open Go.Abs Go.RowKit
set_option maxRecDepth 100000
set_option maxHeartbeats 4000000
theorem noI_of {sn : Snap} {ι : IMap} {W : World} (h : R sn ι [] W) : ι = noI := by
  funext b
  cases hb : ι b with
  | none => rfl
  | some p => have := (h.dom b).2 ⟨p, hb⟩; simp at this
theorem mem_of_val {P : Program} {gl : Glob} {f : Nat} {args : List AV} {r : AV} (h : ValOK P gl f args r) (hp : plain r = true) : MemOK P gl f args [] r [] := by
  intro sn ι W cargs hg hR ha
  have := noI_of hR; subst this
  refine (h sn W cargs hg hR ha).mono ?_
  rintro e W' ⟨v, rfl, hx, hv⟩
  exact ⟨v, sn, noI, rfl, plain_VR hp hv, Stp.ext hR hx⟩
theorem val_of_mem {P : Program} {gl : Glob} {f : Nat} {args : List AV} {r : AV} (h : MemOK P gl f args [] r []) (hp : plain r = true) : ValOK P gl f args r := by
  intro sn W cargs hg hR ha
  refine (h sn noI W cargs hg hR ha).mono ?_
  rintro e W' ⟨v, sn', ι', rfl, hv, hs⟩
  exact ⟨v, rfl, ⟨fun c hc => hs.frame c hc fun b o p hb => by simp at hb, hs.size, hs.os, hs.tape, hs.output⟩, plain_VR hp hv⟩
def rE (e : Ex) (_ : Int) (s : Unit) : Bool × Unit := (ownE e, s)
mutual
theorem goE_r : ∀ (e : Ex) (d : Int) (s : Unit), goE rE e d s = (rightE e, ())
  | .mk o n s k, d, t => by
    have := goL_r k (d + 1) ()
    simp only [goE, rE, ownE, Ex.op, Ex.num, Ex.name, Ex.kids, rightE, this]
    cases ownF o n s k.length <;> rfl
theorem goL_r : ∀ (l : List Ex) (d : Int) (s : Unit), goL rE l d s = (rightL l, ())
  | [], d, s => by simp only [goL, rightL]
  | e :: l, d, s => by
    simp only [goL, goE_r e d s, goL_r l d (), rightL]
    cases rightE e <;> rfl
end
def rVE : TvE runLives.gl where
  σ := Unit
  Mem := fun _ => []
  k := 0
  len := fun _ => rfl
  same := fun _ => ⟨trivial, rfl, rfl⟩
  evo := fun _ _ => rfl
  inj := fun _ _ _ => rfl
  I := fun d s m => 0 ≤ d ∧ d + m ≤ 1152921504606846976
  up := fun d s m h0 h => ⟨h0, by have := h.2; omega⟩
  less := fun d s m h => ⟨h.1, by have := h.2; omega⟩
  bnd := fun d s m h => ⟨h.1, by have := h.2; omega⟩
  gE := 68
  cE := []
  hE := rE
  bodyE := by kernel_rfl
  wkE := trivial
  okE := fun e rest d s m ho _ => mem_of_val (rightX_ok e rest d ho) rfl
  downE := fun e d s m h _ => ⟨by have := h.1; omega, by have := h.2; omega⟩
theorem exprs_r (l : List Ex) (d : Int) (hok : okL l) (hl : l.length ≤ 9223372036854775807) (h0 : 0 ≤ d) (h1 : d + sizeL l ≤ 1152921504606846976) : ValOK Tryz.prog runLives.gl 81 [exA l, .int .i64 d, .func (.func 68) [] []] (.bool (rightL l)) := by
  have := TvE.exprs rVE follows (sizeL l) l d () 0 (Nat.le_refl _) hok hl ⟨h0, h1⟩
  have e : (goL rVE.hE l d ()).1 = rightL l := by
    have := goL_r l d ()
    show (goL rE l d ()).1 = _
    rw [this]
  rw [e] at this
  exact val_of_mem this rfl
def cE (_ : Ex) (d : Int) (n : Nat) : Bool × Nat := (decide (((n + 1 : Nat) : Int) ≤ 2000) && decide (d ≤ 32), n + 1)
def Cnt (r : Bool × Nat) (n a : Nat) (D : Int) : Prop := (r.1 = true ↔ n + a ≤ 2000 ∧ D ≤ 33) ∧ (r.1 = true → r.2 = n + a)
theorem cnt_then {r : Bool × Nat} {f : Nat → Bool × Nat} {n a b : Nat} {D1 D2 : Int} (h1 : Cnt r n a D1) (h2 : n + a ≤ 2000 → D1 ≤ 33 → Cnt (f (n + a)) (n + a) b D2) : Cnt (thenB r f) n (a + b) (max D1 D2) := by
  obtain ⟨g1, g2⟩ := h1
  unfold thenB
  by_cases h : r.1 = true
  · rw [if_pos h, g2 h]
    have h3 := g1.1 h
    obtain ⟨k1, k2⟩ := h2 h3.1 h3.2
    refine ⟨?_, fun h4 => by rw [k2 h4]; omega⟩
    rw [k1]
    constructor <;> (intro h; omega)
  · rw [if_neg h]
    refine ⟨⟨fun h => (by cases h), fun h3 => absurd (g1.2 (by omega)) h⟩, fun h => (by cases h)⟩
theorem cnt_one (d : Int) (n : Nat) : Cnt (decide (((n + 1 : Nat) : Int) ≤ 2000) && decide (d ≤ 32), n + 1) n 1 (d + 1) := by
  refine ⟨?_, fun _ => rfl⟩
  simp only [Bool.and_eq_true, decide_eq_true_eq]
  constructor <;> (intro h; omega)
theorem Cnt.to {r : Bool × Nat} {n a b : Nat} {D E : Int} (h : Cnt r n a D) (e1 : a = b) (e2 : D = E) : Cnt r n b E := by subst e1; subst e2; exact h
mutual
theorem goE_c : ∀ (e : Ex) (d : Int) (n : Nat), Cnt (goE cE e d n) n (sizeE e) (d + deepE e)
  | .mk o num s k, d, n => by
    have : goE cE (.mk o num s k) d n = thenB (cE (.mk o num s k) d n) fun n => goL cE k (d + 1) n := by simp only [goE, thenB]
    rw [this]
    exact (cnt_then (cnt_one d n) fun h1 h2 => goL_c k (d + 1) (n + 1) h1 h2).to (by simp only [sizeE]) (by simp only [deepE]; omega)
theorem goL_c : ∀ (l : List Ex) (d : Int) (n : Nat), n ≤ 2000 → d ≤ 33 → Cnt (goL cE l d n) n (sizeL l) (d + deepL l)
  | [], d, n, h1, h2 => by simp only [goL, sizeL, deepL]; exact ⟨⟨fun _ => by omega, fun _ => rfl⟩, fun _ => rfl⟩
  | e :: l, d, n, h1, h2 => by
    have : goL cE (e :: l) d n = thenB (goE cE e d n) fun n => goL cE l d n := by simp only [goL, thenB]
    rw [this]
    exact (cnt_then (goE_c e d n) fun h1 _ => goL_c l d _ h1 h2).to (by simp only [sizeL]) (by simp only [deepL]; omega)
end
end Go.Proofs.YtkkfcfjhhdmamaaGreatDoor.lex
end


section

set_option linter.unusedVariables false
set_option linter.unusedSimpArgs false
namespace Go.Proofs.YtkkfcfjhhdmamaaGreatDoor.lex
open Go.Abs Go.RowKit
set_option maxRecDepth 100000
set_option maxHeartbeats 4000000
def keepH (n : Nat) : AHeap := [⟨true, 0, 0, .cells [.func (.func 93) [] [.ptr 1 0]] 102⟩, ⟨true, 1, 0, .cells [.int .i64 n] 3⟩]
theorem keep1_ok (cs : List AV) (d : Int) (n : Nat) (hn : n ≤ 2000) : MemOK Tryz.prog runLives.gl 82 [.rp cs, .int .i64 d, .ptr 0 0] (keepH n) (.bool (decide (((n + 1 : Nat) : Int) ≤ 2000) && decide (d ≤ 32))) (keepH (n + 1)) := by
  refine fn_mem (k := 2) follows noNum (orcN_sound follows noNum isWordF_sound 3) rfl Tryz.func82 rfl (wcall_ok (isC := fun _ => false) 3) ?_
  repeat' ((conv => whnf); first | refine stp ?_ | with_reducible refine condB (fun h => ?_) (fun h => ?_))
  all_goals (conv => whnf)
  · exact ⟨by rw [h]; rfl, rfl, rfl⟩
  · exact ⟨by rw [h]; rfl, rfl, rfl⟩
theorem keepH_inj {n m : Nat} (h : keepH n = keepH m) : n = m := by
  simp only [keepH, List.cons.injEq, AObj.mk.injEq, ABody.cells.injEq, AV.int.injEq, and_true, true_and] at h
  omega
theorem ceV_ok (e : Ex) (rest : List AV) (d : Int) (s : Nat) (h : s ≤ 2000) : MemOK Tryz.prog runLives.gl 82 ([.rp (e.cells ++ rest), .int .i64 d] ++ [.ptr 0 0]) (keepH s) (.bool (lex.cE e d s).1) (keepH (lex.cE e d s).2) :=
  keep1_ok (e.cells ++ rest) d s h
theorem ceV_down (e : Ex) (d : Int) (s : Nat) (h : 0 ≤ d ∧ d ≤ 33 ∧ s ≤ 2000) (ht : (lex.cE e d s).1 = true) : 0 ≤ d + 1 ∧ d + 1 ≤ 33 ∧ (lex.cE e d s).2 ≤ 2000 :=
  have h2 : s + 1 ≤ 2000 ∧ d + 1 ≤ 33 := (cnt_one d s).1.1 ht
  have h3 : 0 ≤ d := h.1
  ⟨by clear h ht h2; omega, h2.2, h2.1⟩
def ceV : TvE runLives.gl where
  σ := Nat
  Mem := keepH
  k := 2
  len := fun _ => rfl
  same := fun s => ⟨⟨⟨rfl, rfl, rfl, rfl, BodyGe.cellsL ⟨Wk.func trivial ⟨Wk.ptr rfl rfl, trivial⟩, trivial⟩⟩, ⟨rfl, rfl, rfl, rfl, BodyGe.pre (rest := []) rfl rfl⟩, trivial⟩, rfl, rfl⟩
  evo := fun _ _ => rfl
  inj := fun _ _ h => keepH_inj h
  I := fun d s m => 0 ≤ d ∧ d ≤ 33 ∧ s ≤ 2000
  up := fun d s m h0 h => ⟨h0, by have := h.2.1; omega, h.2.2⟩
  less := fun d s m h => h
  bnd := fun d s m h => ⟨h.1, by have := h.2.1; omega⟩
  gE := 82
  cE := [.ptr 0 0]
  hE := lex.cE
  bodyE := by kernel_rfl
  wkE := ⟨Wk.ptr rfl rfl, trivial⟩
  okE := fun e rest d s m _ h => by
    exact ceV_ok e rest d s h.2.2
  downE := fun e d s m h ht => ceV_down e d s h ht
def ceH (cs : List AV) (n : Nat) : AHeap := [⟨true, 0, 0, .cells cs 28⟩, ⟨true, 1, 0, .cells [.int .i64 n] 3⟩, ⟨true, 2, 0, .cells cs 28⟩, ⟨true, 3, 0, .cells [.func (.func 93) [] [.ptr 1 0]] 102⟩]
theorem ce_fact (e : Ex) (hok : okE e) : MemOK Tryz.prog runLives.gl 81 [.slice 2 0 1 1 4, .int .i64 1, .func (.func 82) [] [.ptr 3 0]] (ceH e.cells 0) (.bool (goL cE [e] 1 0).1) (ceH e.cells (goL cE [e] 1 0).2) := by
  have hM := TvE.exprs ceV follows (sizeL [e]) [e] 1 (0 : Nat) 0 (Nat.le_refl _) (by simp only [okL]; exact ⟨hok, trivial⟩) (by simp) ⟨by omega, by omega, by omega⟩
  have hM : MemOK Tryz.prog runLives.gl 81 [exA [e], .int .i64 1, .func (.func 82) [] [.ptr 0 0]] (keepH 0) (.bool (goL cE [e] 1 0).1) (keepH (goL cE [e] 1 0).2) := hM
  simp only [exA, exC, List.append_nil] at hM
  generalize hb : (goL cE [e] 1 0).1 = b at *
  generalize hn : (goL cE [e] 1 0).2 = n at *
  have h := mem_frame (m := [3, 1]) (n := 3) (Hc := ceH e.cells 0) (cargs := [.slice 2 0 1 1 4, .int .i64 1, .func (.func 82) [] [.ptr 3 0]]) hM ?_ ?_ rfl rfl rfl rfl rfl rfl
  · have e1 : updM [3, 1] (keepH n) 0 (ceH e.cells 0) = ceH e.cells n := rfl
    rw [e1] at h
    exact h
  · obtain ⟨op, num, name, kids⟩ := e
    simp only [Ex.cells]; rfl
  · exact ⟨⟨rfl, rfl, rfl, rfl, BodyGe.cellsL ⟨Wk.func trivial ⟨Wk.ptr rfl rfl, trivial⟩, trivial⟩⟩, ⟨rfl, rfl, rfl, rfl, BodyGe.pre (rest := []) rfl rfl⟩, trivial⟩
section
open Classical
noncomputable def ceF (cs : List AV) (r : Bool) : Nat → List AV → Option AV := fun f a => if f = 81 ∧ a = [.rs 1 4 cs, .int .i64 1, .func (.func 68) [] []] then some (.bool r) else none
end
theorem wk_check (e : Ex) : ((goL cE [e] 1 0).1 = true ↔ ¬ (2000 < sizeE e ∨ 32 < deepE e)) := by
  rw [(goL_c [e] 1 0 (by omega) (by omega)).1]
  simp only [sizeL, deepL]; omega
theorem checkEX_ok (e : Ex) (hok : okE e) (hs : sizeE e ≤ 1048576) : ValOK Tryz.prog runLives.gl 48 [.agg e.cells] (.int .i64 (checkE e)) := by
  have hI := ce_fact e hok
  have hw := wk_check e
  have hr : ValOK Tryz.prog runLives.gl 81 [.rs 1 4 e.cells, .int .i64 1, .func (.func 68) [] []] (.bool (rightE e)) := by
    have h := exprs_r [e] 1 (by simp only [okL]; exact ⟨hok, trivial⟩) (by simp) (by omega) (by simp only [sizeL]; omega)
    simpa only [exA, exC, List.append_nil, List.length_singleton, rightL, Bool.and_true] using h
  have hZ := orcZ_sound (P := Tryz.prog) (gl := runLives.gl) (F := ceF e.cells (rightE e)) fun f args r h => by
    unfold ceF at h
    split at h
    · rename_i h2
      obtain ⟨rfl, rfl⟩ := h2
      simp only [Option.some.injEq] at h
      subst h
      exact ⟨rfl, hr⟩
    · cases h
  unfold checkE
  generalize hb : (goL cE [e] 1 0).1 = b at *
  generalize hn : (goL cE [e] 1 0).2 = n at *
  have hO1 := orcI_sound (P := Tryz.prog) (gl := runLives.gl) (I := Unit) (G := fun _ => True) (fF := fun _ => 81) (fA := fun _ => [.slice 2 0 1 1 4, .int .i64 1, .func (.func 82) [] [.ptr 3 0]]) (fH := fun _ => ceH e.cells 0) (fR := fun _ => .bool b) (fO := fun _ => ceH e.cells n) fun _ _ => hI
  have hO := orcOr_sound hO1 hZ
  have q1 : acall Tryz.prog (orcOr (orcI (fun _ : Unit => True) (fun _ => 81) (fun _ => [.slice 2 0 1 1 4, .int .i64 1, .func (.func 82) [] [.ptr 3 0]]) (fun _ => ceH e.cells 0) (fun _ => .bool b) (fun _ => ceH e.cells n)) (orcZ (ceF e.cells (rightE e)))) (ceH e.cells 0) 81 [.slice 2 0 1 1 4, .int .i64 1, .func (.func 82) [] [.ptr 3 0]] = some (.bool b, ceH e.cells n) :=
    callOr1 (by kernel_rfl) (callI (fun _ _ _ _ _ _ _ => ⟨rfl, rfl⟩) (by kernel_rfl) () trivial rfl rfl rfl)
  have q2 : acall Tryz.prog (orcOr (orcI (fun _ : Unit => True) (fun _ => 81) (fun _ => [.slice 2 0 1 1 4, .int .i64 1, .func (.func 82) [] [.ptr 3 0]]) (fun _ => ceH e.cells 0) (fun _ => .bool b) (fun _ => ceH e.cells n)) (orcZ (ceF e.cells (rightE e)))) (ceH e.cells n) 81 [.slice 2 0 1 1 4, .int .i64 1, .func (.func 68) [] []] = some (.bool (rightE e), ceH e.cells n) := by
    refine callOr2 (by kernel_rfl) (orcI_none fun _ _ _ h => ?_) (callZ (fa := [.rs 1 4 e.cells, .int .i64 1, .func (.func 68) [] []]) (by kernel_rfl) ?_ ?_)
    · simp at h
    · obtain ⟨op, num, name, kids⟩ := e; rfl
    · unfold ceF; rw [if_pos ⟨rfl, rfl⟩]
  generalize orcOr (orcI (fun _ : Unit => True) (fun _ => 81) (fun _ => [.slice 2 0 1 1 4, .int .i64 1, .func (.func 82) [] [.ptr 3 0]]) (fun _ => ceH e.cells 0) (fun _ => .bool b) (fun _ => ceH e.cells n)) (orcZ (ceF e.cells (rightE e))) = O at *
  clear hI hr hZ hO1 hn hb
  generalize sizeE e = sz at *
  generalize deepE e = dp at *
  generalize rightE e = r at *
  obtain ⟨op, num, name, kids⟩ := e
  simp only [Ex.cells] at *
  refine fn_valI (fun g => Nat.beq g 81) 2 follows noNum hO Tryz.func48 rfl ?_
  repeat' ((conv => whnf); first | (refine exI q1 ?_) | (refine exI q2 ?_) | (first | refine stp ?_ | with_reducible refine condB (fun h => ?_) (fun h => ?_)))
  all_goals (conv => whnf)
  all_goals (show AV.int _ _ = AV.int _ _; congr 1; clear q1 q2 hO; subst_vars)
  all_goals (by_cases hq : 2000 < sz ∨ 32 < dp <;> cases r <;> simp_all)
end Go.Proofs.YtkkfcfjhhdmamaaGreatDoor.lex
end


section

set_option linter.unusedVariables false
set_option linter.unusedSimpArgs false
namespace Go.Proofs.YtkkfcfjhhdmamaaGreatDoor.lex
open Go.Abs Go.RowKit
set_option maxRecDepth 100000
set_option maxHeartbeats 8000000
def isW (m : Bool) (s : List UInt8) : Bool := if m then wordB s else s == []
def hasN (k : Int) : Bool := k == 1 || (k == 2 || (k == 4 || (k == 5 || k == 6)))
def hasL (k : Int) : Bool := decide (2 ≤ k ∧ k ≤ 6)
def hasO (k : Int) : Bool := decide (2 ≤ k ∧ k ≤ 7)
def hasX (k : Int) : Nat := if k = 2 ∨ k = 7 then 0 else if k = 4 then 2 else 1
def hasT (k : Int) : Bool := k == 10 || k == 11
def hasE (k : Int) : Bool := k == 10
def ownSF (kind : Int) (name loc : List UInt8) (order : Int) (nx nt ne : Nat) : Bool :=
  decide (1 ≤ kind ∧ kind ≤ 11) && (isW (hasN kind) name && (isW (hasL kind) loc && ((if hasO kind then decide (1 ≤ order ∧ order ≤ 6) else order == 0) && (decide (nx = hasX kind) && ((hasT kind || decide (nt = 0)) && (hasE kind || decide (ne = 0)))))))
def ownS (x : St) : Bool := ownSF x.kind x.name x.loc x.order x.exprs.length x.thn.length x.els.length
theorem rightS_key (kind : Int) (name loc : List UInt8) (order : Int) (nx nt ne : Nat) (cx ct ce rest : List AV) (d : Int) (hn : name.length ≤ 9223372036854775807) (hl : loc.length ≤ 9223372036854775807) :
    ValOK Tryz.prog runLives.gl 69 [.rp (.int .i64 kind :: .str name :: .str loc :: .int .i64 order :: .rs nx 4 cx :: .rs nt 7 ct :: .rs ne 7 ce :: rest), .int .i64 d] (.bool (ownSF kind name loc order nx nt ne)) := by
  have hb : hasBody Tryz.prog 66 = true := by kernel_rfl
  have q1 : ∀ (m : Bool) (H : AHeap), acall Tryz.prog (orcZ isWordF) H 66 [.str name, .bool m] = some (.bool (isW m name), H) := fun m H => callZ hb rfl (by simp only [isWordF, isW]; rw [if_pos hn])
  have q2 : ∀ (m : Bool) (H : AHeap), acall Tryz.prog (orcZ isWordF) H 66 [.str loc, .bool m] = some (.bool (isW m loc), H) := fun m H => callZ hb rfl (by simp only [isWordF, isW]; rw [if_pos hl])
  by_cases h1 : kind < 1
  · have e1 : decide (kind < 1) = true := by simpa using h1
    refine fn_val follows noNum isWordF_sound Tryz.func69 rfl ?_
    repeat' ((conv => whnf); (first | refine stp ?_ | with_reducible refine condB (fun h => ?_) (fun h => ?_)))
    all_goals (show AV.bool _ = AV.bool _; congr 1; unfold ownSF; symm; rw [Bool.and_eq_false_iff]; left; simpa using fun h => absurd h (by omega))
  · have e1 : decide (kind < 1) = false := by simpa using h1
    by_cases h2 : 11 < kind
    · have e2 : decide (kind > 11) = true := by simpa using h2
      refine fn_val follows noNum isWordF_sound Tryz.func69 rfl ?_
      repeat' ((conv => whnf); (first | refine stp ?_ | with_reducible refine condB (fun h => ?_) (fun h => ?_)))
      all_goals (show AV.bool _ = AV.bool _; congr 1; unfold ownSF; symm; rw [Bool.and_eq_false_iff]; left; simpa using fun _ => h2)
    · clear e1
      have hop : kind = 1 ∨ kind = 2 ∨ kind = 3 ∨ kind = 4 ∨ kind = 5 ∨ kind = 6 ∨ kind = 7 ∨ kind = 8 ∨ kind = 9 ∨ kind = 10 ∨ kind = 11 := by omega
      clear h1 h2
      have b1 : ∀ m, isW m name = true ∨ isW m name = false := fun m => by cases isW m name <;> simp
      have b2 : ∀ m, isW m loc = true ∨ isW m loc = false := fun m => by cases isW m loc <;> simp
      rcases hop with rfl | rfl | rfl | rfl | rfl | rfl | rfl | rfl | rfl | rfl | rfl
      all_goals (refine fn_val follows noNum isWordF_sound Tryz.func69 rfl ?_)
      all_goals (repeat' ((conv => whnf); first | (refine exI (q1 _ _) ?_) | (refine exI (q2 _ _) ?_) | (first | refine stp ?_ | with_reducible refine condB (fun h => ?_) (fun h => ?_))))
      all_goals (clear q1 q2 hb b1 b2)
      all_goals (first | rfl | (show AV.bool _ = AV.bool _; rw [AV.bool.injEq, Bool.eq_iff_iff]; simp_all [ownSF, hasN, hasL, hasO, hasX, hasT, hasE]; done) | (show AV.bool _ = AV.bool _; rw [AV.bool.injEq, Bool.eq_iff_iff]; simp_all [ownSF, hasN, hasL, hasO, hasX, hasT, hasE]; omega) | skip)
      all_goals trace_state
end Go.Proofs.YtkkfcfjhhdmamaaGreatDoor.lex
end


section

set_option linter.unusedVariables false
set_option linter.unusedSimpArgs false
namespace Go.Proofs.YtkkfcfjhhdmamaaGreatDoor.lex
open Go.Abs Go.RowKit
set_option maxRecDepth 100000
set_option maxHeartbeats 4000000
def rS (x : St) (_ : Int) (s : Unit) : Bool × Unit := (ownS x, s)
mutual
def rightS : St → Bool
  | .mk k n l o x t e => ownS (.mk k n l o x t e) && (rightL x && (rightSL t && rightSL e))
def rightSL : List St → Bool
  | [] => true
  | x :: l => rightS x && rightSL l
end
theorem rightS_eq : ∀ x : St, rightS x = (ownS x && (rightL x.exprs && (rightSL x.thn && rightSL x.els)))
  | .mk _ _ _ _ _ _ _ => by simp only [rightS, St.exprs, St.thn, St.els]
mutual
theorem goS_r : ∀ (x : St) (d : Int) (s : Unit), goS rE rS x d s = (rightS x, ())
  | .mk k n l o x t e, d, s => by
    simp only [goS, rS, rightS, goL_r x (d + 1) (), goSL_r t (d + 1) (), goSL_r e (d + 1) (), thenB]
    cases ownS (.mk k n l o x t e) <;> cases rightL x <;> cases rightSL t <;> rfl
theorem goSL_r : ∀ (l : List St) (d : Int) (s : Unit), goSL rE rS l d s = (rightSL l, ())
  | [], d, s => by simp only [goSL, rightSL]
  | x :: l, d, s => by
    simp only [goSL, goS_r x d s, goSL_r l d (), rightSL, thenB]
    cases rightS x <;> rfl
end
def rV : TvS runLives.gl where
  σ := Unit
  Mem := fun _ => []
  k := 0
  len := fun _ => rfl
  same := fun _ => ⟨trivial, rfl, rfl⟩
  evo := fun _ _ => rfl
  inj := fun _ _ _ => rfl
  I := fun d s m => 0 ≤ d ∧ d + m ≤ 1152921504606846976
  up := fun d s m h0 h => ⟨h0, by have := h.2; omega⟩
  less := fun d s m h => ⟨h.1, by have := h.2; omega⟩
  bnd := fun d s m h => ⟨h.1, by have := h.2; omega⟩
  gE := 68
  cE := []
  hE := rE
  bodyE := by kernel_rfl
  wkE := trivial
  okE := fun e rest d s m ho _ => mem_of_val (rightX_ok e rest d ho) rfl
  downE := fun e d s m h _ => ⟨by have := h.1; omega, by have := h.2; omega⟩
  gS := 69
  cS := []
  hS := rS
  bodyS := by kernel_rfl
  wkS := trivial
  okS := fun x rest d s m ho _ => by
    refine mem_of_val ?_ rfl
    obtain ⟨k1, k2, _⟩ := okS_parts ho
    obtain ⟨k, n, l, o, x, t, e⟩ := x
    simp only [St.cells, exA]
    exact rightS_key k n l o x.length t.length e.length _ _ _ rest d k1 k2
  downS := fun e d s m h _ => ⟨by have := h.1; omega, by have := h.2; omega⟩
theorem stmts_r (l : List St) (d : Int) (hok : okSL l) (hl : l.length ≤ 9223372036854775807) (h0 : 0 ≤ d) (h1 : d + sizeSL l ≤ 1152921504606846976) : ValOK Tryz.prog runLives.gl 67 [stA l, .int .i64 d, .func (.func 68) [] [], .func (.func 69) [] []] (.bool (rightSL l)) := by
  have := TvS.stmts rV (sizeSL l) l d () 0 (Nat.le_refl _) hok hl ⟨h0, h1⟩
  have e : (goSL rV.hE rV.hS l d ()).1 = rightSL l := by
    have := goSL_r l d ()
    show (goSL rE rS l d ()).1 = _
    rw [this]
  rw [e] at this
  exact val_of_mem this rfl
def cS (_ : St) (d : Int) (n : Nat) : Bool × Nat := (decide (((n + 1 : Nat) : Int) ≤ 2000) && decide (d ≤ 32), n + 1)
mutual
theorem goS_c : ∀ (x : St) (d : Int) (n : Nat), Cnt (goS cE cS x d n) n (sizeS x) (d + deepS x)
  | .mk k nm lc o x t e, d, n => by
    simp only [goS]
    refine Cnt.to (cnt_then (cnt_one d n) fun h1 h2 => cnt_then (goL_c x (d + 1) (n + 1) h1 h2) fun h1 _ => cnt_then (goSL_c t (d + 1) _ h1 h2) fun h1 _ => goSL_c e (d + 1) _ h1 h2) ?_ ?_
    · simp only [sizeS]; omega
    · simp only [deepS]; omega
theorem goSL_c : ∀ (l : List St) (d : Int) (n : Nat), n ≤ 2000 → d ≤ 33 → Cnt (goSL cE cS l d n) n (sizeSL l) (d + deepSL l)
  | [], d, n, h1, h2 => by simp only [goSL, sizeSL, deepSL]; exact ⟨⟨fun _ => by omega, fun _ => rfl⟩, fun _ => rfl⟩
  | e :: l, d, n, h1, h2 => by
    simp only [goSL]
    exact (cnt_then (goS_c e d n) fun h1 _ => goSL_c l d _ h1 h2).to (by simp only [sizeSL]) (by simp only [deepSL]; omega)
end
end Go.Proofs.YtkkfcfjhhdmamaaGreatDoor.lex
end


section

set_option linter.unusedVariables false
set_option linter.unusedSimpArgs false
namespace Go.Proofs.YtkkfcfjhhdmamaaGreatDoor.lex
open Go.Abs Go.RowKit
set_option maxRecDepth 100000
set_option maxHeartbeats 4000000
variable {gl : Glob}
def sizeTL : List (List St) → Nat
  | [] => 0
  | l :: t => sizeSL l + sizeTL t
def okTL : List (List St) → Prop
  | [] => True
  | l :: t => okSL l ∧ l.length ≤ 9223372036854775807 ∧ okTL t
theorem okTL_get : ∀ {t : List (List St)}, okTL t → ∀ l ∈ t, okSL l ∧ l.length ≤ 9223372036854775807
  | x :: t, h, l, hl => by
    rcases List.mem_cons.1 hl with rfl | hl
    · exact ⟨h.1, h.2.1⟩
    · exact okTL_get h.2.2 l hl
theorem sizeTL_take : ∀ (t : List (List St)) (i : Nat) (h : i < t.length), sizeTL (t.take (i + 1)) = sizeTL (t.take i) + sizeSL t[i]
  | e :: l, 0, h => by simp only [List.take_succ_cons, List.take_zero, sizeTL, List.getElem_cons_zero]; omega
  | e :: l, i + 1, h => by
    have := sizeTL_take l i (by simpa using h)
    simp only [List.take_succ_cons, sizeTL, List.getElem_cons_succ] at this ⊢; omega
theorem sizeTL_le : ∀ (t : List (List St)) (i : Nat) (h : i < t.length), sizeTL (t.take i) + sizeSL t[i] ≤ sizeTL t
  | e :: l, 0, h => by simp only [List.take_zero, sizeTL, List.getElem_cons_zero]; omega
  | e :: l, i + 1, h => by
    have := sizeTL_le l i (by simpa using h)
    simp only [List.take_succ_cons, sizeTL, List.getElem_cons_succ] at this ⊢; omega
theorem th1 (t : List (List St)) (i : Nat) (h : i < t.length) : tk 1 ((t.map stA).drop (i * 1)) = some [stA t[i]] := tk1_map stA t i h (by omega)
structure Dc where
  name : List UInt8
  plain : Bool
  val : Int
def Dc.cells (d : Dc) : List AV := [.str d.name, .bool d.plain, .int .i64 d.val]
def dcC : List Dc → List AV
  | [] => []
  | d :: l => d.cells ++ dcC l
theorem dcC_drop (d : Dc) (l : List Dc) (i : Nat) : (dcC (d :: l)).drop ((i + 1) * 3) = (dcC l).drop (i * 3) := by
  have h : (i + 1) * 3 = 3 + i * 3 := by omega
  rw [h, ← List.drop_drop]
  have h2 : (dcC (d :: l)).drop 3 = dcC l := rfl
  rw [h2]
theorem dcC_at : ∀ (l : List Dc) (i : Nat) (h : i < l.length), (dcC l).drop (i * 3) = l[i].cells ++ dcC (l.drop (i + 1))
  | d :: l, 0, h => by simp only [Nat.zero_mul, List.drop_zero, dcC, List.getElem_cons_zero, List.drop_succ_cons]
  | d :: l, i + 1, h => by rw [dcC_drop, dcC_at l i (by simpa using h)]; simp only [List.getElem_cons_succ, List.drop_succ_cons]
theorem dc3 (l : List Dc) (i : Nat) (h : i < l.length) : tk 3 ((dcC l).drop (i * 3)) = some l[i].cells := by
  rw [dcC_at l i h]; rfl
theorem dcn (l : List Dc) (i : Nat) (h : i < l.length) : tk 1 (((dcC l).drop (i * 3)).drop 0) = some [.str l[i].name] := by
  rw [dcC_at l i h]; rfl
theorem dcv (l : List Dc) (i : Nat) (h : i < l.length) : tk 1 (((dcC l).drop (i * 3)).drop 2) = some [.int .i64 l[i].val] := by
  rw [dcC_at l i h]; rfl
structure Pr where
  decls : List Dc
  threads : List (List St)
def Pr.av (p : Pr) : AV := .agg [.rs p.decls.length 3 (dcC p.decls), .rs p.threads.length 1 (p.threads.map stA)]
def okD (l : List Dc) : Prop := l.length ≤ 9223372036854775807 ∧ ∀ d ∈ l, d.name.length ≤ 9223372036854775807
def okP (p : Pr) : Prop := okD p.decls ∧ okTL p.threads ∧ p.threads.length ≤ 9223372036854775807
theorem sizeTL_mem : ∀ (t : List (List St)) (l : List St), l ∈ t → sizeSL l ≤ sizeTL t
  | e :: t, l, h => by
    simp only [sizeTL]
    rcases List.mem_cons.1 h with rfl | h
    · omega
    · have := sizeTL_mem t l h; omega
end Go.Proofs.YtkkfcfjhhdmamaaGreatDoor.lex
end


section

set_option linter.unusedVariables false
set_option linter.unusedSimpArgs false
namespace Go.Proofs.YtkkfcfjhhdmamaaGreatDoor.lex
open Go.Abs Go.RowKit
set_option maxRecDepth 100000
set_option maxHeartbeats 4000000
def deepTL : List (List St) → Nat
  | [] => 0
  | l :: t => max (deepSL l) (deepTL t)
theorem deepTL_take : ∀ (t : List (List St)) (i : Nat) (h : i < t.length), deepTL (t.take (i + 1)) = max (deepTL (t.take i)) (deepSL t[i])
  | e :: l, 0, h => by simp only [List.take_succ_cons, List.take_zero, deepTL, List.getElem_cons_zero]; omega
  | e :: l, i + 1, h => by
    have := deepTL_take l i (by simpa using h)
    simp only [List.take_succ_cons, deepTL, List.getElem_cons_succ] at this ⊢; omega
end Go.Proofs.YtkkfcfjhhdmamaaGreatDoor.lex
end


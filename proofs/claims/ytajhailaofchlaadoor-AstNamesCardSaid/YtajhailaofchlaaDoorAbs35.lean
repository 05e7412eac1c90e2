/-
  A verified abstract interpreter, part 35: functions from values to values, whatever memory holds; what they hand back is read alone from there on.
-/
import Derived.Test.YtajhailaofchlaaDoorAbs34
set_option linter.unusedSimpArgs false
set_option linter.unusedVariables false
namespace Go.Abs
open Go.RowKit

def frzL (f : AV → Option AV) : List AV → Option (List AV)
  | [] => some []
  | c :: l => match f c, frzL f l with | some x, some y => some (x :: y) | _, _ => none

/-- A value with all that it leads to. -/
def frz (H : AHeap) : Nat → AV → Option AV
  | 0, _ => none
  | n + 1, u => match u with
    | .ptr b off => match H[b]? with
      | some o => match o.alive, o.body with
        | true, .cells cs _ => match frzL (frz H n) (cs.drop off) with | some l => some (.rp l) | none => none
        | _, _ => none
      | none => none
    | .slice b off len _ z => match len with
      | 0 => some (.rs 0 z [])
      | _ + 1 => match H[b]? with
        | some o => match o.alive, o.body with
          | true, .cells cs _ => match tk (len * z) (cs.drop off) with
            | some cs => match frzL (frz H n) cs with | some l => some (.rs len z l) | none => none
            | none => none
          | _, _ => none
        | none => none
    | .agg cs => match frzL (frz H n) cs with | some l => some (.agg l) | none => none
    | .tuple cs => match frzL (frz H n) cs with | some l => some (.tuple l) | none => none
    | .iface t v => match frz H n v with | some x => some (.iface t x) | none => none
    | .func fn f c => match frzL (frz H n) f, frzL (frz H n) c with | some f, some c => some (.func fn f c) | _, _ => none
    | .map _ => none
    | u => some u

section frz
variable {sn : Snap} {ι : IMap} {H : AHeap} {W : World} {g : Nat}

theorem frzL_sound {f : AV → Option AV} {sn' : Snap} (hf : ∀ u r v, f u = some r → VR sn ι u v → VR sn' noI r v) : ∀ {l l' : List AV} {vs : List Value}, frzL f l = some l' → LR sn ι l vs → LR sn' noI l' vs
  | [], l', vs, h, e => by simp [frzL] at h; subst h; simpa [LR] using e
  | c :: l, l', vs, h, e => by
    simp only [frzL] at h
    split at h <;> simp at h
    rename_i x y hx hy
    subst h
    simp only [LR] at e ⊢
    obtain ⟨d, ds, rfl, h1, h2⟩ := e
    exact ⟨d, ds, rfl, hf _ _ _ hx h1, frzL_sound hf hy h2⟩

theorem frzL_get {f : AV → Option AV} : ∀ {l l' : List AV}, frzL f l = some l' → l'.length = l.length ∧ ∀ (i : Nat) (x : AV), l'[i]? = some x → ∃ c, l[i]? = some c ∧ f c = some x
  | [], l', h => by simp [frzL] at h; subst h; simp
  | c :: l, l', h => by
    simp only [frzL] at h
    split at h <;> simp at h
    rename_i x y hx hy
    subst h
    obtain ⟨h1, h2⟩ := frzL_get hy
    refine ⟨by simp [h1], fun i z hz => ?_⟩
    cases i with
    | zero => simp at hz; subst hz; exact ⟨c, rfl, hx⟩
    | succ i => simpa using h2 i z (by simpa using hz)

theorem mr_of_get {sn : Snap} : ∀ {us : List AV} {b o : Nat}, (∀ (i : Nat) (u : AV), us[i]? = some u → ∃ v, sn ⟨b, o + i, none⟩ = some v ∧ VR sn noI u v) → MR sn us b o
  | [], b, o, h => by simp [MR]
  | u :: us, b, o, h => by
    simp only [MR]
    refine ⟨by simpa using h 0 u rfl, mr_of_get fun i x hx => ?_⟩
    have := h (i + 1) x (by simpa using hx)
    rwa [show o + (i + 1) = o + 1 + i from by omega] at this

theorem frz_sound (hR : R sn ι H W) (hfr : ∀ (b : Nat) (o : AObj) p, H[b]? = some o → o.alive = true → ι b = some p → g ≤ p.blk) :
    ∀ (n : Nat) (u r : AV) (v : Value), frz H n u = some r → VR sn ι u v → VR (snx sn g W) noI r v := by
  have hle : Le sn (snx sn g W) noI noI := ⟨fun a v hv => by
    unfold snx
    split
    · exact hv
    · exact (hR.snap a v hv).2.1, fun _ _ h => h⟩
  intro n
  induction n with
  | zero => intro u r v h; simp [frz] at h
  | succ n ih =>
    -- the cells of a living block
    have cells : ∀ {b : Nat} {o : AObj} {p : Place} {cs l : List AV} {ty : TypeId} {off : Nat}, H[b]? = some o → o.alive = true → o.body = .cells cs ty → ι b = some p → frzL (frz H n) (cs.drop off) = some l → MR (snx sn g W) l p.blk (p.sh + off) := by
      intro b o p cs l ty off ho ha hb hp hl
      obtain ⟨_, h2⟩ := frzL_get hl
      have hor := hR.obj b o p ho ha hp
      rw [hb] at hor
      simp only [OR] at hor
      obtain ⟨arr, k1, k2, k3, k4⟩ := hor
      refine mr_of_get fun i x hx => ?_
      obtain ⟨c, hc, hcx⟩ := h2 i x hx
      rw [List.getElem?_drop] at hc
      obtain ⟨v, e1, e2⟩ := k4 (off + i) c hc
      refine ⟨v, ?_, ih c x v hcx e2⟩
      have hge := hfr b o p ho ha hp
      unfold snx
      rw [if_neg (by show ¬ p.blk < g; omega), cell_of_heap k1]
      rw [← e1]; congr 1; omega
    intro u r v h hv
    unfold frz at h
    split at h
    · rename_i b off
      split at h <;> try (simp at h; done)
      rename_i o ho
      split at h <;> try (simp at h; done)
      rename_i cs ty ha hb
      split at h <;> simp at h
      rename_i l hl
      subst h
      obtain ⟨p, hp, rfl⟩ := hv.ptr
      simp only [VR]
      exact ⟨_, _, rfl, cells ho ha hb hp hl⟩
    · rename_i b off len cap z
      obtain ⟨p, a, cap', hp, rfl, h1, h2, h3⟩ := hv.slice
      split at h
      · simp at h; subst h
        simp only [VR]
        exact ⟨a, cap', rfl, by omega, by simp, by simp [MR], fun h => absurd rfl h⟩
      · rename_i len
        split at h <;> try (simp at h; done)
        rename_i o ho
        split at h <;> try (simp at h; done)
        rename_i cs ty ha hb
        split at h <;> try (simp at h; done)
        rename_i cs' hcs
        split at h <;> simp at h
        rename_i l hl
        subst h
        obtain ⟨ha', _⟩ := h3 (by omega)
        subst ha'
        obtain ⟨e1, rfl⟩ := tk_some hcs
        obtain ⟨f1, f2⟩ := frzL_get hl
        simp only [VR]
        refine ⟨_, cap', rfl, by omega, ?_, ?_, fun _ => rfl⟩
        · rw [f1, List.length_take]; exact Nat.min_eq_left e1
        · have hor := hR.obj b o p ho ha hp
          rw [hb] at hor
          simp only [OR] at hor
          obtain ⟨arr, k1, k2, k3, k4⟩ := hor
          refine mr_of_get fun i x hx => ?_
          obtain ⟨c, hc, hcx⟩ := f2 i x hx
          rw [List.getElem?_take] at hc
          split at hc <;> try (simp at hc; done)
          rw [List.getElem?_drop] at hc
          obtain ⟨v, g1, g2⟩ := k4 (off + i) c hc
          refine ⟨v, ?_, ih c x v hcx g2⟩
          have hge := hfr b o p ho ha hp
          unfold snx
          rw [if_neg (by show ¬ p.blk < g; omega), cell_of_heap k1]
          rw [← g1]; congr 1; simp only; omega
    · split at h <;> simp at h
      rename_i l hl; subst h
      obtain ⟨d, rfl, h1⟩ := hv.agg
      exact vr_agg (frzL_sound ih hl h1)
    · split at h <;> simp at h
      rename_i l hl; subst h
      obtain ⟨d, rfl, h1⟩ := hv.tuple
      exact vr_tuple (frzL_sound ih hl h1)
    · split at h <;> simp at h
      rename_i x hx; subst h
      obtain ⟨y, rfl, h1⟩ := hv.iface
      simp only [VR]; exact ⟨y, rfl, ih _ _ _ hx h1⟩
    · split at h <;> simp at h
      rename_i f c hf hc; subst h
      obtain ⟨x, y, rfl, h1, h2⟩ := hv.func
      simp only [VR]; exact ⟨x, y, rfl, frzL_sound ih hf h1, frzL_sound ih hc h2⟩
    · simp at h
    · rename_i e1 e2 e3 e4 e5 e6 e7
      simp at h; subst h
      cases u with
      | ptr b o => exact (e1 _ _ rfl).elim
      | slice b o l c z => exact (e2 _ _ _ _ _ rfl).elim
      | agg cs => exact (e3 _ rfl).elim
      | tuple cs => exact (e4 _ rfl).elim
      | iface t v => exact (e5 _ _ rfl).elim
      | func fn f c => exact (e6 _ _ _ rfl).elim
      | map b => exact (e7 _ rfl).elim
      | _ => exact VR_mono (ι := noI) hle _ _ (VR_refs (ι := ι) _ [] _ (fun b hb => by simp [refs] at hb) hv)
end frz

/-- A function that hands values back for values, and leaves memory as it was. -/
def ValOK (P : Program) (gl : Glob) (f : Nat) (args : List AV) (r : AV) : Prop :=
  ∀ (sn : Snap) (W : World) (cargs : List Value), GlOK gl sn → R sn noI [] W → LR sn noI args cargs →
    Calls P f cargs.toArray W fun e W' => ∃ v, e = .returned v ∧ Ext W W' ∧ VR (snx sn W.heap.size W') noI r v

theorem R.none {sn : Snap} {ι : IMap} {H : AHeap} {W : World} (h : R sn ι H W) : R sn noI [] W :=
  ⟨fun b => ⟨fun hb => by simp at hb, fun ⟨p, hp⟩ => by simp [noI] at hp⟩, fun b p hp => by simp [noI] at hp, fun b o p hb => by simp at hb, fun b b' o o' p p' hb => by simp at hb,
    fun a v hv => ⟨(h.snap a v hv).1, (h.snap a v hv).2.1, fun b o p hb => by simp at hb⟩, fun b o p hb => by simp at hb⟩

theorem Stq.ext {k : Nat} {sn sn' : Snap} {ι' : IMap} {H' : AHeap} {W W' : World} (h : Stq k sn noI [] W sn' ι' H' W') : Ext W W' :=
  ⟨fun c hc => h.frame c hc fun b o p hb => by simp at hb, h.size, h.os, h.tape, h.output⟩

/-- An oracle for functions from values to values. -/
def orcV (F : Nat → List AV → Option AV) : Orc := fun f args H => match F f args with | some r => some (r, H) | none => none

theorem orcV_sound {P : Program} {gl : Glob} {F : Nat → List AV → Option AV} (h : ∀ f args r, F f args = some r → refsL args [] = [] ∧ ValOK P gl f args r) : OrcSound P gl (orcV F) := by
  intro f args H r H' hf sn ι W cargs hg hR ha
  unfold orcV at hf
  split at hf <;> simp at hf
  rename_i r' hr
  obtain ⟨rfl, rfl⟩ := hf
  obtain ⟨h1, h2⟩ := h f args r' hr
  refine (h2 sn W cargs hg hR.none (LR_refs args [] _ (fun b hb => by rw [h1] at hb; cases hb) ha)).mono ?_
  rintro e W' ⟨v, rfl, hx, hv⟩
  exact ⟨v, _, ι, rfl, VR_noI hv, Stp.snap hR hx⟩

/-- Two oracles: what the first does not answer, the second may. -/
def orcOr (o1 o2 : Orc) : Orc := fun f args H => match o1 f args H with | some r => some r | none => o2 f args H
theorem orcOr_sound {P : Program} {gl : Glob} {o1 o2 : Orc} (h1 : OrcSound P gl o1) (h2 : OrcSound P gl o2) : OrcSound P gl (orcOr o1 o2) := by
  intro f args H r H' hf
  unfold orcOr at hf
  split at hf
  · rename_i x hx
    simp at hf; subst hf
    exact h1 f args H r H' hx
  · exact h2 f args H r H' hf


def resOf : List AV → AV
  | [v] => v
  | vs => .tuple vs

/-- Calls n deep are gone into, but for those that are the oracle's. -/
def orcN (P : Program) (gl : Glob) (orc : Orc) (isC : Nat → Bool) : Nat → Orc
  | 0 => orc
  | n + 1 => fun f args H => match isC f with | true => orc f args H | false => afunc P gl (orcN P gl orc isC n) 0 f args H
theorem orcN_sound {P : Program} {gl : Glob} {orc : Orc} {isC : Nat → Bool} (hm : P.follows .mixedOrders = true) (hn : NoNum P) (hO : OrcSound P gl orc) : ∀ n, OrcSound P gl (orcN P gl orc isC n)
  | 0 => hO
  | n + 1 => by
    intro f args H r H' hf
    simp only [orcN] at hf
    split at hf
    · exact hO f args H r H' hf
    · exact afunc_sound (fuel := 0) hm hn (orcN_sound hm hn hO n) f args H r H' hf

/-- A call: the oracle answers, or it is gone into (isC: the oracle's). -/
noncomputable def wcall (P : Program) (gl : Glob) (orc : Orc) (isC : Nat → Bool) : Nat → CW :=
  Nat.rec (motive := fun _ => CW) (cw0 P orc) (fun n ih g args H k => match isC g || !(hasBody P g) with
    | true => ∃ y, acall P orc H g args = some y ∧ frcW y.1 fun r => frcHW y.2 fun H' => k r H'
    | false => onO P.funcs[g]? fun fn => onO fn.body fun c => frcTr (tmk (tini args fn.ntmps args.length) (tdep 20 fn.ntmps)) fun tm =>
      wexec P gl (orcN P gl orc isC n) ih noLoop c (fun tm H => onO (aress P tm H fn.results.toList) fun vs => frcW (resOf vs) fun r => k r H) (fun _ _ _ => False) (fun tm H => onO (aress P tm H fn.results.toList) fun vs => frcW (resOf vs) fun r => k r H) tm H)

def finR (P : Program) (l : List ResultVar) (Φ : AV → Prop) (tm : Tr) (H : AHeap) : Prop := onO (aress P tm H l) fun vs => ∃ r, frz H 30 (resOf vs) = some r ∧ Φ r

theorem wcall_ok {P : Program} {gl : Glob} {orc : Orc} {isC : Nat → Bool} : ∀ n, CWok P (orcN P gl orc isC n) (wcall P gl orc isC n)
  | 0 => cw0_ok P orc
  | n + 1 => by
    intro g args H k h
    replace h : (match isC g || !(hasBody P g) with
      | true => ∃ y, acall P orc H g args = some y ∧ frcW y.1 fun r => frcHW y.2 fun H' => k r H'
      | false => onO P.funcs[g]? fun fn => onO fn.body fun c => frcTr (tmk (tini args fn.ntmps args.length) (tdep 20 fn.ntmps)) fun tm =>
        wexec P gl (orcN P gl orc isC n) (wcall P gl orc isC n) noLoop c (fun tm H => onO (aress P tm H fn.results.toList) fun vs => frcW (resOf vs) fun r => k r H) (fun _ _ _ => False) (fun tm H => onO (aress P tm H fn.results.toList) fun vs => frcW (resOf vs) fun r => k r H) tm H) := h
    split at h
    · obtain ⟨y, h1, h2⟩ := h
      rename_i hc
      rw [frcW_eq, frcHW_eq] at h2
      refine ⟨y.1, y.2, ?_, h2⟩
      unfold acall at h1 ⊢
      cases hb : hasBody P g with
      | false => rw [hb] at h1; exact h1
      | true =>
        rw [hb] at h1 hc
        have hi : isC g = true := by simpa using hc
        simp only [if_true] at h1 ⊢
        simp only [orcN, hi]; exact h1
    · rename_i hb
      have hi : isC g = false := by cases hq : isC g with | false => rfl | true => rw [hq] at hb; simp at hb
      have hb' : hasBody P g = true := by cases hq : hasBody P g with | true => rfl | false => rw [hq] at hb; simp at hb
      obtain ⟨fn, hfn, h⟩ := onO_some h
      obtain ⟨c, hc, h⟩ := onO_some h
      rw [frcTr_eq] at h
      unfold acall
      rw [if_pos hb']
      simp only [orcN, hi]
      obtain ⟨x, tm1, H1, h1, h⟩ := wexecF_ok (fuel := 0) (wcall_ok n) c h
      have fin : ∀ {tm1 H1}, (onO (aress P tm1 H1 fn.results.toList) fun vs => frcW (resOf vs) fun r => k r H1) → ∃ us, aress P tm1 H1 fn.results.toList = some us ∧ k (resOf us) H1 := fun h => by
        obtain ⟨us, e1, e2⟩ := onO_some h
        rw [frcW_eq] at e2
        exact ⟨us, e1, e2⟩
      have done : ∀ {us : List AV}, aress P tm1 H1 fn.results.toList = some us → (x = .normal ∨ x = .ret) → afunc P gl (orcN P gl orc isC n) 0 g args H = some (resOf us, H1) := by
        intro us e hx
        unfold afunc
        simp only [hfn, hc, frcVL_eq, frcH_eq, h1]
        rcases hx with rfl | rfl
        all_goals
          simp only [e]
          match us with
          | [] => rfl
          | [u] => rfl
          | u :: u' :: l => rfl
      cases x with
      | normal => obtain ⟨us, e1, e2⟩ := fin h; exact ⟨_, _, done e1 (.inl rfl), e2⟩
      | exit id => exact (h : False).elim
      | ret => obtain ⟨us, e1, e2⟩ := fin h; exact ⟨_, _, done e1 (.inr rfl), e2⟩

/-- A function's body, run. -/
theorem fn_valG {P : Program} {gl : Glob} {orc : Orc} (hm : P.follows .mixedOrders = true) (hn : NoNum P) (hO : OrcSound P gl orc) {f : Nat} {fn : Func} {c : Code} {args : List AV} {r : AV}
    (hf : P.funcs[f]? = some fn) (hc : fn.body = some c)
    {cw : CW} (hcw : CWok P orc cw)
    (h : frcTr (tmk (tini args fn.ntmps args.length) (tdep 20 fn.ntmps)) fun tm => wexec P gl orc cw wloop c (finR P fn.results.toList (· = r)) (fun _ _ _ => False) (finR P fn.results.toList (· = r)) tm []) : ValOK P gl f args r := by
  intro sn W cargs hg hR ha
  rw [frcTr_eq] at h
  refine calls_of_wp hf hc (wexec_ok hm hn hO hcw c h _ W sn noI _ hg hR (tini_sound ha _ _ _) fun x tm1 H1 a1 W1 sn1 ι1 hx s1 t1 d1 => ?_)
  have key : finR P fn.results.toList (· = r) tm1 H1 → ∃ v, (results fn a1.tmps).run P W1 = .ok v W1 ∧ VR (snx sn W.heap.size W1) noI r v := by
    intro h
    obtain ⟨us, h1, r', h2, h3⟩ := onO_some h
    subst h3
    obtain ⟨vs, h4, h5⟩ := aress_sound s1.rel t1 _ _ h1
    have hle : Le (snx sn1 W.heap.size W1) (snx sn W.heap.size W1) noI noI := ⟨fun a v hv => by
      unfold snx at hv ⊢
      split at hv
      · rename_i hlt
        rw [if_pos hlt]
        rcases s1.sfresh a v hv with h | h | ⟨b0, o0, p0, hb, _⟩
        · exact h
        · omega
        · simp at hb
      · rename_i hlt
        rw [if_neg hlt]; exact hv, fun _ _ h => h⟩
    have hfr : ∀ (b : Nat) (o : AObj) p, H1[b]? = some o → o.alive = true → ι1 b = some p → W.heap.size ≤ p.blk := by
      intro b o p hb ha hp
      rcases s1.fresh b o p hb ha hp with h | ⟨b0, o0, p0, hb, _⟩
      · exact h
      · simp at hb
    refine ⟨_, results_list h5, VR_mono hle _ _ (frz_sound s1.rel hfr 30 _ _ _ h2 ?_)⟩
    clear h1 h2
    match us, h4 with
    | [], h4 => simp only [LR] at h4; subst h4; simp [resOf, VR, LR]
    | [u], h4 =>
      simp only [LR] at h4
      obtain ⟨d, ds, rfl, hd, rfl⟩ := h4
      simpa [resOf] using hd
    | u :: u' :: l, h4 =>
      have hl := h4.length
      simp only [List.length_cons] at hl
      have : vs.toArray.size ≠ 1 := by simp [hl]
      rw [dif_neg this]
      simp only [resOf, VR]
      exact ⟨_, rfl, h4⟩
  cases x with
  | normal =>
    obtain ⟨v, k1, k2⟩ := key hx
    exact bodyPost_end k1 d1 ⟨v, rfl, s1.ext, k2⟩
  | exit id => exact hx.elim
  | ret =>
    obtain ⟨v, k1, k2⟩ := key hx
    exact bodyPost_ret k1 d1 ⟨v, rfl, s1.ext, k2⟩

/-- A function's body, run; calls are the oracle's. -/
theorem fn_val {P : Program} {gl : Glob} {orc : Orc} (hm : P.follows .mixedOrders = true) (hn : NoNum P) (hO : OrcSound P gl orc) {f : Nat} {fn : Func} {c : Code} {args : List AV} {r : AV} (hf : P.funcs[f]? = some fn) (hc : fn.body = some c)
    (h : frcTr (tmk (tini args fn.ntmps args.length) (tdep 20 fn.ntmps)) fun tm => wexec P gl orc (cw0 P orc) wloop c (finR P fn.results.toList (· = r)) (fun _ _ _ => False) (finR P fn.results.toList (· = r)) tm []) : ValOK P gl f args r :=
  fn_valG hm hn hO hf hc (cw0_ok P orc) h

/-- A function's body, run; calls are gone into, n deep, but for those that are the oracle's. -/
theorem fn_valI {P : Program} {gl : Glob} {orc : Orc} (isC : Nat → Bool) (n : Nat) (hm : P.follows .mixedOrders = true) (hn : NoNum P) (hO : OrcSound P gl orc) {f : Nat} {fn : Func} {c : Code} {args : List AV} {r : AV} (hf : P.funcs[f]? = some fn) (hc : fn.body = some c)
    (h : frcTr (tmk (tini args fn.ntmps args.length) (tdep 20 fn.ntmps)) fun tm => wexec P gl (orcN P gl orc isC n) (wcall P gl orc isC n) wloop c (finR P fn.results.toList (· = r)) (fun _ _ _ => False) (finR P fn.results.toList (· = r)) tm []) : ValOK P gl f args r :=
  fn_valG hm hn (orcN_sound hm hn hO n) hf hc (wcall_ok n) h

/-- A law: it says true, whatever it is handed. -/
theorem val_calls {P : Program} {gl : Glob} {f : Nat} {args : List AV} {b : Bool} (h : ValOK P gl f args (.bool b)) {W : World} (hg : GlOK gl (snap0 W)) {cargs : List Value} (ha : LR (snap0 W) noI args cargs) :
    Calls P f cargs.toArray W fun e W' => e = .returned (.bool b) ∧ Below W.heap.size W W' := by
  refine (h (snap0 W) W cargs hg (R0 W) ha).mono ?_
  rintro e W' ⟨v, rfl, hx, hv⟩
  cases hv.bool
  exact ⟨rfl, ((R0 W).ext hx |> fun _ => Stp.below (Stp.ext (R0 W) hx))⟩
end Go.Abs

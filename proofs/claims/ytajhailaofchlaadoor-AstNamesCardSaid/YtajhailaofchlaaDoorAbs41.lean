/-
  A verified abstract interpreter, part 41: functions that write to memory that they are handed.
-/
import Derived.Test.YtajhailaofchlaaDoorAbs40
set_option linter.unusedSimpArgs false
set_option linter.unusedVariables false
namespace Go.Abs
open Go.RowKit

/-- A function that is handed memory H, hands r back and leaves H'. -/
def MemOK (P : Program) (gl : Glob) (f : Nat) (args : List AV) (H : AHeap) (r : AV) (H' : AHeap) : Prop :=
  ∀ (sn : Snap) (ι : IMap) (W : World) (cargs : List Value), GlOK gl sn → R sn ι H W → LR sn ι args cargs →
    Calls P f cargs.toArray W fun e W' => ∃ v sn' ι', e = .returned v ∧ VR sn' ι' r v ∧ Stp sn ι H W sn' ι' H' W'

/-- No more blocks, the same families, nothing alive that was not; nothing else is named. -/
def evoB (k : Nat) : AHeap → AHeap → Bool
  | [], [] => true
  | o :: H, o' :: H' => Nat.beq o'.fam o.fam && (Nat.beq o'.sh o.sh && ((!o'.alive || o.alive) && (allLt k (refsB o'.body []) && evoB k H H')))
  | _, _ => false
theorem evoB_get {k : Nat} : ∀ {H H' : AHeap}, evoB k H H' = true → H'.length = H.length ∧ ∀ (b : Nat) (o o' : AObj), H[b]? = some o → H'[b]? = some o' → o'.fam = o.fam ∧ o'.sh = o.sh ∧ (o'.alive = true → o.alive = true) ∧ allLt k (refsB o'.body []) = true
  | [], [], h => ⟨rfl, fun b o o' e => by simp at e⟩
  | x :: H, y :: H', h => by
    simp only [evoB, Bool.and_eq_true] at h
    obtain ⟨h1, h2, h3, h4, h5⟩ := h
    obtain ⟨k1, k2⟩ := evoB_get h5
    refine ⟨by simp [k1], fun b o o' e e' => ?_⟩
    cases b with
    | zero =>
      simp at e e'; subst e; subst e'
      exact ⟨Nat.eq_of_beq_eq_true h1, Nat.eq_of_beq_eq_true h2, fun ha => by simpa [ha] using h3, h4⟩
    | succ b => exact k2 b o o' (by simpa using e) (by simpa using e')
  | [], _ :: _, h => by simp [evoB] at h
  | _ :: _, [], h => by simp [evoB] at h

theorem allLt_mem {k : Nat} : ∀ {l : List Nat}, allLt k l = true → ∀ b ∈ l, b < k
  | [], h, b, hb => by cases hb
  | n :: l, h, b, hb => by
    simp only [allLt, Bool.and_eq_true] at h
    rcases List.mem_cons.1 hb with rfl | hb
    · exact blt_lt h.1
    · exact allLt_mem h.2 b hb
theorem refsL_get : ∀ (l : List AV) (acc : List Nat) (i : Nat) (c : AV), l[i]? = some c → ∃ acc', ∀ b, b ∈ refs c acc' → b ∈ refsL l acc
  | [], acc, i, c, h => by simp at h
  | x :: l, acc, 0, c, h => by simp at h; subst h; exact ⟨refsL l acc, fun b hb => by simpa [refsL] using hb⟩
  | x :: l, acc, i + 1, c, h => by
    obtain ⟨acc', h1⟩ := refsL_get l acc i c (by simpa using h)
    exact ⟨acc', fun b hb => by simp only [refsL]; exact refs_acc x _ b (h1 b hb)⟩
/-- What a body comes to: a value, and the first k blocks. -/
def finM (P : Program) (l : List ResultVar) (k : Nat) (H0 : AHeap) (r : AV) (H1 : AHeap) (tm : Tr) (H : AHeap) : Prop :=
  onO (aress P tm H l) fun vs => resOf vs = r ∧ H.take k = H1 ∧ (allLt k (refs r []) && evoB k H0 H1) = true

theorem resOf_res {sn : Snap} {ι : IMap} {us : List AV} {vs : List Value} {fn : Func} (h4 : LR sn ι us vs) : VR sn ι (resOf us) (if h : vs.toArray.size = 1 then vs.toArray[0] else .tuple vs.toArray) := by
  match us, h4 with
  | [], h4 => simp only [LR] at h4; subst h4; simp [resOf, VR, LR]
  | [u], h4 =>
    simp only [LR] at h4
    obtain ⟨d, ds, rfl, hd, rfl⟩ := h4
    simpa [resOf] using hd
  | u :: u' :: l, h4 =>
    have hl := h4.length
    simp only [List.length_cons] at hl
    have : vs.toArray.size ≠ 1 := by simp [hl]
    rw [dif_neg this]
    simp only [resOf, VR]
    exact ⟨_, rfl, h4⟩

theorem fn_mem {P : Program} {gl : Glob} {orc : Orc} (hm : P.follows .mixedOrders = true) (hn : NoNum P) (hO : OrcSound P gl orc) {f k : Nat} {fn : Func} {c : Code} {args : List AV} {H0 H1 : AHeap} {r : AV} (hk : H0.length = k)
    (hf : P.funcs[f]? = some fn) (hc : fn.body = some c) {cw : CW} (hcw : CWok P orc cw)
    (h : frcTr (tmk (tini args fn.ntmps args.length) (tdep 20 fn.ntmps)) fun tm => wexec P gl orc cw (wloopK k) c (finM P fn.results.toList k H0 r H1) (fun _ _ _ => False) (finM P fn.results.toList k H0 r H1) tm H0) : MemOK P gl f args H0 r H1 := by
  intro sn ι W cargs hg hR ha
  rw [frcTr_eq] at h
  refine calls_of_wp hf hc (wexec_ok hm hn hO hcw c h _ W sn ι _ hg hR (tini_sound ha _ _ _) fun x tm1 H a1 W1 sn1 ι1 hx s1 t1 d1 => ?_)
  have key : finM P fn.results.toList k H0 r H1 tm1 H → ∃ v, (results fn a1.tmps).run P W1 = .ok v W1 ∧ ∃ sn' ι', VR sn' ι' r v ∧ Stp sn ι H0 W sn' ι' H1 W1 := by
    intro h
    obtain ⟨us, h1, h2, h3, h4⟩ := onO_some h
    simp only [Bool.and_eq_true] at h4
    obtain ⟨h4, h5⟩ := h4
    obtain ⟨vs, k1, k2⟩ := aress_sound s1.rel t1 _ _ h1
    obtain ⟨e1, e2⟩ := evoB_get h5
    have hpl : ∀ b, b < k → ∃ p, ι b = some p ∧ ι1 b = some p := fun b hb => by
      obtain ⟨p, hp⟩ := (hR.dom b).1 (by omega)
      exact ⟨p, hp, s1.keep b p hb hp⟩
    let ι' : IMap := fun b => if b < k then ι1 b else none
    have hi : ∀ b, b < k → ∀ p, ι1 b = some p → ι' b = some p := fun b hb p hp => by show (if b < k then ι1 b else none) = some p; rw [if_pos hb]; exact hp
    have hi2 : ∀ b p, ι' b = some p → b < k ∧ ι1 b = some p := fun b p hp => by
      have hp : (if b < k then ι1 b else none) = some p := hp
      split at hp
      · exact ⟨by assumption, hp⟩
      · cases hp
    have hH : ∀ (b : Nat) (o : AObj), H1[b]? = some o → b < k ∧ H[b]? = some o := fun b o hb => by
      have hb' : b < H1.length := (List.getElem?_eq_some_iff.1 hb).1
      rw [e1, hk] at hb'
      rw [← h3, List.getElem?_take_of_lt hb'] at hb
      exact ⟨hb', hb⟩
    have hR1 : R sn1 ι' H1 W1 := by
      refine ⟨fun b => ⟨fun hb => ?_, fun ⟨p, hp⟩ => ?_⟩, fun b p hp => s1.rel.blk b p (hi2 b p hp).2, fun b o p hb hal hp => ?_, fun b b' o o' p p' hb hb' hp hp' e => ?_, fun ad v hv => ?_, fun b o p hb hp e => ?_⟩
      · rw [e1, hk] at hb
        obtain ⟨p, _, hp⟩ := hpl b hb
        exact ⟨p, hi b hb p hp⟩
      · rw [e1, hk]; exact (hi2 b p hp).1
      · obtain ⟨hb1, hb2⟩ := hH b o hb
        obtain ⟨_, hp⟩ := hi2 b p hp
        have h0 : b < H0.length := by omega
        have h6 := (e2 b _ o (List.getElem?_eq_getElem h0) hb).2.2.2
        exact OR_refs o.body p (fun x hx q hq => hi x (allLt_mem h6 x hx) q hq) (s1.rel.obj b o p hb2 hal hp)
      · obtain ⟨_, hb2⟩ := hH b o hb
        obtain ⟨_, hb2'⟩ := hH b' o' hb'
        exact s1.rel.sep b b' o o' p p' hb2 hb2' (hi2 _ _ hp).2 (hi2 _ _ hp').2 e
      · obtain ⟨g1, g2, g3⟩ := s1.rel.snap ad v hv
        refine ⟨g1, g2, fun b o p hb hal hp => ?_⟩
        obtain ⟨_, hb2⟩ := hH b o hb
        exact g3 b o p hb2 hal (hi2 _ _ hp).2
      · obtain ⟨_, hb2⟩ := hH b o hb
        exact s1.rel.shz b o p hb2 (hi2 _ _ hp).2 e
    refine ⟨_, results_list k2, sn1, ι', ?_, hR1, ⟨s1.le, fun b p hb => ?_⟩, fun b p hp => .inl ?_, s1.frame, s1.size, s1.os, s1.tape, s1.output, s1.sfresh, fun b o hb => ?_⟩
    · rw [← h2]
      refine VR_refs (ι := ι1) (resOf us) [] _ (fun x hx q hq => hi x (allLt_mem h4 x (by rw [← h2]; exact hx)) q hq) ?_
      exact resOf_res (fn := fn) k1
    · have hbk : b < k := by have := (hR.dom b).2 ⟨p, hb⟩; omega
      exact hi b hbk p (s1.keep b p hbk hb)
    · obtain ⟨hbk, hp1⟩ := hi2 b p hp
      obtain ⟨q, hq, hq1⟩ := hpl b hbk
      rw [hq1] at hp1; cases hp1; exact hq
    · have hb0 := (List.getElem?_eq_some_iff.1 hb).1
      have hb1 : b < H1.length := by omega
      obtain ⟨g1, g2, g3, _⟩ := e2 b o _ hb (List.getElem?_eq_getElem hb1)
      exact ⟨_, List.getElem?_eq_getElem hb1, g1, g2, g3⟩
  cases x with
  | normal =>
    obtain ⟨v, k1, sn', ι', k2, k3⟩ := key hx
    exact bodyPost_end k1 d1 ⟨v, sn', ι', rfl, k2, k3⟩
  | exit id => exact hx.elim
  | ret =>
    obtain ⟨v, k1, sn', ι', k2, k3⟩ := key hx
    exact bodyPost_ret k1 d1 ⟨v, sn', ι', rfl, k2, k3⟩

section orcI
open Classical
/-- An oracle by a family of facts. -/
noncomputable def orcI {I : Type} (G : I → Prop) (fF : I → Nat) (fA : I → List AV) (fH : I → AHeap) (fR : I → AV) (fO : I → AHeap) : Orc := fun f args H =>
  if h : ∃ i, G i ∧ fF i = f ∧ fA i = args ∧ fH i = H then some (fR (Classical.choose h), fO (Classical.choose h)) else none
theorem orcI_sound {P : Program} {gl : Glob} {I : Type} {G : I → Prop} {fF : I → Nat} {fA : I → List AV} {fH : I → AHeap} {fR : I → AV} {fO : I → AHeap} (h : ∀ i, G i → MemOK P gl (fF i) (fA i) (fH i) (fR i) (fO i)) : OrcSound P gl (orcI G fF fA fH fR fO) := by
  intro f args H r H' e
  unfold orcI at e
  split at e
  · rename_i hx
    simp only [Option.some.injEq, Prod.mk.injEq] at e
    obtain ⟨rfl, rfl⟩ := e
    obtain ⟨g1, e1, e2, e3⟩ := Classical.choose_spec hx
    have := h _ g1
    rw [e1, e2, e3] at this; exact this
  · cases e
theorem callI {P : Program} {I : Type} {G : I → Prop} {fF : I → Nat} {fA : I → List AV} {fH : I → AHeap} {fR : I → AV} {fO : I → AHeap} (hinj : ∀ i j, G i → G j → fF i = fF j → fA i = fA j → fH i = fH j → fR i = fR j ∧ fO i = fO j) {g : Nat} {args : List AV} {H : AHeap} (hb : hasBody P g = true) (i : I) (hi : G i) (h1 : fF i = g) (h2 : fA i = args) (h3 : fH i = H) :
    acall P (orcI G fF fA fH fR fO) H g args = some (fR i, fO i) := by
  have hx : ∃ i, G i ∧ fF i = g ∧ fA i = args ∧ fH i = H := ⟨i, hi, h1, h2, h3⟩
  unfold acall
  rw [if_pos hb]
  unfold orcI
  rw [dif_pos hx]
  obtain ⟨g1, g2, g3, g4⟩ := Classical.choose_spec hx
  obtain ⟨e1, e2⟩ := hinj _ i g1 hi (g2.trans h1.symm) (g3.trans h2.symm) (g4.trans h3.symm)
  rw [e1, e2]
end orcI
end Go.Abs

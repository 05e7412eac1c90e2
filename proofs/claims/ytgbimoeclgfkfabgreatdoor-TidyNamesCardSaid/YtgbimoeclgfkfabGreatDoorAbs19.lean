/-
  A verified abstract interpreter, part 19: from a laid variable to what is known of memory, and a function of no argument.
-/
import Derived.Test.YtgbimoeclgfkfabGreatDoorAbs18
import Derived.ProofKit
import Derived.OpenShut
set_option linter.unusedSimpArgs false
set_option linter.unusedVariables false
namespace Go.Abs
open Go.RowKit Go.ChangeShapes Go.WideShapes Go.ChangeAt

/-- All of memory as it stands is read alone. -/
def snap0 (W : World) : Snap := fun a => if a.block < W.heap.size then W.cell? a else none

theorem R0 (W : World) : R (snap0 W) noI [] W := by
  refine ⟨fun b => ?_, fun b p h => ?_, fun b o p h => ?_, fun b b' o o' p p' h => ?_, fun a v h => ?_, fun b o p h => by simp at h⟩
  · simp [noI]
  · simp [noI] at h
  · simp at h
  · simp at h
  · unfold snap0 at h
    split at h
    · rename_i hb
      exact ⟨hb, h, fun b o p h => by simp at h⟩
    · simp at h

/-- Behind a call that was handed no block of its own. -/
theorem Stp.below {W W' : World} {sn : Snap} {ι : IMap} {H : AHeap} (h : Stp (snap0 W) noI [] W sn ι H W') : Below W.heap.size W W' :=
  ⟨h.os, h.tape, h.output, h.size, fun c hc => h.frame c hc fun b o p hb => by simp at hb⟩

/-! what a datum is as a list of cells -/
section av
variable {H : Type} {P : Program}

def fsAv (f : TypeId → DataW H → Option (List AV)) (P : Program) (tot : Nat) : List Field → List (DataW H) → Nat → Option (List AV)
  | [], [], off => if Nat.beq off tot then some [] else none
  | fl :: fs, d :: ds, off => if Nat.beq fl.offset off then
      match f fl.type d, fsAv f P tot fs ds (off + P.cellsOf fl.type) with
      | some u, some us => if Nat.beq u.length (P.cellsOf fl.type) then some (u ++ us) else none
      | _, _ => none
    else none
  | _, _, _ => none

def esAv (f : DataW H → Option (List AV)) (ct : Nat) : List (DataW H) → Option (List AV)
  | [] => some []
  | d :: ds => match f d, esAv f ct ds with
    | some u, some us => if Nat.beq u.length ct then some (u ++ us) else none
    | _, _ => none

def avOf (P : Program) : Nat → TypeId → DataW H → Option (List AV)
  | 0, _, _ => none
  | n + 1, t, d => match P.underlying t, d with
    | some .bool, .lit (.bool b) => some [.bool b]
    | some (.int k), .lit (.int _ z) => some [.int k z]
    | some .string, .lit (.string s) => some [.str s]
    | some (.struct fs), .agg ds => fsAv (avOf P n) P (P.cellsOf t) fs.toList ds 0
    | some (.array m e), .agg ds => if Nat.beq (ds.length * P.cellsOf e) (P.cellsOf t) && Nat.beq ds.length m then esAv (avOf P n e) (P.cellsOf e) ds else none
    | _, _ => none

variable {enc : TypeId × Value → H} {w : World} {base : Nat} {sp : Nat → Bool} {held : Bool} {sn : Snap} {ι : IMap}

theorem fsAv_sound {f : TypeId → DataW H → Option (List AV)} {m tot : Nat} (hf : ∀ t d us cs p, f t d = some us → DataW.trod enc P w base sp held m t cs = some (d, p) → LR sn ι us cs) (cs : List Value) (hl : cs.length = tot) :
    ∀ (fs : List Field) (xs : List (DataW H × List MemPlace)) (off : Nat) (us : List AV), fsAv f P tot fs (xs.map (·.1)) off = some us →
      (∀ (i : Nat) (fl : Field), fs[i]? = some fl → DataW.trod enc P w base sp held m fl.type ((cs.drop fl.offset).take (P.cellsOf fl.type)) = xs[i]?) → LR sn ι us (cs.drop off)
  | [], [], off, us, h, hx => by
    simp only [fsAv, List.map_nil] at h
    split at h <;> simp at h
    subst h; rename_i e
    have := Nat.eq_of_beq_eq_true e
    simp [LR]; omega
  | [], x :: xs, off, us, h, hx => by simp [fsAv] at h
  | fl :: fs, [], off, us, h, hx => by simp [fsAv] at h
  | fl :: fs, x :: xs, off, us, h, hx => by
    simp only [fsAv, List.map_cons] at h
    split at h <;> try (simp at h; done)
    rename_i e
    have := Nat.eq_of_beq_eq_true e; subst this
    split at h <;> try (simp at h; done)
    rename_i u us' hu hus
    split at h <;> simp at h
    subst h; rename_i hul
    have hul' := Nat.eq_of_beq_eq_true hul
    have h0 := hx 0 fl rfl
    simp only [List.getElem?_cons_zero] at h0
    have h1 := hf _ _ _ _ _ hu h0
    have h2 := fsAv_sound hf cs hl fs xs _ _ hus fun i fl' hi => by simpa using hx (i + 1) fl' (by simpa using hi)
    have := h1.append h2
    rwa [← List.drop_drop, List.take_append_drop] at this

theorem esAv_sound {f : DataW H → Option (List AV)} {m ct : Nat} {e : TypeId} (hf : ∀ d us cs p, f d = some us → DataW.trod enc P w base sp held m e cs = some (d, p) → LR sn ι us cs) (cs : List Value) :
    ∀ (xs : List (DataW H × List MemPlace)) (k : Nat) (us : List AV), cs.length = (k + xs.length) * ct → esAv f ct (xs.map (·.1)) = some us →
      (∀ (i : Nat), i < xs.length → DataW.trod enc P w base sp held m e ((cs.drop ((k + i) * ct)).take ct) = xs[i]?) → LR sn ι us (cs.drop (k * ct))
  | [], k, us, hl, h, hx => by
    simp [esAv] at h; subst h
    simp at hl
    simp [LR, hl]
  | x :: xs, k, us, hl, h, hx => by
    simp only [esAv, List.map_cons] at h
    split at h <;> try (simp at h; done)
    rename_i u us' hu hus
    split at h <;> simp at h
    subst h
    have h0 := hx 0 (by simp)
    simp only [List.getElem?_cons_zero, Nat.add_zero] at h0
    have h1 := hf _ _ _ _ hu h0
    have h2 := esAv_sound hf cs xs (k + 1) _ (by rw [hl]; simp only [List.length_cons]; congr 1; omega) hus fun i hi => by
      have := hx (i + 1) (by simpa using hi)
      rw [show k + 1 + i = k + (i + 1) from by omega]
      simpa using this
    have := h1.append h2
    rwa [show (k + 1) * ct = k * ct + ct from by rw [Nat.add_mul]; simp, ← List.drop_drop, List.take_append_drop] at this

theorem avOf_sound : ∀ (n : Nat) (t : TypeId) (d : DataW H) (us : List AV) (m : Nat) (cs : List Value) (p : List MemPlace), avOf P n t d = some us → DataW.trod enc P w base sp held m t cs = some (d, p) → LR sn ι us cs
  | 0, t, d, us, m, cs, p, h, ht => by simp [avOf] at h
  | n + 1, t, d, us, m, cs, p, h, ht => by
    simp only [avOf] at h
    split at h <;> try (simp at h; done)
    · rename_i b hu
      simp at h; subst h
      obtain ⟨b', rfl, hx⟩ := DataW.trod_bool hu ht
      simp at hx; simp [LR, VR, hx]
    · rename_i k k' z hu
      simp at h; subst h
      obtain ⟨z', rfl, hx, _⟩ := DataW.trod_int hu ht
      simp at hx; simp [LR, VR, hx]
    · rename_i s hu
      simp at h; subst h
      obtain ⟨s', rfl, hx, _⟩ := DataW.trod_string hu ht
      simp at hx; simp [LR, VR, hx]
    · rename_i fs ds hu
      obtain ⟨xs, m', rfl, hx, hl, hlen, hf⟩ := DataW.trod_struct hu ht
      simp at hx
      obtain ⟨rfl, _⟩ := hx
      have := fsAv_sound (m := m') (fun t d us cs p h1 h2 => avOf_sound n t d us m' cs p h1 h2) cs hl fs.toList xs 0 us (by simpa using h) fun i fl hi => hf i fl (by simpa using hi)
      simpa using this
    · rename_i k e ds hu
      split at h <;> try (simp at h; done)
      rename_i hc
      simp only [Bool.and_eq_true] at hc
      obtain ⟨xs, m', rfl, hx, hl, hlen, hf⟩ := DataW.trod_array hu ht
      simp at hx
      obtain ⟨rfl, _⟩ := hx
      have e1 := Nat.eq_of_beq_eq_true hc.1
      have := esAv_sound (m := m') (ct := P.cellsOf e) (e := e) (fun d us cs p h1 h2 => avOf_sound n e d us m' cs p h1 h2) cs xs 0 us (by rw [hl, ← e1]; simp) (by simpa using h) fun i hi => by simpa using hf i (by omega)
      simpa using this

theorem MR_of_LR {W : World} {g : Nat} (hg : g < W.heap.size) : ∀ (us : List AV) (vs : List Value) (o : Nat), LR (snap0 W) noI us vs → (∀ (i : Nat) (v : Value), vs[i]? = some v → W.cell? ⟨g, o + i, none⟩ = some v) → MR (snap0 W) us g o
  | [], vs, o, h, hc => by simp [MR]
  | u :: us, vs, o, h, hc => by
    simp only [LR] at h
    obtain ⟨d, ds, rfl, h1, h2⟩ := h
    simp only [MR]
    refine ⟨⟨d, ?_, h1⟩, MR_of_LR hg us ds (o + 1) h2 fun i v hi => ?_⟩
    · unfold snap0; rw [if_pos hg]; simpa using hc 0 d rfl
    · rw [show o + 1 + i = o + (i + 1) from by omega]; exact hc (i + 1) v (by simpa using hi)
end av

/-- One laid variable: what is known of it. -/
theorem laid_glob {P : Program} {W : World} {name : String} {d : DataW Unit} {g n : Nat} {t : TypeId} {us : List AV}
    (hg : P.globalNamed name = some g) (hty : (P.globals[g]?).map (·.type) = some t) (ha : avOf P n t d = some us) {rest : List (String × DataW Unit)} {ps : List MemPlace} (h : DataW.LaidVars P W ((name, d) :: rest) ps) :
    MR (snap0 W) us g 0 ∧ ∃ qs, DataW.LaidVars P W rest qs := by
  obtain ⟨g', t', cs, fuel, p, q, hg', ht', hvar, hd, hr, _⟩ := h
  obtain rfl := Option.some.inj (hg.symm.trans hg')
  obtain rfl := Option.some.inj (hty.symm.trans ht')
  have h1 : LR (snap0 W) noI us cs.toList := avOf_sound n t d us fuel cs.toList p ha hd
  have hb : g < W.heap.size := by
    simp only [World.var?, hg, Option.bind_some] at hvar
    split at hvar
    · rename_i hh; exact (Array.getElem?_eq_some_iff.1 hh).1
    · simp at hvar
  refine ⟨MR_of_LR hb us cs.toList 0 h1 fun i v hi => ?_, q, hr⟩
  rw [Nat.zero_add, World.var?_cell hg hvar]; simpa using hi

/-- A function of no argument that answers true: any oracle that is sound. -/
theorem closed_calls {P : Program} {gl : Glob} {orc : Orc} {f : Nat} {b : Bool} {H : AHeap} (hO : OrcSound P gl orc) (h : orc f [] [] = some (.bool b, H)) {W : World} (hg : GlOK gl (snap0 W)) :
    Calls P f #[] W fun e W' => e = .returned (.bool b) ∧ Below W.heap.size W W' := by
  refine (hO f [] [] _ _ h (snap0 W) noI W [] hg (R0 W) (by simp [LR])).mono ?_
  rintro e W' ⟨v, sn', ι', rfl, hv, hs⟩
  cases hv.bool
  exact ⟨rfl, hs.below⟩

/-- What a call must leave behind that turns nothing that was there. -/
theorem post_below {H : Type} {enc : TypeId × Value → H} {P : Program} {f : Func} {s : ChangeSpec} {apart fresh handsOn again : Bool} {W W' : World} {args : Array Value} {v : Value} {ds gs : List (DataW H)} {before pa pv : List MemPlace}
    (hW : DataW.Whole enc P f.params.toList s.vars apart W args.toList ds gs before)
    (hres : ∀ (b : Nat) (sp : Nat → Bool) (hd : Bool), DataW.TrodAll enc P W' b sp hd f.resultTypes.toList (v.resultList f.resultTypes.size) (s.fn H (ds ++ gs)).results [])
    (hargs : ∀ sp : Nat → Bool, (∀ p ∈ before, sp p.block = true) → DataW.TrodAll enc P W' 0 sp true f.params.toList args.toList (s.fn H (ds ++ gs)).args pa)
    (hvars : ∀ sp : Nat → Bool, (∀ p ∈ before, sp p.block = true) → DataW.TrodVars enc P W' sp s.vars (s.fn H (ds ++ gs)).vars pv)
    (hps : before = pa ++ pv) (hb : Below W.heap.size W W')
    (hok : ∀ (j : Nat) (t : TypeId) (r : Value), f.resultTypes[j]? = some t → (v.resultList f.resultTypes.size)[j]? = some r → Value.okWide P W' .any 0 t r) :
    s.post enc P f apart fresh handsOn again W args v W' := by
  have hlt : ∀ p ∈ before, p.block < W.heap.size := fun p hp => hW.lt p hp
  have hold : ∀ p ∈ before, (fun b => decide (b < W.heap.size)) p.block = true := fun p hp => by simpa using hlt p hp
  have hW' := hW
  obtain ⟨_, _, _, _, _, hz, hn⟩ := hW'
  refine ⟨ds, gs, before, [], pa, pv, hW, hres _ _ _, hargs _ hold, hvars _ hold, hb.frame _, fun _ => ⟨hok, _, _, ([] ++ pa) ++ pv, ⟨[] ++ pa, pv, trodAll_append (hargs _ (fun _ _ => rfl)) (hres _ _ _), hvars _ (fun _ _ => rfl), rfl, ?_, ?_⟩, ?_⟩⟩
  · intro b off hp
    have hp' : MemPlace.cell b off ∈ before := by rw [hps]; simpa using hp
    rw [hb.frozen (hlt _ hp')]
    exact hz b off hp'
  · intro ha
    have := hn ha
    rw [hps] at this
    simpa using this
  · intro p hp _
    rw [hps]
    simpa using hp
end Go.Abs

/-
  Texts of this proof, one behind the other (part 3).
-/
import Derived.Test.YtacaaiiooedgjaaDoorPack2
import Derived.LoopN
import Derived.ProofKit
import Derived.OpenShut
import Derived.IntWalk

/-
  A verified abstract interpreter, part 18: code, functions, and calls n deep.
-/
section
set_option linter.unusedSimpArgs false
set_option linter.unusedVariables false
namespace Go.Abs
open Go.RowKit

def exOf : AEx → Exit
  | .normal => .normal
  | .exit id => .exit id
  | .ret => .ret

section code
variable {P : Program} {gl : Glob} {orc : Orc} {fuel : Nat}

def CodeSound (P : Program) (gl : Glob) (c : Code) (f : Tr → AHeap → Option (AEx × Tr × AHeap)) : Prop :=
  ∀ (tm : Tr) (H : AHeap) (x : AEx) (tm' : Tr) (H' : AHeap) (a : Act) (W : World) (sn : Snap) (ι : IMap) (Q : Exit → Act → World → Prop), f tm H = some (x, tm', H') → GlOK gl sn → R sn ι H W → TRel sn ι tm a →
    (∀ a' W' sn' ι', Stp sn ι H W sn' ι' H' W' → TRel sn' ι' tm' a' → a'.defers = a.defers → Q (exOf x) a' W') → c.wp P Q a W

theorem loopN_sound {c : Code} {f : Tr → AHeap → Option (AEx × Tr × AHeap)} (hf : CodeSound P gl c f) : ∀ (n : Nat) (tm : Tr) (H : AHeap) (x : AEx) (tm' : Tr) (H' : AHeap) (a : Act) (W : World) (sn : Snap) (ι : IMap) (Q : Exit → Act → World → Prop), loopN f n tm H = some (x, tm', H') → GlOK gl sn → R sn ι H W → TRel sn ι tm a →
    (∀ a' W' sn' ι', Stp sn ι H W sn' ι' H' W' → TRel sn' ι' tm' a' → a'.defers = a.defers → Q (exOf x) a' W') → Code.rounds P c Q n a W
  | 0, tm, H, x, tm', H', a, W, sn, ι, Q, h, hg, hR, ht, hQ => by simp [loopN] at h
  | n + 1, tm, H, x, tm', H', a, W, sn, ι, Q, h, hg, hR, ht, hQ => by
    simp only [loopN] at h
    rw [rounds_succ]
    split at h
    · rename_i tm1 H1 h1
      refine hf _ _ _ _ _ _ _ _ _ _ h1 hg hR ht fun a1 W1 sn1 ι1 s1 t1 d1 => ?_
      show Code.rounds P c Q n a1 W1
      refine loopN_sound hf n _ _ _ _ _ _ _ sn1 ι1 Q h (hg.mono s1.le) s1.rel t1 fun a2 W2 sn2 ι2 s2 t2 d2 => ?_
      exact hQ _ _ _ _ (s1.trans hR s2) t2 (d2.trans d1)
    · rename_i hne
      refine hf _ _ _ _ _ _ _ _ _ _ h hg hR ht fun a1 W1 sn1 ι1 s1 t1 d1 => ?_
      have := hQ _ _ _ _ s1 t1 d1
      cases x with
      | normal => exact (hne _ _ h).elim
      | exit id => exact this
      | ret => exact this

theorem aexec_sound (hm : P.follows .mixedOrders = true) (hn : NoNum P) (hO : OrcSound P gl orc) : ∀ c : Code, CodeSound P gl c (aexec P gl orc fuel c)
  | .skip => by
    intro tm H x tm' H' a W sn ι Q h hg hR ht hQ
    simp [aexec] at h; obtain ⟨rfl, rfl, rfl⟩ := h
    exact wp_skip (hQ a W sn ι (Stp.refl hR) ht rfl)
  | .region id ops draw => by
    intro tm H x tm' H' a W sn ι Q h hg hR ht hQ
    simp only [aexec] at h
    split at h <;> simp at h
    obtain ⟨rfl, rfl, rfl⟩ := h
    rename_i tm1 H1 h1
    cases draw with
    | true => exact adraw_sound hm hn hO hg hR ht (by simpa using h1) (fun a' W' sn' ι' h1 h2 h3 => hQ a' W' sn' ι' h1 h2 h3) id
    | false => exact wp_region_list (aseq_sound hn hO ops _ _ _ _ _ _ _ _ _ (by simpa using h1) hg hR ht fun a' W' sn' ι' h1 h2 h3 => hQ a' W' sn' ι' h1 h2 h3)
  | .seq c d => by
    intro tm H x tm' H' a W sn ι Q h hg hR ht hQ
    simp only [aexec] at h
    refine wp_seq ?_
    split at h
    · rename_i tm1 H1 h1
      refine aexec_sound hm hn hO c _ _ _ _ _ _ _ _ _ _ h1 hg hR ht fun a1 W1 sn1 ι1 s1 t1 d1 => ?_
      show Code.wp P d Q a1 W1
      refine aexec_sound hm hn hO d _ _ _ _ _ _ _ sn1 ι1 Q h (hg.mono s1.le) s1.rel t1 fun a2 W2 sn2 ι2 s2 t2 d2 => ?_
      exact hQ _ _ _ _ (s1.trans hR s2) t2 (d2.trans d1)
    · rename_i hne
      refine aexec_sound hm hn hO c _ _ _ _ _ _ _ _ _ _ h hg hR ht fun a1 W1 sn1 ι1 s1 t1 d1 => ?_
      have := hQ _ _ _ _ s1 t1 d1
      cases x with
      | normal => exact (hne _ _ h).elim
      | exit id => exact this
      | ret => exact this
  | .cond e c d => by
    intro tm H x tm' H' a W sn ι Q h hg hR ht hQ
    simp only [aexec] at h
    split at h <;> try (simp at h; done)
    · rename_i he
      exact wp_cond_true (aeval_sound hg ht _ _ he).bool (aexec_sound hm hn hO c _ _ _ _ _ _ _ _ _ _ h hg hR ht hQ)
    · rename_i he
      exact wp_cond_false (aeval_sound hg ht _ _ he).bool (aexec_sound hm hn hO d _ _ _ _ _ _ _ _ _ _ h hg hR ht hQ)
  | .block id b => by
    intro tm H x tm' H' a W sn ι Q h hg hR ht hQ
    simp only [aexec] at h
    refine wp_block ?_
    split at h
    · rename_i id' tm1 H1 h1
      refine aexec_sound hm hn hO b _ _ _ _ _ _ _ _ _ _ h1 hg hR ht fun a1 W1 sn1 ι1 s1 t1 d1 => ?_
      show (if id' = id then Q .normal a1 W1 else Q (.exit id') a1 W1)
      split at h
      · rename_i e
        rw [if_pos (Nat.eq_of_beq_eq_true e)]
        simp at h; obtain ⟨rfl, rfl, rfl⟩ := h
        exact hQ _ _ _ _ s1 t1 d1
      · rename_i e
        rw [if_neg (fun e' => e (by simp [e']))]
        simp at h; obtain ⟨rfl, rfl, rfl⟩ := h
        exact hQ _ _ _ _ s1 t1 d1
    · rename_i hne
      refine aexec_sound hm hn hO b _ _ _ _ _ _ _ _ _ _ h hg hR ht fun a1 W1 sn1 ι1 s1 t1 d1 => ?_
      have := hQ _ _ _ _ s1 t1 d1
      cases x with
      | normal => exact this
      | exit id => exact (hne _ _ _ h).elim
      | ret => exact this
  | .loop b => by
    intro tm H x tm' H' a W sn ι Q h hg hR ht hQ
    simp only [aexec] at h
    exact wp_loop_rounds fuel (loopN_sound (aexec_sound hm hn hO b) fuel _ _ _ _ _ _ _ _ _ _ h hg hR ht hQ)
  | .exit id => by
    intro tm H x tm' H' a W sn ι Q h hg hR ht hQ
    simp [aexec] at h; obtain ⟨rfl, rfl, rfl⟩ := h
    exact wp_exit (hQ a W sn ι (Stp.refl hR) ht rfl)
  | .ret => by
    intro tm H x tm' H' a W sn ι Q h hg hR ht hQ
    simp [aexec] at h; obtain ⟨rfl, rfl, rfl⟩ := h
    exact wp_ret (hQ a W sn ι (Stp.refl hR) ht rfl)
  | .rangeFunc .. => fun tm H x tm' H' a W sn ι Q h hg hR ht hQ => by simp [aexec] at h
  | .scope .. => fun tm H x tm' H' a W sn ι Q h hg hR ht hQ => by simp [aexec] at h
  | .label .. => fun tm H x tm' H' a W sn ι Q h hg hR ht hQ => by simp [aexec] at h
  | .goto .. => fun tm H x tm' H' a W sn ι Q h hg hR ht hQ => by simp [aexec] at h
  | .refuse .. => fun tm H x tm' H' a W sn ι Q h hg hR ht hQ => by simp [aexec] at h
end code

section fin
variable {P : Program} {gl : Glob} {sn : Snap} {ι : IMap} {H : AHeap} {W : World}

theorem tget_eval {a : Act} {tm : Tr} (ht : TRel sn ι tm a) {t : Nat} {u : AV} (h : tget tm t = some u) : VR sn ι u (a.tmps.getD t undef) := by
  obtain ⟨v, h1, h2⟩ := ht.1 t u h
  simpa [Array.getD_eq_getD_getElem?, h1] using h2

theorem aress_sound (hR : R sn ι H W) {tm : Tr} {a : Act} (ht : TRel sn ι tm a) : ∀ (l : List ResultVar) (us : List AV), aress P tm H l = some us → ∃ vs : List Value, LR sn ι us vs ∧
    (l.mapM fun r => (match r with | .tmp t => pure (a.tmps.getD t undef) | .cell ad t => do loadVar t (← asAddr (a.tmps.getD ad undef)) : Sem Value)).run P W = .ok vs W
  | [], us, h => by simp [aress] at h; subst h; exact ⟨[], by simp [LR], by simp⟩
  | .tmp t :: l, us, h => by
    simp only [aress] at h
    split at h <;> simp at h
    subst h; rename_i v vs hv hvs
    obtain ⟨vs', h1, h2⟩ := aress_sound hR ht l _ hvs
    refine ⟨a.tmps.getD t undef :: vs', ?_, ?_⟩
    · simp only [LR]; exact ⟨_, _, rfl, tget_eval ht hv, h1⟩
    · rw [List.mapM_cons]
      simp only [Sem.run_bind, Sem.run_pure, Result.andThen_ok]
      rw [h2]; rfl
  | .cell ad t :: l, us, h => by
    simp only [aress] at h
    split at h <;> try (simp at h; done)
    rename_i b off hb
    split at h <;> simp at h
    subst h; rename_i v vs hv hvs
    obtain ⟨vs', h1, h2⟩ := aress_sound hR ht l _ hvs
    obtain ⟨x, y, e1, e2, e3⟩ := loadVar_sound hR.ro hv (tget_eval ht hb)
    refine ⟨y :: vs', ?_, ?_⟩
    · simp only [LR]; exact ⟨_, _, rfl, e3, h1⟩
    · have hy : (do loadVar t (← asAddr (a.tmps.getD ad undef)) : Sem Value).run P W = .ok y W := by
        simp only [Sem.run_bind, e1, asAddr, Sem.run_pure, Result.andThen_ok, e2]
      generalize hF : (fun r : ResultVar => (match r with | .tmp t => pure (a.tmps.getD t undef) | .cell ad t => do loadVar t (← asAddr (a.tmps.getD ad undef)) : Sem Value)) = F at h2 ⊢
      have hFc : (F (.cell ad t)).run P W = .ok y W := by subst hF; exact hy
      rw [List.mapM_cons]
      simp only [Sem.run_bind, Sem.run_pure, Result.andThen_ok, hFc, h2]

theorem results_list {fn : Func} {tmps : Array Value} {vs : List Value} (h : (fn.results.toList.mapM fun r => (match r with | .tmp t => pure (tmps.getD t undef) | .cell ad t => do loadVar t (← asAddr (tmps.getD ad undef)) : Sem Value)).run P W = .ok vs W) :
    (results fn tmps).run P W = .ok (if h : vs.toArray.size = 1 then vs.toArray[0] else .tuple vs.toArray) W := by
  unfold results
  rw [Array.mapM_eq_mapM_toList, Sem.run_bind, Sem.run_map]
  refine (congrArg (fun z => Result.andThen (Result.andThen z (fun a w' => .ok a.toArray w')) (fun a w' => (pure (if h : a.size = 1 then a[0] else .tuple a) : Sem Value).run P w')) h).trans ?_
  rfl

theorem tini_sound {args : List AV} {cargs : List Value} (ha : LR sn ι args cargs) (n m d : Nat) : TRel sn ι (tmk (tini args n m) d) { tmps := cargs.toArray ++ Array.replicate (n - cargs.toArray.size) undef, defers := [] } := by
  have h1 : ∀ t u, tini args n m t = some u → ∃ v, (cargs.toArray ++ Array.replicate (n - cargs.toArray.size) undef)[t]? = some v ∧ VR sn ι u v := by
   intro t u h
   have hl := ha.length
   unfold tini at h
   split at h
   · simp at h; subst h
     rename_i v hv
     obtain ⟨x, h1, h2⟩ := ha.get hv
     refine ⟨x, ?_, h2⟩
     have ht : t < cargs.length := (List.getElem?_eq_some_iff.1 h1).1
     rw [Array.getElem?_append_left (by simpa using ht)]
     simpa using h1
   · rename_i hv
     split at h <;> simp at h
     subst h; rename_i hb
     have hb' : t < n := by simpa [Nat.blt_eq] using hb
     have hv' : args.length ≤ t := by simpa using hv
     refine ⟨undef, ?_, vr_undef⟩
     rw [Array.getElem?_append_right (by simp; omega)]
     simp only [Array.getElem?_replicate]
     rw [if_pos (by simp; omega)]
  refine ⟨fun t u hu => h1 t u (tmk_get _ _ _ _ hu), fun t hx => ?_⟩
  obtain ⟨u, hu⟩ := tmk_tex _ _ _ hx
  obtain ⟨v, hv, _⟩ := h1 t u hu
  exact (Array.getElem?_eq_some_iff.1 hv).1

theorem afunc_sound {orc : Orc} {fuel : Nat} (hm : P.follows .mixedOrders = true) (hn : NoNum P) (hO : OrcSound P gl orc) : OrcSound P gl (fun f args H => afunc P gl orc fuel f args H) := by
  intro f args H r H' h sn ι W cargs hg hR ha
  simp only [afunc] at h
  split at h <;> try (simp at h; done)
  rename_i fn hfn
  split at h <;> try (simp at h; done)
  rename_i c hc
  simp only [frcVL_eq, frcH_eq] at h
  split at h <;> try (simp at h; done)
  rename_i x tm H1 hx
  refine calls_of_wp hfn hc (aexec_sound hm hn hO c _ _ _ _ _ _ _ sn ι _ hx hg hR (tini_sound ha _ _ _) fun a1 W1 sn1 ι1 s1 t1 d1 => ?_)
  have key : ∀ {y}, (match aress P tm H1 fn.results.toList with
        | some [v] => some (v, H1)
        | some vs => some (.tuple vs, H1)
        | none => none) = some y → y = (r, H') → ∃ v, (results fn a1.tmps).run P W1 = .ok v W1 ∧ VR sn1 ι1 r v ∧ H1 = H' := by
    rintro y h rfl
    split at h <;> try (simp at h; done)
    · rename_i v hv
      obtain ⟨vs, h1, h2⟩ := aress_sound s1.rel t1 _ _ hv
      simp only [LR] at h1
      obtain ⟨d, ds, rfl, hd, rfl⟩ := h1
      simp at h; obtain ⟨rfl, rfl⟩ := h
      refine ⟨d, ?_, hd, rfl⟩
      rw [results_list h2]; rfl
    · rename_i us hus hv
      obtain ⟨vs, h1, h2⟩ := aress_sound s1.rel t1 _ _ hv
      simp at h; obtain ⟨rfl, rfl⟩ := h
      refine ⟨.tuple vs.toArray, ?_, by simpa [VR] using h1, rfl⟩
      rw [results_list h2]
      have hl := h1.length
      have : vs.length ≠ 1 := by
        intro e
        rw [e] at hl
        match us, hl with
        | [u], _ => exact hus u rfl
      simp [this]
  cases x with
  | normal =>
    obtain ⟨v, k1, k2, rfl⟩ := key h rfl
    exact bodyPost_end k1 d1 ⟨v, sn1, ι1, rfl, k2, s1⟩
  | exit id => simp at h
  | ret =>
    obtain ⟨v, k1, k2, rfl⟩ := key h rfl
    exact bodyPost_ret k1 d1 ⟨v, sn1, ι1, rfl, k2, s1⟩

theorem runs_sound {fuel : Nat} (hm : P.follows .mixedOrders = true) (hn : NoNum P) : ∀ n, OrcSound P gl (runs P gl fuel n)
  | 0 => by intro f args H r H' h; simp [runs] at h
  | n + 1 => by
    have := afunc_sound (fuel := fuel) hm hn (runs_sound (fuel := fuel) hm hn n)
    intro f args H r H' h
    exact this f args H r H' (by simpa [runs] using h)
end fin
end Go.Abs
end

/-
  A verified abstract interpreter, part 19: from a laid variable to what is known of memory, and a function of no argument.
-/
section
set_option linter.unusedSimpArgs false
set_option linter.unusedVariables false
namespace Go.Abs
open Go.RowKit Go.ChangeShapes Go.WideShapes Go.ChangeAt

/-- All of memory as it stands is read alone. -/
def snap0 (W : World) : Snap := fun a => if a.block < W.heap.size then W.cell? a else none

theorem R0 (W : World) : R (snap0 W) noI [] W := by
  refine ⟨fun b => ?_, fun b p h => ?_, fun b o p h => ?_, fun b b' o o' p p' h => ?_, fun a v h => ?_, fun b o p h => by simp at h⟩
  · simp [noI]
  · simp [noI] at h
  · simp at h
  · simp at h
  · unfold snap0 at h
    split at h
    · rename_i hb
      exact ⟨hb, h, fun b o p h => by simp at h⟩
    · simp at h

/-- Behind a call that was handed no block of its own. -/
theorem Stp.below {W W' : World} {sn : Snap} {ι : IMap} {H : AHeap} (h : Stp (snap0 W) noI [] W sn ι H W') : Below W.heap.size W W' :=
  ⟨h.os, h.tape, h.output, h.size, fun c hc => h.frame c hc fun b o p hb => by simp at hb⟩

/-! what a datum is as a list of cells -/
section av
variable {H : Type} {P : Program}

def fsAv (f : TypeId → DataW H → Option (List AV)) (P : Program) (tot : Nat) : List Field → List (DataW H) → Nat → Option (List AV)
  | [], [], off => if Nat.beq off tot then some [] else none
  | fl :: fs, d :: ds, off => if Nat.beq fl.offset off then
      match f fl.type d, fsAv f P tot fs ds (off + P.cellsOf fl.type) with
      | some u, some us => if Nat.beq u.length (P.cellsOf fl.type) then some (u ++ us) else none
      | _, _ => none
    else none
  | _, _, _ => none

def esAv (f : DataW H → Option (List AV)) (ct : Nat) : List (DataW H) → Option (List AV)
  | [] => some []
  | d :: ds => match f d, esAv f ct ds with
    | some u, some us => if Nat.beq u.length ct then some (u ++ us) else none
    | _, _ => none

def avOf (P : Program) : Nat → TypeId → DataW H → Option (List AV)
  | 0, _, _ => none
  | n + 1, t, d => match P.underlying t, d with
    | some .bool, .lit (.bool b) => some [.bool b]
    | some (.int k), .lit (.int _ z) => some [.int k z]
    | some .string, .lit (.string s) => some [.str s]
    | some (.struct fs), .agg ds => fsAv (avOf P n) P (P.cellsOf t) fs.toList ds 0
    | some (.array m e), .agg ds => if Nat.beq (ds.length * P.cellsOf e) (P.cellsOf t) && Nat.beq ds.length m then esAv (avOf P n e) (P.cellsOf e) ds else none
    | _, _ => none

variable {enc : TypeId × Value → H} {w : World} {base : Nat} {sp : Nat → Bool} {held : Bool} {sn : Snap} {ι : IMap}

theorem fsAv_sound {f : TypeId → DataW H → Option (List AV)} {m tot : Nat} (hf : ∀ t d us cs p, f t d = some us → DataW.trod enc P w base sp held m t cs = some (d, p) → LR sn ι us cs) (cs : List Value) (hl : cs.length = tot) :
    ∀ (fs : List Field) (xs : List (DataW H × List MemPlace)) (off : Nat) (us : List AV), fsAv f P tot fs (xs.map (·.1)) off = some us →
      (∀ (i : Nat) (fl : Field), fs[i]? = some fl → DataW.trod enc P w base sp held m fl.type ((cs.drop fl.offset).take (P.cellsOf fl.type)) = xs[i]?) → LR sn ι us (cs.drop off)
  | [], [], off, us, h, hx => by
    simp only [fsAv, List.map_nil] at h
    split at h <;> simp at h
    subst h; rename_i e
    have := Nat.eq_of_beq_eq_true e
    simp [LR]; omega
  | [], x :: xs, off, us, h, hx => by simp [fsAv] at h
  | fl :: fs, [], off, us, h, hx => by simp [fsAv] at h
  | fl :: fs, x :: xs, off, us, h, hx => by
    simp only [fsAv, List.map_cons] at h
    split at h <;> try (simp at h; done)
    rename_i e
    have := Nat.eq_of_beq_eq_true e; subst this
    split at h <;> try (simp at h; done)
    rename_i u us' hu hus
    split at h <;> simp at h
    subst h; rename_i hul
    have hul' := Nat.eq_of_beq_eq_true hul
    have h0 := hx 0 fl rfl
    simp only [List.getElem?_cons_zero] at h0
    have h1 := hf _ _ _ _ _ hu h0
    have h2 := fsAv_sound hf cs hl fs xs _ _ hus fun i fl' hi => by simpa using hx (i + 1) fl' (by simpa using hi)
    have := h1.append h2
    rwa [← List.drop_drop, List.take_append_drop] at this

theorem esAv_sound {f : DataW H → Option (List AV)} {m ct : Nat} {e : TypeId} (hf : ∀ d us cs p, f d = some us → DataW.trod enc P w base sp held m e cs = some (d, p) → LR sn ι us cs) (cs : List Value) :
    ∀ (xs : List (DataW H × List MemPlace)) (k : Nat) (us : List AV), cs.length = (k + xs.length) * ct → esAv f ct (xs.map (·.1)) = some us →
      (∀ (i : Nat), i < xs.length → DataW.trod enc P w base sp held m e ((cs.drop ((k + i) * ct)).take ct) = xs[i]?) → LR sn ι us (cs.drop (k * ct))
  | [], k, us, hl, h, hx => by
    simp [esAv] at h; subst h
    simp at hl
    simp [LR, hl]
  | x :: xs, k, us, hl, h, hx => by
    simp only [esAv, List.map_cons] at h
    split at h <;> try (simp at h; done)
    rename_i u us' hu hus
    split at h <;> simp at h
    subst h
    have h0 := hx 0 (by simp)
    simp only [List.getElem?_cons_zero, Nat.add_zero] at h0
    have h1 := hf _ _ _ _ hu h0
    have h2 := esAv_sound hf cs xs (k + 1) _ (by rw [hl]; simp only [List.length_cons]; congr 1; omega) hus fun i hi => by
      have := hx (i + 1) (by simpa using hi)
      rw [show k + 1 + i = k + (i + 1) from by omega]
      simpa using this
    have := h1.append h2
    rwa [show (k + 1) * ct = k * ct + ct from by rw [Nat.add_mul]; simp, ← List.drop_drop, List.take_append_drop] at this

theorem avOf_sound : ∀ (n : Nat) (t : TypeId) (d : DataW H) (us : List AV) (m : Nat) (cs : List Value) (p : List MemPlace), avOf P n t d = some us → DataW.trod enc P w base sp held m t cs = some (d, p) → LR sn ι us cs
  | 0, t, d, us, m, cs, p, h, ht => by simp [avOf] at h
  | n + 1, t, d, us, m, cs, p, h, ht => by
    simp only [avOf] at h
    split at h <;> try (simp at h; done)
    · rename_i b hu
      simp at h; subst h
      obtain ⟨b', rfl, hx⟩ := DataW.trod_bool hu ht
      simp at hx; simp [LR, VR, hx]
    · rename_i k k' z hu
      simp at h; subst h
      obtain ⟨z', rfl, hx, _⟩ := DataW.trod_int hu ht
      simp at hx; simp [LR, VR, hx]
    · rename_i s hu
      simp at h; subst h
      obtain ⟨s', rfl, hx, _⟩ := DataW.trod_string hu ht
      simp at hx; simp [LR, VR, hx]
    · rename_i fs ds hu
      obtain ⟨xs, m', rfl, hx, hl, hlen, hf⟩ := DataW.trod_struct hu ht
      simp at hx
      obtain ⟨rfl, _⟩ := hx
      have := fsAv_sound (m := m') (fun t d us cs p h1 h2 => avOf_sound n t d us m' cs p h1 h2) cs hl fs.toList xs 0 us (by simpa using h) fun i fl hi => hf i fl (by simpa using hi)
      simpa using this
    · rename_i k e ds hu
      split at h <;> try (simp at h; done)
      rename_i hc
      simp only [Bool.and_eq_true] at hc
      obtain ⟨xs, m', rfl, hx, hl, hlen, hf⟩ := DataW.trod_array hu ht
      simp at hx
      obtain ⟨rfl, _⟩ := hx
      have e1 := Nat.eq_of_beq_eq_true hc.1
      have := esAv_sound (m := m') (ct := P.cellsOf e) (e := e) (fun d us cs p h1 h2 => avOf_sound n e d us m' cs p h1 h2) cs xs 0 us (by rw [hl, ← e1]; simp) (by simpa using h) fun i hi => by simpa using hf i (by omega)
      simpa using this

theorem MR_of_LR {W : World} {g : Nat} (hg : g < W.heap.size) : ∀ (us : List AV) (vs : List Value) (o : Nat), LR (snap0 W) noI us vs → (∀ (i : Nat) (v : Value), vs[i]? = some v → W.cell? ⟨g, o + i, none⟩ = some v) → MR (snap0 W) us g o
  | [], vs, o, h, hc => by simp [MR]
  | u :: us, vs, o, h, hc => by
    simp only [LR] at h
    obtain ⟨d, ds, rfl, h1, h2⟩ := h
    simp only [MR]
    refine ⟨⟨d, ?_, h1⟩, MR_of_LR hg us ds (o + 1) h2 fun i v hi => ?_⟩
    · unfold snap0; rw [if_pos hg]; simpa using hc 0 d rfl
    · rw [show o + 1 + i = o + (i + 1) from by omega]; exact hc (i + 1) v (by simpa using hi)
end av

/-- One laid variable: what is known of it. -/
theorem laid_glob {P : Program} {W : World} {name : String} {d : DataW Unit} {g n : Nat} {t : TypeId} {us : List AV}
    (hg : P.globalNamed name = some g) (hty : (P.globals[g]?).map (·.type) = some t) (ha : avOf P n t d = some us) {rest : List (String × DataW Unit)} {ps : List MemPlace} (h : DataW.LaidVars P W ((name, d) :: rest) ps) :
    MR (snap0 W) us g 0 ∧ ∃ qs, DataW.LaidVars P W rest qs := by
  obtain ⟨g', t', cs, fuel, p, q, hg', ht', hvar, hd, hr, _⟩ := h
  obtain rfl := Option.some.inj (hg.symm.trans hg')
  obtain rfl := Option.some.inj (hty.symm.trans ht')
  have h1 : LR (snap0 W) noI us cs.toList := avOf_sound n t d us fuel cs.toList p ha hd
  have hb : g < W.heap.size := by
    simp only [World.var?, hg, Option.bind_some] at hvar
    split at hvar
    · rename_i hh; exact (Array.getElem?_eq_some_iff.1 hh).1
    · simp at hvar
  refine ⟨MR_of_LR hb us cs.toList 0 h1 fun i v hi => ?_, q, hr⟩
  rw [Nat.zero_add, World.var?_cell hg hvar]; simpa using hi

/-- A function of no argument that answers true: any oracle that is sound. -/
theorem closed_calls {P : Program} {gl : Glob} {orc : Orc} {f : Nat} {b : Bool} {H : AHeap} (hO : OrcSound P gl orc) (h : orc f [] [] = some (.bool b, H)) {W : World} (hg : GlOK gl (snap0 W)) :
    Calls P f #[] W fun e W' => e = .returned (.bool b) ∧ Below W.heap.size W W' := by
  refine (hO f [] [] _ _ h (snap0 W) noI W [] hg (R0 W) (by simp [LR])).mono ?_
  rintro e W' ⟨v, sn', ι', rfl, hv, hs⟩
  cases hv.bool
  exact ⟨rfl, hs.below⟩

/-- What a call must leave behind that turns nothing that was there. -/
theorem post_below {H : Type} {enc : TypeId × Value → H} {P : Program} {f : Func} {s : ChangeSpec} {apart fresh handsOn again : Bool} {W W' : World} {args : Array Value} {v : Value} {ds gs : List (DataW H)} {before pa pv : List MemPlace}
    (hW : DataW.Whole enc P f.params.toList s.vars apart W args.toList ds gs before)
    (hres : ∀ (b : Nat) (sp : Nat → Bool) (hd : Bool), DataW.TrodAll enc P W' b sp hd f.resultTypes.toList (v.resultList f.resultTypes.size) (s.fn H (ds ++ gs)).results [])
    (hargs : ∀ sp : Nat → Bool, (∀ p ∈ before, sp p.block = true) → DataW.TrodAll enc P W' 0 sp true f.params.toList args.toList (s.fn H (ds ++ gs)).args pa)
    (hvars : ∀ sp : Nat → Bool, (∀ p ∈ before, sp p.block = true) → DataW.TrodVars enc P W' sp s.vars (s.fn H (ds ++ gs)).vars pv)
    (hps : before = pa ++ pv) (hb : Below W.heap.size W W')
    (hok : ∀ (j : Nat) (t : TypeId) (r : Value), f.resultTypes[j]? = some t → (v.resultList f.resultTypes.size)[j]? = some r → Value.okWide P W' .any 0 t r) :
    s.post enc P f apart fresh handsOn again W args v W' := by
  have hlt : ∀ p ∈ before, p.block < W.heap.size := fun p hp => hW.lt p hp
  have hold : ∀ p ∈ before, (fun b => decide (b < W.heap.size)) p.block = true := fun p hp => by simpa using hlt p hp
  have hW' := hW
  obtain ⟨_, _, _, _, _, hz, hn⟩ := hW'
  refine ⟨ds, gs, before, [], pa, pv, hW, hres _ _ _, hargs _ hold, hvars _ hold, hb.frame _, fun _ => ⟨hok, _, _, ([] ++ pa) ++ pv, ⟨[] ++ pa, pv, trodAll_append (hargs _ (fun _ _ => rfl)) (hres _ _ _), hvars _ (fun _ _ => rfl), rfl, ?_, ?_⟩, ?_⟩⟩
  · intro b off hp
    have hp' : MemPlace.cell b off ∈ before := by rw [hps]; simpa using hp
    rw [hb.frozen (hlt _ hp')]
    exact hz b off hp'
  · intro ha
    have := hn ha
    rw [hps] at this
    simpa using this
  · intro p hp _
    rw [hps]
    simpa using hp
end Go.Abs
end

/-
  A verified abstract interpreter, part 20: calls n deep, of which some are known.
-/
section
set_option linter.unusedSimpArgs false
set_option linter.unusedVariables false
namespace Go.Abs
open Go.RowKit

/-- As 'runs', but what the table tells is not run. -/
def runsT (P : Program) (gl : Glob) (tbl : Orc) (fuel : Nat) : Nat → Orc
  | 0 => fun _ _ _ => none
  | n + 1 => fun f args H => match tbl f args H with
    | some r => some r
    | none => afunc P gl (runsT P gl tbl fuel n) fuel f args H

theorem runsT_sound {P : Program} {gl : Glob} {tbl : Orc} {fuel : Nat} (hm : P.follows .mixedOrders = true) (hn : NoNum P) (ht : OrcSound P gl tbl) : ∀ n, OrcSound P gl (runsT P gl tbl fuel n)
  | 0 => by intro f args H r H' h; simp [runsT] at h
  | n + 1 => by
    have := afunc_sound (fuel := fuel) hm hn (runsT_sound (fuel := fuel) hm hn ht n)
    intro f args H r H' h
    simp only [runsT] at h
    split at h
    · rename_i y hy
      simp at h; subst h
      exact ht f args H r H' hy
    · exact this f args H r H' h

def memA (f : Nat) (args : List AV) : List (Nat × List AV) → Bool
  | [] => false
  | (g, az) :: l => (Nat.beq f g && veqL args az) || memA f args l

/-- The calls of l, handed no memory, answer true and leave nothing. -/
def tblTrue (l : List (Nat × List AV)) : Orc := fun f args H => match H with
  | [] => if memA f args l then some (.bool true, []) else none
  | _ => none

theorem tblTrue_nil {P : Program} {gl : Glob} : OrcSound P gl (tblTrue []) := by
  intro f args H r H' h
  simp only [tblTrue] at h
  split at h <;> simp [memA] at h

/-- One more. -/
theorem tblTrue_cons {P : Program} {gl : Glob} {fuel n : Nat} (hm : P.follows .mixedOrders = true) (hn : NoNum P) {l : List (Nat × List AV)} (hl : OrcSound P gl (tblTrue l)) {f : Nat} {az : List AV} (h : runsT P gl (tblTrue l) fuel n f az [] = some (.bool true, [])) : OrcSound P gl (tblTrue ((f, az) :: l)) := by
  intro g args H r H' hg
  simp only [tblTrue] at hg
  split at hg <;> try (simp at hg; done)
  split at hg <;> simp at hg
  obtain ⟨rfl, rfl⟩ := hg
  rename_i hmem
  simp only [memA, Bool.or_eq_true, Bool.and_eq_true] at hmem
  rcases hmem with ⟨hm1, hm2⟩ | hm'
  · have := Nat.eq_of_beq_eq_true hm1; subst this
    have := veqL_eq _ _ hm2; subst this
    exact runsT_sound hm hn hl n g args [] _ _ h
  · exact hl g args [] (.bool true) [] (by simp [tblTrue, hm'])

theorem closed_callsT {P : Program} {gl : Glob} {tbl : Orc} {f : Nat} {b : Bool} (hO : OrcSound P gl tbl) (h : tbl f [] [] = some (.bool b, [])) {W : World} (hg : GlOK gl (snap0 W)) :
    Calls P f #[] W fun e W' => e = .returned (.bool b) ∧ Below W.heap.size W W' := by
  refine (hO f [] [] _ _ h (snap0 W) noI W [] hg (R0 W) (by simp [LR])).mono ?_
  rintro e W' ⟨v, sn', ι', rfl, hv, hs⟩
  cases hv.bool
  exact ⟨rfl, hs.below⟩
end Go.Abs
end

/-
  A verified abstract interpreter, part 21: the same, cheap for the kernel: trees of temporaries (their ways laid ahead) and of blocks.
-/
section
set_option linter.unusedSimpArgs false
set_option linter.unusedVariables false
namespace Go.Abs
open Go.RowKit

/-! a node of eight -/
structure N8 (α : Type) where
  a0 : α
  a1 : α
  a2 : α
  a3 : α
  a4 : α
  a5 : α
  a6 : α
  a7 : α

/-- What the kernel has reckoned once and finds again. -/
structure Bx (α : Type) where
  v : α

def N8.sel {α : Type} (e : N8 α) : Nat → α
  | 0 => e.a0 | 1 => e.a1 | 2 => e.a2 | 3 => e.a3 | 4 => e.a4 | 5 => e.a5 | 6 => e.a6 | _ => e.a7

def N8.upd {α : Type} (e : N8 α) (v : α) : Nat → N8 α
  | 0 => { e with a0 := v } | 1 => { e with a1 := v } | 2 => { e with a2 := v } | 3 => { e with a3 := v } | 4 => { e with a4 := v } | 5 => { e with a5 := v } | 6 => { e with a6 := v } | _ => { e with a7 := v }

theorem N8.sel_upd {α : Type} (e : N8 α) (v : α) {i j : Nat} (hi : i < 8) (hj : j < 8) : (e.upd v i).sel j = if j = i then v else e.sel j := by
  match i, hi with
  | 0, _ | 1, _ | 2, _ | 3, _ | 4, _ | 5, _ | 6, _ | 7, _ =>
    match j, hj with
    | 0, _ | 1, _ | 2, _ | 3, _ | 4, _ | 5, _ | 6, _ | 7, _ => simp [N8.upd, N8.sel]

/-- Trees of depth d. -/
def Tre (α : Type) : Nat → Type
  | 0 => α
  | d + 1 => N8 (Tre α d)

def teget {α : Type} : (d : Nat) → Nat → Tre α d → α
  | 0, _, e => e
  | d + 1, t, e => teget d (t / 8) (N8.sel e (t % 8))

def teput {α : Type} : (d : Nat) → Nat → α → Tre α d → Tre α d
  | 0, _, v, _ => v
  | d + 1, t, v, e => N8.upd e (teput d (t / 8) v (N8.sel e (t % 8))) (t % 8)

theorem teget_put {α : Type} : ∀ (d t s : Nat) (v : α) (e : Tre α d), t < 8 ^ d → s < 8 ^ d → teget d s (teput d t v e) = if s = t then v else teget d s e
  | 0, t, s, v, e, ht, hs => by
    simp at ht hs; subst ht; subst hs; simp [teget, teput]
  | d + 1, t, s, v, e, ht, hs => by
    have ht' : t / 8 < 8 ^ d := by rw [Nat.pow_succ] at ht; omega
    have hs' : s / 8 < 8 ^ d := by rw [Nat.pow_succ] at hs; omega
    refine (congrArg (teget d (s / 8)) (N8.sel_upd (α := Tre α d) e (teput d (t / 8) v (N8.sel (α := Tre α d) e (t % 8))) (i := t % 8) (j := s % 8) (by omega) (by omega))).trans ?_
    by_cases h : s % 8 = t % 8
    · rw [if_pos h, teget_put d _ _ _ _ ht' hs']
      have e1 : (s / 8 = t / 8) ↔ s = t := by omega
      have e2 : teget (d + 1) s e = teget d (s / 8) (N8.sel (α := Tre α d) e (t % 8)) := by rw [← h]; rfl
      rw [e2]; simp only [e1]
    · rw [if_neg h, if_neg (by intro e; exact h (by rw [e]))]; rfl

/-! the ways, laid ahead -/
noncomputable def selB {α : Type} (k : Nat) : Bx (N8 α → α) :=
  Nat.rec ⟨fun e => e.a0⟩ (fun k _ => Nat.rec ⟨fun e => e.a1⟩ (fun k _ => Nat.rec ⟨fun e => e.a2⟩ (fun k _ => Nat.rec ⟨fun e => e.a3⟩ (fun k _ => Nat.rec ⟨fun e => e.a4⟩ (fun k _ => Nat.rec ⟨fun e => e.a5⟩
    (fun k _ => Nat.rec ⟨fun e => e.a6⟩ (fun _ _ => ⟨fun e => e.a7⟩) k) k) k) k) k) k) k

theorem selB_eq {α : Type} : ∀ (k : Nat) (e : N8 α), (selB k).v e = e.sel k
  | 0, _ | 1, _ | 2, _ | 3, _ | 4, _ | 5, _ | 6, _ | _ + 7, _ => rfl

noncomputable def getB (α : Type) (d : Nat) : Nat → Bx (Tre α d → α) :=
  Nat.rec (motive := fun d => Nat → Bx (Tre α d → α)) (fun _ => ⟨fun e => e⟩) (fun d ih t => Bx.rec (fun g => Bx.rec (fun s => ⟨fun e => g (s e)⟩) (selB (α := Tre α d) (Nat.mod t 8))) (ih (Nat.div t 8))) d

theorem getB_eq {α : Type} : ∀ (d t : Nat) (e : Tre α d), (getB α d t).v e = teget d t e
  | 0, t, e => rfl
  | d + 1, t, e => by
    refine (congrArg (getB α d (t / 8)).v (selB_eq (α := Tre α d) (t % 8) e)).trans ?_
    exact getB_eq d _ _

abbrev PutT (α β : Type) (d : Nat) := α → Tre α d → (Tre α d → β) → β

noncomputable def putN {α β γ : Type} (k : Nat) : Bx ((α → γ → (γ → β) → β) → α → N8 γ → (N8 γ → β) → β) :=
  Nat.rec ⟨fun g v e f => N8.rec (fun a0 a1 a2 a3 a4 a5 a6 a7 => g v a0 fun x => f ⟨x, a1, a2, a3, a4, a5, a6, a7⟩) e⟩ (fun k _ =>
  Nat.rec ⟨fun g v e f => N8.rec (fun a0 a1 a2 a3 a4 a5 a6 a7 => g v a1 fun x => f ⟨a0, x, a2, a3, a4, a5, a6, a7⟩) e⟩ (fun k _ =>
  Nat.rec ⟨fun g v e f => N8.rec (fun a0 a1 a2 a3 a4 a5 a6 a7 => g v a2 fun x => f ⟨a0, a1, x, a3, a4, a5, a6, a7⟩) e⟩ (fun k _ =>
  Nat.rec ⟨fun g v e f => N8.rec (fun a0 a1 a2 a3 a4 a5 a6 a7 => g v a3 fun x => f ⟨a0, a1, a2, x, a4, a5, a6, a7⟩) e⟩ (fun k _ =>
  Nat.rec ⟨fun g v e f => N8.rec (fun a0 a1 a2 a3 a4 a5 a6 a7 => g v a4 fun x => f ⟨a0, a1, a2, a3, x, a5, a6, a7⟩) e⟩ (fun k _ =>
  Nat.rec ⟨fun g v e f => N8.rec (fun a0 a1 a2 a3 a4 a5 a6 a7 => g v a5 fun x => f ⟨a0, a1, a2, a3, a4, x, a6, a7⟩) e⟩ (fun k _ =>
  Nat.rec ⟨fun g v e f => N8.rec (fun a0 a1 a2 a3 a4 a5 a6 a7 => g v a6 fun x => f ⟨a0, a1, a2, a3, a4, a5, x, a7⟩) e⟩ (fun _ _ =>
  ⟨fun g v e f => N8.rec (fun a0 a1 a2 a3 a4 a5 a6 a7 => g v a7 fun x => f ⟨a0, a1, a2, a3, a4, a5, a6, x⟩) e⟩) k) k) k) k) k) k) k

theorem putN_eq {α β γ : Type} : ∀ (k : Nat) (g : α → γ → (γ → β) → β) (v : α) (e : N8 γ) (f : N8 γ → β), (putN k).v g v e f = g v (e.sel k) fun x => f (e.upd x k)
  | 0, _, _, _, _ | 1, _, _, _, _ | 2, _, _, _, _ | 3, _, _, _, _ | 4, _, _, _, _ | 5, _, _, _, _ | 6, _, _, _, _ | _ + 7, _, _, _, _ => rfl

noncomputable def putB (α β : Type) (d : Nat) : Nat → Bx (PutT α β d) :=
  Nat.rec (motive := fun d => Nat → Bx (PutT α β d)) (fun _ => ⟨fun v _ f => f v⟩) (fun d ih t => Bx.rec (fun g => Bx.rec (fun s => ⟨fun v e f => s g v e f⟩) (putN (γ := Tre α d) (Nat.mod t 8))) (ih (Nat.div t 8))) d

theorem putB_eq {α β : Type} : ∀ (d t : Nat) (v : α) (e : Tre α d) (f : Tre α d → β), (putB α β d t).v v e f = f (teput d t v e)
  | 0, t, v, e, f => rfl
  | d + 1, t, v, e, f => by
    refine (putN_eq (γ := Tre α d) (t % 8) (putB α β d (t / 8)).v v e f).trans ?_
    exact putB_eq d _ _ _ _

/-- The same everywhere. -/
def tesame {α : Type} (v : α) : (d : Nat) → Tre α d
  | 0 => v
  | d + 1 => ⟨tesame v d, tesame v d, tesame v d, tesame v d, tesame v d, tesame v d, tesame v d, tesame v d⟩

theorem teget_same {α : Type} (v : α) : ∀ (d t : Nat), teget d t (tesame v d) = v
  | 0, t => rfl
  | d + 1, t => by
    simp only [teget, tesame]
    have : ∀ k, N8.sel (⟨tesame v d, tesame v d, tesame v d, tesame v d, tesame v d, tesame v d, tesame v d, tesame v d⟩ : N8 (Tre α d)) k = tesame v d := by
      intro k; match k with
      | 0 | 1 | 2 | 3 | 4 | 5 | 6 | _ + 7 => rfl
    rw [this]; exact teget_same v d _

/-! blocks: a tree of two -/
def BT (α : Type) : Nat → Type
  | 0 => α
  | d + 1 => BT α d × BT α d

noncomputable def btget {α : Type} (z : α) (d : Nat) : Nat → BT α d → α :=
  Nat.rec (motive := fun d => Nat → BT α d → α) (fun b t => Bool.rec z t (Nat.beq b 0)) (fun _ ih b t => ih (Nat.div b 2) (Bool.rec t.2 t.1 (Nat.beq (Nat.mod b 2) 0))) d

noncomputable def btput {α : Type} (d : Nat) : Nat → α → BT α d → BT α d :=
  Nat.rec (motive := fun d => Nat → α → BT α d → BT α d) (fun _ v _ => v) (fun _ ih b v t => Bool.rec (t.1, ih (Nat.div b 2) v t.2) (ih (Nat.div b 2) v t.1, t.2) (Nat.beq (Nat.mod b 2) 0)) d

noncomputable def btputK {α β : Type} (d : Nat) : Nat → α → BT α d → (BT α d → β) → β :=
  Nat.rec (motive := fun d => Nat → α → BT α d → (BT α d → β) → β) (fun _ v _ f => f v)
    (fun _ ih b v t f => Prod.rec (fun l r => Bool.rec (ih (Nat.div b 2) v r fun x => f (l, x)) (ih (Nat.div b 2) v l fun x => f (x, r)) (Nat.beq (Nat.mod b 2) 0)) t) d

theorem btputK_eq {α β : Type} : ∀ (d b : Nat) (v : α) (t : BT α d) (f : BT α d → β), btputK d b v t f = f (btput d b v t)
  | 0, b, v, t, f => rfl
  | d + 1, b, v, (l, r), f => by
    show (Bool.rec (btputK d (b / 2) v r fun x => f (l, x)) (btputK d (b / 2) v l fun x => f (x, r)) (Nat.beq (b % 2) 0) : β) = f (Bool.rec (l, btput d (b / 2) v r) (btput d (b / 2) v l, r) (Nat.beq (b % 2) 0))
    cases Nat.beq (b % 2) 0 with
    | true => exact btputK_eq d _ _ _ _
    | false => exact btputK_eq d _ _ _ _

theorem btget_ge {α : Type} (z : α) : ∀ (d b : Nat) (t : BT α d), 2 ^ d ≤ b → btget z d b t = z
  | 0, b, t, h => by
    show (Bool.rec z t (Nat.beq b 0) : α) = z
    have : Nat.beq b 0 = false := by cases hq : Nat.beq b 0 with | false => rfl | true => have := Nat.eq_of_beq_eq_true hq; simp at h; omega
    rw [this]
  | d + 1, b, t, h => by
    show btget z d (b / 2) (Bool.rec t.2 t.1 (Nat.beq (b % 2) 0)) = z
    exact btget_ge z d _ _ (by rw [Nat.pow_succ] at h; omega)

theorem btget_put {α : Type} (z : α) : ∀ (d b c : Nat) (v : α) (t : BT α d), b < 2 ^ d → btget z d c (btput d b v t) = if c = b then v else btget z d c t
  | 0, b, c, v, t, h => by
    simp at h; subst h
    show (Bool.rec z v (Nat.beq c 0) : α) = if c = 0 then v else (Bool.rec z t (Nat.beq c 0) : α)
    by_cases hc : c = 0
    · subst hc; simp
    · have : Nat.beq c 0 = false := by cases hq : Nat.beq c 0 with | false => rfl | true => exact absurd (Nat.eq_of_beq_eq_true hq) hc
      rw [if_neg hc, this]
  | d + 1, b, c, v, t, h => by
    have h' : b / 2 < 2 ^ d := by rw [Nat.pow_succ] at h; omega
    show btget z d (c / 2) (Bool.rec (btput (d + 1) b v t).2 (btput (d + 1) b v t).1 (Nat.beq (c % 2) 0)) = if c = b then v else btget z d (c / 2) (Bool.rec t.2 t.1 (Nat.beq (c % 2) 0))
    have hb : btput (d + 1) b v t = Bool.rec (t.1, btput d (b / 2) v t.2) (btput d (b / 2) v t.1, t.2) (Nat.beq (b % 2) 0) := rfl
    rw [hb]
    have hcase : ∀ n : Nat, (n % 2 = 0 ∧ Nat.beq (n % 2) 0 = true) ∨ (n % 2 = 1 ∧ Nat.beq (n % 2) 0 = false) := by
      intro n
      rcases Nat.mod_two_eq_zero_or_one n with e | e
      · exact .inl ⟨e, by rw [e]; rfl⟩
      · exact .inr ⟨e, by rw [e]; rfl⟩
    rcases hcase b with ⟨b1, b2⟩ | ⟨b1, b2⟩ <;> rcases hcase c with ⟨c1, c2⟩ | ⟨c1, c2⟩ <;> rw [b2, c2] <;> simp only
    · rw [btget_put z d _ _ _ _ h']
      have e : (c / 2 = b / 2) ↔ c = b := by omega
      simp only [e]
    · rw [if_neg (by omega)]
    · rw [if_neg (by omega)]
    · rw [btget_put z d _ _ _ _ h']
      have e : (c / 2 = b / 2) ↔ c = b := by omega
      simp only [e]

def btsame {α : Type} (z : α) : (d : Nat) → BT α d
  | 0 => z
  | d + 1 => (btsame z d, btsame z d)

theorem btget_same {α : Type} (z : α) : ∀ (d b : Nat), btget z d b (btsame z d) = z
  | 0, b => by show (Bool.rec z z (Nat.beq b 0) : α) = z; cases Nat.beq b 0 <;> rfl
  | d + 1, b => by
    show btget z d (b / 2) (Bool.rec (btsame z d) (btsame z d) (Nat.beq (b % 2) 0)) = z
    have : (Bool.rec (btsame z d) (btsame z d) (Nat.beq (b % 2) 0) : BT α d) = btsame z d := by cases Nat.beq (b % 2) 0 <;> rfl
    rw [this]; exact btget_same z d _

end Go.Abs
end

/-
  A verified abstract interpreter, part 22: memory as a tree of blocks; what stands for what.
-/
section
set_option linter.unusedSimpArgs false
set_option linter.unusedVariables false
namespace Go.Abs
open Go.RowKit

/-- Memory: how many blocks, and they. -/
structure TH where
  sz : Nat
  tr : BT AObj 12

def deadObj : AObj := ⟨false, 0, 0, .cells [] 0⟩
noncomputable def TH.get (T : TH) (b : Nat) : AObj := btget deadObj 12 b T.tr
def TH.empty : TH := ⟨0, btsame deadObj 12⟩

/-- The tree holds what the list holds; what lives in the tree shares with nothing that lives there. -/
structure Rep (T : TH) (H : AHeap) : Prop where
  sz : T.sz = H.length
  le : T.sz ≤ 4096
  obj : ∀ b, (T.get b).alive = true → H[b]? = some (T.get b)
  fam : ∀ b c, (T.get b).alive = true → (T.get c).alive = true → (T.get b).fam = (T.get c).fam → b = c
  flt : ∀ b, (T.get b).alive = true → (T.get b).fam < T.sz

theorem Rep.empty : Rep TH.empty [] := by
  have h : ∀ b, TH.empty.get b = deadObj := fun b => btget_same deadObj 12 b
  refine ⟨rfl, by simp [TH.empty], ?_, ?_, ?_⟩ <;> intro b <;> simp [h, deadObj]

noncomputable def TH.set (T : TH) (b : Nat) (o : AObj) : TH := ⟨T.sz, btput 12 b o T.tr⟩
noncomputable def TH.push (T : TH) (o : AObj) : TH := ⟨T.sz + 1, btput 12 T.sz o T.tr⟩

theorem TH.get_set {T : TH} {b : Nat} (o : AObj) (hb : b < 4096) (c : Nat) : (T.set b o).get c = if c = b then o else T.get c := btget_put deadObj 12 b c o T.tr hb
theorem TH.get_push {T : TH} (o : AObj) (hb : T.sz < 4096) (c : Nat) : (T.push o).get c = if c = T.sz then o else T.get c := btget_put deadObj 12 T.sz c o T.tr hb

theorem Rep.lt {T : TH} {H : AHeap} (h : Rep T H) {b : Nat} (hb : (T.get b).alive = true) : b < T.sz := by
  have := (List.getElem?_eq_some_iff.1 (h.obj b hb)).1
  rw [h.sz]; exact this

/-- One block is written. -/
theorem Rep.set {T : TH} {H : AHeap} (h : Rep T H) {b : Nat} (hb : (T.get b).alive = true) (bd : ABody) :
    Rep (T.set b { T.get b with body := bd }) ((wkil b (T.get b).fam H).set b { T.get b with body := bd }) := by
  have hlt := h.lt hb
  have hb4 : b < 4096 := Nat.lt_of_lt_of_le hlt h.le
  have hg := TH.get_set (T := T) (b := b) { T.get b with body := bd } hb4
  have hal : ∀ c, ((T.set b { T.get b with body := bd }).get c).alive = true → (T.get c).alive = true ∧ ((T.set b { T.get b with body := bd }).get c).fam = (T.get c).fam := by
    intro c hc
    rw [hg] at hc ⊢
    split at hc
    · rename_i e; subst e; rw [if_pos rfl]; exact ⟨hb, rfl⟩
    · rename_i e; rw [if_neg e]; exact ⟨hc, rfl⟩
  refine ⟨by simp [TH.set, wkil, kil_length, h.sz], h.le, ?_, ?_, ?_⟩
  · intro c hc
    have hc' := (hal c hc).1
    rw [hg]
    split
    · rename_i e; subst e
      rw [List.getElem?_set, if_pos rfl, if_pos (by rw [wkil, kil_length, ← h.sz]; exact hlt)]
    · rename_i e
      rw [List.getElem?_set, if_neg (Ne.symm e), wkil, kil_get, h.obj c hc']
      have hf : (T.get c).fam ≠ (T.get b).fam := fun hf => e (h.fam c b hc' hb hf)
      have hf2 : Nat.beq (T.get c).fam (T.get b).fam = false := by cases hq : Nat.beq (T.get c).fam (T.get b).fam with | false => rfl | true => exact absurd (Nat.eq_of_beq_eq_true hq) hf
      simp [hf]
  · intro c c' hc hc' hf
    obtain ⟨h1, h2⟩ := hal c hc; obtain ⟨h3, h4⟩ := hal c' hc'
    exact h.fam c c' h1 h3 (by rw [← h2, ← h4]; exact hf)
  · intro c hc
    obtain ⟨h1, h2⟩ := hal c hc
    rw [h2]; exact h.flt c h1

theorem Rep.set' {T : TH} {H : AHeap} (h : Rep T H) {b fam sh : Nat} {bd0 : ABody} (e : T.get b = ⟨true, fam, sh, bd0⟩) (bd : ABody) : Rep (T.set b ⟨true, fam, sh, bd⟩) ((wkil b fam H).set b ⟨true, fam, sh, bd⟩) := by
  have := h.set (b := b) (by rw [e]) bd
  simp only [e] at this
  exact this

/-- A block is given up. -/
theorem Rep.lose {T : TH} {H : AHeap} (h : Rep T H) {b : Nat} {o : AObj} (hb : (T.get b).alive = true) : Rep (T.set b deadObj) ((wkil b (T.get b).fam H).set b o.dead) := by
  have hlt := h.lt hb
  have hb4 : b < 4096 := Nat.lt_of_lt_of_le hlt h.le
  have hg := TH.get_set (T := T) (b := b) deadObj hb4
  have hal : ∀ c, ((T.set b deadObj).get c).alive = true → c ≠ b ∧ (T.get c).alive = true ∧ (T.set b deadObj).get c = T.get c := by
    intro c hc
    rw [hg] at hc
    split at hc
    · simp [deadObj] at hc
    · rename_i e; exact ⟨e, hc, by rw [hg, if_neg e]⟩
  refine ⟨by simp [TH.set, wkil, kil_length, h.sz], h.le, ?_, ?_, ?_⟩
  · intro c hc
    obtain ⟨e, hc', hcc⟩ := hal c hc
    rw [hcc, List.getElem?_set, if_neg (Ne.symm e), wkil, kil_get, h.obj c hc']
    have hf : (T.get c).fam ≠ (T.get b).fam := fun hf => e (h.fam c b hc' hb hf)
    simp [hf]
  · intro c c' hc hc' hf
    obtain ⟨_, h1, h2⟩ := hal c hc; obtain ⟨_, h3, h4⟩ := hal c' hc'
    rw [h2, h4] at hf
    exact h.fam c c' h1 h3 hf
  · intro c hc
    obtain ⟨_, h1, h2⟩ := hal c hc
    rw [h2]; exact h.flt c h1

/-- A new block. -/
theorem Rep.push {T : TH} {H : AHeap} (h : Rep T H) (hs : T.sz < 4096) (bd : ABody) : Rep (T.push ⟨true, T.sz, 0, bd⟩) (H ++ [⟨true, H.length, 0, bd⟩]) := by
  have hg := TH.get_push (T := T) ⟨true, T.sz, 0, bd⟩ hs
  refine ⟨by simp [TH.push, h.sz], hs, ?_, ?_, ?_⟩
  · intro c hc
    rw [hg] at hc ⊢
    split at hc
    · rename_i e; subst e; rw [if_pos rfl, List.getElem?_append_right (by rw [h.sz]; exact Nat.le_refl _), ← h.sz]; simp
    · rename_i e; rw [if_neg e, List.getElem?_append_left (by rw [← h.sz]; exact h.lt hc)]; exact h.obj c hc
  · intro c c' hc hc' hf
    rw [hg] at hc hc'; rw [hg, hg] at hf
    split at hc <;> split at hc'
    · rename_i e e'; rw [e, e']
    · rename_i e e'; rw [if_pos e, if_neg e'] at hf; have := h.flt c' hc'; simp at hf; omega
    · rename_i e e'; rw [if_neg e, if_pos e'] at hf; have := h.flt c hc; simp at hf; omega
    · rename_i e e'; rw [if_neg e, if_neg e'] at hf; exact h.fam c c' hc hc' hf
  · intro c hc
    rw [hg] at hc ⊢
    show _ < T.sz + 1
    split at hc
    · rename_i e; rw [if_pos e]; simp
    · rename_i e; rw [if_neg e]; have := h.flt c hc; omega

/-- A slice grows in place: the old view is given up in the tree. -/
theorem Rep.grow {T : TH} {H : AHeap} (h : Rep T H) {b : Nat} (hb : (T.get b).alive = true) (hs : T.sz < 4096) (e sh : Nat) (bd : ABody) :
    Rep ((T.set b deadObj).push ⟨true, (T.get b).fam, sh, bd⟩) (ekil (T.get b).fam e H ++ [⟨true, (T.get b).fam, sh, bd⟩]) := by
  have hlt := h.lt hb
  have hb4 : b < 4096 := Nat.lt_of_lt_of_le hlt h.le
  have hg1 := TH.get_set (T := T) (b := b) deadObj hb4
  have hg := TH.get_push (T := T.set b deadObj) ⟨true, (T.get b).fam, sh, bd⟩ hs
  have hsz : (T.set b deadObj).sz = T.sz := rfl
  rw [hsz] at hg
  have hal : ∀ c, c ≠ T.sz → (((T.set b deadObj).push ⟨true, (T.get b).fam, sh, bd⟩).get c).alive = true → c ≠ b ∧ (T.get c).alive = true ∧ ((T.set b deadObj).push ⟨true, (T.get b).fam, sh, bd⟩).get c = T.get c := by
    intro c hne hc
    rw [hg, if_neg hne, hg1] at hc
    split at hc
    · simp [deadObj] at hc
    · rename_i e'; exact ⟨e', hc, by rw [hg, if_neg hne, hg1, if_neg e']⟩
  refine ⟨by simp [TH.push, TH.set, ekil, kil_length, h.sz], hs, ?_, ?_, ?_⟩
  · intro c hc
    by_cases hne : c = T.sz
    · subst hne
      rw [hg, if_pos rfl, List.getElem?_append_right (by rw [ekil, kil_length, h.sz]; exact Nat.le_refl _), ekil, kil_length, h.sz]; simp
    · obtain ⟨h1, h2, h3⟩ := hal c hne hc
      have hcl := h.lt h2
      rw [h3, List.getElem?_append_left (by rw [ekil, kil_length, ← h.sz]; exact hcl), ekil, kil_get, h.obj c h2]
      have hf : (T.get c).fam ≠ (T.get b).fam := fun hf => h1 (h.fam c b h2 hb hf)
      have hf2 : Nat.beq (T.get c).fam (T.get b).fam = false := by cases hq : Nat.beq (T.get c).fam (T.get b).fam with | false => rfl | true => exact absurd (Nat.eq_of_beq_eq_true hq) hf
      simp [hf]
  · intro c c' hc hc' hf
    by_cases hne : c = T.sz <;> by_cases hne' : c' = T.sz
    · rw [hne, hne']
    · obtain ⟨h1, h2, h3⟩ := hal c' hne' hc'
      rw [h3, hne, hg, if_pos rfl] at hf
      exact absurd (h.fam c' b h2 hb hf.symm) h1
    · obtain ⟨h1, h2, h3⟩ := hal c hne hc
      rw [h3, hne', hg, if_pos rfl] at hf
      exact absurd (h.fam c b h2 hb hf) h1
    · obtain ⟨h1, h2, h3⟩ := hal c hne hc
      obtain ⟨h1', h2', h3'⟩ := hal c' hne' hc'
      rw [h3, h3'] at hf
      exact h.fam c c' h2 h2' hf
  · intro c hc
    show _ < T.sz + 1
    by_cases hne : c = T.sz
    · rw [hne, hg, if_pos rfl]; have := h.flt b hb; simp; omega
    · obtain ⟨h1, h2, h3⟩ := hal c hne hc
      rw [h3]; have := h.flt c h2; omega

/-! how a run ends, and what is handed on -/
abbrev Res := Option (AV × TH)
abbrev Knt := AV → TH → Res
abbrev FOrc := Nat → List AV → TH → Res

/-- The quick oracle answers as the other does. -/
def OrcSim (forc : FOrc) (orc : Orc) : Prop := ∀ f args T r T', forc f args T = some (r, T') → ∀ H, Rep T H → ∃ H', orc f args H = some (r, H') ∧ Rep T' H'

/-! taking apart, for the kernel: minors that are closed -/
noncomputable def frc1 {β : Type} (v : AV) : (AV → β) → β :=
  AV.rec (motive_1 := fun _ => (AV → β) → β) (motive_2 := fun _ => Unit) (fun b f => f (.bool b)) (fun k n f => f (.int k n)) (fun s f => f (.str s)) (fun f => f .nptr) (fun b o f => f (.ptr b o)) (fun cs _ f => f (.rp cs)) (fun f => f .nslice)
    (fun b o l c z f => f (.slice b o l c z)) (fun n z cs _ f => f (.rs n z cs)) (fun f => f .nmap) (fun b f => f (.map b)) (fun fn a b _ _ f => f (.func fn a b)) (fun f => f .nfunc) (fun t v _ f => f (.iface t v)) (fun f => f .niface)
    (fun cs _ f => f (.agg cs)) (fun vs _ f => f (.tuple vs)) () (fun _ _ _ _ => ()) v

theorem frc1_eq {β : Type} (v : AV) (f : AV → β) : frc1 v f = f v := by cases v <;> rfl

noncomputable def onInt {β : Type} (v : AV) : (IntKind → Int → β) → β → β :=
  AV.rec (motive_1 := fun _ => (IntKind → Int → β) → β → β) (motive_2 := fun _ => Unit) (fun _ _ d => d) (fun k n f _ => f k n) (fun _ _ d => d) (fun _ d => d) (fun _ _ _ d => d) (fun _ _ _ d => d) (fun _ d => d)
    (fun _ _ _ _ _ _ d => d) (fun _ _ _ _ _ d => d) (fun _ d => d) (fun _ _ d => d) (fun _ _ _ _ _ _ d => d) (fun _ d => d) (fun _ _ _ _ d => d) (fun _ d => d)
    (fun _ _ _ d => d) (fun _ _ _ d => d) () (fun _ _ _ _ => ()) v

theorem onInt_cases {β : Type} (v : AV) (f : IntKind → Int → β) (d : β) : (∃ k n, v = .int k n ∧ onInt v f d = f k n) ∨ onInt v f d = d := by
  cases v <;> first | exact .inl ⟨_, _, rfl, rfl⟩ | exact .inr rfl

noncomputable def onBool {β : Type} (v : AV) : (Bool → β) → β → β :=
  AV.rec (motive_1 := fun _ => (Bool → β) → β → β) (motive_2 := fun _ => Unit) (fun b f _ => f b) (fun _ _ _ d => d) (fun _ _ d => d) (fun _ d => d) (fun _ _ _ d => d) (fun _ _ _ d => d) (fun _ d => d)
    (fun _ _ _ _ _ _ d => d) (fun _ _ _ _ _ d => d) (fun _ d => d) (fun _ _ d => d) (fun _ _ _ _ _ _ d => d) (fun _ d => d) (fun _ _ _ _ d => d) (fun _ d => d)
    (fun _ _ _ d => d) (fun _ _ _ d => d) () (fun _ _ _ _ => ()) v

theorem onBool_cases {β : Type} (v : AV) (f : Bool → β) (d : β) : (∃ b, v = .bool b ∧ onBool v f d = f b) ∨ ((∀ b, v ≠ .bool b) ∧ onBool v f d = d) := by
  cases v <;> first | exact .inl ⟨_, rfl, rfl⟩ | exact .inr ⟨fun b h => (by cases h), rfl⟩

noncomputable def onStr {β : Type} (v : AV) : (List UInt8 → β) → β → β :=
  AV.rec (motive_1 := fun _ => (List UInt8 → β) → β → β) (motive_2 := fun _ => Unit) (fun _ _ d => d) (fun _ _ _ d => d) (fun s f _ => f s) (fun _ d => d) (fun _ _ _ d => d) (fun _ _ _ d => d) (fun _ d => d)
    (fun _ _ _ _ _ _ d => d) (fun _ _ _ _ _ d => d) (fun _ d => d) (fun _ _ d => d) (fun _ _ _ _ _ _ d => d) (fun _ d => d) (fun _ _ _ _ d => d) (fun _ d => d)
    (fun _ _ _ d => d) (fun _ _ _ d => d) () (fun _ _ _ _ => ()) v

theorem onStr_cases {β : Type} (v : AV) (f : List UInt8 → β) (d : β) : (∃ b, v = .str b ∧ onStr v f d = f b) ∨ onStr v f d = d := by
  cases v <;> first | exact .inl ⟨_, rfl, rfl⟩ | exact .inr rfl

/-- A pointer of ours; a pointer to what is read alone. -/
noncomputable def onPtr {β : Type} (v : AV) : (Nat → Nat → β) → (List AV → β) → β → β :=
  AV.rec (motive_1 := fun _ => (Nat → Nat → β) → (List AV → β) → β → β) (motive_2 := fun _ => Unit) (fun _ _ _ d => d) (fun _ _ _ _ d => d) (fun _ _ _ d => d) (fun _ _ d => d) (fun b o f _ _ => f b o) (fun cs _ _ g _ => g cs) (fun _ _ d => d)
    (fun _ _ _ _ _ _ _ d => d) (fun _ _ _ _ _ _ d => d) (fun _ _ d => d) (fun _ _ _ d => d) (fun _ _ _ _ _ _ _ d => d) (fun _ _ d => d) (fun _ _ _ _ _ d => d) (fun _ _ d => d)
    (fun _ _ _ _ d => d) (fun _ _ _ _ d => d) () (fun _ _ _ _ => ()) v

theorem onPtr_cases {β : Type} (v : AV) (f : Nat → Nat → β) (g : List AV → β) (d : β) : (∃ b o, v = .ptr b o ∧ onPtr v f g d = f b o) ∨ (∃ cs, v = .rp cs ∧ onPtr v f g d = g cs) ∨ onPtr v f g d = d := by
  cases v <;> first | exact .inl ⟨_, _, rfl, rfl⟩ | exact .inr (.inl ⟨_, rfl, rfl⟩) | exact .inr (.inr rfl)

/-- A slice: ours, read alone, none. -/
noncomputable def onSlice {β : Type} (v : AV) : (Nat → Nat → Nat → Nat → Nat → β) → (Nat → Nat → List AV → β) → β → β → β :=
  AV.rec (motive_1 := fun _ => (Nat → Nat → Nat → Nat → Nat → β) → (Nat → Nat → List AV → β) → β → β → β) (motive_2 := fun _ => Unit) (fun _ _ _ _ d => d) (fun _ _ _ _ _ d => d) (fun _ _ _ _ d => d) (fun _ _ _ d => d) (fun _ _ _ _ _ d => d) (fun _ _ _ _ _ d => d) (fun _ _ e _ => e)
    (fun b o l c z f _ _ _ => f b o l c z) (fun n z cs _ _ g _ _ => g n z cs) (fun _ _ _ d => d) (fun _ _ _ _ d => d) (fun _ _ _ _ _ _ _ _ d => d) (fun _ _ _ d => d) (fun _ _ _ _ _ _ d => d) (fun _ _ _ d => d)
    (fun _ _ _ _ _ d => d) (fun _ _ _ _ _ d => d) () (fun _ _ _ _ => ()) v

theorem onSlice_cases {β : Type} (v : AV) (f : Nat → Nat → Nat → Nat → Nat → β) (g : Nat → Nat → List AV → β) (e d : β) :
    (∃ b o l c z, v = .slice b o l c z ∧ onSlice v f g e d = f b o l c z) ∨ (∃ n z cs, v = .rs n z cs ∧ onSlice v f g e d = g n z cs) ∨ (v = .nslice ∧ onSlice v f g e d = e) ∨ onSlice v f g e d = d := by
  cases v <;> first | exact .inl ⟨_, _, _, _, _, rfl, rfl⟩ | exact .inr (.inl ⟨_, _, _, rfl, rfl⟩) | exact .inr (.inr (.inl ⟨rfl, rfl⟩)) | exact .inr (.inr (.inr rfl))

noncomputable def onTuple {β : Type} (v : AV) : (List AV → β) → β → β :=
  AV.rec (motive_1 := fun _ => (List AV → β) → β → β) (motive_2 := fun _ => Unit) (fun _ _ d => d) (fun _ _ _ d => d) (fun _ _ d => d) (fun _ d => d) (fun _ _ _ d => d) (fun _ _ _ d => d) (fun _ d => d)
    (fun _ _ _ _ _ _ d => d) (fun _ _ _ _ _ d => d) (fun _ d => d) (fun _ _ d => d) (fun _ _ _ _ _ _ d => d) (fun _ d => d) (fun _ _ _ _ d => d) (fun _ d => d)
    (fun _ _ _ d => d) (fun vs _ f _ => f vs) () (fun _ _ _ _ => ()) v

theorem onTuple_cases {β : Type} (v : AV) (f : List AV → β) (d : β) : (∃ b, v = .tuple b ∧ onTuple v f d = f b) ∨ onTuple v f d = d := by
  cases v <;> first | exact .inl ⟨_, rfl, rfl⟩ | exact .inr rfl

noncomputable def onAgg {β : Type} (v : AV) : (List AV → β) → β → β :=
  AV.rec (motive_1 := fun _ => (List AV → β) → β → β) (motive_2 := fun _ => Unit) (fun _ _ d => d) (fun _ _ _ d => d) (fun _ _ d => d) (fun _ d => d) (fun _ _ _ d => d) (fun _ _ _ d => d) (fun _ d => d)
    (fun _ _ _ _ _ _ d => d) (fun _ _ _ _ _ d => d) (fun _ d => d) (fun _ _ d => d) (fun _ _ _ _ _ _ d => d) (fun _ d => d) (fun _ _ _ _ d => d) (fun _ d => d)
    (fun vs _ f _ => f vs) (fun _ _ _ d => d) () (fun _ _ _ _ => ()) v

theorem onAgg_cases {β : Type} (v : AV) (f : List AV → β) (d : β) : (∃ b, v = .agg b ∧ onAgg v f d = f b) ∨ ((∀ b, v ≠ .agg b) ∧ onAgg v f d = d) := by
  cases v <;> first | exact .inl ⟨_, rfl, rfl⟩ | exact .inr ⟨fun b h => (by cases h), rfl⟩

noncomputable def onFunc {β : Type} (v : AV) : (Fn → List AV → List AV → β) → β → β :=
  AV.rec (motive_1 := fun _ => (Fn → List AV → List AV → β) → β → β) (motive_2 := fun _ => Unit) (fun _ _ d => d) (fun _ _ _ d => d) (fun _ _ d => d) (fun _ d => d) (fun _ _ _ d => d) (fun _ _ _ d => d) (fun _ d => d)
    (fun _ _ _ _ _ _ d => d) (fun _ _ _ _ _ d => d) (fun _ d => d) (fun _ _ d => d) (fun fn a b _ _ f _ => f fn a b) (fun _ d => d) (fun _ _ _ _ d => d) (fun _ d => d)
    (fun _ _ _ d => d) (fun _ _ _ d => d) () (fun _ _ _ _ => ()) v

theorem onFunc_cases {β : Type} (v : AV) (f : Fn → List AV → List AV → β) (d : β) : (∃ fn a b, v = .func fn a b ∧ onFunc v f d = f fn a b) ∨ onFunc v f d = d := by
  cases v <;> first | exact .inl ⟨_, _, _, rfl, rfl⟩ | exact .inr rfl

/-- A number that is not negative. -/
noncomputable def onNat {β : Type} (v : AV) (f : IntKind → Nat → β) (d : β) : β := onInt v (fun k n => Int.rec (fun m => f k m) (fun _ => d) n) d

theorem onNat_cases {β : Type} (v : AV) (f : IntKind → Nat → β) (d : β) : (∃ k n, v = .int k (Int.ofNat n) ∧ onNat v f d = f k n) ∨ onNat v f d = d := by
  unfold onNat
  rcases onInt_cases v (fun k n => (Int.rec (fun m => f k m) (fun _ => d) n : β)) d with ⟨k, n, rfl, h⟩ | h
  · cases n with
    | ofNat m => exact .inl ⟨k, m, rfl, h⟩
    | negSucc m => exact .inr h
  · exact .inr h

/-- A living block of cells. -/
noncomputable def onCells {β : Type} (o : AObj) : (Nat → Nat → List AV → TypeId → β) → β → β :=
  AObj.rec (fun alive fam sh body f d => Bool.rec d (ABody.rec (motive := fun _ => (Nat → Nat → List AV → TypeId → β) → β → β) (fun cs ty f _ => f fam sh cs ty) (fun _ _ _ d => d) (fun _ _ _ d => d) body f d) alive) o

theorem onCells_cases {β : Type} (o : AObj) (f : Nat → Nat → List AV → TypeId → β) (d : β) : (∃ fam sh cs ty, o = ⟨true, fam, sh, .cells cs ty⟩ ∧ onCells o f d = f fam sh cs ty) ∨ onCells o f d = d := by
  obtain ⟨alive, fam, sh, body⟩ := o
  cases alive with
  | false => exact .inr rfl
  | true => cases body <;> first | exact .inl ⟨_, _, _, _, rfl, rfl⟩ | exact .inr rfl

/-- A living map. -/
noncomputable def onMap {β : Type} (o : AObj) : (Nat → Nat → List (AV × AV × Nat) → Nat → β) → β → β :=
  AObj.rec (fun alive fam sh body f d => Bool.rec d (ABody.rec (motive := fun _ => (Nat → Nat → List (AV × AV × Nat) → Nat → β) → β → β) (fun _ _ _ d => d) (fun es c f _ => f fam sh es c) (fun _ _ _ d => d) body f d) alive) o

theorem onMap_cases {β : Type} (o : AObj) (f : Nat → Nat → List (AV × AV × Nat) → Nat → β) (d : β) : (∃ fam sh es c, o = ⟨true, fam, sh, .map es c⟩ ∧ onMap o f d = f fam sh es c) ∨ onMap o f d = d := by
  obtain ⟨alive, fam, sh, body⟩ := o
  cases alive with
  | false => exact .inr rfl
  | true => cases body <;> first | exact .inl ⟨_, _, _, _, rfl, rfl⟩ | exact .inr rfl

/-- A bool, reckoned, drives on. -/
noncomputable def iff' {β : Type} (b : Bool) (x y : β) : β := Bool.rec y x b
theorem iff'_eq {β : Type} (b : Bool) (x y : β) : iff' b x y = if b = true then x else y := by cases b <;> rfl

/-! lists -/
noncomputable def getR {α β : Type} (l : List α) : Nat → (α → β) → β → β :=
  List.rec (motive := fun _ => Nat → (α → β) → β → β) (fun _ _ d => d) (fun v _ ih n f d => Nat.rec (f v) (fun m _ => ih m f d) n) l

theorem getR_cases {α β : Type} : ∀ (l : List α) (n : Nat) (f : α → β) (d : β), (∃ v, l[n]? = some v ∧ getR l n f d = f v) ∨ getR l n f d = d
  | [], n, f, d => .inr rfl
  | v :: l, 0, f, d => .inl ⟨v, rfl, rfl⟩
  | v :: l, n + 1, f, d => by
    rcases getR_cases l n f d with ⟨x, h1, h2⟩ | h
    · exact .inl ⟨x, by simpa using h1, h2⟩
    · exact .inr h

noncomputable def dropR {α : Type} (l : List α) : Nat → List α :=
  List.rec (motive := fun _ => Nat → List α) (fun _ => []) (fun v l ih n => Nat.rec (v :: l) (fun m _ => ih m) n) l

theorem dropR_eq {α : Type} : ∀ (l : List α) (n : Nat), dropR l n = l.drop n
  | [], n => by cases n <;> rfl
  | v :: l, 0 => rfl
  | v :: l, n + 1 => dropR_eq l n

noncomputable def takeK {α β : Type} (l : List α) : Nat → (List α → β) → β :=
  List.rec (motive := fun _ => Nat → (List α → β) → β) (fun _ f => f []) (fun v _ ih n f => Nat.rec (f []) (fun m _ => ih m fun r => f (v :: r)) n) l
theorem takeK_eq {α β : Type} : ∀ (l : List α) (n : Nat) (f : List α → β), takeK l n f = f (l.take n)
  | [], n, f => by cases n <;> rfl
  | v :: l, 0, f => rfl
  | v :: l, n + 1, f => takeK_eq l n _

noncomputable def tkR {β : Type} (n : Nat) : List AV → (List AV → β) → β → β :=
  Nat.rec (motive := fun _ => List AV → (List AV → β) → β → β) (fun _ f _ => f []) (fun _ ih l f d => List.rec (motive := fun _ => β) d (fun c l _ => ih l (fun r => f (c :: r)) d) l) n

theorem tkR_cases {β : Type} : ∀ (n : Nat) (l : List AV) (f : List AV → β) (d : β), (∃ r, tk n l = some r ∧ tkR n l f d = f r) ∨ tkR n l f d = d
  | 0, l, f, d => .inl ⟨[], by cases l <;> rfl, rfl⟩
  | n + 1, [], f, d => .inr rfl
  | n + 1, c :: l, f, d => by
    rcases tkR_cases n l (fun r => f (c :: r)) d with ⟨r, h1, h2⟩ | h
    · exact .inl ⟨c :: r, by simp [tk, h1], h2⟩
    · exact .inr h

/-- vs in the place of as many, from off on. -/
noncomputable def splR {β : Type} (l : List AV) : Nat → List AV → (List AV → β) → β → β :=
  List.rec (motive := fun _ => Nat → List AV → (List AV → β) → β → β) (fun n vs f d => Nat.rec (List.rec (f []) (fun _ _ _ => d) vs) (fun _ _ => d) n)
    (fun c l ih n vs f d => Nat.rec (List.rec (f (c :: l)) (fun v vs _ => ih 0 vs (fun r => f (v :: r)) d) vs) (fun m _ => ih m vs (fun r => f (c :: r)) d) n) l

theorem splR_cases {β : Type} : ∀ (l : List AV) (n : Nat) (vs : List AV) (f : List AV → β) (d : β), (∃ r, spl l n vs = some r ∧ splR l n vs f d = f r) ∨ splR l n vs f d = d
  | [], 0, [], f, d => .inl ⟨[], rfl, rfl⟩
  | [], 0, _ :: _, f, d => .inr rfl
  | [], n + 1, vs, f, d => .inr rfl
  | c :: l, 0, [], f, d => .inl ⟨c :: l, by simp [spl], rfl⟩
  | c :: l, 0, v :: vs, f, d => by
    rcases splR_cases l 0 vs (fun r => f (v :: r)) d with ⟨r, h1, h2⟩ | h
    · exact .inl ⟨v :: r, by simp [spl, h1], h2⟩
    · exact .inr h
  | c :: l, n + 1, vs, f, d => by
    rcases splR_cases l n vs (fun r => f (c :: r)) d with ⟨r, h1, h2⟩ | h
    · exact .inl ⟨c :: r, by simp [spl, h1], h2⟩
    · exact .inr h

noncomputable def lenR {α : Type} (l : List α) : Nat := List.rec 0 (fun _ _ ih => Nat.succ ih) l
theorem lenR_eq {α : Type} : ∀ (l : List α), lenR l = l.length
  | [] => rfl
  | _ :: l => congrArg Nat.succ (lenR_eq l)

noncomputable def eqS (l : List UInt8) : List UInt8 → Bool :=
  List.rec (motive := fun _ => List UInt8 → Bool) (fun m => List.rec true (fun _ _ _ => false) m) (fun c l ih m => List.rec false (fun c' m _ => Bool.rec false (ih m) (Nat.beq (UInt8.toNat c) (UInt8.toNat c'))) m) l

theorem eqS_eq : ∀ (l m : List UInt8), eqS l m = (l == m)
  | [], [] => rfl
  | [], _ :: _ => rfl
  | _ :: _, [] => rfl
  | c :: l, c' :: m => by
    show (Bool.rec false (eqS l m) (Nat.beq (UInt8.toNat c) (UInt8.toNat c')) : Bool) = _
    rw [eqS_eq l m, List.cons_beq_cons]
    by_cases h : c = c'
    · subst h; simp
    · have h2 : Nat.beq (UInt8.toNat c) (UInt8.toNat c') = false := by cases hq : Nat.beq (UInt8.toNat c) (UInt8.toNat c') with | false => rfl | true => exact absurd (UInt8.toNat_inj.1 (Nat.eq_of_beq_eq_true hq)) h
      rw [h2]; simp [h]

end Go.Abs
end

/-
  A verified abstract interpreter, part 23: operations, laid ahead for the kernel: those that look at values alone.
-/
section
set_option linter.unusedSimpArgs false
set_option linter.unusedVariables false
namespace Go.Abs
open Go.RowKit

/-! forcing, by the recursors themselves -/
noncomputable def frcIR {β : Type} (n : Int) : (Int → β) → β := Int.rec (motive := fun _ => (Int → β) → β) (fun m f => Nat.rec (motive := fun _ => β) (f (.ofNat 0)) (fun m _ => f (.ofNat (Nat.succ m))) m) (fun m f => Nat.rec (motive := fun _ => β) (f (.negSucc 0)) (fun m _ => f (.negSucc (Nat.succ m))) m) n
theorem frcIR_eq {β : Type} (n : Int) (f : Int → β) : frcIR n f = f n := by cases n with | ofNat m => cases m <;> rfl | negSucc m => cases m <;> rfl
noncomputable def frcNR {β : Type} (n : Nat) : (Nat → β) → β := Nat.rec (motive := fun _ => (Nat → β) → β) (fun f => f 0) (fun m _ f => f (Nat.succ m)) n
theorem frcNR_eq {β : Type} (n : Nat) (f : Nat → β) : frcNR n f = f n := by cases n <;> rfl
noncomputable def frcBR {β : Type} (b : Bool) : (Bool → β) → β := Bool.rec (motive := fun _ => (Bool → β) → β) (fun f => f false) (fun f => f true) b
theorem frcBR_eq {β : Type} (b : Bool) (f : Bool → β) : frcBR b f = f b := by cases b <;> rfl
noncomputable def frcSR {β : Type} (s : List UInt8) : (List UInt8 → β) → β := List.rec (motive := fun _ => (List UInt8 → β) → β) (fun f => f []) (fun c _ ih f => ih fun l => f (c :: l)) s
theorem frcSR_eq {β : Type} : ∀ (s : List UInt8) (f : List UInt8 → β), frcSR s f = f s
  | [], f => rfl
  | c :: s, f => by show frcSR s (fun l => f (c :: l)) = _; rw [frcSR_eq s]
noncomputable def frcVR {β : Type} (v : AV) : (AV → β) → β :=
  AV.rec (motive_1 := fun _ => (AV → β) → β) (motive_2 := fun _ => (List AV → β) → β) (fun b f => frcBR b fun b => f (.bool b)) (fun k n f => frcIR n fun n => f (.int k n)) (fun s f => frcSR s fun s => f (.str s)) (fun f => f .nptr)
    (fun b o f => frcNR b fun b => frcNR o fun o => f (.ptr b o)) (fun cs _ f => f (.rp cs)) (fun f => f .nslice)
    (fun b o l c z f => frcNR b fun b => frcNR o fun o => frcNR l fun l => frcNR c fun c => frcNR z fun z => f (.slice b o l c z)) (fun n z cs _ f => frcNR n fun n => f (.rs n z cs)) (fun f => f .nmap) (fun b f => frcNR b fun b => f (.map b))
    (fun fn _ _ iha ihb f => iha fun a => ihb fun b => f (.func fn a b)) (fun f => f .nfunc) (fun t _ ih f => ih fun v => f (.iface t v)) (fun f => f .niface)
    (fun _ ih f => ih fun cs => f (.agg cs)) (fun _ ih f => ih fun vs => f (.tuple vs)) (fun f => f []) (fun _ _ ihv ihl f => ihv fun v => ihl fun l => f (v :: l)) v
/-- The same, by the second half of the recursor. -/
noncomputable def frcVLI {β : Type} (l : List AV) : (List AV → β) → β :=
  AV.rec_1 (motive_1 := fun _ => (AV → β) → β) (motive_2 := fun _ => (List AV → β) → β) (fun b f => frcBR b fun b => f (.bool b)) (fun k n f => frcIR n fun n => f (.int k n)) (fun s f => frcSR s fun s => f (.str s)) (fun f => f .nptr)
    (fun b o f => frcNR b fun b => frcNR o fun o => f (.ptr b o)) (fun cs _ f => f (.rp cs)) (fun f => f .nslice)
    (fun b o l c z f => frcNR b fun b => frcNR o fun o => frcNR l fun l => frcNR c fun c => frcNR z fun z => f (.slice b o l c z)) (fun n z cs _ f => frcNR n fun n => f (.rs n z cs)) (fun f => f .nmap) (fun b f => frcNR b fun b => f (.map b))
    (fun fn _ _ iha ihb f => iha fun a => ihb fun b => f (.func fn a b)) (fun f => f .nfunc) (fun t _ ih f => ih fun v => f (.iface t v)) (fun f => f .niface)
    (fun _ ih f => ih fun cs => f (.agg cs)) (fun _ ih f => ih fun vs => f (.tuple vs)) (fun f => f []) (fun _ _ ihv ihl f => ihv fun v => ihl fun l => f (v :: l)) l
noncomputable def frcVLR {β : Type} (l : List AV) : (List AV → β) → β := List.rec (motive := fun _ => (List AV → β) → β) (fun f => f []) (fun v _ ih f => frcVR v fun v => ih fun l => f (v :: l)) l

mutual
theorem frcVR_eq {β : Type} : ∀ (v : AV) (f : AV → β), frcVR v f = f v
  | .bool b, f => frcBR_eq b _
  | .int k n, f => frcIR_eq n _
  | .str s, f => frcSR_eq s _
  | .nptr, f => rfl
  | .ptr b o, f => by show (frcNR b fun b => frcNR o fun o => f (.ptr b o)) = _; simp only [frcNR_eq]
  | .rp cs, f => rfl
  | .nslice, f => rfl
  | .slice b o l c z, f => by show (frcNR b fun b => frcNR o fun o => frcNR l fun l => frcNR c fun c => frcNR z fun z => f (.slice b o l c z)) = _; simp only [frcNR_eq]
  | .rs n z cs, f => frcNR_eq n _
  | .nmap, f => rfl
  | .map b, f => frcNR_eq b _
  | .func fn a b, f => by show (frcVLI a fun a => frcVLI b fun b => f (.func fn a b)) = _; simp only [frcVLI_eq]
  | .nfunc, f => rfl
  | .iface t v, f => frcVR_eq v _
  | .niface, f => rfl
  | .agg cs, f => frcVLI_eq cs _
  | .tuple vs, f => frcVLI_eq vs _
theorem frcVLI_eq {β : Type} : ∀ (l : List AV) (f : List AV → β), frcVLI l f = f l
  | [], f => rfl
  | v :: l, f => by show (frcVR v fun v => frcVLI l fun l => f (v :: l)) = _; rw [frcVR_eq v]; exact frcVLI_eq l _
end
theorem frcVLR_eq {β : Type} : ∀ (l : List AV) (f : List AV → β), frcVLR l f = f l
  | [], f => rfl
  | v :: l, f => by show (frcVR v fun v => frcVLR l fun l => f (v :: l)) = _; rw [frcVR_eq v]; exact frcVLR_eq l _

/-! operands -/
noncomputable def copd (gl : Glob) (d n : Nat) (x : Operand) : Option (Tre AV d → AV) :=
  match x with
  | .tmp t => iff' (Nat.blt t n) (Bx.rec (fun g => some g) (getB AV d t)) none
  | .const v => match ofV v with | some c => frcVR c fun c => some fun _ => c | none => none
  | .global g => match gl g with | some cs => some fun _ => .rp cs | none => none
  | .func f => some fun _ => .func (.func f) [] []

noncomputable def rhoE (gl : Glob) (d n : Nat) (E : Tre AV d) (x : Operand) : Option AV := match copd gl d n x with | some g => some (g E) | none => none

theorem frcT_eq' {β : Type} (v : AV) (f : AV → β) : frcT v f = f v := by
  unfold frcT; split <;> simp [frcS_eq, frcV_eq]

theorem rhoE_of {gl : Glob} {d n : Nat} {E : Tre AV d} {x : Operand} {g : Tre AV d → AV} (h : copd gl d n x = some g) : rhoE gl d n E x = some (g E) := by
  simp [rhoE, h]

/-- What the tree of eight holds, the other holds. -/
def EnvSim (d n : Nat) (E : Tre AV d) (tm : Tr) : Prop := ∀ t, tget tm t = if t < n then some (teget d t E) else none

theorem rhoE_eq {gl : Glob} {d n : Nat} {E : Tre AV d} {tm : Tr} (h : EnvSim d n E tm) : rhoE gl d n E = aeval gl tm := by
  funext x
  unfold rhoE copd aeval
  cases x with
  | tmp t =>
    simp only [h t, iff'_eq]
    by_cases ht : t < n
    · have hb : Nat.blt t n = true := by simpa [Nat.blt_eq] using ht
      rw [if_pos hb, if_pos ht]
      show some ((getB AV d t).v E) = _
      rw [getB_eq]
    · have hb : ¬ Nat.blt t n = true := by simpa [Nat.blt_eq] using ht
      rw [if_neg hb, if_neg ht]
  | const v => cases hv : ofV v <;> simp [frcVR_eq, hv]
  | global g => cases hg : gl g <;> simp [hg]
  | func f => rfl

/-! operations -/
abbrev OpF (d : Nat) := FOrc → Tre AV d → TH → Knt → Res

/-- The quick operation does as the other. -/
def OpOK (P : Program) (gl : Glob) (d n : Nat) (o : Oper) (F : OpF d) : Prop :=
  ∀ forc orc E T k out H, OrcSim forc orc → Rep T H → F forc E T k = some out → ∃ r T' H', aop P orc (rhoE gl d n E) o H = some (r, H') ∧ Rep T' H' ∧ k r T' = some out

section ok
variable {P : Program} {gl : Glob} {d n : Nat} {orc : Orc} {ρ : Operand → Option AV} {H : AHeap} {o : Oper}

theorem callee_none {c : Call} {b : Builtin} (h : c.callee = .builtin b) : callee ρ c = none := by simp [callee, h]

theorem aop_low (h : kind o < 3) : aop P orc ρ o H = (match apure' P ρ H o with | some r => some (r, H) | none => aeff P ρ H o) := by
  have hc : ∀ c, o.op = .call c → callee ρ c = none := by
    intro c ho
    unfold kind at h
    simp only [ho] at h
    cases hc : c.callee with
    | builtin b => exact callee_none hc
    | value f => simp [hc] at h
    | invoke r m => simp [hc] at h
  unfold aop
  split
  · rename_i g args hx
    split at hx
    · rename_i c ho; rw [hc c ho] at hx; cases hx
    · cases hx
  · rfl

theorem aop_pure (hk : kind o < 3) {r : AV} (h : apure' P ρ H o = some r) : aop P orc ρ o H = some (r, H) := by
  rw [aop_low hk, h]

theorem aop_new (hk : kind o = 2) {mk : Nat → AV} {body : ABody} (h : aallocF P ρ o = some (mk, body)) : aop P orc ρ o H = some (mk H.length, H ++ [⟨true, H.length, 0, body⟩]) := by
  rw [aop_low (by omega)]
  have hp : apure' P ρ H o = none := by
    unfold kind at hk
    unfold apure' apure
    cases ho : o.op with
    | call c =>
      simp only [ho] at hk ⊢
      cases hc : c.callee with
      | builtin b => cases b <;> simp [hc] at hk
      | value f => simp [hc] at hk
      | invoke r m => simp [hc] at hk
    | _ => simp [ho] at hk ⊢
  simp only [hp]
  unfold aallocF at h
  unfold aeff
  cases ho : o.op with
  | alloc e =>
    simp only [ho] at h ⊢
    split at h <;> simp at h
    rename_i z hz
    obtain ⟨rfl, rfl⟩ := h
    simp [aAlloc, hz, newBlk]
  | box e x =>
    simp only [ho] at h ⊢
    split at h <;> simp at h
    rename_i z hz
    obtain ⟨rfl, rfl⟩ := h
    simp [hz, aBox, newBlk]
  | buildSlice t len ps =>
    simp only [ho] at h ⊢
    split at h <;> try (simp at h; done)
    rename_i us hus
    split at h <;> simp at h
    rename_i cs e z hz
    obtain ⟨rfl, rfl⟩ := h
    simp [hus, aBuildSlice, hz, newBlk]
  | makeSlice t l c =>
    simp only [ho] at h ⊢
    split at h <;> try (simp at h; done)
    rename_i a b ha hb
    split at h <;> simp at h
    rename_i zs e z ln cp hz
    obtain ⟨rfl, rfl⟩ := h
    simp [ha, hb, aMakeSlice, hz, newBlk]
  | makeMap t r =>
    cases r with
    | none =>
      simp only [ho] at h ⊢
      simp at h
      obtain ⟨rfl, rfl⟩ := h
      simp
    | some x => simp [ho] at h
  | _ => simp [ho] at h

/-- Slow, by the elder road: what looks at values alone. -/
noncomputable def slowP (P : Program) (gl : Glob) (d n : Nat) (o : Oper) : OpF d := fun _ E T k => match apure' P (rhoE gl d n E) [] o with | some r => frcVR r fun r => k r T | none => none

theorem slowP_ok (hk : kind o = 0) : OpOK P gl d n o (slowP P gl d n o) := by
  intro forc orc E T k out H hO hR h
  unfold slowP at h
  split at h <;> try (simp at h; done)
  rename_i r hr
  rw [frcVR_eq] at h
  exact ⟨r, T, H, aop_pure (by omega) (by rw [← pure0 hk [] H]; exact hr), hR, h⟩
end ok

/-! numbers -/
noncomputable def kix (k : IntKind) : Nat := IntKind.rec 0 1 2 3 4 5 6 7 k
theorem kix_inj {k k' : IntKind} (h : Nat.beq (kix k) (kix k') = true) : k = k' := by
  cases k <;> cases k' <;> first | rfl | (exact absurd (show Nat.beq (kix _) (kix _) = false from rfl) (by rw [h]; simp))

/-- The greatest number of a kind. -/
noncomputable def kmx (k : IntKind) : Nat := IntKind.rec 127 32767 2147483647 9223372036854775807 255 65535 4294967295 18446744073709551615 k

theorem kmx_wrap {k : IntKind} {s : Nat} (h : s ≤ kmx k) : k.wrap (s : Int) = s := by
  cases k with
  | i8 => exact IntWalk.i8_in _ (by have : s ≤ 127 := h; omega)
  | i16 => exact IntWalk.i16_in _ (by have : s ≤ 32767 := h; omega)
  | i32 => exact IntWalk.i32_in _ (by have : s ≤ 2147483647 := h; omega)
  | i64 => exact IntWalk.i64_in _ (by have : s ≤ 9223372036854775807 := h; omega)
  | u8 => exact IntWalk.u8_in _ (by have : s ≤ 255 := h; omega)
  | u16 => exact IntWalk.u16_in _ (by have : s ≤ 65535 := h; omega)
  | u32 => exact IntWalk.u32_in _ (by have : s ≤ 4294967295 := h; omega)
  | u64 => exact IntWalk.u64_in _ (by have : s ≤ 18446744073709551615 := h; omega)

abbrev BinF := AV → AV → (AV → Res) → Res → Res
/-- A quick road of an operator: it comes to what the operator comes to, or takes the slow one. -/
def BinOK (P : Program) (op : BinOp) (t : TypeId) (F : BinF) : Prop := ∀ x y k dd out, F x y k dd = some out → (∃ r, aBin P op t x y = some r ∧ k r = some out) ∨ dd = some out

noncomputable def cmpF (c : Nat → Nat → Bool) : BinF := fun x y k dd =>
  onNat x (fun kx a => onNat y (fun ky b => iff' (Nat.beq (kix kx) (kix ky)) (iff' (c a b) (k (.bool true)) (k (.bool false))) dd) dd) dd

theorem cmpF_ok {P : Program} {op : BinOp} {t : TypeId} {c : Nat → Nat → Bool} (h1 : op ≠ .shl) (h2 : op ≠ .shr) (hc : ∀ k (a b : Nat), aBinInt op k (a : Int) (b : Int) = some (.bool (c a b))) : BinOK P op t (cmpF c) := by
  intro x y k dd out h
  unfold cmpF at h
  rcases onNat_cases x (fun kx a => onNat y (fun ky b => iff' (Nat.beq (kix kx) (kix ky)) (iff' (c a b) (k (.bool true)) (k (.bool false))) dd) dd) dd with ⟨kx, a, rfl, e⟩ | e
  · rw [e] at h
    rcases onNat_cases y (fun ky b => iff' (Nat.beq (kix kx) (kix ky)) (iff' (c a b) (k (.bool true)) (k (.bool false))) dd) dd with ⟨ky, b, rfl, e'⟩ | e'
    · rw [e', iff'_eq] at h
      split at h
      · rename_i hk
        have := kix_inj hk; subst this
        refine .inl ⟨.bool (c a b), ?_, ?_⟩
        · have := hc kx a b
          cases op <;> first | exact (h1 rfl).elim | exact (h2 rfl).elim | simpa [aBin] using this
        · rw [iff'_eq] at h; cases hcab : c a b <;> simpa [hcab] using h
      · exact .inr h
    · rw [e'] at h; exact .inr h
  · rw [e] at h; exact .inr h

noncomputable def ariF (f : Nat → Nat → Nat) (g : Nat → Nat → Bool) : BinF := fun x y k dd =>
  onNat x (fun kx a => onNat y (fun ky b => iff' (Nat.beq (kix kx) (kix ky)) (iff' (g a b) (iff' (Nat.ble (f a b) (kmx kx)) (frcN (f a b) fun s => k (.int kx (.ofNat s))) dd) dd) dd) dd) dd

theorem frcN_eq' {β : Type} (m : Nat) (f : Nat → β) : frcN m f = f m := by cases m <;> rfl

theorem ariF_ok {P : Program} {op : BinOp} {t : TypeId} {f : Nat → Nat → Nat} {g : Nat → Nat → Bool} (h1 : op ≠ .shl) (h2 : op ≠ .shr)
    (hc : ∀ k (a b : Nat), g a b = true → aBinInt op k (a : Int) (b : Int) = some (.int k (k.wrap (f a b : Nat)))) : BinOK P op t (ariF f g) := by
  intro x y k dd out h
  unfold ariF at h
  rcases onNat_cases x (fun kx a => onNat y (fun ky b => iff' (Nat.beq (kix kx) (kix ky)) (iff' (g a b) (iff' (Nat.ble (f a b) (kmx kx)) (frcN (f a b) fun s => k (.int kx (.ofNat s))) dd) dd) dd) dd) dd with ⟨kx, a, rfl, e⟩ | e
  · rw [e] at h
    rcases onNat_cases y (fun ky b => iff' (Nat.beq (kix kx) (kix ky)) (iff' (g a b) (iff' (Nat.ble (f a b) (kmx kx)) (frcN (f a b) fun s => k (.int kx (.ofNat s))) dd) dd) dd) dd with ⟨ky, b, rfl, e'⟩ | e'
    · rw [e', iff'_eq] at h
      split at h
      · rename_i hk
        have := kix_inj hk; subst this
        rw [iff'_eq] at h
        split at h
        · rename_i hg
          rw [iff'_eq] at h
          split at h
          · rename_i hle
            rw [frcN_eq'] at h
            refine .inl ⟨_, ?_, h⟩
            have := hc kx a b hg
            rw [kmx_wrap (Nat.le_of_ble_eq_true hle)] at this
            cases op <;> first | exact (h1 rfl).elim | exact (h2 rfl).elim | simpa [aBin] using this
          · exact .inr h
        · exact .inr h
      · exact .inr h
    · rw [e'] at h; exact .inr h
  · rw [e] at h; exact .inr h

/-- Equal or not: numbers, else texts. -/
noncomputable def eqF (want : Bool) : BinF := fun x y k dd =>
  cmpF (fun a b => iff' (Nat.beq a b) want (!want)) x y k (onStr x (fun s => onStr y (fun s' => iff' (eqS s s') (k (.bool want)) (k (.bool (!want)))) dd) dd)

theorem eqF_ok {P : Program} {op : BinOp} {t : TypeId} {want : Bool} (hop : (op = .eql ∧ want = true) ∨ (op = .neq ∧ want = false)) : BinOK P op t (eqF want) := by
  intro x y k dd out h
  have hci : ∀ k (a b : Nat), aBinInt op k (a : Int) (b : Int) = some (.bool (iff' (Nat.beq a b) want (!want))) := by
    intro k a b
    have hab : Nat.beq a b = decide ((a : Int) = (b : Int)) := by
      by_cases e : a = b
      · subst e; simp
      · have : ¬ ((a : Int) = b) := by omega
        have h3 : Nat.beq a b = false := by cases hq : Nat.beq a b with | false => rfl | true => exact absurd (Nat.eq_of_beq_eq_true hq) e
        rw [h3]; simp [this]
    rcases hop with ⟨rfl, rfl⟩ | ⟨rfl, rfl⟩
    · simp only [aBinInt, iff'_eq, hab]; by_cases e : (a : Int) = b <;> simp [e]
    · simp only [aBinInt, iff'_eq, hab]; by_cases e : (a : Int) = b <;> simp [e]
  rcases cmpF_ok (P := P) (t := t) (by rcases hop with ⟨rfl, _⟩ | ⟨rfl, _⟩ <;> simp) (by rcases hop with ⟨rfl, _⟩ | ⟨rfl, _⟩ <;> simp) hci x y k _ out h with h1 | h1
  · exact .inl h1
  · rcases onStr_cases x (fun s => onStr y (fun s' => iff' (eqS s s') (k (.bool want)) (k (.bool (!want)))) dd) dd with ⟨s, rfl, e⟩ | e
    · rw [e] at h1
      rcases onStr_cases y (fun s' => iff' (eqS s s') (k (.bool want)) (k (.bool (!want)))) dd with ⟨s', rfl, e'⟩ | e'
      · rw [e', iff'_eq, eqS_eq] at h1
        rcases hop with ⟨rfl, rfl⟩ | ⟨rfl, rfl⟩
        · refine .inl ⟨.bool (s == s'), by simp [aBin, aBinStr], ?_⟩
          cases hs : (s == s') <;> simpa [hs] using h1
        · refine .inl ⟨.bool !(s == s'), by simp [aBin, aBinStr], ?_⟩
          cases hs : (s == s') <;> simpa [hs] using h1
      · rw [e'] at h1; exact .inr h1
    · rw [e] at h1; exact .inr h1

noncomputable def binF (op : BinOp) : Option BinF :=
  match op with
  | .add => some (ariF (fun a b => Nat.add a b) (fun _ _ => true))
  | .sub => some (ariF (fun a b => Nat.sub a b) (fun a b => Nat.ble b a))
  | .mul => some (ariF (fun a b => Nat.mul a b) (fun _ _ => true))
  | .eql => some (eqF true)
  | .neq => some (eqF false)
  | .lss => some (cmpF fun a b => Nat.blt a b)
  | .leq => some (cmpF fun a b => Nat.ble a b)
  | .gtr => some (cmpF fun a b => Nat.blt b a)
  | .geq => some (cmpF fun a b => Nat.ble b a)
  | _ => none

theorem binF_ok {P : Program} {op : BinOp} {t : TypeId} {F : BinF} (h : binF op = some F) : BinOK P op t F := by
  unfold binF at h
  cases op <;> simp at h <;> subst h
  · exact ariF_ok (by simp) (by simp) fun k a b _ => by simp only [aBinInt]; rfl
  · refine ariF_ok (by simp) (by simp) fun k a b hg => ?_
    have := Nat.le_of_ble_eq_true hg
    simp only [aBinInt]
    have e : ((a : Int) - (b : Int)) = ((Nat.sub a b : Nat) : Int) := by show _ = ((a - b : Nat) : Int); omega
    rw [e]; rfl
  · exact ariF_ok (by simp) (by simp) fun k a b _ => by simp only [aBinInt]; rfl
  · exact eqF_ok (.inl ⟨rfl, rfl⟩)
  · exact eqF_ok (.inr ⟨rfl, rfl⟩)
  · refine cmpF_ok (by simp) (by simp) fun k a b => ?_
    simp only [aBinInt]; congr 2
    by_cases e : a < b
    · have h2 : Nat.blt a b = true := by simpa [Nat.blt_eq] using e
      rw [h2]; simp [e]
    · have h2 : Nat.blt a b = false := by cases hq : Nat.blt a b with | false => rfl | true => exact absurd (by simpa [Nat.blt_eq] using hq) e
      rw [h2]; simp [e]
  · refine cmpF_ok (by simp) (by simp) fun k a b => ?_
    simp only [aBinInt]; congr 2
    by_cases e : a ≤ b
    · have h2 : Nat.ble a b = true := Nat.ble_eq_true_of_le e
      rw [h2]; simp [e]
    · have h2 : Nat.ble a b = false := by cases hq : Nat.ble a b with | false => rfl | true => exact absurd (Nat.le_of_ble_eq_true hq) e
      rw [h2]; simp [e]
  · refine cmpF_ok (by simp) (by simp) fun k a b => ?_
    simp only [aBinInt]; congr 2
    by_cases e : b < a
    · have h2 : Nat.blt b a = true := by simpa [Nat.blt_eq] using e
      rw [h2]; simp [e]
    · have h2 : Nat.blt b a = false := by cases hq : Nat.blt b a with | false => rfl | true => exact absurd (by simpa [Nat.blt_eq] using hq) e
      rw [h2]; simp [e]
  · refine cmpF_ok (by simp) (by simp) fun k a b => ?_
    simp only [aBinInt]; congr 2
    by_cases e : b ≤ a
    · have h2 : Nat.ble b a = true := Nat.ble_eq_true_of_le e
      rw [h2]; simp [e]
    · have h2 : Nat.ble b a = false := by cases hq : Nat.ble b a with | false => rfl | true => exact absurd (Nat.le_of_ble_eq_true hq) e
      rw [h2]; simp [e]

end Go.Abs
end

/-
  A verified abstract interpreter, part 24: operations, laid ahead for the kernel: those on memory; all of them in one.
-/
section
set_option linter.unusedSimpArgs false
set_option linter.unusedVariables false
namespace Go.Abs
open Go.RowKit

section some
variable {γ : Type} {v : AV} {out : γ}
theorem onInt_some {f : IntKind → Int → Option γ} {dd : Option γ} (h : onInt v f dd = some out) : (∃ k n, v = .int k n ∧ f k n = some out) ∨ dd = some out := by
  rcases onInt_cases v f dd with ⟨k, n, rfl, e⟩ | e <;> rw [e] at h
  · exact .inl ⟨k, n, rfl, h⟩
  · exact .inr h
theorem onNat_some {f : IntKind → Nat → Option γ} {dd : Option γ} (h : onNat v f dd = some out) : (∃ k n, v = .int k (Int.ofNat n) ∧ f k n = some out) ∨ dd = some out := by
  rcases onNat_cases v f dd with ⟨k, n, rfl, e⟩ | e <;> rw [e] at h
  · exact .inl ⟨k, n, rfl, h⟩
  · exact .inr h
theorem onBool_some {f : Bool → Option γ} {dd : Option γ} (h : onBool v f dd = some out) : (∃ b, v = .bool b ∧ f b = some out) ∨ ((∀ b, v ≠ .bool b) ∧ dd = some out) := by
  rcases onBool_cases v f dd with ⟨b, rfl, e⟩ | ⟨e', e⟩ <;> rw [e] at h
  · exact .inl ⟨b, rfl, h⟩
  · exact .inr ⟨e', h⟩
theorem onStr_some {f : List UInt8 → Option γ} {dd : Option γ} (h : onStr v f dd = some out) : (∃ b, v = .str b ∧ f b = some out) ∨ dd = some out := by
  rcases onStr_cases v f dd with ⟨b, rfl, e⟩ | e <;> rw [e] at h
  · exact .inl ⟨b, rfl, h⟩
  · exact .inr h
theorem onPtr_some {f : Nat → Nat → Option γ} {g : List AV → Option γ} {dd : Option γ} (h : onPtr v f g dd = some out) : (∃ b o, v = .ptr b o ∧ f b o = some out) ∨ (∃ cs, v = .rp cs ∧ g cs = some out) ∨ dd = some out := by
  rcases onPtr_cases v f g dd with ⟨b, o, rfl, e⟩ | ⟨cs, rfl, e⟩ | e <;> rw [e] at h
  · exact .inl ⟨b, o, rfl, h⟩
  · exact .inr (.inl ⟨cs, rfl, h⟩)
  · exact .inr (.inr h)
theorem onSlice_some {f : Nat → Nat → Nat → Nat → Nat → Option γ} {g : Nat → Nat → List AV → Option γ} {e dd : Option γ} (h : onSlice v f g e dd = some out) :
    (∃ b o l c z, v = .slice b o l c z ∧ f b o l c z = some out) ∨ (∃ n z cs, v = .rs n z cs ∧ g n z cs = some out) ∨ (v = .nslice ∧ e = some out) ∨ dd = some out := by
  rcases onSlice_cases v f g e dd with ⟨b, o, l, c, z, rfl, e⟩ | ⟨n, z, cs, rfl, e⟩ | ⟨rfl, e⟩ | e <;> rw [e] at h
  · exact .inl ⟨b, o, l, c, z, rfl, h⟩
  · exact .inr (.inl ⟨n, z, cs, rfl, h⟩)
  · exact .inr (.inr (.inl ⟨rfl, h⟩))
  · exact .inr (.inr (.inr h))
theorem onTuple_some {f : List AV → Option γ} {dd : Option γ} (h : onTuple v f dd = some out) : (∃ b, v = .tuple b ∧ f b = some out) ∨ dd = some out := by
  rcases onTuple_cases v f dd with ⟨b, rfl, e⟩ | e <;> rw [e] at h
  · exact .inl ⟨b, rfl, h⟩
  · exact .inr h
theorem onAgg_some {f : List AV → Option γ} {dd : Option γ} (h : onAgg v f dd = some out) : (∃ b, v = .agg b ∧ f b = some out) ∨ ((∀ b, v ≠ .agg b) ∧ dd = some out) := by
  rcases onAgg_cases v f dd with ⟨b, rfl, e⟩ | ⟨e', e⟩ <;> rw [e] at h
  · exact .inl ⟨b, rfl, h⟩
  · exact .inr ⟨e', h⟩
theorem onFunc_some {f : Fn → List AV → List AV → Option γ} {dd : Option γ} (h : onFunc v f dd = some out) : (∃ fn a b, v = .func fn a b ∧ f fn a b = some out) ∨ dd = some out := by
  rcases onFunc_cases v f dd with ⟨fn, a, b, rfl, e⟩ | e <;> rw [e] at h
  · exact .inl ⟨fn, a, b, rfl, h⟩
  · exact .inr h
theorem onCells_some {o : AObj} {f : Nat → Nat → List AV → TypeId → Option γ} (h : onCells o f none = some out) : ∃ fam sh cs ty, o = ⟨true, fam, sh, .cells cs ty⟩ ∧ f fam sh cs ty = some out := by
  rcases onCells_cases o f none with ⟨a, b, c, d, rfl, e⟩ | e <;> rw [e] at h
  · exact ⟨a, b, c, d, rfl, h⟩
  · cases h
theorem onMap_some {o : AObj} {f : Nat → Nat → List (AV × AV × Nat) → Nat → Option γ} (h : onMap o f none = some out) : ∃ fam sh cs ty, o = ⟨true, fam, sh, .map cs ty⟩ ∧ f fam sh cs ty = some out := by
  rcases onMap_cases o f none with ⟨a, b, c, d, rfl, e⟩ | e <;> rw [e] at h
  · exact ⟨a, b, c, d, rfl, h⟩
  · cases h
theorem iff_some {b : Bool} {x : Option γ} (h : iff' b x none = some out) : b = true ∧ x = some out := by
  cases b
  · cases h
  · exact ⟨rfl, h⟩
theorem getR_some {α : Type} {l : List α} {n : Nat} {f : α → Option γ} (h : getR l n f none = some out) : ∃ v, l[n]? = some v ∧ f v = some out := by
  rcases getR_cases l n f none with ⟨v, h1, e⟩ | e <;> rw [e] at h
  · exact ⟨v, h1, h⟩
  · cases h
theorem tkR_some {n : Nat} {l : List AV} {f : List AV → Option γ} (h : tkR n l f none = some out) : ∃ r, tk n l = some r ∧ f r = some out := by
  rcases tkR_cases n l f none with ⟨v, h1, e⟩ | e <;> rw [e] at h
  · exact ⟨v, h1, h⟩
  · cases h
theorem splR_some {l : List AV} {n : Nat} {vs : List AV} {f : List AV → Option γ} (h : splR l n vs f none = some out) : ∃ r, spl l n vs = some r ∧ f r = some out := by
  rcases splR_cases l n vs f none with ⟨v, h1, e⟩ | e <;> rw [e] at h
  · exact ⟨v, h1, h⟩
  · cases h
end some

theorem tk_one {l : List AV} {n : Nat} {v : AV} (h : l[n]? = some v) : tk 1 (l.drop n) = some [v] := by
  obtain ⟨hn, rfl⟩ := List.getElem?_eq_some_iff.1 h
  rw [List.drop_eq_getElem_cons hn]; simp [tk]

noncomputable def onTH {β : Type} (T : TH) (f : Nat → BT AObj 12 → β) : β := TH.rec f T
noncomputable def putK (T : TH) (b : Nat) (o : AObj) (f : TH → Res) : Res := onTH T fun sz tr => btputK 12 b o tr fun tr' => f ⟨sz, tr'⟩
theorem putK_eq (T : TH) (b : Nat) (o : AObj) (f : TH → Res) : putK T b o f = f (T.set b o) := by
  obtain ⟨sz, tr⟩ := T
  show btputK 12 b o tr (fun tr' => f ⟨sz, tr'⟩) = _
  rw [btputK_eq]; rfl

noncomputable def newK (T : TH) (bd : ABody) (f : Nat → TH → Res) : Res :=
  onTH T fun sz tr => iff' (Nat.blt sz 4096) (btputK 12 sz ⟨true, sz, 0, bd⟩ tr fun tr' => frcN (Nat.add sz 1) fun s => f sz ⟨s, tr'⟩) none
theorem newK_some {T : TH} {bd : ABody} {f : Nat → TH → Res} {out : AV × TH} (h : newK T bd f = some out) : T.sz < 4096 ∧ f T.sz (T.push ⟨true, T.sz, 0, bd⟩) = some out := by
  obtain ⟨sz, tr⟩ := T
  obtain ⟨h1, h2⟩ := iff_some (show iff' (Nat.blt sz 4096) (btputK 12 sz ⟨true, sz, 0, bd⟩ tr fun tr' => frcN (Nat.add sz 1) fun s => f sz ⟨s, tr'⟩) none = some out from h)
  rw [btputK_eq, frcN_eq'] at h2
  exact ⟨by simpa [Nat.blt_eq] using h1, h2⟩

section ops
variable {P : Program} {gl : Glob} {d n : Nat} {o : Oper}

noncomputable def movF (g : Tre AV d → AV) : OpF d := fun _ E T k => frc1 (g E) fun v => k v T
theorem movF_ok {x : Operand} {g : Tre AV d → AV} (ho : o.op = .move x ∨ o.op = .assign x) (hg : copd gl d n x = some g) : OpOK P gl d n o (movF g) := by
  intro forc orc E T k out H hO hR h
  simp only [movF, frc1_eq] at h
  refine ⟨g E, T, H, aop_pure (by rcases ho with e | e <;> simp [kind, e]) ?_, hR, h⟩
  rcases ho with e | e <;> simp [apure', apure, e, rhoE_of hg]

noncomputable def pickF (gc ga gb : Tre AV d → AV) : OpF d := fun _ E T k => onBool (gc E) (fun b => iff' b (frc1 (ga E) fun v => k v T) (frc1 (gb E) fun v => k v T)) none
theorem pickF_ok {c a b : Operand} {gc ga gb : Tre AV d → AV} (ho : o.op = .pick c a b) (hc : copd gl d n c = some gc) (ha : copd gl d n a = some ga) (hb : copd gl d n b = some gb) : OpOK P gl d n o (pickF gc ga gb) := by
  intro forc orc E T k out H hO hR h
  simp only [pickF, frc1_eq] at h
  rcases onBool_some h with ⟨w, e, h⟩ | ⟨_, h⟩ <;> try (cases h; done)
  cases w with
  | true => exact ⟨ga E, T, H, aop_pure (by simp [kind, ho]) (by simp [apure', apure, ho, rhoE_of hc, rhoE_of ha, e]), hR, h⟩
  | false => exact ⟨gb E, T, H, aop_pure (by simp [kind, ho]) (by simp [apure', apure, ho, rhoE_of hc, rhoE_of hb, e]), hR, h⟩

noncomputable def bopF (F : BinF) (gx gy : Tre AV d → AV) (s : OpF d) : OpF d := fun forc E T k => F (gx E) (gy E) (fun r => k r T) (s forc E T k)
theorem bopF_ok {op : BinOp} {t t2 : TypeId} {x y : Operand} {F : BinF} {gx gy : Tre AV d → AV} {s : OpF d} (ho : o.op = .binOp op t x y t2) (hF : binF op = some F) (hx : copd gl d n x = some gx) (hy : copd gl d n y = some gy)
    (hs : OpOK P gl d n o s) : OpOK P gl d n o (bopF F gx gy s) := by
  intro forc orc E T k out H hO hR h
  rcases binF_ok (P := P) (t := t) hF _ _ _ _ _ h with ⟨r, h1, h2⟩ | h
  · exact ⟨r, T, H, aop_pure (by simp [kind, ho]) (by simp [apure', ho, rhoE_of hx, rhoE_of hy, aBin2_of h1]), hR, h2⟩
  · exact hs forc orc E T k out H hO hR h

noncomputable def notF (g : Tre AV d → AV) : OpF d := fun _ E T k => onBool (g E) (fun b => iff' b (k (.bool false) T) (k (.bool true) T)) none
theorem notF_ok {t : TypeId} {x : Operand} {g : Tre AV d → AV} (ho : o.op = .unOp .not t x) (hg : copd gl d n x = some g) : OpOK P gl d n o (notF g) := by
  intro forc orc E T k out H hO hR h
  rcases onBool_some h with ⟨w, e, h⟩ | ⟨_, h⟩ <;> try (cases h; done)
  refine ⟨.bool !w, T, H, aop_pure (by simp [kind, ho]) (by simp [apure', apure, ho, rhoE_of hg, e, aUn]), hR, ?_⟩
  cases w <;> exact h

noncomputable def loadF1 (g : Tre AV d → AV) : OpF d := fun _ E T k =>
  onPtr (g E) (fun b off => onCells (T.get b) (fun _ _ cs _ => getR cs off (fun v => k v T) none) none) (fun cs => getR cs 0 (fun v => k v T) none) none
theorem loadF1_ok {t : TypeId} {x : Operand} {g : Tre AV d → AV} (ho : o.op = .load t x) (ht : tagg P t = some false) (hg : copd gl d n x = some g) : OpOK P gl d n o (loadF1 g) := by
  intro forc orc E T k out H hO hR h
  rcases onPtr_some h with ⟨b, off, e, h⟩ | ⟨cs, e, h⟩ | h <;> try (cases h; done)
  · obtain ⟨fam, sh, cs, ty, e2, h⟩ := onCells_some h
    obtain ⟨v, h1, h2⟩ := getR_some h
    have hH := hR.obj b (by rw [e2])
    rw [e2] at hH
    exact ⟨v, T, H, aop_pure (by simp [kind, ho]) (by simp [apure', apure, ho, rhoE_of hg, e, aload, ht, rd, hH, tk_one h1]), hR, h2⟩
  · obtain ⟨v, h1, h2⟩ := getR_some h
    have := tk_one h1
    exact ⟨v, T, H, aop_pure (by simp [kind, ho]) (by simp [apure', apure, ho, rhoE_of hg, e, aload, ht, rd, show tk 1 cs = some [v] by simpa using this]), hR, h2⟩

noncomputable def loadFn (m : Nat) (g : Tre AV d → AV) : OpF d := fun _ E T k =>
  onPtr (g E) (fun b off => onCells (T.get b) (fun _ _ cs _ => tkR m (dropR cs off) (fun l => k (.agg l) T) none) none) (fun cs => tkR m cs (fun l => k (.agg l) T) none) none
theorem loadFn_ok {t : TypeId} {x : Operand} {m : Nat} {g : Tre AV d → AV} (ho : o.op = .load t x) (ht : tagg P t = some true) (hm : tsz P t = some m) (hg : copd gl d n x = some g) : OpOK P gl d n o (loadFn m g) := by
  intro forc orc E T k out H hO hR h
  rcases onPtr_some h with ⟨b, off, e, h⟩ | ⟨cs, e, h⟩ | h <;> try (cases h; done)
  · obtain ⟨fam, sh, cs, ty, e2, h⟩ := onCells_some h
    obtain ⟨v, h1, h2⟩ := tkR_some h
    have hH := hR.obj b (by rw [e2])
    rw [e2] at hH
    rw [dropR_eq] at h1
    exact ⟨.agg v, T, H, aop_pure (by simp [kind, ho]) (by simp [apure', apure, ho, rhoE_of hg, e, aload, ht, hm, rd, hH, h1]), hR, h2⟩
  · obtain ⟨v, h1, h2⟩ := tkR_some h
    exact ⟨.agg v, T, H, aop_pure (by simp [kind, ho]) (by simp [apure', apure, ho, rhoE_of hg, e, aload, ht, hm, rd, h1]), hR, h2⟩

noncomputable def fadF (c : Nat) (g : Tre AV d → AV) : OpF d := fun _ E T k => onPtr (g E) (fun b off => frcN (Nat.add off c) fun w => k (.ptr b w) T) (fun cs => k (.rp (dropR cs c)) T) none
theorem fadF_ok {s : TypeId} {x : Operand} {f m : Nat} {fd : Field} {g : Tre AV d → AV} (ho : o.op = .fieldAddr s x f) (hf : fieldOf P s f = some fd) (hz : tsz P fd.type = some (m + 1)) (hg : copd gl d n x = some g) : OpOK P gl d n o (fadF fd.offset g) := by
  intro forc orc E T k out H hO hR h
  rcases onPtr_some h with ⟨b, off, e, h⟩ | ⟨cs, e, h⟩ | h <;> try (cases h; done)
  · rw [frcN_eq'] at h
    exact ⟨_, T, H, aop_pure (by simp [kind, ho]) (by simp only [apure', apure, ho, rhoE_of hg, e, aFieldAddr, hf, hz]; rfl), hR, h⟩
  · rw [dropR_eq] at h
    exact ⟨_, T, H, aop_pure (by simp [kind, ho]) (by simp only [apure', apure, ho, rhoE_of hg, e, aFieldAddr, hf, hz]), hR, h⟩

noncomputable def iadF (z : Nat) (gx gi : Tre AV d → AV) : OpF d := fun _ E T k =>
  onNat (gi E) (fun _ i => onSlice (gx E) (fun b off len _ z' => iff' (Nat.blt i len) (iff' (Nat.beq z' z) (frcN (Nat.add off (Nat.mul i z)) fun w => k (.ptr b w) T) none) none)
    (fun m z' cs => iff' (Nat.blt i m) (iff' (Nat.beq z' z) (k (.rp (dropR cs (Nat.mul i z))) T) none) none) none none) none
theorem iadF_ok {t e : TypeId} {x i : Operand} {z : Nat} {gx gi : Tre AV d → AV} (ho : o.op = .indexAddr t x i) (ht : P.underlying t = some (.slice e)) (hz : tsz P e = some z) (hx : copd gl d n x = some gx) (hi : copd gl d n i = some gi) : OpOK P gl d n o (iadF z gx gi) := by
  intro forc orc E T k out H hO hR h
  rcases onNat_some h with ⟨kk, m, e1, h⟩ | h <;> try (cases h; done)
  rcases onSlice_some h with ⟨b, off, l, c, z', e2, h⟩ | ⟨l, z', cs, e2, h⟩ | ⟨_, h⟩ | h <;> try (cases h; done)
  · obtain ⟨h1, h⟩ := iff_some h
    obtain ⟨h2, h⟩ := iff_some h
    have h1' : m < l := by simpa [Nat.blt_eq] using h1
    have h2' := Nat.eq_of_beq_eq_true h2
    subst h2'
    rw [frcN_eq'] at h
    refine ⟨_, T, H, aop_pure (by simp [kind, ho]) ?_, hR, h⟩
    have hc : (0 : Int) ≤ Int.ofNat m ∧ Int.ofNat m < (l : Int) := ⟨Int.natCast_nonneg m, by show (m : Int) < l; omega⟩
    simp only [apure', apure, ho, rhoE_of hx, rhoE_of hi, e1, e2, aIndexAddr, ht, hz, if_pos hc, if_true]
    rfl
  · obtain ⟨h1, h⟩ := iff_some h
    obtain ⟨h2, h⟩ := iff_some h
    have h1' : m < l := by simpa [Nat.blt_eq] using h1
    have h2' := Nat.eq_of_beq_eq_true h2
    subst h2'
    rw [dropR_eq] at h
    refine ⟨_, T, H, aop_pure (by simp [kind, ho]) ?_, hR, h⟩
    have hc : (0 : Int) ≤ Int.ofNat m ∧ Int.ofNat m < (l : Int) := ⟨Int.natCast_nonneg m, by show (m : Int) < l; omega⟩
    simp only [apure', apure, ho, rhoE_of hx, rhoE_of hi, e1, e2, aIndexAddr, ht, hz, if_pos hc, if_true]
    rfl

noncomputable def idxF (gx gi : Tre AV d → AV) : OpF d := fun _ E T k =>
  onNat (gi E) (fun _ i => onStr (gx E) (fun s => getR s i (fun c => frcN (UInt8.toNat c) fun w => k (.int .u8 (.ofNat w)) T) none) none) none
theorem idxF_ok {t : TypeId} {x i : Operand} {gx gi : Tre AV d → AV} (ho : o.op = .index t x i) (ht : P.underlying t = some .string) (hx : copd gl d n x = some gx) (hi : copd gl d n i = some gi) : OpOK P gl d n o (idxF gx gi) := by
  intro forc orc E T k out H hO hR h
  rcases onNat_some h with ⟨kk, m, e1, h⟩ | h <;> try (cases h; done)
  rcases onStr_some h with ⟨s, e2, h⟩ | h <;> try (cases h; done)
  obtain ⟨c, h1, h⟩ := getR_some h
  rw [frcN_eq'] at h
  refine ⟨_, T, H, aop_pure (by simp [kind, ho]) ?_, hR, h⟩
  have hc : (0 : Int) ≤ Int.ofNat m := Int.natCast_nonneg m
  have ht' : (Int.ofNat m).toNat = m := rfl
  simp only [apure', apure, ho, rhoE_of hx, rhoE_of hi, e1, e2, aIndex, ht, if_pos hc, ht', h1]
  rfl

noncomputable def extF (i : Nat) (g : Tre AV d → AV) : OpF d := fun _ E T k => onTuple (g E) (fun vs => getR vs i (fun v => k v T) none) none
theorem extF_ok {x : Operand} {i : Nat} {g : Tre AV d → AV} (ho : o.op = .extract x i) (hg : copd gl d n x = some g) : OpOK P gl d n o (extF i g) := by
  intro forc orc E T k out H hO hR h
  rcases onTuple_some h with ⟨vs, e, h⟩ | h <;> try (cases h; done)
  obtain ⟨v, h1, h2⟩ := getR_some h
  exact ⟨v, T, H, aop_pure (by simp [kind, ho]) (by simp [apure', apure, ho, rhoE_of hg, e, aExtract, h1]), hR, h2⟩

/-- What is surely not nil goes on as it is. -/
noncomputable def nilF (g : Tre AV d → AV) (s : OpF d) : OpF d := fun forc E T k => onPtr (g E) (fun b off => k (.ptr b off) T) (fun cs => k (.rp cs) T) (s forc E T k)
theorem nilF_ok {x : Operand} {g : Tre AV d → AV} {s : OpF d} (ho : o.op = .nilCheck x) (hg : copd gl d n x = some g) (hs : OpOK P gl d n o s) : OpOK P gl d n o (nilF g s) := by
  intro forc orc E T k out H hO hR h
  rcases onPtr_some h with ⟨b, off, e, h⟩ | ⟨cs, e, h⟩ | h
  · exact ⟨_, T, H, aop_pure (by simp [kind, ho]) (by simp [apure', apure, ho, rhoE_of hg, e, aNil]), hR, h⟩
  · exact ⟨_, T, H, aop_pure (by simp [kind, ho]) (by simp [apure', apure, ho, rhoE_of hg, e, aNil]), hR, h⟩
  · exact hs forc orc E T k out H hO hR h

noncomputable def lenSF (g : Tre AV d → AV) : OpF d := fun _ E T k => onStr (g E) (fun s => frcN (lenR s) fun m => k (.int .i64 (.ofNat m)) T) none
noncomputable def lenF (g : Tre AV d → AV) : OpF d := fun _ E T k => onSlice (g E) (fun _ _ l _ _ => k (.int .i64 (.ofNat l)) T) (fun m _ _ => k (.int .i64 (.ofNat m)) T) (k (.int .i64 (.ofNat 0)) T) none
noncomputable def lenMF (g : Tre AV d → AV) : OpF d := fun _ E T k => frc1 (g E) fun v => match v with
  | .nmap => k (.int .i64 (.ofNat 0)) T
  | .map b => onMap (T.get b) (fun _ _ es _ => frcN (lenR es) fun m => k (.int .i64 (.ofNat m)) T) none
  | _ => none

theorem kind_len {c : Call} (ho : o.op = .call c) (hc : c.callee = .builtin .len) : kind o = 1 := by simp [kind, ho, hc]

theorem lenSF_ok {c : Call} {x : Operand} {t : TypeId} {ts : List TypeId} {g : Tre AV d → AV} (ho : o.op = .call c) (hc : c.callee = .builtin .len) (ha : c.args.toList = [x]) (ht : c.argTypes.toList = t :: ts) (hu : P.underlying t = some .string)
    (hg : copd gl d n x = some g) : OpOK P gl d n o (lenSF g) := by
  intro forc orc E T k out H hO hR h
  rcases onStr_some h with ⟨s, e, h⟩ | h <;> try (cases h; done)
  rw [frcN_eq', lenR_eq] at h
  exact ⟨_, T, H, aop_pure (by rw [kind_len ho hc]; omega) (by simp only [apure', apure, ho, hc, ha, ht, rhoE_of hg, e, aLen, hu]; rfl), hR, h⟩

theorem lenF_ok {c : Call} {x : Operand} {t el : TypeId} {ts : List TypeId} {g : Tre AV d → AV} (ho : o.op = .call c) (hc : c.callee = .builtin .len) (ha : c.args.toList = [x]) (ht : c.argTypes.toList = t :: ts) (hu : P.underlying t = some (.slice el))
    (hg : copd gl d n x = some g) : OpOK P gl d n o (lenF g) := by
  intro forc orc E T k out H hO hR h
  rcases onSlice_some h with ⟨b, off, l, c', z', e, h⟩ | ⟨l, z', cs, e, h⟩ | ⟨e, h⟩ | h <;> try (cases h; done)
  all_goals exact ⟨_, T, H, aop_pure (by rw [kind_len ho hc]; omega) (by simp only [apure', apure, ho, hc, ha, ht, rhoE_of hg, e, aLen, hu]; rfl), hR, h⟩

theorem lenMF_ok {c : Call} {x : Operand} {t kt el : TypeId} {ts : List TypeId} {g : Tre AV d → AV} (ho : o.op = .call c) (hc : c.callee = .builtin .len) (ha : c.args.toList = [x]) (ht : c.argTypes.toList = t :: ts) (hu : P.underlying t = some (.map kt el))
    (hg : copd gl d n x = some g) : OpOK P gl d n o (lenMF g) := by
  intro forc orc E T k out H hO hR h
  simp only [lenMF, frc1_eq] at h
  split at h <;> try (cases h; done)
  · rename_i e
    exact ⟨_, T, H, aop_pure (by rw [kind_len ho hc]; omega) (by simp only [apure', apure, ho, hc, ha, ht, rhoE_of hg, e, aLen, hu]; rfl), hR, h⟩
  · rename_i b e
    obtain ⟨fam, sh, es, cl, e2, h⟩ := onMap_some h
    have hH := hR.obj b (by rw [e2])
    rw [e2] at hH
    rw [frcN_eq', lenR_eq] at h
    exact ⟨_, T, H, aop_pure (by rw [kind_len ho hc]; omega) (by simp only [apure', apure, ho, hc, ha, ht, rhoE_of hg, e, aLen, hu, mapObj, hH]; rfl), hR, h⟩

/-! what makes a block -/
noncomputable def newF (mk : Nat → AV) (bd : ABody) (k : Knt) (T : TH) : Res := newK T bd fun sz T' => frc1 (mk sz) fun v => k v T'

noncomputable def frcBd {β : Type} (b : ABody) (f : ABody → β) : β := match b with
  | .cells cs ty => frcVLR cs fun cs => f (.cells cs ty)
  | b => f b
theorem frcBd_eq {β : Type} (b : ABody) (f : ABody → β) : frcBd b f = f b := by cases b <;> simp [frcBd, frcVLR_eq]

noncomputable def slowN (P : Program) (gl : Glob) (d n : Nat) (o : Oper) : OpF d := fun _ E T k => match aallocF P (rhoE gl d n E) o with | some (mk, bd) => frcBd bd fun bd => newF mk bd k T | none => none

theorem newF_ok {E : Tre AV d} {orc : Orc} {T : TH} {k : Knt} {out : AV × TH} {H : AHeap} {mk : Nat → AV} {bd : ABody} (hk : kind o = 2) (ha : aallocF P (rhoE gl d n E) o = some (mk, bd)) (hR : Rep T H) (h : newF mk bd k T = some out) :
    ∃ r T' H', aop P orc (rhoE gl d n E) o H = some (r, H') ∧ Rep T' H' ∧ k r T' = some out := by
  obtain ⟨h1, h2⟩ := newK_some h
  rw [frc1_eq] at h2
  refine ⟨mk H.length, _, _, aop_new hk ha, hR.push h1 bd, ?_⟩
  rw [← hR.sz]; exact h2

theorem slowN_ok (hk : kind o = 2) : OpOK P gl d n o (slowN P gl d n o) := by
  intro forc orc E T k out H hO hR h
  unfold slowN at h
  split at h <;> try (simp at h; done)
  rename_i mk bd ha
  rw [frcBd_eq] at h
  exact newF_ok hk ha hR h

noncomputable def allF (bd : ABody) : OpF d := fun _ E T k => newF (fun m => .ptr m 0) bd k T
theorem allF_ok {e : TypeId} {z : AV} (ho : o.op = .alloc e) (hz : tzero P e = some z) : OpOK P gl d n o (allF (.cells z.cells e)) := by
  intro forc orc E T k out H hO hR h
  exact newF_ok (by simp [kind, ho]) (by simp [aallocF, ho, hz]) hR h

noncomputable def boxF (e : TypeId) (g : Tre AV d → AV) : OpF d := fun _ E T k => frc1 (g E) fun v => onAgg v (fun cs => newF (fun m => .ptr m 0) (.cells cs e) k T) (newF (fun m => .ptr m 0) (.cells [v] e) k T)
theorem cells_one {v : AV} (h : ∀ b, v ≠ .agg b) : v.cells = [v] := by cases v <;> first | rfl | exact (h _ rfl).elim
theorem boxF_ok {e : TypeId} {x : Operand} {g : Tre AV d → AV} (ho : o.op = .box e x) (hg : copd gl d n x = some g) : OpOK P gl d n o (boxF e g) := by
  intro forc orc E T k out H hO hR h
  simp only [boxF, frc1_eq] at h
  rcases onAgg_some h with ⟨cs, e1, h⟩ | ⟨hne, h⟩
  · exact newF_ok (by simp [kind, ho]) (by simp [aallocF, ho, rhoE_of hg, e1, AV.cells]) hR h
  · exact newF_ok (by simp [kind, ho]) (by simp [aallocF, ho, rhoE_of hg, cells_one hne]) hR h

/-! parts in their places -/
noncomputable def cfill (gl : Glob) (d n : Nat) (place : Nat → Option (Nat × Nat)) : List (Nat × Operand) → Option (Tre AV d → List AV → (List AV → Res) → Res)
  | [] => some fun _ cs f => f cs
  | (i, x) :: l => match place i, copd gl d n x, cfill gl d n place l with
    | some (off, sz), some g, some G => frcNR off fun off => frcNR sz fun sz => some fun E cs f => frc1 (g E) fun v =>
        onAgg v (fun vs => iff' (Nat.beq (lenR vs) sz) (splR cs off vs (fun cs' => G E cs' f) none) none) (iff' (Nat.beq 1 sz) (splR cs off [v] (fun cs' => G E cs' f) none) none)
    | _, _, _ => none

theorem cfill_ok {place : Nat → Option (Nat × Nat)} : ∀ (l : List (Nat × Operand)) (G : Tre AV d → List AV → (List AV → Res) → Res), cfill gl d n place l = some G → ∀ E cs f out, G E cs f = some out →
    ∃ us cs', aparts (rhoE gl d n E) l = some us ∧ aFill place cs us = some cs' ∧ f cs' = some out
  | [], G, h, E, cs, f, out, he => by simp [cfill] at h; subst h; exact ⟨[], cs, rfl, rfl, he⟩
  | (i, x) :: l, G, h, E, cs, f, out, he => by
    simp only [cfill] at h
    split at h <;> try (simp at h; done)
    rename_i off sz g G' hp hg hG
    rw [frcNR_eq, frcNR_eq] at h
    simp at h; subst h
    simp only [frc1_eq] at he
    rcases onAgg_some he with ⟨vs, e, he2⟩ | ⟨hne, he2⟩
    · obtain ⟨h1, he3⟩ := iff_some he2
      have h1' := Nat.eq_of_beq_eq_true h1
      rw [lenR_eq] at h1'
      obtain ⟨cs1, h2, he4⟩ := splR_some he3
      obtain ⟨us, cs', k1, k2, k3⟩ := cfill_ok l G' hG E cs1 f out he4
      exact ⟨(i, .agg vs) :: us, cs', by simp [aparts, rhoE_of hg, e, k1], by simp [aFill, hp, AV.cells, h1', h2, k2], k3⟩
    · obtain ⟨h1, he3⟩ := iff_some he2
      have h1' := Nat.eq_of_beq_eq_true h1
      obtain ⟨cs1, h2, he4⟩ := splR_some he3
      obtain ⟨us, cs', k1, k2, k3⟩ := cfill_ok l G' hG E cs1 f out he4
      exact ⟨(i, g E) :: us, cs', by simp [aparts, rhoE_of hg, k1], by simp [aFill, hp, cells_one hne, ← h1', h2, k2], k3⟩

noncomputable def bldF (zs : List AV) (G : Tre AV d → List AV → (List AV → Res) → Res) : OpF d := fun _ E T k => G E zs fun cs => k (.agg cs) T
theorem bldF_ok {t : TypeId} {ps : Array (Nat × Operand)} {z : AV} {fs : Array Field} {G : Tre AV d → List AV → (List AV → Res) → Res} (ho : o.op = .build t ps) (hz : tzero P t = some z) (hu : P.underlying t = some (.struct fs)) (ha : allSized P t = true)
    (hG : cfill gl d n (fplace P t) ps.toList = some G) : OpOK P gl d n o (bldF z.cells G) := by
  intro forc orc E T k out H hO hR h
  obtain ⟨us, cs', h1, h2, h3⟩ := cfill_ok _ _ hG E _ _ _ h
  exact ⟨.agg cs', T, H, aop_pure (by simp [kind, ho]) (by simp [apure', apure, ho, h1, aBuild, hz, hu, ha, h2]), hR, h3⟩

noncomputable def bslF (len : Nat) (zs : List AV) (e : TypeId) (z : Nat) (G : Tre AV d → List AV → (List AV → Res) → Res) : OpF d := fun _ E T k => G E zs fun cs => newF (fun m => .slice m 0 len len z) (.cells cs e) k T
theorem bsCore_fill {t : TypeId} {len : Nat} {zs cs : List AV} {e : TypeId} {z : Nat} {us : List (Nat × AV)} (h : bsCore P t len [] = some (zs, e, z)) (hf : aFill (fun i => some (i * z, z)) zs us = some cs) : bsCore P t len us = some (cs, e, z) := by
  unfold bsCore at h ⊢
  split at h <;> try (simp at h; done)
  rename_i e' hu
  split at h <;> try (simp at h; done)
  rename_i z' hz
  split at h <;> try (simp at h; done)
  rename_i hle
  split at h <;> try (simp at h; done)
  rename_i zs' hzs
  simp only [aFill, Option.some.injEq, Prod.mk.injEq] at h
  obtain ⟨rfl, rfl, rfl⟩ := h
  simp only [hu, hz, if_pos hle, hzs, hf]
theorem bslF_ok {t : TypeId} {len : Nat} {ps : Array (Nat × Operand)} {zs : List AV} {e : TypeId} {z : Nat} {G : Tre AV d → List AV → (List AV → Res) → Res} (ho : o.op = .buildSlice t len ps) (hz : bsCore P t len [] = some (zs, e, z))
    (hG : cfill gl d n (fun i => some (i * z, z)) ps.toList = some G) : OpOK P gl d n o (bslF len zs e z G) := by
  intro forc orc E T k out H hO hR h
  obtain ⟨us, cs', h1, h2, h3⟩ := cfill_ok _ _ hG E _ _ _ h
  exact newF_ok (by simp [kind, ho]) (by simp [aallocF, ho, h1, bsCore_fill hz h2]) hR h3

/-! slices of texts and slices -/
noncomputable def cbnd (gl : Glob) (d n : Nat) : Option Operand → Option (Tre AV d → Nat → (Nat → Res) → Res)
  | none => some fun _ m f => f m
  | some x => match copd gl d n x with | some g => some fun E _ f => onNat (g E) (fun _ i => f i) none | none => none
theorem cbnd_ok {b : Option Operand} {B : Tre AV d → Nat → (Nat → Res) → Res} (h : cbnd gl d n b = some B) {E : Tre AV d} {m top : Nat} {f : Nat → Res} {out : AV × TH} (hm : m ≤ top) (he : B E m (fun i => iff' (Nat.ble i top) (f i) none) = some out) :
    ∃ ob i, aopt (rhoE gl d n E) b = some ob ∧ bnd ob m top = some i ∧ f i = some out := by
  cases b with
  | none =>
    simp [cbnd] at h; subst h
    obtain ⟨_, h2⟩ := iff_some he
    exact ⟨none, m, rfl, rfl, h2⟩
  | some x =>
    simp only [cbnd] at h
    split at h <;> simp at h
    rename_i g hg
    subst h
    rcases onNat_some he with ⟨kk, i, e, he2⟩ | he2 <;> try (cases he2; done)
    obtain ⟨h1, h2⟩ := iff_some he2
    have h1' : i ≤ top := Nat.le_of_ble_eq_true h1
    refine ⟨some (g E), i, by simp [aopt, rhoE_of hg], ?_, h2⟩
    have hc : (0 : Int) ≤ Int.ofNat i ∧ Int.ofNat i ≤ (top : Int) := ⟨Int.natCast_nonneg i, by show (i : Int) ≤ top; omega⟩
    simp only [bnd, e, if_pos hc]; rfl

noncomputable def slsF (gx : Tre AV d → AV) (lo hi : Tre AV d → Nat → (Nat → Res) → Res) : OpF d := fun _ E T k => onStr (gx E) (fun s => frcNR (lenR s) fun m => hi E m fun h => iff' (Nat.ble h m) (lo E 0 fun l => iff' (Nat.ble l h) (takeK (dropR s l) (Nat.sub h l) fun r => k (.str r) T) none) none) none
theorem slsF_ok {t : TypeId} {x : Operand} {lo hi : Option Operand} {gx : Tre AV d → AV} {L R : Tre AV d → Nat → (Nat → Res) → Res} (ho : o.op = .slice t x lo hi none) (ht : P.underlying t = some .string) (hx : copd gl d n x = some gx) (hL : cbnd gl d n lo = some L) (hH : cbnd gl d n hi = some R) :
    OpOK P gl d n o (slsF gx L R) := by
  intro forc orc E T k out H hO hR h
  rcases onStr_some h with ⟨s, e, h⟩ | h <;> try (cases h; done)
  rw [frcNR_eq, lenR_eq] at h
  obtain ⟨oh, i, a1, a2, h⟩ := cbnd_ok hH (Nat.le_refl _) h
  obtain ⟨ol, l, b1, b2, h⟩ := cbnd_ok hL (Nat.zero_le _) h
  rw [takeK_eq, dropR_eq] at h
  exact ⟨_, T, H, aop_pure (by simp [kind, ho]) (by simp only [apure', apure, ho, rhoE_of hx, a1, b1, e, aSlice, ht, a2, b2]; rfl), hR, h⟩

noncomputable def sliF (z : Nat) (gx : Tre AV d → AV) (lo hi : Tre AV d → Nat → (Nat → Res) → Res) : OpF d := fun _ E T k => onSlice (gx E)
  (fun b off len cap z' => iff' (Nat.ble len cap) (iff' (Nat.beq z z') (hi E len fun h => iff' (Nat.ble h cap) (lo E 0 fun l => iff' (Nat.ble l h) (frcNR (Nat.add off (Nat.mul l z')) fun o' => frcNR (Nat.sub h l) fun n' => frcNR (Nat.sub cap l) fun c' => k (.slice b o' n' c' z') T) none) none) none) none)
  (fun m z' cs => iff' (Nat.beq z z') (hi E m fun h => iff' (Nat.ble h m) (lo E 0 fun l => iff' (Nat.ble l h) (frcNR (Nat.sub h l) fun n' => takeK (dropR cs (Nat.mul l z')) (Nat.mul n' z') fun r => k (.rs n' z' r) T) none) none) none)
  (hi E 0 fun h => iff' (Nat.ble h 0) (lo E 0 fun l => iff' (Nat.ble l h) (k .nslice T) none) none) none
theorem sliF_ok {t e : TypeId} {x : Operand} {z : Nat} {lo hi : Option Operand} {gx : Tre AV d → AV} {L R : Tre AV d → Nat → (Nat → Res) → Res} (ho : o.op = .slice t x lo hi none) (ht : P.underlying t = some (.slice e)) (hz : tsz P e = some z) (hx : copd gl d n x = some gx)
    (hL : cbnd gl d n lo = some L) (hH : cbnd gl d n hi = some R) : OpOK P gl d n o (sliF z gx L R) := by
  intro forc orc E T k out H hO hR h
  rcases onSlice_some h with ⟨b, off, len, cap, z', e1, h1⟩ | ⟨m, z', cs, e1, h1⟩ | ⟨e1, h1⟩ | h1 <;> try (cases h1; done)
  · obtain ⟨g1, h1⟩ := iff_some h1
    obtain ⟨g2, h2⟩ := iff_some h1
    have g2' := Nat.eq_of_beq_eq_true g2
    obtain ⟨oh, i, a1, a2, h3⟩ := cbnd_ok hH (Nat.le_of_ble_eq_true g1) h2
    obtain ⟨ol, l, b1, b2, h4⟩ := cbnd_ok hL (Nat.zero_le _) h3
    simp only [frcNR_eq] at h4
    exact ⟨_, T, H, aop_pure (by simp [kind, ho]) (by simp only [apure', apure, ho, rhoE_of hx, a1, b1, e1, aSlice, ht, hz, if_pos g2', a2, b2]; rfl), hR, h4⟩
  · obtain ⟨g2, h2⟩ := iff_some h1
    have g2' := Nat.eq_of_beq_eq_true g2
    obtain ⟨oh, i, a1, a2, h3⟩ := cbnd_ok hH (Nat.le_refl _) h2
    obtain ⟨ol, l, b1, b2, h4⟩ := cbnd_ok hL (Nat.zero_le _) h3
    simp only [frcNR_eq] at h4
    rw [takeK_eq, dropR_eq] at h4
    exact ⟨_, T, H, aop_pure (by simp [kind, ho]) (by simp only [apure', apure, ho, rhoE_of hx, a1, b1, e1, aSlice, ht, hz, if_pos g2', a2, b2]; rfl), hR, h4⟩
  · obtain ⟨oh, i, a1, a2, h3⟩ := cbnd_ok hH (Nat.le_refl _) h1
    obtain ⟨ol, l, b1, b2, h4⟩ := cbnd_ok hL (Nat.zero_le _) h3
    exact ⟨_, T, H, aop_pure (by simp [kind, ho]) (by simp only [apure', apure, ho, rhoE_of hx, a1, b1, e1, aSlice, ht, hz, a2, b2]), hR, h4⟩

noncomputable def cnvF (kk : IntKind) (g : Tre AV d → AV) (s : OpF d) : OpF d := fun forc E T k => onNat (g E) (fun _ m => iff' (Nat.ble m (kmx kk)) (k (.int kk (.ofNat m)) T) (s forc E T k)) (s forc E T k)
theorem cnvF_ok {src dst : TypeId} {x : Operand} {kk : IntKind} {td : TypeDesc} {g : Tre AV d → AV} {s : OpF d} (ho : o.op = .convert src dst x) (hs : P.underlying src = some td) (hd : P.underlying dst = some (.int kk)) (hg : copd gl d n x = some g) (hsl : OpOK P gl d n o s) : OpOK P gl d n o (cnvF kk g s) := by
  intro forc orc E T k out H hO hR h
  rcases onNat_some h with ⟨k0, m, e, h1⟩ | h1
  · cases hb : Nat.ble m (kmx kk) with
    | true =>
      rw [hb] at h1
      have hw := kmx_wrap (Nat.le_of_ble_eq_true hb)
      have hw' : kk.wrap (Int.ofNat m) = Int.ofNat m := hw
      exact ⟨_, T, H, aop_pure (by simp [kind, ho]) (by simp only [apure', apure, ho, rhoE_of hg, e, aConv, hs, hd, hw']), hR, h1⟩
    | false =>
      rw [hb] at h1
      exact hsl forc orc E T k out H hO hR h1
  · exact hsl forc orc E T k out H hO hR h1

/-- '[]byte(s)'. -/
noncomputable def mapB (s : List UInt8) : List AV := List.rec [] (fun b _ ih => .int .u8 (Int.ofNat (UInt8.toNat b)) :: ih) s
theorem mapB_eq : ∀ s : List UInt8, mapB s = s.map fun b => .int .u8 b.toNat
  | [] => rfl
  | b :: s => by show _ :: mapB s = _; rw [mapB_eq s]; rfl
noncomputable def stbF (g : Tre AV d → AV) : OpF d := fun _ E T k => onStr (g E) (fun s => frcNR (lenR s) fun m => frcVLR (mapB s) fun cs => k (.rs m 1 cs) T) none
theorem stbF_ok {src dst x : _} {e : TypeId} {g : Tre AV d → AV} (ho : o.op = .convert src dst x) (hs : P.underlying src = some .string) (hd : P.underlying dst = some (.slice e)) (he : P.underlying e = some (.int .u8)) (hg : copd gl d n x = some g) : OpOK P gl d n o (stbF g) := by
  intro forc orc E T k out H hO hR h
  rcases onStr_some h with ⟨s, e1, h1⟩ | h1 <;> try (cases h1; done)
  rw [frcNR_eq, frcVLR_eq, mapB_eq, lenR_eq] at h1
  refine ⟨_, T, H, ?_, hR, h1⟩
  rw [aop_low (by simp [kind, ho])]
  simp [apure', apure, aeff, ho, rhoE_of hg, e1, aConv, hs, hd, aConvB, he]

/-! writing -/
noncomputable def oneR (v : AV) : Bool := onAgg v (fun _ => false) (onTuple v (fun _ => false) true)
theorem oneR_eq (v : AV) : oneR v = one v := by cases v <;> rfl
noncomputable def allOne (l : List AV) : Bool := List.rec true (fun v _ ih => iff' (oneR v) ih false) l
theorem allOne_eq : ∀ l : List AV, allOne l = l.all one
  | [] => rfl
  | v :: l => by
    show iff' (oneR v) (allOne l) false = _
    rw [allOne_eq l, oneR_eq, List.all_cons, iff'_eq]; cases one v <;> simp

noncomputable def wrF (a : AV) (vs : List AV) (T : TH) (f : TH → Res) : Res :=
  onPtr a (fun b off => onCells (T.get b) (fun fam sh cs ty => iff' (allOne vs) (splR cs off vs (fun cs' => putK T b ⟨true, fam, sh, .cells cs' ty⟩ f) none) none) none) (fun _ => none) none

theorem wrF_ok {T : TH} {H : AHeap} {a : AV} {vs : List AV} {f : TH → Res} {out : AV × TH} (hR : Rep T H) (h : wrF a vs T f = some out) : ∃ T' H', wr H a vs = some H' ∧ Rep T' H' ∧ f T' = some out := by
  unfold wrF at h
  rcases onPtr_some h with ⟨b, off, rfl, h⟩ | ⟨_, _, h⟩ | h <;> try (cases h; done)
  replace h : onCells (T.get b) _ none = some out := h
  obtain ⟨fam, sh, cs, ty, e2, h⟩ := onCells_some h
  have e2 : T.get b = ⟨true, fam, sh, .cells cs ty⟩ := e2
  obtain ⟨h1, h⟩ := iff_some h
  obtain ⟨cs', h2, h⟩ := splR_some h
  rw [putK_eq] at h
  have hH := hR.obj b (by rw [e2])
  have hs := hR.set' e2 (.cells cs' ty)
  rw [e2] at hH
  rw [allOne_eq] at h1
  exact ⟨_, _, by simp only [wr, hH, h1, if_true, h2], hs, h⟩

noncomputable def stoF (m : Nat) (ga gx : Tre AV d → AV) : OpF d := fun _ E T k =>
  frc1 (gx E) fun v => onAgg v (fun cs => iff' (Nat.beq (lenR cs) m) (wrF (ga E) cs T fun T' => k (.tuple []) T') none) (iff' (Nat.beq 1 m) (wrF (ga E) [v] T fun T' => k (.tuple []) T') none)
theorem kind_store {t : TypeId} {a x : Operand} (ho : o.op = .store t a x) {ρ : Operand → Option AV} {orc : Orc} {H H' : AHeap} {u v : AV} (ha : ρ a = some u) (hx : ρ x = some v) (h : aStore P t u v H = some H') : aop P orc ρ o H = some (.tuple [], H') := by
  simp [aop, apure', apure, aeff, ho, ha, hx, h]
theorem stoF_ok {t : TypeId} {a x : Operand} {m : Nat} {ga gx : Tre AV d → AV} (ho : o.op = .store t a x) (hm : tsz P t = some m) (ha : copd gl d n a = some ga) (hx : copd gl d n x = some gx) : OpOK P gl d n o (stoF m ga gx) := by
  intro forc orc E T k out H hO hR h
  simp only [stoF, frc1_eq] at h
  rcases onAgg_some h with ⟨cs, e, h⟩ | ⟨hne, h⟩
  · obtain ⟨h1, h⟩ := iff_some h
    have h1' := Nat.eq_of_beq_eq_true h1
    rw [lenR_eq] at h1'
    obtain ⟨T', H', g1, g2, g3⟩ := wrF_ok hR h
    exact ⟨_, T', H', kind_store ho (rhoE_of ha) (rhoE_of hx) (by simp [aStore, hm, e, AV.cells, h1', g1]), g2, g3⟩
  · obtain ⟨h1, h⟩ := iff_some h
    have h1' := Nat.eq_of_beq_eq_true h1
    obtain ⟨T', H', g1, g2, g3⟩ := wrF_ok hR h
    exact ⟨_, T', H', kind_store ho (rhoE_of ha) (rhoE_of hx) (by simp [aStore, hm, cells_one hne, ← h1', g1]), g2, g3⟩
end ops

end Go.Abs
end

/-
  A verified abstract interpreter, part 25: calls, append, copy, maps, laid ahead for the kernel; all operations in one.
-/
section
set_option linter.unusedSimpArgs false
set_option linter.unusedVariables false
namespace Go.Abs
open Go.RowKit

noncomputable def frcL {α β : Type} (l : List α) : (List α → β) → β := List.rec (motive := fun _ => (List α → β) → β) (fun f => f []) (fun v _ ih f => ih fun r => f (v :: r)) l
theorem frcL_eq {α β : Type} : ∀ (l : List α) (f : List α → β), frcL l f = f l
  | [], f => rfl
  | v :: l, f => by show frcL l (fun r => f (v :: r)) = _; rw [frcL_eq l]
noncomputable def appR {α : Type} (l m : List α) : List α := List.rec m (fun v _ ih => v :: ih) l
theorem appR_eq {α : Type} : ∀ (l m : List α), appR l m = l ++ m
  | [], m => rfl
  | v :: l, m => by show v :: appR l m = _; rw [appR_eq l]; rfl

section ops
variable {P : Program} {gl : Glob} {d n : Nat} {o : Oper}

noncomputable def cargs (gl : Glob) (d n : Nat) : List Operand → Option (Tre AV d → (List AV → Res) → Res)
  | [] => some fun _ f => f []
  | x :: l => match copd gl d n x, cargs gl d n l with | some g, some G => some fun E f => frc1 (g E) fun v => G E fun vs => f (v :: vs) | _, _ => none

theorem cargs_ok : ∀ (l : List Operand) (G : Tre AV d → (List AV → Res) → Res), cargs gl d n l = some G → ∀ E f, ∃ vs, aevals (rhoE gl d n E) l = some vs ∧ G E f = f vs
  | [], G, h, E, f => by simp [cargs] at h; subst h; exact ⟨[], rfl, rfl⟩
  | x :: l, G, h, E, f => by
    simp only [cargs] at h
    split at h <;> simp at h
    rename_i g G' hg hG
    subst h
    obtain ⟨vs, h1, h2⟩ := cargs_ok l G' hG E (fun vs => f (g E :: vs))
    exact ⟨g E :: vs, by simp [aevals, rhoE_of hg, h1], by simp only [frc1_eq]; exact h2⟩

noncomputable def callK (r : Res) (k : Knt) : Res := Option.rec none (fun p => Prod.rec (fun v T => k v T) p) r
theorem callK_some {r : Res} {k : Knt} {out : AV × TH} (h : callK r k = some out) : ∃ v T, r = some (v, T) ∧ k v T = some out := by
  cases r with
  | none => cases h
  | some p => obtain ⟨v, T⟩ := p; exact ⟨v, T, rfl, h⟩

noncomputable def calSF (g : Nat) (G : Tre AV d → (List AV → Res) → Res) : OpF d := fun forc E T k => G E fun vs => callK (forc g vs T) k
theorem calSF_ok {c : Call} {g : Nat} {G : Tre AV d → (List AV → Res) → Res} (ho : o.op = .call c) (hc : c.callee = .value (.func g)) (hb : hasBody P g = true) (hG : cargs gl d n c.args.toList = some G) : OpOK P gl d n o (calSF g G) := by
  intro forc orc E T k out H hO hR h
  obtain ⟨vs, h1, h2⟩ := cargs_ok _ _ hG E (fun vs => callK (forc g vs T) k)
  have h : G E (fun vs => callK (forc g vs T) k) = some out := h
  rw [h2] at h
  obtain ⟨v, T', h3, h4⟩ := callK_some h
  obtain ⟨H', h5, h6⟩ := hO g vs T v T' h3 H hR
  refine ⟨v, T', H', ?_, h6, h4⟩
  have hf : rhoE gl d n E (.func g) = some (.func (.func g) [] []) := rfl
  simp [aop, ho, callee, hc, hf, h1, acall, hb, h5]

noncomputable def fnG (fn : Fn) (f : Nat → Res) : Res := match fn with | .func g => f g | _ => none
noncomputable def calDF (P : Program) (gf : Tre AV d → AV) (G : Tre AV d → (List AV → Res) → Res) : OpF d := fun forc E T k =>
  onFunc (gf E) (fun fn a b => G E fun vs => fnG fn fun g => iff' (hasBody P g) (callK (forc g (appR a (appR vs b)) T) k) none) none
theorem calDF_ok {c : Call} {f : Operand} {gf : Tre AV d → AV} {G : Tre AV d → (List AV → Res) → Res} (ho : o.op = .call c) (hc : c.callee = .value f) (hf : copd gl d n f = some gf) (hG : cargs gl d n c.args.toList = some G) : OpOK P gl d n o (calDF P gf G) := by
  intro forc orc E T k out H hO hR h
  unfold calDF at h
  rcases onFunc_some h with ⟨fn, a, b, e, h⟩ | h <;> try (cases h; done)
  obtain ⟨vs, h1, h2⟩ := cargs_ok _ _ hG E (fun vs => fnG fn fun g => iff' (hasBody P g) (callK (forc g (appR a (appR vs b)) T) k) none)
  rw [h2] at h
  unfold fnG at h
  split at h <;> try (cases h; done)
  rename_i g
  obtain ⟨hb, h⟩ := iff_some h
  obtain ⟨v, T', h3, h4⟩ := callK_some h
  obtain ⟨H', h5, h6⟩ := hO _ _ _ _ _ h3 H hR
  refine ⟨v, T', H', ?_, h6, h4⟩
  rw [appR_eq, appR_eq] at h5
  simp [aop, ho, callee, hc, rhoE_of hf, e, h1, acall, hb, h5]

/-! append, copy -/
noncomputable def xcF (z : Nat) (x : AV) (T : TH) (f : Nat → List AV → Res) : Res :=
  onSlice x (fun b off len _ z' => iff' (Nat.beq z' z) (onCells (T.get b) (fun _ _ cs _ => tkR (Nat.mul len z) (dropR cs off) (fun l => f len l) none) none) none) (fun m z' cs => iff' (Nat.beq z' z) (f m cs) none) (f 0 [])
    (onStr x (fun s => iff' (Nat.beq z 1) (frcVL (s.map fun b => .int .u8 b.toNat) fun l => frcN (lenR s) fun m => f m l) none) none)
theorem xcF_ok {z : Nat} {x : AV} {T : TH} {H : AHeap} {f : Nat → List AV → Res} {out : AV × TH} (hR : Rep T H) (h : xcF z x T f = some out) : ∃ m xs, xcells H z x = some (m, xs) ∧ f m xs = some out := by
  unfold xcF at h
  rcases onSlice_some h with ⟨b, off, l, c, z', e1, h3⟩ | ⟨m, z', cs, e1, h3⟩ | ⟨e1, h3⟩ | h3
  · obtain ⟨h1, h4⟩ := iff_some h3
    have hz := Nat.eq_of_beq_eq_true h1
    replace h4 : onCells (T.get b) _ none = some out := h4
    obtain ⟨fam, sh, cs, ty, e2, h5⟩ := onCells_some h4
    have e2 : T.get b = ⟨true, fam, sh, .cells cs ty⟩ := e2
    obtain ⟨r, h2, h6⟩ := tkR_some h5
    have hH := hR.obj b (by rw [e2])
    rw [e2] at hH
    rw [dropR_eq] at h2
    have h2' : tk (l * z) (cs.drop off) = some r := h2
    exact ⟨l, r, by simp [xcells, rd, hH, h2', e1, hz], h6⟩
  · obtain ⟨h1, h4⟩ := iff_some h3
    have hz := Nat.eq_of_beq_eq_true h1
    exact ⟨m, cs, by simp [xcells, e1, hz], h4⟩
  · exact ⟨0, [], by simp [xcells, e1], h3⟩
  · rcases onStr_some h3 with ⟨s, e1, h4⟩ | h4 <;> try (cases h4; done)
    obtain ⟨h1, h5⟩ := iff_some h4
    have hz := Nat.eq_of_beq_eq_true h1
    rw [frcVL_eq, frcN_eq', lenR_eq] at h5
    exact ⟨_, _, by simp [xcells, e1, hz], h5⟩

noncomputable def groK (T : TH) (b fam sh : Nat) (cs : List AV) (ty : TypeId) (f : Nat → TH → Res) : Res :=
  onTH T fun sz tr => iff' (Nat.blt sz 4096) (btputK 12 b deadObj tr fun tr1 => btputK 12 sz ⟨true, fam, sh, .cells cs ty⟩ tr1 fun tr2 => frcN (Nat.add sz 1) fun s => f sz ⟨s, tr2⟩) none
theorem groK_some {T : TH} {b fam sh : Nat} {cs : List AV} {ty : TypeId} {f : Nat → TH → Res} {out : AV × TH} (h : groK T b fam sh cs ty f = some out) :
    T.sz < 4096 ∧ f T.sz ((T.set b deadObj).push ⟨true, fam, sh, .cells cs ty⟩) = some out := by
  obtain ⟨sz, tr⟩ := T
  obtain ⟨h1, h2⟩ := iff_some (show iff' (Nat.blt sz 4096) (btputK 12 b deadObj tr fun tr1 => btputK 12 sz ⟨true, fam, sh, .cells cs ty⟩ tr1 fun tr2 => frcN (Nat.add sz 1) fun s => f sz ⟨s, tr2⟩) none = some out from h)
  rw [btputK_eq, btputK_eq, frcN_eq'] at h2
  exact ⟨by simpa [Nat.blt_eq] using h1, h2⟩

theorem Rep.grow' {T : TH} {H : AHeap} (h : Rep T H) {b fam sh0 : Nat} {bd0 : ABody} (e : T.get b = ⟨true, fam, sh0, bd0⟩) (hs : T.sz < 4096) (en sh : Nat) (bd : ABody) :
    Rep ((T.set b deadObj).push ⟨true, fam, sh, bd⟩) (ekil fam en H ++ [⟨true, fam, sh, bd⟩]) := by
  have := h.grow (b := b) (by rw [e]) hs en sh bd
  simp only [e] at this
  exact this

/-- Is anything left? -/
noncomputable def some' {α : Type} (l : List α) : Bool := List.rec false (fun _ _ _ => true) l
theorem some'_drop {α : Type} (l : List α) (k : Nat) : some' (l.drop k) = true ↔ k < l.length := by
  have : ∀ m : List α, some' m = true ↔ 0 < m.length := fun m => by cases m <;> simp [some']
  rw [this, List.length_drop]; omega

/-- A slice that may have to grow: it ends where the known cells end. -/
noncomputable def apgF (e : TypeId) (by' b off len z' lm : Nat) (xs : List AV) (fam sh : Nat) (cs : List AV) (ty : TypeId) (T : TH) (k : Knt) : Res :=
  iff' (Nat.ble lm 1099511627776) (iff' (Nat.ble (Nat.mul lm by') 70368744177664)
    (iff' (Nat.beq (Nat.add off (Nat.mul len z')) (lenR cs)) (iff' (Nat.beq ty e) (iff' (allOne xs)
      (frcL (appR (dropR cs off) xs) fun cs' => frcN (Nat.add sh off) fun so => groK T b fam so cs' ty fun a T' => k (.slice a 0 lm lm z') T') none) none) none) none) none

/-- m more cells xs behind a slice. -/
noncomputable def apdF (e : TypeId) (z by' : Nat) (s : AV) (m : Nat) (xs : List AV) (T : TH) (k : Knt) : Res :=
  iff' (Nat.beq m 0) (onSlice s (fun b o l c z' => k (.slice b o l c z') T) (fun m' z' cs => k (.rs m' z' cs) T) (k .nslice T) none)
    (onSlice s (fun b off len cap z' => iff' (Nat.beq z' z) (frcN (Nat.add len m) fun lm => onCells (T.get b) (fun fam sh cs ty => iff' (Nat.ble lm cap)
        (iff' (some' (dropR cs (Nat.add off (Nat.mul len z')))) (wrF (.ptr b (Nat.add off (Nat.mul len z'))) xs T fun T' => k (.slice b off lm cap z') T') (apgF e by' b off len z' lm xs fam sh cs ty T k))
        (apgF e by' b off len z' lm xs fam sh cs ty T k)) none) none)
      (fun _ _ _ => none) (iff' (Nat.ble m 1099511627776) (iff' (Nat.ble (Nat.mul m by') 70368744177664) (newF (fun a => .slice a 0 m m z) (.cells xs e) k T) none) none) none)

theorem iff_some2 {γ : Type} {b : Bool} {x y : Option γ} {out : γ} (h : iff' b x y = some out) : (b = true ∧ x = some out) ∨ (b = false ∧ y = some out) := by
  cases b
  · exact .inr ⟨rfl, h⟩
  · exact .inl ⟨rfl, h⟩

theorem apdF_ok {e t t2 : TypeId} {i : TypeInfo} {u : AV} {s x : AV} {m : Nat} {xs : List AV} {T : TH} {H : AHeap} {k : Knt} {out : AV × TH} (hu : P.underlying t = some (.slice e)) (hi : P.info? e = some i) (hz : tzero P e = some u) (hx2 : apx P t2 = true) (hsz : u.cells.length = i.size)
    (hR : Rep T H) (hxs : xcells H i.size x = some (m, xs)) (h : apdF e i.size i.bytes s m xs T k = some out) : ∃ r T' H', aAppend P t t2 s x H = some (r, H') ∧ Rep T' H' ∧ k r T' = some out := by
  have hcond : (apx P t2 && u.cells.length == i.size) = true := by simp [hx2, hsz]
  unfold apdF at h
  rcases iff_some2 h with ⟨h0, h⟩ | ⟨h0, h⟩
  · have h0' := Nat.eq_of_beq_eq_true h0
    subst h0'
    rcases onSlice_some h with ⟨b, off, l, c, z', rfl, h⟩ | ⟨l, z', cs, rfl, h⟩ | ⟨rfl, h⟩ | h <;> try (cases h; done)
    all_goals exact ⟨_, T, H, by simp only [aAppend, hu, hi, hz, hcond, hxs, if_true], hR, h⟩
  · have h0' : ¬ m = 0 := by intro e; subst e; simp at h0
    rcases onSlice_some h with ⟨b, off, l, c, z', rfl, h⟩ | ⟨_, _, _, _, h⟩ | ⟨rfl, h⟩ | h <;> try (cases h; done)
    · obtain ⟨h1, h⟩ := iff_some h
      have := Nat.eq_of_beq_eq_true h1; subst this
      rw [frcN_eq'] at h
      replace h : onCells (T.get b) _ none = some out := h
      obtain ⟨fam, sh, cs, ty, e2, h⟩ := onCells_some h
      have e2 : T.get b = ⟨true, fam, sh, .cells cs ty⟩ := e2
      have hH := hR.obj b (by rw [e2])
      rw [e2] at hH
      have hcl : clen H b = cs.length := by simp [clen, hH]
      have grow : ¬ (l + m ≤ c ∧ off + l * i.size < clen H b) → apgF e i.bytes b off l i.size (Nat.add l m) xs fam sh cs ty T k = some out → ∃ r T' H', aAppend P t t2 (.slice b off l c i.size) x H = some (r, H') ∧ Rep T' H' ∧ k r T' = some out := by
        intro h2' h
        obtain ⟨h3, h⟩ := iff_some h
        obtain ⟨h4, h⟩ := iff_some h
        have h3' : l + m ≤ 1099511627776 := Nat.le_of_ble_eq_true h3
        have h4' : (l + m) * i.bytes ≤ 70368744177664 := Nat.le_of_ble_eq_true h4
        obtain ⟨h5, h⟩ := iff_some h
        obtain ⟨h6, h⟩ := iff_some h
        obtain ⟨h7, h⟩ := iff_some h
        have h5' : off + l * i.size = cs.length := by rw [← lenR_eq]; exact Nat.eq_of_beq_eq_true h5
        have h6' := Nat.eq_of_beq_eq_true h6
        rw [allOne_eq] at h7
        rw [frcL_eq, frcN_eq', appR_eq, dropR_eq] at h
        obtain ⟨h8, h⟩ := groK_some h
        have hg := hR.grow' e2 h8 (sh + cs.length) (sh + off) (.cells (cs.drop off ++ xs) ty)
        refine ⟨.slice H.length 0 (l + m) (l + m) i.size, _, _, ?_, hg, ?_⟩
        · simp only [aAppend, hu, hi, hz, hcond, hxs, if_true, if_neg h0', if_neg h2', if_pos (show l + m ≤ 1099511627776 ∧ (l + m) * i.bytes ≤ 70368744177664 from ⟨h3', h4'⟩), hH,
            if_pos (show off + l * i.size = cs.length ∧ ty = e ∧ xs.all one = true from ⟨h5', h6', h7⟩)]
        · rw [← hR.sz]; exact h
      rcases iff_some2 h with ⟨h2, h⟩ | ⟨h2, h⟩
      · have h2' : l + m ≤ c := Nat.le_of_ble_eq_true h2
        rw [dropR_eq] at h
        rcases iff_some2 h with ⟨h9, h⟩ | ⟨h9, h⟩
        · have h9' : off + l * i.size < clen H b := by rw [hcl]; exact (some'_drop cs _).1 h9
          obtain ⟨T', H', g1, g2, g3⟩ := wrF_ok hR h
          have g1' : wr H (.ptr b (off + l * i.size)) xs = some H' := g1
          exact ⟨_, T', H', by simp only [aAppend, hu, hi, hz, hcond, hxs, if_true, if_neg h0', if_pos (show l + m ≤ c ∧ off + l * i.size < clen H b from ⟨h2', h9'⟩), g1']; rfl, g2, g3⟩
        · refine grow (fun hc => ?_) h
          have : some' (cs.drop (off + l * i.size)) = true := (some'_drop cs _).2 (by rw [← hcl]; exact hc.2)
          rw [show some' (List.drop (Nat.add off (Nat.mul l i.size)) cs) = some' (cs.drop (off + l * i.size)) from rfl, this] at h9
          cases h9
      · have h2' : ¬ l + m ≤ c := fun hle => by rw [show Nat.ble (Nat.add l m) c = true from Nat.ble_eq_true_of_le hle] at h2; cases h2
        exact grow (fun hc => h2' hc.1) h
    · obtain ⟨h3, h⟩ := iff_some h
      obtain ⟨h4, h⟩ := iff_some h
      have h3' : m ≤ 1099511627776 := Nat.le_of_ble_eq_true h3
      have h4' : m * i.bytes ≤ 70368744177664 := Nat.le_of_ble_eq_true h4
      obtain ⟨h5, h⟩ := newK_some h
      rw [frc1_eq] at h
      refine ⟨.slice H.length 0 m m i.size, _, _, ?_, hR.push h5 (.cells xs e), ?_⟩
      · simp only [aAppend, hu, hi, hz, hcond, hxs, if_true, if_neg h0', if_pos (show m ≤ 1099511627776 ∧ m * i.bytes ≤ 70368744177664 from ⟨h3', h4'⟩)]; rfl
      · rw [← hR.sz]; exact h

noncomputable def appF (e : TypeId) (z by' : Nat) (gs gx : Tre AV d → AV) : OpF d := fun _ E T k => xcF z (gx E) T fun m xs => apdF e z by' (gs E) m xs T k
theorem aop_eff {ρ : Operand → Option AV} {orc : Orc} {H : AHeap} {c : Call} {b : Builtin} (ho : o.op = .call c) (hc : c.callee = .builtin b) (hb : b = .append ∨ b = .copy) : aop P orc ρ o H = aeff P ρ H o := by
  rcases hb with rfl | rfl <;> simp [aop, apure', apure, ho, hc, callee]
theorem appF_ok {c : Call} {s x : Operand} {t t2 e : TypeId} {i : TypeInfo} {u : AV} {gs gx : Tre AV d → AV} (ho : o.op = .call c) (hc : c.callee = .builtin .append) (ha : c.args.toList = [s, x]) (ht : c.argTypes.toList = [t, t2])
    (hu : P.underlying t = some (.slice e)) (hi : P.info? e = some i) (hz : tzero P e = some u) (hx2 : apx P t2 = true) (hsz : u.cells.length = i.size) (hs : copd gl d n s = some gs) (hx : copd gl d n x = some gx) : OpOK P gl d n o (appF e i.size i.bytes gs gx) := by
  intro forc orc E T k out H hO hR h
  obtain ⟨m, xs, h1, h2⟩ := xcF_ok hR h
  obtain ⟨r, T', H', g1, g2, g3⟩ := apdF_ok hu hi hz hx2 hsz hR h1 h2
  refine ⟨r, T', H', ?_, g2, g3⟩
  rw [aop_eff ho hc (.inl rfl)]
  simp [aeff, ho, hc, ha, ht, rhoE_of hs, rhoE_of hx, g1]

noncomputable def cpyF (z : Nat) (gs gx : Tre AV d → AV) : OpF d := fun _ E T k => xcF z (gx E) T fun m xs => onSlice (gs E)
  (fun b off len _ z' => iff' (Nat.beq z' z) (frcN (Nat.min m len) fun mn => iff' (Nat.beq mn 0) (k (.int .i64 (.ofNat 0)) T) (tkR (Nat.mul mn z') xs (fun cs => wrF (.ptr b off) cs T fun T' => k (.int .i64 (.ofNat mn)) T') none)) none)
  (fun _ _ _ => none) (k (.int .i64 (.ofNat 0)) T) none
theorem cpyF_ok {c : Call} {s x : Operand} {t t2 e : TypeId} {z : Nat} {gs gx : Tre AV d → AV} (ho : o.op = .call c) (hc : c.callee = .builtin .copy) (ha : c.args.toList = [s, x]) (ht : c.argTypes.toList = [t, t2])
    (hu : P.underlying t = some (.slice e)) (hz : tsz P e = some z) (hs : copd gl d n s = some gs) (hx : copd gl d n x = some gx) : OpOK P gl d n o (cpyF z gs gx) := by
  intro forc orc E T k out H hO hR h
  obtain ⟨m, xs, h1, h⟩ := xcF_ok hR h
  have key : ∀ r H', aCopy P t (gs E) (gx E) H = some (r, H') → aop P orc (rhoE gl d n E) o H = some (r, H') := by
    intro r H' g
    rw [aop_eff ho hc (.inr rfl)]
    simp [aeff, ho, hc, ha, ht, rhoE_of hs, rhoE_of hx, g]
  rcases onSlice_some h with ⟨b, off, l, cp, z', e1, h⟩ | ⟨_, _, _, _, h⟩ | ⟨e1, h⟩ | h <;> try (cases h; done)
  · obtain ⟨h2, h5⟩ := iff_some h
    have hzz := Nat.eq_of_beq_eq_true h2
    rw [frcN_eq'] at h5
    rcases iff_some2 h5 with ⟨h3, h6⟩ | ⟨h3, h6⟩
    · have h3' := Nat.eq_of_beq_eq_true h3
      exact ⟨_, T, H, key _ _ (by simp only [aCopy, hu, hz, h1, e1, hzz, if_true, if_pos h3']; rfl), hR, h6⟩
    · have h3' : ¬ Nat.min m l = 0 := fun e => by rw [e] at h3; simp at h3
      obtain ⟨cs, h4, h7⟩ := tkR_some h6
      have h4' : tk (Nat.min m l * z') xs = some cs := h4
      rw [hzz] at h4'
      obtain ⟨T', H', g1, g2, g3⟩ := wrF_ok hR h7
      exact ⟨_, T', H', key _ _ (by simp only [aCopy, hu, hz, h1, e1, hzz, if_true, if_neg h3', h4', g1]; rfl), g2, g3⟩
  · exact ⟨_, T, H, key _ _ (by simp only [aCopy, hu, hz, h1, e1]; rfl), hR, h⟩

/-! pointers turned, bytes of a slice as a text, a function that gives back its argument -/
noncomputable def cnpF (P : Program) (s t : TypeId) (g : Tre AV d → AV) : OpF d := fun _ E T k => onPtr (g E) (fun b off => iff' (aConvP P s t 0 off [T.get b]) (k (.ptr b off) T) none) (fun _ => none) none
theorem cnpF_ok {s t : TypeId} {x : Operand} {g : Tre AV d → AV} (ho : o.op = .convert s t x) (ht : (∃ e, P.underlying t = some (.pointer e)) ∨ P.underlying t = some .unsafePointer) (hg : copd gl d n x = some g) : OpOK P gl d n o (cnpF P s t g) := by
  intro forc orc E T k out H hO hR h
  rcases onPtr_some h with ⟨b, off, e, h⟩ | ⟨_, _, h⟩ | h <;> try (cases h; done)
  obtain ⟨h1, h2⟩ := iff_some h
  have hal : (T.get b).alive = true := by
    unfold aConvP at h1
    simp only [List.getElem?_cons_zero] at h1
    split at h1
    · rename_i ha _; exact ha
    · cases h1
  have hH := hR.obj b hal
  have h3 : aConvP P s t b off H = true := by
    unfold aConvP at h1 ⊢
    rw [hH]; exact h1
  refine ⟨.ptr b off, T, H, ?_, hR, h2⟩
  rw [aop_low (by simp [kind, ho])]
  have hp : apure' P (rhoE gl d n E) H o = none := by simp [apure', apure, ho, rhoE_of hg, e, aConv]
  rw [hp]
  simp [aeff, ho, rhoE_of hg, e, aConvB, h3]

def extOk (P : Program) (g : Nat) : Bool := match P.funcs[g]? with | some fn => decide (fn.body.isNone = true ∧ fn.name = "internal/abi.NoEscape" ∧ fn.origin = "") | none => false
theorem extOk_spec {g : Nat} (h : extOk P g = true) (x : AV) : extId P g [x] = some x ∧ hasBody P g = false := by
  unfold extOk at h
  unfold extId hasBody
  split at h
  · rename_i fn hfn
    have h' := of_decide_eq_true h
    simp only [hfn]
    rw [if_pos h']
    refine ⟨rfl, ?_⟩
    cases hb : fn.body with
    | none => rfl
    | some c => have := h'.1; rw [hb] at this; cases this
  · cases h

noncomputable def only1 (vs : List AV) (f : AV → Res) : Res := List.rec none (fun v l _ => List.rec (f v) (fun _ _ _ => none) l) vs
theorem only1_some {vs : List AV} {f : AV → Res} {out : AV × TH} (h : only1 vs f = some out) : ∃ v, vs = [v] ∧ f v = some out := by
  match vs, h with
  | [v], h => exact ⟨v, rfl, h⟩

noncomputable def extrF (G : Tre AV d → (List AV → Res) → Res) : OpF d := fun _ E T k => G E fun vs => only1 vs fun v => k v T
theorem extrF_ok {c : Call} {g : Nat} {G : Tre AV d → (List AV → Res) → Res} (ho : o.op = .call c) (hc : c.callee = .value (.func g)) (hb : extOk P g = true) (hG : cargs gl d n c.args.toList = some G) : OpOK P gl d n o (extrF G) := by
  intro forc orc E T k out H hO hR h
  obtain ⟨vs, h1, h2⟩ := cargs_ok _ _ hG E (fun vs => only1 vs fun v => k v T)
  have h : G E (fun vs => only1 vs fun v => k v T) = some out := h
  rw [h2] at h
  obtain ⟨v, rfl, h3⟩ := only1_some h
  obtain ⟨e1, e2⟩ := extOk_spec hb v
  refine ⟨v, T, H, ?_, hR, h3⟩
  have hf : rhoE gl d n E (.func g) = some (.func (.func g) [] []) := rfl
  simp [aop, ho, callee, hc, hf, h1, acall, e1, e2]

theorem extMk_spec {g : Nat} {e : TypeId} (h : extMk P g = some e) (vs : List AV) : extId P g vs = none ∧ extIx P g vs = none ∧ hasBody P g = false := by
  unfold extMk at h
  unfold extId extIx hasBody
  split at h <;> try (cases h; done)
  rename_i fn hfn
  split at h <;> try (cases h; done)
  rename_i hc
  refine ⟨?_, ?_, ?_⟩
  · rw [if_neg]; rintro ⟨_, h2, _⟩; rw [hc.2.1] at h2; exact absurd h2 (by decide)
  · rw [if_neg (by rintro ⟨_, h2, _⟩; rw [hc.2.1] at h2; exact absurd h2 (by decide)), if_neg (by rintro ⟨_, h2, _⟩; rw [hc.2.1] at h2; exact absurd h2 (by decide))]
  · cases hb : fn.body with
    | none => rfl
    | some c => have := hc.1; rw [hb] at this; cases this

def extIxOk (P : Program) (g : Nat) : Bool := match P.funcs[g]? with | some fn => decide (fn.body.isNone = true ∧ fn.name = "internal/bytealg.IndexByteString" ∧ fn.origin = "") | none => false
theorem extIxOk_spec {g : Nat} (h : extIxOk P g = true) (s : List UInt8) (m : Nat) : extId P g [.str s, .int .u8 (.ofNat m)] = none ∧ extIx P g [.str s, .int .u8 (.ofNat m)] = some (.int .i64 (ixB (UInt8.ofNat m) s 0)) ∧ hasBody P g = false := by
  unfold extIxOk at h
  unfold extId extIx hasBody
  split at h <;> try (cases h; done)
  rename_i fn hfn
  have hc := of_decide_eq_true h
  simp only [hfn]
  refine ⟨?_, ?_, ?_⟩
  · rw [if_neg]; rintro ⟨_, h2, _⟩; rw [hc.2.1] at h2; exact absurd h2 (by decide)
  · rw [if_pos hc]
  · cases hb : fn.body with
    | none => rfl
    | some c => have := hc.1; rw [hb] at this; cases this

noncomputable def only2 (vs : List AV) (f : AV → AV → Res) : Res := List.rec none (fun v l _ => List.rec none (fun w l _ => List.rec (f v w) (fun _ _ _ => none) l) l) vs
theorem only2_some {vs : List AV} {f : AV → AV → Res} {out : AV × TH} (h : only2 vs f = some out) : ∃ v w, vs = [v, w] ∧ f v w = some out := by
  match vs, h with
  | [v, w], h => exact ⟨v, w, rfl, h⟩

noncomputable def ixsF (G : Tre AV d → (List AV → Res) → Res) : OpF d := fun _ E T k => G E fun vs => only2 vs fun v w => onStr v (fun s => onNat w (fun kk m => iff' (Nat.beq (kix kk) (kix .u8)) (frcVR (.int .i64 (ixB (UInt8.ofNat m) s 0)) fun r => k r T) none) none) none
theorem ixsF_ok {c : Call} {g : Nat} {G : Tre AV d → (List AV → Res) → Res} (ho : o.op = .call c) (hc : c.callee = .value (.func g)) (he : extIxOk P g = true) (hG : cargs gl d n c.args.toList = some G) : OpOK P gl d n o (ixsF G) := by
  intro forc orc E T k out H hO hR h
  obtain ⟨vs, h1, h2⟩ := cargs_ok _ _ hG E (fun vs => only2 vs fun v w => onStr v (fun s => onNat w (fun kk m => iff' (Nat.beq (kix kk) (kix .u8)) (frcVR (.int .i64 (ixB (UInt8.ofNat m) s 0)) fun r => k r T) none) none) none)
  unfold ixsF at h
  rw [h2] at h
  obtain ⟨v, w, rfl, h3⟩ := only2_some h
  rcases onStr_some h3 with ⟨s, rfl, h4⟩ | h4 <;> try (cases h4; done)
  rcases onNat_some h4 with ⟨kk, m, rfl, h5⟩ | h5 <;> try (cases h5; done)
  obtain ⟨h6, h7⟩ := iff_some h5
  have hk := kix_inj h6
  subst hk
  rw [frcVR_eq] at h7
  obtain ⟨e1, e2, e3⟩ := extIxOk_spec he s m
  refine ⟨_, T, H, ?_, hR, h7⟩
  have hf : rhoE gl d n E (.func g) = some (.func (.func g) [] []) := rfl
  have e1' : extId P g [.str s, .int .u8 (Int.ofNat m)] = none := e1
  have e2' : extIx P g [.str s, .int .u8 (Int.ofNat m)] = some (.int .i64 (ixB (UInt8.ofNat m) s 0)) := e2
  simp only [aop, ho, callee, hc, hf, h1, acall, e3, List.nil_append, List.append_nil, Bool.false_eq_true, if_false, e1', e2']

noncomputable def mnzF (e : TypeId) (G : Tre AV d → (List AV → Res) → Res) : OpF d := fun _ E T k => G E fun vs => only1 vs fun v => onNat v (fun kk m => iff' (Nat.beq (kix kk) 3) (iff' (Nat.ble m 281474976710656) (newF (fun a => .slice a 0 m m 1) (.cells [] e) k T) none) none) none
theorem mnzF_ok {c : Call} {g : Nat} {e : TypeId} {G : Tre AV d → (List AV → Res) → Res} (ho : o.op = .call c) (hc : c.callee = .value (.func g)) (he : extMk P g = some e) (hG : cargs gl d n c.args.toList = some G) : OpOK P gl d n o (mnzF e G) := by
  intro forc orc E T k out H hO hR h
  obtain ⟨vs, h1, h2⟩ := cargs_ok _ _ hG E (fun vs => only1 vs fun v => onNat v (fun kk m => iff' (Nat.beq (kix kk) 3) (iff' (Nat.ble m 281474976710656) (newF (fun a => .slice a 0 m m 1) (.cells [] e) k T) none) none) none)
  unfold mnzF at h
  rw [h2] at h
  obtain ⟨v, rfl, h3⟩ := only1_some h
  rcases onNat_some h3 with ⟨kk, m, rfl, h4⟩ | h4 <;> try (cases h4; done)
  obtain ⟨h5, h6⟩ := iff_some h4
  have hk : kk = .i64 := kix_inj (k' := .i64) h5
  subst hk
  obtain ⟨h7, h8⟩ := iff_some h6
  have h7' : m ≤ 281474976710656 := Nat.le_of_ble_eq_true h7
  obtain ⟨h9, h10⟩ := newK_some h8
  rw [frc1_eq] at h10
  obtain ⟨e1, e4, e2⟩ := extMk_spec he [.int .i64 (Int.ofNat m)]
  refine ⟨.slice H.length 0 m m 1, _, _, ?_, hR.push h9 (.cells [] e), ?_⟩
  · have hf : rhoE gl d n E (.func g) = some (.func (.func g) [] []) := rfl
    simp only [aop, ho, callee, hc, hf, h1, acall, e2, List.nil_append, List.append_nil, Bool.false_eq_true, if_false, e1, e4, he, if_pos h7', hR.sz]
  · rw [← hR.sz]; exact h10

noncomputable def capF (g : Tre AV d → AV) : OpF d := fun _ E T k => onSlice (g E) (fun _ _ _ _ _ => none) (fun _ _ _ => none) (k (.int .i64 (.ofNat 0)) T) none
theorem capF_ok {c : Call} {x : Operand} {t e : TypeId} {g : Tre AV d → AV} (ho : o.op = .call c) (hc : c.callee = .builtin .cap) (ha : c.args.toList = [x]) (ht : c.argTypes.toList = [t]) (hu : P.underlying t = some (.slice e)) (hg : copd gl d n x = some g) : OpOK P gl d n o (capF g) := by
  intro forc orc E T k out H hO hR h
  have ha' : aop P orc (rhoE gl d n E) o H = aeff P (rhoE gl d n E) H o := by simp [aop, apure', apure, ho, hc, callee]
  rcases onSlice_some h with ⟨_, _, _, _, _, _, h⟩ | ⟨_, _, _, _, h⟩ | ⟨e, h⟩ | h <;> try (cases h; done)
  refine ⟨_, T, H, ?_, hR, h⟩
  rw [ha']; simp [aeff, ho, hc, ha, ht, hu, rhoE_of hg, e]

noncomputable def clrF (zs : List AV) (z : Nat) (g : Tre AV d → AV) : OpF d := fun _ E T k => onSlice (g E)
  (fun b off len _ z' => iff' (Nat.beq len 0) (k (.tuple []) T) (iff' (Nat.beq z z') (wrF (.ptr b off) (repl len zs) T fun T' => k (.tuple []) T') none)) (fun _ _ _ => none) (k (.tuple []) T) none
theorem clrF_ok {c : Call} {x : Operand} {t e : TypeId} {u : AV} {g : Tre AV d → AV} (ho : o.op = .call c) (hc : c.callee = .builtin .clear) (ha : c.args.toList = [x]) (ht : c.argTypes.toList = [t]) (hu : P.underlying t = some (.slice e)) (hz : tzero P e = some u) (hg : copd gl d n x = some g) : OpOK P gl d n o (clrF u.cells u.cells.length g) := by
  intro forc orc E T k out H hO hR h
  have ha' : aop P orc (rhoE gl d n E) o H = aeff P (rhoE gl d n E) H o := by simp [aop, apure', apure, ho, hc, callee]
  have key : ∀ H', aClear P t (g E) H = some H' → aop P orc (rhoE gl d n E) o H = some (.tuple [], H') := by
    intro H' q
    rw [ha']; simp [aeff, ho, hc, ha, ht, rhoE_of hg, q]
  rcases onSlice_some h with ⟨b, off, l, cp, z', e1, h⟩ | ⟨_, _, _, _, h⟩ | ⟨e1, h⟩ | h <;> try (cases h; done)
  · rcases iff_some2 h with ⟨h1, h2⟩ | ⟨h1, h2⟩
    · have h1' := Nat.eq_of_beq_eq_true h1
      exact ⟨_, T, H, key _ (by simp only [aClear, hu, hz, e1, if_pos h1']), hR, h2⟩
    · obtain ⟨h3, h4⟩ := iff_some h2
      have h3' := Nat.eq_of_beq_eq_true h3
      have h1' : ¬ l = 0 := fun e => by rw [e] at h1; cases h1
      obtain ⟨T', H', g1, g2, g3⟩ := wrF_ok hR h4
      exact ⟨_, T', H', key _ (by simp only [aClear, hu, hz, e1, if_neg h1', if_pos h3']; exact g1), g2, g3⟩
  · exact ⟨_, T, H, key _ (by simp only [aClear, hu, hz, e1]), hR, h⟩

noncomputable def sldF (g : Tre AV d → AV) : OpF d := fun _ E T k => onSlice (g E) (fun b off _ cap _ => Nat.rec none (fun _ _ => k (.ptr b off) T) cap) (fun _ _ _ => none) (k .nptr T) none
theorem sldF_ok {c : Call} {x : Operand} {g : Tre AV d → AV} (ho : o.op = .call c) (hc : c.callee = .builtin .unsafeSliceData) (ha : c.args.toList = [x]) (hg : copd gl d n x = some g) : OpOK P gl d n o (sldF g) := by
  intro forc orc E T k out H hO hR h
  have ha' : aop P orc (rhoE gl d n E) o H = aeff P (rhoE gl d n E) H o := by simp [aop, apure', apure, ho, hc, callee]
  rcases onSlice_some h with ⟨b, off, l, cp, z, e, h⟩ | ⟨_, _, _, _, h⟩ | ⟨e, h⟩ | h <;> try (cases h; done)
  · cases cp with
    | zero => cases h
    | succ cp =>
      refine ⟨.ptr b off, T, H, ?_, hR, h⟩
      rw [ha']; simp [aeff, ho, hc, ha, rhoE_of hg, e]
  · refine ⟨.nptr, T, H, ?_, hR, h⟩
    rw [ha']; simp [aeff, ho, hc, ha, rhoE_of hg, e]

noncomputable def ustF (P : Program) (t : TypeId) (gx gn : Tre AV d → AV) : OpF d := fun _ E T k => onNat (gn E) (fun kk m => iff' (Nat.beq (kix kk) 3) (frc1 (gx E) fun p => match m with
  | 0 => (match p with | .nptr => k (.str []) T | .ptr _ _ => k (.str []) T | _ => none)
  | m + 1 => (match p with
    | .ptr b 0 => (match aUStr P t (.ptr 0 0) (m + 1) [T.get b] with | some (r, _) => frcVR r fun r => putK T b deadObj fun T' => k r T' | none => none)
    | _ => none)) none) none
theorem aUStr_one {t : TypeId} {b m : Nat} {o : AObj} {H H1 : AHeap} {r : AV} (hb : H[b]? = some o) (h : aUStr P t (.ptr 0 0) (m + 1) [o] = some (r, H1)) : o.alive = true ∧ aUStr P t (.ptr b 0) (m + 1) H = some (r, (wkil b o.fam H).set b o.dead) := by
  unfold aUStr at h ⊢
  simp only [List.getElem?_cons_zero] at h
  simp only [hb]
  split at h <;> try (simp at h; done)
  rename_i cs ty hal hbd
  split at h <;> try (simp at h; done)
  rename_i e ht
  split at h <;> try (simp at h; done)
  rename_i hc
  split at h <;> try (simp at h; done)
  rename_i l hl
  split at h <;> simp at h
  rename_i bs hbs
  obtain ⟨rfl, _⟩ := h
  refine ⟨hal, ?_⟩
  simp only [hal, hbd, ht, if_pos hc, hl, hbs]
theorem ustF_ok {c : Call} {x y : Operand} {t t2 : TypeId} {gx gn : Tre AV d → AV} (ho : o.op = .call c) (hc : c.callee = .builtin .unsafeString) (ha : c.args.toList = [x, y]) (ht : c.argTypes.toList = [t, t2]) (hx : copd gl d n x = some gx) (hy : copd gl d n y = some gn) :
    OpOK P gl d n o (ustF P t gx gn) := by
  intro forc orc E T k out H hO hR h
  have ha' : aop P orc (rhoE gl d n E) o H = aeff P (rhoE gl d n E) H o := by simp [aop, apure', apure, ho, hc, callee]
  rcases onNat_some h with ⟨kk, m, e1, h⟩ | h <;> try (cases h; done)
  obtain ⟨h1, h⟩ := iff_some h
  have hk : kk = .i64 := by cases kk <;> first | rfl | cases h1
  subst hk
  simp only [frc1_eq] at h
  have key : ∀ r H', aUStr P t (gx E) m H = some (r, H') → aop P orc (rhoE gl d n E) o H = some (r, H') := by
    intro r H' g
    rw [ha']; simp only [aeff, ho, hc, ha, ht, rhoE_of hx, rhoE_of hy, e1, g]
  cases m with
  | zero =>
    simp only at h
    split at h <;> try (cases h; done)
    · rename_i e; exact ⟨_, T, H, key _ _ (by simp [e, aUStr]), hR, h⟩
    · rename_i e; exact ⟨_, T, H, key _ _ (by simp [e, aUStr]), hR, h⟩
  | succ m =>
    simp only at h
    split at h <;> try (cases h; done)
    rename_i b e
    split at h <;> try (cases h; done)
    rename_i r H1 hu
    rw [frcVR_eq, putK_eq] at h
    have hal : (T.get b).alive = true := by
      unfold aUStr at hu
      simp only [List.getElem?_cons_zero] at hu
      split at hu
      · rename_i ha _; exact ha
      · cases hu
    have hH := hR.obj b hal
    obtain ⟨_, g1⟩ := aUStr_one hH hu
    exact ⟨r, _, _, key _ _ (by rw [e]; exact g1), hR.lose hal, h⟩

/-! maps -/
noncomputable def mapSF (dd : TypeDesc) (gm gk gv : Tre AV d → AV) : OpF d := fun _ E T k => frc1 (gm E) fun m => frc1 (gk E) fun key => frc1 (gv E) fun v => match m with
  | .map b => onMap (T.get b) (fun fam sh es clock => match aFind dd key es 0 with
    | some (some (i, _)) => frcL (mset key v i es) fun es' => putK T b ⟨true, fam, sh, .map es' clock⟩ fun T' => k (.tuple []) T'
    | some none => frcL (appR es [(key, v, clock)]) fun es' => frcN (Nat.add clock 1) fun c' => putK T b ⟨true, fam, sh, .map es' c'⟩ fun T' => k (.tuple []) T'
    | none => none) none
  | _ => none
theorem mapSF_ok {t e : TypeId} {m key v : Operand} {dd : TypeDesc} {gm gk gv : Tre AV d → AV} (ho : o.op = .mapUpdate t m key v ∨ o.op = .insert t m key v) (hd : keyDesc P t = some (dd, e)) (hm : copd gl d n m = some gm) (hk : copd gl d n key = some gk)
    (hv : copd gl d n v = some gv) : OpOK P gl d n o (mapSF dd gm gk gv) := by
  intro forc orc E T k out H hO hR h
  simp only [mapSF, frc1_eq] at h
  split at h <;> try (cases h; done)
  rename_i b e1
  replace h : onMap (T.get b) _ none = some out := h
  obtain ⟨fam, sh, es, clock, e2, h⟩ := onMap_some h
  have e2 : T.get b = ⟨true, fam, sh, .map es clock⟩ := e2
  have hH := hR.obj b (by rw [e2])
  rw [e2] at hH
  have key : ∀ H', aMapSet P t (gm E) (gk E) (gv E) H = some H' → aop P orc (rhoE gl d n E) o H = some (.tuple [], H') := by
    intro H' g
    rcases ho with ho | ho <;> simp [aop, apure', apure, aeff, ho, rhoE_of hm, rhoE_of hk, rhoE_of hv, g]
  split at h <;> try (cases h; done)
  · rename_i i w hf
    rw [frcL_eq, putK_eq] at h
    exact ⟨_, _, _, key _ (by simp only [aMapSet, hd, e1, hH, hf]), hR.set' e2 _, h⟩
  · rename_i hf
    rw [frcL_eq, frcN_eq', putK_eq, appR_eq] at h
    exact ⟨_, _, _, key _ (by simp only [aMapSet, hd, e1, hH, hf]), hR.set' e2 _, h⟩

noncomputable def lkpF (dd : TypeDesc) (z : AV) (ok : Bool) (gm gk : Tre AV d → AV) : OpF d := fun _ E T k => frc1 (gm E) fun m => frc1 (gk E) fun key =>
  match (match m with | .nmap => some [] | .map b => onMap (T.get b) (fun _ _ es _ => some es) none | _ => none) with
  | some es => (match aFind dd key es 0 with
    | some (some (_, v)) => frc1 v fun v => iff' ok (k (.tuple [v, .bool true]) T) (k v T)
    | some none => iff' ok (k (.tuple [z, .bool false]) T) (k z T)
    | none => none)
  | none => none
theorem lkpF_ok {t e : TypeId} {m key : Operand} {dd : TypeDesc} {z : AV} {ok : Bool} {gm gk : Tre AV d → AV} (ho : o.op = .lookup t m key ok) (hd : keyDesc P t = some (dd, e)) (hz : tzero P e = some z) (hm : copd gl d n m = some gm) (hk : copd gl d n key = some gk) :
    OpOK P gl d n o (lkpF dd z ok gm gk) := by
  intro forc orc E T k out H hO hR h
  simp only [lkpF, frc1_eq] at h
  split at h <;> try (cases h; done)
  rename_i es hes
  have hes' : mapEs H (gm E) = some es := by
    split at hes <;> try (cases hes; done)
    · rename_i e1; simp at hes; subst hes; rw [e1]; rfl
    · rename_i b e1
      replace hes : onMap (T.get b) _ none = some es := hes
      obtain ⟨fam, sh, es', cl, e2, h3⟩ := onMap_some hes
      have e2 : T.get b = ⟨true, fam, sh, .map es' cl⟩ := e2
      have h3 : es' = es := by simpa using h3
      subst h3
      have hH := hR.obj b (by rw [e2])
      rw [e2] at hH
      rw [e1]; simp [mapEs, mapObj, hH]
  split at h <;> try (cases h; done)
  · rename_i i v hf
    rw [iff'_eq] at h
    refine ⟨if ok = true then .tuple [v, .bool true] else v, T, H, aop_pure (by simp [kind, ho]) (by simp only [apure', ho, rhoE_of hm, rhoE_of hk, aLookup, hd, hes', hf]), hR, ?_⟩
    cases ok <;> simpa using h
  · rename_i hf
    rw [iff'_eq] at h
    refine ⟨if ok = true then .tuple [z, .bool false] else z, T, H, aop_pure (by simp [kind, ho]) (by simp only [apure', ho, rhoE_of hm, rhoE_of hk, aLookup, hd, hes', hf, hz]), hR, ?_⟩
    cases ok <;> simpa using h
end ops

end Go.Abs
end

/-
  A verified abstract interpreter, part 26: each operation laid ahead once; regions in the order of their text.
-/
section
set_option linter.unusedSimpArgs false
set_option linter.unusedVariables false
namespace Go.Abs
open Go.RowKit

section cop
variable (P : Program) (gl : Glob) (d n : Nat)

/-- By the slow road, where there is one. -/
noncomputable def copSlow (o : Oper) : Option (OpF d) := match kind o with
  | 0 => some (slowP P gl d n o)
  | 2 => some (slowN P gl d n o)
  | _ => none

noncomputable def copBin (o : Oper) (op : BinOp) (x y : Operand) : Option (OpF d) := match binF op, copd gl d n x, copd gl d n y with
  | some F, some gx, some gy => some (bopF F gx gy (slowP P gl d n o))
  | _, _, _ => copSlow P gl d n o

noncomputable def copLoad (t : TypeId) (x : Operand) : Option (OpF d) := match copd gl d n x with
  | some g => match tagg P t with
    | some false => some (loadF1 g)
    | some true => match tsz P t with | some m => frcN m fun m => some (loadFn m g) | none => none
    | none => none
  | none => none

noncomputable def copFad (s : TypeId) (x : Operand) (f : Nat) : Option (OpF d) := match copd gl d n x, fieldOf P s f with
  | some g, some fd => match tsz P fd.type with
    | some (_ + 1) => frcN fd.offset fun c => some (fadF c g)
    | _ => none
  | _, _ => none

noncomputable def copIad (o : Oper) (t : TypeId) (x i : Operand) : Option (OpF d) := match copd gl d n x, copd gl d n i with
  | some gx, some gi => match P.underlying t with
    | some (.slice e) => match tsz P e with | some z => frcN z fun z => some (iadF z gx gi) | none => none
    | _ => copSlow P gl d n o
  | _, _ => none

noncomputable def copIdx (o : Oper) (t : TypeId) (x i : Operand) : Option (OpF d) := match copd gl d n x, copd gl d n i with
  | some gx, some gi => match P.underlying t with
    | some .string => some (idxF gx gi)
    | _ => copSlow P gl d n o
  | _, _ => none

noncomputable def copLen (o : Oper) (x : Operand) (t : TypeId) : Option (OpF d) := match copd gl d n x with
  | some g => match P.underlying t with
    | some .string => some (lenSF g)
    | some (.slice _) => some (lenF g)
    | some (.map _ _) => some (lenMF g)
    | _ => none
  | none => none

noncomputable def copApp (s x : Operand) (t t2 : TypeId) : Option (OpF d) := match copd gl d n s, copd gl d n x with
  | some gs, some gx => match P.underlying t with
    | some (.slice e) => match P.info? e, tzero P e with
      | some i, some u => iff' (apx P t2 && Nat.beq u.cells.length i.size) (frcN i.size fun z => frcN i.bytes fun b => some (appF e z b gs gx)) none
      | _, _ => none
    | _ => none
  | _, _ => none

noncomputable def copCpy (s x : Operand) (t : TypeId) : Option (OpF d) := match copd gl d n s, copd gl d n x with
  | some gs, some gx => match P.underlying t with
    | some (.slice e) => match tsz P e with
      | some z => frcN z fun z => some (cpyF z gs gx)
      | none => none
    | _ => none
  | _, _ => none

noncomputable def copCall (o : Oper) (c : Call) : Option (OpF d) := match c.callee with
  | .value (.func g) => match cargs gl d n c.args.toList with | some G => iff' (hasBody P g) (some (calSF g G)) (iff' (extOk P g) (some (extrF G)) (iff' (extIxOk P g) (some (ixsF G)) (match extMk P g with | some e => frcN e fun e => some (mnzF e G) | none => none))) | none => none
  | .value f => match copd gl d n f, cargs gl d n c.args.toList with | some gf, some G => some (calDF P gf G) | _, _ => none
  | .builtin .len => match c.args.toList, c.argTypes.toList with | [x], t :: _ => copLen P gl d n o x t | _, _ => none
  | .builtin .append => match c.args.toList, c.argTypes.toList with | [s, x], [t, t2] => copApp P gl d n s x t t2 | _, _ => none
  | .builtin .cap => match c.args.toList, c.argTypes.toList with | [x], [t] => (match copd gl d n x, P.underlying t with | some g, some (.slice _) => some (capF g) | _, _ => none) | _, _ => none
  | .builtin .clear => match c.args.toList, c.argTypes.toList with
    | [x], [t] => (match copd gl d n x, P.underlying t with | some g, some (.slice e) => (match tzero P e with | some u => frcVLR u.cells fun zs => frcN zs.length fun z => some (clrF zs z g) | none => none) | _, _ => none)
    | _, _ => none
  | .builtin .unsafeSliceData => match c.args.toList with | [x] => (match copd gl d n x with | some g => some (sldF g) | none => none) | _ => none
  | .builtin .unsafeString => match c.args.toList, c.argTypes.toList with | [x, y], [t, _] => (match copd gl d n x, copd gl d n y with | some gx, some gn => some (ustF P t gx gn) | _, _ => none) | _, _ => none
  | .builtin .copy => match c.args.toList, c.argTypes.toList with | [s, x], [t, _] => copCpy P gl d n s x t | _, _ => none
  | _ => copSlow P gl d n o

noncomputable def copSto (t : TypeId) (a x : Operand) : Option (OpF d) := match copd gl d n a, copd gl d n x, tsz P t with
  | some ga, some gx, some m => frcN m fun m => some (stoF m ga gx)
  | _, _, _ => none

noncomputable def copMap (t : TypeId) (m k v : Operand) : Option (OpF d) := match keyDesc P t, copd gl d n m, copd gl d n k, copd gl d n v with
  | some (dd, _), some gm, some gk, some gv => some (mapSF dd gm gk gv)
  | _, _, _, _ => none

noncomputable def copLkp (t : TypeId) (m k : Operand) (ok : Bool) : Option (OpF d) := match keyDesc P t, copd gl d n m, copd gl d n k with
  | some (dd, e), some gm, some gk => match tzero P e with | some z => frcVR z fun z => some (lkpF dd z ok gm gk) | none => none
  | _, _, _ => none

noncomputable def copBld (o : Oper) (t : TypeId) (ps : Array (Nat × Operand)) : Option (OpF d) := match P.underlying t, tzero P t with
  | some (.struct _), some z => iff' (allSized P t) (match cfill gl d n (fplace P t) ps.toList with | some G => frcVLR z.cells fun zs => some (bldF zs G) | none => none) none
  | _, _ => copSlow P gl d n o

noncomputable def copBsl (t : TypeId) (len : Nat) (ps : Array (Nat × Operand)) : Option (OpF d) := match bsCore P t len [] with
  | some (zs, e, z) => match cfill gl d n (fun i => some (i * z, z)) ps.toList with | some G => frcVLR zs fun zs => frcNR z fun z => some (bslF len zs e z G) | none => none
  | none => none

noncomputable def copSli (t : TypeId) (x : Operand) (lo hi : Option Operand) : Option (OpF d) := match copd gl d n x, cbnd gl d n lo, cbnd gl d n hi with
  | some gx, some L, some R => match P.underlying t with
    | some .string => some (slsF gx L R)
    | some (.slice e) => match tsz P e with | some z => frcNR z fun z => some (sliF z gx L R) | none => none
    | _ => none
  | _, _, _ => none

noncomputable def copCnv (o : Oper) (src dst : TypeId) (x : Operand) : Option (OpF d) := match P.underlying src, P.underlying dst, copd gl d n x with
  | some _, some (.int kk), some g => some (cnvF kk g (slowP P gl d n o))
  | some .string, some (.slice e), some g => match P.underlying e with | some (.int .u8) => some (stbF g) | _ => none
  | some (.pointer _), some .unsafePointer, some g => some (cnpF P src dst g)
  | some .unsafePointer, some (.pointer _), some g => some (cnpF P src dst g)
  | _, _, _ => copSlow P gl d n o

noncomputable def cop (o : Oper) : Option (OpF d) := match o.op with
  | .move x => match copd gl d n x with | some g => some (movF g) | none => none
  | .assign x => match copd gl d n x with | some g => some (movF g) | none => none
  | .pick c a b => match copd gl d n c, copd gl d n a, copd gl d n b with | some gc, some ga, some gb => some (pickF gc ga gb) | _, _, _ => none
  | .binOp op _ x y _ => copBin P gl d n o op x y
  | .unOp .not _ x => match copd gl d n x with | some g => some (notF g) | none => none
  | .load t x => copLoad P gl d n t x
  | .fieldAddr s x f => copFad P gl d n s x f
  | .indexAddr t x i => copIad P gl d n o t x i
  | .index t x i => copIdx P gl d n o t x i
  | .extract x i => match copd gl d n x with | some g => some (extF i g) | none => none
  | .nilCheck x => match copd gl d n x with | some g => some (nilF g (slowP P gl d n o)) | none => none
  | .build t ps => copBld P gl d n o t ps
  | .buildSlice t len ps => copBsl P gl d n t len ps
  | .slice t x lo hi none => copSli P gl d n t x lo hi
  | .convert s t x => copCnv P gl d n o s t x
  | .alloc e => match tzero P e with | some z => frcVLR z.cells fun cs => some (allF (.cells cs e)) | none => none
  | .box e x => match copd gl d n x with | some g => some (boxF e g) | none => none
  | .store t a x => copSto P gl d n t a x
  | .mapUpdate t m k v => copMap P gl d n t m k v
  | .insert t m k v => copMap P gl d n t m k v
  | .lookup t m k ok => copLkp P gl d n t m k ok
  | .call c => copCall P gl d n o c
  | _ => copSlow P gl d n o
end cop

section ok
variable {P : Program} {gl : Glob} {d n : Nat} {o : Oper}

theorem copSlow_ok {F : OpF d} (h : copSlow P gl d n o = some F) : OpOK P gl d n o F := by
  unfold copSlow at h
  split at h <;> simp at h
  · subst h; exact slowP_ok (by assumption)
  · subst h; exact slowN_ok (by assumption)

theorem copBin_ok {op : BinOp} {t t2 : TypeId} {x y : Operand} (ho : o.op = .binOp op t x y t2) {F : OpF d} (h : copBin P gl d n o op x y = some F) : OpOK P gl d n o F := by
  unfold copBin at h
  split at h
  · rename_i B gx gy hB hx hy
    simp at h; subst h
    exact bopF_ok ho hB hx hy (slowP_ok (by simp [kind, ho]))
  · exact copSlow_ok h

theorem copLoad_ok {t : TypeId} {x : Operand} (ho : o.op = .load t x) {F : OpF d} (h : copLoad P gl d n t x = some F) : OpOK P gl d n o F := by
  unfold copLoad at h
  split at h <;> try (simp at h; done)
  rename_i g hg
  split at h <;> try (simp at h; done)
  · rename_i ht; simp at h; subst h; exact loadF1_ok ho ht hg
  · rename_i ht
    split at h <;> try (simp at h; done)
    rename_i m hm
    rw [frcN_eq'] at h; simp at h; subst h; exact loadFn_ok ho ht hm hg

theorem copFad_ok {s : TypeId} {x : Operand} {f : Nat} (ho : o.op = .fieldAddr s x f) {F : OpF d} (h : copFad P gl d n s x f = some F) : OpOK P gl d n o F := by
  unfold copFad at h
  split at h <;> try (simp at h; done)
  rename_i g fd hg hf
  split at h <;> try (simp at h; done)
  rename_i m hm
  rw [frcN_eq'] at h; simp at h; subst h; exact fadF_ok ho hf hm hg

theorem copIad_ok {t : TypeId} {x i : Operand} (ho : o.op = .indexAddr t x i) {F : OpF d} (h : copIad P gl d n o t x i = some F) : OpOK P gl d n o F := by
  unfold copIad at h
  split at h <;> try (simp at h; done)
  rename_i gx gi hx hi
  split at h
  · rename_i e ht
    split at h <;> try (simp at h; done)
    rename_i z hz
    rw [frcN_eq'] at h; simp at h; subst h; exact iadF_ok ho ht hz hx hi
  · exact copSlow_ok h

theorem copIdx_ok {t : TypeId} {x i : Operand} (ho : o.op = .index t x i) {F : OpF d} (h : copIdx P gl d n o t x i = some F) : OpOK P gl d n o F := by
  unfold copIdx at h
  split at h <;> try (simp at h; done)
  rename_i gx gi hx hi
  split at h
  · rename_i ht; simp at h; subst h; exact idxF_ok ho ht hx hi
  · exact copSlow_ok h

theorem copLen_ok {c : Call} {x : Operand} {t : TypeId} {ts : List TypeId} (ho : o.op = .call c) (hc : c.callee = .builtin .len) (ha : c.args.toList = [x]) (ht : c.argTypes.toList = t :: ts) {F : OpF d} (h : copLen P gl d n o x t = some F) : OpOK P gl d n o F := by
  unfold copLen at h
  split at h <;> try (simp at h; done)
  rename_i g hg
  split at h <;> simp at h
  · rename_i hu; subst h; exact lenSF_ok ho hc ha ht hu hg
  · rename_i hu; subst h; exact lenF_ok ho hc ha ht hu hg
  · rename_i hu; subst h; exact lenMF_ok ho hc ha ht hu hg

theorem copApp_ok {c : Call} {s x : Operand} {t t2 : TypeId} (ho : o.op = .call c) (hc : c.callee = .builtin .append) (ha : c.args.toList = [s, x]) (ht : c.argTypes.toList = [t, t2]) {F : OpF d} (h : copApp P gl d n s x t t2 = some F) : OpOK P gl d n o F := by
  unfold copApp at h
  split at h <;> try (simp at h; done)
  rename_i gs gx hs hx
  split at h <;> try (simp at h; done)
  rename_i e hu
  split at h <;> try (simp at h; done)
  rename_i i u hi hz
  obtain ⟨h1, h2⟩ := iff_some h
  rw [frcN_eq', frcN_eq'] at h2
  simp at h2; subst h2
  rw [Bool.and_eq_true] at h1
  exact appF_ok ho hc ha ht hu hi hz h1.1 (Nat.eq_of_beq_eq_true h1.2) hs hx

theorem copCpy_ok {c : Call} {s x : Operand} {t t2 : TypeId} (ho : o.op = .call c) (hc : c.callee = .builtin .copy) (ha : c.args.toList = [s, x]) (ht : c.argTypes.toList = [t, t2]) {F : OpF d} (h : copCpy P gl d n s x t = some F) : OpOK P gl d n o F := by
  unfold copCpy at h
  split at h <;> try (simp at h; done)
  rename_i gs gx hs hx
  split at h <;> try (simp at h; done)
  rename_i e hu
  split at h <;> try (simp at h; done)
  rename_i z hz
  rw [frcN_eq'] at h; simp at h; subst h
  exact cpyF_ok ho hc ha ht hu hz hs hx

theorem copCall_ok {c : Call} (ho : o.op = .call c) {F : OpF d} (h : copCall P gl d n o c = some F) : OpOK P gl d n o F := by
  unfold copCall at h
  split at h
  · rename_i g hc
    split at h <;> try (simp at h; done)
    rename_i G hG
    rcases iff_some2 h with ⟨h1, h2⟩ | ⟨_, h2⟩
    · simp at h2; subst h2
      exact calSF_ok ho hc h1 hG
    · rcases iff_some2 h2 with ⟨h1, h2⟩ | ⟨_, h2⟩
      · simp at h2; subst h2
        exact extrF_ok ho hc h1 hG
      rcases iff_some2 h2 with ⟨h1, h2⟩ | ⟨_, h2⟩
      · simp at h2; subst h2
        exact ixsF_ok ho hc h1 hG
      · split at h2 <;> try (simp at h2; done)
        rename_i e he
        rw [frcN_eq'] at h2; simp at h2; subst h2
        exact mnzF_ok ho hc he hG
  · rename_i f hc _
    split at h <;> simp at h
    rename_i gf G hf hG
    subst h
    exact calDF_ok ho (by assumption) hf hG
  · rename_i hc
    split at h <;> try (simp at h; done)
    rename_i x t ts ha ht
    exact copLen_ok ho hc ha ht h
  · rename_i hc
    split at h <;> try (simp at h; done)
    rename_i s x t t2 ha ht
    exact copApp_ok ho hc ha ht h
  · rename_i hc
    split at h <;> try (simp at h; done)
    rename_i x t ha ht
    split at h <;> simp at h
    subst h
    exact capF_ok ho hc ha ht (by assumption) (by assumption)
  · rename_i hc
    split at h <;> try (simp at h; done)
    rename_i x t ha ht
    split at h <;> try (simp at h; done)
    rename_i g e hg hu
    split at h <;> try (simp at h; done)
    rename_i u hz
    rw [frcVLR_eq, frcN_eq'] at h
    simp at h
    subst h
    exact clrF_ok ho hc ha ht hu hz hg
  · rename_i hc
    split at h <;> try (simp at h; done)
    rename_i x ha
    split at h <;> simp at h
    subst h
    exact sldF_ok ho hc ha (by assumption)
  · rename_i hc
    split at h <;> try (simp at h; done)
    rename_i x y t t2 ha ht
    split at h <;> simp at h
    subst h
    exact ustF_ok ho hc ha ht (by assumption) (by assumption)
  · rename_i hc
    split at h <;> try (simp at h; done)
    rename_i s x t t2 ha ht
    exact copCpy_ok ho hc ha ht h
  · exact copSlow_ok h

theorem copSto_ok {t : TypeId} {a x : Operand} (ho : o.op = .store t a x) {F : OpF d} (h : copSto P gl d n t a x = some F) : OpOK P gl d n o F := by
  unfold copSto at h
  split at h <;> try (simp at h; done)
  rename_i ga gx m ha hx hm
  rw [frcN_eq'] at h; simp at h; subst h
  exact stoF_ok ho hm ha hx

theorem copMap_ok {t : TypeId} {m k v : Operand} (ho : o.op = .mapUpdate t m k v ∨ o.op = .insert t m k v) {F : OpF d} (h : copMap P gl d n t m k v = some F) : OpOK P gl d n o F := by
  unfold copMap at h
  split at h <;> simp at h
  subst h
  exact mapSF_ok ho (by assumption) (by assumption) (by assumption) (by assumption)

theorem copLkp_ok {t : TypeId} {m k : Operand} {ok : Bool} (ho : o.op = .lookup t m k ok) {F : OpF d} (h : copLkp P gl d n t m k ok = some F) : OpOK P gl d n o F := by
  unfold copLkp at h
  split at h <;> try (simp at h; done)
  rename_i dd e gm gk hd hm hk
  split at h <;> try (simp at h; done)
  rename_i z hz
  rw [frcVR_eq] at h; simp at h; subst h
  exact lkpF_ok ho hd hz hm hk

theorem copBld_ok {t : TypeId} {ps : Array (Nat × Operand)} (ho : o.op = .build t ps) {F : OpF d} (h : copBld P gl d n o t ps = some F) : OpOK P gl d n o F := by
  unfold copBld at h
  split at h
  · rename_i fs z hu hz
    obtain ⟨h1, h2⟩ := iff_some h
    split at h2 <;> try (simp at h2; done)
    rename_i G hG
    rw [frcVLR_eq] at h2; simp at h2; subst h2
    exact bldF_ok ho hz hu h1 hG
  · exact copSlow_ok h

theorem copBsl_ok {t : TypeId} {len : Nat} {ps : Array (Nat × Operand)} (ho : o.op = .buildSlice t len ps) {F : OpF d} (h : copBsl P gl d n t len ps = some F) : OpOK P gl d n o F := by
  unfold copBsl at h
  split at h <;> try (simp at h; done)
  rename_i zs e z hz
  split at h <;> try (simp at h; done)
  rename_i G hG
  rw [frcVLR_eq, frcNR_eq] at h; simp at h; subst h
  exact bslF_ok ho hz hG

theorem copSli_ok {t : TypeId} {x : Operand} {lo hi : Option Operand} (ho : o.op = .slice t x lo hi none) {F : OpF d} (h : copSli P gl d n t x lo hi = some F) : OpOK P gl d n o F := by
  unfold copSli at h
  split at h <;> try (simp at h; done)
  rename_i gx L R hx hL hR
  split at h <;> try (simp at h; done)
  · rename_i ht; simp at h; subst h; exact slsF_ok ho ht hx hL hR
  · rename_i e ht
    split at h <;> try (simp at h; done)
    rename_i z hz
    rw [frcNR_eq] at h; simp at h; subst h; exact sliF_ok ho ht hz hx hL hR

theorem copCnv_ok {src dst : TypeId} {x : Operand} (ho : o.op = .convert src dst x) {F : OpF d} (h : copCnv P gl d n o src dst x = some F) : OpOK P gl d n o F := by
  unfold copCnv at h
  split at h
  · rename_i td kk g hs hd hg
    simp at h; subst h
    exact cnvF_ok ho hs hd hg (slowP_ok (by simp [kind, ho]))
  · rename_i e g hs hd hg
    split at h <;> simp at h
    rename_i he
    subst h
    exact stbF_ok ho hs hd he hg
  · rename_i e g hs hd hg
    simp at h; subst h
    exact cnpF_ok ho (.inr hd) hg
  · rename_i e g hs hd hg
    simp at h; subst h
    exact cnpF_ok ho (.inl ⟨_, hd⟩) hg
  · exact copSlow_ok h

theorem cop_ok {F : OpF d} (h : cop P gl d n o = some F) : OpOK P gl d n o F := by
  unfold cop at h
  split at h
  · rename_i x ho; split at h <;> simp at h; subst h; exact movF_ok (.inl ho) (by assumption)
  · rename_i x ho; split at h <;> simp at h; subst h; exact movF_ok (.inr ho) (by assumption)
  · rename_i c a b ho; split at h <;> simp at h; subst h; exact pickF_ok ho (by assumption) (by assumption) (by assumption)
  · rename_i ho; exact copBin_ok ho h
  · rename_i ho; split at h <;> simp at h; subst h; exact notF_ok ho (by assumption)
  · rename_i ho; exact copLoad_ok ho h
  · rename_i ho; exact copFad_ok ho h
  · rename_i ho; exact copIad_ok ho h
  · rename_i ho; exact copIdx_ok ho h
  · rename_i ho; split at h <;> simp at h; subst h; exact extF_ok ho (by assumption)
  · rename_i ho; split at h <;> simp at h; subst h; exact nilF_ok ho (by assumption) (slowP_ok (by simp [kind, ho]))
  · rename_i ho; exact copBld_ok ho h
  · rename_i ho; exact copBsl_ok ho h
  · rename_i ho; exact copSli_ok ho h
  · rename_i ho; exact copCnv_ok ho h
  · rename_i ho; split at h <;> try (simp at h; done)
    rename_i z hz
    rw [frcVLR_eq] at h; simp at h; subst h; exact allF_ok ho hz
  · rename_i ho; split at h <;> simp at h; subst h; exact boxF_ok ho (by assumption)
  · rename_i ho; exact copSto_ok ho h
  · rename_i ho; exact copMap_ok (.inl ho) h
  · rename_i ho; exact copMap_ok (.inr ho) h
  · rename_i ho; exact copLkp_ok ho h
  · rename_i ho; exact copCall_ok ho h
  · exact copSlow_ok h
end ok

/-! a region in the order of its text -/
section seq
variable (P : Program) (gl : Glob) (d n : Nat)

abbrev StF (d : Nat) := FOrc → Tre AV d → TH → (Tre AV d → TH → Res) → Res

/-- What an operation's value is put into. -/
noncomputable def cput (dst : Option Tmp) : Option (AV → Tre AV d → (Tre AV d → Res) → Res) := match dst with
  | none => some fun _ E f => f E
  | some t => iff' (Nat.blt t n) (Bx.rec (fun p => some p) (putB AV Res d t)) none

/-- May the operation run? 0: always; else the temporary that tells, and what it is to hold. -/
noncomputable def cgrd (ops : List Oper) (o : Oper) : Option (Option ((Tre AV d → AV) × Bool)) := match o.guard with
  | none => some none
  | some (j, want) => match ops[j]? with
    | some g => match g.dst with
      | some t => iff' (Nat.blt t n) (Bx.rec (fun q => some (some (q, want))) (getB AV d t)) none
      | none => none
    | none => none

noncomputable def cstep (ops : List Oper) (o : Oper) : Option (StF d) := match cop P gl d n o, cput d n o.dst, cgrd d n ops o with
  | some F, some p, some none => some fun forc E T k => F forc E T fun v T' => p v E fun E' => k E' T'
  | some F, some p, some (some (q, want)) => some fun forc E T k => onBool (q E) (fun b => iff' b (iff' want (F forc E T fun v T' => p v E fun E' => k E' T') (p (.tuple []) E fun E' => k E' T))
      (iff' want (p (.tuple []) E fun E' => k E' T) (F forc E T fun v T' => p v E fun E' => k E' T'))) (p (.tuple []) E fun E' => k E' T)
  | _, _, _ => none

noncomputable def fseq (ops : List Oper) (forc : FOrc) (l : List Oper) : Tre AV d → TH → (Tre AV d → TH → Res) → Res :=
  List.rec (motive := fun _ => Tre AV d → TH → (Tre AV d → TH → Res) → Res) (fun E T k => k E T) (fun o _ ih E T k => Option.rec none (fun s => s forc E T fun E' T' => ih E' T' k) (cstep P gl d n ops o)) l
end seq

theorem frcC_eq' {β : Type} (o : Oper) (r : AV) (H : AHeap) (f : AV → AHeap → β) : frcC o r H f = f r H := frcC_eq o r H f

theorem tset_some : ∀ {t : Tr} {n : Nat}, tex t n = true → ∀ v, ∃ t', tset t n v = some t'
  | .leaf, n, h, v => by simp [tex] at h
  | .node x l r, 0, h, v => by
    cases x with
    | none => simp [tex] at h
    | some y => exact ⟨_, rfl⟩
  | .node x l r, n + 1, h, v => by
    simp only [tex] at h
    simp only [tset]
    split at h
    · rename_i e
      obtain ⟨t', h'⟩ := tset_some (t := l) h v
      simp only [e, h']; exact ⟨_, rfl⟩
    · rename_i e
      obtain ⟨t', h'⟩ := tset_some (t := r) h v
      cases hm : Nat.mod n 2 with
      | zero => exact (e hm).elim
      | succ m => simp only [h']; exact ⟨_, rfl⟩

theorem tmk_get' : ∀ (d : Nat) (g : Nat → Option AV) (n : Nat), n + 1 < 2 ^ d → tget (tmk g d) n = g n
  | 0, g, n, h => by simp at h
  | d + 1, g, 0, h => by simp only [tmk, tget]; cases g 0 <;> rfl
  | d + 1, g, n + 1, h => by
    rw [Nat.pow_succ] at h
    simp only [tmk, tget]
    split
    · rename_i e
      have e' : n % 2 = 0 := e
      have hd : Nat.div n 2 = n / 2 := rfl
      rw [tmk_get' d _ _ (by rw [hd]; omega)]
      show g (2 * (n / 2) + 1) = _
      congr 1; omega
    · rename_i e
      have e' : ¬ n % 2 = 0 := e
      have hd : Nat.div n 2 = n / 2 := rfl
      rw [tmk_get' d _ _ (by rw [hd]; omega)]
      show g (2 * (n / 2) + 2) = _
      congr 1; omega

section seqok
variable {P : Program} {gl : Glob} {d n : Nat}

theorem EnvSim.put {E : Tre AV d} {tm : Tr} (hn : n ≤ 8 ^ d) (h : EnvSim d n E tm) {t : Nat} (ht : t < n) (v : AV) : ∃ tm', tset tm t v = some tm' ∧ EnvSim d n (teput d t v E) tm' := by
  have hg : tex tm t = true := tget_tex _ _ _ (by rw [h t, if_pos ht])
  obtain ⟨tm', h1⟩ := tset_some hg v
  refine ⟨tm', h1, fun s => ?_⟩
  rw [(tset_get _ _ _ _ h1).2.1 s]
  by_cases hs : s < n
  · rw [if_pos hs, teget_put d t s v E (by omega) (by omega)]
    by_cases e : s = t
    · rw [if_pos e, if_pos e]
    · rw [if_neg e, if_neg e, h s, if_pos hs]
  · rw [if_neg hs, if_neg (by omega), h s, if_neg hs]

theorem cput_ok (hn : n ≤ 8 ^ d) {dst : Option Tmp} {p : AV → Tre AV d → (Tre AV d → Res) → Res} (h : cput d n dst = some p) {E : Tre AV d} {tm : Tr} (hE : EnvSim d n E tm) (v : AV) (f : Tre AV d → Res) :
    ∃ E' tm', putT dst v tm = some tm' ∧ EnvSim d n E' tm' ∧ p v E f = f E' := by
  unfold cput at h
  cases dst with
  | none => simp at h; subst h; exact ⟨E, tm, rfl, hE, rfl⟩
  | some t =>
    obtain ⟨h1, h2⟩ := iff_some (show iff' (Nat.blt t n) (Bx.rec (fun p => some p) (putB AV Res d t)) none = some p from h)
    have ht : t < n := by simpa [Nat.blt_eq] using h1
    have h3 : some (putB AV Res d t).v = some p := h2
    simp at h3; subst h3
    obtain ⟨tm', g1, g2⟩ := hE.put hn ht v
    exact ⟨_, tm', g1, g2, putB_eq d t v E f⟩

/-- One step of a region that goes by its text. -/
def StepOK (P : Program) (gl : Glob) (d n : Nat) (ops : List Oper) (o : Oper) (s : StF d) : Prop :=
  ∀ forc orc E T (k : Tre AV d → TH → Res) out H tm, OrcSim forc orc → Rep T H → EnvSim d n E tm → s forc E T k = some out →
    ∃ E' T' tm' H', EnvSim d n E' tm' ∧ Rep T' H' ∧ k E' T' = some out ∧
      ((awanted ops o tm = some true ∧ ∃ r, aop P orc (aeval gl tm) o H = some (r, H') ∧ putT o.dst r tm = some tm') ∨ (awanted ops o tm = some false ∧ putT o.dst (.tuple []) tm = some tm' ∧ H' = H))

theorem cstep_ok (hn : n ≤ 8 ^ d) {ops : List Oper} {o : Oper} {s : StF d} (h : cstep P gl d n ops o = some s) : StepOK P gl d n ops o s := by
  intro forc orc E T k out H tm hO hR hE he
  have run : ∀ {F : OpF d} {p : AV → Tre AV d → (Tre AV d → Res) → Res}, cop P gl d n o = some F → cput d n o.dst = some p → (F forc E T fun v T' => p v E fun E' => k E' T') = some out →
      ∃ E' T' tm' H', EnvSim d n E' tm' ∧ Rep T' H' ∧ k E' T' = some out ∧ ∃ r, aop P orc (aeval gl tm) o H = some (r, H') ∧ putT o.dst r tm = some tm' := by
    intro F p hF hp h1
    obtain ⟨r, T', H', g1, g2, g3⟩ := cop_ok hF forc orc E T _ out H hO hR h1
    rw [rhoE_eq hE] at g1
    obtain ⟨E', tm', g4, g5, g6⟩ := cput_ok hn hp hE r (fun E' => k E' T')
    rw [g6] at g3
    exact ⟨E', T', tm', H', g5, g2, g3, r, g1, g4⟩
  have skip : ∀ {p : AV → Tre AV d → (Tre AV d → Res) → Res}, cput d n o.dst = some p → (p (.tuple []) E fun E' => k E' T) = some out →
      ∃ E' T' tm' H', EnvSim d n E' tm' ∧ Rep T' H' ∧ k E' T' = some out ∧ putT o.dst (.tuple []) tm = some tm' ∧ H' = H := by
    intro p hp h1
    obtain ⟨E', tm', g4, g5, g6⟩ := cput_ok hn hp hE (.tuple []) (fun E' => k E' T)
    rw [g6] at h1
    exact ⟨E', T, tm', H, g5, hR, h1, g4, rfl⟩
  unfold cstep at h
  split at h <;> try (simp at h; done)
  · rename_i F p hF hp hg
    simp at h; subst h
    have hw : awanted ops o tm = some true := by
      unfold cgrd at hg
      unfold awanted
      split at hg
      · rename_i e; simp [e]
      · exfalso
        split at hg <;> try (simp at hg; done)
        split at hg <;> try (simp at hg; done)
        obtain ⟨_, h2⟩ := iff_some hg
        simp at h2
    obtain ⟨E', T', tm', H', g1, g2, g3, g4⟩ := run hF hp he
    exact ⟨E', T', tm', H', g1, g2, g3, .inl ⟨hw, g4⟩⟩
  · rename_i F p q want hF hp hg
    simp at h; subst h
    have hw : awanted ops o tm = (match q E with | .bool b => some (b == want) | _ => some false) := by
      unfold cgrd at hg
      unfold awanted
      split at hg
      · simp at hg
      · rename_i j w e
        split at hg <;> try (simp at hg; done)
        rename_i g hj
        split at hg <;> try (simp at hg; done)
        rename_i t ht
        obtain ⟨h1, h2⟩ := iff_some hg
        have h3 : some (some ((getB AV d t).v, w)) = some (some (q, want)) := h2
        simp at h3
        obtain ⟨rfl, rfl⟩ := h3
        have htn : t < n := by simpa [Nat.blt_eq] using h1
        simp only [e, hj, ht, hE t, if_pos htn, getB_eq]
        split <;> simp_all
    rcases onBool_some he with ⟨b, e, h1⟩ | ⟨e, h1⟩
    · rw [e] at hw
      cases b <;> cases want
      · obtain ⟨E', T', tm', H', g1, g2, g3, g4⟩ := run hF hp h1
        exact ⟨E', T', tm', H', g1, g2, g3, .inl ⟨hw, g4⟩⟩
      · obtain ⟨E', T', tm', H', g1, g2, g3, g4⟩ := skip hp h1
        exact ⟨E', T', tm', H', g1, g2, g3, .inr ⟨hw, g4⟩⟩
      · obtain ⟨E', T', tm', H', g1, g2, g3, g4⟩ := skip hp h1
        exact ⟨E', T', tm', H', g1, g2, g3, .inr ⟨hw, g4⟩⟩
      · obtain ⟨E', T', tm', H', g1, g2, g3, g4⟩ := run hF hp h1
        exact ⟨E', T', tm', H', g1, g2, g3, .inl ⟨hw, g4⟩⟩
    · have hw2 : awanted ops o tm = some false := by rw [hw]; split <;> simp_all
      obtain ⟨E', T', tm', H', g1, g2, g3, g4⟩ := skip hp h1
      exact ⟨E', T', tm', H', g1, g2, g3, .inr ⟨hw2, g4⟩⟩

theorem fseq_ok (hn : n ≤ 8 ^ d) {ops : List Oper} {forc : FOrc} {orc : Orc} (hO : OrcSim forc orc) : ∀ (l : List Oper) (E : Tre AV d) (T : TH) (k : Tre AV d → TH → Res) (out : AV × TH) (H : AHeap) (tm : Tr), Rep T H → EnvSim d n E tm → fseq P gl d n ops forc l E T k = some out →
    ∃ E' T' tm' H', aseq P gl orc ops l tm H = some (tm', H') ∧ EnvSim d n E' tm' ∧ Rep T' H' ∧ k E' T' = some out
  | [], E, T, k, out, H, tm, hR, hE, h => ⟨E, T, tm, H, rfl, hE, hR, h⟩
  | o :: l, E, T, k, out, H, tm, hR, hE, h => by
    have h : (Option.rec none (fun s => s forc E T fun E' T' => fseq P gl d n ops forc l E' T' k) (cstep P gl d n ops o) : Res) = some out := h
    cases hs : cstep P gl d n ops o with
    | none => rw [hs] at h; cases h
    | some s =>
      rw [hs] at h
      obtain ⟨E1, T1, tm1, H1, g1, g2, g3, g4⟩ := cstep_ok hn hs forc orc E T _ out H tm hO hR hE h
      obtain ⟨E2, T2, tm2, H2, k1, k2, k3, k4⟩ := fseq_ok hn hO l E1 T1 k out H1 tm1 g2 g1 g3
      refine ⟨E2, T2, tm2, H2, ?_, k2, k3, k4⟩
      rcases g4 with ⟨w1, r, w2, w3⟩ | ⟨w1, w2, rfl⟩
      · simp only [aseq, w1, w2, frcC_eq', w3, k1]
      · simp only [aseq, w1, w2, k1]
end seqok

end Go.Abs
end


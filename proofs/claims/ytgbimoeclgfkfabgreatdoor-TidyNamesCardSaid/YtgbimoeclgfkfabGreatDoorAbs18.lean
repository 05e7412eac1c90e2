/-
  A verified abstract interpreter, part 18: code, functions, and calls n deep.
-/
import Derived.Test.YtgbimoeclgfkfabGreatDoorAbs17
import Derived.LoopN
import Derived.Scope
set_option linter.unusedSimpArgs false
set_option linter.unusedVariables false
namespace Go.Abs
open Go.RowKit

def exOf : AEx → Exit
  | .normal => .normal
  | .exit id => .exit id
  | .ret => .ret

section code
variable {P : Program} {gl : Glob} {orc : Orc} {fuel : Nat}

def CodeSound (P : Program) (gl : Glob) (c : Code) (f : Tr → AHeap → Option (AEx × Tr × AHeap)) : Prop :=
  ∀ (tm : Tr) (H : AHeap) (x : AEx) (tm' : Tr) (H' : AHeap) (a : Act) (W : World) (sn : Snap) (ι : IMap) (Q : Exit → Act → World → Prop), f tm H = some (x, tm', H') → GlOK gl sn → R sn ι H W → TRel sn ι tm a →
    (∀ a' W' sn' ι', Stp sn ι H W sn' ι' H' W' → TRel sn' ι' tm' a' → a'.defers = a.defers → Q (exOf x) a' W') → c.wp P Q a W

theorem loopN_sound {c : Code} {f : Tr → AHeap → Option (AEx × Tr × AHeap)} (hf : CodeSound P gl c f) : ∀ (n : Nat) (tm : Tr) (H : AHeap) (x : AEx) (tm' : Tr) (H' : AHeap) (a : Act) (W : World) (sn : Snap) (ι : IMap) (Q : Exit → Act → World → Prop), loopN f n tm H = some (x, tm', H') → GlOK gl sn → R sn ι H W → TRel sn ι tm a →
    (∀ a' W' sn' ι', Stp sn ι H W sn' ι' H' W' → TRel sn' ι' tm' a' → a'.defers = a.defers → Q (exOf x) a' W') → Code.rounds P c Q n a W
  | 0, tm, H, x, tm', H', a, W, sn, ι, Q, h, hg, hR, ht, hQ => by simp [loopN] at h
  | n + 1, tm, H, x, tm', H', a, W, sn, ι, Q, h, hg, hR, ht, hQ => by
    simp only [loopN] at h
    rw [rounds_succ]
    split at h
    · rename_i tm1 H1 h1
      refine hf _ _ _ _ _ _ _ _ _ _ h1 hg hR ht fun a1 W1 sn1 ι1 s1 t1 d1 => ?_
      show Code.rounds P c Q n a1 W1
      refine loopN_sound hf n _ _ _ _ _ _ _ sn1 ι1 Q h (hg.mono s1.le) s1.rel t1 fun a2 W2 sn2 ι2 s2 t2 d2 => ?_
      exact hQ _ _ _ _ (s1.trans hR s2) t2 (d2.trans d1)
    · rename_i hne
      refine hf _ _ _ _ _ _ _ _ _ _ h hg hR ht fun a1 W1 sn1 ι1 s1 t1 d1 => ?_
      have := hQ _ _ _ _ s1 t1 d1
      cases x with
      | normal => exact (hne _ _ h).elim
      | exit id => exact this
      | ret => exact this

theorem aexec_sound (hm : P.follows .mixedOrders = true) (hn : NoNum P) (hO : OrcSound P gl orc) : ∀ c : Code, CodeSound P gl c (aexec P gl orc fuel c)
  | .skip => by
    intro tm H x tm' H' a W sn ι Q h hg hR ht hQ
    simp [aexec] at h; obtain ⟨rfl, rfl, rfl⟩ := h
    exact wp_skip (hQ a W sn ι (Stp.refl hR) ht rfl)
  | .region id ops draw => by
    intro tm H x tm' H' a W sn ι Q h hg hR ht hQ
    simp only [aexec] at h
    split at h <;> simp at h
    obtain ⟨rfl, rfl, rfl⟩ := h
    rename_i tm1 H1 h1
    cases draw with
    | true => exact adraw_sound hm hn hO hg hR ht (by simpa using h1) (fun a' W' sn' ι' h1 h2 h3 => hQ a' W' sn' ι' h1 h2 h3) id
    | false => exact wp_region_list (aseq_sound hn hO ops _ _ _ _ _ _ _ _ _ (by simpa using h1) hg hR ht fun a' W' sn' ι' h1 h2 h3 => hQ a' W' sn' ι' h1 h2 h3)
  | .seq c d => by
    intro tm H x tm' H' a W sn ι Q h hg hR ht hQ
    simp only [aexec] at h
    refine wp_seq ?_
    split at h
    · rename_i tm1 H1 h1
      refine aexec_sound hm hn hO c _ _ _ _ _ _ _ _ _ _ h1 hg hR ht fun a1 W1 sn1 ι1 s1 t1 d1 => ?_
      show Code.wp P d Q a1 W1
      refine aexec_sound hm hn hO d _ _ _ _ _ _ _ sn1 ι1 Q h (hg.mono s1.le) s1.rel t1 fun a2 W2 sn2 ι2 s2 t2 d2 => ?_
      exact hQ _ _ _ _ (s1.trans hR s2) t2 (d2.trans d1)
    · rename_i hne
      refine aexec_sound hm hn hO c _ _ _ _ _ _ _ _ _ _ h hg hR ht fun a1 W1 sn1 ι1 s1 t1 d1 => ?_
      have := hQ _ _ _ _ s1 t1 d1
      cases x with
      | normal => exact (hne _ _ h).elim
      | exit id => exact this
      | ret => exact this
  | .cond e c d => by
    intro tm H x tm' H' a W sn ι Q h hg hR ht hQ
    simp only [aexec] at h
    split at h <;> try (simp at h; done)
    · rename_i he
      exact wp_cond_true (aeval_sound hg ht _ _ he).bool (aexec_sound hm hn hO c _ _ _ _ _ _ _ _ _ _ h hg hR ht hQ)
    · rename_i he
      exact wp_cond_false (aeval_sound hg ht _ _ he).bool (aexec_sound hm hn hO d _ _ _ _ _ _ _ _ _ _ h hg hR ht hQ)
  | .block id b => by
    intro tm H x tm' H' a W sn ι Q h hg hR ht hQ
    simp only [aexec] at h
    refine wp_block ?_
    split at h
    · rename_i id' tm1 H1 h1
      refine aexec_sound hm hn hO b _ _ _ _ _ _ _ _ _ _ h1 hg hR ht fun a1 W1 sn1 ι1 s1 t1 d1 => ?_
      show (if id' = id then Q .normal a1 W1 else Q (.exit id') a1 W1)
      split at h
      · rename_i e
        rw [if_pos (Nat.eq_of_beq_eq_true e)]
        simp at h; obtain ⟨rfl, rfl, rfl⟩ := h
        exact hQ _ _ _ _ s1 t1 d1
      · rename_i e
        rw [if_neg (fun e' => e (by simp [e']))]
        simp at h; obtain ⟨rfl, rfl, rfl⟩ := h
        exact hQ _ _ _ _ s1 t1 d1
    · rename_i hne
      refine aexec_sound hm hn hO b _ _ _ _ _ _ _ _ _ _ h hg hR ht fun a1 W1 sn1 ι1 s1 t1 d1 => ?_
      have := hQ _ _ _ _ s1 t1 d1
      cases x with
      | normal => exact this
      | exit id => exact (hne _ _ _ h).elim
      | ret => exact this
  | .loop b => by
    intro tm H x tm' H' a W sn ι Q h hg hR ht hQ
    simp only [aexec] at h
    exact wp_loop_rounds fuel (loopN_sound (aexec_sound hm hn hO b) fuel _ _ _ _ _ _ _ _ _ _ h hg hR ht hQ)
  | .exit id => by
    intro tm H x tm' H' a W sn ι Q h hg hR ht hQ
    simp [aexec] at h; obtain ⟨rfl, rfl, rfl⟩ := h
    exact wp_exit (hQ a W sn ι (Stp.refl hR) ht rfl)
  | .ret => by
    intro tm H x tm' H' a W sn ι Q h hg hR ht hQ
    simp [aexec] at h; obtain ⟨rfl, rfl, rfl⟩ := h
    exact wp_ret (hQ a W sn ι (Stp.refl hR) ht rfl)
  | .rangeFunc .. => fun tm H x tm' H' a W sn ι Q h hg hR ht hQ => by simp [aexec] at h
  | .scope b => by
    intro tm H x tm' H' a W sn ι Q h hg hR ht hQ
    simp only [aexec] at h
    refine wp_scope_straight (aexec_sound hm hn hO b _ _ _ _ _ _ _ _ _ _ h hg hR ht fun a1 W1 sn1 ι1 h1 h2 h3 => ?_)
    have := hQ a1 W1 sn1 ι1 h1 h2 h3
    cases x <;> exact this
  | .label l => by
    intro tm H x tm' H' a W sn ι Q h hg hR ht hQ
    simp [aexec] at h; obtain ⟨rfl, rfl, rfl⟩ := h
    exact wp_label (hQ a W sn ι (Stp.refl hR) ht rfl)
  | .goto .. => fun tm H x tm' H' a W sn ι Q h hg hR ht hQ => by simp [aexec] at h
  | .refuse .. => fun tm H x tm' H' a W sn ι Q h hg hR ht hQ => by simp [aexec] at h
end code

section fin
variable {P : Program} {gl : Glob} {sn : Snap} {ι : IMap} {H : AHeap} {W : World}

theorem tget_eval {a : Act} {tm : Tr} (ht : TRel sn ι tm a) {t : Nat} {u : AV} (h : tget tm t = some u) : VR sn ι u (a.tmps.getD t undef) := by
  obtain ⟨v, h1, h2⟩ := ht.1 t u h
  simpa [Array.getD_eq_getD_getElem?, h1] using h2

theorem aress_sound (hR : R sn ι H W) {tm : Tr} {a : Act} (ht : TRel sn ι tm a) : ∀ (l : List ResultVar) (us : List AV), aress P tm H l = some us → ∃ vs : List Value, LR sn ι us vs ∧
    (l.mapM fun r => (match r with | .tmp t => pure (a.tmps.getD t undef) | .cell ad t => do loadVar t (← asAddr (a.tmps.getD ad undef)) : Sem Value)).run P W = .ok vs W
  | [], us, h => by simp [aress] at h; subst h; exact ⟨[], by simp [LR], by simp⟩
  | .tmp t :: l, us, h => by
    simp only [aress] at h
    split at h <;> simp at h
    subst h; rename_i v vs hv hvs
    obtain ⟨vs', h1, h2⟩ := aress_sound hR ht l _ hvs
    refine ⟨a.tmps.getD t undef :: vs', ?_, ?_⟩
    · simp only [LR]; exact ⟨_, _, rfl, tget_eval ht hv, h1⟩
    · rw [List.mapM_cons]
      simp only [Sem.run_bind, Sem.run_pure, Result.andThen_ok]
      rw [h2]; rfl
  | .cell ad t :: l, us, h => by
    simp only [aress] at h
    split at h <;> try (simp at h; done)
    rename_i b off hb
    split at h <;> simp at h
    subst h; rename_i v vs hv hvs
    obtain ⟨vs', h1, h2⟩ := aress_sound hR ht l _ hvs
    obtain ⟨x, y, e1, e2, e3⟩ := loadVar_sound hR.ro hv (tget_eval ht hb)
    refine ⟨y :: vs', ?_, ?_⟩
    · simp only [LR]; exact ⟨_, _, rfl, e3, h1⟩
    · have hy : (do loadVar t (← asAddr (a.tmps.getD ad undef)) : Sem Value).run P W = .ok y W := by
        simp only [Sem.run_bind, e1, asAddr, Sem.run_pure, Result.andThen_ok, e2]
      generalize hF : (fun r : ResultVar => (match r with | .tmp t => pure (a.tmps.getD t undef) | .cell ad t => do loadVar t (← asAddr (a.tmps.getD ad undef)) : Sem Value)) = F at h2 ⊢
      have hFc : (F (.cell ad t)).run P W = .ok y W := by subst hF; exact hy
      rw [List.mapM_cons]
      simp only [Sem.run_bind, Sem.run_pure, Result.andThen_ok, hFc, h2]

theorem results_list {fn : Func} {tmps : Array Value} {vs : List Value} (h : (fn.results.toList.mapM fun r => (match r with | .tmp t => pure (tmps.getD t undef) | .cell ad t => do loadVar t (← asAddr (tmps.getD ad undef)) : Sem Value)).run P W = .ok vs W) :
    (results fn tmps).run P W = .ok (if h : vs.toArray.size = 1 then vs.toArray[0] else .tuple vs.toArray) W := by
  unfold results
  rw [Array.mapM_eq_mapM_toList, Sem.run_bind, Sem.run_map]
  refine (congrArg (fun z => Result.andThen (Result.andThen z (fun a w' => .ok a.toArray w')) (fun a w' => (pure (if h : a.size = 1 then a[0] else .tuple a) : Sem Value).run P w')) h).trans ?_
  rfl

theorem tini_sound {args : List AV} {cargs : List Value} (ha : LR sn ι args cargs) (n m d : Nat) : TRel sn ι (tmk (tini args n m) d) { tmps := cargs.toArray ++ Array.replicate (n - cargs.toArray.size) undef, defers := [] } := by
  have h1 : ∀ t u, tini args n m t = some u → ∃ v, (cargs.toArray ++ Array.replicate (n - cargs.toArray.size) undef)[t]? = some v ∧ VR sn ι u v := by
   intro t u h
   have hl := ha.length
   unfold tini at h
   split at h
   · simp at h; subst h
     rename_i v hv
     obtain ⟨x, h1, h2⟩ := ha.get hv
     refine ⟨x, ?_, h2⟩
     have ht : t < cargs.length := (List.getElem?_eq_some_iff.1 h1).1
     rw [Array.getElem?_append_left (by simpa using ht)]
     simpa using h1
   · rename_i hv
     split at h <;> simp at h
     subst h; rename_i hb
     have hb' : t < n := by simpa [Nat.blt_eq] using hb
     have hv' : args.length ≤ t := by simpa using hv
     refine ⟨undef, ?_, vr_undef⟩
     rw [Array.getElem?_append_right (by simp; omega)]
     simp only [Array.getElem?_replicate]
     rw [if_pos (by simp; omega)]
  refine ⟨fun t u hu => h1 t u (tmk_get _ _ _ _ hu), fun t hx => ?_⟩
  obtain ⟨u, hu⟩ := tmk_tex _ _ _ hx
  obtain ⟨v, hv, _⟩ := h1 t u hu
  exact (Array.getElem?_eq_some_iff.1 hv).1

theorem afunc_sound {orc : Orc} {fuel : Nat} (hm : P.follows .mixedOrders = true) (hn : NoNum P) (hO : OrcSound P gl orc) : OrcSound P gl (fun f args H => afunc P gl orc fuel f args H) := by
  intro f args H r H' h sn ι W cargs hg hR ha
  simp only [afunc] at h
  split at h <;> try (simp at h; done)
  rename_i fn hfn
  split at h <;> try (simp at h; done)
  rename_i c hc
  simp only [frcVL_eq, frcH_eq] at h
  split at h <;> try (simp at h; done)
  rename_i x tm H1 hx
  refine calls_of_wp hfn hc (aexec_sound hm hn hO c _ _ _ _ _ _ _ sn ι _ hx hg hR (tini_sound ha _ _ _) fun a1 W1 sn1 ι1 s1 t1 d1 => ?_)
  have key : ∀ {y}, (match aress P tm H1 fn.results.toList with
        | some [v] => some (v, H1)
        | some vs => some (.tuple vs, H1)
        | none => none) = some y → y = (r, H') → ∃ v, (results fn a1.tmps).run P W1 = .ok v W1 ∧ VR sn1 ι1 r v ∧ H1 = H' := by
    rintro y h rfl
    split at h <;> try (simp at h; done)
    · rename_i v hv
      obtain ⟨vs, h1, h2⟩ := aress_sound s1.rel t1 _ _ hv
      simp only [LR] at h1
      obtain ⟨d, ds, rfl, hd, rfl⟩ := h1
      simp at h; obtain ⟨rfl, rfl⟩ := h
      refine ⟨d, ?_, hd, rfl⟩
      rw [results_list h2]; rfl
    · rename_i us hus hv
      obtain ⟨vs, h1, h2⟩ := aress_sound s1.rel t1 _ _ hv
      simp at h; obtain ⟨rfl, rfl⟩ := h
      refine ⟨.tuple vs.toArray, ?_, by simpa [VR] using h1, rfl⟩
      rw [results_list h2]
      have hl := h1.length
      have : vs.length ≠ 1 := by
        intro e
        rw [e] at hl
        match us, hl with
        | [u], _ => exact hus u rfl
      simp [this]
  cases x with
  | normal =>
    obtain ⟨v, k1, k2, rfl⟩ := key h rfl
    exact bodyPost_end k1 d1 ⟨v, sn1, ι1, rfl, k2, s1⟩
  | exit id => simp at h
  | ret =>
    obtain ⟨v, k1, k2, rfl⟩ := key h rfl
    exact bodyPost_ret k1 d1 ⟨v, sn1, ι1, rfl, k2, s1⟩

theorem runs_sound {fuel : Nat} (hm : P.follows .mixedOrders = true) (hn : NoNum P) : ∀ n, OrcSound P gl (runs P gl fuel n)
  | 0 => by intro f args H r H' h; simp [runs] at h
  | n + 1 => by
    have := afunc_sound (fuel := fuel) hm hn (runs_sound (fuel := fuel) hm hn n)
    intro f args H r H' h
    exact this f args H r H' (by simpa [runs] using h)
end fin
end Go.Abs

/-
  Texts of this proof, one behind the other (part 3).
-/
import Derived.Test.YteidjbahodbgdaaGreatDoorPg2
import Derived.LoopN
import Derived.Scope
import Derived.LoopNIn
import Derived.RangeFuncLeaves
import Derived.ProofKit
import Derived.OpenShut
import Derived.IntWalk
import Derived.RangeFuncRecord
import Derived.RangeFuncIn
import Derived.ChangeReads
import Derived.ChangeArms
import Derived.Stop.LaidErr
set_option linter.unusedVariables false
set_option linter.unusedSimpArgs false

section
namespace Go.Abs
open Go.RowKit
section scope
variable {P : Program} {F : Fence} {n : Nat} {b : Frame} {a : Act} {k : List Item} {cs : List Frame} {w : World} {Q : Exit -> Act -> World -> Prop}
theorem Z1P {c : Code} : step P (lone (b.atR a (.code (.scope c) :: k)) cs w) = .next (lone (b.atR a (.code c :: .inScope c :: k)) cs w) :=
 step_lone_go (by simp [stepG, stepG.exec, Frame.atR])
theorem Z9h {c : Code} : step P (lone (b.atR a (.inScope c :: k)) cs w) = .next (lone (b.atR a k) cs w) :=
 step_lone_go (by simp [stepG, stepG.exec, Frame.atR])
theorem Z4z {c : Code} (h : c.wpIn F n P (Exit.noGoto Q) a w) : (Code.scope c).wpIn F n P Q a w := by
 intro b k cs hro hb hr
 have h0 : (lone (b.atR a (.code (.scope c) :: k)) cs w).fenced P F := fenced_calm hb hr rfl
 obtain ⟨e, a₁, w₁, hq, harr⟩ := h b (.inScope c :: k) cs hro hb hr
 cases e with
 | normal => exact ⟨.normal, a₁, w₁, hq, .head h0 Z1P (StepsIn.trans harr (.one (fenced_calm hb hr rfl) Z9h))⟩
 | exit id =>
  have hx : exitTo id (.inScope c :: k) = exitTo id k := by simp [exitTo]
  exact ⟨.exit id, a₁, w₁, hq, fun k' hk => .head h0 Z1P (harr.1 k' (by rw [hx]; exact hk)),
   fun hr' hk => let ⟨k₁, h1, h2⟩ := harr.2 hr' (by rw [hx]; exact hk); ⟨k₁, h1, .head h0 Z1P h2⟩⟩
 | goto l => exact hq.elim
 | ret => exact ⟨_, a₁, w₁, hq, .of_steps (.one h0 Z1P) harr⟩
 | panic ch => exact ⟨_, a₁, w₁, hq, .of_steps (.one h0 Z1P) harr⟩
 | outgrown => exact ⟨_, a₁, w₁, hq, .of_steps (.one h0 Z1P) harr⟩
end scope
def Zme : AEx -> Exit
 | .normal => .normal
 | .exit id => .exit id
 | .ret => .ret
section code
variable {P : Program} {gl : Z0l} {orc : Orc} {fuel : Nat}
def ZbI (P : Program) (gl : Z0l) (rd : Option Nat) (c : Code) (f : Tr -> Z00 -> Option (AEx × Tr × Z00)) : Prop :=
 ∀ (tm : Tr) (H : Z00) (x : AEx) (tm' : Tr) (H' : Z00) (a : Act) (W : World) (sn : Z0j) (ι : Z0k) (Q : Exit -> Act -> World -> Prop), f tm H = some (x, tm', H') -> GlOK gl sn -> R sn ι H W -> TRel sn ι tm a ->
  (∀ a' W' sn' ι', Stp sn ι H W sn' ι' H' W' -> TRel sn' ι' tm' a' -> a'.defers = a.defers -> Q (Zme x) a' W') -> c.wpIn (Fq rd) 0 P Q a W
theorem Z7w {rd : Option Nat} {c : Code} {f : Tr -> Z00 -> Option (AEx × Tr × Z00)} (hf : ZbI P gl rd c f) : ∀ (n : Nat) (tm : Tr) (H : Z00) (x : AEx) (tm' : Tr) (H' : Z00) (a : Act) (W : World) (sn : Z0j) (ι : Z0k) (Q : Exit -> Act -> World -> Prop), Zg5 f n tm H = some (x, tm', H') -> GlOK gl sn -> R sn ι H W -> TRel sn ι tm a ->
  (∀ a' W' sn' ι', Stp sn ι H W sn' ι' H' W' -> TRel sn' ι' tm' a' -> a'.defers = a.defers -> Q (Zme x) a' W') -> Code.roundsIn (Fq rd) 0 P c Q n a W
 | 0, tm, H, x, tm', H', a, W, sn, ι, Q, h, hg, hR, ht, hQ => by simp [Zg5] at h
 | n + 1, tm, H, x, tm', H', a, W, sn, ι, Q, h, hg, hR, ht, hQ => by
  simp only [Zg5] at h
  rw [roundsIn_succ]
  split at h
  · rename_i tm1 H1 h1
    refine hf _ _ _ _ _ _ _ _ _ _ h1 hg hR ht fun a1 W1 sn1 ι1 s1 t1 d1 => ?_
    show Code.roundsIn (Fq rd) 0 P c Q n a1 W1
    refine Z7w hf n _ _ _ _ _ _ _ sn1 ι1 Q h (hg.mono s1.le) s1.rel t1 fun a2 W2 sn2 ι2 s2 t2 d2 => ?_
    exact hQ _ _ _ _ (s1.trans hR s2) t2 (d2.trans d1)
  · rename_i hne
    refine hf _ _ _ _ _ _ _ _ _ _ h hg hR ht fun a1 W1 sn1 ι1 s1 t1 d1 => ?_
    have := hQ _ _ _ _ s1 t1 d1
    cases x with
    | normal => exact (hne _ _ h).elim
    | exit id => exact this
    | ret => exact this
theorem Z0V {rd : Option Nat} (hm : P.follows .mixedOrders = true) (hn : NoNum P) (hO : Z06 P gl orc) : ∀ c : Code, ZbI P gl rd c (Z1o P gl orc fuel c)
 | .skip => by
  intro tm H x tm' H' a W sn ι Q h hg hR ht hQ
  simp [Z1o] at h; obtain ⟨rfl, rfl, rfl⟩ := h
  exact wpIn_skip (hQ a W sn ι (Stp.refl hR) ht rfl)
 | .region id ops draw => by
  intro tm H x tm' H' a W sn ι Q h hg hR ht hQ
  simp only [Z1o] at h
  split at h <;> simp at h
  obtain ⟨rfl, rfl, rfl⟩ := h
  rename_i tm1 H1 h1
  cases draw with
  | true => exact Z84 hm hn hO hg hR ht (by simpa using h1) (fun a' W' sn' ι' h1 h2 h3 => hQ a' W' sn' ι' h1 h2 h3) id
  | false => exact wpIn_region_list (Z4n hn hO ops _ _ _ _ _ _ _ _ _ (by simpa using h1) hg hR ht fun a' W' sn' ι' h1 h2 h3 => hQ a' W' sn' ι' h1 h2 h3)
 | .seq c d => by
  intro tm H x tm' H' a W sn ι Q h hg hR ht hQ
  simp only [Z1o] at h
  refine wpIn_seq ?_
  split at h
  · rename_i tm1 H1 h1
    refine Z0V hm hn hO c _ _ _ _ _ _ _ _ _ _ h1 hg hR ht fun a1 W1 sn1 ι1 s1 t1 d1 => ?_
    show Code.wpIn (Fq rd) 0 P d Q a1 W1
    refine Z0V hm hn hO d _ _ _ _ _ _ _ sn1 ι1 Q h (hg.mono s1.le) s1.rel t1 fun a2 W2 sn2 ι2 s2 t2 d2 => ?_
    exact hQ _ _ _ _ (s1.trans hR s2) t2 (d2.trans d1)
  · rename_i hne
    refine Z0V hm hn hO c _ _ _ _ _ _ _ _ _ _ h hg hR ht fun a1 W1 sn1 ι1 s1 t1 d1 => ?_
    have := hQ _ _ _ _ s1 t1 d1
    cases x with
    | normal => exact (hne _ _ h).elim
    | exit id => exact this
    | ret => exact this
 | .cond e c d => by
  intro tm H x tm' H' a W sn ι Q h hg hR ht hQ
  simp only [Z1o] at h
  split at h <;> try (simp at h; done)
  · rename_i he
    exact wpIn_cond_true (Z3y hg ht _ _ he).bool (Z0V hm hn hO c _ _ _ _ _ _ _ _ _ _ h hg hR ht hQ)
  · rename_i he
    exact wpIn_cond_false (Z3y hg ht _ _ he).bool (Z0V hm hn hO d _ _ _ _ _ _ _ _ _ _ h hg hR ht hQ)
 | .block id b => by
  intro tm H x tm' H' a W sn ι Q h hg hR ht hQ
  simp only [Z1o] at h
  refine wpIn_block ?_
  split at h
  · rename_i id' tm1 H1 h1
    refine Z0V hm hn hO b _ _ _ _ _ _ _ _ _ _ h1 hg hR ht fun a1 W1 sn1 ι1 s1 t1 d1 => ?_
    show (if id' = id then Q .normal a1 W1 else Q (.exit id') a1 W1)
    split at h
    · rename_i e
      rw [if_pos (Nat.eq_of_beq_eq_true e)]
      simp at h; obtain ⟨rfl, rfl, rfl⟩ := h
      exact hQ _ _ _ _ s1 t1 d1
    · rename_i e
      rw [if_neg (fun e' => e (by simp [e']))]
      simp at h; obtain ⟨rfl, rfl, rfl⟩ := h
      exact hQ _ _ _ _ s1 t1 d1
  · rename_i hne
    refine Z0V hm hn hO b _ _ _ _ _ _ _ _ _ _ h hg hR ht fun a1 W1 sn1 ι1 s1 t1 d1 => ?_
    have := hQ _ _ _ _ s1 t1 d1
    cases x with
    | normal => exact this
    | exit id => exact (hne _ _ _ h).elim
    | ret => exact this
 | .loop b => by
  intro tm H x tm' H' a W sn ι Q h hg hR ht hQ
  simp only [Z1o] at h
  exact wpIn_loop_rounds fuel (Z7w (Z0V hm hn hO b) fuel _ _ _ _ _ _ _ _ _ _ h hg hR ht hQ)
 | .exit id => by
  intro tm H x tm' H' a W sn ι Q h hg hR ht hQ
  simp [Z1o] at h; obtain ⟨rfl, rfl, rfl⟩ := h
  exact wpIn_exit (hQ a W sn ι (Stp.refl hR) ht rfl)
 | .ret => by
  intro tm H x tm' H' a W sn ι Q h hg hR ht hQ
  simp [Z1o] at h; obtain ⟨rfl, rfl, rfl⟩ := h
  exact wpIn_ret (hQ a W sn ι (Stp.refl hR) ht rfl)
 | .rangeFunc .. => fun tm H x tm' H' a W sn ι Q h hg hR ht hQ => by simp [Z1o] at h
 | .scope b => by
  intro tm H x tm' H' a W sn ι Q h hg hR ht hQ
  simp only [Z1o] at h
  refine Z4z (Z0V hm hn hO b _ _ _ _ _ _ _ _ _ _ h hg hR ht fun a1 W1 sn1 ι1 h1 h2 h3 => ?_)
  have := hQ a1 W1 sn1 ι1 h1 h2 h3
  cases x <;> exact this
 | .label l => by
  intro tm H x tm' H' a W sn ι Q h hg hR ht hQ
  simp [Z1o] at h; obtain ⟨rfl, rfl, rfl⟩ := h
  exact wpIn_label (hQ a W sn ι (Stp.refl hR) ht rfl)
 | .goto .. => fun tm H x tm' H' a W sn ι Q h hg hR ht hQ => by simp [Z1o] at h
 | .refuse .. => fun tm H x tm' H' a W sn ι Q h hg hR ht hQ => by simp [Z1o] at h
end code
section fin
variable {P : Program} {gl : Z0l} {sn : Z0j} {ι : Z0k} {H : Z00} {W : World}
theorem ZaA {a : Act} {tm : Tr} (ht : TRel sn ι tm a) {t : Nat} {u : AV} (h : Z1u tm t = some u) : VR sn ι u (a.tmps.getD t undef) := by
 obtain ⟨v, h1, h2⟩ := ht.1 t u h
 simpa [Array.getD_eq_getD_getElem?, h1] using h2
theorem Z13 (hR : R sn ι H W) {tm : Tr} {a : Act} (ht : TRel sn ι tm a) : ∀ (l : List ResultVar) (us : List AV), Z3i P tm H l = some us -> ∃ vs : List Value, LR sn ι us vs /\
  (l.mapM fun r => (match r with | .tmp t => pure (a.tmps.getD t undef) | .cell ad t => do loadVar t (<- asAddr (a.tmps.getD ad undef)) : Sem Value)).run P W = .ok vs W
 | [], us, h => by simp [Z3i] at h; subst h; exact ⟨[], by simp [LR], by simp⟩
 | .tmp t :: l, us, h => by
  simp only [Z3i] at h
  split at h <;> simp at h
  subst h; rename_i v vs hv hvs
  obtain ⟨vs', h1, h2⟩ := Z13 hR ht l _ hvs
  refine ⟨a.tmps.getD t undef :: vs', ?_, ?_⟩
  · simp only [LR]; exact ⟨_, _, rfl, ZaA ht hv, h1⟩
  · rw [List.mapM_cons]
    simp only [Sem.run_bind, Sem.run_pure, Result.andThen_ok]
    rw [h2]; rfl
 | .cell ad t :: l, us, h => by
  simp only [Z3i] at h
  split at h <;> try (simp at h; done)
  rename_i b off hb
  split at h <;> simp at h
  subst h; rename_i v vs hv hvs
  obtain ⟨vs', h1, h2⟩ := Z13 hR ht l _ hvs
  obtain ⟨x, y, e1, e2, e3⟩ := Z5p hR.ro hv (ZaA ht hb)
  refine ⟨y :: vs', ?_, ?_⟩
  · simp only [LR]; exact ⟨_, _, rfl, e3, h1⟩
  · have hy : (do loadVar t (<- asAddr (a.tmps.getD ad undef)) : Sem Value).run P W = .ok y W := by
     simp only [Sem.run_bind, e1, asAddr, Sem.run_pure, Result.andThen_ok, e2]
    generalize hF : (fun r : ResultVar => (match r with | .tmp t => pure (a.tmps.getD t undef) | .cell ad t => do loadVar t (<- asAddr (a.tmps.getD ad undef)) : Sem Value)) = F at h2 ⊢
    have hFc : (F (.cell ad t)).run P W = .ok y W := by subst hF; exact hy
    rw [List.mapM_cons]
    simp only [Sem.run_bind, Sem.run_pure, Result.andThen_ok, hFc, h2]
theorem Z1c {fn : Func} {tmps : Array Value} {vs : List Value} (h : (fn.results.toList.mapM fun r => (match r with | .tmp t => pure (tmps.getD t undef) | .cell ad t => do loadVar t (<- asAddr (tmps.getD ad undef)) : Sem Value)).run P W = .ok vs W) :
  (results fn tmps).run P W = .ok (if h : vs.toArray.size = 1 then vs.toArray[0] else .tuple vs.toArray) W := by
 unfold results
 rw [Array.mapM_eq_mapM_toList, Sem.run_bind, Sem.run_map]
 refine (congrArg (fun z => Result.andThen (Result.andThen z (fun a w' => .ok a.toArray w')) (fun a w' => (pure (if h : a.size = 1 then a[0] else .tuple a) : Sem Value).run P w')) h).trans ?_
 rfl
theorem Z8q {args : List AV} {cargs : List Value} (ha : LR sn ι args cargs) (n m d : Nat) : TRel sn ι (tmk (Z8a args n m) d) { tmps := cargs.toArray ++ Array.replicate (n - cargs.toArray.size) undef, defers := [] } := by
 have h1 : ∀ t u, Z8a args n m t = some u -> ∃ v, (cargs.toArray ++ Array.replicate (n - cargs.toArray.size) undef)[t]? = some v /\ VR sn ι u v := by
  intro t u h
  have hl := ha.length
  unfold Z8a at h
  split at h
  · simp at h; subst h
    rename_i v hv
    obtain ⟨x, h1, h2⟩ := ha.get hv
    refine ⟨x, ?_, h2⟩
    have ht : t < cargs.length := (List.getElem?_eq_some_iff.1 h1).1
    rw [Array.getElem?_append_left (by simpa using ht)]
    simpa using h1
  · rename_i hv
    split at h <;> simp at h
    subst h; rename_i hb
    have hb' : t < n := by simpa [Nat.blt_eq] using hb
    have hv' : args.length <= t := by simpa using hv
    refine ⟨undef, ?_, Z4Z⟩
    rw [Array.getElem?_append_right (by simp; omega)]
    simp only [Array.getElem?_replicate]
    rw [if_pos (by simp; omega)]
 refine ⟨fun t u hu => h1 t u (ZbR _ _ _ _ hu), fun t hx => ?_⟩
 obtain ⟨u, hu⟩ := ZbQ _ _ _ hx
 obtain ⟨v, hv, _⟩ := h1 t u hu
 exact (Array.getElem?_eq_some_iff.1 hv).1
theorem Zcr {orc : Orc} {fuel : Nat} (hm : P.follows .mixedOrders = true) (hn : NoNum P) (hO : Z06 P gl orc) : Z06 P gl (fun f args H => ZgZ P gl orc fuel f args H) := by
 intro f args H r H' h sn ι W cargs hg hR ha
 simp only [ZgZ] at h
 split at h <;> try (simp at h; done)
 rename_i fn hfn
 split at h <;> try (simp at h; done)
 rename_i c hc
 simp only [frcVL_eq, Z9N] at h
 split at h <;> try (simp at h; done)
 rename_i x tm H1 hx
 refine .inl (calls_of_wp hfn hc (wpIn_wide.1 (Z0V (rd := none) hm hn hO c _ _ _ _ _ _ _ sn ι _ hx hg hR (Z8q ha _ _ _) fun a1 W1 sn1 ι1 s1 t1 d1 => ?_)))
 have key : ∀ {y}, (match Z3i P tm H1 fn.results.toList with
   | some [v] => some (v, H1)
   | some vs => some (.tuple vs, H1)
   | none => none) = some y -> y = (r, H') -> ∃ v, (results fn a1.tmps).run P W1 = .ok v W1 /\ VR sn1 ι1 r v /\ H1 = H' := by
  rintro y h rfl
  split at h <;> try (simp at h; done)
  · rename_i v hv
    obtain ⟨vs, h1, h2⟩ := Z13 s1.rel t1 _ _ hv
    simp only [LR] at h1
    obtain ⟨d, ds, rfl, hd, rfl⟩ := h1
    simp at h; obtain ⟨rfl, rfl⟩ := h
    refine ⟨d, ?_, hd, rfl⟩
    rw [Z1c h2]; rfl
  · rename_i us hus hv
    obtain ⟨vs, h1, h2⟩ := Z13 s1.rel t1 _ _ hv
    simp at h; obtain ⟨rfl, rfl⟩ := h
    refine ⟨.tuple vs.toArray, ?_, by simpa [VR] using h1, rfl⟩
    rw [Z1c h2]
    have hl := h1.length
    have : vs.length ≠ 1 := by
     intro e
     rw [e] at hl
     match us, hl with
     | [u], _ => exact hus u rfl
    simp [this]
 cases x with
 | normal =>
  obtain ⟨v, k1, k2, rfl⟩ := key h rfl
  exact bodyPost_end k1 d1 ⟨v, sn1, ι1, rfl, k2, s1⟩
 | exit id => simp at h
 | ret =>
  obtain ⟨v, k1, k2, rfl⟩ := key h rfl
  exact bodyPost_ret k1 d1 ⟨v, sn1, ι1, rfl, k2, s1⟩
end fin
end Go.Abs
end

section
namespace Go.Abs
open Go.RowKit Go.ChangeShapes Go.WideShapes Go.ChangeAt
def Z2o (W : World) : Z0j := fun a => if a.block < W.heap.size then W.cell? a else none
theorem R0 (W : World) : R (Z2o W) noI [] W := by
 refine ⟨fun b => ?_, fun b p h => ?_, fun b o p h => ?_, fun b b' o o' p p' h => ?_, fun a v h => ?_, fun b o p h => by simp at h⟩
 · simp [noI]
 · simp [noI] at h
 · simp at h
 · simp at h
 · unfold Z2o at h
   split at h
   · rename_i hb
     exact ⟨hb, h, fun b o p h => by simp at h⟩
   · simp at h
theorem Stp.below {W W' : World} {sn : Z0j} {ι : Z0k} {H : Z00} (h : Stp (Z2o W) noI [] W sn ι H W') : Below W.heap.size W W' :=
 ⟨h.os, h.tape, h.output, h.size, fun c hc => h.frame c hc fun b o p hb => by simp at hb⟩
section av
variable {H : Type} {P : Program}
def Zkp (f : TypeId -> DataW H -> Option (List AV)) (P : Program) (tot : Nat) : List Field -> List (DataW H) -> Nat -> Option (List AV)
 | [], [], off => if Nat.beq off tot then some [] else none
 | fl :: fs, d :: ds, off => if Nat.beq fl.offset off then
   match f fl.type d, Zkp f P tot fs ds (off + P.cellsOf fl.type) with
   | some u, some us => if Nat.beq u.length (P.cellsOf fl.type) then some (u ++ us) else none
   | _, _ => none
  else none
 | _, _, _ => none
def ZlP (f : DataW H -> Option (List AV)) (ct : Nat) : List (DataW H) -> Option (List AV)
 | [] => some []
 | d :: ds => match f d, ZlP f ct ds with
  | some u, some us => if Nat.beq u.length ct then some (u ++ us) else none
  | _, _ => none
def Zhl (P : Program) : Nat -> TypeId -> DataW H -> Option (List AV)
 | 0, _, _ => none
 | n + 1, t, d => match P.underlying t, d with
  | some .bool, .lit (.bool b) => some [.bool b]
  | some (.int k), .lit (.int _ z) => some [.int k z]
  | some .string, .lit (.string s) => some [.str s]
  | some (.struct fs), .agg ds => Zkp (Zhl P n) P (P.cellsOf t) fs.toList ds 0
  | some (.array m e), .agg ds => if Nat.beq (ds.length * P.cellsOf e) (P.cellsOf t) && Nat.beq ds.length m then ZlP (Zhl P n e) (P.cellsOf e) ds else none
  | _, _ => none
variable {enc : TypeId × Value -> H} {w : World} {base : Nat} {sp : Nat -> Bool} {held : Bool} {sn : Z0j} {ι : Z0k}
theorem Z8N {f : TypeId -> DataW H -> Option (List AV)} {m tot : Nat} (hf : ∀ t d us cs p, f t d = some us -> DataW.trod enc P w base sp held m t cs = some (d, p) -> LR sn ι us cs) (cs : List Value) (hl : cs.length = tot) :
  ∀ (fs : List Field) (xs : List (DataW H × List MemPlace)) (off : Nat) (us : List AV), Zkp f P tot fs (xs.map (·.1)) off = some us ->
   (∀ (i : Nat) (fl : Field), fs[i]? = some fl -> DataW.trod enc P w base sp held m fl.type ((cs.drop fl.offset).take (P.cellsOf fl.type)) = xs[i]?) -> LR sn ι us (cs.drop off)
 | [], [], off, us, h, hx => by
  simp only [Zkp, List.map_nil] at h
  split at h <;> simp at h
  subst h; rename_i e
  have := Nat.eq_of_beq_eq_true e
  simp [LR]; omega
 | [], x :: xs, off, us, h, hx => by simp [Zkp] at h
 | fl :: fs, [], off, us, h, hx => by simp [Zkp] at h
 | fl :: fs, x :: xs, off, us, h, hx => by
  simp only [Zkp, List.map_cons] at h
  split at h <;> try (simp at h; done)
  rename_i e
  have := Nat.eq_of_beq_eq_true e; subst this
  split at h <;> try (simp at h; done)
  rename_i u us' hu hus
  split at h <;> simp at h
  subst h; rename_i hul
  have hul' := Nat.eq_of_beq_eq_true hul
  have h0 := hx 0 fl rfl
  simp only [List.getElem?_cons_zero] at h0
  have h1 := hf _ _ _ _ _ hu h0
  have h2 := Z8N hf cs hl fs xs _ _ hus fun i fl' hi => by simpa using hx (i + 1) fl' (by simpa using hi)
  have := h1.append h2
  rwa [<- List.drop_drop, List.take_append_drop] at this
theorem Z8R {f : DataW H -> Option (List AV)} {m ct : Nat} {e : TypeId} (hf : ∀ d us cs p, f d = some us -> DataW.trod enc P w base sp held m e cs = some (d, p) -> LR sn ι us cs) (cs : List Value) :
  ∀ (xs : List (DataW H × List MemPlace)) (k : Nat) (us : List AV), cs.length = (k + xs.length) * ct -> ZlP f ct (xs.map (·.1)) = some us ->
   (∀ (i : Nat), i < xs.length -> DataW.trod enc P w base sp held m e ((cs.drop ((k + i) * ct)).take ct) = xs[i]?) -> LR sn ι us (cs.drop (k * ct))
 | [], k, us, hl, h, hx => by
  simp [ZlP] at h; subst h
  simp at hl
  simp [LR, hl]
 | x :: xs, k, us, hl, h, hx => by
  simp only [ZlP, List.map_cons] at h
  split at h <;> try (simp at h; done)
  rename_i u us' hu hus
  split at h <;> simp at h
  subst h
  have h0 := hx 0 (by simp)
  simp only [List.getElem?_cons_zero, Nat.add_zero] at h0
  have h1 := hf _ _ _ _ hu h0
  have h2 := Z8R hf cs xs (k + 1) _ (by rw [hl]; simp only [List.length_cons]; congr 1; omega) hus fun i hi => by
   have := hx (i + 1) (by simpa using hi)
   rw [show k + 1 + i = k + (i + 1) from by omega]
   simpa using this
  have := h1.append h2
  rwa [show (k + 1) * ct = k * ct + ct from by rw [Nat.add_mul]; simp, <- List.drop_drop, List.take_append_drop] at this
theorem Z69 : ∀ (n : Nat) (t : TypeId) (d : DataW H) (us : List AV) (m : Nat) (cs : List Value) (p : List MemPlace), Zhl P n t d = some us -> DataW.trod enc P w base sp held m t cs = some (d, p) -> LR sn ι us cs
 | 0, t, d, us, m, cs, p, h, ht => by simp [Zhl] at h
 | n + 1, t, d, us, m, cs, p, h, ht => by
  simp only [Zhl] at h
  split at h <;> try (simp at h; done)
  · rename_i b hu
    simp at h; subst h
    obtain ⟨b', rfl, hx⟩ := DataW.trod_bool hu ht
    simp at hx; simp [LR, VR, hx]
  · rename_i k k' z hu
    simp at h; subst h
    obtain ⟨z', rfl, hx, _⟩ := DataW.trod_int hu ht
    simp at hx; simp [LR, VR, hx]
  · rename_i s hu
    simp at h; subst h
    obtain ⟨s', rfl, hx, _⟩ := DataW.trod_string hu ht
    simp at hx; simp [LR, VR, hx]
  · rename_i fs ds hu
    obtain ⟨xs, m', rfl, hx, hl, hlen, hf⟩ := DataW.trod_struct hu ht
    simp at hx
    obtain ⟨rfl, _⟩ := hx
    have := Z8N (m := m') (fun t d us cs p h1 h2 => Z69 n t d us m' cs p h1 h2) cs hl fs.toList xs 0 us (by simpa using h) fun i fl hi => hf i fl (by simpa using hi)
    simpa using this
  · rename_i k e ds hu
    split at h <;> try (simp at h; done)
    rename_i hc
    simp only [Bool.and_eq_true] at hc
    obtain ⟨xs, m', rfl, hx, hl, hlen, hf⟩ := DataW.trod_array hu ht
    simp at hx
    obtain ⟨rfl, _⟩ := hx
    have e1 := Nat.eq_of_beq_eq_true hc.1
    have := Z8R (m := m') (ct := P.cellsOf e) (e := e) (fun d us cs p h1 h2 => Z69 n e d us m' cs p h1 h2) cs xs 0 us (by rw [hl, <- e1]; simp) (by simpa using h) fun i hi => by simpa using hf i (by omega)
    simpa using this
theorem Ze6 {W : World} {g : Nat} (hg : g < W.heap.size) : ∀ (us : List AV) (vs : List Value) (o : Nat), LR (Z2o W) noI us vs -> (∀ (i : Nat) (v : Value), vs[i]? = some v -> W.cell? ⟨g, o + i, none⟩ = some v) -> MR (Z2o W) us g o
 | [], vs, o, h, hc => by simp [MR]
 | u :: us, vs, o, h, hc => by
  simp only [LR] at h
  obtain ⟨d, ds, rfl, h1, h2⟩ := h
  simp only [MR]
  refine ⟨⟨d, ?_, h1⟩, Ze6 hg us ds (o + 1) h2 fun i v hi => ?_⟩
  · unfold Z2o; rw [if_pos hg]; simpa using hc 0 d rfl
  · rw [show o + 1 + i = o + (i + 1) from by omega]; exact hc (i + 1) v (by simpa using hi)
end av
theorem Z5q {P : Program} {W : World} {name : String} {d : DataW Unit} {g n : Nat} {t : TypeId} {us : List AV}
  (hg : P.globalNamed name = some g) (hty : (P.globals[g]?).map (·.type) = some t) (ha : Zhl P n t d = some us) {rest : List (String × DataW Unit)} {ps : List MemPlace} (h : DataW.LaidVars P W ((name, d) :: rest) ps) :
  MR (Z2o W) us g 0 /\ ∃ qs, DataW.LaidVars P W rest qs := by
 obtain ⟨g', t', cs, fuel, p, q, hg', ht', hvar, hd, hr, _⟩ := h
 obtain rfl := Option.some.inj (hg.symm.trans hg')
 obtain rfl := Option.some.inj (hty.symm.trans ht')
 have h1 : LR (Z2o W) noI us cs.toList := Z69 n t d us fuel cs.toList p ha hd
 have hb : g < W.heap.size := by
  simp only [World.var?, hg, Option.bind_some] at hvar
  split at hvar
  · rename_i hh; exact (Array.getElem?_eq_some_iff.1 hh).1
  · simp at hvar
 refine ⟨Ze6 hb us cs.toList 0 h1 fun i v hi => ?_, q, hr⟩
 rw [Nat.zero_add, World.var?_cell hg hvar]; simpa using hi
theorem Zes {H : Type} {enc : TypeId × Value -> H} {P : Program} {f : Func} {s : ChangeSpec} {Z5E fresh handsOn again : Bool} {W W' : World} {args : Array Value} {v : Value} {ds gs : List (DataW H)} {before pa pv : List MemPlace}
  (hW : DataW.Whole enc P f.params.toList s.vars Z5E W args.toList ds gs before)
  (hres : ∀ (b : Nat) (sp : Nat -> Bool) (hd : Bool), DataW.TrodAll enc P W' b sp hd f.resultTypes.toList (v.resultList f.resultTypes.size) (s.fn H (ds ++ gs)).results [])
  (hargs : ∀ sp : Nat -> Bool, (∀ p ∈ before, sp p.block = true) -> DataW.TrodAll enc P W' 0 sp true f.params.toList args.toList (s.fn H (ds ++ gs)).args pa)
  (hvars : ∀ sp : Nat -> Bool, (∀ p ∈ before, sp p.block = true) -> DataW.TrodVars enc P W' sp s.vars (s.fn H (ds ++ gs)).vars pv)
  (hps : before = pa ++ pv) (hb : Below W.heap.size W W')
  (hok : ∀ (j : Nat) (t : TypeId) (r : Value), f.resultTypes[j]? = some t -> (v.resultList f.resultTypes.size)[j]? = some r -> Value.okWide P W' .any 0 t r) :
  s.post enc P f Z5E fresh handsOn again W args v W' := by
 have hlt : ∀ p ∈ before, p.block < W.heap.size := fun p hp => hW.lt p hp
 have hold : ∀ p ∈ before, (fun b => decide (b < W.heap.size)) p.block = true := fun p hp => by simpa using hlt p hp
 have hW' := hW
 obtain ⟨_, _, _, _, _, hz, hn⟩ := hW'
 refine ⟨ds, gs, before, [], pa, pv, hW, hres _ _ _, hargs _ hold, hvars _ hold, hb.frame _, fun _ => ⟨hok, _, _, ([] ++ pa) ++ pv, ⟨[] ++ pa, pv, trodAll_append (hargs _ (fun _ _ => rfl)) (hres _ _ _), hvars _ (fun _ _ => rfl), rfl, ?_, ?_⟩, ?_⟩⟩
 · intro b off hp
   have hp' : MemPlace.cell b off ∈ before := by rw [hps]; simpa using hp
   rw [hb.frozen (hlt _ hp')]
   exact hz b off hp'
 · intro ha
   have := hn ha
   rw [hps] at this
   simpa using this
 · intro p hp _
   rw [hps]
   simpa using hp
end Go.Abs
end

section
namespace Go.Abs
open Go.RowKit
structure N8 (α : Type) where
 a0 : α
 a1 : α
 a2 : α
 a3 : α
 a4 : α
 a5 : α
 a6 : α
 a7 : α
structure Bx (α : Type) where
 v : α
def Tre (α : Type) : Nat -> Type
 | 0 => α
 | d + 1 => N8 (Tre α d)
noncomputable def Znc {α : Type} (k : Nat) : Bx (N8 α -> α) :=
 Nat.rec ⟨fun e => e.a0⟩ (fun k _ => Nat.rec ⟨fun e => e.a1⟩ (fun k _ => Nat.rec ⟨fun e => e.a2⟩ (fun k _ => Nat.rec ⟨fun e => e.a3⟩ (fun k _ => Nat.rec ⟨fun e => e.a4⟩ (fun k _ => Nat.rec ⟨fun e => e.a5⟩
  (fun k _ => Nat.rec ⟨fun e => e.a6⟩ (fun _ _ => ⟨fun e => e.a7⟩) k) k) k) k) k) k) k
noncomputable def Zng (α : Type) (d : Nat) : Nat -> Bx (Tre α d -> α) :=
 Nat.rec (motive := fun d => Nat -> Bx (Tre α d -> α)) (fun _ => ⟨fun e => e⟩) (fun d ih t => Bx.rec (fun g => Bx.rec (fun s => ⟨fun e => g (s e)⟩) (Znc (α := Tre α d) (Nat.mod t 8))) (ih (Nat.div t 8))) d
def BT (α : Type) : Nat -> Type
 | 0 => α
 | d + 1 => BT α d × BT α d
end Go.Abs
end

section
namespace Go.Abs
open Go.RowKit
structure TH where
 sz : Nat
 tr : BT AObj 12
abbrev Res := Option (AV × TH)
noncomputable def Zf4 {β : Type} (v : AV) : (AV -> β) -> β :=
 AV.rec (motive_1 := fun _ => (AV -> β) -> β) (motive_2 := fun _ => Unit) (fun b f => f (.bool b)) (fun k n f => f (.int k n)) (fun s f => f (.str s)) (fun f => f .nptr) (fun b o f => f (.ptr b o)) (fun cs _ f => f (.rp cs)) (fun f => f .nslice)
  (fun b o l c z f => f (.slice b o l c z)) (fun n z cs _ f => f (.rs n z cs)) (fun f => f .nmap) (fun b f => f (.map b)) (fun fn a b _ _ f => f (.func fn a b)) (fun f => f .nfunc) (fun t v _ f => f (.iface t v)) (fun f => f .niface)
  (fun cs _ f => f (.agg cs)) (fun vs _ f => f (.tuple vs)) () (fun _ _ _ _ => ()) v
theorem Z2X {β : Type} (v : AV) (f : AV -> β) : Zf4 v f = f v := by cases v <;> rfl
noncomputable def Znf {β : Type} (b : Bool) (x y : β) : β := Bool.rec y x b
end Go.Abs
end

section
namespace Go.Abs
open Go.RowKit
noncomputable def ZmA {β : Type} (n : Int) : (Int -> β) -> β := Int.rec (motive := fun _ => (Int -> β) -> β) (fun m f => Nat.rec (motive := fun _ => β) (f (.ofNat 0)) (fun m _ => f (.ofNat (Nat.succ m))) m) (fun m f => Nat.rec (motive := fun _ => β) (f (.negSucc 0)) (fun m _ => f (.negSucc (Nat.succ m))) m) n
noncomputable def Z9K {β : Type} (n : Nat) : (Nat -> β) -> β := Nat.rec (motive := fun _ => (Nat -> β) -> β) (fun f => f 0) (fun m _ f => f (Nat.succ m)) n
noncomputable def ZeL {β : Type} (b : Bool) : (Bool -> β) -> β := Bool.rec (motive := fun _ => (Bool -> β) -> β) (fun f => f false) (fun f => f true) b
theorem Z6Y {β : Type} (b : Bool) (f : Bool -> β) : ZeL b f = f b := by cases b <;> rfl
noncomputable def Zmy {β : Type} (s : List UInt8) : (List UInt8 -> β) -> β := List.rec (motive := fun _ => (List UInt8 -> β) -> β) (fun f => f []) (fun c _ ih f => ih fun l => f (c :: l)) s
noncomputable def Zmx {β : Type} (v : AV) : (AV -> β) -> β :=
 AV.rec (motive_1 := fun _ => (AV -> β) -> β) (motive_2 := fun _ => (List AV -> β) -> β) (fun b f => ZeL b fun b => f (.bool b)) (fun k n f => ZmA n fun n => f (.int k n)) (fun s f => Zmy s fun s => f (.str s)) (fun f => f .nptr)
  (fun b o f => Z9K b fun b => Z9K o fun o => f (.ptr b o)) (fun cs _ f => f (.rp cs)) (fun f => f .nslice)
  (fun b o l c z f => Z9K b fun b => Z9K o fun o => Z9K l fun l => Z9K c fun c => Z9K z fun z => f (.slice b o l c z)) (fun n z cs _ f => Z9K n fun n => f (.rs n z cs)) (fun f => f .nmap) (fun b f => Z9K b fun b => f (.map b))
  (fun fn _ _ iha ihb f => iha fun a => ihb fun b => f (.func fn a b)) (fun f => f .nfunc) (fun t _ ih f => ih fun v => f (.iface t v)) (fun f => f .niface)
  (fun _ ih f => ih fun cs => f (.agg cs)) (fun _ ih f => ih fun vs => f (.tuple vs)) (fun f => f []) (fun _ _ ihv ihl f => ihv fun v => ihl fun l => f (v :: l)) v
noncomputable def Znj (gl : Z0l) (d n : Nat) (x : Operand) : Option (Tre AV d -> AV) :=
 match x with
 | .tmp t => Znf (Nat.blt t n) (Bx.rec (fun g => some g) (Zng AV d t)) none
 | .const v => match ofV v with | some c => Zmx c fun c => some fun _ => c | none => none
 | .global g => match gl g with | some cs => some fun _ => .rp cs | none => none
 | .func f => some fun _ => .func (.func f) [] []
end Go.Abs
end

section
namespace Go.Abs
open Go.RowKit
section ops
variable {P : Program} {gl : Z0l} {d n : Nat} {o : Oper}
noncomputable def cargs (gl : Z0l) (d n : Nat) : List Operand -> Option (Tre AV d -> (List AV -> Res) -> Res)
 | [] => some fun _ f => f []
 | x :: l => match Znj gl d n x, cargs gl d n l with | some g, some G => some fun E f => Zf4 (g E) fun v => G E fun vs => f (v :: vs) | _, _ => none
end ops
end Go.Abs
end

section
namespace Go.Abs
open Go.RowKit
theorem Z7b : ∀ {t : Tr} {n : Nat}, tex t n = true -> ∀ v, ∃ t', Zee t n v = some t'
 | .leaf, n, h, v => by simp [tex] at h
 | .node x l r, 0, h, v => by
  cases x with
  | none => simp [tex] at h
  | some y => exact ⟨_, rfl⟩
 | .node x l r, n + 1, h, v => by
  simp only [tex] at h
  simp only [Zee]
  split at h
  · rename_i e
    obtain ⟨t', h'⟩ := Z7b (t := l) h v
    simp only [e, h']; exact ⟨_, rfl⟩
  · rename_i e
    obtain ⟨t', h'⟩ := Z7b (t := r) h v
    cases hm : Nat.mod n 2 with
    | zero => exact (e hm).elim
    | succ m => simp only [h']; exact ⟨_, rfl⟩
end Go.Abs
end

section
namespace Go.Abs
open Go.RowKit
mutual
theorem Z3n : ∀ v : AV, veq v v = true
 | .bool b => by simp [veq]
 | .int k n => by simp [veq]
 | .str s => by simp [veq]
 | .nptr => rfl
 | .ptr b o => by simp [veq]
 | .rp cs => by simp [veq, veqL_refl cs]
 | .nslice => rfl
 | .slice b o l c z => by simp [veq]
 | .rs n z cs => by simp [veq, veqL_refl cs]
 | .nmap => rfl
 | .map b => by simp [veq]
 | .func f a b => by simp [veq, veqL_refl a, veqL_refl b]
 | .nfunc => rfl
 | .iface t v => by simp [veq, Z3n v]
 | .niface => rfl
 | .agg cs => by simp [veq, veqL_refl cs]
 | .tuple vs => by simp [veq, veqL_refl vs]
theorem veqL_refl : ∀ l : List AV, veqL l l = true
 | [] => rfl
 | v :: l => by simp [veqL, Z3n v, veqL_refl l]
end
end Go.Abs
end

section
namespace Go.Abs
open Go.RowKit
theorem Z5U {vals vals' : List (Option AV)} {D : Nat -> Bool} {t : Nat} : ∀ (l : List Oper) (i : Nat) (acc : Option AV), (∀ k, D k = true -> vals[k]? = vals'[k]?) -> Z1p vals D t l i acc = Z1p vals' D t l i acc
 | [], i, acc, h => rfl
 | o :: l, i, acc, h => by
  simp only [Z1p]
  by_cases e : D i = true
  · rw [h i e]; exact Z5U l (i + 1) _ h
  · have e2 : D i = false := by cases hq : D i with | false => rfl | true => exact absurd hq e
    rw [e2]; simp only [Bool.and_false, Bool.false_eq_true, if_false]
    exact Z5U l (i + 1) _ h
theorem Zd4 {dst : Option Tmp} {v : AV} {tm tm1 : Tr} {o : Oper} (ho : o.dst = dst) (hp : Z5L dst v tm = some tm1) (t : Nat) : Z1u tm1 t = if Z2B o t = true then some v else Z1u tm t := by
 unfold Z2B
 rw [ho]
 cases dst with
 | none => simp [Z5L] at hp; subst hp; simp
 | some d =>
  obtain ⟨h3, h4, _⟩ := Z3o _ _ _ _ hp
  rw [h4]
  by_cases e : t = d
  · simp [e]
  · rw [if_neg e, if_neg]; simpa using Ne.symm e
theorem Zd2 {dst : Option Tmp} {v : AV} {tm tm1 : Tr} (hp : Z5L dst v tm = some tm1) (t : Nat) : tex tm1 t = tex tm t := by
 cases dst with
 | none => simp [Z5L] at hp; subst hp; rfl
 | some d => exact (Z3o _ _ _ _ hp).2.2 t
theorem Ziw {m i : Nat} (h : m + 1 = 2 ^ i) (k : Nat) : bit m k = decide (k < i) := by
 have : m = 2 ^ i - 1 := by omega
 rw [Z5C, this, Nat.testBit_two_pow_sub_one]
structure VInv (ops : List Oper) (an : List Nat) (tm : Tr) (vals : List (Option AV)) (done : Nat) (tmc : Tr) : Prop where
 vlen : vals.length = ops.length
 known : ∀ k, bit done k = true -> ∃ v, vals[k]? = some (some v)
 unk : ∀ k, bit done k = false -> ∀ v, vals[k]? = some (some v) -> False
 cls : ∀ k j, bit done k = true -> bit (an.getD k 0) j = true -> bit done j = true
 cur : ∀ t, Z1p vals (bit done) t ops 0 (Z1u tm t) = Z1u tmc t
 dst : ∀ k o d, bit done k = true -> ops[k]? = some o -> o.dst = some d -> ∃ x, Z1u tmc d = some x
theorem VInv.start (ops : List Oper) (an : List Nat) (tm : Tr) : VInv ops an tm (Z1x ops) 0 tm :=
 ⟨Z1J ops, fun k h => (by rw [Z1M] at h; cases h), fun k _ v h => Z2I ops k v h, fun k j h => (by rw [Z1M] at h; cases h), fun t => Z4i _ _ _ fun k o _ _ => Z1M _, fun k o d h => (by rw [Z1M] at h; cases h)⟩
theorem VInv.vle {ops : List Oper} {an : List Nat} {tm tmc : Tr} {i : Nat} {vals : List (Option AV)} {done : Nat} (h : VInv ops an tm vals done tmc) (hi : bit done i = false) (r : AV) : VLe vals (vals.set i (some r)) :=
 Zc0 fun u hu => h.unk i hi u hu
theorem Z5B (m i k : Nat) : bit (Nat.lor m (2 ^ i)) k = (bit m k || Nat.beq k i) := by
 rw [Za4, Zcn]
 congr 1
 by_cases e : i = k
 · subst e; simp
 · rw [decide_eq_false e]
   cases hq : Nat.beq k i with
   | false => rfl
   | true => exact absurd (Nat.eq_of_beq_eq_true hq).symm e
theorem VInv.next {ops : List Oper} {an : List Nat} {tm tmc tm1 : Tr} {i : Nat} {vals : List (Option AV)} {done : Nat} (h : VInv ops an tm vals done tmc) {o : Oper} (ho : ops[i]? = some o) {r : AV} (hp : Z5L o.dst r tmc = some tm1)
  (hi : bit done i = false) (han : ∀ k, bit (an.getD i 0) k = true -> bit done k = true) (hb : an.getD i 0 < 2 ^ i) (htm : Z1l ops an i o = true) : VInv ops an tm (vals.set i (some r)) (Nat.lor done (2 ^ i)) tm1 := by
 have hil : i < ops.length := (List.getElem?_eq_some_iff.1 ho).1
 have hself : (vals.set i (some r))[i]? = some (some r) := by rw [List.getElem?_set, if_pos rfl, if_pos (by rw [h.vlen]; exact hil)]
 have hne : ∀ k, bit done k = true -> k ≠ i := fun k hk e => by subst e; rw [hi] at hk; cases hk
 refine ⟨by rw [List.length_set, h.vlen], ?_, ?_, ?_, ?_, ?_⟩
 · intro k hk
   rw [Z5B, Bool.or_eq_true] at hk
   by_cases e : k = i
   · subst e; exact ⟨r, hself⟩
   · rw [List.getElem?_set, if_neg (Ne.symm e)]
     rcases hk with hk | hk
     · exact h.known k hk
     · exact absurd (Nat.eq_of_beq_eq_true hk) e
 · intro k hk v hv
   rw [Z5B, Bool.or_eq_false_iff] at hk
   have e : k ≠ i := fun e => by subst e; simp at hk
   rw [List.getElem?_set, if_neg (Ne.symm e)] at hv
   exact h.unk k hk.1 v hv
 · intro k j hk hj
   rw [Z5B, Bool.or_eq_true] at hk ⊢
   rcases hk with hk | hk
   · exact .inl (h.cls k j hk hj)
   · have := Nat.eq_of_beq_eq_true hk; subst this
     exact .inl (han j hj)
 · intro t
   rw [Z7y ops 0 _ o (j := i) ho (by rw [Nat.zero_add]; exact hself) (D := bit done) (fun k => by rw [Nat.zero_add]; exact Z5B done i k) (fun k x hx hd1 hd2 hlt => by
       rw [Nat.zero_add]
       cases hq : bit done k with
       | false => rfl
       | true =>
        exfalso
        simp only [Z1l, Bool.and_eq_true] at htm
        have hw : Z32 an i t ops 0 = true := by
         unfold Z2B at hd1
         cases hd : o.dst with
         | none => rw [hd] at hd1; cases hd1
         | some d => rw [hd] at hd1; have := Nat.eq_of_beq_eq_true hd1; subst this; have := htm.2; rw [hd] at this; exact this
        rcases Z1s ops 0 k x hw hx hd2 with h1 | h1 | h1
        · omega
        · rw [Nat.zero_add] at h1; have := ZgQ hb h1; omega
        · rw [Nat.zero_add] at h1
          have := h.cls k i hq h1
          rw [hi] at this; cases this) (by rw [Nat.zero_add]; exact hi)]
   rw [Zd4 rfl hp t]
   rw [Z5U (vals' := vals) ops 0 _ (fun k hk => by rw [List.getElem?_set, if_neg (Ne.symm (hne k hk))]), h.cur t]
 · intro k x dd hk hx hd
   rw [Zd4 rfl hp dd]
   split
   · exact ⟨r, rfl⟩
   · rename_i hnd
     rw [Z5B, Bool.or_eq_true] at hk
     rcases hk with hk | hk
     · exact h.dst k x dd hk hx hd
     · have := Nat.eq_of_beq_eq_true hk; subst this
       have : x = o := by rw [ho] at hx; simpa using hx.symm
       subst this
       exact absurd (by simp [Z2B, hd]) hnd
theorem Z6u {vals : List (Option AV)} : ∀ (l : List Oper) (i : Nat) (tm : Tr), (∀ k, k < l.length -> ∃ v, vals[i + k]? = some (some v)) -> (∀ o ∈ l, ∀ d, o.dst = some d -> tex tm d = true) -> ∃ tm', Z1I vals l i tm = some tm'
 | [], i, tm, hv, hd => ⟨tm, rfl⟩
 | o :: l, i, tm, hv, hd => by
  obtain ⟨v, hv0⟩ := hv 0 (by simp)
  simp only [Nat.add_zero] at hv0
  have hp : ∃ tm1, Z5L o.dst v tm = some tm1 := by
   cases hdo : o.dst with
   | none => exact ⟨tm, rfl⟩
   | some d => exact Z7b (hd o (by simp) d hdo) v
  obtain ⟨tm1, hp⟩ := hp
  obtain ⟨tm', h'⟩ := Z6u l (i + 1) tm1 (fun k hk => by have := hv (k + 1) (by simpa using hk); rwa [show i + (k + 1) = i + 1 + k from by omega] at this) (fun x hx d hdx => by
   rw [Zd2 hp d]; exact hd x (by simp [hx]) d hdx)
  exact ⟨tm', by simp only [Z1I, hv0, hp, h']⟩
theorem Zi5 {a m : Nat} (h : Nat.beq (Nat.land a m) a = true) : ∀ k, bit a k = true -> bit m k = true := by
 intro k hk
 have e := Nat.eq_of_beq_eq_true h
 have e' : (a &&& m) = a := e
 rw [Z5C] at hk ⊢
 rw [<- e', Nat.testBit_and, Bool.and_eq_true] at hk
 exact hk.2
end Go.Abs
end

section
namespace Go.Abs
open Go.RowKit
def onO {α : Type} (o : Option α) (k : α -> Prop) : Prop := match o with | some v => k v | none => False
theorem Z03 {α : Type} {o : Option α} {k : α -> Prop} (h : onO o k) : ∃ v, o = some v /\ k v := by
 cases o with
 | none => exact h.elim
 | some v => exact ⟨v, rfl, h⟩
section W
variable (P : Program)
def rdW (H : Z00) (a : AV) (n : Nat) (k : List AV -> Prop) : Prop :=
 match a with
 | .ptr b off => onO H[b]? fun o => match o.alive, o.body with
  | true, .cells cs _ => ∃ r, tk n (cs.drop off) = some r /\ k r
  | _, _ => False
 | .rp cs => ∃ r, tk n cs = some r /\ k r
 | _ => False
theorem ZiQ {H : Z00} {a : AV} {n : Nat} {k : List AV -> Prop} (h : rdW H a n k) : ∃ r, rd H a n = some r /\ k r := by
 unfold rdW at h
 unfold rd
 split at h
 · rename_i b off
   obtain ⟨o, ho, h⟩ := Z03 h
   simp only [ho]
   split at h
   · rename_i e1 e2; simp only [e1, e2]; exact h
   · exact h.elim
 · exact h
 · exact h.elim
def Zk8 (t : TypeId) (a : AV) (H : Z00) (k : AV -> Prop) : Prop :=
 match Z47 P t with
 | some true => onO (tsz P t) fun n => rdW H a n fun cs => k (.agg cs)
 | some false => rdW H a 1 fun cs => match cs with | [c] => Zf4 c k | _ => False
 | none => False
theorem Zi0 {t : TypeId} {a : AV} {H : Z00} {k : AV -> Prop} (h : Zk8 P t a H k) : ∃ r, Zcp P t a H = some r /\ k r := by
 unfold Zk8 at h
 unfold Zcp
 split at h
 · rename_i e
   obtain ⟨n, hn, h⟩ := Z03 h
   obtain ⟨cs, h1, h2⟩ := ZiQ h
   simp only [e, hn, h1]; exact ⟨_, rfl, h2⟩
 · rename_i e
   obtain ⟨cs, h1, h2⟩ := ZiQ h
   simp only [e, h1]
   split at h2
   · rw [Z2X] at h2; exact ⟨_, rfl, h2⟩
   · exact h2.elim
 · exact h.elim
def Z6H (e : TypeId -> AV -> AV -> Option Bool) (P : Program) : List (TypeId × Nat) -> List AV -> List AV -> Option Bool
 | [], _, _ => some true
 | (t, off) :: fs, xs, ys =>
  match Z5E P t xs off, Z5E P t ys off with
  | some a, some b => match e t a b, Z6H e P fs xs ys with
   | some x, some y => some (x && y)
   | _, _ => none
  | _, _ => none
def eqB (P : Program) : Nat -> TypeId -> AV -> AV -> Option Bool
 | 0, _, _, _ => none
 | d + 1, t, x, y =>
  match x, y with
  | .agg xs, .agg ys => match Z2g P t with | some fs => Z6H (eqB P d) P fs xs ys | none => none
  | x, y => aEq P (d + 1) t x y
theorem ZdJ {e e' : TypeId -> AV -> AV -> Option Bool} (he : ∀ t x y b, e t x y = some b -> e' t x y = some b) : ∀ (fs : List (TypeId × Nat)) (xs ys : List AV) (b : Bool), Z6H e P fs xs ys = some b -> ZkA e' P fs xs ys = some b
 | [], xs, ys, b, h => h
 | (t, off) :: fs, xs, ys, b, h => by
  simp only [Z6H] at h
  simp only [ZkA]
  split at h <;> try (simp at h; done)
  rename_i a c ha hc
  split at h <;> simp at h
  rename_i x y hx hy
  simp only [ha, hc, he _ _ _ _ hx]
  cases x with
  | true => simp at h; subst h; exact ZdJ he fs xs ys _ hy
  | false => simp at h; subst h; rfl
theorem Zjc : ∀ (d : Nat) (t : TypeId) (x y : AV) (b : Bool), eqB P d t x y = some b -> aEq P d t x y = some b
 | 0, t, x, y, b, h => by simp [eqB] at h
 | d + 1, t, x, y, b, h => by
  unfold eqB at h
  split at h
  · split at h <;> try (simp at h; done)
    rename_i fs hfs
    simp only [aEq, hfs]
    exact ZdJ P (fun t x y b h => Zjc d t x y b h) fs _ _ b h
  · exact h
def Zaa (P : Program) (t : TypeId) (a b : List AV) : Option Bool := if P.eqGuardType P.depth t then none else eqB P 10000 t (.agg a) (.agg b)
def ZmN (op : BinOp) (t : TypeId) (c : Bool) (u v : AV) (k : AV -> Prop) : Prop :=
 match u, v with
 | .int kx a, .int ky b => match op with
  | .quo => if kx = ky then b ≠ 0 /\ k (.int kx (kx.wrap (a.tdiv b))) else False
  | .rem => if kx = ky then b ≠ 0 /\ k (.int kx (a.tmod b)) else False
  | .add => if kx = ky then ∃ n, kx.wrap (a + b) = n /\ k (.int kx n) else False
  | .sub => if kx = ky then ∃ n, kx.wrap (a - b) = n /\ k (.int kx n) else False
  | .mul => if kx = ky then ∃ n, kx.wrap (a * b) = n /\ k (.int kx n) else False
  | .shl => 0 <= b /\ k (.int kx (kx.wrap (a * 2 ^ (min b.toNat kx.bits))))
  | .shr => 0 <= b /\ k (.int kx (a.fdiv (2 ^ (min b.toNat kx.bits))))
  | op => if kx = ky then onO (Z3A op kx a b) k else False
 | .str a, .str b => match op with
  | .add => a.length + b.length <= 9223372036854775807 /\ k (.str (a ++ b))
  | op => onO (Z87 op a b) k
 | .agg a, .agg b => match op with
  | .eql => ∃ r, Zaa P t a b = some r /\ k (.bool r)
  | .neq => ∃ r, Zaa P t a b = some r /\ k (.bool !r)
  | _ => False
 | u, v => onO (Z43 P op t c u v) k
theorem ZkI {op : BinOp} {t : TypeId} {c : Bool} {u v : AV} {k : AV -> Prop} (h : ZmN P op t c u v k) : ∃ r, Z43 P op t c u v = some r /\ k r := by
 unfold ZmN at h
 split at h
 · rename_i kx a ky b
   split at h
   · split at h
     · rename_i e; subst e; exact ⟨_, by simp [Z43, ZbO, Z3A, h.1], h.2⟩
     · exact h.elim
   · split at h
     · rename_i e; subst e; exact ⟨_, by simp [Z43, ZbO, Z3A, h.1], h.2⟩
     · exact h.elim
   · split at h
     · rename_i e; subst e; obtain ⟨n, rfl, h⟩ := h; exact ⟨_, by simp [Z43, ZbO, Z3A], h⟩
     · exact h.elim
   · split at h
     · rename_i e; subst e; obtain ⟨n, rfl, h⟩ := h; exact ⟨_, by simp [Z43, ZbO, Z3A], h⟩
     · exact h.elim
   · split at h
     · rename_i e; subst e; obtain ⟨n, rfl, h⟩ := h; exact ⟨_, by simp [Z43, ZbO, Z3A], h⟩
     · exact h.elim
   · exact ⟨_, by simp only [Z43, ZbO]; rw [if_neg (by omega)], h.2⟩
   · exact ⟨_, by simp only [Z43, ZbO]; rw [if_neg (by omega)], h.2⟩
   · rename_i o1 o2 o5 o6 o7 o3 o4
     split at h
     · rename_i e; subst e
       obtain ⟨r, h1, h2⟩ := Z03 h
       refine ⟨r, ?_, h2⟩
       simp only [Z43, ZbO]
       cases op with
       | shl => exact (o3 rfl).elim
       | shr => exact (o4 rfl).elim
       | _ => simpa using h1
     · exact h.elim
 · split at h
   · exact ⟨_, by simp [Z43, ZbO, Z87, h.1], h.2⟩
   · obtain ⟨r, h1, h2⟩ := Z03 h
     exact ⟨r, by simp only [Z43, ZbO]; exact h1, h2⟩
 · have key : ∀ {x y : List AV} {r : Bool}, Zaa P t x y = some r -> ¬ P.eqGuardType P.depth t = true /\ aEq P 10000 t (.agg x) (.agg y) = some r := by
    intro x y r h1
    unfold Zaa at h1
    split at h1
    · cases h1
    · rename_i hg; exact ⟨hg, Zjc P _ _ _ _ _ h1⟩
   split at h
   · obtain ⟨r, h1, h2⟩ := h
     exact ⟨_, by simp only [Z43, ZbO]; rw [if_neg (key h1).1, (key h1).2], h2⟩
   · obtain ⟨r, h1, h2⟩ := h
     exact ⟨_, by simp only [Z43, ZbO]; rw [if_neg (key h1).1, (key h1).2], h2⟩
   · exact h.elim
 · exact Z03 h
def Zmu (t : TypeId) (x i : AV) (k : AV -> Prop) : Prop :=
 match i with
 | .int _ i => match P.underlying t with
  | some (.slice e) => onO (tsz P e) fun z' => match x with
   | .slice b off len _ z => ∃ j : Nat, (i = (j : Int) /\ j < len) /\ (if z' = z then k (.ptr b (off + j * z)) else False)
   | .rs n z cs => ∃ j : Nat, (i = (j : Int) /\ j < n) /\ (if z' = z then k (.rp (cs.drop (j * z))) else False)
   | _ => False
  | some (.array n e) => onO (tsz P e) fun z => ∃ j : Nat, (i = (j : Int) /\ j < n) /\ (match x with
   | .ptr b off => k (.ptr b (off + j * z))
   | .rp cs => k (.rp (cs.drop (j * z)))
   | _ => False)
  | _ => False
 | _ => False
theorem Zkf {t : TypeId} {x i : AV} {k : AV -> Prop} (h : Zmu P t x i k) : ∃ r, Z3k P t x i = some r /\ k r := by
 unfold Zmu at h
 unfold Z3k
 split at h
 · split at h
   · rename_i e
     obtain ⟨z', hz, h1⟩ := Z03 h
     clear h
     simp only [e, hz]
     split at h1
     · obtain ⟨j, ⟨ej, hb⟩, h2⟩ := h1
       subst ej
       simp only
       rw [if_pos (by omega), Int.toNat_natCast]
       split at h2
       · rename_i hq; rw [if_pos hq]; exact ⟨_, rfl, h2⟩
       · exact h2.elim
     · obtain ⟨j, ⟨ej, hb⟩, h2⟩ := h1
       subst ej
       simp only
       rw [if_pos (by omega), Int.toNat_natCast]
       split at h2
       · rename_i hq; rw [if_pos hq]; exact ⟨_, rfl, h2⟩
       · exact h2.elim
     · exact h1.elim
   · rename_i e
     obtain ⟨z', hz, h1⟩ := Z03 h
     clear h
     simp only [e, hz]
     obtain ⟨j, ⟨ej, hb⟩, h2⟩ := h1
     subst ej
     rw [if_pos (by omega), Int.toNat_natCast]
     split at h2
     · exact ⟨_, rfl, h2⟩
     · exact ⟨_, rfl, h2⟩
     · exact h2.elim
   · exact h.elim
 · exact h.elim
def ixW (t : TypeId) (x i : AV) (k : AV -> Prop) : Prop :=
 match i with
 | .int _ i => match x with
  | .str s => match P.underlying t with
   | some .string => ∃ j : Nat, i = (j : Int) /\ ∃ b, s[j]? = some b /\ k (.int .u8 b.toNat)
   | _ => False
  | .agg cs => match P.underlying t with
   | some (.array n e) => onO (tsz P e) fun z => (0 <= i /\ i < (n : Int)) /\ ∃ r, Z5E P e cs (i.toNat * z) = some r /\ k r
   | _ => False
  | _ => False
 | _ => False
theorem ZlH {t : TypeId} {x i : AV} {k : AV -> Prop} (h : ixW P t x i k) : ∃ r, Zbx P t x i = some r /\ k r := by
 unfold ixW at h
 unfold Zbx
 split at h
 · split at h
   · split at h
     · rename_i e
       obtain ⟨j, rfl, b, h2, h3⟩ := h
       simp only [e]
       rw [if_pos (by omega), Int.toNat_natCast, h2]; exact ⟨_, rfl, h3⟩
     · exact h.elim
   · split at h
     · rename_i e
       obtain ⟨z, hz, hb, r, h1, h2⟩ := Z03 h
       simp only [e, hz]
       rw [if_pos hb]; exact ⟨r, h1, h2⟩
     · exact h.elim
   · exact h.elim
 · exact h.elim
def Zf6 (x : Option AV) (dflt top : Nat) (k : Nat -> Prop) : Prop :=
 match x with
 | none => k dflt
 | some (.int _ i) => ∃ j : Nat, (i = (j : Int) /\ j <= top) /\ k j
 | _ => False
theorem Z30 {x : Option AV} {d top : Nat} {k : Nat -> Prop} (h : Zf6 x d top k) : ∃ n, bnd x d top = some n /\ k n := by
 unfold Zf6 at h
 unfold bnd
 split at h
 · exact ⟨_, rfl, h⟩
 · obtain ⟨j, ⟨rfl, hb⟩, h⟩ := h
   simp only; rw [if_pos (by omega), Int.toNat_natCast]; exact ⟨_, rfl, h⟩
 · exact h.elim
def Zfx (t : TypeId) (x : AV) (lo hi : Option AV) (k : AV -> Prop) : Prop :=
 match x with
 | .str s => match P.underlying t with
  | some .string => match lo, hi with
   | none, none => k (.str s)
   | some lo, none => Zf6 (some lo) 0 s.length fun l => k (.str (s.drop l))
   | none, some hi => Zf6 (some hi) s.length s.length fun h => k (.str (s.take h))
   | some lo, some hi => Zf6 (some hi) s.length s.length fun h => Zf6 (some lo) 0 h fun l => k (.str ((s.drop l).take (h - l)))
  | _ => False
 | .slice b off len cap z => match P.underlying t with
  | some (.slice e) => onO (tsz P e) fun z' => if z' = z then Zf6 hi len cap fun h => Zf6 lo 0 h fun l => k (.slice b (off + l * z) (h - l) (cap - l) z) else False
  | _ => False
 | .rs n z cs => match P.underlying t with
  | some (.slice e) => onO (tsz P e) fun z' => if z' = z then Zf6 hi n n fun h => Zf6 lo 0 h fun l => k (.rs (h - l) z ((cs.drop (l * z)).take ((h - l) * z))) else False
  | _ => False
 | .nslice => match P.underlying t with
  | some (.slice e) => onO (tsz P e) fun _ => Zf6 hi 0 0 fun h => Zf6 lo 0 h fun l => k .nslice
  | _ => False
 | _ => False
theorem Zfw {t : TypeId} {x : AV} {lo hi : Option AV} {k : AV -> Prop} (h : Zfx P t x lo hi k) : ∃ r, Zbv P t x lo hi = some r /\ k r := by
 unfold Zfx at h
 unfold Zbv
 split at h
 · split at h
   · rename_i e
     split at h
     · simp only [e, bnd]; exact ⟨_, rfl, by simpa using h⟩
     · obtain ⟨b, h2, h⟩ := Z30 h
       simp only [e]
       rw [show bnd none _ _ = some _ from rfl]
       simp only [h2]
       exact ⟨_, rfl, by rw [List.take_of_length_le (by simp)]; exact h⟩
     · obtain ⟨b, h2, h⟩ := Z30 h
       simp only [e, h2]
       rw [show bnd none 0 b = some 0 from rfl]
       exact ⟨_, rfl, by simpa using h⟩
     · obtain ⟨a, h1, h⟩ := Z30 h
       obtain ⟨b, h2, h⟩ := Z30 h
       simp only [e, h1, h2]; exact ⟨_, rfl, h⟩
   · exact h.elim
 · split at h
   · rename_i e
     obtain ⟨z', hz, h⟩ := Z03 h
     split at h
     · rename_i ez
       obtain ⟨a, h1, h⟩ := Z30 h
       obtain ⟨b, h2, h⟩ := Z30 h
       simp only [e, hz]; rw [if_pos ez]; simp only [h1, h2]; exact ⟨_, rfl, h⟩
     · exact h.elim
   · exact h.elim
 · split at h
   · rename_i e
     obtain ⟨z', hz, h⟩ := Z03 h
     split at h
     · rename_i ez
       obtain ⟨a, h1, h⟩ := Z30 h
       obtain ⟨b, h2, h⟩ := Z30 h
       simp only [e, hz]; rw [if_pos ez]; simp only [h1, h2]; exact ⟨_, rfl, h⟩
     · exact h.elim
   · exact h.elim
 · split at h
   · rename_i e
     obtain ⟨z', hz, h⟩ := Z03 h
     obtain ⟨a, h1, h⟩ := Z30 h
     obtain ⟨b, h2, h⟩ := Z30 h
     simp only [e, hz, h1, h2]; exact ⟨_, rfl, h⟩
   · exact h.elim
 · exact h.elim
def Z6D (ρ : Operand -> Option AV) (H : Z00) (o : Oper) (k : AV -> Prop) : Prop :=
 match o.op with
 | .move x => onO (ρ x) fun v => Zf4 v k
 | .assign x => onO (ρ x) fun v => Zf4 v k
 | .pick c a b => onO (ρ c) fun c => match c with
  | .bool c => (c = true -> onO (ρ a) fun v => Zf4 v k) /\ (c = false -> onO (ρ b) fun v => Zf4 v k)
  | _ => False
 | .load t a => onO (ρ a) fun a => Zk8 P t a H k
 | .binOp op t x y _ => onO (ρ x) fun u => onO (ρ y) fun v => ZmN P op t (isC x || isC y) u v k
 | .indexAddr t x i => onO (ρ x) fun u => onO (ρ i) fun v => Zmu P t u v k
 | .index t x i => onO (ρ x) fun u => onO (ρ i) fun v => ixW P t u v k
 | .slice t x lo hi none => onO (ρ x) fun u => onO (Zhm ρ lo) fun lo => onO (Zhm ρ hi) fun hi => Zfx P t u lo hi k
 | .lookup t m key ok => onO (ρ m) fun m => onO (ρ key) fun key => ∃ r, Zah P t m key ok H = some r /\ k r
 | .convert s d _ => match Zbz P s d with
  | true => ∃ r, Z0y P ρ H o = some r /\ k r
  | false => onO (Z0y P ρ H o) fun r => Zf4 r k
 | _ => onO (Z0y P ρ H o) fun r => Zf4 r k
theorem Z3q {ρ : Operand -> Option AV} {H : Z00} {o : Oper} {k : AV -> Prop} (h : Z6D P ρ H o k) : ∃ r, Z0y P ρ H o = some r /\ k r := by
 unfold Z6D at h
 unfold Z0y Z3w
 split at h
 · rename_i e; obtain ⟨v, h1, h⟩ := Z03 h; rw [Z2X] at h; exact ⟨v, by simp only [e]; exact h1, h⟩
 · rename_i e; obtain ⟨v, h1, h⟩ := Z03 h; rw [Z2X] at h; exact ⟨v, by simp only [e]; exact h1, h⟩
 · rename_i e; obtain ⟨c, h1, h⟩ := Z03 h
   split at h
   · rename_i c b'
     cases b' with
     | true => obtain ⟨v, h2, h⟩ := Z03 (h.1 rfl); rw [Z2X] at h; exact ⟨v, by simp only [e, h1]; exact h2, h⟩
     | false => obtain ⟨v, h2, h⟩ := Z03 (h.2 rfl); rw [Z2X] at h; exact ⟨v, by simp only [e, h1]; exact h2, h⟩
   · exact h.elim
 · rename_i e; obtain ⟨v, h1, h⟩ := Z03 h; obtain ⟨r, h2, h⟩ := Zi0 P h; exact ⟨r, by simp only [e, h1]; exact h2, h⟩
 · rename_i e; obtain ⟨u, h1, h⟩ := Z03 h; obtain ⟨v, h2, h⟩ := Z03 h; obtain ⟨r, h3, h⟩ := ZkI P h; exact ⟨r, by simp only [e, h1, h2]; exact h3, h⟩
 · rename_i e; obtain ⟨u, h1, h⟩ := Z03 h; obtain ⟨v, h2, h⟩ := Z03 h; obtain ⟨r, h3, h⟩ := Zkf P h; exact ⟨r, by simp only [e, h1, h2]; exact h3, h⟩
 · rename_i e; obtain ⟨u, h1, h⟩ := Z03 h; obtain ⟨v, h2, h⟩ := Z03 h; obtain ⟨r, h3, h⟩ := ZlH P h; exact ⟨r, by simp only [e, h1, h2]; exact h3, h⟩
 · rename_i e; obtain ⟨u, h1, h⟩ := Z03 h; obtain ⟨v, h2, h⟩ := Z03 h; obtain ⟨x, h3, h⟩ := Z03 h; obtain ⟨r, h4, h⟩ := Zfw P h; exact ⟨r, by simp only [e, h1, h2, h3]; exact h4, h⟩
 · rename_i e; obtain ⟨u, h1, h⟩ := Z03 h; obtain ⟨v, h2, h⟩ := Z03 h; obtain ⟨r, h3, h⟩ := h; exact ⟨r, by simp only [e, h1, h2]; exact h3, h⟩
 · rename_i e
   split at h
   · obtain ⟨r, h1, h⟩ := h
     exact ⟨r, by simpa only [Z0y, Z3w] using h1, h⟩
   · obtain ⟨r, h1, h⟩ := Z03 h
     rw [Z2X] at h
     exact ⟨r, by simpa only [Z0y, Z3w] using h1, h⟩
 · obtain ⟨r, h1, h⟩ := Z03 h
   rw [Z2X] at h
   exact ⟨r, by simpa only [Z0y, Z3w] using h1, h⟩
noncomputable def Z5X (n : Nat) (k : Nat -> Prop) : Prop :=
 Nat.rec (motive := fun _ => Prop) (k 0) (fun m0 _ => Nat.rec (motive := fun _ => Prop) (k 1) (fun m1 _ => Nat.rec (motive := fun _ => Prop) (k 2) (fun m2 _ => Nat.rec (motive := fun _ => Prop) (k 3) (fun m3 _ => Nat.rec (motive := fun _ => Prop) (k 4) (fun m4 _ => Nat.rec (motive := fun _ => Prop) (k 5) (fun m5 _ => Nat.rec (motive := fun _ => Prop) (k 6) (fun m6 _ => Nat.rec (motive := fun _ => Prop) (k 7) (fun m7 _ => Nat.rec (motive := fun _ => Prop) (k 8) (fun m8 _ => Nat.rec (motive := fun _ => Prop) (k 9) (fun m9 _ => Nat.rec (motive := fun _ => Prop) (k 10) (fun m10 _ => Nat.rec (motive := fun _ => Prop) (k 11) (fun m11 _ => Nat.rec (motive := fun _ => Prop) (k 12) (fun m12 _ => Nat.rec (motive := fun _ => Prop) (k 13) (fun m13 _ => Nat.rec (motive := fun _ => Prop) (k 14) (fun m14 _ => Nat.rec (motive := fun _ => Prop) (k 15) (fun m15 _ => Nat.rec (motive := fun _ => Prop) (k 16) (fun m16 _ => Nat.rec (motive := fun _ => Prop) (k 17) (fun m17 _ => Nat.rec (motive := fun _ => Prop) (k 18) (fun m18 _ => Nat.rec (motive := fun _ => Prop) (k 19) (fun m19 _ => Nat.rec (motive := fun _ => Prop) (k 20) (fun m20 _ => Nat.rec (motive := fun _ => Prop) (k 21) (fun m21 _ => Nat.rec (motive := fun _ => Prop) (k 22) (fun m22 _ => Nat.rec (motive := fun _ => Prop) (k 23) (fun m23 _ => Nat.rec (motive := fun _ => Prop) (k 24) (fun m24 _ => Nat.rec (motive := fun _ => Prop) (k 25) (fun m25 _ => Nat.rec (motive := fun _ => Prop) (k 26) (fun m26 _ => Nat.rec (motive := fun _ => Prop) (k 27) (fun m27 _ => Nat.rec (motive := fun _ => Prop) (k 28) (fun m28 _ => Nat.rec (motive := fun _ => Prop) (k 29) (fun m29 _ => Nat.rec (motive := fun _ => Prop) (k 30) (fun m30 _ => Nat.rec (motive := fun _ => Prop) (k 31) (fun m31 _ => Nat.rec (motive := fun _ => Prop) (k 32) (fun m32 _ => Nat.rec (motive := fun _ => Prop) (k 33) (fun m33 _ => Nat.rec (motive := fun _ => Prop) (k 34) (fun m34 _ => Nat.rec (motive := fun _ => Prop) (k 35) (fun m35 _ => Nat.rec (motive := fun _ => Prop) (k 36) (fun m36 _ => Nat.rec (motive := fun _ => Prop) (k 37) (fun m37 _ => Nat.rec (motive := fun _ => Prop) (k 38) (fun m38 _ => Nat.rec (motive := fun _ => Prop) (k 39) (fun m39 _ => Nat.rec (motive := fun _ => Prop) (k 40) (fun m40 _ => Nat.rec (motive := fun _ => Prop) (k 41) (fun m41 _ => Nat.rec (motive := fun _ => Prop) (k 42) (fun m42 _ => Nat.rec (motive := fun _ => Prop) (k 43) (fun m43 _ => Nat.rec (motive := fun _ => Prop) (k 44) (fun m44 _ => Nat.rec (motive := fun _ => Prop) (k 45) (fun m45 _ => Nat.rec (motive := fun _ => Prop) (k 46) (fun m46 _ => Nat.rec (motive := fun _ => Prop) (k 47) (fun m47 _ => k (m47 + 48)) m46) m45) m44) m43) m42) m41) m40) m39) m38) m37) m36) m35) m34) m33) m32) m31) m30) m29) m28) m27) m26) m25) m24) m23) m22) m21) m20) m19) m18) m17) m16) m15) m14) m13) m12) m11) m10) m9) m8) m7) m6) m5) m4) m3) m2) m1) m0) n
theorem Z5t (n : Nat) (k : Nat -> Prop) : Z5X n k = k n := match n with
 | 0 => rfl
 | 1 => rfl
 | 2 => rfl
 | 3 => rfl
 | 4 => rfl
 | 5 => rfl
 | 6 => rfl
 | 7 => rfl
 | 8 => rfl
 | 9 => rfl
 | 10 => rfl
 | 11 => rfl
 | 12 => rfl
 | 13 => rfl
 | 14 => rfl
 | 15 => rfl
 | 16 => rfl
 | 17 => rfl
 | 18 => rfl
 | 19 => rfl
 | 20 => rfl
 | 21 => rfl
 | 22 => rfl
 | 23 => rfl
 | 24 => rfl
 | 25 => rfl
 | 26 => rfl
 | 27 => rfl
 | 28 => rfl
 | 29 => rfl
 | 30 => rfl
 | 31 => rfl
 | 32 => rfl
 | 33 => rfl
 | 34 => rfl
 | 35 => rfl
 | 36 => rfl
 | 37 => rfl
 | 38 => rfl
 | 39 => rfl
 | 40 => rfl
 | 41 => rfl
 | 42 => rfl
 | 43 => rfl
 | 44 => rfl
 | 45 => rfl
 | 46 => rfl
 | 47 => rfl
 | n + 48 => rfl
noncomputable def Z7E (v : AV) (k : AV -> Prop) : Prop :=
 match v with
 | .ptr b off => Z5X b fun b => k (.ptr b off)
 | .slice b off len cap z => Z5X b fun b => Z5X z fun z => k (.slice b off len cap z)
 | .map b => Z5X b fun b => k (.map b)
 | v => Zf4 v k
theorem Z2w (v : AV) (k : AV -> Prop) : Z7E v k = k v := by
 unfold Z7E
 split <;> simp only [Z5t, Z2X]
noncomputable def Z1q : Z00 -> (Z00 -> Prop) -> Prop
 | [], k => k []
 | ⟨al, fam, sh, .cells cs t⟩ :: l, k => ZeL al fun al => Z5X fam fun fam => Z5X sh fun sh => Z1q l fun l => k (⟨al, fam, sh, .cells cs t⟩ :: l)
 | ⟨al, fam, sh, .map es c⟩ :: l, k => ZeL al fun al => Z5X fam fun fam => Z5X sh fun sh => Z1q l fun l => k (⟨al, fam, sh, .map es c⟩ :: l)
 | ⟨al, fam, sh, .siter a b⟩ :: l, k => ZeL al fun al => Z5X fam fun fam => Z5X sh fun sh => Z1q l fun l => k (⟨al, fam, sh, .siter a b⟩ :: l)
 | ⟨al, fam, sh, .loop g ts⟩ :: l, k => ZeL al fun al => Z5X fam fun fam => Z5X sh fun sh => Z1q l fun l => k (⟨al, fam, sh, .loop g ts⟩ :: l)
theorem Z0F : ∀ (H : Z00) (k : Z00 -> Prop), Z1q H k = k H
 | [], k => rfl
 | ⟨al, fam, sh, .cells cs t⟩ :: l, k => by simp only [Z1q, Z6Y, Z5t, Z0F l]
 | ⟨al, fam, sh, .map es c⟩ :: l, k => by simp only [Z1q, Z6Y, Z5t, Z0F l]
 | ⟨al, fam, sh, .siter a b⟩ :: l, k => by simp only [Z1q, Z6Y, Z5t, Z0F l]
 | ⟨al, fam, sh, .loop g ts⟩ :: l, k => by simp only [Z1q, Z6Y, Z5t, Z0F l]
noncomputable def wrW (H : Z00) (a : AV) (vs : List AV) (k : Z00 -> Prop) : Prop :=
 match a with
 | .ptr b off => onO H[b]? fun o => match o.alive, o.body with
  | true, .cells cs ty => if vs.all one then ∃ cs', spl cs off vs = some cs' /\ Z1q ((Z99 b o.fam H).set b { o with body := .cells cs' ty }) k else False
  | _, _ => False
 | _ => False
theorem Zlc {H : Z00} {a : AV} {vs : List AV} {k : Z00 -> Prop} (h : wrW H a vs k) : ∃ H', wr H a vs = some H' /\ k H' := by
 unfold wrW at h
 unfold wr
 split at h
 · obtain ⟨o, ho, h⟩ := Z03 h
   simp only [ho]
   split at h
   · rename_i e1 e2
     split at h
     · rename_i e3
       obtain ⟨cs', h1, h⟩ := h
       rw [Z0F] at h
       simp only [e1] at h
       simp only [e1, e2]; rw [if_pos e3, h1]; exact ⟨_, rfl, h⟩
     · exact h.elim
   · exact h.elim
 · exact h.elim
def Zml (t : TypeId) (a v : AV) (H : Z00) (k : Z00 -> Prop) : Prop :=
 onO (tsz P t) fun n => if v.cells.length = n then wrW H a v.cells k else False
theorem Zjw {t : TypeId} {a v : AV} {H : Z00} {k : Z00 -> Prop} (h : Zml P t a v H k) : ∃ H', Zbt P t a v H = some H' /\ k H' := by
 unfold Zml at h
 unfold Zbt
 obtain ⟨n, hn, h⟩ := Z03 h
 simp only [hn]
 split at h
 · rename_i e; rw [if_pos e]; exact Zlc h
 · exact h.elim
def Zgg (o : Oper) : Bool :=
 match o.op with
 | .move _ => true | .assign _ => true | .pick .. => true | .build .. => true | .nilCheck _ => true | .binOp .. => true | .unOp .. => true
 | .makeInterface .. => true | .makeFunc .. => true | .slice .. => true | .fieldAddr .. => true | .field .. => true | .indexAddr .. => true | .index .. => true | .extract .. => true
 | .load .. => true | .lookup .. => true
 | .call c => match c.callee with | .builtin .len => true | .builtin .max => true | .builtin .min => true | _ => false
 | _ => false
abbrev CW := Nat -> List AV -> Z00 -> (AV -> Z00 -> Prop) -> Prop
def Zan (P : Program) (orc : Orc) (cw : CW) : Prop := ∀ g args H k, cw g args H k -> ∃ r H', Z04 P orc H g args = some (r, H') /\ k r H'
noncomputable def cw0 (orc : Orc) : CW := fun g args H k => ∃ y, Z04 P orc H g args = some y /\ Z7E y.1 fun r => Z1q y.2 fun H' => k r H'
theorem Z3G (orc : Orc) : Zan P orc (cw0 P orc) := fun g args H k ⟨y, h1, h2⟩ => ⟨y.1, y.2, h1, by rw [Z2w, Z0F] at h2; exact h2⟩
def Znd (o : Oper) : Bool := match o.op with
 | .slice t _ _ _ _ => match P.underlying t with | some (.array _ _) => true | _ => false
 | _ => false
def opW (orc : Orc) (cw : CW) (ρ : Operand -> Option AV) (o : Oper) (H : Z00) (k : AV -> Z00 -> Prop) : Prop :=
 match Zgg o with
 | true => match Znd P o with
  | true => ∃ x, aop P orc ρ o H = some x /\ Z7E x.1 fun r => Z1q x.2 fun H' => k r H'
  | false => Z6D P ρ H o fun r => k r H
 | false => match o.op with
  | .convert s d _ => match Zbz P s d with
   | true => ∃ x, aop P orc ρ o H = some x /\ Z7E x.1 fun r => Z1q x.2 fun H' => k r H'
   | false => match Z0y P ρ H o with
    | some r => Zf4 r fun r => k r H
    | none => ∃ x, aop P orc ρ o H = some x /\ Z7E x.1 fun r => Z1q x.2 fun H' => k r H'
  | .store t a x => onO (ρ a) fun a => onO (ρ x) fun x => Zml P t a x H fun H' => k (.tuple []) H'
  | .alloc _ => onO (ZbN P ρ H o) fun x => Z7E x.1 fun r => Z1q x.2 fun H' => k r H'
  | .box .. => onO (ZbN P ρ H o) fun x => Z7E x.1 fun r => Z1q x.2 fun H' => k r H'
  | .buildSlice .. => onO (ZbN P ρ H o) fun x => Z7E x.1 fun r => Z1q x.2 fun H' => k r H'
  | .makeMap .. => onO (ZbN P ρ H o) fun x => Z7E x.1 fun r => Z1q x.2 fun H' => k r H'
  | .mapUpdate t m i v => onO (ρ m) fun m => onO (ρ i) fun i => onO (ρ v) fun v => ∃ x, Z6d P t m i v H = some x /\ Z1q x fun H' => k (.tuple []) H'
  | .insert t m i v => onO (ρ m) fun m => onO (ρ i) fun i => onO (ρ v) fun v => ∃ x, Z6d P t m i v H = some x /\ Z1q x fun H' => k (.tuple []) H'
  | .makeSlice t l c => onO (ρ l) fun l => onO (ρ c) fun c => ∃ x, Z17 P t l c H = some x /\ Z7E x.1 fun r => Z1q x.2 fun H' => k r H'
  | .call c => match c.callee with
   | .builtin .append => match c.args.toList, c.argTypes.toList with
    | [s, x], [t, t2] => onO (ρ s) fun s => onO (ρ x) fun x => ∃ y, Z2a P t t2 s x H = some y /\ Z7E y.1 fun r => Z1q y.2 fun H' => k r H'
    | _, _ => False
   | .value _ => onO (callee ρ c) fun (g, args) => cw g args H k
   | _ => ∃ x, aop P orc ρ o H = some x /\ Z7E x.1 fun r => Z1q x.2 fun H' => k r H'
  | _ => ∃ x, aop P orc ρ o H = some x /\ Z7E x.1 fun r => Z1q x.2 fun H' => k r H'
theorem Z9G {ρ : Operand -> Option AV} {o : Oper} (h : Zgg o = true) (c : Call) (e : o.op = .call c) : callee ρ c = none := by
 unfold Zgg at h
 simp only [e] at h
 unfold callee
 split
 · rename_i f hf; simp [hf] at h
 · rfl
theorem ZgV {orc : Orc} {ρ : Operand -> Option AV} {o : Oper} {H : Z00} (h : ∀ c, o.op = .call c -> callee ρ c = none) : aop P orc ρ o H = (match Z0y P ρ H o with | some r => some (r, H) | none => ZbN P ρ H o) := by
 unfold aop
 split
 · rename_i g args hx
   split at hx
   · rename_i c ho; rw [h c ho] at hx; cases hx
   · cases hx
 · rfl
theorem ZiW {orc : Orc} {cw : CW} (hcw : Zan P orc cw) {ρ : Operand -> Option AV} {o : Oper} {H : Z00} {k : AV -> Z00 -> Prop} (h : opW P orc cw ρ o H k) : ∃ r H', aop P orc ρ o H = some (r, H') /\ k r H' := by
 have gen : (∃ x, aop P orc ρ o H = some x /\ Z7E x.1 fun r => Z1q x.2 fun H' => k r H') -> ∃ r H', aop P orc ρ o H = some (r, H') /\ k r H' := fun ⟨x, h1, h2⟩ => ⟨x.1, x.2, h1, by rw [Z2w, Z0F] at h2; exact h2⟩
 have eff : ∀ {x : AV × Z00}, (∀ c, o.op = .call c -> callee ρ c = none) -> Z0y P ρ H o = none -> ZbN P ρ H o = some x -> k x.1 x.2 -> ∃ r H', aop P orc ρ o H = some (r, H') /\ k r H' :=
  fun {x} h1 h2 h3 h4 => ⟨x.1, x.2, by rw [ZgV P h1, h2]; exact h3, h4⟩
 unfold opW at h
 split at h
 · rename_i hp
   split at h
   · exact gen h
   · obtain ⟨r, h1, h⟩ := Z3q P h
     exact ⟨r, H, by rw [ZgV P (Z9G hp), h1], h⟩
 · split at h
   · rename_i e
     split at h
     · exact gen h
     · split at h
       · rename_i r hr
         rw [Z2X] at h
         exact ⟨r, H, by rw [ZgV P (by simp [e]), hr], h⟩
       · exact gen h
   · rename_i t a x e
     obtain ⟨a', h1, h⟩ := Z03 h
     obtain ⟨x', h2, h⟩ := Z03 h
     obtain ⟨H', h3, h⟩ := Zjw P h
     exact eff (x := (.tuple [], H')) (by simp [e]) (by simp only [Z0y, Z3w, e]) (by simp only [ZbN, e, h1, h2, h3]) h
   · rename_i e
     obtain ⟨x, h1, h⟩ := Z03 h
     rw [Z2w, Z0F] at h
     exact eff (by simp [e]) (by simp only [Z0y, Z3w, e]) h1 h
   · rename_i e
     obtain ⟨x, h1, h⟩ := Z03 h
     rw [Z2w, Z0F] at h
     exact eff (by simp [e]) (by simp only [Z0y, Z3w, e]) h1 h
   · rename_i e
     obtain ⟨x, h1, h⟩ := Z03 h
     rw [Z2w, Z0F] at h
     exact eff (by simp [e]) (by simp only [Z0y, Z3w, e]) h1 h
   · rename_i e
     obtain ⟨x, h1, h⟩ := Z03 h
     rw [Z2w, Z0F] at h
     exact eff (by simp [e]) (by simp only [Z0y, Z3w, e]) h1 h
   · rename_i t m i v e
     obtain ⟨m', h1, h⟩ := Z03 h
     obtain ⟨i', h2, h⟩ := Z03 h
     obtain ⟨v', h3, h⟩ := Z03 h
     obtain ⟨x, h4, h⟩ := h
     rw [Z0F] at h
     exact eff (x := (.tuple [], x)) (by simp [e]) (by simp only [Z0y, Z3w, e]) (by simp only [ZbN, e, h1, h2, h3, h4]) h
   · rename_i t m i v e
     obtain ⟨m', h1, h⟩ := Z03 h
     obtain ⟨i', h2, h⟩ := Z03 h
     obtain ⟨v', h3, h⟩ := Z03 h
     obtain ⟨x, h4, h⟩ := h
     rw [Z0F] at h
     exact eff (x := (.tuple [], x)) (by simp [e]) (by simp only [Z0y, Z3w, e]) (by simp only [ZbN, e, h1, h2, h3, h4]) h
   · rename_i t l c e
     obtain ⟨l', h1, h⟩ := Z03 h
     obtain ⟨c', h2, h⟩ := Z03 h
     obtain ⟨x, h3, h⟩ := h
     rw [Z2w, Z0F] at h
     exact eff (by simp [e]) (by simp only [Z0y, Z3w, e]) (by simp only [ZbN, e, h1, h2]; exact h3) h
   · rename_i c e
     split at h
     · rename_i hc
       split at h
       · rename_i s x t t2 ha ht
         obtain ⟨s', h1, h⟩ := Z03 h
         obtain ⟨x', h2, h⟩ := Z03 h
         obtain ⟨y, h3, h⟩ := h
         rw [Z2w, Z0F] at h
         exact eff (fun c' e' => by rw [e] at e'; cases e'; simp [callee, hc]) (by simp only [Z0y, Z3w, e, hc]) (by simp only [ZbN, e, hc, ha, ht, h1, h2]; exact h3) h
       · exact h.elim
     · rename_i f hc
       obtain ⟨⟨g, args⟩, h1, h⟩ := Z03 h
       obtain ⟨r, H', h2, h⟩ := hcw _ _ _ _ h
       exact ⟨r, H', by unfold aop; simp only [e, h1]; exact h2, h⟩
     · exact gen h
   · exact gen h
end W
end Go.Abs
end

section
namespace Go.Abs
open Go.RowKit
section reg
variable (P : Program) (gl : Z0l) (orc : Orc) (cw : CW)
def Zhs (ops : List Oper) (o : Oper) (tm : Tr) (A B : Prop) : Prop :=
 match o.guard with
 | none => A
 | some (j, want) => onO ops[j]? fun g => onO g.dst fun d => onO (Z1u tm d) fun v => match v with
  | .bool b => match want with
   | true => (b = true -> A) /\ (b = false -> B)
   | false => (b = true -> B) /\ (b = false -> A)
  | _ => B
theorem Zhr {ops : List Oper} {o : Oper} {tm : Tr} {A B : Prop} (h : Zhs ops o tm A B) : (Z68 ops o tm = some true /\ A) \/ (Z68 ops o tm = some false /\ B) := by
 unfold Zhs at h
 unfold Z68
 split at h
 · rename_i e; exact .inl ⟨by simp only [e], h⟩
 · rename_i j want e
   obtain ⟨g, h1, h⟩ := Z03 h
   obtain ⟨d, h2, h⟩ := Z03 h
   obtain ⟨v, h3, h⟩ := Z03 h
   split at h
   · rename_i b
     simp only [e, h1, h2, h3]
     cases b <;> cases want
     · exact .inl ⟨rfl, h.2 rfl⟩
     · exact .inr ⟨rfl, h.2 rfl⟩
     · exact .inr ⟨rfl, h.1 rfl⟩
     · exact .inl ⟨rfl, h.1 rfl⟩
   · rename_i hne
     refine .inr ⟨?_, h⟩
     simp only [e, h1, h2, h3]
noncomputable def ZjI (ops : List Oper) (l : List Oper) : Tr -> Z00 -> (Tr -> Z00 -> Prop) -> Prop :=
 List.rec (motive := fun _ => Tr -> Z00 -> (Tr -> Z00 -> Prop) -> Prop) (fun tm H k => k tm H)
  (fun o _ ih tm H k => Zhs ops o tm (opW P orc cw (Z5G gl tm) o H fun r H' => onO (Z5L o.dst r tm) fun tm' => ih tm' H' k) (onO (Z5L o.dst (.tuple []) tm) fun tm' => ih tm' H k)) l
theorem ZfC (ops : List Oper) (o : Oper) (l : List Oper) (tm : Tr) (H : Z00) (k : Tr -> Z00 -> Prop) :
 ZjI P gl orc cw ops (o :: l) tm H k = Zhs ops o tm (opW P orc cw (Z5G gl tm) o H fun r H' => onO (Z5L o.dst r tm) fun tm' => ZjI P gl orc cw ops l tm' H' k) (onO (Z5L o.dst (.tuple []) tm) fun tm' => ZjI P gl orc cw ops l tm' H k) := rfl
theorem Z9m (hcw : Zan P orc cw) {ops : List Oper} : ∀ {l : List Oper} {tm : Tr} {H : Z00} {k : Tr -> Z00 -> Prop}, ZjI P gl orc cw ops l tm H k -> ∃ tm' H', Ziz P gl orc ops l tm H = some (tm', H') /\ k tm' H'
 | [], tm, H, k, h => ⟨tm, H, rfl, h⟩
 | o :: l, tm, H, k, h => by
  rw [ZfC] at h
  rcases Zhr h with ⟨h1, h⟩ | ⟨h1, h⟩
  · obtain ⟨r, H', h2, h⟩ := ZiW P hcw h
    obtain ⟨tm', h3, h⟩ := Z03 h
    obtain ⟨tm2, H2, h4, h⟩ := Z9m hcw h
    exact ⟨tm2, H2, by simp only [Ziz, h1, h2, Z2W, h3]; exact h4, h⟩
  · obtain ⟨tm', h3, h⟩ := Z03 h
    obtain ⟨tm2, H2, h4, h⟩ := Z9m hcw h
    exact ⟨tm2, H2, by simp only [Ziz, h1, h3]; exact h4, h⟩
def Z8p (ops : List Oper) (env : List (Nat × AV)) (o : Oper) (A B : Prop) : Prop :=
 match o.guard with
 | none => A
 | some (j, want) => match ops[j]? with
  | some g => match g.dst with
   | some d => match Z2l d env with
    | some (.bool b) => match want with
     | true => (b = true -> A) /\ (b = false -> B)
     | false => (b = true -> B) /\ (b = false -> A)
    | _ => B
   | none => B
  | none => B
theorem Z4Y {ops : List Oper} {env : List (Nat × AV)} {o : Oper} {A B : Prop} (h : Z8p ops env o A B) : (Z0n ops env o = true /\ A) \/ (Z0n ops env o = false /\ B) := by
 unfold Z8p at h
 unfold Z0n
 split at h
 · rename_i e; exact .inl ⟨by simp only [e], h⟩
 · rename_i j want e
   split at h
   · rename_i g e1
     split at h
     · rename_i d e2
       split at h
       · rename_i b e3
         simp only [e, e1, e2, e3]
         cases b <;> cases want
         · exact .inl ⟨rfl, h.2 rfl⟩
         · exact .inr ⟨rfl, h.2 rfl⟩
         · exact .inr ⟨rfl, h.1 rfl⟩
         · exact .inl ⟨rfl, h.1 rfl⟩
       · rename_i hne
         refine .inr ⟨?_, h⟩
         simp only [e, e1, e2]
     · rename_i e2; exact .inr ⟨by simp only [e, e1, e2], h⟩
   · rename_i e1; exact .inr ⟨by simp only [e, e1], h⟩
def Zl8 (tm : Tr) : List Nat -> Option (List (Nat × AV))
 | [] => some []
 | t :: ts => match Z1u tm t, Zl8 tm ts with | some v, some e => some ((t, v) :: e) | _, _ => none
theorem ZgG {tm tmc : Tr} {vals : List (Option AV)} {ops : List Oper} {D : Nat -> Bool} : ∀ {ts : List Nat}, (∀ t ∈ ts, Z1p vals D t ops 0 (Z1u tm t) = Z1u tmc t) -> Z2Z tm vals ops D ts = Zl8 tmc ts
 | [], h => rfl
 | t :: ts, h => by
  have ih : Z2Z tm vals ops D ts = Zl8 tmc ts := ZgG fun s hs => h s (by simp [hs])
  simp only [Z2Z, Zl8, h t (by simp), ih]
  rfl
theorem ZkB {ops : List Oper} {an : List Nat} {tm tmc : Tr} {i : Nat} {o : Oper} {vals : List (Option AV)} {done : Nat} (htm : Z1l ops an i o = true) (hV : VInv ops an tm vals done tmc) (hi : bit done i = false) (han : ∀ k, bit (an.getD i 0) k = true -> bit done k = true) :
  Z2Z tm vals ops (bit (an.getD i 0)) (looks ops o) = Zl8 tmc (looks ops o) := by
 simp only [Z1l, Bool.and_eq_true] at htm
 refine ZgG fun t ht => ?_
 have hw := List.all_eq_true.1 htm.1 t ht
 rw [Z1Q (D' := bit done) ops 0 _ (fun k x hx hd => ?_), hV.cur t]
 simp only [Nat.zero_add]
 cases hq : bit done k with
 | true =>
  rcases Z1s ops 0 k x hw hx hd with h1 | h1 | h1
  · rw [Nat.zero_add] at h1; subst h1; rw [hi] at hq; cases hq
  · rwa [Nat.zero_add] at h1
  · rw [Nat.zero_add] at h1
    have := hV.cls k i hq h1
    rw [hi] at this; cases this
 | false =>
  cases hp : bit (an.getD i 0) k with
  | false => rfl
  | true => rw [han k hp] at hq; cases hq
abbrev ZcG := Nat × Oper × List (Nat × AV) × AV
abbrev StK := Tr -> Nat -> Z00 -> List Nat -> Z00 -> List (Nat × Z00 × List Nat) -> List ZcG -> Prop
def ZdL (ops : List Oper) (an : List Nat) (i : Nat) (tmc : Tr) (done : Nat) (base : Z00) (new : List Nat) (heap : Z00) (sts : List (Nat × Z00 × List Nat)) (recs : List ZcG) (k : StK) : Prop :=
 onO ops[i]? fun o => onO (Zl8 tmc (looks ops o)) fun env =>
  match !(bit done i) && Nat.beq (Nat.land (an.getD i 0) done) (an.getD i 0) with
  | false => False
  | true => Z9M (Nat.lor done (2 ^ i)) fun done' =>
   match kind o with
   | 2 => Z8p ops env o
    (onO (Z2y P (Z1D gl env) o) fun x => if Z0M heap.length (Z3I x.2 []) then Z7E (x.1 heap.length) fun r => Z1q (heap ++ [⟨true, heap.length, 0, x.2⟩]) fun H' =>
      onO (Z5L o.dst r tmc) fun tmc => k tmc done' base (new ++ [i]) H' sts recs else False)
    (onO (Z5L o.dst (.tuple []) tmc) fun tmc => k tmc done' base new heap sts recs)
   | 3 => if Z93 (an.getD i 0) new && Z0M heap.length (Z2S env []) then Z8p ops env o
     (opW P orc cw (Z1D gl env) o heap fun r H' => if Nat.ble heap.length H'.length then onO (Z5L o.dst r tmc) fun tmc => k tmc done' H' [] H' (sts ++ [(i, base, new)]) recs else False)
     (onO (Z5L o.dst (.tuple []) tmc) fun tmc => k tmc done' heap [] heap (sts ++ [(i, base, new)]) recs)
    else False
   | 1 => Z8p ops env o
    (Z6D P (Z1D gl env) heap o fun r => onO (Z5L o.dst r tmc) fun tmc => k tmc done' base new heap sts ((i, o, env, r) :: recs))
    (onO (Z5L o.dst (.tuple []) tmc) fun tmc => k tmc done' base new heap sts recs)
   | _ => Z8p ops env o
    (Z6D P (Z1D gl env) heap o fun r => onO (Z5L o.dst r tmc) fun tmc => k tmc done' base new heap sts recs)
    (onO (Z5L o.dst (.tuple []) tmc) fun tmc => k tmc done' base new heap sts recs)
structure RecOK (ops : List Oper) (an : List Nat) (tm : Tr) (vals : List (Option AV)) (done : Nat) (recs : List ZcG) : Prop where
 at_ : ∀ r ∈ recs, At ops an tm vals r.1 r.2.1 r.2.2.1 r.2.2.2
 all : ∀ (j : Nat) (o : Oper) (env : List (Nat × AV)) (v : AV), bit done j = true -> kind o = 1 -> At ops an tm vals j o env v -> Z0n ops env o = true -> (j, o, env, v) ∈ recs
theorem RecOK.next {ops : List Oper} {an : List Nat} {tm tmc : Tr} {i : Nat} {o : Oper} {env : List (Nat × AV)} {vals : List (Option AV)} {done : Nat} {recs recs' : List ZcG} {r : AV} (h : RecOK ops an tm vals done recs) (hV : VInv ops an tm vals done tmc) (hi : bit done i = false) (ho : ops[i]? = some o)
  (henv : Z2Z tm vals ops (bit (an.getD i 0)) (looks ops o) = some env) (hF : ∀ k, bit done k = true -> ∃ o env v, At ops an tm vals k o env v)
  (hr : recs' = recs /\ (kind o = 1 -> Z0n ops env o = false) \/ recs' = (i, o, env, r) :: recs) : RecOK ops an tm (vals.set i (some r)) (Nat.lor done (2 ^ i)) recs' /\ ∀ k, bit (Nat.lor done (2 ^ i)) k = true -> ∃ o env v, At ops an tm (vals.set i (some r)) k o env v := by
 have hil : i < vals.length := by rw [hV.vlen]; exact (List.getElem?_eq_some_iff.1 ho).1
 have hle := hV.vle hi r
 have hat : At ops an tm (vals.set i (some r)) i o env r := ⟨ho, Z3f hle _ _ henv, by simp [hil]⟩
 refine ⟨⟨fun x hx => ?_, fun j o' env' v hj hk ha hw => ?_⟩, fun k hk => ?_⟩
 · rcases hr with ⟨rfl, _⟩ | rfl
   · exact (h.at_ x hx).mono hle
   · rcases List.mem_cons.1 hx with rfl | hx
     · exact hat
     · exact (h.at_ x hx).mono hle
 · rcases (Z4m _ _ _).1 hj with hj | rfl
   · obtain ⟨o2, env2, v2, ha2⟩ := hF j hj
     obtain ⟨rfl, rfl, rfl⟩ := ha.uniq (ha2.mono hle)
     have := h.all j _ _ _ hj hk ha2 hw
     rcases hr with ⟨rfl, _⟩ | rfl
     · exact this
     · exact List.mem_cons_of_mem _ this
   · obtain ⟨rfl, rfl, rfl⟩ := ha.uniq hat
     rcases hr with ⟨rfl, h1⟩ | rfl
     · rw [h1 hk] at hw; cases hw
     · exact List.mem_cons_self ..
 · rcases (Z4m _ _ _).1 hk with hk | rfl
   · obtain ⟨o2, env2, v2, ha2⟩ := hF k hk
     exact ⟨o2, env2, v2, ha2.mono hle⟩
   · exact ⟨o, env, r, hat⟩
def shp : Tr -> Tr -> Prop
 | .leaf, .leaf => True
 | .node _ l r, .node _ l2 r2 => shp l l2 /\ shp r r2
 | _, _ => False
theorem shp.refl : ∀ t : Tr, shp t t
 | .leaf => trivial
 | .node _ l r => ⟨shp.refl l, shp.refl r⟩
theorem shp.symm : ∀ {t u : Tr}, shp t u -> shp u t
 | .leaf, .leaf, _ => trivial
 | .node _ _ _, .node _ _ _, h => ⟨shp.symm h.1, shp.symm h.2⟩
 | .leaf, .node _ _ _, h => h.elim
 | .node _ _ _, .leaf, h => h.elim
theorem shp.trans : ∀ {t u v : Tr}, shp t u -> shp u v -> shp t v
 | .leaf, .leaf, .leaf, _, _ => trivial
 | .node _ _ _, .node _ _ _, .node _ _ _, h, k => ⟨h.1.trans k.1, h.2.trans k.2⟩
 | .leaf, .node _ _ _, _, h, _ => h.elim
 | .node _ _ _, .leaf, _, h, _ => h.elim
 | .leaf, .leaf, .node _ _ _, _, k => k.elim
 | .node _ _ _, .node _ _ _, .leaf, _, k => k.elim
theorem Z9c : ∀ {t : Tr} {n : Nat} {v : AV} {t' : Tr}, Zee t n v = some t' -> shp t t'
 | .leaf, n, v, t', h => by simp [Zee] at h
 | .node x l r, 0, v, t', h => by
  simp only [Zee] at h
  split at h <;> simp at h
  subst h; exact ⟨shp.refl l, shp.refl r⟩
 | .node x l r, n + 1, v, t', h => by
  simp only [Zee] at h
  split at h
  · split at h <;> simp at h
    subst h; rename_i l' hl; exact ⟨Z9c hl, shp.refl r⟩
  · split at h <;> simp at h
    subst h; rename_i r' hr; exact ⟨shp.refl l, Z9c hr⟩
theorem Zd3 {d : Option Tmp} {v : AV} {t t' : Tr} (h : Z5L d v t = some t') : shp t t' := by
 cases d with
 | none => simp [Z5L] at h; subst h; exact shp.refl t
 | some d => exact Z9c h
theorem Z7L {vals : List (Option AV)} : ∀ {l : List Oper} {i : Nat} {tm tm' : Tr}, Z1I vals l i tm = some tm' -> shp tm tm'
 | [], i, tm, tm', h => by simp [Z1I] at h; subst h; exact shp.refl tm
 | o :: l, i, tm, tm', h => by
  simp only [Z1I] at h
  split at h <;> try (simp at h; done)
  split at h <;> try (simp at h; done)
  rename_i tm1 hp
  exact (Zd3 hp).trans (Z7L h)
theorem ZbX : ∀ {t u : Tr}, shp t u -> (∀ n, Z1u t n = Z1u u n) -> (∀ n, tex t n = tex u n) -> t = u
 | .leaf, .leaf, _, _, _ => rfl
 | .node x l r, .node y l2 r2, h, hg, hx => by
  have e0 : x = y := by
   have h1 := hg 0
   have h2 := hx 0
   simp only [Z1u, tex] at h1 h2
   cases x <;> cases y <;> simp_all
  have hl : l = l2 := ZbX h.1 (fun n => by
   have := hg (2 * n + 1)
   have e : Nat.mod (2 * n) 2 = 0 := by show (2 * n) % 2 = 0; omega
   have e2 : Nat.div (2 * n) 2 = n := by show (2 * n) / 2 = n; omega
   simpa only [Z1u, e, e2] using this) (fun n => by
   have := hx (2 * n + 1)
   have e : Nat.mod (2 * n) 2 = 0 := by show (2 * n) % 2 = 0; omega
   have e2 : Nat.div (2 * n) 2 = n := by show (2 * n) / 2 = n; omega
   simpa only [tex, e, e2] using this)
  have hr : r = r2 := ZbX h.2 (fun n => by
   have := hg (2 * n + 1 + 1)
   have e : Nat.mod (2 * n + 1) 2 = 1 := by show (2 * n + 1) % 2 = 1; omega
   have e2 : Nat.div (2 * n + 1) 2 = n := by show (2 * n + 1) / 2 = n; omega
   simpa only [Z1u, e, e2] using this) (fun n => by
   have := hx (2 * n + 1 + 1)
   have e : Nat.mod (2 * n + 1) 2 = 1 := by show (2 * n + 1) % 2 = 1; omega
   have e2 : Nat.div (2 * n + 1) 2 = n := by show (2 * n + 1) / 2 = n; omega
   simpa only [tex, e, e2] using this)
  rw [e0, hl, hr]
 | .leaf, .node _ _ _, h, _, _ => h.elim
 | .node _ _ _, .leaf, h, _, _ => h.elim
structure DW (ops : List Oper) (an : List Nat) (tm tmc : Tr) (s : DSt) (recs : List ZcG) : Prop where
 v : VInv ops an tm s.vals s.done tmc
 r : RecOK ops an tm s.vals s.done recs
 f : ∀ k, bit s.done k = true -> ∃ o env v, At ops an tm s.vals k o env v
 ex : ∀ t, tex tmc t = tex tm t
 sh : shp tm tmc
theorem DW.next {ops : List Oper} {an : List Nat} {tm tmc tmc' : Tr} {s : DSt} {recs recs' : List ZcG} {i : Nat} {o : Oper} {env : List (Nat × AV)} {r : AV} {base heap : Z00} {new : List Nat} {sts : List (Nat × Z00 × List Nat)} (h : DW ops an tm tmc s recs) (ho : ops[i]? = some o) (hi : bit s.done i = false) (han : ∀ k, bit (an.getD i 0) k = true -> bit s.done k = true)
  (hb : an.getD i 0 < 2 ^ i) (htm : Z1l ops an i o = true) (henv : Z2Z tm s.vals ops (bit (an.getD i 0)) (looks ops o) = some env) (hp : Z5L o.dst r tmc = some tmc') (hr : recs' = recs /\ (kind o = 1 -> Z0n ops env o = false) \/ recs' = (i, o, env, r) :: recs) :
  DW ops an tm tmc' ⟨s.vals.set i (some r), Nat.lor s.done (2 ^ i), base, new, heap, sts⟩ recs' := by
 obtain ⟨g1, g2⟩ := h.r.next h.v hi ho henv h.f hr
 exact ⟨h.v.next ho hp hi han hb htm, g1, g2, fun t => by rw [Zd2 hp t]; exact h.ex t, h.sh.trans (Zd3 hp)⟩
theorem ZgH (hcw : Zan P orc cw) {ops : List Oper} {an : List Nat} {tm tmc : Tr} {i : Nat} {s : DSt} {recs : List ZcG} {k : StK} (hW : DW ops an tm tmc s recs) (htm : ∀ i o, ops[i]? = some o -> Z1l ops an i o = true) (hb : ∀ i, i < ops.length -> an.getD i 0 < 2 ^ i)
  (h : ZdL P gl orc cw ops an i tmc s.done s.base s.new s.heap s.sts recs k) : ∃ s' tmc' recs', dstep P gl orc ops an tm i s = some s' /\ DW ops an tm tmc' s' recs' /\ k tmc' s'.done s'.base s'.new s'.heap s'.sts recs' := by
 unfold ZdL at h
 obtain ⟨o, ho, h⟩ := Z03 h
 obtain ⟨env, henvT, h⟩ := Z03 h
 split at h
 · exact h.elim
 · rename_i hc
   simp only [Bool.and_eq_true, Bool.not_eq_true'] at hc
   obtain ⟨hi, hsub⟩ := hc
   have han := Zi5 hsub
   have htm' := htm i o ho
   have hb' := hb i (List.getElem?_eq_some_iff.1 ho).1
   have henv : Z2Z tm s.vals ops (bit (an.getD i 0)) (looks ops o) = some env := by rw [ZkB htm' hW.v hi han, henvT]
   rw [Z3t] at h
   unfold dstep
   simp only [ho, henv, hi, Bool.false_eq_true, if_false]
   split at h
   · rename_i hk
     simp only [hk]
     have hk1 : ∀ {b : Bool}, kind o = 1 -> Z0n ops env o = b := fun e => by rw [hk] at e; cases e
     rcases Z4Y h with ⟨h1, h⟩ | ⟨h1, h⟩
     · obtain ⟨⟨mk, body⟩, h2, h⟩ := Z03 h
       split at h
       · rename_i h3
         rw [Z2w, Z0F] at h
         obtain ⟨tmc', h4, h⟩ := Z03 h
         simp only at h3
         exact ⟨_, tmc', recs, by simp only [h1, if_true, h2]; rw [if_pos h3, Z2W], hW.next ho hi han hb' htm' henv h4 (.inl ⟨rfl, hk1⟩), h⟩
       · exact h.elim
     · obtain ⟨tmc', h4, h⟩ := Z03 h
       exact ⟨_, tmc', recs, by simp only [h1, Bool.false_eq_true, if_false], hW.next ho hi han hb' htm' henv h4 (.inl ⟨rfl, hk1⟩), h⟩
   · rename_i hk
     simp only [hk]
     have hk1 : ∀ {b : Bool}, kind o = 1 -> Z0n ops env o = b := fun e => by rw [hk] at e; cases e
     split at h
     · rename_i h0
       rcases Z4Y h with ⟨h1, h⟩ | ⟨h1, h⟩
       · obtain ⟨r, H', h2, h⟩ := ZiW P hcw h
         split at h
         · rename_i h3
           obtain ⟨tmc', h4, h⟩ := Z03 h
           exact ⟨_, tmc', recs, by rw [if_pos h0]; simp only [h1, if_true, h2, Z2W]; rw [if_pos h3], hW.next ho hi han hb' htm' henv h4 (.inl ⟨rfl, hk1⟩), h⟩
         · exact h.elim
       · obtain ⟨tmc', h4, h⟩ := Z03 h
         exact ⟨_, tmc', recs, by rw [if_pos h0]; simp only [h1, Bool.false_eq_true, if_false], hW.next ho hi han hb' htm' henv h4 (.inl ⟨rfl, hk1⟩), h⟩
     · exact h.elim
   · rename_i hk
     simp only [hk]
     rcases Z4Y h with ⟨h1, h⟩ | ⟨h1, h⟩
     · obtain ⟨r, h2, h⟩ := Z3q P h
       obtain ⟨tmc', h4, h⟩ := Z03 h
       exact ⟨_, tmc', _, by simp only [h1, if_true, h2, Z2W], hW.next ho hi han hb' htm' henv h4 (.inr rfl), h⟩
     · obtain ⟨tmc', h4, h⟩ := Z03 h
       exact ⟨_, tmc', recs, by simp only [h1, Bool.false_eq_true, if_false], hW.next ho hi han hb' htm' henv h4 (.inl ⟨rfl, fun _ => h1⟩), h⟩
   · rename_i hk2 hk3 hk1
     have key : ∀ {A B C : Option DSt}, (match kind o with | 2 => A | 3 => B | _ => C) = C := by
      intro A B C
      split
      · rename_i e; exact (hk2 e).elim
      · rename_i e; exact (hk3 e).elim
      · rfl
     rcases Z4Y h with ⟨h1, h⟩ | ⟨h1, h⟩
     · obtain ⟨r, h2, h⟩ := Z3q P h
       obtain ⟨tmc', h4, h⟩ := Z03 h
       exact ⟨_, tmc', recs, key.trans (by simp only [h1, if_true, h2, Z2W]), hW.next ho hi han hb' htm' henv h4 (.inl ⟨rfl, fun e => (hk1 e).elim⟩), h⟩
     · obtain ⟨tmc', h4, h⟩ := Z03 h
       exact ⟨_, tmc', recs, key.trans (by simp only [h1, Bool.false_eq_true, if_false]), hW.next ho hi han hb' htm' henv h4 (.inl ⟨rfl, fun e => (hk1 e).elim⟩), h⟩
noncomputable def ZgI (ops : List Oper) (an : List Nat) (l : List Nat) : Tr -> Nat -> Z00 -> List Nat -> Z00 -> List (Nat × Z00 × List Nat) -> List ZcG -> StK -> Prop :=
 List.rec (motive := fun _ => Tr -> Nat -> Z00 -> List Nat -> Z00 -> List (Nat × Z00 × List Nat) -> List ZcG -> StK -> Prop) (fun tmc done base new heap sts recs k => k tmc done base new heap sts recs)
  (fun i _ ih tmc done base new heap sts recs k => ZdL P gl orc cw ops an i tmc done base new heap sts recs fun tmc done base new heap sts recs => ih tmc done base new heap sts recs k) l
theorem Zbh (hcw : Zan P orc cw) {ops : List Oper} {an : List Nat} {tm : Tr} (htm : ∀ i o, ops[i]? = some o -> Z1l ops an i o = true) (hb : ∀ i, i < ops.length -> an.getD i 0 < 2 ^ i) : ∀ {l : List Nat} {tmc : Tr} {s : DSt} {recs : List ZcG} {k : StK}, DW ops an tm tmc s recs -> ZgI P gl orc cw ops an l tmc s.done s.base s.new s.heap s.sts recs k ->
  ∃ s' tmc' recs', Z8k P gl orc ops an tm l s = some s' /\ DW ops an tm tmc' s' recs' /\ k tmc' s'.done s'.base s'.new s'.heap s'.sts recs'
 | [], tmc, s, recs, k, hW, h => ⟨s, tmc, recs, rfl, hW, h⟩
 | i :: l, tmc, s, recs, k, hW, h => by
  replace h : ZdL P gl orc cw ops an i tmc s.done s.base s.new s.heap s.sts recs fun tmc done base new heap sts recs => ZgI P gl orc cw ops an l tmc done base new heap sts recs k := h
  obtain ⟨s1, t1, r1, h1, w1, h⟩ := ZgH P gl orc cw hcw hW htm hb h
  obtain ⟨s2, t2, r2, h2, w2, h⟩ := Zbh hcw htm hb w1 h
  exact ⟨s2, t2, r2, by simp only [Z8k, h1]; exact h2, w2, h⟩
noncomputable def Z4C (o : Oper) (env : List (Nat × AV)) (v : AV) (j : Nat) (an : List Nat) (aj : Nat) (K : Prop) (l : List (Nat × Z00 × List Nat)) : Z00 -> Prop :=
 List.rec (motive := fun _ => Z00 -> Prop) (fun H => Z6D P (Z1D gl env) H o fun u => u = v /\ K)
  (fun p _ ih H => Prod.rec (fun e q => Prod.rec (fun B _ => match bit aj e with
    | true => ih H
    | false => Z6D P (Z1D gl env) B o fun u => u = v /\ (match bit (an.getD e 0) j with | true => K | false => ih H)) q) p) l
theorem Z35 {o : Oper} {env : List (Nat × AV)} {v : AV} {j : Nat} {an : List Nat} {aj : Nat} {K : Prop} : ∀ {l : List (Nat × Z00 × List Nat)} {H : Z00}, Z4C P gl o env v j an aj K l H -> stages P gl o env v j an aj veq l H = true /\ K
 | [], H, h => by
  obtain ⟨u, h1, h2, hK⟩ := Z3q P h
  subst h2
  exact ⟨by simp only [stages, h1, Z3n], hK⟩
 | (e, B, nw) :: l, H, h => by
  replace h : (match bit aj e with
   | true => Z4C P gl o env v j an aj K l H
   | false => Z6D P (Z1D gl env) B o fun u => u = v /\ (match bit (an.getD e 0) j with | true => K | false => Z4C P gl o env v j an aj K l H)) := h
  simp only [stages]
  split at h
  · rename_i hb; rw [if_pos hb]; exact Z35 h
  · rename_i hb
    rw [if_neg (by rw [hb]; simp)]
    obtain ⟨u, h3, h4, h2⟩ := Z3q P h
    subst h4
    simp only [h3, Z3n, Bool.true_and, Bool.or_eq_true]
    split at h2
    · rename_i hc; exact ⟨.inl hc, h2⟩
    · exact ⟨.inr (Z35 h2).1, (Z35 h2).2⟩
noncomputable def Z55 (F : Z00 -> Z00) (o : Oper) (env : List (Nat × AV)) (v : AV) (j : Nat) (an : List Nat) (aj : Nat) (K : Prop) (l : List (Nat × Z00 × List Nat)) : Z00 -> Prop :=
 List.rec (motive := fun _ => Z00 -> Prop) (fun H => Z1q (F H) fun H => Z6D P (Z1D gl env) H o fun u => u = v /\ K)
  (fun p _ ih H => Prod.rec (fun e q => Prod.rec (fun B _ => match bit aj e with
    | true => ih H
    | false => Z1q (F B) fun B => Z6D P (Z1D gl env) B o fun u => u = v /\ (match bit (an.getD e 0) j with | true => K | false => ih H)) q) p) l
theorem Z3p {F : Z00 -> Z00} {o : Oper} {env : List (Nat × AV)} {v : AV} {j : Nat} {an : List Nat} {aj : Nat} {K : Prop} : ∀ {l : List (Nat × Z00 × List Nat)} {H : Z00}, Z55 P gl F o env v j an aj K l H -> stages P gl o env v j an aj veq (ZbL F l) (F H) = true /\ K
 | [], H, h => by
  replace h : Z1q (F H) fun H => Z6D P (Z1D gl env) H o fun u => u = v /\ K := h
  rw [Z0F] at h
  obtain ⟨u, h1, h2, hK⟩ := Z3q P h
  subst h2
  exact ⟨by simp only [ZbL, stages, h1, Z3n], hK⟩
 | (e, B, nw) :: l, H, h => by
  replace h : (match bit aj e with
   | true => Z55 P gl F o env v j an aj K l H
   | false => Z1q (F B) fun B => Z6D P (Z1D gl env) B o fun u => u = v /\ (match bit (an.getD e 0) j with | true => K | false => Z55 P gl F o env v j an aj K l H)) := h
  simp only [ZbL, stages]
  split at h
  · rename_i hb; rw [if_pos hb]; exact Z3p h
  · rename_i hb
    rw [if_neg (by rw [hb]; simp)]
    rw [Z0F] at h
    obtain ⟨u, h3, h4, h2⟩ := Z3q P h
    subst h4
    simp only [h3, Z3n, Bool.true_and, Bool.or_eq_true]
    split at h2
    · rename_i hc; exact ⟨.inl hc, h2⟩
    · exact ⟨.inr (Z3p h2).1, (Z3p h2).2⟩
noncomputable def Z56 (an : List Nat) (sts : List (Nat × Z00 × List Nat)) (base : Z00) (nw : List Nat) (heap : Z00) (K : Prop) (l : List ZcG) : Prop :=
 List.rec (motive := fun _ => Prop) K (fun r _ ih => Prod.rec (fun j q => Prod.rec (fun o q => Prod.rec (fun env v => match Z0M base.length (Z2S env []) with
  | true => Z4C P gl o env v j an (an.getD j 0) ih sts base
  | false => Z55 P gl (Z2L (an.getD j 0) base nw heap) o env v j an (an.getD j 0) ih sts base) q) q) r) l
theorem Z7h {an : List Nat} {sts : List (Nat × Z00 × List Nat)} {base heap : Z00} {nw : List Nat} {K : Prop} : ∀ {l : List ZcG}, Z56 P gl an sts base nw heap K l -> (∀ r ∈ l, (stages P gl r.2.1 r.2.2.1 r.2.2.2 r.1 an (an.getD r.1 0) veq sts base || stages P gl r.2.1 r.2.2.1 r.2.2.2 r.1 an (an.getD r.1 0) veq (ZbL (Z2L (an.getD r.1 0) base nw heap) sts) (Z2L (an.getD r.1 0) base nw heap base)) = true) /\ K
 | [], h => ⟨fun r hr => by simp at hr, h⟩
 | (j, o, env, v) :: l, h => by
  replace h : (match Z0M base.length (Z2S env []) with
   | true => Z4C P gl o env v j an (an.getD j 0) (Z56 P gl an sts base nw heap K l) sts base
   | false => Z55 P gl (Z2L (an.getD j 0) base nw heap) o env v j an (an.getD j 0) (Z56 P gl an sts base nw heap K l) sts base) := h
  have h' : (stages P gl o env v j an (an.getD j 0) veq sts base || stages P gl o env v j an (an.getD j 0) veq (ZbL (Z2L (an.getD j 0) base nw heap) sts) (Z2L (an.getD j 0) base nw heap base)) = true /\ Z56 P gl an sts base nw heap K l := by
   split at h
   · obtain ⟨h1, h2⟩ := Z35 P gl h
     exact ⟨by rw [h1]; rfl, h2⟩
   · obtain ⟨h1, h2⟩ := Z3p P gl h
     exact ⟨by rw [h1, Bool.or_true], h2⟩
  obtain ⟨h1, h2⟩ := h'
  obtain ⟨h3, h4⟩ := Z7h h2
  refine ⟨fun r hr => ?_, h4⟩
  rcases List.mem_cons.1 hr with rfl | hr
  · exact h1
  · exact h3 r hr
noncomputable def ZbU (an : List Nat) (sts : List (Nat × Z00 × List Nat)) (base : Z00) (K : Prop) (l : List ZcG) : Prop :=
 List.rec (motive := fun _ => Prop) K (fun r _ ih => Prod.rec (fun j q => Prod.rec (fun o q => Prod.rec (fun env v => Z4C P gl o env v j an (an.getD j 0) ih sts base) q) q) r) l
theorem Z8s {an : List Nat} {sts : List (Nat × Z00 × List Nat)} {base : Z00} {K : Prop} : ∀ {l : List ZcG}, ZbU P gl an sts base K l -> (∀ r ∈ l, stages P gl r.2.1 r.2.2.1 r.2.2.2 r.1 an (an.getD r.1 0) veq sts base = true) /\ K
 | [], h => ⟨fun r hr => by simp at hr, h⟩
 | (j, o, env, v) :: l, h => by
  replace h : Z4C P gl o env v j an (an.getD j 0) (ZbU P gl an sts base K l) sts base := h
  obtain ⟨h1, h2⟩ := Z35 P gl h
  obtain ⟨h3, h4⟩ := Z8s h2
  refine ⟨fun r hr => ?_, h4⟩
  rcases List.mem_cons.1 hr with rfl | hr
  · exact h1
  · exact h3 r hr
theorem Z5N {ops : List Oper} {an : List Nat} {tm tmc : Tr} {s : DSt} {recs : List ZcG} (hW : DW ops an tm tmc s recs) (hr : ∀ r ∈ recs, (stages P gl r.2.1 r.2.2.1 r.2.2.2 r.1 an (an.getD r.1 0) veq s.sts s.base || stages P gl r.2.1 r.2.2.1 r.2.2.2 r.1 an (an.getD r.1 0) veq (ZbL (Z2L (an.getD r.1 0) s.base s.new s.heap) s.sts) (Z2L (an.getD r.1 0) s.base s.new s.heap s.base)) = true) :
  ∀ (l : List Oper) (j : Nat), (∀ i, i < l.length -> bit s.done (j + i) = true /\ ops[j + i]? = l[i]?) -> Z1V P gl tm ops an s l j = true
 | [], j, hd => rfl
 | o :: l, j, hd => by
  simp only [Z1V, Bool.and_eq_true]
  refine ⟨?_, Z5N hW hr l (j + 1) fun i hi => ?_⟩
  · split
    · rename_i hk
      obtain ⟨h1, h2⟩ := hd 0 (by simp)
      simp only [Nat.add_zero] at h1 h2
      obtain ⟨o2, env, v, hat⟩ := hW.f j h1
      have : o2 = o := by have := hat.op; rw [h2] at this; simpa using this.symm
      subst this
      simp only [hat.val, hat.env]
      split
      · rename_i hw
        exact hr _ (hW.r.all j o2 env v h1 (Nat.eq_of_beq_eq_true hk) hat hw)
      · rfl
    · rfl
  · have := hd (i + 1) (by simpa using hi)
    rw [show j + (i + 1) = j + 1 + i from by omega] at this
    simpa using this
def Z7o : List Oper -> Bool
 | [] => true
 | o :: l => Nat.ble (kind o) 1 && Z7o l
theorem Z8A : ∀ {ops : List Oper} {i : Nat} {o : Oper}, Z7o ops = true -> ops[i]? = some o -> kind o <= 1
 | [], i, o, h, e => by simp at e
 | x :: l, 0, o, h, e => by simp [Z7o] at h e; subst e; exact h.1
 | x :: l, i + 1, o, h, e => by simp [Z7o] at h e; exact Z8A h.2 e
structure QI (ops : List Oper) (an : List Nat) (tm : Tr) (H0 : Z00) (s : DSt) : Prop where
 base : s.base = H0
 heap : s.heap = H0
 sts : s.sts = []
 done : ∀ i, bit s.done i = true -> ∃ o env v, At ops an tm s.vals i o env v /\ (Z0n ops env o = true -> Z0y P (Z1D gl env) H0 o = some v)
 vdone : ∀ (i : Nat) (v : AV), s.vals[i]? = some (some v) -> bit s.done i = true
theorem QI.start (ops : List Oper) (an : List Nat) (tm : Tr) (H : Z00) : QI P gl ops an tm H ⟨Z1x ops, 0, H, [], H, []⟩ :=
 ⟨rfl, rfl, rfl, fun i h => (by rw [Z1M] at h; cases h), fun i v h => (Z2I ops i v h).elim⟩
theorem Zio {ops : List Oper} {an : List Nat} {tm : Tr} {H0 : Z00} {i : Nat} {s s' : DSt} (hq : Z7o ops = true) (hl : s.vals.length = ops.length) (h : QI P gl ops an tm H0 s) (e : dstep P gl orc ops an tm i s = some s') : QI P gl ops an tm H0 s' /\ s'.vals.length = ops.length := by
 unfold dstep at e
 split at e
 · cases e
 · rename_i o ho
   have hk := Z8A hq ho
   have hil : i < s.vals.length := by rw [hl]; exact (List.getElem?_eq_some_iff.1 ho).1
   split at e
   · cases e
   · rename_i env henv
     split at e
     · cases e
     · rename_i hb
       have hnew : ∀ (v : AV), (Z0n ops env o = true -> Z0y P (Z1D gl env) H0 o = some v) -> QI P gl ops an tm H0 ⟨s.vals.set i (some v), Nat.lor s.done (2 ^ i), s.base, s.new, s.heap, s.sts⟩ /\ (s.vals.set i (some v)).length = ops.length := by
        intro v hv
        have hle : VLe s.vals (s.vals.set i (some v)) := Zc0 fun u hu => hb (h.vdone i u hu)
        refine ⟨⟨h.base, h.heap, h.sts, fun j hj => ?_, fun j u hu => ?_⟩, by simpa using hl⟩
        · rcases (Z4m _ _ _).1 hj with hj | rfl
          · obtain ⟨o', env', v', h1, h2⟩ := h.done j hj
            exact ⟨o', env', v', h1.mono hle, h2⟩
          · exact ⟨o, env, v, ⟨ho, Z3f hle _ _ henv, by simp [hil]⟩, hv⟩
        · refine (Z4m _ _ _).2 ?_
          simp only [List.getElem?_set] at hu
          split at hu
          · rename_i e; exact .inr e
          · exact .inl (h.vdone j u hu)
       split at e
       · rename_i hk2; omega
       · rename_i hk2; omega
       · split at e
         · rename_i hw
           split at e
           · rename_i r hr
             rw [Z2W] at e
             simp at e; subst e
             rw [h.heap] at hr
             exact hnew r fun _ => hr
           · cases e
         · rename_i hw
           simp at e; subst e
           exact hnew _ fun h => absurd h hw
theorem ZdM {ops : List Oper} {an : List Nat} {tm : Tr} {H0 : Z00} (hq : Z7o ops = true) : ∀ {l : List Nat} {s s' : DSt}, s.vals.length = ops.length -> QI P gl ops an tm H0 s -> Z8k P gl orc ops an tm l s = some s' -> QI P gl ops an tm H0 s'
 | [], s, s', hl, h, e => by simp [Z8k] at e; subst e; exact h
 | i :: l, s, s', hl, h, e => by
  simp only [Z8k] at e
  split at e
  · rename_i s1 h1
    obtain ⟨g1, g2⟩ := Zio P gl orc hq hl h h1
    exact ZdM hq g2 g1 e
  · cases e
theorem Z6m {ops : List Oper} {an : List Nat} {tm : Tr} {H0 : Z00} {s : DSt} (h : QI P gl ops an tm H0 s) : ∀ (l : List Oper) (j : Nat), (∀ i, i < l.length -> bit s.done (j + i) = true /\ ∃ o, ops[j + i]? = some o /\ l[i]? = some o) -> Z1V P gl tm ops an s l j = true
 | [], j, hd => rfl
 | o :: l, j, hd => by
  simp only [Z1V, Bool.and_eq_true]
  refine ⟨?_, Z6m h l (j + 1) fun i hi => ?_⟩
  · split
    · obtain ⟨h1, o', h2, h3⟩ := hd 0 (by simp)
      simp only [Nat.add_zero] at h1 h2
      simp at h3; subst h3
      obtain ⟨o2, env, v, hat, hv⟩ := h.done j h1
      have : o2 = o := by have := hat.op; rw [h2] at this; simpa using this.symm
      subst this
      simp only [hat.val, hat.env]
      split
      · rename_i hw
        rw [h.sts, h.base]
        simp only [stages, hv hw, Z3n, Bool.true_or]
      · rfl
    · rfl
  · obtain ⟨h1, o', h2, h3⟩ := hd (i + 1) (by simpa using hi)
    rw [show j + (i + 1) = j + 1 + i from by omega] at h1 h2
    exact ⟨h1, o', h2, by simpa using h3⟩
def frcNL : List Nat -> (List Nat -> Prop) -> Prop
 | [], k => k []
 | n :: l, k => Z9M n fun n => frcNL l fun l => k (n :: l)
theorem Z9L : ∀ (l : List Nat) (k : List Nat -> Prop), frcNL l k = k l
 | [], k => rfl
 | n :: l, k => by simp only [frcNL, Z3t, Z9L l]
noncomputable def ZgJ (ops : List Oper) (tm : Tr) (H : Z00) (k : Tr -> Z00 -> Prop) : Prop :=
 frcNL (Z3x ops []) fun an =>
 match Z6k ops an ops 0 && Z67 an 0 with
 | true => frcNL (Zlq ops an) fun ord => ZgI P gl orc cw ops an ord tm 0 H [] H [] [] fun tmc done base nw heap sts recs =>
  match Z64 an (Z0o sts) && Nat.beq (done + 1) (2 ^ ops.length) with
  | true => match Z7o ops with
   | true => k tmc heap
   | false => match nw with
    | [] => ZbU P gl an sts base (k tmc heap) recs
    | _ :: _ => Z56 P gl an sts base nw heap (k tmc heap) recs
  | false => False
 | false => False
theorem Zay {ops : List Oper} {an : List Nat} : ∀ {l : List Oper} {j i : Nat} {o : Oper}, Z6k ops an l j = true -> l[i]? = some o -> Z1l ops an (j + i) o = true
 | [], j, i, o, h, ho => by simp at ho
 | x :: l, j, i, o, h, ho => by
  simp only [Z6k, Bool.and_eq_true] at h
  cases i with
  | zero => simp at ho; subst ho; exact h.1
  | succ i => have := Zay h.2 (by simpa using ho); rwa [show j + 1 + i = j + (i + 1) from by omega] at this
theorem ZdO (hcw : Zan P orc cw) {ops : List Oper} {tm : Tr} {H : Z00} {k : Tr -> Z00 -> Prop} (h : ZgJ P gl orc cw ops tm H k) : ∃ tm' H', ZeU P gl orc ops tm H = some (tm', H') /\ k tm' H' := by
 unfold ZgJ at h
 rw [Z9L] at h
 split at h
 · rename_i h1
   have h1' := h1
   simp only [Bool.and_eq_true] at h1'
   have htm : ∀ i o, ops[i]? = some o -> Z1l ops (Z3x ops []) i o = true := fun i o ho => by have := Zay h1'.1 ho; rwa [Nat.zero_add] at this
   have hb : ∀ i, i < ops.length -> (Z3x ops []).getD i 0 < 2 ^ i := fun i hi => by have := Z2N _ 0 i h1'.2 (by rw [Z4p]; exact hi); rwa [Nat.zero_add] at this
   rw [Z9L] at h
   obtain ⟨s, tmc, recs, h2, hW, h⟩ := Zbh P gl orc cw hcw (tm := tm) (tmc := tm) (s := ⟨Z1x ops, 0, H, [], H, []⟩) (recs := []) htm hb
    ⟨VInv.start ops _ tm, ⟨fun r hr => by simp at hr, fun j o env v hj => by rw [Z1M] at hj; cases hj⟩, fun k hk => (by rw [Z1M] at hk; cases hk), fun t => rfl, shp.refl tm⟩ h
   split at h
   · rename_i h3
     have h3' := h3
     simp only [Bool.and_eq_true] at h3'
     have hdone := Nat.eq_of_beq_eq_true h3'.2
     have hall : ∀ i, i < ops.length -> bit s.done i = true := fun i hi => by rw [Ziw hdone]; simpa using hi
     have hfin : ∃ tm', Z1I s.vals ops 0 tm = some tm' := Z6u ops 0 tm (fun k hk => by rw [Nat.zero_add]; exact hW.v.known k (hall k hk)) fun o ho d hd => by
      obtain ⟨k, hk, hko⟩ := List.mem_iff_getElem.1 ho
      obtain ⟨x, hx⟩ := hW.v.dst k o d (hall k hk) (by rw [<- hko]; exact List.getElem?_eq_getElem hk) hd
      rw [<- hW.ex]; exact ZcP _ _ _ hx
     obtain ⟨tm', hfin⟩ := hfin
     have fin : Z1V P gl tm ops (Z3x ops []) s ops 0 = true -> ZeU P gl orc ops tm H = some (tm', s.heap) := by
      intro h4
      unfold ZeU
      simp only [h1, if_true, h2, h3'.1, h3'.2, h4, Bool.and_self, hfin]
     have hget : ∀ t, Z1u tm' t = Z1u tmc t := fun t => by
      rw [(Z3Y ops 0 tm tm' hfin).2 t _ rfl, <- hW.v.cur t]
      exact Z1Q ops 0 _ fun k o hk _ => by
       rw [Nat.zero_add]
       exact (hall k (List.getElem?_eq_some_iff.1 hk).1).symm
     have hex : ∀ t, tex tm' t = tex tmc t := fun t => by rw [Z4J hfin t, hW.ex t]
     have heq : tm' = tmc := ZbX ((Z7L hfin).symm.trans hW.sh) hget hex
     subst heq
     split at h
     · rename_i hq
       refine ⟨tm', s.heap, fin ?_, h⟩
       have hqi := ZdM P gl orc hq (Z1J ops) (QI.start P gl ops (Z3x ops []) tm H) h2
       exact Z6m P gl hqi ops 0 fun i hi => ⟨by rw [Nat.zero_add]; exact hall i hi, ops[i], by simp [hi], by simp [hi]⟩
     · split at h
       · obtain ⟨h4, h⟩ := Z8s P gl h
         exact ⟨tm', s.heap, fin (Z5N P gl hW (fun r hr => by rw [h4 r hr]; rfl) ops 0 fun i hi => ⟨by rw [Nat.zero_add]; exact hall i hi, by rw [Nat.zero_add]⟩), h⟩
       · skip
         obtain ⟨h4, h⟩ := Z7h P gl h
         exact ⟨tm', s.heap, fin (Z5N P gl hW h4 ops 0 fun i hi => ⟨by rw [Nat.zero_add]; exact hall i hi, by rw [Nat.zero_add]⟩), h⟩
   · exact h.elim
 · exact h.elim
end reg
end Go.Abs
end

section
namespace Go.Abs
open Go.RowKit
structure Stq (k : Nat) (sn : Z0j) (ι : Z0k) (H : Z00) (W : World) (sn' : Z0j) (ι' : Z0k) (H' : Z00) (W' : World) : Prop where
 rel : R sn' ι' H' W'
 le : ∀ a v, sn a = some v -> sn' a = some v
 fresh : ∀ (b : Nat) (o : AObj) p, H'[b]? = some o -> o.alive = true -> ι' b = some p -> W.heap.size <= p.blk \/ ∃ (b0 : Nat) (o0 : AObj) (p0 : Place), H[b0]? = some o0 /\ o0.alive = true /\ ι b0 = some p0 /\ p0.blk = p.blk
 frame : ∀ c, c < W.heap.size -> (∀ (b : Nat) (o : AObj) p, H[b]? = some o -> o.alive = true -> ι b = some p -> p.blk ≠ c) -> W'.heap[c]? = W.heap[c]?
 size : W.heap.size <= W'.heap.size
 os : W'.os = W.os
 tape : W'.tape = W.tape
 output : W'.output = W.output
 sfresh : ∀ a v, sn' a = some v -> sn a = some v \/ W.heap.size <= a.block \/ ∃ (b0 : Nat) (o0 : AObj) (p0 : Place), H[b0]? = some o0 /\ o0.alive = true /\ ι b0 = some p0 /\ p0.blk = a.block
 keep : ∀ b p, b < k -> ι b = some p -> ι' b = some p
theorem Stp.q {k : Nat} {sn sn' : Z0j} {ι ι' : Z0k} {H H' : Z00} {W W' : World} (h0 : R sn ι H W) (h : Stp sn ι H W sn' ι' H' W') : Stq k sn ι H W sn' ι' H' W' := by
 refine ⟨h.rel, h.le.sn, fun b o p hb ha hp => ?_, h.frame, h.size, h.os, h.tape, h.output, h.sfresh, fun b p _ hp => h.le.ι b p hp⟩
 rcases h.fresh b p hp with h1 | h1 | h1
 · have hbl : b < H.length := (h0.dom b).2 ⟨p, h1⟩
   have hg : H[b]? = some H[b] := List.getElem?_eq_getElem hbl
   obtain ⟨o', e1, _, _, e4⟩ := h.evo b _ hg
   rw [hb] at e1; simp at e1; subst e1
   exact .inr ⟨b, _, p, hg, e4 ha, h1, rfl⟩
 · exact .inl h1
 · exact .inr h1
theorem Stq.refl {k : Nat} {sn : Z0j} {ι : Z0k} {H : Z00} {W : World} (h : R sn ι H W) : Stq k sn ι H W sn ι H W := (Stp.refl h).q h
theorem Stq.trans {n : Nat} {sn sn1 sn2 : Z0j} {ι ι1 ι2 : Z0k} {H H1 H2 : Z00} {W W1 W2 : World} (h : Stq n sn ι H W sn1 ι1 H1 W1) (k : Stq n sn1 ι1 H1 W1 sn2 ι2 H2 W2) : Stq n sn ι H W sn2 ι2 H2 W2 := by
 have via : ∀ c, (W1.heap.size <= c \/ ∃ (b0 : Nat) (o0 : AObj) (p0 : Place), H1[b0]? = some o0 /\ o0.alive = true /\ ι1 b0 = some p0 /\ p0.blk = c) ->
   W.heap.size <= c \/ ∃ (b0 : Nat) (o0 : AObj) (p0 : Place), H[b0]? = some o0 /\ o0.alive = true /\ ι b0 = some p0 /\ p0.blk = c := by
  rintro c (h1 | ⟨b1, o1, p1, g1, g2, g3, rfl⟩)
  · exact .inl (Nat.le_trans h.size h1)
  · exact h.fresh b1 o1 p1 g1 g2 g3
 refine ⟨k.rel, fun a v e => k.le a v (h.le a v e), fun b o p hb ha hp => via _ (k.fresh b o p hb ha hp), fun c hc hno => ?_, Nat.le_trans h.size k.size, k.os.trans h.os, k.tape.trans h.tape, k.output.trans h.output, fun a v hv => ?_, fun b p hb hp => k.keep b p hb (h.keep b p hb hp)⟩
 · rw [k.frame c (by have := h.size; omega), h.frame c hc hno]
   intro b o p hb ha hp e
   rcases h.fresh b o p hb ha hp with h1 | ⟨b0, o0, p0, e1, e2, e3, e4⟩
   · omega
   · exact hno b0 o0 p0 e1 e2 e3 (by omega)
 · rcases k.sfresh a v hv with h1 | h1
   · exact h.sfresh a v h1
   · exact .inr (via _ h1)
def iot (m : List Nat) (ι : Z0k) : Z0k := fun b => match m[b]? with | some j => ι j | none => none
def Wk (m : List Nat) (u u2 : AV) : Prop := ∀ sn ι v, VR sn ι u v -> VR sn (iot m ι) u2 v
theorem Wk.noref {m : List Nat} {u : AV} (h : Z1N u [] = []) : Wk m u u := fun sn ι v hv => Z1g u [] v (fun b hb => by rw [h] at hb; cases hb) hv
theorem Wk.int {m : List Nat} {k : IntKind} {a b : Int} (h : a = b) : Wk m (.int k a) (.int k b) := by subst h; exact Wk.noref rfl
theorem Wk.bool {m : List Nat} {a b : Bool} (h : a = b) : Wk m (.bool a) (.bool b) := by subst h; exact Wk.noref rfl
theorem Wk.ptr {m : List Nat} {b b2 off off2 : Nat} (h : m[b2]? = some b) (e : off = off2) : Wk m (.ptr b off) (.ptr b2 off2) := by
 subst e
 intro sn ι v hv
 obtain ⟨p, h1, h2⟩ := hv.ptr
 simp only [VR]; exact ⟨p, by simp only [iot, h]; exact h1, h2⟩
theorem Wk.map {m : List Nat} {b b2 : Nat} (h : m[b2]? = some b) : Wk m (.map b) (.map b2) := by
 intro sn ι v hv
 obtain ⟨p, h1, h2⟩ := hv.map
 simp only [VR]; exact ⟨p, by simp only [iot, h]; exact h1, h2⟩
theorem Wk.slice {m : List Nat} {b b2 off off2 len len2 c c2 z z2 : Nat} (h : m[b2]? = some b) (eo : off = off2) (el : len = len2) (h1 : len2 <= c2) (h2 : c2 <= c) (ez : z = z2) : Wk m (.slice b off len c z) (.slice b2 off2 len2 c2 z2) := by
 subst eo; subst el; subst ez
 intro sn ι v hv
 obtain ⟨p, a, cap', g1, rfl, g2, g3, g4⟩ := hv.slice
 simp only [VR]; exact ⟨p, a, cap', by simp only [iot, h]; exact g1, rfl, h1, by omega, g4⟩
def WkL (m : List Nat) : List AV -> List AV -> Prop
 | [], [] => True
 | a :: l, b :: l2 => Wk m a b /\ WkL m l l2
 | _, _ => False
theorem WkL.lr {m : List Nat} {sn : Z0j} {ι : Z0k} : ∀ {l l2 : List AV} {vs : List Value}, WkL m l l2 -> LR sn ι l vs -> LR sn (iot m ι) l2 vs
 | [], [], vs, h, hv => by simpa [LR] using hv
 | a :: l, b :: l2, vs, h, hv => by
  simp only [LR] at hv ⊢
  obtain ⟨d, ds, rfl, h1, h2⟩ := hv
  exact ⟨d, ds, rfl, h.1 _ _ _ h1, WkL.lr h.2 h2⟩
 | [], _ :: _, vs, h, hv => h.elim
 | _ :: _, [], vs, h, hv => h.elim
theorem Wk.tuple {m : List Nat} {l l2 : List AV} (h : WkL m l l2) : Wk m (.tuple l) (.tuple l2) := by
 intro sn ι v hv
 obtain ⟨d, rfl, h2⟩ := hv.tuple
 exact Z45 (h.lr h2)
theorem Wk.func {m : List Nat} {fn : Fn} {f f2 c c2 : List AV} (h : WkL m f f2) (k : WkL m c c2) : Wk m (.func fn f c) (.func fn f2 c2) := by
 intro sn ι v hv
 obtain ⟨x, y, rfl, h1, h2⟩ := hv.func
 simp only [VR]; exact ⟨x, y, rfl, h.lr h1, k.lr h2⟩
def Znl (m : List Nat) (t t2 : Tr) : Prop := (∀ n u2, Z1u t2 n = some u2 -> ∃ u, Z1u t n = some u /\ Wk m u u2) /\ ∀ n, tex t2 n = true -> tex t n = true
def Zcb : (Nat -> Option AV) -> Tr -> Tr
 | _, .leaf => .leaf
 | g, .node x l r => .node (match x with | some _ => some (g 0) | none => none) (Zcb (fun i => g (Nat.add (Nat.mul 2 i) 1)) l) (Zcb (fun i => g (Nat.add (Nat.mul 2 i) 2)) r)
theorem Z4f : ∀ (t : Tr) (g : Nat -> Option AV) (n : Nat) (u : AV), Z1u (Zcb g t) n = some u -> g n = some u
 | .leaf, g, n, u, h => by simp [Zcb, Z1u] at h
 | .node x l r, g, 0, u, h => by cases x <;> simp [Zcb, Z1u] at h; exact h
 | .node x l r, g, n + 1, u, h => by
  simp only [Zcb, Z1u] at h
  split at h
  · rename_i hn
    have := Z4f l _ _ u h
    have hn' : n % 2 = 0 := hn
    have e : Nat.add (Nat.mul 2 (Nat.div n 2)) 1 = n + 1 := by show 2 * (n / 2) + 1 = n + 1; omega
    rw [e] at this; exact this
  · rename_i hn
    have := Z4f r _ _ u h
    have hn' : ¬ n % 2 = 0 := hn
    have e : Nat.add (Nat.mul 2 (Nat.div n 2)) 2 = n + 1 := by show 2 * (n / 2) + 2 = n + 1; omega
    rw [e] at this; exact this
theorem Z5n : ∀ (t : Tr) (g : Nat -> Option AV) (n : Nat), tex (Zcb g t) n = tex t n
 | .leaf, g, n => rfl
 | .node x l r, g, 0 => by cases x <;> rfl
 | .node x l r, g, n + 1 => by
  simp only [Zcb, tex]
  split <;> exact Z5n _ _ _
def Zfj : Tr -> Tr -> Bool
 | .leaf, _ => true
 | .node x l r, .node y l2 r2 => (match x, y with | some _, none => false | _, _ => true) && (Zfj l l2 && Zfj r r2)
 | .node .., .leaf => false
theorem Z9e : ∀ {t t2 : Tr}, Zfj t t2 = true -> ∀ n, tex t n = true -> tex t2 n = true
 | .leaf, t2, h, n, e => by simp [tex] at e
 | .node x l r, .node y l2 r2, h, 0, e => by
  simp only [Zfj, Bool.and_eq_true] at h
  cases x with
  | none => simp [tex] at e
  | some x => cases y with
   | none => simp at h
   | some y => rfl
 | .node x l r, .node y l2 r2, h, n + 1, e => by
  simp only [Zfj, Bool.and_eq_true] at h
  simp only [tex] at e ⊢
  split at e
  · exact Z9e h.2.1 _ e
  · exact Z9e h.2.2 _ e
 | .node .., .leaf, h, n, e => by simp [Zfj] at h
def SlotsGe (m : List Nat) (t : Tr) : List (Nat × AV) -> Prop
 | [] => True
 | (n, u2) :: l => (onO (Z1u t n) fun u => Wk m u u2) /\ SlotsGe m t l
theorem SlotsGe.get {m : List Nat} {t : Tr} : ∀ {l : List (Nat × AV)}, SlotsGe m t l -> ∀ n u2, Z2l n l = some u2 -> ∃ u, Z1u t n = some u /\ Wk m u u2
 | [], h, n, u2, e => by simp [Z2l] at e
 | (k, v) :: l, h, n, u2, e => by
  simp only [Z2l] at e
  split at e
  · rename_i hk
    have := Nat.eq_of_beq_eq_true hk; subst this
    simp at e; subst e
    exact Z03 h.1
  · exact h.2.get n u2 e
def EGe (m : List Nat) : List (AV × AV × Nat) -> List (AV × AV × Nat) -> Prop
 | [], [] => True
 | (k, v, n) :: l, (k2, v2, n2) :: l2 => Wk m k k2 /\ Wk m v v2 /\ n = n2 /\ EGe m l l2
 | _, _ => False
theorem EGe.er {m : List Nat} {sn : Z0j} {ι : Z0k} : ∀ {l l2 : List (AV × AV × Nat)} {es : List MapEntry}, EGe m l l2 -> ER sn ι l es -> ER sn (iot m ι) l2 es
 | [], [], es, h, e => by simpa [ER] using e
 | (k, v, n) :: l, (k2, v2, n2) :: l2, es, h, e => by
  obtain ⟨h1, h2, rfl, h4⟩ := h
  simp only [ER] at e ⊢
  obtain ⟨x, l', rfl, g1, g2, g3, g4⟩ := e
  exact ⟨x, l', rfl, h1 _ _ _ g1, h2 _ _ _ g2, g3, h4.er g4⟩
 | [], _ :: _, es, h, e => h.elim
 | _ :: _, [], es, h, e => h.elim
def TSGe (m : List Nat) : List (Nat × AV) -> List (Nat × AV) -> Prop
 | [], [] => True
 | x :: l, y :: l2 => x.1 = y.1 /\ Wk m x.2 y.2 /\ TSGe m l l2
 | _, _ => False
theorem TSGe.tsr {m : List Nat} {sn : Z0j} {ι : Z0k} {a : Array Value} : ∀ {l l2 : List (Nat × AV)}, TSGe m l l2 -> TSR sn ι l a -> TSR sn (iot m ι) l2 a
 | [], [], _, _ => trivial
 | x :: l, y :: l2, ⟨h1, h2, h3⟩, ⟨⟨v, e1, e2⟩, e3⟩ => ⟨⟨v, h1 ▸ e1, h2 _ _ _ e2⟩, h3.tsr e3⟩
 | [], _ :: _, h, _ => h.elim
 | _ :: _, [], h, _ => h.elim
def BodyGe (m : List Nat) : ABody -> ABody -> Prop
 | .cells cs ty, .cells cs2 ty2 => ty = ty2 /\ cs2.length <= cs.length /\ ∀ (i : Nat) (c2 : AV), cs2[i]? = some c2 -> ∃ c, cs[i]? = some c /\ Wk m c c2
 | .map es c, .map es2 c2 => c = c2 /\ EGe m es es2
 | .siter s p, .siter s2 p2 => s = s2 /\ p = p2
 | .loop g ts, .loop g2 ts2 => g = g2 /\ TSGe m ts ts2
 | _, _ => False
theorem BodyGe.pre {m : List Nat} {cs cs2 rest : List AV} {ty : TypeId} (e : cs = cs2 ++ rest) (h : refsL cs2 [] = []) : BodyGe m (.cells cs ty) (.cells cs2 ty) := by
 subst e
 refine ⟨rfl, by simp, fun i c hc => ⟨c, ?_, fun sn ι v hv => ?_⟩⟩
 · rw [List.getElem?_append_left (List.getElem?_eq_some_iff.1 hc).1]; exact hc
 · have key : ∀ (l : List AV), refsL l [] = [] -> ∀ (i : Nat) (c : AV), l[i]? = some c -> ∀ b, b ∈ Z1N c [] -> False := by
    intro l
    induction l with
    | nil => intro _ i c hc; simp at hc
    | cons x l ih =>
     intro hl i c hc b hb
     have hx : ∀ y, y ∈ Z1N x (refsL l []) -> False := fun y hy => by simp only [refsL] at hl; rw [hl] at hy; cases hy
     have hl' : refsL l [] = [] := by
      rw [List.eq_nil_iff_forall_not_mem]; intro y hy; exact hx y (Z1W x _ y hy)
     cases i with
     | zero => simp at hc; subst hc; rw [hl'] at hx; exact hx b hb
     | succ i => exact ih hl' i c (by simpa using hc) b hb
   exact Z1g c [] v (fun b hb => (key cs2 h i c hc b hb).elim) hv
theorem BodyGe.cellsL {m : List Nat} {cs cs2 : List AV} {ty : TypeId} (h : WkL m cs cs2) : BodyGe m (.cells cs ty) (.cells cs2 ty) := by
 refine ⟨rfl, ?_, ?_⟩
 · have : ∀ (l l2 : List AV), WkL m l l2 -> l2.length <= l.length := by
    intro l
    induction l with
    | nil => intro l2 h; cases l2 with | nil => simp | cons _ _ => exact h.elim
    | cons x l ih => intro l2 h; cases l2 with | nil => exact h.elim | cons _ _ => simp; exact ih _ h.2
   exact this _ _ h
 · have : ∀ (l l2 : List AV), WkL m l l2 -> ∀ (i : Nat) (c2 : AV), l2[i]? = some c2 -> ∃ c, l[i]? = some c /\ Wk m c c2 := by
    intro l
    induction l with
    | nil => intro l2 h i c2 hc; cases l2 with | nil => simp at hc | cons _ _ => exact h.elim
    | cons x l ih =>
     intro l2 h i c2 hc
     cases l2 with
     | nil => exact h.elim
     | cons y l2 => cases i with
      | zero => simp at hc; subst hc; exact ⟨x, rfl, h.1⟩
      | succ i => simpa using ih _ h.2 i c2 (by simpa using hc)
   exact this _ _ h
theorem BodyGe.or {m : List Nat} {sn : Z0j} {ι : Z0k} {W : World} {p : Place} : ∀ {b b2 : ABody}, BodyGe m b b2 -> OR sn ι W b p -> OR sn (iot m ι) W b2 p
 | .cells cs ty, .cells cs2 ty2, h, e => by
  obtain ⟨rfl, h1, h2⟩ := h
  simp only [OR] at e ⊢
  obtain ⟨arr, g1, g2, g3, g4⟩ := e
  refine ⟨arr, g1, g2, by omega, fun i c2 hc => ?_⟩
  obtain ⟨c, e1, e2⟩ := h2 i c2 hc
  obtain ⟨v, e3, e4⟩ := g4 i c e1
  exact ⟨v, e3, e2 _ _ _ e4⟩
 | .map es c, .map es2 c2, h, e => by
  obtain ⟨rfl, h1⟩ := h
  simp only [OR] at e ⊢
  obtain ⟨mes, g1, g2⟩ := e
  exact ⟨mes, g1, h1.er g2⟩
 | .siter s q, .siter s2 q2, h, e => by
  obtain ⟨rfl, rfl⟩ := h
  simpa only [OR] using e
 | .loop g ts, .loop g2 ts2, h, e => by
  obtain ⟨rfl, h2⟩ := h
  simp only [OR] at e ⊢
  obtain ⟨r, g1, g2, g3, g4⟩ := e
  exact ⟨r, g1, g2, g3, h2.tsr g4⟩
 | .cells _ _, .loop _ _, h, _ => h.elim
 | .map _ _, .loop _ _, h, _ => h.elim
 | .siter _ _, .loop _ _, h, _ => h.elim
 | .loop _ _, .cells _ _, h, _ => h.elim
 | .loop _ _, .map _ _, h, _ => h.elim
 | .loop _ _, .siter _ _, h, _ => h.elim
 | .cells _ _, .map _ _, h, _ => h.elim
 | .cells _ _, .siter _ _, h, _ => h.elim
 | .map _ _, .cells _ _, h, _ => h.elim
 | .map _ _, .siter _ _, h, _ => h.elim
 | .siter _ _, .cells _ _, h, _ => h.elim
 | .siter _ _, .map _ _, h, _ => h.elim
def HpGe (H : Z00) (m : List Nat) : List Nat -> Z00 -> Nat -> Prop
 | [], [], _ => True
 | j :: l, o2 :: H2, i => (onO H[j]? fun o => o.alive = true /\ o2.alive = true /\ o2.fam = i /\ o2.sh = o.sh /\ BodyGe m o.body o2.body) /\ HpGe H m l H2 (i + 1)
 | _, _, _ => False
theorem HpGe.get {H : Z00} {m : List Nat} : ∀ {l : List Nat} {H2 : Z00} {i : Nat}, HpGe H m l H2 i -> H2.length = l.length /\ ∀ b, b < l.length -> ∃ j o o2, l[b]? = some j /\ H[j]? = some o /\ H2[b]? = some o2 /\ o.alive = true /\ o2.alive = true /\ o2.fam = i + b /\ o2.sh = o.sh /\ BodyGe m o.body o2.body
 | [], [], i, h => ⟨rfl, fun b hb => by simp at hb⟩
 | j :: l, o2 :: H2, i, h => by
  obtain ⟨h1, h2⟩ := h
  obtain ⟨o, ho, e1, e2, e3, e4, e5⟩ := Z03 h1
  obtain ⟨k1, k2⟩ := h2.get
  refine ⟨by simp [k1], fun b hb => ?_⟩
  cases b with
  | zero => exact ⟨j, o, o2, rfl, ho, rfl, e1, e2, e3, e4, e5⟩
  | succ b =>
   obtain ⟨j', o', o2', x1, x2, x3, x4, x5, x6, x7, x8⟩ := k2 b (by simpa using hb)
   exact ⟨j', o', o2', by simpa using x1, x2, by simpa using x3, x4, x5, by omega, x7, x8⟩
 | [], _ :: _, i, h => h.elim
 | _ :: _, [], i, h => h.elim
def Z1r (H : Z00) (j : Nat) : Nat := match H[j]? with | some o => o.fam | none => 0
def Z0Q : List Nat -> Bool
 | [] => true
 | n :: l => !(mem n l) && Z0Q l
theorem Z4d : ∀ {l : List Nat} {i j : Nat} {x : Nat}, Z0Q l = true -> l[i]? = some x -> l[j]? = some x -> i = j
 | [], i, j, x, h, hi, hj => by simp at hi
 | n :: l, i, j, x, h, hi, hj => by
  simp only [Z0Q, Bool.and_eq_true, Bool.not_eq_true'] at h
  have nm : ∀ k, l[k]? = some n -> False := fun k hk => by
   have : mem n l = true := Z18.2 (List.mem_of_getElem? hk)
   rw [h.1] at this; cases this
  cases i with
  | zero => cases j with
   | zero => rfl
   | succ j => simp at hi hj; subst hi; exact (nm j hj).elim
  | succ i => cases j with
   | zero => simp at hi hj; subst hj; exact (nm i hi).elim
   | succ j => simp at hi hj; rw [Z4d h.2 hi hj]
def Zer : Nat -> Nat -> List Nat -> Bool
 | 0, _, _ => true
 | k + 1, i, j :: m => Nat.beq j i && Zer k (i + 1) m
 | _ + 1, _, [] => false
theorem Z9r : ∀ {k i : Nat} {m : List Nat}, Zer k i m = true -> ∀ b, b < k -> m[b]? = some (i + b)
 | 0, i, m, h, b, hb => by omega
 | k + 1, i, [], h, b, hb => by simp [Zer] at h
 | k + 1, i, j :: m, h, b, hb => by
  simp only [Zer, Bool.and_eq_true] at h
  have := Nat.eq_of_beq_eq_true h.1; subst this
  cases b with
  | zero => simp
  | succ b => have := Z9r h.2 b (by omega); simp only [List.getElem?_cons_succ, this]; congr 1; omega
structure Fg (k : Nat) (m : List Nat) (tm : Tr) (H : Z00) (tm2 : Tr) (H2 : Z00) : Prop where
 tr : Znl m tm tm2
 hp : HpGe H m m H2 0
 fams : Z0Q (m.map (Z1r H)) = true
 kp : Zer k 0 m = true
theorem Fg.sound {k : Nat} {m : List Nat} {tm tm2 : Tr} {H H2 : Z00} (h : Fg k m tm H tm2 H2) {sn : Z0j} {ι : Z0k} {W : World} {a : Act} (hR : R sn ι H W) (ht : TRel sn ι tm a) : Stq k sn ι H W sn (iot m ι) H2 W /\ TRel sn (iot m ι) tm2 a := by
 obtain ⟨hl, hg⟩ := h.hp.get
 have at2 : ∀ {b : Nat} {o2 : AObj} {p : Place}, H2[b]? = some o2 -> iot m ι b = some p -> ∃ j o, m[b]? = some j /\ H[j]? = some o /\ ι j = some p /\ o.alive = true /\ o2.alive = true /\ o2.fam = b /\ o2.sh = o.sh /\ BodyGe m o.body o2.body := by
  intro b o2 p hb hp
  obtain ⟨j, o, o2', x1, x2, x3, x4, x5, x6, x7, x8⟩ := hg b (by rw [<- hl]; exact (List.getElem?_eq_some_iff.1 hb).1)
  rw [hb] at x3; simp at x3; subst x3
  simp only [iot, x1] at hp
  exact ⟨j, o, x1, x2, hp, x4, x5, by omega, x7, x8⟩
 have hR2 : R sn (iot m ι) H2 W := by
  refine ⟨fun b => ⟨fun hb => ?_, fun ⟨p, hp⟩ => ?_⟩, fun b p hp => ?_, fun b o2 p hb ha hp => ?_, fun b b' o o' p p' hb hb' ha ha' hp hp' e => ?_, fun ad v hv => ?_, fun b o2 p hb hp e => ?_⟩
  · obtain ⟨j, o, o2, x1, x2, _⟩ := hg b (by omega)
    obtain ⟨p, hp⟩ := hR.place x2
    exact ⟨p, by simp only [iot, x1]; exact hp⟩
  · unfold iot at hp
    split at hp
    · rename_i j hj; rw [hl]; exact (List.getElem?_eq_some_iff.1 hj).1
    · cases hp
  · unfold iot at hp
    split at hp
    · exact hR.blk _ p hp
    · cases hp
  · obtain ⟨j, o, x1, x2, x3, x4, x5, x6, x7, x8⟩ := at2 hb hp
    exact x8.or (hR.obj j o p x2 x4 x3)
  · obtain ⟨j, q, x1, x2, x3, x4, x5, x6, x7, x8⟩ := at2 hb hp
    obtain ⟨j', q', y1, y2, y3, y4, y5, y6, y7, y8⟩ := at2 hb' hp'
    have hs := hR.sep j j' q q' p p' x2 y2 x4 y4 x3 y3 e
    have : b = b' := Z4d (l := m.map (Z1r H)) (x := q.fam) h.fams (by simp [x1, Z1r, x2]) (by simp [y1, Z1r, y2, hs.1])
    subst this
    exact ⟨by rw [x6, y6], by rw [x7, y7]; exact hs.2⟩
  · obtain ⟨h1, h2, h3⟩ := hR.snap ad v hv
    refine ⟨h1, h2, fun b o2 p hb ha hp => ?_⟩
    obtain ⟨j, o, x1, x2, x3, x4, _⟩ := at2 hb hp
    exact h3 j o p x2 x4 x3
  · obtain ⟨j, o, x1, x2, x3, x4, x5, x6, x7, x8⟩ := at2 hb hp
    exact hR.shz j o p x2 x3 (by omega)
 refine ⟨⟨hR2, fun _ _ h => h, fun b o2 p hb ha hp => ?_, fun _ _ _ => rfl, Nat.le_refl _, rfl, rfl, rfl, fun _ _ h => .inl h, fun b p hb hp => by have := Z9r h.kp b hb; simp only [Nat.zero_add] at this; simp only [iot, this]; exact hp⟩, fun t u2 hu => ?_, fun t hx => ht.2 t (h.tr.2 t hx)⟩
 · obtain ⟨j, o, x1, x2, x3, x4, _⟩ := at2 hb hp
   exact .inr ⟨j, o, p, x2, x4, x3, rfl⟩
 · obtain ⟨u, h1, h2⟩ := h.tr.1 t u2 hu
   obtain ⟨v, h3, h4⟩ := ht.1 t u h1
   exact ⟨v, h3, h2 _ _ _ h4⟩
theorem Z8g {sn sn' : Z0j} (h : ∀ a v, sn a = some v -> sn' a = some v) : Le sn sn' noI noI := ⟨h, fun _ _ h => h⟩
def FgS (k : Nat) (tm : Tr) (H : Z00) (tm2 : Tr) (H2 : Z00) : Prop :=
 ∀ (sn : Z0j) (ι : Z0k) (W : World) (a : Act), R sn ι H W -> TRel sn ι tm a -> ∃ sn' ι', Stq k sn ι H W sn' ι' H2 W /\ TRel sn' ι' tm2 a
theorem Fg.s {k : Nat} {m : List Nat} {tm tm2 : Tr} {H H2 : Z00} (h : Fg k m tm H tm2 H2) : FgS k tm H tm2 H2 := fun sn ι W a hR ht => ⟨sn, iot m ι, h.sound hR ht⟩
def FgLK (k : Nat) (t0 tm : Tr) (H : Z00) (l : List (Nat × AV)) (H2 : Z00) : Prop :=
 match Zfj t0 tm with
 | true => (∃ m, Zer k 0 m = true /\ SlotsGe m tm l /\ HpGe H m m H2 0 /\ Z0Q (m.map (Z1r H)) = true) \/ FgS k tm H (Zcb (fun n => Z2l n l) t0) H2
 | false => False
abbrev FgL := FgLK 0
theorem FgLK.fg {k : Nat} {t0 tm : Tr} {H : Z00} {l : List (Nat × AV)} {H2 : Z00} (h : FgLK k t0 tm H l H2) : FgS k tm H (Zcb (fun n => Z2l n l) t0) H2 := by
 unfold FgLK at h
 split at h
 · rename_i hs
   rcases h with ⟨m, h0, h1, h2, h3⟩ | h
   · exact Fg.s (m := m) ⟨⟨fun n u2 e => h1.get n u2 (Z4f _ _ _ _ e), fun n e => Z9e hs n (by rwa [Z5n] at e)⟩, h2, h3, h0⟩
   · exact h
 · exact h.elim
def Zkt (x : Option (Option AV)) (k : Option (Option AV) -> Prop) : Prop := match x with
 | none => k none
 | some none => k (some none)
 | some (some v) => Zf4 v fun v => k (some (some v))
theorem Zid (x : Option (Option AV)) (k : Option (Option AV) -> Prop) : Zkt x k = k x := by
 cases x with
 | none => rfl
 | some x => cases x with
  | none => rfl
  | some v => simp only [Zkt, Z2X]
def Z2z : Tr -> (Tr -> Prop) -> Prop
 | .leaf, k => k .leaf
 | .node x l r, k => Zkt x fun x => Z2z l fun l => Z2z r fun r => k (.node x l r)
theorem Z2f : ∀ (t : Tr) (k : Tr -> Prop), Z2z t k = k t
 | .leaf, k => rfl
 | .node x l r, k => by simp only [Z2z, Zid, Z2f l, Z2f r]
def ZkF (D : Nat) : Deferred := { target := .collected D, args := #[] }
def DefOK (W0 : World) (d0 : List Deferred) (ι : Z0k) (H : Z00) (W : World) (d : List Deferred) : Prop :=
 ∃ ds : List Nat, d = ds.map ZkF ++ d0 /\ ds.Nodup /\ ∀ D ∈ ds, W0.heap.size <= D /\ W.heap[D]? = some (.deferred (some [])) /\ ∀ (b : Nat) (o : AObj) p, H[b]? = some o -> o.alive = true -> ι b = some p -> p.blk ≠ D
theorem DefOK.eq {W0 W : World} {d0 d : List Deferred} {ι : Z0k} {H : Z00} (h : d = d0) : DefOK W0 d0 ι H W d := ⟨[], by simp [h], List.nodup_nil, fun _ h => by cases h⟩
theorem DefOK.trans {k : Nat} {W W1 W2 : World} {d d1 d2 : List Deferred} {sn1 sn2 : Z0j} {ι1 ι2 : Z0k} {H1 H2 : Z00} (hs : W.heap.size <= W1.heap.size) (h : DefOK W d ι1 H1 W1 d1) (s : Stq k sn1 ι1 H1 W1 sn2 ι2 H2 W2) (h2 : DefOK W1 d1 ι2 H2 W2 d2) : DefOK W d ι2 H2 W2 d2 := by
 obtain ⟨ds, rfl, n1, e1⟩ := h
 obtain ⟨ds2, rfl, n2, e2⟩ := h2
 have hlt : ∀ D ∈ ds, D < W1.heap.size := fun D hD => (Array.getElem?_eq_some_iff.1 (e1 D hD).2.1).1
 refine ⟨ds2 ++ ds, by simp, ?_, fun D hD => ?_⟩
 · rw [List.nodup_append]
   refine ⟨n2, n1, fun a ha b hb e => ?_⟩
   subst e
   have := (e2 a ha).1; have := hlt a hb; omega
 · rcases List.mem_append.1 hD with hD | hD
   · obtain ⟨g1, g2, g3⟩ := e2 D hD
     exact ⟨by omega, g2, g3⟩
   · obtain ⟨g1, g2, g3⟩ := e1 D hD
     refine ⟨g1, by rw [s.frame D (hlt D hD) g3]; exact g2, fun b o p hb ha hp e => ?_⟩
     rcases s.fresh b o p hb ha hp with f1 | ⟨b0, o0, p0, f1, f2, f3, f4⟩
     · have := hlt D hD; omega
     · exact g3 b0 o0 p0 f1 f2 f3 (f4.trans e)
structure Shut (ds : List Nat) (W W' : World) : Prop where
 other : ∀ c, c ∉ ds -> W'.heap[c]? = W.heap[c]?
 size : W'.heap.size = W.heap.size
 os : W'.os = W.os
 tape : W'.tape = W.tape
 output : W'.output = W.output
theorem Stq.shut {k : Nat} {ds : List Nat} {sn sn1 : Z0j} {ι ι1 : Z0k} {H H1 : Z00} {W W1 W2 : World} (s : Stq k sn ι H W sn1 ι1 H1 W1) (hd : ∀ D ∈ ds, W.heap.size <= D /\ W1.heap[D]? = some (.deferred (some [])) /\ ∀ (b : Nat) (o : AObj) p, H1[b]? = some o -> o.alive = true -> ι1 b = some p -> p.blk ≠ D) (h : Shut ds W1 W2) : Stq k sn ι H W sn1 ι1 H1 W2 := by
 have hR := s.rel
 refine ⟨⟨hR.dom, fun b p hp => by rw [h.size]; exact hR.blk b p hp, fun b o p hb ha hp => ?_, hR.sep, fun a v hv => ?_, hR.shz⟩, s.le, s.fresh, fun c hc hno => ?_, by rw [h.size]; exact s.size, h.os.trans s.os, h.tape.trans s.tape, h.output.trans s.output, s.sfresh, s.keep⟩
 · exact Z0N (Le.refl _ _) (h.other _ fun hm => (hd _ hm).2.2 b o p hb ha hp rfl) (hR.obj b o p hb ha hp)
 · obtain ⟨g1, g2, g3⟩ := hR.snap a v hv
   refine ⟨by rw [h.size]; exact g1, ?_, g3⟩
   rw [World.cell?_of_block (h.other _ fun hm => ?_)]
   · exact g2
   · have := (hd _ hm).2.1
     unfold World.cell? at g2
     rw [this] at g2; cases g2
 · rw [h.other c fun hm => by have := (hd _ hm).1; omega]
   exact s.frame c hc hno
def Tri (P : Program) (gl : Z0l) (rd : Option Nat) (k : Nat) (c : Code) (tm : Tr) (H : Z00) (Φ : AEx -> Tr -> Z00 -> Prop) : Prop :=
 ∀ (a : Act) (W : World) (sn : Z0j) (ι : Z0k) (Q : Exit -> Act -> World -> Prop), GlOK gl sn -> R sn ι H W -> TRel sn ι tm a ->
  (∀ x tm' H' a' W' sn' ι', Φ x tm' H' -> Stq k sn ι H W sn' ι' H' W' -> TRel sn' ι' tm' a' -> DefOK W a.defers ι' H' W' a'.defers -> Q (Zme x) a' W') -> c.wpIn (Fq rd) 0 P Q a W
def Zmd (kn : Tr -> Z00 -> Prop) (kx : Nat -> Tr -> Z00 -> Prop) (kr : Tr -> Z00 -> Prop) (x : AEx) (tm : Tr) (H : Z00) : Prop := match x with
 | .normal => kn tm H
 | .exit id => kx id tm H
 | .ret => kr tm H
def Z5T (k : Nat) (body : (Tr -> Z00 -> Prop) -> Tr -> Z00 -> Prop) (tm : Tr) (H : Z00) : Prop :=
 ∃ (S : Type) (I : S -> Prop) (L : S -> List (Nat × AV)) (B : S -> Z00) (μ : S -> Nat), (∃ s, I s /\ FgLK k tm tm H (L s) (B s)) /\
  ∀ s, I s -> Z2z (Zcb (fun n => Z2l n (L s)) tm) fun tm1 => Z1q (B s) fun H1 => body (fun tm' H' => ∃ s', I s' /\ μ s' < μ s /\ FgLK k tm tm' H' (L s') (B s')) tm1 H1
abbrev KN := Tr -> Z00 -> Prop
abbrev KX := Nat -> Tr -> Z00 -> Prop
structure LH where
 lp : ((Tr -> Z00 -> Prop) -> Tr -> Z00 -> Prop) -> Tr -> Z00 -> Prop
 rf : AV -> Array Tmp -> Code -> Code -> KN -> KX -> KN -> Tr -> Z00 -> Prop
def ZmY : AV -> Array Tmp -> Code -> Code -> KN -> KX -> KN -> Tr -> Z00 -> Prop := fun _ _ _ _ _ _ _ _ _ => False
def Z5i : LH := ⟨fun _ _ _ => False, ZmY⟩
def Z6h (k : Nat) : LH := ⟨Z5T k, ZmY⟩
abbrev Ze9 := Z6h 0
noncomputable def Z1t (P : Program) (gl : Z0l) (orc : Orc) (cw : CW) (lh : LH) (c : Code) : KN -> KX -> KN -> Tr -> Z00 -> Prop :=
 Code.rec (motive := fun _ => KN -> KX -> KN -> Tr -> Z00 -> Prop)
  (fun kn _ _ tm H => kn tm H)
  (fun _ ops draw kn _ _ tm H => match draw with
    | true => ZgJ P gl orc cw ops.toList tm H kn
    | false => ZjI P gl orc cw ops.toList ops.toList tm H kn)
  (fun _ _ iha ihb kn kx kr tm H => iha (fun tm H => ihb kn kx kr tm H) kx kr tm H)
  (fun c _ _ iha ihb kn kx kr tm H => onO (Z5G gl tm c) fun v => match v with
    | .bool t => (t = true -> iha kn kx kr tm H) /\ (t = false -> ihb kn kx kr tm H)
    | _ => False)
  (fun id _ ih kn kx kr tm H => ih kn (fun id' tm H => match Nat.beq id' id with | true => kn tm H | false => kx id' tm H) kr tm H)
  (fun _ ih _ kx kr tm H => lh.lp (fun kn tm H => ih kn kx kr tm H) tm H)
  (fun f ps asg bd _ _ kn kx kr tm H => onO (Z5G gl tm f) fun v => lh.rf v ps asg bd kn kx kr tm H)
  (fun id _ kx _ tm H => kx id tm H)
  (fun _ _ _ _ _ _ _ => False)
  (fun _ _ _ _ _ _ => False)
  (fun _ _ _ _ _ _ => False)
  (fun _ _ kr tm H => kr tm H)
  (fun _ _ _ _ _ _ => False) c
section code
variable {P : Program} {gl : Z0l} {orc : Orc} {k : Nat} {rd : Option Nat}
theorem Tri.mono {c : Code} {tm : Tr} {H : Z00} {Φ Ψ : AEx -> Tr -> Z00 -> Prop} (h : Tri P gl rd k c tm H Φ) (hk : ∀ x tm' H', Φ x tm' H' -> Ψ x tm' H') : Tri P gl rd k c tm H Ψ :=
 fun a W sn ι Q hg hR ht hQ => h a W sn ι Q hg hR ht fun x tm' H' a' W' sn' ι' hx => hQ x tm' H' a' W' sn' ι' (hk _ _ _ hx)
theorem Tri.seq {c d : Code} {tm : Tr} {H : Z00} {Φ : AEx -> Tr -> Z00 -> Prop} (h : Tri P gl rd k c tm H fun x tm1 H1 => match x with | .normal => Tri P gl rd k d tm1 H1 Φ | x => Φ x tm1 H1) : Tri P gl rd k (.seq c d) tm H Φ := by
 intro a W sn ι Q hg hR ht hQ
 refine wpIn_seq (h a W sn ι _ hg hR ht fun x tm1 H1 a1 W1 sn1 ι1 hx s1 t1 d1 => ?_)
 cases x with
 | normal =>
  show Code.wpIn (Fq rd) 0 P d Q a1 W1
  refine hx a1 W1 sn1 ι1 Q (hg.mono (Z8g s1.le)) s1.rel t1 fun x tm2 H2 a2 W2 sn2 ι2 hx2 s2 t2 d2 => ?_
  exact hQ _ _ _ _ _ _ _ hx2 (s1.trans s2) t2 (DefOK.trans s1.size d1 s2 d2)
 | exit id => exact hQ (.exit id) tm1 H1 _ _ _ _ hx s1 t1 d1
 | ret => exact hQ .ret tm1 H1 _ _ _ _ hx s1 t1 d1
theorem Tri.forget {c : Code} {tm : Tr} {H : Z00} {Φ : AEx -> Tr -> Z00 -> Prop} {tm2 : Tr} {H2 : Z00} (hf : FgS k tm H tm2 H2) (h : Tri P gl rd k c tm2 H2 Φ) : Tri P gl rd k c tm H Φ := by
 intro a W sn ι Q hg hR ht hQ
 obtain ⟨sn1, ι1, s1, t1⟩ := hf sn ι W a hR ht
 exact h a W sn1 ι1 Q (hg.mono (Z8g s1.le)) s1.rel t1 fun x tm' H' a' W' sn' ι' hx s2 t2 d2 => hQ x tm' H' a' W' sn' ι' hx (s1.trans s2) t2 d2
theorem Tri.loop {b : Code} {S : Type} {I : S -> Prop} {T : S -> Tr} {B : S -> Z00} {μ : S -> Nat} {Φ : AEx -> Tr -> Z00 -> Prop}
  (h : ∀ s, I s -> Tri P gl rd k b (T s) (B s) fun x tm' H' => match x with | .normal => ∃ s', I s' /\ μ s' < μ s /\ FgS k tm' H' (T s') (B s') | x => Φ x tm' H') {s : S} (h0 : I s) : Tri P gl rd k (.loop b) (T s) (B s) Φ := by
 have key : ∀ (n : Nat) (s : S), μ s < n -> I s -> ∀ (a : Act) (W : World) (sn : Z0j) (ι : Z0k) (Q : Exit -> Act -> World -> Prop), GlOK gl sn -> R sn ι (B s) W -> TRel sn ι (T s) a ->
   (∀ x tm' H' a' W' sn' ι', Φ x tm' H' -> Stq k sn ι (B s) W sn' ι' H' W' -> TRel sn' ι' tm' a' -> DefOK W a.defers ι' H' W' a'.defers -> Q (Zme x) a' W') -> Code.roundsIn (Fq rd) 0 P b Q n a W := by
  intro n
  induction n with
  | zero => intro s hs; omega
  | succ n ih =>
   intro s hs hI a W sn ι Q hg hR ht hQ
   rw [roundsIn_succ]
   refine h s hI a W sn ι _ hg hR ht fun x tm1 H1 a1 W1 sn1 ι1 hx s1 t1 d1 => ?_
   cases x with
   | normal =>
    show Code.roundsIn (Fq rd) 0 P b Q n a1 W1
    obtain ⟨s', hI', hs', hf⟩ := hx
    obtain ⟨sn2, ι2, s2, t2⟩ := hf sn1 ι1 W1 a1 s1.rel t1
    refine ih s' (by omega) hI' a1 W1 sn2 ι2 Q ((hg.mono (Z8g s1.le)).mono (Z8g s2.le)) s2.rel t2 fun x tm3 H3 a3 W3 sn3 ι3 hx3 s3 t3 d3 => ?_
    exact hQ _ _ _ _ _ _ _ hx3 ((s1.trans s2).trans s3) t3 (DefOK.trans s1.size d1 (s2.trans s3) d3)
   | exit id => exact hQ (.exit id) tm1 H1 _ _ _ _ hx s1 t1 d1
   | ret => exact hQ .ret tm1 H1 _ _ _ _ hx s1 t1 d1
 intro a W sn ι Q hg hR ht hQ
 exact wpIn_loop_rounds (μ s + 1) (key (μ s + 1) s (by omega) h0 a W sn ι Q hg hR ht hQ)
def Zmi (P : Program) (gl : Z0l) (rd : Option Nat) (k : Nat) (rf : AV -> Array Tmp -> Code -> Code -> KN -> KX -> KN -> Tr -> Z00 -> Prop) : Prop :=
 ∀ f v ps asg bd kn kx kr tm H, Z5G gl tm f = some v -> rf v ps asg bd kn kx kr tm H -> Tri P gl rd k (.rangeFunc f ps asg bd) tm H (Zmd kn kx kr)
theorem Z1b {rf : AV -> Array Tmp -> Code -> Code -> KN -> KX -> KN -> Tr -> Z00 -> Prop} (hrf : Zmi P gl rd k rf) (hm : P.follows .mixedOrders = true) (hn : NoNum P) (hO : Z06 P gl orc) {cw : CW} (hcw : Zan P orc cw) : ∀ (c : Code) {kn : Tr -> Z00 -> Prop} {kx : Nat -> Tr -> Z00 -> Prop} {kr : Tr -> Z00 -> Prop} {tm : Tr} {H : Z00},
  Z1t P gl orc cw ⟨Z5T k, rf⟩ c kn kx kr tm H -> Tri P gl rd k c tm H (Zmd kn kx kr)
 | .skip, kn, kx, kr, tm, H, h => fun a W sn ι Q hg hR ht hQ => by
  exact wpIn_skip (hQ .normal tm H a W sn ι h (Stq.refl hR) ht (DefOK.eq rfl))
 | .region id ops draw, kn, kx, kr, tm, H, h => fun a W sn ι Q hg hR ht hQ => by
  cases draw with
  | true =>
   replace h : ZgJ P gl orc cw ops.toList tm H kn := h
   obtain ⟨tm', H', h1, h⟩ := ZdO P gl orc cw hcw h
   exact Z84 hm hn hO hg hR ht h1 (fun a' W' sn' ι' s1 t1 d1 => hQ .normal tm' H' a' W' sn' ι' h (s1.q hR) t1 (DefOK.eq d1)) id
  | false =>
   replace h : ZjI P gl orc cw ops.toList ops.toList tm H kn := h
   obtain ⟨tm', H', h1, h⟩ := Z9m P gl orc cw hcw h
   exact wpIn_region_list (Z4n hn hO ops _ _ _ _ _ _ _ _ _ h1 hg hR ht fun a' W' sn' ι' s1 t1 d1 => hQ .normal tm' H' a' W' sn' ι' h (s1.q hR) t1 (DefOK.eq d1))
 | .seq c d, kn, kx, kr, tm, H, h => by
  replace h : Z1t P gl orc cw ⟨Z5T k, rf⟩ c (fun tm H => Z1t P gl orc cw ⟨Z5T k, rf⟩ d kn kx kr tm H) kx kr tm H := h
  refine Tri.seq ((Z1b hrf hm hn hO hcw c h).mono fun x tm1 H1 hx => ?_)
  cases x with
  | normal => exact Z1b hrf hm hn hO hcw d hx
  | exit id => exact hx
  | ret => exact hx
 | .cond e c d, kn, kx, kr, tm, H, h => fun a W sn ι Q hg hR ht hQ => by
  replace h : (onO (Z5G gl tm e) fun v => match v with
   | .bool t => (t = true -> Z1t P gl orc cw ⟨Z5T k, rf⟩ c kn kx kr tm H) /\ (t = false -> Z1t P gl orc cw ⟨Z5T k, rf⟩ d kn kx kr tm H)
   | _ => False) := h
  obtain ⟨v, hv, h⟩ := Z03 h
  split at h
  · rename_i t
    have he := (Z3y hg ht _ _ hv).bool
    cases t with
    | true => exact wpIn_cond_true he (Z1b hrf hm hn hO hcw c (h.1 rfl) a W sn ι Q hg hR ht hQ)
    | false => exact wpIn_cond_false he (Z1b hrf hm hn hO hcw d (h.2 rfl) a W sn ι Q hg hR ht hQ)
  · exact h.elim
 | .block id b, kn, kx, kr, tm, H, h => fun a W sn ι Q hg hR ht hQ => by
  replace h : Z1t P gl orc cw ⟨Z5T k, rf⟩ b kn (fun id' tm H => match Nat.beq id' id with | true => kn tm H | false => kx id' tm H) kr tm H := h
  refine wpIn_block (Z1b hrf hm hn hO hcw b h a W sn ι _ hg hR ht fun x tm1 H1 a1 W1 sn1 ι1 hx s1 t1 d1 => ?_)
  cases x with
  | normal => exact hQ .normal tm1 H1 _ _ _ _ hx s1 t1 d1
  | ret => exact hQ .ret tm1 H1 _ _ _ _ hx s1 t1 d1
  | exit id' =>
   show (if id' = id then Q .normal a1 W1 else Q (.exit id') a1 W1)
   have hx : (match Nat.beq id' id with | true => kn tm1 H1 | false => kx id' tm1 H1) := hx
   by_cases e : id' = id
   · rw [if_pos e]
     subst e
     have : Nat.beq id' id' = true := by simp
     rw [this] at hx
     exact hQ .normal tm1 H1 _ _ _ _ hx s1 t1 d1
   · rw [if_neg e]
     have : Nat.beq id' id = false := by cases hb : Nat.beq id' id with | false => rfl | true => exact (e (Nat.eq_of_beq_eq_true hb)).elim
     rw [this] at hx
     exact hQ (.exit id') tm1 H1 _ _ _ _ hx s1 t1 d1
 | .loop b, kn, kx, kr, tm, H, h => by
  replace h : Z5T k (fun kn tm H => Z1t P gl orc cw ⟨Z5T k, rf⟩ b kn kx kr tm H) tm H := h
  unfold Z5T at h
  obtain ⟨S, I, L, B, μ, ⟨s, h0, hf⟩, h⟩ := h
  refine Tri.forget hf.fg (Tri.loop (I := I) (T := fun s => Zcb (fun n => Z2l n (L s)) tm) (B := B) (μ := μ) (fun s hI => ?_) h0)
  have h := h s hI
  rw [Z2f, Z0F] at h
  refine (Z1b hrf hm hn hO hcw b h).mono fun x tm' H' hx => ?_
  cases x with
  | normal =>
   obtain ⟨s', k1, k2, k3⟩ := hx
   exact ⟨s', k1, k2, k3.fg⟩
  | exit id => exact hx
  | ret => exact hx
 | .exit id, kn, kx, kr, tm, H, h => fun a W sn ι Q hg hR ht hQ => by
  exact wpIn_exit (hQ (.exit id) tm H a W sn ι h (Stq.refl hR) ht (DefOK.eq rfl))
 | .ret, kn, kx, kr, tm, H, h => fun a W sn ι Q hg hR ht hQ => by
  exact wpIn_ret (hQ .ret tm H a W sn ι h (Stq.refl hR) ht (DefOK.eq rfl))
 | .rangeFunc f ps asg bd, kn, kx, kr, tm, H, h => by
  replace h : (onO (Z5G gl tm f) fun v => rf v ps asg bd kn kx kr tm H) := h
  obtain ⟨v, hv, h⟩ := Z03 h
  exact hrf f v ps asg bd kn kx kr tm H hv h
 | .scope .., kn, kx, kr, tm, H, h => (h : False).elim
 | .label .., kn, kx, kr, tm, H, h => (h : False).elim
 | .goto .., kn, kx, kr, tm, H, h => (h : False).elim
 | .refuse .., kn, kx, kr, tm, H, h => (h : False).elim
theorem Zhp (hm : P.follows .mixedOrders = true) (hn : NoNum P) (hO : Z06 P gl orc) {cw : CW} (hcw : Zan P orc cw) (c : Code) {kn : Tr -> Z00 -> Prop} {kx : Nat -> Tr -> Z00 -> Prop} {kr : Tr -> Z00 -> Prop} {tm : Tr} {H : Z00}
 (h : Z1t P gl orc cw (Z6h k) c kn kx kr tm H) : Tri P gl rd k c tm H (Zmd kn kx kr) := Z1b (fun _ _ _ _ _ _ _ _ _ _ _ h => h.elim) hm hn hO hcw c h
theorem Z33 {fuel : Nat} {cw : CW} (hcw : Zan P orc cw) : ∀ (c : Code) {kn : Tr -> Z00 -> Prop} {kx : Nat -> Tr -> Z00 -> Prop} {kr : Tr -> Z00 -> Prop} {tm : Tr} {H : Z00},
  Z1t P gl orc cw Z5i c kn kx kr tm H -> ∃ x tm' H', Z1o P gl orc fuel c tm H = some (x, tm', H') /\ Zmd kn kx kr x tm' H'
 | .skip, kn, kx, kr, tm, H, h => ⟨.normal, tm, H, rfl, h⟩
 | .region id ops draw, kn, kx, kr, tm, H, h => by
  cases draw with
  | true =>
   replace h : ZgJ P gl orc cw ops.toList tm H kn := h
   obtain ⟨tm', H', h1, h⟩ := ZdO P gl orc cw hcw h
   exact ⟨.normal, tm', H', by simp only [Z1o, if_true, h1], h⟩
  | false =>
   replace h : ZjI P gl orc cw ops.toList ops.toList tm H kn := h
   obtain ⟨tm', H', h1, h⟩ := Z9m P gl orc cw hcw h
   exact ⟨.normal, tm', H', by simp only [Z1o, Bool.false_eq_true, if_false, h1], h⟩
 | .seq c d, kn, kx, kr, tm, H, h => by
  replace h : Z1t P gl orc cw Z5i c (fun tm H => Z1t P gl orc cw Z5i d kn kx kr tm H) kx kr tm H := h
  obtain ⟨x, tm1, H1, h1, h⟩ := Z33 (fuel := fuel) hcw c h
  cases x with
  | normal =>
   obtain ⟨x2, tm2, H2, h2, h⟩ := Z33 (fuel := fuel) hcw d (show Z1t P gl orc cw Z5i d kn kx kr tm1 H1 from h)
   exact ⟨x2, tm2, H2, by simp only [Z1o, h1, h2], h⟩
  | exit id => exact ⟨.exit id, tm1, H1, by simp only [Z1o, h1], h⟩
  | ret => exact ⟨.ret, tm1, H1, by simp only [Z1o, h1], h⟩
 | .cond e c d, kn, kx, kr, tm, H, h => by
  replace h : (onO (Z5G gl tm e) fun v => match v with
   | .bool t => (t = true -> Z1t P gl orc cw Z5i c kn kx kr tm H) /\ (t = false -> Z1t P gl orc cw Z5i d kn kx kr tm H)
   | _ => False) := h
  obtain ⟨v, hv, h⟩ := Z03 h
  split at h
  · rename_i t
    cases t with
    | true => obtain ⟨x, tm1, H1, h1, h⟩ := Z33 (fuel := fuel) hcw c (h.1 rfl); exact ⟨x, tm1, H1, by simp only [Z1o, hv, h1], h⟩
    | false => obtain ⟨x, tm1, H1, h1, h⟩ := Z33 (fuel := fuel) hcw d (h.2 rfl); exact ⟨x, tm1, H1, by simp only [Z1o, hv, h1], h⟩
  · exact h.elim
 | .block id b, kn, kx, kr, tm, H, h => by
  replace h : Z1t P gl orc cw Z5i b kn (fun id' tm H => match Nat.beq id' id with | true => kn tm H | false => kx id' tm H) kr tm H := h
  obtain ⟨x, tm1, H1, h1, h⟩ := Z33 (fuel := fuel) hcw b h
  cases x with
  | normal => exact ⟨.normal, tm1, H1, by simp only [Z1o, h1], h⟩
  | ret => exact ⟨.ret, tm1, H1, by simp only [Z1o, h1], h⟩
  | exit id' =>
   have h : (match Nat.beq id' id with | true => kn tm1 H1 | false => kx id' tm1 H1) := h
   cases hb : Nat.beq id' id with
   | true => rw [hb] at h; exact ⟨.normal, tm1, H1, by simp only [Z1o, h1, hb, if_true], h⟩
   | false => rw [hb] at h; exact ⟨.exit id', tm1, H1, by simp only [Z1o, h1, hb, Bool.false_eq_true, if_false], h⟩
 | .loop b, kn, kx, kr, tm, H, h => (h : False).elim
 | .exit id, kn, kx, kr, tm, H, h => ⟨.exit id, tm, H, rfl, h⟩
 | .ret, kn, kx, kr, tm, H, h => ⟨.ret, tm, H, rfl, h⟩
 | .rangeFunc f ps asg bd, kn, kx, kr, tm, H, h => by
  replace h : (onO (Z5G gl tm f) fun _ => False) := h
  obtain ⟨_, _, h⟩ := Z03 h
  exact h.elim
 | .scope .., kn, kx, kr, tm, H, h => (h : False).elim
 | .label .., kn, kx, kr, tm, H, h => (h : False).elim
 | .goto .., kn, kx, kr, tm, H, h => (h : False).elim
 | .refuse .., kn, kx, kr, tm, H, h => (h : False).elim
theorem Z6q {fn : Func} {tmps : Array Value} {Q : Ending -> World -> Prop} : ∀ (ds : List Nat) (W : World), ds.Nodup -> (∀ D ∈ ds, W.heap[D]? = some (.deferred (some []))) ->
  (∀ W', Shut ds W W' -> ∃ v, (results fn tmps).run P W' = .ok v W' /\ Q (.returned v) W') -> LeavesInM (Fq none) 0 P fn tmps Q (ds.map ZkF) .returning W
 | [], W, hn, hd, h => by
  obtain ⟨v, h1, h2⟩ := h W ⟨fun _ _ => rfl, rfl, rfl, rfl, rfl⟩
  exact ⟨v, h1, h2⟩
 | D :: ds, W, hn, hd, h => by
  have hn' := List.nodup_cons.1 hn
  refine ⟨by simp, .inl ⟨D, W.putObj D (.deferred none), rfl, run_takeDeferred (hd D (by simp)), ?_⟩⟩
  have hlt : D < W.heap.size := (Array.getElem?_eq_some_iff.1 (hd D (by simp))).1
  refine Z6q ds _ hn'.2 (fun E hE => ?_) fun W' hs => h W' ?_
  · rw [World.putObj_heap_other (by rintro rfl; exact hn'.1 hE)]
    exact hd E (by simp [hE])
  · refine ⟨fun c hc => ?_, by rw [hs.size]; simp, hs.os, hs.tape, hs.output⟩
    simp only [List.mem_cons, not_or] at hc
    rw [hs.other c hc.2, World.putObj_heap_other hc.1]
theorem Z26 {f : Nat} {fn : Func} {c : Code} {args : List AV} {cargs : List Value} {H0 : Z00} {W : World} {sn : Z0j} {ι : Z0k} {Φ : AEx -> Tr -> Z00 -> Prop} {Q : Ending -> World -> Prop} (hf : P.funcs[f]? = some fn) (hc : fn.body = some c)
  (h : Tri P gl none k c (tmk (Z8a args fn.ntmps args.length) (Z8r 20 fn.ntmps)) H0 Φ) (hg : GlOK gl sn) (hR : R sn ι H0 W) (ha : LR sn ι args cargs) (hx : ∀ id tm H, ¬ Φ (.exit id) tm H)
  (hq : ∀ x tm1 H1 a1 W1 sn1 ι1, Φ x tm1 H1 -> Stq k sn ι H0 W sn1 ι1 H1 W1 -> TRel sn1 ι1 tm1 a1 -> ∃ v, (results fn a1.tmps).run P W1 = .ok v W1 /\ Q (.returned v) W1) : Calls P f cargs.toArray W Q := by
 refine Zbk.1 (callsIn_of_wp_marks (F := Fq none) (n := 0) hf hc trivial (h _ W sn ι _ hg hR (Z8q ha _ _ _) fun x tm1 H1 a1 W1 sn1 ι1 hx1 s1 t1 d1 => ?_))
 have key : LeavesInM (Fq none) 0 P fn a1.tmps Q a1.defers .returning W1 := by
  obtain ⟨ds, e, n1, hd⟩ := d1
  have e : a1.defers = ds.map ZkF := by rw [e]; simp
  rw [e]
  exact Z6q ds W1 n1 (fun D hD => (hd D hD).2.1) fun W2 hs => hq x tm1 H1 a1 W2 sn1 ι1 hx1 (s1.shut hd hs) t1
 cases x with
 | normal => exact key
 | ret => exact key
 | exit id => exact (hx id tm1 H1 hx1).elim
end code
end Go.Abs
end

section
namespace Go.Abs
open Go.RowKit
def Z0L (f : AV -> Option AV) : List AV -> Option (List AV)
 | [] => some []
 | c :: l => match f c, Z0L f l with | some x, some y => some (x :: y) | _, _ => none
def frz (H : Z00) : Nat -> AV -> Option AV
 | 0, _ => none
 | n + 1, u => match u with
  | .ptr b off => match H[b]? with
   | some o => match o.alive, o.body with
    | true, .cells cs _ => match Z0L (frz H n) (cs.drop off) with | some l => some (.rp l) | none => none
    | _, _ => none
   | none => none
  | .slice b off len _ z => match len with
   | 0 => some (.rs 0 z [])
   | _ + 1 => match H[b]? with
    | some o => match o.alive, o.body with
     | true, .cells cs _ => match tk (len * z) (cs.drop off) with
      | some cs => match Z0L (frz H n) cs with | some l => some (.rs len z l) | none => none
      | none => none
     | _, _ => none
    | none => none
  | .agg cs => match Z0L (frz H n) cs with | some l => some (.agg l) | none => none
  | .tuple cs => match Z0L (frz H n) cs with | some l => some (.tuple l) | none => none
  | .iface t v => match frz H n v with | some x => some (.iface t x) | none => none
  | .func fn f c => match Z0L (frz H n) f, Z0L (frz H n) c with | some f, some c => some (.func fn f c) | _, _ => none
  | .map _ => none
  | u => some u
section frz
variable {sn : Z0j} {ι : Z0k} {H : Z00} {W : World} {g : Nat}
theorem Z0O {f : AV -> Option AV} {sn' : Z0j} (hf : ∀ u r v, f u = some r -> VR sn ι u v -> VR sn' noI r v) : ∀ {l l' : List AV} {vs : List Value}, Z0L f l = some l' -> LR sn ι l vs -> LR sn' noI l' vs
 | [], l', vs, h, e => by simp [Z0L] at h; subst h; simpa [LR] using e
 | c :: l, l', vs, h, e => by
  simp only [Z0L] at h
  split at h <;> simp at h
  rename_i x y hx hy
  subst h
  simp only [LR] at e ⊢
  obtain ⟨d, ds, rfl, h1, h2⟩ := e
  exact ⟨d, ds, rfl, hf _ _ _ hx h1, Z0O hf hy h2⟩
theorem Z5s {f : AV -> Option AV} : ∀ {l l' : List AV}, Z0L f l = some l' -> l'.length = l.length /\ ∀ (i : Nat) (x : AV), l'[i]? = some x -> ∃ c, l[i]? = some c /\ f c = some x
 | [], l', h => by simp [Z0L] at h; subst h; simp
 | c :: l, l', h => by
  simp only [Z0L] at h
  split at h <;> simp at h
  rename_i x y hx hy
  subst h
  obtain ⟨h1, h2⟩ := Z5s hy
  refine ⟨by simp [h1], fun i z hz => ?_⟩
  cases i with
  | zero => simp at hz; subst hz; exact ⟨c, rfl, hx⟩
  | succ i => simpa using h2 i z (by simpa using hz)
theorem Z2v {sn : Z0j} : ∀ {us : List AV} {b o : Nat}, (∀ (i : Nat) (u : AV), us[i]? = some u -> ∃ v, sn ⟨b, o + i, none⟩ = some v /\ VR sn noI u v) -> MR sn us b o
 | [], b, o, h => by simp [MR]
 | u :: us, b, o, h => by
  simp only [MR]
  refine ⟨by simpa using h 0 u rfl, Z2v fun i x hx => ?_⟩
  have := h (i + 1) x (by simpa using hx)
  rwa [show o + (i + 1) = o + 1 + i from by omega] at this
theorem Zb6 (hR : R sn ι H W) (hfr : ∀ (b : Nat) (o : AObj) p, H[b]? = some o -> o.alive = true -> ι b = some p -> g <= p.blk) :
  ∀ (n : Nat) (u r : AV) (v : Value), frz H n u = some r -> VR sn ι u v -> VR (snx sn g W) noI r v := by
 have hle : Le sn (snx sn g W) noI noI := ⟨fun a v hv => by
  unfold snx
  split
  · exact hv
  · exact (hR.snap a v hv).2.1, fun _ _ h => h⟩
 intro n
 induction n with
 | zero => intro u r v h; simp [frz] at h
 | succ n ih =>
  have cells : ∀ {b : Nat} {o : AObj} {p : Place} {cs l : List AV} {ty : TypeId} {off : Nat}, H[b]? = some o -> o.alive = true -> o.body = .cells cs ty -> ι b = some p -> Z0L (frz H n) (cs.drop off) = some l -> MR (snx sn g W) l p.blk (p.sh + off) := by
   intro b o p cs l ty off ho ha hb hp hl
   obtain ⟨_, h2⟩ := Z5s hl
   have hor := hR.obj b o p ho ha hp
   rw [hb] at hor
   simp only [OR] at hor
   obtain ⟨arr, k1, k2, k3, k4⟩ := hor
   refine Z2v fun i x hx => ?_
   obtain ⟨c, hc, hcx⟩ := h2 i x hx
   rw [List.getElem?_drop] at hc
   obtain ⟨v, e1, e2⟩ := k4 (off + i) c hc
   refine ⟨v, ?_, ih c x v hcx e2⟩
   have hge := hfr b o p ho ha hp
   unfold snx
   rw [if_neg (by show ¬ p.blk < g; omega), Z25 k1]
   rw [<- e1]; congr 1; omega
  intro u r v h hv
  unfold frz at h
  split at h
  · rename_i b off
    split at h <;> try (simp at h; done)
    rename_i o ho
    split at h <;> try (simp at h; done)
    rename_i cs ty ha hb
    split at h <;> simp at h
    rename_i l hl
    subst h
    obtain ⟨p, hp, rfl⟩ := hv.ptr
    simp only [VR]
    exact ⟨_, _, rfl, cells ho ha hb hp hl⟩
  · rename_i b off len cap z
    obtain ⟨p, a, cap', hp, rfl, h1, h2, h3⟩ := hv.slice
    split at h
    · simp at h; subst h
      simp only [VR]
      exact .inr ⟨a, cap', rfl, by omega, by simp, by simp [MR], fun h => absurd rfl h⟩
    · rename_i len
      split at h <;> try (simp at h; done)
      rename_i o ho
      split at h <;> try (simp at h; done)
      rename_i cs ty ha hb
      split at h <;> try (simp at h; done)
      rename_i cs' hcs
      split at h <;> simp at h
      rename_i l hl
      subst h
      obtain ⟨ha', _⟩ := h3 (by omega)
      subst ha'
      obtain ⟨e1, rfl⟩ := Z3N hcs
      obtain ⟨f1, f2⟩ := Z5s hl
      simp only [VR]
      refine .inr ⟨_, cap', rfl, by omega, ?_, ?_, fun _ => rfl⟩
      · rw [f1, List.length_take]; exact Nat.min_eq_left e1
      · have hor := hR.obj b o p ho ha hp
        rw [hb] at hor
        simp only [OR] at hor
        obtain ⟨arr, k1, k2, k3, k4⟩ := hor
        refine Z2v fun i x hx => ?_
        obtain ⟨c, hc, hcx⟩ := f2 i x hx
        rw [List.getElem?_take] at hc
        split at hc <;> try (simp at hc; done)
        rw [List.getElem?_drop] at hc
        obtain ⟨v, g1, g2⟩ := k4 (off + i) c hc
        refine ⟨v, ?_, ih c x v hcx g2⟩
        have hge := hfr b o p ho ha hp
        unfold snx
        rw [if_neg (by show ¬ p.blk < g; omega), Z25 k1]
        rw [<- g1]; congr 1; simp only; omega
  · split at h <;> simp at h
    rename_i l hl; subst h
    obtain ⟨d, rfl, h1⟩ := hv.agg
    exact Z3K (Z0O ih hl h1)
  · split at h <;> simp at h
    rename_i l hl; subst h
    obtain ⟨d, rfl, h1⟩ := hv.tuple
    exact Z45 (Z0O ih hl h1)
  · split at h <;> simp at h
    rename_i x hx; subst h
    obtain ⟨y, rfl, h1⟩ := hv.iface
    simp only [VR]; exact ⟨y, rfl, ih _ _ _ hx h1⟩
  · split at h <;> simp at h
    rename_i f c hf hc; subst h
    obtain ⟨x, y, rfl, h1, h2⟩ := hv.func
    simp only [VR]; exact ⟨x, y, rfl, Z0O ih hf h1, Z0O ih hc h2⟩
  · simp at h
  · rename_i e1 e2 e3 e4 e5 e6 e7
    simp at h; subst h
    cases u with
    | ptr b o => exact (e1 _ _ rfl).elim
    | slice b o l c z => exact (e2 _ _ _ _ _ rfl).elim
    | agg cs => exact (e3 _ rfl).elim
    | tuple cs => exact (e4 _ rfl).elim
    | iface t v => exact (e5 _ _ rfl).elim
    | func fn f c => exact (e6 _ _ _ rfl).elim
    | map b => exact (e7 _ rfl).elim
    | _ => exact Z0W (ι := noI) hle _ _ (Z1g (ι := ι) _ [] _ (fun b hb => by simp [Z1N] at hb) hv)
end frz
def ValOK (P : Program) (gl : Z0l) (f : Nat) (args : List AV) (r : AV) : Prop :=
 ∀ (sn : Z0j) (W : World) (cargs : List Value), GlOK gl sn -> R sn noI [] W -> LR sn noI args cargs ->
  Calls P f cargs.toArray W fun e W' => ∃ v, e = .returned v /\ Ext W W' /\ VR (snx sn W.heap.size W') noI r v
theorem R.none {sn : Z0j} {ι : Z0k} {H : Z00} {W : World} (h : R sn ι H W) : R sn noI [] W :=
 ⟨fun b => ⟨fun hb => by simp at hb, fun ⟨p, hp⟩ => by simp [noI] at hp⟩, fun b p hp => by simp [noI] at hp, fun b o p hb => by simp at hb, fun b b' o o' p p' hb => by simp at hb,
   fun a v hv => ⟨(h.snap a v hv).1, (h.snap a v hv).2.1, fun b o p hb => by simp at hb⟩, fun b o p hb => by simp at hb⟩
theorem Stq.ext {k : Nat} {sn sn' : Z0j} {ι' : Z0k} {H' : Z00} {W W' : World} (h : Stq k sn noI [] W sn' ι' H' W') : Ext W W' :=
 ⟨fun c hc => h.frame c hc fun b o p hb => by simp at hb, h.size, h.os, h.tape, h.output⟩
def ZiU (F : Nat -> List AV -> Option AV) : Orc := fun f args H => match F f args with | some r => some (r, H) | none => none
theorem Z5Q {P : Program} {gl : Z0l} {F : Nat -> List AV -> Option AV} (h : ∀ f args r, F f args = some r -> refsL args [] = [] /\ ValOK P gl f args r) : Z06 P gl (ZiU F) := by
 intro f args H r H' hf sn ι W cargs hg hR ha
 unfold ZiU at hf
 split at hf <;> simp at hf
 rename_i r' hr
 obtain ⟨rfl, rfl⟩ := hf
 obtain ⟨h1, h2⟩ := h f args r' hr
 refine .inl ((h2 sn W cargs hg hR.none (LR_refs args [] _ (fun b hb => by rw [h1] at hb; cases hb) ha)).mono ?_)
 rintro e W' ⟨v, rfl, hx, hv⟩
 exact ⟨v, _, ι, rfl, Z88 hv, Stp.snap hR hx⟩
def Z1v (o1 o2 : Orc) : Orc := fun f args H => match o1 f args H with | some r => some r | none => o2 f args H
theorem Z1z {P : Program} {gl : Z0l} {o1 o2 : Orc} (h1 : Z06 P gl o1) (h2 : Z06 P gl o2) : Z06 P gl (Z1v o1 o2) := by
 intro f args H r H' hf
 unfold Z1v at hf
 split at hf
 · rename_i x hx
   simp at hf; subst hf
   exact h1 f args H r H' hx
 · exact h2 f args H r H' hf
def Z0J : List AV -> AV
 | [v] => v
 | vs => .tuple vs
def Zeu (P : Program) (gl : Z0l) (orc : Orc) (isC : Nat -> Bool) : Nat -> Orc
 | 0 => orc
 | n + 1 => fun f args H => match isC f || !(Z0C P f) with | true => orc f args H | false => ZgZ P gl (Zeu P gl orc isC n) 0 f args H
theorem Z0K {P : Program} {gl : Z0l} {orc : Orc} {isC : Nat -> Bool} (hm : P.follows .mixedOrders = true) (hn : NoNum P) (hO : Z06 P gl orc) : ∀ n, Z06 P gl (Zeu P gl orc isC n)
 | 0 => hO
 | n + 1 => by
  intro f args H r H' hf
  simp only [Zeu] at hf
  split at hf
  · exact hO f args H r H' hf
  · exact Zcr (fuel := 0) hm hn (Z0K hm hn hO n) f args H r H' hf
noncomputable def Zhq (P : Program) (gl : Z0l) (orc : Orc) (isC : Nat -> Bool) : Nat -> CW :=
 Nat.rec (motive := fun _ => CW) (cw0 P orc) (fun n ih g args H k => match isC g || !(Z0C P g) with
  | true => ∃ y, Z04 P orc H g args = some y /\ Z7E y.1 fun r => Z1q y.2 fun H' => k r H'
  | false => onO P.funcs[g]? fun fn => onO fn.body fun c => Z2z (tmk (Z8a args fn.ntmps args.length) (Z8r 20 fn.ntmps)) fun tm =>
   Z1t P gl (Zeu P gl orc isC n) ih Z5i c (fun tm H => onO (Z3i P tm H fn.results.toList) fun vs => Z7E (Z0J vs) fun r => k r H) (fun _ _ _ => False) (fun tm H => onO (Z3i P tm H fn.results.toList) fun vs => Z7E (Z0J vs) fun r => k r H) tm H)
def Zcg (P : Program) (l : List ResultVar) (Φ : AV -> Prop) (tm : Tr) (H : Z00) : Prop := onO (Z3i P tm H l) fun vs => ∃ r, frz H 30 (Z0J vs) = some r /\ Φ r
theorem Z1j {P : Program} {gl : Z0l} {orc : Orc} {isC : Nat -> Bool} : ∀ n, Zan P (Zeu P gl orc isC n) (Zhq P gl orc isC n)
 | 0 => Z3G P orc
 | n + 1 => by
  intro g args H k h
  replace h : (match isC g || !(Z0C P g) with
   | true => ∃ y, Z04 P orc H g args = some y /\ Z7E y.1 fun r => Z1q y.2 fun H' => k r H'
   | false => onO P.funcs[g]? fun fn => onO fn.body fun c => Z2z (tmk (Z8a args fn.ntmps args.length) (Z8r 20 fn.ntmps)) fun tm =>
    Z1t P gl (Zeu P gl orc isC n) (Zhq P gl orc isC n) Z5i c (fun tm H => onO (Z3i P tm H fn.results.toList) fun vs => Z7E (Z0J vs) fun r => k r H) (fun _ _ _ => False) (fun tm H => onO (Z3i P tm H fn.results.toList) fun vs => Z7E (Z0J vs) fun r => k r H) tm H) := h
  split at h
  · obtain ⟨y, h1, h2⟩ := h
    rename_i hc
    rw [Z2w, Z0F] at h2
    refine ⟨y.1, y.2, ?_, h2⟩
    have ho : Zeu P gl orc isC (n + 1) g = orc g := by funext args H; simp only [Zeu, hc]
    have hy : yl (Zeu P gl orc isC (n + 1)) H g args = yl orc H g args := by unfold yl; simp only [ho]
    unfold Z04 at h1 ⊢
    rw [ho, hy]; exact h1
  · rename_i hb
    have hi : isC g = false := by cases hq : isC g with | false => rfl | true => rw [hq] at hb; simp at hb
    have hb' : Z0C P g = true := by cases hq : Z0C P g with | true => rfl | false => rw [hq] at hb; simp at hb
    obtain ⟨fn, hfn, h⟩ := Z03 h
    obtain ⟨c, hc, h⟩ := Z03 h
    rw [Z2f] at h
    unfold Z04
    rw [if_pos hb']
    simp only [Zeu, hi, hb', Bool.not_true, Bool.or_false]
    obtain ⟨x, tm1, H1, h1, h⟩ := Z33 (fuel := 0) (Z1j n) c h
    have fin : ∀ {tm1 H1}, (onO (Z3i P tm1 H1 fn.results.toList) fun vs => Z7E (Z0J vs) fun r => k r H1) -> ∃ us, Z3i P tm1 H1 fn.results.toList = some us /\ k (Z0J us) H1 := fun h => by
     obtain ⟨us, e1, e2⟩ := Z03 h
     rw [Z2w] at e2
     exact ⟨us, e1, e2⟩
    have done : ∀ {us : List AV}, Z3i P tm1 H1 fn.results.toList = some us -> (x = .normal \/ x = .ret) -> ZgZ P gl (Zeu P gl orc isC n) 0 g args H = some (Z0J us, H1) := by
     intro us e hx
     unfold ZgZ
     simp only [hfn, hc, frcVL_eq, Z9N, h1]
     rcases hx with rfl | rfl
     all_goals
      simp only [e]
      match us with
      | [] => rfl
      | [u] => rfl
      | u :: u' :: l => rfl
    cases x with
    | normal => obtain ⟨us, e1, e2⟩ := fin h; exact ⟨_, _, done e1 (.inl rfl), e2⟩
    | exit id => exact (h : False).elim
    | ret => obtain ⟨us, e1, e2⟩ := fin h; exact ⟨_, _, done e1 (.inr rfl), e2⟩
theorem fn_valXR {rf : AV -> Array Tmp -> Code -> Code -> KN -> KX -> KN -> Tr -> Z00 -> Prop} {Φ : AV -> Prop} {P : Program} {gl : Z0l} {orc : Orc} (hrf : Zmi P gl none 0 rf) (hm : P.follows .mixedOrders = true) (hn : NoNum P) (hO : Z06 P gl orc) {f : Nat} {fn : Func} {c : Code} {args : List AV} {r : AV} (hΦ : ∀ r', Φ r' -> ∀ sn v, VR sn noI r' v -> VR sn noI r v)
  (hf : P.funcs[f]? = some fn) (hc : fn.body = some c)
  {cw : CW} (hcw : Zan P orc cw)
  (h : Z2z (tmk (Z8a args fn.ntmps args.length) (Z8r 20 fn.ntmps)) fun tm => Z1t P gl orc cw ⟨Z5T 0, rf⟩ c (Zcg P fn.results.toList Φ) (fun _ _ _ => False) (Zcg P fn.results.toList Φ) tm []) : ValOK P gl f args r := by
 intro sn W cargs hg hR ha
 rw [Z2f] at h
 refine Z26 hf hc (Z1b (rd := none) hrf hm hn hO hcw c h) hg hR ha (fun _ _ _ h => h) fun x tm1 H1 a1 W1 sn1 ι1 hx s1 t1 => ?_
 have key : Zcg P fn.results.toList Φ tm1 H1 -> ∃ v, (results fn a1.tmps).run P W1 = .ok v W1 /\ VR (snx sn W.heap.size W1) noI r v := by
  intro h
  obtain ⟨us, h1, r', h2, h3⟩ := Z03 h
  obtain ⟨vs, h4, h5⟩ := Z13 s1.rel t1 _ _ h1
  have hle : Le (snx sn1 W.heap.size W1) (snx sn W.heap.size W1) noI noI := ⟨fun a v hv => by
   unfold snx at hv ⊢
   split at hv
   · rename_i hlt
     rw [if_pos hlt]
     rcases s1.sfresh a v hv with h | h | ⟨b0, o0, p0, hb, _⟩
     · exact h
     · omega
     · simp at hb
   · rename_i hlt
     rw [if_neg hlt]; exact hv, fun _ _ h => h⟩
  have hfr : ∀ (b : Nat) (o : AObj) p, H1[b]? = some o -> o.alive = true -> ι1 b = some p -> W.heap.size <= p.blk := by
   intro b o p hb ha hp
   rcases s1.fresh b o p hb ha hp with h | ⟨b0, o0, p0, hb, _⟩
   · exact h
   · simp at hb
  refine ⟨_, Z1c h5, hΦ _ h3 _ _ (Z0W hle _ _ (Zb6 s1.rel hfr 30 _ _ _ h2 ?_))⟩
  clear h1 h2 h3
  match us, h4 with
  | [], h4 => simp only [LR] at h4; subst h4; simp [Z0J, VR, LR]
  | [u], h4 =>
   simp only [LR] at h4
   obtain ⟨d, ds, rfl, hd, rfl⟩ := h4
   simpa [Z0J] using hd
  | u :: u' :: l, h4 =>
   have hl := h4.length
   simp only [List.length_cons] at hl
   have : vs.toArray.size ≠ 1 := by simp [hl]
   rw [dif_neg this]
   simp only [Z0J, VR]
   exact ⟨_, rfl, h4⟩
 cases x with
 | normal =>
  obtain ⟨v, k1, k2⟩ := key hx
  exact ⟨v, k1, v, rfl, s1.ext, k2⟩
 | exit id => exact hx.elim
 | ret =>
  obtain ⟨v, k1, k2⟩ := key hx
  exact ⟨v, k1, v, rfl, s1.ext, k2⟩
theorem fn_valX {Φ : AV -> Prop} {P : Program} {gl : Z0l} {orc : Orc} (hm : P.follows .mixedOrders = true) (hn : NoNum P) (hO : Z06 P gl orc) {f : Nat} {fn : Func} {c : Code} {args : List AV} {r : AV} (hΦ : ∀ r', Φ r' -> ∀ sn v, VR sn noI r' v -> VR sn noI r v)
  (hf : P.funcs[f]? = some fn) (hc : fn.body = some c)
  {cw : CW} (hcw : Zan P orc cw)
  (h : Z2z (tmk (Z8a args fn.ntmps args.length) (Z8r 20 fn.ntmps)) fun tm => Z1t P gl orc cw Ze9 c (Zcg P fn.results.toList Φ) (fun _ _ _ => False) (Zcg P fn.results.toList Φ) tm []) : ValOK P gl f args r :=
 fn_valXR (fun _ _ _ _ _ _ _ _ _ _ _ h => h.elim) hm hn hO hΦ hf hc hcw h
theorem Zgu {P : Program} {gl : Z0l} {orc : Orc} (hm : P.follows .mixedOrders = true) (hn : NoNum P) (hO : Z06 P gl orc) {f : Nat} {fn : Func} {c : Code} {args : List AV} {r : AV}
  (hf : P.funcs[f]? = some fn) (hc : fn.body = some c)
  {cw : CW} (hcw : Zan P orc cw)
  (h : Z2z (tmk (Z8a args fn.ntmps args.length) (Z8r 20 fn.ntmps)) fun tm => Z1t P gl orc cw Ze9 c (Zcg P fn.results.toList (· = r)) (fun _ _ _ => False) (Zcg P fn.results.toList (· = r)) tm []) : ValOK P gl f args r :=
 fn_valX (Φ := (· = r)) hm hn hO (fun r' e sn v h => e ▸ h) hf hc hcw h
def Zmp (r r' : AV) : Prop := r' = r \/ (r' = .nslice /\ ∃ z, r = .rs 0 z [])
theorem Zk4 {r : AV} : ∀ r', Zmp r r' -> ∀ sn v, VR sn noI r' v -> VR sn noI r v := by
 rintro r' (rfl | ⟨rfl, z, rfl⟩) sn v h
 · exact h
 · simp only [VR] at h ⊢; exact .inl ⟨trivial, trivial, h⟩
theorem Z5Y {P : Program} {gl : Z0l} {orc : Orc} (hm : P.follows .mixedOrders = true) (hn : NoNum P) (hO : Z06 P gl orc) {f : Nat} {fn : Func} {c : Code} {args : List AV} {r : AV} (hf : P.funcs[f]? = some fn) (hc : fn.body = some c)
  (h : Z2z (tmk (Z8a args fn.ntmps args.length) (Z8r 20 fn.ntmps)) fun tm => Z1t P gl orc (cw0 P orc) Ze9 c (Zcg P fn.results.toList (Zmp r)) (fun _ _ _ => False) (Zcg P fn.results.toList (Zmp r)) tm []) : ValOK P gl f args r :=
 fn_valX hm hn hO Zk4 hf hc (Z3G P orc) h
theorem Z0a {P : Program} {gl : Z0l} {orc : Orc} (hm : P.follows .mixedOrders = true) (hn : NoNum P) (hO : Z06 P gl orc) {f : Nat} {fn : Func} {c : Code} {args : List AV} {r : AV} (hf : P.funcs[f]? = some fn) (hc : fn.body = some c)
  (h : Z2z (tmk (Z8a args fn.ntmps args.length) (Z8r 20 fn.ntmps)) fun tm => Z1t P gl orc (cw0 P orc) Ze9 c (Zcg P fn.results.toList (· = r)) (fun _ _ _ => False) (Zcg P fn.results.toList (· = r)) tm []) : ValOK P gl f args r :=
 Zgu hm hn hO hf hc (Z3G P orc) h
theorem Z7I {P : Program} {gl : Z0l} {orc : Orc} (isC : Nat -> Bool) (n : Nat) (hm : P.follows .mixedOrders = true) (hn : NoNum P) (hO : Z06 P gl orc) {f : Nat} {fn : Func} {c : Code} {args : List AV} {r : AV} (hf : P.funcs[f]? = some fn) (hc : fn.body = some c)
  (h : Z2z (tmk (Z8a args fn.ntmps args.length) (Z8r 20 fn.ntmps)) fun tm => Z1t P gl (Zeu P gl orc isC n) (Zhq P gl orc isC n) Ze9 c (Zcg P fn.results.toList (· = r)) (fun _ _ _ => False) (Zcg P fn.results.toList (· = r)) tm []) : ValOK P gl f args r :=
 Zgu hm hn (Z0K hm hn hO n) hf hc (Z1j n) h
end Go.Abs
end

section
namespace Go.Abs
open Go.RowKit
mutual
def plain : AV -> Bool
 | .bool _ => true
 | .int _ _ => true
 | .str _ => true
 | .nptr => true
 | .nslice => true
 | .nmap => true
 | .nfunc => true
 | .niface => true
 | .agg cs => plainL cs
 | .tuple cs => plainL cs
 | .iface _ u => plain u
 | _ => false
def plainL : List AV -> Bool
 | [] => true
 | c :: l => plain c && plainL l
end
mutual
theorem Z9s {sn sn' : Z0j} {ι ι' : Z0k} : ∀ {u : AV} {v : Value}, plain u = true -> VR sn ι u v -> VR sn' ι' u v
 | .bool _, v, h, e => by simpa [VR] using e
 | .int _ _, v, h, e => by simpa [VR] using e
 | .str _, v, h, e => by simpa [VR] using e
 | .nptr, v, h, e => by simpa [VR] using e
 | .nslice, v, h, e => by simpa [VR] using e
 | .nmap, v, h, e => by simpa [VR] using e
 | .nfunc, v, h, e => by simpa [VR] using e
 | .niface, v, h, e => by simpa [VR] using e
 | .agg cs, v, h, e => by
  obtain ⟨d, rfl, h1⟩ := e.agg
  exact Z3K (plainL_LR (by simpa [plain] using h) h1)
 | .tuple cs, v, h, e => by
  obtain ⟨d, rfl, h1⟩ := e.tuple
  exact Z45 (plainL_LR (by simpa [plain] using h) h1)
 | .ptr _ _, v, h, e => by simp [plain] at h
 | .rp _, v, h, e => by simp [plain] at h
 | .slice .., v, h, e => by simp [plain] at h
 | .rs .., v, h, e => by simp [plain] at h
 | .map _, v, h, e => by simp [plain] at h
 | .func .., v, h, e => by simp [plain] at h
 | .iface t u, v, h, e => by
  simp only [VR] at e ⊢
  obtain ⟨x, rfl, h1⟩ := e
  exact ⟨x, rfl, Z9s (by simpa [plain] using h) h1⟩
theorem plainL_LR {sn sn' : Z0j} {ι ι' : Z0k} : ∀ {l : List AV} {vs : List Value}, plainL l = true -> LR sn ι l vs -> LR sn' ι' l vs
 | [], vs, h, e => by simpa [LR] using e
 | c :: l, vs, h, e => by
  simp only [plainL, Bool.and_eq_true] at h
  simp only [LR] at e ⊢
  obtain ⟨d, ds, rfl, h1, h2⟩ := e
  exact ⟨d, ds, rfl, Z9s h.1 h1, plainL_LR h.2 h2⟩
end
def Z5P (F : Nat -> List AV -> Option AV) : Orc := fun f args H => match Z0L (frz H 30) args with
 | some az => match F f az with | some r => some (r, H) | none => none
 | none => none
theorem Z1m {P : Program} {gl : Z0l} {F : Nat -> List AV -> Option AV} (h : ∀ f args r, F f args = some r -> plain r = true /\ ValOK P gl f args r) : Z06 P gl (Z5P F) := by
 intro f args H r H' hf sn ι W cargs hg hR ha
 unfold Z5P at hf
 split at hf <;> try (simp at hf; done)
 rename_i az has
 split at hf <;> simp at hf
 rename_i r' hr
 obtain ⟨rfl, rfl⟩ := hf
 obtain ⟨h1, h2⟩ := h f az r' hr
 have hle : ∀ a v, sn a = some v -> snx sn 0 W a = some v := fun a v hv => by
  unfold snx; rw [if_neg (by omega)]; exact (hR.snap a v hv).2.1
 have hR' : R (snx sn 0 W) noI [] W :=
  ⟨fun b => ⟨fun hb => by simp at hb, fun ⟨p, hp⟩ => by simp [noI] at hp⟩, fun b p hp => by simp [noI] at hp, fun b o p hb => by simp at hb, fun b b' o o' p p' hb => by simp at hb,
    fun a v hv => by
     unfold snx at hv; rw [if_neg (by omega)] at hv
     refine ⟨?_, hv, fun b o p hb => by simp at hb⟩
     cases hq : W.heap[a.block]? with
     | none => unfold World.cell? at hv; rw [hq] at hv; simp at hv
     | some ob => exact (Array.getElem?_eq_some_iff.1 hq).1,
    fun b o p hb => by simp at hb⟩
 have hargs : LR (snx sn 0 W) noI az cargs := Z0O (fun u r v => Zb6 hR (fun _ _ _ _ _ _ => Nat.zero_le _) 30 u r v) has ha
 refine (h2 _ W cargs (hg.mono (Z8g hle)) hR' hargs).monoY ?_
 rintro e W' ⟨v, rfl, hx, hv⟩
 exact ⟨v, sn, ι, rfl, Z9s h1 hv, Stp.ext hR hx⟩
theorem ZmH {t : Bool} {A B : Prop} (h : t = true) (a : A) : (t = true -> A) /\ (t = false -> B) := ⟨fun _ => a, fun e => (by rw [h] at e; cases e)⟩
theorem ZmI {t : Bool} {A B : Prop} (h : t = false) (b : B) : (t = true -> A) /\ (t = false -> B) := ⟨fun e => (by rw [h] at e; cases e), fun _ => b⟩
theorem Z01 {t : Bool} {A B : Prop} (a : t = true -> A) (b : t = false -> B) : (t = true -> A) /\ (t = false -> B) := ⟨a, b⟩
theorem exI {α : Type} {o : Option α} {r : α} {K : α -> Prop} (h : o = some r) (k : K r) : ∃ r, o = some r /\ K r := ⟨r, h, k⟩
theorem exW {α : Type} {x n : α} {K : α -> Prop} (h : x = n) (k : K n) : ∃ n, x = n /\ K n := ⟨n, h, k⟩
theorem Zmj {m j : Nat} (h : m + j <= 9223372036854775807) : IntKind.i64.wrap ((m : Int) + (j : Int)) = ((m + j : Nat) : Int) := by rw [IntWalk.i64_in _ ⟨by omega, by omega⟩]; omega
theorem Z2n {m : Nat} (h : m + 1 <= 9223372036854775807) : IntKind.i64.wrap ((m : Int) + 1) = ((m + 1 : Nat) : Int) := by rw [IntWalk.i64_in _ ⟨by omega, by omega⟩]; omega
theorem Z4X {n : Int} (h1 : -9223372036854775808 <= n) (h2 : n <= 9223372036854775807) : IntKind.i64.wrap n = n := IntWalk.i64_in n ⟨h1, h2⟩
theorem ixJ {i : Int} {n : Nat} {K : Nat -> Prop} (j : Nat) (h1 : i = (j : Int)) (h2 : j < n) (k : K j) : ∃ j : Nat, (i = (j : Int) /\ j < n) /\ K j := ⟨j, ⟨h1, h2⟩, k⟩
theorem ZbM {i : Int} {n : Nat} {K : Nat -> Prop} (j : Nat) (h1 : i = (j : Int)) (h2 : j <= n) (k : K j) : ∃ j : Nat, (i = (j : Int) /\ j <= n) /\ K j := ⟨j, ⟨h1, h2⟩, k⟩
theorem ixS {i : Int} {s : List UInt8} {K : Nat -> UInt8 -> Prop} (j : Nat) {b : UInt8} (h1 : i = (j : Int)) (h2 : s[j]? = some b) (k : K j b) : ∃ j : Nat, i = (j : Int) /\ ∃ b, s[j]? = some b /\ K j b := ⟨j, h1, b, h2, k⟩
theorem eqR {u v : AV} {K : Prop} (h : u = v) (k : K) : u = v /\ K := ⟨h, k⟩
def Z3E : List AV -> Option (List Int)
 | [] => some []
 | .int .i64 n :: l => match Z3E l with | some r => some (n :: r) | none => none
 | _ => none
theorem Z5V : ∀ l : List Int, Z3E (l.map (AV.int .i64)) = some l
 | [] => rfl
 | n :: l => by simp only [List.map_cons, Z3E, Z5V l]
theorem Z4I : ∀ {cs : List AV} {l : List Int}, Z3E cs = some l -> cs = l.map (AV.int .i64)
 | [], l, h => by simp [Z3E] at h; subst h; rfl
 | c :: cs, l, h => by
  unfold Z3E at h
  split at h <;> try (simp at h; done)
  · rename_i e; simp at e
  · rename_i n l' e
    simp at e; obtain ⟨rfl, rfl⟩ := e
    split at h <;> simp at h
    rename_i r hr
    subst h
    rw [Z4I hr]; rfl
theorem ValOK.rs {P : Program} {gl : Z0l} {f : Nat} {pre post : List AV} {n z : Nat} {cs : List AV} {r : AV} (h : cs.length = n * z -> ValOK P gl f (pre ++ .rs n z cs :: post) r) : ValOK P gl f (pre ++ .rs n z cs :: post) r := by
 intro sn W cargs hg hR ha
 have hc : cs.length = n * z := by
  have h1 : (pre ++ .rs n z cs :: post)[pre.length]? = some (.rs n z cs) := by simp
  obtain ⟨v, _, h2⟩ := ha.get h1
  rcases h2.rs with ⟨rfl, rfl, _⟩ | ⟨_, _, _, _, h3, _⟩
  · simp
  · exact h3
 exact h hc sn W cargs hg hR ha
theorem Zis {P : Program} {F : Nat -> List AV -> Option AV} {H : Z00} {g : Nat} {args fa : List AV} {r : AV} (h1 : Z0C P g = true) (h2 : Z0L (frz H 30) args = some fa) (h3 : F g fa = some r) : Z04 P (Z5P F) H g args = some (r, H) := by
 simp only [Z04, h1, if_true, Z5P, h2, h3]
end Go.Abs
end

section
namespace Go.Abs
open Go.RowKit Go.ChangeShapes Go.WideShapes Go.ChangeAt
def ZfT (P : Program) (t : TypeId) : Bool := match P.underlying t with
 | some (.slice e) => Nat.blt e P.types.size && !(Nat.beq (P.cellsOf e) 0)
 | some (.pointer e) => Nat.blt e P.types.size
 | some (.array _ e) => Nat.blt e P.types.size
 | some (.map _ e) => Nat.blt e P.types.size
 | some (.struct fs) => fs.toList.all fun f => Nat.blt f.type P.types.size
 | _ => true
def Solid (P : Program) : Prop := ((List.range P.types.size).all fun t => ZfT P t) = true
theorem Solid.at {P : Program} (h : Solid P) {t : TypeId} (ht : t < P.types.size) : ZfT P t = true := List.all_eq_true.1 h t (List.mem_range.2 ht)
theorem Z6x {a b : Nat} (h : Nat.blt a b = true) : a < b := by simpa [Nat.blt_eq] using h
section keep
variable {H : Type} {enc : TypeId × Value -> H} {P : Program} {w w' : World} {base : Nat} {sp : Nat -> Bool}
theorem Zef (hP : Solid P) : ∀ (n : Nat) (t : TypeId) (cs : List Value) (x : DataW H × List MemPlace), t < P.types.size -> DataW.trod enc P w base (fun _ => true) true n t cs = some x -> (∀ p ∈ x.2, sp p.block = true) -> DataW.trod enc P w base sp true n t cs = some x := by
 intro n
 induction n with
 | zero => intro t cs x _ h; simp [DataW.trod] at h
 | succ n ih =>
  intro t cs x htl h hs
  have hok := hP.at htl
  unfold ZfT at hok
  rw [DataW.trod_step] at h ⊢
  unfold DataW.trodStep at h ⊢
  split at h
  case h_6 e a hu =>
   simp only [hu] at hok
   simp only [Option.map_eq_some_iff, Option.bind_eq_some_iff] at h ⊢
   obtain ⟨y, ⟨cs', hc, hy⟩, rfl⟩ := h
   exact ⟨y, ⟨cs', hc, ih _ _ _ (Z6x hok) hy fun p hp => hs p (by simp [hp])⟩, rfl⟩
  case h_8 e a len cap hu =>
   simp only [hu, Bool.and_eq_true] at hok
   have hel := Z6x hok.1
   have hz : P.cellsOf e ≠ 0 := fun h0 => by rw [h0] at hok; cases hok.2
   simp only [if_true] at h ⊢
   split at h
   · rename_i hc
     rw [if_pos hc]
     simp only [Option.map_eq_some_iff, Option.bind_eq_some_iff] at h ⊢
     obtain ⟨els, he, rest, hrest, rfl⟩ := h
     have each : ∀ (i : Nat) (y : DataW H × List MemPlace), y ∈ els ++ rest -> (w.cells? base (a.add (i * P.cellsOf e)) (P.cellsOf e)).bind (DataW.trod enc P w base (fun _ => true) true n e) = some y ->
       (w.cells? base (a.add (i * P.cellsOf e)) (P.cellsOf e)).bind (DataW.trod enc P w base sp true n e) = some y := by
      intro i y hy hv
      simp only [Option.bind_eq_some_iff] at hv ⊢
      obtain ⟨cs', h1, h2⟩ := hv
      exact ⟨cs', h1, ih _ _ _ hel h2 fun p hp => hs p (by simp only [List.mem_append, List.mem_flatMap]; exact .inr ⟨y, by simpa using hy, hp⟩)⟩
     refine ⟨els, mapM_carry he fun i y _ hy hv => each i y (by simp [hy]) hv, rest, ?_, rfl⟩
     have hr := mapM_carry hrest fun j y _ hy hv => each (len + j) y (by simp [hy]) hv
     cases hsp : sp a.block with
     | true => simpa using hr
     | false =>
      have h0 : rest = [] := by
       cases hq : rest with
       | nil => rfl
       | cons y l =>
        exfalso
        have h1 : 0 < (els.length + rest.length) * P.cellsOf e := Nat.mul_pos (by rw [hq]; simp only [List.length_cons]; omega) (by omega)
        have := hs (.cell a.block (a.off + 0)) (by simp only [List.mem_append]; exact .inl (MemPlace.mem_row.2 ⟨0, h1, rfl⟩))
        simp only [MemPlace.block] at this
        rw [hsp] at this; cases this
      subst h0
      have hl : ([] : List (DataW H × List MemPlace)).length = cap - len := by simpa using mapM_some_length hrest
      rfl
   · cases h
  case h_9 fs hu =>
   simp only [hu] at hok
   split at h
   · rename_i hc
     rw [if_pos hc]
     simp only [Option.map_eq_some_iff] at h ⊢
     obtain ⟨xs, hx, rfl⟩ := h
     exact ⟨xs, mapM_carry hx fun f y hf hy hv => ih _ _ _ (Z6x (List.all_eq_true.1 hok f hf)) hv fun p hp => hs p (List.mem_flatMap.2 ⟨y, hy, hp⟩), rfl⟩
   · cases h
  case h_10 k e hu =>
   simp only [hu] at hok
   split at h
   · rename_i hc
     rw [if_pos hc]
     simp only [Option.map_eq_some_iff] at h ⊢
     obtain ⟨xs, hx, rfl⟩ := h
     exact ⟨xs, mapM_carry hx fun f y _ hy hv => ih _ _ _ (Z6x hok) hv fun p hp => hs p (List.mem_flatMap.2 ⟨y, hy, hp⟩), rfl⟩
   · cases h
  case h_12 => split at h <;> first | exact h | (rename_i e _; cases e) | cases h
  case h_14 k e b hu =>
   simp only [hu] at hok
   split at h
   · rename_i es clock hb
     split at h
     · rename_i hc
       simp only [Option.bind_eq_some_iff] at h
       obtain ⟨entries, he, hd⟩ := h
       split at hd
       · rename_i hris
         have hx := Option.some.inj hd
         subst hx
         simp only [hb, if_pos hc, Option.bind_eq_some_iff]
         refine ⟨entries, mapM_carry he (fun x y _ hy hv => ?_), by simp [hris]⟩
         simp only [Option.bind_eq_some_iff] at hv ⊢
         obtain ⟨key, hk, hz⟩ := hv
         refine ⟨key, hk, ?_⟩
         split at hz
         · rename_i hf
           rw [if_pos hf]
           simp only [Option.map_eq_some_iff] at hz ⊢
           obtain ⟨q, hq, rfl⟩ := hz
           exact ⟨q, ih _ _ _ (Z6x hok) hq fun p hp => hs p (by simp only [List.mem_cons, List.mem_flatMap]; exact .inr ⟨_, hy, hp⟩), rfl⟩
         · cases hz
       · cases hd
     · cases h
   · cases h
  all_goals first | exact h | cases h
theorem Zem (he : Ext w w') {p : MemPlace} (hp : p.block < w.heap.size) : w.sameAt w' p := by
 cases p with
 | cell b off =>
  have := he.old b hp
  simp only [World.sameAt, World.cell?, this]
 | map b => exact he.old b hp
theorem Z6j (hP : Solid P) (he : Ext w w') : ∀ {ts : List TypeId} {vs : List Value} {ds : List (DataW H)} {ps : List MemPlace}, (∀ t ∈ ts, t < P.types.size) -> DataW.TrodAll enc P w base (fun _ => true) true ts vs ds ps -> (∀ p ∈ ps, p.block < w.heap.size) -> (∀ p ∈ ps, sp p.block = true) ->
  DataW.TrodAll enc P w' base sp true ts vs ds ps
 | [], [], [], ps, _, h, _, _ => h
 | t :: ts, v :: vs, d :: ds, ps, ht, h, h1, h2 => by
  obtain ⟨p, q, ⟨fuel, hp⟩, hq, rfl⟩ := h
  refine ⟨p, q, ⟨fuel, Zef hP _ _ _ _ (ht t (by simp)) (DataW.trod_carry _ _ _ _ hp fun x hx => Zem he (h1 x (by simp [hx]))) fun x hx => h2 x (by simp [hx])⟩,
   Z6j hP he (fun t h => ht t (by simp [h])) hq (fun x hx => h1 x (by simp [hx])) (fun x hx => h2 x (by simp [hx])), rfl⟩
 | [], [], _ :: _, _, _, h, _, _ => h.elim
 | [], _ :: _, _, _, _, h, _, _ => h.elim
 | _ :: _, [], _, _, _, h, _, _ => h.elim
 | _ :: _, _ :: _, [], _, _, h, _, _ => h.elim
end keep
def Z6M (P : Program) (t : TypeId) (Q : List AV -> Prop) : Prop :=
 ∀ (H : Type) (enc : TypeId × Value -> H) (W : World) (fuel : Nat) (cs : List Value) (x : DataW H × List MemPlace), DataW.trod enc P W 0 (fun _ => true) true fuel t cs = some x -> ∃ us, Q us /\ LR (Z2o W) noI us cs
section opens
variable {P : Program}
theorem Z5R {t : TypeId} {Q Q' : List AV -> Prop} (h : Z6M P t Q) (hq : ∀ us, Q us -> Q' us) : Z6M P t Q' := fun H enc W fuel cs x hx => let ⟨us, h1, h2⟩ := h H enc W fuel cs x hx; ⟨us, hq _ h1, h2⟩
theorem Z0v {t : TypeId} {k : IntKind} (ht : P.underlying t = some (.int k)) : Z6M P t fun us => ∃ n, us = [.int k n] /\ (Lit.int k n).wf = true := by
 intro H enc W fuel cs x h
 obtain ⟨n, rfl, _, hw⟩ := DataW.trod_int ht h
 exact ⟨_, ⟨n, rfl, hw⟩, by simp [LR, VR]⟩
theorem ZfQ {t : TypeId} (ht : P.underlying t = some .string) : Z6M P t fun us => ∃ s : List UInt8, us = [.str s] /\ s.length <= maxLen := by
 intro H enc W fuel cs x h
 obtain ⟨s, rfl, _, hw⟩ := DataW.trod_string ht h
 refine ⟨_, ⟨s.data.toList, rfl, ?_⟩, by simp [LR, VR]⟩
 have : s.data.toList.length = s.size := by cases s; rfl
 omega
theorem cells?_get {W : World} {a : Addr} {n : Nat} {cs : List Value} (h : W.cells? 0 a n = some cs) : cs.length = n /\ ∀ (i : Nat) (v : Value), cs[i]? = some v -> W.cell? (a.add i) = some v := by
 unfold World.cells? at h
 rw [if_pos (Nat.zero_le _)] at h
 have hl : cs.length = n := by simpa using mapM_some_length h
 refine ⟨hl, fun i v hv => ?_⟩
 have hi : i < n := by rw [<- hl]; exact (List.getElem?_eq_some_iff.1 hv).1
 have := mapM_some_get h i i (by simp [hi])
 rw [this, hv]
theorem Z5Z {α : Type} {z : Nat} (hz : z ≠ 0) : ∀ {l : List (List α)} {k : Nat} {y : α}, (∀ u ∈ l, u.length = z) -> l.flatten[k]? = some y -> ∃ x, l[k / z]? = some x /\ x[k % z]? = some y
 | [], k, y, h, hk => by simp at hk
 | u :: l, k, y, h, hk => by
  have hu := h u (by simp)
  simp only [List.flatten_cons] at hk
  by_cases hlt : k < z
  · rw [List.getElem?_append_left (by omega)] at hk
    exact ⟨u, by simp [Nat.div_eq_of_lt hlt], by rw [Nat.mod_eq_of_lt hlt]; exact hk⟩
  · rw [List.getElem?_append_right (by omega), hu] at hk
    obtain ⟨x, h1, h2⟩ := Z5Z hz (fun v hv => h v (by simp [hv])) hk
    have e1 : k / z = (k - z) / z + 1 := by
     rw [<- Nat.add_div_right _ (by omega), Nat.sub_add_cancel (by omega)]
    have e2 : k % z = (k - z) % z := by
     rw [<- Nat.add_mod_right (k - z) z, Nat.sub_add_cancel (by omega)]
    exact ⟨x, by rw [e1]; simpa using h1, by rw [e2]; exact h2⟩
theorem Z85 (a : Addr) (h : a.spot = none) (i j : Nat) : (a.add i).add j = ⟨a.block, a.off + i + j, none⟩ := by
 obtain ⟨b, o, s⟩ := a
 simp only at h
 subst h
 unfold Addr.add
 split <;> split <;> simp_all
theorem Z7q {t e : TypeId} {z : Nat} {Q : List AV -> Prop} (ht : P.underlying t = some (.slice e)) (hz : P.cellsOf e = z) (hz0 : z ≠ 0) (he : Z6M P e Q) :
  Z6M P t fun us => ∃ l : List (List AV), (∀ u ∈ l, Q u /\ u.length = z) /\ us = [.rs l.length z l.flatten] /\ l.length <= maxLen := by
 intro H enc W fuel cs x h
 rcases DataW.trod_slice ht h with ⟨rfl, _⟩ | ⟨a, len, cap, els, rest, n, _, rfl, _, _, hlc, hcm, hl, hel, hrest⟩
 · exact ⟨_, ⟨[], by simp, rfl, by simp⟩, by simp [LR, VR]⟩
 · rw [hz] at hel
   have each : ∀ i, i < len -> ∃ (vs : List Value) (u : List AV), W.cells? 0 (a.add (i * z)) z = some vs /\ Q u /\ LR (Z2o W) noI u vs := by
    intro i hi
    have h1 := hel i hi
    have h2 : els[i]? = some els[i] := List.getElem?_eq_getElem (by omega)
    rw [h2] at h1
    simp only [Option.bind_eq_some_iff] at h1
    obtain ⟨vs, h3, h4⟩ := h1
    obtain ⟨u, h5, h6⟩ := he H enc W n vs _ h4
    exact ⟨vs, u, h3, h5, h6⟩
   have hex : ∃ (l : List (List AV)) (vss : List (List Value)), l.length = len /\ vss.length = len /\ ∀ i, i < len -> ∃ vs u, l[i]? = some u /\ vss[i]? = some vs /\ W.cells? 0 (a.add (i * z)) z = some vs /\ Q u /\ LR (Z2o W) noI u vs := by
    clear hel hl h hlc hcm hrest
    induction len with
    | zero => exact ⟨[], [], rfl, rfl, fun i hi => by omega⟩
    | succ m ih =>
     obtain ⟨l, vss, h1, h2, h3⟩ := ih fun i hi => each i (by omega)
     obtain ⟨vs, u, g1, g2, g3⟩ := each m (by omega)
     refine ⟨l ++ [u], vss ++ [vs], by simp [h1], by simp [h2], fun i hi => ?_⟩
     by_cases e : i = m
     · subst e
       exact ⟨vs, u, by simp [<- h1], by simp [<- h2], g1, g2, g3⟩
     · obtain ⟨vs', u', k1, k2, k3⟩ := h3 i (by omega)
       exact ⟨vs', u', by rw [List.getElem?_append_left (by omega)]; exact k1, by rw [List.getElem?_append_left (by omega)]; exact k2, k3⟩
   obtain ⟨l, vss, h1, h2, h3⟩ := hex
   have hll : ∀ u ∈ l, Q u /\ u.length = z := by
    intro u hu
    obtain ⟨i, hi, rfl⟩ := List.mem_iff_getElem.1 hu
    obtain ⟨vs, u', k1, k2, k3, k4, k5⟩ := h3 i (by omega)
    rw [List.getElem?_eq_getElem hi] at k1; simp at k1
    rw [k1]
    exact ⟨k4, by rw [<- k5.length, (cells?_get k3).1]⟩
   refine ⟨_, ⟨l, hll, rfl, by omega⟩, ?_⟩
   simp only [LR]
   refine ⟨_, _, rfl, ?_, rfl⟩
   simp only [VR]
   have hfl : l.flatten.length = l.length * z := by
    clear h1 h3
    induction l with
    | nil => simp
    | cons u l ih => simp only [List.flatten_cons, List.length_append, List.length_cons, (hll u (by simp)).2, ih fun v hv => hll v (by simp [hv])]; rw [Nat.add_mul]; omega
   have hspot : len ≠ 0 -> a.spot = none := by
    intro h0
    obtain ⟨vs, u, k1, k2, k3, k4, k5⟩ := h3 0 (by omega)
    obtain ⟨g1, g2⟩ := cells?_get k3
    have : W.cell? ((a.add (0 * z)).add 0) = some vs[0] := g2 0 _ (List.getElem?_eq_getElem (by omega))
    rw [Nat.zero_mul] at this
    simpa [Addr.add] using World.cell?_spot this
   refine .inr ⟨a, cap, by rw [h1], by omega, hfl, Z2v fun k u hu => ?_, fun h0 => hspot (by rw [<- h1]; exact h0)⟩
   obtain ⟨x', g1, g2⟩ := Z5Z hz0 (fun u hu => (hll u hu).2) hu
   have hklt : k / z < len := by rw [<- h1]; exact (List.getElem?_eq_some_iff.1 g1).1
   obtain ⟨vs, u', k1, k2, k3, k4, k5⟩ := h3 (k / z) hklt
   rw [g1] at k1; simp at k1; subst k1
   obtain ⟨v, e1, e2⟩ := k5.get g2
   refine ⟨v, ?_, e2⟩
   have hc := (cells?_get k3).2 _ _ e1
   rw [Z85 a (hspot (Nat.ne_of_gt (Nat.lt_of_le_of_lt (Nat.zero_le _) hklt)))] at hc
   have hk : a.off + k / z * z + k % z = a.off + k := by rw [Nat.add_assoc, Nat.mul_comm, Nat.div_add_mod]
   rw [hk] at hc
   unfold Z2o
   have hlt : a.block < W.heap.size := by
    cases hq : W.heap[a.block]? with
    | none => unfold World.cell? at hc; simp only [hq] at hc; cases hc
    | some ob => exact (Array.getElem?_eq_some_iff.1 hq).1
   rw [if_pos (by exact hlt)]; exact hc
def FsQ : List (List AV -> Prop) -> List AV -> Prop
 | [], us => us = []
 | Q :: Qs, us => ∃ u us', us = u ++ us' /\ Q u /\ FsQ Qs us'
def Z1U (P : Program) : List Field -> List (List AV -> Prop) -> Nat -> Nat -> Prop
 | [], [], off, tot => off = tot
 | f :: fs, Q :: Qs, off, tot => f.offset = off /\ Z6M P f.type Q /\ Z1U P fs Qs (off + P.cellsOf f.type) tot
 | _, _, _, _ => False
theorem Zd7 {H : Type} {enc : TypeId × Value -> H} {W : World} {n tot : Nat} {cs : List Value} (hcs : cs.length = tot) : ∀ {fs : List Field} {Qs : List (List AV -> Prop)} {xs : List (DataW H × List MemPlace)} {off : Nat}, Z1U P fs Qs off tot -> xs.length = fs.length -> off <= tot ->
  (∀ (i : Nat) (f : Field), fs[i]? = some f -> DataW.trod enc P W 0 (fun _ => true) true n f.type ((cs.drop f.offset).take (P.cellsOf f.type)) = xs[i]?) -> ∃ us, FsQ Qs us /\ LR (Z2o W) noI us (cs.drop off)
 | [], [], xs, off, h, hl, ho, hx => by
  have : off = tot := h
  subst this
  exact ⟨[], rfl, by simp [LR, <- hcs]⟩
 | f :: fs, Q :: Qs, xs, off, h, hl, ho, hx => by
  obtain ⟨h1, h2, h3⟩ := h
  cases xs with
  | nil => simp at hl
  | cons x xs =>
   have h0 := hx 0 f rfl
   simp only [List.getElem?_cons_zero] at h0
   obtain ⟨u, q1, q2⟩ := h2 H enc W n _ _ h0
   have hle : ∀ (fs : List Field) (Qs : List (List AV -> Prop)) (o : Nat), Z1U P fs Qs o tot -> o <= tot := by
    intro fs
    induction fs with
    | nil => intro Qs o h; cases Qs with | nil => exact Nat.le_of_eq h | cons _ _ => exact h.elim
    | cons g gs ih => intro Qs o h; cases Qs with | nil => exact h.elim | cons _ _ => have := ih _ _ h.2.2; omega
   obtain ⟨us, q3, q4⟩ := Zd7 hcs h3 (by simpa using hl) (hle _ _ _ h3) fun i g hg => by simpa using hx (i + 1) g (by simpa using hg)
   refine ⟨u ++ us, ⟨u, us, rfl, q1, q3⟩, ?_⟩
   rw [h1] at q2
   have := q2.append q4
   rwa [<- List.drop_drop, List.take_append_drop] at this
 | [], _ :: _, xs, off, h, hl, ho, hx => h.elim
 | _ :: _, [], xs, off, h, hl, ho, hx => h.elim
theorem Z3T {t : TypeId} {fs : Array Field} {Qs : List (List AV -> Prop)} (ht : P.underlying t = some (.struct fs)) (h : Z1U P fs.toList Qs 0 (P.cellsOf t)) : Z6M P t (FsQ Qs) := by
 intro H enc W fuel cs x hx
 obtain ⟨xs, n, _, _, hl, hlen, hf⟩ := DataW.trod_struct ht hx
 obtain ⟨us, h1, h2⟩ := Zd7 hl h (by simpa using hlen) (Nat.zero_le _) fun i f hi => hf i f (by simpa using hi)
 exact ⟨us, h1, by simpa using h2⟩
end opens
end Go.Abs
end

section
namespace Go.Abs
open Go.RowKit Go.ChangeShapes Go.WideShapes Go.ChangeAt
def Z44 (P : Program) (t : TypeId) (Q : AV -> Prop) : Prop :=
 ∀ (H : Type) (enc : TypeId × Value -> H) (W : World) (r : Reach) (b : Nat) (v : Value) (d : DataW H) (p : List MemPlace), Value.okWide P W r b t v -> DataW.Trod enc P W 0 (fun _ => true) true t v d p -> ∃ u, Q u /\ VR (Z2o W) noI u v
section opens
variable {P : Program}
theorem Zj0 {sn : Z0j} {ι : Z0k} {u : AV} {v : Value} (h : LR sn ι [u] [v]) : VR sn ι u v := by
 simp only [LR] at h
 obtain ⟨d, ds, e, h1, h2⟩ := h
 simp at e; obtain ⟨rfl, rfl⟩ := e
 exact h1
theorem Z3U {t e : TypeId} {z : Nat} {Q : List AV -> Prop} (ht : P.underlying t = some (.slice e)) (hz : P.cellsOf e = z) (hz0 : z ≠ 0) (he : Z6M P e Q) :
  Z44 P t fun u => ∃ l : List (List AV), (∀ u ∈ l, Q u /\ u.length = z) /\ u = .rs l.length z l.flatten /\ l.length <= maxLen := by
 intro H enc W r b v d p hv ⟨fuel, h⟩
 obtain ⟨a, n, c, rfl⟩ := okWide_slice ht hv
 obtain ⟨us, hq, hl⟩ := Z7q ht hz hz0 he H enc W fuel _ _ h
 obtain ⟨l, h1, rfl, h2⟩ := hq
 exact ⟨_, ⟨l, h1, rfl, h2⟩, Zj0 (by simpa [Value.cells] using hl)⟩
theorem Z5f {t : TypeId} {fs : Array Field} {Qs : List (List AV -> Prop)} (ht : P.underlying t = some (.struct fs)) (h : Z1U P fs.toList Qs 0 (P.cellsOf t)) : Z44 P t fun u => ∃ us, u = .agg us /\ FsQ Qs us := by
 intro H enc W r b v d p hv ⟨fuel, hx⟩
 obtain ⟨cs, rfl, _⟩ := okWide_struct ht hv
 obtain ⟨us, hq, hl⟩ := Z3T ht h H enc W fuel _ _ hx
 exact ⟨_, ⟨us, rfl, hq⟩, Z3K (by simpa [Value.cells] using hl)⟩
theorem Z2u {t : TypeId} {Q Q' : AV -> Prop} (h : Z44 P t Q) (hq : ∀ u, Q u -> Q' u) : Z44 P t Q' := fun H enc W r b v d p hv ht => let ⟨u, h1, h2⟩ := h H enc W r b v d p hv ht; ⟨u, hq _ h1, h2⟩
end opens
def Z4q (P : Program) : List TypeId -> List (AV -> Prop) -> Prop
 | [], [] => True
 | t :: ts, Q :: Qs => Z44 P t Q /\ Z4q P ts Qs
 | _, _ => False
def ZiG : List (AV -> Prop) -> List AV -> Prop
 | [], [] => True
 | Q :: Qs, u :: us => Q u /\ ZiG Qs us
 | _, _ => False
theorem Za6 {us : List AV} (h : ZiG [] us) : us = [] := by cases us with | nil => rfl | cons _ _ => exact h.elim
theorem Z1w {Q : AV -> Prop} {Qs : List (AV -> Prop)} {us : List AV} (h : ZiG (Q :: Qs) us) : ∃ u us', us = u :: us' /\ Q u /\ ZiG Qs us' := by
 cases us with
 | nil => exact h.elim
 | cons u us => exact ⟨u, us, rfl, h.1, h.2⟩
theorem ZaQ {P : Program} {H : Type} {enc : TypeId × Value -> H} {W : World} {r : Reach} {b : Nat} : ∀ {ts : List TypeId} {Qs : List (AV -> Prop)} {vs : List Value} {ds : List (DataW H)} {ps : List MemPlace}, Z4q P ts Qs ->
  (∀ (j : Nat) t v, ts[j]? = some t -> vs[j]? = some v -> Value.okWide P W r b t v) -> DataW.TrodAll enc P W 0 (fun _ => true) true ts vs ds ps -> ds.length = ts.length /\ ∃ us, ZiG Qs us /\ LR (Z2o W) noI us vs
 | [], [], [], [], ps, ho, hv, h => ⟨rfl, [], trivial, by simp [LR]⟩
 | t :: ts, Q :: Qs, v :: vs, d :: ds, ps, ho, hv, h => by
  obtain ⟨p, q, hp, hq, _⟩ := h
  obtain ⟨u, h1, h2⟩ := ho.1 H enc W r b v d p (hv 0 t v rfl rfl) hp
  obtain ⟨hl, us, h3, h4⟩ := ZaQ ho.2 (fun j t v ht hv' => hv (j + 1) t v (by simpa using ht) (by simpa using hv')) hq
  exact ⟨by simp [hl], u :: us, ⟨h1, h3⟩, by simp only [LR]; exact ⟨v, vs, rfl, h2, h4⟩⟩
 | [], _ :: _, _, _, _, ho, _, _ => ho.elim
 | _ :: _, [], _, _, _, ho, _, _ => ho.elim
 | [], [], [], _ :: _, _, _, _, h => h.elim
 | [], [], _ :: _, _, _, _, _, h => h.elim
 | _ :: _, _ :: _, [], _, _, _, _, h => h.elim
 | _ :: _, _ :: _, _ :: _, [], _, _, _, h => h.elim
theorem law_calls {P : Program} {gl : Z0l} {f : Nat} {fn : Func} {s : ChangeSpec} {Qs : List (AV -> Prop)} {tb : TypeId} (hP : Solid P) (hts : (fn.params.toList.all fun t => Nat.blt t P.types.size) = true) (ho : Z4q P fn.params.toList Qs) (hlaw : ∀ us, ZiG Qs us -> ValOK P gl f us (.bool true))
  (hvars : s.vars = []) (hfn : ∀ (H : Type) (ds : List (DataW H)), ds.length = fn.params.toList.length -> (s.fn H ds).results = [.lit (.bool true)] /\ (s.fn H ds).args = ds /\ (s.fn H ds).vars = []) (hr : fn.resultTypes = #[tb]) (hb : P.underlying tb = some .bool)
  {H : Type} {enc : TypeId × Value -> H} {W : World} {base : Nat} {args : Array Value} {ds gs : List (DataW H)} {before : List MemPlace} (hg : GlOK gl (Z2o W))
  (hval : ∀ (j : Nat) t v, fn.params[j]? = some t -> args[j]? = some v -> Value.okWide P W .any base t v) (hW : DataW.Whole enc P fn.params.toList s.vars false W args.toList ds gs before) :
  Calls P f args W fun e W' => ∃ v, e = .returned v /\ s.post enc P fn false true false false W args v W' := by
 have hW' := hW
 obtain ⟨p, q, hA, hV, rfl, hfz, hnd⟩ := hW
 rw [hvars] at hV
 obtain ⟨rfl, rfl⟩ := trodVars_none hV
 obtain ⟨hl, us, hq, hlr⟩ := ZaQ ho (fun j t v ht hv => hval j t v (by simpa using ht) (by simpa using hv)) hA
 have hlt : ∀ x ∈ p ++ [], x.block < W.heap.size := fun x hx => hW'.lt x hx
 refine ((hlaw us hq) (Z2o W) W args.toList hg (R0 W) hlr).mono ?_
 rintro e W' ⟨v, rfl, hx, hv⟩
 cases hv.bool
 obtain ⟨h1, h2, h3⟩ := hfn H ds (by simpa using hl)
 refine ⟨_, rfl, Zes (pa := p) (pv := []) hW' (fun b sp hd => ?_) (fun sp hsp => ?_) (fun sp _ => by rw [hvars, List.append_nil, h3]; rfl) rfl (Stp.below (Stp.ext (R0 W) hx)) (ok_one hr rfl (okWide_bool_mk hb _))⟩
 · rw [List.append_nil, h1, hr]
   exact trodAll_cons_mk (shut_bool hb _) trodAll_mk0
 · rw [List.append_nil, h2]
   exact Z6j hP hx (fun t ht => Z6x (List.all_eq_true.1 hts t ht)) hA (fun x hx => hlt x (by simp [hx])) fun x hx => hsp x (by simp [hx])
end Go.Abs
end

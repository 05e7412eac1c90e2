/-
  A verified abstract interpreter, part 28: a region that draws its order, in the order of its text, quickly.
-/
import Derived.Test.YtgbimoeclgfkfabGreatDoorAbs27
set_option linter.unusedSimpArgs false
set_option linter.unusedVariables false
namespace Go.Abs
open Go.RowKit

/-! what is set last -/
theorem lastW_vals {vals vals' : List (Option AV)} {D : Nat → Bool} {t : Nat} : ∀ (l : List Oper) (i : Nat) (acc : Option AV), (∀ k, D k = true → vals[k]? = vals'[k]?) → lastW vals D t l i acc = lastW vals' D t l i acc
  | [], i, acc, h => rfl
  | o :: l, i, acc, h => by
    simp only [lastW]
    by_cases e : D i = true
    · rw [h i e]; exact lastW_vals l (i + 1) _ h
    · have e2 : D i = false := by cases hq : D i with | false => rfl | true => exact absurd hq e
      rw [e2]; simp only [Bool.and_false, Bool.false_eq_true, if_false]
      exact lastW_vals l (i + 1) _ h

theorem putT_get {dst : Option Tmp} {v : AV} {tm tm1 : Tr} {o : Oper} (ho : o.dst = dst) (hp : putT dst v tm = some tm1) (t : Nat) : tget tm1 t = if dstIs o t = true then some v else tget tm t := by
  unfold dstIs
  rw [ho]
  cases dst with
  | none => simp [putT] at hp; subst hp; simp
  | some d =>
    obtain ⟨h3, h4, _⟩ := tset_get _ _ _ _ hp
    rw [h4]
    by_cases e : t = d
    · simp [e]
    · rw [if_neg e, if_neg]; simpa using Ne.symm e

theorem putT_tex {dst : Option Tmp} {v : AV} {tm tm1 : Tr} (hp : putT dst v tm = some tm1) (t : Nat) : tex tm1 t = tex tm t := by
  cases dst with
  | none => simp [putT] at hp; subst hp; rfl
  | some d => exact (tset_get _ _ _ _ hp).2.2 t

theorem lor_pow {m i : Nat} (h : m + 1 = 2 ^ i) : Nat.lor m (2 ^ i) + 1 = 2 ^ (i + 1) := by
  have hlt : m < 2 ^ i := by omega
  have h1 := Nat.two_pow_add_eq_or_of_lt hlt 1
  rw [Nat.mul_one] at h1
  have h2 : Nat.lor m (2 ^ i) = 2 ^ i + m := by
    show m ||| 2 ^ i = _
    rw [h1, Nat.or_comm]
  rw [h2, Nat.pow_succ]; omega

theorem bit_full {m i : Nat} (h : m + 1 = 2 ^ i) (k : Nat) : bit m k = decide (k < i) := by
  have : m = 2 ^ i - 1 := by omega
  rw [bit_eq, this, Nat.testBit_two_pow_sub_one]

/-- How far the values have come: those of 'done' have run. -/
structure VInv (ops : List Oper) (an : List Nat) (tm : Tr) (vals : List (Option AV)) (done : Nat) (tmc : Tr) : Prop where
  vlen : vals.length = ops.length
  known : ∀ k, bit done k = true → ∃ v, vals[k]? = some (some v)
  unk : ∀ k, bit done k = false → ∀ v, vals[k]? = some (some v) → False
  cls : ∀ k j, bit done k = true → bit (an.getD k 0) j = true → bit done j = true
  cur : ∀ t, lastW vals (bit done) t ops 0 (tget tm t) = tget tmc t
  dst : ∀ k o d, bit done k = true → ops[k]? = some o → o.dst = some d → ∃ x, tget tmc d = some x

theorem VInv.start (ops : List Oper) (an : List Nat) (tm : Tr) : VInv ops an tm (fillNone ops) 0 tm :=
  ⟨fillNone_length ops, fun k h => (by rw [bit_zero] at h; cases h), fun k _ v h => fillNone_get ops k v h, fun k j h => (by rw [bit_zero] at h; cases h), fun t => lastW_none _ _ _ fun k o _ _ => bit_zero _, fun k o d h => (by rw [bit_zero] at h; cases h)⟩

theorem VInv.vle {ops : List Oper} {an : List Nat} {tm tmc : Tr} {i : Nat} {vals : List (Option AV)} {done : Nat} (h : VInv ops an tm vals done tmc) (hi : bit done i = false) (r : AV) : VLe vals (vals.set i (some r)) :=
  set_vle fun u hu => h.unk i hi u hu

theorem bit_next (m i k : Nat) : bit (Nat.lor m (2 ^ i)) k = (bit m k || Nat.beq k i) := by
  rw [bit_lor, bit_pow]
  congr 1
  by_cases e : i = k
  · subst e; simp
  · rw [decide_eq_false e]
    cases hq : Nat.beq k i with
    | false => rfl
    | true => exact absurd (Nat.eq_of_beq_eq_true hq).symm e

theorem VInv.next {ops : List Oper} {an : List Nat} {tm tmc tm1 : Tr} {i : Nat} {vals : List (Option AV)} {done : Nat} (h : VInv ops an tm vals done tmc) {o : Oper} (ho : ops[i]? = some o) {r : AV} (hp : putT o.dst r tmc = some tm1)
    (hi : bit done i = false) (han : ∀ k, bit (an.getD i 0) k = true → bit done k = true) (hb : an.getD i 0 < 2 ^ i) (htm : tmpsOkAt ops an i o = true) : VInv ops an tm (vals.set i (some r)) (Nat.lor done (2 ^ i)) tm1 := by
  have hil : i < ops.length := (List.getElem?_eq_some_iff.1 ho).1
  have hself : (vals.set i (some r))[i]? = some (some r) := by rw [List.getElem?_set, if_pos rfl, if_pos (by rw [h.vlen]; exact hil)]
  have hne : ∀ k, bit done k = true → k ≠ i := fun k hk e => by subst e; rw [hi] at hk; cases hk
  refine ⟨by rw [List.length_set, h.vlen], ?_, ?_, ?_, ?_, ?_⟩
  · intro k hk
    rw [bit_next, Bool.or_eq_true] at hk
    by_cases e : k = i
    · subst e; exact ⟨r, hself⟩
    · rw [List.getElem?_set, if_neg (Ne.symm e)]
      rcases hk with hk | hk
      · exact h.known k hk
      · exact absurd (Nat.eq_of_beq_eq_true hk) e
  · intro k hk v hv
    rw [bit_next, Bool.or_eq_false_iff] at hk
    have e : k ≠ i := fun e => by subst e; simp at hk
    rw [List.getElem?_set, if_neg (Ne.symm e)] at hv
    exact h.unk k hk.1 v hv
  · intro k j hk hj
    rw [bit_next, Bool.or_eq_true] at hk ⊢
    rcases hk with hk | hk
    · exact .inl (h.cls k j hk hj)
    · have := Nat.eq_of_beq_eq_true hk; subst this
      exact .inl (han j hj)
  · intro t
    rw [lastW_add ops 0 _ o (j := i) ho (by rw [Nat.zero_add]; exact hself) (D := bit done) (fun k => by rw [Nat.zero_add]; exact bit_next done i k) (fun k x hx hd1 hd2 hlt => by
        rw [Nat.zero_add]
        cases hq : bit done k with
        | false => rfl
        | true =>
          exfalso
          simp only [tmpsOkAt, Bool.and_eq_true] at htm
          have hw : writersOk an i t ops 0 = true := by
            unfold dstIs at hd1
            cases hd : o.dst with
            | none => rw [hd] at hd1; cases hd1
            | some d => rw [hd] at hd1; have := Nat.eq_of_beq_eq_true hd1; subst this; have := htm.2; rw [hd] at this; exact this
          rcases writersOk_spec ops 0 k x hw hx hd2 with h1 | h1 | h1
          · omega
          · rw [Nat.zero_add] at h1; have := bit_lt hb h1; omega
          · rw [Nat.zero_add] at h1
            have := h.cls k i hq h1
            rw [hi] at this; cases this) (by rw [Nat.zero_add]; exact hi)]
    rw [putT_get rfl hp t]
    rw [lastW_vals (vals' := vals) ops 0 _ (fun k hk => by rw [List.getElem?_set, if_neg (Ne.symm (hne k hk))]), h.cur t]
  · intro k x dd hk hx hd
    rw [putT_get rfl hp dd]
    split
    · exact ⟨r, rfl⟩
    · rename_i hnd
      rw [bit_next, Bool.or_eq_true] at hk
      rcases hk with hk | hk
      · exact h.dst k x dd hk hx hd
      · have := Nat.eq_of_beq_eq_true hk; subst this
        have : x = o := by rw [ho] at hx; simpa using hx.symm
        subst this
        exact absurd (by simp [dstIs, hd]) hnd

theorem finTmps_some {vals : List (Option AV)} : ∀ (l : List Oper) (i : Nat) (tm : Tr), (∀ k, k < l.length → ∃ v, vals[i + k]? = some (some v)) → (∀ o ∈ l, ∀ d, o.dst = some d → tex tm d = true) → ∃ tm', finTmps vals l i tm = some tm'
  | [], i, tm, hv, hd => ⟨tm, rfl⟩
  | o :: l, i, tm, hv, hd => by
    obtain ⟨v, hv0⟩ := hv 0 (by simp)
    simp only [Nat.add_zero] at hv0
    have hp : ∃ tm1, putT o.dst v tm = some tm1 := by
      cases hdo : o.dst with
      | none => exact ⟨tm, rfl⟩
      | some d => exact tset_some (hd o (by simp) d hdo) v
    obtain ⟨tm1, hp⟩ := hp
    obtain ⟨tm', h'⟩ := finTmps_some l (i + 1) tm1 (fun k hk => by have := hv (k + 1) (by simpa using hk); rwa [show i + (k + 1) = i + 1 + k from by omega] at this) (fun x hx d hdx => by
      rw [putT_tex hp d]; exact hd x (by simp [hx]) d hdx)
    exact ⟨tm', by simp only [finTmps, hv0, hp, h']⟩

theorem envOf_some {tm : Tr} {vals : List (Option AV)} {ops : List Oper} {D : Nat → Bool} : ∀ (ts : List Nat), (∀ t ∈ ts, ∃ v, lastW vals D t ops 0 (tget tm t) = some v) → ∃ env, envOf tm vals ops D ts = some env
  | [], h => ⟨[], rfl⟩
  | t :: ts, h => by
    obtain ⟨v, hv⟩ := h t (by simp)
    obtain ⟨e, he⟩ := envOf_some ts fun s hs => h s (by simp [hs])
    exact ⟨(t, v) :: e, by simp [envOf, hv, he]⟩

theorem envOf_vals {tm : Tr} {vals : List (Option AV)} {ops : List Oper} {D : Nat → Bool} {Q : AV → Prop} : ∀ (ts : List Nat) (env : List (Nat × AV)), envOf tm vals ops D ts = some env → (∀ t ∈ ts, ∀ v, lastW vals D t ops 0 (tget tm t) = some v → Q v) → ∀ t v, (t, v) ∈ env → Q v
  | [], env, e, h, t, v, hm => by simp [envOf] at e; subst e; simp at hm
  | s :: ts, env, e, h, t, v, hm => by
    simp only [envOf] at e
    split at e <;> simp at e
    subst e; rename_i u e' hu he
    rcases List.mem_cons.1 hm with heq | hm
    · simp at heq; obtain ⟨e1, e2⟩ := heq; rw [e2]; exact h s (by simp) u hu
    · exact envOf_vals ts e' he (fun t ht v hv => h t (by simp [ht]) v hv) t v hm

/-! the static side -/
def allLooks (n : Nat) (ops : List Oper) : List Oper → Bool
  | [] => true
  | o :: l => allLt n (looks ops o) && allLooks n ops l
theorem allLooks_spec {n : Nat} {ops : List Oper} : ∀ {l : List Oper}, allLooks n ops l = true → ∀ o ∈ l, allLt n (looks ops o) = true
  | [], h, o, ho => by simp at ho
  | x :: l, h, o, ho => by
    simp only [allLooks, Bool.and_eq_true] at h
    rcases List.mem_cons.1 ho with rfl | ho
    · exact h.1
    · exact allLooks_spec h.2 o ho

/-- May the operations run in this order: each behind what it waits for, no effect beside a new block that it does not wait for, all of them once. -/
def sOK (ops : List Oper) (an : List Nat) : List Nat → Nat → List Nat → Bool
  | [], m, _ => Nat.beq (m + 1) (2 ^ ops.length)
  | i :: l, m, pend => match ops[i]? with
    | none => false
    | some o => !bit m i && Nat.beq (Nat.land (an.getD i 0) m) (an.getD i 0) && (match kind o with
      | 3 => allBit (an.getD i 0) pend && sOK ops an l (Nat.lor m (2 ^ i)) []
      | 2 => sOK ops an l (Nat.lor m (2 ^ i)) (pend ++ [i])
      | _ => sOK ops an l (Nat.lor m (2 ^ i)) pend)

/-- The effects among l. -/
def effO (ops : List Oper) : List Nat → List Nat
  | [] => []
  | i :: l => match ops[i]? with | some o => if Nat.beq (kind o) 3 then i :: effO ops l else effO ops l | none => effO ops l

noncomputable def dOK (n : Nat) (ops : List Oper) (an : List Nat) : Bool :=
  iff' (tmpsOk ops an ops 0) (iff' (boundOk an 0) (iff' (sOK ops an (ordOf ops an) 0 []) (iff' (chainOk an (effO ops (ordOf ops an))) (allLooks n ops ops) false) false) false) false

theorem land_sub {a m : Nat} (h : Nat.beq (Nat.land a m) a = true) : ∀ k, bit a k = true → bit m k = true := by
  intro k hk
  have e := Nat.eq_of_beq_eq_true h
  have e' : (a &&& m) = a := e
  rw [bit_eq] at hk ⊢
  rw [← e', Nat.testBit_and, Bool.and_eq_true] at hk
  exact hk.2

/-- Is there an operation that makes or writes? -/
def hasEff : List Oper → Bool
  | [] => false
  | o :: l => Nat.ble 2 (kind o) || hasEff l
theorem hasEff_spec : ∀ {l : List Oper}, hasEff l = false → ∀ o ∈ l, kind o < 2
  | [], h, o, ho => by simp at ho
  | x :: l, h, o, ho => by
    simp only [hasEff, Bool.or_eq_false_iff] at h
    rcases List.mem_cons.1 ho with rfl | ho
    · have := h.1
      cases hq : Nat.ble 2 (kind o) with
      | false => exact Nat.lt_of_not_le fun hle => by rw [Nat.ble_eq_true_of_le hle] at hq; cases hq
      | true => rw [hq] at this; cases this
    · exact hasEff_spec h.2 o ho

section facts
variable {gl : Glob} {d n : Nat} {ops : List Oper} {an : List Nat} {tm tmc : Tr} {i : Nat} {vals : List (Option AV)} {done : Nat} {E : Tre AV d} {o : Oper}

/-- The environment of the operation that is next is what its temporaries hold. -/
theorem env_here (htm : tmpsOkAt ops an i o = true) (hlt : ∀ t ∈ looks ops o, t < n) (hV : VInv ops an tm vals done tmc) (hE : EnvSim d n E tmc) (hi : bit done i = false) (han : ∀ k, bit (an.getD i 0) k = true → bit done k = true) :
    ∃ env, envOf tm vals ops (bit (an.getD i 0)) (looks ops o) = some env ∧ (∀ t ∈ looks ops o, alook t env = some (teget d t E)) ∧ (∀ t v, (t, v) ∈ env → ∃ s ∈ looks ops o, v = teget d s E) := by
  simp only [tmpsOkAt, Bool.and_eq_true] at htm
  have hlast : ∀ t ∈ looks ops o, lastW vals (bit (an.getD i 0)) t ops 0 (tget tm t) = some (teget d t E) := by
    intro t ht
    have hw := List.all_eq_true.1 htm.1 t ht
    rw [lastW_congr (D' := bit done) ops 0 _ (fun k x hx hd => ?_), hV.cur t, hE t, if_pos (hlt t ht)]
    simp only [Nat.zero_add]
    cases hq : bit done k with
    | true =>
      rcases writersOk_spec ops 0 k x hw hx hd with h1 | h1 | h1
      · rw [Nat.zero_add] at h1; subst h1; rw [hi] at hq; cases hq
      · rwa [Nat.zero_add] at h1
      · rw [Nat.zero_add] at h1
        have := hV.cls k i hq h1
        rw [hi] at this; cases this
    | false =>
      cases hp : bit (an.getD i 0) k with
      | false => rfl
      | true => rw [han k hp] at hq; cases hq
  obtain ⟨env, he⟩ := envOf_some (looks ops o) fun t ht => ⟨_, hlast t ht⟩
  refine ⟨env, he, fun t ht => ?_, fun t v hm => ?_⟩
  · obtain ⟨u, hu⟩ := envOf_mem _ _ he t ht
    obtain ⟨_, h2⟩ := envOf_look _ _ he t u hu
    rw [hlast t ht] at h2
    rw [hu, ← h2]
  · exact envOf_vals (Q := fun v => ∃ s ∈ looks ops o, v = teget d s E) _ _ he (fun t ht v hv => ⟨t, ht, by rw [hlast t ht] at hv; simpa using hv.symm⟩) t v hm

theorem looks_op {x : Operand} {t : Nat} (hx : x ∈ o.op.operands.toList) (e : x = .tmp t) : t ∈ looks ops o := by
  subst e
  have := mem_opTmps _ hx
  unfold looks
  split
  · exact this
  · split
    · split
      · exact List.mem_cons_of_mem _ this
      · exact this
    · exact this

theorem evalE_here {env : List (Nat × AV)} (hl : ∀ t ∈ looks ops o, alook t env = some (teget d t E)) (hE : EnvSim d n E tmc) (hlt : ∀ t ∈ looks ops o, t < n) : ∀ x ∈ o.op.operands.toList, evalE gl env x = aeval gl tmc x := by
  intro x hx
  cases x with
  | tmp t =>
    have ht := looks_op (ops := ops) hx rfl
    simp only [evalE, aeval, hl t ht, hE t, if_pos (hlt t ht)]
  | const v => rfl
  | global g => rfl
  | func f => rfl

theorem wanted_here {env : List (Nat × AV)} (hl : ∀ t ∈ looks ops o, alook t env = some (teget d t E)) (hE : EnvSim d n E tmc) (hlt : ∀ t ∈ looks ops o, t < n) {b : Bool} (h : awanted ops o tmc = some b) : wantedE ops env o = b := by
  unfold awanted at h
  unfold wantedE
  split at h
  · rename_i e; simp at h; subst h; simp [e]
  · rename_i j want e
    split at h <;> try (simp at h; done)
    rename_i g hj
    split at h <;> try (simp at h; done)
    rename_i t ht
    have hmem : t ∈ looks ops o := by simp [looks, e, hj, ht]
    simp only [e, hj, ht, hl t hmem]
    rw [hE t, if_pos (hlt t hmem)] at h
    split at h
    · rename_i b' hb; simp at hb; simp at h; rw [hb]; exact h
    · rename_i u hne hu
      simp at h hu
      subst h; subst hu
      split
      · rename_i b' hb; simp at hb; exact absurd hb (hne b')
      · rfl
    · rename_i hn; cases hn
end facts

/-! the quick run -/
section run
variable (P : Program) (gl : Glob) (d n : Nat)

/-- A load that is asked again: in another memory its value is to be the same. -/
noncomputable def cchk (ops : List Oper) (o : Oper) : Option (FOrc → Tre AV d → TH → AV → Res → Res) := if oddC P o = true then none else match cop P gl d n o, cgrd d n ops o with
  | some F, some none => some fun forc E B v k => F forc E B fun u _ => iff' (veqF v u) k none
  | some F, some (some (q, want)) => some fun forc E B v k => onBool (q E) (fun b => iff' b (iff' want (F forc E B fun u _ => iff' (veqF v u) k none) k) (iff' want k (F forc E B fun u _ => iff' (veqF v u) k none))) k
  | _, _ => none

noncomputable def fstg (an : List Nat) (aj j : Nat) (chk : TH → Res → Res) (base : TH) (k : Res) (sts : List (Nat × TH)) : Res :=
  List.rec (chk base k) (fun p _ ih => Prod.rec (fun e B => iff' (bit aj e) ih (chk B (iff' (bit (an.getD e 0) j) k ih))) p) sts

abbrev Rec (d : Nat) := Nat × Tre AV d × AV

noncomputable def chkAt (ops : List Oper) (j : Nat) : Option (FOrc → Tre AV d → TH → AV → Res → Res) := match ops[j]? with | some o => cchk P gl d n ops o | none => none

noncomputable def fchks (ops : List Oper) (an : List Nat) (forc : FOrc) (sts : List (Nat × TH)) (base : TH) (k : Res) (recs : List (Rec d)) : Res :=
  List.rec k (fun p _ ih => Prod.rec (fun j q => Prod.rec (fun E v => Option.rec none (fun c => fstg an (an.getD j 0) j (fun B k => c forc E B v k) base ih sts) (chkAt P gl d n ops j)) q) p) recs

noncomputable def clk (gl : Glob) (d n : Nat) : List Nat → Option (Tre AV d → List AV)
  | [] => some fun _ => []
  | t :: l => match copd gl d n (.tmp t), clk gl d n l with | some g, some G => some fun E => g E :: G E | _, _ => none

noncomputable def cdst (gl : Glob) (d n : Nat) (o : Oper) : Option (Tre AV d → AV) := match o.dst with | some t => copd gl d n (.tmp t) | none => none

noncomputable def four {β : Type} (k : Nat) (a b c e : β) : β := Nat.rec a (fun k _ => Nat.rec b (fun k _ => Nat.rec c (fun _ _ => e) k) k) k

abbrev DrwF (d : Nat) := Tre AV d → TH → TH → List (Nat × TH) → List (Rec d) → (Tre AV d → TH → Res) → Res

/-- One operation more. -/
noncomputable def fdrw1 (ops : List Oper) (rc : Bool) (forc : FOrc) (i : Nat) (o : Oper) (ih : DrwF d) : DrwF d := fun E T B sts recs k =>
  Option.rec none (fun s => four (kind o)
      (s forc E T fun E' T' => ih E' T' B sts recs k)
      (iff' rc (Option.rec none (fun g => s forc E T fun E' T' => frc1 (g E') fun v => ih E' T' B sts ((i, E, v) :: recs) k) (cdst gl d n o)) (s forc E T fun E' T' => ih E' T' B sts recs k))
      (s forc E T fun E' T' => iff' (iff' (Nat.beq T'.sz T.sz) true (ltO T.sz (T'.get T.sz))) (ih E' T' B sts recs k) none)
      (Option.rec none (fun L => iff' (ltL T.sz (L E)) (s forc E T fun E' T' => iff' (Nat.ble T.sz T'.sz) (ih E' T' T' (appR sts [(i, B)]) recs k) none) none) (clk gl d n (looks ops o))))
    (cstep P gl d n ops o)

noncomputable def fdrw (ops : List Oper) (an : List Nat) (rc : Bool) (forc : FOrc) (l : List Nat) : DrwF d :=
  List.rec (motive := fun _ => DrwF d) (fun E T B sts recs k => fchks P gl d n ops an forc sts B (k E T) recs) (fun i _ ih => Option.rec (fun _ _ _ _ _ _ => none) (fun o => fdrw1 P gl d n ops rc forc i o ih) (ops[i]?)) l

noncomputable def fdraw (ops : List Oper) (forc : FOrc) (E : Tre AV d) (T : TH) (k : Tre AV d → TH → Res) : Res :=
  iff' (noOdd P ops) (iff' (dOK n ops (ancs ops [])) (fdrw P gl d n ops (ancs ops []) (hasEff ops) forc (ordOf ops (ancs ops [])) E T T [] [] k) none) none
end run

end Go.Abs

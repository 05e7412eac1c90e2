/-
  A verified abstract interpreter, part 33: regions whose values are not all known.
-/
import Derived.Test.YtajhailaofchlaaDoorAbs32
set_option linter.unusedSimpArgs false
set_option linter.unusedVariables false
namespace Go.Abs
open Go.RowKit

section reg
variable (P : Program) (gl : Glob) (orc : Orc) (cw : CW)

/-! in the order of the text -/
def wantW (ops : List Oper) (o : Oper) (tm : Tr) (A B : Prop) : Prop :=
  match o.guard with
  | none => A
  | some (j, want) => onO ops[j]? fun g => onO g.dst fun d => onO (tget tm d) fun v => match v with
    | .bool b => match want with
      | true => (b = true → A) ∧ (b = false → B)
      | false => (b = true → B) ∧ (b = false → A)
    | _ => B

theorem wantW_ok {ops : List Oper} {o : Oper} {tm : Tr} {A B : Prop} (h : wantW ops o tm A B) : (awanted ops o tm = some true ∧ A) ∨ (awanted ops o tm = some false ∧ B) := by
  unfold wantW at h
  unfold awanted
  split at h
  · rename_i e; exact .inl ⟨by simp only [e], h⟩
  · rename_i j want e
    obtain ⟨g, h1, h⟩ := onO_some h
    obtain ⟨d, h2, h⟩ := onO_some h
    obtain ⟨v, h3, h⟩ := onO_some h
    split at h
    · rename_i b
      simp only [e, h1, h2, h3]
      cases b <;> cases want
      · exact .inl ⟨rfl, h.2 rfl⟩
      · exact .inr ⟨rfl, h.2 rfl⟩
      · exact .inr ⟨rfl, h.1 rfl⟩
      · exact .inl ⟨rfl, h.1 rfl⟩
    · rename_i hne
      refine .inr ⟨?_, h⟩
      simp only [e, h1, h2, h3]

noncomputable def seqW (ops : List Oper) (l : List Oper) : Tr → AHeap → (Tr → AHeap → Prop) → Prop :=
  List.rec (motive := fun _ => Tr → AHeap → (Tr → AHeap → Prop) → Prop) (fun tm H k => k tm H)
    (fun o _ ih tm H k => wantW ops o tm (opW P orc cw (aeval gl tm) o H fun r H' => onO (putT o.dst r tm) fun tm' => ih tm' H' k) (onO (putT o.dst (.tuple []) tm) fun tm' => ih tm' H k)) l
theorem seqW_cons (ops : List Oper) (o : Oper) (l : List Oper) (tm : Tr) (H : AHeap) (k : Tr → AHeap → Prop) :
    seqW P gl orc cw ops (o :: l) tm H k = wantW ops o tm (opW P orc cw (aeval gl tm) o H fun r H' => onO (putT o.dst r tm) fun tm' => seqW P gl orc cw ops l tm' H' k) (onO (putT o.dst (.tuple []) tm) fun tm' => seqW P gl orc cw ops l tm' H k) := rfl

theorem seqW_ok (hcw : CWok P orc cw) {ops : List Oper} : ∀ {l : List Oper} {tm : Tr} {H : AHeap} {k : Tr → AHeap → Prop}, seqW P gl orc cw ops l tm H k → ∃ tm' H', aseq P gl orc ops l tm H = some (tm', H') ∧ k tm' H'
  | [], tm, H, k, h => ⟨tm, H, rfl, h⟩
  | o :: l, tm, H, k, h => by
    rw [seqW_cons] at h
    rcases wantW_ok h with ⟨h1, h⟩ | ⟨h1, h⟩
    · obtain ⟨r, H', h2, h⟩ := opW_ok P hcw h
      obtain ⟨tm', h3, h⟩ := onO_some h
      obtain ⟨tm2, H2, h4, h⟩ := seqW_ok hcw h
      exact ⟨tm2, H2, by simp only [aseq, h1, h2, frcC_eq, h3]; exact h4, h⟩
    · obtain ⟨tm', h3, h⟩ := onO_some h
      obtain ⟨tm2, H2, h4, h⟩ := seqW_ok hcw h
      exact ⟨tm2, H2, by simp only [aseq, h1, h3]; exact h4, h⟩

/-! in an order that is drawn -/
def wantEW (ops : List Oper) (env : List (Nat × AV)) (o : Oper) (A B : Prop) : Prop :=
  match o.guard with
  | none => A
  | some (j, want) => match ops[j]? with
    | some g => match g.dst with
      | some d => match alook d env with
        | some (.bool b) => match want with
          | true => (b = true → A) ∧ (b = false → B)
          | false => (b = true → B) ∧ (b = false → A)
        | _ => B
      | none => B
    | none => B

theorem wantEW_ok {ops : List Oper} {env : List (Nat × AV)} {o : Oper} {A B : Prop} (h : wantEW ops env o A B) : (wantedE ops env o = true ∧ A) ∨ (wantedE ops env o = false ∧ B) := by
  unfold wantEW at h
  unfold wantedE
  split at h
  · rename_i e; exact .inl ⟨by simp only [e], h⟩
  · rename_i j want e
    split at h
    · rename_i g e1
      split at h
      · rename_i d e2
        split at h
        · rename_i b e3
          simp only [e, e1, e2, e3]
          cases b <;> cases want
          · exact .inl ⟨rfl, h.2 rfl⟩
          · exact .inr ⟨rfl, h.2 rfl⟩
          · exact .inr ⟨rfl, h.1 rfl⟩
          · exact .inl ⟨rfl, h.1 rfl⟩
        · rename_i hne
          refine .inr ⟨?_, h⟩
          simp only [e, e1, e2]
      · rename_i e2; exact .inr ⟨by simp only [e, e1, e2], h⟩
    · rename_i e1; exact .inr ⟨by simp only [e, e1], h⟩

/-- The temporaries that an operation looks at. -/
def envT (tm : Tr) : List Nat → Option (List (Nat × AV))
  | [] => some []
  | t :: ts => match tget tm t, envT tm ts with | some v, some e => some ((t, v) :: e) | _, _ => none

theorem envT_eq {tm tmc : Tr} {vals : List (Option AV)} {ops : List Oper} {D : Nat → Bool} : ∀ {ts : List Nat}, (∀ t ∈ ts, lastW vals D t ops 0 (tget tm t) = tget tmc t) → envOf tm vals ops D ts = envT tmc ts
  | [], h => rfl
  | t :: ts, h => by
    have ih : envOf tm vals ops D ts = envT tmc ts := envT_eq fun s hs => h s (by simp [hs])
    simp only [envOf, envT, h t (by simp), ih]
    rfl

theorem env_now {ops : List Oper} {an : List Nat} {tm tmc : Tr} {i : Nat} {o : Oper} {vals : List (Option AV)} {done : Nat} (htm : tmpsOkAt ops an i o = true) (hV : VInv ops an tm vals done tmc) (hi : bit done i = false) (han : ∀ k, bit (an.getD i 0) k = true → bit done k = true) :
    envOf tm vals ops (bit (an.getD i 0)) (looks ops o) = envT tmc (looks ops o) := by
  simp only [tmpsOkAt, Bool.and_eq_true] at htm
  refine envT_eq fun t ht => ?_
  have hw := List.all_eq_true.1 htm.1 t ht
  rw [lastW_congr (D' := bit done) ops 0 _ (fun k x hx hd => ?_), hV.cur t]
  simp only [Nat.zero_add]
  cases hq : bit done k with
  | true =>
    rcases writersOk_spec ops 0 k x hw hx hd with h1 | h1 | h1
    · rw [Nat.zero_add] at h1; subst h1; rw [hi] at hq; cases hq
    · rwa [Nat.zero_add] at h1
    · rw [Nat.zero_add] at h1
      have := hV.cls k i hq h1
      rw [hi] at this; cases this
  | false =>
    cases hp : bit (an.getD i 0) k with
    | false => rfl
    | true => rw [han k hp] at hq; cases hq

abbrev RecT := Nat × Oper × List (Nat × AV) × AV
abbrev StK := Tr → Nat → AHeap → List Nat → AHeap → List (Nat × AHeap × List Nat) → List RecT → Prop

def dstepW (ops : List Oper) (an : List Nat) (i : Nat) (tmc : Tr) (done : Nat) (base : AHeap) (new : List Nat) (heap : AHeap) (sts : List (Nat × AHeap × List Nat)) (recs : List RecT) (k : StK) : Prop :=
  onO ops[i]? fun o => onO (envT tmc (looks ops o)) fun env =>
    match !(bit done i) && Nat.beq (Nat.land (an.getD i 0) done) (an.getD i 0) with
    | false => False
    | true => frcN (Nat.lor done (2 ^ i)) fun done' =>
      match kind o with
      | 2 => wantEW ops env o
          (onO (aallocF P (evalE gl env) o) fun x => if allLt heap.length (refsB x.2 []) then frcW (x.1 heap.length) fun r => frcHW (heap ++ [⟨true, heap.length, 0, x.2⟩]) fun H' =>
            onO (putT o.dst r tmc) fun tmc => k tmc done' base (new ++ [i]) H' sts recs else False)
          (onO (putT o.dst (.tuple []) tmc) fun tmc => k tmc done' base new heap sts recs)
      | 3 => if allBit (an.getD i 0) new && allLt heap.length (refsEnv env []) then wantEW ops env o
          (opW P orc cw (evalE gl env) o heap fun r H' => if Nat.ble heap.length H'.length then onO (putT o.dst r tmc) fun tmc => k tmc done' H' [] H' (sts ++ [(i, base, new)]) recs else False)
          (onO (putT o.dst (.tuple []) tmc) fun tmc => k tmc done' heap [] heap (sts ++ [(i, base, new)]) recs)
        else False
      | 1 => wantEW ops env o
          (pureW P (evalE gl env) heap o fun r => onO (putT o.dst r tmc) fun tmc => k tmc done' base new heap sts ((i, o, env, r) :: recs))
          (onO (putT o.dst (.tuple []) tmc) fun tmc => k tmc done' base new heap sts recs)
      | _ => wantEW ops env o
          (pureW P (evalE gl env) heap o fun r => onO (putT o.dst r tmc) fun tmc => k tmc done' base new heap sts recs)
          (onO (putT o.dst (.tuple []) tmc) fun tmc => k tmc done' base new heap sts recs)

/-- Of each load that has run it is noted how it was asked. -/
structure RecOK (ops : List Oper) (an : List Nat) (tm : Tr) (vals : List (Option AV)) (done : Nat) (recs : List RecT) : Prop where
  at_ : ∀ r ∈ recs, At ops an tm vals r.1 r.2.1 r.2.2.1 r.2.2.2
  all : ∀ (j : Nat) (o : Oper) (env : List (Nat × AV)) (v : AV), bit done j = true → kind o = 1 → At ops an tm vals j o env v → wantedE ops env o = true → (j, o, env, v) ∈ recs

theorem RecOK.next {ops : List Oper} {an : List Nat} {tm tmc : Tr} {i : Nat} {o : Oper} {env : List (Nat × AV)} {vals : List (Option AV)} {done : Nat} {recs recs' : List RecT} {r : AV} (h : RecOK ops an tm vals done recs) (hV : VInv ops an tm vals done tmc) (hi : bit done i = false) (ho : ops[i]? = some o)
    (henv : envOf tm vals ops (bit (an.getD i 0)) (looks ops o) = some env) (hF : ∀ k, bit done k = true → ∃ o env v, At ops an tm vals k o env v)
    (hr : recs' = recs ∧ (kind o = 1 → wantedE ops env o = false) ∨ recs' = (i, o, env, r) :: recs) : RecOK ops an tm (vals.set i (some r)) (Nat.lor done (2 ^ i)) recs' ∧ ∀ k, bit (Nat.lor done (2 ^ i)) k = true → ∃ o env v, At ops an tm (vals.set i (some r)) k o env v := by
  have hil : i < vals.length := by rw [hV.vlen]; exact (List.getElem?_eq_some_iff.1 ho).1
  have hle := hV.vle hi r
  have hat : At ops an tm (vals.set i (some r)) i o env r := ⟨ho, envOf_mono hle _ _ henv, by simp [hil]⟩
  refine ⟨⟨fun x hx => ?_, fun j o' env' v hj hk ha hw => ?_⟩, fun k hk => ?_⟩
  · rcases hr with ⟨rfl, _⟩ | rfl
    · exact (h.at_ x hx).mono hle
    · rcases List.mem_cons.1 hx with rfl | hx
      · exact hat
      · exact (h.at_ x hx).mono hle
  · rcases (bit_done _ _ _).1 hj with hj | rfl
    · obtain ⟨o2, env2, v2, ha2⟩ := hF j hj
      obtain ⟨rfl, rfl, rfl⟩ := ha.uniq (ha2.mono hle)
      have := h.all j _ _ _ hj hk ha2 hw
      rcases hr with ⟨rfl, _⟩ | rfl
      · exact this
      · exact List.mem_cons_of_mem _ this
    · obtain ⟨rfl, rfl, rfl⟩ := ha.uniq hat
      rcases hr with ⟨rfl, h1⟩ | rfl
      · rw [h1 hk] at hw; cases hw
      · exact List.mem_cons_self ..
  · rcases (bit_done _ _ _).1 hk with hk | rfl
    · obtain ⟨o2, env2, v2, ha2⟩ := hF k hk
      exact ⟨o2, env2, v2, ha2.mono hle⟩
    · exact ⟨o, env, r, hat⟩

/-! two trees of one shape that hold the same are one -/
def shp : Tr → Tr → Prop
  | .leaf, .leaf => True
  | .node _ l r, .node _ l2 r2 => shp l l2 ∧ shp r r2
  | _, _ => False
theorem shp.refl : ∀ t : Tr, shp t t
  | .leaf => trivial
  | .node _ l r => ⟨shp.refl l, shp.refl r⟩
theorem shp.symm : ∀ {t u : Tr}, shp t u → shp u t
  | .leaf, .leaf, _ => trivial
  | .node _ _ _, .node _ _ _, h => ⟨shp.symm h.1, shp.symm h.2⟩
  | .leaf, .node _ _ _, h => h.elim
  | .node _ _ _, .leaf, h => h.elim
theorem shp.trans : ∀ {t u v : Tr}, shp t u → shp u v → shp t v
  | .leaf, .leaf, .leaf, _, _ => trivial
  | .node _ _ _, .node _ _ _, .node _ _ _, h, k => ⟨h.1.trans k.1, h.2.trans k.2⟩
  | .leaf, .node _ _ _, _, h, _ => h.elim
  | .node _ _ _, .leaf, _, h, _ => h.elim
  | .leaf, .leaf, .node _ _ _, _, k => k.elim
  | .node _ _ _, .node _ _ _, .leaf, _, k => k.elim
theorem tset_shp : ∀ {t : Tr} {n : Nat} {v : AV} {t' : Tr}, tset t n v = some t' → shp t t'
  | .leaf, n, v, t', h => by simp [tset] at h
  | .node x l r, 0, v, t', h => by
    simp only [tset] at h
    split at h <;> simp at h
    subst h; exact ⟨shp.refl l, shp.refl r⟩
  | .node x l r, n + 1, v, t', h => by
    simp only [tset] at h
    split at h
    · split at h <;> simp at h
      subst h; rename_i l' hl; exact ⟨tset_shp hl, shp.refl r⟩
    · split at h <;> simp at h
      subst h; rename_i r' hr; exact ⟨shp.refl l, tset_shp hr⟩
theorem putT_shp {d : Option Tmp} {v : AV} {t t' : Tr} (h : putT d v t = some t') : shp t t' := by
  cases d with
  | none => simp [putT] at h; subst h; exact shp.refl t
  | some d => exact tset_shp h
theorem finTmps_shp {vals : List (Option AV)} : ∀ {l : List Oper} {i : Nat} {tm tm' : Tr}, finTmps vals l i tm = some tm' → shp tm tm'
  | [], i, tm, tm', h => by simp [finTmps] at h; subst h; exact shp.refl tm
  | o :: l, i, tm, tm', h => by
    simp only [finTmps] at h
    split at h <;> try (simp at h; done)
    split at h <;> try (simp at h; done)
    rename_i tm1 hp
    exact (putT_shp hp).trans (finTmps_shp h)
theorem shp_ext : ∀ {t u : Tr}, shp t u → (∀ n, tget t n = tget u n) → (∀ n, tex t n = tex u n) → t = u
  | .leaf, .leaf, _, _, _ => rfl
  | .node x l r, .node y l2 r2, h, hg, hx => by
    have e0 : x = y := by
      have h1 := hg 0
      have h2 := hx 0
      simp only [tget, tex] at h1 h2
      cases x <;> cases y <;> simp_all
    have hl : l = l2 := shp_ext h.1 (fun n => by
        have := hg (2 * n + 1)
        have e : Nat.mod (2 * n) 2 = 0 := by show (2 * n) % 2 = 0; omega
        have e2 : Nat.div (2 * n) 2 = n := by show (2 * n) / 2 = n; omega
        simpa only [tget, e, e2] using this) (fun n => by
        have := hx (2 * n + 1)
        have e : Nat.mod (2 * n) 2 = 0 := by show (2 * n) % 2 = 0; omega
        have e2 : Nat.div (2 * n) 2 = n := by show (2 * n) / 2 = n; omega
        simpa only [tex, e, e2] using this)
    have hr : r = r2 := shp_ext h.2 (fun n => by
        have := hg (2 * n + 1 + 1)
        have e : Nat.mod (2 * n + 1) 2 = 1 := by show (2 * n + 1) % 2 = 1; omega
        have e2 : Nat.div (2 * n + 1) 2 = n := by show (2 * n + 1) / 2 = n; omega
        simpa only [tget, e, e2] using this) (fun n => by
        have := hx (2 * n + 1 + 1)
        have e : Nat.mod (2 * n + 1) 2 = 1 := by show (2 * n + 1) % 2 = 1; omega
        have e2 : Nat.div (2 * n + 1) 2 = n := by show (2 * n + 1) / 2 = n; omega
        simpa only [tex, e, e2] using this)
    rw [e0, hl, hr]
  | .leaf, .node _ _ _, h, _, _ => h.elim
  | .node _ _ _, .leaf, h, _, _ => h.elim

structure DW (ops : List Oper) (an : List Nat) (tm tmc : Tr) (s : DSt) (recs : List RecT) : Prop where
  v : VInv ops an tm s.vals s.done tmc
  r : RecOK ops an tm s.vals s.done recs
  f : ∀ k, bit s.done k = true → ∃ o env v, At ops an tm s.vals k o env v
  ex : ∀ t, tex tmc t = tex tm t
  sh : shp tm tmc

theorem DW.next {ops : List Oper} {an : List Nat} {tm tmc tmc' : Tr} {s : DSt} {recs recs' : List RecT} {i : Nat} {o : Oper} {env : List (Nat × AV)} {r : AV} {base heap : AHeap} {new : List Nat} {sts : List (Nat × AHeap × List Nat)} (h : DW ops an tm tmc s recs) (ho : ops[i]? = some o) (hi : bit s.done i = false) (han : ∀ k, bit (an.getD i 0) k = true → bit s.done k = true)
    (hb : an.getD i 0 < 2 ^ i) (htm : tmpsOkAt ops an i o = true) (henv : envOf tm s.vals ops (bit (an.getD i 0)) (looks ops o) = some env) (hp : putT o.dst r tmc = some tmc') (hr : recs' = recs ∧ (kind o = 1 → wantedE ops env o = false) ∨ recs' = (i, o, env, r) :: recs) :
    DW ops an tm tmc' ⟨s.vals.set i (some r), Nat.lor s.done (2 ^ i), base, new, heap, sts⟩ recs' := by
  obtain ⟨g1, g2⟩ := h.r.next h.v hi ho henv h.f hr
  exact ⟨h.v.next ho hp hi han hb htm, g1, g2, fun t => by rw [putT_tex hp t]; exact h.ex t, h.sh.trans (putT_shp hp)⟩

theorem dstepW_ok (hcw : CWok P orc cw) {ops : List Oper} {an : List Nat} {tm tmc : Tr} {i : Nat} {s : DSt} {recs : List RecT} {k : StK} (hW : DW ops an tm tmc s recs) (htm : ∀ i o, ops[i]? = some o → tmpsOkAt ops an i o = true) (hb : ∀ i, i < ops.length → an.getD i 0 < 2 ^ i)
    (h : dstepW P gl orc cw ops an i tmc s.done s.base s.new s.heap s.sts recs k) : ∃ s' tmc' recs', dstep P gl orc ops an tm i s = some s' ∧ DW ops an tm tmc' s' recs' ∧ k tmc' s'.done s'.base s'.new s'.heap s'.sts recs' := by
  unfold dstepW at h
  obtain ⟨o, ho, h⟩ := onO_some h
  obtain ⟨env, henvT, h⟩ := onO_some h
  split at h
  · exact h.elim
  · rename_i hc
    simp only [Bool.and_eq_true, Bool.not_eq_true'] at hc
    obtain ⟨hi, hsub⟩ := hc
    have han := land_sub hsub
    have htm' := htm i o ho
    have hb' := hb i (List.getElem?_eq_some_iff.1 ho).1
    have henv : envOf tm s.vals ops (bit (an.getD i 0)) (looks ops o) = some env := by rw [env_now htm' hW.v hi han, henvT]
    rw [frcN_eq] at h
    unfold dstep
    simp only [ho, henv, hi, Bool.false_eq_true, if_false]
    split at h
    · rename_i hk
      simp only [hk]
      have hk1 : ∀ {b : Bool}, kind o = 1 → wantedE ops env o = b := fun e => by rw [hk] at e; cases e
      rcases wantEW_ok h with ⟨h1, h⟩ | ⟨h1, h⟩
      · obtain ⟨⟨mk, body⟩, h2, h⟩ := onO_some h
        split at h
        · rename_i h3
          rw [frcW_eq, frcHW_eq] at h
          obtain ⟨tmc', h4, h⟩ := onO_some h
          simp only at h3
          exact ⟨_, tmc', recs, by simp only [h1, if_true, h2]; rw [if_pos h3, frcC_eq], hW.next ho hi han hb' htm' henv h4 (.inl ⟨rfl, hk1⟩), h⟩
        · exact h.elim
      · obtain ⟨tmc', h4, h⟩ := onO_some h
        exact ⟨_, tmc', recs, by simp only [h1, Bool.false_eq_true, if_false], hW.next ho hi han hb' htm' henv h4 (.inl ⟨rfl, hk1⟩), h⟩
    · rename_i hk
      simp only [hk]
      have hk1 : ∀ {b : Bool}, kind o = 1 → wantedE ops env o = b := fun e => by rw [hk] at e; cases e
      split at h
      · rename_i h0
        rcases wantEW_ok h with ⟨h1, h⟩ | ⟨h1, h⟩
        · obtain ⟨r, H', h2, h⟩ := opW_ok P hcw h
          split at h
          · rename_i h3
            obtain ⟨tmc', h4, h⟩ := onO_some h
            exact ⟨_, tmc', recs, by rw [if_pos h0]; simp only [h1, if_true, h2, frcC_eq]; rw [if_pos h3], hW.next ho hi han hb' htm' henv h4 (.inl ⟨rfl, hk1⟩), h⟩
          · exact h.elim
        · obtain ⟨tmc', h4, h⟩ := onO_some h
          exact ⟨_, tmc', recs, by rw [if_pos h0]; simp only [h1, Bool.false_eq_true, if_false], hW.next ho hi han hb' htm' henv h4 (.inl ⟨rfl, hk1⟩), h⟩
      · exact h.elim
    · rename_i hk
      simp only [hk]
      rcases wantEW_ok h with ⟨h1, h⟩ | ⟨h1, h⟩
      · obtain ⟨r, h2, h⟩ := pureW_ok P h
        obtain ⟨tmc', h4, h⟩ := onO_some h
        exact ⟨_, tmc', _, by simp only [h1, if_true, h2, frcC_eq], hW.next ho hi han hb' htm' henv h4 (.inr rfl), h⟩
      · obtain ⟨tmc', h4, h⟩ := onO_some h
        exact ⟨_, tmc', recs, by simp only [h1, Bool.false_eq_true, if_false], hW.next ho hi han hb' htm' henv h4 (.inl ⟨rfl, fun _ => h1⟩), h⟩
    · rename_i hk2 hk3 hk1
      have key : ∀ {A B C : Option DSt}, (match kind o with | 2 => A | 3 => B | _ => C) = C := by
        intro A B C
        split
        · rename_i e; exact (hk2 e).elim
        · rename_i e; exact (hk3 e).elim
        · rfl
      rcases wantEW_ok h with ⟨h1, h⟩ | ⟨h1, h⟩
      · obtain ⟨r, h2, h⟩ := pureW_ok P h
        obtain ⟨tmc', h4, h⟩ := onO_some h
        exact ⟨_, tmc', recs, key.trans (by simp only [h1, if_true, h2, frcC_eq]), hW.next ho hi han hb' htm' henv h4 (.inl ⟨rfl, fun e => (hk1 e).elim⟩), h⟩
      · obtain ⟨tmc', h4, h⟩ := onO_some h
        exact ⟨_, tmc', recs, key.trans (by simp only [h1, Bool.false_eq_true, if_false]), hW.next ho hi han hb' htm' henv h4 (.inl ⟨rfl, fun e => (hk1 e).elim⟩), h⟩

noncomputable def drunsW (ops : List Oper) (an : List Nat) (l : List Nat) : Tr → Nat → AHeap → List Nat → AHeap → List (Nat × AHeap × List Nat) → List RecT → StK → Prop :=
  List.rec (motive := fun _ => Tr → Nat → AHeap → List Nat → AHeap → List (Nat × AHeap × List Nat) → List RecT → StK → Prop) (fun tmc done base new heap sts recs k => k tmc done base new heap sts recs)
    (fun i _ ih tmc done base new heap sts recs k => dstepW P gl orc cw ops an i tmc done base new heap sts recs fun tmc done base new heap sts recs => ih tmc done base new heap sts recs k) l

theorem drunsW_ok (hcw : CWok P orc cw) {ops : List Oper} {an : List Nat} {tm : Tr} (htm : ∀ i o, ops[i]? = some o → tmpsOkAt ops an i o = true) (hb : ∀ i, i < ops.length → an.getD i 0 < 2 ^ i) : ∀ {l : List Nat} {tmc : Tr} {s : DSt} {recs : List RecT} {k : StK}, DW ops an tm tmc s recs → drunsW P gl orc cw ops an l tmc s.done s.base s.new s.heap s.sts recs k →
    ∃ s' tmc' recs', druns P gl orc ops an tm l s = some s' ∧ DW ops an tm tmc' s' recs' ∧ k tmc' s'.done s'.base s'.new s'.heap s'.sts recs'
  | [], tmc, s, recs, k, hW, h => ⟨s, tmc, recs, rfl, hW, h⟩
  | i :: l, tmc, s, recs, k, hW, h => by
    replace h : dstepW P gl orc cw ops an i tmc s.done s.base s.new s.heap s.sts recs fun tmc done base new heap sts recs => drunsW P gl orc cw ops an l tmc done base new heap sts recs k := h
    obtain ⟨s1, t1, r1, h1, w1, h⟩ := dstepW_ok P gl orc cw hcw hW htm hb h
    obtain ⟨s2, t2, r2, h2, w2, h⟩ := drunsW_ok hcw htm hb w1 h
    exact ⟨s2, t2, r2, by simp only [druns, h1]; exact h2, w2, h⟩

noncomputable def stagesW (o : Oper) (env : List (Nat × AV)) (v : AV) (j : Nat) (an : List Nat) (aj : Nat) (K : Prop) (l : List (Nat × AHeap × List Nat)) : AHeap → Prop :=
  List.rec (motive := fun _ => AHeap → Prop) (fun H => pureW P (evalE gl env) H o fun u => u = v ∧ K)
    (fun p _ ih H => Prod.rec (fun e q => Prod.rec (fun B _ => match bit aj e with
      | true => ih H
      | false => pureW P (evalE gl env) B o fun u => u = v ∧ (match bit (an.getD e 0) j with | true => K | false => ih H)) q) p) l

theorem stagesW_ok {o : Oper} {env : List (Nat × AV)} {v : AV} {j : Nat} {an : List Nat} {aj : Nat} {K : Prop} : ∀ {l : List (Nat × AHeap × List Nat)} {H : AHeap}, stagesW P gl o env v j an aj K l H → stages P gl o env v j an aj veq l H = true ∧ K
  | [], H, h => by
    obtain ⟨u, h1, h2, hK⟩ := pureW_ok P h
    subst h2
    exact ⟨by simp only [stages, h1, veq_refl], hK⟩
  | (e, B, nw) :: l, H, h => by
    replace h : (match bit aj e with
      | true => stagesW P gl o env v j an aj K l H
      | false => pureW P (evalE gl env) B o fun u => u = v ∧ (match bit (an.getD e 0) j with | true => K | false => stagesW P gl o env v j an aj K l H)) := h
    simp only [stages]
    split at h
    · rename_i hb; rw [if_pos hb]; exact stagesW_ok h
    · rename_i hb
      rw [if_neg (by rw [hb]; simp)]
      obtain ⟨u, h3, h4, h2⟩ := pureW_ok P h
      subst h4
      simp only [h3, veq_refl, Bool.true_and, Bool.or_eq_true]
      split at h2
      · rename_i hc; exact ⟨.inl hc, h2⟩
      · exact ⟨.inr (stagesW_ok h2).1, (stagesW_ok h2).2⟩

/-- All loads, asked again. -/
noncomputable def stagesR (an : List Nat) (sts : List (Nat × AHeap × List Nat)) (base : AHeap) (K : Prop) (l : List RecT) : Prop :=
  List.rec (motive := fun _ => Prop) K (fun r _ ih => Prod.rec (fun j q => Prod.rec (fun o q => Prod.rec (fun env v => stagesW P gl o env v j an (an.getD j 0) ih sts base) q) q) r) l

theorem stagesR_ok {an : List Nat} {sts : List (Nat × AHeap × List Nat)} {base : AHeap} {K : Prop} : ∀ {l : List RecT}, stagesR P gl an sts base K l → (∀ r ∈ l, stages P gl r.2.1 r.2.2.1 r.2.2.2 r.1 an (an.getD r.1 0) veq sts base = true) ∧ K
  | [], h => ⟨fun r hr => by simp at hr, h⟩
  | (j, o, env, v) :: l, h => by
    replace h : stagesW P gl o env v j an (an.getD j 0) (stagesR P gl an sts base K l) sts base := h
    obtain ⟨h1, h2⟩ := stagesW_ok P gl h
    obtain ⟨h3, h4⟩ := stagesR_ok h2
    refine ⟨fun r hr => ?_, h4⟩
    rcases List.mem_cons.1 hr with rfl | hr
    · exact h1
    · exact h3 r hr

theorem stages_all {ops : List Oper} {an : List Nat} {tm tmc : Tr} {s : DSt} {recs : List RecT} (hW : DW ops an tm tmc s recs) (hr : ∀ r ∈ recs, stages P gl r.2.1 r.2.2.1 r.2.2.2 r.1 an (an.getD r.1 0) veq s.sts s.base = true) :
    ∀ (l : List Oper) (j : Nat), (∀ i, i < l.length → bit s.done (j + i) = true ∧ ops[j + i]? = l[i]?) → stagesOk P gl tm ops an s l j = true
  | [], j, hd => rfl
  | o :: l, j, hd => by
    simp only [stagesOk, Bool.and_eq_true]
    refine ⟨?_, stages_all hW hr l (j + 1) fun i hi => ?_⟩
    · split
      · rename_i hk
        obtain ⟨h1, h2⟩ := hd 0 (by simp)
        simp only [Nat.add_zero] at h1 h2
        obtain ⟨o2, env, v, hat⟩ := hW.f j h1
        have : o2 = o := by have := hat.op; rw [h2] at this; simpa using this.symm
        subst this
        simp only [hat.val, hat.env]
        split
        · rename_i hw
          exact hr _ (hW.r.all j o2 env v h1 (Nat.eq_of_beq_eq_true hk) hat hw)
        · rfl
      · rfl
    · have := hd (i + 1) (by simpa using hi)
      rw [show j + (i + 1) = j + 1 + i from by omega] at this
      simpa using this

/-- Nothing is made, nothing is written. -/
def quietR : List Oper → Bool
  | [] => true
  | o :: l => Nat.ble (kind o) 1 && quietR l

theorem quietR_get : ∀ {ops : List Oper} {i : Nat} {o : Oper}, quietR ops = true → ops[i]? = some o → kind o ≤ 1
  | [], i, o, h, e => by simp at e
  | x :: l, 0, o, h, e => by simp [quietR] at h e; subst e; exact h.1
  | x :: l, i + 1, o, h, e => by simp [quietR] at h e; exact quietR_get h.2 e

/-- In a region where nothing is made or written: all was read in the memory of its beginning. -/
structure QI (ops : List Oper) (an : List Nat) (tm : Tr) (H0 : AHeap) (s : DSt) : Prop where
  base : s.base = H0
  heap : s.heap = H0
  sts : s.sts = []
  done : ∀ i, bit s.done i = true → ∃ o env v, At ops an tm s.vals i o env v ∧ (wantedE ops env o = true → apure' P (evalE gl env) H0 o = some v)
  vdone : ∀ (i : Nat) (v : AV), s.vals[i]? = some (some v) → bit s.done i = true

theorem QI.start (ops : List Oper) (an : List Nat) (tm : Tr) (H : AHeap) : QI P gl ops an tm H ⟨fillNone ops, 0, H, [], H, []⟩ :=
  ⟨rfl, rfl, rfl, fun i h => (by rw [bit_zero] at h; cases h), fun i v h => (fillNone_get ops i v h).elim⟩

theorem dstep_QI {ops : List Oper} {an : List Nat} {tm : Tr} {H0 : AHeap} {i : Nat} {s s' : DSt} (hq : quietR ops = true) (hl : s.vals.length = ops.length) (h : QI P gl ops an tm H0 s) (e : dstep P gl orc ops an tm i s = some s') : QI P gl ops an tm H0 s' ∧ s'.vals.length = ops.length := by
  unfold dstep at e
  split at e
  · cases e
  · rename_i o ho
    have hk := quietR_get hq ho
    have hil : i < s.vals.length := by rw [hl]; exact (List.getElem?_eq_some_iff.1 ho).1
    split at e
    · cases e
    · rename_i env henv
      split at e
      · cases e
      · rename_i hb
        have hnew : ∀ (v : AV), (wantedE ops env o = true → apure' P (evalE gl env) H0 o = some v) → QI P gl ops an tm H0 ⟨s.vals.set i (some v), Nat.lor s.done (2 ^ i), s.base, s.new, s.heap, s.sts⟩ ∧ (s.vals.set i (some v)).length = ops.length := by
          intro v hv
          have hle : VLe s.vals (s.vals.set i (some v)) := set_vle fun u hu => hb (h.vdone i u hu)
          refine ⟨⟨h.base, h.heap, h.sts, fun j hj => ?_, fun j u hu => ?_⟩, by simpa using hl⟩
          · rcases (bit_done _ _ _).1 hj with hj | rfl
            · obtain ⟨o', env', v', h1, h2⟩ := h.done j hj
              exact ⟨o', env', v', h1.mono hle, h2⟩
            · exact ⟨o, env, v, ⟨ho, envOf_mono hle _ _ henv, by simp [hil]⟩, hv⟩
          · refine (bit_done _ _ _).2 ?_
            simp only [List.getElem?_set] at hu
            split at hu
            · rename_i e; exact .inr e
            · exact .inl (h.vdone j u hu)
        split at e
        · rename_i hk2; omega
        · rename_i hk2; omega
        · split at e
          · rename_i hw
            split at e
            · rename_i r hr
              rw [frcC_eq] at e
              simp at e; subst e
              rw [h.heap] at hr
              exact hnew r fun _ => hr
            · cases e
          · rename_i hw
            simp at e; subst e
            exact hnew _ fun h => absurd h hw

theorem druns_QI {ops : List Oper} {an : List Nat} {tm : Tr} {H0 : AHeap} (hq : quietR ops = true) : ∀ {l : List Nat} {s s' : DSt}, s.vals.length = ops.length → QI P gl ops an tm H0 s → druns P gl orc ops an tm l s = some s' → QI P gl ops an tm H0 s'
  | [], s, s', hl, h, e => by simp [druns] at e; subst e; exact h
  | i :: l, s, s', hl, h, e => by
    simp only [druns] at e
    split at e
    · rename_i s1 h1
      obtain ⟨g1, g2⟩ := dstep_QI P gl orc hq hl h h1
      exact druns_QI hq g2 g1 e
    · cases e

theorem quiet_stages {ops : List Oper} {an : List Nat} {tm : Tr} {H0 : AHeap} {s : DSt} (h : QI P gl ops an tm H0 s) : ∀ (l : List Oper) (j : Nat), (∀ i, i < l.length → bit s.done (j + i) = true ∧ ∃ o, ops[j + i]? = some o ∧ l[i]? = some o) → stagesOk P gl tm ops an s l j = true
  | [], j, hd => rfl
  | o :: l, j, hd => by
    simp only [stagesOk, Bool.and_eq_true]
    refine ⟨?_, quiet_stages h l (j + 1) fun i hi => ?_⟩
    · split
      · obtain ⟨h1, o', h2, h3⟩ := hd 0 (by simp)
        simp only [Nat.add_zero] at h1 h2
        simp at h3; subst h3
        obtain ⟨o2, env, v, hat, hv⟩ := h.done j h1
        have : o2 = o := by have := hat.op; rw [h2] at this; simpa using this.symm
        subst this
        simp only [hat.val, hat.env]
        split
        · rename_i hw
          rw [h.sts, h.base]
          simp only [stages, hv hw, veq_refl]
        · rfl
      · rfl
    · obtain ⟨h1, o', h2, h3⟩ := hd (i + 1) (by simpa using hi)
      rw [show j + (i + 1) = j + 1 + i from by omega] at h1 h2
      exact ⟨h1, o', h2, by simpa using h3⟩

def frcNL : List Nat → (List Nat → Prop) → Prop
  | [], k => k []
  | n :: l, k => frcN n fun n => frcNL l fun l => k (n :: l)
theorem frcNL_eq : ∀ (l : List Nat) (k : List Nat → Prop), frcNL l k = k l
  | [], k => rfl
  | n :: l, k => by simp only [frcNL, frcN_eq, frcNL_eq l]

noncomputable def drawW (ops : List Oper) (tm : Tr) (H : AHeap) (k : Tr → AHeap → Prop) : Prop :=
  frcNL (ancs ops []) fun an =>
  match tmpsOk ops an ops 0 && boundOk an 0 with
  | true => frcNL (ordOf ops an) fun ord => drunsW P gl orc cw ops an ord tm 0 H [] H [] [] fun tmc done base _ heap sts recs =>
    match chainOk an (stFst sts) && Nat.beq (done + 1) (2 ^ ops.length) with
    | true => match quietR ops with
      | true => k tmc heap
      | false => stagesR P gl an sts base (k tmc heap) recs
    | false => False
  | false => False

theorem tmpsOk_at {ops : List Oper} {an : List Nat} : ∀ {l : List Oper} {j i : Nat} {o : Oper}, tmpsOk ops an l j = true → l[i]? = some o → tmpsOkAt ops an (j + i) o = true
  | [], j, i, o, h, ho => by simp at ho
  | x :: l, j, i, o, h, ho => by
    simp only [tmpsOk, Bool.and_eq_true] at h
    cases i with
    | zero => simp at ho; subst ho; exact h.1
    | succ i => have := tmpsOk_at h.2 (by simpa using ho); rwa [show j + 1 + i = j + (i + 1) from by omega] at this

theorem drawW_ok (hcw : CWok P orc cw) {ops : List Oper} {tm : Tr} {H : AHeap} {k : Tr → AHeap → Prop} (h : drawW P gl orc cw ops tm H k) : ∃ tm' H', adraw P gl orc ops tm H = some (tm', H') ∧ k tm' H' := by
  unfold drawW at h
  rw [frcNL_eq] at h
  split at h
  · rename_i h1
    have h1' := h1
    simp only [Bool.and_eq_true] at h1'
    have htm : ∀ i o, ops[i]? = some o → tmpsOkAt ops (ancs ops []) i o = true := fun i o ho => by have := tmpsOk_at h1'.1 ho; rwa [Nat.zero_add] at this
    have hb : ∀ i, i < ops.length → (ancs ops []).getD i 0 < 2 ^ i := fun i hi => by have := boundOk_spec _ 0 i h1'.2 (by rw [anc_length]; exact hi); rwa [Nat.zero_add] at this
    rw [frcNL_eq] at h
    obtain ⟨s, tmc, recs, h2, hW, h⟩ := drunsW_ok P gl orc cw hcw (tm := tm) (tmc := tm) (s := ⟨fillNone ops, 0, H, [], H, []⟩) (recs := []) htm hb
      ⟨VInv.start ops _ tm, ⟨fun r hr => by simp at hr, fun j o env v hj => by rw [bit_zero] at hj; cases hj⟩, fun k hk => (by rw [bit_zero] at hk; cases hk), fun t => rfl, shp.refl tm⟩ h
    split at h
    · rename_i h3
      have h3' := h3
      simp only [Bool.and_eq_true] at h3'
      have hdone := Nat.eq_of_beq_eq_true h3'.2
      have hall : ∀ i, i < ops.length → bit s.done i = true := fun i hi => by rw [bit_full hdone]; simpa using hi
      have hfin : ∃ tm', finTmps s.vals ops 0 tm = some tm' := finTmps_some ops 0 tm (fun k hk => by rw [Nat.zero_add]; exact hW.v.known k (hall k hk)) fun o ho d hd => by
        obtain ⟨k, hk, hko⟩ := List.mem_iff_getElem.1 ho
        obtain ⟨x, hx⟩ := hW.v.dst k o d (hall k hk) (by rw [← hko]; exact List.getElem?_eq_getElem hk) hd
        rw [← hW.ex]; exact tget_tex _ _ _ hx
      obtain ⟨tm', hfin⟩ := hfin
      have fin : stagesOk P gl tm ops (ancs ops []) s ops 0 = true → adraw P gl orc ops tm H = some (tm', s.heap) := by
        intro h4
        unfold adraw
        simp only [h1, if_true, h2, h3'.1, h3'.2, h4, Bool.and_self, hfin]
      have hget : ∀ t, tget tm' t = tget tmc t := fun t => by
        rw [(finTmps_spec ops 0 tm tm' hfin).2 t _ rfl, ← hW.v.cur t]
        exact lastW_congr ops 0 _ fun k o hk _ => by
          rw [Nat.zero_add]
          exact (hall k (List.getElem?_eq_some_iff.1 hk).1).symm
      have hex : ∀ t, tex tm' t = tex tmc t := fun t => by rw [finTmps_tex hfin t, hW.ex t]
      have heq : tm' = tmc := shp_ext ((finTmps_shp hfin).symm.trans hW.sh) hget hex
      subst heq
      split at h
      · rename_i hq
        refine ⟨tm', s.heap, fin ?_, h⟩
        have hqi := druns_QI P gl orc hq (fillNone_length ops) (QI.start P gl ops (ancs ops []) tm H) h2
        exact quiet_stages P gl hqi ops 0 fun i hi => ⟨by rw [Nat.zero_add]; exact hall i hi, ops[i], by simp [hi], by simp [hi]⟩
      · obtain ⟨h4, h⟩ := stagesR_ok P gl h
        exact ⟨tm', s.heap, fin (stages_all P gl hW h4 ops 0 fun i hi => ⟨by rw [Nat.zero_add]; exact hall i hi, by rw [Nat.zero_add]⟩), h⟩
    · exact h.elim
  · exact h.elim
end reg
end Go.Abs

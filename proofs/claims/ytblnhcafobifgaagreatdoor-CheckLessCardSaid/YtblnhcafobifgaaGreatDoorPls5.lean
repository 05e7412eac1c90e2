/-
  Texts of this proof, one behind the other (part 5).
-/
import Derived.Test.YtblnhcafobifgaaGreatDoorPls4
import Derived.RangeFuncRecord
import Derived.RangeFuncIn
import Derived.ChangeReads
import Derived.ChangeArms
import Derived.OpenShut
import Derived.ProofKit


section

set_option linter.unusedSimpArgs false
set_option linter.unusedVariables false
namespace Go.Abs
open Go.RowKit
section reg
variable (P : Program) (gl : Glob) (orc : Orc) (cw : CW)
def wantW (ops : List Oper) (o : Oper) (tm : Tr) (A B : Prop) : Prop :=
  match o.guard with
  | none => A
  | some (j, want) => onO ops[j]? fun g => onO g.dst fun d => onO (tget tm d) fun v => match v with
    | .bool b => match want with
      | true => (b = true → A) ∧ (b = false → B)
      | false => (b = true → B) ∧ (b = false → A)
    | _ => B
theorem wantW_ok {ops : List Oper} {o : Oper} {tm : Tr} {A B : Prop} (h : wantW ops o tm A B) : (awanted ops o tm = some true ∧ A) ∨ (awanted ops o tm = some false ∧ B) := by
  unfold wantW at h
  unfold awanted
  split at h
  · rename_i e; exact .inl ⟨by simp only [e], h⟩
  · rename_i j want e
    obtain ⟨g, h1, h⟩ := onO_some h
    obtain ⟨d, h2, h⟩ := onO_some h
    obtain ⟨v, h3, h⟩ := onO_some h
    split at h
    · rename_i b
      simp only [e, h1, h2, h3]
      cases b <;> cases want
      · exact .inl ⟨rfl, h.2 rfl⟩
      · exact .inr ⟨rfl, h.2 rfl⟩
      · exact .inr ⟨rfl, h.1 rfl⟩
      · exact .inl ⟨rfl, h.1 rfl⟩
    · rename_i hne
      refine .inr ⟨?_, h⟩
      simp only [e, h1, h2, h3]
noncomputable def seqW (ops : List Oper) (l : List Oper) : Tr → AHeap → (Tr → AHeap → Prop) → Prop :=
  List.rec (motive := fun _ => Tr → AHeap → (Tr → AHeap → Prop) → Prop) (fun tm H k => k tm H)
    (fun o _ ih tm H k => wantW ops o tm (opW P orc cw (aeval gl tm) o H fun r H' => onO (putT o.dst r tm) fun tm' => ih tm' H' k) (onO (putT o.dst (.tuple []) tm) fun tm' => ih tm' H k)) l
theorem seqW_cons (ops : List Oper) (o : Oper) (l : List Oper) (tm : Tr) (H : AHeap) (k : Tr → AHeap → Prop) :
    seqW P gl orc cw ops (o :: l) tm H k = wantW ops o tm (opW P orc cw (aeval gl tm) o H fun r H' => onO (putT o.dst r tm) fun tm' => seqW P gl orc cw ops l tm' H' k) (onO (putT o.dst (.tuple []) tm) fun tm' => seqW P gl orc cw ops l tm' H k) := rfl
theorem seqW_ok (hcw : CWok P orc cw) {ops : List Oper} : ∀ {l : List Oper} {tm : Tr} {H : AHeap} {k : Tr → AHeap → Prop}, seqW P gl orc cw ops l tm H k → ∃ tm' H', aseq P gl orc ops l tm H = some (tm', H') ∧ k tm' H'
  | [], tm, H, k, h => ⟨tm, H, rfl, h⟩
  | o :: l, tm, H, k, h => by
    rw [seqW_cons] at h
    rcases wantW_ok h with ⟨h1, h⟩ | ⟨h1, h⟩
    · obtain ⟨r, H', h2, h⟩ := opW_ok P hcw h
      obtain ⟨tm', h3, h⟩ := onO_some h
      obtain ⟨tm2, H2, h4, h⟩ := seqW_ok hcw h
      exact ⟨tm2, H2, by simp only [aseq, h1, h2, frcC_eq, h3]; exact h4, h⟩
    · obtain ⟨tm', h3, h⟩ := onO_some h
      obtain ⟨tm2, H2, h4, h⟩ := seqW_ok hcw h
      exact ⟨tm2, H2, by simp only [aseq, h1, h3]; exact h4, h⟩
def wantEW (ops : List Oper) (env : List (Nat × AV)) (o : Oper) (A B : Prop) : Prop :=
  match o.guard with
  | none => A
  | some (j, want) => match ops[j]? with
    | some g => match g.dst with
      | some d => match alook d env with
        | some (.bool b) => match want with
          | true => (b = true → A) ∧ (b = false → B)
          | false => (b = true → B) ∧ (b = false → A)
        | _ => B
      | none => B
    | none => B
theorem wantEW_ok {ops : List Oper} {env : List (Nat × AV)} {o : Oper} {A B : Prop} (h : wantEW ops env o A B) : (wantedE ops env o = true ∧ A) ∨ (wantedE ops env o = false ∧ B) := by
  unfold wantEW at h
  unfold wantedE
  split at h
  · rename_i e; exact .inl ⟨by simp only [e], h⟩
  · rename_i j want e
    split at h
    · rename_i g e1
      split at h
      · rename_i d e2
        split at h
        · rename_i b e3
          simp only [e, e1, e2, e3]
          cases b <;> cases want
          · exact .inl ⟨rfl, h.2 rfl⟩
          · exact .inr ⟨rfl, h.2 rfl⟩
          · exact .inr ⟨rfl, h.1 rfl⟩
          · exact .inl ⟨rfl, h.1 rfl⟩
        · rename_i hne
          refine .inr ⟨?_, h⟩
          simp only [e, e1, e2]
      · rename_i e2; exact .inr ⟨by simp only [e, e1, e2], h⟩
    · rename_i e1; exact .inr ⟨by simp only [e, e1], h⟩
def envT (tm : Tr) : List Nat → Option (List (Nat × AV))
  | [] => some []
  | t :: ts => match tget tm t, envT tm ts with | some v, some e => some ((t, v) :: e) | _, _ => none
theorem envT_eq {tm tmc : Tr} {vals : List (Option AV)} {ops : List Oper} {D : Nat → Bool} : ∀ {ts : List Nat}, (∀ t ∈ ts, lastW vals D t ops 0 (tget tm t) = tget tmc t) → envOf tm vals ops D ts = envT tmc ts
  | [], h => rfl
  | t :: ts, h => by
    have ih : envOf tm vals ops D ts = envT tmc ts := envT_eq fun s hs => h s (by simp [hs])
    simp only [envOf, envT, h t (by simp), ih]
    rfl
theorem env_now {ops : List Oper} {an : List Nat} {tm tmc : Tr} {i : Nat} {o : Oper} {vals : List (Option AV)} {done : Nat} (htm : tmpsOkAt ops an i o = true) (hV : VInv ops an tm vals done tmc) (hi : bit done i = false) (han : ∀ k, bit (an.getD i 0) k = true → bit done k = true) :
    envOf tm vals ops (bit (an.getD i 0)) (looks ops o) = envT tmc (looks ops o) := by
  simp only [tmpsOkAt, Bool.and_eq_true] at htm
  refine envT_eq fun t ht => ?_
  have hw := List.all_eq_true.1 htm.1 t ht
  rw [lastW_congr (D' := bit done) ops 0 _ (fun k x hx hd => ?_), hV.cur t]
  simp only [Nat.zero_add]
  cases hq : bit done k with
  | true =>
    rcases writersOk_spec ops 0 k x hw hx hd with h1 | h1 | h1
    · rw [Nat.zero_add] at h1; subst h1; rw [hi] at hq; cases hq
    · rwa [Nat.zero_add] at h1
    · rw [Nat.zero_add] at h1
      have := hV.cls k i hq h1
      rw [hi] at this; cases this
  | false =>
    cases hp : bit (an.getD i 0) k with
    | false => rfl
    | true => rw [han k hp] at hq; cases hq
abbrev RecT := Nat × Oper × List (Nat × AV) × AV
abbrev StK := Tr → Nat → AHeap → List Nat → AHeap → List (Nat × AHeap × List Nat) → List RecT → Prop
def dstepW (ops : List Oper) (an : List Nat) (i : Nat) (tmc : Tr) (done : Nat) (base : AHeap) (new : List Nat) (heap : AHeap) (sts : List (Nat × AHeap × List Nat)) (recs : List RecT) (k : StK) : Prop :=
  onO ops[i]? fun o => onO (envT tmc (looks ops o)) fun env =>
    match !(bit done i) && Nat.beq (Nat.land (an.getD i 0) done) (an.getD i 0) with
    | false => False
    | true => frcN (Nat.lor done (2 ^ i)) fun done' =>
      match kind o with
      | 2 => wantEW ops env o
          (onO (aallocF P (evalE gl env) o) fun x => if allLt heap.length (refsB x.2 []) then frcW (x.1 heap.length) fun r => frcHW (heap ++ [⟨true, heap.length, 0, x.2⟩]) fun H' =>
            onO (putT o.dst r tmc) fun tmc => k tmc done' base (new ++ [i]) H' sts recs else False)
          (onO (putT o.dst (.tuple []) tmc) fun tmc => k tmc done' base new heap sts recs)
      | 3 => if allBit (an.getD i 0) new && allLt heap.length (refsEnv env []) then wantEW ops env o
          (opW P orc cw (evalE gl env) o heap fun r H' => if Nat.ble heap.length H'.length then onO (putT o.dst r tmc) fun tmc => k tmc done' H' [] H' (sts ++ [(i, base, new)]) recs else False)
          (onO (putT o.dst (.tuple []) tmc) fun tmc => k tmc done' heap [] heap (sts ++ [(i, base, new)]) recs)
        else False
      | 1 => wantEW ops env o
          (pureW P (evalE gl env) heap o fun r => onO (putT o.dst r tmc) fun tmc => k tmc done' base new heap sts ((i, o, env, r) :: recs))
          (onO (putT o.dst (.tuple []) tmc) fun tmc => k tmc done' base new heap sts recs)
      | _ => wantEW ops env o
          (pureW P (evalE gl env) heap o fun r => onO (putT o.dst r tmc) fun tmc => k tmc done' base new heap sts recs)
          (onO (putT o.dst (.tuple []) tmc) fun tmc => k tmc done' base new heap sts recs)
structure RecOK (ops : List Oper) (an : List Nat) (tm : Tr) (vals : List (Option AV)) (done : Nat) (recs : List RecT) : Prop where
  at_ : ∀ r ∈ recs, At ops an tm vals r.1 r.2.1 r.2.2.1 r.2.2.2
  all : ∀ (j : Nat) (o : Oper) (env : List (Nat × AV)) (v : AV), bit done j = true → kind o = 1 → At ops an tm vals j o env v → wantedE ops env o = true → (j, o, env, v) ∈ recs
theorem RecOK.next {ops : List Oper} {an : List Nat} {tm tmc : Tr} {i : Nat} {o : Oper} {env : List (Nat × AV)} {vals : List (Option AV)} {done : Nat} {recs recs' : List RecT} {r : AV} (h : RecOK ops an tm vals done recs) (hV : VInv ops an tm vals done tmc) (hi : bit done i = false) (ho : ops[i]? = some o)
    (henv : envOf tm vals ops (bit (an.getD i 0)) (looks ops o) = some env) (hF : ∀ k, bit done k = true → ∃ o env v, At ops an tm vals k o env v)
    (hr : recs' = recs ∧ (kind o = 1 → wantedE ops env o = false) ∨ recs' = (i, o, env, r) :: recs) : RecOK ops an tm (vals.set i (some r)) (Nat.lor done (2 ^ i)) recs' ∧ ∀ k, bit (Nat.lor done (2 ^ i)) k = true → ∃ o env v, At ops an tm (vals.set i (some r)) k o env v := by
  have hil : i < vals.length := by rw [hV.vlen]; exact (List.getElem?_eq_some_iff.1 ho).1
  have hle := hV.vle hi r
  have hat : At ops an tm (vals.set i (some r)) i o env r := ⟨ho, envOf_mono hle _ _ henv, by simp [hil]⟩
  refine ⟨⟨fun x hx => ?_, fun j o' env' v hj hk ha hw => ?_⟩, fun k hk => ?_⟩
  · rcases hr with ⟨rfl, _⟩ | rfl
    · exact (h.at_ x hx).mono hle
    · rcases List.mem_cons.1 hx with rfl | hx
      · exact hat
      · exact (h.at_ x hx).mono hle
  · rcases (bit_done _ _ _).1 hj with hj | rfl
    · obtain ⟨o2, env2, v2, ha2⟩ := hF j hj
      obtain ⟨rfl, rfl, rfl⟩ := ha.uniq (ha2.mono hle)
      have := h.all j _ _ _ hj hk ha2 hw
      rcases hr with ⟨rfl, _⟩ | rfl
      · exact this
      · exact List.mem_cons_of_mem _ this
    · obtain ⟨rfl, rfl, rfl⟩ := ha.uniq hat
      rcases hr with ⟨rfl, h1⟩ | rfl
      · rw [h1 hk] at hw; cases hw
      · exact List.mem_cons_self ..
  · rcases (bit_done _ _ _).1 hk with hk | rfl
    · obtain ⟨o2, env2, v2, ha2⟩ := hF k hk
      exact ⟨o2, env2, v2, ha2.mono hle⟩
    · exact ⟨o, env, r, hat⟩
def shp : Tr → Tr → Prop
  | .leaf, .leaf => True
  | .node _ l r, .node _ l2 r2 => shp l l2 ∧ shp r r2
  | _, _ => False
theorem shp.refl : ∀ t : Tr, shp t t
  | .leaf => trivial
  | .node _ l r => ⟨shp.refl l, shp.refl r⟩
theorem shp.symm : ∀ {t u : Tr}, shp t u → shp u t
  | .leaf, .leaf, _ => trivial
  | .node _ _ _, .node _ _ _, h => ⟨shp.symm h.1, shp.symm h.2⟩
  | .leaf, .node _ _ _, h => h.elim
  | .node _ _ _, .leaf, h => h.elim
theorem shp.trans : ∀ {t u v : Tr}, shp t u → shp u v → shp t v
  | .leaf, .leaf, .leaf, _, _ => trivial
  | .node _ _ _, .node _ _ _, .node _ _ _, h, k => ⟨h.1.trans k.1, h.2.trans k.2⟩
  | .leaf, .node _ _ _, _, h, _ => h.elim
  | .node _ _ _, .leaf, _, h, _ => h.elim
  | .leaf, .leaf, .node _ _ _, _, k => k.elim
  | .node _ _ _, .node _ _ _, .leaf, _, k => k.elim
theorem tset_shp : ∀ {t : Tr} {n : Nat} {v : AV} {t' : Tr}, tset t n v = some t' → shp t t'
  | .leaf, n, v, t', h => by simp [tset] at h
  | .node x l r, 0, v, t', h => by
    simp only [tset] at h
    split at h <;> simp at h
    subst h; exact ⟨shp.refl l, shp.refl r⟩
  | .node x l r, n + 1, v, t', h => by
    simp only [tset] at h
    split at h
    · split at h <;> simp at h
      subst h; rename_i l' hl; exact ⟨tset_shp hl, shp.refl r⟩
    · split at h <;> simp at h
      subst h; rename_i r' hr; exact ⟨shp.refl l, tset_shp hr⟩
theorem putT_shp {d : Option Tmp} {v : AV} {t t' : Tr} (h : putT d v t = some t') : shp t t' := by
  cases d with
  | none => simp [putT] at h; subst h; exact shp.refl t
  | some d => exact tset_shp h
theorem finTmps_shp {vals : List (Option AV)} : ∀ {l : List Oper} {i : Nat} {tm tm' : Tr}, finTmps vals l i tm = some tm' → shp tm tm'
  | [], i, tm, tm', h => by simp [finTmps] at h; subst h; exact shp.refl tm
  | o :: l, i, tm, tm', h => by
    simp only [finTmps] at h
    split at h <;> try (simp at h; done)
    split at h <;> try (simp at h; done)
    rename_i tm1 hp
    exact (putT_shp hp).trans (finTmps_shp h)
theorem shp_ext : ∀ {t u : Tr}, shp t u → (∀ n, tget t n = tget u n) → (∀ n, tex t n = tex u n) → t = u
  | .leaf, .leaf, _, _, _ => rfl
  | .node x l r, .node y l2 r2, h, hg, hx => by
    have e0 : x = y := by
      have h1 := hg 0
      have h2 := hx 0
      simp only [tget, tex] at h1 h2
      cases x <;> cases y <;> simp_all
    have hl : l = l2 := shp_ext h.1 (fun n => by
        have := hg (2 * n + 1)
        have e : Nat.mod (2 * n) 2 = 0 := by show (2 * n) % 2 = 0; omega
        have e2 : Nat.div (2 * n) 2 = n := by show (2 * n) / 2 = n; omega
        simpa only [tget, e, e2] using this) (fun n => by
        have := hx (2 * n + 1)
        have e : Nat.mod (2 * n) 2 = 0 := by show (2 * n) % 2 = 0; omega
        have e2 : Nat.div (2 * n) 2 = n := by show (2 * n) / 2 = n; omega
        simpa only [tex, e, e2] using this)
    have hr : r = r2 := shp_ext h.2 (fun n => by
        have := hg (2 * n + 1 + 1)
        have e : Nat.mod (2 * n + 1) 2 = 1 := by show (2 * n + 1) % 2 = 1; omega
        have e2 : Nat.div (2 * n + 1) 2 = n := by show (2 * n + 1) / 2 = n; omega
        simpa only [tget, e, e2] using this) (fun n => by
        have := hx (2 * n + 1 + 1)
        have e : Nat.mod (2 * n + 1) 2 = 1 := by show (2 * n + 1) % 2 = 1; omega
        have e2 : Nat.div (2 * n + 1) 2 = n := by show (2 * n + 1) / 2 = n; omega
        simpa only [tex, e, e2] using this)
    rw [e0, hl, hr]
  | .leaf, .node _ _ _, h, _, _ => h.elim
  | .node _ _ _, .leaf, h, _, _ => h.elim
structure DW (ops : List Oper) (an : List Nat) (tm tmc : Tr) (s : DSt) (recs : List RecT) : Prop where
  v : VInv ops an tm s.vals s.done tmc
  r : RecOK ops an tm s.vals s.done recs
  f : ∀ k, bit s.done k = true → ∃ o env v, At ops an tm s.vals k o env v
  ex : ∀ t, tex tmc t = tex tm t
  sh : shp tm tmc
theorem DW.next {ops : List Oper} {an : List Nat} {tm tmc tmc' : Tr} {s : DSt} {recs recs' : List RecT} {i : Nat} {o : Oper} {env : List (Nat × AV)} {r : AV} {base heap : AHeap} {new : List Nat} {sts : List (Nat × AHeap × List Nat)} (h : DW ops an tm tmc s recs) (ho : ops[i]? = some o) (hi : bit s.done i = false) (han : ∀ k, bit (an.getD i 0) k = true → bit s.done k = true)
    (hb : an.getD i 0 < 2 ^ i) (htm : tmpsOkAt ops an i o = true) (henv : envOf tm s.vals ops (bit (an.getD i 0)) (looks ops o) = some env) (hp : putT o.dst r tmc = some tmc') (hr : recs' = recs ∧ (kind o = 1 → wantedE ops env o = false) ∨ recs' = (i, o, env, r) :: recs) :
    DW ops an tm tmc' ⟨s.vals.set i (some r), Nat.lor s.done (2 ^ i), base, new, heap, sts⟩ recs' := by
  obtain ⟨g1, g2⟩ := h.r.next h.v hi ho henv h.f hr
  exact ⟨h.v.next ho hp hi han hb htm, g1, g2, fun t => by rw [putT_tex hp t]; exact h.ex t, h.sh.trans (putT_shp hp)⟩
theorem dstepW_ok (hcw : CWok P orc cw) {ops : List Oper} {an : List Nat} {tm tmc : Tr} {i : Nat} {s : DSt} {recs : List RecT} {k : StK} (hW : DW ops an tm tmc s recs) (htm : ∀ i o, ops[i]? = some o → tmpsOkAt ops an i o = true) (hb : ∀ i, i < ops.length → an.getD i 0 < 2 ^ i)
    (h : dstepW P gl orc cw ops an i tmc s.done s.base s.new s.heap s.sts recs k) : ∃ s' tmc' recs', dstep P gl orc ops an tm i s = some s' ∧ DW ops an tm tmc' s' recs' ∧ k tmc' s'.done s'.base s'.new s'.heap s'.sts recs' := by
  unfold dstepW at h
  obtain ⟨o, ho, h⟩ := onO_some h
  obtain ⟨env, henvT, h⟩ := onO_some h
  split at h
  · exact h.elim
  · rename_i hc
    simp only [Bool.and_eq_true, Bool.not_eq_true'] at hc
    obtain ⟨hi, hsub⟩ := hc
    have han := land_sub hsub
    have htm' := htm i o ho
    have hb' := hb i (List.getElem?_eq_some_iff.1 ho).1
    have henv : envOf tm s.vals ops (bit (an.getD i 0)) (looks ops o) = some env := by rw [env_now htm' hW.v hi han, henvT]
    rw [frcN_eq] at h
    unfold dstep
    simp only [ho, henv, hi, Bool.false_eq_true, if_false]
    split at h
    · rename_i hk
      simp only [hk]
      have hk1 : ∀ {b : Bool}, kind o = 1 → wantedE ops env o = b := fun e => by rw [hk] at e; cases e
      rcases wantEW_ok h with ⟨h1, h⟩ | ⟨h1, h⟩
      · obtain ⟨⟨mk, body⟩, h2, h⟩ := onO_some h
        split at h
        · rename_i h3
          rw [frcW_eq, frcHW_eq] at h
          obtain ⟨tmc', h4, h⟩ := onO_some h
          simp only at h3
          exact ⟨_, tmc', recs, by simp only [h1, if_true, h2]; rw [if_pos h3, frcC_eq], hW.next ho hi han hb' htm' henv h4 (.inl ⟨rfl, hk1⟩), h⟩
        · exact h.elim
      · obtain ⟨tmc', h4, h⟩ := onO_some h
        exact ⟨_, tmc', recs, by simp only [h1, Bool.false_eq_true, if_false], hW.next ho hi han hb' htm' henv h4 (.inl ⟨rfl, hk1⟩), h⟩
    · rename_i hk
      simp only [hk]
      have hk1 : ∀ {b : Bool}, kind o = 1 → wantedE ops env o = b := fun e => by rw [hk] at e; cases e
      split at h
      · rename_i h0
        rcases wantEW_ok h with ⟨h1, h⟩ | ⟨h1, h⟩
        · obtain ⟨r, H', h2, h⟩ := opW_ok P hcw h
          split at h
          · rename_i h3
            obtain ⟨tmc', h4, h⟩ := onO_some h
            exact ⟨_, tmc', recs, by rw [if_pos h0]; simp only [h1, if_true, h2, frcC_eq]; rw [if_pos h3], hW.next ho hi han hb' htm' henv h4 (.inl ⟨rfl, hk1⟩), h⟩
          · exact h.elim
        · obtain ⟨tmc', h4, h⟩ := onO_some h
          exact ⟨_, tmc', recs, by rw [if_pos h0]; simp only [h1, Bool.false_eq_true, if_false], hW.next ho hi han hb' htm' henv h4 (.inl ⟨rfl, hk1⟩), h⟩
      · exact h.elim
    · rename_i hk
      simp only [hk]
      rcases wantEW_ok h with ⟨h1, h⟩ | ⟨h1, h⟩
      · obtain ⟨r, h2, h⟩ := pureW_ok P h
        obtain ⟨tmc', h4, h⟩ := onO_some h
        exact ⟨_, tmc', _, by simp only [h1, if_true, h2, frcC_eq], hW.next ho hi han hb' htm' henv h4 (.inr rfl), h⟩
      · obtain ⟨tmc', h4, h⟩ := onO_some h
        exact ⟨_, tmc', recs, by simp only [h1, Bool.false_eq_true, if_false], hW.next ho hi han hb' htm' henv h4 (.inl ⟨rfl, fun _ => h1⟩), h⟩
    · rename_i hk2 hk3 hk1
      have key : ∀ {A B C : Option DSt}, (match kind o with | 2 => A | 3 => B | _ => C) = C := by
        intro A B C
        split
        · rename_i e; exact (hk2 e).elim
        · rename_i e; exact (hk3 e).elim
        · rfl
      rcases wantEW_ok h with ⟨h1, h⟩ | ⟨h1, h⟩
      · obtain ⟨r, h2, h⟩ := pureW_ok P h
        obtain ⟨tmc', h4, h⟩ := onO_some h
        exact ⟨_, tmc', recs, key.trans (by simp only [h1, if_true, h2, frcC_eq]), hW.next ho hi han hb' htm' henv h4 (.inl ⟨rfl, fun e => (hk1 e).elim⟩), h⟩
      · obtain ⟨tmc', h4, h⟩ := onO_some h
        exact ⟨_, tmc', recs, key.trans (by simp only [h1, Bool.false_eq_true, if_false]), hW.next ho hi han hb' htm' henv h4 (.inl ⟨rfl, fun e => (hk1 e).elim⟩), h⟩
noncomputable def drunsW (ops : List Oper) (an : List Nat) (l : List Nat) : Tr → Nat → AHeap → List Nat → AHeap → List (Nat × AHeap × List Nat) → List RecT → StK → Prop :=
  List.rec (motive := fun _ => Tr → Nat → AHeap → List Nat → AHeap → List (Nat × AHeap × List Nat) → List RecT → StK → Prop) (fun tmc done base new heap sts recs k => k tmc done base new heap sts recs)
    (fun i _ ih tmc done base new heap sts recs k => dstepW P gl orc cw ops an i tmc done base new heap sts recs fun tmc done base new heap sts recs => ih tmc done base new heap sts recs k) l
theorem drunsW_ok (hcw : CWok P orc cw) {ops : List Oper} {an : List Nat} {tm : Tr} (htm : ∀ i o, ops[i]? = some o → tmpsOkAt ops an i o = true) (hb : ∀ i, i < ops.length → an.getD i 0 < 2 ^ i) : ∀ {l : List Nat} {tmc : Tr} {s : DSt} {recs : List RecT} {k : StK}, DW ops an tm tmc s recs → drunsW P gl orc cw ops an l tmc s.done s.base s.new s.heap s.sts recs k →
    ∃ s' tmc' recs', druns P gl orc ops an tm l s = some s' ∧ DW ops an tm tmc' s' recs' ∧ k tmc' s'.done s'.base s'.new s'.heap s'.sts recs'
  | [], tmc, s, recs, k, hW, h => ⟨s, tmc, recs, rfl, hW, h⟩
  | i :: l, tmc, s, recs, k, hW, h => by
    replace h : dstepW P gl orc cw ops an i tmc s.done s.base s.new s.heap s.sts recs fun tmc done base new heap sts recs => drunsW P gl orc cw ops an l tmc done base new heap sts recs k := h
    obtain ⟨s1, t1, r1, h1, w1, h⟩ := dstepW_ok P gl orc cw hcw hW htm hb h
    obtain ⟨s2, t2, r2, h2, w2, h⟩ := drunsW_ok hcw htm hb w1 h
    exact ⟨s2, t2, r2, by simp only [druns, h1]; exact h2, w2, h⟩
noncomputable def stagesW (o : Oper) (env : List (Nat × AV)) (v : AV) (j : Nat) (an : List Nat) (aj : Nat) (K : Prop) (l : List (Nat × AHeap × List Nat)) : AHeap → Prop :=
  List.rec (motive := fun _ => AHeap → Prop) (fun H => pureW P (evalE gl env) H o fun u => u = v ∧ K)
    (fun p _ ih H => Prod.rec (fun e q => Prod.rec (fun B _ => match bit aj e with
      | true => ih H
      | false => pureW P (evalE gl env) B o fun u => u = v ∧ (match bit (an.getD e 0) j with | true => K | false => ih H)) q) p) l
theorem stagesW_ok {o : Oper} {env : List (Nat × AV)} {v : AV} {j : Nat} {an : List Nat} {aj : Nat} {K : Prop} : ∀ {l : List (Nat × AHeap × List Nat)} {H : AHeap}, stagesW P gl o env v j an aj K l H → stages P gl o env v j an aj veq l H = true ∧ K
  | [], H, h => by
    obtain ⟨u, h1, h2, hK⟩ := pureW_ok P h
    subst h2
    exact ⟨by simp only [stages, h1, veq_refl], hK⟩
  | (e, B, nw) :: l, H, h => by
    replace h : (match bit aj e with
      | true => stagesW P gl o env v j an aj K l H
      | false => pureW P (evalE gl env) B o fun u => u = v ∧ (match bit (an.getD e 0) j with | true => K | false => stagesW P gl o env v j an aj K l H)) := h
    simp only [stages]
    split at h
    · rename_i hb; rw [if_pos hb]; exact stagesW_ok h
    · rename_i hb
      rw [if_neg (by rw [hb]; simp)]
      obtain ⟨u, h3, h4, h2⟩ := pureW_ok P h
      subst h4
      simp only [h3, veq_refl, Bool.true_and, Bool.or_eq_true]
      split at h2
      · rename_i hc; exact ⟨.inl hc, h2⟩
      · exact ⟨.inr (stagesW_ok h2).1, (stagesW_ok h2).2⟩
noncomputable def stagesWE (F : AHeap → AHeap) (o : Oper) (env : List (Nat × AV)) (v : AV) (j : Nat) (an : List Nat) (aj : Nat) (K : Prop) (l : List (Nat × AHeap × List Nat)) : AHeap → Prop :=
  List.rec (motive := fun _ => AHeap → Prop) (fun H => frcHW (F H) fun H => pureW P (evalE gl env) H o fun u => u = v ∧ K)
    (fun p _ ih H => Prod.rec (fun e q => Prod.rec (fun B _ => match bit aj e with
      | true => ih H
      | false => frcHW (F B) fun B => pureW P (evalE gl env) B o fun u => u = v ∧ (match bit (an.getD e 0) j with | true => K | false => ih H)) q) p) l
theorem stagesWE_ok {F : AHeap → AHeap} {o : Oper} {env : List (Nat × AV)} {v : AV} {j : Nat} {an : List Nat} {aj : Nat} {K : Prop} : ∀ {l : List (Nat × AHeap × List Nat)} {H : AHeap}, stagesWE P gl F o env v j an aj K l H → stages P gl o env v j an aj veq (mapE F l) (F H) = true ∧ K
  | [], H, h => by
    replace h : frcHW (F H) fun H => pureW P (evalE gl env) H o fun u => u = v ∧ K := h
    rw [frcHW_eq] at h
    obtain ⟨u, h1, h2, hK⟩ := pureW_ok P h
    subst h2
    exact ⟨by simp only [mapE, stages, h1, veq_refl], hK⟩
  | (e, B, nw) :: l, H, h => by
    replace h : (match bit aj e with
      | true => stagesWE P gl F o env v j an aj K l H
      | false => frcHW (F B) fun B => pureW P (evalE gl env) B o fun u => u = v ∧ (match bit (an.getD e 0) j with | true => K | false => stagesWE P gl F o env v j an aj K l H)) := h
    simp only [mapE, stages]
    split at h
    · rename_i hb; rw [if_pos hb]; exact stagesWE_ok h
    · rename_i hb
      rw [if_neg (by rw [hb]; simp)]
      rw [frcHW_eq] at h
      obtain ⟨u, h3, h4, h2⟩ := pureW_ok P h
      subst h4
      simp only [h3, veq_refl, Bool.true_and, Bool.or_eq_true]
      split at h2
      · rename_i hc; exact ⟨.inl hc, h2⟩
      · exact ⟨.inr (stagesWE_ok h2).1, (stagesWE_ok h2).2⟩
noncomputable def stagesRE (an : List Nat) (sts : List (Nat × AHeap × List Nat)) (base : AHeap) (nw : List Nat) (heap : AHeap) (K : Prop) (l : List RecT) : Prop :=
  List.rec (motive := fun _ => Prop) K (fun r _ ih => Prod.rec (fun j q => Prod.rec (fun o q => Prod.rec (fun env v => match allLt base.length (refsEnv env []) with
    | true => stagesW P gl o env v j an (an.getD j 0) ih sts base
    | false => stagesWE P gl (earlyB (an.getD j 0) base nw heap) o env v j an (an.getD j 0) ih sts base) q) q) r) l
theorem stagesRE_ok {an : List Nat} {sts : List (Nat × AHeap × List Nat)} {base heap : AHeap} {nw : List Nat} {K : Prop} : ∀ {l : List RecT}, stagesRE P gl an sts base nw heap K l → (∀ r ∈ l, (stages P gl r.2.1 r.2.2.1 r.2.2.2 r.1 an (an.getD r.1 0) veq sts base || stages P gl r.2.1 r.2.2.1 r.2.2.2 r.1 an (an.getD r.1 0) veq (mapE (earlyB (an.getD r.1 0) base nw heap) sts) (earlyB (an.getD r.1 0) base nw heap base)) = true) ∧ K
  | [], h => ⟨fun r hr => by simp at hr, h⟩
  | (j, o, env, v) :: l, h => by
    replace h : (match allLt base.length (refsEnv env []) with
      | true => stagesW P gl o env v j an (an.getD j 0) (stagesRE P gl an sts base nw heap K l) sts base
      | false => stagesWE P gl (earlyB (an.getD j 0) base nw heap) o env v j an (an.getD j 0) (stagesRE P gl an sts base nw heap K l) sts base) := h
    have h' : (stages P gl o env v j an (an.getD j 0) veq sts base || stages P gl o env v j an (an.getD j 0) veq (mapE (earlyB (an.getD j 0) base nw heap) sts) (earlyB (an.getD j 0) base nw heap base)) = true ∧ stagesRE P gl an sts base nw heap K l := by
      split at h
      · obtain ⟨h1, h2⟩ := stagesW_ok P gl h
        exact ⟨by rw [h1]; rfl, h2⟩
      · obtain ⟨h1, h2⟩ := stagesWE_ok P gl h
        exact ⟨by rw [h1, Bool.or_true], h2⟩
    obtain ⟨h1, h2⟩ := h'
    obtain ⟨h3, h4⟩ := stagesRE_ok h2
    refine ⟨fun r hr => ?_, h4⟩
    rcases List.mem_cons.1 hr with rfl | hr
    · exact h1
    · exact h3 r hr
noncomputable def stagesR (an : List Nat) (sts : List (Nat × AHeap × List Nat)) (base : AHeap) (K : Prop) (l : List RecT) : Prop :=
  List.rec (motive := fun _ => Prop) K (fun r _ ih => Prod.rec (fun j q => Prod.rec (fun o q => Prod.rec (fun env v => stagesW P gl o env v j an (an.getD j 0) ih sts base) q) q) r) l
theorem stagesR_ok {an : List Nat} {sts : List (Nat × AHeap × List Nat)} {base : AHeap} {K : Prop} : ∀ {l : List RecT}, stagesR P gl an sts base K l → (∀ r ∈ l, stages P gl r.2.1 r.2.2.1 r.2.2.2 r.1 an (an.getD r.1 0) veq sts base = true) ∧ K
  | [], h => ⟨fun r hr => by simp at hr, h⟩
  | (j, o, env, v) :: l, h => by
    replace h : stagesW P gl o env v j an (an.getD j 0) (stagesR P gl an sts base K l) sts base := h
    obtain ⟨h1, h2⟩ := stagesW_ok P gl h
    obtain ⟨h3, h4⟩ := stagesR_ok h2
    refine ⟨fun r hr => ?_, h4⟩
    rcases List.mem_cons.1 hr with rfl | hr
    · exact h1
    · exact h3 r hr
theorem stages_all {ops : List Oper} {an : List Nat} {tm tmc : Tr} {s : DSt} {recs : List RecT} (hW : DW ops an tm tmc s recs) (hr : ∀ r ∈ recs, (stages P gl r.2.1 r.2.2.1 r.2.2.2 r.1 an (an.getD r.1 0) veq s.sts s.base || stages P gl r.2.1 r.2.2.1 r.2.2.2 r.1 an (an.getD r.1 0) veq (mapE (earlyB (an.getD r.1 0) s.base s.new s.heap) s.sts) (earlyB (an.getD r.1 0) s.base s.new s.heap s.base)) = true) :
    ∀ (l : List Oper) (j : Nat), (∀ i, i < l.length → bit s.done (j + i) = true ∧ ops[j + i]? = l[i]?) → stagesOk P gl tm ops an s l j = true
  | [], j, hd => rfl
  | o :: l, j, hd => by
    simp only [stagesOk, Bool.and_eq_true]
    refine ⟨?_, stages_all hW hr l (j + 1) fun i hi => ?_⟩
    · split
      · rename_i hk
        obtain ⟨h1, h2⟩ := hd 0 (by simp)
        simp only [Nat.add_zero] at h1 h2
        obtain ⟨o2, env, v, hat⟩ := hW.f j h1
        have : o2 = o := by have := hat.op; rw [h2] at this; simpa using this.symm
        subst this
        simp only [hat.val, hat.env]
        split
        · rename_i hw
          exact hr _ (hW.r.all j o2 env v h1 (Nat.eq_of_beq_eq_true hk) hat hw)
        · rfl
      · rfl
    · have := hd (i + 1) (by simpa using hi)
      rw [show j + (i + 1) = j + 1 + i from by omega] at this
      simpa using this
def quietR : List Oper → Bool
  | [] => true
  | o :: l => Nat.ble (kind o) 1 && quietR l
theorem quietR_get : ∀ {ops : List Oper} {i : Nat} {o : Oper}, quietR ops = true → ops[i]? = some o → kind o ≤ 1
  | [], i, o, h, e => by simp at e
  | x :: l, 0, o, h, e => by simp [quietR] at h e; subst e; exact h.1
  | x :: l, i + 1, o, h, e => by simp [quietR] at h e; exact quietR_get h.2 e
structure QI (ops : List Oper) (an : List Nat) (tm : Tr) (H0 : AHeap) (s : DSt) : Prop where
  base : s.base = H0
  heap : s.heap = H0
  sts : s.sts = []
  done : ∀ i, bit s.done i = true → ∃ o env v, At ops an tm s.vals i o env v ∧ (wantedE ops env o = true → apure' P (evalE gl env) H0 o = some v)
  vdone : ∀ (i : Nat) (v : AV), s.vals[i]? = some (some v) → bit s.done i = true
theorem QI.start (ops : List Oper) (an : List Nat) (tm : Tr) (H : AHeap) : QI P gl ops an tm H ⟨fillNone ops, 0, H, [], H, []⟩ :=
  ⟨rfl, rfl, rfl, fun i h => (by rw [bit_zero] at h; cases h), fun i v h => (fillNone_get ops i v h).elim⟩
theorem dstep_QI {ops : List Oper} {an : List Nat} {tm : Tr} {H0 : AHeap} {i : Nat} {s s' : DSt} (hq : quietR ops = true) (hl : s.vals.length = ops.length) (h : QI P gl ops an tm H0 s) (e : dstep P gl orc ops an tm i s = some s') : QI P gl ops an tm H0 s' ∧ s'.vals.length = ops.length := by
  unfold dstep at e
  split at e
  · cases e
  · rename_i o ho
    have hk := quietR_get hq ho
    have hil : i < s.vals.length := by rw [hl]; exact (List.getElem?_eq_some_iff.1 ho).1
    split at e
    · cases e
    · rename_i env henv
      split at e
      · cases e
      · rename_i hb
        have hnew : ∀ (v : AV), (wantedE ops env o = true → apure' P (evalE gl env) H0 o = some v) → QI P gl ops an tm H0 ⟨s.vals.set i (some v), Nat.lor s.done (2 ^ i), s.base, s.new, s.heap, s.sts⟩ ∧ (s.vals.set i (some v)).length = ops.length := by
          intro v hv
          have hle : VLe s.vals (s.vals.set i (some v)) := set_vle fun u hu => hb (h.vdone i u hu)
          refine ⟨⟨h.base, h.heap, h.sts, fun j hj => ?_, fun j u hu => ?_⟩, by simpa using hl⟩
          · rcases (bit_done _ _ _).1 hj with hj | rfl
            · obtain ⟨o', env', v', h1, h2⟩ := h.done j hj
              exact ⟨o', env', v', h1.mono hle, h2⟩
            · exact ⟨o, env, v, ⟨ho, envOf_mono hle _ _ henv, by simp [hil]⟩, hv⟩
          · refine (bit_done _ _ _).2 ?_
            simp only [List.getElem?_set] at hu
            split at hu
            · rename_i e; exact .inr e
            · exact .inl (h.vdone j u hu)
        split at e
        · rename_i hk2; omega
        · rename_i hk2; omega
        · split at e
          · rename_i hw
            split at e
            · rename_i r hr
              rw [frcC_eq] at e
              simp at e; subst e
              rw [h.heap] at hr
              exact hnew r fun _ => hr
            · cases e
          · rename_i hw
            simp at e; subst e
            exact hnew _ fun h => absurd h hw
theorem druns_QI {ops : List Oper} {an : List Nat} {tm : Tr} {H0 : AHeap} (hq : quietR ops = true) : ∀ {l : List Nat} {s s' : DSt}, s.vals.length = ops.length → QI P gl ops an tm H0 s → druns P gl orc ops an tm l s = some s' → QI P gl ops an tm H0 s'
  | [], s, s', hl, h, e => by simp [druns] at e; subst e; exact h
  | i :: l, s, s', hl, h, e => by
    simp only [druns] at e
    split at e
    · rename_i s1 h1
      obtain ⟨g1, g2⟩ := dstep_QI P gl orc hq hl h h1
      exact druns_QI hq g2 g1 e
    · cases e
theorem quiet_stages {ops : List Oper} {an : List Nat} {tm : Tr} {H0 : AHeap} {s : DSt} (h : QI P gl ops an tm H0 s) : ∀ (l : List Oper) (j : Nat), (∀ i, i < l.length → bit s.done (j + i) = true ∧ ∃ o, ops[j + i]? = some o ∧ l[i]? = some o) → stagesOk P gl tm ops an s l j = true
  | [], j, hd => rfl
  | o :: l, j, hd => by
    simp only [stagesOk, Bool.and_eq_true]
    refine ⟨?_, quiet_stages h l (j + 1) fun i hi => ?_⟩
    · split
      · obtain ⟨h1, o', h2, h3⟩ := hd 0 (by simp)
        simp only [Nat.add_zero] at h1 h2
        simp at h3; subst h3
        obtain ⟨o2, env, v, hat, hv⟩ := h.done j h1
        have : o2 = o := by have := hat.op; rw [h2] at this; simpa using this.symm
        subst this
        simp only [hat.val, hat.env]
        split
        · rename_i hw
          rw [h.sts, h.base]
          simp only [stages, hv hw, veq_refl, Bool.true_or]
        · rfl
      · rfl
    · obtain ⟨h1, o', h2, h3⟩ := hd (i + 1) (by simpa using hi)
      rw [show j + (i + 1) = j + 1 + i from by omega] at h1 h2
      exact ⟨h1, o', h2, by simpa using h3⟩
def frcNL : List Nat → (List Nat → Prop) → Prop
  | [], k => k []
  | n :: l, k => frcN n fun n => frcNL l fun l => k (n :: l)
theorem frcNL_eq : ∀ (l : List Nat) (k : List Nat → Prop), frcNL l k = k l
  | [], k => rfl
  | n :: l, k => by simp only [frcNL, frcN_eq, frcNL_eq l]
noncomputable def drawW (ops : List Oper) (tm : Tr) (H : AHeap) (k : Tr → AHeap → Prop) : Prop :=
  frcNL (ancs ops []) fun an =>
  match tmpsOk ops an ops 0 && boundOk an 0 with
  | true => frcNL (ordOf ops an) fun ord => drunsW P gl orc cw ops an ord tm 0 H [] H [] [] fun tmc done base nw heap sts recs =>
    match chainOk an (stFst sts) && Nat.beq (done + 1) (2 ^ ops.length) with
    | true => match quietR ops with
      | true => k tmc heap
      | false => match nw with
        | [] => stagesR P gl an sts base (k tmc heap) recs
        | _ :: _ => stagesRE P gl an sts base nw heap (k tmc heap) recs
    | false => False
  | false => False
theorem tmpsOk_at {ops : List Oper} {an : List Nat} : ∀ {l : List Oper} {j i : Nat} {o : Oper}, tmpsOk ops an l j = true → l[i]? = some o → tmpsOkAt ops an (j + i) o = true
  | [], j, i, o, h, ho => by simp at ho
  | x :: l, j, i, o, h, ho => by
    simp only [tmpsOk, Bool.and_eq_true] at h
    cases i with
    | zero => simp at ho; subst ho; exact h.1
    | succ i => have := tmpsOk_at h.2 (by simpa using ho); rwa [show j + 1 + i = j + (i + 1) from by omega] at this
theorem drawW_ok (hcw : CWok P orc cw) {ops : List Oper} {tm : Tr} {H : AHeap} {k : Tr → AHeap → Prop} (h : drawW P gl orc cw ops tm H k) : ∃ tm' H', adraw P gl orc ops tm H = some (tm', H') ∧ k tm' H' := by
  unfold drawW at h
  rw [frcNL_eq] at h
  split at h
  · rename_i h1
    have h1' := h1
    simp only [Bool.and_eq_true] at h1'
    have htm : ∀ i o, ops[i]? = some o → tmpsOkAt ops (ancs ops []) i o = true := fun i o ho => by have := tmpsOk_at h1'.1 ho; rwa [Nat.zero_add] at this
    have hb : ∀ i, i < ops.length → (ancs ops []).getD i 0 < 2 ^ i := fun i hi => by have := boundOk_spec _ 0 i h1'.2 (by rw [anc_length]; exact hi); rwa [Nat.zero_add] at this
    rw [frcNL_eq] at h
    obtain ⟨s, tmc, recs, h2, hW, h⟩ := drunsW_ok P gl orc cw hcw (tm := tm) (tmc := tm) (s := ⟨fillNone ops, 0, H, [], H, []⟩) (recs := []) htm hb
      ⟨VInv.start ops _ tm, ⟨fun r hr => by simp at hr, fun j o env v hj => by rw [bit_zero] at hj; cases hj⟩, fun k hk => (by rw [bit_zero] at hk; cases hk), fun t => rfl, shp.refl tm⟩ h
    split at h
    · rename_i h3
      have h3' := h3
      simp only [Bool.and_eq_true] at h3'
      have hdone := Nat.eq_of_beq_eq_true h3'.2
      have hall : ∀ i, i < ops.length → bit s.done i = true := fun i hi => by rw [bit_full hdone]; simpa using hi
      have hfin : ∃ tm', finTmps s.vals ops 0 tm = some tm' := finTmps_some ops 0 tm (fun k hk => by rw [Nat.zero_add]; exact hW.v.known k (hall k hk)) fun o ho d hd => by
        obtain ⟨k, hk, hko⟩ := List.mem_iff_getElem.1 ho
        obtain ⟨x, hx⟩ := hW.v.dst k o d (hall k hk) (by rw [← hko]; exact List.getElem?_eq_getElem hk) hd
        rw [← hW.ex]; exact tget_tex _ _ _ hx
      obtain ⟨tm', hfin⟩ := hfin
      have fin : stagesOk P gl tm ops (ancs ops []) s ops 0 = true → adraw P gl orc ops tm H = some (tm', s.heap) := by
        intro h4
        unfold adraw
        simp only [h1, if_true, h2, h3'.1, h3'.2, h4, Bool.and_self, hfin]
      have hget : ∀ t, tget tm' t = tget tmc t := fun t => by
        rw [(finTmps_spec ops 0 tm tm' hfin).2 t _ rfl, ← hW.v.cur t]
        exact lastW_congr ops 0 _ fun k o hk _ => by
          rw [Nat.zero_add]
          exact (hall k (List.getElem?_eq_some_iff.1 hk).1).symm
      have hex : ∀ t, tex tm' t = tex tmc t := fun t => by rw [finTmps_tex hfin t, hW.ex t]
      have heq : tm' = tmc := shp_ext ((finTmps_shp hfin).symm.trans hW.sh) hget hex
      subst heq
      split at h
      · rename_i hq
        refine ⟨tm', s.heap, fin ?_, h⟩
        have hqi := druns_QI P gl orc hq (fillNone_length ops) (QI.start P gl ops (ancs ops []) tm H) h2
        exact quiet_stages P gl hqi ops 0 fun i hi => ⟨by rw [Nat.zero_add]; exact hall i hi, ops[i], by simp [hi], by simp [hi]⟩
      · split at h
        · obtain ⟨h4, h⟩ := stagesR_ok P gl h
          exact ⟨tm', s.heap, fin (stages_all P gl hW (fun r hr => by rw [h4 r hr]; rfl) ops 0 fun i hi => ⟨by rw [Nat.zero_add]; exact hall i hi, by rw [Nat.zero_add]⟩), h⟩
        · skip
          obtain ⟨h4, h⟩ := stagesRE_ok P gl h
          exact ⟨tm', s.heap, fin (stages_all P gl hW h4 ops 0 fun i hi => ⟨by rw [Nat.zero_add]; exact hall i hi, by rw [Nat.zero_add]⟩), h⟩
    · exact h.elim
  · exact h.elim
end reg
end Go.Abs
end


section

set_option linter.unusedSimpArgs false
set_option linter.unusedVariables false
namespace Go.Abs
open Go.RowKit
structure Stq (k : Nat) (sn : Snap) (ι : IMap) (H : AHeap) (W : World) (sn' : Snap) (ι' : IMap) (H' : AHeap) (W' : World) : Prop where
  rel : R sn' ι' H' W'
  le : ∀ a v, sn a = some v → sn' a = some v
  fresh : ∀ (b : Nat) (o : AObj) p, H'[b]? = some o → o.alive = true → ι' b = some p → W.heap.size ≤ p.blk ∨ ∃ (b0 : Nat) (o0 : AObj) (p0 : Place), H[b0]? = some o0 ∧ o0.alive = true ∧ ι b0 = some p0 ∧ p0.blk = p.blk
  frame : ∀ c, c < W.heap.size → (∀ (b : Nat) (o : AObj) p, H[b]? = some o → o.alive = true → ι b = some p → p.blk ≠ c) → W'.heap[c]? = W.heap[c]?
  size : W.heap.size ≤ W'.heap.size
  os : W'.os = W.os
  tape : W'.tape = W.tape
  output : W'.output = W.output
  sfresh : ∀ a v, sn' a = some v → sn a = some v ∨ W.heap.size ≤ a.block ∨ ∃ (b0 : Nat) (o0 : AObj) (p0 : Place), H[b0]? = some o0 ∧ o0.alive = true ∧ ι b0 = some p0 ∧ p0.blk = a.block
  keep : ∀ b p, b < k → ι b = some p → ι' b = some p
theorem Stp.q {k : Nat} {sn sn' : Snap} {ι ι' : IMap} {H H' : AHeap} {W W' : World} (h0 : R sn ι H W) (h : Stp sn ι H W sn' ι' H' W') : Stq k sn ι H W sn' ι' H' W' := by
  refine ⟨h.rel, h.le.sn, fun b o p hb ha hp => ?_, h.frame, h.size, h.os, h.tape, h.output, h.sfresh, fun b p _ hp => h.le.ι b p hp⟩
  rcases h.fresh b p hp with h1 | h1 | h1
  · have hbl : b < H.length := (h0.dom b).2 ⟨p, h1⟩
    have hg : H[b]? = some H[b] := List.getElem?_eq_getElem hbl
    obtain ⟨o', e1, _, _, e4⟩ := h.evo b _ hg
    rw [hb] at e1; simp at e1; subst e1
    exact .inr ⟨b, _, p, hg, e4 ha, h1, rfl⟩
  · exact .inl h1
  · exact .inr h1
theorem Stq.refl {k : Nat} {sn : Snap} {ι : IMap} {H : AHeap} {W : World} (h : R sn ι H W) : Stq k sn ι H W sn ι H W := (Stp.refl h).q h
theorem Stq.trans {n : Nat} {sn sn1 sn2 : Snap} {ι ι1 ι2 : IMap} {H H1 H2 : AHeap} {W W1 W2 : World} (h : Stq n sn ι H W sn1 ι1 H1 W1) (k : Stq n sn1 ι1 H1 W1 sn2 ι2 H2 W2) : Stq n sn ι H W sn2 ι2 H2 W2 := by
  have via : ∀ c, (W1.heap.size ≤ c ∨ ∃ (b0 : Nat) (o0 : AObj) (p0 : Place), H1[b0]? = some o0 ∧ o0.alive = true ∧ ι1 b0 = some p0 ∧ p0.blk = c) →
      W.heap.size ≤ c ∨ ∃ (b0 : Nat) (o0 : AObj) (p0 : Place), H[b0]? = some o0 ∧ o0.alive = true ∧ ι b0 = some p0 ∧ p0.blk = c := by
    rintro c (h1 | ⟨b1, o1, p1, g1, g2, g3, rfl⟩)
    · exact .inl (Nat.le_trans h.size h1)
    · exact h.fresh b1 o1 p1 g1 g2 g3
  refine ⟨k.rel, fun a v e => k.le a v (h.le a v e), fun b o p hb ha hp => via _ (k.fresh b o p hb ha hp), fun c hc hno => ?_, Nat.le_trans h.size k.size, k.os.trans h.os, k.tape.trans h.tape, k.output.trans h.output, fun a v hv => ?_, fun b p hb hp => k.keep b p hb (h.keep b p hb hp)⟩
  · rw [k.frame c (by have := h.size; omega), h.frame c hc hno]
    intro b o p hb ha hp e
    rcases h.fresh b o p hb ha hp with h1 | ⟨b0, o0, p0, e1, e2, e3, e4⟩
    · omega
    · exact hno b0 o0 p0 e1 e2 e3 (by omega)
  · rcases k.sfresh a v hv with h1 | h1
    · exact h.sfresh a v h1
    · exact .inr (via _ h1)
def iot (m : List Nat) (ι : IMap) : IMap := fun b => match m[b]? with | some j => ι j | none => none
def Wk (m : List Nat) (u u2 : AV) : Prop := ∀ sn ι v, VR sn ι u v → VR sn (iot m ι) u2 v
theorem Wk.noref {m : List Nat} {u : AV} (h : refs u [] = []) : Wk m u u := fun sn ι v hv => VR_refs u [] v (fun b hb => by rw [h] at hb; cases hb) hv
theorem Wk.int {m : List Nat} {k : IntKind} {a b : Int} (h : a = b) : Wk m (.int k a) (.int k b) := by subst h; exact Wk.noref rfl
theorem Wk.bool {m : List Nat} {a b : Bool} (h : a = b) : Wk m (.bool a) (.bool b) := by subst h; exact Wk.noref rfl
theorem Wk.str {m : List Nat} {a b : List UInt8} (h : a = b) : Wk m (.str a) (.str b) := by subst h; exact Wk.noref rfl
theorem Wk.eq {m : List Nat} {u u2 : AV} (h : u = u2) (hr : refs u2 [] = []) : Wk m u u2 := by subst h; exact Wk.noref hr
theorem Wk.ptr {m : List Nat} {b b2 off off2 : Nat} (h : m[b2]? = some b) (e : off = off2) : Wk m (.ptr b off) (.ptr b2 off2) := by
  subst e
  intro sn ι v hv
  obtain ⟨p, h1, h2⟩ := hv.ptr
  simp only [VR]; exact ⟨p, by simp only [iot, h]; exact h1, h2⟩
theorem Wk.map {m : List Nat} {b b2 : Nat} (h : m[b2]? = some b) : Wk m (.map b) (.map b2) := by
  intro sn ι v hv
  obtain ⟨p, h1, h2⟩ := hv.map
  simp only [VR]; exact ⟨p, by simp only [iot, h]; exact h1, h2⟩
theorem Wk.slice {m : List Nat} {b b2 off off2 len len2 c c2 z z2 : Nat} (h : m[b2]? = some b) (eo : off = off2) (el : len = len2) (h1 : len2 ≤ c2) (h2 : c2 ≤ c) (ez : z = z2) : Wk m (.slice b off len c z) (.slice b2 off2 len2 c2 z2) := by
  subst eo; subst el; subst ez
  intro sn ι v hv
  obtain ⟨p, a, cap', g1, rfl, g2, g3, g4⟩ := hv.slice
  simp only [VR]; exact ⟨p, a, cap', by simp only [iot, h]; exact g1, rfl, h1, by omega, g4⟩
def WkL (m : List Nat) : List AV → List AV → Prop
  | [], [] => True
  | a :: l, b :: l2 => Wk m a b ∧ WkL m l l2
  | _, _ => False
theorem WkL.lr {m : List Nat} {sn : Snap} {ι : IMap} : ∀ {l l2 : List AV} {vs : List Value}, WkL m l l2 → LR sn ι l vs → LR sn (iot m ι) l2 vs
  | [], [], vs, h, hv => by simpa [LR] using hv
  | a :: l, b :: l2, vs, h, hv => by
    simp only [LR] at hv ⊢
    obtain ⟨d, ds, rfl, h1, h2⟩ := hv
    exact ⟨d, ds, rfl, h.1 _ _ _ h1, WkL.lr h.2 h2⟩
  | [], _ :: _, vs, h, hv => h.elim
  | _ :: _, [], vs, h, hv => h.elim
theorem Wk.agg {m : List Nat} {l l2 : List AV} (h : WkL m l l2) : Wk m (.agg l) (.agg l2) := by
  intro sn ι v hv
  obtain ⟨d, rfl, h2⟩ := hv.agg
  exact vr_agg (h.lr h2)
theorem Wk.tuple {m : List Nat} {l l2 : List AV} (h : WkL m l l2) : Wk m (.tuple l) (.tuple l2) := by
  intro sn ι v hv
  obtain ⟨d, rfl, h2⟩ := hv.tuple
  exact vr_tuple (h.lr h2)
theorem Wk.func {m : List Nat} {fn : Fn} {f f2 c c2 : List AV} (h : WkL m f f2) (k : WkL m c c2) : Wk m (.func fn f c) (.func fn f2 c2) := by
  intro sn ι v hv
  obtain ⟨x, y, rfl, h1, h2⟩ := hv.func
  simp only [VR]; exact ⟨x, y, rfl, h.lr h1, k.lr h2⟩
theorem Wk.iface {m : List Nat} {t : TypeId} {u u2 : AV} (h : Wk m u u2) : Wk m (.iface t u) (.iface t u2) := by
  intro sn ι v hv
  obtain ⟨x, rfl, h1⟩ := hv.iface
  simp only [VR]; exact ⟨x, rfl, h _ _ _ h1⟩
def TrGe (m : List Nat) (t t2 : Tr) : Prop := (∀ n u2, tget t2 n = some u2 → ∃ u, tget t n = some u ∧ Wk m u u2) ∧ ∀ n, tex t2 n = true → tex t n = true
def mask : (Nat → Option AV) → Tr → Tr
  | _, .leaf => .leaf
  | g, .node x l r => .node (match x with | some _ => some (g 0) | none => none) (mask (fun i => g (Nat.add (Nat.mul 2 i) 1)) l) (mask (fun i => g (Nat.add (Nat.mul 2 i) 2)) r)
theorem mask_get : ∀ (t : Tr) (g : Nat → Option AV) (n : Nat) (u : AV), tget (mask g t) n = some u → g n = some u
  | .leaf, g, n, u, h => by simp [mask, tget] at h
  | .node x l r, g, 0, u, h => by cases x <;> simp [mask, tget] at h; exact h
  | .node x l r, g, n + 1, u, h => by
    simp only [mask, tget] at h
    split at h
    · rename_i hn
      have := mask_get l _ _ u h
      have hn' : n % 2 = 0 := hn
      have e : Nat.add (Nat.mul 2 (Nat.div n 2)) 1 = n + 1 := by show 2 * (n / 2) + 1 = n + 1; omega
      rw [e] at this; exact this
    · rename_i hn
      have := mask_get r _ _ u h
      have hn' : ¬ n % 2 = 0 := hn
      have e : Nat.add (Nat.mul 2 (Nat.div n 2)) 2 = n + 1 := by show 2 * (n / 2) + 2 = n + 1; omega
      rw [e] at this; exact this
theorem mask_tex : ∀ (t : Tr) (g : Nat → Option AV) (n : Nat), tex (mask g t) n = tex t n
  | .leaf, g, n => rfl
  | .node x l r, g, 0 => by cases x <;> rfl
  | .node x l r, g, n + 1 => by
    simp only [mask, tex]
    split <;> exact mask_tex _ _ _
def subT : Tr → Tr → Bool
  | .leaf, _ => true
  | .node x l r, .node y l2 r2 => (match x, y with | some _, none => false | _, _ => true) && (subT l l2 && subT r r2)
  | .node .., .leaf => false
theorem subT_tex : ∀ {t t2 : Tr}, subT t t2 = true → ∀ n, tex t n = true → tex t2 n = true
  | .leaf, t2, h, n, e => by simp [tex] at e
  | .node x l r, .node y l2 r2, h, 0, e => by
    simp only [subT, Bool.and_eq_true] at h
    cases x with
    | none => simp [tex] at e
    | some x => cases y with
      | none => simp at h
      | some y => rfl
  | .node x l r, .node y l2 r2, h, n + 1, e => by
    simp only [subT, Bool.and_eq_true] at h
    simp only [tex] at e ⊢
    split at e
    · exact subT_tex h.2.1 _ e
    · exact subT_tex h.2.2 _ e
  | .node .., .leaf, h, n, e => by simp [subT] at h
def SlotsGe (m : List Nat) (t : Tr) : List (Nat × AV) → Prop
  | [] => True
  | (n, u2) :: l => (onO (tget t n) fun u => Wk m u u2) ∧ SlotsGe m t l
theorem SlotsGe.get {m : List Nat} {t : Tr} : ∀ {l : List (Nat × AV)}, SlotsGe m t l → ∀ n u2, alook n l = some u2 → ∃ u, tget t n = some u ∧ Wk m u u2
  | [], h, n, u2, e => by simp [alook] at e
  | (k, v) :: l, h, n, u2, e => by
    simp only [alook] at e
    split at e
    · rename_i hk
      have := Nat.eq_of_beq_eq_true hk; subst this
      simp at e; subst e
      exact onO_some h.1
    · exact h.2.get n u2 e
def EGe (m : List Nat) : List (AV × AV × Nat) → List (AV × AV × Nat) → Prop
  | [], [] => True
  | (k, v, n) :: l, (k2, v2, n2) :: l2 => Wk m k k2 ∧ Wk m v v2 ∧ n = n2 ∧ EGe m l l2
  | _, _ => False
theorem EGe.er {m : List Nat} {sn : Snap} {ι : IMap} : ∀ {l l2 : List (AV × AV × Nat)} {es : List MapEntry}, EGe m l l2 → ER sn ι l es → ER sn (iot m ι) l2 es
  | [], [], es, h, e => by simpa [ER] using e
  | (k, v, n) :: l, (k2, v2, n2) :: l2, es, h, e => by
    obtain ⟨h1, h2, rfl, h4⟩ := h
    simp only [ER] at e ⊢
    obtain ⟨x, l', rfl, g1, g2, g3, g4⟩ := e
    exact ⟨x, l', rfl, h1 _ _ _ g1, h2 _ _ _ g2, g3, h4.er g4⟩
  | [], _ :: _, es, h, e => h.elim
  | _ :: _, [], es, h, e => h.elim
def TSGe (m : List Nat) : List (Nat × AV) → List (Nat × AV) → Prop
  | [], [] => True
  | x :: l, y :: l2 => x.1 = y.1 ∧ Wk m x.2 y.2 ∧ TSGe m l l2
  | _, _ => False
theorem TSGe.tsr {m : List Nat} {sn : Snap} {ι : IMap} {a : Array Value} : ∀ {l l2 : List (Nat × AV)}, TSGe m l l2 → TSR sn ι l a → TSR sn (iot m ι) l2 a
  | [], [], _, _ => trivial
  | x :: l, y :: l2, ⟨h1, h2, h3⟩, ⟨⟨v, e1, e2⟩, e3⟩ => ⟨⟨v, h1 ▸ e1, h2 _ _ _ e2⟩, h3.tsr e3⟩
  | [], _ :: _, h, _ => h.elim
  | _ :: _, [], h, _ => h.elim
def BodyGe (m : List Nat) : ABody → ABody → Prop
  | .cells cs ty, .cells cs2 ty2 => ty = ty2 ∧ cs2.length ≤ cs.length ∧ ∀ (i : Nat) (c2 : AV), cs2[i]? = some c2 → ∃ c, cs[i]? = some c ∧ Wk m c c2
  | .map es c, .map es2 c2 => c = c2 ∧ EGe m es es2
  | .siter s p, .siter s2 p2 => s = s2 ∧ p = p2
  | .loop g ts, .loop g2 ts2 => g = g2 ∧ TSGe m ts ts2
  | _, _ => False
theorem BodyGe.pre {m : List Nat} {cs cs2 rest : List AV} {ty : TypeId} (e : cs = cs2 ++ rest) (h : refsL cs2 [] = []) : BodyGe m (.cells cs ty) (.cells cs2 ty) := by
  subst e
  refine ⟨rfl, by simp, fun i c hc => ⟨c, ?_, fun sn ι v hv => ?_⟩⟩
  · rw [List.getElem?_append_left (List.getElem?_eq_some_iff.1 hc).1]; exact hc
  · have key : ∀ (l : List AV), refsL l [] = [] → ∀ (i : Nat) (c : AV), l[i]? = some c → ∀ b, b ∈ refs c [] → False := by
      intro l
      induction l with
      | nil => intro _ i c hc; simp at hc
      | cons x l ih =>
        intro hl i c hc b hb
        have hx : ∀ y, y ∈ refs x (refsL l []) → False := fun y hy => by simp only [refsL] at hl; rw [hl] at hy; cases hy
        have hl' : refsL l [] = [] := by
          rw [List.eq_nil_iff_forall_not_mem]; intro y hy; exact hx y (refs_acc x _ y hy)
        cases i with
        | zero => simp at hc; subst hc; rw [hl'] at hx; exact hx b hb
        | succ i => exact ih hl' i c (by simpa using hc) b hb
    exact VR_refs c [] v (fun b hb => (key cs2 h i c hc b hb).elim) hv
theorem BodyGe.cellsL {m : List Nat} {cs cs2 : List AV} {ty : TypeId} (h : WkL m cs cs2) : BodyGe m (.cells cs ty) (.cells cs2 ty) := by
  refine ⟨rfl, ?_, ?_⟩
  · have : ∀ (l l2 : List AV), WkL m l l2 → l2.length ≤ l.length := by
      intro l
      induction l with
      | nil => intro l2 h; cases l2 with | nil => simp | cons _ _ => exact h.elim
      | cons x l ih => intro l2 h; cases l2 with | nil => exact h.elim | cons _ _ => simp; exact ih _ h.2
    exact this _ _ h
  · have : ∀ (l l2 : List AV), WkL m l l2 → ∀ (i : Nat) (c2 : AV), l2[i]? = some c2 → ∃ c, l[i]? = some c ∧ Wk m c c2 := by
      intro l
      induction l with
      | nil => intro l2 h i c2 hc; cases l2 with | nil => simp at hc | cons _ _ => exact h.elim
      | cons x l ih =>
        intro l2 h i c2 hc
        cases l2 with
        | nil => exact h.elim
        | cons y l2 => cases i with
          | zero => simp at hc; subst hc; exact ⟨x, rfl, h.1⟩
          | succ i => simpa using ih _ h.2 i c2 (by simpa using hc)
    exact this _ _ h
theorem BodyGe.or {m : List Nat} {sn : Snap} {ι : IMap} {W : World} {p : Place} : ∀ {b b2 : ABody}, BodyGe m b b2 → OR sn ι W b p → OR sn (iot m ι) W b2 p
  | .cells cs ty, .cells cs2 ty2, h, e => by
    obtain ⟨rfl, h1, h2⟩ := h
    simp only [OR] at e ⊢
    obtain ⟨arr, g1, g2, g3, g4⟩ := e
    refine ⟨arr, g1, g2, by omega, fun i c2 hc => ?_⟩
    obtain ⟨c, e1, e2⟩ := h2 i c2 hc
    obtain ⟨v, e3, e4⟩ := g4 i c e1
    exact ⟨v, e3, e2 _ _ _ e4⟩
  | .map es c, .map es2 c2, h, e => by
    obtain ⟨rfl, h1⟩ := h
    simp only [OR] at e ⊢
    obtain ⟨mes, g1, g2⟩ := e
    exact ⟨mes, g1, h1.er g2⟩
  | .siter s q, .siter s2 q2, h, e => by
    obtain ⟨rfl, rfl⟩ := h
    simpa only [OR] using e
  | .loop g ts, .loop g2 ts2, h, e => by
    obtain ⟨rfl, h2⟩ := h
    simp only [OR] at e ⊢
    obtain ⟨r, g1, g2, g3, g4⟩ := e
    exact ⟨r, g1, g2, g3, h2.tsr g4⟩
  | .cells _ _, .loop _ _, h, _ => h.elim
  | .map _ _, .loop _ _, h, _ => h.elim
  | .siter _ _, .loop _ _, h, _ => h.elim
  | .loop _ _, .cells _ _, h, _ => h.elim
  | .loop _ _, .map _ _, h, _ => h.elim
  | .loop _ _, .siter _ _, h, _ => h.elim
  | .cells _ _, .map _ _, h, _ => h.elim
  | .cells _ _, .siter _ _, h, _ => h.elim
  | .map _ _, .cells _ _, h, _ => h.elim
  | .map _ _, .siter _ _, h, _ => h.elim
  | .siter _ _, .cells _ _, h, _ => h.elim
  | .siter _ _, .map _ _, h, _ => h.elim
def HpGe (H : AHeap) (m : List Nat) : List Nat → AHeap → Nat → Prop
  | [], [], _ => True
  | j :: l, o2 :: H2, i => (onO H[j]? fun o => o.alive = true ∧ o2.alive = true ∧ o2.fam = i ∧ o2.sh = o.sh ∧ BodyGe m o.body o2.body) ∧ HpGe H m l H2 (i + 1)
  | _, _, _ => False
theorem HpGe.get {H : AHeap} {m : List Nat} : ∀ {l : List Nat} {H2 : AHeap} {i : Nat}, HpGe H m l H2 i → H2.length = l.length ∧ ∀ b, b < l.length → ∃ j o o2, l[b]? = some j ∧ H[j]? = some o ∧ H2[b]? = some o2 ∧ o.alive = true ∧ o2.alive = true ∧ o2.fam = i + b ∧ o2.sh = o.sh ∧ BodyGe m o.body o2.body
  | [], [], i, h => ⟨rfl, fun b hb => by simp at hb⟩
  | j :: l, o2 :: H2, i, h => by
    obtain ⟨h1, h2⟩ := h
    obtain ⟨o, ho, e1, e2, e3, e4, e5⟩ := onO_some h1
    obtain ⟨k1, k2⟩ := h2.get
    refine ⟨by simp [k1], fun b hb => ?_⟩
    cases b with
    | zero => exact ⟨j, o, o2, rfl, ho, rfl, e1, e2, e3, e4, e5⟩
    | succ b =>
      obtain ⟨j', o', o2', x1, x2, x3, x4, x5, x6, x7, x8⟩ := k2 b (by simpa using hb)
      exact ⟨j', o', o2', by simpa using x1, x2, by simpa using x3, x4, x5, by omega, x7, x8⟩
  | [], _ :: _, i, h => h.elim
  | _ :: _, [], i, h => h.elim
def famOf (H : AHeap) (j : Nat) : Nat := match H[j]? with | some o => o.fam | none => 0
def nodupN : List Nat → Bool
  | [] => true
  | n :: l => !(mem n l) && nodupN l
theorem nodupN_inj : ∀ {l : List Nat} {i j : Nat} {x : Nat}, nodupN l = true → l[i]? = some x → l[j]? = some x → i = j
  | [], i, j, x, h, hi, hj => by simp at hi
  | n :: l, i, j, x, h, hi, hj => by
    simp only [nodupN, Bool.and_eq_true, Bool.not_eq_true'] at h
    have nm : ∀ k, l[k]? = some n → False := fun k hk => by
      have : mem n l = true := mem_iff.2 (List.mem_of_getElem? hk)
      rw [h.1] at this; cases this
    cases i with
    | zero => cases j with
      | zero => rfl
      | succ j => simp at hi hj; subst hi; exact (nm j hj).elim
    | succ i => cases j with
      | zero => simp at hi hj; subst hj; exact (nm i hi).elim
      | succ j => simp at hi hj; rw [nodupN_inj h.2 hi hj]
def pref : Nat → Nat → List Nat → Bool
  | 0, _, _ => true
  | k + 1, i, j :: m => Nat.beq j i && pref k (i + 1) m
  | _ + 1, _, [] => false
theorem pref_get : ∀ {k i : Nat} {m : List Nat}, pref k i m = true → ∀ b, b < k → m[b]? = some (i + b)
  | 0, i, m, h, b, hb => by omega
  | k + 1, i, [], h, b, hb => by simp [pref] at h
  | k + 1, i, j :: m, h, b, hb => by
    simp only [pref, Bool.and_eq_true] at h
    have := Nat.eq_of_beq_eq_true h.1; subst this
    cases b with
    | zero => simp
    | succ b => have := pref_get h.2 b (by omega); simp only [List.getElem?_cons_succ, this]; congr 1; omega
structure Fg (k : Nat) (m : List Nat) (tm : Tr) (H : AHeap) (tm2 : Tr) (H2 : AHeap) : Prop where
  tr : TrGe m tm tm2
  hp : HpGe H m m H2 0
  fams : nodupN (m.map (famOf H)) = true
  kp : pref k 0 m = true
theorem Fg.sound {k : Nat} {m : List Nat} {tm tm2 : Tr} {H H2 : AHeap} (h : Fg k m tm H tm2 H2) {sn : Snap} {ι : IMap} {W : World} {a : Act} (hR : R sn ι H W) (ht : TRel sn ι tm a) : Stq k sn ι H W sn (iot m ι) H2 W ∧ TRel sn (iot m ι) tm2 a := by
  obtain ⟨hl, hg⟩ := h.hp.get
  have at2 : ∀ {b : Nat} {o2 : AObj} {p : Place}, H2[b]? = some o2 → iot m ι b = some p → ∃ j o, m[b]? = some j ∧ H[j]? = some o ∧ ι j = some p ∧ o.alive = true ∧ o2.alive = true ∧ o2.fam = b ∧ o2.sh = o.sh ∧ BodyGe m o.body o2.body := by
    intro b o2 p hb hp
    obtain ⟨j, o, o2', x1, x2, x3, x4, x5, x6, x7, x8⟩ := hg b (by rw [← hl]; exact (List.getElem?_eq_some_iff.1 hb).1)
    rw [hb] at x3; simp at x3; subst x3
    simp only [iot, x1] at hp
    exact ⟨j, o, x1, x2, hp, x4, x5, by omega, x7, x8⟩
  have hR2 : R sn (iot m ι) H2 W := by
    refine ⟨fun b => ⟨fun hb => ?_, fun ⟨p, hp⟩ => ?_⟩, fun b p hp => ?_, fun b o2 p hb ha hp => ?_, fun b b' o o' p p' hb hb' hp hp' e => ?_, fun ad v hv => ?_, fun b o2 p hb hp e => ?_⟩
    · obtain ⟨j, o, o2, x1, x2, _⟩ := hg b (by omega)
      obtain ⟨p, hp⟩ := hR.place x2
      exact ⟨p, by simp only [iot, x1]; exact hp⟩
    · unfold iot at hp
      split at hp
      · rename_i j hj; rw [hl]; exact (List.getElem?_eq_some_iff.1 hj).1
      · cases hp
    · unfold iot at hp
      split at hp
      · exact hR.blk _ p hp
      · cases hp
    · obtain ⟨j, o, x1, x2, x3, x4, x5, x6, x7, x8⟩ := at2 hb hp
      exact x8.or (hR.obj j o p x2 x4 x3)
    · obtain ⟨j, q, x1, x2, x3, x4, x5, x6, x7, x8⟩ := at2 hb hp
      obtain ⟨j', q', y1, y2, y3, y4, y5, y6, y7, y8⟩ := at2 hb' hp'
      have hs := hR.sep j j' q q' p p' x2 y2 x3 y3 e
      have : b = b' := nodupN_inj (l := m.map (famOf H)) (x := q.fam) h.fams (by simp [x1, famOf, x2]) (by simp [y1, famOf, y2, hs.1])
      subst this
      exact ⟨by rw [x6, y6], by rw [x7, y7]; exact hs.2⟩
    · obtain ⟨h1, h2, h3⟩ := hR.snap ad v hv
      refine ⟨h1, h2, fun b o2 p hb ha hp => ?_⟩
      obtain ⟨j, o, x1, x2, x3, x4, _⟩ := at2 hb hp
      exact h3 j o p x2 x4 x3
    · obtain ⟨j, o, x1, x2, x3, x4, x5, x6, x7, x8⟩ := at2 hb hp
      exact hR.shz j o p x2 x3 (by omega)
  refine ⟨⟨hR2, fun _ _ h => h, fun b o2 p hb ha hp => ?_, fun _ _ _ => rfl, Nat.le_refl _, rfl, rfl, rfl, fun _ _ h => .inl h, fun b p hb hp => by have := pref_get h.kp b hb; simp only [Nat.zero_add] at this; simp only [iot, this]; exact hp⟩, fun t u2 hu => ?_, fun t hx => ht.2 t (h.tr.2 t hx)⟩
  · obtain ⟨j, o, x1, x2, x3, x4, _⟩ := at2 hb hp
    exact .inr ⟨j, o, p, x2, x4, x3, rfl⟩
  · obtain ⟨u, h1, h2⟩ := h.tr.1 t u2 hu
    obtain ⟨v, h3, h4⟩ := ht.1 t u h1
    exact ⟨v, h3, h2 _ _ _ h4⟩
theorem gl_le {sn sn' : Snap} (h : ∀ a v, sn a = some v → sn' a = some v) : Le sn sn' noI noI := ⟨h, fun _ _ h => h⟩
def FgLK (k : Nat) (t0 tm : Tr) (H : AHeap) (l : List (Nat × AV)) (H2 : AHeap) : Prop :=
  match subT t0 tm with
  | true => ∃ m, pref k 0 m = true ∧ SlotsGe m tm l ∧ HpGe H m m H2 0 ∧ nodupN (m.map (famOf H)) = true
  | false => False
abbrev FgL := FgLK 0
theorem FgLK.fg {k : Nat} {t0 tm : Tr} {H : AHeap} {l : List (Nat × AV)} {H2 : AHeap} (h : FgLK k t0 tm H l H2) : ∃ m, Fg k m tm H (mask (fun n => alook n l) t0) H2 := by
  unfold FgLK at h
  split at h
  · rename_i hs
    obtain ⟨m, h0, h1, h2, h3⟩ := h
    exact ⟨m, ⟨fun n u2 e => h1.get n u2 (mask_get _ _ _ _ e), fun n e => subT_tex hs n (by rwa [mask_tex] at e)⟩, h2, h3, h0⟩
  · exact h.elim
def frcOO (x : Option (Option AV)) (k : Option (Option AV) → Prop) : Prop := match x with
  | none => k none
  | some none => k (some none)
  | some (some v) => frc1 v fun v => k (some (some v))
theorem frcOO_eq (x : Option (Option AV)) (k : Option (Option AV) → Prop) : frcOO x k = k x := by
  cases x with
  | none => rfl
  | some x => cases x with
    | none => rfl
    | some v => simp only [frcOO, frc1_eq]
def frcTr : Tr → (Tr → Prop) → Prop
  | .leaf, k => k .leaf
  | .node x l r, k => frcOO x fun x => frcTr l fun l => frcTr r fun r => k (.node x l r)
theorem frcTr_eq : ∀ (t : Tr) (k : Tr → Prop), frcTr t k = k t
  | .leaf, k => rfl
  | .node x l r, k => by simp only [frcTr, frcOO_eq, frcTr_eq l, frcTr_eq r]
def dmark (D : Nat) : Deferred := { target := .collected D, args := #[] }
def DefOK (W0 : World) (d0 : List Deferred) (ι : IMap) (H : AHeap) (W : World) (d : List Deferred) : Prop :=
  ∃ ds : List Nat, d = ds.map dmark ++ d0 ∧ ds.Nodup ∧ ∀ D ∈ ds, W0.heap.size ≤ D ∧ W.heap[D]? = some (.deferred (some [])) ∧ ∀ (b : Nat) (o : AObj) p, H[b]? = some o → o.alive = true → ι b = some p → p.blk ≠ D
theorem DefOK.eq {W0 W : World} {d0 d : List Deferred} {ι : IMap} {H : AHeap} (h : d = d0) : DefOK W0 d0 ι H W d := ⟨[], by simp [h], List.nodup_nil, fun _ h => by cases h⟩
theorem DefOK.trans {k : Nat} {W W1 W2 : World} {d d1 d2 : List Deferred} {sn1 sn2 : Snap} {ι1 ι2 : IMap} {H1 H2 : AHeap} (hs : W.heap.size ≤ W1.heap.size) (h : DefOK W d ι1 H1 W1 d1) (s : Stq k sn1 ι1 H1 W1 sn2 ι2 H2 W2) (h2 : DefOK W1 d1 ι2 H2 W2 d2) : DefOK W d ι2 H2 W2 d2 := by
  obtain ⟨ds, rfl, n1, e1⟩ := h
  obtain ⟨ds2, rfl, n2, e2⟩ := h2
  have hlt : ∀ D ∈ ds, D < W1.heap.size := fun D hD => (Array.getElem?_eq_some_iff.1 (e1 D hD).2.1).1
  refine ⟨ds2 ++ ds, by simp, ?_, fun D hD => ?_⟩
  · rw [List.nodup_append]
    refine ⟨n2, n1, fun a ha b hb e => ?_⟩
    subst e
    have := (e2 a ha).1; have := hlt a hb; omega
  · rcases List.mem_append.1 hD with hD | hD
    · obtain ⟨g1, g2, g3⟩ := e2 D hD
      exact ⟨by omega, g2, g3⟩
    · obtain ⟨g1, g2, g3⟩ := e1 D hD
      refine ⟨g1, by rw [s.frame D (hlt D hD) g3]; exact g2, fun b o p hb ha hp e => ?_⟩
      rcases s.fresh b o p hb ha hp with f1 | ⟨b0, o0, p0, f1, f2, f3, f4⟩
      · have := hlt D hD; omega
      · exact g3 b0 o0 p0 f1 f2 f3 (f4.trans e)
structure Shut (ds : List Nat) (W W' : World) : Prop where
  other : ∀ c, c ∉ ds → W'.heap[c]? = W.heap[c]?
  size : W'.heap.size = W.heap.size
  os : W'.os = W.os
  tape : W'.tape = W.tape
  output : W'.output = W.output
theorem Stq.shut {k : Nat} {ds : List Nat} {sn sn1 : Snap} {ι ι1 : IMap} {H H1 : AHeap} {W W1 W2 : World} (s : Stq k sn ι H W sn1 ι1 H1 W1) (hd : ∀ D ∈ ds, W.heap.size ≤ D ∧ W1.heap[D]? = some (.deferred (some [])) ∧ ∀ (b : Nat) (o : AObj) p, H1[b]? = some o → o.alive = true → ι1 b = some p → p.blk ≠ D) (h : Shut ds W1 W2) : Stq k sn ι H W sn1 ι1 H1 W2 := by
  have hR := s.rel
  refine ⟨⟨hR.dom, fun b p hp => by rw [h.size]; exact hR.blk b p hp, fun b o p hb ha hp => ?_, hR.sep, fun a v hv => ?_, hR.shz⟩, s.le, s.fresh, fun c hc hno => ?_, by rw [h.size]; exact s.size, h.os.trans s.os, h.tape.trans s.tape, h.output.trans s.output, s.sfresh, s.keep⟩
  · exact OR_mono (Le.refl _ _) (h.other _ fun hm => (hd _ hm).2.2 b o p hb ha hp rfl) (hR.obj b o p hb ha hp)
  · obtain ⟨g1, g2, g3⟩ := hR.snap a v hv
    refine ⟨by rw [h.size]; exact g1, ?_, g3⟩
    rw [World.cell?_of_block (h.other _ fun hm => ?_)]
    · exact g2
    · have := (hd _ hm).2.1
      unfold World.cell? at g2
      rw [this] at g2; cases g2
  · rw [h.other c fun hm => by have := (hd _ hm).1; omega]
    exact s.frame c hc hno
def Tri (P : Program) (gl : Glob) (rd : Option Nat) (k : Nat) (c : Code) (tm : Tr) (H : AHeap) (Φ : AEx → Tr → AHeap → Prop) : Prop :=
  ∀ (a : Act) (W : World) (sn : Snap) (ι : IMap) (Q : Exit → Act → World → Prop), GlOK gl sn → R sn ι H W → TRel sn ι tm a →
    (∀ x tm' H' a' W' sn' ι', Φ x tm' H' → Stq k sn ι H W sn' ι' H' W' → TRel sn' ι' tm' a' → DefOK W a.defers ι' H' W' a'.defers → Q (exOf x) a' W') → c.wpIn (Fq rd) 0 P Q a W
def finP (kn : Tr → AHeap → Prop) (kx : Nat → Tr → AHeap → Prop) (kr : Tr → AHeap → Prop) (x : AEx) (tm : Tr) (H : AHeap) : Prop := match x with
  | .normal => kn tm H
  | .exit id => kx id tm H
  | .ret => kr tm H
def loopK (k : Nat) (body : (Tr → AHeap → Prop) → Tr → AHeap → Prop) (tm : Tr) (H : AHeap) : Prop :=
  ∃ (S : Type) (I : S → Prop) (L : S → List (Nat × AV)) (B : S → AHeap) (μ : S → Nat), (∃ s, I s ∧ FgLK k tm tm H (L s) (B s)) ∧
    ∀ s, I s → frcTr (mask (fun n => alook n (L s)) tm) fun tm1 => frcHW (B s) fun H1 => body (fun tm' H' => ∃ s', I s' ∧ μ s' < μ s ∧ FgLK k tm tm' H' (L s') (B s')) tm1 H1
abbrev KN := Tr → AHeap → Prop
abbrev KX := Nat → Tr → AHeap → Prop
structure LH where
  lp : ((Tr → AHeap → Prop) → Tr → AHeap → Prop) → Tr → AHeap → Prop
  rf : AV → Array Tmp → Code → Code → KN → KX → KN → Tr → AHeap → Prop
def noRF : AV → Array Tmp → Code → Code → KN → KX → KN → Tr → AHeap → Prop := fun _ _ _ _ _ _ _ _ _ => False
def noLoop : LH := ⟨fun _ _ _ => False, noRF⟩
def wloopK (k : Nat) : LH := ⟨loopK k, noRF⟩
abbrev wloop := wloopK 0
noncomputable def wexec (P : Program) (gl : Glob) (orc : Orc) (cw : CW) (lh : LH) (c : Code) : KN → KX → KN → Tr → AHeap → Prop :=
  Code.rec (motive := fun _ => KN → KX → KN → Tr → AHeap → Prop)
    (fun kn _ _ tm H => kn tm H)
    (fun _ ops draw kn _ _ tm H => match draw with
      | true => drawW P gl orc cw ops.toList tm H kn
      | false => seqW P gl orc cw ops.toList ops.toList tm H kn)
    (fun _ _ iha ihb kn kx kr tm H => iha (fun tm H => ihb kn kx kr tm H) kx kr tm H)
    (fun c _ _ iha ihb kn kx kr tm H => onO (aeval gl tm c) fun v => match v with
      | .bool t => (t = true → iha kn kx kr tm H) ∧ (t = false → ihb kn kx kr tm H)
      | _ => False)
    (fun id _ ih kn kx kr tm H => ih kn (fun id' tm H => match Nat.beq id' id with | true => kn tm H | false => kx id' tm H) kr tm H)
    (fun _ ih _ kx kr tm H => lh.lp (fun kn tm H => ih kn kx kr tm H) tm H)
    (fun f ps asg bd _ _ kn kx kr tm H => onO (aeval gl tm f) fun v => lh.rf v ps asg bd kn kx kr tm H)
    (fun id _ kx _ tm H => kx id tm H)
    (fun _ _ _ _ _ _ _ => False)
    (fun _ _ _ _ _ _ => False)
    (fun _ _ _ _ _ _ => False)
    (fun _ _ kr tm H => kr tm H)
    (fun _ _ _ _ _ _ => False) c
section code
variable {P : Program} {gl : Glob} {orc : Orc} {k : Nat} {rd : Option Nat}
theorem Tri.mono {c : Code} {tm : Tr} {H : AHeap} {Φ Ψ : AEx → Tr → AHeap → Prop} (h : Tri P gl rd k c tm H Φ) (hk : ∀ x tm' H', Φ x tm' H' → Ψ x tm' H') : Tri P gl rd k c tm H Ψ :=
  fun a W sn ι Q hg hR ht hQ => h a W sn ι Q hg hR ht fun x tm' H' a' W' sn' ι' hx => hQ x tm' H' a' W' sn' ι' (hk _ _ _ hx)
theorem Tri.seq {c d : Code} {tm : Tr} {H : AHeap} {Φ : AEx → Tr → AHeap → Prop} (h : Tri P gl rd k c tm H fun x tm1 H1 => match x with | .normal => Tri P gl rd k d tm1 H1 Φ | x => Φ x tm1 H1) : Tri P gl rd k (.seq c d) tm H Φ := by
  intro a W sn ι Q hg hR ht hQ
  refine wpIn_seq (h a W sn ι _ hg hR ht fun x tm1 H1 a1 W1 sn1 ι1 hx s1 t1 d1 => ?_)
  cases x with
  | normal =>
    show Code.wpIn (Fq rd) 0 P d Q a1 W1
    refine hx a1 W1 sn1 ι1 Q (hg.mono (gl_le s1.le)) s1.rel t1 fun x tm2 H2 a2 W2 sn2 ι2 hx2 s2 t2 d2 => ?_
    exact hQ _ _ _ _ _ _ _ hx2 (s1.trans s2) t2 (DefOK.trans s1.size d1 s2 d2)
  | exit id => exact hQ (.exit id) tm1 H1 _ _ _ _ hx s1 t1 d1
  | ret => exact hQ .ret tm1 H1 _ _ _ _ hx s1 t1 d1
theorem Tri.forget {c : Code} {tm : Tr} {H : AHeap} {Φ : AEx → Tr → AHeap → Prop} {m : List Nat} {tm2 : Tr} {H2 : AHeap} (hf : Fg k m tm H tm2 H2) (h : Tri P gl rd k c tm2 H2 Φ) : Tri P gl rd k c tm H Φ := by
  intro a W sn ι Q hg hR ht hQ
  obtain ⟨s1, t1⟩ := hf.sound hR ht
  exact h a W sn (iot m ι) Q hg s1.rel t1 fun x tm' H' a' W' sn' ι' hx s2 t2 d2 => hQ x tm' H' a' W' sn' ι' hx (s1.trans s2) t2 d2
theorem Tri.loop {b : Code} {S : Type} {I : S → Prop} {T : S → Tr} {B : S → AHeap} {μ : S → Nat} {Φ : AEx → Tr → AHeap → Prop}
    (h : ∀ s, I s → Tri P gl rd k b (T s) (B s) fun x tm' H' => match x with | .normal => ∃ s', I s' ∧ μ s' < μ s ∧ ∃ m, Fg k m tm' H' (T s') (B s') | x => Φ x tm' H') {s : S} (h0 : I s) : Tri P gl rd k (.loop b) (T s) (B s) Φ := by
  have key : ∀ (n : Nat) (s : S), μ s < n → I s → ∀ (a : Act) (W : World) (sn : Snap) (ι : IMap) (Q : Exit → Act → World → Prop), GlOK gl sn → R sn ι (B s) W → TRel sn ι (T s) a →
      (∀ x tm' H' a' W' sn' ι', Φ x tm' H' → Stq k sn ι (B s) W sn' ι' H' W' → TRel sn' ι' tm' a' → DefOK W a.defers ι' H' W' a'.defers → Q (exOf x) a' W') → Code.roundsIn (Fq rd) 0 P b Q n a W := by
    intro n
    induction n with
    | zero => intro s hs; omega
    | succ n ih =>
      intro s hs hI a W sn ι Q hg hR ht hQ
      rw [roundsIn_succ]
      refine h s hI a W sn ι _ hg hR ht fun x tm1 H1 a1 W1 sn1 ι1 hx s1 t1 d1 => ?_
      cases x with
      | normal =>
        show Code.roundsIn (Fq rd) 0 P b Q n a1 W1
        obtain ⟨s', hI', hs', m, hf⟩ := hx
        obtain ⟨s2, t2⟩ := hf.sound s1.rel t1
        refine ih s' (by omega) hI' a1 W1 sn1 (iot m ι1) Q (hg.mono (gl_le s1.le)) s2.rel t2 fun x tm3 H3 a3 W3 sn3 ι3 hx3 s3 t3 d3 => ?_
        exact hQ _ _ _ _ _ _ _ hx3 ((s1.trans s2).trans s3) t3 (DefOK.trans s1.size d1 (s2.trans s3) d3)
      | exit id => exact hQ (.exit id) tm1 H1 _ _ _ _ hx s1 t1 d1
      | ret => exact hQ .ret tm1 H1 _ _ _ _ hx s1 t1 d1
  intro a W sn ι Q hg hR ht hQ
  exact wpIn_loop_rounds (μ s + 1) (key (μ s + 1) s (by omega) h0 a W sn ι Q hg hR ht hQ)
def RFok (P : Program) (gl : Glob) (rd : Option Nat) (k : Nat) (rf : AV → Array Tmp → Code → Code → KN → KX → KN → Tr → AHeap → Prop) : Prop :=
  ∀ f v ps asg bd kn kx kr tm H, aeval gl tm f = some v → rf v ps asg bd kn kx kr tm H → Tri P gl rd k (.rangeFunc f ps asg bd) tm H (finP kn kx kr)
theorem wexec_okR {rf : AV → Array Tmp → Code → Code → KN → KX → KN → Tr → AHeap → Prop} (hrf : RFok P gl rd k rf) (hm : P.follows .mixedOrders = true) (hn : NoNum P) (hO : OrcSound P gl orc) {cw : CW} (hcw : CWok P orc cw) : ∀ (c : Code) {kn : Tr → AHeap → Prop} {kx : Nat → Tr → AHeap → Prop} {kr : Tr → AHeap → Prop} {tm : Tr} {H : AHeap},
    wexec P gl orc cw ⟨loopK k, rf⟩ c kn kx kr tm H → Tri P gl rd k c tm H (finP kn kx kr)
  | .skip, kn, kx, kr, tm, H, h => fun a W sn ι Q hg hR ht hQ => by
    exact wpIn_skip (hQ .normal tm H a W sn ι h (Stq.refl hR) ht (DefOK.eq rfl))
  | .region id ops draw, kn, kx, kr, tm, H, h => fun a W sn ι Q hg hR ht hQ => by
    cases draw with
    | true =>
      replace h : drawW P gl orc cw ops.toList tm H kn := h
      obtain ⟨tm', H', h1, h⟩ := drawW_ok P gl orc cw hcw h
      exact adraw_sound hm hn hO hg hR ht h1 (fun a' W' sn' ι' s1 t1 d1 => hQ .normal tm' H' a' W' sn' ι' h (s1.q hR) t1 (DefOK.eq d1)) id
    | false =>
      replace h : seqW P gl orc cw ops.toList ops.toList tm H kn := h
      obtain ⟨tm', H', h1, h⟩ := seqW_ok P gl orc cw hcw h
      exact wpIn_region_list (aseq_sound hn hO ops _ _ _ _ _ _ _ _ _ h1 hg hR ht fun a' W' sn' ι' s1 t1 d1 => hQ .normal tm' H' a' W' sn' ι' h (s1.q hR) t1 (DefOK.eq d1))
  | .seq c d, kn, kx, kr, tm, H, h => by
    replace h : wexec P gl orc cw ⟨loopK k, rf⟩ c (fun tm H => wexec P gl orc cw ⟨loopK k, rf⟩ d kn kx kr tm H) kx kr tm H := h
    refine Tri.seq ((wexec_okR hrf hm hn hO hcw c h).mono fun x tm1 H1 hx => ?_)
    cases x with
    | normal => exact wexec_okR hrf hm hn hO hcw d hx
    | exit id => exact hx
    | ret => exact hx
  | .cond e c d, kn, kx, kr, tm, H, h => fun a W sn ι Q hg hR ht hQ => by
    replace h : (onO (aeval gl tm e) fun v => match v with
      | .bool t => (t = true → wexec P gl orc cw ⟨loopK k, rf⟩ c kn kx kr tm H) ∧ (t = false → wexec P gl orc cw ⟨loopK k, rf⟩ d kn kx kr tm H)
      | _ => False) := h
    obtain ⟨v, hv, h⟩ := onO_some h
    split at h
    · rename_i t
      have he := (aeval_sound hg ht _ _ hv).bool
      cases t with
      | true => exact wpIn_cond_true he (wexec_okR hrf hm hn hO hcw c (h.1 rfl) a W sn ι Q hg hR ht hQ)
      | false => exact wpIn_cond_false he (wexec_okR hrf hm hn hO hcw d (h.2 rfl) a W sn ι Q hg hR ht hQ)
    · exact h.elim
  | .block id b, kn, kx, kr, tm, H, h => fun a W sn ι Q hg hR ht hQ => by
    replace h : wexec P gl orc cw ⟨loopK k, rf⟩ b kn (fun id' tm H => match Nat.beq id' id with | true => kn tm H | false => kx id' tm H) kr tm H := h
    refine wpIn_block (wexec_okR hrf hm hn hO hcw b h a W sn ι _ hg hR ht fun x tm1 H1 a1 W1 sn1 ι1 hx s1 t1 d1 => ?_)
    cases x with
    | normal => exact hQ .normal tm1 H1 _ _ _ _ hx s1 t1 d1
    | ret => exact hQ .ret tm1 H1 _ _ _ _ hx s1 t1 d1
    | exit id' =>
      show (if id' = id then Q .normal a1 W1 else Q (.exit id') a1 W1)
      have hx : (match Nat.beq id' id with | true => kn tm1 H1 | false => kx id' tm1 H1) := hx
      by_cases e : id' = id
      · rw [if_pos e]
        subst e
        have : Nat.beq id' id' = true := by simp
        rw [this] at hx
        exact hQ .normal tm1 H1 _ _ _ _ hx s1 t1 d1
      · rw [if_neg e]
        have : Nat.beq id' id = false := by cases hb : Nat.beq id' id with | false => rfl | true => exact (e (Nat.eq_of_beq_eq_true hb)).elim
        rw [this] at hx
        exact hQ (.exit id') tm1 H1 _ _ _ _ hx s1 t1 d1
  | .loop b, kn, kx, kr, tm, H, h => by
    replace h : loopK k (fun kn tm H => wexec P gl orc cw ⟨loopK k, rf⟩ b kn kx kr tm H) tm H := h
    unfold loopK at h
    obtain ⟨S, I, L, B, μ, ⟨s, h0, hf⟩, h⟩ := h
    obtain ⟨m, hf⟩ := hf.fg
    refine Tri.forget hf (Tri.loop (I := I) (T := fun s => mask (fun n => alook n (L s)) tm) (B := B) (μ := μ) (fun s hI => ?_) h0)
    have h := h s hI
    rw [frcTr_eq, frcHW_eq] at h
    refine (wexec_okR hrf hm hn hO hcw b h).mono fun x tm' H' hx => ?_
    cases x with
    | normal =>
      obtain ⟨s', k1, k2, k3⟩ := hx
      exact ⟨s', k1, k2, k3.fg⟩
    | exit id => exact hx
    | ret => exact hx
  | .exit id, kn, kx, kr, tm, H, h => fun a W sn ι Q hg hR ht hQ => by
    exact wpIn_exit (hQ (.exit id) tm H a W sn ι h (Stq.refl hR) ht (DefOK.eq rfl))
  | .ret, kn, kx, kr, tm, H, h => fun a W sn ι Q hg hR ht hQ => by
    exact wpIn_ret (hQ .ret tm H a W sn ι h (Stq.refl hR) ht (DefOK.eq rfl))
  | .rangeFunc f ps asg bd, kn, kx, kr, tm, H, h => by
    replace h : (onO (aeval gl tm f) fun v => rf v ps asg bd kn kx kr tm H) := h
    obtain ⟨v, hv, h⟩ := onO_some h
    exact hrf f v ps asg bd kn kx kr tm H hv h
  | .scope .., kn, kx, kr, tm, H, h => (h : False).elim
  | .label .., kn, kx, kr, tm, H, h => (h : False).elim
  | .goto .., kn, kx, kr, tm, H, h => (h : False).elim
  | .refuse .., kn, kx, kr, tm, H, h => (h : False).elim
theorem wexec_ok (hm : P.follows .mixedOrders = true) (hn : NoNum P) (hO : OrcSound P gl orc) {cw : CW} (hcw : CWok P orc cw) (c : Code) {kn : Tr → AHeap → Prop} {kx : Nat → Tr → AHeap → Prop} {kr : Tr → AHeap → Prop} {tm : Tr} {H : AHeap}
    (h : wexec P gl orc cw (wloopK k) c kn kx kr tm H) : Tri P gl rd k c tm H (finP kn kx kr) := wexec_okR (fun _ _ _ _ _ _ _ _ _ _ _ h => h.elim) hm hn hO hcw c h
theorem wexecF_ok {fuel : Nat} {cw : CW} (hcw : CWok P orc cw) : ∀ (c : Code) {kn : Tr → AHeap → Prop} {kx : Nat → Tr → AHeap → Prop} {kr : Tr → AHeap → Prop} {tm : Tr} {H : AHeap},
    wexec P gl orc cw noLoop c kn kx kr tm H → ∃ x tm' H', aexec P gl orc fuel c tm H = some (x, tm', H') ∧ finP kn kx kr x tm' H'
  | .skip, kn, kx, kr, tm, H, h => ⟨.normal, tm, H, rfl, h⟩
  | .region id ops draw, kn, kx, kr, tm, H, h => by
    cases draw with
    | true =>
      replace h : drawW P gl orc cw ops.toList tm H kn := h
      obtain ⟨tm', H', h1, h⟩ := drawW_ok P gl orc cw hcw h
      exact ⟨.normal, tm', H', by simp only [aexec, if_true, h1], h⟩
    | false =>
      replace h : seqW P gl orc cw ops.toList ops.toList tm H kn := h
      obtain ⟨tm', H', h1, h⟩ := seqW_ok P gl orc cw hcw h
      exact ⟨.normal, tm', H', by simp only [aexec, Bool.false_eq_true, if_false, h1], h⟩
  | .seq c d, kn, kx, kr, tm, H, h => by
    replace h : wexec P gl orc cw noLoop c (fun tm H => wexec P gl orc cw noLoop d kn kx kr tm H) kx kr tm H := h
    obtain ⟨x, tm1, H1, h1, h⟩ := wexecF_ok (fuel := fuel) hcw c h
    cases x with
    | normal =>
      obtain ⟨x2, tm2, H2, h2, h⟩ := wexecF_ok (fuel := fuel) hcw d (show wexec P gl orc cw noLoop d kn kx kr tm1 H1 from h)
      exact ⟨x2, tm2, H2, by simp only [aexec, h1, h2], h⟩
    | exit id => exact ⟨.exit id, tm1, H1, by simp only [aexec, h1], h⟩
    | ret => exact ⟨.ret, tm1, H1, by simp only [aexec, h1], h⟩
  | .cond e c d, kn, kx, kr, tm, H, h => by
    replace h : (onO (aeval gl tm e) fun v => match v with
      | .bool t => (t = true → wexec P gl orc cw noLoop c kn kx kr tm H) ∧ (t = false → wexec P gl orc cw noLoop d kn kx kr tm H)
      | _ => False) := h
    obtain ⟨v, hv, h⟩ := onO_some h
    split at h
    · rename_i t
      cases t with
      | true => obtain ⟨x, tm1, H1, h1, h⟩ := wexecF_ok (fuel := fuel) hcw c (h.1 rfl); exact ⟨x, tm1, H1, by simp only [aexec, hv, h1], h⟩
      | false => obtain ⟨x, tm1, H1, h1, h⟩ := wexecF_ok (fuel := fuel) hcw d (h.2 rfl); exact ⟨x, tm1, H1, by simp only [aexec, hv, h1], h⟩
    · exact h.elim
  | .block id b, kn, kx, kr, tm, H, h => by
    replace h : wexec P gl orc cw noLoop b kn (fun id' tm H => match Nat.beq id' id with | true => kn tm H | false => kx id' tm H) kr tm H := h
    obtain ⟨x, tm1, H1, h1, h⟩ := wexecF_ok (fuel := fuel) hcw b h
    cases x with
    | normal => exact ⟨.normal, tm1, H1, by simp only [aexec, h1], h⟩
    | ret => exact ⟨.ret, tm1, H1, by simp only [aexec, h1], h⟩
    | exit id' =>
      have h : (match Nat.beq id' id with | true => kn tm1 H1 | false => kx id' tm1 H1) := h
      cases hb : Nat.beq id' id with
      | true => rw [hb] at h; exact ⟨.normal, tm1, H1, by simp only [aexec, h1, hb, if_true], h⟩
      | false => rw [hb] at h; exact ⟨.exit id', tm1, H1, by simp only [aexec, h1, hb, Bool.false_eq_true, if_false], h⟩
  | .loop b, kn, kx, kr, tm, H, h => (h : False).elim
  | .exit id, kn, kx, kr, tm, H, h => ⟨.exit id, tm, H, rfl, h⟩
  | .ret, kn, kx, kr, tm, H, h => ⟨.ret, tm, H, rfl, h⟩
  | .rangeFunc f ps asg bd, kn, kx, kr, tm, H, h => by
    replace h : (onO (aeval gl tm f) fun _ => False) := h
    obtain ⟨_, _, h⟩ := onO_some h
    exact h.elim
  | .scope .., kn, kx, kr, tm, H, h => (h : False).elim
  | .label .., kn, kx, kr, tm, H, h => (h : False).elim
  | .goto .., kn, kx, kr, tm, H, h => (h : False).elim
  | .refuse .., kn, kx, kr, tm, H, h => (h : False).elim
theorem leaves_marks {fn : Func} {tmps : Array Value} {Q : Ending → World → Prop} : ∀ (ds : List Nat) (W : World), ds.Nodup → (∀ D ∈ ds, W.heap[D]? = some (.deferred (some []))) →
    (∀ W', Shut ds W W' → ∃ v, (results fn tmps).run P W' = .ok v W' ∧ Q (.returned v) W') → LeavesInM (Fq none) 0 P fn tmps Q (ds.map dmark) .returning W
  | [], W, hn, hd, h => by
    obtain ⟨v, h1, h2⟩ := h W ⟨fun _ _ => rfl, rfl, rfl, rfl, rfl⟩
    exact ⟨v, h1, h2⟩
  | D :: ds, W, hn, hd, h => by
    have hn' := List.nodup_cons.1 hn
    refine ⟨by simp, .inl ⟨D, W.putObj D (.deferred none), rfl, run_takeDeferred (hd D (by simp)), ?_⟩⟩
    have hlt : D < W.heap.size := (Array.getElem?_eq_some_iff.1 (hd D (by simp))).1
    refine leaves_marks ds _ hn'.2 (fun E hE => ?_) fun W' hs => h W' ?_
    · rw [World.putObj_heap_other (by rintro rfl; exact hn'.1 hE)]
      exact hd E (by simp [hE])
    · refine ⟨fun c hc => ?_, by rw [hs.size]; simp, hs.os, hs.tape, hs.output⟩
      simp only [List.mem_cons, not_or] at hc
      rw [hs.other c hc.2, World.putObj_heap_other hc.1]
theorem calls_of_tri {f : Nat} {fn : Func} {c : Code} {args : List AV} {cargs : List Value} {H0 : AHeap} {W : World} {sn : Snap} {ι : IMap} {Φ : AEx → Tr → AHeap → Prop} {Q : Ending → World → Prop} (hf : P.funcs[f]? = some fn) (hc : fn.body = some c)
    (h : Tri P gl none k c (tmk (tini args fn.ntmps args.length) (tdep 20 fn.ntmps)) H0 Φ) (hg : GlOK gl sn) (hR : R sn ι H0 W) (ha : LR sn ι args cargs) (hx : ∀ id tm H, ¬ Φ (.exit id) tm H)
    (hq : ∀ x tm1 H1 a1 W1 sn1 ι1, Φ x tm1 H1 → Stq k sn ι H0 W sn1 ι1 H1 W1 → TRel sn1 ι1 tm1 a1 → ∃ v, (results fn a1.tmps).run P W1 = .ok v W1 ∧ Q (.returned v) W1) : Calls P f cargs.toArray W Q := by
  refine callsIn_q.1 (callsIn_of_wp_marks (F := Fq none) (n := 0) hf hc trivial (h _ W sn ι _ hg hR (tini_sound ha _ _ _) fun x tm1 H1 a1 W1 sn1 ι1 hx1 s1 t1 d1 => ?_))
  have key : LeavesInM (Fq none) 0 P fn a1.tmps Q a1.defers .returning W1 := by
    obtain ⟨ds, e, n1, hd⟩ := d1
    have e : a1.defers = ds.map dmark := by rw [e]; simp
    rw [e]
    exact leaves_marks ds W1 n1 (fun D hD => (hd D hD).2.1) fun W2 hs => hq x tm1 H1 a1 W2 sn1 ι1 hx1 (s1.shut hd hs) t1
  cases x with
  | normal => exact key
  | ret => exact key
  | exit id => exact (hx id tm1 H1 hx1).elim
end code
end Go.Abs
end


section

set_option linter.unusedSimpArgs false
set_option linter.unusedVariables false
namespace Go.Abs
open Go.RowKit
def frzL (f : AV → Option AV) : List AV → Option (List AV)
  | [] => some []
  | c :: l => match f c, frzL f l with | some x, some y => some (x :: y) | _, _ => none
def frz (H : AHeap) : Nat → AV → Option AV
  | 0, _ => none
  | n + 1, u => match u with
    | .ptr b off => match H[b]? with
      | some o => match o.alive, o.body with
        | true, .cells cs _ => match frzL (frz H n) (cs.drop off) with | some l => some (.rp l) | none => none
        | _, _ => none
      | none => none
    | .slice b off len _ z => match len with
      | 0 => some (.rs 0 z [])
      | _ + 1 => match H[b]? with
        | some o => match o.alive, o.body with
          | true, .cells cs _ => match tk (len * z) (cs.drop off) with
            | some cs => match frzL (frz H n) cs with | some l => some (.rs len z l) | none => none
            | none => none
          | _, _ => none
        | none => none
    | .agg cs => match frzL (frz H n) cs with | some l => some (.agg l) | none => none
    | .tuple cs => match frzL (frz H n) cs with | some l => some (.tuple l) | none => none
    | .iface t v => match frz H n v with | some x => some (.iface t x) | none => none
    | .func fn f c => match frzL (frz H n) f, frzL (frz H n) c with | some f, some c => some (.func fn f c) | _, _ => none
    | .map _ => none
    | u => some u
section frz
variable {sn : Snap} {ι : IMap} {H : AHeap} {W : World} {g : Nat}
theorem frzL_sound {f : AV → Option AV} {sn' : Snap} (hf : ∀ u r v, f u = some r → VR sn ι u v → VR sn' noI r v) : ∀ {l l' : List AV} {vs : List Value}, frzL f l = some l' → LR sn ι l vs → LR sn' noI l' vs
  | [], l', vs, h, e => by simp [frzL] at h; subst h; simpa [LR] using e
  | c :: l, l', vs, h, e => by
    simp only [frzL] at h
    split at h <;> simp at h
    rename_i x y hx hy
    subst h
    simp only [LR] at e ⊢
    obtain ⟨d, ds, rfl, h1, h2⟩ := e
    exact ⟨d, ds, rfl, hf _ _ _ hx h1, frzL_sound hf hy h2⟩
theorem frzL_get {f : AV → Option AV} : ∀ {l l' : List AV}, frzL f l = some l' → l'.length = l.length ∧ ∀ (i : Nat) (x : AV), l'[i]? = some x → ∃ c, l[i]? = some c ∧ f c = some x
  | [], l', h => by simp [frzL] at h; subst h; simp
  | c :: l, l', h => by
    simp only [frzL] at h
    split at h <;> simp at h
    rename_i x y hx hy
    subst h
    obtain ⟨h1, h2⟩ := frzL_get hy
    refine ⟨by simp [h1], fun i z hz => ?_⟩
    cases i with
    | zero => simp at hz; subst hz; exact ⟨c, rfl, hx⟩
    | succ i => simpa using h2 i z (by simpa using hz)
theorem mr_of_get {sn : Snap} : ∀ {us : List AV} {b o : Nat}, (∀ (i : Nat) (u : AV), us[i]? = some u → ∃ v, sn ⟨b, o + i, none⟩ = some v ∧ VR sn noI u v) → MR sn us b o
  | [], b, o, h => by simp [MR]
  | u :: us, b, o, h => by
    simp only [MR]
    refine ⟨by simpa using h 0 u rfl, mr_of_get fun i x hx => ?_⟩
    have := h (i + 1) x (by simpa using hx)
    rwa [show o + (i + 1) = o + 1 + i from by omega] at this
theorem frz_sound (hR : R sn ι H W) (hfr : ∀ (b : Nat) (o : AObj) p, H[b]? = some o → o.alive = true → ι b = some p → g ≤ p.blk) :
    ∀ (n : Nat) (u r : AV) (v : Value), frz H n u = some r → VR sn ι u v → VR (snx sn g W) noI r v := by
  have hle : Le sn (snx sn g W) noI noI := ⟨fun a v hv => by
    unfold snx
    split
    · exact hv
    · exact (hR.snap a v hv).2.1, fun _ _ h => h⟩
  intro n
  induction n with
  | zero => intro u r v h; simp [frz] at h
  | succ n ih =>
    have cells : ∀ {b : Nat} {o : AObj} {p : Place} {cs l : List AV} {ty : TypeId} {off : Nat}, H[b]? = some o → o.alive = true → o.body = .cells cs ty → ι b = some p → frzL (frz H n) (cs.drop off) = some l → MR (snx sn g W) l p.blk (p.sh + off) := by
      intro b o p cs l ty off ho ha hb hp hl
      obtain ⟨_, h2⟩ := frzL_get hl
      have hor := hR.obj b o p ho ha hp
      rw [hb] at hor
      simp only [OR] at hor
      obtain ⟨arr, k1, k2, k3, k4⟩ := hor
      refine mr_of_get fun i x hx => ?_
      obtain ⟨c, hc, hcx⟩ := h2 i x hx
      rw [List.getElem?_drop] at hc
      obtain ⟨v, e1, e2⟩ := k4 (off + i) c hc
      refine ⟨v, ?_, ih c x v hcx e2⟩
      have hge := hfr b o p ho ha hp
      unfold snx
      rw [if_neg (by show ¬ p.blk < g; omega), cell_of_heap k1]
      rw [← e1]; congr 1; omega
    intro u r v h hv
    unfold frz at h
    split at h
    · rename_i b off
      split at h <;> try (simp at h; done)
      rename_i o ho
      split at h <;> try (simp at h; done)
      rename_i cs ty ha hb
      split at h <;> simp at h
      rename_i l hl
      subst h
      obtain ⟨p, hp, rfl⟩ := hv.ptr
      simp only [VR]
      exact ⟨_, _, rfl, cells ho ha hb hp hl⟩
    · rename_i b off len cap z
      obtain ⟨p, a, cap', hp, rfl, h1, h2, h3⟩ := hv.slice
      split at h
      · simp at h; subst h
        simp only [VR]
        exact .inr ⟨a, cap', rfl, by omega, by simp, by simp [MR], fun h => absurd rfl h⟩
      · rename_i len
        split at h <;> try (simp at h; done)
        rename_i o ho
        split at h <;> try (simp at h; done)
        rename_i cs ty ha hb
        split at h <;> try (simp at h; done)
        rename_i cs' hcs
        split at h <;> simp at h
        rename_i l hl
        subst h
        obtain ⟨ha', _⟩ := h3 (by omega)
        subst ha'
        obtain ⟨e1, rfl⟩ := tk_some hcs
        obtain ⟨f1, f2⟩ := frzL_get hl
        simp only [VR]
        refine .inr ⟨_, cap', rfl, by omega, ?_, ?_, fun _ => rfl⟩
        · rw [f1, List.length_take]; exact Nat.min_eq_left e1
        · have hor := hR.obj b o p ho ha hp
          rw [hb] at hor
          simp only [OR] at hor
          obtain ⟨arr, k1, k2, k3, k4⟩ := hor
          refine mr_of_get fun i x hx => ?_
          obtain ⟨c, hc, hcx⟩ := f2 i x hx
          rw [List.getElem?_take] at hc
          split at hc <;> try (simp at hc; done)
          rw [List.getElem?_drop] at hc
          obtain ⟨v, g1, g2⟩ := k4 (off + i) c hc
          refine ⟨v, ?_, ih c x v hcx g2⟩
          have hge := hfr b o p ho ha hp
          unfold snx
          rw [if_neg (by show ¬ p.blk < g; omega), cell_of_heap k1]
          rw [← g1]; congr 1; simp only; omega
    · split at h <;> simp at h
      rename_i l hl; subst h
      obtain ⟨d, rfl, h1⟩ := hv.agg
      exact vr_agg (frzL_sound ih hl h1)
    · split at h <;> simp at h
      rename_i l hl; subst h
      obtain ⟨d, rfl, h1⟩ := hv.tuple
      exact vr_tuple (frzL_sound ih hl h1)
    · split at h <;> simp at h
      rename_i x hx; subst h
      obtain ⟨y, rfl, h1⟩ := hv.iface
      simp only [VR]; exact ⟨y, rfl, ih _ _ _ hx h1⟩
    · split at h <;> simp at h
      rename_i f c hf hc; subst h
      obtain ⟨x, y, rfl, h1, h2⟩ := hv.func
      simp only [VR]; exact ⟨x, y, rfl, frzL_sound ih hf h1, frzL_sound ih hc h2⟩
    · simp at h
    · rename_i e1 e2 e3 e4 e5 e6 e7
      simp at h; subst h
      cases u with
      | ptr b o => exact (e1 _ _ rfl).elim
      | slice b o l c z => exact (e2 _ _ _ _ _ rfl).elim
      | agg cs => exact (e3 _ rfl).elim
      | tuple cs => exact (e4 _ rfl).elim
      | iface t v => exact (e5 _ _ rfl).elim
      | func fn f c => exact (e6 _ _ _ rfl).elim
      | map b => exact (e7 _ rfl).elim
      | _ => exact VR_mono (ι := noI) hle _ _ (VR_refs (ι := ι) _ [] _ (fun b hb => by simp [refs] at hb) hv)
end frz
def ValOK (P : Program) (gl : Glob) (f : Nat) (args : List AV) (r : AV) : Prop :=
  ∀ (sn : Snap) (W : World) (cargs : List Value), GlOK gl sn → R sn noI [] W → LR sn noI args cargs →
    Calls P f cargs.toArray W fun e W' => ∃ v, e = .returned v ∧ Ext W W' ∧ VR (snx sn W.heap.size W') noI r v
theorem R.none {sn : Snap} {ι : IMap} {H : AHeap} {W : World} (h : R sn ι H W) : R sn noI [] W :=
  ⟨fun b => ⟨fun hb => by simp at hb, fun ⟨p, hp⟩ => by simp [noI] at hp⟩, fun b p hp => by simp [noI] at hp, fun b o p hb => by simp at hb, fun b b' o o' p p' hb => by simp at hb,
    fun a v hv => ⟨(h.snap a v hv).1, (h.snap a v hv).2.1, fun b o p hb => by simp at hb⟩, fun b o p hb => by simp at hb⟩
theorem Stq.ext {k : Nat} {sn sn' : Snap} {ι' : IMap} {H' : AHeap} {W W' : World} (h : Stq k sn noI [] W sn' ι' H' W') : Ext W W' :=
  ⟨fun c hc => h.frame c hc fun b o p hb => by simp at hb, h.size, h.os, h.tape, h.output⟩
def orcV (F : Nat → List AV → Option AV) : Orc := fun f args H => match F f args with | some r => some (r, H) | none => none
theorem orcV_sound {P : Program} {gl : Glob} {F : Nat → List AV → Option AV} (h : ∀ f args r, F f args = some r → refsL args [] = [] ∧ ValOK P gl f args r) : OrcSound P gl (orcV F) := by
  intro f args H r H' hf sn ι W cargs hg hR ha
  unfold orcV at hf
  split at hf <;> simp at hf
  rename_i r' hr
  obtain ⟨rfl, rfl⟩ := hf
  obtain ⟨h1, h2⟩ := h f args r' hr
  refine .inl ((h2 sn W cargs hg hR.none (LR_refs args [] _ (fun b hb => by rw [h1] at hb; cases hb) ha)).mono ?_)
  rintro e W' ⟨v, rfl, hx, hv⟩
  exact ⟨v, _, ι, rfl, VR_noI hv, Stp.snap hR hx⟩
def orcOr (o1 o2 : Orc) : Orc := fun f args H => match o1 f args H with | some r => some r | none => o2 f args H
theorem orcOr_sound {P : Program} {gl : Glob} {o1 o2 : Orc} (h1 : OrcSound P gl o1) (h2 : OrcSound P gl o2) : OrcSound P gl (orcOr o1 o2) := by
  intro f args H r H' hf
  unfold orcOr at hf
  split at hf
  · rename_i x hx
    simp at hf; subst hf
    exact h1 f args H r H' hx
  · exact h2 f args H r H' hf
def resOf : List AV → AV
  | [v] => v
  | vs => .tuple vs
def orcN (P : Program) (gl : Glob) (orc : Orc) (isC : Nat → Bool) : Nat → Orc
  | 0 => orc
  | n + 1 => fun f args H => match isC f || !(hasBody P f) with | true => orc f args H | false => afunc P gl (orcN P gl orc isC n) 0 f args H
theorem orcN_sound {P : Program} {gl : Glob} {orc : Orc} {isC : Nat → Bool} (hm : P.follows .mixedOrders = true) (hn : NoNum P) (hO : OrcSound P gl orc) : ∀ n, OrcSound P gl (orcN P gl orc isC n)
  | 0 => hO
  | n + 1 => by
    intro f args H r H' hf
    simp only [orcN] at hf
    split at hf
    · exact hO f args H r H' hf
    · exact afunc_sound (fuel := 0) hm hn (orcN_sound hm hn hO n) f args H r H' hf
noncomputable def wcall (P : Program) (gl : Glob) (orc : Orc) (isC : Nat → Bool) : Nat → CW :=
  Nat.rec (motive := fun _ => CW) (cw0 P orc) (fun n ih g args H k => match isC g || !(hasBody P g) with
    | true => ∃ y, acall P orc H g args = some y ∧ frcW y.1 fun r => frcHW y.2 fun H' => k r H'
    | false => onO P.funcs[g]? fun fn => onO fn.body fun c => frcTr (tmk (tini args fn.ntmps args.length) (tdep 20 fn.ntmps)) fun tm =>
      wexec P gl (orcN P gl orc isC n) ih noLoop c (fun tm H => onO (aress P tm H fn.results.toList) fun vs => frcW (resOf vs) fun r => k r H) (fun _ _ _ => False) (fun tm H => onO (aress P tm H fn.results.toList) fun vs => frcW (resOf vs) fun r => k r H) tm H)
def finR (P : Program) (l : List ResultVar) (Φ : AV → Prop) (tm : Tr) (H : AHeap) : Prop := onO (aress P tm H l) fun vs => ∃ r, frz H 30 (resOf vs) = some r ∧ Φ r
theorem wcall_ok {P : Program} {gl : Glob} {orc : Orc} {isC : Nat → Bool} : ∀ n, CWok P (orcN P gl orc isC n) (wcall P gl orc isC n)
  | 0 => cw0_ok P orc
  | n + 1 => by
    intro g args H k h
    replace h : (match isC g || !(hasBody P g) with
      | true => ∃ y, acall P orc H g args = some y ∧ frcW y.1 fun r => frcHW y.2 fun H' => k r H'
      | false => onO P.funcs[g]? fun fn => onO fn.body fun c => frcTr (tmk (tini args fn.ntmps args.length) (tdep 20 fn.ntmps)) fun tm =>
        wexec P gl (orcN P gl orc isC n) (wcall P gl orc isC n) noLoop c (fun tm H => onO (aress P tm H fn.results.toList) fun vs => frcW (resOf vs) fun r => k r H) (fun _ _ _ => False) (fun tm H => onO (aress P tm H fn.results.toList) fun vs => frcW (resOf vs) fun r => k r H) tm H) := h
    split at h
    · obtain ⟨y, h1, h2⟩ := h
      rename_i hc
      rw [frcW_eq, frcHW_eq] at h2
      refine ⟨y.1, y.2, ?_, h2⟩
      have ho : orcN P gl orc isC (n + 1) g = orc g := by funext args H; simp only [orcN, hc]
      have hy : yl (orcN P gl orc isC (n + 1)) H g args = yl orc H g args := by unfold yl; simp only [ho]
      unfold acall at h1 ⊢
      rw [ho, hy]; exact h1
    · rename_i hb
      have hi : isC g = false := by cases hq : isC g with | false => rfl | true => rw [hq] at hb; simp at hb
      have hb' : hasBody P g = true := by cases hq : hasBody P g with | true => rfl | false => rw [hq] at hb; simp at hb
      obtain ⟨fn, hfn, h⟩ := onO_some h
      obtain ⟨c, hc, h⟩ := onO_some h
      rw [frcTr_eq] at h
      unfold acall
      rw [if_pos hb']
      simp only [orcN, hi, hb', Bool.not_true, Bool.or_false]
      obtain ⟨x, tm1, H1, h1, h⟩ := wexecF_ok (fuel := 0) (wcall_ok n) c h
      have fin : ∀ {tm1 H1}, (onO (aress P tm1 H1 fn.results.toList) fun vs => frcW (resOf vs) fun r => k r H1) → ∃ us, aress P tm1 H1 fn.results.toList = some us ∧ k (resOf us) H1 := fun h => by
        obtain ⟨us, e1, e2⟩ := onO_some h
        rw [frcW_eq] at e2
        exact ⟨us, e1, e2⟩
      have done : ∀ {us : List AV}, aress P tm1 H1 fn.results.toList = some us → (x = .normal ∨ x = .ret) → afunc P gl (orcN P gl orc isC n) 0 g args H = some (resOf us, H1) := by
        intro us e hx
        unfold afunc
        simp only [hfn, hc, frcVL_eq, frcH_eq, h1]
        rcases hx with rfl | rfl
        all_goals
          simp only [e]
          match us with
          | [] => rfl
          | [u] => rfl
          | u :: u' :: l => rfl
      cases x with
      | normal => obtain ⟨us, e1, e2⟩ := fin h; exact ⟨_, _, done e1 (.inl rfl), e2⟩
      | exit id => exact (h : False).elim
      | ret => obtain ⟨us, e1, e2⟩ := fin h; exact ⟨_, _, done e1 (.inr rfl), e2⟩
theorem fn_valXR {rf : AV → Array Tmp → Code → Code → KN → KX → KN → Tr → AHeap → Prop} {Φ : AV → Prop} {P : Program} {gl : Glob} {orc : Orc} (hrf : RFok P gl none 0 rf) (hm : P.follows .mixedOrders = true) (hn : NoNum P) (hO : OrcSound P gl orc) {f : Nat} {fn : Func} {c : Code} {args : List AV} {r : AV} (hΦ : ∀ r', Φ r' → ∀ sn v, VR sn noI r' v → VR sn noI r v)
    (hf : P.funcs[f]? = some fn) (hc : fn.body = some c)
    {cw : CW} (hcw : CWok P orc cw)
    (h : frcTr (tmk (tini args fn.ntmps args.length) (tdep 20 fn.ntmps)) fun tm => wexec P gl orc cw ⟨loopK 0, rf⟩ c (finR P fn.results.toList Φ) (fun _ _ _ => False) (finR P fn.results.toList Φ) tm []) : ValOK P gl f args r := by
  intro sn W cargs hg hR ha
  rw [frcTr_eq] at h
  refine calls_of_tri hf hc (wexec_okR (rd := none) hrf hm hn hO hcw c h) hg hR ha (fun _ _ _ h => h) fun x tm1 H1 a1 W1 sn1 ι1 hx s1 t1 => ?_
  have key : finR P fn.results.toList Φ tm1 H1 → ∃ v, (results fn a1.tmps).run P W1 = .ok v W1 ∧ VR (snx sn W.heap.size W1) noI r v := by
    intro h
    obtain ⟨us, h1, r', h2, h3⟩ := onO_some h
    obtain ⟨vs, h4, h5⟩ := aress_sound s1.rel t1 _ _ h1
    have hle : Le (snx sn1 W.heap.size W1) (snx sn W.heap.size W1) noI noI := ⟨fun a v hv => by
      unfold snx at hv ⊢
      split at hv
      · rename_i hlt
        rw [if_pos hlt]
        rcases s1.sfresh a v hv with h | h | ⟨b0, o0, p0, hb, _⟩
        · exact h
        · omega
        · simp at hb
      · rename_i hlt
        rw [if_neg hlt]; exact hv, fun _ _ h => h⟩
    have hfr : ∀ (b : Nat) (o : AObj) p, H1[b]? = some o → o.alive = true → ι1 b = some p → W.heap.size ≤ p.blk := by
      intro b o p hb ha hp
      rcases s1.fresh b o p hb ha hp with h | ⟨b0, o0, p0, hb, _⟩
      · exact h
      · simp at hb
    refine ⟨_, results_list h5, hΦ _ h3 _ _ (VR_mono hle _ _ (frz_sound s1.rel hfr 30 _ _ _ h2 ?_))⟩
    clear h1 h2 h3
    match us, h4 with
    | [], h4 => simp only [LR] at h4; subst h4; simp [resOf, VR, LR]
    | [u], h4 =>
      simp only [LR] at h4
      obtain ⟨d, ds, rfl, hd, rfl⟩ := h4
      simpa [resOf] using hd
    | u :: u' :: l, h4 =>
      have hl := h4.length
      simp only [List.length_cons] at hl
      have : vs.toArray.size ≠ 1 := by simp [hl]
      rw [dif_neg this]
      simp only [resOf, VR]
      exact ⟨_, rfl, h4⟩
  cases x with
  | normal =>
    obtain ⟨v, k1, k2⟩ := key hx
    exact ⟨v, k1, v, rfl, s1.ext, k2⟩
  | exit id => exact hx.elim
  | ret =>
    obtain ⟨v, k1, k2⟩ := key hx
    exact ⟨v, k1, v, rfl, s1.ext, k2⟩
theorem fn_valX {Φ : AV → Prop} {P : Program} {gl : Glob} {orc : Orc} (hm : P.follows .mixedOrders = true) (hn : NoNum P) (hO : OrcSound P gl orc) {f : Nat} {fn : Func} {c : Code} {args : List AV} {r : AV} (hΦ : ∀ r', Φ r' → ∀ sn v, VR sn noI r' v → VR sn noI r v)
    (hf : P.funcs[f]? = some fn) (hc : fn.body = some c)
    {cw : CW} (hcw : CWok P orc cw)
    (h : frcTr (tmk (tini args fn.ntmps args.length) (tdep 20 fn.ntmps)) fun tm => wexec P gl orc cw wloop c (finR P fn.results.toList Φ) (fun _ _ _ => False) (finR P fn.results.toList Φ) tm []) : ValOK P gl f args r :=
  fn_valXR (fun _ _ _ _ _ _ _ _ _ _ _ h => h.elim) hm hn hO hΦ hf hc hcw h
theorem fn_valG {P : Program} {gl : Glob} {orc : Orc} (hm : P.follows .mixedOrders = true) (hn : NoNum P) (hO : OrcSound P gl orc) {f : Nat} {fn : Func} {c : Code} {args : List AV} {r : AV}
    (hf : P.funcs[f]? = some fn) (hc : fn.body = some c)
    {cw : CW} (hcw : CWok P orc cw)
    (h : frcTr (tmk (tini args fn.ntmps args.length) (tdep 20 fn.ntmps)) fun tm => wexec P gl orc cw wloop c (finR P fn.results.toList (· = r)) (fun _ _ _ => False) (finR P fn.results.toList (· = r)) tm []) : ValOK P gl f args r :=
  fn_valX (Φ := (· = r)) hm hn hO (fun r' e sn v h => e ▸ h) hf hc hcw h
def nilR (r r' : AV) : Prop := r' = r ∨ (r' = .nslice ∧ ∃ z, r = .rs 0 z [])
theorem nilR_ok {r : AV} : ∀ r', nilR r r' → ∀ sn v, VR sn noI r' v → VR sn noI r v := by
  rintro r' (rfl | ⟨rfl, z, rfl⟩) sn v h
  · exact h
  · simp only [VR] at h ⊢; exact .inl ⟨trivial, trivial, h⟩
theorem fn_valN {P : Program} {gl : Glob} {orc : Orc} (hm : P.follows .mixedOrders = true) (hn : NoNum P) (hO : OrcSound P gl orc) {f : Nat} {fn : Func} {c : Code} {args : List AV} {r : AV} (hf : P.funcs[f]? = some fn) (hc : fn.body = some c)
    (h : frcTr (tmk (tini args fn.ntmps args.length) (tdep 20 fn.ntmps)) fun tm => wexec P gl orc (cw0 P orc) wloop c (finR P fn.results.toList (nilR r)) (fun _ _ _ => False) (finR P fn.results.toList (nilR r)) tm []) : ValOK P gl f args r :=
  fn_valX hm hn hO nilR_ok hf hc (cw0_ok P orc) h
theorem fn_val {P : Program} {gl : Glob} {orc : Orc} (hm : P.follows .mixedOrders = true) (hn : NoNum P) (hO : OrcSound P gl orc) {f : Nat} {fn : Func} {c : Code} {args : List AV} {r : AV} (hf : P.funcs[f]? = some fn) (hc : fn.body = some c)
    (h : frcTr (tmk (tini args fn.ntmps args.length) (tdep 20 fn.ntmps)) fun tm => wexec P gl orc (cw0 P orc) wloop c (finR P fn.results.toList (· = r)) (fun _ _ _ => False) (finR P fn.results.toList (· = r)) tm []) : ValOK P gl f args r :=
  fn_valG hm hn hO hf hc (cw0_ok P orc) h
theorem fn_valI {P : Program} {gl : Glob} {orc : Orc} (isC : Nat → Bool) (n : Nat) (hm : P.follows .mixedOrders = true) (hn : NoNum P) (hO : OrcSound P gl orc) {f : Nat} {fn : Func} {c : Code} {args : List AV} {r : AV} (hf : P.funcs[f]? = some fn) (hc : fn.body = some c)
    (h : frcTr (tmk (tini args fn.ntmps args.length) (tdep 20 fn.ntmps)) fun tm => wexec P gl (orcN P gl orc isC n) (wcall P gl orc isC n) wloop c (finR P fn.results.toList (· = r)) (fun _ _ _ => False) (finR P fn.results.toList (· = r)) tm []) : ValOK P gl f args r :=
  fn_valG hm hn (orcN_sound hm hn hO n) hf hc (wcall_ok n) h
end Go.Abs
end


section

set_option linter.unusedSimpArgs false
set_option linter.unusedVariables false
namespace Go.Abs
open Go.RowKit
mutual
def plain : AV → Bool
  | .bool _ => true
  | .int _ _ => true
  | .str _ => true
  | .nptr => true
  | .nslice => true
  | .nmap => true
  | .nfunc => true
  | .niface => true
  | .agg cs => plainL cs
  | .tuple cs => plainL cs
  | .iface _ u => plain u
  | _ => false
def plainL : List AV → Bool
  | [] => true
  | c :: l => plain c && plainL l
end
mutual
theorem plain_VR {sn sn' : Snap} {ι ι' : IMap} : ∀ {u : AV} {v : Value}, plain u = true → VR sn ι u v → VR sn' ι' u v
  | .bool _, v, h, e => by simpa [VR] using e
  | .int _ _, v, h, e => by simpa [VR] using e
  | .str _, v, h, e => by simpa [VR] using e
  | .nptr, v, h, e => by simpa [VR] using e
  | .nslice, v, h, e => by simpa [VR] using e
  | .nmap, v, h, e => by simpa [VR] using e
  | .nfunc, v, h, e => by simpa [VR] using e
  | .niface, v, h, e => by simpa [VR] using e
  | .agg cs, v, h, e => by
    obtain ⟨d, rfl, h1⟩ := e.agg
    exact vr_agg (plainL_LR (by simpa [plain] using h) h1)
  | .tuple cs, v, h, e => by
    obtain ⟨d, rfl, h1⟩ := e.tuple
    exact vr_tuple (plainL_LR (by simpa [plain] using h) h1)
  | .ptr _ _, v, h, e => by simp [plain] at h
  | .rp _, v, h, e => by simp [plain] at h
  | .slice .., v, h, e => by simp [plain] at h
  | .rs .., v, h, e => by simp [plain] at h
  | .map _, v, h, e => by simp [plain] at h
  | .func .., v, h, e => by simp [plain] at h
  | .iface t u, v, h, e => by
    simp only [VR] at e ⊢
    obtain ⟨x, rfl, h1⟩ := e
    exact ⟨x, rfl, plain_VR (by simpa [plain] using h) h1⟩
theorem plainL_LR {sn sn' : Snap} {ι ι' : IMap} : ∀ {l : List AV} {vs : List Value}, plainL l = true → LR sn ι l vs → LR sn' ι' l vs
  | [], vs, h, e => by simpa [LR] using e
  | c :: l, vs, h, e => by
    simp only [plainL, Bool.and_eq_true] at h
    simp only [LR] at e ⊢
    obtain ⟨d, ds, rfl, h1, h2⟩ := e
    exact ⟨d, ds, rfl, plain_VR h.1 h1, plainL_LR h.2 h2⟩
end
def orcZ (F : Nat → List AV → Option AV) : Orc := fun f args H => match frzL (frz H 30) args with
  | some az => match F f az with | some r => some (r, H) | none => none
  | none => none
theorem orcZ_sound {P : Program} {gl : Glob} {F : Nat → List AV → Option AV} (h : ∀ f args r, F f args = some r → plain r = true ∧ ValOK P gl f args r) : OrcSound P gl (orcZ F) := by
  intro f args H r H' hf sn ι W cargs hg hR ha
  unfold orcZ at hf
  split at hf <;> try (simp at hf; done)
  rename_i az has
  split at hf <;> simp at hf
  rename_i r' hr
  obtain ⟨rfl, rfl⟩ := hf
  obtain ⟨h1, h2⟩ := h f az r' hr
  have hle : ∀ a v, sn a = some v → snx sn 0 W a = some v := fun a v hv => by
    unfold snx; rw [if_neg (by omega)]; exact (hR.snap a v hv).2.1
  have hR' : R (snx sn 0 W) noI [] W :=
    ⟨fun b => ⟨fun hb => by simp at hb, fun ⟨p, hp⟩ => by simp [noI] at hp⟩, fun b p hp => by simp [noI] at hp, fun b o p hb => by simp at hb, fun b b' o o' p p' hb => by simp at hb,
      fun a v hv => by
        unfold snx at hv; rw [if_neg (by omega)] at hv
        refine ⟨?_, hv, fun b o p hb => by simp at hb⟩
        cases hq : W.heap[a.block]? with
        | none => unfold World.cell? at hv; rw [hq] at hv; simp at hv
        | some ob => exact (Array.getElem?_eq_some_iff.1 hq).1,
      fun b o p hb => by simp at hb⟩
  have hargs : LR (snx sn 0 W) noI az cargs := frzL_sound (fun u r v => frz_sound hR (fun _ _ _ _ _ _ => Nat.zero_le _) 30 u r v) has ha
  refine (h2 _ W cargs (hg.mono (gl_le hle)) hR' hargs).monoY ?_
  rintro e W' ⟨v, rfl, hx, hv⟩
  exact ⟨v, sn, ι, rfl, plain_VR h1 hv, Stp.ext hR hx⟩
theorem condT {t : Bool} {A B : Prop} (h : t = true) (a : A) : (t = true → A) ∧ (t = false → B) := ⟨fun _ => a, fun e => (by rw [h] at e; cases e)⟩
theorem condF {t : Bool} {A B : Prop} (h : t = false) (b : B) : (t = true → A) ∧ (t = false → B) := ⟨fun e => (by rw [h] at e; cases e), fun _ => b⟩
theorem condB {t : Bool} {A B : Prop} (a : t = true → A) (b : t = false → B) : (t = true → A) ∧ (t = false → B) := ⟨a, b⟩
theorem exI {α : Type} {o : Option α} {r : α} {K : α → Prop} (h : o = some r) (k : K r) : ∃ r, o = some r ∧ K r := ⟨r, h, k⟩
theorem exW {α : Type} {x n : α} {K : α → Prop} (h : x = n) (k : K n) : ∃ n, x = n ∧ K n := ⟨n, h, k⟩
theorem wrapN {m j : Nat} (h : m + j ≤ 9223372036854775807) : IntKind.i64.wrap ((m : Int) + (j : Int)) = ((m + j : Nat) : Int) := by rw [IntWalk.i64_in _ ⟨by omega, by omega⟩]; omega
theorem wrapN1 {m : Nat} (h : m + 1 ≤ 9223372036854775807) : IntKind.i64.wrap ((m : Int) + 1) = ((m + 1 : Nat) : Int) := by rw [IntWalk.i64_in _ ⟨by omega, by omega⟩]; omega
theorem wrapB {n : Int} (h1 : -9223372036854775808 ≤ n) (h2 : n ≤ 9223372036854775807) : IntKind.i64.wrap n = n := IntWalk.i64_in n ⟨h1, h2⟩
theorem ixJ {i : Int} {n : Nat} {K : Nat → Prop} (j : Nat) (h1 : i = (j : Int)) (h2 : j < n) (k : K j) : ∃ j : Nat, (i = (j : Int) ∧ j < n) ∧ K j := ⟨j, ⟨h1, h2⟩, k⟩
theorem ixJ' {i : Int} {n : Nat} {K : Nat → Prop} (j : Nat) (h1 : i = (j : Int)) (h2 : j ≤ n) (k : K j) : ∃ j : Nat, (i = (j : Int) ∧ j ≤ n) ∧ K j := ⟨j, ⟨h1, h2⟩, k⟩
theorem ixS {i : Int} {s : List UInt8} {K : Nat → UInt8 → Prop} (j : Nat) {b : UInt8} (h1 : i = (j : Int)) (h2 : s[j]? = some b) (k : K j b) : ∃ j : Nat, i = (j : Int) ∧ ∃ b, s[j]? = some b ∧ K j b := ⟨j, h1, b, h2, k⟩
theorem eqR {u v : AV} {K : Prop} (h : u = v) (k : K) : u = v ∧ K := ⟨h, k⟩
theorem ValOK.rs {P : Program} {gl : Glob} {f : Nat} {pre post : List AV} {n z : Nat} {cs : List AV} {r : AV} (h : cs.length = n * z → ValOK P gl f (pre ++ .rs n z cs :: post) r) : ValOK P gl f (pre ++ .rs n z cs :: post) r := by
  intro sn W cargs hg hR ha
  have hc : cs.length = n * z := by
    have h1 : (pre ++ .rs n z cs :: post)[pre.length]? = some (.rs n z cs) := by simp
    obtain ⟨v, _, h2⟩ := ha.get h1
    rcases h2.rs with ⟨rfl, rfl, _⟩ | ⟨_, _, _, _, h3, _⟩
    · simp
    · exact h3
  exact h hc sn W cargs hg hR ha
theorem callZ {P : Program} {F : Nat → List AV → Option AV} {H : AHeap} {g : Nat} {args fa : List AV} {r : AV} (h1 : hasBody P g = true) (h2 : frzL (frz H 30) args = some fa) (h3 : F g fa = some r) : acall P (orcZ F) H g args = some (r, H) := by
  simp only [acall, h1, if_true, orcZ, h2, h3]
end Go.Abs
end


section

set_option linter.unusedSimpArgs false
set_option linter.unusedVariables false
namespace Go.Abs
open Go.RowKit Go.ChangeShapes Go.WideShapes Go.ChangeAt
def okType (P : Program) (t : TypeId) : Bool := match P.underlying t with
  | some (.slice e) => Nat.blt e P.types.size && !(Nat.beq (P.cellsOf e) 0)
  | some (.pointer e) => Nat.blt e P.types.size
  | some (.array _ e) => Nat.blt e P.types.size
  | some (.map _ e) => Nat.blt e P.types.size
  | some (.struct fs) => fs.toList.all fun f => Nat.blt f.type P.types.size
  | _ => true
def Solid (P : Program) : Prop := ((List.range P.types.size).all fun t => okType P t) = true
theorem Solid.at {P : Program} (h : Solid P) {t : TypeId} (ht : t < P.types.size) : okType P t = true := List.all_eq_true.1 h t (List.mem_range.2 ht)
theorem blt_lt {a b : Nat} (h : Nat.blt a b = true) : a < b := by simpa [Nat.blt_eq] using h
section keep
variable {H : Type} {enc : TypeId × Value → H} {P : Program} {w w' : World} {base : Nat} {sp : Nat → Bool}
theorem trod_spare (hP : Solid P) : ∀ (n : Nat) (t : TypeId) (cs : List Value) (x : DataW H × List MemPlace), t < P.types.size → DataW.trod enc P w base (fun _ => true) true n t cs = some x → (∀ p ∈ x.2, sp p.block = true) → DataW.trod enc P w base sp true n t cs = some x := by
  intro n
  induction n with
  | zero => intro t cs x _ h; simp [DataW.trod] at h
  | succ n ih =>
    intro t cs x htl h hs
    have hok := hP.at htl
    unfold okType at hok
    rw [DataW.trod_step] at h ⊢
    unfold DataW.trodStep at h ⊢
    split at h
    case h_6 e a hu =>
      simp only [hu] at hok
      simp only [Option.map_eq_some_iff, Option.bind_eq_some_iff] at h ⊢
      obtain ⟨y, ⟨cs', hc, hy⟩, rfl⟩ := h
      exact ⟨y, ⟨cs', hc, ih _ _ _ (blt_lt hok) hy fun p hp => hs p (by simp [hp])⟩, rfl⟩
    case h_8 e a len cap hu =>
      simp only [hu, Bool.and_eq_true] at hok
      have hel := blt_lt hok.1
      have hz : P.cellsOf e ≠ 0 := fun h0 => by rw [h0] at hok; cases hok.2
      simp only [if_true] at h ⊢
      split at h
      · rename_i hc
        rw [if_pos hc]
        simp only [Option.map_eq_some_iff, Option.bind_eq_some_iff] at h ⊢
        obtain ⟨els, he, rest, hrest, rfl⟩ := h
        have each : ∀ (i : Nat) (y : DataW H × List MemPlace), y ∈ els ++ rest → (w.cells? base (a.add (i * P.cellsOf e)) (P.cellsOf e)).bind (DataW.trod enc P w base (fun _ => true) true n e) = some y →
            (w.cells? base (a.add (i * P.cellsOf e)) (P.cellsOf e)).bind (DataW.trod enc P w base sp true n e) = some y := by
          intro i y hy hv
          simp only [Option.bind_eq_some_iff] at hv ⊢
          obtain ⟨cs', h1, h2⟩ := hv
          exact ⟨cs', h1, ih _ _ _ hel h2 fun p hp => hs p (by simp only [List.mem_append, List.mem_flatMap]; exact .inr ⟨y, by simpa using hy, hp⟩)⟩
        refine ⟨els, mapM_carry he fun i y _ hy hv => each i y (by simp [hy]) hv, rest, ?_, rfl⟩
        have hr := mapM_carry hrest fun j y _ hy hv => each (len + j) y (by simp [hy]) hv
        cases hsp : sp a.block with
        | true => simpa using hr
        | false =>
          have h0 : rest = [] := by
            cases hq : rest with
            | nil => rfl
            | cons y l =>
              exfalso
              have h1 : 0 < (els.length + rest.length) * P.cellsOf e := Nat.mul_pos (by rw [hq]; simp only [List.length_cons]; omega) (by omega)
              have := hs (.cell a.block (a.off + 0)) (by simp only [List.mem_append]; exact .inl (MemPlace.mem_row.2 ⟨0, h1, rfl⟩))
              simp only [MemPlace.block] at this
              rw [hsp] at this; cases this
          subst h0
          have hl : ([] : List (DataW H × List MemPlace)).length = cap - len := by simpa using mapM_some_length hrest
          rfl
      · cases h
    case h_9 fs hu =>
      simp only [hu] at hok
      split at h
      · rename_i hc
        rw [if_pos hc]
        simp only [Option.map_eq_some_iff] at h ⊢
        obtain ⟨xs, hx, rfl⟩ := h
        exact ⟨xs, mapM_carry hx fun f y hf hy hv => ih _ _ _ (blt_lt (List.all_eq_true.1 hok f hf)) hv fun p hp => hs p (List.mem_flatMap.2 ⟨y, hy, hp⟩), rfl⟩
      · cases h
    case h_10 k e hu =>
      simp only [hu] at hok
      split at h
      · rename_i hc
        rw [if_pos hc]
        simp only [Option.map_eq_some_iff] at h ⊢
        obtain ⟨xs, hx, rfl⟩ := h
        exact ⟨xs, mapM_carry hx fun f y _ hy hv => ih _ _ _ (blt_lt hok) hv fun p hp => hs p (List.mem_flatMap.2 ⟨y, hy, hp⟩), rfl⟩
      · cases h
    case h_12 => split at h <;> first | exact h | (rename_i e _; cases e) | cases h
    case h_14 k e b hu =>
      simp only [hu] at hok
      split at h
      · rename_i es clock hb
        split at h
        · rename_i hc
          simp only [Option.bind_eq_some_iff] at h
          obtain ⟨entries, he, hd⟩ := h
          split at hd
          · rename_i hris
            have hx := Option.some.inj hd
            subst hx
            simp only [hb, if_pos hc, Option.bind_eq_some_iff]
            refine ⟨entries, mapM_carry he (fun x y _ hy hv => ?_), by simp [hris]⟩
            simp only [Option.bind_eq_some_iff] at hv ⊢
            obtain ⟨key, hk, hz⟩ := hv
            refine ⟨key, hk, ?_⟩
            split at hz
            · rename_i hf
              rw [if_pos hf]
              simp only [Option.map_eq_some_iff] at hz ⊢
              obtain ⟨q, hq, rfl⟩ := hz
              exact ⟨q, ih _ _ _ (blt_lt hok) hq fun p hp => hs p (by simp only [List.mem_cons, List.mem_flatMap]; exact .inr ⟨_, hy, hp⟩), rfl⟩
            · cases hz
          · cases hd
        · cases h
      · cases h
    all_goals first | exact h | cases h
theorem sameAt_ext (he : Ext w w') {p : MemPlace} (hp : p.block < w.heap.size) : w.sameAt w' p := by
  cases p with
  | cell b off =>
    have := he.old b hp
    simp only [World.sameAt, World.cell?, this]
  | map b => exact he.old b hp
theorem trodAll_keep (hP : Solid P) (he : Ext w w') : ∀ {ts : List TypeId} {vs : List Value} {ds : List (DataW H)} {ps : List MemPlace}, (∀ t ∈ ts, t < P.types.size) → DataW.TrodAll enc P w base (fun _ => true) true ts vs ds ps → (∀ p ∈ ps, p.block < w.heap.size) → (∀ p ∈ ps, sp p.block = true) →
    DataW.TrodAll enc P w' base sp true ts vs ds ps
  | [], [], [], ps, _, h, _, _ => h
  | t :: ts, v :: vs, d :: ds, ps, ht, h, h1, h2 => by
    obtain ⟨p, q, ⟨fuel, hp⟩, hq, rfl⟩ := h
    refine ⟨p, q, ⟨fuel, trod_spare hP _ _ _ _ (ht t (by simp)) (DataW.trod_carry _ _ _ _ hp fun x hx => sameAt_ext he (h1 x (by simp [hx]))) fun x hx => h2 x (by simp [hx])⟩,
      trodAll_keep hP he (fun t h => ht t (by simp [h])) hq (fun x hx => h1 x (by simp [hx])) (fun x hx => h2 x (by simp [hx])), rfl⟩
  | [], [], _ :: _, _, _, h, _, _ => h.elim
  | [], _ :: _, _, _, _, h, _, _ => h.elim
  | _ :: _, [], _, _, _, h, _, _ => h.elim
  | _ :: _, _ :: _, [], _, _, h, _, _ => h.elim
end keep
def Opens (P : Program) (t : TypeId) (Q : List AV → Prop) : Prop :=
  ∀ (H : Type) (enc : TypeId × Value → H) (W : World) (fuel : Nat) (cs : List Value) (x : DataW H × List MemPlace), DataW.trod enc P W 0 (fun _ => true) true fuel t cs = some x → ∃ us, Q us ∧ LR (snap0 W) noI us cs
section opens
variable {P : Program}
theorem opens_mono {t : TypeId} {Q Q' : List AV → Prop} (h : Opens P t Q) (hq : ∀ us, Q us → Q' us) : Opens P t Q' := fun H enc W fuel cs x hx => let ⟨us, h1, h2⟩ := h H enc W fuel cs x hx; ⟨us, hq _ h1, h2⟩
theorem opens_bool {t : TypeId} (ht : P.underlying t = some .bool) : Opens P t fun us => ∃ b, us = [.bool b] := by
  intro H enc W fuel cs x h
  obtain ⟨b, rfl, _⟩ := DataW.trod_bool ht h
  exact ⟨_, ⟨b, rfl⟩, by simp [LR, VR]⟩
theorem opens_int {t : TypeId} {k : IntKind} (ht : P.underlying t = some (.int k)) : Opens P t fun us => ∃ n, us = [.int k n] ∧ (Lit.int k n).wf = true := by
  intro H enc W fuel cs x h
  obtain ⟨n, rfl, _, hw⟩ := DataW.trod_int ht h
  exact ⟨_, ⟨n, rfl, hw⟩, by simp [LR, VR]⟩
theorem opens_str {t : TypeId} (ht : P.underlying t = some .string) : Opens P t fun us => ∃ s : List UInt8, us = [.str s] ∧ s.length ≤ maxLen := by
  intro H enc W fuel cs x h
  obtain ⟨s, rfl, _, hw⟩ := DataW.trod_string ht h
  refine ⟨_, ⟨s.data.toList, rfl, ?_⟩, by simp [LR, VR]⟩
  have : s.data.toList.length = s.size := by cases s; rfl
  omega
theorem cells?_get {W : World} {a : Addr} {n : Nat} {cs : List Value} (h : W.cells? 0 a n = some cs) : cs.length = n ∧ ∀ (i : Nat) (v : Value), cs[i]? = some v → W.cell? (a.add i) = some v := by
  unfold World.cells? at h
  rw [if_pos (Nat.zero_le _)] at h
  have hl : cs.length = n := by simpa using mapM_some_length h
  refine ⟨hl, fun i v hv => ?_⟩
  have hi : i < n := by rw [← hl]; exact (List.getElem?_eq_some_iff.1 hv).1
  have := mapM_some_get h i i (by simp [hi])
  rw [this, hv]
theorem flatten_at {α : Type} {z : Nat} (hz : z ≠ 0) : ∀ {l : List (List α)} {k : Nat} {y : α}, (∀ u ∈ l, u.length = z) → l.flatten[k]? = some y → ∃ x, l[k / z]? = some x ∧ x[k % z]? = some y
  | [], k, y, h, hk => by simp at hk
  | u :: l, k, y, h, hk => by
    have hu := h u (by simp)
    simp only [List.flatten_cons] at hk
    by_cases hlt : k < z
    · rw [List.getElem?_append_left (by omega)] at hk
      exact ⟨u, by simp [Nat.div_eq_of_lt hlt], by rw [Nat.mod_eq_of_lt hlt]; exact hk⟩
    · rw [List.getElem?_append_right (by omega), hu] at hk
      obtain ⟨x, h1, h2⟩ := flatten_at hz (fun v hv => h v (by simp [hv])) hk
      have e1 : k / z = (k - z) / z + 1 := by
        rw [← Nat.add_div_right _ (by omega), Nat.sub_add_cancel (by omega)]
      have e2 : k % z = (k - z) % z := by
        rw [← Nat.add_mod_right (k - z) z, Nat.sub_add_cancel (by omega)]
      exact ⟨x, by rw [e1]; simpa using h1, by rw [e2]; exact h2⟩
theorem addr_addadd (a : Addr) (h : a.spot = none) (i j : Nat) : (a.add i).add j = ⟨a.block, a.off + i + j, none⟩ := by
  obtain ⟨b, o, s⟩ := a
  simp only at h
  subst h
  unfold Addr.add
  split <;> split <;> simp_all
theorem opens_slice {t e : TypeId} {z : Nat} {Q : List AV → Prop} (ht : P.underlying t = some (.slice e)) (hz : P.cellsOf e = z) (hz0 : z ≠ 0) (he : Opens P e Q) :
    Opens P t fun us => ∃ l : List (List AV), (∀ u ∈ l, Q u ∧ u.length = z) ∧ us = [.rs l.length z l.flatten] ∧ l.length ≤ maxLen := by
  intro H enc W fuel cs x h
  rcases DataW.trod_slice ht h with ⟨rfl, _⟩ | ⟨a, len, cap, els, rest, n, _, rfl, _, _, hlc, hcm, hl, hel, hrest⟩
  · exact ⟨_, ⟨[], by simp, rfl, by simp⟩, by simp [LR, VR]⟩
  · rw [hz] at hel
    have each : ∀ i, i < len → ∃ (vs : List Value) (u : List AV), W.cells? 0 (a.add (i * z)) z = some vs ∧ Q u ∧ LR (snap0 W) noI u vs := by
      intro i hi
      have h1 := hel i hi
      have h2 : els[i]? = some els[i] := List.getElem?_eq_getElem (by omega)
      rw [h2] at h1
      simp only [Option.bind_eq_some_iff] at h1
      obtain ⟨vs, h3, h4⟩ := h1
      obtain ⟨u, h5, h6⟩ := he H enc W n vs _ h4
      exact ⟨vs, u, h3, h5, h6⟩
    have hex : ∃ (l : List (List AV)) (vss : List (List Value)), l.length = len ∧ vss.length = len ∧ ∀ i, i < len → ∃ vs u, l[i]? = some u ∧ vss[i]? = some vs ∧ W.cells? 0 (a.add (i * z)) z = some vs ∧ Q u ∧ LR (snap0 W) noI u vs := by
      clear hel hl h hlc hcm hrest
      induction len with
      | zero => exact ⟨[], [], rfl, rfl, fun i hi => by omega⟩
      | succ m ih =>
        obtain ⟨l, vss, h1, h2, h3⟩ := ih fun i hi => each i (by omega)
        obtain ⟨vs, u, g1, g2, g3⟩ := each m (by omega)
        refine ⟨l ++ [u], vss ++ [vs], by simp [h1], by simp [h2], fun i hi => ?_⟩
        by_cases e : i = m
        · subst e
          exact ⟨vs, u, by simp [← h1], by simp [← h2], g1, g2, g3⟩
        · obtain ⟨vs', u', k1, k2, k3⟩ := h3 i (by omega)
          exact ⟨vs', u', by rw [List.getElem?_append_left (by omega)]; exact k1, by rw [List.getElem?_append_left (by omega)]; exact k2, k3⟩
    obtain ⟨l, vss, h1, h2, h3⟩ := hex
    have hll : ∀ u ∈ l, Q u ∧ u.length = z := by
      intro u hu
      obtain ⟨i, hi, rfl⟩ := List.mem_iff_getElem.1 hu
      obtain ⟨vs, u', k1, k2, k3, k4, k5⟩ := h3 i (by omega)
      rw [List.getElem?_eq_getElem hi] at k1; simp at k1
      rw [k1]
      exact ⟨k4, by rw [← k5.length, (cells?_get k3).1]⟩
    refine ⟨_, ⟨l, hll, rfl, by omega⟩, ?_⟩
    simp only [LR]
    refine ⟨_, _, rfl, ?_, rfl⟩
    simp only [VR]
    have hfl : l.flatten.length = l.length * z := by
      clear h1 h3
      induction l with
      | nil => simp
      | cons u l ih => simp only [List.flatten_cons, List.length_append, List.length_cons, (hll u (by simp)).2, ih fun v hv => hll v (by simp [hv])]; rw [Nat.add_mul]; omega
    have hspot : len ≠ 0 → a.spot = none := by
      intro h0
      obtain ⟨vs, u, k1, k2, k3, k4, k5⟩ := h3 0 (by omega)
      obtain ⟨g1, g2⟩ := cells?_get k3
      have : W.cell? ((a.add (0 * z)).add 0) = some vs[0] := g2 0 _ (List.getElem?_eq_getElem (by omega))
      rw [Nat.zero_mul] at this
      simpa [Addr.add] using World.cell?_spot this
    refine .inr ⟨a, cap, by rw [h1], by omega, hfl, mr_of_get fun k u hu => ?_, fun h0 => hspot (by rw [← h1]; exact h0)⟩
    obtain ⟨x', g1, g2⟩ := flatten_at hz0 (fun u hu => (hll u hu).2) hu
    have hklt : k / z < len := by rw [← h1]; exact (List.getElem?_eq_some_iff.1 g1).1
    obtain ⟨vs, u', k1, k2, k3, k4, k5⟩ := h3 (k / z) hklt
    rw [g1] at k1; simp at k1; subst k1
    obtain ⟨v, e1, e2⟩ := k5.get g2
    refine ⟨v, ?_, e2⟩
    have hc := (cells?_get k3).2 _ _ e1
    rw [addr_addadd a (hspot (Nat.ne_of_gt (Nat.lt_of_le_of_lt (Nat.zero_le _) hklt)))] at hc
    have hk : a.off + k / z * z + k % z = a.off + k := by rw [Nat.add_assoc, Nat.mul_comm, Nat.div_add_mod]
    rw [hk] at hc
    unfold snap0
    have hlt : a.block < W.heap.size := by
      cases hq : W.heap[a.block]? with
      | none => unfold World.cell? at hc; simp only [hq] at hc; cases hc
      | some ob => exact (Array.getElem?_eq_some_iff.1 hq).1
    rw [if_pos (by exact hlt)]; exact hc
def FsQ : List (List AV → Prop) → List AV → Prop
  | [], us => us = []
  | Q :: Qs, us => ∃ u us', us = u ++ us' ∧ Q u ∧ FsQ Qs us'
def FsOpens (P : Program) : List Field → List (List AV → Prop) → Nat → Nat → Prop
  | [], [], off, tot => off = tot
  | f :: fs, Q :: Qs, off, tot => f.offset = off ∧ Opens P f.type Q ∧ FsOpens P fs Qs (off + P.cellsOf f.type) tot
  | _, _, _, _ => False
theorem opens_fs {H : Type} {enc : TypeId × Value → H} {W : World} {n tot : Nat} {cs : List Value} (hcs : cs.length = tot) : ∀ {fs : List Field} {Qs : List (List AV → Prop)} {xs : List (DataW H × List MemPlace)} {off : Nat}, FsOpens P fs Qs off tot → xs.length = fs.length → off ≤ tot →
    (∀ (i : Nat) (f : Field), fs[i]? = some f → DataW.trod enc P W 0 (fun _ => true) true n f.type ((cs.drop f.offset).take (P.cellsOf f.type)) = xs[i]?) → ∃ us, FsQ Qs us ∧ LR (snap0 W) noI us (cs.drop off)
  | [], [], xs, off, h, hl, ho, hx => by
    have : off = tot := h
    subst this
    exact ⟨[], rfl, by simp [LR, ← hcs]⟩
  | f :: fs, Q :: Qs, xs, off, h, hl, ho, hx => by
    obtain ⟨h1, h2, h3⟩ := h
    cases xs with
    | nil => simp at hl
    | cons x xs =>
      have h0 := hx 0 f rfl
      simp only [List.getElem?_cons_zero] at h0
      obtain ⟨u, q1, q2⟩ := h2 H enc W n _ _ h0
      have hle : ∀ (fs : List Field) (Qs : List (List AV → Prop)) (o : Nat), FsOpens P fs Qs o tot → o ≤ tot := by
        intro fs
        induction fs with
        | nil => intro Qs o h; cases Qs with | nil => exact Nat.le_of_eq h | cons _ _ => exact h.elim
        | cons g gs ih => intro Qs o h; cases Qs with | nil => exact h.elim | cons _ _ => have := ih _ _ h.2.2; omega
      obtain ⟨us, q3, q4⟩ := opens_fs hcs h3 (by simpa using hl) (hle _ _ _ h3) fun i g hg => by simpa using hx (i + 1) g (by simpa using hg)
      refine ⟨u ++ us, ⟨u, us, rfl, q1, q3⟩, ?_⟩
      rw [h1] at q2
      have := q2.append q4
      rwa [← List.drop_drop, List.take_append_drop] at this
  | [], _ :: _, xs, off, h, hl, ho, hx => h.elim
  | _ :: _, [], xs, off, h, hl, ho, hx => h.elim
theorem opens_struct {t : TypeId} {fs : Array Field} {Qs : List (List AV → Prop)} (ht : P.underlying t = some (.struct fs)) (h : FsOpens P fs.toList Qs 0 (P.cellsOf t)) : Opens P t (FsQ Qs) := by
  intro H enc W fuel cs x hx
  obtain ⟨xs, n, _, _, hl, hlen, hf⟩ := DataW.trod_struct ht hx
  obtain ⟨us, h1, h2⟩ := opens_fs hl h (by simpa using hlen) (Nat.zero_le _) fun i f hi => hf i f (by simpa using hi)
  exact ⟨us, h1, by simpa using h2⟩
end opens
end Go.Abs
end


section

set_option linter.unusedSimpArgs false
set_option linter.unusedVariables false
namespace Go.Abs
open Go.RowKit Go.ChangeShapes Go.WideShapes Go.ChangeAt
def OpensV (P : Program) (t : TypeId) (Q : AV → Prop) : Prop :=
  ∀ (H : Type) (enc : TypeId × Value → H) (W : World) (r : Reach) (b : Nat) (v : Value) (d : DataW H) (p : List MemPlace), Value.okWide P W r b t v → DataW.Trod enc P W 0 (fun _ => true) true t v d p → ∃ u, Q u ∧ VR (snap0 W) noI u v
section opens
variable {P : Program}
theorem lr_one {sn : Snap} {ι : IMap} {u : AV} {v : Value} (h : LR sn ι [u] [v]) : VR sn ι u v := by
  simp only [LR] at h
  obtain ⟨d, ds, e, h1, h2⟩ := h
  simp at e; obtain ⟨rfl, rfl⟩ := e
  exact h1
theorem opensV_int {t : TypeId} {k : IntKind} (ht : P.underlying t = some (.int k)) : OpensV P t fun u => ∃ n, u = .int k n ∧ (Lit.int k n).wf = true := by
  intro H enc W r b v d p hv ⟨fuel, h⟩
  obtain ⟨n, rfl⟩ := okWide_int ht hv
  obtain ⟨us, ⟨n', rfl, hw⟩, hl⟩ := opens_int ht H enc W fuel _ _ h
  exact ⟨_, ⟨n', rfl, hw⟩, lr_one (by simpa [Value.cells] using hl)⟩
theorem opensV_struct {t : TypeId} {fs : Array Field} {Qs : List (List AV → Prop)} (ht : P.underlying t = some (.struct fs)) (h : FsOpens P fs.toList Qs 0 (P.cellsOf t)) : OpensV P t fun u => ∃ us, u = .agg us ∧ FsQ Qs us := by
  intro H enc W r b v d p hv ⟨fuel, hx⟩
  obtain ⟨cs, rfl, _⟩ := okWide_struct ht hv
  obtain ⟨us, hq, hl⟩ := opens_struct ht h H enc W fuel _ _ hx
  exact ⟨_, ⟨us, rfl, hq⟩, vr_agg (by simpa [Value.cells] using hl)⟩
theorem opensV_mono {t : TypeId} {Q Q' : AV → Prop} (h : OpensV P t Q) (hq : ∀ u, Q u → Q' u) : OpensV P t Q' := fun H enc W r b v d p hv ht => let ⟨u, h1, h2⟩ := h H enc W r b v d p hv ht; ⟨u, hq _ h1, h2⟩
end opens
def OpensAll (P : Program) : List TypeId → List (AV → Prop) → Prop
  | [], [] => True
  | t :: ts, Q :: Qs => OpensV P t Q ∧ OpensAll P ts Qs
  | _, _ => False
def AllQ : List (AV → Prop) → List AV → Prop
  | [], [] => True
  | Q :: Qs, u :: us => Q u ∧ AllQ Qs us
  | _, _ => False
theorem allQ_nil {us : List AV} (h : AllQ [] us) : us = [] := by cases us with | nil => rfl | cons _ _ => exact h.elim
theorem allQ_cons {Q : AV → Prop} {Qs : List (AV → Prop)} {us : List AV} (h : AllQ (Q :: Qs) us) : ∃ u us', us = u :: us' ∧ Q u ∧ AllQ Qs us' := by
  cases us with
  | nil => exact h.elim
  | cons u us => exact ⟨u, us, rfl, h.1, h.2⟩
theorem open_args {P : Program} {H : Type} {enc : TypeId × Value → H} {W : World} {r : Reach} {b : Nat} : ∀ {ts : List TypeId} {Qs : List (AV → Prop)} {vs : List Value} {ds : List (DataW H)} {ps : List MemPlace}, OpensAll P ts Qs →
    (∀ (j : Nat) t v, ts[j]? = some t → vs[j]? = some v → Value.okWide P W r b t v) → DataW.TrodAll enc P W 0 (fun _ => true) true ts vs ds ps → ds.length = ts.length ∧ ∃ us, AllQ Qs us ∧ LR (snap0 W) noI us vs
  | [], [], [], [], ps, ho, hv, h => ⟨rfl, [], trivial, by simp [LR]⟩
  | t :: ts, Q :: Qs, v :: vs, d :: ds, ps, ho, hv, h => by
    obtain ⟨p, q, hp, hq, _⟩ := h
    obtain ⟨u, h1, h2⟩ := ho.1 H enc W r b v d p (hv 0 t v rfl rfl) hp
    obtain ⟨hl, us, h3, h4⟩ := open_args ho.2 (fun j t v ht hv' => hv (j + 1) t v (by simpa using ht) (by simpa using hv')) hq
    exact ⟨by simp [hl], u :: us, ⟨h1, h3⟩, by simp only [LR]; exact ⟨v, vs, rfl, h2, h4⟩⟩
  | [], _ :: _, _, _, _, ho, _, _ => ho.elim
  | _ :: _, [], _, _, _, ho, _, _ => ho.elim
  | [], [], [], _ :: _, _, _, _, h => h.elim
  | [], [], _ :: _, _, _, _, _, h => h.elim
  | _ :: _, _ :: _, [], _, _, _, _, h => h.elim
  | _ :: _, _ :: _, _ :: _, [], _, _, _, h => h.elim
theorem law_calls {P : Program} {gl : Glob} {f : Nat} {fn : Func} {s : ChangeSpec} {Qs : List (AV → Prop)} {tb : TypeId} (hP : Solid P) (hts : (fn.params.toList.all fun t => Nat.blt t P.types.size) = true) (ho : OpensAll P fn.params.toList Qs) (hlaw : ∀ us, AllQ Qs us → ValOK P gl f us (.bool true))
    (hvars : s.vars = []) (hfn : ∀ (H : Type) (ds : List (DataW H)), ds.length = fn.params.toList.length → (s.fn H ds).results = [.lit (.bool true)] ∧ (s.fn H ds).args = ds ∧ (s.fn H ds).vars = []) (hr : fn.resultTypes = #[tb]) (hb : P.underlying tb = some .bool)
    {H : Type} {enc : TypeId × Value → H} {W : World} {base : Nat} {args : Array Value} {ds gs : List (DataW H)} {before : List MemPlace} (hg : GlOK gl (snap0 W))
    (hval : ∀ (j : Nat) t v, fn.params[j]? = some t → args[j]? = some v → Value.okWide P W .any base t v) (hW : DataW.Whole enc P fn.params.toList s.vars false W args.toList ds gs before) :
    Calls P f args W fun e W' => ∃ v, e = .returned v ∧ s.post enc P fn false true false false W args v W' := by
  have hW' := hW
  obtain ⟨p, q, hA, hV, rfl, hfz, hnd⟩ := hW
  rw [hvars] at hV
  obtain ⟨rfl, rfl⟩ := trodVars_none hV
  obtain ⟨hl, us, hq, hlr⟩ := open_args ho (fun j t v ht hv => hval j t v (by simpa using ht) (by simpa using hv)) hA
  have hlt : ∀ x ∈ p ++ [], x.block < W.heap.size := fun x hx => hW'.lt x hx
  refine ((hlaw us hq) (snap0 W) W args.toList hg (R0 W) hlr).mono ?_
  rintro e W' ⟨v, rfl, hx, hv⟩
  cases hv.bool
  obtain ⟨h1, h2, h3⟩ := hfn H ds (by simpa using hl)
  refine ⟨_, rfl, post_below (pa := p) (pv := []) hW' (fun b sp hd => ?_) (fun sp hsp => ?_) (fun sp _ => by rw [hvars, List.append_nil, h3]; rfl) rfl (Stp.below (Stp.ext (R0 W) hx)) (ok_one hr rfl (okWide_bool_mk hb _))⟩
  · rw [List.append_nil, h1, hr]
    exact trodAll_cons_mk (shut_bool hb _) trodAll_mk0
  · rw [List.append_nil, h2]
    exact trodAll_keep hP hx (fun t ht => blt_lt (List.all_eq_true.1 hts t ht)) hA (fun x hx => hlt x (by simp [hx])) fun x hx => hsp x (by simp [hx])
end Go.Abs
end


section

set_option linter.unusedSimpArgs false
set_option linter.unusedVariables false
namespace Go.Abs
open Go.RowKit
theorem FgL.mk {t0 tm : Tr} {H : AHeap} {l : List (Nat × AV)} {H2 : AHeap} (m : List Nat) (h : subT t0 tm = true) (h1 : SlotsGe m tm l) (h2 : HpGe H m m H2 0) (h3 : nodupN (m.map (famOf H)) = true) : FgL t0 tm H l H2 := by
  unfold FgL FgLK; rw [h]; exact ⟨m, rfl, h1, h2, h3⟩
theorem FgLK.mk {k : Nat} {t0 tm : Tr} {H : AHeap} {l : List (Nat × AV)} {H2 : AHeap} (m : List Nat) (hk : pref k 0 m = true) (h : subT t0 tm = true) (h1 : SlotsGe m tm l) (h2 : HpGe H m m H2 0) (h3 : nodupN (m.map (famOf H)) = true) : FgLK k t0 tm H l H2 := by
  unfold FgLK; rw [h]; exact ⟨m, hk, h1, h2, h3⟩
theorem FgL.mk0 {t0 tm : Tr} {H : AHeap} {l : List (Nat × AV)} (h : subT t0 tm = true) (h1 : SlotsGe [] tm l) : FgL t0 tm H l [] := FgL.mk [] h h1 trivial rfl
theorem shlI {a b : Int} {K : Prop} (h : a ≤ b) (k : K) : a ≤ b ∧ K := ⟨h, k⟩
def Stp1 (P Q : Prop) : Prop := Q → P
theorem s1T {t : Bool} {A B : Prop} (h : t = true) : Stp1 ((t = true → A) ∧ (t = false → B)) A := condT h
theorem s1F {t : Bool} {A B : Prop} (h : t = false) : Stp1 ((t = true → A) ∧ (t = false → B)) B := condF h
theorem s1I {α : Type} {o : Option α} {r : α} {K : α → Prop} (h : o = some r) : Stp1 (∃ r, o = some r ∧ K r) (K r) := exI h
theorem s1R {u v : AV} {K : Prop} (h : u = v) : Stp1 (u = v ∧ K) K := eqR h
theorem s1W {α : Type} {x n : α} {K : α → Prop} (h : x = n) : Stp1 (∃ n, x = n ∧ K n) (K n) := exW h
theorem s1J {i : Int} {n : Nat} {K : Nat → Prop} (j : Nat) (h1 : i = (j : Int)) (h2 : j < n) : Stp1 (∃ j : Nat, (i = (j : Int) ∧ j < n) ∧ K j) (K j) := ixJ j h1 h2
theorem s1J' {i : Int} {n : Nat} {K : Nat → Prop} (j : Nat) (h1 : i = (j : Int)) (h2 : j ≤ n) : Stp1 (∃ j : Nat, (i = (j : Int) ∧ j ≤ n) ∧ K j) (K j) := ixJ' j h1 h2
theorem s1S {i : Int} {s : List UInt8} {K : Nat → UInt8 → Prop} (j : Nat) {b : UInt8} (h1 : i = (j : Int)) (h2 : s[j]? = some b) : Stp1 (∃ j : Nat, i = (j : Int) ∧ ∃ b, s[j]? = some b ∧ K j b) (K j b) := ixS j h1 h2
theorem s1L {a b : Int} {K : Prop} (h : a ≤ b) : Stp1 (a ≤ b ∧ K) K := shlI h
theorem stp {P Q : Prop} (q : Q) (h : Stp1 P Q := by
    first
    | (with_reducible refine s1T ?_; (focus (assumption))) | (with_reducible refine s1F ?_; (focus (assumption)))
    | (with_reducible refine s1T ?_; (focus (decide))) | (with_reducible refine s1F ?_; (focus (decide)))
    | (with_reducible refine s1T ?_; (focus ((first | assumption | decide | (simp; done) | (simp; omega)); done)))
    | (with_reducible refine s1F ?_; (focus ((first | assumption | decide | (simp; done) | (simp; omega)); done)))
    | with_reducible exact s1I rfl
    | with_reducible exact s1R rfl
    | (with_reducible refine s1W (wrapN1 ?_); (focus (omega))) | (with_reducible refine s1W (wrapN ?_); (focus (omega))) | (with_reducible refine s1W (wrapB ?_ ?_); (focus (omega)); (focus (omega)))
    | with_reducible exact s1W rfl
    | (with_reducible refine s1J _ rfl ?_; (focus ((first | decide | omega | (simp; done) | (simp; omega)); done)))
    | (with_reducible refine s1J' _ rfl ?_; (focus ((first | decide | omega | (simp; done) | (simp; omega)); done)))
    | (refine s1J (Int.toNat _) ?_ ?_; (focus ((first | rfl | decide | omega | (simp; done)); done)); (focus ((first | decide | omega | (simp; done) | (simp; omega)); done)))
    | (refine s1J' (Int.toNat _) ?_ ?_; (focus ((first | rfl | decide | omega | (simp; done)); done)); (focus ((first | decide | omega | (simp; done) | (simp; omega)); done)))
    | with_reducible exact s1S _ rfl (by assumption)
    | (with_reducible refine s1L ?_; (focus (first | decide | omega)))
    | (refine s1I (callZ rfl rfl (if_pos ?_)); (focus ((first | decide | omega | (simp; done) | (simp; omega)); done)))) : P := h q
end Go.Abs
end


section

set_option linter.unusedSimpArgs false
set_option linter.unusedVariables false
namespace Go.Abs
open Go.RowKit
def lone (f b : Nat) : Nat → AHeap → Bool
  | _, [] => true
  | i, o :: H => (Nat.beq i b || !Nat.beq o.fam f) && lone f b (i + 1) H
theorem lone_get {f b : Nat} : ∀ {H : AHeap} {i j : Nat} {o : AObj}, lone f b i H = true → H[j]? = some o → i + j = b ∨ o.fam ≠ f
  | [], i, j, o, h, e => by simp at e
  | x :: H, i, 0, o, h, e => by
    simp only [lone, Bool.and_eq_true, Bool.or_eq_true, Bool.not_eq_true'] at h
    simp at e; subst e
    rcases h.1 with h1 | h1
    · exact .inl (Nat.eq_of_beq_eq_true h1)
    · exact .inr fun e => by rw [e] at h1; simp at h1
  | x :: H, i, j + 1, o, h, e => by
    simp only [lone, Bool.and_eq_true] at h
    have := lone_get h.2 (by simpa using e)
    rcases this with h1 | h1
    · exact .inl (by omega)
    · exact .inr h1
theorem kil_id {q : Nat → AObj → Bool} : ∀ (H : AHeap) (i : Nat), (∀ j o, H[j]? = some o → q (i + j) o = false) → kil q i H = H
  | [], i, h => rfl
  | o :: H, i, h => by
    have h0 := h 0 o rfl
    simp only [Nat.add_zero] at h0
    simp only [kil, h0]
    rw [kil_id H (i + 1) fun j o' e => by have := h (j + 1) o' (by simpa using e); rw [← this]; congr 1; omega]
    simp
theorem wkil_lone {f b : Nat} {H : AHeap} {o : AObj} (hH : H[b]? = some o) (hl : lone f b 0 H = true) : wkil b f H = H := by
  refine kil_id H 0 fun j o e => ?_
  rcases lone_get hl e with h | h
  · simp only [Nat.zero_add] at h; subst h; simp
  · have : Nat.beq o.fam f = false := Bool.eq_false_iff.2 fun e => h (Nat.eq_of_beq_eq_true e)
    rw [this]; rfl
def appT (P : Program) (t t2 : TypeId) : Option (TypeId × Nat × Nat) :=
  match P.underlying t with
  | some (.slice e) => match P.info? e, tzero P e with
    | some i, some u => if apx P t2 && u.cells.length == i.size then some (e, i.size, i.bytes) else none
    | _, _ => none
  | _ => none
theorem appT_some {P : Program} {t t2 e : TypeId} {z by_ : Nat} (h : appT P t t2 = some (e, z, by_)) : P.underlying t = some (.slice e) ∧ ∃ i u, P.info? e = some i ∧ tzero P e = some u ∧ (apx P t2 && u.cells.length == i.size) = true ∧ i.size = z ∧ i.bytes = by_ := by
  unfold appT at h
  split at h <;> try (cases h; done)
  rename_i e' he
  split at h <;> try (cases h; done)
  rename_i i u hi hu
  split at h <;> cases h
  rename_i hc
  exact ⟨he, i, u, hi, hu, hc, rfl, rfl⟩
theorem ekil_le {f e : Nat} {H : AHeap} (h : ∀ o ∈ H, o.fam = f → o.sh + o.body.len ≤ e) : ekil f e H = H := by
  refine kil_id H 0 fun j o ho => ?_
  by_cases hf : o.fam = f
  · have := h o (List.mem_of_getElem? ho) hf
    simp [hf, this]
  · have : Nat.beq o.fam f = false := Bool.eq_false_iff.2 fun e => hf (Nat.eq_of_beq_eq_true e)
    rw [this]; rfl
theorem app_okG {P : Program} {t t2 e : TypeId} {z by_ : Nat} (hT : appT P t t2 = some (e, z, by_)) {H : AHeap} {x : AV} {b f len cap n : Nat} {cs xs : List AV} (hx : xcells H z x = some (n, xs)) (hH : H[b]? = some ⟨true, f, 0, .cells cs e⟩)
    (hk : ekil f cs.length H = H) (hc : cs.length = len * z) (ho : xs.all one = true) (hn : n ≠ 0) (hs : len + n ≤ 1099511627776 ∧ (len + n) * by_ ≤ 70368744177664) :
    aAppend P t t2 (.slice b 0 len cap z) x H = some (.slice H.length 0 (len + n) (len + n) z, H ++ [⟨true, f, 0, .cells (cs ++ xs) e⟩]) := by
  obtain ⟨h1, i, u, h2, h3, h4, rfl, rfl⟩ := appT_some hT
  have hcl : clen H b = cs.length := by unfold clen; rw [hH]
  simp only [aAppend, h1, h2, h3]
  rw [if_pos h4]
  simp only [hx]
  rw [if_neg hn, if_pos trivial, if_neg (by intro h; rw [hcl] at h; omega), if_pos hs]
  simp only [hH]
  rw [if_pos ⟨by omega, trivial, ho⟩]
  simp only [List.drop_zero, Nat.add_zero, Nat.zero_add, hk]
theorem app_zero {P : Program} {t t2 e : TypeId} {z by_ : Nat} (hT : appT P t t2 = some (e, z, by_)) {H : AHeap} {x : AV} {b off len cap : Nat} {xs : List AV} (hx : xcells H z x = some (0, xs)) :
    aAppend P t t2 (.slice b off len cap z) x H = some (.slice b off len cap z, H) := by
  obtain ⟨h1, i, u, h2, h3, h4, rfl, rfl⟩ := appT_some hT
  simp only [aAppend, h1, h2, h3]
  rw [if_pos h4]
  simp only [hx, if_true]
theorem tk_all : ∀ {cs : List AV} {n : Nat}, cs.length = n → tk n cs = some cs
  | [], 0, _ => rfl
  | c :: cs, n + 1, h => by simp only [tk, tk_all (cs := cs) (n := n) (by simpa using h)]
  | c :: cs, 0, h => by simp at h
  | [], n + 1, h => by simp at h
theorem app_nil {P : Program} {t t2 e : TypeId} {z by_ : Nat} (hT : appT P t t2 = some (e, z, by_)) {H : AHeap} {x : AV} {n : Nat} {xs : List AV} (hx : xcells H z x = some (n, xs)) (hn : n ≠ 0) (hs : n ≤ 1099511627776 ∧ n * by_ ≤ 70368744177664) :
    aAppend P t t2 .nslice x H = some (.slice H.length 0 n n z, newBlk H xs e) := by
  obtain ⟨h1, i, u, h2, h3, h4, rfl, rfl⟩ := appT_some hT
  simp only [aAppend, h1, h2, h3]
  rw [if_pos h4]
  simp only [hx]
  rw [if_neg hn, if_pos hs]
def lit : AV → Bool
  | .bool _ => true
  | .int _ _ => true
  | .str _ => true
  | _ => false
theorem frz_lit {H : AHeap} {n : Nat} : ∀ {u : AV}, lit u = true → frz H (n + 1) u = some u
  | .bool _, _ => rfl
  | .int _ _, _ => rfl
  | .str _, _ => rfl
theorem frzL_lit {H : AHeap} {n : Nat} : ∀ {cs : List AV}, cs.all lit = true → frzL (frz H (n + 1)) cs = some cs
  | [], _ => rfl
  | c :: cs, h => by
    simp only [List.all_cons, Bool.and_eq_true] at h
    simp only [frzL, frz_lit h.1, frzL_lit h.2]
theorem tk1_map {α : Type} (f : α → AV) (l : List α) (j : Nat) (h : j < l.length) {off : Nat} (e : off = j) : tk 1 ((l.map f).drop off) = some [f l[j]] := by
  subst e
  rw [List.drop_eq_getElem_cons (by simpa using h)]; simp [tk]
theorem frz_slice {H : AHeap} {n b f sh len cap z : Nat} {cs : List AV} {ty : TypeId} (hH : H[b]? = some ⟨true, f, sh, .cells cs ty⟩) (hc : cs.length = len * z) (hl : cs.all lit = true) : frz H (n + 2) (.slice b 0 len cap z) = some (.rs len z cs) := by
  cases len with
  | zero =>
    have : cs = [] := List.eq_nil_of_length_eq_zero (by omega)
    subst this; rfl
  | succ m =>
    have h2 : frzL (frz H (n + 1)) cs = some cs := frzL_lit hl
    unfold frz
    simp only [hH, List.drop_zero, tk_all hc]
    rw [h2]
section facts
open Classical
noncomputable def orcF (l : List (Nat × List AV × AV)) : Orc := orcV fun f args => (l.find? fun p => decide (p.1 = f ∧ p.2.1 = args)).map (·.2.2)
def Facts (P : Program) (gl : Glob) : List (Nat × List AV × AV) → Prop
  | [] => True
  | (f, args, r) :: l => refsL args [] = [] ∧ ValOK P gl f args r ∧ Facts P gl l
theorem Facts.mem {P : Program} {gl : Glob} : ∀ {l : List (Nat × List AV × AV)} {p}, Facts P gl l → p ∈ l → refsL p.2.1 [] = [] ∧ ValOK P gl p.1 p.2.1 p.2.2
  | (f, args, r) :: l, p, h, hm => by
    rcases List.mem_cons.1 hm with rfl | hm
    · exact ⟨h.1, h.2.1⟩
    · exact Facts.mem h.2.2 hm
theorem orcF_sound {P : Program} {gl : Glob} {l : List (Nat × List AV × AV)} (h : Facts P gl l) : OrcSound P gl (orcF l) := orcV_sound fun f args r e => by
  simp only [Option.map_eq_some_iff] at e
  obtain ⟨p, e1, rfl⟩ := e
  have hm := List.mem_of_find?_eq_some e1
  have hp := List.find?_some e1
  simp only [decide_eq_true_eq] at hp
  obtain ⟨rfl, rfl⟩ := hp
  exact h.mem hm
theorem callF {P : Program} {l : List (Nat × List AV × AV)} {H : AHeap} {g : Nat} {args : List AV} {r : AV} (h1 : hasBody P g = true) (h2 : l.find? (fun p => decide (p.1 = g ∧ p.2.1 = args)) = some (g, args, r)) : acall P (orcF l) H g args = some (r, H) := by
  simp only [acall, h1, if_true, orcF, orcV, h2, Option.map_some]
theorem findF_here {l : List (Nat × List AV × AV)} {g : Nat} {args : List AV} {r : AV} : ((g, args, r) :: l).find? (fun p => decide (p.1 = g ∧ p.2.1 = args)) = some (g, args, r) := by simp
end facts
end Go.Abs
end


section

set_option linter.unusedSimpArgs false
set_option linter.unusedVariables false
namespace Go.Abs
open Go.RowKit
def MemOK (P : Program) (gl : Glob) (f : Nat) (args : List AV) (H : AHeap) (r : AV) (H' : AHeap) : Prop :=
  ∀ (sn : Snap) (ι : IMap) (W : World) (cargs : List Value), GlOK gl sn → R sn ι H W → LR sn ι args cargs →
    CallsY P f cargs.toArray W fun e W' => ∃ v sn' ι', e = .returned v ∧ VR sn' ι' r v ∧ Stp sn ι H W sn' ι' H' W'
def evoB (k : Nat) : AHeap → AHeap → Bool
  | [], [] => true
  | o :: H, o' :: H' => Nat.beq o'.fam o.fam && (Nat.beq o'.sh o.sh && ((!o'.alive || o.alive) && (allLt k (refsB o'.body []) && evoB k H H')))
  | _, _ => false
theorem evoB_get {k : Nat} : ∀ {H H' : AHeap}, evoB k H H' = true → H'.length = H.length ∧ ∀ (b : Nat) (o o' : AObj), H[b]? = some o → H'[b]? = some o' → o'.fam = o.fam ∧ o'.sh = o.sh ∧ (o'.alive = true → o.alive = true) ∧ allLt k (refsB o'.body []) = true
  | [], [], h => ⟨rfl, fun b o o' e => by simp at e⟩
  | x :: H, y :: H', h => by
    simp only [evoB, Bool.and_eq_true] at h
    obtain ⟨h1, h2, h3, h4, h5⟩ := h
    obtain ⟨k1, k2⟩ := evoB_get h5
    refine ⟨by simp [k1], fun b o o' e e' => ?_⟩
    cases b with
    | zero =>
      simp at e e'; subst e; subst e'
      exact ⟨Nat.eq_of_beq_eq_true h1, Nat.eq_of_beq_eq_true h2, fun ha => by simpa [ha] using h3, h4⟩
    | succ b => exact k2 b o o' (by simpa using e) (by simpa using e')
  | [], _ :: _, h => by simp [evoB] at h
  | _ :: _, [], h => by simp [evoB] at h
theorem allLt_mem {k : Nat} : ∀ {l : List Nat}, allLt k l = true → ∀ b ∈ l, b < k
  | [], h, b, hb => by cases hb
  | n :: l, h, b, hb => by
    simp only [allLt, Bool.and_eq_true] at h
    rcases List.mem_cons.1 hb with rfl | hb
    · exact blt_lt h.1
    · exact allLt_mem h.2 b hb
def finM (P : Program) (l : List ResultVar) (k : Nat) (H0 : AHeap) (r : AV) (H1 : AHeap) (tm : Tr) (H : AHeap) : Prop :=
  onO (aress P tm H l) fun vs => resOf vs = r ∧ H.take k = H1 ∧ (allLt k (refs r []) && evoB k H0 H1) = true
theorem resOf_res {sn : Snap} {ι : IMap} {us : List AV} {vs : List Value} {fn : Func} (h4 : LR sn ι us vs) : VR sn ι (resOf us) (if h : vs.toArray.size = 1 then vs.toArray[0] else .tuple vs.toArray) := by
  match us, h4 with
  | [], h4 => simp only [LR] at h4; subst h4; simp [resOf, VR, LR]
  | [u], h4 =>
    simp only [LR] at h4
    obtain ⟨d, ds, rfl, hd, rfl⟩ := h4
    simpa [resOf] using hd
  | u :: u' :: l, h4 =>
    have hl := h4.length
    simp only [List.length_cons] at hl
    have : vs.toArray.size ≠ 1 := by simp [hl]
    rw [dif_neg this]
    simp only [resOf, VR]
    exact ⟨_, rfl, h4⟩
theorem stp_of_stq {sn sn1 : Snap} {ι ι1 : IMap} {H0 H H1 : AHeap} {W W1 : World} {k : Nat} (hk : H0.length = k) (hR : R sn ι H0 W) (s1 : Stq k sn ι H0 W sn1 ι1 H W1) (h3 : H.take k = H1) (h5 : evoB k H0 H1 = true) :
    ∃ ι', Stp sn ι H0 W sn1 ι' H1 W1 ∧ ∀ u v, allLt k (refs u []) = true → VR sn1 ι1 u v → VR sn1 ι' u v := by
  obtain ⟨e1, e2⟩ := evoB_get h5
  have hpl : ∀ b, b < k → ∃ p, ι b = some p ∧ ι1 b = some p := fun b hb => by
    obtain ⟨p, hp⟩ := (hR.dom b).1 (by omega)
    exact ⟨p, hp, s1.keep b p hb hp⟩
  let ι' : IMap := fun b => if b < k then ι1 b else none
  have hi : ∀ b, b < k → ∀ p, ι1 b = some p → ι' b = some p := fun b hb p hp => by show (if b < k then ι1 b else none) = some p; rw [if_pos hb]; exact hp
  have hi2 : ∀ b p, ι' b = some p → b < k ∧ ι1 b = some p := fun b p hp => by
    have hp : (if b < k then ι1 b else none) = some p := hp
    split at hp
    · exact ⟨by assumption, hp⟩
    · cases hp
  have hH : ∀ (b : Nat) (o : AObj), H1[b]? = some o → b < k ∧ H[b]? = some o := fun b o hb => by
    have hb' : b < H1.length := (List.getElem?_eq_some_iff.1 hb).1
    rw [e1, hk] at hb'
    rw [← h3, List.getElem?_take_of_lt hb'] at hb
    exact ⟨hb', hb⟩
  have hR1 : R sn1 ι' H1 W1 := by
    refine ⟨fun b => ⟨fun hb => ?_, fun ⟨p, hp⟩ => ?_⟩, fun b p hp => s1.rel.blk b p (hi2 b p hp).2, fun b o p hb hal hp => ?_, fun b b' o o' p p' hb hb' hp hp' e => ?_, fun ad v hv => ?_, fun b o p hb hp e => ?_⟩
    · rw [e1, hk] at hb
      obtain ⟨p, _, hp⟩ := hpl b hb
      exact ⟨p, hi b hb p hp⟩
    · rw [e1, hk]; exact (hi2 b p hp).1
    · obtain ⟨hb1, hb2⟩ := hH b o hb
      obtain ⟨_, hp⟩ := hi2 b p hp
      have h0 : b < H0.length := by omega
      have h6 := (e2 b _ o (List.getElem?_eq_getElem h0) hb).2.2.2
      exact OR_refs o.body p (fun x hx q hq => hi x (allLt_mem h6 x hx) q hq) (s1.rel.obj b o p hb2 hal hp)
    · obtain ⟨_, hb2⟩ := hH b o hb
      obtain ⟨_, hb2'⟩ := hH b' o' hb'
      exact s1.rel.sep b b' o o' p p' hb2 hb2' (hi2 _ _ hp).2 (hi2 _ _ hp').2 e
    · obtain ⟨g1, g2, g3⟩ := s1.rel.snap ad v hv
      refine ⟨g1, g2, fun b o p hb hal hp => ?_⟩
      obtain ⟨_, hb2⟩ := hH b o hb
      exact g3 b o p hb2 hal (hi2 _ _ hp).2
    · obtain ⟨_, hb2⟩ := hH b o hb
      exact s1.rel.shz b o p hb2 (hi2 _ _ hp).2 e
  refine ⟨ι', ⟨hR1, ⟨s1.le, fun b p hb => ?_⟩, fun b p hp => .inl ?_, s1.frame, s1.size, s1.os, s1.tape, s1.output, s1.sfresh, fun b o hb => ?_⟩, fun u v hu hv => ?_⟩
  · have hbk : b < k := by have := (hR.dom b).2 ⟨p, hb⟩; omega
    exact hi b hbk p (s1.keep b p hbk hb)
  · obtain ⟨hbk, hp1⟩ := hi2 b p hp
    obtain ⟨q, hq, hq1⟩ := hpl b hbk
    rw [hq1] at hp1; cases hp1; exact hq
  · have hb0 := (List.getElem?_eq_some_iff.1 hb).1
    have hb1 : b < H1.length := by omega
    obtain ⟨g1, g2, g3, _⟩ := e2 b o _ hb (List.getElem?_eq_getElem hb1)
    exact ⟨_, List.getElem?_eq_getElem hb1, g1, g2, g3⟩
  · exact VR_refs (ι := ι1) u [] _ (fun x hx q hq => hi x (allLt_mem hu x hx) q hq) hv
theorem fn_memR {rf : AV → Array Tmp → Code → Code → KN → KX → KN → Tr → AHeap → Prop} {P : Program} {gl : Glob} {orc : Orc} {k : Nat} (hrf : RFok P gl none k rf) (hm : P.follows .mixedOrders = true) (hn : NoNum P) (hO : OrcSound P gl orc) {f : Nat} {fn : Func} {c : Code} {args : List AV} {H0 H1 : AHeap} {r : AV} (hk : H0.length = k)
    (hf : P.funcs[f]? = some fn) (hc : fn.body = some c) {cw : CW} (hcw : CWok P orc cw)
    (h : frcTr (tmk (tini args fn.ntmps args.length) (tdep 20 fn.ntmps)) fun tm => wexec P gl orc cw ⟨loopK k, rf⟩ c (finM P fn.results.toList k H0 r H1) (fun _ _ _ => False) (finM P fn.results.toList k H0 r H1) tm H0) : MemOK P gl f args H0 r H1 := by
  intro sn ι W cargs hg hR ha
  rw [frcTr_eq] at h
  refine .inl (calls_of_tri hf hc (wexec_okR (rd := none) hrf hm hn hO hcw c h) hg hR ha (fun _ _ _ h => h) fun x tm1 H a1 W1 sn1 ι1 hx s1 t1 => ?_)
  have key : finM P fn.results.toList k H0 r H1 tm1 H → ∃ v, (results fn a1.tmps).run P W1 = .ok v W1 ∧ ∃ sn' ι', VR sn' ι' r v ∧ Stp sn ι H0 W sn' ι' H1 W1 := by
    intro h
    obtain ⟨us, h1, h2, h3, h4⟩ := onO_some h
    simp only [Bool.and_eq_true] at h4
    obtain ⟨h4, h5⟩ := h4
    obtain ⟨vs, k1, k2⟩ := aress_sound s1.rel t1 _ _ h1
    obtain ⟨ι', g1, g2⟩ := stp_of_stq hk hR s1 h3 h5
    refine ⟨_, results_list k2, sn1, ι', ?_, g1⟩
    rw [← h2] at h4 ⊢
    exact g2 _ _ h4 (resOf_res (fn := fn) k1)
  cases x with
  | normal =>
    obtain ⟨v, k1, sn', ι', k2, k3⟩ := key hx
    exact ⟨v, k1, v, sn', ι', rfl, k2, k3⟩
  | exit id => exact hx.elim
  | ret =>
    obtain ⟨v, k1, sn', ι', k2, k3⟩ := key hx
    exact ⟨v, k1, v, sn', ι', rfl, k2, k3⟩
theorem fn_mem {P : Program} {gl : Glob} {orc : Orc} (hm : P.follows .mixedOrders = true) (hn : NoNum P) (hO : OrcSound P gl orc) {f k : Nat} {fn : Func} {c : Code} {args : List AV} {H0 H1 : AHeap} {r : AV} (hk : H0.length = k)
    (hf : P.funcs[f]? = some fn) (hc : fn.body = some c) {cw : CW} (hcw : CWok P orc cw)
    (h : frcTr (tmk (tini args fn.ntmps args.length) (tdep 20 fn.ntmps)) fun tm => wexec P gl orc cw (wloopK k) c (finM P fn.results.toList k H0 r H1) (fun _ _ _ => False) (finM P fn.results.toList k H0 r H1) tm H0) : MemOK P gl f args H0 r H1 :=
  fn_memR (fun _ _ _ _ _ _ _ _ _ _ _ h => h.elim) hm hn hO hk hf hc hcw h
section orcI
open Classical
noncomputable def orcI {I : Type} (G : I → Prop) (fF : I → Nat) (fA : I → List AV) (fH : I → AHeap) (fR : I → AV) (fO : I → AHeap) : Orc := fun f args H =>
  if h : ∃ i, G i ∧ fF i = f ∧ fA i = args ∧ fH i = H then some (fR (Classical.choose h), fO (Classical.choose h)) else none
theorem orcI_sound {P : Program} {gl : Glob} {I : Type} {G : I → Prop} {fF : I → Nat} {fA : I → List AV} {fH : I → AHeap} {fR : I → AV} {fO : I → AHeap} (h : ∀ i, G i → MemOK P gl (fF i) (fA i) (fH i) (fR i) (fO i)) : OrcSound P gl (orcI G fF fA fH fR fO) := by
  intro f args H r H' e
  unfold orcI at e
  split at e
  · rename_i hx
    simp only [Option.some.injEq, Prod.mk.injEq] at e
    obtain ⟨rfl, rfl⟩ := e
    obtain ⟨g1, e1, e2, e3⟩ := Classical.choose_spec hx
    have := h _ g1
    rw [e1, e2, e3] at this; exact this
  · cases e
theorem callI {P : Program} {I : Type} {G : I → Prop} {fF : I → Nat} {fA : I → List AV} {fH : I → AHeap} {fR : I → AV} {fO : I → AHeap} (hinj : ∀ i j, G i → G j → fF i = fF j → fA i = fA j → fH i = fH j → fR i = fR j ∧ fO i = fO j) {g : Nat} {args : List AV} {H : AHeap} (hb : hasBody P g = true) (i : I) (hi : G i) (h1 : fF i = g) (h2 : fA i = args) (h3 : fH i = H) :
    acall P (orcI G fF fA fH fR fO) H g args = some (fR i, fO i) := by
  have hx : ∃ i, G i ∧ fF i = g ∧ fA i = args ∧ fH i = H := ⟨i, hi, h1, h2, h3⟩
  unfold acall
  rw [if_pos hb]
  unfold orcI
  rw [dif_pos hx]
  obtain ⟨g1, g2, g3, g4⟩ := Classical.choose_spec hx
  obtain ⟨e1, e2⟩ := hinj _ i g1 hi (g2.trans h1.symm) (g3.trans h2.symm) (g4.trans h3.symm)
  rw [e1, e2]
end orcI
end Go.Abs
end


section

set_option linter.unusedSimpArgs false
set_option linter.unusedVariables false
namespace Go.Abs
open Go.RowKit
mutual
def noRO : AV → Bool
  | .rp _ => false
  | .rs _ _ _ => false
  | .func _ f c => noROL f && noROL c
  | .iface _ v => noRO v
  | .agg cs => noROL cs
  | .tuple cs => noROL cs
  | .bool _ => true
  | .int _ _ => true
  | .str _ => true
  | .nptr => true
  | .ptr _ _ => true
  | .nslice => true
  | .slice _ _ _ _ _ => true
  | .nmap => true
  | .map _ => true
  | .nfunc => true
  | .niface => true
def noROL : List AV → Bool
  | [] => true
  | c :: l => noRO c && noROL l
end
def noROE : List (AV × AV × Nat) → Bool
  | [] => true
  | (k, v, _) :: l => noRO k && (noRO v && noROE l)
def noROT : List (Nat × AV) → Bool
  | [] => true
  | x :: l => noRO x.2 && noROT l
def noROB : ABody → Bool
  | .cells cs _ => noROL cs
  | .map es _ => noROE es
  | .siter _ _ => true
  | .loop _ ts => noROT ts
def noROH : AHeap → Bool
  | [] => true
  | o :: l => noROB o.body && noROH l
mutual
theorem VR_snap {sn sn' : Snap} {ι : IMap} : ∀ (u : AV) (v : Value), noRO u = true → VR sn ι u v → VR sn' ι u v
  | .rp _, v, h, e => by simp [noRO] at h
  | .rs _ _ _, v, h, e => by simp [noRO] at h
  | .func fn f c, v, h, e => by
    simp only [noRO, Bool.and_eq_true] at h
    simp only [VR] at *; obtain ⟨x, y, h1, h2, h3⟩ := e
    exact ⟨x, y, h1, LR_snap f _ h.1 h2, LR_snap c _ h.2 h3⟩
  | .iface t u, v, h, e => by
    simp only [noRO] at h
    simp only [VR] at *; obtain ⟨x, h1, h2⟩ := e
    exact ⟨x, h1, VR_snap u _ h h2⟩
  | .agg cs, v, h, e => by
    simp only [noRO] at h
    simp only [VR] at *; obtain ⟨x, h1, h2⟩ := e
    exact ⟨x, h1, LR_snap cs _ h h2⟩
  | .tuple cs, v, h, e => by
    simp only [noRO] at h
    simp only [VR] at *; obtain ⟨x, h1, h2⟩ := e
    exact ⟨x, h1, LR_snap cs _ h h2⟩
  | .bool _, v, h, e => by simpa [VR] using e
  | .int _ _, v, h, e => by simpa [VR] using e
  | .str _, v, h, e => by simpa [VR] using e
  | .nptr, v, h, e => by simpa [VR] using e
  | .ptr _ _, v, h, e => by simpa [VR] using e
  | .nslice, v, h, e => by simpa [VR] using e
  | .slice _ _ _ _ _, v, h, e => by simpa [VR] using e
  | .nmap, v, h, e => by simpa [VR] using e
  | .map _, v, h, e => by simpa [VR] using e
  | .nfunc, v, h, e => by simpa [VR] using e
  | .niface, v, h, e => by simpa [VR] using e
theorem LR_snap {sn sn' : Snap} {ι : IMap} : ∀ (us : List AV) (vs : List Value), noROL us = true → LR sn ι us vs → LR sn' ι us vs
  | [], vs, h, e => by simpa [LR] using e
  | u :: us, vs, h, e => by
    simp only [noROL, Bool.and_eq_true] at h
    simp only [LR] at *; obtain ⟨d, ds, h1, h2, h3⟩ := e
    exact ⟨d, ds, h1, VR_snap u _ h.1 h2, LR_snap us _ h.2 h3⟩
end
theorem ER_snap {sn sn' : Snap} {ι : IMap} : ∀ (es : List (AV × AV × Nat)) (l : List MapEntry), noROE es = true → ER sn ι es l → ER sn' ι es l
  | [], l, h, e => by simpa [ER] using e
  | (k, v, n) :: es, l, h, e => by
    simp only [noROE, Bool.and_eq_true] at h
    simp only [ER] at *
    obtain ⟨x, l', h1, h2, h3, h4, h5⟩ := e
    exact ⟨x, l', h1, VR_snap k _ h.1 h2, VR_snap v _ h.2.1 h3, h4, ER_snap es _ h.2.2 h5⟩
theorem TSR_snap {sn sn' : Snap} {ι : IMap} {a : Array Value} : ∀ (ts : List (Nat × AV)), noROT ts = true → TSR sn ι ts a → TSR sn' ι ts a
  | [], h, e => trivial
  | x :: l, h, ⟨⟨v, h1, h2⟩, h3⟩ => by
    simp only [noROT, Bool.and_eq_true] at h
    exact ⟨⟨v, h1, VR_snap x.2 v h.1 h2⟩, TSR_snap l h.2 h3⟩
theorem OR_snap {sn sn' : Snap} {ι : IMap} {W : World} {p : Place} : ∀ (b : ABody), noROB b = true → OR sn ι W b p → OR sn' ι W b p
  | .cells cs ty, h, e => by
    simp only [OR] at e ⊢
    obtain ⟨arr, h1, h2, h3, h4⟩ := e
    refine ⟨arr, h1, h2, h3, fun i c hc => ?_⟩
    obtain ⟨v, k1, k2⟩ := h4 i c hc
    have hn : ∀ (l : List AV) (i : Nat), noROL l = true → l[i]? = some c → noRO c = true := by
      intro l
      induction l with
      | nil => intro i h hc; simp at hc
      | cons x l ih =>
        intro i h hc
        simp only [noROL, Bool.and_eq_true] at h
        cases i with
        | zero => simp at hc; subst hc; exact h.1
        | succ i => exact ih i h.2 (by simpa using hc)
    exact ⟨v, k1, VR_snap c v (hn cs i h hc) k2⟩
  | .map es c, h, e => by
    simp only [OR] at e ⊢
    obtain ⟨mes, h1, h2⟩ := e
    exact ⟨mes, h1, ER_snap es _ h h2⟩
  | .siter s q, h, e => by simpa only [OR] using e
  | .loop g ts, h, e => by
    simp only [OR] at e ⊢
    obtain ⟨r, h1, h2, h3, h4⟩ := e
    exact ⟨r, h1, h2, h3, TSR_snap ts h h4⟩
def renE (f : Nat → Nat) : List (AV × AV × Nat) → List (AV × AV × Nat)
  | [] => []
  | (k, v, n) :: l => (ren f k, ren f v, n) :: renE f l
def renT (f : Nat → Nat) : List (Nat × AV) → List (Nat × AV)
  | [] => []
  | x :: l => (x.1, ren f x.2) :: renT f l
def renB (f : Nat → Nat) : ABody → ABody
  | .cells cs ty => .cells (renL f cs) ty
  | .map es c => .map (renE f es) c
  | .siter s p => .siter s p
  | .loop g ts => .loop g (renT f ts)
theorem renL_get (f : Nat → Nat) : ∀ (l : List AV) (i : Nat), (renL f l)[i]? = (l[i]?).map (ren f)
  | [], i => by simp [renL]
  | c :: l, 0 => by simp [renL]
  | c :: l, i + 1 => by simpa [renL] using renL_get f l i
theorem renL_len (f : Nat → Nat) : ∀ (l : List AV), (renL f l).length = l.length
  | [] => rfl
  | c :: l => by simp [renL, renL_len f l]
theorem ER_ren {sn : Snap} {ι : IMap} {f : Nat → Nat} : ∀ (es : List (AV × AV × Nat)) (l : List MapEntry), ER sn (fun b => ι (f b)) es l → ER sn ι (renE f es) l
  | [], l, e => by simpa [ER, renE] using e
  | (k, v, n) :: es, l, e => by
    simp only [ER, renE] at *
    obtain ⟨x, l', h1, h2, h3, h4, h5⟩ := e
    exact ⟨x, l', h1, (VR_ren k _).2 h2, (VR_ren v _).2 h3, h4, ER_ren es _ h5⟩
theorem TSR_ren {sn : Snap} {ι : IMap} {f : Nat → Nat} {a : Array Value} : ∀ (ts : List (Nat × AV)), TSR sn (fun b => ι (f b)) ts a → TSR sn ι (renT f ts) a
  | [], e => trivial
  | x :: l, ⟨⟨v, h1, h2⟩, h3⟩ => ⟨⟨v, h1, (VR_ren x.2 _).2 h2⟩, TSR_ren l h3⟩
theorem OR_ren {sn : Snap} {ι : IMap} {f : Nat → Nat} {W : World} {p : Place} : ∀ (b : ABody), OR sn (fun b => ι (f b)) W b p → OR sn ι W (renB f b) p
  | .cells cs ty, e => by
    simp only [OR, renB] at *
    obtain ⟨arr, h1, h2, h3, h4⟩ := e
    refine ⟨arr, h1, h2, by rw [renL_len]; exact h3, fun i c hc => ?_⟩
    rw [renL_get] at hc
    cases hx : cs[i]? with
    | none => rw [hx] at hc; cases hc
    | some x =>
      rw [hx] at hc; simp at hc; subst hc
      obtain ⟨v, k1, k2⟩ := h4 i x hx
      exact ⟨v, k1, (VR_ren x _).2 k2⟩
  | .map es c, e => by
    simp only [OR, renB] at *
    obtain ⟨mes, h1, h2⟩ := e
    exact ⟨mes, h1, ER_ren es _ h2⟩
  | .siter s q, e => by simpa only [OR, renB] using e
  | .loop g ts, e => by
    simp only [OR, renB] at *
    obtain ⟨r, h1, h2, h3, h4⟩ := e
    exact ⟨r, h1, h2, h3, TSR_ren ts h4⟩
def posN : List Nat → Nat → Nat → Option Nat
  | [], _, _ => none
  | j :: l, b, i => if Nat.beq j b then some i else posN l b (i + 1)
theorem posN_some : ∀ {m : List Nat} {b i j : Nat}, posN m b i = some j → i ≤ j ∧ m[j - i]? = some b
  | [], b, i, j, h => by simp [posN] at h
  | x :: m, b, i, j, h => by
    simp only [posN] at h
    split at h
    · rename_i e
      cases h
      exact ⟨Nat.le_refl _, by simp [Nat.eq_of_beq_eq_true e]⟩
    · obtain ⟨h1, h2⟩ := posN_some h
      refine ⟨by omega, ?_⟩
      rw [show j - i = (j - (i + 1)) + 1 by omega]; simpa using h2
theorem posN_none : ∀ {m : List Nat} {b i : Nat}, posN m b i = none → b ∉ m
  | [], b, i, h => by simp
  | x :: m, b, i, h => by
    simp only [posN] at h
    split at h
    · cases h
    · rename_i e
      intro hm
      rcases List.mem_cons.1 hm with rfl | hm
      · exact e (by simp)
      · exact posN_none h hm
def frzM (m : List Nat) (Hk : AHeap) : Nat → AV → Option AV
  | 0, _ => none
  | n + 1, u => match u with
    | .ptr b off => match posN m b 0 with | some i => some (.ptr i off) | none => frz Hk 30 (.ptr b off)
    | .slice b off len cap z => match posN m b 0 with | some i => some (.slice i off len cap z) | none => frz Hk 30 (.slice b off len cap z)
    | .map b => match posN m b 0 with | some i => some (.map i) | none => none
    | .func fn f c => match frzL (frzM m Hk n) f, frzL (frzM m Hk n) c with | some f, some c => some (.func fn f c) | _, _ => none
    | u => frz Hk 30 u
def loneM (m fs : List Nat) : Nat → AHeap → Bool
  | _, [] => true
  | i, o :: H => (mem i m || !mem o.fam fs) && loneM m fs (i + 1) H
theorem loneM_get {m fs : List Nat} : ∀ {H : AHeap} {i j : Nat} {o : AObj}, loneM m fs i H = true → H[j]? = some o → i + j ∈ m ∨ o.fam ∉ fs
  | [], i, j, o, h, e => by simp at e
  | x :: H, i, 0, o, h, e => by
    simp only [loneM, Bool.and_eq_true, Bool.or_eq_true, Bool.not_eq_true'] at h
    simp at e; subst e
    rcases h.1 with h1 | h1
    · exact .inl (mem_iff.1 h1)
    · exact .inr fun e => by rw [mem_iff.2 e] at h1; cases h1
  | x :: H, i, j + 1, o, h, e => by
    simp only [loneM, Bool.and_eq_true] at h
    have := loneM_get h.2 (by simpa using e)
    rcases this with h1 | h1
    · exact .inl (by rw [show i + (j + 1) = i + 1 + j by omega]; exact h1)
    · exact .inr h1
def updM (m : List Nat) (Hs : AHeap) : Nat → AHeap → AHeap
  | _, [] => []
  | i, o :: H => (match posN m i 0 with
    | some j => match Hs[j]? with
      | some o' => { o with alive := o'.alive, body := renB (fun b => m.getD b 0) o'.body }
      | none => o
    | none => o) :: updM m Hs (i + 1) H
end Go.Abs
end


section

set_option linter.unusedSimpArgs false
set_option linter.unusedVariables false
namespace Go.Abs
open Go.RowKit
theorem frz_sound2 {sn sn2 : Snap} {ι : IMap} {H : AHeap} {W : World} (hobj : ∀ (b : Nat) (o : AObj) p, H[b]? = some o → o.alive = true → ι b = some p → OR sn ι W o.body p) (hle : Le sn sn2 noI noI)
    (hcell : ∀ (b : Nat) (o : AObj) p, H[b]? = some o → o.alive = true → ι b = some p → ∀ (off : Nat) (v : Value), W.cell? ⟨p.blk, off, none⟩ = some v → sn2 ⟨p.blk, off, none⟩ = some v) :
    ∀ (n : Nat) (u r : AV) (v : Value), frz H n u = some r → VR sn ι u v → VR sn2 noI r v := by
  intro n
  induction n with
  | zero => intro u r v h; simp [frz] at h
  | succ n ih =>
    have cells : ∀ {b : Nat} {o : AObj} {p : Place} {cs l : List AV} {ty : TypeId} {off : Nat}, H[b]? = some o → o.alive = true → o.body = .cells cs ty → ι b = some p → frzL (frz H n) (cs.drop off) = some l → MR sn2 l p.blk (p.sh + off) := by
      intro b o p cs l ty off ho ha hb hp hl
      obtain ⟨_, h2⟩ := frzL_get hl
      have hor := hobj b o p ho ha hp
      rw [hb] at hor
      simp only [OR] at hor
      obtain ⟨arr, k1, k2, k3, k4⟩ := hor
      refine mr_of_get fun i x hx => ?_
      obtain ⟨c, hc, hcx⟩ := h2 i x hx
      rw [List.getElem?_drop] at hc
      obtain ⟨v, e1, e2⟩ := k4 (off + i) c hc
      refine ⟨v, ?_, ih c x v hcx e2⟩
      refine hcell b o p ho ha hp _ _ ?_
      rw [cell_of_heap k1]
      rw [← e1]; congr 1; omega
    intro u r v h hv
    unfold frz at h
    split at h
    · rename_i b off
      split at h <;> try (simp at h; done)
      rename_i o ho
      split at h <;> try (simp at h; done)
      rename_i cs ty ha hb
      split at h <;> simp at h
      rename_i l hl
      subst h
      obtain ⟨p, hp, rfl⟩ := hv.ptr
      simp only [VR]
      exact ⟨_, _, rfl, cells ho ha hb hp hl⟩
    · rename_i b off len cap z
      obtain ⟨p, a, cap', hp, rfl, h1, h2, h3⟩ := hv.slice
      split at h
      · simp at h; subst h
        simp only [VR]
        exact .inr ⟨a, cap', rfl, by omega, by simp, by simp [MR], fun h => absurd rfl h⟩
      · rename_i len
        split at h <;> try (simp at h; done)
        rename_i o ho
        split at h <;> try (simp at h; done)
        rename_i cs ty ha hb
        split at h <;> try (simp at h; done)
        rename_i cs' hcs
        split at h <;> simp at h
        rename_i l hl
        subst h
        obtain ⟨ha', _⟩ := h3 (by omega)
        subst ha'
        obtain ⟨e1, rfl⟩ := tk_some hcs
        obtain ⟨f1, f2⟩ := frzL_get hl
        simp only [VR]
        refine .inr ⟨_, cap', rfl, by omega, ?_, ?_, fun _ => rfl⟩
        · rw [f1, List.length_take]; exact Nat.min_eq_left e1
        · have hor := hobj b o p ho ha hp
          rw [hb] at hor
          simp only [OR] at hor
          obtain ⟨arr, k1, k2, k3, k4⟩ := hor
          refine mr_of_get fun i x hx => ?_
          obtain ⟨c, hc, hcx⟩ := f2 i x hx
          rw [List.getElem?_take] at hc
          split at hc <;> try (simp at hc; done)
          rw [List.getElem?_drop] at hc
          obtain ⟨v, g1, g2⟩ := k4 (off + i) c hc
          refine ⟨v, ?_, ih c x v hcx g2⟩
          refine hcell b o p ho ha hp _ _ ?_
          rw [cell_of_heap k1]
          rw [← g1]; congr 1; simp only; omega
    · split at h <;> simp at h
      rename_i l hl; subst h
      obtain ⟨d, rfl, h1⟩ := hv.agg
      exact vr_agg (frzL_sound ih hl h1)
    · split at h <;> simp at h
      rename_i l hl; subst h
      obtain ⟨d, rfl, h1⟩ := hv.tuple
      exact vr_tuple (frzL_sound ih hl h1)
    · split at h <;> simp at h
      rename_i x hx; subst h
      obtain ⟨y, rfl, h1⟩ := hv.iface
      simp only [VR]; exact ⟨y, rfl, ih _ _ _ hx h1⟩
    · split at h <;> simp at h
      rename_i f c hf hc; subst h
      obtain ⟨x, y, rfl, h1, h2⟩ := hv.func
      simp only [VR]; exact ⟨x, y, rfl, frzL_sound ih hf h1, frzL_sound ih hc h2⟩
    · simp at h
    · rename_i e1 e2 e3 e4 e5 e6 e7
      simp at h; subst h
      cases u with
      | ptr b o => exact (e1 _ _ rfl).elim
      | slice b o l c z => exact (e2 _ _ _ _ _ rfl).elim
      | agg cs => exact (e3 _ rfl).elim
      | tuple cs => exact (e4 _ rfl).elim
      | iface t v => exact (e5 _ _ rfl).elim
      | func fn f c => exact (e6 _ _ _ rfl).elim
      | map b => exact (e7 _ rfl).elim
      | _ => exact VR_mono (ι := noI) hle _ _ (VR_refs (ι := ι) _ [] _ (fun b hb => by simp [refs] at hb) hv)
theorem sub_R {m : List Nat} {H H2 : AHeap} (hp : HpGe H m m H2 0) (hfam : nodupN (m.map (famOf H)) = true) {sn : Snap} {ι : IMap} {W : World} (hR : R sn ι H W) : R sn (iot m ι) H2 W := by
  obtain ⟨hl, hg⟩ := hp.get
  have at2 : ∀ {b : Nat} {o2 : AObj} {p : Place}, H2[b]? = some o2 → iot m ι b = some p → ∃ j o, m[b]? = some j ∧ H[j]? = some o ∧ ι j = some p ∧ o.alive = true ∧ o2.alive = true ∧ o2.fam = b ∧ o2.sh = o.sh ∧ BodyGe m o.body o2.body := by
    intro b o2 p hb hp
    obtain ⟨j, o, o2', x1, x2, x3, x4, x5, x6, x7, x8⟩ := hg b (by rw [← hl]; exact (List.getElem?_eq_some_iff.1 hb).1)
    rw [hb] at x3; simp at x3; subst x3
    simp only [iot, x1] at hp
    exact ⟨j, o, x1, x2, hp, x4, x5, by omega, x7, x8⟩
  have hR2 : R sn (iot m ι) H2 W := by
    refine ⟨fun b => ⟨fun hb => ?_, fun ⟨p, hp⟩ => ?_⟩, fun b p hp => ?_, fun b o2 p hb ha hp => ?_, fun b b' o o' p p' hb hb' hp hp' e => ?_, fun ad v hv => ?_, fun b o2 p hb hp e => ?_⟩
    · obtain ⟨j, o, o2, x1, x2, _⟩ := hg b (by omega)
      obtain ⟨p, hp⟩ := hR.place x2
      exact ⟨p, by simp only [iot, x1]; exact hp⟩
    · unfold iot at hp
      split at hp
      · rename_i j hj; rw [hl]; exact (List.getElem?_eq_some_iff.1 hj).1
      · cases hp
    · unfold iot at hp
      split at hp
      · exact hR.blk _ p hp
      · cases hp
    · obtain ⟨j, o, x1, x2, x3, x4, x5, x6, x7, x8⟩ := at2 hb hp
      exact x8.or (hR.obj j o p x2 x4 x3)
    · obtain ⟨j, q, x1, x2, x3, x4, x5, x6, x7, x8⟩ := at2 hb hp
      obtain ⟨j', q', y1, y2, y3, y4, y5, y6, y7, y8⟩ := at2 hb' hp'
      have hs := hR.sep j j' q q' p p' x2 y2 x3 y3 e
      have : b = b' := nodupN_inj (l := m.map (famOf H)) (x := q.fam) hfam (by simp [x1, famOf, x2]) (by simp [y1, famOf, y2, hs.1])
      subst this
      exact ⟨by rw [x6, y6], by rw [x7, y7]; exact hs.2⟩
    · obtain ⟨h1, h2, h3⟩ := hR.snap ad v hv
      refine ⟨h1, h2, fun b o2 p hb ha hp => ?_⟩
      obtain ⟨j, o, x1, x2, x3, x4, _⟩ := at2 hb hp
      exact h3 j o p x2 x4 x3
    · obtain ⟨j, o, x1, x2, x3, x4, x5, x6, x7, x8⟩ := at2 hb hp
      exact hR.shz j o p x2 x3 (by omega)
  exact hR2
def kilM (m : List Nat) (H : AHeap) : AHeap := kil (fun i _ => mem i m) 0 H
theorem kilM_get {m : List Nat} {H : AHeap} {b : Nat} {o : AObj} (h : (kilM m H)[b]? = some o) (ha : o.alive = true) : H[b]? = some o ∧ b ∉ m := by
  unfold kilM at h
  rw [kil_get] at h
  cases hx : H[b]? with
  | none => rw [hx] at h; cases h
  | some x =>
    rw [hx] at h
    simp only [Option.map_some, Option.some.injEq, Nat.zero_add] at h
    split at h
    · subst h; simp [AObj.dead] at ha
    · rename_i hm
      subst h
      exact ⟨rfl, fun hb => hm (mem_iff.2 hb)⟩
theorem updM_get (m : List Nat) (Hs : AHeap) : ∀ (H : AHeap) (i b : Nat), (updM m Hs i H)[b]? = (H[b]?).map fun o => match posN m (i + b) 0 with
    | some j => match Hs[j]? with
      | some o' => { o with alive := o'.alive, body := renB (fun b => m.getD b 0) o'.body }
      | none => o
    | none => o
  | [], i, b => by simp [updM]
  | o :: H, i, 0 => by
    simp only [updM, List.getElem?_cons_zero, Option.map_some, Nat.add_zero] <;> rfl
  | o :: H, i, b + 1 => by
    simp only [updM, List.getElem?_cons_succ]
    rw [updM_get m Hs H (i + 1) b, show i + 1 + b = i + (b + 1) by omega]
theorem frzM_sound {sn sn2 : Snap} {ι : IMap} {H : AHeap} {W : World} {m : List Nat} (hobj : ∀ (b : Nat) (o : AObj) p, H[b]? = some o → o.alive = true → ι b = some p → OR sn ι W o.body p) (hle : Le sn sn2 noI noI)
    (hcell : ∀ (b : Nat) (o : AObj) p, H[b]? = some o → o.alive = true → ι b = some p → ∀ (off : Nat) (v : Value), W.cell? ⟨p.blk, off, none⟩ = some v → sn2 ⟨p.blk, off, none⟩ = some v) :
    ∀ (n : Nat) (u r : AV) (v : Value), frzM m H n u = some r → VR sn ι u v → VR sn2 (iot m ι) r v := by
  have lift : ∀ {r : AV} {v : Value}, VR sn2 noI r v → VR sn2 (iot m ι) r v := fun h => VR_mono ⟨fun _ _ h => h, fun b p h => by simp [noI] at h⟩ _ _ h
  have at_ : ∀ {b i : Nat}, posN m b 0 = some i → ∀ p, ι b = some p → iot m ι i = some p := fun h p hp => by
    have := (posN_some h).2
    simp only [Nat.sub_zero] at this
    simp only [iot, this]; exact hp
  intro n
  induction n with
  | zero => intro u r v h; simp [frzM] at h
  | succ n ih =>
    intro u r v h hv
    unfold frzM at h
    split at h
    · split at h
      · rename_i b off i hi
        simp at h; subst h
        obtain ⟨p, hp, rfl⟩ := hv.ptr
        simp only [VR]; exact ⟨p, at_ hi p hp, rfl⟩
      · exact lift (frz_sound2 hobj hle hcell 30 _ _ _ h hv)
    · split at h
      · rename_i b off len cap z i hi
        simp at h; subst h
        obtain ⟨p, a, cap', hp, h1⟩ := hv.slice
        simp only [VR]; exact ⟨p, a, cap', at_ hi p hp, h1⟩
      · exact lift (frz_sound2 hobj hle hcell 30 _ _ _ h hv)
    · split at h
      · rename_i b i hi
        simp at h; subst h
        simp only [VR] at hv ⊢
        obtain ⟨p, hp, h1⟩ := hv
        exact ⟨p, at_ hi p hp, h1⟩
      · cases h
    · split at h <;> simp at h
      rename_i f c hf hc; subst h
      obtain ⟨x, y, rfl, h1, h2⟩ := hv.func
      have each : ∀ {l l' : List AV} {vs : List Value}, frzL (frzM m H n) l = some l' → LR sn ι l vs → LR sn2 (iot m ι) l' vs := by
        intro l
        induction l with
        | nil => intro l' vs h e; simp [frzL] at h; subst h; simpa [LR] using e
        | cons c l ih2 =>
          intro l' vs h e
          simp only [frzL] at h
          split at h <;> simp at h
          rename_i x y hx hy
          subst h
          simp only [LR] at e ⊢
          obtain ⟨d, ds, rfl, h1, h2⟩ := e
          exact ⟨d, ds, rfl, ih _ _ _ hx h1, ih2 hy h2⟩
      simp only [VR]; exact ⟨x, y, rfl, each hf h1, each hc h2⟩
    · exact lift (frz_sound2 hobj hle hcell 30 _ _ _ h hv)
theorem frzML_sound {sn sn2 : Snap} {ι : IMap} {H : AHeap} {W : World} {m : List Nat} (hobj : ∀ (b : Nat) (o : AObj) p, H[b]? = some o → o.alive = true → ι b = some p → OR sn ι W o.body p) (hle : Le sn sn2 noI noI)
    (hcell : ∀ (b : Nat) (o : AObj) p, H[b]? = some o → o.alive = true → ι b = some p → ∀ (off : Nat) (v : Value), W.cell? ⟨p.blk, off, none⟩ = some v → sn2 ⟨p.blk, off, none⟩ = some v) (n : Nat) :
    ∀ (us rs : List AV) (vs : List Value), frzL (frzM m H n) us = some rs → LR sn ι us vs → LR sn2 (iot m ι) rs vs
  | [], rs, vs, h, e => by simp [frzL] at h; subst h; simpa [LR] using e
  | u :: us, rs, vs, h, e => by
    simp only [frzL] at h
    split at h <;> simp at h
    rename_i x y hx hy
    subst h
    simp only [LR] at e ⊢
    obtain ⟨d, ds, rfl, h1, h2⟩ := e
    exact ⟨d, ds, rfl, frzM_sound hobj hle hcell n _ _ _ hx h1, frzML_sound hobj hle hcell n us y ds hy h2⟩
theorem noROH_get : ∀ {H : AHeap} {i : Nat} {o : AObj}, noROH H = true → H[i]? = some o → noROB o.body = true
  | [], i, o, h, e => by simp at e
  | x :: H, 0, o, h, e => by simp [noROH] at h e; subst e; exact h.1
  | x :: H, i + 1, o, h, e => by simp [noROH] at h e; exact noROH_get h.2 e
theorem mem_frame {P : Program} {gl : Glob} {f : Nat} {Hs Hs' Hc : AHeap} {fargs cargs : List AV} {r : AV} {m : List Nat} {n : Nat} (hM : MemOK P gl f fargs Hs r Hs') (hargs : frzL (frzM m (kilM m Hc) n) cargs = some fargs) (hsub : HpGe Hc m m Hs 0)
    (hnd : nodupN (m.map (famOf Hc)) = true) (hlone : loneM m (m.map (famOf Hc)) 0 Hc = true) (hev : evoB m.length Hs Hs' = true) (hro : noROH Hs' = true) (hrr : noRO r = true) (hrk : allLt m.length (refs r []) = true) :
    MemOK P gl f cargs Hc (ren (fun b => m.getD b 0) r) (updM m Hs' 0 Hc) := by
  intro sn ι W vargs hg hR hl
  obtain ⟨hl1, hg1⟩ := hsub.get
  obtain ⟨hl2, hg2⟩ := evoB_get hev
  have inm : ∀ b, b ∈ m → ∃ (i : Nat) (o o2 : AObj) (p : Place), m[i]? = some b ∧ Hc[b]? = some o ∧ Hs[i]? = some o2 ∧ o.alive = true ∧ o2.alive = true ∧ ι b = some p := by
    intro b hb
    obtain ⟨i, hi, rfl⟩ := List.mem_iff_getElem.1 hb
    obtain ⟨j, o, o2, x1, x2, x3, x4, x5, _⟩ := hg1 i hi
    rw [List.getElem?_eq_getElem hi] at x1
    cases x1
    obtain ⟨p, hp⟩ := hR.place x2
    exact ⟨i, o, o2, p, List.getElem?_eq_getElem hi, x2, x3, x4, x5, hp⟩
  have apart_ : ∀ (b : Nat) (o : AObj) (p : Place), Hc[b]? = some o → b ∉ m → ι b = some p → ∀ b' p', b' ∈ m → ι b' = some p' → p'.blk ≠ p.blk := by
    intro b o p ho hb hp b' p' hb' hp' e
    obtain ⟨i, o', o2, q, y1, y2, y3, y4, y5, y6⟩ := inm b' hb'
    have hs := hR.sep b b' o o' p p' ho y2 hp hp' e.symm
    rcases loneM_get hlone ho with h | h
    · exact hb (by simpa using h)
    · refine h ?_
      rw [List.mem_map]
      exact ⟨b', hb', by simp only [famOf, y2]; exact hs.1.symm⟩
  let q : Nat → Prop := fun c => ∃ b p, b ∈ m ∧ ι b = some p ∧ p.blk = c
  let sn2 : Snap := fun a => open Classical in if q a.block ∨ ¬ a.block < W.heap.size then none else W.cell? a
  have hsn2 : ∀ a v, sn2 a = some v → ¬ q a.block ∧ a.block < W.heap.size ∧ W.cell? a = some v := fun a v h => by
    have h : (open Classical in if q a.block ∨ ¬ a.block < W.heap.size then none else W.cell? a) = some v := h
    split at h
    · cases h
    · rename_i hx
      simp only [not_or, Classical.not_not] at hx
      exact ⟨hx.1, hx.2, h⟩
  have hsn2' : ∀ a v, ¬ q a.block → a.block < W.heap.size → W.cell? a = some v → sn2 a = some v := fun a v h1 h2 h3 => by
    show (open Classical in if q a.block ∨ ¬ a.block < W.heap.size then none else W.cell? a) = some v
    rw [if_neg (by simp only [not_or, Classical.not_not]; exact ⟨h1, h2⟩)]; exact h3
  have hle : ∀ a v, sn a = some v → sn2 a = some v := fun a v hv => by
    obtain ⟨h1, h2, h3⟩ := hR.snap a v hv
    refine hsn2' a v ?_ h1 h2
    rintro ⟨b, p, hb, hp, e⟩
    obtain ⟨i, o, o2, p', y1, y2, y3, y4, y5, y6⟩ := inm b hb
    exact h3 b o p y2 y4 hp e
  have hR0 := sub_R hsub hnd hR
  have atm : ∀ {i : Nat} {p : Place}, iot m ι i = some p → ∃ b, m[i]? = some b ∧ b ∈ m ∧ ι b = some p := fun {i p} hp => by
    unfold iot at hp
    split at hp
    · rename_i b hb; exact ⟨b, hb, List.mem_of_getElem? hb, hp⟩
    · cases hp
  have hRs : R sn2 (iot m ι) Hs W := by
    refine ⟨hR0.dom, hR0.blk, fun b o p hb ha hp => OR_mono ⟨hle, fun _ _ h => h⟩ rfl (hR0.obj b o p hb ha hp), hR0.sep, fun a v hv => ?_, hR0.shz⟩
    obtain ⟨h1, h2, h3⟩ := hsn2 a v hv
    refine ⟨h2, h3, fun b o p hb ha hp e => ?_⟩
    obtain ⟨c, _, hc, hp'⟩ := atm hp
    exact h1 ⟨c, p, hc, hp', e⟩
  have hla : LR sn2 (iot m ι) fargs vargs := by
    refine frzML_sound (H := kilM m Hc) (W := W) (fun b o p hb ha hp => ?_) (gl_le hle) (fun b o p hb ha hp off v hv => ?_) n _ _ _ hargs hl
    · exact hR.obj b o p (kilM_get hb ha).1 ha hp
    · obtain ⟨h1, h2⟩ := kilM_get hb ha
      refine hsn2' _ v ?_ (hR.blk b p hp) hv
      rintro ⟨b', p', hb', hp', e⟩
      exact apart_ b o p h1 h2 hp b' p' hb' hp' e
  refine (hM sn2 (iot m ι) W vargs (hg.mono (gl_le hle)) hRs hla).mono ?_
  rintro e W' ⟨v, sn', ι', rfl, hv, hst⟩
  have hback : ∀ i, i < m.length → ∀ p, ι' i = some p → ι (m.getD i 0) = some p := fun i hi p hp => by
    obtain ⟨b, hb⟩ : ∃ b, m[i]? = some b := ⟨m[i], List.getElem?_eq_getElem hi⟩
    obtain ⟨p0, hp0⟩ := (hRs.dom i).1 (by omega)
    have h1 := hst.le.ι i p0 hp0
    rw [hp] at h1; cases h1
    obtain ⟨c, hc, _, hp1⟩ := atm hp0
    rw [hb] at hc; cases hc
    rw [List.getD_eq_getElem?_getD, hb]; exact hp1
  have hfwd : ∀ (i b : Nat) (p : Place), m[i]? = some b → ι b = some p → ι' i = some p := fun i b p hb hp => hst.le.ι i p (by simp only [iot, hb]; exact hp)
  have pos_ : ∀ b, b ∈ m → ∃ i, posN m b 0 = some i ∧ m[i]? = some b := fun b hb => by
    cases hx : posN m b 0 with
    | none => exact (posN_none hx hb).elim
    | some i => exact ⟨i, rfl, by simpa using (posN_some hx).2⟩
  have old : ∀ (b : Nat) (o : AObj) (p : Place), Hc[b]? = some o → b ∉ m → ι b = some p → W'.heap[p.blk]? = W.heap[p.blk]? := fun b o p ho hb hp => by
    refine hst.frame _ (hR.blk b p hp) fun i o2 p2 hi ha hp2 e => ?_
    obtain ⟨c, _, hc, hp3⟩ := atm hp2
    exact apart_ b o p ho hb hp c p2 hc hp3 e
  have hup : ∀ (b : Nat) (o' : AObj), (updM m Hs' 0 Hc)[b]? = some o' → ∃ o, Hc[b]? = some o ∧ o'.fam = o.fam ∧ o'.sh = o.sh ∧ ((b ∉ m ∧ o' = o) ∨ ∃ (i : Nat) (x : AObj), m[i]? = some b ∧ Hs'[i]? = some x ∧ o'.alive = x.alive ∧ o'.body = renB (fun b => m.getD b 0) x.body ∧ o.alive = true) := by
    intro b o' h
    rw [updM_get] at h
    simp only [Nat.zero_add] at h
    cases hx : Hc[b]? with
    | none => rw [hx] at h; cases h
    | some o =>
      rw [hx] at h
      simp only [Option.map_some, Option.some.injEq] at h
      refine ⟨o, rfl, ?_⟩
      by_cases hb : b ∈ m
      · obtain ⟨i, h1, h2⟩ := pos_ b hb
        have hi : i < m.length := (List.getElem?_eq_some_iff.1 h2).1
        have hi' : i < Hs'.length := by omega
        rw [h1] at h
        simp only [List.getElem?_eq_getElem hi'] at h
        subst h
        obtain ⟨_, y, _, _, _, y2, _, y4, _⟩ := inm b hb
        rw [hx] at y2; cases y2
        exact ⟨rfl, rfl, .inr ⟨i, Hs'[i], h2, List.getElem?_eq_getElem hi', rfl, rfl, y4⟩⟩
      · have hn : posN m b 0 = none := by
          cases hx : posN m b 0 with
          | none => rfl
          | some i => exact (hb (List.mem_of_getElem? (posN_some hx).2)).elim
        rw [hn] at h
        subst h
        exact ⟨rfl, rfl, .inl ⟨hb, rfl⟩⟩
  have hlen : (updM m Hs' 0 Hc).length = Hc.length := by
    have : ∀ (H : AHeap) (i : Nat), (updM m Hs' i H).length = H.length := by
      intro H
      induction H with
      | nil => intro i; rfl
      | cons o H ih => intro i; simp [updM, ih]
    exact this _ _
  have hnr : ∀ c, c < W.heap.size → (∀ (b : Nat) (o : AObj) p, Hc[b]? = some o → o.alive = true → ι b = some p → p.blk ≠ c) → W'.heap[c]? = W.heap[c]? := fun c hc hno => by
    refine hst.frame c hc fun i o2 p2 hi ha hp2 e => ?_
    obtain ⟨b, _, hb, hp3⟩ := atm hp2
    obtain ⟨_, o, _, _, _, y2, _, y4, _⟩ := inm b hb
    exact hno b o p2 y2 y4 hp3 e
  have hR' : R sn ι (updM m Hs' 0 Hc) W' := by
    refine ⟨fun b => by rw [hlen]; exact hR.dom b, fun b p hp => Nat.lt_of_lt_of_le (hR.blk b p hp) hst.size, fun b o' p hb ha hp => ?_, fun b b' o o' p p' hb hb' hp hp' e => ?_, fun a v hv => ?_, fun b o' p hb hp e => ?_⟩
    · obtain ⟨o, ho, _, _, h | ⟨i, x, h1, h2, h3, h4, h5⟩⟩ := hup b o' hb
      · obtain ⟨h1, rfl⟩ := h
        exact OR_mono (Le.refl _ _) (old b _ p ho h1 hp) (hR.obj b _ p ho ha hp)
      · rw [h4]
        have hi : i < m.length := (List.getElem?_eq_some_iff.1 h1).1
        have h6 := hst.rel.obj i x p h2 (by rw [← h3]; exact ha) (hfwd i b p h1 hp)
        have h7 := (hg2 i _ x (List.getElem?_eq_getElem (by omega)) h2).2.2.2
        exact OR_ren x.body (OR_refs x.body p (fun y hy => hback y (allLt_mem h7 y hy)) (OR_snap x.body (noROH_get hro h2) h6))
    · obtain ⟨x, hx, e1, e2, _⟩ := hup b o hb
      obtain ⟨y, hy, e3, e4, _⟩ := hup b' o' hb'
      have := hR.sep b b' x y p p' hx hy hp hp' e
      rw [e1, e2, e3, e4]; exact this
    · obtain ⟨h1, h2, h3⟩ := hR.snap a v hv
      refine ⟨Nat.lt_of_lt_of_le h1 hst.size, ?_, fun b o' p hb ha hp => ?_⟩
      · rw [← h2]; exact World.cell?_of_block (hnr _ h1 h3)
      · obtain ⟨o, ho, _, _, h | ⟨i, x, _, _, _, _, h5⟩⟩ := hup b o' hb
        · obtain ⟨_, rfl⟩ := h; exact h3 b _ p ho ha hp
        · exact h3 b o p ho h5 hp
    · obtain ⟨o, ho, _, e2, _⟩ := hup b o' hb
      exact hR.shz b o p ho hp (by rw [← e2]; exact e)
  refine ⟨v, sn, ι, rfl, ?_, hR', Le.refl _ _, fun _ _ h => .inl h, hnr, hst.size, hst.os, hst.tape, hst.output, fun _ _ h => .inl h, fun b o hb => ?_⟩
  · exact (VR_ren r v).2 (VR_refs r [] v (fun y hy => hback y (allLt_mem hrk y hy)) (VR_snap r v hrr hv))
  · have hb' : b < (updM m Hs' 0 Hc).length := by rw [hlen]; exact (List.getElem?_eq_some_iff.1 hb).1
    have hx := List.getElem?_eq_getElem hb'
    obtain ⟨x, hx1, e1, e2, h | ⟨i, y, h1, h2, h3, h4, h5⟩⟩ := hup b _ hx
    · rw [hb] at hx1; cases hx1
      exact ⟨_, hx, e1, e2, fun ha => by rw [h.2] at ha; exact ha⟩
    · rw [hb] at hx1; cases hx1
      exact ⟨_, hx, e1, e2, fun _ => h5⟩
end Go.Abs
end


/-
  A verified abstract interpreter, part 29: the quick road through a region that draws its order is the elder one's.
-/
import Derived.Test.YtgbimoeclgfkfabGreatDoorAbs28
set_option linter.unusedSimpArgs false
set_option linter.unusedVariables false
namespace Go.Abs
open Go.RowKit

def StsRel : List (Nat × TH) → List (Nat × AHeap × List Nat) → Prop
  | [], [] => True
  | (i, B) :: l, (j, H, _) :: m => i = j ∧ Rep B H ∧ StsRel l m
  | _, _ => False

theorem StsRel.snoc {i : Nat} {B : TH} {H : AHeap} {nw : List Nat} (hR : Rep B H) : ∀ {l : List (Nat × TH)} {m : List (Nat × AHeap × List Nat)}, StsRel l m → StsRel (l ++ [(i, B)]) (m ++ [(i, H, nw)])
  | [], [], h => ⟨rfl, hR, trivial⟩
  | (a, b) :: l, (c, e, f) :: m, h => ⟨h.1, h.2.1, StsRel.snoc hR h.2.2⟩
  | [], _ :: _, h => h.elim
  | _ :: _, [], h => h.elim

theorem druns_append {P : Program} {gl : Glob} {orc : Orc} {ops : List Oper} {an : List Nat} {tm : Tr} : ∀ (l m : List Nat) (s : DSt), druns P gl orc ops an tm (l ++ m) s = (match druns P gl orc ops an tm l s with | some s' => druns P gl orc ops an tm m s' | none => none)
  | [], m, s => by simp [druns]
  | i :: l, m, s => by
    simp only [List.cons_append, druns]
    cases dstep P gl orc ops an tm i s with
    | none => rfl
    | some s' => exact druns_append l m s'

theorem effO_append (ops : List Oper) : ∀ (l m : List Nat), effO ops (l ++ m) = effO ops l ++ effO ops m
  | [], m => rfl
  | i :: l, m => by
    simp only [List.cons_append, effO]
    rw [effO_append ops l m]
    split
    · split <;> simp
    · rfl

theorem allBit_of {m : Nat} : ∀ {l : List Nat}, (∀ i ∈ l, bit m i = true) → allBit m l = true
  | [], h => rfl
  | i :: l, h => by simp only [allBit, Bool.and_eq_true]; exact ⟨h i (by simp), allBit_of fun x hx => h x (by simp [hx])⟩

section main
variable {P : Program} {gl : Glob} {d n : Nat} {ops : List Oper} {an : List Nat} {tm : Tr} {forc : FOrc} {orc : Orc} {H0 : AHeap} {rc : Bool}

theorem cgrd_none {o : Oper} {tm : Tr} (hg : cgrd d n ops o = some none) : awanted ops o tm = some true := by
  unfold cgrd at hg
  unfold awanted
  split at hg
  · rename_i e; simp [e]
  · exfalso
    split at hg <;> try (simp at hg; done)
    split at hg <;> try (simp at hg; done)
    obtain ⟨_, h2⟩ := iff_some hg
    simp at h2

theorem cgrd_some {o : Oper} {tm : Tr} {E : Tre AV d} {q : Tre AV d → AV} {want : Bool} (hE : EnvSim d n E tm) (hg : cgrd d n ops o = some (some (q, want))) : awanted ops o tm = (match q E with | .bool b => some (b == want) | _ => some false) := by
  unfold cgrd at hg
  unfold awanted
  split at hg
  · simp at hg
  · rename_i j w e
    split at hg <;> try (simp at hg; done)
    rename_i g hj
    split at hg <;> try (simp at hg; done)
    rename_i t ht
    obtain ⟨h1, h2⟩ := iff_some hg
    have h3 : some (some ((getB AV d t).v, w)) = some (some (q, want)) := h2
    simp at h3
    obtain ⟨rfl, rfl⟩ := h3
    have htn : t < n := by simpa [Nat.blt_eq] using h1
    simp only [e, hj, ht, hE t, if_pos htn, getB_eq]
    split <;> simp_all

/-- A load asked again. -/
theorem cchk_ok {o : Oper} {c : FOrc → Tre AV d → TH → AV → Res → Res} (hO : OrcSim forc orc) (hc : cchk P gl d n ops o = some c) (hk : kind o = 1) {E : Tre AV d} {B : TH} {H : AHeap} {v : AV} {k : Res} {out : AV × TH} {tmj : Tr} (hE : EnvSim d n E tmj) (hR : Rep B H)
    (h : c forc E B v k = some out) : k = some out ∧ (awanted ops o tmj = some true → apure' P (aeval gl tmj) H o = some v) := by
  unfold cchk at hc
  split at hc
  · cases hc
  rename_i hodd
  have hodd : oddC P o = false := by simpa using hodd
  have run : ∀ {F : OpF d}, cop P gl d n o = some F → (F forc E B fun u _ => iff' (veqF v u) k none) = some out → k = some out ∧ apure' P (aeval gl tmj) H o = some v := by
    intro F hF h1
    obtain ⟨r, T', H', g1, g2, g3⟩ := cop_ok hF forc orc E B _ out H hO hR h1
    obtain ⟨e1, e2⟩ := iff_some g3
    have := veqF_eq e1; subst this
    rw [rhoE_eq hE] at g1
    exact ⟨e2, (aop_low_inv (by omega) hodd g1).1⟩
  split at hc <;> try (simp at hc; done)
  · rename_i F hF hg
    simp at hc; subst hc
    obtain ⟨h1, h2⟩ := run hF h
    exact ⟨h1, fun _ => h2⟩
  · rename_i F q want hF hg
    simp at hc; subst hc
    have hw := cgrd_some hE hg
    rcases onBool_some h with ⟨b, e, h1⟩ | ⟨e, h1⟩
    · rw [e] at hw
      cases b <;> cases want
      · obtain ⟨a, b⟩ := run hF h1; exact ⟨a, fun _ => b⟩
      · exact ⟨h1, fun hh => by rw [hw] at hh; simp at hh⟩
      · exact ⟨h1, fun hh => by rw [hw] at hh; simp at hh⟩
      · obtain ⟨a, b⟩ := run hF h1; exact ⟨a, fun _ => b⟩
    · refine ⟨h1, fun hh => ?_⟩
      rw [hw] at hh
      split at hh
      · rename_i b hb; exact absurd hb (e b)
      · cases hh

theorem fstg_ok {o : Oper} {env : List (Nat × AV)} {v : AV} {j aj : Nat} {W : Prop} {chk : TH → Res → Res} {out : AV × TH} (hchk : ∀ B H k, Rep B H → chk B k = some out → k = some out ∧ (W → apure' P (evalE gl env) H o = some v)) {base : TH} {Hb : AHeap} (hb : Rep base Hb) {k : Res} :
    ∀ {sts : List (Nat × TH)} {l : List (Nat × AHeap × List Nat)}, StsRel sts l → fstg an aj j chk base k sts = some out → k = some out ∧ (W → stages P gl o env v j an aj veq l Hb = true)
  | [], [], hs, h => by
    obtain ⟨h1, h2⟩ := hchk base Hb k hb h
    exact ⟨h1, fun w => by simp only [stages, h2 w, veq_refl]⟩
  | [], _ :: _, hs, h => hs.elim
  | _ :: _, [], hs, h => hs.elim
  | (e, B) :: sts, (e', H, nw) :: l, hs, h => by
    obtain ⟨rfl, hB, hs⟩ := hs
    have h : iff' (bit aj e) (fstg an aj j chk base k sts) (chk B (iff' (bit (an.getD e 0) j) k (fstg an aj j chk base k sts))) = some out := h
    rcases iff_some2 h with ⟨h1, h2⟩ | ⟨h1, h2⟩
    · obtain ⟨g1, g2⟩ := fstg_ok hchk hb hs h2
      exact ⟨g1, fun w => by simp only [stages, h1, if_true]; exact g2 w⟩
    · obtain ⟨g1, g2⟩ := hchk B H _ hB h2
      rcases iff_some2 g1 with ⟨g3, g4⟩ | ⟨g3, g4⟩
      · exact ⟨g4, fun w => by simp only [stages, h1, Bool.false_eq_true, if_false, g2 w, veq_refl, g3, Bool.true_or, Bool.and_self]⟩
      · obtain ⟨g5, g6⟩ := fstg_ok hchk hb hs g4
        exact ⟨g5, fun w => by simp only [stages, h1, Bool.false_eq_true, if_false, g2 w, veq_refl, g6 w, Bool.or_true, Bool.and_self]⟩

theorem fchks_ok (hO : OrcSim forc orc) {sts : List (Nat × TH)} {l : List (Nat × AHeap × List Nat)} (hs : StsRel sts l) {base : TH} {Hb : AHeap} (hb : Rep base Hb) {k : Res} {out : AV × TH} :
    ∀ {recs : List (Rec d)}, (∀ j Ej v, (j, Ej, v) ∈ recs → ∃ o tmj, ops[j]? = some o ∧ kind o = 1 ∧ EnvSim d n Ej tmj) → fchks P gl d n ops an forc sts base k recs = some out → k = some out ∧ ∀ j Ej v, (j, Ej, v) ∈ recs → ∀ o tmj env, ops[j]? = some o → kind o = 1 → EnvSim d n Ej tmj → awanted ops o tmj = some true →
      (∀ x ∈ o.op.operands.toList, evalE gl env x = aeval gl tmj x) → stages P gl o env v j an (an.getD j 0) veq l Hb = true
  | [], hr, h => ⟨h, by simp⟩
  | (j, E, v) :: recs, hr, h => by
    have h : (Option.rec none (fun c => fstg an (an.getD j 0) j (fun B k => c forc E B v k) base (fchks P gl d n ops an forc sts base k recs) sts) (chkAt P gl d n ops j) : Res) = some out := h
    cases hc : chkAt P gl d n ops j with
    | none => rw [hc] at h; cases h
    | some c =>
      rw [hc] at h
      unfold chkAt at hc
      split at hc <;> try (simp at hc; done)
      rename_i o ho
      obtain ⟨o', tm0, ho', hk0, hE0⟩ := hr j E v (by simp)
      have hoo : o = o' := by rw [ho] at ho'; simpa using ho'
      subst hoo
      have gen : ∀ tmj env, EnvSim d n E tmj → fchks P gl d n ops an forc sts base k recs = some out ∧ (awanted ops o tmj = some true ∧ (∀ x ∈ o.op.operands.toList, evalE gl env x = aeval gl tmj x) → stages P gl o env v j an (an.getD j 0) veq l Hb = true) := by
        intro tmj env hE
        refine fstg_ok (P := P) (gl := gl) (o := o) (env := env) (v := v) (W := awanted ops o tmj = some true ∧ ∀ x ∈ o.op.operands.toList, evalE gl env x = aeval gl tmj x) (fun B H k hB hck => ?_) hb hs h
        obtain ⟨a, b⟩ := cchk_ok hO hc hk0 hE hB hck
        exact ⟨a, fun w => by rw [apure_congr w.2]; exact b w.1⟩
      obtain ⟨h1, _⟩ := gen tm0 [] hE0
      obtain ⟨h2, h3⟩ := fchks_ok hO hs hb (fun j Ej v hm => hr j Ej v (by simp [hm])) h1
      refine ⟨h2, fun j' Ej v' hm o' tmj env ho2 hk2 hE2 hw hx => ?_⟩
      rcases List.mem_cons.1 hm with heq | hm
      · simp only [Prod.mk.injEq] at heq
        obtain ⟨rfl, rfl, rfl⟩ := heq
        have : o' = o := by rw [ho] at ho2; simpa using ho2.symm
        subst this
        exact (gen tmj env hE2).2 ⟨hw, hx⟩
      · exact h3 j' Ej v' hm o' tmj env ho2 hk2 hE2 hw hx

theorem stagesOk_of {s : DSt} : ∀ (l : List Oper) (j : Nat), (∀ k o, l[k]? = some o → kind o = 1 → ∃ env v, envOf tm s.vals ops (bit (an.getD (j + k) 0)) (looks ops o) = some env ∧ s.vals[j + k]? = some (some v) ∧
      (wantedE ops env o = true → stages P gl o env v (j + k) an (an.getD (j + k) 0) veq s.sts s.base = true)) → stagesOk P gl tm ops an s l j = true
  | [], j, h => rfl
  | o :: l, j, h => by
    simp only [stagesOk, Bool.and_eq_true]
    refine ⟨?_, stagesOk_of l (j + 1) fun k x hx hk => ?_⟩
    · split
      · rename_i hk
        obtain ⟨env, v, h1, h2, h3⟩ := h 0 o rfl (Nat.eq_of_beq_eq_true hk)
        simp only [Nat.add_zero] at h1 h2 h3
        simp only [h1, h2]
        split
        · rename_i hw; rw [h3 hw]; rfl
        · rfl
      · rfl
    · obtain ⟨env, v, h1, h2, h3⟩ := h (k + 1) x (by simpa using hx) hk
      rw [show j + (k + 1) = j + 1 + k from by omega] at h1 h2 h3
      exact ⟨env, v, h1, h2, h3⟩

/-- What has been reached on the way: l1 has run. -/
structure DInv (P : Program) (gl : Glob) (orc : Orc) (d n : Nat) (ops : List Oper) (tm : Tr) (H0 : AHeap) (rc : Bool) (l1 pend : List Nat) (E : Tre AV d) (T B : TH) (sts : List (Nat × TH)) (recs : List (Rec d)) (s : DSt) (tmc : Tr) : Prop where
  run : druns P gl orc ops (ancs ops []) tm l1 ⟨fillNone ops, 0, H0, [], H0, []⟩ = some s
  v : VInv ops (ancs ops []) tm s.vals s.done tmc
  env : EnvSim d n E tmc
  heap : Rep T s.heap
  base : Rep B s.base
  sts : StsRel sts s.sts
  new : ∀ k ∈ s.new, k ∈ pend
  effs : stFst s.sts = effO ops l1
  noeff : rc = false → s.heap = H0 ∧ s.base = H0 ∧ s.sts = []
  recOk : ∀ j Ej v, (j, Ej, v) ∈ recs → ∃ o tmj, ops[j]? = some o ∧ kind o = 1 ∧ EnvSim d n Ej tmj
  loads : ∀ j o, bit s.done j = true → ops[j]? = some o → kind o = 1 → ∃ env v, envOf tm s.vals ops (bit ((ancs ops []).getD j 0)) (looks ops o) = some env ∧ s.vals[j]? = some (some v) ∧
    (wantedE ops env o = true → (rc = true ∧ ∃ Ej tmj, (j, Ej, v) ∈ recs ∧ EnvSim d n Ej tmj ∧ awanted ops o tmj = some true ∧ ∀ x ∈ o.op.operands.toList, evalE gl env x = aeval gl tmj x) ∨ (rc = false ∧ apure' P (evalE gl env) H0 o = some v))

theorem drw_end (hO : OrcSim forc orc) (hst : dOK n ops (ancs ops []) = true) {E0 : Tre AV d} (hE0 : EnvSim d n E0 tm) {pend : List Nat} {E : Tre AV d} {T B : TH} {sts : List (Nat × TH)} {recs : List (Rec d)} {s : DSt} {tmc : Tr} (h : DInv P gl orc d n ops tm H0 rc (ordOf ops (ancs ops [])) pend E T B sts recs s tmc) (hdone : Nat.beq (s.done + 1) (2 ^ ops.length) = true)
    {k : Res} {out : AV × TH} (hc : fchks P gl d n ops (ancs ops []) forc sts B k recs = some out) : (∃ tm', adraw P gl orc ops tm H0 = some (tm', s.heap) ∧ EnvSim d n E tm') ∧ k = some out := by
  obtain ⟨h1, h2⟩ := fchks_ok hO h.sts h.base h.recOk hc
  refine ⟨?_, h1⟩
  unfold dOK at hst
  obtain ⟨s1, hst⟩ := iff_true hst
  obtain ⟨s2, hst⟩ := iff_true hst
  obtain ⟨s3, hst⟩ := iff_true hst
  obtain ⟨s4, s5⟩ := iff_true hst
  have hall : ∀ k, k < ops.length → bit s.done k = true := fun k hk => by
    have e := Nat.eq_of_beq_eq_true hdone
    rw [bit_full e]; simpa using hk
  have hchain : chainOk (ancs ops []) (stFst s.sts) = true := by rw [h.effs]; exact s4
  have hstg : stagesOk P gl tm ops (ancs ops []) s ops 0 = true := by
    refine stagesOk_of ops 0 fun j o ho hk => ?_
    rw [Nat.zero_add]
    obtain ⟨env, v, g1, g2, g3⟩ := h.loads j o (hall j (List.getElem?_eq_some_iff.1 ho).1) ho hk
    refine ⟨env, v, g1, g2, fun hw => ?_⟩
    rcases g3 hw with ⟨_, Ej, tmj, g4, g5, g6, g7⟩ | ⟨g4, g5⟩
    · exact h2 j Ej v g4 o tmj env ho hk g5 g6 g7
    · obtain ⟨e1, e2, e3⟩ := h.noeff g4
      rw [e2, e3]
      simp only [stages, g5, veq_refl]
  obtain ⟨tm', hfin⟩ := finTmps_some (vals := s.vals) ops 0 tm (fun k hk => by rw [Nat.zero_add]; exact h.v.known k (hall k hk)) (fun o ho dd hd => by
    obtain ⟨k, hk, hko⟩ := List.mem_iff_getElem.1 ho
    obtain ⟨x, hx⟩ := h.v.dst k o dd (hall k hk) (by rw [← hko]; exact List.getElem?_eq_getElem hk) hd
    rw [h.env dd] at hx
    split at hx
    · rename_i hlt; exact tget_tex _ _ _ (by rw [hE0 dd, if_pos hlt])
    · cases hx)
  refine ⟨tm', ?_, ?_⟩
  · unfold adraw
    simp only [s1, s2, Bool.and_self, if_true, h.run, hchain, hdone, hstg, hfin]
  · intro t
    rw [(finTmps_spec ops 0 tm tm' hfin).2 t _ rfl, ← h.env t, ← h.v.cur t]
    exact lastW_congr ops 0 _ fun k o hk _ => by
      rw [Nat.zero_add]
      exact (hall k (List.getElem?_eq_some_iff.1 hk).1).symm

/-- One operation further. -/
theorem DInv.step {l1 pend : List Nat} {i : Nat} {E : Tre AV d} {T B : TH} {sts : List (Nat × TH)} {recs : List (Rec d)} {s : DSt} {tmc : Tr} (h : DInv P gl orc d n ops tm H0 rc l1 pend E T B sts recs s tmc) {o : Oper} (ho : ops[i]? = some o) {env : List (Nat × AV)}
    (hi : bit s.done i = false) (han : ∀ k, bit ((ancs ops []).getD i 0) k = true → bit s.done k = true) (hb : (ancs ops []).getD i 0 < 2 ^ i) (htm : tmpsOkAt ops (ancs ops []) i o = true)
    (henv : envOf tm s.vals ops (bit ((ancs ops []).getD i 0)) (looks ops o) = some env) {r : AV} {tm1 : Tr} (hp : putT o.dst r tmc = some tm1) {E1 : Tre AV d} (hE1 : EnvSim d n E1 tm1) {base heap : AHeap} {new : List Nat} {st : List (Nat × AHeap × List Nat)}
    (hd : dstep P gl orc ops (ancs ops []) tm i s = some ⟨s.vals.set i (some r), Nat.lor s.done (2 ^ i), base, new, heap, st⟩) {pend1 : List Nat} {T1 B1 : TH} {sts1 : List (Nat × TH)} {recs1 : List (Rec d)} (hT : Rep T1 heap) (hB : Rep B1 base) (hs : StsRel sts1 st)
    (hn : ∀ k ∈ new, k ∈ pend1) (he : stFst st = effO ops (l1 ++ [i])) (hne : rc = false → heap = H0 ∧ base = H0 ∧ st = []) (hr1 : ∀ x ∈ recs, x ∈ recs1) (hr2 : ∀ j Ej v, (j, Ej, v) ∈ recs1 → ∃ o tmj, ops[j]? = some o ∧ kind o = 1 ∧ EnvSim d n Ej tmj)
    (hl : kind o = 1 → wantedE ops env o = true → (rc = true ∧ ∃ Ej tmj, (i, Ej, r) ∈ recs1 ∧ EnvSim d n Ej tmj ∧ awanted ops o tmj = some true ∧ ∀ x ∈ o.op.operands.toList, evalE gl env x = aeval gl tmj x) ∨ (rc = false ∧ apure' P (evalE gl env) H0 o = some r)) :
    DInv P gl orc d n ops tm H0 rc (l1 ++ [i]) pend1 E1 T1 B1 sts1 recs1 ⟨s.vals.set i (some r), Nat.lor s.done (2 ^ i), base, new, heap, st⟩ tm1 := by
  have hle := h.v.vle hi r
  refine ⟨?_, h.v.next ho hp hi han hb htm, hE1, hT, hB, hs, hn, he, hne, hr2, ?_⟩
  · rw [druns_append, h.run]
    simp only [druns, hd]
  · intro j x hj hx hk
    rw [bit_next, Bool.or_eq_true] at hj
    by_cases e : j = i
    · subst e
      have : x = o := by rw [ho] at hx; simpa using hx.symm
      subst this
      exact ⟨env, r, envOf_mono hle _ _ henv, by rw [List.getElem?_set, if_pos rfl, if_pos (by rw [h.v.vlen]; exact (List.getElem?_eq_some_iff.1 ho).1)], hl hk⟩
    · have hj' : bit s.done j = true := by
        rcases hj with hj | hj
        · exact hj
        · exact absurd (Nat.eq_of_beq_eq_true hj) e
      obtain ⟨env', v, g1, g2, g3⟩ := h.loads j x hj' hx hk
      refine ⟨env', v, envOf_mono hle _ _ g1, by rw [List.getElem?_set, if_neg (Ne.symm e)]; exact g2, fun hw => ?_⟩
      rcases g3 hw with ⟨a, Ej, tmj, b, c⟩ | g
      · exact .inl ⟨a, Ej, tmj, hr1 _ b, c⟩
      · exact .inr g

theorem clk_mem : ∀ {l : List Nat} {G : Tre AV d → List AV}, clk gl d n l = some G → ∀ E t, t ∈ l → teget d t E ∈ G E
  | [], G, h, E, t, ht => by simp at ht
  | s :: l, G, h, E, t, ht => by
    simp only [clk] at h
    split at h <;> simp at h
    rename_i g G' hg hG
    subst h
    rcases List.mem_cons.1 ht with rfl | ht
    · unfold copd at hg
      obtain ⟨_, h2⟩ := iff_some (show iff' (Nat.blt t n) (Bx.rec (fun g => some g) (getB AV d t)) none = some g from hg)
      have h3 : some (getB AV d t).v = some g := h2
      simp at h3; subst h3
      rw [← getB_eq]; simp
    · exact List.mem_cons_of_mem _ (clk_mem hG E t ht)

theorem cdst_get {o : Oper} {g : Tre AV d → AV} (hg : cdst gl d n o = some g) {r : AV} {tmc tm1 : Tr} (hp : putT o.dst r tmc = some tm1) {E1 : Tre AV d} (hE1 : EnvSim d n E1 tm1) : g E1 = r := by
  unfold cdst at hg
  cases hd : o.dst with
  | none => rw [hd] at hg; simp at hg
  | some t =>
    rw [hd] at hg
    simp only at hg
    unfold copd at hg
    obtain ⟨h1, h2⟩ := iff_some (show iff' (Nat.blt t n) (Bx.rec (fun g => some g) (getB AV d t)) none = some g from hg)
    have h3 : some (getB AV d t).v = some g := h2
    simp at h3; subst h3
    have ht : t < n := by simpa [Nat.blt_eq] using h1
    rw [getB_eq]
    have h4 := putT_get (o := o) hd (by rw [hd] at hp; exact hp) t
    rw [hE1 t, if_pos ht] at h4
    simpa [dstIs, hd] using h4

theorem fdrw_ok (hn : n ≤ 8 ^ d) (hO : OrcSim forc orc) (hodd : noOdd P ops = true) (hst : dOK n ops (ancs ops []) = true) (hrc : rc = hasEff ops) {E0 : Tre AV d} (hE0 : EnvSim d n E0 tm) : ∀ (l l1 pend : List Nat) (E : Tre AV d) (T B : TH) (sts : List (Nat × TH)) (recs : List (Rec d)) (k : Tre AV d → TH → Res) (out : AV × TH) (s : DSt) (tmc : Tr),
    l1 ++ l = ordOf ops (ancs ops []) → sOK ops (ancs ops []) l s.done pend = true →
    DInv P gl orc d n ops tm H0 rc l1 pend E T B sts recs s tmc → fdrw P gl d n ops (ancs ops []) rc forc l E T B sts recs k = some out → ∃ E' T' tm' H', adraw P gl orc ops tm H0 = some (tm', H') ∧ EnvSim d n E' tm' ∧ Rep T' H' ∧ k E' T' = some out
  | [], l1, pend, E, T, B, sts, recs, k, out, s, tmc, hd, hs, h, hc => by
    rw [List.append_nil] at hd
    subst hd
    obtain ⟨⟨tm', h1, h3⟩, h2⟩ := drw_end hO hst hE0 h hs hc
    exact ⟨E, T, tm', s.heap, h1, h3, h.heap, h2⟩
  | i :: l, l1, pend, E, T, B, sts, recs, k, out, s, tmc, hd, hs, h, hc => by
    have hd1 : (l1 ++ [i]) ++ l = ordOf ops (ancs ops []) := by rw [← hd]; simp
    simp only [sOK] at hs
    split at hs
    · cases hs
    rename_i o ho
    have hil : i < ops.length := (List.getElem?_eq_some_iff.1 ho).1
    simp only [Bool.and_eq_true, Bool.not_eq_true'] at hs
    obtain ⟨⟨hnd, hland⟩, hs⟩ := hs
    have han := land_sub hland
    have hst' := hst
    unfold dOK at hst'
    obtain ⟨s1, hst'⟩ := iff_true hst'
    obtain ⟨s2, hst'⟩ := iff_true hst'
    obtain ⟨s3, hst'⟩ := iff_true hst'
    obtain ⟨s4, s5⟩ := iff_true hst'
    have hlt : ∀ t ∈ looks ops o, t < n := allLt_spec (allLooks_spec s5 o (List.mem_of_getElem? ho))
    have htm := tmpsOk_spec ops 0 i o s1 ho
    rw [Nat.zero_add] at htm
    have hb : (ancs ops []).getD i 0 < 2 ^ i := by
      have := boundOk_spec (ancs ops []) 0 i s2 (by rw [anc_length]; exact hil)
      rwa [Nat.zero_add] at this
    obtain ⟨env, henv, hlk, hvl⟩ := env_here htm hlt h.v h.env hnd han
    have hρ := evalE_here (gl := gl) hlk h.env hlt
    have hc : (Option.rec (fun _ _ _ _ _ _ => none) (fun o => fdrw1 P gl d n ops rc forc i o (fdrw P gl d n ops (ancs ops []) rc forc l)) (ops[i]?) : DrwF d) E T B sts recs k = some out := hc
    rw [ho] at hc
    have hc : (Option.rec none (fun s => four (kind o)
      (s forc E T fun E' T' => fdrw P gl d n ops (ancs ops []) rc forc l E' T' B sts recs k)
      (iff' rc (Option.rec none (fun g => s forc E T fun E' T' => frc1 (g E') fun v => fdrw P gl d n ops (ancs ops []) rc forc l E' T' B sts ((i, E, v) :: recs) k) (cdst gl d n o)) (s forc E T fun E' T' => fdrw P gl d n ops (ancs ops []) rc forc l E' T' B sts recs k))
      (s forc E T fun E' T' => iff' (iff' (Nat.beq T'.sz T.sz) true (ltO T.sz (T'.get T.sz))) (fdrw P gl d n ops (ancs ops []) rc forc l E' T' B sts recs k) none)
      (Option.rec none (fun L => iff' (ltL T.sz (L E)) (s forc E T fun E' T' => iff' (Nat.ble T.sz T'.sz) (fdrw P gl d n ops (ancs ops []) rc forc l E' T' T' (appR sts [(i, B)]) recs k) none) none) (clk gl d n (looks ops o))))
      (cstep P gl d n ops o) : Res) = some out := hc
    cases hcs : cstep P gl d n ops o with
    | none => rw [hcs] at hc; cases hc
    | some stp =>
    rw [hcs] at hc
    have hstep := cstep_ok hn hcs
    have heff : kind o ≠ 3 → stFst s.sts = effO ops (l1 ++ [i]) := by
      intro hk
      rw [h.effs, effO_append]
      have : Nat.beq (kind o) 3 = false := by cases hq : Nat.beq (kind o) 3 with | false => rfl | true => exact absurd (Nat.eq_of_beq_eq_true hq) hk
      simp [effO, ho, this]
    -- looking alone
    have low : ∀ (K : Tre AV d → TH → Res), kind o < 2 → stp forc E T K = some out →
        ∃ E' T' tm1 r, EnvSim d n E' tm1 ∧ Rep T' s.heap ∧ K E' T' = some out ∧ putT o.dst r tmc = some tm1 ∧ ∀ recs1 : List (Rec d), (∀ x ∈ recs, x ∈ recs1) → (∀ j Ej v, (j, Ej, v) ∈ recs1 → ∃ o tmj, ops[j]? = some o ∧ kind o = 1 ∧ EnvSim d n Ej tmj) →
          (kind o = 1 → wantedE ops env o = true → awanted ops o tmc = some true → apure' P (evalE gl env) s.heap o = some r →
            (rc = true ∧ ∃ Ej tmj, (i, Ej, r) ∈ recs1 ∧ EnvSim d n Ej tmj ∧ awanted ops o tmj = some true ∧ ∀ x ∈ o.op.operands.toList, evalE gl env x = aeval gl tmj x) ∨ (rc = false ∧ apure' P (evalE gl env) H0 o = some r)) →
          ∀ pend1 : List Nat, (∀ x ∈ pend, x ∈ pend1) → DInv P gl orc d n ops tm H0 rc (l1 ++ [i]) pend1 E' T' B sts recs1 ⟨s.vals.set i (some r), Nat.lor s.done (2 ^ i), s.base, s.new, s.heap, s.sts⟩ tm1 := by
      intro K hk hh
      obtain ⟨E1, T1, tm1, H1, g1, g2, g3, g4⟩ := hstep forc orc E T K out s.heap tmc hO h.heap h.env hh
      rcases g4 with ⟨w1, r, w2, w3⟩ | ⟨w1, w2, rfl⟩
      · obtain ⟨a1, rfl⟩ := aop_low_inv hk (noOdd_spec hodd o (List.mem_of_getElem? ho)) w2
        have hw := wanted_here hlk h.env hlt w1
        have a2 : apure' P (evalE gl env) s.heap o = some r := by rw [apure_congr hρ]; exact a1
        refine ⟨E1, T1, tm1, r, g1, g2, g3, w3, fun recs1 hr1 hr2 hld pend1 hpd => ?_⟩
        refine h.step ho hnd han hb htm henv w3 g1 ?_ g2 h.base h.sts (fun k hk => hpd k (h.new k hk)) (heff (by omega)) h.noeff hr1 hr2 (fun hk1 hw1 => hld hk1 hw1 w1 a2)
        unfold dstep
        simp only [ho, henv, hnd, Bool.false_eq_true, if_false]
        split
        · omega
        · omega
        · simp only [hw, if_true, a2, frcC_eq]
      · have hw := wanted_here hlk h.env hlt w1
        refine ⟨E1, T1, tm1, .tuple [], g1, g2, g3, w2, fun recs1 hr1 hr2 _ pend1 hpd => ?_⟩
        refine h.step ho hnd han hb htm henv w2 g1 ?_ g2 h.base h.sts (fun k hk => hpd k (h.new k hk)) (heff (by omega)) h.noeff hr1 hr2 (fun _ hw1 => by rw [hw] at hw1; cases hw1)
        unfold dstep
        simp only [ho, henv, hnd, Bool.false_eq_true, if_false]
        split
        · omega
        · omega
        · simp only [hw, Bool.false_eq_true, if_false]
    rcases kind_cases o with hk | hk | hk | hk
    · rw [hk] at hc hs
      replace hc : stp forc E T (fun E' T' => fdrw P gl d n ops (ancs ops []) rc forc l E' T' B sts recs k) = some out := hc
      obtain ⟨E1, T1, tm1, r, g1, g2, g3, g4, g5⟩ := low _ (by omega) hc
      exact fdrw_ok hn hO hodd hst hrc hE0 l _ pend E1 T1 B sts recs k out _ tm1 hd1 hs (g5 recs (fun _ h => h) h.recOk (fun hk1 => by omega) pend fun _ h => h) g3
    · rw [hk] at hc hs
      replace hc : iff' rc (Option.rec none (fun g => stp forc E T fun E' T' => frc1 (g E') fun v => fdrw P gl d n ops (ancs ops []) rc forc l E' T' B sts ((i, E, v) :: recs) k) (cdst gl d n o)) (stp forc E T fun E' T' => fdrw P gl d n ops (ancs ops []) rc forc l E' T' B sts recs k) = some out := hc
      rcases iff_some2 hc with ⟨hr, hc2⟩ | ⟨hr, hc2⟩
      · cases hcd : cdst gl d n o with
        | none => rw [hcd] at hc2; cases hc2
        | some g =>
          rw [hcd] at hc2
          replace hc2 : stp forc E T (fun E' T' => frc1 (g E') fun v => fdrw P gl d n ops (ancs ops []) rc forc l E' T' B sts ((i, E, v) :: recs) k) = some out := hc2
          obtain ⟨E1, T1, tm1, r, g1, g2, g3, g4, g5⟩ := low _ (by omega) hc2
          have e1 : g E1 = r := cdst_get hcd g4 g1
          rw [frc1_eq, e1] at g3
          refine fdrw_ok hn hO hodd hst hrc hE0 l _ pend E1 T1 B sts ((i, E, r) :: recs) k out _ tm1 hd1 hs (g5 ((i, E, r) :: recs) (fun x hx => by simp [hx]) ?_ (fun _ _ hw a => .inl ⟨hr, E, tmc, by simp, h.env, hw, hρ⟩) pend fun _ h => h) g3
          intro j Ej v hm
          rcases List.mem_cons.1 hm with heq | hm
          · simp only [Prod.mk.injEq] at heq; obtain ⟨rfl, rfl, rfl⟩ := heq; exact ⟨o, tmc, ho, hk, h.env⟩
          · exact h.recOk j Ej v hm
      · obtain ⟨E1, T1, tm1, r, g1, g2, g3, g4, g5⟩ := low _ (by omega) hc2
        refine fdrw_ok hn hO hodd hst hrc hE0 l _ pend E1 T1 B sts recs k out _ tm1 hd1 hs (g5 recs (fun _ h => h) h.recOk (fun _ _ _ a => .inr ⟨hr, ?_⟩) pend fun _ h => h) g3
        rw [(h.noeff hr).1] at a; exact a
    -- a new block
    · have hne : rc = false → False := fun e => by
        rw [hrc] at e
        have := hasEff_spec e o (List.mem_of_getElem? ho)
        omega
      rw [hk] at hc hs
      replace hc : stp forc E T (fun E' T' => iff' (iff' (Nat.beq T'.sz T.sz) true (ltO T.sz (T'.get T.sz))) (fdrw P gl d n ops (ancs ops []) rc forc l E' T' B sts recs k) none) = some out := hc
      obtain ⟨E1, T1, tm1, H1, g1, g2, g3, g4⟩ := hstep forc orc E T _ out s.heap tmc hO h.heap h.env hc
      obtain ⟨q1, q2⟩ := iff_some g3
      rcases g4 with ⟨w1, r, w2, w3⟩ | ⟨w1, w2, rfl⟩
      · obtain ⟨mk, body, a1, rfl, rfl⟩ := aop_new_inv hk w2
        have hw := wanted_here hlk h.env hlt w1
        have a2 : aallocF P (evalE gl env) o = some (mk, body) := by rw [aallocF_congr hρ]; exact a1
        have hsz : T1.sz = T.sz + 1 := by rw [g2.sz, h.heap.sz]; simp
        have hq : Nat.beq T1.sz T.sz = false := by cases hq : Nat.beq T1.sz T.sz with | false => rfl | true => have := Nat.eq_of_beq_eq_true hq; omega
        rw [hq] at q1
        obtain ⟨l1, l2⟩ := ltO_spec (show ltO T.sz (T1.get T.sz) = true from q1)
        have hob := g2.obj T.sz l1
        rw [h.heap.sz, List.getElem?_append_right (Nat.le_refl _)] at hob
        simp at hob
        rw [h.heap.sz, ← hob] at l2
        refine fdrw_ok hn hO hodd hst hrc hE0 l _ (pend ++ [i]) E1 T1 B sts recs k out _ tm1 hd1 hs (h.step ho hnd han hb htm henv w3 g1 ?_ g2 h.base h.sts (new := s.new ++ [i]) ?_ (heff (by omega)) (fun e => (hne e).elim) (fun _ h => h) h.recOk (fun hk1 => by omega)) q2
        · unfold dstep
          simp only [ho, henv, hnd, Bool.false_eq_true, if_false, hk, hw, if_true, a2]
          rw [if_pos l2, frcC_eq]
        · intro k hkm
          rcases List.mem_append.1 hkm with hkm | hkm
          · exact List.mem_append_left _ (h.new k hkm)
          · exact List.mem_append_right _ hkm
      · have hw := wanted_here hlk h.env hlt w1
        refine fdrw_ok hn hO hodd hst hrc hE0 l _ (pend ++ [i]) E1 T1 B sts recs k out _ tm1 hd1 hs (h.step ho hnd han hb htm henv w2 g1 ?_ g2 h.base h.sts (fun k hk => List.mem_append_left _ (h.new k hk)) (heff (by omega)) (fun e => (hne e).elim) (fun _ h => h) h.recOk (fun hk1 => by omega)) q2
        unfold dstep
        simp only [ho, henv, hnd, Bool.false_eq_true, if_false, hk, hw]
    -- an effect
    · have hne : rc = false → False := fun e => by
        rw [hrc] at e
        have := hasEff_spec e o (List.mem_of_getElem? ho)
        omega
      rw [hk] at hc hs
      simp only [Bool.and_eq_true] at hs
      obtain ⟨hpend, hs⟩ := hs
      cases hcl : clk gl d n (looks ops o) with
      | none => rw [hcl] at hc; cases hc
      | some L =>
      rw [hcl] at hc
      replace hc : iff' (ltL T.sz (L E)) (stp forc E T fun E' T' => iff' (Nat.ble T.sz T'.sz) (fdrw P gl d n ops (ancs ops []) rc forc l E' T' T' (appR sts [(i, B)]) recs k) none) none = some out := hc
      obtain ⟨c1, c2⟩ := iff_some hc
      obtain ⟨E1, T1, tm1, H1, g1, g2, g3, g4⟩ := hstep forc orc E T _ out s.heap tmc hO h.heap h.env c2
      obtain ⟨q1, q2⟩ := iff_some g3
      rw [appR_eq] at q2
      have hrefs : allLt s.heap.length (refsEnv env []) = true := allLt_of (refsEnv_lt (fun t v hm => by
        obtain ⟨t', h1, h2⟩ := hvl t v hm
        subst h2
        rw [← h.heap.sz]; exact ltL_mem c1 _ (clk_mem hcl E t' h1)) [] (by simp))
      have hbits : allBit ((ancs ops []).getD i 0) s.new = true := allBit_of fun k hkm => allBit_spec hpend k (h.new k hkm)
      have hgate : (allBit ((ancs ops []).getD i 0) s.new && allLt s.heap.length (refsEnv env [])) = true := by rw [hrefs, hbits]; rfl
      have heff3 : stFst (s.sts ++ [(i, s.base, s.new)]) = effO ops (l1 ++ [i]) := by
        rw [stFst_append, h.effs, effO_append]
        simp [effO, ho, hk]
      rcases g4 with ⟨w1, r, w2, w3⟩ | ⟨w1, w2, rfl⟩
      · have hw := wanted_here hlk h.env hlt w1
        have a2 : aop P orc (evalE gl env) o s.heap = some (r, H1) := by rw [aop_congr hρ]; exact w2
        have hle : Nat.ble s.heap.length H1.length = true := by rw [← h.heap.sz, ← g2.sz]; exact q1
        refine fdrw_ok hn hO hodd hst hrc hE0 l _ [] E1 T1 T1 _ recs k out _ tm1 hd1 hs (h.step ho hnd han hb htm henv w3 g1 ?_ g2 g2 (StsRel.snoc h.base h.sts) (new := []) (by simp) heff3 (fun e => (hne e).elim) (fun _ h => h) h.recOk (fun hk1 => by omega)) q2
        unfold dstep
        simp only [ho, henv, hnd, Bool.false_eq_true, if_false, hk, hgate, hw, if_true, a2, frcC_eq, hle]
      · have hw := wanted_here hlk h.env hlt w1
        refine fdrw_ok hn hO hodd hst hrc hE0 l _ [] E1 T1 T1 _ recs k out _ tm1 hd1 hs (h.step ho hnd han hb htm henv w2 g1 ?_ g2 g2 (StsRel.snoc h.base h.sts) (new := []) (by simp) heff3 (fun e => (hne e).elim) (fun _ h => h) h.recOk (fun hk1 => by omega)) q2
        unfold dstep
        simp only [ho, henv, hnd, Bool.false_eq_true, if_false, hk, hgate, hw, if_true]

/-- A region that draws its order, by the quick road. -/
theorem fdraw_ok (hn : n ≤ 8 ^ d) (hO : OrcSim forc orc) {E : Tre AV d} {T : TH} {k : Tre AV d → TH → Res} {out : AV × TH} {H : AHeap} (hR : Rep T H) (hE : EnvSim d n E tm) (h : fdraw P gl d n ops forc E T k = some out) :
    ∃ E' T' tm' H', adraw P gl orc ops tm H = some (tm', H') ∧ EnvSim d n E' tm' ∧ Rep T' H' ∧ k E' T' = some out := by
  obtain ⟨hodd, h⟩ := iff_some (show iff' (noOdd P ops) (iff' (dOK n ops (ancs ops [])) (fdrw P gl d n ops (ancs ops []) (hasEff ops) forc (ordOf ops (ancs ops [])) E T T [] [] k) none) none = some out from h)
  obtain ⟨hst, h2⟩ := iff_some (show iff' (dOK n ops (ancs ops [])) (fdrw P gl d n ops (ancs ops []) (hasEff ops) forc (ordOf ops (ancs ops [])) E T T [] [] k) none = some out from h)
  have hst' := hst
  unfold dOK at hst'
  obtain ⟨s1, hst'⟩ := iff_true hst'
  obtain ⟨s2, hst'⟩ := iff_true hst'
  obtain ⟨s3, hst'⟩ := iff_true hst'
  refine fdrw_ok hn hO hodd hst rfl hE (ordOf ops (ancs ops [])) [] [] E T T [] [] k out ⟨fillNone ops, 0, H, [], H, []⟩ tm rfl s3 ⟨rfl, VInv.start ops _ tm, hE, hR, hR, trivial, by simp, by simp [stFst, effO], fun _ => ⟨rfl, rfl, rfl⟩, by simp, fun j o hj => (by rw [bit_zero] at hj; cases hj)⟩ h2
end main

end Go.Abs

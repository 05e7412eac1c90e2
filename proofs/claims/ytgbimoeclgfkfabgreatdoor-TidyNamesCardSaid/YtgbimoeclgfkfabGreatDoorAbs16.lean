/-
  A verified abstract interpreter, part 16: a region that draws its order, step by step.
-/
import Derived.Test.YtgbimoeclgfkfabGreatDoorAbs15
set_option linter.unusedSimpArgs false
set_option linter.unusedVariables false
namespace Go.Abs
open Go.RowKit

theorem anc_direct {ops : List Oper} {i : Nat} {o : Oper} (ho : ops[i]? = some o) {e : Edge} (he : e ∈ o.after.toList) (hb : Region.binds .any e = true) : bit ((ancs ops []).getD i 0) e.on = true := by
  obtain ⟨r, h1, h2, h3⟩ := ancs_spec ops []
  simp only [List.nil_append] at h1 h3
  rw [h1]
  have := h3 i o ho
  rw [List.getD, this]
  simp only [Option.getD_some]
  exact (edgeMask_bit _ _ _).2 ⟨e, he, hb, .inl rfl⟩

theorem anc_length (ops : List Oper) : (ancs ops []).length = ops.length := by
  obtain ⟨r, h1, h2, _⟩ := ancs_spec ops []
  rw [h1]; simpa using h2

/-- All that was checked of a region. -/
structure Checked (P : Program) (gl : Glob) (orc : Orc) (ops : List Oper) (tm : Tr) (H0 : AHeap) (s : DSt) : Prop where
  di : DI P gl orc ops (ancs ops []) tm H0 s
  tmps : tmpsOk ops (ancs ops []) ops 0 = true
  bound : boundOk (ancs ops []) 0 = true
  chain : chainOk (ancs ops []) (stFst s.sts) = true
  done : s.done + 1 = 2 ^ ops.length
  stages : stagesOk P gl tm ops (ancs ops []) s ops 0 = true

section steps
variable {P : Program} {gl : Glob} {orc : Orc} {ops : List Oper} {tm : Tr} {H0 : AHeap} {s : DSt}

theorem Checked.fact (c : Checked P gl orc ops tm H0 s) {i : Nat} (hi : i < ops.length) : Fact P gl ops (ancs ops []) tm s i := by
  refine c.di.fact i ?_
  have h : s.done = 2 ^ ops.length - 1 := by have := c.done; omega
  rw [bit_eq, h, Nat.testBit_two_pow_sub_one]; simpa using hi

theorem stagesOk_spec {an : List Nat} : ∀ (l : List Oper) (j k : Nat) (o : Oper), stagesOk P gl tm ops an s l j = true → l[k]? = some o → kind o = 1 →
    ∀ env v, At ops an tm s.vals (j + k) o env v → wantedE ops env o = true → stages P gl o env v (j + k) an (an.getD (j + k) 0) veq s.sts s.base = true ∨ stages P gl o env v (j + k) an (an.getD (j + k) 0) veq (mapE (earlyB (an.getD (j + k) 0) s.base s.new s.heap) s.sts) (earlyB (an.getD (j + k) 0) s.base s.new s.heap s.base) = true
  | [], j, k, o, h, ho, _, _, _, _, _ => by simp at ho
  | x :: l, j, k, o, h, ho, hk, env, v, hat, hw => by
    simp only [stagesOk, Bool.and_eq_true] at h
    cases k with
    | zero =>
      simp at ho; subst ho
      have h1 := h.1
      simp only [Nat.add_zero] at hat ⊢
      rw [hk] at h1
      simp only [hat.val, hat.env, hw, if_true] at h1
      simpa only [Nat.beq_refl, if_true, Bool.or_eq_true] using h1
    | succ k =>
      have := stagesOk_spec l (j + 1) k o h.2 (by simpa using ho) hk env v (by rw [show j + 1 + k = j + (k + 1) from by omega]; exact hat) hw
      rwa [show j + 1 + k = j + (k + 1) from by omega] at this

def curB (l : List (Nat × AHeap × List Nat)) (B : AHeap) : AHeap := match l with | [] => B | (_, C, _) :: _ => C

theorem mapE_app (F : AHeap → AHeap) (l l' : List (Nat × AHeap × List Nat)) : mapE F (l ++ l') = mapE F l ++ mapE F l' := by
  induction l with
  | nil => rfl
  | cons x l ih => obtain ⟨a, b, c⟩ := x; simp only [List.cons_append, mapE, ih]
theorem mapE_fst (F : AHeap → AHeap) (l : List (Nat × AHeap × List Nat)) : stFst (mapE F l) = stFst l := by
  induction l with
  | nil => rfl
  | cons x l ih => obtain ⟨a, b, c⟩ := x; simp only [mapE, stFst, ih]
theorem mapE_cur (F : AHeap → AHeap) (l : List (Nat × AHeap × List Nat)) (B : AHeap) : curB (mapE F l) (F B) = F (curB l B) := by
  cases l with
  | nil => rfl
  | cons x l => obtain ⟨a, b, c⟩ := x; rfl
theorem takeA_get {aj : Nat} : ∀ (nw : List Nat) (t : AHeap) (k : Nat) (o : AObj), (takeA aj nw t)[k]? = some o → ∃ j, nw[k]? = some j ∧ bit aj j = true ∧ t[k]? = some o
  | [], t, k, o, h => by simp [takeA] at h
  | j :: nw, [], k, o, h => by simp [takeA] at h
  | j :: nw, x :: t, k, o, h => by
    simp only [takeA] at h
    split at h
    · rename_i hb
      cases k with
      | zero => simp at h; subst h; exact ⟨j, rfl, hb, rfl⟩
      | succ k =>
        obtain ⟨j', h1, h2, h3⟩ := takeA_get nw t k o (by simpa using h)
        exact ⟨j', by simpa using h1, h2, by simpa using h3⟩
    · simp at h
theorem Allocs.get {an : List Nat} {vals : List (Option AV)} {B H : AHeap} {nw : List Nat} (h : Allocs P gl ops an tm vals B nw H) : ∀ (k j : Nat), nw[k]? = some j → ∃ body, IdOf P gl ops an tm vals j (B.length + k) body ∧ H[B.length + k]? = some ⟨true, B.length + k, 0, body⟩ := by
  induction h with
  | nil => intro k j hk; simp at hk
  | @snoc H nw i o env mk body hk ha hkd hw he hr ih =>
    intro k j hkj
    have hlen := hk.length
    rw [List.getElem?_append] at hkj
    split at hkj
    · rename_i hlt
      obtain ⟨body', h1, h2⟩ := ih k j hkj
      exact ⟨body', h1, by rw [List.getElem?_append_left (by omega)]; exact h2⟩
    · rename_i hge
      rw [List.getElem?_singleton] at hkj
      split at hkj
      · rename_i h0
        simp at hkj; subst hkj
        have e : B.length + k = H.length := by omega
        rw [e]
        exact ⟨body, ⟨o, env, mk, ha, hkd, hw, he⟩, by simp⟩
      · cases hkj

theorem stages_at {o : Oper} {env : List (Nat × AV)} {v : AV} {j : Nat} {an : List Nat} {aj : Nat} {D : Nat → Bool} (hj : D j = false) (hanc : ∀ k, bit aj k = true → D k = true) (hcl : ∀ e, D e = true → bit (an.getD e 0) j = true → D j = true) :
    ∀ (l1 l2 : List (Nat × AHeap × List Nat)) (B : AHeap), stages P gl o env v j an aj veq (l1 ++ l2) B = true → (∀ i ∈ stFst l1, D i = true) → (∀ i ∈ stFst l2, D i = false) →
      apure' P (evalE gl env) (curB l2 B) o = some v
  | [], [], B, h, _, _ => by
    simp only [List.append_nil, stages] at h
    split at h <;> try (simp at h; done)
    rename_i u hu
    show apure' P (evalE gl env) B o = some v
    rw [hu]; have := veq_eq _ _ h; rw [this]
  | [], (e, C, nw) :: l2, B, h, _, h2 => by
    simp only [List.nil_append, stages] at h
    have he : D e = false := h2 e (by simp [stFst])
    split at h
    · rename_i hb; have := hanc e hb; rw [he] at this; cases this
    · simp only [Bool.and_eq_true] at h
      have h1 := h.1
      split at h1 <;> try (simp at h1; done)
      rename_i u hu
      show apure' P (evalE gl env) C o = some v
      rw [hu]; have := veq_eq _ _ h1; rw [this]
  | (e, C, nw) :: l1, l2, B, h, h1, h2 => by
    simp only [List.cons_append, stages] at h
    have he : D e = true := h1 e (by simp [stFst])
    have h1' : ∀ i ∈ stFst l1, D i = true := fun i hi => h1 i (by simp [stFst, hi])
    split at h
    · exact stages_at hj hanc hcl l1 l2 B h h1' h2
    · simp only [Bool.and_eq_true, Bool.or_eq_true] at h
      rcases h.2 with hb | hr
      · have := hcl e he hb; rw [hj] at this; cases this
      · exact stages_at hj hanc hcl l1 l2 B hr h1' h2

theorem chainOk_spec {an : List Nat} : ∀ (l : List Nat) (k e f : Nat), chainOk an l = true → l[k]? = some e → l[k + 1]? = some f → bit (an.getD f 0) e = true
  | [], k, e, f, h, h1, h2 => by simp at h1
  | [_], k, e, f, h, h1, h2 => by simp at h2
  | a :: b :: l, k, e, f, h, h1, h2 => by
    simp only [chainOk, Bool.and_eq_true] at h
    cases k with
    | zero => simp at h1 h2; subst h1; subst h2; exact h.1
    | succ k => exact chainOk_spec (b :: l) k e f h.2 (by simpa using h1) (by simpa using h2)

theorem stFst_app (l l' : List (Nat × AHeap × List Nat)) : stFst (l ++ l') = stFst l ++ stFst l' := by
  induction l with
  | nil => rfl
  | cons x l ih => obtain ⟨a, b, c⟩ := x; simp [stFst, ih]

theorem putLR {sn : Snap} {ι : IMap} {a : Act} {d : Option Tmp} {t : Nat} {u v0 : AV} {v : Value} {x : Option AV}
    (hold : ∀ u, x = some u → ∃ y, a.tmps[t]? = some y ∧ VR sn ι u y) (hv : VR sn ι v0 v) (h : (if (match d with | some d => Nat.beq d t | none => false) = true then some v0 else x) = some u) (hin : ∀ d', d = some d' → d' < a.tmps.size) :
    ∃ y, (a.put d v).tmps[t]? = some y ∧ VR sn ι u y := by
  cases d with
  | none => simp at h; exact hold u h
  | some d =>
    have h : (if Nat.beq d t = true then some v0 else x) = some u := h
    simp only [Act.put, Array.getElem?_setIfInBounds]
    split at h
    · rename_i hd
      have := Nat.eq_of_beq_eq_true hd; subst this
      simp at h; subst h
      have := hin d rfl
      exact ⟨v, by simp [this], hv⟩
    · rename_i hd
      have hne : d ≠ t := by rintro rfl; exact hd (by simp)
      rw [if_neg hne]; exact hold u h

/-- The environment of an operation that is ready is what its temporaries hold. -/
theorem env_at (c : Checked P gl orc ops tm H0 s) {D : Nat → Bool} (hD : Closed ops D) {i : Nat} {o : Oper} {env : List (Nat × AV)} {v : AV} (hat : At ops (ancs ops []) tm s.vals i o env v)
    (hanc : ∀ k, bit ((ancs ops []).getD i 0) k = true → D k = true) (hi : D i = false) : ∀ t u, alook t env = some u → lastW s.vals D t ops 0 (tget tm t) = some u := by
  intro t u h
  obtain ⟨hmem, hl⟩ := envOf_look _ _ hat.env t u h
  rw [← hl]
  refine lastW_congr ops 0 _ fun k x hx hd => ?_
  have hok := tmpsOk_spec ops 0 i o c.tmps hat.op
  simp only [tmpsOkAt, Bool.and_eq_true, Nat.zero_add] at hok
  have hw := List.all_eq_true.1 hok.1 t hmem
  have := writersOk_spec ops 0 k x hw hx hd
  simp only [Nat.zero_add] at this ⊢
  rcases this with rfl | h1 | h1
  · rw [hi]
    cases hb : bit ((ancs ops []).getD k 0) k with
    | false => rfl
    | true => have := hanc k hb; rw [hi] at this; cases this
  · rw [h1, hanc k h1]
  · cases hDk : D k with
    | false =>
      cases hb : bit ((ancs ops []).getD i 0) k with
      | false => rfl
      | true => have := hanc k hb; rw [hDk] at this; cases this
    | true =>
      have := closed_anc hD k i x hx (fun e he hb => hD k x hx hDk e he hb) h1
      rw [hi] at this; cases this

/-- What the temporaries hold when one more has run. -/
theorem lastW_next (c : Checked P gl orc ops tm H0 s) {D D' : Nat → Bool} (hD : Closed ops D) {i : Nat} {o : Oper} {env : List (Nat × AV)} {v : AV} (hat : At ops (ancs ops []) tm s.vals i o env v)
    (hi : D i = false) (hD' : ∀ k, D' k = (D k || Nat.beq k i)) (t : Nat) : lastW s.vals D' t ops 0 (tget tm t) = if dstIs o t = true then some v else lastW s.vals D t ops 0 (tget tm t) := by
  refine lastW_add ops 0 _ o hat.op (by simpa using hat.val) (by simpa using hD') ?_ (by simpa using hi)
  intro k x hx h1 h2 h3
  simp only [Nat.zero_add]
  have hok := tmpsOk_spec ops 0 i o c.tmps hat.op
  simp only [tmpsOkAt, Bool.and_eq_true, Nat.zero_add] at hok
  have hd : ∃ d, o.dst = some d ∧ d = t := by
    unfold dstIs at h1
    split at h1
    · rename_i d hd; exact ⟨d, hd, Nat.eq_of_beq_eq_true h1⟩
    · cases h1
  obtain ⟨d, hd, rfl⟩ := hd
  have hw := hok.2
  rw [hd] at hw
  have := writersOk_spec ops 0 k x hw hx h2
  simp only [Nat.zero_add] at this
  have hil : i < ops.length := (List.getElem?_eq_some_iff.1 hat.op).1
  rcases this with rfl | h4 | h4
  · omega
  · have hb := boundOk_spec (ancs ops []) 0 i c.bound (by rw [anc_length]; exact hil)
    simp only [Nat.zero_add] at hb
    have := bit_lt hb h4; omega
  · cases hDk : D k with
    | false => rfl
    | true =>
      have := closed_anc hD k i x hx (fun e he hb => hD k x hx hDk e he hb) h4
      rw [hi] at this; cases this

theorem wantedE_eq {sn : Snap} {ι : IMap} {a : Act} {ops : Array Oper} {an : List Nat} {o : Oper} {env : List (Nat × AV)} {v : AV} {i : Nat} {vals : List (Option AV)} (hat : At ops.toList an tm vals i o env v)
    (hv : ∀ t u, alook t env = some u → ∃ y, a.tmps[t]? = some y ∧ VR sn ι u y) : Region.wanted o (yielded ops a.tmps) = wantedE ops.toList env o := by
  unfold Region.wanted wantedE
  cases hg : o.guard with
  | none => rfl
  | some jw =>
    obtain ⟨j, want⟩ := jw
    simp only [Array.getElem?_toList]
    cases hj : ops[j]? with
    | none => simp [yielded, hj]
    | some g =>
      simp only
      cases hd : g.dst with
      | none => simp [yielded, hj, hd]
      | some d =>
        simp only
        have hmem : d ∈ looks ops.toList o := by simp [looks, hg, Array.getElem?_toList, hj, hd]
        obtain ⟨u, hu⟩ := envOf_mem _ _ hat.env d hmem
        obtain ⟨y, h1, h2⟩ := hv d u hu
        rw [hu]
        unfold yielded
        simp only [hj, Option.bind_some, hd, h1]
        cases u with
        | bool b => cases h2.bool; simp
        | _ => simp only [VR] at h2; cases y <;> first | rfl | (exfalso; simp at h2)

theorem evalE_sound {sn : Snap} {ι : IMap} {a : Act} {env : List (Nat × AV)} (hg : GlOK gl sn) (hv : ∀ t u, alook t env = some u → ∃ y, a.tmps[t]? = some y ∧ VR sn ι u y) :
    ∀ x u, evalE gl env x = some u → VR sn ι u (a.eval x) := by
  intro x u h
  cases x with
  | tmp t =>
    obtain ⟨v, h1, h2⟩ := hv t u h
    have : a.eval (.tmp t) = v := by simp [Act.eval, Array.getD_eq_getD_getElem?, h1]
    rw [this]; exact h2
  | const v => exact ofV_VR v u h
  | global g =>
    simp only [evalE] at h; split at h <;> simp at h
    subst h; rename_i cs hcs
    simp only [VR, Act.eval]; exact ⟨g, 0, rfl, hg g cs hcs⟩
  | func f => simp [evalE] at h; subst h; simp [VR, Act.eval, LR]
theorem finTmps_tex {vals : List (Option AV)} : ∀ {l : List Oper} {i : Nat} {tm tm' : Tr}, finTmps vals l i tm = some tm' → ∀ t, tex tm' t = tex tm t
  | [], i, tm, tm', h, t => by simp [finTmps] at h; subst h; rfl
  | o :: l, i, tm, tm', h, t => by
    simp only [finTmps] at h
    split at h <;> try (simp at h; done)
    split at h <;> try (simp at h; done)
    rename_i tm1 hp
    rw [finTmps_tex h t]
    cases hd : o.dst with
    | none => rw [hd] at hp; simp [putT] at hp; subst hp; rfl
    | some d => rw [hd] at hp; exact (tset_get _ _ _ _ hp).2.2 t

/-- The whole region's temporaries. -/
theorem finTmps_spec {vals : List (Option AV)} : ∀ (l : List Oper) (i : Nat) (tm tm' : Tr), finTmps vals l i tm = some tm' →
    (∀ o ∈ l, ∀ d, o.dst = some d → tex tm d = true) ∧ ∀ t (acc : Option AV), acc = tget tm t → tget tm' t = lastW vals (fun _ => true) t l i acc
  | [], i, tm, tm', h => by simp [finTmps] at h; subst h; exact ⟨by simp, fun t acc e => by simp [lastW, e]⟩
  | o :: l, i, tm, tm', h => by
    simp only [finTmps] at h
    split at h <;> try (simp at h; done)
    rename_i v hv
    split at h <;> try (simp at h; done)
    rename_i tm1 hp
    obtain ⟨h1, h2⟩ := finTmps_spec l (i + 1) tm1 tm' h
    have hput : (∀ d, o.dst = some d → tex tm d = true) ∧ (∀ t, tget tm1 t = if dstIs o t = true then some v else tget tm t) ∧ ∀ t, tex tm1 t = tex tm t := by
      unfold dstIs
      cases hd : o.dst with
      | none => rw [hd] at hp; simp [putT] at hp; subst hp; exact ⟨by simp, by simp, fun _ => rfl⟩
      | some d =>
        rw [hd] at hp
        obtain ⟨h3, h4, h5⟩ := tset_get _ _ _ _ hp
        refine ⟨fun d' e => by simp at e; subst e; exact h3, fun t => ?_, h5⟩
        rw [h4]
        by_cases e : t = d
        · simp [e]
        · rw [if_neg e, if_neg]; simpa using Ne.symm e
    refine ⟨?_, ?_⟩
    · intro x hx d hd
      rcases List.mem_cons.1 hx with rfl | hx
      · exact hput.1 d hd
      · have hy := h1 x hx d hd
        rw [hput.2.2] at hy; exact hy
    · intro t acc e
      rw [h2 t _ rfl, lastW]
      congr 1
      rw [hput.2.1, hv, e]; simp
end steps
end Go.Abs

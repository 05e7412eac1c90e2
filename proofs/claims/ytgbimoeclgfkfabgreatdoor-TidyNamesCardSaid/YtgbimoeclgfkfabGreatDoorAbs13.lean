/-
  A verified abstract interpreter, part 13: regions that draw their order: what is ahead of what, who set a temporary last.
-/
import Derived.Test.YtgbimoeclgfkfabGreatDoorAbs12
set_option linter.unusedSimpArgs false
set_option linter.unusedVariables false
namespace Go.Abs
open Go.RowKit

theorem bit_eq (m j : Nat) : bit m j = Nat.testBit m j := by
  unfold bit Nat.testBit
  have e : Nat.land (Nat.shiftRight m j) 1 = (m >>> j) % 2 := by
    show (m >>> j) &&& 1 = _
    rw [Nat.and_one_is_mod]
  have e' : 1 &&& (m >>> j) = (m >>> j) % 2 := by rw [Nat.and_comm, Nat.and_one_is_mod]
  rw [e, e']
  have : (m >>> j) % 2 = 0 ∨ (m >>> j) % 2 = 1 := by omega
  rcases this with h | h <;> rw [h] <;> rfl

theorem bit_lor (a b k : Nat) : bit (Nat.lor a b) k = (bit a k || bit b k) := by
  rw [bit_eq, bit_eq, bit_eq]; exact Nat.testBit_or a b k
theorem bit_pow (j k : Nat) : bit (2 ^ j) k = decide (j = k) := by
  rw [bit_eq, Nat.testBit_two_pow]
theorem bit_zero (k : Nat) : bit 0 k = false := by rw [bit_eq]; simp
theorem bit_lt {m n k : Nat} (h : m < 2 ^ n) (hb : bit m k = true) : k < n := by
  rw [bit_eq] at hb
  rcases Nat.lt_or_ge k n with hk | hk
  · exact hk
  · have : m < 2 ^ k := Nat.lt_of_lt_of_le h (Nat.pow_le_pow_right (by decide) hk)
    rw [Nat.testBit_lt_two_pow this] at hb; cases hb

theorem edgeMask_bit (acc : List Nat) (k : Nat) : ∀ (es : List Edge), bit (edgeMask acc es) k = true ↔ ∃ e ∈ es, Region.binds .any e = true ∧ (e.on = k ∨ bit (acc.getD e.on 0) k = true)
  | [] => by simp [edgeMask, bit_zero]
  | e :: es => by
    simp only [edgeMask]
    split
    · rename_i hb
      rw [bit_lor, bit_lor, bit_pow]
      simp only [Bool.or_eq_true, decide_eq_true_eq, edgeMask_bit acc k es, List.mem_cons, exists_eq_or_imp, hb, true_and]
    · rename_i hb
      rw [edgeMask_bit acc k es]
      simp only [List.mem_cons, exists_eq_or_imp, hb, false_and, Bool.false_eq_true, false_or]

theorem ancs_spec : ∀ (l : List Oper) (acc : List Nat), ∃ r, ancs l acc = acc ++ r ∧ r.length = l.length ∧ ∀ j o, l[j]? = some o → r[j]? = some (edgeMask ((acc ++ r).take (acc.length + j)) o.after.toList)
  | [], acc => ⟨[], by simp [ancs], rfl, by simp⟩
  | o :: l, acc => by
    obtain ⟨r, h1, h2, h3⟩ := ancs_spec l (acc ++ [edgeMask acc o.after.toList])
    refine ⟨edgeMask acc o.after.toList :: r, by simp [ancs, h1], by simp [h2], fun j x hx => ?_⟩
    cases j with
    | zero => simp at hx; subst hx; simp
    | succ j =>
      simp at hx
      have := h3 j x hx
      simp only [List.getElem?_cons_succ]
      rw [this]
      simp only [List.append_assoc, List.singleton_append, List.length_append, List.length_singleton]
      congr 3; omega

theorem anc_spec {ops : List Oper} {i k : Nat} {o : Oper} (ho : ops[i]? = some o) (h : bit ((ancs ops []).getD i 0) k = true) :
    ∃ e ∈ o.after.toList, Region.binds .any e = true ∧ (e.on = k ∨ (e.on < i ∧ bit ((ancs ops []).getD e.on 0) k = true)) := by
  obtain ⟨r, h1, h2, h3⟩ := ancs_spec ops []
  simp only [List.nil_append] at h1 h3
  rw [h1] at h ⊢
  have := h3 i o ho
  rw [List.getD, this] at h
  simp only [Option.getD_some, List.length_nil, Nat.zero_add] at h
  obtain ⟨e, he, hb, hc⟩ := (edgeMask_bit _ _ _).1 h
  refine ⟨e, he, hb, hc.imp id fun hc => ?_⟩
  by_cases hlt : e.on < i
  · refine ⟨hlt, ?_⟩
    have : (List.take i r).getD e.on 0 = r.getD e.on 0 := by simp [List.getD, List.getElem?_take, hlt]
    rw [this] at hc; exact hc
  · have : (List.take i r).getD e.on 0 = 0 := by simp [List.getD, List.getElem?_take, hlt]
    rw [this, bit_zero] at hc; cases hc

theorem boundOk_spec : ∀ (l : List Nat) (i j : Nat), boundOk l i = true → j < l.length → l.getD j 0 < 2 ^ (i + j)
  | [], i, j, h, hj => by simp at hj
  | a :: l, i, j, h, hj => by
    simp only [boundOk, Bool.and_eq_true] at h
    cases j with
    | zero => simpa [Nat.blt_eq] using h.1
    | succ j => have := boundOk_spec l (i + 1) j h.2 (by simpa using hj); rw [show i + (j + 1) = i + 1 + j from by omega]; simpa using this

/-- Those that a set holds, hold what is ahead of them. -/
def Closed (ops : List Oper) (D : Nat → Bool) : Prop := ∀ i o, ops[i]? = some o → D i = true → ∀ e ∈ o.after.toList, Region.binds .any e = true → D e.on = true

theorem closed_anc {ops : List Oper} {D : Nat → Bool} (hD : Closed ops D) : ∀ (i k : Nat) (o : Oper), ops[i]? = some o → (∀ e ∈ o.after.toList, Region.binds .any e = true → D e.on = true) → bit ((ancs ops []).getD i 0) k = true → D k = true := by
  intro i
  induction i using Nat.strongRecOn with
  | _ i ih =>
    intro k o ho hd hb
    obtain ⟨e, he, hbi, hc⟩ := anc_spec ho hb
    rcases hc with rfl | ⟨hlt, hc⟩
    · exact hd e he hbi
    · have hil : i < ops.length := (List.getElem?_eq_some_iff.1 ho).1
      have hx : ops[e.on]? = some ops[e.on] := List.getElem?_eq_getElem (by omega)
      exact ih e.on hlt k _ hx (hD e.on _ hx (hd e he hbi)) hc

/-! who set a temporary last -/
def VLe (vals vals' : List (Option AV)) : Prop := ∀ (i : Nat) (v : AV), vals[i]? = some (some v) → vals'[i]? = some (some v)

theorem VLe.refl (vals : List (Option AV)) : VLe vals vals := fun _ _ h => h
theorem VLe.trans {a b c : List (Option AV)} (h : VLe a b) (k : VLe b c) : VLe a c := fun i v e => k i v (h i v e)

theorem lastW_mono {vals vals' : List (Option AV)} (h : VLe vals vals') {D : Nat → Bool} {t : Nat} : ∀ (l : List Oper) (i : Nat) (acc acc' : Option AV), (∀ v, acc = some v → acc' = some v) → ∀ v, lastW vals D t l i acc = some v → lastW vals' D t l i acc' = some v
  | [], i, acc, acc', ha, v, e => ha v e
  | o :: l, i, acc, acc', ha, v, e => by
    simp only [lastW] at e ⊢
    refine lastW_mono h l (i + 1) _ _ ?_ v e
    intro u hu
    split at hu
    · rename_i hc
      rw [if_pos hc]
      split at hu
      · rename_i x hx
        subst hu
        rw [h i u hx]
      · cases hu
    · rename_i hc
      rw [if_neg hc]; exact ha u hu

theorem lastW_congr {vals : List (Option AV)} {D D' : Nat → Bool} {t : Nat} : ∀ (l : List Oper) (i : Nat) (acc : Option AV), (∀ k o, l[k]? = some o → dstIs o t = true → D (i + k) = D' (i + k)) → lastW vals D t l i acc = lastW vals D' t l i acc
  | [], i, acc, h => rfl
  | o :: l, i, acc, h => by
    simp only [lastW]
    have h0 : (dstIs o t && D i) = (dstIs o t && D' i) := by
      cases hd : dstIs o t with
      | false => rfl
      | true => have := h 0 o rfl hd; simpa using this
    rw [h0]
    exact lastW_congr l (i + 1) _ fun k x hx hd => by have := h (k + 1) x (by simpa using hx) hd; rwa [show i + (k + 1) = i + 1 + k from by omega] at this

theorem lastW_none {vals : List (Option AV)} {D : Nat → Bool} {t : Nat} : ∀ (l : List Oper) (i : Nat) (acc : Option AV), (∀ k o, l[k]? = some o → dstIs o t = true → D (i + k) = false) → lastW vals D t l i acc = acc
  | [], i, acc, h => rfl
  | o :: l, i, acc, h => by
    simp only [lastW]
    have h0 : (dstIs o t && D i) = false := by
      cases hd : dstIs o t with
      | false => rfl
      | true => have := h 0 o rfl hd; simpa using this
    rw [h0]
    exact lastW_none l (i + 1) _ fun k x hx hd => by have := h (k + 1) x (by simpa using hx) hd; rwa [show i + (k + 1) = i + 1 + k from by omega] at this

/-- One more has run, and nobody behind it that sets the same. -/
theorem lastW_add {vals : List (Option AV)} {D D' : Nat → Bool} {t j : Nat} {v : AV} : ∀ (l : List Oper) (i : Nat) (acc : Option AV) (o : Oper), l[j]? = some o → vals[i + j]? = some (some v) → (∀ k, D' k = (D k || Nat.beq k (i + j))) →
    (∀ k x, l[k]? = some x → dstIs o t = true → dstIs x t = true → j < k → D (i + k) = false) → D (i + j) = false →
    lastW vals D' t l i acc = if dstIs o t = true then some v else lastW vals D t l i acc
  | [], i, acc, o, ho, hv, hD, hlast, hj => by simp at ho
  | x :: l, i, acc, o, ho, hv, hD, hlast, hj => by
    cases j with
    | zero =>
      simp at ho; subst ho
      simp only [Nat.add_zero] at hv hj hD
      simp only [lastW]
      have hDi : D' i = true := by rw [hD]; simp
      rw [hDi, hj]
      simp only [Bool.and_true, Bool.and_false, Bool.false_eq_true, if_false, hv]
      split
      · rename_i hd
        refine lastW_none l (i + 1) _ fun k y hy hdy => ?_
        have h1 := hlast (k + 1) y (by simpa using hy) hd hdy (by omega)
        rw [hD, show i + 1 + k = i + (k + 1) from by omega, h1]
        have h2 : Nat.beq (i + (k + 1)) i = false := by
          cases hq : Nat.beq (i + (k + 1)) i with
          | false => rfl
          | true => have := Nat.eq_of_beq_eq_true hq; omega
        rw [h2]; rfl
      · rename_i hd
        refine lastW_congr l (i + 1) acc fun k y hy _ => ?_
        rw [hD]
        have h2 : Nat.beq (i + 1 + k) i = false := by
          cases hq : Nat.beq (i + 1 + k) i with
          | false => rfl
          | true => have := Nat.eq_of_beq_eq_true hq; omega
        rw [h2]; simp
    | succ j =>
      simp at ho
      simp only [lastW]
      have hDi : D' i = D i := by
        rw [hD]
        have h2 : Nat.beq i (i + (j + 1)) = false := by
          cases hq : Nat.beq i (i + (j + 1)) with
          | false => rfl
          | true => have := Nat.eq_of_beq_eq_true hq; omega
        rw [h2]; simp
      rw [hDi]
      exact lastW_add l (i + 1) _ o ho (by rw [show i + 1 + j = i + (j + 1) from by omega]; exact hv) (fun k => by rw [hD, show i + 1 + j = i + (j + 1) from by omega])
        (fun k y hy h1 h2 h3 => by have := hlast (k + 1) y (by simpa using hy) h1 h2 (by omega); rwa [show i + 1 + k = i + (k + 1) from by omega])
        (by rw [show i + 1 + j = i + (j + 1) from by omega]; exact hj)

theorem envOf_mono {tm : Tr} {vals vals' : List (Option AV)} (h : VLe vals vals') {ops : List Oper} {D : Nat → Bool} : ∀ (ts : List Nat) (env : List (Nat × AV)), envOf tm vals ops D ts = some env → envOf tm vals' ops D ts = some env
  | [], env, e => by simpa [envOf] using e
  | t :: ts, env, e => by
    simp only [envOf] at e
    split at e <;> simp at e
    subst e; rename_i v e' hv he
    simp only [envOf, lastW_mono h ops 0 _ _ (fun _ h => h) v hv, envOf_mono h ts e' he]

theorem envOf_look {tm : Tr} {vals : List (Option AV)} {ops : List Oper} {D : Nat → Bool} : ∀ (ts : List Nat) (env : List (Nat × AV)), envOf tm vals ops D ts = some env →
    ∀ t u, alook t env = some u → t ∈ ts ∧ lastW vals D t ops 0 (tget tm t) = some u
  | [], env, e, t, u, h => by simp [envOf] at e; subst e; simp [alook] at h
  | s :: ts, env, e, t, u, h => by
    simp only [envOf] at e
    split at e <;> simp at e
    subst e; rename_i v e' hv he
    simp only [alook] at h
    split at h
    · rename_i hst
      have := Nat.eq_of_beq_eq_true hst; subst this
      simp at h; subst h; exact ⟨by simp, hv⟩
    · obtain ⟨h1, h2⟩ := envOf_look ts e' he t u h
      exact ⟨by simp [h1], h2⟩

theorem envOf_mem {tm : Tr} {vals : List (Option AV)} {ops : List Oper} {D : Nat → Bool} : ∀ (ts : List Nat) (env : List (Nat × AV)), envOf tm vals ops D ts = some env → ∀ t, t ∈ ts → ∃ u, alook t env = some u
  | [], env, e, t, h => by simp at h
  | s :: ts, env, e, t, h => by
    simp only [envOf] at e
    split at e <;> simp at e
    subst e; rename_i v e' hv he
    simp only [alook]
    split
    · exact ⟨v, rfl⟩
    · rename_i hst
      rcases List.mem_cons.1 h with rfl | h
      · exfalso; exact hst (by simp)
      · exact envOf_mem ts e' he t h

theorem writersOk_spec {an : List Nat} {j t : Nat} : ∀ (l : List Oper) (i k : Nat) (o : Oper), writersOk an j t l i = true → l[k]? = some o → dstIs o t = true → i + k = j ∨ bit (an.getD j 0) (i + k) = true ∨ bit (an.getD (i + k) 0) j = true
  | [], i, k, o, h, ho, hd => by simp at ho
  | x :: l, i, k, o, h, ho, hd => by
    simp only [writersOk, Bool.and_eq_true, Bool.or_eq_true, Bool.not_eq_true'] at h
    cases k with
    | zero =>
      simp at ho; subst ho
      rw [hd] at h
      rcases h.1 with ((h1 | h1) | h1) | h1
      · cases h1
      · exact .inl (by simpa using h1)
      · exact .inr (.inl (by simpa using h1))
      · exact .inr (.inr (by simpa using h1))
    | succ k =>
      have := writersOk_spec l (i + 1) k o h.2 (by simpa using ho) hd
      rwa [show i + 1 + k = i + (k + 1) from by omega] at this

theorem tmpsOk_spec {ops : List Oper} {an : List Nat} : ∀ (l : List Oper) (i j : Nat) (o : Oper), tmpsOk ops an l i = true → l[j]? = some o → tmpsOkAt ops an (i + j) o = true
  | [], i, j, o, h, ho => by simp at ho
  | x :: l, i, j, o, h, ho => by
    simp only [tmpsOk, Bool.and_eq_true] at h
    cases j with
    | zero => simp at ho; subst ho; simpa using h.1
    | succ j => have := tmpsOk_spec l (i + 1) j o h.2 (by simpa using ho); rwa [show i + 1 + j = i + (j + 1) from by omega] at this

theorem mem_opTmps {t : Nat} : ∀ (l : List Operand), Operand.tmp t ∈ l → t ∈ opTmps l
  | [], h => by simp at h
  | x :: l, h => by
    rcases List.mem_cons.1 h with rfl | h'
    · simp [opTmps]
    · have := mem_opTmps l h'
      cases x <;> simp [opTmps, this]

mutual
theorem veq_eq : ∀ (a b : AV), veq a b = true → a = b
  | .bool a, b, h => by cases b <;> simp [veq] at h; subst h; rfl
  | .int k a, b, h => by cases b <;> simp [veq] at h; obtain ⟨rfl, rfl⟩ := h; rfl
  | .str a, b, h => by cases b <;> simp [veq] at h; subst h; rfl
  | .nptr, b, h => by cases b <;> simp [veq] at h; rfl
  | .ptr a c, b, h => by cases b <;> simp [veq] at h; obtain ⟨rfl, rfl⟩ := h; rfl
  | .rp a, b, h => by cases b <;> simp [veq] at h; rw [veqL_eq _ _ h]
  | .nslice, b, h => by cases b <;> simp [veq] at h; rfl
  | .slice a c d e f, b, h => by cases b <;> simp [veq] at h; obtain ⟨⟨⟨⟨rfl, rfl⟩, rfl⟩, rfl⟩, rfl⟩ := h; rfl
  | .rs n z a, b, h => by cases b <;> simp [veq] at h; obtain ⟨⟨rfl, rfl⟩, h⟩ := h; rw [veqL_eq _ _ h]
  | .nmap, b, h => by cases b <;> simp [veq] at h; rfl
  | .map a, b, h => by cases b <;> simp [veq] at h; subst h; rfl
  | .nfunc, b, h => by cases b <;> simp [veq] at h; rfl
  | .niface, b, h => by cases b <;> simp [veq] at h; rfl
  | .agg a, b, h => by cases b <;> simp [veq] at h; rw [veqL_eq _ _ h]
  | .tuple a, b, h => by cases b <;> simp [veq] at h; rw [veqL_eq _ _ h]
  | .func f a c, b, h => by cases b <;> simp [veq] at h; obtain ⟨⟨rfl, h1⟩, h2⟩ := h; rw [veqL_eq _ _ h1, veqL_eq _ _ h2]
  | .iface t a, b, h => by cases b <;> simp [veq] at h; obtain ⟨rfl, h⟩ := h; rw [veq_eq _ _ h]
theorem veqL_eq : ∀ (a b : List AV), veqL a b = true → a = b
  | [], b, h => by cases b <;> simp [veqL] at h; rfl
  | a :: l, b, h => by cases b <;> simp [veqL] at h; rw [veq_eq _ _ h.1, veqL_eq _ _ h.2]
end

/-! names within bounds -/
mutual
theorem refs_acc : ∀ (v : AV) (acc : List Nat) (x : Nat), x ∈ acc → x ∈ refs v acc
  | .ptr b _, acc, x, h => by simp [refs, h]
  | .slice b _ _ _ _, acc, x, h => by simp [refs, h]
  | .map b, acc, x, h => by simp [refs, h]
  | .func _ f c, acc, x, h => by simp only [refs]; exact refsL_acc f _ x (refsL_acc c _ x h)
  | .iface _ v, acc, x, h => by simp only [refs]; exact refs_acc v _ x h
  | .agg cs, acc, x, h => by simp only [refs]; exact refsL_acc cs _ x h
  | .tuple cs, acc, x, h => by simp only [refs]; exact refsL_acc cs _ x h
  | .bool _, acc, x, h => by simpa [refs] using h
  | .int _ _, acc, x, h => by simpa [refs] using h
  | .str _, acc, x, h => by simpa [refs] using h
  | .nptr, acc, x, h => by simpa [refs] using h
  | .rp _, acc, x, h => by simpa [refs] using h
  | .nslice, acc, x, h => by simpa [refs] using h
  | .rs _ _ _, acc, x, h => by simpa [refs] using h
  | .nmap, acc, x, h => by simpa [refs] using h
  | .nfunc, acc, x, h => by simpa [refs] using h
  | .niface, acc, x, h => by simpa [refs] using h
theorem refsL_acc : ∀ (l : List AV) (acc : List Nat) (x : Nat), x ∈ acc → x ∈ refsL l acc
  | [], acc, x, h => by simpa [refsL] using h
  | v :: l, acc, x, h => by simp only [refsL]; exact refs_acc v _ x (refsL_acc l _ x h)
end

mutual
/-- Two ways to name blocks that agree on a value's names. -/
theorem VR_refs {sn : Snap} {ι ι' : IMap} : ∀ (u : AV) (acc : List Nat) (v : Value), (∀ b, b ∈ refs u acc → ∀ p, ι b = some p → ι' b = some p) → VR sn ι u v → VR sn ι' u v
  | .ptr b off, acc, v, h, e => by simp only [VR] at *; obtain ⟨p, h1, h2⟩ := e; exact ⟨p, h b (by simp [refs]) p h1, h2⟩
  | .slice b off len cap z, acc, v, h, e => by simp only [VR] at *; obtain ⟨p, a, c, h1, h2⟩ := e; exact ⟨p, a, c, h b (by simp [refs]) p h1, h2⟩
  | .map b, acc, v, h, e => by simp only [VR] at *; obtain ⟨p, h1, h2⟩ := e; exact ⟨p, h b (by simp [refs]) p h1, h2⟩
  | .func fn first captured, acc, v, h, e => by
    simp only [VR] at *; obtain ⟨f, c, h1, h2, h3⟩ := e
    exact ⟨f, c, h1, LR_refs first (refsL captured acc) _ (fun b hb => h b (by simpa [refs] using hb)) h2,
      LR_refs captured acc _ (fun b hb => h b (by simp only [refs]; exact refsL_acc first _ b hb)) h3⟩
  | .iface t u, acc, v, h, e => by simp only [VR] at *; obtain ⟨x, h1, h2⟩ := e; exact ⟨x, h1, VR_refs u acc _ (fun b hb => h b (by simpa [refs] using hb)) h2⟩
  | .agg cs, acc, v, h, e => by simp only [VR] at *; obtain ⟨x, h1, h2⟩ := e; exact ⟨x, h1, LR_refs cs acc _ (fun b hb => h b (by simpa [refs] using hb)) h2⟩
  | .tuple cs, acc, v, h, e => by simp only [VR] at *; obtain ⟨x, h1, h2⟩ := e; exact ⟨x, h1, LR_refs cs acc _ (fun b hb => h b (by simpa [refs] using hb)) h2⟩
  | .rp cs, acc, v, h, e => by simpa [VR] using e
  | .rs n z cs, acc, v, h, e => by simpa [VR] using e
  | .bool b, acc, v, h, e => by simpa [VR] using e
  | .int k n, acc, v, h, e => by simpa [VR] using e
  | .str s, acc, v, h, e => by simpa [VR] using e
  | .nptr, acc, v, h, e => by simpa [VR] using e
  | .nslice, acc, v, h, e => by simpa [VR] using e
  | .nmap, acc, v, h, e => by simpa [VR] using e
  | .nfunc, acc, v, h, e => by simpa [VR] using e
  | .niface, acc, v, h, e => by simpa [VR] using e
theorem LR_refs {sn : Snap} {ι ι' : IMap} : ∀ (us : List AV) (acc : List Nat) (vs : List Value), (∀ b, b ∈ refsL us acc → ∀ p, ι b = some p → ι' b = some p) → LR sn ι us vs → LR sn ι' us vs
  | [], acc, vs, h, e => by simpa [LR] using e
  | u :: us, acc, vs, h, e => by
    simp only [LR] at *; obtain ⟨d, ds, h1, h2, h3⟩ := e
    exact ⟨d, ds, h1, VR_refs u (refsL us acc) _ (fun b hb => h b (by simpa [refsL] using hb)) h2, LR_refs us acc _ (fun b hb => h b (by simp only [refsL]; exact refs_acc u _ b hb)) h3⟩
end

theorem refsEnv_mem : ∀ (env : List (Nat × AV)) (t : Nat) (u : AV), alook t env = some u → ∃ acc, ∀ b, b ∈ refs u acc → b ∈ refsEnv env []
  | [], t, u, h => by simp [alook] at h
  | (s, v) :: l, t, u, h => by
    simp only [alook] at h
    split at h
    · simp at h; subst h; exact ⟨refsEnv l [], fun b hb => by simpa [refsEnv] using hb⟩
    · obtain ⟨acc, h1⟩ := refsEnv_mem l t u h
      exact ⟨acc, fun b hb => by simp only [refsEnv]; exact refs_acc v _ b (h1 b hb)⟩

theorem allLt_spec {n : Nat} : ∀ {l : List Nat}, allLt n l = true → ∀ i ∈ l, i < n
  | [], _, i, hi => by simp at hi
  | j :: l, h, i, hi => by
    simp only [allLt, Bool.and_eq_true] at h
    rcases List.mem_cons.1 hi with rfl | hi
    · simpa [Nat.blt_eq] using h.1
    · exact allLt_spec h.2 i hi

theorem allBit_spec {m : Nat} : ∀ {l : List Nat}, allBit m l = true → ∀ i ∈ l, bit m i = true
  | [], _, i, hi => by simp at hi
  | j :: l, h, i, hi => by
    simp only [allBit, Bool.and_eq_true] at h
    rcases List.mem_cons.1 hi with rfl | hi
    · exact h.1
    · exact allBit_spec h.2 i hi
end Go.Abs

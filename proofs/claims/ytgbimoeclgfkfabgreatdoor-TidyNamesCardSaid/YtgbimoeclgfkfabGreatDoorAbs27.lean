/-
  A verified abstract interpreter, part 27: what a region that draws its order needs for the quick road: values compared, names within bounds, an operation looks at its operands alone.
-/
import Derived.Test.YtgbimoeclgfkfabGreatDoorAbs26
set_option linter.unusedSimpArgs false
set_option linter.unusedVariables false
namespace Go.Abs
open Go.RowKit

/-! values compared -/
noncomputable def ieq (a b : Int) : Bool := Int.rec (motive := fun _ => Int → Bool) (fun a b => Int.rec (fun b => Nat.beq a b) (fun _ => false) b) (fun a b => Int.rec (fun _ => false) (fun b => Nat.beq a b) b) a b
theorem ieq_eq {a b : Int} (h : ieq a b = true) : a = b := by
  cases a <;> cases b
  · exact congrArg _ (Nat.eq_of_beq_eq_true h)
  · cases h
  · cases h
  · exact congrArg _ (Nat.eq_of_beq_eq_true h)

/-- The plain values, quickly; the rest by the slow road. -/
noncomputable def veqF (v w : AV) : Bool :=
  onInt v (fun k n => onInt w (fun k' n' => iff' (Nat.beq (kix k) (kix k')) (ieq n n') false) false)
    (onStr v (fun s => onStr w (fun s' => eqS s s') false) (onBool v (fun b => onBool w (fun b' => iff' b b' (!b')) false) (onPtr v (fun b o => onPtr w (fun b' o' => iff' (Nat.beq b b') (Nat.beq o o') false) (fun _ => false) false) (fun _ => veq v w) (veq v w))))

theorem iff_true {b x : Bool} (h : iff' b x false = true) : b = true ∧ x = true := by
  cases b
  · cases h
  · exact ⟨rfl, h⟩

theorem veqF_eq {v w : AV} (h : veqF v w = true) : v = w := by
  unfold veqF at h
  cases v <;> try exact veq_eq _ _ h
  · rename_i b
    replace h : onBool w (fun b' => iff' b b' (!b')) false = true := h
    rcases onBool_cases w (fun b' => iff' b b' (!b')) false with ⟨b', rfl, e⟩ | ⟨_, e⟩ <;> rw [e] at h
    · cases b <;> cases b' <;> first | rfl | cases h
    · cases h
  · rename_i k n
    replace h : onInt w (fun k' n' => iff' (Nat.beq (kix k) (kix k')) (ieq n n') false) false = true := h
    rcases onInt_cases w (fun k' n' => iff' (Nat.beq (kix k) (kix k')) (ieq n n') false) false with ⟨k', n', rfl, e⟩ | e <;> rw [e] at h
    · obtain ⟨h1, h2⟩ := iff_true h
      rw [kix_inj h1, ieq_eq h2]
    · cases h
  · rename_i s
    replace h : onStr w (fun s' => eqS s s') false = true := h
    rcases onStr_cases w (fun s' => eqS s s') false with ⟨s', rfl, e⟩ | e <;> rw [e] at h
    · rw [eqS_eq] at h; simp at h; rw [h]
    · cases h
  · rename_i b o
    replace h : onPtr w (fun b' o' => iff' (Nat.beq b b') (Nat.beq o o') false) (fun _ => false) false = true := h
    rcases onPtr_cases w (fun b' o' => iff' (Nat.beq b b') (Nat.beq o o') false) (fun _ => false) false with ⟨b', o', rfl, e⟩ | ⟨_, _, e⟩ | e <;> rw [e] at h
    · obtain ⟨h1, h2⟩ := iff_true h
      rw [Nat.eq_of_beq_eq_true h1, Nat.eq_of_beq_eq_true h2]
    · cases h
    · cases h

mutual
theorem veq_refl : ∀ v : AV, veq v v = true
  | .bool b => by simp [veq]
  | .int k n => by simp [veq]
  | .str s => by simp [veq]
  | .nptr => rfl
  | .ptr b o => by simp [veq]
  | .rp cs => by simp [veq, veqL_refl cs]
  | .nslice => rfl
  | .slice b o l c z => by simp [veq]
  | .rs n z cs => by simp [veq, veqL_refl cs]
  | .nmap => rfl
  | .map b => by simp [veq]
  | .func f a b => by simp [veq, veqL_refl a, veqL_refl b]
  | .nfunc => rfl
  | .iface t v => by simp [veq, veq_refl v]
  | .niface => rfl
  | .agg cs => by simp [veq, veqL_refl cs]
  | .tuple vs => by simp [veq, veqL_refl vs]
theorem veqL_refl : ∀ l : List AV, veqL l l = true
  | [] => rfl
  | v :: l => by simp [veqL, veq_refl v, veqL_refl l]
end

/-! names within bounds -/
noncomputable def ltV (n : Nat) (v : AV) : Bool :=
  AV.rec (motive_1 := fun _ => Nat → Bool) (motive_2 := fun _ => Nat → Bool) (fun _ _ => true) (fun _ _ _ => true) (fun _ _ => true) (fun _ => true) (fun b _ n => Nat.blt b n) (fun _ _ _ => true) (fun _ => true)
    (fun b _ _ _ _ n => Nat.blt b n) (fun _ _ _ _ _ => true) (fun _ => true) (fun b n => Nat.blt b n) (fun _ _ _ iha ihb n => iff' (iha n) (ihb n) false) (fun _ => true) (fun _ _ ih n => ih n) (fun _ => true)
    (fun _ ih n => ih n) (fun _ ih n => ih n) (fun _ => true) (fun _ _ ihv ihl n => iff' (ihv n) (ihl n) false) v n
noncomputable def ltVI (n : Nat) (l : List AV) : Bool :=
  AV.rec_1 (motive_1 := fun _ => Nat → Bool) (motive_2 := fun _ => Nat → Bool) (fun _ _ => true) (fun _ _ _ => true) (fun _ _ => true) (fun _ => true) (fun b _ n => Nat.blt b n) (fun _ _ _ => true) (fun _ => true)
    (fun b _ _ _ _ n => Nat.blt b n) (fun _ _ _ _ _ => true) (fun _ => true) (fun b n => Nat.blt b n) (fun _ _ _ iha ihb n => iff' (iha n) (ihb n) false) (fun _ => true) (fun _ _ ih n => ih n) (fun _ => true)
    (fun _ ih n => ih n) (fun _ ih n => ih n) (fun _ => true) (fun _ _ ihv ihl n => iff' (ihv n) (ihl n) false) l n

mutual
theorem ltV_refs {n : Nat} : ∀ (v : AV) (acc : List Nat), ltV n v = true → (∀ x ∈ acc, x < n) → ∀ x ∈ refs v acc, x < n
  | .ptr b o, acc, h, ha => by
    have hb : Nat.blt b n = true := h
    have : b < n := by simpa [Nat.blt_eq] using hb
    intro x hx; simp only [refs, List.mem_cons] at hx
    rcases hx with rfl | hx
    · exact this
    · exact ha x hx
  | .slice b o l c z, acc, h, ha => by
    have hb : Nat.blt b n = true := h
    have : b < n := by simpa [Nat.blt_eq] using hb
    intro x hx; simp only [refs, List.mem_cons] at hx
    rcases hx with rfl | hx
    · exact this
    · exact ha x hx
  | .map b, acc, h, ha => by
    have hb : Nat.blt b n = true := h
    have : b < n := by simpa [Nat.blt_eq] using hb
    intro x hx; simp only [refs, List.mem_cons] at hx
    rcases hx with rfl | hx
    · exact this
    · exact ha x hx
  | .func f a b, acc, h, ha => by
    obtain ⟨h1, h2⟩ := iff_true (show iff' (ltVI n a) (ltVI n b) false = true from h)
    simp only [refs]
    exact ltVI_refs a _ h1 (ltVI_refs b acc h2 ha)
  | .iface t v, acc, h, ha => by simp only [refs]; exact ltV_refs v acc h ha
  | .agg cs, acc, h, ha => by simp only [refs]; exact ltVI_refs cs acc h ha
  | .tuple cs, acc, h, ha => by simp only [refs]; exact ltVI_refs cs acc h ha
  | .bool _, acc, h, ha => by simpa [refs] using ha
  | .int _ _, acc, h, ha => by simpa [refs] using ha
  | .str _, acc, h, ha => by simpa [refs] using ha
  | .nptr, acc, h, ha => by simpa [refs] using ha
  | .rp _, acc, h, ha => by simpa [refs] using ha
  | .nslice, acc, h, ha => by simpa [refs] using ha
  | .rs _ _ _, acc, h, ha => by simpa [refs] using ha
  | .nmap, acc, h, ha => by simpa [refs] using ha
  | .nfunc, acc, h, ha => by simpa [refs] using ha
  | .niface, acc, h, ha => by simpa [refs] using ha
theorem ltVI_refs {n : Nat} : ∀ (l : List AV) (acc : List Nat), ltVI n l = true → (∀ x ∈ acc, x < n) → ∀ x ∈ refsL l acc, x < n
  | [], acc, h, ha => by simpa [refsL] using ha
  | v :: l, acc, h, ha => by
    obtain ⟨h1, h2⟩ := iff_true (show iff' (ltV n v) (ltVI n l) false = true from h)
    simp only [refsL]
    exact ltV_refs v _ h1 (ltVI_refs l acc h2 ha)
end

noncomputable def ltL (n : Nat) (l : List AV) : Bool := List.rec true (fun v _ ih => iff' (ltV n v) ih false) l
theorem ltL_mem {n : Nat} : ∀ {l : List AV}, ltL n l = true → ∀ v ∈ l, ltV n v = true
  | [], h, v, hv => by simp at hv
  | u :: l, h, v, hv => by
    obtain ⟨h1, h2⟩ := iff_true (show iff' (ltV n u) (ltL n l) false = true from h)
    rcases List.mem_cons.1 hv with rfl | hv
    · exact h1
    · exact ltL_mem h2 v hv
theorem ltL_refs {n : Nat} : ∀ (l : List AV) (acc : List Nat), ltL n l = true → (∀ x ∈ acc, x < n) → ∀ x ∈ refsL l acc, x < n
  | [], acc, h, ha => by simpa [refsL] using ha
  | v :: l, acc, h, ha => by
    obtain ⟨h1, h2⟩ := iff_true (show iff' (ltV n v) (ltL n l) false = true from h)
    simp only [refsL]
    exact ltV_refs v _ h1 (ltL_refs l acc h2 ha)

theorem allLt_of {n : Nat} : ∀ {l : List Nat}, (∀ x ∈ l, x < n) → allLt n l = true
  | [], h => rfl
  | i :: l, h => by
    simp only [allLt, Bool.and_eq_true]
    exact ⟨by simpa [Nat.blt_eq] using h i (by simp), allLt_of fun x hx => h x (by simp [hx])⟩

/-- A new block: alive, names within bounds. -/
noncomputable def ltO (n : Nat) (o : AObj) : Bool :=
  AObj.rec (fun alive _ _ body => iff' alive (ABody.rec (motive := fun _ => Bool) (fun cs _ => ltL n cs) (fun es _ => List.rec true (fun _ _ _ => false) es) (fun _ _ => true) body) false) o
theorem ltO_spec {n : Nat} {o : AObj} (h : ltO n o = true) : o.alive = true ∧ allLt n (refsB o.body []) = true := by
  obtain ⟨alive, fam, sh, body⟩ := o
  obtain ⟨h1, h2⟩ := iff_true h
  refine ⟨h1, allLt_of ?_⟩
  cases body with
  | cells cs ty => exact ltL_refs cs [] h2 (by simp)
  | map es c =>
    cases es with
    | nil => simp [refsB, refsE]
    | cons e es => cases h2
  | siter s p => simp [refsB]

theorem refsEnv_lt {n : Nat} : ∀ {env : List (Nat × AV)}, (∀ t v, (t, v) ∈ env → ltV n v = true) → ∀ acc : List Nat, (∀ x ∈ acc, x < n) → ∀ x ∈ refsEnv env acc, x < n
  | [], h, acc, ha => by simpa [refsEnv] using ha
  | (t, v) :: l, h, acc, ha => by
    simp only [refsEnv]
    exact ltV_refs v _ (h t v (by simp)) (refsEnv_lt (fun t v hv => h t v (by simp [hv])) acc ha)

/-! an operation looks at its operands alone -/
section congr
variable {P : Program} {ρ ρ' : Operand → Option AV} {H : AHeap} {o : Oper} {orc : Orc}

theorem aevals_congr : ∀ {l : List Operand}, (∀ x ∈ l, ρ x = ρ' x) → aevals ρ l = aevals ρ' l
  | [], h => rfl
  | x :: l, h => by
    simp only [aevals]
    rw [h x (by simp), aevals_congr fun y hy => h y (by simp [hy])]

theorem aparts_congr : ∀ {l : List (Nat × Operand)}, (∀ p ∈ l, ρ p.2 = ρ' p.2) → aparts ρ l = aparts ρ' l
  | [], h => rfl
  | (i, x) :: l, h => by
    simp only [aparts]
    rw [h (i, x) (by simp), aparts_congr fun y hy => h y (by simp [hy])]

theorem aopt_congr : ∀ {x : Option Operand}, (∀ y, x = some y → ρ y = ρ' y) → aopt ρ x = aopt ρ' x
  | none, h => rfl
  | some x, h => by simp only [aopt]; rw [h x rfl]

theorem callee_congr {c : Call} (h : ∀ x ∈ c.operands.toList, ρ x = ρ' x) : callee ρ c = callee ρ' c := by
  unfold callee
  cases hc : c.callee with
  | value f =>
    have h1 : ρ f = ρ' f := h f (by simp [Call.operands, hc])
    have h2 : aevals ρ c.args.toList = aevals ρ' c.args.toList := aevals_congr fun x hx => h x (by simp [Call.operands, hc]; exact .inr (by simpa using hx))
    simp only [h1, h2]
  | _ => rfl

theorem call_args {c : Call} {l : List Operand} (hl : c.args.toList = l) (h : ∀ x ∈ c.operands.toList, ρ x = ρ' x) : ∀ x ∈ l, ρ x = ρ' x := by
  subst hl
  intro x hx
  exact h x (by simp only [Call.operands, Array.toList_append, List.mem_append]; exact .inr hx)

theorem apure_congr (h : ∀ x ∈ o.op.operands.toList, ρ x = ρ' x) : apure' P ρ H o = apure' P ρ' H o := by
  unfold apure' apure
  cases ho : o.op with
  | build t ps =>
    rw [ho] at h; simp only
    rw [aparts_congr (ρ := ρ) (ρ' := ρ') fun p hp => h p.2 (by simp only [Op.operands]; exact List.mem_map.2 ⟨p, hp, rfl⟩)]
  | makeFunc fn f c =>
    rw [ho] at h; simp only
    rw [aevals_congr (ρ := ρ) (ρ' := ρ') (l := f.toList) fun x hx => h x (by simp only [Op.operands, Array.toList_append, List.mem_append]; exact .inl hx),
      aevals_congr (ρ := ρ) (ρ' := ρ') (l := c.toList) fun x hx => h x (by simp only [Op.operands, Array.toList_append, List.mem_append]; exact .inr hx)]
  | slice t x lo hi mx =>
    rw [ho] at h
    cases mx with
    | some m =>
      cases hi with
      | none => rfl
      | some hi =>
        simp only
        have h1 : ρ x = ρ' x := h x (by simp [Op.operands])
        have h2 : aopt ρ lo = aopt ρ' lo := aopt_congr fun y hy => h y (by subst hy; simp [Op.operands])
        have h3 : ρ hi = ρ' hi := h hi (by simp [Op.operands])
        have h4 : ρ m = ρ' m := h m (by simp [Op.operands])
        rw [h1, h2, h3, h4]
    | none =>
      simp only
      have h1 : ρ x = ρ' x := h x (by simp [Op.operands])
      have h2 : aopt ρ lo = aopt ρ' lo := aopt_congr fun y hy => h y (by subst hy; simp [Op.operands])
      have h3 : aopt ρ hi = aopt ρ' hi := aopt_congr fun y hy => h y (by subst hy; simp [Op.operands])
      rw [h1, h2, h3]
  | call c =>
    rw [ho] at h
    have h' : ∀ x ∈ c.operands.toList, ρ x = ρ' x := h
    simp only
    cases hc : c.callee with
    | builtin b =>
      cases b <;> simp only
      all_goals first
        | rfl
        | (rw [aevals_congr (ρ := ρ) (ρ' := ρ') (call_args rfl h')])
        | (split
           · rename_i x t ts ha ht
             rw [call_args ha h' x (by simp)]
           · rfl)
    | _ => rfl
  | _ => (rw [ho] at h) <;> (simp only [Op.operands] at h; simp_all)

theorem aeff_congr (h : ∀ x ∈ o.op.operands.toList, ρ x = ρ' x) : aeff P ρ H o = aeff P ρ' H o := by
  unfold aeff
  cases ho : o.op with
  | buildSlice t len ps =>
    rw [ho] at h; simp only
    rw [aparts_congr (ρ := ρ) (ρ' := ρ') fun p hp => h p.2 (by simp only [Op.operands]; exact List.mem_map.2 ⟨p, hp, rfl⟩)]
  | call c =>
    rw [ho] at h
    have h' : ∀ x ∈ c.operands.toList, ρ x = ρ' x := h
    simp only
    cases hc : c.callee with
    | builtin b =>
      cases b <;> simp only
      all_goals first
        | rfl
        | (split
           · rename_i s x t ts ha ht
             rw [call_args ha h' x (by simp), call_args ha h' s (by simp)]
           · rfl)
        | (split
           · rename_i x ha
             rw [call_args ha h' x (by simp)]
           · rfl)
        | (split
           · rename_i x t ha ht
             rw [call_args ha h' x (by simp)]
           · rfl)
    | _ => rfl
  | makeMap t r => cases r <;> rfl
  | slice t x lo hi mx =>
    cases mx with
    | some m => rfl
    | none =>
      rw [ho] at h
      simp only
      have h1 : ρ x = ρ' x := h x (by simp [Op.operands])
      have h2 : aopt ρ lo = aopt ρ' lo := aopt_congr fun y hy => h y (by subst hy; simp [Op.operands])
      have h3 : aopt ρ hi = aopt ρ' hi := aopt_congr fun y hy => h y (by subst hy; simp [Op.operands])
      rw [h1, h2, h3]
  | _ => (rw [ho] at h) <;> (simp only [Op.operands] at h; simp_all)

theorem aop_congr (h : ∀ x ∈ o.op.operands.toList, ρ x = ρ' x) : aop P orc ρ o H = aop P orc ρ' o H := by
  unfold aop
  rw [apure_congr h, aeff_congr h]
  cases ho : o.op with
  | call c =>
    rw [ho] at h
    simp only [callee_congr (show ∀ x ∈ c.operands.toList, ρ x = ρ' x from h)]
  | _ => rfl

theorem aallocF_congr (h : ∀ x ∈ o.op.operands.toList, ρ x = ρ' x) : aallocF P ρ o = aallocF P ρ' o := by
  unfold aallocF
  cases ho : o.op with
  | buildSlice t len ps =>
    rw [ho] at h; simp only
    rw [aparts_congr (ρ := ρ) (ρ' := ρ') fun p hp => h p.2 (by simp only [Op.operands]; exact List.mem_map.2 ⟨p, hp, rfl⟩)]
  | makeMap t r => cases r <;> rfl
  | _ => (rw [ho] at h) <;> (simp only [Op.operands] at h; simp_all)

/-- A conversion that makes memory. -/
def oddC (P : Program) (o : Oper) : Bool := match o.op with
  | .convert s d _ => match P.underlying s, P.underlying d with | _, some (.slice _) => true | _, some .unsafePointer => true | some .unsafePointer, _ => true | _, _ => false
  | .slice t _ _ _ _ => match P.underlying t with | some (.array _ _) => true | _ => false
  | _ => false
def noOdd (P : Program) : List Oper → Bool
  | [] => true
  | o :: l => !oddC P o && noOdd P l
theorem noOdd_spec : ∀ {l : List Oper}, noOdd P l = true → ∀ o ∈ l, oddC P o = false
  | [], h, o, ho => by simp at ho
  | x :: l, h, o, ho => by
    simp only [noOdd, Bool.and_eq_true, Bool.not_eq_true'] at h
    rcases List.mem_cons.1 ho with rfl | ho
    · exact h.1
    · exact noOdd_spec h.2 o ho
theorem aop_low_inv (hk : kind o < 2) (hodd : oddC P o = false) {r : AV} {H' : AHeap} (h : aop P orc ρ o H = some (r, H')) : apure' P ρ H o = some r ∧ H' = H := by
  rw [aop_low (by omega)] at h
  have he : aeff P ρ H o = none := by
    unfold kind at hk
    unfold aeff
    cases ho : o.op with
    | call c =>
      simp only [ho] at hk ⊢
      cases hc : c.callee with
      | builtin b => cases b <;> simp [hc] at hk ⊢
      | value f => simp [hc] at hk
      | invoke r m => simp [hc] at hk
    | convert s d x =>
      simp only
      split
      · rename_i u hu
        have : aConvB P s d u H = none := by
          unfold oddC at hodd
          simp only [ho] at hodd
          unfold aConvB
          split
          · split
            · rename_i e hs hd
              simp only [hs, hd] at hodd
              cases hodd
            · rfl
          · rw [if_neg]
            intro hc
            unfold aConvP at hc
            split at hc <;> try (cases hc; done)
            split at hc <;> try (cases hc; done)
            split at hc
            · rename_i hs hd; simp only [hs, hd] at hodd; cases hodd
            · rename_i hs hd; simp only [hs, hd] at hodd; cases hodd
            · cases hc
          · rfl
        rw [this]
      · rfl
    | slice t x lo hi mx =>
      cases mx with
      | some m => rfl
      | none =>
        simp only
        split
        · rename_i u lo1 hi1 _ _ _
          have : aSliceA P t u lo1 hi1 H = none := by
            unfold oddC at hodd
            simp only [ho] at hodd
            unfold aSliceA
            split
            · split
              · rename_i ht; simp only [ht] at hodd; cases hodd
              · rfl
            · rfl
          rw [this]
        · rfl
    | _ => simp [ho] at hk ⊢
  split at h
  · rename_i r' hr; simp at h; obtain ⟨rfl, rfl⟩ := h; exact ⟨hr, rfl⟩
  · rw [he] at h; cases h

theorem aop_new_inv (hk : kind o = 2) {r : AV} {H' : AHeap} (h : aop P orc ρ o H = some (r, H')) : ∃ mk body, aallocF P ρ o = some (mk, body) ∧ r = mk H.length ∧ H' = H ++ [⟨true, H.length, 0, body⟩] := by
  cases ha : aallocF P ρ o with
  | some p =>
    obtain ⟨mk, body⟩ := p
    rw [aop_new hk ha] at h
    simp at h
    exact ⟨mk, body, rfl, h.1.symm, h.2.symm⟩
  | none =>
    exfalso
    rw [aop_low (by omega)] at h
    have hp : apure' P ρ H o = none := by
      unfold kind at hk
      unfold apure' apure
      cases ho : o.op with
      | call c =>
        simp only [ho] at hk ⊢
        cases hc : c.callee with
        | builtin b => cases b <;> simp [hc] at hk
        | value f => simp [hc] at hk
        | invoke r m => simp [hc] at hk
      | _ => simp [ho] at hk ⊢
    rw [hp] at h
    simp only at h
    unfold kind at hk
    unfold aallocF at ha
    unfold aeff at h
    cases ho : o.op with
    | alloc e => simp only [ho] at ha h; split at ha <;> simp at ha; rename_i hz; simp [aAlloc, hz] at h
    | box e x => simp only [ho] at ha h; split at ha <;> simp at ha; rename_i hz; simp [hz] at h
    | buildSlice t len ps =>
      simp only [ho] at ha h
      split at ha
      · rename_i us hus
        split at ha <;> simp at ha
        rename_i hz
        simp [hus, aBuildSlice, hz] at h
      · rename_i hus; simp [hus] at h
    | makeSlice t l c =>
      simp only [ho] at ha h
      split at ha
      · rename_i a b hl hc
        split at ha <;> simp at ha
        rename_i hz
        simp [hl, hc, aMakeSlice, hz] at h
      · rename_i hne
        split at h
        · rename_i a b hl hc; exact hne _ _ hl hc
        · cases h
    | makeMap t r => cases r <;> simp [ho] at ha h
    | call c =>
      simp only [ho] at hk
      cases hc : c.callee with
      | builtin b => cases b <;> simp [hc] at hk
      | value f => simp [hc] at hk
      | invoke r m => simp [hc] at hk
    | _ => simp [ho] at hk
end congr

end Go.Abs

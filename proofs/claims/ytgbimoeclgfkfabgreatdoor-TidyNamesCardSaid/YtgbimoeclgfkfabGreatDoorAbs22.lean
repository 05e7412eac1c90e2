/-
  A verified abstract interpreter, part 22: memory as a tree of blocks; what stands for what.
-/
import Derived.Test.YtgbimoeclgfkfabGreatDoorAbs21
import Derived.IntWalk
set_option linter.unusedSimpArgs false
set_option linter.unusedVariables false
namespace Go.Abs
open Go.RowKit

/-- Memory: how many blocks, and they. -/
structure TH where
  sz : Nat
  tr : BT AObj 12

def deadObj : AObj := ⟨false, 0, 0, .cells [] 0⟩
noncomputable def TH.get (T : TH) (b : Nat) : AObj := btget deadObj 12 b T.tr
def TH.empty : TH := ⟨0, btsame deadObj 12⟩

/-- The tree holds what the list holds; what lives in the tree shares with nothing that lives there. -/
structure Rep (T : TH) (H : AHeap) : Prop where
  sz : T.sz = H.length
  le : T.sz ≤ 4096
  obj : ∀ b, (T.get b).alive = true → H[b]? = some (T.get b)
  fam : ∀ b c, (T.get b).alive = true → (T.get c).alive = true → (T.get b).fam = (T.get c).fam → b = c
  flt : ∀ b, (T.get b).alive = true → (T.get b).fam < T.sz

theorem Rep.empty : Rep TH.empty [] := by
  have h : ∀ b, TH.empty.get b = deadObj := fun b => btget_same deadObj 12 b
  refine ⟨rfl, by simp [TH.empty], ?_, ?_, ?_⟩ <;> intro b <;> simp [h, deadObj]

noncomputable def TH.set (T : TH) (b : Nat) (o : AObj) : TH := ⟨T.sz, btput 12 b o T.tr⟩
noncomputable def TH.push (T : TH) (o : AObj) : TH := ⟨T.sz + 1, btput 12 T.sz o T.tr⟩

theorem TH.get_set {T : TH} {b : Nat} (o : AObj) (hb : b < 4096) (c : Nat) : (T.set b o).get c = if c = b then o else T.get c := btget_put deadObj 12 b c o T.tr hb
theorem TH.get_push {T : TH} (o : AObj) (hb : T.sz < 4096) (c : Nat) : (T.push o).get c = if c = T.sz then o else T.get c := btget_put deadObj 12 T.sz c o T.tr hb

theorem Rep.lt {T : TH} {H : AHeap} (h : Rep T H) {b : Nat} (hb : (T.get b).alive = true) : b < T.sz := by
  have := (List.getElem?_eq_some_iff.1 (h.obj b hb)).1
  rw [h.sz]; exact this

/-- One block is written. -/
theorem Rep.set {T : TH} {H : AHeap} (h : Rep T H) {b : Nat} (hb : (T.get b).alive = true) (bd : ABody) :
    Rep (T.set b { T.get b with body := bd }) ((wkil b (T.get b).fam H).set b { T.get b with body := bd }) := by
  have hlt := h.lt hb
  have hb4 : b < 4096 := Nat.lt_of_lt_of_le hlt h.le
  have hg := TH.get_set (T := T) (b := b) { T.get b with body := bd } hb4
  have hal : ∀ c, ((T.set b { T.get b with body := bd }).get c).alive = true → (T.get c).alive = true ∧ ((T.set b { T.get b with body := bd }).get c).fam = (T.get c).fam := by
    intro c hc
    rw [hg] at hc ⊢
    split at hc
    · rename_i e; subst e; rw [if_pos rfl]; exact ⟨hb, rfl⟩
    · rename_i e; rw [if_neg e]; exact ⟨hc, rfl⟩
  refine ⟨by simp [TH.set, wkil, kil_length, h.sz], h.le, ?_, ?_, ?_⟩
  · intro c hc
    have hc' := (hal c hc).1
    rw [hg]
    split
    · rename_i e; subst e
      rw [List.getElem?_set, if_pos rfl, if_pos (by rw [wkil, kil_length, ← h.sz]; exact hlt)]
    · rename_i e
      rw [List.getElem?_set, if_neg (Ne.symm e), wkil, kil_get, h.obj c hc']
      have hf : (T.get c).fam ≠ (T.get b).fam := fun hf => e (h.fam c b hc' hb hf)
      have hf2 : Nat.beq (T.get c).fam (T.get b).fam = false := by cases hq : Nat.beq (T.get c).fam (T.get b).fam with | false => rfl | true => exact absurd (Nat.eq_of_beq_eq_true hq) hf
      simp [hf]
  · intro c c' hc hc' hf
    obtain ⟨h1, h2⟩ := hal c hc; obtain ⟨h3, h4⟩ := hal c' hc'
    exact h.fam c c' h1 h3 (by rw [← h2, ← h4]; exact hf)
  · intro c hc
    obtain ⟨h1, h2⟩ := hal c hc
    rw [h2]; exact h.flt c h1

theorem Rep.set' {T : TH} {H : AHeap} (h : Rep T H) {b fam sh : Nat} {bd0 : ABody} (e : T.get b = ⟨true, fam, sh, bd0⟩) (bd : ABody) : Rep (T.set b ⟨true, fam, sh, bd⟩) ((wkil b fam H).set b ⟨true, fam, sh, bd⟩) := by
  have := h.set (b := b) (by rw [e]) bd
  simp only [e] at this
  exact this

/-- A block is given up. -/
theorem Rep.lose {T : TH} {H : AHeap} (h : Rep T H) {b : Nat} {o : AObj} (hb : (T.get b).alive = true) : Rep (T.set b deadObj) ((wkil b (T.get b).fam H).set b o.dead) := by
  have hlt := h.lt hb
  have hb4 : b < 4096 := Nat.lt_of_lt_of_le hlt h.le
  have hg := TH.get_set (T := T) (b := b) deadObj hb4
  have hal : ∀ c, ((T.set b deadObj).get c).alive = true → c ≠ b ∧ (T.get c).alive = true ∧ (T.set b deadObj).get c = T.get c := by
    intro c hc
    rw [hg] at hc
    split at hc
    · simp [deadObj] at hc
    · rename_i e; exact ⟨e, hc, by rw [hg, if_neg e]⟩
  refine ⟨by simp [TH.set, wkil, kil_length, h.sz], h.le, ?_, ?_, ?_⟩
  · intro c hc
    obtain ⟨e, hc', hcc⟩ := hal c hc
    rw [hcc, List.getElem?_set, if_neg (Ne.symm e), wkil, kil_get, h.obj c hc']
    have hf : (T.get c).fam ≠ (T.get b).fam := fun hf => e (h.fam c b hc' hb hf)
    simp [hf]
  · intro c c' hc hc' hf
    obtain ⟨_, h1, h2⟩ := hal c hc; obtain ⟨_, h3, h4⟩ := hal c' hc'
    rw [h2, h4] at hf
    exact h.fam c c' h1 h3 hf
  · intro c hc
    obtain ⟨_, h1, h2⟩ := hal c hc
    rw [h2]; exact h.flt c h1

/-- A new block. -/
theorem Rep.push {T : TH} {H : AHeap} (h : Rep T H) (hs : T.sz < 4096) (bd : ABody) : Rep (T.push ⟨true, T.sz, 0, bd⟩) (H ++ [⟨true, H.length, 0, bd⟩]) := by
  have hg := TH.get_push (T := T) ⟨true, T.sz, 0, bd⟩ hs
  refine ⟨by simp [TH.push, h.sz], hs, ?_, ?_, ?_⟩
  · intro c hc
    rw [hg] at hc ⊢
    split at hc
    · rename_i e; subst e; rw [if_pos rfl, List.getElem?_append_right (by rw [h.sz]; exact Nat.le_refl _), ← h.sz]; simp
    · rename_i e; rw [if_neg e, List.getElem?_append_left (by rw [← h.sz]; exact h.lt hc)]; exact h.obj c hc
  · intro c c' hc hc' hf
    rw [hg] at hc hc'; rw [hg, hg] at hf
    split at hc <;> split at hc'
    · rename_i e e'; rw [e, e']
    · rename_i e e'; rw [if_pos e, if_neg e'] at hf; have := h.flt c' hc'; simp at hf; omega
    · rename_i e e'; rw [if_neg e, if_pos e'] at hf; have := h.flt c hc; simp at hf; omega
    · rename_i e e'; rw [if_neg e, if_neg e'] at hf; exact h.fam c c' hc hc' hf
  · intro c hc
    rw [hg] at hc ⊢
    show _ < T.sz + 1
    split at hc
    · rename_i e; rw [if_pos e]; simp
    · rename_i e; rw [if_neg e]; have := h.flt c hc; omega

/-- A slice grows in place: the old view is given up in the tree. -/
theorem Rep.grow {T : TH} {H : AHeap} (h : Rep T H) {b : Nat} (hb : (T.get b).alive = true) (hs : T.sz < 4096) (e sh : Nat) (bd : ABody) :
    Rep ((T.set b deadObj).push ⟨true, (T.get b).fam, sh, bd⟩) (ekil (T.get b).fam e H ++ [⟨true, (T.get b).fam, sh, bd⟩]) := by
  have hlt := h.lt hb
  have hb4 : b < 4096 := Nat.lt_of_lt_of_le hlt h.le
  have hg1 := TH.get_set (T := T) (b := b) deadObj hb4
  have hg := TH.get_push (T := T.set b deadObj) ⟨true, (T.get b).fam, sh, bd⟩ hs
  have hsz : (T.set b deadObj).sz = T.sz := rfl
  rw [hsz] at hg
  have hal : ∀ c, c ≠ T.sz → (((T.set b deadObj).push ⟨true, (T.get b).fam, sh, bd⟩).get c).alive = true → c ≠ b ∧ (T.get c).alive = true ∧ ((T.set b deadObj).push ⟨true, (T.get b).fam, sh, bd⟩).get c = T.get c := by
    intro c hne hc
    rw [hg, if_neg hne, hg1] at hc
    split at hc
    · simp [deadObj] at hc
    · rename_i e'; exact ⟨e', hc, by rw [hg, if_neg hne, hg1, if_neg e']⟩
  refine ⟨by simp [TH.push, TH.set, ekil, kil_length, h.sz], hs, ?_, ?_, ?_⟩
  · intro c hc
    by_cases hne : c = T.sz
    · subst hne
      rw [hg, if_pos rfl, List.getElem?_append_right (by rw [ekil, kil_length, h.sz]; exact Nat.le_refl _), ekil, kil_length, h.sz]; simp
    · obtain ⟨h1, h2, h3⟩ := hal c hne hc
      have hcl := h.lt h2
      rw [h3, List.getElem?_append_left (by rw [ekil, kil_length, ← h.sz]; exact hcl), ekil, kil_get, h.obj c h2]
      have hf : (T.get c).fam ≠ (T.get b).fam := fun hf => h1 (h.fam c b h2 hb hf)
      have hf2 : Nat.beq (T.get c).fam (T.get b).fam = false := by cases hq : Nat.beq (T.get c).fam (T.get b).fam with | false => rfl | true => exact absurd (Nat.eq_of_beq_eq_true hq) hf
      simp [hf]
  · intro c c' hc hc' hf
    by_cases hne : c = T.sz <;> by_cases hne' : c' = T.sz
    · rw [hne, hne']
    · obtain ⟨h1, h2, h3⟩ := hal c' hne' hc'
      rw [h3, hne, hg, if_pos rfl] at hf
      exact absurd (h.fam c' b h2 hb hf.symm) h1
    · obtain ⟨h1, h2, h3⟩ := hal c hne hc
      rw [h3, hne', hg, if_pos rfl] at hf
      exact absurd (h.fam c b h2 hb hf) h1
    · obtain ⟨h1, h2, h3⟩ := hal c hne hc
      obtain ⟨h1', h2', h3'⟩ := hal c' hne' hc'
      rw [h3, h3'] at hf
      exact h.fam c c' h2 h2' hf
  · intro c hc
    show _ < T.sz + 1
    by_cases hne : c = T.sz
    · rw [hne, hg, if_pos rfl]; have := h.flt b hb; simp; omega
    · obtain ⟨h1, h2, h3⟩ := hal c hne hc
      rw [h3]; have := h.flt c h2; omega

/-! how a run ends, and what is handed on -/
abbrev Res := Option (AV × TH)
abbrev Knt := AV → TH → Res
abbrev FOrc := Nat → List AV → TH → Res

/-- The quick oracle answers as the other does. -/
def OrcSim (forc : FOrc) (orc : Orc) : Prop := ∀ f args T r T', forc f args T = some (r, T') → ∀ H, Rep T H → ∃ H', orc f args H = some (r, H') ∧ Rep T' H'

/-! taking apart, for the kernel: minors that are closed -/
noncomputable def frc1 {β : Type} (v : AV) : (AV → β) → β :=
  AV.rec (motive_1 := fun _ => (AV → β) → β) (motive_2 := fun _ => Unit) (fun b f => f (.bool b)) (fun k n f => f (.int k n)) (fun s f => f (.str s)) (fun f => f .nptr) (fun b o f => f (.ptr b o)) (fun cs _ f => f (.rp cs)) (fun f => f .nslice)
    (fun b o l c z f => f (.slice b o l c z)) (fun n z cs _ f => f (.rs n z cs)) (fun f => f .nmap) (fun b f => f (.map b)) (fun fn a b _ _ f => f (.func fn a b)) (fun f => f .nfunc) (fun t v _ f => f (.iface t v)) (fun f => f .niface)
    (fun cs _ f => f (.agg cs)) (fun vs _ f => f (.tuple vs)) () (fun _ _ _ _ => ()) v

theorem frc1_eq {β : Type} (v : AV) (f : AV → β) : frc1 v f = f v := by cases v <;> rfl

noncomputable def onInt {β : Type} (v : AV) : (IntKind → Int → β) → β → β :=
  AV.rec (motive_1 := fun _ => (IntKind → Int → β) → β → β) (motive_2 := fun _ => Unit) (fun _ _ d => d) (fun k n f _ => f k n) (fun _ _ d => d) (fun _ d => d) (fun _ _ _ d => d) (fun _ _ _ d => d) (fun _ d => d)
    (fun _ _ _ _ _ _ d => d) (fun _ _ _ _ _ d => d) (fun _ d => d) (fun _ _ d => d) (fun _ _ _ _ _ _ d => d) (fun _ d => d) (fun _ _ _ _ d => d) (fun _ d => d)
    (fun _ _ _ d => d) (fun _ _ _ d => d) () (fun _ _ _ _ => ()) v

theorem onInt_cases {β : Type} (v : AV) (f : IntKind → Int → β) (d : β) : (∃ k n, v = .int k n ∧ onInt v f d = f k n) ∨ onInt v f d = d := by
  cases v <;> first | exact .inl ⟨_, _, rfl, rfl⟩ | exact .inr rfl

noncomputable def onBool {β : Type} (v : AV) : (Bool → β) → β → β :=
  AV.rec (motive_1 := fun _ => (Bool → β) → β → β) (motive_2 := fun _ => Unit) (fun b f _ => f b) (fun _ _ _ d => d) (fun _ _ d => d) (fun _ d => d) (fun _ _ _ d => d) (fun _ _ _ d => d) (fun _ d => d)
    (fun _ _ _ _ _ _ d => d) (fun _ _ _ _ _ d => d) (fun _ d => d) (fun _ _ d => d) (fun _ _ _ _ _ _ d => d) (fun _ d => d) (fun _ _ _ _ d => d) (fun _ d => d)
    (fun _ _ _ d => d) (fun _ _ _ d => d) () (fun _ _ _ _ => ()) v

theorem onBool_cases {β : Type} (v : AV) (f : Bool → β) (d : β) : (∃ b, v = .bool b ∧ onBool v f d = f b) ∨ ((∀ b, v ≠ .bool b) ∧ onBool v f d = d) := by
  cases v <;> first | exact .inl ⟨_, rfl, rfl⟩ | exact .inr ⟨fun b h => (by cases h), rfl⟩

noncomputable def onStr {β : Type} (v : AV) : (List UInt8 → β) → β → β :=
  AV.rec (motive_1 := fun _ => (List UInt8 → β) → β → β) (motive_2 := fun _ => Unit) (fun _ _ d => d) (fun _ _ _ d => d) (fun s f _ => f s) (fun _ d => d) (fun _ _ _ d => d) (fun _ _ _ d => d) (fun _ d => d)
    (fun _ _ _ _ _ _ d => d) (fun _ _ _ _ _ d => d) (fun _ d => d) (fun _ _ d => d) (fun _ _ _ _ _ _ d => d) (fun _ d => d) (fun _ _ _ _ d => d) (fun _ d => d)
    (fun _ _ _ d => d) (fun _ _ _ d => d) () (fun _ _ _ _ => ()) v

theorem onStr_cases {β : Type} (v : AV) (f : List UInt8 → β) (d : β) : (∃ b, v = .str b ∧ onStr v f d = f b) ∨ onStr v f d = d := by
  cases v <;> first | exact .inl ⟨_, rfl, rfl⟩ | exact .inr rfl

/-- A pointer of ours; a pointer to what is read alone. -/
noncomputable def onPtr {β : Type} (v : AV) : (Nat → Nat → β) → (List AV → β) → β → β :=
  AV.rec (motive_1 := fun _ => (Nat → Nat → β) → (List AV → β) → β → β) (motive_2 := fun _ => Unit) (fun _ _ _ d => d) (fun _ _ _ _ d => d) (fun _ _ _ d => d) (fun _ _ d => d) (fun b o f _ _ => f b o) (fun cs _ _ g _ => g cs) (fun _ _ d => d)
    (fun _ _ _ _ _ _ _ d => d) (fun _ _ _ _ _ _ d => d) (fun _ _ d => d) (fun _ _ _ d => d) (fun _ _ _ _ _ _ _ d => d) (fun _ _ d => d) (fun _ _ _ _ _ d => d) (fun _ _ d => d)
    (fun _ _ _ _ d => d) (fun _ _ _ _ d => d) () (fun _ _ _ _ => ()) v

theorem onPtr_cases {β : Type} (v : AV) (f : Nat → Nat → β) (g : List AV → β) (d : β) : (∃ b o, v = .ptr b o ∧ onPtr v f g d = f b o) ∨ (∃ cs, v = .rp cs ∧ onPtr v f g d = g cs) ∨ onPtr v f g d = d := by
  cases v <;> first | exact .inl ⟨_, _, rfl, rfl⟩ | exact .inr (.inl ⟨_, rfl, rfl⟩) | exact .inr (.inr rfl)

/-- A slice: ours, read alone, none. -/
noncomputable def onSlice {β : Type} (v : AV) : (Nat → Nat → Nat → Nat → Nat → β) → (Nat → Nat → List AV → β) → β → β → β :=
  AV.rec (motive_1 := fun _ => (Nat → Nat → Nat → Nat → Nat → β) → (Nat → Nat → List AV → β) → β → β → β) (motive_2 := fun _ => Unit) (fun _ _ _ _ d => d) (fun _ _ _ _ _ d => d) (fun _ _ _ _ d => d) (fun _ _ _ d => d) (fun _ _ _ _ _ d => d) (fun _ _ _ _ _ d => d) (fun _ _ e _ => e)
    (fun b o l c z f _ _ _ => f b o l c z) (fun n z cs _ _ g _ _ => g n z cs) (fun _ _ _ d => d) (fun _ _ _ _ d => d) (fun _ _ _ _ _ _ _ _ d => d) (fun _ _ _ d => d) (fun _ _ _ _ _ _ d => d) (fun _ _ _ d => d)
    (fun _ _ _ _ _ d => d) (fun _ _ _ _ _ d => d) () (fun _ _ _ _ => ()) v

theorem onSlice_cases {β : Type} (v : AV) (f : Nat → Nat → Nat → Nat → Nat → β) (g : Nat → Nat → List AV → β) (e d : β) :
    (∃ b o l c z, v = .slice b o l c z ∧ onSlice v f g e d = f b o l c z) ∨ (∃ n z cs, v = .rs n z cs ∧ onSlice v f g e d = g n z cs) ∨ (v = .nslice ∧ onSlice v f g e d = e) ∨ onSlice v f g e d = d := by
  cases v <;> first | exact .inl ⟨_, _, _, _, _, rfl, rfl⟩ | exact .inr (.inl ⟨_, _, _, rfl, rfl⟩) | exact .inr (.inr (.inl ⟨rfl, rfl⟩)) | exact .inr (.inr (.inr rfl))

noncomputable def onTuple {β : Type} (v : AV) : (List AV → β) → β → β :=
  AV.rec (motive_1 := fun _ => (List AV → β) → β → β) (motive_2 := fun _ => Unit) (fun _ _ d => d) (fun _ _ _ d => d) (fun _ _ d => d) (fun _ d => d) (fun _ _ _ d => d) (fun _ _ _ d => d) (fun _ d => d)
    (fun _ _ _ _ _ _ d => d) (fun _ _ _ _ _ d => d) (fun _ d => d) (fun _ _ d => d) (fun _ _ _ _ _ _ d => d) (fun _ d => d) (fun _ _ _ _ d => d) (fun _ d => d)
    (fun _ _ _ d => d) (fun vs _ f _ => f vs) () (fun _ _ _ _ => ()) v

theorem onTuple_cases {β : Type} (v : AV) (f : List AV → β) (d : β) : (∃ b, v = .tuple b ∧ onTuple v f d = f b) ∨ onTuple v f d = d := by
  cases v <;> first | exact .inl ⟨_, rfl, rfl⟩ | exact .inr rfl

noncomputable def onAgg {β : Type} (v : AV) : (List AV → β) → β → β :=
  AV.rec (motive_1 := fun _ => (List AV → β) → β → β) (motive_2 := fun _ => Unit) (fun _ _ d => d) (fun _ _ _ d => d) (fun _ _ d => d) (fun _ d => d) (fun _ _ _ d => d) (fun _ _ _ d => d) (fun _ d => d)
    (fun _ _ _ _ _ _ d => d) (fun _ _ _ _ _ d => d) (fun _ d => d) (fun _ _ d => d) (fun _ _ _ _ _ _ d => d) (fun _ d => d) (fun _ _ _ _ d => d) (fun _ d => d)
    (fun vs _ f _ => f vs) (fun _ _ _ d => d) () (fun _ _ _ _ => ()) v

theorem onAgg_cases {β : Type} (v : AV) (f : List AV → β) (d : β) : (∃ b, v = .agg b ∧ onAgg v f d = f b) ∨ ((∀ b, v ≠ .agg b) ∧ onAgg v f d = d) := by
  cases v <;> first | exact .inl ⟨_, rfl, rfl⟩ | exact .inr ⟨fun b h => (by cases h), rfl⟩

noncomputable def onFunc {β : Type} (v : AV) : (Fn → List AV → List AV → β) → β → β :=
  AV.rec (motive_1 := fun _ => (Fn → List AV → List AV → β) → β → β) (motive_2 := fun _ => Unit) (fun _ _ d => d) (fun _ _ _ d => d) (fun _ _ d => d) (fun _ d => d) (fun _ _ _ d => d) (fun _ _ _ d => d) (fun _ d => d)
    (fun _ _ _ _ _ _ d => d) (fun _ _ _ _ _ d => d) (fun _ d => d) (fun _ _ d => d) (fun fn a b _ _ f _ => f fn a b) (fun _ d => d) (fun _ _ _ _ d => d) (fun _ d => d)
    (fun _ _ _ d => d) (fun _ _ _ d => d) () (fun _ _ _ _ => ()) v

theorem onFunc_cases {β : Type} (v : AV) (f : Fn → List AV → List AV → β) (d : β) : (∃ fn a b, v = .func fn a b ∧ onFunc v f d = f fn a b) ∨ onFunc v f d = d := by
  cases v <;> first | exact .inl ⟨_, _, _, rfl, rfl⟩ | exact .inr rfl

/-- A number that is not negative. -/
noncomputable def onNat {β : Type} (v : AV) (f : IntKind → Nat → β) (d : β) : β := onInt v (fun k n => Int.rec (fun m => f k m) (fun _ => d) n) d

theorem onNat_cases {β : Type} (v : AV) (f : IntKind → Nat → β) (d : β) : (∃ k n, v = .int k (Int.ofNat n) ∧ onNat v f d = f k n) ∨ onNat v f d = d := by
  unfold onNat
  rcases onInt_cases v (fun k n => (Int.rec (fun m => f k m) (fun _ => d) n : β)) d with ⟨k, n, rfl, h⟩ | h
  · cases n with
    | ofNat m => exact .inl ⟨k, m, rfl, h⟩
    | negSucc m => exact .inr h
  · exact .inr h

/-- A living block of cells. -/
noncomputable def onCells {β : Type} (o : AObj) : (Nat → Nat → List AV → TypeId → β) → β → β :=
  AObj.rec (fun alive fam sh body f d => Bool.rec d (ABody.rec (motive := fun _ => (Nat → Nat → List AV → TypeId → β) → β → β) (fun cs ty f _ => f fam sh cs ty) (fun _ _ _ d => d) (fun _ _ _ d => d) body f d) alive) o

theorem onCells_cases {β : Type} (o : AObj) (f : Nat → Nat → List AV → TypeId → β) (d : β) : (∃ fam sh cs ty, o = ⟨true, fam, sh, .cells cs ty⟩ ∧ onCells o f d = f fam sh cs ty) ∨ onCells o f d = d := by
  obtain ⟨alive, fam, sh, body⟩ := o
  cases alive with
  | false => exact .inr rfl
  | true => cases body <;> first | exact .inl ⟨_, _, _, _, rfl, rfl⟩ | exact .inr rfl

/-- A living map. -/
noncomputable def onMap {β : Type} (o : AObj) : (Nat → Nat → List (AV × AV × Nat) → Nat → β) → β → β :=
  AObj.rec (fun alive fam sh body f d => Bool.rec d (ABody.rec (motive := fun _ => (Nat → Nat → List (AV × AV × Nat) → Nat → β) → β → β) (fun _ _ _ d => d) (fun es c f _ => f fam sh es c) (fun _ _ _ d => d) body f d) alive) o

theorem onMap_cases {β : Type} (o : AObj) (f : Nat → Nat → List (AV × AV × Nat) → Nat → β) (d : β) : (∃ fam sh es c, o = ⟨true, fam, sh, .map es c⟩ ∧ onMap o f d = f fam sh es c) ∨ onMap o f d = d := by
  obtain ⟨alive, fam, sh, body⟩ := o
  cases alive with
  | false => exact .inr rfl
  | true => cases body <;> first | exact .inl ⟨_, _, _, _, rfl, rfl⟩ | exact .inr rfl

/-- A bool, reckoned, drives on. -/
noncomputable def iff' {β : Type} (b : Bool) (x y : β) : β := Bool.rec y x b
theorem iff'_eq {β : Type} (b : Bool) (x y : β) : iff' b x y = if b = true then x else y := by cases b <;> rfl

/-! lists -/
noncomputable def getR {α β : Type} (l : List α) : Nat → (α → β) → β → β :=
  List.rec (motive := fun _ => Nat → (α → β) → β → β) (fun _ _ d => d) (fun v _ ih n f d => Nat.rec (f v) (fun m _ => ih m f d) n) l

theorem getR_cases {α β : Type} : ∀ (l : List α) (n : Nat) (f : α → β) (d : β), (∃ v, l[n]? = some v ∧ getR l n f d = f v) ∨ getR l n f d = d
  | [], n, f, d => .inr rfl
  | v :: l, 0, f, d => .inl ⟨v, rfl, rfl⟩
  | v :: l, n + 1, f, d => by
    rcases getR_cases l n f d with ⟨x, h1, h2⟩ | h
    · exact .inl ⟨x, by simpa using h1, h2⟩
    · exact .inr h

noncomputable def dropR {α : Type} (l : List α) : Nat → List α :=
  List.rec (motive := fun _ => Nat → List α) (fun _ => []) (fun v l ih n => Nat.rec (v :: l) (fun m _ => ih m) n) l

theorem dropR_eq {α : Type} : ∀ (l : List α) (n : Nat), dropR l n = l.drop n
  | [], n => by cases n <;> rfl
  | v :: l, 0 => rfl
  | v :: l, n + 1 => dropR_eq l n

noncomputable def takeK {α β : Type} (l : List α) : Nat → (List α → β) → β :=
  List.rec (motive := fun _ => Nat → (List α → β) → β) (fun _ f => f []) (fun v _ ih n f => Nat.rec (f []) (fun m _ => ih m fun r => f (v :: r)) n) l
theorem takeK_eq {α β : Type} : ∀ (l : List α) (n : Nat) (f : List α → β), takeK l n f = f (l.take n)
  | [], n, f => by cases n <;> rfl
  | v :: l, 0, f => rfl
  | v :: l, n + 1, f => takeK_eq l n _

noncomputable def tkR {β : Type} (n : Nat) : List AV → (List AV → β) → β → β :=
  Nat.rec (motive := fun _ => List AV → (List AV → β) → β → β) (fun _ f _ => f []) (fun _ ih l f d => List.rec (motive := fun _ => β) d (fun c l _ => ih l (fun r => f (c :: r)) d) l) n

theorem tkR_cases {β : Type} : ∀ (n : Nat) (l : List AV) (f : List AV → β) (d : β), (∃ r, tk n l = some r ∧ tkR n l f d = f r) ∨ tkR n l f d = d
  | 0, l, f, d => .inl ⟨[], by cases l <;> rfl, rfl⟩
  | n + 1, [], f, d => .inr rfl
  | n + 1, c :: l, f, d => by
    rcases tkR_cases n l (fun r => f (c :: r)) d with ⟨r, h1, h2⟩ | h
    · exact .inl ⟨c :: r, by simp [tk, h1], h2⟩
    · exact .inr h

/-- vs in the place of as many, from off on. -/
noncomputable def splR {β : Type} (l : List AV) : Nat → List AV → (List AV → β) → β → β :=
  List.rec (motive := fun _ => Nat → List AV → (List AV → β) → β → β) (fun n vs f d => Nat.rec (List.rec (f []) (fun _ _ _ => d) vs) (fun _ _ => d) n)
    (fun c l ih n vs f d => Nat.rec (List.rec (f (c :: l)) (fun v vs _ => ih 0 vs (fun r => f (v :: r)) d) vs) (fun m _ => ih m vs (fun r => f (c :: r)) d) n) l

theorem splR_cases {β : Type} : ∀ (l : List AV) (n : Nat) (vs : List AV) (f : List AV → β) (d : β), (∃ r, spl l n vs = some r ∧ splR l n vs f d = f r) ∨ splR l n vs f d = d
  | [], 0, [], f, d => .inl ⟨[], rfl, rfl⟩
  | [], 0, _ :: _, f, d => .inr rfl
  | [], n + 1, vs, f, d => .inr rfl
  | c :: l, 0, [], f, d => .inl ⟨c :: l, by simp [spl], rfl⟩
  | c :: l, 0, v :: vs, f, d => by
    rcases splR_cases l 0 vs (fun r => f (v :: r)) d with ⟨r, h1, h2⟩ | h
    · exact .inl ⟨v :: r, by simp [spl, h1], h2⟩
    · exact .inr h
  | c :: l, n + 1, vs, f, d => by
    rcases splR_cases l n vs (fun r => f (c :: r)) d with ⟨r, h1, h2⟩ | h
    · exact .inl ⟨c :: r, by simp [spl, h1], h2⟩
    · exact .inr h

noncomputable def lenR {α : Type} (l : List α) : Nat := List.rec 0 (fun _ _ ih => Nat.succ ih) l
theorem lenR_eq {α : Type} : ∀ (l : List α), lenR l = l.length
  | [] => rfl
  | _ :: l => congrArg Nat.succ (lenR_eq l)

noncomputable def eqS (l : List UInt8) : List UInt8 → Bool :=
  List.rec (motive := fun _ => List UInt8 → Bool) (fun m => List.rec true (fun _ _ _ => false) m) (fun c l ih m => List.rec false (fun c' m _ => Bool.rec false (ih m) (Nat.beq (UInt8.toNat c) (UInt8.toNat c'))) m) l

theorem eqS_eq : ∀ (l m : List UInt8), eqS l m = (l == m)
  | [], [] => rfl
  | [], _ :: _ => rfl
  | _ :: _, [] => rfl
  | c :: l, c' :: m => by
    show (Bool.rec false (eqS l m) (Nat.beq (UInt8.toNat c) (UInt8.toNat c')) : Bool) = _
    rw [eqS_eq l m, List.cons_beq_cons]
    by_cases h : c = c'
    · subst h; simp
    · have h2 : Nat.beq (UInt8.toNat c) (UInt8.toNat c') = false := by cases hq : Nat.beq (UInt8.toNat c) (UInt8.toNat c') with | false => rfl | true => exact absurd (UInt8.toNat_inj.1 (Nat.eq_of_beq_eq_true hq)) h
      rw [h2]; simp [h]

end Go.Abs

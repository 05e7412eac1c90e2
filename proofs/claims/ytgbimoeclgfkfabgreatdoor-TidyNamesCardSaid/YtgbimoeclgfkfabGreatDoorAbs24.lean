/-
  A verified abstract interpreter, part 24: operations, laid ahead for the kernel: those on memory; all of them in one.
-/
import Derived.Test.YtgbimoeclgfkfabGreatDoorAbs23
set_option linter.unusedSimpArgs false
set_option linter.unusedVariables false
namespace Go.Abs
open Go.RowKit

section some
variable {γ : Type} {v : AV} {out : γ}
theorem onInt_some {f : IntKind → Int → Option γ} {dd : Option γ} (h : onInt v f dd = some out) : (∃ k n, v = .int k n ∧ f k n = some out) ∨ dd = some out := by
  rcases onInt_cases v f dd with ⟨k, n, rfl, e⟩ | e <;> rw [e] at h
  · exact .inl ⟨k, n, rfl, h⟩
  · exact .inr h
theorem onNat_some {f : IntKind → Nat → Option γ} {dd : Option γ} (h : onNat v f dd = some out) : (∃ k n, v = .int k (Int.ofNat n) ∧ f k n = some out) ∨ dd = some out := by
  rcases onNat_cases v f dd with ⟨k, n, rfl, e⟩ | e <;> rw [e] at h
  · exact .inl ⟨k, n, rfl, h⟩
  · exact .inr h
theorem onBool_some {f : Bool → Option γ} {dd : Option γ} (h : onBool v f dd = some out) : (∃ b, v = .bool b ∧ f b = some out) ∨ ((∀ b, v ≠ .bool b) ∧ dd = some out) := by
  rcases onBool_cases v f dd with ⟨b, rfl, e⟩ | ⟨e', e⟩ <;> rw [e] at h
  · exact .inl ⟨b, rfl, h⟩
  · exact .inr ⟨e', h⟩
theorem onStr_some {f : List UInt8 → Option γ} {dd : Option γ} (h : onStr v f dd = some out) : (∃ b, v = .str b ∧ f b = some out) ∨ dd = some out := by
  rcases onStr_cases v f dd with ⟨b, rfl, e⟩ | e <;> rw [e] at h
  · exact .inl ⟨b, rfl, h⟩
  · exact .inr h
theorem onPtr_some {f : Nat → Nat → Option γ} {g : List AV → Option γ} {dd : Option γ} (h : onPtr v f g dd = some out) : (∃ b o, v = .ptr b o ∧ f b o = some out) ∨ (∃ cs, v = .rp cs ∧ g cs = some out) ∨ dd = some out := by
  rcases onPtr_cases v f g dd with ⟨b, o, rfl, e⟩ | ⟨cs, rfl, e⟩ | e <;> rw [e] at h
  · exact .inl ⟨b, o, rfl, h⟩
  · exact .inr (.inl ⟨cs, rfl, h⟩)
  · exact .inr (.inr h)
theorem onSlice_some {f : Nat → Nat → Nat → Nat → Nat → Option γ} {g : Nat → Nat → List AV → Option γ} {e dd : Option γ} (h : onSlice v f g e dd = some out) :
    (∃ b o l c z, v = .slice b o l c z ∧ f b o l c z = some out) ∨ (∃ n z cs, v = .rs n z cs ∧ g n z cs = some out) ∨ (v = .nslice ∧ e = some out) ∨ dd = some out := by
  rcases onSlice_cases v f g e dd with ⟨b, o, l, c, z, rfl, e⟩ | ⟨n, z, cs, rfl, e⟩ | ⟨rfl, e⟩ | e <;> rw [e] at h
  · exact .inl ⟨b, o, l, c, z, rfl, h⟩
  · exact .inr (.inl ⟨n, z, cs, rfl, h⟩)
  · exact .inr (.inr (.inl ⟨rfl, h⟩))
  · exact .inr (.inr (.inr h))
theorem onTuple_some {f : List AV → Option γ} {dd : Option γ} (h : onTuple v f dd = some out) : (∃ b, v = .tuple b ∧ f b = some out) ∨ dd = some out := by
  rcases onTuple_cases v f dd with ⟨b, rfl, e⟩ | e <;> rw [e] at h
  · exact .inl ⟨b, rfl, h⟩
  · exact .inr h
theorem onAgg_some {f : List AV → Option γ} {dd : Option γ} (h : onAgg v f dd = some out) : (∃ b, v = .agg b ∧ f b = some out) ∨ ((∀ b, v ≠ .agg b) ∧ dd = some out) := by
  rcases onAgg_cases v f dd with ⟨b, rfl, e⟩ | ⟨e', e⟩ <;> rw [e] at h
  · exact .inl ⟨b, rfl, h⟩
  · exact .inr ⟨e', h⟩
theorem onFunc_some {f : Fn → List AV → List AV → Option γ} {dd : Option γ} (h : onFunc v f dd = some out) : (∃ fn a b, v = .func fn a b ∧ f fn a b = some out) ∨ dd = some out := by
  rcases onFunc_cases v f dd with ⟨fn, a, b, rfl, e⟩ | e <;> rw [e] at h
  · exact .inl ⟨fn, a, b, rfl, h⟩
  · exact .inr h
theorem onCells_some {o : AObj} {f : Nat → Nat → List AV → TypeId → Option γ} (h : onCells o f none = some out) : ∃ fam sh cs ty, o = ⟨true, fam, sh, .cells cs ty⟩ ∧ f fam sh cs ty = some out := by
  rcases onCells_cases o f none with ⟨a, b, c, d, rfl, e⟩ | e <;> rw [e] at h
  · exact ⟨a, b, c, d, rfl, h⟩
  · cases h
theorem onMap_some {o : AObj} {f : Nat → Nat → List (AV × AV × Nat) → Nat → Option γ} (h : onMap o f none = some out) : ∃ fam sh cs ty, o = ⟨true, fam, sh, .map cs ty⟩ ∧ f fam sh cs ty = some out := by
  rcases onMap_cases o f none with ⟨a, b, c, d, rfl, e⟩ | e <;> rw [e] at h
  · exact ⟨a, b, c, d, rfl, h⟩
  · cases h
theorem iff_some {b : Bool} {x : Option γ} (h : iff' b x none = some out) : b = true ∧ x = some out := by
  cases b
  · cases h
  · exact ⟨rfl, h⟩
theorem getR_some {α : Type} {l : List α} {n : Nat} {f : α → Option γ} (h : getR l n f none = some out) : ∃ v, l[n]? = some v ∧ f v = some out := by
  rcases getR_cases l n f none with ⟨v, h1, e⟩ | e <;> rw [e] at h
  · exact ⟨v, h1, h⟩
  · cases h
theorem tkR_some {n : Nat} {l : List AV} {f : List AV → Option γ} (h : tkR n l f none = some out) : ∃ r, tk n l = some r ∧ f r = some out := by
  rcases tkR_cases n l f none with ⟨v, h1, e⟩ | e <;> rw [e] at h
  · exact ⟨v, h1, h⟩
  · cases h
theorem splR_some {l : List AV} {n : Nat} {vs : List AV} {f : List AV → Option γ} (h : splR l n vs f none = some out) : ∃ r, spl l n vs = some r ∧ f r = some out := by
  rcases splR_cases l n vs f none with ⟨v, h1, e⟩ | e <;> rw [e] at h
  · exact ⟨v, h1, h⟩
  · cases h
end some

theorem tk_one {l : List AV} {n : Nat} {v : AV} (h : l[n]? = some v) : tk 1 (l.drop n) = some [v] := by
  obtain ⟨hn, rfl⟩ := List.getElem?_eq_some_iff.1 h
  rw [List.drop_eq_getElem_cons hn]; simp [tk]

noncomputable def onTH {β : Type} (T : TH) (f : Nat → BT AObj 12 → β) : β := TH.rec f T
noncomputable def putK (T : TH) (b : Nat) (o : AObj) (f : TH → Res) : Res := onTH T fun sz tr => btputK 12 b o tr fun tr' => f ⟨sz, tr'⟩
theorem putK_eq (T : TH) (b : Nat) (o : AObj) (f : TH → Res) : putK T b o f = f (T.set b o) := by
  obtain ⟨sz, tr⟩ := T
  show btputK 12 b o tr (fun tr' => f ⟨sz, tr'⟩) = _
  rw [btputK_eq]; rfl

noncomputable def newK (T : TH) (bd : ABody) (f : Nat → TH → Res) : Res :=
  onTH T fun sz tr => iff' (Nat.blt sz 4096) (btputK 12 sz ⟨true, sz, 0, bd⟩ tr fun tr' => frcN (Nat.add sz 1) fun s => f sz ⟨s, tr'⟩) none
theorem newK_some {T : TH} {bd : ABody} {f : Nat → TH → Res} {out : AV × TH} (h : newK T bd f = some out) : T.sz < 4096 ∧ f T.sz (T.push ⟨true, T.sz, 0, bd⟩) = some out := by
  obtain ⟨sz, tr⟩ := T
  obtain ⟨h1, h2⟩ := iff_some (show iff' (Nat.blt sz 4096) (btputK 12 sz ⟨true, sz, 0, bd⟩ tr fun tr' => frcN (Nat.add sz 1) fun s => f sz ⟨s, tr'⟩) none = some out from h)
  rw [btputK_eq, frcN_eq'] at h2
  exact ⟨by simpa [Nat.blt_eq] using h1, h2⟩

section ops
variable {P : Program} {gl : Glob} {d n : Nat} {o : Oper}

noncomputable def movF (g : Tre AV d → AV) : OpF d := fun _ E T k => frc1 (g E) fun v => k v T
theorem movF_ok {x : Operand} {g : Tre AV d → AV} (ho : o.op = .move x ∨ o.op = .assign x) (hg : copd gl d n x = some g) : OpOK P gl d n o (movF g) := by
  intro forc orc E T k out H hO hR h
  simp only [movF, frc1_eq] at h
  refine ⟨g E, T, H, aop_pure (by rcases ho with e | e <;> simp [kind, e]) ?_, hR, h⟩
  rcases ho with e | e <;> simp [apure', apure, e, rhoE_of hg]

noncomputable def pickF (gc ga gb : Tre AV d → AV) : OpF d := fun _ E T k => onBool (gc E) (fun b => iff' b (frc1 (ga E) fun v => k v T) (frc1 (gb E) fun v => k v T)) none
theorem pickF_ok {c a b : Operand} {gc ga gb : Tre AV d → AV} (ho : o.op = .pick c a b) (hc : copd gl d n c = some gc) (ha : copd gl d n a = some ga) (hb : copd gl d n b = some gb) : OpOK P gl d n o (pickF gc ga gb) := by
  intro forc orc E T k out H hO hR h
  simp only [pickF, frc1_eq] at h
  rcases onBool_some h with ⟨w, e, h⟩ | ⟨_, h⟩ <;> try (cases h; done)
  cases w with
  | true => exact ⟨ga E, T, H, aop_pure (by simp [kind, ho]) (by simp [apure', apure, ho, rhoE_of hc, rhoE_of ha, e]), hR, h⟩
  | false => exact ⟨gb E, T, H, aop_pure (by simp [kind, ho]) (by simp [apure', apure, ho, rhoE_of hc, rhoE_of hb, e]), hR, h⟩

noncomputable def bopF (F : BinF) (gx gy : Tre AV d → AV) (s : OpF d) : OpF d := fun forc E T k => F (gx E) (gy E) (fun r => k r T) (s forc E T k)
theorem bopF_ok {op : BinOp} {t t2 : TypeId} {x y : Operand} {F : BinF} {gx gy : Tre AV d → AV} {s : OpF d} (ho : o.op = .binOp op t x y t2) (hF : binF op = some F) (hx : copd gl d n x = some gx) (hy : copd gl d n y = some gy)
    (hs : OpOK P gl d n o s) : OpOK P gl d n o (bopF F gx gy s) := by
  intro forc orc E T k out H hO hR h
  rcases binF_ok (P := P) (t := t) hF _ _ _ _ _ h with ⟨r, h1, h2⟩ | h
  · exact ⟨r, T, H, aop_pure (by simp [kind, ho]) (by simp [apure', ho, rhoE_of hx, rhoE_of hy, aBin2_of h1]), hR, h2⟩
  · exact hs forc orc E T k out H hO hR h

noncomputable def notF (g : Tre AV d → AV) : OpF d := fun _ E T k => onBool (g E) (fun b => iff' b (k (.bool false) T) (k (.bool true) T)) none
theorem notF_ok {t : TypeId} {x : Operand} {g : Tre AV d → AV} (ho : o.op = .unOp .not t x) (hg : copd gl d n x = some g) : OpOK P gl d n o (notF g) := by
  intro forc orc E T k out H hO hR h
  rcases onBool_some h with ⟨w, e, h⟩ | ⟨_, h⟩ <;> try (cases h; done)
  refine ⟨.bool !w, T, H, aop_pure (by simp [kind, ho]) (by simp [apure', apure, ho, rhoE_of hg, e, aUn]), hR, ?_⟩
  cases w <;> exact h

noncomputable def loadF1 (g : Tre AV d → AV) : OpF d := fun _ E T k =>
  onPtr (g E) (fun b off => onCells (T.get b) (fun _ _ cs _ => getR cs off (fun v => k v T) none) none) (fun cs => getR cs 0 (fun v => k v T) none) none
theorem loadF1_ok {t : TypeId} {x : Operand} {g : Tre AV d → AV} (ho : o.op = .load t x) (ht : tagg P t = some false) (hg : copd gl d n x = some g) : OpOK P gl d n o (loadF1 g) := by
  intro forc orc E T k out H hO hR h
  rcases onPtr_some h with ⟨b, off, e, h⟩ | ⟨cs, e, h⟩ | h <;> try (cases h; done)
  · obtain ⟨fam, sh, cs, ty, e2, h⟩ := onCells_some h
    obtain ⟨v, h1, h2⟩ := getR_some h
    have hH := hR.obj b (by rw [e2])
    rw [e2] at hH
    exact ⟨v, T, H, aop_pure (by simp [kind, ho]) (by simp [apure', apure, ho, rhoE_of hg, e, aload, ht, rd, hH, tk_one h1]), hR, h2⟩
  · obtain ⟨v, h1, h2⟩ := getR_some h
    have := tk_one h1
    exact ⟨v, T, H, aop_pure (by simp [kind, ho]) (by simp [apure', apure, ho, rhoE_of hg, e, aload, ht, rd, show tk 1 cs = some [v] by simpa using this]), hR, h2⟩

noncomputable def loadFn (m : Nat) (g : Tre AV d → AV) : OpF d := fun _ E T k =>
  onPtr (g E) (fun b off => onCells (T.get b) (fun _ _ cs _ => tkR m (dropR cs off) (fun l => k (.agg l) T) none) none) (fun cs => tkR m cs (fun l => k (.agg l) T) none) none
theorem loadFn_ok {t : TypeId} {x : Operand} {m : Nat} {g : Tre AV d → AV} (ho : o.op = .load t x) (ht : tagg P t = some true) (hm : tsz P t = some m) (hg : copd gl d n x = some g) : OpOK P gl d n o (loadFn m g) := by
  intro forc orc E T k out H hO hR h
  rcases onPtr_some h with ⟨b, off, e, h⟩ | ⟨cs, e, h⟩ | h <;> try (cases h; done)
  · obtain ⟨fam, sh, cs, ty, e2, h⟩ := onCells_some h
    obtain ⟨v, h1, h2⟩ := tkR_some h
    have hH := hR.obj b (by rw [e2])
    rw [e2] at hH
    rw [dropR_eq] at h1
    exact ⟨.agg v, T, H, aop_pure (by simp [kind, ho]) (by simp [apure', apure, ho, rhoE_of hg, e, aload, ht, hm, rd, hH, h1]), hR, h2⟩
  · obtain ⟨v, h1, h2⟩ := tkR_some h
    exact ⟨.agg v, T, H, aop_pure (by simp [kind, ho]) (by simp [apure', apure, ho, rhoE_of hg, e, aload, ht, hm, rd, h1]), hR, h2⟩

noncomputable def fadF (c : Nat) (g : Tre AV d → AV) : OpF d := fun _ E T k => onPtr (g E) (fun b off => frcN (Nat.add off c) fun w => k (.ptr b w) T) (fun cs => k (.rp (dropR cs c)) T) none
theorem fadF_ok {s : TypeId} {x : Operand} {f m : Nat} {fd : Field} {g : Tre AV d → AV} (ho : o.op = .fieldAddr s x f) (hf : fieldOf P s f = some fd) (hz : tsz P fd.type = some (m + 1)) (hg : copd gl d n x = some g) : OpOK P gl d n o (fadF fd.offset g) := by
  intro forc orc E T k out H hO hR h
  rcases onPtr_some h with ⟨b, off, e, h⟩ | ⟨cs, e, h⟩ | h <;> try (cases h; done)
  · rw [frcN_eq'] at h
    exact ⟨_, T, H, aop_pure (by simp [kind, ho]) (by simp only [apure', apure, ho, rhoE_of hg, e, aFieldAddr, hf, hz]; rfl), hR, h⟩
  · rw [dropR_eq] at h
    exact ⟨_, T, H, aop_pure (by simp [kind, ho]) (by simp only [apure', apure, ho, rhoE_of hg, e, aFieldAddr, hf, hz]), hR, h⟩

noncomputable def iadF (z : Nat) (gx gi : Tre AV d → AV) : OpF d := fun _ E T k =>
  onNat (gi E) (fun _ i => onSlice (gx E) (fun b off len _ z' => iff' (Nat.blt i len) (iff' (Nat.beq z' z) (frcN (Nat.add off (Nat.mul i z)) fun w => k (.ptr b w) T) none) none)
    (fun m z' cs => iff' (Nat.blt i m) (iff' (Nat.beq z' z) (k (.rp (dropR cs (Nat.mul i z))) T) none) none) none none) none
theorem iadF_ok {t e : TypeId} {x i : Operand} {z : Nat} {gx gi : Tre AV d → AV} (ho : o.op = .indexAddr t x i) (ht : P.underlying t = some (.slice e)) (hz : tsz P e = some z) (hx : copd gl d n x = some gx) (hi : copd gl d n i = some gi) : OpOK P gl d n o (iadF z gx gi) := by
  intro forc orc E T k out H hO hR h
  rcases onNat_some h with ⟨kk, m, e1, h⟩ | h <;> try (cases h; done)
  rcases onSlice_some h with ⟨b, off, l, c, z', e2, h⟩ | ⟨l, z', cs, e2, h⟩ | ⟨_, h⟩ | h <;> try (cases h; done)
  · obtain ⟨h1, h⟩ := iff_some h
    obtain ⟨h2, h⟩ := iff_some h
    have h1' : m < l := by simpa [Nat.blt_eq] using h1
    have h2' := Nat.eq_of_beq_eq_true h2
    subst h2'
    rw [frcN_eq'] at h
    refine ⟨_, T, H, aop_pure (by simp [kind, ho]) ?_, hR, h⟩
    have hc : (0 : Int) ≤ Int.ofNat m ∧ Int.ofNat m < (l : Int) := ⟨Int.natCast_nonneg m, by show (m : Int) < l; omega⟩
    simp only [apure', apure, ho, rhoE_of hx, rhoE_of hi, e1, e2, aIndexAddr, ht, hz, if_pos hc, if_true]
    rfl
  · obtain ⟨h1, h⟩ := iff_some h
    obtain ⟨h2, h⟩ := iff_some h
    have h1' : m < l := by simpa [Nat.blt_eq] using h1
    have h2' := Nat.eq_of_beq_eq_true h2
    subst h2'
    rw [dropR_eq] at h
    refine ⟨_, T, H, aop_pure (by simp [kind, ho]) ?_, hR, h⟩
    have hc : (0 : Int) ≤ Int.ofNat m ∧ Int.ofNat m < (l : Int) := ⟨Int.natCast_nonneg m, by show (m : Int) < l; omega⟩
    simp only [apure', apure, ho, rhoE_of hx, rhoE_of hi, e1, e2, aIndexAddr, ht, hz, if_pos hc, if_true]
    rfl

noncomputable def idxF (gx gi : Tre AV d → AV) : OpF d := fun _ E T k =>
  onNat (gi E) (fun _ i => onStr (gx E) (fun s => getR s i (fun c => frcN (UInt8.toNat c) fun w => k (.int .u8 (.ofNat w)) T) none) none) none
theorem idxF_ok {t : TypeId} {x i : Operand} {gx gi : Tre AV d → AV} (ho : o.op = .index t x i) (ht : P.underlying t = some .string) (hx : copd gl d n x = some gx) (hi : copd gl d n i = some gi) : OpOK P gl d n o (idxF gx gi) := by
  intro forc orc E T k out H hO hR h
  rcases onNat_some h with ⟨kk, m, e1, h⟩ | h <;> try (cases h; done)
  rcases onStr_some h with ⟨s, e2, h⟩ | h <;> try (cases h; done)
  obtain ⟨c, h1, h⟩ := getR_some h
  rw [frcN_eq'] at h
  refine ⟨_, T, H, aop_pure (by simp [kind, ho]) ?_, hR, h⟩
  have hc : (0 : Int) ≤ Int.ofNat m := Int.natCast_nonneg m
  have ht' : (Int.ofNat m).toNat = m := rfl
  simp only [apure', apure, ho, rhoE_of hx, rhoE_of hi, e1, e2, aIndex, ht, if_pos hc, ht', h1]
  rfl

noncomputable def extF (i : Nat) (g : Tre AV d → AV) : OpF d := fun _ E T k => onTuple (g E) (fun vs => getR vs i (fun v => k v T) none) none
theorem extF_ok {x : Operand} {i : Nat} {g : Tre AV d → AV} (ho : o.op = .extract x i) (hg : copd gl d n x = some g) : OpOK P gl d n o (extF i g) := by
  intro forc orc E T k out H hO hR h
  rcases onTuple_some h with ⟨vs, e, h⟩ | h <;> try (cases h; done)
  obtain ⟨v, h1, h2⟩ := getR_some h
  exact ⟨v, T, H, aop_pure (by simp [kind, ho]) (by simp [apure', apure, ho, rhoE_of hg, e, aExtract, h1]), hR, h2⟩

/-- What is surely not nil goes on as it is. -/
noncomputable def nilF (g : Tre AV d → AV) (s : OpF d) : OpF d := fun forc E T k => onPtr (g E) (fun b off => k (.ptr b off) T) (fun cs => k (.rp cs) T) (s forc E T k)
theorem nilF_ok {x : Operand} {g : Tre AV d → AV} {s : OpF d} (ho : o.op = .nilCheck x) (hg : copd gl d n x = some g) (hs : OpOK P gl d n o s) : OpOK P gl d n o (nilF g s) := by
  intro forc orc E T k out H hO hR h
  rcases onPtr_some h with ⟨b, off, e, h⟩ | ⟨cs, e, h⟩ | h
  · exact ⟨_, T, H, aop_pure (by simp [kind, ho]) (by simp [apure', apure, ho, rhoE_of hg, e, aNil]), hR, h⟩
  · exact ⟨_, T, H, aop_pure (by simp [kind, ho]) (by simp [apure', apure, ho, rhoE_of hg, e, aNil]), hR, h⟩
  · exact hs forc orc E T k out H hO hR h

noncomputable def lenSF (g : Tre AV d → AV) : OpF d := fun _ E T k => onStr (g E) (fun s => frcN (lenR s) fun m => k (.int .i64 (.ofNat m)) T) none
noncomputable def lenF (g : Tre AV d → AV) : OpF d := fun _ E T k => onSlice (g E) (fun _ _ l _ _ => k (.int .i64 (.ofNat l)) T) (fun m _ _ => k (.int .i64 (.ofNat m)) T) (k (.int .i64 (.ofNat 0)) T) none
noncomputable def lenMF (g : Tre AV d → AV) : OpF d := fun _ E T k => frc1 (g E) fun v => match v with
  | .nmap => k (.int .i64 (.ofNat 0)) T
  | .map b => onMap (T.get b) (fun _ _ es _ => frcN (lenR es) fun m => k (.int .i64 (.ofNat m)) T) none
  | _ => none

theorem kind_len {c : Call} (ho : o.op = .call c) (hc : c.callee = .builtin .len) : kind o = 1 := by simp [kind, ho, hc]

theorem lenSF_ok {c : Call} {x : Operand} {t : TypeId} {ts : List TypeId} {g : Tre AV d → AV} (ho : o.op = .call c) (hc : c.callee = .builtin .len) (ha : c.args.toList = [x]) (ht : c.argTypes.toList = t :: ts) (hu : P.underlying t = some .string)
    (hg : copd gl d n x = some g) : OpOK P gl d n o (lenSF g) := by
  intro forc orc E T k out H hO hR h
  rcases onStr_some h with ⟨s, e, h⟩ | h <;> try (cases h; done)
  rw [frcN_eq', lenR_eq] at h
  exact ⟨_, T, H, aop_pure (by rw [kind_len ho hc]; omega) (by simp only [apure', apure, ho, hc, ha, ht, rhoE_of hg, e, aLen, hu]; rfl), hR, h⟩

theorem lenF_ok {c : Call} {x : Operand} {t el : TypeId} {ts : List TypeId} {g : Tre AV d → AV} (ho : o.op = .call c) (hc : c.callee = .builtin .len) (ha : c.args.toList = [x]) (ht : c.argTypes.toList = t :: ts) (hu : P.underlying t = some (.slice el))
    (hg : copd gl d n x = some g) : OpOK P gl d n o (lenF g) := by
  intro forc orc E T k out H hO hR h
  rcases onSlice_some h with ⟨b, off, l, c', z', e, h⟩ | ⟨l, z', cs, e, h⟩ | ⟨e, h⟩ | h <;> try (cases h; done)
  all_goals exact ⟨_, T, H, aop_pure (by rw [kind_len ho hc]; omega) (by simp only [apure', apure, ho, hc, ha, ht, rhoE_of hg, e, aLen, hu]; rfl), hR, h⟩

theorem lenMF_ok {c : Call} {x : Operand} {t kt el : TypeId} {ts : List TypeId} {g : Tre AV d → AV} (ho : o.op = .call c) (hc : c.callee = .builtin .len) (ha : c.args.toList = [x]) (ht : c.argTypes.toList = t :: ts) (hu : P.underlying t = some (.map kt el))
    (hg : copd gl d n x = some g) : OpOK P gl d n o (lenMF g) := by
  intro forc orc E T k out H hO hR h
  simp only [lenMF, frc1_eq] at h
  split at h <;> try (cases h; done)
  · rename_i e
    exact ⟨_, T, H, aop_pure (by rw [kind_len ho hc]; omega) (by simp only [apure', apure, ho, hc, ha, ht, rhoE_of hg, e, aLen, hu]; rfl), hR, h⟩
  · rename_i b e
    obtain ⟨fam, sh, es, cl, e2, h⟩ := onMap_some h
    have hH := hR.obj b (by rw [e2])
    rw [e2] at hH
    rw [frcN_eq', lenR_eq] at h
    exact ⟨_, T, H, aop_pure (by rw [kind_len ho hc]; omega) (by simp only [apure', apure, ho, hc, ha, ht, rhoE_of hg, e, aLen, hu, mapObj, hH]; rfl), hR, h⟩

/-! what makes a block -/
noncomputable def newF (mk : Nat → AV) (bd : ABody) (k : Knt) (T : TH) : Res := newK T bd fun sz T' => frc1 (mk sz) fun v => k v T'

noncomputable def frcBd {β : Type} (b : ABody) (f : ABody → β) : β := match b with
  | .cells cs ty => frcVLR cs fun cs => f (.cells cs ty)
  | b => f b
theorem frcBd_eq {β : Type} (b : ABody) (f : ABody → β) : frcBd b f = f b := by cases b <;> simp [frcBd, frcVLR_eq]

noncomputable def slowN (P : Program) (gl : Glob) (d n : Nat) (o : Oper) : OpF d := fun _ E T k => match aallocF P (rhoE gl d n E) o with | some (mk, bd) => frcBd bd fun bd => newF mk bd k T | none => none

theorem newF_ok {E : Tre AV d} {orc : Orc} {T : TH} {k : Knt} {out : AV × TH} {H : AHeap} {mk : Nat → AV} {bd : ABody} (hk : kind o = 2) (ha : aallocF P (rhoE gl d n E) o = some (mk, bd)) (hR : Rep T H) (h : newF mk bd k T = some out) :
    ∃ r T' H', aop P orc (rhoE gl d n E) o H = some (r, H') ∧ Rep T' H' ∧ k r T' = some out := by
  obtain ⟨h1, h2⟩ := newK_some h
  rw [frc1_eq] at h2
  refine ⟨mk H.length, _, _, aop_new hk ha, hR.push h1 bd, ?_⟩
  rw [← hR.sz]; exact h2

theorem slowN_ok (hk : kind o = 2) : OpOK P gl d n o (slowN P gl d n o) := by
  intro forc orc E T k out H hO hR h
  unfold slowN at h
  split at h <;> try (simp at h; done)
  rename_i mk bd ha
  rw [frcBd_eq] at h
  exact newF_ok hk ha hR h

noncomputable def allF (bd : ABody) : OpF d := fun _ E T k => newF (fun m => .ptr m 0) bd k T
theorem allF_ok {e : TypeId} {z : AV} (ho : o.op = .alloc e) (hz : tzero P e = some z) : OpOK P gl d n o (allF (.cells z.cells e)) := by
  intro forc orc E T k out H hO hR h
  exact newF_ok (by simp [kind, ho]) (by simp [aallocF, ho, hz]) hR h

noncomputable def boxF (e : TypeId) (g : Tre AV d → AV) : OpF d := fun _ E T k => frc1 (g E) fun v => onAgg v (fun cs => newF (fun m => .ptr m 0) (.cells cs e) k T) (newF (fun m => .ptr m 0) (.cells [v] e) k T)
theorem cells_one {v : AV} (h : ∀ b, v ≠ .agg b) : v.cells = [v] := by cases v <;> first | rfl | exact (h _ rfl).elim
theorem boxF_ok {e : TypeId} {x : Operand} {g : Tre AV d → AV} (ho : o.op = .box e x) (hg : copd gl d n x = some g) : OpOK P gl d n o (boxF e g) := by
  intro forc orc E T k out H hO hR h
  simp only [boxF, frc1_eq] at h
  rcases onAgg_some h with ⟨cs, e1, h⟩ | ⟨hne, h⟩
  · exact newF_ok (by simp [kind, ho]) (by simp [aallocF, ho, rhoE_of hg, e1, AV.cells]) hR h
  · exact newF_ok (by simp [kind, ho]) (by simp [aallocF, ho, rhoE_of hg, cells_one hne]) hR h

/-! parts in their places -/
noncomputable def cfill (gl : Glob) (d n : Nat) (place : Nat → Option (Nat × Nat)) : List (Nat × Operand) → Option (Tre AV d → List AV → (List AV → Res) → Res)
  | [] => some fun _ cs f => f cs
  | (i, x) :: l => match place i, copd gl d n x, cfill gl d n place l with
    | some (off, sz), some g, some G => frcNR off fun off => frcNR sz fun sz => some fun E cs f => frc1 (g E) fun v =>
        onAgg v (fun vs => iff' (Nat.beq (lenR vs) sz) (splR cs off vs (fun cs' => G E cs' f) none) none) (iff' (Nat.beq 1 sz) (splR cs off [v] (fun cs' => G E cs' f) none) none)
    | _, _, _ => none

theorem cfill_ok {place : Nat → Option (Nat × Nat)} : ∀ (l : List (Nat × Operand)) (G : Tre AV d → List AV → (List AV → Res) → Res), cfill gl d n place l = some G → ∀ E cs f out, G E cs f = some out →
    ∃ us cs', aparts (rhoE gl d n E) l = some us ∧ aFill place cs us = some cs' ∧ f cs' = some out
  | [], G, h, E, cs, f, out, he => by simp [cfill] at h; subst h; exact ⟨[], cs, rfl, rfl, he⟩
  | (i, x) :: l, G, h, E, cs, f, out, he => by
    simp only [cfill] at h
    split at h <;> try (simp at h; done)
    rename_i off sz g G' hp hg hG
    rw [frcNR_eq, frcNR_eq] at h
    simp at h; subst h
    simp only [frc1_eq] at he
    rcases onAgg_some he with ⟨vs, e, he2⟩ | ⟨hne, he2⟩
    · obtain ⟨h1, he3⟩ := iff_some he2
      have h1' := Nat.eq_of_beq_eq_true h1
      rw [lenR_eq] at h1'
      obtain ⟨cs1, h2, he4⟩ := splR_some he3
      obtain ⟨us, cs', k1, k2, k3⟩ := cfill_ok l G' hG E cs1 f out he4
      exact ⟨(i, .agg vs) :: us, cs', by simp [aparts, rhoE_of hg, e, k1], by simp [aFill, hp, AV.cells, h1', h2, k2], k3⟩
    · obtain ⟨h1, he3⟩ := iff_some he2
      have h1' := Nat.eq_of_beq_eq_true h1
      obtain ⟨cs1, h2, he4⟩ := splR_some he3
      obtain ⟨us, cs', k1, k2, k3⟩ := cfill_ok l G' hG E cs1 f out he4
      exact ⟨(i, g E) :: us, cs', by simp [aparts, rhoE_of hg, k1], by simp [aFill, hp, cells_one hne, ← h1', h2, k2], k3⟩

noncomputable def bldF (zs : List AV) (G : Tre AV d → List AV → (List AV → Res) → Res) : OpF d := fun _ E T k => G E zs fun cs => k (.agg cs) T
theorem bldF_ok {t : TypeId} {ps : Array (Nat × Operand)} {z : AV} {fs : Array Field} {G : Tre AV d → List AV → (List AV → Res) → Res} (ho : o.op = .build t ps) (hz : tzero P t = some z) (hu : P.underlying t = some (.struct fs)) (ha : allSized P t = true)
    (hG : cfill gl d n (fplace P t) ps.toList = some G) : OpOK P gl d n o (bldF z.cells G) := by
  intro forc orc E T k out H hO hR h
  obtain ⟨us, cs', h1, h2, h3⟩ := cfill_ok _ _ hG E _ _ _ h
  exact ⟨.agg cs', T, H, aop_pure (by simp [kind, ho]) (by simp [apure', apure, ho, h1, aBuild, hz, hu, ha, h2]), hR, h3⟩

noncomputable def bslF (len : Nat) (zs : List AV) (e : TypeId) (z : Nat) (G : Tre AV d → List AV → (List AV → Res) → Res) : OpF d := fun _ E T k => G E zs fun cs => newF (fun m => .slice m 0 len len z) (.cells cs e) k T
theorem bsCore_fill {t : TypeId} {len : Nat} {zs cs : List AV} {e : TypeId} {z : Nat} {us : List (Nat × AV)} (h : bsCore P t len [] = some (zs, e, z)) (hf : aFill (fun i => some (i * z, z)) zs us = some cs) : bsCore P t len us = some (cs, e, z) := by
  unfold bsCore at h ⊢
  split at h <;> try (simp at h; done)
  rename_i e' hu
  split at h <;> try (simp at h; done)
  rename_i z' hz
  split at h <;> try (simp at h; done)
  rename_i hle
  split at h <;> try (simp at h; done)
  rename_i zs' hzs
  simp only [aFill, Option.some.injEq, Prod.mk.injEq] at h
  obtain ⟨rfl, rfl, rfl⟩ := h
  simp only [hu, hz, if_pos hle, hzs, hf]
theorem bslF_ok {t : TypeId} {len : Nat} {ps : Array (Nat × Operand)} {zs : List AV} {e : TypeId} {z : Nat} {G : Tre AV d → List AV → (List AV → Res) → Res} (ho : o.op = .buildSlice t len ps) (hz : bsCore P t len [] = some (zs, e, z))
    (hG : cfill gl d n (fun i => some (i * z, z)) ps.toList = some G) : OpOK P gl d n o (bslF len zs e z G) := by
  intro forc orc E T k out H hO hR h
  obtain ⟨us, cs', h1, h2, h3⟩ := cfill_ok _ _ hG E _ _ _ h
  exact newF_ok (by simp [kind, ho]) (by simp [aallocF, ho, h1, bsCore_fill hz h2]) hR h3

/-! slices of texts and slices -/
noncomputable def cbnd (gl : Glob) (d n : Nat) : Option Operand → Option (Tre AV d → Nat → (Nat → Res) → Res)
  | none => some fun _ m f => f m
  | some x => match copd gl d n x with | some g => some fun E _ f => onNat (g E) (fun _ i => f i) none | none => none
theorem cbnd_ok {b : Option Operand} {B : Tre AV d → Nat → (Nat → Res) → Res} (h : cbnd gl d n b = some B) {E : Tre AV d} {m top : Nat} {f : Nat → Res} {out : AV × TH} (hm : m ≤ top) (he : B E m (fun i => iff' (Nat.ble i top) (f i) none) = some out) :
    ∃ ob i, aopt (rhoE gl d n E) b = some ob ∧ bnd ob m top = some i ∧ f i = some out := by
  cases b with
  | none =>
    simp [cbnd] at h; subst h
    obtain ⟨_, h2⟩ := iff_some he
    exact ⟨none, m, rfl, rfl, h2⟩
  | some x =>
    simp only [cbnd] at h
    split at h <;> simp at h
    rename_i g hg
    subst h
    rcases onNat_some he with ⟨kk, i, e, he2⟩ | he2 <;> try (cases he2; done)
    obtain ⟨h1, h2⟩ := iff_some he2
    have h1' : i ≤ top := Nat.le_of_ble_eq_true h1
    refine ⟨some (g E), i, by simp [aopt, rhoE_of hg], ?_, h2⟩
    have hc : (0 : Int) ≤ Int.ofNat i ∧ Int.ofNat i ≤ (top : Int) := ⟨Int.natCast_nonneg i, by show (i : Int) ≤ top; omega⟩
    simp only [bnd, e, if_pos hc]; rfl

noncomputable def slsF (gx : Tre AV d → AV) (lo hi : Tre AV d → Nat → (Nat → Res) → Res) : OpF d := fun _ E T k => onStr (gx E) (fun s => frcNR (lenR s) fun m => hi E m fun h => iff' (Nat.ble h m) (lo E 0 fun l => iff' (Nat.ble l h) (takeK (dropR s l) (Nat.sub h l) fun r => k (.str r) T) none) none) none
theorem slsF_ok {t : TypeId} {x : Operand} {lo hi : Option Operand} {gx : Tre AV d → AV} {L R : Tre AV d → Nat → (Nat → Res) → Res} (ho : o.op = .slice t x lo hi none) (ht : P.underlying t = some .string) (hx : copd gl d n x = some gx) (hL : cbnd gl d n lo = some L) (hH : cbnd gl d n hi = some R) :
    OpOK P gl d n o (slsF gx L R) := by
  intro forc orc E T k out H hO hR h
  rcases onStr_some h with ⟨s, e, h⟩ | h <;> try (cases h; done)
  rw [frcNR_eq, lenR_eq] at h
  obtain ⟨oh, i, a1, a2, h⟩ := cbnd_ok hH (Nat.le_refl _) h
  obtain ⟨ol, l, b1, b2, h⟩ := cbnd_ok hL (Nat.zero_le _) h
  rw [takeK_eq, dropR_eq] at h
  exact ⟨_, T, H, aop_pure (by simp [kind, ho]) (by simp only [apure', apure, ho, rhoE_of hx, a1, b1, e, aSlice, ht, a2, b2]; rfl), hR, h⟩

noncomputable def sliF (z : Nat) (gx : Tre AV d → AV) (lo hi : Tre AV d → Nat → (Nat → Res) → Res) : OpF d := fun _ E T k => onSlice (gx E)
  (fun b off len cap z' => iff' (Nat.ble len cap) (iff' (Nat.beq z z') (hi E len fun h => iff' (Nat.ble h cap) (lo E 0 fun l => iff' (Nat.ble l h) (frcNR (Nat.add off (Nat.mul l z')) fun o' => frcNR (Nat.sub h l) fun n' => frcNR (Nat.sub cap l) fun c' => k (.slice b o' n' c' z') T) none) none) none) none)
  (fun m z' cs => iff' (Nat.beq z z') (hi E m fun h => iff' (Nat.ble h m) (lo E 0 fun l => iff' (Nat.ble l h) (frcNR (Nat.sub h l) fun n' => takeK (dropR cs (Nat.mul l z')) (Nat.mul n' z') fun r => k (.rs n' z' r) T) none) none) none)
  (hi E 0 fun h => iff' (Nat.ble h 0) (lo E 0 fun l => iff' (Nat.ble l h) (k .nslice T) none) none) none
theorem sliF_ok {t e : TypeId} {x : Operand} {z : Nat} {lo hi : Option Operand} {gx : Tre AV d → AV} {L R : Tre AV d → Nat → (Nat → Res) → Res} (ho : o.op = .slice t x lo hi none) (ht : P.underlying t = some (.slice e)) (hz : tsz P e = some z) (hx : copd gl d n x = some gx)
    (hL : cbnd gl d n lo = some L) (hH : cbnd gl d n hi = some R) : OpOK P gl d n o (sliF z gx L R) := by
  intro forc orc E T k out H hO hR h
  rcases onSlice_some h with ⟨b, off, len, cap, z', e1, h1⟩ | ⟨m, z', cs, e1, h1⟩ | ⟨e1, h1⟩ | h1 <;> try (cases h1; done)
  · obtain ⟨g1, h1⟩ := iff_some h1
    obtain ⟨g2, h2⟩ := iff_some h1
    have g2' := Nat.eq_of_beq_eq_true g2
    obtain ⟨oh, i, a1, a2, h3⟩ := cbnd_ok hH (Nat.le_of_ble_eq_true g1) h2
    obtain ⟨ol, l, b1, b2, h4⟩ := cbnd_ok hL (Nat.zero_le _) h3
    simp only [frcNR_eq] at h4
    exact ⟨_, T, H, aop_pure (by simp [kind, ho]) (by simp only [apure', apure, ho, rhoE_of hx, a1, b1, e1, aSlice, ht, hz, if_pos g2', a2, b2]; rfl), hR, h4⟩
  · obtain ⟨g2, h2⟩ := iff_some h1
    have g2' := Nat.eq_of_beq_eq_true g2
    obtain ⟨oh, i, a1, a2, h3⟩ := cbnd_ok hH (Nat.le_refl _) h2
    obtain ⟨ol, l, b1, b2, h4⟩ := cbnd_ok hL (Nat.zero_le _) h3
    simp only [frcNR_eq] at h4
    rw [takeK_eq, dropR_eq] at h4
    exact ⟨_, T, H, aop_pure (by simp [kind, ho]) (by simp only [apure', apure, ho, rhoE_of hx, a1, b1, e1, aSlice, ht, hz, if_pos g2', a2, b2]; rfl), hR, h4⟩
  · obtain ⟨oh, i, a1, a2, h3⟩ := cbnd_ok hH (Nat.le_refl _) h1
    obtain ⟨ol, l, b1, b2, h4⟩ := cbnd_ok hL (Nat.zero_le _) h3
    exact ⟨_, T, H, aop_pure (by simp [kind, ho]) (by simp only [apure', apure, ho, rhoE_of hx, a1, b1, e1, aSlice, ht, hz, a2, b2]), hR, h4⟩

noncomputable def cnvF (kk : IntKind) (g : Tre AV d → AV) (s : OpF d) : OpF d := fun forc E T k => onNat (g E) (fun _ m => iff' (Nat.ble m (kmx kk)) (k (.int kk (.ofNat m)) T) (s forc E T k)) (s forc E T k)
theorem cnvF_ok {src dst : TypeId} {x : Operand} {kk : IntKind} {td : TypeDesc} {g : Tre AV d → AV} {s : OpF d} (ho : o.op = .convert src dst x) (hs : P.underlying src = some td) (hd : P.underlying dst = some (.int kk)) (hg : copd gl d n x = some g) (hsl : OpOK P gl d n o s) : OpOK P gl d n o (cnvF kk g s) := by
  intro forc orc E T k out H hO hR h
  rcases onNat_some h with ⟨k0, m, e, h1⟩ | h1
  · cases hb : Nat.ble m (kmx kk) with
    | true =>
      rw [hb] at h1
      have hw := kmx_wrap (Nat.le_of_ble_eq_true hb)
      have hw' : kk.wrap (Int.ofNat m) = Int.ofNat m := hw
      exact ⟨_, T, H, aop_pure (by simp [kind, ho]) (by simp only [apure', apure, ho, rhoE_of hg, e, aConv, hs, hd, hw']), hR, h1⟩
    | false =>
      rw [hb] at h1
      exact hsl forc orc E T k out H hO hR h1
  · exact hsl forc orc E T k out H hO hR h1

/-- '[]byte(s)'. -/
noncomputable def mapB (s : List UInt8) : List AV := List.rec [] (fun b _ ih => .int .u8 (Int.ofNat (UInt8.toNat b)) :: ih) s
theorem mapB_eq : ∀ s : List UInt8, mapB s = s.map fun b => .int .u8 b.toNat
  | [] => rfl
  | b :: s => by show _ :: mapB s = _; rw [mapB_eq s]; rfl
noncomputable def stbF (g : Tre AV d → AV) : OpF d := fun _ E T k => onStr (g E) (fun s => frcNR (lenR s) fun m => frcVLR (mapB s) fun cs => k (.rs m 1 cs) T) none
theorem stbF_ok {src dst x : _} {e : TypeId} {g : Tre AV d → AV} (ho : o.op = .convert src dst x) (hs : P.underlying src = some .string) (hd : P.underlying dst = some (.slice e)) (he : P.underlying e = some (.int .u8)) (hg : copd gl d n x = some g) : OpOK P gl d n o (stbF g) := by
  intro forc orc E T k out H hO hR h
  rcases onStr_some h with ⟨s, e1, h1⟩ | h1 <;> try (cases h1; done)
  rw [frcNR_eq, frcVLR_eq, mapB_eq, lenR_eq] at h1
  refine ⟨_, T, H, ?_, hR, h1⟩
  rw [aop_low (by simp [kind, ho])]
  simp [apure', apure, aeff, ho, rhoE_of hg, e1, aConv, hs, hd, aConvB, he]

/-! writing -/
noncomputable def oneR (v : AV) : Bool := onAgg v (fun _ => false) (onTuple v (fun _ => false) true)
theorem oneR_eq (v : AV) : oneR v = one v := by cases v <;> rfl
noncomputable def allOne (l : List AV) : Bool := List.rec true (fun v _ ih => iff' (oneR v) ih false) l
theorem allOne_eq : ∀ l : List AV, allOne l = l.all one
  | [] => rfl
  | v :: l => by
    show iff' (oneR v) (allOne l) false = _
    rw [allOne_eq l, oneR_eq, List.all_cons, iff'_eq]; cases one v <;> simp

noncomputable def wrF (a : AV) (vs : List AV) (T : TH) (f : TH → Res) : Res :=
  onPtr a (fun b off => onCells (T.get b) (fun fam sh cs ty => iff' (allOne vs) (splR cs off vs (fun cs' => putK T b ⟨true, fam, sh, .cells cs' ty⟩ f) none) none) none) (fun _ => none) none

theorem wrF_ok {T : TH} {H : AHeap} {a : AV} {vs : List AV} {f : TH → Res} {out : AV × TH} (hR : Rep T H) (h : wrF a vs T f = some out) : ∃ T' H', wr H a vs = some H' ∧ Rep T' H' ∧ f T' = some out := by
  unfold wrF at h
  rcases onPtr_some h with ⟨b, off, rfl, h⟩ | ⟨_, _, h⟩ | h <;> try (cases h; done)
  replace h : onCells (T.get b) _ none = some out := h
  obtain ⟨fam, sh, cs, ty, e2, h⟩ := onCells_some h
  have e2 : T.get b = ⟨true, fam, sh, .cells cs ty⟩ := e2
  obtain ⟨h1, h⟩ := iff_some h
  obtain ⟨cs', h2, h⟩ := splR_some h
  rw [putK_eq] at h
  have hH := hR.obj b (by rw [e2])
  have hs := hR.set' e2 (.cells cs' ty)
  rw [e2] at hH
  rw [allOne_eq] at h1
  exact ⟨_, _, by simp only [wr, hH, h1, if_true, h2], hs, h⟩

noncomputable def stoF (m : Nat) (ga gx : Tre AV d → AV) : OpF d := fun _ E T k =>
  frc1 (gx E) fun v => onAgg v (fun cs => iff' (Nat.beq (lenR cs) m) (wrF (ga E) cs T fun T' => k (.tuple []) T') none) (iff' (Nat.beq 1 m) (wrF (ga E) [v] T fun T' => k (.tuple []) T') none)
theorem kind_store {t : TypeId} {a x : Operand} (ho : o.op = .store t a x) {ρ : Operand → Option AV} {orc : Orc} {H H' : AHeap} {u v : AV} (ha : ρ a = some u) (hx : ρ x = some v) (h : aStore P t u v H = some H') : aop P orc ρ o H = some (.tuple [], H') := by
  simp [aop, apure', apure, aeff, ho, ha, hx, h]
theorem stoF_ok {t : TypeId} {a x : Operand} {m : Nat} {ga gx : Tre AV d → AV} (ho : o.op = .store t a x) (hm : tsz P t = some m) (ha : copd gl d n a = some ga) (hx : copd gl d n x = some gx) : OpOK P gl d n o (stoF m ga gx) := by
  intro forc orc E T k out H hO hR h
  simp only [stoF, frc1_eq] at h
  rcases onAgg_some h with ⟨cs, e, h⟩ | ⟨hne, h⟩
  · obtain ⟨h1, h⟩ := iff_some h
    have h1' := Nat.eq_of_beq_eq_true h1
    rw [lenR_eq] at h1'
    obtain ⟨T', H', g1, g2, g3⟩ := wrF_ok hR h
    exact ⟨_, T', H', kind_store ho (rhoE_of ha) (rhoE_of hx) (by simp [aStore, hm, e, AV.cells, h1', g1]), g2, g3⟩
  · obtain ⟨h1, h⟩ := iff_some h
    have h1' := Nat.eq_of_beq_eq_true h1
    obtain ⟨T', H', g1, g2, g3⟩ := wrF_ok hR h
    exact ⟨_, T', H', kind_store ho (rhoE_of ha) (rhoE_of hx) (by simp [aStore, hm, cells_one hne, ← h1', g1]), g2, g3⟩
end ops

end Go.Abs

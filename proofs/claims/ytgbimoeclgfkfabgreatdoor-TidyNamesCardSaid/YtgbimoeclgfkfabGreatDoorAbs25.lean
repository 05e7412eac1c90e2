/-
  A verified abstract interpreter, part 25: calls, append, copy, maps, laid ahead for the kernel; all operations in one.
-/
import Derived.Test.YtgbimoeclgfkfabGreatDoorAbs24
set_option linter.unusedSimpArgs false
set_option linter.unusedVariables false
namespace Go.Abs
open Go.RowKit

noncomputable def frcL {α β : Type} (l : List α) : (List α → β) → β := List.rec (motive := fun _ => (List α → β) → β) (fun f => f []) (fun v _ ih f => ih fun r => f (v :: r)) l
theorem frcL_eq {α β : Type} : ∀ (l : List α) (f : List α → β), frcL l f = f l
  | [], f => rfl
  | v :: l, f => by show frcL l (fun r => f (v :: r)) = _; rw [frcL_eq l]
noncomputable def appR {α : Type} (l m : List α) : List α := List.rec m (fun v _ ih => v :: ih) l
theorem appR_eq {α : Type} : ∀ (l m : List α), appR l m = l ++ m
  | [], m => rfl
  | v :: l, m => by show v :: appR l m = _; rw [appR_eq l]; rfl

section ops
variable {P : Program} {gl : Glob} {d n : Nat} {o : Oper}

noncomputable def cargs (gl : Glob) (d n : Nat) : List Operand → Option (Tre AV d → (List AV → Res) → Res)
  | [] => some fun _ f => f []
  | x :: l => match copd gl d n x, cargs gl d n l with | some g, some G => some fun E f => frc1 (g E) fun v => G E fun vs => f (v :: vs) | _, _ => none

theorem cargs_ok : ∀ (l : List Operand) (G : Tre AV d → (List AV → Res) → Res), cargs gl d n l = some G → ∀ E f, ∃ vs, aevals (rhoE gl d n E) l = some vs ∧ G E f = f vs
  | [], G, h, E, f => by simp [cargs] at h; subst h; exact ⟨[], rfl, rfl⟩
  | x :: l, G, h, E, f => by
    simp only [cargs] at h
    split at h <;> simp at h
    rename_i g G' hg hG
    subst h
    obtain ⟨vs, h1, h2⟩ := cargs_ok l G' hG E (fun vs => f (g E :: vs))
    exact ⟨g E :: vs, by simp [aevals, rhoE_of hg, h1], by simp only [frc1_eq]; exact h2⟩

noncomputable def callK (r : Res) (k : Knt) : Res := Option.rec none (fun p => Prod.rec (fun v T => k v T) p) r
theorem callK_some {r : Res} {k : Knt} {out : AV × TH} (h : callK r k = some out) : ∃ v T, r = some (v, T) ∧ k v T = some out := by
  cases r with
  | none => cases h
  | some p => obtain ⟨v, T⟩ := p; exact ⟨v, T, rfl, h⟩

noncomputable def calSF (g : Nat) (G : Tre AV d → (List AV → Res) → Res) : OpF d := fun forc E T k => G E fun vs => callK (forc g vs T) k
theorem calSF_ok {c : Call} {g : Nat} {G : Tre AV d → (List AV → Res) → Res} (ho : o.op = .call c) (hc : c.callee = .value (.func g)) (hb : hasBody P g = true) (hG : cargs gl d n c.args.toList = some G) : OpOK P gl d n o (calSF g G) := by
  intro forc orc E T k out H hO hR h
  obtain ⟨vs, h1, h2⟩ := cargs_ok _ _ hG E (fun vs => callK (forc g vs T) k)
  have h : G E (fun vs => callK (forc g vs T) k) = some out := h
  rw [h2] at h
  obtain ⟨v, T', h3, h4⟩ := callK_some h
  obtain ⟨H', h5, h6⟩ := hO g vs T v T' h3 H hR
  refine ⟨v, T', H', ?_, h6, h4⟩
  have hf : rhoE gl d n E (.func g) = some (.func (.func g) [] []) := rfl
  simp [aop, ho, callee, hc, hf, h1, acall, hb, h5]

noncomputable def fnG (fn : Fn) (f : Nat → Res) : Res := match fn with | .func g => f g | _ => none
noncomputable def calDF (P : Program) (gf : Tre AV d → AV) (G : Tre AV d → (List AV → Res) → Res) : OpF d := fun forc E T k =>
  onFunc (gf E) (fun fn a b => G E fun vs => fnG fn fun g => iff' (hasBody P g) (callK (forc g (appR a (appR vs b)) T) k) none) none
theorem calDF_ok {c : Call} {f : Operand} {gf : Tre AV d → AV} {G : Tre AV d → (List AV → Res) → Res} (ho : o.op = .call c) (hc : c.callee = .value f) (hf : copd gl d n f = some gf) (hG : cargs gl d n c.args.toList = some G) : OpOK P gl d n o (calDF P gf G) := by
  intro forc orc E T k out H hO hR h
  unfold calDF at h
  rcases onFunc_some h with ⟨fn, a, b, e, h⟩ | h <;> try (cases h; done)
  obtain ⟨vs, h1, h2⟩ := cargs_ok _ _ hG E (fun vs => fnG fn fun g => iff' (hasBody P g) (callK (forc g (appR a (appR vs b)) T) k) none)
  rw [h2] at h
  unfold fnG at h
  split at h <;> try (cases h; done)
  rename_i g
  obtain ⟨hb, h⟩ := iff_some h
  obtain ⟨v, T', h3, h4⟩ := callK_some h
  obtain ⟨H', h5, h6⟩ := hO _ _ _ _ _ h3 H hR
  refine ⟨v, T', H', ?_, h6, h4⟩
  rw [appR_eq, appR_eq] at h5
  simp [aop, ho, callee, hc, rhoE_of hf, e, h1, acall, hb, h5]

/-! append, copy -/
noncomputable def xcF (z : Nat) (x : AV) (T : TH) (f : Nat → List AV → Res) : Res :=
  onSlice x (fun b off len _ z' => iff' (Nat.beq z' z) (onCells (T.get b) (fun _ _ cs _ => tkR (Nat.mul len z) (dropR cs off) (fun l => f len l) none) none) none) (fun m z' cs => iff' (Nat.beq z' z) (f m cs) none) (f 0 [])
    (onStr x (fun s => iff' (Nat.beq z 1) (frcVL (s.map fun b => .int .u8 b.toNat) fun l => frcN (lenR s) fun m => f m l) none) none)
theorem xcF_ok {z : Nat} {x : AV} {T : TH} {H : AHeap} {f : Nat → List AV → Res} {out : AV × TH} (hR : Rep T H) (h : xcF z x T f = some out) : ∃ m xs, xcells H z x = some (m, xs) ∧ f m xs = some out := by
  unfold xcF at h
  rcases onSlice_some h with ⟨b, off, l, c, z', e1, h3⟩ | ⟨m, z', cs, e1, h3⟩ | ⟨e1, h3⟩ | h3
  · obtain ⟨h1, h4⟩ := iff_some h3
    have hz := Nat.eq_of_beq_eq_true h1
    replace h4 : onCells (T.get b) _ none = some out := h4
    obtain ⟨fam, sh, cs, ty, e2, h5⟩ := onCells_some h4
    have e2 : T.get b = ⟨true, fam, sh, .cells cs ty⟩ := e2
    obtain ⟨r, h2, h6⟩ := tkR_some h5
    have hH := hR.obj b (by rw [e2])
    rw [e2] at hH
    rw [dropR_eq] at h2
    have h2' : tk (l * z) (cs.drop off) = some r := h2
    exact ⟨l, r, by simp [xcells, rd, hH, h2', e1, hz], h6⟩
  · obtain ⟨h1, h4⟩ := iff_some h3
    have hz := Nat.eq_of_beq_eq_true h1
    exact ⟨m, cs, by simp [xcells, e1, hz], h4⟩
  · exact ⟨0, [], by simp [xcells, e1], h3⟩
  · rcases onStr_some h3 with ⟨s, e1, h4⟩ | h4 <;> try (cases h4; done)
    obtain ⟨h1, h5⟩ := iff_some h4
    have hz := Nat.eq_of_beq_eq_true h1
    rw [frcVL_eq, frcN_eq', lenR_eq] at h5
    exact ⟨_, _, by simp [xcells, e1, hz], h5⟩

noncomputable def groK (T : TH) (b fam sh : Nat) (cs : List AV) (ty : TypeId) (f : Nat → TH → Res) : Res :=
  onTH T fun sz tr => iff' (Nat.blt sz 4096) (btputK 12 b deadObj tr fun tr1 => btputK 12 sz ⟨true, fam, sh, .cells cs ty⟩ tr1 fun tr2 => frcN (Nat.add sz 1) fun s => f sz ⟨s, tr2⟩) none
theorem groK_some {T : TH} {b fam sh : Nat} {cs : List AV} {ty : TypeId} {f : Nat → TH → Res} {out : AV × TH} (h : groK T b fam sh cs ty f = some out) :
    T.sz < 4096 ∧ f T.sz ((T.set b deadObj).push ⟨true, fam, sh, .cells cs ty⟩) = some out := by
  obtain ⟨sz, tr⟩ := T
  obtain ⟨h1, h2⟩ := iff_some (show iff' (Nat.blt sz 4096) (btputK 12 b deadObj tr fun tr1 => btputK 12 sz ⟨true, fam, sh, .cells cs ty⟩ tr1 fun tr2 => frcN (Nat.add sz 1) fun s => f sz ⟨s, tr2⟩) none = some out from h)
  rw [btputK_eq, btputK_eq, frcN_eq'] at h2
  exact ⟨by simpa [Nat.blt_eq] using h1, h2⟩

theorem Rep.grow' {T : TH} {H : AHeap} (h : Rep T H) {b fam sh0 : Nat} {bd0 : ABody} (e : T.get b = ⟨true, fam, sh0, bd0⟩) (hs : T.sz < 4096) (en sh : Nat) (bd : ABody) :
    Rep ((T.set b deadObj).push ⟨true, fam, sh, bd⟩) (ekil fam en H ++ [⟨true, fam, sh, bd⟩]) := by
  have := h.grow (b := b) (by rw [e]) hs en sh bd
  simp only [e] at this
  exact this

/-- Is anything left? -/
noncomputable def some' {α : Type} (l : List α) : Bool := List.rec false (fun _ _ _ => true) l
theorem some'_drop {α : Type} (l : List α) (k : Nat) : some' (l.drop k) = true ↔ k < l.length := by
  have : ∀ m : List α, some' m = true ↔ 0 < m.length := fun m => by cases m <;> simp [some']
  rw [this, List.length_drop]; omega

/-- A slice that may have to grow: it ends where the known cells end. -/
noncomputable def apgF (e : TypeId) (by' b off len z' lm : Nat) (xs : List AV) (fam sh : Nat) (cs : List AV) (ty : TypeId) (T : TH) (k : Knt) : Res :=
  iff' (Nat.ble lm 1099511627776) (iff' (Nat.ble (Nat.mul lm by') 70368744177664)
    (iff' (Nat.beq (Nat.add off (Nat.mul len z')) (lenR cs)) (iff' (Nat.beq ty e) (iff' (allOne xs)
      (frcL (appR (dropR cs off) xs) fun cs' => frcN (Nat.add sh off) fun so => groK T b fam so cs' ty fun a T' => k (.slice a 0 lm lm z') T') none) none) none) none) none

/-- m more cells xs behind a slice. -/
noncomputable def apdF (e : TypeId) (z by' : Nat) (s : AV) (m : Nat) (xs : List AV) (T : TH) (k : Knt) : Res :=
  iff' (Nat.beq m 0) (onSlice s (fun b o l c z' => k (.slice b o l c z') T) (fun m' z' cs => k (.rs m' z' cs) T) (k .nslice T) none)
    (onSlice s (fun b off len cap z' => iff' (Nat.beq z' z) (frcN (Nat.add len m) fun lm => onCells (T.get b) (fun fam sh cs ty => iff' (Nat.ble lm cap)
        (iff' (some' (dropR cs (Nat.add off (Nat.mul len z')))) (wrF (.ptr b (Nat.add off (Nat.mul len z'))) xs T fun T' => k (.slice b off lm cap z') T') (apgF e by' b off len z' lm xs fam sh cs ty T k))
        (apgF e by' b off len z' lm xs fam sh cs ty T k)) none) none)
      (fun _ _ _ => none) (iff' (Nat.ble m 1099511627776) (iff' (Nat.ble (Nat.mul m by') 70368744177664) (newF (fun a => .slice a 0 m m z) (.cells xs e) k T) none) none) none)

theorem iff_some2 {γ : Type} {b : Bool} {x y : Option γ} {out : γ} (h : iff' b x y = some out) : (b = true ∧ x = some out) ∨ (b = false ∧ y = some out) := by
  cases b
  · exact .inr ⟨rfl, h⟩
  · exact .inl ⟨rfl, h⟩

theorem apdF_ok {e t t2 : TypeId} {i : TypeInfo} {u : AV} {s x : AV} {m : Nat} {xs : List AV} {T : TH} {H : AHeap} {k : Knt} {out : AV × TH} (hu : P.underlying t = some (.slice e)) (hi : P.info? e = some i) (hz : tzero P e = some u) (hx2 : apx P t2 = true) (hsz : u.cells.length = i.size)
    (hR : Rep T H) (hxs : xcells H i.size x = some (m, xs)) (h : apdF e i.size i.bytes s m xs T k = some out) : ∃ r T' H', aAppend P t t2 s x H = some (r, H') ∧ Rep T' H' ∧ k r T' = some out := by
  have hcond : (apx P t2 && u.cells.length == i.size) = true := by simp [hx2, hsz]
  unfold apdF at h
  rcases iff_some2 h with ⟨h0, h⟩ | ⟨h0, h⟩
  · have h0' := Nat.eq_of_beq_eq_true h0
    subst h0'
    rcases onSlice_some h with ⟨b, off, l, c, z', rfl, h⟩ | ⟨l, z', cs, rfl, h⟩ | ⟨rfl, h⟩ | h <;> try (cases h; done)
    all_goals exact ⟨_, T, H, by simp only [aAppend, hu, hi, hz, hcond, hxs, if_true], hR, h⟩
  · have h0' : ¬ m = 0 := by intro e; subst e; simp at h0
    rcases onSlice_some h with ⟨b, off, l, c, z', rfl, h⟩ | ⟨_, _, _, _, h⟩ | ⟨rfl, h⟩ | h <;> try (cases h; done)
    · obtain ⟨h1, h⟩ := iff_some h
      have := Nat.eq_of_beq_eq_true h1; subst this
      rw [frcN_eq'] at h
      replace h : onCells (T.get b) _ none = some out := h
      obtain ⟨fam, sh, cs, ty, e2, h⟩ := onCells_some h
      have e2 : T.get b = ⟨true, fam, sh, .cells cs ty⟩ := e2
      have hH := hR.obj b (by rw [e2])
      rw [e2] at hH
      have hcl : clen H b = cs.length := by simp [clen, hH]
      have grow : ¬ (l + m ≤ c ∧ off + l * i.size < clen H b) → apgF e i.bytes b off l i.size (Nat.add l m) xs fam sh cs ty T k = some out → ∃ r T' H', aAppend P t t2 (.slice b off l c i.size) x H = some (r, H') ∧ Rep T' H' ∧ k r T' = some out := by
        intro h2' h
        obtain ⟨h3, h⟩ := iff_some h
        obtain ⟨h4, h⟩ := iff_some h
        have h3' : l + m ≤ 1099511627776 := Nat.le_of_ble_eq_true h3
        have h4' : (l + m) * i.bytes ≤ 70368744177664 := Nat.le_of_ble_eq_true h4
        obtain ⟨h5, h⟩ := iff_some h
        obtain ⟨h6, h⟩ := iff_some h
        obtain ⟨h7, h⟩ := iff_some h
        have h5' : off + l * i.size = cs.length := by rw [← lenR_eq]; exact Nat.eq_of_beq_eq_true h5
        have h6' := Nat.eq_of_beq_eq_true h6
        rw [allOne_eq] at h7
        rw [frcL_eq, frcN_eq', appR_eq, dropR_eq] at h
        obtain ⟨h8, h⟩ := groK_some h
        have hg := hR.grow' e2 h8 (sh + cs.length) (sh + off) (.cells (cs.drop off ++ xs) ty)
        refine ⟨.slice H.length 0 (l + m) (l + m) i.size, _, _, ?_, hg, ?_⟩
        · simp only [aAppend, hu, hi, hz, hcond, hxs, if_true, if_neg h0', if_neg h2', if_pos (show l + m ≤ 1099511627776 ∧ (l + m) * i.bytes ≤ 70368744177664 from ⟨h3', h4'⟩), hH,
            if_pos (show off + l * i.size = cs.length ∧ ty = e ∧ xs.all one = true from ⟨h5', h6', h7⟩)]
        · rw [← hR.sz]; exact h
      rcases iff_some2 h with ⟨h2, h⟩ | ⟨h2, h⟩
      · have h2' : l + m ≤ c := Nat.le_of_ble_eq_true h2
        rw [dropR_eq] at h
        rcases iff_some2 h with ⟨h9, h⟩ | ⟨h9, h⟩
        · have h9' : off + l * i.size < clen H b := by rw [hcl]; exact (some'_drop cs _).1 h9
          obtain ⟨T', H', g1, g2, g3⟩ := wrF_ok hR h
          have g1' : wr H (.ptr b (off + l * i.size)) xs = some H' := g1
          exact ⟨_, T', H', by simp only [aAppend, hu, hi, hz, hcond, hxs, if_true, if_neg h0', if_pos (show l + m ≤ c ∧ off + l * i.size < clen H b from ⟨h2', h9'⟩), g1']; rfl, g2, g3⟩
        · refine grow (fun hc => ?_) h
          have : some' (cs.drop (off + l * i.size)) = true := (some'_drop cs _).2 (by rw [← hcl]; exact hc.2)
          rw [show some' (List.drop (Nat.add off (Nat.mul l i.size)) cs) = some' (cs.drop (off + l * i.size)) from rfl, this] at h9
          cases h9
      · have h2' : ¬ l + m ≤ c := fun hle => by rw [show Nat.ble (Nat.add l m) c = true from Nat.ble_eq_true_of_le hle] at h2; cases h2
        exact grow (fun hc => h2' hc.1) h
    · obtain ⟨h3, h⟩ := iff_some h
      obtain ⟨h4, h⟩ := iff_some h
      have h3' : m ≤ 1099511627776 := Nat.le_of_ble_eq_true h3
      have h4' : m * i.bytes ≤ 70368744177664 := Nat.le_of_ble_eq_true h4
      obtain ⟨h5, h⟩ := newK_some h
      rw [frc1_eq] at h
      refine ⟨.slice H.length 0 m m i.size, _, _, ?_, hR.push h5 (.cells xs e), ?_⟩
      · simp only [aAppend, hu, hi, hz, hcond, hxs, if_true, if_neg h0', if_pos (show m ≤ 1099511627776 ∧ m * i.bytes ≤ 70368744177664 from ⟨h3', h4'⟩)]; rfl
      · rw [← hR.sz]; exact h

noncomputable def appF (e : TypeId) (z by' : Nat) (gs gx : Tre AV d → AV) : OpF d := fun _ E T k => xcF z (gx E) T fun m xs => apdF e z by' (gs E) m xs T k
theorem aop_eff {ρ : Operand → Option AV} {orc : Orc} {H : AHeap} {c : Call} {b : Builtin} (ho : o.op = .call c) (hc : c.callee = .builtin b) (hb : b = .append ∨ b = .copy) : aop P orc ρ o H = aeff P ρ H o := by
  rcases hb with rfl | rfl <;> simp [aop, apure', apure, ho, hc, callee]
theorem appF_ok {c : Call} {s x : Operand} {t t2 e : TypeId} {i : TypeInfo} {u : AV} {gs gx : Tre AV d → AV} (ho : o.op = .call c) (hc : c.callee = .builtin .append) (ha : c.args.toList = [s, x]) (ht : c.argTypes.toList = [t, t2])
    (hu : P.underlying t = some (.slice e)) (hi : P.info? e = some i) (hz : tzero P e = some u) (hx2 : apx P t2 = true) (hsz : u.cells.length = i.size) (hs : copd gl d n s = some gs) (hx : copd gl d n x = some gx) : OpOK P gl d n o (appF e i.size i.bytes gs gx) := by
  intro forc orc E T k out H hO hR h
  obtain ⟨m, xs, h1, h2⟩ := xcF_ok hR h
  obtain ⟨r, T', H', g1, g2, g3⟩ := apdF_ok hu hi hz hx2 hsz hR h1 h2
  refine ⟨r, T', H', ?_, g2, g3⟩
  rw [aop_eff ho hc (.inl rfl)]
  simp [aeff, ho, hc, ha, ht, rhoE_of hs, rhoE_of hx, g1]

noncomputable def cpyF (z : Nat) (gs gx : Tre AV d → AV) : OpF d := fun _ E T k => xcF z (gx E) T fun m xs => onSlice (gs E)
  (fun b off len _ z' => iff' (Nat.beq z' z) (frcN (Nat.min m len) fun mn => iff' (Nat.beq mn 0) (k (.int .i64 (.ofNat 0)) T) (tkR (Nat.mul mn z') xs (fun cs => wrF (.ptr b off) cs T fun T' => k (.int .i64 (.ofNat mn)) T') none)) none)
  (fun _ _ _ => none) (k (.int .i64 (.ofNat 0)) T) none
theorem cpyF_ok {c : Call} {s x : Operand} {t t2 e : TypeId} {z : Nat} {gs gx : Tre AV d → AV} (ho : o.op = .call c) (hc : c.callee = .builtin .copy) (ha : c.args.toList = [s, x]) (ht : c.argTypes.toList = [t, t2])
    (hu : P.underlying t = some (.slice e)) (hz : tsz P e = some z) (hs : copd gl d n s = some gs) (hx : copd gl d n x = some gx) : OpOK P gl d n o (cpyF z gs gx) := by
  intro forc orc E T k out H hO hR h
  obtain ⟨m, xs, h1, h⟩ := xcF_ok hR h
  have key : ∀ r H', aCopy P t (gs E) (gx E) H = some (r, H') → aop P orc (rhoE gl d n E) o H = some (r, H') := by
    intro r H' g
    rw [aop_eff ho hc (.inr rfl)]
    simp [aeff, ho, hc, ha, ht, rhoE_of hs, rhoE_of hx, g]
  rcases onSlice_some h with ⟨b, off, l, cp, z', e1, h⟩ | ⟨_, _, _, _, h⟩ | ⟨e1, h⟩ | h <;> try (cases h; done)
  · obtain ⟨h2, h5⟩ := iff_some h
    have hzz := Nat.eq_of_beq_eq_true h2
    rw [frcN_eq'] at h5
    rcases iff_some2 h5 with ⟨h3, h6⟩ | ⟨h3, h6⟩
    · have h3' := Nat.eq_of_beq_eq_true h3
      exact ⟨_, T, H, key _ _ (by simp only [aCopy, hu, hz, h1, e1, hzz, if_true, if_pos h3']; rfl), hR, h6⟩
    · have h3' : ¬ Nat.min m l = 0 := fun e => by rw [e] at h3; simp at h3
      obtain ⟨cs, h4, h7⟩ := tkR_some h6
      have h4' : tk (Nat.min m l * z') xs = some cs := h4
      rw [hzz] at h4'
      obtain ⟨T', H', g1, g2, g3⟩ := wrF_ok hR h7
      exact ⟨_, T', H', key _ _ (by simp only [aCopy, hu, hz, h1, e1, hzz, if_true, if_neg h3', h4', g1]; rfl), g2, g3⟩
  · exact ⟨_, T, H, key _ _ (by simp only [aCopy, hu, hz, h1, e1]; rfl), hR, h⟩

/-! pointers turned, bytes of a slice as a text, a function that gives back its argument -/
noncomputable def cnpF (P : Program) (s t : TypeId) (g : Tre AV d → AV) : OpF d := fun _ E T k => onPtr (g E) (fun b off => iff' (aConvP P s t 0 off [T.get b]) (k (.ptr b off) T) none) (fun _ => none) none
theorem cnpF_ok {s t : TypeId} {x : Operand} {g : Tre AV d → AV} (ho : o.op = .convert s t x) (ht : (∃ e, P.underlying t = some (.pointer e)) ∨ P.underlying t = some .unsafePointer) (hg : copd gl d n x = some g) : OpOK P gl d n o (cnpF P s t g) := by
  intro forc orc E T k out H hO hR h
  rcases onPtr_some h with ⟨b, off, e, h⟩ | ⟨_, _, h⟩ | h <;> try (cases h; done)
  obtain ⟨h1, h2⟩ := iff_some h
  have hal : (T.get b).alive = true := by
    unfold aConvP at h1
    simp only [List.getElem?_cons_zero] at h1
    split at h1
    · rename_i ha _; exact ha
    · cases h1
  have hH := hR.obj b hal
  have h3 : aConvP P s t b off H = true := by
    unfold aConvP at h1 ⊢
    rw [hH]; exact h1
  refine ⟨.ptr b off, T, H, ?_, hR, h2⟩
  rw [aop_low (by simp [kind, ho])]
  have hp : apure' P (rhoE gl d n E) H o = none := by simp [apure', apure, ho, rhoE_of hg, e, aConv]
  rw [hp]
  simp [aeff, ho, rhoE_of hg, e, aConvB, h3]

def extOk (P : Program) (g : Nat) : Bool := match P.funcs[g]? with | some fn => decide (fn.body.isNone = true ∧ fn.name = "internal/abi.NoEscape" ∧ fn.origin = "") | none => false
theorem extOk_spec {g : Nat} (h : extOk P g = true) (x : AV) : extId P g [x] = some x ∧ hasBody P g = false := by
  unfold extOk at h
  unfold extId hasBody
  split at h
  · rename_i fn hfn
    have h' := of_decide_eq_true h
    simp only [hfn]
    rw [if_pos h']
    refine ⟨rfl, ?_⟩
    cases hb : fn.body with
    | none => rfl
    | some c => have := h'.1; rw [hb] at this; cases this
  · cases h

noncomputable def only1 (vs : List AV) (f : AV → Res) : Res := List.rec none (fun v l _ => List.rec (f v) (fun _ _ _ => none) l) vs
theorem only1_some {vs : List AV} {f : AV → Res} {out : AV × TH} (h : only1 vs f = some out) : ∃ v, vs = [v] ∧ f v = some out := by
  match vs, h with
  | [v], h => exact ⟨v, rfl, h⟩

noncomputable def extrF (G : Tre AV d → (List AV → Res) → Res) : OpF d := fun _ E T k => G E fun vs => only1 vs fun v => k v T
theorem extrF_ok {c : Call} {g : Nat} {G : Tre AV d → (List AV → Res) → Res} (ho : o.op = .call c) (hc : c.callee = .value (.func g)) (hb : extOk P g = true) (hG : cargs gl d n c.args.toList = some G) : OpOK P gl d n o (extrF G) := by
  intro forc orc E T k out H hO hR h
  obtain ⟨vs, h1, h2⟩ := cargs_ok _ _ hG E (fun vs => only1 vs fun v => k v T)
  have h : G E (fun vs => only1 vs fun v => k v T) = some out := h
  rw [h2] at h
  obtain ⟨v, rfl, h3⟩ := only1_some h
  obtain ⟨e1, e2⟩ := extOk_spec hb v
  refine ⟨v, T, H, ?_, hR, h3⟩
  have hf : rhoE gl d n E (.func g) = some (.func (.func g) [] []) := rfl
  simp [aop, ho, callee, hc, hf, h1, acall, e1, e2]

theorem extMk_spec {g : Nat} {e : TypeId} (h : extMk P g = some e) (vs : List AV) : extId P g vs = none ∧ extIx P g vs = none ∧ hasBody P g = false := by
  unfold extMk at h
  unfold extId extIx hasBody
  split at h <;> try (cases h; done)
  rename_i fn hfn
  split at h <;> try (cases h; done)
  rename_i hc
  refine ⟨?_, ?_, ?_⟩
  · rw [if_neg]; rintro ⟨_, h2, _⟩; rw [hc.2.1] at h2; exact absurd h2 (by decide)
  · rw [if_neg (by rintro ⟨_, h2, _⟩; rw [hc.2.1] at h2; exact absurd h2 (by decide)), if_neg (by rintro ⟨_, h2, _⟩; rw [hc.2.1] at h2; exact absurd h2 (by decide))]
  · cases hb : fn.body with
    | none => rfl
    | some c => have := hc.1; rw [hb] at this; cases this

def extIxOk (P : Program) (g : Nat) : Bool := match P.funcs[g]? with | some fn => decide (fn.body.isNone = true ∧ fn.name = "internal/bytealg.IndexByteString" ∧ fn.origin = "") | none => false
theorem extIxOk_spec {g : Nat} (h : extIxOk P g = true) (s : List UInt8) (m : Nat) : extId P g [.str s, .int .u8 (.ofNat m)] = none ∧ extIx P g [.str s, .int .u8 (.ofNat m)] = some (.int .i64 (ixB (UInt8.ofNat m) s 0)) ∧ hasBody P g = false := by
  unfold extIxOk at h
  unfold extId extIx hasBody
  split at h <;> try (cases h; done)
  rename_i fn hfn
  have hc := of_decide_eq_true h
  simp only [hfn]
  refine ⟨?_, ?_, ?_⟩
  · rw [if_neg]; rintro ⟨_, h2, _⟩; rw [hc.2.1] at h2; exact absurd h2 (by decide)
  · rw [if_pos hc]
  · cases hb : fn.body with
    | none => rfl
    | some c => have := hc.1; rw [hb] at this; cases this

noncomputable def only2 (vs : List AV) (f : AV → AV → Res) : Res := List.rec none (fun v l _ => List.rec none (fun w l _ => List.rec (f v w) (fun _ _ _ => none) l) l) vs
theorem only2_some {vs : List AV} {f : AV → AV → Res} {out : AV × TH} (h : only2 vs f = some out) : ∃ v w, vs = [v, w] ∧ f v w = some out := by
  match vs, h with
  | [v, w], h => exact ⟨v, w, rfl, h⟩

noncomputable def ixsF (G : Tre AV d → (List AV → Res) → Res) : OpF d := fun _ E T k => G E fun vs => only2 vs fun v w => onStr v (fun s => onNat w (fun kk m => iff' (Nat.beq (kix kk) (kix .u8)) (frcVR (.int .i64 (ixB (UInt8.ofNat m) s 0)) fun r => k r T) none) none) none
theorem ixsF_ok {c : Call} {g : Nat} {G : Tre AV d → (List AV → Res) → Res} (ho : o.op = .call c) (hc : c.callee = .value (.func g)) (he : extIxOk P g = true) (hG : cargs gl d n c.args.toList = some G) : OpOK P gl d n o (ixsF G) := by
  intro forc orc E T k out H hO hR h
  obtain ⟨vs, h1, h2⟩ := cargs_ok _ _ hG E (fun vs => only2 vs fun v w => onStr v (fun s => onNat w (fun kk m => iff' (Nat.beq (kix kk) (kix .u8)) (frcVR (.int .i64 (ixB (UInt8.ofNat m) s 0)) fun r => k r T) none) none) none)
  unfold ixsF at h
  rw [h2] at h
  obtain ⟨v, w, rfl, h3⟩ := only2_some h
  rcases onStr_some h3 with ⟨s, rfl, h4⟩ | h4 <;> try (cases h4; done)
  rcases onNat_some h4 with ⟨kk, m, rfl, h5⟩ | h5 <;> try (cases h5; done)
  obtain ⟨h6, h7⟩ := iff_some h5
  have hk := kix_inj h6
  subst hk
  rw [frcVR_eq] at h7
  obtain ⟨e1, e2, e3⟩ := extIxOk_spec he s m
  refine ⟨_, T, H, ?_, hR, h7⟩
  have hf : rhoE gl d n E (.func g) = some (.func (.func g) [] []) := rfl
  have e1' : extId P g [.str s, .int .u8 (Int.ofNat m)] = none := e1
  have e2' : extIx P g [.str s, .int .u8 (Int.ofNat m)] = some (.int .i64 (ixB (UInt8.ofNat m) s 0)) := e2
  simp only [aop, ho, callee, hc, hf, h1, acall, e3, List.nil_append, List.append_nil, Bool.false_eq_true, if_false, e1', e2']

noncomputable def mnzF (e : TypeId) (G : Tre AV d → (List AV → Res) → Res) : OpF d := fun _ E T k => G E fun vs => only1 vs fun v => onNat v (fun kk m => iff' (Nat.beq (kix kk) 3) (iff' (Nat.ble m 281474976710656) (newF (fun a => .slice a 0 m m 1) (.cells [] e) k T) none) none) none
theorem mnzF_ok {c : Call} {g : Nat} {e : TypeId} {G : Tre AV d → (List AV → Res) → Res} (ho : o.op = .call c) (hc : c.callee = .value (.func g)) (he : extMk P g = some e) (hG : cargs gl d n c.args.toList = some G) : OpOK P gl d n o (mnzF e G) := by
  intro forc orc E T k out H hO hR h
  obtain ⟨vs, h1, h2⟩ := cargs_ok _ _ hG E (fun vs => only1 vs fun v => onNat v (fun kk m => iff' (Nat.beq (kix kk) 3) (iff' (Nat.ble m 281474976710656) (newF (fun a => .slice a 0 m m 1) (.cells [] e) k T) none) none) none)
  unfold mnzF at h
  rw [h2] at h
  obtain ⟨v, rfl, h3⟩ := only1_some h
  rcases onNat_some h3 with ⟨kk, m, rfl, h4⟩ | h4 <;> try (cases h4; done)
  obtain ⟨h5, h6⟩ := iff_some h4
  have hk : kk = .i64 := kix_inj (k' := .i64) h5
  subst hk
  obtain ⟨h7, h8⟩ := iff_some h6
  have h7' : m ≤ 281474976710656 := Nat.le_of_ble_eq_true h7
  obtain ⟨h9, h10⟩ := newK_some h8
  rw [frc1_eq] at h10
  obtain ⟨e1, e4, e2⟩ := extMk_spec he [.int .i64 (Int.ofNat m)]
  refine ⟨.slice H.length 0 m m 1, _, _, ?_, hR.push h9 (.cells [] e), ?_⟩
  · have hf : rhoE gl d n E (.func g) = some (.func (.func g) [] []) := rfl
    simp only [aop, ho, callee, hc, hf, h1, acall, e2, List.nil_append, List.append_nil, Bool.false_eq_true, if_false, e1, e4, he, if_pos h7', hR.sz]
  · rw [← hR.sz]; exact h10

noncomputable def capF (g : Tre AV d → AV) : OpF d := fun _ E T k => onSlice (g E) (fun _ _ _ _ _ => none) (fun _ _ _ => none) (k (.int .i64 (.ofNat 0)) T) none
theorem capF_ok {c : Call} {x : Operand} {t e : TypeId} {g : Tre AV d → AV} (ho : o.op = .call c) (hc : c.callee = .builtin .cap) (ha : c.args.toList = [x]) (ht : c.argTypes.toList = [t]) (hu : P.underlying t = some (.slice e)) (hg : copd gl d n x = some g) : OpOK P gl d n o (capF g) := by
  intro forc orc E T k out H hO hR h
  have ha' : aop P orc (rhoE gl d n E) o H = aeff P (rhoE gl d n E) H o := by simp [aop, apure', apure, ho, hc, callee]
  rcases onSlice_some h with ⟨_, _, _, _, _, _, h⟩ | ⟨_, _, _, _, h⟩ | ⟨e, h⟩ | h <;> try (cases h; done)
  refine ⟨_, T, H, ?_, hR, h⟩
  rw [ha']; simp [aeff, ho, hc, ha, ht, hu, rhoE_of hg, e]

noncomputable def clrF (zs : List AV) (z : Nat) (g : Tre AV d → AV) : OpF d := fun _ E T k => onSlice (g E)
  (fun b off len _ z' => iff' (Nat.beq len 0) (k (.tuple []) T) (iff' (Nat.beq z z') (wrF (.ptr b off) (repl len zs) T fun T' => k (.tuple []) T') none)) (fun _ _ _ => none) (k (.tuple []) T) none
theorem clrF_ok {c : Call} {x : Operand} {t e : TypeId} {u : AV} {g : Tre AV d → AV} (ho : o.op = .call c) (hc : c.callee = .builtin .clear) (ha : c.args.toList = [x]) (ht : c.argTypes.toList = [t]) (hu : P.underlying t = some (.slice e)) (hz : tzero P e = some u) (hg : copd gl d n x = some g) : OpOK P gl d n o (clrF u.cells u.cells.length g) := by
  intro forc orc E T k out H hO hR h
  have ha' : aop P orc (rhoE gl d n E) o H = aeff P (rhoE gl d n E) H o := by simp [aop, apure', apure, ho, hc, callee]
  have key : ∀ H', aClear P t (g E) H = some H' → aop P orc (rhoE gl d n E) o H = some (.tuple [], H') := by
    intro H' q
    rw [ha']; simp [aeff, ho, hc, ha, ht, rhoE_of hg, q]
  rcases onSlice_some h with ⟨b, off, l, cp, z', e1, h⟩ | ⟨_, _, _, _, h⟩ | ⟨e1, h⟩ | h <;> try (cases h; done)
  · rcases iff_some2 h with ⟨h1, h2⟩ | ⟨h1, h2⟩
    · have h1' := Nat.eq_of_beq_eq_true h1
      exact ⟨_, T, H, key _ (by simp only [aClear, hu, hz, e1, if_pos h1']), hR, h2⟩
    · obtain ⟨h3, h4⟩ := iff_some h2
      have h3' := Nat.eq_of_beq_eq_true h3
      have h1' : ¬ l = 0 := fun e => by rw [e] at h1; cases h1
      obtain ⟨T', H', g1, g2, g3⟩ := wrF_ok hR h4
      exact ⟨_, T', H', key _ (by simp only [aClear, hu, hz, e1, if_neg h1', if_pos h3']; exact g1), g2, g3⟩
  · exact ⟨_, T, H, key _ (by simp only [aClear, hu, hz, e1]), hR, h⟩

noncomputable def sldF (g : Tre AV d → AV) : OpF d := fun _ E T k => onSlice (g E) (fun b off _ cap _ => Nat.rec none (fun _ _ => k (.ptr b off) T) cap) (fun _ _ _ => none) (k .nptr T) none
theorem sldF_ok {c : Call} {x : Operand} {g : Tre AV d → AV} (ho : o.op = .call c) (hc : c.callee = .builtin .unsafeSliceData) (ha : c.args.toList = [x]) (hg : copd gl d n x = some g) : OpOK P gl d n o (sldF g) := by
  intro forc orc E T k out H hO hR h
  have ha' : aop P orc (rhoE gl d n E) o H = aeff P (rhoE gl d n E) H o := by simp [aop, apure', apure, ho, hc, callee]
  rcases onSlice_some h with ⟨b, off, l, cp, z, e, h⟩ | ⟨_, _, _, _, h⟩ | ⟨e, h⟩ | h <;> try (cases h; done)
  · cases cp with
    | zero => cases h
    | succ cp =>
      refine ⟨.ptr b off, T, H, ?_, hR, h⟩
      rw [ha']; simp [aeff, ho, hc, ha, rhoE_of hg, e]
  · refine ⟨.nptr, T, H, ?_, hR, h⟩
    rw [ha']; simp [aeff, ho, hc, ha, rhoE_of hg, e]

noncomputable def ustF (P : Program) (t : TypeId) (gx gn : Tre AV d → AV) : OpF d := fun _ E T k => onNat (gn E) (fun kk m => iff' (Nat.beq (kix kk) 3) (frc1 (gx E) fun p => match m with
  | 0 => (match p with | .nptr => k (.str []) T | .ptr _ _ => k (.str []) T | _ => none)
  | m + 1 => (match p with
    | .ptr b 0 => (match aUStr P t (.ptr 0 0) (m + 1) [T.get b] with | some (r, _) => frcVR r fun r => putK T b deadObj fun T' => k r T' | none => none)
    | _ => none)) none) none
theorem aUStr_one {t : TypeId} {b m : Nat} {o : AObj} {H H1 : AHeap} {r : AV} (hb : H[b]? = some o) (h : aUStr P t (.ptr 0 0) (m + 1) [o] = some (r, H1)) : o.alive = true ∧ aUStr P t (.ptr b 0) (m + 1) H = some (r, (wkil b o.fam H).set b o.dead) := by
  unfold aUStr at h ⊢
  simp only [List.getElem?_cons_zero] at h
  simp only [hb]
  split at h <;> try (simp at h; done)
  rename_i cs ty hal hbd
  split at h <;> try (simp at h; done)
  rename_i e ht
  split at h <;> try (simp at h; done)
  rename_i hc
  split at h <;> try (simp at h; done)
  rename_i l hl
  split at h <;> simp at h
  rename_i bs hbs
  obtain ⟨rfl, _⟩ := h
  refine ⟨hal, ?_⟩
  simp only [hal, hbd, ht, if_pos hc, hl, hbs]
theorem ustF_ok {c : Call} {x y : Operand} {t t2 : TypeId} {gx gn : Tre AV d → AV} (ho : o.op = .call c) (hc : c.callee = .builtin .unsafeString) (ha : c.args.toList = [x, y]) (ht : c.argTypes.toList = [t, t2]) (hx : copd gl d n x = some gx) (hy : copd gl d n y = some gn) :
    OpOK P gl d n o (ustF P t gx gn) := by
  intro forc orc E T k out H hO hR h
  have ha' : aop P orc (rhoE gl d n E) o H = aeff P (rhoE gl d n E) H o := by simp [aop, apure', apure, ho, hc, callee]
  rcases onNat_some h with ⟨kk, m, e1, h⟩ | h <;> try (cases h; done)
  obtain ⟨h1, h⟩ := iff_some h
  have hk : kk = .i64 := by cases kk <;> first | rfl | cases h1
  subst hk
  simp only [frc1_eq] at h
  have key : ∀ r H', aUStr P t (gx E) m H = some (r, H') → aop P orc (rhoE gl d n E) o H = some (r, H') := by
    intro r H' g
    rw [ha']; simp only [aeff, ho, hc, ha, ht, rhoE_of hx, rhoE_of hy, e1, g]
  cases m with
  | zero =>
    simp only at h
    split at h <;> try (cases h; done)
    · rename_i e; exact ⟨_, T, H, key _ _ (by simp [e, aUStr]), hR, h⟩
    · rename_i e; exact ⟨_, T, H, key _ _ (by simp [e, aUStr]), hR, h⟩
  | succ m =>
    simp only at h
    split at h <;> try (cases h; done)
    rename_i b e
    split at h <;> try (cases h; done)
    rename_i r H1 hu
    rw [frcVR_eq, putK_eq] at h
    have hal : (T.get b).alive = true := by
      unfold aUStr at hu
      simp only [List.getElem?_cons_zero] at hu
      split at hu
      · rename_i ha _; exact ha
      · cases hu
    have hH := hR.obj b hal
    obtain ⟨_, g1⟩ := aUStr_one hH hu
    exact ⟨r, _, _, key _ _ (by rw [e]; exact g1), hR.lose hal, h⟩

/-! 'string(b)' -/
noncomputable def csrF (g : Tre AV d → AV) : OpF d := fun _ E T k => frc1 (g E) fun u => match u with
  | .slice b off len cap z => (match aConvR (.slice 0 off len cap z) [T.get b] with | some r => frcVR r fun r => k r T | none => none)
  | _ => none
theorem aConvR_one {b off len cap z : Nat} {o : AObj} {H : AHeap} {r : AV} (hb : H[b]? = some o) (h : aConvR (.slice 0 off len cap z) [o] = some r) : aConvR (.slice b off len cap z) H = some r := by
  unfold aConvR at h ⊢
  simp only [List.getElem?_cons_zero] at h
  simp only [hb]
  exact h
theorem csrF_ok {src dst : TypeId} {x : Operand} {g : Tre AV d → AV} (ho : o.op = .convert src dst x) (hs : aConvS P src dst = true) (hx : copd gl d n x = some g) : OpOK P gl d n o (csrF g) := by
  intro forc orc E T k out H hO hR h
  unfold csrF at h
  simp only [frc1_eq] at h
  split at h <;> try (cases h; done)
  rename_i b off len cap z e
  split at h <;> try (cases h; done)
  rename_i r hr
  rw [frcVR_eq] at h
  have hal : (T.get b).alive = true := by
    unfold aConvR at hr
    simp only [List.getElem?_cons_zero] at hr
    split at hr
    · split at hr
      · rename_i ha _; exact ha
      · cases hr
    · cases hr
  have hH := hR.obj b hal
  refine ⟨r, T, H, aop_pure (by simp [kind, ho]) ?_, hR, h⟩
  unfold apure'
  simp only [ho, rhoE_of hx, e, hs, if_true]
  exact aConvR_one hH hr

/-! a slice of an array of ours -/
def mvS (b : Nat) : AV → AV
  | .slice _ o l c z => .slice b o l c z
  | v => v
noncomputable def slaF (P : Program) (gl : Glob) (d n : Nat) (t : TypeId) (x : Operand) (lo hi : Option Operand) : OpF d := fun _ E T k => match rhoE gl d n E x, aopt (rhoE gl d n E) lo, aopt (rhoE gl d n E) hi with
  | some u, some lo, some hi => (match u with
    | .ptr b off => (match aSliceA P t (.ptr 0 off) lo hi [T.get b] with | some r => frcVR (mvS b r) fun r => k r T | none => none)
    | _ => none)
  | _, _, _ => none
theorem aSliceA_one {t : TypeId} {b off : Nat} {lo hi : Option AV} {o : AObj} {H : AHeap} {r : AV} (hb : H[b]? = some o) (h : aSliceA P t (.ptr 0 off) lo hi [o] = some r) : o.alive = true ∧ aSliceA P t (.ptr b off) lo hi H = some (mvS b r) := by
  unfold aSliceA at h ⊢
  simp only [List.getElem?_cons_zero] at h
  simp only [hb]
  split at h <;> try (simp at h; done)
  rename_i n e ht
  split at h <;> try (simp at h; done)
  rename_i z hz
  split at h <;> try (simp at h; done)
  rename_i cs ty hal hbd
  split at h <;> try (simp at h; done)
  rename_i hle
  split at h <;> try (simp at h; done)
  rename_i k hk
  split at h <;> simp at h
  subst h; rename_i l hl
  refine ⟨hal, ?_⟩
  simp only [ht, hz, hal, hbd, hle, if_true, hk, hl, mvS]
theorem slaF_ok {t : TypeId} {x : Operand} {lo hi : Option Operand} (ho : o.op = .slice t x lo hi none) (ht : ∃ m e, P.underlying t = some (.array m e)) : OpOK P gl d n o (slaF P gl d n t x lo hi) := by
  intro forc orc E T k out H hO hR h
  unfold slaF at h
  split at h <;> try (cases h; done)
  rename_i u lo1 hi1 hu hlo hhi
  split at h <;> try (cases h; done)
  rename_i b off
  split at h <;> try (cases h; done)
  rename_i r hr
  rw [frcVR_eq] at h
  obtain ⟨m, e, ht⟩ := ht
  have hal : (T.get b).alive = true := by
    unfold aSliceA at hr
    simp only [List.getElem?_cons_zero, ht] at hr
    split at hr <;> try (simp at hr; done)
    split at hr
    · rename_i ha _; exact ha
    · cases hr
  obtain ⟨_, hr2⟩ := aSliceA_one (hR.obj b hal) hr
  have hp : apure' P (rhoE gl d n E) H o = none := by
    simp [apure', apure, ho, hu, hlo, hhi, aSlice]
  refine ⟨_, T, H, ?_, hR, h⟩
  rw [aop_low (by simp [kind, ho]), hp]
  simp only [aeff, ho, hu, hlo, hhi, hr2]

/-! maps -/
noncomputable def mapSF (dd : TypeDesc) (gm gk gv : Tre AV d → AV) : OpF d := fun _ E T k => frc1 (gm E) fun m => frc1 (gk E) fun key => frc1 (gv E) fun v => match m with
  | .map b => onMap (T.get b) (fun fam sh es clock => match aFind dd key es 0 with
    | some (some (i, _)) => frcL (mset key v i es) fun es' => putK T b ⟨true, fam, sh, .map es' clock⟩ fun T' => k (.tuple []) T'
    | some none => frcL (appR es [(key, v, clock)]) fun es' => frcN (Nat.add clock 1) fun c' => putK T b ⟨true, fam, sh, .map es' c'⟩ fun T' => k (.tuple []) T'
    | none => none) none
  | _ => none
theorem mapSF_ok {t e : TypeId} {m key v : Operand} {dd : TypeDesc} {gm gk gv : Tre AV d → AV} (ho : o.op = .mapUpdate t m key v ∨ o.op = .insert t m key v) (hd : keyDesc P t = some (dd, e)) (hm : copd gl d n m = some gm) (hk : copd gl d n key = some gk)
    (hv : copd gl d n v = some gv) : OpOK P gl d n o (mapSF dd gm gk gv) := by
  intro forc orc E T k out H hO hR h
  simp only [mapSF, frc1_eq] at h
  split at h <;> try (cases h; done)
  rename_i b e1
  replace h : onMap (T.get b) _ none = some out := h
  obtain ⟨fam, sh, es, clock, e2, h⟩ := onMap_some h
  have e2 : T.get b = ⟨true, fam, sh, .map es clock⟩ := e2
  have hH := hR.obj b (by rw [e2])
  rw [e2] at hH
  have key : ∀ H', aMapSet P t (gm E) (gk E) (gv E) H = some H' → aop P orc (rhoE gl d n E) o H = some (.tuple [], H') := by
    intro H' g
    rcases ho with ho | ho <;> simp [aop, apure', apure, aeff, ho, rhoE_of hm, rhoE_of hk, rhoE_of hv, g]
  split at h <;> try (cases h; done)
  · rename_i i w hf
    rw [frcL_eq, putK_eq] at h
    exact ⟨_, _, _, key _ (by simp only [aMapSet, hd, e1, hH, hf]), hR.set' e2 _, h⟩
  · rename_i hf
    rw [frcL_eq, frcN_eq', putK_eq, appR_eq] at h
    exact ⟨_, _, _, key _ (by simp only [aMapSet, hd, e1, hH, hf]), hR.set' e2 _, h⟩

noncomputable def lkpF (dd : TypeDesc) (z : AV) (ok : Bool) (gm gk : Tre AV d → AV) : OpF d := fun _ E T k => frc1 (gm E) fun m => frc1 (gk E) fun key =>
  match (match m with | .nmap => some [] | .map b => onMap (T.get b) (fun _ _ es _ => some es) none | _ => none) with
  | some es => (match aFind dd key es 0 with
    | some (some (_, v)) => frc1 v fun v => iff' ok (k (.tuple [v, .bool true]) T) (k v T)
    | some none => iff' ok (k (.tuple [z, .bool false]) T) (k z T)
    | none => none)
  | none => none
theorem lkpF_ok {t e : TypeId} {m key : Operand} {dd : TypeDesc} {z : AV} {ok : Bool} {gm gk : Tre AV d → AV} (ho : o.op = .lookup t m key ok) (hd : keyDesc P t = some (dd, e)) (hz : tzero P e = some z) (hm : copd gl d n m = some gm) (hk : copd gl d n key = some gk) :
    OpOK P gl d n o (lkpF dd z ok gm gk) := by
  intro forc orc E T k out H hO hR h
  simp only [lkpF, frc1_eq] at h
  split at h <;> try (cases h; done)
  rename_i es hes
  have hes' : mapEs H (gm E) = some es := by
    split at hes <;> try (cases hes; done)
    · rename_i e1; simp at hes; subst hes; rw [e1]; rfl
    · rename_i b e1
      replace hes : onMap (T.get b) _ none = some es := hes
      obtain ⟨fam, sh, es', cl, e2, h3⟩ := onMap_some hes
      have e2 : T.get b = ⟨true, fam, sh, .map es' cl⟩ := e2
      have h3 : es' = es := by simpa using h3
      subst h3
      have hH := hR.obj b (by rw [e2])
      rw [e2] at hH
      rw [e1]; simp [mapEs, mapObj, hH]
  split at h <;> try (cases h; done)
  · rename_i i v hf
    rw [iff'_eq] at h
    refine ⟨if ok = true then .tuple [v, .bool true] else v, T, H, aop_pure (by simp [kind, ho]) (by simp only [apure', ho, rhoE_of hm, rhoE_of hk, aLookup, hd, hes', hf]), hR, ?_⟩
    cases ok <;> simpa using h
  · rename_i hf
    rw [iff'_eq] at h
    refine ⟨if ok = true then .tuple [z, .bool false] else z, T, H, aop_pure (by simp [kind, ho]) (by simp only [apure', ho, rhoE_of hm, rhoE_of hk, aLookup, hd, hes', hf, hz]), hR, ?_⟩
    cases ok <;> simpa using h
end ops

end Go.Abs

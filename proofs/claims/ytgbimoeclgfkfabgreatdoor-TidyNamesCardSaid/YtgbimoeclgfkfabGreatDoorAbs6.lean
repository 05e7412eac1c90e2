/-
  A verified abstract interpreter, part 6: all pure operations in one.
-/
import Derived.Test.YtgbimoeclgfkfabGreatDoorAbs5
set_option linter.unusedSimpArgs false
set_option linter.unusedVariables false
namespace Go.Abs
open Go.RowKit

section pure
variable {P : Program} {sn : Snap} {ι : IMap} {H : AHeap} {W : World}

theorem ER_length {sn : Snap} {ι : IMap} : ∀ {es : List (AV × AV × Nat)} {l : List MapEntry}, ER sn ι es l → l.length = es.length
  | [], l, h => by simp [ER] at h; simp [h]
  | (k, v, n) :: es, l, h => by simp only [ER] at h; obtain ⟨e, l', rfl, _, _, _, h⟩ := h; simp [ER_length h]

theorem mapObj_sound (hR : RO sn ι H W) {b : Nat} {es : List (AV × AV × Nat)} {clock : Nat} (h : mapObj H b = some (es, clock)) :
    ∃ o p mes, H[b]? = some o ∧ o.alive = true ∧ o.body = .map es clock ∧ ι b = some p ∧ W.heap[p.blk]? = some (.map mes clock) ∧ ER sn ι es mes.toList := by
  unfold mapObj at h
  split at h <;> try (simp at h; done)
  rename_i o ho
  split at h <;> simp at h
  rename_i es' c' hal hbd
  obtain ⟨rfl, rfl⟩ := h
  obtain ⟨p, hp⟩ := hR.place ho
  have := hR.obj b o p ho hal hp
  rw [hbd] at this; simp only [OR] at this
  obtain ⟨mes, h1, h2⟩ := this
  exact ⟨o, p, mes, ho, hal, hbd, hp, h1, h2⟩

theorem aLen_sound (hR : RO sn ι H W) {t : TypeId} {x u : AV} (h : aLen P t x H = some u) {x' : Value} (hx : VR sn ι x x') (ts : Array TypeId) (hts : ts[0]? = some t) (ty : TypeId) :
    ∃ z, (Builtin.len_ ts ty #[x']).run P W = .ok z W ∧ VR sn ι u z := by
  have e0 : (#[x'] : Array Value)[0]? = some x' := rfl
  unfold aLen at h
  split at h
  · rename_i ht
    split at h <;> simp at h
    subst h; obtain ⟨ba, rfl, rfl⟩ := hx.str
    have hsz : ba.data.toList.length = ba.size := by cases ba; rfl
    rw [hsz]
    exact ex_int (by simp [Builtin.len_, hts, run_underlying ht, goInt])
  · rename_i ht
    simp at h; subst h
    exact ex_int (by simp [Builtin.len_, hts, run_underlying ht, goInt])
  · rename_i ht
    split at h <;> simp at h
    · subst h; cases hx.nslice; exact ex_int (by simp [Builtin.len_, hts, run_underlying ht, goInt])
    · subst h; obtain ⟨p, a, c, _, rfl, _⟩ := hx.slice; exact ex_int (by simp [Builtin.len_, hts, run_underlying ht, goInt])
    · subst h; rcases hx.rs with ⟨rfl, _, rfl⟩ | ⟨a, c, rfl, _⟩ <;> exact ex_int (by simp [Builtin.len_, hts, run_underlying ht, goInt])
  · rename_i ht
    split at h <;> try (simp at h; done)
    · simp at h; subst h; cases hx.nmap; exact ex_int (by simp [Builtin.len_, hts, run_underlying ht, goInt])
    · split at h <;> simp at h
      subst h; rename_i hm
      obtain ⟨o, p, mes, _, _, _, hp, hw, he⟩ := mapObj_sound hR hm
      obtain ⟨q, hq, rfl⟩ := hx.map
      rw [hp] at hq; simp at hq; subst hq
      have hl := ER_length he
      refine ex_int ?_
      simp at hl
      simp [Builtin.len_, hts, run_underlying ht, goInt, getObj, Sem.run, hw, hl]
  · simp at h

theorem aNil_sound {x u : AV} (h : aNil x = some u) {x' : Value} (hx : VR sn ι x x') (o : Oper) (y : Operand) (ho : o.op = .nilCheck y) (ρ : Operand → Value) (hy : ρ y = x') (w : World) :
    (execOp ρ o).run P w = .ok (.value x') w ∧ VR sn ι u x' := by
  have hu : u = x := by unfold aNil at h; split at h <;> simp at h <;> exact h.symm
  refine ⟨?_, by rw [hu]; exact hx⟩
  subst hy
  cases hxx : ρ y with
  | pointer a =>
    cases a with
    | none => rw [hxx] at hx; cases x <;> simp [VR] at hx; simp [aNil] at h
    | some a => simp [execOp, ho, hxx]
  | nilIface => rw [hxx] at hx; cases x <;> simp [VR] at hx; simp [aNil] at h
  | nilFunc => rw [hxx] at hx; cases x <;> simp [VR] at hx; simp [aNil] at h
  | func fn f c =>
    cases fn with
    | method m =>
      rw [hxx] at hx; cases x <;> simp [VR] at hx
      obtain ⟨_, _, ⟨rfl, _⟩, _⟩ := hx
      simp [aNil] at h
    | _ => simp [execOp, ho, hxx]
  | _ => simp [execOp, ho, hxx]

theorem aMkIface_sound {t : TypeId} {x u : AV} (h : aMkIface P t x = some u) {x' : Value} (hx : VR sn ι x x') (w : World) : ∃ z, (Instr.makeInterface t x').run P w = .ok z w ∧ VR sn ι u z := by
  unfold aMkIface at h; split at h <;> simp at h
  subst h; rename_i hc
  exact ⟨.iface t x', run_makeInterface w t x' hc, by simp only [VR]; exact ⟨x', rfl, hx⟩⟩

theorem aExtract_sound {x u : AV} {i : Nat} (h : aExtract x i = some u) {x' : Value} (hx : VR sn ι x x') (w : World) : ∃ z, (Instr.extract x' i).run P w = .ok z w ∧ VR sn ι u z := by
  unfold aExtract at h; split at h <;> try (simp at h; done)
  obtain ⟨d, rfl, hd⟩ := hx.tuple
  obtain ⟨v, h1, h2⟩ := hd.get h
  rw [Array.getElem?_toList] at h1
  exact ⟨v, by simp [Instr.extract, h1], h2⟩

theorem aMax2_sound {x y u : AV} (h : aMax2 x y = some u) {x' y' : Value} (hx : VR sn ι x x') (hy : VR sn ι y y') (w : World) : ∃ z, (Builtin.max2 x' y').run P w = .ok z w ∧ VR sn ι u z := by
  unfold aMax2 at h; split at h <;> simp at h
  subst h; cases hx.int; cases hy.int; exact ex_int (by simp [Builtin.max2])
theorem aMin2_sound {x y u : AV} (h : aMin2 x y = some u) {x' y' : Value} (hx : VR sn ι x x') (hy : VR sn ι y y') (w : World) : ∃ z, (Builtin.min2 x' y').run P w = .ok z w ∧ VR sn ι u z := by
  unfold aMin2 at h; split at h <;> simp at h
  subst h; cases hx.int; cases hy.int; exact ex_int (by simp [Builtin.min2])

theorem aFold_sound {f : AV → AV → Option AV} {g : Value → Value → Sem Value} (hfg : ∀ x y u, f x y = some u → ∀ x' y', VR sn ι x x' → VR sn ι y y' → ∀ w, ∃ z, (g x' y').run P w = .ok z w ∧ VR sn ι u z) :
    ∀ (l : List AV) (x u : AV), aFold f x l = some u → ∀ (x' : Value) (l' : List Value), VR sn ι x x' → LR sn ι l l' → ∀ w, ∃ z, (l'.foldlM g x').run P w = .ok z w ∧ VR sn ι u z
  | [], x, u, h, x', l', hx, hl, w => by simp [aFold] at h; subst h; simp [LR] at hl; subst hl; exact ⟨x', by simp, hx⟩
  | y :: l, x, u, h, x', l', hx, hl, w => by
    simp only [aFold] at h; split at h <;> try (simp at h; done)
    rename_i z hz
    simp only [LR] at hl; obtain ⟨d, ds, rfl, hd, hl⟩ := hl
    obtain ⟨z', h1, h2⟩ := hfg _ _ _ hz x' d hx hd w
    obtain ⟨r, h3, h4⟩ := aFold_sound hfg l z u h z' ds h2 hl w
    exact ⟨r, by simp only [List.foldlM_cons, Sem.run_bind, h1, Result.andThen_ok, h3], h4⟩

/-! building aggregates -/
def PR (sn : Snap) (ι : IMap) : List (Nat × AV) → List (Nat × Value) → Prop
  | [], l => l = []
  | (i, u) :: us, l => ∃ v l', l = (i, v) :: l' ∧ VR sn ι u v ∧ PR sn ι us l'

theorem foldl_zip (vs : List Value) : ∀ (off j : Nat) (cs : Array Value), off + j + vs.length ≤ cs.size →
    ((vs.zipIdx j).foldl (fun (cs : Array Value) (x : Value × Nat) => cs.setIfInBounds (off + x.2) x.1) cs).toList = cs.toList.take (off + j) ++ vs ++ cs.toList.drop (off + j + vs.length) := by
  induction vs with
  | nil => intro off j cs h; simp
  | cons v vs ih =>
    intro off j cs h
    simp only [List.zipIdx_cons, List.foldl_cons]
    rw [ih off (j + 1) _ (by simp at h ⊢; omega)]
    have e := list_seg_step cs.toList (off + j) v vs (by simp at h ⊢; omega)
    simpa [Array.toList_setIfInBounds, Nat.add_assoc] using e

theorem aFill_sound {pl : Nat → Option (Nat × Nat)} {pl' : Nat → Option (Nat × Nat)} (hpl : ∀ i p, pl i = some p → pl' i = some p) :
    ∀ (ps : List (Nat × AV)) (cs : List AV) (r : List AV), aFill pl cs ps = some r → ∀ (ps' : List (Nat × Value)) (cs' : Array Value), PR sn ι ps ps' → LR sn ι cs cs'.toList →
      ∃ r', Instr.fill pl' cs' ps' = some r' ∧ LR sn ι r r'.toList
  | [], cs, r, h, ps', cs', hp, hc => by simp [aFill] at h; subst h; simp [PR] at hp; subst hp; exact ⟨cs', rfl, hc⟩
  | (i, u) :: ps, cs, r, h, ps', cs', hp, hc => by
    simp only [aFill] at h
    split at h <;> try (simp at h; done)
    rename_i off size hi
    split at h <;> try (simp at h; done)
    rename_i hsz
    split at h <;> try (simp at h; done)
    rename_i cs1 hspl
    simp only [PR] at hp; obtain ⟨v, l', rfl, hv, hp⟩ := hp
    obtain ⟨h1, rfl⟩ := spl_some hspl
    have hvc := hv.cells
    have hvl : v.cells.toList.length = u.cells.length := hvc.length
    have hcl : cs'.toList.length = cs.length := hc.length
    simp only [Array.length_toList] at hvl hcl
    have hz := foldl_zip v.cells.toList off 0 cs' (by simp; omega)
    have hcond : (v.cells.size ≠ size || off + v.cells.size > cs'.size) = false := by simp; omega
    have hfold : v.cells.zipIdx.foldl (fun (cs : Array Value) (x : Value × Nat) => cs.setIfInBounds (off + x.2) x.1) cs' = (v.cells.toList.zipIdx).foldl (fun (cs : Array Value) (x : Value × Nat) => cs.setIfInBounds (off + x.2) x.1) cs' := by
      rw [← Array.foldl_toList]; simp
    have hlr : LR sn ι (cs.take off ++ u.cells ++ cs.drop (off + u.cells.length)) (v.cells.zipIdx.foldl (fun (cs : Array Value) (x : Value × Nat) => cs.setIfInBounds (off + x.2) x.1) cs').toList := by
      rw [hfold, hz]
      simp only [Nat.add_zero]
      have : v.cells.toList.length = u.cells.length := hvc.length
      rw [this]
      exact ((hc.take _).append hvc).append (hc.drop _)
    obtain ⟨r', h3, h4⟩ := aFill_sound hpl ps _ r h l' _ hp hlr
    refine ⟨r', ?_, h4⟩
    simp only [Instr.fill, hpl _ _ hi, hcond, Bool.false_eq_true, if_false]
    exact h3

theorem run_mapM_places (w : World) : ∀ (l : List Field) , (l.all fun f => (tsz P f.type).isSome) = true →
    (l.mapM fun f => (do pure (f.offset, ← sizeOf f.type) : Sem (Nat × Nat))).run P w = .ok (l.map fun f => (f.offset, (tsz P f.type).getD 0)) w
  | [], _ => by simp
  | f :: l, h => by
    simp only [List.all_cons, Bool.and_eq_true] at h
    obtain ⟨n, hn⟩ := Option.isSome_iff_exists.1 h.1
    simp only [List.mapM_cons, Sem.run_bind, tsz_run hn, Result.andThen_ok, Sem.run_pure, run_mapM_places w l h.2, List.map_cons, hn, Option.getD_some]

theorem aBuild_sound {t : TypeId} {ps : List (Nat × AV)} {u : AV} (h : aBuild P t ps = some u) {ps' : Array (Nat × Value)} (hp : PR sn ι ps ps'.toList) (w : World) :
    ∃ z, (Instr.build t ps').run P w = .ok z w ∧ VR sn ι u z := by
  unfold aBuild at h
  split at h <;> try (simp at h; done)
  rename_i z hz
  obtain ⟨z', h1, h2⟩ := tzero_run hz
  have hzc := (h2 sn ι).cells
  split at h
  · rename_i fs ht
    split at h <;> try (simp at h; done)
    rename_i hall
    split at h <;> simp at h
    subst h; rename_i cs hcs
    simp only [allSized, ht] at hall
    have hmap : (fs.mapM fun f => (do pure (f.offset, ← sizeOf f.type) : Sem (Nat × Nat))).run P w = .ok (fs.map fun f => (f.offset, (tsz P f.type).getD 0)) w := by
      rw [Array.mapM_eq_mapM_toList, show (Functor.map List.toArray (fs.toList.mapM fun f => (do pure (f.offset, ← sizeOf f.type) : Sem (Nat × Nat)))) = (do pure (← fs.toList.mapM fun f => (do pure (f.offset, ← sizeOf f.type) : Sem (Nat × Nat))).toArray : Sem _) from rfl]
      simp only [Sem.run_bind, run_mapM_places w fs.toList hall, Result.andThen_ok, Sem.run_pure]
      congr 1; apply Array.ext'; simp
    have hpl : ∀ i p, fplace P t i = some p → (fs.map fun f => (f.offset, (tsz P f.type).getD 0))[i]? = some p := by
      intro i p hip
      unfold fplace at hip
      split at hip <;> try (simp at hip; done)
      rename_i f hf
      obtain ⟨fs', hs, hfi⟩ := fieldOf_some hf
      rw [ht] at hs; simp at hs; subst hs
      split at hip <;> simp at hip
      subst hip; rename_i n hn
      simp [hfi, hn]
    obtain ⟨r', h3, h4⟩ := aFill_sound hpl ps _ cs hcs ps'.toList _ hp hzc
    refine ⟨.agg r', ?_, vr_agg h4⟩
    simp only [Instr.build, Sem.run_bind, h1, Result.andThen_ok, run_underlying ht, hmap]
    rw [h3]; simp
  · rename_i n e ht
    split at h <;> try (simp at h; done)
    rename_i sz hsz
    split at h <;> simp at h
    subst h; rename_i cs hcs
    obtain ⟨r', h3, h4⟩ := aFill_sound (fun i p h => h) ps _ cs hcs ps'.toList _ hp hzc
    refine ⟨.agg r', ?_, vr_agg h4⟩
    simp only [Instr.build, Sem.run_bind, h1, Result.andThen_ok, run_underlying ht, tsz_run hsz]
    rw [h3]; simp
  · simp at h

end pure

/-! operands -/
abbrev Glob := Nat → Option (List AV)

def aevals (ρ : Operand → Option AV) : List Operand → Option (List AV)
  | [] => some []
  | x :: l => match ρ x, aevals ρ l with | some u, some us => some (u :: us) | _, _ => none

def aparts (ρ : Operand → Option AV) : List (Nat × Operand) → Option (List (Nat × AV))
  | [] => some []
  | (i, x) :: l => match ρ x, aparts ρ l with | some u, some us => some ((i, u) :: us) | _, _ => none

def aopt (ρ : Operand → Option AV) : Option Operand → Option (Option AV)
  | none => some none
  | some x => match ρ x with | some u => some (some u) | none => none

section ev
variable {sn : Snap} {ι : IMap} {ρ : Operand → Option AV} {ρ' : Operand → Value}
theorem aevals_sound (h : ∀ x u, ρ x = some u → VR sn ι u (ρ' x)) : ∀ (l : List Operand) (us : List AV), aevals ρ l = some us → LR sn ι us (l.map ρ')
  | [], us, e => by simp [aevals] at e; subst e; simp [LR]
  | x :: l, us, e => by
    simp only [aevals] at e; split at e <;> simp at e
    subst e; rename_i h1 h2
    simp only [List.map_cons, LR]; exact ⟨_, _, rfl, h _ _ h1, aevals_sound h l _ h2⟩
theorem aparts_sound (h : ∀ x u, ρ x = some u → VR sn ι u (ρ' x)) : ∀ (l : List (Nat × Operand)) (us : List (Nat × AV)), aparts ρ l = some us → PR sn ι us (l.map fun (i, x) => (i, ρ' x))
  | [], us, e => by simp [aparts] at e; subst e; simp [PR]
  | (i, x) :: l, us, e => by
    simp only [aparts] at e; split at e <;> simp at e
    subst e; rename_i h1 h2
    simp only [List.map_cons, PR]; exact ⟨_, _, rfl, h _ _ h1, aparts_sound h l _ h2⟩
theorem aopt_sound (h : ∀ x u, ρ x = some u → VR sn ι u (ρ' x)) (x : Option Operand) (u : Option AV) (e : aopt ρ x = some u) : OVR sn ι u (x.map ρ') := by
  cases x with
  | none => simp [aopt] at e; subst e; simp [OVR]
  | some x => simp only [aopt] at e; split at e <;> simp at e; subst e; rename_i h1; simp only [OVR]; exact ⟨_, rfl, h _ _ h1⟩
end ev

/-- The operations that neither write nor make memory, and call no function. -/
def apure (P : Program) (ρ : Operand → Option AV) (H : AHeap) (o : Oper) : Option AV :=
  match o.op with
  | .move x => ρ x
  | .assign x => ρ x
  | .pick c a b => match ρ c with | some (.bool true) => ρ a | some (.bool false) => ρ b | _ => none
  | .build t ps => match aparts ρ ps.toList with | some us => aBuild P t us | none => none
  | .load t a => match ρ a with | some a => aload P t a H | none => none
  | .nilCheck x => match ρ x with | some x => aNil x | none => none
  | .binOp op t x y _ => match ρ x, ρ y with | some a, some b => aBin P op t a b | _, _ => none
  | .unOp op _ x => match ρ x with | some a => aUn op a | none => none
  | .convert s d x => match ρ x with | some a => aConv P s d a | none => none
  | .makeInterface t x => match ρ x with | some a => aMkIface P t a | none => none
  | .makeFunc fn f c => match aevals ρ f.toList, aevals ρ c.toList with | some f, some c => some (.func fn f c) | _, _ => none
  | .slice t x lo hi none => match ρ x, aopt ρ lo, aopt ρ hi with | some x, some lo, some hi => aSlice P t x lo hi | _, _, _ => none
  | .fieldAddr s x f => match ρ x with | some a => aFieldAddr P s a f | none => none
  | .field s x f => match ρ x with | some a => aField P s a f | none => none
  | .indexAddr t x i => match ρ x, ρ i with | some a, some i => aIndexAddr P t a i | _, _ => none
  | .index t x i => match ρ x, ρ i with | some a, some i => aIndex P t a i | _, _ => none
  | .extract t i => match ρ t with | some a => aExtract a i | none => none
  | .call c => match c.callee with
    | .builtin .len => match c.args.toList, c.argTypes.toList with | [x], t :: _ => (match ρ x with | some a => aLen P t a H | none => none) | _, _ => none
    | .builtin .max => match aevals ρ c.args.toList with | some (a :: l) => aFold aMax2 a l | _ => none
    | .builtin .min => match aevals ρ c.args.toList with | some (a :: l) => aFold aMin2 a l | _ => none
    | _ => none
  | _ => none

theorem apure_sound {P : Program} {sn : Snap} {ι : IMap} {H : AHeap} {W : World} (hR : RO sn ι H W) {ρ : Operand → Option AV} {ρ' : Operand → Value} (hρ : ∀ x u, ρ x = some u → VR sn ι u (ρ' x))
    {o : Oper} {r : AV} (h : apure P ρ H o = some r) : ∃ v, (execOp ρ' o).run P W = .ok (.value v) W ∧ VR sn ι r v := by
  have wrap : ∀ (s : Sem Value), execOp ρ' o = (do pure (.value (← s)) : Sem Next) → (∃ z, s.run P W = .ok z W ∧ VR sn ι r z) → ∃ v, (execOp ρ' o).run P W = .ok (.value v) W ∧ VR sn ι r v := by
    rintro s e ⟨z, h1, h2⟩
    exact ⟨z, by rw [e]; simp only [Sem.run_bind, h1, Result.andThen_ok, Sem.run_pure], h2⟩
  unfold apure at h
  cases hop : o.op with
  | move x => simp only [hop] at h; exact ⟨ρ' x, by simp [execOp, hop], hρ x r h⟩
  | assign x => simp only [hop] at h; exact ⟨ρ' x, by simp [execOp, hop], hρ x r h⟩
  | pick c a b =>
    simp only [hop] at h
    split at h <;> try (simp at h; done)
    all_goals
      rename_i hc
      have := (hρ _ _ hc).bool
      exact ⟨_, by simp [execOp, hop, this, asBool], hρ _ r h⟩
  | build t ps =>
    simp only [hop] at h; split at h <;> try (simp at h; done)
    rename_i us hus
    exact wrap (Instr.build t (ps.map fun (i, x) => (i, ρ' x))) (by simp only [execOp, hop]) (aBuild_sound h (by rw [Array.toList_map]; exact aparts_sound hρ _ _ hus) W)
  | load t a =>
    simp only [hop] at h; split at h <;> try (simp at h; done)
    rename_i u hu
    exact wrap _ (by simp only [execOp, hop]) (load_sound hR h (hρ _ _ hu))
  | nilCheck x =>
    simp only [hop] at h; split at h <;> try (simp at h; done)
    rename_i u hu
    obtain ⟨h1, h2⟩ := aNil_sound (P := P) h (hρ _ _ hu) o x hop ρ' rfl W
    exact ⟨_, h1, h2⟩
  | binOp op t x y yt =>
    simp only [hop] at h; split at h <;> try (simp at h; done)
    rename_i a b ha hb
    exact wrap _ (by simp only [execOp, hop]) (aBin_sound h (hρ _ _ ha) (hρ _ _ hb) x y W)
  | unOp op t x =>
    simp only [hop] at h; split at h <;> try (simp at h; done)
    rename_i u hu
    exact wrap _ (by simp only [execOp, hop]) (aUn_sound h (hρ _ _ hu) W)
  | convert s d x =>
    simp only [hop] at h; split at h <;> try (simp at h; done)
    rename_i u hu
    exact wrap _ (by simp only [execOp, hop]) (aConv_sound h (hρ _ _ hu) W)
  | makeInterface t x =>
    simp only [hop] at h; split at h <;> try (simp at h; done)
    rename_i u hu
    exact wrap _ (by simp only [execOp, hop]) (aMkIface_sound h (hρ _ _ hu) W)
  | makeFunc fn f c =>
    simp only [hop] at h; split at h <;> try (simp at h; done)
    rename_i f' c' hf hc
    simp at h; subst h
    refine ⟨.func fn (f.map ρ') (c.map ρ'), by simp [execOp, hop, Instr.makeFunc], ?_⟩
    simp only [VR]
    exact ⟨_, _, rfl, by rw [Array.toList_map]; exact aevals_sound hρ _ _ hf, by rw [Array.toList_map]; exact aevals_sound hρ _ _ hc⟩
  | slice t x lo hi mx =>
    cases mx with
    | some m => simp [hop] at h
    | none =>
      simp only [hop] at h; split at h <;> try (simp at h; done)
      rename_i a lo' hi' hx hlo hhi
      exact wrap _ (by simp only [execOp, hop, Option.map_none]) (aSlice_sound h (hρ _ _ hx) (aopt_sound hρ _ _ hlo) (aopt_sound hρ _ _ hhi) W)
  | fieldAddr s x f =>
    simp only [hop] at h; split at h <;> try (simp at h; done)
    rename_i u hu
    exact wrap _ (by simp only [execOp, hop]) (aFieldAddr_sound h (hρ _ _ hu) W)
  | field s x f =>
    simp only [hop] at h; split at h <;> try (simp at h; done)
    rename_i u hu
    exact wrap _ (by simp only [execOp, hop]) (aField_sound h (hρ _ _ hu) W)
  | indexAddr t x i =>
    simp only [hop] at h; split at h <;> try (simp at h; done)
    rename_i a b ha hb
    exact wrap _ (by simp only [execOp, hop]) (aIndexAddr_sound h (hρ _ _ ha) (hρ _ _ hb) W)
  | index t x i =>
    simp only [hop] at h; split at h <;> try (simp at h; done)
    rename_i a b ha hb
    exact wrap _ (by simp only [execOp, hop]) (aIndex_sound h (hρ _ _ ha) (hρ _ _ hb) W)
  | extract t i =>
    simp only [hop] at h; split at h <;> try (simp at h; done)
    rename_i u hu
    exact wrap _ (by simp only [execOp, hop]) (aExtract_sound h (hρ _ _ hu) W)
  | call c =>
    simp only [hop] at h
    split at h <;> try (simp at h; done)
    · rename_i hc
      split at h <;> try (simp at h; done)
      rename_i x t ts hx ht
      split at h <;> try (simp at h; done)
      rename_i u hu
      have hx' : c.args = #[x] := by apply Array.ext'; simpa using hx
      have ht' : c.argTypes[0]? = some t := by rw [← Array.getElem?_toList, ht]; rfl
      obtain ⟨z, h1, h2⟩ := aLen_sound hR h (hρ _ _ hu) c.argTypes ht' o.type
      exact ⟨z, by simp only [execOp, hop, resolve, hc, invoke, builtin, Sem.run_bind, Sem.run_pure, Result.andThen_ok, hx', List.map_toArray, List.map_cons, List.map_nil, h1], h2⟩
    · rename_i hc
      split at h <;> try (simp at h; done)
      rename_i a l hl
      have he := aevals_sound hρ _ _ hl
      simp only [LR] at he
      obtain ⟨d, ds, e, hd, hds⟩ := he
      obtain ⟨z, h1, h2⟩ := aFold_sound (P := P) (fun x y u h x' y' hx hy w => aMax2_sound h hx hy w) l a r h d ds hd hds W
      refine ⟨z, ?_, h2⟩
      have e' : (c.args.map ρ').toList = d :: ds := by rw [Array.toList_map]; exact e
      simp only [execOp, hop, resolve, hc, invoke, builtin, Sem.run_bind, Sem.run_pure, Result.andThen_ok, Builtin.max_, e', h1]
    · rename_i hc
      split at h <;> try (simp at h; done)
      rename_i a l hl
      have he := aevals_sound hρ _ _ hl
      simp only [LR] at he
      obtain ⟨d, ds, e, hd, hds⟩ := he
      obtain ⟨z, h1, h2⟩ := aFold_sound (P := P) (fun x y u h x' y' hx hy w => aMin2_sound h hx hy w) l a r h d ds hd hds W
      refine ⟨z, ?_, h2⟩
      have e' : (c.args.map ρ').toList = d :: ds := by rw [Array.toList_map]; exact e
      simp only [execOp, hop, resolve, hc, invoke, builtin, Sem.run_bind, Sem.run_pure, Result.andThen_ok, Builtin.min_, e', h1]
  | _ => simp [hop] at h

end Go.Abs

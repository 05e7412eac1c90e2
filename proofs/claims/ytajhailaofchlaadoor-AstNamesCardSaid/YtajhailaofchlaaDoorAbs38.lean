/-
  A verified abstract interpreter, part 38: a law with arguments: it says true and leaves all as it was.
-/
import Derived.Test.YtajhailaofchlaaDoorAbs37
set_option linter.unusedSimpArgs false
set_option linter.unusedVariables false
namespace Go.Abs
open Go.RowKit Go.ChangeShapes Go.WideShapes Go.ChangeAt

/-- An argument of type t, as the interpreter knows it. -/
def OpensV (P : Program) (t : TypeId) (Q : AV → Prop) : Prop :=
  ∀ (H : Type) (enc : TypeId × Value → H) (W : World) (r : Reach) (b : Nat) (v : Value) (d : DataW H) (p : List MemPlace), Value.okWide P W r b t v → DataW.Trod enc P W 0 (fun _ => true) true t v d p → ∃ u, Q u ∧ VR (snap0 W) noI u v

section opens
variable {P : Program}
theorem lr_one {sn : Snap} {ι : IMap} {u : AV} {v : Value} (h : LR sn ι [u] [v]) : VR sn ι u v := by
  simp only [LR] at h
  obtain ⟨d, ds, e, h1, h2⟩ := h
  simp at e; obtain ⟨rfl, rfl⟩ := e
  exact h1

theorem opensV_int {t : TypeId} {k : IntKind} (ht : P.underlying t = some (.int k)) : OpensV P t fun u => ∃ n, u = .int k n ∧ (Lit.int k n).wf = true := by
  intro H enc W r b v d p hv ⟨fuel, h⟩
  obtain ⟨n, rfl⟩ := okWide_int ht hv
  obtain ⟨us, ⟨n', rfl, hw⟩, hl⟩ := opens_int ht H enc W fuel _ _ h
  exact ⟨_, ⟨n', rfl, hw⟩, lr_one (by simpa [Value.cells] using hl)⟩
theorem opensV_bool {t : TypeId} (ht : P.underlying t = some .bool) : OpensV P t fun u => ∃ b, u = .bool b := by
  intro H enc W r b v d p hv ⟨fuel, h⟩
  obtain ⟨n, rfl⟩ := okWide_bool ht hv
  obtain ⟨us, ⟨n', rfl⟩, hl⟩ := opens_bool ht H enc W fuel _ _ h
  exact ⟨_, ⟨n', rfl⟩, lr_one (by simpa [Value.cells] using hl)⟩
theorem opensV_str {t : TypeId} (ht : P.underlying t = some .string) : OpensV P t fun u => ∃ s : List UInt8, u = .str s ∧ s.length ≤ maxLen := by
  intro H enc W r b v d p hv ⟨fuel, h⟩
  obtain ⟨n, rfl⟩ := okWide_string ht hv
  obtain ⟨us, ⟨s, rfl, hs⟩, hl⟩ := opens_str ht H enc W fuel _ _ h
  exact ⟨_, ⟨s, rfl, hs⟩, lr_one (by simpa [Value.cells] using hl)⟩
theorem opensV_slice {t e : TypeId} {z : Nat} {Q : List AV → Prop} (ht : P.underlying t = some (.slice e)) (hz : P.cellsOf e = z) (hz0 : z ≠ 0) (he : Opens P e Q) :
    OpensV P t fun u => u = .nslice ∨ ∃ l : List (List AV), (∀ u ∈ l, Q u ∧ u.length = z) ∧ u = .rs l.length z l.flatten ∧ l.length ≤ maxLen := by
  intro H enc W r b v d p hv ⟨fuel, h⟩
  obtain ⟨a, n, c, rfl⟩ := okWide_slice ht hv
  obtain ⟨us, hq, hl⟩ := opens_slice ht hz hz0 he H enc W fuel _ _ h
  rcases hq with rfl | ⟨l, h1, rfl, h2⟩
  · exact ⟨_, .inl rfl, lr_one (by simpa [Value.cells] using hl)⟩
  · exact ⟨_, .inr ⟨l, h1, rfl, h2⟩, lr_one (by simpa [Value.cells] using hl)⟩
theorem opensV_struct {t : TypeId} {fs : Array Field} {Qs : List (List AV → Prop)} (ht : P.underlying t = some (.struct fs)) (h : FsOpens P fs.toList Qs 0 (P.cellsOf t)) : OpensV P t fun u => ∃ us, u = .agg us ∧ FsQ Qs us := by
  intro H enc W r b v d p hv ⟨fuel, hx⟩
  obtain ⟨cs, rfl, _⟩ := okWide_struct ht hv
  obtain ⟨us, hq, hl⟩ := opens_struct ht h H enc W fuel _ _ hx
  exact ⟨_, ⟨us, rfl, hq⟩, vr_agg (by simpa [Value.cells] using hl)⟩
theorem opensV_mono {t : TypeId} {Q Q' : AV → Prop} (h : OpensV P t Q) (hq : ∀ u, Q u → Q' u) : OpensV P t Q' := fun H enc W r b v d p hv ht => let ⟨u, h1, h2⟩ := h H enc W r b v d p hv ht; ⟨u, hq _ h1, h2⟩
end opens

def OpensAll (P : Program) : List TypeId → List (AV → Prop) → Prop
  | [], [] => True
  | t :: ts, Q :: Qs => OpensV P t Q ∧ OpensAll P ts Qs
  | _, _ => False
def AllQ : List (AV → Prop) → List AV → Prop
  | [], [] => True
  | Q :: Qs, u :: us => Q u ∧ AllQ Qs us
  | _, _ => False

theorem allQ_nil {us : List AV} (h : AllQ [] us) : us = [] := by cases us with | nil => rfl | cons _ _ => exact h.elim
theorem allQ_cons {Q : AV → Prop} {Qs : List (AV → Prop)} {us : List AV} (h : AllQ (Q :: Qs) us) : ∃ u us', us = u :: us' ∧ Q u ∧ AllQ Qs us' := by
  cases us with
  | nil => exact h.elim
  | cons u us => exact ⟨u, us, rfl, h.1, h.2⟩

theorem open_args {P : Program} {H : Type} {enc : TypeId × Value → H} {W : World} {r : Reach} {b : Nat} : ∀ {ts : List TypeId} {Qs : List (AV → Prop)} {vs : List Value} {ds : List (DataW H)} {ps : List MemPlace}, OpensAll P ts Qs →
    (∀ (j : Nat) t v, ts[j]? = some t → vs[j]? = some v → Value.okWide P W r b t v) → DataW.TrodAll enc P W 0 (fun _ => true) true ts vs ds ps → ds.length = ts.length ∧ ∃ us, AllQ Qs us ∧ LR (snap0 W) noI us vs
  | [], [], [], [], ps, ho, hv, h => ⟨rfl, [], trivial, by simp [LR]⟩
  | t :: ts, Q :: Qs, v :: vs, d :: ds, ps, ho, hv, h => by
    obtain ⟨p, q, hp, hq, _⟩ := h
    obtain ⟨u, h1, h2⟩ := ho.1 H enc W r b v d p (hv 0 t v rfl rfl) hp
    obtain ⟨hl, us, h3, h4⟩ := open_args ho.2 (fun j t v ht hv' => hv (j + 1) t v (by simpa using ht) (by simpa using hv')) hq
    exact ⟨by simp [hl], u :: us, ⟨h1, h3⟩, by simp only [LR]; exact ⟨v, vs, rfl, h2, h4⟩⟩
  | [], _ :: _, _, _, _, ho, _, _ => ho.elim
  | _ :: _, [], _, _, _, ho, _, _ => ho.elim
  | [], [], [], _ :: _, _, _, _, h => h.elim
  | [], [], _ :: _, _, _, _, _, h => h.elim
  | _ :: _, _ :: _, [], _, _, _, _, h => h.elim
  | _ :: _, _ :: _, _ :: _, [], _, _, _, h => h.elim

/-- A law: called with whatever can be read as data, it says true; all reads as before. -/
theorem law_calls {P : Program} {gl : Glob} {f : Nat} {fn : Func} {s : ChangeSpec} {Qs : List (AV → Prop)} {tb : TypeId} (hP : Solid P) (hts : (fn.params.toList.all fun t => Nat.blt t P.types.size) = true) (ho : OpensAll P fn.params.toList Qs) (hlaw : ∀ us, AllQ Qs us → ValOK P gl f us (.bool true))
    (hvars : s.vars = []) (hfn : ∀ (H : Type) (ds : List (DataW H)), ds.length = fn.params.toList.length → (s.fn H ds).results = [.lit (.bool true)] ∧ (s.fn H ds).args = ds ∧ (s.fn H ds).vars = []) (hr : fn.resultTypes = #[tb]) (hb : P.underlying tb = some .bool)
    {H : Type} {enc : TypeId × Value → H} {W : World} {base : Nat} {args : Array Value} {ds gs : List (DataW H)} {before : List MemPlace} (hg : GlOK gl (snap0 W))
    (hval : ∀ (j : Nat) t v, fn.params[j]? = some t → args[j]? = some v → Value.okWide P W .any base t v) (hW : DataW.Whole enc P fn.params.toList s.vars false W args.toList ds gs before) :
    Calls P f args W fun e W' => ∃ v, e = .returned v ∧ s.post enc P fn false true false false W args v W' := by
  have hW' := hW
  obtain ⟨p, q, hA, hV, rfl, hfz, hnd⟩ := hW
  rw [hvars] at hV
  obtain ⟨rfl, rfl⟩ := trodVars_none hV
  obtain ⟨hl, us, hq, hlr⟩ := open_args ho (fun j t v ht hv => hval j t v (by simpa using ht) (by simpa using hv)) hA
  have hlt : ∀ x ∈ p ++ [], x.block < W.heap.size := fun x hx => hW'.lt x hx
  refine ((hlaw us hq) (snap0 W) W args.toList hg (R0 W) hlr).mono ?_
  rintro e W' ⟨v, rfl, hx, hv⟩
  cases hv.bool
  obtain ⟨h1, h2, h3⟩ := hfn H ds (by simpa using hl)
  refine ⟨_, rfl, post_below (pa := p) (pv := []) hW' (fun b sp hd => ?_) (fun sp hsp => ?_) (fun sp _ => by rw [hvars, List.append_nil, h3]; rfl) rfl (Stp.below (Stp.ext (R0 W) hx)) (ok_one hr rfl (okWide_bool_mk hb _))⟩
  · rw [List.append_nil, h1, hr]
    exact trodAll_cons_mk (shut_bool hb _) trodAll_mk0
  · rw [List.append_nil, h2]
    exact trodAll_keep hP hx (fun t ht => blt_lt (List.all_eq_true.1 hts t ht)) hA (fun x hx => hlt x (by simp [hx])) fun x hx => hsp x (by simp [hx])
end Go.Abs

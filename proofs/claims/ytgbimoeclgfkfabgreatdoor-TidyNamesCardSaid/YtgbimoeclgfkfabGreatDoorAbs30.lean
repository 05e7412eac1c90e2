/-
  A verified abstract interpreter, part 30: code, functions, calls n deep, laid ahead for the kernel; calls that are known.
-/
import Derived.Test.YtgbimoeclgfkfabGreatDoorAbs29
set_option linter.unusedSimpArgs false
set_option linter.unusedVariables false
namespace Go.Abs
open Go.RowKit

section code
variable (P : Program) (gl : Glob) (d n fuel : Nat)

noncomputable def fexec (forc : FOrc) (c : Code) : (Tre AV d → TH → Res) → (Nat → Tre AV d → TH → Res) → (Tre AV d → TH → Res) → Tre AV d → TH → Res :=
  Code.rec (motive := fun _ => (Tre AV d → TH → Res) → (Nat → Tre AV d → TH → Res) → (Tre AV d → TH → Res) → Tre AV d → TH → Res)
    (fun kn _ _ E T => kn E T)
    (fun _ ops draw kn _ _ E T => iff' draw (fdraw P gl d n ops.toList forc E T kn) (fseq P gl d n ops.toList forc ops.toList E T kn))
    (fun _ _ iha ihb kn kx kr E T => iha (fun E T => ihb kn kx kr E T) kx kr E T)
    (fun x _ _ iha ihb kn kx kr E T => Option.rec none (fun g => onBool (g E) (fun v => iff' v (iha kn kx kr E T) (ihb kn kx kr E T)) none) (copd gl d n x))
    (fun id _ ih kn kx kr E T => ih kn (fun id' E T => iff' (Nat.beq id' id) (kn E T) (kx id' E T)) kr E T)
    (fun _ ih kn kx kr E T => Nat.rec (motive := fun _ => Tre AV d → TH → Res) (fun _ _ => none) (fun _ again E T => ih again kx kr E T) fuel E T)
    (fun _ _ _ _ _ _ _ _ _ _ _ => none)
    (fun id _ kx _ E T => kx id E T)
    (fun _ ih kn kx kr E T => ih kn kx kr E T)
    (fun _ kn _ _ E T => kn E T)
    (fun _ _ _ _ _ _ => none)
    (fun _ _ kr E T => kr E T)
    (fun _ _ _ _ _ _ => none) c

/-- Results. -/
noncomputable def cres : List ResultVar → Option (Tre AV d → TH → (List AV → Res) → Res)
  | [] => some fun _ _ f => f []
  | .tmp t :: l => match copd gl d n (.tmp t), cres l with | some g, some G => some fun E T f => frc1 (g E) fun v => G E T fun vs => f (v :: vs) | _, _ => none
  | .cell a t :: l => match copd gl d n (.tmp a), cres l, tagg P t, tsz P t with
    | some g, some G, some false, _ => some fun E T f => onPtr (g E) (fun b off => onCells (T.get b) (fun _ _ cs _ => getR cs off (fun v => G E T fun vs => f (v :: vs)) none) none) (fun _ => none) none
    | some g, some G, some true, some m => some fun E T f => onPtr (g E) (fun b off => onCells (T.get b) (fun _ _ cs _ => tkR m (dropR cs off) (fun v => G E T fun vs => f (.agg v :: vs)) none) none) (fun _ => none) none
    | _, _, _, _ => none

noncomputable def one1 (l : List AV) : AV := List.rec (.tuple []) (fun v m _ => List.rec v (fun _ _ _ => .tuple l) m) l

noncomputable def mkArgs (d n : Nat) (args : List AV) : Nat → Tre AV d → (Tre AV d → Res) → Res :=
  List.rec (motive := fun _ => Nat → Tre AV d → (Tre AV d → Res) → Res) (fun _ E f => f E) (fun v _ ih i E f => iff' (Nat.blt i n) (Bx.rec (fun p => frc1 v fun v => p v E fun E' => ih (Nat.succ i) E' f) (putB AV Res d i)) none) args

noncomputable def depOf (n : Nat) : Nat := iff' (Nat.ble n 8) 1 (iff' (Nat.ble n 64) 2 (iff' (Nat.ble n 512) 3 4))

noncomputable def fcomp (P : Program) (gl : Glob) (fuel : Nat) (f : Nat) : Option (FOrc → List AV → TH → Res) :=
  match P.funcs[f]? with
  | some fn => match fn.body with
    | some c => frcNR fn.ntmps fun n => frcNR (depOf n) fun d => iff' (Nat.ble n (8 ^ d)) (iff' (Nat.ble n 4096) (match cres P gl d n fn.results.toList with
      | some G => some fun forc args T => mkArgs d n args 0 (tesame (.tuple []) d) fun E => fexec P gl d n fuel forc c (fun E T => G E T fun vs => some (one1 vs, T)) (fun _ _ _ => none) (fun E T => G E T fun vs => some (one1 vs, T)) E T
      | none => none) none) none
    | none => none
  | none => none

/-- Calls n deep; what the table tells is not run. -/
noncomputable def frun (P : Program) (gl : Glob) (tbl : List (Nat × List AV)) (fuel n : Nat) : FOrc :=
  Nat.rec (motive := fun _ => FOrc) (fun _ _ _ => none) (fun _ ih f args T => iff' (memA f args tbl) (some (.bool true, T)) (Option.rec none (fun run => run ih args T) (fcomp P gl fuel f))) n
end code

section ok
variable {P : Program} {gl : Glob} {d n fuel : Nat} {forc : FOrc} {orc : Orc}

def finK {d : Nat} (x : AEx) (kn : Tre AV d → TH → Res) (kx : Nat → Tre AV d → TH → Res) (kr : Tre AV d → TH → Res) (E : Tre AV d) (T : TH) : Res := match x with
  | .normal => kn E T
  | .exit id => kx id E T
  | .ret => kr E T

def ExecOK (P : Program) (gl : Glob) (d n fuel : Nat) (orc : Orc) (c : Code) (F : (Tre AV d → TH → Res) → (Nat → Tre AV d → TH → Res) → (Tre AV d → TH → Res) → Tre AV d → TH → Res) : Prop :=
  ∀ kn kx kr E T out H tm, Rep T H → EnvSim d n E tm → F kn kx kr E T = some out → ∃ x E' T' tm' H', aexec P gl orc fuel c tm H = some (x, tm', H') ∧ EnvSim d n E' tm' ∧ Rep T' H' ∧ finK x kn kx kr E' T' = some out

theorem loopK_ok {b : Code} {F : (Tre AV d → TH → Res) → (Nat → Tre AV d → TH → Res) → (Tre AV d → TH → Res) → Tre AV d → TH → Res} (hF : ExecOK P gl d n fuel orc b F) {kn : Tre AV d → TH → Res} {kx : Nat → Tre AV d → TH → Res} {kr : Tre AV d → TH → Res} {out : AV × TH} :
    ∀ (m : Nat) (E : Tre AV d) (T : TH) (H : AHeap) (tm : Tr), Rep T H → EnvSim d n E tm → (Nat.rec (motive := fun _ => Tre AV d → TH → Res) (fun _ _ => none) (fun _ again E T => F again kx kr E T) m E T : Res) = some out →
      ∃ x E' T' tm' H', loopN (aexec P gl orc fuel b) m tm H = some (x, tm', H') ∧ EnvSim d n E' tm' ∧ Rep T' H' ∧ finK x kn kx kr E' T' = some out
  | 0, E, T, H, tm, hR, hE, h => by cases h
  | m + 1, E, T, H, tm, hR, hE, h => by
    obtain ⟨x, E1, T1, tm1, H1, g1, g2, g3, g4⟩ := hF _ kx kr E T out H tm hR hE h
    cases x with
    | normal =>
      obtain ⟨x2, E2, T2, tm2, H2, k1, k2, k3, k4⟩ := loopK_ok hF m E1 T1 H1 tm1 g3 g2 g4
      exact ⟨x2, E2, T2, tm2, H2, by simp only [loopN, g1, k1], k2, k3, k4⟩
    | exit id => exact ⟨.exit id, E1, T1, tm1, H1, by simp only [loopN, g1], g2, g3, g4⟩
    | ret => exact ⟨.ret, E1, T1, tm1, H1, by simp only [loopN, g1], g2, g3, g4⟩

theorem fexec_ok (hn : n ≤ 8 ^ d) (hO : OrcSim forc orc) : ∀ c : Code, ExecOK P gl d n fuel orc c (fexec P gl d n fuel forc c)
  | .skip => fun kn kx kr E T out H tm hR hE h => ⟨.normal, E, T, tm, H, rfl, hE, hR, h⟩
  | .region id ops draw => fun kn kx kr E T out H tm hR hE h => by
    rcases iff_some2 (show iff' draw (fdraw P gl d n ops.toList forc E T kn) (fseq P gl d n ops.toList forc ops.toList E T kn) = some out from h) with ⟨rfl, h⟩ | ⟨rfl, h⟩
    · obtain ⟨E', T', tm', H', g1, g2, g3, g4⟩ := fdraw_ok hn hO hR hE h
      exact ⟨.normal, E', T', tm', H', by simp [aexec, g1], g2, g3, g4⟩
    · obtain ⟨E', T', tm', H', g1, g2, g3, g4⟩ := fseq_ok hn hO ops.toList E T kn out H tm hR hE h
      exact ⟨.normal, E', T', tm', H', by simp [aexec, g1], g2, g3, g4⟩
  | .seq a b => fun kn kx kr E T out H tm hR hE h => by
    obtain ⟨x, E1, T1, tm1, H1, g1, g2, g3, g4⟩ := fexec_ok hn hO a (fun E T => fexec P gl d n fuel forc b kn kx kr E T) kx kr E T out H tm hR hE h
    cases x with
    | normal =>
      obtain ⟨x2, E2, T2, tm2, H2, k1, k2, k3, k4⟩ := fexec_ok hn hO b kn kx kr E1 T1 out H1 tm1 g3 g2 g4
      exact ⟨x2, E2, T2, tm2, H2, by simp only [aexec, g1, k1], k2, k3, k4⟩
    | exit id => exact ⟨.exit id, E1, T1, tm1, H1, by simp only [aexec, g1], g2, g3, g4⟩
    | ret => exact ⟨.ret, E1, T1, tm1, H1, by simp only [aexec, g1], g2, g3, g4⟩
  | .cond x a b => fun kn kx kr E T out H tm hR hE h => by
    have h : (Option.rec none (fun g => onBool (g E) (fun v => iff' v (fexec P gl d n fuel forc a kn kx kr E T) (fexec P gl d n fuel forc b kn kx kr E T)) none) (copd gl d n x) : Res) = some out := h
    cases hx : copd gl d n x with
    | none => rw [hx] at h; cases h
    | some g =>
      rw [hx] at h
      rcases onBool_some h with ⟨v, e, h⟩ | ⟨_, h⟩ <;> try (cases h; done)
      have hev : aeval gl tm x = some (.bool v) := by rw [← rhoE_eq hE, rhoE_of hx, e]
      cases v with
      | true =>
        obtain ⟨x2, E2, T2, tm2, H2, k1, k2, k3, k4⟩ := fexec_ok hn hO a kn kx kr E T out H tm hR hE h
        exact ⟨x2, E2, T2, tm2, H2, by simp only [aexec, hev, k1], k2, k3, k4⟩
      | false =>
        obtain ⟨x2, E2, T2, tm2, H2, k1, k2, k3, k4⟩ := fexec_ok hn hO b kn kx kr E T out H tm hR hE h
        exact ⟨x2, E2, T2, tm2, H2, by simp only [aexec, hev, k1], k2, k3, k4⟩
  | .block id b => fun kn kx kr E T out H tm hR hE h => by
    obtain ⟨x, E1, T1, tm1, H1, g1, g2, g3, g4⟩ := fexec_ok hn hO b kn (fun id' E T => iff' (Nat.beq id' id) (kn E T) (kx id' E T)) kr E T out H tm hR hE h
    cases x with
    | normal => exact ⟨.normal, E1, T1, tm1, H1, by simp only [aexec, g1], g2, g3, g4⟩
    | exit id' =>
      rcases iff_some2 (show iff' (Nat.beq id' id) (kn E1 T1) (kx id' E1 T1) = some out from g4) with ⟨e, g4⟩ | ⟨e, g4⟩
      · exact ⟨.normal, E1, T1, tm1, H1, by simp only [aexec, g1, e, if_true], g2, g3, g4⟩
      · exact ⟨.exit id', E1, T1, tm1, H1, by simp only [aexec, g1, e, Bool.false_eq_true, if_false], g2, g3, g4⟩
    | ret => exact ⟨.ret, E1, T1, tm1, H1, by simp only [aexec, g1], g2, g3, g4⟩
  | .loop b => fun kn kx kr E T out H tm hR hE h => by
    obtain ⟨x, E1, T1, tm1, H1, g1, g2, g3, g4⟩ := loopK_ok (kn := kn) (fexec_ok hn hO b) fuel E T H tm hR hE h
    exact ⟨x, E1, T1, tm1, H1, by simp only [aexec, g1], g2, g3, g4⟩
  | .rangeFunc .. => fun kn kx kr E T out H tm hR hE h => by cases h
  | .exit id => fun kn kx kr E T out H tm hR hE h => ⟨.exit id, E, T, tm, H, rfl, hE, hR, h⟩
  | .scope b => fun kn kx kr E T out H tm hR hE h => by
    obtain ⟨x, E1, T1, tm1, H1, g1, g2, g3, g4⟩ := fexec_ok hn hO b kn kx kr E T out H tm hR hE h
    exact ⟨x, E1, T1, tm1, H1, by simp only [aexec, g1], g2, g3, g4⟩
  | .label _ => fun kn kx kr E T out H tm hR hE h => ⟨.normal, E, T, tm, H, rfl, hE, hR, h⟩
  | .goto .. => fun kn kx kr E T out H tm hR hE h => by cases h
  | .ret => fun kn kx kr E T out H tm hR hE h => ⟨.ret, E, T, tm, H, rfl, hE, hR, h⟩
  | .refuse .. => fun kn kx kr E T out H tm hR hE h => by cases h

theorem copd_tmp {t : Nat} {g : Tre AV d → AV} (hg : copd gl d n (.tmp t) = some g) {E : Tre AV d} {tm : Tr} (hE : EnvSim d n E tm) : tget tm t = some (g E) := by
  have := rhoE_of (E := E) hg
  rw [rhoE_eq hE] at this
  exact this

theorem cres_ok {E : Tre AV d} {T : TH} {H : AHeap} {tm : Tr} (hR : Rep T H) (hE : EnvSim d n E tm) {out : AV × TH} : ∀ (l : List ResultVar) (G : Tre AV d → TH → (List AV → Res) → Res), cres P gl d n l = some G → ∀ f, G E T f = some out → ∃ vs, aress P tm H l = some vs ∧ f vs = some out
  | [], G, h, f, hf => by simp [cres] at h; subst h; exact ⟨[], rfl, hf⟩
  | .tmp t :: l, G, h, f, hf => by
    simp only [cres] at h
    split at h <;> simp at h
    rename_i g G' hg hG
    subst h
    simp only [frc1_eq] at hf
    obtain ⟨vs, h1, h2⟩ := cres_ok hR hE l G' hG _ hf
    exact ⟨g E :: vs, by simp [aress, copd_tmp hg hE, h1], h2⟩
  | .cell a t :: l, G, h, f, hf => by
    simp only [cres] at h
    split at h <;> simp at h
    · rename_i w g G' hg hG ht
      subst h
      rcases onPtr_some hf with ⟨b, off, e, hf⟩ | ⟨_, _, hf⟩ | hf <;> try (cases hf; done)
      replace hf : onCells (T.get b) _ none = some out := hf
      obtain ⟨fam, sh, cs, ty, e2, hf⟩ := onCells_some hf
      have e2 : T.get b = ⟨true, fam, sh, .cells cs ty⟩ := e2
      obtain ⟨v, h1, hf⟩ := getR_some hf
      obtain ⟨vs, h3, h4⟩ := cres_ok hR hE l G' hG _ hf
      have hH := hR.obj b (by rw [e2])
      rw [e2] at hH
      exact ⟨v :: vs, by simp [aress, copd_tmp hg hE, e, aload, ht, rd, hH, tk_one h1, h3], h4⟩
    · rename_i g G' m hg hG ht hm
      subst h
      rcases onPtr_some hf with ⟨b, off, e, hf⟩ | ⟨_, _, hf⟩ | hf <;> try (cases hf; done)
      replace hf : onCells (T.get b) _ none = some out := hf
      obtain ⟨fam, sh, cs, ty, e2, hf⟩ := onCells_some hf
      have e2 : T.get b = ⟨true, fam, sh, .cells cs ty⟩ := e2
      obtain ⟨v, h1, hf⟩ := tkR_some hf
      rw [dropR_eq] at h1
      obtain ⟨vs, h3, h4⟩ := cres_ok hR hE l G' hG _ hf
      have hH := hR.obj b (by rw [e2])
      rw [e2] at hH
      exact ⟨.agg v :: vs, by simp [aress, copd_tmp hg hE, e, aload, ht, hm, rd, hH, h1, h3], h4⟩

theorem mkArgs_ok (hn : n ≤ 8 ^ d) {f : Tre AV d → Res} {out : AV × TH} : ∀ (args : List AV) (i : Nat) (E : Tre AV d), mkArgs d n args i E f = some out → (args = [] ∨ i + args.length ≤ n) ∧ ∃ E', f E' = some out ∧ ∀ t, t < n → some (teget d t E') = if t < i then some (teget d t E) else match args[t - i]? with | some v => some v | none => some (teget d t E)
  | [], i, E, h => ⟨.inl rfl, E, h, fun t ht => by simp⟩
  | v :: l, i, E, h => by
    obtain ⟨h1, h2⟩ := iff_some (show iff' (Nat.blt i n) (frc1 v fun v => (putB AV Res d i).v v E fun E' => mkArgs d n l (i + 1) E' f) none = some out from h)
    have hi : i < n := by simpa [Nat.blt_eq] using h1
    rw [frc1_eq, putB_eq] at h2
    obtain ⟨h3, E', h4, h5⟩ := mkArgs_ok hn l (i + 1) _ h2
    refine ⟨.inr ?_, E', h4, fun t ht => ?_⟩
    · rcases h3 with rfl | h3
      · simp; omega
      · simp only [List.length_cons]; omega
    · rw [h5 t ht]
      by_cases hlt : t < i
      · rw [if_pos (by omega), if_pos hlt, teget_put d i t v E (by omega) (by omega), if_neg (by omega)]
      · rw [if_neg hlt]
        by_cases e : t = i
        · subst e
          rw [if_pos (by omega), teget_put d t t v E (by omega) (by omega), if_pos rfl]
          simp
        · rw [if_neg (by omega), show t - i = (t - (i + 1)) + 1 from by omega, List.getElem?_cons_succ, teget_put d i t v E (by omega) (by omega), if_neg e]

theorem tdep_lt : ∀ (k m : Nat), m < 2 ^ k → m < 2 ^ tdep k m
  | 0, m, h => by simp [tdep]; simpa using h
  | k + 1, 0, h => by simp [tdep]
  | k + 1, m + 1, h => by
    simp only [tdep]
    have hd : Nat.div (Nat.succ m) 2 = (m + 1) / 2 := rfl
    rw [hd]
    have := tdep_lt k ((m + 1) / 2) (by rw [Nat.pow_succ] at h; omega)
    show m + 1 < 2 ^ (tdep k ((m + 1) / 2) + 1)
    rw [Nat.pow_succ]; omega

theorem env_start {args : List AV} {E : Tre AV d} (hl : args.length ≤ n) (h4 : n ≤ 4096) (h : ∀ t, t < n → some (teget d t E) = match args[t]? with | some v => some v | none => some (.tuple [])) : EnvSim d n E (tmk (tini args n args.length) (tdep 20 n)) := by
  intro t
  by_cases ht : t < n
  · rw [if_pos ht, tmk_get' _ _ _ (by have := tdep_lt 20 n (by omega); omega), h t ht]
    unfold tini
    cases args[t]? with
    | some v => rfl
    | none =>
      have : Nat.blt t n = true := by simpa [Nat.blt_eq] using ht
      simp only [this, if_true]
  · rw [if_neg ht]
    cases hq : tget (tmk (tini args n args.length) (tdep 20 n)) t with
    | none => rfl
    | some u =>
      have := tmk_get _ _ _ _ hq
      unfold tini at this
      have ha : args[t]? = none := List.getElem?_eq_none (by omega)
      have hb : Nat.blt t n = false := by cases hb : Nat.blt t n with | false => rfl | true => exact absurd (by simpa [Nat.blt_eq] using hb) ht
      rw [ha, hb] at this
      simp at this

theorem one1_eq : ∀ l : List AV, one1 l = match l with | [v] => v | vs => .tuple vs
  | [] => rfl
  | [v] => rfl
  | v :: w :: l => rfl

theorem fcomp_ok (hO : OrcSim forc orc) {f : Nat} {run : FOrc → List AV → TH → Res} (hf : fcomp P gl fuel f = some run) {args : List AV} {T T' : TH} {r : AV} {H : AHeap} (hR : Rep T H) (h : run forc args T = some (r, T')) : ∃ H', afunc P gl orc fuel f args H = some (r, H') ∧ Rep T' H' := by
  unfold fcomp at hf
  split at hf <;> try (simp at hf; done)
  rename_i fn hfn
  split at hf <;> try (simp at hf; done)
  rename_i c hc
  rw [frcNR_eq, frcNR_eq] at hf
  obtain ⟨hn1, hf⟩ := iff_some hf
  obtain ⟨hn2, hf⟩ := iff_some hf
  split at hf <;> simp at hf
  rename_i G hG
  subst hf
  have hn := Nat.le_of_ble_eq_true hn1
  have hn4 := Nat.le_of_ble_eq_true hn2
  obtain ⟨hl, E, h1, h2⟩ := mkArgs_ok hn args 0 _ h
  have hl' : args.length ≤ fn.ntmps := by rcases hl with rfl | hl; simp; omega
  have hE := env_start (args := args) (E := E) hl' hn4 fun t ht => by
    rw [h2 t ht, if_neg (by omega), Nat.sub_zero]
    cases args[t]? with
    | some v => rfl
    | none => simp only [teget_same]
  obtain ⟨x, E1, T1, tm1, H1, g1, g2, g3, g4⟩ := fexec_ok hn hO c _ _ _ E T (r, T') H _ hR hE h1
  have hfin : (G E1 T1 fun vs => some (one1 vs, T1)) = some (r, T') → ∃ vs, aress P tm1 H1 fn.results.toList = some vs ∧ one1 vs = r ∧ T1 = T' := by
    intro hg
    obtain ⟨vs, k1, k2⟩ := cres_ok g3 g2 _ _ hG _ hg
    simp at k2
    exact ⟨vs, k1, k2.1, k2.2⟩
  refine ⟨H1, ?_, ?_⟩
  · simp only [afunc, hfn, hc, frcVL_eq, frcH_eq, g1]
    cases x with
    | normal =>
      obtain ⟨vs, k1, k2, _⟩ := hfin g4
      simp only
      rw [k1, ← k2]
      match vs with
      | [] => rfl
      | [v] => rfl
      | v :: w :: l => rfl
    | exit id => cases g4
    | ret =>
      obtain ⟨vs, k1, k2, _⟩ := hfin g4
      simp only
      rw [k1, ← k2]
      match vs with
      | [] => rfl
      | [v] => rfl
      | v :: w :: l => rfl
  · cases x with
    | normal => obtain ⟨vs, _, _, rfl⟩ := hfin g4; exact g3
    | exit id => cases g4
    | ret => obtain ⟨vs, _, _, rfl⟩ := hfin g4; exact g3

/-! calls that are known -/
/-- The calls of l answer true and leave all az it is. -/
def tblO (l : List (Nat × List AV)) : Orc := fun f args H => if memA f args l then some (.bool true, H) else none

theorem frun_ok {tbl : List (Nat × List AV)} : ∀ m, OrcSim (frun P gl tbl fuel m) (runsT P gl (tblO tbl) fuel m)
  | 0 => by intro f args T r T' h; cases h
  | m + 1 => by
    intro f args T r T' h H hR
    rcases iff_some2 (show iff' (memA f args tbl) (some (.bool true, T)) (Option.rec none (fun run => run (frun P gl tbl fuel m) args T) (fcomp P gl fuel f)) = some (r, T') from h) with ⟨h1, h2⟩ | ⟨h1, h2⟩
    · simp at h2
      obtain ⟨rfl, rfl⟩ := h2
      exact ⟨H, by simp [runsT, tblO, h1], hR⟩
    · cases hf : fcomp P gl fuel f with
      | none => rw [hf] at h2; cases h2
      | some run =>
        rw [hf] at h2
        obtain ⟨H', g1, g2⟩ := fcomp_ok (frun_ok m) hf hR h2
        exact ⟨H', by simp [runsT, tblO, h1, g1], g2⟩

theorem tblO_nil : OrcSound P gl (tblO []) := by
  intro f args H r H' h
  simp [tblO, memA] at h

/-- One call more is known: it was handed no memory. -/
theorem tblO_cons {l : List (Nat × List AV)} (hl : OrcSound P gl (tblO l)) {f : Nat} {az : List AV} (hrefs : refsL az [] = []) {orc : Orc} (hO : OrcSound P gl orc) {H1 : AHeap} (h : orc f az [] = some (.bool true, H1)) : OrcSound P gl (tblO ((f, az) :: l)) := by
  intro g args H r H' hg
  simp only [tblO] at hg
  split at hg <;> simp at hg
  obtain ⟨rfl, rfl⟩ := hg
  rename_i hmem
  simp only [memA, Bool.or_eq_true, Bool.and_eq_true] at hmem
  rcases hmem with ⟨hm1, hm2⟩ | hm'
  · have := Nat.eq_of_beq_eq_true hm1; subst this
    have := veqL_eq _ _ hm2; subst this
    intro sn ι W cargs hgl hR ha
    have ha' : LR sn noI args cargs := LR_refs args [] cargs (fun b hb => by rw [hrefs] at hb; simp at hb) ha
    have hR' : R sn noI [] W := ⟨fun b => by simp [noI], fun b p hp => by simp [noI] at hp, fun b o p hb => by simp at hb, fun b b' o o' p p' hb => by simp at hb, fun a v hv => by
      obtain ⟨h1, h2, _⟩ := hR.snap a v hv
      exact ⟨h1, h2, fun b o p hb => by simp at hb⟩, fun b o p hb => by simp at hb⟩
    refine (hO g args [] _ _ h sn noI W cargs hgl hR' ha').mono ?_
    rintro e W' ⟨v, sn', ι', rfl, hv, hs⟩
    have hext : Ext W W' := ⟨fun c hc => hs.frame c hc fun b o p hb => by simp at hb, hs.size, hs.os, hs.tape, hs.output⟩
    refine ⟨v, sn, ι, rfl, ?_, Stp.ext hR hext⟩
    simpa [VR] using hv
  · exact hl g args H (.bool true) H (by simp [tblO, hm'])

/-- What the kernel ran is known. -/
theorem known_cons (hm : P.follows .mixedOrders = true) (hn : NoNum P) {l : List (Nat × List AV)} (hl : OrcSound P gl (tblO l)) {m f : Nat} {az : List AV} (hrefs : refsL az [] = []) {T' : TH} (h : frun P gl l fuel m f az TH.empty = some (.bool true, T')) : OrcSound P gl (tblO ((f, az) :: l)) := by
  obtain ⟨H', h1, _⟩ := frun_ok m f az TH.empty _ T' h [] Rep.empty
  exact tblO_cons hl hrefs (runsT_sound hm hn hl m) h1

/-- Does the run answer true? -/
noncomputable def saysTrue (r : Res) : Bool := Option.rec false (fun p => Prod.rec (fun v _ => onBool v (fun b => b) false) p) r
theorem saysTrue_spec {r : Res} (h : saysTrue r = true) : ∃ T, r = some (.bool true, T) := by
  cases r with
  | none => cases h
  | some p =>
    obtain ⟨v, T⟩ := p
    have h : onBool v (fun b => b) false = true := h
    rcases onBool_cases v (fun b => b) false with ⟨b, rfl, e⟩ | ⟨_, e⟩ <;> rw [e] at h
    · subst h; exact ⟨T, rfl⟩
    · cases h

theorem known_true (hm : P.follows .mixedOrders = true) (hn : NoNum P) {l : List (Nat × List AV)} (hl : OrcSound P gl (tblO l)) {m f : Nat} {az : List AV} (hrefs : refsL az [] = []) (h : saysTrue (frun P gl l fuel m f az TH.empty) = true) : OrcSound P gl (tblO ((f, az) :: l)) := by
  obtain ⟨T', h'⟩ := saysTrue_spec h
  exact known_cons hm hn hl hrefs h'
end ok

end Go.Abs

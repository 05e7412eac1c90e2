/-
  A verified abstract interpreter, part 36: functions that read what they are handed and hand back plain values; steps of a proof.
-/
import Derived.Test.YtajhailaofchlaaDoorAbs35
set_option linter.unusedSimpArgs false
set_option linter.unusedVariables false
namespace Go.Abs
open Go.RowKit

mutual
/-- Nothing in memory hangs on it. -/
def plain : AV → Bool
  | .bool _ => true
  | .int _ _ => true
  | .str _ => true
  | .nptr => true
  | .nslice => true
  | .nmap => true
  | .nfunc => true
  | .niface => true
  | .agg cs => plainL cs
  | .tuple cs => plainL cs
  | .iface _ u => plain u
  | _ => false
def plainL : List AV → Bool
  | [] => true
  | c :: l => plain c && plainL l
end

mutual
theorem plain_VR {sn sn' : Snap} {ι ι' : IMap} : ∀ {u : AV} {v : Value}, plain u = true → VR sn ι u v → VR sn' ι' u v
  | .bool _, v, h, e => by simpa [VR] using e
  | .int _ _, v, h, e => by simpa [VR] using e
  | .str _, v, h, e => by simpa [VR] using e
  | .nptr, v, h, e => by simpa [VR] using e
  | .nslice, v, h, e => by simpa [VR] using e
  | .nmap, v, h, e => by simpa [VR] using e
  | .nfunc, v, h, e => by simpa [VR] using e
  | .niface, v, h, e => by simpa [VR] using e
  | .agg cs, v, h, e => by
    obtain ⟨d, rfl, h1⟩ := e.agg
    exact vr_agg (plainL_LR (by simpa [plain] using h) h1)
  | .tuple cs, v, h, e => by
    obtain ⟨d, rfl, h1⟩ := e.tuple
    exact vr_tuple (plainL_LR (by simpa [plain] using h) h1)
  | .ptr _ _, v, h, e => by simp [plain] at h
  | .rp _, v, h, e => by simp [plain] at h
  | .slice .., v, h, e => by simp [plain] at h
  | .rs .., v, h, e => by simp [plain] at h
  | .map _, v, h, e => by simp [plain] at h
  | .func .., v, h, e => by simp [plain] at h
  | .iface t u, v, h, e => by
    simp only [VR] at e ⊢
    obtain ⟨x, rfl, h1⟩ := e
    exact ⟨x, rfl, plain_VR (by simpa [plain] using h) h1⟩
theorem plainL_LR {sn sn' : Snap} {ι ι' : IMap} : ∀ {l : List AV} {vs : List Value}, plainL l = true → LR sn ι l vs → LR sn' ι' l vs
  | [], vs, h, e => by simpa [LR] using e
  | c :: l, vs, h, e => by
    simp only [plainL, Bool.and_eq_true] at h
    simp only [LR] at e ⊢
    obtain ⟨d, ds, rfl, h1, h2⟩ := e
    exact ⟨d, ds, rfl, plain_VR h.1 h1, plainL_LR h.2 h2⟩
end

/-- An oracle for functions that hand back plain values: they see what they are handed with all that it leads to. -/
def orcZ (F : Nat → List AV → Option AV) : Orc := fun f args H => match frzL (frz H 30) args with
  | some az => match F f az with | some r => some (r, H) | none => none
  | none => none

theorem orcZ_sound {P : Program} {gl : Glob} {F : Nat → List AV → Option AV} (h : ∀ f args r, F f args = some r → plain r = true ∧ ValOK P gl f args r) : OrcSound P gl (orcZ F) := by
  intro f args H r H' hf sn ι W cargs hg hR ha
  unfold orcZ at hf
  split at hf <;> try (simp at hf; done)
  rename_i az has
  split at hf <;> simp at hf
  rename_i r' hr
  obtain ⟨rfl, rfl⟩ := hf
  obtain ⟨h1, h2⟩ := h f az r' hr
  have hle : ∀ a v, sn a = some v → snx sn 0 W a = some v := fun a v hv => by
    unfold snx; rw [if_neg (by omega)]; exact (hR.snap a v hv).2.1
  have hR' : R (snx sn 0 W) noI [] W :=
    ⟨fun b => ⟨fun hb => by simp at hb, fun ⟨p, hp⟩ => by simp [noI] at hp⟩, fun b p hp => by simp [noI] at hp, fun b o p hb => by simp at hb, fun b b' o o' p p' hb => by simp at hb,
      fun a v hv => by
        unfold snx at hv; rw [if_neg (by omega)] at hv
        refine ⟨?_, hv, fun b o p hb => by simp at hb⟩
        cases hq : W.heap[a.block]? with
        | none => unfold World.cell? at hv; rw [hq] at hv; simp at hv
        | some ob => exact (Array.getElem?_eq_some_iff.1 hq).1,
      fun b o p hb => by simp at hb⟩
  have hargs : LR (snx sn 0 W) noI az cargs := frzL_sound (fun u r v => frz_sound hR (fun _ _ _ _ _ _ => Nat.zero_le _) 30 u r v) has ha
  refine (h2 _ W cargs (hg.mono (gl_le hle)) hR' hargs).mono ?_
  rintro e W' ⟨v, rfl, hx, hv⟩
  exact ⟨v, sn, ι, rfl, plain_VR h1 hv, Stp.ext hR hx⟩

/-! steps -/
theorem condT {t : Bool} {A B : Prop} (h : t = true) (a : A) : (t = true → A) ∧ (t = false → B) := ⟨fun _ => a, fun e => (by rw [h] at e; cases e)⟩
theorem condF {t : Bool} {A B : Prop} (h : t = false) (b : B) : (t = true → A) ∧ (t = false → B) := ⟨fun e => (by rw [h] at e; cases e), fun _ => b⟩
theorem condB {t : Bool} {A B : Prop} (a : t = true → A) (b : t = false → B) : (t = true → A) ∧ (t = false → B) := ⟨a, b⟩
theorem exI {α : Type} {o : Option α} {r : α} {K : α → Prop} (h : o = some r) (k : K r) : ∃ r, o = some r ∧ K r := ⟨r, h, k⟩
theorem exW {α : Type} {x n : α} {K : α → Prop} (h : x = n) (k : K n) : ∃ n, x = n ∧ K n := ⟨n, h, k⟩
theorem wrapN {m j : Nat} (h : m + j ≤ 9223372036854775807) : IntKind.i64.wrap ((m : Int) + (j : Int)) = ((m + j : Nat) : Int) := by rw [IntWalk.i64_in _ ⟨by omega, by omega⟩]; omega
theorem wrapN1 {m : Nat} (h : m + 1 ≤ 9223372036854775807) : IntKind.i64.wrap ((m : Int) + 1) = ((m + 1 : Nat) : Int) := by rw [IntWalk.i64_in _ ⟨by omega, by omega⟩]; omega
theorem wrapB {n : Int} (h1 : -9223372036854775808 ≤ n) (h2 : n ≤ 9223372036854775807) : IntKind.i64.wrap n = n := IntWalk.i64_in n ⟨h1, h2⟩
/-- An index, its bound. -/
theorem ixJ {i : Int} {n : Nat} {K : Nat → Prop} (j : Nat) (h1 : i = (j : Int)) (h2 : j < n) (k : K j) : ∃ j : Nat, (i = (j : Int) ∧ j < n) ∧ K j := ⟨j, ⟨h1, h2⟩, k⟩
theorem ixJ' {i : Int} {n : Nat} {K : Nat → Prop} (j : Nat) (h1 : i = (j : Int)) (h2 : j ≤ n) (k : K j) : ∃ j : Nat, (i = (j : Int) ∧ j ≤ n) ∧ K j := ⟨j, ⟨h1, h2⟩, k⟩
/-- A byte of a text. -/
theorem ixS {i : Int} {s : List UInt8} {K : Nat → UInt8 → Prop} (j : Nat) {b : UInt8} (h1 : i = (j : Int)) (h2 : s[j]? = some b) (k : K j b) : ∃ j : Nat, i = (j : Int) ∧ ∃ b, s[j]? = some b ∧ K j b := ⟨j, h1, b, h2, k⟩
theorem bndI {a b c d : Int} {K : Prop} (h1 : a ≤ b) (h2 : c < d) (k : K) : (a ≤ b ∧ c < d) ∧ K := ⟨⟨h1, h2⟩, k⟩
theorem bndI' {a b c d : Int} {K : Prop} (h1 : a ≤ b) (h2 : c ≤ d) (k : K) : (a ≤ b ∧ c ≤ d) ∧ K := ⟨⟨h1, h2⟩, k⟩
theorem eqR {u v : AV} {K : Prop} (h : u = v) (k : K) : u = v ∧ K := ⟨h, k⟩
theorem eqI {α : Type} {a b : α} (h : a = b) : (fun x => x = b) a := h

/-- The numbers of a list of cells. -/
def intsOf : List AV → Option (List Int)
  | [] => some []
  | .int .i64 n :: l => match intsOf l with | some r => some (n :: r) | none => none
  | _ => none
theorem intsOf_map : ∀ l : List Int, intsOf (l.map (AV.int .i64)) = some l
  | [] => rfl
  | n :: l => by simp only [List.map_cons, intsOf, intsOf_map l]
theorem intsOf_some : ∀ {cs : List AV} {l : List Int}, intsOf cs = some l → cs = l.map (AV.int .i64)
  | [], l, h => by simp [intsOf] at h; subst h; rfl
  | c :: cs, l, h => by
    unfold intsOf at h
    split at h <;> try (simp at h; done)
    · rename_i e; simp at e
    · rename_i n l' e
      simp at e; obtain ⟨rfl, rfl⟩ := e
      split at h <;> simp at h
      rename_i r hr
      subst h
      rw [intsOf_some hr]; rfl

/-- Of arguments among which there is a slice: it has az many cells az it must. -/
theorem ValOK.rs {P : Program} {gl : Glob} {f : Nat} {pre post : List AV} {n z : Nat} {cs : List AV} {r : AV} (h : cs.length = n * z → ValOK P gl f (pre ++ .rs n z cs :: post) r) : ValOK P gl f (pre ++ .rs n z cs :: post) r := by
  intro sn W cargs hg hR ha
  have hc : cs.length = n * z := by
    have h1 : (pre ++ .rs n z cs :: post)[pre.length]? = some (.rs n z cs) := by simp
    obtain ⟨v, _, h2⟩ := ha.get h1
    obtain ⟨_, _, _, _, h3, _⟩ := h2.rs
    exact h3
  exact h hc sn W cargs hg hR ha
theorem callZ {P : Program} {F : Nat → List AV → Option AV} {H : AHeap} {g : Nat} {args fa : List AV} {r : AV} (h1 : hasBody P g = true) (h2 : frzL (frz H 30) args = some fa) (h3 : F g fa = some r) : acall P (orcZ F) H g args = some (r, H) := by
  simp only [acall, h1, if_true, orcZ, h2, h3]
end Go.Abs

/-
  A verified abstract interpreter, part 23: operations, laid ahead for the kernel: those that look at values alone.
-/
import Derived.Test.YtgbimoeclgfkfabGreatDoorAbs22
set_option linter.unusedSimpArgs false
set_option linter.unusedVariables false
namespace Go.Abs
open Go.RowKit

/-! forcing, by the recursors themselves -/
noncomputable def frcIR {β : Type} (n : Int) : (Int → β) → β := Int.rec (motive := fun _ => (Int → β) → β) (fun m f => Nat.rec (motive := fun _ => β) (f (.ofNat 0)) (fun m _ => f (.ofNat (Nat.succ m))) m) (fun m f => Nat.rec (motive := fun _ => β) (f (.negSucc 0)) (fun m _ => f (.negSucc (Nat.succ m))) m) n
theorem frcIR_eq {β : Type} (n : Int) (f : Int → β) : frcIR n f = f n := by cases n with | ofNat m => cases m <;> rfl | negSucc m => cases m <;> rfl
noncomputable def frcNR {β : Type} (n : Nat) : (Nat → β) → β := Nat.rec (motive := fun _ => (Nat → β) → β) (fun f => f 0) (fun m _ f => f (Nat.succ m)) n
theorem frcNR_eq {β : Type} (n : Nat) (f : Nat → β) : frcNR n f = f n := by cases n <;> rfl
noncomputable def frcBR {β : Type} (b : Bool) : (Bool → β) → β := Bool.rec (motive := fun _ => (Bool → β) → β) (fun f => f false) (fun f => f true) b
theorem frcBR_eq {β : Type} (b : Bool) (f : Bool → β) : frcBR b f = f b := by cases b <;> rfl
noncomputable def frcSR {β : Type} (s : List UInt8) : (List UInt8 → β) → β := List.rec (motive := fun _ => (List UInt8 → β) → β) (fun f => f []) (fun c _ ih f => ih fun l => f (c :: l)) s
theorem frcSR_eq {β : Type} : ∀ (s : List UInt8) (f : List UInt8 → β), frcSR s f = f s
  | [], f => rfl
  | c :: s, f => by show frcSR s (fun l => f (c :: l)) = _; rw [frcSR_eq s]
noncomputable def frcVR {β : Type} (v : AV) : (AV → β) → β :=
  AV.rec (motive_1 := fun _ => (AV → β) → β) (motive_2 := fun _ => (List AV → β) → β) (fun b f => frcBR b fun b => f (.bool b)) (fun k n f => frcIR n fun n => f (.int k n)) (fun s f => frcSR s fun s => f (.str s)) (fun f => f .nptr)
    (fun b o f => frcNR b fun b => frcNR o fun o => f (.ptr b o)) (fun cs _ f => f (.rp cs)) (fun f => f .nslice)
    (fun b o l c z f => frcNR b fun b => frcNR o fun o => frcNR l fun l => frcNR c fun c => frcNR z fun z => f (.slice b o l c z)) (fun n z cs _ f => frcNR n fun n => f (.rs n z cs)) (fun f => f .nmap) (fun b f => frcNR b fun b => f (.map b))
    (fun fn _ _ iha ihb f => iha fun a => ihb fun b => f (.func fn a b)) (fun f => f .nfunc) (fun t _ ih f => ih fun v => f (.iface t v)) (fun f => f .niface)
    (fun _ ih f => ih fun cs => f (.agg cs)) (fun _ ih f => ih fun vs => f (.tuple vs)) (fun f => f []) (fun _ _ ihv ihl f => ihv fun v => ihl fun l => f (v :: l)) v
/-- The same, by the second half of the recursor. -/
noncomputable def frcVLI {β : Type} (l : List AV) : (List AV → β) → β :=
  AV.rec_1 (motive_1 := fun _ => (AV → β) → β) (motive_2 := fun _ => (List AV → β) → β) (fun b f => frcBR b fun b => f (.bool b)) (fun k n f => frcIR n fun n => f (.int k n)) (fun s f => frcSR s fun s => f (.str s)) (fun f => f .nptr)
    (fun b o f => frcNR b fun b => frcNR o fun o => f (.ptr b o)) (fun cs _ f => f (.rp cs)) (fun f => f .nslice)
    (fun b o l c z f => frcNR b fun b => frcNR o fun o => frcNR l fun l => frcNR c fun c => frcNR z fun z => f (.slice b o l c z)) (fun n z cs _ f => frcNR n fun n => f (.rs n z cs)) (fun f => f .nmap) (fun b f => frcNR b fun b => f (.map b))
    (fun fn _ _ iha ihb f => iha fun a => ihb fun b => f (.func fn a b)) (fun f => f .nfunc) (fun t _ ih f => ih fun v => f (.iface t v)) (fun f => f .niface)
    (fun _ ih f => ih fun cs => f (.agg cs)) (fun _ ih f => ih fun vs => f (.tuple vs)) (fun f => f []) (fun _ _ ihv ihl f => ihv fun v => ihl fun l => f (v :: l)) l
noncomputable def frcVLR {β : Type} (l : List AV) : (List AV → β) → β := List.rec (motive := fun _ => (List AV → β) → β) (fun f => f []) (fun v _ ih f => frcVR v fun v => ih fun l => f (v :: l)) l

mutual
theorem frcVR_eq {β : Type} : ∀ (v : AV) (f : AV → β), frcVR v f = f v
  | .bool b, f => frcBR_eq b _
  | .int k n, f => frcIR_eq n _
  | .str s, f => frcSR_eq s _
  | .nptr, f => rfl
  | .ptr b o, f => by show (frcNR b fun b => frcNR o fun o => f (.ptr b o)) = _; simp only [frcNR_eq]
  | .rp cs, f => rfl
  | .nslice, f => rfl
  | .slice b o l c z, f => by show (frcNR b fun b => frcNR o fun o => frcNR l fun l => frcNR c fun c => frcNR z fun z => f (.slice b o l c z)) = _; simp only [frcNR_eq]
  | .rs n z cs, f => frcNR_eq n _
  | .nmap, f => rfl
  | .map b, f => frcNR_eq b _
  | .func fn a b, f => by show (frcVLI a fun a => frcVLI b fun b => f (.func fn a b)) = _; simp only [frcVLI_eq]
  | .nfunc, f => rfl
  | .iface t v, f => frcVR_eq v _
  | .niface, f => rfl
  | .agg cs, f => frcVLI_eq cs _
  | .tuple vs, f => frcVLI_eq vs _
theorem frcVLI_eq {β : Type} : ∀ (l : List AV) (f : List AV → β), frcVLI l f = f l
  | [], f => rfl
  | v :: l, f => by show (frcVR v fun v => frcVLI l fun l => f (v :: l)) = _; rw [frcVR_eq v]; exact frcVLI_eq l _
end
theorem frcVLR_eq {β : Type} : ∀ (l : List AV) (f : List AV → β), frcVLR l f = f l
  | [], f => rfl
  | v :: l, f => by show (frcVR v fun v => frcVLR l fun l => f (v :: l)) = _; rw [frcVR_eq v]; exact frcVLR_eq l _

/-! operands -/
noncomputable def copd (gl : Glob) (d n : Nat) (x : Operand) : Option (Tre AV d → AV) :=
  match x with
  | .tmp t => iff' (Nat.blt t n) (Bx.rec (fun g => some g) (getB AV d t)) none
  | .const v => match ofV v with | some c => frcVR c fun c => some fun _ => c | none => none
  | .global g => match gl g with | some cs => some fun _ => .rp cs | none => none
  | .func f => some fun _ => .func (.func f) [] []

noncomputable def rhoE (gl : Glob) (d n : Nat) (E : Tre AV d) (x : Operand) : Option AV := match copd gl d n x with | some g => some (g E) | none => none

theorem frcT_eq' {β : Type} (v : AV) (f : AV → β) : frcT v f = f v := by
  unfold frcT; split <;> simp [frcS_eq, frcV_eq]

theorem rhoE_of {gl : Glob} {d n : Nat} {E : Tre AV d} {x : Operand} {g : Tre AV d → AV} (h : copd gl d n x = some g) : rhoE gl d n E x = some (g E) := by
  simp [rhoE, h]

/-- What the tree of eight holds, the other holds. -/
def EnvSim (d n : Nat) (E : Tre AV d) (tm : Tr) : Prop := ∀ t, tget tm t = if t < n then some (teget d t E) else none

theorem rhoE_eq {gl : Glob} {d n : Nat} {E : Tre AV d} {tm : Tr} (h : EnvSim d n E tm) : rhoE gl d n E = aeval gl tm := by
  funext x
  unfold rhoE copd aeval
  cases x with
  | tmp t =>
    simp only [h t, iff'_eq]
    by_cases ht : t < n
    · have hb : Nat.blt t n = true := by simpa [Nat.blt_eq] using ht
      rw [if_pos hb, if_pos ht]
      show some ((getB AV d t).v E) = _
      rw [getB_eq]
    · have hb : ¬ Nat.blt t n = true := by simpa [Nat.blt_eq] using ht
      rw [if_neg hb, if_neg ht]
  | const v => cases hv : ofV v <;> simp [frcVR_eq, hv]
  | global g => cases hg : gl g <;> simp [hg]
  | func f => rfl

/-! operations -/
abbrev OpF (d : Nat) := FOrc → Tre AV d → TH → Knt → Res

/-- The quick operation does as the other. -/
def OpOK (P : Program) (gl : Glob) (d n : Nat) (o : Oper) (F : OpF d) : Prop :=
  ∀ forc orc E T k out H, OrcSim forc orc → Rep T H → F forc E T k = some out → ∃ r T' H', aop P orc (rhoE gl d n E) o H = some (r, H') ∧ Rep T' H' ∧ k r T' = some out

section ok
variable {P : Program} {gl : Glob} {d n : Nat} {orc : Orc} {ρ : Operand → Option AV} {H : AHeap} {o : Oper}

theorem callee_none {c : Call} {b : Builtin} (h : c.callee = .builtin b) : callee ρ c = none := by simp [callee, h]

theorem aop_low (h : kind o < 3) : aop P orc ρ o H = (match apure' P ρ H o with | some r => some (r, H) | none => aeff P ρ H o) := by
  have hc : ∀ c, o.op = .call c → callee ρ c = none := by
    intro c ho
    unfold kind at h
    simp only [ho] at h
    cases hc : c.callee with
    | builtin b => exact callee_none hc
    | value f => simp [hc] at h
    | invoke r m => simp [hc] at h
  unfold aop
  split
  · rename_i g args hx
    split at hx
    · rename_i c ho; rw [hc c ho] at hx; cases hx
    · cases hx
  · rfl

theorem aop_pure (hk : kind o < 3) {r : AV} (h : apure' P ρ H o = some r) : aop P orc ρ o H = some (r, H) := by
  rw [aop_low hk, h]

theorem aop_new (hk : kind o = 2) {mk : Nat → AV} {body : ABody} (h : aallocF P ρ o = some (mk, body)) : aop P orc ρ o H = some (mk H.length, H ++ [⟨true, H.length, 0, body⟩]) := by
  rw [aop_low (by omega)]
  have hp : apure' P ρ H o = none := by
    unfold kind at hk
    unfold apure' apure
    cases ho : o.op with
    | call c =>
      simp only [ho] at hk ⊢
      cases hc : c.callee with
      | builtin b => cases b <;> simp [hc] at hk
      | value f => simp [hc] at hk
      | invoke r m => simp [hc] at hk
    | _ => simp [ho] at hk ⊢
  simp only [hp]
  unfold aallocF at h
  unfold aeff
  cases ho : o.op with
  | alloc e =>
    simp only [ho] at h ⊢
    split at h <;> simp at h
    rename_i z hz
    obtain ⟨rfl, rfl⟩ := h
    simp [aAlloc, hz, newBlk]
  | box e x =>
    simp only [ho] at h ⊢
    split at h <;> simp at h
    rename_i z hz
    obtain ⟨rfl, rfl⟩ := h
    simp [hz, aBox, newBlk]
  | buildSlice t len ps =>
    simp only [ho] at h ⊢
    split at h <;> try (simp at h; done)
    rename_i us hus
    split at h <;> simp at h
    rename_i cs e z hz
    obtain ⟨rfl, rfl⟩ := h
    simp [hus, aBuildSlice, hz, newBlk]
  | makeSlice t l c =>
    simp only [ho] at h ⊢
    split at h <;> try (simp at h; done)
    rename_i a b ha hb
    split at h <;> simp at h
    rename_i zs e z ln cp hz
    obtain ⟨rfl, rfl⟩ := h
    simp [ha, hb, aMakeSlice, hz, newBlk]
  | makeMap t r =>
    cases r with
    | none =>
      simp only [ho] at h ⊢
      simp at h
      obtain ⟨rfl, rfl⟩ := h
      simp
    | some x => simp [ho] at h
  | _ => simp [ho] at h

/-- Slow, by the elder road: what looks at values alone. -/
noncomputable def slowP (P : Program) (gl : Glob) (d n : Nat) (o : Oper) : OpF d := fun _ E T k => match apure' P (rhoE gl d n E) [] o with | some r => frcVR r fun r => k r T | none => none

theorem apure_cnv {src dst : TypeId} {x : Operand} (ho : o.op = .convert src dst x) {r : AV} (h : apure' P ρ [] o = some r) : apure' P ρ H o = some r := by
  unfold apure' at h ⊢
  simp only [ho] at h ⊢
  split at h
  · rename_i b off len cap z hx
    split at h
    · simp [aConvR] at h
    · cases h
  · simpa only [apure, ho] using h
theorem slowC_ok {src dst : TypeId} {x : Operand} (ho : o.op = .convert src dst x) : OpOK P gl d n o (slowP P gl d n o) := by
  intro forc orc E T k out H hO hR h
  unfold slowP at h
  split at h <;> try (simp at h; done)
  rename_i r hr
  rw [frcVR_eq] at h
  exact ⟨r, T, H, aop_pure (by simp [kind, ho]) (apure_cnv ho hr), hR, h⟩
theorem slowP_ok (hk : kind o = 0) : OpOK P gl d n o (slowP P gl d n o) := by
  intro forc orc E T k out H hO hR h
  unfold slowP at h
  split at h <;> try (simp at h; done)
  rename_i r hr
  rw [frcVR_eq] at h
  exact ⟨r, T, H, aop_pure (by omega) (by rw [← pure0 hk [] H]; exact hr), hR, h⟩
end ok


/-! numbers -/
noncomputable def kix (k : IntKind) : Nat := IntKind.rec 0 1 2 3 4 5 6 7 k
theorem kix_inj {k k' : IntKind} (h : Nat.beq (kix k) (kix k') = true) : k = k' := by
  cases k <;> cases k' <;> first | rfl | (exact absurd (show Nat.beq (kix _) (kix _) = false from rfl) (by rw [h]; simp))

/-- The greatest number of a kind. -/
noncomputable def kmx (k : IntKind) : Nat := IntKind.rec 127 32767 2147483647 9223372036854775807 255 65535 4294967295 18446744073709551615 k

theorem kmx_wrap {k : IntKind} {s : Nat} (h : s ≤ kmx k) : k.wrap (s : Int) = s := by
  cases k with
  | i8 => exact IntWalk.i8_in _ (by have : s ≤ 127 := h; omega)
  | i16 => exact IntWalk.i16_in _ (by have : s ≤ 32767 := h; omega)
  | i32 => exact IntWalk.i32_in _ (by have : s ≤ 2147483647 := h; omega)
  | i64 => exact IntWalk.i64_in _ (by have : s ≤ 9223372036854775807 := h; omega)
  | u8 => exact IntWalk.u8_in _ (by have : s ≤ 255 := h; omega)
  | u16 => exact IntWalk.u16_in _ (by have : s ≤ 65535 := h; omega)
  | u32 => exact IntWalk.u32_in _ (by have : s ≤ 4294967295 := h; omega)
  | u64 => exact IntWalk.u64_in _ (by have : s ≤ 18446744073709551615 := h; omega)

abbrev BinF := AV → AV → (AV → Res) → Res → Res
/-- A quick road of an operator: it comes to what the operator comes to, or takes the slow one. -/
def BinOK (P : Program) (op : BinOp) (t : TypeId) (F : BinF) : Prop := ∀ x y k dd out, F x y k dd = some out → (∃ r, aBin P op t x y = some r ∧ k r = some out) ∨ dd = some out

noncomputable def cmpF (c : Nat → Nat → Bool) : BinF := fun x y k dd =>
  onNat x (fun kx a => onNat y (fun ky b => iff' (Nat.beq (kix kx) (kix ky)) (iff' (c a b) (k (.bool true)) (k (.bool false))) dd) dd) dd

theorem cmpF_ok {P : Program} {op : BinOp} {t : TypeId} {c : Nat → Nat → Bool} (h1 : op ≠ .shl) (h2 : op ≠ .shr) (hc : ∀ k (a b : Nat), aBinInt op k (a : Int) (b : Int) = some (.bool (c a b))) : BinOK P op t (cmpF c) := by
  intro x y k dd out h
  unfold cmpF at h
  rcases onNat_cases x (fun kx a => onNat y (fun ky b => iff' (Nat.beq (kix kx) (kix ky)) (iff' (c a b) (k (.bool true)) (k (.bool false))) dd) dd) dd with ⟨kx, a, rfl, e⟩ | e
  · rw [e] at h
    rcases onNat_cases y (fun ky b => iff' (Nat.beq (kix kx) (kix ky)) (iff' (c a b) (k (.bool true)) (k (.bool false))) dd) dd with ⟨ky, b, rfl, e'⟩ | e'
    · rw [e', iff'_eq] at h
      split at h
      · rename_i hk
        have := kix_inj hk; subst this
        refine .inl ⟨.bool (c a b), ?_, ?_⟩
        · have := hc kx a b
          cases op <;> first | exact (h1 rfl).elim | exact (h2 rfl).elim | simpa [aBin] using this
        · rw [iff'_eq] at h; cases hcab : c a b <;> simpa [hcab] using h
      · exact .inr h
    · rw [e'] at h; exact .inr h
  · rw [e] at h; exact .inr h

noncomputable def ariF (f : Nat → Nat → Nat) (g : Nat → Nat → Bool) : BinF := fun x y k dd =>
  onNat x (fun kx a => onNat y (fun ky b => iff' (Nat.beq (kix kx) (kix ky)) (iff' (g a b) (iff' (Nat.ble (f a b) (kmx kx)) (frcN (f a b) fun s => k (.int kx (.ofNat s))) dd) dd) dd) dd) dd

theorem frcN_eq' {β : Type} (m : Nat) (f : Nat → β) : frcN m f = f m := by cases m <;> rfl

theorem ariF_ok {P : Program} {op : BinOp} {t : TypeId} {f : Nat → Nat → Nat} {g : Nat → Nat → Bool} (h1 : op ≠ .shl) (h2 : op ≠ .shr)
    (hc : ∀ k (a b : Nat), g a b = true → aBinInt op k (a : Int) (b : Int) = some (.int k (k.wrap (f a b : Nat)))) : BinOK P op t (ariF f g) := by
  intro x y k dd out h
  unfold ariF at h
  rcases onNat_cases x (fun kx a => onNat y (fun ky b => iff' (Nat.beq (kix kx) (kix ky)) (iff' (g a b) (iff' (Nat.ble (f a b) (kmx kx)) (frcN (f a b) fun s => k (.int kx (.ofNat s))) dd) dd) dd) dd) dd with ⟨kx, a, rfl, e⟩ | e
  · rw [e] at h
    rcases onNat_cases y (fun ky b => iff' (Nat.beq (kix kx) (kix ky)) (iff' (g a b) (iff' (Nat.ble (f a b) (kmx kx)) (frcN (f a b) fun s => k (.int kx (.ofNat s))) dd) dd) dd) dd with ⟨ky, b, rfl, e'⟩ | e'
    · rw [e', iff'_eq] at h
      split at h
      · rename_i hk
        have := kix_inj hk; subst this
        rw [iff'_eq] at h
        split at h
        · rename_i hg
          rw [iff'_eq] at h
          split at h
          · rename_i hle
            rw [frcN_eq'] at h
            refine .inl ⟨_, ?_, h⟩
            have := hc kx a b hg
            rw [kmx_wrap (Nat.le_of_ble_eq_true hle)] at this
            cases op <;> first | exact (h1 rfl).elim | exact (h2 rfl).elim | simpa [aBin] using this
          · exact .inr h
        · exact .inr h
      · exact .inr h
    · rw [e'] at h; exact .inr h
  · rw [e] at h; exact .inr h

/-- Equal or not: numbers, else texts. -/
noncomputable def eqF (want : Bool) : BinF := fun x y k dd =>
  cmpF (fun a b => iff' (Nat.beq a b) want (!want)) x y k (onStr x (fun s => onStr y (fun s' => iff' (eqS s s') (k (.bool want)) (k (.bool (!want)))) dd) dd)

theorem eqF_ok {P : Program} {op : BinOp} {t : TypeId} {want : Bool} (hop : (op = .eql ∧ want = true) ∨ (op = .neq ∧ want = false)) : BinOK P op t (eqF want) := by
  intro x y k dd out h
  have hci : ∀ k (a b : Nat), aBinInt op k (a : Int) (b : Int) = some (.bool (iff' (Nat.beq a b) want (!want))) := by
    intro k a b
    have hab : Nat.beq a b = decide ((a : Int) = (b : Int)) := by
      by_cases e : a = b
      · subst e; simp
      · have : ¬ ((a : Int) = b) := by omega
        have h3 : Nat.beq a b = false := by cases hq : Nat.beq a b with | false => rfl | true => exact absurd (Nat.eq_of_beq_eq_true hq) e
        rw [h3]; simp [this]
    rcases hop with ⟨rfl, rfl⟩ | ⟨rfl, rfl⟩
    · simp only [aBinInt, iff'_eq, hab]; by_cases e : (a : Int) = b <;> simp [e]
    · simp only [aBinInt, iff'_eq, hab]; by_cases e : (a : Int) = b <;> simp [e]
  rcases cmpF_ok (P := P) (t := t) (by rcases hop with ⟨rfl, _⟩ | ⟨rfl, _⟩ <;> simp) (by rcases hop with ⟨rfl, _⟩ | ⟨rfl, _⟩ <;> simp) hci x y k _ out h with h1 | h1
  · exact .inl h1
  · rcases onStr_cases x (fun s => onStr y (fun s' => iff' (eqS s s') (k (.bool want)) (k (.bool (!want)))) dd) dd with ⟨s, rfl, e⟩ | e
    · rw [e] at h1
      rcases onStr_cases y (fun s' => iff' (eqS s s') (k (.bool want)) (k (.bool (!want)))) dd with ⟨s', rfl, e'⟩ | e'
      · rw [e', iff'_eq, eqS_eq] at h1
        rcases hop with ⟨rfl, rfl⟩ | ⟨rfl, rfl⟩
        · refine .inl ⟨.bool (s == s'), by simp [aBin, aBinStr], ?_⟩
          cases hs : (s == s') <;> simpa [hs] using h1
        · refine .inl ⟨.bool !(s == s'), by simp [aBin, aBinStr], ?_⟩
          cases hs : (s == s') <;> simpa [hs] using h1
      · rw [e'] at h1; exact .inr h1
    · rw [e] at h1; exact .inr h1

noncomputable def binF (op : BinOp) : Option BinF :=
  match op with
  | .add => some (ariF (fun a b => Nat.add a b) (fun _ _ => true))
  | .sub => some (ariF (fun a b => Nat.sub a b) (fun a b => Nat.ble b a))
  | .mul => some (ariF (fun a b => Nat.mul a b) (fun _ _ => true))
  | .eql => some (eqF true)
  | .neq => some (eqF false)
  | .lss => some (cmpF fun a b => Nat.blt a b)
  | .leq => some (cmpF fun a b => Nat.ble a b)
  | .gtr => some (cmpF fun a b => Nat.blt b a)
  | .geq => some (cmpF fun a b => Nat.ble b a)
  | _ => none

theorem binF_ok {P : Program} {op : BinOp} {t : TypeId} {F : BinF} (h : binF op = some F) : BinOK P op t F := by
  unfold binF at h
  cases op <;> simp at h <;> subst h
  · exact ariF_ok (by simp) (by simp) fun k a b _ => by simp only [aBinInt]; rfl
  · refine ariF_ok (by simp) (by simp) fun k a b hg => ?_
    have := Nat.le_of_ble_eq_true hg
    simp only [aBinInt]
    have e : ((a : Int) - (b : Int)) = ((Nat.sub a b : Nat) : Int) := by show _ = ((a - b : Nat) : Int); omega
    rw [e]; rfl
  · exact ariF_ok (by simp) (by simp) fun k a b _ => by simp only [aBinInt]; rfl
  · exact eqF_ok (.inl ⟨rfl, rfl⟩)
  · exact eqF_ok (.inr ⟨rfl, rfl⟩)
  · refine cmpF_ok (by simp) (by simp) fun k a b => ?_
    simp only [aBinInt]; congr 2
    by_cases e : a < b
    · have h2 : Nat.blt a b = true := by simpa [Nat.blt_eq] using e
      rw [h2]; simp [e]
    · have h2 : Nat.blt a b = false := by cases hq : Nat.blt a b with | false => rfl | true => exact absurd (by simpa [Nat.blt_eq] using hq) e
      rw [h2]; simp [e]
  · refine cmpF_ok (by simp) (by simp) fun k a b => ?_
    simp only [aBinInt]; congr 2
    by_cases e : a ≤ b
    · have h2 : Nat.ble a b = true := Nat.ble_eq_true_of_le e
      rw [h2]; simp [e]
    · have h2 : Nat.ble a b = false := by cases hq : Nat.ble a b with | false => rfl | true => exact absurd (Nat.le_of_ble_eq_true hq) e
      rw [h2]; simp [e]
  · refine cmpF_ok (by simp) (by simp) fun k a b => ?_
    simp only [aBinInt]; congr 2
    by_cases e : b < a
    · have h2 : Nat.blt b a = true := by simpa [Nat.blt_eq] using e
      rw [h2]; simp [e]
    · have h2 : Nat.blt b a = false := by cases hq : Nat.blt b a with | false => rfl | true => exact absurd (by simpa [Nat.blt_eq] using hq) e
      rw [h2]; simp [e]
  · refine cmpF_ok (by simp) (by simp) fun k a b => ?_
    simp only [aBinInt]; congr 2
    by_cases e : b ≤ a
    · have h2 : Nat.ble b a = true := Nat.ble_eq_true_of_le e
      rw [h2]; simp [e]
    · have h2 : Nat.ble b a = false := by cases hq : Nat.ble b a with | false => rfl | true => exact absurd (Nat.le_of_ble_eq_true hq) e
      rw [h2]; simp [e]

end Go.Abs

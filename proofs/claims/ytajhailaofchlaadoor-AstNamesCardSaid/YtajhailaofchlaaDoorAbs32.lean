/-
  A verified abstract interpreter, part 32: operations on values that are not all known: what is asked stands as a proposition, and what comes behind goes on from there.
-/
import Derived.Test.YtajhailaofchlaaDoorAbs31
set_option linter.unusedSimpArgs false
set_option linter.unusedVariables false
namespace Go.Abs
open Go.RowKit

def onO {α : Type} (o : Option α) (k : α → Prop) : Prop := match o with | some v => k v | none => False
theorem onO_some {α : Type} {o : Option α} {k : α → Prop} (h : onO o k) : ∃ v, o = some v ∧ k v := by
  cases o with
  | none => exact h.elim
  | some v => exact ⟨v, rfl, h⟩

section W
variable (P : Program)

def rdW (H : AHeap) (a : AV) (n : Nat) (k : List AV → Prop) : Prop :=
  match a with
  | .ptr b off => onO H[b]? fun o => match o.alive, o.body with
    | true, .cells cs _ => ∃ r, tk n (cs.drop off) = some r ∧ k r
    | _, _ => False
  | .rp cs => ∃ r, tk n cs = some r ∧ k r
  | _ => False

theorem rdW_ok {H : AHeap} {a : AV} {n : Nat} {k : List AV → Prop} (h : rdW H a n k) : ∃ r, rd H a n = some r ∧ k r := by
  unfold rdW at h
  unfold rd
  split at h
  · rename_i b off
    obtain ⟨o, ho, h⟩ := onO_some h
    simp only [ho]
    split at h
    · rename_i e1 e2; simp only [e1, e2]; exact h
    · exact h.elim
  · exact h
  · exact h.elim

def loadW (t : TypeId) (a : AV) (H : AHeap) (k : AV → Prop) : Prop :=
  match tagg P t with
  | some true => onO (tsz P t) fun n => rdW H a n fun cs => k (.agg cs)
  | some false => rdW H a 1 fun cs => match cs with | [c] => frc1 c k | _ => False
  | none => False

theorem loadW_ok {t : TypeId} {a : AV} {H : AHeap} {k : AV → Prop} (h : loadW P t a H k) : ∃ r, aload P t a H = some r ∧ k r := by
  unfold loadW at h
  unfold aload
  split at h
  · rename_i e
    obtain ⟨n, hn, h⟩ := onO_some h
    obtain ⟨cs, h1, h2⟩ := rdW_ok h
    simp only [e, hn, h1]; exact ⟨_, rfl, h2⟩
  · rename_i e
    obtain ⟨cs, h1, h2⟩ := rdW_ok h
    simp only [e, h1]
    split at h2
    · rw [frc1_eq] at h2; exact ⟨_, rfl, h2⟩
    · exact h2.elim
  · exact h.elim

/-- Are they the same? All fields are asked. -/
def eqFsB (e : TypeId → AV → AV → Option Bool) (P : Program) : List (TypeId × Nat) → List AV → List AV → Option Bool
  | [], _, _ => some true
  | (t, off) :: fs, xs, ys =>
    match apart P t xs off, apart P t ys off with
    | some a, some b => match e t a b, eqFsB e P fs xs ys with
      | some x, some y => some (x && y)
      | _, _ => none
    | _, _ => none

def eqB (P : Program) : Nat → TypeId → AV → AV → Option Bool
  | 0, _, _, _ => none
  | d + 1, t, x, y =>
    match x, y with
    | .agg xs, .agg ys => match fieldsEq P t with | some fs => eqFsB (eqB P d) P fs xs ys | none => none
    | x, y => aEq P (d + 1) t x y

theorem eqFsB_ok {e e' : TypeId → AV → AV → Option Bool} (he : ∀ t x y b, e t x y = some b → e' t x y = some b) : ∀ (fs : List (TypeId × Nat)) (xs ys : List AV) (b : Bool), eqFsB e P fs xs ys = some b → eqFs e' P fs xs ys = some b
  | [], xs, ys, b, h => h
  | (t, off) :: fs, xs, ys, b, h => by
    simp only [eqFsB] at h
    simp only [eqFs]
    split at h <;> try (simp at h; done)
    rename_i a c ha hc
    split at h <;> simp at h
    rename_i x y hx hy
    simp only [ha, hc, he _ _ _ _ hx]
    cases x with
    | true => simp at h; subst h; exact eqFsB_ok he fs xs ys _ hy
    | false => simp at h; subst h; rfl

theorem eqB_ok : ∀ (d : Nat) (t : TypeId) (x y : AV) (b : Bool), eqB P d t x y = some b → aEq P d t x y = some b
  | 0, t, x, y, b, h => by simp [eqB] at h
  | d + 1, t, x, y, b, h => by
    unfold eqB at h
    split at h
    · split at h <;> try (simp at h; done)
      rename_i fs hfs
      simp only [aEq, hfs]
      exact eqFsB_ok P (fun t x y b h => eqB_ok d t x y b h) fs _ _ b h
    · exact h

/-- Are two structs the same? -/
def aggEq (P : Program) (t : TypeId) (a b : List AV) : Option Bool := if P.eqGuardType P.depth t then none else eqB P 10000 t (.agg a) (.agg b)
def binW (op : BinOp) (t : TypeId) (c : Bool) (u v : AV) (k : AV → Prop) : Prop :=
  match u, v with
  | .int kx a, .int ky b => match op with
    | .quo => if kx = ky then b ≠ 0 ∧ k (.int kx (kx.wrap (a.tdiv b))) else False
    | .rem => if kx = ky then b ≠ 0 ∧ k (.int kx (a.tmod b)) else False
    | .add => if kx = ky then ∃ n, kx.wrap (a + b) = n ∧ k (.int kx n) else False
    | .sub => if kx = ky then ∃ n, kx.wrap (a - b) = n ∧ k (.int kx n) else False
    | .mul => if kx = ky then ∃ n, kx.wrap (a * b) = n ∧ k (.int kx n) else False
    | .shl => 0 ≤ b ∧ k (.int kx (kx.wrap (a * 2 ^ (min b.toNat kx.bits))))
    | .shr => 0 ≤ b ∧ k (.int kx (a.fdiv (2 ^ (min b.toNat kx.bits))))
    | op => if kx = ky then onO (aBinInt op kx a b) k else False
  | .str a, .str b => match op with
    | .add => a.length + b.length ≤ 9223372036854775807 ∧ k (.str (a ++ b))
    | op => onO (aBinStr op a b) k
  | .agg a, .agg b => match op with
    | .eql => ∃ r, aggEq P t a b = some r ∧ k (.bool r)
    | .neq => ∃ r, aggEq P t a b = some r ∧ k (.bool !r)
    | _ => False
  | u, v => onO (aBin2 P op t c u v) k

theorem binW_ok {op : BinOp} {t : TypeId} {c : Bool} {u v : AV} {k : AV → Prop} (h : binW P op t c u v k) : ∃ r, aBin2 P op t c u v = some r ∧ k r := by
  unfold binW at h
  split at h
  · rename_i kx a ky b
    split at h
    · split at h
      · rename_i e; subst e; exact ⟨_, by simp [aBin2, aBin, aBinInt, h.1], h.2⟩
      · exact h.elim
    · split at h
      · rename_i e; subst e; exact ⟨_, by simp [aBin2, aBin, aBinInt, h.1], h.2⟩
      · exact h.elim
    · split at h
      · rename_i e; subst e; obtain ⟨n, rfl, h⟩ := h; exact ⟨_, by simp [aBin2, aBin, aBinInt], h⟩
      · exact h.elim
    · split at h
      · rename_i e; subst e; obtain ⟨n, rfl, h⟩ := h; exact ⟨_, by simp [aBin2, aBin, aBinInt], h⟩
      · exact h.elim
    · split at h
      · rename_i e; subst e; obtain ⟨n, rfl, h⟩ := h; exact ⟨_, by simp [aBin2, aBin, aBinInt], h⟩
      · exact h.elim
    · exact ⟨_, by simp only [aBin2, aBin]; rw [if_neg (by omega)], h.2⟩
    · exact ⟨_, by simp only [aBin2, aBin]; rw [if_neg (by omega)], h.2⟩
    · rename_i o1 o2 o5 o6 o7 o3 o4
      split at h
      · rename_i e; subst e
        obtain ⟨r, h1, h2⟩ := onO_some h
        refine ⟨r, ?_, h2⟩
        simp only [aBin2, aBin]
        cases op with
        | shl => exact (o3 rfl).elim
        | shr => exact (o4 rfl).elim
        | _ => simpa using h1
      · exact h.elim
  · split at h
    · exact ⟨_, by simp [aBin2, aBin, aBinStr, h.1], h.2⟩
    · obtain ⟨r, h1, h2⟩ := onO_some h
      exact ⟨r, by simp only [aBin2, aBin]; exact h1, h2⟩
  · have key : ∀ {x y : List AV} {r : Bool}, aggEq P t x y = some r → ¬ P.eqGuardType P.depth t = true ∧ aEq P 10000 t (.agg x) (.agg y) = some r := by
      intro x y r h1
      unfold aggEq at h1
      split at h1
      · cases h1
      · rename_i hg; exact ⟨hg, eqB_ok P _ _ _ _ _ h1⟩
    split at h
    · obtain ⟨r, h1, h2⟩ := h
      exact ⟨_, by simp only [aBin2, aBin]; rw [if_neg (key h1).1, (key h1).2], h2⟩
    · obtain ⟨r, h1, h2⟩ := h
      exact ⟨_, by simp only [aBin2, aBin]; rw [if_neg (key h1).1, (key h1).2], h2⟩
    · exact h.elim
  · exact onO_some h

def ixaW (t : TypeId) (x i : AV) (k : AV → Prop) : Prop :=
  match i with
  | .int _ i => match P.underlying t with
    | some (.slice e) => onO (tsz P e) fun z' => match x with
      | .slice b off len _ z => ∃ j : Nat, (i = (j : Int) ∧ j < len) ∧ (if z' = z then k (.ptr b (off + j * z)) else False)
      | .rs n z cs => ∃ j : Nat, (i = (j : Int) ∧ j < n) ∧ (if z' = z then k (.rp (cs.drop (j * z))) else False)
      | _ => False
    | some (.array n e) => onO (tsz P e) fun z => ∃ j : Nat, (i = (j : Int) ∧ j < n) ∧ (match x with
      | .ptr b off => k (.ptr b (off + j * z))
      | .rp cs => k (.rp (cs.drop (j * z)))
      | _ => False)
    | _ => False
  | _ => False

theorem ixaW_ok {t : TypeId} {x i : AV} {k : AV → Prop} (h : ixaW P t x i k) : ∃ r, aIndexAddr P t x i = some r ∧ k r := by
  unfold ixaW at h
  unfold aIndexAddr
  split at h
  · split at h
    · rename_i e
      obtain ⟨z', hz, h1⟩ := onO_some h
      clear h
      simp only [e, hz]
      split at h1
      · obtain ⟨j, ⟨ej, hb⟩, h2⟩ := h1
        subst ej
        simp only
        rw [if_pos (by omega), Int.toNat_natCast]
        split at h2
        · rename_i hq; rw [if_pos hq]; exact ⟨_, rfl, h2⟩
        · exact h2.elim
      · obtain ⟨j, ⟨ej, hb⟩, h2⟩ := h1
        subst ej
        simp only
        rw [if_pos (by omega), Int.toNat_natCast]
        split at h2
        · rename_i hq; rw [if_pos hq]; exact ⟨_, rfl, h2⟩
        · exact h2.elim
      · exact h1.elim
    · rename_i e
      obtain ⟨z', hz, h1⟩ := onO_some h
      clear h
      simp only [e, hz]
      obtain ⟨j, ⟨ej, hb⟩, h2⟩ := h1
      subst ej
      rw [if_pos (by omega), Int.toNat_natCast]
      split at h2
      · exact ⟨_, rfl, h2⟩
      · exact ⟨_, rfl, h2⟩
      · exact h2.elim
    · exact h.elim
  · exact h.elim

def ixW (t : TypeId) (x i : AV) (k : AV → Prop) : Prop :=
  match i with
  | .int _ i => match x with
    | .str s => match P.underlying t with
      | some .string => ∃ j : Nat, i = (j : Int) ∧ ∃ b, s[j]? = some b ∧ k (.int .u8 b.toNat)
      | _ => False
    | .agg cs => match P.underlying t with
      | some (.array n e) => onO (tsz P e) fun z => (0 ≤ i ∧ i < (n : Int)) ∧ ∃ r, apart P e cs (i.toNat * z) = some r ∧ k r
      | _ => False
    | _ => False
  | _ => False

theorem ixW_ok {t : TypeId} {x i : AV} {k : AV → Prop} (h : ixW P t x i k) : ∃ r, aIndex P t x i = some r ∧ k r := by
  unfold ixW at h
  unfold aIndex
  split at h
  · split at h
    · split at h
      · rename_i e
        obtain ⟨j, rfl, b, h2, h3⟩ := h
        simp only [e]
        rw [if_pos (by omega), Int.toNat_natCast, h2]; exact ⟨_, rfl, h3⟩
      · exact h.elim
    · split at h
      · rename_i e
        obtain ⟨z, hz, hb, r, h1, h2⟩ := onO_some h
        simp only [e, hz]
        rw [if_pos hb]; exact ⟨r, h1, h2⟩
      · exact h.elim
    · exact h.elim
  · exact h.elim

def bndW (x : Option AV) (dflt top : Nat) (k : Nat → Prop) : Prop :=
  match x with
  | none => k dflt
  | some (.int _ i) => ∃ j : Nat, (i = (j : Int) ∧ j ≤ top) ∧ k j
  | _ => False

theorem bndW_ok {x : Option AV} {d top : Nat} {k : Nat → Prop} (h : bndW x d top k) : ∃ n, bnd x d top = some n ∧ k n := by
  unfold bndW at h
  unfold bnd
  split at h
  · exact ⟨_, rfl, h⟩
  · obtain ⟨j, ⟨rfl, hb⟩, h⟩ := h
    simp only; rw [if_pos (by omega), Int.toNat_natCast]; exact ⟨_, rfl, h⟩
  · exact h.elim

def sliceW (t : TypeId) (x : AV) (lo hi : Option AV) (k : AV → Prop) : Prop :=
  match x with
  | .str s => match P.underlying t with
    | some .string => match lo, hi with
      | none, none => k (.str s)
      | some lo, none => bndW (some lo) 0 s.length fun l => k (.str (s.drop l))
      | none, some hi => bndW (some hi) s.length s.length fun h => k (.str (s.take h))
      | some lo, some hi => bndW (some hi) s.length s.length fun h => bndW (some lo) 0 h fun l => k (.str ((s.drop l).take (h - l)))
    | _ => False
  | .slice b off len cap z => match P.underlying t with
    | some (.slice e) => onO (tsz P e) fun z' => if z' = z then bndW hi len cap fun h => bndW lo 0 h fun l => k (.slice b (off + l * z) (h - l) (cap - l) z) else False
    | _ => False
  | .rs n z cs => match P.underlying t with
    | some (.slice e) => onO (tsz P e) fun z' => if z' = z then bndW hi n n fun h => bndW lo 0 h fun l => k (.rs (h - l) z ((cs.drop (l * z)).take ((h - l) * z))) else False
    | _ => False
  | .nslice => match P.underlying t with
    | some (.slice e) => onO (tsz P e) fun _ => bndW hi 0 0 fun h => bndW lo 0 h fun l => k .nslice
    | _ => False
  | _ => False

theorem sliceW_ok {t : TypeId} {x : AV} {lo hi : Option AV} {k : AV → Prop} (h : sliceW P t x lo hi k) : ∃ r, aSlice P t x lo hi = some r ∧ k r := by
  unfold sliceW at h
  unfold aSlice
  split at h
  · split at h
    · rename_i e
      split at h
      · simp only [e, bnd]; exact ⟨_, rfl, by simpa using h⟩
      · obtain ⟨b, h2, h⟩ := bndW_ok h
        simp only [e]
        rw [show bnd none _ _ = some _ from rfl]
        simp only [h2]
        exact ⟨_, rfl, by rw [List.take_of_length_le (by simp)]; exact h⟩
      · obtain ⟨b, h2, h⟩ := bndW_ok h
        simp only [e, h2]
        rw [show bnd none 0 b = some 0 from rfl]
        exact ⟨_, rfl, by simpa using h⟩
      · obtain ⟨a, h1, h⟩ := bndW_ok h
        obtain ⟨b, h2, h⟩ := bndW_ok h
        simp only [e, h1, h2]; exact ⟨_, rfl, h⟩
    · exact h.elim
  · split at h
    · rename_i e
      obtain ⟨z', hz, h⟩ := onO_some h
      split at h
      · rename_i ez
        obtain ⟨a, h1, h⟩ := bndW_ok h
        obtain ⟨b, h2, h⟩ := bndW_ok h
        simp only [e, hz]; rw [if_pos ez]; simp only [h1, h2]; exact ⟨_, rfl, h⟩
      · exact h.elim
    · exact h.elim
  · split at h
    · rename_i e
      obtain ⟨z', hz, h⟩ := onO_some h
      split at h
      · rename_i ez
        obtain ⟨a, h1, h⟩ := bndW_ok h
        obtain ⟨b, h2, h⟩ := bndW_ok h
        simp only [e, hz]; rw [if_pos ez]; simp only [h1, h2]; exact ⟨_, rfl, h⟩
      · exact h.elim
    · exact h.elim
  · split at h
    · rename_i e
      obtain ⟨z', hz, h⟩ := onO_some h
      obtain ⟨a, h1, h⟩ := bndW_ok h
      obtain ⟨b, h2, h⟩ := bndW_ok h
      simp only [e, hz, h1, h2]; exact ⟨_, rfl, h⟩
    · exact h.elim
  · exact h.elim

/-- What looks at values and memory alone. -/
def pureW (ρ : Operand → Option AV) (H : AHeap) (o : Oper) (k : AV → Prop) : Prop :=
  match o.op with
  | .move x => onO (ρ x) fun v => frc1 v k
  | .assign x => onO (ρ x) fun v => frc1 v k
  | .pick c a b => onO (ρ c) fun c => match c with
    | .bool c => (c = true → onO (ρ a) fun v => frc1 v k) ∧ (c = false → onO (ρ b) fun v => frc1 v k)
    | _ => False
  | .load t a => onO (ρ a) fun a => loadW P t a H k
  | .binOp op t x y _ => onO (ρ x) fun u => onO (ρ y) fun v => binW P op t (isC x || isC y) u v k
  | .indexAddr t x i => onO (ρ x) fun u => onO (ρ i) fun v => ixaW P t u v k
  | .index t x i => onO (ρ x) fun u => onO (ρ i) fun v => ixW P t u v k
  | .slice t x lo hi none => onO (ρ x) fun u => onO (aopt ρ lo) fun lo => onO (aopt ρ hi) fun hi => sliceW P t u lo hi k
  | .lookup t m key ok => onO (ρ m) fun m => onO (ρ key) fun key => ∃ r, aLookup P t m key ok H = some r ∧ k r
  | _ => onO (apure' P ρ H o) fun r => frc1 r k

theorem pureW_ok {ρ : Operand → Option AV} {H : AHeap} {o : Oper} {k : AV → Prop} (h : pureW P ρ H o k) : ∃ r, apure' P ρ H o = some r ∧ k r := by
  unfold pureW at h
  unfold apure' apure
  split at h
  · rename_i e; obtain ⟨v, h1, h⟩ := onO_some h; rw [frc1_eq] at h; exact ⟨v, by simp only [e]; exact h1, h⟩
  · rename_i e; obtain ⟨v, h1, h⟩ := onO_some h; rw [frc1_eq] at h; exact ⟨v, by simp only [e]; exact h1, h⟩
  · rename_i e; obtain ⟨c, h1, h⟩ := onO_some h
    split at h
    · rename_i c b'
      cases b' with
      | true => obtain ⟨v, h2, h⟩ := onO_some (h.1 rfl); rw [frc1_eq] at h; exact ⟨v, by simp only [e, h1]; exact h2, h⟩
      | false => obtain ⟨v, h2, h⟩ := onO_some (h.2 rfl); rw [frc1_eq] at h; exact ⟨v, by simp only [e, h1]; exact h2, h⟩
    · exact h.elim
  · rename_i e; obtain ⟨v, h1, h⟩ := onO_some h; obtain ⟨r, h2, h⟩ := loadW_ok P h; exact ⟨r, by simp only [e, h1]; exact h2, h⟩
  · rename_i e; obtain ⟨u, h1, h⟩ := onO_some h; obtain ⟨v, h2, h⟩ := onO_some h; obtain ⟨r, h3, h⟩ := binW_ok P h; exact ⟨r, by simp only [e, h1, h2]; exact h3, h⟩
  · rename_i e; obtain ⟨u, h1, h⟩ := onO_some h; obtain ⟨v, h2, h⟩ := onO_some h; obtain ⟨r, h3, h⟩ := ixaW_ok P h; exact ⟨r, by simp only [e, h1, h2]; exact h3, h⟩
  · rename_i e; obtain ⟨u, h1, h⟩ := onO_some h; obtain ⟨v, h2, h⟩ := onO_some h; obtain ⟨r, h3, h⟩ := ixW_ok P h; exact ⟨r, by simp only [e, h1, h2]; exact h3, h⟩
  · rename_i e; obtain ⟨u, h1, h⟩ := onO_some h; obtain ⟨v, h2, h⟩ := onO_some h; obtain ⟨x, h3, h⟩ := onO_some h; obtain ⟨r, h4, h⟩ := sliceW_ok P h; exact ⟨r, by simp only [e, h1, h2, h3]; exact h4, h⟩
  · rename_i e; obtain ⟨u, h1, h⟩ := onO_some h; obtain ⟨v, h2, h⟩ := onO_some h; obtain ⟨r, h3, h⟩ := h; exact ⟨r, by simp only [e, h1, h2]; exact h3, h⟩
  · obtain ⟨r, h1, h⟩ := onO_some h
    rw [frc1_eq] at h
    exact ⟨r, by simpa only [apure', apure] using h1, h⟩

/-- A number, taken apart: small ones stand as literals behind it. -/
noncomputable def frcNP (n : Nat) (k : Nat → Prop) : Prop :=
  Nat.rec (motive := fun _ => Prop) (k 0) (fun m0 _ => Nat.rec (motive := fun _ => Prop) (k 1) (fun m1 _ => Nat.rec (motive := fun _ => Prop) (k 2) (fun m2 _ => Nat.rec (motive := fun _ => Prop) (k 3) (fun m3 _ => Nat.rec (motive := fun _ => Prop) (k 4) (fun m4 _ => Nat.rec (motive := fun _ => Prop) (k 5) (fun m5 _ => Nat.rec (motive := fun _ => Prop) (k 6) (fun m6 _ => Nat.rec (motive := fun _ => Prop) (k 7) (fun m7 _ => Nat.rec (motive := fun _ => Prop) (k 8) (fun m8 _ => Nat.rec (motive := fun _ => Prop) (k 9) (fun m9 _ => Nat.rec (motive := fun _ => Prop) (k 10) (fun m10 _ => Nat.rec (motive := fun _ => Prop) (k 11) (fun m11 _ => Nat.rec (motive := fun _ => Prop) (k 12) (fun m12 _ => Nat.rec (motive := fun _ => Prop) (k 13) (fun m13 _ => Nat.rec (motive := fun _ => Prop) (k 14) (fun m14 _ => Nat.rec (motive := fun _ => Prop) (k 15) (fun m15 _ => Nat.rec (motive := fun _ => Prop) (k 16) (fun m16 _ => Nat.rec (motive := fun _ => Prop) (k 17) (fun m17 _ => Nat.rec (motive := fun _ => Prop) (k 18) (fun m18 _ => Nat.rec (motive := fun _ => Prop) (k 19) (fun m19 _ => Nat.rec (motive := fun _ => Prop) (k 20) (fun m20 _ => Nat.rec (motive := fun _ => Prop) (k 21) (fun m21 _ => Nat.rec (motive := fun _ => Prop) (k 22) (fun m22 _ => Nat.rec (motive := fun _ => Prop) (k 23) (fun m23 _ => Nat.rec (motive := fun _ => Prop) (k 24) (fun m24 _ => Nat.rec (motive := fun _ => Prop) (k 25) (fun m25 _ => Nat.rec (motive := fun _ => Prop) (k 26) (fun m26 _ => Nat.rec (motive := fun _ => Prop) (k 27) (fun m27 _ => Nat.rec (motive := fun _ => Prop) (k 28) (fun m28 _ => Nat.rec (motive := fun _ => Prop) (k 29) (fun m29 _ => Nat.rec (motive := fun _ => Prop) (k 30) (fun m30 _ => Nat.rec (motive := fun _ => Prop) (k 31) (fun m31 _ => Nat.rec (motive := fun _ => Prop) (k 32) (fun m32 _ => Nat.rec (motive := fun _ => Prop) (k 33) (fun m33 _ => Nat.rec (motive := fun _ => Prop) (k 34) (fun m34 _ => Nat.rec (motive := fun _ => Prop) (k 35) (fun m35 _ => Nat.rec (motive := fun _ => Prop) (k 36) (fun m36 _ => Nat.rec (motive := fun _ => Prop) (k 37) (fun m37 _ => Nat.rec (motive := fun _ => Prop) (k 38) (fun m38 _ => Nat.rec (motive := fun _ => Prop) (k 39) (fun m39 _ => Nat.rec (motive := fun _ => Prop) (k 40) (fun m40 _ => Nat.rec (motive := fun _ => Prop) (k 41) (fun m41 _ => Nat.rec (motive := fun _ => Prop) (k 42) (fun m42 _ => Nat.rec (motive := fun _ => Prop) (k 43) (fun m43 _ => Nat.rec (motive := fun _ => Prop) (k 44) (fun m44 _ => Nat.rec (motive := fun _ => Prop) (k 45) (fun m45 _ => Nat.rec (motive := fun _ => Prop) (k 46) (fun m46 _ => Nat.rec (motive := fun _ => Prop) (k 47) (fun m47 _ => k (m47 + 48)) m46) m45) m44) m43) m42) m41) m40) m39) m38) m37) m36) m35) m34) m33) m32) m31) m30) m29) m28) m27) m26) m25) m24) m23) m22) m21) m20) m19) m18) m17) m16) m15) m14) m13) m12) m11) m10) m9) m8) m7) m6) m5) m4) m3) m2) m1) m0) n
theorem frcNP_eq (n : Nat) (k : Nat → Prop) : frcNP n k = k n := match n with
  | 0 => rfl
  | 1 => rfl
  | 2 => rfl
  | 3 => rfl
  | 4 => rfl
  | 5 => rfl
  | 6 => rfl
  | 7 => rfl
  | 8 => rfl
  | 9 => rfl
  | 10 => rfl
  | 11 => rfl
  | 12 => rfl
  | 13 => rfl
  | 14 => rfl
  | 15 => rfl
  | 16 => rfl
  | 17 => rfl
  | 18 => rfl
  | 19 => rfl
  | 20 => rfl
  | 21 => rfl
  | 22 => rfl
  | 23 => rfl
  | 24 => rfl
  | 25 => rfl
  | 26 => rfl
  | 27 => rfl
  | 28 => rfl
  | 29 => rfl
  | 30 => rfl
  | 31 => rfl
  | 32 => rfl
  | 33 => rfl
  | 34 => rfl
  | 35 => rfl
  | 36 => rfl
  | 37 => rfl
  | 38 => rfl
  | 39 => rfl
  | 40 => rfl
  | 41 => rfl
  | 42 => rfl
  | 43 => rfl
  | 44 => rfl
  | 45 => rfl
  | 46 => rfl
  | 47 => rfl
  | n + 48 => rfl
/-- A value, its block's number taken apart. -/
noncomputable def frcW (v : AV) (k : AV → Prop) : Prop :=
  match v with
  | .ptr b off => frcNP b fun b => k (.ptr b off)
  | .slice b off len cap z => frcNP b fun b => frcNP z fun z => k (.slice b off len cap z)
  | .map b => frcNP b fun b => k (.map b)
  | v => frc1 v k
theorem frcW_eq (v : AV) (k : AV → Prop) : frcW v k = k v := by
  unfold frcW
  split <;> simp only [frcNP_eq, frc1_eq]
/-- Memory, its blocks taken apart. -/
noncomputable def frcHW : AHeap → (AHeap → Prop) → Prop
  | [], k => k []
  | ⟨al, fam, sh, .cells cs t⟩ :: l, k => frcBR al fun al => frcNP fam fun fam => frcNP sh fun sh => frcHW l fun l => k (⟨al, fam, sh, .cells cs t⟩ :: l)
  | ⟨al, fam, sh, .map es c⟩ :: l, k => frcBR al fun al => frcNP fam fun fam => frcNP sh fun sh => frcHW l fun l => k (⟨al, fam, sh, .map es c⟩ :: l)
  | ⟨al, fam, sh, .siter a b⟩ :: l, k => frcBR al fun al => frcNP fam fun fam => frcNP sh fun sh => frcHW l fun l => k (⟨al, fam, sh, .siter a b⟩ :: l)
theorem frcHW_eq : ∀ (H : AHeap) (k : AHeap → Prop), frcHW H k = k H
  | [], k => rfl
  | ⟨al, fam, sh, .cells cs t⟩ :: l, k => by simp only [frcHW, frcBR_eq, frcNP_eq, frcHW_eq l]
  | ⟨al, fam, sh, .map es c⟩ :: l, k => by simp only [frcHW, frcBR_eq, frcNP_eq, frcHW_eq l]
  | ⟨al, fam, sh, .siter a b⟩ :: l, k => by simp only [frcHW, frcBR_eq, frcNP_eq, frcHW_eq l]

noncomputable def wrW (H : AHeap) (a : AV) (vs : List AV) (k : AHeap → Prop) : Prop :=
  match a with
  | .ptr b off => onO H[b]? fun o => match o.alive, o.body with
    | true, .cells cs ty => if vs.all one then ∃ cs', spl cs off vs = some cs' ∧ frcHW ((wkil b o.fam H).set b { o with body := .cells cs' ty }) k else False
    | _, _ => False
  | _ => False

theorem wrW_ok {H : AHeap} {a : AV} {vs : List AV} {k : AHeap → Prop} (h : wrW H a vs k) : ∃ H', wr H a vs = some H' ∧ k H' := by
  unfold wrW at h
  unfold wr
  split at h
  · obtain ⟨o, ho, h⟩ := onO_some h
    simp only [ho]
    split at h
    · rename_i e1 e2
      split at h
      · rename_i e3
        obtain ⟨cs', h1, h⟩ := h
        rw [frcHW_eq] at h
        simp only [e1] at h
        simp only [e1, e2]; rw [if_pos e3, h1]; exact ⟨_, rfl, h⟩
      · exact h.elim
    · exact h.elim
  · exact h.elim

def stoW (t : TypeId) (a v : AV) (H : AHeap) (k : AHeap → Prop) : Prop :=
  onO (tsz P t) fun n => if v.cells.length = n then wrW H a v.cells k else False

theorem stoW_ok {t : TypeId} {a v : AV} {H : AHeap} {k : AHeap → Prop} (h : stoW P t a v H k) : ∃ H', aStore P t a v H = some H' ∧ k H' := by
  unfold stoW at h
  unfold aStore
  obtain ⟨n, hn, h⟩ := onO_some h
  simp only [hn]
  split at h
  · rename_i e; rw [if_pos e]; exact wrW_ok h
  · exact h.elim

/-- Is it one that looks at values and memory alone? -/
def isPure (o : Oper) : Bool :=
  match o.op with
  | .move _ => true | .assign _ => true | .pick .. => true | .build .. => true | .nilCheck _ => true | .binOp .. => true | .unOp .. => true
  | .makeInterface .. => true | .makeFunc .. => true | .slice .. => true | .fieldAddr .. => true | .field .. => true | .indexAddr .. => true | .index .. => true | .extract .. => true
  | .load .. => true | .lookup .. => true
  | .call c => match c.callee with | .builtin .len => true | .builtin .max => true | .builtin .min => true | _ => false
  | _ => false

/-- How a call of a function is taken. -/
abbrev CW := Nat → List AV → AHeap → (AV → AHeap → Prop) → Prop
def CWok (P : Program) (orc : Orc) (cw : CW) : Prop := ∀ g args H k, cw g args H k → ∃ r H', acall P orc H g args = some (r, H') ∧ k r H'
/-- A call that the oracle answers. -/
noncomputable def cw0 (orc : Orc) : CW := fun g args H k => ∃ y, acall P orc H g args = some y ∧ frcW y.1 fun r => frcHW y.2 fun H' => k r H'
theorem cw0_ok (orc : Orc) : CWok P orc (cw0 P orc) := fun g args H k ⟨y, h1, h2⟩ => ⟨y.1, y.2, h1, by rw [frcW_eq, frcHW_eq] at h2; exact h2⟩

/-- An operation. -/
def opW (orc : Orc) (cw : CW) (ρ : Operand → Option AV) (o : Oper) (H : AHeap) (k : AV → AHeap → Prop) : Prop :=
  match isPure o with
  | true => pureW P ρ H o fun r => k r H
  | false => match o.op with
    | .convert .. => match apure' P ρ H o with
      | some r => frc1 r fun r => k r H
      | none => ∃ x, aop P orc ρ o H = some x ∧ frcW x.1 fun r => frcHW x.2 fun H' => k r H'
    | .store t a x => onO (ρ a) fun a => onO (ρ x) fun x => stoW P t a x H fun H' => k (.tuple []) H'
    | .alloc _ => onO (aeff P ρ H o) fun x => frcW x.1 fun r => frcHW x.2 fun H' => k r H'
    | .box .. => onO (aeff P ρ H o) fun x => frcW x.1 fun r => frcHW x.2 fun H' => k r H'
    | .buildSlice .. => onO (aeff P ρ H o) fun x => frcW x.1 fun r => frcHW x.2 fun H' => k r H'
    | .makeMap .. => onO (aeff P ρ H o) fun x => frcW x.1 fun r => frcHW x.2 fun H' => k r H'
    | .mapUpdate .. => onO (aeff P ρ H o) fun x => frcW x.1 fun r => frcHW x.2 fun H' => k r H'
    | .insert .. => onO (aeff P ρ H o) fun x => frcW x.1 fun r => frcHW x.2 fun H' => k r H'
    | .makeSlice t l c => onO (ρ l) fun l => onO (ρ c) fun c => ∃ x, aMakeSlice P t l c H = some x ∧ frcW x.1 fun r => frcHW x.2 fun H' => k r H'
    | .call c => match c.callee with
      | .builtin .append => match c.args.toList, c.argTypes.toList with
        | [s, x], [t, t2] => onO (ρ s) fun s => onO (ρ x) fun x => ∃ y, aAppend P t t2 s x H = some y ∧ frcW y.1 fun r => frcHW y.2 fun H' => k r H'
        | _, _ => False
      | .value _ => onO (callee ρ c) fun (g, args) => cw g args H k
      | _ => ∃ x, aop P orc ρ o H = some x ∧ frcW x.1 fun r => frcHW x.2 fun H' => k r H'
    | _ => ∃ x, aop P orc ρ o H = some x ∧ frcW x.1 fun r => frcHW x.2 fun H' => k r H'

theorem isPure_callee {ρ : Operand → Option AV} {o : Oper} (h : isPure o = true) (c : Call) (e : o.op = .call c) : callee ρ c = none := by
  unfold isPure at h
  simp only [e] at h
  unfold callee
  split
  · rename_i f hf; simp [hf] at h
  · rfl

theorem aop_nc {orc : Orc} {ρ : Operand → Option AV} {o : Oper} {H : AHeap} (h : ∀ c, o.op = .call c → callee ρ c = none) : aop P orc ρ o H = (match apure' P ρ H o with | some r => some (r, H) | none => aeff P ρ H o) := by
  unfold aop
  split
  · rename_i g args hx
    split at hx
    · rename_i c ho; rw [h c ho] at hx; cases hx
    · cases hx
  · rfl

theorem opW_ok {orc : Orc} {cw : CW} (hcw : CWok P orc cw) {ρ : Operand → Option AV} {o : Oper} {H : AHeap} {k : AV → AHeap → Prop} (h : opW P orc cw ρ o H k) : ∃ r H', aop P orc ρ o H = some (r, H') ∧ k r H' := by
  have gen : (∃ x, aop P orc ρ o H = some x ∧ frcW x.1 fun r => frcHW x.2 fun H' => k r H') → ∃ r H', aop P orc ρ o H = some (r, H') ∧ k r H' := fun ⟨x, h1, h2⟩ => ⟨x.1, x.2, h1, by rw [frcW_eq, frcHW_eq] at h2; exact h2⟩
  have eff : ∀ {x : AV × AHeap}, (∀ c, o.op = .call c → callee ρ c = none) → apure' P ρ H o = none → aeff P ρ H o = some x → k x.1 x.2 → ∃ r H', aop P orc ρ o H = some (r, H') ∧ k r H' :=
    fun {x} h1 h2 h3 h4 => ⟨x.1, x.2, by rw [aop_nc P h1, h2]; exact h3, h4⟩
  unfold opW at h
  split at h
  · rename_i hp
    obtain ⟨r, h1, h⟩ := pureW_ok P h
    exact ⟨r, H, by rw [aop_nc P (isPure_callee hp), h1], h⟩
  · split at h
    · rename_i e
      split at h
      · rename_i r hr
        rw [frc1_eq] at h
        exact ⟨r, H, by rw [aop_nc P (by simp [e]), hr], h⟩
      · exact gen h
    · rename_i t a x e
      obtain ⟨a', h1, h⟩ := onO_some h
      obtain ⟨x', h2, h⟩ := onO_some h
      obtain ⟨H', h3, h⟩ := stoW_ok P h
      exact eff (x := (.tuple [], H')) (by simp [e]) (by simp only [apure', apure, e]) (by simp only [aeff, e, h1, h2, h3]) h
    · rename_i e
      obtain ⟨x, h1, h⟩ := onO_some h
      rw [frcW_eq, frcHW_eq] at h
      exact eff (by simp [e]) (by simp only [apure', apure, e]) h1 h
    · rename_i e
      obtain ⟨x, h1, h⟩ := onO_some h
      rw [frcW_eq, frcHW_eq] at h
      exact eff (by simp [e]) (by simp only [apure', apure, e]) h1 h
    · rename_i e
      obtain ⟨x, h1, h⟩ := onO_some h
      rw [frcW_eq, frcHW_eq] at h
      exact eff (by simp [e]) (by simp only [apure', apure, e]) h1 h
    · rename_i e
      obtain ⟨x, h1, h⟩ := onO_some h
      rw [frcW_eq, frcHW_eq] at h
      exact eff (by simp [e]) (by simp only [apure', apure, e]) h1 h
    · rename_i e
      obtain ⟨x, h1, h⟩ := onO_some h
      rw [frcW_eq, frcHW_eq] at h
      exact eff (by simp [e]) (by simp only [apure', apure, e]) h1 h
    · rename_i e
      obtain ⟨x, h1, h⟩ := onO_some h
      rw [frcW_eq, frcHW_eq] at h
      exact eff (by simp [e]) (by simp only [apure', apure, e]) h1 h
    · rename_i t l c e
      obtain ⟨l', h1, h⟩ := onO_some h
      obtain ⟨c', h2, h⟩ := onO_some h
      obtain ⟨x, h3, h⟩ := h
      rw [frcW_eq, frcHW_eq] at h
      exact eff (by simp [e]) (by simp only [apure', apure, e]) (by simp only [aeff, e, h1, h2]; exact h3) h
    · rename_i c e
      split at h
      · rename_i hc
        split at h
        · rename_i s x t t2 ha ht
          obtain ⟨s', h1, h⟩ := onO_some h
          obtain ⟨x', h2, h⟩ := onO_some h
          obtain ⟨y, h3, h⟩ := h
          rw [frcW_eq, frcHW_eq] at h
          exact eff (fun c' e' => by rw [e] at e'; cases e'; simp [callee, hc]) (by simp only [apure', apure, e, hc]) (by simp only [aeff, e, hc, ha, ht, h1, h2]; exact h3) h
        · exact h.elim
      · rename_i f hc
        obtain ⟨⟨g, args⟩, h1, h⟩ := onO_some h
        obtain ⟨r, H', h2, h⟩ := hcw _ _ _ _ h
        exact ⟨r, H', by unfold aop; simp only [e, h1]; exact h2, h⟩
      · exact gen h
    · exact gen h
end W
end Go.Abs

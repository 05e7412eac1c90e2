/-
  A verified abstract interpreter, part 32: operations on values that are not all known: what is asked stands as a proposition, and what comes behind goes on from there.
-/
import Derived.Test.YtdpdllaebdbddaaDoorAbs31
set_option linter.unusedSimpArgs false
set_option linter.unusedVariables false
namespace Go.Abs
open Go.RowKit

def onO {α : Type} (o : Option α) (k : α → Prop) : Prop := match o with | some v => k v | none => False
theorem onO_some {α : Type} {o : Option α} {k : α → Prop} (h : onO o k) : ∃ v, o = some v ∧ k v := by
  cases o with
  | none => exact h.elim
  | some v => exact ⟨v, rfl, h⟩

section W
variable (P : Program)

def rdW (H : AHeap) (a : AV) (n : Nat) (k : List AV → Prop) : Prop :=
  match a with
  | .ptr b off => onO H[b]? fun o => match o.alive, o.body with
    | true, .cells cs _ => ∃ r, tk n (cs.drop off) = some r ∧ k r
    | _, _ => False
  | .rp cs => ∃ r, tk n cs = some r ∧ k r
  | _ => False

theorem rdW_ok {H : AHeap} {a : AV} {n : Nat} {k : List AV → Prop} (h : rdW H a n k) : ∃ r, rd H a n = some r ∧ k r := by
  unfold rdW at h
  unfold rd
  split at h
  · rename_i b off
    obtain ⟨o, ho, h⟩ := onO_some h
    simp only [ho]
    split at h
    · rename_i e1 e2; simp only [e1, e2]; exact h
    · exact h.elim
  · exact h
  · exact h.elim

def loadW (t : TypeId) (a : AV) (H : AHeap) (k : AV → Prop) : Prop :=
  match tagg P t with
  | some true => onO (tsz P t) fun n => rdW H a n fun cs => k (.agg cs)
  | some false => rdW H a 1 fun cs => match cs with | [c] => frc1 c k | _ => False
  | none => False

theorem loadW_ok {t : TypeId} {a : AV} {H : AHeap} {k : AV → Prop} (h : loadW P t a H k) : ∃ r, aload P t a H = some r ∧ k r := by
  unfold loadW at h
  unfold aload
  split at h
  · rename_i e
    obtain ⟨n, hn, h⟩ := onO_some h
    obtain ⟨cs, h1, h2⟩ := rdW_ok h
    simp only [e, hn, h1]; exact ⟨_, rfl, h2⟩
  · rename_i e
    obtain ⟨cs, h1, h2⟩ := rdW_ok h
    simp only [e, h1]
    split at h2
    · rw [frc1_eq] at h2; exact ⟨_, rfl, h2⟩
    · exact h2.elim
  · exact h.elim

/-- Are they the same? All fields are asked. -/
def eqFsB (e : TypeId → AV → AV → Option Bool) (P : Program) : List (TypeId × Nat) → List AV → List AV → Option Bool
  | [], _, _ => some true
  | (t, off) :: fs, xs, ys =>
    match apart P t xs off, apart P t ys off with
    | some a, some b => match e t a b, eqFsB e P fs xs ys with
      | some x, some y => some (x && y)
      | _, _ => none
    | _, _ => none

def eqB (P : Program) : Nat → TypeId → AV → AV → Option Bool
  | 0, _, _, _ => none
  | d + 1, t, x, y =>
    match x, y with
    | .agg xs, .agg ys => match fieldsEq P t with | some fs => eqFsB (eqB P d) P fs xs ys | none => none
    | x, y => aEq P (d + 1) t x y

theorem eqFsB_ok {e e' : TypeId → AV → AV → Option Bool} (he : ∀ t x y b, e t x y = some b → e' t x y = some b) : ∀ (fs : List (TypeId × Nat)) (xs ys : List AV) (b : Bool), eqFsB e P fs xs ys = some b → eqFs e' P fs xs ys = some b
  | [], xs, ys, b, h => h
  | (t, off) :: fs, xs, ys, b, h => by
    simp only [eqFsB] at h
    simp only [eqFs]
    split at h <;> try (simp at h; done)
    rename_i a c ha hc
    split at h <;> simp at h
    rename_i x y hx hy
    simp only [ha, hc, he _ _ _ _ hx]
    cases x with
    | true => simp at h; subst h; exact eqFsB_ok he fs xs ys _ hy
    | false => simp at h; subst h; rfl

theorem eqB_ok : ∀ (d : Nat) (t : TypeId) (x y : AV) (b : Bool), eqB P d t x y = some b → aEq P d t x y = some b
  | 0, t, x, y, b, h => by simp [eqB] at h
  | d + 1, t, x, y, b, h => by
    unfold eqB at h
    split at h
    · split at h <;> try (simp at h; done)
      rename_i fs hfs
      simp only [aEq, hfs]
      exact eqFsB_ok P (fun t x y b h => eqB_ok d t x y b h) fs _ _ b h
    · exact h

def binW (op : BinOp) (t : TypeId) (c : Bool) (u v : AV) (k : AV → Prop) : Prop :=
  match u, v with
  | .int kx a, .int ky b => match op with
    | .quo => if kx = ky then b ≠ 0 ∧ k (.int kx (kx.wrap (a.tdiv b))) else False
    | .rem => if kx = ky then b ≠ 0 ∧ k (.int kx (a.tmod b)) else False
    | .shl => 0 ≤ b ∧ k (.int kx (kx.wrap (a * 2 ^ (min b.toNat kx.bits))))
    | .shr => 0 ≤ b ∧ k (.int kx (a.fdiv (2 ^ (min b.toNat kx.bits))))
    | op => if kx = ky then onO (aBinInt op kx a b) k else False
  | .str a, .str b => match op with
    | .add => a.length + b.length ≤ 9223372036854775807 ∧ k (.str (a ++ b))
    | op => onO (aBinStr op a b) k
  | .agg a, .agg b => if P.eqGuardType P.depth t then False else match op with
    | .eql => onO (eqB P 10000 t (.agg a) (.agg b)) fun r => k (.bool r)
    | .neq => onO (eqB P 10000 t (.agg a) (.agg b)) fun r => k (.bool !r)
    | _ => False
  | u, v => onO (aBin2 P op t c u v) k

theorem binW_ok {op : BinOp} {t : TypeId} {c : Bool} {u v : AV} {k : AV → Prop} (h : binW P op t c u v k) : ∃ r, aBin2 P op t c u v = some r ∧ k r := by
  unfold binW at h
  split at h
  · rename_i kx a ky b
    split at h
    · split at h
      · rename_i e; subst e; exact ⟨_, by simp [aBin2, aBin, aBinInt, h.1], h.2⟩
      · exact h.elim
    · split at h
      · rename_i e; subst e; exact ⟨_, by simp [aBin2, aBin, aBinInt, h.1], h.2⟩
      · exact h.elim
    · exact ⟨_, by simp only [aBin2, aBin]; rw [if_neg (by omega)], h.2⟩
    · exact ⟨_, by simp only [aBin2, aBin]; rw [if_neg (by omega)], h.2⟩
    · rename_i o1 o2 o3 o4
      split at h
      · rename_i e; subst e
        obtain ⟨r, h1, h2⟩ := onO_some h
        refine ⟨r, ?_, h2⟩
        simp only [aBin2, aBin]
        cases op with
        | shl => exact (o3 rfl).elim
        | shr => exact (o4 rfl).elim
        | _ => simpa using h1
      · exact h.elim
  · split at h
    · exact ⟨_, by simp [aBin2, aBin, aBinStr, h.1], h.2⟩
    · obtain ⟨r, h1, h2⟩ := onO_some h
      exact ⟨r, by simp only [aBin2, aBin]; exact h1, h2⟩
  · split at h
    · exact h.elim
    · rename_i hg
      split at h
      · obtain ⟨r, h1, h2⟩ := onO_some h
        exact ⟨_, by simp only [aBin2, aBin]; rw [if_neg hg, eqB_ok P _ _ _ _ _ h1], h2⟩
      · obtain ⟨r, h1, h2⟩ := onO_some h
        exact ⟨_, by simp only [aBin2, aBin]; rw [if_neg hg, eqB_ok P _ _ _ _ _ h1], h2⟩
      · exact h.elim
  · exact onO_some h

def ixaW (t : TypeId) (x i : AV) (k : AV → Prop) : Prop :=
  match i with
  | .int _ i => match P.underlying t with
    | some (.slice e) => onO (tsz P e) fun z' => match x with
      | .slice b off len _ z => (0 ≤ i ∧ i < (len : Int)) ∧ (if z' = z then k (.ptr b (off + i.toNat * z)) else False)
      | .rs n z cs => (0 ≤ i ∧ i < (n : Int)) ∧ (if z' = z then k (.rp (cs.drop (i.toNat * z))) else False)
      | _ => False
    | some (.array n e) => onO (tsz P e) fun z => (0 ≤ i ∧ i < (n : Int)) ∧ (match x with
      | .ptr b off => k (.ptr b (off + i.toNat * z))
      | .rp cs => k (.rp (cs.drop (i.toNat * z)))
      | _ => False)
    | _ => False
  | _ => False

theorem ixaW_ok {t : TypeId} {x i : AV} {k : AV → Prop} (h : ixaW P t x i k) : ∃ r, aIndexAddr P t x i = some r ∧ k r := by
  unfold ixaW at h
  unfold aIndexAddr
  split at h
  · split at h
    · rename_i e
      obtain ⟨z', hz, h⟩ := onO_some h
      simp only [e, hz]
      split at h
      · obtain ⟨hb, h⟩ := h
        split at h
        · rename_i e; simp only; rw [if_pos hb, if_pos e]; exact ⟨_, rfl, h⟩
        · exact h.elim
      · obtain ⟨hb, h⟩ := h
        split at h
        · rename_i e; simp only; rw [if_pos hb, if_pos e]; exact ⟨_, rfl, h⟩
        · exact h.elim
      · exact h.elim
    · rename_i e
      obtain ⟨z', hz, h⟩ := onO_some h
      simp only [e, hz]
      obtain ⟨hb, h⟩ := h
      rw [if_pos hb]
      split at h
      · exact ⟨_, rfl, h⟩
      · exact ⟨_, rfl, h⟩
      · exact h.elim
    · exact h.elim
  · exact h.elim

def ixW (t : TypeId) (x i : AV) (k : AV → Prop) : Prop :=
  match i with
  | .int _ i => match x with
    | .str s => match P.underlying t with
      | some .string => 0 ≤ i ∧ ∃ b, s[i.toNat]? = some b ∧ k (.int .u8 b.toNat)
      | _ => False
    | .agg cs => match P.underlying t with
      | some (.array n e) => onO (tsz P e) fun z => (0 ≤ i ∧ i < (n : Int)) ∧ ∃ r, apart P e cs (i.toNat * z) = some r ∧ k r
      | _ => False
    | _ => False
  | _ => False

theorem ixW_ok {t : TypeId} {x i : AV} {k : AV → Prop} (h : ixW P t x i k) : ∃ r, aIndex P t x i = some r ∧ k r := by
  unfold ixW at h
  unfold aIndex
  split at h
  · split at h
    · split at h
      · rename_i e
        obtain ⟨h1, b, h2, h3⟩ := h
        simp only [e]
        rw [if_pos h1, h2]; exact ⟨_, rfl, h3⟩
      · exact h.elim
    · split at h
      · rename_i e
        obtain ⟨z, hz, hb, r, h1, h2⟩ := onO_some h
        simp only [e, hz]
        rw [if_pos hb]; exact ⟨r, h1, h2⟩
      · exact h.elim
    · exact h.elim
  · exact h.elim

def bndW (x : Option AV) (dflt top : Nat) (k : Nat → Prop) : Prop :=
  match x with
  | none => k dflt
  | some (.int _ i) => (0 ≤ i ∧ i ≤ (top : Int)) ∧ k i.toNat
  | _ => False

theorem bndW_ok {x : Option AV} {d top : Nat} {k : Nat → Prop} (h : bndW x d top k) : ∃ n, bnd x d top = some n ∧ k n := by
  unfold bndW at h
  unfold bnd
  split at h
  · exact ⟨_, rfl, h⟩
  · simp only; rw [if_pos h.1]; exact ⟨_, rfl, h.2⟩
  · exact h.elim

def sliceW (t : TypeId) (x : AV) (lo hi : Option AV) (k : AV → Prop) : Prop :=
  match x with
  | .str s => match P.underlying t with
    | some .string => bndW hi s.length s.length fun h => bndW lo 0 h fun l => k (.str ((s.drop l).take (h - l)))
    | _ => False
  | .slice b off len cap z => match P.underlying t with
    | some (.slice e) => onO (tsz P e) fun z' => if z' = z then bndW hi len cap fun h => bndW lo 0 h fun l => k (.slice b (off + l * z) (h - l) (cap - l) z) else False
    | _ => False
  | .rs n z cs => match P.underlying t with
    | some (.slice e) => onO (tsz P e) fun z' => if z' = z then bndW hi n n fun h => bndW lo 0 h fun l => k (.rs (h - l) z ((cs.drop (l * z)).take ((h - l) * z))) else False
    | _ => False
  | .nslice => match P.underlying t with
    | some (.slice e) => onO (tsz P e) fun _ => bndW hi 0 0 fun h => bndW lo 0 h fun l => k .nslice
    | _ => False
  | _ => False

theorem sliceW_ok {t : TypeId} {x : AV} {lo hi : Option AV} {k : AV → Prop} (h : sliceW P t x lo hi k) : ∃ r, aSlice P t x lo hi = some r ∧ k r := by
  unfold sliceW at h
  unfold aSlice
  split at h
  · split at h
    · rename_i e
      obtain ⟨a, h1, h⟩ := bndW_ok h
      obtain ⟨b, h2, h⟩ := bndW_ok h
      simp only [e, h1, h2]; exact ⟨_, rfl, h⟩
    · exact h.elim
  · split at h
    · rename_i e
      obtain ⟨z', hz, h⟩ := onO_some h
      split at h
      · rename_i ez
        obtain ⟨a, h1, h⟩ := bndW_ok h
        obtain ⟨b, h2, h⟩ := bndW_ok h
        simp only [e, hz]; rw [if_pos ez]; simp only [h1, h2]; exact ⟨_, rfl, h⟩
      · exact h.elim
    · exact h.elim
  · split at h
    · rename_i e
      obtain ⟨z', hz, h⟩ := onO_some h
      split at h
      · rename_i ez
        obtain ⟨a, h1, h⟩ := bndW_ok h
        obtain ⟨b, h2, h⟩ := bndW_ok h
        simp only [e, hz]; rw [if_pos ez]; simp only [h1, h2]; exact ⟨_, rfl, h⟩
      · exact h.elim
    · exact h.elim
  · split at h
    · rename_i e
      obtain ⟨z', hz, h⟩ := onO_some h
      obtain ⟨a, h1, h⟩ := bndW_ok h
      obtain ⟨b, h2, h⟩ := bndW_ok h
      simp only [e, hz, h1, h2]; exact ⟨_, rfl, h⟩
    · exact h.elim
  · exact h.elim

/-- What looks at values and memory alone. -/
def pureW (ρ : Operand → Option AV) (H : AHeap) (o : Oper) (k : AV → Prop) : Prop :=
  match o.op with
  | .move x => onO (ρ x) fun v => frc1 v k
  | .assign x => onO (ρ x) fun v => frc1 v k
  | .pick c a b => onO (ρ c) fun c => match c with
    | .bool c => (c = true → onO (ρ a) fun v => frc1 v k) ∧ (c = false → onO (ρ b) fun v => frc1 v k)
    | _ => False
  | .load t a => onO (ρ a) fun a => loadW P t a H k
  | .binOp op t x y _ => onO (ρ x) fun u => onO (ρ y) fun v => binW P op t (isC x || isC y) u v k
  | .indexAddr t x i => onO (ρ x) fun u => onO (ρ i) fun v => ixaW P t u v k
  | .index t x i => onO (ρ x) fun u => onO (ρ i) fun v => ixW P t u v k
  | .slice t x lo hi none => onO (ρ x) fun u => onO (aopt ρ lo) fun lo => onO (aopt ρ hi) fun hi => sliceW P t u lo hi k
  | .lookup t m key ok => onO (ρ m) fun m => onO (ρ key) fun key => ∃ r, aLookup P t m key ok H = some r ∧ k r
  | _ => onO (apure' P ρ H o) fun r => frc1 r k

theorem pureW_ok {ρ : Operand → Option AV} {H : AHeap} {o : Oper} {k : AV → Prop} (h : pureW P ρ H o k) : ∃ r, apure' P ρ H o = some r ∧ k r := by
  unfold pureW at h
  unfold apure' apure
  split at h
  · rename_i e; obtain ⟨v, h1, h⟩ := onO_some h; rw [frc1_eq] at h; exact ⟨v, by simp only [e]; exact h1, h⟩
  · rename_i e; obtain ⟨v, h1, h⟩ := onO_some h; rw [frc1_eq] at h; exact ⟨v, by simp only [e]; exact h1, h⟩
  · rename_i e; obtain ⟨c, h1, h⟩ := onO_some h
    split at h
    · rename_i c b'
      cases b' with
      | true => obtain ⟨v, h2, h⟩ := onO_some (h.1 rfl); rw [frc1_eq] at h; exact ⟨v, by simp only [e, h1]; exact h2, h⟩
      | false => obtain ⟨v, h2, h⟩ := onO_some (h.2 rfl); rw [frc1_eq] at h; exact ⟨v, by simp only [e, h1]; exact h2, h⟩
    · exact h.elim
  · rename_i e; obtain ⟨v, h1, h⟩ := onO_some h; obtain ⟨r, h2, h⟩ := loadW_ok P h; exact ⟨r, by simp only [e, h1]; exact h2, h⟩
  · rename_i e; obtain ⟨u, h1, h⟩ := onO_some h; obtain ⟨v, h2, h⟩ := onO_some h; obtain ⟨r, h3, h⟩ := binW_ok P h; exact ⟨r, by simp only [e, h1, h2]; exact h3, h⟩
  · rename_i e; obtain ⟨u, h1, h⟩ := onO_some h; obtain ⟨v, h2, h⟩ := onO_some h; obtain ⟨r, h3, h⟩ := ixaW_ok P h; exact ⟨r, by simp only [e, h1, h2]; exact h3, h⟩
  · rename_i e; obtain ⟨u, h1, h⟩ := onO_some h; obtain ⟨v, h2, h⟩ := onO_some h; obtain ⟨r, h3, h⟩ := ixW_ok P h; exact ⟨r, by simp only [e, h1, h2]; exact h3, h⟩
  · rename_i e; obtain ⟨u, h1, h⟩ := onO_some h; obtain ⟨v, h2, h⟩ := onO_some h; obtain ⟨x, h3, h⟩ := onO_some h; obtain ⟨r, h4, h⟩ := sliceW_ok P h; exact ⟨r, by simp only [e, h1, h2, h3]; exact h4, h⟩
  · rename_i e; obtain ⟨u, h1, h⟩ := onO_some h; obtain ⟨v, h2, h⟩ := onO_some h; obtain ⟨r, h3, h⟩ := h; exact ⟨r, by simp only [e, h1, h2]; exact h3, h⟩
  · obtain ⟨r, h1, h⟩ := onO_some h
    rw [frc1_eq] at h
    exact ⟨r, by simpa only [apure', apure] using h1, h⟩

/-- Memory, its blocks taken apart. -/
def frcHW : AHeap → (AHeap → Prop) → Prop
  | [], k => k []
  | ⟨al, fam, sh, body⟩ :: l, k => frcBR al fun al => frcHW l fun l => k (⟨al, fam, sh, body⟩ :: l)
theorem frcHW_eq : ∀ (H : AHeap) (k : AHeap → Prop), frcHW H k = k H
  | [], k => rfl
  | ⟨al, fam, sh, body⟩ :: l, k => by simp only [frcHW, frcBR_eq, frcHW_eq l]

def wrW (H : AHeap) (a : AV) (vs : List AV) (k : AHeap → Prop) : Prop :=
  match a with
  | .ptr b off => onO H[b]? fun o => match o.alive, o.body with
    | true, .cells cs ty => if vs.all one then ∃ cs', spl cs off vs = some cs' ∧ frcHW ((wkil b o.fam H).set b { o with body := .cells cs' ty }) k else False
    | _, _ => False
  | _ => False

theorem wrW_ok {H : AHeap} {a : AV} {vs : List AV} {k : AHeap → Prop} (h : wrW H a vs k) : ∃ H', wr H a vs = some H' ∧ k H' := by
  unfold wrW at h
  unfold wr
  split at h
  · obtain ⟨o, ho, h⟩ := onO_some h
    simp only [ho]
    split at h
    · rename_i e1 e2
      split at h
      · rename_i e3
        obtain ⟨cs', h1, h⟩ := h
        rw [frcHW_eq] at h
        simp only [e1] at h
        simp only [e1, e2]; rw [if_pos e3, h1]; exact ⟨_, rfl, h⟩
      · exact h.elim
    · exact h.elim
  · exact h.elim

def stoW (t : TypeId) (a v : AV) (H : AHeap) (k : AHeap → Prop) : Prop :=
  onO (tsz P t) fun n => if v.cells.length = n then wrW H a v.cells k else False

theorem stoW_ok {t : TypeId} {a v : AV} {H : AHeap} {k : AHeap → Prop} (h : stoW P t a v H k) : ∃ H', aStore P t a v H = some H' ∧ k H' := by
  unfold stoW at h
  unfold aStore
  obtain ⟨n, hn, h⟩ := onO_some h
  simp only [hn]
  split at h
  · rename_i e; rw [if_pos e]; exact wrW_ok h
  · exact h.elim

/-- Is it one that looks at values and memory alone? -/
def isPure (o : Oper) : Bool :=
  match o.op with
  | .move _ => true | .assign _ => true | .pick .. => true | .build .. => true | .nilCheck _ => true | .binOp .. => true | .unOp .. => true
  | .makeInterface .. => true | .makeFunc .. => true | .slice .. => true | .fieldAddr .. => true | .field .. => true | .indexAddr .. => true | .index .. => true | .extract .. => true
  | .load .. => true | .lookup .. => true
  | .call c => match c.callee with | .builtin .len => true | .builtin .max => true | .builtin .min => true | _ => false
  | _ => false

/-- An operation. -/
def opW (orc : Orc) (ρ : Operand → Option AV) (o : Oper) (H : AHeap) (k : AV → AHeap → Prop) : Prop :=
  match isPure o with
  | true => pureW P ρ H o fun r => k r H
  | false => match o.op with
    | .convert .. => match apure' P ρ H o with
      | some r => frc1 r fun r => k r H
      | none => ∃ x, aop P orc ρ o H = some x ∧ k x.1 x.2
    | .store t a x => onO (ρ a) fun a => onO (ρ x) fun x => stoW P t a x H fun H' => k (.tuple []) H'
    | .alloc _ => onO (aeff P ρ H o) fun x => frc1 x.1 fun r => frcHW x.2 fun H' => k r H'
    | .box .. => onO (aeff P ρ H o) fun x => frc1 x.1 fun r => frcHW x.2 fun H' => k r H'
    | .buildSlice .. => onO (aeff P ρ H o) fun x => frc1 x.1 fun r => frcHW x.2 fun H' => k r H'
    | .makeMap .. => onO (aeff P ρ H o) fun x => frc1 x.1 fun r => frcHW x.2 fun H' => k r H'
    | .makeSlice t l c => onO (ρ l) fun l => onO (ρ c) fun c => ∃ x, aMakeSlice P t l c H = some x ∧ k x.1 x.2
    | .call c => match c.callee with
      | .builtin .append => match c.args.toList, c.argTypes.toList with
        | [s, x], [t, t2] => onO (ρ s) fun s => onO (ρ x) fun x => ∃ y, aAppend P t t2 s x H = some y ∧ k y.1 y.2
        | _, _ => False
      | .value _ => onO (callee ρ c) fun (g, args) => ∃ y, acall P orc H g args = some y ∧ k y.1 y.2
      | _ => ∃ x, aop P orc ρ o H = some x ∧ k x.1 x.2
    | _ => ∃ x, aop P orc ρ o H = some x ∧ k x.1 x.2

theorem isPure_callee {ρ : Operand → Option AV} {o : Oper} (h : isPure o = true) (c : Call) (e : o.op = .call c) : callee ρ c = none := by
  unfold isPure at h
  simp only [e] at h
  unfold callee
  split
  · rename_i f hf; simp [hf] at h
  · rfl

theorem aop_nc {orc : Orc} {ρ : Operand → Option AV} {o : Oper} {H : AHeap} (h : ∀ c, o.op = .call c → callee ρ c = none) : aop P orc ρ o H = (match apure' P ρ H o with | some r => some (r, H) | none => aeff P ρ H o) := by
  unfold aop
  split
  · rename_i g args hx
    split at hx
    · rename_i c ho; rw [h c ho] at hx; cases hx
    · cases hx
  · rfl

theorem opW_ok {orc : Orc} {ρ : Operand → Option AV} {o : Oper} {H : AHeap} {k : AV → AHeap → Prop} (h : opW P orc ρ o H k) : ∃ r H', aop P orc ρ o H = some (r, H') ∧ k r H' := by
  have gen : (∃ x, aop P orc ρ o H = some x ∧ k x.1 x.2) → ∃ r H', aop P orc ρ o H = some (r, H') ∧ k r H' := fun ⟨x, h1, h2⟩ => ⟨x.1, x.2, h1, h2⟩
  have eff : ∀ {x : AV × AHeap}, (∀ c, o.op = .call c → callee ρ c = none) → apure' P ρ H o = none → aeff P ρ H o = some x → k x.1 x.2 → ∃ r H', aop P orc ρ o H = some (r, H') ∧ k r H' :=
    fun {x} h1 h2 h3 h4 => ⟨x.1, x.2, by rw [aop_nc P h1, h2]; exact h3, h4⟩
  unfold opW at h
  split at h
  · rename_i hp
    obtain ⟨r, h1, h⟩ := pureW_ok P h
    exact ⟨r, H, by rw [aop_nc P (isPure_callee hp), h1], h⟩
  · split at h
    · rename_i e
      split at h
      · rename_i r hr
        rw [frc1_eq] at h
        exact ⟨r, H, by rw [aop_nc P (by simp [e]), hr], h⟩
      · exact gen h
    · rename_i t a x e
      obtain ⟨a', h1, h⟩ := onO_some h
      obtain ⟨x', h2, h⟩ := onO_some h
      obtain ⟨H', h3, h⟩ := stoW_ok P h
      exact eff (x := (.tuple [], H')) (by simp [e]) (by simp only [apure', apure, e]) (by simp only [aeff, e, h1, h2, h3]) h
    · rename_i e
      obtain ⟨x, h1, h⟩ := onO_some h
      rw [frc1_eq, frcHW_eq] at h
      exact eff (by simp [e]) (by simp only [apure', apure, e]) h1 h
    · rename_i e
      obtain ⟨x, h1, h⟩ := onO_some h
      rw [frc1_eq, frcHW_eq] at h
      exact eff (by simp [e]) (by simp only [apure', apure, e]) h1 h
    · rename_i e
      obtain ⟨x, h1, h⟩ := onO_some h
      rw [frc1_eq, frcHW_eq] at h
      exact eff (by simp [e]) (by simp only [apure', apure, e]) h1 h
    · rename_i e
      obtain ⟨x, h1, h⟩ := onO_some h
      rw [frc1_eq, frcHW_eq] at h
      exact eff (by simp [e]) (by simp only [apure', apure, e]) h1 h
    · rename_i t l c e
      obtain ⟨l', h1, h⟩ := onO_some h
      obtain ⟨c', h2, h⟩ := onO_some h
      obtain ⟨x, h3, h⟩ := h
      exact eff (by simp [e]) (by simp only [apure', apure, e]) (by simp only [aeff, e, h1, h2]; exact h3) h
    · rename_i c e
      split at h
      · rename_i hc
        split at h
        · rename_i s x t t2 ha ht
          obtain ⟨s', h1, h⟩ := onO_some h
          obtain ⟨x', h2, h⟩ := onO_some h
          obtain ⟨y, h3, h⟩ := h
          exact eff (fun c' e' => by rw [e] at e'; cases e'; simp [callee, hc]) (by simp only [apure', apure, e, hc]) (by simp only [aeff, e, hc, ha, ht, h1, h2]; exact h3) h
        · exact h.elim
      · rename_i f hc
        obtain ⟨⟨g, args⟩, h1, y, h2, h⟩ := onO_some h
        exact ⟨y.1, y.2, by unfold aop; simp only [e, h1]; exact h2, h⟩
      · exact gen h
    · exact gen h
end W
end Go.Abs

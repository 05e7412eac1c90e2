/-
  A verified abstract interpreter for the model's code, part 1: abstract values, the relation between abstract and concrete memory, renaming.
-/
import Derived.WalkKit
set_option linter.unusedSimpArgs false
set_option linter.unusedVariables false
namespace Go.Abs

/-- A place in concrete memory: block, first cell, the block's number of cells. -/
structure Place where
  blk : Nat
  sh : Nat
  n : Nat

abbrev IMap := Nat → Option Place
abbrev Snap := Addr → Option Value
def noI : IMap := fun _ => none

inductive AV where
  | bool (b : Bool)
  | int (k : IntKind) (n : Int)
  | str (s : List UInt8)
  | nptr
  | ptr (b off : Nat)
  | rp (cs : List AV)
  | nslice
  | slice (b off len cap z : Nat)
  | rs (n z : Nat) (cs : List AV)
  | nmap
  | map (b : Nat)
  | func (fn : Fn) (first captured : List AV)
  | nfunc
  | iface (t : TypeId) (v : AV)
  | niface
  | agg (cs : List AV)
  | tuple (vs : List AV)
  deriving Inhabited

mutual
/-- The abstract value and the concrete one are the same. -/
def VR (sn : Snap) (ι : IMap) : AV → Value → Prop
  | .bool b, v => v = .bool b
  | .int k n, v => v = .int k n
  | .str s, v => ∃ ba : ByteArray, v = .string ba ∧ ba.data.toList = s
  | .nptr, v => v = .pointer none
  | .ptr b off, v => ∃ p, ι b = some p ∧ v = .pointer (some ⟨p.blk, p.sh + off, none⟩)
  | .rp cs, v => ∃ b o, v = .pointer (some ⟨b, o, none⟩) ∧ MR sn cs b o
  | .nslice, v => v = .slice none 0 0
  | .slice b off len cap z, v => ∃ p a cap', ι b = some p ∧ v = .slice (some a) len cap' ∧ len ≤ cap ∧ cap ≤ cap' ∧ (cap' ≠ 0 → a = ⟨p.blk, p.sh + off, none⟩ ∧ p.sh + off + cap' * z ≤ p.n)
  | .rs n z cs, v => (n = 0 ∧ cs = [] ∧ v = .slice none 0 0) ∨ ∃ (a : Addr) (cap : Nat), v = .slice (some a) n cap ∧ n ≤ cap ∧ cs.length = n * z ∧ MR sn cs a.block a.off ∧ (n ≠ 0 → a.spot = none)
  | .nmap, v => v = .map none
  | .map b, v => ∃ p, ι b = some p ∧ v = .map (some p.blk)
  | .func fn first captured, v => ∃ f c, v = .func fn f c ∧ LR sn ι first f.toList ∧ LR sn ι captured c.toList
  | .nfunc, v => v = .nilFunc
  | .iface t u, v => ∃ x, v = .iface t x ∧ VR sn ι u x
  | .niface, v => v = .nilIface
  | .agg cs, v => ∃ d, v = .agg d ∧ LR sn ι cs d.toList
  | .tuple cs, v => ∃ d, v = .tuple d ∧ LR sn ι cs d.toList
def LR (sn : Snap) (ι : IMap) : List AV → List Value → Prop
  | [], l => l = []
  | c :: cs, l => ∃ d ds, l = d :: ds ∧ VR sn ι c d ∧ LR sn ι cs ds
/-- Read-only cells, from here on. -/
def MR (sn : Snap) : List AV → Nat → Nat → Prop
  | [], _, _ => True
  | c :: cs, b, o => (∃ v, sn ⟨b, o, none⟩ = some v ∧ VR sn noI c v) ∧ MR sn cs b (o + 1)
end

mutual
def ren (f : Nat → Nat) : AV → AV
  | .ptr b off => .ptr (f b) off
  | .slice b off len cap z => .slice (f b) off len cap z
  | .map b => .map (f b)
  | .func fn first captured => .func fn (renL f first) (renL f captured)
  | .iface t v => .iface t (ren f v)
  | .agg cs => .agg (renL f cs)
  | .tuple cs => .tuple (renL f cs)
  | .bool b => .bool b
  | .int k n => .int k n
  | .str s => .str s
  | .nptr => .nptr
  | .rp cs => .rp cs
  | .nslice => .nslice
  | .rs n z cs => .rs n z cs
  | .nmap => .nmap
  | .nfunc => .nfunc
  | .niface => .niface
def renL (f : Nat → Nat) : List AV → List AV
  | [] => []
  | c :: cs => ren f c :: renL f cs
end

mutual
def exp (g : Nat → Option Nat) : AV → Option AV
  | .ptr b off => match g b with | some k => some (.ptr k off) | none => none
  | .slice b off len cap z => match g b with | some k => some (.slice k off len cap z) | none => none
  | .map b => match g b with | some k => some (.map k) | none => none
  | .func fn first captured => match expL g first, expL g captured with | some x, some y => some (.func fn x y) | _, _ => none
  | .iface t v => match exp g v with | some x => some (.iface t x) | none => none
  | .agg cs => match expL g cs with | some x => some (.agg x) | none => none
  | .tuple cs => match expL g cs with | some x => some (.tuple x) | none => none
  | .bool b => some (.bool b)
  | .int k n => some (.int k n)
  | .str s => some (.str s)
  | .nptr => some .nptr
  | .rp cs => some (.rp cs)
  | .nslice => some .nslice
  | .rs n z cs => some (.rs n z cs)
  | .nmap => some .nmap
  | .nfunc => some .nfunc
  | .niface => some .niface
def expL (g : Nat → Option Nat) : List AV → Option (List AV)
  | [] => some []
  | c :: cs => match exp g c, expL g cs with | some x, some y => some (x :: y) | _, _ => none
end

mutual
theorem VR_ren {sn : Snap} {ι : IMap} {f : Nat → Nat} : ∀ (u : AV) (v : Value), VR sn ι (ren f u) v ↔ VR sn (fun b => ι (f b)) u v
  | .ptr b off, v => by simp [ren, VR]
  | .slice b off len cap z, v => by simp [ren, VR]
  | .map b, v => by simp [ren, VR]
  | .func fn first captured, v => by simp [ren, VR, LR_ren first, LR_ren captured]
  | .iface t u, v => by simp [ren, VR, VR_ren u]
  | .agg cs, v => by simp [ren, VR, LR_ren cs]
  | .tuple cs, v => by simp [ren, VR, LR_ren cs]
  | .bool b, v => by simp [ren, VR]
  | .int k n, v => by simp [ren, VR]
  | .str s, v => by simp [ren, VR]
  | .nptr, v => by simp [ren, VR]
  | .rp cs, v => by simp [ren, VR]
  | .nslice, v => by simp [ren, VR]
  | .rs n z cs, v => by simp [ren, VR]
  | .nmap, v => by simp [ren, VR]
  | .nfunc, v => by simp [ren, VR]
  | .niface, v => by simp [ren, VR]
theorem LR_ren {sn : Snap} {ι : IMap} {f : Nat → Nat} : ∀ (us : List AV) (vs : List Value), LR sn ι (renL f us) vs ↔ LR sn (fun b => ι (f b)) us vs
  | [], vs => by simp [renL, LR]
  | u :: us, vs => by simp [renL, LR, VR_ren u, LR_ren us]
end

mutual
theorem exp_ren {f : Nat → Nat} {g : Nat → Option Nat} (h : ∀ i k, g i = some k → f k = i) : ∀ (v u : AV), exp g v = some u → v = ren f u
  | .ptr b off, u, e => by simp only [exp] at e; split at e <;> simp at e; subst e; simp [ren, h _ _ (by assumption)]
  | .slice b off len cap z, u, e => by simp only [exp] at e; split at e <;> simp at e; subst e; simp [ren, h _ _ (by assumption)]
  | .map b, u, e => by simp only [exp] at e; split at e <;> simp at e; subst e; simp [ren, h _ _ (by assumption)]
  | .func fn first captured, u, e => by
    simp only [exp] at e; split at e <;> simp at e; subst e
    simp only [ren]; rw [← expL_ren h first _ (by assumption), ← expL_ren h captured _ (by assumption)]
  | .iface t v, u, e => by
    simp only [exp] at e; split at e <;> simp at e; subst e
    simp only [ren]; rw [← exp_ren h v _ (by assumption)]
  | .agg cs, u, e => by
    simp only [exp] at e; split at e <;> simp at e; subst e
    simp only [ren]; rw [← expL_ren h cs _ (by assumption)]
  | .tuple cs, u, e => by
    simp only [exp] at e; split at e <;> simp at e; subst e
    simp only [ren]; rw [← expL_ren h cs _ (by assumption)]
  | .bool b, u, e => by simp [exp] at e; subst e; simp [ren]
  | .int k n, u, e => by simp [exp] at e; subst e; simp [ren]
  | .str s, u, e => by simp [exp] at e; subst e; simp [ren]
  | .nptr, u, e => by simp [exp] at e; subst e; simp [ren]
  | .rp cs, u, e => by simp [exp] at e; subst e; simp [ren]
  | .nslice, u, e => by simp [exp] at e; subst e; simp [ren]
  | .rs n z cs, u, e => by simp [exp] at e; subst e; simp [ren]
  | .nmap, u, e => by simp [exp] at e; subst e; simp [ren]
  | .nfunc, u, e => by simp [exp] at e; subst e; simp [ren]
  | .niface, u, e => by simp [exp] at e; subst e; simp [ren]
theorem expL_ren {f : Nat → Nat} {g : Nat → Option Nat} (h : ∀ i k, g i = some k → f k = i) : ∀ (vs us : List AV), expL g vs = some us → vs = renL f us
  | [], us, e => by simp [expL] at e; subst e; simp [renL]
  | v :: vs, us, e => by
    simp only [expL] at e; split at e <;> simp at e; subst e
    simp only [renL]; rw [← exp_ren h v _ (by assumption), ← expL_ren h vs _ (by assumption)]
end

/-- More is known of memory. -/
structure Le (sn sn' : Snap) (ι ι' : IMap) : Prop where
  sn : ∀ a v, sn a = some v → sn' a = some v
  ι : ∀ b p, ι b = some p → ι' b = some p

theorem Le.refl (sn : Snap) (ι : IMap) : Le sn sn ι ι := ⟨fun _ _ h => h, fun _ _ h => h⟩
theorem Le.trans {sn sn' sn'' : Snap} {ι ι' ι'' : IMap} (h : Le sn sn' ι ι') (h' : Le sn' sn'' ι' ι'') : Le sn sn'' ι ι'' :=
  ⟨fun a v e => h'.sn a v (h.sn a v e), fun b p e => h'.ι b p (h.ι b p e)⟩
theorem Le.none {sn sn' : Snap} {ι ι' : IMap} (h : Le sn sn' ι ι') : Le sn sn' noI noI := ⟨h.sn, fun _ _ h => h⟩

mutual
theorem VR_mono {sn sn' : Snap} {ι ι' : IMap} (h : Le sn sn' ι ι') : ∀ (u : AV) (v : Value), VR sn ι u v → VR sn' ι' u v
  | .ptr b off, v, e => by simp only [VR] at *; obtain ⟨p, h1, h2⟩ := e; exact ⟨p, h.ι _ _ h1, h2⟩
  | .slice b off len cap z, v, e => by simp only [VR] at *; obtain ⟨p, a, c, h1, h2⟩ := e; exact ⟨p, a, c, h.ι _ _ h1, h2⟩
  | .map b, v, e => by simp only [VR] at *; obtain ⟨p, h1, h2⟩ := e; exact ⟨p, h.ι _ _ h1, h2⟩
  | .func fn first captured, v, e => by
    simp only [VR] at *; obtain ⟨f, c, h1, h2, h3⟩ := e; exact ⟨f, c, h1, LR_mono h first _ h2, LR_mono h captured _ h3⟩
  | .iface t u, v, e => by simp only [VR] at *; obtain ⟨x, h1, h2⟩ := e; exact ⟨x, h1, VR_mono h u _ h2⟩
  | .agg cs, v, e => by simp only [VR] at *; obtain ⟨x, h1, h2⟩ := e; exact ⟨x, h1, LR_mono h cs _ h2⟩
  | .tuple cs, v, e => by simp only [VR] at *; obtain ⟨x, h1, h2⟩ := e; exact ⟨x, h1, LR_mono h cs _ h2⟩
  | .rp cs, v, e => by simp only [VR] at *; obtain ⟨b, o, h1, h2⟩ := e; exact ⟨b, o, h1, MR_mono h cs _ _ h2⟩
  | .rs n z cs, v, e => by
    simp only [VR] at *
    rcases e with e | ⟨a, c, h1, h2, h3, h4, h5⟩
    · exact .inl e
    · exact .inr ⟨a, c, h1, h2, h3, MR_mono h cs _ _ h4, h5⟩
  | .bool b, v, e => by simpa [VR] using e
  | .int k n, v, e => by simpa [VR] using e
  | .str s, v, e => by simpa [VR] using e
  | .nptr, v, e => by simpa [VR] using e
  | .nslice, v, e => by simpa [VR] using e
  | .nmap, v, e => by simpa [VR] using e
  | .nfunc, v, e => by simpa [VR] using e
  | .niface, v, e => by simpa [VR] using e
theorem LR_mono {sn sn' : Snap} {ι ι' : IMap} (h : Le sn sn' ι ι') : ∀ (us : List AV) (vs : List Value), LR sn ι us vs → LR sn' ι' us vs
  | [], vs, e => by simpa [LR] using e
  | u :: us, vs, e => by
    simp only [LR] at *; obtain ⟨d, ds, h1, h2, h3⟩ := e; exact ⟨d, ds, h1, VR_mono h u _ h2, LR_mono h us _ h3⟩
theorem MR_mono {sn sn' : Snap} {ι ι' : IMap} (h : Le sn sn' ι ι') : ∀ (us : List AV) (b o : Nat), MR sn us b o → MR sn' us b o
  | [], b, o, e => by simp [MR]
  | u :: us, b, o, e => by
    simp only [MR] at *; obtain ⟨⟨v, h1, h2⟩, h3⟩ := e; exact ⟨⟨v, h.sn _ _ h1, VR_mono h.none u _ h2⟩, MR_mono h us _ _ h3⟩
end

theorem LR.length {sn : Snap} {ι : IMap} : ∀ {us : List AV} {vs : List Value}, LR sn ι us vs → vs.length = us.length
  | [], vs, e => by simp [LR] at e; simp [e]
  | u :: us, vs, e => by simp only [LR] at e; obtain ⟨d, ds, rfl, _, h⟩ := e; simp [LR.length h]

theorem LR_iff {sn : Snap} {ι : IMap} : ∀ {us : List AV} {vs : List Value}, LR sn ι us vs ↔ vs.length = us.length ∧ ∀ (i : Nat) (u : AV), us[i]? = some u → ∃ v, vs[i]? = some v ∧ VR sn ι u v
  | [], vs => by simp [LR]
  | u :: us, vs => by
    simp only [LR]
    constructor
    · rintro ⟨d, ds, rfl, h, h'⟩
      obtain ⟨h1, h2⟩ := LR_iff.1 h'
      refine ⟨by simp [h1], fun i x hx => ?_⟩
      cases i with
      | zero => simp at hx; subst hx; exact ⟨d, rfl, h⟩
      | succ i => simp at hx; simpa using h2 i x hx
    · rintro ⟨h1, h2⟩
      match vs, h1 with
      | d :: ds, h1 =>
        refine ⟨d, ds, rfl, ?_, LR_iff.2 ⟨by simpa using h1, fun i x hx => ?_⟩⟩
        · obtain ⟨v, h3, h4⟩ := h2 0 u rfl; simp at h3; subst h3; exact h4
        · simpa using h2 (i + 1) x (by simpa using hx)

theorem LR.get {sn : Snap} {ι : IMap} {us : List AV} {vs : List Value} (h : LR sn ι us vs) {i : Nat} {u : AV} (hu : us[i]? = some u) : ∃ v, vs[i]? = some v ∧ VR sn ι u v :=
  (LR_iff.1 h).2 i u hu

theorem LR.set {sn : Snap} {ι : IMap} {us : List AV} {vs : List Value} (h : LR sn ι us vs) (i : Nat) {u : AV} {v : Value} (hv : VR sn ι u v) : LR sn ι (us.set i u) (vs.set i v) := by
  obtain ⟨h1, h2⟩ := LR_iff.1 h
  refine LR_iff.2 ⟨by simp [h1], fun j x hx => ?_⟩
  rw [List.getElem?_set] at hx ⊢
  split at hx
  · split at hx
    · simp at hx; subst hx; rename_i e hl; subst e; exact ⟨v, by simp [h1, hl], hv⟩
    · simp at hx
  · rename_i hne; rw [if_neg hne]; exact h2 j x hx

theorem LR.append {sn : Snap} {ι : IMap} : ∀ {us us' : List AV} {vs vs' : List Value}, LR sn ι us vs → LR sn ι us' vs' → LR sn ι (us ++ us') (vs ++ vs')
  | [], _, vs, _, h, h' => by simp [LR] at h; subst h; simpa using h'
  | u :: us, us', vs, vs', h, h' => by
    simp only [LR] at h; obtain ⟨d, ds, rfl, h1, h2⟩ := h
    simp only [List.cons_append, LR]; exact ⟨d, ds ++ vs', rfl, h1, LR.append h2 h'⟩

theorem LR.take {sn : Snap} {ι : IMap} {us : List AV} {vs : List Value} (h : LR sn ι us vs) (n : Nat) : LR sn ι (us.take n) (vs.take n) := by
  obtain ⟨h1, h2⟩ := LR_iff.1 h
  refine LR_iff.2 ⟨by simp [h1], fun j x hx => ?_⟩
  rw [List.getElem?_take] at hx ⊢
  split at hx
  · rw [if_pos (by assumption)]; exact h2 j x hx
  · simp at hx

theorem LR.drop {sn : Snap} {ι : IMap} {us : List AV} {vs : List Value} (h : LR sn ι us vs) (n : Nat) : LR sn ι (us.drop n) (vs.drop n) := by
  obtain ⟨h1, h2⟩ := LR_iff.1 h
  refine LR_iff.2 ⟨by simp [h1], fun j x hx => ?_⟩
  rw [List.getElem?_drop] at hx ⊢
  exact h2 _ x hx

theorem MR.get {sn : Snap} : ∀ {us : List AV} {b o : Nat} (_ : MR sn us b o) {i : Nat} {u : AV} (_ : us[i]? = some u), ∃ v, sn ⟨b, o + i, none⟩ = some v ∧ VR sn noI u v
  | [], b, o, h, i, u, hu => by simp at hu
  | c :: cs, b, o, h, i, u, hu => by
    simp only [MR] at h
    cases i with
    | zero => simp at hu; subst hu; simpa using h.1
    | succ i =>
      simp at hu
      obtain ⟨v, h1, h2⟩ := MR.get h.2 hu
      exact ⟨v, by rw [← h1]; congr 2; omega, h2⟩

theorem MR.drop {sn : Snap} : ∀ {us : List AV} {b o : Nat} (_ : MR sn us b o) (n : Nat), MR sn (us.drop n) b (o + n)
  | us, b, o, h, 0 => by simpa using h
  | [], b, o, h, n + 1 => by simp [MR]
  | c :: cs, b, o, h, n + 1 => by
    simp only [MR] at h
    have := MR.drop h.2 n
    rw [List.drop_succ_cons]
    rwa [show o + (n + 1) = o + 1 + n from by omega]

theorem MR.take {sn : Snap} : ∀ {us : List AV} {b o : Nat} (_ : MR sn us b o) (n : Nat), MR sn (us.take n) b o
  | us, b, o, h, 0 => by simp [MR]
  | [], b, o, h, n + 1 => by simp [MR]
  | c :: cs, b, o, h, n + 1 => by
    simp only [MR] at h
    rw [List.take_succ_cons]
    simp only [MR]
    exact ⟨h.1, MR.take h.2 n⟩

theorem VR_noI {sn : Snap} {ι : IMap} {u : AV} {v : Value} (h : VR sn noI u v) : VR sn ι u v := VR_mono ⟨fun _ _ h => h, fun _ _ h => by simp [noI] at h⟩ _ _ h

end Go.Abs

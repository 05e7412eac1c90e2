/-
  A verified abstract interpreter, part 5: more of the pure operations.
-/
import Derived.Test.YtgbimoeclgfkfabGreatDoorAbs4
import Derived.Lib.Strings
set_option linter.unusedSimpArgs false
set_option linter.unusedVariables false
namespace Go.Abs
open Go.RowKit

def aUn (op : UnOp) (x : AV) : Option AV :=
  match op, x with
  | .neg, .int k n => some (.int k (k.wrap (0 - n)))
  | .xor, .int k n => some (.int k (bits .xor k (if k.signed then -1 else k.max) n))
  | .not, .bool b => some (.bool !b)
  | _, _ => none

def aConv (P : Program) (src dst : TypeId) (x : AV) : Option AV :=
  match x with
  | .int _ n => match P.underlying src, P.underlying dst with
    | some _, some (.int k) => some (.int k (k.wrap n))
    | _, _ => none
  | .str s => match P.underlying src, P.underlying dst with
    | some _, some .string => some (.str s)
    | _, _ => none
  | _ => none

def bnd (x : Option AV) (dflt top : Nat) : Option Nat :=
  match x with
  | none => some dflt
  | some (.int _ i) => if 0 ≤ i ∧ i ≤ (top : Int) then some i.toNat else none
  | _ => none

def aSlice (P : Program) (t : TypeId) (x : AV) (lo hi : Option AV) : Option AV :=
  match x with
  | .str s => match P.underlying t with
    | some .string => match bnd hi s.length s.length with
      | some h => match bnd lo 0 h with
        | some l => some (.str ((s.drop l).take (h - l)))
        | none => none
      | none => none
    | _ => none
  | .slice b off len cap z => match P.underlying t with
    | some (.slice e) => match tsz P e with
      | some z' => if z' = z then
          match bnd hi len cap with
          | some h => match bnd lo 0 h with
            | some l => some (.slice b (off + l * z) (h - l) (cap - l) z)
            | none => none
          | none => none
        else none
      | none => none
    | _ => none
  | .rs n z cs => match P.underlying t with
    | some (.slice e) => match tsz P e with
      | some z' => if z' = z then
          match bnd hi n n with
          | some h => match bnd lo 0 h with
            | some l => some (.rs (h - l) z ((cs.drop (l * z)).take ((h - l) * z)))
            | none => none
          | none => none
        else none
      | none => none
    | _ => none
  | .nslice => match P.underlying t with
    | some (.slice e) => match tsz P e with
      | some _ => match bnd hi 0 0 with
        | some h => match bnd lo 0 h with
          | some _ => some .nslice
          | none => none
        | none => none
      | none => none
    | _ => none
  | _ => none

def fieldOf (P : Program) (s : TypeId) (f : Nat) : Option Field :=
  match P.underlying s with
  | some (.struct fs) => fs[f]?
  | _ => none

def aFieldAddr (P : Program) (s : TypeId) (x : AV) (f : Nat) : Option AV :=
  match fieldOf P s f with
  | some fd => match tsz P fd.type with
    | some (_ + 1) => match x with
      | .ptr b off => some (.ptr b (off + fd.offset))
      | .rp cs => some (.rp (cs.drop fd.offset))
      | _ => none
    | _ => none
  | none => none

def aField (P : Program) (s : TypeId) (x : AV) (f : Nat) : Option AV :=
  match fieldOf P s f with
  | some fd => match x with
    | .agg cs => apart P fd.type cs fd.offset
    | _ => none
  | none => none

def aIndexAddr (P : Program) (t : TypeId) (x i : AV) : Option AV :=
  match i with
  | .int _ i =>
    match P.underlying t with
    | some (.slice e) => match tsz P e with
      | some z' => match x with
        | .slice b off len _ z => if 0 ≤ i ∧ i < (len : Int) then (if z' = z then some (.ptr b (off + i.toNat * z)) else none) else none
        | .rs n z cs => if 0 ≤ i ∧ i < (n : Int) then (if z' = z then some (.rp (cs.drop (i.toNat * z))) else none) else none
        | _ => none
      | none => none
    | some (.array n e) => match tsz P e with
      | some z => if 0 ≤ i ∧ i < (n : Int) then
          match x with
          | .ptr b off => some (.ptr b (off + i.toNat * z))
          | .rp cs => some (.rp (cs.drop (i.toNat * z)))
          | _ => none
        else none
      | none => none
    | _ => none
  | _ => none

def aIndex (P : Program) (t : TypeId) (x i : AV) : Option AV :=
  match i with
  | .int _ i =>
    match x with
    | .str s => match P.underlying t with
      | some .string => if 0 ≤ i then match s[i.toNat]? with | some b => some (.int .u8 b.toNat) | none => none else none
      | _ => none
    | .agg cs => match P.underlying t with
      | some (.array n e) => match tsz P e with
        | some z => if 0 ≤ i ∧ i < (n : Int) then apart P e cs (i.toNat * z) else none
        | none => none
      | _ => none
    | _ => none
  | _ => none

def aNil (x : AV) : Option AV :=
  match x with
  | .nptr => none
  | .niface => none
  | .nfunc => none
  | .func (.method _) _ _ => none
  | x => some x

def aMkIface (P : Program) (t : TypeId) (x : AV) : Option AV := if P.concrete t then some (.iface t x) else none

def aExtract (x : AV) (i : Nat) : Option AV := match x with | .tuple vs => vs[i]? | _ => none

def mapObj (H : AHeap) (b : Nat) : Option (List (AV × AV × Nat) × Nat) :=
  match H[b]? with
  | some o => match o.alive, o.body with
    | true, .map es clock => some (es, clock)
    | _, _ => none
  | none => none

def aLen (P : Program) (t : TypeId) (x : AV) (H : AHeap) : Option AV :=
  match P.underlying t with
  | some .string => match x with | .str s => some (.int .i64 s.length) | _ => none
  | some (.array n _) => some (.int .i64 n)
  | some (.slice _) => match x with
    | .nslice => some (.int .i64 0)
    | .slice _ _ len _ _ => some (.int .i64 len)
    | .rs n _ _ => some (.int .i64 n)
    | _ => none
  | some (.map _ _) => match x with
    | .nmap => some (.int .i64 0)
    | .map b => match mapObj H b with | some (es, _) => some (.int .i64 es.length) | none => none
    | _ => none
  | _ => none

def aMax2 (x y : AV) : Option AV := match x, y with | .int k a, .int _ b => some (.int k (if b > a then b else a)) | _, _ => none
def aMin2 (x y : AV) : Option AV := match x, y with | .int k a, .int _ b => some (.int k (if b < a then b else a)) | _, _ => none
def aFold (f : AV → AV → Option AV) (x : AV) : List AV → Option AV
  | [] => some x
  | y :: l => match f x y with | some z => aFold f z l | none => none

/-- vs in the place of as many, from off on. -/
def spl : List AV → Nat → List AV → Option (List AV)
  | cs, 0, [] => some cs
  | _ :: cs, 0, v :: vs => match spl cs 0 vs with | some r => some (v :: r) | none => none
  | [], 0, _ :: _ => none
  | c :: cs, n + 1, vs => match spl cs n vs with | some r => some (c :: r) | none => none
  | [], _ + 1, _ => none

theorem spl_some : ∀ {cs : List AV} {off : Nat} {vs r : List AV}, spl cs off vs = some r → off + vs.length ≤ cs.length ∧ r = cs.take off ++ vs ++ cs.drop (off + vs.length)
  | cs, 0, [], r, h => by simp [spl] at h; subst h; simp
  | c :: cs, 0, v :: vs, r, h => by
    simp only [spl] at h; split at h <;> simp at h
    subst h; rename_i e; obtain ⟨h1, rfl⟩ := spl_some e
    simp at h1 ⊢; exact h1
  | [], 0, _ :: _, r, h => by simp [spl] at h
  | c :: cs, n + 1, vs, r, h => by
    simp only [spl] at h; split at h <;> simp at h
    subst h; rename_i e; obtain ⟨h1, rfl⟩ := spl_some e
    refine ⟨by simp; omega, ?_⟩
    rw [show n + 1 + vs.length = (n + vs.length) + 1 from by omega]; simp
  | [], n + 1, vs, r, h => by simp [spl] at h

def aFill (place : Nat → Option (Nat × Nat)) (cs : List AV) : List (Nat × AV) → Option (List AV)
  | [] => some cs
  | (i, v) :: rest =>
    match place i with
    | none => none
    | some (off, size) => if v.cells.length = size then
        match spl cs off v.cells with
        | some cs' => aFill place cs' rest
        | none => none
      else none

def fplace (P : Program) (t : TypeId) (i : Nat) : Option (Nat × Nat) :=
  match fieldOf P t i with
  | some f => match tsz P f.type with
    | some n => some (f.offset, n)
    | none => none
  | none => none

def allSized (P : Program) (t : TypeId) : Bool :=
  match P.underlying t with
  | some (.struct fs) => fs.toList.all fun f => (tsz P f.type).isSome
  | _ => false

def aBuild (P : Program) (t : TypeId) (parts : List (Nat × AV)) : Option AV :=
  match tzero P t with
  | some z =>
    match P.underlying t with
    | some (.struct _) => if allSized P t then (match aFill (fplace P t) z.cells parts with | some cs => some (.agg cs) | none => none) else none
    | some (.array _ e) => match tsz P e with
      | some n => match aFill (fun i => some (i * n, n)) z.cells parts with | some cs => some (.agg cs) | none => none
      | none => none
    | _ => none
  | none => none

section pure
variable {P : Program} {sn : Snap} {ι : IMap} {H : AHeap} {W : World}

theorem aUn_sound {op : UnOp} {x u : AV} (h : aUn op x = some u) {x' : Value} (hx : VR sn ι x x') (w : World) : ∃ z, (Op.unary op x').run P w = .ok z w ∧ VR sn ι u z := by
  unfold aUn at h
  split at h <;> simp at h
  all_goals subst h
  · cases hx.int; exact ex_int (by simp [Op.unary, Op.intArith])
  · cases hx.int; exact ex_int (by simp [Op.unary, intBits_xor])
  · cases hx.bool; exact ex_bool (by simp [Op.unary])

theorem aConv_sound {src dst : TypeId} {x u : AV} (h : aConv P src dst x = some u) {x' : Value} (hx : VR sn ι x x') (w : World) : ∃ z, (convert src dst x').run P w = .ok z w ∧ VR sn ι u z := by
  unfold aConv at h
  split at h
  · split at h <;> simp at h
    subst h; cases hx.int; rename_i h1 h2
    exact ex_int (by simp [convert, run_underlying h1, run_underlying h2, Conv.intToInt])
  · split at h <;> simp at h
    subst h; obtain ⟨ba, rfl, hb⟩ := hx.str; rename_i h1 h2
    exact ⟨.string ba, by simp [convert, run_underlying h1, run_underlying h2], vr_str hb⟩
  · simp at h

/-- An optional bound. -/
def OVR (sn : Snap) (ι : IMap) : Option AV → Option Value → Prop
  | none, v => v = none
  | some u, v => ∃ x, v = some x ∧ VR sn ι u x

theorem bnd_spec {x : Option AV} {d top n : Nat} (h : bnd x d top = some n) {x' : Option Value} (hx : OVR sn ι x x') :
    (x' = none ∧ n = d) ∨ ∃ k i, x' = some (.int k i) ∧ 0 ≤ i ∧ i ≤ (top : Int) ∧ n = i.toNat := by
  unfold bnd at h
  split at h
  · simp at h; subst h; simp only [OVR] at hx; exact .inl ⟨hx, rfl⟩
  · split at h <;> simp at h
    subst h; simp only [OVR] at hx; obtain ⟨v, rfl, hv⟩ := hx; cases hv.int; rename_i hb
    exact .inr ⟨_, _, rfl, hb.1, hb.2, rfl⟩
  · simp at h

theorem sliceBounds_run {isS : Bool} {len cap cap' h l : Nat} {lo hi : Option AV} {lo' hi' : Option Value} (hh : bnd hi len cap = some h) (hl : bnd lo 0 h = some l) (hc : len ≤ cap) (hc' : cap ≤ cap')
    (hlo : OVR sn ι lo lo') (hhi : OVR sn ι hi hi') (w : World) : l ≤ h ∧ h ≤ cap ∧ (Instr.sliceBounds isS len cap' lo' hi' none).run P w = .ok (l, h, cap') w := by
  rcases bnd_spec hh hhi with ⟨rfl, rfl⟩ | ⟨k, i, rfl, i0, i1, rfl⟩ <;> rcases bnd_spec hl hlo with ⟨rfl, rfl⟩ | ⟨k', j, rfl, j0, j1, rfl⟩
  · exact ⟨by omega, by omega, by simp [Instr.sliceBounds]⟩
  · exact ⟨by omega, by omega, by simp [Instr.sliceBounds, Instr.sliceBound, asIntOf, j0, j1]⟩
  · have : i ≤ (cap' : Int) := by omega
    exact ⟨by omega, by omega, by simp [Instr.sliceBounds, Instr.sliceBound, asIntOf, i0, this]⟩
  · have : i ≤ (cap' : Int) := by omega
    exact ⟨by omega, by omega, by simp only [Instr.sliceBounds, Instr.sliceBound, asIntOf, Sem.run_bind, Sem.run_pure, Result.andThen_ok, i0, this, j0, j1, and_self, if_true]⟩

theorem aSlice_sound {t : TypeId} {x : AV} {lo hi : Option AV} {u : AV} (h : aSlice P t x lo hi = some u) {x' : Value} (hx : VR sn ι x x') {lo' hi' : Option Value} (hlo : OVR sn ι lo lo') (hhi : OVR sn ι hi hi') (w : World) :
    ∃ z, (Instr.sliceAt t x' lo' hi' none).run P w = .ok z w ∧ VR sn ι u z := by
  unfold aSlice at h
  split at h
  · -- a string
    split at h <;> try (simp at h; done)
    rename_i s _ ht
    split at h <;> try (simp at h; done)
    rename_i n hn
    split at h <;> simp at h
    subst h; rename_i l hl
    obtain ⟨ba, rfl, hb⟩ := hx.str
    have hsz : ba.size = s.length := by rw [← hb]; cases ba; rfl
    obtain ⟨h1, h2, h3⟩ := sliceBounds_run (P := P) (isS := false) hn hl (Nat.le_refl _) (Nat.le_refl _) hlo hhi w
    refine ⟨.string (ba.extract l n), ?_, vr_str ?_⟩
    · simp only [Instr.sliceAt, Instr.slice, Sem.run_bind, run_underlying ht, Result.andThen_ok, Option.isSome_none, Bool.false_eq_true, if_false, hsz, h3, Sem.run_pure]
    · rw [Lib.extract_data, hb]
  · -- a slice of the call's own
    split at h <;> try (simp at h; done)
    rename_i b off len cap z _ e ht
    split at h <;> try (simp at h; done)
    rename_i z' hz
    split at h <;> try (simp at h; done)
    rename_i hzz; subst hzz
    split at h <;> try (simp at h; done)
    rename_i n hn
    split at h <;> simp at h
    subst h; rename_i l hl
    obtain ⟨p, a, cap', hp, rfl, hlc, hcc, hne⟩ := hx.slice
    obtain ⟨h1, h2, h3⟩ := sliceBounds_run (P := P) (isS := true) hn hl hlc hcc hlo hhi w
    refine ⟨.slice (if cap' = l then some a else (some a).map (·.add (l * z'))) (n - l) (cap' - l), ?_, ?_⟩
    · simp only [Instr.sliceAt, Instr.slice, Sem.run_bind, run_underlying ht, Result.andThen_ok, h3, tsz_run hz, Sem.run_pure]
    · simp only [VR]
      by_cases hcl : cap' = l
      · exact ⟨p, a, cap' - l, hp, by simp [hcl], by omega, by omega, by omega⟩
      · refine ⟨p, a.add (l * z'), cap' - l, hp, by simp [hcl], by omega, by omega, fun _ => ?_⟩
        obtain ⟨rfl, hb⟩ := hne (by omega)
        refine ⟨by rw [addr_add, Nat.add_assoc], ?_⟩
        have : l * z' + (cap' - l) * z' = cap' * z' := by rw [← Nat.add_mul]; congr 1; omega
        omega
  · -- a read-only slice
    split at h <;> try (simp at h; done)
    rename_i n0 z cs _ e ht
    split at h <;> try (simp at h; done)
    rename_i z' hz
    split at h <;> try (simp at h; done)
    rename_i hzz; subst hzz
    split at h <;> try (simp at h; done)
    rename_i n hn
    split at h <;> simp at h
    subst h; rename_i l hl
    rcases hx.rs with ⟨rfl, rfl, rfl⟩ | ⟨a, cap, rfl, hc, hcs, hm, hsp⟩
    · obtain ⟨h1, h2, h3⟩ := sliceBounds_run (P := P) (isS := true) hn hl (Nat.le_refl _) (Nat.le_refl _) hlo hhi w
      have hn0 : n = 0 := by omega
      have hl0 : l = 0 := by omega
      subst hn0; subst hl0
      refine ⟨.slice none 0 0, ?_, by simp [VR]⟩
      simp only [Instr.sliceAt, Instr.slice, Sem.run_bind, run_underlying ht, Result.andThen_ok, h3, tsz_run hz, Sem.run_pure]
      simp
    obtain ⟨h1, h2, h3⟩ := sliceBounds_run (P := P) (isS := true) hn hl (Nat.le_refl _) hc hlo hhi w
    refine ⟨.slice (if cap = l then some a else (some a).map (·.add (l * z'))) (n - l) (cap - l), ?_, ?_⟩
    · simp only [Instr.sliceAt, Instr.slice, Sem.run_bind, run_underlying ht, Result.andThen_ok, h3, tsz_run hz, Sem.run_pure]
    · have hlen : ((cs.drop (l * z')).take ((n - l) * z')).length = (n - l) * z' := by
        simp only [List.length_take, List.length_drop, hcs]
        have : (n - l) * z' + l * z' ≤ n0 * z' := by rw [← Nat.add_mul]; exact Nat.mul_le_mul_right _ (by omega)
        omega
      simp only [VR]
      right
      by_cases hcl : cap = l
      · have h0 : n - l = 0 := by omega
        refine ⟨a, cap - l, by simp [hcl], by omega, hlen, by simp [h0, MR], fun hne => absurd h0 hne⟩
      · have hb : (a.add (l * z')).block = a.block := by unfold Addr.add; split <;> rfl
        have ho : (a.add (l * z')).off = a.off + l * z' := by unfold Addr.add; split <;> simp_all
        have hs : a.spot = none → (a.add (l * z')).spot = none := fun h => by unfold Addr.add; split <;> simp_all
        exact ⟨a.add (l * z'), cap - l, by simp [hcl], by omega, hlen, by rw [hb, ho]; exact (hm.drop _).take _, fun hne => hs (hsp (by omega))⟩
  · -- nil
    split at h <;> try (simp at h; done)
    rename_i e ht
    split at h <;> try (simp at h; done)
    rename_i z hz
    split at h <;> try (simp at h; done)
    rename_i n hn
    split at h <;> simp at h
    subst h; rename_i l hl
    cases hx.nslice
    obtain ⟨h1, h2, h3⟩ := sliceBounds_run (P := P) (isS := true) hn hl (Nat.le_refl _) (Nat.le_refl _) hlo hhi w
    have h2 : n = 0 := by omega
    have h1 : l = 0 := by omega
    subst h1; subst h2
    exact ⟨.slice none 0 0, by simp [Instr.sliceAt, Instr.slice, run_underlying ht, h3, tsz_run hz], by simp [VR]⟩
  · simp at h

theorem fieldOf_some {s : TypeId} {f : Nat} {fd : Field} (h : fieldOf P s f = some fd) : ∃ fs, P.underlying s = some (.struct fs) ∧ fs[f]? = some fd := by
  unfold fieldOf at h
  split at h
  · exact ⟨_, by assumption, h⟩
  · simp at h

theorem aFieldAddr_sound {s : TypeId} {x : AV} {f : Nat} {u : AV} (h : aFieldAddr P s x f = some u) {x' : Value} (hx : VR sn ι x x') (w : World) :
    ∃ z, (Instr.fieldAt s x' f).run P w = .ok z w ∧ VR sn ι u z := by
  unfold aFieldAddr at h
  split at h <;> try (simp at h; done)
  rename_i fd hfd
  obtain ⟨fs, hs, hf⟩ := fieldOf_some hfd
  split at h <;> try (simp at h; done)
  rename_i n hn
  split at h <;> simp at h
  · subst h; obtain ⟨p, hp, rfl⟩ := hx.ptr
    refine ⟨.pointer (some ⟨p.blk, p.sh + (_ + fd.offset), none⟩), ?_, by simp only [VR]; exact ⟨p, hp, rfl⟩⟩
    simp only [Instr.fieldAt, Sem.run_bind, run_underlying hs, Result.andThen_ok, hf, Instr.sureAddr, Sem.run_pure, fieldPlace, tsz_run hn, addr_add, Nat.add_assoc]
    simp [addr_add, Nat.add_assoc]
  · subst h; obtain ⟨b, o, rfl, hm⟩ := hx.rp
    refine ⟨.pointer (some ⟨b, o + fd.offset, none⟩), ?_, by simp only [VR]; exact ⟨b, _, rfl, hm.drop _⟩⟩
    simp only [Instr.fieldAt, Sem.run_bind, run_underlying hs, Result.andThen_ok, hf, Instr.sureAddr, Sem.run_pure, fieldPlace, tsz_run hn, addr_add]
    simp [addr_add]

theorem aField_sound {s : TypeId} {x : AV} {f : Nat} {u : AV} (h : aField P s x f = some u) {x' : Value} (hx : VR sn ι x x') (w : World) :
    ∃ z, (Instr.field s x' f).run P w = .ok z w ∧ VR sn ι u z := by
  unfold aField at h
  split at h <;> try (simp at h; done)
  rename_i fd hfd
  obtain ⟨fs, hs, hf⟩ := fieldOf_some hfd
  split at h <;> try (simp at h; done)
  obtain ⟨d, rfl, hd⟩ := hx.agg
  obtain ⟨z, h1, h2⟩ := part_sound h hd w
  exact ⟨z, by simp only [Instr.field, Sem.run_bind, run_underlying hs, Result.andThen_ok, hf, asAgg, Sem.run_pure, h1], h2⟩

theorem aIndexAddr_sound {t : TypeId} {x i u : AV} (h : aIndexAddr P t x i = some u) {x' i' : Value} (hx : VR sn ι x x') (hi : VR sn ι i i') (w : World) :
    ∃ z, (Instr.indexAt t x' i').run P w = .ok z w ∧ VR sn ι u z := by
  unfold aIndexAddr at h
  split at h <;> try (simp at h; done)
  cases hi.int
  split at h
  · rename_i e ht
    split at h <;> try (simp at h; done)
    rename_i z' hz
    split at h
    · split at h <;> try (simp at h; done)
      rename_i hb
      split at h <;> simp at h
      subst h; rename_i hzz; subst hzz
      obtain ⟨p, a, cap', hp, rfl, hlc, hcc, hne⟩ := hx.slice
      obtain ⟨rfl, hbb⟩ := hne (by omega)
      refine ⟨.pointer (some ⟨p.blk, p.sh + (_ + _), none⟩), ?_, by simp only [VR]; exact ⟨p, hp, rfl⟩⟩
      simp [Instr.indexAt, asIntOf, run_underlying ht, hb, tsz_run hz, addr_add, Nat.add_assoc]
    · split at h <;> try (simp at h; done)
      rename_i hb
      split at h <;> simp at h
      subst h; rename_i hzz; subst hzz
      rcases hx.rs with ⟨rfl, _, _⟩ | ⟨⟨b, o, sp⟩, cap, rfl, hc, hcs, hm, hsp⟩
      · omega
      have hsp0 : sp = none := hsp (by omega)
      subst hsp0
      refine ⟨.pointer (some ⟨b, o + _, none⟩), ?_, by simp only [VR]; exact ⟨b, _, rfl, hm.drop _⟩⟩
      simp [Instr.indexAt, asIntOf, run_underlying ht, hb, tsz_run hz, addr_add]
    · simp at h
  · rename_i n e ht
    split at h <;> try (simp at h; done)
    rename_i z hz
    split at h <;> try (simp at h; done)
    rename_i hb
    split at h <;> simp at h
    · subst h; obtain ⟨p, hp, rfl⟩ := hx.ptr
      refine ⟨.pointer (some ⟨p.blk, p.sh + (_ + _), none⟩), ?_, by simp only [VR]; exact ⟨p, hp, rfl⟩⟩
      simp [Instr.indexAt, asIntOf, run_underlying ht, hb, tsz_run hz, addr_add, Nat.add_assoc, Instr.sureAddr]
    · subst h; obtain ⟨b, o, rfl, hm⟩ := hx.rp
      refine ⟨.pointer (some ⟨b, o + _, none⟩), ?_, by simp only [VR]; exact ⟨b, _, rfl, hm.drop _⟩⟩
      simp [Instr.indexAt, asIntOf, run_underlying ht, hb, tsz_run hz, addr_add, Instr.sureAddr]
  · simp at h

theorem aIndex_sound {t : TypeId} {x i u : AV} (h : aIndex P t x i = some u) {x' i' : Value} (hx : VR sn ι x x') (hi : VR sn ι i i') (w : World) :
    ∃ z, (Instr.index t x' i').run P w = .ok z w ∧ VR sn ι u z := by
  unfold aIndex at h
  split at h <;> try (simp at h; done)
  cases hi.int
  split at h
  · split at h <;> try (simp at h; done)
    rename_i ht
    split at h <;> try (simp at h; done)
    rename_i h0
    split at h <;> simp at h
    subst h; rename_i b hb
    obtain ⟨ba, rfl, hba⟩ := hx.str
    subst hba
    refine ex_int ?_
    rename_i i _ _ _
    have : ba[i.toNat]? = some b := by rw [← hb]; simp [Array.getElem?_toList]; rfl
    simp [Instr.index, asIntOf, run_underlying ht, h0, this]
  · split at h <;> try (simp at h; done)
    rename_i n e ht
    split at h <;> try (simp at h; done)
    rename_i z hz
    split at h <;> try (simp at h; done)
    rename_i hb
    obtain ⟨d, rfl, hd⟩ := hx.agg
    obtain ⟨y, h1, h2⟩ := part_sound h hd w
    exact ⟨y, by simp [Instr.index, asIntOf, run_underlying ht, hb, tsz_run hz, h1], h2⟩
  · simp at h

end pure
end Go.Abs

/-
  A verified abstract interpreter, part 11: one operation, calls among them.
-/
import Derived.Test.YtgbimoeclgfkfabGreatDoorAbs10
import Derived.Laws.IdiomStrings
import Derived.Lib.Builder
import Derived.Lib.MakeNoZero
import Derived.Lib.UnsafeStr
import Derived.Lib.Bytealg
set_option linter.unusedSimpArgs false
set_option linter.unusedVariables false
namespace Go.Abs
open Go.RowKit

def isC : Operand → Bool
  | .const _ => true
  | _ => false

/-- What a test of two interface values says, one of them nil. -/
def nilRes (P : Program) (op : BinOp) (t : TypeId) (b : Bool) : Option AV := match P.underlying t with
  | some (.interface _) => match op with | .eql => some (.bool b) | .neq => some (.bool !b) | _ => none
  | _ => none

/-- What a test of two interface values says, none of them nil. -/
def ifcRes (P : Program) (op : BinOp) (t t1 t2 : TypeId) (u v : AV) : Option AV :=
  if Nat.beq t1 t2 then match P.info? t1 with
    | some i => if i.comparable then (match aEq P 9999 t1 u v with | some b => nilRes P op t b | none => none) else none
    | none => none
  else nilRes P op t false

/-- One pointer twice. -/
def ptrRes (P : Program) (op : BinOp) (t : TypeId) : Option AV := match P.underlying t with
  | some (.pointer e) => match tsz P e with
    | some (_ + 1) => match op with | .eql => some (.bool true) | .neq => some (.bool false) | _ => none
    | _ => none
  | _ => none

def aBin2 (P : Program) (op : BinOp) (t : TypeId) (c : Bool) (u v : AV) : Option AV :=
  match u, v with
  | .niface, .niface => if c then nilRes P op t true else none
  | .iface _ _, .niface => nilRes P op t false
  | .niface, .iface _ _ => nilRes P op t false
  | .iface t1 u, .iface t2 v => ifcRes P op t t1 t2 u v
  | .ptr b o, .ptr b' o' => if Nat.beq b b' && Nat.beq o o' then ptrRes P op t else none
  | u, v => aBin P op t u v

/-- A pointer turned to unsafe.Pointer, and back. -/
def aConvP (P : Program) (s d : TypeId) (b off : Nat) (H : AHeap) : Bool :=
  match H[b]? with
  | some o => match o.alive, o.body with
    | true, .cells cs ty => match P.underlying s, P.underlying d with
      | some (.pointer t), some .unsafePointer => (match tsz P t with | some (_ + 1) => Nat.blt off cs.length | _ => false)
      | some .unsafePointer, some (.pointer u) => (match tsz P u with
        | some _ => Nat.beq o.sh 0 && (Nat.blt 0 (P.cellsOf ty) && (Nat.ble (P.cellsOf ty) cs.length && liesAt P P.depth ty 1 off u 1))
        | none => false)
      | _, _ => false
    | _, _ => false
  | none => false

def bytesOfL : List AV → Option (List UInt8)
  | [] => some []
  | .int .u8 (.ofNat k) :: l => if Nat.blt k 256 then (match bytesOfL l with | some r => some (UInt8.ofNat k :: r) | none => none) else none
  | _ => none

/-- unsafe.String: the bytes; the block is given up. -/
def aUStr (P : Program) (t : TypeId) (p : AV) (m : Nat) (H : AHeap) : Option (AV × AHeap) :=
  match m with
  | 0 => match p with
    | .nptr => some (.str [], H)
    | .ptr _ _ => some (.str [], H)
    | _ => none
  | m + 1 => match p with
    | .ptr b 0 => match H[b]? with
      | some o => match o.alive, o.body with
        | true, .cells cs ty => match P.underlying t with
          | some (.pointer e) => if (Nat.beq e ty && Nat.beq (P.cellsOf ty) 1 && Nat.beq o.sh 0 && Nat.ble (m + 1) 9223372036854775807) = true then
              match tk (m + 1) cs with
              | some l => match bytesOfL l with
                | some bs => some (.str bs, (wkil b o.fam H).set b o.dead)
                | none => none
              | none => none
            else none
          | _ => none
        | _, _ => none
      | none => none
    | _ => none

/-- 'string(b)': are the types such? -/
def aConvS (P : Program) (s d : TypeId) : Bool := match P.underlying s, P.underlying d with
  | some (.slice e), some .string => match P.underlying e with
    | some (.int .u8) => true
    | _ => false
  | _, _ => false
/-- 'string(b)'. -/
def aConvR (u : AV) (H : AHeap) : Option AV := match u with
  | .slice b off len _ z => if Nat.beq z 1 = true then (match H[b]? with
    | some o => match o.alive, o.body with
      | true, .cells cs _ => match tk len (cs.drop off) with
        | some l => match bytesOfL l with
          | some bs => some (.str bs)
          | none => none
        | none => none
      | _, _ => none
    | none => none) else none
  | _ => none
/-- '[]byte(s)': what is made is read alone. -/
def aConvB (P : Program) (s d : TypeId) (x : AV) (H : AHeap) : Option AV :=
  match x with
  | .str bs => match P.underlying s, P.underlying d with
    | some .string, some (.slice e) => match P.underlying e with
      | some (.int .u8) => some (.rs bs.length 1 (bs.map fun b => .int .u8 b.toNat))
      | _ => none
    | _, _ => none
  | .ptr b off => if aConvP P s d b off H then some (.ptr b off) else none
  | _ => none

/-- A slice of an array of ours. -/
def aSliceA (P : Program) (t : TypeId) (x : AV) (lo hi : Option AV) (H : AHeap) : Option AV :=
  match x with
  | .ptr b off => match P.underlying t with
    | some (.array n e) => match tsz P e with
      | some z => match H[b]? with
        | some o => match o.alive, o.body with
          | true, .cells cs _ => if Nat.ble (off + n * z) cs.length = true then (match bnd hi n n with
            | some h => match bnd lo 0 h with
              | some l => some (.slice b (off + l * z) (h - l) (n - l) z)
              | none => none
            | none => none) else none
          | _, _ => none
        | none => none
      | none => none
    | _ => none
  | _ => none

/-- A slice with three bounds. -/
def aSlice3 (P : Program) (t : TypeId) (x : AV) (lo : Option AV) (hi mx : AV) : Option AV :=
  match x with
  | .slice b off _ cap z => match P.underlying t with
    | some (.slice e) => match tsz P e with
      | some z' => if z' = z then (match bnd (some mx) 0 cap with
          | some m => match bnd (some hi) 0 m with
            | some h => match bnd lo 0 h with
              | some l => some (.slice b (off + l * z) (h - l) (m - l) z)
              | none => none
            | none => none
          | none => none) else none
      | none => none
    | _ => none
  | _ => none

def apure' (P : Program) (ρ : Operand → Option AV) (H : AHeap) (o : Oper) : Option AV :=
  match o.op with
  | .slice t x lo (some hi) (some mx) => match ρ x, aopt ρ lo, ρ hi, ρ mx with | some x, some lo, some hi, some mx => aSlice3 P t x lo hi mx | _, _, _, _ => none
  | .binOp op t x y _ => match ρ x, ρ y with | some u, some v => aBin2 P op t (isC x || isC y) u v | _, _ => none
  | .lookup t m k ok => match ρ m, ρ k with | some m, some k => aLookup P t m k ok H | _, _ => none
  | .convert s d x => match ρ x with | some (.slice b off len cap z) => if aConvS P s d = true then aConvR (.slice b off len cap z) H else none | _ => apure P ρ H o
  | _ => apure P ρ H o

def aeff (P : Program) (ρ : Operand → Option AV) (H : AHeap) (o : Oper) : Option (AV × AHeap) :=
  match o.op with
  | .alloc e => aAlloc P e H
  | .box e x => match ρ x with | some v => aBox e v H | none => none
  | .buildSlice t len ps => match aparts ρ ps.toList with | some us => aBuildSlice P t len us H | none => none
  | .makeSlice t l c => match ρ l, ρ c with | some l, some c => aMakeSlice P t l c H | _, _ => none
  | .makeMap t none => some (.map H.length, H ++ [⟨true, H.length, 0, .map [] 0⟩])
  | .store t a x => match ρ a, ρ x with | some a, some x => (match aStore P t a x H with | some H' => some (.tuple [], H') | none => none) | _, _ => none
  | .mapUpdate t m k x => match ρ m, ρ k, ρ x with | some m, some k, some x => (match aMapSet P t m k x H with | some H' => some (.tuple [], H') | none => none) | _, _, _ => none
  | .insert t m k x => match ρ m, ρ k, ρ x with | some m, some k, some x => (match aMapSet P t m k x H with | some H' => some (.tuple [], H') | none => none) | _, _, _ => none
  | .convert s d x => match ρ x with | some u => (match aConvB P s d u H with | some r => some (r, H) | none => none) | none => none
  | .slice t x lo hi none => match ρ x, aopt ρ lo, aopt ρ hi with | some u, some lo, some hi => (match aSliceA P t u lo hi H with | some r => some (r, H) | none => none) | _, _, _ => none
  | .call c => match c.callee with
    | .builtin .append => match c.args.toList, c.argTypes.toList with
      | [s, x], [t, t2] => match ρ s, ρ x with | some s, some x => aAppend P t t2 s x H | _, _ => none
      | _, _ => none
    | .builtin .cap => match c.args.toList, c.argTypes.toList with
      | [x], [t] => match ρ x, P.underlying t with
        | some .nslice, some (.slice _) => some (.int .i64 (.ofNat 0), H)
        | _, _ => none
      | _, _ => none
    | .builtin .clear => match c.args.toList, c.argTypes.toList with
      | [x], [t] => match ρ x with
        | some x => (match aClear P t x H with | some H' => some (.tuple [], H') | none => none)
        | none => none
      | _, _ => none
    | .builtin .unsafeSliceData => match c.args.toList with
      | [x] => match ρ x with
        | some (.slice b off _ (_ + 1) _) => some (.ptr b off, H)
        | some .nslice => some (.nptr, H)
        | _ => none
      | _ => none
    | .builtin .unsafeString => match c.args.toList, c.argTypes.toList with
      | [x, y], [t, _] => match ρ x, ρ y with
        | some p, some (.int .i64 (.ofNat m)) => aUStr P t p m H
        | _, _ => none
      | _, _ => none
    | .builtin .copy => match c.args.toList, c.argTypes.toList with
      | [s, x], [t, t2] => match ρ s, ρ x with | some s, some x => aCopy P t s x H | _, _ => none
      | _, _ => none
    | _ => none
  | _ => none

/-- How an operation that is no call ends: with a value, or with none. -/
def Done (P : Program) (s : Sem Next) (W : World) (v : Value) (W' : World) : Prop := s.run P W = .ok (.value v) W' ∨ (s.run P W = .ok .skip W' ∧ v = undef)

section eff
variable {P : Program} {sn : Snap} {ι : IMap} {H : AHeap} {W : World}

theorem aBin2_of {op : BinOp} {t : TypeId} {c : Bool} {u v r : AV} (h : aBin P op t u v = some r) : aBin2 P op t c u v = some r := by
  unfold aBin2
  split
  · simp [aBin] at h
  · simp [aBin] at h
  · simp [aBin] at h
  · exfalso
    unfold aBin at h
    cases op <;> simp [aEq] at h
  · exfalso
    unfold aBin at h
    cases op <;> simp [aEq] at h
  · exact h

theorem equalIn_ptr {t e : TypeId} {n : Nat} (ht : P.underlying t = some (.pointer e)) (hn : tsz P e = some n) (hn0 : n ≠ 0) (a : Addr) (d : Nat) (w : World) : (Op.equalIn (d + 1) t (.pointer (some a)) (.pointer (some a))).run P w = .ok true w := by
  have hsz : (sizeOf e).run P w = .ok n w := by
    unfold tsz at hn
    split at hn <;> simp at hn
    rename_i i hi
    subst hn
    simp [sizeOf, typeInfo, hi]
  simp [Op.equalIn, run_underlying ht, hsz, hn0, sameAddr]

theorem equalIn_nil {t : TypeId} {ms} (ht : P.underlying t = some (.interface ms)) (d : Nat) (w : World) : (Op.equalIn (d + 1) t .nilIface .nilIface).run P w = .ok true w := by
  simp [Op.equalIn, run_underlying ht]
theorem equalIn_nil1 {t : TypeId} {ms} (ht : P.underlying t = some (.interface ms)) (u : TypeId) (v : Value) (d : Nat) (w : World) : (Op.equalIn (d + 1) t (.iface u v) .nilIface).run P w = .ok false w := by
  simp [Op.equalIn, run_underlying ht]
theorem equalIn_nil2 {t : TypeId} {ms} (ht : P.underlying t = some (.interface ms)) (u : TypeId) (v : Value) (d : Nat) (w : World) : (Op.equalIn (d + 1) t .nilIface (.iface u v)).run P w = .ok false w := by
  simp [Op.equalIn, run_underlying ht]

theorem equalIn_ifc {t u : TypeId} {ms} {i : TypeInfo} {x y : Value} {b : Bool} (ht : P.underlying t = some (.interface ms)) (hi : P.info? u = some i) (hc : i.comparable = true) (d : Nat) (w : World) (h : (Op.equalIn d u x y).run P w = .ok b w) :
    (Op.equalIn (d + 1) t (.iface u x) (.iface u y)).run P w = .ok b w := by
  simp [Op.equalIn, run_underlying ht, typeInfo, hi, hc, h]
theorem equalIn_ifc2 {t u u' : TypeId} {ms} {x y : Value} (ht : P.underlying t = some (.interface ms)) (hn : u ≠ u') (d : Nat) (w : World) : (Op.equalIn (d + 1) t (.iface u x) (.iface u' y)).run P w = .ok false w := by
  simp [Op.equalIn, run_underlying ht, hn]

theorem bin_eql {t : TypeId} {x y : Value} {ox oy : Operand} {w : World} {b : Bool} (hg : (eqGuard .eql t ox oy x y).run P w = .ok () w) (he : (Op.equalIn 10000 t x y).run P w = .ok b w)
    (h1 : binOp .eql t x y = (do pure (.bool (← Op.equal t x y)) : Sem Value)) : (do eqGuard .eql t ox oy x y; binOp .eql t x y : Sem Value).run P w = .ok (.bool b) w := by
  have he' : (Op.equal t x y).run P w = .ok b w := he
  rw [Sem.run_bind, hg]; show (binOp .eql t x y).run P w = _
  rw [h1, Sem.run_bind, he']; rfl
theorem bin_neq {t : TypeId} {x y : Value} {ox oy : Operand} {w : World} {b : Bool} (hg : (eqGuard .neq t ox oy x y).run P w = .ok () w) (he : (Op.equalIn 10000 t x y).run P w = .ok b w)
    (h1 : binOp .neq t x y = (do pure (.bool (!(← Op.equal t x y))) : Sem Value)) : (do eqGuard .neq t ox oy x y; binOp .neq t x y : Sem Value).run P w = .ok (.bool !b) w := by
  have he' : (Op.equal t x y).run P w = .ok b w := he
  rw [Sem.run_bind, hg]; show (binOp .neq t x y).run P w = _
  rw [h1, Sem.run_bind, he']; rfl

theorem ptrRes_run {op : BinOp} {t : TypeId} {r : AV} (h : ptrRes P op t = some r) (a : Addr) (ox oy : Operand) (w : World) :
    ∃ z, (do eqGuard op t ox oy (.pointer (some a)) (.pointer (some a)); binOp op t (.pointer (some a)) (.pointer (some a)) : Sem Value).run P w = .ok z w ∧ VR sn ι r z := by
  unfold ptrRes at h
  split at h <;> try (simp at h; done)
  rename_i e ht
  split at h <;> try (simp at h; done)
  rename_i m hm
  have hg : (eqGuard op t ox oy (.pointer (some a)) (.pointer (some a))).run P w = .ok () w := by cases op <;> rfl
  have heq := equalIn_ptr ht hm (by omega) a 9999 w
  split at h <;> simp at h
  · subst h
    exact ⟨_, bin_eql hg heq rfl, by simp [VR]⟩
  · subst h
    exact ⟨_, bin_neq hg heq rfl, by simp [VR]⟩

theorem nilRes_run {op : BinOp} {t : TypeId} {r : AV} {b : Bool} (h : nilRes P op t b = some r) {x y : Value} {ox oy : Operand} {w : World} (hg : op = .eql ∨ op = .neq → (eqGuard op t ox oy x y).run P w = .ok () w)
    (he : ∀ ms, P.underlying t = some (.interface ms) → (Op.equalIn 10000 t x y).run P w = .ok b w) (h1 : binOp .eql t x y = (do pure (.bool (← Op.equal t x y)) : Sem Value)) (h2 : binOp .neq t x y = (do pure (.bool (!(← Op.equal t x y))) : Sem Value)) :
    ∃ z, (do eqGuard op t ox oy x y; binOp op t x y : Sem Value).run P w = .ok z w ∧ VR sn ι r z := by
  unfold nilRes at h
  split at h <;> try (simp at h; done)
  rename_i ms ht
  split at h <;> simp at h
  · subst h
    exact ⟨_, bin_eql (hg (.inl rfl)) (he ms ht) h1, by simp [VR]⟩
  · subst h
    exact ⟨_, bin_neq (hg (.inr rfl)) (he ms ht) h2, by simp [VR]⟩

theorem aBin2_sound {op : BinOp} {t : TypeId} {x y u : AV} {ox oy : Operand} (h : aBin2 P op t (isC ox || isC oy) x y = some u) {x' y' : Value} (hx : VR sn ι x x') (hy : VR sn ι y y') (w : World) :
    ∃ z, (do eqGuard op t ox oy x' y'; binOp op t x' y' : Sem Value).run P w = .ok z w ∧ VR sn ι u z := by
  unfold aBin2 at h
  split at h
  · split at h <;> try (simp at h; done)
    rename_i hc
    simp only [VR] at hx hy
    subst hx; subst hy
    refine nilRes_run h (fun hop => ?_) (fun ms ht => equalIn_nil ht 9999 w) rfl rfl
    rcases hop with rfl | rfl <;> cases ox <;> cases oy <;> first | (simp [isC] at hc; done) | rfl | simp [eqGuard]
  · simp only [VR] at hx hy
    obtain ⟨z, rfl, _⟩ := hx; subst hy
    exact nilRes_run h (fun hop => by rcases hop with rfl | rfl <;> rfl) (fun ms ht => equalIn_nil1 ht _ _ 9999 w) rfl rfl
  · simp only [VR] at hx hy
    obtain ⟨z, rfl, _⟩ := hy; subst hx
    exact nilRes_run h (fun hop => by rcases hop with rfl | rfl <;> rfl) (fun ms ht => equalIn_nil2 ht _ _ 9999 w) rfl rfl
  · simp only [VR] at hx hy
    obtain ⟨z, rfl, hz⟩ := hx; obtain ⟨z', rfl, hz'⟩ := hy
    unfold ifcRes at h
    split at h
    · rename_i he
      have he := Nat.eq_of_beq_eq_true he; subst he
      split at h <;> try (simp at h; done)
      rename_i i hi
      split at h <;> try (simp at h; done)
      rename_i hcmp
      split at h <;> try (simp at h; done)
      rename_i b hb
      exact nilRes_run h (fun hop => by rcases hop with rfl | rfl <;> rfl) (fun ms ht => equalIn_ifc ht hi hcmp 9999 w (aEq_sound 9999 _ _ _ _ hb _ _ hz hz' w)) rfl rfl
    · rename_i he
      exact nilRes_run h (fun hop => by rcases hop with rfl | rfl <;> rfl) (fun ms ht => equalIn_ifc2 ht (fun e => he (by rw [e]; exact Nat.beq_refl _)) 9999 w) rfl rfl
  · split at h <;> try (simp at h; done)
    rename_i b o b' o' hc
    simp only [Bool.and_eq_true] at hc
    have e1 := Nat.eq_of_beq_eq_true hc.1; subst e1
    have e2 := Nat.eq_of_beq_eq_true hc.2; subst e2
    simp only [VR] at hx hy
    obtain ⟨p, hp, rfl⟩ := hx
    obtain ⟨p', hp', rfl⟩ := hy
    rw [hp] at hp'; simp at hp'; subst hp'
    exact ptrRes_run h _ ox oy w
  · exact aBin_sound h hx hy ox oy w

/-- Memory that was made and is read alone from here on. -/
def snx (sn : Snap) (g : Nat) (W' : World) : Snap := fun a => if a.block < g then sn a else W'.cell? a

theorem Stp.snap {W' : World} (h : R sn ι H W) (e : Ext W W') : Stp sn ι H W (snx sn W.heap.size W') ι H W' := by
  have hr := h.ext e
  have hle : Le sn (snx sn W.heap.size W') ι ι := ⟨fun a v hv => by
    unfold snx
    rw [if_pos (h.snap a v hv).1]; exact hv, fun _ _ h => h⟩
  refine ⟨⟨hr.dom, hr.blk, fun b o p hb ha hp => OR_mono hle rfl (hr.obj b o p hb ha hp), hr.sep, ?_, hr.shz⟩, hle, fun _ _ h => .inl h, fun c hc _ => e.old c hc, e.size, e.os, e.tape, e.output, ?_, fun b o hb => ⟨o, hb, rfl, rfl, id⟩⟩
  · intro a v hv
    unfold snx at hv
    split at hv
    · exact hr.snap a v hv
    · rename_i hge
      refine ⟨?_, hv, fun b o p hb ha hp => ?_⟩
      · cases hq : W'.heap[a.block]? with
        | none => unfold World.cell? at hv; rw [hq] at hv; simp at hv
        | some ob => exact (Array.getElem?_eq_some_iff.1 hq).1
      · have := h.blk b p hp; omega
  · intro a v hv
    unfold snx at hv
    split at hv
    · exact .inl hv
    · exact .inr (.inl (by omega))

theorem rowAt_mono {fits : TypeId → Bool} : ∀ (d : Nat) (e : TypeId) (c c' off n : Nat), c ≤ c' → rowAt P fits d e c off n = true → rowAt P fits d e c' off n = true
  | 0, e, c, c', off, n, hc, h => by simp [rowAt] at h
  | d + 1, e, c, c', off, n, hc, h => by
    unfold rowAt at h ⊢
    simp only at h ⊢
    split at h
    · cases h
    · rename_i hs
      rw [if_neg hs]
      simp only [Bool.or_eq_true, Bool.and_eq_true, decide_eq_true_eq] at h ⊢
      rcases h with ⟨⟨h1, h2⟩, h3⟩ | ⟨h1, h2⟩
      · exact .inl ⟨⟨h1, by omega⟩, h3⟩
      · exact .inr ⟨by omega, h2⟩

theorem liesAt_mono : ∀ (d : Nat) (e : TypeId) (c c' off : Nat) (u : TypeId) (n : Nat), c ≤ c' → liesAt P d e c off u n = true → liesAt P d e c' off u n = true
  | 0, e, c, c', off, u, n, hc, h => by simp [liesAt] at h
  | d + 1, e, c, c', off, u, n, hc, h => by
    unfold liesAt at h ⊢
    simp only [Bool.or_eq_true] at h ⊢
    rcases h with h | h
    · exact .inl (rowAt_mono _ _ _ _ _ _ hc h)
    · right
      split at h
      · exact liesAt_mono d e c c' off _ _ hc h
      · cases h

theorem shape_of_cells {g : Nat} {arr : Array Value} {ty : TypeId} {fr : Nat × Nat} (h : W.heap[g]? = some (.cells arr ty fr)) : W.shape? g = some (ty, arr.size) := by
  simp [World.shape?, h]

theorem aConvP_sound (hR : R sn ι H W) {s d : TypeId} {b off : Nat} (h : aConvP P s d b off H = true) {x' : Value} (hx : VR sn ι (.ptr b off) x') : (convert s d x').run P W = .ok x' W := by
  unfold aConvP at h
  split at h <;> try (cases h; done)
  rename_i o hb
  split at h <;> try (cases h; done)
  rename_i cs ty hal hbd
  simp only [VR] at hx
  obtain ⟨p, hp, rfl⟩ := hx
  have hob := hR.obj b o p hb hal hp
  rw [hbd] at hob
  simp only [OR] at hob
  obtain ⟨arr, g1, g2, g3, g4⟩ := hob
  have hsh := shape_of_cells g1
  split at h
  · rename_i t hs hd
    split at h <;> try (cases h; done)
    rename_i m hm
    have hlt : off < cs.length := by simpa [Nat.blt_eq] using h
    unfold tsz at hm
    split at hm <;> simp at hm
    rename_i i hi
    exact Lib.run_to_unsafe W _ hs hd hi (by omega) hsh (by show p.sh + off < arr.size; omega)
  · rename_i u hs hd
    split at h <;> try (cases h; done)
    rename_i m hm
    simp only [Bool.and_eq_true] at h
    obtain ⟨h1, h2, h3, h4⟩ := h
    have hsz := hR.shz b o p hb hp (Nat.eq_of_beq_eq_true h1)
    have hpos : 0 < P.cellsOf ty := by simpa [Nat.blt_eq] using h2
    have hle : P.cellsOf ty ≤ cs.length := Nat.le_of_ble_eq_true h3
    unfold tsz at hm
    split at hm <;> simp at hm
    rename_i i hi
    have hcount : 1 ≤ arr.size / P.cellsOf ty := by
      rw [Nat.le_div_iff_mul_le hpos]; omega
    refine Lib.run_from_unsafe W _ hs hd hi hsh ?_
    show liesAt P P.depth ty (arr.size / P.cellsOf ty) (p.sh + off) u 1 = true
    rw [hsz, Nat.zero_add]
    exact liesAt_mono _ _ _ _ _ _ _ hcount h4
  · cases h

theorem bytesOfL_spec : ∀ {l : List AV} {bs : List UInt8}, bytesOfL l = some bs → l.length = bs.length ∧ ∀ (i : Nat) (x : UInt8), bs[i]? = some x → l[i]? = some (.int .u8 x.toNat)
  | [], bs, h => by simp [bytesOfL] at h; subst h; simp
  | v :: l, bs, h => by
    unfold bytesOfL at h
    split at h
    · rename_i e; cases e
    · rename_i k l' e
      simp only [List.cons.injEq] at e
      obtain ⟨rfl, rfl⟩ := e
      split at h <;> try (cases h; done)
      rename_i hk
      split at h <;> simp at h
      rename_i r hr
      subst h
      obtain ⟨h1, h2⟩ := bytesOfL_spec hr
      have hk' : k < 256 := by simpa [Nat.blt_eq] using hk
      refine ⟨by simp [h1], fun i x hx => ?_⟩
      cases i with
      | zero =>
        simp at hx; subst hx
        simp only [List.getElem?_cons_zero]
        congr 1
        have : (UInt8.ofNat k).toNat = k := by simp; omega
        rw [this]; rfl
      | succ i => simpa using h2 i x (by simpa using hx)
    · cases h

theorem turn_freeze (a : Addr) (n : Nat) : Turn W (W.freeze a n) a.block := by
  unfold World.freeze
  split
  · exact ⟨fun _ _ => rfl, rfl, rfl, rfl, rfl⟩
  · refine ⟨fun c hc => ?_, by simp, rfl, rfl, rfl⟩
    simp only [Array.getElem?_modify]
    rw [if_neg (Ne.symm hc)]

theorem tk_take : ∀ {n : Nat} {l r : List AV}, tk n l = some r → r = l.take n ∧ n ≤ l.length
  | 0, l, r, h => by cases l <;> simp [tk] at h <;> subst h <;> simp
  | n + 1, [], r, h => by simp [tk] at h
  | n + 1, c :: l, r, h => by
    simp only [tk] at h
    split at h <;> simp at h
    rename_i r' hr
    subst h
    obtain ⟨h1, h2⟩ := tk_take hr
    exact ⟨by simp [h1], by simp; omega⟩

theorem aUStr_sound (hR : R sn ι H W) {t t2 ty0 : TypeId} {p r : AV} {m : Nat} {H' : AHeap} (h : aUStr P t p m H = some (r, H')) {p' : Value} (hp : VR sn ι p p') :
    ∃ v W', (Builtin.unsafeString_ #[t, t2] ty0 #[p', .int .i64 (Int.ofNat m)]).run P W = .ok v W' ∧ VR sn ι r v ∧ Stp sn ι H W sn ι H' W' := by
  unfold aUStr at h
  split at h
  · have hz : (Int.ofNat 0) = 0 := rfl
    split at h <;> simp at h
    · obtain ⟨rfl, rfl⟩ := h
      simp only [VR] at hp; subst hp
      exact ⟨_, W, Lib.run_unsafeString_none W t t2 ty0 none, vr_str rfl, Stp.refl hR⟩
    · obtain ⟨rfl, rfl⟩ := h
      simp only [VR] at hp; obtain ⟨q, _, rfl⟩ := hp
      exact ⟨_, W, Lib.run_unsafeString_none W t t2 ty0 _, vr_str rfl, Stp.refl hR⟩
  · rename_i m
    split at h <;> try (simp at h; done)
    rename_i b
    split at h <;> try (simp at h; done)
    rename_i o hb
    split at h <;> try (simp at h; done)
    rename_i cs ty hal hbd
    split at h <;> try (simp at h; done)
    rename_i e ht
    split at h <;> try (simp at h; done)
    rename_i hc
    split at h <;> try (simp at h; done)
    rename_i l hl
    split at h <;> simp at h
    rename_i bs hbs
    obtain ⟨rfl, rfl⟩ := h
    simp only [Bool.and_eq_true] at hc
    obtain ⟨⟨⟨c1, c2⟩, c3⟩, c4⟩ := hc
    have e1 := Nat.eq_of_beq_eq_true c1; subst e1
    simp only [VR] at hp
    obtain ⟨q, hq, rfl⟩ := hp
    have hsz := hR.shz b o q hb hq (Nat.eq_of_beq_eq_true c3)
    have hob := hR.obj b o q hb hal hq
    rw [hbd] at hob
    simp only [OR] at hob
    obtain ⟨arr, g1, g2, g3, g4⟩ := hob
    obtain ⟨k1, k2⟩ := tk_take hl
    obtain ⟨b1, b2⟩ := bytesOfL_spec hbs
    have hlen : bs.length = m + 1 := by rw [← b1, k1]; simp; omega
    have hrun := Lib.run_unsafeString_row (P := P) W t t2 ty0 e ht (Nat.eq_of_beq_eq_true c2) q.blk arr.size (shape_of_cells g1) bs (fun e => by rw [e] at hlen; simp at hlen) (by omega) (by rw [hlen]; exact Nat.le_of_ble_eq_true c4) (fun j x hx => by
      have h1 := b2 j x hx
      have hj : j < m + 1 := by rw [← hlen]; exact (List.getElem?_eq_some_iff.1 hx).1
      have h2 : cs[j]? = some (.int .u8 x.toNat) := by rw [k1, List.getElem?_take, if_pos hj] at h1; exact h1
      obtain ⟨v, h3, h4⟩ := g4 j _ h2
      rw [hsz, Nat.zero_add] at h3
      cases h4.int
      simp only [addr_add, Nat.zero_add, World.cell?, g1]
      exact h3)
    rw [hlen] at hrun
    refine ⟨.string ⟨bs.toArray⟩, _, ?_, by simp only [VR]; exact ⟨⟨bs.toArray⟩, rfl, rfl⟩, Stp.lose hR hb hal hq (turn_freeze ⟨q.blk, 0, none⟩ (m + 1))⟩
    rw [hsz]
    exact hrun

theorem aSliceA_sound (hR : R sn ι H W) {t : TypeId} {x : AV} {lo hi : Option AV} {u : AV} (h : aSliceA P t x lo hi H = some u) {x' : Value} (hx : VR sn ι x x') {lo' hi' : Option Value} (hlo : OVR sn ι lo lo') (hhi : OVR sn ι hi hi') :
    ∃ z, (Instr.sliceAt t x' lo' hi' none).run P W = .ok z W ∧ VR sn ι u z := by
  unfold aSliceA at h
  split at h <;> try (simp at h; done)
  rename_i b off
  split at h <;> try (simp at h; done)
  rename_i n e ht
  split at h <;> try (simp at h; done)
  rename_i z hz
  split at h <;> try (simp at h; done)
  rename_i o hb
  split at h <;> try (simp at h; done)
  rename_i cs ty hal hbd
  split at h <;> try (simp at h; done)
  rename_i hle
  split at h <;> try (simp at h; done)
  rename_i k hk
  split at h <;> simp at h
  subst h; rename_i l hl
  obtain ⟨p, hp, rfl⟩ := hx.ptr
  have hob := hR.obj b o p hb hal hp
  rw [hbd] at hob
  simp only [OR] at hob
  obtain ⟨arr, g1, g2, g3, g4⟩ := hob
  have hle := Nat.le_of_ble_eq_true hle
  obtain ⟨h1, h2, h3⟩ := sliceBounds_run (P := P) (isS := false) hk hl (Nat.le_refl _) (Nat.le_refl _) hlo hhi W
  refine ⟨.slice (some (if n = l then ⟨p.blk, p.sh + off, none⟩ else (⟨p.blk, p.sh + off, none⟩ : Addr).add (l * z))) (k - l) (n - l), ?_, ?_⟩
  · have hs : (Instr.sureAddr (Value.pointer (some (⟨p.blk, p.sh + off, none⟩ : Addr)))).run P W = .ok ⟨p.blk, p.sh + off, none⟩ W := by simp [Instr.sureAddr]
    simp only [Instr.sliceAt, hs, Sem.run_bind, run_underlying ht, Result.andThen_ok, h3, tsz_run hz, Sem.run_pure]
  · simp only [VR]
    have hm : (n - l) * z + l * z = n * z := by rw [← Nat.add_mul]; congr 1; omega
    refine ⟨p, _, n - l, hp, rfl, by omega, Nat.le_refl _, fun hne => ?_⟩
    rw [if_neg (by omega), addr_add]
    exact ⟨by rw [Nat.add_assoc], by omega⟩

theorem aConvB_sound (hR : R sn ι H W) {s d : TypeId} {x r : AV} (h : aConvB P s d x H = some r) {x' : Value} (hx : VR sn ι x x') :
    ∃ v W' sn', (convert s d x').run P W = .ok v W' ∧ VR sn' ι r v ∧ Stp sn ι H W sn' ι H W' := by
  unfold aConvB at h
  split at h <;> try (simp at h; done)
  case h_2 b off =>
    split at h <;> simp at h
    rename_i hc
    subst h
    exact ⟨x', W, sn, aConvP_sound hR hc hx, hx, Stp.refl hR⟩
  rename_i bs
  obtain ⟨ba, rfl, hba⟩ := hx.str
  split at h <;> try (simp at h; done)
  rename_i e hs hd
  split at h <;> simp at h
  rename_i he
  subst h
  have hrun := run_bytes_of_string W s d e ba hs hd he
  generalize hcap : grownCap W ba.size 0 e = cap at hrun
  generalize hrow : bytesRow ba cap = row at hrun
  have hext : Ext W (W.drew.alloc (.cells row e (row.size, row.size + 1))) := by
    refine ⟨fun c hc => ?_, ?_, rfl, rfl, rfl⟩
    · have h1 := Below.heap_alloc W.drew (.cells row e (row.size, row.size + 1)) c hc
      rw [h1]; rfl
    · simp
  refine ⟨_, _, _, hrun, ?_, Stp.snap hR hext⟩
  have hlen : ba.size = bs.length := by rw [← hba]; simp
  simp only [VR]
  refine .inr ⟨⟨W.heap.size, 0, none⟩, cap, by rw [hlen], ?_, by simp, ?_, fun _ => rfl⟩
  · rw [← hcap, hlen.symm]; exact grownCap_ge W ba.size 0 e
  · have key : ∀ (l : List UInt8) (k : Nat), (∀ (i : Nat) (c : UInt8), l[i]? = some c → row[k + i]? = some (.int .u8 c.toNat)) → MR (snx sn W.heap.size (W.drew.alloc (.cells row e (row.size, row.size + 1)))) (l.map fun b => .int .u8 b.toNat) W.heap.size k := by
      intro l
      induction l with
      | nil => intro k _; simp [MR]
      | cons c l ih =>
        intro k hk
        simp only [List.map_cons, MR]
        refine ⟨⟨.int .u8 c.toNat, ?_, by simp [VR]⟩, ih (k + 1) fun i x hx => by have := hk (i + 1) x (by simpa using hx); rwa [show k + (i + 1) = k + 1 + i from by omega] at this⟩
        have h0 := hk 0 c rfl
        simp only [snx, if_neg (Nat.lt_irrefl _)]
        have hb : (W.drew.alloc (.cells row e (row.size, row.size + 1))).heap[W.heap.size]? = some (.cells row e (row.size, row.size + 1)) := heap_alloc_new W.drew _
        simp only [World.cell?, hb]
        simpa using h0
    refine key bs 0 fun i c hc => ?_
    have hil : i < ba.data.size := by obtain ⟨h1, _⟩ := List.getElem?_eq_some_iff.1 hc; rw [← hba] at h1; simpa using h1
    rw [← hrow, bytesRow, Array.getElem?_append_left (by simpa using hil)]
    simp only [Nat.zero_add, Array.getElem?_map]
    have : ba.data[i]? = some c := by rw [← hba] at hc; simpa using hc
    rw [this]; rfl

theorem aConvR_sound (hR : RO sn ι H W) {s d : TypeId} {u r : AV} (hty : aConvS P s d = true) (h : aConvR u H = some r) {x' : Value} (hx : VR sn ι u x') : ∃ z, (convert s d x').run P W = .ok z W ∧ VR sn ι r z := by
  unfold aConvR at h
  split at h <;> try (simp at h; done)
  rename_i b off len cap z
  split at h <;> try (simp at h; done)
  split at h <;> try (simp at h; done)
  rename_i o hb
  split at h <;> try (simp at h; done)
  rename_i cs ty hal hbd
  split at h <;> try (simp at h; done)
  rename_i l hl
  split at h <;> simp at h
  rename_i bs hbs
  subst h
  unfold aConvS at hty
  split at hty <;> try (simp at hty; done)
  rename_i e hs hd
  split at hty <;> try (simp at hty; done)
  rename_i he
  obtain ⟨p, a, cap', hp, rfl, c1, c2, c3⟩ := hx.slice
  have hob := hR.obj b o p hb hal hp
  rw [hbd] at hob
  simp only [OR] at hob
  obtain ⟨arr, g1, g2, g3, g4⟩ := hob
  obtain ⟨k1, k2⟩ := tk_some hl
  obtain ⟨b1, b2⟩ := bytesOfL_spec hbs
  have hlen : bs.length = len := by rw [← b1, k2, List.length_take]; omega
  have hrun := run_convert_bytes_back (P := P) W s d e a cap' bs hs he hd (fun j hj => by
    have h1 := b2 j bs[j] (List.getElem?_eq_getElem hj)
    have hj' : j < len := by omega
    have h2 : cs[off + j]? = some (.int .u8 bs[j].toNat) := by rw [k2, List.getElem?_take, if_pos hj', List.getElem?_drop] at h1; exact h1
    obtain ⟨v, h3, h4⟩ := g4 _ _ h2
    cases h4.int
    obtain ⟨ha, _⟩ := c3 (by omega)
    subst ha
    simp only [addr_add, World.cell?, g1]
    rw [Nat.add_assoc]; exact h3)
  rw [hlen] at hrun
  exact ⟨_, hrun, by simp only [VR]; exact ⟨⟨bs.toArray⟩, rfl, rfl⟩⟩

theorem aSlice3_sound {t : TypeId} {x : AV} {lo : Option AV} {hi mx u : AV} (h : aSlice3 P t x lo hi mx = some u) {x' : Value} (hx : VR sn ι x x') {lo' : Option Value} {hi' mx' : Value} (hlo : OVR sn ι lo lo') (hhi : VR sn ι hi hi') (hmx : VR sn ι mx mx') (w : World) :
    ∃ z, (Instr.sliceAt t x' lo' (some hi') (some mx')).run P w = .ok z w ∧ VR sn ι u z := by
  unfold aSlice3 at h
  split at h <;> try (simp at h; done)
  rename_i b off len cap z
  split at h <;> try (simp at h; done)
  rename_i e ht
  split at h <;> try (simp at h; done)
  rename_i z' hz
  split at h <;> try (simp at h; done)
  rename_i hzz; subst hzz
  split at h <;> try (simp at h; done)
  rename_i m hm
  split at h <;> try (simp at h; done)
  rename_i k hk
  split at h <;> simp at h
  subst h; rename_i l hl
  obtain ⟨p, a, cap', hp, rfl, hlc, hcc, hne⟩ := hx.slice
  rcases bnd_spec hm (x' := some mx') ⟨_, rfl, hmx⟩ with ⟨e1, _⟩ | ⟨km, im, e1, m0, m1, rfl⟩
  · cases e1
  rcases bnd_spec hk (x' := some hi') ⟨_, rfl, hhi⟩ with ⟨e2, _⟩ | ⟨kh, ih, e2, h0, h1, rfl⟩
  · cases e2
  cases e1; cases e2
  have hmc : im ≤ (cap' : Int) := by omega
  have hb : (Instr.sliceBounds true len cap' lo' (some (.int kh ih)) (some (.int km im))).run P w = .ok (l, ih.toNat, im.toNat) w ∧ l ≤ ih.toNat := by
    have hih : (ih : Int) ≤ (im.toNat : Int) := by omega
    rcases bnd_spec hl hlo with ⟨rfl, rfl⟩ | ⟨k', j, rfl, j0, j1, rfl⟩
    · refine ⟨?_, by omega⟩
      simp [Instr.sliceBounds, Instr.sliceBound, asIntOf, m0, hmc, h0]
      omega
    · refine ⟨?_, by omega⟩
      have hj : (j : Int) ≤ (ih.toNat : Int) := by omega
      simp only [Instr.sliceBounds, Instr.sliceBound, asIntOf, Sem.run_bind, Sem.run_pure, Result.andThen_ok, m0, hmc, h0, hih, j0, hj, and_self, if_true]
  obtain ⟨h3, h4⟩ := hb
  refine ⟨.slice (if im.toNat = l then some a else (some a).map (·.add (l * z'))) (ih.toNat - l) (im.toNat - l), ?_, ?_⟩
  · simp only [Instr.sliceAt, Instr.slice, Sem.run_bind, run_underlying ht, Result.andThen_ok, h3, tsz_run hz, Sem.run_pure]
  · simp only [VR]
    by_cases hcl : im.toNat = l
    · exact ⟨p, a, im.toNat - l, hp, by simp [hcl], by omega, by omega, by omega⟩
    · refine ⟨p, a.add (l * z'), im.toNat - l, hp, by simp [hcl], by omega, by omega, fun _ => ?_⟩
      obtain ⟨rfl, hb⟩ := hne (by omega)
      refine ⟨by rw [addr_add, Nat.add_assoc], ?_⟩
      have h5 : l * z' + (im.toNat - l) * z' = im.toNat * z' := by rw [← Nat.add_mul]; congr 1; omega
      have h6 : im.toNat * z' ≤ cap' * z' := Nat.mul_le_mul_right _ (by omega)
      omega

theorem apure'_sound (hR : RO sn ι H W) {ρ : Operand → Option AV} {ρ' : Operand → Value} (hρ : ∀ x u, ρ x = some u → VR sn ι u (ρ' x))
    {o : Oper} {r : AV} (h : apure' P ρ H o = some r) : ∃ v, (execOp ρ' o).run P W = .ok (.value v) W ∧ VR sn ι r v := by
  unfold apure' at h
  split at h
  · rename_i t x lo hi mx hop
    split at h <;> try (simp at h; done)
    rename_i u lo1 hi1 mx1 hu hlo hhi hmx
    obtain ⟨z, h1, h2⟩ := aSlice3_sound h (hρ _ _ hu) (aopt_sound hρ _ _ hlo) (hρ _ _ hhi) (hρ _ _ hmx) W
    exact ⟨z, by simp only [execOp, hop, Option.map_some, Sem.run_bind, h1, Result.andThen_ok, Sem.run_pure], h2⟩
  · rename_i op t x y yt hop
    split at h <;> try (simp at h; done)
    rename_i a b ha hb
    obtain ⟨z, h1, h2⟩ := aBin2_sound h (hρ _ _ ha) (hρ _ _ hb) W
    exact ⟨z, by simp only [execOp, hop]; rw [Sem.run_bind, h1]; rfl, h2⟩
  · rename_i t m k ok hop
    split at h <;> try (simp at h; done)
    rename_i a b ha hb
    obtain ⟨z, h1, h2⟩ := aLookup_sound hR h (hρ _ _ ha) (hρ _ _ hb)
    exact ⟨z, by simp only [execOp, hop, Sem.run_bind, h1, Result.andThen_ok, Sem.run_pure], h2⟩
  · rename_i s d x hop
    split at h
    · rename_i hu
      split at h <;> try (simp at h; done)
      rename_i hty
      obtain ⟨z, h1, h2⟩ := aConvR_sound hR hty h (hρ _ _ hu)
      exact ⟨z, by simp only [execOp, hop, Sem.run_bind, h1, Result.andThen_ok, Sem.run_pure], h2⟩
    · exact apure_sound hR hρ h
  · exact apure_sound hR hρ h

theorem aeff_sound (hR : R sn ι H W) {ρ : Operand → Option AV} {ρ' : Operand → Value} (hρ : ∀ x u, ρ x = some u → VR sn ι u (ρ' x))
    {o : Oper} {r : AV} {H' : AHeap} (h : aeff P ρ H o = some (r, H')) : ∃ v W' sn' ι', Done P (execOp ρ' o) W v W' ∧ VR sn' ι' r v ∧ Stp sn ι H W sn' ι' H' W' := by
  have wrap : ∀ (s : Sem Value), execOp ρ' o = (do pure (.value (← s)) : Sem Next) → (∃ v W' ι', s.run P W = .ok v W' ∧ VR sn ι' r v ∧ Stp sn ι H W sn ι' H' W') →
      ∃ v W' sn' ι', Done P (execOp ρ' o) W v W' ∧ VR sn' ι' r v ∧ Stp sn ι H W sn' ι' H' W' := by
    rintro s e ⟨v, W', ι', h1, h2, h3⟩
    exact ⟨v, W', sn, ι', .inl (by rw [e]; simp only [Sem.run_bind, h1, Result.andThen_ok, Sem.run_pure]), h2, h3⟩
  have wrapu : ∀ (s : Sem Unit), r = .tuple [] → execOp ρ' o = (do s; pure .skip : Sem Next) → (∃ W', s.run P W = .ok () W' ∧ Stp sn ι H W sn ι H' W') →
      ∃ v W' sn' ι', Done P (execOp ρ' o) W v W' ∧ VR sn' ι' r v ∧ Stp sn ι H W sn' ι' H' W' := by
    rintro s rfl e ⟨W', h1, h3⟩
    exact ⟨undef, W', sn, ι, .inr ⟨by rw [e]; simp only [Sem.run_bind, h1, Result.andThen_ok, Sem.run_pure], rfl⟩, vr_undef, h3⟩
  unfold aeff at h
  cases hop : o.op with
  | alloc e => simp only [hop] at h; exact wrap _ (by simp only [execOp, hop]) (aAlloc_sound hR h)
  | box e x =>
    simp only [hop] at h; split at h <;> try (simp at h; done)
    rename_i u hu
    exact wrap _ (by simp only [execOp, hop]) (aBox_sound hR h (hρ _ _ hu))
  | buildSlice t len ps =>
    simp only [hop] at h; split at h <;> try (simp at h; done)
    rename_i us hus
    exact wrap (Instr.buildSlice t len (ps.map fun (i, x) => (i, ρ' x))) (by simp only [execOp, hop]) (aBuildSlice_sound hR h (by rw [Array.toList_map]; exact aparts_sound hρ _ _ hus))
  | makeSlice t l c =>
    simp only [hop] at h; split at h <;> try (simp at h; done)
    rename_i a b ha hb
    exact wrap _ (by simp only [execOp, hop]) (aMakeSlice_sound hR h (hρ _ _ ha) (hρ _ _ hb))
  | makeMap t r' =>
    cases r' with
    | some x => simp [hop] at h
    | none =>
      simp [hop] at h
      obtain ⟨rfl, rfl⟩ := h
      refine wrap (Instr.makeMap t none) (by simp only [execOp, hop, Option.map_none]) ⟨.map (some W.heap.size), W.alloc (.map #[] 0), upd ι H.length ⟨W.heap.size, 0, 0⟩, ?_, ?_, ?_⟩
      · simp [Instr.makeMap, run_newObj_alloc]
      · simp only [VR]; exact ⟨_, upd_self _ _ _, rfl⟩
      · exact Stp.alloc hR ⟨true, H.length, 0, .map [] 0⟩ (.map #[] 0) 0 fun _ => ⟨#[], heap_alloc_new W _, by simp [ER]⟩
  | store t a x =>
    simp only [hop] at h; split at h <;> try (simp at h; done)
    rename_i u v hu hv
    split at h <;> simp at h
    rename_i H1 hw
    obtain ⟨rfl, rfl⟩ := h
    exact wrapu _ rfl (by simp only [execOp, hop]) (aStore_sound hR hw (hρ _ _ hu) (hρ _ _ hv))
  | mapUpdate t m k x =>
    simp only [hop] at h; split at h <;> try (simp at h; done)
    rename_i u v w hu hv hw'
    split at h <;> simp at h
    rename_i H1 hw
    obtain ⟨rfl, rfl⟩ := h
    exact wrapu _ rfl (by simp only [execOp, hop]) (aMapSet_sound hR hw (hρ _ _ hu) (hρ _ _ hv) (hρ _ _ hw'))
  | insert t m k x =>
    simp only [hop] at h; split at h <;> try (simp at h; done)
    rename_i u v w hu hv hw'
    split at h <;> simp at h
    rename_i H1 hw
    obtain ⟨rfl, rfl⟩ := h
    exact wrapu _ rfl (by simp only [execOp, hop]) (aMapSet_sound hR hw (hρ _ _ hu) (hρ _ _ hv) (hρ _ _ hw'))
  | slice t x lo hi mx =>
    cases mx with
    | some y => simp [hop] at h
    | none =>
      simp only [hop] at h; split at h <;> try (simp at h; done)
      rename_i u lo1 hi1 hu hlo hhi
      split at h <;> simp at h
      rename_i r' hr
      obtain ⟨rfl, rfl⟩ := h
      obtain ⟨v, h1, h2⟩ := aSliceA_sound hR hr (hρ _ _ hu) (aopt_sound hρ _ _ hlo) (aopt_sound hρ _ _ hhi)
      exact ⟨v, W, sn, ι, .inl (by simp only [execOp, hop, Option.map_none, Sem.run_bind, h1, Result.andThen_ok, Sem.run_pure]), h2, Stp.refl hR⟩
  | convert s d x =>
    simp only [hop] at h; split at h <;> try (simp at h; done)
    rename_i u hu
    split at h <;> simp at h
    rename_i r' hr
    obtain ⟨rfl, rfl⟩ := h
    obtain ⟨v, W', sn', h1, h2, h3⟩ := aConvB_sound hR hr (hρ _ _ hu)
    exact ⟨v, W', sn', ι, .inl (by simp only [execOp, hop, Sem.run_bind, h1, Result.andThen_ok, Sem.run_pure]), h2, h3⟩
  | call c =>
    simp only [hop] at h
    split at h <;> try (simp at h; done)
    · rename_i hc
      split at h <;> try (simp at h; done)
      rename_i s x t t2 hx ht
      split at h <;> try (simp at h; done)
      rename_i u v hu hv
      have hx' : c.args = #[s, x] := by apply Array.ext'; simpa using hx
      have ht' : c.argTypes = #[t, t2] := by apply Array.ext'; simpa using ht
      obtain ⟨v', W', ι', h1, h2, h3⟩ := aAppend_sound (ty := o.type) hR h (hρ _ _ hu) (hρ _ _ hv)
      refine ⟨v', W', sn, ι', .inl ?_, h2, h3⟩
      simp only [execOp, hop, resolve, hc, invoke, builtin, Sem.run_bind, Sem.run_pure, Result.andThen_ok, hx', ht', List.map_toArray, List.map_cons, List.map_nil, h1]
    · rename_i hc
      split at h <;> try (simp at h; done)
      rename_i x t hx ht
      have hx' : c.args = #[x] := by apply Array.ext'; simpa using hx
      have ht' : c.argTypes = #[t] := by apply Array.ext'; simpa using ht
      split at h <;> simp at h
      rename_i hu htt
      obtain ⟨rfl, rfl⟩ := h
      have he := (hρ _ _ hu).nslice
      refine ⟨.int .i64 0, W, sn, ι, .inl ?_, vr_int _ _, Stp.refl hR⟩
      simp [execOp, hop, resolve, hc, invoke, builtin, Builtin.cap_, hx', ht', he, run_underlying htt, goInt]
    · rename_i hc
      split at h <;> try (simp at h; done)
      rename_i x t hx ht
      have hx' : c.args = #[x] := by apply Array.ext'; simpa using hx
      have ht' : c.argTypes = #[t] := by apply Array.ext'; simpa using ht
      split at h <;> try (simp at h; done)
      rename_i u hu
      split at h <;> simp at h
      rename_i H1 hcl
      obtain ⟨rfl, rfl⟩ := h
      obtain ⟨W', h1, h2⟩ := aClear_sound (ty := o.type) hR hcl (hρ _ _ hu)
      refine ⟨.tuple #[], W', sn, ι, .inl ?_, by simp [VR, LR], h2⟩
      simp only [execOp, hop, resolve, hc, invoke, builtin, Sem.run_bind, Sem.run_pure, Result.andThen_ok, hx', ht', List.map_toArray, List.map_cons, List.map_nil, h1]
    · rename_i hc
      split at h <;> try (simp at h; done)
      rename_i x hx
      have hx' : c.args = #[x] := by apply Array.ext'; simpa using hx
      split at h <;> simp at h
      · rename_i b off l cp z hu
        obtain ⟨rfl, rfl⟩ := h
        obtain ⟨p, a, cap', hp, he, _, hcc, hne⟩ := (hρ _ _ hu).slice
        obtain ⟨rfl, _⟩ := hne (by omega)
        have hrun := Lib.run_unsafeSliceData_row (P := P) W c.argTypes o.type ⟨p.blk, p.sh + off, none⟩ l cap' (by omega)
        rw [← he] at hrun
        refine ⟨.pointer (some ⟨p.blk, p.sh + off, none⟩), W, sn, ι, .inl ?_, ?_, Stp.refl hR⟩
        · simp only [execOp, hop, resolve, hc, invoke, builtin, Sem.run_bind, Sem.run_pure, Result.andThen_ok, hx', List.map_toArray, List.map_cons, List.map_nil, hrun]
        · simp only [VR]; exact ⟨p, hp, rfl⟩
      · rename_i hu
        obtain ⟨rfl, rfl⟩ := h
        have he := (hρ _ _ hu)
        simp only [VR] at he
        have hrun := Lib.run_unsafeSliceData_nil (P := P) W c.argTypes o.type 0 0
        rw [← he] at hrun
        refine ⟨.pointer none, W, sn, ι, .inl ?_, ?_, Stp.refl hR⟩
        · simp only [execOp, hop, resolve, hc, invoke, builtin, Sem.run_bind, Sem.run_pure, Result.andThen_ok, hx', List.map_toArray, List.map_cons, List.map_nil, hrun]
        · simp only [VR]
    · rename_i hc
      split at h <;> try (simp at h; done)
      rename_i x y t t2 hx ht
      have hx' : c.args = #[x, y] := by apply Array.ext'; simpa using hx
      have ht' : c.argTypes = #[t, t2] := by apply Array.ext'; simpa using ht
      split at h <;> try (simp at h; done)
      rename_i p m hu hv
      obtain ⟨v', W', h1, h2, h3⟩ := aUStr_sound (t2 := t2) (ty0 := o.type) hR h (hρ _ _ hu)
      have he := hρ _ _ hv
      simp only [VR] at he
      rw [← he] at h1
      refine ⟨v', W', sn, ι, .inl ?_, h2, h3⟩
      simp only [execOp, hop, resolve, hc, invoke, builtin, Sem.run_bind, Sem.run_pure, Result.andThen_ok, hx', ht', List.map_toArray, List.map_cons, List.map_nil, h1]
    · rename_i hc
      split at h <;> try (simp at h; done)
      rename_i s x t t2 hx ht
      split at h <;> try (simp at h; done)
      rename_i u v hu hv
      have hx' : c.args = #[s, x] := by apply Array.ext'; simpa using hx
      have ht' : c.argTypes = #[t, t2] := by apply Array.ext'; simpa using ht
      obtain ⟨v', W', h1, h2, h3⟩ := aCopy_sound (t2 := t2) (ty := o.type) hR h (hρ _ _ hu) (hρ _ _ hv)
      refine ⟨v', W', sn, ι, .inl ?_, h2, h3⟩
      simp only [execOp, hop, resolve, hc, invoke, builtin, Sem.run_bind, Sem.run_pure, Result.andThen_ok, hx', ht', List.map_toArray, List.map_cons, List.map_nil, h1]
  | _ => simp [hop] at h
end eff

/-! calls -/
/-- The variables of the program that are read: what they hold is known. -/
def GlOK (gl : Glob) (sn : Snap) : Prop := ∀ g cs, gl g = some cs → MR sn cs g 0

abbrev Orc := Nat → List AV → AHeap → Option (AV × AHeap)

/-- What the oracle answers, the program does. -/
def OrcSound (P : Program) (gl : Glob) (orc : Orc) : Prop :=
  ∀ f args H r H', orc f args H = some (r, H') → ∀ sn ι W (cargs : List Value), GlOK gl sn → R sn ι H W → LR sn ι args cargs →
    Calls P f cargs.toArray W fun e W' => ∃ v sn' ι', e = .returned v ∧ VR sn' ι' r v ∧ Stp sn ι H W sn' ι' H' W'

def callee (ρ : Operand → Option AV) (c : Call) : Option (Nat × List AV) :=
  match c.callee with
  | .value f => match ρ f, aevals ρ c.args.toList with
    | some (.func (.func g) first captured), some args => some (g, first ++ args ++ captured)
    | _, _ => none
  | _ => none

def hasBody (P : Program) (g : Nat) : Bool := match P.funcs[g]? with | some fn => fn.body.isSome | none => false

/-- No function of the program bears the one name that the model knows. -/
def NoNum (P : Program) : Prop := ∀ (g : Nat) (fn : Func), P.funcs[g]? = some fn → (fn.name == "runtime.NumGoroutine") = false

/-- A function without a body that the model gives back its argument. -/
def extId (P : Program) (g : Nat) (args : List AV) : Option AV :=
  match P.funcs[g]? with
  | some fn => if fn.body.isNone = true ∧ fn.name = "internal/abi.NoEscape" ∧ fn.origin = "" then (match args with | [x] => some x | _ => none) else none
  | none => none

/-- Where a byte stands first. -/
def ixB (c : UInt8) : List UInt8 → Nat → Int
  | [], _ => -1
  | b :: l, i => bif Nat.beq b.toNat c.toNat then Int.ofNat i else ixB c l (Nat.add i 1)

/-- A function without a body that asks where a byte stands first. -/
def extIx (P : Program) (g : Nat) (args : List AV) : Option AV :=
  match P.funcs[g]? with
  | some fn => if fn.body.isNone = true ∧ fn.name = "internal/bytealg.IndexByteString" ∧ fn.origin = "" then
      (match args with | [.str s, .int .u8 (.ofNat m)] => some (.int .i64 (ixB (UInt8.ofNat m) s 0)) | _ => none)
    else if fn.body.isNone = true ∧ fn.name = "internal/bytealg.CountString" ∧ fn.origin = "" then
      (match args with | [.str s, .int .u8 (.ofNat m)] => some (.int .i64 (s.count (UInt8.ofNat m) : Nat)) | _ => none)
    else none
  | none => none

/-- A function without a body that makes n bytes of whatever worth: the type of its elements. -/
def extMk (P : Program) (g : Nat) : Option TypeId :=
  match P.funcs[g]? with
  | some fn => if fn.body.isNone = true ∧ fn.name = "internal/bytealg.MakeNoZero" ∧ fn.origin = "" then
      (match fn.resultTypes.toList with
        | t :: _ => (match P.underlying t with | some (.slice e) => some e | _ => none)
        | [] => none) else none
  | none => none

/-- A call is handed all of memory. -/
def acall (P : Program) (orc : Orc) (H : AHeap) (g : Nat) (args : List AV) : Option (AV × AHeap) :=
  if hasBody P g then orc g args H else match extId P g args with
    | some x => some (x, H)
    | none => match extIx P g args with
      | some x => some (x, H)
      | none => match extMk P g, args with
        | some e, [.int .i64 (.ofNat m)] => if m ≤ 281474976710656 then some (.slice H.length 0 m m 1, H ++ [⟨true, H.length, 0, .cells [] e⟩]) else none
        | _, _ => none

section call
variable {P : Program} {sn : Snap} {ι : IMap} {H : AHeap} {W : World}

theorem ext_noEscape {fn : Func} (h1 : fn.name = "internal/abi.NoEscape") (h2 : fn.origin = "") : Extern.findNext fn = none ∧ Extern.find fn = some Extern.AbiNoEscape.same := by
  constructor
  · unfold Extern.findNext; simp only [h1, h2]; rfl
  · unfold Extern.find; simp only [h1, h2]; rfl

theorem ext_indexByte {fn : Func} (h1 : fn.name = "internal/bytealg.IndexByteString") (h2 : fn.origin = "") : Extern.findNext fn = none ∧ Extern.find fn = some Extern.BytealgIndexByte.indexByte := by
  constructor
  · unfold Extern.findNext; simp only [h1, h2]; rfl
  · unfold Extern.find; simp only [h1, h2]; rfl

theorem ext_countString {fn : Func} (h1 : fn.name = "internal/bytealg.CountString") (h2 : fn.origin = "") : Extern.findNext fn = none ∧ Extern.find fn = some Extern.BytealgCount.count := by
  constructor
  · unfold Extern.findNext; simp only [h1, h2]; rfl
  · unfold Extern.find; simp only [h1, h2]; rfl

theorem ixB_spec (s : ByteArray) (c : UInt8) : ∀ (l : List UInt8) (k : Nat), (∀ (j : Nat) (h : j < l.length), s[k + j]! = l[j]) →
    (match (List.range' k l.length).find? (fun i => s[i]! == c) with | some i => (i : Int) | none => -1) = ixB c l k
  | [], k, h => by simp [ixB]
  | b :: l, k, h => by
    have h0 : s[k]! = b := h 0 (by simp)
    have ih := ixB_spec s c l (k + 1) fun j hj => by have := h (j + 1) (by simpa using hj); rw [show k + 1 + j = k + (j + 1) from by omega]; simpa using this
    simp only [List.length_cons, List.range'_succ, List.find?_cons, h0, ixB]
    by_cases e : b = c
    · subst e; simp
    · have e1 : (b == c) = false := by simpa using e
      have e2 : Nat.beq b.toNat c.toNat = false := by
        cases q : Nat.beq b.toNat c.toNat with
        | false => rfl
        | true => exact absurd (UInt8.toNat.inj (Nat.eq_of_beq_eq_true q)) e
      simp only [e1, e2, cond_false]
      exact ih

theorem firstIdx_ixB (s : ByteArray) (c : UInt8) : firstIdx s c = ixB c s.data.toList 0 := by
  have hsz : s.data.toList.length = s.size := by cases s; rfl
  have := ixB_spec s c s.data.toList 0 fun j hj => by
    rw [Nat.zero_add, getElem!_pos s j (by omega)]; rfl
  rw [← this, hsz, ← List.range_eq_range']; rfl

theorem ext_makeNoZero {fn : Func} (h1 : fn.name = "internal/bytealg.MakeNoZero") (h2 : fn.origin = "") : Extern.findNext fn = none ∧ Extern.find fn = some (Extern.BytealgMakeNoZero.makeNoZero fn.params fn.resultTypes) := by
  constructor
  · unfold Extern.findNext; simp only [h1, h2]; rfl
  · unfold Extern.find; simp only [h1, h2]; rfl

theorem callee_sound (hn : NoNum P) {ρ : Operand → Option AV} {ρ' : Operand → Value} (hρ : ∀ x u, ρ x = some u → VR sn ι u (ρ' x)) {o : Oper} {c : Call} (ho : o.op = .call c) {g : Nat} {args : List AV} (h : callee ρ c = some (g, args)) (hb : hasBody P g = true) (w : World) :
    ∃ cargs : List Value, LR sn ι args cargs ∧ (execOp ρ' o).run P w = .ok (.enter g cargs.toArray) w := by
  unfold callee at h
  split at h <;> try (simp at h; done)
  rename_i f hc
  split at h <;> try (simp at h; done)
  rename_i g' first captured args' hf hargs
  simp only [Option.some.injEq, Prod.mk.injEq] at h
  obtain ⟨rfl, rfl⟩ := h
  obtain ⟨f', c', hfv, h1, h2⟩ := (hρ _ _ hf).func
  have h3 := aevals_sound hρ _ _ hargs
  have hlr := (h1.append h3).append h2
  refine ⟨_, hlr, ?_⟩
  unfold hasBody at hb
  cases hfn : P.funcs[g']? with
  | none => simp [hfn] at hb
  | some fn =>
    simp only [hfn] at hb
    have hbn : fn.body.isNone = false := by cases hfb : fn.body with | none => simp [hfb] at hb | some _ => rfl
    simp only [execOp, ho, resolve, hc, Deferred.ofValue, hfv, Sem.run_bind, Sem.run_pure, Result.andThen_ok, invoke, callFunc, run_program, hfn, hn g' fn hfn, hbn, Bool.false_eq_true, if_false]
    congr 2
    apply Array.ext'; simp
theorem callee_ext (hn : NoNum P) {ρ : Operand → Option AV} {ρ' : Operand → Value} (hρ : ∀ x u, ρ x = some u → VR sn ι u (ρ' x)) {o : Oper} {c : Call} (ho : o.op = .call c) {g : Nat} {args : List AV} (h : callee ρ c = some (g, args)) {x : AV} (hx : extId P g args = some x) (w : World) :
    ∃ v, VR sn ι x v ∧ (execOp ρ' o).run P w = .ok (.value v) w := by
  unfold callee at h
  split at h <;> try (simp at h; done)
  rename_i f hc
  split at h <;> try (simp at h; done)
  rename_i g' first captured args' hf hargs
  simp only [Option.some.injEq, Prod.mk.injEq] at h
  obtain ⟨rfl, rfl⟩ := h
  obtain ⟨f', c', hfv, h1, h2⟩ := (hρ _ _ hf).func
  have h3 := aevals_sound hρ _ _ hargs
  have hlr := (h1.append h3).append h2
  unfold extId at hx
  split at hx <;> try (simp at hx; done)
  rename_i fn hfn
  split at hx <;> try (simp at hx; done)
  rename_i hcond
  obtain ⟨hb, hname, horig⟩ := hcond
  split at hx <;> simp at hx
  rename_i y hy
  subst hx
  rw [hy] at hlr
  simp only [LR] at hlr
  obtain ⟨d, ds, hd, hv, rfl⟩ := hlr
  obtain ⟨e1, e2⟩ := ext_noEscape hname horig
  refine ⟨d, hv, ?_⟩
  have harr : f' ++ (c.args.map ρ') ++ c' = #[d] := by apply Array.ext'; simpa using hd
  simp only [execOp, ho, resolve, hc, Deferred.ofValue, hfv, Sem.run_bind, Sem.run_pure, Result.andThen_ok, invoke, callFunc, run_program, hfn, hn g' fn hfn, hb, Bool.false_eq_true, if_false, if_true, mark, e1, e2]
  simp only [harr]
  rfl

theorem callee_ix (hn : NoNum P) {ρ : Operand → Option AV} {ρ' : Operand → Value} (hρ : ∀ x u, ρ x = some u → VR sn ι u (ρ' x)) {o : Oper} {c : Call} (ho : o.op = .call c) {g : Nat} {args : List AV} (h : callee ρ c = some (g, args)) {x : AV} (hx : extIx P g args = some x) (w : World) :
    ∃ v, VR sn ι x v ∧ (execOp ρ' o).run P w = .ok (.value v) w := by
  unfold callee at h
  split at h <;> try (simp at h; done)
  rename_i f hc
  split at h <;> try (simp at h; done)
  rename_i g' first captured args' hf hargs
  simp only [Option.some.injEq, Prod.mk.injEq] at h
  obtain ⟨rfl, rfl⟩ := h
  obtain ⟨f', c', hfv, h1, h2⟩ := (hρ _ _ hf).func
  have h3 := aevals_sound hρ _ _ hargs
  have hlr := (h1.append h3).append h2
  unfold extIx at hx
  split at hx <;> try (simp at hx; done)
  rename_i fn hfn
  split at hx
  · rename_i hcond
    obtain ⟨hb, hname, horig⟩ := hcond
    split at hx <;> simp at hx
    rename_i s m hy
    subst hx
    rw [hy] at hlr
    simp only [LR] at hlr
    obtain ⟨d, ds, hd, hv, d2, ds2, rfl, hv2, rfl⟩ := hlr
    obtain ⟨ba, rfl, rfl⟩ := hv.str
    simp only [VR] at hv2
    subst hv2
    obtain ⟨e1, e2⟩ := ext_indexByte hname horig
    have harr : f' ++ (c.args.map ρ') ++ c' = #[.string ba, .int .u8 (Int.ofNat m)] := by apply Array.ext'; simpa using hd
    refine ⟨.int .i64 (firstIdx ba (UInt8.ofNat m)), by rw [firstIdx_ixB]; exact vr_int _ _, ?_⟩
    simp only [execOp, ho, resolve, hc, Deferred.ofValue, hfv, Sem.run_bind, Sem.run_pure, Result.andThen_ok, invoke]
    rw [harr, run_callFunc_extern hfn (hn g' fn hfn) hb e1 e2, run_indexByte_string]
    rfl
  split at hx <;> try (simp at hx; done)
  rename_i hcond
  obtain ⟨hb, hname, horig⟩ := hcond
  split at hx <;> simp at hx
  rename_i s m hy
  subst hx
  rw [hy] at hlr
  simp only [LR] at hlr
  obtain ⟨d, ds, hd, hv, d2, ds2, rfl, hv2, rfl⟩ := hlr
  obtain ⟨ba, rfl, rfl⟩ := hv.str
  simp only [VR] at hv2
  subst hv2
  obtain ⟨e1, e2⟩ := ext_countString hname horig
  have harr : f' ++ (c.args.map ρ') ++ c' = #[.string ba, .int .u8 (Int.ofNat m)] := by apply Array.ext'; simpa using hd
  refine ⟨.int .i64 (Lib.countByte ba.data.toList (Int.ofNat m).toNat.toUInt8 : Nat), vr_int _ _, ?_⟩
  simp only [execOp, ho, resolve, hc, Deferred.ofValue, hfv, Sem.run_bind, Sem.run_pure, Result.andThen_ok, invoke]
  rw [harr, run_callFunc_extern hfn (hn g' fn hfn) hb e1 e2, Lib.run_countString]
  rfl

theorem callee_mk (hR : R sn ι H W) (hn : NoNum P) {ρ : Operand → Option AV} {ρ' : Operand → Value} (hρ : ∀ x u, ρ x = some u → VR sn ι u (ρ' x)) {o : Oper} {c : Call} (ho : o.op = .call c) {g m : Nat} (h : callee ρ c = some (g, [.int .i64 (.ofNat m)])) {e : TypeId} (hx : extMk P g = some e) (hm : m ≤ 281474976710656) :
    ∃ v W' ι', VR sn ι' (.slice H.length 0 m m 1) v ∧ (execOp ρ' o).run P W = .ok (.value v) W' ∧ Stp sn ι H W sn ι' (H ++ [⟨true, H.length, 0, .cells [] e⟩]) W' := by
  unfold callee at h
  split at h <;> try (simp at h; done)
  rename_i f hc
  split at h <;> try (simp at h; done)
  rename_i g' first captured args' hf hargs
  simp only [Option.some.injEq, Prod.mk.injEq] at h
  obtain ⟨rfl, hy⟩ := h
  obtain ⟨f', c', hfv, h1, h2⟩ := (hρ _ _ hf).func
  have h3 := aevals_sound hρ _ _ hargs
  have hlr := (h1.append h3).append h2
  unfold extMk at hx
  split at hx <;> try (simp at hx; done)
  rename_i fn hfn
  split at hx <;> try (simp at hx; done)
  rename_i hcond
  obtain ⟨hb, hname, horig⟩ := hcond
  split at hx <;> try (simp at hx; done)
  rename_i t ts hts
  split at hx <;> simp at hx
  rename_i e' ht
  subst hx
  rw [hy] at hlr
  simp only [LR] at hlr
  obtain ⟨d, ds, hd, hv, rfl⟩ := hlr
  simp only [VR] at hv
  subst hv
  obtain ⟨e1, e2⟩ := ext_makeNoZero hname horig
  have harr : f' ++ (c.args.map ρ') ++ c' = #[.int .i64 (.ofNat m)] := by apply Array.ext'; simpa using hd
  have hres : fn.resultTypes = ⟨t :: ts⟩ := by apply Array.ext'; exact hts
  obtain ⟨cs, hrun, hle, _⟩ := Lib.run_makeNoZero (P := P) W fn.params t e' ht m hm
  have hrun' : (Extern.BytealgMakeNoZero.makeNoZero fn.params fn.resultTypes #[.int .i64 (.ofNat m)]).run P W = .ok (.slice (some ⟨W.heap.size, 0, none⟩) m cs.size) (W.drew.drew.alloc (.cells cs e')) := by
    rw [hres]
    exact hrun
  refine ⟨.slice (some ⟨W.heap.size, 0, none⟩) m cs.size, W.drew.drew.alloc (.cells cs e'), upd ι H.length ⟨W.heap.size, 0, cs.size⟩, ?_, ?_, ?_⟩
  · simp only [VR]
    exact ⟨_, _, _, upd_self _ _ _, rfl, Nat.le_refl _, hle, fun _ => ⟨rfl, by simp⟩⟩
  · simp only [execOp, ho, resolve, hc, Deferred.ofValue, hfv, Sem.run_bind, Sem.run_pure, Result.andThen_ok, invoke]
    rw [harr, run_callFunc_extern hfn (hn g' fn hfn) hb e1 e2, hrun']
    rfl
  · refine Stp.trans hR (Stp.ext hR (Ext.drew W)) ?_
    have hR1 := hR.ext (Ext.drew W)
    refine Stp.trans hR1 (Stp.ext hR1 (Ext.drew W.drew)) ?_
    have hR2 := hR1.ext (Ext.drew W.drew)
    refine Stp.alloc hR2 ⟨true, H.length, 0, .cells [] e'⟩ _ _ fun _ => ?_
    exact or_cells (heap_alloc_new _ _) (l := []) (l' := cs.toList) (by simp) (by simp [LR])
end call

/-! an operation -/
def aop (P : Program) (orc : Orc) (ρ : Operand → Option AV) (o : Oper) (H : AHeap) : Option (AV × AHeap) :=
  match (match o.op with | .call c => callee ρ c | _ => none) with
  | some (g, args) => acall P orc H g args
  | none => match apure' P ρ H o with
    | some r => some (r, H)
    | none => aeff P ρ H o

theorem aop_sound {P : Program} {gl : Glob} {orc : Orc} {sn : Snap} {ι : IMap} {H : AHeap} {W : World} {a : Act} (hn : NoNum P) (hO : OrcSound P gl orc) (hg : GlOK gl sn) (hR : R sn ι H W) {ρ : Operand → Option AV} (hρ : ∀ x u, ρ x = some u → VR sn ι u (a.eval x)) {o : Oper} {r : AV} {H' : AHeap} (h : aop P orc ρ o H = some (r, H'))
    {K : Act → World → Prop} {Q : Exit → Act → World → Prop} (hK : ∀ v W' sn' ι', VR sn' ι' r v → Stp sn ι H W sn' ι' H' W' → K (a.put o.dst v) W') : o.wp P a W K Q := by
  unfold aop at h
  split at h
  · rename_i g args hc
    split at hc <;> try (simp at hc; done)
    rename_i c hop
    unfold acall at h
    split at h
    case isFalse =>
      split at h
      · rename_i x hx
        simp at h
        obtain ⟨rfl, rfl⟩ := h
        obtain ⟨v, h1, h2⟩ := callee_ext (w := W) hn hρ hop hc hx
        unfold Oper.wp
        rw [h2, Oper.upon_value]
        exact hK v W sn ι h1 (Stp.refl hR)
      split at h
      · rename_i x hx
        simp at h
        obtain ⟨rfl, rfl⟩ := h
        obtain ⟨v, h1, h2⟩ := callee_ix (w := W) hn hρ hop hc hx
        unfold Oper.wp
        rw [h2, Oper.upon_value]
        exact hK v W sn ι h1 (Stp.refl hR)
      · split at h <;> try (simp at h; done)
        rename_i e m he _ _
        split at h <;> simp at h
        rename_i hm
        obtain ⟨rfl, rfl⟩ := h
        obtain ⟨v, W', ι', h1, h2, h3⟩ := callee_mk (W := W) hR hn hρ hop hc he hm
        unfold Oper.wp
        rw [h2, Oper.upon_value]
        exact hK v W' sn ι' h1 h3
    rename_i hb
    obtain ⟨cargs, h1, h2⟩ := callee_sound (w := W) hn hρ hop hc hb
    have hcall := hO g args H r H' h sn ι W cargs hg hR h1
    unfold Oper.wp
    rw [h2, Oper.upon_enter]
    refine hcall.mono ?_
    rintro e W' ⟨v, sn', ι', rfl, hv, hst⟩
    exact hK v W' sn' ι' hv hst
  · split at h
    · rename_i r' hr
      simp at h; obtain ⟨rfl, rfl⟩ := h
      obtain ⟨v, h1, h2⟩ := apure'_sound hR.ro hρ hr
      unfold Oper.wp
      rw [h1, Oper.upon_value]
      exact hK v W sn ι h2 (Stp.refl hR)
    · obtain ⟨v, W', sn', ι', h1, h2, h3⟩ := aeff_sound hR hρ h
      unfold Oper.wp
      rcases h1 with h1 | ⟨h1, rfl⟩
      · rw [h1, Oper.upon_value]; exact hK v W' sn' ι' h2 h3
      · rw [h1, Oper.upon_skip]; exact hK undef W' sn' ι' h2 h3

/-! the temporaries: a tree, so that the kernel finds each in few steps; 'some none': it is there, what it holds is not known -/
inductive Tr where
  | leaf
  | node (v : Option (Option AV)) (l r : Tr)

def tget : Tr → Nat → Option AV
  | .leaf, _ => none
  | .node v _ _, 0 => match v with | some x => x | none => none
  | .node _ l r, n + 1 => match Nat.mod n 2 with | 0 => tget l (Nat.div n 2) | _ => tget r (Nat.div n 2)

/-- Is it there? -/
def tex : Tr → Nat → Bool
  | .leaf, _ => false
  | .node v _ _, 0 => match v with | some _ => true | none => false
  | .node _ l r, n + 1 => match Nat.mod n 2 with | 0 => tex l (Nat.div n 2) | _ => tex r (Nat.div n 2)

/-- t with v at n, where something stands already. -/
def tset : Tr → Nat → AV → Option Tr
  | .leaf, _, _ => none
  | .node x l r, 0, v => match x with | some _ => some (.node (some (some v)) l r) | none => none
  | .node x l r, n + 1, v => match Nat.mod n 2 with
    | 0 => match tset l (Nat.div n 2) v with | some l' => some (.node x l' r) | none => none
    | _ => match tset r (Nat.div n 2) v with | some r' => some (.node x l r') | none => none

def tmk (g : Nat → Option AV) : Nat → Tr
  | 0 => .leaf
  | d + 1 => .node (match g 0 with | some v => some (some v) | none => none) (tmk (fun i => g (Nat.add (Nat.mul 2 i) 1)) d) (tmk (fun i => g (Nat.add (Nat.mul 2 i) 2)) d)

theorem tget_tex : ∀ (t : Tr) (n : Nat) (x : AV), tget t n = some x → tex t n = true
  | .leaf, n, x, h => by simp [tget] at h
  | .node v l r, 0, x, h => by cases v <;> simp [tget] at h; simp [tex]
  | .node v l r, n + 1, x, h => by
    simp only [tget] at h
    simp only [tex]
    split at h <;> exact tget_tex _ _ _ h

theorem half_iff (m n : Nat) (h : m % 2 = n % 2) : (Nat.div m 2 = Nat.div n 2) ↔ (m + 1 = n + 1) := by
  show (m / 2 = n / 2) ↔ _
  omega

theorem tset_get : ∀ (t : Tr) (n : Nat) (v : AV) (t' : Tr), tset t n v = some t' → tex t n = true ∧ (∀ m, tget t' m = if m = n then some v else tget t m) ∧ ∀ m, tex t' m = tex t m
  | .leaf, n, v, t', h => by simp [tset] at h
  | .node x l r, 0, v, t', h => by
    simp only [tset] at h
    split at h <;> simp at h
    subst h
    refine ⟨rfl, fun m => ?_, fun m => ?_⟩ <;> cases m <;> simp [tget, tex]
  | .node x l r, n + 1, v, t', h => by
    simp only [tset] at h
    split at h
    · rename_i hn
      split at h <;> simp at h
      subst h; rename_i l' hl
      obtain ⟨h1, h2, h3⟩ := tset_get l _ v l' hl
      refine ⟨by simp only [tex, hn]; exact h1, fun m => ?_, fun m => ?_⟩
      · cases m with
        | zero => simp [tget]
        | succ m =>
          simp only [tget]
          split
          · rename_i hm
            rw [h2]
            simp only [half_iff m n (show m % 2 = n % 2 from Eq.trans hm (Eq.symm hn))]
          · rename_i hm
            rw [if_neg]
            intro e
            have : m = n := by omega
            subst this; exact hm hn
      · cases m with
        | zero => simp [tex]
        | succ m => simp only [tex]; split <;> simp [h3]
    · rename_i hn
      split at h <;> simp at h
      subst h; rename_i l' hl
      obtain ⟨h1, h2, h3⟩ := tset_get r _ v l' hl
      refine ⟨by simp only [tex]; exact h1, fun m => ?_, fun m => ?_⟩
      · cases m with
        | zero => simp [tget]
        | succ m =>
          simp only [tget]
          split
          · rename_i hm
            rw [if_neg]
            intro e
            have : m = n := by omega
            subst this; exact hn hm
          · rename_i hm
            rw [h2]
            have hn' : ¬ n % 2 = 0 := hn
            have hm' : ¬ m % 2 = 0 := hm
            simp only [half_iff m n (by omega)]
      · cases m with
        | zero => simp [tex]
        | succ m => simp only [tex]; split <;> simp [h3]

theorem tmk_get : ∀ (d : Nat) (g : Nat → Option AV) (n : Nat) (u : AV), tget (tmk g d) n = some u → g n = some u
  | 0, g, n, u, h => by simp [tmk, tget] at h
  | d + 1, g, 0, u, h => by
    simp only [tmk, tget] at h
    cases hg : g 0 with
    | none => simp [hg] at h
    | some v => simpa [hg] using h
  | d + 1, g, n + 1, u, h => by
    simp only [tmk, tget] at h
    split at h
    · rename_i hn
      have := tmk_get d _ _ u h
      have hn' : n % 2 = 0 := hn
      have e : Nat.add (Nat.mul 2 (Nat.div n 2)) 1 = n + 1 := by show 2 * (n / 2) + 1 = n + 1; omega
      rw [e] at this; exact this
    · rename_i hn
      have := tmk_get d _ _ u h
      have hn' : ¬ n % 2 = 0 := hn
      have e : Nat.add (Nat.mul 2 (Nat.div n 2)) 2 = n + 1 := by show 2 * (n / 2) + 2 = n + 1; omega
      rw [e] at this; exact this

theorem tmk_tex : ∀ (d : Nat) (g : Nat → Option AV) (n : Nat), tex (tmk g d) n = true → ∃ u, g n = some u
  | 0, g, n, h => by simp [tmk, tex] at h
  | d + 1, g, 0, h => by
    simp only [tmk, tex] at h
    cases hg : g 0 with
    | none => simp [hg] at h
    | some v => exact ⟨v, rfl⟩
  | d + 1, g, n + 1, h => by
    simp only [tmk, tex] at h
    split at h
    · rename_i hn
      have := tmk_tex d _ _ h
      have hn' : n % 2 = 0 := hn
      have e : Nat.add (Nat.mul 2 (Nat.div n 2)) 1 = n + 1 := by show 2 * (n / 2) + 1 = n + 1; omega
      rw [e] at this; exact this
    · rename_i hn
      have := tmk_tex d _ _ h
      have hn' : ¬ n % 2 = 0 := hn
      have e : Nat.add (Nat.mul 2 (Nat.div n 2)) 2 = n + 1 := by show 2 * (n / 2) + 2 = n + 1; omega
      rw [e] at this; exact this

/-- The tree holds what the temporaries hold. -/
def TRel (sn : Snap) (ι : IMap) (tm : Tr) (a : Act) : Prop := (∀ t u, tget tm t = some u → ∃ v, a.tmps[t]? = some v ∧ VR sn ι u v) ∧ ∀ t, tex tm t = true → t < a.tmps.size

def aeval (gl : Glob) (tm : Tr) : Operand → Option AV
  | .tmp t => tget tm t
  | .const v => ofV v
  | .global g => match gl g with | some cs => some (.rp cs) | none => none
  | .func f => some (.func (.func f) [] [])

def putT (d : Option Tmp) (v : AV) (tm : Tr) : Option Tr := match d with | some d => tset tm d v | none => some tm

/-! forcing: the kernel reckons what is handed on -/
def frcN {β : Type} (n : Nat) (f : Nat → β) : β := match n with | 0 => f 0 | Nat.succ m => f (Nat.succ m)
def frcI {β : Type} (n : Int) (f : Int → β) : β := match n with | .ofNat n => frcN n fun n => f (.ofNat n) | .negSucc n => frcN n fun n => f (.negSucc n)
def frcB {β : Type} (b : Bool) (f : Bool → β) : β := match b with | true => f true | false => f false
def frcS {β : Type} : List UInt8 → (List UInt8 → β) → β
  | [], f => f []
  | c :: l, f => frcS l fun l => f (c :: l)
mutual
def frcV {β : Type} : AV → (AV → β) → β
  | .bool b, f => frcB b fun b => f (.bool b)
  | .int k n, f => frcI n fun n => f (.int k n)
  | .str s, f => f (.str s)
  | .nptr, f => f .nptr
  | .ptr b o, f => frcN b fun b => frcN o fun o => f (.ptr b o)
  | .rp cs, f => f (.rp cs)
  | .nslice, f => f .nslice
  | .slice b o l c z, f => frcN b fun b => frcN o fun o => frcN l fun l => frcN c fun c => frcN z fun z => f (.slice b o l c z)
  | .rs n z cs, f => frcN n fun n => f (.rs n z cs)
  | .nmap, f => f .nmap
  | .map b, f => frcN b fun b => f (.map b)
  | .func fn a b, f => frcVL a fun a => frcVL b fun b => f (.func fn a b)
  | .nfunc, f => f .nfunc
  | .iface t v, f => frcV v fun v => f (.iface t v)
  | .niface, f => f .niface
  | .agg cs, f => frcVL cs fun cs => f (.agg cs)
  | .tuple cs, f => frcVL cs fun cs => f (.tuple cs)
def frcVL {β : Type} : List AV → (List AV → β) → β
  | [], f => f []
  | v :: l, f => frcV v fun v => frcVL l fun l => f (v :: l)
end
def frcE {β : Type} : List (AV × AV × Nat) → (List (AV × AV × Nat) → β) → β
  | [], f => f []
  | (k, v, n) :: l, f => frcV k fun k => frcV v fun v => frcN n fun n => frcE l fun l => f ((k, v, n) :: l)
def frcO {β : Type} (o : AObj) (f : AObj → β) : β :=
  match o with
  | ⟨a, fam, sh, b⟩ => frcB a fun a => frcN fam fun fam => frcN sh fun sh => match b with
    | .cells cs ty => frcVL cs fun cs => f ⟨a, fam, sh, .cells cs ty⟩
    | .map es c => frcE es fun es => frcN c fun c => f ⟨a, fam, sh, .map es c⟩
    | .siter s p => frcN p fun p => f ⟨a, fam, sh, .siter s p⟩
def frcH {β : Type} : AHeap → (AHeap → β) → β
  | [], f => f []
  | o :: l, f => frcO o fun o => frcH l fun l => f (o :: l)

theorem frcN_eq {β : Type} (n : Nat) (f : Nat → β) : frcN n f = f n := by cases n <;> rfl
theorem frcI_eq {β : Type} (n : Int) (f : Int → β) : frcI n f = f n := by cases n <;> simp [frcI, frcN_eq]
theorem frcB_eq {β : Type} (n : Bool) (f : Bool → β) : frcB n f = f n := by cases n <;> rfl
theorem frcS_eq {β : Type} : ∀ (l : List UInt8) (f : List UInt8 → β), frcS l f = f l
  | [], f => rfl
  | c :: l, f => by simp [frcS, frcS_eq l]
mutual
theorem frcV_eq {β : Type} : ∀ (v : AV) (f : AV → β), frcV v f = f v
  | .bool b, f => by simp [frcV, frcB_eq]
  | .int k n, f => by simp [frcV, frcI_eq]
  | .str s, f => by simp [frcV]
  | .nptr, f => by simp [frcV]
  | .ptr b o, f => by simp [frcV, frcN_eq]
  | .rp cs, f => by simp [frcV]
  | .nslice, f => by simp [frcV]
  | .slice b o l c z, f => by simp [frcV, frcN_eq]
  | .rs n z cs, f => by simp [frcV, frcN_eq]
  | .nmap, f => by simp [frcV]
  | .map b, f => by simp [frcV, frcN_eq]
  | .func fn a b, f => by simp [frcV, frcVL_eq a, frcVL_eq b]
  | .nfunc, f => by simp [frcV]
  | .iface t v, f => by simp [frcV, frcV_eq v]
  | .niface, f => by simp [frcV]
  | .agg cs, f => by simp [frcV, frcVL_eq cs]
  | .tuple cs, f => by simp [frcV, frcVL_eq cs]
theorem frcVL_eq {β : Type} : ∀ (l : List AV) (f : List AV → β), frcVL l f = f l
  | [], f => by simp [frcVL]
  | v :: l, f => by simp [frcVL, frcV_eq v, frcVL_eq l]
end
theorem frcE_eq {β : Type} : ∀ (l : List (AV × AV × Nat)) (f : List (AV × AV × Nat) → β), frcE l f = f l
  | [], f => by simp [frcE]
  | (k, v, n) :: l, f => by simp [frcE, frcV_eq, frcN_eq, frcE_eq l]
theorem frcO_eq {β : Type} (o : AObj) (f : AObj → β) : frcO o f = f o := by
  obtain ⟨a, fam, sh, b⟩ := o
  cases b <;> simp [frcO, frcB_eq, frcN_eq, frcVL_eq, frcE_eq]
theorem frcH_eq {β : Type} : ∀ (l : AHeap) (f : AHeap → β), frcH l f = f l
  | [], f => by simp [frcH]
  | o :: l, f => by simp [frcH, frcO_eq, frcH_eq l]

/-- A result that was reckoned. -/
def frcT {β : Type} (v : AV) (f : AV → β) : β := match v with | .str s => frcS s fun s => f (.str s) | v => frcV v f
theorem frcT_eq {β : Type} (v : AV) (f : AV → β) : frcT v f = f v := by cases v <;> simp [frcT, frcS_eq, frcV_eq]

/-- Objects alone, not what is in them. -/
def frcHs {β : Type} : AHeap → (AHeap → β) → β
  | [], f => f []
  | o :: l, f => match o with
    | ⟨a, fam, sh, b⟩ => frcB a fun a => match b with
      | .cells cs ty => frcHs l fun l => f (⟨a, fam, sh, .cells cs ty⟩ :: l)
      | .map es c => frcHs l fun l => f (⟨a, fam, sh, .map es c⟩ :: l)
      | .siter s p => frcHs l fun l => f (⟨a, fam, sh, .siter s p⟩ :: l)
theorem frcHs_eq {β : Type} : ∀ (l : AHeap) (f : AHeap → β), frcHs l f = f l
  | [], f => by simp [frcHs]
  | ⟨a, fam, sh, b⟩ :: l, f => by cases b <;> simp [frcHs, frcB_eq, frcHs_eq l]

/-- What is handed on behind an operation. -/
def frcC {β : Type} (o : Oper) (r : AV) (H : AHeap) (f : AV → AHeap → β) : β :=
  match o.op with
  | .move _ => f r H
  | .assign _ => f r H
  | .pick .. => f r H
  | .nilCheck _ => f r H
  | .extract .. => f r H
  | .load .. => f r H
  | .build .. => f r H
  | .field .. => f r H
  | .fieldAddr .. => frcV r fun r => f r H
  | .indexAddr .. => frcV r fun r => f r H
  | .index .. => frcV r fun r => f r H
  | .binOp .. => frcT r fun r => f r H
  | .unOp .. => frcT r fun r => f r H
  | .convert .. => frcT r fun r => f r H
  | .slice .. => frcT r fun r => f r H
  | .store .. => frcHs H fun H => f r H
  | .alloc _ => frcV r fun r => frcHs H fun H => f r H
  | .box .. => frcV r fun r => frcHs H fun H => f r H
  | .buildSlice .. => frcV r fun r => frcHs H fun H => f r H
  | _ => frcV r fun r => frcH H fun H => f r H
theorem frcC_eq {β : Type} (o : Oper) (r : AV) (H : AHeap) (f : AV → AHeap → β) : frcC o r H f = f r H := by
  unfold frcC; split <;> simp [frcV_eq, frcT_eq, frcHs_eq, frcH_eq]

section op
variable {P : Program} {gl : Glob} {orc : Orc} {sn : Snap} {ι : IMap} {H : AHeap} {W : World} {a : Act} {tm : Tr}

theorem aeval_sound (hg : GlOK gl sn) (ht : TRel sn ι tm a) : ∀ x u, aeval gl tm x = some u → VR sn ι u (a.eval x) := by
  intro x u h
  cases x with
  | tmp t =>
    obtain ⟨v, h1, h2⟩ := ht.1 t u h
    have : a.eval (.tmp t) = v := by simp [Act.eval, Array.getD_eq_getD_getElem?, h1]
    rw [this]; exact h2
  | const v => exact ofV_VR v u h
  | global g =>
    simp only [aeval] at h; split at h <;> simp at h
    subst h; rename_i cs hcs
    simp only [VR, Act.eval]; exact ⟨g, 0, rfl, hg g cs hcs⟩
  | func f => simp [aeval] at h; subst h; simp [VR, Act.eval, LR]

theorem TRel.mono {sn' : Snap} {ι' : IMap} (ht : TRel sn ι tm a) (h : Le sn sn' ι ι') : TRel sn' ι' tm a := ⟨fun t u e => let ⟨v, h1, h2⟩ := ht.1 t u e; ⟨v, h1, VR_mono h _ _ h2⟩, ht.2⟩

theorem putT_sound (ht : TRel sn ι tm a) {d : Option Tmp} {r : AV} {v : Value} (hv : VR sn ι r v) {tm' : Tr} (h : putT d r tm = some tm') : TRel sn ι tm' (a.put d v) := by
  cases d with
  | none => simp [putT] at h; subst h; exact ht
  | some d =>
    obtain ⟨h1, h2, h3⟩ := tset_get _ _ _ _ h
    have hd : d < a.tmps.size := ht.2 d h1
    refine ⟨fun t u hu => ?_, fun t hx => ?_⟩
    · rw [h2] at hu
      simp only [Act.put, Array.getElem?_setIfInBounds]
      split at hu
      · simp at hu; subst hu; rename_i e; subst e; simp [hd]; exact hv
      · rename_i e; rw [if_neg (Ne.symm e)]; exact ht.1 t u hu
    · rw [h3] at hx
      simp only [Act.put, Array.size_setIfInBounds]
      exact ht.2 t hx

theorem GlOK.mono {sn sn' : Snap} {ι ι' : IMap} (h : GlOK gl sn) (hl : Le sn sn' ι ι') : GlOK gl sn' := fun g cs e => MR_mono hl cs g 0 (h g cs e)

/-- Does the guard let the operation run? -/
def awanted (ops : List Oper) (o : Oper) (tm : Tr) : Option Bool :=
  match o.guard with
  | none => some true
  | some (j, want) => match ops[j]? with
    | some g => match g.dst with
      | some d => match tget tm d with
        | some (.bool b) => some (b == want)
        | some _ => some false
        | none => none
      | none => none
    | none => none

theorem awanted_eq (ht : TRel sn ι tm a) (ops : Array Oper) (o : Oper) {b : Bool} (h : awanted ops.toList o tm = some b) : Region.wanted o (yielded ops a.tmps) = b := by
  unfold awanted at h
  unfold Region.wanted yielded
  cases hgd : o.guard with
  | none => simp [hgd] at h; simp [h]
  | some jw =>
    obtain ⟨j, want⟩ := jw
    simp only [hgd] at h
    split at h <;> try (simp at h; done)
    rename_i g hg
    rw [Array.getElem?_toList] at hg
    split at h <;> try (simp at h; done)
    rename_i d hd
    split at h <;> try (simp at h; done)
    · rename_i c hc
      simp at h; subst h
      obtain ⟨v, h1, h2⟩ := ht.1 d _ hc
      cases h2.bool
      simp [hg, hd, h1]
    · rename_i u hne hu
      simp at h; subst h
      obtain ⟨v, h1, h2⟩ := ht.1 d _ hu
      simp only [hg, Option.bind_some, hd, h1]
      cases u with
      | bool b => exact (hne b rfl).elim
      | _ => simp only [VR] at h2; cases v <;> first | rfl | (exfalso; simp at h2)

/-- A region in the order of its text. -/
def aseq (P : Program) (gl : Glob) (orc : Orc) (ops : List Oper) : List Oper → Tr → AHeap → Option (Tr × AHeap)
  | [], tm, H => some (tm, H)
  | o :: l, tm, H =>
    match awanted ops o tm with
    | some true =>
      match aop P orc (aeval gl tm) o H with
      | some (r, H') => frcC o r H' fun r H' => match putT o.dst r tm with | some tm' => aseq P gl orc ops l tm' H' | none => none
      | none => none
    | some false => match putT o.dst (.tuple []) tm with | some tm' => aseq P gl orc ops l tm' H | none => none
    | none => none

theorem Act.put_defers' (a : Act) (d : Option Tmp) (v : Value) : (a.put d v).defers = a.defers := by cases d <;> rfl

theorem aseq_sound (hn : NoNum P) (hO : OrcSound P gl orc) (ops : Array Oper) : ∀ (l : List Oper) (tm : Tr) (H : AHeap) (tm' : Tr) (H' : AHeap) (a : Act) (W : World) (sn : Snap) (ι : IMap),
    aseq P gl orc ops.toList l tm H = some (tm', H') → GlOK gl sn → R sn ι H W → TRel sn ι tm a → ∀ {Q : Exit → Act → World → Prop},
    (∀ a' W' sn' ι', Stp sn ι H W sn' ι' H' W' → TRel sn' ι' tm' a' → a'.defers = a.defers → Q .normal a' W') → wpList P ops Q l a W
  | [], tm, H, tm', H', a, W, sn, ι, h, hg, hR, ht, Q, hQ => by
    simp [aseq] at h; obtain ⟨rfl, rfl⟩ := h
    exact wpList_nil (hQ a W sn ι (Stp.refl hR) ht rfl)
  | o :: l, tm, H, tm', H', a, W, sn, ι, h, hg, hR, ht, Q, hQ => by
    refine wpList_step fun K hK => ?_
    simp only [aseq] at h
    split at h
    · rename_i hw
      rw [if_pos (awanted_eq ht ops o hw)]
      split at h <;> try (simp at h; done)
      rename_i r H1 hop
      simp only [frcC_eq] at h
      split at h <;> try (simp at h; done)
      rename_i tm1 hp
      refine aop_sound hn hO hg hR (aeval_sound hg ht) hop fun v W' sn' ι' hv hst => hK _ _ ?_
      refine aseq_sound hn hO ops l _ _ _ _ _ _ sn' ι' h (hg.mono hst.le) hst.rel (putT_sound (ht.mono hst.le) hv hp) fun a' W'' sn'' ι'' hst' ht' hd => ?_
      exact hQ a' W'' sn'' ι'' (hst.trans hR hst') ht' (hd.trans (Act.put_defers' _ _ _))
    · rename_i hw
      rw [if_neg (by rw [awanted_eq ht ops o hw]; simp)]
      split at h <;> try (simp at h; done)
      rename_i tm1 hp
      refine hK _ _ (aseq_sound hn hO ops l _ _ _ _ _ _ sn ι h hg hR (putT_sound ht vr_undef hp) fun a' W'' sn'' ι'' hst' ht' hd => ?_)
      exact hQ a' W'' sn'' ι'' hst' ht' (hd.trans (Act.put_defers' _ _ _))
    · simp at h
end op
end Go.Abs

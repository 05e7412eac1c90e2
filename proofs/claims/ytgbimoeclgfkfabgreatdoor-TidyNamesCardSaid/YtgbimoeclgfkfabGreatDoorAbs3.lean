/-
  A verified abstract interpreter, part 3: operations that only look at values and memory.
-/
import Derived.Test.YtgbimoeclgfkfabGreatDoorAbs2
set_option linter.unusedSimpArgs false
set_option linter.unusedVariables false
namespace Go.Abs
open Go.RowKit

def one : AV → Bool
  | .agg _ => false
  | .tuple _ => false
  | _ => true

def AV.cells : AV → List AV
  | .agg cs => cs
  | v => [v]

def tsz (P : Program) (t : TypeId) : Option Nat := match P.info? t with | some i => some i.size | none => none
def tagg (P : Program) (t : TypeId) : Option Bool :=
  match P.underlying t with
  | some (.struct _) => some true
  | some (.array _ _) => some true
  | some _ => some false
  | none => none

def tk : Nat → List AV → Option (List AV)
  | 0, _ => some []
  | n + 1, c :: l => match tk n l with | some r => some (c :: r) | none => none
  | _ + 1, [] => none

theorem tk_some : ∀ {n : Nat} {l r : List AV}, tk n l = some r → n ≤ l.length ∧ r = l.take n
  | 0, l, r, h => by simp [tk] at h; subst h; simp
  | n + 1, [], r, h => by simp [tk] at h
  | n + 1, c :: l, r, h => by
    simp only [tk] at h; split at h <;> simp at h
    subst h; rename_i e; obtain ⟨h1, h2⟩ := tk_some e; subst h2; exact ⟨by simpa using h1, by simp⟩

section vals
variable {sn : Snap} {ι : IMap}
theorem VR.bool {b : Bool} {v : Value} (h : VR sn ι (.bool b) v) : v = .bool b := by simpa [VR] using h
theorem VR.int {k : IntKind} {n : Int} {v : Value} (h : VR sn ι (.int k n) v) : v = .int k n := by simpa [VR] using h
theorem VR.str {s : List UInt8} {v : Value} (h : VR sn ι (.str s) v) : ∃ ba : ByteArray, v = .string ba ∧ ba.data.toList = s := by simpa [VR] using h
theorem VR.agg {cs : List AV} {v : Value} (h : VR sn ι (.agg cs) v) : ∃ d, v = .agg d ∧ LR sn ι cs d.toList := by simpa [VR] using h
theorem VR.tuple {cs : List AV} {v : Value} (h : VR sn ι (.tuple cs) v) : ∃ d, v = .tuple d ∧ LR sn ι cs d.toList := by simpa [VR] using h
theorem VR.ptr {b off : Nat} {v : Value} (h : VR sn ι (.ptr b off) v) : ∃ p, ι b = some p ∧ v = .pointer (some ⟨p.blk, p.sh + off, none⟩) := by simpa [VR] using h
theorem VR.rp {cs : List AV} {v : Value} (h : VR sn ι (.rp cs) v) : ∃ b o, v = .pointer (some ⟨b, o, none⟩) ∧ MR sn cs b o := by simpa [VR] using h
theorem VR.slice {b off len cap z : Nat} {v : Value} (h : VR sn ι (.slice b off len cap z) v) : ∃ p a cap', ι b = some p ∧ v = .slice (some a) len cap' ∧ len ≤ cap ∧ cap ≤ cap' ∧ (cap' ≠ 0 → a = ⟨p.blk, p.sh + off, none⟩ ∧ p.sh + off + cap' * z ≤ p.n) := by simpa [VR] using h
theorem VR.rs {n z : Nat} {cs : List AV} {v : Value} (h : VR sn ι (.rs n z cs) v) : (n = 0 ∧ cs = [] ∧ v = .slice none 0 0) ∨ ∃ (a : Addr) (cap : Nat), v = .slice (some a) n cap ∧ n ≤ cap ∧ cs.length = n * z ∧ MR sn cs a.block a.off ∧ (n ≠ 0 → a.spot = none) := by simpa only [VR] using h
theorem VR.iface {t : TypeId} {u : AV} {v : Value} (h : VR sn ι (.iface t u) v) : ∃ x, v = .iface t x ∧ VR sn ι u x := by simpa [VR] using h
theorem VR.func {fn : Fn} {f c : List AV} {v : Value} (h : VR sn ι (.func fn f c) v) : ∃ f' c', v = .func fn f' c' ∧ LR sn ι f f'.toList ∧ LR sn ι c c'.toList := by simpa [VR] using h
theorem VR.map {b : Nat} {v : Value} (h : VR sn ι (.map b) v) : ∃ p, ι b = some p ∧ v = .map (some p.blk) := by simpa [VR] using h
theorem VR.nptr {v : Value} (h : VR sn ι .nptr v) : v = .pointer none := by simpa [VR] using h
theorem VR.nslice {v : Value} (h : VR sn ι .nslice v) : v = .slice none 0 0 := by simpa [VR] using h
theorem VR.nmap {v : Value} (h : VR sn ι .nmap v) : v = .map none := by simpa [VR] using h
theorem VR.nfunc {v : Value} (h : VR sn ι .nfunc v) : v = .nilFunc := by simpa [VR] using h
theorem VR.niface {v : Value} (h : VR sn ι .niface v) : v = .nilIface := by simpa [VR] using h

theorem vr_bool (b : Bool) : VR sn ι (.bool b) (.bool b) := by simp [VR]
theorem vr_int (k : IntKind) (n : Int) : VR sn ι (.int k n) (.int k n) := by simp [VR]
theorem vr_str {ba : ByteArray} {s : List UInt8} (h : ba.data.toList = s) : VR sn ι (.str s) (.string ba) := by simp only [VR]; exact ⟨ba, rfl, h⟩
theorem vr_agg {cs : List AV} {d : Array Value} (h : LR sn ι cs d.toList) : VR sn ι (.agg cs) (.agg d) := by simp only [VR]; exact ⟨d, rfl, h⟩
theorem vr_tuple {cs : List AV} {d : Array Value} (h : LR sn ι cs d.toList) : VR sn ι (.tuple cs) (.tuple d) := by simp only [VR]; exact ⟨d, rfl, h⟩
theorem vr_undef : VR sn ι (.tuple []) undef := by simp only [VR, undef, LR]; exact ⟨#[], rfl, rfl⟩

theorem VR.cells {u : AV} {v : Value} (h : VR sn ι u v) : LR sn ι u.cells v.cells.toList := by
  cases u with
  | agg cs => obtain ⟨d, rfl, h'⟩ := h.agg; exact h'
  | _ =>
    have hv : v.cells = #[v] := by
      simp only [VR] at h
      cases v <;> first | rfl | (exfalso; simp at h)
    rw [hv]; simp only [AV.cells, LR]; exact ⟨v, [], rfl, h, rfl⟩

theorem VR.one {u : AV} {v : Value} (h : VR sn ι u v) (h1 : one u = true) : v.oneCell' = true := by
  cases u <;> simp only [VR] at h <;> cases v <;> first | rfl | (exfalso; simp at h; done) | (simp [Abs.one] at h1)
end vals

/-! constants -/
mutual
def ofV : Value → Option AV
  | .bool b => some (.bool b)
  | .int k n => some (.int k n)
  | .string s => some (.str s.data.toList)
  | .pointer none => some .nptr
  | .slice none 0 0 => some .nslice
  | .map none => some .nmap
  | .nilFunc => some .nfunc
  | .nilIface => some .niface
  | .agg a => match ofVA a with | some l => some (.agg l) | none => none
  | .tuple a => match ofVA a with | some l => some (.tuple l) | none => none
  | .func fn f c => match ofVA f, ofVA c with | some x, some y => some (.func fn x y) | _, _ => none
  | .iface t v => match ofV v with | some x => some (.iface t x) | none => none
  | _ => none
def ofVA : Array Value → Option (List AV)
  | ⟨l⟩ => ofVL l
def ofVL : List Value → Option (List AV)
  | [] => some []
  | v :: l => match ofV v, ofVL l with | some x, some y => some (x :: y) | _, _ => none
end

mutual
theorem ofV_VR {sn : Snap} {ι : IMap} : ∀ (v : Value) (u : AV), ofV v = some u → VR sn ι u v
  | .bool b, u, h => by simp [ofV] at h; subst h; simp [VR]
  | .int k n, u, h => by simp [ofV] at h; subst h; simp [VR]
  | .string s, u, h => by simp [ofV] at h; subst h; simp [VR]
  | .pointer none, u, h => by simp [ofV] at h; subst h; simp [VR]
  | .pointer (some a), u, h => by simp [ofV] at h
  | .slice none 0 0, u, h => by simp [ofV] at h; subst h; simp [VR]
  | .slice none 0 (n + 1), u, h => by simp [ofV] at h
  | .slice none (n + 1) c, u, h => by simp [ofV] at h
  | .slice (some a) n c, u, h => by simp [ofV] at h
  | .map none, u, h => by simp [ofV] at h; subst h; simp [VR]
  | .map (some a), u, h => by simp [ofV] at h
  | .nilFunc, u, h => by simp [ofV] at h; subst h; simp [VR]
  | .nilIface, u, h => by simp [ofV] at h; subst h; simp [VR]
  | .agg a, u, h => by simp only [ofV] at h; split at h <;> simp at h; subst h; rename_i e; exact vr_agg (ofVA_LR a _ e)
  | .tuple a, u, h => by simp only [ofV] at h; split at h <;> simp at h; subst h; rename_i e; exact vr_tuple (ofVA_LR a _ e)
  | .func fn f c, u, h => by
    simp only [ofV] at h; split at h <;> simp at h; subst h; rename_i e e'
    simp only [VR]; exact ⟨f, c, rfl, ofVA_LR f _ e, ofVA_LR c _ e'⟩
  | .iface t v, u, h => by simp only [ofV] at h; split at h <;> simp at h; subst h; rename_i e; simp only [VR]; exact ⟨v, rfl, ofV_VR v _ e⟩
  | .float k b, u, h => by simp [ofV] at h
  | .complex k a b, u, h => by simp [ofV] at h
  | .chan c, u, h => by simp [ofV] at h
theorem ofVA_LR {sn : Snap} {ι : IMap} : ∀ (a : Array Value) (l : List AV), ofVA a = some l → LR sn ι l a.toList
  | ⟨a⟩, l, h => by simp only [ofVA] at h; exact ofVL_LR a l h
theorem ofVL_LR {sn : Snap} {ι : IMap} : ∀ (a : List Value) (l : List AV), ofVL a = some l → LR sn ι l a
  | [], l, h => by simp [ofVL] at h; subst h; simp [LR]
  | v :: a, l, h => by
    simp only [ofVL] at h; split at h <;> simp at h; subst h; rename_i e e'
    simp only [LR]; exact ⟨v, a, rfl, ofV_VR v _ e, ofVL_LR a _ e'⟩
end

def tzero (P : Program) (t : TypeId) : Option AV := match P.info? t with | some i => (match i.zero with | some z => ofV z | none => none) | none => none

section types
variable {P : Program} {t : TypeId}
theorem tsz_run {n : Nat} (h : tsz P t = some n) (w : World) : (sizeOf t).run P w = .ok n w := by
  unfold tsz at h; split at h <;> simp at h; subst h; rename_i e; simp [sizeOf, typeInfo, e]
theorem tsz_info {n : Nat} (h : tsz P t = some n) : ∃ i, P.info? t = some i ∧ i.size = n := by
  unfold tsz at h; split at h <;> simp at h; exact ⟨_, by assumption, h⟩
theorem tagg_run {b : Bool} (h : tagg P t = some b) (w : World) : (isAgg t).run P w = .ok b w := by
  unfold tagg at h
  cases e : P.underlying t with
  | none => simp [e] at h
  | some d => rw [e] at h; cases d <;> simp at h <;> subst h <;> simp [isAgg, run_underlying e]
theorem tzero_run {u : AV} (h : tzero P t = some u) : ∃ z, (∀ w, (zeroValue t).run P w = .ok z w) ∧ ∀ sn ι, VR sn ι u z := by
  unfold tzero at h; split at h
  · rename_i i e; split at h
    · rename_i z e'; exact ⟨z, fun w => by simp [zeroValue, typeInfo, e, e'], fun sn ι => ofV_VR z u h⟩
    · simp at h
  · simp at h
end types

/-! reading memory -/
def rd (H : AHeap) (a : AV) (n : Nat) : Option (List AV) :=
  match a with
  | .ptr b off =>
    match H[b]? with
    | some o => match o.alive, o.body with
      | true, .cells cs _ => tk n (cs.drop off)
      | _, _ => none
    | none => none
  | .rp cs => tk n cs
  | _ => none

theorem cell_of_heap {W : World} {g o : Nat} {arr : Array Value} {ty : TypeId} {fr : Nat × Nat} (h : W.heap[g]? = some (.cells arr ty fr)) : W.cell? ⟨g, o, none⟩ = arr[o]? := by
  simp [World.cell?, h]

theorem addr_add (g o n : Nat) : (⟨g, o, none⟩ : Addr).add n = ⟨g, o + n, none⟩ := by unfold Addr.add; split <;> simp_all

theorem rd_sound {sn : Snap} {ι : IMap} {H : AHeap} {W : World} (hR : RO sn ι H W) {a : AV} {n : Nat} {cs : List AV} (h : rd H a n = some cs) {v : Value} (hv : VR sn ι a v) :
    ∃ g o vs, v = .pointer (some ⟨g, o, none⟩) ∧ LR sn ι cs vs ∧ vs.length = n ∧ ∀ (j : Nat) (x : Value), vs[j]? = some x → W.cell? ((⟨g, o, none⟩ : Addr).add j) = some x := by
  -- enough: each cell
  have key : ∀ (g o : Nat) (l : List AV), l.length = n → (∀ (j : Nat) (c : AV), l[j]? = some c → ∃ x, W.cell? ⟨g, o + j, none⟩ = some x ∧ VR sn ι c x) →
      ∃ vs : List Value, LR sn ι l vs ∧ vs.length = n ∧ ∀ (j : Nat) (x : Value), vs[j]? = some x → W.cell? ((⟨g, o, none⟩ : Addr).add j) = some x := by
    intro g o l hl hc
    refine ⟨(List.range n).map fun j => (W.cell? ⟨g, o + j, none⟩).getD undef, LR_iff.2 ⟨by simp [hl], fun j c hj => ?_⟩, by simp, fun j x hx => ?_⟩
    · obtain ⟨x, h1, h2⟩ := hc j c hj
      have hjn : j < n := by have := (List.getElem?_eq_some_iff.1 hj).1; omega
      exact ⟨x, by simp [hjn, h1], h2⟩
    · have hjn : j < n := by have := (List.getElem?_eq_some_iff.1 hx).1; simpa using this
      obtain ⟨y, h1, h2⟩ := hc j l[j] (List.getElem?_eq_getElem (by omega))
      simp [hjn, h1] at hx; subst hx
      rw [addr_add]; exact h1
  cases a with
  | ptr b off =>
    obtain ⟨p, hp, rfl⟩ := hv.ptr
    simp only [rd] at h
    split at h
    · rename_i o ho
      split at h
      · rename_i csx ty hal hbd
        obtain ⟨h1, rfl⟩ := tk_some h
        have hob := hR.obj b o p ho hal hp
        rw [hbd] at hob; simp only [OR] at hob
        obtain ⟨arr, g1, g2, g3, g4⟩ := hob
        obtain ⟨vs, k1, k2, k3⟩ := key p.blk (p.sh + off) ((csx.drop off).take n) (by simp at h1 ⊢; omega) (by
          intro j c hj
          rw [List.getElem?_take] at hj
          split at hj
          · rw [List.getElem?_drop] at hj
            obtain ⟨x, e1, e2⟩ := g4 _ c hj
            exact ⟨x, by rw [cell_of_heap g1, Nat.add_assoc]; exact e1, e2⟩
          · simp at hj)
        exact ⟨_, _, vs, rfl, k1, k2, k3⟩
      · simp at h
    · simp at h
  | rp csx =>
    obtain ⟨g, o, rfl, hm⟩ := hv.rp
    simp only [rd] at h
    obtain ⟨h1, rfl⟩ := tk_some h
    obtain ⟨vs, k1, k2, k3⟩ := key g o (csx.take n) (by simp; omega) (by
      intro j c hj
      rw [List.getElem?_take] at hj
      split at hj
      · obtain ⟨x, e1, e2⟩ := hm.get hj
        exact ⟨x, hR.snap _ _ e1, VR_noI e2⟩
      · simp at hj)
    exact ⟨_, _, vs, rfl, k1, k2, k3⟩
  | _ => simp [rd] at h

def aload (P : Program) (t : TypeId) (a : AV) (H : AHeap) : Option AV :=
  match tagg P t with
  | some true => match tsz P t with
    | some n => match rd H a n with | some cs => some (.agg cs) | none => none
    | none => none
  | some false => match rd H a 1 with | some [c] => some c | _ => none
  | none => none

section pure
variable {P : Program} {sn : Snap} {ι : IMap} {H : AHeap} {W : World}

theorem loadVar_sound (hR : RO sn ι H W) {t : TypeId} {a : AV} {u : AV} (h : aload P t a H = some u) {v : Value} (hv : VR sn ι a v) :
    ∃ ad x, v = .pointer (some ad) ∧ (loadVar t ad).run P W = .ok x W ∧ VR sn ι u x := by
  unfold aload at h
  split at h
  · rename_i hag
    split at h
    · rename_i n hn
      split at h <;> simp at h
      subst h; rename_i cs hcs
      obtain ⟨g, o, vs, rfl, h1, h2, h3⟩ := rd_sound hR hcs hv
      have hl := run_loadCells_list (P := P) W ⟨g, o, none⟩ vs h3
      refine ⟨_, .agg vs.toArray, rfl, ?_, vr_agg (by simpa using h1)⟩
      rw [h2] at hl
      simp only [loadVar, Sem.run_bind, tagg_run hag, Result.andThen_ok, if_true, tsz_run hn, hl, Sem.run_pure]
    · simp at h
  · rename_i hag
    split at h <;> simp at h
    subst h; rename_i cs hcs
    obtain ⟨g, o, vs, rfl, h1, h2, h3⟩ := rd_sound hR hcs hv
    simp only [LR] at h1
    obtain ⟨d, ds, rfl, hd, rfl⟩ := h1
    have hc := h3 0 d rfl
    rw [addr_add, Nat.add_zero] at hc
    refine ⟨_, d, rfl, ?_, hd⟩
    simp only [loadVar, Sem.run_bind, tagg_run hag, Result.andThen_ok, Bool.false_eq_true, if_false]
    simp [hc]
  · simp at h

theorem load_sound (hR : RO sn ι H W) {t : TypeId} {a : AV} {u : AV} (h : aload P t a H = some u) {v : Value} (hv : VR sn ι a v) :
    ∃ x, (Instr.loadAt t v).run P W = .ok x W ∧ VR sn ι u x := by
  obtain ⟨ad, x, rfl, h1, h2⟩ := loadVar_sound hR h hv
  exact ⟨x, by simp only [Instr.loadAt, Instr.sureAddr, Sem.run_bind, Sem.run_pure, Result.andThen_ok, h1], h2⟩

/-! parts of aggregates -/
def apart (P : Program) (t : TypeId) (cs : List AV) (off : Nat) : Option AV :=
  match tagg P t with
  | some true => match tsz P t with
    | some n => match tk n (cs.drop off) with | some l => some (.agg l) | none => none
    | none => none
  | some false => cs[off]?
  | none => none

theorem part_sound {t : TypeId} {cs : List AV} {off : Nat} {u : AV} (h : apart P t cs off = some u) {d : Array Value} (hd : LR sn ι cs d.toList) (w : World) :
    ∃ x, (part t d off).run P w = .ok x w ∧ VR sn ι u x := by
  unfold apart at h
  split at h
  · rename_i hag
    split at h
    · rename_i n hn
      split at h <;> simp at h
      subst h; rename_i l hl
      obtain ⟨h1, rfl⟩ := tk_some hl
      refine ⟨.agg (d.extract off (off + n)), by simp only [part, Sem.run_bind, tagg_run hag, Result.andThen_ok, if_true, tsz_run hn, Sem.run_pure], vr_agg ?_⟩
      have e : (d.extract off (off + n)).toList = (d.toList.drop off).take n := by simp [List.extract_eq_take_drop, Nat.add_sub_cancel_left]
      rw [e]; exact (hd.drop off).take n
    · simp at h
  · rename_i hag
    obtain ⟨x, h1, h2⟩ := hd.get h
    rw [Array.getElem?_toList] at h1
    exact ⟨x, by simp only [part, Sem.run_bind, tagg_run hag, Result.andThen_ok, Bool.false_eq_true, if_false, h1, Sem.run_pure], h2⟩
  · simp at h

/-! equality -/
def fieldsEq (P : Program) (t : TypeId) : Option (List (TypeId × Nat)) :=
  if P.stoodInHeld t then none else
  match P.underlying t with
  | some (.struct fs) => fs.toList.foldr (fun f r => match r with | some l => if f.name = "_" then none else some ((f.type, f.offset) :: l) | none => none) (some [])
  | _ => none

def eqFs (e : TypeId → AV → AV → Option Bool) (P : Program) : List (TypeId × Nat) → List AV → List AV → Option Bool
  | [], _, _ => some true
  | (t, off) :: fs, xs, ys =>
    match apart P t xs off, apart P t ys off with
    | some a, some b => match e t a b with
      | some true => eqFs e P fs xs ys
      | some false => some false
      | none => none
    | _, _ => none

def aEq (P : Program) : Nat → TypeId → AV → AV → Option Bool
  | 0, _, _, _ => none
  | d + 1, t, x, y =>
    match x, y with
    | .bool a, .bool b => match P.underlying t with | some .bool => some (a == b) | _ => none
    | .int k a, .int k' b => match P.underlying t with | some (.int _) => if k = k' then some (a == b) else none | _ => none
    | .str a, .str b => match P.underlying t with | some .string => some (a == b) | _ => none
    | .agg xs, .agg ys => match fieldsEq P t with | some fs => eqFs (aEq P d) P fs xs ys | none => none
    | .nptr, .nptr => match P.underlying t with | some (.pointer _) => some true | _ => none
    | .nptr, .ptr _ _ => match P.underlying t with | some (.pointer _) => some false | _ => none
    | .ptr _ _, .nptr => match P.underlying t with | some (.pointer _) => some false | _ => none
    | .nslice, .nslice => match P.underlying t with | some (.slice _) => some true | _ => none
    | .nslice, .slice .. => match P.underlying t with | some (.slice _) => some false | _ => none
    | .nslice, .rs (_ + 1) _ _ => match P.underlying t with | some (.slice _) => some false | _ => none
    | .slice .., .nslice => match P.underlying t with | some (.slice _) => some false | _ => none
    | .rs (_ + 1) _ _, .nslice => match P.underlying t with | some (.slice _) => some false | _ => none
    | .nmap, .nmap => match P.underlying t with | some (.map _ _) => some true | _ => none
    | .nmap, .map _ => match P.underlying t with | some (.map _ _) => some false | _ => none
    | .map _, .nmap => match P.underlying t with | some (.map _ _) => some false | _ => none
    | .nfunc, .nfunc => match P.underlying t with | some (.func _ _ _) => some true | _ => none
    | .nfunc, .func .. => match P.underlying t with | some (.func _ _ _) => some false | _ => none
    | .func .., .nfunc => match P.underlying t with | some (.func _ _ _) => some false | _ => none
    | _, _ => none

theorem fieldsEq_sound {t : TypeId} {fs : List (TypeId × Nat)} (h : fieldsEq P t = some fs) :
    P.stoodInHeld t = false ∧ P.underlying t = some (.struct (P.fieldsOf t)) ∧ (∀ f ∈ (P.fieldsOf t).toList, f.name ≠ "_") ∧ fs = (P.fieldsOf t).toList.map fun f => (f.type, f.offset) := by
  unfold fieldsEq at h
  split at h
  · simp at h
  rename_i hst
  split at h
  · rename_i a ha
    have hf : P.fieldsOf t = a := by simp [Program.fieldsOf, ha]
    rw [hf]
    refine ⟨by simpa using hst, ha, ?_⟩
    generalize a.toList = l at h
    induction l generalizing fs with
    | nil => simp at h; subst h; simp
    | cons f l ih =>
      simp only [List.foldr_cons] at h
      split at h
      · rename_i r hr
        split at h <;> simp at h
        subst h; rename_i hn
        obtain ⟨h1, h2⟩ := ih hr
        refine ⟨?_, by simp [h2]⟩
        intro g hg; rcases List.mem_cons.1 hg with rfl | hg
        · exact hn
        · exact h1 g hg
      · simp at h
  · simp at h

theorem eqFs_sound {e : TypeId → AV → AV → Option Bool} {d : Nat} (he : ∀ (t : TypeId) (x y : AV) (b : Bool), e t x y = some b → ∀ x' y', VR sn ι x x' → VR sn ι y y' → ∀ w, (Op.equalIn d t x' y').run P w = .ok b w) :
    ∀ (l : List Field) (xs ys : List AV) (b : Bool), (∀ f ∈ l, f.name ≠ "_") → eqFs e P (l.map fun f => (f.type, f.offset)) xs ys = some b → ∀ dx dy : Array Value, LR sn ι xs dx.toList → LR sn ι ys dy.toList →
      ∀ w, (Op.eqFields d dx dy l).run P w = .ok b w
  | [], xs, ys, b, hn, h, dx, dy, hx, hy, w => by simp [eqFs] at h; subst h; simp [Op.eqFields]
  | f :: l, xs, ys, b, hn, h, dx, dy, hx, hy, w => by
    simp only [List.map_cons, eqFs] at h
    split at h
    · rename_i a c ha hc
      obtain ⟨a', h1, h2⟩ := part_sound ha hx w
      obtain ⟨c', h3, h4⟩ := part_sound hc hy w
      have hne : f.name ≠ "_" := hn f (by simp)
      split at h
      · rename_i heq
        have := he _ _ _ _ heq a' c' h2 h4 w
        simp only [Op.eqFields, hne, ne_eq, not_false_eq_true, if_true, Sem.run_bind, h1, h3, this, Result.andThen_ok, Bool.not_true, Bool.false_eq_true, if_false]
        exact eqFs_sound he l xs ys b (fun g hg => hn g (by simp [hg])) h dx dy hx hy w
      · rename_i heq
        simp at h; subst h
        have := he _ _ _ _ heq a' c' h2 h4 w
        simp only [Op.eqFields, hne, ne_eq, not_false_eq_true, if_true, Sem.run_bind, h1, h3, this, Result.andThen_ok, Bool.not_false, Sem.run_pure]
      · simp at h
    · simp at h

theorem aEq_sound : ∀ (d : Nat) (t : TypeId) (x y : AV) (b : Bool), aEq P d t x y = some b → ∀ x' y', VR sn ι x x' → VR sn ι y y' → ∀ w, (Op.equalIn d t x' y').run P w = .ok b w
  | 0, t, x, y, b, h, _, _, _, _, _ => by simp [aEq] at h
  | d + 1, t, x, y, b, h, x', y', hx, hy, w => by
    unfold aEq at h
    split at h
    case _ a c =>
      split at h <;> simp at h
      subst h; cases hx.bool; cases hy.bool; rename_i ht; simp [Op.equalIn, run_underlying ht]
    case _ k a k' c =>
      split at h <;> simp at h
      obtain ⟨rfl, rfl⟩ := h; cases hx.int; cases hy.int; rename_i ht; simp [Op.equalIn, run_underlying ht]
    case _ a c =>
      split at h <;> simp at h
      subst h; obtain ⟨ba, rfl, rfl⟩ := hx.str; obtain ⟨bb, rfl, rfl⟩ := hy.str; rename_i ht
      simp only [Op.equalIn, Sem.run_bind, run_underlying ht, Result.andThen_ok, Sem.run_pure]
      rw [beq_toListBytes, ByteArray.toList_eq, ByteArray.toList_eq]
    case _ xs ys =>
      split at h
      · rename_i fs hfs
        obtain ⟨h1, h2, h3, rfl⟩ := fieldsEq_sound hfs
        obtain ⟨dx, rfl, hdx⟩ := hx.agg; obtain ⟨dy, rfl, hdy⟩ := hy.agg
        rw [run_equalIn_struct w d t dx dy h2 h1]
        exact eqFs_sound (fun t x y b hh x' y' => aEq_sound d t x y b hh x' y') _ xs ys b h3 h dx dy hdx hdy w
      · simp at h
    all_goals first
      | (simp at h; done)
      | (split at h <;> simp at h
         subst h; rename_i ht
         simp only [VR] at hx hy
         try (replace hx := hx.resolve_left (fun h0 => absurd h0.1 (Nat.succ_ne_zero _)))
         try (replace hy := hy.resolve_left (fun h0 => absurd h0.1 (Nat.succ_ne_zero _)))
         first | (subst hx) | (obtain ⟨_, _, rfl⟩ := hx) | (obtain ⟨_, _, _, _, rfl, _⟩ := hx) | (obtain ⟨_, _, _, rfl, _⟩ := hx) | (obtain ⟨_, _, rfl, _⟩ := hx)
         first | (subst hy) | (obtain ⟨_, _, rfl⟩ := hy) | (obtain ⟨_, _, _, _, rfl, _⟩ := hy) | (obtain ⟨_, _, _, rfl, _⟩ := hy) | (obtain ⟨_, _, rfl, _⟩ := hy)
         simp [Op.equalIn, run_underlying ht])

end pure
end Go.Abs

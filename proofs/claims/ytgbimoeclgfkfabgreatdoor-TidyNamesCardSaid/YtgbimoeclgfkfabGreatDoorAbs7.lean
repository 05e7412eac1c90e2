/-
  A verified abstract interpreter, part 7: the operations that make and write memory.
-/
import Derived.Test.YtgbimoeclgfkfabGreatDoorAbs6
set_option linter.unusedSimpArgs false
set_option linter.unusedVariables false
namespace Go.Abs
open Go.RowKit

/-- zs, n times. -/
def repl : Nat → List AV → List AV
  | 0, _ => []
  | n + 1, zs => zs ++ repl n zs

def newBlk (H : AHeap) (cs : List AV) (ty : TypeId) : AHeap := H ++ [⟨true, H.length, 0, .cells cs ty⟩]

def aAlloc (P : Program) (e : TypeId) (H : AHeap) : Option (AV × AHeap) :=
  match tzero P e with
  | some z => some (.ptr H.length 0, newBlk H z.cells e)
  | none => none

def aBox (e : TypeId) (v : AV) (H : AHeap) : Option (AV × AHeap) := some (.ptr H.length 0, newBlk H v.cells e)

def bsCore (P : Program) (t : TypeId) (len : Nat) (parts : List (Nat × AV)) : Option (List AV × TypeId × Nat) :=
  match P.underlying t with
  | some (.slice e) => match tsz P e with
    | some z => if len * z ≤ 16777216 then
        match (if len * z = 0 then some [] else match tzero P e with | some u => (if u.cells.length = z then some (repl len u.cells) else none) | none => none) with
        | some zs => match aFill (fun i => some (i * z, z)) zs parts with
          | some cs => some (cs, e, z)
          | none => none
        | none => none
      else none
    | none => none
  | _ => none

def aBuildSlice (P : Program) (t : TypeId) (len : Nat) (parts : List (Nat × AV)) (H : AHeap) : Option (AV × AHeap) :=
  match bsCore P t len parts with
  | some (cs, e, z) => some (.slice H.length 0 len len z, newBlk H cs e)
  | none => none

def msCore (P : Program) (t : TypeId) (l c : AV) : Option (List AV × TypeId × Nat × Nat × Nat) :=
  match l, c with
  | .int _ l, .int _ c => match P.underlying t with
    | some (.slice e) => match tsz P e with
      | some z => match P.info? e with
        | some i =>
          if 0 ≤ l ∧ l ≤ c ∧ c ≤ 1099511627776 ∧ (i.bytes : Int) * c ≤ 140737488355328 then
            match (if c.toNat * z = 0 then some [] else match tzero P e with | some u => (if u.cells.length = z then some (repl c.toNat u.cells) else none) | none => none) with
            | some zs => some (zs, e, z, l.toNat, c.toNat)
            | none => none
          else none
        | none => none
      | none => none
    | _ => none
  | _, _ => none

def aMakeSlice (P : Program) (t : TypeId) (l c : AV) (H : AHeap) : Option (AV × AHeap) :=
  match msCore P t l c with
  | some (zs, e, z, l, c) => some (.slice H.length 0 l c z, newBlk H zs e)
  | none => none

/-- A write of whole cells at a pointer. -/
def wr (H : AHeap) (a : AV) (vs : List AV) : Option AHeap :=
  match a with
  | .ptr b off => match H[b]? with
    | some o => match o.alive, o.body with
      | true, .cells cs ty => if vs.all one then
          match spl cs off vs with
          | some cs' => some ((wkil b o.fam H).set b { o with body := .cells cs' ty })
          | none => none
        else none
      | _, _ => none
    | none => none
  | _ => none

def aStore (P : Program) (t : TypeId) (a v : AV) (H : AHeap) : Option AHeap :=
  match tsz P t with
  | some n => if v.cells.length = n then wr H a v.cells else none
  | none => none

section eff
variable {P : Program} {sn : Snap} {ι : IMap} {H : AHeap} {W : World}

theorem Ext.alloc (W : World) (o : Obj) : Ext W (W.alloc o) := ⟨fun c hc => Below.heap_alloc W o c hc, by simp, rfl, rfl, rfl⟩
theorem Ext.drew (W : World) : Ext W W.drew := ⟨fun _ _ => rfl, Nat.le_refl _, rfl, rfl, rfl⟩

theorem or_cells {sn : Snap} {ι : IMap} {W : World} {g : Nat} {cs : List AV} {arr : Array Value} {ty : TypeId} (hw : W.heap[g]? = some (.cells arr ty (0, 0))) {l l' : List Value} (ha : arr.toList = l ++ l') (h : LR sn ι cs l) :
    OR sn ι W (.cells cs ty) ⟨g, 0, arr.size⟩ := by
  have hl := h.length
  have hs : arr.size = l.length + l'.length := by rw [← Array.length_toList, ha, List.length_append]
  refine ⟨arr, hw, rfl, by simp; omega, fun i c hc => ?_⟩
  obtain ⟨v, h1, h2⟩ := h.get hc
  refine ⟨v, ?_, h2⟩
  have hi : i < l.length := (List.getElem?_eq_some_iff.1 h1).1
  simp only [Nat.zero_add]
  rw [← Array.getElem?_toList, ha, List.getElem?_append_left hi]; exact h1

theorem newBlk_stp (hR : R sn ι H W) {cs : List AV} {arr : Array Value} (h : LR sn ι cs arr.toList) (ty : TypeId) :
    Stp sn ι H W sn (upd ι H.length ⟨W.heap.size, 0, arr.size⟩) (newBlk H cs ty) (W.alloc (.cells arr ty)) :=
  Stp.alloc hR ⟨true, H.length, 0, .cells cs ty⟩ (.cells arr ty) arr.size fun _ =>
    or_cells (l := arr.toList) (l' := []) (heap_alloc_new W _) (by simp) h

theorem vr_newptr (ι : IMap) (n g sz : Nat) : VR sn (upd ι n ⟨g, 0, sz⟩) (.ptr n 0) (.pointer (some ⟨g, 0, none⟩)) := by
  simp only [VR]; exact ⟨⟨g, 0, sz⟩, by simp [upd], rfl⟩

theorem aAlloc_sound (hR : R sn ι H W) {e : TypeId} {r : AV} {H' : AHeap} (h : aAlloc P e H = some (r, H')) :
    ∃ v W' ι', (Instr.alloc e true (.tuple #[])).run P W = .ok v W' ∧ VR sn ι' r v ∧ Stp sn ι H W sn ι' H' W' := by
  unfold aAlloc at h; split at h <;> simp at h
  obtain ⟨rfl, rfl⟩ := h; rename_i z hz
  obtain ⟨z', h1, h2⟩ := tzero_run hz
  refine ⟨_, _, _, ?_, vr_newptr ι H.length W.heap.size z'.cells.size, newBlk_stp hR ((h2 sn ι).cells) e⟩
  simp [Instr.alloc, h1, newVar, newRow, run_newObj_alloc]

theorem aBox_sound (hR : R sn ι H W) {e : TypeId} {x r : AV} {H' : AHeap} (h : aBox e x H = some (r, H')) {x' : Value} (hx : VR sn ι x x') :
    ∃ v W' ι', (Instr.box e x').run P W = .ok v W' ∧ VR sn ι' r v ∧ Stp sn ι H W sn ι' H' W' := by
  simp [aBox] at h
  obtain ⟨rfl, rfl⟩ := h
  refine ⟨_, _, _, ?_, vr_newptr ι H.length W.heap.size x'.cells.size, newBlk_stp hR hx.cells e⟩
  simp [Instr.box, newVar, newRow, run_newObj_alloc]

theorem getElem!_mod (z : Array Value) (i : Nat) (h : 0 < z.size) : z[i % z.size]! = z.toList.getD (i % z.size) default := by
  have : i % z.size < z.size := Nat.mod_lt _ h
  simp [this, List.getD]

theorem repl_LR {zs : List AV} {z : Array Value} (h : LR sn ι zs z.toList) : ∀ (n : Nat), LR sn ι (repl n zs) ((List.range (n * z.size)).map fun i => z[i % z.size]!)
  | 0 => by simp [repl, LR]
  | n + 1 => by
    by_cases hz : z.size = 0
    · have hl := h.length
      simp [hz] at hl
      have : zs = [] := List.eq_nil_of_length_eq_zero (by omega)
      subst this
      have := repl_LR h n
      simp only [hz, Nat.mul_zero, List.range_zero, List.map_nil] at this ⊢
      simpa [repl] using this
    · have e : (List.range ((n + 1) * z.size)).map (fun i => z[i % z.size]!) = z.toList ++ (List.range (n * z.size)).map fun i => z[i % z.size]! := by
        rw [Nat.add_mul, Nat.one_mul, Nat.add_comm, List.range_add, List.map_append, List.map_map]
        congr 1
        · apply List.ext_getElem (by simp)
          intro i h1 h2
          simp at h2
          simp [Nat.mod_eq_of_lt h2, h2]
        · apply List.map_congr_left
          intro i _
          simp [Nat.add_mod_left]
      rw [e]; exact h.append (repl_LR h n)

theorem repl_length (zs : List AV) : ∀ n, (repl n zs).length = n * zs.length
  | 0 => by simp [repl]
  | n + 1 => by simp [repl, repl_length zs n, Nat.add_mul]; omega

/-- The zero cells that a make lays. -/
theorem zeros_sound {e : TypeId} {n z : Nat} {zs : List AV} (hz : tsz P e = some z)
    (h : (if n * z = 0 then some [] else match tzero P e with | some u => (if u.cells.length = z then some (repl n u.cells) else none) | none => none) = some zs) :
    ∃ zr : Array Value, (n * z = 0 → zr = #[]) ∧ (n * z ≠ 0 → ∃ zv, (∀ w, (zeroValue e).run P w = .ok zv w) ∧ zv.cells = zr) ∧
      LR sn ι zs ((Array.range (n * z)).map (zr[· % zr.size]!)).toList ∧ zs.length = n * z := by
  split at h
  · rename_i h0
    simp at h; subst h
    exact ⟨#[], fun _ => rfl, fun h => absurd h0 h, by simp [h0, LR], by simp [h0]⟩
  · rename_i h0
    split at h <;> try (simp at h; done)
    rename_i u hu
    split at h <;> simp at h
    subst h; rename_i hul
    obtain ⟨z', h1, h2⟩ := tzero_run hu
    have hc := (h2 sn ι).cells
    have hsz : z'.cells.size = z := by have := hc.length; simp at this; omega
    refine ⟨z'.cells, fun h => absurd h h0, fun _ => ⟨z', h1, rfl⟩, ?_, by rw [repl_length, hul]⟩
    have := repl_LR hc n
    rw [hsz] at this
    rw [Array.toList_map, Array.toList_range]
    simp only [hsz]
    exact this

theorem vr_newslice (ι : IMap) (n g sz l c z : Nat) (hl : l ≤ c) (hc : c * z ≤ sz) : VR sn (upd ι n ⟨g, 0, sz⟩) (.slice n 0 l c z) (.slice (some ⟨g, 0, none⟩) l c) := by
  simp only [VR]; exact ⟨⟨g, 0, sz⟩, ⟨g, 0, none⟩, c, by simp [upd], rfl, hl, Nat.le_refl _, fun _ => ⟨rfl, by simpa using hc⟩⟩

theorem bsCore_sound {t : TypeId} {len : Nat} {ps : List (Nat × AV)} {cs : List AV} {e : TypeId} {z : Nat} (h : bsCore P t len ps = some (cs, e, z)) {ps' : Array (Nat × Value)} (hp : PR sn ι ps ps'.toList) :
    ∃ r' : Array Value, (∀ W, (Instr.buildSlice t len ps').run P W = .ok (.slice (some ⟨W.heap.size, 0, none⟩) len len) (W.alloc (.cells r' e))) ∧ LR sn ι cs r'.toList ∧ r'.size = len * z := by
  unfold bsCore at h
  split at h <;> try (simp at h; done)
  rename_i e' ht
  split at h <;> try (simp at h; done)
  rename_i z' hz
  split at h <;> try (simp at h; done)
  rename_i hlen
  split at h <;> try (simp at h; done)
  rename_i zs hzs
  split at h <;> simp at h
  rename_i cs' hcs
  obtain ⟨rfl, rfl, rfl⟩ := h
  obtain ⟨zr, hz0, hz1, h2, h3⟩ := zeros_sound (sn := sn) (ι := ι) hz hzs
  obtain ⟨r', h4, h5⟩ := aFill_sound (fun i p h => h) ps zs _ hcs ps'.toList _ hp h2
  have hcl : cs'.length = len * z' := by
    rw [← h3]; clear h3 h2 h4 h5 hzs
    have : ∀ (ps : List (Nat × AV)) (zs cs : List AV), aFill (fun i => some (i * z', z')) zs ps = some cs → cs.length = zs.length := by
      intro ps
      induction ps with
      | nil => intro zs cs h; simp [aFill] at h; simp [h]
      | cons x ps ih =>
        intro zs cs h
        obtain ⟨i, v⟩ := x
        simp only [aFill] at h
        split at h <;> try (simp at h; done)
        split at h <;> try (simp at h; done)
        rename_i hs
        obtain ⟨a1, rfl⟩ := spl_some hs
        rw [ih _ _ h]; simp; omega
    exact this ps zs _ hcs
  have hrs : r'.size = len * z' := by have := h5.length; simp at this; omega
  refine ⟨r', fun W => ?_, h5, hrs⟩
  have h24 : ¬ (len * z' > 2 ^ 24) := by omega
  by_cases h0 : len * z' = 0
  · obtain rfl := hz0 h0
    simp only [Instr.buildSlice, Sem.run_bind, run_underlying ht, Result.andThen_ok, tsz_run hz, h24, if_false, h0, if_true]
    rw [h0] at h4
    simp at h4
    simp [newRow, run_newObj_alloc, h4]
  · obtain ⟨zv, hzv, rfl⟩ := hz1 h0
    simp only [Instr.buildSlice, Sem.run_bind, run_underlying ht, Result.andThen_ok, tsz_run hz, h24, if_false, h0, hzv W, Sem.run_pure, h4]
    simp [newRow, run_newObj_alloc]

theorem aBuildSlice_sound (hR : R sn ι H W) {t : TypeId} {len : Nat} {ps : List (Nat × AV)} {r : AV} {H' : AHeap} (h : aBuildSlice P t len ps H = some (r, H')) {ps' : Array (Nat × Value)} (hp : PR sn ι ps ps'.toList) :
    ∃ v W' ι', (Instr.buildSlice t len ps').run P W = .ok v W' ∧ VR sn ι' r v ∧ Stp sn ι H W sn ι' H' W' := by
  unfold aBuildSlice at h
  split at h <;> simp at h
  rename_i cs e z hc
  obtain ⟨rfl, rfl⟩ := h
  obtain ⟨r', h1, h5, hrs⟩ := bsCore_sound hc hp
  exact ⟨_, _, _, h1 W, vr_newslice ι H.length W.heap.size r'.size len len z (Nat.le_refl _) (by omega), newBlk_stp hR h5 e⟩

theorem msCore_sound {t : TypeId} {l c : AV} {zs : List AV} {e : TypeId} {z ln cp : Nat} (h : msCore P t l c = some (zs, e, z, ln, cp)) {l' c' : Value} (hl : VR sn ι l l') (hc : VR sn ι c c') :
    ∃ r' : Array Value, (∀ W, (Instr.makeSlice t l' c').run P W = .ok (.slice (some ⟨W.heap.size, 0, none⟩) ln cp) (W.alloc (.cells r' e))) ∧ LR sn ι zs r'.toList ∧ r'.size = cp * z ∧ ln ≤ cp := by
  unfold msCore at h
  split at h <;> try (simp at h; done)
  rename_i kl l kc c
  cases hl.int; cases hc.int
  split at h <;> try (simp at h; done)
  rename_i e' ht
  split at h <;> try (simp at h; done)
  rename_i z' hz
  split at h <;> try (simp at h; done)
  rename_i i hi
  split at h <;> try (simp at h; done)
  rename_i hb
  obtain ⟨hb0, hb1, hb2, hb3⟩ := hb
  split at h <;> simp at h
  rename_i zs' hzs
  obtain ⟨rfl, rfl, rfl, rfl, rfl⟩ := h
  obtain ⟨zr, hz0, hz1, h2, h3⟩ := zeros_sound (sn := sn) (ι := ι) hz hzs
  have wl : IntKind.i64.wrap l = l := by rw [IntKind.wrap_i64]; omega
  have wc : IntKind.i64.wrap c = c := by rw [IntKind.wrap_i64]; omega
  have hc1 : ¬ (c < 0) := by omega
  have hc2 : ¬ ((i.bytes : Int) * c > 2 ^ 48) := by omega
  have hc3 : ¬ (l < 0) := by omega
  have hc4 : ¬ (l > c) := by omega
  refine ⟨_, fun W => ?_, h2, by simp, by omega⟩
  simp only [Instr.makeSlice, Sem.run_bind, run_underlying ht, Result.andThen_ok, asInt, asIntOf, Sem.run_pure, typeInfo, run_program, hi, wl, wc, hc1, hc2, hc3, hc4, decide_false, Bool.or_false, Bool.false_eq_true, if_false, tsz_run hz]
  have hroom : ∀ w : World, (askRoom (c.toNat * i.bytes)).run P w = .ok () w := by
    intro w; unfold askRoom; split <;> simp [mark, Sem.run]
  by_cases h0 : c.toNat * z' = 0
  · obtain rfl := hz0 h0
    simp only [hroom, Result.andThen_ok, h0, if_true, Sem.run_pure, Sem.run_bind]
    simp [newRow, run_newObj_alloc]
  · obtain ⟨zv, hzv, rfl⟩ := hz1 h0
    simp only [hroom, Result.andThen_ok, h0, if_false, Sem.run_pure, Sem.run_bind, hzv W]
    simp [newRow, run_newObj_alloc]

theorem aMakeSlice_sound (hR : R sn ι H W) {t : TypeId} {l c r : AV} {H' : AHeap} (h : aMakeSlice P t l c H = some (r, H')) {l' c' : Value} (hl : VR sn ι l l') (hc : VR sn ι c c') :
    ∃ v W' ι', (Instr.makeSlice t l' c').run P W = .ok v W' ∧ VR sn ι' r v ∧ Stp sn ι H W sn ι' H' W' := by
  unfold aMakeSlice at h
  split at h <;> simp at h
  rename_i zs e z ln cp hm
  obtain ⟨rfl, rfl⟩ := h
  obtain ⟨r', h1, h5, hrs, hlc⟩ := msCore_sound hm hl hc
  exact ⟨_, _, _, h1 W, vr_newslice ι H.length W.heap.size r'.size ln cp z hlc (by omega), newBlk_stp hR h5 e⟩

theorem wr_sound (hR : R sn ι H W) {a : AV} {vs : List AV} {H' : AHeap} (h : wr H a vs = some H') {a' : Value} (ha : VR sn ι a a') {vs' : List Value} (hv : LR sn ι vs vs') :
    ∃ ad W', a' = .pointer (some ad) ∧ (storeCells ad vs').run P W = .ok () W' ∧ Stp sn ι H W sn ι H' W' := by
  unfold wr at h
  split at h <;> try (simp at h; done)
  rename_i b off
  split at h <;> try (simp at h; done)
  rename_i o ho
  split at h <;> try (simp at h; done)
  rename_i cs ty hal hbd
  split at h <;> try (simp at h; done)
  rename_i hone
  split at h <;> simp at h
  rename_i cs' hspl
  subst h
  obtain ⟨h1, rfl⟩ := spl_some hspl
  obtain ⟨p, hp, rfl⟩ := ha.ptr
  have hob := hR.obj b o p ho hal hp
  rw [hbd] at hob; simp only [OR] at hob
  obtain ⟨arr, g1, g2, g3, g4⟩ := hob
  have hvl := hv.length
  have h1' : ∀ v ∈ vs', v.oneCell' = true := by
    intro v hvm
    obtain ⟨i, hi⟩ := List.getElem?_of_mem hvm
    have hil : i < vs.length := by have := (List.getElem?_eq_some_iff.1 hi).1; omega
    obtain ⟨x, e1, e2⟩ := hv.get (List.getElem?_eq_getElem hil)
    rw [hi] at e1; simp at e1; subst e1
    exact e2.one (List.all_eq_true.1 hone _ (List.getElem_mem hil))
  have hst := run_storeCells_at P p.blk (p.sh + off) ty vs' 0 arr W g1 (by omega) h1'
  simp only [Nat.add_zero] at hst
  refine ⟨_, _, rfl, hst, ?_⟩
  have hrow := setRow_heap W p.blk arr (arr.toList.take (p.sh + off) ++ vs' ++ arr.toList.drop (p.sh + off + vs'.length)).toArray ty (0, 0) g1
  refine Stp.write hR ho hal hp ⟨fun c hc => setRow_other W p.blk c _ hc, by simp [World.setRow], rfl, rfl, rfl⟩ _ ?_
  refine ⟨_, hrow, by simp; omega, by simp; omega, fun i c hc => ?_⟩
  simp only [List.getElem?_toArray]
  rw [List.append_assoc] at hc
  rw [List.append_assoc]
  rcases Nat.lt_or_ge i off with hi | hi
  · rw [List.getElem?_append_left (by simp; omega), List.getElem?_take, if_pos hi] at hc
    obtain ⟨v, k1, k2⟩ := g4 i c hc
    refine ⟨v, ?_, k2⟩
    rw [List.getElem?_append_left (by simp; omega), List.getElem?_take, if_pos (by omega), Array.getElem?_toList]; exact k1
  · rw [List.getElem?_append_right (by simp; omega)] at hc
    rw [List.getElem?_append_right (by simp; omega)]
    have e1 : (cs.take off).length = off := by simp; omega
    have e2 : (arr.toList.take (p.sh + off)).length = p.sh + off := by simp; omega
    rw [e1] at hc; rw [e2, show p.sh + i - (p.sh + off) = i - off from by omega]
    rcases Nat.lt_or_ge (i - off) vs.length with hj | hj
    · rw [List.getElem?_append_left hj] at hc
      rw [List.getElem?_append_left (by omega)]
      exact hv.get hc
    · rw [List.getElem?_append_right hj, List.getElem?_drop] at hc
      rw [List.getElem?_append_right (by omega), List.getElem?_drop, hvl]
      obtain ⟨v, k1, k2⟩ := g4 _ c hc
      refine ⟨v, ?_, k2⟩
      rw [Array.getElem?_toList, ← k1]; congr 1; omega

theorem aStore_sound (hR : R sn ι H W) {t : TypeId} {a x : AV} {H' : AHeap} (h : aStore P t a x H = some H') {a' x' : Value} (ha : VR sn ι a a') (hx : VR sn ι x x') :
    ∃ W', (Instr.storeAt t a' x').run P W = .ok () W' ∧ Stp sn ι H W sn ι H' W' := by
  unfold aStore at h
  split at h <;> try (simp at h; done)
  rename_i n hn
  split at h <;> try (simp at h; done)
  rename_i hl
  have hc := hx.cells
  have hs : x'.cells.size = n := by have := hc.length; simp at this; omega
  obtain ⟨ad, W', rfl, h1, h2⟩ := wr_sound (P := P) hR h ha hc
  refine ⟨W', ?_, h2⟩
  simp only [Instr.storeAt, Instr.sureAddr, Sem.run_bind, Sem.run_pure, Result.andThen_ok, storeVar, tsz_run hn, hs, ne_eq, not_true_eq_false, if_false, h1]

end eff
end Go.Abs

/-
  A verified abstract interpreter, part 9: copy and maps; all operations but calls of functions.
-/
import Derived.Test.YtajhailaofchlaaDoorAbs8
set_option linter.unusedSimpArgs false
set_option linter.unusedVariables false
namespace Go.Abs
open Go.RowKit

def aSame (d : TypeDesc) (x y : AV) : Option Bool :=
  match d with
  | .int _ => match x, y with | .int k a, .int k' b => if k = k' then some (a == b) else none | _, _ => none
  | .string => match x, y with | .str a, .str b => some (a == b) | _, _ => none
  | _ => none

def aFind (d : TypeDesc) (k : AV) : List (AV × AV × Nat) → Nat → Option (Option (Nat × AV))
  | [], _ => some none
  | (k', v, _) :: es, i =>
    match aSame d k k' with
    | some true => some (some (i, v))
    | some false => aFind d k es (i + 1)
    | none => none

def mset (k v : AV) : Nat → List (AV × AV × Nat) → List (AV × AV × Nat)
  | _, [] => []
  | 0, (_, _, n) :: es => (k, v, n) :: es
  | i + 1, e :: es => e :: mset k v i es

/-- What stands in a map. -/
def mapEs (H : AHeap) (m : AV) : Option (List (AV × AV × Nat)) :=
  match m with
  | .nmap => some []
  | .map b => match mapObj H b with | some (es, _) => some es | none => none
  | _ => none

def keyDesc (P : Program) (t : TypeId) : Option (TypeDesc × TypeId) :=
  match P.underlying t with
  | some (.map kt e) => match P.underlying kt with
    | some (.int k) => some (.int k, e)
    | some .string => some (.string, e)
    | _ => none
  | _ => none

def aLookup (P : Program) (t : TypeId) (m k : AV) (ok : Bool) (H : AHeap) : Option AV :=
  match keyDesc P t with
  | some (d, e) => match mapEs H m with
    | some es => match aFind d k es 0 with
      | some (some (_, v)) => some (if ok then .tuple [v, .bool true] else v)
      | some none => match tzero P e with
        | some z => some (if ok then .tuple [z, .bool false] else z)
        | none => none
      | none => none
    | none => none
  | none => none

def aMapSet (P : Program) (t : TypeId) (m k v : AV) (H : AHeap) : Option AHeap :=
  match keyDesc P t with
  | some (d, _) => match m with
    | .map b => match H[b]? with
      | some o => match o.alive, o.body with
        | true, .map es clock => match aFind d k es 0 with
          | some (some (i, _)) => some ((wkil b o.fam H).set b { o with body := .map (mset k v i es) clock })
          | some none => some ((wkil b o.fam H).set b { o with body := .map (es ++ [(k, v, clock)]) (clock + 1) })
          | none => none
        | _, _ => none
      | none => none
    | _ => none
  | none => none

def aCopy (P : Program) (t : TypeId) (dst src : AV) (H : AHeap) : Option (AV × AHeap) :=
  match P.underlying t with
  | some (.slice e) => match tsz P e with
    | some z => match xcells H z src with
      | some (n, xs) => match dst with
        | .nslice => some (.int .i64 0, H)
        | .slice b off len _ z' =>
          if z' = z then
            if Nat.min n len = 0 then some (.int .i64 0, H) else
            match tk (Nat.min n len * z) xs with
            | some cs => match wr H (.ptr b off) cs with
              | some H' => some (.int .i64 (Nat.min n len), H')
              | none => none
            | none => none
          else none
        | _ => none
      | none => none
    | none => none
  | _ => none

section eff
variable {P : Program} {sn : Snap} {ι : IMap} {H : AHeap} {W : World}

theorem bytes_eq {a b : ByteArray} (h : a.data.toList = b.data.toList) : a = b := by
  apply ByteArray.ext; apply Array.ext'; exact h

theorem aSame_sound {d : TypeDesc} {x y : AV} {r : Bool} (h : aSame d x y = some r) {x' y' : Value} (hx : VR sn ι x x') (hy : VR sn ι y y') :
    Instr.sameNow d x' y' = some r ∧ (r = true → Instr.sameBits 10000 y' x' = true) := by
  unfold aSame at h
  split at h
  · split at h <;> try (simp at h; done)
    split at h <;> simp at h
    subst h; rename_i hk; subst hk
    cases hx.int; cases hy.int
    refine ⟨by simp [Instr.sameNow], fun hr => ?_⟩
    simp at hr; subst hr; simp [Instr.sameBits]
  · split at h <;> simp at h
    subst h
    obtain ⟨a, rfl, rfl⟩ := hx.str; obtain ⟨b, rfl, rfl⟩ := hy.str
    have e : (a == b) = (a.data.toList == b.data.toList) := by rw [beq_toListBytes, ByteArray.toList_eq, ByteArray.toList_eq]
    refine ⟨by simp only [Instr.sameNow, e], fun hr => ?_⟩
    have := bytes_eq (by simpa using hr); subst this
    simp only [Instr.sameBits]; rw [e]; exact hr
  · simp at h

theorem ER_get {sn : Snap} {ι : IMap} : ∀ {es : List (AV × AV × Nat)} {l : List MapEntry}, ER sn ι es l → ∀ {i : Nat} {e : AV × AV × Nat}, es[i]? = some e → ∃ x, l[i]? = some x ∧ VR sn ι e.1 x.key ∧ VR sn ι e.2.1 x.val ∧ x.born = e.2.2
  | [], l, h, i, e, he => by simp at he
  | (k, v, n) :: es, l, h, i, e, he => by
    simp only [ER] at h; obtain ⟨x, l', rfl, h1, h2, h3, h4⟩ := h
    cases i with
    | zero => simp at he; subst he; exact ⟨x, rfl, h1, h2, h3⟩
    | succ i => simp at he; simpa using ER_get h4 he

theorem aFind_sound {d : TypeDesc} {k : AV} {k' : Value} (hk : VR sn ι k k') : ∀ (es : List (AV × AV × Nat)) (i : Nat) (r : Option (Nat × AV)), aFind d k es i = some r → ∀ (l : List MapEntry), ER sn ι es l →
    match r with
    | none => Instr.findNow d k' l i = some none
    | some (j, v) => ∃ v' x, Instr.findNow d k' l i = some (some (j, v')) ∧ VR sn ι v v' ∧ i ≤ j ∧ l[j - i]? = some x ∧ Instr.sameBits 10000 x.key k' = true
  | [], i, r, h, l, hl => by simp [aFind] at h; subst h; simp [ER] at hl; subst hl; simp [Instr.findNow]
  | (k2, v, n) :: es, i, r, h, l, hl => by
    simp only [ER] at hl; obtain ⟨x, l', rfl, h1, h2, h3, h4⟩ := hl
    simp only [aFind] at h
    split at h
    · rename_i hs
      obtain ⟨e1, e2⟩ := aSame_sound hs hk h1
      simp at h; subst h
      exact ⟨x.val, x, by simp [Instr.findNow, e1], h2, Nat.le_refl _, by simp, e2 rfl⟩
    · rename_i hs
      obtain ⟨e1, _⟩ := aSame_sound hs hk h1
      have ih := aFind_sound hk es (i + 1) r h l' h4
      cases r with
      | none => simpa [Instr.findNow, e1] using ih
      | some jv =>
        obtain ⟨j, v⟩ := jv
        obtain ⟨v', x', i1, i2, i3, i4, i5⟩ := ih
        refine ⟨v', x', by simpa [Instr.findNow, e1] using i1, i2, by omega, ?_, i5⟩
        rw [show j - i = (j - (i + 1)) + 1 from by omega]; simpa using i4
    · simp at h

theorem keyDesc_some {t : TypeId} {d : TypeDesc} {e : TypeId} (h : keyDesc P t = some (d, e)) : ∃ kt, P.underlying t = some (.map kt e) ∧ P.underlying kt = some d ∧ ((∃ k, d = .int k) ∨ d = .string) := by
  unfold keyDesc at h
  split at h <;> try (simp at h; done)
  rename_i kt e' ht
  split at h <;> simp at h
  · obtain ⟨rfl, rfl⟩ := h; exact ⟨kt, ht, by assumption, .inl ⟨_, rfl⟩⟩
  · obtain ⟨rfl, rfl⟩ := h; exact ⟨kt, ht, by assumption, .inr rfl⟩

theorem run_checkKey {kt : TypeId} {d : TypeDesc} (hd : P.underlying kt = some d) (h : (∃ k, d = .int k) ∨ d = .string) (b : Bool) (n : Nat) (v : Value) (w : World) : (Instr.checkKey b (n + 1) kt v).run P w = .ok () w := by
  rcases h with ⟨k, rfl⟩ | rfl <;> simp [Instr.checkKey, run_underlying hd]

theorem run_findKey {kt : TypeId} {d : TypeDesc} (hd : P.underlying kt = some d) {k : Value} {es : List MapEntry} {r : Option (Nat × Value)} (h : Instr.findNow d k es 0 = some r) (w : World) : (Instr.findKey kt k es).run P w = .ok r w := by
  simp [Instr.findKey, run_underlying hd, h]

theorem aLookup_sound (hR : RO sn ι H W) {t : TypeId} {m k u : AV} {ok : Bool} (h : aLookup P t m k ok H = some u) {m' k' : Value} (hm : VR sn ι m m') (hk : VR sn ι k k') :
    ∃ z, (Instr.lookup t m' k' ok).run P W = .ok z W ∧ VR sn ι u z := by
  unfold aLookup at h
  split at h <;> try (simp at h; done)
  rename_i d e hd
  obtain ⟨kt, ht, hkt, hdd⟩ := keyDesc_some hd
  split at h <;> try (simp at h; done)
  rename_i es hes
  -- the entries
  have hent : ∃ mes : Array MapEntry, ER sn ι es mes.toList ∧ ((m' = .map none ∧ mes = #[]) ∨ ∃ r clock, m' = .map (some r) ∧ W.heap[r]? = some (.map mes clock)) := by
    unfold mapEs at hes
    split at hes
    · simp at hes; subst hes; exact ⟨#[], by simp [ER], .inl ⟨hm.nmap, rfl⟩⟩
    · split at hes <;> simp at hes
      subst hes; rename_i clock hmo
      obtain ⟨o, p, mes, _, _, _, hp, hw, he⟩ := mapObj_sound hR hmo
      obtain ⟨q, hq, rfl⟩ := hm.map
      rw [hp] at hq; simp at hq; subst hq
      exact ⟨mes, he, .inr ⟨_, _, rfl, hw⟩⟩
    · simp at hes
  obtain ⟨mes, he, hcase⟩ := hent
  have fin : ∀ (v : AV) (v' : Value) (b : Bool), VR sn ι v v' → VR sn ι (if ok then .tuple [v, .bool b] else v) (if ok then .tuple #[v', .bool b] else v') := by
    intro v v' b hv
    split
    · exact vr_tuple (by simp only [LR]; exact ⟨_, _, rfl, hv, _, _, rfl, vr_bool b, rfl⟩)
    · exact hv
  split at h
  · rename_i i v hf
    simp at h; subst h
    obtain ⟨v', x, f1, f2, _⟩ := aFind_sound hk es 0 _ hf _ he
    refine ⟨_, ?_, fin v v' true f2⟩
    rcases hcase with ⟨rfl, rfl⟩ | ⟨r, clock, rfl, hw⟩
    · simp [ER_length he] at f1; simp [Instr.findNow] at f1
    · simp only [Instr.lookup, Sem.run_bind, run_underlying ht, Result.andThen_ok, run_checkKey hkt hdd, run_findKey hkt f1, Sem.run_pure, getObj, Sem.run, hw]
  · rename_i hf
    split at h <;> simp at h
    subst h; rename_i z hz
    obtain ⟨z', h1, h2⟩ := tzero_run hz
    have f1 := aFind_sound hk es 0 _ hf _ he
    simp only at f1
    refine ⟨_, ?_, fin z z' false (h2 sn ι)⟩
    rcases hcase with ⟨rfl, rfl⟩ | ⟨r, clock, rfl, hw⟩
    · simp only [Instr.lookup, Sem.run_bind, run_underlying ht, Result.andThen_ok, run_checkKey hkt hdd, run_findKey hkt f1, Sem.run_pure, h1]
    · simp only [Instr.lookup, Sem.run_bind, run_underlying ht, Result.andThen_ok, run_checkKey hkt hdd, run_findKey hkt f1, Sem.run_pure, h1, getObj, Sem.run, hw]
  · simp at h

theorem ER_mset {k v : AV} {k' v' : Value} (hk : VR sn ι k k') (hv : VR sn ι v v') : ∀ (es : List (AV × AV × Nat)) (l : List MapEntry) (i : Nat), ER sn ι es l →
    ER sn ι (mset k v i es) (l.modify i fun e => { e with key := k', val := v' })
  | [], l, i, h => by simp [ER] at h; subst h; cases i <;> simp [mset, ER]
  | (a, b, n) :: es, l, i, h => by
    simp only [ER] at h; obtain ⟨x, l', rfl, h1, h2, h3, h4⟩ := h
    cases i with
    | zero => simp only [mset, ER, List.modify_zero_cons]; exact ⟨_, _, rfl, hk, hv, h3, h4⟩
    | succ i => simp only [mset, ER, List.modify_succ_cons]; exact ⟨_, _, rfl, h1, h2, h3, ER_mset hk hv es l' i h4⟩

theorem ER_append {es : List (AV × AV × Nat)} {l : List MapEntry} (h : ER sn ι es l) {k v : AV} {x : MapEntry} (hk : VR sn ι k x.key) (hv : VR sn ι v x.val) : ER sn ι (es ++ [(k, v, x.born)]) (l ++ [x]) := by
  induction es generalizing l with
  | nil => simp [ER] at h; subst h; simp only [List.nil_append, ER]; exact ⟨x, [], rfl, hk, hv, rfl, rfl⟩
  | cons e es ih =>
    obtain ⟨a, b, n⟩ := e
    simp only [ER] at h; obtain ⟨y, l', rfl, h1, h2, h3, h4⟩ := h
    simp only [List.cons_append, ER]; exact ⟨y, _, rfl, h1, h2, h3, ih h4⟩

theorem turn_setObj {r : Nat} {ob : Obj} : Turn W { W with heap := W.heap.setIfInBounds r ob } r :=
  ⟨fun c hc => by simp [Array.getElem?_setIfInBounds, Ne.symm hc], by simp, rfl, rfl, rfl⟩

theorem aMapSet_sound (hR : R sn ι H W) {t : TypeId} {m k x : AV} {H' : AHeap} (h : aMapSet P t m k x H = some H') {m' k' x' : Value} (hm : VR sn ι m m') (hk : VR sn ι k k') (hx : VR sn ι x x') :
    ∃ W', (Instr.mapUpdate t m' k' x').run P W = .ok () W' ∧ Stp sn ι H W sn ι H' W' := by
  unfold aMapSet at h
  split at h <;> try (simp at h; done)
  rename_i d e hd
  obtain ⟨kt, ht, hkt, hdd⟩ := keyDesc_some hd
  split at h <;> try (simp at h; done)
  rename_i b
  split at h <;> try (simp at h; done)
  rename_i o ho
  split at h <;> try (simp at h; done)
  rename_i es clock hal hbd
  obtain ⟨p, hp, rfl⟩ := hm.map
  have hob := hR.obj b o p ho hal hp
  rw [hbd] at hob; simp only [OR] at hob
  obtain ⟨mes, hw, he⟩ := hob
  have hlt : p.blk < W.heap.size := hR.blk b p hp
  split at h
  · rename_i i v hf
    simp at h; subst h
    obtain ⟨v', y, f1, f2, _, f4, f5⟩ := aFind_sound hk es 0 _ hf _ he
    simp only [Nat.sub_zero] at f4
    have hy : mes[i]? = some y := by rw [← Array.getElem?_toList]; exact f4
    refine ⟨{ W with heap := W.heap.setIfInBounds p.blk (.map (mes.modify i fun e => { e with key := k', val := x' }) clock) }, ?_, ?_⟩
    · simp only [Instr.mapUpdate, Sem.run_bind, run_underlying ht, Result.andThen_ok, getObj, Sem.run, hw, run_checkKey hkt hdd, run_findKey hkt f1, hy, Option.map_some, Option.getD_some, Instr.keyThatStays, f5, if_true, setObj]
      simp [hw]
    · refine Stp.write hR ho hal hp turn_setObj _ ?_
      refine ⟨_, by simp [Array.getElem?_setIfInBounds, hlt]; rfl, ?_⟩
      rw [Array.toList_modify]
      exact ER_mset hk hx es _ i he
  · rename_i hf
    simp at h; subst h
    have f1 := aFind_sound hk es 0 _ hf _ he
    simp only at f1
    refine ⟨{ W with heap := W.heap.setIfInBounds p.blk (.map (mes.push { key := k', val := x', born := clock }) (clock + 1)) }, ?_, ?_⟩
    · simp only [Instr.mapUpdate, Sem.run_bind, run_underlying ht, Result.andThen_ok, getObj, Sem.run, hw, run_checkKey hkt hdd, run_findKey hkt f1, setObj]
    · refine Stp.write hR ho hal hp turn_setObj _ ?_
      refine ⟨_, by simp [Array.getElem?_setIfInBounds, hlt]; rfl, ?_⟩
      rw [Array.toList_push]
      exact ER_append (x := { key := k', val := x', born := clock }) he hk hx
  · simp at h

theorem take_firstCells (hR : R sn ι H W) {z n m : Nat} {x : AV} {xs cs : List AV} (h : xcells H z x = some (n, xs)) (hm : m ≤ n) (hc : tk (m * z) xs = some cs) {x' : Value} (hx : VR sn ι x x') :
    ∃ news : List Value, LR sn ι cs news ∧ (Builtin.lenOf x').run P W = .ok n W ∧ (Builtin.firstCells z m x').run P W = .ok news.toArray W := by
  obtain ⟨htl, rfl⟩ := tk_some hc
  obtain ⟨news, k1, k2, k3, k4⟩ := xcells_sound (P := P) hR h hx
  refine ⟨news.take (m * z), k1.take _, k3 W, ?_⟩
  unfold xcells at h
  split at h
  · simp at h; obtain ⟨rfl, rfl⟩ := h; cases hx.nslice
    simp [LR] at k1; subst k1; simp [Builtin.firstCells]
  · split at h <;> try (simp at h; done)
    rename_i b off len cap z' hz; subst hz
    split at h <;> simp at h
    obtain ⟨rfl, rfl⟩ := h; rename_i cs hcs
    obtain ⟨p, a, cap', hp, rfl, hlc, hcc, hne⟩ := hx.slice
    obtain ⟨g, o, vs, e, h1, h2, h3⟩ := rd_sound hR.ro hcs (v := .pointer (some ⟨p.blk, p.sh + off, none⟩)) (by simp only [VR]; exact ⟨p, hp, rfl⟩)
    simp at e; obtain ⟨rfl, rfl⟩ := e
    have hfull := k4 W fun _ => rfl
    by_cases hc0 : cap' = 0
    · have h0 : len = 0 := by omega
      have hm0 : m = 0 := by omega
      subst hm0; simp [Builtin.firstCells, loadCells, loadCellsFrom]
    · obtain ⟨rfl, _⟩ := hne hc0
      rw [run_firstCells_some W z' len _ len cap' vs h2 fun j v hj => h3 j v hj] at hfull
      simp at hfull; subst hfull
      exact run_firstCells_some W z' m _ len cap' (vs.take (m * z')) (by rw [List.length_take, h2]; exact Nat.min_eq_left (Nat.mul_le_mul_right _ hm)) fun j v hj => by
        rw [List.getElem?_take] at hj; split at hj
        · exact h3 j v hj
        · simp at hj
  · split at h <;> simp at h
    obtain ⟨rfl, rfl⟩ := h
    rename_i n z' cs hz; subst hz
    obtain ⟨⟨b, o, sp⟩, cap, rfl, hc', hcs, hmr, hsp⟩ := hx.rs
    obtain ⟨vs, h1, h2⟩ := hmr.cells hR
    have hsp' : ∀ (j : Nat) (v : Value), vs[j]? = some v → sp = none := fun j v hj => hsp fun h0 => by
      have := (List.getElem?_eq_some_iff.1 hj).1
      rw [h1.length, hcs, h0, Nat.zero_mul] at this; omega
    have hfull := k4 W fun _ => rfl
    rw [run_firstCells_some W z' n _ n cap vs (by rw [h1.length, hcs]) fun j v hj => by cases hsp' j v hj; rw [addr_add]; exact h2 j v hj] at hfull
    simp at hfull; subst hfull
    exact run_firstCells_some W z' m _ n cap (vs.take (m * z')) (by rw [List.length_take, h1.length, hcs]; exact Nat.min_eq_left (Nat.mul_le_mul_right _ hm)) fun j v hj => by
      rw [List.getElem?_take] at hj; split at hj
      · cases hsp' j v hj; rw [addr_add]; exact h2 j v hj
      · simp at hj
  · split at h <;> simp at h
    obtain ⟨rfl, rfl⟩ := h
    rename_i s hz; subst hz
    obtain ⟨ba, rfl, rfl⟩ := hx.str
    have hfull := k4 W fun _ => rfl
    have hsz : ba.data.toList.length = ba.size := by cases ba; rfl
    simp only [Builtin.firstCells, Sem.run_pure] at hfull ⊢
    congr 1
    injection hfull with hfull _
    apply Array.ext'
    rw [Array.toList_map, Lib.extract_data, List.drop_zero, Nat.sub_zero, Nat.mul_one]
    have := congrArg Array.toList hfull
    rw [Array.toList_map, Lib.extract_data, List.drop_zero, Nat.sub_zero] at this
    simp only [List.toList_toArray] at this ⊢
    rw [← this, List.take_length, List.map_take]
  · simp at h

theorem aCopy_sound (hR : R sn ι H W) {t t2 ty : TypeId} {dst src r : AV} {H' : AHeap} (h : aCopy P t dst src H = some (r, H')) {d' s' : Value} (hd : VR sn ι dst d') (hs : VR sn ι src s') :
    ∃ v W', (Builtin.copy_ #[t, t2] ty #[d', s']).run P W = .ok v W' ∧ VR sn ι r v ∧ Stp sn ι H W sn ι H' W' := by
  unfold aCopy at h
  split at h <;> try (simp at h; done)
  rename_i e ht
  split at h <;> try (simp at h; done)
  rename_i z hz
  split at h <;> try (simp at h; done)
  rename_i n xs hxs
  have hzero : ∃ news : List Value, LR sn ι [] news ∧ (Builtin.lenOf s').run P W = .ok n W ∧ (Builtin.firstCells z 0 s').run P W = .ok news.toArray W :=
    take_firstCells hR hxs (Nat.zero_le _) (by simp [tk]) hs
  obtain ⟨nz, z1, z2, z3⟩ := hzero
  simp [LR] at z1; subst z1
  split at h
  · simp at h; obtain ⟨rfl, rfl⟩ := h
    cases hd.nslice
    refine ⟨goInt 0, W, ?_, vr_int _ _, Stp.refl hR⟩
    have : Nat.min n 0 = 0 := Nat.min_zero n
    simp [Builtin.copy_, run_underlying ht, z2, tsz_run hz, this, z3]
  · rename_i b off len cap z'
    split at h <;> try (simp at h; done)
    rename_i hzz; subst hzz
    obtain ⟨p, a, cap', hp, rfl, hlc, hcc, hne⟩ := hd.slice
    split at h
    · rename_i h0
      simp at h; obtain ⟨rfl, rfl⟩ := h
      refine ⟨goInt 0, W, ?_, vr_int _ _, Stp.refl hR⟩
      have h0' : Nat.min n len = 0 := h0
      simp [Builtin.copy_, run_underlying ht, z2, h0', tsz_run hz, z3, storeCells]
    · rename_i h0
      split at h <;> try (simp at h; done)
      rename_i cs hcs
      split at h <;> simp at h
      rename_i H1 hw
      obtain ⟨rfl, rfl⟩ := h
      have hlen0 : cap' ≠ 0 := by
        intro hc
        have : len = 0 := by omega
        subst this; exact h0 (Nat.min_zero n)
      obtain ⟨rfl, hbb⟩ := hne hlen0
      obtain ⟨news, k1, k2, k3⟩ := take_firstCells (P := P) hR hxs (Nat.min_le_left _ _) hcs hs
      obtain ⟨ad, W', e1, hst, hstp⟩ := wr_sound (P := P) hR hw (a' := .pointer (some ⟨p.blk, p.sh + off, none⟩)) (by simp only [VR]; exact ⟨p, hp, rfl⟩) k1
      simp at e1; subst e1
      refine ⟨goInt (Nat.min n len), W', ?_, vr_int _ _, hstp⟩
      simp [Builtin.copy_, run_underlying ht, k2, tsz_run hz, k3, hst]
  · simp at h

end eff
end Go.Abs

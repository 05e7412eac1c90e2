/-
  A verified abstract interpreter, part 8: append, copy, maps.
-/
import Derived.Test.YtgbimoeclgfkfabGreatDoorAbs7
set_option linter.unusedSimpArgs false
set_option linter.unusedVariables false
namespace Go.Abs
open Go.RowKit

/-- What is appended or copied: how many, and the cells. -/
def xcells (H : AHeap) (z : Nat) (x : AV) : Option (Nat × List AV) :=
  match x with
  | .nslice => some (0, [])
  | .slice b off len _ z' => if z' = z then (match rd H (.ptr b off) (len * z) with | some cs => some (len, cs) | none => none) else none
  | .rs n z' cs => if z' = z then some (n, cs) else none
  | .str s => if z = 1 then some (s.length, s.map fun b => .int .u8 b.toNat) else none
  | _ => none

/-- How many of a block's cells are known. -/
def clen (H : AHeap) (b : Nat) : Nat := match H[b]? with | some o => (match o.body with | .cells cs _ => cs.length | _ => 0) | none => 0

/-- What may be appended. -/
def apx (P : Program) (t2 : TypeId) : Bool := match P.underlying t2 with | some (.slice _) => true | some .string => true | _ => false

def aAppend (P : Program) (t t2 : TypeId) (s x : AV) (H : AHeap) : Option (AV × AHeap) :=
  match P.underlying t with
  | some (.slice e) =>
    match P.info? e, tzero P e with
    | some i, some u =>
      if apx P t2 && u.cells.length == i.size then
        match xcells H i.size x with
        | some (n, xs) =>
          if n = 0 then (match s with | .nslice => some (s, H) | .slice .. => some (s, H) | .rs .. => some (s, H) | _ => none) else
          match s with
          | .nslice =>
            if n ≤ 1099511627776 ∧ n * i.bytes ≤ 70368744177664 then some (.slice H.length 0 n n i.size, newBlk H xs e) else none
          | .slice b off len cap z =>
            if z = i.size then
              if len + n ≤ cap ∧ off + len * z < clen H b then
                match wr H (.ptr b (off + len * z)) xs with
                | some H' => some (.slice b off (len + n) cap z, H')
                | none => none
              else if len + n ≤ 1099511627776 ∧ (len + n) * i.bytes ≤ 70368744177664 then
                match H[b]? with
                | some o => match o.alive, o.body with
                  | true, .cells cs ty =>
                    if off + len * z = cs.length ∧ ty = e ∧ xs.all one = true then
                      some (.slice H.length 0 (len + n) (len + n) z, ekil o.fam (o.sh + cs.length) H ++ [⟨true, o.fam, o.sh + off, .cells (cs.drop off ++ xs) ty⟩])
                    else none
                  | _, _ => none
                | none => none
              else none
            else none
          | _ => none
        | none => none
      else none
    | _, _ => none
  | _ => none

def aClear (P : Program) (t : TypeId) (x : AV) (H : AHeap) : Option AHeap :=
  match P.underlying t with
  | some (.slice e) => match tzero P e with
    | some u => match x with
      | .nslice => some H
      | .slice b off len cap z => if len = 0 then some H else if u.cells.length = z then wr H (.ptr b off) (repl len u.cells) else none
      | _ => none
    | none => none
  | _ => none

theorem upd_self (ι : IMap) (n : Nat) (p : Place) : upd ι n p n = some p := by simp [upd]

section eff
variable {P : Program} {sn : Snap} {ι : IMap} {H : AHeap} {W : World}

theorem MR.cells (hR : R sn ι H W) : ∀ {cs : List AV} {b o : Nat}, MR sn cs b o → ∃ vs : List Value, LR sn ι cs vs ∧ ∀ (j : Nat) (x : Value), vs[j]? = some x → W.cell? ⟨b, o + j, none⟩ = some x
  | [], b, o, _ => ⟨[], by simp [LR], by simp⟩
  | c :: cs, b, o, h => by
    simp only [MR] at h
    obtain ⟨⟨v, h1, h2⟩, h3⟩ := h
    obtain ⟨vs, h4, h5⟩ := MR.cells hR h3
    refine ⟨v :: vs, by simp only [LR]; exact ⟨v, vs, rfl, VR_noI h2, h4⟩, fun j x hx => ?_⟩
    cases j with
    | zero => simp at hx; subst hx; exact (hR.snap _ _ h1).2.1
    | succ j => simp at hx; have := h5 j x hx; rwa [show o + (j + 1) = o + 1 + j from by omega]

theorem xcells_sound (hR : R sn ι H W) {z n : Nat} {x : AV} {xs : List AV} (h : xcells H z x = some (n, xs)) {x' : Value} (hx : VR sn ι x x') :
    ∃ news : List Value, LR sn ι xs news ∧ news.length = n * z ∧ (∀ w, (Builtin.lenOf x').run P w = .ok n w) ∧
      ∀ w, (∀ a, w.cell? a = W.cell? a) → (Builtin.firstCells z n x').run P w = .ok news.toArray w := by
  unfold xcells at h
  split at h
  · simp at h; obtain ⟨rfl, rfl⟩ := h; cases hx.nslice
    exact ⟨[], by simp [LR], by simp, fun w => by simp [Builtin.lenOf], fun w _ => by simp [Builtin.firstCells]⟩
  · split at h <;> try (simp at h; done)
    rename_i b off len cap z' hz; subst hz
    split at h <;> simp at h
    obtain ⟨rfl, rfl⟩ := h; rename_i cs hcs
    obtain ⟨p, a, cap', hp, rfl, hlc, hcc, hne⟩ := hx.slice
    obtain ⟨g, o, vs, e, h1, h2, h3⟩ := rd_sound hR.ro hcs (v := .pointer (some ⟨p.blk, p.sh + off, none⟩)) (by simp only [VR]; exact ⟨p, hp, rfl⟩)
    simp at e; obtain ⟨rfl, rfl⟩ := e
    refine ⟨vs, h1, h2, fun w => by simp [Builtin.lenOf], fun w hw => ?_⟩
    by_cases hc0 : cap' = 0
    · have : len = 0 := by omega
      subst this
      have : vs = [] := List.eq_nil_of_length_eq_zero (by simpa using h2)
      subst this
      simp [Builtin.firstCells, loadCells, loadCellsFrom]
    · obtain ⟨rfl, _⟩ := hne hc0
      exact run_firstCells_some w z' len _ len cap' vs h2 fun j v hj => by rw [hw]; exact h3 j v hj
  · split at h <;> simp at h
    obtain ⟨rfl, rfl⟩ := h
    rename_i n z' cs hz; subst hz
    rcases hx.rs with ⟨rfl, rfl, rfl⟩ | ⟨⟨b, o, sp⟩, cap, rfl, hc, hcs, hm, hsp⟩
    · exact ⟨[], by simp [LR], by simp, fun w => by simp [Builtin.lenOf], fun w _ => by simp [Builtin.firstCells]⟩
    obtain ⟨vs, h1, h2⟩ := hm.cells hR
    have hsp' : ∀ (j : Nat) (v : Value), vs[j]? = some v → sp = none := fun j v hj => hsp fun h0 => by
      have := (List.getElem?_eq_some_iff.1 hj).1
      rw [h1.length, hcs, h0, Nat.zero_mul] at this; omega
    refine ⟨vs, h1, by rw [h1.length, hcs], fun w => by simp [Builtin.lenOf], fun w hw => ?_⟩
    exact run_firstCells_some w z' n _ n cap vs (by rw [h1.length, hcs]) fun j v hj => by cases hsp' j v hj; rw [hw, addr_add]; exact h2 j v hj
  · split at h <;> simp at h
    obtain ⟨rfl, rfl⟩ := h
    rename_i s hz; subst hz
    obtain ⟨ba, rfl, rfl⟩ := hx.str
    have hsz : ba.data.toList.length = ba.size := by cases ba; rfl
    refine ⟨ba.data.toList.map fun b => .int .u8 b.toNat, ?_, by simp, fun w => by rw [hsz]; simp [Builtin.lenOf], fun w _ => ?_⟩
    · generalize ba.data.toList = l
      induction l with
      | nil => simp [LR]
      | cons b l ih => simp only [List.map_cons, LR]; exact ⟨_, _, rfl, vr_int _ _, ih⟩
    · have e : (ba.extract 0 ba.size) = ba := by
        apply ByteArray.ext; apply Array.ext'; rw [Lib.extract_data, List.drop_zero, Nat.sub_zero, ← hsz, List.take_length]
      rw [hsz]
      simp only [Builtin.firstCells, e, Sem.run_pure]
      congr 1; apply Array.ext'; simp
  · simp at h

theorem apx_cases {t2 : TypeId} (h : apx P t2 = true) : (∃ e2, P.underlying t2 = some (.slice e2)) ∨ P.underlying t2 = some .string := by
  unfold apx at h
  split at h
  · exact .inl ⟨_, by assumption⟩
  · exact .inr (by assumption)
  · simp at h

theorem run_append_room' {t t2 ty e : TypeId} {i : TypeInfo} (ht : P.underlying t = some (.slice e)) (h2 : apx P t2 = true)
    (hi : P.info? e = some i) {n : Nat} {x : Value} {news : List Value} (hn : ∀ w, (Builtin.lenOf x).run P w = .ok n w) (w w' : World) (hf : (Builtin.firstCells i.size n x).run P w = .ok news.toArray w)
    (base : Option Addr) (sLen sCap : Nat) (hroom : sLen + n ≤ sCap) (hst : ∀ a, base = some a → (storeCells (a.add (sLen * i.size)) news).run P w = .ok () w') (hno : base = none → w' = w) :
    (Builtin.append_ #[t, t2] ty #[.slice base sLen sCap, x]).run P w = .ok (.slice base (sLen + n) sCap) w' := by
  rcases apx_cases h2 with ⟨e2, hd⟩ | hd
  all_goals
    cases base with
    | none =>
      have := hno rfl; subst this
      simp [Builtin.append_, run_underlying ht, run_underlying hd, sizeOf, typeInfo, hi, hn, hroom, hf]
    | some a =>
      have := hst a rfl
      simp [Builtin.append_, run_underlying ht, run_underlying hd, sizeOf, typeInfo, hi, hn, hroom, hf, this]

theorem run_append_grow' {t t2 ty e : TypeId} {i : TypeInfo} {z : Value} (ht : P.underlying t = some (.slice e)) (h2 : apx P t2 = true)
    (hi : P.info? e = some i) (hz : i.zero = some z) {n : Nat} {x : Value} {news olds : List Value} (hn : ∀ w, (Builtin.lenOf x).run P w = .ok n w) (w : World)
    (hf : (Builtin.firstCells i.size n x).run P w.drew = .ok news.toArray w.drew)
    (base : Option Addr) (sLen sCap : Nat) (ho : (Builtin.firstCells i.size sLen (.slice base sLen sCap)).run P w.drew = .ok olds.toArray w.drew)
    (hg : sCap < sLen + n) (hb1 : sLen + n ≤ 1099511627776) (hb2 : (sLen + n) * i.bytes ≤ 70368744177664) :
    (Builtin.append_ #[t, t2] ty #[.slice base sLen sCap, x]).run P w =
      .ok (.slice (some ⟨w.heap.size, 0, none⟩) (sLen + n) (grownCap w (sLen + n) sCap e))
        (w.drew.alloc (.cells (olds.toArray ++ news.toArray ++ Builtin.zeroCells z.cells (grownCap w (sLen + n) sCap e - (sLen + n))) e)) := by
  have hn' : ¬ (sLen + n ≤ sCap) := by omega
  have h63' : ¬ (9223372036854775807 < ((sLen : Int) + (n : Int))) := by omega
  have h48 : Builtin.nextslicecap (sLen + n) sCap * i.bytes ≤ 281474976710656 := growslice_fits hg (by omega)
  have h48' : ¬ (281474976710656 < Builtin.nextslicecap (sLen + n) sCap * i.bytes) := by omega
  clear hg hb1 hb2 h48
  rcases apx_cases h2 with ⟨e2, hd⟩ | hd
  all_goals
    simp [Builtin.append_, run_underlying ht, run_underlying hd, sizeOf, typeInfo, zeroValue, hi, hz, hn, hn', h63', h48', Question.forced, hf, ho, newRow, grownCap, ← Array.append_assoc]

theorem vr_slice0 {b off len cap z : Nat} {v : Value} (h : VR sn ι (.slice b off len cap z) v) {len' cap2 : Nat} (hl : len' ≤ cap) {base : Option Addr} {c' : Nat} (hv : v = .slice base len c') : VR sn ι (.slice b off len' cap z) (.slice base len' c') := by
  obtain ⟨p, a, c, hp, e, h1, h2, h3⟩ := h.slice
  rw [hv] at e; simp at e; obtain ⟨rfl, rfl⟩ := e
  simp only [VR]; exact ⟨p, a, c', hp, rfl, hl, h2, h3⟩

theorem aAppend_sound (hR : R sn ι H W) {t t2 ty : TypeId} {s x r : AV} {H' : AHeap} (h : aAppend P t t2 s x H = some (r, H')) {s' x' : Value} (hs : VR sn ι s s') (hx : VR sn ι x x') :
    ∃ v W' ι', (Builtin.append_ #[t, t2] ty #[s', x']).run P W = .ok v W' ∧ VR sn ι' r v ∧ Stp sn ι H W sn ι' H' W' := by
  unfold aAppend at h
  split at h <;> try (simp at h; done)
  rename_i e ht
  split at h <;> try (simp at h; done)
  rename_i i u hi hu
  split at h <;> try (simp at h; done)
  rename_i hcond
  simp only [Bool.and_eq_true, beq_iff_eq] at hcond
  obtain ⟨h2, hul⟩ := hcond
  have hz : ∃ z, i.zero = some z ∧ ∀ sn ι, VR sn ι u z := by
    unfold tzero at hu; rw [hi] at hu
    cases hq : i.zero with
    | none => simp [hq] at hu
    | some z => simp [hq] at hu; exact ⟨z, rfl, fun sn ι => ofV_VR z u hu⟩
  obtain ⟨z, hz, hzu⟩ := hz
  have hzs : z.cells.size = i.size := by have := ((hzu sn ι).cells).length; simp at this; omega
  split at h <;> try (simp at h; done)
  rename_i n xs hxs
  obtain ⟨news, k1, k2, k3, k4⟩ := xcells_sound (P := P) hR hxs hx
  split at h
  · -- nothing is appended
    rename_i hn0
    subst hn0
    have hnil : news = [] := List.eq_nil_of_length_eq_zero (by simpa using k2)
    subst hnil
    have key : ∀ base sLen sCap, s' = .slice base sLen sCap → sLen ≤ sCap → (Builtin.append_ #[t, t2] ty #[s', x']).run P W = .ok s' W := by
      intro base sLen sCap e1 e2
      subst e1
      have := run_append_room' (ty := ty) ht h2 hi k3 W W (k4 W fun _ => rfl) base sLen sCap (by omega) (fun a _ => by simp [storeCells]) (fun _ => rfl)
      simpa using this
    split at h <;> simp at h <;> obtain ⟨rfl, rfl⟩ := h
    · exact ⟨s', W, ι, key none 0 0 hs.nslice (Nat.le_refl _), hs, Stp.refl hR⟩
    · obtain ⟨p, a, c, hp, e1, l1, l2, _⟩ := hs.slice
      exact ⟨s', W, ι, key _ _ _ e1 (by omega), hs, Stp.refl hR⟩
    · rcases hs.rs with ⟨rfl, rfl, e1⟩ | ⟨a, c, e1, l1, _⟩
      · exact ⟨s', W, ι, key none 0 0 e1 (Nat.le_refl _), hs, Stp.refl hR⟩
      · exact ⟨s', W, ι, key _ _ _ e1 l1, hs, Stp.refl hR⟩
  rename_i hn0
  split at h
  · -- to nil
    split at h <;> simp at h
    rename_i hb
    obtain ⟨rfl, rfl⟩ := h
    cases hs.nslice
    have hrun := run_append_grow' (ty := ty) (olds := []) ht h2 hi hz k3 W (k4 W.drew fun _ => rfl) none 0 0 (by simp [Builtin.firstCells]) (by omega) (by omega) (by simpa using hb.2)
    simp only [Nat.zero_add] at hrun
    have hge := grownCap_ge W n 0 e
    refine ⟨_, _, upd ι H.length ⟨W.heap.size, 0, (([] : List Value).toArray ++ news.toArray ++ Builtin.zeroCells z.cells (grownCap W n 0 e - n)).size⟩, hrun, ?_, ?_⟩
    · simp only [VR]
      refine ⟨_, _, _, upd_self _ _ _, rfl, Nat.le_refl _, hge, fun _ => ⟨rfl, ?_⟩⟩
      simp only [Array.size_append, List.size_toArray, List.length_nil, k2, size_zeroCells, hzs, Nat.zero_add]
      rw [← Nat.add_mul]; exact Nat.mul_le_mul_right _ (by omega)
    · refine Stp.trans hR (Stp.ext hR (Ext.drew W)) ?_
      refine Stp.alloc (hR.ext (Ext.drew W)) ⟨true, H.length, 0, .cells xs e⟩ _ _ fun _ => ?_
      refine or_cells (heap_alloc_new _ _) (l := news) (l' := (Builtin.zeroCells z.cells (grownCap W n 0 e - n)).toList) (by simp) k1
  · -- to a slice of the call's own
    rename_i b off len cap zz
    split at h <;> try (simp at h; done)
    rename_i hzz; subst hzz
    obtain ⟨p, a, cap', hp, rfl, hlc, hcc, hne⟩ := hs.slice
    split at h
    · -- there is room
      rename_i hroom'
      have hroom := hroom'.1
      split at h <;> simp at h
      rename_i H1 hw
      obtain ⟨rfl, rfl⟩ := h
      obtain ⟨rfl, hbb⟩ := hne (by omega)
      obtain ⟨ad, W', e1, hst, hstp⟩ := wr_sound (P := P) hR hw (a' := .pointer (some ⟨p.blk, p.sh + (off + len * i.size), none⟩)) (by simp only [VR]; exact ⟨p, hp, rfl⟩) k1
      simp at e1; subst e1
      have hrun := run_append_room' (ty := ty) ht h2 hi k3 W W' (k4 W fun _ => rfl) (some ⟨p.blk, p.sh + off, none⟩) len cap' (by omega) (fun a ha => by simp at ha; subst ha; rw [addr_add, Nat.add_assoc]; exact hst) (by simp)
      exact ⟨_, W', ι, hrun, by simp only [VR]; exact ⟨p, _, cap', hp, rfl, by omega, hcc, hne⟩, hstp⟩
    · -- there may be room or not
      rename_i hroom
      split at h <;> try (simp at h; done)
      rename_i hb
      split at h <;> try (simp at h; done)
      rename_i o ho
      split at h <;> try (simp at h; done)
      rename_i cs ty' hal hbd
      split at h <;> simp at h
      rename_i hends
      obtain ⟨hend, rfl, hone⟩ := hends
      obtain ⟨rfl, rfl⟩ := h
      have hob := hR.obj b o p ho hal hp
      rw [hbd] at hob; simp only [OR] at hob
      obtain ⟨arr, g1, g2, g3, g4⟩ := hob
      -- the old cells
      have hrd : rd H (.ptr b off) (len * i.size) = some (cs.drop off) := by
        have htk : ∀ (l : List AV), tk l.length l = some l := by
          intro l; induction l with
          | nil => rfl
          | cons c l ih => simp [tk, ih]
        simp only [rd, ho, hal, hbd]
        rw [show len * i.size = (cs.drop off).length from by simp; omega]; exact htk _
      obtain ⟨g, o', olds, e1, q1, q2, q3⟩ := rd_sound hR.ro hrd (v := .pointer (some ⟨p.blk, p.sh + off, none⟩)) (by simp only [VR]; exact ⟨p, hp, rfl⟩)
      simp at e1; obtain ⟨rfl, rfl⟩ := e1
      by_cases hgrow : cap' < len + n
      · -- a new array
        have hfirst : ∀ w1, (∀ a, w1.cell? a = W.cell? a) → (Builtin.firstCells i.size len (.slice (some a) len cap')).run P w1 = .ok olds.toArray w1 := by
          intro w1 hw1
          by_cases hc0 : cap' = 0
          · have : len = 0 := by omega
            subst this
            have : olds = [] := List.eq_nil_of_length_eq_zero (by simpa using q2)
            subst this
            simp [Builtin.firstCells, loadCells, loadCellsFrom]
          · obtain ⟨rfl, _⟩ := hne hc0
            exact run_firstCells_some w1 i.size len _ len cap' olds q2 fun j v hj => by rw [hw1]; exact q3 j v hj
        have hrun := run_append_grow' (ty := ty) ht h2 hi hz k3 W (k4 W.drew fun _ => rfl) (some a) len cap' (hfirst W.drew fun _ => rfl) hgrow (by omega) hb.2
        have hge := grownCap_ge W (len + n) cap' ty'
        refine ⟨_, _, upd ι H.length ⟨W.heap.size, 0, (olds.toArray ++ news.toArray ++ Builtin.zeroCells z.cells (grownCap W (len + n) cap' ty' - (len + n))).size⟩, hrun, ?_, ?_⟩
        · simp only [VR]
          refine ⟨_, _, _, upd_self _ _ _, rfl, Nat.le_refl _, hge, fun _ => ⟨rfl, ?_⟩⟩
          simp only [Array.size_append, List.size_toArray, q2, k2, size_zeroCells, hzs, Nat.zero_add]
          rw [← Nat.add_mul, ← Nat.add_mul]; exact Nat.mul_le_mul_right _ (by omega)
        · have hk : (ekil o.fam (o.sh + cs.length) H).length = H.length := by rw [ekil, kil_length]
          have hk1 := Stp.kil hR (fun _ (o1 : AObj) => Nat.beq o1.fam o.fam && !Nat.ble (o1.sh + o1.body.len) (o.sh + cs.length))
          refine Stp.trans hR hk1 ?_
          have hR1 := hk1.rel
          refine Stp.trans hR1 (Stp.ext hR1 (Ext.drew W)) ?_
          have hR2 := hR1.ext (Ext.drew W)
          have := Stp.alloc hR2 ⟨true, o.fam, o.sh + off, .cells (cs.drop off ++ xs) ty'⟩ (.cells (olds.toArray ++ news.toArray ++ Builtin.zeroCells z.cells (grownCap W (len + n) cap' ty' - (len + n))) ty') _ fun _ =>
            or_cells (heap_alloc_new _ _) (l := olds ++ news) (l' := (Builtin.zeroCells z.cells (grownCap W (len + n) cap' ty' - (len + n))).toList) (by simp) (q1.append k1)
          rw [kil_length] at this
          exact this
      · -- in place
        obtain ⟨rfl, hbb⟩ := hne (by omega)
        have h1' : ∀ v ∈ news, v.oneCell' = true := by
          intro v hvm
          obtain ⟨j, hj⟩ := List.getElem?_of_mem hvm
          have hjl : j < xs.length := by have := (List.getElem?_eq_some_iff.1 hj).1; have := k1.length; omega
          obtain ⟨x1, e1, e2⟩ := k1.get (List.getElem?_eq_getElem hjl)
          rw [hj] at e1; simp at e1; subst e1
          exact e2.one (List.all_eq_true.1 hone _ (List.getElem_mem hjl))
        have hfit : p.sh + off + len * i.size + news.length ≤ arr.size := by
          rw [k2]
          have : len * i.size + n * i.size ≤ cap' * i.size := by rw [← Nat.add_mul]; exact Nat.mul_le_mul_right _ (by omega)
          omega
        have hst := run_storeCells_at P p.blk (p.sh + off + len * i.size) ty' news 0 arr W g1 (by omega) h1'
        simp only [Nat.add_zero] at hst
        have hrun := run_append_room' (ty := ty) ht h2 hi k3 W _ (k4 W fun _ => rfl) (some ⟨p.blk, p.sh + off, none⟩) len cap' (by omega) (fun a ha => by simp at ha; subst ha; rw [addr_add]; exact hst) (by simp)
        have hrow := setRow_heap W p.blk arr (arr.toList.take (p.sh + off + len * i.size) ++ news ++ arr.toList.drop (p.sh + off + len * i.size + news.length)).toArray ty' (0, 0) g1
        refine ⟨_, _, upd ι H.length ⟨p.blk, p.sh + off, p.n⟩, hrun, ?_, ?_⟩
        · simp only [VR]
          exact ⟨_, _, cap', upd_self _ _ _, rfl, Nat.le_refl _, by omega, fun _ => ⟨by simp, by simpa using hbb⟩⟩
        · refine Stp.grow hR ho hal hp hbd ⟨fun c hc => setRow_other W p.blk c _ hc, by simp [World.setRow], rfl, rfl, rfl⟩ arr _ g1 hrow (by simp; omega) ?_ off _ ?_
          · intro j hj
            rw [List.getElem?_toArray, List.append_assoc, List.getElem?_append_left (by simp; omega), List.getElem?_take, if_pos (by omega), Array.getElem?_toList]
          · refine ⟨_, hrow, by simp; omega, by have := k1.length; simp; omega, fun j c hj => ?_⟩
            rw [List.getElem?_toArray]
            show ∃ v, (List.take (p.sh + off + len * i.size) arr.toList ++ news ++ List.drop (p.sh + off + len * i.size + news.length) arr.toList)[p.sh + off + j]? = some v ∧ _
            rcases Nat.lt_or_ge j (cs.drop off).length with hjl | hjl
            · rw [List.getElem?_append_left hjl, List.getElem?_drop] at hj
              obtain ⟨v, e1, e2⟩ := g4 _ c hj
              refine ⟨v, ?_, e2⟩
              simp at hjl
              rw [List.append_assoc, List.getElem?_append_left (by simp; omega), List.getElem?_take, if_pos (by omega), Array.getElem?_toList, ← e1]; congr 1; omega
            · rw [List.getElem?_append_right hjl] at hj
              obtain ⟨v, e1, e2⟩ := k1.get hj
              refine ⟨v, ?_, e2⟩
              have hjn : j - (cs.drop off).length < news.length := (List.getElem?_eq_some_iff.1 e1).1
              simp at hjl hjn e1
              rw [List.append_assoc, List.getElem?_append_right (by simp; omega), List.getElem?_append_left (by simp; omega), ← e1]; congr 1; simp; omega
  · simp at h

theorem aClear_sound (hR : R sn ι H W) {t ty : TypeId} {x : AV} {H' : AHeap} (h : aClear P t x H = some H') {x' : Value} (hx : VR sn ι x x') :
    ∃ W', (Builtin.clear_ #[t] ty #[x']).run P W = .ok (.tuple #[]) W' ∧ Stp sn ι H W sn ι H' W' := by
  unfold aClear at h
  split at h <;> try (simp at h; done)
  rename_i e ht
  split at h <;> try (simp at h; done)
  rename_i u hu
  split at h <;> try (simp at h; done)
  · simp at h; subst h
    cases hx.nslice
    exact ⟨W, by simp [Builtin.clear_, run_underlying ht], Stp.refl hR⟩
  · rename_i b off len cap z
    obtain ⟨p, a, cap', hp, rfl, hlc, hcc, hne⟩ := hx.slice
    split at h
    · rename_i h0
      subst h0
      simp at h; subst h
      exact ⟨W, by simp [Builtin.clear_, run_underlying ht], Stp.refl hR⟩
    · rename_i h0
      split at h <;> try (simp at h; done)
      rename_i hul
      obtain ⟨rfl, hbb⟩ := hne (by omega)
      obtain ⟨z', h1, h2⟩ := tzero_run hu
      have hc := (h2 sn ι).cells
      have hl : LR sn ι (repl len u.cells) (Builtin.zeroCells z'.cells len).toList := by
        have := repl_LR hc len
        unfold Builtin.zeroCells
        rw [Array.toList_map, Array.toList_range]
        exact this
      obtain ⟨ad, W', e1, hst, hstp⟩ := wr_sound (P := P) hR h (a' := .pointer (some ⟨p.blk, p.sh + off, none⟩)) (by simp only [VR]; exact ⟨p, hp, rfl⟩) hl
      simp at e1; subst e1
      refine ⟨W', ?_, hstp⟩
      obtain ⟨m, rfl⟩ : ∃ m, len = m + 1 := ⟨len - 1, by omega⟩
      simp [Builtin.clear_, run_underlying ht, h1, hst]

end eff
end Go.Abs

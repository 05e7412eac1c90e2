/-
  A verified abstract interpreter, part 37: a law's arguments: what is read of them as data, as values of the interpreter; they read as before behind the call.
-/
import Derived.Test.YtajhailaofchlaaDoorAbs36
import Derived.ChangeReads
import Derived.ChangeArms
import Derived.OpenShut
import Derived.ProofKit
set_option linter.unusedSimpArgs false
set_option linter.unusedVariables false
namespace Go.Abs
open Go.RowKit Go.ChangeShapes Go.WideShapes Go.ChangeAt

/-- What a type is made of stands in the table; the elements of a slice have cells. -/
def okType (P : Program) (t : TypeId) : Bool := match P.underlying t with
  | some (.slice e) => Nat.blt e P.types.size && !(Nat.beq (P.cellsOf e) 0)
  | some (.pointer e) => Nat.blt e P.types.size
  | some (.array _ e) => Nat.blt e P.types.size
  | some (.map _ e) => Nat.blt e P.types.size
  | some (.struct fs) => fs.toList.all fun f => Nat.blt f.type P.types.size
  | _ => true
def Solid (P : Program) : Prop := ((List.range P.types.size).all fun t => okType P t) = true
theorem Solid.at {P : Program} (h : Solid P) {t : TypeId} (ht : t < P.types.size) : okType P t = true := List.all_eq_true.1 h t (List.mem_range.2 ht)
theorem blt_lt {a b : Nat} (h : Nat.blt a b = true) : a < b := by simpa [Nat.blt_eq] using h

section keep
variable {H : Type} {enc : TypeId × Value → H} {P : Program} {w w' : World} {base : Nat} {sp : Nat → Bool}

/-- What was read with all spare places is read alike where the blocks that were met are asked for theirs. -/
theorem trod_spare (hP : Solid P) : ∀ (n : Nat) (t : TypeId) (cs : List Value) (x : DataW H × List MemPlace), t < P.types.size → DataW.trod enc P w base (fun _ => true) true n t cs = some x → (∀ p ∈ x.2, sp p.block = true) → DataW.trod enc P w base sp true n t cs = some x := by
  intro n
  induction n with
  | zero => intro t cs x _ h; simp [DataW.trod] at h
  | succ n ih =>
    intro t cs x htl h hs
    have hok := hP.at htl
    unfold okType at hok
    rw [DataW.trod_step] at h ⊢
    unfold DataW.trodStep at h ⊢
    split at h
    case h_6 e a hu =>
      simp only [hu] at hok
      simp only [Option.map_eq_some_iff, Option.bind_eq_some_iff] at h ⊢
      obtain ⟨y, ⟨cs', hc, hy⟩, rfl⟩ := h
      exact ⟨y, ⟨cs', hc, ih _ _ _ (blt_lt hok) hy fun p hp => hs p (by simp [hp])⟩, rfl⟩
    case h_8 e a len cap hu =>
      simp only [hu, Bool.and_eq_true] at hok
      have hel := blt_lt hok.1
      have hz : P.cellsOf e ≠ 0 := fun h0 => by rw [h0] at hok; cases hok.2
      simp only [if_true] at h ⊢
      split at h
      · rename_i hc
        rw [if_pos hc]
        simp only [Option.map_eq_some_iff, Option.bind_eq_some_iff] at h ⊢
        obtain ⟨els, he, rest, hrest, rfl⟩ := h
        have each : ∀ (i : Nat) (y : DataW H × List MemPlace), y ∈ els ++ rest → (w.cells? base (a.add (i * P.cellsOf e)) (P.cellsOf e)).bind (DataW.trod enc P w base (fun _ => true) true n e) = some y →
            (w.cells? base (a.add (i * P.cellsOf e)) (P.cellsOf e)).bind (DataW.trod enc P w base sp true n e) = some y := by
          intro i y hy hv
          simp only [Option.bind_eq_some_iff] at hv ⊢
          obtain ⟨cs', h1, h2⟩ := hv
          exact ⟨cs', h1, ih _ _ _ hel h2 fun p hp => hs p (by simp only [List.mem_append, List.mem_flatMap]; exact .inr ⟨y, by simpa using hy, hp⟩)⟩
        refine ⟨els, mapM_carry he fun i y _ hy hv => each i y (by simp [hy]) hv, rest, ?_, rfl⟩
        have hr := mapM_carry hrest fun j y _ hy hv => each (len + j) y (by simp [hy]) hv
        cases hsp : sp a.block with
        | true => simpa using hr
        | false =>
          have h0 : rest = [] := by
            cases hq : rest with
            | nil => rfl
            | cons y l =>
              exfalso
              have h1 : 0 < (els.length + rest.length) * P.cellsOf e := Nat.mul_pos (by rw [hq]; simp only [List.length_cons]; omega) (by omega)
              have := hs (.cell a.block (a.off + 0)) (by simp only [List.mem_append]; exact .inl (MemPlace.mem_row.2 ⟨0, h1, rfl⟩))
              simp only [MemPlace.block] at this
              rw [hsp] at this; cases this
          subst h0
          have hl : ([] : List (DataW H × List MemPlace)).length = cap - len := by simpa using mapM_some_length hrest
          rfl
      · cases h
    case h_9 fs hu =>
      simp only [hu] at hok
      split at h
      · rename_i hc
        rw [if_pos hc]
        simp only [Option.map_eq_some_iff] at h ⊢
        obtain ⟨xs, hx, rfl⟩ := h
        exact ⟨xs, mapM_carry hx fun f y hf hy hv => ih _ _ _ (blt_lt (List.all_eq_true.1 hok f hf)) hv fun p hp => hs p (List.mem_flatMap.2 ⟨y, hy, hp⟩), rfl⟩
      · cases h
    case h_10 k e hu =>
      simp only [hu] at hok
      split at h
      · rename_i hc
        rw [if_pos hc]
        simp only [Option.map_eq_some_iff] at h ⊢
        obtain ⟨xs, hx, rfl⟩ := h
        exact ⟨xs, mapM_carry hx fun f y _ hy hv => ih _ _ _ (blt_lt hok) hv fun p hp => hs p (List.mem_flatMap.2 ⟨y, hy, hp⟩), rfl⟩
      · cases h
    case h_12 => split at h <;> first | exact h | (rename_i e _; cases e) | cases h
    case h_14 k e b hu =>
      simp only [hu] at hok
      split at h
      · rename_i es clock hb
        split at h
        · rename_i hc
          simp only [Option.bind_eq_some_iff] at h
          obtain ⟨entries, he, hd⟩ := h
          split at hd
          · rename_i hris
            have hx := Option.some.inj hd
            subst hx
            simp only [hb, if_pos hc, Option.bind_eq_some_iff]
            refine ⟨entries, mapM_carry he (fun x y _ hy hv => ?_), by simp [hris]⟩
            simp only [Option.bind_eq_some_iff] at hv ⊢
            obtain ⟨key, hk, hz⟩ := hv
            refine ⟨key, hk, ?_⟩
            split at hz
            · rename_i hf
              rw [if_pos hf]
              simp only [Option.map_eq_some_iff] at hz ⊢
              obtain ⟨q, hq, rfl⟩ := hz
              exact ⟨q, ih _ _ _ (blt_lt hok) hq fun p hp => hs p (by simp only [List.mem_cons, List.mem_flatMap]; exact .inr ⟨_, hy, hp⟩), rfl⟩
            · cases hz
          · cases hd
        · cases h
      · cases h
    all_goals first | exact h | cases h

theorem sameAt_ext (he : Ext w w') {p : MemPlace} (hp : p.block < w.heap.size) : w.sameAt w' p := by
  cases p with
  | cell b off =>
    have := he.old b hp
    simp only [World.sameAt, World.cell?, this]
  | map b => exact he.old b hp

theorem trodAll_keep (hP : Solid P) (he : Ext w w') : ∀ {ts : List TypeId} {vs : List Value} {ds : List (DataW H)} {ps : List MemPlace}, (∀ t ∈ ts, t < P.types.size) → DataW.TrodAll enc P w base (fun _ => true) true ts vs ds ps → (∀ p ∈ ps, p.block < w.heap.size) → (∀ p ∈ ps, sp p.block = true) →
    DataW.TrodAll enc P w' base sp true ts vs ds ps
  | [], [], [], ps, _, h, _, _ => h
  | t :: ts, v :: vs, d :: ds, ps, ht, h, h1, h2 => by
    obtain ⟨p, q, ⟨fuel, hp⟩, hq, rfl⟩ := h
    refine ⟨p, q, ⟨fuel, trod_spare hP _ _ _ _ (ht t (by simp)) (DataW.trod_carry _ _ _ _ hp fun x hx => sameAt_ext he (h1 x (by simp [hx]))) fun x hx => h2 x (by simp [hx])⟩,
      trodAll_keep hP he (fun t h => ht t (by simp [h])) hq (fun x hx => h1 x (by simp [hx])) (fun x hx => h2 x (by simp [hx])), rfl⟩
  | [], [], _ :: _, _, _, h, _, _ => h.elim
  | [], _ :: _, _, _, _, h, _, _ => h.elim
  | _ :: _, [], _, _, _, h, _, _ => h.elim
  | _ :: _, _ :: _, [], _, _, h, _, _ => h.elim
end keep

/-! what is read, as values -/
/-- Whatever is read as data of type t, its cells are such. -/
def Opens (P : Program) (t : TypeId) (Q : List AV → Prop) : Prop :=
  ∀ (H : Type) (enc : TypeId × Value → H) (W : World) (fuel : Nat) (cs : List Value) (x : DataW H × List MemPlace), DataW.trod enc P W 0 (fun _ => true) true fuel t cs = some x → ∃ us, Q us ∧ LR (snap0 W) noI us cs

section opens
variable {P : Program}

theorem opens_mono {t : TypeId} {Q Q' : List AV → Prop} (h : Opens P t Q) (hq : ∀ us, Q us → Q' us) : Opens P t Q' := fun H enc W fuel cs x hx => let ⟨us, h1, h2⟩ := h H enc W fuel cs x hx; ⟨us, hq _ h1, h2⟩

theorem opens_bool {t : TypeId} (ht : P.underlying t = some .bool) : Opens P t fun us => ∃ b, us = [.bool b] := by
  intro H enc W fuel cs x h
  obtain ⟨b, rfl, _⟩ := DataW.trod_bool ht h
  exact ⟨_, ⟨b, rfl⟩, by simp [LR, VR]⟩

theorem opens_int {t : TypeId} {k : IntKind} (ht : P.underlying t = some (.int k)) : Opens P t fun us => ∃ n, us = [.int k n] ∧ (Lit.int k n).wf = true := by
  intro H enc W fuel cs x h
  obtain ⟨n, rfl, _, hw⟩ := DataW.trod_int ht h
  exact ⟨_, ⟨n, rfl, hw⟩, by simp [LR, VR]⟩

theorem opens_str {t : TypeId} (ht : P.underlying t = some .string) : Opens P t fun us => ∃ s : List UInt8, us = [.str s] ∧ s.length ≤ maxLen := by
  intro H enc W fuel cs x h
  obtain ⟨s, rfl, _, hw⟩ := DataW.trod_string ht h
  refine ⟨_, ⟨s.data.toList, rfl, ?_⟩, by simp [LR, VR]⟩
  have : s.data.toList.length = s.size := by cases s; rfl
  omega

theorem cells?_get {W : World} {a : Addr} {n : Nat} {cs : List Value} (h : W.cells? 0 a n = some cs) : cs.length = n ∧ ∀ (i : Nat) (v : Value), cs[i]? = some v → W.cell? (a.add i) = some v := by
  unfold World.cells? at h
  rw [if_pos (Nat.zero_le _)] at h
  have hl : cs.length = n := by simpa using mapM_some_length h
  refine ⟨hl, fun i v hv => ?_⟩
  have hi : i < n := by rw [← hl]; exact (List.getElem?_eq_some_iff.1 hv).1
  have := mapM_some_get h i i (by simp [hi])
  rw [this, hv]

theorem LR_flat {sn : Snap} {ι : IMap} : ∀ {us : List (List AV)} {vs : List (List Value)}, us.length = vs.length → (∀ (i : Nat) (u : List AV) (v : List Value), us[i]? = some u → vs[i]? = some v → LR sn ι u v) → LR sn ι us.flatten vs.flatten
  | [], [], _, _ => by simp [LR]
  | u :: us, v :: vs, hl, h => by
    simp only [List.flatten_cons]
    exact (h 0 u v rfl rfl).append (LR_flat (by simpa using hl) fun i x y hx hy => h (i + 1) x y (by simpa using hx) (by simpa using hy))
  | [], _ :: _, hl, _ => by simp at hl
  | _ :: _, [], hl, _ => by simp at hl

theorem getElem_flatten {α : Type} {z : Nat} : ∀ {l : List (List α)} {i j : Nat} {x : List α} {y : α}, (∀ u ∈ l, u.length = z) → l[i]? = some x → x[j]? = some y → l.flatten[i * z + j]? = some y
  | [], i, j, x, y, h, hi, hj => by simp at hi
  | u :: l, 0, j, x, y, h, hi, hj => by
    simp at hi; subst hi
    simp only [List.flatten_cons, Nat.zero_mul, Nat.zero_add]
    rw [List.getElem?_append_left (List.getElem?_eq_some_iff.1 hj).1]; exact hj
  | u :: l, i + 1, j, x, y, h, hi, hj => by
    have hu := h u (by simp)
    simp only [List.flatten_cons]
    rw [List.getElem?_append_right (by rw [hu, Nat.add_mul]; omega), hu, show (i + 1) * z + j - z = i * z + j from by rw [Nat.add_mul]; omega]
    exact getElem_flatten (fun v hv => h v (by simp [hv])) (by simpa using hi) hj

theorem flatten_at {α : Type} {z : Nat} (hz : z ≠ 0) : ∀ {l : List (List α)} {k : Nat} {y : α}, (∀ u ∈ l, u.length = z) → l.flatten[k]? = some y → ∃ x, l[k / z]? = some x ∧ x[k % z]? = some y
  | [], k, y, h, hk => by simp at hk
  | u :: l, k, y, h, hk => by
    have hu := h u (by simp)
    simp only [List.flatten_cons] at hk
    by_cases hlt : k < z
    · rw [List.getElem?_append_left (by omega)] at hk
      exact ⟨u, by simp [Nat.div_eq_of_lt hlt], by rw [Nat.mod_eq_of_lt hlt]; exact hk⟩
    · rw [List.getElem?_append_right (by omega), hu] at hk
      obtain ⟨x, h1, h2⟩ := flatten_at hz (fun v hv => h v (by simp [hv])) hk
      have e1 : k / z = (k - z) / z + 1 := by
        rw [← Nat.add_div_right _ (by omega), Nat.sub_add_cancel (by omega)]
      have e2 : k % z = (k - z) % z := by
        rw [← Nat.add_mod_right (k - z) z, Nat.sub_add_cancel (by omega)]
      exact ⟨x, by rw [e1]; simpa using h1, by rw [e2]; exact h2⟩

theorem addr_addadd (a : Addr) (h : a.spot = none) (i j : Nat) : (a.add i).add j = ⟨a.block, a.off + i + j, none⟩ := by
  obtain ⟨b, o, s⟩ := a
  simp only at h
  subst h
  unfold Addr.add
  split <;> split <;> simp_all

/-- A slice: none, or one with such elements. -/
theorem opens_slice {t e : TypeId} {z : Nat} {Q : List AV → Prop} (ht : P.underlying t = some (.slice e)) (hz : P.cellsOf e = z) (hz0 : z ≠ 0) (he : Opens P e Q) :
    Opens P t fun us => us = [.nslice] ∨ ∃ l : List (List AV), (∀ u ∈ l, Q u ∧ u.length = z) ∧ us = [.rs l.length z l.flatten] ∧ l.length ≤ maxLen := by
  intro H enc W fuel cs x h
  rcases DataW.trod_slice ht h with ⟨rfl, _⟩ | ⟨a, len, cap, els, rest, n, _, rfl, _, _, hlc, hcm, hl, hel, hrest⟩
  · exact ⟨_, .inl rfl, by simp [LR, VR]⟩
  · rw [hz] at hel
    have each : ∀ i, i < len → ∃ (vs : List Value) (u : List AV), W.cells? 0 (a.add (i * z)) z = some vs ∧ Q u ∧ LR (snap0 W) noI u vs := by
      intro i hi
      have h1 := hel i hi
      have h2 : els[i]? = some els[i] := List.getElem?_eq_getElem (by omega)
      rw [h2] at h1
      simp only [Option.bind_eq_some_iff] at h1
      obtain ⟨vs, h3, h4⟩ := h1
      obtain ⟨u, h5, h6⟩ := he H enc W n vs _ h4
      exact ⟨vs, u, h3, h5, h6⟩
    have hex : ∃ (l : List (List AV)) (vss : List (List Value)), l.length = len ∧ vss.length = len ∧ ∀ i, i < len → ∃ vs u, l[i]? = some u ∧ vss[i]? = some vs ∧ W.cells? 0 (a.add (i * z)) z = some vs ∧ Q u ∧ LR (snap0 W) noI u vs := by
      clear hel hl h hlc hcm hrest
      induction len with
      | zero => exact ⟨[], [], rfl, rfl, fun i hi => by omega⟩
      | succ m ih =>
        obtain ⟨l, vss, h1, h2, h3⟩ := ih fun i hi => each i (by omega)
        obtain ⟨vs, u, g1, g2, g3⟩ := each m (by omega)
        refine ⟨l ++ [u], vss ++ [vs], by simp [h1], by simp [h2], fun i hi => ?_⟩
        by_cases e : i = m
        · subst e
          exact ⟨vs, u, by simp [← h1], by simp [← h2], g1, g2, g3⟩
        · obtain ⟨vs', u', k1, k2, k3⟩ := h3 i (by omega)
          exact ⟨vs', u', by rw [List.getElem?_append_left (by omega)]; exact k1, by rw [List.getElem?_append_left (by omega)]; exact k2, k3⟩
    obtain ⟨l, vss, h1, h2, h3⟩ := hex
    have hll : ∀ u ∈ l, Q u ∧ u.length = z := by
      intro u hu
      obtain ⟨i, hi, rfl⟩ := List.mem_iff_getElem.1 hu
      obtain ⟨vs, u', k1, k2, k3, k4, k5⟩ := h3 i (by omega)
      rw [List.getElem?_eq_getElem hi] at k1; simp at k1
      rw [k1]
      exact ⟨k4, by rw [← k5.length, (cells?_get k3).1]⟩
    refine ⟨_, .inr ⟨l, hll, rfl, by omega⟩, ?_⟩
    simp only [LR]
    refine ⟨_, _, rfl, ?_, rfl⟩
    simp only [VR]
    have hfl : l.flatten.length = l.length * z := by
      clear h1 h3
      induction l with
      | nil => simp
      | cons u l ih => simp only [List.flatten_cons, List.length_append, List.length_cons, (hll u (by simp)).2, ih fun v hv => hll v (by simp [hv])]; rw [Nat.add_mul]; omega
    have hspot : len ≠ 0 → a.spot = none := by
      intro h0
      obtain ⟨vs, u, k1, k2, k3, k4, k5⟩ := h3 0 (by omega)
      obtain ⟨g1, g2⟩ := cells?_get k3
      have : W.cell? ((a.add (0 * z)).add 0) = some vs[0] := g2 0 _ (List.getElem?_eq_getElem (by omega))
      rw [Nat.zero_mul] at this
      simpa [Addr.add] using World.cell?_spot this
    refine ⟨a, cap, by rw [h1], by omega, hfl, mr_of_get fun k u hu => ?_, fun h0 => hspot (by rw [← h1]; exact h0)⟩
    obtain ⟨x', g1, g2⟩ := flatten_at hz0 (fun u hu => (hll u hu).2) hu
    have hklt : k / z < len := by rw [← h1]; exact (List.getElem?_eq_some_iff.1 g1).1
    obtain ⟨vs, u', k1, k2, k3, k4, k5⟩ := h3 (k / z) hklt
    rw [g1] at k1; simp at k1; subst k1
    obtain ⟨v, e1, e2⟩ := k5.get g2
    refine ⟨v, ?_, e2⟩
    have hc := (cells?_get k3).2 _ _ e1
    rw [addr_addadd a (hspot (Nat.ne_of_gt (Nat.lt_of_le_of_lt (Nat.zero_le _) hklt)))] at hc
    have hk : a.off + k / z * z + k % z = a.off + k := by rw [Nat.add_assoc, Nat.mul_comm, Nat.div_add_mod]
    rw [hk] at hc
    unfold snap0
    have hlt : a.block < W.heap.size := by
      cases hq : W.heap[a.block]? with
      | none => unfold World.cell? at hc; simp only [hq] at hc; cases hc
      | some ob => exact (Array.getElem?_eq_some_iff.1 hq).1
    rw [if_pos (by exact hlt)]; exact hc

/-- The fields of a struct, one behind the other. -/
def FsQ : List (List AV → Prop) → List AV → Prop
  | [], us => us = []
  | Q :: Qs, us => ∃ u us', us = u ++ us' ∧ Q u ∧ FsQ Qs us'

def FsOpens (P : Program) : List Field → List (List AV → Prop) → Nat → Nat → Prop
  | [], [], off, tot => off = tot
  | f :: fs, Q :: Qs, off, tot => f.offset = off ∧ Opens P f.type Q ∧ FsOpens P fs Qs (off + P.cellsOf f.type) tot
  | _, _, _, _ => False

theorem opens_fs {H : Type} {enc : TypeId × Value → H} {W : World} {n tot : Nat} {cs : List Value} (hcs : cs.length = tot) : ∀ {fs : List Field} {Qs : List (List AV → Prop)} {xs : List (DataW H × List MemPlace)} {off : Nat}, FsOpens P fs Qs off tot → xs.length = fs.length → off ≤ tot →
    (∀ (i : Nat) (f : Field), fs[i]? = some f → DataW.trod enc P W 0 (fun _ => true) true n f.type ((cs.drop f.offset).take (P.cellsOf f.type)) = xs[i]?) → ∃ us, FsQ Qs us ∧ LR (snap0 W) noI us (cs.drop off)
  | [], [], xs, off, h, hl, ho, hx => by
    have : off = tot := h
    subst this
    exact ⟨[], rfl, by simp [LR, ← hcs]⟩
  | f :: fs, Q :: Qs, xs, off, h, hl, ho, hx => by
    obtain ⟨h1, h2, h3⟩ := h
    cases xs with
    | nil => simp at hl
    | cons x xs =>
      have h0 := hx 0 f rfl
      simp only [List.getElem?_cons_zero] at h0
      obtain ⟨u, q1, q2⟩ := h2 H enc W n _ _ h0
      have hle : ∀ (fs : List Field) (Qs : List (List AV → Prop)) (o : Nat), FsOpens P fs Qs o tot → o ≤ tot := by
        intro fs
        induction fs with
        | nil => intro Qs o h; cases Qs with | nil => exact Nat.le_of_eq h | cons _ _ => exact h.elim
        | cons g gs ih => intro Qs o h; cases Qs with | nil => exact h.elim | cons _ _ => have := ih _ _ h.2.2; omega
      obtain ⟨us, q3, q4⟩ := opens_fs hcs h3 (by simpa using hl) (hle _ _ _ h3) fun i g hg => by simpa using hx (i + 1) g (by simpa using hg)
      refine ⟨u ++ us, ⟨u, us, rfl, q1, q3⟩, ?_⟩
      rw [h1] at q2
      have := q2.append q4
      rwa [← List.drop_drop, List.take_append_drop] at this
  | [], _ :: _, xs, off, h, hl, ho, hx => h.elim
  | _ :: _, [], xs, off, h, hl, ho, hx => h.elim

theorem opens_struct {t : TypeId} {fs : Array Field} {Qs : List (List AV → Prop)} (ht : P.underlying t = some (.struct fs)) (h : FsOpens P fs.toList Qs 0 (P.cellsOf t)) : Opens P t (FsQ Qs) := by
  intro H enc W fuel cs x hx
  obtain ⟨xs, n, _, _, hl, hlen, hf⟩ := DataW.trod_struct ht hx
  obtain ⟨us, h1, h2⟩ := opens_fs hl h (by simpa using hlen) (Nat.zero_le _) fun i f hi => hf i f (by simpa using hi)
  exact ⟨us, h1, by simpa using h2⟩
end opens

/-- A value, from its cells. -/
def CellsTo (P : Program) (t : TypeId) (us : List AV) (u : AV) : Prop := match P.underlying t with
  | some (.struct _) => u = .agg us
  | some (.array _ _) => u = .agg us
  | _ => us = [u] ∧ one u = true
end Go.Abs

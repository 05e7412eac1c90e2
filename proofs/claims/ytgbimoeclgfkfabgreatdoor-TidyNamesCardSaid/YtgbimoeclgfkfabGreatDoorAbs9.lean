/-
  A verified abstract interpreter, part 9: copy and maps; all operations but calls of functions.
-/
import Derived.Test.YtgbimoeclgfkfabGreatDoorAbs8
import Derived.ChangeKeysEq
set_option linter.unusedSimpArgs false
set_option linter.unusedVariables false
namespace Go.Abs
open Go.RowKit

/-! keys that are structs or arrays of integers -/
def flatFs (f : TypeId → Option Nat) : List Field → Nat → Option Nat
  | [], off => some off
  | fl :: fs, off => if fl.name ≠ "_" ∧ fl.offset = off then (match f fl.type with | some z => flatFs f fs (off + z) | none => none) else none
def flatT (P : Program) : Nat → TypeId → Option Nat
  | 0, _ => none
  | d + 1, t => match P.underlying t, tsz P t with
    | some (.int _), some z => if z = 1 then some z else none
    | some (.array n e), some z => match flatT P d e with | some ze => if n * ze = z then some z else none | none => none
    | some (.struct fs), some z => if P.stoodInHeld t = true then none else match flatFs (flatT P d) fs.toList 0 with | some z' => if z' = z then some z else none | none => none
    | _, _ => none
def iv (l : List (IntKind × Int)) : List Value := l.map fun p => .int p.1 p.2
def pk (P : Program) (t : TypeId) (cs : List Value) : Value := match tagg P t with | some true => .agg cs.toArray | _ => cs.headD undef
/-- Integers, one by one: are they the same? -/
def sameI : List AV → List AV → Option Bool
  | [], [] => some true
  | .int k a :: xs, .int k' b :: ys => if k = k' then (match sameI xs ys with | some r => some ((a == b) && r) | none => none) else none
  | _, _ => none
def fitI : Nat → List AV → Bool
  | 0, [] => true
  | n + 1, .int _ _ :: xs => fitI n xs
  | _, _ => false
def kfit (d : TypeDesc) (k : AV) : Bool := match d with
  | .array n _ => (match k with | .agg xs => fitI n xs | _ => false)
  | _ => true
section flat
variable {P : Program}
theorem flat_size : ∀ {d : Nat} {t : TypeId} {z : Nat}, flatT P d t = some z → tsz P t = some z
  | 0, t, z, h => by simp [flatT] at h
  | d + 1, t, z, h => by
    unfold flatT at h
    split at h
    · rename_i hz; split at h <;> simp at h; subst h; exact hz
    · rename_i hz; split at h <;> try (simp at h; done)
      split at h <;> simp at h; subst h; exact hz
    · rename_i hz; split at h <;> try (simp at h; done)
      split at h <;> try (simp at h; done)
      split at h <;> simp at h; subst h; exact hz
    · simp at h
theorem flat_tagg {d : Nat} {t : TypeId} {z : Nat} (h : flatT P (d + 1) t = some z) : ((∃ k, P.underlying t = some (.int k)) ∧ tagg P t = some false ∧ z = 1) ∨ (((∃ n e, P.underlying t = some (.array n e)) ∨ ∃ fs, P.underlying t = some (.struct fs)) ∧ tagg P t = some true) := by
  unfold flatT at h
  split at h
  · rename_i k z' hu hz; left; split at h <;> simp at h; subst h; rename_i e; exact ⟨⟨k, hu⟩, by simp [tagg, hu], e⟩
  · rename_i n e z' hu hz; right; exact ⟨.inl ⟨n, e, hu⟩, by simp [tagg, hu]⟩
  · rename_i fs z' hu hz; right; exact ⟨.inr ⟨fs, hu⟩, by simp [tagg, hu]⟩
  · simp at h
theorem flat_part {d : Nat} {t : TypeId} {z : Nat} (h : flatT P d t = some z) (arr : Array Value) (off : Nat) (hl : off + z ≤ arr.size) (w : World) :
    (part t arr off).run P w = .ok (pk P t ((arr.toList.drop off).take z)) w := by
  cases d with
  | zero => simp [flatT] at h
  | succ d =>
    have hsz := flat_size h
    rcases flat_tagg h with ⟨_, ht, rfl⟩ | ⟨_, ht⟩
    · have hlt : off < arr.size := by omega
      have e1 : arr[off]? = some arr[off] := Array.getElem?_eq_getElem hlt
      simp only [part, Sem.run_bind, tagg_run ht, Result.andThen_ok, Bool.false_eq_true, if_false, e1, Sem.run_pure, pk, ht]
      congr 1
      have : (arr.toList.drop off).take 1 = [arr[off]] := by
        rw [List.drop_eq_getElem_cons (by simpa using hlt)]; simp
      rw [this]; rfl
    · simp only [part, Sem.run_bind, tagg_run ht, Result.andThen_ok, if_true, tsz_run hsz, Sem.run_pure, pk, ht]
      congr 2
      apply Array.ext'
      simp [List.extract_eq_take_drop, Nat.add_sub_cancel_left]
theorem drop_chunk {α : Type} [DecidableEq α] (xs ys : List α) (off z : Nat) : (xs.drop off = ys.drop off) ↔ ((xs.drop off).take z = (ys.drop off).take z ∧ xs.drop (off + z) = ys.drop (off + z)) := by
  constructor
  · intro h; exact ⟨by rw [h], by rw [← List.drop_drop, ← List.drop_drop, h]⟩
  · rintro ⟨h1, h2⟩
    rw [← List.take_append_drop z (xs.drop off), ← List.take_append_drop z (ys.drop off), List.drop_drop, List.drop_drop, h1, h2]
theorem iv_chunk (xs : List (IntKind × Int)) (off z : Nat) : ((iv xs).drop off).take z = iv ((xs.drop off).take z) := by
  simp only [iv, List.map_drop, List.map_take]
theorem fst_chunk {xs ys : List (IntKind × Int)} (h : ys.map (·.1) = xs.map (·.1)) (off z : Nat) : ((ys.drop off).take z).map (·.1) = ((xs.drop off).take z).map (·.1) := by
  rw [List.map_take, List.map_drop, h, ← List.map_drop, ← List.map_take]
theorem iv_length (xs : List (IntKind × Int)) : (iv xs).length = xs.length := by simp [iv]
/-- Equality of a type that a step knows. -/
def EqFlat (P : Program) (d : Nat) (t : TypeId) (z : Nat) : Prop := ∀ xs ys : List (IntKind × Int), xs.length = z → ys.map (·.1) = xs.map (·.1) → ∀ w, (Op.equalIn d t (pk P t (iv xs)) (pk P t (iv ys))).run P w = .ok (decide (xs = ys)) w
theorem eqItems_flat {m d : Nat} {e : TypeId} {ze : Nat} (he : flatT P m e = some ze) (ih : EqFlat P d e ze) (xs ys : List (IntKind × Int)) (hk : ys.map (·.1) = xs.map (·.1)) (w : World) :
    ∀ (k j : Nat), (j + k) * ze = xs.length → (Op.eqItems d e ze (iv xs).toArray (iv ys).toArray (List.range' j k)).run P w = .ok (decide (xs.drop (j * ze) = ys.drop (j * ze))) w
  | 0, j, hl => by
    have hl2 : ys.length = xs.length := by simpa using congrArg List.length hk
    have e1 : xs.drop (j * ze) = [] := List.drop_eq_nil_of_le (by rw [← hl]; simp)
    have e2 : ys.drop (j * ze) = [] := List.drop_eq_nil_of_le (by rw [hl2, ← hl]; simp)
    simp [Op.eqItems, e1, e2]
  | k + 1, j, hl => by
    have hl2 : ys.length = xs.length := by simpa using congrArg List.length hk
    have hle : j * ze + ze ≤ xs.length := by
      rw [← hl]; have : (j + (k + 1)) * ze = j * ze + ze + k * ze := by rw [Nat.add_mul, Nat.add_mul]; omega
      omega
    have p1 := flat_part he (iv xs).toArray (j * ze) (by simpa [iv] using hle) w
    have p2 := flat_part he (iv ys).toArray (j * ze) (by simpa [iv, hl2] using hle) w
    simp only [iv_chunk] at p1 p2
    have q := ih ((xs.drop (j * ze)).take ze) ((ys.drop (j * ze)).take ze) (by simp; omega) (fst_chunk hk _ _) w
    have r := eqItems_flat he ih xs ys hk w k (j + 1) (by rw [← hl]; congr 1; omega)
    simp only [List.range'_succ, Op.eqItems, Sem.run_bind, p1, p2, Result.andThen_ok, q]
    rw [show (j + 1) * ze = j * ze + ze from by rw [Nat.add_mul]; omega] at r
    by_cases hc : (xs.drop (j * ze)).take ze = (ys.drop (j * ze)).take ze
    · simp only [hc, decide_true, Bool.not_true, Bool.false_eq_true, if_false]
      rw [r]
      congr 1
      rw [decide_eq_decide, drop_chunk xs ys (j * ze) ze]
      simp [hc]
    · simp only [hc, decide_false, Bool.not_false, if_true, Sem.run_pure]
      congr 1
      have : ¬ xs.drop (j * ze) = ys.drop (j * ze) := fun h => hc (by rw [h])
      simp [this]
theorem eqFields_flat {d : Nat} {F : TypeId → Option Nat} (ih : ∀ t z, F t = some z → (∃ m, flatT P m t = some z) ∧ EqFlat P d t z) (xs ys : List (IntKind × Int)) (hk : ys.map (·.1) = xs.map (·.1)) (w : World) :
    ∀ (fs : List Field) (off z : Nat), flatFs F fs off = some z → z = xs.length → (Op.eqFields d (iv xs).toArray (iv ys).toArray fs).run P w = .ok (decide (xs.drop off = ys.drop off)) w
  | [], off, z, h, hz => by
    simp [flatFs] at h; subst h; subst hz
    have hl2 : ys.length = xs.length := by simpa using congrArg List.length hk
    have e2 : ys.drop xs.length = [] := List.drop_eq_nil_of_le (by omega)
    simp [Op.eqFields, e2]
  | f :: fs, off, z, h, hz => by
    simp only [flatFs] at h
    split at h <;> try (simp at h; done)
    rename_i hn
    split at h <;> try (simp at h; done)
    rename_i zf hf
    obtain ⟨⟨m, hm⟩, hq⟩ := ih _ _ hf
    have hge : ∀ (fs : List Field) (off z : Nat), flatFs F fs off = some z → off ≤ z := by
      intro fs
      induction fs with
      | nil => intro off z h; simp [flatFs] at h; omega
      | cons f fs ihf =>
        intro off z h
        simp only [flatFs] at h
        split at h <;> try (simp at h; done)
        split at h <;> try (simp at h; done)
        have := ihf _ _ h; omega
    have hle := hge _ _ _ h
    have hl2 : ys.length = xs.length := by simpa using congrArg List.length hk
    have p1 := flat_part hm (iv xs).toArray off (by simp [iv]; omega) w
    have p2 := flat_part hm (iv ys).toArray off (by simp [iv]; omega) w
    simp only [iv_chunk] at p1 p2
    have q := hq ((xs.drop off).take zf) ((ys.drop off).take zf) (by simp; omega) (fst_chunk hk _ _) w
    have r := eqFields_flat ih xs ys hk w fs (off + zf) z h hz
    simp only [Op.eqFields, hn.1, ne_eq, not_false_eq_true, if_true, hn.2, Sem.run_bind, p1, p2, Result.andThen_ok, q]
    by_cases hc : (xs.drop off).take zf = (ys.drop off).take zf
    · simp only [hc, decide_true, Bool.not_true, Bool.false_eq_true, if_false]
      rw [r]
      congr 1
      rw [decide_eq_decide, drop_chunk xs ys off zf]
      simp [hc]
    · simp only [hc, decide_false, Bool.not_false, if_true, Sem.run_pure]
      congr 1
      have : ¬ xs.drop off = ys.drop off := fun h => hc (by rw [h])
      simp [this]
theorem flat_eq : ∀ (m : Nat) {t : TypeId} {z : Nat}, flatT P m t = some z → ∀ d, m ≤ d → EqFlat P d t z
  | 0, t, z, h, d, hd => by simp [flatT] at h
  | m + 1, t, z, h, 0, hd => by omega
  | m + 1, t, z, h, d + 1, hd => by
    intro xs ys hx hy w
    have hl2 : ys.length = xs.length := by simpa using congrArg List.length hy
    unfold flatT at h
    split at h
    · rename_i k z' hu hz
      split at h <;> simp at h
      subst h; rename_i e; subst e
      have ht : tagg P t = some false := by simp [tagg, hu]
      match xs, ys, hx, hl2, hy with
      | [(k1, a)], [(k2, b)], _, _, hy =>
        simp at hy; subst hy
        simp only [pk, ht, iv, List.map_cons, List.map_nil, List.headD_cons]
        simp only [Op.equalIn, Sem.run_bind, run_underlying hu, Result.andThen_ok, if_true, Sem.run_pure]
        congr 1
        by_cases hab : a = b
        · subst hab; simp
        · simp [hab]
    · rename_i n e z' hu hz
      split at h <;> try (simp at h; done)
      rename_i ze he
      split at h <;> simp at h
      subst h; rename_i hn
      have ht : tagg P t = some true := by simp [tagg, hu]
      obtain ⟨i, hi, hsz⟩ := tsz_info (flat_size he)
      simp only [pk, ht]
      rw [run_equalIn_array w d _ _ hu hi]
      have hce : P.cellsOf e = ze := by simp [Program.cellsOf, hi, hsz]
      rw [hce, List.range_eq_range']
      have := eqItems_flat he (flat_eq m he d (by omega)) xs ys hy w n 0 (by rw [Nat.zero_add, hx]; exact hn)
      simpa using this
    · rename_i fs z' hu hz
      split at h <;> try (simp at h; done)
      rename_i hst
      split at h <;> try (simp at h; done)
      rename_i z2 hfs
      split at h <;> simp at h
      subst h; rename_i e; subst e
      have ht : tagg P t = some true := by simp [tagg, hu]
      have hfo : P.fieldsOf t = fs := by simp [Program.fieldsOf, hu]
      simp only [pk, ht]
      rw [run_equalIn_struct w d t _ _ (by rw [hfo]; exact hu) (by simpa using hst), hfo]
      have := eqFields_flat (P := P) (d := d) (fun t z hz => ⟨⟨m, hz⟩, flat_eq m hz d (by omega)⟩) xs ys hy w fs.toList 0 _ hfs hx.symm
      simpa using this
    · simp at h
/-- The test of a key of such a type. -/
def ChkFlat (P : Program) (d : Nat) (t : TypeId) (z : Nat) : Prop := ∀ (xs : List (IntKind × Int)) (b : Bool), xs.length = z → ∀ w, (Instr.checkKey b d t (pk P t (iv xs))).run P w = .ok () w
theorem flat_check : ∀ (m : Nat) {t : TypeId} {z : Nat}, flatT P m t = some z → ∀ d, m ≤ d → ChkFlat P d t z
  | 0, t, z, h, d, hd => by simp [flatT] at h
  | m + 1, t, z, h, 0, hd => by omega
  | m + 1, t, z, h, d + 1, hd => by
    intro xs b hx w
    unfold flatT at h
    split at h
    · rename_i k z' hu hz
      simp [Instr.checkKey, run_underlying hu]
    · rename_i n e z' hu hz
      split at h <;> try (simp at h; done)
      rename_i ze he
      split at h <;> simp at h
      subst h; rename_i hn
      have ht : tagg P t = some true := by simp [tagg, hu]
      simp only [pk, ht, Instr.checkKey, Sem.run_bind, run_underlying hu, Result.andThen_ok]
      simp only [Std.Legacy.Range.forIn_eq_forIn_range', Std.Legacy.Range.size, Nat.sub_zero, Nat.add_one_sub_one, Nat.div_one]
      have key : ∀ (k j : Nat), (j + k) * ze = xs.length → (forIn (List.range' j k) PUnit.unit fun i _ => (do Instr.checkKey b d e (← part e (iv xs).toArray (i * (← sizeOf e))); pure (ForInStep.yield PUnit.unit) : Sem (ForInStep PUnit))).run P w = .ok PUnit.unit w := by
        intro k
        induction k with
        | zero => intro j hj; simp
        | succ k ihk =>
          intro j hj
          have hle : j * ze + ze ≤ xs.length := by
            rw [← hj]; have : (j + (k + 1)) * ze = j * ze + ze + k * ze := by rw [Nat.add_mul, Nat.add_mul]; omega
            omega
          have p1 := flat_part he (iv xs).toArray (j * ze) (by simpa [iv] using hle) w
          simp only [iv_chunk] at p1
          have q := flat_check m he d (by omega) ((xs.drop (j * ze)).take ze) b (by simp; omega) w
          have r := ihk (j + 1) (by rw [← hj]; congr 1; omega)
          simp only [List.range'_succ, List.forIn_cons, Sem.run_bind, tsz_run (flat_size he), Result.andThen_ok, p1, q, Sem.run_pure]
          exact r
      have := key n 0 (by rw [Nat.zero_add, hx]; exact hn)
      simp only [bind_pure_comp, map_pure] at this ⊢
      rw [this]; rfl
    · rename_i fs z' hu hz
      split at h <;> try (simp at h; done)
      rename_i hst
      split at h <;> try (simp at h; done)
      rename_i z2 hfs
      split at h <;> simp at h
      subst h; rename_i e; subst e
      have ht : tagg P t = some true := by simp [tagg, hu]
      simp only [pk, ht, Instr.checkKey, Sem.run_bind, run_underlying hu, Result.andThen_ok]
      rw [← Array.forIn_toList]
      have hge : ∀ (fs : List Field) (off z : Nat), flatFs (flatT P m) fs off = some z → off ≤ z := by
        intro fs
        induction fs with
        | nil => intro off z h; simp [flatFs] at h; omega
        | cons f fs ihf =>
          intro off z h
          simp only [flatFs] at h
          split at h <;> try (simp at h; done)
          split at h <;> try (simp at h; done)
          have := ihf _ _ h; omega
      clear hu hz hst
      revert hfs
      generalize fs.toList = L
      generalize 0 = off
      intro hfs
      induction L generalizing off with
      | nil => simp
      | cons f L ihL =>
        simp only [flatFs] at hfs
        split at hfs <;> try (simp at hfs; done)
        rename_i hn
        split at hfs <;> try (simp at hfs; done)
        rename_i zf hf
        have hle := hge _ _ _ hfs
        have p1 := flat_part hf (iv xs).toArray off (by simp [iv]; omega) w
        simp only [iv_chunk] at p1
        have q := flat_check m hf d (by omega) ((xs.drop off).take zf) b (by simp; omega) w
        have r := ihL _ hfs
        simp only [List.forIn_cons, Sem.run_bind, hn.1, ne_eq, not_false_eq_true, if_true, hn.2, p1, Result.andThen_ok, q, Sem.run_pure] at r ⊢
        exact r
    · simp at h
end flat

def aSame (d : TypeDesc) (x y : AV) : Option Bool :=
  match d with
  | .int _ => match x, y with | .int k a, .int k' b => if k = k' then some (a == b) else none | _, _ => none
  | .string => match x, y with | .str a, .str b => some (a == b) | _, _ => none
  | .array n _ => match x, y with | .agg xs, .agg ys => (match fitI n xs, fitI n ys with | true, true => sameI xs ys | _, _ => none) | _, _ => none
  | _ => none

def aFind (d : TypeDesc) (k : AV) : List (AV × AV × Nat) → Nat → Option (Option (Nat × AV))
  | [], _ => match kfit d k with | true => some none | false => none
  | (k', v, _) :: es, i =>
    match aSame d k k' with
    | some true => some (some (i, v))
    | some false => aFind d k es (i + 1)
    | none => none

def mset (k v : AV) : Nat → List (AV × AV × Nat) → List (AV × AV × Nat)
  | _, [] => []
  | 0, (_, _, n) :: es => (k, v, n) :: es
  | i + 1, e :: es => e :: mset k v i es

/-- What stands in a map. -/
def mapEs (H : AHeap) (m : AV) : Option (List (AV × AV × Nat)) :=
  match m with
  | .nmap => some []
  | .map b => match mapObj H b with | some (es, _) => some es | none => none
  | _ => none

def keyDesc (P : Program) (t : TypeId) : Option (TypeDesc × TypeId) :=
  match P.underlying t with
  | some (.map kt e) => match P.underlying kt with
    | some (.int k) => some (.int k, e)
    | some .string => some (.string, e)
    | some (.struct _) => match flatT P 6 kt with | some n => some (.array n kt, e) | none => none
    | some (.array _ _) => match flatT P 6 kt with | some n => some (.array n kt, e) | none => none
    | _ => none
  | _ => none

def aLookup (P : Program) (t : TypeId) (m k : AV) (ok : Bool) (H : AHeap) : Option AV :=
  match keyDesc P t with
  | some (d, e) => match mapEs H m with
    | some es => match aFind d k es 0 with
      | some (some (_, v)) => some (if ok then .tuple [v, .bool true] else v)
      | some none => match tzero P e with
        | some z => some (if ok then .tuple [z, .bool false] else z)
        | none => none
      | none => none
    | none => none
  | none => none

def aMapSet (P : Program) (t : TypeId) (m k v : AV) (H : AHeap) : Option AHeap :=
  match keyDesc P t with
  | some (d, _) => match m with
    | .map b => match H[b]? with
      | some o => match o.alive, o.body with
        | true, .map es clock => match aFind d k es 0 with
          | some (some (i, _)) => some ((wkil b o.fam H).set b { o with body := .map (mset k v i es) clock })
          | some none => some ((wkil b o.fam H).set b { o with body := .map (es ++ [(k, v, clock)]) (clock + 1) })
          | none => none
        | _, _ => none
      | none => none
    | _ => none
  | none => none

def aCopy (P : Program) (t : TypeId) (dst src : AV) (H : AHeap) : Option (AV × AHeap) :=
  match P.underlying t with
  | some (.slice e) => match tsz P e with
    | some z => match xcells H z src with
      | some (n, xs) => match dst with
        | .nslice => some (.int .i64 0, H)
        | .slice b off len _ z' =>
          if z' = z then
            if Nat.min n len = 0 then some (.int .i64 0, H) else
            match tk (Nat.min n len * z) xs with
            | some cs => match wr H (.ptr b off) cs with
              | some H' => some (.int .i64 (Nat.min n len), H')
              | none => none
            | none => none
          else none
        | _ => none
      | none => none
    | none => none
  | _ => none

section eff
variable {P : Program} {sn : Snap} {ι : IMap} {H : AHeap} {W : World}

theorem bytes_eq {a b : ByteArray} (h : a.data.toList = b.data.toList) : a = b := by
  apply ByteArray.ext; apply Array.ext'; exact h

theorem fitI_spec : ∀ {n : Nat} {l : List AV}, fitI n l = true → ∃ xs : List (IntKind × Int), xs.length = n ∧ l = xs.map fun p => .int p.1 p.2
  | 0, [], _ => ⟨[], rfl, rfl⟩
  | 0, _ :: _, h => by simp [fitI] at h
  | n + 1, [], h => by simp [fitI] at h
  | n + 1, c :: l, h => by
    cases c <;> simp only [fitI] at h <;> try (cases h; done)
    rename_i k a
    obtain ⟨xs, h1, h2⟩ := fitI_spec h
    exact ⟨(k, a) :: xs, by simp [h1], by simp [h2]⟩
theorem LR_ints : ∀ {xs : List (IntKind × Int)} {l : List Value}, LR sn ι (xs.map fun p => AV.int p.1 p.2) l → l = iv xs
  | [], l, h => by simp [LR] at h; subst h; rfl
  | p :: xs, l, h => by
    simp only [List.map_cons, LR] at h
    obtain ⟨d, ds, rfl, h1, h2⟩ := h
    rw [h1.int, LR_ints h2]; rfl
theorem sameI_spec : ∀ {xs ys : List (IntKind × Int)} {r : Bool}, sameI (xs.map fun p => .int p.1 p.2) (ys.map fun p => .int p.1 p.2) = some r → ys.map (·.1) = xs.map (·.1) ∧ r = decide (xs = ys)
  | [], [], r, h => by simp [sameI] at h; subst h; simp
  | [], _ :: _, r, h => by simp [sameI] at h
  | _ :: _, [], r, h => by simp [sameI] at h
  | (k, a) :: xs, (k', b) :: ys, r, h => by
    simp only [List.map_cons, sameI] at h
    split at h <;> try (simp at h; done)
    rename_i hk
    subst hk
    split at h <;> simp at h
    subst h
    rename_i r' hr
    obtain ⟨h1, h2⟩ := sameI_spec hr
    refine ⟨by simp [h1], ?_⟩
    rw [h2]
    by_cases hab : a = b
    · subst hab; simp
    · simp [hab]
/-- A key of ours, as the model has it. -/
theorem fit_value {kt : TypeId} {n : Nat} (ht : tagg P kt = some true) {k : AV} (hf : kfit (.array n kt) k = true) {k' : Value} (hk : VR sn ι k k') : ∃ xs : List (IntKind × Int), xs.length = n ∧ k = .agg (xs.map fun p => .int p.1 p.2) ∧ k' = pk P kt (iv xs) := by
  simp only [kfit] at hf
  split at hf <;> try (cases hf; done)
  obtain ⟨xs, h1, rfl⟩ := fitI_spec hf
  obtain ⟨d, rfl, h2⟩ := hk.agg
  have := LR_ints h2
  refine ⟨xs, h1, rfl, ?_⟩
  simp only [pk, ht]
  congr 1
  apply Array.ext'; simp [this]
theorem sameBits_ints : ∀ (n : Nat) (xs : List (IntKind × Int)), ((iv xs).zip (iv xs)).all (fun (x, y) => Instr.sameBits n x y) = true
  | n, [] => by simp [iv]
  | n, p :: xs => by
    have := sameBits_ints n xs
    simp only [iv, List.map_cons, List.zip_cons_cons, List.all_cons, Bool.and_eq_true] at this ⊢
    exact ⟨by simp [Instr.sameBits], this⟩
theorem sameBits_pk {kt : TypeId} (ht : tagg P kt = some true) (xs : List (IntKind × Int)) : Instr.sameBits 10000 (pk P kt (iv xs)) (pk P kt (iv xs)) = true := by
  simp only [pk, ht, Instr.sameBits, beq_self_eq_true, Bool.true_and]
  exact sameBits_ints _ xs
/-- What a map's keys are. -/
def KD (P : Program) (kt : TypeId) (d : TypeDesc) : Prop := (P.underlying kt = some d ∧ ((∃ k, d = .int k) ∨ d = .string)) ∨ (∃ n, d = .array n kt ∧ flatT P 6 kt = some n ∧ tagg P kt = some true)
theorem aSame_sound {d : TypeDesc} (hd : (∃ k, d = .int k) ∨ d = .string) {x y : AV} {r : Bool} (h : aSame d x y = some r) {x' y' : Value} (hx : VR sn ι x x') (hy : VR sn ι y y') :
    Instr.sameNow d x' y' = some r ∧ (r = true → Instr.sameBits 10000 y' x' = true) := by
  rcases hd with ⟨kk, rfl⟩ | rfl
  · simp only [aSame] at h
    split at h <;> try (simp at h; done)
    split at h <;> simp at h
    subst h; rename_i hk; subst hk
    cases hx.int; cases hy.int
    refine ⟨by simp [Instr.sameNow], fun hr => ?_⟩
    simp at hr; subst hr; simp [Instr.sameBits]
  · simp only [aSame] at h
    split at h <;> simp at h
    subst h
    obtain ⟨a, rfl, rfl⟩ := hx.str; obtain ⟨b, rfl, rfl⟩ := hy.str
    have e : (a == b) = (a.data.toList == b.data.toList) := by rw [beq_toListBytes, ByteArray.toList_eq, ByteArray.toList_eq]
    refine ⟨by simp only [Instr.sameNow, e], fun hr => ?_⟩
    have := bytes_eq (by simpa using hr); subst this
    simp only [Instr.sameBits]; rw [e]; exact hr
theorem aSame_flat {n : Nat} {kt : TypeId} (hf : flatT P 6 kt = some n) (ht : tagg P kt = some true) {x y : AV} {r : Bool} (h : aSame (.array n kt) x y = some r) {x' y' : Value} (hx : VR sn ι x x') (hy : VR sn ι y y') :
    (∀ w, (Op.equal kt x' y').run P w = .ok r w) ∧ (r = true → Instr.sameBits 10000 y' x' = true) ∧ kfit (.array n kt) x = true := by
  simp only [aSame] at h
  split at h <;> try (simp at h; done)
  rename_i xs ys
  split at h <;> try (simp at h; done)
  rename_i e1 e2
  have k1 : kfit (.array n kt) (.agg xs) = true := e1
  have k2 : kfit (.array n kt) (.agg ys) = true := e2
  obtain ⟨as1, l1, a1, rfl⟩ := fit_value (P := P) ht k1 hx
  obtain ⟨bs, l2, a2, rfl⟩ := fit_value (P := P) ht k2 hy
  simp only [AV.agg.injEq] at a1 a2
  subst a1; subst a2
  obtain ⟨h1, h2⟩ := sameI_spec h
  refine ⟨fun w => by rw [h2]; exact flat_eq 6 hf 10000 (by omega) as1 bs l1 h1 w, fun hr => ?_, k1⟩
  subst hr
  have : as1 = bs := by simpa using h2.symm
  subst this
  exact sameBits_pk ht as1

theorem ER_get {sn : Snap} {ι : IMap} : ∀ {es : List (AV × AV × Nat)} {l : List MapEntry}, ER sn ι es l → ∀ {i : Nat} {e : AV × AV × Nat}, es[i]? = some e → ∃ x, l[i]? = some x ∧ VR sn ι e.1 x.key ∧ VR sn ι e.2.1 x.val ∧ x.born = e.2.2
  | [], l, h, i, e, he => by simp at he
  | (k, v, n) :: es, l, h, i, e, he => by
    simp only [ER] at h; obtain ⟨x, l', rfl, h1, h2, h3, h4⟩ := h
    cases i with
    | zero => simp at he; subst he; exact ⟨x, rfl, h1, h2, h3⟩
    | succ i => simp at he; simpa using ER_get h4 he

open Classical in
/-- What the search for a key finds. -/
def Finds (P : Program) (kt : TypeId) (d : TypeDesc) (k : Value) (l : List MapEntry) (i : Nat) (r : Option (Nat × Value)) : Prop :=
  if (∃ n, d = .array n kt) then (∀ w, (Instr.findAsking kt k l i).run P w = .ok r w) else Instr.findNow d k l i = some r
theorem aFind_sound {kt : TypeId} {d : TypeDesc} (hd : KD P kt d) {k : AV} {k' : Value} (hk : VR sn ι k k') : ∀ (es : List (AV × AV × Nat)) (i : Nat) (r : Option (Nat × AV)), aFind d k es i = some r → ∀ (l : List MapEntry), ER sn ι es l →
    kfit d k = true ∧ match r with
    | none => Finds P kt d k' l i none
    | some (j, v) => ∃ v' x, Finds P kt d k' l i (some (j, v')) ∧ VR sn ι v v' ∧ i ≤ j ∧ l[j - i]? = some x ∧ Instr.sameBits 10000 x.key k' = true
  | [], i, r, h, l, hl => by
    simp only [aFind] at h
    split at h <;> simp at h
    subst h; rename_i hfit
    refine ⟨hfit, ?_⟩
    simp [ER] at hl; subst hl
    simp only [Finds]
    split
    · intro w; simp [Instr.findAsking]
    · simp [Instr.findNow]
  | (k2, v, n) :: es, i, r, h, l, hl => by
    simp only [ER] at hl; obtain ⟨x, l', rfl, h1, h2, h3, h4⟩ := hl
    simp only [aFind] at h
    rcases hd with ⟨hd1, hd2⟩ | ⟨m, rfl, hd1, hd2⟩
    · have hna : ¬ ∃ n, d = .array n kt := by rintro ⟨n, rfl⟩; rcases hd2 with ⟨_, e⟩ | e <;> cases e
      have hfit : kfit d k = true := by rcases hd2 with ⟨kk, rfl⟩ | rfl <;> rfl
      split at h
      · rename_i hs
        obtain ⟨e1, e2⟩ := aSame_sound hd2 hs hk h1
        simp at h; subst h
        exact ⟨hfit, x.val, x, by simp only [Finds, if_neg hna]; simp [Instr.findNow, e1], h2, Nat.le_refl _, by simp, e2 rfl⟩
      · rename_i hs
        obtain ⟨e1, _⟩ := aSame_sound hd2 hs hk h1
        have ih := (aFind_sound (.inl ⟨hd1, hd2⟩) hk es (i + 1) r h l' h4).2
        refine ⟨hfit, ?_⟩
        cases r with
        | none => simp only [Finds, if_neg hna] at ih ⊢; simpa [Instr.findNow, e1] using ih
        | some jv =>
          obtain ⟨j, v⟩ := jv
          obtain ⟨v', x', i1, i2, i3, i4, i5⟩ := ih
          refine ⟨v', x', ?_, i2, by omega, ?_, i5⟩
          · simp only [Finds, if_neg hna] at i1 ⊢; simpa [Instr.findNow, e1] using i1
          · rw [show j - i = (j - (i + 1)) + 1 from by omega]; simpa using i4
      · simp at h
    · have hya : ∃ n, TypeDesc.array m kt = .array n kt := ⟨m, rfl⟩
      split at h
      · rename_i hs
        obtain ⟨e1, e2, e3⟩ := aSame_flat hd1 hd2 hs hk h1
        simp at h; subst h
        exact ⟨e3, x.val, x, by simp only [Finds, if_pos hya]; intro w; simp [Instr.findAsking, e1], h2, Nat.le_refl _, by simp, e2 rfl⟩
      · rename_i hs
        obtain ⟨e1, _, e3⟩ := aSame_flat hd1 hd2 hs hk h1
        have ih := (aFind_sound (.inr ⟨m, rfl, hd1, hd2⟩) hk es (i + 1) r h l' h4).2
        refine ⟨e3, ?_⟩
        cases r with
        | none => simp only [Finds, if_pos hya] at ih ⊢; intro w; simp [Instr.findAsking, e1, ih]
        | some jv =>
          obtain ⟨j, v⟩ := jv
          obtain ⟨v', x', i1, i2, i3, i4, i5⟩ := ih
          refine ⟨v', x', ?_, i2, by omega, ?_, i5⟩
          · simp only [Finds, if_pos hya] at i1 ⊢; intro w; simp [Instr.findAsking, e1, i1]
          · rw [show j - i = (j - (i + 1)) + 1 from by omega]; simpa using i4
      · simp at h

theorem keyDesc_some {t : TypeId} {d : TypeDesc} {e : TypeId} (h : keyDesc P t = some (d, e)) : ∃ kt, P.underlying t = some (.map kt e) ∧ KD P kt d := by
  unfold keyDesc at h
  split at h <;> try (simp at h; done)
  rename_i kt e' ht
  split at h <;> try (simp at h; done)
  · simp at h; obtain ⟨rfl, rfl⟩ := h; exact ⟨kt, ht, .inl ⟨by assumption, .inl ⟨_, rfl⟩⟩⟩
  · simp at h; obtain ⟨rfl, rfl⟩ := h; exact ⟨kt, ht, .inl ⟨by assumption, .inr rfl⟩⟩
  · rename_i hu
    split at h <;> simp at h
    obtain ⟨rfl, rfl⟩ := h
    exact ⟨kt, ht, .inr ⟨_, rfl, by assumption, by simp [tagg, hu]⟩⟩
  · rename_i hu
    split at h <;> simp at h
    obtain ⟨rfl, rfl⟩ := h
    exact ⟨kt, ht, .inr ⟨_, rfl, by assumption, by simp [tagg, hu]⟩⟩

theorem run_checkKey {kt : TypeId} {d : TypeDesc} (hd : KD P kt d) {k : AV} (hf : kfit d k = true) {v : Value} (hk : VR sn ι k v) (b : Bool) (w : World) : (Instr.checkKey b 10000 kt v).run P w = .ok () w := by
  rcases hd with ⟨hd, h⟩ | ⟨n, rfl, h1, h2⟩
  · have key : ∀ n, (Instr.checkKey b (n + 1) kt v).run P w = .ok () w := fun n => by
      rcases h with ⟨k, rfl⟩ | rfl <;> simp [Instr.checkKey, run_underlying hd]
    exact key 9999
  · obtain ⟨xs, l1, _, rfl⟩ := fit_value (P := P) h2 hf hk
    exact flat_check 6 h1 10000 (by omega) xs b l1 w

theorem run_findKey {kt : TypeId} {d : TypeDesc} (hd : KD P kt d) {k : Value} {es : List MapEntry} {r : Option (Nat × Value)} (h : Finds P kt d k es 0 r) (w : World) : (Instr.findKey kt k es).run P w = .ok r w := by
  rcases hd with ⟨hd, h2⟩ | ⟨n, rfl, h1, h2⟩
  · have hna : ¬ ∃ n, d = .array n kt := by rintro ⟨n, rfl⟩; rcases h2 with ⟨_, e⟩ | e <;> cases e
    simp only [Finds, if_neg hna] at h
    simp [Instr.findKey, run_underlying hd, h]
  · simp only [Finds, if_pos (⟨n, rfl⟩ : ∃ m, TypeDesc.array n kt = .array m kt)] at h
    have hu : ∃ d, P.underlying kt = some d ∧ ∀ x y, Instr.sameNow d x y = none := by
      unfold tagg at h2
      split at h2
      · exact ⟨_, by assumption, fun x y => by simp [Instr.sameNow]⟩
      · exact ⟨_, by assumption, fun x y => by simp [Instr.sameNow]⟩
      · simp at h2
      · simp at h2
    obtain ⟨d, hu, hs⟩ := hu
    cases es with
    | nil =>
      have := h w
      simp [Instr.findAsking] at this
      subst this
      simp [Instr.findKey, run_underlying hu, Instr.findNow]
    | cons x es => simp [Instr.findKey, run_underlying hu, Instr.findNow, hs, h]

theorem aLookup_sound (hR : RO sn ι H W) {t : TypeId} {m k u : AV} {ok : Bool} (h : aLookup P t m k ok H = some u) {m' k' : Value} (hm : VR sn ι m m') (hk : VR sn ι k k') :
    ∃ z, (Instr.lookup t m' k' ok).run P W = .ok z W ∧ VR sn ι u z := by
  unfold aLookup at h
  split at h <;> try (simp at h; done)
  rename_i d e hd
  obtain ⟨kt, ht, hkd⟩ := keyDesc_some hd
  split at h <;> try (simp at h; done)
  rename_i es hes
  -- the entries
  have hent : ∃ mes : Array MapEntry, ER sn ι es mes.toList ∧ ((m' = .map none ∧ mes = #[]) ∨ ∃ r clock, m' = .map (some r) ∧ W.heap[r]? = some (.map mes clock)) := by
    unfold mapEs at hes
    split at hes
    · simp at hes; subst hes; exact ⟨#[], by simp [ER], .inl ⟨hm.nmap, rfl⟩⟩
    · split at hes <;> simp at hes
      subst hes; rename_i clock hmo
      obtain ⟨o, p, mes, _, _, _, hp, hw, he⟩ := mapObj_sound hR hmo
      obtain ⟨q, hq, rfl⟩ := hm.map
      rw [hp] at hq; simp at hq; subst hq
      exact ⟨mes, he, .inr ⟨_, _, rfl, hw⟩⟩
    · simp at hes
  obtain ⟨mes, he, hcase⟩ := hent
  have fin : ∀ (v : AV) (v' : Value) (b : Bool), VR sn ι v v' → VR sn ι (if ok then .tuple [v, .bool b] else v) (if ok then .tuple #[v', .bool b] else v') := by
    intro v v' b hv
    split
    · exact vr_tuple (by simp only [LR]; exact ⟨_, _, rfl, hv, _, _, rfl, vr_bool b, rfl⟩)
    · exact hv
  split at h
  · rename_i i v hf
    simp at h; subst h
    obtain ⟨f0, v', x, f1, f2, _⟩ := aFind_sound (P := P) hkd hk es 0 _ hf _ he
    have hck := fun b w => run_checkKey (P := P) hkd f0 hk b w
    refine ⟨_, ?_, fin v v' true f2⟩
    rcases hcase with ⟨rfl, rfl⟩ | ⟨r, clock, rfl, hw⟩
    · have hes0 : es = [] := by
        cases es with
        | nil => rfl
        | cons e es => obtain ⟨k1, v1, n1⟩ := e; simp only [ER] at he; obtain ⟨_, _, h0, _⟩ := he; simp at h0
      subst hes0
      simp only [aFind] at hf
      split at hf <;> simp at hf
    · simp only [Instr.lookup, Sem.run_bind, run_underlying ht, Result.andThen_ok, hck, run_findKey hkd f1, Sem.run_pure, getObj, Sem.run, hw]
  · rename_i hf
    split at h <;> simp at h
    subst h; rename_i z hz
    obtain ⟨z', h1, h2⟩ := tzero_run hz
    have f01 := aFind_sound (P := P) hkd hk es 0 _ hf _ he
    have hck := fun b w => run_checkKey (P := P) hkd f01.1 hk b w
    have f1 : Finds P kt d k' mes.toList 0 none := f01.2
    refine ⟨_, ?_, fin z z' false (h2 sn ι)⟩
    rcases hcase with ⟨rfl, rfl⟩ | ⟨r, clock, rfl, hw⟩
    · simp only [Instr.lookup, Sem.run_bind, run_underlying ht, Result.andThen_ok, hck, run_findKey hkd f1, Sem.run_pure, h1]
    · simp only [Instr.lookup, Sem.run_bind, run_underlying ht, Result.andThen_ok, hck, run_findKey hkd f1, Sem.run_pure, h1, getObj, Sem.run, hw]
  · simp at h

theorem ER_mset {k v : AV} {k' v' : Value} (hk : VR sn ι k k') (hv : VR sn ι v v') : ∀ (es : List (AV × AV × Nat)) (l : List MapEntry) (i : Nat), ER sn ι es l →
    ER sn ι (mset k v i es) (l.modify i fun e => { e with key := k', val := v' })
  | [], l, i, h => by simp [ER] at h; subst h; cases i <;> simp [mset, ER]
  | (a, b, n) :: es, l, i, h => by
    simp only [ER] at h; obtain ⟨x, l', rfl, h1, h2, h3, h4⟩ := h
    cases i with
    | zero => simp only [mset, ER, List.modify_zero_cons]; exact ⟨_, _, rfl, hk, hv, h3, h4⟩
    | succ i => simp only [mset, ER, List.modify_succ_cons]; exact ⟨_, _, rfl, h1, h2, h3, ER_mset hk hv es l' i h4⟩

theorem ER_append {es : List (AV × AV × Nat)} {l : List MapEntry} (h : ER sn ι es l) {k v : AV} {x : MapEntry} (hk : VR sn ι k x.key) (hv : VR sn ι v x.val) : ER sn ι (es ++ [(k, v, x.born)]) (l ++ [x]) := by
  induction es generalizing l with
  | nil => simp [ER] at h; subst h; simp only [List.nil_append, ER]; exact ⟨x, [], rfl, hk, hv, rfl, rfl⟩
  | cons e es ih =>
    obtain ⟨a, b, n⟩ := e
    simp only [ER] at h; obtain ⟨y, l', rfl, h1, h2, h3, h4⟩ := h
    simp only [List.cons_append, ER]; exact ⟨y, _, rfl, h1, h2, h3, ih h4⟩

theorem turn_setObj {r : Nat} {ob : Obj} : Turn W { W with heap := W.heap.setIfInBounds r ob } r :=
  ⟨fun c hc => by simp [Array.getElem?_setIfInBounds, Ne.symm hc], by simp, rfl, rfl, rfl⟩

theorem aMapSet_sound (hR : R sn ι H W) {t : TypeId} {m k x : AV} {H' : AHeap} (h : aMapSet P t m k x H = some H') {m' k' x' : Value} (hm : VR sn ι m m') (hk : VR sn ι k k') (hx : VR sn ι x x') :
    ∃ W', (Instr.mapUpdate t m' k' x').run P W = .ok () W' ∧ Stp sn ι H W sn ι H' W' := by
  unfold aMapSet at h
  split at h <;> try (simp at h; done)
  rename_i d e hd
  obtain ⟨kt, ht, hkd⟩ := keyDesc_some hd
  split at h <;> try (simp at h; done)
  rename_i b
  split at h <;> try (simp at h; done)
  rename_i o ho
  split at h <;> try (simp at h; done)
  rename_i es clock hal hbd
  obtain ⟨p, hp, rfl⟩ := hm.map
  have hob := hR.obj b o p ho hal hp
  rw [hbd] at hob; simp only [OR] at hob
  obtain ⟨mes, hw, he⟩ := hob
  have hlt : p.blk < W.heap.size := hR.blk b p hp
  split at h
  · rename_i i v hf
    simp at h; subst h
    obtain ⟨f0, v', y, f1, f2, _, f4, f5⟩ := aFind_sound (P := P) hkd hk es 0 _ hf _ he
    have hck := fun b w => run_checkKey (P := P) hkd f0 hk b w
    simp only [Nat.sub_zero] at f4
    have hy : mes[i]? = some y := by rw [← Array.getElem?_toList]; exact f4
    refine ⟨{ W with heap := W.heap.setIfInBounds p.blk (.map (mes.modify i fun e => { e with key := k', val := x' }) clock) }, ?_, ?_⟩
    · simp only [Instr.mapUpdate, Sem.run_bind, run_underlying ht, Result.andThen_ok, getObj, Sem.run, hw, hck, run_findKey hkd f1, hy, Option.map_some, Option.getD_some, Instr.keyThatStays, f5, if_true, setObj]
      simp [hw]
    · refine Stp.write hR ho hal hp turn_setObj _ ?_
      refine ⟨_, by simp [Array.getElem?_setIfInBounds, hlt]; rfl, ?_⟩
      rw [Array.toList_modify]
      exact ER_mset hk hx es _ i he
  · rename_i hf
    simp at h; subst h
    have f01 := aFind_sound (P := P) hkd hk es 0 _ hf _ he
    have hck := fun b w => run_checkKey (P := P) hkd f01.1 hk b w
    have f1 : Finds P kt d k' mes.toList 0 none := f01.2
    refine ⟨{ W with heap := W.heap.setIfInBounds p.blk (.map (mes.push { key := k', val := x', born := clock }) (clock + 1)) }, ?_, ?_⟩
    · simp only [Instr.mapUpdate, Sem.run_bind, run_underlying ht, Result.andThen_ok, getObj, Sem.run, hw, hck, run_findKey hkd f1, setObj]
    · refine Stp.write hR ho hal hp turn_setObj _ ?_
      refine ⟨_, by simp [Array.getElem?_setIfInBounds, hlt]; rfl, ?_⟩
      rw [Array.toList_push]
      exact ER_append (x := { key := k', val := x', born := clock }) he hk hx
  · simp at h

theorem take_firstCells (hR : R sn ι H W) {z n m : Nat} {x : AV} {xs cs : List AV} (h : xcells H z x = some (n, xs)) (hm : m ≤ n) (hc : tk (m * z) xs = some cs) {x' : Value} (hx : VR sn ι x x') :
    ∃ news : List Value, LR sn ι cs news ∧ (Builtin.lenOf x').run P W = .ok n W ∧ (Builtin.firstCells z m x').run P W = .ok news.toArray W := by
  obtain ⟨htl, rfl⟩ := tk_some hc
  obtain ⟨news, k1, k2, k3, k4⟩ := xcells_sound (P := P) hR h hx
  refine ⟨news.take (m * z), k1.take _, k3 W, ?_⟩
  unfold xcells at h
  split at h
  · simp at h; obtain ⟨rfl, rfl⟩ := h; cases hx.nslice
    simp [LR] at k1; subst k1; simp [Builtin.firstCells]
  · split at h <;> try (simp at h; done)
    rename_i b off len cap z' hz; subst hz
    split at h <;> simp at h
    obtain ⟨rfl, rfl⟩ := h; rename_i cs hcs
    obtain ⟨p, a, cap', hp, rfl, hlc, hcc, hne⟩ := hx.slice
    obtain ⟨g, o, vs, e, h1, h2, h3⟩ := rd_sound hR.ro hcs (v := .pointer (some ⟨p.blk, p.sh + off, none⟩)) (by simp only [VR]; exact ⟨p, hp, rfl⟩)
    simp at e; obtain ⟨rfl, rfl⟩ := e
    have hfull := k4 W fun _ => rfl
    by_cases hc0 : cap' = 0
    · have h0 : len = 0 := by omega
      have hm0 : m = 0 := by omega
      subst hm0; simp [Builtin.firstCells, loadCells, loadCellsFrom]
    · obtain ⟨rfl, _⟩ := hne hc0
      rw [run_firstCells_some W z' len _ len cap' vs h2 fun j v hj => h3 j v hj] at hfull
      simp at hfull; subst hfull
      exact run_firstCells_some W z' m _ len cap' (vs.take (m * z')) (by rw [List.length_take, h2]; exact Nat.min_eq_left (Nat.mul_le_mul_right _ hm)) fun j v hj => by
        rw [List.getElem?_take] at hj; split at hj
        · exact h3 j v hj
        · simp at hj
  · split at h <;> simp at h
    obtain ⟨rfl, rfl⟩ := h
    rename_i n z' cs hz; subst hz
    rcases hx.rs with ⟨rfl, rfl, rfl⟩ | ⟨⟨b, o, sp⟩, cap, rfl, hc', hcs, hmr, hsp⟩
    · have hm0 : m = 0 := by omega
      subst hm0; simp [Builtin.firstCells]
    obtain ⟨vs, h1, h2⟩ := hmr.cells hR
    have hsp' : ∀ (j : Nat) (v : Value), vs[j]? = some v → sp = none := fun j v hj => hsp fun h0 => by
      have := (List.getElem?_eq_some_iff.1 hj).1
      rw [h1.length, hcs, h0, Nat.zero_mul] at this; omega
    have hfull := k4 W fun _ => rfl
    rw [run_firstCells_some W z' n _ n cap vs (by rw [h1.length, hcs]) fun j v hj => by cases hsp' j v hj; rw [addr_add]; exact h2 j v hj] at hfull
    simp at hfull; subst hfull
    exact run_firstCells_some W z' m _ n cap (vs.take (m * z')) (by rw [List.length_take, h1.length, hcs]; exact Nat.min_eq_left (Nat.mul_le_mul_right _ hm)) fun j v hj => by
      rw [List.getElem?_take] at hj; split at hj
      · cases hsp' j v hj; rw [addr_add]; exact h2 j v hj
      · simp at hj
  · split at h <;> simp at h
    obtain ⟨rfl, rfl⟩ := h
    rename_i s hz; subst hz
    obtain ⟨ba, rfl, rfl⟩ := hx.str
    have hfull := k4 W fun _ => rfl
    have hsz : ba.data.toList.length = ba.size := by cases ba; rfl
    simp only [Builtin.firstCells, Sem.run_pure] at hfull ⊢
    congr 1
    injection hfull with hfull _
    apply Array.ext'
    rw [Array.toList_map, Lib.extract_data, List.drop_zero, Nat.sub_zero, Nat.mul_one]
    have := congrArg Array.toList hfull
    rw [Array.toList_map, Lib.extract_data, List.drop_zero, Nat.sub_zero] at this
    simp only [List.toList_toArray] at this ⊢
    rw [← this, List.take_length, List.map_take]
  · simp at h

theorem aCopy_sound (hR : R sn ι H W) {t t2 ty : TypeId} {dst src r : AV} {H' : AHeap} (h : aCopy P t dst src H = some (r, H')) {d' s' : Value} (hd : VR sn ι dst d') (hs : VR sn ι src s') :
    ∃ v W', (Builtin.copy_ #[t, t2] ty #[d', s']).run P W = .ok v W' ∧ VR sn ι r v ∧ Stp sn ι H W sn ι H' W' := by
  unfold aCopy at h
  split at h <;> try (simp at h; done)
  rename_i e ht
  split at h <;> try (simp at h; done)
  rename_i z hz
  split at h <;> try (simp at h; done)
  rename_i n xs hxs
  have hzero : ∃ news : List Value, LR sn ι [] news ∧ (Builtin.lenOf s').run P W = .ok n W ∧ (Builtin.firstCells z 0 s').run P W = .ok news.toArray W :=
    take_firstCells hR hxs (Nat.zero_le _) (by simp [tk]) hs
  obtain ⟨nz, z1, z2, z3⟩ := hzero
  simp [LR] at z1; subst z1
  split at h
  · simp at h; obtain ⟨rfl, rfl⟩ := h
    cases hd.nslice
    refine ⟨goInt 0, W, ?_, vr_int _ _, Stp.refl hR⟩
    have : Nat.min n 0 = 0 := Nat.min_zero n
    simp [Builtin.copy_, run_underlying ht, z2, tsz_run hz, this, z3]
  · rename_i b off len cap z'
    split at h <;> try (simp at h; done)
    rename_i hzz; subst hzz
    obtain ⟨p, a, cap', hp, rfl, hlc, hcc, hne⟩ := hd.slice
    split at h
    · rename_i h0
      simp at h; obtain ⟨rfl, rfl⟩ := h
      refine ⟨goInt 0, W, ?_, vr_int _ _, Stp.refl hR⟩
      have h0' : Nat.min n len = 0 := h0
      simp [Builtin.copy_, run_underlying ht, z2, h0', tsz_run hz, z3, storeCells]
    · rename_i h0
      split at h <;> try (simp at h; done)
      rename_i cs hcs
      split at h <;> simp at h
      rename_i H1 hw
      obtain ⟨rfl, rfl⟩ := h
      have hlen0 : cap' ≠ 0 := by
        intro hc
        have : len = 0 := by omega
        subst this; exact h0 (Nat.min_zero n)
      obtain ⟨rfl, hbb⟩ := hne hlen0
      obtain ⟨news, k1, k2, k3⟩ := take_firstCells (P := P) hR hxs (Nat.min_le_left _ _) hcs hs
      obtain ⟨ad, W', e1, hst, hstp⟩ := wr_sound (P := P) hR hw (a' := .pointer (some ⟨p.blk, p.sh + off, none⟩)) (by simp only [VR]; exact ⟨p, hp, rfl⟩) k1
      simp at e1; subst e1
      refine ⟨goInt (Nat.min n len), W', ?_, vr_int _ _, hstp⟩
      simp [Builtin.copy_, run_underlying ht, k2, tsz_run hz, k3, hst]
  · simp at h

end eff
end Go.Abs

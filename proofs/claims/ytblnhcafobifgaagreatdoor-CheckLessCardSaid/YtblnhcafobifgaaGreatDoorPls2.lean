/-
  Texts of this proof, one behind the other (part 2).
-/
import Derived.Test.YtblnhcafobifgaaGreatDoorPls1
import Derived.ChangeKeysEq
import Derived.Laws.IdiomStrings
import Derived.Lib.Builder
import Derived.Lib.MakeNoZero
import Derived.Lib.UnsafeStr
import Derived.Lib.Bytealg
import Derived.TacticsIn
import Derived.OrdersIn


section

set_option linter.unusedSimpArgs false
set_option linter.unusedVariables false
namespace Go.Abs
open Go.RowKit
def flatFs (f : TypeId → Option Nat) : List Field → Nat → Option Nat
  | [], off => some off
  | fl :: fs, off => if fl.name ≠ "_" ∧ fl.offset = off then (match f fl.type with | some z => flatFs f fs (off + z) | none => none) else none
def flatT (P : Program) : Nat → TypeId → Option Nat
  | 0, _ => none
  | d + 1, t => match P.underlying t, tsz P t with
    | some (.int _), some z => if z = 1 then some z else none
    | some (.array n e), some z => match flatT P d e with | some ze => if n * ze = z then some z else none | none => none
    | some (.struct fs), some z => if P.stoodInHeld t = true then none else match flatFs (flatT P d) fs.toList 0 with | some z' => if z' = z then some z else none | none => none
    | _, _ => none
def iv (l : List (IntKind × Int)) : List Value := l.map fun p => .int p.1 p.2
def pk (P : Program) (t : TypeId) (cs : List Value) : Value := match tagg P t with | some true => .agg cs.toArray | _ => cs.headD undef
def sameI : List AV → List AV → Option Bool
  | [], [] => some true
  | .int k a :: xs, .int k' b :: ys => if k = k' then (match sameI xs ys with | some r => some ((a == b) && r) | none => none) else none
  | _, _ => none
def fitI : Nat → List AV → Bool
  | 0, [] => true
  | n + 1, .int _ _ :: xs => fitI n xs
  | _, _ => false
def kfit (d : TypeDesc) (k : AV) : Bool := match d with
  | .array n _ => (match k with | .agg xs => fitI n xs | _ => false)
  | _ => true
section flat
variable {P : Program}
theorem flat_size : ∀ {d : Nat} {t : TypeId} {z : Nat}, flatT P d t = some z → tsz P t = some z
  | 0, t, z, h => by simp [flatT] at h
  | d + 1, t, z, h => by
    unfold flatT at h
    split at h
    · rename_i hz; split at h <;> simp at h; subst h; exact hz
    · rename_i hz; split at h <;> try (simp at h; done)
      split at h <;> simp at h; subst h; exact hz
    · rename_i hz; split at h <;> try (simp at h; done)
      split at h <;> try (simp at h; done)
      split at h <;> simp at h; subst h; exact hz
    · simp at h
theorem flat_tagg {d : Nat} {t : TypeId} {z : Nat} (h : flatT P (d + 1) t = some z) : ((∃ k, P.underlying t = some (.int k)) ∧ tagg P t = some false ∧ z = 1) ∨ (((∃ n e, P.underlying t = some (.array n e)) ∨ ∃ fs, P.underlying t = some (.struct fs)) ∧ tagg P t = some true) := by
  unfold flatT at h
  split at h
  · rename_i k z' hu hz; left; split at h <;> simp at h; subst h; rename_i e; exact ⟨⟨k, hu⟩, by simp [tagg, hu], e⟩
  · rename_i n e z' hu hz; right; exact ⟨.inl ⟨n, e, hu⟩, by simp [tagg, hu]⟩
  · rename_i fs z' hu hz; right; exact ⟨.inr ⟨fs, hu⟩, by simp [tagg, hu]⟩
  · simp at h
theorem flat_part {d : Nat} {t : TypeId} {z : Nat} (h : flatT P d t = some z) (arr : Array Value) (off : Nat) (hl : off + z ≤ arr.size) (w : World) :
    (part t arr off).run P w = .ok (pk P t ((arr.toList.drop off).take z)) w := by
  cases d with
  | zero => simp [flatT] at h
  | succ d =>
    have hsz := flat_size h
    rcases flat_tagg h with ⟨_, ht, rfl⟩ | ⟨_, ht⟩
    · have hlt : off < arr.size := by omega
      have e1 : arr[off]? = some arr[off] := Array.getElem?_eq_getElem hlt
      simp only [part, Sem.run_bind, tagg_run ht, Result.andThen_ok, Bool.false_eq_true, if_false, e1, Sem.run_pure, pk, ht]
      congr 1
      have : (arr.toList.drop off).take 1 = [arr[off]] := by
        rw [List.drop_eq_getElem_cons (by simpa using hlt)]; simp
      rw [this]; rfl
    · simp only [part, Sem.run_bind, tagg_run ht, Result.andThen_ok, if_true, tsz_run hsz, Sem.run_pure, pk, ht]
      congr 2
      apply Array.ext'
      simp [List.extract_eq_take_drop, Nat.add_sub_cancel_left]
theorem drop_chunk {α : Type} [DecidableEq α] (xs ys : List α) (off z : Nat) : (xs.drop off = ys.drop off) ↔ ((xs.drop off).take z = (ys.drop off).take z ∧ xs.drop (off + z) = ys.drop (off + z)) := by
  constructor
  · intro h; exact ⟨by rw [h], by rw [← List.drop_drop, ← List.drop_drop, h]⟩
  · rintro ⟨h1, h2⟩
    rw [← List.take_append_drop z (xs.drop off), ← List.take_append_drop z (ys.drop off), List.drop_drop, List.drop_drop, h1, h2]
theorem iv_chunk (xs : List (IntKind × Int)) (off z : Nat) : ((iv xs).drop off).take z = iv ((xs.drop off).take z) := by
  simp only [iv, List.map_drop, List.map_take]
theorem fst_chunk {xs ys : List (IntKind × Int)} (h : ys.map (·.1) = xs.map (·.1)) (off z : Nat) : ((ys.drop off).take z).map (·.1) = ((xs.drop off).take z).map (·.1) := by
  rw [List.map_take, List.map_drop, h, ← List.map_drop, ← List.map_take]
def EqFlat (P : Program) (d : Nat) (t : TypeId) (z : Nat) : Prop := ∀ xs ys : List (IntKind × Int), xs.length = z → ys.map (·.1) = xs.map (·.1) → ∀ w, (Op.equalIn d t (pk P t (iv xs)) (pk P t (iv ys))).run P w = .ok (decide (xs = ys)) w
theorem eqItems_flat {m d : Nat} {e : TypeId} {ze : Nat} (he : flatT P m e = some ze) (ih : EqFlat P d e ze) (xs ys : List (IntKind × Int)) (hk : ys.map (·.1) = xs.map (·.1)) (w : World) :
    ∀ (k j : Nat), (j + k) * ze = xs.length → (Op.eqItems d e ze (iv xs).toArray (iv ys).toArray (List.range' j k)).run P w = .ok (decide (xs.drop (j * ze) = ys.drop (j * ze))) w
  | 0, j, hl => by
    have hl2 : ys.length = xs.length := by simpa using congrArg List.length hk
    have e1 : xs.drop (j * ze) = [] := List.drop_eq_nil_of_le (by rw [← hl]; simp)
    have e2 : ys.drop (j * ze) = [] := List.drop_eq_nil_of_le (by rw [hl2, ← hl]; simp)
    simp [Op.eqItems, e1, e2]
  | k + 1, j, hl => by
    have hl2 : ys.length = xs.length := by simpa using congrArg List.length hk
    have hle : j * ze + ze ≤ xs.length := by
      rw [← hl]; have : (j + (k + 1)) * ze = j * ze + ze + k * ze := by rw [Nat.add_mul, Nat.add_mul]; omega
      omega
    have p1 := flat_part he (iv xs).toArray (j * ze) (by simpa [iv] using hle) w
    have p2 := flat_part he (iv ys).toArray (j * ze) (by simpa [iv, hl2] using hle) w
    simp only [iv_chunk] at p1 p2
    have q := ih ((xs.drop (j * ze)).take ze) ((ys.drop (j * ze)).take ze) (by simp; omega) (fst_chunk hk _ _) w
    have r := eqItems_flat he ih xs ys hk w k (j + 1) (by rw [← hl]; congr 1; omega)
    simp only [List.range'_succ, Op.eqItems, Sem.run_bind, p1, p2, Result.andThen_ok, q]
    rw [show (j + 1) * ze = j * ze + ze from by rw [Nat.add_mul]; omega] at r
    by_cases hc : (xs.drop (j * ze)).take ze = (ys.drop (j * ze)).take ze
    · simp only [hc, decide_true, Bool.not_true, Bool.false_eq_true, if_false]
      rw [r]
      congr 1
      rw [decide_eq_decide, drop_chunk xs ys (j * ze) ze]
      simp [hc]
    · simp only [hc, decide_false, Bool.not_false, if_true, Sem.run_pure]
      congr 1
      have : ¬ xs.drop (j * ze) = ys.drop (j * ze) := fun h => hc (by rw [h])
      simp [this]
theorem eqFields_flat {d : Nat} {F : TypeId → Option Nat} (ih : ∀ t z, F t = some z → (∃ m, flatT P m t = some z) ∧ EqFlat P d t z) (xs ys : List (IntKind × Int)) (hk : ys.map (·.1) = xs.map (·.1)) (w : World) :
    ∀ (fs : List Field) (off z : Nat), flatFs F fs off = some z → z = xs.length → (Op.eqFields d (iv xs).toArray (iv ys).toArray fs).run P w = .ok (decide (xs.drop off = ys.drop off)) w
  | [], off, z, h, hz => by
    simp [flatFs] at h; subst h; subst hz
    have hl2 : ys.length = xs.length := by simpa using congrArg List.length hk
    have e2 : ys.drop xs.length = [] := List.drop_eq_nil_of_le (by omega)
    simp [Op.eqFields, e2]
  | f :: fs, off, z, h, hz => by
    simp only [flatFs] at h
    split at h <;> try (simp at h; done)
    rename_i hn
    split at h <;> try (simp at h; done)
    rename_i zf hf
    obtain ⟨⟨m, hm⟩, hq⟩ := ih _ _ hf
    have hge : ∀ (fs : List Field) (off z : Nat), flatFs F fs off = some z → off ≤ z := by
      intro fs
      induction fs with
      | nil => intro off z h; simp [flatFs] at h; omega
      | cons f fs ihf =>
        intro off z h
        simp only [flatFs] at h
        split at h <;> try (simp at h; done)
        split at h <;> try (simp at h; done)
        have := ihf _ _ h; omega
    have hle := hge _ _ _ h
    have hl2 : ys.length = xs.length := by simpa using congrArg List.length hk
    have p1 := flat_part hm (iv xs).toArray off (by simp [iv]; omega) w
    have p2 := flat_part hm (iv ys).toArray off (by simp [iv]; omega) w
    simp only [iv_chunk] at p1 p2
    have q := hq ((xs.drop off).take zf) ((ys.drop off).take zf) (by simp; omega) (fst_chunk hk _ _) w
    have r := eqFields_flat ih xs ys hk w fs (off + zf) z h hz
    simp only [Op.eqFields, hn.1, ne_eq, not_false_eq_true, if_true, hn.2, Sem.run_bind, p1, p2, Result.andThen_ok, q]
    by_cases hc : (xs.drop off).take zf = (ys.drop off).take zf
    · simp only [hc, decide_true, Bool.not_true, Bool.false_eq_true, if_false]
      rw [r]
      congr 1
      rw [decide_eq_decide, drop_chunk xs ys off zf]
      simp [hc]
    · simp only [hc, decide_false, Bool.not_false, if_true, Sem.run_pure]
      congr 1
      have : ¬ xs.drop off = ys.drop off := fun h => hc (by rw [h])
      simp [this]
theorem flat_eq : ∀ (m : Nat) {t : TypeId} {z : Nat}, flatT P m t = some z → ∀ d, m ≤ d → EqFlat P d t z
  | 0, t, z, h, d, hd => by simp [flatT] at h
  | m + 1, t, z, h, 0, hd => by omega
  | m + 1, t, z, h, d + 1, hd => by
    intro xs ys hx hy w
    have hl2 : ys.length = xs.length := by simpa using congrArg List.length hy
    unfold flatT at h
    split at h
    · rename_i k z' hu hz
      split at h <;> simp at h
      subst h; rename_i e; subst e
      have ht : tagg P t = some false := by simp [tagg, hu]
      match xs, ys, hx, hl2, hy with
      | [(k1, a)], [(k2, b)], _, _, hy =>
        simp at hy; subst hy
        simp only [pk, ht, iv, List.map_cons, List.map_nil, List.headD_cons]
        simp only [Op.equalIn, Sem.run_bind, run_underlying hu, Result.andThen_ok, if_true, Sem.run_pure]
        congr 1
        by_cases hab : a = b
        · subst hab; simp
        · simp [hab]
    · rename_i n e z' hu hz
      split at h <;> try (simp at h; done)
      rename_i ze he
      split at h <;> simp at h
      subst h; rename_i hn
      have ht : tagg P t = some true := by simp [tagg, hu]
      obtain ⟨i, hi, hsz⟩ := tsz_info (flat_size he)
      simp only [pk, ht]
      rw [run_equalIn_array w d _ _ hu hi]
      have hce : P.cellsOf e = ze := by simp [Program.cellsOf, hi, hsz]
      rw [hce, List.range_eq_range']
      have := eqItems_flat he (flat_eq m he d (by omega)) xs ys hy w n 0 (by rw [Nat.zero_add, hx]; exact hn)
      simpa using this
    · rename_i fs z' hu hz
      split at h <;> try (simp at h; done)
      rename_i hst
      split at h <;> try (simp at h; done)
      rename_i z2 hfs
      split at h <;> simp at h
      subst h; rename_i e; subst e
      have ht : tagg P t = some true := by simp [tagg, hu]
      have hfo : P.fieldsOf t = fs := by simp [Program.fieldsOf, hu]
      simp only [pk, ht]
      rw [run_equalIn_struct w d t _ _ (by rw [hfo]; exact hu) (by simpa using hst), hfo]
      have := eqFields_flat (P := P) (d := d) (fun t z hz => ⟨⟨m, hz⟩, flat_eq m hz d (by omega)⟩) xs ys hy w fs.toList 0 _ hfs hx.symm
      simpa using this
    · simp at h
def ChkFlat (P : Program) (d : Nat) (t : TypeId) (z : Nat) : Prop := ∀ (xs : List (IntKind × Int)) (b : Bool), xs.length = z → ∀ w, (Instr.checkKey b d t (pk P t (iv xs))).run P w = .ok () w
theorem flat_check : ∀ (m : Nat) {t : TypeId} {z : Nat}, flatT P m t = some z → ∀ d, m ≤ d → ChkFlat P d t z
  | 0, t, z, h, d, hd => by simp [flatT] at h
  | m + 1, t, z, h, 0, hd => by omega
  | m + 1, t, z, h, d + 1, hd => by
    intro xs b hx w
    unfold flatT at h
    split at h
    · rename_i k z' hu hz
      simp [Instr.checkKey, run_underlying hu]
    · rename_i n e z' hu hz
      split at h <;> try (simp at h; done)
      rename_i ze he
      split at h <;> simp at h
      subst h; rename_i hn
      have ht : tagg P t = some true := by simp [tagg, hu]
      simp only [pk, ht, Instr.checkKey, Sem.run_bind, run_underlying hu, Result.andThen_ok]
      simp only [Std.Legacy.Range.forIn_eq_forIn_range', Std.Legacy.Range.size, Nat.sub_zero, Nat.add_one_sub_one, Nat.div_one]
      have key : ∀ (k j : Nat), (j + k) * ze = xs.length → (forIn (List.range' j k) PUnit.unit fun i _ => (do Instr.checkKey b d e (← part e (iv xs).toArray (i * (← sizeOf e))); pure (ForInStep.yield PUnit.unit) : Sem (ForInStep PUnit))).run P w = .ok PUnit.unit w := by
        intro k
        induction k with
        | zero => intro j hj; simp
        | succ k ihk =>
          intro j hj
          have hle : j * ze + ze ≤ xs.length := by
            rw [← hj]; have : (j + (k + 1)) * ze = j * ze + ze + k * ze := by rw [Nat.add_mul, Nat.add_mul]; omega
            omega
          have p1 := flat_part he (iv xs).toArray (j * ze) (by simpa [iv] using hle) w
          simp only [iv_chunk] at p1
          have q := flat_check m he d (by omega) ((xs.drop (j * ze)).take ze) b (by simp; omega) w
          have r := ihk (j + 1) (by rw [← hj]; congr 1; omega)
          simp only [List.range'_succ, List.forIn_cons, Sem.run_bind, tsz_run (flat_size he), Result.andThen_ok, p1, q, Sem.run_pure]
          exact r
      have := key n 0 (by rw [Nat.zero_add, hx]; exact hn)
      simp only [bind_pure_comp, map_pure] at this ⊢
      rw [this]; rfl
    · rename_i fs z' hu hz
      split at h <;> try (simp at h; done)
      rename_i hst
      split at h <;> try (simp at h; done)
      rename_i z2 hfs
      split at h <;> simp at h
      subst h; rename_i e; subst e
      have ht : tagg P t = some true := by simp [tagg, hu]
      simp only [pk, ht, Instr.checkKey, Sem.run_bind, run_underlying hu, Result.andThen_ok]
      rw [← Array.forIn_toList]
      have hge : ∀ (fs : List Field) (off z : Nat), flatFs (flatT P m) fs off = some z → off ≤ z := by
        intro fs
        induction fs with
        | nil => intro off z h; simp [flatFs] at h; omega
        | cons f fs ihf =>
          intro off z h
          simp only [flatFs] at h
          split at h <;> try (simp at h; done)
          split at h <;> try (simp at h; done)
          have := ihf _ _ h; omega
      clear hu hz hst
      revert hfs
      generalize fs.toList = L
      generalize 0 = off
      intro hfs
      induction L generalizing off with
      | nil => simp
      | cons f L ihL =>
        simp only [flatFs] at hfs
        split at hfs <;> try (simp at hfs; done)
        rename_i hn
        split at hfs <;> try (simp at hfs; done)
        rename_i zf hf
        have hle := hge _ _ _ hfs
        have p1 := flat_part hf (iv xs).toArray off (by simp [iv]; omega) w
        simp only [iv_chunk] at p1
        have q := flat_check m hf d (by omega) ((xs.drop off).take zf) b (by simp; omega) w
        have r := ihL _ hfs
        simp only [List.forIn_cons, Sem.run_bind, hn.1, ne_eq, not_false_eq_true, if_true, hn.2, p1, Result.andThen_ok, q, Sem.run_pure] at r ⊢
        exact r
    · simp at h
end flat
def aSame (d : TypeDesc) (x y : AV) : Option Bool :=
  match d with
  | .int _ => match x, y with | .int k a, .int k' b => if k = k' then some (a == b) else none | _, _ => none
  | .string => match x, y with | .str a, .str b => some (a == b) | _, _ => none
  | .array n _ => match x, y with | .agg xs, .agg ys => (match fitI n xs, fitI n ys with | true, true => sameI xs ys | _, _ => none) | _, _ => none
  | _ => none
def aFind (d : TypeDesc) (k : AV) : List (AV × AV × Nat) → Nat → Option (Option (Nat × AV))
  | [], _ => match kfit d k with | true => some none | false => none
  | (k', v, _) :: es, i =>
    match aSame d k k' with
    | some true => some (some (i, v))
    | some false => aFind d k es (i + 1)
    | none => none
def mset (k v : AV) : Nat → List (AV × AV × Nat) → List (AV × AV × Nat)
  | _, [] => []
  | 0, (_, _, n) :: es => (k, v, n) :: es
  | i + 1, e :: es => e :: mset k v i es
def mapEs (H : AHeap) (m : AV) : Option (List (AV × AV × Nat)) :=
  match m with
  | .nmap => some []
  | .map b => match mapObj H b with | some (es, _) => some es | none => none
  | _ => none
def keyDesc (P : Program) (t : TypeId) : Option (TypeDesc × TypeId) :=
  match P.underlying t with
  | some (.map kt e) => match P.underlying kt with
    | some (.int k) => some (.int k, e)
    | some .string => some (.string, e)
    | some (.struct _) => match flatT P 6 kt with | some n => some (.array n kt, e) | none => none
    | some (.array _ _) => match flatT P 6 kt with | some n => some (.array n kt, e) | none => none
    | _ => none
  | _ => none
def aLookup (P : Program) (t : TypeId) (m k : AV) (ok : Bool) (H : AHeap) : Option AV :=
  match keyDesc P t with
  | some (d, e) => match mapEs H m with
    | some es => match aFind d k es 0 with
      | some (some (_, v)) => some (if ok then .tuple [v, .bool true] else v)
      | some none => match tzero P e with
        | some z => some (if ok then .tuple [z, .bool false] else z)
        | none => none
      | none => none
    | none => none
  | none => none
def aMapSet (P : Program) (t : TypeId) (m k v : AV) (H : AHeap) : Option AHeap :=
  match keyDesc P t with
  | some (d, _) => match m with
    | .map b => match H[b]? with
      | some o => match o.alive, o.body with
        | true, .map es clock => match aFind d k es 0 with
          | some (some (i, _)) => some ((wkil b o.fam H).set b { o with body := .map (mset k v i es) clock })
          | some none => some ((wkil b o.fam H).set b { o with body := .map (es ++ [(k, v, clock)]) (clock + 1) })
          | none => none
        | _, _ => none
      | none => none
    | _ => none
  | none => none
def aCopy (P : Program) (t : TypeId) (dst src : AV) (H : AHeap) : Option (AV × AHeap) :=
  match P.underlying t with
  | some (.slice e) => match tsz P e with
    | some z => match xcells H z src with
      | some (n, xs) => match dst with
        | .nslice => some (.int .i64 0, H)
        | .slice b off len _ z' =>
          if z' = z then
            if Nat.min n len = 0 then some (.int .i64 0, H) else
            match tk (Nat.min n len * z) xs with
            | some cs => match wr H (.ptr b off) cs with
              | some H' => some (.int .i64 (Nat.min n len), H')
              | none => none
            | none => none
          else none
        | _ => none
      | none => none
    | none => none
  | _ => none
section eff
variable {P : Program} {sn : Snap} {ι : IMap} {H : AHeap} {W : World}
theorem bytes_eq {a b : ByteArray} (h : a.data.toList = b.data.toList) : a = b := by
  apply ByteArray.ext; apply Array.ext'; exact h
theorem fitI_spec : ∀ {n : Nat} {l : List AV}, fitI n l = true → ∃ xs : List (IntKind × Int), xs.length = n ∧ l = xs.map fun p => .int p.1 p.2
  | 0, [], _ => ⟨[], rfl, rfl⟩
  | 0, _ :: _, h => by simp [fitI] at h
  | n + 1, [], h => by simp [fitI] at h
  | n + 1, c :: l, h => by
    cases c <;> simp only [fitI] at h <;> try (cases h; done)
    rename_i k a
    obtain ⟨xs, h1, h2⟩ := fitI_spec h
    exact ⟨(k, a) :: xs, by simp [h1], by simp [h2]⟩
theorem LR_ints : ∀ {xs : List (IntKind × Int)} {l : List Value}, LR sn ι (xs.map fun p => AV.int p.1 p.2) l → l = iv xs
  | [], l, h => by simp [LR] at h; subst h; rfl
  | p :: xs, l, h => by
    simp only [List.map_cons, LR] at h
    obtain ⟨d, ds, rfl, h1, h2⟩ := h
    rw [h1.int, LR_ints h2]; rfl
theorem sameI_spec : ∀ {xs ys : List (IntKind × Int)} {r : Bool}, sameI (xs.map fun p => .int p.1 p.2) (ys.map fun p => .int p.1 p.2) = some r → ys.map (·.1) = xs.map (·.1) ∧ r = decide (xs = ys)
  | [], [], r, h => by simp [sameI] at h; subst h; simp
  | [], _ :: _, r, h => by simp [sameI] at h
  | _ :: _, [], r, h => by simp [sameI] at h
  | (k, a) :: xs, (k', b) :: ys, r, h => by
    simp only [List.map_cons, sameI] at h
    split at h <;> try (simp at h; done)
    rename_i hk
    subst hk
    split at h <;> simp at h
    subst h
    rename_i r' hr
    obtain ⟨h1, h2⟩ := sameI_spec hr
    refine ⟨by simp [h1], ?_⟩
    rw [h2]
    by_cases hab : a = b
    · subst hab; simp
    · simp [hab]
theorem fit_value {kt : TypeId} {n : Nat} (ht : tagg P kt = some true) {k : AV} (hf : kfit (.array n kt) k = true) {k' : Value} (hk : VR sn ι k k') : ∃ xs : List (IntKind × Int), xs.length = n ∧ k = .agg (xs.map fun p => .int p.1 p.2) ∧ k' = pk P kt (iv xs) := by
  simp only [kfit] at hf
  split at hf <;> try (cases hf; done)
  obtain ⟨xs, h1, rfl⟩ := fitI_spec hf
  obtain ⟨d, rfl, h2⟩ := hk.agg
  have := LR_ints h2
  refine ⟨xs, h1, rfl, ?_⟩
  simp only [pk, ht]
  congr 1
  apply Array.ext'; simp [this]
theorem sameBits_ints : ∀ (n : Nat) (xs : List (IntKind × Int)), ((iv xs).zip (iv xs)).all (fun (x, y) => Instr.sameBits n x y) = true
  | n, [] => by simp [iv]
  | n, p :: xs => by
    have := sameBits_ints n xs
    simp only [iv, List.map_cons, List.zip_cons_cons, List.all_cons, Bool.and_eq_true] at this ⊢
    exact ⟨by simp [Instr.sameBits], this⟩
theorem sameBits_pk {kt : TypeId} (ht : tagg P kt = some true) (xs : List (IntKind × Int)) : Instr.sameBits 10000 (pk P kt (iv xs)) (pk P kt (iv xs)) = true := by
  simp only [pk, ht, Instr.sameBits, beq_self_eq_true, Bool.true_and]
  exact sameBits_ints _ xs
def KD (P : Program) (kt : TypeId) (d : TypeDesc) : Prop := (P.underlying kt = some d ∧ ((∃ k, d = .int k) ∨ d = .string)) ∨ (∃ n, d = .array n kt ∧ flatT P 6 kt = some n ∧ tagg P kt = some true)
theorem aSame_sound {d : TypeDesc} (hd : (∃ k, d = .int k) ∨ d = .string) {x y : AV} {r : Bool} (h : aSame d x y = some r) {x' y' : Value} (hx : VR sn ι x x') (hy : VR sn ι y y') :
    Instr.sameNow d x' y' = some r ∧ (r = true → Instr.sameBits 10000 y' x' = true) := by
  rcases hd with ⟨kk, rfl⟩ | rfl
  · simp only [aSame] at h
    split at h <;> try (simp at h; done)
    split at h <;> simp at h
    subst h; rename_i hk; subst hk
    cases hx.int; cases hy.int
    refine ⟨by simp [Instr.sameNow], fun hr => ?_⟩
    simp at hr; subst hr; simp [Instr.sameBits]
  · simp only [aSame] at h
    split at h <;> simp at h
    subst h
    obtain ⟨a, rfl, rfl⟩ := hx.str; obtain ⟨b, rfl, rfl⟩ := hy.str
    have e : (a == b) = (a.data.toList == b.data.toList) := by rw [beq_toListBytes, ByteArray.toList_eq, ByteArray.toList_eq]
    refine ⟨by simp only [Instr.sameNow, e], fun hr => ?_⟩
    have := bytes_eq (by simpa using hr); subst this
    simp only [Instr.sameBits]; rw [e]; exact hr
theorem aSame_flat {n : Nat} {kt : TypeId} (hf : flatT P 6 kt = some n) (ht : tagg P kt = some true) {x y : AV} {r : Bool} (h : aSame (.array n kt) x y = some r) {x' y' : Value} (hx : VR sn ι x x') (hy : VR sn ι y y') :
    (∀ w, (Op.equal kt x' y').run P w = .ok r w) ∧ (r = true → Instr.sameBits 10000 y' x' = true) ∧ kfit (.array n kt) x = true := by
  simp only [aSame] at h
  split at h <;> try (simp at h; done)
  rename_i xs ys
  split at h <;> try (simp at h; done)
  rename_i e1 e2
  have k1 : kfit (.array n kt) (.agg xs) = true := e1
  have k2 : kfit (.array n kt) (.agg ys) = true := e2
  obtain ⟨as1, l1, a1, rfl⟩ := fit_value (P := P) ht k1 hx
  obtain ⟨bs, l2, a2, rfl⟩ := fit_value (P := P) ht k2 hy
  simp only [AV.agg.injEq] at a1 a2
  subst a1; subst a2
  obtain ⟨h1, h2⟩ := sameI_spec h
  refine ⟨fun w => by rw [h2]; exact flat_eq 6 hf 10000 (by omega) as1 bs l1 h1 w, fun hr => ?_, k1⟩
  subst hr
  have : as1 = bs := by simpa using h2.symm
  subst this
  exact sameBits_pk ht as1
open Classical in
def Finds (P : Program) (kt : TypeId) (d : TypeDesc) (k : Value) (l : List MapEntry) (i : Nat) (r : Option (Nat × Value)) : Prop :=
  if (∃ n, d = .array n kt) then (∀ w, (Instr.findAsking kt k l i).run P w = .ok r w) else Instr.findNow d k l i = some r
theorem aFind_sound {kt : TypeId} {d : TypeDesc} (hd : KD P kt d) {k : AV} {k' : Value} (hk : VR sn ι k k') : ∀ (es : List (AV × AV × Nat)) (i : Nat) (r : Option (Nat × AV)), aFind d k es i = some r → ∀ (l : List MapEntry), ER sn ι es l →
    kfit d k = true ∧ match r with
    | none => Finds P kt d k' l i none
    | some (j, v) => ∃ v' x, Finds P kt d k' l i (some (j, v')) ∧ VR sn ι v v' ∧ i ≤ j ∧ l[j - i]? = some x ∧ Instr.sameBits 10000 x.key k' = true
  | [], i, r, h, l, hl => by
    simp only [aFind] at h
    split at h <;> simp at h
    subst h; rename_i hfit
    refine ⟨hfit, ?_⟩
    simp [ER] at hl; subst hl
    simp only [Finds]
    split
    · intro w; simp [Instr.findAsking]
    · simp [Instr.findNow]
  | (k2, v, n) :: es, i, r, h, l, hl => by
    simp only [ER] at hl; obtain ⟨x, l', rfl, h1, h2, h3, h4⟩ := hl
    simp only [aFind] at h
    rcases hd with ⟨hd1, hd2⟩ | ⟨m, rfl, hd1, hd2⟩
    · have hna : ¬ ∃ n, d = .array n kt := by rintro ⟨n, rfl⟩; rcases hd2 with ⟨_, e⟩ | e <;> cases e
      have hfit : kfit d k = true := by rcases hd2 with ⟨kk, rfl⟩ | rfl <;> rfl
      split at h
      · rename_i hs
        obtain ⟨e1, e2⟩ := aSame_sound hd2 hs hk h1
        simp at h; subst h
        exact ⟨hfit, x.val, x, by simp only [Finds, if_neg hna]; simp [Instr.findNow, e1], h2, Nat.le_refl _, by simp, e2 rfl⟩
      · rename_i hs
        obtain ⟨e1, _⟩ := aSame_sound hd2 hs hk h1
        have ih := (aFind_sound (.inl ⟨hd1, hd2⟩) hk es (i + 1) r h l' h4).2
        refine ⟨hfit, ?_⟩
        cases r with
        | none => simp only [Finds, if_neg hna] at ih ⊢; simpa [Instr.findNow, e1] using ih
        | some jv =>
          obtain ⟨j, v⟩ := jv
          obtain ⟨v', x', i1, i2, i3, i4, i5⟩ := ih
          refine ⟨v', x', ?_, i2, by omega, ?_, i5⟩
          · simp only [Finds, if_neg hna] at i1 ⊢; simpa [Instr.findNow, e1] using i1
          · rw [show j - i = (j - (i + 1)) + 1 from by omega]; simpa using i4
      · simp at h
    · have hya : ∃ n, TypeDesc.array m kt = .array n kt := ⟨m, rfl⟩
      split at h
      · rename_i hs
        obtain ⟨e1, e2, e3⟩ := aSame_flat hd1 hd2 hs hk h1
        simp at h; subst h
        exact ⟨e3, x.val, x, by simp only [Finds, if_pos hya]; intro w; simp [Instr.findAsking, e1], h2, Nat.le_refl _, by simp, e2 rfl⟩
      · rename_i hs
        obtain ⟨e1, _, e3⟩ := aSame_flat hd1 hd2 hs hk h1
        have ih := (aFind_sound (.inr ⟨m, rfl, hd1, hd2⟩) hk es (i + 1) r h l' h4).2
        refine ⟨e3, ?_⟩
        cases r with
        | none => simp only [Finds, if_pos hya] at ih ⊢; intro w; simp [Instr.findAsking, e1, ih]
        | some jv =>
          obtain ⟨j, v⟩ := jv
          obtain ⟨v', x', i1, i2, i3, i4, i5⟩ := ih
          refine ⟨v', x', ?_, i2, by omega, ?_, i5⟩
          · simp only [Finds, if_pos hya] at i1 ⊢; intro w; simp [Instr.findAsking, e1, i1]
          · rw [show j - i = (j - (i + 1)) + 1 from by omega]; simpa using i4
      · simp at h
theorem keyDesc_some {t : TypeId} {d : TypeDesc} {e : TypeId} (h : keyDesc P t = some (d, e)) : ∃ kt, P.underlying t = some (.map kt e) ∧ KD P kt d := by
  unfold keyDesc at h
  split at h <;> try (simp at h; done)
  rename_i kt e' ht
  split at h <;> try (simp at h; done)
  · simp at h; obtain ⟨rfl, rfl⟩ := h; exact ⟨kt, ht, .inl ⟨by assumption, .inl ⟨_, rfl⟩⟩⟩
  · simp at h; obtain ⟨rfl, rfl⟩ := h; exact ⟨kt, ht, .inl ⟨by assumption, .inr rfl⟩⟩
  · rename_i hu
    split at h <;> simp at h
    obtain ⟨rfl, rfl⟩ := h
    exact ⟨kt, ht, .inr ⟨_, rfl, by assumption, by simp [tagg, hu]⟩⟩
  · rename_i hu
    split at h <;> simp at h
    obtain ⟨rfl, rfl⟩ := h
    exact ⟨kt, ht, .inr ⟨_, rfl, by assumption, by simp [tagg, hu]⟩⟩
theorem run_checkKey {kt : TypeId} {d : TypeDesc} (hd : KD P kt d) {k : AV} (hf : kfit d k = true) {v : Value} (hk : VR sn ι k v) (b : Bool) (w : World) : (Instr.checkKey b 10000 kt v).run P w = .ok () w := by
  rcases hd with ⟨hd, h⟩ | ⟨n, rfl, h1, h2⟩
  · have key : ∀ n, (Instr.checkKey b (n + 1) kt v).run P w = .ok () w := fun n => by
      rcases h with ⟨k, rfl⟩ | rfl <;> simp [Instr.checkKey, run_underlying hd]
    exact key 9999
  · obtain ⟨xs, l1, _, rfl⟩ := fit_value (P := P) h2 hf hk
    exact flat_check 6 h1 10000 (by omega) xs b l1 w
theorem run_findKey {kt : TypeId} {d : TypeDesc} (hd : KD P kt d) {k : Value} {es : List MapEntry} {r : Option (Nat × Value)} (h : Finds P kt d k es 0 r) (w : World) : (Instr.findKey kt k es).run P w = .ok r w := by
  rcases hd with ⟨hd, h2⟩ | ⟨n, rfl, h1, h2⟩
  · have hna : ¬ ∃ n, d = .array n kt := by rintro ⟨n, rfl⟩; rcases h2 with ⟨_, e⟩ | e <;> cases e
    simp only [Finds, if_neg hna] at h
    simp [Instr.findKey, run_underlying hd, h]
  · simp only [Finds, if_pos (⟨n, rfl⟩ : ∃ m, TypeDesc.array n kt = .array m kt)] at h
    have hu : ∃ d, P.underlying kt = some d ∧ ∀ x y, Instr.sameNow d x y = none := by
      unfold tagg at h2
      split at h2
      · exact ⟨_, by assumption, fun x y => by simp [Instr.sameNow]⟩
      · exact ⟨_, by assumption, fun x y => by simp [Instr.sameNow]⟩
      · simp at h2
      · simp at h2
    obtain ⟨d, hu, hs⟩ := hu
    cases es with
    | nil =>
      have := h w
      simp [Instr.findAsking] at this
      subst this
      simp [Instr.findKey, run_underlying hu, Instr.findNow]
    | cons x es => simp [Instr.findKey, run_underlying hu, Instr.findNow, hs, h]
theorem aLookup_sound (hR : RO sn ι H W) {t : TypeId} {m k u : AV} {ok : Bool} (h : aLookup P t m k ok H = some u) {m' k' : Value} (hm : VR sn ι m m') (hk : VR sn ι k k') :
    ∃ z, (Instr.lookup t m' k' ok).run P W = .ok z W ∧ VR sn ι u z := by
  unfold aLookup at h
  split at h <;> try (simp at h; done)
  rename_i d e hd
  obtain ⟨kt, ht, hkd⟩ := keyDesc_some hd
  split at h <;> try (simp at h; done)
  rename_i es hes
  have hent : ∃ mes : Array MapEntry, ER sn ι es mes.toList ∧ ((m' = .map none ∧ mes = #[]) ∨ ∃ r clock, m' = .map (some r) ∧ W.heap[r]? = some (.map mes clock)) := by
    unfold mapEs at hes
    split at hes
    · simp at hes; subst hes; exact ⟨#[], by simp [ER], .inl ⟨hm.nmap, rfl⟩⟩
    · split at hes <;> simp at hes
      subst hes; rename_i clock hmo
      obtain ⟨o, p, mes, _, _, _, hp, hw, he⟩ := mapObj_sound hR hmo
      obtain ⟨q, hq, rfl⟩ := hm.map
      rw [hp] at hq; simp at hq; subst hq
      exact ⟨mes, he, .inr ⟨_, _, rfl, hw⟩⟩
    · simp at hes
  obtain ⟨mes, he, hcase⟩ := hent
  have fin : ∀ (v : AV) (v' : Value) (b : Bool), VR sn ι v v' → VR sn ι (if ok then .tuple [v, .bool b] else v) (if ok then .tuple #[v', .bool b] else v') := by
    intro v v' b hv
    split
    · exact vr_tuple (by simp only [LR]; exact ⟨_, _, rfl, hv, _, _, rfl, vr_bool b, rfl⟩)
    · exact hv
  split at h
  · rename_i i v hf
    simp at h; subst h
    obtain ⟨f0, v', x, f1, f2, _⟩ := aFind_sound (P := P) hkd hk es 0 _ hf _ he
    have hck := fun b w => run_checkKey (P := P) hkd f0 hk b w
    refine ⟨_, ?_, fin v v' true f2⟩
    rcases hcase with ⟨rfl, rfl⟩ | ⟨r, clock, rfl, hw⟩
    · have hes0 : es = [] := by
        cases es with
        | nil => rfl
        | cons e es => obtain ⟨k1, v1, n1⟩ := e; simp only [ER] at he; obtain ⟨_, _, h0, _⟩ := he; simp at h0
      subst hes0
      simp only [aFind] at hf
      split at hf <;> simp at hf
    · simp only [Instr.lookup, Sem.run_bind, run_underlying ht, Result.andThen_ok, hck, run_findKey hkd f1, Sem.run_pure, getObj, Sem.run, hw]
  · rename_i hf
    split at h <;> simp at h
    subst h; rename_i z hz
    obtain ⟨z', h1, h2⟩ := tzero_run hz
    have f01 := aFind_sound (P := P) hkd hk es 0 _ hf _ he
    have hck := fun b w => run_checkKey (P := P) hkd f01.1 hk b w
    have f1 : Finds P kt d k' mes.toList 0 none := f01.2
    refine ⟨_, ?_, fin z z' false (h2 sn ι)⟩
    rcases hcase with ⟨rfl, rfl⟩ | ⟨r, clock, rfl, hw⟩
    · simp only [Instr.lookup, Sem.run_bind, run_underlying ht, Result.andThen_ok, hck, run_findKey hkd f1, Sem.run_pure, h1]
    · simp only [Instr.lookup, Sem.run_bind, run_underlying ht, Result.andThen_ok, hck, run_findKey hkd f1, Sem.run_pure, h1, getObj, Sem.run, hw]
  · simp at h
theorem ER_mset {k v : AV} {k' v' : Value} (hk : VR sn ι k k') (hv : VR sn ι v v') : ∀ (es : List (AV × AV × Nat)) (l : List MapEntry) (i : Nat), ER sn ι es l →
    ER sn ι (mset k v i es) (l.modify i fun e => { e with key := k', val := v' })
  | [], l, i, h => by simp [ER] at h; subst h; cases i <;> simp [mset, ER]
  | (a, b, n) :: es, l, i, h => by
    simp only [ER] at h; obtain ⟨x, l', rfl, h1, h2, h3, h4⟩ := h
    cases i with
    | zero => simp only [mset, ER, List.modify_zero_cons]; exact ⟨_, _, rfl, hk, hv, h3, h4⟩
    | succ i => simp only [mset, ER, List.modify_succ_cons]; exact ⟨_, _, rfl, h1, h2, h3, ER_mset hk hv es l' i h4⟩
theorem ER_append {es : List (AV × AV × Nat)} {l : List MapEntry} (h : ER sn ι es l) {k v : AV} {x : MapEntry} (hk : VR sn ι k x.key) (hv : VR sn ι v x.val) : ER sn ι (es ++ [(k, v, x.born)]) (l ++ [x]) := by
  induction es generalizing l with
  | nil => simp [ER] at h; subst h; simp only [List.nil_append, ER]; exact ⟨x, [], rfl, hk, hv, rfl, rfl⟩
  | cons e es ih =>
    obtain ⟨a, b, n⟩ := e
    simp only [ER] at h; obtain ⟨y, l', rfl, h1, h2, h3, h4⟩ := h
    simp only [List.cons_append, ER]; exact ⟨y, _, rfl, h1, h2, h3, ih h4⟩
theorem turn_setObj {r : Nat} {ob : Obj} : Turn W { W with heap := W.heap.setIfInBounds r ob } r :=
  ⟨fun c hc => by simp [Array.getElem?_setIfInBounds, Ne.symm hc], by simp, rfl, rfl, rfl⟩
theorem aMapSet_sound (hR : R sn ι H W) {t : TypeId} {m k x : AV} {H' : AHeap} (h : aMapSet P t m k x H = some H') {m' k' x' : Value} (hm : VR sn ι m m') (hk : VR sn ι k k') (hx : VR sn ι x x') :
    ∃ W', (Instr.mapUpdate t m' k' x').run P W = .ok () W' ∧ Stp sn ι H W sn ι H' W' := by
  unfold aMapSet at h
  split at h <;> try (simp at h; done)
  rename_i d e hd
  obtain ⟨kt, ht, hkd⟩ := keyDesc_some hd
  split at h <;> try (simp at h; done)
  rename_i b
  split at h <;> try (simp at h; done)
  rename_i o ho
  split at h <;> try (simp at h; done)
  rename_i es clock hal hbd
  obtain ⟨p, hp, rfl⟩ := hm.map
  have hob := hR.obj b o p ho hal hp
  rw [hbd] at hob; simp only [OR] at hob
  obtain ⟨mes, hw, he⟩ := hob
  have hlt : p.blk < W.heap.size := hR.blk b p hp
  split at h
  · rename_i i v hf
    simp at h; subst h
    obtain ⟨f0, v', y, f1, f2, _, f4, f5⟩ := aFind_sound (P := P) hkd hk es 0 _ hf _ he
    have hck := fun b w => run_checkKey (P := P) hkd f0 hk b w
    simp only [Nat.sub_zero] at f4
    have hy : mes[i]? = some y := by rw [← Array.getElem?_toList]; exact f4
    refine ⟨{ W with heap := W.heap.setIfInBounds p.blk (.map (mes.modify i fun e => { e with key := k', val := x' }) clock) }, ?_, ?_⟩
    · simp only [Instr.mapUpdate, Sem.run_bind, run_underlying ht, Result.andThen_ok, getObj, Sem.run, hw, hck, run_findKey hkd f1, hy, Option.map_some, Option.getD_some, Instr.keyThatStays, f5, if_true, setObj]
      simp [hw]
    · refine Stp.write hR ho hal hp turn_setObj _ ?_
      refine ⟨_, by simp [Array.getElem?_setIfInBounds, hlt]; rfl, ?_⟩
      rw [Array.toList_modify]
      exact ER_mset hk hx es _ i he
  · rename_i hf
    simp at h; subst h
    have f01 := aFind_sound (P := P) hkd hk es 0 _ hf _ he
    have hck := fun b w => run_checkKey (P := P) hkd f01.1 hk b w
    have f1 : Finds P kt d k' mes.toList 0 none := f01.2
    refine ⟨{ W with heap := W.heap.setIfInBounds p.blk (.map (mes.push { key := k', val := x', born := clock }) (clock + 1)) }, ?_, ?_⟩
    · simp only [Instr.mapUpdate, Sem.run_bind, run_underlying ht, Result.andThen_ok, getObj, Sem.run, hw, hck, run_findKey hkd f1, setObj]
    · refine Stp.write hR ho hal hp turn_setObj _ ?_
      refine ⟨_, by simp [Array.getElem?_setIfInBounds, hlt]; rfl, ?_⟩
      rw [Array.toList_push]
      exact ER_append (x := { key := k', val := x', born := clock }) he hk hx
  · simp at h
theorem take_firstCells (hR : R sn ι H W) {z n m : Nat} {x : AV} {xs cs : List AV} (h : xcells H z x = some (n, xs)) (hm : m ≤ n) (hc : tk (m * z) xs = some cs) {x' : Value} (hx : VR sn ι x x') :
    ∃ news : List Value, LR sn ι cs news ∧ (Builtin.lenOf x').run P W = .ok n W ∧ (Builtin.firstCells z m x').run P W = .ok news.toArray W := by
  obtain ⟨htl, rfl⟩ := tk_some hc
  obtain ⟨news, k1, k2, k3, k4⟩ := xcells_sound (P := P) hR h hx
  refine ⟨news.take (m * z), k1.take _, k3 W, ?_⟩
  unfold xcells at h
  split at h
  · simp at h; obtain ⟨rfl, rfl⟩ := h; cases hx.nslice
    simp [LR] at k1; subst k1; simp [Builtin.firstCells]
  · split at h <;> try (simp at h; done)
    rename_i b off len cap z' hz; subst hz
    split at h <;> simp at h
    obtain ⟨rfl, rfl⟩ := h; rename_i cs hcs
    obtain ⟨p, a, cap', hp, rfl, hlc, hcc, hne⟩ := hx.slice
    obtain ⟨g, o, vs, e, h1, h2, h3⟩ := rd_sound hR.ro hcs (v := .pointer (some ⟨p.blk, p.sh + off, none⟩)) (by simp only [VR]; exact ⟨p, hp, rfl⟩)
    simp at e; obtain ⟨rfl, rfl⟩ := e
    have hfull := k4 W fun _ => rfl
    by_cases hc0 : cap' = 0
    · have h0 : len = 0 := by omega
      have hm0 : m = 0 := by omega
      subst hm0; simp [Builtin.firstCells, loadCells, loadCellsFrom]
    · obtain ⟨rfl, _⟩ := hne hc0
      rw [run_firstCells_some W z' len _ len cap' vs h2 fun j v hj => h3 j v hj] at hfull
      simp at hfull; subst hfull
      exact run_firstCells_some W z' m _ len cap' (vs.take (m * z')) (by rw [List.length_take, h2]; exact Nat.min_eq_left (Nat.mul_le_mul_right _ hm)) fun j v hj => by
        rw [List.getElem?_take] at hj; split at hj
        · exact h3 j v hj
        · simp at hj
  · split at h <;> simp at h
    obtain ⟨rfl, rfl⟩ := h
    rename_i n z' cs hz; subst hz
    rcases hx.rs with ⟨rfl, rfl, rfl⟩ | ⟨⟨b, o, sp⟩, cap, rfl, hc', hcs, hmr, hsp⟩
    · have hm0 : m = 0 := by omega
      subst hm0; simp [Builtin.firstCells]
    obtain ⟨vs, h1, h2⟩ := hmr.cells hR
    have hsp' : ∀ (j : Nat) (v : Value), vs[j]? = some v → sp = none := fun j v hj => hsp fun h0 => by
      have := (List.getElem?_eq_some_iff.1 hj).1
      rw [h1.length, hcs, h0, Nat.zero_mul] at this; omega
    have hfull := k4 W fun _ => rfl
    rw [run_firstCells_some W z' n _ n cap vs (by rw [h1.length, hcs]) fun j v hj => by cases hsp' j v hj; rw [addr_add]; exact h2 j v hj] at hfull
    simp at hfull; subst hfull
    exact run_firstCells_some W z' m _ n cap (vs.take (m * z')) (by rw [List.length_take, h1.length, hcs]; exact Nat.min_eq_left (Nat.mul_le_mul_right _ hm)) fun j v hj => by
      rw [List.getElem?_take] at hj; split at hj
      · cases hsp' j v hj; rw [addr_add]; exact h2 j v hj
      · simp at hj
  · split at h <;> simp at h
    obtain ⟨rfl, rfl⟩ := h
    rename_i s hz; subst hz
    obtain ⟨ba, rfl, rfl⟩ := hx.str
    have hfull := k4 W fun _ => rfl
    have hsz : ba.data.toList.length = ba.size := by cases ba; rfl
    simp only [Builtin.firstCells, Sem.run_pure] at hfull ⊢
    congr 1
    injection hfull with hfull _
    apply Array.ext'
    rw [Array.toList_map, Lib.extract_data, List.drop_zero, Nat.sub_zero, Nat.mul_one]
    have := congrArg Array.toList hfull
    rw [Array.toList_map, Lib.extract_data, List.drop_zero, Nat.sub_zero] at this
    simp only [List.toList_toArray] at this ⊢
    rw [← this, List.take_length, List.map_take]
  · simp at h
theorem aCopy_sound (hR : R sn ι H W) {t t2 ty : TypeId} {dst src r : AV} {H' : AHeap} (h : aCopy P t dst src H = some (r, H')) {d' s' : Value} (hd : VR sn ι dst d') (hs : VR sn ι src s') :
    ∃ v W', (Builtin.copy_ #[t, t2] ty #[d', s']).run P W = .ok v W' ∧ VR sn ι r v ∧ Stp sn ι H W sn ι H' W' := by
  unfold aCopy at h
  split at h <;> try (simp at h; done)
  rename_i e ht
  split at h <;> try (simp at h; done)
  rename_i z hz
  split at h <;> try (simp at h; done)
  rename_i n xs hxs
  have hzero : ∃ news : List Value, LR sn ι [] news ∧ (Builtin.lenOf s').run P W = .ok n W ∧ (Builtin.firstCells z 0 s').run P W = .ok news.toArray W :=
    take_firstCells hR hxs (Nat.zero_le _) (by simp [tk]) hs
  obtain ⟨nz, z1, z2, z3⟩ := hzero
  simp [LR] at z1; subst z1
  split at h
  · simp at h; obtain ⟨rfl, rfl⟩ := h
    cases hd.nslice
    refine ⟨goInt 0, W, ?_, vr_int _ _, Stp.refl hR⟩
    have : Nat.min n 0 = 0 := Nat.min_zero n
    simp [Builtin.copy_, run_underlying ht, z2, tsz_run hz, this, z3]
  · rename_i b off len cap z'
    split at h <;> try (simp at h; done)
    rename_i hzz; subst hzz
    obtain ⟨p, a, cap', hp, rfl, hlc, hcc, hne⟩ := hd.slice
    split at h
    · rename_i h0
      simp at h; obtain ⟨rfl, rfl⟩ := h
      refine ⟨goInt 0, W, ?_, vr_int _ _, Stp.refl hR⟩
      have h0' : Nat.min n len = 0 := h0
      simp [Builtin.copy_, run_underlying ht, z2, h0', tsz_run hz, z3, storeCells]
    · rename_i h0
      split at h <;> try (simp at h; done)
      rename_i cs hcs
      split at h <;> simp at h
      rename_i H1 hw
      obtain ⟨rfl, rfl⟩ := h
      have hlen0 : cap' ≠ 0 := by
        intro hc
        have : len = 0 := by omega
        subst this; exact h0 (Nat.min_zero n)
      obtain ⟨rfl, hbb⟩ := hne hlen0
      obtain ⟨news, k1, k2, k3⟩ := take_firstCells (P := P) hR hxs (Nat.min_le_left _ _) hcs hs
      obtain ⟨ad, W', e1, hst, hstp⟩ := wr_sound (P := P) hR hw (a' := .pointer (some ⟨p.blk, p.sh + off, none⟩)) (by simp only [VR]; exact ⟨p, hp, rfl⟩) k1
      simp at e1; subst e1
      refine ⟨goInt (Nat.min n len), W', ?_, vr_int _ _, hstp⟩
      simp [Builtin.copy_, run_underlying ht, k2, tsz_run hz, k3, hst]
  · simp at h
end eff
end Go.Abs
end


section

set_option linter.unusedSimpArgs false
set_option linter.unusedVariables false
namespace Go.Abs
open Go.RowKit
mutual
def refs : AV → List Nat → List Nat
  | .ptr b _, acc => b :: acc
  | .slice b _ _ _ _, acc => b :: acc
  | .map b, acc => b :: acc
  | .func _ f c, acc => refsL f (refsL c acc)
  | .iface _ v, acc => refs v acc
  | .agg cs, acc => refsL cs acc
  | .tuple cs, acc => refsL cs acc
  | .bool _, acc => acc
  | .int _ _, acc => acc
  | .str _, acc => acc
  | .nptr, acc => acc
  | .rp _, acc => acc
  | .nslice, acc => acc
  | .rs _ _ _, acc => acc
  | .nmap, acc => acc
  | .nfunc, acc => acc
  | .niface, acc => acc
def refsL : List AV → List Nat → List Nat
  | [], acc => acc
  | v :: l, acc => refs v (refsL l acc)
end
def refsE : List (AV × AV × Nat) → List Nat → List Nat
  | [], acc => acc
  | (k, v, _) :: es, acc => refs k (refs v (refsE es acc))
def refsT : List (Nat × AV) → List Nat → List Nat
  | [], acc => acc
  | x :: l, acc => refs x.2 (refsT l acc)
def refsB : ABody → List Nat → List Nat
  | .cells cs _, acc => refsL cs acc
  | .map es _, acc => refsE es acc
  | .siter _ _, acc => acc
  | .loop _ ts, acc => refsT ts acc
def mem (i : Nat) : List Nat → Bool
  | [] => false
  | j :: l => Nat.beq i j || mem i l
theorem mem_iff {i : Nat} : ∀ {l : List Nat}, mem i l = true ↔ i ∈ l
  | [] => by simp [mem]
  | j :: l => by simp [mem, mem_iff (l := l), Nat.beq_eq]
end Go.Abs
end


section

set_option linter.unusedSimpArgs false
set_option linter.unusedVariables false
namespace Go.Abs
open Go.RowKit
def isC : Operand → Bool
  | .const _ => true
  | _ => false
def nilRes (P : Program) (op : BinOp) (t : TypeId) (b : Bool) : Option AV := match P.underlying t with
  | some (.interface _) => match op with | .eql => some (.bool b) | .neq => some (.bool !b) | _ => none
  | _ => none
def ifcRes (P : Program) (op : BinOp) (t t1 t2 : TypeId) (u v : AV) : Option AV :=
  if Nat.beq t1 t2 then match P.info? t1 with
    | some i => if i.comparable then (match aEq P 9999 t1 u v with | some b => nilRes P op t b | none => none) else none
    | none => none
  else nilRes P op t false
def ptrRes (P : Program) (op : BinOp) (t : TypeId) : Option AV := match P.underlying t with
  | some (.pointer e) => match tsz P e with
    | some (_ + 1) => match op with | .eql => some (.bool true) | .neq => some (.bool false) | _ => none
    | _ => none
  | _ => none
def aBin2 (P : Program) (op : BinOp) (t : TypeId) (c : Bool) (u v : AV) : Option AV :=
  match u, v with
  | .niface, .niface => if c then nilRes P op t true else none
  | .iface _ _, .niface => nilRes P op t false
  | .niface, .iface _ _ => nilRes P op t false
  | .iface t1 u, .iface t2 v => ifcRes P op t t1 t2 u v
  | .ptr b o, .ptr b' o' => if Nat.beq b b' && Nat.beq o o' then ptrRes P op t else none
  | u, v => aBin P op t u v
def aConvP (P : Program) (s d : TypeId) (b off : Nat) (H : AHeap) : Bool :=
  match H[b]? with
  | some o => match o.alive, o.body with
    | true, .cells cs ty => match P.underlying s, P.underlying d with
      | some (.pointer t), some .unsafePointer => (match tsz P t with | some (_ + 1) => Nat.blt off cs.length | _ => false)
      | some .unsafePointer, some (.pointer u) => (match tsz P u with
        | some _ => Nat.beq o.sh 0 && (Nat.blt 0 (P.cellsOf ty) && (Nat.ble (P.cellsOf ty) cs.length && liesAt P P.depth ty 1 off u 1))
        | none => false)
      | _, _ => false
    | _, _ => false
  | none => false
def bytesOfL : List AV → Option (List UInt8)
  | [] => some []
  | .int .u8 (.ofNat k) :: l => if Nat.blt k 256 then (match bytesOfL l with | some r => some (UInt8.ofNat k :: r) | none => none) else none
  | _ => none
def aUStr (P : Program) (t : TypeId) (p : AV) (m : Nat) (H : AHeap) : Option (AV × AHeap) :=
  match m with
  | 0 => match p with
    | .nptr => some (.str [], H)
    | .ptr _ _ => some (.str [], H)
    | _ => none
  | m + 1 => match p with
    | .ptr b 0 => match H[b]? with
      | some o => match o.alive, o.body with
        | true, .cells cs ty => match P.underlying t with
          | some (.pointer e) => if (Nat.beq e ty && Nat.beq (P.cellsOf ty) 1 && Nat.beq o.sh 0 && Nat.ble (m + 1) 9223372036854775807) = true then
              match tk (m + 1) cs with
              | some l => match bytesOfL l with
                | some bs => some (.str bs, (wkil b o.fam H).set b o.dead)
                | none => none
              | none => none
            else none
          | _ => none
        | _, _ => none
      | none => none
    | _ => none
def aConvS (P : Program) (s d : TypeId) : Bool := match P.underlying s, P.underlying d with
  | some (.slice e), some .string => match P.underlying e with
    | some (.int .u8) => true
    | _ => false
  | _, _ => false
def aConvR (u : AV) (H : AHeap) : Option AV := match u with
  | .slice b off len _ z => if Nat.beq z 1 = true then (match H[b]? with
    | some o => match o.alive, o.body with
      | true, .cells cs _ => match tk len (cs.drop off) with
        | some l => match bytesOfL l with
          | some bs => some (.str bs)
          | none => none
        | none => none
      | _, _ => none
    | none => none) else none
  | _ => none
def aConvB (P : Program) (s d : TypeId) (x : AV) (H : AHeap) : Option AV :=
  match x with
  | .str bs => match P.underlying s, P.underlying d with
    | some .string, some (.slice e) => match P.underlying e with
      | some (.int .u8) => some (.rs bs.length 1 (bs.map fun b => .int .u8 b.toNat))
      | _ => none
    | _, _ => none
  | .ptr b off => if aConvP P s d b off H then some (.ptr b off) else none
  | _ => none
def aSliceA (P : Program) (t : TypeId) (x : AV) (lo hi : Option AV) (H : AHeap) : Option AV :=
  match x with
  | .ptr b off => match P.underlying t with
    | some (.array n e) => match tsz P e with
      | some z => match H[b]? with
        | some o => match o.alive, o.body with
          | true, .cells cs _ => if Nat.ble (off + n * z) cs.length = true then (match bnd hi n n with
            | some h => match bnd lo 0 h with
              | some l => some (.slice b (off + l * z) (h - l) (n - l) z)
              | none => none
            | none => none) else none
          | _, _ => none
        | none => none
      | none => none
    | _ => none
  | _ => none
def aSlice3 (P : Program) (t : TypeId) (x : AV) (lo : Option AV) (hi mx : AV) : Option AV :=
  match x with
  | .slice b off _ cap z => match P.underlying t with
    | some (.slice e) => match tsz P e with
      | some z' => if z' = z then (match bnd (some mx) 0 cap with
          | some m => match bnd (some hi) 0 m with
            | some h => match bnd lo 0 h with
              | some l => some (.slice b (off + l * z) (h - l) (m - l) z)
              | none => none
            | none => none
          | none => none) else none
      | none => none
    | _ => none
  | _ => none
def apure' (P : Program) (ρ : Operand → Option AV) (H : AHeap) (o : Oper) : Option AV :=
  match o.op with
  | .slice t x lo (some hi) (some mx) => match ρ x, aopt ρ lo, ρ hi, ρ mx with | some x, some lo, some hi, some mx => aSlice3 P t x lo hi mx | _, _, _, _ => none
  | .binOp op t x y _ => match ρ x, ρ y with | some u, some v => aBin2 P op t (isC x || isC y) u v | _, _ => none
  | .lookup t m k ok => match ρ m, ρ k with | some m, some k => aLookup P t m k ok H | _, _ => none
  | .convert s d x => match ρ x with | some (.slice b off len cap z) => if aConvS P s d = true then aConvR (.slice b off len cap z) H else none | _ => apure P ρ H o
  | _ => apure P ρ H o
def aeff (P : Program) (ρ : Operand → Option AV) (H : AHeap) (o : Oper) : Option (AV × AHeap) :=
  match o.op with
  | .alloc e => aAlloc P e H
  | .box e x => match ρ x with | some v => aBox e v H | none => none
  | .buildSlice t len ps => match aparts ρ ps.toList with | some us => aBuildSlice P t len us H | none => none
  | .makeSlice t l c => match ρ l, ρ c with | some l, some c => aMakeSlice P t l c H | _, _ => none
  | .makeMap t none => some (.map H.length, H ++ [⟨true, H.length, 0, .map [] 0⟩])
  | .store t a x => match ρ a, ρ x with | some a, some x => (match aStore P t a x H with | some H' => some (.tuple [], H') | none => none) | _, _ => none
  | .mapUpdate t m k x => match ρ m, ρ k, ρ x with | some m, some k, some x => (match aMapSet P t m k x H with | some H' => some (.tuple [], H') | none => none) | _, _, _ => none
  | .insert t m k x => match ρ m, ρ k, ρ x with | some m, some k, some x => (match aMapSet P t m k x H with | some H' => some (.tuple [], H') | none => none) | _, _, _ => none
  | .convert s d x => match ρ x with | some u => (match aConvB P s d u H with | some r => some (r, H) | none => none) | none => none
  | .slice t x lo hi none => match ρ x, aopt ρ lo, aopt ρ hi with | some u, some lo, some hi => (match aSliceA P t u lo hi H with | some r => some (r, H) | none => none) | _, _, _ => none
  | .call c => match c.callee with
    | .builtin .append => match c.args.toList, c.argTypes.toList with
      | [s, x], [t, t2] => match ρ s, ρ x with | some s, some x => aAppend P t t2 s x H | _, _ => none
      | _, _ => none
    | .builtin .cap => match c.args.toList, c.argTypes.toList with
      | [x], [t] => match ρ x, P.underlying t with
        | some .nslice, some (.slice _) => some (.int .i64 (.ofNat 0), H)
        | _, _ => none
      | _, _ => none
    | .builtin .clear => match c.args.toList, c.argTypes.toList with
      | [x], [t] => match ρ x with
        | some x => (match aClear P t x H with | some H' => some (.tuple [], H') | none => none)
        | none => none
      | _, _ => none
    | .builtin .unsafeSliceData => match c.args.toList with
      | [x] => match ρ x with
        | some (.slice b off _ (_ + 1) _) => some (.ptr b off, H)
        | some .nslice => some (.nptr, H)
        | _ => none
      | _ => none
    | .builtin .unsafeString => match c.args.toList, c.argTypes.toList with
      | [x, y], [t, _] => match ρ x, ρ y with
        | some p, some (.int .i64 (.ofNat m)) => aUStr P t p m H
        | _, _ => none
      | _, _ => none
    | .builtin .copy => match c.args.toList, c.argTypes.toList with
      | [s, x], [t, t2] => match ρ s, ρ x with | some s, some x => aCopy P t s x H | _, _ => none
      | _, _ => none
    | _ => none
  | _ => none
def Done (P : Program) (s : Sem Next) (W : World) (v : Value) (W' : World) : Prop := s.run P W = .ok (.value v) W' ∨ (s.run P W = .ok .skip W' ∧ v = undef)
section eff
variable {P : Program} {sn : Snap} {ι : IMap} {H : AHeap} {W : World}
theorem aBin2_of {op : BinOp} {t : TypeId} {c : Bool} {u v r : AV} (h : aBin P op t u v = some r) : aBin2 P op t c u v = some r := by
  unfold aBin2
  split
  · simp [aBin] at h
  · simp [aBin] at h
  · simp [aBin] at h
  · exfalso
    unfold aBin at h
    cases op <;> simp [aEq] at h
  · exfalso
    unfold aBin at h
    cases op <;> simp [aEq] at h
  · exact h
theorem equalIn_ptr {t e : TypeId} {n : Nat} (ht : P.underlying t = some (.pointer e)) (hn : tsz P e = some n) (hn0 : n ≠ 0) (a : Addr) (d : Nat) (w : World) : (Op.equalIn (d + 1) t (.pointer (some a)) (.pointer (some a))).run P w = .ok true w := by
  have hsz : (sizeOf e).run P w = .ok n w := by
    unfold tsz at hn
    split at hn <;> simp at hn
    rename_i i hi
    subst hn
    simp [sizeOf, typeInfo, hi]
  simp [Op.equalIn, run_underlying ht, hsz, hn0, sameAddr]
theorem equalIn_nil {t : TypeId} {ms} (ht : P.underlying t = some (.interface ms)) (d : Nat) (w : World) : (Op.equalIn (d + 1) t .nilIface .nilIface).run P w = .ok true w := by
  simp [Op.equalIn, run_underlying ht]
theorem equalIn_nil1 {t : TypeId} {ms} (ht : P.underlying t = some (.interface ms)) (u : TypeId) (v : Value) (d : Nat) (w : World) : (Op.equalIn (d + 1) t (.iface u v) .nilIface).run P w = .ok false w := by
  simp [Op.equalIn, run_underlying ht]
theorem equalIn_nil2 {t : TypeId} {ms} (ht : P.underlying t = some (.interface ms)) (u : TypeId) (v : Value) (d : Nat) (w : World) : (Op.equalIn (d + 1) t .nilIface (.iface u v)).run P w = .ok false w := by
  simp [Op.equalIn, run_underlying ht]
theorem equalIn_ifc {t u : TypeId} {ms} {i : TypeInfo} {x y : Value} {b : Bool} (ht : P.underlying t = some (.interface ms)) (hi : P.info? u = some i) (hc : i.comparable = true) (d : Nat) (w : World) (h : (Op.equalIn d u x y).run P w = .ok b w) :
    (Op.equalIn (d + 1) t (.iface u x) (.iface u y)).run P w = .ok b w := by
  simp [Op.equalIn, run_underlying ht, typeInfo, hi, hc, h]
theorem equalIn_ifc2 {t u u' : TypeId} {ms} {x y : Value} (ht : P.underlying t = some (.interface ms)) (hn : u ≠ u') (d : Nat) (w : World) : (Op.equalIn (d + 1) t (.iface u x) (.iface u' y)).run P w = .ok false w := by
  simp [Op.equalIn, run_underlying ht, hn]
theorem bin_eql {t : TypeId} {x y : Value} {ox oy : Operand} {w : World} {b : Bool} (hg : (eqGuard .eql t ox oy x y).run P w = .ok () w) (he : (Op.equalIn 10000 t x y).run P w = .ok b w)
    (h1 : binOp .eql t x y = (do pure (.bool (← Op.equal t x y)) : Sem Value)) : (do eqGuard .eql t ox oy x y; binOp .eql t x y : Sem Value).run P w = .ok (.bool b) w := by
  have he' : (Op.equal t x y).run P w = .ok b w := he
  rw [Sem.run_bind, hg]; show (binOp .eql t x y).run P w = _
  rw [h1, Sem.run_bind, he']; rfl
theorem bin_neq {t : TypeId} {x y : Value} {ox oy : Operand} {w : World} {b : Bool} (hg : (eqGuard .neq t ox oy x y).run P w = .ok () w) (he : (Op.equalIn 10000 t x y).run P w = .ok b w)
    (h1 : binOp .neq t x y = (do pure (.bool (!(← Op.equal t x y))) : Sem Value)) : (do eqGuard .neq t ox oy x y; binOp .neq t x y : Sem Value).run P w = .ok (.bool !b) w := by
  have he' : (Op.equal t x y).run P w = .ok b w := he
  rw [Sem.run_bind, hg]; show (binOp .neq t x y).run P w = _
  rw [h1, Sem.run_bind, he']; rfl
theorem ptrRes_run {op : BinOp} {t : TypeId} {r : AV} (h : ptrRes P op t = some r) (a : Addr) (ox oy : Operand) (w : World) :
    ∃ z, (do eqGuard op t ox oy (.pointer (some a)) (.pointer (some a)); binOp op t (.pointer (some a)) (.pointer (some a)) : Sem Value).run P w = .ok z w ∧ VR sn ι r z := by
  unfold ptrRes at h
  split at h <;> try (simp at h; done)
  rename_i e ht
  split at h <;> try (simp at h; done)
  rename_i m hm
  have hg : (eqGuard op t ox oy (.pointer (some a)) (.pointer (some a))).run P w = .ok () w := by cases op <;> rfl
  have heq := equalIn_ptr ht hm (by omega) a 9999 w
  split at h <;> simp at h
  · subst h
    exact ⟨_, bin_eql hg heq rfl, by simp [VR]⟩
  · subst h
    exact ⟨_, bin_neq hg heq rfl, by simp [VR]⟩
theorem nilRes_run {op : BinOp} {t : TypeId} {r : AV} {b : Bool} (h : nilRes P op t b = some r) {x y : Value} {ox oy : Operand} {w : World} (hg : op = .eql ∨ op = .neq → (eqGuard op t ox oy x y).run P w = .ok () w)
    (he : ∀ ms, P.underlying t = some (.interface ms) → (Op.equalIn 10000 t x y).run P w = .ok b w) (h1 : binOp .eql t x y = (do pure (.bool (← Op.equal t x y)) : Sem Value)) (h2 : binOp .neq t x y = (do pure (.bool (!(← Op.equal t x y))) : Sem Value)) :
    ∃ z, (do eqGuard op t ox oy x y; binOp op t x y : Sem Value).run P w = .ok z w ∧ VR sn ι r z := by
  unfold nilRes at h
  split at h <;> try (simp at h; done)
  rename_i ms ht
  split at h <;> simp at h
  · subst h
    exact ⟨_, bin_eql (hg (.inl rfl)) (he ms ht) h1, by simp [VR]⟩
  · subst h
    exact ⟨_, bin_neq (hg (.inr rfl)) (he ms ht) h2, by simp [VR]⟩
theorem aBin2_sound {op : BinOp} {t : TypeId} {x y u : AV} {ox oy : Operand} (h : aBin2 P op t (isC ox || isC oy) x y = some u) {x' y' : Value} (hx : VR sn ι x x') (hy : VR sn ι y y') (w : World) :
    ∃ z, (do eqGuard op t ox oy x' y'; binOp op t x' y' : Sem Value).run P w = .ok z w ∧ VR sn ι u z := by
  unfold aBin2 at h
  split at h
  · split at h <;> try (simp at h; done)
    rename_i hc
    simp only [VR] at hx hy
    subst hx; subst hy
    refine nilRes_run h (fun hop => ?_) (fun ms ht => equalIn_nil ht 9999 w) rfl rfl
    rcases hop with rfl | rfl <;> cases ox <;> cases oy <;> first | (simp [isC] at hc; done) | rfl | simp [eqGuard]
  · simp only [VR] at hx hy
    obtain ⟨z, rfl, _⟩ := hx; subst hy
    exact nilRes_run h (fun hop => by rcases hop with rfl | rfl <;> rfl) (fun ms ht => equalIn_nil1 ht _ _ 9999 w) rfl rfl
  · simp only [VR] at hx hy
    obtain ⟨z, rfl, _⟩ := hy; subst hx
    exact nilRes_run h (fun hop => by rcases hop with rfl | rfl <;> rfl) (fun ms ht => equalIn_nil2 ht _ _ 9999 w) rfl rfl
  · simp only [VR] at hx hy
    obtain ⟨z, rfl, hz⟩ := hx; obtain ⟨z', rfl, hz'⟩ := hy
    unfold ifcRes at h
    split at h
    · rename_i he
      have he := Nat.eq_of_beq_eq_true he; subst he
      split at h <;> try (simp at h; done)
      rename_i i hi
      split at h <;> try (simp at h; done)
      rename_i hcmp
      split at h <;> try (simp at h; done)
      rename_i b hb
      exact nilRes_run h (fun hop => by rcases hop with rfl | rfl <;> rfl) (fun ms ht => equalIn_ifc ht hi hcmp 9999 w (aEq_sound 9999 _ _ _ _ hb _ _ hz hz' w)) rfl rfl
    · rename_i he
      exact nilRes_run h (fun hop => by rcases hop with rfl | rfl <;> rfl) (fun ms ht => equalIn_ifc2 ht (fun e => he (by rw [e]; exact Nat.beq_refl _)) 9999 w) rfl rfl
  · split at h <;> try (simp at h; done)
    rename_i b o b' o' hc
    simp only [Bool.and_eq_true] at hc
    have e1 := Nat.eq_of_beq_eq_true hc.1; subst e1
    have e2 := Nat.eq_of_beq_eq_true hc.2; subst e2
    simp only [VR] at hx hy
    obtain ⟨p, hp, rfl⟩ := hx
    obtain ⟨p', hp', rfl⟩ := hy
    rw [hp] at hp'; simp at hp'; subst hp'
    exact ptrRes_run h _ ox oy w
  · exact aBin_sound h hx hy ox oy w
def snx (sn : Snap) (g : Nat) (W' : World) : Snap := fun a => if a.block < g then sn a else W'.cell? a
theorem Stp.snap {W' : World} (h : R sn ι H W) (e : Ext W W') : Stp sn ι H W (snx sn W.heap.size W') ι H W' := by
  have hr := h.ext e
  have hle : Le sn (snx sn W.heap.size W') ι ι := ⟨fun a v hv => by
    unfold snx
    rw [if_pos (h.snap a v hv).1]; exact hv, fun _ _ h => h⟩
  refine ⟨⟨hr.dom, hr.blk, fun b o p hb ha hp => OR_mono hle rfl (hr.obj b o p hb ha hp), hr.sep, ?_, hr.shz⟩, hle, fun _ _ h => .inl h, fun c hc _ => e.old c hc, e.size, e.os, e.tape, e.output, ?_, fun b o hb => ⟨o, hb, rfl, rfl, id⟩⟩
  · intro a v hv
    unfold snx at hv
    split at hv
    · exact hr.snap a v hv
    · rename_i hge
      refine ⟨?_, hv, fun b o p hb ha hp => ?_⟩
      · cases hq : W'.heap[a.block]? with
        | none => unfold World.cell? at hv; rw [hq] at hv; simp at hv
        | some ob => exact (Array.getElem?_eq_some_iff.1 hq).1
      · have := h.blk b p hp; omega
  · intro a v hv
    unfold snx at hv
    split at hv
    · exact .inl hv
    · exact .inr (.inl (by omega))
theorem rowAt_mono {fits : TypeId → Bool} : ∀ (d : Nat) (e : TypeId) (c c' off n : Nat), c ≤ c' → rowAt P fits d e c off n = true → rowAt P fits d e c' off n = true
  | 0, e, c, c', off, n, hc, h => by simp [rowAt] at h
  | d + 1, e, c, c', off, n, hc, h => by
    unfold rowAt at h ⊢
    simp only at h ⊢
    split at h
    · cases h
    · rename_i hs
      rw [if_neg hs]
      simp only [Bool.or_eq_true, Bool.and_eq_true, decide_eq_true_eq] at h ⊢
      rcases h with ⟨⟨h1, h2⟩, h3⟩ | ⟨h1, h2⟩
      · exact .inl ⟨⟨h1, by omega⟩, h3⟩
      · exact .inr ⟨by omega, h2⟩
theorem liesAt_mono : ∀ (d : Nat) (e : TypeId) (c c' off : Nat) (u : TypeId) (n : Nat), c ≤ c' → liesAt P d e c off u n = true → liesAt P d e c' off u n = true
  | 0, e, c, c', off, u, n, hc, h => by simp [liesAt] at h
  | d + 1, e, c, c', off, u, n, hc, h => by
    unfold liesAt at h ⊢
    simp only [Bool.or_eq_true] at h ⊢
    rcases h with h | h
    · exact .inl (rowAt_mono _ _ _ _ _ _ hc h)
    · right
      split at h
      · exact liesAt_mono d e c c' off _ _ hc h
      · cases h
theorem shape_of_cells {g : Nat} {arr : Array Value} {ty : TypeId} {fr : Nat × Nat} (h : W.heap[g]? = some (.cells arr ty fr)) : W.shape? g = some (ty, arr.size) := by
  simp [World.shape?, h]
theorem aConvP_sound (hR : R sn ι H W) {s d : TypeId} {b off : Nat} (h : aConvP P s d b off H = true) {x' : Value} (hx : VR sn ι (.ptr b off) x') : (convert s d x').run P W = .ok x' W := by
  unfold aConvP at h
  split at h <;> try (cases h; done)
  rename_i o hb
  split at h <;> try (cases h; done)
  rename_i cs ty hal hbd
  simp only [VR] at hx
  obtain ⟨p, hp, rfl⟩ := hx
  have hob := hR.obj b o p hb hal hp
  rw [hbd] at hob
  simp only [OR] at hob
  obtain ⟨arr, g1, g2, g3, g4⟩ := hob
  have hsh := shape_of_cells g1
  split at h
  · rename_i t hs hd
    split at h <;> try (cases h; done)
    rename_i m hm
    have hlt : off < cs.length := by simpa [Nat.blt_eq] using h
    unfold tsz at hm
    split at hm <;> simp at hm
    rename_i i hi
    exact Lib.run_to_unsafe W _ hs hd hi (by omega) hsh (by show p.sh + off < arr.size; omega)
  · rename_i u hs hd
    split at h <;> try (cases h; done)
    rename_i m hm
    simp only [Bool.and_eq_true] at h
    obtain ⟨h1, h2, h3, h4⟩ := h
    have hsz := hR.shz b o p hb hp (Nat.eq_of_beq_eq_true h1)
    have hpos : 0 < P.cellsOf ty := by simpa [Nat.blt_eq] using h2
    have hle : P.cellsOf ty ≤ cs.length := Nat.le_of_ble_eq_true h3
    unfold tsz at hm
    split at hm <;> simp at hm
    rename_i i hi
    have hcount : 1 ≤ arr.size / P.cellsOf ty := by
      rw [Nat.le_div_iff_mul_le hpos]; omega
    refine Lib.run_from_unsafe W _ hs hd hi hsh ?_
    show liesAt P P.depth ty (arr.size / P.cellsOf ty) (p.sh + off) u 1 = true
    rw [hsz, Nat.zero_add]
    exact liesAt_mono _ _ _ _ _ _ _ hcount h4
  · cases h
theorem bytesOfL_spec : ∀ {l : List AV} {bs : List UInt8}, bytesOfL l = some bs → l.length = bs.length ∧ ∀ (i : Nat) (x : UInt8), bs[i]? = some x → l[i]? = some (.int .u8 x.toNat)
  | [], bs, h => by simp [bytesOfL] at h; subst h; simp
  | v :: l, bs, h => by
    unfold bytesOfL at h
    split at h
    · rename_i e; cases e
    · rename_i k l' e
      simp only [List.cons.injEq] at e
      obtain ⟨rfl, rfl⟩ := e
      split at h <;> try (cases h; done)
      rename_i hk
      split at h <;> simp at h
      rename_i r hr
      subst h
      obtain ⟨h1, h2⟩ := bytesOfL_spec hr
      have hk' : k < 256 := by simpa [Nat.blt_eq] using hk
      refine ⟨by simp [h1], fun i x hx => ?_⟩
      cases i with
      | zero =>
        simp at hx; subst hx
        simp only [List.getElem?_cons_zero]
        congr 1
        have : (UInt8.ofNat k).toNat = k := by simp; omega
        rw [this]; rfl
      | succ i => simpa using h2 i x (by simpa using hx)
    · cases h
theorem turn_freeze (a : Addr) (n : Nat) : Turn W (W.freeze a n) a.block := by
  unfold World.freeze
  split
  · exact ⟨fun _ _ => rfl, rfl, rfl, rfl, rfl⟩
  · refine ⟨fun c hc => ?_, by simp, rfl, rfl, rfl⟩
    simp only [Array.getElem?_modify]
    rw [if_neg (Ne.symm hc)]
theorem tk_take : ∀ {n : Nat} {l r : List AV}, tk n l = some r → r = l.take n ∧ n ≤ l.length
  | 0, l, r, h => by cases l <;> simp [tk] at h <;> subst h <;> simp
  | n + 1, [], r, h => by simp [tk] at h
  | n + 1, c :: l, r, h => by
    simp only [tk] at h
    split at h <;> simp at h
    rename_i r' hr
    subst h
    obtain ⟨h1, h2⟩ := tk_take hr
    exact ⟨by simp [h1], by simp; omega⟩
theorem aUStr_sound (hR : R sn ι H W) {t t2 ty0 : TypeId} {p r : AV} {m : Nat} {H' : AHeap} (h : aUStr P t p m H = some (r, H')) {p' : Value} (hp : VR sn ι p p') :
    ∃ v W', (Builtin.unsafeString_ #[t, t2] ty0 #[p', .int .i64 (Int.ofNat m)]).run P W = .ok v W' ∧ VR sn ι r v ∧ Stp sn ι H W sn ι H' W' := by
  unfold aUStr at h
  split at h
  · have hz : (Int.ofNat 0) = 0 := rfl
    split at h <;> simp at h
    · obtain ⟨rfl, rfl⟩ := h
      simp only [VR] at hp; subst hp
      exact ⟨_, W, Lib.run_unsafeString_none W t t2 ty0 none, vr_str rfl, Stp.refl hR⟩
    · obtain ⟨rfl, rfl⟩ := h
      simp only [VR] at hp; obtain ⟨q, _, rfl⟩ := hp
      exact ⟨_, W, Lib.run_unsafeString_none W t t2 ty0 _, vr_str rfl, Stp.refl hR⟩
  · rename_i m
    split at h <;> try (simp at h; done)
    rename_i b
    split at h <;> try (simp at h; done)
    rename_i o hb
    split at h <;> try (simp at h; done)
    rename_i cs ty hal hbd
    split at h <;> try (simp at h; done)
    rename_i e ht
    split at h <;> try (simp at h; done)
    rename_i hc
    split at h <;> try (simp at h; done)
    rename_i l hl
    split at h <;> simp at h
    rename_i bs hbs
    obtain ⟨rfl, rfl⟩ := h
    simp only [Bool.and_eq_true] at hc
    obtain ⟨⟨⟨c1, c2⟩, c3⟩, c4⟩ := hc
    have e1 := Nat.eq_of_beq_eq_true c1; subst e1
    simp only [VR] at hp
    obtain ⟨q, hq, rfl⟩ := hp
    have hsz := hR.shz b o q hb hq (Nat.eq_of_beq_eq_true c3)
    have hob := hR.obj b o q hb hal hq
    rw [hbd] at hob
    simp only [OR] at hob
    obtain ⟨arr, g1, g2, g3, g4⟩ := hob
    obtain ⟨k1, k2⟩ := tk_take hl
    obtain ⟨b1, b2⟩ := bytesOfL_spec hbs
    have hlen : bs.length = m + 1 := by rw [← b1, k1]; simp; omega
    have hrun := Lib.run_unsafeString_row (P := P) W t t2 ty0 e ht (Nat.eq_of_beq_eq_true c2) q.blk arr.size (shape_of_cells g1) bs (fun e => by rw [e] at hlen; simp at hlen) (by omega) (by rw [hlen]; exact Nat.le_of_ble_eq_true c4) (fun j x hx => by
      have h1 := b2 j x hx
      have hj : j < m + 1 := by rw [← hlen]; exact (List.getElem?_eq_some_iff.1 hx).1
      have h2 : cs[j]? = some (.int .u8 x.toNat) := by rw [k1, List.getElem?_take, if_pos hj] at h1; exact h1
      obtain ⟨v, h3, h4⟩ := g4 j _ h2
      rw [hsz, Nat.zero_add] at h3
      cases h4.int
      simp only [addr_add, Nat.zero_add, World.cell?, g1]
      exact h3)
    rw [hlen] at hrun
    refine ⟨.string ⟨bs.toArray⟩, _, ?_, by simp only [VR]; exact ⟨⟨bs.toArray⟩, rfl, rfl⟩, Stp.lose hR hb hal hq (turn_freeze ⟨q.blk, 0, none⟩ (m + 1))⟩
    rw [hsz]
    exact hrun
theorem aSliceA_sound (hR : R sn ι H W) {t : TypeId} {x : AV} {lo hi : Option AV} {u : AV} (h : aSliceA P t x lo hi H = some u) {x' : Value} (hx : VR sn ι x x') {lo' hi' : Option Value} (hlo : OVR sn ι lo lo') (hhi : OVR sn ι hi hi') :
    ∃ z, (Instr.sliceAt t x' lo' hi' none).run P W = .ok z W ∧ VR sn ι u z := by
  unfold aSliceA at h
  split at h <;> try (simp at h; done)
  rename_i b off
  split at h <;> try (simp at h; done)
  rename_i n e ht
  split at h <;> try (simp at h; done)
  rename_i z hz
  split at h <;> try (simp at h; done)
  rename_i o hb
  split at h <;> try (simp at h; done)
  rename_i cs ty hal hbd
  split at h <;> try (simp at h; done)
  rename_i hle
  split at h <;> try (simp at h; done)
  rename_i k hk
  split at h <;> simp at h
  subst h; rename_i l hl
  obtain ⟨p, hp, rfl⟩ := hx.ptr
  have hob := hR.obj b o p hb hal hp
  rw [hbd] at hob
  simp only [OR] at hob
  obtain ⟨arr, g1, g2, g3, g4⟩ := hob
  have hle := Nat.le_of_ble_eq_true hle
  obtain ⟨h1, h2, h3⟩ := sliceBounds_run (P := P) (isS := false) hk hl (Nat.le_refl _) (Nat.le_refl _) hlo hhi W
  refine ⟨.slice (some (if n = l then ⟨p.blk, p.sh + off, none⟩ else (⟨p.blk, p.sh + off, none⟩ : Addr).add (l * z))) (k - l) (n - l), ?_, ?_⟩
  · have hs : (Instr.sureAddr (Value.pointer (some (⟨p.blk, p.sh + off, none⟩ : Addr)))).run P W = .ok ⟨p.blk, p.sh + off, none⟩ W := by simp [Instr.sureAddr]
    simp only [Instr.sliceAt, hs, Sem.run_bind, run_underlying ht, Result.andThen_ok, h3, tsz_run hz, Sem.run_pure]
  · simp only [VR]
    have hm : (n - l) * z + l * z = n * z := by rw [← Nat.add_mul]; congr 1; omega
    refine ⟨p, _, n - l, hp, rfl, by omega, Nat.le_refl _, fun hne => ?_⟩
    rw [if_neg (by omega), addr_add]
    exact ⟨by rw [Nat.add_assoc], by omega⟩
theorem aConvB_sound (hR : R sn ι H W) {s d : TypeId} {x r : AV} (h : aConvB P s d x H = some r) {x' : Value} (hx : VR sn ι x x') :
    ∃ v W' sn', (convert s d x').run P W = .ok v W' ∧ VR sn' ι r v ∧ Stp sn ι H W sn' ι H W' := by
  unfold aConvB at h
  split at h <;> try (simp at h; done)
  case h_2 b off =>
    split at h <;> simp at h
    rename_i hc
    subst h
    exact ⟨x', W, sn, aConvP_sound hR hc hx, hx, Stp.refl hR⟩
  rename_i bs
  obtain ⟨ba, rfl, hba⟩ := hx.str
  split at h <;> try (simp at h; done)
  rename_i e hs hd
  split at h <;> simp at h
  rename_i he
  subst h
  have hrun := run_bytes_of_string W s d e ba hs hd he
  generalize hcap : grownCap W ba.size 0 e = cap at hrun
  generalize hrow : bytesRow ba cap = row at hrun
  have hext : Ext W (W.drew.alloc (.cells row e (row.size, row.size + 1))) := by
    refine ⟨fun c hc => ?_, ?_, rfl, rfl, rfl⟩
    · have h1 := Below.heap_alloc W.drew (.cells row e (row.size, row.size + 1)) c hc
      rw [h1]; rfl
    · simp
  refine ⟨_, _, _, hrun, ?_, Stp.snap hR hext⟩
  have hlen : ba.size = bs.length := by rw [← hba]; simp
  simp only [VR]
  refine .inr ⟨⟨W.heap.size, 0, none⟩, cap, by rw [hlen], ?_, by simp, ?_, fun _ => rfl⟩
  · rw [← hcap, hlen.symm]; exact grownCap_ge W ba.size 0 e
  · have key : ∀ (l : List UInt8) (k : Nat), (∀ (i : Nat) (c : UInt8), l[i]? = some c → row[k + i]? = some (.int .u8 c.toNat)) → MR (snx sn W.heap.size (W.drew.alloc (.cells row e (row.size, row.size + 1)))) (l.map fun b => .int .u8 b.toNat) W.heap.size k := by
      intro l
      induction l with
      | nil => intro k _; simp [MR]
      | cons c l ih =>
        intro k hk
        simp only [List.map_cons, MR]
        refine ⟨⟨.int .u8 c.toNat, ?_, by simp [VR]⟩, ih (k + 1) fun i x hx => by have := hk (i + 1) x (by simpa using hx); rwa [show k + (i + 1) = k + 1 + i from by omega] at this⟩
        have h0 := hk 0 c rfl
        simp only [snx, if_neg (Nat.lt_irrefl _)]
        have hb : (W.drew.alloc (.cells row e (row.size, row.size + 1))).heap[W.heap.size]? = some (.cells row e (row.size, row.size + 1)) := heap_alloc_new W.drew _
        simp only [World.cell?, hb]
        simpa using h0
    refine key bs 0 fun i c hc => ?_
    have hil : i < ba.data.size := by obtain ⟨h1, _⟩ := List.getElem?_eq_some_iff.1 hc; rw [← hba] at h1; simpa using h1
    rw [← hrow, bytesRow, Array.getElem?_append_left (by simpa using hil)]
    simp only [Nat.zero_add, Array.getElem?_map]
    have : ba.data[i]? = some c := by rw [← hba] at hc; simpa using hc
    rw [this]; rfl
theorem aConvR_sound (hR : RO sn ι H W) {s d : TypeId} {u r : AV} (hty : aConvS P s d = true) (h : aConvR u H = some r) {x' : Value} (hx : VR sn ι u x') : ∃ z, (convert s d x').run P W = .ok z W ∧ VR sn ι r z := by
  unfold aConvR at h
  split at h <;> try (simp at h; done)
  rename_i b off len cap z
  split at h <;> try (simp at h; done)
  split at h <;> try (simp at h; done)
  rename_i o hb
  split at h <;> try (simp at h; done)
  rename_i cs ty hal hbd
  split at h <;> try (simp at h; done)
  rename_i l hl
  split at h <;> simp at h
  rename_i bs hbs
  subst h
  unfold aConvS at hty
  split at hty <;> try (simp at hty; done)
  rename_i e hs hd
  split at hty <;> try (simp at hty; done)
  rename_i he
  obtain ⟨p, a, cap', hp, rfl, c1, c2, c3⟩ := hx.slice
  have hob := hR.obj b o p hb hal hp
  rw [hbd] at hob
  simp only [OR] at hob
  obtain ⟨arr, g1, g2, g3, g4⟩ := hob
  obtain ⟨k1, k2⟩ := tk_some hl
  obtain ⟨b1, b2⟩ := bytesOfL_spec hbs
  have hlen : bs.length = len := by rw [← b1, k2, List.length_take]; omega
  have hrun := run_convert_bytes_back (P := P) W s d e a cap' bs hs he hd (fun j hj => by
    have h1 := b2 j bs[j] (List.getElem?_eq_getElem hj)
    have hj' : j < len := by omega
    have h2 : cs[off + j]? = some (.int .u8 bs[j].toNat) := by rw [k2, List.getElem?_take, if_pos hj', List.getElem?_drop] at h1; exact h1
    obtain ⟨v, h3, h4⟩ := g4 _ _ h2
    cases h4.int
    obtain ⟨ha, _⟩ := c3 (by omega)
    subst ha
    simp only [addr_add, World.cell?, g1]
    rw [Nat.add_assoc]; exact h3)
  rw [hlen] at hrun
  exact ⟨_, hrun, by simp only [VR]; exact ⟨⟨bs.toArray⟩, rfl, rfl⟩⟩
theorem aSlice3_sound {t : TypeId} {x : AV} {lo : Option AV} {hi mx u : AV} (h : aSlice3 P t x lo hi mx = some u) {x' : Value} (hx : VR sn ι x x') {lo' : Option Value} {hi' mx' : Value} (hlo : OVR sn ι lo lo') (hhi : VR sn ι hi hi') (hmx : VR sn ι mx mx') (w : World) :
    ∃ z, (Instr.sliceAt t x' lo' (some hi') (some mx')).run P w = .ok z w ∧ VR sn ι u z := by
  unfold aSlice3 at h
  split at h <;> try (simp at h; done)
  rename_i b off len cap z
  split at h <;> try (simp at h; done)
  rename_i e ht
  split at h <;> try (simp at h; done)
  rename_i z' hz
  split at h <;> try (simp at h; done)
  rename_i hzz; subst hzz
  split at h <;> try (simp at h; done)
  rename_i m hm
  split at h <;> try (simp at h; done)
  rename_i k hk
  split at h <;> simp at h
  subst h; rename_i l hl
  obtain ⟨p, a, cap', hp, rfl, hlc, hcc, hne⟩ := hx.slice
  rcases bnd_spec hm (x' := some mx') ⟨_, rfl, hmx⟩ with ⟨e1, _⟩ | ⟨km, im, e1, m0, m1, rfl⟩
  · cases e1
  rcases bnd_spec hk (x' := some hi') ⟨_, rfl, hhi⟩ with ⟨e2, _⟩ | ⟨kh, ih, e2, h0, h1, rfl⟩
  · cases e2
  cases e1; cases e2
  have hmc : im ≤ (cap' : Int) := by omega
  have hb : (Instr.sliceBounds true len cap' lo' (some (.int kh ih)) (some (.int km im))).run P w = .ok (l, ih.toNat, im.toNat) w ∧ l ≤ ih.toNat := by
    have hih : (ih : Int) ≤ (im.toNat : Int) := by omega
    rcases bnd_spec hl hlo with ⟨rfl, rfl⟩ | ⟨k', j, rfl, j0, j1, rfl⟩
    · refine ⟨?_, by omega⟩
      simp [Instr.sliceBounds, Instr.sliceBound, asIntOf, m0, hmc, h0]
      omega
    · refine ⟨?_, by omega⟩
      have hj : (j : Int) ≤ (ih.toNat : Int) := by omega
      simp only [Instr.sliceBounds, Instr.sliceBound, asIntOf, Sem.run_bind, Sem.run_pure, Result.andThen_ok, m0, hmc, h0, hih, j0, hj, and_self, if_true]
  obtain ⟨h3, h4⟩ := hb
  refine ⟨.slice (if im.toNat = l then some a else (some a).map (·.add (l * z'))) (ih.toNat - l) (im.toNat - l), ?_, ?_⟩
  · simp only [Instr.sliceAt, Instr.slice, Sem.run_bind, run_underlying ht, Result.andThen_ok, h3, tsz_run hz, Sem.run_pure]
  · simp only [VR]
    by_cases hcl : im.toNat = l
    · exact ⟨p, a, im.toNat - l, hp, by simp [hcl], by omega, by omega, by omega⟩
    · refine ⟨p, a.add (l * z'), im.toNat - l, hp, by simp [hcl], by omega, by omega, fun _ => ?_⟩
      obtain ⟨rfl, hb⟩ := hne (by omega)
      refine ⟨by rw [addr_add, Nat.add_assoc], ?_⟩
      have h5 : l * z' + (im.toNat - l) * z' = im.toNat * z' := by rw [← Nat.add_mul]; congr 1; omega
      have h6 : im.toNat * z' ≤ cap' * z' := Nat.mul_le_mul_right _ (by omega)
      omega
theorem apure'_sound (hR : RO sn ι H W) {ρ : Operand → Option AV} {ρ' : Operand → Value} (hρ : ∀ x u, ρ x = some u → VR sn ι u (ρ' x))
    {o : Oper} {r : AV} (h : apure' P ρ H o = some r) : ∃ v, (execOp ρ' o).run P W = .ok (.value v) W ∧ VR sn ι r v := by
  unfold apure' at h
  split at h
  · rename_i t x lo hi mx hop
    split at h <;> try (simp at h; done)
    rename_i u lo1 hi1 mx1 hu hlo hhi hmx
    obtain ⟨z, h1, h2⟩ := aSlice3_sound h (hρ _ _ hu) (aopt_sound hρ _ _ hlo) (hρ _ _ hhi) (hρ _ _ hmx) W
    exact ⟨z, by simp only [execOp, hop, Option.map_some, Sem.run_bind, h1, Result.andThen_ok, Sem.run_pure], h2⟩
  · rename_i op t x y yt hop
    split at h <;> try (simp at h; done)
    rename_i a b ha hb
    obtain ⟨z, h1, h2⟩ := aBin2_sound h (hρ _ _ ha) (hρ _ _ hb) W
    exact ⟨z, by simp only [execOp, hop]; rw [Sem.run_bind, h1]; rfl, h2⟩
  · rename_i t m k ok hop
    split at h <;> try (simp at h; done)
    rename_i a b ha hb
    obtain ⟨z, h1, h2⟩ := aLookup_sound hR h (hρ _ _ ha) (hρ _ _ hb)
    exact ⟨z, by simp only [execOp, hop, Sem.run_bind, h1, Result.andThen_ok, Sem.run_pure], h2⟩
  · rename_i s d x hop
    split at h
    · rename_i hu
      split at h <;> try (simp at h; done)
      rename_i hty
      obtain ⟨z, h1, h2⟩ := aConvR_sound hR hty h (hρ _ _ hu)
      exact ⟨z, by simp only [execOp, hop, Sem.run_bind, h1, Result.andThen_ok, Sem.run_pure], h2⟩
    · exact apure_sound hR hρ h
  · exact apure_sound hR hρ h
theorem aeff_sound (hR : R sn ι H W) {ρ : Operand → Option AV} {ρ' : Operand → Value} (hρ : ∀ x u, ρ x = some u → VR sn ι u (ρ' x))
    {o : Oper} {r : AV} {H' : AHeap} (h : aeff P ρ H o = some (r, H')) : ∃ v W' sn' ι', Done P (execOp ρ' o) W v W' ∧ VR sn' ι' r v ∧ Stp sn ι H W sn' ι' H' W' := by
  have wrap : ∀ (s : Sem Value), execOp ρ' o = (do pure (.value (← s)) : Sem Next) → (∃ v W' ι', s.run P W = .ok v W' ∧ VR sn ι' r v ∧ Stp sn ι H W sn ι' H' W') →
      ∃ v W' sn' ι', Done P (execOp ρ' o) W v W' ∧ VR sn' ι' r v ∧ Stp sn ι H W sn' ι' H' W' := by
    rintro s e ⟨v, W', ι', h1, h2, h3⟩
    exact ⟨v, W', sn, ι', .inl (by rw [e]; simp only [Sem.run_bind, h1, Result.andThen_ok, Sem.run_pure]), h2, h3⟩
  have wrapu : ∀ (s : Sem Unit), r = .tuple [] → execOp ρ' o = (do s; pure .skip : Sem Next) → (∃ W', s.run P W = .ok () W' ∧ Stp sn ι H W sn ι H' W') →
      ∃ v W' sn' ι', Done P (execOp ρ' o) W v W' ∧ VR sn' ι' r v ∧ Stp sn ι H W sn' ι' H' W' := by
    rintro s rfl e ⟨W', h1, h3⟩
    exact ⟨undef, W', sn, ι, .inr ⟨by rw [e]; simp only [Sem.run_bind, h1, Result.andThen_ok, Sem.run_pure], rfl⟩, vr_undef, h3⟩
  unfold aeff at h
  cases hop : o.op with
  | alloc e => simp only [hop] at h; exact wrap _ (by simp only [execOp, hop]) (aAlloc_sound hR h)
  | box e x =>
    simp only [hop] at h; split at h <;> try (simp at h; done)
    rename_i u hu
    exact wrap _ (by simp only [execOp, hop]) (aBox_sound hR h (hρ _ _ hu))
  | buildSlice t len ps =>
    simp only [hop] at h; split at h <;> try (simp at h; done)
    rename_i us hus
    exact wrap (Instr.buildSlice t len (ps.map fun (i, x) => (i, ρ' x))) (by simp only [execOp, hop]) (aBuildSlice_sound hR h (by rw [Array.toList_map]; exact aparts_sound hρ _ _ hus))
  | makeSlice t l c =>
    simp only [hop] at h; split at h <;> try (simp at h; done)
    rename_i a b ha hb
    exact wrap _ (by simp only [execOp, hop]) (aMakeSlice_sound hR h (hρ _ _ ha) (hρ _ _ hb))
  | makeMap t r' =>
    cases r' with
    | some x => simp [hop] at h
    | none =>
      simp [hop] at h
      obtain ⟨rfl, rfl⟩ := h
      refine wrap (Instr.makeMap t none) (by simp only [execOp, hop, Option.map_none]) ⟨.map (some W.heap.size), W.alloc (.map #[] 0), upd ι H.length ⟨W.heap.size, 0, 0⟩, ?_, ?_, ?_⟩
      · simp [Instr.makeMap, run_newObj_alloc]
      · simp only [VR]; exact ⟨_, upd_self _ _ _, rfl⟩
      · exact Stp.alloc hR ⟨true, H.length, 0, .map [] 0⟩ (.map #[] 0) 0 fun _ => ⟨#[], heap_alloc_new W _, by simp [ER]⟩
  | store t a x =>
    simp only [hop] at h; split at h <;> try (simp at h; done)
    rename_i u v hu hv
    split at h <;> simp at h
    rename_i H1 hw
    obtain ⟨rfl, rfl⟩ := h
    exact wrapu _ rfl (by simp only [execOp, hop]) (aStore_sound hR hw (hρ _ _ hu) (hρ _ _ hv))
  | mapUpdate t m k x =>
    simp only [hop] at h; split at h <;> try (simp at h; done)
    rename_i u v w hu hv hw'
    split at h <;> simp at h
    rename_i H1 hw
    obtain ⟨rfl, rfl⟩ := h
    exact wrapu _ rfl (by simp only [execOp, hop]) (aMapSet_sound hR hw (hρ _ _ hu) (hρ _ _ hv) (hρ _ _ hw'))
  | insert t m k x =>
    simp only [hop] at h; split at h <;> try (simp at h; done)
    rename_i u v w hu hv hw'
    split at h <;> simp at h
    rename_i H1 hw
    obtain ⟨rfl, rfl⟩ := h
    exact wrapu _ rfl (by simp only [execOp, hop]) (aMapSet_sound hR hw (hρ _ _ hu) (hρ _ _ hv) (hρ _ _ hw'))
  | slice t x lo hi mx =>
    cases mx with
    | some y => simp [hop] at h
    | none =>
      simp only [hop] at h; split at h <;> try (simp at h; done)
      rename_i u lo1 hi1 hu hlo hhi
      split at h <;> simp at h
      rename_i r' hr
      obtain ⟨rfl, rfl⟩ := h
      obtain ⟨v, h1, h2⟩ := aSliceA_sound hR hr (hρ _ _ hu) (aopt_sound hρ _ _ hlo) (aopt_sound hρ _ _ hhi)
      exact ⟨v, W, sn, ι, .inl (by simp only [execOp, hop, Option.map_none, Sem.run_bind, h1, Result.andThen_ok, Sem.run_pure]), h2, Stp.refl hR⟩
  | convert s d x =>
    simp only [hop] at h; split at h <;> try (simp at h; done)
    rename_i u hu
    split at h <;> simp at h
    rename_i r' hr
    obtain ⟨rfl, rfl⟩ := h
    obtain ⟨v, W', sn', h1, h2, h3⟩ := aConvB_sound hR hr (hρ _ _ hu)
    exact ⟨v, W', sn', ι, .inl (by simp only [execOp, hop, Sem.run_bind, h1, Result.andThen_ok, Sem.run_pure]), h2, h3⟩
  | call c =>
    simp only [hop] at h
    split at h <;> try (simp at h; done)
    · rename_i hc
      split at h <;> try (simp at h; done)
      rename_i s x t t2 hx ht
      split at h <;> try (simp at h; done)
      rename_i u v hu hv
      have hx' : c.args = #[s, x] := by apply Array.ext'; simpa using hx
      have ht' : c.argTypes = #[t, t2] := by apply Array.ext'; simpa using ht
      obtain ⟨v', W', ι', h1, h2, h3⟩ := aAppend_sound (ty := o.type) hR h (hρ _ _ hu) (hρ _ _ hv)
      refine ⟨v', W', sn, ι', .inl ?_, h2, h3⟩
      simp only [execOp, hop, resolve, hc, invoke, builtin, Sem.run_bind, Sem.run_pure, Result.andThen_ok, hx', ht', List.map_toArray, List.map_cons, List.map_nil, h1]
    · rename_i hc
      split at h <;> try (simp at h; done)
      rename_i x t hx ht
      have hx' : c.args = #[x] := by apply Array.ext'; simpa using hx
      have ht' : c.argTypes = #[t] := by apply Array.ext'; simpa using ht
      split at h <;> simp at h
      rename_i hu htt
      obtain ⟨rfl, rfl⟩ := h
      have he := (hρ _ _ hu).nslice
      refine ⟨.int .i64 0, W, sn, ι, .inl ?_, vr_int _ _, Stp.refl hR⟩
      simp [execOp, hop, resolve, hc, invoke, builtin, Builtin.cap_, hx', ht', he, run_underlying htt, goInt]
    · rename_i hc
      split at h <;> try (simp at h; done)
      rename_i x t hx ht
      have hx' : c.args = #[x] := by apply Array.ext'; simpa using hx
      have ht' : c.argTypes = #[t] := by apply Array.ext'; simpa using ht
      split at h <;> try (simp at h; done)
      rename_i u hu
      split at h <;> simp at h
      rename_i H1 hcl
      obtain ⟨rfl, rfl⟩ := h
      obtain ⟨W', h1, h2⟩ := aClear_sound (ty := o.type) hR hcl (hρ _ _ hu)
      refine ⟨.tuple #[], W', sn, ι, .inl ?_, by simp [VR, LR], h2⟩
      simp only [execOp, hop, resolve, hc, invoke, builtin, Sem.run_bind, Sem.run_pure, Result.andThen_ok, hx', ht', List.map_toArray, List.map_cons, List.map_nil, h1]
    · rename_i hc
      split at h <;> try (simp at h; done)
      rename_i x hx
      have hx' : c.args = #[x] := by apply Array.ext'; simpa using hx
      split at h <;> simp at h
      · rename_i b off l cp z hu
        obtain ⟨rfl, rfl⟩ := h
        obtain ⟨p, a, cap', hp, he, _, hcc, hne⟩ := (hρ _ _ hu).slice
        obtain ⟨rfl, _⟩ := hne (by omega)
        have hrun := Lib.run_unsafeSliceData_row (P := P) W c.argTypes o.type ⟨p.blk, p.sh + off, none⟩ l cap' (by omega)
        rw [← he] at hrun
        refine ⟨.pointer (some ⟨p.blk, p.sh + off, none⟩), W, sn, ι, .inl ?_, ?_, Stp.refl hR⟩
        · simp only [execOp, hop, resolve, hc, invoke, builtin, Sem.run_bind, Sem.run_pure, Result.andThen_ok, hx', List.map_toArray, List.map_cons, List.map_nil, hrun]
        · simp only [VR]; exact ⟨p, hp, rfl⟩
      · rename_i hu
        obtain ⟨rfl, rfl⟩ := h
        have he := (hρ _ _ hu)
        simp only [VR] at he
        have hrun := Lib.run_unsafeSliceData_nil (P := P) W c.argTypes o.type 0 0
        rw [← he] at hrun
        refine ⟨.pointer none, W, sn, ι, .inl ?_, ?_, Stp.refl hR⟩
        · simp only [execOp, hop, resolve, hc, invoke, builtin, Sem.run_bind, Sem.run_pure, Result.andThen_ok, hx', List.map_toArray, List.map_cons, List.map_nil, hrun]
        · simp only [VR]
    · rename_i hc
      split at h <;> try (simp at h; done)
      rename_i x y t t2 hx ht
      have hx' : c.args = #[x, y] := by apply Array.ext'; simpa using hx
      have ht' : c.argTypes = #[t, t2] := by apply Array.ext'; simpa using ht
      split at h <;> try (simp at h; done)
      rename_i p m hu hv
      obtain ⟨v', W', h1, h2, h3⟩ := aUStr_sound (t2 := t2) (ty0 := o.type) hR h (hρ _ _ hu)
      have he := hρ _ _ hv
      simp only [VR] at he
      rw [← he] at h1
      refine ⟨v', W', sn, ι, .inl ?_, h2, h3⟩
      simp only [execOp, hop, resolve, hc, invoke, builtin, Sem.run_bind, Sem.run_pure, Result.andThen_ok, hx', ht', List.map_toArray, List.map_cons, List.map_nil, h1]
    · rename_i hc
      split at h <;> try (simp at h; done)
      rename_i s x t t2 hx ht
      split at h <;> try (simp at h; done)
      rename_i u v hu hv
      have hx' : c.args = #[s, x] := by apply Array.ext'; simpa using hx
      have ht' : c.argTypes = #[t, t2] := by apply Array.ext'; simpa using ht
      obtain ⟨v', W', h1, h2, h3⟩ := aCopy_sound (t2 := t2) (ty := o.type) hR h (hρ _ _ hu) (hρ _ _ hv)
      refine ⟨v', W', sn, ι, .inl ?_, h2, h3⟩
      simp only [execOp, hop, resolve, hc, invoke, builtin, Sem.run_bind, Sem.run_pure, Result.andThen_ok, hx', ht', List.map_toArray, List.map_cons, List.map_nil, h1]
  | _ => simp [hop] at h
end eff
def GlOK (gl : Glob) (sn : Snap) : Prop := ∀ g cs, gl g = some cs → MR sn cs g 0
abbrev Orc := Nat → List AV → AHeap → Option (AV × AHeap)
def Fq (r : Option Nat) : Fence := { fn := fun _ => True, depth := none, alive := false, round := r }
def YieldC (P : Program) (l : Nat) (args : Array Value) (W : World) (Q : Ending → World → Prop) : Prop :=
  ∃ fn tmps asg bd, (Instr.yield l args).run P W = .ok (.round l fn tmps asg bd) W ∧ RoundIn (Fq none) 0 P l fn tmps asg bd W Q
def ykey (l : Nat) : Nat := Nat.add l 1024
def ymark (l : Nat) : AV := .tuple [.int .i64 (Int.ofNat l), .rs 1 1 []]
def CallsY (P : Program) (f : Nat) (args : Array Value) (W : World) (Q : Ending → World → Prop) : Prop :=
  Calls P f args W Q ∨ ∃ l, f = ykey l ∧ P.funcs[f]? = none ∧ YieldC P l args W Q
theorem CallsY.mono {P : Program} {f : Nat} {args : Array Value} {W : World} {Q Q' : Ending → World → Prop} (h : CallsY P f args W Q) (hq : ∀ e w, Q e w → Q' e w) : CallsY P f args W Q' := by
  rcases h with h | ⟨l, h1, h2, fn, tmps, asg, bd, h3, h4⟩
  · exact .inl (h.mono hq)
  · exact .inr ⟨l, h1, h2, fn, tmps, asg, bd, h3, h4.mono hq⟩
theorem _root_.Go.Calls.monoY {P : Program} {f : Nat} {args : Array Value} {W : World} {Q Q' : Ending → World → Prop} (h : Calls P f args W Q) (hq : ∀ e w, Q e w → Q' e w) : CallsY P f args W Q' := .inl (h.mono hq)
theorem CallsY.calls {P : Program} {f : Nat} {fn : Func} {args : Array Value} {W : World} {Q : Ending → World → Prop} (h : CallsY P f args W Q) (hf : P.funcs[f]? = some fn) : Calls P f args W Q := by
  rcases h with h | ⟨l, _, h2, _⟩
  · exact h
  · rw [hf] at h2; cases h2
theorem CallsY.yields {P : Program} {l : Nat} {args : Array Value} {W : World} {Q : Value → World → Prop} (h : CallsY P (ykey l) args W fun e W' => ∃ v, e = .returned v ∧ Q v W') (hf : P.funcs[ykey l]? = none) : YieldC P l args W fun e W' => ∃ v, e = .returned v ∧ Q v W' := by
  rcases h with h | ⟨l', h1, h2, h3⟩
  · exfalso
    obtain ⟨e, w', fr, ⟨v, rfl, _⟩, _, hfn, hl⟩ := h []
    obtain ⟨_, _, _, fn, hfn', _⟩ := hl
    rw [hfn] at hfn'
    rw [hf] at hfn'; cases hfn'
  · have : l' = l := by unfold ykey at h1; have := Nat.add_right_cancel (show l + 1024 = l' + 1024 from h1); omega
    subst this; exact h3
def OrcSound (P : Program) (gl : Glob) (orc : Orc) : Prop :=
  ∀ f args H r H', orc f args H = some (r, H') → ∀ sn ι W (cargs : List Value), GlOK gl sn → R sn ι H W → LR sn ι args cargs →
    CallsY P f cargs.toArray W fun e W' => ∃ v sn' ι', e = .returned v ∧ VR sn' ι' r v ∧ Stp sn ι H W sn' ι' H' W'
def callee (ρ : Operand → Option AV) (c : Call) : Option (Nat × List AV) :=
  match c.callee with
  | .value f => match ρ f, aevals ρ c.args.toList with
    | some (.func (.func g) first captured), some args => some (g, first ++ args ++ captured)
    | some (.func (.yield l) [] []), some args => some (ykey l, ymark l :: args)
    | _, _ => none
  | _ => none
theorem callee_cases {ρ : Operand → Option AV} {c : Call} {g : Nat} {args : List AV} (h : callee ρ c = some (g, args)) : ∃ f, c.callee = .value f ∧
    ((∃ first captured args', ρ f = some (.func (.func g) first captured) ∧ aevals ρ c.args.toList = some args' ∧ args = first ++ args' ++ captured) ∨
      ∃ l args', ρ f = some (.func (.yield l) [] []) ∧ aevals ρ c.args.toList = some args' ∧ g = ykey l ∧ args = ymark l :: args') := by
  unfold callee at h
  split at h <;> try (simp at h; done)
  rename_i f hc
  split at h <;> try (simp at h; done)
  · rename_i g' first captured args' hf hargs
    simp only [Option.some.injEq, Prod.mk.injEq] at h
    obtain ⟨rfl, rfl⟩ := h
    exact ⟨f, hc, .inl ⟨_, _, _, hf, hargs, rfl⟩⟩
  · rename_i l args' hf hargs
    simp only [Option.some.injEq, Prod.mk.injEq] at h
    obtain ⟨rfl, rfl⟩ := h
    exact ⟨f, hc, .inr ⟨_, _, hf, hargs, rfl, rfl⟩⟩
def hasBody (P : Program) (g : Nat) : Bool := match P.funcs[g]? with | some fn => fn.body.isSome | none => false
structure NoNum (P : Program) : Prop where
  num : ∀ (g : Nat) (fn : Func), P.funcs[g]? = some fn → (fn.name == "runtime.NumGoroutine") = false
  few : P.funcs.size ≤ 1024
theorem NoNum.key {P : Program} (h : NoNum P) (l : Nat) : P.funcs[ykey l]? = none := by
  rw [Array.getElem?_eq_none_iff]; have := h.few; unfold ykey; show P.funcs.size ≤ l + 1024; omega
theorem NoNum.noBody {P : Program} (h : NoNum P) (l : Nat) : hasBody P (ykey l) = false := by unfold hasBody; rw [h.key]
def extId (P : Program) (g : Nat) (args : List AV) : Option AV :=
  match P.funcs[g]? with
  | some fn => if fn.body.isNone = true ∧ fn.name = "internal/abi.NoEscape" ∧ fn.origin = "" then (match args with | [x] => some x | _ => none) else none
  | none => none
def ixB (c : UInt8) : List UInt8 → Nat → Int
  | [], _ => -1
  | b :: l, i => bif Nat.beq b.toNat c.toNat then Int.ofNat i else ixB c l (Nat.add i 1)
def extIx (P : Program) (g : Nat) (args : List AV) : Option AV :=
  match P.funcs[g]? with
  | some fn => if fn.body.isNone = true ∧ fn.name = "internal/bytealg.IndexByteString" ∧ fn.origin = "" then
      (match args with | [.str s, .int .u8 (.ofNat m)] => some (.int .i64 (ixB (UInt8.ofNat m) s 0)) | _ => none)
    else if fn.body.isNone = true ∧ fn.name = "internal/bytealg.CountString" ∧ fn.origin = "" then
      (match args with | [.str s, .int .u8 (.ofNat m)] => some (.int .i64 (s.count (UInt8.ofNat m) : Nat)) | _ => none)
    else none
  | none => none
def extMk (P : Program) (g : Nat) : Option TypeId :=
  match P.funcs[g]? with
  | some fn => if fn.body.isNone = true ∧ fn.name = "internal/bytealg.MakeNoZero" ∧ fn.origin = "" then
      (match fn.resultTypes.toList with
        | t :: _ => (match P.underlying t with | some (.slice e) => some e | _ => none)
        | [] => none) else none
  | none => none
def yl (orc : Orc) (H : AHeap) (g : Nat) : List AV → Option (AV × AHeap)
  | .tuple [.int .i64 (.ofNat l), .rs 1 1 []] :: args => if g = ykey l then orc g args H else none
  | _ => none
theorem yl_some {orc : Orc} {H : AHeap} {g : Nat} {args : List AV} {x : AV × AHeap} (h : yl orc H g args = some x) : ∃ l args', args = ymark l :: args' ∧ g = ykey l ∧ orc g args' H = some x := by
  unfold yl at h
  split at h
  · rename_i l args'
    split at h
    · rename_i e; exact ⟨l, args', rfl, e, h⟩
    · cases h
  · cases h
theorem ymark_none {sn : Snap} {ι : IMap} {l : Nat} {args : List AV} {vs : List Value} (h : LR sn ι (ymark l :: args) vs) : False := by
  simp only [LR] at h
  obtain ⟨d, ds, _, h1, _⟩ := h
  obtain ⟨e, _, h2⟩ := VR.tuple h1
  simp only [LR] at h2
  obtain ⟨_, _, _, _, d2, ds2, _, h3, _⟩ := h2
  rcases h3.rs with ⟨h4, _⟩ | ⟨_, _, _, _, h4, _⟩
  · cases h4
  · simp at h4
def acall (P : Program) (orc : Orc) (H : AHeap) (g : Nat) (args : List AV) : Option (AV × AHeap) :=
  if hasBody P g then orc g args H else match extId P g args with
    | some x => some (x, H)
    | none => match extIx P g args with
      | some x => some (x, H)
      | none => match extMk P g, args with
        | some e, [.int .i64 (.ofNat m)] => if m ≤ 281474976710656 then some (.slice H.length 0 m m 1, H ++ [⟨true, H.length, 0, .cells [] e⟩]) else none
        | _, _ => yl orc H g args
section call
variable {P : Program} {sn : Snap} {ι : IMap} {H : AHeap} {W : World}
theorem ext_noEscape {fn : Func} (h1 : fn.name = "internal/abi.NoEscape") (h2 : fn.origin = "") : Extern.findNext fn = none ∧ Extern.find fn = some Extern.AbiNoEscape.same := by
  constructor
  · unfold Extern.findNext; simp only [h1, h2]; rfl
  · unfold Extern.find; simp only [h1, h2]; rfl
theorem ext_indexByte {fn : Func} (h1 : fn.name = "internal/bytealg.IndexByteString") (h2 : fn.origin = "") : Extern.findNext fn = none ∧ Extern.find fn = some Extern.BytealgIndexByte.indexByte := by
  constructor
  · unfold Extern.findNext; simp only [h1, h2]; rfl
  · unfold Extern.find; simp only [h1, h2]; rfl
theorem ext_countString {fn : Func} (h1 : fn.name = "internal/bytealg.CountString") (h2 : fn.origin = "") : Extern.findNext fn = none ∧ Extern.find fn = some Extern.BytealgCount.count := by
  constructor
  · unfold Extern.findNext; simp only [h1, h2]; rfl
  · unfold Extern.find; simp only [h1, h2]; rfl
theorem ixB_spec (s : ByteArray) (c : UInt8) : ∀ (l : List UInt8) (k : Nat), (∀ (j : Nat) (h : j < l.length), s[k + j]! = l[j]) →
    (match (List.range' k l.length).find? (fun i => s[i]! == c) with | some i => (i : Int) | none => -1) = ixB c l k
  | [], k, h => by simp [ixB]
  | b :: l, k, h => by
    have h0 : s[k]! = b := h 0 (by simp)
    have ih := ixB_spec s c l (k + 1) fun j hj => by have := h (j + 1) (by simpa using hj); rw [show k + 1 + j = k + (j + 1) from by omega]; simpa using this
    simp only [List.length_cons, List.range'_succ, List.find?_cons, h0, ixB]
    by_cases e : b = c
    · subst e; simp
    · have e1 : (b == c) = false := by simpa using e
      have e2 : Nat.beq b.toNat c.toNat = false := by
        cases q : Nat.beq b.toNat c.toNat with
        | false => rfl
        | true => exact absurd (UInt8.toNat.inj (Nat.eq_of_beq_eq_true q)) e
      simp only [e1, e2, cond_false]
      exact ih
theorem firstIdx_ixB (s : ByteArray) (c : UInt8) : firstIdx s c = ixB c s.data.toList 0 := by
  have hsz : s.data.toList.length = s.size := by cases s; rfl
  have := ixB_spec s c s.data.toList 0 fun j hj => by
    rw [Nat.zero_add, getElem!_pos s j (by omega)]; rfl
  rw [← this, hsz, ← List.range_eq_range']; rfl
theorem ext_makeNoZero {fn : Func} (h1 : fn.name = "internal/bytealg.MakeNoZero") (h2 : fn.origin = "") : Extern.findNext fn = none ∧ Extern.find fn = some (Extern.BytealgMakeNoZero.makeNoZero fn.params fn.resultTypes) := by
  constructor
  · unfold Extern.findNext; simp only [h1, h2]; rfl
  · unfold Extern.find; simp only [h1, h2]; rfl
theorem callee_sound (hn : NoNum P) {ρ : Operand → Option AV} {ρ' : Operand → Value} (hρ : ∀ x u, ρ x = some u → VR sn ι u (ρ' x)) {o : Oper} {c : Call} (ho : o.op = .call c) {g : Nat} {args : List AV} (h : callee ρ c = some (g, args)) (hb : hasBody P g = true) (w : World) :
    ∃ cargs : List Value, LR sn ι args cargs ∧ (execOp ρ' o).run P w = .ok (.enter g cargs.toArray) w := by
  obtain ⟨f, hc, ⟨first, captured, args', hf, hargs, rfl⟩ | ⟨l, args', hf, hargs, rfl, rfl⟩⟩ := callee_cases h
  case inr => rw [hn.noBody] at hb; cases hb
  obtain ⟨f', c', hfv, h1, h2⟩ := (hρ _ _ hf).func
  have h3 := aevals_sound hρ _ _ hargs
  have hlr := (h1.append h3).append h2
  refine ⟨_, hlr, ?_⟩
  unfold hasBody at hb
  cases hfn : P.funcs[g]? with
  | none => simp [hfn] at hb
  | some fn =>
    simp only [hfn] at hb
    have hbn : fn.body.isNone = false := by cases hfb : fn.body with | none => simp [hfb] at hb | some _ => rfl
    simp only [execOp, ho, resolve, hc, Deferred.ofValue, hfv, Sem.run_bind, Sem.run_pure, Result.andThen_ok, invoke, callFunc, run_program, hfn, hn.num _ fn hfn, hbn, Bool.false_eq_true, if_false]
    congr 2
    apply Array.ext'; simp
theorem callee_ext (hn : NoNum P) {ρ : Operand → Option AV} {ρ' : Operand → Value} (hρ : ∀ x u, ρ x = some u → VR sn ι u (ρ' x)) {o : Oper} {c : Call} (ho : o.op = .call c) {g : Nat} {args : List AV} (h : callee ρ c = some (g, args)) {x : AV} (hx : extId P g args = some x) (w : World) :
    ∃ v, VR sn ι x v ∧ (execOp ρ' o).run P w = .ok (.value v) w := by
  obtain ⟨f, hc, ⟨first, captured, args', hf, hargs, rfl⟩ | ⟨l, args', hf, hargs, rfl, rfl⟩⟩ := callee_cases h
  case inr => simp [extId, hn.key] at hx
  obtain ⟨f', c', hfv, h1, h2⟩ := (hρ _ _ hf).func
  have h3 := aevals_sound hρ _ _ hargs
  have hlr := (h1.append h3).append h2
  unfold extId at hx
  split at hx <;> try (simp at hx; done)
  rename_i fn hfn
  split at hx <;> try (simp at hx; done)
  rename_i hcond
  obtain ⟨hb, hname, horig⟩ := hcond
  split at hx <;> simp at hx
  rename_i y hy
  subst hx
  rw [hy] at hlr
  simp only [LR] at hlr
  obtain ⟨d, ds, hd, hv, rfl⟩ := hlr
  obtain ⟨e1, e2⟩ := ext_noEscape hname horig
  refine ⟨d, hv, ?_⟩
  have harr : f' ++ (c.args.map ρ') ++ c' = #[d] := by apply Array.ext'; simpa using hd
  simp only [execOp, ho, resolve, hc, Deferred.ofValue, hfv, Sem.run_bind, Sem.run_pure, Result.andThen_ok, invoke, callFunc, run_program, hfn, hn.num _ fn hfn, hb, Bool.false_eq_true, if_false, if_true, mark, e1, e2]
  simp only [harr]
  rfl
theorem callee_ix (hn : NoNum P) {ρ : Operand → Option AV} {ρ' : Operand → Value} (hρ : ∀ x u, ρ x = some u → VR sn ι u (ρ' x)) {o : Oper} {c : Call} (ho : o.op = .call c) {g : Nat} {args : List AV} (h : callee ρ c = some (g, args)) {x : AV} (hx : extIx P g args = some x) (w : World) :
    ∃ v, VR sn ι x v ∧ (execOp ρ' o).run P w = .ok (.value v) w := by
  obtain ⟨f, hc, ⟨first, captured, args', hf, hargs, rfl⟩ | ⟨l, args', hf, hargs, rfl, rfl⟩⟩ := callee_cases h
  case inr => simp [extIx, hn.key] at hx
  obtain ⟨f', c', hfv, h1, h2⟩ := (hρ _ _ hf).func
  have h3 := aevals_sound hρ _ _ hargs
  have hlr := (h1.append h3).append h2
  unfold extIx at hx
  split at hx <;> try (simp at hx; done)
  rename_i fn hfn
  split at hx
  · rename_i hcond
    obtain ⟨hb, hname, horig⟩ := hcond
    split at hx <;> simp at hx
    rename_i s m hy
    subst hx
    rw [hy] at hlr
    simp only [LR] at hlr
    obtain ⟨d, ds, hd, hv, d2, ds2, rfl, hv2, rfl⟩ := hlr
    obtain ⟨ba, rfl, rfl⟩ := hv.str
    simp only [VR] at hv2
    subst hv2
    obtain ⟨e1, e2⟩ := ext_indexByte hname horig
    have harr : f' ++ (c.args.map ρ') ++ c' = #[.string ba, .int .u8 (Int.ofNat m)] := by apply Array.ext'; simpa using hd
    refine ⟨.int .i64 (firstIdx ba (UInt8.ofNat m)), by rw [firstIdx_ixB]; exact vr_int _ _, ?_⟩
    simp only [execOp, ho, resolve, hc, Deferred.ofValue, hfv, Sem.run_bind, Sem.run_pure, Result.andThen_ok, invoke]
    rw [harr, run_callFunc_extern hfn (hn.num _ fn hfn) hb e1 e2, run_indexByte_string]
    rfl
  split at hx <;> try (simp at hx; done)
  rename_i hcond
  obtain ⟨hb, hname, horig⟩ := hcond
  split at hx <;> simp at hx
  rename_i s m hy
  subst hx
  rw [hy] at hlr
  simp only [LR] at hlr
  obtain ⟨d, ds, hd, hv, d2, ds2, rfl, hv2, rfl⟩ := hlr
  obtain ⟨ba, rfl, rfl⟩ := hv.str
  simp only [VR] at hv2
  subst hv2
  obtain ⟨e1, e2⟩ := ext_countString hname horig
  have harr : f' ++ (c.args.map ρ') ++ c' = #[.string ba, .int .u8 (Int.ofNat m)] := by apply Array.ext'; simpa using hd
  refine ⟨.int .i64 (Lib.countByte ba.data.toList (Int.ofNat m).toNat.toUInt8 : Nat), vr_int _ _, ?_⟩
  simp only [execOp, ho, resolve, hc, Deferred.ofValue, hfv, Sem.run_bind, Sem.run_pure, Result.andThen_ok, invoke]
  rw [harr, run_callFunc_extern hfn (hn.num _ fn hfn) hb e1 e2, Lib.run_countString]
  rfl
theorem callee_mk (hR : R sn ι H W) (hn : NoNum P) {ρ : Operand → Option AV} {ρ' : Operand → Value} (hρ : ∀ x u, ρ x = some u → VR sn ι u (ρ' x)) {o : Oper} {c : Call} (ho : o.op = .call c) {g m : Nat} (h : callee ρ c = some (g, [.int .i64 (.ofNat m)])) {e : TypeId} (hx : extMk P g = some e) (hm : m ≤ 281474976710656) :
    ∃ v W' ι', VR sn ι' (.slice H.length 0 m m 1) v ∧ (execOp ρ' o).run P W = .ok (.value v) W' ∧ Stp sn ι H W sn ι' (H ++ [⟨true, H.length, 0, .cells [] e⟩]) W' := by
  obtain ⟨f, hc, ⟨first, captured, args', hf, hargs, hy⟩ | ⟨l, args', hf, hargs, rfl, hy⟩⟩ := callee_cases h
  case inr => simp [extMk, hn.key] at hx
  obtain ⟨f', c', hfv, h1, h2⟩ := (hρ _ _ hf).func
  have h3 := aevals_sound hρ _ _ hargs
  have hlr := (h1.append h3).append h2
  unfold extMk at hx
  split at hx <;> try (simp at hx; done)
  rename_i fn hfn
  split at hx <;> try (simp at hx; done)
  rename_i hcond
  obtain ⟨hb, hname, horig⟩ := hcond
  split at hx <;> try (simp at hx; done)
  rename_i t ts hts
  split at hx <;> simp at hx
  rename_i e' ht
  subst hx
  rw [← hy] at hlr
  simp only [LR] at hlr
  obtain ⟨d, ds, hd, hv, rfl⟩ := hlr
  simp only [VR] at hv
  subst hv
  obtain ⟨e1, e2⟩ := ext_makeNoZero hname horig
  have harr : f' ++ (c.args.map ρ') ++ c' = #[.int .i64 (.ofNat m)] := by apply Array.ext'; simpa using hd
  have hres : fn.resultTypes = ⟨t :: ts⟩ := by apply Array.ext'; exact hts
  obtain ⟨cs, hrun, hle, _⟩ := Lib.run_makeNoZero (P := P) W fn.params t e' ht m hm
  have hrun' : (Extern.BytealgMakeNoZero.makeNoZero fn.params fn.resultTypes #[.int .i64 (.ofNat m)]).run P W = .ok (.slice (some ⟨W.heap.size, 0, none⟩) m cs.size) (W.drew.drew.alloc (.cells cs e')) := by
    rw [hres]
    exact hrun
  refine ⟨.slice (some ⟨W.heap.size, 0, none⟩) m cs.size, W.drew.drew.alloc (.cells cs e'), upd ι H.length ⟨W.heap.size, 0, cs.size⟩, ?_, ?_, ?_⟩
  · simp only [VR]
    exact ⟨_, _, _, upd_self _ _ _, rfl, Nat.le_refl _, hle, fun _ => ⟨rfl, by simp⟩⟩
  · simp only [execOp, ho, resolve, hc, Deferred.ofValue, hfv, Sem.run_bind, Sem.run_pure, Result.andThen_ok, invoke]
    rw [harr, run_callFunc_extern hfn (hn.num _ fn hfn) hb e1 e2, hrun']
    rfl
  · refine Stp.trans hR (Stp.ext hR (Ext.drew W)) ?_
    have hR1 := hR.ext (Ext.drew W)
    refine Stp.trans hR1 (Stp.ext hR1 (Ext.drew W.drew)) ?_
    have hR2 := hR1.ext (Ext.drew W.drew)
    refine Stp.alloc hR2 ⟨true, H.length, 0, .cells [] e'⟩ _ _ fun _ => ?_
    exact or_cells (heap_alloc_new _ _) (l := []) (l' := cs.toList) (by simp) (by simp [LR])
end call
def aop (P : Program) (orc : Orc) (ρ : Operand → Option AV) (o : Oper) (H : AHeap) : Option (AV × AHeap) :=
  match (match o.op with | .call c => callee ρ c | _ => none) with
  | some (g, args) => acall P orc H g args
  | none => match apure' P ρ H o with
    | some r => some (r, H)
    | none => aeff P ρ H o
theorem room_q (r : Option Nat) (n : Nat) : (Fq r).room n := fun _ h => by cases h
theorem callsIn_q {P : Program} {r : Option Nat} {n : Nat} {f : Nat} {args : Array Value} {w : World} {Q : Ending → World → Prop} : CallsIn (Fq r) n P f args w Q ↔ Calls P f args w Q := callsIn_wide
theorem roundIn_q {P : Program} {r : Option Nat} {n l f : Nat} {tmps : Array Value} {asg bd : Code} {w : World} {Q : Ending → World → Prop} (h : RoundIn (Fq none) 0 P l f tmps asg bd w Q) : RoundIn (Fq r) n P l f tmps asg bd w Q :=
  ⟨trivial, fun c cs _ => h.2 c cs (room_q _ _)⟩
theorem wp_q {P : Program} {o : Oper} {a : Act} {w : World} {K : Act → World → Prop} {Q : Exit → Act → World → Prop} {r : Option Nat} (hd : ∀ c, o.op ≠ .defer c) (h : o.wp P a w K Q) : o.wpIn (Fq r) 0 P a w K Q := by
  refine ⟨fun f _ => trivial, ?_⟩
  rw [Oper.semAt_eq _ _ _ hd]
  unfold Oper.wp at h
  generalize (execOp a.eval o).run P w = x at h ⊢
  cases x with
  | ok x w' =>
    cases x with
    | enter f args => exact ⟨fun h => (by cases h), callsIn_q.2 h⟩
    | row rw args =>
      refine ⟨fun h => (by cases h), fun c cs _ => ?_⟩
      obtain ⟨v, w', h1, h2⟩ := h c cs
      exact ⟨v, w', h1, stepsIn_wide.2 h2⟩
    | round l f tmps asg bd => exact h.elim
    | _ => exact h
  | halt x w' => cases x <;> exact h
theorem apure_nd {P : Program} {ρ : Operand → Option AV} {H : AHeap} {o : Oper} {r : AV} (h : apure' P ρ H o = some r) : ∀ c, o.op ≠ .defer c := by
  intro c e; simp [apure', apure, e] at h
theorem aeff_nd {P : Program} {ρ : Operand → Option AV} {H : AHeap} {o : Oper} {r : AV × AHeap} (h : aeff P ρ H o = some r) : ∀ c, o.op ≠ .defer c := by
  intro c e; simp [aeff, e] at h
theorem aop_sound {P : Program} {gl : Glob} {orc : Orc} {sn : Snap} {ι : IMap} {H : AHeap} {W : World} {a : Act} {rd : Option Nat} (hn : NoNum P) (hO : OrcSound P gl orc) (hg : GlOK gl sn) (hR : R sn ι H W) {ρ : Operand → Option AV} (hρ : ∀ x u, ρ x = some u → VR sn ι u (a.eval x)) {o : Oper} {r : AV} {H' : AHeap} (h : aop P orc ρ o H = some (r, H'))
    {K : Act → World → Prop} {Q : Exit → Act → World → Prop} (hK : ∀ v W' sn' ι', VR sn' ι' r v → Stp sn ι H W sn' ι' H' W' → K (a.put o.dst v) W') : o.wpIn (Fq rd) 0 P a W K Q := by
  unfold aop at h
  split at h
  · rename_i g args hc
    split at hc <;> try (simp at hc; done)
    rename_i c hop
    have hd : ∀ c, o.op ≠ .defer c := by rw [hop]; intro _ e; cases e
    unfold acall at h
    split at h
    case isFalse =>
      split at h
      · rename_i x hx
        simp at h
        obtain ⟨rfl, rfl⟩ := h
        obtain ⟨v, h1, h2⟩ := callee_ext (w := W) hn hρ hop hc hx
        refine wp_q hd ?_
        unfold Oper.wp
        rw [h2, Oper.upon_value]
        exact hK v W sn ι h1 (Stp.refl hR)
      split at h
      · rename_i x hx
        simp at h
        obtain ⟨rfl, rfl⟩ := h
        obtain ⟨v, h1, h2⟩ := callee_ix (w := W) hn hρ hop hc hx
        refine wp_q hd ?_
        unfold Oper.wp
        rw [h2, Oper.upon_value]
        exact hK v W sn ι h1 (Stp.refl hR)
      · split at h
        · rename_i e m he _ _
          split at h <;> simp at h
          rename_i hm
          obtain ⟨rfl, rfl⟩ := h
          obtain ⟨v, W', ι', h1, h2, h3⟩ := callee_mk (W := W) hR hn hρ hop hc he hm
          refine wp_q hd ?_
          unfold Oper.wp
          rw [h2, Oper.upon_value]
          exact hK v W' sn ι' h1 h3
        · obtain ⟨l, args', rfl, rfl, ho⟩ := yl_some h
          obtain ⟨f, hcf, ⟨first, captured, args2, hf, hargs, e⟩ | ⟨l2, args2, hf, hargs, e1, e2⟩⟩ := callee_cases hc
          · exfalso
            obtain ⟨f', c', hfv, h1, h2⟩ := (hρ _ _ hf).func
            have h3 := aevals_sound hρ _ _ hargs
            have := (h1.append h3).append h2
            rw [← e] at this
            exact ymark_none this
          · simp only [List.cons.injEq] at e2
            obtain ⟨e2, rfl⟩ := e2
            have : l2 = l := by unfold ykey at e1; have := Nat.add_right_cancel (show l + 1024 = l2 + 1024 from e1); omega
            subst this
            obtain ⟨f', c', hfv, h1, h2⟩ := (hρ _ _ hf).func
            simp only [LR] at h1 h2
            have hf' : f' = #[] := Array.ext' (by simpa using h1)
            have hc' : c' = #[] := Array.ext' (by simpa using h2)
            subst hf'; subst hc'
            have h3 := aevals_sound hρ _ _ hargs
            obtain ⟨fn, tmps, asg, bd, k1, k2⟩ := CallsY.yields (Q := fun v W' => ∃ sn' ι', VR sn' ι' r v ∧ Stp sn ι H W sn' ι' H' W') ((hO _ _ H r H' ho sn ι W _ hg hR h3).mono fun e W' ⟨v, sn', ι', h1, h2⟩ => ⟨v, h1, sn', ι', h2⟩) (hn.key l2)
            refine ⟨fun f _ => trivial, ?_⟩
            rw [Oper.semAt_eq _ _ _ hd]
            have hrun : (execOp a.eval o).run P W = .ok (.round l2 fn tmps asg bd) W := by
              have harr : (#[] : Array Value) ++ c.args.map a.eval = (List.map a.eval c.args.toList).toArray := by apply Array.ext'; simp
              simp only [execOp, hop, resolve, hcf, Deferred.ofValue, hfv, Sem.run_bind, Sem.run_pure, Result.andThen_ok, invoke, harr]
              exact k1
            rw [hrun, Oper.uponIn_round]
            refine ⟨fun h => (by cases h), (roundIn_q k2).mono ?_⟩
            rintro e W' ⟨v, rfl, sn', ι', hv, hst⟩
            exact hK v W' sn' ι' hv hst
    rename_i hb
    obtain ⟨cargs, h1, h2⟩ := callee_sound (w := W) hn hρ hop hc hb
    have hfn : ∃ fn, P.funcs[g]? = some fn := by
      unfold hasBody at hb
      cases hfn : P.funcs[g]? with
      | none => rw [hfn] at hb; cases hb
      | some fn => exact ⟨fn, rfl⟩
    obtain ⟨fn, hfn⟩ := hfn
    have hcall := (hO g args H r H' h sn ι W cargs hg hR h1).calls hfn
    refine wp_q hd ?_
    unfold Oper.wp
    rw [h2, Oper.upon_enter]
    refine hcall.mono ?_
    rintro e W' ⟨v, sn', ι', rfl, hv, hst⟩
    exact hK v W' sn' ι' hv hst
  · split at h
    · rename_i r' hr
      simp at h; obtain ⟨rfl, rfl⟩ := h
      obtain ⟨v, h1, h2⟩ := apure'_sound hR.ro hρ hr
      refine wp_q (apure_nd hr) ?_
      unfold Oper.wp
      rw [h1, Oper.upon_value]
      exact hK v W sn ι h2 (Stp.refl hR)
    · obtain ⟨v, W', sn', ι', h1, h2, h3⟩ := aeff_sound hR hρ h
      refine wp_q (aeff_nd h) ?_
      unfold Oper.wp
      rcases h1 with h1 | ⟨h1, rfl⟩
      · rw [h1, Oper.upon_value]; exact hK v W' sn' ι' h2 h3
      · rw [h1, Oper.upon_skip]; exact hK undef W' sn' ι' h2 h3
inductive Tr where
  | leaf
  | node (v : Option (Option AV)) (l r : Tr)
def tget : Tr → Nat → Option AV
  | .leaf, _ => none
  | .node v _ _, 0 => match v with | some x => x | none => none
  | .node _ l r, n + 1 => match Nat.mod n 2 with | 0 => tget l (Nat.div n 2) | _ => tget r (Nat.div n 2)
def tex : Tr → Nat → Bool
  | .leaf, _ => false
  | .node v _ _, 0 => match v with | some _ => true | none => false
  | .node _ l r, n + 1 => match Nat.mod n 2 with | 0 => tex l (Nat.div n 2) | _ => tex r (Nat.div n 2)
def tset : Tr → Nat → AV → Option Tr
  | .leaf, _, _ => none
  | .node x l r, 0, v => match x with | some _ => some (.node (some (some v)) l r) | none => none
  | .node x l r, n + 1, v => match Nat.mod n 2 with
    | 0 => match tset l (Nat.div n 2) v with | some l' => some (.node x l' r) | none => none
    | _ => match tset r (Nat.div n 2) v with | some r' => some (.node x l r') | none => none
def tmk (g : Nat → Option AV) : Nat → Tr
  | 0 => .leaf
  | d + 1 => .node (match g 0 with | some v => some (some v) | none => none) (tmk (fun i => g (Nat.add (Nat.mul 2 i) 1)) d) (tmk (fun i => g (Nat.add (Nat.mul 2 i) 2)) d)
theorem tget_tex : ∀ (t : Tr) (n : Nat) (x : AV), tget t n = some x → tex t n = true
  | .leaf, n, x, h => by simp [tget] at h
  | .node v l r, 0, x, h => by cases v <;> simp [tget] at h; simp [tex]
  | .node v l r, n + 1, x, h => by
    simp only [tget] at h
    simp only [tex]
    split at h <;> exact tget_tex _ _ _ h
theorem half_iff (m n : Nat) (h : m % 2 = n % 2) : (Nat.div m 2 = Nat.div n 2) ↔ (m + 1 = n + 1) := by
  show (m / 2 = n / 2) ↔ _
  omega
theorem tset_get : ∀ (t : Tr) (n : Nat) (v : AV) (t' : Tr), tset t n v = some t' → tex t n = true ∧ (∀ m, tget t' m = if m = n then some v else tget t m) ∧ ∀ m, tex t' m = tex t m
  | .leaf, n, v, t', h => by simp [tset] at h
  | .node x l r, 0, v, t', h => by
    simp only [tset] at h
    split at h <;> simp at h
    subst h
    refine ⟨rfl, fun m => ?_, fun m => ?_⟩ <;> cases m <;> simp [tget, tex]
  | .node x l r, n + 1, v, t', h => by
    simp only [tset] at h
    split at h
    · rename_i hn
      split at h <;> simp at h
      subst h; rename_i l' hl
      obtain ⟨h1, h2, h3⟩ := tset_get l _ v l' hl
      refine ⟨by simp only [tex, hn]; exact h1, fun m => ?_, fun m => ?_⟩
      · cases m with
        | zero => simp [tget]
        | succ m =>
          simp only [tget]
          split
          · rename_i hm
            rw [h2]
            simp only [half_iff m n (show m % 2 = n % 2 from Eq.trans hm (Eq.symm hn))]
          · rename_i hm
            rw [if_neg]
            intro e
            have : m = n := by omega
            subst this; exact hm hn
      · cases m with
        | zero => simp [tex]
        | succ m => simp only [tex]; split <;> simp [h3]
    · rename_i hn
      split at h <;> simp at h
      subst h; rename_i l' hl
      obtain ⟨h1, h2, h3⟩ := tset_get r _ v l' hl
      refine ⟨by simp only [tex]; exact h1, fun m => ?_, fun m => ?_⟩
      · cases m with
        | zero => simp [tget]
        | succ m =>
          simp only [tget]
          split
          · rename_i hm
            rw [if_neg]
            intro e
            have : m = n := by omega
            subst this; exact hn hm
          · rename_i hm
            rw [h2]
            have hn' : ¬ n % 2 = 0 := hn
            have hm' : ¬ m % 2 = 0 := hm
            simp only [half_iff m n (by omega)]
      · cases m with
        | zero => simp [tex]
        | succ m => simp only [tex]; split <;> simp [h3]
theorem tmk_get : ∀ (d : Nat) (g : Nat → Option AV) (n : Nat) (u : AV), tget (tmk g d) n = some u → g n = some u
  | 0, g, n, u, h => by simp [tmk, tget] at h
  | d + 1, g, 0, u, h => by
    simp only [tmk, tget] at h
    cases hg : g 0 with
    | none => simp [hg] at h
    | some v => simpa [hg] using h
  | d + 1, g, n + 1, u, h => by
    simp only [tmk, tget] at h
    split at h
    · rename_i hn
      have := tmk_get d _ _ u h
      have hn' : n % 2 = 0 := hn
      have e : Nat.add (Nat.mul 2 (Nat.div n 2)) 1 = n + 1 := by show 2 * (n / 2) + 1 = n + 1; omega
      rw [e] at this; exact this
    · rename_i hn
      have := tmk_get d _ _ u h
      have hn' : ¬ n % 2 = 0 := hn
      have e : Nat.add (Nat.mul 2 (Nat.div n 2)) 2 = n + 1 := by show 2 * (n / 2) + 2 = n + 1; omega
      rw [e] at this; exact this
theorem tmk_tex : ∀ (d : Nat) (g : Nat → Option AV) (n : Nat), tex (tmk g d) n = true → ∃ u, g n = some u
  | 0, g, n, h => by simp [tmk, tex] at h
  | d + 1, g, 0, h => by
    simp only [tmk, tex] at h
    cases hg : g 0 with
    | none => simp [hg] at h
    | some v => exact ⟨v, rfl⟩
  | d + 1, g, n + 1, h => by
    simp only [tmk, tex] at h
    split at h
    · rename_i hn
      have := tmk_tex d _ _ h
      have hn' : n % 2 = 0 := hn
      have e : Nat.add (Nat.mul 2 (Nat.div n 2)) 1 = n + 1 := by show 2 * (n / 2) + 1 = n + 1; omega
      rw [e] at this; exact this
    · rename_i hn
      have := tmk_tex d _ _ h
      have hn' : ¬ n % 2 = 0 := hn
      have e : Nat.add (Nat.mul 2 (Nat.div n 2)) 2 = n + 1 := by show 2 * (n / 2) + 2 = n + 1; omega
      rw [e] at this; exact this
def TRel (sn : Snap) (ι : IMap) (tm : Tr) (a : Act) : Prop := (∀ t u, tget tm t = some u → ∃ v, a.tmps[t]? = some v ∧ VR sn ι u v) ∧ ∀ t, tex tm t = true → t < a.tmps.size
def aeval (gl : Glob) (tm : Tr) : Operand → Option AV
  | .tmp t => tget tm t
  | .const v => ofV v
  | .global g => match gl g with | some cs => some (.rp cs) | none => none
  | .func f => some (.func (.func f) [] [])
def putT (d : Option Tmp) (v : AV) (tm : Tr) : Option Tr := match d with | some d => tset tm d v | none => some tm
def frcN {β : Type} (n : Nat) (f : Nat → β) : β := match n with | 0 => f 0 | Nat.succ m => f (Nat.succ m)
def frcI {β : Type} (n : Int) (f : Int → β) : β := match n with | .ofNat n => frcN n fun n => f (.ofNat n) | .negSucc n => frcN n fun n => f (.negSucc n)
def frcB {β : Type} (b : Bool) (f : Bool → β) : β := match b with | true => f true | false => f false
def frcS {β : Type} : List UInt8 → (List UInt8 → β) → β
  | [], f => f []
  | c :: l, f => frcS l fun l => f (c :: l)
mutual
def frcV {β : Type} : AV → (AV → β) → β
  | .bool b, f => frcB b fun b => f (.bool b)
  | .int k n, f => frcI n fun n => f (.int k n)
  | .str s, f => f (.str s)
  | .nptr, f => f .nptr
  | .ptr b o, f => frcN b fun b => frcN o fun o => f (.ptr b o)
  | .rp cs, f => f (.rp cs)
  | .nslice, f => f .nslice
  | .slice b o l c z, f => frcN b fun b => frcN o fun o => frcN l fun l => frcN c fun c => frcN z fun z => f (.slice b o l c z)
  | .rs n z cs, f => frcN n fun n => f (.rs n z cs)
  | .nmap, f => f .nmap
  | .map b, f => frcN b fun b => f (.map b)
  | .func fn a b, f => frcVL a fun a => frcVL b fun b => f (.func fn a b)
  | .nfunc, f => f .nfunc
  | .iface t v, f => frcV v fun v => f (.iface t v)
  | .niface, f => f .niface
  | .agg cs, f => frcVL cs fun cs => f (.agg cs)
  | .tuple cs, f => frcVL cs fun cs => f (.tuple cs)
def frcVL {β : Type} : List AV → (List AV → β) → β
  | [], f => f []
  | v :: l, f => frcV v fun v => frcVL l fun l => f (v :: l)
end
def frcE {β : Type} : List (AV × AV × Nat) → (List (AV × AV × Nat) → β) → β
  | [], f => f []
  | (k, v, n) :: l, f => frcV k fun k => frcV v fun v => frcN n fun n => frcE l fun l => f ((k, v, n) :: l)
def frcO {β : Type} (o : AObj) (f : AObj → β) : β :=
  match o with
  | ⟨a, fam, sh, b⟩ => frcB a fun a => frcN fam fun fam => frcN sh fun sh => match b with
    | .cells cs ty => frcVL cs fun cs => f ⟨a, fam, sh, .cells cs ty⟩
    | .map es c => frcE es fun es => frcN c fun c => f ⟨a, fam, sh, .map es c⟩
    | .siter s p => frcN p fun p => f ⟨a, fam, sh, .siter s p⟩
    | .loop g ts => f ⟨a, fam, sh, .loop g ts⟩
def frcH {β : Type} : AHeap → (AHeap → β) → β
  | [], f => f []
  | o :: l, f => frcO o fun o => frcH l fun l => f (o :: l)
theorem frcN_eq {β : Type} (n : Nat) (f : Nat → β) : frcN n f = f n := by cases n <;> rfl
theorem frcI_eq {β : Type} (n : Int) (f : Int → β) : frcI n f = f n := by cases n <;> simp [frcI, frcN_eq]
theorem frcB_eq {β : Type} (n : Bool) (f : Bool → β) : frcB n f = f n := by cases n <;> rfl
theorem frcS_eq {β : Type} : ∀ (l : List UInt8) (f : List UInt8 → β), frcS l f = f l
  | [], f => rfl
  | c :: l, f => by simp [frcS, frcS_eq l]
mutual
theorem frcV_eq {β : Type} : ∀ (v : AV) (f : AV → β), frcV v f = f v
  | .bool b, f => by simp [frcV, frcB_eq]
  | .int k n, f => by simp [frcV, frcI_eq]
  | .str s, f => by simp [frcV]
  | .nptr, f => by simp [frcV]
  | .ptr b o, f => by simp [frcV, frcN_eq]
  | .rp cs, f => by simp [frcV]
  | .nslice, f => by simp [frcV]
  | .slice b o l c z, f => by simp [frcV, frcN_eq]
  | .rs n z cs, f => by simp [frcV, frcN_eq]
  | .nmap, f => by simp [frcV]
  | .map b, f => by simp [frcV, frcN_eq]
  | .func fn a b, f => by simp [frcV, frcVL_eq a, frcVL_eq b]
  | .nfunc, f => by simp [frcV]
  | .iface t v, f => by simp [frcV, frcV_eq v]
  | .niface, f => by simp [frcV]
  | .agg cs, f => by simp [frcV, frcVL_eq cs]
  | .tuple cs, f => by simp [frcV, frcVL_eq cs]
theorem frcVL_eq {β : Type} : ∀ (l : List AV) (f : List AV → β), frcVL l f = f l
  | [], f => by simp [frcVL]
  | v :: l, f => by simp [frcVL, frcV_eq v, frcVL_eq l]
end
theorem frcE_eq {β : Type} : ∀ (l : List (AV × AV × Nat)) (f : List (AV × AV × Nat) → β), frcE l f = f l
  | [], f => by simp [frcE]
  | (k, v, n) :: l, f => by simp [frcE, frcV_eq, frcN_eq, frcE_eq l]
theorem frcO_eq {β : Type} (o : AObj) (f : AObj → β) : frcO o f = f o := by
  obtain ⟨a, fam, sh, b⟩ := o
  cases b <;> simp [frcO, frcB_eq, frcN_eq, frcVL_eq, frcE_eq]
theorem frcH_eq {β : Type} : ∀ (l : AHeap) (f : AHeap → β), frcH l f = f l
  | [], f => by simp [frcH]
  | o :: l, f => by simp [frcH, frcO_eq, frcH_eq l]
def frcT {β : Type} (v : AV) (f : AV → β) : β := match v with | .str s => frcS s fun s => f (.str s) | v => frcV v f
theorem frcT_eq {β : Type} (v : AV) (f : AV → β) : frcT v f = f v := by cases v <;> simp [frcT, frcS_eq, frcV_eq]
def frcHs {β : Type} : AHeap → (AHeap → β) → β
  | [], f => f []
  | o :: l, f => match o with
    | ⟨a, fam, sh, b⟩ => frcB a fun a => match b with
      | .cells cs ty => frcHs l fun l => f (⟨a, fam, sh, .cells cs ty⟩ :: l)
      | .map es c => frcHs l fun l => f (⟨a, fam, sh, .map es c⟩ :: l)
      | .siter s p => frcHs l fun l => f (⟨a, fam, sh, .siter s p⟩ :: l)
      | .loop g ts => frcHs l fun l => f (⟨a, fam, sh, .loop g ts⟩ :: l)
theorem frcHs_eq {β : Type} : ∀ (l : AHeap) (f : AHeap → β), frcHs l f = f l
  | [], f => by simp [frcHs]
  | ⟨a, fam, sh, b⟩ :: l, f => by cases b <;> simp [frcHs, frcB_eq, frcHs_eq l]
def frcC {β : Type} (o : Oper) (r : AV) (H : AHeap) (f : AV → AHeap → β) : β :=
  match o.op with
  | .move _ => f r H
  | .assign _ => f r H
  | .pick .. => f r H
  | .nilCheck _ => f r H
  | .extract .. => f r H
  | .load .. => f r H
  | .build .. => f r H
  | .field .. => f r H
  | .fieldAddr .. => frcV r fun r => f r H
  | .indexAddr .. => frcV r fun r => f r H
  | .index .. => frcV r fun r => f r H
  | .binOp .. => frcT r fun r => f r H
  | .unOp .. => frcT r fun r => f r H
  | .convert .. => frcT r fun r => f r H
  | .slice .. => frcT r fun r => f r H
  | .store .. => frcHs H fun H => f r H
  | .alloc _ => frcV r fun r => frcHs H fun H => f r H
  | .box .. => frcV r fun r => frcHs H fun H => f r H
  | .buildSlice .. => frcV r fun r => frcHs H fun H => f r H
  | _ => frcV r fun r => frcH H fun H => f r H
theorem frcC_eq {β : Type} (o : Oper) (r : AV) (H : AHeap) (f : AV → AHeap → β) : frcC o r H f = f r H := by
  unfold frcC; split <;> simp [frcV_eq, frcT_eq, frcHs_eq, frcH_eq]
section op
variable {P : Program} {gl : Glob} {orc : Orc} {sn : Snap} {ι : IMap} {H : AHeap} {W : World} {a : Act} {tm : Tr}
theorem aeval_sound (hg : GlOK gl sn) (ht : TRel sn ι tm a) : ∀ x u, aeval gl tm x = some u → VR sn ι u (a.eval x) := by
  intro x u h
  cases x with
  | tmp t =>
    obtain ⟨v, h1, h2⟩ := ht.1 t u h
    have : a.eval (.tmp t) = v := by simp [Act.eval, Array.getD_eq_getD_getElem?, h1]
    rw [this]; exact h2
  | const v => exact ofV_VR v u h
  | global g =>
    simp only [aeval] at h; split at h <;> simp at h
    subst h; rename_i cs hcs
    simp only [VR, Act.eval]; exact ⟨g, 0, rfl, hg g cs hcs⟩
  | func f => simp [aeval] at h; subst h; simp [VR, Act.eval, LR]
theorem TRel.mono {sn' : Snap} {ι' : IMap} (ht : TRel sn ι tm a) (h : Le sn sn' ι ι') : TRel sn' ι' tm a := ⟨fun t u e => let ⟨v, h1, h2⟩ := ht.1 t u e; ⟨v, h1, VR_mono h _ _ h2⟩, ht.2⟩
theorem putT_sound (ht : TRel sn ι tm a) {d : Option Tmp} {r : AV} {v : Value} (hv : VR sn ι r v) {tm' : Tr} (h : putT d r tm = some tm') : TRel sn ι tm' (a.put d v) := by
  cases d with
  | none => simp [putT] at h; subst h; exact ht
  | some d =>
    obtain ⟨h1, h2, h3⟩ := tset_get _ _ _ _ h
    have hd : d < a.tmps.size := ht.2 d h1
    refine ⟨fun t u hu => ?_, fun t hx => ?_⟩
    · rw [h2] at hu
      simp only [Act.put, Array.getElem?_setIfInBounds]
      split at hu
      · simp at hu; subst hu; rename_i e; subst e; simp [hd]; exact hv
      · rename_i e; rw [if_neg (Ne.symm e)]; exact ht.1 t u hu
    · rw [h3] at hx
      simp only [Act.put, Array.size_setIfInBounds]
      exact ht.2 t hx
theorem GlOK.mono {sn sn' : Snap} {ι ι' : IMap} (h : GlOK gl sn) (hl : Le sn sn' ι ι') : GlOK gl sn' := fun g cs e => MR_mono hl cs g 0 (h g cs e)
def awanted (ops : List Oper) (o : Oper) (tm : Tr) : Option Bool :=
  match o.guard with
  | none => some true
  | some (j, want) => match ops[j]? with
    | some g => match g.dst with
      | some d => match tget tm d with
        | some (.bool b) => some (b == want)
        | some _ => some false
        | none => none
      | none => none
    | none => none
theorem awanted_eq (ht : TRel sn ι tm a) (ops : Array Oper) (o : Oper) {b : Bool} (h : awanted ops.toList o tm = some b) : Region.wanted o (yielded ops a.tmps) = b := by
  unfold awanted at h
  unfold Region.wanted yielded
  cases hgd : o.guard with
  | none => simp [hgd] at h; simp [h]
  | some jw =>
    obtain ⟨j, want⟩ := jw
    simp only [hgd] at h
    split at h <;> try (simp at h; done)
    rename_i g hg
    rw [Array.getElem?_toList] at hg
    split at h <;> try (simp at h; done)
    rename_i d hd
    split at h <;> try (simp at h; done)
    · rename_i c hc
      simp at h; subst h
      obtain ⟨v, h1, h2⟩ := ht.1 d _ hc
      cases h2.bool
      simp [hg, hd, h1]
    · rename_i u hne hu
      simp at h; subst h
      obtain ⟨v, h1, h2⟩ := ht.1 d _ hu
      simp only [hg, Option.bind_some, hd, h1]
      cases u with
      | bool b => exact (hne b rfl).elim
      | _ => simp only [VR] at h2; cases v <;> first | rfl | (exfalso; simp at h2)
def aseq (P : Program) (gl : Glob) (orc : Orc) (ops : List Oper) : List Oper → Tr → AHeap → Option (Tr × AHeap)
  | [], tm, H => some (tm, H)
  | o :: l, tm, H =>
    match awanted ops o tm with
    | some true =>
      match aop P orc (aeval gl tm) o H with
      | some (r, H') => frcC o r H' fun r H' => match putT o.dst r tm with | some tm' => aseq P gl orc ops l tm' H' | none => none
      | none => none
    | some false => match putT o.dst (.tuple []) tm with | some tm' => aseq P gl orc ops l tm' H | none => none
    | none => none
theorem Act.put_defers' (a : Act) (d : Option Tmp) (v : Value) : (a.put d v).defers = a.defers := by cases d <;> rfl
theorem aseq_sound {rd : Option Nat} (hn : NoNum P) (hO : OrcSound P gl orc) (ops : Array Oper) : ∀ (l : List Oper) (tm : Tr) (H : AHeap) (tm' : Tr) (H' : AHeap) (a : Act) (W : World) (sn : Snap) (ι : IMap),
    aseq P gl orc ops.toList l tm H = some (tm', H') → GlOK gl sn → R sn ι H W → TRel sn ι tm a → ∀ {Q : Exit → Act → World → Prop},
    (∀ a' W' sn' ι', Stp sn ι H W sn' ι' H' W' → TRel sn' ι' tm' a' → a'.defers = a.defers → Q .normal a' W') → wpListIn (Fq rd) 0 P ops Q l a W
  | [], tm, H, tm', H', a, W, sn, ι, h, hg, hR, ht, Q, hQ => by
    simp [aseq] at h; obtain ⟨rfl, rfl⟩ := h
    exact wpListIn_nil (hQ a W sn ι (Stp.refl hR) ht rfl)
  | o :: l, tm, H, tm', H', a, W, sn, ι, h, hg, hR, ht, Q, hQ => by
    refine wpListIn_step fun K hK => ?_
    simp only [aseq] at h
    split at h
    · rename_i hw
      rw [if_pos (awanted_eq ht ops o hw)]
      split at h <;> try (simp at h; done)
      rename_i r H1 hop
      simp only [frcC_eq] at h
      split at h <;> try (simp at h; done)
      rename_i tm1 hp
      refine aop_sound hn hO hg hR (aeval_sound hg ht) hop fun v W' sn' ι' hv hst => hK _ _ ?_
      refine aseq_sound hn hO ops l _ _ _ _ _ _ sn' ι' h (hg.mono hst.le) hst.rel (putT_sound (ht.mono hst.le) hv hp) fun a' W'' sn'' ι'' hst' ht' hd => ?_
      exact hQ a' W'' sn'' ι'' (hst.trans hR hst') ht' (hd.trans (Act.put_defers' _ _ _))
    · rename_i hw
      rw [if_neg (by rw [awanted_eq ht ops o hw]; simp)]
      split at h <;> try (simp at h; done)
      rename_i tm1 hp
      refine ⟨fun f _ => trivial, hK _ _ (aseq_sound hn hO ops l _ _ _ _ _ _ sn ι h hg hR (putT_sound ht vr_undef hp) fun a' W'' sn'' ι'' hst' ht' hd => ?_)⟩
      exact hQ a' W'' sn'' ι'' hst' ht' (hd.trans (Act.put_defers' _ _ _))
    · simp at h
end op
end Go.Abs
end


section

set_option linter.unusedSimpArgs false
set_option linter.unusedVariables false
namespace Go.Abs
open Go.RowKit
def bit (m j : Nat) : Bool := Nat.beq (Nat.land (Nat.shiftRight m j) 1) 1
def kind (o : Oper) : Nat :=
  match o.op with
  | .move _ => 0 | .assign _ => 0 | .pick .. => 0 | .build .. => 0 | .nilCheck _ => 0 | .binOp .. => 0 | .unOp .. => 0 | .convert .. => 1
  | .makeInterface .. => 0 | .makeFunc .. => 0 | .slice .. => 0 | .fieldAddr .. => 0 | .field .. => 0 | .indexAddr .. => 0 | .index .. => 0 | .extract .. => 0
  | .load .. => 1 | .lookup .. => 1
  | .alloc _ => 2 | .box .. => 2 | .buildSlice .. => 2 | .makeSlice .. => 2 | .makeMap .. => 2
  | .call c => match c.callee with
    | .builtin .len => 1 | .builtin .max => 0 | .builtin .min => 0
    | _ => 3
  | _ => 3
def edgeMask (acc : List Nat) : List Edge → Nat
  | [] => 0
  | e :: es => if Region.binds .any e then Nat.lor (Nat.lor (2 ^ e.on) (acc.getD e.on 0)) (edgeMask acc es) else edgeMask acc es
def ancs : List Oper → List Nat → List Nat
  | [], acc => acc
  | o :: l, acc => ancs l (acc ++ [edgeMask acc o.after.toList])
def effs : List Oper → Nat → List Nat
  | [], _ => []
  | o :: l, i => if Nat.beq (kind o) 3 then i :: effs l (i + 1) else effs l (i + 1)
def chainOk (an : List Nat) : List Nat → Bool
  | [] => true
  | [_] => true
  | e :: f :: l => bit (an.getD f 0) e && chainOk an (f :: l)
def stage (n m : Nat) (e : Nat) : Nat → Nat → List Nat × Nat
  | 0, done => ([e], Nat.lor done (2 ^ e))
  | k + 1, done =>
    let i := n - (k + 1)
    if bit m i && !bit done i then (let (l, d) := stage n m e k (Nat.lor done (2 ^ i)); (i :: l, d)) else stage n m e k done
def rest (n : Nat) : Nat → Nat → List Nat
  | 0, _ => []
  | k + 1, done => let i := n - (k + 1); if bit done i then rest n k done else i :: rest n k done
def canonFrom (n : Nat) (an : List Nat) : List Nat → Nat → List Nat
  | [], done => rest n n done
  | e :: es, done => let (l, d) := stage n (an.getD e 0) e n done; l ++ canonFrom n an es d
def opTmps (l : List Operand) : List Nat := match l with
  | [] => []
  | .tmp t :: l => t :: opTmps l
  | _ :: l => opTmps l
def looks (ops : List Oper) (o : Oper) : List Nat :=
  let l := opTmps o.op.operands.toList
  match o.guard with
  | none => l
  | some (j, _) => match ops[j]? with
    | some g => match g.dst with | some d => d :: l | none => l
    | none => l
def dstIs (o : Oper) (t : Nat) : Bool := match o.dst with | some d => Nat.beq d t | none => false
def lastW (vals : List (Option AV)) (D : Nat → Bool) (t : Nat) : List Oper → Nat → Option AV → Option AV
  | [], _, acc => acc
  | o :: l, i, acc => lastW vals D t l (i + 1) (if dstIs o t && D i then (match vals[i]? with | some v => v | none => none) else acc)
def envOf (tm : Tr) (vals : List (Option AV)) (ops : List Oper) (D : Nat → Bool) : List Nat → Option (List (Nat × AV))
  | [] => some []
  | t :: ts => match lastW vals D t ops 0 (tget tm t), envOf tm vals ops D ts with | some v, some e => some ((t, v) :: e) | _, _ => none
def alook (t : Nat) : List (Nat × AV) → Option AV
  | [] => none
  | (u, v) :: l => if Nat.beq u t then some v else alook t l
def evalE (gl : Glob) (env : List (Nat × AV)) : Operand → Option AV
  | .tmp t => alook t env
  | .const v => ofV v
  | .global g => match gl g with | some cs => some (.rp cs) | none => none
  | .func f => some (.func (.func f) [] [])
def wantedE (ops : List Oper) (env : List (Nat × AV)) (o : Oper) : Bool :=
  match o.guard with
  | none => true
  | some (j, want) => match ops[j]? with
    | some g => match g.dst with
      | some d => match alook d env with | some (.bool b) => b == want | _ => false
      | none => false
    | none => false
structure DSt where
  vals : List (Option AV)
  done : Nat
  base : AHeap
  new : List Nat
  heap : AHeap
  sts : List (Nat × AHeap × List Nat)
def allBit (m : Nat) : List Nat → Bool
  | [] => true
  | i :: l => bit m i && allBit m l
def allLt (n : Nat) : List Nat → Bool
  | [] => true
  | i :: l => Nat.blt i n && allLt n l
def refsEnv : List (Nat × AV) → List Nat → List Nat
  | [], acc => acc
  | (_, v) :: l, acc => refs v (refsEnv l acc)
def aallocF (P : Program) (ρ : Operand → Option AV) (o : Oper) : Option ((Nat → AV) × ABody) :=
  match o.op with
  | .alloc e => match tzero P e with | some z => some (fun n => .ptr n 0, .cells z.cells e) | none => none
  | .box e x => match ρ x with | some v => some (fun n => .ptr n 0, .cells v.cells e) | none => none
  | .buildSlice t len ps => match aparts ρ ps.toList with
    | some us => match bsCore P t len us with
      | some (cs, e, z) => some (fun n => .slice n 0 len len z, .cells cs e)
      | none => none
    | none => none
  | .makeSlice t l c => match ρ l, ρ c with
    | some l, some c => match msCore P t l c with
      | some (zs, e, z, ln, cp) => some (fun n => .slice n 0 ln cp z, .cells zs e)
      | none => none
    | _, _ => none
  | .makeMap _ none => some (fun n => .map n, .map [] 0)
  | _ => none
def dstep (P : Program) (gl : Glob) (orc : Orc) (ops : List Oper) (an : List Nat) (tm : Tr) (i : Nat) (s : DSt) : Option DSt :=
  match ops[i]? with
  | none => none
  | some o => match envOf tm s.vals ops (bit (an.getD i 0)) (looks ops o) with
    | none => none
    | some env =>
      if bit s.done i then none else
      match kind o with
      | 2 =>
        if wantedE ops env o then
          match aallocF P (evalE gl env) o with
          | some (mk, body) => if allLt s.heap.length (refsB body []) then
              frcC o (mk s.heap.length) (s.heap ++ [⟨true, s.heap.length, 0, body⟩]) fun r H' => some ⟨s.vals.set i (some r), Nat.lor s.done (2 ^ i), s.base, s.new ++ [i], H', s.sts⟩
            else none
          | none => none
        else some ⟨s.vals.set i (some (.tuple [])), Nat.lor s.done (2 ^ i), s.base, s.new, s.heap, s.sts⟩
      | 3 =>
        if allBit (an.getD i 0) s.new && allLt s.heap.length (refsEnv env []) then
          if wantedE ops env o then
            match aop P orc (evalE gl env) o s.heap with
            | some (r, H') => frcC o r H' fun r H' => if Nat.ble s.heap.length H'.length then some ⟨s.vals.set i (some r), Nat.lor s.done (2 ^ i), H', [], H', s.sts ++ [(i, s.base, s.new)]⟩ else none
            | none => none
          else some ⟨s.vals.set i (some (.tuple [])), Nat.lor s.done (2 ^ i), s.heap, [], s.heap, s.sts ++ [(i, s.base, s.new)]⟩
        else none
      | _ =>
        if wantedE ops env o then
          match apure' P (evalE gl env) s.heap o with
          | some r => frcC o r s.heap fun r _ => some ⟨s.vals.set i (some r), Nat.lor s.done (2 ^ i), s.base, s.new, s.heap, s.sts⟩
          | none => none
        else some ⟨s.vals.set i (some (.tuple [])), Nat.lor s.done (2 ^ i), s.base, s.new, s.heap, s.sts⟩
def druns (P : Program) (gl : Glob) (orc : Orc) (ops : List Oper) (an : List Nat) (tm : Tr) : List Nat → DSt → Option DSt
  | [], s => some s
  | i :: l, s => match dstep P gl orc ops an tm i s with | some s' => druns P gl orc ops an tm l s' | none => none
def writersOk (an : List Nat) (j t : Nat) : List Oper → Nat → Bool
  | [], _ => true
  | o :: l, k => (!dstIs o t || Nat.beq k j || bit (an.getD j 0) k || bit (an.getD k 0) j) && writersOk an j t l (k + 1)
def tmpsOkAt (ops : List Oper) (an : List Nat) (j : Nat) (o : Oper) : Bool :=
  (looks ops o).all (fun t => writersOk an j t ops 0) && (match o.dst with | some d => writersOk an j d ops 0 | none => true)
def tmpsOk (ops : List Oper) (an : List Nat) : List Oper → Nat → Bool
  | [], _ => true
  | o :: l, j => tmpsOkAt ops an j o && tmpsOk ops an l (j + 1)
def stages (P : Program) (gl : Glob) (o : Oper) (env : List (Nat × AV)) (v : AV) (j : Nat) (an : List Nat) (aj : Nat) (eq : AV → AV → Bool) : List (Nat × AHeap × List Nat) → AHeap → Bool
  | [], H => (match apure' P (evalE gl env) H o with | some u => eq u v | none => false)
  | (e, B, _) :: l, H =>
    if bit aj e then stages P gl o env v j an aj eq l H else
    (match apure' P (evalE gl env) B o with | some u => eq u v | none => false) && (bit (an.getD e 0) j || stages P gl o env v j an aj eq l H)
mutual
def veq : AV → AV → Bool
  | .bool a, .bool b => a == b
  | .int k a, .int k' b => k == k' && a == b
  | .str a, .str b => a == b
  | .nptr, .nptr => true
  | .ptr a b, .ptr c d => Nat.beq a c && Nat.beq b d
  | .rp a, .rp b => veqL a b
  | .nslice, .nslice => true
  | .slice a b c d e, .slice a' b' c' d' e' => Nat.beq a a' && Nat.beq b b' && Nat.beq c c' && Nat.beq d d' && Nat.beq e e'
  | .rs n z a, .rs n' z' b => Nat.beq n n' && Nat.beq z z' && veqL a b
  | .nmap, .nmap => true
  | .map a, .map b => Nat.beq a b
  | .nfunc, .nfunc => true
  | .niface, .niface => true
  | .agg a, .agg b => veqL a b
  | .tuple a, .tuple b => veqL a b
  | .func f a b, .func f' a' b' => f == f' && veqL a a' && veqL b b'
  | .iface t a, .iface t' b => Nat.beq t t' && veq a b
  | _, _ => false
def veqL : List AV → List AV → Bool
  | [], [] => true
  | a :: l, b :: m => veq a b && veqL l m
  | _, _ => false
end
def takeA (aj : Nat) : List Nat → AHeap → AHeap
  | j :: nw, o :: h => if bit aj j then o :: takeA aj nw h else []
  | _, _ => []
def earlyB (aj : Nat) (base : AHeap) (nw : List Nat) (heap B : AHeap) : AHeap := if Nat.beq B.length base.length then B ++ takeA aj nw (heap.drop base.length) else B
def mapE (F : AHeap → AHeap) : List (Nat × AHeap × List Nat) → List (Nat × AHeap × List Nat)
  | [] => []
  | (e, B, nw) :: l => (e, F B, nw) :: mapE F l
def stagesOk (P : Program) (gl : Glob) (tm : Tr) (ops : List Oper) (an : List Nat) (s : DSt) : List Oper → Nat → Bool
  | [], _ => true
  | o :: l, j =>
    (if Nat.beq (kind o) 1 then
      match s.vals[j]?, envOf tm s.vals ops (bit (an.getD j 0)) (looks ops o) with
      | some (some v), some env => if wantedE ops env o then stages P gl o env v j an (an.getD j 0) veq s.sts s.base || stages P gl o env v j an (an.getD j 0) veq (mapE (earlyB (an.getD j 0) s.base s.new s.heap) s.sts) (earlyB (an.getD j 0) s.base s.new s.heap s.base) else true
      | _, _ => false
    else true) && stagesOk P gl tm ops an s l (j + 1)
def fillNone : List Oper → List (Option AV)
  | [] => []
  | _ :: l => none :: fillNone l
def finTmps (vals : List (Option AV)) : List Oper → Nat → Tr → Option Tr
  | [], _, tm => some tm
  | o :: l, i, tm => match vals[i]? with
    | some (some v) => match putT o.dst v tm with | some tm' => finTmps vals l (i + 1) tm' | none => none
    | _ => none
def boundOk : List Nat → Nat → Bool
  | [], _ => true
  | a :: l, i => Nat.blt a (2 ^ i) && boundOk l (i + 1)
def stFst : List (Nat × AHeap × List Nat) → List Nat
  | [] => []
  | (i, _, _) :: l => i :: stFst l
def textOkAt (an : List Nat) (m : Nat) : List Oper → Nat → Bool
  | [], _ => true
  | o :: l, i => (!Nat.beq (kind o) 2 || bit m i) && textOkAt an m l (i + 1)
def textOk (ops : List Oper) (an : List Nat) : List Oper → Nat → Bool
  | [], _ => true
  | o :: l, j => (!Nat.beq (kind o) 3 || textOkAt an (an.getD j 0) (ops.take j) 0) && textOk ops an l (j + 1)
def inText : Nat → Nat → List Nat
  | 0, _ => []
  | n + 1, k => k :: inText n (k + 1)
def ordOf (ops : List Oper) (an : List Nat) : List Nat :=
  if textOk ops an ops 0 then inText ops.length 0 else canonFrom ops.length an (effs ops 0) 0
def adraw (P : Program) (gl : Glob) (orc : Orc) (ops : List Oper) (tm : Tr) (H : AHeap) : Option (Tr × AHeap) :=
  let an := ancs ops []
  if tmpsOk ops an ops 0 && boundOk an 0 then
    match druns P gl orc ops an tm (ordOf ops an) ⟨fillNone ops, 0, H, [], H, []⟩ with
    | some s => if chainOk an (stFst s.sts) && Nat.beq (s.done + 1) (2 ^ ops.length) && stagesOk P gl tm ops an s ops 0 then
        match finTmps s.vals ops 0 tm with | some tm' => some (tm', s.heap) | none => none
      else none
    | none => none
  else none
inductive AEx where
  | normal
  | exit (id : Nat)
  | ret
def loopN (f : Tr → AHeap → Option (AEx × Tr × AHeap)) : Nat → Tr → AHeap → Option (AEx × Tr × AHeap)
  | 0, _, _ => none
  | n + 1, tm, H => match f tm H with
    | some (.normal, tm', H') => loopN f n tm' H'
    | r => r
def aexec (P : Program) (gl : Glob) (orc : Orc) (fuel : Nat) : Code → Tr → AHeap → Option (AEx × Tr × AHeap)
  | .skip, tm, H => some (.normal, tm, H)
  | .region _ ops draw, tm, H =>
    match (if draw then adraw P gl orc ops.toList tm H else aseq P gl orc ops.toList ops.toList tm H) with
    | some (tm', H') => some (.normal, tm', H')
    | none => none
  | .seq a b, tm, H => match aexec P gl orc fuel a tm H with
    | some (.normal, tm', H') => aexec P gl orc fuel b tm' H'
    | r => r
  | .cond c a b, tm, H => match aeval gl tm c with
    | some (.bool true) => aexec P gl orc fuel a tm H
    | some (.bool false) => aexec P gl orc fuel b tm H
    | _ => none
  | .block id b, tm, H => match aexec P gl orc fuel b tm H with
    | some (.exit id', tm', H') => if Nat.beq id' id then some (.normal, tm', H') else some (.exit id', tm', H')
    | r => r
  | .loop b, tm, H => loopN (aexec P gl orc fuel b) fuel tm H
  | .exit id, tm, H => some (.exit id, tm, H)
  | .ret, tm, H => some (.ret, tm, H)
  | .scope b, tm, H => aexec P gl orc fuel b tm H
  | .label _, tm, H => some (.normal, tm, H)
  | _, _, _ => none
def aress (P : Program) (tm : Tr) (H : AHeap) : List ResultVar → Option (List AV)
  | [] => some []
  | .tmp t :: l => match tget tm t, aress P tm H l with | some v, some vs => some (v :: vs) | _, _ => none
  | .cell a t :: l => match tget tm a with
    | some (.ptr b off) => match aload P t (.ptr b off) H, aress P tm H l with | some v, some vs => some (v :: vs) | _, _ => none
    | _ => none
def tini (args : List AV) (n m : Nat) (i : Nat) : Option AV := match args[i]? with | some v => some v | none => if Nat.blt i n then some (.tuple []) else none
def tdep : Nat → Nat → Nat
  | 0, _ => 0
  | k + 1, n => match n with | 0 => 0 | Nat.succ n => Nat.succ (tdep k (Nat.div (Nat.succ n) 2))
def afunc (P : Program) (gl : Glob) (orc : Orc) (fuel : Nat) (f : Nat) (args : List AV) (H : AHeap) : Option (AV × AHeap) :=
  match P.funcs[f]? with
  | some fn => match fn.body with
    | some c => frcVL args fun args => frcH H fun H =>
      match aexec P gl orc fuel c (tmk (tini args fn.ntmps args.length) (tdep 20 fn.ntmps)) H with
      | some (x, tm, H') => match x with
        | .exit _ => none
        | _ => match aress P tm H' fn.results.toList with
          | some [v] => some (v, H')
          | some vs => some (.tuple vs, H')
          | none => none
      | none => none
    | none => none
  | none => none
end Go.Abs
end


section

set_option linter.unusedSimpArgs false
set_option linter.unusedVariables false
namespace Go.Abs
open Go.RowKit
theorem bit_eq (m j : Nat) : bit m j = Nat.testBit m j := by
  unfold bit Nat.testBit
  have e : Nat.land (Nat.shiftRight m j) 1 = (m >>> j) % 2 := by
    show (m >>> j) &&& 1 = _
    rw [Nat.and_one_is_mod]
  have e' : 1 &&& (m >>> j) = (m >>> j) % 2 := by rw [Nat.and_comm, Nat.and_one_is_mod]
  rw [e, e']
  have : (m >>> j) % 2 = 0 ∨ (m >>> j) % 2 = 1 := by omega
  rcases this with h | h <;> rw [h] <;> rfl
theorem bit_lor (a b k : Nat) : bit (Nat.lor a b) k = (bit a k || bit b k) := by
  rw [bit_eq, bit_eq, bit_eq]; exact Nat.testBit_or a b k
theorem bit_pow (j k : Nat) : bit (2 ^ j) k = decide (j = k) := by
  rw [bit_eq, Nat.testBit_two_pow]
theorem bit_zero (k : Nat) : bit 0 k = false := by rw [bit_eq]; simp
theorem bit_lt {m n k : Nat} (h : m < 2 ^ n) (hb : bit m k = true) : k < n := by
  rw [bit_eq] at hb
  rcases Nat.lt_or_ge k n with hk | hk
  · exact hk
  · have : m < 2 ^ k := Nat.lt_of_lt_of_le h (Nat.pow_le_pow_right (by decide) hk)
    rw [Nat.testBit_lt_two_pow this] at hb; cases hb
theorem edgeMask_bit (acc : List Nat) (k : Nat) : ∀ (es : List Edge), bit (edgeMask acc es) k = true ↔ ∃ e ∈ es, Region.binds .any e = true ∧ (e.on = k ∨ bit (acc.getD e.on 0) k = true)
  | [] => by simp [edgeMask, bit_zero]
  | e :: es => by
    simp only [edgeMask]
    split
    · rename_i hb
      rw [bit_lor, bit_lor, bit_pow]
      simp only [Bool.or_eq_true, decide_eq_true_eq, edgeMask_bit acc k es, List.mem_cons, exists_eq_or_imp, hb, true_and]
    · rename_i hb
      rw [edgeMask_bit acc k es]
      simp only [List.mem_cons, exists_eq_or_imp, hb, false_and, Bool.false_eq_true, false_or]
theorem ancs_spec : ∀ (l : List Oper) (acc : List Nat), ∃ r, ancs l acc = acc ++ r ∧ r.length = l.length ∧ ∀ j o, l[j]? = some o → r[j]? = some (edgeMask ((acc ++ r).take (acc.length + j)) o.after.toList)
  | [], acc => ⟨[], by simp [ancs], rfl, by simp⟩
  | o :: l, acc => by
    obtain ⟨r, h1, h2, h3⟩ := ancs_spec l (acc ++ [edgeMask acc o.after.toList])
    refine ⟨edgeMask acc o.after.toList :: r, by simp [ancs, h1], by simp [h2], fun j x hx => ?_⟩
    cases j with
    | zero => simp at hx; subst hx; simp
    | succ j =>
      simp at hx
      have := h3 j x hx
      simp only [List.getElem?_cons_succ]
      rw [this]
      simp only [List.append_assoc, List.singleton_append, List.length_append, List.length_singleton]
      congr 3; omega
theorem anc_spec {ops : List Oper} {i k : Nat} {o : Oper} (ho : ops[i]? = some o) (h : bit ((ancs ops []).getD i 0) k = true) :
    ∃ e ∈ o.after.toList, Region.binds .any e = true ∧ (e.on = k ∨ (e.on < i ∧ bit ((ancs ops []).getD e.on 0) k = true)) := by
  obtain ⟨r, h1, h2, h3⟩ := ancs_spec ops []
  simp only [List.nil_append] at h1 h3
  rw [h1] at h ⊢
  have := h3 i o ho
  rw [List.getD, this] at h
  simp only [Option.getD_some, List.length_nil, Nat.zero_add] at h
  obtain ⟨e, he, hb, hc⟩ := (edgeMask_bit _ _ _).1 h
  refine ⟨e, he, hb, hc.imp id fun hc => ?_⟩
  by_cases hlt : e.on < i
  · refine ⟨hlt, ?_⟩
    have : (List.take i r).getD e.on 0 = r.getD e.on 0 := by simp [List.getD, List.getElem?_take, hlt]
    rw [this] at hc; exact hc
  · have : (List.take i r).getD e.on 0 = 0 := by simp [List.getD, List.getElem?_take, hlt]
    rw [this, bit_zero] at hc; cases hc
theorem boundOk_spec : ∀ (l : List Nat) (i j : Nat), boundOk l i = true → j < l.length → l.getD j 0 < 2 ^ (i + j)
  | [], i, j, h, hj => by simp at hj
  | a :: l, i, j, h, hj => by
    simp only [boundOk, Bool.and_eq_true] at h
    cases j with
    | zero => simpa [Nat.blt_eq] using h.1
    | succ j => have := boundOk_spec l (i + 1) j h.2 (by simpa using hj); rw [show i + (j + 1) = i + 1 + j from by omega]; simpa using this
def Closed (ops : List Oper) (D : Nat → Bool) : Prop := ∀ i o, ops[i]? = some o → D i = true → ∀ e ∈ o.after.toList, Region.binds .any e = true → D e.on = true
theorem closed_anc {ops : List Oper} {D : Nat → Bool} (hD : Closed ops D) : ∀ (i k : Nat) (o : Oper), ops[i]? = some o → (∀ e ∈ o.after.toList, Region.binds .any e = true → D e.on = true) → bit ((ancs ops []).getD i 0) k = true → D k = true := by
  intro i
  induction i using Nat.strongRecOn with
  | _ i ih =>
    intro k o ho hd hb
    obtain ⟨e, he, hbi, hc⟩ := anc_spec ho hb
    rcases hc with rfl | ⟨hlt, hc⟩
    · exact hd e he hbi
    · have hil : i < ops.length := (List.getElem?_eq_some_iff.1 ho).1
      have hx : ops[e.on]? = some ops[e.on] := List.getElem?_eq_getElem (by omega)
      exact ih e.on hlt k _ hx (hD e.on _ hx (hd e he hbi)) hc
def VLe (vals vals' : List (Option AV)) : Prop := ∀ (i : Nat) (v : AV), vals[i]? = some (some v) → vals'[i]? = some (some v)
theorem VLe.refl (vals : List (Option AV)) : VLe vals vals := fun _ _ h => h
theorem VLe.trans {a b c : List (Option AV)} (h : VLe a b) (k : VLe b c) : VLe a c := fun i v e => k i v (h i v e)
theorem lastW_mono {vals vals' : List (Option AV)} (h : VLe vals vals') {D : Nat → Bool} {t : Nat} : ∀ (l : List Oper) (i : Nat) (acc acc' : Option AV), (∀ v, acc = some v → acc' = some v) → ∀ v, lastW vals D t l i acc = some v → lastW vals' D t l i acc' = some v
  | [], i, acc, acc', ha, v, e => ha v e
  | o :: l, i, acc, acc', ha, v, e => by
    simp only [lastW] at e ⊢
    refine lastW_mono h l (i + 1) _ _ ?_ v e
    intro u hu
    split at hu
    · rename_i hc
      rw [if_pos hc]
      split at hu
      · rename_i x hx
        subst hu
        rw [h i u hx]
      · cases hu
    · rename_i hc
      rw [if_neg hc]; exact ha u hu
theorem lastW_congr {vals : List (Option AV)} {D D' : Nat → Bool} {t : Nat} : ∀ (l : List Oper) (i : Nat) (acc : Option AV), (∀ k o, l[k]? = some o → dstIs o t = true → D (i + k) = D' (i + k)) → lastW vals D t l i acc = lastW vals D' t l i acc
  | [], i, acc, h => rfl
  | o :: l, i, acc, h => by
    simp only [lastW]
    have h0 : (dstIs o t && D i) = (dstIs o t && D' i) := by
      cases hd : dstIs o t with
      | false => rfl
      | true => have := h 0 o rfl hd; simpa using this
    rw [h0]
    exact lastW_congr l (i + 1) _ fun k x hx hd => by have := h (k + 1) x (by simpa using hx) hd; rwa [show i + (k + 1) = i + 1 + k from by omega] at this
theorem lastW_none {vals : List (Option AV)} {D : Nat → Bool} {t : Nat} : ∀ (l : List Oper) (i : Nat) (acc : Option AV), (∀ k o, l[k]? = some o → dstIs o t = true → D (i + k) = false) → lastW vals D t l i acc = acc
  | [], i, acc, h => rfl
  | o :: l, i, acc, h => by
    simp only [lastW]
    have h0 : (dstIs o t && D i) = false := by
      cases hd : dstIs o t with
      | false => rfl
      | true => have := h 0 o rfl hd; simpa using this
    rw [h0]
    exact lastW_none l (i + 1) _ fun k x hx hd => by have := h (k + 1) x (by simpa using hx) hd; rwa [show i + (k + 1) = i + 1 + k from by omega] at this
theorem lastW_add {vals : List (Option AV)} {D D' : Nat → Bool} {t j : Nat} {v : AV} : ∀ (l : List Oper) (i : Nat) (acc : Option AV) (o : Oper), l[j]? = some o → vals[i + j]? = some (some v) → (∀ k, D' k = (D k || Nat.beq k (i + j))) →
    (∀ k x, l[k]? = some x → dstIs o t = true → dstIs x t = true → j < k → D (i + k) = false) → D (i + j) = false →
    lastW vals D' t l i acc = if dstIs o t = true then some v else lastW vals D t l i acc
  | [], i, acc, o, ho, hv, hD, hlast, hj => by simp at ho
  | x :: l, i, acc, o, ho, hv, hD, hlast, hj => by
    cases j with
    | zero =>
      simp at ho; subst ho
      simp only [Nat.add_zero] at hv hj hD
      simp only [lastW]
      have hDi : D' i = true := by rw [hD]; simp
      rw [hDi, hj]
      simp only [Bool.and_true, Bool.and_false, Bool.false_eq_true, if_false, hv]
      split
      · rename_i hd
        refine lastW_none l (i + 1) _ fun k y hy hdy => ?_
        have h1 := hlast (k + 1) y (by simpa using hy) hd hdy (by omega)
        rw [hD, show i + 1 + k = i + (k + 1) from by omega, h1]
        have h2 : Nat.beq (i + (k + 1)) i = false := by
          cases hq : Nat.beq (i + (k + 1)) i with
          | false => rfl
          | true => have := Nat.eq_of_beq_eq_true hq; omega
        rw [h2]; rfl
      · rename_i hd
        refine lastW_congr l (i + 1) acc fun k y hy _ => ?_
        rw [hD]
        have h2 : Nat.beq (i + 1 + k) i = false := by
          cases hq : Nat.beq (i + 1 + k) i with
          | false => rfl
          | true => have := Nat.eq_of_beq_eq_true hq; omega
        rw [h2]; simp
    | succ j =>
      simp at ho
      simp only [lastW]
      have hDi : D' i = D i := by
        rw [hD]
        have h2 : Nat.beq i (i + (j + 1)) = false := by
          cases hq : Nat.beq i (i + (j + 1)) with
          | false => rfl
          | true => have := Nat.eq_of_beq_eq_true hq; omega
        rw [h2]; simp
      rw [hDi]
      exact lastW_add l (i + 1) _ o ho (by rw [show i + 1 + j = i + (j + 1) from by omega]; exact hv) (fun k => by rw [hD, show i + 1 + j = i + (j + 1) from by omega])
        (fun k y hy h1 h2 h3 => by have := hlast (k + 1) y (by simpa using hy) h1 h2 (by omega); rwa [show i + 1 + k = i + (k + 1) from by omega])
        (by rw [show i + 1 + j = i + (j + 1) from by omega]; exact hj)
theorem envOf_mono {tm : Tr} {vals vals' : List (Option AV)} (h : VLe vals vals') {ops : List Oper} {D : Nat → Bool} : ∀ (ts : List Nat) (env : List (Nat × AV)), envOf tm vals ops D ts = some env → envOf tm vals' ops D ts = some env
  | [], env, e => by simpa [envOf] using e
  | t :: ts, env, e => by
    simp only [envOf] at e
    split at e <;> simp at e
    subst e; rename_i v e' hv he
    simp only [envOf, lastW_mono h ops 0 _ _ (fun _ h => h) v hv, envOf_mono h ts e' he]
theorem envOf_look {tm : Tr} {vals : List (Option AV)} {ops : List Oper} {D : Nat → Bool} : ∀ (ts : List Nat) (env : List (Nat × AV)), envOf tm vals ops D ts = some env →
    ∀ t u, alook t env = some u → t ∈ ts ∧ lastW vals D t ops 0 (tget tm t) = some u
  | [], env, e, t, u, h => by simp [envOf] at e; subst e; simp [alook] at h
  | s :: ts, env, e, t, u, h => by
    simp only [envOf] at e
    split at e <;> simp at e
    subst e; rename_i v e' hv he
    simp only [alook] at h
    split at h
    · rename_i hst
      have := Nat.eq_of_beq_eq_true hst; subst this
      simp at h; subst h; exact ⟨by simp, hv⟩
    · obtain ⟨h1, h2⟩ := envOf_look ts e' he t u h
      exact ⟨by simp [h1], h2⟩
theorem envOf_mem {tm : Tr} {vals : List (Option AV)} {ops : List Oper} {D : Nat → Bool} : ∀ (ts : List Nat) (env : List (Nat × AV)), envOf tm vals ops D ts = some env → ∀ t, t ∈ ts → ∃ u, alook t env = some u
  | [], env, e, t, h => by simp at h
  | s :: ts, env, e, t, h => by
    simp only [envOf] at e
    split at e <;> simp at e
    subst e; rename_i v e' hv he
    simp only [alook]
    split
    · exact ⟨v, rfl⟩
    · rename_i hst
      rcases List.mem_cons.1 h with rfl | h
      · exfalso; exact hst (by simp)
      · exact envOf_mem ts e' he t h
theorem writersOk_spec {an : List Nat} {j t : Nat} : ∀ (l : List Oper) (i k : Nat) (o : Oper), writersOk an j t l i = true → l[k]? = some o → dstIs o t = true → i + k = j ∨ bit (an.getD j 0) (i + k) = true ∨ bit (an.getD (i + k) 0) j = true
  | [], i, k, o, h, ho, hd => by simp at ho
  | x :: l, i, k, o, h, ho, hd => by
    simp only [writersOk, Bool.and_eq_true, Bool.or_eq_true, Bool.not_eq_true'] at h
    cases k with
    | zero =>
      simp at ho; subst ho
      rw [hd] at h
      rcases h.1 with ((h1 | h1) | h1) | h1
      · cases h1
      · exact .inl (by simpa using h1)
      · exact .inr (.inl (by simpa using h1))
      · exact .inr (.inr (by simpa using h1))
    | succ k =>
      have := writersOk_spec l (i + 1) k o h.2 (by simpa using ho) hd
      rwa [show i + 1 + k = i + (k + 1) from by omega] at this
theorem tmpsOk_spec {ops : List Oper} {an : List Nat} : ∀ (l : List Oper) (i j : Nat) (o : Oper), tmpsOk ops an l i = true → l[j]? = some o → tmpsOkAt ops an (i + j) o = true
  | [], i, j, o, h, ho => by simp at ho
  | x :: l, i, j, o, h, ho => by
    simp only [tmpsOk, Bool.and_eq_true] at h
    cases j with
    | zero => simp at ho; subst ho; simpa using h.1
    | succ j => have := tmpsOk_spec l (i + 1) j o h.2 (by simpa using ho); rwa [show i + 1 + j = i + (j + 1) from by omega] at this
theorem mem_opTmps {t : Nat} : ∀ (l : List Operand), Operand.tmp t ∈ l → t ∈ opTmps l
  | [], h => by simp at h
  | x :: l, h => by
    rcases List.mem_cons.1 h with rfl | h'
    · simp [opTmps]
    · have := mem_opTmps l h'
      cases x <;> simp [opTmps, this]
mutual
theorem veq_eq : ∀ (a b : AV), veq a b = true → a = b
  | .bool a, b, h => by cases b <;> simp [veq] at h; subst h; rfl
  | .int k a, b, h => by cases b <;> simp [veq] at h; obtain ⟨rfl, rfl⟩ := h; rfl
  | .str a, b, h => by cases b <;> simp [veq] at h; subst h; rfl
  | .nptr, b, h => by cases b <;> simp [veq] at h; rfl
  | .ptr a c, b, h => by cases b <;> simp [veq] at h; obtain ⟨rfl, rfl⟩ := h; rfl
  | .rp a, b, h => by cases b <;> simp [veq] at h; rw [veqL_eq _ _ h]
  | .nslice, b, h => by cases b <;> simp [veq] at h; rfl
  | .slice a c d e f, b, h => by cases b <;> simp [veq] at h; obtain ⟨⟨⟨⟨rfl, rfl⟩, rfl⟩, rfl⟩, rfl⟩ := h; rfl
  | .rs n z a, b, h => by cases b <;> simp [veq] at h; obtain ⟨⟨rfl, rfl⟩, h⟩ := h; rw [veqL_eq _ _ h]
  | .nmap, b, h => by cases b <;> simp [veq] at h; rfl
  | .map a, b, h => by cases b <;> simp [veq] at h; subst h; rfl
  | .nfunc, b, h => by cases b <;> simp [veq] at h; rfl
  | .niface, b, h => by cases b <;> simp [veq] at h; rfl
  | .agg a, b, h => by cases b <;> simp [veq] at h; rw [veqL_eq _ _ h]
  | .tuple a, b, h => by cases b <;> simp [veq] at h; rw [veqL_eq _ _ h]
  | .func f a c, b, h => by cases b <;> simp [veq] at h; obtain ⟨⟨rfl, h1⟩, h2⟩ := h; rw [veqL_eq _ _ h1, veqL_eq _ _ h2]
  | .iface t a, b, h => by cases b <;> simp [veq] at h; obtain ⟨rfl, h⟩ := h; rw [veq_eq _ _ h]
theorem veqL_eq : ∀ (a b : List AV), veqL a b = true → a = b
  | [], b, h => by cases b <;> simp [veqL] at h; rfl
  | a :: l, b, h => by cases b <;> simp [veqL] at h; rw [veq_eq _ _ h.1, veqL_eq _ _ h.2]
end
mutual
theorem refs_acc : ∀ (v : AV) (acc : List Nat) (x : Nat), x ∈ acc → x ∈ refs v acc
  | .ptr b _, acc, x, h => by simp [refs, h]
  | .slice b _ _ _ _, acc, x, h => by simp [refs, h]
  | .map b, acc, x, h => by simp [refs, h]
  | .func _ f c, acc, x, h => by simp only [refs]; exact refsL_acc f _ x (refsL_acc c _ x h)
  | .iface _ v, acc, x, h => by simp only [refs]; exact refs_acc v _ x h
  | .agg cs, acc, x, h => by simp only [refs]; exact refsL_acc cs _ x h
  | .tuple cs, acc, x, h => by simp only [refs]; exact refsL_acc cs _ x h
  | .bool _, acc, x, h => by simpa [refs] using h
  | .int _ _, acc, x, h => by simpa [refs] using h
  | .str _, acc, x, h => by simpa [refs] using h
  | .nptr, acc, x, h => by simpa [refs] using h
  | .rp _, acc, x, h => by simpa [refs] using h
  | .nslice, acc, x, h => by simpa [refs] using h
  | .rs _ _ _, acc, x, h => by simpa [refs] using h
  | .nmap, acc, x, h => by simpa [refs] using h
  | .nfunc, acc, x, h => by simpa [refs] using h
  | .niface, acc, x, h => by simpa [refs] using h
theorem refsL_acc : ∀ (l : List AV) (acc : List Nat) (x : Nat), x ∈ acc → x ∈ refsL l acc
  | [], acc, x, h => by simpa [refsL] using h
  | v :: l, acc, x, h => by simp only [refsL]; exact refs_acc v _ x (refsL_acc l _ x h)
end
mutual
theorem VR_refs {sn : Snap} {ι ι' : IMap} : ∀ (u : AV) (acc : List Nat) (v : Value), (∀ b, b ∈ refs u acc → ∀ p, ι b = some p → ι' b = some p) → VR sn ι u v → VR sn ι' u v
  | .ptr b off, acc, v, h, e => by simp only [VR] at *; obtain ⟨p, h1, h2⟩ := e; exact ⟨p, h b (by simp [refs]) p h1, h2⟩
  | .slice b off len cap z, acc, v, h, e => by simp only [VR] at *; obtain ⟨p, a, c, h1, h2⟩ := e; exact ⟨p, a, c, h b (by simp [refs]) p h1, h2⟩
  | .map b, acc, v, h, e => by simp only [VR] at *; obtain ⟨p, h1, h2⟩ := e; exact ⟨p, h b (by simp [refs]) p h1, h2⟩
  | .func fn first captured, acc, v, h, e => by
    simp only [VR] at *; obtain ⟨f, c, h1, h2, h3⟩ := e
    exact ⟨f, c, h1, LR_refs first (refsL captured acc) _ (fun b hb => h b (by simpa [refs] using hb)) h2,
      LR_refs captured acc _ (fun b hb => h b (by simp only [refs]; exact refsL_acc first _ b hb)) h3⟩
  | .iface t u, acc, v, h, e => by simp only [VR] at *; obtain ⟨x, h1, h2⟩ := e; exact ⟨x, h1, VR_refs u acc _ (fun b hb => h b (by simpa [refs] using hb)) h2⟩
  | .agg cs, acc, v, h, e => by simp only [VR] at *; obtain ⟨x, h1, h2⟩ := e; exact ⟨x, h1, LR_refs cs acc _ (fun b hb => h b (by simpa [refs] using hb)) h2⟩
  | .tuple cs, acc, v, h, e => by simp only [VR] at *; obtain ⟨x, h1, h2⟩ := e; exact ⟨x, h1, LR_refs cs acc _ (fun b hb => h b (by simpa [refs] using hb)) h2⟩
  | .rp cs, acc, v, h, e => by simpa [VR] using e
  | .rs n z cs, acc, v, h, e => by simpa [VR] using e
  | .bool b, acc, v, h, e => by simpa [VR] using e
  | .int k n, acc, v, h, e => by simpa [VR] using e
  | .str s, acc, v, h, e => by simpa [VR] using e
  | .nptr, acc, v, h, e => by simpa [VR] using e
  | .nslice, acc, v, h, e => by simpa [VR] using e
  | .nmap, acc, v, h, e => by simpa [VR] using e
  | .nfunc, acc, v, h, e => by simpa [VR] using e
  | .niface, acc, v, h, e => by simpa [VR] using e
theorem LR_refs {sn : Snap} {ι ι' : IMap} : ∀ (us : List AV) (acc : List Nat) (vs : List Value), (∀ b, b ∈ refsL us acc → ∀ p, ι b = some p → ι' b = some p) → LR sn ι us vs → LR sn ι' us vs
  | [], acc, vs, h, e => by simpa [LR] using e
  | u :: us, acc, vs, h, e => by
    simp only [LR] at *; obtain ⟨d, ds, h1, h2, h3⟩ := e
    exact ⟨d, ds, h1, VR_refs u (refsL us acc) _ (fun b hb => h b (by simpa [refsL] using hb)) h2, LR_refs us acc _ (fun b hb => h b (by simp only [refsL]; exact refs_acc u _ b hb)) h3⟩
end
theorem refsEnv_mem : ∀ (env : List (Nat × AV)) (t : Nat) (u : AV), alook t env = some u → ∃ acc, ∀ b, b ∈ refs u acc → b ∈ refsEnv env []
  | [], t, u, h => by simp [alook] at h
  | (s, v) :: l, t, u, h => by
    simp only [alook] at h
    split at h
    · simp at h; subst h; exact ⟨refsEnv l [], fun b hb => by simpa [refsEnv] using hb⟩
    · obtain ⟨acc, h1⟩ := refsEnv_mem l t u h
      exact ⟨acc, fun b hb => by simp only [refsEnv]; exact refs_acc v _ b (h1 b hb)⟩
theorem allLt_spec {n : Nat} : ∀ {l : List Nat}, allLt n l = true → ∀ i ∈ l, i < n
  | [], _, i, hi => by simp at hi
  | j :: l, h, i, hi => by
    simp only [allLt, Bool.and_eq_true] at h
    rcases List.mem_cons.1 hi with rfl | hi
    · simpa [Nat.blt_eq] using h.1
    · exact allLt_spec h.2 i hi
theorem allBit_spec {m : Nat} : ∀ {l : List Nat}, allBit m l = true → ∀ i ∈ l, bit m i = true
  | [], _, i, hi => by simp at hi
  | j :: l, h, i, hi => by
    simp only [allBit, Bool.and_eq_true] at h
    rcases List.mem_cons.1 hi with rfl | hi
    · exact h.1
    · exact allBit_spec h.2 i hi
end Go.Abs
end


section

set_option linter.unusedSimpArgs false
set_option linter.unusedVariables false
namespace Go.Abs
open Go.RowKit
section alloc
variable {P : Program} {sn : Snap} {ι : IMap} {H : AHeap}
theorem aallocF_inj {ρ : Operand → Option AV} {o : Oper} {mk : Nat → AV} {body : ABody} (h : aallocF P ρ o = some (mk, body)) {a b : Nat} (e : mk a = mk b) : a = b := by
  unfold aallocF at h
  split at h <;> (repeat' (split at h)) <;> simp at h <;> (try (obtain ⟨rfl, _⟩ := h)) <;> simpa using e
theorem aallocF_sound {ρ : Operand → Option AV} {ρ' : Operand → Value} (hρ : ∀ x u, ρ x = some u → VR sn ι u (ρ' x)) {o : Oper} {mk : Nat → AV} {body : ABody} (h : aallocF P ρ o = some (mk, body)) (W : World) :
    ∃ v ob n, (execOp ρ' o).run P W = .ok (.value v) (W.alloc ob) ∧ OR sn ι (W.alloc ob) body ⟨W.heap.size, 0, n⟩ ∧ ∀ sn' ι' id, ι' id = some ⟨W.heap.size, 0, n⟩ → VR sn' ι' (mk id) v := by
  have wrap : ∀ (s : Sem Value), execOp ρ' o = (do pure (.value (← s)) : Sem Next) → ∀ v ob, s.run P W = .ok v (W.alloc ob) → (execOp ρ' o).run P W = .ok (.value v) (W.alloc ob) := by
    intro s e v ob h1
    rw [e]; simp only [Sem.run_bind, h1, Result.andThen_ok, Sem.run_pure]
  have vptr : ∀ n sn' (ι' : IMap) id, ι' id = some ⟨W.heap.size, 0, n⟩ → VR sn' ι' (.ptr id 0) (.pointer (some ⟨W.heap.size, 0, none⟩)) := by
    intro n sn' ι' id hid; simp only [VR]; exact ⟨_, hid, rfl⟩
  have vsl : ∀ n l c z, l ≤ c → c * z ≤ n → ∀ sn' (ι' : IMap) id, ι' id = some ⟨W.heap.size, 0, n⟩ → VR sn' ι' (.slice id 0 l c z) (.slice (some ⟨W.heap.size, 0, none⟩) l c) := by
    intro n l c z h1 h2 sn' ι' id hid; simp only [VR]; exact ⟨_, _, c, hid, rfl, h1, Nat.le_refl _, fun _ => ⟨rfl, by simpa using h2⟩⟩
  unfold aallocF at h
  cases hop : o.op with
  | alloc e =>
    simp only [hop] at h
    split at h <;> simp at h
    obtain ⟨rfl, rfl⟩ := h; rename_i z hz
    obtain ⟨z', h1, h2⟩ := tzero_run hz
    have hrun : (Instr.alloc e true (.tuple #[])).run P W = .ok (.pointer (some ⟨W.heap.size, 0, none⟩)) (W.alloc (.cells z'.cells e)) := by
      simp [Instr.alloc, h1, newVar, newRow, run_newObj_alloc]
    have hor : OR sn ι (W.alloc (.cells z'.cells e)) (.cells z.cells e) ⟨W.heap.size, 0, z'.cells.size⟩ := or_cells (l := z'.cells.toList) (l' := []) (heap_alloc_new W (.cells z'.cells e)) (by simp) ((h2 sn ι).cells)
    have hv := vptr z'.cells.size
    exact ⟨_, _, z'.cells.size, wrap (Instr.alloc e true (.tuple #[])) (by simp only [execOp, hop]) _ _ hrun, hor, hv⟩
  | box e x =>
    simp only [hop] at h
    split at h <;> simp at h
    obtain ⟨rfl, rfl⟩ := h; rename_i u hu
    have hrun : (Instr.box e (ρ' x)).run P W = .ok (.pointer (some ⟨W.heap.size, 0, none⟩)) (W.alloc (.cells (ρ' x).cells e)) := by
      simp [Instr.box, newVar, newRow, run_newObj_alloc]
    have hor : OR sn ι (W.alloc (.cells (ρ' x).cells e)) (.cells u.cells e) ⟨W.heap.size, 0, (ρ' x).cells.size⟩ := or_cells (l := (ρ' x).cells.toList) (l' := []) (heap_alloc_new W (.cells (ρ' x).cells e)) (by simp) ((hρ _ _ hu).cells)
    have hv := vptr (ρ' x).cells.size
    exact ⟨_, _, (ρ' x).cells.size, wrap (Instr.box e (ρ' x)) (by simp only [execOp, hop]) _ _ hrun, hor, hv⟩
  | buildSlice t len ps =>
    simp only [hop] at h
    split at h <;> try (simp at h; done)
    rename_i us hus
    split at h <;> simp at h
    obtain ⟨rfl, rfl⟩ := h; rename_i cs e z hb
    obtain ⟨r', h1, h2, h3⟩ := bsCore_sound (sn := sn) (ι := ι) hb (ps' := ps.map fun (i, x) => (i, ρ' x)) (by rw [Array.toList_map]; exact aparts_sound hρ _ _ hus)
    have hor : OR sn ι (W.alloc (.cells r' e)) (.cells cs e) ⟨W.heap.size, 0, r'.size⟩ := or_cells (l := r'.toList) (l' := []) (heap_alloc_new W (.cells r' e)) (by simp) h2
    have hv := vsl r'.size len len z (Nat.le_refl _) (by omega)
    have hx := h1 W
    refine ⟨_, _, r'.size, ?_, hor, hv⟩
    simp only [execOp, hop, Sem.run_bind, hx, Result.andThen_ok, Sem.run_pure]
  | makeSlice t l c =>
    simp only [hop] at h
    split at h <;> try (simp at h; done)
    rename_i u v hu hv
    split at h <;> simp at h
    obtain ⟨rfl, rfl⟩ := h; rename_i zs e z ln cp hb
    obtain ⟨r', h1, h2, h3, h4⟩ := msCore_sound hb (hρ _ _ hu) (hρ _ _ hv)
    have hor : OR sn ι (W.alloc (.cells r' e)) (.cells zs e) ⟨W.heap.size, 0, r'.size⟩ := or_cells (l := r'.toList) (l' := []) (heap_alloc_new W (.cells r' e)) (by simp) h2
    have hv := vsl r'.size ln cp z h4 (by omega)
    have hx := h1 W
    refine ⟨_, _, r'.size, ?_, hor, hv⟩
    simp only [execOp, hop, Sem.run_bind, hx, Result.andThen_ok, Sem.run_pure]
  | makeMap t r' =>
    cases r' with
    | some x => simp [hop] at h
    | none =>
      simp [hop] at h
      obtain ⟨rfl, rfl⟩ := h
      refine ⟨_, _, 0, wrap (Instr.makeMap t none) (by simp only [execOp, hop, Option.map_none]) (.map (some W.heap.size)) (.map #[] 0) (by simp [Instr.makeMap, run_newObj_alloc]), ⟨#[], heap_alloc_new W _, by simp [ER]⟩, ?_⟩
      intro sn' ι' id hid; simp only [VR]; exact ⟨_, hid, rfl⟩
  | _ => simp [hop] at h
end alloc
section known
variable (P : Program) (gl : Glob) (orc : Orc) (ops : List Oper) (an : List Nat) (tm : Tr)
structure At (vals : List (Option AV)) (i : Nat) (o : Oper) (env : List (Nat × AV)) (v : AV) : Prop where
  op : ops[i]? = some o
  env : envOf tm vals ops (bit (an.getD i 0)) (looks ops o) = some env
  val : vals[i]? = some (some v)
inductive Allocs (vals : List (Option AV)) : AHeap → List Nat → AHeap → Prop
  | nil (B : AHeap) : Allocs vals B [] B
  | snoc {B H : AHeap} {nw : List Nat} {i : Nat} {o : Oper} {env : List (Nat × AV)} {mk : Nat → AV} {body : ABody} : Allocs vals B nw H → At ops an tm vals i o env (mk H.length) → kind o = 2 → wantedE ops env o = true →
      aallocF P (evalE gl env) o = some (mk, body) → allLt H.length (refsB body []) = true → Allocs vals B (nw ++ [i]) (H ++ [⟨true, H.length, 0, body⟩])
structure EffOK (vals : List (Option AV)) (i : Nat) (nw : List Nat) (H B' : AHeap) : Prop where
  ex : ∃ o env v, At ops an tm vals i o env v ∧ kind o = 3 ∧ allBit (an.getD i 0) nw = true ∧ allLt H.length (refsEnv env []) = true ∧ H.length ≤ B'.length ∧
    (wantedE ops env o = true → aop P orc (evalE gl env) o H = some (v, B')) ∧ (wantedE ops env o = false → v = .tuple [] ∧ B' = H)
inductive Chain (vals : List (Option AV)) : AHeap → List (Nat × AHeap × List Nat) → AHeap → Prop
  | nil (B : AHeap) : Chain vals B [] B
  | cons {B H B' Bf : AHeap} {nw : List Nat} {i : Nat} {l : List (Nat × AHeap × List Nat)} : Allocs P gl ops an tm vals B nw H → EffOK P gl orc ops an tm vals i nw H B' → Chain vals B' l Bf → Chain vals B ((i, B, nw) :: l) Bf
structure Fact (s : DSt) (i : Nat) : Prop where
  ex : ∃ o env v, At ops an tm s.vals i o env v ∧ (wantedE ops env o = false → v = .tuple []) ∧ (wantedE ops env o = true → kind o ≠ 2 → kind o ≠ 3 → ∃ H, apure' P (evalE gl env) H o = some v) ∧
    (kind o = 3 → i ∈ stFst s.sts) ∧ (kind o = 2 → wantedE ops env o = true → i ∈ s.new ∨ ∃ st ∈ s.sts, i ∈ st.2.2)
structure DI (H0 : AHeap) (s : DSt) : Prop where
  vdone : ∀ (i : Nat) (v : AV), s.vals[i]? = some (some v) → bit s.done i = true
  fact : ∀ i, bit s.done i = true → Fact P gl ops an tm s i
  allocs : Allocs P gl ops an tm s.vals s.base s.new s.heap
  chain : Chain P gl orc ops an tm s.vals H0 s.sts s.base
  len : s.vals.length = ops.length
end known
section run
variable {P : Program} {gl : Glob} {orc : Orc} {ops : List Oper} {an : List Nat} {tm : Tr}
theorem At.mono {vals vals' : List (Option AV)} (h : VLe vals vals') {i : Nat} {o : Oper} {env : List (Nat × AV)} {v : AV} (k : At ops an tm vals i o env v) : At ops an tm vals' i o env v :=
  ⟨k.op, envOf_mono h _ _ k.env, h _ _ k.val⟩
theorem Allocs.mono {vals vals' : List (Option AV)} (h : VLe vals vals') {B H : AHeap} {nw : List Nat} (k : Allocs P gl ops an tm vals B nw H) : Allocs P gl ops an tm vals' B nw H := by
  induction k with
  | nil => exact .nil _
  | snoc _ ha hk hw he hr ih => exact .snoc ih (ha.mono h) hk hw he hr
theorem EffOK.mono {vals vals' : List (Option AV)} (h : VLe vals vals') {i : Nat} {nw : List Nat} {H B' : AHeap} (k : EffOK P gl orc ops an tm vals i nw H B') : EffOK P gl orc ops an tm vals' i nw H B' := by
  obtain ⟨o, env, v, h1, h2⟩ := k.ex
  exact ⟨o, env, v, h1.mono h, h2⟩
theorem Chain.mono {vals vals' : List (Option AV)} (h : VLe vals vals') {B Bf : AHeap} {l : List (Nat × AHeap × List Nat)} (k : Chain P gl orc ops an tm vals B l Bf) : Chain P gl orc ops an tm vals' B l Bf := by
  induction k with
  | nil B => exact .nil B
  | cons ha he _ ih => exact .cons (ha.mono h) (he.mono h) ih
theorem Chain.snoc {vals : List (Option AV)} {B B1 H B2 : AHeap} {l : List (Nat × AHeap × List Nat)} {i : Nat} {nw : List Nat} (k : Chain P gl orc ops an tm vals B l B1) (ha : Allocs P gl ops an tm vals B1 nw H) (he : EffOK P gl orc ops an tm vals i nw H B2) :
    Chain P gl orc ops an tm vals B (l ++ [(i, B1, nw)]) B2 := by
  induction k with
  | nil B => exact .cons ha he (.nil _)
  | cons ha' he' _ ih => exact .cons ha' he' (ih ha)
theorem Allocs.length {vals : List (Option AV)} {B H : AHeap} {nw : List Nat} (k : Allocs P gl ops an tm vals B nw H) : H.length = B.length + nw.length := by
  induction k with
  | nil => simp
  | snoc _ ha hk hw he hr ih => simp [ih]; omega
theorem stFst_append (l : List (Nat × AHeap × List Nat)) (i : Nat) (B : AHeap) (nw : List Nat) : stFst (l ++ [(i, B, nw)]) = stFst l ++ [i] := by
  induction l with
  | nil => rfl
  | cons x l ih => obtain ⟨a, b, c⟩ := x; simp [stFst, ih]
theorem set_vle {vals : List (Option AV)} {i : Nat} {v : AV} (h : ∀ u, vals[i]? = some (some u) → False) : VLe vals (vals.set i (some v)) := by
  intro j u hj
  rw [List.getElem?_set]
  split
  · rename_i e; subst e; exact (h u hj).elim
  · exact hj
theorem bit_done (m i j : Nat) : bit (Nat.lor m (2 ^ i)) j = true ↔ bit m j = true ∨ i = j := by
  rw [bit_lor, bit_pow]; simp
theorem dstep_DI {H0 : AHeap} {i : Nat} {s s' : DSt} (h : DI P gl orc ops an tm H0 s) (e : dstep P gl orc ops an tm i s = some s') : DI P gl orc ops an tm H0 s' := by
  unfold dstep at e
  split at e <;> try (simp at e; done)
  rename_i o ho
  split at e <;> try (simp at e; done)
  rename_i env henv
  split at e <;> try (simp at e; done)
  rename_i hnd
  have hil : i < s.vals.length := by rw [h.len]; exact (List.getElem?_eq_some_iff.1 ho).1
  have hle : ∀ v, VLe s.vals (s.vals.set i (some v)) := fun v => set_vle fun u hu => hnd (h.vdone i u hu)
  have hat : ∀ v, At ops an tm (s.vals.set i (some v)) i o env v := fun v => ⟨ho, envOf_mono (hle v) _ _ henv, by simp [hil]⟩
  have build : ∀ (v : AV) (base heap : AHeap) (new : List Nat) (sts : List (Nat × AHeap × List Nat)),
      (∀ j, j ∈ stFst s.sts → j ∈ stFst sts) → (∀ j, (j ∈ s.new ∨ ∃ st ∈ s.sts, j ∈ st.2.2) → (j ∈ new ∨ ∃ st ∈ sts, j ∈ st.2.2)) →
      (wantedE ops env o = false → v = .tuple []) → (wantedE ops env o = true → kind o ≠ 2 → kind o ≠ 3 → ∃ H, apure' P (evalE gl env) H o = some v) →
      (kind o = 3 → i ∈ stFst sts) → (kind o = 2 → wantedE ops env o = true → i ∈ new ∨ ∃ st ∈ sts, i ∈ st.2.2) →
      Allocs P gl ops an tm (s.vals.set i (some v)) base new heap → Chain P gl orc ops an tm (s.vals.set i (some v)) H0 sts base →
      DI P gl orc ops an tm H0 ⟨s.vals.set i (some v), Nat.lor s.done (2 ^ i), base, new, heap, sts⟩ := by
    intro v base heap new sts h1 h2 h3 h4 h5 h6 h7 h8
    refine ⟨?_, ?_, h7, h8, by simpa using h.len⟩
    · intro j u hj
      rw [bit_done]
      simp only [List.getElem?_set] at hj
      split at hj
      · rename_i e; exact .inr e
      · exact .inl (h.vdone j u hj)
    · intro j hj
      rcases (bit_done _ _ _).1 hj with hj | rfl
      · obtain ⟨o', env', v', a1, a2, a3, a4, a5⟩ := (h.fact j hj).ex
        exact ⟨o', env', v', a1.mono (hle v), a2, a3, fun hk => h1 j (a4 hk), fun hk hw => h2 j (a5 hk hw)⟩
      · exact ⟨o, env, v, hat v, h3, h4, h5, h6⟩
  split at e
  ·
    rename_i hk
    split at e
    · rename_i hw
      split at e <;> try (simp at e; done)
      rename_i mk body he
      split at e <;> try (simp at e; done)
      rename_i hr
      simp only [frcC_eq, Option.some.injEq] at e
      subst e
      refine build (mk s.heap.length) _ _ _ _ (fun j hj => hj) (fun j hj => hj.imp (fun h => by simp [h]) id) (fun h => by simp [hw] at h) (fun _ hk2 => absurd hk hk2) (fun hk3 => by simp [hk] at hk3) (fun _ _ => .inl (by simp)) ?_ (h.chain.mono (hle _))
      exact .snoc (h.allocs.mono (hle _)) (hat _) hk hw he hr
    · rename_i hw
      simp only [Option.some.injEq] at e
      subst e
      have hw' : wantedE ops env o = false := by simpa using hw
      exact build _ _ _ _ _ (fun j hj => hj) (fun j hj => hj) (fun _ => rfl) (fun h => by simp [hw'] at h) (fun hk3 => by simp [hk] at hk3) (fun _ h => by simp [hw'] at h) (h.allocs.mono (hle _)) (h.chain.mono (hle _))
  ·
    rename_i hk
    split at e <;> try (simp at e; done)
    rename_i hchk
    simp only [Bool.and_eq_true] at hchk
    have h1 : ∀ j, j ∈ stFst s.sts → j ∈ stFst (s.sts ++ [(i, s.base, s.new)]) := fun j hj => by rw [stFst_append]; simp [hj]
    have h2 : ∀ j, (j ∈ s.new ∨ ∃ st ∈ s.sts, j ∈ st.2.2) → (j ∈ ([] : List Nat) ∨ ∃ st ∈ s.sts ++ [(i, s.base, s.new)], j ∈ st.2.2) := by
      rintro j (hj | ⟨st, hs, hj⟩)
      · exact .inr ⟨(i, s.base, s.new), by simp, hj⟩
      · exact .inr ⟨st, by simp [hs], hj⟩
    split at e
    · rename_i hw
      split at e <;> try (simp at e; done)
      rename_i r H' he
      simp only [frcC_eq] at e
      split at e <;> simp at e
      rename_i hlen
      subst e
      refine build r _ _ _ _ h1 h2 (fun h => by simp [hw] at h) (fun _ _ hk3 => absurd hk hk3) (fun _ => by rw [stFst_append]; simp) (fun hk2 => by simp [hk] at hk2) (.nil _) ?_
      refine Chain.snoc (h.chain.mono (hle r)) (h.allocs.mono (hle r)) ⟨o, env, r, hat r, hk, hchk.1, hchk.2, by simpa using hlen, fun _ => he, fun h => by simp [hw] at h⟩
    · rename_i hw
      have hw' : wantedE ops env o = false := by simpa using hw
      simp only [Option.some.injEq] at e
      subst e
      refine build _ _ _ _ _ h1 h2 (fun _ => rfl) (fun h => by simp [hw'] at h) (fun _ => by rw [stFst_append]; simp) (fun hk2 => by simp [hk] at hk2) (.nil _) ?_
      exact Chain.snoc (h.chain.mono (hle _)) (h.allocs.mono (hle _)) ⟨o, env, _, hat _, hk, hchk.1, hchk.2, Nat.le_refl _, fun h => by simp [hw'] at h, fun _ => ⟨rfl, rfl⟩⟩
  ·
    rename_i hk2 hk3
    split at e
    · rename_i hw
      split at e <;> try (simp at e; done)
      rename_i r he
      simp only [frcC_eq, Option.some.injEq] at e
      subst e
      exact build r _ _ _ _ (fun j hj => hj) (fun j hj => hj) (fun h => by simp [hw] at h) (fun _ _ _ => ⟨_, he⟩) (fun h => absurd h hk3) (fun h => absurd h hk2) (h.allocs.mono (hle r)) (h.chain.mono (hle r))
    · rename_i hw
      have hw' : wantedE ops env o = false := by simpa using hw
      simp only [Option.some.injEq] at e
      subst e
      exact build _ _ _ _ _ (fun j hj => hj) (fun j hj => hj) (fun _ => rfl) (fun h => by simp [hw'] at h) (fun h => absurd h hk3) (fun h => absurd h hk2) (h.allocs.mono (hle _)) (h.chain.mono (hle _))
theorem druns_DI {H0 : AHeap} : ∀ {l : List Nat} {s s' : DSt}, DI P gl orc ops an tm H0 s → druns P gl orc ops an tm l s = some s' → DI P gl orc ops an tm H0 s'
  | [], s, s', h, e => by simp [druns] at e; subst e; exact h
  | i :: l, s, s', h, e => by
    simp only [druns] at e
    split at e <;> try (simp at e; done)
    rename_i s1 hs
    exact druns_DI (dstep_DI h hs) e
theorem fillNone_length : ∀ (l : List Oper), (fillNone l).length = l.length
  | [] => rfl
  | _ :: l => by simp [fillNone, fillNone_length l]
theorem fillNone_get : ∀ (l : List Oper) (i : Nat) (v : AV), (fillNone l)[i]? = some (some v) → False
  | [], i, v, h => by simp [fillNone] at h
  | _ :: l, 0, v, h => by simp [fillNone] at h
  | _ :: l, i + 1, v, h => by simp [fillNone] at h; exact fillNone_get l i v h
theorem DI.start (H : AHeap) : DI P gl orc ops an tm H ⟨fillNone ops, 0, H, [], H, []⟩ :=
  ⟨fun i v h => (fillNone_get _ _ _ h).elim, fun i h => by simp [bit_zero] at h, .nil _, .nil _, fillNone_length _⟩
end run
end Go.Abs
end


/-
  Texts of this proof, one behind the other (part 2).
-/
import Derived.Test.YtbaoadpoknhhoaaGreatDoorPk1
import Derived.ChangeKeysEq
import Derived.Laws.IdiomStrings
import Derived.Lib.Builder
import Derived.Lib.MakeNoZero
import Derived.Lib.UnsafeStr
import Derived.Lib.Bytealg
import Derived.TacticsIn
import Derived.OrdersIn
set_option linter.unusedVariables false
set_option linter.unusedSimpArgs false

section
namespace Go.Abs
open Go.RowKit
def Z2Z (f : TypeId -> Option Nat) : List Field -> Nat -> Option Nat
 | [], off => some off
 | fl :: fs, off => if fl.name ≠ "_" /\ fl.offset = off then (match f fl.type with | some z => Z2Z f fs (off + z) | none => none) else none
def Z1X (P : Program) : Nat -> TypeId -> Option Nat
 | 0, _ => none
 | d + 1, t => match P.underlying t, tsz P t with
  | some (.int _), some z => if z = 1 then some z else none
  | some (.array n e), some z => match Z1X P d e with | some ze => if n * ze = z then some z else none | none => none
  | some (.struct fs), some z => if P.stoodInHeld t = true then none else match Z2Z (Z1X P d) fs.toList 0 with | some z' => if z' = z then some z else none | none => none
  | _, _ => none
def iv (l : List (IntKind × Int)) : List Value := l.map fun p => .int p.1 p.2
def pk (P : Program) (t : TypeId) (cs : List Value) : Value := match Z3L P t with | some true => .agg cs.toArray | _ => cs.headD undef
def Zaa : List AV -> List AV -> Option Bool
 | [], [] => some true
 | .int k a :: xs, .int k' b :: ys => if k = k' then (match Zaa xs ys with | some r => some ((a == b) && r) | none => none) else none
 | _, _ => none
def ZgF : Nat -> List AV -> Bool
 | 0, [] => true
 | n + 1, .int _ _ :: xs => ZgF n xs
 | _, _ => false
def ZfH (d : TypeDesc) (k : AV) : Bool := match d with
 | .array n _ => (match k with | .agg xs => ZgF n xs | _ => false)
 | _ => true
section flat
variable {P : Program}
theorem Z6y : ∀ {d : Nat} {t : TypeId} {z : Nat}, Z1X P d t = some z -> tsz P t = some z
 | 0, t, z, h => by simp [Z1X] at h
 | d + 1, t, z, h => by
  unfold Z1X at h
  split at h
  · rename_i hz; split at h <;> simp at h; subst h; exact hz
  · rename_i hz; split at h <;> try (simp at h; done)
    split at h <;> simp at h; subst h; exact hz
  · rename_i hz; split at h <;> try (simp at h; done)
    split at h <;> try (simp at h; done)
    split at h <;> simp at h; subst h; exact hz
  · simp at h
theorem ZdH {d : Nat} {t : TypeId} {z : Nat} (h : Z1X P (d + 1) t = some z) : ((∃ k, P.underlying t = some (.int k)) /\ Z3L P t = some false /\ z = 1) \/ (((∃ n e, P.underlying t = some (.array n e)) \/ ∃ fs, P.underlying t = some (.struct fs)) /\ Z3L P t = some true) := by
 unfold Z1X at h
 split at h
 · rename_i k z' hu hz; left; split at h <;> simp at h; subst h; rename_i e; exact ⟨⟨k, hu⟩, by simp [Z3L, hu], e⟩
 · rename_i n e z' hu hz; right; exact ⟨.inl ⟨n, e, hu⟩, by simp [Z3L, hu]⟩
 · rename_i fs z' hu hz; right; exact ⟨.inr ⟨fs, hu⟩, by simp [Z3L, hu]⟩
 · simp at h
theorem Z2v {d : Nat} {t : TypeId} {z : Nat} (h : Z1X P d t = some z) (arr : Array Value) (off : Nat) (hl : off + z <= arr.size) (w : World) :
  (part t arr off).run P w = .ok (pk P t ((arr.toList.drop off).take z)) w := by
 cases d with
 | zero => simp [Z1X] at h
 | succ d =>
  have hsz := Z6y h
  rcases ZdH h with ⟨_, ht, rfl⟩ | ⟨_, ht⟩
  · have hlt : off < arr.size := by omega
    have e1 : arr[off]? = some arr[off] := Array.getElem?_eq_getElem hlt
    simp only [part, Sem.run_bind, Z3s ht, Result.andThen_ok, Bool.false_eq_true, if_false, e1, Sem.run_pure, pk, ht]
    congr 1
    have : (arr.toList.drop off).take 1 = [arr[off]] := by
     rw [List.drop_eq_getElem_cons (by simpa using hlt)]; simp
    rw [this]; rfl
  · simp only [part, Sem.run_bind, Z3s ht, Result.andThen_ok, if_true, Z0j hsz, Sem.run_pure, pk, ht]
    congr 2
    apply Array.ext'
    simp [List.extract_eq_take_drop, Nat.add_sub_cancel_left]
theorem Z7N {α : Type} [DecidableEq α] (xs ys : List α) (off z : Nat) : (xs.drop off = ys.drop off) ↔ ((xs.drop off).take z = (ys.drop off).take z /\ xs.drop (off + z) = ys.drop (off + z)) := by
 constructor
 · intro h; exact ⟨by rw [h], by rw [<- List.drop_drop, <- List.drop_drop, h]⟩
 · rintro ⟨h1, h2⟩
   rw [<- List.take_append_drop z (xs.drop off), <- List.take_append_drop z (ys.drop off), List.drop_drop, List.drop_drop, h1, h2]
theorem Z5K (xs : List (IntKind × Int)) (off z : Nat) : ((iv xs).drop off).take z = iv ((xs.drop off).take z) := by
 simp only [iv, List.map_drop, List.map_take]
theorem Z9i {xs ys : List (IntKind × Int)} (h : ys.map (·.1) = xs.map (·.1)) (off z : Nat) : ((ys.drop off).take z).map (·.1) = ((xs.drop off).take z).map (·.1) := by
 rw [List.map_take, List.map_drop, h, <- List.map_drop, <- List.map_take]
def ZeR (P : Program) (d : Nat) (t : TypeId) (z : Nat) : Prop := ∀ xs ys : List (IntKind × Int), xs.length = z -> ys.map (·.1) = xs.map (·.1) -> ∀ w, (Op.equalIn d t (pk P t (iv xs)) (pk P t (iv ys))).run P w = .ok (decide (xs = ys)) w
theorem Z5m {m d : Nat} {e : TypeId} {ze : Nat} (he : Z1X P m e = some ze) (ih : ZeR P d e ze) (xs ys : List (IntKind × Int)) (hk : ys.map (·.1) = xs.map (·.1)) (w : World) :
  ∀ (k j : Nat), (j + k) * ze = xs.length -> (Op.eqItems d e ze (iv xs).toArray (iv ys).toArray (List.range' j k)).run P w = .ok (decide (xs.drop (j * ze) = ys.drop (j * ze))) w
 | 0, j, hl => by
  have hl2 : ys.length = xs.length := by simpa using congrArg List.length hk
  have e1 : xs.drop (j * ze) = [] := List.drop_eq_nil_of_le (by rw [<- hl]; simp)
  have e2 : ys.drop (j * ze) = [] := List.drop_eq_nil_of_le (by rw [hl2, <- hl]; simp)
  simp [Op.eqItems, e1, e2]
 | k + 1, j, hl => by
  have hl2 : ys.length = xs.length := by simpa using congrArg List.length hk
  have hle : j * ze + ze <= xs.length := by
   rw [<- hl]; have : (j + (k + 1)) * ze = j * ze + ze + k * ze := by rw [Nat.add_mul, Nat.add_mul]; omega
   omega
  have p1 := Z2v he (iv xs).toArray (j * ze) (by simpa [iv] using hle) w
  have p2 := Z2v he (iv ys).toArray (j * ze) (by simpa [iv, hl2] using hle) w
  simp only [Z5K] at p1 p2
  have q := ih ((xs.drop (j * ze)).take ze) ((ys.drop (j * ze)).take ze) (by simp; omega) (Z9i hk _ _) w
  have r := Z5m he ih xs ys hk w k (j + 1) (by rw [<- hl]; congr 1; omega)
  simp only [List.range'_succ, Op.eqItems, Sem.run_bind, p1, p2, Result.andThen_ok, q]
  rw [show (j + 1) * ze = j * ze + ze from by rw [Nat.add_mul]; omega] at r
  by_cases hc : (xs.drop (j * ze)).take ze = (ys.drop (j * ze)).take ze
  · simp only [hc, decide_true, Bool.not_true, Bool.false_eq_true, if_false]
    rw [r]
    congr 1
    rw [decide_eq_decide, Z7N xs ys (j * ze) ze]
    simp [hc]
  · simp only [hc, decide_false, Bool.not_false, if_true, Sem.run_pure]
    congr 1
    have : ¬ xs.drop (j * ze) = ys.drop (j * ze) := fun h => hc (by rw [h])
    simp [this]
theorem Z4x {d : Nat} {F : TypeId -> Option Nat} (ih : ∀ t z, F t = some z -> (∃ m, Z1X P m t = some z) /\ ZeR P d t z) (xs ys : List (IntKind × Int)) (hk : ys.map (·.1) = xs.map (·.1)) (w : World) :
  ∀ (fs : List Field) (off z : Nat), Z2Z F fs off = some z -> z = xs.length -> (Op.eqFields d (iv xs).toArray (iv ys).toArray fs).run P w = .ok (decide (xs.drop off = ys.drop off)) w
 | [], off, z, h, hz => by
  simp [Z2Z] at h; subst h; subst hz
  have hl2 : ys.length = xs.length := by simpa using congrArg List.length hk
  have e2 : ys.drop xs.length = [] := List.drop_eq_nil_of_le (by omega)
  simp [Op.eqFields, e2]
 | f :: fs, off, z, h, hz => by
  simp only [Z2Z] at h
  split at h <;> try (simp at h; done)
  rename_i hn
  split at h <;> try (simp at h; done)
  rename_i zf hf
  obtain ⟨⟨m, hm⟩, hq⟩ := ih _ _ hf
  have hge : ∀ (fs : List Field) (off z : Nat), Z2Z F fs off = some z -> off <= z := by
   intro fs
   induction fs with
   | nil => intro off z h; simp [Z2Z] at h; omega
   | cons f fs ihf =>
    intro off z h
    simp only [Z2Z] at h
    split at h <;> try (simp at h; done)
    split at h <;> try (simp at h; done)
    have := ihf _ _ h; omega
  have hle := hge _ _ _ h
  have hl2 : ys.length = xs.length := by simpa using congrArg List.length hk
  have p1 := Z2v hm (iv xs).toArray off (by simp [iv]; omega) w
  have p2 := Z2v hm (iv ys).toArray off (by simp [iv]; omega) w
  simp only [Z5K] at p1 p2
  have q := hq ((xs.drop off).take zf) ((ys.drop off).take zf) (by simp; omega) (Z9i hk _ _) w
  have r := Z4x ih xs ys hk w fs (off + zf) z h hz
  simp only [Op.eqFields, hn.1, ne_eq, not_false_eq_true, if_true, hn.2, Sem.run_bind, p1, p2, Result.andThen_ok, q]
  by_cases hc : (xs.drop off).take zf = (ys.drop off).take zf
  · simp only [hc, decide_true, Bool.not_true, Bool.false_eq_true, if_false]
    rw [r]
    congr 1
    rw [decide_eq_decide, Z7N xs ys off zf]
    simp [hc]
  · simp only [hc, decide_false, Bool.not_false, if_true, Sem.run_pure]
    congr 1
    have : ¬ xs.drop off = ys.drop off := fun h => hc (by rw [h])
    simp [this]
theorem Zao : ∀ (m : Nat) {t : TypeId} {z : Nat}, Z1X P m t = some z -> ∀ d, m <= d -> ZeR P d t z
 | 0, t, z, h, d, hd => by simp [Z1X] at h
 | m + 1, t, z, h, 0, hd => by omega
 | m + 1, t, z, h, d + 1, hd => by
  intro xs ys hx hy w
  have hl2 : ys.length = xs.length := by simpa using congrArg List.length hy
  unfold Z1X at h
  split at h
  · rename_i k z' hu hz
    split at h <;> simp at h
    subst h; rename_i e; subst e
    have ht : Z3L P t = some false := by simp [Z3L, hu]
    match xs, ys, hx, hl2, hy with
    | [(k1, a)], [(k2, b)], _, _, hy =>
     simp at hy; subst hy
     simp only [pk, ht, iv, List.map_cons, List.map_nil, List.headD_cons]
     simp only [Op.equalIn, Sem.run_bind, run_underlying hu, Result.andThen_ok, if_true, Sem.run_pure]
     congr 1
     by_cases hab : a = b
     · subst hab; simp
     · simp [hab]
  · rename_i n e z' hu hz
    split at h <;> try (simp at h; done)
    rename_i ze he
    split at h <;> simp at h
    subst h; rename_i hn
    have ht : Z3L P t = some true := by simp [Z3L, hu]
    obtain ⟨i, hi, hsz⟩ := Zf7 (Z6y he)
    simp only [pk, ht]
    rw [run_equalIn_array w d _ _ hu hi]
    have hce : P.cellsOf e = ze := by simp [Program.cellsOf, hi, hsz]
    rw [hce, List.range_eq_range']
    have := Z5m he (Zao m he d (by omega)) xs ys hy w n 0 (by rw [Nat.zero_add, hx]; exact hn)
    simpa using this
  · rename_i fs z' hu hz
    split at h <;> try (simp at h; done)
    rename_i hst
    split at h <;> try (simp at h; done)
    rename_i z2 hfs
    split at h <;> simp at h
    subst h; rename_i e; subst e
    have ht : Z3L P t = some true := by simp [Z3L, hu]
    have hfo : P.fieldsOf t = fs := by simp [Program.fieldsOf, hu]
    simp only [pk, ht]
    rw [run_equalIn_struct w d t _ _ (by rw [hfo]; exact hu) (by simpa using hst), hfo]
    have := Z4x (P := P) (d := d) (fun t z hz => ⟨⟨m, hz⟩, Zao m hz d (by omega)⟩) xs ys hy w fs.toList 0 _ hfs hx.symm
    simpa using this
  · simp at h
def ZiE (P : Program) (d : Nat) (t : TypeId) (z : Nat) : Prop := ∀ (xs : List (IntKind × Int)) (b : Bool), xs.length = z -> ∀ w, (Instr.checkKey b d t (pk P t (iv xs))).run P w = .ok () w
theorem Z50 : ∀ (m : Nat) {t : TypeId} {z : Nat}, Z1X P m t = some z -> ∀ d, m <= d -> ZiE P d t z
 | 0, t, z, h, d, hd => by simp [Z1X] at h
 | m + 1, t, z, h, 0, hd => by omega
 | m + 1, t, z, h, d + 1, hd => by
  intro xs b hx w
  unfold Z1X at h
  split at h
  · rename_i k z' hu hz
    simp [Instr.checkKey, run_underlying hu]
  · rename_i n e z' hu hz
    split at h <;> try (simp at h; done)
    rename_i ze he
    split at h <;> simp at h
    subst h; rename_i hn
    have ht : Z3L P t = some true := by simp [Z3L, hu]
    simp only [pk, ht, Instr.checkKey, Sem.run_bind, run_underlying hu, Result.andThen_ok]
    simp only [Std.Legacy.Range.forIn_eq_forIn_range', Std.Legacy.Range.size, Nat.sub_zero, Nat.add_one_sub_one, Nat.div_one]
    have key : ∀ (k j : Nat), (j + k) * ze = xs.length -> (forIn (List.range' j k) PUnit.unit fun i _ => (do Instr.checkKey b d e (<- part e (iv xs).toArray (i * (<- sizeOf e))); pure (ForInStep.yield PUnit.unit) : Sem (ForInStep PUnit))).run P w = .ok PUnit.unit w := by
     intro k
     induction k with
     | zero => intro j hj; simp
     | succ k ihk =>
      intro j hj
      have hle : j * ze + ze <= xs.length := by
       rw [<- hj]; have : (j + (k + 1)) * ze = j * ze + ze + k * ze := by rw [Nat.add_mul, Nat.add_mul]; omega
       omega
      have p1 := Z2v he (iv xs).toArray (j * ze) (by simpa [iv] using hle) w
      simp only [Z5K] at p1
      have q := Z50 m he d (by omega) ((xs.drop (j * ze)).take ze) b (by simp; omega) w
      have r := ihk (j + 1) (by rw [<- hj]; congr 1; omega)
      simp only [List.range'_succ, List.forIn_cons, Sem.run_bind, Z0j (Z6y he), Result.andThen_ok, p1, q, Sem.run_pure]
      exact r
    have := key n 0 (by rw [Nat.zero_add, hx]; exact hn)
    simp only [bind_pure_comp, map_pure] at this ⊢
    rw [this]; rfl
  · rename_i fs z' hu hz
    split at h <;> try (simp at h; done)
    rename_i hst
    split at h <;> try (simp at h; done)
    rename_i z2 hfs
    split at h <;> simp at h
    subst h; rename_i e; subst e
    have ht : Z3L P t = some true := by simp [Z3L, hu]
    simp only [pk, ht, Instr.checkKey, Sem.run_bind, run_underlying hu, Result.andThen_ok]
    rw [<- Array.forIn_toList]
    have hge : ∀ (fs : List Field) (off z : Nat), Z2Z (Z1X P m) fs off = some z -> off <= z := by
     intro fs
     induction fs with
     | nil => intro off z h; simp [Z2Z] at h; omega
     | cons f fs ihf =>
      intro off z h
      simp only [Z2Z] at h
      split at h <;> try (simp at h; done)
      split at h <;> try (simp at h; done)
      have := ihf _ _ h; omega
    clear hu hz hst
    revert hfs
    generalize fs.toList = L
    generalize 0 = off
    intro hfs
    induction L generalizing off with
    | nil => simp
    | cons f L ihL =>
     simp only [Z2Z] at hfs
     split at hfs <;> try (simp at hfs; done)
     rename_i hn
     split at hfs <;> try (simp at hfs; done)
     rename_i zf hf
     have hle := hge _ _ _ hfs
     have p1 := Z2v hf (iv xs).toArray off (by simp [iv]; omega) w
     simp only [Z5K] at p1
     have q := Z50 m hf d (by omega) ((xs.drop off).take zf) b (by simp; omega) w
     have r := ihL _ hfs
     simp only [List.forIn_cons, Sem.run_bind, hn.1, ne_eq, not_false_eq_true, if_true, hn.2, p1, Result.andThen_ok, q, Sem.run_pure] at r ⊢
     exact r
  · simp at h
end flat
def Z6R (d : TypeDesc) (x y : AV) : Option Bool :=
 match d with
 | .int _ => match x, y with | .int k a, .int k' b => if k = k' then some (a == b) else none | _, _ => none
 | .string => match x, y with | .str a, .str b => some (a == b) | _, _ => none
 | .array n _ => match x, y with | .agg xs, .agg ys => (match ZgF n xs, ZgF n ys with | true, true => Zaa xs ys | _, _ => none) | _, _ => none
 | _ => none
def Z3n (d : TypeDesc) (k : AV) : List (AV × AV × Nat) -> Nat -> Option (Option (Nat × AV))
 | [], _ => match ZfH d k with | true => some none | false => none
 | (k', v, _) :: es, i =>
  match Z6R d k k' with
  | some true => some (some (i, v))
  | some false => Z3n d k es (i + 1)
  | none => none
def Zfu (k v : AV) : Nat -> List (AV × AV × Nat) -> List (AV × AV × Nat)
 | _, [] => []
 | 0, (_, _, n) :: es => (k, v, n) :: es
 | i + 1, e :: es => e :: Zfu k v i es
def Zdm (H : Z00) (m : AV) : Option (List (AV × AV × Nat)) :=
 match m with
 | .nmap => some []
 | .map b => match Z7A H b with | some (es, _) => some es | none => none
 | _ => none
def Z2i (P : Program) (t : TypeId) : Option (TypeDesc × TypeId) :=
 match P.underlying t with
 | some (.map kt e) => match P.underlying kt with
  | some (.int k) => some (.int k, e)
  | some .string => some (.string, e)
  | some (.struct _) => match Z1X P 6 kt with | some n => some (.array n kt, e) | none => none
  | some (.array _ _) => match Z1X P 6 kt with | some n => some (.array n kt, e) | none => none
  | _ => none
 | _ => none
def Z3m (P : Program) (t : TypeId) (m k : AV) (ok : Bool) (H : Z00) : Option AV :=
 match Z2i P t with
 | some (d, e) => match Zdm H m with
  | some es => match Z3n d k es 0 with
   | some (some (_, v)) => some (if ok then .tuple [v, .bool true] else v)
   | some none => match Z1C P e with
    | some z => some (if ok then .tuple [z, .bool false] else z)
    | none => none
   | none => none
  | none => none
 | none => none
def Z1T (P : Program) (t : TypeId) (m k v : AV) (H : Z00) : Option Z00 :=
 match Z2i P t with
 | some (d, _) => match m with
  | .map b => match H[b]? with
   | some o => match o.alive, o.body with
    | true, .map es clock => match Z3n d k es 0 with
     | some (some (i, _)) => some ((Z3o b o.fam H).set b { o with body := .map (Zfu k v i es) clock })
     | some none => some ((Z3o b o.fam H).set b { o with body := .map (es ++ [(k, v, clock)]) (clock + 1) })
     | none => none
    | _, _ => none
   | none => none
  | _ => none
 | none => none
def ZaN (P : Program) (t : TypeId) (dst src : AV) (H : Z00) : Option (AV × Z00) :=
 match P.underlying t with
 | some (.slice e) => match tsz P e with
  | some z => match Z2X H z src with
   | some (n, xs) => match dst with
    | .nslice => some (.int .i64 0, H)
    | .slice b off len _ z' =>
     if z' = z then
      if Nat.min n len = 0 then some (.int .i64 0, H) else
      match tk (Nat.min n len * z) xs with
      | some cs => match wr H (.ptr b off) cs with
       | some H' => some (.int .i64 (Nat.min n len), H')
       | none => none
      | none => none
     else none
    | _ => none
   | none => none
  | none => none
 | _ => none
section eff
variable {P : Program} {sn : Z0d} {ι : Z0a} {H : Z00} {W : World}
theorem Zg7 {a b : ByteArray} (h : a.data.toList = b.data.toList) : a = b := by
 apply ByteArray.ext; apply Array.ext'; exact h
theorem Z9m : ∀ {n : Nat} {l : List AV}, ZgF n l = true -> ∃ xs : List (IntKind × Int), xs.length = n /\ l = xs.map fun p => .int p.1 p.2
 | 0, [], _ => ⟨[], rfl, rfl⟩
 | 0, _ :: _, h => by simp [ZgF] at h
 | n + 1, [], h => by simp [ZgF] at h
 | n + 1, c :: l, h => by
  cases c <;> simp only [ZgF] at h <;> try (cases h; done)
  rename_i k a
  obtain ⟨xs, h1, h2⟩ := Z9m h
  exact ⟨(k, a) :: xs, by simp [h1], by simp [h2]⟩
theorem ZeQ : ∀ {xs : List (IntKind × Int)} {l : List Value}, LR sn ι (xs.map fun p => AV.int p.1 p.2) l -> l = iv xs
 | [], l, h => by simp [LR] at h; subst h; rfl
 | p :: xs, l, h => by
  simp only [List.map_cons, LR] at h
  obtain ⟨d, ds, rfl, h1, h2⟩ := h
  rw [h1.int, ZeQ h2]; rfl
theorem Z7n : ∀ {xs ys : List (IntKind × Int)} {r : Bool}, Zaa (xs.map fun p => .int p.1 p.2) (ys.map fun p => .int p.1 p.2) = some r -> ys.map (·.1) = xs.map (·.1) /\ r = decide (xs = ys)
 | [], [], r, h => by simp [Zaa] at h; subst h; simp
 | [], _ :: _, r, h => by simp [Zaa] at h
 | _ :: _, [], r, h => by simp [Zaa] at h
 | (k, a) :: xs, (k', b) :: ys, r, h => by
  simp only [List.map_cons, Zaa] at h
  split at h <;> try (simp at h; done)
  rename_i hk
  subst hk
  split at h <;> simp at h
  subst h
  rename_i r' hr
  obtain ⟨h1, h2⟩ := Z7n hr
  refine ⟨by simp [h1], ?_⟩
  rw [h2]
  by_cases hab : a = b
  · subst hab; simp
  · simp [hab]
theorem Z6z {kt : TypeId} {n : Nat} (ht : Z3L P kt = some true) {k : AV} (hf : ZfH (.array n kt) k = true) {k' : Value} (hk : VR sn ι k k') : ∃ xs : List (IntKind × Int), xs.length = n /\ k = .agg (xs.map fun p => .int p.1 p.2) /\ k' = pk P kt (iv xs) := by
 simp only [ZfH] at hf
 split at hf <;> try (cases hf; done)
 obtain ⟨xs, h1, rfl⟩ := Z9m hf
 obtain ⟨d, rfl, h2⟩ := hk.agg
 have := ZeQ h2
 refine ⟨xs, h1, rfl, ?_⟩
 simp only [pk, ht]
 congr 1
 apply Array.ext'; simp [this]
theorem Z4n : ∀ (n : Nat) (xs : List (IntKind × Int)), ((iv xs).zip (iv xs)).all (fun (x, y) => Instr.sameBits n x y) = true
 | n, [] => by simp [iv]
 | n, p :: xs => by
  have := Z4n n xs
  simp only [iv, List.map_cons, List.zip_cons_cons, List.all_cons, Bool.and_eq_true] at this ⊢
  exact ⟨by simp [Instr.sameBits], this⟩
theorem Zab {kt : TypeId} (ht : Z3L P kt = some true) (xs : List (IntKind × Int)) : Instr.sameBits 10000 (pk P kt (iv xs)) (pk P kt (iv xs)) = true := by
 simp only [pk, ht, Instr.sameBits, beq_self_eq_true, Bool.true_and]
 exact Z4n _ xs
def KD (P : Program) (kt : TypeId) (d : TypeDesc) : Prop := (P.underlying kt = some d /\ ((∃ k, d = .int k) \/ d = .string)) \/ (∃ n, d = .array n kt /\ Z1X P 6 kt = some n /\ Z3L P kt = some true)
theorem Z6Q {d : TypeDesc} (hd : (∃ k, d = .int k) \/ d = .string) {x y : AV} {r : Bool} (h : Z6R d x y = some r) {x' y' : Value} (hx : VR sn ι x x') (hy : VR sn ι y y') :
  Instr.sameNow d x' y' = some r /\ (r = true -> Instr.sameBits 10000 y' x' = true) := by
 rcases hd with ⟨kk, rfl⟩ | rfl
 · simp only [Z6R] at h
   split at h <;> try (simp at h; done)
   split at h <;> simp at h
   subst h; rename_i hk; subst hk
   cases hx.int; cases hy.int
   refine ⟨by simp [Instr.sameNow], fun hr => ?_⟩
   simp at hr; subst hr; simp [Instr.sameBits]
 · simp only [Z6R] at h
   split at h <;> simp at h
   subst h
   obtain ⟨a, rfl, rfl⟩ := hx.str; obtain ⟨b, rfl, rfl⟩ := hy.str
   have e : (a == b) = (a.data.toList == b.data.toList) := by rw [beq_toListBytes, ByteArray.toList_eq, ByteArray.toList_eq]
   refine ⟨by simp only [Instr.sameNow, e], fun hr => ?_⟩
   have := Zg7 (by simpa using hr); subst this
   simp only [Instr.sameBits]; rw [e]; exact hr
theorem Z7U {n : Nat} {kt : TypeId} (hf : Z1X P 6 kt = some n) (ht : Z3L P kt = some true) {x y : AV} {r : Bool} (h : Z6R (.array n kt) x y = some r) {x' y' : Value} (hx : VR sn ι x x') (hy : VR sn ι y y') :
  (∀ w, (Op.equal kt x' y').run P w = .ok r w) /\ (r = true -> Instr.sameBits 10000 y' x' = true) /\ ZfH (.array n kt) x = true := by
 simp only [Z6R] at h
 split at h <;> try (simp at h; done)
 rename_i xs ys
 split at h <;> try (simp at h; done)
 rename_i e1 e2
 have k1 : ZfH (.array n kt) (.agg xs) = true := e1
 have k2 : ZfH (.array n kt) (.agg ys) = true := e2
 obtain ⟨as1, l1, a1, rfl⟩ := Z6z (P := P) ht k1 hx
 obtain ⟨bs, l2, a2, rfl⟩ := Z6z (P := P) ht k2 hy
 simp only [AV.agg.injEq] at a1 a2
 subst a1; subst a2
 obtain ⟨h1, h2⟩ := Z7n h
 refine ⟨fun w => by rw [h2]; exact Zao 6 hf 10000 (by omega) as1 bs l1 h1 w, fun hr => ?_, k1⟩
 subst hr
 have : as1 = bs := by simpa using h2.symm
 subst this
 exact Zab ht as1
open Classical in
def Z4J (P : Program) (kt : TypeId) (d : TypeDesc) (k : Value) (l : List MapEntry) (i : Nat) (r : Option (Nat × Value)) : Prop :=
 if (∃ n, d = .array n kt) then (∀ w, (Instr.findAsking kt k l i).run P w = .ok r w) else Instr.findNow d k l i = some r
theorem Z1s {kt : TypeId} {d : TypeDesc} (hd : KD P kt d) {k : AV} {k' : Value} (hk : VR sn ι k k') : ∀ (es : List (AV × AV × Nat)) (i : Nat) (r : Option (Nat × AV)), Z3n d k es i = some r -> ∀ (l : List MapEntry), ER sn ι es l ->
  ZfH d k = true /\ match r with
  | none => Z4J P kt d k' l i none
  | some (j, v) => ∃ v' x, Z4J P kt d k' l i (some (j, v')) /\ VR sn ι v v' /\ i <= j /\ l[j - i]? = some x /\ Instr.sameBits 10000 x.key k' = true
 | [], i, r, h, l, hl => by
  simp only [Z3n] at h
  split at h <;> simp at h
  subst h; rename_i hfit
  refine ⟨hfit, ?_⟩
  simp [ER] at hl; subst hl
  simp only [Z4J]
  split
  · intro w; simp [Instr.findAsking]
  · simp [Instr.findNow]
 | (k2, v, n) :: es, i, r, h, l, hl => by
  simp only [ER] at hl; obtain ⟨x, l', rfl, h1, h2, h3, h4⟩ := hl
  simp only [Z3n] at h
  rcases hd with ⟨hd1, hd2⟩ | ⟨m, rfl, hd1, hd2⟩
  · have hna : ¬ ∃ n, d = .array n kt := by rintro ⟨n, rfl⟩; rcases hd2 with ⟨_, e⟩ | e <;> cases e
    have hfit : ZfH d k = true := by rcases hd2 with ⟨kk, rfl⟩ | rfl <;> rfl
    split at h
    · rename_i hs
      obtain ⟨e1, e2⟩ := Z6Q hd2 hs hk h1
      simp at h; subst h
      exact ⟨hfit, x.val, x, by simp only [Z4J, if_neg hna]; simp [Instr.findNow, e1], h2, Nat.le_refl _, by simp, e2 rfl⟩
    · rename_i hs
      obtain ⟨e1, _⟩ := Z6Q hd2 hs hk h1
      have ih := (Z1s (.inl ⟨hd1, hd2⟩) hk es (i + 1) r h l' h4).2
      refine ⟨hfit, ?_⟩
      cases r with
      | none => simp only [Z4J, if_neg hna] at ih ⊢; simpa [Instr.findNow, e1] using ih
      | some jv =>
       obtain ⟨j, v⟩ := jv
       obtain ⟨v', x', i1, i2, i3, i4, i5⟩ := ih
       refine ⟨v', x', ?_, i2, by omega, ?_, i5⟩
       · simp only [Z4J, if_neg hna] at i1 ⊢; simpa [Instr.findNow, e1] using i1
       · rw [show j - i = (j - (i + 1)) + 1 from by omega]; simpa using i4
    · simp at h
  · have hya : ∃ n, TypeDesc.array m kt = .array n kt := ⟨m, rfl⟩
    split at h
    · rename_i hs
      obtain ⟨e1, e2, e3⟩ := Z7U hd1 hd2 hs hk h1
      simp at h; subst h
      exact ⟨e3, x.val, x, by simp only [Z4J, if_pos hya]; intro w; simp [Instr.findAsking, e1], h2, Nat.le_refl _, by simp, e2 rfl⟩
    · rename_i hs
      obtain ⟨e1, _, e3⟩ := Z7U hd1 hd2 hs hk h1
      have ih := (Z1s (.inr ⟨m, rfl, hd1, hd2⟩) hk es (i + 1) r h l' h4).2
      refine ⟨e3, ?_⟩
      cases r with
      | none => simp only [Z4J, if_pos hya] at ih ⊢; intro w; simp [Instr.findAsking, e1, ih]
      | some jv =>
       obtain ⟨j, v⟩ := jv
       obtain ⟨v', x', i1, i2, i3, i4, i5⟩ := ih
       refine ⟨v', x', ?_, i2, by omega, ?_, i5⟩
       · simp only [Z4J, if_pos hya] at i1 ⊢; intro w; simp [Instr.findAsking, e1, i1]
       · rw [show j - i = (j - (i + 1)) + 1 from by omega]; simpa using i4
    · simp at h
theorem Z5i {t : TypeId} {d : TypeDesc} {e : TypeId} (h : Z2i P t = some (d, e)) : ∃ kt, P.underlying t = some (.map kt e) /\ KD P kt d := by
 unfold Z2i at h
 split at h <;> try (simp at h; done)
 rename_i kt e' ht
 split at h <;> try (simp at h; done)
 · simp at h; obtain ⟨rfl, rfl⟩ := h; exact ⟨kt, ht, .inl ⟨by assumption, .inl ⟨_, rfl⟩⟩⟩
 · simp at h; obtain ⟨rfl, rfl⟩ := h; exact ⟨kt, ht, .inl ⟨by assumption, .inr rfl⟩⟩
 · rename_i hu
   split at h <;> simp at h
   obtain ⟨rfl, rfl⟩ := h
   exact ⟨kt, ht, .inr ⟨_, rfl, by assumption, by simp [Z3L, hu]⟩⟩
 · rename_i hu
   split at h <;> simp at h
   obtain ⟨rfl, rfl⟩ := h
   exact ⟨kt, ht, .inr ⟨_, rfl, by assumption, by simp [Z3L, hu]⟩⟩
theorem Z21 {kt : TypeId} {d : TypeDesc} (hd : KD P kt d) {k : AV} (hf : ZfH d k = true) {v : Value} (hk : VR sn ι k v) (b : Bool) (w : World) : (Instr.checkKey b 10000 kt v).run P w = .ok () w := by
 rcases hd with ⟨hd, h⟩ | ⟨n, rfl, h1, h2⟩
 · have key : ∀ n, (Instr.checkKey b (n + 1) kt v).run P w = .ok () w := fun n => by
    rcases h with ⟨k, rfl⟩ | rfl <;> simp [Instr.checkKey, run_underlying hd]
   exact key 9999
 · obtain ⟨xs, l1, _, rfl⟩ := Z6z (P := P) h2 hf hk
   exact Z50 6 h1 10000 (by omega) xs b l1 w
theorem Z1J {kt : TypeId} {d : TypeDesc} (hd : KD P kt d) {k : Value} {es : List MapEntry} {r : Option (Nat × Value)} (h : Z4J P kt d k es 0 r) (w : World) : (Instr.findKey kt k es).run P w = .ok r w := by
 rcases hd with ⟨hd, h2⟩ | ⟨n, rfl, h1, h2⟩
 · have hna : ¬ ∃ n, d = .array n kt := by rintro ⟨n, rfl⟩; rcases h2 with ⟨_, e⟩ | e <;> cases e
   simp only [Z4J, if_neg hna] at h
   simp [Instr.findKey, run_underlying hd, h]
 · simp only [Z4J, if_pos (⟨n, rfl⟩ : ∃ m, TypeDesc.array n kt = .array m kt)] at h
   have hu : ∃ d, P.underlying kt = some d /\ ∀ x y, Instr.sameNow d x y = none := by
    unfold Z3L at h2
    split at h2
    · exact ⟨_, by assumption, fun x y => by simp [Instr.sameNow]⟩
    · exact ⟨_, by assumption, fun x y => by simp [Instr.sameNow]⟩
    · simp at h2
    · simp at h2
   obtain ⟨d, hu, hs⟩ := hu
   cases es with
   | nil =>
    have := h w
    simp [Instr.findAsking] at this
    subst this
    simp [Instr.findKey, run_underlying hu, Instr.findNow]
   | cons x es => simp [Instr.findKey, run_underlying hu, Instr.findNow, hs, h]
theorem Z8I (hR : RO sn ι H W) {t : TypeId} {m k u : AV} {ok : Bool} (h : Z3m P t m k ok H = some u) {m' k' : Value} (hm : VR sn ι m m') (hk : VR sn ι k k') :
  ∃ z, (Instr.lookup t m' k' ok).run P W = .ok z W /\ VR sn ι u z := by
 unfold Z3m at h
 split at h <;> try (simp at h; done)
 rename_i d e hd
 obtain ⟨kt, ht, hkd⟩ := Z5i hd
 split at h <;> try (simp at h; done)
 rename_i es hes
 have hent : ∃ mes : Array MapEntry, ER sn ι es mes.toList /\ ((m' = .map none /\ mes = #[]) \/ ∃ r clock, m' = .map (some r) /\ W.heap[r]? = some (.map mes clock)) := by
  unfold Zdm at hes
  split at hes
  · simp at hes; subst hes; exact ⟨#[], by simp [ER], .inl ⟨hm.nmap, rfl⟩⟩
  · split at hes <;> simp at hes
    subst hes; rename_i clock hmo
    obtain ⟨o, p, mes, _, _, _, hp, hw, he⟩ := Z5g hR hmo
    obtain ⟨q, hq, rfl⟩ := hm.map
    rw [hp] at hq; simp at hq; subst hq
    exact ⟨mes, he, .inr ⟨_, _, rfl, hw⟩⟩
  · simp at hes
 obtain ⟨mes, he, hcase⟩ := hent
 have fin : ∀ (v : AV) (v' : Value) (b : Bool), VR sn ι v v' -> VR sn ι (if ok then .tuple [v, .bool b] else v) (if ok then .tuple #[v', .bool b] else v') := by
  intro v v' b hv
  split
  · exact Z4c (by simp only [LR]; exact ⟨_, _, rfl, hv, _, _, rfl, Za0 b, rfl⟩)
  · exact hv
 split at h
 · rename_i i v hf
   simp at h; subst h
   obtain ⟨f0, v', x, f1, f2, _⟩ := Z1s (P := P) hkd hk es 0 _ hf _ he
   have hck := fun b w => Z21 (P := P) hkd f0 hk b w
   refine ⟨_, ?_, fin v v' true f2⟩
   rcases hcase with ⟨rfl, rfl⟩ | ⟨r, clock, rfl, hw⟩
   · have hes0 : es = [] := by
      cases es with
      | nil => rfl
      | cons e es => obtain ⟨k1, v1, n1⟩ := e; simp only [ER] at he; obtain ⟨_, _, h0, _⟩ := he; simp at h0
     subst hes0
     simp only [Z3n] at hf
     split at hf <;> simp at hf
   · simp only [Instr.lookup, Sem.run_bind, run_underlying ht, Result.andThen_ok, hck, Z1J hkd f1, Sem.run_pure, getObj, Sem.run, hw]
 · rename_i hf
   split at h <;> simp at h
   subst h; rename_i z hz
   obtain ⟨z', h1, h2⟩ := Z2p hz
   have f01 := Z1s (P := P) hkd hk es 0 _ hf _ he
   have hck := fun b w => Z21 (P := P) hkd f01.1 hk b w
   have f1 : Z4J P kt d k' mes.toList 0 none := f01.2
   refine ⟨_, ?_, fin z z' false (h2 sn ι)⟩
   rcases hcase with ⟨rfl, rfl⟩ | ⟨r, clock, rfl, hw⟩
   · simp only [Instr.lookup, Sem.run_bind, run_underlying ht, Result.andThen_ok, hck, Z1J hkd f1, Sem.run_pure, h1]
   · simp only [Instr.lookup, Sem.run_bind, run_underlying ht, Result.andThen_ok, hck, Z1J hkd f1, Sem.run_pure, h1, getObj, Sem.run, hw]
 · simp at h
theorem ZeU {k v : AV} {k' v' : Value} (hk : VR sn ι k k') (hv : VR sn ι v v') : ∀ (es : List (AV × AV × Nat)) (l : List MapEntry) (i : Nat), ER sn ι es l ->
  ER sn ι (Zfu k v i es) (l.modify i fun e => { e with key := k', val := v' })
 | [], l, i, h => by simp [ER] at h; subst h; cases i <;> simp [Zfu, ER]
 | (a, b, n) :: es, l, i, h => by
  simp only [ER] at h; obtain ⟨x, l', rfl, h1, h2, h3, h4⟩ := h
  cases i with
  | zero => simp only [Zfu, ER, List.modify_zero_cons]; exact ⟨_, _, rfl, hk, hv, h3, h4⟩
  | succ i => simp only [Zfu, ER, List.modify_succ_cons]; exact ⟨_, _, rfl, h1, h2, h3, ZeU hk hv es l' i h4⟩
theorem ZeX {es : List (AV × AV × Nat)} {l : List MapEntry} (h : ER sn ι es l) {k v : AV} {x : MapEntry} (hk : VR sn ι k x.key) (hv : VR sn ι v x.val) : ER sn ι (es ++ [(k, v, x.born)]) (l ++ [x]) := by
 induction es generalizing l with
 | nil => simp [ER] at h; subst h; simp only [List.nil_append, ER]; exact ⟨x, [], rfl, hk, hv, rfl, rfl⟩
 | cons e es ih =>
  obtain ⟨a, b, n⟩ := e
  simp only [ER] at h; obtain ⟨y, l', rfl, h1, h2, h3, h4⟩ := h
  simp only [List.cons_append, ER]; exact ⟨y, _, rfl, h1, h2, h3, ih h4⟩
theorem Z5V {r : Nat} {ob : Obj} : Turn W { W with heap := W.heap.setIfInBounds r ob } r :=
 ⟨fun c hc => by simp [Array.getElem?_setIfInBounds, Ne.symm hc], by simp, rfl, rfl, rfl⟩
theorem Z4H (hR : R sn ι H W) {t : TypeId} {m k x : AV} {H' : Z00} (h : Z1T P t m k x H = some H') {m' k' x' : Value} (hm : VR sn ι m m') (hk : VR sn ι k k') (hx : VR sn ι x x') :
  ∃ W', (Instr.mapUpdate t m' k' x').run P W = .ok () W' /\ Stp sn ι H W sn ι H' W' := by
 unfold Z1T at h
 split at h <;> try (simp at h; done)
 rename_i d e hd
 obtain ⟨kt, ht, hkd⟩ := Z5i hd
 split at h <;> try (simp at h; done)
 rename_i b
 split at h <;> try (simp at h; done)
 rename_i o ho
 split at h <;> try (simp at h; done)
 rename_i es clock hal hbd
 obtain ⟨p, hp, rfl⟩ := hm.map
 have hob := hR.obj b o p ho hal hp
 rw [hbd] at hob; simp only [OR] at hob
 obtain ⟨mes, hw, he⟩ := hob
 have hlt : p.blk < W.heap.size := hR.blk b p hp
 split at h
 · rename_i i v hf
   simp at h; subst h
   obtain ⟨f0, v', y, f1, f2, _, f4, f5⟩ := Z1s (P := P) hkd hk es 0 _ hf _ he
   have hck := fun b w => Z21 (P := P) hkd f0 hk b w
   simp only [Nat.sub_zero] at f4
   have hy : mes[i]? = some y := by rw [<- Array.getElem?_toList]; exact f4
   refine ⟨{ W with heap := W.heap.setIfInBounds p.blk (.map (mes.modify i fun e => { e with key := k', val := x' }) clock) }, ?_, ?_⟩
   · simp only [Instr.mapUpdate, Sem.run_bind, run_underlying ht, Result.andThen_ok, getObj, Sem.run, hw, hck, Z1J hkd f1, hy, Option.map_some, Option.getD_some, Instr.keyThatStays, f5, if_true, setObj]
     simp [hw]
   · refine Stp.write hR ho hal hp Z5V _ ?_
     refine ⟨_, by simp [Array.getElem?_setIfInBounds, hlt]; rfl, ?_⟩
     rw [Array.toList_modify]
     exact ZeU hk hx es _ i he
 · rename_i hf
   simp at h; subst h
   have f01 := Z1s (P := P) hkd hk es 0 _ hf _ he
   have hck := fun b w => Z21 (P := P) hkd f01.1 hk b w
   have f1 : Z4J P kt d k' mes.toList 0 none := f01.2
   refine ⟨{ W with heap := W.heap.setIfInBounds p.blk (.map (mes.push { key := k', val := x', born := clock }) (clock + 1)) }, ?_, ?_⟩
   · simp only [Instr.mapUpdate, Sem.run_bind, run_underlying ht, Result.andThen_ok, getObj, Sem.run, hw, hck, Z1J hkd f1, setObj]
   · refine Stp.write hR ho hal hp Z5V _ ?_
     refine ⟨_, by simp [Array.getElem?_setIfInBounds, hlt]; rfl, ?_⟩
     rw [Array.toList_push]
     exact ZeX (x := { key := k', val := x', born := clock }) he hk hx
 · simp at h
theorem Z34 (hR : R sn ι H W) {z n m : Nat} {x : AV} {xs cs : List AV} (h : Z2X H z x = some (n, xs)) (hm : m <= n) (hc : tk (m * z) xs = some cs) {x' : Value} (hx : VR sn ι x x') :
  ∃ news : List Value, LR sn ι cs news /\ (Builtin.lenOf x').run P W = .ok n W /\ (Builtin.firstCells z m x').run P W = .ok news.toArray W := by
 obtain ⟨htl, rfl⟩ := Z32 hc
 obtain ⟨news, k1, k2, k3, k4⟩ := Z58 (P := P) hR h hx
 refine ⟨news.take (m * z), k1.take _, k3 W, ?_⟩
 unfold Z2X at h
 split at h
 · simp at h; obtain ⟨rfl, rfl⟩ := h; cases hx.nslice
   simp [LR] at k1; subst k1; simp [Builtin.firstCells]
 · split at h <;> try (simp at h; done)
   rename_i b off len cap z' hz; subst hz
   split at h <;> simp at h
   obtain ⟨rfl, rfl⟩ := h; rename_i cs hcs
   obtain ⟨p, a, cap', hp, rfl, hlc, hcc, hne⟩ := hx.slice
   obtain ⟨g, o, vs, e, h1, h2, h3⟩ := Z4o hR.ro hcs (v := .pointer (some ⟨p.blk, p.sh + off, none⟩)) (by simp only [VR]; exact ⟨p, hp, rfl⟩)
   simp at e; obtain ⟨rfl, rfl⟩ := e
   have hfull := k4 W fun _ => rfl
   by_cases hc0 : cap' = 0
   · have h0 : len = 0 := by omega
     have hm0 : m = 0 := by omega
     subst hm0; simp [Builtin.firstCells, loadCells, loadCellsFrom]
   · obtain ⟨rfl, _⟩ := hne hc0
     rw [run_firstCells_some W z' len _ len cap' vs h2 fun j v hj => h3 j v hj] at hfull
     simp at hfull; subst hfull
     exact run_firstCells_some W z' m _ len cap' (vs.take (m * z')) (by rw [List.length_take, h2]; exact Nat.min_eq_left (Nat.mul_le_mul_right _ hm)) fun j v hj => by
      rw [List.getElem?_take] at hj; split at hj
      · exact h3 j v hj
      · simp at hj
 · split at h <;> simp at h
   obtain ⟨rfl, rfl⟩ := h
   rename_i n z' cs hz; subst hz
   rcases hx.rs with ⟨rfl, rfl, rfl⟩ | ⟨⟨b, o, sp⟩, cap, rfl, hc', hcs, hmr, hsp⟩
   · have hm0 : m = 0 := by omega
     subst hm0; simp [Builtin.firstCells]
   obtain ⟨vs, h1, h2⟩ := hmr.cells hR
   have hsp' : ∀ (j : Nat) (v : Value), vs[j]? = some v -> sp = none := fun j v hj => hsp fun h0 => by
    have := (List.getElem?_eq_some_iff.1 hj).1
    rw [h1.length, hcs, h0, Nat.zero_mul] at this; omega
   have hfull := k4 W fun _ => rfl
   rw [run_firstCells_some W z' n _ n cap vs (by rw [h1.length, hcs]) fun j v hj => by cases hsp' j v hj; rw [Z0l]; exact h2 j v hj] at hfull
   simp at hfull; subst hfull
   exact run_firstCells_some W z' m _ n cap (vs.take (m * z')) (by rw [List.length_take, h1.length, hcs]; exact Nat.min_eq_left (Nat.mul_le_mul_right _ hm)) fun j v hj => by
    rw [List.getElem?_take] at hj; split at hj
    · cases hsp' j v hj; rw [Z0l]; exact h2 j v hj
    · simp at hj
 · split at h <;> simp at h
   obtain ⟨rfl, rfl⟩ := h
   rename_i s hz; subst hz
   obtain ⟨ba, rfl, rfl⟩ := hx.str
   have hfull := k4 W fun _ => rfl
   have hsz : ba.data.toList.length = ba.size := by cases ba; rfl
   simp only [Builtin.firstCells, Sem.run_pure] at hfull ⊢
   congr 1
   injection hfull with hfull _
   apply Array.ext'
   rw [Array.toList_map, Lib.extract_data, List.drop_zero, Nat.sub_zero, Nat.mul_one]
   have := congrArg Array.toList hfull
   rw [Array.toList_map, Lib.extract_data, List.drop_zero, Nat.sub_zero] at this
   simp only [List.toList_toArray] at this ⊢
   rw [<- this, List.take_length, List.map_take]
 · simp at h
theorem ZaM (hR : R sn ι H W) {t t2 ty : TypeId} {dst src r : AV} {H' : Z00} (h : ZaN P t dst src H = some (r, H')) {d' s' : Value} (hd : VR sn ι dst d') (hs : VR sn ι src s') :
  ∃ v W', (Builtin.copy_ #[t, t2] ty #[d', s']).run P W = .ok v W' /\ VR sn ι r v /\ Stp sn ι H W sn ι H' W' := by
 unfold ZaN at h
 split at h <;> try (simp at h; done)
 rename_i e ht
 split at h <;> try (simp at h; done)
 rename_i z hz
 split at h <;> try (simp at h; done)
 rename_i n xs hxs
 have hzero : ∃ news : List Value, LR sn ι [] news /\ (Builtin.lenOf s').run P W = .ok n W /\ (Builtin.firstCells z 0 s').run P W = .ok news.toArray W :=
  Z34 hR hxs (Nat.zero_le _) (by simp [tk]) hs
 obtain ⟨nz, z1, z2, z3⟩ := hzero
 simp [LR] at z1; subst z1
 split at h
 · simp at h; obtain ⟨rfl, rfl⟩ := h
   cases hd.nslice
   refine ⟨goInt 0, W, ?_, Z59 _ _, Stp.refl hR⟩
   have : Nat.min n 0 = 0 := Nat.min_zero n
   simp [Builtin.copy_, run_underlying ht, z2, Z0j hz, this, z3]
 · rename_i b off len cap z'
   split at h <;> try (simp at h; done)
   rename_i hzz; subst hzz
   obtain ⟨p, a, cap', hp, rfl, hlc, hcc, hne⟩ := hd.slice
   split at h
   · rename_i h0
     simp at h; obtain ⟨rfl, rfl⟩ := h
     refine ⟨goInt 0, W, ?_, Z59 _ _, Stp.refl hR⟩
     have h0' : Nat.min n len = 0 := h0
     simp [Builtin.copy_, run_underlying ht, z2, h0', Z0j hz, z3, storeCells]
   · rename_i h0
     split at h <;> try (simp at h; done)
     rename_i cs hcs
     split at h <;> simp at h
     rename_i H1 hw
     obtain ⟨rfl, rfl⟩ := h
     have hlen0 : cap' ≠ 0 := by
      intro hc
      have : len = 0 := by omega
      subst this; exact h0 (Nat.min_zero n)
     obtain ⟨rfl, hbb⟩ := hne hlen0
     obtain ⟨news, k1, k2, k3⟩ := Z34 (P := P) hR hxs (Nat.min_le_left _ _) hcs hs
     obtain ⟨ad, W', e1, hst, hstp⟩ := Z5B (P := P) hR hw (a' := .pointer (some ⟨p.blk, p.sh + off, none⟩)) (by simp only [VR]; exact ⟨p, hp, rfl⟩) k1
     simp at e1; subst e1
     refine ⟨goInt (Nat.min n len), W', ?_, Z59 _ _, hstp⟩
     simp [Builtin.copy_, run_underlying ht, k2, Z0j hz, k3, hst]
 · simp at h
end eff
end Go.Abs
end

section
namespace Go.Abs
open Go.RowKit
mutual
def Z12 : AV -> List Nat -> List Nat
 | .ptr b _, acc => b :: acc
 | .slice b _ _ _ _, acc => b :: acc
 | .map b, acc => b :: acc
 | .func _ f c, acc => refsL f (refsL c acc)
 | .iface _ v, acc => Z12 v acc
 | .agg cs, acc => refsL cs acc
 | .tuple cs, acc => refsL cs acc
 | .bool _, acc => acc
 | .int _ _, acc => acc
 | .str _, acc => acc
 | .nptr, acc => acc
 | .rp _, acc => acc
 | .nslice, acc => acc
 | .rs _ _ _, acc => acc
 | .nmap, acc => acc
 | .nfunc, acc => acc
 | .niface, acc => acc
def refsL : List AV -> List Nat -> List Nat
 | [], acc => acc
 | v :: l, acc => Z12 v (refsL l acc)
end
def Z8c : List (AV × AV × Nat) -> List Nat -> List Nat
 | [], acc => acc
 | (k, v, _) :: es, acc => Z12 k (Z12 v (Z8c es acc))
def Zc2 : List (Nat × AV) -> List Nat -> List Nat
 | [], acc => acc
 | x :: l, acc => Z12 x.2 (Zc2 l acc)
def Z3H : ABody -> List Nat -> List Nat
 | .cells cs _, acc => refsL cs acc
 | .map es _, acc => Z8c es acc
 | .siter _ _, acc => acc
 | .loop _ ts, acc => Zc2 ts acc
def mem (i : Nat) : List Nat -> Bool
 | [] => false
 | j :: l => Nat.beq i j || mem i l
theorem mem_iff {i : Nat} : ∀ {l : List Nat}, mem i l = true ↔ i ∈ l
 | [] => by simp [mem]
 | j :: l => by simp [mem, mem_iff (l := l), Nat.beq_eq]
end Go.Abs
end

section
namespace Go.Abs
open Go.RowKit
def isC : Operand -> Bool
 | .const _ => true
 | _ => false
def Z6h (P : Program) (op : BinOp) (t : TypeId) (b : Bool) : Option AV := match P.underlying t with
 | some (.interface _) => match op with | .eql => some (.bool b) | .neq => some (.bool !b) | _ => none
 | _ => none
def Zgy (P : Program) (op : BinOp) (t t1 t2 : TypeId) (u v : AV) : Option AV :=
 if Nat.beq t1 t2 then match P.info? t1 with
  | some i => if i.comparable then (match aEq P 9999 t1 u v with | some b => Z6h P op t b | none => none) else none
  | none => none
 else Z6h P op t false
def Zd9 (P : Program) (op : BinOp) (t : TypeId) : Option AV := match P.underlying t with
 | some (.pointer e) => match tsz P e with
  | some (_ + 1) => match op with | .eql => some (.bool true) | .neq => some (.bool false) | _ => none
  | _ => none
 | _ => none
def Z2W (P : Program) (op : BinOp) (t : TypeId) (c : Bool) (u v : AV) : Option AV :=
 match u, v with
 | .niface, .niface => if c then Z6h P op t true else none
 | .iface _ _, .niface => Z6h P op t false
 | .niface, .iface _ _ => Z6h P op t false
 | .iface t1 u, .iface t2 v => Zgy P op t t1 t2 u v
 | .ptr b o, .ptr b' o' => if Nat.beq b b' && Nat.beq o o' then Zd9 P op t else none
 | u, v => Z57 P op t u v
def Z5r (P : Program) (s d : TypeId) (b off : Nat) (H : Z00) : Bool :=
 match H[b]? with
 | some o => match o.alive, o.body with
  | true, .cells cs ty => match P.underlying s, P.underlying d with
   | some (.pointer t), some .unsafePointer => (match tsz P t with | some (_ + 1) => Nat.blt off cs.length | _ => false)
   | some .unsafePointer, some (.pointer u) => (match tsz P u with
    | some _ => Nat.beq o.sh 0 && (Nat.blt 0 (P.cellsOf ty) && (Nat.ble (P.cellsOf ty) cs.length && liesAt P P.depth ty 1 off u 1))
    | none => false)
   | _, _ => false
  | _, _ => false
 | none => false
def Z3A : List AV -> Option (List UInt8)
 | [] => some []
 | .int .u8 (.ofNat k) :: l => if Nat.blt k 256 then (match Z3A l with | some r => some (UInt8.ofNat k :: r) | none => none) else none
 | _ => none
def Z6P (P : Program) (t : TypeId) (p : AV) (m : Nat) (H : Z00) : Option (AV × Z00) :=
 match m with
 | 0 => match p with
  | .nptr => some (.str [], H)
  | .ptr _ _ => some (.str [], H)
  | _ => none
 | m + 1 => match p with
  | .ptr b 0 => match H[b]? with
   | some o => match o.alive, o.body with
    | true, .cells cs ty => match P.underlying t with
     | some (.pointer e) => if (Nat.beq e ty && Nat.beq (P.cellsOf ty) 1 && Nat.beq o.sh 0 && Nat.ble (m + 1) 9223372036854775807) = true then
       match tk (m + 1) cs with
       | some l => match Z3A l with
        | some bs => some (.str bs, (Z3o b o.fam H).set b o.dead)
        | none => none
       | none => none
      else none
     | _ => none
    | _, _ => none
   | none => none
  | _ => none
def Z6S (P : Program) (s d : TypeId) : Bool := match P.underlying s, P.underlying d with
 | some (.slice e), some .string => match P.underlying e with
  | some (.int .u8) => true
  | _ => false
 | _, _ => false
def Z4I (u : AV) (H : Z00) : Option AV := match u with
 | .slice b off len _ z => if Nat.beq z 1 = true then (match H[b]? with
  | some o => match o.alive, o.body with
   | true, .cells cs _ => match tk len (cs.drop off) with
    | some l => match Z3A l with
     | some bs => some (.str bs)
     | none => none
    | none => none
   | _, _ => none
  | none => none) else none
 | _ => none
def Z6T (P : Program) (s d : TypeId) (x : AV) (H : Z00) : Option AV :=
 match x with
 | .str bs => match P.underlying s, P.underlying d with
  | some .string, some (.slice e) => match P.underlying e with
   | some (.int .u8) => some (.rs bs.length 1 (bs.map fun b => .int .u8 b.toNat))
   | _ => none
  | _, _ => none
 | .ptr b off => if Z5r P s d b off H then some (.ptr b off) else none
 | _ => none
def Z2l (P : Program) (t : TypeId) (x : AV) (lo hi : Option AV) (H : Z00) : Option AV :=
 match x with
 | .ptr b off => match P.underlying t with
  | some (.array n e) => match tsz P e with
   | some z => match H[b]? with
    | some o => match o.alive, o.body with
     | true, .cells cs _ => if Nat.ble (off + n * z) cs.length = true then (match bnd hi n n with
      | some h => match bnd lo 0 h with
       | some l => some (.slice b (off + l * z) (h - l) (n - l) z)
       | none => none
      | none => none) else none
     | _, _ => none
    | none => none
   | none => none
  | _ => none
 | _ => none
def ZaJ (P : Program) (t : TypeId) (x : AV) (lo : Option AV) (hi mx : AV) : Option AV :=
 match x with
 | .slice b off _ cap z => match P.underlying t with
  | some (.slice e) => match tsz P e with
   | some z' => if z' = z then (match bnd (some mx) 0 cap with
    | some m => match bnd (some hi) 0 m with
     | some h => match bnd lo 0 h with
      | some l => some (.slice b (off + l * z) (h - l) (m - l) z)
      | none => none
     | none => none
    | none => none) else none
   | none => none
  | _ => none
 | _ => none
def Z02 (P : Program) (ρ : Operand -> Option AV) (H : Z00) (o : Oper) : Option AV :=
 match o.op with
 | .slice t x lo (some hi) (some mx) => match ρ x, Z54 ρ lo, ρ hi, ρ mx with | some x, some lo, some hi, some mx => ZaJ P t x lo hi mx | _, _, _, _ => none
 | .binOp op t x y _ => match ρ x, ρ y with | some u, some v => Z2W P op t (isC x || isC y) u v | _, _ => none
 | .lookup t m k ok => match ρ m, ρ k with | some m, some k => Z3m P t m k ok H | _, _ => none
 | .convert s d x => match ρ x with | some (.slice b off len cap z) => if Z6S P s d = true then Z4I (.slice b off len cap z) H else none | _ => Z0f P ρ H o
 | _ => Z0f P ρ H o
def Z2D (P : Program) (ρ : Operand -> Option AV) (H : Z00) (o : Oper) : Option (AV × Z00) :=
 match o.op with
 | .alloc e => Z9P P e H
 | .box e x => match ρ x with | some v => ZjY e v H | none => none
 | .buildSlice t len ps => match Z2z ρ ps.toList with | some us => Z1U P t len us H | none => none
 | .makeSlice t l c => match ρ l, ρ c with | some l, some c => Z1I P t l c H | _, _ => none
 | .makeMap t none => some (.map H.length, H ++ [⟨true, H.length, 0, .map [] 0⟩])
 | .store t a x => match ρ a, ρ x with | some a, some x => (match Z5q P t a x H with | some H' => some (.tuple [], H') | none => none) | _, _ => none
 | .mapUpdate t m k x => match ρ m, ρ k, ρ x with | some m, some k, some x => (match Z1T P t m k x H with | some H' => some (.tuple [], H') | none => none) | _, _, _ => none
 | .insert t m k x => match ρ m, ρ k, ρ x with | some m, some k, some x => (match Z1T P t m k x H with | some H' => some (.tuple [], H') | none => none) | _, _, _ => none
 | .convert s d x => match ρ x with | some u => (match Z6T P s d u H with | some r => some (r, H) | none => none) | none => none
 | .slice t x lo hi none => match ρ x, Z54 ρ lo, Z54 ρ hi with | some u, some lo, some hi => (match Z2l P t u lo hi H with | some r => some (r, H) | none => none) | _, _, _ => none
 | .call c => match c.callee with
  | .builtin .append => match c.args.toList, c.argTypes.toList with
   | [s, x], [t, t2] => match ρ s, ρ x with | some s, some x => Z2m P t t2 s x H | _, _ => none
   | _, _ => none
  | .builtin .cap => match c.args.toList, c.argTypes.toList with
   | [x], [t] => match ρ x, P.underlying t with
    | some .nslice, some (.slice _) => some (.int .i64 (.ofNat 0), H)
    | _, _ => none
   | _, _ => none
  | .builtin .clear => match c.args.toList, c.argTypes.toList with
   | [x], [t] => match ρ x with
    | some x => (match Z6U P t x H with | some H' => some (.tuple [], H') | none => none)
    | none => none
   | _, _ => none
  | .builtin .unsafeSliceData => match c.args.toList with
   | [x] => match ρ x with
    | some (.slice b off _ (_ + 1) _) => some (.ptr b off, H)
    | some .nslice => some (.nptr, H)
    | _ => none
   | _ => none
  | .builtin .unsafeString => match c.args.toList, c.argTypes.toList with
   | [x, y], [t, _] => match ρ x, ρ y with
    | some p, some (.int .i64 (.ofNat m)) => Z6P P t p m H
    | _, _ => none
   | _, _ => none
  | .builtin .copy => match c.args.toList, c.argTypes.toList with
   | [s, x], [t, t2] => match ρ s, ρ x with | some s, some x => ZaN P t s x H | _, _ => none
   | _, _ => none
  | _ => none
 | _ => none
def ZkJ (P : Program) (s : Sem Next) (W : World) (v : Value) (W' : World) : Prop := s.run P W = .ok (.value v) W' \/ (s.run P W = .ok .skip W' /\ v = undef)
section eff
variable {P : Program} {sn : Z0d} {ι : Z0a} {H : Z00} {W : World}
theorem Zgc {op : BinOp} {t : TypeId} {c : Bool} {u v r : AV} (h : Z57 P op t u v = some r) : Z2W P op t c u v = some r := by
 unfold Z2W
 split
 · simp [Z57] at h
 · simp [Z57] at h
 · simp [Z57] at h
 · exfalso
   unfold Z57 at h
   cases op <;> simp [aEq] at h
 · exfalso
   unfold Z57 at h
   cases op <;> simp [aEq] at h
 · exact h
theorem Zaq {t e : TypeId} {n : Nat} (ht : P.underlying t = some (.pointer e)) (hn : tsz P e = some n) (hn0 : n ≠ 0) (a : Addr) (d : Nat) (w : World) : (Op.equalIn (d + 1) t (.pointer (some a)) (.pointer (some a))).run P w = .ok true w := by
 have hsz : (sizeOf e).run P w = .ok n w := by
  unfold tsz at hn
  split at hn <;> simp at hn
  rename_i i hi
  subst hn
  simp [sizeOf, typeInfo, hi]
 simp [Op.equalIn, run_underlying ht, hsz, hn0, sameAddr]
theorem Zar {t : TypeId} {ms} (ht : P.underlying t = some (.interface ms)) (d : Nat) (w : World) : (Op.equalIn (d + 1) t .nilIface .nilIface).run P w = .ok true w := by
 simp [Op.equalIn, run_underlying ht]
theorem Z9s {t : TypeId} {ms} (ht : P.underlying t = some (.interface ms)) (u : TypeId) (v : Value) (d : Nat) (w : World) : (Op.equalIn (d + 1) t (.iface u v) .nilIface).run P w = .ok false w := by
 simp [Op.equalIn, run_underlying ht]
theorem Z9r {t : TypeId} {ms} (ht : P.underlying t = some (.interface ms)) (u : TypeId) (v : Value) (d : Nat) (w : World) : (Op.equalIn (d + 1) t .nilIface (.iface u v)).run P w = .ok false w := by
 simp [Op.equalIn, run_underlying ht]
theorem Zas {t u : TypeId} {ms} {i : TypeInfo} {x y : Value} {b : Bool} (ht : P.underlying t = some (.interface ms)) (hi : P.info? u = some i) (hc : i.comparable = true) (d : Nat) (w : World) (h : (Op.equalIn d u x y).run P w = .ok b w) :
  (Op.equalIn (d + 1) t (.iface u x) (.iface u y)).run P w = .ok b w := by
 simp [Op.equalIn, run_underlying ht, typeInfo, hi, hc, h]
theorem Z9t {t u u' : TypeId} {ms} {x y : Value} (ht : P.underlying t = some (.interface ms)) (hn : u ≠ u') (d : Nat) (w : World) : (Op.equalIn (d + 1) t (.iface u x) (.iface u' y)).run P w = .ok false w := by
 simp [Op.equalIn, run_underlying ht, hn]
theorem ZeD {t : TypeId} {x y : Value} {ox oy : Operand} {w : World} {b : Bool} (hg : (eqGuard .eql t ox oy x y).run P w = .ok () w) (he : (Op.equalIn 10000 t x y).run P w = .ok b w)
  (h1 : binOp .eql t x y = (do pure (.bool (<- Op.equal t x y)) : Sem Value)) : (do eqGuard .eql t ox oy x y; binOp .eql t x y : Sem Value).run P w = .ok (.bool b) w := by
 have he' : (Op.equal t x y).run P w = .ok b w := he
 rw [Sem.run_bind, hg]; show (binOp .eql t x y).run P w = _
 rw [h1, Sem.run_bind, he']; rfl
theorem ZeC {t : TypeId} {x y : Value} {ox oy : Operand} {w : World} {b : Bool} (hg : (eqGuard .neq t ox oy x y).run P w = .ok () w) (he : (Op.equalIn 10000 t x y).run P w = .ok b w)
  (h1 : binOp .neq t x y = (do pure (.bool (!(<- Op.equal t x y))) : Sem Value)) : (do eqGuard .neq t ox oy x y; binOp .neq t x y : Sem Value).run P w = .ok (.bool !b) w := by
 have he' : (Op.equal t x y).run P w = .ok b w := he
 rw [Sem.run_bind, hg]; show (binOp .neq t x y).run P w = _
 rw [h1, Sem.run_bind, he']; rfl
theorem Zc3 {op : BinOp} {t : TypeId} {r : AV} (h : Zd9 P op t = some r) (a : Addr) (ox oy : Operand) (w : World) :
  ∃ z, (do eqGuard op t ox oy (.pointer (some a)) (.pointer (some a)); binOp op t (.pointer (some a)) (.pointer (some a)) : Sem Value).run P w = .ok z w /\ VR sn ι r z := by
 unfold Zd9 at h
 split at h <;> try (simp at h; done)
 rename_i e ht
 split at h <;> try (simp at h; done)
 rename_i m hm
 have hg : (eqGuard op t ox oy (.pointer (some a)) (.pointer (some a))).run P w = .ok () w := by cases op <;> rfl
 have heq := Zaq ht hm (by omega) a 9999 w
 split at h <;> simp at h
 · subst h
   exact ⟨_, ZeD hg heq rfl, by simp [VR]⟩
 · subst h
   exact ⟨_, ZeC hg heq rfl, by simp [VR]⟩
theorem Z2u {op : BinOp} {t : TypeId} {r : AV} {b : Bool} (h : Z6h P op t b = some r) {x y : Value} {ox oy : Operand} {w : World} (hg : op = .eql \/ op = .neq -> (eqGuard op t ox oy x y).run P w = .ok () w)
  (he : ∀ ms, P.underlying t = some (.interface ms) -> (Op.equalIn 10000 t x y).run P w = .ok b w) (h1 : binOp .eql t x y = (do pure (.bool (<- Op.equal t x y)) : Sem Value)) (h2 : binOp .neq t x y = (do pure (.bool (!(<- Op.equal t x y))) : Sem Value)) :
  ∃ z, (do eqGuard op t ox oy x y; binOp op t x y : Sem Value).run P w = .ok z w /\ VR sn ι r z := by
 unfold Z6h at h
 split at h <;> try (simp at h; done)
 rename_i ms ht
 split at h <;> simp at h
 · subst h
   exact ⟨_, ZeD (hg (.inl rfl)) (he ms ht) h1, by simp [VR]⟩
 · subst h
   exact ⟨_, ZeC (hg (.inr rfl)) (he ms ht) h2, by simp [VR]⟩
theorem ZaP {op : BinOp} {t : TypeId} {x y u : AV} {ox oy : Operand} (h : Z2W P op t (isC ox || isC oy) x y = some u) {x' y' : Value} (hx : VR sn ι x x') (hy : VR sn ι y y') (w : World) :
  ∃ z, (do eqGuard op t ox oy x' y'; binOp op t x' y' : Sem Value).run P w = .ok z w /\ VR sn ι u z := by
 unfold Z2W at h
 split at h
 · split at h <;> try (simp at h; done)
   rename_i hc
   simp only [VR] at hx hy
   subst hx; subst hy
   refine Z2u h (fun hop => ?_) (fun ms ht => Zar ht 9999 w) rfl rfl
   rcases hop with rfl | rfl <;> cases ox <;> cases oy <;> first | (simp [isC] at hc; done) | rfl | simp [eqGuard]
 · simp only [VR] at hx hy
   obtain ⟨z, rfl, _⟩ := hx; subst hy
   exact Z2u h (fun hop => by rcases hop with rfl | rfl <;> rfl) (fun ms ht => Z9s ht _ _ 9999 w) rfl rfl
 · simp only [VR] at hx hy
   obtain ⟨z, rfl, _⟩ := hy; subst hx
   exact Z2u h (fun hop => by rcases hop with rfl | rfl <;> rfl) (fun ms ht => Z9r ht _ _ 9999 w) rfl rfl
 · simp only [VR] at hx hy
   obtain ⟨z, rfl, hz⟩ := hx; obtain ⟨z', rfl, hz'⟩ := hy
   unfold Zgy at h
   split at h
   · rename_i he
     have he := Nat.eq_of_beq_eq_true he; subst he
     split at h <;> try (simp at h; done)
     rename_i i hi
     split at h <;> try (simp at h; done)
     rename_i hcmp
     split at h <;> try (simp at h; done)
     rename_i b hb
     exact Z2u h (fun hop => by rcases hop with rfl | rfl <;> rfl) (fun ms ht => Zas ht hi hcmp 9999 w (Z2F 9999 _ _ _ _ hb _ _ hz hz' w)) rfl rfl
   · rename_i he
     exact Z2u h (fun hop => by rcases hop with rfl | rfl <;> rfl) (fun ms ht => Z9t ht (fun e => he (by rw [e]; exact Nat.beq_refl _)) 9999 w) rfl rfl
 · split at h <;> try (simp at h; done)
   rename_i b o b' o' hc
   simp only [Bool.and_eq_true] at hc
   have e1 := Nat.eq_of_beq_eq_true hc.1; subst e1
   have e2 := Nat.eq_of_beq_eq_true hc.2; subst e2
   simp only [VR] at hx hy
   obtain ⟨p, hp, rfl⟩ := hx
   obtain ⟨p', hp', rfl⟩ := hy
   rw [hp] at hp'; simp at hp'; subst hp'
   exact Zc3 h _ ox oy w
 · exact Z7W h hx hy ox oy w
def snx (sn : Z0d) (g : Nat) (W' : World) : Z0d := fun a => if a.block < g then sn a else W'.cell? a
theorem Stp.snap {W' : World} (h : R sn ι H W) (e : Ext W W') : Stp sn ι H W (snx sn W.heap.size W') ι H W' := by
 have hr := h.ext e
 have hle : Le sn (snx sn W.heap.size W') ι ι := ⟨fun a v hv => by
  unfold snx
  rw [if_pos (h.snap a v hv).1]; exact hv, fun _ _ h => h⟩
 refine ⟨⟨hr.dom, hr.blk, fun b o p hb ha hp => Z0C hle rfl (hr.obj b o p hb ha hp), hr.sep, ?_, hr.shz⟩, hle, fun _ _ h => .inl h, fun c hc _ => e.old c hc, e.size, e.os, e.tape, e.output, ?_, fun b o hb => ⟨o, hb, rfl, rfl, id⟩⟩
 · intro a v hv
   unfold snx at hv
   split at hv
   · exact hr.snap a v hv
   · rename_i hge
     refine ⟨?_, hv, fun b o p hb ha hp => ?_⟩
     · cases hq : W'.heap[a.block]? with
       | none => unfold World.cell? at hv; rw [hq] at hv; simp at hv
       | some ob => exact (Array.getElem?_eq_some_iff.1 hq).1
     · have := h.blk b p hp; omega
 · intro a v hv
   unfold snx at hv
   split at hv
   · exact .inl hv
   · exact .inr (.inl (by omega))
theorem ZbZ {fits : TypeId -> Bool} : ∀ (d : Nat) (e : TypeId) (c c' off n : Nat), c <= c' -> rowAt P fits d e c off n = true -> rowAt P fits d e c' off n = true
 | 0, e, c, c', off, n, hc, h => by simp [rowAt] at h
 | d + 1, e, c, c', off, n, hc, h => by
  unfold rowAt at h ⊢
  simp only at h ⊢
  split at h
  · cases h
  · rename_i hs
    rw [if_neg hs]
    simp only [Bool.or_eq_true, Bool.and_eq_true, decide_eq_true_eq] at h ⊢
    rcases h with ⟨⟨h1, h2⟩, h3⟩ | ⟨h1, h2⟩
    · exact .inl ⟨⟨h1, by omega⟩, h3⟩
    · exact .inr ⟨by omega, h2⟩
theorem Z6m : ∀ (d : Nat) (e : TypeId) (c c' off : Nat) (u : TypeId) (n : Nat), c <= c' -> liesAt P d e c off u n = true -> liesAt P d e c' off u n = true
 | 0, e, c, c', off, u, n, hc, h => by simp [liesAt] at h
 | d + 1, e, c, c', off, u, n, hc, h => by
  unfold liesAt at h ⊢
  simp only [Bool.or_eq_true] at h ⊢
  rcases h with h | h
  · exact .inl (ZbZ _ _ _ _ _ _ hc h)
  · right
    split at h
    · exact Z6m d e c c' off _ _ hc h
    · cases h
theorem Z3M {g : Nat} {arr : Array Value} {ty : TypeId} {fr : Nat × Nat} (h : W.heap[g]? = some (.cells arr ty fr)) : W.shape? g = some (ty, arr.size) := by
 simp [World.shape?, h]
theorem Z9K (hR : R sn ι H W) {s d : TypeId} {b off : Nat} (h : Z5r P s d b off H = true) {x' : Value} (hx : VR sn ι (.ptr b off) x') : (convert s d x').run P W = .ok x' W := by
 unfold Z5r at h
 split at h <;> try (cases h; done)
 rename_i o hb
 split at h <;> try (cases h; done)
 rename_i cs ty hal hbd
 simp only [VR] at hx
 obtain ⟨p, hp, rfl⟩ := hx
 have hob := hR.obj b o p hb hal hp
 rw [hbd] at hob
 simp only [OR] at hob
 obtain ⟨arr, g1, g2, g3, g4⟩ := hob
 have hsh := Z3M g1
 split at h
 · rename_i t hs hd
   split at h <;> try (cases h; done)
   rename_i m hm
   have hlt : off < cs.length := by simpa [Nat.blt_eq] using h
   unfold tsz at hm
   split at hm <;> simp at hm
   rename_i i hi
   exact Lib.run_to_unsafe W _ hs hd hi (by omega) hsh (by show p.sh + off < arr.size; omega)
 · rename_i u hs hd
   split at h <;> try (cases h; done)
   rename_i m hm
   simp only [Bool.and_eq_true] at h
   obtain ⟨h1, h2, h3, h4⟩ := h
   have hsz := hR.shz b o p hb hp (Nat.eq_of_beq_eq_true h1)
   have hpos : 0 < P.cellsOf ty := by simpa [Nat.blt_eq] using h2
   have hle : P.cellsOf ty <= cs.length := Nat.le_of_ble_eq_true h3
   unfold tsz at hm
   split at hm <;> simp at hm
   rename_i i hi
   have hcount : 1 <= arr.size / P.cellsOf ty := by
    rw [Nat.le_div_iff_mul_le hpos]; omega
   refine Lib.run_from_unsafe W _ hs hd hi hsh ?_
   show liesAt P P.depth ty (arr.size / P.cellsOf ty) (p.sh + off) u 1 = true
   rw [hsz, Nat.zero_add]
   exact Z6m _ _ _ _ _ _ _ hcount h4
 · cases h
theorem Z2T : ∀ {l : List AV} {bs : List UInt8}, Z3A l = some bs -> l.length = bs.length /\ ∀ (i : Nat) (x : UInt8), bs[i]? = some x -> l[i]? = some (.int .u8 x.toNat)
 | [], bs, h => by simp [Z3A] at h; subst h; simp
 | v :: l, bs, h => by
  unfold Z3A at h
  split at h
  · rename_i e; cases e
  · rename_i k l' e
    simp only [List.cons.injEq] at e
    obtain ⟨rfl, rfl⟩ := e
    split at h <;> try (cases h; done)
    rename_i hk
    split at h <;> simp at h
    rename_i r hr
    subst h
    obtain ⟨h1, h2⟩ := Z2T hr
    have hk' : k < 256 := by simpa [Nat.blt_eq] using hk
    refine ⟨by simp [h1], fun i x hx => ?_⟩
    cases i with
    | zero =>
     simp at hx; subst hx
     simp only [List.getElem?_cons_zero]
     congr 1
     have : (UInt8.ofNat k).toNat = k := by simp; omega
     rw [this]; rfl
    | succ i => simpa using h2 i x (by simpa using hx)
  · cases h
theorem Za1 (a : Addr) (n : Nat) : Turn W (W.freeze a n) a.block := by
 unfold World.freeze
 split
 · exact ⟨fun _ _ => rfl, rfl, rfl, rfl, rfl⟩
 · refine ⟨fun c hc => ?_, by simp, rfl, rfl, rfl⟩
   simp only [Array.getElem?_modify]
   rw [if_neg (Ne.symm hc)]
theorem ZcK : ∀ {n : Nat} {l r : List AV}, tk n l = some r -> r = l.take n /\ n <= l.length
 | 0, l, r, h => by cases l <;> simp [tk] at h <;> subst h <;> simp
 | n + 1, [], r, h => by simp [tk] at h
 | n + 1, c :: l, r, h => by
  simp only [tk] at h
  split at h <;> simp at h
  rename_i r' hr
  subst h
  obtain ⟨h1, h2⟩ := ZcK hr
  exact ⟨by simp [h1], by simp; omega⟩
theorem ZaH (hR : R sn ι H W) {t t2 ty0 : TypeId} {p r : AV} {m : Nat} {H' : Z00} (h : Z6P P t p m H = some (r, H')) {p' : Value} (hp : VR sn ι p p') :
  ∃ v W', (Builtin.unsafeString_ #[t, t2] ty0 #[p', .int .i64 (Int.ofNat m)]).run P W = .ok v W' /\ VR sn ι r v /\ Stp sn ι H W sn ι H' W' := by
 unfold Z6P at h
 split at h
 · have hz : (Int.ofNat 0) = 0 := rfl
   split at h <;> simp at h
   · obtain ⟨rfl, rfl⟩ := h
     simp only [VR] at hp; subst hp
     exact ⟨_, W, Lib.run_unsafeString_none W t t2 ty0 none, Z8R rfl, Stp.refl hR⟩
   · obtain ⟨rfl, rfl⟩ := h
     simp only [VR] at hp; obtain ⟨q, _, rfl⟩ := hp
     exact ⟨_, W, Lib.run_unsafeString_none W t t2 ty0 _, Z8R rfl, Stp.refl hR⟩
 · rename_i m
   split at h <;> try (simp at h; done)
   rename_i b
   split at h <;> try (simp at h; done)
   rename_i o hb
   split at h <;> try (simp at h; done)
   rename_i cs ty hal hbd
   split at h <;> try (simp at h; done)
   rename_i e ht
   split at h <;> try (simp at h; done)
   rename_i hc
   split at h <;> try (simp at h; done)
   rename_i l hl
   split at h <;> simp at h
   rename_i bs hbs
   obtain ⟨rfl, rfl⟩ := h
   simp only [Bool.and_eq_true] at hc
   obtain ⟨⟨⟨c1, c2⟩, c3⟩, c4⟩ := hc
   have e1 := Nat.eq_of_beq_eq_true c1; subst e1
   simp only [VR] at hp
   obtain ⟨q, hq, rfl⟩ := hp
   have hsz := hR.shz b o q hb hq (Nat.eq_of_beq_eq_true c3)
   have hob := hR.obj b o q hb hal hq
   rw [hbd] at hob
   simp only [OR] at hob
   obtain ⟨arr, g1, g2, g3, g4⟩ := hob
   obtain ⟨k1, k2⟩ := ZcK hl
   obtain ⟨b1, b2⟩ := Z2T hbs
   have hlen : bs.length = m + 1 := by rw [<- b1, k1]; simp; omega
   have hrun := Lib.run_unsafeString_row (P := P) W t t2 ty0 e ht (Nat.eq_of_beq_eq_true c2) q.blk arr.size (Z3M g1) bs (fun e => by rw [e] at hlen; simp at hlen) (by omega) (by rw [hlen]; exact Nat.le_of_ble_eq_true c4) (fun j x hx => by
    have h1 := b2 j x hx
    have hj : j < m + 1 := by rw [<- hlen]; exact (List.getElem?_eq_some_iff.1 hx).1
    have h2 : cs[j]? = some (.int .u8 x.toNat) := by rw [k1, List.getElem?_take, if_pos hj] at h1; exact h1
    obtain ⟨v, h3, h4⟩ := g4 j _ h2
    rw [hsz, Nat.zero_add] at h3
    cases h4.int
    simp only [Z0l, Nat.zero_add, World.cell?, g1]
    exact h3)
   rw [hlen] at hrun
   refine ⟨.string ⟨bs.toArray⟩, _, ?_, by simp only [VR]; exact ⟨⟨bs.toArray⟩, rfl, rfl⟩, Stp.lose hR hb hal hq (Za1 ⟨q.blk, 0, none⟩ (m + 1))⟩
   rw [hsz]
   exact hrun
theorem Z8F (hR : R sn ι H W) {t : TypeId} {x : AV} {lo hi : Option AV} {u : AV} (h : Z2l P t x lo hi H = some u) {x' : Value} (hx : VR sn ι x x') {lo' hi' : Option Value} (hlo : OVR sn ι lo lo') (hhi : OVR sn ι hi hi') :
  ∃ z, (Instr.sliceAt t x' lo' hi' none).run P W = .ok z W /\ VR sn ι u z := by
 unfold Z2l at h
 split at h <;> try (simp at h; done)
 rename_i b off
 split at h <;> try (simp at h; done)
 rename_i n e ht
 split at h <;> try (simp at h; done)
 rename_i z hz
 split at h <;> try (simp at h; done)
 rename_i o hb
 split at h <;> try (simp at h; done)
 rename_i cs ty hal hbd
 split at h <;> try (simp at h; done)
 rename_i hle
 split at h <;> try (simp at h; done)
 rename_i k hk
 split at h <;> simp at h
 subst h; rename_i l hl
 obtain ⟨p, hp, rfl⟩ := hx.ptr
 have hob := hR.obj b o p hb hal hp
 rw [hbd] at hob
 simp only [OR] at hob
 obtain ⟨arr, g1, g2, g3, g4⟩ := hob
 have hle := Nat.le_of_ble_eq_true hle
 obtain ⟨h1, h2, h3⟩ := Z0y (P := P) (isS := false) hk hl (Nat.le_refl _) (Nat.le_refl _) hlo hhi W
 refine ⟨.slice (some (if n = l then ⟨p.blk, p.sh + off, none⟩ else (⟨p.blk, p.sh + off, none⟩ : Addr).add (l * z))) (k - l) (n - l), ?_, ?_⟩
 · have hs : (Instr.sureAddr (Value.pointer (some (⟨p.blk, p.sh + off, none⟩ : Addr)))).run P W = .ok ⟨p.blk, p.sh + off, none⟩ W := by simp [Instr.sureAddr]
   simp only [Instr.sliceAt, hs, Sem.run_bind, run_underlying ht, Result.andThen_ok, h3, Z0j hz, Sem.run_pure]
 · simp only [VR]
   have hm : (n - l) * z + l * z = n * z := by rw [<- Nat.add_mul]; congr 1; omega
   refine ⟨p, _, n - l, hp, rfl, by omega, Nat.le_refl _, fun hne => ?_⟩
   rw [if_neg (by omega), Z0l]
   exact ⟨by rw [Nat.add_assoc], by omega⟩
theorem Z9L (hR : R sn ι H W) {s d : TypeId} {x r : AV} (h : Z6T P s d x H = some r) {x' : Value} (hx : VR sn ι x x') :
  ∃ v W' sn', (convert s d x').run P W = .ok v W' /\ VR sn' ι r v /\ Stp sn ι H W sn' ι H W' := by
 unfold Z6T at h
 split at h <;> try (simp at h; done)
 case h_2 b off =>
  split at h <;> simp at h
  rename_i hc
  subst h
  exact ⟨x', W, sn, Z9K hR hc hx, hx, Stp.refl hR⟩
 rename_i bs
 obtain ⟨ba, rfl, hba⟩ := hx.str
 split at h <;> try (simp at h; done)
 rename_i e hs hd
 split at h <;> simp at h
 rename_i he
 subst h
 have hrun := run_bytes_of_string W s d e ba hs hd he
 generalize hcap : grownCap W ba.size 0 e = cap at hrun
 generalize hrow : bytesRow ba cap = row at hrun
 have hext : Ext W (W.drew.alloc (.cells row e (row.size, row.size + 1))) := by
  refine ⟨fun c hc => ?_, ?_, rfl, rfl, rfl⟩
  · have h1 := Below.heap_alloc W.drew (.cells row e (row.size, row.size + 1)) c hc
    rw [h1]; rfl
  · simp
 refine ⟨_, _, _, hrun, ?_, Stp.snap hR hext⟩
 have hlen : ba.size = bs.length := by rw [<- hba]; simp
 simp only [VR]
 refine .inr ⟨⟨W.heap.size, 0, none⟩, cap, by rw [hlen], ?_, by simp, ?_, fun _ => rfl⟩
 · rw [<- hcap, hlen.symm]; exact grownCap_ge W ba.size 0 e
 · have key : ∀ (l : List UInt8) (k : Nat), (∀ (i : Nat) (c : UInt8), l[i]? = some c -> row[k + i]? = some (.int .u8 c.toNat)) -> MR (snx sn W.heap.size (W.drew.alloc (.cells row e (row.size, row.size + 1)))) (l.map fun b => .int .u8 b.toNat) W.heap.size k := by
    intro l
    induction l with
    | nil => intro k _; simp [MR]
    | cons c l ih =>
     intro k hk
     simp only [List.map_cons, MR]
     refine ⟨⟨.int .u8 c.toNat, ?_, by simp [VR]⟩, ih (k + 1) fun i x hx => by have := hk (i + 1) x (by simpa using hx); rwa [show k + (i + 1) = k + 1 + i from by omega] at this⟩
     have h0 := hk 0 c rfl
     simp only [snx, if_neg (Nat.lt_irrefl _)]
     have hb : (W.drew.alloc (.cells row e (row.size, row.size + 1))).heap[W.heap.size]? = some (.cells row e (row.size, row.size + 1)) := heap_alloc_new W.drew _
     simp only [World.cell?, hb]
     simpa using h0
   refine key bs 0 fun i c hc => ?_
   have hil : i < ba.data.size := by obtain ⟨h1, _⟩ := List.getElem?_eq_some_iff.1 hc; rw [<- hba] at h1; simpa using h1
   rw [<- hrow, bytesRow, Array.getElem?_append_left (by simpa using hil)]
   simp only [Nat.zero_add, Array.getElem?_map]
   have : ba.data[i]? = some c := by rw [<- hba] at hc; simpa using hc
   rw [this]; rfl
theorem Z9J (hR : RO sn ι H W) {s d : TypeId} {u r : AV} (hty : Z6S P s d = true) (h : Z4I u H = some r) {x' : Value} (hx : VR sn ι u x') : ∃ z, (convert s d x').run P W = .ok z W /\ VR sn ι r z := by
 unfold Z4I at h
 split at h <;> try (simp at h; done)
 rename_i b off len cap z
 split at h <;> try (simp at h; done)
 split at h <;> try (simp at h; done)
 rename_i o hb
 split at h <;> try (simp at h; done)
 rename_i cs ty hal hbd
 split at h <;> try (simp at h; done)
 rename_i l hl
 split at h <;> simp at h
 rename_i bs hbs
 subst h
 unfold Z6S at hty
 split at hty <;> try (simp at hty; done)
 rename_i e hs hd
 split at hty <;> try (simp at hty; done)
 rename_i he
 obtain ⟨p, a, cap', hp, rfl, c1, c2, c3⟩ := hx.slice
 have hob := hR.obj b o p hb hal hp
 rw [hbd] at hob
 simp only [OR] at hob
 obtain ⟨arr, g1, g2, g3, g4⟩ := hob
 obtain ⟨k1, k2⟩ := Z32 hl
 obtain ⟨b1, b2⟩ := Z2T hbs
 have hlen : bs.length = len := by rw [<- b1, k2, List.length_take]; omega
 have hrun := run_convert_bytes_back (P := P) W s d e a cap' bs hs he hd (fun j hj => by
  have h1 := b2 j bs[j] (List.getElem?_eq_getElem hj)
  have hj' : j < len := by omega
  have h2 : cs[off + j]? = some (.int .u8 bs[j].toNat) := by rw [k2, List.getElem?_take, if_pos hj', List.getElem?_drop] at h1; exact h1
  obtain ⟨v, h3, h4⟩ := g4 _ _ h2
  cases h4.int
  obtain ⟨ha, _⟩ := c3 (by omega)
  subst ha
  simp only [Z0l, World.cell?, g1]
  rw [Nat.add_assoc]; exact h3)
 rw [hlen] at hrun
 exact ⟨_, hrun, by simp only [VR]; exact ⟨⟨bs.toArray⟩, rfl, rfl⟩⟩
theorem Z8G {t : TypeId} {x : AV} {lo : Option AV} {hi mx u : AV} (h : ZaJ P t x lo hi mx = some u) {x' : Value} (hx : VR sn ι x x') {lo' : Option Value} {hi' mx' : Value} (hlo : OVR sn ι lo lo') (hhi : VR sn ι hi hi') (hmx : VR sn ι mx mx') (w : World) :
  ∃ z, (Instr.sliceAt t x' lo' (some hi') (some mx')).run P w = .ok z w /\ VR sn ι u z := by
 unfold ZaJ at h
 split at h <;> try (simp at h; done)
 rename_i b off len cap z
 split at h <;> try (simp at h; done)
 rename_i e ht
 split at h <;> try (simp at h; done)
 rename_i z' hz
 split at h <;> try (simp at h; done)
 rename_i hzz; subst hzz
 split at h <;> try (simp at h; done)
 rename_i m hm
 split at h <;> try (simp at h; done)
 rename_i k hk
 split at h <;> simp at h
 subst h; rename_i l hl
 obtain ⟨p, a, cap', hp, rfl, hlc, hcc, hne⟩ := hx.slice
 rcases Z4D hm (x' := some mx') ⟨_, rfl, hmx⟩ with ⟨e1, _⟩ | ⟨km, im, e1, m0, m1, rfl⟩
 · cases e1
 rcases Z4D hk (x' := some hi') ⟨_, rfl, hhi⟩ with ⟨e2, _⟩ | ⟨kh, ih, e2, h0, h1, rfl⟩
 · cases e2
 cases e1; cases e2
 have hmc : im <= (cap' : Int) := by omega
 have hb : (Instr.sliceBounds true len cap' lo' (some (.int kh ih)) (some (.int km im))).run P w = .ok (l, ih.toNat, im.toNat) w /\ l <= ih.toNat := by
  have hih : (ih : Int) <= (im.toNat : Int) := by omega
  rcases Z4D hl hlo with ⟨rfl, rfl⟩ | ⟨k', j, rfl, j0, j1, rfl⟩
  · refine ⟨?_, by omega⟩
    simp [Instr.sliceBounds, Instr.sliceBound, asIntOf, m0, hmc, h0]
    omega
  · refine ⟨?_, by omega⟩
    have hj : (j : Int) <= (ih.toNat : Int) := by omega
    simp only [Instr.sliceBounds, Instr.sliceBound, asIntOf, Sem.run_bind, Sem.run_pure, Result.andThen_ok, m0, hmc, h0, hih, j0, hj, and_self, if_true]
 obtain ⟨h3, h4⟩ := hb
 refine ⟨.slice (if im.toNat = l then some a else (some a).map (·.add (l * z'))) (ih.toNat - l) (im.toNat - l), ?_, ?_⟩
 · simp only [Instr.sliceAt, Instr.slice, Sem.run_bind, run_underlying ht, Result.andThen_ok, h3, Z0j hz, Sem.run_pure]
 · simp only [VR]
   by_cases hcl : im.toNat = l
   · exact ⟨p, a, im.toNat - l, hp, by simp [hcl], by omega, by omega, by omega⟩
   · refine ⟨p, a.add (l * z'), im.toNat - l, hp, by simp [hcl], by omega, by omega, fun _ => ?_⟩
     obtain ⟨rfl, hb⟩ := hne (by omega)
     refine ⟨by rw [Z0l, Nat.add_assoc], ?_⟩
     have h5 : l * z' + (im.toNat - l) * z' = im.toNat * z' := by rw [<- Nat.add_mul]; congr 1; omega
     have h6 : im.toNat * z' <= cap' * z' := Nat.mul_le_mul_right _ (by omega)
     omega
theorem Z2d (hR : RO sn ι H W) {ρ : Operand -> Option AV} {ρ' : Operand -> Value} (hρ : ∀ x u, ρ x = some u -> VR sn ι u (ρ' x))
  {o : Oper} {r : AV} (h : Z02 P ρ H o = some r) : ∃ v, (execOp ρ' o).run P W = .ok (.value v) W /\ VR sn ι r v := by
 unfold Z02 at h
 split at h
 · rename_i t x lo hi mx hop
   split at h <;> try (simp at h; done)
   rename_i u lo1 hi1 mx1 hu hlo hhi hmx
   obtain ⟨z, h1, h2⟩ := Z8G h (hρ _ _ hu) (Z2A hρ _ _ hlo) (hρ _ _ hhi) (hρ _ _ hmx) W
   exact ⟨z, by simp only [execOp, hop, Option.map_some, Sem.run_bind, h1, Result.andThen_ok, Sem.run_pure], h2⟩
 · rename_i op t x y yt hop
   split at h <;> try (simp at h; done)
   rename_i a b ha hb
   obtain ⟨z, h1, h2⟩ := ZaP h (hρ _ _ ha) (hρ _ _ hb) W
   exact ⟨z, by simp only [execOp, hop]; rw [Sem.run_bind, h1]; rfl, h2⟩
 · rename_i t m k ok hop
   split at h <;> try (simp at h; done)
   rename_i a b ha hb
   obtain ⟨z, h1, h2⟩ := Z8I hR h (hρ _ _ ha) (hρ _ _ hb)
   exact ⟨z, by simp only [execOp, hop, Sem.run_bind, h1, Result.andThen_ok, Sem.run_pure], h2⟩
 · rename_i s d x hop
   split at h
   · rename_i hu
     split at h <;> try (simp at h; done)
     rename_i hty
     obtain ⟨z, h1, h2⟩ := Z9J hR hty h (hρ _ _ hu)
     exact ⟨z, by simp only [execOp, hop, Sem.run_bind, h1, Result.andThen_ok, Sem.run_pure], h2⟩
   · exact Z6J hR hρ h
 · exact Z6J hR hρ h
theorem Zcx (hR : R sn ι H W) {ρ : Operand -> Option AV} {ρ' : Operand -> Value} (hρ : ∀ x u, ρ x = some u -> VR sn ι u (ρ' x))
  {o : Oper} {r : AV} {H' : Z00} (h : Z2D P ρ H o = some (r, H')) : ∃ v W' sn' ι', ZkJ P (execOp ρ' o) W v W' /\ VR sn' ι' r v /\ Stp sn ι H W sn' ι' H' W' := by
 have wrap : ∀ (s : Sem Value), execOp ρ' o = (do pure (.value (<- s)) : Sem Next) -> (∃ v W' ι', s.run P W = .ok v W' /\ VR sn ι' r v /\ Stp sn ι H W sn ι' H' W') ->
   ∃ v W' sn' ι', ZkJ P (execOp ρ' o) W v W' /\ VR sn' ι' r v /\ Stp sn ι H W sn' ι' H' W' := by
  rintro s e ⟨v, W', ι', h1, h2, h3⟩
  exact ⟨v, W', sn, ι', .inl (by rw [e]; simp only [Sem.run_bind, h1, Result.andThen_ok, Sem.run_pure]), h2, h3⟩
 have wrapu : ∀ (s : Sem Unit), r = .tuple [] -> execOp ρ' o = (do s; pure .skip : Sem Next) -> (∃ W', s.run P W = .ok () W' /\ Stp sn ι H W sn ι H' W') ->
   ∃ v W' sn' ι', ZkJ P (execOp ρ' o) W v W' /\ VR sn' ι' r v /\ Stp sn ι H W sn' ι' H' W' := by
  rintro s rfl e ⟨W', h1, h3⟩
  exact ⟨undef, W', sn, ι, .inr ⟨by rw [e]; simp only [Sem.run_bind, h1, Result.andThen_ok, Sem.run_pure], rfl⟩, Z4b, h3⟩
 unfold Z2D at h
 cases hop : o.op with
 | alloc e => simp only [hop] at h; exact wrap _ (by simp only [execOp, hop]) (Z9O hR h)
 | box e x =>
  simp only [hop] at h; split at h <;> try (simp at h; done)
  rename_i u hu
  exact wrap _ (by simp only [execOp, hop]) (ZcE hR h (hρ _ _ hu))
 | buildSlice t len ps =>
  simp only [hop] at h; split at h <;> try (simp at h; done)
  rename_i us hus
  exact wrap (Instr.buildSlice t len (ps.map fun (i, x) => (i, ρ' x))) (by simp only [execOp, hop]) (Z56 hR h (by rw [Array.toList_map]; exact Z2e hρ _ _ hus))
 | makeSlice t l c =>
  simp only [hop] at h; split at h <;> try (simp at h; done)
  rename_i a b ha hb
  exact wrap _ (by simp only [execOp, hop]) (Z5y hR h (hρ _ _ ha) (hρ _ _ hb))
 | makeMap t r' =>
  cases r' with
  | some x => simp [hop] at h
  | none =>
   simp [hop] at h
   obtain ⟨rfl, rfl⟩ := h
   refine wrap (Instr.makeMap t none) (by simp only [execOp, hop, Option.map_none]) ⟨.map (some W.heap.size), W.alloc (.map #[] 0), upd ι H.length ⟨W.heap.size, 0, 0⟩, ?_, ?_, ?_⟩
   · simp [Instr.makeMap, run_newObj_alloc]
   · simp only [VR]; exact ⟨_, Z3q _ _ _, rfl⟩
   · exact Stp.alloc hR ⟨true, H.length, 0, .map [] 0⟩ (.map #[] 0) 0 fun _ => ⟨#[], heap_alloc_new W _, by simp [ER]⟩
 | store t a x =>
  simp only [hop] at h; split at h <;> try (simp at h; done)
  rename_i u v hu hv
  split at h <;> simp at h
  rename_i H1 hw
  obtain ⟨rfl, rfl⟩ := h
  exact wrapu _ rfl (by simp only [execOp, hop]) (Z9F hR hw (hρ _ _ hu) (hρ _ _ hv))
 | mapUpdate t m k x =>
  simp only [hop] at h; split at h <;> try (simp at h; done)
  rename_i u v w hu hv hw'
  split at h <;> simp at h
  rename_i H1 hw
  obtain ⟨rfl, rfl⟩ := h
  exact wrapu _ rfl (by simp only [execOp, hop]) (Z4H hR hw (hρ _ _ hu) (hρ _ _ hv) (hρ _ _ hw'))
 | insert t m k x =>
  simp only [hop] at h; split at h <;> try (simp at h; done)
  rename_i u v w hu hv hw'
  split at h <;> simp at h
  rename_i H1 hw
  obtain ⟨rfl, rfl⟩ := h
  exact wrapu _ rfl (by simp only [execOp, hop]) (Z4H hR hw (hρ _ _ hu) (hρ _ _ hv) (hρ _ _ hw'))
 | slice t x lo hi mx =>
  cases mx with
  | some y => simp [hop] at h
  | none =>
   simp only [hop] at h; split at h <;> try (simp at h; done)
   rename_i u lo1 hi1 hu hlo hhi
   split at h <;> simp at h
   rename_i r' hr
   obtain ⟨rfl, rfl⟩ := h
   obtain ⟨v, h1, h2⟩ := Z8F hR hr (hρ _ _ hu) (Z2A hρ _ _ hlo) (Z2A hρ _ _ hhi)
   exact ⟨v, W, sn, ι, .inl (by simp only [execOp, hop, Option.map_none, Sem.run_bind, h1, Result.andThen_ok, Sem.run_pure]), h2, Stp.refl hR⟩
 | convert s d x =>
  simp only [hop] at h; split at h <;> try (simp at h; done)
  rename_i u hu
  split at h <;> simp at h
  rename_i r' hr
  obtain ⟨rfl, rfl⟩ := h
  obtain ⟨v, W', sn', h1, h2, h3⟩ := Z9L hR hr (hρ _ _ hu)
  exact ⟨v, W', sn', ι, .inl (by simp only [execOp, hop, Sem.run_bind, h1, Result.andThen_ok, Sem.run_pure]), h2, h3⟩
 | call c =>
  simp only [hop] at h
  split at h <;> try (simp at h; done)
  · rename_i hc
    split at h <;> try (simp at h; done)
    rename_i s x t t2 hx ht
    split at h <;> try (simp at h; done)
    rename_i u v hu hv
    have hx' : c.args = #[s, x] := by apply Array.ext'; simpa using hx
    have ht' : c.argTypes = #[t, t2] := by apply Array.ext'; simpa using ht
    obtain ⟨v', W', ι', h1, h2, h3⟩ := Z8L (ty := o.type) hR h (hρ _ _ hu) (hρ _ _ hv)
    refine ⟨v', W', sn, ι', .inl ?_, h2, h3⟩
    simp only [execOp, hop, resolve, hc, invoke, builtin, Sem.run_bind, Sem.run_pure, Result.andThen_ok, hx', ht', List.map_toArray, List.map_cons, List.map_nil, h1]
  · rename_i hc
    split at h <;> try (simp at h; done)
    rename_i x t hx ht
    have hx' : c.args = #[x] := by apply Array.ext'; simpa using hx
    have ht' : c.argTypes = #[t] := by apply Array.ext'; simpa using ht
    split at h <;> simp at h
    rename_i hu htt
    obtain ⟨rfl, rfl⟩ := h
    have he := (hρ _ _ hu).nslice
    refine ⟨.int .i64 0, W, sn, ι, .inl ?_, Z59 _ _, Stp.refl hR⟩
    simp [execOp, hop, resolve, hc, invoke, builtin, Builtin.cap_, hx', ht', he, run_underlying htt, goInt]
  · rename_i hc
    split at h <;> try (simp at h; done)
    rename_i x t hx ht
    have hx' : c.args = #[x] := by apply Array.ext'; simpa using hx
    have ht' : c.argTypes = #[t] := by apply Array.ext'; simpa using ht
    split at h <;> try (simp at h; done)
    rename_i u hu
    split at h <;> simp at h
    rename_i H1 hcl
    obtain ⟨rfl, rfl⟩ := h
    obtain ⟨W', h1, h2⟩ := Z9M (ty := o.type) hR hcl (hρ _ _ hu)
    refine ⟨.tuple #[], W', sn, ι, .inl ?_, by simp [VR, LR], h2⟩
    simp only [execOp, hop, resolve, hc, invoke, builtin, Sem.run_bind, Sem.run_pure, Result.andThen_ok, hx', ht', List.map_toArray, List.map_cons, List.map_nil, h1]
  · rename_i hc
    split at h <;> try (simp at h; done)
    rename_i x hx
    have hx' : c.args = #[x] := by apply Array.ext'; simpa using hx
    split at h <;> simp at h
    · rename_i b off l cp z hu
      obtain ⟨rfl, rfl⟩ := h
      obtain ⟨p, a, cap', hp, he, _, hcc, hne⟩ := (hρ _ _ hu).slice
      obtain ⟨rfl, _⟩ := hne (by omega)
      have hrun := Lib.run_unsafeSliceData_row (P := P) W c.argTypes o.type ⟨p.blk, p.sh + off, none⟩ l cap' (by omega)
      rw [<- he] at hrun
      refine ⟨.pointer (some ⟨p.blk, p.sh + off, none⟩), W, sn, ι, .inl ?_, ?_, Stp.refl hR⟩
      · simp only [execOp, hop, resolve, hc, invoke, builtin, Sem.run_bind, Sem.run_pure, Result.andThen_ok, hx', List.map_toArray, List.map_cons, List.map_nil, hrun]
      · simp only [VR]; exact ⟨p, hp, rfl⟩
    · rename_i hu
      obtain ⟨rfl, rfl⟩ := h
      have he := (hρ _ _ hu)
      simp only [VR] at he
      have hrun := Lib.run_unsafeSliceData_nil (P := P) W c.argTypes o.type 0 0
      rw [<- he] at hrun
      refine ⟨.pointer none, W, sn, ι, .inl ?_, ?_, Stp.refl hR⟩
      · simp only [execOp, hop, resolve, hc, invoke, builtin, Sem.run_bind, Sem.run_pure, Result.andThen_ok, hx', List.map_toArray, List.map_cons, List.map_nil, hrun]
      · simp only [VR]
  · rename_i hc
    split at h <;> try (simp at h; done)
    rename_i x y t t2 hx ht
    have hx' : c.args = #[x, y] := by apply Array.ext'; simpa using hx
    have ht' : c.argTypes = #[t, t2] := by apply Array.ext'; simpa using ht
    split at h <;> try (simp at h; done)
    rename_i p m hu hv
    obtain ⟨v', W', h1, h2, h3⟩ := ZaH (t2 := t2) (ty0 := o.type) hR h (hρ _ _ hu)
    have he := hρ _ _ hv
    simp only [VR] at he
    rw [<- he] at h1
    refine ⟨v', W', sn, ι, .inl ?_, h2, h3⟩
    simp only [execOp, hop, resolve, hc, invoke, builtin, Sem.run_bind, Sem.run_pure, Result.andThen_ok, hx', ht', List.map_toArray, List.map_cons, List.map_nil, h1]
  · rename_i hc
    split at h <;> try (simp at h; done)
    rename_i s x t t2 hx ht
    split at h <;> try (simp at h; done)
    rename_i u v hu hv
    have hx' : c.args = #[s, x] := by apply Array.ext'; simpa using hx
    have ht' : c.argTypes = #[t, t2] := by apply Array.ext'; simpa using ht
    obtain ⟨v', W', h1, h2, h3⟩ := ZaM (t2 := t2) (ty := o.type) hR h (hρ _ _ hu) (hρ _ _ hv)
    refine ⟨v', W', sn, ι, .inl ?_, h2, h3⟩
    simp only [execOp, hop, resolve, hc, invoke, builtin, Sem.run_bind, Sem.run_pure, Result.andThen_ok, hx', ht', List.map_toArray, List.map_cons, List.map_nil, h1]
 | _ => simp [hop] at h
end eff
def GlOK (gl : Glob) (sn : Z0d) : Prop := ∀ g cs, gl g = some cs -> MR sn cs g 0
abbrev Orc := Nat -> List AV -> Z00 -> Option (AV × Z00)
def Fq (r : Option Nat) : Fence := { fn := fun _ => True, depth := none, alive := false, round := r }
def ZgM (P : Program) (l : Nat) (args : Array Value) (W : World) (Q : Ending -> World -> Prop) : Prop :=
 ∃ fn tmps asg bd, (Instr.yield l args).run P W = .ok (.round l fn tmps asg bd) W /\ RoundIn (Fq none) 0 P l fn tmps asg bd W Q
def Z6Y (l : Nat) : Nat := Nat.add l 1024
def Z8O (l : Nat) : AV := .tuple [.int .i64 (Int.ofNat l), .rs 1 1 []]
def CallsY (P : Program) (f : Nat) (args : Array Value) (W : World) (Q : Ending -> World -> Prop) : Prop :=
 Calls P f args W Q \/ ∃ l, f = Z6Y l /\ P.funcs[f]? = none /\ ZgM P l args W Q
theorem CallsY.mono {P : Program} {f : Nat} {args : Array Value} {W : World} {Q Q' : Ending -> World -> Prop} (h : CallsY P f args W Q) (hq : ∀ e w, Q e w -> Q' e w) : CallsY P f args W Q' := by
 rcases h with h | ⟨l, h1, h2, fn, tmps, asg, bd, h3, h4⟩
 · exact .inl (h.mono hq)
 · exact .inr ⟨l, h1, h2, fn, tmps, asg, bd, h3, h4.mono hq⟩
theorem _root_.Go.Calls.monoY {P : Program} {f : Nat} {args : Array Value} {W : World} {Q Q' : Ending -> World -> Prop} (h : Calls P f args W Q) (hq : ∀ e w, Q e w -> Q' e w) : CallsY P f args W Q' := .inl (h.mono hq)
theorem CallsY.calls {P : Program} {f : Nat} {fn : Func} {args : Array Value} {W : World} {Q : Ending -> World -> Prop} (h : CallsY P f args W Q) (hf : P.funcs[f]? = some fn) : Calls P f args W Q := by
 rcases h with h | ⟨l, _, h2, _⟩
 · exact h
 · rw [hf] at h2; cases h2
theorem CallsY.yields {P : Program} {l : Nat} {args : Array Value} {W : World} {Q : Value -> World -> Prop} (h : CallsY P (Z6Y l) args W fun e W' => ∃ v, e = .returned v /\ Q v W') (hf : P.funcs[Z6Y l]? = none) : ZgM P l args W fun e W' => ∃ v, e = .returned v /\ Q v W' := by
 rcases h with h | ⟨l', h1, h2, h3⟩
 · exfalso
   obtain ⟨e, w', fr, ⟨v, rfl, _⟩, _, hfn, hl⟩ := h []
   obtain ⟨_, _, _, fn, hfn', _⟩ := hl
   rw [hfn] at hfn'
   rw [hf] at hfn'; cases hfn'
 · have : l' = l := by unfold Z6Y at h1; have := Nat.add_right_cancel (show l + 1024 = l' + 1024 from h1); omega
   subst this; exact h3
def OrcSound (P : Program) (gl : Glob) (orc : Orc) : Prop :=
 ∀ f args H r H', orc f args H = some (r, H') -> ∀ sn ι W (cargs : List Value), GlOK gl sn -> R sn ι H W -> LR sn ι args cargs ->
  CallsY P f cargs.toArray W fun e W' => ∃ v sn' ι', e = .returned v /\ VR sn' ι' r v /\ Stp sn ι H W sn' ι' H' W'
def callee (ρ : Operand -> Option AV) (c : Call) : Option (Nat × List AV) :=
 match c.callee with
 | .value f => match ρ f, Z1i ρ c.args.toList with
  | some (.func (.func g) first captured), some args => some (g, first ++ args ++ captured)
  | some (.func (.yield l) [] []), some args => some (Z6Y l, Z8O l :: args)
  | _, _ => none
 | _ => none
theorem Z1x {ρ : Operand -> Option AV} {c : Call} {g : Nat} {args : List AV} (h : callee ρ c = some (g, args)) : ∃ f, c.callee = .value f /\
  ((∃ first captured args', ρ f = some (.func (.func g) first captured) /\ Z1i ρ c.args.toList = some args' /\ args = first ++ args' ++ captured) \/
    ∃ l args', ρ f = some (.func (.yield l) [] []) /\ Z1i ρ c.args.toList = some args' /\ g = Z6Y l /\ args = Z8O l :: args') := by
 unfold callee at h
 split at h <;> try (simp at h; done)
 rename_i f hc
 split at h <;> try (simp at h; done)
 · rename_i g' first captured args' hf hargs
   simp only [Option.some.injEq, Prod.mk.injEq] at h
   obtain ⟨rfl, rfl⟩ := h
   exact ⟨f, hc, .inl ⟨_, _, _, hf, hargs, rfl⟩⟩
 · rename_i l args' hf hargs
   simp only [Option.some.injEq, Prod.mk.injEq] at h
   obtain ⟨rfl, rfl⟩ := h
   exact ⟨f, hc, .inr ⟨_, _, hf, hargs, rfl, rfl⟩⟩
def Z09 (P : Program) (g : Nat) : Bool := match P.funcs[g]? with | some fn => fn.body.isSome | none => false
structure NoNum (P : Program) : Prop where
 num : ∀ (g : Nat) (fn : Func), P.funcs[g]? = some fn -> (fn.name == "runtime.NumGoroutine") = false
 few : P.funcs.size <= 1024
theorem NoNum.key {P : Program} (h : NoNum P) (l : Nat) : P.funcs[Z6Y l]? = none := by
 rw [Array.getElem?_eq_none_iff]; have := h.few; unfold Z6Y; show P.funcs.size <= l + 1024; omega
theorem NoNum.noBody {P : Program} (h : NoNum P) (l : Nat) : Z09 P (Z6Y l) = false := by unfold Z09; rw [h.key]
def Z5w (P : Program) (g : Nat) (args : List AV) : Option AV :=
 match P.funcs[g]? with
 | some fn => if fn.body.isNone = true /\ fn.name = "internal/abi.NoEscape" /\ fn.origin = "" then (match args with | [x] => some x | _ => none) else none
 | none => none
def ixB (c : UInt8) : List UInt8 -> Nat -> Int
 | [], _ => -1
 | b :: l, i => bif Nat.beq b.toNat c.toNat then Int.ofNat i else ixB c l (Nat.add i 1)
def Z73 (P : Program) (g : Nat) (args : List AV) : Option AV :=
 match P.funcs[g]? with
 | some fn => if fn.body.isNone = true /\ fn.name = "internal/bytealg.IndexByteString" /\ fn.origin = "" then
   (match args with | [.str s, .int .u8 (.ofNat m)] => some (.int .i64 (ixB (UInt8.ofNat m) s 0)) | _ => none)
  else if fn.body.isNone = true /\ fn.name = "internal/bytealg.CountString" /\ fn.origin = "" then
   (match args with | [.str s, .int .u8 (.ofNat m)] => some (.int .i64 (s.count (UInt8.ofNat m) : Nat)) | _ => none)
  else none
 | none => none
def Z8t (P : Program) (g : Nat) : Option TypeId :=
 match P.funcs[g]? with
 | some fn => if fn.body.isNone = true /\ fn.name = "internal/bytealg.MakeNoZero" /\ fn.origin = "" then
  (match fn.resultTypes.toList with
    | t :: _ => (match P.underlying t with | some (.slice e) => some e | _ => none)
    | [] => none) else none
 | none => none
def yl (orc : Orc) (H : Z00) (g : Nat) : List AV -> Option (AV × Z00)
 | .tuple [.int .i64 (.ofNat l), .rs 1 1 []] :: args => if g = Z6Y l then orc g args H else none
 | _ => none
theorem ZgT {orc : Orc} {H : Z00} {g : Nat} {args : List AV} {x : AV × Z00} (h : yl orc H g args = some x) : ∃ l args', args = Z8O l :: args' /\ g = Z6Y l /\ orc g args' H = some x := by
 unfold yl at h
 split at h
 · rename_i l args'
   split at h
   · rename_i e; exact ⟨l, args', rfl, e, h⟩
   · cases h
 · cases h
theorem ZbR {sn : Z0d} {ι : Z0a} {l : Nat} {args : List AV} {vs : List Value} (h : LR sn ι (Z8O l :: args) vs) : False := by
 simp only [LR] at h
 obtain ⟨d, ds, _, h1, _⟩ := h
 obtain ⟨e, _, h2⟩ := VR.tuple h1
 simp only [LR] at h2
 obtain ⟨_, _, _, _, d2, ds2, _, h3, _⟩ := h2
 rcases h3.rs with ⟨h4, _⟩ | ⟨_, _, _, _, h4, _⟩
 · cases h4
 · simp at h4
def Z0e (P : Program) (orc : Orc) (H : Z00) (g : Nat) (args : List AV) : Option (AV × Z00) :=
 if Z09 P g then orc g args H else match Z5w P g args with
  | some x => some (x, H)
  | none => match Z73 P g args with
   | some x => some (x, H)
   | none => match Z8t P g, args with
    | some e, [.int .i64 (.ofNat m)] => if m <= 281474976710656 then some (.slice H.length 0 m m 1, H ++ [⟨true, H.length, 0, .cells [] e⟩]) else none
    | _, _ => yl orc H g args
section call
variable {P : Program} {sn : Z0d} {ι : Z0a} {H : Z00} {W : World}
theorem Z9p {fn : Func} (h1 : fn.name = "internal/abi.NoEscape") (h2 : fn.origin = "") : Extern.findNext fn = none /\ Extern.find fn = some Extern.AbiNoEscape.same := by
 constructor
 · unfold Extern.findNext; simp only [h1, h2]; rfl
 · unfold Extern.find; simp only [h1, h2]; rfl
theorem Z8s {fn : Func} (h1 : fn.name = "internal/bytealg.IndexByteString") (h2 : fn.origin = "") : Extern.findNext fn = none /\ Extern.find fn = some Extern.BytealgIndexByte.indexByte := by
 constructor
 · unfold Extern.findNext; simp only [h1, h2]; rfl
 · unfold Extern.find; simp only [h1, h2]; rfl
theorem Z6C {fn : Func} (h1 : fn.name = "internal/bytealg.CountString") (h2 : fn.origin = "") : Extern.findNext fn = none /\ Extern.find fn = some Extern.BytealgCount.count := by
 constructor
 · unfold Extern.findNext; simp only [h1, h2]; rfl
 · unfold Extern.find; simp only [h1, h2]; rfl
theorem Zbj (s : ByteArray) (c : UInt8) : ∀ (l : List UInt8) (k : Nat), (∀ (j : Nat) (h : j < l.length), s[k + j]! = l[j]) ->
  (match (List.range' k l.length).find? (fun i => s[i]! == c) with | some i => (i : Int) | none => -1) = ixB c l k
 | [], k, h => by simp [ixB]
 | b :: l, k, h => by
  have h0 : s[k]! = b := h 0 (by simp)
  have ih := Zbj s c l (k + 1) fun j hj => by have := h (j + 1) (by simpa using hj); rw [show k + 1 + j = k + (j + 1) from by omega]; simpa using this
  simp only [List.length_cons, List.range'_succ, List.find?_cons, h0, ixB]
  by_cases e : b = c
  · subst e; simp
  · have e1 : (b == c) = false := by simpa using e
    have e2 : Nat.beq b.toNat c.toNat = false := by
     cases q : Nat.beq b.toNat c.toNat with
     | false => rfl
     | true => exact absurd (UInt8.toNat.inj (Nat.eq_of_beq_eq_true q)) e
    simp only [e1, e2, cond_false]
    exact ih
theorem Z9n (s : ByteArray) (c : UInt8) : firstIdx s c = ixB c s.data.toList 0 := by
 have hsz : s.data.toList.length = s.size := by cases s; rfl
 have := Zbj s c s.data.toList 0 fun j hj => by
  rw [Nat.zero_add, getElem!_pos s j (by omega)]; rfl
 rw [<- this, hsz, <- List.range_eq_range']; rfl
theorem Z72 {fn : Func} (h1 : fn.name = "internal/bytealg.MakeNoZero") (h2 : fn.origin = "") : Extern.findNext fn = none /\ Extern.find fn = some (Extern.BytealgMakeNoZero.makeNoZero fn.params fn.resultTypes) := by
 constructor
 · unfold Extern.findNext; simp only [h1, h2]; rfl
 · unfold Extern.find; simp only [h1, h2]; rfl
theorem Z9z (hn : NoNum P) {ρ : Operand -> Option AV} {ρ' : Operand -> Value} (hρ : ∀ x u, ρ x = some u -> VR sn ι u (ρ' x)) {o : Oper} {c : Call} (ho : o.op = .call c) {g : Nat} {args : List AV} (h : callee ρ c = some (g, args)) (hb : Z09 P g = true) (w : World) :
  ∃ cargs : List Value, LR sn ι args cargs /\ (execOp ρ' o).run P w = .ok (.enter g cargs.toArray) w := by
 obtain ⟨f, hc, ⟨first, captured, args', hf, hargs, rfl⟩ | ⟨l, args', hf, hargs, rfl, rfl⟩⟩ := Z1x h
 case inr => rw [hn.noBody] at hb; cases hb
 obtain ⟨f', c', hfv, h1, h2⟩ := (hρ _ _ hf).func
 have h3 := Z0k hρ _ _ hargs
 have hlr := (h1.append h3).append h2
 refine ⟨_, hlr, ?_⟩
 unfold Z09 at hb
 cases hfn : P.funcs[g]? with
 | none => simp [hfn] at hb
 | some fn =>
  simp only [hfn] at hb
  have hbn : fn.body.isNone = false := by cases hfb : fn.body with | none => simp [hfb] at hb | some _ => rfl
  simp only [execOp, ho, resolve, hc, Deferred.ofValue, hfv, Sem.run_bind, Sem.run_pure, Result.andThen_ok, invoke, callFunc, run_program, hfn, hn.num _ fn hfn, hbn, Bool.false_eq_true, if_false]
  congr 2
  apply Array.ext'; simp
theorem Zct (hn : NoNum P) {ρ : Operand -> Option AV} {ρ' : Operand -> Value} (hρ : ∀ x u, ρ x = some u -> VR sn ι u (ρ' x)) {o : Oper} {c : Call} (ho : o.op = .call c) {g : Nat} {args : List AV} (h : callee ρ c = some (g, args)) {x : AV} (hx : Z5w P g args = some x) (w : World) :
  ∃ v, VR sn ι x v /\ (execOp ρ' o).run P w = .ok (.value v) w := by
 obtain ⟨f, hc, ⟨first, captured, args', hf, hargs, rfl⟩ | ⟨l, args', hf, hargs, rfl, rfl⟩⟩ := Z1x h
 case inr => simp [Z5w, hn.key] at hx
 obtain ⟨f', c', hfv, h1, h2⟩ := (hρ _ _ hf).func
 have h3 := Z0k hρ _ _ hargs
 have hlr := (h1.append h3).append h2
 unfold Z5w at hx
 split at hx <;> try (simp at hx; done)
 rename_i fn hfn
 split at hx <;> try (simp at hx; done)
 rename_i hcond
 obtain ⟨hb, hname, horig⟩ := hcond
 split at hx <;> simp at hx
 rename_i y hy
 subst hx
 rw [hy] at hlr
 simp only [LR] at hlr
 obtain ⟨d, ds, hd, hv, rfl⟩ := hlr
 obtain ⟨e1, e2⟩ := Z9p hname horig
 refine ⟨d, hv, ?_⟩
 have harr : f' ++ (c.args.map ρ') ++ c' = #[d] := by apply Array.ext'; simpa using hd
 simp only [execOp, ho, resolve, hc, Deferred.ofValue, hfv, Sem.run_bind, Sem.run_pure, Result.andThen_ok, invoke, callFunc, run_program, hfn, hn.num _ fn hfn, hb, Bool.false_eq_true, if_false, if_true, mark, e1, e2]
 simp only [harr]
 rfl
theorem Zex (hn : NoNum P) {ρ : Operand -> Option AV} {ρ' : Operand -> Value} (hρ : ∀ x u, ρ x = some u -> VR sn ι u (ρ' x)) {o : Oper} {c : Call} (ho : o.op = .call c) {g : Nat} {args : List AV} (h : callee ρ c = some (g, args)) {x : AV} (hx : Z73 P g args = some x) (w : World) :
  ∃ v, VR sn ι x v /\ (execOp ρ' o).run P w = .ok (.value v) w := by
 obtain ⟨f, hc, ⟨first, captured, args', hf, hargs, rfl⟩ | ⟨l, args', hf, hargs, rfl, rfl⟩⟩ := Z1x h
 case inr => simp [Z73, hn.key] at hx
 obtain ⟨f', c', hfv, h1, h2⟩ := (hρ _ _ hf).func
 have h3 := Z0k hρ _ _ hargs
 have hlr := (h1.append h3).append h2
 unfold Z73 at hx
 split at hx <;> try (simp at hx; done)
 rename_i fn hfn
 split at hx
 · rename_i hcond
   obtain ⟨hb, hname, horig⟩ := hcond
   split at hx <;> simp at hx
   rename_i s m hy
   subst hx
   rw [hy] at hlr
   simp only [LR] at hlr
   obtain ⟨d, ds, hd, hv, d2, ds2, rfl, hv2, rfl⟩ := hlr
   obtain ⟨ba, rfl, rfl⟩ := hv.str
   simp only [VR] at hv2
   subst hv2
   obtain ⟨e1, e2⟩ := Z8s hname horig
   have harr : f' ++ (c.args.map ρ') ++ c' = #[.string ba, .int .u8 (Int.ofNat m)] := by apply Array.ext'; simpa using hd
   refine ⟨.int .i64 (firstIdx ba (UInt8.ofNat m)), by rw [Z9n]; exact Z59 _ _, ?_⟩
   simp only [execOp, ho, resolve, hc, Deferred.ofValue, hfv, Sem.run_bind, Sem.run_pure, Result.andThen_ok, invoke]
   rw [harr, run_callFunc_extern hfn (hn.num _ fn hfn) hb e1 e2, run_indexByte_string]
   rfl
 split at hx <;> try (simp at hx; done)
 rename_i hcond
 obtain ⟨hb, hname, horig⟩ := hcond
 split at hx <;> simp at hx
 rename_i s m hy
 subst hx
 rw [hy] at hlr
 simp only [LR] at hlr
 obtain ⟨d, ds, hd, hv, d2, ds2, rfl, hv2, rfl⟩ := hlr
 obtain ⟨ba, rfl, rfl⟩ := hv.str
 simp only [VR] at hv2
 subst hv2
 obtain ⟨e1, e2⟩ := Z6C hname horig
 have harr : f' ++ (c.args.map ρ') ++ c' = #[.string ba, .int .u8 (Int.ofNat m)] := by apply Array.ext'; simpa using hd
 refine ⟨.int .i64 (Lib.countByte ba.data.toList (Int.ofNat m).toNat.toUInt8 : Nat), Z59 _ _, ?_⟩
 simp only [execOp, ho, resolve, hc, Deferred.ofValue, hfv, Sem.run_bind, Sem.run_pure, Result.andThen_ok, invoke]
 rw [harr, run_callFunc_extern hfn (hn.num _ fn hfn) hb e1 e2, Lib.run_countString]
 rfl
theorem Zew (hR : R sn ι H W) (hn : NoNum P) {ρ : Operand -> Option AV} {ρ' : Operand -> Value} (hρ : ∀ x u, ρ x = some u -> VR sn ι u (ρ' x)) {o : Oper} {c : Call} (ho : o.op = .call c) {g m : Nat} (h : callee ρ c = some (g, [.int .i64 (.ofNat m)])) {e : TypeId} (hx : Z8t P g = some e) (hm : m <= 281474976710656) :
  ∃ v W' ι', VR sn ι' (.slice H.length 0 m m 1) v /\ (execOp ρ' o).run P W = .ok (.value v) W' /\ Stp sn ι H W sn ι' (H ++ [⟨true, H.length, 0, .cells [] e⟩]) W' := by
 obtain ⟨f, hc, ⟨first, captured, args', hf, hargs, hy⟩ | ⟨l, args', hf, hargs, rfl, hy⟩⟩ := Z1x h
 case inr => simp [Z8t, hn.key] at hx
 obtain ⟨f', c', hfv, h1, h2⟩ := (hρ _ _ hf).func
 have h3 := Z0k hρ _ _ hargs
 have hlr := (h1.append h3).append h2
 unfold Z8t at hx
 split at hx <;> try (simp at hx; done)
 rename_i fn hfn
 split at hx <;> try (simp at hx; done)
 rename_i hcond
 obtain ⟨hb, hname, horig⟩ := hcond
 split at hx <;> try (simp at hx; done)
 rename_i t ts hts
 split at hx <;> simp at hx
 rename_i e' ht
 subst hx
 rw [<- hy] at hlr
 simp only [LR] at hlr
 obtain ⟨d, ds, hd, hv, rfl⟩ := hlr
 simp only [VR] at hv
 subst hv
 obtain ⟨e1, e2⟩ := Z72 hname horig
 have harr : f' ++ (c.args.map ρ') ++ c' = #[.int .i64 (.ofNat m)] := by apply Array.ext'; simpa using hd
 have hres : fn.resultTypes = ⟨t :: ts⟩ := by apply Array.ext'; exact hts
 obtain ⟨cs, hrun, hle, _⟩ := Lib.run_makeNoZero (P := P) W fn.params t e' ht m hm
 have hrun' : (Extern.BytealgMakeNoZero.makeNoZero fn.params fn.resultTypes #[.int .i64 (.ofNat m)]).run P W = .ok (.slice (some ⟨W.heap.size, 0, none⟩) m cs.size) (W.drew.drew.alloc (.cells cs e')) := by
  rw [hres]
  exact hrun
 refine ⟨.slice (some ⟨W.heap.size, 0, none⟩) m cs.size, W.drew.drew.alloc (.cells cs e'), upd ι H.length ⟨W.heap.size, 0, cs.size⟩, ?_, ?_, ?_⟩
 · simp only [VR]
   exact ⟨_, _, _, Z3q _ _ _, rfl, Nat.le_refl _, hle, fun _ => ⟨rfl, by simp⟩⟩
 · simp only [execOp, ho, resolve, hc, Deferred.ofValue, hfv, Sem.run_bind, Sem.run_pure, Result.andThen_ok, invoke]
   rw [harr, run_callFunc_extern hfn (hn.num _ fn hfn) hb e1 e2, hrun']
   rfl
 · refine Stp.trans hR (Stp.ext hR (Ext.drew W)) ?_
   have hR1 := hR.ext (Ext.drew W)
   refine Stp.trans hR1 (Stp.ext hR1 (Ext.drew W.drew)) ?_
   have hR2 := hR1.ext (Ext.drew W.drew)
   refine Stp.alloc hR2 ⟨true, H.length, 0, .cells [] e'⟩ _ _ fun _ => ?_
   exact or_cells (heap_alloc_new _ _) (l := []) (l' := cs.toList) (by simp) (by simp [LR])
end call
def aop (P : Program) (orc : Orc) (ρ : Operand -> Option AV) (o : Oper) (H : Z00) : Option (AV × Z00) :=
 match (match o.op with | .call c => callee ρ c | _ => none) with
 | some (g, args) => Z0e P orc H g args
 | none => match Z02 P ρ H o with
  | some r => some (r, H)
  | none => Z2D P ρ H o
theorem ZiV (r : Option Nat) (n : Nat) : (Fq r).room n := fun _ h => by cases h
theorem Z6H {P : Program} {r : Option Nat} {n : Nat} {f : Nat} {args : Array Value} {w : World} {Q : Ending -> World -> Prop} : CallsIn (Fq r) n P f args w Q ↔ Calls P f args w Q := callsIn_wide
theorem ZcY {P : Program} {r : Option Nat} {n l f : Nat} {tmps : Array Value} {asg bd : Code} {w : World} {Q : Ending -> World -> Prop} (h : RoundIn (Fq none) 0 P l f tmps asg bd w Q) : RoundIn (Fq r) n P l f tmps asg bd w Q :=
 ⟨trivial, fun c cs _ => h.2 c cs (ZiV _ _)⟩
theorem ZeY {P : Program} {o : Oper} {a : Act} {w : World} {K : Act -> World -> Prop} {Q : Exit -> Act -> World -> Prop} {r : Option Nat} (hd : ∀ c, o.op ≠ .defer c) (h : o.wp P a w K Q) : o.wpIn (Fq r) 0 P a w K Q := by
 refine ⟨fun f _ => trivial, ?_⟩
 rw [Oper.semAt_eq _ _ _ hd]
 unfold Oper.wp at h
 generalize (execOp a.eval o).run P w = x at h ⊢
 cases x with
 | ok x w' =>
  cases x with
  | enter f args => exact ⟨fun h => (by cases h), Z6H.2 h⟩
  | row rw args =>
   refine ⟨fun h => (by cases h), fun c cs _ => ?_⟩
   obtain ⟨v, w', h1, h2⟩ := h c cs
   exact ⟨v, w', h1, stepsIn_wide.2 h2⟩
  | round l f tmps asg bd => exact h.elim
  | _ => exact h
 | halt x w' => cases x <;> exact h
theorem Z5O {P : Program} {ρ : Operand -> Option AV} {H : Z00} {o : Oper} {r : AV} (h : Z02 P ρ H o = some r) : ∀ c, o.op ≠ .defer c := by
 intro c e; simp [Z02, Z0f, e] at h
theorem Ziy {P : Program} {ρ : Operand -> Option AV} {H : Z00} {o : Oper} {r : AV × Z00} (h : Z2D P ρ H o = some r) : ∀ c, o.op ≠ .defer c := by
 intro c e; simp [Z2D, e] at h
theorem Z9C {P : Program} {gl : Glob} {orc : Orc} {sn : Z0d} {ι : Z0a} {H : Z00} {W : World} {a : Act} {rd : Option Nat} (hn : NoNum P) (hO : OrcSound P gl orc) (hg : GlOK gl sn) (hR : R sn ι H W) {ρ : Operand -> Option AV} (hρ : ∀ x u, ρ x = some u -> VR sn ι u (a.eval x)) {o : Oper} {r : AV} {H' : Z00} (h : aop P orc ρ o H = some (r, H'))
  {K : Act -> World -> Prop} {Q : Exit -> Act -> World -> Prop} (hK : ∀ v W' sn' ι', VR sn' ι' r v -> Stp sn ι H W sn' ι' H' W' -> K (a.put o.dst v) W') : o.wpIn (Fq rd) 0 P a W K Q := by
 unfold aop at h
 split at h
 · rename_i g args hc
   split at hc <;> try (simp at hc; done)
   rename_i c hop
   have hd : ∀ c, o.op ≠ .defer c := by rw [hop]; intro _ e; cases e
   unfold Z0e at h
   split at h
   case isFalse =>
    split at h
    · rename_i x hx
      simp at h
      obtain ⟨rfl, rfl⟩ := h
      obtain ⟨v, h1, h2⟩ := Zct (w := W) hn hρ hop hc hx
      refine ZeY hd ?_
      unfold Oper.wp
      rw [h2, Oper.upon_value]
      exact hK v W sn ι h1 (Stp.refl hR)
    split at h
    · rename_i x hx
      simp at h
      obtain ⟨rfl, rfl⟩ := h
      obtain ⟨v, h1, h2⟩ := Zex (w := W) hn hρ hop hc hx
      refine ZeY hd ?_
      unfold Oper.wp
      rw [h2, Oper.upon_value]
      exact hK v W sn ι h1 (Stp.refl hR)
    · split at h
      · rename_i e m he _ _
        split at h <;> simp at h
        rename_i hm
        obtain ⟨rfl, rfl⟩ := h
        obtain ⟨v, W', ι', h1, h2, h3⟩ := Zew (W := W) hR hn hρ hop hc he hm
        refine ZeY hd ?_
        unfold Oper.wp
        rw [h2, Oper.upon_value]
        exact hK v W' sn ι' h1 h3
      · obtain ⟨l, args', rfl, rfl, ho⟩ := ZgT h
        obtain ⟨f, hcf, ⟨first, captured, args2, hf, hargs, e⟩ | ⟨l2, args2, hf, hargs, e1, e2⟩⟩ := Z1x hc
        · exfalso
          obtain ⟨f', c', hfv, h1, h2⟩ := (hρ _ _ hf).func
          have h3 := Z0k hρ _ _ hargs
          have := (h1.append h3).append h2
          rw [<- e] at this
          exact ZbR this
        · simp only [List.cons.injEq] at e2
          obtain ⟨e2, rfl⟩ := e2
          have : l2 = l := by unfold Z6Y at e1; have := Nat.add_right_cancel (show l + 1024 = l2 + 1024 from e1); omega
          subst this
          obtain ⟨f', c', hfv, h1, h2⟩ := (hρ _ _ hf).func
          simp only [LR] at h1 h2
          have hf' : f' = #[] := Array.ext' (by simpa using h1)
          have hc' : c' = #[] := Array.ext' (by simpa using h2)
          subst hf'; subst hc'
          have h3 := Z0k hρ _ _ hargs
          obtain ⟨fn, tmps, asg, bd, k1, k2⟩ := CallsY.yields (Q := fun v W' => ∃ sn' ι', VR sn' ι' r v /\ Stp sn ι H W sn' ι' H' W') ((hO _ _ H r H' ho sn ι W _ hg hR h3).mono fun e W' ⟨v, sn', ι', h1, h2⟩ => ⟨v, h1, sn', ι', h2⟩) (hn.key l2)
          refine ⟨fun f _ => trivial, ?_⟩
          rw [Oper.semAt_eq _ _ _ hd]
          have hrun : (execOp a.eval o).run P W = .ok (.round l2 fn tmps asg bd) W := by
           have harr : (#[] : Array Value) ++ c.args.map a.eval = (List.map a.eval c.args.toList).toArray := by apply Array.ext'; simp
           simp only [execOp, hop, resolve, hcf, Deferred.ofValue, hfv, Sem.run_bind, Sem.run_pure, Result.andThen_ok, invoke, harr]
           exact k1
          rw [hrun, Oper.uponIn_round]
          refine ⟨fun h => (by cases h), (ZcY k2).mono ?_⟩
          rintro e W' ⟨v, rfl, sn', ι', hv, hst⟩
          exact hK v W' sn' ι' hv hst
   rename_i hb
   obtain ⟨cargs, h1, h2⟩ := Z9z (w := W) hn hρ hop hc hb
   have hfn : ∃ fn, P.funcs[g]? = some fn := by
    unfold Z09 at hb
    cases hfn : P.funcs[g]? with
    | none => rw [hfn] at hb; cases hb
    | some fn => exact ⟨fn, rfl⟩
   obtain ⟨fn, hfn⟩ := hfn
   have hcall := (hO g args H r H' h sn ι W cargs hg hR h1).calls hfn
   refine ZeY hd ?_
   unfold Oper.wp
   rw [h2, Oper.upon_enter]
   refine hcall.mono ?_
   rintro e W' ⟨v, sn', ι', rfl, hv, hst⟩
   exact hK v W' sn' ι' hv hst
 · split at h
   · rename_i r' hr
     simp at h; obtain ⟨rfl, rfl⟩ := h
     obtain ⟨v, h1, h2⟩ := Z2d hR.ro hρ hr
     refine ZeY (Z5O hr) ?_
     unfold Oper.wp
     rw [h1, Oper.upon_value]
     exact hK v W sn ι h2 (Stp.refl hR)
   · obtain ⟨v, W', sn', ι', h1, h2, h3⟩ := Zcx hR hρ h
     refine ZeY (Ziy h) ?_
     unfold Oper.wp
     rcases h1 with h1 | ⟨h1, rfl⟩
     · rw [h1, Oper.upon_value]; exact hK v W' sn' ι' h2 h3
     · rw [h1, Oper.upon_skip]; exact hK undef W' sn' ι' h2 h3
inductive Tr where
 | leaf
 | node (v : Option (Option AV)) (l r : Tr)
def Z0I : Tr -> Nat -> Option AV
 | .leaf, _ => none
 | .node v _ _, 0 => match v with | some x => x | none => none
 | .node _ l r, n + 1 => match Nat.mod n 2 with | 0 => Z0I l (Nat.div n 2) | _ => Z0I r (Nat.div n 2)
def tex : Tr -> Nat -> Bool
 | .leaf, _ => false
 | .node v _ _, 0 => match v with | some _ => true | none => false
 | .node _ l r, n + 1 => match Nat.mod n 2 with | 0 => tex l (Nat.div n 2) | _ => tex r (Nat.div n 2)
def ZaT : Tr -> Nat -> AV -> Option Tr
 | .leaf, _, _ => none
 | .node x l r, 0, v => match x with | some _ => some (.node (some (some v)) l r) | none => none
 | .node x l r, n + 1, v => match Nat.mod n 2 with
  | 0 => match ZaT l (Nat.div n 2) v with | some l' => some (.node x l' r) | none => none
  | _ => match ZaT r (Nat.div n 2) v with | some r' => some (.node x l r') | none => none
def tmk (g : Nat -> Option AV) : Nat -> Tr
 | 0 => .leaf
 | d + 1 => .node (match g 0 with | some v => some (some v) | none => none) (tmk (fun i => g (Nat.add (Nat.mul 2 i) 1)) d) (tmk (fun i => g (Nat.add (Nat.mul 2 i) 2)) d)
theorem Z5C : ∀ (t : Tr) (n : Nat) (x : AV), Z0I t n = some x -> tex t n = true
 | .leaf, n, x, h => by simp [Z0I] at h
 | .node v l r, 0, x, h => by cases v <;> simp [Z0I] at h; simp [tex]
 | .node v l r, n + 1, x, h => by
  simp only [Z0I] at h
  simp only [tex]
  split at h <;> exact Z5C _ _ _ h
theorem Zbk (m n : Nat) (h : m % 2 = n % 2) : (Nat.div m 2 = Nat.div n 2) ↔ (m + 1 = n + 1) := by
 show (m / 2 = n / 2) ↔ _
 omega
theorem Z1Z : ∀ (t : Tr) (n : Nat) (v : AV) (t' : Tr), ZaT t n v = some t' -> tex t n = true /\ (∀ m, Z0I t' m = if m = n then some v else Z0I t m) /\ ∀ m, tex t' m = tex t m
 | .leaf, n, v, t', h => by simp [ZaT] at h
 | .node x l r, 0, v, t', h => by
  simp only [ZaT] at h
  split at h <;> simp at h
  subst h
  refine ⟨rfl, fun m => ?_, fun m => ?_⟩ <;> cases m <;> simp [Z0I, tex]
 | .node x l r, n + 1, v, t', h => by
  simp only [ZaT] at h
  split at h
  · rename_i hn
    split at h <;> simp at h
    subst h; rename_i l' hl
    obtain ⟨h1, h2, h3⟩ := Z1Z l _ v l' hl
    refine ⟨by simp only [tex, hn]; exact h1, fun m => ?_, fun m => ?_⟩
    · cases m with
      | zero => simp [Z0I]
      | succ m =>
       simp only [Z0I]
       split
       · rename_i hm
         rw [h2]
         simp only [Zbk m n (show m % 2 = n % 2 from Eq.trans hm (Eq.symm hn))]
       · rename_i hm
         rw [if_neg]
         intro e
         have : m = n := by omega
         subst this; exact hm hn
    · cases m with
      | zero => simp [tex]
      | succ m => simp only [tex]; split <;> simp [h3]
  · rename_i hn
    split at h <;> simp at h
    subst h; rename_i l' hl
    obtain ⟨h1, h2, h3⟩ := Z1Z r _ v l' hl
    refine ⟨by simp only [tex]; exact h1, fun m => ?_, fun m => ?_⟩
    · cases m with
      | zero => simp [Z0I]
      | succ m =>
       simp only [Z0I]
       split
       · rename_i hm
         rw [if_neg]
         intro e
         have : m = n := by omega
         subst this; exact hn hm
       · rename_i hm
         rw [h2]
         have hn' : ¬ n % 2 = 0 := hn
         have hm' : ¬ m % 2 = 0 := hm
         simp only [Zbk m n (by omega)]
    · cases m with
      | zero => simp [tex]
      | succ m => simp only [tex]; split <;> simp [h3]
theorem Z81 : ∀ (d : Nat) (g : Nat -> Option AV) (n : Nat) (u : AV), Z0I (tmk g d) n = some u -> g n = some u
 | 0, g, n, u, h => by simp [tmk, Z0I] at h
 | d + 1, g, 0, u, h => by
  simp only [tmk, Z0I] at h
  cases hg : g 0 with
  | none => simp [hg] at h
  | some v => simpa [hg] using h
 | d + 1, g, n + 1, u, h => by
  simp only [tmk, Z0I] at h
  split at h
  · rename_i hn
    have := Z81 d _ _ u h
    have hn' : n % 2 = 0 := hn
    have e : Nat.add (Nat.mul 2 (Nat.div n 2)) 1 = n + 1 := by show 2 * (n / 2) + 1 = n + 1; omega
    rw [e] at this; exact this
  · rename_i hn
    have := Z81 d _ _ u h
    have hn' : ¬ n % 2 = 0 := hn
    have e : Nat.add (Nat.mul 2 (Nat.div n 2)) 2 = n + 1 := by show 2 * (n / 2) + 2 = n + 1; omega
    rw [e] at this; exact this
theorem Z7Z : ∀ (d : Nat) (g : Nat -> Option AV) (n : Nat), tex (tmk g d) n = true -> ∃ u, g n = some u
 | 0, g, n, h => by simp [tmk, tex] at h
 | d + 1, g, 0, h => by
  simp only [tmk, tex] at h
  cases hg : g 0 with
  | none => simp [hg] at h
  | some v => exact ⟨v, rfl⟩
 | d + 1, g, n + 1, h => by
  simp only [tmk, tex] at h
  split at h
  · rename_i hn
    have := Z7Z d _ _ h
    have hn' : n % 2 = 0 := hn
    have e : Nat.add (Nat.mul 2 (Nat.div n 2)) 1 = n + 1 := by show 2 * (n / 2) + 1 = n + 1; omega
    rw [e] at this; exact this
  · rename_i hn
    have := Z7Z d _ _ h
    have hn' : ¬ n % 2 = 0 := hn
    have e : Nat.add (Nat.mul 2 (Nat.div n 2)) 2 = n + 1 := by show 2 * (n / 2) + 2 = n + 1; omega
    rw [e] at this; exact this
def TRel (sn : Z0d) (ι : Z0a) (tm : Tr) (a : Act) : Prop := (∀ t u, Z0I tm t = some u -> ∃ v, a.tmps[t]? = some v /\ VR sn ι u v) /\ ∀ t, tex tm t = true -> t < a.tmps.size
def Z1g (gl : Glob) (tm : Tr) : Operand -> Option AV
 | .tmp t => Z0I tm t
 | .const v => ofV v
 | .global g => match gl g with | some cs => some (.rp cs) | none => none
 | .func f => some (.func (.func f) [] [])
def Z31 (d : Option Tmp) (v : AV) (tm : Tr) : Option Tr := match d with | some d => ZaT tm d v | none => some tm
def Z1V {β : Type} (n : Nat) (f : Nat -> β) : β := match n with | 0 => f 0 | Nat.succ m => f (Nat.succ m)
def Zkt {β : Type} (n : Int) (f : Int -> β) : β := match n with | .ofNat n => Z1V n fun n => f (.ofNat n) | .negSucc n => Z1V n fun n => f (.negSucc n)
def ZjT {β : Type} (b : Bool) (f : Bool -> β) : β := match b with | true => f true | false => f false
def ZjS {β : Type} : List UInt8 -> (List UInt8 -> β) -> β
 | [], f => f []
 | c :: l, f => ZjS l fun l => f (c :: l)
mutual
def Z48 {β : Type} : AV -> (AV -> β) -> β
 | .bool b, f => ZjT b fun b => f (.bool b)
 | .int k n, f => Zkt n fun n => f (.int k n)
 | .str s, f => f (.str s)
 | .nptr, f => f .nptr
 | .ptr b o, f => Z1V b fun b => Z1V o fun o => f (.ptr b o)
 | .rp cs, f => f (.rp cs)
 | .nslice, f => f .nslice
 | .slice b o l c z, f => Z1V b fun b => Z1V o fun o => Z1V l fun l => Z1V c fun c => Z1V z fun z => f (.slice b o l c z)
 | .rs n z cs, f => Z1V n fun n => f (.rs n z cs)
 | .nmap, f => f .nmap
 | .map b, f => Z1V b fun b => f (.map b)
 | .func fn a b, f => frcVL a fun a => frcVL b fun b => f (.func fn a b)
 | .nfunc, f => f .nfunc
 | .iface t v, f => Z48 v fun v => f (.iface t v)
 | .niface, f => f .niface
 | .agg cs, f => frcVL cs fun cs => f (.agg cs)
 | .tuple cs, f => frcVL cs fun cs => f (.tuple cs)
def frcVL {β : Type} : List AV -> (List AV -> β) -> β
 | [], f => f []
 | v :: l, f => Z48 v fun v => frcVL l fun l => f (v :: l)
end
def Zjp {β : Type} : List (AV × AV × Nat) -> (List (AV × AV × Nat) -> β) -> β
 | [], f => f []
 | (k, v, n) :: l, f => Z48 k fun k => Z48 v fun v => Z1V n fun n => Zjp l fun l => f ((k, v, n) :: l)
def Zks {β : Type} (o : AObj) (f : AObj -> β) : β :=
 match o with
 | ⟨a, fam, sh, b⟩ => ZjT a fun a => Z1V fam fun fam => Z1V sh fun sh => match b with
  | .cells cs ty => frcVL cs fun cs => f ⟨a, fam, sh, .cells cs ty⟩
  | .map es c => Zjp es fun es => Z1V c fun c => f ⟨a, fam, sh, .map es c⟩
  | .siter s p => Z1V p fun p => f ⟨a, fam, sh, .siter s p⟩
  | .loop g ts => f ⟨a, fam, sh, .loop g ts⟩
def ZiN {β : Type} : Z00 -> (Z00 -> β) -> β
 | [], f => f []
 | o :: l, f => Zks o fun o => ZiN l fun l => f (o :: l)
theorem Z2P {β : Type} (n : Nat) (f : Nat -> β) : Z1V n f = f n := by cases n <;> rfl
theorem ZhQ {β : Type} (n : Int) (f : Int -> β) : Zkt n f = f n := by cases n <;> simp [Zkt, Z2P]
theorem Zal {β : Type} (n : Bool) (f : Bool -> β) : ZjT n f = f n := by cases n <;> rfl
theorem ZdC {β : Type} : ∀ (l : List UInt8) (f : List UInt8 -> β), ZjS l f = f l
 | [], f => rfl
 | c :: l, f => by simp [ZjS, ZdC l]
mutual
theorem Z6v {β : Type} : ∀ (v : AV) (f : AV -> β), Z48 v f = f v
 | .bool b, f => by simp [Z48, Zal]
 | .int k n, f => by simp [Z48, ZhQ]
 | .str s, f => by simp [Z48]
 | .nptr, f => by simp [Z48]
 | .ptr b o, f => by simp [Z48, Z2P]
 | .rp cs, f => by simp [Z48]
 | .nslice, f => by simp [Z48]
 | .slice b o l c z, f => by simp [Z48, Z2P]
 | .rs n z cs, f => by simp [Z48, Z2P]
 | .nmap, f => by simp [Z48]
 | .map b, f => by simp [Z48, Z2P]
 | .func fn a b, f => by simp [Z48, frcVL_eq a, frcVL_eq b]
 | .nfunc, f => by simp [Z48]
 | .iface t v, f => by simp [Z48, Z6v v]
 | .niface, f => by simp [Z48]
 | .agg cs, f => by simp [Z48, frcVL_eq cs]
 | .tuple cs, f => by simp [Z48, frcVL_eq cs]
theorem frcVL_eq {β : Type} : ∀ (l : List AV) (f : List AV -> β), frcVL l f = f l
 | [], f => by simp [frcVL]
 | v :: l, f => by simp [frcVL, Z6v v, frcVL_eq l]
end
theorem ZdD {β : Type} : ∀ (l : List (AV × AV × Nat)) (f : List (AV × AV × Nat) -> β), Zjp l f = f l
 | [], f => by simp [Zjp]
 | (k, v, n) :: l, f => by simp [Zjp, Z6v, Z2P, ZdD l]
theorem ZhO {β : Type} (o : AObj) (f : AObj -> β) : Zks o f = f o := by
 obtain ⟨a, fam, sh, b⟩ := o
 cases b <;> simp [Zks, Zal, Z2P, frcVL_eq, ZdD]
theorem Z6x {β : Type} : ∀ (l : Z00) (f : Z00 -> β), ZiN l f = f l
 | [], f => by simp [ZiN]
 | o :: l, f => by simp [ZiN, ZhO, Z6x l]
def ZiM {β : Type} (v : AV) (f : AV -> β) : β := match v with | .str s => ZjS s fun s => f (.str s) | v => Z48 v f
theorem ZhN {β : Type} (v : AV) (f : AV -> β) : ZiM v f = f v := by cases v <;> simp [ZiM, ZdC, Z6v]
def Z6w {β : Type} : Z00 -> (Z00 -> β) -> β
 | [], f => f []
 | o :: l, f => match o with
  | ⟨a, fam, sh, b⟩ => ZjT a fun a => match b with
   | .cells cs ty => Z6w l fun l => f (⟨a, fam, sh, .cells cs ty⟩ :: l)
   | .map es c => Z6w l fun l => f (⟨a, fam, sh, .map es c⟩ :: l)
   | .siter s p => Z6w l fun l => f (⟨a, fam, sh, .siter s p⟩ :: l)
   | .loop g ts => Z6w l fun l => f (⟨a, fam, sh, .loop g ts⟩ :: l)
theorem Zbq {β : Type} : ∀ (l : Z00) (f : Z00 -> β), Z6w l f = f l
 | [], f => by simp [Z6w]
 | ⟨a, fam, sh, b⟩ :: l, f => by cases b <;> simp [Z6w, Zal, Zbq l]
def ZhS {β : Type} (o : Oper) (r : AV) (H : Z00) (f : AV -> Z00 -> β) : β :=
 match o.op with
 | .move _ => f r H
 | .assign _ => f r H
 | .pick .. => f r H
 | .nilCheck _ => f r H
 | .extract .. => f r H
 | .load .. => f r H
 | .build .. => f r H
 | .field .. => f r H
 | .fieldAddr .. => Z48 r fun r => f r H
 | .indexAddr .. => Z48 r fun r => f r H
 | .index .. => Z48 r fun r => f r H
 | .binOp .. => ZiM r fun r => f r H
 | .unOp .. => ZiM r fun r => f r H
 | .convert .. => ZiM r fun r => f r H
 | .slice .. => ZiM r fun r => f r H
 | .store .. => Z6w H fun H => f r H
 | .alloc _ => Z48 r fun r => Z6w H fun H => f r H
 | .box .. => Z48 r fun r => Z6w H fun H => f r H
 | .buildSlice .. => Z48 r fun r => Z6w H fun H => f r H
 | _ => Z48 r fun r => ZiN H fun H => f r H
theorem Z1c {β : Type} (o : Oper) (r : AV) (H : Z00) (f : AV -> Z00 -> β) : ZhS o r H f = f r H := by
 unfold ZhS; split <;> simp [Z6v, ZhN, Zbq, Z6x]
section op
variable {P : Program} {gl : Glob} {orc : Orc} {sn : Z0d} {ι : Z0a} {H : Z00} {W : World} {a : Act} {tm : Tr}
theorem Z1S (hg : GlOK gl sn) (ht : TRel sn ι tm a) : ∀ x u, Z1g gl tm x = some u -> VR sn ι u (a.eval x) := by
 intro x u h
 cases x with
 | tmp t =>
  obtain ⟨v, h1, h2⟩ := ht.1 t u h
  have : a.eval (.tmp t) = v := by simp [Act.eval, Array.getD_eq_getD_getElem?, h1]
  rw [this]; exact h2
 | const v => exact Z7v v u h
 | global g =>
  simp only [Z1g] at h; split at h <;> simp at h
  subst h; rename_i cs hcs
  simp only [VR, Act.eval]; exact ⟨g, 0, rfl, hg g cs hcs⟩
 | func f => simp [Z1g] at h; subst h; simp [VR, Act.eval, LR]
theorem TRel.mono {sn' : Z0d} {ι' : Z0a} (ht : TRel sn ι tm a) (h : Le sn sn' ι ι') : TRel sn' ι' tm a := ⟨fun t u e => let ⟨v, h1, h2⟩ := ht.1 t u e; ⟨v, h1, Z0B h _ _ h2⟩, ht.2⟩
theorem Z7q (ht : TRel sn ι tm a) {d : Option Tmp} {r : AV} {v : Value} (hv : VR sn ι r v) {tm' : Tr} (h : Z31 d r tm = some tm') : TRel sn ι tm' (a.put d v) := by
 cases d with
 | none => simp [Z31] at h; subst h; exact ht
 | some d =>
  obtain ⟨h1, h2, h3⟩ := Z1Z _ _ _ _ h
  have hd : d < a.tmps.size := ht.2 d h1
  refine ⟨fun t u hu => ?_, fun t hx => ?_⟩
  · rw [h2] at hu
    simp only [Act.put, Array.getElem?_setIfInBounds]
    split at hu
    · simp at hu; subst hu; rename_i e; subst e; simp [hd]; exact hv
    · rename_i e; rw [if_neg (Ne.symm e)]; exact ht.1 t u hu
  · rw [h3] at hx
    simp only [Act.put, Array.size_setIfInBounds]
    exact ht.2 t hx
theorem GlOK.mono {sn sn' : Z0d} {ι ι' : Z0a} (h : GlOK gl sn) (hl : Le sn sn' ι ι') : GlOK gl sn' := fun g cs e => MR_mono hl cs g 0 (h g cs e)
def Z0m (ops : List Oper) (o : Oper) (tm : Tr) : Option Bool :=
 match o.guard with
 | none => some true
 | some (j, want) => match ops[j]? with
  | some g => match g.dst with
   | some d => match Z0I tm d with
    | some (.bool b) => some (b == want)
    | some _ => some false
    | none => none
   | none => none
  | none => none
theorem Z7R (ht : TRel sn ι tm a) (ops : Array Oper) (o : Oper) {b : Bool} (h : Z0m ops.toList o tm = some b) : Region.wanted o (yielded ops a.tmps) = b := by
 unfold Z0m at h
 unfold Region.wanted yielded
 cases hgd : o.guard with
 | none => simp [hgd] at h; simp [h]
 | some jw =>
  obtain ⟨j, want⟩ := jw
  simp only [hgd] at h
  split at h <;> try (simp at h; done)
  rename_i g hg
  rw [Array.getElem?_toList] at hg
  split at h <;> try (simp at h; done)
  rename_i d hd
  split at h <;> try (simp at h; done)
  · rename_i c hc
    simp at h; subst h
    obtain ⟨v, h1, h2⟩ := ht.1 d _ hc
    cases h2.bool
    simp [hg, hd, h1]
  · rename_i u hne hu
    simp at h; subst h
    obtain ⟨v, h1, h2⟩ := ht.1 d _ hu
    simp only [hg, Option.bind_some, hd, h1]
    cases u with
    | bool b => exact (hne b rfl).elim
    | _ => simp only [VR] at h2; cases v <;> first | rfl | (exfalso; simp at h2)
def ZcH (P : Program) (gl : Glob) (orc : Orc) (ops : List Oper) : List Oper -> Tr -> Z00 -> Option (Tr × Z00)
 | [], tm, H => some (tm, H)
 | o :: l, tm, H =>
  match Z0m ops o tm with
  | some true =>
   match aop P orc (Z1g gl tm) o H with
   | some (r, H') => ZhS o r H' fun r H' => match Z31 o.dst r tm with | some tm' => ZcH P gl orc ops l tm' H' | none => none
   | none => none
  | some false => match Z31 o.dst (.tuple []) tm with | some tm' => ZcH P gl orc ops l tm' H | none => none
  | none => none
theorem Act.put_defers' (a : Act) (d : Option Tmp) (v : Value) : (a.put d v).defers = a.defers := by cases d <;> rfl
theorem Z3D {rd : Option Nat} (hn : NoNum P) (hO : OrcSound P gl orc) (ops : Array Oper) : ∀ (l : List Oper) (tm : Tr) (H : Z00) (tm' : Tr) (H' : Z00) (a : Act) (W : World) (sn : Z0d) (ι : Z0a),
  ZcH P gl orc ops.toList l tm H = some (tm', H') -> GlOK gl sn -> R sn ι H W -> TRel sn ι tm a -> ∀ {Q : Exit -> Act -> World -> Prop},
  (∀ a' W' sn' ι', Stp sn ι H W sn' ι' H' W' -> TRel sn' ι' tm' a' -> a'.defers = a.defers -> Q .normal a' W') -> wpListIn (Fq rd) 0 P ops Q l a W
 | [], tm, H, tm', H', a, W, sn, ι, h, hg, hR, ht, Q, hQ => by
  simp [ZcH] at h; obtain ⟨rfl, rfl⟩ := h
  exact wpListIn_nil (hQ a W sn ι (Stp.refl hR) ht rfl)
 | o :: l, tm, H, tm', H', a, W, sn, ι, h, hg, hR, ht, Q, hQ => by
  refine wpListIn_step fun K hK => ?_
  simp only [ZcH] at h
  split at h
  · rename_i hw
    rw [if_pos (Z7R ht ops o hw)]
    split at h <;> try (simp at h; done)
    rename_i r H1 hop
    simp only [Z1c] at h
    split at h <;> try (simp at h; done)
    rename_i tm1 hp
    refine Z9C hn hO hg hR (Z1S hg ht) hop fun v W' sn' ι' hv hst => hK _ _ ?_
    refine Z3D hn hO ops l _ _ _ _ _ _ sn' ι' h (hg.mono hst.le) hst.rel (Z7q (ht.mono hst.le) hv hp) fun a' W'' sn'' ι'' hst' ht' hd => ?_
    exact hQ a' W'' sn'' ι'' (hst.trans hR hst') ht' (hd.trans (Act.put_defers' _ _ _))
  · rename_i hw
    rw [if_neg (by rw [Z7R ht ops o hw]; simp)]
    split at h <;> try (simp at h; done)
    rename_i tm1 hp
    refine ⟨fun f _ => trivial, hK _ _ (Z3D hn hO ops l _ _ _ _ _ _ sn ι h hg hR (Z7q ht Z4b hp) fun a' W'' sn'' ι'' hst' ht' hd => ?_)⟩
    exact hQ a' W'' sn'' ι'' hst' ht' (hd.trans (Act.put_defers' _ _ _))
  · simp at h
end op
end Go.Abs
end

section
namespace Go.Abs
open Go.RowKit
def bit (m j : Nat) : Bool := Nat.beq (Nat.land (Nat.shiftRight m j) 1) 1
def kind (o : Oper) : Nat :=
 match o.op with
 | .move _ => 0 | .assign _ => 0 | .pick .. => 0 | .build .. => 0 | .nilCheck _ => 0 | .binOp .. => 0 | .unOp .. => 0 | .convert .. => 1
 | .makeInterface .. => 0 | .makeFunc .. => 0 | .slice .. => 0 | .fieldAddr .. => 0 | .field .. => 0 | .indexAddr .. => 0 | .index .. => 0 | .extract .. => 0
 | .load .. => 1 | .lookup .. => 1
 | .alloc _ => 2 | .box .. => 2 | .buildSlice .. => 2 | .makeSlice .. => 2 | .makeMap .. => 2
 | .call c => match c.callee with
  | .builtin .len => 1 | .builtin .max => 0 | .builtin .min => 0
  | _ => 3
 | _ => 3
def Z1E (acc : List Nat) : List Edge -> Nat
 | [] => 0
 | e :: es => if Region.binds .any e then Nat.lor (Nat.lor (2 ^ e.on) (acc.getD e.on 0)) (Z1E acc es) else Z1E acc es
def Z0A : List Oper -> List Nat -> List Nat
 | [], acc => acc
 | o :: l, acc => Z0A l (acc ++ [Z1E acc o.after.toList])
def effs : List Oper -> Nat -> List Nat
 | [], _ => []
 | o :: l, i => if Nat.beq (kind o) 3 then i :: effs l (i + 1) else effs l (i + 1)
def Z3h (an : List Nat) : List Nat -> Bool
 | [] => true
 | [_] => true
 | e :: f :: l => bit (an.getD f 0) e && Z3h an (f :: l)
def Zh5 (n m : Nat) (e : Nat) : Nat -> Nat -> List Nat × Nat
 | 0, done => ([e], Nat.lor done (2 ^ e))
 | k + 1, done =>
  let i := n - (k + 1)
  if bit m i && !bit done i then (let (l, d) := Zh5 n m e k (Nat.lor done (2 ^ i)); (i :: l, d)) else Zh5 n m e k done
def rest (n : Nat) : Nat -> Nat -> List Nat
 | 0, _ => []
 | k + 1, done => let i := n - (k + 1); if bit done i then rest n k done else i :: rest n k done
def Z9y (n : Nat) (an : List Nat) : List Nat -> Nat -> List Nat
 | [], done => rest n n done
 | e :: es, done => let (l, d) := Zh5 n (an.getD e 0) e n done; l ++ Z9y n an es d
def Z7s (l : List Operand) : List Nat := match l with
 | [] => []
 | .tmp t :: l => t :: Z7s l
 | _ :: l => Z7s l
def looks (ops : List Oper) (o : Oper) : List Nat :=
 let l := Z7s o.op.operands.toList
 match o.guard with
 | none => l
 | some (j, _) => match ops[j]? with
  | some g => match g.dst with | some d => d :: l | none => l
  | none => l
def Z1Q (o : Oper) (t : Nat) : Bool := match o.dst with | some d => Nat.beq d t | none => false
def Z0J (vals : List (Option AV)) (D : Nat -> Bool) (t : Nat) : List Oper -> Nat -> Option AV -> Option AV
 | [], _, acc => acc
 | o :: l, i, acc => Z0J vals D t l (i + 1) (if Z1Q o t && D i then (match vals[i]? with | some v => v | none => none) else acc)
def Z17 (tm : Tr) (vals : List (Option AV)) (ops : List Oper) (D : Nat -> Bool) : List Nat -> Option (List (Nat × AV))
 | [] => some []
 | t :: ts => match Z0J vals D t ops 0 (Z0I tm t), Z17 tm vals ops D ts with | some v, some e => some ((t, v) :: e) | _, _ => none
def Z0S (t : Nat) : List (Nat × AV) -> Option AV
 | [] => none
 | (u, v) :: l => if Nat.beq u t then some v else Z0S t l
def Z0t (gl : Glob) (env : List (Nat × AV)) : Operand -> Option AV
 | .tmp t => Z0S t env
 | .const v => ofV v
 | .global g => match gl g with | some cs => some (.rp cs) | none => none
 | .func f => some (.func (.func f) [] [])
def Z07 (ops : List Oper) (env : List (Nat × AV)) (o : Oper) : Bool :=
 match o.guard with
 | none => true
 | some (j, want) => match ops[j]? with
  | some g => match g.dst with
   | some d => match Z0S d env with | some (.bool b) => b == want | _ => false
   | none => false
  | none => false
structure DSt where
 vals : List (Option AV)
 done : Nat
 base : Z00
 new : List Nat
 heap : Z00
 sts : List (Nat × Z00 × List Nat)
def Z3l (m : Nat) : List Nat -> Bool
 | [] => true
 | i :: l => bit m i && Z3l m l
def Z0T (n : Nat) : List Nat -> Bool
 | [] => true
 | i :: l => Nat.blt i n && Z0T n l
def Z0W : List (Nat × AV) -> List Nat -> List Nat
 | [], acc => acc
 | (_, v) :: l, acc => Z12 v (Z0W l acc)
def Z0p (P : Program) (ρ : Operand -> Option AV) (o : Oper) : Option ((Nat -> AV) × ABody) :=
 match o.op with
 | .alloc e => match Z1C P e with | some z => some (fun n => .ptr n 0, .cells z.cells e) | none => none
 | .box e x => match ρ x with | some v => some (fun n => .ptr n 0, .cells v.cells e) | none => none
 | .buildSlice t len ps => match Z2z ρ ps.toList with
  | some us => match Z4C P t len us with
   | some (cs, e, z) => some (fun n => .slice n 0 len len z, .cells cs e)
   | none => none
  | none => none
 | .makeSlice t l c => match ρ l, ρ c with
  | some l, some c => match Zba P t l c with
   | some (zs, e, z, ln, cp) => some (fun n => .slice n 0 ln cp z, .cells zs e)
   | none => none
  | _, _ => none
 | .makeMap _ none => some (fun n => .map n, .map [] 0)
 | _ => none
def Z3Z (P : Program) (gl : Glob) (orc : Orc) (ops : List Oper) (an : List Nat) (tm : Tr) (i : Nat) (s : DSt) : Option DSt :=
 match ops[i]? with
 | none => none
 | some o => match Z17 tm s.vals ops (bit (an.getD i 0)) (looks ops o) with
  | none => none
  | some env =>
   if bit s.done i then none else
   match kind o with
   | 2 =>
    if Z07 ops env o then
     match Z0p P (Z0t gl env) o with
     | some (mk, body) => if Z0T s.heap.length (Z3H body []) then
       ZhS o (mk s.heap.length) (s.heap ++ [⟨true, s.heap.length, 0, body⟩]) fun r H' => some ⟨s.vals.set i (some r), Nat.lor s.done (2 ^ i), s.base, s.new ++ [i], H', s.sts⟩
      else none
     | none => none
    else some ⟨s.vals.set i (some (.tuple [])), Nat.lor s.done (2 ^ i), s.base, s.new, s.heap, s.sts⟩
   | 3 =>
    if Z3l (an.getD i 0) s.new && Z0T s.heap.length (Z0W env []) then
     if Z07 ops env o then
      match aop P orc (Z0t gl env) o s.heap with
      | some (r, H') => ZhS o r H' fun r H' => if Nat.ble s.heap.length H'.length then some ⟨s.vals.set i (some r), Nat.lor s.done (2 ^ i), H', [], H', s.sts ++ [(i, s.base, s.new)]⟩ else none
      | none => none
     else some ⟨s.vals.set i (some (.tuple [])), Nat.lor s.done (2 ^ i), s.heap, [], s.heap, s.sts ++ [(i, s.base, s.new)]⟩
    else none
   | _ =>
    if Z07 ops env o then
     match Z02 P (Z0t gl env) s.heap o with
     | some r => ZhS o r s.heap fun r _ => some ⟨s.vals.set i (some r), Nat.lor s.done (2 ^ i), s.base, s.new, s.heap, s.sts⟩
     | none => none
    else some ⟨s.vals.set i (some (.tuple [])), Nat.lor s.done (2 ^ i), s.base, s.new, s.heap, s.sts⟩
def Z3g (P : Program) (gl : Glob) (orc : Orc) (ops : List Oper) (an : List Nat) (tm : Tr) : List Nat -> DSt -> Option DSt
 | [], s => some s
 | i :: l, s => match Z3Z P gl orc ops an tm i s with | some s' => Z3g P gl orc ops an tm l s' | none => none
def Z2n (an : List Nat) (j t : Nat) : List Oper -> Nat -> Bool
 | [], _ => true
 | o :: l, k => (!Z1Q o t || Nat.beq k j || bit (an.getD j 0) k || bit (an.getD k 0) j) && Z2n an j t l (k + 1)
def Z0x (ops : List Oper) (an : List Nat) (j : Nat) (o : Oper) : Bool :=
 (looks ops o).all (fun t => Z2n an j t ops 0) && (match o.dst with | some d => Z2n an j d ops 0 | none => true)
def Z4e (ops : List Oper) (an : List Nat) : List Oper -> Nat -> Bool
 | [], _ => true
 | o :: l, j => Z0x ops an j o && Z4e ops an l (j + 1)
def stages (P : Program) (gl : Glob) (o : Oper) (env : List (Nat × AV)) (v : AV) (j : Nat) (an : List Nat) (aj : Nat) (eq : AV -> AV -> Bool) : List (Nat × Z00 × List Nat) -> Z00 -> Bool
 | [], H => (match Z02 P (Z0t gl env) H o with | some u => eq u v | none => false)
 | (e, B, _) :: l, H =>
  if bit aj e then stages P gl o env v j an aj eq l H else
  (match Z02 P (Z0t gl env) B o with | some u => eq u v | none => false) && (bit (an.getD e 0) j || stages P gl o env v j an aj eq l H)
mutual
def veq : AV -> AV -> Bool
 | .bool a, .bool b => a == b
 | .int k a, .int k' b => k == k' && a == b
 | .str a, .str b => a == b
 | .nptr, .nptr => true
 | .ptr a b, .ptr c d => Nat.beq a c && Nat.beq b d
 | .rp a, .rp b => veqL a b
 | .nslice, .nslice => true
 | .slice a b c d e, .slice a' b' c' d' e' => Nat.beq a a' && Nat.beq b b' && Nat.beq c c' && Nat.beq d d' && Nat.beq e e'
 | .rs n z a, .rs n' z' b => Nat.beq n n' && Nat.beq z z' && veqL a b
 | .nmap, .nmap => true
 | .map a, .map b => Nat.beq a b
 | .nfunc, .nfunc => true
 | .niface, .niface => true
 | .agg a, .agg b => veqL a b
 | .tuple a, .tuple b => veqL a b
 | .func f a b, .func f' a' b' => f == f' && veqL a a' && veqL b b'
 | .iface t a, .iface t' b => Nat.beq t t' && veq a b
 | _, _ => false
def veqL : List AV -> List AV -> Bool
 | [], [] => true
 | a :: l, b :: m => veq a b && veqL l m
 | _, _ => false
end
def Za2 (aj : Nat) : List Nat -> Z00 -> Z00
 | j :: nw, o :: h => if bit aj j then o :: Za2 aj nw h else []
 | _, _ => []
def Z2a (aj : Nat) (base : Z00) (nw : List Nat) (heap B : Z00) : Z00 := if Nat.beq B.length base.length then B ++ Za2 aj nw (heap.drop base.length) else B
def Z9W (F : Z00 -> Z00) : List (Nat × Z00 × List Nat) -> List (Nat × Z00 × List Nat)
 | [] => []
 | (e, B, nw) :: l => (e, F B, nw) :: Z9W F l
def Z0Q (P : Program) (gl : Glob) (tm : Tr) (ops : List Oper) (an : List Nat) (s : DSt) : List Oper -> Nat -> Bool
 | [], _ => true
 | o :: l, j =>
  (if Nat.beq (kind o) 1 then
    match s.vals[j]?, Z17 tm s.vals ops (bit (an.getD j 0)) (looks ops o) with
    | some (some v), some env => if Z07 ops env o then stages P gl o env v j an (an.getD j 0) veq s.sts s.base || stages P gl o env v j an (an.getD j 0) veq (Z9W (Z2a (an.getD j 0) s.base s.new s.heap) s.sts) (Z2a (an.getD j 0) s.base s.new s.heap s.base) else true
    | _, _ => false
  else true) && Z0Q P gl tm ops an s l (j + 1)
def Z0H : List Oper -> List (Option AV)
 | [] => []
 | _ :: l => none :: Z0H l
def Z1d (vals : List (Option AV)) : List Oper -> Nat -> Tr -> Option Tr
 | [], _, tm => some tm
 | o :: l, i, tm => match vals[i]? with
  | some (some v) => match Z31 o.dst v tm with | some tm' => Z1d vals l (i + 1) tm' | none => none
  | _ => none
def Z41 : List Nat -> Nat -> Bool
 | [], _ => true
 | a :: l, i => Nat.blt a (2 ^ i) && Z41 l (i + 1)
def Z0c : List (Nat × Z00 × List Nat) -> List Nat
 | [] => []
 | (i, _, _) :: l => i :: Z0c l
def ZaU (an : List Nat) (m : Nat) : List Oper -> Nat -> Bool
 | [], _ => true
 | o :: l, i => (!Nat.beq (kind o) 2 || bit m i) && ZaU an m l (i + 1)
def Zgk (ops : List Oper) (an : List Nat) : List Oper -> Nat -> Bool
 | [], _ => true
 | o :: l, j => (!Nat.beq (kind o) 3 || ZaU an (an.getD j 0) (ops.take j) 0) && Zgk ops an l (j + 1)
def Zgx : Nat -> Nat -> List Nat
 | 0, _ => []
 | n + 1, k => k :: Zgx n (k + 1)
def Z6d (ops : List Oper) (an : List Nat) : List Nat :=
 if Zgk ops an ops 0 then Zgx ops.length 0 else Z9y ops.length an (effs ops 0) 0
def Z75 (P : Program) (gl : Glob) (orc : Orc) (ops : List Oper) (tm : Tr) (H : Z00) : Option (Tr × Z00) :=
 let an := Z0A ops []
 if Z4e ops an ops 0 && Z41 an 0 then
  match Z3g P gl orc ops an tm (Z6d ops an) ⟨Z0H ops, 0, H, [], H, []⟩ with
  | some s => if Z3h an (Z0c s.sts) && Nat.beq (s.done + 1) (2 ^ ops.length) && Z0Q P gl tm ops an s ops 0 then
    match Z1d s.vals ops 0 tm with | some tm' => some (tm', s.heap) | none => none
   else none
  | none => none
 else none
inductive AEx where
 | normal
 | exit (id : Nat)
 | ret
def Z8l (f : Tr -> Z00 -> Option (AEx × Tr × Z00)) : Nat -> Tr -> Z00 -> Option (AEx × Tr × Z00)
 | 0, _, _ => none
 | n + 1, tm, H => match f tm H with
  | some (.normal, tm', H') => Z8l f n tm' H'
  | r => r
def Z0o (P : Program) (gl : Glob) (orc : Orc) (fuel : Nat) : Code -> Tr -> Z00 -> Option (AEx × Tr × Z00)
 | .skip, tm, H => some (.normal, tm, H)
 | .region _ ops draw, tm, H =>
  match (if draw then Z75 P gl orc ops.toList tm H else ZcH P gl orc ops.toList ops.toList tm H) with
  | some (tm', H') => some (.normal, tm', H')
  | none => none
 | .seq a b, tm, H => match Z0o P gl orc fuel a tm H with
  | some (.normal, tm', H') => Z0o P gl orc fuel b tm' H'
  | r => r
 | .cond c a b, tm, H => match Z1g gl tm c with
  | some (.bool true) => Z0o P gl orc fuel a tm H
  | some (.bool false) => Z0o P gl orc fuel b tm H
  | _ => none
 | .block id b, tm, H => match Z0o P gl orc fuel b tm H with
  | some (.exit id', tm', H') => if Nat.beq id' id then some (.normal, tm', H') else some (.exit id', tm', H')
  | r => r
 | .loop b, tm, H => Z8l (Z0o P gl orc fuel b) fuel tm H
 | .exit id, tm, H => some (.exit id, tm, H)
 | .ret, tm, H => some (.ret, tm, H)
 | .scope b, tm, H => Z0o P gl orc fuel b tm H
 | .label _, tm, H => some (.normal, tm, H)
 | _, _, _ => none
def Z1Y (P : Program) (tm : Tr) (H : Z00) : List ResultVar -> Option (List AV)
 | [] => some []
 | .tmp t :: l => match Z0I tm t, Z1Y P tm H l with | some v, some vs => some (v :: vs) | _, _ => none
 | .cell a t :: l => match Z0I tm a with
  | some (.ptr b off) => match Z55 P t (.ptr b off) H, Z1Y P tm H l with | some v, some vs => some (v :: vs) | _, _ => none
  | _ => none
def Z8N (args : List AV) (n m : Nat) (i : Nat) : Option AV := match args[i]? with | some v => some v | none => if Nat.blt i n then some (.tuple []) else none
def Z7e : Nat -> Nat -> Nat
 | 0, _ => 0
 | k + 1, n => match n with | 0 => 0 | Nat.succ n => Nat.succ (Z7e k (Nat.div (Nat.succ n) 2))
def Z9E (P : Program) (gl : Glob) (orc : Orc) (fuel : Nat) (f : Nat) (args : List AV) (H : Z00) : Option (AV × Z00) :=
 match P.funcs[f]? with
 | some fn => match fn.body with
  | some c => frcVL args fun args => ZiN H fun H =>
   match Z0o P gl orc fuel c (tmk (Z8N args fn.ntmps args.length) (Z7e 20 fn.ntmps)) H with
   | some (x, tm, H') => match x with
    | .exit _ => none
    | _ => match Z1Y P tm H' fn.results.toList with
     | some [v] => some (v, H')
     | some vs => some (.tuple vs, H')
     | none => none
   | none => none
  | none => none
 | none => none
end Go.Abs
end

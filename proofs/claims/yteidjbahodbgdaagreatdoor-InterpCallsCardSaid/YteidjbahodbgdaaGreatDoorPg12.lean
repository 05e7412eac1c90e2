/-
  Texts of this proof, one behind the other (part 12).
-/
import Derived.Test.YteidjbahodbgdaaGreatDoorPg11
set_option linter.unusedVariables false
set_option linter.unusedSimpArgs false

section
namespace Go.Proofs.YteidjbahodbgdaaGreatDoor.lex
open Go.Abs Go.RowKit
set_option maxRecDepth 100000
set_option maxHeartbeats 4000000
variable {gl : Z0l}
theorem Z7v (x : BitVec 64) : ((x.toNat : Nat) : Int) % 18446744073709551616 = x.toNat := by
 have h := x.isLt
 rw [show (2 : Nat) ^ 64 = 18446744073709551616 from rfl] at h
 omega
theorem ZkH (x y : Int) : bits .or .u64 x y = ((BitVec.ofInt 64 x ||| BitVec.ofInt 64 y).toNat : Int) := by
 have e : bits .or .u64 x y = IntKind.u64.wrap ((BitVec.ofInt 64 x ||| BitVec.ofInt 64 y).toNat : Int) := rfl
 rw [e, Zlb]
 exact Z7v _
theorem Ziu (x y : Int) : bits .xor .u64 x y = ((BitVec.ofInt 64 x ^^^ BitVec.ofInt 64 y).toNat : Int) := by
 have e : bits .xor .u64 x y = IntKind.u64.wrap ((BitVec.ofInt 64 x ^^^ BitVec.ofInt 64 y).toNat : Int) := rfl
 rw [e, Zlb]
 exact Z7v _
theorem Ziv (x y : Int) : bits .and .u64 x y = ((BitVec.ofInt 64 x &&& BitVec.ofInt 64 y).toNat : Int) := by
 have e : bits .and .u64 x y = IntKind.u64.wrap ((BitVec.ofInt 64 x &&& BitVec.ofInt 64 y).toNat : Int) := rfl
 rw [e, Zlb]
 exact Z7v _
theorem ZfW (a : Int) : BitVec.ofInt 64 (IntKind.u64.wrap a) = BitVec.ofInt 64 a := by
 apply BitVec.eq_of_toInt_eq
 rw [BitVec.toInt_ofInt, BitVec.toInt_ofInt, Zlb]
 simp only [Int.bmod]
 omega
end Go.Proofs.YteidjbahodbgdaaGreatDoor.lex
end

section
namespace Go.Proofs.YteidjbahodbgdaaGreatDoor.lex
open Go.Abs Go.RowKit
set_option maxRecDepth 100000
set_option maxHeartbeats 4000000
variable {gl : Z0l}
theorem Zax (b : Bool) : ValOK Tryz.prog gl 87 [.bool b] (.int .i64 (Z19 b)) := by
 refine Z0a follows Z09 Z05 Tryz.func87 rfl ?_
 repeat' ((conv => whnf); first | refine stp ?_ | with_reducible refine Z01 (fun h => ?_) (fun h => ?_))
 all_goals (try simp_all [Z0J, Z19])
def Zm5 (op a b : Int) : Int :=
 if op = 5 then Z19 (a != 0 || b != 0) else
 if op = 6 then Z19 (a != 0 && b != 0) else
 if op = 7 then Z19 (a == b) else
 if op = 8 then Z19 (a != b) else
 if op = 9 then Z19 (decide (a < b)) else
 if op = 10 then Z19 (decide (a <= b)) else
 if op = 11 then bits .or .i64 a b else
 if op = 12 then bits .xor .i64 a b else
 if op = 13 then bits .and .i64 a b else
 if op = 14 then IntKind.i64.wrap (IntKind.u64.wrap (IntKind.u64.wrap a + IntKind.u64.wrap b)) else
 if op = 15 then IntKind.i64.wrap (IntKind.u64.wrap (IntKind.u64.wrap a - IntKind.u64.wrap b)) else
 IntKind.i64.wrap (IntKind.u64.wrap (IntKind.u64.wrap a * IntKind.u64.wrap b))
def vR1 (f : Nat) (xs : List AV) : Option AV := match f with
 | 87 => match xs with | [.bool b] => some (.int .i64 (Z19 b)) | _ => none
 | _ => none
theorem Zff : Z06 Tryz.prog gl (Z5P vR1) := Z1m fun f xs r h => by
 unfold vR1 at h
 split at h
 · split at h <;> cases h
   exact ⟨rfl, Zax _⟩
 · cases h
theorem Zjq (op a b : Int) : ValOK Tryz.prog gl 88 [.int .i64 op, .int .i64 a, .int .i64 b] (.int .i64 (Zm5 op a b)) := by
 refine Z0a follows Z09 Zff Tryz.func88 rfl ?_
 repeat' ((conv => whnf); first | refine stp ?_ | with_reducible refine Z01 (fun h => ?_) (fun h => ?_))
 all_goals (try simp_all [Z0J, Zm5, Z19])
theorem Zjr (op a b : Int) : Zm5 op a b = Zjs op a b := by
 have h1 : ∀ x y : Int, bits .or .i64 x y = IntKind.i64.wrap ((BitVec.ofInt 64 x ||| BitVec.ofInt 64 y).toNat : Int) := fun _ _ => rfl
 have h2 : ∀ x y : Int, bits .xor .i64 x y = IntKind.i64.wrap ((BitVec.ofInt 64 x ^^^ BitVec.ofInt 64 y).toNat : Int) := fun _ _ => rfl
 have h3 : ∀ x y : Int, bits .and .i64 x y = IntKind.i64.wrap ((BitVec.ofInt 64 x &&& BitVec.ofInt 64 y).toNat : Int) := fun _ _ => rfl
 unfold Zm5 Zjs
 rw [ZkH, Ziu, Ziv, h1, h2, h3, ZfW, ZfW]
def vR2 (f : Nat) (xs : List AV) : Option AV := match f with
 | 87 => match xs with | [.bool b] => some (.int .i64 (Z19 b)) | _ => none
 | 88 => match xs with | [.int .i64 op, .int .i64 a, .int .i64 b] => some (.int .i64 (Zjs op a b)) | _ => none
 | _ => none
theorem Z3L : Z06 Tryz.prog gl (Z5P vR2) := Z1m fun f xs r h => by
 unfold vR2 at h
 split at h
 · split at h <;> cases h
   exact ⟨rfl, Zax _⟩
 · split at h <;> cases h
   rw [<- Zjr]
   exact ⟨rfl, Zjq _ _ _⟩
 · cases h
theorem Zjf (op : Int) (l : List Int) (x : AV) (hx : x = .rs l.length 1 (l.map (AV.int .i64)) \/ (l = [] /\ x = .nslice)) : ValOK Tryz.prog gl 73 [.int .i64 op, x] (.tuple [.int .i64 (doI op l).1, .int .i64 (doI op l).2]) := by
 rcases hx with rfl | ⟨rfl, rfl⟩
 · match l with
   | [] =>
    refine Z0a follows Z09 Z3L Tryz.func73 rfl ?_
    repeat' ((conv => whnf); first | refine stp ?_ | with_reducible refine Z01 (fun h => ?_) (fun h => ?_))
    all_goals (try simp_all [Z0J, doI])
   | [a] =>
    refine Z0a follows Z09 Z3L Tryz.func73 rfl ?_
    repeat' ((conv => whnf); first | refine stp ?_ | with_reducible refine Z01 (fun h => ?_) (fun h => ?_))
    all_goals (try simp_all [Z0J, doI, Zlu])
   | [a, b] =>
    refine Z0a follows Z09 Z3L Tryz.func73 rfl ?_
    repeat' ((conv => whnf); first | refine stp ?_ | with_reducible refine Z01 (fun h => ?_) (fun h => ?_))
    all_goals (try simp_all [Z0J, doI])
    all_goals (rw [if_neg (by omega)]; exact ⟨rfl, rfl⟩)
   | a :: b :: c :: l =>
    refine Z0a follows Z09 Z3L Tryz.func73 rfl ?_
    have h1 : (((a :: b :: c :: l).length : Int) == 1) = false := by simp; omega
    have h2 : (((a :: b :: c :: l).length : Int) == 2) = false := by simp; omega
    repeat' ((conv => whnf); first | refine stp ?_ | with_reducible refine Z01 (fun h => ?_) (fun h => ?_))
    all_goals (try simp_all [Z0J, doI])
 · refine Z0a follows Z09 Z3L Tryz.func73 rfl ?_
   repeat' ((conv => whnf); first | refine stp ?_ | with_reducible refine Z01 (fun h => ?_) (fun h => ?_))
   all_goals (try simp_all [Z0J, doI])
def doG (f : Nat) (xs : List AV) : Option AV := match f with
 | 73 => match xs with
  | [.int .i64 op, .rs _ 1 cs] => match Z3E cs with
   | some l => some (.tuple [.int .i64 (doI op l).1, .int .i64 (doI op l).2])
   | none => none
  | [.int .i64 op, .nslice] => some (.tuple [.int .i64 (doI op []).1, .int .i64 (doI op []).2])
  | _ => none
 | _ => none
theorem ZgK : Z06 Tryz.prog gl (Z5P doG) := Z1m fun f xs r h => by
 unfold doG at h
 split at h
 · split at h <;> try (cases h; done)
   · split at h <;> cases h
     rename_i n cs _ l hl
     refine ⟨rfl, ValOK.rs (pre := [_]) (post := []) fun hc => ?_⟩
     have := Z4I hl; subst this
     simp at hc; subst hc
     exact Zjf _ _ _ (.inl rfl)
   · cases h; exact ⟨rfl, Zjf _ [] _ (.inr ⟨rfl, rfl⟩)⟩
 · cases h
end Go.Proofs.YteidjbahodbgdaaGreatDoor.lex
end

section
namespace Go.Flat
variable {α : Type} (ev : α -> List Int -> Int) (wr : Int -> Int)
variable (ins : Nat -> In α)
theorem Zmw {rank : Nat -> Nat} {f : Nat} (hr : ∀ v w, Rch (nxC ins) v -> w ∈ nxC ins v -> rank w < rank v) (hf : ∀ v, Rch (nxC ins) v -> rank v < f) {l : List Int} {s t : Th} {n : Nat} (hs : Rch (nxC ins) s.at_) (h : stp ev (ins s.at_) s = .on t) : go ev wr ins f l s n = go ev wr ins f l t n := by
 have hn : t.at_ ∈ nxC ins s.at_ := Z6l ev h
 have ht : Rch (nxC ins) t.at_ := .next hs hn
 have e : adv ev ins f s = adv ev ins f t := by
  rw [<- Zab ev ins hr f s hs (hf _ hs)]
  show (match stp ev (ins s.at_) s with | .on t => adv ev ins f t | .ends e => (s, some e) | .asks => (s, none)) = _
  rw [h]
 cases l with
 | nil => simp only [go, e]
 | cons v l => simp only [go, e]
theorem ZlJ {rank : Nat -> Nat} {f : Nat} (hf : ∀ v, Rch (nxC ins) v -> rank v < f) {l : List Int} {s : Th} {n : Nat} {e : Int} (hs : Rch (nxC ins) s.at_) (h : stp ev (ins s.at_) s = .ends e) : go ev wr ins f l s n = ⟨s, e, none, n⟩ := by
 have ha := Z5H ev ins hf hs (fun t ht => by rw [h] at ht; cases ht)
 rw [h] at ha
 cases l with
 | nil => simp only [go, ha]
 | cons v l => simp only [go, ha]
theorem ZlK {rank : Nat -> Nat} {f : Nat} (hf : ∀ v, Rch (nxC ins) v -> rank v < f) {s : Th} {n : Nat} (hs : Rch (nxC ins) s.at_) (h : stp ev (ins s.at_) s = .asks) : go ev wr ins f [] s n = ⟨s, 0, some (qu ev (ins s.at_) s.regs), n⟩ := by
 have ha := Z5H ev ins hf hs (fun t ht => by rw [h] at ht; cases ht)
 rw [h] at ha
 simp only [go, ha]
theorem Zkj {rank : Nat -> Nat} {f : Nat} (hf : ∀ v, Rch (nxC ins) v -> rank v < f) {v : Int} {l : List Int} {s : Th} {n : Nat} (hs : Rch (nxC ins) s.at_) (h : stp ev (ins s.at_) s = .asks) : go ev wr ins f (v :: l) s n = go ev wr ins f l (Z1k ev wr (ins s.at_) s v) (n + 1) := by
 have ha := Z5H ev ins hf hs (fun t ht => by rw [h] at ht; cases ht)
 rw [h] at ha
 simp only [go, ha]
end Go.Flat
end

section
namespace Go.Proofs.YteidjbahodbgdaaGreatDoor.lex
open Go.Abs Go.RowKit Go.Flat
set_option maxRecDepth 100000
set_option maxHeartbeats 4000000
variable {gl : Z0l}
theorem Zav : ∀ (n : Nat) (e : Ex) (r : List Int), Z0f e <= n -> okE e -> Z0f e <= 1048576 -> Z0q r.length e = true -> ValOK Tryz.prog gl 60 [.agg e.cells, rsI r] (.int .i64 (evC r e))
 | n, .mk op num name kids, r, h, hok, hs, hr => by
  obtain ⟨⟨hn1, hn2⟩, hok2⟩ := Z2d hok
  simp only [Ex.name, Ex.kids] at hn1 hn2 hok2
  simp only [Z0f] at h hs
  have hkl := Z1H kids
  have hrk := Z8w hr
  have hinj : ∀ x y : Ex, (Z0f x < n /\ x ∈ kids) -> (Z0f y < n /\ y ∈ kids) -> [AV.agg x.cells, rsI r] = [AV.agg y.cells, rsI r] -> AV.int .i64 (evC r x) = .int .i64 (evC r y) := fun x y _ _ h => by
   simp only [List.cons.injEq, AV.agg.injEq, and_true] at h
   rw [Z16 _ _ h]
  obtain ⟨O, hO, p1, p2, -⟩ := fams (P := Tryz.prog) (gl := gl) [{ I := Ex, f := 60, G := fun x => Z0f x < n /\ x ∈ kids, A := fun x => [.agg x.cells, rsI r], R := fun x => .int .i64 (evC r x), body := (by kernel_rfl), inj := hinj, ok := (fun x hx => ⟨by obtain ⟨o, m, s, k⟩ := x; simp only [Ex.cells]; rfl, match n, hx.1 with | n + 1, h => Zav n x r (by omega) (Z0H hok2 _ hx.2) (by have := Z0w _ _ hx.2; omega) (hrk _ hx.2)⟩) },
   { I := Unit, f := 58, G := fun _ => True, A := fun _ => [.str name], R := fun _ => .int .i64 (Z1X name), body := (by kernel_rfl), inj := fun _ _ _ _ _ => rfl, ok := fun _ _ => ⟨rfl, ZfZ name hn1⟩ }] rfl
  have hO2 := Z1z (ZgK (gl := gl)) hO
  have q1 : ∀ x ∈ kids, ∀ H, Z04 Tryz.prog (Z1v (Z5P doG) O) H 60 [.agg x.cells, rsI r] = some (.int .i64 (evC r x), H) := fun x hx H => Z66 (by kernel_rfl) (Z9u fun _ => rfl) (p1 x ⟨by have := Z0w _ _ hx; omega, hx⟩ H)
  have q2 : ∀ H, Z04 Tryz.prog (Z1v (Z5P doG) O) H 58 [.str name] = some (.int .i64 (Z1X name), H) := fun H => Z66 (by kernel_rfl) (Z9u fun _ => rfl) (p2 () trivial H)
  have q3 : ∀ H x cs, frz H 30 x = some cs -> (cs = rsI (evCL r kids) \/ (evCL r kids = [] /\ cs = .nslice)) -> Z04 Tryz.prog (Z1v (Z5P doG) O) H 73 [.int .i64 op, x] = some (.tuple [.int .i64 (doI op (evCL r kids)).1, .int .i64 (doI op (evCL r kids)).2], H) := fun H x cs hx hc => by
   refine Z4M (by kernel_rfl) (Zis (fa := [.int .i64 op, cs]) (by kernel_rfl) ?_ ?_)
   · simp only [Z0L, hx]; rfl
   · rcases hc with rfl | ⟨he, rfl⟩
     · show (match Z3E (ksC (evCL r kids)) with | some l => _ | none => none) = _
       rw [show Z3E (ksC (evCL r kids)) = some (evCL r kids) from Z5V _]
     · rw [he]; rfl
  have hT : Z74 Tryz.prog 25 25 = some (2, 1, 8) := by kernel_rfl
  clear p1 p2 hinj
  generalize Z1v (Z5P doG) O = O2 at *
  simp only [Ex.cells, exA, evC]
  refine Z0a follows Z09 hO2 Tryz.func60 rfl ?_
  by_cases h1 : op = 1
  · subst h1
    rw [if_pos rfl]
    repeat' ((conv => whnf); first | refine stp ?_ | with_reducible refine Z01 (fun h => ?_) (fun h => ?_))
    all_goals rfl
  rw [if_neg h1]
  have e1 : (op == 1) = false := by simpa using h1
  by_cases h2 : op = 2
  · subst h2
    rw [if_pos rfl]
    obtain ⟨g1, g2⟩ := ZaJ hr
    obtain ⟨k, hk⟩ : ∃ k : Nat, Z1X name = k := ⟨(Z1X name).toNat, by omega⟩
    rw [hk] at q2 g2 ⊢
    have hx : ∀ off, off = k -> tk 1 ((ksC r).drop off) = some [.int .i64 (r.getD k 0)] := fun off e => by
     subst e
     have := Zj1 r off (by omega)
     rw [show 0 + off * 1 = off by omega] at this; exact this
    simp only [Int.toNat_natCast, rsI] at *
    repeat' ((conv => whnf); first | (refine exI (q2 _) ?_) | (refine exI (hx _ (by omega)) ?_) | (with_reducible refine ixJ k rfl ?_ ?_; (focus (omega))) | (first | refine stp ?_ | with_reducible refine Z01 (fun h => ?_) (fun h => ?_)))
    all_goals rfl
  rw [if_neg h2]
  have e2 : (op == 2) = false := by simpa using h2
  simp only [rsI] at *
  repeat' ((conv => whnf); first | (first | refine stp ?_ | with_reducible refine Z01 (fun h => ?_) (fun h => ?_)))
  conv => whnf
  refine ⟨Nat, (fun i => i <= kids.length), (fun i => [(1, .rs r.length 1 (ksC r)), (2, .ptr 0 0), (5, grA 1 1 (evCL r (kids.take i))), (6, .int .i64 (i : Nat))]), (fun i => ⟨true, 0, 0, .cells [.int .i64 op, .int .i64 num, .str name, .rs kids.length 4 (exC kids)] 65⟩ :: grB 1 ksC 2 (evCL r (kids.take i))), (fun i => kids.length - i), ⟨0, Nat.zero_le _, ?_⟩, ?_⟩
  · simp only [List.take_zero, evCL]
    refine FgL.mk [0] rfl ?_ ⟨⟨rfl, rfl, rfl, rfl, BodyGe.pre (rest := []) rfl rfl⟩, trivial⟩ rfl
    (repeat (first | exact trivial | refine stw ?_))
  intro i hi
  dsimp only
  by_cases hlt : i < kids.length
  · have e3 : decide ((i : Int) < (kids.length : Int)) = true := by simpa using hlt
    have hx := ex4 kids i hlt
    have q1k := q1 kids[i] (Z0i hlt)
    have hsn : evCL r (kids.take (i + 1)) = evCL r (kids.take i) ++ [evC r kids[i]] := by
     rw [Z2i, Z2i, List.take_succ_eq_append_getElem hlt, List.map_append]; rfl
    have hol : (evCL r (kids.take i)).length <= 1048576 := by rw [Z2i, List.length_map, List.length_take]; omega
    clear q1 q2 q3 hrk
    generalize evCL r (kids.take i) = o at *
    generalize evC r kids[i] = y at *
    generalize kids[i] = x at *
    obtain ⟨xo, xn, xs, xk⟩ := x
    simp only [Ex.cells] at hx q1k
    cases o with
    | nil =>
     repeat' ((conv => whnf); first | (refine exI (q1k _) ?_) | (refine exI hx ?_) | (with_reducible refine ixJ i rfl ?_ ?_; (focus (omega))) | (refine apS ?_) | (first | refine stp ?_ | with_reducible refine Z01 (fun h => ?_) (fun h => ?_)))
     conv => whnf
     refine ⟨i + 1, hlt, by show kids.length - (i + 1) < kids.length - i; omega, ?_⟩
     rw [hsn]
     refine FgL.mk [0, 2] rfl ?_ ⟨⟨rfl, rfl, rfl, rfl, BodyGe.pre (rest := []) rfl rfl⟩, ⟨rfl, rfl, rfl, rfl, BodyGe.pre (rest := []) rfl rfl⟩, trivial⟩ rfl
     simp only [List.nil_append, grA, List.length_nil]
     (repeat (first | exact trivial | refine stw ?_))
    | cons z o =>
     have hcl := Z2e z o
     have hon := Z4G (z :: o)
     simp only [List.length_cons] at hol
     repeat' ((conv => whnf); first | (refine exI (q1k _) ?_) | (refine exI hx ?_) | (with_reducible refine ixJ i rfl ?_ ?_; (focus (omega))) | (refine apS ?_) | (first | refine stp ?_ | with_reducible refine Z01 (fun h => ?_) (fun h => ?_)))
     conv => whnf
     refine ⟨i + 1, hlt, by show kids.length - (i + 1) < kids.length - i; omega, ?_⟩
     rw [hsn]
     refine FgL.mk [0, 3] rfl ?_ ⟨⟨rfl, rfl, rfl, rfl, BodyGe.pre (rest := []) rfl rfl⟩, ⟨rfl, rfl, rfl, rfl, BodyGe.pre (rest := []) (by rw [List.append_nil]; simp [ksC]) (Z0R _)⟩, trivial⟩ rfl
     simp only [grA, List.cons_append, List.length_append, List.length_cons, List.length_nil]
     (repeat (first | exact trivial | refine stw ?_))
  · have e3 : decide ((i : Int) < (kids.length : Int)) = false := by simpa using hlt
    have hi2 : i = kids.length := by have := hi; omega
    subst hi2
    rw [List.take_length]
    clear q1 q2
    generalize evCL r kids = o at *
    cases o with
    | nil =>
     repeat' ((conv => whnf); first | (refine exI (q3 _ _ .nslice rfl (.inr ⟨rfl, rfl⟩)) ?_) | (first | refine stp ?_ | with_reducible refine Z01 (fun h => ?_) (fun h => ?_)))
     all_goals rfl
    | cons z o =>
     have hf : ∀ cap, frz (⟨true, 0, 0, .cells [.int .i64 op, .int .i64 num, .str name, .rs kids.length 4 (exC kids)] 65⟩ :: grB 1 ksC 2 (z :: o)) 30 (.slice 1 0 (o.length + 1) cap 1) = some (.rs (o.length + 1) 1 (ksC (z :: o))) := fun cap => Z02 (n := 28) (b := 1) rfl (Z2e z o) (by simp only [ksC, List.all_map]; simp [Z61])
     simp only [grB] at hf
     repeat' ((conv => whnf); first | (refine exI (q3 _ _ _ (hf _) (.inl rfl)) ?_) | (first | refine stp ?_ | with_reducible refine Z01 (fun h => ?_) (fun h => ?_)))
     all_goals rfl
end Go.Proofs.YteidjbahodbgdaaGreatDoor.lex
end

section
namespace Go.Proofs.YteidjbahodbgdaaGreatDoor.lex
open Go.Abs Go.RowKit Go.Flat
set_option maxRecDepth 100000
set_option maxHeartbeats 4000000
variable {gl : Z0l}
theorem Z90 (q : Qu) (v : Int) : ValOK Tryz.prog gl 41 [.agg (quC q), .int .i64 v] (.tuple [.agg (Z0c (Z83 q v)), .int .i64 (Z82 q)]) := by
 obtain ⟨k, lo, od, a, b⟩ := q
 simp only [quC]
 refine Z0a follows Z09 Z05 Tryz.func41 rfl ?_
 rcases Z7z k with h | ⟨h2, h4, h5, h6, h⟩
 · rcases h with rfl | rfl | rfl | rfl
   · repeat' ((conv => whnf); first | refine stp ?_ | with_reducible refine Z01 (fun h => ?_) (fun h => ?_))
     all_goals rfl
   · by_cases hv : v = a
     · have e : (v == a) = true := by simpa using hv
       have e2 : (v != a) = false := by simp [hv]
       repeat' ((conv => whnf); first | refine stp ?_ | with_reducible refine Z01 (fun h => ?_) (fun h => ?_))
       all_goals (simp [Z83, Z82, Z3d, ans, Z0c, hv, Z0J])
     · have e : (v == a) = false := by simpa using hv
       have e2 : (v != a) = true := by simp [hv]
       repeat' ((conv => whnf); first | refine stp ?_ | with_reducible refine Z01 (fun h => ?_) (fun h => ?_))
       all_goals (simp [Z83, Z82, Z3d, ans, Z0c, hv, Z0J])
   · repeat' ((conv => whnf); first | refine stp ?_ | with_reducible refine Z01 (fun h => ?_) (fun h => ?_))
     all_goals (try (show _ = AV.tuple [.agg (Z0c (Z83 ⟨5, lo, od, a, b⟩ v)), .int .i64 (Z82 ⟨5, lo, od, a, b⟩)]; simp [Z83, Z82, Z3d, ans, Z0c, Z0J, ZiH]))
   · repeat' ((conv => whnf); first | refine stp ?_ | with_reducible refine Z01 (fun h => ?_) (fun h => ?_))
     all_goals rfl
 · repeat' ((conv => whnf); first | refine stp ?_ | with_reducible refine Z01 (fun h => ?_) (fun h => ?_))
   all_goals (simp [Z83, Z82, h, Z0c, Z0J])
end Go.Proofs.YteidjbahodbgdaaGreatDoor.lex
end

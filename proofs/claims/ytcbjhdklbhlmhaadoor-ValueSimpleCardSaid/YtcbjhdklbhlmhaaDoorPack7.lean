/-
  Texts of this proof, one behind the other (part 7).
-/
import Derived.Test.YtcbjhdklbhlmhaaDoorPack6
import Derived.Shelf.SlIter.Nil
import Derived.Shelf.SortM.Plain
import Derived.Shelf.SortM.SortNone
import Derived.Test.YtcbjhdklbhlmhaaDoorProg

/-
  Registers, the program's side: a map of names, filled by closures.
-/
section
set_option linter.unusedVariables false
set_option linter.unusedSimpArgs false
namespace Go.Proofs.YtcbjhdklbhlmhaaDoor.lex
open Go.Abs Go.RowKit
set_option maxRecDepth 100000
set_option maxHeartbeats 4000000
/-- The map's entries, in the order in which they came. -/
def rgE : Nat → List (List UInt8) → List (AV × AV × Nat)
  | _, [] => []
  | i, s :: l => (.str s, .agg [], i) :: rgE (i + 1) l
def rgH (n : List (List UInt8)) : AHeap := [⟨true, 0, 0, .map (rgE 0 n) n.length⟩, ⟨true, 1, 0, .cells [.map 0] 70⟩, ⟨true, 2, 0, .cells [.func (.func 38) [] [.ptr 1 0]] 61⟩]
theorem rgE_inj : ∀ {a b : List (List UInt8)} {i : Nat}, rgE i a = rgE i b → a = b
  | [], [], _, _ => rfl
  | [], _ :: _, _, h => by simp [rgE] at h
  | _ :: _, [], _, h => by simp [rgE] at h
  | x :: a, y :: b, i, h => by
    simp only [rgE, List.cons.injEq, Prod.mk.injEq, AV.str.injEq, and_true] at h
    rw [h.1, rgE_inj h.2]
theorem rgH_inj {a b : List (List UInt8)} (h : rgH a = rgH b) : a = b := by
  simp only [rgH, List.cons.injEq, AObj.mk.injEq, ABody.map.injEq, and_true, true_and] at h
  exact rgE_inj h.1
theorem rgE_app (s : List UInt8) : ∀ (a : List (List UInt8)) (i : Nat), rgE i (a ++ [s]) = rgE i a ++ [(.str s, .agg [], i + a.length)]
  | [], i => rfl
  | x :: a, i => by
    simp only [List.cons_append, rgE, rgE_app s a (i + 1), List.length_cons]
    rw [show i + 1 + a.length = i + (a.length + 1) by omega]
theorem rg_find (s : List UInt8) : ∀ (a : List (List UInt8)) (i j : Nat), a.contains s = false → aFind .string (.str s) (rgE i a) j = some none
  | [], i, j, h => rfl
  | x :: a, i, j, h => by
    simp only [List.contains_cons, Bool.or_eq_false_iff] at h
    simp only [rgE, aFind, aSame, h.1]
    exact rg_find s a (i + 1) (j + 1) h.2
theorem rg_found (s : List UInt8) : ∀ (a : List (List UInt8)) (i j : Nat), a.contains s = true → ∃ k v, aFind .string (.str s) (rgE i a) j = some (some (j + k, v)) ∧ mset (.str s) (.agg []) k (rgE i a) = rgE i a
  | [], i, j, h => by simp at h
  | x :: a, i, j, h => by
    simp only [List.contains_cons, Bool.or_eq_true] at h
    cases hx : (s == x) with
    | true =>
      refine ⟨0, .agg [], by simp only [rgE, aFind, aSame, hx]; rfl, ?_⟩
      have : s = x := by simpa using hx
      subst this; rfl
    | false =>
      rw [hx] at h
      obtain ⟨k, v, h1, h2⟩ := rg_found s a (i + 1) (j + 1) (by simpa using h)
      refine ⟨k + 1, v, ?_, ?_⟩
      · simp only [rgE, aFind, aSame, hx]; rw [h1, show j + 1 + k = j + (k + 1) by omega]
      · simp only [rgE, mset, h2]
def rgP (s : List UInt8) (n : List (List UInt8)) : List (List UInt8) := if n.contains s = true then n else n ++ [s]
theorem rg_set (s : List UInt8) (n : List (List UInt8)) : aMapSet Tryd.prog 70 (.map 0) (.str s) (.agg []) (rgH n) = some (rgH (rgP s n)) := by
  have hd : keyDesc Tryd.prog 70 = some (.string, 71) := by kernel_rfl
  have hw : wkil 0 0 (rgH n) = rgH n := wkil_lone (o := ⟨true, 0, 0, .map (rgE 0 n) n.length⟩) rfl rfl
  unfold aMapSet
  simp only [hd]
  have h0 : (rgH n)[0]? = some ⟨true, 0, 0, .map (rgE 0 n) n.length⟩ := rfl
  simp only [h0, hw]
  cases h : n.contains s with
  | false =>
    rw [rg_find s n 0 0 h]
    simp only [rgP, h]
    rw [if_neg (by decide)]
    simp only [rgH, rgE_app, List.set_cons_zero, Nat.zero_add, List.length_append, List.length_cons, List.length_nil]
  | true =>
    obtain ⟨k, v, h1, h2⟩ := rg_found s n 0 0 h
    rw [h1]
    simp only [rgP, h, if_true, Nat.zero_add, h2]
    rfl
theorem rgE_refs : ∀ (n : List (List UInt8)) (i : Nat), refsB (.map (rgE i n) i) [] = []
  | [], i => rfl
  | x :: n, i => rgE_refs n (i + 1)
theorem rgE_ge (m : List Nat) : ∀ (n : List (List UInt8)) (i : Nat), EGe m (rgE i n) (rgE i n)
  | [], i => trivial
  | x :: n, i => ⟨Wk.noref rfl, Wk.noref rfl, rfl, rgE_ge m n (i + 1)⟩
theorem rg_evo (s s' : List (List UInt8)) : evoB 3 (rgH s) (rgH s') = true := by
  have h : ∀ c, refsB (.map (rgE 0 s') c) [] = [] := fun c => rgE_refs s' 0
  simp only [rgH, evoB, h]; rfl
def rgI (d : Int) (_ : List (List UInt8)) (m : Nat) : Prop := 0 ≤ d ∧ d + (m : Int) ≤ 576460752303423488
/-- A name is put. -/
def rgN (s : List UInt8) (n : List (List UInt8)) : List (List UInt8) := cond (s == []) n (rgP s n)
theorem cell_op (x : Ex) (rest : List AV) : tk 1 ((x.cells ++ rest).drop 0) = some [.int .i64 x.op] := by
  obtain ⟨o, n, s, k⟩ := x
  rfl
theorem cell_nm (x : Ex) (rest : List AV) : tk 1 ((x.cells ++ rest).drop 2) = some [.str x.name] := by
  obtain ⟨o, n, s, k⟩ := x
  rfl
theorem rg3_ok (x : St) (rest : List AV) (d : Int) (n : List (List UInt8)) : MemOK Tryd.prog runLives.gl 41 [.rp (x.cells ++ rest), .int .i64 d, .ptr 2 0] (rgH n) (.bool true) (rgH (rgN x.name n)) := by
  have hx := cell_n x rest
  refine fn_mem (k := 3) follows noNum (orcN_sound follows noNum isWordF_sound 3) rfl Tryd.func41 rfl (wcall_ok (isC := fun _ => false) 3) ?_
  have he := rg_evo n (rgN x.name n)
  have hset := rg_set x.name n
  unfold rgN at he ⊢
  generalize x.name = s at *
  generalize x.cells ++ rest = cs at *
  cases hs : (s == []) with
  | true =>
    rw [hs, cond_true] at he
    rw [cond_true]
    have e1 : (!(s == [])) = false := by rw [hs]; rfl
    repeat' ((conv => whnf); first | (refine exI hx ?_) | (first | refine stp ?_ | with_reducible refine condB (fun h => ?_) (fun h => ?_)))
    all_goals (conv => whnf)
    all_goals (exact ⟨rfl, by rw [he]; rfl⟩)
  | false =>
    rw [hs, cond_false] at he
    rw [cond_false]
    have e1 : (!(s == [])) = true := by rw [hs]; rfl
    simp only [rgH] at hset he ⊢
    generalize rgE 0 (rgP s n) = es' at *
    generalize (rgP s n).length = c' at *
    repeat' ((conv => whnf); first | (refine exI hx ?_) | (refine exI hset ?_) | (first | refine stp ?_ | with_reducible refine condB (fun h => ?_) (fun h => ?_)))
    all_goals (conv => whnf)
    all_goals (exact ⟨rfl, by rw [he]; rfl⟩)
end Go.Proofs.YtcbjhdklbhlmhaaDoor.lex
end

/-
  slices.Sorted(maps.Keys(m)) at this program: the keys, rising. Conditions: the map holds texts as keys, at most maxLen of them. The layings were written by the kit's tools lay-iter and lay-plain; the rest is own work.
-/
section
namespace Go.Proofs.YtcbjhdklbhlmhaaDoor.shelf
open Go.Shelf Go.RowKit Go.Maps Go.Sort
def keys43_ren : Go.Shelf.Ren := ⟨fun | 7 => 43 | 10 => 56 | n => n, fun | 23 => 70 | 26 => 9 | 3 => 71 | 28 => 77 | 0 => 0 | 27 => 76 | 33 => 61 | 4 => 4 | n => n, fun | n => n⟩
theorem keys43 : Go.Proofs.SlLaysZ.n7 Tryd.prog keys43_ren := {
  mixed := by kernel_rfl
  f7 := ⟨Tryd.f43.name, by decide, Tryd.func43.trans (congrArg some (by kernel_rfl))⟩
  f10 := ⟨Tryd.f56.name, by decide, Tryd.func56.trans (congrArg some (by kernel_rfl))⟩
  t0 := Tryd.underlying0
  a0 := Tryd.isAgg0
  z0 := Tryd.sizeOf0
  v0 := Tryd.zeroValue0
  t4 := Tryd.underlying4
  a4 := Tryd.isAgg4
  z4 := Tryd.sizeOf4
  v4 := Tryd.zeroValue4
  t23 := Tryd.underlying70
  a23 := Tryd.isAgg70
  z23 := Tryd.sizeOf70
  v23 := Tryd.zeroValue70
  t26 := Tryd.underlying9
  a26 := Tryd.isAgg9
  z26 := Tryd.sizeOf9
  v26 := Tryd.zeroValue9
  t27 := Tryd.underlying76
  a27 := Tryd.isAgg76
  z27 := Tryd.sizeOf76
  v27 := Tryd.zeroValue76
  t28 := Tryd.underlying77
  a28 := Tryd.isAgg77
  z28 := Tryd.sizeOf77
  v28 := Tryd.zeroValue77
  t33 := Tryd.underlying61
  a33 := Tryd.isAgg61
  z33 := Tryd.sizeOf61
  v33 := Tryd.zeroValue61 }
def sorted42_ren : Go.Shelf.Ren := ⟨fun | 6 => 42 | 8 => 54 | 9 => 55 | 11 => 68 | 13 => 70 | 12 => 69 | 23 => 87 | 24 => 88 | 14 => 78 | 15 => 79 | 16 => 80 | 17 => 81 | 18 => 82 | 19 => 83 | 20 => 84 | 21 => 85 | 22 => 86 | 25 => 96 | 26 => 97 | 27 => 98 | 28 => 99 | 29 => 100 | 30 => 101 | 31 => 102 | n => n, fun | 26 => 9 | 28 => 77 | 24 => 25 | 0 => 0 | 3 => 3 | 37 => 115 | 48 => 129 | 50 => 79 | 4 => 4 | 40 => 123 | 39 => 122 | 45 => 86 | 5 => 5 | 9 => 9 | 51 => 134 | 55 => 138 | 57 => 140 | 58 => 141 | 33 => 61 | n => n, fun | n => n⟩
theorem sorted42 : Go.Proofs.SlLaysZ.n6 Tryd.prog sorted42_ren := {
  mixed := by kernel_rfl
  f6 := ⟨Tryd.f42.name, by decide, Tryd.func42.trans (congrArg some (by kernel_rfl))⟩
  f8 := ⟨Tryd.f54.name, by decide, Tryd.func54.trans (congrArg some (by kernel_rfl))⟩
  f11 := ⟨Tryd.f68.name, by decide, Tryd.func68.trans (congrArg some (by kernel_rfl))⟩
  t0 := Tryd.underlying0
  a0 := Tryd.isAgg0
  z0 := Tryd.sizeOf0
  v0 := Tryd.zeroValue0
  t24 := Tryd.underlying25
  a24 := Tryd.isAgg25
  z24 := Tryd.sizeOf25
  v24 := Tryd.zeroValue25
  t26 := Tryd.underlying9
  a26 := Tryd.isAgg9
  z26 := Tryd.sizeOf9
  v26 := Tryd.zeroValue9
  t28 := Tryd.underlying77
  a28 := Tryd.isAgg77
  z28 := Tryd.sizeOf77
  v28 := Tryd.zeroValue77
  i26 := by kernel_rfl }
def sort55_ren : Go.Shelf.Ren := ⟨fun | 6 => 55 | 8 => 70 | 9 => 69 | 19 => 87 | 20 => 88 | 21 => 78 | 22 => 79 | 23 => 80 | 24 => 81 | 25 => 82 | 26 => 83 | 27 => 84 | 28 => 85 | 29 => 86 | 36 => 96 | 31 => 97 | 32 => 98 | 37 => 99 | 38 => 100 | 39 => 101 | 41 => 102 | n => n, fun | 27 => 25 | 29 => 9 | 3 => 3 | 32 => 115 | 26 => 25 | 0 => 0 | 44 => 129 | 46 => 79 | 4 => 4 | 36 => 123 | 35 => 122 | 41 => 86 | 5 => 5 | 9 => 9 | 53 => 134 | 57 => 138 | 63 => 140 | 64 => 141 | n => n, fun | n => n⟩
theorem sort55 : Go.Proofs.SlLaysM.n6 Tryd.prog sort55_ren := {
  mixed := by kernel_rfl
  f6 := ⟨Tryd.f55.name, by decide, Tryd.func55.trans (congrArg some (by kernel_rfl))⟩
  f8 := Tryd.func70.trans (congrArg some (by kernel_rfl))
  f9 := ⟨Tryd.f69.name, by decide, Tryd.func69.trans (congrArg some (by kernel_rfl))⟩
  f19 := Tryd.func87.trans (congrArg some (by kernel_rfl))
  f20 := Tryd.func88.trans (congrArg some (by kernel_rfl))
  f21 := ⟨Tryd.f78.name, by decide, Tryd.func78.trans (congrArg some (by kernel_rfl))⟩
  f22 := ⟨Tryd.f79.name, by decide, Tryd.func79.trans (congrArg some (by kernel_rfl))⟩
  f23 := ⟨Tryd.f80.name, by decide, Tryd.func80.trans (congrArg some (by kernel_rfl))⟩
  f24 := ⟨Tryd.f81.name, by decide, Tryd.func81.trans (congrArg some (by kernel_rfl))⟩
  f25 := ⟨Tryd.f82.name, by decide, Tryd.func82.trans (congrArg some (by kernel_rfl))⟩
  f26 := ⟨Tryd.f83.name, by decide, Tryd.func83.trans (congrArg some (by kernel_rfl))⟩
  f27 := ⟨Tryd.f84.name, by decide, Tryd.func84.trans (congrArg some (by kernel_rfl))⟩
  f28 := ⟨Tryd.f85.name, by decide, Tryd.func85.trans (congrArg some (by kernel_rfl))⟩
  f29 := ⟨Tryd.f86.name, by decide, Tryd.func86.trans (congrArg some (by kernel_rfl))⟩
  f31 := Tryd.func97.trans (congrArg some (by kernel_rfl))
  f32 := Tryd.func98.trans (congrArg some (by kernel_rfl))
  f36 := ⟨Tryd.f96.name, by decide, Tryd.func96.trans (congrArg some (by kernel_rfl))⟩
  f37 := ⟨Tryd.f99.name, by decide, Tryd.func99.trans (congrArg some (by kernel_rfl))⟩
  f38 := ⟨Tryd.f100.name, by decide, Tryd.func100.trans (congrArg some (by kernel_rfl))⟩
  f39 := ⟨Tryd.f101.name, by decide, Tryd.func101.trans (congrArg some (by kernel_rfl))⟩
  f41 := ⟨Tryd.f102.name, by decide, Tryd.func102.trans (congrArg some (by kernel_rfl))⟩
  t0 := Tryd.underlying0
  a0 := Tryd.isAgg0
  z0 := Tryd.sizeOf0
  v0 := Tryd.zeroValue0
  t3 := Tryd.underlying3
  a3 := Tryd.isAgg3
  z3 := Tryd.sizeOf3
  v3 := Tryd.zeroValue3
  t4 := Tryd.underlying4
  a4 := Tryd.isAgg4
  z4 := Tryd.sizeOf4
  v4 := Tryd.zeroValue4
  t5 := Tryd.underlying5
  a5 := Tryd.isAgg5
  z5 := Tryd.sizeOf5
  v5 := Tryd.zeroValue5
  t9 := Tryd.underlying9
  a9 := Tryd.isAgg9
  z9 := Tryd.sizeOf9
  v9 := Tryd.zeroValue9
  t26 := Tryd.underlying25
  a26 := Tryd.isAgg25
  z26 := Tryd.sizeOf25
  v26 := Tryd.zeroValue25
  t27 := Tryd.underlying25
  a27 := Tryd.isAgg25
  z27 := Tryd.sizeOf25
  v27 := Tryd.zeroValue25
  t29 := Tryd.underlying9
  a29 := Tryd.isAgg9
  z29 := Tryd.sizeOf9
  v29 := Tryd.zeroValue9
  t32 := Tryd.underlying115
  a32 := Tryd.isAgg115
  z32 := Tryd.sizeOf115
  v32 := Tryd.zeroValue115
  t35 := Tryd.underlying122
  a35 := Tryd.isAgg122
  z35 := Tryd.sizeOf122
  v35 := Tryd.zeroValue122
  t36 := Tryd.underlying123
  a36 := Tryd.isAgg123
  z36 := Tryd.sizeOf123
  v36 := Tryd.zeroValue123
  t41 := Tryd.underlying86
  a41 := Tryd.isAgg86
  z41 := Tryd.sizeOf86
  v41 := Tryd.zeroValue86
  t44 := Tryd.underlying129
  a44 := Tryd.isAgg129
  z44 := Tryd.sizeOf129
  v44 := Tryd.zeroValue129
  t46 := Tryd.underlying79
  a46 := Tryd.isAgg79
  z46 := Tryd.sizeOf79
  v46 := Tryd.zeroValue79
  t53 := Tryd.underlying134
  a53 := Tryd.isAgg134
  z53 := Tryd.sizeOf134
  v53 := Tryd.zeroValue134
  t57 := Tryd.underlying138
  a57 := Tryd.isAgg138
  z57 := Tryd.sizeOf138
  v57 := Tryd.zeroValue138
  t63 := Tryd.underlying140
  a63 := Tryd.isAgg140
  z63 := Tryd.sizeOf140
  v63 := Tryd.zeroValue140
  t64 := Tryd.underlying141
  a64 := Tryd.isAgg141
  z64 := Tryd.sizeOf141
  v64 := Tryd.zeroValue141 }

/-- slices.Sort's two contracts at this dump. -/
theorem sorts (m : Nat) : AnyZ.SortsIn Tryd.prog sorted42_ren Fence.wide m :=
  ⟨fun blk off cap ss W hH hblk hsz => callsIn_wide.2 (AnyM.slices_Sort_string sort55 blk off cap ss W hH hblk hsz),
   fun p cap W => callsIn_wide.2 (AnyM.slices_Sort_string_none sort55 p cap W)⟩

set_option maxHeartbeats 1000000 in
theorem sortsKeys : Go.Abs.SortsKeys Tryd.prog 42 56 9 := by
  intro Bm b nn D0 R W hcell hown hmax hbytes
  have hBm : Bm < W.heap.size := by
    by_cases h : Bm < W.heap.size
    · exact h
    · have h2 : W.heap[Bm]? = none := Array.getElem?_eq_none (by omega)
      simp [World.cell?, h2] at hcell
  have hseq : SeqGives Fence.wide 2 Tryd.prog 56 #[.pointer (some ⟨Bm, 0, none⟩)] encStr (fun ss => ss.Perm (strKeys D0)) (Maps.size D0) W :=
    AnyZ.keys_gives (ρ := keys43_ren) { keys43 with } Fence.wide _ trivial rfl (by omega) Bm b nn D0 W hBm hcell hown
  exact callsIn_wide.1 (AnyZ.sorted_in sorted42 Fence.wide 5 trivial trivial trivial trivial rfl (by omega) (sorts _) (enters_of Tryd.func55 (by kernel_rfl) rfl) 56 #[.pointer (some ⟨Bm, 0, none⟩)] trivial (enters_of Tryd.func56 (by kernel_rfl) rfl) _ _ hmax hbytes W hseq)
theorem keyT : Tryd.prog.underlying 9 = some .string := by kernel_rfl
/-- The contract, for runs. -/
theorem sound {gl : Go.Abs.Glob} : Go.Abs.OrcSound Tryd.prog gl (Go.Abs.sortO 42 56) := Go.Abs.sortO_sound sortsKeys keyT
end Go.Proofs.YtcbjhdklbhlmhaaDoor.shelf
end

/-
  Registers: what the program's Regs hands back.
-/
section
set_option linter.unusedVariables false
set_option linter.unusedSimpArgs false
namespace Go.Proofs.YtcbjhdklbhlmhaaDoor.lex
open Go.Abs Go.RowKit
set_option maxRecDepth 100000
set_option maxHeartbeats 4000000
theorem rg2_ok (x : Ex) (rest : List AV) (d : Int) (n : List (List UInt8)) : MemOK Tryd.prog runLives.gl 40 [.rp (x.cells ++ rest), .int .i64 d, .ptr 2 0] (rgH n) (.bool true) (rgH (cond (x.op == 2) (rgN x.name n) n)) := by
  have hx := cell_op x rest
  have hx2 := cell_nm x rest
  refine fn_mem (k := 3) follows noNum (orcN_sound follows noNum isWordF_sound 3) rfl Tryd.func40 rfl (wcall_ok (isC := fun _ => false) 3) ?_
  have he := rg_evo n (cond (x.op == 2) (rgN x.name n) n)
  have hset := rg_set x.name n
  unfold rgN at he ⊢
  generalize x.name = s at *
  generalize x.op = o at *
  generalize x.cells ++ rest = cs at *
  cases ho : (o == 2) with
  | false =>
    rw [ho, cond_false] at he
    rw [cond_false]
    have e1 : (o != 2) = true := bne_of (b := false) ho
    repeat' ((conv => whnf); first | (refine exI hx ?_) | (refine exI hx2 ?_) | (first | refine stp ?_ | with_reducible refine condB (fun h => ?_) (fun h => ?_)))
    all_goals (conv => whnf)
    all_goals (exact ⟨rfl, by rw [he]; rfl⟩)
  | true =>
    rw [ho, cond_true] at he
    rw [cond_true]
    have e0 : (o != 2) = false := bne_of (b := true) ho
    cases hs : (s == []) with
    | true =>
      rw [hs, cond_true] at he
      rw [cond_true]
      have e1 : (!(s == [])) = false := by rw [hs]; rfl
      repeat' ((conv => whnf); first | (refine exI hx ?_) | (refine exI hx2 ?_) | (first | refine stp ?_ | with_reducible refine condB (fun h => ?_) (fun h => ?_)))
      all_goals (conv => whnf)
      all_goals (exact ⟨rfl, by rw [he]; rfl⟩)
    | false =>
      rw [hs, cond_false] at he
      rw [cond_false]
      have e1 : (!(s == [])) = true := by rw [hs]; rfl
      simp only [rgH] at hset he ⊢
      generalize rgE 0 (rgP s n) = es' at *
      generalize (rgP s n).length = c' at *
      repeat' ((conv => whnf); first | (refine exI hx ?_) | (refine exI hx2 ?_) | (refine exI hset ?_) | (first | refine stp ?_ | with_reducible refine condB (fun h => ?_) (fun h => ?_)))
      all_goals (conv => whnf)
      all_goals (exact ⟨rfl, by rw [he]; rfl⟩)
def rgEf (x : Ex) (_ : Int) (n : List (List UInt8)) : Bool × List (List UInt8) := (true, cond (x.op == 2) (rgN x.name n) n)
def rgSf (x : St) (_ : Int) (n : List (List UInt8)) : Bool × List (List UInt8) := (true, rgN x.name n)
def rgV : TvS runLives.gl where
  σ := List (List UInt8)
  Mem := rgH
  k := 3
  len := fun _ => rfl
  same := fun s => ⟨⟨⟨rfl, rfl, rfl, rfl, ⟨rfl, rgE_ge _ s 0⟩⟩, ⟨rfl, rfl, rfl, rfl, BodyGe.cellsL ⟨Wk.map rfl, trivial⟩⟩, ⟨rfl, rfl, rfl, rfl, BodyGe.cellsL ⟨Wk.func trivial ⟨Wk.ptr rfl rfl, trivial⟩, trivial⟩⟩, trivial⟩, rfl, rfl⟩
  evo := fun s s' => rg_evo s s'
  inj := fun _ _ h => rgH_inj h
  I := rgI
  up := fun d s m h0 h => ⟨h0, by have := h.2; omega⟩
  less := fun d s m h => ⟨h.1, by have := h.2; omega⟩
  bnd := fun d s m h => ⟨h.1, by have := h.2; omega⟩
  gE := 40
  cE := [.ptr 2 0]
  hE := rgEf
  bodyE := by kernel_rfl
  wkE := ⟨Wk.ptr rfl rfl, trivial⟩
  okE := fun e rest d s m _ h => rg2_ok e rest d s
  downE := fun e d s m h _ => ⟨by have := h.1; omega, by have := h.2; omega⟩
  gS := 41
  cS := [.ptr 2 0]
  hS := rgSf
  bodyS := by kernel_rfl
  wkS := ⟨Wk.ptr rfl rfl, trivial⟩
  okS := fun x rest d s m _ h => rg3_ok x rest d s
  downS := fun e d s m h _ => ⟨by have := h.1; omega, by have := h.2; omega⟩
/-! the names, in the order of the walk -/
mutual
def nmE : Ex → List (List UInt8)
  | .mk o _ s k => (cond (o == 2 && !(s == [])) [s] []) ++ nmL k
def nmL : List Ex → List (List UInt8)
  | [] => []
  | e :: l => nmE e ++ nmL l
end
mutual
def nmS : St → List (List UInt8)
  | .mk _ n _ _ x t e => (cond (!(n == [])) [n] []) ++ (nmL x ++ (nmSL t ++ nmSL e))
def nmSL : List St → List (List UInt8)
  | [] => []
  | x :: l => nmS x ++ nmSL l
end
/-- All of them put. -/
def addA (l : List (List UInt8)) (n : List (List UInt8)) : List (List UInt8) := l.foldl (fun n s => rgP s n) n
theorem addA_app (a b n : List (List UInt8)) : addA (a ++ b) n = addA b (addA a n) := List.foldl_append
theorem rgN_add (b : Bool) (s : List UInt8) (n : List (List UInt8)) : cond b (rgN s n) n = addA (cond (b && !(s == [])) [s] []) n := by
  unfold rgN
  cases b <;> cases (s == []) <;> rfl
mutual
theorem goE_rg : ∀ (e : Ex) (d : Int) (n : List (List UInt8)), goE rgEf e d n = (true, addA (nmE e) n)
  | .mk o m s k, d, n => by
    simp only [goE, rgEf, if_true, Ex.op, Ex.name]
    rw [goL_rg k (d + 1), rgN_add, nmE, addA_app]
theorem goL_rg : ∀ (l : List Ex) (d : Int) (n : List (List UInt8)), goL rgEf l d n = (true, addA (nmL l) n)
  | [], d, n => by simp only [goL, nmL]; rfl
  | e :: l, d, n => by
    simp only [goL, goE_rg e d n, if_true, goL_rg l d, nmL, addA_app]
end
mutual
theorem goS_rg : ∀ (x : St) (d : Int) (n : List (List UInt8)), goS rgEf rgSf x d n = (true, addA (nmS x) n)
  | .mk k m lc o x t e, d, n => by
    have h := rgN_add true m n
    simp only [cond_true, Bool.true_and] at h
    simp only [goS]
    rw [show rgSf (.mk k m lc o x t e) d n = (true, rgN m n) from rfl, h]
    simp only [thenB, goL_rg, if_true, goSL_rg t, goSL_rg e, nmS, addA_app]
theorem goSL_rg : ∀ (l : List St) (d : Int) (n : List (List UInt8)), goSL rgEf rgSf l d n = (true, addA (nmSL l) n)
  | [], d, n => by simp only [goSL, nmSL]; rfl
  | e :: l, d, n => by
    simp only [goSL, thenB, goS_rg e d n, if_true, goSL_rg l d, nmSL, addA_app]
end
theorem rgP_nodup {s : List UInt8} {n : List (List UInt8)} (h : n.Nodup) : (rgP s n).Nodup := by
  unfold rgP
  split
  · exact h
  · rename_i hc
    have hm : s ∉ n := by simpa using hc
    exact List.nodup_append.2 ⟨h, by simp, fun a ha b hb => by simp at hb; subst hb; exact fun e => hm (e ▸ ha)⟩
theorem addA_nodup : ∀ (l n : List (List UInt8)), n.Nodup → (addA l n).Nodup
  | [], n, h => h
  | s :: l, n, h => addA_nodup l (rgP s n) (rgP_nodup h)
theorem rgP_mem {s x : List UInt8} {n : List (List UInt8)} : x ∈ rgP s n ↔ x ∈ n ∨ x = s := by
  unfold rgP
  split
  · rename_i hc
    have hm : s ∈ n := by simpa using hc
    exact ⟨.inl, fun h => h.elim id (fun e => e ▸ hm)⟩
  · simp
theorem addA_mem {x : List UInt8} : ∀ {l n : List (List UInt8)}, x ∈ addA l n ↔ x ∈ n ∨ x ∈ l
  | [], n => by simp [addA]
  | s :: l, n => by
    have := addA_mem (x := x) (l := l) (n := rgP s n)
    rw [rgP_mem] at this
    show x ∈ addA l (rgP s n) ↔ _
    rw [this]; simp only [List.mem_cons]; exact or_assoc
theorem addA_len : ∀ (l n : List (List UInt8)), (addA l n).length ≤ n.length + l.length
  | [], n => by simp [addA]
  | s :: l, n => by
    have := addA_len l (rgP s n)
    have h2 : (rgP s n).length ≤ n.length + 1 := by unfold rgP; split <;> simp
    show (addA l (rgP s n)).length ≤ _
    simp only [List.length_cons]; omega
mutual
theorem nmE_len : ∀ e : Ex, (nmE e).length ≤ sizeE e
  | .mk o m s k => by
    have := nmL_len k
    simp only [nmE, sizeE, List.length_append]
    cases (o == 2 && !(s == [])) <;> simp <;> omega
theorem nmL_len : ∀ l : List Ex, (nmL l).length ≤ sizeL l
  | [] => by simp [nmL]
  | e :: l => by have := nmE_len e; have := nmL_len l; simp only [nmL, sizeL, List.length_append]; omega
end
mutual
theorem nmS_len : ∀ e : St, (nmS e).length ≤ sizeS e
  | .mk k n lc o x t e => by
    have := nmL_len x; have := nmSL_len t; have := nmSL_len e
    simp only [nmS, sizeS, List.length_append]
    cases (!(n == [])) <;> simp <;> omega
theorem nmSL_len : ∀ l : List St, (nmSL l).length ≤ sizeSL l
  | [] => by simp [nmSL]
  | e :: l => by have := nmS_len e; have := nmSL_len l; simp only [nmSL, sizeSL, List.length_append]; omega
end
mutual
theorem nmE_ok : ∀ {e : Ex}, okE e → ∀ x ∈ nmE e, x.length ≤ 9223372036854775807
  | .mk o m s k, h, x, hx => by
    have h1 := okE_kids h
    simp only [Ex.name, Ex.kids, okN] at h1
    simp only [nmE, List.mem_append] at hx
    rcases hx with hx | hx
    · cases hb : (o == 2 && !(s == [])) with
      | true => rw [hb] at hx; simp at hx; subst hx; exact h1.1.1
      | false => rw [hb] at hx; simp at hx
    · exact nmL_ok h1.2 x hx
theorem nmL_ok : ∀ {l : List Ex}, okL l → ∀ x ∈ nmL l, x.length ≤ 9223372036854775807
  | [], h, x, hx => by simp [nmL] at hx
  | e :: l, h, x, hx => by
    simp only [nmL, List.mem_append] at hx
    rcases hx with hx | hx
    · exact nmE_ok (okL_get h e (by simp)) x hx
    · exact nmL_ok (by simp only [okL] at h; exact h.2) x hx
end
mutual
theorem nmS_ok : ∀ {e : St}, okS e → ∀ x ∈ nmS e, x.length ≤ 9223372036854775807
  | .mk k n lc o ex t e, h, x, hx => by
    obtain ⟨k1, k2, k3, k4, k5, k6, k7, k8⟩ := okS_parts h
    simp only [St.name, St.exprs, St.thn, St.els] at *
    simp only [nmS, List.mem_append] at hx
    rcases hx with hx | hx | hx | hx
    · cases hb : (!(n == [])) with
      | true => rw [hb] at hx; simp at hx; subst hx; exact k1
      | false => rw [hb] at hx; simp at hx
    · exact nmL_ok k6 x hx
    · exact nmSL_ok k7 x hx
    · exact nmSL_ok k8 x hx
theorem nmSL_ok : ∀ {l : List St}, okSL l → ∀ x ∈ nmSL l, x.length ≤ 9223372036854775807
  | [], h, x, hx => by simp [nmSL] at hx
  | e :: l, h, x, hx => by
    simp only [nmSL, List.mem_append] at hx
    rcases hx with hx | hx
    · exact nmS_ok (okSL_get h e (by simp)) x hx
    · exact nmSL_ok (by simp only [okSL] at h; exact h.2) x hx
end
theorem strsE_rg : ∀ (n : List (List UInt8)) (i : Nat), strsE (rgE i n) = some n
  | [], i => rfl
  | x :: n, i => by simp only [rgE, strsE, strsE_rg n (i + 1)]
theorem born_rg : ∀ (n : List (List UInt8)) (i : Nat), (rgE i n).map (·.2.2) = (List.range' i n.length)
  | [], i => rfl
  | x :: n, i => by simp only [rgE, List.map_cons, born_rg n (i + 1), List.length_cons, List.range'_succ]
theorem rg_keys {n : List (List UInt8)} (h1 : n.Nodup) (h2 : ∀ x ∈ n, x.length ≤ 9223372036854775807) (h3 : n.length ≤ 1000000) : okKeys n (rgE 0 n) n.length = true := by
  unfold okKeys
  simp only [born_rg, Bool.and_eq_true, decide_eq_true_eq]
  refine ⟨h1, h2, List.nodup_range', ?_, by simpa using h3⟩
  rw [List.all_eq_true]
  intro b hb
  have := List.mem_range'_1.1 hb
  simp only [decide_eq_true_eq]; omega
end Go.Proofs.YtcbjhdklbhlmhaaDoor.lex
end

/-
  Registers: the document's lists of them.
-/
section
set_option linter.unusedVariables false
set_option linter.unusedSimpArgs false
namespace Go.Proofs.YtcbjhdklbhlmhaaDoor.lex
open Go.Abs Go.RowKit
set_option maxRecDepth 100000
set_option maxHeartbeats 4000000
variable {gl : Glob}
def strC (l : List (List UInt8)) : List AV := l.map AV.str
theorem strC_len (l : List (List UInt8)) : (strC l).length = l.length * 1 := by simp [strC]
theorem strC_cons (x : List UInt8) (l : List (List UInt8)) : (strC (x :: l)).length = (l.length + 1) * 1 := by simp [strC]
theorem strC_app (a b : List (List UInt8)) : strC (a ++ b) = strC a ++ strC b := by simp [strC]
theorem strC_lit : ∀ l : List (List UInt8), (strC l).all lit = true
  | [] => rfl
  | x :: l => strC_lit l
theorem strC_refs (l : List (List UInt8)) : refsL (strC l) [] = [] := strs_refs l []
theorem nmL_take : ∀ (l : List Ex) (i : Nat) (h : i < l.length), nmL (l.take (i + 1)) = nmL (l.take i) ++ nmE l[i]
  | e :: l, 0, h => by simp [nmL]
  | e :: l, i + 1, h => by
    have := nmL_take l i (by simpa using h)
    simp only [List.take_succ_cons, nmL, List.getElem_cons_succ] at this ⊢
    rw [this, List.append_assoc]
theorem nmL_take_len (l : List Ex) (i : Nat) : (nmL (l.take i)).length ≤ (nmL l).length := by
  have h : nmL l = nmL (l.take i) ++ nmL (l.drop i) := by
    have hg : ∀ a b : List Ex, nmL (a ++ b) = nmL a ++ nmL b := by
      intro a b
      induction a with
      | nil => rfl
      | cons x a ih => simp only [List.cons_append, nmL, ih, List.append_assoc]
    rw [← hg, List.take_append_drop]
  rw [h, List.length_append]; omega
end Go.Proofs.YtcbjhdklbhlmhaaDoor.lex
end

/-
  Lists of numbers.
-/
section
set_option linter.unusedVariables false
set_option linter.unusedSimpArgs false
namespace Go.Proofs.YtcbjhdklbhlmhaaDoor.lex
open Go.Abs Go.RowKit
set_option maxRecDepth 100000
def ksC (n : List Int) : List AV := n.map (AV.int .i64)
theorem ksC_len (s : List Int) : (ksC s).length = s.length := by simp [ksC]
theorem getD_at {s : List Int} {j : Nat} (h : j < s.length) : s.getD j 0 = s[j] := by rw [List.getD_eq_getElem?_getD, List.getElem?_eq_getElem h]; rfl
theorem ksC_at (s : List Int) (j : Nat) (h : j < s.length) : tk 1 ((ksC s).drop (0 + j * 1)) = some [.int .i64 (s.getD j 0)] := by
  have := tk1_map (AV.int .i64) s j h (off := 0 + j * 1) (by omega)
  rw [getD_at h]; exact this
theorem spl1 : ∀ (cs : List AV) (k : Nat) (v : AV), k < cs.length → spl cs k [v] = some (cs.set k v)
  | c :: cs, 0, v, h => by cases cs <;> rfl
  | c :: cs, k + 1, v, h => by simp only [spl, spl1 cs k v (by simpa using h)]; rfl
theorem ksC_set (s : List Int) (j : Nat) (v : Int) (h : j < s.length) : spl (ksC s) (0 + j * 1) [.int .i64 v] = some (ksC (s.set j v)) := by
  rw [show 0 + j * 1 = j by omega, spl1 _ _ _ (by rw [ksC_len]; exact h)]
  unfold ksC; rw [List.map_set]
theorem ksC_inj : ∀ {a b : List Int}, ksC a = ksC b → a = b
  | [], [], _ => rfl
  | [], _ :: _, h => by simp [ksC] at h
  | _ :: _, [], h => by simp [ksC] at h
  | x :: a, y :: b, h => by
    simp only [ksC, List.map_cons, List.cons.injEq, AV.int.injEq, true_and] at h
    rw [h.1, ksC_inj (a := a) (b := b) h.2]
theorem ksC_refs : ∀ (n : List Int), refsL (ksC n) [] = []
  | [] => rfl
  | c :: n => ksC_refs n
theorem ksC_cons (c : Int) (n : List Int) : (ksC (c :: n)).length = (n.length + 1) * 1 := by simp [ksC]
theorem ksC_lit : ∀ n : List Int, (ksC n).all lit = true
  | [] => rfl
  | c :: n => ksC_lit n
theorem ksC_one : ∀ n, (ksC n).all Go.Abs.one = true
  | [] => rfl
  | c :: n => by simp only [ksC, List.map_cons, List.all_cons]; exact ksC_one n
end Go.Proofs.YtcbjhdklbhlmhaaDoor.lex
end

/-
  A map of registers: made, looked into (functions by their names).
-/
section
set_option linter.unusedVariables false
set_option linter.unusedSimpArgs false
namespace Go.Proofs.YtcbjhdklbhlmhaaDoor.lex
open Go.Abs Go.RowKit
set_option maxRecDepth 100000
set_option maxHeartbeats 4000000
variable {gl : Glob}
def mapO (f : Nat) (n : List (List UInt8 × Int)) : AObj := ⟨true, f, 0, .map (mpE 0 n) n.length⟩
def mapH (n : List (List UInt8 × Int)) : AHeap := [mapO 0 n]
theorem mp_ge (m : List Nat) : ∀ (n : List (List UInt8 × Int)) (i : Nat), EGe m (mpE i n) (mpE i n)
  | [], i => trivial
  | (s, v) :: n, i => ⟨Wk.noref rfl, Wk.noref rfl, rfl, mp_ge m n (i + 1)⟩
theorem mp_refs : ∀ (n : List (List UInt8 × Int)) (i c : Nat), refsB (.map (mpE i n) c) [] = []
  | [], i, c => rfl
  | (s, v) :: n, i, c => mp_refs n (i + 1) c
theorem mp_ren (f : Nat → Nat) : ∀ (n : List (List UInt8 × Int)) (i : Nat), renE f (mpE i n) = mpE i n
  | [], i => rfl
  | (s, v) :: n, i => by simp only [mpE, renE, mp_ren f n (i + 1)]; rfl
theorem mp_noRO : ∀ (n : List (List UInt8 × Int)) (i : Nat), noROE (mpE i n) = true
  | [], i => rfl
  | (s, v) :: n, i => by simp only [mpE, noROE, mp_noRO n (i + 1)]; rfl
theorem mp_inj : ∀ {a b : List (List UInt8 × Int)} {i : Nat}, mpE i a = mpE i b → a = b
  | [], [], _, _ => rfl
  | [], (_, _) :: _, _, h => by simp [mpE] at h
  | (_, _) :: _, [], _, h => by simp [mpE] at h
  | (s, v) :: a, (s', v') :: b, i, h => by
    simp only [mpE, List.cons.injEq, Prod.mk.injEq, AV.str.injEq, AV.int.injEq, and_true, true_and] at h
    obtain ⟨⟨rfl, rfl⟩, h⟩ := h
    rw [mp_inj h]
theorem mapH_evo (n : List (List UInt8 × Int)) : evoB 1 (mapH n) (mapH n) = true := by
  simp only [mapH, mapO, evoB, mp_refs]; rfl
theorem keyR : keyDesc Tryd.prog 31 = some (.string, 2) := by kernel_rfl
theorem zeroR : tzero Tryd.prog 2 = some (.int .i64 0) := by kernel_rfl
theorem mp_put (s : List UInt8) (v : Int) (n : List (List UInt8 × Int)) : aMapSet Tryd.prog 31 (.map 0) (.str s) (.int .i64 v) (mapH n) = some (mapH (putR s v n)) := by
  have hw : wkil 0 0 (mapH n) = mapH n := wkil_lone (o := mapO 0 n) rfl rfl
  unfold aMapSet
  simp only [keyR]
  have h0 : (mapH n)[0]? = some ⟨true, 0, 0, .map (mpE 0 n) n.length⟩ := rfl
  simp only [h0, hw]
  cases h : getR s n with
  | none =>
    rw [mp_none s n 0 0 h, putR_none s v n h]
    simp only [mapH, mapO, mp_app, List.set_cons_zero, Nat.zero_add, List.length_append, List.length_cons, List.length_nil]
  | some w =>
    obtain ⟨k, h1, h2⟩ := mp_some s w n 0 0 h
    rw [h1]
    simp only [Nat.zero_add, h2]
    simp only [mapH, mapO, List.set_cons_zero, putR_len s v n h]
/-- Is it there, and what. -/
theorem mp_look2 {H : AHeap} {f c : Nat} (s : List UInt8) (n : List (List UInt8 × Int)) (hH : H[0]? = some ⟨true, f, 0, .map (mpE 0 n) c⟩) : aLookup Tryd.prog 31 (.map 0) (.str s) true H = some (.tuple [.int .i64 (regR n s), .bool (getR s n).isSome]) := by
  unfold aLookup
  simp only [keyR, mapEs, mapObj, hH]
  cases h : getR s n with
  | none => rw [mp_none s n 0 0 h]; simp only [zeroR, regR, h]; rfl
  | some w =>
    obtain ⟨k, h1, _⟩ := mp_some s w n 0 0 h
    rw [h1]; simp only [regR, h]; rfl
theorem mp_look1 {H : AHeap} {f c : Nat} (s : List UInt8) (n : List (List UInt8 × Int)) (hH : H[0]? = some ⟨true, f, 0, .map (mpE 0 n) c⟩) : aLookup Tryd.prog 31 (.map 0) (.str s) false H = some (.int .i64 (regR n s)) := by
  unfold aLookup
  simp only [keyR, mapEs, mapObj, hH]
  cases h : getR s n with
  | none => rw [mp_none s n 0 0 h]; simp only [zeroR, regR, h]; rfl
  | some w =>
    obtain ⟨k, h1, _⟩ := mp_some s w n 0 0 h
    rw [h1]; simp only [regR, h]; rfl
/-- The registers by name. -/
def regsZ (names : List (List UInt8)) (l : List Int) (i : Nat) : List (List UInt8 × Int) := ((names.zip l).take i).foldl (fun n p => putR p.1 p.2 n) []
theorem regsZ_next (names : List (List UInt8)) (l : List Int) (i : Nat) (h1 : i < names.length) (h2 : i < l.length) : regsZ names l (i + 1) = putR names[i] l[i] (regsZ names l i) := by
  have h : i < (names.zip l).length := by simp; omega
  unfold regsZ
  rw [List.take_succ_eq_append_getElem h, List.foldl_append, List.getElem_zip]; rfl
def regsN (names : List (List UInt8)) (l : List Int) : List (List UInt8 × Int) := regsZ names l (min (min names.length l.length) 100)
theorem registers_ok (names : List (List UInt8)) (l : List Int) : NewOK Tryd.prog gl 7 [rsK names, .rs l.length 1 (ksC l)] (.map 0) (mapH (regsN names l)) := by
  unfold regsN
  rw [show rsK names = .rs names.length 1 (strC names) from rfl]
  refine fn_new follows noNum none_sound Tryd.func7 rfl (cw0_ok _ _) ?_
  repeat' ((conv => whnf); first | refine stp ?_ | with_reducible refine condB (fun h => ?_) (fun h => ?_))
  conv => whnf
  refine ⟨Nat, (fun i => i ≤ min (min names.length l.length) 100), (fun i => [(0, .rs names.length 1 (strC names)), (1, .rs l.length 1 (ksC l)), (5, .map 0), (6, .int .i64 i)]), (fun i => mapH (regsZ names l i)), (fun i => min (min names.length l.length) 100 - i), ⟨0, Nat.zero_le _, ?_⟩, ?_⟩
  · exact FgL.mk [0] rfl ⟨Wk.noref rfl, Wk.noref rfl, Wk.map rfl, Wk.int rfl, trivial⟩ ⟨⟨rfl, rfl, rfl, rfl, ⟨rfl, trivial⟩⟩, trivial⟩ rfl
  intro i hi
  dsimp only
  by_cases hlt : i < min (min names.length l.length) 100
  · have h1 : i < names.length := by omega
    have h2 : i < l.length := by omega
    have e1 : decide ((i : Int) < (names.length : Int)) = true := by simpa using h1
    have e2 : decide ((i : Int) < (l.length : Int)) = true := by simpa using h2
    have e3 : decide ((i : Int) < 100) = true := by simp; omega
    have hx := tk1_map AV.str names i h1 (off := i * 1) (by omega)
    have hy := tk1_map (AV.int .i64) l i h2 (off := i * 1) (by omega)
    have hnx := regsZ_next names l i h1 h2
    have hset := mp_put names[i] l[i] (regsZ names l i)
    generalize regsZ names l i = n at *
    generalize names[i] = s at *
    generalize l[i] = v at *
    simp only [mapH, mapO] at hset ⊢
    unfold strC ksC
    repeat' ((conv => whnf); first | (with_reducible refine ixJ i rfl ?_ ?_; (focus (omega))) | (refine exI hx ?_) | (refine exI hy ?_) | (refine exI hset ?_) | (first | refine stp ?_ | with_reducible refine condB (fun h => ?_) (fun h => ?_)))
    conv => whnf
    refine ⟨i + 1, hlt, by show min (min names.length l.length) 100 - (i + 1) < min (min names.length l.length) 100 - i; omega, ?_⟩
    rw [hnx]
    exact FgL.mk [0] rfl ⟨Wk.noref rfl, Wk.noref rfl, Wk.map rfl, Wk.int rfl, trivial⟩ ⟨⟨rfl, rfl, rfl, rfl, ⟨rfl, mp_ge _ _ _⟩⟩, trivial⟩ rfl
  · have hi2 : i = min (min names.length l.length) 100 := by have := hi; omega
    generalize hM : min (min names.length l.length) 100 = M at *
    subst hi2
    by_cases h1 : i < names.length
    · have e1 : decide ((i : Int) < (names.length : Int)) = true := by simpa using h1
      by_cases h2 : i < l.length
      · have e2 : decide ((i : Int) < (l.length : Int)) = true := by simpa using h2
        have e3 : decide ((i : Int) < 100) = false := by simp; omega
        repeat' ((conv => whnf); first | refine stp ?_ | with_reducible refine condB (fun h => ?_) (fun h => ?_))
        conv => whnf
        exact ⟨[0], ⟨⟨rfl, rfl, rfl, rfl, ⟨rfl, mp_ge _ _ _⟩⟩, trivial⟩, rfl, Wk.map rfl⟩
      · have e2 : decide ((i : Int) < (l.length : Int)) = false := by simpa using h2
        repeat' ((conv => whnf); first | refine stp ?_ | with_reducible refine condB (fun h => ?_) (fun h => ?_))
        conv => whnf
        exact ⟨[0], ⟨⟨rfl, rfl, rfl, rfl, ⟨rfl, mp_ge _ _ _⟩⟩, trivial⟩, rfl, Wk.map rfl⟩
    · have e1 : decide ((i : Int) < (names.length : Int)) = false := by simpa using h1
      repeat' ((conv => whnf); first | refine stp ?_ | with_reducible refine condB (fun h => ?_) (fun h => ?_))
      conv => whnf
      exact ⟨[0], ⟨⟨rfl, rfl, rfl, rfl, ⟨rfl, mp_ge _ _ _⟩⟩, trivial⟩, rfl, Wk.map rfl⟩
end Go.Proofs.YtcbjhdklbhlmhaaDoor.lex
end

/-
  Lists made of a symbolic length; what is handed back frozen.
-/
section
set_option linter.unusedVariables false
set_option linter.unusedSimpArgs false
namespace Go.Proofs.YtcbjhdklbhlmhaaDoor.lex
open Go.Abs Go.RowKit
set_option maxRecDepth 100000
set_option maxHeartbeats 4000000
variable {gl : Glob}
theorem ms_okG {P : Program} {t e : TypeId} {z b : Nat} {u : AV} {H : AHeap} (ht : P.underlying t = some (.slice e)) (hz : tsz P e = some z) (hb : (P.info? e).map (·.bytes) = some b) (hu : tzero P e = some u) (hul : u.cells.length = z) (hz0 : z ≠ 0) (n : Nat)
    (h : n ≤ 1099511627776) (h2 : b * n ≤ 140737488355328) : aMakeSlice P t (.int .i64 n) (.int .i64 n) H = some (.slice H.length 0 n n z, newBlk H (repl n u.cells) e) := by
  cases hi : P.info? e with
  | none => rw [hi] at hb; cases hb
  | some i =>
    rw [hi] at hb
    simp only [Option.map_some, Option.some.injEq] at hb
    have h2' : (b : Int) * (n : Int) ≤ 140737488355328 := by
      have : ((b * n : Nat) : Int) ≤ ((140737488355328 : Nat) : Int) := Int.ofNat_le.2 h2
      simpa using this
    simp only [aMakeSlice, msCore, ht, hz, hi, hb, hu]
    rw [if_pos ⟨by omega, by omega, by omega, h2'⟩]
    try simp only [Int.toNat_natCast]
    by_cases hn : n = 0
    · subst hn; simp [repl, newBlk]
    · have h0 : ¬ (n * z = 0) := fun e => by rcases Nat.mul_eq_zero.1 e with e | e; exact hn e; exact hz0 e
      rw [if_neg h0, if_pos hul]
theorem splN : ∀ (a b c vs : List AV), b.length = vs.length → spl (a ++ (b ++ c)) a.length vs = some (a ++ (vs ++ c))
  | [], [], c, [], _ => by cases c <;> rfl
  | [], x :: b, c, v :: vs, h => by
    have := splN [] b c vs (by simpa using h)
    simp only [List.nil_append, List.length_nil] at this
    simp only [List.nil_append, List.length_nil, List.cons_append, spl, this]
  | x :: a, b, c, vs, h => by
    have := splN a b c vs h
    simp only [List.cons_append, List.length_cons, spl, this]
  | [], [], c, _ :: _, h => by simp at h
  | [], _ :: _, c, [], h => by simp at h
def flat1 : AV → Bool
  | .bool _ => true
  | .int _ _ => true
  | .str _ => true
  | .rs _ _ _ => true
  | _ => false
theorem frz_flat {H : AHeap} {n : Nat} : ∀ {u : AV}, flat1 u = true → frz H (n + 1) u = some u
  | .bool _, _ => rfl
  | .int _ _, _ => rfl
  | .str _, _ => rfl
  | .rs _ _ _, _ => rfl
theorem frzL_flat {H : AHeap} {n : Nat} : ∀ {cs : List AV}, cs.all flat1 = true → frzL (frz H (n + 1)) cs = some cs
  | [], _ => rfl
  | c :: cs, h => by
    simp only [List.all_cons, Bool.and_eq_true] at h
    simp only [frzL, frz_flat h.1, frzL_flat h.2]
theorem frz_sliceF {H : AHeap} {n b f sh len cap z : Nat} {cs : List AV} {ty : TypeId} (hH : H[b]? = some ⟨true, f, sh, .cells cs ty⟩) (hc : cs.length = len * z) (hl : cs.all flat1 = true) : frz H (n + 2) (.slice b 0 len cap z) = some (.rs len z cs) := by
  cases len with
  | zero =>
    have : cs = [] := List.eq_nil_of_length_eq_zero (by omega)
    subst this; rfl
  | succ m =>
    have h2 : frzL (frz H (n + 1)) cs = some cs := frzL_flat hl
    unfold frz
    simp only [hH, List.drop_zero, tk_all hc]
    rw [h2]
def flat2 : AV → Bool
  | .bool _ => true
  | .int _ _ => true
  | .str _ => true
  | .rs _ _ _ => true
  | .nslice => true
  | _ => false
theorem refs_flat : ∀ {u : AV} {acc : List Nat}, flat2 u = true → refs u acc = acc
  | .bool _, _, _ => by simp only [refs]
  | .int _ _, _, _ => by simp only [refs]
  | .str _, _, _ => by simp only [refs]
  | .rs _ _ _, _, _ => by simp only [refs]
  | .nslice, _, _ => by simp only [refs]
theorem refsL_flat : ∀ {l : List AV} {acc : List Nat}, l.all flat2 = true → refsL l acc = acc
  | [], _, _ => by simp only [refsL]
  | c :: l, acc, h => by
    simp only [List.all_cons, Bool.and_eq_true] at h
    simp only [refsL, refs_flat h.1, refsL_flat h.2]
theorem flat12 : ∀ {l : List AV}, l.all flat1 = true → l.all flat2 = true := by
  intro l h
  rw [List.all_eq_true] at h ⊢
  intro u hu
  have := h u hu
  cases u <;> simp_all [flat1, flat2]
theorem repl_flat (z : List AV) (hz : z.all flat2 = true) : ∀ n, (repl n z).all flat2 = true
  | 0 => rfl
  | n + 1 => by simp only [repl, List.all_append, hz, repl_flat z hz n, Bool.and_true]
end Go.Proofs.YtcbjhdklbhlmhaaDoor.lex
end

/-
  Expressions, as they are filled in.
-/
section
set_option linter.unusedVariables false
set_option linter.unusedSimpArgs false
namespace Go.Proofs.YtcbjhdklbhlmhaaDoor.lex
open Go.Abs Go.RowKit
set_option maxRecDepth 100000
set_option maxHeartbeats 4000000
variable {gl : Glob}
/-- Without blocks, and frozen already. -/
theorem exC_flat : ∀ l : List Ex, (exC l).all flat1 = true
  | [] => by simp only [exC]; rfl
  | .mk o n s k :: l => by simp only [exC, Ex.cells, List.all_append, exC_flat l, Bool.and_true]; rfl
/-- What is made, so far. -/
def exAt (l : List Ex) (i : Nat) : List AV := exC (l.take i) ++ repl (l.length - i) [.int .i64 0, .int .i64 0, .str [], .nslice]
theorem exAt_split (l : List Ex) (i : Nat) (h : i < l.length) : exAt l i = exC (l.take i) ++ ([.int .i64 0, .int .i64 0, .str [], .nslice] ++ repl (l.length - (i + 1)) [.int .i64 0, .int .i64 0, .str [], .nslice]) := by
  have e : l.length - i = (l.length - (i + 1)) + 1 := by omega
  unfold exAt; rw [e]; rfl
theorem exAt_next (l : List Ex) (i : Nat) (h : i < l.length) : exC (l.take i) ++ (l[i].cells ++ repl (l.length - (i + 1)) [.int .i64 0, .int .i64 0, .str [], .nslice]) = exAt l (i + 1) := by
  unfold exAt
  rw [List.take_add_one, exC_app, List.getElem?_eq_getElem h]
  simp only [Option.toList_some, exC, List.append_nil, List.append_assoc]
theorem exAt_set (l : List Ex) (i k : Nat) (h : i < l.length) (hk : k = i * 4) : spl (exAt l i) k l[i].cells = some (exAt l (i + 1)) := by
  have hl : (exC (l.take i)).length = i * 4 := by rw [exC_len, List.length_take, Nat.min_eq_left (by omega)]
  rw [exAt_split l i h, hk, ← hl, splN _ _ _ _ (by rw [cells_len]; rfl), exAt_next l i h]
theorem exAt_zero (l : List Ex) : exAt l 0 = repl l.length [.int .i64 0, .int .i64 0, .str [], .nslice] := by simp only [exAt, List.take_zero, exC, List.nil_append, Nat.sub_zero]
theorem exAt_all (l : List Ex) : exAt l l.length = exC l := by simp only [exAt, List.take_length, Nat.sub_self, repl, List.append_nil]
theorem exAt_refs (l : List Ex) (i : Nat) : refsL (exAt l i) [] = [] := by
  refine refsL_flat ?_
  unfold exAt
  rw [List.all_append, flat12 (exC_flat _), repl_flat _ rfl, Bool.and_true]
theorem exAt_len (l : List Ex) (i : Nat) (h : i ≤ l.length) : (exAt l i).length = l.length * 4 := by
  have hr : ∀ n, (repl n [AV.int .i64 0, .int .i64 0, .str [], .nslice]).length = n * 4 := by
    intro n
    induction n with
    | zero => rfl
    | succ n ih => simp only [repl, List.length_append, ih, List.length_cons, List.length_nil]; omega
  unfold exAt
  rw [List.length_append, exC_len, hr, List.length_take, Nat.min_eq_left h]; omega
theorem mkE_ok (n : Nat) (h : n ≤ 1048576) (H : AHeap) : aMakeSlice Tryd.prog 22 (.int .i64 n) (.int .i64 n) H = some (.slice H.length 0 n n 4, newBlk H (repl n [.int .i64 0, .int .i64 0, .str [], .nslice]) 24) := by
  have hz : tsz Tryd.prog 24 = some 4 := by kernel_rfl
  have hb : (Tryd.prog.info? 24).map (·.bytes) = some 56 := by kernel_rfl
  have hu : tzero Tryd.prog 24 = some (.agg [.int .i64 0, .int .i64 0, .str [], .nslice]) := by kernel_rfl
  exact ms_okG Tryd.underlying22 hz hb hu rfl (by decide) n (by omega) (by omega)
end Go.Proofs.YtcbjhdklbhlmhaaDoor.lex
end

/-
  Expressions reckoned: the program's eval, the document's, with a map of registers.
-/
section
set_option linter.unusedVariables false
set_option linter.unusedSimpArgs false
namespace Go.Proofs.YtcbjhdklbhlmhaaDoor.lex
open Go.Abs Go.RowKit
set_option maxRecDepth 100000
set_option maxHeartbeats 4000000
variable {gl : Glob}
theorem orcZ_none {F : Nat → List AV → Option AV} {g : Nat} {args : List AV} {H : AHeap} (h : ∀ fa, F g fa = none) : orcZ F g args H = none := by
  unfold orcZ
  split
  · rename_i fa _; simp only [h]
  · rfl
/-- What of a list is reckoned so far. -/
def evAt (n i : Nat) (l : List Int) : List AV := ksC (l.take i) ++ repl (n - i) [.int .i64 0]
theorem evAt_len (l : List Int) (i : Nat) (h : i ≤ l.length) : (evAt l.length i l).length = l.length * 1 := by
  have hr : ∀ n, (repl n [AV.int .i64 0]).length = n := by intro n; induction n with | zero => rfl | succ n ih => simp only [repl, List.length_append, ih, List.length_cons, List.length_nil]; omega
  unfold evAt
  rw [List.length_append, hr, ksC_len, List.length_take, Nat.min_eq_left h]; omega
theorem evAt_zero (l : List Int) : evAt l.length 0 l = repl l.length [.int .i64 0] := by simp [evAt, ksC]
theorem evAt_all (l : List Int) : evAt l.length l.length l = ksC l := by simp [evAt, repl]
theorem evAt_set (l : List Int) (i k : Nat) (h : i < l.length) (hk : k = i * 1) : spl (evAt l.length i l) k [.int .i64 l[i]] = some (evAt l.length (i + 1) l) := by
  have h1 : evAt l.length i l = ksC (l.take i) ++ ([.int .i64 0] ++ repl (l.length - (i + 1)) [.int .i64 0]) := by
    unfold evAt; rw [show l.length - i = (l.length - (i + 1)) + 1 by omega]; rfl
  have h2 : evAt l.length (i + 1) l = ksC (l.take i) ++ ([.int .i64 l[i]] ++ repl (l.length - (i + 1)) [.int .i64 0]) := by
    unfold evAt ksC
    rw [List.take_succ_eq_append_getElem h, List.map_append, List.append_assoc]; rfl
  have hl : k = (ksC (l.take i)).length := by rw [ksC_len, List.length_take, Nat.min_eq_left (by omega)]; omega
  rw [h1, h2, hl]
  exact splN _ _ _ _ rfl
theorem evAt_refs (l : List Int) (i : Nat) : refsL (evAt l.length i l) [] = [] := by
  have hr : ∀ n, refsL (repl n [AV.int .i64 0]) [] = [] := by intro n; induction n with | zero => rfl | succ n ih => exact ih
  have ha : ∀ (a b : List AV), refsL b [] = [] → a.all (fun u => match u with | .int _ _ => true | _ => false) = true → refsL (a ++ b) [] = [] := by
    intro a
    induction a with
    | nil => intro b hb _; exact hb
    | cons x a ih =>
      intro b hb h
      simp only [List.all_cons, Bool.and_eq_true] at h
      cases x <;> simp at h
      exact ih b hb (by simpa using h)
  unfold evAt
  refine ha _ _ (hr _) ?_
  unfold ksC
  rw [List.all_map]
  simp
theorem upd_tail (Hs : AHeap) : ∀ (l : AHeap) (i : Nat), 0 < i → updM [0] Hs i l = l
  | [], i, _ => rfl
  | o :: l, i, h => by
    have h1 : posN [0] i 0 = none := by
      cases i with
      | zero => omega
      | succ i => rfl
    simp only [updM, h1, upd_tail Hs l (i + 1) (by omega)]
/-- A function that looks into the map, called where there is more memory. -/
theorem evFrameG {f : Nat} {fargs cargs : List AV} {r : AV} {reg : List (List UInt8 × Int)} {rest : AHeap} (hM : MemOK Tryd.prog gl f fargs (mapH reg) r (mapH reg)) (ha : frzL (frzM [0] (kilM [0] (mapO 0 reg :: rest)) 30) cargs = some fargs)
    (hl : loneM [0] [0] 0 (mapO 0 reg :: rest) = true) (h1 : noRO r = true) (h2 : allLt 1 (refs r []) = true) (h3 : ren (fun b => ([0] : List Nat).getD b 0) r = r) : MemOK Tryd.prog gl f cargs (mapO 0 reg :: rest) r (mapO 0 reg :: rest) := by
  have h := mem_frame (m := [0]) (n := 30) (Hc := mapO 0 reg :: rest) hM ha ⟨⟨rfl, rfl, rfl, rfl, ⟨rfl, mp_ge _ _ _⟩⟩, trivial⟩ rfl hl (mapH_evo reg) (by simp only [mapH, mapO, noROH, noROB, mp_noRO]; rfl) h1 h2
  have e : updM [0] (mapH reg) 0 (mapO 0 reg :: rest) = mapO 0 reg :: rest := by
    have h1 : updM [0] (mapH reg) 0 (mapO 0 reg :: rest) = ⟨true, 0, 0, renB (fun b => ([0] : List Nat).getD b 0) (.map (mpE 0 reg) reg.length)⟩ :: updM [0] (mapH reg) 1 rest := rfl
    rw [h1, upd_tail _ _ _ (by omega)]
    simp only [renB, mp_ren]; rfl
  rw [e, h3] at h
  exact h
theorem evFrame {f : Nat} {fargs cargs : List AV} {n : Int} {reg : List (List UInt8 × Int)} {rest : AHeap} (hM : MemOK Tryd.prog gl f fargs (mapH reg) (.int .i64 n) (mapH reg)) (ha : frzL (frzM [0] (kilM [0] (mapO 0 reg :: rest)) 30) cargs = some fargs)
    (hl : loneM [0] [0] 0 (mapO 0 reg :: rest) = true) : MemOK Tryd.prog gl f cargs (mapO 0 reg :: rest) (.int .i64 n) (mapO 0 reg :: rest) := evFrameG hM ha hl rfl rfl rfl
/-- Such a function of one expression, wherever it is called. -/
def famMap {f : Nat} (hb : hasBody Tryd.prog f = true) (reg : List (List UInt8 × Int)) (e : Ex) (r : AV) (h1 : noRO r = true) (h2 : allLt 1 (refs r []) = true) (h3 : ren (fun b => ([0] : List Nat).getD b 0) r = r) (hM : MemOK Tryd.prog gl f [.agg e.cells, .map 0] (mapH reg) r (mapH reg)) : FamM Tryd.prog gl :=
  { I := AHeap, f := f, G := fun rest => loneM [0] [0] 0 (mapO 0 reg :: rest) = true, A := fun _ => [.agg e.cells, .map 0], H := fun rest => mapO 0 reg :: rest, R := fun _ => r, O := fun rest => mapO 0 reg :: rest, body := hb, inj := (fun _ _ _ _ _ h => ⟨rfl, h⟩), ok := (fun rest hr => evFrameG hM (by obtain ⟨a, b, c, d⟩ := e; rfl) hr h1 h2 h3) }
def evHp (reg : List (List UInt8 × Int)) (op num : Int) (name : List UInt8) (kids : List Ex) (i : Nat) : AHeap :=
  [mapO 0 reg, ⟨true, 1, 0, .cells [.int .i64 op, .int .i64 num, .str name, .rs kids.length 4 (exC kids)] 24⟩, ⟨true, 2, 0, .cells (evAt kids.length i (kids.map (evalE (regR reg)))) 2⟩]
theorem mkI_ok (n : Nat) (h : n ≤ 1048576) (H : AHeap) : aMakeSlice Tryd.prog 26 (.int .i64 n) (.int .i64 n) H = some (.slice H.length 0 n n 1, newBlk H (repl n [.int .i64 0]) 2) := by
  have hz : tsz Tryd.prog 2 = some 1 := by kernel_rfl
  have hb : (Tryd.prog.info? 2).map (·.bytes) = some 8 := by kernel_rfl
  have hu : tzero Tryd.prog 2 = some (.int .i64 0) := by kernel_rfl
  exact ms_okG Tryd.underlying26 hz hb hu rfl (by decide) n (by omega) (by omega)
theorem evalX_ok : ∀ (n : Nat) (e : Ex) (reg : List (List UInt8 × Int)), sizeE e ≤ n → okE e → sizeE e ≤ 1048576 → MemOK Tryd.prog gl 20 [.agg e.cells, .map 0] (mapH reg) (.int .i64 (evalE (regR reg) e)) (mapH reg)
  | n, .mk op num name kids, reg, h, hok, hs => by
    obtain ⟨O, hO, ⟨p1, -⟩, -⟩ := famsM (P := Tryd.prog) (gl := gl) [{ I := Ex × Nat, f := 20, G := fun x => sizeE x.1 < n ∧ okE x.1 ∧ sizeE x.1 ≤ 1048576, A := fun x => [.agg x.1.cells, .map 0], H := fun x => evHp reg op num name kids x.2 ++ [⟨true, 3, 0, .cells x.1.cells 24⟩], R := fun x => .int .i64 (evalE (regR reg) x.1), O := fun x => evHp reg op num name kids x.2 ++ [⟨true, 3, 0, .cells x.1.cells 24⟩], body := (by kernel_rfl), inj := (fun i j _ _ h1 h2 => ⟨by simp only [List.cons.injEq] at h1; rw [agg_inj (a := i.1) (b := j.1) (by rw [h1.1])], h2⟩), ok := (fun x hx => evFrame (match n, hx.1 with | n + 1, h => evalX_ok n x.1 reg (by omega) hx.2.1 hx.2.2) (by obtain ⟨⟨a, b, c, d⟩, i⟩ := x; rfl) rfl) }] [] rfl
    have hO2 := orcOr_sound (doF_sound (gl := gl)) hO
    have q1 : ∀ x i, sizeE x < n → okE x → sizeE x ≤ 1048576 → acall Tryd.prog (orcOr (orcZ doF) O) (evHp reg op num name kids i ++ [⟨true, 3, 0, .cells x.cells 24⟩]) 20 [.agg x.cells, .map 0] = some (.int .i64 (evalE (regR reg) x), evHp reg op num name kids i ++ [⟨true, 3, 0, .cells x.cells 24⟩]) := fun x i h1 h2 h3 => callOr2 (by kernel_rfl) (orcZ_none fun _ => rfl) (p1 (x, i) ⟨h1, h2, h3⟩)
    have hvl : (kids.map (evalE (regR reg))).length = kids.length := by simp
    have q2 : acall Tryd.prog (orcOr (orcZ doF) O) (evHp reg op num name kids kids.length) 13 [.int .i64 op, .slice 2 0 kids.length kids.length 1] = some (.tuple [.int .i64 (doI op (kids.map (evalE (regR reg)))).1, .int .i64 (doI op (kids.map (evalE (regR reg)))).2], evHp reg op num name kids kids.length) := by
      refine callOr1 (by kernel_rfl) (callZ (fa := [.int .i64 op, .rs kids.length 1 (ksC (kids.map (evalE (regR reg))))]) (by kernel_rfl) ?_ ?_)
      · have h1 : frz (evHp reg op num name kids kids.length) 30 (.slice 2 0 kids.length kids.length 1) = some (.rs kids.length 1 (ksC (kids.map (evalE (regR reg))))) := by
          refine frz_slice (b := 2) (f := 2) (sh := 0) (ty := 2) ?_ (by rw [ksC_len]; simp) (ksC_lit _)
          have := evAt_all (kids.map (evalE (regR reg)))
          rw [hvl] at this
          simp only [evHp, this]; rfl
        simp only [frzL, h1]; rfl
      · show (match intsOf (ksC (kids.map (evalE (regR reg)))) with | some l => _ | none => none) = _
        rw [show intsOf (ksC (kids.map (evalE (regR reg)))) = some (kids.map (evalE (regR reg))) from intsOf_map _]
    clear p1
    have hlen := sizeL_len kids
    simp only [sizeE] at h hs
    have hm := mkI_ok kids.length (by omega)
    simp only [evalE, evalL_map, Ex.cells, exA]
    generalize orcOr (orcZ doF) O = O2 at *
    refine fn_mem (k := 1) follows noNum hO2 rfl Tryd.func20 rfl (cw0_ok _ _) ?_
    have hlook := fun (H : AHeap) (f c : Nat) => mp_look2 (H := H) (f := f) (c := c) name reg
    have hev := mapH_evo reg
    have hki := okE_kids hok
    simp only [Ex.kids, Ex.name, okN] at hki
    cases ho1 : (op == 1) with
    | true =>
      rw [cond_true]
      repeat' ((conv => whnf); first | refine stp ?_ | with_reducible refine condB (fun h => ?_) (fun h => ?_))
      all_goals (conv => whnf)
      exact ⟨rfl, by rw [hev]; rfl⟩
    | false =>
      rw [cond_false]
      cases ho2 : (op == 2) with
      | true =>
        rw [cond_true]
        cases hg : (getR name reg).isSome with
        | true =>
          repeat' ((conv => whnf); first | (refine exI (hlook _ _ _ rfl) ?_) | (first | refine stp ?_ | with_reducible refine condB (fun h => ?_) (fun h => ?_)))
          all_goals (conv => whnf)
          exact ⟨rfl, by rw [hev]; rfl⟩
        | false =>
          have hr0 : regR reg name = 0 := by
            unfold regR
            cases hgr : getR name reg with
            | none => rfl
            | some w => rw [hgr] at hg; cases hg
          repeat' ((conv => whnf); first | (refine exI (hlook _ _ _ rfl) ?_) | (first | refine stp ?_ | with_reducible refine condB (fun h => ?_) (fun h => ?_)))
          all_goals (conv => whnf)
          rw [hr0]
          exact ⟨rfl, rfl, by rw [hev]; rfl⟩
      | false =>
        rw [cond_false]
        repeat' ((conv => whnf); first | (refine exI (hm _) ?_) | (first | refine stp ?_ | with_reducible refine condB (fun h => ?_) (fun h => ?_)))
        conv => whnf
        refine ⟨Nat, (fun i => i ≤ kids.length), (fun i => [(1, .map 0), (2, .ptr 1 0), (7, .slice 2 0 kids.length kids.length 1), (34, .rs kids.length 4 (exC kids)), (35, .int .i64 kids.length), (36, .int .i64 i)]), (fun i => evHp reg op num name kids i), (fun i => kids.length - i), ⟨0, Nat.zero_le _, ?_⟩, ?_⟩
        · refine FgLK.mk [0, 1, 2] rfl rfl ⟨Wk.map rfl, Wk.ptr rfl rfl, Wk.slice rfl rfl rfl (Nat.le_refl _) (Nat.le_refl _) rfl, Wk.noref rfl, Wk.int rfl, Wk.int rfl, trivial⟩ ⟨⟨rfl, rfl, rfl, rfl, ⟨rfl, mp_ge _ _ _⟩⟩, ⟨rfl, rfl, rfl, rfl, BodyGe.pre (rest := []) rfl rfl⟩, ⟨rfl, rfl, rfl, rfl, BodyGe.pre (rest := []) ?_ ?_⟩, trivial⟩ rfl
          · have := evAt_zero (kids.map (evalE (regR reg)))
            rw [hvl] at this
            rw [this]; simp
          · have := evAt_refs (kids.map (evalE (regR reg))) 0
            rw [hvl] at this; exact this
        intro i hi
        dsimp only
        by_cases hlt : i < kids.length
        · have e1 : decide ((i : Int) < (kids.length : Int)) = true := by simpa using hlt
          have hx := ex4 kids i hlt
          have hsz := sizeL_mem _ _ (get_mem hlt)
          have hsp := evAt_set (kids.map (evalE (regR reg))) i (0 + i * 1) (by rw [hvl]; exact hlt) (by omega)
          have hrf := evAt_refs (kids.map (evalE (regR reg))) (i + 1)
          simp only [List.length_map, List.getElem_map] at hsp hrf
          have q3 := q1 kids[i] i (by omega) (okL_get hki.2 _ (get_mem hlt)) (by omega)
          simp only [evHp] at q3 ⊢
          generalize hnx : evAt kids.length (i + 1) (kids.map (evalE (regR reg))) = nx at *
          generalize evAt kids.length i (kids.map (evalE (regR reg))) = cx at *
          generalize evalE (regR reg) kids[i] = v at *
          generalize kids[i] = x at *
          obtain ⟨xo, xn, xs, xk⟩ := x
          simp only [Ex.cells, mapO] at hx q3 ⊢
          clear q1 q2
          repeat' ((conv => whnf); first | (refine exI q3 ?_) | (with_reducible refine ixJ i rfl ?_ ?_; (focus (omega))) | (refine exI hx ?_) | (refine exI hsp ?_) | (first | refine stp ?_ | with_reducible refine condB (fun h => ?_) (fun h => ?_)))
          conv => whnf
          refine ⟨i + 1, hlt, by show kids.length - (i + 1) < kids.length - i; omega, ?_⟩
          rw [hnx]
          exact FgLK.mk [0, 1, 2] rfl rfl ⟨Wk.map rfl, Wk.ptr rfl rfl, Wk.slice rfl rfl rfl (Nat.le_refl _) (Nat.le_refl _) rfl, Wk.noref rfl, Wk.int rfl, Wk.int rfl, trivial⟩ ⟨⟨rfl, rfl, rfl, rfl, ⟨rfl, mp_ge _ _ _⟩⟩, ⟨rfl, rfl, rfl, rfl, BodyGe.pre (rest := []) rfl rfl⟩, ⟨rfl, rfl, rfl, rfl, BodyGe.pre (rest := []) (by simp) hrf⟩, trivial⟩ rfl
        · have e1 : decide ((i : Int) < (kids.length : Int)) = false := by simpa using hlt
          have hi2 : i = kids.length := by have := hi; omega
          subst hi2
          simp only [evHp, mapO] at q2 ⊢
          generalize evAt kids.length kids.length (kids.map (evalE (regR reg))) = cx at *
          generalize kids.map (evalE (regR reg)) = vals at *
          repeat' ((conv => whnf); first | (refine exI q2 ?_) | (first | refine stp ?_ | with_reducible refine condB (fun h => ?_) (fun h => ?_)))
          all_goals (conv => whnf)
          exact ⟨rfl, by rw [hev]; rfl⟩
end Go.Proofs.YtcbjhdklbhlmhaaDoor.lex
end

/-
  Expressions reckoned: the document's eval; Eval of both.
-/
section
set_option linter.unusedVariables false
set_option linter.unusedSimpArgs false
namespace Go.Proofs.YtcbjhdklbhlmhaaDoor.lex
open Go.Abs Go.RowKit
set_option maxRecDepth 100000
set_option maxHeartbeats 4000000
variable {gl : Glob}
def evalO (r : List UInt8 → Int) (e : Ex) : AV := if checkE e = 0 then .tuple [.int .i64 (evalE r e), .int .i64 0] else .tuple [.int .i64 0, .int .i64 (checkE e)]
theorem EvalX_ok (e : Ex) (reg : List (List UInt8 × Int)) (hok : okE e) (hs : sizeE e ≤ 1048576) : MemOK Tryd.prog runLives.gl 8 [.agg e.cells, .map 0] (mapH reg) (evalO (regR reg) e) (mapH reg) := by
  obtain ⟨O, hO, ⟨p1, -⟩, p2, -⟩ := famsM (P := Tryd.prog) (gl := runLives.gl) [famMap (f := 20) (by kernel_rfl) reg e (.int .i64 (evalE (regR reg) e)) rfl rfl rfl (evalX_ok _ e reg (Nat.le_refl _) hok hs)] [{ I := Unit, f := 19, G := fun _ => True, A := fun _ => [.agg e.cells], R := fun _ => .int .i64 (checkE e), body := (by kernel_rfl), inj := (fun _ _ _ _ _ => rfl), ok := (fun _ _ => ⟨ex_refs e, checkEX_ok e hok hs⟩) }] rfl
  have q1 : ∀ rest : AHeap, loneM [0] [0] 0 (mapO 0 reg :: rest) = true → acall Tryd.prog O (mapO 0 reg :: rest) 20 [.agg e.cells, .map 0] = some (.int .i64 (evalE (regR reg) e), mapO 0 reg :: rest) := p1
  have q2 : ∀ H, acall Tryd.prog O H 19 [.agg e.cells] = some (.int .i64 (checkE e), H) := p2 () trivial
  have hev := mapH_evo reg
  clear p1 p2
  unfold evalO
  generalize checkE e = c at *
  generalize evalE (regR reg) e = v at *
  obtain ⟨op, num, name, kids⟩ := e
  simp only [Ex.cells, mapH, mapO] at *
  by_cases hc : c = 0
  · subst hc
    rw [if_pos rfl]
    refine fn_mem (k := 1) follows noNum hO rfl Tryd.func8 rfl (cw0_ok _ _) ?_
    repeat' ((conv => whnf); first | (refine exI (q1 _ rfl) ?_) | (with_reducible refine exI (q2 _) ?_) | (first | refine stp ?_ | with_reducible refine condB (fun h => ?_) (fun h => ?_)))
    all_goals (conv => whnf)
    exact ⟨rfl, by rw [hev]; rfl⟩
  · rw [if_neg hc]
    have e1 : (c != 0) = true := bne_of (b := false) (by simpa using hc)
    refine fn_mem (k := 1) follows noNum hO rfl Tryd.func8 rfl (cw0_ok _ _) ?_
    repeat' ((conv => whnf); first | (refine exI (q1 _ rfl) ?_) | (with_reducible refine exI (q2 _) ?_) | (first | refine stp ?_ | with_reducible refine condB (fun h => ?_) (fun h => ?_)))
    all_goals (conv => whnf)
    exact ⟨rfl, by rw [hev]; rfl⟩
end Go.Proofs.YtcbjhdklbhlmhaaDoor.lex
end

/-
  Made simple: what is simple about two; the program's.
-/
section
set_option linter.unusedVariables false
set_option linter.unusedSimpArgs false
namespace Go.Proofs.YtcbjhdklbhlmhaaDoor.lex
open Go.Abs Go.RowKit
set_option maxRecDepth 100000
set_option maxHeartbeats 4000000
variable {gl : Glob}
/-- What is handed back may say more than is asked. -/
theorem fn_valW {P : Program} {gl : Glob} {orc : Orc} (hm : P.follows .mixedOrders = true) (hn : NoNum P) (hO : OrcSound P gl orc) {f : Nat} {fn : Func} {c : Code} {args : List AV} {r : AV} (hf : P.funcs[f]? = some fn) (hc : fn.body = some c)
    (h : frcTr (tmk (tini args fn.ntmps args.length) (tdep 20 fn.ntmps)) fun tm => wexec P gl orc (cw0 P orc) wloop c (finR P fn.results.toList fun r' => ∀ sn v, VR sn noI r' v → VR sn noI r v) (fun _ _ _ => False) (finR P fn.results.toList fun r' => ∀ sn v, VR sn noI r' v → VR sn noI r v) tm []) : ValOK P gl f args r :=
  fn_valX hm hn hO (fun _ h => h) hf hc (cw0_ok P orc) h
theorem fn_valWI {P : Program} {gl : Glob} {orc : Orc} (isC : Nat → Bool) (n : Nat) (hm : P.follows .mixedOrders = true) (hn : NoNum P) (hO : OrcSound P gl orc) {f : Nat} {fn : Func} {c : Code} {args : List AV} {r : AV} (hf : P.funcs[f]? = some fn) (hc : fn.body = some c)
    (h : frcTr (tmk (tini args fn.ntmps args.length) (tdep 20 fn.ntmps)) fun tm => wexec P gl (orcN P gl orc isC n) (wcall P gl orc isC n) wloop c (finR P fn.results.toList fun r' => ∀ sn v, VR sn noI r' v → VR sn noI r v) (fun _ _ _ => False) (finR P fn.results.toList fun r' => ∀ sn v, VR sn noI r' v → VR sn noI r v) tm []) : ValOK P gl f args r :=
  fn_valX hm hn (orcN_sound hm hn hO n) (fun _ h => h) hf hc (wcall_ok n) h
theorem nil4 {a b c : AV} {z : Nat} {sn : Snap} {v : Value} (h : VR sn noI (.agg [a, b, c, .nslice]) v) : VR sn noI (.agg [a, b, c, .rs 0 z []]) v := by
  simp only [VR, LR] at h ⊢
  obtain ⟨d, h1, d1, l1, e1, g1, d2, l2, e2, g2, d3, l3, e3, g3, d4, l4, e4, g4, g5⟩ := h
  exact ⟨d, h1, d1, l1, e1, g1, d2, l2, e2, g2, d3, l3, e3, g3, d4, l4, e4, .inl ⟨trivial, trivial, g4⟩, g5⟩
theorem isXp_ok (e : Ex) (n : Int) : ValOK Tryd.prog gl 53 [.agg e.cells, .int .i64 n] (.bool (isX e n)) := by
  obtain ⟨op, num, name, kids⟩ := e
  simp only [Ex.cells]
  refine fn_val follows noNum none_sound Tryd.func53 rfl ?_
  repeat' ((conv => whnf); first | refine stp ?_ | with_reducible refine condB (fun h => ?_) (fun h => ?_))
  all_goals (simp_all [resOf, isX, Ex.op, Ex.num])
theorem numXp_ok (v : Int) : ValOK Tryd.prog gl 36 [.int .i64 v] (.agg (numX v).cells) := by
  refine fn_valW follows noNum none_sound Tryd.func36 rfl ?_
  repeat' ((conv => whnf); first | refine stp ?_ | with_reducible refine condB (fun h => ?_) (fun h => ?_))
  all_goals exact fun _ _ h => nil4 h
theorem pair_refs (e : Ex) (n : Int) : refsL [.agg e.cells, .int .i64 n] [] = [] := by
  obtain ⟨op, num, name, kids⟩ := e; rfl
def famIs {g : Nat} (hb : hasBody Tryd.prog g = true) (h : ∀ e n, ValOK Tryd.prog gl g [.agg e.cells, .int .i64 n] (.bool (isX e n))) : Fam Tryd.prog gl :=
  { I := Ex × Int, f := g, G := fun _ => True, A := fun x => [.agg x.1.cells, .int .i64 x.2], R := fun x => .bool (isX x.1 x.2), body := hb, inj := (fun i j _ _ h => by
      simp only [List.cons.injEq, AV.int.injEq, and_true, true_and] at h
      rw [agg_inj (a := i.1) (b := j.1) (by rw [h.1]), h.2]), ok := (fun x _ => ⟨pair_refs x.1 x.2, h x.1 x.2⟩) }
theorem simpleTwo_ok (op : Int) (a b : Ex) (h5 : 5 ≤ op) (h16 : op ≤ 16) (ha : okE a) : ValOK Tryd.prog gl 37 [.int .i64 op, .agg a.cells, .agg b.cells] (.agg (twoS op a b).cells) := by
  obtain ⟨O, hO, p1, p2, p3, -⟩ := fams (P := Tryd.prog) (gl := gl) [famTwo (g := 52) (by kernel_rfl) (fun p => p = (a, b)) (fun p hp => by subst hp; exact sameX_ok _ a b (Nat.le_refl _) ha), famIs (g := 53) (by kernel_rfl) isXp_ok,
    { I := Int, f := 36, G := fun _ => True, A := fun v => [.int .i64 v], R := fun v => .agg (numX v).cells, body := (by kernel_rfl), inj := (fun i j _ _ h => by simp only [List.cons.injEq, AV.int.injEq, and_true, true_and] at h; rw [h]), ok := (fun v _ => ⟨rfl, numXp_ok v⟩) }] rfl
  have q1 : ∀ H, acall Tryd.prog O H 52 [.agg a.cells, .agg b.cells] = some (.bool (sameE a b), H) := p1 (a, b) rfl
  have qa : ∀ n H, acall Tryd.prog O H 53 [.agg a.cells, .int .i64 n] = some (.bool (isX a n), H) := fun n => p2 (a, n) trivial
  have qb : ∀ n H, acall Tryd.prog O H 53 [.agg b.cells, .int .i64 n] = some (.bool (isX b n), H) := fun n => p2 (b, n) trivial
  have qn : ∀ v H, acall Tryd.prog O H 36 [.int .i64 v] = some (.agg [.int .i64 1, .int .i64 v, .str [], .rs 0 4 []], H) := fun v => p3 v trivial
  clear p1 p2 p3
  have hT : ∀ op, (twoS op a b).cells = (twoS op a b).cells := fun _ => rfl
  have key : ∀ op : Int, twoS op a b =
    bif (op == 14 && isX b 0) || ((op == 15 && isX b 0) || ((op == 16 && isX b 1) || ((op == 11 && isX b 0) || (op == 12 && isX b 0)))) then a else
    bif (op == 14 && isX a 0) || ((op == 16 && isX a 1) || ((op == 11 && isX a 0) || (op == 12 && isX a 0))) then b else
    bif (op == 16 || op == 13) && (isX b 0 || isX a 0) then numX 0 else
    bif !(sameE a b) then .mk op 0 [] [a, b] else
    bif op == 7 || op == 10 then numX 1 else
    bif op == 8 || (op == 9 || (op == 12 || op == 15)) then numX 0 else .mk op 0 [] [a, b] := fun _ => rfl
  have qa0 := qa 0
  have qa1 := qa 1
  have qb0 := qb 0
  have qb1 := qb 1
  rw [key]
  clear key hT qa qb
  generalize isX a 0 = a0 at *
  generalize isX a 1 = a1 at *
  generalize isX b 0 = b0 at *
  generalize isX b 1 = b1 at *
  generalize sameE a b = sm at *
  clear ha
  obtain ⟨ao, an, as1, ak⟩ := a
  obtain ⟨bo, bn, bs, bk⟩ := b
  simp only [Ex.cells] at qa0 qa1 qb0 qb1 q1 ⊢
  have hop : op = 5 ∨ op = 6 ∨ op = 7 ∨ op = 8 ∨ op = 9 ∨ op = 10 ∨ op = 11 ∨ op = 12 ∨ op = 13 ∨ op = 14 ∨ op = 15 ∨ op = 16 := by omega
  clear h5 h16
  rcases hop with rfl | rfl | rfl | rfl | rfl | rfl | rfl | rfl | rfl | rfl | rfl | rfl
  all_goals
    refine fn_valW follows noNum hO Tryd.func37 rfl ?_
    repeat' ((conv => whnf); first | (with_reducible refine exI (q1 _) ?_) | (with_reducible refine exI (qa0 _) ?_) | (with_reducible refine exI (qa1 _) ?_) | (with_reducible refine exI (qb0 _) ?_) | (with_reducible refine exI (qb1 _) ?_) | (with_reducible refine exI (qn _ _) ?_) | (first | refine stp ?_ | with_reducible refine condB (fun h => ?_) (fun h => ?_)))
  all_goals clear q1 qa0 qa1 qb0 qb1 qn hO
  all_goals (subst_vars; intro sn v hv; first | exact hv | (revert hv; simp [numX, Ex.cells, exC, exA]; done))
end Go.Proofs.YtcbjhdklbhlmhaaDoor.lex
end

/-
  What is made simple is right, and no greater (plain laws).
-/
section
set_option linter.unusedVariables false
set_option linter.unusedSimpArgs false
namespace Go.Proofs.YtcbjhdklbhlmhaaDoor.lex
open Go.Abs Go.RowKit
set_option maxRecDepth 100000
set_option maxHeartbeats 4000000
/-- Right, in range, of lengths that may be. -/
def goodE (e : Ex) : Prop := rightE e = true ∧ inE e ∧ okE e
theorem rightL_iff : ∀ {l : List Ex}, rightL l = true ↔ ∀ e ∈ l, rightE e = true
  | [] => by simp [rightL]
  | e :: l => by simp only [rightL, Bool.and_eq_true, rightL_iff (l := l), List.mem_cons, forall_eq_or_imp]
theorem goodE_mk {op : Int} {ks : List Ex} (h1 : 3 ≤ op) (h2 : op ≤ 16) (hl : kidsI op = (ks.length : Int)) (hk : ∀ k ∈ ks, goodE k) : goodE (.mk op 0 [] ks) := by
  refine ⟨?_, ?_, ?_⟩
  · have hr : rightL ks = true := rightL_iff.2 fun e he => (hk e he).1
    simp only [rightE, hr, Bool.and_true, ownF, Bool.and_eq_true, beq_iff_eq, Bool.or_eq_true, decide_eq_true_eq]
    refine ⟨hl, ?_, .inr trivial, Int.le_refl _, .inr trivial⟩
    rw [wordB_nil]
    simpa using (show op ≠ 2 by omega)
  · simp only [inE]; exact ⟨⟨by omega, by omega⟩, inL_of fun e he => (hk e he).2.1⟩
  · simp only [okE, okN]
    refine ⟨⟨by simp, ?_⟩, okL_of fun e he => (hk e he).2.2⟩
    have : kidsI op ≤ 2 := by unfold kidsI; split <;> (try split) <;> (try split) <;> omega
    omega
theorem goodE_num {v : Int} (h0 : 0 ≤ v) (h1 : v ≤ 9223372036854775807) : goodE (numX v) := by
  refine ⟨?_, ?_, ?_⟩
  · simp only [numX, rightE, rightL, Bool.and_true, ownF, List.length_nil, wordB_nil]
    simp [kidsI, h0]
  · simp only [numX, inE, inL]; exact ⟨⟨by omega, by omega⟩, trivial⟩
  · simp only [numX, okE, okN, okL]; exact ⟨⟨by simp, by simp⟩, trivial⟩
theorem goodE_kids {op num : Int} {name : List UInt8} {kids : List Ex} (h : goodE (.mk op num name kids)) : kidsI op = (kids.length : Int) ∧ (∀ k ∈ kids, goodE k) ∧ 0 ≤ num ∧ num ≤ 9223372036854775807 := by
  obtain ⟨h1, h2, h3⟩ := h
  simp only [rightE, Bool.and_eq_true, ownF, beq_iff_eq, decide_eq_true_eq] at h1
  simp only [inE] at h2
  have h4 := okE_kids h3
  simp only [Ex.kids, Ex.name] at h4
  exact ⟨h1.1.1, fun k hk => ⟨rightL_iff.1 h1.2 k hk, inL_get h2.2 k hk, okL_get h4.2 k hk⟩, h1.1.2.2.2.1, h2.1.2⟩
theorem kidsI_op {op : Int} {n : Nat} (h : kidsI op = ((n + 1 : Nat) : Int)) : 3 ≤ op ∧ op ≤ 16 := by
  unfold kidsI at h
  split at h
  · omega
  · split at h
    · omega
    · split at h <;> omega
theorem w_range (n : Int) : -9223372036854775808 ≤ IntKind.i64.wrap n ∧ IntKind.i64.wrap n ≤ 9223372036854775807 := by
  rw [IntKind.wrap_i64]; omega
theorem doI_range (op : Int) (l : List Int) : -9223372036854775808 ≤ (doI op l).1 ∧ (doI op l).1 ≤ 9223372036854775807 := by
  have ht : ∀ b, -9223372036854775808 ≤ truthI b ∧ truthI b ≤ 9223372036854775807 := fun b => by unfold truthI; split <;> omega
  have h1 : ∀ op a, -9223372036854775808 ≤ oneI op a ∧ oneI op a ≤ 9223372036854775807 := fun op a => by unfold oneI; split; exact w_range _; exact ht _
  have h2 : ∀ op a b, -9223372036854775808 ≤ twoI op a b ∧ twoI op a b ≤ 9223372036854775807 := fun op a b => by
    unfold twoI
    repeat' (first | exact ht _ | exact w_range _ | split)
  unfold doI
  split
  · split
    · exact h1 _ _
    · simp
  · split
    · exact h2 _ _ _
    · simp
  · simp
theorem good_two {op : Int} {a b : Ex} (h1 : 3 ≤ op) (h2 : op ≤ 16) (hl : kidsI op = 2) (ha : goodE a) (hb : goodE b) : goodE (twoS op a b) := by
  have hmk : goodE (.mk op 0 [] [a, b]) := goodE_mk h1 h2 (by simpa using hl) fun k hk => by
    simp only [List.mem_cons, List.not_mem_nil, or_false] at hk
    rcases hk with rfl | rfl
    · exact ha
    · exact hb
  have h0 : goodE (numX 0) := goodE_num (by omega) (by omega)
  have h1' : goodE (numX 1) := goodE_num (by omega) (by omega)
  unfold twoS
  simp only [cond_eq_ite]
  repeat' (first | exact ha | exact hb | exact h0 | exact h1' | exact hmk | split)
theorem good_rule {op : Int} {ks : List Ex} (h1 : 3 ≤ op) (h2 : op ≤ 16) (hl : kidsI op = (ks.length : Int)) (hk : ∀ k ∈ ks, goodE k) : goodE (ruleS op ks) := by
  unfold ruleS
  split
  · exact good_two h1 h2 (by simpa using hl) (hk _ (by simp)) (hk _ (by simp))
  · rename_i k l hn
    have hkk := hk k (by simp)
    simp only [cond_eq_ite]
    split
    · rename_i h
      simp only [Bool.and_eq_true, beq_iff_eq] at h
      obtain ⟨o, m, s, kk⟩ := k
      obtain ⟨g1, g2, _⟩ := goodE_kids hkk
      simp only [Ex.op] at h
      rw [h.2] at g1
      have : kk.length = 1 := by have : (1 : Int) = kk.length := g1; omega
      match kk, this with
      | [x], _ => exact g2 x (by simp)
    · exact goodE_mk h1 h2 hl hk
  · exact goodE_mk h1 h2 hl hk
theorem good_out {op : Int} {ks : List Ex} (h1 : 3 ≤ op) (h2 : op ≤ 16) (hl : kidsI op = (ks.length : Int)) (hk : ∀ k ∈ ks, goodE k) : goodE (outS op ks) := by
  unfold outS
  simp only [cond_eq_ite]
  split
  · split
    · rename_i h
      exact goodE_num (by simpa using h) (doI_range _ _).2
    · exact goodE_mk h1 h2 hl hk
  · exact good_rule h1 h2 hl hk
mutual
theorem good_simp : ∀ {e : Ex}, goodE e → goodE (simpE e)
  | .mk op num name [], h => by simp only [simpE]; exact h
  | .mk op num name (k :: l), h => by
    obtain ⟨g1, g2, _⟩ := goodE_kids h
    obtain ⟨g3, g4⟩ := kidsI_op (n := l.length) g1
    simp only [simpE]
    refine good_out g3 g4 ?_ fun x hx => ?_
    · rw [g1, simpL_map]; simp
    · rcases List.mem_cons.1 hx with rfl | hx
      · exact good_simp (g2 k (by simp))
      · exact good_simpL (fun y hy => g2 y (by simp [hy])) x hx
theorem good_simpL : ∀ {l : List Ex}, (∀ e ∈ l, goodE e) → ∀ x ∈ simpL l, goodE x
  | [], h, x, hx => by simp [simpL] at hx
  | e :: l, h, x, hx => by
    simp only [simpL] at hx
    rcases List.mem_cons.1 hx with rfl | hx
    · exact good_simp (h e (by simp))
    · exact good_simpL (fun y hy => h y (by simp [hy])) x hx
end
/-! no greater -/
theorem size_numX (v : Int) : sizeE (numX v) = 1 := by simp only [numX, sizeE, sizeL]
theorem size_two (op : Int) (a b : Ex) : sizeE (twoS op a b) ≤ 1 + sizeE a + sizeE b := by
  have h1 := sizeE_pos a
  unfold twoS
  simp only [cond_eq_ite]
  repeat' (first | (simp only [numX, sizeE, sizeL]; omega) | omega | split)
theorem size_rule (op : Int) (ks : List Ex) : sizeE (ruleS op ks) ≤ 1 + sizeL ks := by
  unfold ruleS
  split
  · rename_i a b
    have := size_two op a b
    simp only [sizeL]; omega
  · rename_i k l hn
    simp only [cond_eq_ite]
    split
    · obtain ⟨o, m, s, kk⟩ := k
      cases kk with
      | nil => simp only [Ex.kids, List.headD_nil, size_numX]; omega
      | cons x kk => simp only [Ex.kids, List.headD_cons, sizeL, sizeE]; omega
    · simp only [sizeE, sizeL]; omega
  · simp only [sizeE, sizeL]; omega
theorem size_out (op : Int) (ks : List Ex) : sizeE (outS op ks) ≤ 1 + sizeL ks := by
  unfold outS
  simp only [cond_eq_ite]
  split
  · split
    · rw [size_numX]; omega
    · simp only [sizeE]; omega
  · exact size_rule op ks
mutual
theorem size_simp : ∀ e : Ex, sizeE (simpE e) ≤ sizeE e
  | .mk op num name [] => by simp only [simpE]; omega
  | .mk op num name (k :: l) => by
    have h1 := size_out op (simpE k :: simpL l)
    have h2 := size_simp k
    have h3 := size_simpL l
    simp only [simpE, sizeE, sizeL] at h1 ⊢
    omega
theorem size_simpL : ∀ l : List Ex, sizeL (simpL l) ≤ sizeL l
  | [] => by simp only [simpL]; omega
  | e :: l => by have h1 := size_simp e; have h2 := size_simpL l; simp only [simpL, sizeL]; omega
end
/-! the program's way comes to the same -/
theorem num_of {k : Ex} (h : (k.op == 1) = true) (hg : goodE k) : k = numX k.num := by
  obtain ⟨o, m, s, kk⟩ := k
  simp only [Ex.op, beq_iff_eq] at h
  subst h
  have hr := hg.1
  obtain ⟨g1, _⟩ := goodE_kids hg
  have : kk.length = 0 := by have : (0 : Int) = kk.length := g1; omega
  have hk : kk = [] := List.eq_nil_of_length_eq_zero this
  subst hk
  simp only [rightE, rightL, ownF, Bool.and_eq_true, Bool.or_eq_true, beq_iff_eq] at hr
  have : s = [] := by
    have := hr.1.2.2.1
    rcases this with h | h
    · simp at h
    · exact h
  subst this; rfl
theorem w64 (n : Int) : IntKind.i64.wrap n = (n + 9223372036854775808) % 18446744073709551616 - 9223372036854775808 := by
  rw [IntKind.wrap_i64]
theorem w64_id {n : Int} (h : -9223372036854775808 ≤ n) (h2 : n ≤ 9223372036854775807) : IntKind.i64.wrap n = n := by rw [w64]; omega
theorem bv_id {x : Int} (h : 0 ≤ x) (h2 : x ≤ 9223372036854775807) : ((BitVec.ofInt 64 x).toNat : Int) = x := by
  rw [BitVec.toNat_ofInt]; omega
theorem bor_0 {x : Int} (h : 0 ≤ x) (h2 : x ≤ 9223372036854775807) : twoI 11 x 0 = x := by
  have : twoI 11 x 0 = IntKind.i64.wrap (bits .or .u64 (IntKind.u64.wrap x) (IntKind.u64.wrap 0)) := by simp [twoI]
  rw [this, bits_or, of_wrap, of_wrap]
  rw [show BitVec.ofInt 64 0 = 0#64 from rfl, BitVec.or_zero, bv_id h h2, w64_id (by omega) h2]
theorem bor_0' {x : Int} (h : 0 ≤ x) (h2 : x ≤ 9223372036854775807) : twoI 11 0 x = x := by
  have : twoI 11 0 x = IntKind.i64.wrap (bits .or .u64 (IntKind.u64.wrap 0) (IntKind.u64.wrap x)) := by simp [twoI]
  rw [this, bits_or, of_wrap, of_wrap]
  rw [show BitVec.ofInt 64 0 = 0#64 from rfl, BitVec.zero_or, bv_id h h2, w64_id (by omega) h2]
theorem xor_0 {x : Int} (h : 0 ≤ x) (h2 : x ≤ 9223372036854775807) : twoI 12 x 0 = x := by
  have : twoI 12 x 0 = IntKind.i64.wrap (bits .xor .u64 (IntKind.u64.wrap x) (IntKind.u64.wrap 0)) := by simp [twoI]
  rw [this, bits_xor, of_wrap, of_wrap]
  rw [show BitVec.ofInt 64 0 = 0#64 from rfl, BitVec.xor_zero, bv_id h h2, w64_id (by omega) h2]
theorem xor_0' {x : Int} (h : 0 ≤ x) (h2 : x ≤ 9223372036854775807) : twoI 12 0 x = x := by
  have : twoI 12 0 x = IntKind.i64.wrap (bits .xor .u64 (IntKind.u64.wrap 0) (IntKind.u64.wrap x)) := by simp [twoI]
  rw [this, bits_xor, of_wrap, of_wrap]
  rw [show BitVec.ofInt 64 0 = 0#64 from rfl, BitVec.zero_xor, bv_id h h2, w64_id (by omega) h2]
theorem xor_s (x : Int) : twoI 12 x x = 0 := by
  have : twoI 12 x x = IntKind.i64.wrap (bits .xor .u64 (IntKind.u64.wrap x) (IntKind.u64.wrap x)) := by simp [twoI]
  rw [this, bits_xor, of_wrap, BitVec.xor_self]; rfl
theorem band_0 (x : Int) : twoI 13 x 0 = 0 := by
  have : twoI 13 x 0 = IntKind.i64.wrap (bits .and .u64 (IntKind.u64.wrap x) (IntKind.u64.wrap 0)) := by simp [twoI]
  rw [this, bits_and, of_wrap, of_wrap, show BitVec.ofInt 64 0 = 0#64 from rfl, BitVec.and_zero]; rfl
theorem band_0' (x : Int) : twoI 13 0 x = 0 := by
  have : twoI 13 0 x = IntKind.i64.wrap (bits .and .u64 (IntKind.u64.wrap 0) (IntKind.u64.wrap x)) := by simp [twoI]
  rw [this, bits_and, of_wrap, of_wrap, show BitVec.ofInt 64 0 = 0#64 from rfl, BitVec.zero_and]; rfl
theorem plusI (a b : Int) : twoI 14 a b = IntKind.i64.wrap (a + b) := by simp only [twoI]; simp only [w64, wu64]; simp
theorem minusI (a b : Int) : twoI 15 a b = IntKind.i64.wrap (a - b) := by simp only [twoI]; simp only [w64, wu64]; simp
theorem timesI (a b : Int) : twoI 16 a b = IntKind.i64.wrap (a * b) := by
  have h : twoI 16 a b = IntKind.i64.wrap (IntKind.u64.wrap (IntKind.u64.wrap a * IntKind.u64.wrap b)) := by simp [twoI]
  rw [h]
  simp only [w64, wu64]
  rw [← Int.mul_emod]
  omega
theorem same_num (x y : Int) : sameE (numX x) (numX y) = (x == y) := by simp only [numX, sameE, sameL]; simp
/-- Of numbers whose answer is below 0, no rule fits. -/
theorem two_neg {op x y : Int} (h5 : 5 ≤ op) (h16 : op ≤ 16) (hx : 0 ≤ x) (hx2 : x ≤ 9223372036854775807) (hy : 0 ≤ y) (hy2 : y ≤ 9223372036854775807) (hn : ¬ 0 ≤ twoI op x y) : twoS op (numX x) (numX y) = .mk op 0 [] [numX x, numX y] := by
  have hi : ∀ a n, isX (numX a) n = (a == n) := fun a n => by simp [isX, numX, Ex.op, Ex.num]
  have ht : ∀ b, 0 ≤ truthI b := fun b => by unfold truthI; split <;> omega
  unfold twoS
  simp only [hi, same_num]
  have hop : op = 5 ∨ op = 6 ∨ op = 7 ∨ op = 8 ∨ op = 9 ∨ op = 10 ∨ op = 11 ∨ op = 12 ∨ op = 13 ∨ op = 14 ∨ op = 15 ∨ op = 16 := by omega
  rcases hop with rfl | rfl | rfl | rfl | rfl | rfl | rfl | rfl | rfl | rfl | rfl | rfl
  · exact absurd (by simp only [twoI]; exact ht _) hn
  · exact absurd (by simp only [twoI]; exact ht _) hn
  · exact absurd (by simp only [twoI]; exact ht _) hn
  · exact absurd (by simp only [twoI]; exact ht _) hn
  · exact absurd (by simp only [twoI]; exact ht _) hn
  · exact absurd (by simp only [twoI]; exact ht _) hn
  · have h1 : (y == 0) = false := by simpa using fun e : y = 0 => hn (by subst e; rw [bor_0 hx hx2]; exact hx)
    have h2 : (x == 0) = false := by simpa using fun e : x = 0 => hn (by subst e; rw [bor_0' hy hy2]; exact hy)
    rw [h1, h2]; simp
  · have h1 : (y == 0) = false := by simpa using fun e : y = 0 => hn (by subst e; rw [xor_0 hx hx2]; exact hx)
    have h2 : (x == 0) = false := by simpa using fun e : x = 0 => hn (by subst e; rw [xor_0' hy hy2]; exact hy)
    have h3 : (x == y) = false := by simpa using fun e : x = y => hn (by subst e; rw [xor_s]; omega)
    rw [h1, h2, h3]; simp
  · have h1 : (y == 0) = false := by simpa using fun e : y = 0 => hn (by subst e; rw [band_0]; omega)
    have h2 : (x == 0) = false := by simpa using fun e : x = 0 => hn (by subst e; rw [band_0']; omega)
    rw [h1, h2]; simp
  · have h1 : (y == 0) = false := by simpa using fun e : y = 0 => hn (by subst e; rw [plusI, w64]; omega)
    have h2 : (x == 0) = false := by simpa using fun e : x = 0 => hn (by subst e; rw [plusI, w64]; omega)
    rw [h1, h2]; simp
  · have h1 : (y == 0) = false := by simpa using fun e : y = 0 => hn (by subst e; rw [minusI, w64]; omega)
    have h3 : (x == y) = false := by simpa using fun e : x = y => hn (by subst e; rw [minusI, w64]; omega)
    rw [h1, h3]; simp
  · have h1 : (y == 0) = false := by simpa using fun e : y = 0 => hn (by subst e; rw [timesI, w64]; omega)
    have h2 : (x == 0) = false := by simpa using fun e : x = 0 => hn (by subst e; rw [timesI, w64]; omega)
    have h3 : (y == 1) = false := by simpa using fun e : y = 1 => hn (by subst e; rw [timesI, w64]; omega)
    have h4 : (x == 1) = false := by simpa using fun e : x = 1 => hn (by subst e; rw [timesI, w64]; omega)
    rw [h1, h2, h3, h4]; simp
theorem out_same {op : Int} {ks : List Ex} (hl : kidsI op = (ks.length : Int)) (hk : ∀ k ∈ ks, goodE k) : outX op ks = outS op ks := by
  unfold outX outS
  cases hall : ks.all (fun k => k.op == 1) with
  | false => simp only [Bool.false_and, cond_false]
  | true =>
    simp only [Bool.true_and, cond_true]
    cases hv : decide (0 ≤ (doI op (ks.map Ex.num)).1) with
    | true => simp only [cond_true]
    | false =>
      simp only [cond_false]
      have hv : ¬ 0 ≤ (doI op (ks.map Ex.num)).1 := by simpa using hv
      have hnum : ∀ k ∈ ks, k = numX k.num ∧ 0 ≤ k.num ∧ k.num ≤ 9223372036854775807 := fun k hkm => by
        have h1 := List.all_eq_true.1 hall k hkm
        refine ⟨num_of h1 (hk k hkm), ?_⟩
        obtain ⟨o, m, s, kk⟩ := k
        exact (goodE_kids (hk _ hkm)).2.2
      match ks, hl, hnum, hv with
      | [], hl, hnum, hv => rfl
      | [k], hl, hnum, hv =>
        have h1 := (hnum k (by simp)).1
        have : (k.op == 3) = false := by rw [h1]; rfl
        simp only [ruleS, this, Bool.and_false, cond_false]
      | [a, b], hl, hnum, hv =>
        have ha := hnum a (by simp)
        have hb := hnum b (by simp)
        have hop : 5 ≤ op ∧ op ≤ 16 := by
          unfold kidsI at hl
          split at hl
          · simp at hl
          · split at hl
            · simp at hl
            · split at hl
              · assumption
              · simp at hl
        have hv2 : ¬ 0 ≤ twoI op a.num b.num := by
          have : (doI op ([a, b].map Ex.num)).1 = twoI op a.num b.num := by
            simp only [List.map_cons, List.map_nil, doI]; rw [if_pos hop]
          rw [this] at hv; exact hv
        have := two_neg hop.1 hop.2 ha.2.1 ha.2.2 hb.2.1 hb.2.2 hv2
        rw [← ha.1, ← hb.1] at this
        exact this
      | a :: b :: c :: l, hl, hnum, hv =>
        exfalso
        unfold kidsI at hl
        simp only [List.length_cons] at hl
        split at hl
        · omega
        · split at hl
          · omega
          · split at hl <;> omega
end Go.Proofs.YtcbjhdklbhlmhaaDoor.lex
end

/-
  One expression put into another in the place of a register (plain functions and laws).
-/
section
set_option linter.unusedVariables false
set_option linter.unusedSimpArgs false
namespace Go.Proofs.YtcbjhdklbhlmhaaDoor.lex
open Go.Abs Go.RowKit
set_option maxRecDepth 100000
set_option maxHeartbeats 4000000
def hitE (nm : List UInt8) (e : Ex) : Bool := e.op == 2 && e.name == nm
mutual
def putE (nm : List UInt8) (b : Ex) : Ex → Ex
  | .mk op num name kids => bif op == 2 && name == nm then b else .mk op num name (putL nm b kids)
def putL (nm : List UInt8) (b : Ex) : List Ex → List Ex
  | [] => []
  | e :: l => putE nm b e :: putL nm b l
end
theorem putL_map (nm : List UInt8) (b : Ex) : ∀ l : List Ex, putL nm b l = l.map (putE nm b)
  | [] => by simp only [putL, List.map_nil]
  | e :: l => by simp only [putL, putL_map nm b l, List.map_cons]
mutual
def growE (nm : List UInt8) (m : Nat) : Ex → Nat
  | .mk op num name kids => bif op == 2 && name == nm then m else 1 + growL nm m kids
def growL (nm : List UInt8) (m : Nat) : List Ex → Nat
  | [] => 0
  | e :: l => growE nm m e + growL nm m l
end
mutual
theorem grow_size (nm : List UInt8) (b : Ex) : ∀ e : Ex, growE nm (sizeE b) e = sizeE (putE nm b e)
  | .mk op num name kids => by
    simp only [growE, putE]
    cases (op == 2 && name == nm) with
    | true => rfl
    | false => simp only [cond_false, sizeE, growL_size nm b kids]
theorem growL_size (nm : List UInt8) (b : Ex) : ∀ l : List Ex, growL nm (sizeE b) l = sizeL (putL nm b l)
  | [] => by simp only [growL, putL, sizeL]
  | e :: l => by simp only [growL, putL, sizeL, grow_size nm b e, growL_size nm b l]
end
mutual
theorem grow_le (nm : List UInt8) (m : Nat) : ∀ e : Ex, growE nm m e ≤ sizeE e * (m + 1)
  | .mk op num name kids => by
    have h := growL_le nm m kids
    simp only [growE, sizeE]
    rw [Nat.add_mul]
    cases (op == 2 && name == nm) with
    | true => simp only [cond_true]; omega
    | false => simp only [cond_false]; omega
theorem growL_le (nm : List UInt8) (m : Nat) : ∀ l : List Ex, growL nm m l ≤ sizeL l * (m + 1)
  | [] => by simp only [growL]; omega
  | e :: l => by
    have h1 := grow_le nm m e; have h2 := growL_le nm m l
    simp only [growL, sizeL]; rw [Nat.add_mul]; omega
end
theorem growL_take (nm : List UInt8) (m : Nat) : ∀ (l : List Ex) (i : Nat) (h : i < l.length), growL nm m (l.take (i + 1)) = growL nm m (l.take i) + growE nm m l[i]
  | e :: l, 0, h => by simp only [List.take_succ_cons, List.take_zero, growL, List.getElem_cons_zero]; omega
  | e :: l, i + 1, h => by
    have := growL_take nm m l i (by simpa using h)
    simp only [List.take_succ_cons, growL, List.getElem_cons_succ] at this ⊢; omega
theorem growL_take_le (nm : List UInt8) (m : Nat) : ∀ (l : List Ex) (i : Nat), growL nm m (l.take i) ≤ growL nm m l
  | [], i => by simp
  | e :: l, 0 => by simp [growL]
  | e :: l, i + 1 => by have := growL_take_le nm m l i; simp only [List.take_succ_cons, growL]; omega
mutual
def putP (nm : List UInt8) (b : Ex) : Ex → Int → Ex × Int
  | .mk op num name kids, l => bif op == 2 && name == nm then (b, l - (sizeE b : Int)) else (.mk op num name (putPL nm b kids (l - 1)).1, (putPL nm b kids (l - 1)).2)
def putPL (nm : List UInt8) (b : Ex) : List Ex → Int → List Ex × Int
  | [], l => ([], l)
  | e :: k, l => bif decide (0 ≤ l) then ((putP nm b e l).1 :: (putPL nm b k (putP nm b e l).2).1, (putPL nm b k (putP nm b e l).2).2) else ([], l)
end
mutual
theorem putP_eq (nm : List UInt8) (b : Ex) : ∀ (e : Ex) (l : Int), 0 ≤ l → ((sizeE (putE nm b e) : Int) ≤ l → putP nm b e l = (putE nm b e, l - (sizeE (putE nm b e) : Int))) ∧ (l < (sizeE (putE nm b e) : Int) → (putP nm b e l).2 < 0)
  | .mk op num name kids, l, hl => by
    simp only [putP, putE]
    cases (op == 2 && name == nm) with
    | true => simp only [cond_true]; exact ⟨fun _ => by simp, fun h => by omega⟩
    | false =>
      obtain ⟨h1, h2⟩ := putPL_eq nm b kids (l - 1) (by omega)
      simp only [cond_false, sizeE]
      refine ⟨fun h => ?_, fun h => h2 (by omega)⟩
      rw [h1 (by omega)]
      simp only [Prod.mk.injEq, true_and]; omega
theorem putPL_eq (nm : List UInt8) (b : Ex) : ∀ (k : List Ex) (l : Int), -1 ≤ l → ((sizeL (putL nm b k) : Int) ≤ l → putPL nm b k l = (putL nm b k, l - (sizeL (putL nm b k) : Int))) ∧ (l < (sizeL (putL nm b k) : Int) → (putPL nm b k l).2 < 0)
  | [], l, hl => by
    simp only [putPL, putL, sizeL]
    exact ⟨fun _ => by simp, fun h => by omega⟩
  | e :: k, l, hl => by
    simp only [putPL, putL, sizeL]
    by_cases h0 : 0 ≤ l
    · rw [show decide (0 ≤ l) = true by simpa using h0]
      simp only [cond_true]
      obtain ⟨h1, h2⟩ := putP_eq nm b e l h0
      have hp := sizeE_pos (putE nm b e)
      by_cases hs : (sizeE (putE nm b e) : Int) ≤ l
      · rw [h1 hs]
        obtain ⟨h3, h4⟩ := putPL_eq nm b k (l - (sizeE (putE nm b e) : Int)) (by omega)
        refine ⟨fun h => ?_, fun h => h4 (by omega)⟩
        rw [h3 (by omega)]
        simp only [Prod.mk.injEq, true_and]; omega
      · have h5 := h2 (by omega)
        refine ⟨fun h => by omega, fun h => ?_⟩
        have h6 : ∀ (k : List Ex) (m : Int), m < 0 → (putPL nm b k m).2 < 0 := by
          intro k m hm
          cases k with
          | nil => simpa only [putPL] using hm
          | cons x k => simp only [putPL]; rw [show decide (0 ≤ m) = false by simpa using hm]; exact hm
        exact h6 _ _ h5
    · rw [show decide (0 ≤ l) = false by simpa using h0]
      simp only [cond_false]
      exact ⟨fun h => by omega, fun h => by omega⟩
end
mutual
theorem good_put {nm : List UInt8} {b : Ex} (hb : goodE b) : ∀ {e : Ex}, goodE e → goodE (putE nm b e)
  | .mk op num name kids, h => by
    obtain ⟨g1, g2, _⟩ := goodE_kids h
    simp only [putE]
    cases (op == 2 && name == nm) with
    | true => exact hb
    | false =>
      simp only [cond_false]
      have hk := good_putL (nm := nm) hb (l := kids) g2
      obtain ⟨h1, h2, h3⟩ := h
      have hl : (putL nm b kids).length = kids.length := by rw [putL_map]; simp
      refine ⟨?_, ?_, ?_⟩
      · simp only [rightE, Bool.and_eq_true] at h1 ⊢
        rw [hl]
        exact ⟨h1.1, rightL_iff.2 fun x hx => (hk x hx).1⟩
      · simp only [inE] at h2 ⊢
        exact ⟨h2.1, inL_of fun x hx => (hk x hx).2.1⟩
      · simp only [okE, okN] at h3 ⊢
        rw [hl]
        exact ⟨h3.1, okL_of fun x hx => (hk x hx).2.2⟩
theorem good_putL {nm : List UInt8} {b : Ex} (hb : goodE b) : ∀ {l : List Ex}, (∀ e ∈ l, goodE e) → ∀ x ∈ putL nm b l, goodE x
  | [], h, x, hx => by simp [putL] at hx
  | e :: l, h, x, hx => by
    simp only [putL] at hx
    rcases List.mem_cons.1 hx with rfl | hx
    · exact good_put hb (h e (by simp))
    · exact good_putL hb (fun y hy => h y (by simp [hy])) x hx
end
end Go.Proofs.YtcbjhdklbhlmhaaDoor.lex
end

/-
  Made simple: the program's simple.
-/
section
set_option linter.unusedVariables false
set_option linter.unusedSimpArgs false
namespace Go.Proofs.YtcbjhdklbhlmhaaDoor.lex
open Go.Abs Go.RowKit
set_option maxRecDepth 100000
set_option maxHeartbeats 4000000
variable {gl : Glob}
def famSelf {f : Nat} (hb : hasBody Tryd.prog f = true) (G : Ex → Prop) (r : Ex → AV) (h : ∀ x, G x → ValOK Tryd.prog gl f [.agg x.cells] (r x)) : Fam Tryd.prog gl := { I := Ex, f := f, G := G, A := fun x => [.agg x.cells], R := r, body := hb, inj := (fun i j _ _ h => by rw [agg_inj h]), ok := (fun x hx => ⟨ex_refs x, h x hx⟩) }
theorem exAt_cell (l : List Ex) (i : Nat) (h : i < l.length) : ∃ rest, (exAt l (i + 1)).drop (i * 4) = l[i].cells ++ rest := by
  refine ⟨repl (l.length - (i + 1)) [.int .i64 0, .int .i64 0, .str [], .nslice], ?_⟩
  rw [← exAt_next l i h]
  have hl : (exC (l.take i)).length = i * 4 := by rw [exC_len, List.length_take, Nat.min_eq_left (by omega)]
  rw [List.drop_append_of_le_length (by omega), List.drop_of_length_le (by omega), List.nil_append]
theorem exAt_op (l : List Ex) (i : Nat) (h : i < l.length) : tk 1 ((exAt l (i + 1)).drop (0 + i * 4 + 0)) = some [.int .i64 l[i].op] := by
  obtain ⟨rest, hr⟩ := exAt_cell l i h
  rw [show 0 + i * 4 + 0 = i * 4 by omega, hr]
  generalize l[i] = x
  obtain ⟨o, m, s, k⟩ := x; rfl
theorem exAt_num (l : List Ex) (i : Nat) (h : i < l.length) : tk 1 ((exAt l (i + 1)).drop (0 + i * 4 + 1)) = some [.int .i64 l[i].num] := by
  obtain ⟨rest, hr⟩ := exAt_cell l i h
  rw [show 0 + i * 4 + 1 = i * 4 + 1 by omega, ← List.drop_drop, hr]
  generalize l[i] = x
  obtain ⟨o, m, s, k⟩ := x; rfl
theorem allE_take (f : Ex → Bool) : ∀ (l : List Ex) (i : Nat) (h : i < l.length), (l.take (i + 1)).all f = ((l.take i).all f && f l[i])
  | e :: l, 0, h => by simp
  | e :: l, i + 1, h => by
    have := allE_take f l i (by simpa using h)
    simp only [List.take_succ_cons, List.all_cons, List.getElem_cons_succ] at this ⊢; rw [this, Bool.and_assoc]
theorem simpleX_ok : ∀ (n : Nat) (e : Ex), sizeE e ≤ n → goodE e → sizeE e ≤ 1048576 → ValOK Tryd.prog gl 21 [.agg e.cells] (.agg (simpE e).cells)
  | n, .mk op num name kids, h, hg, hs => by
    obtain ⟨O, hO, p1, p2, p3, -⟩ := fams (P := Tryd.prog) (gl := gl) [famSelf (f := 21) (by kernel_rfl) (fun x => sizeE x < n ∧ goodE x ∧ sizeE x ≤ 1048576) (fun x => .agg (simpE x).cells) (fun x hx => match n, hx.1 with | n + 1, h => simpleX_ok n x (by omega) hx.2.1 hx.2.2),
      { I := Int × Ex × Ex, f := 37, G := fun x => (5 ≤ x.1 ∧ x.1 ≤ 16) ∧ okE x.2.1, A := fun x => [.int .i64 x.1, .agg x.2.1.cells, .agg x.2.2.cells], R := fun x => .agg (twoS x.1 x.2.1 x.2.2).cells, body := (by kernel_rfl), inj := (fun i j _ _ h => by
        simp only [List.cons.injEq, AV.int.injEq, and_true, true_and] at h
        rw [h.1, agg_inj (a := i.2.1) (b := j.2.1) (by rw [h.2.1]), agg_inj (a := i.2.2) (b := j.2.2) (by rw [h.2.2])]), ok := (fun x hx => ⟨by obtain ⟨op, ⟨a, b, c, d⟩, ⟨a', b', c', d'⟩⟩ := x; rfl, simpleTwo_ok _ _ _ hx.1.1 hx.1.2 hx.2⟩) },
      { I := Int, f := 36, G := fun _ => True, A := fun v => [.int .i64 v], R := fun v => .agg (numX v).cells, body := (by kernel_rfl), inj := (fun i j _ _ h => by simp only [List.cons.injEq, AV.int.injEq, and_true, true_and] at h; rw [h]), ok := (fun v _ => ⟨rfl, numXp_ok v⟩) }] rfl
    have hO2 := orcOr_sound (doF_sound (gl := gl)) hO
    have q1 : ∀ x, sizeE x < n → goodE x → sizeE x ≤ 1048576 → ∀ H, acall Tryd.prog (orcOr (orcZ doF) O) H 21 [.agg x.cells] = some (.agg (simpE x).cells, H) := fun x h1 h2 h3 H => callOr2 (by kernel_rfl) (orcZ_none fun _ => rfl) (p1 x ⟨h1, h2, h3⟩ H)
    have q2 : ∀ op a b, (5 ≤ op ∧ op ≤ 16) → okE a → ∀ H, acall Tryd.prog (orcOr (orcZ doF) O) H 37 [.int .i64 op, .agg a.cells, .agg b.cells] = some (.agg (twoS op a b).cells, H) := fun op a b h1 h2 H => callOr2 (by kernel_rfl) (orcZ_none fun _ => rfl) (p2 (op, a, b) ⟨h1, h2⟩ H)
    have qn : ∀ v H, acall Tryd.prog (orcOr (orcZ doF) O) H 36 [.int .i64 v] = some (.agg [.int .i64 1, .int .i64 v, .str [], .rs 0 4 []], H) := fun v H => callOr2 (by kernel_rfl) (orcZ_none fun _ => rfl) (p3 v trivial H)
    have qd : ∀ (H : AHeap) (b f m : Nat) (op : Int) (l : List Int) (ty : TypeId), H[b]? = some ⟨true, f, 0, .cells (ksC l) ty⟩ → l.length = m → acall Tryd.prog (orcOr (orcZ doF) O) H 13 [.int .i64 op, .slice b 0 m m 1] = some (.tuple [.int .i64 (doI op l).1, .int .i64 (doI op l).2], H) := fun H b f m op l ty hH hm => by
      subst hm
      refine callOr1 (by kernel_rfl) (callZ (fa := [.int .i64 op, .rs l.length 1 (ksC l)]) (by kernel_rfl) ?_ ?_)
      · have h1 : frz H 30 (.slice b 0 l.length l.length 1) = some (.rs l.length 1 (ksC l)) := frz_slice hH (by rw [ksC_len]; simp) (ksC_lit _)
        simp only [frzL, h1]; rfl
      · show (match intsOf (ksC l) with | some l => _ | none => none) = _
        rw [show intsOf (ksC l) = some l from intsOf_map _]
    clear p1 p2 p3
    generalize orcOr (orcZ doF) O = O2 at *
    have hlen := sizeL_len kids
    simp only [sizeE] at h hs
    obtain ⟨hkl, hkg, -⟩ := goodE_kids hg
    by_cases hk0 : kids = []
    · subst hk0
      simp only [simpE, Ex.cells, exA, exC]
      refine fn_valW follows noNum hO2 Tryd.func21 rfl ?_
      repeat' ((conv => whnf); first | refine stp ?_ | with_reducible refine condB (fun h => ?_) (fun h => ?_))
      all_goals exact fun _ _ h => nil4 h
    · have hop : 3 ≤ op ∧ op ≤ 16 := by
        cases kids with
        | nil => exact absurd rfl hk0
        | cons k l => exact kidsI_op (n := l.length) hkl
      have hk1 : kids.length ≠ 0 := fun e => hk0 (List.eq_nil_of_length_eq_zero e)
      rw [simpE_kids _ _ _ _ hk0, ← out_same (by rw [hkl]; simp) (fun k hk => by obtain ⟨x, hx, rfl⟩ := List.mem_map.1 hk; exact good_simp (hkg x hx))]
      have e0 : ((kids.length : Int) == 0) = false := by simpa using hk0
      have hm := mkE_ok kids.length (by omega)
      have hm2 := mkI_ok kids.length (by omega)
      simp only [Ex.cells, exA]
      refine fn_valW follows noNum hO2 Tryd.func21 rfl ?_
      repeat' ((conv => whnf); first | (refine exI (hm _) ?_) | (refine exI (hm2 _) ?_) | (first | refine stp ?_ | with_reducible refine condB (fun h => ?_) (fun h => ?_)))
      conv => whnf
      obtain ⟨ks, hks⟩ : ∃ ks, kids.map simpE = ks := ⟨_, rfl⟩
      have hksl : ks.length = kids.length := by rw [← hks]; simp
      have hksg : ∀ k ∈ ks, goodE k := fun k hk => by rw [← hks] at hk; obtain ⟨x, hx, rfl⟩ := List.mem_map.1 hk; exact good_simp (hkg x hx)
      rw [hks]
      have hnl : (ks.map Ex.num).length = kids.length := by rw [List.length_map, hksl]
      refine ⟨Nat, (fun i => i ≤ kids.length), (fun i => [(1, .ptr 0 0), (2, .ptr 1 0), (3, .slice 2 0 kids.length kids.length 4), (4, .slice 3 0 kids.length kids.length 1), (5, .bool ((ks.take i).all fun k => k.op == 1)), (30, .rs kids.length 4 (exC kids)), (31, .int .i64 kids.length), (32, .int .i64 i)]),
        (fun i => [⟨true, 0, 0, .cells [.int .i64 op, .int .i64 num, .str name, .rs kids.length 4 (exC kids)] 24⟩, ⟨true, 1, 0, .cells [.int .i64 0, .int .i64 0, .str [], .nslice] 24⟩, ⟨true, 2, 0, .cells (exAt ks i) 24⟩, ⟨true, 3, 0, .cells (evAt kids.length i (ks.map Ex.num)) 2⟩]), (fun i => kids.length - i), ⟨0, Nat.zero_le _, ?_⟩, ?_⟩
      · refine FgL.mk [0, 1, 2, 3] rfl ⟨Wk.ptr rfl rfl, Wk.ptr rfl rfl, Wk.slice rfl rfl rfl (Nat.le_refl _) (Nat.le_refl _) rfl, Wk.slice rfl rfl rfl (Nat.le_refl _) (Nat.le_refl _) rfl, Wk.bool rfl, Wk.noref rfl, Wk.int rfl, Wk.int rfl, trivial⟩ ⟨⟨rfl, rfl, rfl, rfl, BodyGe.pre (rest := []) rfl rfl⟩, ⟨rfl, rfl, rfl, rfl, BodyGe.pre (rest := []) rfl rfl⟩, ⟨rfl, rfl, rfl, rfl, BodyGe.pre (rest := []) ?_ (exAt_refs _ _)⟩, ⟨rfl, rfl, rfl, rfl, BodyGe.pre (rest := []) ?_ ?_⟩, trivial⟩ rfl
        · rw [exAt_zero, hksl]; simp
        · have := evAt_zero (ks.map Ex.num)
          rw [hnl] at this
          rw [this]; simp
        · have := evAt_refs (ks.map Ex.num) 0
          rw [hnl] at this; exact this
      intro i hi
      dsimp only
      by_cases hlt : i < kids.length
      · have e1 : decide ((i : Int) < (kids.length : Int)) = true := by simpa using hlt
        have hlk : i < ks.length := by omega
        have hx := ex4 kids i hlt
        have hsz := sizeL_mem _ _ (get_mem hlt)
        have q3 := q1 kids[i] (by omega) (hkg _ (get_mem hlt)) (by omega)
        have hxs : simpE kids[i] = ks[i] := by simp only [← hks, List.getElem_map]
        have hsp := exAt_set ks i (0 + i * 4) hlk (by omega)
        have ho := exAt_op ks i hlk
        have hn := exAt_num ks i hlk
        have hsp2 := evAt_set (ks.map Ex.num) i (0 + i * 1) (by rw [hnl]; exact hlt) (by omega)
        have hrf2 := evAt_refs (ks.map Ex.num) (i + 1)
        have hrf := exAt_refs ks (i + 1)
        simp only [List.length_map, List.getElem_map, hksl] at hsp2 hrf2
        have hal := allE_take (fun k => k.op == 1) ks i hlk
        rw [hxs] at q3
        generalize hnx : exAt ks (i + 1) = nx at *
        generalize hnx2 : evAt kids.length (i + 1) (ks.map Ex.num) = nx2 at *
        generalize exAt ks i = cx at *
        generalize evAt kids.length i (ks.map Ex.num) = cx2 at *
        generalize hw2 : (ks.take (i + 1)).all (fun k => k.op == 1) = w2 at *
        generalize (ks.take i).all (fun k => k.op == 1) = w at *
        generalize ks[i] = y at *
        generalize kids[i] = x at *
        clear hxs q1 q2 qn qd
        obtain ⟨xo, xn, xs, xk⟩ := x
        obtain ⟨yo, yn, ys, yk⟩ := y
        simp only [Ex.cells, Ex.op, Ex.num] at hx q3 hsp ho hn hsp2 hal
        cases w with
        | true =>
          simp only [Bool.true_and] at hal
          repeat' ((conv => whnf); first | (refine exI (q3 _) ?_) | (with_reducible refine ixJ i rfl ?_ ?_; (focus (omega))) | (refine exI hx ?_) | (refine exI hsp ?_) | (refine exI hsp2 ?_) | (refine exI ho ?_) | (refine exI hn ?_) | (first | refine stp ?_ | with_reducible refine condB (fun h => ?_) (fun h => ?_)))
          conv => whnf
          refine ⟨i + 1, hlt, by show kids.length - (i + 1) < kids.length - i; omega, ?_⟩
          rw [hnx, hnx2, hw2]
          exact FgL.mk [0, 1, 2, 3] rfl ⟨Wk.ptr rfl rfl, Wk.ptr rfl rfl, Wk.slice rfl rfl rfl (Nat.le_refl _) (Nat.le_refl _) rfl, Wk.slice rfl rfl rfl (Nat.le_refl _) (Nat.le_refl _) rfl, Wk.bool hal.symm, Wk.noref rfl, Wk.int rfl, Wk.int rfl, trivial⟩ ⟨⟨rfl, rfl, rfl, rfl, BodyGe.pre (rest := []) rfl rfl⟩, ⟨rfl, rfl, rfl, rfl, BodyGe.pre (rest := []) rfl rfl⟩, ⟨rfl, rfl, rfl, rfl, BodyGe.pre (rest := []) (by simp) hrf⟩, ⟨rfl, rfl, rfl, rfl, BodyGe.pre (rest := []) (by simp) hrf2⟩, trivial⟩ rfl
        | false =>
          simp only [Bool.false_and] at hal
          repeat' ((conv => whnf); first | (refine exI (q3 _) ?_) | (with_reducible refine ixJ i rfl ?_ ?_; (focus (omega))) | (refine exI hx ?_) | (refine exI hsp ?_) | (refine exI hsp2 ?_) | (refine exI ho ?_) | (refine exI hn ?_) | (first | refine stp ?_ | with_reducible refine condB (fun h => ?_) (fun h => ?_)))
          conv => whnf
          refine ⟨i + 1, hlt, by show kids.length - (i + 1) < kids.length - i; omega, ?_⟩
          rw [hnx, hnx2, hw2]
          exact FgL.mk [0, 1, 2, 3] rfl ⟨Wk.ptr rfl rfl, Wk.ptr rfl rfl, Wk.slice rfl rfl rfl (Nat.le_refl _) (Nat.le_refl _) rfl, Wk.slice rfl rfl rfl (Nat.le_refl _) (Nat.le_refl _) rfl, Wk.bool hal.symm, Wk.noref rfl, Wk.int rfl, Wk.int rfl, trivial⟩ ⟨⟨rfl, rfl, rfl, rfl, BodyGe.pre (rest := []) rfl rfl⟩, ⟨rfl, rfl, rfl, rfl, BodyGe.pre (rest := []) rfl rfl⟩, ⟨rfl, rfl, rfl, rfl, BodyGe.pre (rest := []) (by simp) hrf⟩, ⟨rfl, rfl, rfl, rfl, BodyGe.pre (rest := []) (by simp) hrf2⟩, trivial⟩ rfl
      · have e1 : decide ((i : Int) < (kids.length : Int)) = false := by simpa using hlt
        have hi2 : i = kids.length := by have := hi; omega
        subst hi2
        have hx1 : exAt ks kids.length = exC ks := by rw [← hksl]; exact exAt_all ks
        have hx2 : evAt kids.length kids.length (ks.map Ex.num) = ksC (ks.map Ex.num) := by have := evAt_all (ks.map Ex.num); rw [hnl] at this; exact this
        rw [hx1, hx2, List.take_of_length_le (by omega)]
        have hv := fun (H : AHeap) hH => qd H 3 3 kids.length op (ks.map Ex.num) 2 hH hnl
        clear qd q1 hx1 hx2
        unfold outX
        generalize hvv : (doI op (ks.map Ex.num)).1 = v at *
        generalize (doI op (ks.map Ex.num)).2 = v2 at *
        generalize hal : ks.all (fun k => k.op == 1) = w at *
        have q2 := q2 op
        have hkl2 : kidsI op = (ks.length : Int) := by rw [hkl, hksl]
        rw [← hksl] at hv e1 ⊢
        generalize hkk : exC kids = ck
        clear hks hnl hksl hkl hkg hm hm2 e0 hlt hi hlen h hs hg hkk
        have hfin : ∀ vv : Ex, (bif w && decide (0 ≤ v) then numX v else ruleS op ks) = vv → (bif w && decide (0 ≤ v) then numX v else ruleS op ks) = vv := fun _ h => h
        by_cases hnum : w = true ∧ 0 ≤ v
        · obtain ⟨rfl, h0⟩ := hnum
          have e2 : decide (v ≥ 0) = true := by simpa using h0
          have e3 : decide (0 ≤ v) = true := by simpa using h0
          rw [e3]
          simp only [Bool.and_self, cond_true, numX, Ex.cells, exA, exC, List.length_nil]
          repeat' ((conv => whnf); first | (refine exI (hv _ rfl) ?_) | (with_reducible refine exI (qn _ _) ?_) | (first | refine stp ?_ | with_reducible refine condB (fun h => ?_) (fun h => ?_)))
          all_goals exact fun _ _ h => h
        · have e3 : (w && decide (0 ≤ v)) = false := by
            rw [Bool.and_eq_false_iff]
            by_cases hw : w = true
            · exact .inr (by simpa using fun h => hnum ⟨hw, h⟩)
            · exact .inl (by simpa using hw)
          rw [e3, cond_false]
          have hcase : w = false ∨ (w = true ∧ decide (v ≥ 0) = false) := by
            cases w with
            | false => exact .inl rfl
            | true => exact .inr ⟨rfl, by simpa using fun h => hnum ⟨rfl, h⟩⟩
          have hlen2 : ks.length = 1 ∧ (op = 3 ∨ op = 4) ∨ ks.length = 2 ∧ (5 ≤ op ∧ op ≤ 16) := by
            unfold kidsI at hkl2
            split at hkl2
            · omega
            · split at hkl2
              · left; omega
              · right
                rw [if_pos (by omega)] at hkl2
                omega
          rcases hlen2 with ⟨hl1, hop2⟩ | ⟨hl2, hop2⟩
          · match ks, hl1 with
            | [x], _ =>
              have hgx := hksg x (by simp)
              obtain ⟨xo, xn, xs, xk⟩ := x
              clear q2 hksg
              rcases hop2 with rfl | rfl
              · by_cases hx3 : xo = 3
                · subst hx3
                  obtain ⟨g1, g2, _⟩ := goodE_kids hgx
                  have hxl : xk.length = 1 := by have : (1 : Int) = xk.length := g1; omega
                  match xk, hxl with
                  | [z], _ =>
                    obtain ⟨zo, zn, zs, zk⟩ := z
                    simp only [ruleS, Ex.op, Ex.kids, exC, Ex.cells, List.length_cons, List.length_nil, exA, beq_self_eq_true, Bool.and_self, cond_true, List.headD_cons, List.cons_append, List.nil_append] at hv e1 ⊢
                    rcases hcase with rfl | ⟨rfl, e2⟩
                    · repeat' ((conv => whnf); first | (refine exI (hv _ rfl) ?_) | (first | refine stp ?_ | with_reducible refine condB (fun h => ?_) (fun h => ?_)))
                      all_goals exact fun _ _ h => h
                    · repeat' ((conv => whnf); first | (refine exI (hv _ rfl) ?_) | (first | refine stp ?_ | with_reducible refine condB (fun h => ?_) (fun h => ?_)))
                      all_goals exact fun _ _ h => h
                · have ex3 : (xo == 3) = false := by simpa using hx3
                  simp only [ruleS, Ex.op, ex3, Bool.and_false, cond_false, Ex.kids, exC, Ex.cells, List.length_cons, List.length_nil, exA, List.cons_append, List.nil_append] at hv e1 ⊢
                  rcases hcase with rfl | ⟨rfl, e2⟩
                  · repeat' ((conv => whnf); first | (refine exI (hv _ rfl) ?_) | (first | refine stp ?_ | with_reducible refine condB (fun h => ?_) (fun h => ?_)))
                    all_goals exact fun _ _ h => h
                  · repeat' ((conv => whnf); first | (refine exI (hv _ rfl) ?_) | (first | refine stp ?_ | with_reducible refine condB (fun h => ?_) (fun h => ?_)))
                    all_goals exact fun _ _ h => h
              · simp only [ruleS, Ex.op, show ((4 : Int) == 3) = false from rfl, Bool.false_and, cond_false, Ex.kids, exC, Ex.cells, List.length_cons, List.length_nil, exA, List.cons_append, List.nil_append] at hv e1 ⊢
                rcases hcase with rfl | ⟨rfl, e2⟩
                · repeat' ((conv => whnf); first | (refine exI (hv _ rfl) ?_) | (first | refine stp ?_ | with_reducible refine condB (fun h => ?_) (fun h => ?_)))
                  all_goals exact fun _ _ h => h
                · repeat' ((conv => whnf); first | (refine exI (hv _ rfl) ?_) | (first | refine stp ?_ | with_reducible refine condB (fun h => ?_) (fun h => ?_)))
                  all_goals exact fun _ _ h => h
          · match ks, hl2 with
            | [x, y], _ =>
              have q3 := q2 x y hop2 (hksg x (by simp)).2.2
              have hgx := hksg x (by simp)
              clear q2 hksg
              simp only [ruleS] at *
              generalize twoS op x y = t at *
              obtain ⟨xo, xn, xs, xk⟩ := x
              obtain ⟨yo, yn, ys, yk⟩ := y
              obtain ⟨to, tn, ts, tk'⟩ := t
              simp only [exC, Ex.cells, List.length_cons, List.length_nil, exA, List.cons_append, List.nil_append] at hv e1 q3 ⊢
              rcases hcase with rfl | ⟨rfl, e2⟩
              · repeat' ((conv => whnf); first | (refine exI (hv _ rfl) ?_) | (with_reducible refine exI (q3 _) ?_) | (first | refine stp ?_ | with_reducible refine condB (fun h => ?_) (fun h => ?_)))
                all_goals exact fun _ _ h => h
              · repeat' ((conv => whnf); first | (refine exI (hv _ rfl) ?_) | (with_reducible refine exI (q3 _) ?_) | (first | refine stp ?_ | with_reducible refine condB (fun h => ?_) (fun h => ?_)))
                all_goals exact fun _ _ h => h
theorem frz_agg4 {H : AHeap} {n : Nat} {a b c u r : AV} (ha : lit a = true) (hb : lit b = true) (hc : lit c = true) (h : frz H (n + 1) u = some r) : frz H (n + 2) (.agg [a, b, c, u]) = some (.agg [a, b, c, r]) := by
  have h2 : frzL (frz H (n + 1)) [a, b, c, u] = some [a, b, c, r] := by simp only [frzL, frz_lit ha, frz_lit hb, frz_lit hc, h]
  unfold frz
  show (match frzL (frz H (n + 1)) [a, b, c, u] with | some l => some (AV.agg l) | none => none) = _
  rw [h2]
theorem exC_cons4 (z : Ex) (o : List Ex) : (exC (z :: o)).length = (o.length + 1) * 4 := by rw [exC_len]; simp
theorem exC_snoc (z : Ex) (o : List Ex) (x : Ex) : exC (z :: o) ++ x.cells = exC (z :: o.append [x]) ++ [] := by
  rw [List.append_nil]
  show _ = exC ((z :: o) ++ [x])
  rw [exC_app]; simp [exC]
theorem exC_refs (o : List Ex) : refsL (exC o) [] = [] := refsL_flat (flat12 (exC_flat o))
end Go.Proofs.YtcbjhdklbhlmhaaDoor.lex
end

/-
  Simple, of both; how great expressions are, how great they grow.
-/
section
set_option linter.unusedVariables false
set_option linter.unusedSimpArgs false
namespace Go.Proofs.YtcbjhdklbhlmhaaDoor.lex
open Go.Abs Go.RowKit
set_option maxRecDepth 100000
set_option maxHeartbeats 4000000
variable {gl : Glob}
def zeroX : Ex := .mk 0 0 [] []
def okI (e : Ex) : Prop := okE e ∧ inE e
theorem check0 {e : Ex} (h : checkE e = 0) (hi : okI e) : goodE e ∧ sizeE e ≤ 2000 ∧ deepE e ≤ 32 := by
  unfold checkE at h
  split at h
  · cases h
  · rename_i h1
    split at h
    · rename_i h2
      exact ⟨⟨h2, hi.2, hi.1⟩, by omega, by omega⟩
    · cases h
theorem nil4t {a b c d : AV} {z : Nat} {sn : Snap} {v : Value} (h : VR sn noI (.tuple [.agg [a, b, c, .nslice], d]) v) : VR sn noI (.tuple [.agg [a, b, c, .rs 0 z []], d]) v := by
  simp only [VR, LR] at h ⊢
  obtain ⟨w, h0, d0, l0, e0, ⟨d', h1, d1, l1, e1, g1, d2, l2, e2, g2, d3, l3, e3, g3, d4, l4, e4, g4, g5⟩, r⟩ := h
  exact ⟨w, h0, d0, l0, e0, ⟨d', h1, d1, l1, e1, g1, d2, l2, e2, g2, d3, l3, e3, g3, d4, l4, e4, .inl ⟨trivial, trivial, g4⟩, g5⟩, r⟩
def simpO (e : Ex) : AV := .tuple [.agg (if checkE e = 0 then simpE e else zeroX).cells, .int .i64 (checkE e)]
def famOne {f : Nat} (hb : hasBody Tryd.prog f = true) (e : Ex) (G : Prop) (r : AV) (h : G → ValOK Tryd.prog gl f [.agg e.cells] r) : Fam Tryd.prog gl := { I := Unit, f := f, G := fun _ => G, A := fun _ => [.agg e.cells], R := fun _ => r, body := hb, inj := (fun _ _ _ _ _ => rfl), ok := (fun _ hx => ⟨ex_refs e, h hx⟩) }
theorem SimpleX_ok (e : Ex) (hi : okI e) (hs : sizeE e ≤ 1048576) : ValOK Tryd.prog runLives.gl 9 [.agg e.cells] (simpO e) := by
  obtain ⟨O, hO, p1, p2, -⟩ := fams (P := Tryd.prog) (gl := runLives.gl) [famOne (f := 19) (by kernel_rfl) e True (.int .i64 (checkE e)) (fun _ => checkEX_ok e hi.1 hs),
    famOne (f := 21) (by kernel_rfl) e (checkE e = 0) (.agg (simpE e).cells) (fun h => simpleX_ok _ e (Nat.le_refl _) (check0 h hi).1 hs)] rfl
  have q1 : ∀ H, acall Tryd.prog O H 19 [.agg e.cells] = some (.int .i64 (checkE e), H) := p1 () trivial
  have q2 : checkE e = 0 → ∀ H, acall Tryd.prog O H 21 [.agg e.cells] = some (.agg (simpE e).cells, H) := p2 ()
  clear p1 p2
  unfold simpO
  clear hi hs
  generalize checkE e = c at *
  generalize simpE e = s at *
  obtain ⟨op, num, name, kids⟩ := e
  obtain ⟨so, sn1, ss, sk⟩ := s
  by_cases hc : c = 0
  · replace q2 := q2 hc
    subst hc
    rw [if_pos rfl]
    simp only [Ex.cells, exA] at q1 q2 ⊢
    refine fn_valW follows noNum hO Tryd.func9 rfl ?_
    repeat' ((conv => whnf); first | (with_reducible refine exI (q1 _) ?_) | (with_reducible refine exI (q2 _) ?_) | (first | refine stp ?_ | with_reducible refine condB (fun h => ?_) (fun h => ?_)))
    all_goals exact fun _ _ h => h
  · rw [if_neg hc]
    have e1 : (c != 0) = true := bne_of (b := false) (by simpa using hc)
    simp only [Ex.cells, exA, exC, zeroX, List.length_nil] at q1 ⊢
    clear q2
    refine fn_valW follows noNum hO Tryd.func9 rfl ?_
    repeat' ((conv => whnf); first | (with_reducible refine exI (q1 _) ?_) | (first | refine stp ?_ | with_reducible refine condB (fun h => ?_) (fun h => ?_)))
    all_goals exact fun _ _ h => nil4t h
theorem sizeX_ok : ∀ (n : Nat) (e : Ex), sizeE e ≤ n → sizeE e ≤ 1048576 → ValOK Tryd.prog gl 24 [.agg e.cells] (.int .i64 (sizeE e))
  | 0, e, h, _ => by have := sizeE_pos e; omega
  | n + 1, .mk op num name kids, h, hb => by
    simp only [sizeE] at h hb ⊢
    obtain ⟨O, hO, q, -⟩ := fams (P := Tryd.prog) (gl := gl) [famE (g := 24) (by kernel_rfl) (fun k => .int .i64 (sizeE k)) kids fun k hk => sizeX_ok n k (by have := sizeL_mem _ _ hk; omega) (by have := sizeL_mem _ _ hk; omega)] rfl
    have hlen := sizeL_len kids
    simp only [Ex.cells]
    refine fn_val follows noNum hO Tryd.func24 rfl ?_
    repeat' ((conv => whnf); first | refine stp ?_ | with_reducible refine condB (fun h => ?_) (fun h => ?_))
    conv => whnf
    refine ⟨Nat, (fun i => i ≤ kids.length), (fun i => [(3, .int .i64 (1 + sizeL (kids.take i) : Nat)), (7, .rs kids.length 4 (exC kids)), (8, .int .i64 kids.length), (9, .int .i64 i)]), (fun _ => []), (fun i => kids.length - i), ⟨0, Nat.zero_le _, FgL.mk0 rfl ?_⟩, ?_⟩
    · simp only [List.take_zero, sizeL]; (repeat (first | exact trivial | refine stw ?_))
    intro i hi
    dsimp only
    by_cases hlt : i < kids.length
    · have e1 : decide ((i : Int) < (kids.length : Int)) = true := by simpa using hlt
      have hx := ex4 kids i hlt
      have hs := sizeL_take kids i hlt
      have hg := sizeL_get kids i hlt
      have q1 : ∀ H, acall Tryd.prog O H 24 [.agg kids[i].cells] = some (.int .i64 (sizeE kids[i]), H) := q _ (get_mem hlt)
      generalize kids[i] = k at *
      obtain ⟨ko, kn, ks, kk⟩ := k
      simp only [Ex.cells] at hx q1
      repeat' ((conv => whnf); first | (refine exI hx ?_) | (with_reducible refine exI (q1 _) ?_) | (with_reducible refine ixJ i rfl ?_ ?_; (focus (omega))) | (first | refine stp ?_ | with_reducible refine condB (fun h => ?_) (fun h => ?_)))
      conv => whnf
      refine ⟨i + 1, hlt, by show kids.length - (i + 1) < kids.length - i; omega, FgL.mk0 rfl ?_⟩
      rw [hs, ← Nat.add_assoc]; (repeat (first | exact trivial | refine stw ?_))
    · have e1 : decide ((i : Int) < (kids.length : Int)) = false := by simpa using hlt
      have hi2 : i = kids.length := by have := hi; omega
      subst hi2
      repeat' ((conv => whnf); first | refine stp ?_ | with_reducible refine condB (fun h => ?_) (fun h => ?_))
      simp only [List.take_length]; rfl
theorem grownX_ok (nm : List UInt8) (m : Nat) (hm : m ≤ 1048576) : ∀ (n : Nat) (e : Ex), sizeE e ≤ n → sizeE e ≤ 1048576 → ValOK Tryd.prog gl 23 [.agg e.cells, .str nm, .int .i64 m] (.int .i64 (growE nm m e))
  | 0, e, h, _ => by have := sizeE_pos e; omega
  | n + 1, .mk op num name kids, h, hb => by
    simp only [sizeE] at h hb
    simp only [growE]
    obtain ⟨O, hO, p1, -⟩ := fams (P := Tryd.prog) (gl := gl) [{ I := Ex, f := 23, G := fun k => k ∈ kids, A := fun k => [.agg k.cells, .str nm, .int .i64 m], R := fun k => .int .i64 (growE nm m k), body := (by kernel_rfl), inj := (fun i j _ _ h => by simp only [List.cons.injEq] at h; rw [agg_inj (a := i) (b := j) (by rw [h.1])]), ok := (fun k hk => ⟨by obtain ⟨a, b, c, d⟩ := k; rfl, grownX_ok nm m hm n k (by have := sizeL_mem _ _ hk; omega) (by have := sizeL_mem _ _ hk; omega)⟩) }] rfl
    have q : ∀ k ∈ kids, ∀ H, acall Tryd.prog O H 23 [.agg k.cells, .str nm, .int .i64 m] = some (.int .i64 (growE nm m k), H) := p1
    clear p1
    have hlen := sizeL_len kids
    have hgl := growL_le nm m kids
    simp only [Ex.cells]
    cases ho : (op == 2) with
    | false =>
      simp only [Bool.false_and, cond_false]
      refine fn_val follows noNum hO Tryd.func23 rfl ?_
      repeat' ((conv => whnf); first | refine stp ?_ | with_reducible refine condB (fun h => ?_) (fun h => ?_))
      conv => whnf
      refine ⟨Nat, (fun i => i ≤ kids.length), (fun i => [(1, .str nm), (2, .int .i64 m), (7, .int .i64 (1 + growL nm m (kids.take i) : Nat)), (21, .rs kids.length 4 (exC kids)), (22, .int .i64 kids.length), (23, .int .i64 i)]), (fun _ => []), (fun i => kids.length - i), ⟨0, Nat.zero_le _, FgL.mk0 rfl ?_⟩, ?_⟩
      · simp only [List.take_zero, growL]; exact ⟨Wk.noref rfl, Wk.int rfl, Wk.int rfl, Wk.noref rfl, Wk.int rfl, Wk.int rfl, trivial⟩
      intro i hi
      dsimp only
      by_cases hlt : i < kids.length
      · have e1 : decide ((i : Int) < (kids.length : Int)) = true := by simpa using hlt
        have hx := ex4 kids i hlt
        have hs := growL_take nm m kids i hlt
        have hle := growL_take_le nm m kids (i + 1)
        have q1 := q _ (get_mem hlt)
        generalize kids[i] = k at *
        obtain ⟨ko, kn, ks, kk⟩ := k
        simp only [Ex.cells] at hx q1
        have hbig : sizeL kids * (m + 1) ≤ 1048576 * 1048577 := Nat.mul_le_mul (by omega) (by omega)
        generalize growE nm m (Ex.mk ko kn ks kk) = g at *
        generalize sizeL kids * (m + 1) = big at *
        repeat' ((conv => whnf); first | (refine exI hx ?_) | (with_reducible refine exI (q1 _) ?_) | (with_reducible refine ixJ i rfl ?_ ?_; (focus (omega))) | (first | refine stp ?_ | with_reducible refine condB (fun h => ?_) (fun h => ?_)))
        conv => whnf
        refine ⟨i + 1, hlt, by show kids.length - (i + 1) < kids.length - i; omega, FgL.mk0 rfl ?_⟩
        rw [hs, ← Nat.add_assoc]; exact ⟨Wk.noref rfl, Wk.int rfl, Wk.int rfl, Wk.noref rfl, Wk.int rfl, Wk.int rfl, trivial⟩
      · have e1 : decide ((i : Int) < (kids.length : Int)) = false := by simpa using hlt
        have hi2 : i = kids.length := by have := hi; omega
        subst hi2
        repeat' ((conv => whnf); first | refine stp ?_ | with_reducible refine condB (fun h => ?_) (fun h => ?_))
        simp only [List.take_length]; rfl
    | true =>
      cases hn : (name == nm) with
      | true =>
        simp only [Bool.and_self, cond_true]
        refine fn_val follows noNum hO Tryd.func23 rfl ?_
        repeat' ((conv => whnf); first | refine stp ?_ | with_reducible refine condB (fun h => ?_) (fun h => ?_))
        all_goals rfl
      | false =>
        simp only [Bool.and_false, cond_false]
        refine fn_val follows noNum hO Tryd.func23 rfl ?_
        repeat' ((conv => whnf); first | refine stp ?_ | with_reducible refine condB (fun h => ?_) (fun h => ?_))
        conv => whnf
        refine ⟨Nat, (fun i => i ≤ kids.length), (fun i => [(1, .str nm), (2, .int .i64 m), (7, .int .i64 (1 + growL nm m (kids.take i) : Nat)), (21, .rs kids.length 4 (exC kids)), (22, .int .i64 kids.length), (23, .int .i64 i)]), (fun _ => []), (fun i => kids.length - i), ⟨0, Nat.zero_le _, FgL.mk0 rfl ?_⟩, ?_⟩
        · simp only [List.take_zero, growL]; exact ⟨Wk.noref rfl, Wk.int rfl, Wk.int rfl, Wk.noref rfl, Wk.int rfl, Wk.int rfl, trivial⟩
        intro i hi
        dsimp only
        by_cases hlt : i < kids.length
        · have e1 : decide ((i : Int) < (kids.length : Int)) = true := by simpa using hlt
          have hx := ex4 kids i hlt
          have hs := growL_take nm m kids i hlt
          have hle := growL_take_le nm m kids (i + 1)
          have q1 := q _ (get_mem hlt)
          generalize kids[i] = k at *
          obtain ⟨ko, kn, ks, kk⟩ := k
          simp only [Ex.cells] at hx q1
          have hbig : sizeL kids * (m + 1) ≤ 1048576 * 1048577 := Nat.mul_le_mul (by omega) (by omega)
          generalize growE nm m (Ex.mk ko kn ks kk) = g at *
          generalize sizeL kids * (m + 1) = big at *
          repeat' ((conv => whnf); first | (refine exI hx ?_) | (with_reducible refine exI (q1 _) ?_) | (with_reducible refine ixJ i rfl ?_ ?_; (focus (omega))) | (first | refine stp ?_ | with_reducible refine condB (fun h => ?_) (fun h => ?_)))
          conv => whnf
          refine ⟨i + 1, hlt, by show kids.length - (i + 1) < kids.length - i; omega, FgL.mk0 rfl ?_⟩
          rw [hs, ← Nat.add_assoc]; exact ⟨Wk.noref rfl, Wk.int rfl, Wk.int rfl, Wk.noref rfl, Wk.int rfl, Wk.int rfl, trivial⟩
        · have e1 : decide ((i : Int) < (kids.length : Int)) = false := by simpa using hlt
          have hi2 : i = kids.length := by have := hi; omega
          subst hi2
          repeat' ((conv => whnf); first | refine stp ?_ | with_reducible refine condB (fun h => ?_) (fun h => ?_))
          simp only [List.take_length]; rfl
theorem put_self {b : Ex} : ∀ {e : Ex}, goodE e → putE [] b e = e := by
  have key : ∀ n (e : Ex), sizeE e ≤ n → goodE e → putE [] b e = e := by
    intro n
    induction n with
    | zero => intro e h _; have := sizeE_pos e; omega
    | succ n ih =>
      intro e h hg
      obtain ⟨op, num, name, kids⟩ := e
      simp only [sizeE] at h
      have hh : (op == 2 && name == []) = false := by
        have h1 := hg.1
        simp only [rightE, Bool.and_eq_true, ownF] at h1
        cases ho : (op == 2) with
        | false => rfl
        | true =>
          cases hn : (name == ([] : List UInt8)) with
          | false => rfl
          | true =>
            have : name = [] := by simpa using hn
            subst this
            rw [ho] at h1
            simp [wordB_nil] at h1
      simp only [putE, hh, cond_false]
      rw [putL_map]
      congr 1
      have hk := (goodE_kids hg).2.1
      have : kids.map (putE [] b) = kids.map id := List.map_congr_left fun x hx => ih x (by have := sizeL_mem _ _ hx; omega) (hk x hx)
      rw [this, List.map_id]
  exact fun {e} hg => key _ e (Nat.le_refl _) hg
theorem hit_ne {nm : List UInt8} {op num : Int} {name : List UInt8} {kids : List Ex} (hg : goodE (.mk op num name kids)) (h1 : (op == 2) = true) (h2 : (name == nm) = true) : nm ≠ [] := by
  intro e
  subst e
  have h1' := hg.1
  have : name = [] := by simpa using h2
  subst this
  simp only [rightE, Bool.and_eq_true, ownF] at h1'
  rw [h1] at h1'
  simp [wordB_nil] at h1'
theorem putX_core (nm : List UInt8) (b : Ex) (hself : nm ≠ [] → ValOK Tryd.prog gl 25 [.agg b.cells, .str [], .agg b.cells] (.agg b.cells)) : ∀ (n : Nat) (e : Ex), sizeE e ≤ n → goodE e → sizeE e ≤ 1048576 → ValOK Tryd.prog gl 25 [.agg e.cells, .str nm, .agg b.cells] (.agg (putE nm b e).cells)
  | 0, e, h, _, _ => by have := sizeE_pos e; omega
  | n + 1, .mk op num name kids, h, hg, hs => by
    have hlen := sizeL_len kids
    simp only [sizeE] at h hs
    have hm := mkE_ok kids.length (by omega)
    have hkg := (goodE_kids hg).2.1
    obtain ⟨O, hO, p1, -⟩ := fams (P := Tryd.prog) (gl := gl) [{ I := Option Ex, f := 25, G := fun x => match x with | none => nm ≠ [] | some x => x ∈ kids, A := fun x => match x with | none => [.agg b.cells, .str [], .agg b.cells] | some x => [.agg x.cells, .str nm, .agg b.cells], R := fun x => match x with | none => .agg b.cells | some x => .agg (putE nm b x).cells, body := (by kernel_rfl), inj := (fun i j hi hj h => by
        cases i with
        | none =>
          cases j with
          | none => rfl
          | some y => simp only [List.cons.injEq, AV.str.injEq] at h; exact absurd h.2.1.symm hi
        | some x =>
          cases j with
          | none => simp only [List.cons.injEq, AV.str.injEq] at h; exact absurd h.2.1 hj
          | some y => simp only [List.cons.injEq] at h; rw [agg_inj (a := x) (b := y) (by rw [h.1])]), ok := (fun x hx => match x, hx with
        | none, hx => ⟨by obtain ⟨a', b', c', d'⟩ := b; rfl, hself hx⟩
        | some x, hx => ⟨by obtain ⟨a', b', c', d'⟩ := b; obtain ⟨a2, b2, c2, d2⟩ := x; rfl, putX_core nm b hself n x (by have := sizeL_mem _ _ hx; omega) (hkg x hx) (by have := sizeL_mem _ _ hx; omega)⟩) }] rfl
    have q1 : ∀ x ∈ kids, ∀ H, acall Tryd.prog O H 25 [.agg x.cells, .str nm, .agg b.cells] = some (.agg (putE nm b x).cells, H) := fun x hx => p1 (some x) hx
    have q2 : nm ≠ [] → ∀ H, acall Tryd.prog O H 25 [.agg b.cells, .str [], .agg b.cells] = some (.agg b.cells, H) := fun h => p1 none h
    clear p1
    have hne := hit_ne (nm := nm) hg
    obtain ⟨bo, bn, bs, bk⟩ := b
    simp only [putE]
    cases ho : (op == 2) with
    | false =>
      simp only [Bool.false_and, cond_false, Ex.cells, exA] at q1 ⊢
      refine fn_valW follows noNum hO Tryd.func25 rfl ?_
      repeat' ((conv => whnf); first | (refine exI (hm _) ?_) | (first | refine stp ?_ | with_reducible refine condB (fun h => ?_) (fun h => ?_)))
      conv => whnf
      obtain ⟨ks, hks⟩ : ∃ ks, kids.map (putE nm (.mk bo bn bs bk)) = ks := ⟨_, rfl⟩
      have hksl : ks.length = kids.length := by rw [← hks]; simp
      rw [putL_map, hks]
      refine ⟨Nat, (fun i => i ≤ kids.length), (fun i => [(1, .str nm), (3, .ptr 0 0), (5, .ptr 1 0), (6, .ptr 2 0), (7, .slice 3 0 kids.length kids.length 4), (27, .rs kids.length 4 (exC kids)), (28, .int .i64 kids.length), (29, .int .i64 i)]),
        (fun i => [⟨true, 0, 0, .cells [.int .i64 op, .int .i64 num, .str name, .rs kids.length 4 (exC kids)] 24⟩, ⟨true, 1, 0, .cells [.int .i64 bo, .int .i64 bn, .str bs, .rs bk.length 4 (exC bk)] 24⟩, ⟨true, 2, 0, .cells [.int .i64 0, .int .i64 0, .str [], .nslice] 24⟩, ⟨true, 3, 0, .cells (exAt ks i) 24⟩]), (fun i => kids.length - i), ⟨0, Nat.zero_le _, ?_⟩, ?_⟩
      · refine FgL.mk [0, 1, 2, 3] rfl ⟨Wk.noref rfl, Wk.ptr rfl rfl, Wk.ptr rfl rfl, Wk.ptr rfl rfl, Wk.slice rfl rfl rfl (Nat.le_refl _) (Nat.le_refl _) rfl, Wk.noref rfl, Wk.int rfl, Wk.int rfl, trivial⟩ ⟨⟨rfl, rfl, rfl, rfl, BodyGe.pre (rest := []) rfl rfl⟩, ⟨rfl, rfl, rfl, rfl, BodyGe.pre (rest := []) rfl rfl⟩, ⟨rfl, rfl, rfl, rfl, BodyGe.pre (rest := []) rfl rfl⟩, ⟨rfl, rfl, rfl, rfl, BodyGe.pre (rest := []) ?_ (exAt_refs _ _)⟩, trivial⟩ rfl
        rw [exAt_zero, hksl]; simp
      intro i hi
      dsimp only
      by_cases hlt : i < kids.length
      · have e1 : decide ((i : Int) < (kids.length : Int)) = true := by simpa using hlt
        have hlk : i < ks.length := by omega
        have hx := ex4 kids i hlt
        have q3 := q1 kids[i] (get_mem hlt)
        have hxs : putE nm (.mk bo bn bs bk) kids[i] = ks[i] := by simp only [← hks, List.getElem_map]
        have hsp := exAt_set ks i (0 + i * 4) hlk (by omega)
        have hrf := exAt_refs ks (i + 1)
        rw [hxs] at q3
        generalize hnx : exAt ks (i + 1) = nx at *
        generalize exAt ks i = cx at *
        generalize ks[i] = y at *
        generalize kids[i] = x at *
        clear hxs q1 q2
        obtain ⟨xo, xn, xs, xk⟩ := x
        obtain ⟨yo, yn, ys, yk⟩ := y
        simp only [Ex.cells, exA] at hx q3 hsp
        repeat' ((conv => whnf); first | (with_reducible refine exI (q3 _) ?_) | (with_reducible refine ixJ i rfl ?_ ?_; (focus (omega))) | (refine exI hx ?_) | (refine exI hsp ?_) | (first | refine stp ?_ | with_reducible refine condB (fun h => ?_) (fun h => ?_)))
        conv => whnf
        refine ⟨i + 1, hlt, by show kids.length - (i + 1) < kids.length - i; omega, ?_⟩
        rw [hnx]
        exact FgL.mk [0, 1, 2, 3] rfl ⟨Wk.noref rfl, Wk.ptr rfl rfl, Wk.ptr rfl rfl, Wk.ptr rfl rfl, Wk.slice rfl rfl rfl (Nat.le_refl _) (Nat.le_refl _) rfl, Wk.noref rfl, Wk.int rfl, Wk.int rfl, trivial⟩ ⟨⟨rfl, rfl, rfl, rfl, BodyGe.pre (rest := []) rfl rfl⟩, ⟨rfl, rfl, rfl, rfl, BodyGe.pre (rest := []) rfl rfl⟩, ⟨rfl, rfl, rfl, rfl, BodyGe.pre (rest := []) rfl rfl⟩, ⟨rfl, rfl, rfl, rfl, BodyGe.pre (rest := []) (by simp) hrf⟩, trivial⟩ rfl
      · have e1 : decide ((i : Int) < (kids.length : Int)) = false := by simpa using hlt
        have hi2 : i = kids.length := by have := hi; omega
        subst hi2
        have hx1 : exAt ks kids.length = exC ks := by rw [← hksl]; exact exAt_all ks
        rw [hx1]
        have hfz : ∀ (H : AHeap) (f : Nat) (ty : TypeId), H[3]? = some ⟨true, f, 0, .cells (exC ks) ty⟩ → frz H 30 (.agg [.int .i64 op, .int .i64 num, .str name, .slice 3 0 kids.length kids.length 4]) = some (.agg [.int .i64 op, .int .i64 num, .str name, .rs ks.length 4 (exC ks)]) := fun H f ty hH => frz_agg4 rfl rfl rfl (by rw [← hksl]; exact frz_sliceF hH (exC_len ks) (exC_flat ks))
        repeat' ((conv => whnf); first | (refine exI (hfz _ _ _ rfl) ?_) | (first | refine stp ?_ | with_reducible refine condB (fun h => ?_) (fun h => ?_)))
        all_goals exact fun _ _ h => h
    | true =>
      cases hn : (name == nm) with
      | true =>
        replace q2 := q2 (hne ho hn)
        simp only [Bool.and_self, cond_true, Ex.cells, exA] at q2 ⊢
        refine fn_valW follows noNum hO Tryd.func25 rfl ?_
        repeat' ((conv => whnf); first | (with_reducible refine exI (q2 _) ?_) | (first | refine stp ?_ | with_reducible refine condB (fun h => ?_) (fun h => ?_)))
        all_goals exact fun _ _ h => h
      | false =>
        simp only [Bool.and_false, cond_false, Ex.cells, exA] at q1 ⊢
        refine fn_valW follows noNum hO Tryd.func25 rfl ?_
        repeat' ((conv => whnf); first | (refine exI (hm _) ?_) | (first | refine stp ?_ | with_reducible refine condB (fun h => ?_) (fun h => ?_)))
        conv => whnf
        obtain ⟨ks, hks⟩ : ∃ ks, kids.map (putE nm (.mk bo bn bs bk)) = ks := ⟨_, rfl⟩
        have hksl : ks.length = kids.length := by rw [← hks]; simp
        rw [putL_map, hks]
        refine ⟨Nat, (fun i => i ≤ kids.length), (fun i => [(1, .str nm), (3, .ptr 0 0), (5, .ptr 1 0), (6, .ptr 2 0), (7, .slice 3 0 kids.length kids.length 4), (27, .rs kids.length 4 (exC kids)), (28, .int .i64 kids.length), (29, .int .i64 i)]),
          (fun i => [⟨true, 0, 0, .cells [.int .i64 op, .int .i64 num, .str name, .rs kids.length 4 (exC kids)] 24⟩, ⟨true, 1, 0, .cells [.int .i64 bo, .int .i64 bn, .str bs, .rs bk.length 4 (exC bk)] 24⟩, ⟨true, 2, 0, .cells [.int .i64 0, .int .i64 0, .str [], .nslice] 24⟩, ⟨true, 3, 0, .cells (exAt ks i) 24⟩]), (fun i => kids.length - i), ⟨0, Nat.zero_le _, ?_⟩, ?_⟩
        · refine FgL.mk [0, 1, 2, 3] rfl ⟨Wk.noref rfl, Wk.ptr rfl rfl, Wk.ptr rfl rfl, Wk.ptr rfl rfl, Wk.slice rfl rfl rfl (Nat.le_refl _) (Nat.le_refl _) rfl, Wk.noref rfl, Wk.int rfl, Wk.int rfl, trivial⟩ ⟨⟨rfl, rfl, rfl, rfl, BodyGe.pre (rest := []) rfl rfl⟩, ⟨rfl, rfl, rfl, rfl, BodyGe.pre (rest := []) rfl rfl⟩, ⟨rfl, rfl, rfl, rfl, BodyGe.pre (rest := []) rfl rfl⟩, ⟨rfl, rfl, rfl, rfl, BodyGe.pre (rest := []) ?_ (exAt_refs _ _)⟩, trivial⟩ rfl
          rw [exAt_zero, hksl]; simp
        intro i hi
        dsimp only
        by_cases hlt : i < kids.length
        · have e1 : decide ((i : Int) < (kids.length : Int)) = true := by simpa using hlt
          have hlk : i < ks.length := by omega
          have hx := ex4 kids i hlt
          have q3 := q1 kids[i] (get_mem hlt)
          have hxs : putE nm (.mk bo bn bs bk) kids[i] = ks[i] := by simp only [← hks, List.getElem_map]
          have hsp := exAt_set ks i (0 + i * 4) hlk (by omega)
          have hrf := exAt_refs ks (i + 1)
          rw [hxs] at q3
          generalize hnx : exAt ks (i + 1) = nx at *
          generalize exAt ks i = cx at *
          generalize ks[i] = y at *
          generalize kids[i] = x at *
          clear hxs q1 q2
          obtain ⟨xo, xn, xs, xk⟩ := x
          obtain ⟨yo, yn, ys, yk⟩ := y
          simp only [Ex.cells, exA] at hx q3 hsp
          repeat' ((conv => whnf); first | (with_reducible refine exI (q3 _) ?_) | (with_reducible refine ixJ i rfl ?_ ?_; (focus (omega))) | (refine exI hx ?_) | (refine exI hsp ?_) | (first | refine stp ?_ | with_reducible refine condB (fun h => ?_) (fun h => ?_)))
          conv => whnf
          refine ⟨i + 1, hlt, by show kids.length - (i + 1) < kids.length - i; omega, ?_⟩
          rw [hnx]
          exact FgL.mk [0, 1, 2, 3] rfl ⟨Wk.noref rfl, Wk.ptr rfl rfl, Wk.ptr rfl rfl, Wk.ptr rfl rfl, Wk.slice rfl rfl rfl (Nat.le_refl _) (Nat.le_refl _) rfl, Wk.noref rfl, Wk.int rfl, Wk.int rfl, trivial⟩ ⟨⟨rfl, rfl, rfl, rfl, BodyGe.pre (rest := []) rfl rfl⟩, ⟨rfl, rfl, rfl, rfl, BodyGe.pre (rest := []) rfl rfl⟩, ⟨rfl, rfl, rfl, rfl, BodyGe.pre (rest := []) rfl rfl⟩, ⟨rfl, rfl, rfl, rfl, BodyGe.pre (rest := []) (by simp) hrf⟩, trivial⟩ rfl
        · have e1 : decide ((i : Int) < (kids.length : Int)) = false := by simpa using hlt
          have hi2 : i = kids.length := by have := hi; omega
          subst hi2
          have hx1 : exAt ks kids.length = exC ks := by rw [← hksl]; exact exAt_all ks
          rw [hx1]
          have hfz : ∀ (H : AHeap) (f : Nat) (ty : TypeId), H[3]? = some ⟨true, f, 0, .cells (exC ks) ty⟩ → frz H 30 (.agg [.int .i64 op, .int .i64 num, .str name, .slice 3 0 kids.length kids.length 4]) = some (.agg [.int .i64 op, .int .i64 num, .str name, .rs ks.length 4 (exC ks)]) := fun H f ty hH => frz_agg4 rfl rfl rfl (by rw [← hksl]; exact frz_sliceF hH (exC_len ks) (exC_flat ks))
          repeat' ((conv => whnf); first | (refine exI (hfz _ _ _ rfl) ?_) | (first | refine stp ?_ | with_reducible refine condB (fun h => ?_) (fun h => ?_)))
          all_goals exact fun _ _ h => h
theorem putX_ok (nm : List UInt8) (b e : Ex) (hb : goodE b) (hg : goodE e) (hbs : sizeE b ≤ 1048576) (hs : sizeE e ≤ 1048576) : ValOK Tryd.prog gl 25 [.agg e.cells, .str nm, .agg b.cells] (.agg (putE nm b e).cells) := by
  have h0 := putX_core (gl := gl) [] b (fun h => absurd rfl h) _ b (Nat.le_refl _) hb hbs
  rw [put_self hb] at h0
  exact putX_core nm b (fun _ => h0) _ e (Nat.le_refl _) hg hs
end Go.Proofs.YtcbjhdklbhlmhaaDoor.lex
end

/-
  Texts, rising, each once: two ways to the same list (plain lists).
-/
section
set_option linter.unusedVariables false
set_option linter.unusedSimpArgs false
namespace Go.Proofs.YtcbjhdklbhlmhaaDoor.lex
open Go.Abs Go.RowKit
theorem bl_eq : ∀ (x y : List UInt8), Op.bytesLess x y = decide (x < y)
  | [], [] => by simp [Op.bytesLess]
  | _ :: _, [] => by simp [Op.bytesLess]
  | [], _ :: _ => by simp [Op.bytesLess]
  | a :: x, b :: y => by
    rw [Op.bytesLess, bl_eq x y]
    simp only [List.cons_lt_cons_iff]
    by_cases h1 : a < b <;> by_cases h2 : a = b <;> by_cases h3 : x < y <;> simp [h1, h2, h3]
/-- How many stand ahead. -/
def posU (s : List UInt8) : List (List UInt8) → Nat
  | [] => 0
  | x :: o => if Op.bytesLess x s = true then posU s o + 1 else 0
def insU (s : List UInt8) : List (List UInt8) → List (List UInt8)
  | [] => [s]
  | x :: o => if Op.bytesLess x s = true then x :: insU s o else if (x == s) = true then x :: o else s :: x :: o
def setU (l : List (List UInt8)) : List (List UInt8) := l.foldl (fun o s => insU s o) []
theorem posU_le (s : List UInt8) : ∀ o, posU s o ≤ o.length
  | [] => Nat.le_refl _
  | x :: o => by have := posU_le s o; simp only [posU, List.length_cons]; split <;> omega
theorem posU_lt (s : List UInt8) : ∀ (o : List (List UInt8)) (k : Nat) (h : k < o.length), k < posU s o → Op.bytesLess o[k] s = true
  | x :: o, 0, h, hk => by
    simp only [posU] at hk
    split at hk
    · assumption
    · omega
  | x :: o, k + 1, h, hk => by
    simp only [posU] at hk
    split at hk
    · exact posU_lt s o k (by simpa using h) (by omega)
    · omega
theorem posU_at (s : List UInt8) : ∀ (o : List (List UInt8)) (h : posU s o < o.length), Op.bytesLess o[posU s o] s = false
  | x :: o, h => by
    cases hx : Op.bytesLess x s with
    | true =>
      have e : posU s (x :: o) = posU s o + 1 := by simp [posU, hx]
      simp only [e, List.length_cons] at h
      simp only [e, List.getElem_cons_succ]
      exact posU_at s o (by omega)
    | false =>
      have e : posU s (x :: o) = 0 := by simp [posU, hx]
      simp only [e, List.getElem_cons_zero]; exact hx
theorem insU_same (s : List UInt8) : ∀ (o : List (List UInt8)) (h : posU s o < o.length), (o[posU s o] == s) = true → insU s o = o
  | x :: o, h, he => by
    cases hx : Op.bytesLess x s with
    | true =>
      have e : posU s (x :: o) = posU s o + 1 := by simp [posU, hx]
      simp only [e, List.length_cons] at h
      simp only [e, List.getElem_cons_succ] at he
      simp only [insU, hx, if_true, insU_same s o (by omega) he]
    | false =>
      have e : posU s (x :: o) = 0 := by simp [posU, hx]
      simp only [e, List.getElem_cons_zero] at he
      simp only [insU, hx, he, if_true, Bool.false_eq_true, if_false]
theorem insU_new (s : List UInt8) : ∀ (o : List (List UInt8)), (∀ h : posU s o < o.length, (o[posU s o] == s) = false) → insU s o = o.take (posU s o) ++ (s :: o.drop (posU s o))
  | [], _ => rfl
  | x :: o, he => by
    cases hx : Op.bytesLess x s with
    | true =>
      have e : posU s (x :: o) = posU s o + 1 := by simp [posU, hx]
      have := insU_new s o fun h => by
        have := he (by rw [e]; simpa using h)
        simpa only [e, List.getElem_cons_succ] using this
      rw [e]
      simp only [insU, hx, if_true, List.take_succ_cons, List.drop_succ_cons, List.cons_append, ← this]
    | false =>
      have e : posU s (x :: o) = 0 := by simp [posU, hx]
      have h2 := he (by rw [e]; simp)
      simp only [e, List.getElem_cons_zero] at h2
      rw [e]
      simp only [insU, hx, h2, Bool.false_eq_true, if_false, List.take_zero, List.drop_zero, List.nil_append]
theorem insU_mem {s x : List UInt8} : ∀ {o : List (List UInt8)}, x ∈ insU s o ↔ x ∈ o ∨ x = s
  | [] => by simp [insU]
  | y :: o => by
    have ih := insU_mem (s := s) (x := x) (o := o)
    simp only [insU]
    split
    · simp only [List.mem_cons, ih, or_assoc]
    · split
      · rename_i h
        have : y = s := by simpa using h
        subst this
        simp only [List.mem_cons]
        constructor
        · exact .inl
        · rintro (h | rfl)
          · exact h
          · exact .inl rfl
      · simp only [List.mem_cons]
        constructor
        · rintro (h | h)
          · exact .inr h
          · exact .inl h
        · rintro (h | h)
          · exact .inr h
          · exact .inl h
theorem insU_len (s : List UInt8) : ∀ o, (insU s o).length ≤ o.length + 1
  | [] => by simp [insU]
  | x :: o => by have := insU_len s o; simp only [insU]; split <;> (try split) <;> simp only [List.length_cons] <;> omega
theorem setU_len : ∀ (l o : List (List UInt8)), (l.foldl (fun o s => insU s o) o).length ≤ o.length + l.length
  | [], o => by simp
  | s :: l, o => by
    have := setU_len l (insU s o)
    have h2 := insU_len s o
    simp only [List.foldl_cons, List.length_cons]; omega
theorem lt_of (a b : List UInt8) (h : ¬ a < b) (hn : a ≠ b) : b < a := by
  rcases List.le_total a b with h1 | h1
  · have h2 : b ≤ a := List.not_lt.1 h
    exact absurd (List.le_antisymm h1 h2) hn
  · exact List.not_le.1 fun h2 => hn (List.le_antisymm h2 h1)
theorem insU_sorted (s : List UInt8) : ∀ {o : List (List UInt8)}, o.Pairwise (· < ·) → (insU s o).Pairwise (· < ·)
  | [], _ => by simp [insU]
  | x :: o, h => by
    rw [List.pairwise_cons] at h
    simp only [insU, bl_eq, decide_eq_true_eq]
    split
    · rename_i hx
      rw [List.pairwise_cons]
      refine ⟨fun a ha => ?_, insU_sorted s h.2⟩
      rcases insU_mem.1 ha with ha | rfl
      · exact h.1 a ha
      · exact hx
    · rename_i hx
      split
      · rw [List.pairwise_cons]; exact h
      · rename_i hn
        have hsx : s < x := lt_of x s hx (fun e => hn (by simp [e]))
        rw [List.pairwise_cons]
        refine ⟨fun a ha => ?_, by rw [List.pairwise_cons]; exact h⟩
        rcases List.mem_cons.1 ha with rfl | ha
        · exact hsx
        · exact List.lt_trans hsx (h.1 a ha)
theorem setU_sorted : ∀ (l o : List (List UInt8)), o.Pairwise (· < ·) → (l.foldl (fun o s => insU s o) o).Pairwise (· < ·)
  | [], o, h => h
  | s :: l, o, h => setU_sorted l _ (insU_sorted s h)
theorem setU_mem {x : List UInt8} : ∀ {l o : List (List UInt8)}, x ∈ l.foldl (fun o s => insU s o) o ↔ x ∈ o ∨ x ∈ l
  | [], o => by simp
  | s :: l, o => by
    have := setU_mem (x := x) (l := l) (o := insU s o)
    simp only [List.foldl_cons, this, insU_mem, List.mem_cons, or_assoc]
theorem setU_eq (l : List (List UInt8)) : setU l = sortB (addA l []) := by
  have h1 := setU_sorted l [] List.Pairwise.nil
  refine sortB_unique ?_ (h1.imp fun {a b} h => ?_)
  · have hn : (setU l).Nodup := h1.imp fun {a b} h e => by subst e; exact List.lt_irrefl _ h
    refine (List.perm_ext_iff_of_nodup hn (addA_nodup l [] List.nodup_nil)).2 fun a => ?_
    rw [addA_mem]; exact setU_mem
  · simp only [leB, decide_eq_true_eq]; exact List.le_of_lt h
theorem setU_next (l : List (List UInt8)) (i : Nat) (h : i < l.length) : setU (l.take (i + 1)) = insU l[i] (setU (l.take i)) := by
  unfold setU
  rw [List.take_succ_eq_append_getElem h, List.foldl_append]; rfl
theorem setU_take_len (l : List (List UInt8)) (i : Nat) : (setU (l.take i)).length ≤ l.length := by
  have := setU_len (l.take i) []
  unfold setU
  simp only [List.length_nil, List.length_take] at this
  omega
end Go.Proofs.YtcbjhdklbhlmhaaDoor.lex
end

/-
  Registers: the program's Regs hands back the names, rising, each once.
-/
section
set_option linter.unusedVariables false
set_option linter.unusedSimpArgs false
namespace Go.Proofs.YtcbjhdklbhlmhaaDoor.lex
open Go.Abs Go.RowKit
set_option maxRecDepth 100000
set_option maxHeartbeats 4000000
def rgN0 (l : List St) : List (List UInt8) := addA (nmSL l) []
theorem rg_stmts (l : List St) (hok : okSL l) (hl : l.length ≤ 9223372036854775807) (h : sizeSL l ≤ 1048576) : MemOK Tryd.prog runLives.gl 39 [stA l, .int .i64 1, .func (.func 40) [] [.ptr 2 0], .func (.func 41) [] [.ptr 2 0]] (rgH []) (.bool true) (rgH (rgN0 l)) := by
  have hI : rgI 1 [] (sizeSL l + 0) := ⟨by omega, by omega⟩
  have := TvS.stmts rgV (sizeSL l) l 1 [] 0 (Nat.le_refl _) hok hl hI
  have e := goSL_rg l 1 []
  have e1 : (goSL rgV.hE rgV.hS l 1 []).1 = true := congrArg Prod.fst e
  have e2 : (goSL rgV.hE rgV.hS l 1 []).2 = rgN0 l := congrArg Prod.snd e
  rw [e1, e2] at this
  exact this
theorem rg_sorted {orc : Orc} (n : List (List UInt8)) (hk : okKeys n (rgE 0 n) n.length = true) : acall Tryd.prog (orcOr (sortO 42 56) orc) (rgH n ++ [⟨true, 3, 0, .cells [.map 0] 70⟩]) 42 [.func (.func 56) [] [.ptr 3 0]] = some (rsK (sortB n), rgH n ++ [⟨true, 3, 0, .cells [.map 0] 70⟩]) := by
  refine callOr1 (by kernel_rfl) ?_
  have hb : hasBody Tryd.prog 42 = true := by kernel_rfl
  unfold acall
  rw [if_pos hb]
  have h1 : sortAns (rgE 0 n) n.length = some (rsK (sortB n)) := by
    unfold sortAns
    rw [strsE_rg]
    simp only [hk, if_true]
  have h2 : mapIn ⟨true, 3, 0, .cells [.map 0] 70⟩ = some 0 := rfl
  have h3 : mapOf ⟨true, 0, 0, .map (rgE 0 n) n.length⟩ = some (rgE 0 n, n.length) := rfl
  simp only [sortO, if_true, sortArg, rgH]
  show (match mapIn ⟨true, 3, 0, .cells [.map 0] 70⟩ with | some b => _ | none => none) = _
  rw [h2]
  show (match mapOf ⟨true, 0, 0, .map (rgE 0 n) n.length⟩ with | some (es, clock) => _ | none => none) = _
  rw [h3]
  show (match sortAns (rgE 0 n) n.length with | some v => _ | none => none) = _
  rw [h1]
theorem regsX_ok (l : List St) (hok : okSL l) (hl : l.length ≤ 9223372036854775807) (h : sizeSL l ≤ 900000) : ValOK Tryd.prog runLives.gl 22 [stA l] (rsK (sortB (rgN0 l))) := by
  obtain ⟨O, hO, ⟨p1, -⟩, -⟩ := famsM (P := Tryd.prog) (gl := runLives.gl) [{ I := Unit, f := 39, G := (fun _ => True), A := (fun _ => [stA l, .int .i64 1, .func (.func 40) [] [.ptr 2 0], .func (.func 41) [] [.ptr 2 0]]), H := (fun _ => rgH []), R := (fun _ => .bool true), O := (fun _ => rgH (rgN0 l)), body := (by kernel_rfl), inj := (fun _ _ _ _ _ _ => ⟨rfl, rfl⟩), ok := (fun _ _ => rg_stmts l hok hl (by omega)) }] [] rfl
  have hO2 := orcOr_sound (shelf.sound (gl := runLives.gl)) hO
  have q1 : acall Tryd.prog (orcOr (sortO 42 56) O) (rgH []) 39 [stA l, .int .i64 1, .func (.func 40) [] [.ptr 2 0], .func (.func 41) [] [.ptr 2 0]] = some (.bool true, rgH (rgN0 l)) := callOr2 (by kernel_rfl) rfl (p1 () trivial)
  have hlen := addA_len (nmSL l) []
  have hlen2 := nmSL_len l
  simp only [List.length_nil] at hlen
  have hk : okKeys (rgN0 l) (rgE 0 (rgN0 l)) (rgN0 l).length = true := by
    refine rg_keys (addA_nodup _ _ List.nodup_nil) (fun x hx => ?_) (by unfold rgN0; omega)
    rcases addA_mem.1 hx with hx | hx
    · cases hx
    · exact nmSL_ok hok x hx
  have q2 := rg_sorted (orc := O) (rgN0 l) hk
  simp only [stA, rgH] at q1 q2 ⊢
  generalize rgE 0 (rgN0 l) = es at *
  generalize (rgN0 l).length = c at *
  refine fn_valI (fun g => Nat.beq g 39 || Nat.beq g 42) 2 follows noNum hO2 Tryd.func22 rfl ?_
  repeat' ((conv => whnf); first | (refine exI q1 ?_) | (refine exI q2 ?_) | (first | refine stp ?_ | with_reducible refine condB (fun h => ?_) (fun h => ?_)))
  all_goals (conv => whnf)
  all_goals rfl
end Go.Proofs.YtcbjhdklbhlmhaaDoor.lex
end

/-
  Put, of both; names, of both.
-/
section
set_option linter.unusedVariables false
set_option linter.unusedSimpArgs false
namespace Go.Proofs.YtcbjhdklbhlmhaaDoor.lex
open Go.Abs Go.RowKit
set_option maxRecDepth 100000
set_option maxHeartbeats 4000000
variable {gl : Glob}
def oneV {gl : Glob} {f : Nat} {A : List AV} {R : AV} (G : Prop) (hb : hasBody Tryd.prog f = true) (hr : refsL A [] = []) (h : G → ValOK Tryd.prog gl f A R) : Fam Tryd.prog gl := { I := Unit, f := f, G := fun _ => G, A := fun _ => A, R := fun _ => R, body := hb, inj := (fun _ _ _ _ _ => rfl), ok := (fun _ hG => ⟨hr, h hG⟩) }
/-- Why it may not be put in. -/
def putI (e : Ex) (nm : List UInt8) (b : Ex) : Int := if checkE e ≠ 0 then checkE e else if checkE b ≠ 0 then checkE b else if 2000 < sizeE (putE nm b e) then 3 else checkE (putE nm b e)
def putO (e : Ex) (nm : List UInt8) (b : Ex) : AV := .tuple [.agg (if putI e nm b = 0 then putE nm b e else zeroX).cells, .int .i64 (putI e nm b)]
theorem okI_put {e b : Ex} {nm : List UInt8} (he : goodE e) (hb : goodE b) : okI (putE nm b e) := ⟨(good_put hb he).2.2, (good_put hb he).2.1⟩
theorem PutX_ok (e : Ex) (nm : List UInt8) (b : Ex) (hi : okI e) (hbi : okI b) (hs : sizeE e ≤ 1048576) (hbs : sizeE b ≤ 1048576) : ValOK Tryd.prog runLives.gl 12 [.agg e.cells, .str nm, .agg b.cells] (putO e nm b) := by
  have hgrow : goodE e ∧ goodE b → sizeE (putE nm b e) ≤ 2000 → True := fun _ _ => trivial
  obtain ⟨O, hO, p1, p2, p3, p4, -⟩ := fams (P := Tryd.prog) (gl := runLives.gl) [famSelf (f := 19) (by kernel_rfl) (fun x => okE x ∧ sizeE x ≤ 1048576) (fun x => .int .i64 (checkE x)) (fun x hx => checkEX_ok x hx.1 hx.2),
    famOne (f := 24) (by kernel_rfl) b True (.int .i64 (sizeE b)) (fun _ => sizeX_ok _ b (Nat.le_refl _) hbs),
    oneV (f := 23) (A := [.agg e.cells, .str nm, .int .i64 (sizeE b)]) (R := .int .i64 (growE nm (sizeE b) e)) True (by kernel_rfl) (by obtain ⟨a', b', c', d'⟩ := e; rfl) (fun _ => grownX_ok nm (sizeE b) hbs _ e (Nat.le_refl _) hs),
    oneV (f := 25) (A := [.agg e.cells, .str nm, .agg b.cells]) (R := .agg (putE nm b e).cells) (goodE e ∧ goodE b) (by kernel_rfl) (by obtain ⟨a', b', c', d'⟩ := e; obtain ⟨a2, b2, c2, d2⟩ := b; rfl) (fun h => putX_ok nm b e h.2 h.1 hbs hs)] rfl
  have q1 : ∀ H, acall Tryd.prog O H 19 [.agg e.cells] = some (.int .i64 (checkE e), H) := p1 e ⟨hi.1, hs⟩
  have q1b : ∀ H, acall Tryd.prog O H 19 [.agg b.cells] = some (.int .i64 (checkE b), H) := p1 b ⟨hbi.1, hbs⟩
  have q1c : okE (putE nm b e) ∧ sizeE (putE nm b e) ≤ 1048576 → ∀ H, acall Tryd.prog O H 19 [.agg (putE nm b e).cells] = some (.int .i64 (checkE (putE nm b e)), H) := p1 _
  have q2 : ∀ H, acall Tryd.prog O H 24 [.agg b.cells] = some (.int .i64 (sizeE b), H) := p2 () trivial
  have q3 : ∀ H, acall Tryd.prog O H 23 [.agg e.cells, .str nm, .int .i64 (sizeE b)] = some (.int .i64 (growE nm (sizeE b) e), H) := p3 () trivial
  have q4 : goodE e ∧ goodE b → ∀ H, acall Tryd.prog O H 25 [.agg e.cells, .str nm, .agg b.cells] = some (.agg (putE nm b e).cells, H) := p4 ()
  clear p1 p2 p3 p4 hgrow
  have hge := fun h => (check0 (e := e) h hi).1
  have hgb := fun h => (check0 (e := b) h hbi).1
  have hgp := fun (h1 : goodE e) (h2 : goodE b) => okI_put (nm := nm) h1 h2
  rw [grow_size] at q3
  have hI : putI e nm b = if checkE e ≠ 0 then checkE e else if checkE b ≠ 0 then checkE b else if 2000 < sizeE (putE nm b e) then 3 else checkE (putE nm b e) := rfl
  unfold putO
  generalize putI e nm b = pI at *
  generalize putE nm b e = t at *
  generalize hc1 : checkE e = c1 at *
  generalize hc2 : checkE b = c2 at *
  generalize hc3 : checkE t = c3 at *
  have hsz := sizeE_pos t
  by_cases h1 : c1 = 0
  · by_cases h2 : c2 = 0
    · by_cases h3 : sizeE t ≤ 2000
      · replace q4 := q4 ⟨hge h1, hgb h2⟩
        replace q1c := q1c ⟨(hgp (hge h1) (hgb h2)).1, by omega⟩
        have e3 : decide ((sizeE t : Int) > 2000) = false := by simp; omega
        clear hge hgb hgp hi hbi hs hbs hc1 hc2 hc3
        rw [if_neg (fun h => h h1), if_neg (fun h => h h2), if_neg (by omega)] at hI
        subst hI
        generalize sizeE t = tz at *
        generalize sizeE b = bz at *
        obtain ⟨eo, en, es, ek⟩ := e
        obtain ⟨bo, bn, bs, bk⟩ := b
        obtain ⟨to, tn, ts, tkk⟩ := t
        simp only [Ex.cells, exA] at q1 q1b q1c q2 q3 q4 ⊢
        subst h1
        subst h2
        by_cases h4 : pI = 0
        · subst h4
          rw [if_pos rfl]
          refine fn_valW follows noNum hO Tryd.func12 rfl ?_
          repeat' ((conv => whnf); first | (with_reducible refine exI (q1 _) ?_) | (with_reducible refine exI (q1b _) ?_) | (with_reducible refine exI (q1c _) ?_) | (with_reducible refine exI (q2 _) ?_) | (with_reducible refine exI (q3 _) ?_) | (with_reducible refine exI (q4 _) ?_) | (first | refine stp ?_ | with_reducible refine condB (fun h => ?_) (fun h => ?_)))
          all_goals exact fun _ _ h => h
        · rw [if_neg h4]
          have e4 : (pI != 0) = true := bne_of (b := false) (by simpa using h4)
          simp only [zeroX, exC, List.length_nil]
          refine fn_valW follows noNum hO Tryd.func12 rfl ?_
          repeat' ((conv => whnf); first | (with_reducible refine exI (q1 _) ?_) | (with_reducible refine exI (q1b _) ?_) | (with_reducible refine exI (q1c _) ?_) | (with_reducible refine exI (q2 _) ?_) | (with_reducible refine exI (q3 _) ?_) | (with_reducible refine exI (q4 _) ?_) | (first | refine stp ?_ | with_reducible refine condB (fun h => ?_) (fun h => ?_)))
          all_goals exact fun _ _ h => nil4t h
      · have e3 : decide ((sizeE t : Int) > 2000) = true := by simp; omega
        clear hge hgb hgp hi hbi hs hbs hc1 hc2 hc3 q1c q4
        rw [if_neg (fun h => h h1), if_neg (fun h => h h2), if_pos (by omega)] at hI
        rw [hI, if_neg (by decide)]
        generalize sizeE t = tz at *
        generalize sizeE b = bz at *
        obtain ⟨eo, en, es, ek⟩ := e
        obtain ⟨bo, bn, bs, bk⟩ := b
        simp only [Ex.cells, exA, zeroX, exC, List.length_nil] at q1 q1b q2 q3 ⊢
        subst h1
        subst h2
        refine fn_valW follows noNum hO Tryd.func12 rfl ?_
        repeat' ((conv => whnf); first | (with_reducible refine exI (q1 _) ?_) | (with_reducible refine exI (q1b _) ?_) | (with_reducible refine exI (q2 _) ?_) | (with_reducible refine exI (q3 _) ?_) | (first | refine stp ?_ | with_reducible refine condB (fun h => ?_) (fun h => ?_)))
        all_goals exact fun _ _ h => nil4t h
    · clear hge hgb hgp hi hbi hs hbs hc1 hc2 hc3 q1c q4 q2 q3
      have e2 : (c2 != 0) = true := bne_of (b := false) (by simpa using h2)
      rw [if_neg (fun h => h h1), if_pos h2] at hI
      rw [hI, if_neg h2]
      obtain ⟨eo, en, es, ek⟩ := e
      obtain ⟨bo, bn, bs, bk⟩ := b
      simp only [Ex.cells, exA, zeroX, exC, List.length_nil] at q1 q1b ⊢
      subst h1
      refine fn_valW follows noNum hO Tryd.func12 rfl ?_
      repeat' ((conv => whnf); first | (with_reducible refine exI (q1 _) ?_) | (with_reducible refine exI (q1b _) ?_) | (first | refine stp ?_ | with_reducible refine condB (fun h => ?_) (fun h => ?_)))
      all_goals exact fun _ _ h => nil4t h
  · clear hge hgb hgp hi hbi hs hbs hc1 hc2 hc3 q1c q4 q2 q3
    have e2 : (c1 != 0) = true := bne_of (b := false) (by simpa using h1)
    rw [if_pos h1] at hI
    rw [hI, if_neg h1]
    obtain ⟨eo, en, es, ek⟩ := e
    obtain ⟨bo, bn, bs, bk⟩ := b
    simp only [Ex.cells, exA, zeroX, exC, List.length_nil] at q1 q1b ⊢
    refine fn_valW follows noNum hO Tryd.func12 rfl ?_
    repeat' ((conv => whnf); first | (with_reducible refine exI (q1 _) ?_) | (with_reducible refine exI (q1b _) ?_) | (first | refine stp ?_ | with_reducible refine condB (fun h => ?_) (fun h => ?_)))
    all_goals exact fun _ _ h => nil4t h
theorem check_put {e b : Ex} {nm : List UInt8} (he : goodE e) (hb : goodE b) (h : sizeE (putE nm b e) ≤ 2000) : checkE (putE nm b e) = 0 ∨ checkE (putE nm b e) = 3 := by
  have hr := (good_put (nm := nm) hb he).1
  unfold checkE
  rw [if_pos hr]
  split
  · exact .inr rfl
  · exact .inl rfl
end Go.Proofs.YtcbjhdklbhlmhaaDoor.lex
end

/-
  A verified abstract interpreter, part 49: a call that is handed memory of ours for good: what it hands back may hold of it, and nothing of ours is written any more.
-/
section
set_option linter.unusedSimpArgs false
set_option linter.unusedVariables false
namespace Go.Abs
open Go.RowKit

section
open Classical
/-- What is known of memory, and what stands in living blocks of ours. -/
noncomputable def snO (sn : Snap) (ι : IMap) (H : AHeap) (W : World) : Snap := fun a => if ∃ (b : Nat) (o : AObj) (p : Place), H[b]? = some o ∧ o.alive = true ∧ ι b = some p ∧ p.blk = a.block then W.cell? a else sn a
end
def orcD (F : Nat → List AV → Option AV) : Orc := fun f args H => match frzL (frz H 30) args with
  | some az => match F f az with | some r => some (r, kil (fun _ _ => true) 0 H) | none => none
  | none => none
theorem cell_lt {W : World} {a : Addr} {v : Value} (hv : W.cell? a = some v) : a.block < W.heap.size := by
  cases hq : W.heap[a.block]? with
  | none => unfold World.cell? at hv; rw [hq] at hv; simp at hv
  | some ob => exact (Array.getElem?_eq_some_iff.1 hq).1
theorem orcD_sound {P : Program} {gl : Glob} {F : Nat → List AV → Option AV} (h : ∀ f args r, F f args = some r → ValOK P gl f args r) : OrcSound P gl (orcD F) := by
  intro f args H r H' hf sn ι W cargs hg hR ha
  unfold orcD at hf
  split at hf <;> try (simp at hf; done)
  rename_i az has
  split at hf <;> simp at hf
  rename_i r' hr
  obtain ⟨rfl, rfl⟩ := hf
  have h2 := h f az r' hr
  have hle : ∀ a v, sn a = some v → snO sn ι H W a = some v := fun a v hv => by
    unfold snO
    split
    · exact (hR.snap a v hv).2.1
    · exact hv
  have hcell : ∀ a v, snO sn ι H W a = some v → W.cell? a = some v := fun a v hv => by
    unfold snO at hv
    split at hv
    · exact hv
    · exact (hR.snap a v hv).2.1
  have hR' : R (snO sn ι H W) noI [] W :=
    ⟨fun b => ⟨fun hb => by simp at hb, fun ⟨p, hp⟩ => by simp [noI] at hp⟩, fun b p hp => by simp [noI] at hp, fun b o p hb => by simp at hb, fun b b' o o' p p' hb => by simp at hb,
      fun a v hv => ⟨cell_lt (hcell a v hv), hcell a v hv, fun b o p hb => by simp at hb⟩, fun b o p hb => by simp at hb⟩
  have hargs : LR (snO sn ι H W) noI az cargs := frzL_sound (fun u r v => frz_sound2 hR.obj ⟨hle, fun _ _ h => h⟩ (fun b o p hb hal hp off v hv => by
    unfold snO; rw [if_pos ⟨b, o, p, hb, hal, hp, rfl⟩]; exact hv) 30 u r v) has ha
  refine (h2 _ W cargs (hg.mono (gl_le hle)) hR' hargs).mono ?_
  rintro e W' ⟨v, rfl, hx, hv⟩
  generalize hs1 : snx (snO sn ι H W) W.heap.size W' = s1 at hv
  have h1lt : ∀ a, a.block < W.heap.size → s1 a = snO sn ι H W a := fun a ha => by rw [← hs1]; unfold snx; rw [if_pos ha]
  have h1ge : ∀ a, ¬ a.block < W.heap.size → s1 a = W'.cell? a := fun a ha => by rw [← hs1]; unfold snx; rw [if_neg ha]
  have hle1 : ∀ a v, sn a = some v → s1 a = some v := fun a v hv => by rw [h1lt a (hR.snap a v hv).1]; exact hle a v hv
  have hcell1 : ∀ a v, s1 a = some v → W'.cell? a = some v := fun a v hv => by
    by_cases hlt : a.block < W.heap.size
    · rw [h1lt a hlt] at hv
      have := hcell a v hv
      unfold World.cell? at this ⊢
      rw [hx.old _ hlt]; exact this
    · rw [h1ge a hlt] at hv; exact hv
  refine ⟨v, s1, ι, rfl, VR_noI hv, ⟨fun b => ⟨fun hb => ?_, fun ⟨p, hp⟩ => ?_⟩, fun b p hp => ?_, fun b o p hb hal hp => ?_, fun b b' o o' p p' hb hb' hp hp' e => ?_, fun a v hv => ?_, fun b o p hb hp e => ?_⟩, ⟨hle1, fun _ _ h => h⟩, fun b p hp => .inl hp, fun c hc _ => hx.old c hc, hx.size, hx.os, hx.tape, hx.output, fun a v hv => ?_, fun b o hb => ?_⟩
  · rw [kil_length] at hb; exact (hR.dom b).1 hb
  · rw [kil_length]; exact (hR.dom b).2 ⟨p, hp⟩
  · have := hR.blk b p hp; have := hx.size; omega
  · obtain ⟨o0, _, _, _, h4⟩ := kil_some hb
    have := (h4 hal).2; simp at this
  · obtain ⟨o0, g1, g2, g3, _⟩ := kil_some hb
    obtain ⟨o0', g1', g2', g3', _⟩ := kil_some hb'
    rw [g2, g3, g2', g3']
    exact hR.sep b b' o0 o0' p p' g1 g1' hp hp' e
  · refine ⟨cell_lt (hcell1 a v hv), hcell1 a v hv, fun b o p hb hal hp => ?_⟩
    obtain ⟨o0, _, _, _, h4⟩ := kil_some hb
    have := (h4 hal).2; simp at this
  · obtain ⟨o0, g1, g2, g3, _⟩ := kil_some hb
    exact hR.shz b o0 p g1 hp (by rw [← g3]; exact e)
  · by_cases hlt : a.block < W.heap.size
    · rw [h1lt a hlt] at hv
      unfold snO at hv
      split at hv
      · rename_i hex
        obtain ⟨b, o, p, x1, x2, x3, x4⟩ := hex
        exact .inr (.inr ⟨b, o, p, x1, x2, x3, x4⟩)
      · exact .inl hv
    · exact .inr (.inl (by omega))
  · rw [kil_get, hb]
    simp only [Nat.zero_add, Option.map_some]
    refine ⟨_, rfl, ?_⟩
    simp [AObj.dead]
theorem callD {P : Program} {F : Nat → List AV → Option AV} {H : AHeap} {g : Nat} {args fa : List AV} {r : AV} (h1 : hasBody P g = true) (h2 : frzL (frz H 30) args = some fa) (h3 : F g fa = some r) : acall P (orcD F) H g args = some (r, kil (fun _ _ => true) 0 H) := by
  simp only [acall, h1, if_true, orcD, h2, h3]
end Go.Abs
end

/-
  Names of registers, of both.
-/
section
set_option linter.unusedVariables false
set_option linter.unusedSimpArgs false
namespace Go.Proofs.YtcbjhdklbhlmhaaDoor.lex
open Go.Abs Go.RowKit
set_option maxRecDepth 100000
set_option maxHeartbeats 4000000
variable {gl : Glob}
def nmsO (e : Ex) : AV := rsK (sortB (addA (nmE e) []))
def nmSt (e : Ex) : St := .mk 0 [] [] 0 [e] [] []
theorem nmSt_names (e : Ex) : rgN0 [nmSt e] = addA (nmE e) [] := by
  unfold rgN0
  congr 1
  simp [nmSt, nmSL, nmS, nmL]
def nmA (e : Ex) : AV := .rs 1 7 [.int .i64 0, .str [], .str [], .int .i64 0, .rs 1 4 e.cells, .nslice, .nslice]
theorem nm_weak (e : Ex) : ∀ sn vs, LR sn noI [nmA e] vs → LR sn noI [stA [nmSt e]] vs := by
  intro sn vs h
  have hE : stA [nmSt e] = .rs 1 7 [.int .i64 0, .str [], .str [], .int .i64 0, .rs 1 4 e.cells, .rs 0 7 [], .rs 0 7 []] := by
    obtain ⟨o, m, s, k⟩ := e; rfl
  rw [hE]
  simp only [nmA, LR] at h ⊢
  obtain ⟨d, ds, rfl, h1, h2⟩ := h
  refine ⟨d, ds, rfl, ?_, h2⟩
  unfold VR at h1 ⊢
  rcases h1 with ⟨h1, _⟩ | ⟨a, cap, x1, x2, x3, x4, x5⟩
  · cases h1
  · refine .inr ⟨a, cap, x1, x2, rfl, ?_, x5⟩
    simp only [MR] at x4 ⊢
    obtain ⟨m1, m2, m3, m4, m5, ⟨v6, n6, k6⟩, ⟨v7, n7, k7⟩, m8⟩ := x4
    exact ⟨m1, m2, m3, m4, m5, ⟨v6, n6, nil_rs k6⟩, ⟨v7, n7, nil_rs k7⟩, m8⟩
section
open Classical
noncomputable def nmF (g : Nat) (e : Ex) : Nat → List AV → Option AV := fun f fa => if f = g ∧ fa = [nmA e] then some (nmsO e) else none
end
theorem nmF_sound (g : Nat) (e : Ex) (h : ValOK Tryd.prog gl g [stA [nmSt e]] (rsK (sortB (rgN0 [nmSt e])))) : OrcSound Tryd.prog gl (orcD (nmF g e)) := orcD_sound fun f args r hr => by
  unfold nmF at hr
  split at hr
  · rename_i h2
    obtain ⟨rfl, rfl⟩ := h2
    simp only [Option.some.injEq] at hr
    subst hr
    rw [nmSt_names] at h
    exact h.weak (nm_weak e)
  · cases hr
theorem nmSt_ok {e : Ex} (hok : okE e) : okSL [nmSt e] := by
  simp [okSL, nmSt, okS, okL, okN, hok]
theorem nmSt_size (e : Ex) : sizeSL [nmSt e] = 1 + sizeE e := by simp [nmSt, sizeSL, sizeS, sizeL]
theorem NamesX_ok (e : Ex) (hok : okE e) (hs : sizeE e ≤ 800000) : ValOK Tryd.prog runLives.gl 11 [.agg e.cells] (nmsO e) := by
  have hO := nmF_sound 22 e (regsX_ok [nmSt e] (nmSt_ok hok) (by simp) (by rw [nmSt_size]; omega))
  have hq : ∀ H args, frzL (frz H 30) args = some [nmA e] → acall Tryd.prog (orcD (nmF 22 e)) H 22 args = some (nmsO e, kil (fun _ _ => true) 0 H) := fun H args h => callD (by kernel_rfl) h (by unfold nmF; exact if_pos ⟨rfl, rfl⟩)
  generalize orcD (nmF 22 e) = O at *
  unfold nmsO rsK at hq ⊢
  generalize sortB (addA (nmE e) []) = l at *
  obtain ⟨op, num, name, kids⟩ := e
  simp only [Ex.cells, exA, nmA] at hq ⊢
  refine fn_val follows noNum hO Tryd.func11 rfl ?_
  repeat' ((conv => whnf); first | (refine exI (hq _ _ rfl) ?_) | (first | refine stp ?_ | with_reducible refine condB (fun h => ?_) (fun h => ?_)))
  all_goals rfl
end Go.Proofs.YtcbjhdklbhlmhaaDoor.lex
end

/-
  Made simple it comes to the same; put in it comes to what the register would have (plain laws).
-/
section
set_option linter.unusedVariables false
set_option linter.unusedSimpArgs false
namespace Go.Proofs.YtcbjhdklbhlmhaaDoor.lex
open Go.Abs Go.RowKit
set_option maxRecDepth 100000
set_option maxHeartbeats 4000000
/-! the same expression -/
mutual
theorem sameE_eq : ∀ {a b : Ex}, sameE a b = true → a = b
  | .mk o n s k, .mk o' n' s' k', h => by
    simp only [sameE, Bool.and_eq_true, beq_iff_eq] at h
    obtain ⟨rfl, rfl, rfl, h⟩ := h
    rw [sameL_eqL h]
theorem sameL_eqL : ∀ {a b : List Ex}, sameL a b = true → a = b
  | [], [], _ => rfl
  | [], _ :: _, h => by simp [sameL] at h
  | _ :: _, [], h => by simp [sameL] at h
  | x :: a, y :: b, h => by
    simp only [sameL, Bool.and_eq_true] at h
    rw [sameE_eq h.1, sameL_eqL h.2]
end
/-! in range -/
def inI (n : Int) : Prop := -9223372036854775808 ≤ n ∧ n ≤ 9223372036854775807
def inR (r : List UInt8 → Int) : Prop := ∀ s, inI (r s)
theorem eval_in {r : List UInt8 → Int} (hr : inR r) : ∀ {e : Ex}, inE e → inI (evalE r e)
  | .mk op num name kids, h => by
    simp only [inE] at h
    simp only [evalE]
    cases (op == 1) with
    | true => exact h.1
    | false =>
      cases (op == 2) with
      | true => exact hr name
      | false => exact doI_range _ _
theorem bv_wrap {x : Int} (h : inI x) : IntKind.i64.wrap ((BitVec.ofInt 64 x).toNat : Int) = x := by
  obtain ⟨h1, h2⟩ := h
  rw [BitVec.toNat_ofInt, w64]; omega
theorem bor_r {x : Int} (h : inI x) : twoI 11 x 0 = x := by
  have : twoI 11 x 0 = IntKind.i64.wrap (bits .or .u64 (IntKind.u64.wrap x) (IntKind.u64.wrap 0)) := by simp [twoI]
  rw [this, bits_or, of_wrap, of_wrap]
  rw [show BitVec.ofInt 64 0 = 0#64 from rfl, BitVec.or_zero, bv_wrap h]
theorem bor_l {x : Int} (h : inI x) : twoI 11 0 x = x := by
  have : twoI 11 0 x = IntKind.i64.wrap (bits .or .u64 (IntKind.u64.wrap 0) (IntKind.u64.wrap x)) := by simp [twoI]
  rw [this, bits_or, of_wrap, of_wrap]
  rw [show BitVec.ofInt 64 0 = 0#64 from rfl, BitVec.zero_or, bv_wrap h]
theorem xor_r {x : Int} (h : inI x) : twoI 12 x 0 = x := by
  have : twoI 12 x 0 = IntKind.i64.wrap (bits .xor .u64 (IntKind.u64.wrap x) (IntKind.u64.wrap 0)) := by simp [twoI]
  rw [this, bits_xor, of_wrap, of_wrap]
  rw [show BitVec.ofInt 64 0 = 0#64 from rfl, BitVec.xor_zero, bv_wrap h]
theorem xor_l {x : Int} (h : inI x) : twoI 12 0 x = x := by
  have : twoI 12 0 x = IntKind.i64.wrap (bits .xor .u64 (IntKind.u64.wrap 0) (IntKind.u64.wrap x)) := by simp [twoI]
  rw [this, bits_xor, of_wrap, of_wrap]
  rw [show BitVec.ofInt 64 0 = 0#64 from rfl, BitVec.zero_xor, bv_wrap h]
/-! made simple -/
theorem eval_num (r : List UInt8 → Int) (v : Int) : evalE r (numX v) = v := by simp [numX, evalE]
theorem eval_isX {r : List UInt8 → Int} {e : Ex} {n : Int} (h : isX e n = true) : evalE r e = n := by
  obtain ⟨o, m, s, k⟩ := e
  simp only [isX, Ex.op, Ex.num, Bool.and_eq_true, beq_iff_eq] at h
  obtain ⟨rfl, rfl⟩ := h
  simp [evalE]
theorem mk_eval (r : List UInt8 → Int) {op : Int} (h : 3 ≤ op) (num : Int) (name : List UInt8) (ks : List Ex) : evalE r (.mk op num name ks) = (doI op (evalL r ks)).1 := by
  have h1 : (op == 1) = false := by simpa using (show op ≠ 1 by omega)
  have h2 : (op == 2) = false := by simpa using (show op ≠ 2 by omega)
  simp only [evalE, h1, h2, cond_false]
theorem eval_two {r : List UInt8 → Int} (hr : inR r) {op : Int} {a b : Ex} (h5 : 5 ≤ op) (h16 : op ≤ 16) (ha : inE a) (hb : inE b) : evalE r (twoS op a b) = twoI op (evalE r a) (evalE r b) := by
  have hx := eval_in hr ha
  have hy := eval_in hr hb
  have hmk : evalE r (.mk op 0 [] [a, b]) = twoI op (evalE r a) (evalE r b) := by
    rw [mk_eval r (by omega)]; simp only [evalL, doI]; rw [if_pos ⟨h5, h16⟩]
  have hx' := hx
  have hy' := hy
  obtain ⟨hx1, hx2⟩ := hx'
  obtain ⟨hy1, hy2⟩ := hy'
  unfold twoS
  simp only [cond_eq_ite]
  split
  · rename_i h
    simp only [Bool.or_eq_true, Bool.and_eq_true, beq_iff_eq] at h
    rcases h with ⟨rfl, h⟩ | ⟨rfl, h⟩ | ⟨rfl, h⟩ | ⟨rfl, h⟩ | ⟨rfl, h⟩ <;> rw [eval_isX (r := r) h]
    · rw [plusI, w64]; omega
    · rw [minusI, w64]; omega
    · rw [timesI, Int.mul_one, w64]; omega
    · exact (bor_r hx).symm
    · exact (xor_r hx).symm
  · split
    · rename_i h
      simp only [Bool.or_eq_true, Bool.and_eq_true, beq_iff_eq] at h
      rcases h with ⟨rfl, h⟩ | ⟨rfl, h⟩ | ⟨rfl, h⟩ | ⟨rfl, h⟩ <;> rw [eval_isX (r := r) h]
      · rw [plusI, w64]; omega
      · rw [timesI, Int.one_mul, w64]; omega
      · exact (bor_l hy).symm
      · exact (xor_l hy).symm
    · split
      · rename_i h
        simp only [Bool.or_eq_true, Bool.and_eq_true, beq_iff_eq] at h
        rw [eval_num]
        rcases h with ⟨rfl | rfl, h | h⟩ <;> rw [eval_isX (r := r) h]
        · rw [timesI, Int.mul_zero]; rfl
        · rw [timesI, Int.zero_mul]; rfl
        · exact (band_0 _).symm
        · exact (band_0' _).symm
      · split
        · exact hmk
        · rename_i h
          have hs : a = b := sameE_eq (by simpa using h)
          subst hs
          split
          · rename_i h
            simp only [Bool.or_eq_true, beq_iff_eq] at h
            rw [eval_num]
            rcases h with rfl | rfl
            · simp [twoI, truthI]
            · simp [twoI, truthI]
          · split
            · rename_i h
              simp only [Bool.or_eq_true, beq_iff_eq] at h
              rw [eval_num]
              rcases h with rfl | rfl | rfl | rfl
              · simp [twoI, truthI]
              · simp [twoI, truthI]
              · exact (xor_s _).symm
              · rw [minusI, Int.sub_self]; rfl
            · exact hmk
theorem negI_neg {x : Int} (h : inI x) : oneI 3 (oneI 3 x) = x := by
  obtain ⟨h1, h2⟩ := h
  have e : ∀ a, oneI 3 a = IntKind.i64.wrap (IntKind.u64.wrap (0 - IntKind.u64.wrap a)) := fun a => by simp [oneI]
  rw [e, e]
  simp only [w64, wu64]; omega
theorem kids2 {op : Int} (h : kidsI op = 2) : 5 ≤ op ∧ op ≤ 16 := by
  unfold kidsI at h
  split at h
  · omega
  · split at h
    · omega
    · split at h
      · assumption
      · omega
theorem eval_rule {r : List UInt8 → Int} (hr : inR r) {op : Int} {ks : List Ex} (h3 : 3 ≤ op) (hl : kidsI op = (ks.length : Int)) (hk : ∀ k ∈ ks, goodE k) : evalE r (ruleS op ks) = (doI op (evalL r ks)).1 := by
  unfold ruleS
  split
  · rename_i a b
    obtain ⟨h5, h16⟩ := kids2 (op := op) (by simpa using hl)
    rw [eval_two hr h5 h16 (hk a (by simp)).2.1 (hk b (by simp)).2.1]
    simp only [evalL, doI]; rw [if_pos ⟨h5, h16⟩]
  · rename_i k l hn
    have hkk := hk k (by simp)
    simp only [cond_eq_ite]
    split
    · rename_i h
      simp only [Bool.and_eq_true, beq_iff_eq] at h
      obtain ⟨rfl, h⟩ := h
      obtain ⟨o, m, s, kk⟩ := k
      obtain ⟨g1, g2, _⟩ := goodE_kids hkk
      simp only [Ex.op] at h
      subst h
      have h1 : kk.length = 1 := by have : (1 : Int) = kk.length := g1; omega
      have h2 : l = [] := List.eq_nil_of_length_eq_zero (by have h5 : (1 : Int) = ((Ex.mk 3 m s kk :: l).length : Int) := hl; simp only [List.length_cons] at h5; omega)
      subst h2
      match kk, h1 with
      | [x], _ =>
        simp only [Ex.kids, List.headD_cons, evalL]
        rw [mk_eval r (by omega)]
        simp only [evalL, doI, true_or, if_true]
        exact (negI_neg (eval_in hr (g2 x (by simp)).2.1)).symm
    · exact mk_eval r h3 _ _ _
  · exact mk_eval r h3 _ _ _
theorem evalL_nums (r : List UInt8 → Int) : ∀ {ks : List Ex}, (ks.all fun k => k.op == 1) = true → evalL r ks = ks.map Ex.num
  | [], _ => rfl
  | .mk o m s k :: l, h => by
    simp only [List.all_cons, Bool.and_eq_true, Ex.op, beq_iff_eq] at h
    obtain ⟨rfl, h⟩ := h
    simp only [evalL, List.map_cons, evalL_nums r h, Ex.num]
    simp [evalE]
theorem eval_out {r : List UInt8 → Int} (hr : inR r) {op : Int} {ks : List Ex} (h3 : 3 ≤ op) (hl : kidsI op = (ks.length : Int)) (hk : ∀ k ∈ ks, goodE k) : evalE r (outS op ks) = (doI op (evalL r ks)).1 := by
  unfold outS
  simp only [cond_eq_ite]
  split
  · rename_i h
    split
    · rw [eval_num, evalL_nums r h]
    · exact mk_eval r h3 _ _ _
  · exact eval_rule hr h3 hl hk
mutual
theorem eval_simp {r : List UInt8 → Int} (hr : inR r) : ∀ {e : Ex}, goodE e → evalE r (simpE e) = evalE r e
  | .mk op num name [], h => by simp only [simpE]
  | .mk op num name (k :: l), h => by
    obtain ⟨g1, g2, _⟩ := goodE_kids h
    obtain ⟨g3, g4⟩ := kidsI_op (n := l.length) g1
    have e1 := eval_simp hr (g2 k (by simp))
    have e2 := eval_simpL hr (l := l) (fun y hy => g2 y (by simp [hy]))
    simp only [simpE]
    rw [eval_out hr g3 (by rw [g1, simpL_map]; simp) ?_, mk_eval r g3]
    · simp only [evalL, e1, e2]
    · intro x hx
      rcases List.mem_cons.1 hx with rfl | hx
      · exact good_simp (g2 k (by simp))
      · exact good_simpL (fun y hy => g2 y (by simp [hy])) x hx
theorem eval_simpL {r : List UInt8 → Int} (hr : inR r) : ∀ {l : List Ex}, (∀ e ∈ l, goodE e) → evalL r (simpL l) = evalL r l
  | [], _ => by simp only [simpL]
  | e :: l, h => by
    have e1 := eval_simp hr (h e (by simp))
    have e2 := eval_simpL hr (l := l) (fun y hy => h y (by simp [hy]))
    simp only [simpL, evalL, e1, e2]
end
/-! registers that are not named change nothing -/
mutual
theorem eval_names {r r' : List UInt8 → Int} : ∀ {e : Ex}, goodE e → (∀ s ∈ nmE e, r s = r' s) → evalE r e = evalE r' e
  | .mk op num name kids, h, hs => by
    obtain ⟨g1, g2, _⟩ := goodE_kids h
    simp only [nmE, List.mem_append] at hs
    have e2 := eval_namesL (r := r) (r' := r') g2 (fun s h => hs s (.inr h))
    simp only [evalE, e2]
    cases ho1 : (op == 1) with
    | true => rfl
    | false =>
      cases ho : (op == 2) with
      | true =>
        simp only [cond_true, cond_false]
        have hne := hit_ne (nm := name) h ho (by simp)
        refine hs name (.inl ?_)
        have : (name == []) = false := by simpa using hne
        rw [ho, this]; simp
      | false => rfl
theorem eval_namesL {r r' : List UInt8 → Int} : ∀ {l : List Ex}, (∀ e ∈ l, goodE e) → (∀ s ∈ nmL l, r s = r' s) → evalL r l = evalL r' l
  | [], _, _ => by simp only [evalL]
  | e :: l, h, hs => by
    simp only [nmL, List.mem_append] at hs
    simp only [evalL]
    rw [eval_names (h e (by simp)) fun s h => hs s (.inl h), eval_namesL (fun y hy => h y (by simp [hy])) fun s h => hs s (.inr h)]
end
/-! put in -/
mutual
theorem eval_put (r : List UInt8 → Int) (nm : List UInt8) (b : Ex) : ∀ e : Ex, evalE r (putE nm b e) = evalE (fun s => bif s == nm then evalE r b else r s) e
  | .mk op num name kids => by
    have e2 := eval_putL r nm b kids
    simp only [putE]
    cases ho : (op == 2) with
    | true =>
      have : op = 2 := by simpa using ho
      subst this
      cases hn : (name == nm) with
      | true => simp only [Bool.and_true, cond_true, evalE, hn]; rfl
      | false => simp only [Bool.and_false, cond_false, evalE, hn]; rfl
    | false => simp only [Bool.false_and, cond_false, evalE, ho, e2]
theorem eval_putL (r : List UInt8 → Int) (nm : List UInt8) (b : Ex) : ∀ l : List Ex, evalL r (putL nm b l) = evalL (fun s => bif s == nm then evalE r b else r s) l
  | [] => by simp only [putL, evalL]
  | e :: l => by simp only [putL, evalL, eval_put r nm b e, eval_putL r nm b l]
end
theorem reg_put (nm : List UInt8) (v : Int) (reg : List (List UInt8 × Int)) : regR (putR nm v reg) = fun s => bif s == nm then v else regR reg s := by
  funext s
  unfold regR
  rw [getR_put]
  cases (s == nm) <;> rfl
/-! few registers -/
def fewR (reg : List (List UInt8 × Int)) (n : List (List UInt8)) (m : List (List UInt8 × Int)) : List (List UInt8 × Int) := n.foldl (fun m s => putR s (regR reg s) m) m
theorem few_get (reg : List (List UInt8 × Int)) : ∀ (n : List (List UInt8)) (m : List (List UInt8 × Int)) (s : List UInt8), s ∈ n ∨ getR s m = some (regR reg s) → getR s (fewR reg n m) = some (regR reg s)
  | [], m, s, h => by rcases h with h | h; cases h; exact h
  | x :: n, m, s, h => by
    have hs : fewR reg (x :: n) m = fewR reg n (putR x (regR reg x) m) := rfl
    rw [hs]
    refine few_get reg n _ s ?_
    rw [getR_put]
    cases hx : (s == x) with
    | true =>
      have : s = x := by simpa using hx
      subst this
      exact .inr rfl
    | false =>
      rcases h with h | h
      · rcases List.mem_cons.1 h with rfl | h
        · simp at hx
        · exact .inl h
      · exact .inr h
theorem few_reg {reg : List (List UInt8 × Int)} {n : List (List UInt8)} {s : List UInt8} (h : s ∈ n) : regR (fewR reg n []) s = regR reg s := by
  unfold regR
  rw [few_get reg n [] s (.inl h)]
  rfl
theorem eval_few {reg : List (List UInt8 × Int)} {e : Ex} (h : goodE e) : evalE (regR (fewR reg (sortB (addA (nmE e) [])) [])) e = evalE (regR reg) e :=
  eval_names h fun s hs => few_reg ((sortB_perm _).mem_iff.2 (addA_mem.2 (.inr hs)))
theorem fewR_next (reg : List (List UInt8 × Int)) (n : List (List UInt8)) (i : Nat) (h : i < n.length) : fewR reg (n.take (i + 1)) [] = putR n[i] (regR reg n[i]) (fewR reg (n.take i) []) := by
  unfold fewR
  rw [List.take_succ_eq_append_getElem h, List.foldl_append]; rfl
/-! registers in range -/
def inM (m : List (List UInt8 × Int)) : Prop := ∀ s v, getR s m = some v → inI v
theorem inM_put {m : List (List UInt8 × Int)} {s : List UInt8} {v : Int} (h : inM m) (hv : inI v) : inM (putR s v m) := fun k w hk => by
  rw [getR_put] at hk
  cases hx : (k == s) with
  | true => rw [hx] at hk; simp only [cond_true, Option.some.injEq] at hk; subst hk; exact hv
  | false => rw [hx] at hk; exact h k w hk
theorem inM_reg {m : List (List UInt8 × Int)} (h : inM m) : inR (regR m) := fun s => by
  unfold regR
  cases hg : getR s m with
  | none => exact ⟨by simp, by simp⟩
  | some v => exact h s v hg
theorem inM_fold : ∀ (l : List (List UInt8 × Int)) (m : List (List UInt8 × Int)), (∀ p ∈ l, inI p.2) → inM m → inM (l.foldl (fun n p => putR p.1 p.2 n) m)
  | [], m, _, hm => hm
  | p :: l, m, h, hm => inM_fold l _ (fun q hq => h q (by simp [hq])) (inM_put hm (h p (by simp)))
theorem regsN_in (names : List (List UInt8)) {l : List Int} (h : ∀ v ∈ l, inI v) : inM (regsN names l) := by
  unfold regsN regsZ
  refine inM_fold _ _ (fun p hp => ?_) (fun s v hs => by cases hs)
  have := List.mem_of_mem_take hp
  exact h _ (List.of_mem_zip this).2
theorem put_good0 {e b : Ex} {nm : List UInt8} (he : goodE e) (hb : goodE b) (h1 : checkE e = 0) (h2 : checkE b = 0) : putI e nm b = 0 ∨ putI e nm b = 3 := by
  unfold putI
  rw [if_neg (fun h => h h1), if_neg (fun h => h h2)]
  split
  · exact .inr rfl
  · exact check_put he hb (by omega)
end Go.Proofs.YtcbjhdklbhlmhaaDoor.lex
end

/-
  Made simple it is no deeper; it may be.
-/
section
set_option linter.unusedVariables false
set_option linter.unusedSimpArgs false
namespace Go.Proofs.YtcbjhdklbhlmhaaDoor.lex
open Go.Abs Go.RowKit
set_option maxRecDepth 100000
set_option maxHeartbeats 4000000
theorem deep_pos : ∀ e : Ex, 1 ≤ deepE e
  | .mk _ _ _ k => by simp only [deepE]; omega
theorem deep_two (op : Int) (a b : Ex) : deepE (twoS op a b) ≤ 1 + deepL [a, b] := by
  have h1 := deep_pos a
  unfold twoS
  simp only [cond_eq_ite]
  repeat' (first | (simp only [numX, deepE, deepL]; omega) | omega | split)
theorem deep_rule (op : Int) (ks : List Ex) : deepE (ruleS op ks) ≤ 1 + deepL ks := by
  unfold ruleS
  split
  · exact deep_two op _ _
  · rename_i k l hn
    simp only [cond_eq_ite]
    split
    · obtain ⟨o, m, s, kk⟩ := k
      cases kk with
      | nil => simp only [Ex.kids, List.headD_nil, numX, deepE, deepL]; omega
      | cons x kk => simp only [Ex.kids, List.headD_cons, deepL, deepE]; omega
    · simp only [deepE]; omega
  · simp only [deepE]; omega
theorem deep_out (op : Int) (ks : List Ex) : deepE (outS op ks) ≤ 1 + deepL ks := by
  unfold outS
  simp only [cond_eq_ite]
  split
  · split
    · simp only [numX, deepE, deepL]; omega
    · simp only [deepE]; omega
  · exact deep_rule op ks
mutual
theorem deep_simp : ∀ e : Ex, deepE (simpE e) ≤ deepE e
  | .mk op num name [] => by simp only [simpE]; omega
  | .mk op num name (k :: l) => by
    have h1 := deep_out op (simpE k :: simpL l)
    have h2 := deep_simp k
    have h3 := deep_simpL l
    simp only [simpE, deepE, deepL] at h1 ⊢
    omega
theorem deep_simpL : ∀ l : List Ex, deepL (simpL l) ≤ deepL l
  | [] => by simp only [simpL]; omega
  | e :: l => by have h1 := deep_simp e; have h2 := deep_simpL l; simp only [simpL, deepL]; omega
end
theorem check_simp {e : Ex} (h : checkE e = 0) (hi : okI e) : checkE (simpE e) = 0 := by
  obtain ⟨hg, h1, h2⟩ := check0 h hi
  have h3 := size_simp e
  have h4 := deep_simp e
  unfold checkE
  rw [if_pos (good_simp hg).1]
  rw [if_neg (by omega)]
end Go.Proofs.YtcbjhdklbhlmhaaDoor.lex
end

/-
  A verified abstract interpreter, part 46: what is read of types that hold themselves.
-/
section
set_option linter.unusedSimpArgs false
set_option linter.unusedVariables false
namespace Go.Abs
open Go.RowKit Go.ChangeShapes Go.WideShapes Go.ChangeAt

/-- Read with at most so much fuel. -/
def OpensB (P : Program) (N : Nat) (t : TypeId) (Q : List AV → Prop) : Prop :=
  ∀ (H : Type) (enc : TypeId × Value → H) (W : World) (fuel : Nat) (cs : List Value) (x : DataW H × List MemPlace), fuel ≤ N → DataW.trod enc P W 0 (fun _ => true) true fuel t cs = some x → ∃ us, Q us ∧ LR (snap0 W) noI us cs

section opens
variable {P : Program}
theorem OpensB.mono {N : Nat} {t : TypeId} {Q Q' : List AV → Prop} (h : OpensB P N t Q) (hq : ∀ u, Q u → Q' u) : OpensB P N t Q' := fun H enc W fuel cs x hN hx => let ⟨u, h1, h2⟩ := h H enc W fuel cs x hN hx; ⟨u, hq _ h1, h2⟩
theorem OpensB.of {N : Nat} {t : TypeId} {Q : List AV → Prop} (h : Opens P t Q) : OpensB P N t Q := fun H enc W fuel cs x _ hx => h H enc W fuel cs x hx
theorem OpensB.all {t : TypeId} {Q : List AV → Prop} (h : ∀ N, OpensB P N t Q) : Opens P t Q := fun H enc W fuel cs x hx => h fuel H enc W fuel cs x (Nat.le_refl _) hx
theorem opensB_zero {t : TypeId} {Q : List AV → Prop} : OpensB P 0 t Q := fun H enc W fuel cs x hN hx => by
  obtain rfl : fuel = 0 := by omega
  simp [DataW.trod] at hx
/-- A slice: none, or one with such elements. -/
theorem opensB_slice {N : Nat} {t e : TypeId} {z : Nat} {Q : List AV → Prop} (ht : P.underlying t = some (.slice e)) (hz : P.cellsOf e = z) (hz0 : z ≠ 0) (he : OpensB P N e Q) :
    OpensB P (N + 1) t fun us => ∃ l : List (List AV), (∀ u ∈ l, Q u ∧ u.length = z) ∧ us = [.rs l.length z l.flatten] ∧ l.length ≤ maxLen := by
  intro H enc W fuel cs x hN h
  rcases DataW.trod_slice ht h with ⟨rfl, _⟩ | ⟨a, len, cap, els, rest, n, hfu, rfl, _, _, hlc, hcm, hl, hel, hrest⟩
  · exact ⟨_, ⟨[], by simp, rfl, by simp⟩, by simp [LR, VR]⟩
  · rw [hz] at hel
    have each : ∀ i, i < len → ∃ (vs : List Value) (u : List AV), W.cells? 0 (a.add (i * z)) z = some vs ∧ Q u ∧ LR (snap0 W) noI u vs := by
      intro i hi
      have h1 := hel i hi
      have h2 : els[i]? = some els[i] := List.getElem?_eq_getElem (by omega)
      rw [h2] at h1
      simp only [Option.bind_eq_some_iff] at h1
      obtain ⟨vs, h3, h4⟩ := h1
      obtain ⟨u, h5, h6⟩ := he H enc W n vs _ (by omega) h4
      exact ⟨vs, u, h3, h5, h6⟩
    have hex : ∃ (l : List (List AV)) (vss : List (List Value)), l.length = len ∧ vss.length = len ∧ ∀ i, i < len → ∃ vs u, l[i]? = some u ∧ vss[i]? = some vs ∧ W.cells? 0 (a.add (i * z)) z = some vs ∧ Q u ∧ LR (snap0 W) noI u vs := by
      clear hel hl h hlc hcm hrest
      induction len with
      | zero => exact ⟨[], [], rfl, rfl, fun i hi => by omega⟩
      | succ m ih =>
        obtain ⟨l, vss, h1, h2, h3⟩ := ih fun i hi => each i (by omega)
        obtain ⟨vs, u, g1, g2, g3⟩ := each m (by omega)
        refine ⟨l ++ [u], vss ++ [vs], by simp [h1], by simp [h2], fun i hi => ?_⟩
        by_cases e : i = m
        · subst e
          exact ⟨vs, u, by simp [← h1], by simp [← h2], g1, g2, g3⟩
        · obtain ⟨vs', u', k1, k2, k3⟩ := h3 i (by omega)
          exact ⟨vs', u', by rw [List.getElem?_append_left (by omega)]; exact k1, by rw [List.getElem?_append_left (by omega)]; exact k2, k3⟩
    obtain ⟨l, vss, h1, h2, h3⟩ := hex
    have hll : ∀ u ∈ l, Q u ∧ u.length = z := by
      intro u hu
      obtain ⟨i, hi, rfl⟩ := List.mem_iff_getElem.1 hu
      obtain ⟨vs, u', k1, k2, k3, k4, k5⟩ := h3 i (by omega)
      rw [List.getElem?_eq_getElem hi] at k1; simp at k1
      rw [k1]
      exact ⟨k4, by rw [← k5.length, (cells?_get k3).1]⟩
    refine ⟨_, ⟨l, hll, rfl, by omega⟩, ?_⟩
    simp only [LR]
    refine ⟨_, _, rfl, ?_, rfl⟩
    simp only [VR]
    have hfl : l.flatten.length = l.length * z := by
      clear h1 h3
      induction l with
      | nil => simp
      | cons u l ih => simp only [List.flatten_cons, List.length_append, List.length_cons, (hll u (by simp)).2, ih fun v hv => hll v (by simp [hv])]; rw [Nat.add_mul]; omega
    have hspot : len ≠ 0 → a.spot = none := by
      intro h0
      obtain ⟨vs, u, k1, k2, k3, k4, k5⟩ := h3 0 (by omega)
      obtain ⟨g1, g2⟩ := cells?_get k3
      have : W.cell? ((a.add (0 * z)).add 0) = some vs[0] := g2 0 _ (List.getElem?_eq_getElem (by omega))
      rw [Nat.zero_mul] at this
      simpa [Addr.add] using World.cell?_spot this
    refine .inr ⟨a, cap, by rw [h1], by omega, hfl, mr_of_get fun k u hu => ?_, fun h0 => hspot (by rw [← h1]; exact h0)⟩
    obtain ⟨x', g1, g2⟩ := flatten_at hz0 (fun u hu => (hll u hu).2) hu
    have hklt : k / z < len := by rw [← h1]; exact (List.getElem?_eq_some_iff.1 g1).1
    obtain ⟨vs, u', k1, k2, k3, k4, k5⟩ := h3 (k / z) hklt
    rw [g1] at k1; simp at k1; subst k1
    obtain ⟨v, e1, e2⟩ := k5.get g2
    refine ⟨v, ?_, e2⟩
    have hc := (cells?_get k3).2 _ _ e1
    rw [addr_addadd a (hspot (Nat.ne_of_gt (Nat.lt_of_le_of_lt (Nat.zero_le _) hklt)))] at hc
    have hk : a.off + k / z * z + k % z = a.off + k := by rw [Nat.add_assoc, Nat.mul_comm, Nat.div_add_mod]
    rw [hk] at hc
    unfold snap0
    have hlt : a.block < W.heap.size := by
      cases hq : W.heap[a.block]? with
      | none => unfold World.cell? at hc; simp only [hq] at hc; cases hc
      | some ob => exact (Array.getElem?_eq_some_iff.1 hq).1
    rw [if_pos (by exact hlt)]; exact hc

def FsOpensB (P : Program) (N : Nat) : List Field → List (List AV → Prop) → Nat → Nat → Prop
  | [], [], off, tot => off = tot
  | f :: fs, Q :: Qs, off, tot => f.offset = off ∧ OpensB P N f.type Q ∧ FsOpensB P N fs Qs (off + P.cellsOf f.type) tot
  | _, _, _, _ => False

theorem opensB_fs {N : Nat} {H : Type} {enc : TypeId × Value → H} {W : World} {n tot : Nat} {cs : List Value} (hcs : cs.length = tot) (hN : n ≤ N) : ∀ {fs : List Field} {Qs : List (List AV → Prop)} {xs : List (DataW H × List MemPlace)} {off : Nat}, FsOpensB P N fs Qs off tot → xs.length = fs.length → off ≤ tot →
    (∀ (i : Nat) (f : Field), fs[i]? = some f → DataW.trod enc P W 0 (fun _ => true) true n f.type ((cs.drop f.offset).take (P.cellsOf f.type)) = xs[i]?) → ∃ us, FsQ Qs us ∧ LR (snap0 W) noI us (cs.drop off)
  | [], [], xs, off, h, hl, ho, hx => by
    have : off = tot := h
    subst this
    exact ⟨[], rfl, by simp [LR, ← hcs]⟩
  | f :: fs, Q :: Qs, xs, off, h, hl, ho, hx => by
    obtain ⟨h1, h2, h3⟩ := h
    cases xs with
    | nil => simp at hl
    | cons x xs =>
      have h0 := hx 0 f rfl
      simp only [List.getElem?_cons_zero] at h0
      obtain ⟨u, q1, q2⟩ := h2 H enc W n _ _ hN h0
      have hle : ∀ (fs : List Field) (Qs : List (List AV → Prop)) (o : Nat), FsOpensB P N fs Qs o tot → o ≤ tot := by
        intro fs
        induction fs with
        | nil => intro Qs o h; cases Qs with | nil => exact Nat.le_of_eq h | cons _ _ => exact h.elim
        | cons g gs ih => intro Qs o h; cases Qs with | nil => exact h.elim | cons _ _ => have := ih _ _ h.2.2; omega
      obtain ⟨us, q3, q4⟩ := opensB_fs hcs hN h3 (by simpa using hl) (hle _ _ _ h3) fun i g hg => by simpa using hx (i + 1) g (by simpa using hg)
      refine ⟨u ++ us, ⟨u, us, rfl, q1, q3⟩, ?_⟩
      rw [h1] at q2
      have := q2.append q4
      rwa [← List.drop_drop, List.take_append_drop] at this
  | [], _ :: _, xs, off, h, hl, ho, hx => h.elim
  | _ :: _, [], xs, off, h, hl, ho, hx => h.elim

theorem opensB_struct {N : Nat} {t : TypeId} {fs : Array Field} {Qs : List (List AV → Prop)} (ht : P.underlying t = some (.struct fs)) (h : FsOpensB P N fs.toList Qs 0 (P.cellsOf t)) : OpensB P (N + 1) t (FsQ Qs) := by
  intro H enc W fuel cs x hN hx
  obtain ⟨xs, n, hfu, _, hl, hlen, hf⟩ := DataW.trod_struct ht hx
  obtain ⟨us, h1, h2⟩ := opensB_fs hl (by omega) h (by simpa using hlen) (Nat.zero_le _) fun i f hi => hf i f (by simpa using hi)
  exact ⟨us, h1, by simpa using h2⟩
end opens

end Go.Abs
end


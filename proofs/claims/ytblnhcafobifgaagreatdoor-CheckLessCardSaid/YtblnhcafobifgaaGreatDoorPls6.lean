/-
  Texts of this proof, one behind the other (part 6).
-/
import Derived.Test.YtblnhcafobifgaaGreatDoorPls5
import Derived.Test.YtblnhcafobifgaaGreatDoorRows
import Derived.KernelRfl
import Derived.Sort.KeysCollected
import Derived.Maps.OwnSet
import Derived.Shelf.SlIter.Nil
import Derived.Shelf.SortM.Plain
import Derived.Shelf.SortM.SortNone
import Derived.Test.YtblnhcafobifgaaGreatDoorProg


section

set_option linter.unusedVariables false
set_option linter.unusedSimpArgs false
namespace Go.Proofs.YtblnhcafobifgaaGreatDoor.lex
open Go.Abs Go.RowKit
set_option maxRecDepth 100000
set_option maxHeartbeats 4000000
theorem follows : Tryz.prog.follows .mixedOrders = true := by kernel_rfl
theorem noNumAll : (Tryz.prog.funcs.toList.all fun fn => !(fn.name == "runtime.NumGoroutine")) = true := by kernel_rfl
theorem noNum : NoNum Tryz.prog := ⟨fun g fn h => by
  have h1 := List.all_eq_true.1 noNumAll fn (Array.mem_toList_iff.2 (Array.mem_of_getElem? h))
  simpa using h1, of_decide_eq_true (by kernel_rfl)⟩
variable {gl : Glob}
theorem none_sound : OrcSound Tryz.prog gl (orcV fun _ _ => none) := orcV_sound fun _ _ _ h => by cases h
def letB (n : Int) : Bool := decide (97 ≤ n) && decide (n ≤ 122) || decide (65 ≤ n) && decide (n ≤ 90)
def digB (n : Int) : Bool := decide (48 ≤ n) && decide (n ≤ 57)
theorem let_ok (n : Int) : ValOK Tryz.prog gl 104 [.int .u8 n] (.bool (letB n)) := by
  refine fn_val follows noNum none_sound Tryz.func104 rfl ?_
  repeat' ((conv => whnf); first | refine stp ?_ | with_reducible refine condB (fun h => ?_) (fun h => ?_))
  all_goals (try simp_all [resOf, letB])
  all_goals omega
theorem dig_ok (n : Int) : ValOK Tryz.prog gl 107 [.int .u8 n] (.bool (digB n)) := by
  refine fn_val follows noNum none_sound Tryz.func107 rfl ?_
  repeat' ((conv => whnf); first | refine stp ?_ | with_reducible refine condB (fun h => ?_) (fun h => ?_))
  all_goals (try simp_all [resOf, digB])
  all_goals omega
theorem letR_ok (n : Int) : ValOK Tryz.prog gl 100 [.int .u8 n] (.bool (letB n)) := by
  refine fn_val follows noNum none_sound Tryz.func100 rfl ?_
  repeat' ((conv => whnf); first | refine stp ?_ | with_reducible refine condB (fun h => ?_) (fun h => ?_))
  all_goals (try simp_all [resOf, letB])
  all_goals omega
theorem digR_ok (n : Int) : ValOK Tryz.prog gl 101 [.int .u8 n] (.bool (digB n)) := by
  refine fn_val follows noNum none_sound Tryz.func101 rfl ?_
  repeat' ((conv => whnf); first | refine stp ?_ | with_reducible refine condB (fun h => ?_) (fun h => ?_))
  all_goals (try simp_all [resOf, digB])
  all_goals omega
def F1 (f : Nat) (xs : List AV) : Option AV := match f with
  | 104 => match xs with | [.int .u8 n] => some (.bool (letB n)) | _ => none
  | 107 => match xs with | [.int .u8 n] => some (.bool (digB n)) | _ => none
  | 100 => match xs with | [.int .u8 n] => some (.bool (letB n)) | _ => none
  | 101 => match xs with | [.int .u8 n] => some (.bool (digB n)) | _ => none
  | _ => none
theorem F1_val {f : Nat} {xs : List AV} {r : AV} (h : F1 f xs = some r) : plain r = true ∧ ValOK Tryz.prog gl f xs r := by
  unfold F1 at h
  split at h <;> try (cases h; done)
  all_goals (split at h <;> cases h)
  · exact ⟨rfl, let_ok _⟩
  · exact ⟨rfl, dig_ok _⟩
  · exact ⟨rfl, letR_ok _⟩
  · exact ⟨rfl, digR_ok _⟩
theorem F1_sound : OrcSound Tryz.prog gl (orcZ F1) := orcZ_sound fun f xs r h => F1_val h
def worB (n : Int) : Bool := letB n || digB n || n == 95
theorem word1_ok (n : Int) : ValOK Tryz.prog gl 106 [.int .u8 n] (.bool (worB n)) := by
  refine fn_val follows noNum F1_sound Tryz.func106 rfl ?_
  repeat' ((conv => whnf); first | refine stp ?_ | with_reducible refine condB (fun h => ?_) (fun h => ?_))
  all_goals (try simp_all [resOf, worB])
def F2 (f : Nat) (xs : List AV) : Option AV := match f with
  | 106 => match xs with | [.int .u8 n] => some (.bool (worB n)) | _ => none
  | f => F1 f xs
theorem F2_val {f : Nat} {xs : List AV} {r : AV} (h : F2 f xs = some r) : plain r = true ∧ ValOK Tryz.prog gl f xs r := by
  unfold F2 at h
  split at h
  · split at h <;> cases h
    exact ⟨rfl, word1_ok _⟩
  · exact F1_val h
theorem F2_sound : OrcSound Tryz.prog gl (orcZ F2) := orcZ_sound fun f xs r h => F2_val h
def spanN (p : Int → Bool) (s : List UInt8) : Nat := (s.takeWhile fun c => p c.toNat).length
theorem spanN_true {p : Int → Bool} {c : UInt8} (l : List UInt8) (h : p c.toNat = true) : spanN p (c :: l) = spanN p l + 1 := by simp [spanN, h]
theorem spanN_false {p : Int → Bool} {c : UInt8} (l : List UInt8) (h : p c.toNat = false) : spanN p (c :: l) = 0 := by simp [spanN, h]
theorem span_ok (g : Nat) (p : Int → Bool) (hF : ∀ n, F2 g [.int .u8 n] = some (.bool (p n))) (hb : hasBody Tryz.prog g = true) (s : List UInt8) (hs : s.length ≤ 9223372036854775807) :
    ValOK Tryz.prog gl 105 [.str s, .func (.func g) [] []] (.int .i64 (spanN p s)) := by
  refine fn_val follows noNum F2_sound Tryz.func105 rfl ?_
  conv => whnf
  refine ⟨Nat, (fun k => k ≤ s.length ∧ spanN p s = k + spanN p (s.drop k)), (fun k => [(0, .str s), (1, .func (.func g) [] []), (5, .int .i64 k)]), (fun _ => []), (fun k => s.length - k), ⟨0, ⟨Nat.zero_le _, by simp⟩, ?_⟩, ?_⟩
  · refine FgL.mk0 rfl ?_
    refine And.intro (Wk.noref rfl) ?_
    refine And.intro (Wk.noref rfl) ?_
    refine And.intro (Wk.noref rfl) ?_
    trivial
  · intro k ⟨hk, hsp⟩
    by_cases hlt : k < s.length
    · have e1 : decide ((k : Int) < (s.length : Int)) = true := by simpa using hlt
      have hc : s[k]? = some s[k] := by simp [hlt]
      have hd : s.drop k = s[k] :: s.drop (k + 1) := List.drop_eq_getElem_cons hlt
      cases hp : p s[k].toNat with
      | true =>
        repeat' ((conv => whnf); first | with_reducible refine ixS _ rfl hc ?_ | with_reducible refine exI (callZ hb rfl (hF _)) ?_ | (first | refine stp ?_ | with_reducible refine condB (fun h => ?_) (fun h => ?_)))
        (conv => whnf)
        have hn := spanN_true (s.drop (k + 1)) hp
        rw [← hd] at hn
        exact ⟨k + 1, ⟨hlt, by omega⟩, by show s.length - (k + 1) < s.length - k; omega, FgL.mk0 rfl ⟨Wk.noref rfl, Wk.noref rfl, Wk.int rfl, trivial⟩⟩
      | false =>
        repeat' ((conv => whnf); first | with_reducible refine ixS _ rfl hc ?_ | with_reducible refine exI (callZ hb rfl (hF _)) ?_ | (first | refine stp ?_ | with_reducible refine condB (fun h => ?_) (fun h => ?_)))
        have hn := spanN_false (s.drop (k + 1)) hp
        rw [← hd] at hn
        rw [hsp, hn]; rfl
    · have e1 : decide ((k : Int) < (s.length : Int)) = false := by simpa using hlt
      have hk' : k = s.length := by omega
      repeat' ((conv => whnf); first | refine stp ?_ | with_reducible refine condB (fun h => ?_) (fun h => ?_))
      rw [hsp, hk']; simp [resOf, spanN]
def F3 (f : Nat) (xs : List AV) : Option AV := match f with
  | 105 => match xs with
    | [.str s, .func (.func 106) [] []] => if s.length ≤ 9223372036854775807 then some (.int .i64 (spanN worB s)) else none
    | _ => none
  | f => F2 f xs
theorem F3_val {f : Nat} {xs : List AV} {r : AV} (h : F3 f xs = some r) : plain r = true ∧ ValOK Tryz.prog gl f xs r := by
  unfold F3 at h
  split at h
  · split at h <;> try (cases h; done)
    split at h <;> cases h
    rename_i hs
    exact ⟨rfl, span_ok 106 worB (fun _ => rfl) (by kernel_rfl) _ hs⟩
  · exact F2_val h
theorem F3_sound : OrcSound Tryz.prog gl (orcZ F3) := orcZ_sound fun f xs r h => F3_val h
def wordN : List UInt8 → Nat
  | [] => 0
  | c :: s => if letB c.toNat then spanN worB (c :: s) else 0
theorem word_ok (s : List UInt8) (hs : s.length ≤ 9223372036854775807) : ValOK Tryz.prog gl 90 [.str s] (.int .i64 (wordN s)) := by
  match s with
  | [] =>
    refine fn_val follows noNum F3_sound Tryz.func90 rfl ?_
    repeat' ((conv => whnf); first | refine stp ?_ | with_reducible refine condB (fun h => ?_) (fun h => ?_))
    all_goals (try simp_all [resOf, wordN])
  | c :: s =>
    have h1 : ((c :: s) == []) = false := by simp
    have h2 : (c :: s)[0]? = some c := rfl
    refine fn_val follows noNum F3_sound Tryz.func90 rfl ?_
    repeat' ((conv => whnf); first | with_reducible refine ixS 0 rfl h2 ?_ | (first | refine stp ?_ | with_reducible refine condB (fun h => ?_) (fun h => ?_)))
    all_goals (try (simp_all [resOf, wordN]; done))
def keysL : List (List UInt8) := [[115, 104, 97, 114, 101, 100], [112, 108, 97, 105, 110], [116, 104, 114, 101, 97, 100], [105, 102], [101, 108, 115, 101], [119, 104, 105, 108, 101], [108, 111, 97, 100], [115, 116, 111, 114, 101], [99, 97, 115], [97, 100, 100], [115, 119, 97, 112], [102, 101, 110, 99, 101], [97, 115, 115, 117, 109, 101], [97, 115, 115, 101, 114, 116], [110, 97], [114, 108, 120], [97, 99, 113], [114, 101, 108], [97, 114], [115, 99]]
def entsF : Nat → List (List UInt8) → List (AV × AV × Nat)
  | _, [] => []
  | n, k :: l => (.str k, .agg [], n) :: entsF (n + 1) l
theorem find_ok (x : List UInt8) : ∀ (l : List (List UInt8)) (n i : Nat), ∃ o, aFind .string (.str x) (entsF n l) i = some o ∧ o.isSome = l.contains x ∧ ∀ p, o = some p → p.2 = .agg []
  | [], n, i => ⟨none, rfl, by simp, fun p h => by cases h⟩
  | k :: l, n, i => by
    obtain ⟨o, h1, h2, h3⟩ := find_ok x l (n + 1) (i + 1)
    by_cases e : x = k
    · subst e
      exact ⟨some (i, .agg []), by simp [entsF, aFind, aSame], by simp, fun p h => by cases h; rfl⟩
    · refine ⟨o, ?_, by simp [h2, e], h3⟩
      have : (x == k) = false := by simpa using e
      simp [entsF, aFind, aSame, this, h1]
theorem kdK : keyDesc Tryz.prog 91 = some (.string, 92) := by kernel_rfl
theorem look_ok' {H : AHeap} {b : Nat} (x : List UInt8) (h : mapEs H (.map b) = some (entsF 0 keysL)) : aLookup Tryz.prog 91 (.map b) (.str x) true H = some (.tuple [.agg [], .bool (keysL.contains x)]) := by
  obtain ⟨o, h1, h2, h3⟩ := find_ok x keysL 0 0
  have hz : tzero Tryz.prog 92 = some (.agg []) := by kernel_rfl
  simp only [aLookup, kdK, h, h1, ← h2]
  cases o with
  | none => simp [hz]
  | some p => have := h3 p rfl; obtain ⟨j, v⟩ := p; subst this; simp
def wordR (s : List UInt8) : AV := if s ≠ [] ∧ wordN s = s.length then .tuple [.int .i64 (if keysL.contains s then 2 else 1), .bool true] else .tuple [.int .i64 0, .bool false]
def F4 (f : Nat) (xs : List AV) : Option AV := match f with
  | 90 => match xs with | [.str s] => if s.length ≤ 9223372036854775807 then some (.int .i64 (wordN s)) else none | _ => none
  | f => F3 f xs
theorem F4_val {f : Nat} {xs : List AV} {r : AV} (h : F4 f xs = some r) : plain r = true ∧ ValOK Tryz.prog gl f xs r := by
  unfold F4 at h
  split at h
  · split at h <;> try (cases h; done)
    split at h <;> cases h
    rename_i hs; exact ⟨rfl, word_ok _ hs⟩
  · exact F3_val h
theorem F4_sound : OrcSound Tryz.prog gl (orcZ F4) := orcZ_sound fun f xs r h => F4_val h
section
attribute [local irreducible] wordN
theorem wordP_ok (s : List UInt8) (hs : s.length ≤ 9223372036854775807) : ValOK Tryz.prog gl 74 [.str s] (wordR s) := by
  have e2 : F4 90 [.str s] = some (.int .i64 (wordN s)) := by simp only [F4]; rw [if_pos (by omega)]
  have hb : hasBody Tryz.prog 90 = true := by kernel_rfl
  refine fn_valI (fun g => Nat.beq g 90) 2 follows noNum F4_sound Tryz.func74 rfl ?_
  by_cases h0 : s = []
  · have e1 : (s == []) = true := by simpa using h0
    repeat' ((conv => whnf); (first | refine stp ?_ | with_reducible refine condB (fun h => ?_) (fun h => ?_)))
    unfold wordR; rw [if_neg (by simp [h0])]
  · have e1 : (s == []) = false := by simpa using h0
    by_cases hw : wordN s = s.length
    · have e3 : ((wordN s : Int) != (s.length : Int)) = false := by rw [hw]; simp
      have eR : wordR s = .tuple [.int .i64 (if keysL.contains s then 2 else 1), .bool true] := by unfold wordR; rw [if_pos ⟨h0, hw⟩]
      rw [eR]
      cases hc : keysL.contains s with
      | true =>
        repeat' ((conv => whnf); first | (with_reducible refine exI (callZ hb rfl e2) ?_) | (with_reducible refine exI (look_ok' _ ?_) ?_; (focus rfl)) | (first | refine stp ?_ | with_reducible refine condB (fun h => ?_) (fun h => ?_)))
        conv => whnf
        refine exI (look_ok' _ ?_) ?_
        · rfl
        rw [hc]
        repeat' ((conv => whnf); (first | refine stp ?_ | with_reducible refine condB (fun h => ?_) (fun h => ?_)))
        rfl
      | false =>
        repeat' ((conv => whnf); first | (with_reducible refine exI (callZ hb rfl e2) ?_) | (with_reducible refine exI (look_ok' _ ?_) ?_; (focus rfl)) | (first | refine stp ?_ | with_reducible refine condB (fun h => ?_) (fun h => ?_)))
        conv => whnf
        refine exI (look_ok' _ ?_) ?_
        · rfl
        rw [hc]
        repeat' ((conv => whnf); (first | refine stp ?_ | with_reducible refine condB (fun h => ?_) (fun h => ?_)))
        rfl
    · have e3 : ((wordN s : Int) != (s.length : Int)) = true := by simp; omega
      repeat' ((conv => whnf); first | (with_reducible refine exI (callZ hb rfl e2) ?_) | (first | refine stp ?_ | with_reducible refine condB (fun h => ?_) (fun h => ?_)))
      unfold wordR; rw [if_neg (fun h => hw h.2)]
end
end Go.Proofs.YtblnhcafobifgaaGreatDoor.lex
end


section

set_option linter.unusedSimpArgs false
set_option linter.unusedVariables false
namespace Go.Abs
open Go.RowKit Go.Maps
open Go.Proofs (encStr)
def runsG (P : Program) (gl : Glob) (isO : Nat → List AV → Bool) (tbl : Orc) (fuel : Nat) : Nat → Orc
  | 0 => fun _ _ _ => none
  | n + 1 => fun f args H => if isO f args = true then tbl f args H else afunc P gl (runsG P gl isO tbl fuel n) fuel f args H
theorem runsG_sound {P : Program} {gl : Glob} {isO : Nat → List AV → Bool} {tbl : Orc} {fuel : Nat} (hm : P.follows .mixedOrders = true) (hn : NoNum P) (ht : OrcSound P gl tbl) : ∀ n, OrcSound P gl (runsG P gl isO tbl fuel n)
  | 0 => by intro f args H r H' h; simp [runsG] at h
  | n + 1 => by
    have := afunc_sound (fuel := fuel) hm hn (runsG_sound (fuel := fuel) (isO := isO) hm hn ht n)
    intro f args H r H' h
    simp only [runsG] at h
    split at h
    · exact ht f args H r H' h
    · exact this f args H r H' h
noncomputable def frunG (P : Program) (gl : Glob) (isO : Nat → List AV → Bool) (fo : FOrc) (fuel n : Nat) : FOrc :=
  Nat.rec (motive := fun _ => FOrc) (fun _ _ _ => none) (fun _ ih f args T => iff' (isO f args) (fo f args T) (Option.rec none (fun run => run ih args T) (fcomp P gl fuel f))) n
section
variable {P : Program} {gl : Glob} {fuel : Nat}
theorem frunG_ok {isO : Nat → List AV → Bool} {fo : FOrc} {tbl : Orc} (hs : OrcSim fo tbl) : ∀ m, OrcSim (frunG P gl isO fo fuel m) (runsG P gl isO tbl fuel m)
  | 0 => by intro f args T r T' h; cases h
  | m + 1 => by
    intro f args T r T' h H hR
    rcases iff_some2 (show iff' (isO f args) (fo f args T) (Option.rec none (fun run => run (frunG P gl isO fo fuel m) args T) (fcomp P gl fuel f)) = some (r, T') from h) with ⟨h1, h2⟩ | ⟨h1, h2⟩
    · obtain ⟨H', g1, g2⟩ := hs f args T r T' h2 H hR
      exact ⟨H', by simp [runsG, h1, g1], g2⟩
    · cases hf : fcomp P gl fuel f with
      | none => rw [hf] at h2; cases h2
      | some run =>
        rw [hf] at h2
        obtain ⟨H', g1, g2⟩ := fcomp_ok (frunG_ok hs m) hf hR h2
        exact ⟨H', by simp [runsG, h1, g1], g2⟩
theorem known_trueG (hm : P.follows .mixedOrders = true) (hn : NoNum P) {isO : Nat → List AV → Bool} {fo : FOrc} {tbl : Orc} (hs : OrcSim fo tbl) (ht : OrcSound P gl tbl)
    {l : List (Nat × List AV)} (hl : OrcSound P gl (tblO l)) {m f : Nat} {az : List AV} (hrefs : refsL az [] = []) (h : saysTrue (frunG P gl isO fo fuel m f az TH.empty) = true) : OrcSound P gl (tblO ((f, az) :: l)) := by
  obtain ⟨T', h'⟩ := saysTrue_spec h
  obtain ⟨H', h1, _⟩ := frunG_ok hs m f az TH.empty _ T' h' [] Rep.empty
  exact tblO_cons hl hrefs (runsG_sound hm hn ht m) h1
def ftblO (l : List (Nat × List AV)) : FOrc := fun f args T => if memA f args l then some (.bool true, T) else none
theorem ftblO_sim (l : List (Nat × List AV)) : OrcSim (ftblO l) (tblO l) := by
  intro f args T r T' h H hR
  simp only [ftblO] at h
  split at h <;> simp at h
  obtain ⟨rfl, rfl⟩ := h
  exact ⟨H, by simp [tblO, *], hR⟩
def forcThen (g : Nat → List AV → Bool) (a b : FOrc) : FOrc := fun f args T => if g f args = true then a f args T else b f args T
def orcIf (g : Nat → List AV → Bool) (a b : Orc) : Orc := fun f args H => if g f args = true then a f args H else b f args H
theorem orcIf_sound {g : Nat → List AV → Bool} {a b : Orc} (ha : OrcSound P gl a) (hb : OrcSound P gl b) : OrcSound P gl (orcIf g a b) := by
  intro f args H r H' h
  simp only [orcIf] at h
  split at h
  · exact ha f args H r H' h
  · exact hb f args H r H' h
theorem forcThen_sim {g : Nat → List AV → Bool} {fa fb : FOrc} {a b : Orc} (ha : OrcSim fa a) (hb : OrcSim fb b) : OrcSim (forcThen g fa fb) (orcIf g a b) := by
  intro f args T r T' h H hR
  simp only [forcThen] at h
  split at h
  · obtain ⟨H', h1, h2⟩ := ha f args T r T' h H hR
    exact ⟨H', by simp [orcIf, *], h2⟩
  · obtain ⟨H', h1, h2⟩ := hb f args T r T' h H hR
    exact ⟨H', by simp [orcIf, *], h2⟩
end
def insB (x : List UInt8) : List (List UInt8) → List (List UInt8)
  | [] => [x]
  | y :: l => if leB x y = true then x :: y :: l else y :: insB x l
def sortB : List (List UInt8) → List (List UInt8)
  | [] => []
  | x :: l => insB x (sortB l)
theorem insB_perm (x : List UInt8) : ∀ l : List (List UInt8), (insB x l).Perm (x :: l)
  | [] => .refl _
  | y :: l => by
    simp only [insB]
    split
    · exact .refl _
    · exact ((insB_perm x l).cons y).trans (.swap x y l)
theorem sortB_perm : ∀ l : List (List UInt8), (sortB l).Perm l
  | [] => .refl _
  | x :: l => (insB_perm x _).trans ((sortB_perm l).cons x)
theorem leB_total (a b : List UInt8) : leB a b = true ∨ leB b a = true := by
  simp only [leB, decide_eq_true_eq]
  exact List.le_total a b
theorem leB_trans {a b c : List UInt8} (h : leB a b = true) (h' : leB b c = true) : leB a c = true := by
  simp only [leB, decide_eq_true_eq] at *
  exact List.le_trans h h'
theorem leB_anti {a b : List UInt8} (h : leB a b = true) (h' : leB b a = true) : a = b := by
  simp only [leB, decide_eq_true_eq] at *
  exact List.le_antisymm h h'
theorem insB_sorted (x : List UInt8) : ∀ l : List (List UInt8), l.Pairwise (fun a b => leB a b = true) → (insB x l).Pairwise (fun a b => leB a b = true)
  | [], _ => by simp [insB]
  | y :: l, h => by
    rw [List.pairwise_cons] at h
    simp only [insB]
    split
    · rename_i hxy
      rw [List.pairwise_cons]
      refine ⟨fun a ha => ?_, by rw [List.pairwise_cons]; exact h⟩
      rcases List.mem_cons.1 ha with rfl | ha
      · exact hxy
      · exact leB_trans hxy (h.1 a ha)
    · rename_i hxy
      rw [List.pairwise_cons]
      refine ⟨fun a ha => ?_, insB_sorted x l h.2⟩
      rcases List.mem_cons.1 ((insB_perm x l).mem_iff.1 ha) with rfl | ha
      · exact (leB_total a y).resolve_left hxy
      · exact h.1 a ha
theorem sortB_sorted : ∀ l : List (List UInt8), (sortB l).Pairwise (fun a b => leB a b = true)
  | [] => List.Pairwise.nil
  | x :: l => insB_sorted x _ (sortB_sorted l)
theorem sortB_unique {l l' : List (List UInt8)} (hp : l'.Perm l) (hs : l'.Pairwise (fun a b => leB a b = true)) : l' = sortB l :=
  List.Perm.eq_of_pairwise (le := fun a b => leB a b = true) (fun a b _ _ h1 h2 => leB_anti h1 h2) hs (sortB_sorted l) (hp.trans (sortB_perm l).symm)
theorem mergeSort_sortB {ss l : List (List UInt8)} (hp : ss.Perm l) : ss.mergeSort leB = sortB l := by
  refine sortB_unique ((List.mergeSort_perm ss leB).trans hp) ?_
  exact List.pairwise_mergeSort (le := leB) (fun a b c h1 h2 => leB_trans h1 h2) (fun a b => by simp only [Bool.or_eq_true]; exact leB_total a b) ss
def SortsKeys (P : Program) (fS fI kt : Nat) : Prop := ∀ (Bm b nn : Nat) (D0 : DataW Unit) (R : Value → Option (DataW Unit × List MemPlace)) (W : World),
  W.cell? ⟨Bm, 0, none⟩ = some (.map (some b)) → W.ownsMap P kt R b nn D0 → Maps.size D0 ≤ maxLen → Maps.size D0 * 16 ≤ 140737488355328 →
  Calls P fS #[.func (.func fI) #[] #[.pointer (some ⟨Bm, 0, none⟩)]] W fun e W' => ∃ (v : Value) (ss : List (List UInt8)), e = .returned v ∧ ss.Perm (strKeys D0) ∧
    W'.ownsRow W.heap.size kt 1 v ss.length ((ss.mergeSort leB).map encStr) ∧ (v = .slice none 0 0 ↔ ss = []) ∧ Below W.heap.size W W'
def rsK (l : List (List UInt8)) : AV := .rs l.length 1 (l.map .str)
theorem LR_strs {sn : Snap} {ι : IMap} : ∀ {l : List (List UInt8)}, LR sn ι (l.map .str) (l.map encStr)
  | [] => by simp [LR]
  | x :: l => by
    simp only [List.map_cons, LR]
    exact ⟨_, _, rfl, by simp [VR, encStr], LR_strs⟩
theorem ER_keys {sn : Snap} {ι : IMap} : ∀ {es : List (AV × AV × Nat)} {l : List MapEntry} {keys : List (List UInt8)}, ER sn ι es l → es.map (·.1) = keys.map AV.str → l.map (·.key) = keys.map encStr ∧ l.map (·.born) = es.map (·.2.2)
  | [], l, keys, h, hk => by
    simp [ER] at h; subst h
    cases keys <;> simp at hk
    simp
  | (k, v, n) :: es, l, keys, h, hk => by
    simp only [ER] at h
    obtain ⟨x, l', rfl, h1, h2, h3, h4⟩ := h
    cases keys with
    | nil => simp at hk
    | cons c keys =>
      simp only [List.map_cons, List.cons.injEq] at hk
      obtain ⟨rfl, hk⟩ := hk
      obtain ⟨e1, e2⟩ := ER_keys h4 hk
      obtain ⟨ba, e3, e4⟩ := h1.str
      simp only [List.map_cons, e1, e2, h3, and_true, List.cons.injEq]
      rw [e3, ← e4]
theorem MR_of_cells {sn : Snap} {W : World} {g : Nat} {B : Nat} (hg : B ≤ g) : ∀ (us : List AV) (vs : List Value) (o : Nat), LR (snx sn B W) noI us vs → (∀ (i : Nat) (v : Value), vs[i]? = some v → W.cell? ⟨g, o + i, none⟩ = some v) → MR (snx sn B W) us g o
  | [], vs, o, h, hc => by simp [MR]
  | u :: us, vs, o, h, hc => by
    simp only [LR] at h
    obtain ⟨d, ds, rfl, h1, h2⟩ := h
    simp only [MR]
    refine ⟨⟨d, ?_, h1⟩, MR_of_cells hg us ds (o + 1) h2 fun i v hv => ?_⟩
    · have := hc 0 d rfl
      simp only [snx]
      rw [if_neg (show ¬ g < B by omega)]
      exact this
    · have := hc (i + 1) v (by simpa using hv)
      rw [show o + 1 + i = o + (i + 1) from by omega]; exact this
theorem sorted_calls {P : Program} {fS fI kt : Nat} (hS : SortsKeys P fS fI kt) (hk : P.underlying kt = some .string) {sn : Snap} {ι : IMap} {H : AHeap} {W : World} (hR : R sn ι H W)
    {c b : Nat} {oc ob : AObj} {cs : List AV} {ty : TypeId} {es : List (AV × AV × Nat)} {clock : Nat} {keys : List (List UInt8)}
    (hc : H[c]? = some oc) (hca : oc.alive = true) (hcs : oc.sh = 0) (hcb : oc.body = .cells (.map b :: cs) ty) (hb : H[b]? = some ob) (hba : ob.alive = true) (hbb : ob.body = .map es clock)
    (hkeys : es.map (·.1) = keys.map AV.str) (hnd : keys.Nodup) (hlen : ∀ k ∈ keys, k.length ≤ maxLen) (hbn : (es.map (·.2.2)).Nodup) (hbc : ∀ n ∈ es.map (·.2.2), n < clock) (hsz : keys.length ≤ 1000000)
    {cargs : List Value} (ha : LR sn ι [.func (.func fI) [] [.ptr c 0]] cargs) :
    Calls P fS cargs.toArray W fun e W' => ∃ v sn' ι', e = .returned v ∧ VR sn' ι' (rsK (sortB keys)) v ∧ Stp sn ι H W sn' ι' H W' := by
  obtain ⟨pc, hpc⟩ := hR.place hc
  obtain ⟨pb, hpb⟩ := hR.place hb
  have hoc := hR.obj c oc pc hc hca hpc
  have hob := hR.obj b ob pb hb hba hpb
  rw [hcb] at hoc; rw [hbb] at hob
  simp only [OR] at hoc hob
  obtain ⟨arr, hw1, hw2, hw3, hw4⟩ := hoc
  obtain ⟨mes, hm1, hm2⟩ := hob
  have hz := hR.shz c oc pc hc hpc hcs
  obtain ⟨v0, hv0, hv1⟩ := hw4 0 (.map b) rfl
  obtain ⟨p', hp', rfl⟩ := hv1.map
  rw [hpb] at hp'; simp at hp'; subst hp'
  have hcell : W.cell? ⟨pc.blk, 0, none⟩ = some (.map (some pb.blk)) := by
    rw [cell_of_heap hw1]; rw [hz] at hv0; simpa using hv0
  obtain ⟨hk1, hk2⟩ := ER_keys hm2 hkeys
  have hlens : mes.size = keys.length := by
    have := congrArg List.length hk1
    simpa using this
  have hmx : maxLen = 9223372036854775807 := rfl
  let R0 : Value → Option (DataW Unit × List MemPlace) := fun _ => some (.nil, [])
  have hkeyOf : ∀ x ∈ mes.toList, ∃ s, x.key = encStr s ∧ s ∈ keys ∧ keyOf P kt x.key = some (.string s) := by
    intro x hx
    have : x.key ∈ mes.toList.map (·.key) := List.mem_map_of_mem hx
    rw [hk1] at this
    obtain ⟨s, hs, e⟩ := List.mem_map.1 this
    refine ⟨s, e.symm, hs, ?_⟩
    rw [← e]
    have hl := hlen s hs
    simp only [keyOf, hk, mapKey, encStr]
    have : (⟨⟨s⟩⟩ : ByteArray).size ≤ maxLen := by simpa [ByteArray.size] using hl
    rw [if_pos this]
  have hF : WideElems.Fit P kt R0 mes clock := by
    refine ⟨by omega, ⟨fun x hx => ?_, by rw [hk2]; exact hbn, ?_⟩, fun x hx => ?_⟩
    · exact hbc _ (by rw [← hk2]; exact List.mem_map_of_mem hx)
    · rw [hk1]
      exact (List.nodup_iff_pairwise_ne.1 hnd).map _ fun a b hab e => hab (encStr_inj e)
    · obtain ⟨s, _, _, h3⟩ := hkeyOf x hx
      exact ⟨(.string s, .nil), by simp [WideElems.rd, h3, R0]⟩
  let D0 : DataW Unit := .map ((mes.toList.map (WideElems.rg P kt R0)).foldr DataW.insert [])
  have hown : W.ownsMap P kt R0 pb.blk mes.size D0 := ⟨mes, clock, hm1, hF, Nat.le_refl _, rfl⟩
  have hsize : Maps.size D0 = mes.size := by simp only [D0, Maps.size]; exact length_read mes
  have hperm : (strKeys D0).Perm keys := by
    have h1 : ((mes.toList.map (WideElems.rg P kt R0)).foldr DataW.insert []).Perm (mes.toList.map (WideElems.rg P kt R0)) := by
      generalize mes.toList.map (WideElems.rg P kt R0) = l
      induction l with
      | nil => exact .refl _
      | cons x l ih =>
        have hins : ∀ (y : Lit × DataW Unit) (m : List (Lit × DataW Unit)), (DataW.insert y m).Perm (y :: m) := by
          intro y m
          induction m with
          | nil => exact .refl _
          | cons z m ih2 =>
            simp only [DataW.insert]
            split
            · exact .refl _
            · exact (ih2.cons z).trans (.swap y z m)
        exact (hins x _).trans (ih.cons x)
    have h2 := h1.map (fun p => strOf p.1)
    refine h2.trans ?_
    have : (mes.toList.map (WideElems.rg P kt R0)).map (fun p => strOf p.1) = keys := by
      have e : (mes.toList.map (WideElems.rg P kt R0)).map (fun p => encStr (strOf p.1)) = keys.map encStr := by
        rw [← hk1, List.map_map]
        refine List.map_congr_left fun x hx => ?_
        obtain ⟨s, h1, _, h3⟩ := hkeyOf x hx
        have hr : WideElems.rd P kt R0 x = some (.string s, .nil) := by simp [WideElems.rd, h3, R0]
        simp only [Function.comp, WideElems.rg_of hr, strOf, h1]
      have : (((mes.toList.map (WideElems.rg P kt R0)).map (fun p => strOf p.1)).map encStr) = keys.map encStr := by rw [List.map_map]; exact e
      exact List.map_inj_right (fun a b h => encStr_inj h) |>.1 this
    rw [this]
  have hargs : cargs = [.func (.func fI) #[] #[.pointer (some ⟨pc.blk, 0, none⟩)]] := by
    simp only [LR] at ha
    obtain ⟨d, ds, rfl, h1, rfl⟩ := ha
    obtain ⟨f', c', rfl, h2, h3⟩ := h1.func
    simp only [LR] at h2 h3
    obtain ⟨d2, ds2, h4, h5, h6⟩ := h3
    subst h6
    obtain ⟨p, hp, rfl⟩ := h5.ptr
    rw [hpc] at hp; simp at hp; subst hp
    have e1 : f' = #[] := by apply Array.ext'; simpa using h2
    have e2 : c' = #[.pointer (some ⟨pc.blk, 0, none⟩)] := by apply Array.ext'; simp [h4, hz]
    rw [e1, e2]
  rw [hargs]
  refine (hS pc.blk pb.blk mes.size D0 R0 W hcell hown (by omega) (by omega)).mono ?_
  rintro e W' ⟨v, ss, rfl, hss, hrow, hnil, hbel⟩
  have hext : Ext W W' := ⟨fun c hc => hbel.block c hc, hbel.size, hbel.os, hbel.tape, hbel.output⟩
  refine ⟨v, snx sn W.heap.size W', ι, rfl, ?_, Stp.snap hR hext⟩
  have hms : ss.mergeSort leB = sortB keys := mergeSort_sortB (hss.trans hperm)
  rw [hms] at hrow
  have hlen2 : (sortB keys).length = ss.length := by rw [← hms, List.length_mergeSort]
  obtain ⟨hr0, hr⟩ := hrow
  rcases hr with ⟨rfl, hz0⟩ | ⟨g, cap, cur, rfl, hg1, hg2, hg3, hg4, hg5, hg6⟩
  · have : sortB keys = [] := List.eq_nil_of_length_eq_zero (by omega)
    rw [this]; simp [rsK, VR]
  · simp only [rsK, VR]
    refine .inr ⟨⟨g, 0, none⟩, cap, by rw [hlen2], by omega, by simp, ?_, fun _ => rfl⟩
    refine MR_of_cells hg1 _ _ 0 LR_strs fun i v hv => ?_
    rw [cell_of_heap hg2]
    simp only [Nat.zero_add]
    have : (cur.toList.take (ss.length * 1))[i]? = some v := by rw [hg6]; exact hv
    rw [List.getElem?_take] at this
    split at this
    · simpa using this
    · cases this
def strsE : List (AV × AV × Nat) → Option (List (List UInt8))
  | [] => some []
  | (.str s, _, _) :: es => match strsE es with | some l => some (s :: l) | none => none
  | _ => none
theorem strsE_spec : ∀ {es : List (AV × AV × Nat)} {l : List (List UInt8)}, strsE es = some l → es.map (·.1) = l.map AV.str
  | [], l, h => by simp [strsE] at h; subst h; rfl
  | (k, v, n) :: es, l, h => by
    unfold strsE at h
    split at h
    · rename_i e; cases e
    · rename_i e
      simp only [List.cons.injEq, Prod.mk.injEq] at e
      obtain ⟨⟨rfl, rfl, rfl⟩, rfl⟩ := e
      split at h <;> simp at h
      subst h
      simp [strsE_spec (by assumption)]
    · cases h
def okKeys (keys : List (List UInt8)) (es : List (AV × AV × Nat)) (clock : Nat) : Bool :=
  decide keys.Nodup && (decide (∀ k ∈ keys, k.length ≤ 9223372036854775807) && (decide (es.map (·.2.2)).Nodup && ((es.map (·.2.2)).all (fun n => decide (n < clock)) && Nat.ble keys.length 1000000)))
def sortAns (es : List (AV × AV × Nat)) (clock : Nat) : Option AV := match strsE es with
  | some keys => if okKeys keys es clock = true then some (rsK (sortB keys)) else none
  | none => none
def sortArg (fI : Nat) : List AV → Option Nat
  | [.func (.func g) [] [.ptr c 0]] => if g = fI then some c else none
  | _ => none
def mapIn (oc : AObj) : Option Nat := if oc.alive = true ∧ oc.sh = 0 then (match oc.body with | .cells [.map b] _ => some b | _ => none) else none
def mapOf (ob : AObj) : Option (List (AV × AV × Nat) × Nat) := if ob.alive = true then (match ob.body with | .map es clock => some (es, clock) | _ => none) else none
def sortO (fS fI : Nat) : Orc := fun f args H =>
  if f = fS then (match sortArg fI args with
    | some c => match H[c]? with
      | some oc => match mapIn oc with
        | some b => match H[b]? with
          | some ob => match mapOf ob with
            | some (es, clock) => match sortAns es clock with
              | some v => some (v, H)
              | none => none
            | none => none
          | none => none
        | none => none
      | none => none
    | none => none) else none
noncomputable def fsortO (fS fI : Nat) : FOrc := fun f args T =>
  if f = fS then (match sortArg fI args with
    | some c => match mapIn (T.get c) with
        | some b => match mapOf (T.get b) with
            | some (es, clock) => match sortAns es clock with
              | some v => some (v, T)
              | none => none
            | none => none
        | none => none
    | none => none) else none
theorem mapIn_spec {oc : AObj} {b : Nat} (h : mapIn oc = some b) : oc.alive = true ∧ oc.sh = 0 ∧ ∃ ty, oc.body = .cells [.map b] ty := by
  unfold mapIn at h
  split at h <;> try (cases h; done)
  rename_i h1
  split at h <;> simp at h
  subst h
  exact ⟨h1.1, h1.2, _, by assumption⟩
theorem mapOf_spec {ob : AObj} {x : List (AV × AV × Nat) × Nat} (h : mapOf ob = some x) : ob.alive = true ∧ ob.body = .map x.1 x.2 := by
  unfold mapOf at h
  split at h <;> try (cases h; done)
  split at h <;> simp at h
  subst h
  exact ⟨by assumption, by assumption⟩
theorem sortArg_spec {fI c : Nat} {args : List AV} (h : sortArg fI args = some c) : args = [.func (.func fI) [] [.ptr c 0]] := by
  unfold sortArg at h
  split at h <;> try (cases h; done)
  split at h <;> simp at h
  subst h; rename_i e; subst e; rfl
theorem fsortO_sim (fS fI : Nat) : OrcSim (fsortO fS fI) (sortO fS fI) := by
  intro f args T r T' h H hR
  simp only [fsortO] at h
  split at h <;> try (cases h; done)
  rename_i hf
  split at h <;> try (cases h; done)
  rename_i c hc
  split at h <;> try (cases h; done)
  rename_i b hb
  split at h <;> try (cases h; done)
  rename_i es clock hm
  split at h <;> simp at h
  obtain ⟨rfl, rfl⟩ := h
  rename_i v hv
  have h1 := hR.obj c (mapIn_spec hb).1
  have h2 := hR.obj b (mapOf_spec hm).1
  exact ⟨H, by simp [sortO, hf, hc, h1, hb, h2, hm, hv], hR⟩
theorem sortO_sound {P : Program} {gl : Glob} {fS fI kt : Nat} (hS : SortsKeys P fS fI kt) (hk : P.underlying kt = some .string) : OrcSound P gl (sortO fS fI) := by
  intro f args H r H' h sn ι W cargs hg hR ha
  simp only [sortO] at h
  split at h <;> try (cases h; done)
  rename_i hf
  subst hf
  split at h <;> try (cases h; done)
  rename_i c hc
  split at h <;> try (cases h; done)
  rename_i oc hoc
  split at h <;> try (cases h; done)
  rename_i b hb
  split at h <;> try (cases h; done)
  rename_i ob hob
  split at h <;> try (cases h; done)
  rename_i es clock hm
  split at h <;> simp at h
  obtain ⟨rfl, rfl⟩ := h
  rename_i v hv
  unfold sortAns at hv
  split at hv <;> try (cases hv; done)
  rename_i keys hks
  split at hv <;> simp at hv
  subst hv
  rename_i hok
  simp only [okKeys, Bool.and_eq_true, decide_eq_true_eq, List.all_eq_true] at hok
  obtain ⟨o1, o2, o3, o4, o5⟩ := hok
  obtain ⟨m1, m2, ty, m3⟩ := mapIn_spec hb
  obtain ⟨n1, n2⟩ := mapOf_spec hm
  rw [sortArg_spec hc] at ha
  exact .inl (sorted_calls hS hk hR hoc m1 m2 m3 hob n1 n2 (strsE_spec hks) o1 o2 o3 o4 (Nat.le_of_ble_eq_true o5) ha)
end Go.Abs
end


section

set_option linter.unusedSimpArgs false
set_option linter.unusedVariables false
namespace Go.Abs
open Go.RowKit
theorem Wk.nil {m : List Nat} {z : Nat} : Wk m .nslice (.rs 0 z []) := fun sn ι v h => by simp only [VR] at h ⊢; exact .inl ⟨trivial, trivial, h⟩
theorem swA {A B : Prop} (h : A) : Stp1 (A ∧ B) B := fun b => ⟨h, b⟩
theorem stw {P Q : Prop} (q : Q) (h : Stp1 P Q := by
    first
    | (refine swA (Wk.int ?_); (focus (first | rfl | omega | (simp; done) | (simp; omega)))) | (refine swA (Wk.bool ?_); (focus (first | rfl | (simp; done)))) | exact swA (Wk.noref rfl)
    | exact swA (Wk.ptr rfl rfl) | (refine swA (Wk.slice rfl ?_ ?_ ?_ ?_ ?_); (focus (first | rfl | omega)); (focus (first | rfl | omega)); (focus (first | rfl | omega)); (focus (first | rfl | omega)); (focus rfl)) | exact swA Wk.nil | exact swA (Wk.func trivial ⟨Wk.ptr rfl rfl, trivial⟩) | exact swA (Wk.map rfl)) : P := h q
theorem ValOK.weak {P : Program} {gl : Glob} {f : Nat} {args args2 : List AV} {r : AV} (h : ValOK P gl f args2 r) (hw : ∀ sn vs, LR sn noI args vs → LR sn noI args2 vs) : ValOK P gl f args r :=
  fun sn W cargs hg hR ha => h sn W cargs hg hR (hw _ _ ha)
theorem ValOK.less {P : Program} {gl : Glob} {f : Nat} {args : List AV} {r r2 : AV} (h : ValOK P gl f args r) (hw : ∀ sn v, VR sn noI r v → VR sn noI r2 v) : ValOK P gl f args r2 :=
  fun sn W cargs hg hR ha => (h sn W cargs hg hR ha).mono fun e W' ⟨v, h1, h2, h3⟩ => ⟨v, h1, h2, hw _ _ h3⟩
theorem nil_rs {z : Nat} {sn : Snap} {ι : IMap} {v : Value} (h : VR sn ι .nslice v) : VR sn ι (.rs 0 z []) v := by simp only [VR] at h ⊢; exact .inl ⟨trivial, trivial, h⟩
section
open Classical
noncomputable def orcJ {I : Type} (G : I → Prop) (fF : I → Nat) (fA : I → List AV) (fR : I → AV) : Orc := orcV fun f args => if h : ∃ i, G i ∧ fF i = f ∧ fA i = args then some (fR (Classical.choose h)) else none
theorem orcJ_sound {P : Program} {gl : Glob} {I : Type} {G : I → Prop} {fF : I → Nat} {fA : I → List AV} {fR : I → AV} (h : ∀ i, G i → refsL (fA i) [] = [] ∧ ValOK P gl (fF i) (fA i) (fR i)) : OrcSound P gl (orcJ G fF fA fR) := orcV_sound fun f args r e => by
  split at e
  · rename_i hx
    simp only [Option.some.injEq] at e
    subst e
    obtain ⟨g1, e1, e2⟩ := Classical.choose_spec hx
    have := h _ g1
    rw [e1, e2] at this; exact this
  · cases e
theorem callJ {P : Program} {I : Type} {G : I → Prop} {fF : I → Nat} {fA : I → List AV} {fR : I → AV} (hinj : ∀ i j, G i → G j → fF i = fF j → fA i = fA j → fR i = fR j) {H : AHeap} (i : I) (hb : hasBody P (fF i) = true) (hi : G i) :
    acall P (orcJ G fF fA fR) H (fF i) (fA i) = some (fR i, H) := by
  have hx : ∃ j, G j ∧ fF j = fF i ∧ fA j = fA i := ⟨i, hi, rfl, rfl⟩
  unfold acall
  rw [if_pos hb]
  unfold orcJ orcV
  simp only [dif_pos hx]
  obtain ⟨g1, g2, g3⟩ := Classical.choose_spec hx
  rw [hinj _ i g1 hi g2 g3]
theorem orcI_none {I : Type} {G : I → Prop} {fF : I → Nat} {fA : I → List AV} {fH : I → AHeap} {fR : I → AV} {fO : I → AHeap} {g : Nat} {args : List AV} {H : AHeap} (h : ∀ i, G i → fF i = g → fA i ≠ args) : orcI G fF fA fH fR fO g args H = none := by
  unfold orcI
  rw [dif_neg]
  rintro ⟨i, h1, h2, h3, _⟩
  exact h i h1 h2 h3
end
theorem callOr1 {P : Program} {o1 o2 : Orc} {H : AHeap} {g : Nat} {args : List AV} {x : AV × AHeap} (hb : hasBody P g = true) (h : acall P o1 H g args = some x) : acall P (orcOr o1 o2) H g args = some x := by
  unfold acall at h ⊢
  rw [if_pos hb] at h ⊢
  unfold orcOr; rw [h]
theorem callOr2 {P : Program} {o1 o2 : Orc} {H : AHeap} {g : Nat} {args : List AV} {x : AV × AHeap} (hb : hasBody P g = true) (h1 : o1 g args H = none) (h : acall P o2 H g args = some x) : acall P (orcOr o1 o2) H g args = some x := by
  unfold acall at h ⊢
  rw [if_pos hb] at h ⊢
  unfold orcOr; rw [h1]; exact h
structure Fam (P : Program) (gl : Glob) where
  I : Type
  f : Nat
  G : I → Prop
  A : I → List AV
  R : I → AV
  body : hasBody P f = true
  inj : ∀ i j, G i → G j → A i = A j → R i = R j
  ok : ∀ i, G i → refsL (A i) [] = [] ∧ ValOK P gl f (A i) (R i)
structure FamM (P : Program) (gl : Glob) where
  I : Type
  f : Nat
  G : I → Prop
  A : I → List AV
  H : I → AHeap
  R : I → AV
  O : I → AHeap
  body : hasBody P f = true
  inj : ∀ i j, G i → G j → A i = A j → H i = H j → R i = R j ∧ O i = O j
  ok : ∀ i, G i → MemOK P gl f (A i) (H i) (R i) (O i)
section
variable {P : Program} {gl : Glob}
def Fam.Ask (F : Fam P gl) (O : Orc) : Prop := ∀ i, F.G i → ∀ H, acall P O H F.f (F.A i) = some (F.R i, H)
def FamM.Ask (F : FamM P gl) (O : Orc) : Prop := ∀ i, F.G i → acall P O (F.H i) F.f (F.A i) = some (F.R i, F.O i)
def AllAsk (O : Orc) : List (Fam P gl) → Prop
  | [] => True
  | F :: l => F.Ask O ∧ AllAsk O l
def AllAskM (O : Orc) : List (FamM P gl) → Prop
  | [] => True
  | F :: l => F.Ask O ∧ AllAskM O l
theorem add_ask {o O : Orc} {f : Nat} (ho : ∀ g args H, g ≠ f → o g args H = none) : (∀ F : Fam P gl, F.f ≠ f → F.Ask O → F.Ask (orcOr o O)) ∧ (∀ F : FamM P gl, F.f ≠ f → F.Ask O → F.Ask (orcOr o O)) :=
  ⟨fun F hf h i hi H => callOr2 F.body (ho _ _ _ hf) (h i hi H), fun F hf h i hi => callOr2 F.body (ho _ _ _ hf) (h i hi)⟩
theorem fams_all : ∀ (l : List (Fam P gl)), nodupN (l.map (·.f)) = true → ∃ O, OrcSound P gl O ∧ AllAsk O l
  | [], _ => ⟨fun _ _ _ => none, (fun f args H r H' h => by cases h), trivial⟩
  | F :: l, h => by
    simp only [List.map_cons, nodupN, Bool.and_eq_true, Bool.not_eq_true'] at h
    obtain ⟨O, hO, ha⟩ := fams_all l h.2
    have ho : ∀ g args H, g ≠ F.f → orcJ F.G (fun _ => F.f) F.A F.R g args H = none := by
      intro g args H hg
      have : ¬ ∃ i, F.G i ∧ F.f = g ∧ F.A i = args := by
        rintro ⟨i, _, h2, _⟩
        exact hg h2.symm
      simp only [orcJ, orcV, dif_neg this]
    refine ⟨orcOr (orcJ F.G (fun _ => F.f) F.A F.R) O, orcOr_sound (orcJ_sound F.ok) hO, fun i hi H => callOr1 F.body (callJ (fun i j hi hj _ ha => F.inj i j hi hj ha) i F.body hi), ?_⟩
    have hn : ∀ G ∈ l, G.f ≠ F.f := fun G hG e => by
      have h1 := h.1
      have : mem F.f (l.map (·.f)) = true := mem_iff.2 (by rw [← e]; exact List.mem_map_of_mem hG)
      rw [this] at h1; cases h1
    clear h
    induction l with
    | nil => trivial
    | cons G l ih =>
      exact ⟨(add_ask ho).1 G (hn G (by simp)) ha.1, ih ha.2 fun K hK => hn K (by simp [hK])⟩
theorem fams (l : List (Fam P gl)) (h : nodupN (l.map (·.f)) = true) : ∃ O, OrcSound P gl O ∧ AllAsk O l := fams_all l h
theorem AllAsk.add {o O : Orc} {f : Nat} (ho : ∀ g args H, g ≠ f → o g args H = none) : ∀ {l : List (Fam P gl)}, mem f (l.map (·.f)) = false → AllAsk O l → AllAsk (orcOr o O) l
  | [], _, _ => trivial
  | F :: l, h, ha => by
    simp only [List.map_cons, mem, Bool.or_eq_false_iff] at h
    exact ⟨(add_ask ho).1 F (fun e => by rw [e] at h; simp at h) ha.1, AllAsk.add ho h.2 ha.2⟩
theorem AllAskM.add {o O : Orc} {f : Nat} (ho : ∀ g args H, g ≠ f → o g args H = none) : ∀ {l : List (FamM P gl)}, mem f (l.map (·.f)) = false → AllAskM O l → AllAskM (orcOr o O) l
  | [], _, _ => trivial
  | F :: l, h, ha => by
    simp only [List.map_cons, mem, Bool.or_eq_false_iff] at h
    exact ⟨(add_ask ho).2 F (fun e => by rw [e] at h; simp at h) ha.1, AllAskM.add ho h.2 ha.2⟩
theorem famsM : ∀ (m : List (FamM P gl)) (l : List (Fam P gl)), nodupN (m.map (·.f) ++ l.map (·.f)) = true → ∃ O, OrcSound P gl O ∧ AllAskM O m ∧ AllAsk O l
  | [], l, h => by
    obtain ⟨O, h1, h2⟩ := fams_all l h
    exact ⟨O, h1, trivial, h2⟩
  | F :: m, l, h => by
    simp only [List.map_cons, List.cons_append, nodupN, Bool.and_eq_true, Bool.not_eq_true'] at h
    obtain ⟨O, hO, ha, hb⟩ := famsM m l h.2
    have ho : ∀ g args H, g ≠ F.f → orcI F.G (fun _ => F.f) F.A F.H F.R F.O g args H = none := fun g args H hg => orcI_none fun i _ e => absurd e.symm hg
    have hmem : ∀ {a b : List Nat}, mem F.f (a ++ b) = false → mem F.f a = false ∧ mem F.f b = false := by
      intro a b h
      constructor
      · cases hx : mem F.f a with
        | false => rfl
        | true => rw [mem_iff.2 (List.mem_append.2 (.inl (mem_iff.1 hx)))] at h; cases h
      · cases hx : mem F.f b with
        | false => rfl
        | true => rw [mem_iff.2 (List.mem_append.2 (.inr (mem_iff.1 hx)))] at h; cases h
    obtain ⟨n1, n2⟩ := hmem h.1
    refine ⟨orcOr (orcI F.G (fun _ => F.f) F.A F.H F.R F.O) O, orcOr_sound (orcI_sound F.ok) hO, ⟨fun i hi => callOr1 F.body (callI (fun i j hi hj _ ha hh => F.inj i j hi hj ha hh) F.body i hi rfl rfl rfl), AllAskM.add ho n1 ha⟩, AllAsk.add ho n2 hb⟩
end
end Go.Abs
end


section

set_option linter.unusedVariables false
set_option linter.unusedSimpArgs false
namespace Go.Proofs.YtblnhcafobifgaaGreatDoor.lex
open Go.Abs Go.RowKit
set_option maxRecDepth 100000
set_option maxHeartbeats 4000000
variable {gl : Glob}
theorem bne_of {α : Type} [BEq α] {x y : α} {b : Bool} (h : (x == y) = b) : (x != y) = !b := by simp only [bne, h]
inductive Ex where
  | mk (op num : Int) (name : List UInt8) (kids : List Ex)
instance : Inhabited Ex := ⟨.mk 0 0 [] []⟩
def Ex.op : Ex → Int
  | .mk o _ _ _ => o
def Ex.num : Ex → Int
  | .mk _ n _ _ => n
def Ex.name : Ex → List UInt8
  | .mk _ _ s _ => s
def Ex.kids : Ex → List Ex
  | .mk _ _ _ k => k
mutual
def Ex.cells : Ex → List AV
  | .mk op num name kids => [.int .i64 op, .int .i64 num, .str name, .rs kids.length 4 (exC kids)]
def exC : List Ex → List AV
  | [] => []
  | e :: l => e.cells ++ exC l
end
def exA (l : List Ex) : AV := .rs l.length 4 (exC l)
mutual
def sizeE : Ex → Nat
  | .mk _ _ _ kids => 1 + sizeL kids
def sizeL : List Ex → Nat
  | [] => 0
  | e :: l => sizeE e + sizeL l
end
mutual
def deepE : Ex → Nat
  | .mk _ _ _ kids => deepL kids + 1
def deepL : List Ex → Nat
  | [] => 0
  | e :: l => max (deepE e) (deepL l)
end
theorem cells_len : ∀ e : Ex, e.cells.length = 4
  | .mk _ _ _ _ => by simp only [Ex.cells]; rfl
theorem exC_len : ∀ l : List Ex, (exC l).length = l.length * 4
  | [] => by simp only [exC]; rfl
  | e :: l => by simp only [exC, List.length_append, cells_len, exC_len l, List.length_cons]; omega
theorem exC_drop (e : Ex) (l : List Ex) (i : Nat) : (exC (e :: l)).drop ((i + 1) * 4) = (exC l).drop (i * 4) := by
  have h : (i + 1) * 4 = 4 + i * 4 := by omega
  rw [h, ← List.drop_drop, exC, List.drop_left' (cells_len e)]
theorem tk_app : ∀ (a b : List AV), tk a.length (a ++ b) = some a
  | [], b => by cases b <;> rfl
  | c :: a, b => by simp only [List.length_cons, List.cons_append, tk, tk_app a b]
theorem exC_at : ∀ (l : List Ex) (i : Nat) (h : i < l.length), (exC l).drop (i * 4) = l[i].cells ++ exC (l.drop (i + 1))
  | e :: l, 0, h => by simp only [Nat.zero_mul, List.drop_zero, exC, List.getElem_cons_zero, List.drop_succ_cons]
  | e :: l, i + 1, h => by rw [exC_drop, exC_at l i (by simpa using h)]; simp only [List.getElem_cons_succ, List.drop_succ_cons]
theorem ex4 (l : List Ex) (i : Nat) (h : i < l.length) : tk 4 ((exC l).drop (i * 4)) = some l[i].cells := by
  rw [exC_at l i h]
  have := tk_app l[i].cells (exC (l.drop (i + 1)))
  rwa [cells_len] at this
mutual
theorem cells_inj : ∀ (a b : Ex), a.cells = b.cells → a = b
  | .mk o n s k, .mk o' n' s' k', h => by
    simp only [Ex.cells] at h
    simp at h
    obtain ⟨rfl, rfl, rfl, hl, hk⟩ := h
    rw [exC_inj k k' hk hl]
theorem exC_inj : ∀ (a b : List Ex), exC a = exC b → a.length = b.length → a = b
  | [], [], _, _ => rfl
  | x :: a, y :: b, h, hl => by
    simp only [exC] at h
    have h' := List.append_inj h (by rw [cells_len, cells_len])
    rw [cells_inj x y h'.1, exC_inj a b h'.2 (by simpa using hl)]
  | [], _ :: _, _, hl => by simp at hl
  | _ :: _, [], _, hl => by simp at hl
end
theorem exA_inj {a b : List Ex} (h : exA a = exA b) : a = b := by
  simp only [exA, AV.rs.injEq, true_and] at h
  exact exC_inj _ _ h.2 h.1
theorem sizeE_pos : ∀ e : Ex, 0 < sizeE e
  | .mk _ _ _ _ => by simp only [sizeE]; omega
theorem sizeL_get : ∀ (l : List Ex) (i : Nat) (h : i < l.length), sizeL l = sizeL (l.take i) + sizeE l[i] + sizeL (l.drop (i + 1))
  | e :: l, 0, h => by simp only [List.take_zero, sizeL, List.getElem_cons_zero, List.drop_succ_cons, List.drop_zero]; omega
  | e :: l, i + 1, h => by
    have := sizeL_get l i (by simpa using h)
    simp only [List.take_succ_cons, sizeL, List.getElem_cons_succ, List.drop_succ_cons]; omega
theorem sizeL_len : ∀ l : List Ex, l.length ≤ sizeL l
  | [] => Nat.zero_le _
  | e :: l => by have := sizeL_len l; have := sizeE_pos e; simp only [sizeL, List.length_cons]; omega
theorem sizeE_kids : ∀ e : Ex, sizeE e = 1 + sizeL e.kids
  | .mk _ _ _ _ => by simp only [sizeE, Ex.kids]
theorem sizeL_mem : ∀ (l : List Ex) (e : Ex), e ∈ l → sizeE e ≤ sizeL l
  | e :: l, f, h => by
    simp only [sizeL]
    rcases List.mem_cons.1 h with rfl | h
    · omega
    · have := sizeL_mem l f h; omega
theorem ex_refs (e : Ex) : refsL [.agg e.cells] [] = [] := by
  obtain ⟨o, n, s, k⟩ := e
  simp only [Ex.cells]; rfl
theorem agg_inj {a b : Ex} (h : [AV.agg a.cells] = [AV.agg b.cells]) : a = b := by
  simp only [List.cons.injEq, AV.agg.injEq, and_true] at h
  exact cells_inj _ _ h
theorem get_mem {α : Type} {l : List α} {i : Nat} (h : i < l.length) : l[i] ∈ l := List.getElem_mem h
end Go.Proofs.YtblnhcafobifgaaGreatDoor.lex
end


section

set_option linter.unusedVariables false
set_option linter.unusedSimpArgs false
namespace Go.Proofs.YtblnhcafobifgaaGreatDoor.lex
open Go.Abs Go.RowKit
set_option maxRecDepth 100000
set_option maxHeartbeats 4000000
variable {gl : Glob}
def wordB (s : List UInt8) : Bool := !s.isEmpty && (wordN s == s.length && !keysL.contains s)
theorem wordR_B (s : List UInt8) : ∃ k w, wordR s = .tuple [.int .i64 k, .bool w] ∧ (w && (k == 1)) = wordB s ∧ (k == 1) = wordB s := by
  unfold wordR wordB
  by_cases h0 : s = []
  · subst h0; exact ⟨0, false, by rw [if_neg (fun h => h.1 rfl)], rfl, rfl⟩
  · by_cases hw : wordN s = s.length
    · rw [if_pos ⟨h0, hw⟩]
      refine ⟨_, _, rfl, ?_⟩
      have : s.isEmpty = false := by cases s with | nil => exact absurd rfl h0 | cons _ _ => rfl
      rw [this, hw]
      cases keysL.contains s <;> simp
    · rw [if_neg (fun h => hw h.2)]
      refine ⟨_, _, rfl, ?_⟩
      have : (wordN s == s.length) = false := by simpa using hw
      rw [this]; simp
theorem isWord_ok (s : List UInt8) (hs : s.length ≤ 9223372036854775807) (m : Bool) : ValOK Tryz.prog gl 45 [.str s, .bool m] (.bool (if m then wordB s else s == [])) := by
  obtain ⟨k, w, h1, h2, h3⟩ := wordR_B s
  have hO := orcF_sound (P := Tryz.prog) (gl := gl) (l := [(74, [.str s], wordR s)]) ⟨rfl, wordP_ok s hs, trivial⟩
  have q : ∀ H, acall Tryz.prog (orcF [(74, [.str s], wordR s)]) H 74 [.str s] = some (wordR s, H) := fun H => callF (by kernel_rfl) findF_here
  rw [h1] at q hO
  rw [← h3]
  cases m with
  | true =>
    refine fn_val follows noNum hO Tryz.func45 rfl ?_
    repeat' ((conv => whnf); first | (refine exI (q _) ?_) | (first | refine stp ?_ | with_reducible refine condB (fun h => ?_) (fun h => ?_)))
    all_goals rfl
  | false =>
    refine fn_val follows noNum hO Tryz.func45 rfl ?_
    repeat' ((conv => whnf); first | (refine exI (q _) ?_) | (first | refine stp ?_ | with_reducible refine condB (fun h => ?_) (fun h => ?_)))
    all_goals rfl
end Go.Proofs.YtblnhcafobifgaaGreatDoor.lex
end


section

set_option linter.unusedVariables false
set_option linter.unusedSimpArgs false
namespace Go.Proofs.YtblnhcafobifgaaGreatDoor.lex
open Go.Abs Go.RowKit
set_option maxRecDepth 100000
set_option maxHeartbeats 4000000
variable {gl : Glob}
def okN (s : List UInt8) (n : Nat) : Prop := s.length ≤ 9223372036854775807 ∧ n ≤ 9223372036854775807
mutual
def okE : Ex → Prop
  | .mk _ _ s k => okN s k.length ∧ okL k
def okL : List Ex → Prop
  | [] => True
  | e :: l => okE e ∧ okL l
end
theorem okL_get : ∀ {l : List Ex}, okL l → ∀ e ∈ l, okE e
  | x :: l, h, e, he => by
    simp only [okL] at h
    rcases List.mem_cons.1 he with rfl | he
    · exact h.1
    · exact okL_get h.2 e he
theorem okE_kids : ∀ {e : Ex}, okE e → okN e.name e.kids.length ∧ okL e.kids
  | .mk _ _ s k, h => by simp only [okE] at h; exact h
def kidsI (op : Int) : Int := if op = 1 ∨ op = 2 then 0 else if op = 3 ∨ op = 4 then 1 else if 5 ≤ op ∧ op ≤ 16 then 2 else -1
mutual
def heftE : Ex → Int → Int
  | .mk _ _ s k, l => heftL k (l - 1 - (s.length / 20 : Nat))
def heftL : List Ex → Int → Int
  | [], l => l
  | e :: k, l => if 0 ≤ l then heftL k (heftE e l) else l
end
mutual
theorem heftE_size : ∀ (e : Ex) (l : Int), 0 ≤ heftE e l → (sizeE e : Int) + heftE e l ≤ l
  | .mk _ _ s k, l, h => by
    simp only [heftE, sizeE] at *
    have := heftL_size k _ h; omega
theorem heftL_size : ∀ (k : List Ex) (l : Int), 0 ≤ heftL k l → (sizeL k : Int) + heftL k l ≤ l
  | [], l, h => by simp only [heftL, sizeL] at *; omega
  | e :: k, l, h => by
    simp only [heftL, sizeL] at *
    split at h
    · rename_i hl
      rw [if_pos hl]
      have h1 := heftL_size k _ h
      have h2 : 0 ≤ heftE e l := by omega
      have h3 := heftE_size e l h2
      omega
    · omega
end
mutual
theorem heftE_le : ∀ (e : Ex) (l : Int), heftE e l ≤ l
  | .mk _ _ s k, l => by simp only [heftE]; have := heftL_le k (l - 1 - (s.length / 20 : Nat)); omega
theorem heftL_le : ∀ (k : List Ex) (l : Int), heftL k l ≤ l
  | [], l => by simp only [heftL]; omega
  | e :: k, l => by
    simp only [heftL]
    split
    · have := heftL_le k (heftE e l); have := heftE_le e l; omega
    · omega
end
theorem heftL_at : ∀ (k : List Ex) (l : Int) (i : Nat) (h : i < k.length), heftL (k.take (i + 1)) l = if 0 ≤ heftL (k.take i) l then heftE k[i] (heftL (k.take i) l) else heftL (k.take i) l
  | e :: k, l, 0, h => by simp only [List.take_succ_cons, List.take_zero, heftL, List.getElem_cons_zero]
  | e :: k, l, i + 1, h => by
    have ih := fun l => heftL_at k l i (by simpa using h)
    simp only [List.take_succ_cons, heftL, List.getElem_cons_succ] at ih ⊢
    split
    · exact ih _
    · rename_i h2; simp [h2]
theorem heftL_stop : ∀ (k : List Ex) (l : Int) (i : Nat), heftL (k.take i) l < 0 → heftL k l = heftL (k.take i) l
  | [], l, i, h => by simp [heftL]
  | e :: k, l, 0, h => by
    simp only [List.take_zero, heftL] at *
    rw [if_neg (by omega)]
  | e :: k, l, i + 1, h => by
    simp only [List.take_succ_cons, heftL] at *
    split
    · rename_i hl
      rw [if_pos hl] at h
      exact heftL_stop k _ i h
    · rfl
theorem heft_ok : ∀ (n : Nat) (e : Ex) (l : Int), sizeE e ≤ n → okE e → 0 ≤ l → l ≤ 1048576 → ValOK Tryz.prog gl 41 [.agg e.cells, .int .i64 l] (.int .i64 (heftE e l))
  | 0, e, l, h, _, _, _ => by have := sizeE_pos e; omega
  | n + 1, .mk op num name kids, l, h, hok, hl0, hl1 => by
    simp only [sizeE] at h
    obtain ⟨⟨hn1, hn2⟩, hok2⟩ := okE_kids hok
    simp only [Ex.name, Ex.kids] at hn1 hn2 hok2
    obtain ⟨O, hO, q, -⟩ := fams (P := Tryz.prog) (gl := gl) [{ I := Ex × Int, f := 41, G := fun p => p.1 ∈ kids ∧ 0 ≤ p.2 ∧ p.2 ≤ 1048576, A := fun p => [.agg p.1.cells, .int .i64 p.2], R := fun p => .int .i64 (heftE p.1 p.2), body := (by kernel_rfl), inj := (fun i j _ _ h => by simp only [List.cons.injEq, AV.agg.injEq, AV.int.injEq, and_true, true_and] at h; rw [cells_inj _ _ h.1, h.2]), ok := (fun p hp => ⟨by have := ex_refs p.1; simpa [refsL, refs] using this, heft_ok n p.1 p.2 (by have := sizeL_mem _ _ hp.1; omega) (okL_get hok2 _ hp.1) hp.2.1 hp.2.2⟩) }] rfl
    have q20 : Int.tdiv (name.length : Int) 20 = ((name.length / 20 : Nat) : Int) := rfl
    have w1 : IntKind.i64.wrap (l - 1) = l - 1 := wrapB (by omega) (by omega)
    have w2 : IntKind.i64.wrap (Int.tdiv (name.length : Int) 20) = ((name.length / 20 : Nat) : Int) := by rw [q20]; exact wrapB (by omega) (by omega)
    have w3 : IntKind.i64.wrap (l - 1 - ((name.length / 20 : Nat) : Int)) = l - 1 - ((name.length / 20 : Nat) : Int) := wrapB (by omega) (by omega)
    simp only [Ex.cells, heftE]
    refine fn_val follows noNum hO Tryz.func41 rfl ?_
    repeat' ((conv => whnf); first | (with_reducible refine exW w1 ?_) | (refine And.intro (show (20 : Int) ≠ 0 by decide) ?_) | (rw [w2]) | (with_reducible refine exW w3 ?_) | (first | refine stp ?_ | with_reducible refine condB (fun h => ?_) (fun h => ?_)))
    conv => whnf
    generalize hl00 : l - 1 - ((name.length / 20 : Nat) : Int) = l0 at *
    refine ⟨Nat, (fun i => i ≤ kids.length), (fun i => [(1, .int .i64 (heftL (kids.take i) l0)), (2, .ptr 0 0), (5, .int .i64 i)]), (fun _ => [⟨true, 0, 0, .cells [.int .i64 op, .int .i64 num, .str name, .rs kids.length 4 (exC kids)] 68⟩]), (fun i => kids.length - i), ⟨0, Nat.zero_le _, FgL.mk [0] rfl ?_ ⟨⟨rfl, rfl, rfl, rfl, BodyGe.pre (rest := []) rfl rfl⟩, trivial⟩ rfl⟩, ?_⟩
    · simp only [List.take_zero, heftL]; (repeat (first | exact trivial | refine stw ?_))
    intro i hi
    dsimp only
    have hle := heftL_le (kids.take i) l0
    by_cases hlt : i < kids.length
    · have e1 : decide ((i : Int) < (kids.length : Int)) = true := by simpa using hlt
      by_cases hpos : 0 ≤ heftL (kids.take i) l0
      · have e2 : decide (heftL (kids.take i) l0 ≥ 0) = true := by simpa using hpos
        have hx := ex4 kids i hlt
        have hs := heftL_at kids l0 i hlt
        rw [if_pos hpos] at hs
        have hc' : ∀ H, acall Tryz.prog O H 41 [.agg kids[i].cells, .int .i64 (heftL (kids.take i) l0)] = some (.int .i64 (heftE kids[i] (heftL (kids.take i) l0)), H) := q (kids[i], _) ⟨get_mem hlt, hpos, by show heftL (kids.take i) l0 ≤ 1048576; omega⟩
        generalize kids[i] = k at *
        repeat' ((conv => whnf); first | (refine exI hx ?_) | (refine exI (hc' _) ?_) | (with_reducible refine ixJ i rfl ?_ ?_; (focus (omega))) | (first | refine stp ?_ | with_reducible refine condB (fun h => ?_) (fun h => ?_)))
        conv => whnf
        refine ⟨i + 1, hlt, by show kids.length - (i + 1) < kids.length - i; omega, FgL.mk [0] rfl ?_ ⟨⟨rfl, rfl, rfl, rfl, BodyGe.pre (rest := []) rfl rfl⟩, trivial⟩ rfl⟩
        rw [hs]; (repeat (first | exact trivial | refine stw ?_))
      · have e2 : decide (heftL (kids.take i) l0 ≥ 0) = false := by simpa using hpos
        have hst := heftL_stop kids l0 i (by omega)
        rw [hst]
        repeat' ((conv => whnf); first | refine stp ?_ | with_reducible refine condB (fun h => ?_) (fun h => ?_))
        rfl
    · have e1 : decide ((i : Int) < (kids.length : Int)) = false := by simpa using hlt
      have hi2 : i = kids.length := by have := hi; omega
      subst hi2
      rw [List.take_length]
      repeat' ((conv => whnf); first | refine stp ?_ | with_reducible refine condB (fun h => ?_) (fun h => ?_))
      rfl
def ownF (op num : Int) (name : List UInt8) (n : Nat) : Bool := kidsI op == (n : Int) && ((op == 2) == wordB name && ((op == 2 || name == []) && (decide (0 ≤ num) && (op == 1 || num == 0))))
def ownE (e : Ex) : Bool := ownF e.op e.num e.name e.kids.length
mutual
def rightE : Ex → Bool
  | .mk o n s k => ownF o n s k.length && rightL k
def rightL : List Ex → Bool
  | [] => true
  | e :: l => rightE e && rightL l
end
end Go.Proofs.YtblnhcafobifgaaGreatDoor.lex
end


section

set_option linter.unusedVariables false
set_option linter.unusedSimpArgs false
namespace Go.Proofs.YtblnhcafobifgaaGreatDoor.lex
open Go.Abs Go.RowKit
set_option maxRecDepth 100000
set_option maxHeartbeats 4000000
theorem FgLK.same {k : Nat} {t0 tm : Tr} {H : AHeap} {l : List (Nat × AV)} (h1 : subT t0 tm = true) (hs : SlotsGe (List.range k) tm l) (hH : HpGe H (List.range k) (List.range k) H 0 ∧ nodupN ((List.range k).map (famOf H)) = true ∧ pref k 0 (List.range k) = true) : FgLK k t0 tm H l H := by
  unfold FgLK
  rw [h1]
  exact ⟨List.range k, hH.2.2, hs, hH.1, hH.2.1⟩
structure TvE (gl : Glob) where
  σ : Type
  Mem : σ → AHeap
  k : Nat
  len : ∀ s, (Mem s).length = k
  same : ∀ s, HpGe (Mem s) (List.range k) (List.range k) (Mem s) 0 ∧ nodupN ((List.range k).map (famOf (Mem s))) = true ∧ pref k 0 (List.range k) = true
  evo : ∀ s s', evoB k (Mem s) (Mem s') = true
  inj : ∀ s s', Mem s = Mem s' → s = s'
  I : Int → σ → Nat → Prop
  up : ∀ d s m, 0 ≤ d → I (d + 1) s m → I d s m
  less : ∀ d s m, I d s (m + 1) → I d s m
  bnd : ∀ d s m, I d s m → 0 ≤ d ∧ d ≤ 1152921504606846976
  gE : Nat
  cE : List AV
  hE : Ex → Int → σ → Bool × σ
  bodyE : hasBody Tryz.prog gE = true
  wkE : WkL (List.range k) cE cE
  okE : ∀ e rest d s m, okE e → I d s (m + 1) → MemOK Tryz.prog gl gE ([.rp (e.cells ++ rest), .int .i64 d] ++ cE) (Mem s) (.bool (hE e d s).1) (Mem (hE e d s).2)
  downE : ∀ e d s m, I d s (m + 1) → (hE e d s).1 = true → I (d + 1) (hE e d s).2 m
section
variable {σ : Type}
mutual
def goE (h : Ex → Int → σ → Bool × σ) : Ex → Int → σ → Bool × σ
  | .mk o n s k, d, t => if (h (.mk o n s k) d t).1 = true then goL h k (d + 1) (h (.mk o n s k) d t).2 else (false, (h (.mk o n s k) d t).2)
def goL (h : Ex → Int → σ → Bool × σ) : List Ex → Int → σ → Bool × σ
  | [], d, t => (true, t)
  | e :: l, d, t => if (goE h e d t).1 = true then goL h l d (goE h e d t).2 else (false, (goE h e d t).2)
end
variable {h : Ex → Int → σ → Bool × σ}
theorem goE_eq (e : Ex) (d : Int) (t : σ) : goE h e d t = if (h e d t).1 = true then goL h e.kids (d + 1) (h e d t).2 else (false, (h e d t).2) := by
  obtain ⟨o, n, s, k⟩ := e
  simp only [goE, Ex.kids]
theorem goL_at : ∀ (l : List Ex) (d : Int) (t : σ) (i : Nat) (hi : i < l.length), (goL h (l.take i) d t).1 = true → goL h (l.take (i + 1)) d t = goE h l[i] d (goL h (l.take i) d t).2
  | e :: l, d, t, 0, _, _ => by
    simp only [List.take_zero, List.take_succ_cons, goL, List.getElem_cons_zero]
    split
    · rename_i h2; rw [← h2]
    · rename_i h2; rw [← Bool.eq_false_iff.2 h2]
  | e :: l, d, t, i + 1, hi, ht => by
    simp only [List.take_succ_cons, goL, List.getElem_cons_succ] at ht ⊢
    split
    · rename_i h2
      rw [if_pos h2] at ht
      exact goL_at l d _ i (by simpa using hi) ht
    · rename_i h2; rw [if_neg h2] at ht; cases ht
theorem goL_stop : ∀ (l : List Ex) (d : Int) (t : σ) (i : Nat), (goL h (l.take i) d t).1 = false → goL h l d t = goL h (l.take i) d t
  | [], d, t, i, hf => by simp
  | e :: l, d, t, 0, hf => by simp only [List.take_zero, goL] at hf; cases hf
  | e :: l, d, t, i + 1, hf => by
    simp only [List.take_succ_cons, goL] at hf ⊢
    split
    · rename_i h2
      rw [if_pos h2] at hf
      exact goL_stop l d _ i hf
    · rfl
end
section
variable {gl : Glob} (V : TvE gl)
def TvE.F : AV := .func (.func V.gE) [] V.cE
mutual
theorem TvE.keepE : ∀ (e : Ex) (d : Int) (s : V.σ) (m : Nat), V.I d s (sizeE e + m) → (goE V.hE e d s).1 = true → V.I d (goE V.hE e d s).2 m
  | .mk o n t k, d, s, m, hI, ht => by
    simp only [goE, sizeE] at hI ht ⊢
    split
    · rename_i h2
      rw [if_pos h2] at ht
      have h3 := V.downE _ d s (sizeL k + m) (by rw [show 1 + sizeL k + m = sizeL k + m + 1 from by omega] at hI; exact hI) h2
      exact V.up _ _ _ (V.bnd _ _ _ hI).1 (TvE.keepL k (d + 1) _ m h3 ht)
    · rename_i h2; rw [if_neg h2] at ht; cases ht
theorem TvE.keepL : ∀ (l : List Ex) (d : Int) (s : V.σ) (m : Nat), V.I d s (sizeL l + m) → (goL V.hE l d s).1 = true → V.I d (goL V.hE l d s).2 m
  | [], d, s, m, hI, ht => by simp only [goL, sizeL, Nat.zero_add] at hI ⊢; exact hI
  | e :: l, d, s, m, hI, ht => by
    simp only [goL, sizeL] at hI ht ⊢
    split
    · rename_i h2
      rw [if_pos h2] at ht
      exact TvE.keepL l d _ m (TvE.keepE e d s (sizeL l + m) (by rw [← Nat.add_assoc]; exact hI) h2) ht
    · rename_i h2; rw [if_neg h2] at ht; cases ht
end
theorem kid_cell (e : Ex) (rest : List AV) : tk 1 ((e.cells ++ rest).drop 3) = some [exA e.kids] := by
  obtain ⟨o, n, s, k⟩ := e
  simp only [Ex.cells, exA, Ex.kids]; rfl
theorem TvE.fin (s t : V.σ) (b : Bool) : List.take V.k (V.Mem t) = V.Mem t ∧ (allLt V.k (refs (AV.bool b) []) && evoB V.k (V.Mem s) (V.Mem t)) = true :=
  ⟨List.take_of_length_le (by rw [V.len]; exact Nat.le_refl _), by rw [V.evo]; rfl⟩
theorem TvE.exprs (hf : Tryz.prog.follows .mixedOrders = true) : ∀ (n : Nat) (l : List Ex) (d : Int) (s : V.σ) (m : Nat), sizeL l ≤ n → okL l → l.length ≤ 9223372036854775807 → V.I d s (sizeL l + m) →
    MemOK Tryz.prog gl 75 [exA l, .int .i64 d, V.F] (V.Mem s) (.bool (goL V.hE l d s).1) (V.Mem (goL V.hE l d s).2)
  | n, l, d, s, m, hn, hok, hl, hI => by
    have hF : ∃ O, OrcSound Tryz.prog gl O ∧ (∀ (i : Nat) (hi : i < l.length) (t : V.σ) (q : Nat), n ≠ 0 → V.I (d + 1) t (sizeL l[i].kids + q) → acall Tryz.prog O (V.Mem t) 75 [exA l[i].kids, .int .i64 (d + 1), V.F] = some (.bool (goL V.hE l[i].kids (d + 1) t).1, V.Mem (goL V.hE l[i].kids (d + 1) t).2)) ∧
        (∀ (i : Nat) (hi : i < l.length) (t : V.σ) (q : Nat), V.I d t (q + 1) → acall Tryz.prog O (V.Mem t) V.gE ([.rp ((exC l).drop (i * 4)), .int .i64 d] ++ V.cE) = some (.bool (V.hE l[i] d t).1, V.Mem (V.hE l[i] d t).2)) := by
      have s1 := orcI_sound (P := Tryz.prog) (gl := gl) (I := Nat × V.σ × Nat) (G := fun p => ∃ hp : p.1 < l.length, n ≠ 0 ∧ V.I (d + 1) p.2.1 (sizeL l[p.1].kids + p.2.2)) (fF := fun _ => 75) (fA := fun p => [exA (l.getD p.1 default).kids, .int .i64 (d + 1), V.F]) (fH := fun p => V.Mem p.2.1) (fR := fun p => .bool (goL V.hE (l.getD p.1 default).kids (d + 1) p.2.1).1) (fO := fun p => V.Mem (goL V.hE (l.getD p.1 default).kids (d + 1) p.2.1).2) fun p hp => by
        obtain ⟨hp, h0, h1⟩ := hp
        have hg : l.getD p.1 default = l[p.1] := by simp [List.getD_eq_getElem?_getD, hp]
        rw [hg]
        have hke := okL_get hok _ (get_mem hp)
        have hsz := sizeL_mem _ _ (get_mem hp)
        have hsk := sizeE_kids l[p.1]
        match n, hn, h0 with
        | n + 1, hn, _ => exact TvE.exprs hf n _ (d + 1) p.2.1 p.2.2 (by omega) (okE_kids hke).2 (okE_kids hke).1.2 h1
      have s2 := orcI_sound (P := Tryz.prog) (gl := gl) (I := Nat × V.σ × Nat) (G := fun p => p.1 < l.length ∧ V.I d p.2.1 (p.2.2 + 1)) (fF := fun _ => V.gE) (fA := fun p => [.rp ((exC l).drop (p.1 * 4)), .int .i64 d] ++ V.cE) (fH := fun p => V.Mem p.2.1) (fR := fun p => .bool (V.hE (l.getD p.1 default) d p.2.1).1) (fO := fun p => V.Mem (V.hE (l.getD p.1 default) d p.2.1).2) fun p hp => by
        obtain ⟨hp, h1⟩ := hp
        have hg : l.getD p.1 default = l[p.1] := by simp [List.getD_eq_getElem?_getD, hp]
        have hke := okL_get hok _ (get_mem hp)
        simp only [hg]
        rw [exC_at l p.1 hp]
        exact V.okE _ _ _ _ _ hke h1
      refine ⟨_, orcOr_sound s1 s2, fun i hi t q h0 h1 => ?_, fun i hi t q h1 => ?_⟩
      · have hg : l.getD i default = l[i] := by simp [List.getD_eq_getElem?_getD, hi]
        have := callI (P := Tryz.prog) (I := Nat × V.σ × Nat) (G := fun p => ∃ hp : p.1 < l.length, n ≠ 0 ∧ V.I (d + 1) p.2.1 (sizeL l[p.1].kids + p.2.2)) (fF := fun _ => 75) (fA := fun p => [exA (l.getD p.1 default).kids, .int .i64 (d + 1), V.F]) (fH := fun p => V.Mem p.2.1) (fR := fun p => .bool (goL V.hE (l.getD p.1 default).kids (d + 1) p.2.1).1) (fO := fun p => V.Mem (goL V.hE (l.getD p.1 default).kids (d + 1) p.2.1).2)
          (fun p q _ _ _ ha hh => by
            have e2 := V.inj _ _ hh
            simp only [List.cons.injEq, and_true, true_and] at ha
            rw [exA_inj ha, e2]; exact ⟨rfl, rfl⟩) (g := 75) (args := [exA l[i].kids, .int .i64 (d + 1), V.F]) (H := V.Mem t) (by kernel_rfl) (i, t, q) ⟨hi, h0, h1⟩ rfl (by rw [hg]) rfl
        simp only [hg] at this
        exact callOr1 (by kernel_rfl) this
      · have hg : l.getD i default = l[i] := by simp [List.getD_eq_getElem?_getD, hi]
        refine callOr2 V.bodyE (orcI_none fun p _ _ ha => ?_) ?_
        · have := congrArg (fun a => a.head?) ha
          simp [exA] at this
        · have := callI (P := Tryz.prog) (I := Nat × V.σ × Nat) (G := fun p => p.1 < l.length ∧ V.I d p.2.1 (p.2.2 + 1)) (fF := fun _ => V.gE) (fA := fun p => [.rp ((exC l).drop (p.1 * 4)), .int .i64 d] ++ V.cE) (fH := fun p => V.Mem p.2.1) (fR := fun p => .bool (V.hE (l.getD p.1 default) d p.2.1).1) (fO := fun p => V.Mem (V.hE (l.getD p.1 default) d p.2.1).2)
            (fun p q hp hq _ ha hh => by
              have e2 := V.inj _ _ hh
              simp only [List.cons_append, List.nil_append, List.cons.injEq, AV.rp.injEq, true_and, and_true] at ha
              have := congrArg List.length ha
              simp only [List.length_drop, exC_len] at this
              have e : p.1 = q.1 := by have := hp.1; have := hq.1; omega
              rw [e, e2]; exact ⟨rfl, rfl⟩) (g := V.gE) (args := [.rp ((exC l).drop (i * 4)), .int .i64 d] ++ V.cE) (H := V.Mem t) V.bodyE (i, t, q) ⟨hi, h1⟩ rfl rfl rfl
          simp only [hg] at this
          exact this
    obtain ⟨O, hO, q2, q1⟩ := hF
    have hbd := V.bnd _ _ _ hI
    have w1 : IntKind.i64.wrap (d + 1) = d + 1 := wrapB (by omega) (by omega)
    simp only [exA, TvE.F] at q2 ⊢
    refine fn_mem (k := V.k) follows noNum hO (V.len s) Tryz.func75 rfl (cw0_ok _ _) ?_
    repeat' ((conv => whnf); first | (rw [frcHW_eq]) | (first | refine stp ?_ | with_reducible refine condB (fun h => ?_) (fun h => ?_)))
    conv => whnf
    refine ⟨Nat, (fun i => i ≤ l.length ∧ (goL V.hE (l.take i) d s).1 = true), (fun i => [(0, .rs l.length 4 (exC l)), (1, .int .i64 d), (2, .func (.func V.gE) [] V.cE), (9, .int .i64 l.length), (10, .int .i64 i)]), (fun i => V.Mem (goL V.hE (l.take i) d s).2), (fun i => l.length - i), ⟨0, ⟨Nat.zero_le _, by simp only [List.take_zero, goL]⟩, ?_⟩, ?_⟩
    · simp only [List.take_zero, goL]
      refine FgLK.same rfl ?_ (V.same _)
      refine And.intro (Wk.noref rfl) ?_
      refine And.intro (Wk.noref rfl) ?_
      refine And.intro (Wk.func trivial V.wkE) ?_
      refine And.intro (Wk.int rfl) ?_
      exact ⟨Wk.int rfl, trivial⟩
    rintro i ⟨hi, hall⟩
    dsimp only
    conv => whnf
    rw [frcHW_eq]
    by_cases hlt : i < l.length
    · have e1 : decide ((i : Int) < (l.length : Int)) = true := by simpa using hlt
      have hat := goL_at (h := V.hE) l d s i hlt hall
      have hI2 : V.I d (goL V.hE (l.take i) d s).2 (sizeL (l.drop i) + m) := V.keepL (l.take i) d s (sizeL (l.drop i) + m) (by
        have := sizeL_get l i hlt
        have e : sizeL (l.drop i) = sizeE l[i] + sizeL (l.drop (i + 1)) := by rw [List.drop_eq_getElem_cons hlt]; simp only [sizeL]
        have e2 : sizeL (l.take i) + (sizeL (l.drop i) + m) = sizeL l + m := by omega
        rw [e2]; exact hI) hall
      generalize (goL V.hE (l.take i) d s).2 = t at *
      have esz : sizeL (l.drop i) + m = (sizeL l[i].kids + (sizeL (l.drop (i + 1)) + m)) + 1 := by
        rw [List.drop_eq_getElem_cons hlt]; simp only [sizeL]; have := sizeE_kids l[i]; omega
      rw [esz] at hI2
      have q1' := q1 i hlt t _ hI2
      have hd2 := V.downE l[i] d t _ hI2
      have hx3 : tk 1 (((exC l).drop (i * 4)).drop 3) = some [exA l[i].kids] := by rw [exC_at l i hlt]; exact kid_cell _ _
      have hn0 : n ≠ 0 := by have := sizeL_mem _ _ (get_mem hlt); have := sizeE_pos l[i]; omega
      have q2' := fun t q => q2 i hlt t q hn0
      rw [goE_eq] at hat
      have hst := goL_stop (h := V.hE) l d s (i + 1)
      generalize l[i] = e at *
      generalize hr : V.hE e d t = r at *
      obtain ⟨b, t1⟩ := r
      dsimp only at *
      cases b with
      | false =>
        simp only [Bool.false_eq_true, if_false] at hat
        rw [hat] at hst
        rw [hst rfl]
        clear q2 q2' hx3
        repeat' ((conv => whnf); first | (refine exI q1' ?_) | (rw [frcHW_eq]) | (with_reducible refine ixJ i rfl ?_ ?_; (focus (omega))) | (first | refine stp ?_ | with_reducible refine condB (fun h => ?_) (fun h => ?_)))
        all_goals (conv => whnf)
        all_goals (exact V.fin s t1 false)
      | true =>
        simp only [if_true] at hat
        have q2'' := q2' t1 _ (hd2 rfl)
        generalize hg : goL V.hE e.kids (d + 1) t1 = g at *
        obtain ⟨b2, t2⟩ := g
        dsimp only at *
        simp only [exA] at hx3 q2''
        cases b2 with
        | true =>
          repeat' ((conv => whnf); first | (refine exI q1' ?_) | (refine exI q2'' ?_) | (refine exI hx3 ?_) | (rw [frcHW_eq]) | (with_reducible refine exW w1 ?_) | (with_reducible refine ixJ i rfl ?_ ?_; (focus (omega))) | (first | refine stp ?_ | with_reducible refine condB (fun h => ?_) (fun h => ?_)))
          all_goals (conv => whnf)
          refine ⟨i + 1, ⟨hlt, by rw [hat]⟩, by show l.length - (i + 1) < l.length - i; omega, ?_⟩
          rw [hat]
          refine FgLK.same rfl ?_ (V.same _)
          refine And.intro (Wk.noref rfl) ?_
          refine And.intro (Wk.noref rfl) ?_
          refine And.intro (Wk.func trivial V.wkE) ?_
          refine And.intro (Wk.int rfl) ?_
          exact ⟨Wk.int rfl, trivial⟩
        | false =>
          rw [hat] at hst
          rw [hst rfl]
          repeat' ((conv => whnf); first | (refine exI q1' ?_) | (refine exI q2'' ?_) | (refine exI hx3 ?_) | (rw [frcHW_eq]) | (with_reducible refine exW w1 ?_) | (with_reducible refine ixJ i rfl ?_ ?_; (focus (omega))) | (first | refine stp ?_ | with_reducible refine condB (fun h => ?_) (fun h => ?_)))
          all_goals (conv => whnf)
          all_goals (exact V.fin s t2 false)
    · have e1 : decide ((i : Int) < (l.length : Int)) = false := by simpa using hlt
      have hi2 : i = l.length := by have := hi; omega
      subst hi2
      rw [List.take_length] at hall ⊢
      rw [hall]
      generalize (goL V.hE l d s).2 = t at *
      repeat' ((conv => whnf); first | (rw [frcHW_eq]) | (first | refine stp ?_ | with_reducible refine condB (fun h => ?_) (fun h => ?_)))
      all_goals (conv => whnf)
      all_goals (exact V.fin s t true)
end
end Go.Proofs.YtblnhcafobifgaaGreatDoor.lex
end


section

set_option linter.unusedVariables false
set_option linter.unusedSimpArgs false
namespace Go.Proofs.YtblnhcafobifgaaGreatDoor.lex
open Go.Abs Go.RowKit
set_option maxRecDepth 100000
set_option maxHeartbeats 4000000
inductive St where
  | mk (kind : Int) (name loc : List UInt8) (order : Int) (exprs : List Ex) (thn els : List St)
instance : Inhabited St := ⟨.mk 0 [] [] 0 [] [] []⟩
def St.kind : St → Int
  | .mk k _ _ _ _ _ _ => k
def St.name : St → List UInt8
  | .mk _ n _ _ _ _ _ => n
def St.loc : St → List UInt8
  | .mk _ _ l _ _ _ _ => l
def St.order : St → Int
  | .mk _ _ _ o _ _ _ => o
def St.exprs : St → List Ex
  | .mk _ _ _ _ x _ _ => x
def St.thn : St → List St
  | .mk _ _ _ _ _ t _ => t
def St.els : St → List St
  | .mk _ _ _ _ _ _ e => e
mutual
def St.cells : St → List AV
  | .mk k n l o x t e => [.int .i64 k, .str n, .str l, .int .i64 o, exA x, .rs t.length 7 (stC t), .rs e.length 7 (stC e)]
def stC : List St → List AV
  | [] => []
  | s :: l => s.cells ++ stC l
end
def stA (l : List St) : AV := .rs l.length 7 (stC l)
mutual
def sizeS : St → Nat
  | .mk _ _ _ _ x t e => 1 + sizeL x + sizeSL t + sizeSL e
def sizeSL : List St → Nat
  | [] => 0
  | s :: l => sizeS s + sizeSL l
end
mutual
def deepS : St → Nat
  | .mk _ _ _ _ x t e => max (max (deepSL t) (deepSL e)) (deepL x) + 1
def deepSL : List St → Nat
  | [] => 0
  | s :: l => max (deepS s) (deepSL l)
end
mutual
def okS : St → Prop
  | .mk _ n l _ x t e => okN n x.length ∧ okN l t.length ∧ e.length ≤ 9223372036854775807 ∧ okL x ∧ okSL t ∧ okSL e
def okSL : List St → Prop
  | [] => True
  | s :: l => okS s ∧ okSL l
end
theorem okSL_get : ∀ {l : List St}, okSL l → ∀ s ∈ l, okS s
  | x :: l, h, e, he => by
    simp only [okSL] at h
    rcases List.mem_cons.1 he with rfl | he
    · exact h.1
    · exact okSL_get h.2 e he
theorem okS_parts : ∀ {s : St}, okS s → s.name.length ≤ 9223372036854775807 ∧ s.loc.length ≤ 9223372036854775807 ∧ s.exprs.length ≤ 9223372036854775807 ∧ s.thn.length ≤ 9223372036854775807 ∧ s.els.length ≤ 9223372036854775807 ∧ okL s.exprs ∧ okSL s.thn ∧ okSL s.els
  | .mk _ _ _ _ _ _ _, h => by
    simp only [okS, okN] at h
    simp only [St.name, St.loc, St.exprs, St.thn, St.els]
    exact ⟨h.1.1, h.2.1.1, h.1.2, h.2.1.2, h.2.2.1, h.2.2.2⟩
theorem scells_len : ∀ s : St, s.cells.length = 7
  | .mk _ _ _ _ _ _ _ => by simp only [St.cells]; rfl
theorem stC_len : ∀ l : List St, (stC l).length = l.length * 7
  | [] => by simp only [stC]; rfl
  | s :: l => by simp only [stC, List.length_append, scells_len, stC_len l, List.length_cons]; omega
theorem stC_app : ∀ a b : List St, stC (a ++ b) = stC a ++ stC b
  | [], b => by simp only [stC, List.nil_append]
  | e :: a, b => by simp only [stC, List.cons_append, stC_app a b, List.append_assoc]
theorem stC_drop (s : St) (l : List St) (i : Nat) : (stC (s :: l)).drop ((i + 1) * 7) = (stC l).drop (i * 7) := by
  have h : (i + 1) * 7 = 7 + i * 7 := by omega
  rw [h, ← List.drop_drop, stC, List.drop_left' (scells_len s)]
theorem stC_at : ∀ (l : List St) (i : Nat) (h : i < l.length), (stC l).drop (i * 7) = l[i].cells ++ stC (l.drop (i + 1))
  | s :: l, 0, h => by simp only [Nat.zero_mul, List.drop_zero, stC, List.getElem_cons_zero, List.drop_succ_cons]
  | s :: l, i + 1, h => by rw [stC_drop, stC_at l i (by simpa using h)]; simp only [List.getElem_cons_succ, List.drop_succ_cons]
theorem st7 (l : List St) (i : Nat) (h : i < l.length) : tk 7 ((stC l).drop (i * 7)) = some l[i].cells := by
  rw [stC_at l i h]
  have := tk_app l[i].cells (stC (l.drop (i + 1)))
  rwa [scells_len] at this
mutual
theorem scells_inj : ∀ (a b : St), a.cells = b.cells → a = b
  | .mk k n l o x t e, .mk k' n' l' o' x' t' e', h => by
    simp only [St.cells, List.cons.injEq, AV.int.injEq, AV.str.injEq, AV.rs.injEq, true_and, and_true] at h
    obtain ⟨rfl, rfl, rfl, rfl, hx, ht, he⟩ := h
    rw [exA_inj hx, stC_inj t t' ht.2 ht.1, stC_inj e e' he.2 he.1]
theorem stC_inj : ∀ (a b : List St), stC a = stC b → a.length = b.length → a = b
  | [], [], _, _ => rfl
  | x :: a, y :: b, h, hl => by
    simp only [stC] at h
    have h' := List.append_inj h (by rw [scells_len, scells_len])
    rw [scells_inj x y h'.1, stC_inj a b h'.2 (by simpa using hl)]
  | [], _ :: _, _, hl => by simp at hl
  | _ :: _, [], _, hl => by simp at hl
end
theorem stA_inj {a b : List St} (h : stA a = stA b) : a = b := by
  simp only [stA, AV.rs.injEq, true_and] at h
  exact stC_inj _ _ h.2 h.1
theorem sizeS_pos : ∀ s : St, 0 < sizeS s
  | .mk _ _ _ _ _ _ _ => by simp only [sizeS]; omega
theorem sizeS_eq : ∀ s : St, sizeS s = 1 + sizeL s.exprs + sizeSL s.thn + sizeSL s.els
  | .mk _ _ _ _ _ _ _ => by simp only [sizeS, St.exprs, St.thn, St.els]
theorem sizeSL_get : ∀ (l : List St) (i : Nat) (h : i < l.length), sizeSL l = sizeSL (l.take i) + sizeS l[i] + sizeSL (l.drop (i + 1))
  | s :: l, 0, h => by simp only [List.take_zero, sizeSL, List.getElem_cons_zero, List.drop_succ_cons, List.drop_zero]; omega
  | s :: l, i + 1, h => by
    have := sizeSL_get l i (by simpa using h)
    simp only [List.take_succ_cons, sizeSL, List.getElem_cons_succ, List.drop_succ_cons]; omega
theorem sizeSL_len : ∀ l : List St, l.length ≤ sizeSL l
  | [] => Nat.zero_le _
  | s :: l => by have := sizeSL_len l; have := sizeS_pos s; simp only [sizeSL, List.length_cons]; omega
theorem sizeSL_mem : ∀ (l : List St) (s : St), s ∈ l → sizeS s ≤ sizeSL l
  | e :: l, f, h => by
    simp only [sizeSL]
    rcases List.mem_cons.1 h with rfl | h
    · omega
    · have := sizeSL_mem l f h; omega
theorem cell_x (s : St) (rest : List AV) : tk 1 ((s.cells ++ rest).drop 4) = some [exA s.exprs] := by
  obtain ⟨k, n, l, o, x, t, e⟩ := s
  simp only [St.cells, exA, St.exprs]; rfl
theorem cell_t (s : St) (rest : List AV) : tk 1 ((s.cells ++ rest).drop 5) = some [stA s.thn] := by
  obtain ⟨k, n, l, o, x, t, e⟩ := s
  simp only [St.cells, stA, St.thn]; rfl
theorem cell_e (s : St) (rest : List AV) : tk 1 ((s.cells ++ rest).drop 6) = some [stA s.els] := by
  obtain ⟨k, n, l, o, x, t, e⟩ := s
  simp only [St.cells, stA, St.els]; rfl
theorem cell_n (s : St) (rest : List AV) : tk 1 ((s.cells ++ rest).drop 1) = some [.str s.name] := by
  obtain ⟨k, n, l, o, x, t, e⟩ := s
  simp only [St.cells, St.name]; rfl
end Go.Proofs.YtblnhcafobifgaaGreatDoor.lex
end


section

set_option linter.unusedVariables false
set_option linter.unusedSimpArgs false
namespace Go.Proofs.YtblnhcafobifgaaGreatDoor.lex
open Go.Abs Go.RowKit
set_option maxRecDepth 100000
set_option maxHeartbeats 4000000
structure TvS (gl : Glob) extends TvE gl where
  gS : Nat
  cS : List AV
  hS : St → Int → σ → Bool × σ
  bodyS : hasBody Tryz.prog gS = true
  wkS : WkL (List.range k) cS cS
  okS : ∀ x rest d s m, lex.okS x → I d s (m + 1) → MemOK Tryz.prog gl gS ([.rp (x.cells ++ rest), .int .i64 d] ++ cS) (Mem s) (.bool (hS x d s).1) (Mem (hS x d s).2)
  downS : ∀ x d s m, I d s (m + 1) → (hS x d s).1 = true → I (d + 1) (hS x d s).2 m
section
variable {σ : Type}
def thenB (r : Bool × σ) (f : σ → Bool × σ) : Bool × σ := if r.1 = true then f r.2 else (false, r.2)
mutual
def goS (hE : Ex → Int → σ → Bool × σ) (hS : St → Int → σ → Bool × σ) : St → Int → σ → Bool × σ
  | .mk k n l o x t e, d, s => thenB (hS (.mk k n l o x t e) d s) fun s1 => thenB (goL hE x (d + 1) s1) fun s2 => thenB (goSL hE hS t (d + 1) s2) fun s3 => goSL hE hS e (d + 1) s3
def goSL (hE : Ex → Int → σ → Bool × σ) (hS : St → Int → σ → Bool × σ) : List St → Int → σ → Bool × σ
  | [], d, s => (true, s)
  | x :: l, d, s => thenB (goS hE hS x d s) fun s1 => goSL hE hS l d s1
end
variable {hE : Ex → Int → σ → Bool × σ} {hS : St → Int → σ → Bool × σ}
theorem goS_eq (x : St) (d : Int) (s : σ) : goS hE hS x d s = thenB (hS x d s) fun s1 => thenB (goL hE x.exprs (d + 1) s1) fun s2 => thenB (goSL hE hS x.thn (d + 1) s2) fun s3 => goSL hE hS x.els (d + 1) s3 := by
  obtain ⟨k, n, l, o, x, t, e⟩ := x
  simp only [goS, St.exprs, St.thn, St.els]
theorem goSL_at : ∀ (l : List St) (d : Int) (t : σ) (i : Nat) (hi : i < l.length), (goSL hE hS (l.take i) d t).1 = true → goSL hE hS (l.take (i + 1)) d t = goS hE hS l[i] d (goSL hE hS (l.take i) d t).2
  | e :: l, d, t, 0, _, _ => by
    simp only [List.take_zero, List.take_succ_cons, goSL, List.getElem_cons_zero, thenB]
    split
    · rename_i h2; rw [← h2]
    · rename_i h2; rw [← Bool.eq_false_iff.2 h2]
  | e :: l, d, t, i + 1, hi, ht => by
    simp only [List.take_succ_cons, goSL, List.getElem_cons_succ, thenB] at ht ⊢
    split
    · rename_i h2
      rw [if_pos h2] at ht
      exact goSL_at l d _ i (by simpa using hi) ht
    · rename_i h2; rw [if_neg h2] at ht; cases ht
theorem goSL_stop : ∀ (l : List St) (d : Int) (t : σ) (i : Nat), (goSL hE hS (l.take i) d t).1 = false → goSL hE hS l d t = goSL hE hS (l.take i) d t
  | [], d, t, i, hf => by simp
  | e :: l, d, t, 0, hf => by simp only [List.take_zero, goSL] at hf; cases hf
  | e :: l, d, t, i + 1, hf => by
    simp only [List.take_succ_cons, goSL, thenB] at hf ⊢
    split
    · rename_i h2
      rw [if_pos h2] at hf
      exact goSL_stop l d _ i hf
    · rfl
theorem thenB_true {r : Bool × σ} {f : σ → Bool × σ} (h : (thenB r f).1 = true) : r.1 = true ∧ thenB r f = f r.2 := by
  unfold thenB at h ⊢
  split at h
  · rename_i h2; exact ⟨h2, by rw [if_pos h2]⟩
  · cases h
end
section
variable {gl : Glob} (V : TvS gl)
def TvS.G : AV := .func (.func V.gS) [] V.cS
mutual
theorem TvS.keepS : ∀ (x : St) (d : Int) (s : V.σ) (m : Nat), V.I d s (sizeS x + m) → (goS V.hE V.hS x d s).1 = true → V.I d (goS V.hE V.hS x d s).2 m
  | .mk k n l o x t e, d, s, m, hI, ht => by
    simp only [goS, sizeS] at hI ht ⊢
    obtain ⟨h1, e1⟩ := thenB_true ht
    rw [e1] at ht ⊢
    obtain ⟨h2, e2⟩ := thenB_true ht
    rw [e2] at ht ⊢
    obtain ⟨h3, e3⟩ := thenB_true ht
    rw [e3] at ht ⊢
    have i1 := V.downS _ d s (sizeL x + (sizeSL t + (sizeSL e + m))) (by rw [show 1 + sizeL x + sizeSL t + sizeSL e + m = sizeL x + (sizeSL t + (sizeSL e + m)) + 1 from by omega] at hI; exact hI) h1
    have i2 := V.toTvE.keepL x (d + 1) _ _ i1 h2
    have i3 := TvS.keepSL t (d + 1) _ _ i2 h3
    exact V.up _ _ _ (V.bnd _ _ _ hI).1 (TvS.keepSL e (d + 1) _ m i3 ht)
theorem TvS.keepSL : ∀ (l : List St) (d : Int) (s : V.σ) (m : Nat), V.I d s (sizeSL l + m) → (goSL V.hE V.hS l d s).1 = true → V.I d (goSL V.hE V.hS l d s).2 m
  | [], d, s, m, hI, ht => by simp only [goSL, sizeSL, Nat.zero_add] at hI ⊢; exact hI
  | x :: l, d, s, m, hI, ht => by
    simp only [goSL, sizeSL] at hI ht ⊢
    obtain ⟨h1, e1⟩ := thenB_true ht
    rw [e1] at ht ⊢
    exact TvS.keepSL l d _ m (TvS.keepS x d s (sizeSL l + m) (by rw [← Nat.add_assoc]; exact hI) h1) ht
end
theorem TvS.stmts : ∀ (n : Nat) (l : List St) (d : Int) (s : V.σ) (m : Nat), sizeSL l ≤ n → okSL l → l.length ≤ 9223372036854775807 → V.I d s (sizeSL l + m) →
    MemOK Tryz.prog gl 46 [stA l, .int .i64 d, V.toTvE.F, V.G] (V.Mem s) (.bool (goSL V.hE V.hS l d s).1) (V.Mem (goSL V.hE V.hS l d s).2)
  | n, l, d, s, m, hn, hok, hl, hI => by
    have hF : ∃ O, OrcSound Tryz.prog gl O ∧
        (∀ (x : List St) (t : V.σ) (q : Nat), sizeSL x < n → okSL x → x.length ≤ 9223372036854775807 → V.I (d + 1) t (sizeSL x + q) → acall Tryz.prog O (V.Mem t) 46 [stA x, .int .i64 (d + 1), V.toTvE.F, V.G] = some (.bool (goSL V.hE V.hS x (d + 1) t).1, V.Mem (goSL V.hE V.hS x (d + 1) t).2)) ∧
        (∀ (x : List Ex) (t : V.σ) (q : Nat), okL x → x.length ≤ 9223372036854775807 → V.I (d + 1) t (sizeL x + q) → acall Tryz.prog O (V.Mem t) 75 [exA x, .int .i64 (d + 1), V.toTvE.F] = some (.bool (goL V.hE x (d + 1) t).1, V.Mem (goL V.hE x (d + 1) t).2)) ∧
        (∀ (i : Nat) (hi : i < l.length) (t : V.σ) (q : Nat), V.I d t (q + 1) → acall Tryz.prog O (V.Mem t) V.gS ([.rp ((stC l).drop (i * 7)), .int .i64 d] ++ V.cS) = some (.bool (V.hS l[i] d t).1, V.Mem (V.hS l[i] d t).2)) := by
      have s1 := orcI_sound (P := Tryz.prog) (gl := gl) (I := List St × V.σ × Nat) (G := fun p => sizeSL p.1 < n ∧ okSL p.1 ∧ p.1.length ≤ 9223372036854775807 ∧ V.I (d + 1) p.2.1 (sizeSL p.1 + p.2.2)) (fF := fun _ => 46) (fA := fun p => [stA p.1, .int .i64 (d + 1), V.toTvE.F, V.G]) (fH := fun p => V.Mem p.2.1) (fR := fun p => .bool (goSL V.hE V.hS p.1 (d + 1) p.2.1).1) (fO := fun p => V.Mem (goSL V.hE V.hS p.1 (d + 1) p.2.1).2) fun p hp => by
        obtain ⟨h0, h1, h2, h3⟩ := hp
        match n, hn, h0 with
        | n + 1, hn, h0 => exact TvS.stmts n _ (d + 1) p.2.1 p.2.2 (by omega) h1 h2 h3
      have s2 := orcI_sound (P := Tryz.prog) (gl := gl) (I := List Ex × V.σ × Nat) (G := fun p => okL p.1 ∧ p.1.length ≤ 9223372036854775807 ∧ V.I (d + 1) p.2.1 (sizeL p.1 + p.2.2)) (fF := fun _ => 75) (fA := fun p => [exA p.1, .int .i64 (d + 1), V.toTvE.F]) (fH := fun p => V.Mem p.2.1) (fR := fun p => .bool (goL V.hE p.1 (d + 1) p.2.1).1) (fO := fun p => V.Mem (goL V.hE p.1 (d + 1) p.2.1).2) fun p hp =>
        V.toTvE.exprs follows _ p.1 (d + 1) p.2.1 p.2.2 (Nat.le_refl _) hp.1 hp.2.1 hp.2.2
      have s3 := orcI_sound (P := Tryz.prog) (gl := gl) (I := Nat × V.σ × Nat) (G := fun p => p.1 < l.length ∧ V.I d p.2.1 (p.2.2 + 1)) (fF := fun _ => V.gS) (fA := fun p => [.rp ((stC l).drop (p.1 * 7)), .int .i64 d] ++ V.cS) (fH := fun p => V.Mem p.2.1) (fR := fun p => .bool (V.hS (l.getD p.1 default) d p.2.1).1) (fO := fun p => V.Mem (V.hS (l.getD p.1 default) d p.2.1).2) fun p hp => by
        obtain ⟨hp, h1⟩ := hp
        have hg : l.getD p.1 default = l[p.1] := by simp [List.getD_eq_getElem?_getD, hp]
        have hke := okSL_get hok _ (get_mem hp)
        simp only [hg]
        rw [stC_at l p.1 hp]
        exact V.okS _ _ _ _ _ hke h1
      refine ⟨_, orcOr_sound s1 (orcOr_sound s2 s3), fun x t q h0 h1 h2 h3 => ?_, fun x t q h0 h1 h2 => ?_, fun i hi t q h1 => ?_⟩
      · exact callOr1 (by kernel_rfl) (callI (P := Tryz.prog) (fun p q _ _ _ ha hh => by
            have e2 := V.inj _ _ hh
            simp only [List.cons.injEq, and_true, true_and] at ha
            rw [stA_inj ha, e2]; exact ⟨rfl, rfl⟩) (by kernel_rfl) (x, t, q) ⟨h0, h1, h2, h3⟩ rfl rfl rfl)
      · refine callOr2 (by kernel_rfl) (orcI_none fun p _ e _ => absurd e (by decide)) ?_
        exact callOr1 (by kernel_rfl) (callI (P := Tryz.prog) (fun p q _ _ _ ha hh => by
            have e2 := V.inj _ _ hh
            simp only [List.cons.injEq, and_true, true_and] at ha
            rw [exA_inj ha, e2]; exact ⟨rfl, rfl⟩) (by kernel_rfl) (x, t, q) ⟨h0, h1, h2⟩ rfl rfl rfl)
      · have hg : l.getD i default = l[i] := by simp [List.getD_eq_getElem?_getD, hi]
        refine callOr2 V.bodyS (orcI_none fun p _ _ ha => ?_) ?_
        · have := congrArg (fun a => a.head?) ha
          simp [stA] at this
        refine callOr2 V.bodyS (orcI_none fun p _ _ ha => ?_) ?_
        · have := congrArg (fun a => a.head?) ha
          simp [exA] at this
        · have := callI (P := Tryz.prog) (I := Nat × V.σ × Nat) (G := fun p => p.1 < l.length ∧ V.I d p.2.1 (p.2.2 + 1)) (fF := fun _ => V.gS) (fA := fun p => [.rp ((stC l).drop (p.1 * 7)), .int .i64 d] ++ V.cS) (fH := fun p => V.Mem p.2.1) (fR := fun p => .bool (V.hS (l.getD p.1 default) d p.2.1).1) (fO := fun p => V.Mem (V.hS (l.getD p.1 default) d p.2.1).2)
            (fun p q hp hq _ ha hh => by
              have e2 := V.inj _ _ hh
              simp only [List.cons_append, List.nil_append, List.cons.injEq, AV.rp.injEq, true_and, and_true] at ha
              have := congrArg List.length ha
              simp only [List.length_drop, stC_len] at this
              have e : p.1 = q.1 := by have := hp.1; have := hq.1; omega
              rw [e, e2]; exact ⟨rfl, rfl⟩) (g := V.gS) (args := [.rp ((stC l).drop (i * 7)), .int .i64 d] ++ V.cS) (H := V.Mem t) V.bodyS (i, t, q) ⟨hi, h1⟩ rfl rfl rfl
          simp only [hg] at this
          exact this
    obtain ⟨O, hO, q3, q2, q1⟩ := hF
    have hbd := V.bnd _ _ _ hI
    have w1 : IntKind.i64.wrap (d + 1) = d + 1 := wrapB (by omega) (by omega)
    simp only [stA, exA, TvE.F, TvS.G] at q2 q3 ⊢
    refine fn_mem (k := V.k) follows noNum hO (V.len s) Tryz.func46 rfl (cw0_ok _ _) ?_
    repeat' ((conv => whnf); (first | refine stp ?_ | with_reducible refine condB (fun h => ?_) (fun h => ?_)))
    conv => whnf
    refine ⟨Nat, (fun i => i ≤ l.length ∧ (goSL V.hE V.hS (l.take i) d s).1 = true), (fun i => [(0, .rs l.length 7 (stC l)), (1, .int .i64 d), (2, .func (.func V.gE) [] V.cE), (3, .func (.func V.gS) [] V.cS), (12, .int .i64 l.length), (13, .int .i64 i)]), (fun i => V.Mem (goSL V.hE V.hS (l.take i) d s).2), (fun i => l.length - i), ⟨0, ⟨Nat.zero_le _, by simp only [List.take_zero, goSL]⟩, ?_⟩, ?_⟩
    · simp only [List.take_zero, goSL]
      refine FgLK.same rfl ?_ (V.same _)
      refine And.intro (Wk.noref rfl) ?_
      refine And.intro (Wk.noref rfl) ?_
      refine And.intro (Wk.func trivial V.wkE) ?_
      refine And.intro (Wk.func trivial V.wkS) ?_
      refine And.intro (Wk.int rfl) ?_
      exact ⟨Wk.int rfl, trivial⟩
    rintro i ⟨hi, hall⟩
    dsimp only
    conv => whnf
    rw [frcHW_eq]
    by_cases hlt : i < l.length
    · have e1 : decide ((i : Int) < (l.length : Int)) = true := by simpa using hlt
      have hat := goSL_at (hE := V.hE) (hS := V.hS) l d s i hlt hall
      have hI2 : V.I d (goSL V.hE V.hS (l.take i) d s).2 (sizeSL (l.drop i) + m) := V.keepSL (l.take i) d s (sizeSL (l.drop i) + m) (by
        have := sizeSL_get l i hlt
        have e : sizeSL (l.drop i) = sizeS l[i] + sizeSL (l.drop (i + 1)) := by rw [List.drop_eq_getElem_cons hlt]; simp only [sizeSL]
        have e2 : sizeSL (l.take i) + (sizeSL (l.drop i) + m) = sizeSL l + m := by omega
        rw [e2]; exact hI) hall
      generalize (goSL V.hE V.hS (l.take i) d s).2 = t at *
      have esz : sizeSL (l.drop i) + m = (sizeL l[i].exprs + (sizeSL l[i].thn + (sizeSL l[i].els + (sizeSL (l.drop (i + 1)) + m)))) + 1 := by
        rw [List.drop_eq_getElem_cons hlt]; simp only [sizeSL]; have := sizeS_eq l[i]; omega
      rw [esz] at hI2
      have q1' := q1 i hlt t _ hI2
      have hd2 := V.downS l[i] d t _ hI2
      have hx4 : tk 1 (((stC l).drop (i * 7)).drop 4) = some [exA l[i].exprs] := by rw [stC_at l i hlt]; exact cell_x _ _
      have hx5 : tk 1 (((stC l).drop (i * 7)).drop 5) = some [stA l[i].thn] := by rw [stC_at l i hlt]; exact cell_t _ _
      have hx6 : tk 1 (((stC l).drop (i * 7)).drop 6) = some [stA l[i].els] := by rw [stC_at l i hlt]; exact cell_e _ _
      obtain ⟨_, _, k1, k2, k3, k4, k5, k6⟩ := okS_parts (okSL_get hok _ (get_mem hlt))
      have hsz := sizeSL_mem _ _ (get_mem hlt)
      have hse := sizeS_eq l[i]
      have qx := fun t q => q2 l[i].exprs t q k4 k1
      have qt := fun t q => q3 l[i].thn t q (by omega) k5 k2
      have qe := fun t q => q3 l[i].els t q (by omega) k6 k3
      have kx := fun s m => V.toTvE.keepL l[i].exprs (d + 1) s m
      have kt := fun s m => V.keepSL l[i].thn (d + 1) s m
      rw [goS_eq] at hat
      have hst := goSL_stop (hE := V.hE) (hS := V.hS) l d s (i + 1)
      clear q1 q2 q3 hse hsz k1 k2 k3 k4 k5 k6
      generalize l[i] = e at *
      generalize hr : V.hS e d t = r at *
      obtain ⟨b, t1⟩ := r
      simp only [exA, stA] at hx4 hx5 hx6 qx qt qe
      dsimp only [thenB] at *
      cases b with
      | false =>
        simp only [Bool.false_eq_true, if_false] at hat
        rw [hat] at hst
        rw [hst rfl]
        repeat' ((conv => whnf); first | (refine exI q1' ?_) | (rw [frcHW_eq]) | (with_reducible refine ixJ i rfl ?_ ?_; (focus (omega))) | (first | refine stp ?_ | with_reducible refine condB (fun h => ?_) (fun h => ?_)))
        all_goals (conv => whnf)
        all_goals (exact V.toTvE.fin s t1 false)
      | true =>
        simp only [if_true] at hat
        have i1 := hd2 rfl
        have qx' := qx t1 _ i1
        have kx' := kx t1 _ i1
        generalize hg : goL V.hE e.exprs (d + 1) t1 = g at *
        obtain ⟨b2, t2⟩ := g
        dsimp only at *
        cases b2 with
        | false =>
          simp only [Bool.false_eq_true, if_false] at hat
          rw [hat] at hst
          rw [hst rfl]
          repeat' ((conv => whnf); first | (refine exI q1' ?_) | (refine exI qx' ?_) | (refine exI hx4 ?_) | (rw [frcHW_eq]) | (with_reducible refine exW w1 ?_) | (with_reducible refine ixJ i rfl ?_ ?_; (focus (omega))) | (first | refine stp ?_ | with_reducible refine condB (fun h => ?_) (fun h => ?_)))
          all_goals (conv => whnf)
          all_goals (exact V.toTvE.fin s t2 false)
        | true =>
          simp only [if_true] at hat
          have i2 := kx' rfl
          have qt' := qt t2 _ i2
          have kt' := kt t2 _ i2
          generalize hg2 : goSL V.hE V.hS e.thn (d + 1) t2 = g2 at *
          obtain ⟨b3, t3⟩ := g2
          dsimp only at *
          cases b3 with
          | false =>
            simp only [Bool.false_eq_true, if_false] at hat
            rw [hat] at hst
            rw [hst rfl]
            repeat' ((conv => whnf); first | (refine exI q1' ?_) | (refine exI qx' ?_) | (refine exI qt' ?_) | (refine exI hx4 ?_) | (refine exI hx5 ?_) | (rw [frcHW_eq]) | (with_reducible refine exW w1 ?_) | (with_reducible refine ixJ i rfl ?_ ?_; (focus (omega))) | (first | refine stp ?_ | with_reducible refine condB (fun h => ?_) (fun h => ?_)))
            all_goals (conv => whnf)
            all_goals (exact V.toTvE.fin s t3 false)
          | true =>
            simp only [if_true] at hat
            have i3 := kt' rfl
            have qe' := qe t3 _ i3
            generalize hg3 : goSL V.hE V.hS e.els (d + 1) t3 = g3 at *
            obtain ⟨b4, t4⟩ := g3
            dsimp only at *
            cases b4 with
            | false =>
              rw [hat] at hst
              rw [hst rfl]
              repeat' ((conv => whnf); first | (refine exI q1' ?_) | (refine exI qx' ?_) | (refine exI qt' ?_) | (refine exI qe' ?_) | (refine exI hx4 ?_) | (refine exI hx5 ?_) | (refine exI hx6 ?_) | (rw [frcHW_eq]) | (with_reducible refine exW w1 ?_) | (with_reducible refine ixJ i rfl ?_ ?_; (focus (omega))) | (first | refine stp ?_ | with_reducible refine condB (fun h => ?_) (fun h => ?_)))
              all_goals (conv => whnf)
              all_goals (exact V.toTvE.fin s t4 false)
            | true =>
              repeat' ((conv => whnf); first | (refine exI q1' ?_) | (refine exI qx' ?_) | (refine exI qt' ?_) | (refine exI qe' ?_) | (refine exI hx4 ?_) | (refine exI hx5 ?_) | (refine exI hx6 ?_) | (rw [frcHW_eq]) | (with_reducible refine exW w1 ?_) | (with_reducible refine ixJ i rfl ?_ ?_; (focus (omega))) | (first | refine stp ?_ | with_reducible refine condB (fun h => ?_) (fun h => ?_)))
              all_goals (conv => whnf)
              refine ⟨i + 1, ⟨hlt, by rw [hat]⟩, by show l.length - (i + 1) < l.length - i; omega, ?_⟩
              rw [hat]
              refine FgLK.same rfl ?_ (V.same _)
              refine And.intro (Wk.noref rfl) ?_
              refine And.intro (Wk.noref rfl) ?_
              refine And.intro (Wk.func trivial V.wkE) ?_
              refine And.intro (Wk.func trivial V.wkS) ?_
              refine And.intro (Wk.int rfl) ?_
              exact ⟨Wk.int rfl, trivial⟩
    · have e1 : decide ((i : Int) < (l.length : Int)) = false := by simpa using hlt
      have hi2 : i = l.length := by have := hi; omega
      subst hi2
      rw [List.take_length] at hall ⊢
      rw [hall]
      generalize (goSL V.hE V.hS l d s).2 = t at *
      repeat' ((conv => whnf); first | (rw [frcHW_eq]) | (first | refine stp ?_ | with_reducible refine condB (fun h => ?_) (fun h => ?_)))
      all_goals (conv => whnf)
      all_goals (exact V.toTvE.fin s t true)
end
end Go.Proofs.YtblnhcafobifgaaGreatDoor.lex
end


section

set_option linter.unusedVariables false
set_option linter.unusedSimpArgs false
namespace Go.Proofs.YtblnhcafobifgaaGreatDoor.lex
open Go.Abs Go.RowKit
set_option maxRecDepth 100000
set_option maxHeartbeats 4000000
variable {gl : Glob}
def sizeTL : List (List St) → Nat
  | [] => 0
  | l :: t => sizeSL l + sizeTL t
def okTL : List (List St) → Prop
  | [] => True
  | l :: t => okSL l ∧ l.length ≤ 9223372036854775807 ∧ okTL t
theorem okTL_get : ∀ {t : List (List St)}, okTL t → ∀ l ∈ t, okSL l ∧ l.length ≤ 9223372036854775807
  | x :: t, h, l, hl => by
    rcases List.mem_cons.1 hl with rfl | hl
    · exact ⟨h.1, h.2.1⟩
    · exact okTL_get h.2.2 l hl
theorem th1 (t : List (List St)) (i : Nat) (h : i < t.length) : tk 1 ((t.map stA).drop (i * 1)) = some [stA t[i]] := tk1_map stA t i h (by omega)
structure Dc where
  name : List UInt8
  plain : Bool
  val : Int
def Dc.cells (d : Dc) : List AV := [.str d.name, .bool d.plain, .int .i64 d.val]
def dcC : List Dc → List AV
  | [] => []
  | d :: l => d.cells ++ dcC l
theorem dcC_drop (d : Dc) (l : List Dc) (i : Nat) : (dcC (d :: l)).drop ((i + 1) * 3) = (dcC l).drop (i * 3) := by
  have h : (i + 1) * 3 = 3 + i * 3 := by omega
  rw [h, ← List.drop_drop]
  have h2 : (dcC (d :: l)).drop 3 = dcC l := rfl
  rw [h2]
theorem dcC_at : ∀ (l : List Dc) (i : Nat) (h : i < l.length), (dcC l).drop (i * 3) = l[i].cells ++ dcC (l.drop (i + 1))
  | d :: l, 0, h => by simp only [Nat.zero_mul, List.drop_zero, dcC, List.getElem_cons_zero, List.drop_succ_cons]
  | d :: l, i + 1, h => by rw [dcC_drop, dcC_at l i (by simpa using h)]; simp only [List.getElem_cons_succ, List.drop_succ_cons]
theorem dc3 (l : List Dc) (i : Nat) (h : i < l.length) : tk 3 ((dcC l).drop (i * 3)) = some l[i].cells := by
  rw [dcC_at l i h]; rfl
theorem dcn (l : List Dc) (i : Nat) (h : i < l.length) : tk 1 (((dcC l).drop (i * 3)).drop 0) = some [.str l[i].name] := by
  rw [dcC_at l i h]; rfl
structure Pr where
  decls : List Dc
  threads : List (List St)
def Pr.av (p : Pr) : AV := .agg [.rs p.decls.length 3 (dcC p.decls), .rs p.threads.length 1 (p.threads.map stA)]
def okD (l : List Dc) : Prop := l.length ≤ 9223372036854775807 ∧ ∀ d ∈ l, d.name.length ≤ 9223372036854775807
def okP (p : Pr) : Prop := okD p.decls ∧ okTL p.threads ∧ p.threads.length ≤ 9223372036854775807
theorem sizeTL_mem : ∀ (t : List (List St)) (l : List St), l ∈ t → sizeSL l ≤ sizeTL t
  | e :: t, l, h => by
    simp only [sizeTL]
    rcases List.mem_cons.1 h with rfl | h
    · omega
    · have := sizeTL_mem t l h; omega
end Go.Proofs.YtblnhcafobifgaaGreatDoor.lex
end


section

set_option linter.unusedVariables false
set_option linter.unusedSimpArgs false
namespace Go.Proofs.YtblnhcafobifgaaGreatDoor.lex
open Go.Abs Go.RowKit
set_option maxRecDepth 100000
set_option maxHeartbeats 4000000
variable {gl : Glob}
def fdI (s : List UInt8) : List Dc → Nat → Int
  | [], _ => -1
  | d :: l, i => cond (d.name == s) (i : Int) (fdI s l (i + 1))
def findD (ds : List Dc) (s : List UInt8) : Int := fdI s ds 0
def noD (s : List UInt8) : List Dc → Bool
  | [] => true
  | d :: l => !(d.name == s) && noD s l
theorem fdI_at (s : List UInt8) : ∀ (l : List Dc) (k i : Nat) (h : i < l.length), noD s (l.take i) = true → (l[i].name == s) = true → fdI s l k = ((k + i : Nat) : Int)
  | d :: l, k, 0, h, h1, h2 => by
    simp only [List.getElem_cons_zero] at h2
    simp only [fdI, h2, cond_true, Nat.add_zero]
  | d :: l, k, i + 1, h, h1, h2 => by
    simp only [List.take_succ_cons, noD, Bool.and_eq_true, Bool.not_eq_true'] at h1
    simp only [List.getElem_cons_succ] at h2
    simp only [fdI, h1.1, cond_false]
    rw [fdI_at s l (k + 1) i (by simpa using h) h1.2 h2, show k + 1 + i = k + (i + 1) from by omega]
theorem fdI_none (s : List UInt8) : ∀ (l : List Dc) (k : Nat), noD s l = true → fdI s l k = -1
  | [], k, h => rfl
  | d :: l, k, h => by
    simp only [noD, Bool.and_eq_true, Bool.not_eq_true'] at h
    simp only [fdI, h.1, cond_false]
    exact fdI_none s l (k + 1) h.2
theorem noD_next (s : List UInt8) : ∀ (l : List Dc) (i : Nat) (h : i < l.length), noD s (l.take i) = true → (l[i].name == s) = false → noD s (l.take (i + 1)) = true
  | d :: l, 0, h, h1, h2 => by
    simp only [List.getElem_cons_zero] at h2
    simp [noD, h2]
  | d :: l, i + 1, h, h1, h2 => by
    simp only [List.take_succ_cons, noD, Bool.and_eq_true, Bool.not_eq_true'] at h1 ⊢
    simp only [List.getElem_cons_succ] at h2
    exact ⟨h1.1, noD_next s l i (by simpa using h) h1.2 h2⟩
theorem fdI_lt (s : List UInt8) : ∀ (l : List Dc) (k : Nat), fdI s l k = -1 ∨ ∃ i : Nat, fdI s l k = ((k + i : Nat) : Int) ∧ i < l.length ∧ (l[i]?).map (·.name) = some s
  | [], k => .inl rfl
  | d :: l, k => by
    simp only [fdI]
    cases h : d.name == s with
    | true => exact .inr ⟨0, by simp, by simp, by simpa using h⟩
    | false =>
      rcases fdI_lt s l (k + 1) with h | ⟨i, h1, h2, h3⟩
      · exact .inl h
      · exact .inr ⟨i + 1, by rw [cond_false, h1]; congr 1; omega, by simpa using h2, by simpa using h3⟩
theorem findD_lt (ds : List Dc) (s : List UInt8) : findD ds s = -1 ∨ ∃ i : Nat, findD ds s = (i : Int) ∧ i < ds.length ∧ (ds[i]?).map (·.name) = some s := by
  rcases fdI_lt s ds 0 with h | ⟨i, h1, h2, h3⟩
  · exact .inl h
  · exact .inr ⟨i, by unfold findD; rw [h1, Nat.zero_add], h2, h3⟩
def nmH (s : List UInt8) : AHeap := [⟨true, 0, 0, .cells [.str s] 9⟩]
theorem find1_ok (d : Dc) (s : List UInt8) : MemOK Tryz.prog gl 50 [.agg d.cells, .ptr 0 0] (nmH s) (.bool (d.name == s)) (nmH s) := by
  obtain ⟨nm, pl, v⟩ := d
  simp only [Dc.cells]
  refine fn_mem (k := 1) follows noNum none_sound rfl Tryz.func50 rfl (cw0_ok _ _) ?_
  repeat' ((conv => whnf); first | refine stp ?_ | with_reducible refine condB (fun h => ?_) (fun h => ?_))
  all_goals first | rfl | exact ⟨rfl, rfl⟩ | exact ⟨rfl, rfl, rfl⟩
theorem indexF_ok (ds : List Dc) (s : List UInt8) (hl : ds.length ≤ 9223372036854775807) : MemOK Tryz.prog gl 49 [.rs ds.length 3 (dcC ds), .func (.func 50) [] [.ptr 0 0]] (nmH s) (.int .i64 (findD ds s)) (nmH s) := by
  obtain ⟨O, hO, ⟨p1, -⟩, -⟩ := famsM (P := Tryz.prog) (gl := gl) [{ I := Dc, f := 50, G := fun _ => True, A := fun d => [.agg d.cells, .ptr 0 0], H := fun _ => nmH s, R := fun d => .bool (d.name == s), O := fun _ => nmH s, body := (by kernel_rfl), inj := (fun i j _ _ h _ => by obtain ⟨a, b, c⟩ := i; obtain ⟨a', b', c'⟩ := j; simp only [Dc.cells, List.cons.injEq, AV.agg.injEq, AV.str.injEq, and_true] at h; rw [h.1]; exact ⟨rfl, rfl⟩), ok := (fun d _ => find1_ok d s) }] [] rfl
  have q1 : ∀ d : Dc, acall Tryz.prog O (nmH s) 50 [.agg d.cells, .ptr 0 0] = some (.bool (d.name == s), nmH s) := fun d => p1 d trivial
  clear p1
  refine fn_mem (k := 1) follows noNum hO rfl Tryz.func49 rfl (cw0_ok _ _) ?_
  repeat' ((conv => whnf); first | refine stp ?_ | with_reducible refine condB (fun h => ?_) (fun h => ?_))
  conv => whnf
  refine ⟨Nat, (fun i => i ≤ ds.length ∧ noD s (ds.take i) = true), (fun i => [(0, .rs ds.length 3 (dcC ds)), (1, .func (.func 50) [] [.ptr 0 0]), (7, .int .i64 ds.length), (8, .int .i64 i)]), (fun _ => nmH s), (fun i => ds.length - i), ⟨0, ⟨Nat.zero_le _, rfl⟩, FgLK.mk [0] rfl rfl ?_ ⟨⟨rfl, rfl, rfl, rfl, BodyGe.pre (rest := []) rfl rfl⟩, trivial⟩ rfl⟩, ?_⟩
  · (repeat (first | exact trivial | refine stw ?_))
  rintro i ⟨hi, hno⟩
  dsimp only
  by_cases hlt : i < ds.length
  · have e1 : decide ((i : Int) < (ds.length : Int)) = true := by simpa using hlt
    have hx := dc3 ds i hlt
    have hq := q1 ds[i]
    have hat := fdI_at s ds 0 i hlt hno
    have hnx := noD_next s ds i hlt hno
    rw [Nat.zero_add] at hat
    cases hr : ds[i].name == s with
    | true =>
      rw [hr] at hq
      have hat := hat hr
      have hat : findD ds s = (i : Int) := hat
      rw [hat]
      generalize ds[i] = d at *
      repeat' ((conv => whnf); first | (refine exI hx ?_) | (with_reducible refine ixJ i rfl ?_ ?_; (focus (omega))) | (refine exI hq ?_) | (first | refine stp ?_ | with_reducible refine condB (fun h => ?_) (fun h => ?_)))
      all_goals first | rfl | exact ⟨rfl, rfl⟩ | exact ⟨rfl, rfl, rfl⟩
    | false =>
      rw [hr] at hq
      have hnx2 := hnx hr
      clear hnx
      generalize ds[i] = d at *
      repeat' ((conv => whnf); first | (refine exI hx ?_) | (with_reducible refine ixJ i rfl ?_ ?_; (focus (omega))) | (refine exI hq ?_) | (first | refine stp ?_ | with_reducible refine condB (fun h => ?_) (fun h => ?_)))
      conv => whnf
      refine ⟨i + 1, ⟨hlt, hnx2⟩, by show ds.length - (i + 1) < ds.length - i; omega, FgLK.mk [0] rfl rfl ?_ ⟨⟨rfl, rfl, rfl, rfl, BodyGe.pre (rest := []) rfl rfl⟩, trivial⟩ rfl⟩
      (repeat (first | exact trivial | refine stw ?_))
  · have e1 : decide ((i : Int) < (ds.length : Int)) = false := by simpa using hlt
    have hi2 : i = ds.length := by have := hi; omega
    subst hi2
    rw [List.take_length] at hno
    have hat : findD ds s = -1 := fdI_none s ds 0 hno
    rw [hat]
    repeat' ((conv => whnf); first | refine stp ?_ | with_reducible refine condB (fun h => ?_) (fun h => ?_))
    all_goals first | rfl | exact ⟨rfl, rfl⟩ | exact ⟨rfl, rfl, rfl⟩
theorem findX_ok (ds : List Dc) (s : List UInt8) (hl : ds.length ≤ 9223372036854775807) : ValOK Tryz.prog gl 27 [.rs ds.length 3 (dcC ds), .str s] (.int .i64 (findD ds s)) := by
  obtain ⟨O, hO, ⟨p1, -⟩, -⟩ := famsM (P := Tryz.prog) (gl := gl) [{ I := Unit, f := 49, G := fun _ => True, A := fun _ => [.rs ds.length 3 (dcC ds), .func (.func 50) [] [.ptr 0 0]], H := fun _ => nmH s, R := fun _ => .int .i64 (findD ds s), O := fun _ => nmH s, body := (by kernel_rfl), inj := (fun _ _ _ _ _ _ => ⟨rfl, rfl⟩), ok := (fun _ _ => indexF_ok ds s hl) }] [] rfl
  have q1 := p1 () trivial
  clear p1
  refine fn_val follows noNum hO Tryz.func27 rfl ?_
  repeat' ((conv => whnf); first | (refine exI q1 ?_) | (first | refine stp ?_ | with_reducible refine condB (fun h => ?_) (fun h => ?_)))
  all_goals rfl
end Go.Proofs.YtblnhcafobifgaaGreatDoor.lex
end


section

set_option linter.unusedVariables false
namespace Go.Proofs.YtblnhcafobifgaaGreatDoor.runLives
open Go.RowKit Go.Abs
def tbl0 : List AV := [.bool false, .bool false, .int .i64 (.ofNat 0), .bool true, .bool false, .int .i64 (.ofNat 0), .bool false, .bool true, .int .i64 (.ofNat 0),
    .bool false, .bool false, .int .i64 (.ofNat 1), .bool false, .bool false, .int .i64 (.ofNat 1), .bool false, .bool false, .int .i64 (.ofNat 2),
    .bool false, .bool false, .int .i64 (.ofNat 2), .bool false, .bool false, .int .i64 (.ofNat 2), .bool false, .bool false, .int .i64 (.ofNat 2),
    .bool false, .bool false, .int .i64 (.ofNat 2), .bool false, .bool false, .int .i64 (.ofNat 2), .bool false, .bool false, .int .i64 (.ofNat 2),
    .bool false, .bool false, .int .i64 (.ofNat 2), .bool false, .bool false, .int .i64 (.ofNat 2), .bool false, .bool false, .int .i64 (.ofNat 2),
    .bool false, .bool false, .int .i64 (.ofNat 2), .bool false, .bool false, .int .i64 (.ofNat 2)]
def tbl1 : List AV := [.bool false, .bool false, .bool false, .int .i64 (.ofNat 0), .bool false, .bool false, .bool true, .bool false, .bool false, .int .i64 (.ofNat 1),
    .bool false, .bool false, .bool true, .bool true, .bool true, .int .i64 (.ofNat 0), .bool false, .bool false, .bool false, .bool true, .bool true,
    .int .i64 (.ofNat 1), .bool false, .bool false, .bool true, .bool true, .bool true, .int .i64 (.ofNat 2), .bool false, .bool false, .bool true,
    .bool true, .bool true, .int .i64 (.ofNat 1), .bool false, .bool false, .bool true, .bool true, .bool true, .int .i64 (.ofNat 1), .bool false,
    .bool false, .bool false, .bool false, .bool true, .int .i64 (.ofNat 0), .bool false, .bool false, .bool false, .bool false, .bool false,
    .int .i64 (.ofNat 1), .bool false, .bool false, .bool false, .bool false, .bool false, .int .i64 (.ofNat 1), .bool false, .bool false, .bool false,
    .bool false, .bool false, .int .i64 (.ofNat 1), .bool true, .bool true, .bool false, .bool false, .bool false, .int .i64 (.ofNat 1), .bool true,
    .bool false]
def tbl2 : List AV := [.bool false, .bool false, .bool false, .bool false, .bool false, .bool false, .bool false, .bool false, .bool false, .bool false, .bool false,
    .bool false, .bool false, .bool false, .bool false, .bool true, .bool true, .bool true, .bool false, .bool false, .bool true, .bool false, .bool true,
    .bool true, .bool false, .bool true, .bool false, .bool true, .bool false, .bool false, .bool true, .bool true, .bool true, .bool true, .bool true,
    .bool false, .bool false, .bool true, .bool true, .bool true, .bool true, .bool true, .bool false, .bool false, .bool true, .bool true, .bool true,
    .bool true, .bool true, .bool false, .bool false, .bool false, .bool true, .bool true, .bool true, .bool true]
def gl : Glob := fun g => if Nat.beq g 1 then some tbl0 else if Nat.beq g 2 then some tbl1 else if Nat.beq g 0 then some tbl2 else none
set_option maxRecDepth 100000
theorem follows : Tryz.prog.follows .mixedOrders = true := by kernel_rfl
theorem noNumAll : (Tryz.prog.funcs.toList.all fun fn => !(fn.name == "runtime.NumGoroutine")) = true := by kernel_rfl
theorem noNum : NoNum Tryz.prog := ⟨fun g fn h => by
  have h1 := List.all_eq_true.1 noNumAll fn (Array.mem_toList_iff.2 (Array.mem_of_getElem? h))
  simpa using h1, of_decide_eq_true (by kernel_rfl)⟩
theorem n0 : Tryz.prog.globalNamed "cantilever/ast.shapes" = some 1 := by kernel_rfl
theorem ty0 : (Tryz.prog.globals[1]?).map (·.type) = some 121 := by kernel_rfl
theorem av0 : avOf Tryz.prog 6 121 (Rows.laid_cantilever_ast_shapes (H := Unit)) = some tbl0 := by kernel_rfl
theorem n1 : Tryz.prog.globalNamed "cantilever/ast.forms" = some 2 := by kernel_rfl
theorem ty1 : (Tryz.prog.globals[2]?).map (·.type) = some 124 := by kernel_rfl
theorem av1 : avOf Tryz.prog 6 124 (Rows.laid_cantilever_ast_forms (H := Unit)) = some tbl1 := by kernel_rfl
theorem n2 : Tryz.prog.globalNamed "cantilever/check.may" = some 0 := by kernel_rfl
theorem ty2 : (Tryz.prog.globals[0]?).map (·.type) = some 53 := by kernel_rfl
theorem av2 : avOf Tryz.prog 6 53 (Rows.laid_cantilever_check_may (H := Unit)) = some tbl2 := by kernel_rfl
theorem globs {W : World} (h : laidMetH Tryz.prog [("cantilever/ast.shapes", Rows.laid_cantilever_ast_shapes), ("cantilever/ast.forms", Rows.laid_cantilever_ast_forms), ("cantilever/check.may", Rows.laid_cantilever_check_may)] W) : GlOK gl (snap0 W) := by
  have h' : laidMet Tryz.prog [("cantilever/ast.shapes", Rows.laid_cantilever_ast_shapes), ("cantilever/ast.forms", Rows.laid_cantilever_ast_forms), ("cantilever/check.may", Rows.laid_cantilever_check_may)] W := h
  obtain ⟨_, hv, _⟩ := id h'
  obtain ⟨m0, _⟩ := laid_glob n0 ty0 av0 hv
  have h' := laidMet.tail h'
  obtain ⟨_, hv, _⟩ := id h'
  obtain ⟨m1, _⟩ := laid_glob n1 ty1 av1 hv
  have h' := laidMet.tail h'
  obtain ⟨_, hv, _⟩ := id h'
  obtain ⟨m2, _⟩ := laid_glob n2 ty2 av2 hv
  intro g cs hg
  unfold gl at hg
  split at hg
  · rename_i e; have := Nat.eq_of_beq_eq_true e; subst this; simp at hg; subst hg; exact m0
  split at hg
  · rename_i e; have := Nat.eq_of_beq_eq_true e; subst this; simp at hg; subst hg; exact m1
  split at hg
  · rename_i e; have := Nat.eq_of_beq_eq_true e; subst this; simp at hg; subst hg; exact m2
  cases hg
end Go.Proofs.YtblnhcafobifgaaGreatDoor.runLives
end


section

set_option linter.unusedVariables false
set_option linter.unusedSimpArgs false
namespace Go.Proofs.YtblnhcafobifgaaGreatDoor.lex
open Go.Abs Go.RowKit
set_option maxRecDepth 100000
set_option maxHeartbeats 4000000
def mayN (k o : Int) (p : Bool) : Int :=
  if k < 2 ∨ 7 < k then 2 else if o < 1 ∨ 6 < o then 7
  else if k = 7 then (if o = 1 ∨ o = 2 then 7 else 0)
  else if ((k = 4 ∨ k = 5 ∨ k = 6) ∧ p = true) ∨ p ≠ decide (o = 1) then 8
  else if (k = 2 ∧ (o = 4 ∨ o = 5)) ∨ (k = 3 ∧ (o = 3 ∨ o = 5)) then 7 else 0
theorem may_cases {k : Int} (h : ¬ (k < 2 ∨ 7 < k)) : k = 2 ∨ k = 3 ∨ k = 4 ∨ k = 5 ∨ k = 6 ∨ k = 7 := by omega
theorem ord_cases {o : Int} (h : ¬ (o < 1 ∨ 6 < o)) : o = 1 ∨ o = 2 ∨ o = 3 ∨ o = 4 ∨ o = 5 ∨ o = 6 := by omega
theorem mayX_ok (k o : Int) (p : Bool) : ValOK Tryz.prog runLives.gl 8 [.int .i64 k, .int .i64 o, .bool p] (.int .i64 (mayN k o p)) := by
  refine fn_val follows noNum none_sound Tryz.func8 rfl ?_
  by_cases hk : k < 2 ∨ 7 < k
  · have e : mayN k o p = 2 := by unfold mayN; rw [if_pos hk]
    rw [e]
    rcases hk with hk | hk
    · have e1 : decide (k < 2) = true := by simpa using hk
      repeat' ((conv => whnf); first | refine stp ?_ | with_reducible refine condB (fun h => ?_) (fun h => ?_))
      all_goals rfl
    · have e1 : decide (k < 2) = false := by simp; omega
      have e2 : decide (7 < k) = true := by simpa using hk
      repeat' ((conv => whnf); first | refine stp ?_ | with_reducible refine condB (fun h => ?_) (fun h => ?_))
      all_goals rfl
  · have e1 : decide (k < 2) = false := by simp; omega
    have e2 : decide (7 < k) = false := by simp; omega
    by_cases ho : o < 1 ∨ 6 < o
    · have e : mayN k o p = 7 := by unfold mayN; rw [if_neg hk, if_pos ho]
      rw [e]
      rcases ho with ho | ho
      · have e3 : decide (o < 1) = true := by simpa using ho
        repeat' ((conv => whnf); first | refine stp ?_ | with_reducible refine condB (fun h => ?_) (fun h => ?_))
        all_goals rfl
      · have e3 : decide (o < 1) = false := by simp; omega
        have e4 : decide (6 < o) = true := by simpa using ho
        repeat' ((conv => whnf); first | refine stp ?_ | with_reducible refine condB (fun h => ?_) (fun h => ?_))
        all_goals rfl
    · rcases may_cases hk with rfl | rfl | rfl | rfl | rfl | rfl
      all_goals rcases ord_cases ho with rfl | rfl | rfl | rfl | rfl | rfl
      all_goals cases p
      all_goals clear e1 e2 hk ho
      all_goals (repeat' ((conv => whnf); first | refine stp ?_ | with_reducible refine condB (fun h => ?_) (fun h => ?_)))
      all_goals rfl
end Go.Proofs.YtblnhcafobifgaaGreatDoor.lex
end


section

set_option linter.unusedVariables false
set_option linter.unusedSimpArgs false
namespace Go.Proofs.YtblnhcafobifgaaGreatDoor.lex
open Go.Abs Go.RowKit
set_option maxRecDepth 100000
set_option maxHeartbeats 4000000
def isWordF (f : Nat) (xs : List AV) : Option AV := match f with
  | 45 => match xs with | [.str s, .bool m] => if s.length ≤ 9223372036854775807 then some (.bool (if m then wordB s else s == [])) else none | _ => none
  | _ => none
theorem isWordF_sound {gl : Glob} : OrcSound Tryz.prog gl (orcZ isWordF) := orcZ_sound fun f xs r h => by
  unfold isWordF at h
  split at h
  · split at h <;> try (cases h; done)
    split at h <;> cases h
    rename_i hs
    exact ⟨rfl, isWord_ok _ hs _⟩
  · cases h
theorem wordB_nil : wordB [] = false := rfl
theorem rightX_ok (e : Ex) (rest : List AV) (d : Int) (hok : okE e) : ValOK Tryz.prog runLives.gl 47 [.rp (e.cells ++ rest), .int .i64 d] (.bool (ownE e)) := by
  obtain ⟨⟨hn1, hn2⟩, _⟩ := okE_kids hok
  have hb : hasBody Tryz.prog 45 = true := by kernel_rfl
  have key : ∀ (op num : Int) (name : List UInt8) (v : AV) (n : Nat), (∃ cs, v = .rs n 4 cs) → name.length ≤ 9223372036854775807 → ValOK Tryz.prog runLives.gl 47 [.rp (.int .i64 op :: .int .i64 num :: .str name :: v :: rest), .int .i64 d] (.bool (ownF op num name n)) := by
    intro op num name v n hv hname
    have q : ∀ (m : Bool) (H : AHeap), acall Tryz.prog (orcZ isWordF) H 45 [.str name, .bool m] = some (.bool (if m then wordB name else name == []), H) := fun m H => callZ hb rfl (by simp only [isWordF]; rw [if_pos hname])
    by_cases h1 : op < 1
    · have e1 : decide (op < 1) = true := by simpa using h1
      have hk : kidsI op = -1 := by unfold kidsI; rw [if_neg (by omega), if_neg (by omega), if_neg (by omega)]
      obtain ⟨cs, rfl⟩ := hv
      all_goals
        refine fn_val follows noNum isWordF_sound Tryz.func47 rfl ?_
        repeat' ((conv => whnf); first | (refine exI (q _ _) ?_) | (first | refine stp ?_ | with_reducible refine condB (fun h => ?_) (fun h => ?_)))
      all_goals (show AV.bool _ = AV.bool _; congr 1; unfold ownF; rw [hk])
      all_goals (first | rfl | (symm; simp; intros; omega))
    · have e1 : decide (op < 1) = false := by simpa using h1
      by_cases h2 : 16 < op
      · have e2 : decide (op > 16) = true := by simpa using h2
        have hk : kidsI op = -1 := by unfold kidsI; rw [if_neg (by omega), if_neg (by omega), if_neg (by omega)]
        obtain ⟨cs, rfl⟩ := hv
        all_goals
          refine fn_val follows noNum isWordF_sound Tryz.func47 rfl ?_
          repeat' ((conv => whnf); first | (refine exI (q _ _) ?_) | (first | refine stp ?_ | with_reducible refine condB (fun h => ?_) (fun h => ?_)))
        all_goals (show AV.bool _ = AV.bool _; congr 1; unfold ownF; rw [hk])
        all_goals (first | rfl | (symm; simp; intros; omega))
      · clear e1
        have hop : op = 1 ∨ op = 2 ∨ op = 3 ∨ op = 4 ∨ op = 5 ∨ op = 6 ∨ op = 7 ∨ op = 8 ∨ op = 9 ∨ op = 10 ∨ op = 11 ∨ op = 12 ∨ op = 13 ∨ op = 14 ∨ op = 15 ∨ op = 16 := by omega
        clear h1 h2
        rcases hop with rfl | rfl | rfl | rfl | rfl | rfl | rfl | rfl | rfl | rfl | rfl | rfl | rfl | rfl | rfl | rfl
        all_goals (obtain ⟨cs, rfl⟩ := hv)
        all_goals (refine fn_val follows noNum isWordF_sound Tryz.func47 rfl ?_)
        all_goals (repeat' ((conv => whnf); first | (refine exI (q _ _) ?_) | (first | refine stp ?_ | with_reducible refine condB (fun h => ?_) (fun h => ?_))))
        all_goals (first | rfl | (show AV.bool _ = AV.bool _; clear q hb hok hn1 hn2; simp_all [ownF, kidsI]; done) | (show AV.bool _ = AV.bool _; clear q hb hok hn1 hn2; simp_all [ownF, kidsI]; omega) | skip)
        all_goals (clear q hb hok hn1 hn2)
        all_goals (show AV.bool _ = AV.bool _; rw [AV.bool.injEq, Bool.eq_iff_iff])
        all_goals (first | (simp_all [ownF, kidsI, wordB_nil]; done) | (simp_all [ownF, kidsI, wordB_nil]; omega))
  obtain ⟨op, num, name, kids⟩ := e
  simp only [Ex.cells]; exact key op num name _ kids.length ⟨_, rfl⟩ hn1
end Go.Proofs.YtblnhcafobifgaaGreatDoor.lex
end


section

set_option linter.unusedVariables false
set_option linter.unusedSimpArgs false
namespace Go.Proofs.YtblnhcafobifgaaGreatDoor.lex
open Go.Abs Go.RowKit
set_option maxRecDepth 100000
set_option maxHeartbeats 4000000
theorem noI_of {sn : Snap} {ι : IMap} {W : World} (h : R sn ι [] W) : ι = noI := by
  funext b
  cases hb : ι b with
  | none => rfl
  | some p => have := (h.dom b).2 ⟨p, hb⟩; simp at this
theorem mem_of_val {P : Program} {gl : Glob} {f : Nat} {args : List AV} {r : AV} (h : ValOK P gl f args r) (hp : plain r = true) : MemOK P gl f args [] r [] := by
  intro sn ι W cargs hg hR ha
  have := noI_of hR; subst this
  refine (h sn W cargs hg hR ha).monoY ?_
  rintro e W' ⟨v, rfl, hx, hv⟩
  exact ⟨v, sn, noI, rfl, plain_VR hp hv, Stp.ext hR hx⟩
theorem val_of_mem {P : Program} {gl : Glob} {f : Nat} {args : List AV} {r : AV} (h : MemOK P gl f args [] r []) (hp : plain r = true) (hb : (P.funcs[f]?).isSome = true := by kernel_rfl) : ValOK P gl f args r := by
  intro sn W cargs hg hR ha
  obtain ⟨fn, hfn⟩ := Option.isSome_iff_exists.1 hb
  refine ((h sn noI W cargs hg hR ha).calls hfn).mono ?_
  rintro e W' ⟨v, sn', ι', rfl, hv, hs⟩
  exact ⟨v, rfl, ⟨fun c hc => hs.frame c hc fun b o p hb => by simp at hb, hs.size, hs.os, hs.tape, hs.output⟩, plain_VR hp hv⟩
def rE (e : Ex) (_ : Int) (s : Unit) : Bool × Unit := (ownE e, s)
mutual
theorem goE_r : ∀ (e : Ex) (d : Int) (s : Unit), goE rE e d s = (rightE e, ())
  | .mk o n s k, d, t => by
    have := goL_r k (d + 1) ()
    simp only [goE, rE, ownE, Ex.op, Ex.num, Ex.name, Ex.kids, rightE, this]
    cases ownF o n s k.length <;> rfl
theorem goL_r : ∀ (l : List Ex) (d : Int) (s : Unit), goL rE l d s = (rightL l, ())
  | [], d, s => by simp only [goL, rightL]
  | e :: l, d, s => by
    simp only [goL, goE_r e d s, goL_r l d (), rightL]
    cases rightE e <;> rfl
end
def cE (_ : Ex) (d : Int) (n : Nat) : Bool × Nat := (decide (((n + 1 : Nat) : Int) ≤ 2000) && decide (d ≤ 32), n + 1)
def Cnt (r : Bool × Nat) (n a : Nat) (D : Int) : Prop := (r.1 = true ↔ n + a ≤ 2000 ∧ D ≤ 33) ∧ (r.1 = true → r.2 = n + a)
theorem cnt_then {r : Bool × Nat} {f : Nat → Bool × Nat} {n a b : Nat} {D1 D2 : Int} (h1 : Cnt r n a D1) (h2 : n + a ≤ 2000 → D1 ≤ 33 → Cnt (f (n + a)) (n + a) b D2) : Cnt (thenB r f) n (a + b) (max D1 D2) := by
  obtain ⟨g1, g2⟩ := h1
  unfold thenB
  by_cases h : r.1 = true
  · rw [if_pos h, g2 h]
    have h3 := g1.1 h
    obtain ⟨k1, k2⟩ := h2 h3.1 h3.2
    refine ⟨?_, fun h4 => by rw [k2 h4]; omega⟩
    rw [k1]
    constructor <;> (intro h; omega)
  · rw [if_neg h]
    refine ⟨⟨fun h => (by cases h), fun h3 => absurd (g1.2 (by omega)) h⟩, fun h => (by cases h)⟩
theorem cnt_one (d : Int) (n : Nat) : Cnt (decide (((n + 1 : Nat) : Int) ≤ 2000) && decide (d ≤ 32), n + 1) n 1 (d + 1) := by
  refine ⟨?_, fun _ => rfl⟩
  simp only [Bool.and_eq_true, decide_eq_true_eq]
  constructor <;> (intro h; omega)
theorem Cnt.to {r : Bool × Nat} {n a b : Nat} {D E : Int} (h : Cnt r n a D) (e1 : a = b) (e2 : D = E) : Cnt r n b E := by subst e1; subst e2; exact h
mutual
theorem goE_c : ∀ (e : Ex) (d : Int) (n : Nat), Cnt (goE cE e d n) n (sizeE e) (d + deepE e)
  | .mk o num s k, d, n => by
    have : goE cE (.mk o num s k) d n = thenB (cE (.mk o num s k) d n) fun n => goL cE k (d + 1) n := by simp only [goE, thenB]
    rw [this]
    exact (cnt_then (cnt_one d n) fun h1 h2 => goL_c k (d + 1) (n + 1) h1 h2).to (by simp only [sizeE]) (by simp only [deepE]; omega)
theorem goL_c : ∀ (l : List Ex) (d : Int) (n : Nat), n ≤ 2000 → d ≤ 33 → Cnt (goL cE l d n) n (sizeL l) (d + deepL l)
  | [], d, n, h1, h2 => by simp only [goL, sizeL, deepL]; exact ⟨⟨fun _ => by omega, fun _ => rfl⟩, fun _ => rfl⟩
  | e :: l, d, n, h1, h2 => by
    have : goL cE (e :: l) d n = thenB (goE cE e d n) fun n => goL cE l d n := by simp only [goL, thenB]
    rw [this]
    exact (cnt_then (goE_c e d n) fun h1 _ => goL_c l d _ h1 h2).to (by simp only [sizeL]) (by simp only [deepL]; omega)
end
end Go.Proofs.YtblnhcafobifgaaGreatDoor.lex
end


section

set_option linter.unusedVariables false
set_option linter.unusedSimpArgs false
namespace Go.Proofs.YtblnhcafobifgaaGreatDoor.lex
open Go.Abs Go.RowKit
set_option maxRecDepth 100000
set_option maxHeartbeats 4000000
def rgE : Nat → List (List UInt8) → List (AV × AV × Nat)
  | _, [] => []
  | i, s :: l => (.str s, .agg [], i) :: rgE (i + 1) l
def rgH (n : List (List UInt8)) : AHeap := [⟨true, 0, 0, .map (rgE 0 n) n.length⟩, ⟨true, 1, 0, .cells [.map 0] 91⟩, ⟨true, 2, 0, .cells [.func (.func 53) [] [.ptr 1 0]] 93⟩]
theorem rgE_inj : ∀ {a b : List (List UInt8)} {i : Nat}, rgE i a = rgE i b → a = b
  | [], [], _, _ => rfl
  | [], _ :: _, _, h => by simp [rgE] at h
  | _ :: _, [], _, h => by simp [rgE] at h
  | x :: a, y :: b, i, h => by
    simp only [rgE, List.cons.injEq, Prod.mk.injEq, AV.str.injEq, and_true] at h
    rw [h.1, rgE_inj h.2]
theorem rgH_inj {a b : List (List UInt8)} (h : rgH a = rgH b) : a = b := by
  simp only [rgH, List.cons.injEq, AObj.mk.injEq, ABody.map.injEq, and_true, true_and] at h
  exact rgE_inj h.1
theorem rgE_app (s : List UInt8) : ∀ (a : List (List UInt8)) (i : Nat), rgE i (a ++ [s]) = rgE i a ++ [(.str s, .agg [], i + a.length)]
  | [], i => rfl
  | x :: a, i => by
    simp only [List.cons_append, rgE, rgE_app s a (i + 1), List.length_cons]
    rw [show i + 1 + a.length = i + (a.length + 1) by omega]
theorem rg_find (s : List UInt8) : ∀ (a : List (List UInt8)) (i j : Nat), a.contains s = false → aFind .string (.str s) (rgE i a) j = some none
  | [], i, j, h => rfl
  | x :: a, i, j, h => by
    simp only [List.contains_cons, Bool.or_eq_false_iff] at h
    simp only [rgE, aFind, aSame, h.1]
    exact rg_find s a (i + 1) (j + 1) h.2
theorem rg_found (s : List UInt8) : ∀ (a : List (List UInt8)) (i j : Nat), a.contains s = true → ∃ k v, aFind .string (.str s) (rgE i a) j = some (some (j + k, v)) ∧ mset (.str s) (.agg []) k (rgE i a) = rgE i a
  | [], i, j, h => by simp at h
  | x :: a, i, j, h => by
    simp only [List.contains_cons, Bool.or_eq_true] at h
    cases hx : (s == x) with
    | true =>
      refine ⟨0, .agg [], by simp only [rgE, aFind, aSame, hx]; rfl, ?_⟩
      have : s = x := by simpa using hx
      subst this; rfl
    | false =>
      rw [hx] at h
      obtain ⟨k, v, h1, h2⟩ := rg_found s a (i + 1) (j + 1) (by simpa using h)
      refine ⟨k + 1, v, ?_, ?_⟩
      · simp only [rgE, aFind, aSame, hx]; rw [h1, show j + 1 + k = j + (k + 1) by omega]
      · simp only [rgE, mset, h2]
def rgP (s : List UInt8) (n : List (List UInt8)) : List (List UInt8) := if n.contains s = true then n else n ++ [s]
theorem rg_set (s : List UInt8) (n : List (List UInt8)) : aMapSet Tryz.prog 91 (.map 0) (.str s) (.agg []) (rgH n) = some (rgH (rgP s n)) := by
  have hd : keyDesc Tryz.prog 91 = some (.string, 92) := by kernel_rfl
  have hw : wkil 0 0 (rgH n) = rgH n := wkil_lone (o := ⟨true, 0, 0, .map (rgE 0 n) n.length⟩) rfl rfl
  unfold aMapSet
  simp only [hd]
  have h0 : (rgH n)[0]? = some ⟨true, 0, 0, .map (rgE 0 n) n.length⟩ := rfl
  simp only [h0, hw]
  cases h : n.contains s with
  | false =>
    rw [rg_find s n 0 0 h]
    simp only [rgP, h]
    rw [if_neg (by decide)]
    simp only [rgH, rgE_app, List.set_cons_zero, Nat.zero_add, List.length_append, List.length_cons, List.length_nil]
  | true =>
    obtain ⟨k, v, h1, h2⟩ := rg_found s n 0 0 h
    rw [h1]
    simp only [rgP, h, if_true, Nat.zero_add, h2]
    rfl
theorem rgE_refs : ∀ (n : List (List UInt8)) (i : Nat), refsB (.map (rgE i n) i) [] = []
  | [], i => rfl
  | x :: n, i => rgE_refs n (i + 1)
theorem rgE_ge (m : List Nat) : ∀ (n : List (List UInt8)) (i : Nat), EGe m (rgE i n) (rgE i n)
  | [], i => trivial
  | x :: n, i => ⟨Wk.noref rfl, Wk.noref rfl, rfl, rgE_ge m n (i + 1)⟩
theorem rg_evo (s s' : List (List UInt8)) : evoB 3 (rgH s) (rgH s') = true := by
  have h : ∀ c, refsB (.map (rgE 0 s') c) [] = [] := fun c => rgE_refs s' 0
  simp only [rgH, evoB, h]; rfl
def rgI (d : Int) (_ : List (List UInt8)) (m : Nat) : Prop := 0 ≤ d ∧ d + (m : Int) ≤ 576460752303423488
def rgN (s : List UInt8) (n : List (List UInt8)) : List (List UInt8) := cond (s == []) n (rgP s n)
theorem cell_op (x : Ex) (rest : List AV) : tk 1 ((x.cells ++ rest).drop 0) = some [.int .i64 x.op] := by
  obtain ⟨o, n, s, k⟩ := x
  rfl
theorem cell_nm (x : Ex) (rest : List AV) : tk 1 ((x.cells ++ rest).drop 2) = some [.str x.name] := by
  obtain ⟨o, n, s, k⟩ := x
  rfl
theorem rg3_ok (x : St) (rest : List AV) (d : Int) (n : List (List UInt8)) : MemOK Tryz.prog runLives.gl 55 [.rp (x.cells ++ rest), .int .i64 d, .ptr 2 0] (rgH n) (.bool true) (rgH (rgN x.name n)) := by
  have hx := cell_n x rest
  refine fn_mem (k := 3) follows noNum (orcN_sound follows noNum isWordF_sound 3) rfl Tryz.func55 rfl (wcall_ok (isC := fun _ => false) 3) ?_
  have he := rg_evo n (rgN x.name n)
  have hset := rg_set x.name n
  unfold rgN at he ⊢
  generalize x.name = s at *
  generalize x.cells ++ rest = cs at *
  cases hs : (s == []) with
  | true =>
    rw [hs, cond_true] at he
    rw [cond_true]
    have e1 : (!(s == [])) = false := by rw [hs]; rfl
    repeat' ((conv => whnf); first | (refine exI hx ?_) | (first | refine stp ?_ | with_reducible refine condB (fun h => ?_) (fun h => ?_)))
    all_goals (conv => whnf)
    all_goals (exact ⟨rfl, by rw [he]; rfl⟩)
  | false =>
    rw [hs, cond_false] at he
    rw [cond_false]
    have e1 : (!(s == [])) = true := by rw [hs]; rfl
    simp only [rgH] at hset he ⊢
    generalize rgE 0 (rgP s n) = es' at *
    generalize (rgP s n).length = c' at *
    repeat' ((conv => whnf); first | (refine exI hx ?_) | (refine exI hset ?_) | (first | refine stp ?_ | with_reducible refine condB (fun h => ?_) (fun h => ?_)))
    all_goals (conv => whnf)
    all_goals (exact ⟨rfl, by rw [he]; rfl⟩)
end Go.Proofs.YtblnhcafobifgaaGreatDoor.lex
end


section

namespace Go.Proofs.YtblnhcafobifgaaGreatDoor.shelf
open Go.Shelf Go.RowKit Go.Maps Go.Sort
def keys57_ren : Go.Shelf.Ren := ⟨fun | 7 => 57 | 10 => 78 | n => n, fun | 23 => 91 | 26 => 9 | 3 => 92 | 28 => 98 | 0 => 0 | 27 => 97 | 33 => 93 | 4 => 4 | n => n, fun | n => n⟩
theorem keys57 : Go.Proofs.SlLaysZ.n7 Tryz.prog keys57_ren := {
  mixed := by kernel_rfl
  f7 := ⟨Tryz.f57.name, by decide, Tryz.func57.trans (congrArg some (by kernel_rfl))⟩
  f10 := ⟨Tryz.f78.name, by decide, Tryz.func78.trans (congrArg some (by kernel_rfl))⟩
  t0 := Tryz.underlying0
  a0 := Tryz.isAgg0
  z0 := Tryz.sizeOf0
  v0 := Tryz.zeroValue0
  t4 := Tryz.underlying4
  a4 := Tryz.isAgg4
  z4 := Tryz.sizeOf4
  v4 := Tryz.zeroValue4
  t23 := Tryz.underlying91
  a23 := Tryz.isAgg91
  z23 := Tryz.sizeOf91
  v23 := Tryz.zeroValue91
  t26 := Tryz.underlying9
  a26 := Tryz.isAgg9
  z26 := Tryz.sizeOf9
  v26 := Tryz.zeroValue9
  t27 := Tryz.underlying97
  a27 := Tryz.isAgg97
  z27 := Tryz.sizeOf97
  v27 := Tryz.zeroValue97
  t28 := Tryz.underlying98
  a28 := Tryz.isAgg98
  z28 := Tryz.sizeOf98
  v28 := Tryz.zeroValue98
  t33 := Tryz.underlying93
  a33 := Tryz.isAgg93
  z33 := Tryz.sizeOf93
  v33 := Tryz.zeroValue93 }
def sorted56_ren : Go.Shelf.Ren := ⟨fun | 6 => 56 | 8 => 76 | 9 => 77 | 11 => 92 | 13 => 94 | 12 => 93 | 23 => 117 | 24 => 118 | 14 => 108 | 15 => 109 | 16 => 110 | 17 => 111 | 18 => 112 | 19 => 113 | 20 => 114 | 21 => 115 | 22 => 116 | 25 => 124 | 26 => 125 | 27 => 126 | 28 => 127 | 29 => 128 | 30 => 129 | 31 => 133 | n => n, fun | 26 => 9 | 28 => 98 | 24 => 42 | 0 => 0 | 3 => 3 | 37 => 144 | 48 => 161 | 50 => 163 | 4 => 4 | 40 => 154 | 39 => 153 | 45 => 114 | 5 => 5 | 9 => 9 | 51 => 168 | 55 => 172 | 57 => 177 | 58 => 178 | 33 => 93 | n => n, fun | n => n⟩
theorem sorted56 : Go.Proofs.SlLaysZ.n6 Tryz.prog sorted56_ren := {
  mixed := by kernel_rfl
  f6 := ⟨Tryz.f56.name, by decide, Tryz.func56.trans (congrArg some (by kernel_rfl))⟩
  f8 := ⟨Tryz.f76.name, by decide, Tryz.func76.trans (congrArg some (by kernel_rfl))⟩
  f11 := ⟨Tryz.f92.name, by decide, Tryz.func92.trans (congrArg some (by kernel_rfl))⟩
  t0 := Tryz.underlying0
  a0 := Tryz.isAgg0
  z0 := Tryz.sizeOf0
  v0 := Tryz.zeroValue0
  t24 := Tryz.underlying42
  a24 := Tryz.isAgg42
  z24 := Tryz.sizeOf42
  v24 := Tryz.zeroValue42
  t26 := Tryz.underlying9
  a26 := Tryz.isAgg9
  z26 := Tryz.sizeOf9
  v26 := Tryz.zeroValue9
  t28 := Tryz.underlying98
  a28 := Tryz.isAgg98
  z28 := Tryz.sizeOf98
  v28 := Tryz.zeroValue98
  i26 := by kernel_rfl }
def sort77_ren : Go.Shelf.Ren := ⟨fun | 6 => 77 | 8 => 94 | 9 => 93 | 19 => 117 | 20 => 118 | 21 => 108 | 22 => 109 | 23 => 110 | 24 => 111 | 25 => 112 | 26 => 113 | 27 => 114 | 28 => 115 | 29 => 116 | 36 => 124 | 31 => 125 | 32 => 126 | 37 => 127 | 38 => 128 | 39 => 129 | 41 => 133 | n => n, fun | 27 => 42 | 29 => 9 | 3 => 3 | 32 => 144 | 26 => 42 | 0 => 0 | 44 => 161 | 46 => 163 | 4 => 4 | 36 => 154 | 35 => 153 | 41 => 114 | 5 => 5 | 9 => 9 | 53 => 168 | 57 => 172 | 63 => 177 | 64 => 178 | n => n, fun | n => n⟩
theorem sort77 : Go.Proofs.SlLaysM.n6 Tryz.prog sort77_ren := {
  mixed := by kernel_rfl
  f6 := ⟨Tryz.f77.name, by decide, Tryz.func77.trans (congrArg some (by kernel_rfl))⟩
  f8 := Tryz.func94.trans (congrArg some (by kernel_rfl))
  f9 := ⟨Tryz.f93.name, by decide, Tryz.func93.trans (congrArg some (by kernel_rfl))⟩
  f19 := Tryz.func117.trans (congrArg some (by kernel_rfl))
  f20 := Tryz.func118.trans (congrArg some (by kernel_rfl))
  f21 := ⟨Tryz.f108.name, by decide, Tryz.func108.trans (congrArg some (by kernel_rfl))⟩
  f22 := ⟨Tryz.f109.name, by decide, Tryz.func109.trans (congrArg some (by kernel_rfl))⟩
  f23 := ⟨Tryz.f110.name, by decide, Tryz.func110.trans (congrArg some (by kernel_rfl))⟩
  f24 := ⟨Tryz.f111.name, by decide, Tryz.func111.trans (congrArg some (by kernel_rfl))⟩
  f25 := ⟨Tryz.f112.name, by decide, Tryz.func112.trans (congrArg some (by kernel_rfl))⟩
  f26 := ⟨Tryz.f113.name, by decide, Tryz.func113.trans (congrArg some (by kernel_rfl))⟩
  f27 := ⟨Tryz.f114.name, by decide, Tryz.func114.trans (congrArg some (by kernel_rfl))⟩
  f28 := ⟨Tryz.f115.name, by decide, Tryz.func115.trans (congrArg some (by kernel_rfl))⟩
  f29 := ⟨Tryz.f116.name, by decide, Tryz.func116.trans (congrArg some (by kernel_rfl))⟩
  f31 := Tryz.func125.trans (congrArg some (by kernel_rfl))
  f32 := Tryz.func126.trans (congrArg some (by kernel_rfl))
  f36 := ⟨Tryz.f124.name, by decide, Tryz.func124.trans (congrArg some (by kernel_rfl))⟩
  f37 := ⟨Tryz.f127.name, by decide, Tryz.func127.trans (congrArg some (by kernel_rfl))⟩
  f38 := ⟨Tryz.f128.name, by decide, Tryz.func128.trans (congrArg some (by kernel_rfl))⟩
  f39 := ⟨Tryz.f129.name, by decide, Tryz.func129.trans (congrArg some (by kernel_rfl))⟩
  f41 := ⟨Tryz.f133.name, by decide, Tryz.func133.trans (congrArg some (by kernel_rfl))⟩
  t0 := Tryz.underlying0
  a0 := Tryz.isAgg0
  z0 := Tryz.sizeOf0
  v0 := Tryz.zeroValue0
  t3 := Tryz.underlying3
  a3 := Tryz.isAgg3
  z3 := Tryz.sizeOf3
  v3 := Tryz.zeroValue3
  t4 := Tryz.underlying4
  a4 := Tryz.isAgg4
  z4 := Tryz.sizeOf4
  v4 := Tryz.zeroValue4
  t5 := Tryz.underlying5
  a5 := Tryz.isAgg5
  z5 := Tryz.sizeOf5
  v5 := Tryz.zeroValue5
  t9 := Tryz.underlying9
  a9 := Tryz.isAgg9
  z9 := Tryz.sizeOf9
  v9 := Tryz.zeroValue9
  t26 := Tryz.underlying42
  a26 := Tryz.isAgg42
  z26 := Tryz.sizeOf42
  v26 := Tryz.zeroValue42
  t27 := Tryz.underlying42
  a27 := Tryz.isAgg42
  z27 := Tryz.sizeOf42
  v27 := Tryz.zeroValue42
  t29 := Tryz.underlying9
  a29 := Tryz.isAgg9
  z29 := Tryz.sizeOf9
  v29 := Tryz.zeroValue9
  t32 := Tryz.underlying144
  a32 := Tryz.isAgg144
  z32 := Tryz.sizeOf144
  v32 := Tryz.zeroValue144
  t35 := Tryz.underlying153
  a35 := Tryz.isAgg153
  z35 := Tryz.sizeOf153
  v35 := Tryz.zeroValue153
  t36 := Tryz.underlying154
  a36 := Tryz.isAgg154
  z36 := Tryz.sizeOf154
  v36 := Tryz.zeroValue154
  t41 := Tryz.underlying114
  a41 := Tryz.isAgg114
  z41 := Tryz.sizeOf114
  v41 := Tryz.zeroValue114
  t44 := Tryz.underlying161
  a44 := Tryz.isAgg161
  z44 := Tryz.sizeOf161
  v44 := Tryz.zeroValue161
  t46 := Tryz.underlying163
  a46 := Tryz.isAgg163
  z46 := Tryz.sizeOf163
  v46 := Tryz.zeroValue163
  t53 := Tryz.underlying168
  a53 := Tryz.isAgg168
  z53 := Tryz.sizeOf168
  v53 := Tryz.zeroValue168
  t57 := Tryz.underlying172
  a57 := Tryz.isAgg172
  z57 := Tryz.sizeOf172
  v57 := Tryz.zeroValue172
  t63 := Tryz.underlying177
  a63 := Tryz.isAgg177
  z63 := Tryz.sizeOf177
  v63 := Tryz.zeroValue177
  t64 := Tryz.underlying178
  a64 := Tryz.isAgg178
  z64 := Tryz.sizeOf178
  v64 := Tryz.zeroValue178 }
theorem sorts (m : Nat) : AnyZ.SortsIn Tryz.prog sorted56_ren Fence.wide m :=
  ⟨fun blk off cap ss W hH hblk hsz => callsIn_wide.2 (AnyM.slices_Sort_string sort77 blk off cap ss W hH hblk hsz),
   fun p cap W => callsIn_wide.2 (AnyM.slices_Sort_string_none sort77 p cap W)⟩
set_option maxHeartbeats 1000000 in
theorem sortsKeys : Go.Abs.SortsKeys Tryz.prog 56 78 9 := by
  intro Bm b nn D0 R W hcell hown hmax hbytes
  have hBm : Bm < W.heap.size := by
    by_cases h : Bm < W.heap.size
    · exact h
    · have h2 : W.heap[Bm]? = none := Array.getElem?_eq_none (by omega)
      simp [World.cell?, h2] at hcell
  have hseq : SeqGives Fence.wide 2 Tryz.prog 78 #[.pointer (some ⟨Bm, 0, none⟩)] encStr (fun ss => ss.Perm (strKeys D0)) (Maps.size D0) W :=
    AnyZ.keys_gives (ρ := keys57_ren) { keys57 with } Fence.wide _ trivial rfl (by omega) Bm b nn D0 W hBm hcell hown
  exact callsIn_wide.1 (AnyZ.sorted_in sorted56 Fence.wide 5 trivial trivial trivial trivial rfl (by omega) (sorts _) (enters_of Tryz.func77 (by kernel_rfl) rfl) 78 #[.pointer (some ⟨Bm, 0, none⟩)] trivial (enters_of Tryz.func78 (by kernel_rfl) rfl) _ _ hmax hbytes W hseq)
theorem keyT : Tryz.prog.underlying 9 = some .string := by kernel_rfl
theorem sound {gl : Go.Abs.Glob} : Go.Abs.OrcSound Tryz.prog gl (Go.Abs.sortO 56 78) := Go.Abs.sortO_sound sortsKeys keyT
end Go.Proofs.YtblnhcafobifgaaGreatDoor.shelf
end


section

set_option linter.unusedVariables false
set_option linter.unusedSimpArgs false
namespace Go.Proofs.YtblnhcafobifgaaGreatDoor.lex
open Go.Abs Go.RowKit
set_option maxRecDepth 100000
set_option maxHeartbeats 4000000
theorem rg2_ok (x : Ex) (rest : List AV) (d : Int) (n : List (List UInt8)) : MemOK Tryz.prog runLives.gl 54 [.rp (x.cells ++ rest), .int .i64 d, .ptr 2 0] (rgH n) (.bool true) (rgH (cond (x.op == 2) (rgN x.name n) n)) := by
  have hx := cell_op x rest
  have hx2 := cell_nm x rest
  refine fn_mem (k := 3) follows noNum (orcN_sound follows noNum isWordF_sound 3) rfl Tryz.func54 rfl (wcall_ok (isC := fun _ => false) 3) ?_
  have he := rg_evo n (cond (x.op == 2) (rgN x.name n) n)
  have hset := rg_set x.name n
  unfold rgN at he ⊢
  generalize x.name = s at *
  generalize x.op = o at *
  generalize x.cells ++ rest = cs at *
  cases ho : (o == 2) with
  | false =>
    rw [ho, cond_false] at he
    rw [cond_false]
    have e1 : (o != 2) = true := bne_of (b := false) ho
    repeat' ((conv => whnf); first | (refine exI hx ?_) | (refine exI hx2 ?_) | (first | refine stp ?_ | with_reducible refine condB (fun h => ?_) (fun h => ?_)))
    all_goals (conv => whnf)
    all_goals (exact ⟨rfl, by rw [he]; rfl⟩)
  | true =>
    rw [ho, cond_true] at he
    rw [cond_true]
    have e0 : (o != 2) = false := bne_of (b := true) ho
    cases hs : (s == []) with
    | true =>
      rw [hs, cond_true] at he
      rw [cond_true]
      have e1 : (!(s == [])) = false := by rw [hs]; rfl
      repeat' ((conv => whnf); first | (refine exI hx ?_) | (refine exI hx2 ?_) | (first | refine stp ?_ | with_reducible refine condB (fun h => ?_) (fun h => ?_)))
      all_goals (conv => whnf)
      all_goals (exact ⟨rfl, by rw [he]; rfl⟩)
    | false =>
      rw [hs, cond_false] at he
      rw [cond_false]
      have e1 : (!(s == [])) = true := by rw [hs]; rfl
      simp only [rgH] at hset he ⊢
      generalize rgE 0 (rgP s n) = es' at *
      generalize (rgP s n).length = c' at *
      repeat' ((conv => whnf); first | (refine exI hx ?_) | (refine exI hx2 ?_) | (refine exI hset ?_) | (first | refine stp ?_ | with_reducible refine condB (fun h => ?_) (fun h => ?_)))
      all_goals (conv => whnf)
      all_goals (exact ⟨rfl, by rw [he]; rfl⟩)
def rgEf (x : Ex) (_ : Int) (n : List (List UInt8)) : Bool × List (List UInt8) := (true, cond (x.op == 2) (rgN x.name n) n)
def rgSf (x : St) (_ : Int) (n : List (List UInt8)) : Bool × List (List UInt8) := (true, rgN x.name n)
def rgV : TvS runLives.gl where
  σ := List (List UInt8)
  Mem := rgH
  k := 3
  len := fun _ => rfl
  same := fun s => ⟨⟨⟨rfl, rfl, rfl, rfl, ⟨rfl, rgE_ge _ s 0⟩⟩, ⟨rfl, rfl, rfl, rfl, BodyGe.cellsL ⟨Wk.map rfl, trivial⟩⟩, ⟨rfl, rfl, rfl, rfl, BodyGe.cellsL ⟨Wk.func trivial ⟨Wk.ptr rfl rfl, trivial⟩, trivial⟩⟩, trivial⟩, rfl, rfl⟩
  evo := fun s s' => rg_evo s s'
  inj := fun _ _ h => rgH_inj h
  I := rgI
  up := fun d s m h0 h => ⟨h0, by have := h.2; omega⟩
  less := fun d s m h => ⟨h.1, by have := h.2; omega⟩
  bnd := fun d s m h => ⟨h.1, by have := h.2; omega⟩
  gE := 54
  cE := [.ptr 2 0]
  hE := rgEf
  bodyE := by kernel_rfl
  wkE := ⟨Wk.ptr rfl rfl, trivial⟩
  okE := fun e rest d s m _ h => rg2_ok e rest d s
  downE := fun e d s m h _ => ⟨by have := h.1; omega, by have := h.2; omega⟩
  gS := 55
  cS := [.ptr 2 0]
  hS := rgSf
  bodyS := by kernel_rfl
  wkS := ⟨Wk.ptr rfl rfl, trivial⟩
  okS := fun x rest d s m _ h => rg3_ok x rest d s
  downS := fun e d s m h _ => ⟨by have := h.1; omega, by have := h.2; omega⟩
mutual
def nmE : Ex → List (List UInt8)
  | .mk o _ s k => (cond (o == 2 && !(s == [])) [s] []) ++ nmL k
def nmL : List Ex → List (List UInt8)
  | [] => []
  | e :: l => nmE e ++ nmL l
end
mutual
def nmS : St → List (List UInt8)
  | .mk _ n _ _ x t e => (cond (!(n == [])) [n] []) ++ (nmL x ++ (nmSL t ++ nmSL e))
def nmSL : List St → List (List UInt8)
  | [] => []
  | x :: l => nmS x ++ nmSL l
end
def addA (l : List (List UInt8)) (n : List (List UInt8)) : List (List UInt8) := l.foldl (fun n s => rgP s n) n
theorem addA_app (a b n : List (List UInt8)) : addA (a ++ b) n = addA b (addA a n) := List.foldl_append
theorem rgN_add (b : Bool) (s : List UInt8) (n : List (List UInt8)) : cond b (rgN s n) n = addA (cond (b && !(s == [])) [s] []) n := by
  unfold rgN
  cases b <;> cases (s == []) <;> rfl
mutual
theorem goE_rg : ∀ (e : Ex) (d : Int) (n : List (List UInt8)), goE rgEf e d n = (true, addA (nmE e) n)
  | .mk o m s k, d, n => by
    simp only [goE, rgEf, if_true, Ex.op, Ex.name]
    rw [goL_rg k (d + 1), rgN_add, nmE, addA_app]
theorem goL_rg : ∀ (l : List Ex) (d : Int) (n : List (List UInt8)), goL rgEf l d n = (true, addA (nmL l) n)
  | [], d, n => by simp only [goL, nmL]; rfl
  | e :: l, d, n => by
    simp only [goL, goE_rg e d n, if_true, goL_rg l d, nmL, addA_app]
end
mutual
theorem goS_rg : ∀ (x : St) (d : Int) (n : List (List UInt8)), goS rgEf rgSf x d n = (true, addA (nmS x) n)
  | .mk k m lc o x t e, d, n => by
    have h := rgN_add true m n
    simp only [cond_true, Bool.true_and] at h
    simp only [goS]
    rw [show rgSf (.mk k m lc o x t e) d n = (true, rgN m n) from rfl, h]
    simp only [thenB, goL_rg, if_true, goSL_rg t, goSL_rg e, nmS, addA_app]
theorem goSL_rg : ∀ (l : List St) (d : Int) (n : List (List UInt8)), goSL rgEf rgSf l d n = (true, addA (nmSL l) n)
  | [], d, n => by simp only [goSL, nmSL]; rfl
  | e :: l, d, n => by
    simp only [goSL, thenB, goS_rg e d n, if_true, goSL_rg l d, nmSL, addA_app]
end
theorem rgP_nodup {s : List UInt8} {n : List (List UInt8)} (h : n.Nodup) : (rgP s n).Nodup := by
  unfold rgP
  split
  · exact h
  · rename_i hc
    have hm : s ∉ n := by simpa using hc
    exact List.nodup_append.2 ⟨h, by simp, fun a ha b hb => by simp at hb; subst hb; exact fun e => hm (e ▸ ha)⟩
theorem addA_nodup : ∀ (l n : List (List UInt8)), n.Nodup → (addA l n).Nodup
  | [], n, h => h
  | s :: l, n, h => addA_nodup l (rgP s n) (rgP_nodup h)
theorem rgP_mem {s x : List UInt8} {n : List (List UInt8)} : x ∈ rgP s n ↔ x ∈ n ∨ x = s := by
  unfold rgP
  split
  · rename_i hc
    have hm : s ∈ n := by simpa using hc
    exact ⟨.inl, fun h => h.elim id (fun e => e ▸ hm)⟩
  · simp
theorem addA_mem {x : List UInt8} : ∀ {l n : List (List UInt8)}, x ∈ addA l n ↔ x ∈ n ∨ x ∈ l
  | [], n => by simp [addA]
  | s :: l, n => by
    have := addA_mem (x := x) (l := l) (n := rgP s n)
    rw [rgP_mem] at this
    show x ∈ addA l (rgP s n) ↔ _
    rw [this]; simp only [List.mem_cons]; exact or_assoc
theorem addA_len : ∀ (l n : List (List UInt8)), (addA l n).length ≤ n.length + l.length
  | [], n => by simp [addA]
  | s :: l, n => by
    have := addA_len l (rgP s n)
    have h2 : (rgP s n).length ≤ n.length + 1 := by unfold rgP; split <;> simp
    show (addA l (rgP s n)).length ≤ _
    simp only [List.length_cons]; omega
mutual
theorem nmE_len : ∀ e : Ex, (nmE e).length ≤ sizeE e
  | .mk o m s k => by
    have := nmL_len k
    simp only [nmE, sizeE, List.length_append]
    cases (o == 2 && !(s == [])) <;> simp <;> omega
theorem nmL_len : ∀ l : List Ex, (nmL l).length ≤ sizeL l
  | [] => by simp [nmL]
  | e :: l => by have := nmE_len e; have := nmL_len l; simp only [nmL, sizeL, List.length_append]; omega
end
mutual
theorem nmS_len : ∀ e : St, (nmS e).length ≤ sizeS e
  | .mk k n lc o x t e => by
    have := nmL_len x; have := nmSL_len t; have := nmSL_len e
    simp only [nmS, sizeS, List.length_append]
    cases (!(n == [])) <;> simp <;> omega
theorem nmSL_len : ∀ l : List St, (nmSL l).length ≤ sizeSL l
  | [] => by simp [nmSL]
  | e :: l => by have := nmS_len e; have := nmSL_len l; simp only [nmSL, sizeSL, List.length_append]; omega
end
mutual
theorem nmE_ok : ∀ {e : Ex}, okE e → ∀ x ∈ nmE e, x.length ≤ 9223372036854775807
  | .mk o m s k, h, x, hx => by
    have h1 := okE_kids h
    simp only [Ex.name, Ex.kids, okN] at h1
    simp only [nmE, List.mem_append] at hx
    rcases hx with hx | hx
    · cases hb : (o == 2 && !(s == [])) with
      | true => rw [hb] at hx; simp at hx; subst hx; exact h1.1.1
      | false => rw [hb] at hx; simp at hx
    · exact nmL_ok h1.2 x hx
theorem nmL_ok : ∀ {l : List Ex}, okL l → ∀ x ∈ nmL l, x.length ≤ 9223372036854775807
  | [], h, x, hx => by simp [nmL] at hx
  | e :: l, h, x, hx => by
    simp only [nmL, List.mem_append] at hx
    rcases hx with hx | hx
    · exact nmE_ok (okL_get h e (by simp)) x hx
    · exact nmL_ok (by simp only [okL] at h; exact h.2) x hx
end
mutual
theorem nmS_ok : ∀ {e : St}, okS e → ∀ x ∈ nmS e, x.length ≤ 9223372036854775807
  | .mk k n lc o ex t e, h, x, hx => by
    obtain ⟨k1, k2, k3, k4, k5, k6, k7, k8⟩ := okS_parts h
    simp only [St.name, St.exprs, St.thn, St.els] at *
    simp only [nmS, List.mem_append] at hx
    rcases hx with hx | hx | hx | hx
    · cases hb : (!(n == [])) with
      | true => rw [hb] at hx; simp at hx; subst hx; exact k1
      | false => rw [hb] at hx; simp at hx
    · exact nmL_ok k6 x hx
    · exact nmSL_ok k7 x hx
    · exact nmSL_ok k8 x hx
theorem nmSL_ok : ∀ {l : List St}, okSL l → ∀ x ∈ nmSL l, x.length ≤ 9223372036854775807
  | [], h, x, hx => by simp [nmSL] at hx
  | e :: l, h, x, hx => by
    simp only [nmSL, List.mem_append] at hx
    rcases hx with hx | hx
    · exact nmS_ok (okSL_get h e (by simp)) x hx
    · exact nmSL_ok (by simp only [okSL] at h; exact h.2) x hx
end
theorem strsE_rg : ∀ (n : List (List UInt8)) (i : Nat), strsE (rgE i n) = some n
  | [], i => rfl
  | x :: n, i => by simp only [rgE, strsE, strsE_rg n (i + 1)]
theorem born_rg : ∀ (n : List (List UInt8)) (i : Nat), (rgE i n).map (·.2.2) = (List.range' i n.length)
  | [], i => rfl
  | x :: n, i => by simp only [rgE, List.map_cons, born_rg n (i + 1), List.length_cons, List.range'_succ]
theorem rg_keys {n : List (List UInt8)} (h1 : n.Nodup) (h2 : ∀ x ∈ n, x.length ≤ 9223372036854775807) (h3 : n.length ≤ 1000000) : okKeys n (rgE 0 n) n.length = true := by
  unfold okKeys
  simp only [born_rg, Bool.and_eq_true, decide_eq_true_eq]
  refine ⟨h1, h2, List.nodup_range', ?_, by simpa using h3⟩
  rw [List.all_eq_true]
  intro b hb
  have := List.mem_range'_1.1 hb
  simp only [decide_eq_true_eq]; omega
end Go.Proofs.YtblnhcafobifgaaGreatDoor.lex
end


section

set_option linter.unusedVariables false
set_option linter.unusedSimpArgs false
namespace Go.Proofs.YtblnhcafobifgaaGreatDoor.lex
open Go.Abs Go.RowKit
theorem bl_eq : ∀ (x y : List UInt8), Op.bytesLess x y = decide (x < y)
  | [], [] => by simp [Op.bytesLess]
  | _ :: _, [] => by simp [Op.bytesLess]
  | [], _ :: _ => by simp [Op.bytesLess]
  | a :: x, b :: y => by
    rw [Op.bytesLess, bl_eq x y]
    simp only [List.cons_lt_cons_iff]
    by_cases h1 : a < b <;> by_cases h2 : a = b <;> by_cases h3 : x < y <;> simp [h1, h2, h3]
def posU (s : List UInt8) : List (List UInt8) → Nat
  | [] => 0
  | x :: o => if Op.bytesLess x s = true then posU s o + 1 else 0
def insU (s : List UInt8) : List (List UInt8) → List (List UInt8)
  | [] => [s]
  | x :: o => if Op.bytesLess x s = true then x :: insU s o else if (x == s) = true then x :: o else s :: x :: o
def setU (l : List (List UInt8)) : List (List UInt8) := l.foldl (fun o s => insU s o) []
theorem posU_le (s : List UInt8) : ∀ o, posU s o ≤ o.length
  | [] => Nat.le_refl _
  | x :: o => by have := posU_le s o; simp only [posU, List.length_cons]; split <;> omega
theorem posU_lt (s : List UInt8) : ∀ (o : List (List UInt8)) (k : Nat) (h : k < o.length), k < posU s o → Op.bytesLess o[k] s = true
  | x :: o, 0, h, hk => by
    simp only [posU] at hk
    split at hk
    · assumption
    · omega
  | x :: o, k + 1, h, hk => by
    simp only [posU] at hk
    split at hk
    · exact posU_lt s o k (by simpa using h) (by omega)
    · omega
theorem posU_at (s : List UInt8) : ∀ (o : List (List UInt8)) (h : posU s o < o.length), Op.bytesLess o[posU s o] s = false
  | x :: o, h => by
    cases hx : Op.bytesLess x s with
    | true =>
      have e : posU s (x :: o) = posU s o + 1 := by simp [posU, hx]
      simp only [e, List.length_cons] at h
      simp only [e, List.getElem_cons_succ]
      exact posU_at s o (by omega)
    | false =>
      have e : posU s (x :: o) = 0 := by simp [posU, hx]
      simp only [e, List.getElem_cons_zero]; exact hx
theorem insU_same (s : List UInt8) : ∀ (o : List (List UInt8)) (h : posU s o < o.length), (o[posU s o] == s) = true → insU s o = o
  | x :: o, h, he => by
    cases hx : Op.bytesLess x s with
    | true =>
      have e : posU s (x :: o) = posU s o + 1 := by simp [posU, hx]
      simp only [e, List.length_cons] at h
      simp only [e, List.getElem_cons_succ] at he
      simp only [insU, hx, if_true, insU_same s o (by omega) he]
    | false =>
      have e : posU s (x :: o) = 0 := by simp [posU, hx]
      simp only [e, List.getElem_cons_zero] at he
      simp only [insU, hx, he, if_true, Bool.false_eq_true, if_false]
theorem insU_new (s : List UInt8) : ∀ (o : List (List UInt8)), (∀ h : posU s o < o.length, (o[posU s o] == s) = false) → insU s o = o.take (posU s o) ++ (s :: o.drop (posU s o))
  | [], _ => rfl
  | x :: o, he => by
    cases hx : Op.bytesLess x s with
    | true =>
      have e : posU s (x :: o) = posU s o + 1 := by simp [posU, hx]
      have := insU_new s o fun h => by
        have := he (by rw [e]; simpa using h)
        simpa only [e, List.getElem_cons_succ] using this
      rw [e]
      simp only [insU, hx, if_true, List.take_succ_cons, List.drop_succ_cons, List.cons_append, ← this]
    | false =>
      have e : posU s (x :: o) = 0 := by simp [posU, hx]
      have h2 := he (by rw [e]; simp)
      simp only [e, List.getElem_cons_zero] at h2
      rw [e]
      simp only [insU, hx, h2, Bool.false_eq_true, if_false, List.take_zero, List.drop_zero, List.nil_append]
theorem insU_mem {s x : List UInt8} : ∀ {o : List (List UInt8)}, x ∈ insU s o ↔ x ∈ o ∨ x = s
  | [] => by simp [insU]
  | y :: o => by
    have ih := insU_mem (s := s) (x := x) (o := o)
    simp only [insU]
    split
    · simp only [List.mem_cons, ih, or_assoc]
    · split
      · rename_i h
        have : y = s := by simpa using h
        subst this
        simp only [List.mem_cons]
        constructor
        · exact .inl
        · rintro (h | rfl)
          · exact h
          · exact .inl rfl
      · simp only [List.mem_cons]
        constructor
        · rintro (h | h)
          · exact .inr h
          · exact .inl h
        · rintro (h | h)
          · exact .inr h
          · exact .inl h
theorem insU_len (s : List UInt8) : ∀ o, (insU s o).length ≤ o.length + 1
  | [] => by simp [insU]
  | x :: o => by have := insU_len s o; simp only [insU]; split <;> (try split) <;> simp only [List.length_cons] <;> omega
theorem setU_len : ∀ (l o : List (List UInt8)), (l.foldl (fun o s => insU s o) o).length ≤ o.length + l.length
  | [], o => by simp
  | s :: l, o => by
    have := setU_len l (insU s o)
    have h2 := insU_len s o
    simp only [List.foldl_cons, List.length_cons]; omega
theorem lt_of (a b : List UInt8) (h : ¬ a < b) (hn : a ≠ b) : b < a := by
  rcases List.le_total a b with h1 | h1
  · have h2 : b ≤ a := List.not_lt.1 h
    exact absurd (List.le_antisymm h1 h2) hn
  · exact List.not_le.1 fun h2 => hn (List.le_antisymm h2 h1)
theorem insU_sorted (s : List UInt8) : ∀ {o : List (List UInt8)}, o.Pairwise (· < ·) → (insU s o).Pairwise (· < ·)
  | [], _ => by simp [insU]
  | x :: o, h => by
    rw [List.pairwise_cons] at h
    simp only [insU, bl_eq, decide_eq_true_eq]
    split
    · rename_i hx
      rw [List.pairwise_cons]
      refine ⟨fun a ha => ?_, insU_sorted s h.2⟩
      rcases insU_mem.1 ha with ha | rfl
      · exact h.1 a ha
      · exact hx
    · rename_i hx
      split
      · rw [List.pairwise_cons]; exact h
      · rename_i hn
        have hsx : s < x := lt_of x s hx (fun e => hn (by simp [e]))
        rw [List.pairwise_cons]
        refine ⟨fun a ha => ?_, by rw [List.pairwise_cons]; exact h⟩
        rcases List.mem_cons.1 ha with rfl | ha
        · exact hsx
        · exact List.lt_trans hsx (h.1 a ha)
theorem setU_sorted : ∀ (l o : List (List UInt8)), o.Pairwise (· < ·) → (l.foldl (fun o s => insU s o) o).Pairwise (· < ·)
  | [], o, h => h
  | s :: l, o, h => setU_sorted l _ (insU_sorted s h)
theorem setU_mem {x : List UInt8} : ∀ {l o : List (List UInt8)}, x ∈ l.foldl (fun o s => insU s o) o ↔ x ∈ o ∨ x ∈ l
  | [], o => by simp
  | s :: l, o => by
    have := setU_mem (x := x) (l := l) (o := insU s o)
    simp only [List.foldl_cons, this, insU_mem, List.mem_cons, or_assoc]
theorem setU_eq (l : List (List UInt8)) : setU l = sortB (addA l []) := by
  have h1 := setU_sorted l [] List.Pairwise.nil
  refine sortB_unique ?_ (h1.imp fun {a b} h => ?_)
  · have hn : (setU l).Nodup := h1.imp fun {a b} h e => by subst e; exact List.lt_irrefl _ h
    refine (List.perm_ext_iff_of_nodup hn (addA_nodup l [] List.nodup_nil)).2 fun a => ?_
    rw [addA_mem]; exact setU_mem
  · simp only [leB, decide_eq_true_eq]; exact List.le_of_lt h
theorem setU_next (l : List (List UInt8)) (i : Nat) (h : i < l.length) : setU (l.take (i + 1)) = insU l[i] (setU (l.take i)) := by
  unfold setU
  rw [List.take_succ_eq_append_getElem h, List.foldl_append]; rfl
theorem setU_take_len (l : List (List UInt8)) (i : Nat) : (setU (l.take i)).length ≤ l.length := by
  have := setU_len (l.take i) []
  unfold setU
  simp only [List.length_nil, List.length_take] at this
  omega
end Go.Proofs.YtblnhcafobifgaaGreatDoor.lex
end


section

set_option linter.unusedSimpArgs false
set_option linter.unusedVariables false
namespace Go.Abs
open Go.RowKit
def grA {α : Type} (b z : Nat) : List α → AV
  | [] => .nslice
  | _ :: r => .slice b 0 (r.length + 1) (r.length + 1) z
def grB {α : Type} (b : Nat) (C : List α → List AV) (ty : TypeId) : List α → AHeap
  | [] => []
  | x :: r => [⟨true, b, 0, .cells (C (x :: r)) ty⟩]
theorem app_n0 {P : Program} {t t2 e : TypeId} {z by_ : Nat} (hT : appT P t t2 = some (e, z, by_)) {H : AHeap} {x : AV} {xs : List AV} (hx : xcells H z x = some (0, xs)) :
    aAppend P t t2 .nslice x H = some (.nslice, H) := by
  obtain ⟨h1, i, u, h2, h3, h4, rfl, rfl⟩ := appT_some hT
  simp only [aAppend, h1, h2, h3]
  rw [if_pos h4]
  simp only [hx, if_true]
def ekOk (f e : Nat) : AHeap → Prop
  | [] => True
  | o :: H => (o.fam ≠ f ∨ o.sh + o.body.len ≤ e) ∧ ekOk f e H
theorem ekOk_mem {f e : Nat} : ∀ {H : AHeap}, ekOk f e H → ∀ o ∈ H, o.fam = f → o.sh + o.body.len ≤ e
  | [], _, o, h, _ => by cases h
  | x :: H, h, o, ho, hf => by
    rcases List.mem_cons.1 ho with rfl | ho
    · rcases h.1 with h1 | h1
      · exact absurd hf h1
      · exact h1
    · exact ekOk_mem h.2 o ho hf
theorem ekil_ok {f e : Nat} {H : AHeap} (h : ekOk f e H) : ekil f e H = H := ekil_le (ekOk_mem h)
theorem apS {P Q : Prop} (q : Q) (h : Stp1 P Q := by
    first
    | (with_reducible apply s1I (app_n0 (by assumption) ?_)); (any_goals (exact rfl)); done
    | (with_reducible apply s1I (app_zero (by assumption) ?_)); (any_goals (exact rfl)); done
    | (with_reducible apply s1I (app_nil (by assumption) ?_ ?_ ?_)); (any_goals (exact rfl)); (all_goals first | omega | (simp only [List.length_cons]; omega))
    | (with_reducible apply s1I (app_okG (by assumption) ?_ ?_ (ekil_ok ?_) ?_ ?_ ?_ ?_)); (any_goals (exact rfl));
      (all_goals first
        | assumption
        | omega
        | (simp only [List.length_cons]; omega)
        | (simp [ekOk, ABody.len]; done) | (simp [ekOk, ABody.len]; omega)
        | (simp; done) | (simp; omega))) : P := h q
theorem strs_one : ∀ l : List (List UInt8), (l.map AV.str).all one = true
  | [] => rfl
  | x :: l => strs_one l
theorem strs_refs : ∀ (l : List (List UInt8)) (acc : List Nat), refsL (l.map AV.str) acc = acc
  | [], acc => rfl
  | x :: l, acc => strs_refs l acc
end Go.Abs
end


section

set_option linter.unusedVariables false
set_option linter.unusedSimpArgs false
namespace Go.Proofs.YtblnhcafobifgaaGreatDoor.lex
open Go.Abs Go.RowKit
set_option maxRecDepth 100000
set_option maxHeartbeats 4000000
variable {gl : Glob}
def strC (l : List (List UInt8)) : List AV := l.map AV.str
theorem strC_len (l : List (List UInt8)) : (strC l).length = l.length * 1 := by simp [strC]
theorem strC_cons (x : List UInt8) (l : List (List UInt8)) : (strC (x :: l)).length = (l.length + 1) * 1 := by simp [strC]
theorem strC_app (a b : List (List UInt8)) : strC (a ++ b) = strC a ++ strC b := by simp [strC]
theorem strC_lit : ∀ l : List (List UInt8), (strC l).all lit = true
  | [] => rfl
  | x :: l => strC_lit l
theorem strC_refs (l : List (List UInt8)) : refsL (strC l) [] = [] := strs_refs l []
theorem nmL_take : ∀ (l : List Ex) (i : Nat) (h : i < l.length), nmL (l.take (i + 1)) = nmL (l.take i) ++ nmE l[i]
  | e :: l, 0, h => by simp [nmL]
  | e :: l, i + 1, h => by
    have := nmL_take l i (by simpa using h)
    simp only [List.take_succ_cons, nmL, List.getElem_cons_succ] at this ⊢
    rw [this, List.append_assoc]
theorem nmL_take_len (l : List Ex) (i : Nat) : (nmL (l.take i)).length ≤ (nmL l).length := by
  have h : nmL l = nmL (l.take i) ++ nmL (l.drop i) := by
    have hg : ∀ a b : List Ex, nmL (a ++ b) = nmL a ++ nmL b := by
      intro a b
      induction a with
      | nil => rfl
      | cons x a ih => simp only [List.cons_append, nmL, ih, List.append_assoc]
    rw [← hg, List.take_append_drop]
  rw [h, List.length_append]; omega
end Go.Proofs.YtblnhcafobifgaaGreatDoor.lex
end


section

set_option linter.unusedVariables false
set_option linter.unusedSimpArgs false
namespace Go.Proofs.YtblnhcafobifgaaGreatDoor.lex
open Go.Abs Go.RowKit
set_option maxRecDepth 100000
set_option maxHeartbeats 4000000
variable {gl : Glob}
theorem regsR_ok : ∀ (n : Nat) (e : Ex), sizeE e ≤ n → okE e → sizeE e ≤ 1048576 → ValOK Tryz.prog gl 58 [.agg e.cells] (rsK (nmE e))
  | n, e, h, hok, hs => by
    obtain ⟨O, hO, p1, -⟩ := fams (P := Tryz.prog) (gl := gl) [{ I := Ex, f := 58, G := fun x => sizeE x < n ∧ okE x ∧ sizeE x ≤ 1048576, A := fun x => [.agg x.cells], R := fun x => rsK (nmE x), body := (by kernel_rfl), inj := (fun i j _ _ h => by rw [agg_inj h]), ok := (fun x hx => ⟨ex_refs x, match n, hx.1 with | n + 1, h => regsR_ok n x (by omega) hx.2.1 hx.2.2⟩) }] rfl
    have q1 : ∀ x, sizeE x < n → okE x → sizeE x ≤ 1048576 → ∀ H, acall Tryz.prog O H 58 [.agg x.cells] = some (.rs (nmE x).length 1 (strC (nmE x)), H) := fun x h1 h2 h3 => p1 x ⟨h1, h2, h3⟩
    clear p1
    have hT : appT Tryz.prog 42 42 = some (9, 1, 16) := by kernel_rfl
    obtain ⟨op, num, name, kids⟩ := e
    have hk := okE_kids hok
    simp only [Ex.kids, Ex.name, okN] at hk
    have hnl := nmE_len (.mk op num name kids)
    simp only [sizeE] at h hs hnl
    simp only [nmE, List.length_append] at hnl ⊢
    simp only [Ex.cells, exA, rsK]
    refine fn_valN follows noNum hO Tryz.func58 rfl ?_
    generalize hpre : (cond (op == 2 && !(name == [])) [name] []) = pre at *
    cases ho : (op == 2) with
    | false =>
      rw [ho] at hpre
      simp only [Bool.false_and, cond_false] at hpre
      repeat' ((conv => whnf); first | refine stp ?_ | with_reducible refine condB (fun h => ?_) (fun h => ?_))
      conv => whnf
      refine ⟨Nat, (fun i => i ≤ kids.length), (fun i => [(1, .ptr 0 0), (3, grA 1 1 (pre ++ nmL (kids.take i))), (4, .int .i64 i)]), (fun i => ⟨true, 0, 0, .cells [.int .i64 op, .int .i64 num, .str name, .rs kids.length 4 (exC kids)] 68⟩ :: grB 1 strC 9 (pre ++ nmL (kids.take i))), (fun i => kids.length - i), ⟨0, Nat.zero_le _, ?_⟩, ?_⟩
      · subst hpre
        exact FgL.mk [0] rfl ⟨Wk.ptr rfl rfl, Wk.noref rfl, Wk.int rfl, trivial⟩ ⟨⟨rfl, rfl, rfl, rfl, BodyGe.pre (rest := []) rfl rfl⟩, trivial⟩ rfl
      intro i hi
      dsimp only
      have hle := nmL_take_len kids i
      by_cases hlt : i < kids.length
      · have e1 : decide ((i : Int) < (kids.length : Int)) = true := by simpa using hlt
        have hx := ex4 kids i hlt
        have hsz := sizeL_mem _ _ (get_mem hlt)
        have hlr := nmE_len kids[i]
        have q2 := q1 kids[i] (by omega) (okL_get hk.2 _ (get_mem hlt)) (by omega)
        have hnx : pre ++ nmL (kids.take (i + 1)) = (pre ++ nmL (kids.take i)) ++ nmE kids[i] := by rw [nmL_take kids i hlt, List.append_assoc]
        have hlo : (pre ++ nmL (kids.take i)).length ≤ 2097152 := by rw [List.length_append]; omega
        generalize pre ++ nmL (kids.take i) = o at *
        generalize hr : nmE kids[i] = r at *
        generalize kids[i] = x at *
        obtain ⟨xo, xn, xs, xk⟩ := x
        simp only [Ex.cells] at hx q2
        cases o with
        | nil =>
          cases r with
          | nil =>
            repeat' ((conv => whnf); first | (with_reducible refine exI (q2 _) ?_) | (with_reducible refine ixJ i rfl ?_ ?_; (focus (omega))) | (refine exI hx ?_) | (refine apS ?_) | (first | refine stp ?_ | with_reducible refine condB (fun h => ?_) (fun h => ?_)))
            conv => whnf
            refine ⟨i + 1, hlt, by show kids.length - (i + 1) < kids.length - i; omega, ?_⟩
            rw [hnx]
            exact FgL.mk [0] rfl ⟨Wk.ptr rfl rfl, Wk.noref rfl, Wk.int rfl, trivial⟩ ⟨⟨rfl, rfl, rfl, rfl, BodyGe.pre (rest := []) rfl rfl⟩, trivial⟩ rfl
          | cons y r =>
            simp only [List.length_cons] at hlr
            repeat' ((conv => whnf); first | (with_reducible refine exI (q2 _) ?_) | (with_reducible refine ixJ i rfl ?_ ?_; (focus (omega))) | (refine exI hx ?_) | (refine apS ?_) | (first | refine stp ?_ | with_reducible refine condB (fun h => ?_) (fun h => ?_)))
            conv => whnf
            refine ⟨i + 1, hlt, by show kids.length - (i + 1) < kids.length - i; omega, ?_⟩
            rw [hnx]
            exact FgL.mk [0, 1] rfl ⟨Wk.ptr rfl rfl, Wk.slice rfl rfl rfl (Nat.le_refl _) (Nat.le_refl _) rfl, Wk.int rfl, trivial⟩ ⟨⟨rfl, rfl, rfl, rfl, BodyGe.pre (rest := []) rfl rfl⟩, ⟨rfl, rfl, rfl, rfl, BodyGe.pre (rest := []) (by simp [strC]) (strC_refs _)⟩, trivial⟩ rfl
        | cons z o =>
          have hcl := strC_cons z o
          simp only [List.length_cons] at hlo
          cases r with
          | nil =>
            repeat' ((conv => whnf); first | (with_reducible refine exI (q2 _) ?_) | (with_reducible refine ixJ i rfl ?_ ?_; (focus (omega))) | (refine exI hx ?_) | (refine apS ?_) | (first | refine stp ?_ | with_reducible refine condB (fun h => ?_) (fun h => ?_)))
            conv => whnf
            refine ⟨i + 1, hlt, by show kids.length - (i + 1) < kids.length - i; omega, ?_⟩
            rw [hnx, List.append_nil]
            exact FgL.mk [0, 1] rfl ⟨Wk.ptr rfl rfl, Wk.slice rfl rfl rfl (Nat.le_refl _) (Nat.le_refl _) rfl, Wk.int rfl, trivial⟩ ⟨⟨rfl, rfl, rfl, rfl, BodyGe.pre (rest := []) rfl rfl⟩, ⟨rfl, rfl, rfl, rfl, BodyGe.pre (rest := []) (by simp) (strC_refs _)⟩, trivial⟩ rfl
          | cons y r =>
            have hon := strs_one (y :: r)
            simp only [List.length_cons] at hlr
            repeat' ((conv => whnf); first | (with_reducible refine exI (q2 _) ?_) | (with_reducible refine ixJ i rfl ?_ ?_; (focus (omega))) | (refine exI hx ?_) | (refine apS ?_) | (first | refine stp ?_ | with_reducible refine condB (fun h => ?_) (fun h => ?_)))
            conv => whnf
            refine ⟨i + 1, hlt, by show kids.length - (i + 1) < kids.length - i; omega, ?_⟩
            rw [hnx]
            exact FgL.mk [0, 2] rfl ⟨Wk.ptr rfl rfl, Wk.slice rfl rfl (by simp; omega) (Nat.le_refl _) (by simp; omega) rfl, Wk.int rfl, trivial⟩ ⟨⟨rfl, rfl, rfl, rfl, BodyGe.pre (rest := []) rfl rfl⟩, ⟨rfl, rfl, rfl, rfl, BodyGe.pre (rest := []) (by simp [strC]) (strC_refs _)⟩, trivial⟩ rfl
      · have e1 : decide ((i : Int) < (kids.length : Int)) = false := by simpa using hlt
        have hi2 : i = kids.length := by have := hi; omega
        subst hi2
        rw [List.take_length] at hle ⊢
        generalize pre ++ nmL kids = o at *
        cases o with
        | nil =>
          repeat' ((conv => whnf); first | refine stp ?_ | with_reducible refine condB (fun h => ?_) (fun h => ?_))
          all_goals exact .inr ⟨rfl, _, rfl⟩
        | cons z o =>
          repeat' ((conv => whnf); first | refine stp ?_ | with_reducible refine condB (fun h => ?_) (fun h => ?_))
          conv => whnf
          exact ⟨_, frz_slice (b := 1) rfl (strC_cons z o) (strC_lit (z :: o)), .inl rfl⟩
    | true =>
      rw [ho] at hpre
      cases hs2 : (name == []) with
      | true =>
        rw [hs2] at hpre
        simp only [Bool.not_true, Bool.and_false, cond_false] at hpre
        have e2 : (!(name == [])) = false := by rw [hs2]; rfl
        repeat' ((conv => whnf); first | refine stp ?_ | with_reducible refine condB (fun h => ?_) (fun h => ?_))
        conv => whnf
        refine ⟨Nat, (fun i => i ≤ kids.length), (fun i => [(1, .ptr 0 0), (3, grA 1 1 (pre ++ nmL (kids.take i))), (4, .int .i64 i)]), (fun i => ⟨true, 0, 0, .cells [.int .i64 op, .int .i64 num, .str name, .rs kids.length 4 (exC kids)] 68⟩ :: grB 1 strC 9 (pre ++ nmL (kids.take i))), (fun i => kids.length - i), ⟨0, Nat.zero_le _, ?_⟩, ?_⟩
        · subst hpre
          exact FgL.mk [0] rfl ⟨Wk.ptr rfl rfl, Wk.noref rfl, Wk.int rfl, trivial⟩ ⟨⟨rfl, rfl, rfl, rfl, BodyGe.pre (rest := []) rfl rfl⟩, trivial⟩ rfl
        intro i hi
        dsimp only
        have hle := nmL_take_len kids i
        by_cases hlt : i < kids.length
        · have e1 : decide ((i : Int) < (kids.length : Int)) = true := by simpa using hlt
          have hx := ex4 kids i hlt
          have hsz := sizeL_mem _ _ (get_mem hlt)
          have hlr := nmE_len kids[i]
          have q2 := q1 kids[i] (by omega) (okL_get hk.2 _ (get_mem hlt)) (by omega)
          have hnx : pre ++ nmL (kids.take (i + 1)) = (pre ++ nmL (kids.take i)) ++ nmE kids[i] := by rw [nmL_take kids i hlt, List.append_assoc]
          have hlo : (pre ++ nmL (kids.take i)).length ≤ 2097152 := by rw [List.length_append]; omega
          generalize pre ++ nmL (kids.take i) = o at *
          generalize hr : nmE kids[i] = r at *
          generalize kids[i] = x at *
          obtain ⟨xo, xn, xs, xk⟩ := x
          simp only [Ex.cells] at hx q2
          cases o with
          | nil =>
            cases r with
            | nil =>
              repeat' ((conv => whnf); first | (with_reducible refine exI (q2 _) ?_) | (with_reducible refine ixJ i rfl ?_ ?_; (focus (omega))) | (refine exI hx ?_) | (refine apS ?_) | (first | refine stp ?_ | with_reducible refine condB (fun h => ?_) (fun h => ?_)))
              conv => whnf
              refine ⟨i + 1, hlt, by show kids.length - (i + 1) < kids.length - i; omega, ?_⟩
              rw [hnx]
              exact FgL.mk [0] rfl ⟨Wk.ptr rfl rfl, Wk.noref rfl, Wk.int rfl, trivial⟩ ⟨⟨rfl, rfl, rfl, rfl, BodyGe.pre (rest := []) rfl rfl⟩, trivial⟩ rfl
            | cons y r =>
              simp only [List.length_cons] at hlr
              repeat' ((conv => whnf); first | (with_reducible refine exI (q2 _) ?_) | (with_reducible refine ixJ i rfl ?_ ?_; (focus (omega))) | (refine exI hx ?_) | (refine apS ?_) | (first | refine stp ?_ | with_reducible refine condB (fun h => ?_) (fun h => ?_)))
              conv => whnf
              refine ⟨i + 1, hlt, by show kids.length - (i + 1) < kids.length - i; omega, ?_⟩
              rw [hnx]
              exact FgL.mk [0, 1] rfl ⟨Wk.ptr rfl rfl, Wk.slice rfl rfl rfl (Nat.le_refl _) (Nat.le_refl _) rfl, Wk.int rfl, trivial⟩ ⟨⟨rfl, rfl, rfl, rfl, BodyGe.pre (rest := []) rfl rfl⟩, ⟨rfl, rfl, rfl, rfl, BodyGe.pre (rest := []) (by simp [strC]) (strC_refs _)⟩, trivial⟩ rfl
          | cons z o =>
            have hcl := strC_cons z o
            simp only [List.length_cons] at hlo
            cases r with
            | nil =>
              repeat' ((conv => whnf); first | (with_reducible refine exI (q2 _) ?_) | (with_reducible refine ixJ i rfl ?_ ?_; (focus (omega))) | (refine exI hx ?_) | (refine apS ?_) | (first | refine stp ?_ | with_reducible refine condB (fun h => ?_) (fun h => ?_)))
              conv => whnf
              refine ⟨i + 1, hlt, by show kids.length - (i + 1) < kids.length - i; omega, ?_⟩
              rw [hnx, List.append_nil]
              exact FgL.mk [0, 1] rfl ⟨Wk.ptr rfl rfl, Wk.slice rfl rfl rfl (Nat.le_refl _) (Nat.le_refl _) rfl, Wk.int rfl, trivial⟩ ⟨⟨rfl, rfl, rfl, rfl, BodyGe.pre (rest := []) rfl rfl⟩, ⟨rfl, rfl, rfl, rfl, BodyGe.pre (rest := []) (by simp) (strC_refs _)⟩, trivial⟩ rfl
            | cons y r =>
              have hon := strs_one (y :: r)
              simp only [List.length_cons] at hlr
              repeat' ((conv => whnf); first | (with_reducible refine exI (q2 _) ?_) | (with_reducible refine ixJ i rfl ?_ ?_; (focus (omega))) | (refine exI hx ?_) | (refine apS ?_) | (first | refine stp ?_ | with_reducible refine condB (fun h => ?_) (fun h => ?_)))
              conv => whnf
              refine ⟨i + 1, hlt, by show kids.length - (i + 1) < kids.length - i; omega, ?_⟩
              rw [hnx]
              exact FgL.mk [0, 2] rfl ⟨Wk.ptr rfl rfl, Wk.slice rfl rfl (by simp; omega) (Nat.le_refl _) (by simp; omega) rfl, Wk.int rfl, trivial⟩ ⟨⟨rfl, rfl, rfl, rfl, BodyGe.pre (rest := []) rfl rfl⟩, ⟨rfl, rfl, rfl, rfl, BodyGe.pre (rest := []) (by simp [strC]) (strC_refs _)⟩, trivial⟩ rfl
        · have e1 : decide ((i : Int) < (kids.length : Int)) = false := by simpa using hlt
          have hi2 : i = kids.length := by have := hi; omega
          subst hi2
          rw [List.take_length] at hle ⊢
          generalize pre ++ nmL kids = o at *
          cases o with
          | nil =>
            repeat' ((conv => whnf); first | refine stp ?_ | with_reducible refine condB (fun h => ?_) (fun h => ?_))
            all_goals exact .inr ⟨rfl, _, rfl⟩
          | cons z o =>
            repeat' ((conv => whnf); first | refine stp ?_ | with_reducible refine condB (fun h => ?_) (fun h => ?_))
            conv => whnf
            exact ⟨_, frz_slice (b := 1) rfl (strC_cons z o) (strC_lit (z :: o)), .inl rfl⟩
      | false =>
        rw [hs2] at hpre
        simp only [Bool.not_false, Bool.and_true, cond_true] at hpre
        have e2 : (!(name == [])) = true := by rw [hs2]; rfl
        repeat' ((conv => whnf); first | (refine apS ?_) | (first | refine stp ?_ | with_reducible refine condB (fun h => ?_) (fun h => ?_)))
        conv => whnf
        refine ⟨Nat, (fun i => i ≤ kids.length), (fun i => [(1, .ptr 0 0), (3, grA 1 1 (pre ++ nmL (kids.take i))), (4, .int .i64 i)]), (fun i => ⟨true, 0, 0, .cells [.int .i64 op, .int .i64 num, .str name, .rs kids.length 4 (exC kids)] 68⟩ :: grB 1 strC 9 (pre ++ nmL (kids.take i))), (fun i => kids.length - i), ⟨0, Nat.zero_le _, ?_⟩, ?_⟩
        · subst hpre
          exact FgL.mk [0, 2] rfl ⟨Wk.ptr rfl rfl, Wk.slice rfl rfl rfl (Nat.le_refl _) (Nat.le_refl _) rfl, Wk.int rfl, trivial⟩ ⟨⟨rfl, rfl, rfl, rfl, BodyGe.pre (rest := []) rfl rfl⟩, ⟨rfl, rfl, rfl, rfl, BodyGe.pre (rest := []) rfl rfl⟩, trivial⟩ rfl
        intro i hi
        dsimp only
        have hle := nmL_take_len kids i
        by_cases hlt : i < kids.length
        · have e1 : decide ((i : Int) < (kids.length : Int)) = true := by simpa using hlt
          have hx := ex4 kids i hlt
          have hsz := sizeL_mem _ _ (get_mem hlt)
          have hlr := nmE_len kids[i]
          have q2 := q1 kids[i] (by omega) (okL_get hk.2 _ (get_mem hlt)) (by omega)
          have hnx : pre ++ nmL (kids.take (i + 1)) = (pre ++ nmL (kids.take i)) ++ nmE kids[i] := by rw [nmL_take kids i hlt, List.append_assoc]
          have hlo : (pre ++ nmL (kids.take i)).length ≤ 2097152 := by rw [List.length_append]; omega
          generalize pre ++ nmL (kids.take i) = o at *
          generalize hr : nmE kids[i] = r at *
          generalize kids[i] = x at *
          obtain ⟨xo, xn, xs, xk⟩ := x
          simp only [Ex.cells] at hx q2
          cases o with
          | nil =>
            cases r with
            | nil =>
              repeat' ((conv => whnf); first | (with_reducible refine exI (q2 _) ?_) | (with_reducible refine ixJ i rfl ?_ ?_; (focus (omega))) | (refine exI hx ?_) | (refine apS ?_) | (first | refine stp ?_ | with_reducible refine condB (fun h => ?_) (fun h => ?_)))
              conv => whnf
              refine ⟨i + 1, hlt, by show kids.length - (i + 1) < kids.length - i; omega, ?_⟩
              rw [hnx]
              exact FgL.mk [0] rfl ⟨Wk.ptr rfl rfl, Wk.noref rfl, Wk.int rfl, trivial⟩ ⟨⟨rfl, rfl, rfl, rfl, BodyGe.pre (rest := []) rfl rfl⟩, trivial⟩ rfl
            | cons y r =>
              simp only [List.length_cons] at hlr
              repeat' ((conv => whnf); first | (with_reducible refine exI (q2 _) ?_) | (with_reducible refine ixJ i rfl ?_ ?_; (focus (omega))) | (refine exI hx ?_) | (refine apS ?_) | (first | refine stp ?_ | with_reducible refine condB (fun h => ?_) (fun h => ?_)))
              conv => whnf
              refine ⟨i + 1, hlt, by show kids.length - (i + 1) < kids.length - i; omega, ?_⟩
              rw [hnx]
              exact FgL.mk [0, 1] rfl ⟨Wk.ptr rfl rfl, Wk.slice rfl rfl rfl (Nat.le_refl _) (Nat.le_refl _) rfl, Wk.int rfl, trivial⟩ ⟨⟨rfl, rfl, rfl, rfl, BodyGe.pre (rest := []) rfl rfl⟩, ⟨rfl, rfl, rfl, rfl, BodyGe.pre (rest := []) (by simp [strC]) (strC_refs _)⟩, trivial⟩ rfl
          | cons z o =>
            have hcl := strC_cons z o
            simp only [List.length_cons] at hlo
            cases r with
            | nil =>
              repeat' ((conv => whnf); first | (with_reducible refine exI (q2 _) ?_) | (with_reducible refine ixJ i rfl ?_ ?_; (focus (omega))) | (refine exI hx ?_) | (refine apS ?_) | (first | refine stp ?_ | with_reducible refine condB (fun h => ?_) (fun h => ?_)))
              conv => whnf
              refine ⟨i + 1, hlt, by show kids.length - (i + 1) < kids.length - i; omega, ?_⟩
              rw [hnx, List.append_nil]
              exact FgL.mk [0, 1] rfl ⟨Wk.ptr rfl rfl, Wk.slice rfl rfl rfl (Nat.le_refl _) (Nat.le_refl _) rfl, Wk.int rfl, trivial⟩ ⟨⟨rfl, rfl, rfl, rfl, BodyGe.pre (rest := []) rfl rfl⟩, ⟨rfl, rfl, rfl, rfl, BodyGe.pre (rest := []) (by simp) (strC_refs _)⟩, trivial⟩ rfl
            | cons y r =>
              have hon := strs_one (y :: r)
              simp only [List.length_cons] at hlr
              repeat' ((conv => whnf); first | (with_reducible refine exI (q2 _) ?_) | (with_reducible refine ixJ i rfl ?_ ?_; (focus (omega))) | (refine exI hx ?_) | (refine apS ?_) | (first | refine stp ?_ | with_reducible refine condB (fun h => ?_) (fun h => ?_)))
              conv => whnf
              refine ⟨i + 1, hlt, by show kids.length - (i + 1) < kids.length - i; omega, ?_⟩
              rw [hnx]
              exact FgL.mk [0, 2] rfl ⟨Wk.ptr rfl rfl, Wk.slice rfl rfl (by simp; omega) (Nat.le_refl _) (by simp; omega) rfl, Wk.int rfl, trivial⟩ ⟨⟨rfl, rfl, rfl, rfl, BodyGe.pre (rest := []) rfl rfl⟩, ⟨rfl, rfl, rfl, rfl, BodyGe.pre (rest := []) (by simp [strC]) (strC_refs _)⟩, trivial⟩ rfl
        · have e1 : decide ((i : Int) < (kids.length : Int)) = false := by simpa using hlt
          have hi2 : i = kids.length := by have := hi; omega
          subst hi2
          rw [List.take_length] at hle ⊢
          generalize pre ++ nmL kids = o at *
          cases o with
          | nil =>
            repeat' ((conv => whnf); first | refine stp ?_ | with_reducible refine condB (fun h => ?_) (fun h => ?_))
            all_goals exact .inr ⟨rfl, _, rfl⟩
          | cons z o =>
            repeat' ((conv => whnf); first | refine stp ?_ | with_reducible refine condB (fun h => ?_) (fun h => ?_))
            conv => whnf
            exact ⟨_, frz_slice (b := 1) rfl (strC_cons z o) (strC_lit (z :: o)), .inl rfl⟩
end Go.Proofs.YtblnhcafobifgaaGreatDoor.lex
end


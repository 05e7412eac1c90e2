/-
  Texts of this proof, one behind the other (part 6).
-/
import Derived.Test.YtajhailaofchlaaDoorPack5
import Derived.Test.YtajhailaofchlaaDoorRows
import Derived.KernelRfl
import Derived.Sort.KeysCollected
import Derived.Maps.OwnSet

/-
  Words: 'lex.Word', 'cantileverref02.Word', in whatever seat (functions by their names).
-/
section
set_option linter.unusedVariables false
set_option linter.unusedSimpArgs false
namespace Go.Proofs.YtajhailaofchlaaDoor.lex
open Go.Abs Go.RowKit
set_option maxRecDepth 100000
set_option maxHeartbeats 4000000
theorem follows : Tryd.prog.follows .mixedOrders = true := by kernel_rfl
theorem noNumAll : (Tryd.prog.funcs.toList.all fun fn => !(fn.name == "runtime.NumGoroutine")) = true := by kernel_rfl
theorem noNum : NoNum Tryd.prog := fun g fn h => by
  have h1 := List.all_eq_true.1 noNumAll fn (Array.mem_toList_iff.2 (Array.mem_of_getElem? h))
  simpa using h1
variable {gl : Glob}
theorem none_sound : OrcSound Tryd.prog gl (orcV fun _ _ => none) := orcV_sound fun _ _ _ h => by cases h

def letB (n : Int) : Bool := decide (97 ≤ n) && decide (n ≤ 122) || decide (65 ≤ n) && decide (n ≤ 90)
def digB (n : Int) : Bool := decide (48 ≤ n) && decide (n ≤ 57)
theorem let_ok (n : Int) : ValOK Tryd.prog gl 95 [.int .u8 n] (.bool (letB n)) := by
  refine fn_val follows noNum none_sound Tryd.func95 rfl ?_
  repeat' ((conv => whnf); first | refine stp ?_ | with_reducible refine condB (fun h => ?_) (fun h => ?_))
  all_goals (try simp_all [resOf, letB])
  all_goals omega
theorem dig_ok (n : Int) : ValOK Tryd.prog gl 98 [.int .u8 n] (.bool (digB n)) := by
  refine fn_val follows noNum none_sound Tryd.func98 rfl ?_
  repeat' ((conv => whnf); first | refine stp ?_ | with_reducible refine condB (fun h => ?_) (fun h => ?_))
  all_goals (try simp_all [resOf, digB])
  all_goals omega
theorem letR_ok (n : Int) : ValOK Tryd.prog gl 88 [.int .u8 n] (.bool (letB n)) := by
  refine fn_val follows noNum none_sound Tryd.func88 rfl ?_
  repeat' ((conv => whnf); first | refine stp ?_ | with_reducible refine condB (fun h => ?_) (fun h => ?_))
  all_goals (try simp_all [resOf, letB])
  all_goals omega
theorem digR_ok (n : Int) : ValOK Tryd.prog gl 89 [.int .u8 n] (.bool (digB n)) := by
  refine fn_val follows noNum none_sound Tryd.func89 rfl ?_
  repeat' ((conv => whnf); first | refine stp ?_ | with_reducible refine condB (fun h => ?_) (fun h => ?_))
  all_goals (try simp_all [resOf, digB])
  all_goals omega

def F1 (f : Nat) (xs : List AV) : Option AV := match f with
  | 95 => match xs with | [.int .u8 n] => some (.bool (letB n)) | _ => none
  | 98 => match xs with | [.int .u8 n] => some (.bool (digB n)) | _ => none
  | 88 => match xs with | [.int .u8 n] => some (.bool (letB n)) | _ => none
  | 89 => match xs with | [.int .u8 n] => some (.bool (digB n)) | _ => none
  | _ => none
theorem F1_val {f : Nat} {xs : List AV} {r : AV} (h : F1 f xs = some r) : plain r = true ∧ ValOK Tryd.prog gl f xs r := by
  unfold F1 at h
  split at h <;> try (cases h; done)
  all_goals (split at h <;> cases h)
  · exact ⟨rfl, let_ok _⟩
  · exact ⟨rfl, dig_ok _⟩
  · exact ⟨rfl, letR_ok _⟩
  · exact ⟨rfl, digR_ok _⟩
theorem F1_sound : OrcSound Tryd.prog gl (orcZ F1) := orcZ_sound fun f xs r h => F1_val h
def worB (n : Int) : Bool := letB n || digB n || n == 95
theorem word1_ok (n : Int) : ValOK Tryd.prog gl 97 [.int .u8 n] (.bool (worB n)) := by
  refine fn_val follows noNum F1_sound Tryd.func97 rfl ?_
  repeat' ((conv => whnf); first | refine stp ?_ | with_reducible refine condB (fun h => ?_) (fun h => ?_))
  all_goals (try simp_all [resOf, worB])
def F2 (f : Nat) (xs : List AV) : Option AV := match f with
  | 97 => match xs with | [.int .u8 n] => some (.bool (worB n)) | _ => none
  | f => F1 f xs
theorem F2_val {f : Nat} {xs : List AV} {r : AV} (h : F2 f xs = some r) : plain r = true ∧ ValOK Tryd.prog gl f xs r := by
  unfold F2 at h
  split at h
  · split at h <;> cases h
    exact ⟨rfl, word1_ok _⟩
  · exact F1_val h
theorem F2_sound : OrcSound Tryd.prog gl (orcZ F2) := orcZ_sound fun f xs r h => F2_val h

/-- How many bytes at the beginning are such. -/
def spanN (p : Int → Bool) (s : List UInt8) : Nat := (s.takeWhile fun c => p c.toNat).length

theorem spanN_true {p : Int → Bool} {c : UInt8} (l : List UInt8) (h : p c.toNat = true) : spanN p (c :: l) = spanN p l + 1 := by simp [spanN, h]
theorem spanN_false {p : Int → Bool} {c : UInt8} (l : List UInt8) (h : p c.toNat = false) : spanN p (c :: l) = 0 := by simp [spanN, h]
theorem span_ok (g : Nat) (p : Int → Bool) (hF : ∀ n, F2 g [.int .u8 n] = some (.bool (p n))) (hb : hasBody Tryd.prog g = true) (s : List UInt8) (hs : s.length ≤ 9223372036854775807) :
    ValOK Tryd.prog gl 96 [.str s, .func (.func g) [] []] (.int .i64 (spanN p s)) := by
  refine fn_val follows noNum F2_sound Tryd.func96 rfl ?_
  conv => whnf
  refine ⟨Nat, (fun k => k ≤ s.length ∧ spanN p s = k + spanN p (s.drop k)), (fun k => [(0, .str s), (1, .func (.func g) [] []), (5, .int .i64 k)]), (fun _ => []), (fun k => s.length - k), ⟨0, ⟨Nat.zero_le _, by simp⟩, ?_⟩, ?_⟩
  · refine FgL.mk0 rfl ?_
    refine And.intro (Wk.noref rfl) ?_
    refine And.intro (Wk.noref rfl) ?_
    refine And.intro (Wk.noref rfl) ?_
    trivial
  · intro k ⟨hk, hsp⟩
    by_cases hlt : k < s.length
    · have e1 : decide ((k : Int) < (s.length : Int)) = true := by simpa using hlt
      have hc : s[k]? = some s[k] := by simp [hlt]
      have hd : s.drop k = s[k] :: s.drop (k + 1) := List.drop_eq_getElem_cons hlt
      cases hp : p s[k].toNat with
      | true =>
        repeat' ((conv => whnf); first | with_reducible refine ixS _ rfl hc ?_ | with_reducible refine exI (callZ hb rfl (hF _)) ?_ | (first | refine stp ?_ | with_reducible refine condB (fun h => ?_) (fun h => ?_)))
        (conv => whnf)
        have hn := spanN_true (s.drop (k + 1)) hp
        rw [← hd] at hn
        exact ⟨k + 1, ⟨hlt, by omega⟩, by show s.length - (k + 1) < s.length - k; omega, FgL.mk0 rfl ⟨Wk.noref rfl, Wk.noref rfl, Wk.int rfl, trivial⟩⟩
      | false =>
        repeat' ((conv => whnf); first | with_reducible refine ixS _ rfl hc ?_ | with_reducible refine exI (callZ hb rfl (hF _)) ?_ | (first | refine stp ?_ | with_reducible refine condB (fun h => ?_) (fun h => ?_)))
        have hn := spanN_false (s.drop (k + 1)) hp
        rw [← hd] at hn
        rw [hsp, hn]; rfl
    · have e1 : decide ((k : Int) < (s.length : Int)) = false := by simpa using hlt
      have hk' : k = s.length := by omega
      repeat' ((conv => whnf); first | refine stp ?_ | with_reducible refine condB (fun h => ?_) (fun h => ?_))
      rw [hsp, hk']; simp [resOf, spanN]
theorem spanN_le (p : Int → Bool) (s : List UInt8) : spanN p s ≤ s.length := by
  unfold spanN; exact (List.takeWhile_prefix _).length_le
theorem spanN_at {p : Int → Bool} {s : List UInt8} {e : Nat} (h : e < s.length) : spanN p (s.drop e) = if p s[e].toNat then spanN p (s.drop (e + 1)) + 1 else 0 := by
  rw [List.drop_eq_getElem_cons h]
  cases hp : p s[e].toNat with
  | true => rw [spanN_true _ hp]; rfl
  | false => rw [spanN_false _ hp]; rfl
theorem spanN_end {p : Int → Bool} {s : List UInt8} {e : Nat} (h : ¬ e < s.length) : spanN p (s.drop e) = 0 := by
  rw [List.drop_eq_nil_of_le (by omega)]; rfl
theorem u8_eq (c : UInt8) (n : Nat) (h : n < 256) : ((c.toNat : Int) == (n : Int)) = (c == UInt8.ofNat n) := by
  by_cases e : c = UInt8.ofNat n
  · subst e; simp; omega
  · have : c.toNat ≠ n := fun e' => e (by apply UInt8.toNat_inj.1; rw [e']; simp [Nat.mod_eq_of_lt h])
    rw [beq_eq_false_iff_ne.2 e, beq_eq_false_iff_ne]; omega


def F3 (f : Nat) (xs : List AV) : Option AV := match f with
  | 96 => match xs with
    | [.str s, .func (.func 97) [] []] => if s.length ≤ 9223372036854775807 then some (.int .i64 (spanN worB s)) else none
    | _ => none
  | f => F2 f xs
theorem F3_val {f : Nat} {xs : List AV} {r : AV} (h : F3 f xs = some r) : plain r = true ∧ ValOK Tryd.prog gl f xs r := by
  unfold F3 at h
  split at h
  · split at h <;> try (cases h; done)
    split at h <;> cases h
    rename_i hs
    exact ⟨rfl, span_ok 97 worB (fun _ => rfl) (by kernel_rfl) _ hs⟩
  · exact F2_val h
theorem F3_sound : OrcSound Tryd.prog gl (orcZ F3) := orcZ_sound fun f xs r h => F3_val h
/-- How long the word is with which a text begins. -/
def wordN : List UInt8 → Nat
  | [] => 0
  | c :: s => if letB c.toNat then spanN worB (c :: s) else 0

theorem word_ok (s : List UInt8) (hs : s.length ≤ 9223372036854775807) : ValOK Tryd.prog gl 86 [.str s] (.int .i64 (wordN s)) := by
  match s with
  | [] =>
    refine fn_val follows noNum F3_sound Tryd.func86 rfl ?_
    repeat' ((conv => whnf); first | refine stp ?_ | with_reducible refine condB (fun h => ?_) (fun h => ?_))
    all_goals (try simp_all [resOf, wordN])
  | c :: s =>
    have h1 : ((c :: s) == []) = false := by simp
    have h2 : (c :: s)[0]? = some c := rfl
    refine fn_val follows noNum F3_sound Tryd.func86 rfl ?_
    repeat' ((conv => whnf); first | with_reducible refine ixS 0 rfl h2 ?_ | (first | refine stp ?_ | with_reducible refine condB (fun h => ?_) (fun h => ?_)))
    all_goals (try (simp_all [resOf, wordN]; done))
/-- The words that are keys. -/
def keysL : List (List UInt8) := [[115, 104, 97, 114, 101, 100], [112, 108, 97, 105, 110], [116, 104, 114, 101, 97, 100], [105, 102], [101, 108, 115, 101], [119, 104, 105, 108, 101], [108, 111, 97, 100], [115, 116, 111, 114, 101], [99, 97, 115], [97, 100, 100], [115, 119, 97, 112], [102, 101, 110, 99, 101], [97, 115, 115, 117, 109, 101], [97, 115, 115, 101, 114, 116], [110, 97], [114, 108, 120], [97, 99, 113], [114, 101, 108], [97, 114], [115, 99]]
def entsF : Nat → List (List UInt8) → List (AV × AV × Nat)
  | _, [] => []
  | n, k :: l => (.str k, .agg [], n) :: entsF (n + 1) l
def keysB : ABody := .map (entsF 0 keysL) 20

theorem find_ok (x : List UInt8) : ∀ (l : List (List UInt8)) (n i : Nat), ∃ o, aFind .string (.str x) (entsF n l) i = some o ∧ o.isSome = l.contains x ∧ ∀ p, o = some p → p.2 = .agg []
  | [], n, i => ⟨none, rfl, by simp, fun p h => by cases h⟩
  | k :: l, n, i => by
    obtain ⟨o, h1, h2, h3⟩ := find_ok x l (n + 1) (i + 1)
    by_cases e : x = k
    · subst e
      exact ⟨some (i, .agg []), by simp [entsF, aFind, aSame], by simp, fun p h => by cases h; rfl⟩
    · refine ⟨o, ?_, by simp [h2, e], h3⟩
      have : (x == k) = false := by simpa using e
      simp [entsF, aFind, aSame, this, h1]
theorem kdK : keyDesc Tryd.prog 78 = some (.string, 79) := by kernel_rfl
theorem look_ok' {H : AHeap} {b : Nat} (x : List UInt8) (h : mapEs H (.map b) = some (entsF 0 keysL)) : aLookup Tryd.prog 78 (.map b) (.str x) true H = some (.tuple [.agg [], .bool (keysL.contains x)]) := by
  obtain ⟨o, h1, h2, h3⟩ := find_ok x keysL 0 0
  have hz : tzero Tryd.prog 79 = some (.agg []) := by kernel_rfl
  simp only [aLookup, kdK, h, h1, ← h2]
  cases o with
  | none => simp [hz]
  | some p => have := h3 p rfl; obtain ⟨j, v⟩ := p; subst this; simp
def wordR (s : List UInt8) : AV := if s ≠ [] ∧ wordN s = s.length then .tuple [.int .i64 (if keysL.contains s then 2 else 1), .bool true] else .tuple [.int .i64 0, .bool false]
theorem plain_wordR (s : List UInt8) : plain (wordR s) = true := by unfold wordR; split <;> rfl
def F4 (f : Nat) (xs : List AV) : Option AV := match f with
  | 86 => match xs with | [.str s] => if s.length ≤ 9223372036854775807 then some (.int .i64 (wordN s)) else none | _ => none
  | f => F3 f xs
theorem F4_val {f : Nat} {xs : List AV} {r : AV} (h : F4 f xs = some r) : plain r = true ∧ ValOK Tryd.prog gl f xs r := by
  unfold F4 at h
  split at h
  · split at h <;> try (cases h; done)
    split at h <;> cases h
    rename_i hs; exact ⟨rfl, word_ok _ hs⟩
  · exact F3_val h
theorem F4_sound : OrcSound Tryd.prog gl (orcZ F4) := orcZ_sound fun f xs r h => F4_val h
section
attribute [local irreducible] wordN
theorem wordP_ok (s : List UInt8) (hs : s.length ≤ 9223372036854775807) : ValOK Tryd.prog gl 74 [.str s] (wordR s) := by
  have e2 : F4 86 [.str s] = some (.int .i64 (wordN s)) := by simp only [F4]; rw [if_pos (by omega)]
  have hb : hasBody Tryd.prog 86 = true := by kernel_rfl
  refine fn_valI (fun g => Nat.beq g 86) 2 follows noNum F4_sound Tryd.func74 rfl ?_
  by_cases h0 : s = []
  · have e1 : (s == []) = true := by simpa using h0
    repeat' ((conv => whnf); (first | refine stp ?_ | with_reducible refine condB (fun h => ?_) (fun h => ?_)))
    unfold wordR; rw [if_neg (by simp [h0])]
  · have e1 : (s == []) = false := by simpa using h0
    by_cases hw : wordN s = s.length
    · have e3 : ((wordN s : Int) != (s.length : Int)) = false := by rw [hw]; simp
      have eR : wordR s = .tuple [.int .i64 (if keysL.contains s then 2 else 1), .bool true] := by unfold wordR; rw [if_pos ⟨h0, hw⟩]
      rw [eR]
      cases hc : keysL.contains s with
      | true =>
        repeat' ((conv => whnf); first | (with_reducible refine exI (callZ hb rfl e2) ?_) | (with_reducible refine exI (look_ok' _ ?_) ?_; (focus rfl)) | (first | refine stp ?_ | with_reducible refine condB (fun h => ?_) (fun h => ?_)))
        conv => whnf
        refine exI (look_ok' _ ?_) ?_
        · rfl
        rw [hc]
        repeat' ((conv => whnf); (first | refine stp ?_ | with_reducible refine condB (fun h => ?_) (fun h => ?_)))
        rfl
      | false =>
        repeat' ((conv => whnf); first | (with_reducible refine exI (callZ hb rfl e2) ?_) | (with_reducible refine exI (look_ok' _ ?_) ?_; (focus rfl)) | (first | refine stp ?_ | with_reducible refine condB (fun h => ?_) (fun h => ?_)))
        conv => whnf
        refine exI (look_ok' _ ?_) ?_
        · rfl
        rw [hc]
        repeat' ((conv => whnf); (first | refine stp ?_ | with_reducible refine condB (fun h => ?_) (fun h => ?_)))
        rfl
    · have e3 : ((wordN s : Int) != (s.length : Int)) = true := by simp; omega
      repeat' ((conv => whnf); first | (with_reducible refine exI (callZ hb rfl e2) ?_) | (first | refine stp ?_ | with_reducible refine condB (fun h => ?_) (fun h => ?_)))
      unfold wordR; rw [if_neg (fun h => hw h.2)]
end
theorem kind_ok (x : List UInt8) : ValOK Tryd.prog gl 90 [.str x] (.int .i64 (if keysL.contains x then 2 else 1)) := by
  refine fn_valI (fun _ => false) 2 follows noNum F1_sound Tryd.func90 rfl ?_
  repeat' ((conv => whnf); first | refine stp ?_ | with_reducible refine condB (fun h => ?_) (fun h => ?_))
  conv => whnf
  refine ⟨Nat, (fun i => i ≤ 20 ∧ keysL.contains x = (keysL.drop i).contains x), (fun i => [(0, .str x), (3, .slice 0 0 20 20 1), (4, .int .i64 i)]), (fun _ => [⟨true, 0, 0, .cells (keysL.map AV.str) 9⟩]), (fun i => 20 - i), ⟨0, ⟨by omega, rfl⟩, ?_⟩, ?_⟩
  · refine FgL.mk [0] rfl ?_ ?_ rfl
    · exact ⟨Wk.noref rfl, Wk.slice rfl rfl rfl (Nat.le_refl _) (Nat.le_refl _) rfl, Wk.int rfl, trivial⟩
    · exact ⟨⟨rfl, rfl, rfl, rfl, BodyGe.pre (rest := []) rfl rfl⟩, trivial⟩
  · intro i ⟨hi, hs⟩
    by_cases hlt : i < 20
    · have e1 : decide ((i : Int) < 20) = true := by simp; omega
      have hlk : i < keysL.length := hlt
      have hd : keysL.drop i = keysL[i] :: keysL.drop (i + 1) := List.drop_eq_getElem_cons hlk
      repeat' ((conv => whnf); first | (with_reducible refine exI (tk1_map AV.str keysL i hlk ?_) ?_; (focus (omega))) | (first | refine stp ?_ | with_reducible refine condB (fun h => ?_) (fun h => ?_)))
      · have hc : keysL.contains x = true := by rw [hs, hd, List.contains_cons, eq_of_beq h]; simp
        rw [hc]; rfl
      · conv => whnf
        have hx : (x == keysL[i]) = false := beq_eq_false_iff_ne.2 (fun e => by rw [← e] at h; simp at h)
        exact ⟨i + 1, ⟨hlt, by rw [hs, hd, List.contains_cons, hx, Bool.false_or]⟩, by show 20 - (i + 1) < 20 - i; omega, FgL.mk [0] rfl ⟨Wk.noref rfl, Wk.slice rfl rfl rfl (Nat.le_refl _) (Nat.le_refl _) rfl, Wk.int rfl, trivial⟩ ⟨⟨rfl, rfl, rfl, rfl, BodyGe.pre (rest := []) rfl rfl⟩, trivial⟩ rfl⟩
    · have e1 : decide ((i : Int) < 20) = false := by simp; omega
      have hi' : i = 20 := by omega
      subst hi'
      repeat' ((conv => whnf); first | refine stp ?_ | with_reducible refine condB (fun h => ?_) (fun h => ?_))
      have hc : keysL.contains x = false := by rw [hs]; rfl
      rw [hc]; rfl

def F5 (f : Nat) (xs : List AV) : Option AV := match f with
  | 90 => match xs with | [.str x] => some (.int .i64 (if keysL.contains x then 2 else 1)) | _ => none
  | f => F1 f xs
theorem F5_val {f : Nat} {xs : List AV} {r : AV} (h : F5 f xs = some r) : plain r = true ∧ ValOK Tryd.prog gl f xs r := by
  unfold F5 at h
  split at h
  · split at h <;> cases h
    exact ⟨rfl, kind_ok _⟩
  · exact F1_val h
theorem F5_sound : OrcSound Tryd.prog gl (orcZ F5) := orcZ_sound fun f xs r h => F5_val h
theorem wordN_at0 {s : List UInt8} (h : 0 < s.length) : wordN s = if letB s[0].toNat then spanN worB s else 0 := by
  cases s with
  | nil => simp at h
  | cons c t => rfl
def wInv (s : List UInt8) (i : Nat) : Prop := i ≤ s.length ∧ (i = 0 ∨ (0 < i ∧ wordN s = spanN worB s ∧ spanN worB s = i + spanN worB (s.drop i)))
theorem wInv_step {s : List UInt8} {i : Nat} (h : wInv s i) (hlt : i < s.length) (h2 : letB s[i].toNat = true ∨ (i ≠ 0 ∧ worB s[i].toNat = true)) : wInv s (i + 1) := by
  have hat := spanN_at (p := worB) hlt
  have hw : worB s[i].toNat = true := by rcases h2 with h2 | h2; simp [worB, h2]; exact h2.2
  rw [hw, if_pos rfl] at hat
  refine ⟨hlt, .inr ⟨by omega, ?_, ?_⟩⟩
  · rcases h.2 with h0 | h0
    · subst h0
      have : letB s[0].toNat = true := by rcases h2 with h2 | h2; exact h2; exact absurd rfl h2.1
      rw [wordN_at0 (by omega), this, if_pos rfl]
    · exact h0.2.1
  · rcases h.2 with h0 | h0
    · subst h0; rw [List.drop_zero] at hat; omega
    · omega
theorem wInv_bad {s : List UInt8} {i : Nat} (h : wInv s i) (hlt : i < s.length) (h1 : letB s[i].toNat = false) (h2 : i = 0 ∨ worB s[i].toNat = false) : wordR s = .tuple [.int .i64 0, .bool false] := by
  unfold wordR
  rw [if_neg]
  rintro ⟨_, h4⟩
  rcases h.2 with h0 | h0
  · subst h0
    rw [wordN_at0 (by omega), h1] at h4
    simp at h4; omega
  · have hat := spanN_at (p := worB) hlt
    rcases h2 with h2 | h2
    · omega
    · rw [h2, if_neg (by decide)] at hat; omega
theorem wInv_end {s : List UInt8} (h : wInv s s.length) (h0 : s ≠ []) : wordR s = .tuple [.int .i64 (if keysL.contains s then 2 else 1), .bool true] := by
  have hl : 0 < s.length := List.length_pos_iff.2 h0
  unfold wordR
  rw [if_pos]
  refine ⟨h0, ?_⟩
  rcases h.2 with h1 | h1
  · omega
  · have := spanN_end (p := worB) (s := s) (e := s.length) (by omega); omega
theorem wordD_ok (s : List UInt8) (hs : s.length ≤ 9223372036854775807) : ValOK Tryd.prog gl 75 [.str s] (wordR s) := by
  refine fn_val follows noNum F5_sound Tryd.func75 rfl ?_
  conv => whnf
  repeat' ((conv => whnf); first | refine stp ?_ | with_reducible refine condB (fun h => ?_) (fun h => ?_))
  conv => whnf
  refine ⟨Nat, wInv s, (fun i => [(0, .str s), (4, .int .i64 i)]), (fun _ => []), (fun i => s.length - i), ⟨0, ⟨Nat.zero_le _, .inl rfl⟩, FgL.mk0 rfl ⟨Wk.noref rfl, Wk.int rfl, trivial⟩⟩, ?_⟩
  intro i hI
  have hi := hI.1
  by_cases hlt : i < s.length
  · have e1 : decide ((i : Int) < (s.length : Int)) = true := by simpa using hlt
    have hx : s[i]? = some s[i] := by simp [hlt]
    have u1 := u8_eq s[i] 95 (by decide)
    cases hl : letB s[i].toNat with
    | true =>
      repeat' ((conv => whnf); first | with_reducible refine ixS _ rfl hx ?_ | (first | refine stp ?_ | with_reducible refine condB (fun h => ?_) (fun h => ?_)))
      conv => whnf
      exact ⟨i + 1, wInv_step hI hlt (.inl hl), by show s.length - (i + 1) < s.length - i; omega, FgL.mk0 rfl ⟨Wk.noref rfl, Wk.int rfl, trivial⟩⟩
    | false =>
      by_cases h0 : i = 0
      · have e2 : ((i : Int) == 0) = true := by simp [h0]
        repeat' ((conv => whnf); first | with_reducible refine ixS _ rfl hx ?_ | (first | refine stp ?_ | with_reducible refine condB (fun h => ?_) (fun h => ?_)))
        exact (wInv_bad hI hlt hl (.inl h0)).symm
      · have e2 : ((i : Int) == 0) = false := by simp [h0]
        cases hw : worB s[i].toNat with
        | true =>
          repeat' ((conv => whnf); first | with_reducible refine ixS _ rfl hx ?_ | (first | refine stp ?_ | with_reducible refine condB (fun h => ?_) (fun h => ?_)))
          all_goals (first | (exfalso; simp_all [worB]; done) | skip)
          all_goals (conv => whnf)
          all_goals exact ⟨i + 1, wInv_step hI hlt (.inr ⟨h0, hw⟩), by show s.length - (i + 1) < s.length - i; omega, FgL.mk0 rfl ⟨Wk.noref rfl, Wk.int rfl, trivial⟩⟩
        | false =>
          repeat' ((conv => whnf); first | with_reducible refine ixS _ rfl hx ?_ | (first | refine stp ?_ | with_reducible refine condB (fun h => ?_) (fun h => ?_)))
          all_goals (first | (exfalso; simp_all [worB]; done) | skip)
          all_goals exact (wInv_bad hI hlt hl (.inr hw)).symm
  · have e1 : decide ((i : Int) < (s.length : Int)) = false := by simpa using hlt
    have hi2 : i = s.length := by omega
    subst hi2
    by_cases h0 : s = []
    · have e2 : (s == []) = true := by simpa using h0
      repeat' ((conv => whnf); first | refine stp ?_ | with_reducible refine condB (fun h => ?_) (fun h => ?_))
      unfold wordR; rw [if_neg (fun h => h.1 h0)]
    · have e2 : (s == []) = false := by simpa using h0
      repeat' ((conv => whnf); first | refine stp ?_ | with_reducible refine condB (fun h => ?_) (fun h => ?_))
      rw [wInv_end hI h0]

end Go.Proofs.YtajhailaofchlaaDoor.lex
end

/-
  A verified abstract interpreter, part 44: runs in which some functions are answered by a contract; slices.Sorted of a map's keys, handed back to be read alone.
-/
section
set_option linter.unusedSimpArgs false
set_option linter.unusedVariables false
namespace Go.Abs
open Go.RowKit Go.Maps
open Go.Proofs (encStr)

/-! runs with contracts -/
/-- As 'runsT'; where isO says so, the contract alone is asked. -/
def runsG (P : Program) (gl : Glob) (isO : Nat → List AV → Bool) (tbl : Orc) (fuel : Nat) : Nat → Orc
  | 0 => fun _ _ _ => none
  | n + 1 => fun f args H => if isO f args = true then tbl f args H else afunc P gl (runsG P gl isO tbl fuel n) fuel f args H

theorem runsG_sound {P : Program} {gl : Glob} {isO : Nat → List AV → Bool} {tbl : Orc} {fuel : Nat} (hm : P.follows .mixedOrders = true) (hn : NoNum P) (ht : OrcSound P gl tbl) : ∀ n, OrcSound P gl (runsG P gl isO tbl fuel n)
  | 0 => by intro f args H r H' h; simp [runsG] at h
  | n + 1 => by
    have := afunc_sound (fuel := fuel) hm hn (runsG_sound (fuel := fuel) (isO := isO) hm hn ht n)
    intro f args H r H' h
    simp only [runsG] at h
    split at h
    · exact ht f args H r H' h
    · exact this f args H r H' h

noncomputable def frunG (P : Program) (gl : Glob) (isO : Nat → List AV → Bool) (fo : FOrc) (fuel n : Nat) : FOrc :=
  Nat.rec (motive := fun _ => FOrc) (fun _ _ _ => none) (fun _ ih f args T => iff' (isO f args) (fo f args T) (Option.rec none (fun run => run ih args T) (fcomp P gl fuel f))) n

section
variable {P : Program} {gl : Glob} {fuel : Nat}
theorem frunG_ok {isO : Nat → List AV → Bool} {fo : FOrc} {tbl : Orc} (hs : OrcSim fo tbl) : ∀ m, OrcSim (frunG P gl isO fo fuel m) (runsG P gl isO tbl fuel m)
  | 0 => by intro f args T r T' h; cases h
  | m + 1 => by
    intro f args T r T' h H hR
    rcases iff_some2 (show iff' (isO f args) (fo f args T) (Option.rec none (fun run => run (frunG P gl isO fo fuel m) args T) (fcomp P gl fuel f)) = some (r, T') from h) with ⟨h1, h2⟩ | ⟨h1, h2⟩
    · obtain ⟨H', g1, g2⟩ := hs f args T r T' h2 H hR
      exact ⟨H', by simp [runsG, h1, g1], g2⟩
    · cases hf : fcomp P gl fuel f with
      | none => rw [hf] at h2; cases h2
      | some run =>
        rw [hf] at h2
        obtain ⟨H', g1, g2⟩ := fcomp_ok (frunG_ok hs m) hf hR h2
        exact ⟨H', by simp [runsG, h1, g1], g2⟩

/-- What the kernel ran with contracts is known. -/
theorem known_trueG (hm : P.follows .mixedOrders = true) (hn : NoNum P) {isO : Nat → List AV → Bool} {fo : FOrc} {tbl : Orc} (hs : OrcSim fo tbl) (ht : OrcSound P gl tbl)
    {l : List (Nat × List AV)} (hl : OrcSound P gl (tblO l)) {m f : Nat} {az : List AV} (hrefs : refsL az [] = []) (h : saysTrue (frunG P gl isO fo fuel m f az TH.empty) = true) : OrcSound P gl (tblO ((f, az) :: l)) := by
  obtain ⟨T', h'⟩ := saysTrue_spec h
  obtain ⟨H', h1, _⟩ := frunG_ok hs m f az TH.empty _ T' h' [] Rep.empty
  exact tblO_cons hl hrefs (runsG_sound hm hn ht m) h1

/-- What is known to be true, as a contract for the quick run. -/
def ftblO (l : List (Nat × List AV)) : FOrc := fun f args T => if memA f args l then some (.bool true, T) else none
theorem ftblO_sim (l : List (Nat × List AV)) : OrcSim (ftblO l) (tblO l) := by
  intro f args T r T' h H hR
  simp only [ftblO] at h
  split at h <;> simp at h
  obtain ⟨rfl, rfl⟩ := h
  exact ⟨H, by simp [tblO, *], hR⟩

/-- One contract, then the other. -/
def orcThen (a b : Orc) : Orc := fun f args H => match a f args H with | some r => some r | none => b f args H
def forcThen (g : Nat → List AV → Bool) (a b : FOrc) : FOrc := fun f args T => if g f args = true then a f args T else b f args T
def orcIf (g : Nat → List AV → Bool) (a b : Orc) : Orc := fun f args H => if g f args = true then a f args H else b f args H
theorem orcIf_sound {g : Nat → List AV → Bool} {a b : Orc} (ha : OrcSound P gl a) (hb : OrcSound P gl b) : OrcSound P gl (orcIf g a b) := by
  intro f args H r H' h
  simp only [orcIf] at h
  split at h
  · exact ha f args H r H' h
  · exact hb f args H r H' h
theorem forcThen_sim {g : Nat → List AV → Bool} {fa fb : FOrc} {a b : Orc} (ha : OrcSim fa a) (hb : OrcSim fb b) : OrcSim (forcThen g fa fb) (orcIf g a b) := by
  intro f args T r T' h H hR
  simp only [forcThen] at h
  split at h
  · obtain ⟨H', h1, h2⟩ := ha f args T r T' h H hR
    exact ⟨H', by simp [orcIf, *], h2⟩
  · obtain ⟨H', h1, h2⟩ := hb f args T r T' h H hR
    exact ⟨H', by simp [orcIf, *], h2⟩
end

/-! texts in order -/
def insB (x : List UInt8) : List (List UInt8) → List (List UInt8)
  | [] => [x]
  | y :: l => if leB x y = true then x :: y :: l else y :: insB x l
/-- Texts, rising. -/
def sortB : List (List UInt8) → List (List UInt8)
  | [] => []
  | x :: l => insB x (sortB l)
theorem insB_perm (x : List UInt8) : ∀ l : List (List UInt8), (insB x l).Perm (x :: l)
  | [] => .refl _
  | y :: l => by
    simp only [insB]
    split
    · exact .refl _
    · exact ((insB_perm x l).cons y).trans (.swap x y l)
theorem sortB_perm : ∀ l : List (List UInt8), (sortB l).Perm l
  | [] => .refl _
  | x :: l => (insB_perm x _).trans ((sortB_perm l).cons x)
theorem leB_total (a b : List UInt8) : leB a b = true ∨ leB b a = true := by
  simp only [leB, decide_eq_true_eq]
  exact List.le_total a b
theorem leB_trans {a b c : List UInt8} (h : leB a b = true) (h' : leB b c = true) : leB a c = true := by
  simp only [leB, decide_eq_true_eq] at *
  exact List.le_trans h h'
theorem leB_anti {a b : List UInt8} (h : leB a b = true) (h' : leB b a = true) : a = b := by
  simp only [leB, decide_eq_true_eq] at *
  exact List.le_antisymm h h'
theorem insB_sorted (x : List UInt8) : ∀ l : List (List UInt8), l.Pairwise (fun a b => leB a b = true) → (insB x l).Pairwise (fun a b => leB a b = true)
  | [], _ => by simp [insB]
  | y :: l, h => by
    rw [List.pairwise_cons] at h
    simp only [insB]
    split
    · rename_i hxy
      rw [List.pairwise_cons]
      refine ⟨fun a ha => ?_, by rw [List.pairwise_cons]; exact h⟩
      rcases List.mem_cons.1 ha with rfl | ha
      · exact hxy
      · exact leB_trans hxy (h.1 a ha)
    · rename_i hxy
      rw [List.pairwise_cons]
      refine ⟨fun a ha => ?_, insB_sorted x l h.2⟩
      rcases List.mem_cons.1 ((insB_perm x l).mem_iff.1 ha) with rfl | ha
      · exact (leB_total a y).resolve_left hxy
      · exact h.1 a ha
theorem sortB_sorted : ∀ l : List (List UInt8), (sortB l).Pairwise (fun a b => leB a b = true)
  | [] => List.Pairwise.nil
  | x :: l => insB_sorted x _ (sortB_sorted l)
theorem sortB_unique {l l' : List (List UInt8)} (hp : l'.Perm l) (hs : l'.Pairwise (fun a b => leB a b = true)) : l' = sortB l :=
  List.Perm.eq_of_pairwise (le := fun a b => leB a b = true) (fun a b _ _ h1 h2 => leB_anti h1 h2) hs (sortB_sorted l) (hp.trans (sortB_perm l).symm)
theorem mergeSort_sortB {ss l : List (List UInt8)} (hp : ss.Perm l) : ss.mergeSort leB = sortB l := by
  refine sortB_unique ((List.mergeSort_perm ss leB).trans hp) ?_
  exact List.pairwise_mergeSort (le := leB) (fun a b c h1 h2 => leB_trans h1 h2) (fun a b => by simp only [Bool.or_eq_true]; exact leB_total a b) ss

/-! slices.Sorted(maps.Keys(m)) -/
/-- What slices.Sorted does with the function value that maps.Keys made. -/
def SortsKeys (P : Program) (fS fI kt : Nat) : Prop := ∀ (Bm b nn : Nat) (D0 : DataW Unit) (R : Value → Option (DataW Unit × List MemPlace)) (W : World),
  W.cell? ⟨Bm, 0, none⟩ = some (.map (some b)) → W.ownsMap P kt R b nn D0 → Maps.size D0 ≤ maxLen → Maps.size D0 * 16 ≤ 140737488355328 →
  Calls P fS #[.func (.func fI) #[] #[.pointer (some ⟨Bm, 0, none⟩)]] W fun e W' => ∃ (v : Value) (ss : List (List UInt8)), e = .returned v ∧ ss.Perm (strKeys D0) ∧
    W'.ownsRow W.heap.size kt 1 v ss.length ((ss.mergeSort leB).map encStr) ∧ (v = .slice none 0 0 ↔ ss = []) ∧ Below W.heap.size W W'

/-- Texts as a list that is read alone. -/
def rsK (l : List (List UInt8)) : AV := .rs l.length 1 (l.map .str)

theorem LR_strs {sn : Snap} {ι : IMap} : ∀ {l : List (List UInt8)}, LR sn ι (l.map .str) (l.map encStr)
  | [] => by simp [LR]
  | x :: l => by
    simp only [List.map_cons, LR]
    exact ⟨_, _, rfl, by simp [VR, encStr], LR_strs⟩

theorem ER_keys {sn : Snap} {ι : IMap} : ∀ {es : List (AV × AV × Nat)} {l : List MapEntry} {keys : List (List UInt8)}, ER sn ι es l → es.map (·.1) = keys.map AV.str → l.map (·.key) = keys.map encStr ∧ l.map (·.born) = es.map (·.2.2)
  | [], l, keys, h, hk => by
    simp [ER] at h; subst h
    cases keys <;> simp at hk
    simp
  | (k, v, n) :: es, l, keys, h, hk => by
    simp only [ER] at h
    obtain ⟨x, l', rfl, h1, h2, h3, h4⟩ := h
    cases keys with
    | nil => simp at hk
    | cons c keys =>
      simp only [List.map_cons, List.cons.injEq] at hk
      obtain ⟨rfl, hk⟩ := hk
      obtain ⟨e1, e2⟩ := ER_keys h4 hk
      obtain ⟨ba, e3, e4⟩ := h1.str
      simp only [List.map_cons, e1, e2, h3, and_true, List.cons.injEq]
      rw [e3, ← e4]

theorem MR_of_cells {sn : Snap} {W : World} {g : Nat} {B : Nat} (hg : B ≤ g) : ∀ (us : List AV) (vs : List Value) (o : Nat), LR (snx sn B W) noI us vs → (∀ (i : Nat) (v : Value), vs[i]? = some v → W.cell? ⟨g, o + i, none⟩ = some v) → MR (snx sn B W) us g o
  | [], vs, o, h, hc => by simp [MR]
  | u :: us, vs, o, h, hc => by
    simp only [LR] at h
    obtain ⟨d, ds, rfl, h1, h2⟩ := h
    simp only [MR]
    refine ⟨⟨d, ?_, h1⟩, MR_of_cells hg us ds (o + 1) h2 fun i v hv => ?_⟩
    · have := hc 0 d rfl
      simp only [snx]
      rw [if_neg (show ¬ g < B by omega)]
      exact this
    · have := hc (i + 1) v (by simpa using hv)
      rw [show o + 1 + i = o + (i + 1) from by omega]; exact this

theorem sorted_calls {P : Program} {fS fI kt : Nat} (hS : SortsKeys P fS fI kt) (hk : P.underlying kt = some .string) {sn : Snap} {ι : IMap} {H : AHeap} {W : World} (hR : R sn ι H W)
    {c b : Nat} {oc ob : AObj} {cs : List AV} {ty : TypeId} {es : List (AV × AV × Nat)} {clock : Nat} {keys : List (List UInt8)}
    (hc : H[c]? = some oc) (hca : oc.alive = true) (hcs : oc.sh = 0) (hcb : oc.body = .cells (.map b :: cs) ty) (hb : H[b]? = some ob) (hba : ob.alive = true) (hbb : ob.body = .map es clock)
    (hkeys : es.map (·.1) = keys.map AV.str) (hnd : keys.Nodup) (hlen : ∀ k ∈ keys, k.length ≤ maxLen) (hbn : (es.map (·.2.2)).Nodup) (hbc : ∀ n ∈ es.map (·.2.2), n < clock) (hsz : keys.length ≤ 1000000)
    {cargs : List Value} (ha : LR sn ι [.func (.func fI) [] [.ptr c 0]] cargs) :
    Calls P fS cargs.toArray W fun e W' => ∃ v sn' ι', e = .returned v ∧ VR sn' ι' (rsK (sortB keys)) v ∧ Stp sn ι H W sn' ι' H W' := by
  obtain ⟨pc, hpc⟩ := hR.place hc
  obtain ⟨pb, hpb⟩ := hR.place hb
  have hoc := hR.obj c oc pc hc hca hpc
  have hob := hR.obj b ob pb hb hba hpb
  rw [hcb] at hoc; rw [hbb] at hob
  simp only [OR] at hoc hob
  obtain ⟨arr, hw1, hw2, hw3, hw4⟩ := hoc
  obtain ⟨mes, hm1, hm2⟩ := hob
  have hz := hR.shz c oc pc hc hpc hcs
  obtain ⟨v0, hv0, hv1⟩ := hw4 0 (.map b) rfl
  obtain ⟨p', hp', rfl⟩ := hv1.map
  rw [hpb] at hp'; simp at hp'; subst hp'
  have hcell : W.cell? ⟨pc.blk, 0, none⟩ = some (.map (some pb.blk)) := by
    rw [cell_of_heap hw1]; rw [hz] at hv0; simpa using hv0
  obtain ⟨hk1, hk2⟩ := ER_keys hm2 hkeys
  have hlens : mes.size = keys.length := by
    have := congrArg List.length hk1
    simpa using this
  have hmx : maxLen = 9223372036854775807 := rfl
  let R0 : Value → Option (DataW Unit × List MemPlace) := fun _ => some (.nil, [])
  have hkeyOf : ∀ x ∈ mes.toList, ∃ s, x.key = encStr s ∧ s ∈ keys ∧ keyOf P kt x.key = some (.string s) := by
    intro x hx
    have : x.key ∈ mes.toList.map (·.key) := List.mem_map_of_mem hx
    rw [hk1] at this
    obtain ⟨s, hs, e⟩ := List.mem_map.1 this
    refine ⟨s, e.symm, hs, ?_⟩
    rw [← e]
    have hl := hlen s hs
    simp only [keyOf, hk, mapKey, encStr]
    have : (⟨⟨s⟩⟩ : ByteArray).size ≤ maxLen := by simpa [ByteArray.size] using hl
    rw [if_pos this]
  have hF : WideElems.Fit P kt R0 mes clock := by
    refine ⟨by omega, ⟨fun x hx => ?_, by rw [hk2]; exact hbn, ?_⟩, fun x hx => ?_⟩
    · exact hbc _ (by rw [← hk2]; exact List.mem_map_of_mem hx)
    · rw [hk1]
      exact (List.nodup_iff_pairwise_ne.1 hnd).map _ fun a b hab e => hab (encStr_inj e)
    · obtain ⟨s, _, _, h3⟩ := hkeyOf x hx
      exact ⟨(.string s, .nil), by simp [WideElems.rd, h3, R0]⟩
  let D0 : DataW Unit := .map ((mes.toList.map (WideElems.rg P kt R0)).foldr DataW.insert [])
  have hown : W.ownsMap P kt R0 pb.blk mes.size D0 := ⟨mes, clock, hm1, hF, Nat.le_refl _, rfl⟩
  have hsize : Maps.size D0 = mes.size := by simp only [D0, Maps.size]; exact length_read mes
  have hperm : (strKeys D0).Perm keys := by
    have h1 : ((mes.toList.map (WideElems.rg P kt R0)).foldr DataW.insert []).Perm (mes.toList.map (WideElems.rg P kt R0)) := by
      generalize mes.toList.map (WideElems.rg P kt R0) = l
      induction l with
      | nil => exact .refl _
      | cons x l ih =>
        have hins : ∀ (y : Lit × DataW Unit) (m : List (Lit × DataW Unit)), (DataW.insert y m).Perm (y :: m) := by
          intro y m
          induction m with
          | nil => exact .refl _
          | cons z m ih2 =>
            simp only [DataW.insert]
            split
            · exact .refl _
            · exact (ih2.cons z).trans (.swap y z m)
        exact (hins x _).trans (ih.cons x)
    have h2 := h1.map (fun p => strOf p.1)
    refine h2.trans ?_
    have : (mes.toList.map (WideElems.rg P kt R0)).map (fun p => strOf p.1) = keys := by
      have e : (mes.toList.map (WideElems.rg P kt R0)).map (fun p => encStr (strOf p.1)) = keys.map encStr := by
        rw [← hk1, List.map_map]
        refine List.map_congr_left fun x hx => ?_
        obtain ⟨s, h1, _, h3⟩ := hkeyOf x hx
        have hr : WideElems.rd P kt R0 x = some (.string s, .nil) := by simp [WideElems.rd, h3, R0]
        simp only [Function.comp, WideElems.rg_of hr, strOf, h1]
      have : (((mes.toList.map (WideElems.rg P kt R0)).map (fun p => strOf p.1)).map encStr) = keys.map encStr := by rw [List.map_map]; exact e
      exact List.map_inj_right (fun a b h => encStr_inj h) |>.1 this
    rw [this]
  have hargs : cargs = [.func (.func fI) #[] #[.pointer (some ⟨pc.blk, 0, none⟩)]] := by
    simp only [LR] at ha
    obtain ⟨d, ds, rfl, h1, rfl⟩ := ha
    obtain ⟨f', c', rfl, h2, h3⟩ := h1.func
    simp only [LR] at h2 h3
    obtain ⟨d2, ds2, h4, h5, h6⟩ := h3
    subst h6
    obtain ⟨p, hp, rfl⟩ := h5.ptr
    rw [hpc] at hp; simp at hp; subst hp
    have e1 : f' = #[] := by apply Array.ext'; simpa using h2
    have e2 : c' = #[.pointer (some ⟨pc.blk, 0, none⟩)] := by apply Array.ext'; simp [h4, hz]
    rw [e1, e2]
  rw [hargs]
  refine (hS pc.blk pb.blk mes.size D0 R0 W hcell hown (by omega) (by omega)).mono ?_
  rintro e W' ⟨v, ss, rfl, hss, hrow, hnil, hbel⟩
  have hext : Ext W W' := ⟨fun c hc => hbel.block c hc, hbel.size, hbel.os, hbel.tape, hbel.output⟩
  refine ⟨v, snx sn W.heap.size W', ι, rfl, ?_, Stp.snap hR hext⟩
  have hms : ss.mergeSort leB = sortB keys := mergeSort_sortB (hss.trans hperm)
  rw [hms] at hrow
  have hlen2 : (sortB keys).length = ss.length := by rw [← hms, List.length_mergeSort]
  obtain ⟨hr0, hr⟩ := hrow
  rcases hr with ⟨rfl, hz0⟩ | ⟨g, cap, cur, rfl, hg1, hg2, hg3, hg4, hg5, hg6⟩
  · have : sortB keys = [] := List.eq_nil_of_length_eq_zero (by omega)
    rw [this]; simp [rsK, VR]
  · simp only [rsK, VR]
    refine .inr ⟨⟨g, 0, none⟩, cap, by rw [hlen2], by omega, by simp, ?_, fun _ => rfl⟩
    refine MR_of_cells hg1 _ _ 0 LR_strs fun i v hv => ?_
    rw [cell_of_heap hg2]
    simp only [Nat.zero_add]
    have : (cur.toList.take (ss.length * 1))[i]? = some v := by rw [hg6]; exact hv
    rw [List.getElem?_take] at this
    split at this
    · simpa using this
    · cases this

/-- The keys of a map, if they are texts. -/
def strsE : List (AV × AV × Nat) → Option (List (List UInt8))
  | [] => some []
  | (.str s, _, _) :: es => match strsE es with | some l => some (s :: l) | none => none
  | _ => none
theorem strsE_spec : ∀ {es : List (AV × AV × Nat)} {l : List (List UInt8)}, strsE es = some l → es.map (·.1) = l.map AV.str
  | [], l, h => by simp [strsE] at h; subst h; rfl
  | (k, v, n) :: es, l, h => by
    unfold strsE at h
    split at h
    · rename_i e; cases e
    · rename_i e
      simp only [List.cons.injEq, Prod.mk.injEq] at e
      obtain ⟨⟨rfl, rfl, rfl⟩, rfl⟩ := e
      split at h <;> simp at h
      subst h
      simp [strsE_spec (by assumption)]
    · cases h
def okKeys (keys : List (List UInt8)) (es : List (AV × AV × Nat)) (clock : Nat) : Bool :=
  decide keys.Nodup && (decide (∀ k ∈ keys, k.length ≤ 9223372036854775807) && (decide (es.map (·.2.2)).Nodup && ((es.map (·.2.2)).all (fun n => decide (n < clock)) && Nat.ble keys.length 1000000)))
/-- The contract of slices.Sorted, for runs. -/
def sortAns (es : List (AV × AV × Nat)) (clock : Nat) : Option AV := match strsE es with
  | some keys => if okKeys keys es clock = true then some (rsK (sortB keys)) else none
  | none => none
def sortArg (fI : Nat) : List AV → Option Nat
  | [.func (.func g) [] [.ptr c 0]] => if g = fI then some c else none
  | _ => none
def mapIn (oc : AObj) : Option Nat := if oc.alive = true ∧ oc.sh = 0 then (match oc.body with | .cells [.map b] _ => some b | _ => none) else none
def mapOf (ob : AObj) : Option (List (AV × AV × Nat) × Nat) := if ob.alive = true then (match ob.body with | .map es clock => some (es, clock) | _ => none) else none
def sortO (fS fI : Nat) : Orc := fun f args H =>
  if f = fS then (match sortArg fI args with
    | some c => match H[c]? with
      | some oc => match mapIn oc with
        | some b => match H[b]? with
          | some ob => match mapOf ob with
            | some (es, clock) => match sortAns es clock with
              | some v => some (v, H)
              | none => none
            | none => none
          | none => none
        | none => none
      | none => none
    | none => none) else none
noncomputable def fsortO (fS fI : Nat) : FOrc := fun f args T =>
  if f = fS then (match sortArg fI args with
    | some c => match mapIn (T.get c) with
        | some b => match mapOf (T.get b) with
            | some (es, clock) => match sortAns es clock with
              | some v => some (v, T)
              | none => none
            | none => none
        | none => none
    | none => none) else none
theorem mapIn_spec {oc : AObj} {b : Nat} (h : mapIn oc = some b) : oc.alive = true ∧ oc.sh = 0 ∧ ∃ ty, oc.body = .cells [.map b] ty := by
  unfold mapIn at h
  split at h <;> try (cases h; done)
  rename_i h1
  split at h <;> simp at h
  subst h
  exact ⟨h1.1, h1.2, _, by assumption⟩
theorem mapOf_spec {ob : AObj} {x : List (AV × AV × Nat) × Nat} (h : mapOf ob = some x) : ob.alive = true ∧ ob.body = .map x.1 x.2 := by
  unfold mapOf at h
  split at h <;> try (cases h; done)
  split at h <;> simp at h
  subst h
  exact ⟨by assumption, by assumption⟩
theorem sortArg_spec {fI c : Nat} {args : List AV} (h : sortArg fI args = some c) : args = [.func (.func fI) [] [.ptr c 0]] := by
  unfold sortArg at h
  split at h <;> try (cases h; done)
  split at h <;> simp at h
  subst h; rename_i e; subst e; rfl
theorem fsortO_sim (fS fI : Nat) : OrcSim (fsortO fS fI) (sortO fS fI) := by
  intro f args T r T' h H hR
  simp only [fsortO] at h
  split at h <;> try (cases h; done)
  rename_i hf
  split at h <;> try (cases h; done)
  rename_i c hc
  split at h <;> try (cases h; done)
  rename_i b hb
  split at h <;> try (cases h; done)
  rename_i es clock hm
  split at h <;> simp at h
  obtain ⟨rfl, rfl⟩ := h
  rename_i v hv
  have h1 := hR.obj c (mapIn_spec hb).1
  have h2 := hR.obj b (mapOf_spec hm).1
  exact ⟨H, by simp [sortO, hf, hc, h1, hb, h2, hm, hv], hR⟩
theorem sortO_sound {P : Program} {gl : Glob} {fS fI kt : Nat} (hS : SortsKeys P fS fI kt) (hk : P.underlying kt = some .string) : OrcSound P gl (sortO fS fI) := by
  intro f args H r H' h sn ι W cargs hg hR ha
  simp only [sortO] at h
  split at h <;> try (cases h; done)
  rename_i hf
  subst hf
  split at h <;> try (cases h; done)
  rename_i c hc
  split at h <;> try (cases h; done)
  rename_i oc hoc
  split at h <;> try (cases h; done)
  rename_i b hb
  split at h <;> try (cases h; done)
  rename_i ob hob
  split at h <;> try (cases h; done)
  rename_i es clock hm
  split at h <;> simp at h
  obtain ⟨rfl, rfl⟩ := h
  rename_i v hv
  unfold sortAns at hv
  split at hv <;> try (cases hv; done)
  rename_i keys hks
  split at hv <;> simp at hv
  subst hv
  rename_i hok
  simp only [okKeys, Bool.and_eq_true, decide_eq_true_eq, List.all_eq_true] at hok
  obtain ⟨o1, o2, o3, o4, o5⟩ := hok
  obtain ⟨m1, m2, ty, m3⟩ := mapIn_spec hb
  obtain ⟨n1, n2⟩ := mapOf_spec hm
  rw [sortArg_spec hc] at ha
  exact sorted_calls hS hk hR hoc m1 m2 m3 hob n1 n2 (strsE_spec hks) o1 o2 o3 o4 (Nat.le_of_ble_eq_true o5) ha
end Go.Abs
end

/-
  A verified abstract interpreter, part 45: families of facts, each on one function; lists that are nil.
-/
section
set_option linter.unusedSimpArgs false
set_option linter.unusedVariables false
namespace Go.Abs
open Go.RowKit

theorem Wk.nil {m : List Nat} {z : Nat} : Wk m .nslice (.rs 0 z []) := fun sn ι v h => by simp only [VR] at h ⊢; exact .inl ⟨trivial, trivial, h⟩
/-- What is said of an empty list is said of nil. -/
theorem swA {A B : Prop} (h : A) : Stp1 (A ∧ B) B := fun b => ⟨h, b⟩
/-- A kept temporary. -/
theorem stw {P Q : Prop} (q : Q) (h : Stp1 P Q := by
    first
    | (refine swA (Wk.int ?_); (focus (first | rfl | omega | (simp; done) | (simp; omega)))) | (refine swA (Wk.bool ?_); (focus (first | rfl | (simp; done)))) | exact swA (Wk.noref rfl)
    | exact swA (Wk.ptr rfl rfl) | (refine swA (Wk.slice rfl ?_ ?_ ?_ ?_ ?_); (focus (first | rfl | omega)); (focus (first | rfl | omega)); (focus (first | rfl | omega)); (focus (first | rfl | omega)); (focus rfl)) | exact swA Wk.nil | exact swA (Wk.func trivial ⟨Wk.ptr rfl rfl, trivial⟩) | exact swA (Wk.map rfl)) : P := h q
theorem ValOK.weak {P : Program} {gl : Glob} {f : Nat} {args args2 : List AV} {r : AV} (h : ValOK P gl f args2 r) (hw : ∀ sn vs, LR sn noI args vs → LR sn noI args2 vs) : ValOK P gl f args r :=
  fun sn W cargs hg hR ha => h sn W cargs hg hR (hw _ _ ha)
/-- Less is said of the result. -/
theorem ValOK.less {P : Program} {gl : Glob} {f : Nat} {args : List AV} {r r2 : AV} (h : ValOK P gl f args r) (hw : ∀ sn v, VR sn noI r v → VR sn noI r2 v) : ValOK P gl f args r2 :=
  fun sn W cargs hg hR ha => (h sn W cargs hg hR ha).mono fun e W' ⟨v, h1, h2, h3⟩ => ⟨v, h1, h2, hw _ _ h3⟩
theorem nil_rs {z : Nat} {sn : Snap} {ι : IMap} {v : Value} (h : VR sn ι .nslice v) : VR sn ι (.rs 0 z []) v := by simp only [VR] at h ⊢; exact .inl ⟨trivial, trivial, h⟩

section
open Classical
noncomputable def orcJ {I : Type} (G : I → Prop) (fF : I → Nat) (fA : I → List AV) (fR : I → AV) : Orc := orcV fun f args => if h : ∃ i, G i ∧ fF i = f ∧ fA i = args then some (fR (Classical.choose h)) else none
theorem orcJ_sound {P : Program} {gl : Glob} {I : Type} {G : I → Prop} {fF : I → Nat} {fA : I → List AV} {fR : I → AV} (h : ∀ i, G i → refsL (fA i) [] = [] ∧ ValOK P gl (fF i) (fA i) (fR i)) : OrcSound P gl (orcJ G fF fA fR) := orcV_sound fun f args r e => by
  split at e
  · rename_i hx
    simp only [Option.some.injEq] at e
    subst e
    obtain ⟨g1, e1, e2⟩ := Classical.choose_spec hx
    have := h _ g1
    rw [e1, e2] at this; exact this
  · cases e
theorem callJ {P : Program} {I : Type} {G : I → Prop} {fF : I → Nat} {fA : I → List AV} {fR : I → AV} (hinj : ∀ i j, G i → G j → fF i = fF j → fA i = fA j → fR i = fR j) {H : AHeap} (i : I) (hb : hasBody P (fF i) = true) (hi : G i) :
    acall P (orcJ G fF fA fR) H (fF i) (fA i) = some (fR i, H) := by
  have hx : ∃ j, G j ∧ fF j = fF i ∧ fA j = fA i := ⟨i, hi, rfl, rfl⟩
  unfold acall
  rw [if_pos hb]
  unfold orcJ orcV
  simp only [dif_pos hx]
  obtain ⟨g1, g2, g3⟩ := Classical.choose_spec hx
  rw [hinj _ i g1 hi g2 g3]
theorem orcF_none {l : List (Nat × List AV × AV)} {g : Nat} {args : List AV} {H : AHeap} (h : ∀ p ∈ l, p.1 ≠ g) : orcF l g args H = none := by
  unfold orcF orcV
  have : l.find? (fun p => decide (p.1 = g ∧ p.2.1 = args)) = none := List.find?_eq_none.2 fun p hp => by simp [h p hp]
  simp only [this, Option.map_none]
theorem orcI_none {I : Type} {G : I → Prop} {fF : I → Nat} {fA : I → List AV} {fH : I → AHeap} {fR : I → AV} {fO : I → AHeap} {g : Nat} {args : List AV} {H : AHeap} (h : ∀ i, G i → fF i = g → fA i ≠ args) : orcI G fF fA fH fR fO g args H = none := by
  unfold orcI
  rw [dif_neg]
  rintro ⟨i, h1, h2, h3, _⟩
  exact h i h1 h2 h3
end
theorem callOr1 {P : Program} {o1 o2 : Orc} {H : AHeap} {g : Nat} {args : List AV} {x : AV × AHeap} (hb : hasBody P g = true) (h : acall P o1 H g args = some x) : acall P (orcOr o1 o2) H g args = some x := by
  unfold acall at h ⊢
  rw [if_pos hb] at h ⊢
  unfold orcOr; rw [h]
theorem callOr2 {P : Program} {o1 o2 : Orc} {H : AHeap} {g : Nat} {args : List AV} {x : AV × AHeap} (hb : hasBody P g = true) (h1 : o1 g args H = none) (h : acall P o2 H g args = some x) : acall P (orcOr o1 o2) H g args = some x := by
  unfold acall at h ⊢
  rw [if_pos hb] at h ⊢
  unfold orcOr; rw [h1]; exact h

/-! families -/
/-- Facts on one function: values for values. -/
structure Fam (P : Program) (gl : Glob) where
  I : Type
  f : Nat
  G : I → Prop
  A : I → List AV
  R : I → AV
  body : hasBody P f = true
  inj : ∀ i j, G i → G j → A i = A j → R i = R j
  ok : ∀ i, G i → refsL (A i) [] = [] ∧ ValOK P gl f (A i) (R i)
/-- Facts on one function that writes to memory that it is handed. -/
structure FamM (P : Program) (gl : Glob) where
  I : Type
  f : Nat
  G : I → Prop
  A : I → List AV
  H : I → AHeap
  R : I → AV
  O : I → AHeap
  body : hasBody P f = true
  inj : ∀ i j, G i → G j → A i = A j → H i = H j → R i = R j ∧ O i = O j
  ok : ∀ i, G i → MemOK P gl f (A i) (H i) (R i) (O i)
section
variable {P : Program} {gl : Glob}
def Fam.Ask (F : Fam P gl) (O : Orc) : Prop := ∀ i, F.G i → ∀ H, acall P O H F.f (F.A i) = some (F.R i, H)
def FamM.Ask (F : FamM P gl) (O : Orc) : Prop := ∀ i, F.G i → acall P O (F.H i) F.f (F.A i) = some (F.R i, F.O i)
def AllAsk (O : Orc) : List (Fam P gl) → Prop
  | [] => True
  | F :: l => F.Ask O ∧ AllAsk O l
def AllAskM (O : Orc) : List (FamM P gl) → Prop
  | [] => True
  | F :: l => F.Ask O ∧ AllAskM O l
/-- Of no other function than these. -/
def Only (O : Orc) (fs : List Nat) : Prop := ∀ g args H, mem g fs = false → O g args H = none
theorem add_ask {o O : Orc} {f : Nat} (ho : ∀ g args H, g ≠ f → o g args H = none) : (∀ F : Fam P gl, F.f ≠ f → F.Ask O → F.Ask (orcOr o O)) ∧ (∀ F : FamM P gl, F.f ≠ f → F.Ask O → F.Ask (orcOr o O)) :=
  ⟨fun F hf h i hi H => callOr2 F.body (ho _ _ _ hf) (h i hi H), fun F hf h i hi => callOr2 F.body (ho _ _ _ hf) (h i hi)⟩
theorem fams_all : ∀ (l : List (Fam P gl)), nodupN (l.map (·.f)) = true → ∃ O, OrcSound P gl O ∧ AllAsk O l
  | [], _ => ⟨fun _ _ _ => none, (fun f args H r H' h => by cases h), trivial⟩
  | F :: l, h => by
    simp only [List.map_cons, nodupN, Bool.and_eq_true, Bool.not_eq_true'] at h
    obtain ⟨O, hO, ha⟩ := fams_all l h.2
    have ho : ∀ g args H, g ≠ F.f → orcJ F.G (fun _ => F.f) F.A F.R g args H = none := by
      intro g args H hg
      have : ¬ ∃ i, F.G i ∧ F.f = g ∧ F.A i = args := by
        rintro ⟨i, _, h2, _⟩
        exact hg h2.symm
      simp only [orcJ, orcV, dif_neg this]
    refine ⟨orcOr (orcJ F.G (fun _ => F.f) F.A F.R) O, orcOr_sound (orcJ_sound F.ok) hO, fun i hi H => callOr1 F.body (callJ (fun i j hi hj _ ha => F.inj i j hi hj ha) i F.body hi), ?_⟩
    have hn : ∀ G ∈ l, G.f ≠ F.f := fun G hG e => by
      have h1 := h.1
      have : mem F.f (l.map (·.f)) = true := mem_iff.2 (by rw [← e]; exact List.mem_map_of_mem hG)
      rw [this] at h1; cases h1
    clear h
    induction l with
    | nil => trivial
    | cons G l ih =>
      exact ⟨(add_ask ho).1 G (hn G (by simp)) ha.1, ih ha.2 fun K hK => hn K (by simp [hK])⟩
/-- Families of facts as an oracle. -/
theorem fams (l : List (Fam P gl)) (h : nodupN (l.map (·.f)) = true) : ∃ O, OrcSound P gl O ∧ AllAsk O l := fams_all l h
theorem AllAsk.add {o O : Orc} {f : Nat} (ho : ∀ g args H, g ≠ f → o g args H = none) : ∀ {l : List (Fam P gl)}, mem f (l.map (·.f)) = false → AllAsk O l → AllAsk (orcOr o O) l
  | [], _, _ => trivial
  | F :: l, h, ha => by
    simp only [List.map_cons, mem, Bool.or_eq_false_iff] at h
    exact ⟨(add_ask ho).1 F (fun e => by rw [e] at h; simp at h) ha.1, AllAsk.add ho h.2 ha.2⟩
theorem AllAskM.add {o O : Orc} {f : Nat} (ho : ∀ g args H, g ≠ f → o g args H = none) : ∀ {l : List (FamM P gl)}, mem f (l.map (·.f)) = false → AllAskM O l → AllAskM (orcOr o O) l
  | [], _, _ => trivial
  | F :: l, h, ha => by
    simp only [List.map_cons, mem, Bool.or_eq_false_iff] at h
    exact ⟨(add_ask ho).2 F (fun e => by rw [e] at h; simp at h) ha.1, AllAskM.add ho h.2 ha.2⟩
/-- Families of both kinds. -/
theorem famsM : ∀ (m : List (FamM P gl)) (l : List (Fam P gl)), nodupN (m.map (·.f) ++ l.map (·.f)) = true → ∃ O, OrcSound P gl O ∧ AllAskM O m ∧ AllAsk O l
  | [], l, h => by
    obtain ⟨O, h1, h2⟩ := fams_all l h
    exact ⟨O, h1, trivial, h2⟩
  | F :: m, l, h => by
    simp only [List.map_cons, List.cons_append, nodupN, Bool.and_eq_true, Bool.not_eq_true'] at h
    obtain ⟨O, hO, ha, hb⟩ := famsM m l h.2
    have ho : ∀ g args H, g ≠ F.f → orcI F.G (fun _ => F.f) F.A F.H F.R F.O g args H = none := fun g args H hg => orcI_none fun i _ e => absurd e.symm hg
    have hmem : ∀ {a b : List Nat}, mem F.f (a ++ b) = false → mem F.f a = false ∧ mem F.f b = false := by
      intro a b h
      constructor
      · cases hx : mem F.f a with
        | false => rfl
        | true => rw [mem_iff.2 (List.mem_append.2 (.inl (mem_iff.1 hx)))] at h; cases h
      · cases hx : mem F.f b with
        | false => rfl
        | true => rw [mem_iff.2 (List.mem_append.2 (.inr (mem_iff.1 hx)))] at h; cases h
    obtain ⟨n1, n2⟩ := hmem h.1
    refine ⟨orcOr (orcI F.G (fun _ => F.f) F.A F.H F.R F.O) O, orcOr_sound (orcI_sound F.ok) hO, ⟨fun i hi => callOr1 F.body (callI (fun i j hi hj _ ha hh => F.inj i j hi hj ha hh) F.body i hi rfl rfl rfl), AllAskM.add ho n1 ha⟩, AllAsk.add ho n2 hb⟩
end
end Go.Abs
end

/-
  Expressions as the interpreter knows them; how great they are, how deep (the document's answer).
-/
section
set_option linter.unusedVariables false
set_option linter.unusedSimpArgs false
namespace Go.Proofs.YtajhailaofchlaaDoor.lex
open Go.Abs Go.RowKit
set_option maxRecDepth 100000
set_option maxHeartbeats 4000000
variable {gl : Glob}

inductive Ex where
  | mk (op num : Int) (name : List UInt8) (kids : List Ex)
instance : Inhabited Ex := ⟨.mk 0 0 [] []⟩
def Ex.op : Ex → Int
  | .mk o _ _ _ => o
def Ex.num : Ex → Int
  | .mk _ n _ _ => n
def Ex.name : Ex → List UInt8
  | .mk _ _ s _ => s
def Ex.kids : Ex → List Ex
  | .mk _ _ _ k => k
mutual
def Ex.cells : Ex → List AV
  | .mk op num name kids => [.int .i64 op, .int .i64 num, .str name, .rs kids.length 4 (exC kids)]
def exC : List Ex → List AV
  | [] => []
  | e :: l => e.cells ++ exC l
end
/-- A list of expressions. -/
def exA (l : List Ex) : AV := .rs l.length 4 (exC l)
mutual
def sizeE : Ex → Nat
  | .mk _ _ _ kids => 1 + sizeL kids
def sizeL : List Ex → Nat
  | [] => 0
  | e :: l => sizeE e + sizeL l
end
mutual
def deepE : Ex → Nat
  | .mk _ _ _ kids => deepL kids + 1
def deepL : List Ex → Nat
  | [] => 0
  | e :: l => max (deepE e) (deepL l)
end
theorem cells_len : ∀ e : Ex, e.cells.length = 4
  | .mk _ _ _ _ => by simp only [Ex.cells]; rfl
theorem exC_len : ∀ l : List Ex, (exC l).length = l.length * 4
  | [] => by simp only [exC]; rfl
  | e :: l => by simp only [exC, List.length_append, cells_len, exC_len l, List.length_cons]; omega
theorem exC_app : ∀ a b : List Ex, exC (a ++ b) = exC a ++ exC b
  | [], b => by simp only [exC, List.nil_append]
  | e :: a, b => by simp only [exC, List.cons_append, exC_app a b, List.append_assoc]
theorem exC_drop (e : Ex) (l : List Ex) (i : Nat) : (exC (e :: l)).drop ((i + 1) * 4) = (exC l).drop (i * 4) := by
  have h : (i + 1) * 4 = 4 + i * 4 := by omega
  rw [h, ← List.drop_drop, exC, List.drop_left' (cells_len e)]
theorem tk_app : ∀ (a b : List AV), tk a.length (a ++ b) = some a
  | [], b => by cases b <;> rfl
  | c :: a, b => by simp only [List.length_cons, List.cons_append, tk, tk_app a b]
theorem exC_at : ∀ (l : List Ex) (i : Nat) (h : i < l.length), (exC l).drop (i * 4) = l[i].cells ++ exC (l.drop (i + 1))
  | e :: l, 0, h => by simp only [Nat.zero_mul, List.drop_zero, exC, List.getElem_cons_zero, List.drop_succ_cons]
  | e :: l, i + 1, h => by rw [exC_drop, exC_at l i (by simpa using h)]; simp only [List.getElem_cons_succ, List.drop_succ_cons]
theorem ex4 (l : List Ex) (i : Nat) (h : i < l.length) : tk 4 ((exC l).drop (i * 4)) = some l[i].cells := by
  rw [exC_at l i h]
  have := tk_app l[i].cells (exC (l.drop (i + 1)))
  rwa [cells_len] at this
mutual
theorem cells_inj : ∀ (a b : Ex), a.cells = b.cells → a = b
  | .mk o n s k, .mk o' n' s' k', h => by
    simp only [Ex.cells] at h
    simp at h
    obtain ⟨rfl, rfl, rfl, hl, hk⟩ := h
    rw [exC_inj k k' hk hl]
theorem exC_inj : ∀ (a b : List Ex), exC a = exC b → a.length = b.length → a = b
  | [], [], _, _ => rfl
  | x :: a, y :: b, h, hl => by
    simp only [exC] at h
    have h' := List.append_inj h (by rw [cells_len, cells_len])
    rw [cells_inj x y h'.1, exC_inj a b h'.2 (by simpa using hl)]
  | [], _ :: _, _, hl => by simp at hl
  | _ :: _, [], _, hl => by simp at hl
end
theorem exA_inj {a b : List Ex} (h : exA a = exA b) : a = b := by
  simp only [exA, AV.rs.injEq, true_and] at h
  exact exC_inj _ _ h.2 h.1
theorem sizeE_pos : ∀ e : Ex, 0 < sizeE e
  | .mk _ _ _ _ => by simp only [sizeE]; omega
theorem sizeL_get : ∀ (l : List Ex) (i : Nat) (h : i < l.length), sizeL l = sizeL (l.take i) + sizeE l[i] + sizeL (l.drop (i + 1))
  | e :: l, 0, h => by simp only [List.take_zero, sizeL, List.getElem_cons_zero, List.drop_succ_cons, List.drop_zero]; omega
  | e :: l, i + 1, h => by
    have := sizeL_get l i (by simpa using h)
    simp only [List.take_succ_cons, sizeL, List.getElem_cons_succ, List.drop_succ_cons]; omega
theorem sizeL_take : ∀ (l : List Ex) (i : Nat) (h : i < l.length), sizeL (l.take (i + 1)) = sizeL (l.take i) + sizeE l[i]
  | e :: l, 0, h => by simp only [List.take_succ_cons, List.take_zero, sizeL, List.getElem_cons_zero]; omega
  | e :: l, i + 1, h => by
    have := sizeL_take l i (by simpa using h)
    simp only [List.take_succ_cons, sizeL, List.getElem_cons_succ] at this ⊢; omega
theorem sizeL_len : ∀ l : List Ex, l.length ≤ sizeL l
  | [] => Nat.zero_le _
  | e :: l => by have := sizeL_len l; have := sizeE_pos e; simp only [sizeL, List.length_cons]; omega
theorem sizeE_kids : ∀ e : Ex, sizeE e = 1 + sizeL e.kids
  | .mk _ _ _ _ => by simp only [sizeE, Ex.kids]
theorem sizeL_mem : ∀ (l : List Ex) (e : Ex), e ∈ l → sizeE e ≤ sizeL l
  | e :: l, f, h => by
    simp only [sizeL]
    rcases List.mem_cons.1 h with rfl | h
    · omega
    · have := sizeL_mem l f h; omega
theorem deepL_take : ∀ (l : List Ex) (i : Nat) (h : i < l.length), deepL (l.take (i + 1)) = max (deepL (l.take i)) (deepE l[i])
  | e :: l, 0, h => by simp only [List.take_succ_cons, List.take_zero, deepL, List.getElem_cons_zero]; omega
  | e :: l, i + 1, h => by
    have := deepL_take l i (by simpa using h)
    simp only [List.take_succ_cons, deepL, List.getElem_cons_succ] at this ⊢; omega
mutual
theorem deepE_size : ∀ e : Ex, deepE e ≤ sizeE e
  | .mk _ _ _ k => by have := deepL_size k; simp only [deepE, sizeE]; omega
theorem deepL_size : ∀ l : List Ex, deepL l ≤ sizeL l
  | [] => Nat.le_refl _
  | e :: l => by have := deepE_size e; have := deepL_size l; simp only [deepL, sizeL]; omega
end
theorem deepL_le : ∀ (l : List Ex) (i : Nat), deepL (l.take i) ≤ deepL l
  | [], i => by simp [deepL]
  | e :: l, 0 => by simp [deepL]
  | e :: l, i + 1 => by have := deepL_le l i; simp only [List.take_succ_cons, deepL]; omega
theorem deepL_mem : ∀ (l : List Ex) (e : Ex), e ∈ l → deepE e ≤ deepL l
  | e :: l, f, h => by
    simp only [deepL]
    rcases List.mem_cons.1 h with rfl | h
    · omega
    · have := deepL_mem l f h; omega
theorem ex_refs (e : Ex) : refsL [.agg e.cells] [] = [] := by
  obtain ⟨o, n, s, k⟩ := e
  simp only [Ex.cells]; rfl
theorem agg_inj {a b : Ex} (h : [AV.agg a.cells] = [AV.agg b.cells]) : a = b := by
  simp only [List.cons.injEq, AV.agg.injEq, and_true] at h
  exact cells_inj _ _ h
/-- Facts on one function of one expression each. -/
def famE {g : Nat} (hb : hasBody Tryd.prog g = true) (r : Ex → AV) (l : List Ex) (each : ∀ k ∈ l, ValOK Tryd.prog gl g [.agg k.cells] (r k)) : Fam Tryd.prog gl where
  I := Ex
  f := g
  G := fun k => k ∈ l
  A := fun k => [.agg k.cells]
  R := r
  body := hb
  inj := fun i j _ _ h => by rw [agg_inj h]
  ok := fun k hk => ⟨ex_refs k, each k hk⟩
theorem get_mem {α : Type} {l : List α} {i : Nat} (h : i < l.length) : l[i] ∈ l := List.getElem_mem h

theorem sizeR_ok : ∀ (n : Nat) (e : Ex), sizeE e ≤ n → sizeE e ≤ 1048576 → ValOK Tryd.prog gl 48 [.agg e.cells] (.int .i64 (sizeE e))
  | 0, e, h, _ => by have := sizeE_pos e; omega
  | n + 1, .mk op num name kids, h, hb => by
    simp only [sizeE] at h hb ⊢
    obtain ⟨O, hO, q, -⟩ := fams (P := Tryd.prog) (gl := gl) [famE (g := 48) (by kernel_rfl) (fun k => .int .i64 (sizeE k)) kids fun k hk => sizeR_ok n k (by have := sizeL_mem _ _ hk; omega) (by have := sizeL_mem _ _ hk; omega)] rfl
    have hlen := sizeL_len kids
    simp only [Ex.cells]
    refine fn_val follows noNum hO Tryd.func48 rfl ?_
    repeat' ((conv => whnf); first | refine stp ?_ | with_reducible refine condB (fun h => ?_) (fun h => ?_))
    conv => whnf
    refine ⟨Nat, (fun i => i ≤ kids.length), (fun i => [(1, .ptr 0 0), (3, .int .i64 (1 + sizeL (kids.take i) : Nat)), (4, .int .i64 i)]), (fun _ => [⟨true, 0, 0, .cells [.int .i64 op, .int .i64 num, .str name, .rs kids.length 4 (exC kids)] 36⟩]), (fun i => kids.length - i), ⟨0, Nat.zero_le _, FgL.mk [0] rfl ?_ ⟨⟨rfl, rfl, rfl, rfl, BodyGe.pre (rest := []) rfl rfl⟩, trivial⟩ rfl⟩, ?_⟩
    · simp only [List.take_zero, sizeL]; (repeat (first | exact trivial | refine stw ?_))
    intro i hi
    dsimp only
    by_cases hlt : i < kids.length
    · have e1 : decide ((i : Int) < (kids.length : Int)) = true := by simpa using hlt
      have hx := ex4 kids i hlt
      have hs := sizeL_take kids i hlt
      have hg := sizeL_get kids i hlt
      have q1 : ∀ H, acall Tryd.prog O H 48 [.agg kids[i].cells] = some (.int .i64 (sizeE kids[i]), H) := q _ (get_mem hlt)
      generalize kids[i] = k at *
      repeat' ((conv => whnf); first | (refine exI hx ?_) | (refine exI (q1 _) ?_) | (with_reducible refine ixJ i rfl ?_ ?_; (focus (omega))) | (first | refine stp ?_ | with_reducible refine condB (fun h => ?_) (fun h => ?_)))
      conv => whnf
      refine ⟨i + 1, hlt, by show kids.length - (i + 1) < kids.length - i; omega, FgL.mk [0] rfl ?_ ⟨⟨rfl, rfl, rfl, rfl, BodyGe.pre (rest := []) rfl rfl⟩, trivial⟩ rfl⟩
      rw [hs, ← Nat.add_assoc]; (repeat (first | exact trivial | refine stw ?_))
    · have e1 : decide ((i : Int) < (kids.length : Int)) = false := by simpa using hlt
      have hi2 : i = kids.length := by have := hi; omega
      subst hi2
      repeat' ((conv => whnf); first | refine stp ?_ | with_reducible refine condB (fun h => ?_) (fun h => ?_))
      simp only [List.take_length]; rfl
theorem deepR_ok : ∀ (n : Nat) (e : Ex), sizeE e ≤ n → sizeE e ≤ 1048576 → ValOK Tryd.prog gl 49 [.agg e.cells] (.int .i64 (deepE e))
  | 0, e, h, _ => by have := sizeE_pos e; omega
  | n + 1, .mk op num name kids, h, hb => by
    simp only [sizeE] at h hb
    simp only [deepE]
    obtain ⟨O, hO, q, -⟩ := fams (P := Tryd.prog) (gl := gl) [famE (g := 49) (by kernel_rfl) (fun k => .int .i64 (deepE k)) kids fun k hk => deepR_ok n k (by have := sizeL_mem _ _ hk; omega) (by have := sizeL_mem _ _ hk; omega)] rfl
    have hlen := sizeL_len kids
    have hds := deepL_size kids
    simp only [Ex.cells]
    refine fn_val follows noNum hO Tryd.func49 rfl ?_
    repeat' ((conv => whnf); first | refine stp ?_ | with_reducible refine condB (fun h => ?_) (fun h => ?_))
    conv => whnf
    refine ⟨Nat, (fun i => i ≤ kids.length), (fun i => [(1, .ptr 0 0), (3, .int .i64 (deepL (kids.take i))), (4, .int .i64 i)]), (fun _ => [⟨true, 0, 0, .cells [.int .i64 op, .int .i64 num, .str name, .rs kids.length 4 (exC kids)] 36⟩]), (fun i => kids.length - i), ⟨0, Nat.zero_le _, FgL.mk [0] rfl ?_ ⟨⟨rfl, rfl, rfl, rfl, BodyGe.pre (rest := []) rfl rfl⟩, trivial⟩ rfl⟩, ?_⟩
    · simp only [List.take_zero, deepL]; (repeat (first | exact trivial | refine stw ?_))
    intro i hi
    dsimp only
    by_cases hlt : i < kids.length
    · have e1 : decide ((i : Int) < (kids.length : Int)) = true := by simpa using hlt
      have hx := ex4 kids i hlt
      have hs := deepL_take kids i hlt
      have q1 : ∀ H, acall Tryd.prog O H 49 [.agg kids[i].cells] = some (.int .i64 (deepE kids[i]), H) := q _ (get_mem hlt)
      generalize kids[i] = k at *
      repeat' ((conv => whnf); first | (refine exI hx ?_) | (refine exI (q1 _) ?_) | (with_reducible refine ixJ i rfl ?_ ?_; (focus (omega))) | (first | refine stp ?_ | with_reducible refine condB (fun h => ?_) (fun h => ?_)))
      conv => whnf
      refine ⟨i + 1, hlt, by show kids.length - (i + 1) < kids.length - i; omega, FgL.mk [0] rfl ?_ ⟨⟨rfl, rfl, rfl, rfl, BodyGe.pre (rest := []) rfl rfl⟩, trivial⟩ rfl⟩
      refine And.intro (Wk.ptr rfl rfl) ?_
      refine And.intro (Wk.int ?_) ?_
      · rw [hs]; split <;> omega
      (repeat (first | exact trivial | refine stw ?_))
    · have e1 : decide ((i : Int) < (kids.length : Int)) = false := by simpa using hlt
      have hi2 : i = kids.length := by have := hi; omega
      subst hi2
      rw [List.take_length]
      repeat' ((conv => whnf); first | refine stp ?_ | with_reducible refine condB (fun h => ?_) (fun h => ?_))
      rfl
end Go.Proofs.YtajhailaofchlaaDoor.lex
end

/-
  Words: what is one (the document's answer, the program's).
-/
section
set_option linter.unusedVariables false
set_option linter.unusedSimpArgs false
namespace Go.Proofs.YtajhailaofchlaaDoor.lex
open Go.Abs Go.RowKit
set_option maxRecDepth 100000
set_option maxHeartbeats 4000000
variable {gl : Glob}

def wordB (s : List UInt8) : Bool := !s.isEmpty && (wordN s == s.length && !keysL.contains s)
theorem wordR_B (s : List UInt8) : ∃ k w, wordR s = .tuple [.int .i64 k, .bool w] ∧ (w && (k == 1)) = wordB s ∧ (k == 1) = wordB s := by
  unfold wordR wordB
  by_cases h0 : s = []
  · subst h0; exact ⟨0, false, by rw [if_neg (fun h => h.1 rfl)], rfl, rfl⟩
  · by_cases hw : wordN s = s.length
    · rw [if_pos ⟨h0, hw⟩]
      refine ⟨_, _, rfl, ?_⟩
      have : s.isEmpty = false := by cases s with | nil => exact absurd rfl h0 | cons _ _ => rfl
      rw [this, hw]
      cases keysL.contains s <;> simp
    · rw [if_neg (fun h => hw h.2)]
      refine ⟨_, _, rfl, ?_⟩
      have : (wordN s == s.length) = false := by simpa using hw
      rw [this]; simp
theorem wordRef_ok (s : List UInt8) (hs : s.length ≤ 9223372036854775807) : ValOK Tryd.prog gl 46 [.str s] (.bool (wordB s)) := by
  obtain ⟨k, w, h1, h2, h3⟩ := wordR_B s
  have hO := orcF_sound (P := Tryd.prog) (gl := gl) (l := [(75, [.str s], wordR s)]) ⟨rfl, wordD_ok s hs, trivial⟩
  have q : ∀ H, acall Tryd.prog (orcF [(75, [.str s], wordR s)]) H 75 [.str s] = some (wordR s, H) := fun H => callF (by kernel_rfl) findF_here
  rw [h1] at q hO
  rw [← h2]
  refine fn_val follows noNum hO Tryd.func46 rfl ?_
  repeat' ((conv => whnf); first | (refine exI (q _) ?_) | (first | refine stp ?_ | with_reducible refine condB (fun h => ?_) (fun h => ?_)))
  all_goals (try (simp_all [resOf]; done))
theorem isWord_ok (s : List UInt8) (hs : s.length ≤ 9223372036854775807) (m : Bool) : ValOK Tryd.prog gl 37 [.str s, .bool m] (.bool (if m then wordB s else s == [])) := by
  obtain ⟨k, w, h1, h2, h3⟩ := wordR_B s
  have hO := orcF_sound (P := Tryd.prog) (gl := gl) (l := [(74, [.str s], wordR s)]) ⟨rfl, wordP_ok s hs, trivial⟩
  have q : ∀ H, acall Tryd.prog (orcF [(74, [.str s], wordR s)]) H 74 [.str s] = some (wordR s, H) := fun H => callF (by kernel_rfl) findF_here
  rw [h1] at q hO
  rw [← h3]
  cases m with
  | true =>
    refine fn_val follows noNum hO Tryd.func37 rfl ?_
    repeat' ((conv => whnf); first | (refine exI (q _) ?_) | (first | refine stp ?_ | with_reducible refine condB (fun h => ?_) (fun h => ?_)))
    all_goals rfl
  | false =>
    refine fn_val follows noNum hO Tryd.func37 rfl ?_
    repeat' ((conv => whnf); first | (refine exI (q _) ?_) | (first | refine stp ?_ | with_reducible refine condB (fun h => ?_) (fun h => ?_)))
    all_goals rfl
end Go.Proofs.YtajhailaofchlaaDoor.lex
end

/-
  Expressions: may they be (the document's answer); are there few parts.
-/
section
set_option linter.unusedVariables false
set_option linter.unusedSimpArgs false
namespace Go.Proofs.YtajhailaofchlaaDoor.lex
open Go.Abs Go.RowKit
set_option maxRecDepth 100000
set_option maxHeartbeats 4000000
variable {gl : Glob}

/-- Its names are no longer than texts may be, its lists as well. -/
def okN (s : List UInt8) (n : Nat) : Prop := s.length ≤ 9223372036854775807 ∧ n ≤ 9223372036854775807
mutual
def okE : Ex → Prop
  | .mk _ _ s k => okN s k.length ∧ okL k
def okL : List Ex → Prop
  | [] => True
  | e :: l => okE e ∧ okL l
end
theorem okL_get : ∀ {l : List Ex}, okL l → ∀ e ∈ l, okE e
  | x :: l, h, e, he => by
    simp only [okL] at h
    rcases List.mem_cons.1 he with rfl | he
    · exact h.1
    · exact okL_get h.2 e he
theorem okE_kids : ∀ {e : Ex}, okE e → okN e.name e.kids.length ∧ okL e.kids
  | .mk _ _ s k, h => by simp only [okE] at h; exact h

/-! how many kids -/
def kidsI (op : Int) : Int := if op = 1 ∨ op = 2 then 0 else if op = 3 ∨ op = 4 then 1 else if 5 ≤ op ∧ op ≤ 16 then 2 else -1
theorem kids_ok (op : Int) : ValOK Tryd.prog gl 77 [.int .i64 op] (.int .i64 (kidsI op)) := by
  refine fn_val follows noNum none_sound Tryd.func77 rfl ?_
  repeat' ((conv => whnf); first | refine stp ?_ | with_reducible refine condB (fun h => ?_) (fun h => ?_))
  all_goals (show AV.int _ _ = AV.int _ _; congr 1; unfold kidsI; simp only [beq_iff_eq, decide_eq_true_eq, beq_eq_false_iff_ne, decide_eq_false_iff_not, ge_iff_le, Int.not_le] at *)
  all_goals (repeat' split)
  all_goals omega

/-! few parts -/
mutual
def heftE : Ex → Int → Int
  | .mk _ _ s k, l => heftL k (l - 1 - (s.length / 20 : Nat))
def heftL : List Ex → Int → Int
  | [], l => l
  | e :: k, l => if 0 ≤ l then heftL k (heftE e l) else l
end
mutual
theorem heftE_size : ∀ (e : Ex) (l : Int), 0 ≤ heftE e l → (sizeE e : Int) + heftE e l ≤ l
  | .mk _ _ s k, l, h => by
    simp only [heftE, sizeE] at *
    have := heftL_size k _ h; omega
theorem heftL_size : ∀ (k : List Ex) (l : Int), 0 ≤ heftL k l → (sizeL k : Int) + heftL k l ≤ l
  | [], l, h => by simp only [heftL, sizeL] at *; omega
  | e :: k, l, h => by
    simp only [heftL, sizeL] at *
    split at h
    · rename_i hl
      rw [if_pos hl]
      have h1 := heftL_size k _ h
      have h2 : 0 ≤ heftE e l := by omega
      have h3 := heftE_size e l h2
      omega
    · omega
end
mutual
theorem heftE_le : ∀ (e : Ex) (l : Int), heftE e l ≤ l
  | .mk _ _ s k, l => by simp only [heftE]; have := heftL_le k (l - 1 - (s.length / 20 : Nat)); omega
theorem heftL_le : ∀ (k : List Ex) (l : Int), heftL k l ≤ l
  | [], l => by simp only [heftL]; omega
  | e :: k, l => by
    simp only [heftL]
    split
    · have := heftL_le k (heftE e l); have := heftE_le e l; omega
    · omega
end
mutual
theorem heftE_ge : ∀ (e : Ex) (l : Int), okE e → 0 ≤ l → -9000000000000000000 ≤ heftE e l
  | .mk _ _ s k, l, h, h2 => by
    simp only [okE, okN] at h; simp only [heftE]
    exact heftL_ge k _ h.2 (by omega)
theorem heftL_ge : ∀ (k : List Ex) (l : Int), okL k → -9000000000000000000 ≤ l → -9000000000000000000 ≤ heftL k l
  | [], l, h, h2 => by simp only [heftL]; exact h2
  | e :: k, l, h, h2 => by
    simp only [okL] at h
    simp only [heftL]
    split
    · exact heftL_ge k _ h.2 (heftE_ge e l h.1 (by assumption))
    · exact h2
end
theorem heftL_at : ∀ (k : List Ex) (l : Int) (i : Nat) (h : i < k.length), heftL (k.take (i + 1)) l = if 0 ≤ heftL (k.take i) l then heftE k[i] (heftL (k.take i) l) else heftL (k.take i) l
  | e :: k, l, 0, h => by simp only [List.take_succ_cons, List.take_zero, heftL, List.getElem_cons_zero]
  | e :: k, l, i + 1, h => by
    have ih := fun l => heftL_at k l i (by simpa using h)
    simp only [List.take_succ_cons, heftL, List.getElem_cons_succ] at ih ⊢
    split
    · exact ih _
    · rename_i h2; simp [h2]
theorem heftL_stop : ∀ (k : List Ex) (l : Int) (i : Nat), heftL (k.take i) l < 0 → heftL k l = heftL (k.take i) l
  | [], l, i, h => by simp [heftL]
  | e :: k, l, 0, h => by
    simp only [List.take_zero, heftL] at *
    rw [if_neg (by omega)]
  | e :: k, l, i + 1, h => by
    simp only [List.take_succ_cons, heftL] at *
    split
    · rename_i hl
      rw [if_pos hl] at h
      exact heftL_stop k _ i h
    · rfl
theorem heft_ok : ∀ (n : Nat) (e : Ex) (l : Int), sizeE e ≤ n → okE e → 0 ≤ l → l ≤ 1048576 → ValOK Tryd.prog gl 45 [.agg e.cells, .int .i64 l] (.int .i64 (heftE e l))
  | 0, e, l, h, _, _, _ => by have := sizeE_pos e; omega
  | n + 1, .mk op num name kids, l, h, hok, hl0, hl1 => by
    simp only [sizeE] at h
    obtain ⟨⟨hn1, hn2⟩, hok2⟩ := okE_kids hok
    simp only [Ex.name, Ex.kids] at hn1 hn2 hok2
    obtain ⟨O, hO, q, -⟩ := fams (P := Tryd.prog) (gl := gl) [{ I := Ex × Int, f := 45, G := fun p => p.1 ∈ kids ∧ 0 ≤ p.2 ∧ p.2 ≤ 1048576, A := fun p => [.agg p.1.cells, .int .i64 p.2], R := fun p => .int .i64 (heftE p.1 p.2), body := (by kernel_rfl), inj := (fun i j _ _ h => by simp only [List.cons.injEq, AV.agg.injEq, AV.int.injEq, and_true, true_and] at h; rw [cells_inj _ _ h.1, h.2]), ok := (fun p hp => ⟨by have := ex_refs p.1; simpa [refsL, refs] using this, heft_ok n p.1 p.2 (by have := sizeL_mem _ _ hp.1; omega) (okL_get hok2 _ hp.1) hp.2.1 hp.2.2⟩) }] rfl
    have q20 : Int.tdiv (name.length : Int) 20 = ((name.length / 20 : Nat) : Int) := rfl
    have w1 : IntKind.i64.wrap (l - 1) = l - 1 := wrapB (by omega) (by omega)
    have w2 : IntKind.i64.wrap (Int.tdiv (name.length : Int) 20) = ((name.length / 20 : Nat) : Int) := by rw [q20]; exact wrapB (by omega) (by omega)
    have w3 : IntKind.i64.wrap (l - 1 - ((name.length / 20 : Nat) : Int)) = l - 1 - ((name.length / 20 : Nat) : Int) := wrapB (by omega) (by omega)
    simp only [Ex.cells, heftE]
    refine fn_val follows noNum hO Tryd.func45 rfl ?_
    repeat' ((conv => whnf); first | (with_reducible refine exW w1 ?_) | (refine And.intro (show (20 : Int) ≠ 0 by decide) ?_) | (rw [w2]) | (with_reducible refine exW w3 ?_) | (first | refine stp ?_ | with_reducible refine condB (fun h => ?_) (fun h => ?_)))
    conv => whnf
    generalize hl00 : l - 1 - ((name.length / 20 : Nat) : Int) = l0 at *
    refine ⟨Nat, (fun i => i ≤ kids.length), (fun i => [(1, .int .i64 (heftL (kids.take i) l0)), (2, .ptr 0 0), (5, .int .i64 i)]), (fun _ => [⟨true, 0, 0, .cells [.int .i64 op, .int .i64 num, .str name, .rs kids.length 4 (exC kids)] 36⟩]), (fun i => kids.length - i), ⟨0, Nat.zero_le _, FgL.mk [0] rfl ?_ ⟨⟨rfl, rfl, rfl, rfl, BodyGe.pre (rest := []) rfl rfl⟩, trivial⟩ rfl⟩, ?_⟩
    · simp only [List.take_zero, heftL]; (repeat (first | exact trivial | refine stw ?_))
    intro i hi
    dsimp only
    have hle := heftL_le (kids.take i) l0
    by_cases hlt : i < kids.length
    · have e1 : decide ((i : Int) < (kids.length : Int)) = true := by simpa using hlt
      by_cases hpos : 0 ≤ heftL (kids.take i) l0
      · have e2 : decide (heftL (kids.take i) l0 ≥ 0) = true := by simpa using hpos
        have hx := ex4 kids i hlt
        have hs := heftL_at kids l0 i hlt
        rw [if_pos hpos] at hs
        have hc' : ∀ H, acall Tryd.prog O H 45 [.agg kids[i].cells, .int .i64 (heftL (kids.take i) l0)] = some (.int .i64 (heftE kids[i] (heftL (kids.take i) l0)), H) := q (kids[i], _) ⟨get_mem hlt, hpos, by show heftL (kids.take i) l0 ≤ 1048576; omega⟩
        generalize kids[i] = k at *
        repeat' ((conv => whnf); first | (refine exI hx ?_) | (refine exI (hc' _) ?_) | (with_reducible refine ixJ i rfl ?_ ?_; (focus (omega))) | (first | refine stp ?_ | with_reducible refine condB (fun h => ?_) (fun h => ?_)))
        conv => whnf
        refine ⟨i + 1, hlt, by show kids.length - (i + 1) < kids.length - i; omega, FgL.mk [0] rfl ?_ ⟨⟨rfl, rfl, rfl, rfl, BodyGe.pre (rest := []) rfl rfl⟩, trivial⟩ rfl⟩
        rw [hs]; (repeat (first | exact trivial | refine stw ?_))
      · have e2 : decide (heftL (kids.take i) l0 ≥ 0) = false := by simpa using hpos
        have hst := heftL_stop kids l0 i (by omega)
        rw [hst]
        repeat' ((conv => whnf); first | refine stp ?_ | with_reducible refine condB (fun h => ?_) (fun h => ?_))
        rfl
    · have e1 : decide ((i : Int) < (kids.length : Int)) = false := by simpa using hlt
      have hi2 : i = kids.length := by have := hi; omega
      subst hi2
      rw [List.take_length]
      repeat' ((conv => whnf); first | refine stp ?_ | with_reducible refine condB (fun h => ?_) (fun h => ?_))
      rfl
theorem light_ok (e : Ex) (l : Int) (hok : okE e) (hl0 : 0 ≤ l) (hl1 : l ≤ 1048576) : ValOK Tryd.prog gl 14 [.agg e.cells, .int .i64 l] (.bool (decide (0 ≤ heftE e l))) := by
  have hO := orcF_sound (P := Tryd.prog) (gl := gl) (l := [(45, [.agg e.cells, .int .i64 l], .int .i64 (heftE e l))]) ⟨by have := ex_refs e; simpa [refsL, refs] using this, heft_ok _ e l (Nat.le_refl _) hok hl0 hl1, trivial⟩
  have q : ∀ H, acall Tryd.prog (orcF [(45, [.agg e.cells, .int .i64 l], .int .i64 (heftE e l))]) H 45 [.agg e.cells, .int .i64 l] = some (.int .i64 (heftE e l), H) := fun H => callF (by kernel_rfl) findF_here
  obtain ⟨op, num, name, kids⟩ := e
  simp only [Ex.cells] at *
  refine fn_val follows noNum hO Tryd.func14 rfl ?_
  repeat' ((conv => whnf); first | (refine exI (q _) ?_) | (first | refine stp ?_ | with_reducible refine condB (fun h => ?_) (fun h => ?_)))
  all_goals rfl

/-! may it be -/
def ownF (op num : Int) (name : List UInt8) (n : Nat) : Bool := kidsI op == (n : Int) && ((op == 2) == wordB name && ((op == 2 || name == []) && (decide (0 ≤ num) && (op == 1 || num == 0))))
def ownE (e : Ex) : Bool := ownF e.op e.num e.name e.kids.length
mutual
def rightE : Ex → Bool
  | .mk o n s k => ownF o n s k.length && rightL k
def rightL : List Ex → Bool
  | [] => true
  | e :: l => rightE e && rightL l
end
theorem rightE_eq : ∀ e : Ex, rightE e = (ownE e && rightL e.kids)
  | .mk _ _ _ _ => by simp only [rightE, Ex.kids, ownE, Ex.op, Ex.num, Ex.name]
theorem rightL_get : ∀ {l : List Ex} {i : Nat} (h : i < l.length), rightE l[i] = false → rightL l = false
  | e :: l, 0, h, h2 => by simp only [List.getElem_cons_zero] at h2; simp only [rightL, h2, Bool.false_and]
  | e :: l, i + 1, h, h2 => by simp only [List.getElem_cons_succ] at h2; simp only [rightL, rightL_get (l := l) (by simpa using h) h2, Bool.and_false]
theorem rightL_all : ∀ {l : List Ex}, (∀ i (h : i < l.length), rightE l[i] = true) → rightL l = true
  | [], _ => rfl
  | e :: l, h => by
    have h0 := h 0 (by simp)
    simp only [List.getElem_cons_zero] at h0
    simp only [rightL, h0, Bool.true_and]
    exact rightL_all fun i hi => by have := h (i + 1) (by simpa using hi); simpa using this
theorem rightL_take : ∀ (l : List Ex) (i : Nat) (h : i < l.length), rightL (l.take (i + 1)) = (rightL (l.take i) && rightE l[i])
  | e :: l, 0, h => by simp only [List.take_succ_cons, List.take_zero, rightL, List.getElem_cons_zero, Bool.and_true, Bool.true_and]
  | e :: l, i + 1, h => by
    have := rightL_take l i (by simpa using h)
    simp only [List.take_succ_cons, rightL, List.getElem_cons_succ] at this ⊢; rw [this, Bool.and_assoc]
theorem rightL_stop : ∀ (l : List Ex) (i : Nat), rightL (l.take i) = false → rightL l = false
  | [], i, h => by simpa using h
  | e :: l, 0, h => by simp only [List.take_zero, rightL] at h; cases h
  | e :: l, i + 1, h => by
    simp only [List.take_succ_cons, rightL, Bool.and_eq_false_iff] at h ⊢
    rcases h with h | h
    · exact .inl h
    · exact .inr (rightL_stop l i h)
theorem right_ok : ∀ (n : Nat) (e : Ex), sizeE e ≤ n → okE e → ValOK Tryd.prog gl 50 [.agg e.cells] (.bool (rightE e))
  | 0, e, h, _ => by have := sizeE_pos e; omega
  | n + 1, .mk op num name kids, h, hok => by
    simp only [sizeE] at h
    obtain ⟨⟨hn1, hn2⟩, hok2⟩ := okE_kids hok
    simp only [Ex.name, Ex.kids] at hn1 hn2 hok2
    obtain ⟨O, hO, p1, p2, p3, -⟩ := fams (P := Tryd.prog) (gl := gl) [{ I := Unit, f := 77, G := fun _ => True, A := fun _ => [.int .i64 op], R := fun _ => .int .i64 (kidsI op), body := by kernel_rfl, inj := fun _ _ _ _ _ => rfl, ok := fun _ _ => ⟨rfl, kids_ok _⟩ },
      { I := Unit, f := 46, G := fun _ => True, A := fun _ => [.str name], R := fun _ => .bool (wordB name), body := by kernel_rfl, inj := fun _ _ _ _ _ => rfl, ok := fun _ _ => ⟨rfl, wordRef_ok _ hn1⟩ },
      famE (g := 50) (by kernel_rfl) (fun k => .bool (rightE k)) kids fun k hk => right_ok n k (by have := sizeL_mem _ _ hk; omega) (okL_get hok2 _ hk)] rfl
    have q1 : ∀ H, acall Tryd.prog O H 77 [.int .i64 op] = some (.int .i64 (kidsI op), H) := p1 () trivial
    have q2 : ∀ H, acall Tryd.prog O H 46 [.str name] = some (.bool (wordB name), H) := p2 () trivial
    have q3 : ∀ i (h : i < kids.length) H, acall Tryd.prog O H 50 [.agg kids[i].cells] = some (.bool (rightE kids[i]), H) := fun i h => p3 _ (get_mem h)
    clear p1 p2 p3
    simp only [Ex.cells]
    refine fn_val follows noNum hO Tryd.func50 rfl ?_
    have hop : (op == 2) = true ∨ (op == 2) = false := by cases (op == 2) <;> simp
    obtain ⟨w, hw⟩ : ∃ w, wordB name = w := ⟨_, rfl⟩
    rw [hw] at q2
    cases w <;> rcases hop with hop | hop
    all_goals (repeat' ((conv => whnf); first | (refine exI (q1 _) ?_) | (refine exI (q2 _) ?_) | (first | refine stp ?_ | with_reducible refine condB (fun h => ?_) (fun h => ?_))))
    all_goals (first | (clear q1 q2 q3 hO; simp only [rightE]; (first | (simp_all [resOf, ownF]; done) | (simp_all [resOf, ownF]; intros; omega))) | skip)
    all_goals (have hown : ownF op num name kids.length = true := by (clear q1 q2 q3 hO; simp_all [ownF]))
    all_goals (conv => whnf)
    all_goals refine ⟨Nat, (fun i => i ≤ kids.length ∧ rightL (kids.take i) = true), (fun i => [(1, .ptr 0 0), (3, .int .i64 i)]), (fun _ => [⟨true, 0, 0, .cells [.int .i64 op, .int .i64 num, .str name, .rs kids.length 4 (exC kids)] 36⟩]), (fun i => kids.length - i), ⟨0, ⟨Nat.zero_le _, rfl⟩, FgL.mk [0] rfl ?_ ⟨⟨rfl, rfl, rfl, rfl, BodyGe.pre (rest := []) rfl rfl⟩, trivial⟩ rfl⟩, ?_⟩
    all_goals first | ((repeat (first | exact trivial | refine stw ?_)); done) | skip
    all_goals (
      rintro i ⟨hi, hall⟩
      dsimp only
      by_cases hlt : i < kids.length
      · have e1 : decide ((i : Int) < (kids.length : Int)) = true := by simpa using hlt
        have hx := ex4 kids i hlt
        have q3' := q3 i hlt
        have ht := rightL_take kids i hlt
        rw [hall, Bool.true_and] at ht
        cases hr : rightE kids[i] with
        | true =>
          rw [hr] at q3' ht
          generalize kids[i] = k at *
          repeat' ((conv => whnf); first | (refine exI hx ?_) | (refine exI (q3' _) ?_) | (with_reducible refine ixJ i rfl ?_ ?_; (focus (omega))) | (first | refine stp ?_ | with_reducible refine condB (fun h => ?_) (fun h => ?_)))
          conv => whnf
          refine ⟨i + 1, ⟨hlt, ht⟩, by show kids.length - (i + 1) < kids.length - i; omega, FgL.mk [0] rfl ?_ ⟨⟨rfl, rfl, rfl, rfl, BodyGe.pre (rest := []) rfl rfl⟩, trivial⟩ rfl⟩
          (repeat (first | exact trivial | refine stw ?_))
        | false =>
          have hf := rightL_get hlt hr
          rw [hr] at q3'
          generalize kids[i] = k at *
          repeat' ((conv => whnf); first | (refine exI hx ?_) | (refine exI (q3' _) ?_) | (with_reducible refine ixJ i rfl ?_ ?_; (focus (omega))) | (first | refine stp ?_ | with_reducible refine condB (fun h => ?_) (fun h => ?_)))
          simp only [rightE, hf, Bool.and_false]; rfl
      · have e1 : decide ((i : Int) < (kids.length : Int)) = false := by simpa using hlt
        have hi2 : i = kids.length := by have := hi; omega
        subst hi2
        rw [List.take_length] at hall
        repeat' ((conv => whnf); (first | refine stp ?_ | with_reducible refine condB (fun h => ?_) (fun h => ?_)))
        simp only [rightE, hall, hown, Bool.and_true]; rfl)

/-! CheckExpr -/
def checkE (e : Ex) : Int := if 2000 < sizeE e ∨ 32 < deepE e then 3 else if rightE e then 0 else 2
theorem checkER_ok (e : Ex) (hok : okE e) (hs : sizeE e ≤ 1048576) : ValOK Tryd.prog gl 16 [.agg e.cells] (.int .i64 (checkE e)) := by
  have hd := deepE_size e
  obtain ⟨O, hO, p1, p2, p3, -⟩ := fams (P := Tryd.prog) (gl := gl) [famE (g := 48) (by kernel_rfl) (fun k => .int .i64 (sizeE k)) [e] fun k hk => by rw [List.mem_singleton.1 hk]; exact sizeR_ok _ e (Nat.le_refl _) hs,
    famE (g := 49) (by kernel_rfl) (fun k => .int .i64 (deepE k)) [e] fun k hk => by rw [List.mem_singleton.1 hk]; exact deepR_ok _ e (Nat.le_refl _) hs,
    famE (g := 50) (by kernel_rfl) (fun k => .bool (rightE k)) [e] fun k hk => by rw [List.mem_singleton.1 hk]; exact right_ok _ e (Nat.le_refl _) hok] rfl
  have q1 : ∀ H, acall Tryd.prog O H 48 [.agg e.cells] = some (.int .i64 (sizeE e), H) := p1 e (by show e ∈ [e]; simp)
  have q2 : ∀ H, acall Tryd.prog O H 49 [.agg e.cells] = some (.int .i64 (deepE e), H) := p2 e (by show e ∈ [e]; simp)
  have q3 : ∀ H, acall Tryd.prog O H 50 [.agg e.cells] = some (.bool (rightE e), H) := p3 e (by show e ∈ [e]; simp)
  clear p1 p2 p3
  unfold checkE
  generalize sizeE e = n at *
  generalize deepE e = d at *
  generalize rightE e = r at *
  obtain ⟨op, num, name, kids⟩ := e
  simp only [Ex.cells] at *
  refine fn_val follows noNum hO Tryd.func16 rfl ?_
  repeat' ((conv => whnf); first | (refine exI (q1 _) ?_) | (refine exI (q2 _) ?_) | (refine exI (q3 _) ?_) | (first | refine stp ?_ | with_reducible refine condB (fun h => ?_) (fun h => ?_)))
  all_goals (show AV.int _ _ = AV.int _ _; congr 1; clear q1 q2 q3 hO; simp only [decide_eq_true_eq, decide_eq_false_iff_not, Bool.not_eq_true', Bool.not_eq_false'] at *)
  all_goals (repeat' split)
  all_goals (first | rfl | omega | (simp_all; done) | (exfalso; simp_all; omega))
end Go.Proofs.YtajhailaofchlaaDoor.lex
end

/-
  The program's walk through expressions, whatever function it tells of each; what that function keeps in memory.
-/
section
set_option linter.unusedVariables false
set_option linter.unusedSimpArgs false
namespace Go.Proofs.YtajhailaofchlaaDoor.lex
open Go.Abs Go.RowKit
set_option maxRecDepth 100000
set_option maxHeartbeats 4000000

theorem FgLK.same {k : Nat} {t0 tm : Tr} {H : AHeap} {l : List (Nat × AV)} (h1 : subT t0 tm = true) (hs : SlotsGe (List.range k) tm l) (hH : HpGe H (List.range k) (List.range k) H 0 ∧ nodupN ((List.range k).map (famOf H)) = true ∧ pref k 0 (List.range k) = true) : FgLK k t0 tm H l H := by
  unfold FgLK
  rw [h1]
  exact ⟨List.range k, hH.2.2, hs, hH.1, hH.2.1⟩

/-- What is told of each expression, and what is kept. -/
structure TvE (gl : Glob) where
  σ : Type
  Mem : σ → AHeap
  k : Nat
  len : ∀ s, (Mem s).length = k
  same : ∀ s, HpGe (Mem s) (List.range k) (List.range k) (Mem s) 0 ∧ nodupN ((List.range k).map (famOf (Mem s))) = true ∧ pref k 0 (List.range k) = true
  evo : ∀ s s', evoB k (Mem s) (Mem s') = true
  inj : ∀ s s', Mem s = Mem s' → s = s'
  I : Int → σ → Nat → Prop
  up : ∀ d s m, 0 ≤ d → I (d + 1) s m → I d s m
  less : ∀ d s m, I d s (m + 1) → I d s m
  bnd : ∀ d s m, I d s m → 0 ≤ d ∧ d ≤ 1152921504606846976
  gE : Nat
  cE : List AV
  hE : Ex → Int → σ → Bool × σ
  bodyE : hasBody Tryd.prog gE = true
  wkE : WkL (List.range k) cE cE
  okE : ∀ e rest d s m, okE e → I d s (m + 1) → MemOK Tryd.prog gl gE ([.rp (e.cells ++ rest), .int .i64 d] ++ cE) (Mem s) (.bool (hE e d s).1) (Mem (hE e d s).2)
  downE : ∀ e d s m, I d s (m + 1) → (hE e d s).1 = true → I (d + 1) (hE e d s).2 m

section
variable {σ : Type}
mutual
def goE (h : Ex → Int → σ → Bool × σ) : Ex → Int → σ → Bool × σ
  | .mk o n s k, d, t => if (h (.mk o n s k) d t).1 = true then goL h k (d + 1) (h (.mk o n s k) d t).2 else (false, (h (.mk o n s k) d t).2)
def goL (h : Ex → Int → σ → Bool × σ) : List Ex → Int → σ → Bool × σ
  | [], d, t => (true, t)
  | e :: l, d, t => if (goE h e d t).1 = true then goL h l d (goE h e d t).2 else (false, (goE h e d t).2)
end
variable {h : Ex → Int → σ → Bool × σ}
theorem goE_eq (e : Ex) (d : Int) (t : σ) : goE h e d t = if (h e d t).1 = true then goL h e.kids (d + 1) (h e d t).2 else (false, (h e d t).2) := by
  obtain ⟨o, n, s, k⟩ := e
  simp only [goE, Ex.kids]
theorem goL_at : ∀ (l : List Ex) (d : Int) (t : σ) (i : Nat) (hi : i < l.length), (goL h (l.take i) d t).1 = true → goL h (l.take (i + 1)) d t = goE h l[i] d (goL h (l.take i) d t).2
  | e :: l, d, t, 0, _, _ => by
    simp only [List.take_zero, List.take_succ_cons, goL, List.getElem_cons_zero]
    split
    · rename_i h2; rw [← h2]
    · rename_i h2; rw [← Bool.eq_false_iff.2 h2]
  | e :: l, d, t, i + 1, hi, ht => by
    simp only [List.take_succ_cons, goL, List.getElem_cons_succ] at ht ⊢
    split
    · rename_i h2
      rw [if_pos h2] at ht
      exact goL_at l d _ i (by simpa using hi) ht
    · rename_i h2; rw [if_neg h2] at ht; cases ht
theorem goL_stop : ∀ (l : List Ex) (d : Int) (t : σ) (i : Nat), (goL h (l.take i) d t).1 = false → goL h l d t = goL h (l.take i) d t
  | [], d, t, i, hf => by simp
  | e :: l, d, t, 0, hf => by simp only [List.take_zero, goL] at hf; cases hf
  | e :: l, d, t, i + 1, hf => by
    simp only [List.take_succ_cons, goL] at hf ⊢
    split
    · rename_i h2
      rw [if_pos h2] at hf
      exact goL_stop l d _ i hf
    · rfl
end
section
variable {gl : Glob} (V : TvE gl)
def TvE.F : AV := .func (.func V.gE) [] V.cE
mutual
theorem TvE.keepE : ∀ (e : Ex) (d : Int) (s : V.σ) (m : Nat), V.I d s (sizeE e + m) → (goE V.hE e d s).1 = true → V.I d (goE V.hE e d s).2 m
  | .mk o n t k, d, s, m, hI, ht => by
    simp only [goE, sizeE] at hI ht ⊢
    split
    · rename_i h2
      rw [if_pos h2] at ht
      have h3 := V.downE _ d s (sizeL k + m) (by rw [show 1 + sizeL k + m = sizeL k + m + 1 from by omega] at hI; exact hI) h2
      exact V.up _ _ _ (V.bnd _ _ _ hI).1 (TvE.keepL k (d + 1) _ m h3 ht)
    · rename_i h2; rw [if_neg h2] at ht; cases ht
theorem TvE.keepL : ∀ (l : List Ex) (d : Int) (s : V.σ) (m : Nat), V.I d s (sizeL l + m) → (goL V.hE l d s).1 = true → V.I d (goL V.hE l d s).2 m
  | [], d, s, m, hI, ht => by simp only [goL, sizeL, Nat.zero_add] at hI ⊢; exact hI
  | e :: l, d, s, m, hI, ht => by
    simp only [goL, sizeL] at hI ht ⊢
    split
    · rename_i h2
      rw [if_pos h2] at ht
      exact TvE.keepL l d _ m (TvE.keepE e d s (sizeL l + m) (by rw [← Nat.add_assoc]; exact hI) h2) ht
    · rename_i h2; rw [if_neg h2] at ht; cases ht
end
theorem TvE.refsF : allLt V.k (refs (.bool true) []) = true := rfl
theorem kid_cell (e : Ex) (rest : List AV) : tk 1 ((e.cells ++ rest).drop 3) = some [exA e.kids] := by
  obtain ⟨o, n, s, k⟩ := e
  simp only [Ex.cells, exA, Ex.kids]; rfl
theorem TvE.fin (s t : V.σ) (b : Bool) : List.take V.k (V.Mem t) = V.Mem t ∧ (allLt V.k (refs (AV.bool b) []) && evoB V.k (V.Mem s) (V.Mem t)) = true :=
  ⟨List.take_of_length_le (by rw [V.len]; exact Nat.le_refl _), by rw [V.evo]; rfl⟩
theorem TvE.exprs (hf : Tryd.prog.follows .mixedOrders = true) : ∀ (n : Nat) (l : List Ex) (d : Int) (s : V.σ) (m : Nat), sizeL l ≤ n → okL l → l.length ≤ 9223372036854775807 → V.I d s (sizeL l + m) →
    MemOK Tryd.prog gl 41 [exA l, .int .i64 d, V.F] (V.Mem s) (.bool (goL V.hE l d s).1) (V.Mem (goL V.hE l d s).2)
  | n, l, d, s, m, hn, hok, hl, hI => by
    have hF : ∃ O, OrcSound Tryd.prog gl O ∧ (∀ (i : Nat) (hi : i < l.length) (t : V.σ) (q : Nat), n ≠ 0 → V.I (d + 1) t (sizeL l[i].kids + q) → acall Tryd.prog O (V.Mem t) 41 [exA l[i].kids, .int .i64 (d + 1), V.F] = some (.bool (goL V.hE l[i].kids (d + 1) t).1, V.Mem (goL V.hE l[i].kids (d + 1) t).2)) ∧
        (∀ (i : Nat) (hi : i < l.length) (t : V.σ) (q : Nat), V.I d t (q + 1) → acall Tryd.prog O (V.Mem t) V.gE ([.rp ((exC l).drop (i * 4)), .int .i64 d] ++ V.cE) = some (.bool (V.hE l[i] d t).1, V.Mem (V.hE l[i] d t).2)) := by
      have s1 := orcI_sound (P := Tryd.prog) (gl := gl) (I := Nat × V.σ × Nat) (G := fun p => ∃ hp : p.1 < l.length, n ≠ 0 ∧ V.I (d + 1) p.2.1 (sizeL l[p.1].kids + p.2.2)) (fF := fun _ => 41) (fA := fun p => [exA (l.getD p.1 default).kids, .int .i64 (d + 1), V.F]) (fH := fun p => V.Mem p.2.1) (fR := fun p => .bool (goL V.hE (l.getD p.1 default).kids (d + 1) p.2.1).1) (fO := fun p => V.Mem (goL V.hE (l.getD p.1 default).kids (d + 1) p.2.1).2) fun p hp => by
        obtain ⟨hp, h0, h1⟩ := hp
        have hg : l.getD p.1 default = l[p.1] := by simp [List.getD_eq_getElem?_getD, hp]
        rw [hg]
        have hke := okL_get hok _ (get_mem hp)
        have hsz := sizeL_mem _ _ (get_mem hp)
        have hsk := sizeE_kids l[p.1]
        match n, hn, h0 with
        | n + 1, hn, _ => exact TvE.exprs hf n _ (d + 1) p.2.1 p.2.2 (by omega) (okE_kids hke).2 (okE_kids hke).1.2 h1
      have s2 := orcI_sound (P := Tryd.prog) (gl := gl) (I := Nat × V.σ × Nat) (G := fun p => p.1 < l.length ∧ V.I d p.2.1 (p.2.2 + 1)) (fF := fun _ => V.gE) (fA := fun p => [.rp ((exC l).drop (p.1 * 4)), .int .i64 d] ++ V.cE) (fH := fun p => V.Mem p.2.1) (fR := fun p => .bool (V.hE (l.getD p.1 default) d p.2.1).1) (fO := fun p => V.Mem (V.hE (l.getD p.1 default) d p.2.1).2) fun p hp => by
        obtain ⟨hp, h1⟩ := hp
        have hg : l.getD p.1 default = l[p.1] := by simp [List.getD_eq_getElem?_getD, hp]
        have hke := okL_get hok _ (get_mem hp)
        simp only [hg]
        rw [exC_at l p.1 hp]
        exact V.okE _ _ _ _ _ hke h1
      refine ⟨_, orcOr_sound s1 s2, fun i hi t q h0 h1 => ?_, fun i hi t q h1 => ?_⟩
      · have hg : l.getD i default = l[i] := by simp [List.getD_eq_getElem?_getD, hi]
        have := callI (P := Tryd.prog) (I := Nat × V.σ × Nat) (G := fun p => ∃ hp : p.1 < l.length, n ≠ 0 ∧ V.I (d + 1) p.2.1 (sizeL l[p.1].kids + p.2.2)) (fF := fun _ => 41) (fA := fun p => [exA (l.getD p.1 default).kids, .int .i64 (d + 1), V.F]) (fH := fun p => V.Mem p.2.1) (fR := fun p => .bool (goL V.hE (l.getD p.1 default).kids (d + 1) p.2.1).1) (fO := fun p => V.Mem (goL V.hE (l.getD p.1 default).kids (d + 1) p.2.1).2)
          (fun p q _ _ _ ha hh => by
            have e2 := V.inj _ _ hh
            simp only [List.cons.injEq, and_true, true_and] at ha
            rw [exA_inj ha, e2]; exact ⟨rfl, rfl⟩) (g := 41) (args := [exA l[i].kids, .int .i64 (d + 1), V.F]) (H := V.Mem t) (by kernel_rfl) (i, t, q) ⟨hi, h0, h1⟩ rfl (by rw [hg]) rfl
        simp only [hg] at this
        exact callOr1 (by kernel_rfl) this
      · have hg : l.getD i default = l[i] := by simp [List.getD_eq_getElem?_getD, hi]
        refine callOr2 V.bodyE (orcI_none fun p _ _ ha => ?_) ?_
        · have := congrArg (fun a => a.head?) ha
          simp [exA] at this
        · have := callI (P := Tryd.prog) (I := Nat × V.σ × Nat) (G := fun p => p.1 < l.length ∧ V.I d p.2.1 (p.2.2 + 1)) (fF := fun _ => V.gE) (fA := fun p => [.rp ((exC l).drop (p.1 * 4)), .int .i64 d] ++ V.cE) (fH := fun p => V.Mem p.2.1) (fR := fun p => .bool (V.hE (l.getD p.1 default) d p.2.1).1) (fO := fun p => V.Mem (V.hE (l.getD p.1 default) d p.2.1).2)
            (fun p q hp hq _ ha hh => by
              have e2 := V.inj _ _ hh
              simp only [List.cons_append, List.nil_append, List.cons.injEq, AV.rp.injEq, true_and, and_true] at ha
              have := congrArg List.length ha
              simp only [List.length_drop, exC_len] at this
              have e : p.1 = q.1 := by have := hp.1; have := hq.1; omega
              rw [e, e2]; exact ⟨rfl, rfl⟩) (g := V.gE) (args := [.rp ((exC l).drop (i * 4)), .int .i64 d] ++ V.cE) (H := V.Mem t) V.bodyE (i, t, q) ⟨hi, h1⟩ rfl rfl rfl
          simp only [hg] at this
          exact this
    obtain ⟨O, hO, q2, q1⟩ := hF
    have hbd := V.bnd _ _ _ hI
    have w1 : IntKind.i64.wrap (d + 1) = d + 1 := wrapB (by omega) (by omega)
    simp only [exA, TvE.F] at q2 ⊢
    refine fn_mem (k := V.k) follows noNum hO (V.len s) Tryd.func41 rfl (cw0_ok _ _) ?_
    repeat' ((conv => whnf); first | (rw [frcHW_eq]) | (first | refine stp ?_ | with_reducible refine condB (fun h => ?_) (fun h => ?_)))
    conv => whnf
    refine ⟨Nat, (fun i => i ≤ l.length ∧ (goL V.hE (l.take i) d s).1 = true), (fun i => [(0, .rs l.length 4 (exC l)), (1, .int .i64 d), (2, .func (.func V.gE) [] V.cE), (9, .int .i64 l.length), (10, .int .i64 i)]), (fun i => V.Mem (goL V.hE (l.take i) d s).2), (fun i => l.length - i), ⟨0, ⟨Nat.zero_le _, by simp only [List.take_zero, goL]⟩, ?_⟩, ?_⟩
    · simp only [List.take_zero, goL]
      refine FgLK.same rfl ?_ (V.same _)
      refine And.intro (Wk.noref rfl) ?_
      refine And.intro (Wk.noref rfl) ?_
      refine And.intro (Wk.func trivial V.wkE) ?_
      refine And.intro (Wk.int rfl) ?_
      exact ⟨Wk.int rfl, trivial⟩
    rintro i ⟨hi, hall⟩
    dsimp only
    conv => whnf
    rw [frcHW_eq]
    by_cases hlt : i < l.length
    · have e1 : decide ((i : Int) < (l.length : Int)) = true := by simpa using hlt
      have hat := goL_at (h := V.hE) l d s i hlt hall
      have hI2 : V.I d (goL V.hE (l.take i) d s).2 (sizeL (l.drop i) + m) := V.keepL (l.take i) d s (sizeL (l.drop i) + m) (by
        have := sizeL_get l i hlt
        have e : sizeL (l.drop i) = sizeE l[i] + sizeL (l.drop (i + 1)) := by rw [List.drop_eq_getElem_cons hlt]; simp only [sizeL]
        have e2 : sizeL (l.take i) + (sizeL (l.drop i) + m) = sizeL l + m := by omega
        rw [e2]; exact hI) hall
      generalize (goL V.hE (l.take i) d s).2 = t at *
      have esz : sizeL (l.drop i) + m = (sizeL l[i].kids + (sizeL (l.drop (i + 1)) + m)) + 1 := by
        rw [List.drop_eq_getElem_cons hlt]; simp only [sizeL]; have := sizeE_kids l[i]; omega
      rw [esz] at hI2
      have q1' := q1 i hlt t _ hI2
      have hd2 := V.downE l[i] d t _ hI2
      have hx3 : tk 1 (((exC l).drop (i * 4)).drop 3) = some [exA l[i].kids] := by rw [exC_at l i hlt]; exact kid_cell _ _
      have hn0 : n ≠ 0 := by have := sizeL_mem _ _ (get_mem hlt); have := sizeE_pos l[i]; omega
      have q2' := fun t q => q2 i hlt t q hn0
      rw [goE_eq] at hat
      have hst := goL_stop (h := V.hE) l d s (i + 1)
      generalize l[i] = e at *
      generalize hr : V.hE e d t = r at *
      obtain ⟨b, t1⟩ := r
      dsimp only at *
      cases b with
      | false =>
        simp only [Bool.false_eq_true, if_false] at hat
        rw [hat] at hst
        rw [hst rfl]
        clear q2 q2' hx3
        repeat' ((conv => whnf); first | (refine exI q1' ?_) | (rw [frcHW_eq]) | (with_reducible refine ixJ i rfl ?_ ?_; (focus (omega))) | (first | refine stp ?_ | with_reducible refine condB (fun h => ?_) (fun h => ?_)))
        all_goals (conv => whnf)
        all_goals (exact V.fin s t1 false)
      | true =>
        simp only [if_true] at hat
        have q2'' := q2' t1 _ (hd2 rfl)
        generalize hg : goL V.hE e.kids (d + 1) t1 = g at *
        obtain ⟨b2, t2⟩ := g
        dsimp only at *
        simp only [exA] at hx3 q2''
        cases b2 with
        | true =>
          repeat' ((conv => whnf); first | (refine exI q1' ?_) | (refine exI q2'' ?_) | (refine exI hx3 ?_) | (rw [frcHW_eq]) | (with_reducible refine exW w1 ?_) | (with_reducible refine ixJ i rfl ?_ ?_; (focus (omega))) | (first | refine stp ?_ | with_reducible refine condB (fun h => ?_) (fun h => ?_)))
          all_goals (conv => whnf)
          refine ⟨i + 1, ⟨hlt, by rw [hat]⟩, by show l.length - (i + 1) < l.length - i; omega, ?_⟩
          rw [hat]
          refine FgLK.same rfl ?_ (V.same _)
          refine And.intro (Wk.noref rfl) ?_
          refine And.intro (Wk.noref rfl) ?_
          refine And.intro (Wk.func trivial V.wkE) ?_
          refine And.intro (Wk.int rfl) ?_
          exact ⟨Wk.int rfl, trivial⟩
        | false =>
          rw [hat] at hst
          rw [hst rfl]
          repeat' ((conv => whnf); first | (refine exI q1' ?_) | (refine exI q2'' ?_) | (refine exI hx3 ?_) | (rw [frcHW_eq]) | (with_reducible refine exW w1 ?_) | (with_reducible refine ixJ i rfl ?_ ?_; (focus (omega))) | (first | refine stp ?_ | with_reducible refine condB (fun h => ?_) (fun h => ?_)))
          all_goals (conv => whnf)
          all_goals (exact V.fin s t2 false)
    · have e1 : decide ((i : Int) < (l.length : Int)) = false := by simpa using hlt
      have hi2 : i = l.length := by have := hi; omega
      subst hi2
      rw [List.take_length] at hall ⊢
      rw [hall]
      generalize (goL V.hE l d s).2 = t at *
      repeat' ((conv => whnf); first | (rw [frcHW_eq]) | (first | refine stp ?_ | with_reducible refine condB (fun h => ?_) (fun h => ?_)))
      all_goals (conv => whnf)
      all_goals (exact V.fin s t true)
end
end Go.Proofs.YtajhailaofchlaaDoor.lex
end

/-
  Statements as the interpreter knows them; how great they are, how deep.
-/
section
set_option linter.unusedVariables false
set_option linter.unusedSimpArgs false
namespace Go.Proofs.YtajhailaofchlaaDoor.lex
open Go.Abs Go.RowKit
set_option maxRecDepth 100000
set_option maxHeartbeats 4000000

inductive St where
  | mk (kind : Int) (name loc : List UInt8) (order : Int) (exprs : List Ex) (thn els : List St)
instance : Inhabited St := ⟨.mk 0 [] [] 0 [] [] []⟩
def St.kind : St → Int
  | .mk k _ _ _ _ _ _ => k
def St.name : St → List UInt8
  | .mk _ n _ _ _ _ _ => n
def St.loc : St → List UInt8
  | .mk _ _ l _ _ _ _ => l
def St.order : St → Int
  | .mk _ _ _ o _ _ _ => o
def St.exprs : St → List Ex
  | .mk _ _ _ _ x _ _ => x
def St.thn : St → List St
  | .mk _ _ _ _ _ t _ => t
def St.els : St → List St
  | .mk _ _ _ _ _ _ e => e
mutual
def St.cells : St → List AV
  | .mk k n l o x t e => [.int .i64 k, .str n, .str l, .int .i64 o, exA x, .rs t.length 7 (stC t), .rs e.length 7 (stC e)]
def stC : List St → List AV
  | [] => []
  | s :: l => s.cells ++ stC l
end
def stA (l : List St) : AV := .rs l.length 7 (stC l)
mutual
def sizeS : St → Nat
  | .mk _ _ _ _ x t e => 1 + sizeL x + sizeSL t + sizeSL e
def sizeSL : List St → Nat
  | [] => 0
  | s :: l => sizeS s + sizeSL l
end
mutual
def deepS : St → Nat
  | .mk _ _ _ _ x t e => max (max (deepSL t) (deepSL e)) (deepL x) + 1
def deepSL : List St → Nat
  | [] => 0
  | s :: l => max (deepS s) (deepSL l)
end
mutual
def okS : St → Prop
  | .mk _ n l _ x t e => okN n x.length ∧ okN l t.length ∧ e.length ≤ 9223372036854775807 ∧ okL x ∧ okSL t ∧ okSL e
def okSL : List St → Prop
  | [] => True
  | s :: l => okS s ∧ okSL l
end
theorem okSL_get : ∀ {l : List St}, okSL l → ∀ s ∈ l, okS s
  | x :: l, h, e, he => by
    simp only [okSL] at h
    rcases List.mem_cons.1 he with rfl | he
    · exact h.1
    · exact okSL_get h.2 e he
theorem okS_parts : ∀ {s : St}, okS s → s.name.length ≤ 9223372036854775807 ∧ s.loc.length ≤ 9223372036854775807 ∧ s.exprs.length ≤ 9223372036854775807 ∧ s.thn.length ≤ 9223372036854775807 ∧ s.els.length ≤ 9223372036854775807 ∧ okL s.exprs ∧ okSL s.thn ∧ okSL s.els
  | .mk _ _ _ _ _ _ _, h => by
    simp only [okS, okN] at h
    simp only [St.name, St.loc, St.exprs, St.thn, St.els]
    exact ⟨h.1.1, h.2.1.1, h.1.2, h.2.1.2, h.2.2.1, h.2.2.2⟩
theorem scells_len : ∀ s : St, s.cells.length = 7
  | .mk _ _ _ _ _ _ _ => by simp only [St.cells]; rfl
theorem stC_len : ∀ l : List St, (stC l).length = l.length * 7
  | [] => by simp only [stC]; rfl
  | s :: l => by simp only [stC, List.length_append, scells_len, stC_len l, List.length_cons]; omega
theorem stC_app : ∀ a b : List St, stC (a ++ b) = stC a ++ stC b
  | [], b => by simp only [stC, List.nil_append]
  | e :: a, b => by simp only [stC, List.cons_append, stC_app a b, List.append_assoc]
theorem stC_drop (s : St) (l : List St) (i : Nat) : (stC (s :: l)).drop ((i + 1) * 7) = (stC l).drop (i * 7) := by
  have h : (i + 1) * 7 = 7 + i * 7 := by omega
  rw [h, ← List.drop_drop, stC, List.drop_left' (scells_len s)]
theorem stC_at : ∀ (l : List St) (i : Nat) (h : i < l.length), (stC l).drop (i * 7) = l[i].cells ++ stC (l.drop (i + 1))
  | s :: l, 0, h => by simp only [Nat.zero_mul, List.drop_zero, stC, List.getElem_cons_zero, List.drop_succ_cons]
  | s :: l, i + 1, h => by rw [stC_drop, stC_at l i (by simpa using h)]; simp only [List.getElem_cons_succ, List.drop_succ_cons]
theorem st7 (l : List St) (i : Nat) (h : i < l.length) : tk 7 ((stC l).drop (i * 7)) = some l[i].cells := by
  rw [stC_at l i h]
  have := tk_app l[i].cells (stC (l.drop (i + 1)))
  rwa [scells_len] at this
mutual
theorem scells_inj : ∀ (a b : St), a.cells = b.cells → a = b
  | .mk k n l o x t e, .mk k' n' l' o' x' t' e', h => by
    simp only [St.cells, List.cons.injEq, AV.int.injEq, AV.str.injEq, AV.rs.injEq, true_and, and_true] at h
    obtain ⟨rfl, rfl, rfl, rfl, hx, ht, he⟩ := h
    rw [exA_inj hx, stC_inj t t' ht.2 ht.1, stC_inj e e' he.2 he.1]
theorem stC_inj : ∀ (a b : List St), stC a = stC b → a.length = b.length → a = b
  | [], [], _, _ => rfl
  | x :: a, y :: b, h, hl => by
    simp only [stC] at h
    have h' := List.append_inj h (by rw [scells_len, scells_len])
    rw [scells_inj x y h'.1, stC_inj a b h'.2 (by simpa using hl)]
  | [], _ :: _, _, hl => by simp at hl
  | _ :: _, [], _, hl => by simp at hl
end
theorem stA_inj {a b : List St} (h : stA a = stA b) : a = b := by
  simp only [stA, AV.rs.injEq, true_and] at h
  exact stC_inj _ _ h.2 h.1
theorem sizeS_pos : ∀ s : St, 0 < sizeS s
  | .mk _ _ _ _ _ _ _ => by simp only [sizeS]; omega
theorem sizeS_eq : ∀ s : St, sizeS s = 1 + sizeL s.exprs + sizeSL s.thn + sizeSL s.els
  | .mk _ _ _ _ _ _ _ => by simp only [sizeS, St.exprs, St.thn, St.els]
theorem deepS_eq : ∀ s : St, deepS s = max (max (deepSL s.thn) (deepSL s.els)) (deepL s.exprs) + 1
  | .mk _ _ _ _ _ _ _ => by simp only [deepS, St.exprs, St.thn, St.els]
theorem sizeSL_get : ∀ (l : List St) (i : Nat) (h : i < l.length), sizeSL l = sizeSL (l.take i) + sizeS l[i] + sizeSL (l.drop (i + 1))
  | s :: l, 0, h => by simp only [List.take_zero, sizeSL, List.getElem_cons_zero, List.drop_succ_cons, List.drop_zero]; omega
  | s :: l, i + 1, h => by
    have := sizeSL_get l i (by simpa using h)
    simp only [List.take_succ_cons, sizeSL, List.getElem_cons_succ, List.drop_succ_cons]; omega
theorem sizeSL_take : ∀ (l : List St) (i : Nat) (h : i < l.length), sizeSL (l.take (i + 1)) = sizeSL (l.take i) + sizeS l[i]
  | s :: l, 0, h => by simp only [List.take_succ_cons, List.take_zero, sizeSL, List.getElem_cons_zero]; omega
  | s :: l, i + 1, h => by
    have := sizeSL_take l i (by simpa using h)
    simp only [List.take_succ_cons, sizeSL, List.getElem_cons_succ] at this ⊢; omega
theorem sizeSL_len : ∀ l : List St, l.length ≤ sizeSL l
  | [] => Nat.zero_le _
  | s :: l => by have := sizeSL_len l; have := sizeS_pos s; simp only [sizeSL, List.length_cons]; omega
theorem sizeSL_mem : ∀ (l : List St) (s : St), s ∈ l → sizeS s ≤ sizeSL l
  | e :: l, f, h => by
    simp only [sizeSL]
    rcases List.mem_cons.1 h with rfl | h
    · omega
    · have := sizeSL_mem l f h; omega
theorem deepSL_take : ∀ (l : List St) (i : Nat) (h : i < l.length), deepSL (l.take (i + 1)) = max (deepSL (l.take i)) (deepS l[i])
  | e :: l, 0, h => by simp only [List.take_succ_cons, List.take_zero, deepSL, List.getElem_cons_zero]; omega
  | e :: l, i + 1, h => by
    have := deepSL_take l i (by simpa using h)
    simp only [List.take_succ_cons, deepSL, List.getElem_cons_succ] at this ⊢; omega
mutual
theorem deepS_size : ∀ s : St, deepS s ≤ sizeS s
  | .mk _ _ _ _ x t e => by have := deepSL_size t; have := deepSL_size e; have := deepL_size x; simp only [deepS, sizeS]; omega
theorem deepSL_size : ∀ l : List St, deepSL l ≤ sizeSL l
  | [] => Nat.le_refl _
  | s :: l => by have := deepS_size s; have := deepSL_size l; simp only [deepSL, sizeSL]; omega
end
theorem deepSL_le : ∀ (l : List St) (i : Nat), deepSL (l.take i) ≤ deepSL l
  | [], i => by simp [deepSL]
  | e :: l, 0 => by simp [deepSL]
  | e :: l, i + 1 => by have := deepSL_le l i; simp only [List.take_succ_cons, deepSL]; omega
theorem deepSL_mem : ∀ (l : List St) (s : St), s ∈ l → deepS s ≤ deepSL l
  | e :: l, f, h => by
    simp only [deepSL]
    rcases List.mem_cons.1 h with rfl | h
    · omega
    · have := deepSL_mem l f h; omega
theorem cell_x (s : St) (rest : List AV) : tk 1 ((s.cells ++ rest).drop 4) = some [exA s.exprs] := by
  obtain ⟨k, n, l, o, x, t, e⟩ := s
  simp only [St.cells, exA, St.exprs]; rfl
theorem cell_t (s : St) (rest : List AV) : tk 1 ((s.cells ++ rest).drop 5) = some [stA s.thn] := by
  obtain ⟨k, n, l, o, x, t, e⟩ := s
  simp only [St.cells, stA, St.thn]; rfl
theorem cell_e (s : St) (rest : List AV) : tk 1 ((s.cells ++ rest).drop 6) = some [stA s.els] := by
  obtain ⟨k, n, l, o, x, t, e⟩ := s
  simp only [St.cells, stA, St.els]; rfl
end Go.Proofs.YtajhailaofchlaaDoor.lex
end

/-
  The program's walk through statements, whatever functions it tells of each and of each expression; what these keep in memory.
-/
section
set_option linter.unusedVariables false
set_option linter.unusedSimpArgs false
namespace Go.Proofs.YtajhailaofchlaaDoor.lex
open Go.Abs Go.RowKit
set_option maxRecDepth 100000
set_option maxHeartbeats 4000000

structure TvS (gl : Glob) extends TvE gl where
  gS : Nat
  cS : List AV
  hS : St → Int → σ → Bool × σ
  bodyS : hasBody Tryd.prog gS = true
  wkS : WkL (List.range k) cS cS
  okS : ∀ x rest d s m, lex.okS x → I d s (m + 1) → MemOK Tryd.prog gl gS ([.rp (x.cells ++ rest), .int .i64 d] ++ cS) (Mem s) (.bool (hS x d s).1) (Mem (hS x d s).2)
  downS : ∀ x d s m, I d s (m + 1) → (hS x d s).1 = true → I (d + 1) (hS x d s).2 m

section
variable {σ : Type}
/-- One, and if that says so, the next. -/
def thenB (r : Bool × σ) (f : σ → Bool × σ) : Bool × σ := if r.1 = true then f r.2 else (false, r.2)
mutual
def goS (hE : Ex → Int → σ → Bool × σ) (hS : St → Int → σ → Bool × σ) : St → Int → σ → Bool × σ
  | .mk k n l o x t e, d, s => thenB (hS (.mk k n l o x t e) d s) fun s1 => thenB (goL hE x (d + 1) s1) fun s2 => thenB (goSL hE hS t (d + 1) s2) fun s3 => goSL hE hS e (d + 1) s3
def goSL (hE : Ex → Int → σ → Bool × σ) (hS : St → Int → σ → Bool × σ) : List St → Int → σ → Bool × σ
  | [], d, s => (true, s)
  | x :: l, d, s => thenB (goS hE hS x d s) fun s1 => goSL hE hS l d s1
end
variable {hE : Ex → Int → σ → Bool × σ} {hS : St → Int → σ → Bool × σ}
theorem goS_eq (x : St) (d : Int) (s : σ) : goS hE hS x d s = thenB (hS x d s) fun s1 => thenB (goL hE x.exprs (d + 1) s1) fun s2 => thenB (goSL hE hS x.thn (d + 1) s2) fun s3 => goSL hE hS x.els (d + 1) s3 := by
  obtain ⟨k, n, l, o, x, t, e⟩ := x
  simp only [goS, St.exprs, St.thn, St.els]
theorem goSL_at : ∀ (l : List St) (d : Int) (t : σ) (i : Nat) (hi : i < l.length), (goSL hE hS (l.take i) d t).1 = true → goSL hE hS (l.take (i + 1)) d t = goS hE hS l[i] d (goSL hE hS (l.take i) d t).2
  | e :: l, d, t, 0, _, _ => by
    simp only [List.take_zero, List.take_succ_cons, goSL, List.getElem_cons_zero, thenB]
    split
    · rename_i h2; rw [← h2]
    · rename_i h2; rw [← Bool.eq_false_iff.2 h2]
  | e :: l, d, t, i + 1, hi, ht => by
    simp only [List.take_succ_cons, goSL, List.getElem_cons_succ, thenB] at ht ⊢
    split
    · rename_i h2
      rw [if_pos h2] at ht
      exact goSL_at l d _ i (by simpa using hi) ht
    · rename_i h2; rw [if_neg h2] at ht; cases ht
theorem goSL_stop : ∀ (l : List St) (d : Int) (t : σ) (i : Nat), (goSL hE hS (l.take i) d t).1 = false → goSL hE hS l d t = goSL hE hS (l.take i) d t
  | [], d, t, i, hf => by simp
  | e :: l, d, t, 0, hf => by simp only [List.take_zero, goSL] at hf; cases hf
  | e :: l, d, t, i + 1, hf => by
    simp only [List.take_succ_cons, goSL, thenB] at hf ⊢
    split
    · rename_i h2
      rw [if_pos h2] at hf
      exact goSL_stop l d _ i hf
    · rfl
theorem thenB_true {r : Bool × σ} {f : σ → Bool × σ} (h : (thenB r f).1 = true) : r.1 = true ∧ thenB r f = f r.2 := by
  unfold thenB at h ⊢
  split at h
  · rename_i h2; exact ⟨h2, by rw [if_pos h2]⟩
  · cases h
end
section
variable {gl : Glob} (V : TvS gl)
def TvS.G : AV := .func (.func V.gS) [] V.cS
mutual
theorem TvS.keepS : ∀ (x : St) (d : Int) (s : V.σ) (m : Nat), V.I d s (sizeS x + m) → (goS V.hE V.hS x d s).1 = true → V.I d (goS V.hE V.hS x d s).2 m
  | .mk k n l o x t e, d, s, m, hI, ht => by
    simp only [goS, sizeS] at hI ht ⊢
    obtain ⟨h1, e1⟩ := thenB_true ht
    rw [e1] at ht ⊢
    obtain ⟨h2, e2⟩ := thenB_true ht
    rw [e2] at ht ⊢
    obtain ⟨h3, e3⟩ := thenB_true ht
    rw [e3] at ht ⊢
    have i1 := V.downS _ d s (sizeL x + (sizeSL t + (sizeSL e + m))) (by rw [show 1 + sizeL x + sizeSL t + sizeSL e + m = sizeL x + (sizeSL t + (sizeSL e + m)) + 1 from by omega] at hI; exact hI) h1
    have i2 := V.toTvE.keepL x (d + 1) _ _ i1 h2
    have i3 := TvS.keepSL t (d + 1) _ _ i2 h3
    exact V.up _ _ _ (V.bnd _ _ _ hI).1 (TvS.keepSL e (d + 1) _ m i3 ht)
theorem TvS.keepSL : ∀ (l : List St) (d : Int) (s : V.σ) (m : Nat), V.I d s (sizeSL l + m) → (goSL V.hE V.hS l d s).1 = true → V.I d (goSL V.hE V.hS l d s).2 m
  | [], d, s, m, hI, ht => by simp only [goSL, sizeSL, Nat.zero_add] at hI ⊢; exact hI
  | x :: l, d, s, m, hI, ht => by
    simp only [goSL, sizeSL] at hI ht ⊢
    obtain ⟨h1, e1⟩ := thenB_true ht
    rw [e1] at ht ⊢
    exact TvS.keepSL l d _ m (TvS.keepS x d s (sizeSL l + m) (by rw [← Nat.add_assoc]; exact hI) h1) ht
end
theorem TvS.stmts : ∀ (n : Nat) (l : List St) (d : Int) (s : V.σ) (m : Nat), sizeSL l ≤ n → okSL l → l.length ≤ 9223372036854775807 → V.I d s (sizeSL l + m) →
    MemOK Tryd.prog gl 38 [stA l, .int .i64 d, V.toTvE.F, V.G] (V.Mem s) (.bool (goSL V.hE V.hS l d s).1) (V.Mem (goSL V.hE V.hS l d s).2)
  | n, l, d, s, m, hn, hok, hl, hI => by
    have hF : ∃ O, OrcSound Tryd.prog gl O ∧
        (∀ (x : List St) (t : V.σ) (q : Nat), sizeSL x < n → okSL x → x.length ≤ 9223372036854775807 → V.I (d + 1) t (sizeSL x + q) → acall Tryd.prog O (V.Mem t) 38 [stA x, .int .i64 (d + 1), V.toTvE.F, V.G] = some (.bool (goSL V.hE V.hS x (d + 1) t).1, V.Mem (goSL V.hE V.hS x (d + 1) t).2)) ∧
        (∀ (x : List Ex) (t : V.σ) (q : Nat), okL x → x.length ≤ 9223372036854775807 → V.I (d + 1) t (sizeL x + q) → acall Tryd.prog O (V.Mem t) 41 [exA x, .int .i64 (d + 1), V.toTvE.F] = some (.bool (goL V.hE x (d + 1) t).1, V.Mem (goL V.hE x (d + 1) t).2)) ∧
        (∀ (i : Nat) (hi : i < l.length) (t : V.σ) (q : Nat), V.I d t (q + 1) → acall Tryd.prog O (V.Mem t) V.gS ([.rp ((stC l).drop (i * 7)), .int .i64 d] ++ V.cS) = some (.bool (V.hS l[i] d t).1, V.Mem (V.hS l[i] d t).2)) := by
      have s1 := orcI_sound (P := Tryd.prog) (gl := gl) (I := List St × V.σ × Nat) (G := fun p => sizeSL p.1 < n ∧ okSL p.1 ∧ p.1.length ≤ 9223372036854775807 ∧ V.I (d + 1) p.2.1 (sizeSL p.1 + p.2.2)) (fF := fun _ => 38) (fA := fun p => [stA p.1, .int .i64 (d + 1), V.toTvE.F, V.G]) (fH := fun p => V.Mem p.2.1) (fR := fun p => .bool (goSL V.hE V.hS p.1 (d + 1) p.2.1).1) (fO := fun p => V.Mem (goSL V.hE V.hS p.1 (d + 1) p.2.1).2) fun p hp => by
        obtain ⟨h0, h1, h2, h3⟩ := hp
        match n, hn, h0 with
        | n + 1, hn, h0 => exact TvS.stmts n _ (d + 1) p.2.1 p.2.2 (by omega) h1 h2 h3
      have s2 := orcI_sound (P := Tryd.prog) (gl := gl) (I := List Ex × V.σ × Nat) (G := fun p => okL p.1 ∧ p.1.length ≤ 9223372036854775807 ∧ V.I (d + 1) p.2.1 (sizeL p.1 + p.2.2)) (fF := fun _ => 41) (fA := fun p => [exA p.1, .int .i64 (d + 1), V.toTvE.F]) (fH := fun p => V.Mem p.2.1) (fR := fun p => .bool (goL V.hE p.1 (d + 1) p.2.1).1) (fO := fun p => V.Mem (goL V.hE p.1 (d + 1) p.2.1).2) fun p hp =>
        V.toTvE.exprs follows _ p.1 (d + 1) p.2.1 p.2.2 (Nat.le_refl _) hp.1 hp.2.1 hp.2.2
      have s3 := orcI_sound (P := Tryd.prog) (gl := gl) (I := Nat × V.σ × Nat) (G := fun p => p.1 < l.length ∧ V.I d p.2.1 (p.2.2 + 1)) (fF := fun _ => V.gS) (fA := fun p => [.rp ((stC l).drop (p.1 * 7)), .int .i64 d] ++ V.cS) (fH := fun p => V.Mem p.2.1) (fR := fun p => .bool (V.hS (l.getD p.1 default) d p.2.1).1) (fO := fun p => V.Mem (V.hS (l.getD p.1 default) d p.2.1).2) fun p hp => by
        obtain ⟨hp, h1⟩ := hp
        have hg : l.getD p.1 default = l[p.1] := by simp [List.getD_eq_getElem?_getD, hp]
        have hke := okSL_get hok _ (get_mem hp)
        simp only [hg]
        rw [stC_at l p.1 hp]
        exact V.okS _ _ _ _ _ hke h1
      refine ⟨_, orcOr_sound s1 (orcOr_sound s2 s3), fun x t q h0 h1 h2 h3 => ?_, fun x t q h0 h1 h2 => ?_, fun i hi t q h1 => ?_⟩
      · exact callOr1 (by kernel_rfl) (callI (P := Tryd.prog) (fun p q _ _ _ ha hh => by
            have e2 := V.inj _ _ hh
            simp only [List.cons.injEq, and_true, true_and] at ha
            rw [stA_inj ha, e2]; exact ⟨rfl, rfl⟩) (by kernel_rfl) (x, t, q) ⟨h0, h1, h2, h3⟩ rfl rfl rfl)
      · refine callOr2 (by kernel_rfl) (orcI_none fun p _ e _ => absurd e (by decide)) ?_
        exact callOr1 (by kernel_rfl) (callI (P := Tryd.prog) (fun p q _ _ _ ha hh => by
            have e2 := V.inj _ _ hh
            simp only [List.cons.injEq, and_true, true_and] at ha
            rw [exA_inj ha, e2]; exact ⟨rfl, rfl⟩) (by kernel_rfl) (x, t, q) ⟨h0, h1, h2⟩ rfl rfl rfl)
      · have hg : l.getD i default = l[i] := by simp [List.getD_eq_getElem?_getD, hi]
        refine callOr2 V.bodyS (orcI_none fun p _ _ ha => ?_) ?_
        · have := congrArg (fun a => a.head?) ha
          simp [stA] at this
        refine callOr2 V.bodyS (orcI_none fun p _ _ ha => ?_) ?_
        · have := congrArg (fun a => a.head?) ha
          simp [exA] at this
        · have := callI (P := Tryd.prog) (I := Nat × V.σ × Nat) (G := fun p => p.1 < l.length ∧ V.I d p.2.1 (p.2.2 + 1)) (fF := fun _ => V.gS) (fA := fun p => [.rp ((stC l).drop (p.1 * 7)), .int .i64 d] ++ V.cS) (fH := fun p => V.Mem p.2.1) (fR := fun p => .bool (V.hS (l.getD p.1 default) d p.2.1).1) (fO := fun p => V.Mem (V.hS (l.getD p.1 default) d p.2.1).2)
            (fun p q hp hq _ ha hh => by
              have e2 := V.inj _ _ hh
              simp only [List.cons_append, List.nil_append, List.cons.injEq, AV.rp.injEq, true_and, and_true] at ha
              have := congrArg List.length ha
              simp only [List.length_drop, stC_len] at this
              have e : p.1 = q.1 := by have := hp.1; have := hq.1; omega
              rw [e, e2]; exact ⟨rfl, rfl⟩) (g := V.gS) (args := [.rp ((stC l).drop (i * 7)), .int .i64 d] ++ V.cS) (H := V.Mem t) V.bodyS (i, t, q) ⟨hi, h1⟩ rfl rfl rfl
          simp only [hg] at this
          exact this
    obtain ⟨O, hO, q3, q2, q1⟩ := hF
    have hbd := V.bnd _ _ _ hI
    have w1 : IntKind.i64.wrap (d + 1) = d + 1 := wrapB (by omega) (by omega)
    simp only [stA, exA, TvE.F, TvS.G] at q2 q3 ⊢
    refine fn_mem (k := V.k) follows noNum hO (V.len s) Tryd.func38 rfl (cw0_ok _ _) ?_
    repeat' ((conv => whnf); (first | refine stp ?_ | with_reducible refine condB (fun h => ?_) (fun h => ?_)))
    conv => whnf
    refine ⟨Nat, (fun i => i ≤ l.length ∧ (goSL V.hE V.hS (l.take i) d s).1 = true), (fun i => [(0, .rs l.length 7 (stC l)), (1, .int .i64 d), (2, .func (.func V.gE) [] V.cE), (3, .func (.func V.gS) [] V.cS), (12, .int .i64 l.length), (13, .int .i64 i)]), (fun i => V.Mem (goSL V.hE V.hS (l.take i) d s).2), (fun i => l.length - i), ⟨0, ⟨Nat.zero_le _, by simp only [List.take_zero, goSL]⟩, ?_⟩, ?_⟩
    · simp only [List.take_zero, goSL]
      refine FgLK.same rfl ?_ (V.same _)
      refine And.intro (Wk.noref rfl) ?_
      refine And.intro (Wk.noref rfl) ?_
      refine And.intro (Wk.func trivial V.wkE) ?_
      refine And.intro (Wk.func trivial V.wkS) ?_
      refine And.intro (Wk.int rfl) ?_
      exact ⟨Wk.int rfl, trivial⟩
    rintro i ⟨hi, hall⟩
    dsimp only
    conv => whnf
    rw [frcHW_eq]
    by_cases hlt : i < l.length
    · have e1 : decide ((i : Int) < (l.length : Int)) = true := by simpa using hlt
      have hat := goSL_at (hE := V.hE) (hS := V.hS) l d s i hlt hall
      have hI2 : V.I d (goSL V.hE V.hS (l.take i) d s).2 (sizeSL (l.drop i) + m) := V.keepSL (l.take i) d s (sizeSL (l.drop i) + m) (by
        have := sizeSL_get l i hlt
        have e : sizeSL (l.drop i) = sizeS l[i] + sizeSL (l.drop (i + 1)) := by rw [List.drop_eq_getElem_cons hlt]; simp only [sizeSL]
        have e2 : sizeSL (l.take i) + (sizeSL (l.drop i) + m) = sizeSL l + m := by omega
        rw [e2]; exact hI) hall
      generalize (goSL V.hE V.hS (l.take i) d s).2 = t at *
      have esz : sizeSL (l.drop i) + m = (sizeL l[i].exprs + (sizeSL l[i].thn + (sizeSL l[i].els + (sizeSL (l.drop (i + 1)) + m)))) + 1 := by
        rw [List.drop_eq_getElem_cons hlt]; simp only [sizeSL]; have := sizeS_eq l[i]; omega
      rw [esz] at hI2
      have q1' := q1 i hlt t _ hI2
      have hd2 := V.downS l[i] d t _ hI2
      have hx4 : tk 1 (((stC l).drop (i * 7)).drop 4) = some [exA l[i].exprs] := by rw [stC_at l i hlt]; exact cell_x _ _
      have hx5 : tk 1 (((stC l).drop (i * 7)).drop 5) = some [stA l[i].thn] := by rw [stC_at l i hlt]; exact cell_t _ _
      have hx6 : tk 1 (((stC l).drop (i * 7)).drop 6) = some [stA l[i].els] := by rw [stC_at l i hlt]; exact cell_e _ _
      obtain ⟨_, _, k1, k2, k3, k4, k5, k6⟩ := okS_parts (okSL_get hok _ (get_mem hlt))
      have hsz := sizeSL_mem _ _ (get_mem hlt)
      have hse := sizeS_eq l[i]
      have qx := fun t q => q2 l[i].exprs t q k4 k1
      have qt := fun t q => q3 l[i].thn t q (by omega) k5 k2
      have qe := fun t q => q3 l[i].els t q (by omega) k6 k3
      have kx := fun s m => V.toTvE.keepL l[i].exprs (d + 1) s m
      have kt := fun s m => V.keepSL l[i].thn (d + 1) s m
      rw [goS_eq] at hat
      have hst := goSL_stop (hE := V.hE) (hS := V.hS) l d s (i + 1)
      clear q1 q2 q3 hse hsz k1 k2 k3 k4 k5 k6
      generalize l[i] = e at *
      generalize hr : V.hS e d t = r at *
      obtain ⟨b, t1⟩ := r
      simp only [exA, stA] at hx4 hx5 hx6 qx qt qe
      dsimp only [thenB] at *
      cases b with
      | false =>
        simp only [Bool.false_eq_true, if_false] at hat
        rw [hat] at hst
        rw [hst rfl]
        repeat' ((conv => whnf); first | (refine exI q1' ?_) | (rw [frcHW_eq]) | (with_reducible refine ixJ i rfl ?_ ?_; (focus (omega))) | (first | refine stp ?_ | with_reducible refine condB (fun h => ?_) (fun h => ?_)))
        all_goals (conv => whnf)
        all_goals (exact V.toTvE.fin s t1 false)
      | true =>
        simp only [if_true] at hat
        have i1 := hd2 rfl
        have qx' := qx t1 _ i1
        have kx' := kx t1 _ i1
        generalize hg : goL V.hE e.exprs (d + 1) t1 = g at *
        obtain ⟨b2, t2⟩ := g
        dsimp only at *
        cases b2 with
        | false =>
          simp only [Bool.false_eq_true, if_false] at hat
          rw [hat] at hst
          rw [hst rfl]
          repeat' ((conv => whnf); first | (refine exI q1' ?_) | (refine exI qx' ?_) | (refine exI hx4 ?_) | (rw [frcHW_eq]) | (with_reducible refine exW w1 ?_) | (with_reducible refine ixJ i rfl ?_ ?_; (focus (omega))) | (first | refine stp ?_ | with_reducible refine condB (fun h => ?_) (fun h => ?_)))
          all_goals (conv => whnf)
          all_goals (exact V.toTvE.fin s t2 false)
        | true =>
          simp only [if_true] at hat
          have i2 := kx' rfl
          have qt' := qt t2 _ i2
          have kt' := kt t2 _ i2
          generalize hg2 : goSL V.hE V.hS e.thn (d + 1) t2 = g2 at *
          obtain ⟨b3, t3⟩ := g2
          dsimp only at *
          cases b3 with
          | false =>
            simp only [Bool.false_eq_true, if_false] at hat
            rw [hat] at hst
            rw [hst rfl]
            repeat' ((conv => whnf); first | (refine exI q1' ?_) | (refine exI qx' ?_) | (refine exI qt' ?_) | (refine exI hx4 ?_) | (refine exI hx5 ?_) | (rw [frcHW_eq]) | (with_reducible refine exW w1 ?_) | (with_reducible refine ixJ i rfl ?_ ?_; (focus (omega))) | (first | refine stp ?_ | with_reducible refine condB (fun h => ?_) (fun h => ?_)))
            all_goals (conv => whnf)
            all_goals (exact V.toTvE.fin s t3 false)
          | true =>
            simp only [if_true] at hat
            have i3 := kt' rfl
            have qe' := qe t3 _ i3
            generalize hg3 : goSL V.hE V.hS e.els (d + 1) t3 = g3 at *
            obtain ⟨b4, t4⟩ := g3
            dsimp only at *
            cases b4 with
            | false =>
              rw [hat] at hst
              rw [hst rfl]
              repeat' ((conv => whnf); first | (refine exI q1' ?_) | (refine exI qx' ?_) | (refine exI qt' ?_) | (refine exI qe' ?_) | (refine exI hx4 ?_) | (refine exI hx5 ?_) | (refine exI hx6 ?_) | (rw [frcHW_eq]) | (with_reducible refine exW w1 ?_) | (with_reducible refine ixJ i rfl ?_ ?_; (focus (omega))) | (first | refine stp ?_ | with_reducible refine condB (fun h => ?_) (fun h => ?_)))
              all_goals (conv => whnf)
              all_goals (exact V.toTvE.fin s t4 false)
            | true =>
              repeat' ((conv => whnf); first | (refine exI q1' ?_) | (refine exI qx' ?_) | (refine exI qt' ?_) | (refine exI qe' ?_) | (refine exI hx4 ?_) | (refine exI hx5 ?_) | (refine exI hx6 ?_) | (rw [frcHW_eq]) | (with_reducible refine exW w1 ?_) | (with_reducible refine ixJ i rfl ?_ ?_; (focus (omega))) | (first | refine stp ?_ | with_reducible refine condB (fun h => ?_) (fun h => ?_)))
              all_goals (conv => whnf)
              refine ⟨i + 1, ⟨hlt, by rw [hat]⟩, by show l.length - (i + 1) < l.length - i; omega, ?_⟩
              rw [hat]
              refine FgLK.same rfl ?_ (V.same _)
              refine And.intro (Wk.noref rfl) ?_
              refine And.intro (Wk.noref rfl) ?_
              refine And.intro (Wk.func trivial V.wkE) ?_
              refine And.intro (Wk.func trivial V.wkS) ?_
              refine And.intro (Wk.int rfl) ?_
              exact ⟨Wk.int rfl, trivial⟩
    · have e1 : decide ((i : Int) < (l.length : Int)) = false := by simpa using hlt
      have hi2 : i = l.length := by have := hi; omega
      subst hi2
      rw [List.take_length] at hall ⊢
      rw [hall]
      generalize (goSL V.hE V.hS l d s).2 = t at *
      repeat' ((conv => whnf); first | (rw [frcHW_eq]) | (first | refine stp ?_ | with_reducible refine condB (fun h => ?_) (fun h => ?_)))
      all_goals (conv => whnf)
      all_goals (exact V.toTvE.fin s t true)
end
end Go.Proofs.YtajhailaofchlaaDoor.lex
end

/-
  Programs: their cells, their sizes.
-/
section
set_option linter.unusedVariables false
set_option linter.unusedSimpArgs false
namespace Go.Proofs.YtajhailaofchlaaDoor.lex
open Go.Abs Go.RowKit
set_option maxRecDepth 100000
set_option maxHeartbeats 4000000
variable {gl : Glob}
def sizeTL : List (List St) → Nat
  | [] => 0
  | l :: t => sizeSL l + sizeTL t
def okTL : List (List St) → Prop
  | [] => True
  | l :: t => okSL l ∧ l.length ≤ 9223372036854775807 ∧ okTL t
theorem okTL_get : ∀ {t : List (List St)}, okTL t → ∀ l ∈ t, okSL l ∧ l.length ≤ 9223372036854775807
  | x :: t, h, l, hl => by
    rcases List.mem_cons.1 hl with rfl | hl
    · exact ⟨h.1, h.2.1⟩
    · exact okTL_get h.2.2 l hl
theorem sizeTL_take : ∀ (t : List (List St)) (i : Nat) (h : i < t.length), sizeTL (t.take (i + 1)) = sizeTL (t.take i) + sizeSL t[i]
  | e :: l, 0, h => by simp only [List.take_succ_cons, List.take_zero, sizeTL, List.getElem_cons_zero]; omega
  | e :: l, i + 1, h => by
    have := sizeTL_take l i (by simpa using h)
    simp only [List.take_succ_cons, sizeTL, List.getElem_cons_succ] at this ⊢; omega
theorem sizeTL_le : ∀ (t : List (List St)) (i : Nat) (h : i < t.length), sizeTL (t.take i) + sizeSL t[i] ≤ sizeTL t
  | e :: l, 0, h => by simp only [List.take_zero, sizeTL, List.getElem_cons_zero]; omega
  | e :: l, i + 1, h => by
    have := sizeTL_le l i (by simpa using h)
    simp only [List.take_succ_cons, sizeTL, List.getElem_cons_succ] at this ⊢; omega
theorem th1 (t : List (List St)) (i : Nat) (h : i < t.length) : tk 1 ((t.map stA).drop (i * 1)) = some [stA t[i]] := tk1_map stA t i h (by omega)
structure Dc where
  name : List UInt8
  plain : Bool
  val : Int
def Dc.cells (d : Dc) : List AV := [.str d.name, .bool d.plain, .int .i64 d.val]
def dcC : List Dc → List AV
  | [] => []
  | d :: l => d.cells ++ dcC l
theorem dcC_drop (d : Dc) (l : List Dc) (i : Nat) : (dcC (d :: l)).drop ((i + 1) * 3) = (dcC l).drop (i * 3) := by
  have h : (i + 1) * 3 = 3 + i * 3 := by omega
  rw [h, ← List.drop_drop]
  have h2 : (dcC (d :: l)).drop 3 = dcC l := rfl
  rw [h2]
theorem dcC_at : ∀ (l : List Dc) (i : Nat) (h : i < l.length), (dcC l).drop (i * 3) = l[i].cells ++ dcC (l.drop (i + 1))
  | d :: l, 0, h => by simp only [Nat.zero_mul, List.drop_zero, dcC, List.getElem_cons_zero, List.drop_succ_cons]
  | d :: l, i + 1, h => by rw [dcC_drop, dcC_at l i (by simpa using h)]; simp only [List.getElem_cons_succ, List.drop_succ_cons]
theorem dc3 (l : List Dc) (i : Nat) (h : i < l.length) : tk 3 ((dcC l).drop (i * 3)) = some l[i].cells := by
  rw [dcC_at l i h]; rfl
theorem dcn (l : List Dc) (i : Nat) (h : i < l.length) : tk 1 (((dcC l).drop (i * 3)).drop 0) = some [.str l[i].name] := by
  rw [dcC_at l i h]; rfl
theorem dcv (l : List Dc) (i : Nat) (h : i < l.length) : tk 1 (((dcC l).drop (i * 3)).drop 2) = some [.int .i64 l[i].val] := by
  rw [dcC_at l i h]; rfl
structure Pr where
  decls : List Dc
  threads : List (List St)
def Pr.av (p : Pr) : AV := .agg [.rs p.decls.length 3 (dcC p.decls), .rs p.threads.length 1 (p.threads.map stA)]
def okD (l : List Dc) : Prop := l.length ≤ 9223372036854775807 ∧ ∀ d ∈ l, d.name.length ≤ 9223372036854775807
def okP (p : Pr) : Prop := okD p.decls ∧ okTL p.threads ∧ p.threads.length ≤ 9223372036854775807
theorem sizeTL_mem : ∀ (t : List (List St)) (l : List St), l ∈ t → sizeSL l ≤ sizeTL t
  | e :: t, l, h => by
    simp only [sizeTL]
    rcases List.mem_cons.1 h with rfl | h
    · omega
    · have := sizeTL_mem t l h; omega
end Go.Proofs.YtajhailaofchlaaDoor.lex
end

/-
  Programs: are there few parts.
-/
section
set_option linter.unusedVariables false
set_option linter.unusedSimpArgs false
namespace Go.Proofs.YtajhailaofchlaaDoor.lex
open Go.Abs Go.RowKit
set_option maxRecDepth 100000
set_option maxHeartbeats 4000000
variable {gl : Glob}

/-- Go on only with what is not negative. -/
def ifp (l : Int) (f : Int → Int) : Int := if 0 ≤ l then f l else l
mutual
def heftS : St → Int → Int
  | .mk _ n lc _ x t e, l => ifp (ifp (heftL x (l - 1 - (n.length / 20 : Nat) - (lc.length / 20 : Nat))) (heftSL t)) (heftSL e)
def heftSL : List St → Int → Int
  | [], l => l
  | x :: k, l => if 0 ≤ l then heftSL k (heftS x l) else l
end
theorem heftS_eq : ∀ (x : St) (l : Int), heftS x l = ifp (ifp (heftL x.exprs (l - 1 - (x.name.length / 20 : Nat) - (x.loc.length / 20 : Nat))) (heftSL x.thn)) (heftSL x.els)
  | .mk _ _ _ _ _ _ _, l => by simp only [heftS, St.exprs, St.name, St.loc, St.thn, St.els]
mutual
theorem heftS_size : ∀ (x : St) (l : Int), 0 ≤ heftS x l → (sizeS x : Int) + heftS x l ≤ l
  | .mk _ n lc _ x t e, l, h => by
    simp only [heftS, sizeS, ifp] at *
    generalize hl1 : l - 1 - ((n.length / 20 : Nat) : Int) - ((lc.length / 20 : Nat) : Int) = l1 at *
    have hx := heftL_size x l1
    have ht := heftSL_size t (heftL x l1)
    by_cases h1 : 0 ≤ heftL x l1
    · simp only [if_pos h1] at *
      have he := heftSL_size e (heftSL t (heftL x l1))
      by_cases h2 : 0 ≤ heftSL t (heftL x l1)
      · simp only [if_pos h2] at *
        have := hx h1; have := ht h2; have := he h; omega
      · simp only [if_neg h2] at *; omega
    · simp only [if_neg h1] at *; omega
theorem heftSL_size : ∀ (k : List St) (l : Int), 0 ≤ heftSL k l → (sizeSL k : Int) + heftSL k l ≤ l
  | [], l, h => by simp only [heftSL, sizeSL] at *; omega
  | x :: k, l, h => by
    simp only [heftSL, sizeSL] at *
    split at h
    · rename_i hl
      rw [if_pos hl]
      have h1 := heftSL_size k _ h
      have h2 : 0 ≤ heftS x l := by omega
      have h3 := heftS_size x l h2
      omega
    · omega
end
theorem ifp_le {l : Int} {f : Int → Int} (h : ∀ m, f m ≤ m) : ifp l f ≤ l := by
  unfold ifp; split
  · exact h l
  · exact Int.le_refl _
mutual
theorem heftS_le : ∀ (x : St) (l : Int), heftS x l ≤ l
  | .mk _ n lc _ x t e, l => by
    simp only [heftS]
    have h1 := heftL_le x (l - 1 - ((n.length / 20 : Nat) : Int) - ((lc.length / 20 : Nat) : Int))
    have h2 := ifp_le (l := heftL x (l - 1 - ((n.length / 20 : Nat) : Int) - ((lc.length / 20 : Nat) : Int))) (heftSL_le t)
    have h3 := ifp_le (l := ifp (heftL x (l - 1 - ((n.length / 20 : Nat) : Int) - ((lc.length / 20 : Nat) : Int))) (heftSL t)) (heftSL_le e)
    omega
theorem heftSL_le : ∀ (k : List St) (l : Int), heftSL k l ≤ l
  | [], l => by simp only [heftSL]; omega
  | x :: k, l => by
    simp only [heftSL]
    split
    · have := heftSL_le k (heftS x l); have := heftS_le x l; omega
    · omega
end
theorem heftSL_at : ∀ (k : List St) (l : Int) (i : Nat) (h : i < k.length), heftSL (k.take (i + 1)) l = if 0 ≤ heftSL (k.take i) l then heftS k[i] (heftSL (k.take i) l) else heftSL (k.take i) l
  | e :: k, l, 0, h => by simp only [List.take_succ_cons, List.take_zero, heftSL, List.getElem_cons_zero]
  | e :: k, l, i + 1, h => by
    have ih := fun l => heftSL_at k l i (by simpa using h)
    simp only [List.take_succ_cons, heftSL, List.getElem_cons_succ] at ih ⊢
    split
    · exact ih _
    · rename_i h2; simp [h2]
theorem heftSL_stop : ∀ (k : List St) (l : Int) (i : Nat), heftSL (k.take i) l < 0 → heftSL k l = heftSL (k.take i) l
  | [], l, i, h => by simp [heftSL]
  | e :: k, l, 0, h => by
    simp only [List.take_zero, heftSL] at *
    rw [if_neg (by omega)]
  | e :: k, l, i + 1, h => by
    simp only [List.take_succ_cons, heftSL] at *
    split
    · rename_i hl
      rw [if_pos hl] at h
      exact heftSL_stop k _ i h
    · rfl
theorem cell_n (s : St) (rest : List AV) : tk 1 ((s.cells ++ rest).drop 1) = some [.str s.name] := by
  obtain ⟨k, n, l, o, x, t, e⟩ := s
  simp only [St.cells, St.name]; rfl
theorem cell_l (s : St) (rest : List AV) : tk 1 ((s.cells ++ rest).drop 2) = some [.str s.loc] := by
  obtain ⟨k, n, l, o, x, t, e⟩ := s
  simp only [St.cells, St.loc]; rfl
theorem hefts_ok : ∀ (n : Nat) (l : List St) (a : Int), sizeSL l ≤ n → okSL l → l.length ≤ 9223372036854775807 → 0 ≤ a → a ≤ 1048576 → ValOK Tryd.prog gl 44 [stA l, .int .i64 a] (.int .i64 (heftSL l a))
  | n, l, a, h, hok, hl, ha0, ha1 => by
    obtain ⟨O, hO, p1, p2, -⟩ := fams (P := Tryd.prog) (gl := gl) [{ I := List St × Int, f := 44, G := fun p => sizeSL p.1 < n ∧ okSL p.1 ∧ p.1.length ≤ 9223372036854775807 ∧ 0 ≤ p.2 ∧ p.2 ≤ 1048576, A := fun p => [stA p.1, .int .i64 p.2], R := fun p => .int .i64 (heftSL p.1 p.2), body := (by kernel_rfl), inj := (fun i j _ _ h => by simp only [List.cons.injEq, AV.int.injEq, and_true, true_and] at h; rw [stA_inj h.1, h.2]), ok := (fun p hp => ⟨rfl, match n, hp.1 with | n + 1, h => hefts_ok n p.1 p.2 (by omega) hp.2.1 hp.2.2.1 hp.2.2.2.1 hp.2.2.2.2⟩) },
      { I := Ex × Int, f := 45, G := fun p => okE p.1 ∧ 0 ≤ p.2 ∧ p.2 ≤ 1048576, A := fun p => [.agg p.1.cells, .int .i64 p.2], R := fun p => .int .i64 (heftE p.1 p.2), body := (by kernel_rfl), inj := (fun i j _ _ h => by simp only [List.cons.injEq, AV.agg.injEq, AV.int.injEq, and_true, true_and] at h; rw [cells_inj _ _ h.1, h.2]), ok := (fun p hp => ⟨by have := ex_refs p.1; simpa [refsL, refs] using this, heft_ok _ p.1 p.2 (Nat.le_refl _) hp.1 hp.2.1 hp.2.2⟩) }] rfl
    have q1 : ∀ x a, sizeSL x < n → okSL x → x.length ≤ 9223372036854775807 → 0 ≤ a → a ≤ 1048576 → ∀ H, acall Tryd.prog O H 44 [stA x, .int .i64 a] = some (.int .i64 (heftSL x a), H) := fun x a h1 h2 h3 h4 h5 => p1 (x, a) ⟨h1, h2, h3, h4, h5⟩
    have q2 : ∀ k a, okE k → 0 ≤ a → a ≤ 1048576 → ∀ H, acall Tryd.prog O H 45 [.agg k.cells, .int .i64 a] = some (.int .i64 (heftE k a), H) := fun k a h1 h2 h3 => p2 (k, a) ⟨h1, h2, h3⟩
    clear p1 p2
    simp only [stA] at q1 ⊢
    refine fn_val follows noNum hO Tryd.func44 rfl ?_
    repeat' ((conv => whnf); first | refine stp ?_ | with_reducible refine condB (fun h => ?_) (fun h => ?_))
    conv => whnf
    refine ⟨Nat, (fun i => i ≤ l.length), (fun i => [(0, .rs l.length 7 (stC l)), (1, .int .i64 (heftSL (l.take i) a)), (5, .int .i64 i)]), (fun _ => []), (fun i => l.length - i), ⟨0, Nat.zero_le _, FgL.mk0 rfl ?_⟩, ?_⟩
    · simp only [List.take_zero, heftSL]; (repeat (first | exact trivial | refine stw ?_))
    intro i hi
    dsimp only
    have hle := heftSL_le (l.take i) a
    by_cases hlt : i < l.length
    · have e1 : decide ((i : Int) < (l.length : Int)) = true := by simpa using hlt
      by_cases hpos : 0 ≤ heftSL (l.take i) a
      · have e2 : decide (heftSL (l.take i) a ≥ 0) = true := by simpa using hpos
        have hs := heftSL_at l a i hlt
        rw [if_pos hpos, heftS_eq] at hs
        have hsz := sizeSL_mem _ _ (get_mem hlt)
        have hse := sizeS_eq l[i]
        have hx1 : tk 1 (((stC l).drop (i * 7)).drop 1) = some [.str l[i].name] := by rw [stC_at l i hlt]; exact cell_n _ _
        have hx2 : tk 1 (((stC l).drop (i * 7)).drop 2) = some [.str l[i].loc] := by rw [stC_at l i hlt]; exact cell_l _ _
        have hx4 : tk 1 (((stC l).drop (i * 7)).drop 4) = some [exA l[i].exprs] := by rw [stC_at l i hlt]; exact cell_x _ _
        have hx5 : tk 1 (((stC l).drop (i * 7)).drop 5) = some [stA l[i].thn] := by rw [stC_at l i hlt]; exact cell_t _ _
        have hx6 : tk 1 (((stC l).drop (i * 7)).drop 6) = some [stA l[i].els] := by rw [stC_at l i hlt]; exact cell_e _ _
        obtain ⟨k1, k2, k3, k4, k5, k6, k7, k8⟩ := okS_parts (okSL_get hok _ (get_mem hlt))
        have qt := fun a => q1 l[i].thn a (by omega) k7 k4
        have qe := fun a => q1 l[i].els a (by omega) k8 k5
        clear q1
        generalize (heftSL (l.take i) a) = b at *
        generalize l[i] = x at *
        obtain ⟨kind, name, loc, order, exprs, thn, els⟩ := x
        simp only [St.name, St.loc, St.exprs, St.thn, St.els, exA, stA] at *
        clear hsz hse
        have q20 : Int.tdiv (name.length : Int) 20 = ((name.length / 20 : Nat) : Int) := rfl
        have q21 : Int.tdiv (loc.length : Int) 20 = ((loc.length / 20 : Nat) : Int) := rfl
        have w1 : IntKind.i64.wrap (b - 1) = b - 1 := wrapB (by omega) (by omega)
        have w2 : IntKind.i64.wrap (Int.tdiv (name.length : Int) 20) = ((name.length / 20 : Nat) : Int) := by rw [q20]; exact wrapB (by omega) (by omega)
        have w2' : IntKind.i64.wrap (Int.tdiv (loc.length : Int) 20) = ((loc.length / 20 : Nat) : Int) := by rw [q21]; exact wrapB (by omega) (by omega)
        have w3 : IntKind.i64.wrap (b - 1 - ((name.length / 20 : Nat) : Int)) = b - 1 - ((name.length / 20 : Nat) : Int) := wrapB (by omega) (by omega)
        have w4 : IntKind.i64.wrap (b - 1 - ((name.length / 20 : Nat) : Int) - ((loc.length / 20 : Nat) : Int)) = b - 1 - ((name.length / 20 : Nat) : Int) - ((loc.length / 20 : Nat) : Int) := wrapB (by omega) (by omega)
        repeat' ((conv => whnf); first | (with_reducible refine exW w1 ?_) | (refine And.intro (show (20 : Int) ≠ 0 by decide) ?_) | (rw [w2]) | (rw [w2']) | (with_reducible refine exW w3 ?_) | (with_reducible refine exW w4 ?_) | (with_reducible refine ixJ i rfl ?_ ?_; (focus (omega))) | (refine exI hx1 ?_) | (refine exI hx2 ?_) | (first | refine stp ?_ | with_reducible refine condB (fun h => ?_) (fun h => ?_)))
        conv => whnf
        have hb0 : b - 1 - ((name.length / 20 : Nat) : Int) - ((loc.length / 20 : Nat) : Int) ≤ 1048576 := by omega
        clear w1 w2 w2' w3 w4
        generalize hl0 : b - 1 - ((name.length / 20 : Nat) : Int) - ((loc.length / 20 : Nat) : Int) = l0 at *
        refine ⟨Nat, (fun k => k ≤ exprs.length), (fun k => [(0, .rs l.length 7 (stC l)), (1, .int .i64 (heftL (exprs.take k) l0)), (5, .int .i64 i), (6, .int .i64 k)]), (fun _ => []), (fun k => exprs.length - k), ⟨0, Nat.zero_le _, FgL.mk0 rfl ?_⟩, ?_⟩
        · simp only [List.take_zero, heftL]; (repeat (first | exact trivial | refine stw ?_))
        intro k hk
        dsimp only
        have hke := heftL_le (exprs.take k) l0
        have fin : ∀ v, heftL exprs l0 = v → ∃ w, True := fun _ _ => ⟨(), trivial⟩
        by_cases hkt : k < exprs.length
        · have e3 : decide ((k : Int) < (exprs.length : Int)) = true := by simpa using hkt
          by_cases hp2 : 0 ≤ heftL (exprs.take k) l0
          · have e4 : decide (heftL (exprs.take k) l0 ≥ 0) = true := by simpa using hp2
            have hy := ex4 exprs k hkt
            have hat := heftL_at exprs l0 k hkt
            rw [if_pos hp2] at hat
            have qk := q2 exprs[k] (heftL (exprs.take k) l0) (okL_get k6 _ (get_mem hkt)) hp2 (by omega)
            generalize exprs[k] = y at *
            repeat' ((conv => whnf); first | (with_reducible refine exI (qk _) ?_) | (with_reducible refine ixJ i rfl ?_ ?_; (focus (omega))) | (with_reducible refine ixJ k rfl ?_ ?_; (focus (omega))) | (refine exI hx4 ?_) | (refine exI hy ?_) | (refine exI (qk _) ?_) | (first | refine stp ?_ | with_reducible refine condB (fun h => ?_) (fun h => ?_)))
            conv => whnf
            refine ⟨k + 1, hkt, by show exprs.length - (k + 1) < exprs.length - k; omega, FgL.mk0 rfl ?_⟩
            rw [hat]; (repeat (first | exact trivial | refine stw ?_))
          · have e4 : decide (heftL (exprs.take k) l0 ≥ 0) = false := by simpa using hp2
            have hst := heftL_stop exprs l0 k (by omega)
            rw [hst] at hs
            simp only [ifp, if_neg hp2] at hs
            repeat' ((conv => whnf); first | (with_reducible refine ixJ i rfl ?_ ?_; (focus (omega))) | (refine exI hx4 ?_) | (first | refine stp ?_ | with_reducible refine condB (fun h => ?_) (fun h => ?_)))
            conv => whnf
            refine ⟨i + 1, hlt, by show l.length - (i + 1) < l.length - i; omega, FgL.mk0 rfl ?_⟩
            rw [hs]; (repeat (first | exact trivial | refine stw ?_))
        · have e3 : decide ((k : Int) < (exprs.length : Int)) = false := by simpa using hkt
          have hk2 : k = exprs.length := by have := hk; omega
          subst hk2
          rw [List.take_length] at hke ⊢
          generalize heftL exprs l0 = l1 at *
          by_cases hp2 : 0 ≤ l1
          · have e4 : decide (l1 ≥ 0) = true := by simpa using hp2
            simp only [ifp, if_pos hp2] at hs
            have qt1 := qt l1 hp2 (by omega)
            have ht1 := heftSL_le thn l1
            generalize heftSL thn l1 = l2 at *
            by_cases hp3 : 0 ≤ l2
            · have e5 : decide (l2 ≥ 0) = true := by simpa using hp3
              simp only [if_pos hp3] at hs
              have qe1 := qe l2 hp3 (by omega)
              generalize heftSL els l2 = l3 at *
              repeat' ((conv => whnf); first | (with_reducible refine ixJ i rfl ?_ ?_; (focus (omega))) | (refine exI hx4 ?_) | (refine exI hx5 ?_) | (refine exI hx6 ?_) | (refine exI (qt1 _) ?_) | (refine exI (qe1 _) ?_) | (first | refine stp ?_ | with_reducible refine condB (fun h => ?_) (fun h => ?_)))
              conv => whnf
              refine ⟨i + 1, hlt, by show l.length - (i + 1) < l.length - i; omega, FgL.mk0 rfl ?_⟩
              rw [hs]; (repeat (first | exact trivial | refine stw ?_))
            · have e5 : decide (l2 ≥ 0) = false := by simpa using hp3
              simp only [if_neg hp3] at hs
              repeat' ((conv => whnf); first | (with_reducible refine ixJ i rfl ?_ ?_; (focus (omega))) | (refine exI hx4 ?_) | (refine exI hx5 ?_) | (refine exI hx6 ?_) | (refine exI (qt1 _) ?_) | (first | refine stp ?_ | with_reducible refine condB (fun h => ?_) (fun h => ?_)))
              conv => whnf
              refine ⟨i + 1, hlt, by show l.length - (i + 1) < l.length - i; omega, FgL.mk0 rfl ?_⟩
              rw [hs]; (repeat (first | exact trivial | refine stw ?_))
          · have e4 : decide (l1 ≥ 0) = false := by simpa using hp2
            simp only [ifp, if_neg hp2] at hs
            repeat' ((conv => whnf); first | (with_reducible refine ixJ i rfl ?_ ?_; (focus (omega))) | (refine exI hx4 ?_) | (first | refine stp ?_ | with_reducible refine condB (fun h => ?_) (fun h => ?_)))
            conv => whnf
            refine ⟨i + 1, hlt, by show l.length - (i + 1) < l.length - i; omega, FgL.mk0 rfl ?_⟩
            rw [hs]; (repeat (first | exact trivial | refine stw ?_))
      · have e2 : decide (heftSL (l.take i) a ≥ 0) = false := by simpa using hpos
        have hst := heftSL_stop l a i (by omega)
        rw [hst]
        repeat' ((conv => whnf); first | refine stp ?_ | with_reducible refine condB (fun h => ?_) (fun h => ?_))
        all_goals rfl
    · have e1 : decide ((i : Int) < (l.length : Int)) = false := by simpa using hlt
      have hi2 : i = l.length := by have := hi; omega
      subst hi2
      rw [List.take_length]
      repeat' ((conv => whnf); first | refine stp ?_ | with_reducible refine condB (fun h => ?_) (fun h => ?_))
      all_goals rfl
end Go.Proofs.YtajhailaofchlaaDoor.lex
end

/-
  Programs: LightProgram.
-/
section
set_option linter.unusedVariables false
set_option linter.unusedSimpArgs false
namespace Go.Proofs.YtajhailaofchlaaDoor.lex
open Go.Abs Go.RowKit
set_option maxRecDepth 100000
set_option maxHeartbeats 4000000
variable {gl : Glob}
def heftD : List Dc → Int → Int
  | [], l => l
  | x :: k, l => if 0 ≤ l then heftD k (l - (x.name.length / 20 : Nat)) else l
def heftTL : List (List St) → Int → Int
  | [], l => l
  | x :: k, l => if 0 ≤ l then heftTL k (heftSL x l) else l
def lightP (p : Pr) (m : Int) : Bool := decide (0 ≤ heftTL p.threads (heftD p.decls (m - min (m + 1) (p.decls.length : Int) - min (m + 1) (p.threads.length : Int))))
theorem heftD_le : ∀ (k : List Dc) (l : Int), heftD k l ≤ l
  | [], l => by simp only [heftD]; omega
  | x :: k, l => by
    simp only [heftD]
    split
    · have := heftD_le k (l - (x.name.length / 20 : Nat)); omega
    · omega
theorem heftTL_le : ∀ (k : List (List St)) (l : Int), heftTL k l ≤ l
  | [], l => by simp only [heftTL]; omega
  | x :: k, l => by
    simp only [heftTL]
    split
    · have := heftTL_le k (heftSL x l); have := heftSL_le x l; omega
    · omega
theorem heftTL_size : ∀ (k : List (List St)) (l : Int), 0 ≤ heftTL k l → (sizeTL k : Int) + heftTL k l ≤ l
  | [], l, h => by simp only [heftTL, sizeTL] at *; omega
  | x :: k, l, h => by
    simp only [heftTL, sizeTL] at *
    split at h
    · rename_i hl
      rw [if_pos hl]
      have h1 := heftTL_size k _ h
      have h2 : 0 ≤ heftSL x l := by omega
      have h3 := heftSL_size x l h2
      omega
    · omega
theorem lightP_size (p : Pr) (m : Nat) (h : lightP p m = true) : sizeTL p.threads ≤ m := by
  simp only [lightP, decide_eq_true_eq] at h
  have h1 := heftTL_size _ _ h
  have h2 := heftD_le p.decls ((m : Int) - min ((m : Int) + 1) (p.decls.length : Int) - min ((m : Int) + 1) (p.threads.length : Int))
  omega
theorem heftD_at : ∀ (k : List Dc) (l : Int) (i : Nat) (h : i < k.length), heftD (k.take (i + 1)) l = if 0 ≤ heftD (k.take i) l then heftD (k.take i) l - (k[i].name.length / 20 : Nat) else heftD (k.take i) l
  | e :: k, l, 0, h => by simp only [List.take_succ_cons, List.take_zero, heftD, List.getElem_cons_zero]
  | e :: k, l, i + 1, h => by
    have ih := fun l => heftD_at k l i (by simpa using h)
    simp only [List.take_succ_cons, heftD, List.getElem_cons_succ] at ih ⊢
    split
    · exact ih _
    · rename_i h2; simp [h2]
theorem heftD_stop : ∀ (k : List Dc) (l : Int) (i : Nat), heftD (k.take i) l < 0 → heftD k l = heftD (k.take i) l
  | [], l, i, h => by simp [heftD]
  | e :: k, l, 0, h => by
    simp only [List.take_zero, heftD] at *
    rw [if_neg (by omega)]
  | e :: k, l, i + 1, h => by
    simp only [List.take_succ_cons, heftD] at *
    split
    · rename_i hl
      rw [if_pos hl] at h
      exact heftD_stop k _ i h
    · rfl
theorem heftTL_at : ∀ (k : List (List St)) (l : Int) (i : Nat) (h : i < k.length), heftTL (k.take (i + 1)) l = if 0 ≤ heftTL (k.take i) l then heftSL k[i] (heftTL (k.take i) l) else heftTL (k.take i) l
  | e :: k, l, 0, h => by simp only [List.take_succ_cons, List.take_zero, heftTL, List.getElem_cons_zero]
  | e :: k, l, i + 1, h => by
    have ih := fun l => heftTL_at k l i (by simpa using h)
    simp only [List.take_succ_cons, heftTL, List.getElem_cons_succ] at ih ⊢
    split
    · exact ih _
    · rename_i h2; simp [h2]
theorem heftTL_stop : ∀ (k : List (List St)) (l : Int) (i : Nat), heftTL (k.take i) l < 0 → heftTL k l = heftTL (k.take i) l
  | [], l, i, h => by simp [heftTL]
  | e :: k, l, 0, h => by
    simp only [List.take_zero, heftTL] at *
    rw [if_neg (by omega)]
  | e :: k, l, i + 1, h => by
    simp only [List.take_succ_cons, heftTL] at *
    split
    · rename_i hl
      rw [if_pos hl] at h
      exact heftTL_stop k _ i h
    · rfl
theorem lightP_ok (p : Pr) (m : Int) (hok : okP p) (hm0 : 0 ≤ m) (hm1 : m ≤ 1048576) : ValOK Tryd.prog gl 13 [p.av, .int .i64 m] (.bool (lightP p m)) := by
  obtain ⟨⟨hd1, hd2⟩, ht1, ht2⟩ := hok
  obtain ⟨O, hO, p1, -⟩ := fams (P := Tryd.prog) (gl := gl) [{ I := List St × Int, f := 44, G := fun q => okSL q.1 ∧ q.1.length ≤ 9223372036854775807 ∧ 0 ≤ q.2 ∧ q.2 ≤ 1048576, A := fun q => [stA q.1, .int .i64 q.2], R := fun q => .int .i64 (heftSL q.1 q.2), body := (by kernel_rfl), inj := (fun i j _ _ h => by simp only [List.cons.injEq, AV.int.injEq, and_true, true_and] at h; rw [stA_inj h.1, h.2]), ok := (fun q hq => ⟨rfl, hefts_ok _ q.1 q.2 (Nat.le_refl _) hq.1 hq.2.1 hq.2.2.1 hq.2.2.2⟩) }] rfl
  have q1 : ∀ x a, okSL x → x.length ≤ 9223372036854775807 → 0 ≤ a → a ≤ 1048576 → ∀ H, acall Tryd.prog O H 44 [stA x, .int .i64 a] = some (.int .i64 (heftSL x a), H) := fun x a h1 h2 h3 h4 => p1 (x, a) ⟨h1, h2, h3, h4⟩
  clear p1
  obtain ⟨ds, ts⟩ := p
  simp only [Pr.av, lightP] at *
  have w1 : IntKind.i64.wrap (m + 1) = m + 1 := wrapB (by omega) (by omega)
  have hl0 : m - (if (ds.length : Int) < m + 1 then (ds.length : Int) else m + 1) - (if (ts.length : Int) < m + 1 then (ts.length : Int) else m + 1) = m - min (m + 1) (ds.length : Int) - min (m + 1) (ts.length : Int) := by
    rw [Int.min_def, Int.min_def]; split <;> split <;> split <;> split <;> omega
  generalize m - min (m + 1) (ds.length : Int) - min (m + 1) (ts.length : Int) = l0 at *
  have hlm : l0 ≤ 1048576 := by omega
  have hlm2 : -9000000000000000000 ≤ l0 := by omega
  refine fn_val follows noNum hO Tryd.func13 rfl ?_
  repeat' ((conv => whnf); first | (with_reducible refine exW w1 ?_) | (first | refine stp ?_ | with_reducible refine condB (fun h => ?_) (fun h => ?_)))
  conv => whnf
  rw [hl0]
  refine ⟨Nat, (fun i => i ≤ ds.length), (fun i => [(2, .ptr 0 0), (5, .int .i64 (heftD (ds.take i) l0)), (6, .int .i64 i)]), (fun _ => [⟨true, 0, 0, .cells [.rs ds.length 3 (dcC ds), .rs ts.length 1 (ts.map stA)] 25⟩]), (fun i => ds.length - i), ⟨0, Nat.zero_le _, FgL.mk [0] rfl ?_ ⟨⟨rfl, rfl, rfl, rfl, BodyGe.pre (rest := []) rfl rfl⟩, trivial⟩ rfl⟩, ?_⟩
  · simp only [List.take_zero, heftD]; (repeat (first | exact trivial | refine stw ?_))
  intro i hi
  dsimp only
  have hle := heftD_le (ds.take i) l0
  by_cases hc : i < ds.length ∧ 0 ≤ heftD (ds.take i) l0
  · obtain ⟨hlt, hpos⟩ := hc
    have e1 : decide ((i : Int) < (ds.length : Int)) = true := by simpa using hlt
    have e2 : decide (heftD (ds.take i) l0 ≥ 0) = true := by simpa using hpos
    have hs := heftD_at ds l0 i hlt
    rw [if_pos hpos] at hs
    have hxn := dcn ds i hlt
    have hln := hd2 _ (get_mem hlt)
    generalize heftD (ds.take i) l0 = b at *
    generalize ds[i] = d at *
    obtain ⟨name, pl, vl⟩ := d
    simp only at *
    have q20 : Int.tdiv (name.length : Int) 20 = ((name.length / 20 : Nat) : Int) := rfl
    have w2 : IntKind.i64.wrap (Int.tdiv (name.length : Int) 20) = ((name.length / 20 : Nat) : Int) := by rw [q20]; exact wrapB (by omega) (by omega)
    have w3 : IntKind.i64.wrap (b - ((name.length / 20 : Nat) : Int)) = b - ((name.length / 20 : Nat) : Int) := wrapB (by omega) (by omega)
    repeat' ((conv => whnf); first | (refine And.intro (show (20 : Int) ≠ 0 by decide) ?_) | (rw [w2]) | (with_reducible refine exW w3 ?_) | (with_reducible refine ixJ i rfl ?_ ?_; (focus (omega))) | (refine exI hxn ?_) | (first | refine stp ?_ | with_reducible refine condB (fun h => ?_) (fun h => ?_)))
    conv => whnf
    refine ⟨i + 1, hlt, by show ds.length - (i + 1) < ds.length - i; omega, FgL.mk [0] rfl ?_ ⟨⟨rfl, rfl, rfl, rfl, BodyGe.pre (rest := []) rfl rfl⟩, trivial⟩ rfl⟩
    rw [hs]; (repeat (first | exact trivial | refine stw ?_))
  · have hfin : heftD (ds.take i) l0 = heftD ds l0 := by
      by_cases hlt : i < ds.length
      · exact (heftD_stop ds l0 i (by omega)).symm
      · rw [List.take_of_length_le (by omega)]
    rw [hfin] at hc hle ⊢
    generalize heftD ds l0 = l1 at *
    obtain ⟨b1, e1, hb⟩ : ∃ b1, decide ((i : Int) < (ds.length : Int)) = b1 ∧ (b1 = true → decide (l1 ≥ 0) = false) := ⟨_, rfl, fun h => by simp only [decide_eq_true_eq, decide_eq_false_iff_not] at *; omega⟩
    have hb2 : b1 = false ∨ b1 = true ∧ decide (l1 ≥ 0) = false := by cases b1 <;> simp_all
    clear hb
    rcases hb2 with rfl | ⟨rfl, e2⟩
    all_goals
      repeat' ((conv => whnf); first | refine stp ?_ | with_reducible refine condB (fun h => ?_) (fun h => ?_))
      conv => whnf
      refine ⟨Nat, (fun i => i ≤ ts.length), (fun i => [(2, .ptr 0 0), (5, .int .i64 (heftTL (ts.take i) l1)), (7, .int .i64 i)]), (fun _ => [⟨true, 0, 0, .cells [.rs ds.length 3 (dcC ds), .rs ts.length 1 (ts.map stA)] 25⟩]), (fun i => ts.length - i), ⟨0, Nat.zero_le _, FgL.mk [0] rfl ?_ ⟨⟨rfl, rfl, rfl, rfl, BodyGe.pre (rest := []) rfl rfl⟩, trivial⟩ rfl⟩, ?_⟩
      · simp only [List.take_zero, heftTL]; (repeat (first | exact trivial | refine stw ?_))
      clear e1
      try clear e2
      intro k hk
      dsimp only
      have hlk := heftTL_le (ts.take k) l1
      by_cases hkt : k < ts.length
      · have e1 : decide ((k : Int) < (ts.length : Int)) = true := by simpa using hkt
        by_cases hpos : 0 ≤ heftTL (ts.take k) l1
        · have e2 : decide (heftTL (ts.take k) l1 ≥ 0) = true := by simpa using hpos
          have hs := heftTL_at ts l1 k hkt
          rw [if_pos hpos] at hs
          have hx := th1 ts k hkt
          have hok := okTL_get ht1 _ (get_mem hkt)
          have q2 := q1 ts[k] (heftTL (ts.take k) l1) hok.1 hok.2 hpos (by omega)
          generalize heftTL (ts.take k) l1 = b at *
          generalize ts[k] = t at *
          simp only [stA] at hx q2
          repeat' ((conv => whnf); first | (with_reducible refine exI (q2 _) ?_) | (with_reducible refine ixJ k rfl ?_ ?_; (focus (omega))) | (refine exI hx ?_) | (first | refine stp ?_ | with_reducible refine condB (fun h => ?_) (fun h => ?_)))
          conv => whnf
          refine ⟨k + 1, hkt, by show ts.length - (k + 1) < ts.length - k; omega, FgL.mk [0] rfl ?_ ⟨⟨rfl, rfl, rfl, rfl, BodyGe.pre (rest := []) rfl rfl⟩, trivial⟩ rfl⟩
          rw [hs]; (repeat (first | exact trivial | refine stw ?_))
        · have e2 : decide (heftTL (ts.take k) l1 ≥ 0) = false := by simpa using hpos
          have hst := heftTL_stop ts l1 k (by omega)
          rw [hst]
          repeat' ((conv => whnf); first | refine stp ?_ | with_reducible refine condB (fun h => ?_) (fun h => ?_))
          all_goals rfl
      · have e1 : decide ((k : Int) < (ts.length : Int)) = false := by simpa using hkt
        have hk2 : k = ts.length := by have := hk; omega
        subst hk2
        rw [List.take_length]
        repeat' ((conv => whnf); first | refine stp ?_ | with_reducible refine condB (fun h => ?_) (fun h => ?_))
        all_goals rfl
end Go.Proofs.YtajhailaofchlaaDoor.lex
end

/-
  A verified abstract interpreter, part 46: what is read of types that hold themselves.
-/
section
set_option linter.unusedSimpArgs false
set_option linter.unusedVariables false
namespace Go.Abs
open Go.RowKit Go.ChangeShapes Go.WideShapes Go.ChangeAt

/-- Read with at most so much fuel. -/
def OpensB (P : Program) (N : Nat) (t : TypeId) (Q : List AV → Prop) : Prop :=
  ∀ (H : Type) (enc : TypeId × Value → H) (W : World) (fuel : Nat) (cs : List Value) (x : DataW H × List MemPlace), fuel ≤ N → DataW.trod enc P W 0 (fun _ => true) true fuel t cs = some x → ∃ us, Q us ∧ LR (snap0 W) noI us cs

section opens
variable {P : Program}
theorem OpensB.mono {N : Nat} {t : TypeId} {Q Q' : List AV → Prop} (h : OpensB P N t Q) (hq : ∀ u, Q u → Q' u) : OpensB P N t Q' := fun H enc W fuel cs x hN hx => let ⟨u, h1, h2⟩ := h H enc W fuel cs x hN hx; ⟨u, hq _ h1, h2⟩
theorem OpensB.of {N : Nat} {t : TypeId} {Q : List AV → Prop} (h : Opens P t Q) : OpensB P N t Q := fun H enc W fuel cs x _ hx => h H enc W fuel cs x hx
theorem OpensB.all {t : TypeId} {Q : List AV → Prop} (h : ∀ N, OpensB P N t Q) : Opens P t Q := fun H enc W fuel cs x hx => h fuel H enc W fuel cs x (Nat.le_refl _) hx
theorem opensB_zero {t : TypeId} {Q : List AV → Prop} : OpensB P 0 t Q := fun H enc W fuel cs x hN hx => by
  obtain rfl : fuel = 0 := by omega
  simp [DataW.trod] at hx
/-- A slice: none, or one with such elements. -/
theorem opensB_slice {N : Nat} {t e : TypeId} {z : Nat} {Q : List AV → Prop} (ht : P.underlying t = some (.slice e)) (hz : P.cellsOf e = z) (hz0 : z ≠ 0) (he : OpensB P N e Q) :
    OpensB P (N + 1) t fun us => ∃ l : List (List AV), (∀ u ∈ l, Q u ∧ u.length = z) ∧ us = [.rs l.length z l.flatten] ∧ l.length ≤ maxLen := by
  intro H enc W fuel cs x hN h
  rcases DataW.trod_slice ht h with ⟨rfl, _⟩ | ⟨a, len, cap, els, rest, n, hfu, rfl, _, _, hlc, hcm, hl, hel, hrest⟩
  · exact ⟨_, ⟨[], by simp, rfl, by simp⟩, by simp [LR, VR]⟩
  · rw [hz] at hel
    have each : ∀ i, i < len → ∃ (vs : List Value) (u : List AV), W.cells? 0 (a.add (i * z)) z = some vs ∧ Q u ∧ LR (snap0 W) noI u vs := by
      intro i hi
      have h1 := hel i hi
      have h2 : els[i]? = some els[i] := List.getElem?_eq_getElem (by omega)
      rw [h2] at h1
      simp only [Option.bind_eq_some_iff] at h1
      obtain ⟨vs, h3, h4⟩ := h1
      obtain ⟨u, h5, h6⟩ := he H enc W n vs _ (by omega) h4
      exact ⟨vs, u, h3, h5, h6⟩
    have hex : ∃ (l : List (List AV)) (vss : List (List Value)), l.length = len ∧ vss.length = len ∧ ∀ i, i < len → ∃ vs u, l[i]? = some u ∧ vss[i]? = some vs ∧ W.cells? 0 (a.add (i * z)) z = some vs ∧ Q u ∧ LR (snap0 W) noI u vs := by
      clear hel hl h hlc hcm hrest
      induction len with
      | zero => exact ⟨[], [], rfl, rfl, fun i hi => by omega⟩
      | succ m ih =>
        obtain ⟨l, vss, h1, h2, h3⟩ := ih fun i hi => each i (by omega)
        obtain ⟨vs, u, g1, g2, g3⟩ := each m (by omega)
        refine ⟨l ++ [u], vss ++ [vs], by simp [h1], by simp [h2], fun i hi => ?_⟩
        by_cases e : i = m
        · subst e
          exact ⟨vs, u, by simp [← h1], by simp [← h2], g1, g2, g3⟩
        · obtain ⟨vs', u', k1, k2, k3⟩ := h3 i (by omega)
          exact ⟨vs', u', by rw [List.getElem?_append_left (by omega)]; exact k1, by rw [List.getElem?_append_left (by omega)]; exact k2, k3⟩
    obtain ⟨l, vss, h1, h2, h3⟩ := hex
    have hll : ∀ u ∈ l, Q u ∧ u.length = z := by
      intro u hu
      obtain ⟨i, hi, rfl⟩ := List.mem_iff_getElem.1 hu
      obtain ⟨vs, u', k1, k2, k3, k4, k5⟩ := h3 i (by omega)
      rw [List.getElem?_eq_getElem hi] at k1; simp at k1
      rw [k1]
      exact ⟨k4, by rw [← k5.length, (cells?_get k3).1]⟩
    refine ⟨_, ⟨l, hll, rfl, by omega⟩, ?_⟩
    simp only [LR]
    refine ⟨_, _, rfl, ?_, rfl⟩
    simp only [VR]
    have hfl : l.flatten.length = l.length * z := by
      clear h1 h3
      induction l with
      | nil => simp
      | cons u l ih => simp only [List.flatten_cons, List.length_append, List.length_cons, (hll u (by simp)).2, ih fun v hv => hll v (by simp [hv])]; rw [Nat.add_mul]; omega
    have hspot : len ≠ 0 → a.spot = none := by
      intro h0
      obtain ⟨vs, u, k1, k2, k3, k4, k5⟩ := h3 0 (by omega)
      obtain ⟨g1, g2⟩ := cells?_get k3
      have : W.cell? ((a.add (0 * z)).add 0) = some vs[0] := g2 0 _ (List.getElem?_eq_getElem (by omega))
      rw [Nat.zero_mul] at this
      simpa [Addr.add] using World.cell?_spot this
    refine .inr ⟨a, cap, by rw [h1], by omega, hfl, mr_of_get fun k u hu => ?_, fun h0 => hspot (by rw [← h1]; exact h0)⟩
    obtain ⟨x', g1, g2⟩ := flatten_at hz0 (fun u hu => (hll u hu).2) hu
    have hklt : k / z < len := by rw [← h1]; exact (List.getElem?_eq_some_iff.1 g1).1
    obtain ⟨vs, u', k1, k2, k3, k4, k5⟩ := h3 (k / z) hklt
    rw [g1] at k1; simp at k1; subst k1
    obtain ⟨v, e1, e2⟩ := k5.get g2
    refine ⟨v, ?_, e2⟩
    have hc := (cells?_get k3).2 _ _ e1
    rw [addr_addadd a (hspot (Nat.ne_of_gt (Nat.lt_of_le_of_lt (Nat.zero_le _) hklt)))] at hc
    have hk : a.off + k / z * z + k % z = a.off + k := by rw [Nat.add_assoc, Nat.mul_comm, Nat.div_add_mod]
    rw [hk] at hc
    unfold snap0
    have hlt : a.block < W.heap.size := by
      cases hq : W.heap[a.block]? with
      | none => unfold World.cell? at hc; simp only [hq] at hc; cases hc
      | some ob => exact (Array.getElem?_eq_some_iff.1 hq).1
    rw [if_pos (by exact hlt)]; exact hc

def FsOpensB (P : Program) (N : Nat) : List Field → List (List AV → Prop) → Nat → Nat → Prop
  | [], [], off, tot => off = tot
  | f :: fs, Q :: Qs, off, tot => f.offset = off ∧ OpensB P N f.type Q ∧ FsOpensB P N fs Qs (off + P.cellsOf f.type) tot
  | _, _, _, _ => False

theorem opensB_fs {N : Nat} {H : Type} {enc : TypeId × Value → H} {W : World} {n tot : Nat} {cs : List Value} (hcs : cs.length = tot) (hN : n ≤ N) : ∀ {fs : List Field} {Qs : List (List AV → Prop)} {xs : List (DataW H × List MemPlace)} {off : Nat}, FsOpensB P N fs Qs off tot → xs.length = fs.length → off ≤ tot →
    (∀ (i : Nat) (f : Field), fs[i]? = some f → DataW.trod enc P W 0 (fun _ => true) true n f.type ((cs.drop f.offset).take (P.cellsOf f.type)) = xs[i]?) → ∃ us, FsQ Qs us ∧ LR (snap0 W) noI us (cs.drop off)
  | [], [], xs, off, h, hl, ho, hx => by
    have : off = tot := h
    subst this
    exact ⟨[], rfl, by simp [LR, ← hcs]⟩
  | f :: fs, Q :: Qs, xs, off, h, hl, ho, hx => by
    obtain ⟨h1, h2, h3⟩ := h
    cases xs with
    | nil => simp at hl
    | cons x xs =>
      have h0 := hx 0 f rfl
      simp only [List.getElem?_cons_zero] at h0
      obtain ⟨u, q1, q2⟩ := h2 H enc W n _ _ hN h0
      have hle : ∀ (fs : List Field) (Qs : List (List AV → Prop)) (o : Nat), FsOpensB P N fs Qs o tot → o ≤ tot := by
        intro fs
        induction fs with
        | nil => intro Qs o h; cases Qs with | nil => exact Nat.le_of_eq h | cons _ _ => exact h.elim
        | cons g gs ih => intro Qs o h; cases Qs with | nil => exact h.elim | cons _ _ => have := ih _ _ h.2.2; omega
      obtain ⟨us, q3, q4⟩ := opensB_fs hcs hN h3 (by simpa using hl) (hle _ _ _ h3) fun i g hg => by simpa using hx (i + 1) g (by simpa using hg)
      refine ⟨u ++ us, ⟨u, us, rfl, q1, q3⟩, ?_⟩
      rw [h1] at q2
      have := q2.append q4
      rwa [← List.drop_drop, List.take_append_drop] at this
  | [], _ :: _, xs, off, h, hl, ho, hx => h.elim
  | _ :: _, [], xs, off, h, hl, ho, hx => h.elim

theorem opensB_struct {N : Nat} {t : TypeId} {fs : Array Field} {Qs : List (List AV → Prop)} (ht : P.underlying t = some (.struct fs)) (h : FsOpensB P N fs.toList Qs 0 (P.cellsOf t)) : OpensB P (N + 1) t (FsQ Qs) := by
  intro H enc W fuel cs x hN hx
  obtain ⟨xs, n, hfu, _, hl, hlen, hf⟩ := DataW.trod_struct ht hx
  obtain ⟨us, h1, h2⟩ := opensB_fs hl (by omega) h (by simpa using hlen) (Nat.zero_le _) fun i f hi => hf i f (by simpa using hi)
  exact ⟨us, h1, by simpa using h2⟩
end opens

end Go.Abs
end

/-
  Expressions, statements, programs: what is read of them.
-/
section
set_option linter.unusedVariables false
set_option linter.unusedSimpArgs false
namespace Go.Proofs.YtajhailaofchlaaDoor.lex
open Go.Abs Go.RowKit
set_option maxRecDepth 100000
set_option maxHeartbeats 4000000
def QE (us : List AV) : Prop := ∃ e : Ex, us = e.cells ∧ okE e
def QEL (us : List AV) : Prop := ∃ l : List Ex, us = [exA l] ∧ okL l ∧ l.length ≤ maxLen
def QI (us : List AV) : Prop := ∃ n, us = [.int .i64 n] ∧ (Lit.int .i64 n).wf = true
def QB (us : List AV) : Prop := ∃ b, us = [.bool b]
def QT (us : List AV) : Prop := ∃ s : List UInt8, us = [.str s] ∧ s.length ≤ maxLen
def QS (us : List AV) : Prop := ∃ e : St, us = e.cells ∧ okS e
def QSL (us : List AV) : Prop := ∃ l : List St, us = [stA l] ∧ okSL l ∧ l.length ≤ maxLen
def QTL (us : List AV) : Prop := ∃ l : List (List St), us = [.rs l.length 1 (l.map stA)] ∧ okTL l ∧ l.length ≤ maxLen
def QD (us : List AV) : Prop := ∃ d : Dc, us = d.cells ∧ d.name.length ≤ 9223372036854775807
def QDL (us : List AV) : Prop := ∃ l : List Dc, us = [.rs l.length 3 (dcC l)] ∧ okD l
theorem max_eq : maxLen = 9223372036854775807 := rfl
theorem ex_list : ∀ l : List (List AV), (∀ u ∈ l, QE u ∧ u.length = 4) → ∃ m : List Ex, l.flatten = exC m ∧ l.length = m.length ∧ okL m
  | [], _ => ⟨[], by simp only [exC, List.flatten_nil], rfl, trivial⟩
  | u :: l, h => by
    obtain ⟨m, h1, h2, h3⟩ := ex_list l fun v hv => h v (by simp [hv])
    obtain ⟨⟨e, rfl, h4⟩, _⟩ := h u (by simp)
    exact ⟨e :: m, by simp only [List.flatten_cons, exC, h1], by simp [h2], by simp only [okL]; exact ⟨h4, h3⟩⟩
theorem st_list : ∀ l : List (List AV), (∀ u ∈ l, QS u ∧ u.length = 7) → ∃ m : List St, l.flatten = stC m ∧ l.length = m.length ∧ okSL m
  | [], _ => ⟨[], by simp only [stC, List.flatten_nil], rfl, trivial⟩
  | u :: l, h => by
    obtain ⟨m, h1, h2, h3⟩ := st_list l fun v hv => h v (by simp [hv])
    obtain ⟨⟨e, rfl, h4⟩, _⟩ := h u (by simp)
    exact ⟨e :: m, by simp only [List.flatten_cons, stC, h1], by simp [h2], by simp only [okSL]; exact ⟨h4, h3⟩⟩
theorem dc_list : ∀ l : List (List AV), (∀ u ∈ l, QD u ∧ u.length = 3) → ∃ m : List Dc, l.flatten = dcC m ∧ l.length = m.length ∧ ∀ d ∈ m, d.name.length ≤ 9223372036854775807
  | [], _ => ⟨[], by simp only [dcC, List.flatten_nil], rfl, by simp⟩
  | u :: l, h => by
    obtain ⟨m, h1, h2, h3⟩ := dc_list l fun v hv => h v (by simp [hv])
    obtain ⟨⟨e, rfl, h4⟩, _⟩ := h u (by simp)
    exact ⟨e :: m, by simp only [List.flatten_cons, dcC, h1], by simp [h2], fun d hd => by rcases List.mem_cons.1 hd with rfl | hd; exact h4; exact h3 d hd⟩
theorem th_list : ∀ l : List (List AV), (∀ u ∈ l, QSL u ∧ u.length = 1) → ∃ m : List (List St), l.flatten = m.map stA ∧ l.length = m.length ∧ okTL m
  | [], _ => ⟨[], by simp only [List.map_nil, List.flatten_nil], rfl, trivial⟩
  | u :: l, h => by
    obtain ⟨m, h1, h2, h3⟩ := th_list l fun v hv => h v (by simp [hv])
    obtain ⟨⟨e, rfl, h4, h5⟩, _⟩ := h u (by simp)
    exact ⟨e :: m, by simp only [List.flatten_cons, List.map_cons, h1]; rfl, by simp [h2], by simp only [okTL]; exact ⟨h4, h5, h3⟩⟩
theorem fsE (N : Nat) (h : OpensB Tryd.prog N 27 QEL) : FsOpensB Tryd.prog N (match Tryd.prog.underlying 36 with | some (.struct fs) => fs.toList | _ => []) [QI, QI, QT, QEL] 0 (Tryd.prog.cellsOf 36) := by
  rw [Tryd.underlying36]
  refine ⟨rfl, .of (opens_int Tryd.underlying3), ?_⟩
  refine ⟨by kernel_rfl, .of (opens_int Tryd.underlying2), ?_⟩
  refine ⟨by kernel_rfl, .of (opens_str Tryd.underlying9), ?_⟩
  refine ⟨by kernel_rfl, h, ?_⟩
  unfold FsOpensB; kernel_rfl
theorem q_e {us : List AV} (h : FsQ [QI, QI, QT, QEL] us) : QE us := by
  obtain ⟨a, u1, rfl, ⟨n1, rfl, _⟩, b, u2, rfl, ⟨n2, rfl, _⟩, c, u3, rfl, ⟨s, rfl, hs⟩, d, u4, rfl, ⟨k, rfl, hk, hkl⟩, h3⟩ := h
  have h3 : u4 = [] := h3
  subst h3
  exact ⟨.mk n1 n2 s k, by simp only [Ex.cells]; rfl, by simp only [okE, okN]; exact ⟨⟨hs, hkl⟩, hk⟩⟩
theorem opensE : ∀ N, OpensB Tryd.prog N 36 QE ∧ OpensB Tryd.prog N 27 QEL
  | 0 => ⟨opensB_zero, opensB_zero⟩
  | N + 1 => by
    obtain ⟨h1, h2⟩ := opensE N
    have h3 := fsE N h2
    rw [Tryd.underlying36] at h3
    refine ⟨(opensB_struct Tryd.underlying36 h3).mono fun u hu => q_e hu, (opensB_slice Tryd.underlying27 (by kernel_rfl) (show (4 : Nat) ≠ 0 by decide) h1).mono ?_⟩
    rintro u ⟨l, hl, rfl, hll⟩
    obtain ⟨m, e1, e2, e3⟩ := ex_list l hl
    exact ⟨m, by rw [e1, e2]; rfl, e3, by rw [← e2]; exact hll⟩
theorem fsS (N : Nat) (h : OpensB Tryd.prog N 28 QSL) : FsOpensB Tryd.prog N (match Tryd.prog.underlying 30 with | some (.struct fs) => fs.toList | _ => []) [QI, QT, QT, QI, QEL, QSL, QSL] 0 (Tryd.prog.cellsOf 30) := by
  rw [Tryd.underlying30]
  refine ⟨rfl, .of (opens_int Tryd.underlying3), ?_⟩
  refine ⟨by kernel_rfl, .of (opens_str Tryd.underlying9), ?_⟩
  refine ⟨by kernel_rfl, .of (opens_str Tryd.underlying9), ?_⟩
  refine ⟨by kernel_rfl, .of (opens_int Tryd.underlying3), ?_⟩
  refine ⟨by kernel_rfl, (opensE N).2, ?_⟩
  refine ⟨by kernel_rfl, h, ?_⟩
  refine ⟨by kernel_rfl, h, ?_⟩
  unfold FsOpensB; kernel_rfl
theorem q_s {us : List AV} (h : FsQ [QI, QT, QT, QI, QEL, QSL, QSL] us) : QS us := by
  obtain ⟨a, u1, rfl, ⟨n1, rfl, _⟩, b, u2, rfl, ⟨s1, rfl, hs1⟩, c, u3, rfl, ⟨s2, rfl, hs2⟩, d, u4, rfl, ⟨n2, rfl, _⟩, e, u5, rfl, ⟨x, rfl, hx, hxl⟩, f, u6, rfl, ⟨t, rfl, ht, htl⟩, g, u7, rfl, ⟨k, rfl, hk, hkl⟩, h3⟩ := h
  have h3 : u7 = [] := h3
  subst h3
  exact ⟨.mk n1 s1 s2 n2 x t k, by simp only [St.cells, stA]; rfl, by simp only [okS, okN]; exact ⟨⟨hs1, hxl⟩, ⟨hs2, htl⟩, hkl, hx, ht, hk⟩⟩
theorem opensS : ∀ N, OpensB Tryd.prog N 30 QS ∧ OpensB Tryd.prog N 28 QSL
  | 0 => ⟨opensB_zero, opensB_zero⟩
  | N + 1 => by
    obtain ⟨h1, h2⟩ := opensS N
    have h3 := fsS N h2
    rw [Tryd.underlying30] at h3
    refine ⟨(opensB_struct Tryd.underlying30 h3).mono fun u hu => q_s hu, (opensB_slice Tryd.underlying28 (by kernel_rfl) (show (7 : Nat) ≠ 0 by decide) h1).mono ?_⟩
    rintro u ⟨l, hl, rfl, hll⟩
    obtain ⟨m, e1, e2, e3⟩ := st_list l hl
    exact ⟨m, by rw [e1, e2]; rfl, e3, by rw [← e2]; exact hll⟩
theorem fsD : FsOpens Tryd.prog (match Tryd.prog.underlying 53 with | some (.struct fs) => fs.toList | _ => []) [QT, QB, QI] 0 (Tryd.prog.cellsOf 53) := by
  rw [Tryd.underlying53]
  refine ⟨rfl, opens_str Tryd.underlying9, ?_⟩
  refine ⟨by kernel_rfl, opens_bool Tryd.underlying4, ?_⟩
  refine ⟨by kernel_rfl, opens_int Tryd.underlying2, ?_⟩
  unfold FsOpens; kernel_rfl
theorem q_d {us : List AV} (h : FsQ [QT, QB, QI] us) : QD us := by
  obtain ⟨a, u1, rfl, ⟨s, rfl, hs⟩, b, u2, rfl, ⟨n1, rfl⟩, c, u3, rfl, ⟨n2, rfl, _⟩, h3⟩ := h
  have h3 : u3 = [] := h3
  subst h3
  exact ⟨⟨s, n1, n2⟩, rfl, hs⟩
theorem opensDL : Opens Tryd.prog 22 QDL := by
  have h3 := fsD
  rw [Tryd.underlying53] at h3
  refine opens_mono (opens_slice Tryd.underlying22 (by kernel_rfl) (show (3 : Nat) ≠ 0 by decide) (opens_mono (opens_struct Tryd.underlying53 h3) fun u hu => q_d hu)) ?_
  rintro u ⟨l, hl, rfl, hll⟩
  obtain ⟨m, e1, e2, e3⟩ := dc_list l hl
  exact ⟨m, by rw [e1, e2], by rw [← e2]; exact hll, e3⟩
theorem opensTL : Opens Tryd.prog 23 QTL := by
  refine opens_mono (opens_slice Tryd.underlying23 (by kernel_rfl) (show (1 : Nat) ≠ 0 by decide) (OpensB.all fun N => (opensS N).2)) ?_
  rintro u ⟨l, hl, rfl, hll⟩
  obtain ⟨m, e1, e2, e3⟩ := th_list l hl
  exact ⟨m, by rw [e1, e2], e3, by rw [← e2]; exact hll⟩
theorem fsP : FsOpens Tryd.prog (match Tryd.prog.underlying 25 with | some (.struct fs) => fs.toList | _ => []) [QDL, QTL] 0 (Tryd.prog.cellsOf 25) := by
  rw [Tryd.underlying25]
  refine ⟨rfl, opensDL, ?_⟩
  refine ⟨by kernel_rfl, opensTL, ?_⟩
  unfold FsOpens; kernel_rfl
theorem opensP : OpensV Tryd.prog 25 fun u => ∃ p : Pr, u = p.av ∧ okP p := by
  have h3 := fsP
  rw [Tryd.underlying25] at h3
  refine opensV_mono (opensV_struct Tryd.underlying25 h3) ?_
  rintro u ⟨us, rfl, a, u1, rfl, ⟨ds, rfl, hd⟩, b, u2, rfl, ⟨ts, rfl, ht, htl⟩, h4⟩
  have h4 : u2 = [] := h4
  subst h4
  exact ⟨⟨ds, ts⟩, rfl, hd, ht, htl⟩
theorem opensX : OpensV Tryd.prog 36 fun u => ∃ e : Ex, u = .agg e.cells ∧ okE e := by
  have h3 : FsOpens Tryd.prog (match Tryd.prog.underlying 36 with | some (.struct fs) => fs.toList | _ => []) [QI, QI, QT, QEL] 0 (Tryd.prog.cellsOf 36) := by
    rw [Tryd.underlying36]
    refine ⟨rfl, opens_int Tryd.underlying3, ?_⟩
    refine ⟨by kernel_rfl, opens_int Tryd.underlying2, ?_⟩
    refine ⟨by kernel_rfl, opens_str Tryd.underlying9, ?_⟩
    refine ⟨by kernel_rfl, OpensB.all fun N => (opensE N).2, ?_⟩
    unfold FsOpens; kernel_rfl
  rw [Tryd.underlying36] at h3
  refine opensV_mono (opensV_struct Tryd.underlying36 h3) ?_
  rintro u ⟨us, rfl, hu⟩
  obtain ⟨e, rfl, he⟩ := q_e hu
  exact ⟨e, rfl, he⟩
end Go.Proofs.YtajhailaofchlaaDoor.lex
end


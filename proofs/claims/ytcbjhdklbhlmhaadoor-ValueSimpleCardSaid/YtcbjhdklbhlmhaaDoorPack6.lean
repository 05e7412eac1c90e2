/-
  Texts of this proof, one behind the other (part 6).
-/
import Derived.Test.YtcbjhdklbhlmhaaDoorPack5
import Derived.Test.YtcbjhdklbhlmhaaDoorRows
import Derived.KernelRfl
import Derived.Sort.KeysCollected
import Derived.Maps.OwnSet

/-
  Words: 'lex.Word', 'cantileverref02.Word', in whatever seat (functions by their names).
-/
section
set_option linter.unusedVariables false
set_option linter.unusedSimpArgs false
namespace Go.Proofs.YtcbjhdklbhlmhaaDoor.lex
open Go.Abs Go.RowKit
set_option maxRecDepth 100000
set_option maxHeartbeats 4000000
theorem follows : Tryd.prog.follows .mixedOrders = true := by kernel_rfl
theorem noNumAll : (Tryd.prog.funcs.toList.all fun fn => !(fn.name == "runtime.NumGoroutine")) = true := by kernel_rfl
theorem noNum : NoNum Tryd.prog := fun g fn h => by
  have h1 := List.all_eq_true.1 noNumAll fn (Array.mem_toList_iff.2 (Array.mem_of_getElem? h))
  simpa using h1
variable {gl : Glob}
theorem none_sound : OrcSound Tryd.prog gl (orcV fun _ _ => none) := orcV_sound fun _ _ _ h => by cases h

def letB (n : Int) : Bool := decide (97 ≤ n) && decide (n ≤ 122) || decide (65 ≤ n) && decide (n ≤ 90)
def digB (n : Int) : Bool := decide (48 ≤ n) && decide (n ≤ 57)
theorem let_ok (n : Int) : ValOK Tryd.prog gl 92 [.int .u8 n] (.bool (letB n)) := by
  refine fn_val follows noNum none_sound Tryd.func92 rfl ?_
  repeat' ((conv => whnf); first | refine stp ?_ | with_reducible refine condB (fun h => ?_) (fun h => ?_))
  all_goals (try simp_all [resOf, letB])
  all_goals omega
theorem dig_ok (n : Int) : ValOK Tryd.prog gl 95 [.int .u8 n] (.bool (digB n)) := by
  refine fn_val follows noNum none_sound Tryd.func95 rfl ?_
  repeat' ((conv => whnf); first | refine stp ?_ | with_reducible refine condB (fun h => ?_) (fun h => ?_))
  all_goals (try simp_all [resOf, digB])
  all_goals omega
theorem letR_ok (n : Int) : ValOK Tryd.prog gl 63 [.int .u8 n] (.bool (letB n)) := by
  refine fn_val follows noNum none_sound Tryd.func63 rfl ?_
  repeat' ((conv => whnf); first | refine stp ?_ | with_reducible refine condB (fun h => ?_) (fun h => ?_))
  all_goals (try simp_all [resOf, letB])
  all_goals omega
theorem digR_ok (n : Int) : ValOK Tryd.prog gl 64 [.int .u8 n] (.bool (digB n)) := by
  refine fn_val follows noNum none_sound Tryd.func64 rfl ?_
  repeat' ((conv => whnf); first | refine stp ?_ | with_reducible refine condB (fun h => ?_) (fun h => ?_))
  all_goals (try simp_all [resOf, digB])
  all_goals omega

def F1 (f : Nat) (xs : List AV) : Option AV := match f with
  | 92 => match xs with | [.int .u8 n] => some (.bool (letB n)) | _ => none
  | 95 => match xs with | [.int .u8 n] => some (.bool (digB n)) | _ => none
  | 63 => match xs with | [.int .u8 n] => some (.bool (letB n)) | _ => none
  | 64 => match xs with | [.int .u8 n] => some (.bool (digB n)) | _ => none
  | _ => none
theorem F1_val {f : Nat} {xs : List AV} {r : AV} (h : F1 f xs = some r) : plain r = true ∧ ValOK Tryd.prog gl f xs r := by
  unfold F1 at h
  split at h <;> try (cases h; done)
  all_goals (split at h <;> cases h)
  · exact ⟨rfl, let_ok _⟩
  · exact ⟨rfl, dig_ok _⟩
  · exact ⟨rfl, letR_ok _⟩
  · exact ⟨rfl, digR_ok _⟩
theorem F1_sound : OrcSound Tryd.prog gl (orcZ F1) := orcZ_sound fun f xs r h => F1_val h
def worB (n : Int) : Bool := letB n || digB n || n == 95
theorem word1_ok (n : Int) : ValOK Tryd.prog gl 94 [.int .u8 n] (.bool (worB n)) := by
  refine fn_val follows noNum F1_sound Tryd.func94 rfl ?_
  repeat' ((conv => whnf); first | refine stp ?_ | with_reducible refine condB (fun h => ?_) (fun h => ?_))
  all_goals (try simp_all [resOf, worB])
def F2 (f : Nat) (xs : List AV) : Option AV := match f with
  | 94 => match xs with | [.int .u8 n] => some (.bool (worB n)) | _ => none
  | f => F1 f xs
theorem F2_val {f : Nat} {xs : List AV} {r : AV} (h : F2 f xs = some r) : plain r = true ∧ ValOK Tryd.prog gl f xs r := by
  unfold F2 at h
  split at h
  · split at h <;> cases h
    exact ⟨rfl, word1_ok _⟩
  · exact F1_val h
theorem F2_sound : OrcSound Tryd.prog gl (orcZ F2) := orcZ_sound fun f xs r h => F2_val h

/-- How many bytes at the beginning are such. -/
def spanN (p : Int → Bool) (s : List UInt8) : Nat := (s.takeWhile fun c => p c.toNat).length

theorem spanN_true {p : Int → Bool} {c : UInt8} (l : List UInt8) (h : p c.toNat = true) : spanN p (c :: l) = spanN p l + 1 := by simp [spanN, h]
theorem spanN_false {p : Int → Bool} {c : UInt8} (l : List UInt8) (h : p c.toNat = false) : spanN p (c :: l) = 0 := by simp [spanN, h]
theorem span_ok (g : Nat) (p : Int → Bool) (hF : ∀ n, F2 g [.int .u8 n] = some (.bool (p n))) (hb : hasBody Tryd.prog g = true) (s : List UInt8) (hs : s.length ≤ 9223372036854775807) :
    ValOK Tryd.prog gl 93 [.str s, .func (.func g) [] []] (.int .i64 (spanN p s)) := by
  refine fn_val follows noNum F2_sound Tryd.func93 rfl ?_
  conv => whnf
  refine ⟨Nat, (fun k => k ≤ s.length ∧ spanN p s = k + spanN p (s.drop k)), (fun k => [(0, .str s), (1, .func (.func g) [] []), (5, .int .i64 k)]), (fun _ => []), (fun k => s.length - k), ⟨0, ⟨Nat.zero_le _, by simp⟩, ?_⟩, ?_⟩
  · refine FgL.mk0 rfl ?_
    refine And.intro (Wk.noref rfl) ?_
    refine And.intro (Wk.noref rfl) ?_
    refine And.intro (Wk.noref rfl) ?_
    trivial
  · intro k ⟨hk, hsp⟩
    by_cases hlt : k < s.length
    · have e1 : decide ((k : Int) < (s.length : Int)) = true := by simpa using hlt
      have hc : s[k]? = some s[k] := by simp [hlt]
      have hd : s.drop k = s[k] :: s.drop (k + 1) := List.drop_eq_getElem_cons hlt
      cases hp : p s[k].toNat with
      | true =>
        repeat' ((conv => whnf); first | with_reducible refine ixS _ rfl hc ?_ | with_reducible refine exI (callZ hb rfl (hF _)) ?_ | (first | refine stp ?_ | with_reducible refine condB (fun h => ?_) (fun h => ?_)))
        (conv => whnf)
        have hn := spanN_true (s.drop (k + 1)) hp
        rw [← hd] at hn
        exact ⟨k + 1, ⟨hlt, by omega⟩, by show s.length - (k + 1) < s.length - k; omega, FgL.mk0 rfl ⟨Wk.noref rfl, Wk.noref rfl, Wk.int rfl, trivial⟩⟩
      | false =>
        repeat' ((conv => whnf); first | with_reducible refine ixS _ rfl hc ?_ | with_reducible refine exI (callZ hb rfl (hF _)) ?_ | (first | refine stp ?_ | with_reducible refine condB (fun h => ?_) (fun h => ?_)))
        have hn := spanN_false (s.drop (k + 1)) hp
        rw [← hd] at hn
        rw [hsp, hn]; rfl
    · have e1 : decide ((k : Int) < (s.length : Int)) = false := by simpa using hlt
      have hk' : k = s.length := by omega
      repeat' ((conv => whnf); first | refine stp ?_ | with_reducible refine condB (fun h => ?_) (fun h => ?_))
      rw [hsp, hk']; simp [resOf, spanN]
theorem spanN_le (p : Int → Bool) (s : List UInt8) : spanN p s ≤ s.length := by
  unfold spanN; exact (List.takeWhile_prefix _).length_le
theorem spanN_at {p : Int → Bool} {s : List UInt8} {e : Nat} (h : e < s.length) : spanN p (s.drop e) = if p s[e].toNat then spanN p (s.drop (e + 1)) + 1 else 0 := by
  rw [List.drop_eq_getElem_cons h]
  cases hp : p s[e].toNat with
  | true => rw [spanN_true _ hp]; rfl
  | false => rw [spanN_false _ hp]; rfl
theorem spanN_end {p : Int → Bool} {s : List UInt8} {e : Nat} (h : ¬ e < s.length) : spanN p (s.drop e) = 0 := by
  rw [List.drop_eq_nil_of_le (by omega)]; rfl
theorem u8_eq (c : UInt8) (n : Nat) (h : n < 256) : ((c.toNat : Int) == (n : Int)) = (c == UInt8.ofNat n) := by
  by_cases e : c = UInt8.ofNat n
  · subst e; simp; omega
  · have : c.toNat ≠ n := fun e' => e (by apply UInt8.toNat_inj.1; rw [e']; simp [Nat.mod_eq_of_lt h])
    rw [beq_eq_false_iff_ne.2 e, beq_eq_false_iff_ne]; omega


def F3 (f : Nat) (xs : List AV) : Option AV := match f with
  | 93 => match xs with
    | [.str s, .func (.func 94) [] []] => if s.length ≤ 9223372036854775807 then some (.int .i64 (spanN worB s)) else none
    | _ => none
  | f => F2 f xs
theorem F3_val {f : Nat} {xs : List AV} {r : AV} (h : F3 f xs = some r) : plain r = true ∧ ValOK Tryd.prog gl f xs r := by
  unfold F3 at h
  split at h
  · split at h <;> try (cases h; done)
    split at h <;> cases h
    rename_i hs
    exact ⟨rfl, span_ok 94 worB (fun _ => rfl) (by kernel_rfl) _ hs⟩
  · exact F2_val h
theorem F3_sound : OrcSound Tryd.prog gl (orcZ F3) := orcZ_sound fun f xs r h => F3_val h
/-- How long the word is with which a text begins. -/
def wordN : List UInt8 → Nat
  | [] => 0
  | c :: s => if letB c.toNat then spanN worB (c :: s) else 0

theorem word_ok (s : List UInt8) (hs : s.length ≤ 9223372036854775807) : ValOK Tryd.prog gl 76 [.str s] (.int .i64 (wordN s)) := by
  match s with
  | [] =>
    refine fn_val follows noNum F3_sound Tryd.func76 rfl ?_
    repeat' ((conv => whnf); first | refine stp ?_ | with_reducible refine condB (fun h => ?_) (fun h => ?_))
    all_goals (try simp_all [resOf, wordN])
  | c :: s =>
    have h1 : ((c :: s) == []) = false := by simp
    have h2 : (c :: s)[0]? = some c := rfl
    refine fn_val follows noNum F3_sound Tryd.func76 rfl ?_
    repeat' ((conv => whnf); first | with_reducible refine ixS 0 rfl h2 ?_ | (first | refine stp ?_ | with_reducible refine condB (fun h => ?_) (fun h => ?_)))
    all_goals (try (simp_all [resOf, wordN]; done))
/-- The words that are keys. -/
def keysL : List (List UInt8) := [[115, 104, 97, 114, 101, 100], [112, 108, 97, 105, 110], [116, 104, 114, 101, 97, 100], [105, 102], [101, 108, 115, 101], [119, 104, 105, 108, 101], [108, 111, 97, 100], [115, 116, 111, 114, 101], [99, 97, 115], [97, 100, 100], [115, 119, 97, 112], [102, 101, 110, 99, 101], [97, 115, 115, 117, 109, 101], [97, 115, 115, 101, 114, 116], [110, 97], [114, 108, 120], [97, 99, 113], [114, 101, 108], [97, 114], [115, 99]]
def entsF : Nat → List (List UInt8) → List (AV × AV × Nat)
  | _, [] => []
  | n, k :: l => (.str k, .agg [], n) :: entsF (n + 1) l
def keysB : ABody := .map (entsF 0 keysL) 20

theorem find_ok (x : List UInt8) : ∀ (l : List (List UInt8)) (n i : Nat), ∃ o, aFind .string (.str x) (entsF n l) i = some o ∧ o.isSome = l.contains x ∧ ∀ p, o = some p → p.2 = .agg []
  | [], n, i => ⟨none, rfl, by simp, fun p h => by cases h⟩
  | k :: l, n, i => by
    obtain ⟨o, h1, h2, h3⟩ := find_ok x l (n + 1) (i + 1)
    by_cases e : x = k
    · subst e
      exact ⟨some (i, .agg []), by simp [entsF, aFind, aSame], by simp, fun p h => by cases h; rfl⟩
    · refine ⟨o, ?_, by simp [h2, e], h3⟩
      have : (x == k) = false := by simpa using e
      simp [entsF, aFind, aSame, this, h1]
theorem kdK : keyDesc Tryd.prog 70 = some (.string, 71) := by kernel_rfl
theorem look_ok' {H : AHeap} {b : Nat} (x : List UInt8) (h : mapEs H (.map b) = some (entsF 0 keysL)) : aLookup Tryd.prog 70 (.map b) (.str x) true H = some (.tuple [.agg [], .bool (keysL.contains x)]) := by
  obtain ⟨o, h1, h2, h3⟩ := find_ok x keysL 0 0
  have hz : tzero Tryd.prog 71 = some (.agg []) := by kernel_rfl
  simp only [aLookup, kdK, h, h1, ← h2]
  cases o with
  | none => simp [hz]
  | some p => have := h3 p rfl; obtain ⟨j, v⟩ := p; subst this; simp
def wordR (s : List UInt8) : AV := if s ≠ [] ∧ wordN s = s.length then .tuple [.int .i64 (if keysL.contains s then 2 else 1), .bool true] else .tuple [.int .i64 0, .bool false]
theorem plain_wordR (s : List UInt8) : plain (wordR s) = true := by unfold wordR; split <;> rfl
def F4 (f : Nat) (xs : List AV) : Option AV := match f with
  | 76 => match xs with | [.str s] => if s.length ≤ 9223372036854775807 then some (.int .i64 (wordN s)) else none | _ => none
  | f => F3 f xs
theorem F4_val {f : Nat} {xs : List AV} {r : AV} (h : F4 f xs = some r) : plain r = true ∧ ValOK Tryd.prog gl f xs r := by
  unfold F4 at h
  split at h
  · split at h <;> try (cases h; done)
    split at h <;> cases h
    rename_i hs; exact ⟨rfl, word_ok _ hs⟩
  · exact F3_val h
theorem F4_sound : OrcSound Tryd.prog gl (orcZ F4) := orcZ_sound fun f xs r h => F4_val h
section
attribute [local irreducible] wordN
theorem wordP_ok (s : List UInt8) (hs : s.length ≤ 9223372036854775807) : ValOK Tryd.prog gl 66 [.str s] (wordR s) := by
  have e2 : F4 76 [.str s] = some (.int .i64 (wordN s)) := by simp only [F4]; rw [if_pos (by omega)]
  have hb : hasBody Tryd.prog 76 = true := by kernel_rfl
  refine fn_valI (fun g => Nat.beq g 76) 2 follows noNum F4_sound Tryd.func66 rfl ?_
  by_cases h0 : s = []
  · have e1 : (s == []) = true := by simpa using h0
    repeat' ((conv => whnf); (first | refine stp ?_ | with_reducible refine condB (fun h => ?_) (fun h => ?_)))
    unfold wordR; rw [if_neg (by simp [h0])]
  · have e1 : (s == []) = false := by simpa using h0
    by_cases hw : wordN s = s.length
    · have e3 : ((wordN s : Int) != (s.length : Int)) = false := by rw [hw]; simp
      have eR : wordR s = .tuple [.int .i64 (if keysL.contains s then 2 else 1), .bool true] := by unfold wordR; rw [if_pos ⟨h0, hw⟩]
      rw [eR]
      cases hc : keysL.contains s with
      | true =>
        repeat' ((conv => whnf); first | (with_reducible refine exI (callZ hb rfl e2) ?_) | (with_reducible refine exI (look_ok' _ ?_) ?_; (focus rfl)) | (first | refine stp ?_ | with_reducible refine condB (fun h => ?_) (fun h => ?_)))
        conv => whnf
        refine exI (look_ok' _ ?_) ?_
        · rfl
        rw [hc]
        repeat' ((conv => whnf); (first | refine stp ?_ | with_reducible refine condB (fun h => ?_) (fun h => ?_)))
        rfl
      | false =>
        repeat' ((conv => whnf); first | (with_reducible refine exI (callZ hb rfl e2) ?_) | (with_reducible refine exI (look_ok' _ ?_) ?_; (focus rfl)) | (first | refine stp ?_ | with_reducible refine condB (fun h => ?_) (fun h => ?_)))
        conv => whnf
        refine exI (look_ok' _ ?_) ?_
        · rfl
        rw [hc]
        repeat' ((conv => whnf); (first | refine stp ?_ | with_reducible refine condB (fun h => ?_) (fun h => ?_)))
        rfl
    · have e3 : ((wordN s : Int) != (s.length : Int)) = true := by simp; omega
      repeat' ((conv => whnf); first | (with_reducible refine exI (callZ hb rfl e2) ?_) | (first | refine stp ?_ | with_reducible refine condB (fun h => ?_) (fun h => ?_)))
      unfold wordR; rw [if_neg (fun h => hw h.2)]
end
theorem kind_ok (x : List UInt8) : ValOK Tryd.prog gl 65 [.str x] (.int .i64 (if keysL.contains x then 2 else 1)) := by
  refine fn_valI (fun _ => false) 2 follows noNum F1_sound Tryd.func65 rfl ?_
  repeat' ((conv => whnf); first | refine stp ?_ | with_reducible refine condB (fun h => ?_) (fun h => ?_))
  conv => whnf
  refine ⟨Nat, (fun i => i ≤ 20 ∧ keysL.contains x = (keysL.drop i).contains x), (fun i => [(0, .str x), (3, .slice 0 0 20 20 1), (4, .int .i64 i)]), (fun _ => [⟨true, 0, 0, .cells (keysL.map AV.str) 9⟩]), (fun i => 20 - i), ⟨0, ⟨by omega, rfl⟩, ?_⟩, ?_⟩
  · refine FgL.mk [0] rfl ?_ ?_ rfl
    · exact ⟨Wk.noref rfl, Wk.slice rfl rfl rfl (Nat.le_refl _) (Nat.le_refl _) rfl, Wk.int rfl, trivial⟩
    · exact ⟨⟨rfl, rfl, rfl, rfl, BodyGe.pre (rest := []) rfl rfl⟩, trivial⟩
  · intro i ⟨hi, hs⟩
    by_cases hlt : i < 20
    · have e1 : decide ((i : Int) < 20) = true := by simp; omega
      have hlk : i < keysL.length := hlt
      have hd : keysL.drop i = keysL[i] :: keysL.drop (i + 1) := List.drop_eq_getElem_cons hlk
      repeat' ((conv => whnf); first | (with_reducible refine exI (tk1_map AV.str keysL i hlk ?_) ?_; (focus (omega))) | (first | refine stp ?_ | with_reducible refine condB (fun h => ?_) (fun h => ?_)))
      · have hc : keysL.contains x = true := by rw [hs, hd, List.contains_cons, eq_of_beq h]; simp
        rw [hc]; rfl
      · conv => whnf
        have hx : (x == keysL[i]) = false := beq_eq_false_iff_ne.2 (fun e => by rw [← e] at h; simp at h)
        exact ⟨i + 1, ⟨hlt, by rw [hs, hd, List.contains_cons, hx, Bool.false_or]⟩, by show 20 - (i + 1) < 20 - i; omega, FgL.mk [0] rfl ⟨Wk.noref rfl, Wk.slice rfl rfl rfl (Nat.le_refl _) (Nat.le_refl _) rfl, Wk.int rfl, trivial⟩ ⟨⟨rfl, rfl, rfl, rfl, BodyGe.pre (rest := []) rfl rfl⟩, trivial⟩ rfl⟩
    · have e1 : decide ((i : Int) < 20) = false := by simp; omega
      have hi' : i = 20 := by omega
      subst hi'
      repeat' ((conv => whnf); first | refine stp ?_ | with_reducible refine condB (fun h => ?_) (fun h => ?_))
      have hc : keysL.contains x = false := by rw [hs]; rfl
      rw [hc]; rfl

def F5 (f : Nat) (xs : List AV) : Option AV := match f with
  | 65 => match xs with | [.str x] => some (.int .i64 (if keysL.contains x then 2 else 1)) | _ => none
  | f => F1 f xs
theorem F5_val {f : Nat} {xs : List AV} {r : AV} (h : F5 f xs = some r) : plain r = true ∧ ValOK Tryd.prog gl f xs r := by
  unfold F5 at h
  split at h
  · split at h <;> cases h
    exact ⟨rfl, kind_ok _⟩
  · exact F1_val h
theorem F5_sound : OrcSound Tryd.prog gl (orcZ F5) := orcZ_sound fun f xs r h => F5_val h
theorem wordN_at0 {s : List UInt8} (h : 0 < s.length) : wordN s = if letB s[0].toNat then spanN worB s else 0 := by
  cases s with
  | nil => simp at h
  | cons c t => rfl
def wInv (s : List UInt8) (i : Nat) : Prop := i ≤ s.length ∧ (i = 0 ∨ (0 < i ∧ wordN s = spanN worB s ∧ spanN worB s = i + spanN worB (s.drop i)))
theorem wInv_step {s : List UInt8} {i : Nat} (h : wInv s i) (hlt : i < s.length) (h2 : letB s[i].toNat = true ∨ (i ≠ 0 ∧ worB s[i].toNat = true)) : wInv s (i + 1) := by
  have hat := spanN_at (p := worB) hlt
  have hw : worB s[i].toNat = true := by rcases h2 with h2 | h2; simp [worB, h2]; exact h2.2
  rw [hw, if_pos rfl] at hat
  refine ⟨hlt, .inr ⟨by omega, ?_, ?_⟩⟩
  · rcases h.2 with h0 | h0
    · subst h0
      have : letB s[0].toNat = true := by rcases h2 with h2 | h2; exact h2; exact absurd rfl h2.1
      rw [wordN_at0 (by omega), this, if_pos rfl]
    · exact h0.2.1
  · rcases h.2 with h0 | h0
    · subst h0; rw [List.drop_zero] at hat; omega
    · omega
theorem wInv_bad {s : List UInt8} {i : Nat} (h : wInv s i) (hlt : i < s.length) (h1 : letB s[i].toNat = false) (h2 : i = 0 ∨ worB s[i].toNat = false) : wordR s = .tuple [.int .i64 0, .bool false] := by
  unfold wordR
  rw [if_neg]
  rintro ⟨_, h4⟩
  rcases h.2 with h0 | h0
  · subst h0
    rw [wordN_at0 (by omega), h1] at h4
    simp at h4; omega
  · have hat := spanN_at (p := worB) hlt
    rcases h2 with h2 | h2
    · omega
    · rw [h2, if_neg (by decide)] at hat; omega
theorem wInv_end {s : List UInt8} (h : wInv s s.length) (h0 : s ≠ []) : wordR s = .tuple [.int .i64 (if keysL.contains s then 2 else 1), .bool true] := by
  have hl : 0 < s.length := List.length_pos_iff.2 h0
  unfold wordR
  rw [if_pos]
  refine ⟨h0, ?_⟩
  rcases h.2 with h1 | h1
  · omega
  · have := spanN_end (p := worB) (s := s) (e := s.length) (by omega); omega
theorem wordD_ok (s : List UInt8) (hs : s.length ≤ 9223372036854775807) : ValOK Tryd.prog gl 49 [.str s] (wordR s) := by
  refine fn_val follows noNum F5_sound Tryd.func49 rfl ?_
  conv => whnf
  repeat' ((conv => whnf); first | refine stp ?_ | with_reducible refine condB (fun h => ?_) (fun h => ?_))
  conv => whnf
  refine ⟨Nat, wInv s, (fun i => [(0, .str s), (4, .int .i64 i)]), (fun _ => []), (fun i => s.length - i), ⟨0, ⟨Nat.zero_le _, .inl rfl⟩, FgL.mk0 rfl ⟨Wk.noref rfl, Wk.int rfl, trivial⟩⟩, ?_⟩
  intro i hI
  have hi := hI.1
  by_cases hlt : i < s.length
  · have e1 : decide ((i : Int) < (s.length : Int)) = true := by simpa using hlt
    have hx : s[i]? = some s[i] := by simp [hlt]
    have u1 := u8_eq s[i] 95 (by decide)
    cases hl : letB s[i].toNat with
    | true =>
      repeat' ((conv => whnf); first | with_reducible refine ixS _ rfl hx ?_ | (first | refine stp ?_ | with_reducible refine condB (fun h => ?_) (fun h => ?_)))
      conv => whnf
      exact ⟨i + 1, wInv_step hI hlt (.inl hl), by show s.length - (i + 1) < s.length - i; omega, FgL.mk0 rfl ⟨Wk.noref rfl, Wk.int rfl, trivial⟩⟩
    | false =>
      by_cases h0 : i = 0
      · have e2 : ((i : Int) == 0) = true := by simp [h0]
        repeat' ((conv => whnf); first | with_reducible refine ixS _ rfl hx ?_ | (first | refine stp ?_ | with_reducible refine condB (fun h => ?_) (fun h => ?_)))
        exact (wInv_bad hI hlt hl (.inl h0)).symm
      · have e2 : ((i : Int) == 0) = false := by simp [h0]
        cases hw : worB s[i].toNat with
        | true =>
          repeat' ((conv => whnf); first | with_reducible refine ixS _ rfl hx ?_ | (first | refine stp ?_ | with_reducible refine condB (fun h => ?_) (fun h => ?_)))
          all_goals (first | (exfalso; simp_all [worB]; done) | skip)
          all_goals (conv => whnf)
          all_goals exact ⟨i + 1, wInv_step hI hlt (.inr ⟨h0, hw⟩), by show s.length - (i + 1) < s.length - i; omega, FgL.mk0 rfl ⟨Wk.noref rfl, Wk.int rfl, trivial⟩⟩
        | false =>
          repeat' ((conv => whnf); first | with_reducible refine ixS _ rfl hx ?_ | (first | refine stp ?_ | with_reducible refine condB (fun h => ?_) (fun h => ?_)))
          all_goals (first | (exfalso; simp_all [worB]; done) | skip)
          all_goals exact (wInv_bad hI hlt hl (.inr hw)).symm
  · have e1 : decide ((i : Int) < (s.length : Int)) = false := by simpa using hlt
    have hi2 : i = s.length := by omega
    subst hi2
    by_cases h0 : s = []
    · have e2 : (s == []) = true := by simpa using h0
      repeat' ((conv => whnf); first | refine stp ?_ | with_reducible refine condB (fun h => ?_) (fun h => ?_))
      unfold wordR; rw [if_neg (fun h => h.1 h0)]
    · have e2 : (s == []) = false := by simpa using h0
      repeat' ((conv => whnf); first | refine stp ?_ | with_reducible refine condB (fun h => ?_) (fun h => ?_))
      rw [wInv_end hI h0]

end Go.Proofs.YtcbjhdklbhlmhaaDoor.lex
end

/-
  A verified abstract interpreter, part 44: runs in which some functions are answered by a contract; slices.Sorted of a map's keys, handed back to be read alone.
-/
section
set_option linter.unusedSimpArgs false
set_option linter.unusedVariables false
namespace Go.Abs
open Go.RowKit Go.Maps
open Go.Proofs (encStr)

/-! runs with contracts -/
/-- As 'runsT'; where isO says so, the contract alone is asked. -/
def runsG (P : Program) (gl : Glob) (isO : Nat → List AV → Bool) (tbl : Orc) (fuel : Nat) : Nat → Orc
  | 0 => fun _ _ _ => none
  | n + 1 => fun f args H => if isO f args = true then tbl f args H else afunc P gl (runsG P gl isO tbl fuel n) fuel f args H

theorem runsG_sound {P : Program} {gl : Glob} {isO : Nat → List AV → Bool} {tbl : Orc} {fuel : Nat} (hm : P.follows .mixedOrders = true) (hn : NoNum P) (ht : OrcSound P gl tbl) : ∀ n, OrcSound P gl (runsG P gl isO tbl fuel n)
  | 0 => by intro f args H r H' h; simp [runsG] at h
  | n + 1 => by
    have := afunc_sound (fuel := fuel) hm hn (runsG_sound (fuel := fuel) (isO := isO) hm hn ht n)
    intro f args H r H' h
    simp only [runsG] at h
    split at h
    · exact ht f args H r H' h
    · exact this f args H r H' h

noncomputable def frunG (P : Program) (gl : Glob) (isO : Nat → List AV → Bool) (fo : FOrc) (fuel n : Nat) : FOrc :=
  Nat.rec (motive := fun _ => FOrc) (fun _ _ _ => none) (fun _ ih f args T => iff' (isO f args) (fo f args T) (Option.rec none (fun run => run ih args T) (fcomp P gl fuel f))) n

section
variable {P : Program} {gl : Glob} {fuel : Nat}
theorem frunG_ok {isO : Nat → List AV → Bool} {fo : FOrc} {tbl : Orc} (hs : OrcSim fo tbl) : ∀ m, OrcSim (frunG P gl isO fo fuel m) (runsG P gl isO tbl fuel m)
  | 0 => by intro f args T r T' h; cases h
  | m + 1 => by
    intro f args T r T' h H hR
    rcases iff_some2 (show iff' (isO f args) (fo f args T) (Option.rec none (fun run => run (frunG P gl isO fo fuel m) args T) (fcomp P gl fuel f)) = some (r, T') from h) with ⟨h1, h2⟩ | ⟨h1, h2⟩
    · obtain ⟨H', g1, g2⟩ := hs f args T r T' h2 H hR
      exact ⟨H', by simp [runsG, h1, g1], g2⟩
    · cases hf : fcomp P gl fuel f with
      | none => rw [hf] at h2; cases h2
      | some run =>
        rw [hf] at h2
        obtain ⟨H', g1, g2⟩ := fcomp_ok (frunG_ok hs m) hf hR h2
        exact ⟨H', by simp [runsG, h1, g1], g2⟩

/-- What the kernel ran with contracts is known. -/
theorem known_trueG (hm : P.follows .mixedOrders = true) (hn : NoNum P) {isO : Nat → List AV → Bool} {fo : FOrc} {tbl : Orc} (hs : OrcSim fo tbl) (ht : OrcSound P gl tbl)
    {l : List (Nat × List AV)} (hl : OrcSound P gl (tblO l)) {m f : Nat} {az : List AV} (hrefs : refsL az [] = []) (h : saysTrue (frunG P gl isO fo fuel m f az TH.empty) = true) : OrcSound P gl (tblO ((f, az) :: l)) := by
  obtain ⟨T', h'⟩ := saysTrue_spec h
  obtain ⟨H', h1, _⟩ := frunG_ok hs m f az TH.empty _ T' h' [] Rep.empty
  exact tblO_cons hl hrefs (runsG_sound hm hn ht m) h1

/-- What is known to be true, as a contract for the quick run. -/
def ftblO (l : List (Nat × List AV)) : FOrc := fun f args T => if memA f args l then some (.bool true, T) else none
theorem ftblO_sim (l : List (Nat × List AV)) : OrcSim (ftblO l) (tblO l) := by
  intro f args T r T' h H hR
  simp only [ftblO] at h
  split at h <;> simp at h
  obtain ⟨rfl, rfl⟩ := h
  exact ⟨H, by simp [tblO, *], hR⟩

/-- One contract, then the other. -/
def orcThen (a b : Orc) : Orc := fun f args H => match a f args H with | some r => some r | none => b f args H
def forcThen (g : Nat → List AV → Bool) (a b : FOrc) : FOrc := fun f args T => if g f args = true then a f args T else b f args T
def orcIf (g : Nat → List AV → Bool) (a b : Orc) : Orc := fun f args H => if g f args = true then a f args H else b f args H
theorem orcIf_sound {g : Nat → List AV → Bool} {a b : Orc} (ha : OrcSound P gl a) (hb : OrcSound P gl b) : OrcSound P gl (orcIf g a b) := by
  intro f args H r H' h
  simp only [orcIf] at h
  split at h
  · exact ha f args H r H' h
  · exact hb f args H r H' h
theorem forcThen_sim {g : Nat → List AV → Bool} {fa fb : FOrc} {a b : Orc} (ha : OrcSim fa a) (hb : OrcSim fb b) : OrcSim (forcThen g fa fb) (orcIf g a b) := by
  intro f args T r T' h H hR
  simp only [forcThen] at h
  split at h
  · obtain ⟨H', h1, h2⟩ := ha f args T r T' h H hR
    exact ⟨H', by simp [orcIf, *], h2⟩
  · obtain ⟨H', h1, h2⟩ := hb f args T r T' h H hR
    exact ⟨H', by simp [orcIf, *], h2⟩
end

/-! texts in order -/
def insB (x : List UInt8) : List (List UInt8) → List (List UInt8)
  | [] => [x]
  | y :: l => if leB x y = true then x :: y :: l else y :: insB x l
/-- Texts, rising. -/
def sortB : List (List UInt8) → List (List UInt8)
  | [] => []
  | x :: l => insB x (sortB l)
theorem insB_perm (x : List UInt8) : ∀ l : List (List UInt8), (insB x l).Perm (x :: l)
  | [] => .refl _
  | y :: l => by
    simp only [insB]
    split
    · exact .refl _
    · exact ((insB_perm x l).cons y).trans (.swap x y l)
theorem sortB_perm : ∀ l : List (List UInt8), (sortB l).Perm l
  | [] => .refl _
  | x :: l => (insB_perm x _).trans ((sortB_perm l).cons x)
theorem leB_total (a b : List UInt8) : leB a b = true ∨ leB b a = true := by
  simp only [leB, decide_eq_true_eq]
  exact List.le_total a b
theorem leB_trans {a b c : List UInt8} (h : leB a b = true) (h' : leB b c = true) : leB a c = true := by
  simp only [leB, decide_eq_true_eq] at *
  exact List.le_trans h h'
theorem leB_anti {a b : List UInt8} (h : leB a b = true) (h' : leB b a = true) : a = b := by
  simp only [leB, decide_eq_true_eq] at *
  exact List.le_antisymm h h'
theorem insB_sorted (x : List UInt8) : ∀ l : List (List UInt8), l.Pairwise (fun a b => leB a b = true) → (insB x l).Pairwise (fun a b => leB a b = true)
  | [], _ => by simp [insB]
  | y :: l, h => by
    rw [List.pairwise_cons] at h
    simp only [insB]
    split
    · rename_i hxy
      rw [List.pairwise_cons]
      refine ⟨fun a ha => ?_, by rw [List.pairwise_cons]; exact h⟩
      rcases List.mem_cons.1 ha with rfl | ha
      · exact hxy
      · exact leB_trans hxy (h.1 a ha)
    · rename_i hxy
      rw [List.pairwise_cons]
      refine ⟨fun a ha => ?_, insB_sorted x l h.2⟩
      rcases List.mem_cons.1 ((insB_perm x l).mem_iff.1 ha) with rfl | ha
      · exact (leB_total a y).resolve_left hxy
      · exact h.1 a ha
theorem sortB_sorted : ∀ l : List (List UInt8), (sortB l).Pairwise (fun a b => leB a b = true)
  | [] => List.Pairwise.nil
  | x :: l => insB_sorted x _ (sortB_sorted l)
theorem sortB_unique {l l' : List (List UInt8)} (hp : l'.Perm l) (hs : l'.Pairwise (fun a b => leB a b = true)) : l' = sortB l :=
  List.Perm.eq_of_pairwise (le := fun a b => leB a b = true) (fun a b _ _ h1 h2 => leB_anti h1 h2) hs (sortB_sorted l) (hp.trans (sortB_perm l).symm)
theorem mergeSort_sortB {ss l : List (List UInt8)} (hp : ss.Perm l) : ss.mergeSort leB = sortB l := by
  refine sortB_unique ((List.mergeSort_perm ss leB).trans hp) ?_
  exact List.pairwise_mergeSort (le := leB) (fun a b c h1 h2 => leB_trans h1 h2) (fun a b => by simp only [Bool.or_eq_true]; exact leB_total a b) ss

/-! slices.Sorted(maps.Keys(m)) -/
/-- What slices.Sorted does with the function value that maps.Keys made. -/
def SortsKeys (P : Program) (fS fI kt : Nat) : Prop := ∀ (Bm b nn : Nat) (D0 : DataW Unit) (R : Value → Option (DataW Unit × List MemPlace)) (W : World),
  W.cell? ⟨Bm, 0, none⟩ = some (.map (some b)) → W.ownsMap P kt R b nn D0 → Maps.size D0 ≤ maxLen → Maps.size D0 * 16 ≤ 140737488355328 →
  Calls P fS #[.func (.func fI) #[] #[.pointer (some ⟨Bm, 0, none⟩)]] W fun e W' => ∃ (v : Value) (ss : List (List UInt8)), e = .returned v ∧ ss.Perm (strKeys D0) ∧
    W'.ownsRow W.heap.size kt 1 v ss.length ((ss.mergeSort leB).map encStr) ∧ (v = .slice none 0 0 ↔ ss = []) ∧ Below W.heap.size W W'

/-- Texts as a list that is read alone. -/
def rsK (l : List (List UInt8)) : AV := .rs l.length 1 (l.map .str)

theorem LR_strs {sn : Snap} {ι : IMap} : ∀ {l : List (List UInt8)}, LR sn ι (l.map .str) (l.map encStr)
  | [] => by simp [LR]
  | x :: l => by
    simp only [List.map_cons, LR]
    exact ⟨_, _, rfl, by simp [VR, encStr], LR_strs⟩

theorem ER_keys {sn : Snap} {ι : IMap} : ∀ {es : List (AV × AV × Nat)} {l : List MapEntry} {keys : List (List UInt8)}, ER sn ι es l → es.map (·.1) = keys.map AV.str → l.map (·.key) = keys.map encStr ∧ l.map (·.born) = es.map (·.2.2)
  | [], l, keys, h, hk => by
    simp [ER] at h; subst h
    cases keys <;> simp at hk
    simp
  | (k, v, n) :: es, l, keys, h, hk => by
    simp only [ER] at h
    obtain ⟨x, l', rfl, h1, h2, h3, h4⟩ := h
    cases keys with
    | nil => simp at hk
    | cons c keys =>
      simp only [List.map_cons, List.cons.injEq] at hk
      obtain ⟨rfl, hk⟩ := hk
      obtain ⟨e1, e2⟩ := ER_keys h4 hk
      obtain ⟨ba, e3, e4⟩ := h1.str
      simp only [List.map_cons, e1, e2, h3, and_true, List.cons.injEq]
      rw [e3, ← e4]

theorem MR_of_cells {sn : Snap} {W : World} {g : Nat} {B : Nat} (hg : B ≤ g) : ∀ (us : List AV) (vs : List Value) (o : Nat), LR (snx sn B W) noI us vs → (∀ (i : Nat) (v : Value), vs[i]? = some v → W.cell? ⟨g, o + i, none⟩ = some v) → MR (snx sn B W) us g o
  | [], vs, o, h, hc => by simp [MR]
  | u :: us, vs, o, h, hc => by
    simp only [LR] at h
    obtain ⟨d, ds, rfl, h1, h2⟩ := h
    simp only [MR]
    refine ⟨⟨d, ?_, h1⟩, MR_of_cells hg us ds (o + 1) h2 fun i v hv => ?_⟩
    · have := hc 0 d rfl
      simp only [snx]
      rw [if_neg (show ¬ g < B by omega)]
      exact this
    · have := hc (i + 1) v (by simpa using hv)
      rw [show o + 1 + i = o + (i + 1) from by omega]; exact this

theorem sorted_calls {P : Program} {fS fI kt : Nat} (hS : SortsKeys P fS fI kt) (hk : P.underlying kt = some .string) {sn : Snap} {ι : IMap} {H : AHeap} {W : World} (hR : R sn ι H W)
    {c b : Nat} {oc ob : AObj} {cs : List AV} {ty : TypeId} {es : List (AV × AV × Nat)} {clock : Nat} {keys : List (List UInt8)}
    (hc : H[c]? = some oc) (hca : oc.alive = true) (hcs : oc.sh = 0) (hcb : oc.body = .cells (.map b :: cs) ty) (hb : H[b]? = some ob) (hba : ob.alive = true) (hbb : ob.body = .map es clock)
    (hkeys : es.map (·.1) = keys.map AV.str) (hnd : keys.Nodup) (hlen : ∀ k ∈ keys, k.length ≤ maxLen) (hbn : (es.map (·.2.2)).Nodup) (hbc : ∀ n ∈ es.map (·.2.2), n < clock) (hsz : keys.length ≤ 1000000)
    {cargs : List Value} (ha : LR sn ι [.func (.func fI) [] [.ptr c 0]] cargs) :
    Calls P fS cargs.toArray W fun e W' => ∃ v sn' ι', e = .returned v ∧ VR sn' ι' (rsK (sortB keys)) v ∧ Stp sn ι H W sn' ι' H W' := by
  obtain ⟨pc, hpc⟩ := hR.place hc
  obtain ⟨pb, hpb⟩ := hR.place hb
  have hoc := hR.obj c oc pc hc hca hpc
  have hob := hR.obj b ob pb hb hba hpb
  rw [hcb] at hoc; rw [hbb] at hob
  simp only [OR] at hoc hob
  obtain ⟨arr, hw1, hw2, hw3, hw4⟩ := hoc
  obtain ⟨mes, hm1, hm2⟩ := hob
  have hz := hR.shz c oc pc hc hpc hcs
  obtain ⟨v0, hv0, hv1⟩ := hw4 0 (.map b) rfl
  obtain ⟨p', hp', rfl⟩ := hv1.map
  rw [hpb] at hp'; simp at hp'; subst hp'
  have hcell : W.cell? ⟨pc.blk, 0, none⟩ = some (.map (some pb.blk)) := by
    rw [cell_of_heap hw1]; rw [hz] at hv0; simpa using hv0
  obtain ⟨hk1, hk2⟩ := ER_keys hm2 hkeys
  have hlens : mes.size = keys.length := by
    have := congrArg List.length hk1
    simpa using this
  have hmx : maxLen = 9223372036854775807 := rfl
  let R0 : Value → Option (DataW Unit × List MemPlace) := fun _ => some (.nil, [])
  have hkeyOf : ∀ x ∈ mes.toList, ∃ s, x.key = encStr s ∧ s ∈ keys ∧ keyOf P kt x.key = some (.string s) := by
    intro x hx
    have : x.key ∈ mes.toList.map (·.key) := List.mem_map_of_mem hx
    rw [hk1] at this
    obtain ⟨s, hs, e⟩ := List.mem_map.1 this
    refine ⟨s, e.symm, hs, ?_⟩
    rw [← e]
    have hl := hlen s hs
    simp only [keyOf, hk, mapKey, encStr]
    have : (⟨⟨s⟩⟩ : ByteArray).size ≤ maxLen := by simpa [ByteArray.size] using hl
    rw [if_pos this]
  have hF : WideElems.Fit P kt R0 mes clock := by
    refine ⟨by omega, ⟨fun x hx => ?_, by rw [hk2]; exact hbn, ?_⟩, fun x hx => ?_⟩
    · exact hbc _ (by rw [← hk2]; exact List.mem_map_of_mem hx)
    · rw [hk1]
      exact (List.nodup_iff_pairwise_ne.1 hnd).map _ fun a b hab e => hab (encStr_inj e)
    · obtain ⟨s, _, _, h3⟩ := hkeyOf x hx
      exact ⟨(.string s, .nil), by simp [WideElems.rd, h3, R0]⟩
  let D0 : DataW Unit := .map ((mes.toList.map (WideElems.rg P kt R0)).foldr DataW.insert [])
  have hown : W.ownsMap P kt R0 pb.blk mes.size D0 := ⟨mes, clock, hm1, hF, Nat.le_refl _, rfl⟩
  have hsize : Maps.size D0 = mes.size := by simp only [D0, Maps.size]; exact length_read mes
  have hperm : (strKeys D0).Perm keys := by
    have h1 : ((mes.toList.map (WideElems.rg P kt R0)).foldr DataW.insert []).Perm (mes.toList.map (WideElems.rg P kt R0)) := by
      generalize mes.toList.map (WideElems.rg P kt R0) = l
      induction l with
      | nil => exact .refl _
      | cons x l ih =>
        have hins : ∀ (y : Lit × DataW Unit) (m : List (Lit × DataW Unit)), (DataW.insert y m).Perm (y :: m) := by
          intro y m
          induction m with
          | nil => exact .refl _
          | cons z m ih2 =>
            simp only [DataW.insert]
            split
            · exact .refl _
            · exact (ih2.cons z).trans (.swap y z m)
        exact (hins x _).trans (ih.cons x)
    have h2 := h1.map (fun p => strOf p.1)
    refine h2.trans ?_
    have : (mes.toList.map (WideElems.rg P kt R0)).map (fun p => strOf p.1) = keys := by
      have e : (mes.toList.map (WideElems.rg P kt R0)).map (fun p => encStr (strOf p.1)) = keys.map encStr := by
        rw [← hk1, List.map_map]
        refine List.map_congr_left fun x hx => ?_
        obtain ⟨s, h1, _, h3⟩ := hkeyOf x hx
        have hr : WideElems.rd P kt R0 x = some (.string s, .nil) := by simp [WideElems.rd, h3, R0]
        simp only [Function.comp, WideElems.rg_of hr, strOf, h1]
      have : (((mes.toList.map (WideElems.rg P kt R0)).map (fun p => strOf p.1)).map encStr) = keys.map encStr := by rw [List.map_map]; exact e
      exact List.map_inj_right (fun a b h => encStr_inj h) |>.1 this
    rw [this]
  have hargs : cargs = [.func (.func fI) #[] #[.pointer (some ⟨pc.blk, 0, none⟩)]] := by
    simp only [LR] at ha
    obtain ⟨d, ds, rfl, h1, rfl⟩ := ha
    obtain ⟨f', c', rfl, h2, h3⟩ := h1.func
    simp only [LR] at h2 h3
    obtain ⟨d2, ds2, h4, h5, h6⟩ := h3
    subst h6
    obtain ⟨p, hp, rfl⟩ := h5.ptr
    rw [hpc] at hp; simp at hp; subst hp
    have e1 : f' = #[] := by apply Array.ext'; simpa using h2
    have e2 : c' = #[.pointer (some ⟨pc.blk, 0, none⟩)] := by apply Array.ext'; simp [h4, hz]
    rw [e1, e2]
  rw [hargs]
  refine (hS pc.blk pb.blk mes.size D0 R0 W hcell hown (by omega) (by omega)).mono ?_
  rintro e W' ⟨v, ss, rfl, hss, hrow, hnil, hbel⟩
  have hext : Ext W W' := ⟨fun c hc => hbel.block c hc, hbel.size, hbel.os, hbel.tape, hbel.output⟩
  refine ⟨v, snx sn W.heap.size W', ι, rfl, ?_, Stp.snap hR hext⟩
  have hms : ss.mergeSort leB = sortB keys := mergeSort_sortB (hss.trans hperm)
  rw [hms] at hrow
  have hlen2 : (sortB keys).length = ss.length := by rw [← hms, List.length_mergeSort]
  obtain ⟨hr0, hr⟩ := hrow
  rcases hr with ⟨rfl, hz0⟩ | ⟨g, cap, cur, rfl, hg1, hg2, hg3, hg4, hg5, hg6⟩
  · have : sortB keys = [] := List.eq_nil_of_length_eq_zero (by omega)
    rw [this]; simp [rsK, VR]
  · simp only [rsK, VR]
    refine .inr ⟨⟨g, 0, none⟩, cap, by rw [hlen2], by omega, by simp, ?_, fun _ => rfl⟩
    refine MR_of_cells hg1 _ _ 0 LR_strs fun i v hv => ?_
    rw [cell_of_heap hg2]
    simp only [Nat.zero_add]
    have : (cur.toList.take (ss.length * 1))[i]? = some v := by rw [hg6]; exact hv
    rw [List.getElem?_take] at this
    split at this
    · simpa using this
    · cases this

/-- The keys of a map, if they are texts. -/
def strsE : List (AV × AV × Nat) → Option (List (List UInt8))
  | [] => some []
  | (.str s, _, _) :: es => match strsE es with | some l => some (s :: l) | none => none
  | _ => none
theorem strsE_spec : ∀ {es : List (AV × AV × Nat)} {l : List (List UInt8)}, strsE es = some l → es.map (·.1) = l.map AV.str
  | [], l, h => by simp [strsE] at h; subst h; rfl
  | (k, v, n) :: es, l, h => by
    unfold strsE at h
    split at h
    · rename_i e; cases e
    · rename_i e
      simp only [List.cons.injEq, Prod.mk.injEq] at e
      obtain ⟨⟨rfl, rfl, rfl⟩, rfl⟩ := e
      split at h <;> simp at h
      subst h
      simp [strsE_spec (by assumption)]
    · cases h
def okKeys (keys : List (List UInt8)) (es : List (AV × AV × Nat)) (clock : Nat) : Bool :=
  decide keys.Nodup && (decide (∀ k ∈ keys, k.length ≤ 9223372036854775807) && (decide (es.map (·.2.2)).Nodup && ((es.map (·.2.2)).all (fun n => decide (n < clock)) && Nat.ble keys.length 1000000)))
/-- The contract of slices.Sorted, for runs. -/
def sortAns (es : List (AV × AV × Nat)) (clock : Nat) : Option AV := match strsE es with
  | some keys => if okKeys keys es clock = true then some (rsK (sortB keys)) else none
  | none => none
def sortArg (fI : Nat) : List AV → Option Nat
  | [.func (.func g) [] [.ptr c 0]] => if g = fI then some c else none
  | _ => none
def mapIn (oc : AObj) : Option Nat := if oc.alive = true ∧ oc.sh = 0 then (match oc.body with | .cells [.map b] _ => some b | _ => none) else none
def mapOf (ob : AObj) : Option (List (AV × AV × Nat) × Nat) := if ob.alive = true then (match ob.body with | .map es clock => some (es, clock) | _ => none) else none
def sortO (fS fI : Nat) : Orc := fun f args H =>
  if f = fS then (match sortArg fI args with
    | some c => match H[c]? with
      | some oc => match mapIn oc with
        | some b => match H[b]? with
          | some ob => match mapOf ob with
            | some (es, clock) => match sortAns es clock with
              | some v => some (v, H)
              | none => none
            | none => none
          | none => none
        | none => none
      | none => none
    | none => none) else none
noncomputable def fsortO (fS fI : Nat) : FOrc := fun f args T =>
  if f = fS then (match sortArg fI args with
    | some c => match mapIn (T.get c) with
        | some b => match mapOf (T.get b) with
            | some (es, clock) => match sortAns es clock with
              | some v => some (v, T)
              | none => none
            | none => none
        | none => none
    | none => none) else none
theorem mapIn_spec {oc : AObj} {b : Nat} (h : mapIn oc = some b) : oc.alive = true ∧ oc.sh = 0 ∧ ∃ ty, oc.body = .cells [.map b] ty := by
  unfold mapIn at h
  split at h <;> try (cases h; done)
  rename_i h1
  split at h <;> simp at h
  subst h
  exact ⟨h1.1, h1.2, _, by assumption⟩
theorem mapOf_spec {ob : AObj} {x : List (AV × AV × Nat) × Nat} (h : mapOf ob = some x) : ob.alive = true ∧ ob.body = .map x.1 x.2 := by
  unfold mapOf at h
  split at h <;> try (cases h; done)
  split at h <;> simp at h
  subst h
  exact ⟨by assumption, by assumption⟩
theorem sortArg_spec {fI c : Nat} {args : List AV} (h : sortArg fI args = some c) : args = [.func (.func fI) [] [.ptr c 0]] := by
  unfold sortArg at h
  split at h <;> try (cases h; done)
  split at h <;> simp at h
  subst h; rename_i e; subst e; rfl
theorem fsortO_sim (fS fI : Nat) : OrcSim (fsortO fS fI) (sortO fS fI) := by
  intro f args T r T' h H hR
  simp only [fsortO] at h
  split at h <;> try (cases h; done)
  rename_i hf
  split at h <;> try (cases h; done)
  rename_i c hc
  split at h <;> try (cases h; done)
  rename_i b hb
  split at h <;> try (cases h; done)
  rename_i es clock hm
  split at h <;> simp at h
  obtain ⟨rfl, rfl⟩ := h
  rename_i v hv
  have h1 := hR.obj c (mapIn_spec hb).1
  have h2 := hR.obj b (mapOf_spec hm).1
  exact ⟨H, by simp [sortO, hf, hc, h1, hb, h2, hm, hv], hR⟩
theorem sortO_sound {P : Program} {gl : Glob} {fS fI kt : Nat} (hS : SortsKeys P fS fI kt) (hk : P.underlying kt = some .string) : OrcSound P gl (sortO fS fI) := by
  intro f args H r H' h sn ι W cargs hg hR ha
  simp only [sortO] at h
  split at h <;> try (cases h; done)
  rename_i hf
  subst hf
  split at h <;> try (cases h; done)
  rename_i c hc
  split at h <;> try (cases h; done)
  rename_i oc hoc
  split at h <;> try (cases h; done)
  rename_i b hb
  split at h <;> try (cases h; done)
  rename_i ob hob
  split at h <;> try (cases h; done)
  rename_i es clock hm
  split at h <;> simp at h
  obtain ⟨rfl, rfl⟩ := h
  rename_i v hv
  unfold sortAns at hv
  split at hv <;> try (cases hv; done)
  rename_i keys hks
  split at hv <;> simp at hv
  subst hv
  rename_i hok
  simp only [okKeys, Bool.and_eq_true, decide_eq_true_eq, List.all_eq_true] at hok
  obtain ⟨o1, o2, o3, o4, o5⟩ := hok
  obtain ⟨m1, m2, ty, m3⟩ := mapIn_spec hb
  obtain ⟨n1, n2⟩ := mapOf_spec hm
  rw [sortArg_spec hc] at ha
  exact sorted_calls hS hk hR hoc m1 m2 m3 hob n1 n2 (strsE_spec hks) o1 o2 o3 o4 (Nat.le_of_ble_eq_true o5) ha
end Go.Abs
end

/-
  A verified abstract interpreter, part 45: families of facts, each on one function; lists that are nil.
-/
section
set_option linter.unusedSimpArgs false
set_option linter.unusedVariables false
namespace Go.Abs
open Go.RowKit

theorem Wk.nil {m : List Nat} {z : Nat} : Wk m .nslice (.rs 0 z []) := fun sn ι v h => by simp only [VR] at h ⊢; exact .inl ⟨trivial, trivial, h⟩
/-- What is said of an empty list is said of nil. -/
theorem swA {A B : Prop} (h : A) : Stp1 (A ∧ B) B := fun b => ⟨h, b⟩
/-- A kept temporary. -/
theorem stw {P Q : Prop} (q : Q) (h : Stp1 P Q := by
    first
    | (refine swA (Wk.int ?_); (focus (first | rfl | omega | (simp; done) | (simp; omega)))) | (refine swA (Wk.bool ?_); (focus (first | rfl | (simp; done)))) | exact swA (Wk.noref rfl)
    | exact swA (Wk.ptr rfl rfl) | (refine swA (Wk.slice rfl ?_ ?_ ?_ ?_ ?_); (focus (first | rfl | omega)); (focus (first | rfl | omega)); (focus (first | rfl | omega)); (focus (first | rfl | omega)); (focus rfl)) | exact swA Wk.nil | exact swA (Wk.func trivial ⟨Wk.ptr rfl rfl, trivial⟩) | exact swA (Wk.map rfl)) : P := h q
theorem ValOK.weak {P : Program} {gl : Glob} {f : Nat} {args args2 : List AV} {r : AV} (h : ValOK P gl f args2 r) (hw : ∀ sn vs, LR sn noI args vs → LR sn noI args2 vs) : ValOK P gl f args r :=
  fun sn W cargs hg hR ha => h sn W cargs hg hR (hw _ _ ha)
/-- Less is said of the result. -/
theorem ValOK.less {P : Program} {gl : Glob} {f : Nat} {args : List AV} {r r2 : AV} (h : ValOK P gl f args r) (hw : ∀ sn v, VR sn noI r v → VR sn noI r2 v) : ValOK P gl f args r2 :=
  fun sn W cargs hg hR ha => (h sn W cargs hg hR ha).mono fun e W' ⟨v, h1, h2, h3⟩ => ⟨v, h1, h2, hw _ _ h3⟩
theorem nil_rs {z : Nat} {sn : Snap} {ι : IMap} {v : Value} (h : VR sn ι .nslice v) : VR sn ι (.rs 0 z []) v := by simp only [VR] at h ⊢; exact .inl ⟨trivial, trivial, h⟩

section
open Classical
noncomputable def orcJ {I : Type} (G : I → Prop) (fF : I → Nat) (fA : I → List AV) (fR : I → AV) : Orc := orcV fun f args => if h : ∃ i, G i ∧ fF i = f ∧ fA i = args then some (fR (Classical.choose h)) else none
theorem orcJ_sound {P : Program} {gl : Glob} {I : Type} {G : I → Prop} {fF : I → Nat} {fA : I → List AV} {fR : I → AV} (h : ∀ i, G i → refsL (fA i) [] = [] ∧ ValOK P gl (fF i) (fA i) (fR i)) : OrcSound P gl (orcJ G fF fA fR) := orcV_sound fun f args r e => by
  split at e
  · rename_i hx
    simp only [Option.some.injEq] at e
    subst e
    obtain ⟨g1, e1, e2⟩ := Classical.choose_spec hx
    have := h _ g1
    rw [e1, e2] at this; exact this
  · cases e
theorem callJ {P : Program} {I : Type} {G : I → Prop} {fF : I → Nat} {fA : I → List AV} {fR : I → AV} (hinj : ∀ i j, G i → G j → fF i = fF j → fA i = fA j → fR i = fR j) {H : AHeap} (i : I) (hb : hasBody P (fF i) = true) (hi : G i) :
    acall P (orcJ G fF fA fR) H (fF i) (fA i) = some (fR i, H) := by
  have hx : ∃ j, G j ∧ fF j = fF i ∧ fA j = fA i := ⟨i, hi, rfl, rfl⟩
  unfold acall
  rw [if_pos hb]
  unfold orcJ orcV
  simp only [dif_pos hx]
  obtain ⟨g1, g2, g3⟩ := Classical.choose_spec hx
  rw [hinj _ i g1 hi g2 g3]
theorem orcF_none {l : List (Nat × List AV × AV)} {g : Nat} {args : List AV} {H : AHeap} (h : ∀ p ∈ l, p.1 ≠ g) : orcF l g args H = none := by
  unfold orcF orcV
  have : l.find? (fun p => decide (p.1 = g ∧ p.2.1 = args)) = none := List.find?_eq_none.2 fun p hp => by simp [h p hp]
  simp only [this, Option.map_none]
theorem orcI_none {I : Type} {G : I → Prop} {fF : I → Nat} {fA : I → List AV} {fH : I → AHeap} {fR : I → AV} {fO : I → AHeap} {g : Nat} {args : List AV} {H : AHeap} (h : ∀ i, G i → fF i = g → fA i ≠ args) : orcI G fF fA fH fR fO g args H = none := by
  unfold orcI
  rw [dif_neg]
  rintro ⟨i, h1, h2, h3, _⟩
  exact h i h1 h2 h3
end
theorem callOr1 {P : Program} {o1 o2 : Orc} {H : AHeap} {g : Nat} {args : List AV} {x : AV × AHeap} (hb : hasBody P g = true) (h : acall P o1 H g args = some x) : acall P (orcOr o1 o2) H g args = some x := by
  unfold acall at h ⊢
  rw [if_pos hb] at h ⊢
  unfold orcOr; rw [h]
theorem callOr2 {P : Program} {o1 o2 : Orc} {H : AHeap} {g : Nat} {args : List AV} {x : AV × AHeap} (hb : hasBody P g = true) (h1 : o1 g args H = none) (h : acall P o2 H g args = some x) : acall P (orcOr o1 o2) H g args = some x := by
  unfold acall at h ⊢
  rw [if_pos hb] at h ⊢
  unfold orcOr; rw [h1]; exact h

/-! families -/
/-- Facts on one function: values for values. -/
structure Fam (P : Program) (gl : Glob) where
  I : Type
  f : Nat
  G : I → Prop
  A : I → List AV
  R : I → AV
  body : hasBody P f = true
  inj : ∀ i j, G i → G j → A i = A j → R i = R j
  ok : ∀ i, G i → refsL (A i) [] = [] ∧ ValOK P gl f (A i) (R i)
/-- Facts on one function that writes to memory that it is handed. -/
structure FamM (P : Program) (gl : Glob) where
  I : Type
  f : Nat
  G : I → Prop
  A : I → List AV
  H : I → AHeap
  R : I → AV
  O : I → AHeap
  body : hasBody P f = true
  inj : ∀ i j, G i → G j → A i = A j → H i = H j → R i = R j ∧ O i = O j
  ok : ∀ i, G i → MemOK P gl f (A i) (H i) (R i) (O i)
section
variable {P : Program} {gl : Glob}
def Fam.Ask (F : Fam P gl) (O : Orc) : Prop := ∀ i, F.G i → ∀ H, acall P O H F.f (F.A i) = some (F.R i, H)
def FamM.Ask (F : FamM P gl) (O : Orc) : Prop := ∀ i, F.G i → acall P O (F.H i) F.f (F.A i) = some (F.R i, F.O i)
def AllAsk (O : Orc) : List (Fam P gl) → Prop
  | [] => True
  | F :: l => F.Ask O ∧ AllAsk O l
def AllAskM (O : Orc) : List (FamM P gl) → Prop
  | [] => True
  | F :: l => F.Ask O ∧ AllAskM O l
/-- Of no other function than these. -/
def Only (O : Orc) (fs : List Nat) : Prop := ∀ g args H, mem g fs = false → O g args H = none
theorem add_ask {o O : Orc} {f : Nat} (ho : ∀ g args H, g ≠ f → o g args H = none) : (∀ F : Fam P gl, F.f ≠ f → F.Ask O → F.Ask (orcOr o O)) ∧ (∀ F : FamM P gl, F.f ≠ f → F.Ask O → F.Ask (orcOr o O)) :=
  ⟨fun F hf h i hi H => callOr2 F.body (ho _ _ _ hf) (h i hi H), fun F hf h i hi => callOr2 F.body (ho _ _ _ hf) (h i hi)⟩
theorem fams_all : ∀ (l : List (Fam P gl)), nodupN (l.map (·.f)) = true → ∃ O, OrcSound P gl O ∧ AllAsk O l
  | [], _ => ⟨fun _ _ _ => none, (fun f args H r H' h => by cases h), trivial⟩
  | F :: l, h => by
    simp only [List.map_cons, nodupN, Bool.and_eq_true, Bool.not_eq_true'] at h
    obtain ⟨O, hO, ha⟩ := fams_all l h.2
    have ho : ∀ g args H, g ≠ F.f → orcJ F.G (fun _ => F.f) F.A F.R g args H = none := by
      intro g args H hg
      have : ¬ ∃ i, F.G i ∧ F.f = g ∧ F.A i = args := by
        rintro ⟨i, _, h2, _⟩
        exact hg h2.symm
      simp only [orcJ, orcV, dif_neg this]
    refine ⟨orcOr (orcJ F.G (fun _ => F.f) F.A F.R) O, orcOr_sound (orcJ_sound F.ok) hO, fun i hi H => callOr1 F.body (callJ (fun i j hi hj _ ha => F.inj i j hi hj ha) i F.body hi), ?_⟩
    have hn : ∀ G ∈ l, G.f ≠ F.f := fun G hG e => by
      have h1 := h.1
      have : mem F.f (l.map (·.f)) = true := mem_iff.2 (by rw [← e]; exact List.mem_map_of_mem hG)
      rw [this] at h1; cases h1
    clear h
    induction l with
    | nil => trivial
    | cons G l ih =>
      exact ⟨(add_ask ho).1 G (hn G (by simp)) ha.1, ih ha.2 fun K hK => hn K (by simp [hK])⟩
/-- Families of facts as an oracle. -/
theorem fams (l : List (Fam P gl)) (h : nodupN (l.map (·.f)) = true) : ∃ O, OrcSound P gl O ∧ AllAsk O l := fams_all l h
theorem AllAsk.add {o O : Orc} {f : Nat} (ho : ∀ g args H, g ≠ f → o g args H = none) : ∀ {l : List (Fam P gl)}, mem f (l.map (·.f)) = false → AllAsk O l → AllAsk (orcOr o O) l
  | [], _, _ => trivial
  | F :: l, h, ha => by
    simp only [List.map_cons, mem, Bool.or_eq_false_iff] at h
    exact ⟨(add_ask ho).1 F (fun e => by rw [e] at h; simp at h) ha.1, AllAsk.add ho h.2 ha.2⟩
theorem AllAskM.add {o O : Orc} {f : Nat} (ho : ∀ g args H, g ≠ f → o g args H = none) : ∀ {l : List (FamM P gl)}, mem f (l.map (·.f)) = false → AllAskM O l → AllAskM (orcOr o O) l
  | [], _, _ => trivial
  | F :: l, h, ha => by
    simp only [List.map_cons, mem, Bool.or_eq_false_iff] at h
    exact ⟨(add_ask ho).2 F (fun e => by rw [e] at h; simp at h) ha.1, AllAskM.add ho h.2 ha.2⟩
/-- Families of both kinds. -/
theorem famsM : ∀ (m : List (FamM P gl)) (l : List (Fam P gl)), nodupN (m.map (·.f) ++ l.map (·.f)) = true → ∃ O, OrcSound P gl O ∧ AllAskM O m ∧ AllAsk O l
  | [], l, h => by
    obtain ⟨O, h1, h2⟩ := fams_all l h
    exact ⟨O, h1, trivial, h2⟩
  | F :: m, l, h => by
    simp only [List.map_cons, List.cons_append, nodupN, Bool.and_eq_true, Bool.not_eq_true'] at h
    obtain ⟨O, hO, ha, hb⟩ := famsM m l h.2
    have ho : ∀ g args H, g ≠ F.f → orcI F.G (fun _ => F.f) F.A F.H F.R F.O g args H = none := fun g args H hg => orcI_none fun i _ e => absurd e.symm hg
    have hmem : ∀ {a b : List Nat}, mem F.f (a ++ b) = false → mem F.f a = false ∧ mem F.f b = false := by
      intro a b h
      constructor
      · cases hx : mem F.f a with
        | false => rfl
        | true => rw [mem_iff.2 (List.mem_append.2 (.inl (mem_iff.1 hx)))] at h; cases h
      · cases hx : mem F.f b with
        | false => rfl
        | true => rw [mem_iff.2 (List.mem_append.2 (.inr (mem_iff.1 hx)))] at h; cases h
    obtain ⟨n1, n2⟩ := hmem h.1
    refine ⟨orcOr (orcI F.G (fun _ => F.f) F.A F.H F.R F.O) O, orcOr_sound (orcI_sound F.ok) hO, ⟨fun i hi => callOr1 F.body (callI (fun i j hi hj _ ha hh => F.inj i j hi hj ha hh) F.body i hi rfl rfl rfl), AllAskM.add ho n1 ha⟩, AllAsk.add ho n2 hb⟩
end
end Go.Abs
end

/-
  Expressions as the interpreter knows them; how great they are, how deep (the document's answer).
-/
section
set_option linter.unusedVariables false
set_option linter.unusedSimpArgs false
namespace Go.Proofs.YtcbjhdklbhlmhaaDoor.lex
open Go.Abs Go.RowKit
set_option maxRecDepth 100000
set_option maxHeartbeats 4000000
variable {gl : Glob}

inductive Ex where
  | mk (op num : Int) (name : List UInt8) (kids : List Ex)
instance : Inhabited Ex := ⟨.mk 0 0 [] []⟩
def Ex.op : Ex → Int
  | .mk o _ _ _ => o
def Ex.num : Ex → Int
  | .mk _ n _ _ => n
def Ex.name : Ex → List UInt8
  | .mk _ _ s _ => s
def Ex.kids : Ex → List Ex
  | .mk _ _ _ k => k
mutual
def Ex.cells : Ex → List AV
  | .mk op num name kids => [.int .i64 op, .int .i64 num, .str name, .rs kids.length 4 (exC kids)]
def exC : List Ex → List AV
  | [] => []
  | e :: l => e.cells ++ exC l
end
/-- A list of expressions. -/
def exA (l : List Ex) : AV := .rs l.length 4 (exC l)
mutual
def sizeE : Ex → Nat
  | .mk _ _ _ kids => 1 + sizeL kids
def sizeL : List Ex → Nat
  | [] => 0
  | e :: l => sizeE e + sizeL l
end
mutual
def deepE : Ex → Nat
  | .mk _ _ _ kids => deepL kids + 1
def deepL : List Ex → Nat
  | [] => 0
  | e :: l => max (deepE e) (deepL l)
end
theorem cells_len : ∀ e : Ex, e.cells.length = 4
  | .mk _ _ _ _ => by simp only [Ex.cells]; rfl
theorem exC_len : ∀ l : List Ex, (exC l).length = l.length * 4
  | [] => by simp only [exC]; rfl
  | e :: l => by simp only [exC, List.length_append, cells_len, exC_len l, List.length_cons]; omega
theorem exC_app : ∀ a b : List Ex, exC (a ++ b) = exC a ++ exC b
  | [], b => by simp only [exC, List.nil_append]
  | e :: a, b => by simp only [exC, List.cons_append, exC_app a b, List.append_assoc]
theorem exC_drop (e : Ex) (l : List Ex) (i : Nat) : (exC (e :: l)).drop ((i + 1) * 4) = (exC l).drop (i * 4) := by
  have h : (i + 1) * 4 = 4 + i * 4 := by omega
  rw [h, ← List.drop_drop, exC, List.drop_left' (cells_len e)]
theorem tk_app : ∀ (a b : List AV), tk a.length (a ++ b) = some a
  | [], b => by cases b <;> rfl
  | c :: a, b => by simp only [List.length_cons, List.cons_append, tk, tk_app a b]
theorem exC_at : ∀ (l : List Ex) (i : Nat) (h : i < l.length), (exC l).drop (i * 4) = l[i].cells ++ exC (l.drop (i + 1))
  | e :: l, 0, h => by simp only [Nat.zero_mul, List.drop_zero, exC, List.getElem_cons_zero, List.drop_succ_cons]
  | e :: l, i + 1, h => by rw [exC_drop, exC_at l i (by simpa using h)]; simp only [List.getElem_cons_succ, List.drop_succ_cons]
theorem ex4 (l : List Ex) (i : Nat) (h : i < l.length) : tk 4 ((exC l).drop (i * 4)) = some l[i].cells := by
  rw [exC_at l i h]
  have := tk_app l[i].cells (exC (l.drop (i + 1)))
  rwa [cells_len] at this
mutual
theorem cells_inj : ∀ (a b : Ex), a.cells = b.cells → a = b
  | .mk o n s k, .mk o' n' s' k', h => by
    simp only [Ex.cells] at h
    simp at h
    obtain ⟨rfl, rfl, rfl, hl, hk⟩ := h
    rw [exC_inj k k' hk hl]
theorem exC_inj : ∀ (a b : List Ex), exC a = exC b → a.length = b.length → a = b
  | [], [], _, _ => rfl
  | x :: a, y :: b, h, hl => by
    simp only [exC] at h
    have h' := List.append_inj h (by rw [cells_len, cells_len])
    rw [cells_inj x y h'.1, exC_inj a b h'.2 (by simpa using hl)]
  | [], _ :: _, _, hl => by simp at hl
  | _ :: _, [], _, hl => by simp at hl
end
theorem exA_inj {a b : List Ex} (h : exA a = exA b) : a = b := by
  simp only [exA, AV.rs.injEq, true_and] at h
  exact exC_inj _ _ h.2 h.1
theorem sizeE_pos : ∀ e : Ex, 0 < sizeE e
  | .mk _ _ _ _ => by simp only [sizeE]; omega
theorem sizeL_get : ∀ (l : List Ex) (i : Nat) (h : i < l.length), sizeL l = sizeL (l.take i) + sizeE l[i] + sizeL (l.drop (i + 1))
  | e :: l, 0, h => by simp only [List.take_zero, sizeL, List.getElem_cons_zero, List.drop_succ_cons, List.drop_zero]; omega
  | e :: l, i + 1, h => by
    have := sizeL_get l i (by simpa using h)
    simp only [List.take_succ_cons, sizeL, List.getElem_cons_succ, List.drop_succ_cons]; omega
theorem sizeL_take : ∀ (l : List Ex) (i : Nat) (h : i < l.length), sizeL (l.take (i + 1)) = sizeL (l.take i) + sizeE l[i]
  | e :: l, 0, h => by simp only [List.take_succ_cons, List.take_zero, sizeL, List.getElem_cons_zero]; omega
  | e :: l, i + 1, h => by
    have := sizeL_take l i (by simpa using h)
    simp only [List.take_succ_cons, sizeL, List.getElem_cons_succ] at this ⊢; omega
theorem sizeL_len : ∀ l : List Ex, l.length ≤ sizeL l
  | [] => Nat.zero_le _
  | e :: l => by have := sizeL_len l; have := sizeE_pos e; simp only [sizeL, List.length_cons]; omega
theorem sizeE_kids : ∀ e : Ex, sizeE e = 1 + sizeL e.kids
  | .mk _ _ _ _ => by simp only [sizeE, Ex.kids]
theorem sizeL_mem : ∀ (l : List Ex) (e : Ex), e ∈ l → sizeE e ≤ sizeL l
  | e :: l, f, h => by
    simp only [sizeL]
    rcases List.mem_cons.1 h with rfl | h
    · omega
    · have := sizeL_mem l f h; omega
theorem deepL_take : ∀ (l : List Ex) (i : Nat) (h : i < l.length), deepL (l.take (i + 1)) = max (deepL (l.take i)) (deepE l[i])
  | e :: l, 0, h => by simp only [List.take_succ_cons, List.take_zero, deepL, List.getElem_cons_zero]; omega
  | e :: l, i + 1, h => by
    have := deepL_take l i (by simpa using h)
    simp only [List.take_succ_cons, deepL, List.getElem_cons_succ] at this ⊢; omega
mutual
theorem deepE_size : ∀ e : Ex, deepE e ≤ sizeE e
  | .mk _ _ _ k => by have := deepL_size k; simp only [deepE, sizeE]; omega
theorem deepL_size : ∀ l : List Ex, deepL l ≤ sizeL l
  | [] => Nat.le_refl _
  | e :: l => by have := deepE_size e; have := deepL_size l; simp only [deepL, sizeL]; omega
end
theorem deepL_le : ∀ (l : List Ex) (i : Nat), deepL (l.take i) ≤ deepL l
  | [], i => by simp [deepL]
  | e :: l, 0 => by simp [deepL]
  | e :: l, i + 1 => by have := deepL_le l i; simp only [List.take_succ_cons, deepL]; omega
theorem deepL_mem : ∀ (l : List Ex) (e : Ex), e ∈ l → deepE e ≤ deepL l
  | e :: l, f, h => by
    simp only [deepL]
    rcases List.mem_cons.1 h with rfl | h
    · omega
    · have := deepL_mem l f h; omega
theorem ex_refs (e : Ex) : refsL [.agg e.cells] [] = [] := by
  obtain ⟨o, n, s, k⟩ := e
  simp only [Ex.cells]; rfl
theorem agg_inj {a b : Ex} (h : [AV.agg a.cells] = [AV.agg b.cells]) : a = b := by
  simp only [List.cons.injEq, AV.agg.injEq, and_true] at h
  exact cells_inj _ _ h
/-- Facts on one function of one expression each. -/
def famE {g : Nat} (hb : hasBody Tryd.prog g = true) (r : Ex → AV) (l : List Ex) (each : ∀ k ∈ l, ValOK Tryd.prog gl g [.agg k.cells] (r k)) : Fam Tryd.prog gl where
  I := Ex
  f := g
  G := fun k => k ∈ l
  A := fun k => [.agg k.cells]
  R := r
  body := hb
  inj := fun i j _ _ h => by rw [agg_inj h]
  ok := fun k hk => ⟨ex_refs k, each k hk⟩
theorem get_mem {α : Type} {l : List α} {i : Nat} (h : i < l.length) : l[i] ∈ l := List.getElem_mem h

theorem sizeR_ok : ∀ (n : Nat) (e : Ex), sizeE e ≤ n → sizeE e ≤ 1048576 → ValOK Tryd.prog gl 16 [.agg e.cells] (.int .i64 (sizeE e))
  | 0, e, h, _ => by have := sizeE_pos e; omega
  | n + 1, .mk op num name kids, h, hb => by
    simp only [sizeE] at h hb ⊢
    obtain ⟨O, hO, q, -⟩ := fams (P := Tryd.prog) (gl := gl) [famE (g := 16) (by kernel_rfl) (fun k => .int .i64 (sizeE k)) kids fun k hk => sizeR_ok n k (by have := sizeL_mem _ _ hk; omega) (by have := sizeL_mem _ _ hk; omega)] rfl
    have hlen := sizeL_len kids
    simp only [Ex.cells]
    refine fn_val follows noNum hO Tryd.func16 rfl ?_
    repeat' ((conv => whnf); first | refine stp ?_ | with_reducible refine condB (fun h => ?_) (fun h => ?_))
    conv => whnf
    refine ⟨Nat, (fun i => i ≤ kids.length), (fun i => [(1, .ptr 0 0), (3, .int .i64 (1 + sizeL (kids.take i) : Nat)), (4, .int .i64 i)]), (fun _ => [⟨true, 0, 0, .cells [.int .i64 op, .int .i64 num, .str name, .rs kids.length 4 (exC kids)] 24⟩]), (fun i => kids.length - i), ⟨0, Nat.zero_le _, FgL.mk [0] rfl ?_ ⟨⟨rfl, rfl, rfl, rfl, BodyGe.pre (rest := []) rfl rfl⟩, trivial⟩ rfl⟩, ?_⟩
    · simp only [List.take_zero, sizeL]; (repeat (first | exact trivial | refine stw ?_))
    intro i hi
    dsimp only
    by_cases hlt : i < kids.length
    · have e1 : decide ((i : Int) < (kids.length : Int)) = true := by simpa using hlt
      have hx := ex4 kids i hlt
      have hs := sizeL_take kids i hlt
      have hg := sizeL_get kids i hlt
      have q1 : ∀ H, acall Tryd.prog O H 16 [.agg kids[i].cells] = some (.int .i64 (sizeE kids[i]), H) := q _ (get_mem hlt)
      generalize kids[i] = k at *
      repeat' ((conv => whnf); first | (refine exI hx ?_) | (refine exI (q1 _) ?_) | (with_reducible refine ixJ i rfl ?_ ?_; (focus (omega))) | (first | refine stp ?_ | with_reducible refine condB (fun h => ?_) (fun h => ?_)))
      conv => whnf
      refine ⟨i + 1, hlt, by show kids.length - (i + 1) < kids.length - i; omega, FgL.mk [0] rfl ?_ ⟨⟨rfl, rfl, rfl, rfl, BodyGe.pre (rest := []) rfl rfl⟩, trivial⟩ rfl⟩
      rw [hs, ← Nat.add_assoc]; (repeat (first | exact trivial | refine stw ?_))
    · have e1 : decide ((i : Int) < (kids.length : Int)) = false := by simpa using hlt
      have hi2 : i = kids.length := by have := hi; omega
      subst hi2
      repeat' ((conv => whnf); first | refine stp ?_ | with_reducible refine condB (fun h => ?_) (fun h => ?_))
      simp only [List.take_length]; rfl
theorem deepR_ok : ∀ (n : Nat) (e : Ex), sizeE e ≤ n → sizeE e ≤ 1048576 → ValOK Tryd.prog gl 17 [.agg e.cells] (.int .i64 (deepE e))
  | 0, e, h, _ => by have := sizeE_pos e; omega
  | n + 1, .mk op num name kids, h, hb => by
    simp only [sizeE] at h hb
    simp only [deepE]
    obtain ⟨O, hO, q, -⟩ := fams (P := Tryd.prog) (gl := gl) [famE (g := 17) (by kernel_rfl) (fun k => .int .i64 (deepE k)) kids fun k hk => deepR_ok n k (by have := sizeL_mem _ _ hk; omega) (by have := sizeL_mem _ _ hk; omega)] rfl
    have hlen := sizeL_len kids
    have hds := deepL_size kids
    simp only [Ex.cells]
    refine fn_val follows noNum hO Tryd.func17 rfl ?_
    repeat' ((conv => whnf); first | refine stp ?_ | with_reducible refine condB (fun h => ?_) (fun h => ?_))
    conv => whnf
    refine ⟨Nat, (fun i => i ≤ kids.length), (fun i => [(1, .ptr 0 0), (3, .int .i64 (deepL (kids.take i))), (4, .int .i64 i)]), (fun _ => [⟨true, 0, 0, .cells [.int .i64 op, .int .i64 num, .str name, .rs kids.length 4 (exC kids)] 24⟩]), (fun i => kids.length - i), ⟨0, Nat.zero_le _, FgL.mk [0] rfl ?_ ⟨⟨rfl, rfl, rfl, rfl, BodyGe.pre (rest := []) rfl rfl⟩, trivial⟩ rfl⟩, ?_⟩
    · simp only [List.take_zero, deepL]; (repeat (first | exact trivial | refine stw ?_))
    intro i hi
    dsimp only
    by_cases hlt : i < kids.length
    · have e1 : decide ((i : Int) < (kids.length : Int)) = true := by simpa using hlt
      have hx := ex4 kids i hlt
      have hs := deepL_take kids i hlt
      have q1 : ∀ H, acall Tryd.prog O H 17 [.agg kids[i].cells] = some (.int .i64 (deepE kids[i]), H) := q _ (get_mem hlt)
      generalize kids[i] = k at *
      repeat' ((conv => whnf); first | (refine exI hx ?_) | (refine exI (q1 _) ?_) | (with_reducible refine ixJ i rfl ?_ ?_; (focus (omega))) | (first | refine stp ?_ | with_reducible refine condB (fun h => ?_) (fun h => ?_)))
      conv => whnf
      refine ⟨i + 1, hlt, by show kids.length - (i + 1) < kids.length - i; omega, FgL.mk [0] rfl ?_ ⟨⟨rfl, rfl, rfl, rfl, BodyGe.pre (rest := []) rfl rfl⟩, trivial⟩ rfl⟩
      refine And.intro (Wk.ptr rfl rfl) ?_
      refine And.intro (Wk.int ?_) ?_
      · rw [hs]; split <;> omega
      (repeat (first | exact trivial | refine stw ?_))
    · have e1 : decide ((i : Int) < (kids.length : Int)) = false := by simpa using hlt
      have hi2 : i = kids.length := by have := hi; omega
      subst hi2
      rw [List.take_length]
      repeat' ((conv => whnf); first | refine stp ?_ | with_reducible refine condB (fun h => ?_) (fun h => ?_))
      rfl
end Go.Proofs.YtcbjhdklbhlmhaaDoor.lex
end

/-
  Words: what is one (the document's answer, the program's).
-/
section
set_option linter.unusedVariables false
set_option linter.unusedSimpArgs false
namespace Go.Proofs.YtcbjhdklbhlmhaaDoor.lex
open Go.Abs Go.RowKit
set_option maxRecDepth 100000
set_option maxHeartbeats 4000000
variable {gl : Glob}

def wordB (s : List UInt8) : Bool := !s.isEmpty && (wordN s == s.length && !keysL.contains s)
theorem wordR_B (s : List UInt8) : ∃ k w, wordR s = .tuple [.int .i64 k, .bool w] ∧ (w && (k == 1)) = wordB s ∧ (k == 1) = wordB s := by
  unfold wordR wordB
  by_cases h0 : s = []
  · subst h0; exact ⟨0, false, by rw [if_neg (fun h => h.1 rfl)], rfl, rfl⟩
  · by_cases hw : wordN s = s.length
    · rw [if_pos ⟨h0, hw⟩]
      refine ⟨_, _, rfl, ?_⟩
      have : s.isEmpty = false := by cases s with | nil => exact absurd rfl h0 | cons _ _ => rfl
      rw [this, hw]
      cases keysL.contains s <;> simp
    · rw [if_neg (fun h => hw h.2)]
      refine ⟨_, _, rfl, ?_⟩
      have : (wordN s == s.length) = false := by simpa using hw
      rw [this]; simp
theorem wordRef_ok (s : List UInt8) (hs : s.length ≤ 9223372036854775807) : ValOK Tryd.prog gl 31 [.str s] (.bool (wordB s)) := by
  obtain ⟨k, w, h1, h2, h3⟩ := wordR_B s
  have hO := orcF_sound (P := Tryd.prog) (gl := gl) (l := [(49, [.str s], wordR s)]) ⟨rfl, wordD_ok s hs, trivial⟩
  have q : ∀ H, acall Tryd.prog (orcF [(49, [.str s], wordR s)]) H 49 [.str s] = some (wordR s, H) := fun H => callF (by kernel_rfl) findF_here
  rw [h1] at q hO
  rw [← h2]
  refine fn_val follows noNum hO Tryd.func31 rfl ?_
  repeat' ((conv => whnf); first | (refine exI (q _) ?_) | (first | refine stp ?_ | with_reducible refine condB (fun h => ?_) (fun h => ?_)))
  all_goals (try (simp_all [resOf]; done))
theorem isWord_ok (s : List UInt8) (hs : s.length ≤ 9223372036854775807) (m : Bool) : ValOK Tryd.prog gl 51 [.str s, .bool m] (.bool (if m then wordB s else s == [])) := by
  obtain ⟨k, w, h1, h2, h3⟩ := wordR_B s
  have hO := orcF_sound (P := Tryd.prog) (gl := gl) (l := [(66, [.str s], wordR s)]) ⟨rfl, wordP_ok s hs, trivial⟩
  have q : ∀ H, acall Tryd.prog (orcF [(66, [.str s], wordR s)]) H 66 [.str s] = some (wordR s, H) := fun H => callF (by kernel_rfl) findF_here
  rw [h1] at q hO
  rw [← h3]
  cases m with
  | true =>
    refine fn_val follows noNum hO Tryd.func51 rfl ?_
    repeat' ((conv => whnf); first | (refine exI (q _) ?_) | (first | refine stp ?_ | with_reducible refine condB (fun h => ?_) (fun h => ?_)))
    all_goals rfl
  | false =>
    refine fn_val follows noNum hO Tryd.func51 rfl ?_
    repeat' ((conv => whnf); first | (refine exI (q _) ?_) | (first | refine stp ?_ | with_reducible refine condB (fun h => ?_) (fun h => ?_)))
    all_goals rfl
end Go.Proofs.YtcbjhdklbhlmhaaDoor.lex
end

/-
  Expressions: may they be (the document's answer); are there few parts.
-/
section
set_option linter.unusedVariables false
set_option linter.unusedSimpArgs false
namespace Go.Proofs.YtcbjhdklbhlmhaaDoor.lex
open Go.Abs Go.RowKit
set_option maxRecDepth 100000
set_option maxHeartbeats 4000000
variable {gl : Glob}

/-- Its names are no longer than texts may be, its lists as well. -/
def okN (s : List UInt8) (n : Nat) : Prop := s.length ≤ 9223372036854775807 ∧ n ≤ 9223372036854775807
mutual
def okE : Ex → Prop
  | .mk _ _ s k => okN s k.length ∧ okL k
def okL : List Ex → Prop
  | [] => True
  | e :: l => okE e ∧ okL l
end
theorem okL_get : ∀ {l : List Ex}, okL l → ∀ e ∈ l, okE e
  | x :: l, h, e, he => by
    simp only [okL] at h
    rcases List.mem_cons.1 he with rfl | he
    · exact h.1
    · exact okL_get h.2 e he
theorem okE_kids : ∀ {e : Ex}, okE e → okN e.name e.kids.length ∧ okL e.kids
  | .mk _ _ s k, h => by simp only [okE] at h; exact h

/-! how many kids -/
def kidsI (op : Int) : Int := if op = 1 ∨ op = 2 then 0 else if op = 3 ∨ op = 4 then 1 else if 5 ≤ op ∧ op ≤ 16 then 2 else -1
theorem kids_ok (op : Int) : ValOK Tryd.prog gl 30 [.int .i64 op] (.int .i64 (kidsI op)) := by
  refine fn_val follows noNum none_sound Tryd.func30 rfl ?_
  repeat' ((conv => whnf); first | refine stp ?_ | with_reducible refine condB (fun h => ?_) (fun h => ?_))
  all_goals (show AV.int _ _ = AV.int _ _; congr 1; unfold kidsI; simp only [beq_iff_eq, decide_eq_true_eq, beq_eq_false_iff_ne, decide_eq_false_iff_not, ge_iff_le, Int.not_le] at *)
  all_goals (repeat' split)
  all_goals omega

/-! few parts -/
mutual
def heftE : Ex → Int → Int
  | .mk _ _ s k, l => heftL k (l - 1 - (s.length / 20 : Nat))
def heftL : List Ex → Int → Int
  | [], l => l
  | e :: k, l => if 0 ≤ l then heftL k (heftE e l) else l
end
mutual
theorem heftE_size : ∀ (e : Ex) (l : Int), 0 ≤ heftE e l → (sizeE e : Int) + heftE e l ≤ l
  | .mk _ _ s k, l, h => by
    simp only [heftE, sizeE] at *
    have := heftL_size k _ h; omega
theorem heftL_size : ∀ (k : List Ex) (l : Int), 0 ≤ heftL k l → (sizeL k : Int) + heftL k l ≤ l
  | [], l, h => by simp only [heftL, sizeL] at *; omega
  | e :: k, l, h => by
    simp only [heftL, sizeL] at *
    split at h
    · rename_i hl
      rw [if_pos hl]
      have h1 := heftL_size k _ h
      have h2 : 0 ≤ heftE e l := by omega
      have h3 := heftE_size e l h2
      omega
    · omega
end
mutual
theorem heftE_le : ∀ (e : Ex) (l : Int), heftE e l ≤ l
  | .mk _ _ s k, l => by simp only [heftE]; have := heftL_le k (l - 1 - (s.length / 20 : Nat)); omega
theorem heftL_le : ∀ (k : List Ex) (l : Int), heftL k l ≤ l
  | [], l => by simp only [heftL]; omega
  | e :: k, l => by
    simp only [heftL]
    split
    · have := heftL_le k (heftE e l); have := heftE_le e l; omega
    · omega
end
mutual
theorem heftE_ge : ∀ (e : Ex) (l : Int), okE e → 0 ≤ l → -9000000000000000000 ≤ heftE e l
  | .mk _ _ s k, l, h, h2 => by
    simp only [okE, okN] at h; simp only [heftE]
    exact heftL_ge k _ h.2 (by omega)
theorem heftL_ge : ∀ (k : List Ex) (l : Int), okL k → -9000000000000000000 ≤ l → -9000000000000000000 ≤ heftL k l
  | [], l, h, h2 => by simp only [heftL]; exact h2
  | e :: k, l, h, h2 => by
    simp only [okL] at h
    simp only [heftL]
    split
    · exact heftL_ge k _ h.2 (heftE_ge e l h.1 (by assumption))
    · exact h2
end
theorem heftL_at : ∀ (k : List Ex) (l : Int) (i : Nat) (h : i < k.length), heftL (k.take (i + 1)) l = if 0 ≤ heftL (k.take i) l then heftE k[i] (heftL (k.take i) l) else heftL (k.take i) l
  | e :: k, l, 0, h => by simp only [List.take_succ_cons, List.take_zero, heftL, List.getElem_cons_zero]
  | e :: k, l, i + 1, h => by
    have ih := fun l => heftL_at k l i (by simpa using h)
    simp only [List.take_succ_cons, heftL, List.getElem_cons_succ] at ih ⊢
    split
    · exact ih _
    · rename_i h2; simp [h2]
theorem heftL_stop : ∀ (k : List Ex) (l : Int) (i : Nat), heftL (k.take i) l < 0 → heftL k l = heftL (k.take i) l
  | [], l, i, h => by simp [heftL]
  | e :: k, l, 0, h => by
    simp only [List.take_zero, heftL] at *
    rw [if_neg (by omega)]
  | e :: k, l, i + 1, h => by
    simp only [List.take_succ_cons, heftL] at *
    split
    · rename_i hl
      rw [if_pos hl] at h
      exact heftL_stop k _ i h
    · rfl
theorem heft_ok : ∀ (n : Nat) (e : Ex) (l : Int), sizeE e ≤ n → okE e → 0 ≤ l → l ≤ 1048576 → ValOK Tryd.prog gl 15 [.agg e.cells, .int .i64 l] (.int .i64 (heftE e l))
  | 0, e, l, h, _, _, _ => by have := sizeE_pos e; omega
  | n + 1, .mk op num name kids, l, h, hok, hl0, hl1 => by
    simp only [sizeE] at h
    obtain ⟨⟨hn1, hn2⟩, hok2⟩ := okE_kids hok
    simp only [Ex.name, Ex.kids] at hn1 hn2 hok2
    obtain ⟨O, hO, q, -⟩ := fams (P := Tryd.prog) (gl := gl) [{ I := Ex × Int, f := 15, G := fun p => p.1 ∈ kids ∧ 0 ≤ p.2 ∧ p.2 ≤ 1048576, A := fun p => [.agg p.1.cells, .int .i64 p.2], R := fun p => .int .i64 (heftE p.1 p.2), body := (by kernel_rfl), inj := (fun i j _ _ h => by simp only [List.cons.injEq, AV.agg.injEq, AV.int.injEq, and_true, true_and] at h; rw [cells_inj _ _ h.1, h.2]), ok := (fun p hp => ⟨by have := ex_refs p.1; simpa [refsL, refs] using this, heft_ok n p.1 p.2 (by have := sizeL_mem _ _ hp.1; omega) (okL_get hok2 _ hp.1) hp.2.1 hp.2.2⟩) }] rfl
    have q20 : Int.tdiv (name.length : Int) 20 = ((name.length / 20 : Nat) : Int) := rfl
    have w1 : IntKind.i64.wrap (l - 1) = l - 1 := wrapB (by omega) (by omega)
    have w2 : IntKind.i64.wrap (Int.tdiv (name.length : Int) 20) = ((name.length / 20 : Nat) : Int) := by rw [q20]; exact wrapB (by omega) (by omega)
    have w3 : IntKind.i64.wrap (l - 1 - ((name.length / 20 : Nat) : Int)) = l - 1 - ((name.length / 20 : Nat) : Int) := wrapB (by omega) (by omega)
    simp only [Ex.cells, heftE]
    refine fn_val follows noNum hO Tryd.func15 rfl ?_
    repeat' ((conv => whnf); first | (with_reducible refine exW w1 ?_) | (refine And.intro (show (20 : Int) ≠ 0 by decide) ?_) | (rw [w2]) | (with_reducible refine exW w3 ?_) | (first | refine stp ?_ | with_reducible refine condB (fun h => ?_) (fun h => ?_)))
    conv => whnf
    generalize hl00 : l - 1 - ((name.length / 20 : Nat) : Int) = l0 at *
    refine ⟨Nat, (fun i => i ≤ kids.length), (fun i => [(1, .int .i64 (heftL (kids.take i) l0)), (2, .ptr 0 0), (5, .int .i64 i)]), (fun _ => [⟨true, 0, 0, .cells [.int .i64 op, .int .i64 num, .str name, .rs kids.length 4 (exC kids)] 24⟩]), (fun i => kids.length - i), ⟨0, Nat.zero_le _, FgL.mk [0] rfl ?_ ⟨⟨rfl, rfl, rfl, rfl, BodyGe.pre (rest := []) rfl rfl⟩, trivial⟩ rfl⟩, ?_⟩
    · simp only [List.take_zero, heftL]; (repeat (first | exact trivial | refine stw ?_))
    intro i hi
    dsimp only
    have hle := heftL_le (kids.take i) l0
    by_cases hlt : i < kids.length
    · have e1 : decide ((i : Int) < (kids.length : Int)) = true := by simpa using hlt
      by_cases hpos : 0 ≤ heftL (kids.take i) l0
      · have e2 : decide (heftL (kids.take i) l0 ≥ 0) = true := by simpa using hpos
        have hx := ex4 kids i hlt
        have hs := heftL_at kids l0 i hlt
        rw [if_pos hpos] at hs
        have hc' : ∀ H, acall Tryd.prog O H 15 [.agg kids[i].cells, .int .i64 (heftL (kids.take i) l0)] = some (.int .i64 (heftE kids[i] (heftL (kids.take i) l0)), H) := q (kids[i], _) ⟨get_mem hlt, hpos, by show heftL (kids.take i) l0 ≤ 1048576; omega⟩
        generalize kids[i] = k at *
        repeat' ((conv => whnf); first | (refine exI hx ?_) | (refine exI (hc' _) ?_) | (with_reducible refine ixJ i rfl ?_ ?_; (focus (omega))) | (first | refine stp ?_ | with_reducible refine condB (fun h => ?_) (fun h => ?_)))
        conv => whnf
        refine ⟨i + 1, hlt, by show kids.length - (i + 1) < kids.length - i; omega, FgL.mk [0] rfl ?_ ⟨⟨rfl, rfl, rfl, rfl, BodyGe.pre (rest := []) rfl rfl⟩, trivial⟩ rfl⟩
        rw [hs]; (repeat (first | exact trivial | refine stw ?_))
      · have e2 : decide (heftL (kids.take i) l0 ≥ 0) = false := by simpa using hpos
        have hst := heftL_stop kids l0 i (by omega)
        rw [hst]
        repeat' ((conv => whnf); first | refine stp ?_ | with_reducible refine condB (fun h => ?_) (fun h => ?_))
        rfl
    · have e1 : decide ((i : Int) < (kids.length : Int)) = false := by simpa using hlt
      have hi2 : i = kids.length := by have := hi; omega
      subst hi2
      rw [List.take_length]
      repeat' ((conv => whnf); first | refine stp ?_ | with_reducible refine condB (fun h => ?_) (fun h => ?_))
      rfl
theorem light_ok (e : Ex) (l : Int) (hok : okE e) (hl0 : 0 ≤ l) (hl1 : l ≤ 1048576) : ValOK Tryd.prog gl 5 [.agg e.cells, .int .i64 l] (.bool (decide (0 ≤ heftE e l))) := by
  have hO := orcF_sound (P := Tryd.prog) (gl := gl) (l := [(15, [.agg e.cells, .int .i64 l], .int .i64 (heftE e l))]) ⟨by have := ex_refs e; simpa [refsL, refs] using this, heft_ok _ e l (Nat.le_refl _) hok hl0 hl1, trivial⟩
  have q : ∀ H, acall Tryd.prog (orcF [(15, [.agg e.cells, .int .i64 l], .int .i64 (heftE e l))]) H 15 [.agg e.cells, .int .i64 l] = some (.int .i64 (heftE e l), H) := fun H => callF (by kernel_rfl) findF_here
  obtain ⟨op, num, name, kids⟩ := e
  simp only [Ex.cells] at *
  refine fn_val follows noNum hO Tryd.func5 rfl ?_
  repeat' ((conv => whnf); first | (refine exI (q _) ?_) | (first | refine stp ?_ | with_reducible refine condB (fun h => ?_) (fun h => ?_)))
  all_goals rfl

/-! may it be -/
def ownF (op num : Int) (name : List UInt8) (n : Nat) : Bool := kidsI op == (n : Int) && ((op == 2) == wordB name && ((op == 2 || name == []) && (decide (0 ≤ num) && (op == 1 || num == 0))))
def ownE (e : Ex) : Bool := ownF e.op e.num e.name e.kids.length
mutual
def rightE : Ex → Bool
  | .mk o n s k => ownF o n s k.length && rightL k
def rightL : List Ex → Bool
  | [] => true
  | e :: l => rightE e && rightL l
end
theorem rightE_eq : ∀ e : Ex, rightE e = (ownE e && rightL e.kids)
  | .mk _ _ _ _ => by simp only [rightE, Ex.kids, ownE, Ex.op, Ex.num, Ex.name]
theorem rightL_get : ∀ {l : List Ex} {i : Nat} (h : i < l.length), rightE l[i] = false → rightL l = false
  | e :: l, 0, h, h2 => by simp only [List.getElem_cons_zero] at h2; simp only [rightL, h2, Bool.false_and]
  | e :: l, i + 1, h, h2 => by simp only [List.getElem_cons_succ] at h2; simp only [rightL, rightL_get (l := l) (by simpa using h) h2, Bool.and_false]
theorem rightL_all : ∀ {l : List Ex}, (∀ i (h : i < l.length), rightE l[i] = true) → rightL l = true
  | [], _ => rfl
  | e :: l, h => by
    have h0 := h 0 (by simp)
    simp only [List.getElem_cons_zero] at h0
    simp only [rightL, h0, Bool.true_and]
    exact rightL_all fun i hi => by have := h (i + 1) (by simpa using hi); simpa using this
theorem rightL_take : ∀ (l : List Ex) (i : Nat) (h : i < l.length), rightL (l.take (i + 1)) = (rightL (l.take i) && rightE l[i])
  | e :: l, 0, h => by simp only [List.take_succ_cons, List.take_zero, rightL, List.getElem_cons_zero, Bool.and_true, Bool.true_and]
  | e :: l, i + 1, h => by
    have := rightL_take l i (by simpa using h)
    simp only [List.take_succ_cons, rightL, List.getElem_cons_succ] at this ⊢; rw [this, Bool.and_assoc]
theorem rightL_stop : ∀ (l : List Ex) (i : Nat), rightL (l.take i) = false → rightL l = false
  | [], i, h => by simpa using h
  | e :: l, 0, h => by simp only [List.take_zero, rightL] at h; cases h
  | e :: l, i + 1, h => by
    simp only [List.take_succ_cons, rightL, Bool.and_eq_false_iff] at h ⊢
    rcases h with h | h
    · exact .inl h
    · exact .inr (rightL_stop l i h)
theorem right_ok : ∀ (n : Nat) (e : Ex), sizeE e ≤ n → okE e → ValOK Tryd.prog gl 18 [.agg e.cells] (.bool (rightE e))
  | 0, e, h, _ => by have := sizeE_pos e; omega
  | n + 1, .mk op num name kids, h, hok => by
    simp only [sizeE] at h
    obtain ⟨⟨hn1, hn2⟩, hok2⟩ := okE_kids hok
    simp only [Ex.name, Ex.kids] at hn1 hn2 hok2
    obtain ⟨O, hO, p1, p2, p3, -⟩ := fams (P := Tryd.prog) (gl := gl) [{ I := Unit, f := 30, G := fun _ => True, A := fun _ => [.int .i64 op], R := fun _ => .int .i64 (kidsI op), body := by kernel_rfl, inj := fun _ _ _ _ _ => rfl, ok := fun _ _ => ⟨rfl, kids_ok _⟩ },
      { I := Unit, f := 31, G := fun _ => True, A := fun _ => [.str name], R := fun _ => .bool (wordB name), body := by kernel_rfl, inj := fun _ _ _ _ _ => rfl, ok := fun _ _ => ⟨rfl, wordRef_ok _ hn1⟩ },
      famE (g := 18) (by kernel_rfl) (fun k => .bool (rightE k)) kids fun k hk => right_ok n k (by have := sizeL_mem _ _ hk; omega) (okL_get hok2 _ hk)] rfl
    have q1 : ∀ H, acall Tryd.prog O H 30 [.int .i64 op] = some (.int .i64 (kidsI op), H) := p1 () trivial
    have q2 : ∀ H, acall Tryd.prog O H 31 [.str name] = some (.bool (wordB name), H) := p2 () trivial
    have q3 : ∀ i (h : i < kids.length) H, acall Tryd.prog O H 18 [.agg kids[i].cells] = some (.bool (rightE kids[i]), H) := fun i h => p3 _ (get_mem h)
    clear p1 p2 p3
    simp only [Ex.cells]
    refine fn_val follows noNum hO Tryd.func18 rfl ?_
    have hop : (op == 2) = true ∨ (op == 2) = false := by cases (op == 2) <;> simp
    obtain ⟨w, hw⟩ : ∃ w, wordB name = w := ⟨_, rfl⟩
    rw [hw] at q2
    cases w <;> rcases hop with hop | hop
    all_goals (repeat' ((conv => whnf); first | (refine exI (q1 _) ?_) | (refine exI (q2 _) ?_) | (first | refine stp ?_ | with_reducible refine condB (fun h => ?_) (fun h => ?_))))
    all_goals (first | (clear q1 q2 q3 hO; simp only [rightE]; (first | (simp_all [resOf, ownF]; done) | (simp_all [resOf, ownF]; intros; omega))) | skip)
    all_goals (have hown : ownF op num name kids.length = true := by (clear q1 q2 q3 hO; simp_all [ownF]))
    all_goals (conv => whnf)
    all_goals refine ⟨Nat, (fun i => i ≤ kids.length ∧ rightL (kids.take i) = true), (fun i => [(1, .ptr 0 0), (3, .int .i64 i)]), (fun _ => [⟨true, 0, 0, .cells [.int .i64 op, .int .i64 num, .str name, .rs kids.length 4 (exC kids)] 24⟩]), (fun i => kids.length - i), ⟨0, ⟨Nat.zero_le _, rfl⟩, FgL.mk [0] rfl ?_ ⟨⟨rfl, rfl, rfl, rfl, BodyGe.pre (rest := []) rfl rfl⟩, trivial⟩ rfl⟩, ?_⟩
    all_goals first | ((repeat (first | exact trivial | refine stw ?_)); done) | skip
    all_goals (
      rintro i ⟨hi, hall⟩
      dsimp only
      by_cases hlt : i < kids.length
      · have e1 : decide ((i : Int) < (kids.length : Int)) = true := by simpa using hlt
        have hx := ex4 kids i hlt
        have q3' := q3 i hlt
        have ht := rightL_take kids i hlt
        rw [hall, Bool.true_and] at ht
        cases hr : rightE kids[i] with
        | true =>
          rw [hr] at q3' ht
          generalize kids[i] = k at *
          repeat' ((conv => whnf); first | (refine exI hx ?_) | (refine exI (q3' _) ?_) | (with_reducible refine ixJ i rfl ?_ ?_; (focus (omega))) | (first | refine stp ?_ | with_reducible refine condB (fun h => ?_) (fun h => ?_)))
          conv => whnf
          refine ⟨i + 1, ⟨hlt, ht⟩, by show kids.length - (i + 1) < kids.length - i; omega, FgL.mk [0] rfl ?_ ⟨⟨rfl, rfl, rfl, rfl, BodyGe.pre (rest := []) rfl rfl⟩, trivial⟩ rfl⟩
          (repeat (first | exact trivial | refine stw ?_))
        | false =>
          have hf := rightL_get hlt hr
          rw [hr] at q3'
          generalize kids[i] = k at *
          repeat' ((conv => whnf); first | (refine exI hx ?_) | (refine exI (q3' _) ?_) | (with_reducible refine ixJ i rfl ?_ ?_; (focus (omega))) | (first | refine stp ?_ | with_reducible refine condB (fun h => ?_) (fun h => ?_)))
          simp only [rightE, hf, Bool.and_false]; rfl
      · have e1 : decide ((i : Int) < (kids.length : Int)) = false := by simpa using hlt
        have hi2 : i = kids.length := by have := hi; omega
        subst hi2
        rw [List.take_length] at hall
        repeat' ((conv => whnf); (first | refine stp ?_ | with_reducible refine condB (fun h => ?_) (fun h => ?_)))
        simp only [rightE, hall, hown, Bool.and_true]; rfl)

/-! CheckExpr -/
def checkE (e : Ex) : Int := if 2000 < sizeE e ∨ 32 < deepE e then 3 else if rightE e then 0 else 2
theorem checkER_ok (e : Ex) (hok : okE e) (hs : sizeE e ≤ 1048576) : ValOK Tryd.prog gl 6 [.agg e.cells] (.int .i64 (checkE e)) := by
  have hd := deepE_size e
  obtain ⟨O, hO, p1, p2, p3, -⟩ := fams (P := Tryd.prog) (gl := gl) [famE (g := 16) (by kernel_rfl) (fun k => .int .i64 (sizeE k)) [e] fun k hk => by rw [List.mem_singleton.1 hk]; exact sizeR_ok _ e (Nat.le_refl _) hs,
    famE (g := 17) (by kernel_rfl) (fun k => .int .i64 (deepE k)) [e] fun k hk => by rw [List.mem_singleton.1 hk]; exact deepR_ok _ e (Nat.le_refl _) hs,
    famE (g := 18) (by kernel_rfl) (fun k => .bool (rightE k)) [e] fun k hk => by rw [List.mem_singleton.1 hk]; exact right_ok _ e (Nat.le_refl _) hok] rfl
  have q1 : ∀ H, acall Tryd.prog O H 16 [.agg e.cells] = some (.int .i64 (sizeE e), H) := p1 e (by show e ∈ [e]; simp)
  have q2 : ∀ H, acall Tryd.prog O H 17 [.agg e.cells] = some (.int .i64 (deepE e), H) := p2 e (by show e ∈ [e]; simp)
  have q3 : ∀ H, acall Tryd.prog O H 18 [.agg e.cells] = some (.bool (rightE e), H) := p3 e (by show e ∈ [e]; simp)
  clear p1 p2 p3
  unfold checkE
  generalize sizeE e = n at *
  generalize deepE e = d at *
  generalize rightE e = r at *
  obtain ⟨op, num, name, kids⟩ := e
  simp only [Ex.cells] at *
  refine fn_val follows noNum hO Tryd.func6 rfl ?_
  repeat' ((conv => whnf); first | (refine exI (q1 _) ?_) | (refine exI (q2 _) ?_) | (refine exI (q3 _) ?_) | (first | refine stp ?_ | with_reducible refine condB (fun h => ?_) (fun h => ?_)))
  all_goals (show AV.int _ _ = AV.int _ _; congr 1; clear q1 q2 q3 hO; simp only [decide_eq_true_eq, decide_eq_false_iff_not, Bool.not_eq_true', Bool.not_eq_false'] at *)
  all_goals (repeat' split)
  all_goals (first | rfl | omega | (simp_all; done) | (exfalso; simp_all; omega))
end Go.Proofs.YtcbjhdklbhlmhaaDoor.lex
end

/-
  The program's walk through expressions, whatever function it tells of each; what that function keeps in memory.
-/
section
set_option linter.unusedVariables false
set_option linter.unusedSimpArgs false
namespace Go.Proofs.YtcbjhdklbhlmhaaDoor.lex
open Go.Abs Go.RowKit
set_option maxRecDepth 100000
set_option maxHeartbeats 4000000

theorem FgLK.same {k : Nat} {t0 tm : Tr} {H : AHeap} {l : List (Nat × AV)} (h1 : subT t0 tm = true) (hs : SlotsGe (List.range k) tm l) (hH : HpGe H (List.range k) (List.range k) H 0 ∧ nodupN ((List.range k).map (famOf H)) = true ∧ pref k 0 (List.range k) = true) : FgLK k t0 tm H l H := by
  unfold FgLK
  rw [h1]
  exact ⟨List.range k, hH.2.2, hs, hH.1, hH.2.1⟩

/-- What is told of each expression, and what is kept. -/
structure TvE (gl : Glob) where
  σ : Type
  Mem : σ → AHeap
  k : Nat
  len : ∀ s, (Mem s).length = k
  same : ∀ s, HpGe (Mem s) (List.range k) (List.range k) (Mem s) 0 ∧ nodupN ((List.range k).map (famOf (Mem s))) = true ∧ pref k 0 (List.range k) = true
  evo : ∀ s s', evoB k (Mem s) (Mem s') = true
  inj : ∀ s s', Mem s = Mem s' → s = s'
  I : Int → σ → Nat → Prop
  up : ∀ d s m, 0 ≤ d → I (d + 1) s m → I d s m
  less : ∀ d s m, I d s (m + 1) → I d s m
  bnd : ∀ d s m, I d s m → 0 ≤ d ∧ d ≤ 1152921504606846976
  gE : Nat
  cE : List AV
  hE : Ex → Int → σ → Bool × σ
  bodyE : hasBody Tryd.prog gE = true
  wkE : WkL (List.range k) cE cE
  okE : ∀ e rest d s m, okE e → I d s (m + 1) → MemOK Tryd.prog gl gE ([.rp (e.cells ++ rest), .int .i64 d] ++ cE) (Mem s) (.bool (hE e d s).1) (Mem (hE e d s).2)
  downE : ∀ e d s m, I d s (m + 1) → (hE e d s).1 = true → I (d + 1) (hE e d s).2 m

section
variable {σ : Type}
mutual
def goE (h : Ex → Int → σ → Bool × σ) : Ex → Int → σ → Bool × σ
  | .mk o n s k, d, t => if (h (.mk o n s k) d t).1 = true then goL h k (d + 1) (h (.mk o n s k) d t).2 else (false, (h (.mk o n s k) d t).2)
def goL (h : Ex → Int → σ → Bool × σ) : List Ex → Int → σ → Bool × σ
  | [], d, t => (true, t)
  | e :: l, d, t => if (goE h e d t).1 = true then goL h l d (goE h e d t).2 else (false, (goE h e d t).2)
end
variable {h : Ex → Int → σ → Bool × σ}
theorem goE_eq (e : Ex) (d : Int) (t : σ) : goE h e d t = if (h e d t).1 = true then goL h e.kids (d + 1) (h e d t).2 else (false, (h e d t).2) := by
  obtain ⟨o, n, s, k⟩ := e
  simp only [goE, Ex.kids]
theorem goL_at : ∀ (l : List Ex) (d : Int) (t : σ) (i : Nat) (hi : i < l.length), (goL h (l.take i) d t).1 = true → goL h (l.take (i + 1)) d t = goE h l[i] d (goL h (l.take i) d t).2
  | e :: l, d, t, 0, _, _ => by
    simp only [List.take_zero, List.take_succ_cons, goL, List.getElem_cons_zero]
    split
    · rename_i h2; rw [← h2]
    · rename_i h2; rw [← Bool.eq_false_iff.2 h2]
  | e :: l, d, t, i + 1, hi, ht => by
    simp only [List.take_succ_cons, goL, List.getElem_cons_succ] at ht ⊢
    split
    · rename_i h2
      rw [if_pos h2] at ht
      exact goL_at l d _ i (by simpa using hi) ht
    · rename_i h2; rw [if_neg h2] at ht; cases ht
theorem goL_stop : ∀ (l : List Ex) (d : Int) (t : σ) (i : Nat), (goL h (l.take i) d t).1 = false → goL h l d t = goL h (l.take i) d t
  | [], d, t, i, hf => by simp
  | e :: l, d, t, 0, hf => by simp only [List.take_zero, goL] at hf; cases hf
  | e :: l, d, t, i + 1, hf => by
    simp only [List.take_succ_cons, goL] at hf ⊢
    split
    · rename_i h2
      rw [if_pos h2] at hf
      exact goL_stop l d _ i hf
    · rfl
end
section
variable {gl : Glob} (V : TvE gl)
def TvE.F : AV := .func (.func V.gE) [] V.cE
mutual
theorem TvE.keepE : ∀ (e : Ex) (d : Int) (s : V.σ) (m : Nat), V.I d s (sizeE e + m) → (goE V.hE e d s).1 = true → V.I d (goE V.hE e d s).2 m
  | .mk o n t k, d, s, m, hI, ht => by
    simp only [goE, sizeE] at hI ht ⊢
    split
    · rename_i h2
      rw [if_pos h2] at ht
      have h3 := V.downE _ d s (sizeL k + m) (by rw [show 1 + sizeL k + m = sizeL k + m + 1 from by omega] at hI; exact hI) h2
      exact V.up _ _ _ (V.bnd _ _ _ hI).1 (TvE.keepL k (d + 1) _ m h3 ht)
    · rename_i h2; rw [if_neg h2] at ht; cases ht
theorem TvE.keepL : ∀ (l : List Ex) (d : Int) (s : V.σ) (m : Nat), V.I d s (sizeL l + m) → (goL V.hE l d s).1 = true → V.I d (goL V.hE l d s).2 m
  | [], d, s, m, hI, ht => by simp only [goL, sizeL, Nat.zero_add] at hI ⊢; exact hI
  | e :: l, d, s, m, hI, ht => by
    simp only [goL, sizeL] at hI ht ⊢
    split
    · rename_i h2
      rw [if_pos h2] at ht
      exact TvE.keepL l d _ m (TvE.keepE e d s (sizeL l + m) (by rw [← Nat.add_assoc]; exact hI) h2) ht
    · rename_i h2; rw [if_neg h2] at ht; cases ht
end
theorem TvE.refsF : allLt V.k (refs (.bool true) []) = true := rfl
theorem kid_cell (e : Ex) (rest : List AV) : tk 1 ((e.cells ++ rest).drop 3) = some [exA e.kids] := by
  obtain ⟨o, n, s, k⟩ := e
  simp only [Ex.cells, exA, Ex.kids]; rfl
theorem TvE.fin (s t : V.σ) (b : Bool) : List.take V.k (V.Mem t) = V.Mem t ∧ (allLt V.k (refs (AV.bool b) []) && evoB V.k (V.Mem s) (V.Mem t)) = true :=
  ⟨List.take_of_length_le (by rw [V.len]; exact Nat.le_refl _), by rw [V.evo]; rfl⟩
theorem TvE.exprs (hf : Tryd.prog.follows .mixedOrders = true) : ∀ (n : Nat) (l : List Ex) (d : Int) (s : V.σ) (m : Nat), sizeL l ≤ n → okL l → l.length ≤ 9223372036854775807 → V.I d s (sizeL l + m) →
    MemOK Tryd.prog gl 33 [exA l, .int .i64 d, V.F] (V.Mem s) (.bool (goL V.hE l d s).1) (V.Mem (goL V.hE l d s).2)
  | n, l, d, s, m, hn, hok, hl, hI => by
    have hF : ∃ O, OrcSound Tryd.prog gl O ∧ (∀ (i : Nat) (hi : i < l.length) (t : V.σ) (q : Nat), n ≠ 0 → V.I (d + 1) t (sizeL l[i].kids + q) → acall Tryd.prog O (V.Mem t) 33 [exA l[i].kids, .int .i64 (d + 1), V.F] = some (.bool (goL V.hE l[i].kids (d + 1) t).1, V.Mem (goL V.hE l[i].kids (d + 1) t).2)) ∧
        (∀ (i : Nat) (hi : i < l.length) (t : V.σ) (q : Nat), V.I d t (q + 1) → acall Tryd.prog O (V.Mem t) V.gE ([.rp ((exC l).drop (i * 4)), .int .i64 d] ++ V.cE) = some (.bool (V.hE l[i] d t).1, V.Mem (V.hE l[i] d t).2)) := by
      have s1 := orcI_sound (P := Tryd.prog) (gl := gl) (I := Nat × V.σ × Nat) (G := fun p => ∃ hp : p.1 < l.length, n ≠ 0 ∧ V.I (d + 1) p.2.1 (sizeL l[p.1].kids + p.2.2)) (fF := fun _ => 33) (fA := fun p => [exA (l.getD p.1 default).kids, .int .i64 (d + 1), V.F]) (fH := fun p => V.Mem p.2.1) (fR := fun p => .bool (goL V.hE (l.getD p.1 default).kids (d + 1) p.2.1).1) (fO := fun p => V.Mem (goL V.hE (l.getD p.1 default).kids (d + 1) p.2.1).2) fun p hp => by
        obtain ⟨hp, h0, h1⟩ := hp
        have hg : l.getD p.1 default = l[p.1] := by simp [List.getD_eq_getElem?_getD, hp]
        rw [hg]
        have hke := okL_get hok _ (get_mem hp)
        have hsz := sizeL_mem _ _ (get_mem hp)
        have hsk := sizeE_kids l[p.1]
        match n, hn, h0 with
        | n + 1, hn, _ => exact TvE.exprs hf n _ (d + 1) p.2.1 p.2.2 (by omega) (okE_kids hke).2 (okE_kids hke).1.2 h1
      have s2 := orcI_sound (P := Tryd.prog) (gl := gl) (I := Nat × V.σ × Nat) (G := fun p => p.1 < l.length ∧ V.I d p.2.1 (p.2.2 + 1)) (fF := fun _ => V.gE) (fA := fun p => [.rp ((exC l).drop (p.1 * 4)), .int .i64 d] ++ V.cE) (fH := fun p => V.Mem p.2.1) (fR := fun p => .bool (V.hE (l.getD p.1 default) d p.2.1).1) (fO := fun p => V.Mem (V.hE (l.getD p.1 default) d p.2.1).2) fun p hp => by
        obtain ⟨hp, h1⟩ := hp
        have hg : l.getD p.1 default = l[p.1] := by simp [List.getD_eq_getElem?_getD, hp]
        have hke := okL_get hok _ (get_mem hp)
        simp only [hg]
        rw [exC_at l p.1 hp]
        exact V.okE _ _ _ _ _ hke h1
      refine ⟨_, orcOr_sound s1 s2, fun i hi t q h0 h1 => ?_, fun i hi t q h1 => ?_⟩
      · have hg : l.getD i default = l[i] := by simp [List.getD_eq_getElem?_getD, hi]
        have := callI (P := Tryd.prog) (I := Nat × V.σ × Nat) (G := fun p => ∃ hp : p.1 < l.length, n ≠ 0 ∧ V.I (d + 1) p.2.1 (sizeL l[p.1].kids + p.2.2)) (fF := fun _ => 33) (fA := fun p => [exA (l.getD p.1 default).kids, .int .i64 (d + 1), V.F]) (fH := fun p => V.Mem p.2.1) (fR := fun p => .bool (goL V.hE (l.getD p.1 default).kids (d + 1) p.2.1).1) (fO := fun p => V.Mem (goL V.hE (l.getD p.1 default).kids (d + 1) p.2.1).2)
          (fun p q _ _ _ ha hh => by
            have e2 := V.inj _ _ hh
            simp only [List.cons.injEq, and_true, true_and] at ha
            rw [exA_inj ha, e2]; exact ⟨rfl, rfl⟩) (g := 33) (args := [exA l[i].kids, .int .i64 (d + 1), V.F]) (H := V.Mem t) (by kernel_rfl) (i, t, q) ⟨hi, h0, h1⟩ rfl (by rw [hg]) rfl
        simp only [hg] at this
        exact callOr1 (by kernel_rfl) this
      · have hg : l.getD i default = l[i] := by simp [List.getD_eq_getElem?_getD, hi]
        refine callOr2 V.bodyE (orcI_none fun p _ _ ha => ?_) ?_
        · have := congrArg (fun a => a.head?) ha
          simp [exA] at this
        · have := callI (P := Tryd.prog) (I := Nat × V.σ × Nat) (G := fun p => p.1 < l.length ∧ V.I d p.2.1 (p.2.2 + 1)) (fF := fun _ => V.gE) (fA := fun p => [.rp ((exC l).drop (p.1 * 4)), .int .i64 d] ++ V.cE) (fH := fun p => V.Mem p.2.1) (fR := fun p => .bool (V.hE (l.getD p.1 default) d p.2.1).1) (fO := fun p => V.Mem (V.hE (l.getD p.1 default) d p.2.1).2)
            (fun p q hp hq _ ha hh => by
              have e2 := V.inj _ _ hh
              simp only [List.cons_append, List.nil_append, List.cons.injEq, AV.rp.injEq, true_and, and_true] at ha
              have := congrArg List.length ha
              simp only [List.length_drop, exC_len] at this
              have e : p.1 = q.1 := by have := hp.1; have := hq.1; omega
              rw [e, e2]; exact ⟨rfl, rfl⟩) (g := V.gE) (args := [.rp ((exC l).drop (i * 4)), .int .i64 d] ++ V.cE) (H := V.Mem t) V.bodyE (i, t, q) ⟨hi, h1⟩ rfl rfl rfl
          simp only [hg] at this
          exact this
    obtain ⟨O, hO, q2, q1⟩ := hF
    have hbd := V.bnd _ _ _ hI
    have w1 : IntKind.i64.wrap (d + 1) = d + 1 := wrapB (by omega) (by omega)
    simp only [exA, TvE.F] at q2 ⊢
    refine fn_mem (k := V.k) follows noNum hO (V.len s) Tryd.func33 rfl (cw0_ok _ _) ?_
    repeat' ((conv => whnf); first | (rw [frcHW_eq]) | (first | refine stp ?_ | with_reducible refine condB (fun h => ?_) (fun h => ?_)))
    conv => whnf
    refine ⟨Nat, (fun i => i ≤ l.length ∧ (goL V.hE (l.take i) d s).1 = true), (fun i => [(0, .rs l.length 4 (exC l)), (1, .int .i64 d), (2, .func (.func V.gE) [] V.cE), (9, .int .i64 l.length), (10, .int .i64 i)]), (fun i => V.Mem (goL V.hE (l.take i) d s).2), (fun i => l.length - i), ⟨0, ⟨Nat.zero_le _, by simp only [List.take_zero, goL]⟩, ?_⟩, ?_⟩
    · simp only [List.take_zero, goL]
      refine FgLK.same rfl ?_ (V.same _)
      refine And.intro (Wk.noref rfl) ?_
      refine And.intro (Wk.noref rfl) ?_
      refine And.intro (Wk.func trivial V.wkE) ?_
      refine And.intro (Wk.int rfl) ?_
      exact ⟨Wk.int rfl, trivial⟩
    rintro i ⟨hi, hall⟩
    dsimp only
    conv => whnf
    rw [frcHW_eq]
    by_cases hlt : i < l.length
    · have e1 : decide ((i : Int) < (l.length : Int)) = true := by simpa using hlt
      have hat := goL_at (h := V.hE) l d s i hlt hall
      have hI2 : V.I d (goL V.hE (l.take i) d s).2 (sizeL (l.drop i) + m) := V.keepL (l.take i) d s (sizeL (l.drop i) + m) (by
        have := sizeL_get l i hlt
        have e : sizeL (l.drop i) = sizeE l[i] + sizeL (l.drop (i + 1)) := by rw [List.drop_eq_getElem_cons hlt]; simp only [sizeL]
        have e2 : sizeL (l.take i) + (sizeL (l.drop i) + m) = sizeL l + m := by omega
        rw [e2]; exact hI) hall
      generalize (goL V.hE (l.take i) d s).2 = t at *
      have esz : sizeL (l.drop i) + m = (sizeL l[i].kids + (sizeL (l.drop (i + 1)) + m)) + 1 := by
        rw [List.drop_eq_getElem_cons hlt]; simp only [sizeL]; have := sizeE_kids l[i]; omega
      rw [esz] at hI2
      have q1' := q1 i hlt t _ hI2
      have hd2 := V.downE l[i] d t _ hI2
      have hx3 : tk 1 (((exC l).drop (i * 4)).drop 3) = some [exA l[i].kids] := by rw [exC_at l i hlt]; exact kid_cell _ _
      have hn0 : n ≠ 0 := by have := sizeL_mem _ _ (get_mem hlt); have := sizeE_pos l[i]; omega
      have q2' := fun t q => q2 i hlt t q hn0
      rw [goE_eq] at hat
      have hst := goL_stop (h := V.hE) l d s (i + 1)
      generalize l[i] = e at *
      generalize hr : V.hE e d t = r at *
      obtain ⟨b, t1⟩ := r
      dsimp only at *
      cases b with
      | false =>
        simp only [Bool.false_eq_true, if_false] at hat
        rw [hat] at hst
        rw [hst rfl]
        clear q2 q2' hx3
        repeat' ((conv => whnf); first | (refine exI q1' ?_) | (rw [frcHW_eq]) | (with_reducible refine ixJ i rfl ?_ ?_; (focus (omega))) | (first | refine stp ?_ | with_reducible refine condB (fun h => ?_) (fun h => ?_)))
        all_goals (conv => whnf)
        all_goals (exact V.fin s t1 false)
      | true =>
        simp only [if_true] at hat
        have q2'' := q2' t1 _ (hd2 rfl)
        generalize hg : goL V.hE e.kids (d + 1) t1 = g at *
        obtain ⟨b2, t2⟩ := g
        dsimp only at *
        simp only [exA] at hx3 q2''
        cases b2 with
        | true =>
          repeat' ((conv => whnf); first | (refine exI q1' ?_) | (refine exI q2'' ?_) | (refine exI hx3 ?_) | (rw [frcHW_eq]) | (with_reducible refine exW w1 ?_) | (with_reducible refine ixJ i rfl ?_ ?_; (focus (omega))) | (first | refine stp ?_ | with_reducible refine condB (fun h => ?_) (fun h => ?_)))
          all_goals (conv => whnf)
          refine ⟨i + 1, ⟨hlt, by rw [hat]⟩, by show l.length - (i + 1) < l.length - i; omega, ?_⟩
          rw [hat]
          refine FgLK.same rfl ?_ (V.same _)
          refine And.intro (Wk.noref rfl) ?_
          refine And.intro (Wk.noref rfl) ?_
          refine And.intro (Wk.func trivial V.wkE) ?_
          refine And.intro (Wk.int rfl) ?_
          exact ⟨Wk.int rfl, trivial⟩
        | false =>
          rw [hat] at hst
          rw [hst rfl]
          repeat' ((conv => whnf); first | (refine exI q1' ?_) | (refine exI q2'' ?_) | (refine exI hx3 ?_) | (rw [frcHW_eq]) | (with_reducible refine exW w1 ?_) | (with_reducible refine ixJ i rfl ?_ ?_; (focus (omega))) | (first | refine stp ?_ | with_reducible refine condB (fun h => ?_) (fun h => ?_)))
          all_goals (conv => whnf)
          all_goals (exact V.fin s t2 false)
    · have e1 : decide ((i : Int) < (l.length : Int)) = false := by simpa using hlt
      have hi2 : i = l.length := by have := hi; omega
      subst hi2
      rw [List.take_length] at hall ⊢
      rw [hall]
      generalize (goL V.hE l d s).2 = t at *
      repeat' ((conv => whnf); first | (rw [frcHW_eq]) | (first | refine stp ?_ | with_reducible refine condB (fun h => ?_) (fun h => ?_)))
      all_goals (conv => whnf)
      all_goals (exact V.fin s t true)
end
end Go.Proofs.YtcbjhdklbhlmhaaDoor.lex
end

/-
  Statements as the interpreter knows them; how great they are, how deep.
-/
section
set_option linter.unusedVariables false
set_option linter.unusedSimpArgs false
namespace Go.Proofs.YtcbjhdklbhlmhaaDoor.lex
open Go.Abs Go.RowKit
set_option maxRecDepth 100000
set_option maxHeartbeats 4000000

inductive St where
  | mk (kind : Int) (name loc : List UInt8) (order : Int) (exprs : List Ex) (thn els : List St)
instance : Inhabited St := ⟨.mk 0 [] [] 0 [] [] []⟩
def St.kind : St → Int
  | .mk k _ _ _ _ _ _ => k
def St.name : St → List UInt8
  | .mk _ n _ _ _ _ _ => n
def St.loc : St → List UInt8
  | .mk _ _ l _ _ _ _ => l
def St.order : St → Int
  | .mk _ _ _ o _ _ _ => o
def St.exprs : St → List Ex
  | .mk _ _ _ _ x _ _ => x
def St.thn : St → List St
  | .mk _ _ _ _ _ t _ => t
def St.els : St → List St
  | .mk _ _ _ _ _ _ e => e
mutual
def St.cells : St → List AV
  | .mk k n l o x t e => [.int .i64 k, .str n, .str l, .int .i64 o, exA x, .rs t.length 7 (stC t), .rs e.length 7 (stC e)]
def stC : List St → List AV
  | [] => []
  | s :: l => s.cells ++ stC l
end
def stA (l : List St) : AV := .rs l.length 7 (stC l)
mutual
def sizeS : St → Nat
  | .mk _ _ _ _ x t e => 1 + sizeL x + sizeSL t + sizeSL e
def sizeSL : List St → Nat
  | [] => 0
  | s :: l => sizeS s + sizeSL l
end
mutual
def deepS : St → Nat
  | .mk _ _ _ _ x t e => max (max (deepSL t) (deepSL e)) (deepL x) + 1
def deepSL : List St → Nat
  | [] => 0
  | s :: l => max (deepS s) (deepSL l)
end
mutual
def okS : St → Prop
  | .mk _ n l _ x t e => okN n x.length ∧ okN l t.length ∧ e.length ≤ 9223372036854775807 ∧ okL x ∧ okSL t ∧ okSL e
def okSL : List St → Prop
  | [] => True
  | s :: l => okS s ∧ okSL l
end
theorem okSL_get : ∀ {l : List St}, okSL l → ∀ s ∈ l, okS s
  | x :: l, h, e, he => by
    simp only [okSL] at h
    rcases List.mem_cons.1 he with rfl | he
    · exact h.1
    · exact okSL_get h.2 e he
theorem okS_parts : ∀ {s : St}, okS s → s.name.length ≤ 9223372036854775807 ∧ s.loc.length ≤ 9223372036854775807 ∧ s.exprs.length ≤ 9223372036854775807 ∧ s.thn.length ≤ 9223372036854775807 ∧ s.els.length ≤ 9223372036854775807 ∧ okL s.exprs ∧ okSL s.thn ∧ okSL s.els
  | .mk _ _ _ _ _ _ _, h => by
    simp only [okS, okN] at h
    simp only [St.name, St.loc, St.exprs, St.thn, St.els]
    exact ⟨h.1.1, h.2.1.1, h.1.2, h.2.1.2, h.2.2.1, h.2.2.2⟩
theorem scells_len : ∀ s : St, s.cells.length = 7
  | .mk _ _ _ _ _ _ _ => by simp only [St.cells]; rfl
theorem stC_len : ∀ l : List St, (stC l).length = l.length * 7
  | [] => by simp only [stC]; rfl
  | s :: l => by simp only [stC, List.length_append, scells_len, stC_len l, List.length_cons]; omega
theorem stC_app : ∀ a b : List St, stC (a ++ b) = stC a ++ stC b
  | [], b => by simp only [stC, List.nil_append]
  | e :: a, b => by simp only [stC, List.cons_append, stC_app a b, List.append_assoc]
theorem stC_drop (s : St) (l : List St) (i : Nat) : (stC (s :: l)).drop ((i + 1) * 7) = (stC l).drop (i * 7) := by
  have h : (i + 1) * 7 = 7 + i * 7 := by omega
  rw [h, ← List.drop_drop, stC, List.drop_left' (scells_len s)]
theorem stC_at : ∀ (l : List St) (i : Nat) (h : i < l.length), (stC l).drop (i * 7) = l[i].cells ++ stC (l.drop (i + 1))
  | s :: l, 0, h => by simp only [Nat.zero_mul, List.drop_zero, stC, List.getElem_cons_zero, List.drop_succ_cons]
  | s :: l, i + 1, h => by rw [stC_drop, stC_at l i (by simpa using h)]; simp only [List.getElem_cons_succ, List.drop_succ_cons]
theorem st7 (l : List St) (i : Nat) (h : i < l.length) : tk 7 ((stC l).drop (i * 7)) = some l[i].cells := by
  rw [stC_at l i h]
  have := tk_app l[i].cells (stC (l.drop (i + 1)))
  rwa [scells_len] at this
mutual
theorem scells_inj : ∀ (a b : St), a.cells = b.cells → a = b
  | .mk k n l o x t e, .mk k' n' l' o' x' t' e', h => by
    simp only [St.cells, List.cons.injEq, AV.int.injEq, AV.str.injEq, AV.rs.injEq, true_and, and_true] at h
    obtain ⟨rfl, rfl, rfl, rfl, hx, ht, he⟩ := h
    rw [exA_inj hx, stC_inj t t' ht.2 ht.1, stC_inj e e' he.2 he.1]
theorem stC_inj : ∀ (a b : List St), stC a = stC b → a.length = b.length → a = b
  | [], [], _, _ => rfl
  | x :: a, y :: b, h, hl => by
    simp only [stC] at h
    have h' := List.append_inj h (by rw [scells_len, scells_len])
    rw [scells_inj x y h'.1, stC_inj a b h'.2 (by simpa using hl)]
  | [], _ :: _, _, hl => by simp at hl
  | _ :: _, [], _, hl => by simp at hl
end
theorem stA_inj {a b : List St} (h : stA a = stA b) : a = b := by
  simp only [stA, AV.rs.injEq, true_and] at h
  exact stC_inj _ _ h.2 h.1
theorem sizeS_pos : ∀ s : St, 0 < sizeS s
  | .mk _ _ _ _ _ _ _ => by simp only [sizeS]; omega
theorem sizeS_eq : ∀ s : St, sizeS s = 1 + sizeL s.exprs + sizeSL s.thn + sizeSL s.els
  | .mk _ _ _ _ _ _ _ => by simp only [sizeS, St.exprs, St.thn, St.els]
theorem deepS_eq : ∀ s : St, deepS s = max (max (deepSL s.thn) (deepSL s.els)) (deepL s.exprs) + 1
  | .mk _ _ _ _ _ _ _ => by simp only [deepS, St.exprs, St.thn, St.els]
theorem sizeSL_get : ∀ (l : List St) (i : Nat) (h : i < l.length), sizeSL l = sizeSL (l.take i) + sizeS l[i] + sizeSL (l.drop (i + 1))
  | s :: l, 0, h => by simp only [List.take_zero, sizeSL, List.getElem_cons_zero, List.drop_succ_cons, List.drop_zero]; omega
  | s :: l, i + 1, h => by
    have := sizeSL_get l i (by simpa using h)
    simp only [List.take_succ_cons, sizeSL, List.getElem_cons_succ, List.drop_succ_cons]; omega
theorem sizeSL_take : ∀ (l : List St) (i : Nat) (h : i < l.length), sizeSL (l.take (i + 1)) = sizeSL (l.take i) + sizeS l[i]
  | s :: l, 0, h => by simp only [List.take_succ_cons, List.take_zero, sizeSL, List.getElem_cons_zero]; omega
  | s :: l, i + 1, h => by
    have := sizeSL_take l i (by simpa using h)
    simp only [List.take_succ_cons, sizeSL, List.getElem_cons_succ] at this ⊢; omega
theorem sizeSL_len : ∀ l : List St, l.length ≤ sizeSL l
  | [] => Nat.zero_le _
  | s :: l => by have := sizeSL_len l; have := sizeS_pos s; simp only [sizeSL, List.length_cons]; omega
theorem sizeSL_mem : ∀ (l : List St) (s : St), s ∈ l → sizeS s ≤ sizeSL l
  | e :: l, f, h => by
    simp only [sizeSL]
    rcases List.mem_cons.1 h with rfl | h
    · omega
    · have := sizeSL_mem l f h; omega
theorem deepSL_take : ∀ (l : List St) (i : Nat) (h : i < l.length), deepSL (l.take (i + 1)) = max (deepSL (l.take i)) (deepS l[i])
  | e :: l, 0, h => by simp only [List.take_succ_cons, List.take_zero, deepSL, List.getElem_cons_zero]; omega
  | e :: l, i + 1, h => by
    have := deepSL_take l i (by simpa using h)
    simp only [List.take_succ_cons, deepSL, List.getElem_cons_succ] at this ⊢; omega
mutual
theorem deepS_size : ∀ s : St, deepS s ≤ sizeS s
  | .mk _ _ _ _ x t e => by have := deepSL_size t; have := deepSL_size e; have := deepL_size x; simp only [deepS, sizeS]; omega
theorem deepSL_size : ∀ l : List St, deepSL l ≤ sizeSL l
  | [] => Nat.le_refl _
  | s :: l => by have := deepS_size s; have := deepSL_size l; simp only [deepSL, sizeSL]; omega
end
theorem deepSL_le : ∀ (l : List St) (i : Nat), deepSL (l.take i) ≤ deepSL l
  | [], i => by simp [deepSL]
  | e :: l, 0 => by simp [deepSL]
  | e :: l, i + 1 => by have := deepSL_le l i; simp only [List.take_succ_cons, deepSL]; omega
theorem deepSL_mem : ∀ (l : List St) (s : St), s ∈ l → deepS s ≤ deepSL l
  | e :: l, f, h => by
    simp only [deepSL]
    rcases List.mem_cons.1 h with rfl | h
    · omega
    · have := deepSL_mem l f h; omega
theorem cell_x (s : St) (rest : List AV) : tk 1 ((s.cells ++ rest).drop 4) = some [exA s.exprs] := by
  obtain ⟨k, n, l, o, x, t, e⟩ := s
  simp only [St.cells, exA, St.exprs]; rfl
theorem cell_t (s : St) (rest : List AV) : tk 1 ((s.cells ++ rest).drop 5) = some [stA s.thn] := by
  obtain ⟨k, n, l, o, x, t, e⟩ := s
  simp only [St.cells, stA, St.thn]; rfl
theorem cell_e (s : St) (rest : List AV) : tk 1 ((s.cells ++ rest).drop 6) = some [stA s.els] := by
  obtain ⟨k, n, l, o, x, t, e⟩ := s
  simp only [St.cells, stA, St.els]; rfl
theorem cell_n (s : St) (rest : List AV) : tk 1 ((s.cells ++ rest).drop 1) = some [.str s.name] := by
  obtain ⟨k, n, l, o, x, t, e⟩ := s
  simp only [St.cells, St.name]; rfl
theorem cell_k (s : St) (rest : List AV) : tk 1 ((s.cells ++ rest).drop 0) = some [.int .i64 s.kind] := by
  obtain ⟨k, n, l, o, x, t, e⟩ := s
  simp only [St.cells, St.kind]; rfl
end Go.Proofs.YtcbjhdklbhlmhaaDoor.lex
end

/-
  The program's walk through statements, whatever functions it tells of each and of each expression; what these keep in memory.
-/
section
set_option linter.unusedVariables false
set_option linter.unusedSimpArgs false
namespace Go.Proofs.YtcbjhdklbhlmhaaDoor.lex
open Go.Abs Go.RowKit
set_option maxRecDepth 100000
set_option maxHeartbeats 4000000

structure TvS (gl : Glob) extends TvE gl where
  gS : Nat
  cS : List AV
  hS : St → Int → σ → Bool × σ
  bodyS : hasBody Tryd.prog gS = true
  wkS : WkL (List.range k) cS cS
  okS : ∀ x rest d s m, lex.okS x → I d s (m + 1) → MemOK Tryd.prog gl gS ([.rp (x.cells ++ rest), .int .i64 d] ++ cS) (Mem s) (.bool (hS x d s).1) (Mem (hS x d s).2)
  downS : ∀ x d s m, I d s (m + 1) → (hS x d s).1 = true → I (d + 1) (hS x d s).2 m

section
variable {σ : Type}
/-- One, and if that says so, the next. -/
def thenB (r : Bool × σ) (f : σ → Bool × σ) : Bool × σ := if r.1 = true then f r.2 else (false, r.2)
mutual
def goS (hE : Ex → Int → σ → Bool × σ) (hS : St → Int → σ → Bool × σ) : St → Int → σ → Bool × σ
  | .mk k n l o x t e, d, s => thenB (hS (.mk k n l o x t e) d s) fun s1 => thenB (goL hE x (d + 1) s1) fun s2 => thenB (goSL hE hS t (d + 1) s2) fun s3 => goSL hE hS e (d + 1) s3
def goSL (hE : Ex → Int → σ → Bool × σ) (hS : St → Int → σ → Bool × σ) : List St → Int → σ → Bool × σ
  | [], d, s => (true, s)
  | x :: l, d, s => thenB (goS hE hS x d s) fun s1 => goSL hE hS l d s1
end
variable {hE : Ex → Int → σ → Bool × σ} {hS : St → Int → σ → Bool × σ}
theorem goS_eq (x : St) (d : Int) (s : σ) : goS hE hS x d s = thenB (hS x d s) fun s1 => thenB (goL hE x.exprs (d + 1) s1) fun s2 => thenB (goSL hE hS x.thn (d + 1) s2) fun s3 => goSL hE hS x.els (d + 1) s3 := by
  obtain ⟨k, n, l, o, x, t, e⟩ := x
  simp only [goS, St.exprs, St.thn, St.els]
theorem goSL_at : ∀ (l : List St) (d : Int) (t : σ) (i : Nat) (hi : i < l.length), (goSL hE hS (l.take i) d t).1 = true → goSL hE hS (l.take (i + 1)) d t = goS hE hS l[i] d (goSL hE hS (l.take i) d t).2
  | e :: l, d, t, 0, _, _ => by
    simp only [List.take_zero, List.take_succ_cons, goSL, List.getElem_cons_zero, thenB]
    split
    · rename_i h2; rw [← h2]
    · rename_i h2; rw [← Bool.eq_false_iff.2 h2]
  | e :: l, d, t, i + 1, hi, ht => by
    simp only [List.take_succ_cons, goSL, List.getElem_cons_succ, thenB] at ht ⊢
    split
    · rename_i h2
      rw [if_pos h2] at ht
      exact goSL_at l d _ i (by simpa using hi) ht
    · rename_i h2; rw [if_neg h2] at ht; cases ht
theorem goSL_stop : ∀ (l : List St) (d : Int) (t : σ) (i : Nat), (goSL hE hS (l.take i) d t).1 = false → goSL hE hS l d t = goSL hE hS (l.take i) d t
  | [], d, t, i, hf => by simp
  | e :: l, d, t, 0, hf => by simp only [List.take_zero, goSL] at hf; cases hf
  | e :: l, d, t, i + 1, hf => by
    simp only [List.take_succ_cons, goSL, thenB] at hf ⊢
    split
    · rename_i h2
      rw [if_pos h2] at hf
      exact goSL_stop l d _ i hf
    · rfl
theorem thenB_true {r : Bool × σ} {f : σ → Bool × σ} (h : (thenB r f).1 = true) : r.1 = true ∧ thenB r f = f r.2 := by
  unfold thenB at h ⊢
  split at h
  · rename_i h2; exact ⟨h2, by rw [if_pos h2]⟩
  · cases h
end
section
variable {gl : Glob} (V : TvS gl)
def TvS.G : AV := .func (.func V.gS) [] V.cS
mutual
theorem TvS.keepS : ∀ (x : St) (d : Int) (s : V.σ) (m : Nat), V.I d s (sizeS x + m) → (goS V.hE V.hS x d s).1 = true → V.I d (goS V.hE V.hS x d s).2 m
  | .mk k n l o x t e, d, s, m, hI, ht => by
    simp only [goS, sizeS] at hI ht ⊢
    obtain ⟨h1, e1⟩ := thenB_true ht
    rw [e1] at ht ⊢
    obtain ⟨h2, e2⟩ := thenB_true ht
    rw [e2] at ht ⊢
    obtain ⟨h3, e3⟩ := thenB_true ht
    rw [e3] at ht ⊢
    have i1 := V.downS _ d s (sizeL x + (sizeSL t + (sizeSL e + m))) (by rw [show 1 + sizeL x + sizeSL t + sizeSL e + m = sizeL x + (sizeSL t + (sizeSL e + m)) + 1 from by omega] at hI; exact hI) h1
    have i2 := V.toTvE.keepL x (d + 1) _ _ i1 h2
    have i3 := TvS.keepSL t (d + 1) _ _ i2 h3
    exact V.up _ _ _ (V.bnd _ _ _ hI).1 (TvS.keepSL e (d + 1) _ m i3 ht)
theorem TvS.keepSL : ∀ (l : List St) (d : Int) (s : V.σ) (m : Nat), V.I d s (sizeSL l + m) → (goSL V.hE V.hS l d s).1 = true → V.I d (goSL V.hE V.hS l d s).2 m
  | [], d, s, m, hI, ht => by simp only [goSL, sizeSL, Nat.zero_add] at hI ⊢; exact hI
  | x :: l, d, s, m, hI, ht => by
    simp only [goSL, sizeSL] at hI ht ⊢
    obtain ⟨h1, e1⟩ := thenB_true ht
    rw [e1] at ht ⊢
    exact TvS.keepSL l d _ m (TvS.keepS x d s (sizeSL l + m) (by rw [← Nat.add_assoc]; exact hI) h1) ht
end
theorem TvS.stmts : ∀ (n : Nat) (l : List St) (d : Int) (s : V.σ) (m : Nat), sizeSL l ≤ n → okSL l → l.length ≤ 9223372036854775807 → V.I d s (sizeSL l + m) →
    MemOK Tryd.prog gl 39 [stA l, .int .i64 d, V.toTvE.F, V.G] (V.Mem s) (.bool (goSL V.hE V.hS l d s).1) (V.Mem (goSL V.hE V.hS l d s).2)
  | n, l, d, s, m, hn, hok, hl, hI => by
    have hF : ∃ O, OrcSound Tryd.prog gl O ∧
        (∀ (x : List St) (t : V.σ) (q : Nat), sizeSL x < n → okSL x → x.length ≤ 9223372036854775807 → V.I (d + 1) t (sizeSL x + q) → acall Tryd.prog O (V.Mem t) 39 [stA x, .int .i64 (d + 1), V.toTvE.F, V.G] = some (.bool (goSL V.hE V.hS x (d + 1) t).1, V.Mem (goSL V.hE V.hS x (d + 1) t).2)) ∧
        (∀ (x : List Ex) (t : V.σ) (q : Nat), okL x → x.length ≤ 9223372036854775807 → V.I (d + 1) t (sizeL x + q) → acall Tryd.prog O (V.Mem t) 33 [exA x, .int .i64 (d + 1), V.toTvE.F] = some (.bool (goL V.hE x (d + 1) t).1, V.Mem (goL V.hE x (d + 1) t).2)) ∧
        (∀ (i : Nat) (hi : i < l.length) (t : V.σ) (q : Nat), V.I d t (q + 1) → acall Tryd.prog O (V.Mem t) V.gS ([.rp ((stC l).drop (i * 7)), .int .i64 d] ++ V.cS) = some (.bool (V.hS l[i] d t).1, V.Mem (V.hS l[i] d t).2)) := by
      have s1 := orcI_sound (P := Tryd.prog) (gl := gl) (I := List St × V.σ × Nat) (G := fun p => sizeSL p.1 < n ∧ okSL p.1 ∧ p.1.length ≤ 9223372036854775807 ∧ V.I (d + 1) p.2.1 (sizeSL p.1 + p.2.2)) (fF := fun _ => 39) (fA := fun p => [stA p.1, .int .i64 (d + 1), V.toTvE.F, V.G]) (fH := fun p => V.Mem p.2.1) (fR := fun p => .bool (goSL V.hE V.hS p.1 (d + 1) p.2.1).1) (fO := fun p => V.Mem (goSL V.hE V.hS p.1 (d + 1) p.2.1).2) fun p hp => by
        obtain ⟨h0, h1, h2, h3⟩ := hp
        match n, hn, h0 with
        | n + 1, hn, h0 => exact TvS.stmts n _ (d + 1) p.2.1 p.2.2 (by omega) h1 h2 h3
      have s2 := orcI_sound (P := Tryd.prog) (gl := gl) (I := List Ex × V.σ × Nat) (G := fun p => okL p.1 ∧ p.1.length ≤ 9223372036854775807 ∧ V.I (d + 1) p.2.1 (sizeL p.1 + p.2.2)) (fF := fun _ => 33) (fA := fun p => [exA p.1, .int .i64 (d + 1), V.toTvE.F]) (fH := fun p => V.Mem p.2.1) (fR := fun p => .bool (goL V.hE p.1 (d + 1) p.2.1).1) (fO := fun p => V.Mem (goL V.hE p.1 (d + 1) p.2.1).2) fun p hp =>
        V.toTvE.exprs follows _ p.1 (d + 1) p.2.1 p.2.2 (Nat.le_refl _) hp.1 hp.2.1 hp.2.2
      have s3 := orcI_sound (P := Tryd.prog) (gl := gl) (I := Nat × V.σ × Nat) (G := fun p => p.1 < l.length ∧ V.I d p.2.1 (p.2.2 + 1)) (fF := fun _ => V.gS) (fA := fun p => [.rp ((stC l).drop (p.1 * 7)), .int .i64 d] ++ V.cS) (fH := fun p => V.Mem p.2.1) (fR := fun p => .bool (V.hS (l.getD p.1 default) d p.2.1).1) (fO := fun p => V.Mem (V.hS (l.getD p.1 default) d p.2.1).2) fun p hp => by
        obtain ⟨hp, h1⟩ := hp
        have hg : l.getD p.1 default = l[p.1] := by simp [List.getD_eq_getElem?_getD, hp]
        have hke := okSL_get hok _ (get_mem hp)
        simp only [hg]
        rw [stC_at l p.1 hp]
        exact V.okS _ _ _ _ _ hke h1
      refine ⟨_, orcOr_sound s1 (orcOr_sound s2 s3), fun x t q h0 h1 h2 h3 => ?_, fun x t q h0 h1 h2 => ?_, fun i hi t q h1 => ?_⟩
      · exact callOr1 (by kernel_rfl) (callI (P := Tryd.prog) (fun p q _ _ _ ha hh => by
            have e2 := V.inj _ _ hh
            simp only [List.cons.injEq, and_true, true_and] at ha
            rw [stA_inj ha, e2]; exact ⟨rfl, rfl⟩) (by kernel_rfl) (x, t, q) ⟨h0, h1, h2, h3⟩ rfl rfl rfl)
      · refine callOr2 (by kernel_rfl) (orcI_none fun p _ e _ => absurd e (by decide)) ?_
        exact callOr1 (by kernel_rfl) (callI (P := Tryd.prog) (fun p q _ _ _ ha hh => by
            have e2 := V.inj _ _ hh
            simp only [List.cons.injEq, and_true, true_and] at ha
            rw [exA_inj ha, e2]; exact ⟨rfl, rfl⟩) (by kernel_rfl) (x, t, q) ⟨h0, h1, h2⟩ rfl rfl rfl)
      · have hg : l.getD i default = l[i] := by simp [List.getD_eq_getElem?_getD, hi]
        refine callOr2 V.bodyS (orcI_none fun p _ _ ha => ?_) ?_
        · have := congrArg (fun a => a.head?) ha
          simp [stA] at this
        refine callOr2 V.bodyS (orcI_none fun p _ _ ha => ?_) ?_
        · have := congrArg (fun a => a.head?) ha
          simp [exA] at this
        · have := callI (P := Tryd.prog) (I := Nat × V.σ × Nat) (G := fun p => p.1 < l.length ∧ V.I d p.2.1 (p.2.2 + 1)) (fF := fun _ => V.gS) (fA := fun p => [.rp ((stC l).drop (p.1 * 7)), .int .i64 d] ++ V.cS) (fH := fun p => V.Mem p.2.1) (fR := fun p => .bool (V.hS (l.getD p.1 default) d p.2.1).1) (fO := fun p => V.Mem (V.hS (l.getD p.1 default) d p.2.1).2)
            (fun p q hp hq _ ha hh => by
              have e2 := V.inj _ _ hh
              simp only [List.cons_append, List.nil_append, List.cons.injEq, AV.rp.injEq, true_and, and_true] at ha
              have := congrArg List.length ha
              simp only [List.length_drop, stC_len] at this
              have e : p.1 = q.1 := by have := hp.1; have := hq.1; omega
              rw [e, e2]; exact ⟨rfl, rfl⟩) (g := V.gS) (args := [.rp ((stC l).drop (i * 7)), .int .i64 d] ++ V.cS) (H := V.Mem t) V.bodyS (i, t, q) ⟨hi, h1⟩ rfl rfl rfl
          simp only [hg] at this
          exact this
    obtain ⟨O, hO, q3, q2, q1⟩ := hF
    have hbd := V.bnd _ _ _ hI
    have w1 : IntKind.i64.wrap (d + 1) = d + 1 := wrapB (by omega) (by omega)
    simp only [stA, exA, TvE.F, TvS.G] at q2 q3 ⊢
    refine fn_mem (k := V.k) follows noNum hO (V.len s) Tryd.func39 rfl (cw0_ok _ _) ?_
    repeat' ((conv => whnf); (first | refine stp ?_ | with_reducible refine condB (fun h => ?_) (fun h => ?_)))
    conv => whnf
    refine ⟨Nat, (fun i => i ≤ l.length ∧ (goSL V.hE V.hS (l.take i) d s).1 = true), (fun i => [(0, .rs l.length 7 (stC l)), (1, .int .i64 d), (2, .func (.func V.gE) [] V.cE), (3, .func (.func V.gS) [] V.cS), (12, .int .i64 l.length), (13, .int .i64 i)]), (fun i => V.Mem (goSL V.hE V.hS (l.take i) d s).2), (fun i => l.length - i), ⟨0, ⟨Nat.zero_le _, by simp only [List.take_zero, goSL]⟩, ?_⟩, ?_⟩
    · simp only [List.take_zero, goSL]
      refine FgLK.same rfl ?_ (V.same _)
      refine And.intro (Wk.noref rfl) ?_
      refine And.intro (Wk.noref rfl) ?_
      refine And.intro (Wk.func trivial V.wkE) ?_
      refine And.intro (Wk.func trivial V.wkS) ?_
      refine And.intro (Wk.int rfl) ?_
      exact ⟨Wk.int rfl, trivial⟩
    rintro i ⟨hi, hall⟩
    dsimp only
    conv => whnf
    rw [frcHW_eq]
    by_cases hlt : i < l.length
    · have e1 : decide ((i : Int) < (l.length : Int)) = true := by simpa using hlt
      have hat := goSL_at (hE := V.hE) (hS := V.hS) l d s i hlt hall
      have hI2 : V.I d (goSL V.hE V.hS (l.take i) d s).2 (sizeSL (l.drop i) + m) := V.keepSL (l.take i) d s (sizeSL (l.drop i) + m) (by
        have := sizeSL_get l i hlt
        have e : sizeSL (l.drop i) = sizeS l[i] + sizeSL (l.drop (i + 1)) := by rw [List.drop_eq_getElem_cons hlt]; simp only [sizeSL]
        have e2 : sizeSL (l.take i) + (sizeSL (l.drop i) + m) = sizeSL l + m := by omega
        rw [e2]; exact hI) hall
      generalize (goSL V.hE V.hS (l.take i) d s).2 = t at *
      have esz : sizeSL (l.drop i) + m = (sizeL l[i].exprs + (sizeSL l[i].thn + (sizeSL l[i].els + (sizeSL (l.drop (i + 1)) + m)))) + 1 := by
        rw [List.drop_eq_getElem_cons hlt]; simp only [sizeSL]; have := sizeS_eq l[i]; omega
      rw [esz] at hI2
      have q1' := q1 i hlt t _ hI2
      have hd2 := V.downS l[i] d t _ hI2
      have hx4 : tk 1 (((stC l).drop (i * 7)).drop 4) = some [exA l[i].exprs] := by rw [stC_at l i hlt]; exact cell_x _ _
      have hx5 : tk 1 (((stC l).drop (i * 7)).drop 5) = some [stA l[i].thn] := by rw [stC_at l i hlt]; exact cell_t _ _
      have hx6 : tk 1 (((stC l).drop (i * 7)).drop 6) = some [stA l[i].els] := by rw [stC_at l i hlt]; exact cell_e _ _
      obtain ⟨_, _, k1, k2, k3, k4, k5, k6⟩ := okS_parts (okSL_get hok _ (get_mem hlt))
      have hsz := sizeSL_mem _ _ (get_mem hlt)
      have hse := sizeS_eq l[i]
      have qx := fun t q => q2 l[i].exprs t q k4 k1
      have qt := fun t q => q3 l[i].thn t q (by omega) k5 k2
      have qe := fun t q => q3 l[i].els t q (by omega) k6 k3
      have kx := fun s m => V.toTvE.keepL l[i].exprs (d + 1) s m
      have kt := fun s m => V.keepSL l[i].thn (d + 1) s m
      rw [goS_eq] at hat
      have hst := goSL_stop (hE := V.hE) (hS := V.hS) l d s (i + 1)
      clear q1 q2 q3 hse hsz k1 k2 k3 k4 k5 k6
      generalize l[i] = e at *
      generalize hr : V.hS e d t = r at *
      obtain ⟨b, t1⟩ := r
      simp only [exA, stA] at hx4 hx5 hx6 qx qt qe
      dsimp only [thenB] at *
      cases b with
      | false =>
        simp only [Bool.false_eq_true, if_false] at hat
        rw [hat] at hst
        rw [hst rfl]
        repeat' ((conv => whnf); first | (refine exI q1' ?_) | (rw [frcHW_eq]) | (with_reducible refine ixJ i rfl ?_ ?_; (focus (omega))) | (first | refine stp ?_ | with_reducible refine condB (fun h => ?_) (fun h => ?_)))
        all_goals (conv => whnf)
        all_goals (exact V.toTvE.fin s t1 false)
      | true =>
        simp only [if_true] at hat
        have i1 := hd2 rfl
        have qx' := qx t1 _ i1
        have kx' := kx t1 _ i1
        generalize hg : goL V.hE e.exprs (d + 1) t1 = g at *
        obtain ⟨b2, t2⟩ := g
        dsimp only at *
        cases b2 with
        | false =>
          simp only [Bool.false_eq_true, if_false] at hat
          rw [hat] at hst
          rw [hst rfl]
          repeat' ((conv => whnf); first | (refine exI q1' ?_) | (refine exI qx' ?_) | (refine exI hx4 ?_) | (rw [frcHW_eq]) | (with_reducible refine exW w1 ?_) | (with_reducible refine ixJ i rfl ?_ ?_; (focus (omega))) | (first | refine stp ?_ | with_reducible refine condB (fun h => ?_) (fun h => ?_)))
          all_goals (conv => whnf)
          all_goals (exact V.toTvE.fin s t2 false)
        | true =>
          simp only [if_true] at hat
          have i2 := kx' rfl
          have qt' := qt t2 _ i2
          have kt' := kt t2 _ i2
          generalize hg2 : goSL V.hE V.hS e.thn (d + 1) t2 = g2 at *
          obtain ⟨b3, t3⟩ := g2
          dsimp only at *
          cases b3 with
          | false =>
            simp only [Bool.false_eq_true, if_false] at hat
            rw [hat] at hst
            rw [hst rfl]
            repeat' ((conv => whnf); first | (refine exI q1' ?_) | (refine exI qx' ?_) | (refine exI qt' ?_) | (refine exI hx4 ?_) | (refine exI hx5 ?_) | (rw [frcHW_eq]) | (with_reducible refine exW w1 ?_) | (with_reducible refine ixJ i rfl ?_ ?_; (focus (omega))) | (first | refine stp ?_ | with_reducible refine condB (fun h => ?_) (fun h => ?_)))
            all_goals (conv => whnf)
            all_goals (exact V.toTvE.fin s t3 false)
          | true =>
            simp only [if_true] at hat
            have i3 := kt' rfl
            have qe' := qe t3 _ i3
            generalize hg3 : goSL V.hE V.hS e.els (d + 1) t3 = g3 at *
            obtain ⟨b4, t4⟩ := g3
            dsimp only at *
            cases b4 with
            | false =>
              rw [hat] at hst
              rw [hst rfl]
              repeat' ((conv => whnf); first | (refine exI q1' ?_) | (refine exI qx' ?_) | (refine exI qt' ?_) | (refine exI qe' ?_) | (refine exI hx4 ?_) | (refine exI hx5 ?_) | (refine exI hx6 ?_) | (rw [frcHW_eq]) | (with_reducible refine exW w1 ?_) | (with_reducible refine ixJ i rfl ?_ ?_; (focus (omega))) | (first | refine stp ?_ | with_reducible refine condB (fun h => ?_) (fun h => ?_)))
              all_goals (conv => whnf)
              all_goals (exact V.toTvE.fin s t4 false)
            | true =>
              repeat' ((conv => whnf); first | (refine exI q1' ?_) | (refine exI qx' ?_) | (refine exI qt' ?_) | (refine exI qe' ?_) | (refine exI hx4 ?_) | (refine exI hx5 ?_) | (refine exI hx6 ?_) | (rw [frcHW_eq]) | (with_reducible refine exW w1 ?_) | (with_reducible refine ixJ i rfl ?_ ?_; (focus (omega))) | (first | refine stp ?_ | with_reducible refine condB (fun h => ?_) (fun h => ?_)))
              all_goals (conv => whnf)
              refine ⟨i + 1, ⟨hlt, by rw [hat]⟩, by show l.length - (i + 1) < l.length - i; omega, ?_⟩
              rw [hat]
              refine FgLK.same rfl ?_ (V.same _)
              refine And.intro (Wk.noref rfl) ?_
              refine And.intro (Wk.noref rfl) ?_
              refine And.intro (Wk.func trivial V.wkE) ?_
              refine And.intro (Wk.func trivial V.wkS) ?_
              refine And.intro (Wk.int rfl) ?_
              exact ⟨Wk.int rfl, trivial⟩
    · have e1 : decide ((i : Int) < (l.length : Int)) = false := by simpa using hlt
      have hi2 : i = l.length := by have := hi; omega
      subst hi2
      rw [List.take_length] at hall ⊢
      rw [hall]
      generalize (goSL V.hE V.hS l d s).2 = t at *
      repeat' ((conv => whnf); first | (rw [frcHW_eq]) | (first | refine stp ?_ | with_reducible refine condB (fun h => ?_) (fun h => ?_)))
      all_goals (conv => whnf)
      all_goals (exact V.toTvE.fin s t true)
end
end Go.Proofs.YtcbjhdklbhlmhaaDoor.lex
end

/-
  Of 'cantileverlaw07': the variables that the statement lists, as the abstract interpreter knows them; 'lives' and the chapter's examples, run by the kernel.
-/
section
set_option linter.unusedVariables false
namespace Go.Proofs.YtcbjhdklbhlmhaaDoor.runLives
open Go.RowKit Go.Abs

/-- 'ast.shapes', cell by cell. -/
def tbl0 : List AV := [.bool false, .bool false, .int .i64 (.ofNat 0), .bool true, .bool false, .int .i64 (.ofNat 0), .bool false, .bool true, .int .i64 (.ofNat 0), 
    .bool false, .bool false, .int .i64 (.ofNat 1), .bool false, .bool false, .int .i64 (.ofNat 1), .bool false, .bool false, .int .i64 (.ofNat 2), 
    .bool false, .bool false, .int .i64 (.ofNat 2), .bool false, .bool false, .int .i64 (.ofNat 2), .bool false, .bool false, .int .i64 (.ofNat 2), 
    .bool false, .bool false, .int .i64 (.ofNat 2), .bool false, .bool false, .int .i64 (.ofNat 2), .bool false, .bool false, .int .i64 (.ofNat 2), 
    .bool false, .bool false, .int .i64 (.ofNat 2), .bool false, .bool false, .int .i64 (.ofNat 2), .bool false, .bool false, .int .i64 (.ofNat 2), 
    .bool false, .bool false, .int .i64 (.ofNat 2), .bool false, .bool false, .int .i64 (.ofNat 2)]

def gl : Glob := fun g => if Nat.beq g 0 then some tbl0 else none

set_option maxRecDepth 100000

theorem follows : Tryd.prog.follows .mixedOrders = true := by kernel_rfl

theorem noNumAll : (Tryd.prog.funcs.toList.all fun fn => !(fn.name == "runtime.NumGoroutine")) = true := by kernel_rfl

theorem noNum : NoNum Tryd.prog := fun g fn h => by
  have h1 := List.all_eq_true.1 noNumAll fn (Array.mem_toList_iff.2 (Array.mem_of_getElem? h))
  simpa using h1

theorem laid_skip {P : Program} {W : World} {name : String} {d : DataW Unit} {rest : List (String × DataW Unit)} {ps : List MemPlace} (h : DataW.LaidVars P W ((name, d) :: rest) ps) : ∃ qs, DataW.LaidVars P W rest qs := by
  obtain ⟨_, _, _, _, _, q, _, _, _, _, hr, _⟩ := h
  exact ⟨q, hr⟩

theorem n0 : Tryd.prog.globalNamed "cantilever/ast.shapes" = some 0 := by kernel_rfl
theorem ty0 : (Tryd.prog.globals[0]?).map (·.type) = some 91 := by kernel_rfl
theorem av0 : avOf Tryd.prog 6 91 (Rows.laid_cantilever_ast_shapes (H := Unit)) = some tbl0 := by kernel_rfl

theorem globs {W : World} (h : laidMetH Tryd.prog [("cantilever/ast.shapes", Rows.laid_cantilever_ast_shapes)] W) : GlOK gl (snap0 W) := by
  have h' : laidMet Tryd.prog [("cantilever/ast.shapes", Rows.laid_cantilever_ast_shapes)] W := h
  obtain ⟨_, hv, _⟩ := id h'
  obtain ⟨m0, _⟩ := laid_glob n0 ty0 av0 hv
  intro g cs hg
  unfold gl at hg
  split at hg
  · rename_i e; have := Nat.eq_of_beq_eq_true e; subst this; simp at hg; subst hg; exact m0
  cases hg

end Go.Proofs.YtcbjhdklbhlmhaaDoor.runLives
end

/-
  Expressions: may they be (the program's answer); how many, how deep (the program's answer); its CheckExpr.
-/
section
set_option linter.unusedVariables false
set_option linter.unusedSimpArgs false
namespace Go.Proofs.YtcbjhdklbhlmhaaDoor.lex
open Go.Abs Go.RowKit
set_option maxRecDepth 100000
set_option maxHeartbeats 4000000

def isWordF (f : Nat) (xs : List AV) : Option AV := match f with
  | 51 => match xs with | [.str s, .bool m] => if s.length ≤ 9223372036854775807 then some (.bool (if m then wordB s else s == [])) else none | _ => none
  | _ => none
theorem isWordF_sound {gl : Glob} : OrcSound Tryd.prog gl (orcZ isWordF) := orcZ_sound fun f xs r h => by
  unfold isWordF at h
  split at h
  · split at h <;> try (cases h; done)
    split at h <;> cases h
    rename_i hs
    exact ⟨rfl, isWord_ok _ hs _⟩
  · cases h
theorem wordB_nil : wordB [] = false := rfl
theorem rightX_ok (e : Ex) (rest : List AV) (d : Int) (hok : okE e) : ValOK Tryd.prog runLives.gl 35 [.rp (e.cells ++ rest), .int .i64 d] (.bool (ownE e)) := by
  obtain ⟨⟨hn1, hn2⟩, _⟩ := okE_kids hok
  have hb : hasBody Tryd.prog 51 = true := by kernel_rfl
  have key : ∀ (op num : Int) (name : List UInt8) (v : AV) (n : Nat), (∃ cs, v = .rs n 4 cs) → name.length ≤ 9223372036854775807 → ValOK Tryd.prog runLives.gl 35 [.rp (.int .i64 op :: .int .i64 num :: .str name :: v :: rest), .int .i64 d] (.bool (ownF op num name n)) := by
    intro op num name v n hv hname
    have q : ∀ (m : Bool) (H : AHeap), acall Tryd.prog (orcZ isWordF) H 51 [.str name, .bool m] = some (.bool (if m then wordB name else name == []), H) := fun m H => callZ hb rfl (by simp only [isWordF]; rw [if_pos hname])
    by_cases h1 : op < 1
    · have e1 : decide (op < 1) = true := by simpa using h1
      have hk : kidsI op = -1 := by unfold kidsI; rw [if_neg (by omega), if_neg (by omega), if_neg (by omega)]
      obtain ⟨cs, rfl⟩ := hv
      all_goals
        refine fn_val follows noNum isWordF_sound Tryd.func35 rfl ?_
        repeat' ((conv => whnf); first | (refine exI (q _ _) ?_) | (first | refine stp ?_ | with_reducible refine condB (fun h => ?_) (fun h => ?_)))
      all_goals (show AV.bool _ = AV.bool _; congr 1; unfold ownF; rw [hk])
      all_goals (first | rfl | (symm; simp; intros; omega))
    · have e1 : decide (op < 1) = false := by simpa using h1
      by_cases h2 : 16 < op
      · have e2 : decide (op > 16) = true := by simpa using h2
        have hk : kidsI op = -1 := by unfold kidsI; rw [if_neg (by omega), if_neg (by omega), if_neg (by omega)]
        obtain ⟨cs, rfl⟩ := hv
        all_goals
          refine fn_val follows noNum isWordF_sound Tryd.func35 rfl ?_
          repeat' ((conv => whnf); first | (refine exI (q _ _) ?_) | (first | refine stp ?_ | with_reducible refine condB (fun h => ?_) (fun h => ?_)))
        all_goals (show AV.bool _ = AV.bool _; congr 1; unfold ownF; rw [hk])
        all_goals (first | rfl | (symm; simp; intros; omega))
      · clear e1
        have hop : op = 1 ∨ op = 2 ∨ op = 3 ∨ op = 4 ∨ op = 5 ∨ op = 6 ∨ op = 7 ∨ op = 8 ∨ op = 9 ∨ op = 10 ∨ op = 11 ∨ op = 12 ∨ op = 13 ∨ op = 14 ∨ op = 15 ∨ op = 16 := by omega
        clear h1 h2
        rcases hop with rfl | rfl | rfl | rfl | rfl | rfl | rfl | rfl | rfl | rfl | rfl | rfl | rfl | rfl | rfl | rfl
        all_goals (obtain ⟨cs, rfl⟩ := hv)
        all_goals (refine fn_val follows noNum isWordF_sound Tryd.func35 rfl ?_)
        all_goals (repeat' ((conv => whnf); first | (refine exI (q _ _) ?_) | (first | refine stp ?_ | with_reducible refine condB (fun h => ?_) (fun h => ?_))))
        all_goals (first | rfl | (show AV.bool _ = AV.bool _; clear q hb hok hn1 hn2; simp_all [ownF, kidsI]; done) | (show AV.bool _ = AV.bool _; clear q hb hok hn1 hn2; simp_all [ownF, kidsI]; omega) | skip)
        all_goals (clear q hb hok hn1 hn2)
        all_goals (show AV.bool _ = AV.bool _; rw [AV.bool.injEq, Bool.eq_iff_iff])
        all_goals (first | (simp_all [ownF, kidsI, wordB_nil]; done) | (simp_all [ownF, kidsI, wordB_nil]; omega))
  obtain ⟨op, num, name, kids⟩ := e
  simp only [Ex.cells]; exact key op num name _ kids.length ⟨_, rfl⟩ hn1
end Go.Proofs.YtcbjhdklbhlmhaaDoor.lex
end

/-
  Expressions: may they be, what is in them too; counting with limits (the program).
-/
section
set_option linter.unusedVariables false
set_option linter.unusedSimpArgs false
namespace Go.Proofs.YtcbjhdklbhlmhaaDoor.lex
open Go.Abs Go.RowKit
set_option maxRecDepth 100000
set_option maxHeartbeats 4000000
theorem noI_of {sn : Snap} {ι : IMap} {W : World} (h : R sn ι [] W) : ι = noI := by
  funext b
  cases hb : ι b with
  | none => rfl
  | some p => have := (h.dom b).2 ⟨p, hb⟩; simp at this
theorem mem_of_val {P : Program} {gl : Glob} {f : Nat} {args : List AV} {r : AV} (h : ValOK P gl f args r) (hp : plain r = true) : MemOK P gl f args [] r [] := by
  intro sn ι W cargs hg hR ha
  have := noI_of hR; subst this
  refine (h sn W cargs hg hR ha).mono ?_
  rintro e W' ⟨v, rfl, hx, hv⟩
  exact ⟨v, sn, noI, rfl, plain_VR hp hv, Stp.ext hR hx⟩
theorem val_of_mem {P : Program} {gl : Glob} {f : Nat} {args : List AV} {r : AV} (h : MemOK P gl f args [] r []) (hp : plain r = true) : ValOK P gl f args r := by
  intro sn W cargs hg hR ha
  refine (h sn noI W cargs hg hR ha).mono ?_
  rintro e W' ⟨v, sn', ι', rfl, hv, hs⟩
  exact ⟨v, rfl, ⟨fun c hc => hs.frame c hc fun b o p hb => by simp at hb, hs.size, hs.os, hs.tape, hs.output⟩, plain_VR hp hv⟩

def rE (e : Ex) (_ : Int) (s : Unit) : Bool × Unit := (ownE e, s)
mutual
theorem goE_r : ∀ (e : Ex) (d : Int) (s : Unit), goE rE e d s = (rightE e, ())
  | .mk o n s k, d, t => by
    have := goL_r k (d + 1) ()
    simp only [goE, rE, ownE, Ex.op, Ex.num, Ex.name, Ex.kids, rightE, this]
    cases ownF o n s k.length <;> rfl
theorem goL_r : ∀ (l : List Ex) (d : Int) (s : Unit), goL rE l d s = (rightL l, ())
  | [], d, s => by simp only [goL, rightL]
  | e :: l, d, s => by
    simp only [goL, goE_r e d s, goL_r l d (), rightL]
    cases rightE e <;> rfl
end
/-- The walk through expressions. -/
def rVE : TvE runLives.gl where
  σ := Unit
  Mem := fun _ => []
  k := 0
  len := fun _ => rfl
  same := fun _ => ⟨trivial, rfl, rfl⟩
  evo := fun _ _ => rfl
  inj := fun _ _ _ => rfl
  I := fun d s m => 0 ≤ d ∧ d + m ≤ 1152921504606846976
  up := fun d s m h0 h => ⟨h0, by have := h.2; omega⟩
  less := fun d s m h => ⟨h.1, by have := h.2; omega⟩
  bnd := fun d s m h => ⟨h.1, by have := h.2; omega⟩
  gE := 35
  cE := []
  hE := rE
  bodyE := by kernel_rfl
  wkE := trivial
  okE := fun e rest d s m ho _ => mem_of_val (rightX_ok e rest d ho) rfl
  downE := fun e d s m h _ => ⟨by have := h.1; omega, by have := h.2; omega⟩
theorem exprs_r (l : List Ex) (d : Int) (hok : okL l) (hl : l.length ≤ 9223372036854775807) (h0 : 0 ≤ d) (h1 : d + sizeL l ≤ 1152921504606846976) : ValOK Tryd.prog runLives.gl 33 [exA l, .int .i64 d, .func (.func 35) [] []] (.bool (rightL l)) := by
  have := TvE.exprs rVE follows (sizeL l) l d () 0 (Nat.le_refl _) hok hl ⟨h0, h1⟩
  have e : (goL rVE.hE l d ()).1 = rightL l := by
    have := goL_r l d ()
    show (goL rE l d ()).1 = _
    rw [this]
  rw [e] at this
  exact val_of_mem this rfl

/-! counting, with limits -/
def cE (_ : Ex) (d : Int) (n : Nat) : Bool × Nat := (decide (((n + 1 : Nat) : Int) ≤ 2000) && decide (d ≤ 32), n + 1)
/-- A count: how many more, how deep at most. -/
def Cnt (r : Bool × Nat) (n a : Nat) (D : Int) : Prop := (r.1 = true ↔ n + a ≤ 2000 ∧ D ≤ 33) ∧ (r.1 = true → r.2 = n + a)
theorem cnt_then {r : Bool × Nat} {f : Nat → Bool × Nat} {n a b : Nat} {D1 D2 : Int} (h1 : Cnt r n a D1) (h2 : n + a ≤ 2000 → D1 ≤ 33 → Cnt (f (n + a)) (n + a) b D2) : Cnt (thenB r f) n (a + b) (max D1 D2) := by
  obtain ⟨g1, g2⟩ := h1
  unfold thenB
  by_cases h : r.1 = true
  · rw [if_pos h, g2 h]
    have h3 := g1.1 h
    obtain ⟨k1, k2⟩ := h2 h3.1 h3.2
    refine ⟨?_, fun h4 => by rw [k2 h4]; omega⟩
    rw [k1]
    constructor <;> (intro h; omega)
  · rw [if_neg h]
    refine ⟨⟨fun h => (by cases h), fun h3 => absurd (g1.2 (by omega)) h⟩, fun h => (by cases h)⟩
theorem cnt_one (d : Int) (n : Nat) : Cnt (decide (((n + 1 : Nat) : Int) ≤ 2000) && decide (d ≤ 32), n + 1) n 1 (d + 1) := by
  refine ⟨?_, fun _ => rfl⟩
  simp only [Bool.and_eq_true, decide_eq_true_eq]
  constructor <;> (intro h; omega)
theorem Cnt.to {r : Bool × Nat} {n a b : Nat} {D E : Int} (h : Cnt r n a D) (e1 : a = b) (e2 : D = E) : Cnt r n b E := by subst e1; subst e2; exact h
mutual
theorem goE_c : ∀ (e : Ex) (d : Int) (n : Nat), Cnt (goE cE e d n) n (sizeE e) (d + deepE e)
  | .mk o num s k, d, n => by
    have : goE cE (.mk o num s k) d n = thenB (cE (.mk o num s k) d n) fun n => goL cE k (d + 1) n := by simp only [goE, thenB]
    rw [this]
    exact (cnt_then (cnt_one d n) fun h1 h2 => goL_c k (d + 1) (n + 1) h1 h2).to (by simp only [sizeE]) (by simp only [deepE]; omega)
theorem goL_c : ∀ (l : List Ex) (d : Int) (n : Nat), n ≤ 2000 → d ≤ 33 → Cnt (goL cE l d n) n (sizeL l) (d + deepL l)
  | [], d, n, h1, h2 => by simp only [goL, sizeL, deepL]; exact ⟨⟨fun _ => by omega, fun _ => rfl⟩, fun _ => rfl⟩
  | e :: l, d, n, h1, h2 => by
    have : goL cE (e :: l) d n = thenB (goE cE e d n) fun n => goL cE l d n := by simp only [goL, thenB]
    rw [this]
    exact (cnt_then (goE_c e d n) fun h1 _ => goL_c l d _ h1 h2).to (by simp only [sizeL]) (by simp only [deepL]; omega)
end
end Go.Proofs.YtcbjhdklbhlmhaaDoor.lex
end

/-
  Expressions: the program's CheckExpr.
-/
section
set_option linter.unusedVariables false
set_option linter.unusedSimpArgs false
namespace Go.Proofs.YtcbjhdklbhlmhaaDoor.lex
open Go.Abs Go.RowKit
set_option maxRecDepth 100000
set_option maxHeartbeats 4000000

/-- What the counting closure keeps: itself, and the number. -/
def keepH (n : Nat) : AHeap := [⟨true, 0, 0, .cells [.func (.func 50) [] [.ptr 1 0]] 62⟩, ⟨true, 1, 0, .cells [.int .i64 n] 3⟩]
theorem keep1_ok (cs : List AV) (d : Int) (n : Nat) (hn : n ≤ 2000) : MemOK Tryd.prog runLives.gl 34 [.rp cs, .int .i64 d, .ptr 0 0] (keepH n) (.bool (decide (((n + 1 : Nat) : Int) ≤ 2000) && decide (d ≤ 32))) (keepH (n + 1)) := by
  refine fn_mem (k := 2) follows noNum (orcN_sound follows noNum isWordF_sound 3) rfl Tryd.func34 rfl (wcall_ok (isC := fun _ => false) 3) ?_
  repeat' ((conv => whnf); first | refine stp ?_ | with_reducible refine condB (fun h => ?_) (fun h => ?_))
  all_goals (conv => whnf)
  · exact ⟨by rw [h]; rfl, rfl, rfl⟩
  · exact ⟨by rw [h]; rfl, rfl, rfl⟩
theorem keepH_inj {n m : Nat} (h : keepH n = keepH m) : n = m := by
  simp only [keepH, List.cons.injEq, AObj.mk.injEq, ABody.cells.injEq, AV.int.injEq, and_true, true_and] at h
  omega
theorem ceV_ok (e : Ex) (rest : List AV) (d : Int) (s : Nat) (h : s ≤ 2000) : MemOK Tryd.prog runLives.gl 34 ([.rp (e.cells ++ rest), .int .i64 d] ++ [.ptr 0 0]) (keepH s) (.bool (lex.cE e d s).1) (keepH (lex.cE e d s).2) :=
  keep1_ok (e.cells ++ rest) d s h
theorem ceV_down (e : Ex) (d : Int) (s : Nat) (h : 0 ≤ d ∧ d ≤ 33 ∧ s ≤ 2000) (ht : (lex.cE e d s).1 = true) : 0 ≤ d + 1 ∧ d + 1 ≤ 33 ∧ (lex.cE e d s).2 ≤ 2000 :=
  have h2 : s + 1 ≤ 2000 ∧ d + 1 ≤ 33 := (cnt_one d s).1.1 ht
  have h3 : 0 ≤ d := h.1
  ⟨by clear h ht h2; omega, h2.2, h2.1⟩
def ceV : TvE runLives.gl where
  σ := Nat
  Mem := keepH
  k := 2
  len := fun _ => rfl
  same := fun s => ⟨⟨⟨rfl, rfl, rfl, rfl, BodyGe.cellsL ⟨Wk.func trivial ⟨Wk.ptr rfl rfl, trivial⟩, trivial⟩⟩, ⟨rfl, rfl, rfl, rfl, BodyGe.pre (rest := []) rfl rfl⟩, trivial⟩, rfl, rfl⟩
  evo := fun _ _ => rfl
  inj := fun _ _ h => keepH_inj h
  I := fun d s m => 0 ≤ d ∧ d ≤ 33 ∧ s ≤ 2000
  up := fun d s m h0 h => ⟨h0, by have := h.2.1; omega, h.2.2⟩
  less := fun d s m h => h
  bnd := fun d s m h => ⟨h.1, by have := h.2.1; omega⟩
  gE := 34
  cE := [.ptr 0 0]
  hE := lex.cE
  bodyE := by kernel_rfl
  wkE := ⟨Wk.ptr rfl rfl, trivial⟩
  okE := fun e rest d s m _ h => by
    exact ceV_ok e rest d s h.2.2
  downE := fun e d s m h ht => ceV_down e d s h ht
/-- The caller's memory where the counting begins. -/
def ceH (cs : List AV) (n : Nat) : AHeap := [⟨true, 0, 0, .cells cs 24⟩, ⟨true, 1, 0, .cells [.int .i64 n] 3⟩, ⟨true, 2, 0, .cells cs 24⟩, ⟨true, 3, 0, .cells [.func (.func 50) [] [.ptr 1 0]] 62⟩]
theorem ce_fact (e : Ex) (hok : okE e) : MemOK Tryd.prog runLives.gl 33 [.slice 2 0 1 1 4, .int .i64 1, .func (.func 34) [] [.ptr 3 0]] (ceH e.cells 0) (.bool (goL cE [e] 1 0).1) (ceH e.cells (goL cE [e] 1 0).2) := by
  have hM := TvE.exprs ceV follows (sizeL [e]) [e] 1 (0 : Nat) 0 (Nat.le_refl _) (by simp only [okL]; exact ⟨hok, trivial⟩) (by simp) ⟨by omega, by omega, by omega⟩
  have hM : MemOK Tryd.prog runLives.gl 33 [exA [e], .int .i64 1, .func (.func 34) [] [.ptr 0 0]] (keepH 0) (.bool (goL cE [e] 1 0).1) (keepH (goL cE [e] 1 0).2) := hM
  simp only [exA, exC, List.append_nil] at hM
  generalize hb : (goL cE [e] 1 0).1 = b at *
  generalize hn : (goL cE [e] 1 0).2 = n at *
  have h := mem_frame (m := [3, 1]) (n := 3) (Hc := ceH e.cells 0) (cargs := [.slice 2 0 1 1 4, .int .i64 1, .func (.func 34) [] [.ptr 3 0]]) hM ?_ ?_ rfl rfl rfl rfl rfl rfl
  · have e1 : updM [3, 1] (keepH n) 0 (ceH e.cells 0) = ceH e.cells n := rfl
    rw [e1] at h
    exact h
  · obtain ⟨op, num, name, kids⟩ := e
    simp only [Ex.cells]; rfl
  · exact ⟨⟨rfl, rfl, rfl, rfl, BodyGe.cellsL ⟨Wk.func trivial ⟨Wk.ptr rfl rfl, trivial⟩, trivial⟩⟩, ⟨rfl, rfl, rfl, rfl, BodyGe.pre (rest := []) rfl rfl⟩, trivial⟩
section
open Classical
/-- The second call: is each of the right form. -/
noncomputable def ceF (cs : List AV) (r : Bool) : Nat → List AV → Option AV := fun f a => if f = 33 ∧ a = [.rs 1 4 cs, .int .i64 1, .func (.func 35) [] []] then some (.bool r) else none
end
theorem wk_check (e : Ex) : ((goL cE [e] 1 0).1 = true ↔ ¬ (2000 < sizeE e ∨ 32 < deepE e)) := by
  rw [(goL_c [e] 1 0 (by omega) (by omega)).1]
  simp only [sizeL, deepL]; omega
theorem checkEX_ok (e : Ex) (hok : okE e) (hs : sizeE e ≤ 1048576) : ValOK Tryd.prog runLives.gl 19 [.agg e.cells] (.int .i64 (checkE e)) := by
  have hI := ce_fact e hok
  have hw := wk_check e
  have hr : ValOK Tryd.prog runLives.gl 33 [.rs 1 4 e.cells, .int .i64 1, .func (.func 35) [] []] (.bool (rightE e)) := by
    have h := exprs_r [e] 1 (by simp only [okL]; exact ⟨hok, trivial⟩) (by simp) (by omega) (by simp only [sizeL]; omega)
    simpa only [exA, exC, List.append_nil, List.length_singleton, rightL, Bool.and_true] using h
  have hZ := orcZ_sound (P := Tryd.prog) (gl := runLives.gl) (F := ceF e.cells (rightE e)) fun f args r h => by
    unfold ceF at h
    split at h
    · rename_i h2
      obtain ⟨rfl, rfl⟩ := h2
      simp only [Option.some.injEq] at h
      subst h
      exact ⟨rfl, hr⟩
    · cases h
  unfold checkE
  generalize hb : (goL cE [e] 1 0).1 = b at *
  generalize hn : (goL cE [e] 1 0).2 = n at *
  have hO1 := orcI_sound (P := Tryd.prog) (gl := runLives.gl) (I := Unit) (G := fun _ => True) (fF := fun _ => 33) (fA := fun _ => [.slice 2 0 1 1 4, .int .i64 1, .func (.func 34) [] [.ptr 3 0]]) (fH := fun _ => ceH e.cells 0) (fR := fun _ => .bool b) (fO := fun _ => ceH e.cells n) fun _ _ => hI
  have hO := orcOr_sound hO1 hZ
  have q1 : acall Tryd.prog (orcOr (orcI (fun _ : Unit => True) (fun _ => 33) (fun _ => [.slice 2 0 1 1 4, .int .i64 1, .func (.func 34) [] [.ptr 3 0]]) (fun _ => ceH e.cells 0) (fun _ => .bool b) (fun _ => ceH e.cells n)) (orcZ (ceF e.cells (rightE e)))) (ceH e.cells 0) 33 [.slice 2 0 1 1 4, .int .i64 1, .func (.func 34) [] [.ptr 3 0]] = some (.bool b, ceH e.cells n) :=
    callOr1 (by kernel_rfl) (callI (fun _ _ _ _ _ _ _ => ⟨rfl, rfl⟩) (by kernel_rfl) () trivial rfl rfl rfl)
  have q2 : acall Tryd.prog (orcOr (orcI (fun _ : Unit => True) (fun _ => 33) (fun _ => [.slice 2 0 1 1 4, .int .i64 1, .func (.func 34) [] [.ptr 3 0]]) (fun _ => ceH e.cells 0) (fun _ => .bool b) (fun _ => ceH e.cells n)) (orcZ (ceF e.cells (rightE e)))) (ceH e.cells n) 33 [.slice 2 0 1 1 4, .int .i64 1, .func (.func 35) [] []] = some (.bool (rightE e), ceH e.cells n) := by
    refine callOr2 (by kernel_rfl) (orcI_none fun _ _ _ h => ?_) (callZ (fa := [.rs 1 4 e.cells, .int .i64 1, .func (.func 35) [] []]) (by kernel_rfl) ?_ ?_)
    · simp at h
    · obtain ⟨op, num, name, kids⟩ := e; rfl
    · unfold ceF; rw [if_pos ⟨rfl, rfl⟩]
  generalize orcOr (orcI (fun _ : Unit => True) (fun _ => 33) (fun _ => [.slice 2 0 1 1 4, .int .i64 1, .func (.func 34) [] [.ptr 3 0]]) (fun _ => ceH e.cells 0) (fun _ => .bool b) (fun _ => ceH e.cells n)) (orcZ (ceF e.cells (rightE e))) = O at *
  clear hI hr hZ hO1 hn hb
  generalize sizeE e = sz at *
  generalize deepE e = dp at *
  generalize rightE e = r at *
  obtain ⟨op, num, name, kids⟩ := e
  simp only [Ex.cells] at *
  refine fn_valI (fun g => Nat.beq g 33) 2 follows noNum hO Tryd.func19 rfl ?_
  repeat' ((conv => whnf); first | (refine exI q1 ?_) | (refine exI q2 ?_) | (first | refine stp ?_ | with_reducible refine condB (fun h => ?_) (fun h => ?_)))
  all_goals (conv => whnf)
  all_goals (show AV.int _ _ = AV.int _ _; congr 1; clear q1 q2 hO; subst_vars)
  all_goals (by_cases hq : 2000 < sz ∨ 32 < dp <;> cases r <;> simp_all)
end Go.Proofs.YtcbjhdklbhlmhaaDoor.lex
end

/-
  A verified abstract interpreter, part 47: lists that grow by append.
-/
section
set_option linter.unusedSimpArgs false
set_option linter.unusedVariables false
namespace Go.Abs
open Go.RowKit

/-- A list that grows: nil as long as it is empty, else the whole of block b. -/
def grA {α : Type} (b z : Nat) : List α → AV
  | [] => .nslice
  | _ :: r => .slice b 0 (r.length + 1) (r.length + 1) z
def grB {α : Type} (b : Nat) (C : List α → List AV) (ty : TypeId) : List α → AHeap
  | [] => []
  | x :: r => [⟨true, b, 0, .cells (C (x :: r)) ty⟩]
/-- Nothing is appended to nil. -/
theorem app_n0 {P : Program} {t t2 e : TypeId} {z by_ : Nat} (hT : appT P t t2 = some (e, z, by_)) {H : AHeap} {x : AV} {xs : List AV} (hx : xcells H z x = some (0, xs)) :
    aAppend P t t2 .nslice x H = some (.nslice, H) := by
  obtain ⟨h1, i, u, h2, h3, h4, rfl, rfl⟩ := appT_some hT
  simp only [aAppend, h1, h2, h3]
  rw [if_pos h4]
  simp only [hx, if_true]
/-- Of each block of a family, how far its cells are known. -/
def ekOk (f e : Nat) : AHeap → Prop
  | [] => True
  | o :: H => (o.fam ≠ f ∨ o.sh + o.body.len ≤ e) ∧ ekOk f e H
theorem ekOk_mem {f e : Nat} : ∀ {H : AHeap}, ekOk f e H → ∀ o ∈ H, o.fam = f → o.sh + o.body.len ≤ e
  | [], _, o, h, _ => by cases h
  | x :: H, h, o, ho, hf => by
    rcases List.mem_cons.1 ho with rfl | ho
    · rcases h.1 with h1 | h1
      · exact absurd hf h1
      · exact h1
    · exact ekOk_mem h.2 o ho hf
theorem ekil_ok {f e : Nat} {H : AHeap} (h : ekOk f e H) : ekil f e H = H := ekil_le (ekOk_mem h)
/-- An append, whatever stands there. -/
theorem apS {P Q : Prop} (q : Q) (h : Stp1 P Q := by
    first
    | (with_reducible apply s1I (app_n0 (by assumption) ?_)); (any_goals (exact rfl)); done
    | (with_reducible apply s1I (app_zero (by assumption) ?_)); (any_goals (exact rfl)); done
    | (with_reducible apply s1I (app_nil (by assumption) ?_ ?_ ?_)); (any_goals (exact rfl)); (all_goals first | omega | (simp only [List.length_cons]; omega))
    | (with_reducible apply s1I (app_okG (by assumption) ?_ ?_ (ekil_ok ?_) ?_ ?_ ?_ ?_)); (any_goals (exact rfl));
      (all_goals first
        | assumption
        | omega
        | (simp only [List.length_cons]; omega)
        | (simp [ekOk, ABody.len]; done) | (simp [ekOk, ABody.len]; omega)
        | (simp; done) | (simp; omega))) : P := h q
theorem strs_one : ∀ l : List (List UInt8), (l.map AV.str).all one = true
  | [] => rfl
  | x :: l => strs_one l
theorem strs_refs : ∀ (l : List (List UInt8)) (acc : List Nat), refsL (l.map AV.str) acc = acc
  | [], acc => rfl
  | x :: l, acc => strs_refs l acc
end Go.Abs
end

/-
  A verified abstract interpreter, part 48: functions that hand back memory of their own making.
-/
section
set_option linter.unusedSimpArgs false
set_option linter.unusedVariables false
namespace Go.Abs
open Go.RowKit

/-- A function, handed values without blocks of ours, hands back r, which names the new blocks N. -/
def NewOK (P : Program) (gl : Glob) (f : Nat) (args : List AV) (r : AV) (N : AHeap) : Prop :=
  ∀ (sn : Snap) (W : World) (cargs : List Value), GlOK gl sn → R sn noI [] W → LR sn noI args cargs →
    Calls P f cargs.toArray W fun e W' => ∃ v sn' ι', e = .returned v ∧ VR sn' ι' r v ∧ Stq 0 sn noI [] W sn' ι' N W'
/-- What a body comes to: a value, and blocks; m tells their numbers. -/
def finN (P : Program) (l : List ResultVar) (r : AV) (N : AHeap) (tm : Tr) (H : AHeap) : Prop :=
  onO (aress P tm H l) fun vs => ∃ m, HpGe H m m N 0 ∧ nodupN (m.map (famOf H)) = true ∧ Wk m (resOf vs) r
theorem fn_new {P : Program} {gl : Glob} {orc : Orc} (hm : P.follows .mixedOrders = true) (hn : NoNum P) (hO : OrcSound P gl orc) {f : Nat} {fn : Func} {c : Code} {args : List AV} {N : AHeap} {r : AV}
    (hf : P.funcs[f]? = some fn) (hc : fn.body = some c) {cw : CW} (hcw : CWok P orc cw)
    (h : frcTr (tmk (tini args fn.ntmps args.length) (tdep 20 fn.ntmps)) fun tm => wexec P gl orc cw wloop c (finN P fn.results.toList r N) (fun _ _ _ => False) (finN P fn.results.toList r N) tm []) : NewOK P gl f args r N := by
  intro sn W cargs hg hR ha
  rw [frcTr_eq] at h
  refine calls_of_wp hf hc (wexec_ok hm hn hO hcw c h _ W sn noI _ hg hR (tini_sound ha _ _ _) fun x tm1 H a1 W1 sn1 ι1 hx s1 t1 d1 => ?_)
  have key : finN P fn.results.toList r N tm1 H → ∃ v, (results fn a1.tmps).run P W1 = .ok v W1 ∧ ∃ sn' ι', VR sn' ι' r v ∧ Stq 0 sn noI [] W sn' ι' N W1 := by
    intro h
    obtain ⟨us, h1, m, h2, h3, h4⟩ := onO_some h
    obtain ⟨vs, k1, k2⟩ := aress_sound s1.rel t1 _ _ h1
    obtain ⟨hS, _⟩ := Fg.sound (k := 0) (m := m) (tm := tm1) (tm2 := mask (fun _ => none) tm1) ⟨⟨fun n u2 e => (by have := mask_get _ _ _ _ e; cases this), fun n e => (by rw [mask_tex] at e; exact e)⟩, h2, h3, rfl⟩ s1.rel t1
    exact ⟨_, results_list k2, sn1, iot m ι1, h4 _ _ _ (resOf_res (fn := fn) k1), s1.trans hS⟩
  cases x with
  | normal =>
    obtain ⟨v, k1, sn', ι', k2, k3⟩ := key hx
    exact bodyPost_end k1 d1 ⟨v, sn', ι', rfl, k2, k3⟩
  | exit id => exact hx.elim
  | ret =>
    obtain ⟨v, k1, sn', ι', k2, k3⟩ := key hx
    exact bodyPost_ret k1 d1 ⟨v, sn', ι', rfl, k2, k3⟩

/-- New blocks behind d others. -/
def shO (d : Nat) (o : AObj) : AObj := ⟨o.alive, o.fam + d, o.sh, renB (· + d) o.body⟩
def shA (d : Nat) (N : AHeap) : AHeap := N.map (shO d)
theorem shA_get {d : Nat} {N : AHeap} {b : Nat} {o : AObj} (h : (shA d N)[b]? = some o) : ∃ o0, N[b]? = some o0 ∧ o = shO d o0 := by
  unfold shA at h
  rw [List.getElem?_map] at h
  cases hN : N[b]? with
  | none => rw [hN] at h; cases h
  | some o0 => rw [hN] at h; simp at h; exact ⟨o0, rfl, h.symm⟩
section
open Classical
noncomputable def orcW {I : Type} (G : I → Prop) (fF : I → Nat) (fA : I → List AV) (fR : I → AV) (fN : I → AHeap) : Orc := fun f args H =>
  if h : ∃ i, G i ∧ fF i = f ∧ fA i = args then some (ren (· + H.length) (fR (Classical.choose h)), H ++ shA H.length (fN (Classical.choose h))) else none
theorem orcW_sound {P : Program} {gl : Glob} {I : Type} {G : I → Prop} {fF : I → Nat} {fA : I → List AV} {fR : I → AV} {fN : I → AHeap}
    (h : ∀ i, G i → refsL (fA i) [] = [] ∧ (∀ o ∈ fN i, o.alive = true) ∧ NewOK P gl (fF i) (fA i) (fR i) (fN i)) : OrcSound P gl (orcW G fF fA fR fN) := by
  intro f args H r H' e sn ι W cargs hg hR ha
  unfold orcW at e
  split at e
  · rename_i hi
    simp only [Option.some.injEq, Prod.mk.injEq] at e
    obtain ⟨rfl, rfl⟩ := e
    obtain ⟨h1, h2, h3⟩ := Classical.choose_spec hi
    generalize Classical.choose hi = i at *
    subst h2; subst h3
    obtain ⟨hr, hal, hok⟩ := h i h1
    have hR0 : R sn noI [] W := ⟨fun b => ⟨fun hb => (by simp at hb), fun ⟨p, hp⟩ => (by cases hp)⟩, fun b p hp => (by cases hp), fun b o p hb => (by simp at hb), fun b b' o o' p p' hb => (by simp at hb),
      fun a v hv => ⟨(hR.snap a v hv).1, (hR.snap a v hv).2.1, fun b o p hb => (by simp at hb)⟩, fun b o p hb => (by simp at hb)⟩
    have ha0 : LR sn noI (fA i) cargs := by
      have : VR sn ι (.tuple (fA i)) (.tuple cargs.toArray) := by simp only [VR]; exact ⟨_, rfl, by simpa using ha⟩
      have h2 := VR_refs (ι := ι) (ι' := noI) (.tuple (fA i)) [] _ (fun x hx => by simp only [refs] at hx; rw [hr] at hx; cases hx) this
      simp only [VR] at h2
      obtain ⟨d, e1, e2⟩ := h2
      simp at e1; subst e1; simpa using e2
    refine (hok sn W cargs hg hR0 ha0).mono ?_
    rintro e W' ⟨v, sn', ι', rfl, hv, hs⟩
    generalize hd : H.length = d
    let κ : IMap := fun b => if b < d then ι b else ι' (b - d)
    have k1 : ∀ b, b < d → κ b = ι b := fun b hb => if_pos hb
    have k2 : ∀ b, κ (b + d) = ι' b := fun b => by show (if b + d < d then ι (b + d) else ι' (b + d - d)) = ι' b; rw [if_neg (by omega), Nat.add_sub_cancel]
    have hκ : (fun b => κ (b + d)) = ι' := funext k2
    have hle : Le sn sn' ι κ := ⟨hs.le, fun b p hb => by
      have : b < d := by have := (hR.dom b).2 ⟨p, hb⟩; omega
      rw [k1 b this]; exact hb⟩
    have hframe : ∀ c, c < W.heap.size → W'.heap[c]? = W.heap[c]? := fun c hc => hs.frame c hc fun b o p hb => by simp at hb
    have hnew : ∀ (b : Nat) (o : AObj) p, (fN i)[b]? = some o → ι' b = some p → W.heap.size ≤ p.blk := fun b o p hb hp => by
      rcases hs.fresh b o p hb (hal o (List.mem_of_getElem? hb)) hp with h | ⟨b0, o0, p0, h, _⟩
      · exact h
      · simp at h
    have hget : ∀ (b : Nat) (o : AObj) p, (H ++ shA d (fN i))[b]? = some o → κ b = some p → (b < d ∧ H[b]? = some o ∧ ι b = some p ∧ p.blk < W.heap.size) ∨ ∃ o0, d ≤ b ∧ (fN i)[b - d]? = some o0 ∧ o = shO d o0 ∧ ι' (b - d) = some p ∧ W.heap.size ≤ p.blk := by
      intro b o p hb hp
      by_cases hlt : b < d
      · rw [List.getElem?_append_left (by omega)] at hb
        rw [k1 b hlt] at hp
        exact .inl ⟨hlt, hb, hp, hR.blk b p hp⟩
      · rw [List.getElem?_append_right (by omega), hd] at hb
        obtain ⟨o0, e1, e2⟩ := shA_get hb
        have hp2 : ι' (b - d) = some p := by have := k2 (b - d); rw [Nat.sub_add_cancel (by omega)] at this; rw [← this]; exact hp
        exact .inr ⟨o0, by omega, e1, e2, hp2, hnew _ _ _ e1 hp2⟩
    have hrel : R sn' κ (H ++ shA d (fN i)) W' := by
      refine ⟨fun b => ⟨fun hb => ?_, fun ⟨p, hp⟩ => ?_⟩, fun b p hp => ?_, fun b o p hb ha hp => ?_, fun b b' o o' p p' hb hb' hp hp' e => ?_, fun a v hv => ?_, fun b o p hb hp e => ?_⟩
      · by_cases hlt : b < d
        · rw [k1 b hlt]; exact (hR.dom b).1 (by omega)
        · have : b - d < (fN i).length := by simp [shA] at hb; omega
          obtain ⟨p, hp⟩ := (hs.rel.dom (b - d)).1 this
          have := k2 (b - d); rw [Nat.sub_add_cancel (by omega)] at this
          exact ⟨p, by rw [this]; exact hp⟩
      · by_cases hlt : b < d
        · simp; omega
        · have := k2 (b - d); rw [Nat.sub_add_cancel (by omega)] at this
          rw [this] at hp
          have := (hs.rel.dom (b - d)).2 ⟨p, hp⟩
          simp [shA]; omega
      · by_cases hlt : b < d
        · rw [k1 b hlt] at hp
          have := hR.blk b p hp; have := hs.size; omega
        · have := k2 (b - d); rw [Nat.sub_add_cancel (by omega)] at this
          rw [this] at hp
          exact hs.rel.blk _ p hp
      · rcases hget b o p hb hp with ⟨h1, h2, h3, h4⟩ | ⟨o0, h1, h2, rfl, h3, h4⟩
        · exact OR_mono hle (hframe _ h4) (hR.obj b o p h2 ha h3)
        · have h5 := hs.rel.obj _ _ _ h2 ha h3
          refine OR_ren _ ?_
          show OR sn' (fun b => κ (b + d)) W' o0.body p
          rw [hκ]; exact h5
      · rcases hget b o p hb hp with ⟨h1, h2, h3, h4⟩ | ⟨o0, h1, h2, rfl, h3, h4⟩ <;> rcases hget b' o' p' hb' hp' with ⟨g1, g2, g3, g4⟩ | ⟨o0', g1, g2, rfl, g3, g4⟩
        · exact hR.sep b b' o o' p p' h2 g2 h3 g3 e
        · omega
        · omega
        · obtain ⟨e1, e2⟩ := hs.rel.sep _ _ _ _ p p' h2 g2 h3 g3 e
          exact ⟨by simp only [shO, e1], e2⟩
      · obtain ⟨g1, g2, g3⟩ := hs.rel.snap a v hv
        refine ⟨g1, g2, fun b o p hb ha hp => ?_⟩
        rcases hget b o p hb hp with ⟨h1, h2, h3, h4⟩ | ⟨o0, h1, h2, rfl, h3, h4⟩
        · rcases hs.sfresh a v hv with h | h | ⟨b0, o0, p0, h, _⟩
          · exact (hR.snap a v h).2.2 b o p h2 ha h3
          · omega
          · simp at h
        · exact g3 _ _ p h2 ha h3
      · rcases hget b o p hb hp with ⟨h1, h2, h3, h4⟩ | ⟨o0, h1, h2, rfl, h3, h4⟩
        · exact hR.shz b o p h2 h3 e
        · exact hs.rel.shz _ _ p h2 h3 e
    refine ⟨v, sn', κ, rfl, ?_, hrel, hle, fun b p hp => ?_, fun c hc _ => hframe c hc, hs.size, hs.os, hs.tape, hs.output, fun a v hv => ?_, fun b o hb => ?_⟩
    · rw [VR_ren, hκ]; exact hv
    · by_cases hlt : b < d
      · rw [k1 b hlt] at hp; exact .inl hp
      · have h3 := k2 (b - d); rw [Nat.sub_add_cancel (by omega)] at h3
        rw [h3] at hp
        obtain ⟨o, ho⟩ : ∃ o, (fN i)[b - d]? = some o := ⟨_, List.getElem?_eq_getElem ((hs.rel.dom (b - d)).2 ⟨p, hp⟩)⟩
        exact .inr (.inl (hnew _ _ _ ho hp))
    · rcases hs.sfresh a v hv with h | h | ⟨b0, o0, p0, h, _⟩
      · exact .inl h
      · exact .inr (.inl h)
      · simp at h
    · exact ⟨o, by rw [List.getElem?_append_left (List.getElem?_eq_some_iff.1 hb).1]; exact hb, rfl, rfl, id⟩
  · cases e
end
/-- Facts on one function that hands back memory of its own making. -/
structure FamN (P : Program) (gl : Glob) where
  I : Type
  f : Nat
  G : I → Prop
  A : I → List AV
  R : I → AV
  N : I → AHeap
  body : hasBody P f = true
  inj : ∀ i j, G i → G j → A i = A j → R i = R j ∧ N i = N j
  ok : ∀ i, G i → refsL (A i) [] = [] ∧ (∀ o ∈ N i, o.alive = true) ∧ NewOK P gl f (A i) (R i) (N i)
/-- One more family. -/
theorem famN_add {P : Program} {gl : Glob} (F : FamN P gl) {O : Orc} (hO : OrcSound P gl O) : ∃ O', OrcSound P gl O' ∧ (∀ i, F.G i → ∀ H, acall P O' H F.f (F.A i) = some (ren (· + H.length) (F.R i), H ++ shA H.length (F.N i))) ∧
    ∀ g, g ≠ F.f → ∀ args H, acall P O' H g args = acall P O H g args := by
  refine ⟨orcOr (orcW F.G (fun _ => F.f) F.A F.R F.N) O, orcOr_sound (orcW_sound F.ok) hO, fun i hi H => callOr1 F.body ?_, fun g hg args H => ?_⟩
  · unfold acall
    rw [if_pos F.body]
    unfold orcW
    have h : ∃ j, F.G j ∧ F.f = F.f ∧ F.A j = F.A i := ⟨i, hi, rfl, rfl⟩
    rw [dif_pos h]
    obtain ⟨h1, _, h3⟩ := Classical.choose_spec h
    obtain ⟨e1, e2⟩ := F.inj _ _ h1 hi h3
    rw [e1, e2]
  · unfold acall
    have : orcOr (orcW F.G (fun _ => F.f) F.A F.R F.N) O g args H = O g args H := by
      unfold orcOr orcW
      rw [dif_neg (fun ⟨j, _, h2, _⟩ => hg h2.symm)]
    rw [this]
end Go.Abs
end

/-
  Operators: 'value.Do', 'cantileverref07.Do' (functions by their names).
-/
section
set_option linter.unusedVariables false
set_option linter.unusedSimpArgs false
namespace Go.Proofs.YtcbjhdklbhlmhaaDoor.lex
open Go.Abs Go.RowKit
set_option maxRecDepth 100000
set_option maxHeartbeats 4000000
variable {gl : Glob}
def truthI (b : Bool) : Int := if b then 1 else 0
theorem truth_ok (b : Bool) : ValOK Tryd.prog gl 44 [.bool b] (.int .i64 (truthI b)) := by
  refine fn_val follows noNum none_sound Tryd.func44 rfl ?_
  repeat' ((conv => whnf); first | refine stp ?_ | with_reducible refine condB (fun h => ?_) (fun h => ?_))
  all_goals (try simp_all [resOf, truthI])

/-- What an operator between two answers. -/
def twoI (op a b : Int) : Int :=
  if op = 5 then truthI (a != 0 || b != 0) else
  if op = 6 then truthI (a != 0 && b != 0) else
  if op = 7 then truthI (a == b) else
  if op = 8 then truthI (a != b) else
  if op = 9 then truthI (decide (a < b)) else
  if op = 10 then truthI (decide (a ≤ b)) else
  if op = 11 then IntKind.i64.wrap (bits .or .u64 (IntKind.u64.wrap a) (IntKind.u64.wrap b)) else
  if op = 12 then IntKind.i64.wrap (bits .xor .u64 (IntKind.u64.wrap a) (IntKind.u64.wrap b)) else
  if op = 13 then IntKind.i64.wrap (bits .and .u64 (IntKind.u64.wrap a) (IntKind.u64.wrap b)) else
  if op = 14 then IntKind.i64.wrap (IntKind.u64.wrap (IntKind.u64.wrap a + IntKind.u64.wrap b)) else
  if op = 15 then IntKind.i64.wrap (IntKind.u64.wrap (IntKind.u64.wrap a - IntKind.u64.wrap b)) else
  IntKind.i64.wrap (IntKind.u64.wrap (IntKind.u64.wrap a * IntKind.u64.wrap b))

def vF1 (f : Nat) (xs : List AV) : Option AV := match f with
  | 44 => match xs with | [.bool b] => some (.int .i64 (truthI b)) | _ => none
  | _ => none
theorem vF1_sound : OrcSound Tryd.prog gl (orcZ vF1) := orcZ_sound fun f xs r h => by
  unfold vF1 at h
  split at h
  · split at h <;> cases h
    exact ⟨rfl, truth_ok _⟩
  · cases h

theorem two_ok (op a b : Int) : ValOK Tryd.prog gl 27 [.int .i64 op, .int .i64 a, .int .i64 b] (.int .i64 (twoI op a b)) := by
  refine fn_val follows noNum vF1_sound Tryd.func27 rfl ?_
  repeat' ((conv => whnf); first | refine stp ?_ | with_reducible refine condB (fun h => ?_) (fun h => ?_))
  all_goals (try simp_all [resOf, twoI, truthI])

def oneI (op a : Int) : Int := if op = 3 then IntKind.i64.wrap (IntKind.u64.wrap (0 - IntKind.u64.wrap a)) else truthI (a == 0)

theorem one_ok (op a : Int) : ValOK Tryd.prog gl 26 [.int .i64 op, .int .i64 a] (.int .i64 (oneI op a)) := by
  refine fn_val follows noNum vF1_sound Tryd.func26 rfl ?_
  repeat' ((conv => whnf); first | refine stp ?_ | with_reducible refine condB (fun h => ?_) (fun h => ?_))
  all_goals (try simp_all [resOf, oneI, truthI])

def vF2 (f : Nat) (xs : List AV) : Option AV := match f with
  | 44 => match xs with | [.bool b] => some (.int .i64 (truthI b)) | _ => none
  | 26 => match xs with | [.int .i64 op, .int .i64 a] => some (.int .i64 (oneI op a)) | _ => none
  | 27 => match xs with | [.int .i64 op, .int .i64 a, .int .i64 b] => some (.int .i64 (twoI op a b)) | _ => none
  | _ => none
theorem vF2_sound : OrcSound Tryd.prog gl (orcZ vF2) := orcZ_sound fun f xs r h => by
  unfold vF2 at h
  split at h
  · split at h <;> cases h
    exact ⟨rfl, truth_ok _⟩
  · split at h <;> cases h
    exact ⟨rfl, one_ok _ _⟩
  · split at h <;> cases h
    exact ⟨rfl, two_ok _ _ _⟩
  · cases h

/-- What 'Do' answers. -/
def doI (op : Int) (l : List Int) : Int × Int := match l with
  | [a] => if op = 3 ∨ op = 4 then (oneI op a, 0) else (0, 2)
  | [a, b] => if 5 ≤ op ∧ op ≤ 16 then (twoI op a b, 0) else (0, 2)
  | _ => (0, 2)
def intsV (l : List Int) : AV := match l with | [] => .nslice | l => .rs l.length 1 (l.map (AV.int .i64))

theorem do_ok (op : Int) (l : List Int) (x : AV) (hx : x = .rs l.length 1 (l.map (AV.int .i64)) ∨ (l = [] ∧ x = .nslice)) : ValOK Tryd.prog gl 13 [.int .i64 op, x] (.tuple [.int .i64 (doI op l).1, .int .i64 (doI op l).2]) := by
  rcases hx with rfl | ⟨rfl, rfl⟩
  · match l with
    | [] =>
      refine fn_val follows noNum vF2_sound Tryd.func13 rfl ?_
      repeat' ((conv => whnf); first | refine stp ?_ | with_reducible refine condB (fun h => ?_) (fun h => ?_))
      all_goals (try simp_all [resOf, doI])
    | [a] =>
      refine fn_val follows noNum vF2_sound Tryd.func13 rfl ?_
      repeat' ((conv => whnf); first | refine stp ?_ | with_reducible refine condB (fun h => ?_) (fun h => ?_))
      all_goals (try simp_all [resOf, doI])
    | [a, b] =>
      refine fn_val follows noNum vF2_sound Tryd.func13 rfl ?_
      repeat' ((conv => whnf); first | refine stp ?_ | with_reducible refine condB (fun h => ?_) (fun h => ?_))
      all_goals (try simp_all [resOf, doI])
      all_goals (rw [if_neg (by omega)]; exact ⟨rfl, rfl⟩)
    | a :: b :: c :: l =>
      refine fn_val follows noNum vF2_sound Tryd.func13 rfl ?_
      have h1 : (((a :: b :: c :: l).length : Int) == 1) = false := by simp; omega
      have h2 : (((a :: b :: c :: l).length : Int) == 2) = false := by simp; omega
      repeat' ((conv => whnf); first | refine stp ?_ | with_reducible refine condB (fun h => ?_) (fun h => ?_))
      all_goals (try simp_all [resOf, doI])
  · refine fn_val follows noNum vF2_sound Tryd.func13 rfl ?_
    repeat' ((conv => whnf); first | refine stp ?_ | with_reducible refine condB (fun h => ?_) (fun h => ?_))
    all_goals (try simp_all [resOf, doI])
theorem wu64 (n : Int) : IntKind.u64.wrap n = n % 18446744073709551616 := by
  simp [IntKind.wrap, IntKind.bits, IntKind.signed]

theorem mod_toNat (x : BitVec 64) : ((x.toNat : Nat) : Int) % 18446744073709551616 = x.toNat := by
  have h := x.isLt
  rw [show (2 : Nat) ^ 64 = 18446744073709551616 from rfl] at h
  omega
theorem bits_or (x y : Int) : bits .or .u64 x y = ((BitVec.ofInt 64 x ||| BitVec.ofInt 64 y).toNat : Int) := by
  have e : bits .or .u64 x y = IntKind.u64.wrap ((BitVec.ofInt 64 x ||| BitVec.ofInt 64 y).toNat : Int) := rfl
  rw [e, wu64]
  exact mod_toNat _
theorem bits_xor (x y : Int) : bits .xor .u64 x y = ((BitVec.ofInt 64 x ^^^ BitVec.ofInt 64 y).toNat : Int) := by
  have e : bits .xor .u64 x y = IntKind.u64.wrap ((BitVec.ofInt 64 x ^^^ BitVec.ofInt 64 y).toNat : Int) := rfl
  rw [e, wu64]
  exact mod_toNat _
theorem bits_and (x y : Int) : bits .and .u64 x y = ((BitVec.ofInt 64 x &&& BitVec.ofInt 64 y).toNat : Int) := by
  have e : bits .and .u64 x y = IntKind.u64.wrap ((BitVec.ofInt 64 x &&& BitVec.ofInt 64 y).toNat : Int) := rfl
  rw [e, wu64]
  exact mod_toNat _
theorem of_wrap (a : Int) : BitVec.ofInt 64 (IntKind.u64.wrap a) = BitVec.ofInt 64 a := by
  apply BitVec.eq_of_toInt_eq
  rw [BitVec.toInt_ofInt, BitVec.toInt_ofInt, wu64]
  simp only [Int.bmod]
  omega
/-- The program's operators as an oracle. -/
def doF (f : Nat) (xs : List AV) : Option AV := match f with
  | 13 => match xs with
    | [.int .i64 op, .rs _ 1 cs] => match intsOf cs with
      | some l => some (.tuple [.int .i64 (doI op l).1, .int .i64 (doI op l).2])
      | none => none
    | [.int .i64 op, .nslice] => some (.tuple [.int .i64 (doI op []).1, .int .i64 (doI op []).2])
    | _ => none
  | _ => none
theorem doF_sound : OrcSound Tryd.prog gl (orcZ doF) := orcZ_sound fun f xs r h => by
  unfold doF at h
  split at h
  · split at h <;> try (cases h; done)
    · split at h <;> cases h
      rename_i n cs _ l hl
      refine ⟨rfl, ValOK.rs (pre := [_]) (post := []) fun hc => ?_⟩
      have := intsOf_some hl; subst this
      simp at hc; subst hc
      exact do_ok _ _ _ (.inl rfl)
    · cases h; exact ⟨rfl, do_ok _ [] _ (.inr ⟨rfl, rfl⟩)⟩
  · cases h
end Go.Proofs.YtcbjhdklbhlmhaaDoor.lex
end

/-
  Expressions that are the same.
-/
section
set_option linter.unusedVariables false
set_option linter.unusedSimpArgs false
namespace Go.Proofs.YtcbjhdklbhlmhaaDoor.lex
open Go.Abs Go.RowKit
set_option maxRecDepth 100000
set_option maxHeartbeats 4000000
variable {gl : Glob}
def allB {α β : Type} (f : α → β → Bool) : List α → List β → Bool
  | [], [] => true
  | x :: a, y :: b => f x y && allB f a b
  | _, _ => false
theorem allB_len {α β : Type} (f : α → β → Bool) : ∀ (a : List α) (b : List β), a.length ≠ b.length → allB f a b = false
  | [], [], h => by simp at h
  | [], _ :: _, _ => rfl
  | _ :: _, [], _ => rfl
  | x :: a, y :: b, h => by simp only [allB, allB_len f a b (by simpa using h), Bool.and_false]
theorem allB_take {α β : Type} (f : α → β → Bool) : ∀ (a : List α) (b : List β) (i : Nat) (h : i < a.length) (h' : i < b.length), allB f (a.take (i + 1)) (b.take (i + 1)) = (allB f (a.take i) (b.take i) && f a[i] b[i])
  | x :: a, y :: b, 0, h, h' => by simp [allB]
  | x :: a, y :: b, i + 1, h, h' => by
    have := allB_take f a b i (by simpa using h) (by simpa using h')
    simp only [List.take_succ_cons, allB, List.getElem_cons_succ] at this ⊢; rw [this, Bool.and_assoc]
theorem allB_get {α β : Type} (f : α → β → Bool) : ∀ {a : List α} {b : List β} {i : Nat} (h : i < a.length) (h' : i < b.length), f a[i] b[i] = false → allB f a b = false
  | x :: a, y :: b, 0, h, h', e => by simp only [List.getElem_cons_zero] at e; simp only [allB, e, Bool.false_and]
  | x :: a, y :: b, i + 1, h, h', e => by simp only [List.getElem_cons_succ] at e; simp only [allB, allB_get f (a := a) (b := b) (by simpa using h) (by simpa using h') e, Bool.and_false]
theorem allB_refl {α : Type} (f : α → α → Bool) : ∀ {a : List α}, (∀ x ∈ a, f x x = true) → allB f a a = true
  | [], _ => rfl
  | x :: a, h => by simp only [allB, h x (by simp), allB_refl f (a := a) fun y hy => h y (by simp [hy]), Bool.true_and]
mutual
def sameE : Ex → Ex → Bool
  | .mk o n s k, .mk o' n' s' k' => (o == o') && ((n == n') && ((s == s') && sameL k k'))
def sameL : List Ex → List Ex → Bool
  | [], [] => true
  | x :: a, y :: b => sameE x y && sameL a b
  | _, _ => false
end
theorem sameL_eq : ∀ (a b : List Ex), sameL a b = allB sameE a b
  | [], [] => by simp only [sameL, allB]
  | [], _ :: _ => by simp only [sameL, allB]
  | _ :: _, [] => by simp only [sameL, allB]
  | x :: a, y :: b => by simp only [sameL, allB, sameL_eq a b]
theorem two_refs (a b : Ex) : refsL [.agg a.cells, .agg b.cells] [] = [] := by
  obtain ⟨o, n, s, k⟩ := a
  obtain ⟨o', n', s', k'⟩ := b
  simp only [Ex.cells]; rfl
def famTwo {g : Nat} (hb : hasBody Tryd.prog g = true) (G : Ex × Ex → Prop) (h : ∀ p, G p → ValOK Tryd.prog gl g [.agg p.1.cells, .agg p.2.cells] (.bool (sameE p.1 p.2))) : Fam Tryd.prog gl := { I := Ex × Ex, f := g, G := G, A := fun p => [.agg p.1.cells, .agg p.2.cells], R := fun p => .bool (sameE p.1 p.2), body := hb, inj := (fun i j _ _ h => by simp only [List.cons.injEq, AV.agg.injEq, and_true] at h; rw [cells_inj _ _ h.1, cells_inj _ _ h.2]), ok := (fun p hp => ⟨two_refs p.1 p.2, h p hp⟩) }
theorem eqfE_ok (a b : List Ex) (ha : a.length ≤ 9223372036854775807) (each : ∀ x ∈ a, ∀ y ∈ b, ValOK Tryd.prog gl 52 [.agg x.cells, .agg y.cells] (.bool (sameE x y))) : ValOK Tryd.prog gl 67 [exA a, exA b, .func (.func 52) [] []] (.bool (sameL a b)) := by
  obtain ⟨O, hO, p1, -⟩ := fams (P := Tryd.prog) (gl := gl) [famTwo (g := 52) (by kernel_rfl) (fun p => p.1 ∈ a ∧ p.2 ∈ b) (fun p hp => each _ hp.1 _ hp.2)] rfl
  have q1 : ∀ x ∈ a, ∀ y ∈ b, ∀ H, acall Tryd.prog O H 52 [.agg x.cells, .agg y.cells] = some (.bool (sameE x y), H) := fun x hx y hy => p1 (x, y) ⟨hx, hy⟩
  clear p1
  rw [sameL_eq]
  unfold exA
  refine fn_val follows noNum hO Tryd.func67 rfl ?_
  by_cases hl : a.length = b.length
  · have e0 : ((a.length : Int) == (b.length : Int)) = true := by rw [hl]; simp
    repeat' ((conv => whnf); first | refine stp ?_ | with_reducible refine condB (fun h => ?_) (fun h => ?_))
    conv => whnf
    refine ⟨Nat, (fun i => i ≤ a.length ∧ allB sameE (a.take i) (b.take i) = true), (fun i => [(1, .rs b.length 4 (exC b)), (2, .func (.func 52) [] []), (15, .rs a.length 4 (exC a)), (16, .int .i64 a.length), (17, .int .i64 i)]), (fun _ => []), (fun i => a.length - i), ⟨0, ⟨Nat.zero_le _, rfl⟩, FgL.mk0 rfl ?_⟩, ?_⟩
    · (repeat (first | exact trivial | refine stw ?_))
    rintro i ⟨hi, hall⟩
    dsimp only
    by_cases hlt : i < a.length
    · have e1 : decide ((i : Int) < (a.length : Int)) = true := by simpa using hlt
      have hlt' : i < b.length := by omega
      have hat := allB_take sameE a b i hlt hlt'
      rw [hall, Bool.true_and] at hat
      have hfalse : sameE a[i] b[i] = false → allB sameE a b = false := allB_get sameE hlt hlt'
      have hx := ex4 a i hlt
      have hy := ex4 b i hlt'
      have q2 := q1 a[i] (get_mem hlt) b[i] (get_mem hlt')
      generalize a[i] = x at *
      generalize b[i] = y at *
      generalize sameE x y = w at *
      obtain ⟨o, n, s, k⟩ := x
      obtain ⟨o', n', s', k'⟩ := y
      simp only [Ex.cells] at hx hy q2
      cases w with
      | true =>
        repeat' ((conv => whnf); first | (with_reducible refine exI (q2 _) ?_) | (with_reducible refine ixJ i rfl ?_ ?_; (focus (omega))) | (refine exI hx ?_) | (refine exI hy ?_) | (first | refine stp ?_ | with_reducible refine condB (fun h => ?_) (fun h => ?_)))
        conv => whnf
        refine ⟨i + 1, ⟨hlt, hat⟩, by show a.length - (i + 1) < a.length - i; omega, FgL.mk0 rfl ?_⟩
        (repeat (first | exact trivial | refine stw ?_))
      | false =>
        rw [hfalse rfl]
        repeat' ((conv => whnf); first | (with_reducible refine exI (q2 _) ?_) | (with_reducible refine ixJ i rfl ?_ ?_; (focus (omega))) | (refine exI hx ?_) | (refine exI hy ?_) | (first | refine stp ?_ | with_reducible refine condB (fun h => ?_) (fun h => ?_)))
        all_goals rfl
    · have e1 : decide ((i : Int) < (a.length : Int)) = false := by simpa using hlt
      have hi2 : i = a.length := by have := hi; omega
      subst hi2
      rw [List.take_length, hl, List.take_length] at hall
      rw [hall]
      repeat' ((conv => whnf); first | refine stp ?_ | with_reducible refine condB (fun h => ?_) (fun h => ?_))
      all_goals rfl
  · rw [allB_len _ _ _ hl]
    have e0 : ((a.length : Int) == (b.length : Int)) = false := by simpa using (fun h => hl (by omega))
    repeat' ((conv => whnf); first | refine stp ?_ | with_reducible refine condB (fun h => ?_) (fun h => ?_))
    all_goals rfl
theorem sameX_ok : ∀ (n : Nat) (a b : Ex), sizeE a ≤ n → okE a → ValOK Tryd.prog gl 52 [.agg a.cells, .agg b.cells] (.bool (sameE a b))
  | n, .mk o m s k, .mk o' m' s' k', h, hok => by
    have hk := okE_kids hok
    simp only [Ex.kids, Ex.name, okN] at hk
    simp only [sizeE] at h
    obtain ⟨O, hO, p1, -⟩ := fams (P := Tryd.prog) (gl := gl) [{ I := Unit, f := 67, G := fun _ => True, A := fun _ => [exA k, exA k', .func (.func 52) [] []], R := fun _ => .bool (sameL k k'), body := (by kernel_rfl), inj := (fun _ _ _ _ _ => rfl), ok := (fun _ _ => ⟨rfl, eqfE_ok k k' hk.1.2 fun x hx y _ => match n, (show 1 ≤ n by omega), h with | n + 1, _, h => sameX_ok n x y (by have := sizeL_mem _ _ hx; omega) (okL_get hk.2 _ hx)⟩) }] rfl
    have q1 : ∀ H, acall Tryd.prog O H 67 [exA k, exA k', .func (.func 52) [] []] = some (.bool (sameL k k'), H) := p1 () trivial
    clear p1
    simp only [Ex.cells, exA, sameE] at q1 ⊢
    generalize sameL k k' = w at *
    refine fn_val follows noNum hO Tryd.func52 rfl ?_
    generalize hb1 : (o == o') = b1
    generalize hb2 : (m == m') = b2
    generalize hb3 : (s == s') = b3
    cases b1 <;> cases b2 <;> cases b3 <;> cases w
    all_goals (repeat' ((conv => whnf); first | (with_reducible refine exI (q1 _) ?_) | (first | refine stp ?_ | with_reducible refine condB (fun h => ?_) (fun h => ?_))))
    all_goals (first | rfl | (simp_all [resOf]; done))
/-- The document's. -/
theorem bne_of {α : Type} [BEq α] {x y : α} {b : Bool} (h : (x == y) = b) : (x != y) = !b := by simp only [bne, h]
/-- The kit's. -/
theorem kexprs_ok (a b : List Ex) (ha : a.length ≤ 9223372036854775807) (each : ∀ x ∈ a, ∀ y ∈ b, ValOK Tryd.prog gl 29 [.agg x.cells, .agg y.cells] (.bool (sameE x y))) : ValOK Tryd.prog gl 48 [exA a, exA b] (.bool (sameL a b)) := by
  obtain ⟨O, hO, p1, -⟩ := fams (P := Tryd.prog) (gl := gl) [famTwo (g := 29) (by kernel_rfl) (fun p => p.1 ∈ a ∧ p.2 ∈ b) (fun p hp => each _ hp.1 _ hp.2)] rfl
  have q1 : ∀ x ∈ a, ∀ y ∈ b, ∀ H, acall Tryd.prog O H 29 [.agg x.cells, .agg y.cells] = some (.bool (sameE x y), H) := fun x hx y hy => p1 (x, y) ⟨hx, hy⟩
  clear p1
  rw [sameL_eq]
  unfold exA
  refine fn_val follows noNum hO Tryd.func48 rfl ?_
  by_cases hl : a.length = b.length
  · have e0 : ((a.length : Int) != (b.length : Int)) = false := bne_of (b := true) (by rw [hl]; simp)
    repeat' ((conv => whnf); first | refine stp ?_ | with_reducible refine condB (fun h => ?_) (fun h => ?_))
    conv => whnf
    refine ⟨Nat, (fun i => i ≤ a.length ∧ allB sameE (a.take i) (b.take i) = true), (fun i => [(0, .rs a.length 4 (exC a)), (1, .rs b.length 4 (exC b)), (5, .int .i64 i)]), (fun _ => []), (fun i => a.length - i), ⟨0, ⟨Nat.zero_le _, rfl⟩, FgL.mk0 rfl ?_⟩, ?_⟩
    · (repeat (first | exact trivial | refine stw ?_))
    rintro i ⟨hi, hall⟩
    dsimp only
    by_cases hlt : i < a.length
    · have e1 : decide ((i : Int) < (a.length : Int)) = true := by simpa using hlt
      have hlt' : i < b.length := by omega
      have hat := allB_take sameE a b i hlt hlt'
      rw [hall, Bool.true_and] at hat
      have hfalse : sameE a[i] b[i] = false → allB sameE a b = false := allB_get sameE hlt hlt'
      have hx := ex4 a i hlt
      have hy := ex4 b i hlt'
      have q2 := q1 a[i] (get_mem hlt) b[i] (get_mem hlt')
      generalize a[i] = x at *
      generalize b[i] = y at *
      generalize sameE x y = w at *
      obtain ⟨o, n, s, k⟩ := x
      obtain ⟨o', n', s', k'⟩ := y
      simp only [Ex.cells] at hx hy q2
      cases w with
      | true =>
        repeat' ((conv => whnf); first | (with_reducible refine exI (q2 _) ?_) | (with_reducible refine ixJ i rfl ?_ ?_; (focus (omega))) | (refine exI hx ?_) | (refine exI hy ?_) | (first | refine stp ?_ | with_reducible refine condB (fun h => ?_) (fun h => ?_)))
        conv => whnf
        refine ⟨i + 1, ⟨hlt, hat⟩, by show a.length - (i + 1) < a.length - i; omega, FgL.mk0 rfl ?_⟩
        (repeat (first | exact trivial | refine stw ?_))
      | false =>
        rw [hfalse rfl]
        repeat' ((conv => whnf); first | (with_reducible refine exI (q2 _) ?_) | (with_reducible refine ixJ i rfl ?_ ?_; (focus (omega))) | (refine exI hx ?_) | (refine exI hy ?_) | (first | refine stp ?_ | with_reducible refine condB (fun h => ?_) (fun h => ?_)))
        all_goals rfl
    · have e1 : decide ((i : Int) < (a.length : Int)) = false := by simpa using hlt
      have hi2 : i = a.length := by have := hi; omega
      subst hi2
      rw [List.take_length, hl, List.take_length] at hall
      rw [hall]
      repeat' ((conv => whnf); first | refine stp ?_ | with_reducible refine condB (fun h => ?_) (fun h => ?_))
      all_goals rfl
  · rw [allB_len _ _ _ hl]
    have e0 : ((a.length : Int) != (b.length : Int)) = true := bne_of (b := false) (by simpa using (fun h => hl (by omega)))
    repeat' ((conv => whnf); first | refine stp ?_ | with_reducible refine condB (fun h => ?_) (fun h => ?_))
    all_goals rfl
theorem kexpr_ok : ∀ (n : Nat) (a b : Ex), sizeE a ≤ n → okE a → ValOK Tryd.prog gl 29 [.agg a.cells, .agg b.cells] (.bool (sameE a b))
  | n, .mk o m s k, .mk o' m' s' k', h, hok => by
    have hk := okE_kids hok
    simp only [Ex.kids, Ex.name, okN] at hk
    simp only [sizeE] at h
    obtain ⟨O, hO, p1, -⟩ := fams (P := Tryd.prog) (gl := gl) [{ I := Unit, f := 48, G := fun _ => True, A := fun _ => [exA k, exA k'], R := fun _ => .bool (sameL k k'), body := (by kernel_rfl), inj := (fun _ _ _ _ _ => rfl), ok := (fun _ _ => ⟨rfl, kexprs_ok k k' hk.1.2 fun x hx y _ => match n, (show 1 ≤ n by omega), h with | n + 1, _, h => kexpr_ok n x y (by have := sizeL_mem _ _ hx; omega) (okL_get hk.2 _ hx)⟩) }] rfl
    have q1 : ∀ H, acall Tryd.prog O H 48 [exA k, exA k'] = some (.bool (sameL k k'), H) := p1 () trivial
    clear p1
    simp only [Ex.cells, exA, sameE] at q1 ⊢
    generalize sameL k k' = w at *
    refine fn_val follows noNum hO Tryd.func29 rfl ?_
    generalize hb1 : (o == o') = b1
    generalize hb2 : (m == m') = b2
    generalize hb3 : (s == s') = b3
    cases b1 <;> cases b2 <;> cases b3 <;> cases w
    all_goals (repeat' ((conv => whnf); first | (with_reducible refine exI (q1 _) ?_) | (first | refine stp ?_ | with_reducible refine condB (fun h => ?_) (fun h => ?_))))
    all_goals (first | rfl | (simp_all [resOf]; done))
end Go.Proofs.YtcbjhdklbhlmhaaDoor.lex
end

/-
  Expressions reckoned, made simple, put into one another (plain functions, plain laws).
-/
section
set_option linter.unusedVariables false
set_option linter.unusedSimpArgs false
namespace Go.Proofs.YtcbjhdklbhlmhaaDoor.lex
open Go.Abs Go.RowKit
set_option maxRecDepth 100000
set_option maxHeartbeats 4000000
/-! numbers in their range -/
mutual
def inE : Ex → Prop
  | .mk _ n _ k => (-9223372036854775808 ≤ n ∧ n ≤ 9223372036854775807) ∧ inL k
def inL : List Ex → Prop
  | [] => True
  | e :: l => inE e ∧ inL l
end
theorem inL_get : ∀ {l : List Ex}, inL l → ∀ e ∈ l, inE e
  | x :: l, h, e, he => by
    simp only [inL] at h
    rcases List.mem_cons.1 he with rfl | he
    · exact h.1
    · exact inL_get h.2 e he
theorem inL_of : ∀ {l : List Ex}, (∀ e ∈ l, inE e) → inL l
  | [], _ => trivial
  | x :: l, h => by simp only [inL]; exact ⟨h x (by simp), inL_of fun e he => h e (by simp [he])⟩
theorem okL_of : ∀ {l : List Ex}, (∀ e ∈ l, okE e) → okL l
  | [], _ => by simp only [okL]
  | x :: l, h => by simp only [okL]; exact ⟨h x (by simp), okL_of fun e he => h e (by simp [he])⟩
/-! registers -/
def getR (s : List UInt8) : List (List UInt8 × Int) → Option Int
  | [] => none
  | (k, v) :: n => bif s == k then some v else getR s n
def putR (s : List UInt8) (v : Int) : List (List UInt8 × Int) → List (List UInt8 × Int)
  | [] => [(s, v)]
  | (k, w) :: n => bif s == k then (s, v) :: n else (k, w) :: putR s v n
def regR (n : List (List UInt8 × Int)) (s : List UInt8) : Int := (getR s n).getD 0
def mpE : Nat → List (List UInt8 × Int) → List (AV × AV × Nat)
  | _, [] => []
  | i, (s, v) :: l => (.str s, .int .i64 v, i) :: mpE (i + 1) l
theorem mp_app (s : List UInt8) (v : Int) : ∀ (a : List (List UInt8 × Int)) (i : Nat), mpE i (a ++ [(s, v)]) = mpE i a ++ [(.str s, .int .i64 v, i + a.length)]
  | [], i => rfl
  | (x, w) :: a, i => by
    simp only [List.cons_append, mpE, mp_app s v a (i + 1), List.length_cons]
    rw [show i + 1 + a.length = i + (a.length + 1) by omega]
theorem mp_none (s : List UInt8) : ∀ (a : List (List UInt8 × Int)) (i j : Nat), getR s a = none → aFind .string (.str s) (mpE i a) j = some none
  | [], i, j, h => rfl
  | (x, w) :: a, i, j, h => by
    simp only [getR] at h
    cases hx : (s == x) with
    | true => rw [hx] at h; cases h
    | false =>
      rw [hx] at h
      simp only [mpE, aFind, aSame, hx]
      exact mp_none s a (i + 1) (j + 1) h
theorem mp_some (s : List UInt8) (v : Int) : ∀ (a : List (List UInt8 × Int)) (i j : Nat), getR s a = some v → ∃ k, aFind .string (.str s) (mpE i a) j = some (some (j + k, .int .i64 v)) ∧ ∀ w, mset (.str s) (.int .i64 w) k (mpE i a) = mpE i (putR s w a)
  | [], i, j, h => by cases h
  | (x, w) :: a, i, j, h => by
    simp only [getR] at h
    cases hx : (s == x) with
    | true =>
      rw [hx] at h
      simp only [cond_true, Option.some.injEq] at h
      subst h
      refine ⟨0, by simp only [mpE, aFind, aSame, hx]; rfl, fun w' => ?_⟩
      simp only [putR, hx, cond_true, mpE]; rfl
    | false =>
      rw [hx] at h
      obtain ⟨k, h1, h2⟩ := mp_some s v a (i + 1) (j + 1) h
      refine ⟨k + 1, ?_, fun w' => ?_⟩
      · simp only [mpE, aFind, aSame, hx]; rw [h1, show j + 1 + k = j + (k + 1) by omega]
      · simp only [putR, hx, cond_false, mpE, mset, h2]
theorem putR_none (s : List UInt8) (v : Int) : ∀ (a : List (List UInt8 × Int)), getR s a = none → putR s v a = a ++ [(s, v)]
  | [], _ => rfl
  | (x, w) :: a, h => by
    simp only [getR] at h
    cases hx : (s == x) with
    | true => rw [hx] at h; cases h
    | false => rw [hx] at h; simp only [putR, hx, cond_false, List.cons_append, putR_none s v a h]
theorem putR_len (s : List UInt8) (v : Int) : ∀ (a : List (List UInt8 × Int)) {w}, getR s a = some w → (putR s v a).length = a.length
  | [], w, h => by cases h
  | (x, u) :: a, w, h => by
    simp only [getR] at h
    cases hx : (s == x) with
    | true => simp only [putR, hx, cond_true, List.length_cons]
    | false => rw [hx] at h; simp only [putR, hx, cond_false, List.length_cons, putR_len s v a h]
theorem getR_put (s : List UInt8) (v : Int) (k : List UInt8) : ∀ a : List (List UInt8 × Int), getR k (putR s v a) = bif k == s then some v else getR k a
  | [] => by simp only [putR, getR]
  | (x, u) :: a => by
    simp only [putR]
    cases hx : (s == x) with
    | true =>
      have : s = x := by simpa using hx
      subst this
      simp only [cond_true, getR]
      cases (k == s) <;> rfl
    | false =>
      simp only [cond_false, getR, getR_put s v k a]
      cases hk : (k == x) with
      | true =>
        have : k = x := by simpa using hk
        subst this
        have : (k == s) = false := by simpa using fun e : k = s => by subst e; simp at hx
        rw [this]; rfl
      | false => simp only [cond_false]
/-! reckoned -/
mutual
def evalE (r : List UInt8 → Int) : Ex → Int
  | .mk op num name kids => bif op == 1 then num else bif op == 2 then r name else (doI op (evalL r kids)).1
def evalL (r : List UInt8 → Int) : List Ex → List Int
  | [] => []
  | e :: l => evalE r e :: evalL r l
end
theorem evalL_map (r : List UInt8 → Int) : ∀ l : List Ex, evalL r l = l.map (evalE r)
  | [] => by simp only [evalL, List.map_nil]
  | e :: l => by simp only [evalL, evalL_map r l, List.map_cons]
/-! made simple -/
def numX (v : Int) : Ex := .mk 1 v [] []
def isX (e : Ex) (n : Int) : Bool := e.op == 1 && e.num == n
def twoS (op : Int) (a b : Ex) : Ex :=
  bif (op == 14 && isX b 0) || ((op == 15 && isX b 0) || ((op == 16 && isX b 1) || ((op == 11 && isX b 0) || (op == 12 && isX b 0)))) then a else
  bif (op == 14 && isX a 0) || ((op == 16 && isX a 1) || ((op == 11 && isX a 0) || (op == 12 && isX a 0))) then b else
  bif (op == 16 || op == 13) && (isX b 0 || isX a 0) then numX 0 else
  bif !(sameE a b) then .mk op 0 [] [a, b] else
  bif op == 7 || op == 10 then numX 1 else
  bif op == 8 || (op == 9 || (op == 12 || op == 15)) then numX 0 else .mk op 0 [] [a, b]
def ruleS (op : Int) : List Ex → Ex
  | [a, b] => twoS op a b
  | k :: l => bif op == 3 && k.op == 3 then (k.kids.headD (numX 0)) else .mk op 0 [] (k :: l)
  | [] => .mk op 0 [] []
def outS (op : Int) (ks : List Ex) : Ex :=
  bif ks.all (fun k => k.op == 1) then (bif decide (0 ≤ (doI op (ks.map Ex.num)).1) then numX (doI op (ks.map Ex.num)).1 else .mk op 0 [] ks) else ruleS op ks
mutual
def simpE : Ex → Ex
  | .mk op num name [] => .mk op num name []
  | .mk op num name (k :: l) => outS op (simpE k :: simpL l)
def simpL : List Ex → List Ex
  | [] => []
  | e :: l => simpE e :: simpL l
end
theorem simpL_map : ∀ l : List Ex, simpL l = l.map simpE
  | [] => by simp only [simpL, List.map_nil]
  | e :: l => by simp only [simpL, simpL_map l, List.map_cons]
theorem simpE_kids (op num : Int) (name : List UInt8) (kids : List Ex) (h : kids ≠ []) : simpE (.mk op num name kids) = outS op (kids.map simpE) := by
  cases kids with
  | nil => exact absurd rfl h
  | cons k l => simp only [simpE, simpL_map, List.map_cons]
/-- The program's way. -/
def outX (op : Int) (ks : List Ex) : Ex :=
  bif ks.all (fun k => k.op == 1) && decide (0 ≤ (doI op (ks.map Ex.num)).1) then numX (doI op (ks.map Ex.num)).1 else ruleS op ks
end Go.Proofs.YtcbjhdklbhlmhaaDoor.lex
end


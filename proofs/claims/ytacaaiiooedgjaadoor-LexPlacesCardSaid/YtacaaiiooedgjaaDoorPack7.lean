/-
  Texts of this proof, one behind the other (part 7).
-/
import Derived.Test.YtacaaiiooedgjaaDoorPack6

/-
  Of 'cantileverlaw02': the document's answer: all tokens.
-/
section
set_option linter.unusedVariables false
set_option linter.unusedSimpArgs false
namespace Go.Proofs.YtacaaiiooedgjaaDoor.lex
open Go.Abs Go.RowKit
set_option maxRecDepth 100000
set_option maxHeartbeats 4000000

theorem plain_oneR (s : List UInt8) (k : Nat) : plain (oneR s k) = true := by unfold oneR; split <;> rfl
theorem one_ok {s : List UInt8} {k : Nat} (hs : s.length ≤ 65536) (hk : k < s.length) : ValOK Tryd.prog runLives.gl 21 [.str s, .int .i64 k] (oneR s k) := by
  cases hl : letB s[k].toNat with
  | true => exact one_word hs hk hl
  | false => cases hd : digB s[k].toNat with
    | true => exact one_dig hs hk hl hd
    | false => exact one_sign hs hk hl hd
def F8 (f : Nat) (xs : List AV) : Option AV := match f with
  | 21 => match xs with | [.str s, .int .i64 (.ofNat k)] => if s.length ≤ 65536 ∧ k < s.length then some (oneR s k) else none | _ => none
  | f => F7 f xs
theorem F8_val {f : Nat} {xs : List AV} {r : AV} (h : F8 f xs = some r) : plain r = true ∧ ValOK Tryd.prog runLives.gl f xs r := by
  unfold F8 at h
  split at h <;> try (exact F7_val h)
  split at h <;> try (cases h; done)
  split at h <;> cases h
  rename_i hd
  exact ⟨plain_oneR _ _, one_ok hd.1 hd.2⟩
theorem F8_sound : OrcSound Tryd.prog runLives.gl (orcZ F8) := orcZ_sound fun f xs r h => F8_val h

/-- The tokens from a place on, its gap ahead of them. -/
def lexAt (n k : Nat) (s : List UInt8) : Nat ⊕ List Tk := lexF n (k + skip false (s.drop k)) (s.drop (k + skip false (s.drop k)))
theorem lexAt_bla {n k : Nat} {s : List UInt8} (hk : k < s.length) (h : blaB s[k].toNat = true) : lexAt n k s = lexAt n (k + 1) s := by
  have : skip false (s.drop k) = skip false (s.drop (k + 1)) + 1 := by rw [List.drop_eq_getElem_cons hk]; simp only [skip]; rw [if_pos h]
  unfold lexAt; rw [this]
  have e : k + (skip false (s.drop (k + 1)) + 1) = k + 1 + skip false (s.drop (k + 1)) := by omega
  rw [e]
theorem skip_remark {k : Nat} {s : List UInt8} (hk : k + 1 < s.length) (h1 : s[k] = 47) (h2 : s[k + 1] = 47) : skip false (s.drop k) = skip true (s.drop k) := by
  rw [List.drop_eq_getElem_cons (by omega : k < s.length)]
  have hb : blaB ((47 : UInt8).toNat : Int) = false := by decide
  have hh : (s.drop (k + 1)).head? = some 47 := by rw [List.drop_eq_getElem_cons hk, h2]; rfl
  simp only [skip, h1, hb, hh]
  rw [if_neg (by decide), if_pos (by simp), if_neg (by decide)]
theorem lexAt_rem {n k : Nat} {s : List UInt8} (hk : k + 1 < s.length) (h1 : s[k] = 47) (h2 : s[k + 1] = 47) : lexAt n k s = lexAt n (k + spanN (· != 10) (s.drop k)) s := by
  have e1 := skip_remark hk h1 h2
  have e2 := skip_rem (s.drop k)
  rw [List.drop_drop] at e2
  unfold lexAt; rw [e1, e2, ← Nat.add_assoc]
theorem skip_none {k : Nat} {s : List UInt8} (hk : k < s.length) (hb : blaB s[k].toNat = false) (h : ¬ (s[k] = 47 ∧ s[k + 1]? = some 47)) : skip false (s.drop k) = 0 := by
  rw [List.drop_eq_getElem_cons hk]
  have hh : (s.drop (k + 1)).head? = s[k + 1]? := by simp [List.head?_drop]
  simp only [skip, hb, hh]
  rw [if_neg (by decide), if_neg h]
theorem lexAt_tok {n k : Nat} {s : List UInt8} (hk : k < s.length) (hb : blaB s[k].toNat = false) (h : ¬ (s[k] = 47 ∧ s[k + 1]? = some 47)) :
    lexAt (n + 1) k s = match tok1 (s.drop k) with
      | none => .inl k
      | some (kind, len, num) => match lexAt n (k + len) s with
        | .inl e => .inl e
        | .inr l => .inr (⟨kind, (s.drop k).take len, num, k⟩ :: l) := by
  have h0 := skip_none hk hb h
  have hne : ¬ s.drop k = [] := by intro e; have := congrArg List.length e; simp at this; omega
  unfold lexAt
  rw [h0]
  simp only [Nat.add_zero]
  rw [lexF, if_neg hne]
  cases tok1 (s.drop k) with
  | none => rfl
  | some p => obtain ⟨a, b, c⟩ := p; simp only [List.drop_drop]; rw [← Nat.add_assoc]; rfl
theorem lexAt_end {n k : Nat} {s : List UInt8} (hk : s.length ≤ k) : lexAt (n + 1) k s = .inr [] := by
  have : s.drop k = [] := List.drop_eq_nil_of_le hk
  have h2 : s.drop (k + skip false (s.drop k)) = [] := List.drop_eq_nil_of_le (by omega)
  unfold lexAt; rw [lexF, if_pos h2]
theorem lexAt_zero (s : List UInt8) : lexN s = lexAt (s.length + 1) 0 s := by unfold lexN lexAt; simp only [List.drop_zero, Nat.zero_add]

theorem tok1_len {t : List UInt8} {kd len num : Nat} (h : tok1 t = some (kd, len, num)) : 0 < len ∧ len ≤ t.length := by
  unfold tok1 at h
  split at h
  · cases h; rename_i h0; exact ⟨h0, wordN_le _⟩
  · split at h
    · cases h; rename_i h0; exact ⟨h0, numN_le _⟩
    · split at h
      · cases h; rename_i h0; exact ⟨h0, signN_le _⟩
      · cases h

attribute [local irreducible] numN wordN signN skip spanN
theorem allRef_ok (s : List UInt8) (hs : s.length ≤ 65536) : ValOK Tryd.prog runLives.gl 9 [.str s] (allR s) := by
  have e0 : decide ((s.length : Int) > 65536) = false := by simp; omega
  refine fn_val follows noNum F8_sound Tryd.func9 rfl ?_
  repeat' ((conv => whnf); first | (with_reducible refine condT ?_ ?_; (focus ((first | assumption | decide | (simp; done) | (simp; omega)); done))) | (with_reducible refine condF ?_ ?_; (focus ((first | assumption | decide | (simp; done) | (simp; omega)); done))) | with_reducible refine condB (fun h => ?_) (fun h => ?_) | with_reducible refine exI rfl ?_ | with_reducible refine eqR rfl ?_ | (with_reducible refine exW (wrapN1 ?_) ?_; (focus (omega))) | (with_reducible refine exW (wrapN ?_) ?_; (focus (omega))) | (with_reducible refine exW (wrapB ?_ ?_) ?_; (focus (omega)); (focus (omega))) | with_reducible refine exW rfl ?_ | (with_reducible refine ixJ _ rfl ?_ ?_; (focus ((first | decide | omega | (simp; done) | (simp; omega)); done))) | (with_reducible refine ixJ' _ rfl ?_ ?_; (focus ((first | decide | omega | (simp; done) | (simp; omega)); done))) | (refine ixJ (Int.toNat _) ?_ ?_ ?_; (focus ((first | rfl | decide | omega | (simp; done)); done)); (focus ((first | decide | omega | (simp; done) | (simp; omega)); done))) | (refine ixJ' (Int.toNat _) ?_ ?_ ?_; (focus ((first | rfl | decide | omega | (simp; done)); done)); (focus ((first | decide | omega | (simp; done) | (simp; omega)); done))) | with_reducible refine ixS _ rfl (by assumption) ?_ | (with_reducible refine shlI ?_ ?_; (focus (first | decide | omega))) | (refine exI (callZ rfl rfl (if_pos ?_)) ?_; (focus ((first | decide | omega | (simp; done) | (simp; omega)); done))))
  conv => whnf
  refine ⟨Nat × Nat × List Tk, (fun p => p.1 ≤ s.length ∧ s.length < p.1 + p.2.1 ∧ lexN s = joinL p.2.2 (lexAt p.2.1 p.1 s) ∧ p.2.2.length ≤ p.1), (fun p => [(0, .str s), (3, .ptr 0 0), (4, match p.2.2 with | [] => .nslice | _ :: _ => .slice 1 0 p.2.2.length p.2.2.length 4), (5, .int .i64 p.1)]),
    (fun p => ⟨true, 0, 0, .cells [.int .i64 0, .int .i64 0] 26⟩ :: match p.2.2 with | [] => [] | _ :: _ => [⟨true, 1, 0, .cells (tksC p.2.2) 30⟩]), (fun p => s.length - p.1), ⟨(0, s.length + 1, []), ?_, ?_⟩, ?_⟩
  · exact ⟨Nat.zero_le _, by show s.length < 0 + (s.length + 1); omega, ((joinL_nil _).trans (lexAt_zero s).symm).symm, Nat.zero_le _⟩
  · refine FgL.mk [0] rfl ?_ ?_ rfl
    · exact ⟨Wk.noref rfl, Wk.ptr rfl rfl, Wk.noref rfl, Wk.int rfl, trivial⟩
    · exact ⟨⟨rfl, rfl, rfl, rfl, BodyGe.pre (rest := []) rfl rfl⟩, trivial⟩
  · rintro ⟨k, n, acc⟩ ⟨h1, h2, h3, h4⟩
    dsimp only at h1 h2 h3 h4
    by_cases hk : k < s.length
    · have e1 : decide ((k : Int) < (s.length : Int)) = true := by simpa using hk
      have hx : s[k]? = some s[k] := by simp [hk]
      cases hb : blaB s[k].toNat with
      | true =>
        have h5 := lexAt_bla (n := n) hk hb
        cases acc with
        | nil =>
          dsimp only
          repeat' ((conv => whnf); first | with_reducible refine ixS _ rfl hx ?_ | (first | (with_reducible refine condT ?_ ?_; (focus ((first | assumption | decide | (simp; done) | (simp; omega)); done))) | (with_reducible refine condF ?_ ?_; (focus ((first | assumption | decide | (simp; done) | (simp; omega)); done))) | with_reducible refine condB (fun h => ?_) (fun h => ?_) | with_reducible refine exI rfl ?_ | with_reducible refine eqR rfl ?_ | (with_reducible refine exW (wrapN1 ?_) ?_; (focus (omega))) | (with_reducible refine exW (wrapN ?_) ?_; (focus (omega))) | (with_reducible refine exW (wrapB ?_ ?_) ?_; (focus (omega)); (focus (omega))) | with_reducible refine exW rfl ?_ | (with_reducible refine ixJ _ rfl ?_ ?_; (focus ((first | decide | omega | (simp; done) | (simp; omega)); done))) | (with_reducible refine ixJ' _ rfl ?_ ?_; (focus ((first | decide | omega | (simp; done) | (simp; omega)); done))) | (refine ixJ (Int.toNat _) ?_ ?_ ?_; (focus ((first | rfl | decide | omega | (simp; done)); done)); (focus ((first | decide | omega | (simp; done) | (simp; omega)); done))) | (refine ixJ' (Int.toNat _) ?_ ?_ ?_; (focus ((first | rfl | decide | omega | (simp; done)); done)); (focus ((first | decide | omega | (simp; done) | (simp; omega)); done))) | with_reducible refine ixS _ rfl (by assumption) ?_ | (with_reducible refine shlI ?_ ?_; (focus (first | decide | omega))) | (refine exI (callZ rfl rfl (if_pos ?_)) ?_; (focus ((first | decide | omega | (simp; done) | (simp; omega)); done)))))
          conv => whnf
          refine ⟨(k + 1, n, []), ⟨hk, by show s.length < k + 1 + n; omega, h3.trans (by rw [h5]), Nat.zero_le _⟩, by show s.length - (k + 1) < s.length - k; omega, FgL.mk [0] rfl ⟨Wk.noref rfl, Wk.ptr rfl rfl, Wk.noref rfl, Wk.int rfl, trivial⟩ ⟨⟨rfl, rfl, rfl, rfl, BodyGe.pre (rest := []) rfl rfl⟩, trivial⟩ rfl⟩
        | cons a acc =>
          dsimp only
          repeat' ((conv => whnf); first | with_reducible refine ixS _ rfl hx ?_ | (first | (with_reducible refine condT ?_ ?_; (focus ((first | assumption | decide | (simp; done) | (simp; omega)); done))) | (with_reducible refine condF ?_ ?_; (focus ((first | assumption | decide | (simp; done) | (simp; omega)); done))) | with_reducible refine condB (fun h => ?_) (fun h => ?_) | with_reducible refine exI rfl ?_ | with_reducible refine eqR rfl ?_ | (with_reducible refine exW (wrapN1 ?_) ?_; (focus (omega))) | (with_reducible refine exW (wrapN ?_) ?_; (focus (omega))) | (with_reducible refine exW (wrapB ?_ ?_) ?_; (focus (omega)); (focus (omega))) | with_reducible refine exW rfl ?_ | (with_reducible refine ixJ _ rfl ?_ ?_; (focus ((first | decide | omega | (simp; done) | (simp; omega)); done))) | (with_reducible refine ixJ' _ rfl ?_ ?_; (focus ((first | decide | omega | (simp; done) | (simp; omega)); done))) | (refine ixJ (Int.toNat _) ?_ ?_ ?_; (focus ((first | rfl | decide | omega | (simp; done)); done)); (focus ((first | decide | omega | (simp; done) | (simp; omega)); done))) | (refine ixJ' (Int.toNat _) ?_ ?_ ?_; (focus ((first | rfl | decide | omega | (simp; done)); done)); (focus ((first | decide | omega | (simp; done) | (simp; omega)); done))) | with_reducible refine ixS _ rfl (by assumption) ?_ | (with_reducible refine shlI ?_ ?_; (focus (first | decide | omega))) | (refine exI (callZ rfl rfl (if_pos ?_)) ?_; (focus ((first | decide | omega | (simp; done) | (simp; omega)); done)))))
          conv => whnf
          refine ⟨(k + 1, n, a :: acc), ⟨hk, by show s.length < k + 1 + n; omega, h3.trans (by rw [h5]), by show (a :: acc).length ≤ k + 1; omega⟩, by show s.length - (k + 1) < s.length - k; omega, FgL.mk [0, 1] rfl ⟨Wk.noref rfl, Wk.ptr rfl rfl, Wk.slice rfl rfl rfl (Nat.le_refl _) (Nat.le_refl _) rfl, Wk.int rfl, trivial⟩ ⟨⟨rfl, rfl, rfl, rfl, BodyGe.pre (rest := []) rfl rfl⟩, ⟨rfl, rfl, rfl, rfl, BodyGe.pre (rest := []) (List.append_nil _).symm (tksC_refs _)⟩, trivial⟩ rfl⟩
      | false =>
        by_cases hr : s[k] = 47 ∧ s[k + 1]? = some 47
        · -- a remark
          obtain ⟨r1, r2⟩ := hr
          have hk1 : k + 1 < s.length := by
            refine Classical.byContradiction fun h => ?_
            rw [List.getElem?_eq_none (by omega)] at r2; cases r2
          have r3 : s[k + 1] = 47 := by have := List.getElem?_eq_getElem hk1; rw [this] at r2; exact Option.some.inj r2
          have e2 : decide (((k + 1 : Nat) : Int) < (s.length : Int)) = true := by simp; omega
          have hx1 : s[k + 1]? = some s[k + 1] := by simp [hk1]
          have h5 := lexAt_rem (n := n) hk1 r1 r3
          have q1 : ((s[k].toNat : Int) == 47) = true := by rw [r1]; rfl
          have q2 : ((s[k + 1].toNat : Int) == 47) = true := by rw [r3]; rfl
          have hpos : 0 < spanN (· != 10) (s.drop k) := by rw [spanN_at hk, r1, if_pos (by decide)]; omega
          cases acc with
          | nil =>
            dsimp only
            repeat' ((conv => whnf); first | with_reducible refine ixS _ rfl hx ?_ | with_reducible refine ixS _ rfl hx1 ?_ | (first | (with_reducible refine condT ?_ ?_; (focus ((first | assumption | decide | (simp; done) | (simp; omega)); done))) | (with_reducible refine condF ?_ ?_; (focus ((first | assumption | decide | (simp; done) | (simp; omega)); done))) | with_reducible refine condB (fun h => ?_) (fun h => ?_) | with_reducible refine exI rfl ?_ | with_reducible refine eqR rfl ?_ | (with_reducible refine exW (wrapN1 ?_) ?_; (focus (omega))) | (with_reducible refine exW (wrapN ?_) ?_; (focus (omega))) | (with_reducible refine exW (wrapB ?_ ?_) ?_; (focus (omega)); (focus (omega))) | with_reducible refine exW rfl ?_ | (with_reducible refine ixJ _ rfl ?_ ?_; (focus ((first | decide | omega | (simp; done) | (simp; omega)); done))) | (with_reducible refine ixJ' _ rfl ?_ ?_; (focus ((first | decide | omega | (simp; done) | (simp; omega)); done))) | (refine ixJ (Int.toNat _) ?_ ?_ ?_; (focus ((first | rfl | decide | omega | (simp; done)); done)); (focus ((first | decide | omega | (simp; done) | (simp; omega)); done))) | (refine ixJ' (Int.toNat _) ?_ ?_ ?_; (focus ((first | rfl | decide | omega | (simp; done)); done)); (focus ((first | decide | omega | (simp; done) | (simp; omega)); done))) | with_reducible refine ixS _ rfl (by assumption) ?_ | (with_reducible refine shlI ?_ ?_; (focus (first | decide | omega))) | (refine exI (callZ rfl rfl (if_pos ?_)) ?_; (focus ((first | decide | omega | (simp; done) | (simp; omega)); done)))))
            conv => whnf
            refine ⟨Nat, (fun e => e ≤ s.length ∧ k ≤ e ∧ spanN (· != 10) (s.drop k) = (e - k) + spanN (· != 10) (s.drop e)), (fun e => [(0, .str s), (3, .ptr 0 0), (4, .nslice), (5, .int .i64 e)]), (fun _ => [⟨true, 0, 0, .cells [.int .i64 0, .int .i64 0] 26⟩]), (fun e => s.length - e), ⟨k, ⟨by omega, by omega, by omega⟩, FgL.mk [0] rfl ⟨Wk.noref rfl, Wk.ptr rfl rfl, Wk.noref rfl, Wk.int rfl, trivial⟩ ⟨⟨rfl, rfl, rfl, rfl, BodyGe.pre (rest := []) rfl rfl⟩, trivial⟩ rfl⟩, ?_⟩
            intro e ⟨he, hke, hsp⟩
            by_cases hlt : e < s.length
            · have f1 : decide ((e : Int) < (s.length : Int)) = true := by simpa using hlt
              have hye : s[e]? = some s[e] := by simp [hlt]
              have hat := spanN_at (p := (· != 10)) hlt
              cases hp : ((s[e].toNat : Int) != 10) with
              | true =>
                rw [hp, if_pos rfl] at hat
                repeat' ((conv => whnf); first | with_reducible refine ixS _ rfl hye ?_ | (first | (with_reducible refine condT ?_ ?_; (focus ((first | assumption | decide | (simp; done) | (simp; omega)); done))) | (with_reducible refine condF ?_ ?_; (focus ((first | assumption | decide | (simp; done) | (simp; omega)); done))) | with_reducible refine condB (fun h => ?_) (fun h => ?_) | with_reducible refine exI rfl ?_ | with_reducible refine eqR rfl ?_ | (with_reducible refine exW (wrapN1 ?_) ?_; (focus (omega))) | (with_reducible refine exW (wrapN ?_) ?_; (focus (omega))) | (with_reducible refine exW (wrapB ?_ ?_) ?_; (focus (omega)); (focus (omega))) | with_reducible refine exW rfl ?_ | (with_reducible refine ixJ _ rfl ?_ ?_; (focus ((first | decide | omega | (simp; done) | (simp; omega)); done))) | (with_reducible refine ixJ' _ rfl ?_ ?_; (focus ((first | decide | omega | (simp; done) | (simp; omega)); done))) | (refine ixJ (Int.toNat _) ?_ ?_ ?_; (focus ((first | rfl | decide | omega | (simp; done)); done)); (focus ((first | decide | omega | (simp; done) | (simp; omega)); done))) | (refine ixJ' (Int.toNat _) ?_ ?_ ?_; (focus ((first | rfl | decide | omega | (simp; done)); done)); (focus ((first | decide | omega | (simp; done) | (simp; omega)); done))) | with_reducible refine ixS _ rfl (by assumption) ?_ | (with_reducible refine shlI ?_ ?_; (focus (first | decide | omega))) | (refine exI (callZ rfl rfl (if_pos ?_)) ?_; (focus ((first | decide | omega | (simp; done) | (simp; omega)); done)))))
                conv => whnf
                exact ⟨e + 1, ⟨hlt, by omega, by omega⟩, by show s.length - (e + 1) < s.length - e; omega, FgL.mk [0] rfl ⟨Wk.noref rfl, Wk.ptr rfl rfl, Wk.noref rfl, Wk.int rfl, trivial⟩ ⟨⟨rfl, rfl, rfl, rfl, BodyGe.pre (rest := []) rfl rfl⟩, trivial⟩ rfl⟩
              | false =>
                rw [hp, if_neg (by decide)] at hat
                have h6 : k + spanN (· != 10) (s.drop k) = e := by omega
                rw [h6] at h5
                repeat' ((conv => whnf); first | with_reducible refine ixS _ rfl hye ?_ | (first | (with_reducible refine condT ?_ ?_; (focus ((first | assumption | decide | (simp; done) | (simp; omega)); done))) | (with_reducible refine condF ?_ ?_; (focus ((first | assumption | decide | (simp; done) | (simp; omega)); done))) | with_reducible refine condB (fun h => ?_) (fun h => ?_) | with_reducible refine exI rfl ?_ | with_reducible refine eqR rfl ?_ | (with_reducible refine exW (wrapN1 ?_) ?_; (focus (omega))) | (with_reducible refine exW (wrapN ?_) ?_; (focus (omega))) | (with_reducible refine exW (wrapB ?_ ?_) ?_; (focus (omega)); (focus (omega))) | with_reducible refine exW rfl ?_ | (with_reducible refine ixJ _ rfl ?_ ?_; (focus ((first | decide | omega | (simp; done) | (simp; omega)); done))) | (with_reducible refine ixJ' _ rfl ?_ ?_; (focus ((first | decide | omega | (simp; done) | (simp; omega)); done))) | (refine ixJ (Int.toNat _) ?_ ?_ ?_; (focus ((first | rfl | decide | omega | (simp; done)); done)); (focus ((first | decide | omega | (simp; done) | (simp; omega)); done))) | (refine ixJ' (Int.toNat _) ?_ ?_ ?_; (focus ((first | rfl | decide | omega | (simp; done)); done)); (focus ((first | decide | omega | (simp; done) | (simp; omega)); done))) | with_reducible refine ixS _ rfl (by assumption) ?_ | (with_reducible refine shlI ?_ ?_; (focus (first | decide | omega))) | (refine exI (callZ rfl rfl (if_pos ?_)) ?_; (focus ((first | decide | omega | (simp; done) | (simp; omega)); done)))))
                conv => whnf
                exact ⟨(e, n, []), ⟨he, by show s.length < e + n; omega, h3.trans (by rw [h5]), by show List.length [] ≤ e; omega⟩, by show s.length - e < s.length - k; omega, FgL.mk [0] rfl ⟨Wk.noref rfl, Wk.ptr rfl rfl, Wk.noref rfl, Wk.int rfl, trivial⟩ ⟨⟨rfl, rfl, rfl, rfl, BodyGe.pre (rest := []) rfl rfl⟩, trivial⟩ rfl⟩
            · have f1 : decide ((e : Int) < (s.length : Int)) = false := by simpa using hlt
              have hat := spanN_end (p := (· != 10)) hlt
              have h6 : k + spanN (· != 10) (s.drop k) = e := by omega
              rw [h6] at h5
              repeat' ((conv => whnf); (first | (with_reducible refine condT ?_ ?_; (focus ((first | assumption | decide | (simp; done) | (simp; omega)); done))) | (with_reducible refine condF ?_ ?_; (focus ((first | assumption | decide | (simp; done) | (simp; omega)); done))) | with_reducible refine condB (fun h => ?_) (fun h => ?_) | with_reducible refine exI rfl ?_ | with_reducible refine eqR rfl ?_ | (with_reducible refine exW (wrapN1 ?_) ?_; (focus (omega))) | (with_reducible refine exW (wrapN ?_) ?_; (focus (omega))) | (with_reducible refine exW (wrapB ?_ ?_) ?_; (focus (omega)); (focus (omega))) | with_reducible refine exW rfl ?_ | (with_reducible refine ixJ _ rfl ?_ ?_; (focus ((first | decide | omega | (simp; done) | (simp; omega)); done))) | (with_reducible refine ixJ' _ rfl ?_ ?_; (focus ((first | decide | omega | (simp; done) | (simp; omega)); done))) | (refine ixJ (Int.toNat _) ?_ ?_ ?_; (focus ((first | rfl | decide | omega | (simp; done)); done)); (focus ((first | decide | omega | (simp; done) | (simp; omega)); done))) | (refine ixJ' (Int.toNat _) ?_ ?_ ?_; (focus ((first | rfl | decide | omega | (simp; done)); done)); (focus ((first | decide | omega | (simp; done) | (simp; omega)); done))) | with_reducible refine ixS _ rfl (by assumption) ?_ | (with_reducible refine shlI ?_ ?_; (focus (first | decide | omega))) | (refine exI (callZ rfl rfl (if_pos ?_)) ?_; (focus ((first | decide | omega | (simp; done) | (simp; omega)); done)))))
              conv => whnf
              exact ⟨(e, n, []), ⟨he, by show s.length < e + n; omega, h3.trans (by rw [h5]), by show List.length [] ≤ e; omega⟩, by show s.length - e < s.length - k; omega, FgL.mk [0] rfl ⟨Wk.noref rfl, Wk.ptr rfl rfl, Wk.noref rfl, Wk.int rfl, trivial⟩ ⟨⟨rfl, rfl, rfl, rfl, BodyGe.pre (rest := []) rfl rfl⟩, trivial⟩ rfl⟩
          | cons a acc =>
            dsimp only
            repeat' ((conv => whnf); first | with_reducible refine ixS _ rfl hx ?_ | with_reducible refine ixS _ rfl hx1 ?_ | (first | (with_reducible refine condT ?_ ?_; (focus ((first | assumption | decide | (simp; done) | (simp; omega)); done))) | (with_reducible refine condF ?_ ?_; (focus ((first | assumption | decide | (simp; done) | (simp; omega)); done))) | with_reducible refine condB (fun h => ?_) (fun h => ?_) | with_reducible refine exI rfl ?_ | with_reducible refine eqR rfl ?_ | (with_reducible refine exW (wrapN1 ?_) ?_; (focus (omega))) | (with_reducible refine exW (wrapN ?_) ?_; (focus (omega))) | (with_reducible refine exW (wrapB ?_ ?_) ?_; (focus (omega)); (focus (omega))) | with_reducible refine exW rfl ?_ | (with_reducible refine ixJ _ rfl ?_ ?_; (focus ((first | decide | omega | (simp; done) | (simp; omega)); done))) | (with_reducible refine ixJ' _ rfl ?_ ?_; (focus ((first | decide | omega | (simp; done) | (simp; omega)); done))) | (refine ixJ (Int.toNat _) ?_ ?_ ?_; (focus ((first | rfl | decide | omega | (simp; done)); done)); (focus ((first | decide | omega | (simp; done) | (simp; omega)); done))) | (refine ixJ' (Int.toNat _) ?_ ?_ ?_; (focus ((first | rfl | decide | omega | (simp; done)); done)); (focus ((first | decide | omega | (simp; done) | (simp; omega)); done))) | with_reducible refine ixS _ rfl (by assumption) ?_ | (with_reducible refine shlI ?_ ?_; (focus (first | decide | omega))) | (refine exI (callZ rfl rfl (if_pos ?_)) ?_; (focus ((first | decide | omega | (simp; done) | (simp; omega)); done)))))
            conv => whnf
            refine ⟨Nat, (fun e => e ≤ s.length ∧ k ≤ e ∧ spanN (· != 10) (s.drop k) = (e - k) + spanN (· != 10) (s.drop e)), (fun e => [(0, .str s), (3, .ptr 0 0), (4, .slice 1 0 (a :: acc).length (a :: acc).length 4), (5, .int .i64 e)]), (fun _ => [⟨true, 0, 0, .cells [.int .i64 0, .int .i64 0] 26⟩, ⟨true, 1, 0, .cells (tksC (a :: acc)) 30⟩]), (fun e => s.length - e), ⟨k, ⟨by omega, by omega, by omega⟩, FgL.mk [0, 1] rfl ⟨Wk.noref rfl, Wk.ptr rfl rfl, Wk.slice rfl rfl rfl (Nat.le_refl _) (Nat.le_refl _) rfl, Wk.int rfl, trivial⟩ ⟨⟨rfl, rfl, rfl, rfl, BodyGe.pre (rest := []) rfl rfl⟩, ⟨rfl, rfl, rfl, rfl, BodyGe.pre (rest := []) (List.append_nil _).symm (tksC_refs _)⟩, trivial⟩ rfl⟩, ?_⟩
            intro e ⟨he, hke, hsp⟩
            by_cases hlt : e < s.length
            · have f1 : decide ((e : Int) < (s.length : Int)) = true := by simpa using hlt
              have hye : s[e]? = some s[e] := by simp [hlt]
              have hat := spanN_at (p := (· != 10)) hlt
              cases hp : ((s[e].toNat : Int) != 10) with
              | true =>
                rw [hp, if_pos rfl] at hat
                repeat' ((conv => whnf); first | with_reducible refine ixS _ rfl hye ?_ | (first | (with_reducible refine condT ?_ ?_; (focus ((first | assumption | decide | (simp; done) | (simp; omega)); done))) | (with_reducible refine condF ?_ ?_; (focus ((first | assumption | decide | (simp; done) | (simp; omega)); done))) | with_reducible refine condB (fun h => ?_) (fun h => ?_) | with_reducible refine exI rfl ?_ | with_reducible refine eqR rfl ?_ | (with_reducible refine exW (wrapN1 ?_) ?_; (focus (omega))) | (with_reducible refine exW (wrapN ?_) ?_; (focus (omega))) | (with_reducible refine exW (wrapB ?_ ?_) ?_; (focus (omega)); (focus (omega))) | with_reducible refine exW rfl ?_ | (with_reducible refine ixJ _ rfl ?_ ?_; (focus ((first | decide | omega | (simp; done) | (simp; omega)); done))) | (with_reducible refine ixJ' _ rfl ?_ ?_; (focus ((first | decide | omega | (simp; done) | (simp; omega)); done))) | (refine ixJ (Int.toNat _) ?_ ?_ ?_; (focus ((first | rfl | decide | omega | (simp; done)); done)); (focus ((first | decide | omega | (simp; done) | (simp; omega)); done))) | (refine ixJ' (Int.toNat _) ?_ ?_ ?_; (focus ((first | rfl | decide | omega | (simp; done)); done)); (focus ((first | decide | omega | (simp; done) | (simp; omega)); done))) | with_reducible refine ixS _ rfl (by assumption) ?_ | (with_reducible refine shlI ?_ ?_; (focus (first | decide | omega))) | (refine exI (callZ rfl rfl (if_pos ?_)) ?_; (focus ((first | decide | omega | (simp; done) | (simp; omega)); done)))))
                conv => whnf
                exact ⟨e + 1, ⟨hlt, by omega, by omega⟩, by show s.length - (e + 1) < s.length - e; omega, FgL.mk [0, 1] rfl ⟨Wk.noref rfl, Wk.ptr rfl rfl, Wk.slice rfl rfl rfl (Nat.le_refl _) (Nat.le_refl _) rfl, Wk.int rfl, trivial⟩ ⟨⟨rfl, rfl, rfl, rfl, BodyGe.pre (rest := []) rfl rfl⟩, ⟨rfl, rfl, rfl, rfl, BodyGe.pre (rest := []) (List.append_nil _).symm (tksC_refs _)⟩, trivial⟩ rfl⟩
              | false =>
                rw [hp, if_neg (by decide)] at hat
                have h6 : k + spanN (· != 10) (s.drop k) = e := by omega
                rw [h6] at h5
                repeat' ((conv => whnf); first | with_reducible refine ixS _ rfl hye ?_ | (first | (with_reducible refine condT ?_ ?_; (focus ((first | assumption | decide | (simp; done) | (simp; omega)); done))) | (with_reducible refine condF ?_ ?_; (focus ((first | assumption | decide | (simp; done) | (simp; omega)); done))) | with_reducible refine condB (fun h => ?_) (fun h => ?_) | with_reducible refine exI rfl ?_ | with_reducible refine eqR rfl ?_ | (with_reducible refine exW (wrapN1 ?_) ?_; (focus (omega))) | (with_reducible refine exW (wrapN ?_) ?_; (focus (omega))) | (with_reducible refine exW (wrapB ?_ ?_) ?_; (focus (omega)); (focus (omega))) | with_reducible refine exW rfl ?_ | (with_reducible refine ixJ _ rfl ?_ ?_; (focus ((first | decide | omega | (simp; done) | (simp; omega)); done))) | (with_reducible refine ixJ' _ rfl ?_ ?_; (focus ((first | decide | omega | (simp; done) | (simp; omega)); done))) | (refine ixJ (Int.toNat _) ?_ ?_ ?_; (focus ((first | rfl | decide | omega | (simp; done)); done)); (focus ((first | decide | omega | (simp; done) | (simp; omega)); done))) | (refine ixJ' (Int.toNat _) ?_ ?_ ?_; (focus ((first | rfl | decide | omega | (simp; done)); done)); (focus ((first | decide | omega | (simp; done) | (simp; omega)); done))) | with_reducible refine ixS _ rfl (by assumption) ?_ | (with_reducible refine shlI ?_ ?_; (focus (first | decide | omega))) | (refine exI (callZ rfl rfl (if_pos ?_)) ?_; (focus ((first | decide | omega | (simp; done) | (simp; omega)); done)))))
                conv => whnf
                exact ⟨(e, n, (a :: acc)), ⟨he, by show s.length < e + n; omega, h3.trans (by rw [h5]), by show List.length (a :: acc) ≤ e; omega⟩, by show s.length - e < s.length - k; omega, FgL.mk [0, 1] rfl ⟨Wk.noref rfl, Wk.ptr rfl rfl, Wk.slice rfl rfl rfl (Nat.le_refl _) (Nat.le_refl _) rfl, Wk.int rfl, trivial⟩ ⟨⟨rfl, rfl, rfl, rfl, BodyGe.pre (rest := []) rfl rfl⟩, ⟨rfl, rfl, rfl, rfl, BodyGe.pre (rest := []) (List.append_nil _).symm (tksC_refs _)⟩, trivial⟩ rfl⟩
            · have f1 : decide ((e : Int) < (s.length : Int)) = false := by simpa using hlt
              have hat := spanN_end (p := (· != 10)) hlt
              have h6 : k + spanN (· != 10) (s.drop k) = e := by omega
              rw [h6] at h5
              repeat' ((conv => whnf); (first | (with_reducible refine condT ?_ ?_; (focus ((first | assumption | decide | (simp; done) | (simp; omega)); done))) | (with_reducible refine condF ?_ ?_; (focus ((first | assumption | decide | (simp; done) | (simp; omega)); done))) | with_reducible refine condB (fun h => ?_) (fun h => ?_) | with_reducible refine exI rfl ?_ | with_reducible refine eqR rfl ?_ | (with_reducible refine exW (wrapN1 ?_) ?_; (focus (omega))) | (with_reducible refine exW (wrapN ?_) ?_; (focus (omega))) | (with_reducible refine exW (wrapB ?_ ?_) ?_; (focus (omega)); (focus (omega))) | with_reducible refine exW rfl ?_ | (with_reducible refine ixJ _ rfl ?_ ?_; (focus ((first | decide | omega | (simp; done) | (simp; omega)); done))) | (with_reducible refine ixJ' _ rfl ?_ ?_; (focus ((first | decide | omega | (simp; done) | (simp; omega)); done))) | (refine ixJ (Int.toNat _) ?_ ?_ ?_; (focus ((first | rfl | decide | omega | (simp; done)); done)); (focus ((first | decide | omega | (simp; done) | (simp; omega)); done))) | (refine ixJ' (Int.toNat _) ?_ ?_ ?_; (focus ((first | rfl | decide | omega | (simp; done)); done)); (focus ((first | decide | omega | (simp; done) | (simp; omega)); done))) | with_reducible refine ixS _ rfl (by assumption) ?_ | (with_reducible refine shlI ?_ ?_; (focus (first | decide | omega))) | (refine exI (callZ rfl rfl (if_pos ?_)) ?_; (focus ((first | decide | omega | (simp; done) | (simp; omega)); done)))))
              conv => whnf
              exact ⟨(e, n, (a :: acc)), ⟨he, by show s.length < e + n; omega, h3.trans (by rw [h5]), by show List.length (a :: acc) ≤ e; omega⟩, by show s.length - e < s.length - k; omega, FgL.mk [0, 1] rfl ⟨Wk.noref rfl, Wk.ptr rfl rfl, Wk.slice rfl rfl rfl (Nat.le_refl _) (Nat.le_refl _) rfl, Wk.int rfl, trivial⟩ ⟨⟨rfl, rfl, rfl, rfl, BodyGe.pre (rest := []) rfl rfl⟩, ⟨rfl, rfl, rfl, rfl, BodyGe.pre (rest := []) (List.append_nil _).symm (tksC_refs _)⟩, trivial⟩ rfl⟩
        · have e2 : F8 21 [.str s, .int .i64 k] = some (oneR s k) := by
            show (if s.length ≤ 65536 ∧ k < s.length then some (oneR s k) else none) = _
            rw [if_pos ⟨hs, hk⟩]
          have hb21 : hasBody Tryd.prog 21 = true := by kernel_rfl
          obtain ⟨n, rfl⟩ : ∃ m, n = m + 1 := ⟨n - 1, by omega⟩
          have h5 := lexAt_tok (n := n) hk hb hr
          cases htk : tok1 (s.drop k) with
          | none =>
            rw [htk] at h5
            have e3 : oneR s k = noTok := by unfold oneR; rw [htk]
            rw [e3] at e2
            have e9 : lexN s = .inl k := by rw [h3, h5]; rfl
            have eR : allR s = .tuple [.nslice, .agg [.int .i64 4, .int .i64 k]] := by unfold allR; rw [if_neg (by omega), e9]
            rw [eR]
            clear h3 h5 htk e9 eR
            by_cases h47 : s[k] = 47
            · have q1 : ((s[k].toNat : Int) == 47) = true := by rw [h47]; rfl
              by_cases hk1 : k + 1 < s.length
              · have f2 : decide (((k + 1 : Nat) : Int) < (s.length : Int)) = true := by simp; omega
                have hx1 : s[k + 1]? = some s[k + 1] := by simp [hk1]
                have q2 : ((s[k + 1].toNat : Int) == 47) = false := by
                  refine beq_eq_false_iff_ne.2 fun e => hr ⟨h47, by rw [hx1]; congr 1; apply UInt8.toNat_inj.1; simp; omega⟩
                cases acc with
                | nil =>
                  dsimp only
                  repeat' ((conv => whnf); first | with_reducible refine ixS _ rfl hx ?_ | with_reducible refine ixS _ rfl hx1 ?_ | with_reducible refine exI (callZ hb21 rfl e2) ?_ | (first | (with_reducible refine condT ?_ ?_; (focus ((first | assumption | decide | (simp; done) | (simp; omega)); done))) | (with_reducible refine condF ?_ ?_; (focus ((first | assumption | decide | (simp; done) | (simp; omega)); done))) | with_reducible refine condB (fun h => ?_) (fun h => ?_) | with_reducible refine exI rfl ?_ | with_reducible refine eqR rfl ?_ | (with_reducible refine exW (wrapN1 ?_) ?_; (focus (omega))) | (with_reducible refine exW (wrapN ?_) ?_; (focus (omega))) | (with_reducible refine exW (wrapB ?_ ?_) ?_; (focus (omega)); (focus (omega))) | with_reducible refine exW rfl ?_ | (with_reducible refine ixJ _ rfl ?_ ?_; (focus ((first | decide | omega | (simp; done) | (simp; omega)); done))) | (with_reducible refine ixJ' _ rfl ?_ ?_; (focus ((first | decide | omega | (simp; done) | (simp; omega)); done))) | (refine ixJ (Int.toNat _) ?_ ?_ ?_; (focus ((first | rfl | decide | omega | (simp; done)); done)); (focus ((first | decide | omega | (simp; done) | (simp; omega)); done))) | (refine ixJ' (Int.toNat _) ?_ ?_ ?_; (focus ((first | rfl | decide | omega | (simp; done)); done)); (focus ((first | decide | omega | (simp; done) | (simp; omega)); done))) | with_reducible refine ixS _ rfl (by assumption) ?_ | (with_reducible refine shlI ?_ ?_; (focus (first | decide | omega))) | (refine exI (callZ rfl rfl (if_pos ?_)) ?_; (focus ((first | decide | omega | (simp; done) | (simp; omega)); done)))))
                  rfl
                | cons a acc =>
                  dsimp only
                  repeat' ((conv => whnf); first | with_reducible refine ixS _ rfl hx ?_ | with_reducible refine ixS _ rfl hx1 ?_ | with_reducible refine exI (callZ hb21 rfl e2) ?_ | (first | (with_reducible refine condT ?_ ?_; (focus ((first | assumption | decide | (simp; done) | (simp; omega)); done))) | (with_reducible refine condF ?_ ?_; (focus ((first | assumption | decide | (simp; done) | (simp; omega)); done))) | with_reducible refine condB (fun h => ?_) (fun h => ?_) | with_reducible refine exI rfl ?_ | with_reducible refine eqR rfl ?_ | (with_reducible refine exW (wrapN1 ?_) ?_; (focus (omega))) | (with_reducible refine exW (wrapN ?_) ?_; (focus (omega))) | (with_reducible refine exW (wrapB ?_ ?_) ?_; (focus (omega)); (focus (omega))) | with_reducible refine exW rfl ?_ | (with_reducible refine ixJ _ rfl ?_ ?_; (focus ((first | decide | omega | (simp; done) | (simp; omega)); done))) | (with_reducible refine ixJ' _ rfl ?_ ?_; (focus ((first | decide | omega | (simp; done) | (simp; omega)); done))) | (refine ixJ (Int.toNat _) ?_ ?_ ?_; (focus ((first | rfl | decide | omega | (simp; done)); done)); (focus ((first | decide | omega | (simp; done) | (simp; omega)); done))) | (refine ixJ' (Int.toNat _) ?_ ?_ ?_; (focus ((first | rfl | decide | omega | (simp; done)); done)); (focus ((first | decide | omega | (simp; done) | (simp; omega)); done))) | with_reducible refine ixS _ rfl (by assumption) ?_ | (with_reducible refine shlI ?_ ?_; (focus (first | decide | omega))) | (refine exI (callZ rfl rfl (if_pos ?_)) ?_; (focus ((first | decide | omega | (simp; done) | (simp; omega)); done)))))
                  rfl
              · have f2 : decide (((k + 1 : Nat) : Int) < (s.length : Int)) = false := by simp; omega
                cases acc with
                | nil =>
                  dsimp only
                  repeat' ((conv => whnf); first | with_reducible refine ixS _ rfl hx ?_ | with_reducible refine exI (callZ hb21 rfl e2) ?_ | (first | (with_reducible refine condT ?_ ?_; (focus ((first | assumption | decide | (simp; done) | (simp; omega)); done))) | (with_reducible refine condF ?_ ?_; (focus ((first | assumption | decide | (simp; done) | (simp; omega)); done))) | with_reducible refine condB (fun h => ?_) (fun h => ?_) | with_reducible refine exI rfl ?_ | with_reducible refine eqR rfl ?_ | (with_reducible refine exW (wrapN1 ?_) ?_; (focus (omega))) | (with_reducible refine exW (wrapN ?_) ?_; (focus (omega))) | (with_reducible refine exW (wrapB ?_ ?_) ?_; (focus (omega)); (focus (omega))) | with_reducible refine exW rfl ?_ | (with_reducible refine ixJ _ rfl ?_ ?_; (focus ((first | decide | omega | (simp; done) | (simp; omega)); done))) | (with_reducible refine ixJ' _ rfl ?_ ?_; (focus ((first | decide | omega | (simp; done) | (simp; omega)); done))) | (refine ixJ (Int.toNat _) ?_ ?_ ?_; (focus ((first | rfl | decide | omega | (simp; done)); done)); (focus ((first | decide | omega | (simp; done) | (simp; omega)); done))) | (refine ixJ' (Int.toNat _) ?_ ?_ ?_; (focus ((first | rfl | decide | omega | (simp; done)); done)); (focus ((first | decide | omega | (simp; done) | (simp; omega)); done))) | with_reducible refine ixS _ rfl (by assumption) ?_ | (with_reducible refine shlI ?_ ?_; (focus (first | decide | omega))) | (refine exI (callZ rfl rfl (if_pos ?_)) ?_; (focus ((first | decide | omega | (simp; done) | (simp; omega)); done)))))
                  rfl
                | cons a acc =>
                  dsimp only
                  repeat' ((conv => whnf); first | with_reducible refine ixS _ rfl hx ?_ | with_reducible refine exI (callZ hb21 rfl e2) ?_ | (first | (with_reducible refine condT ?_ ?_; (focus ((first | assumption | decide | (simp; done) | (simp; omega)); done))) | (with_reducible refine condF ?_ ?_; (focus ((first | assumption | decide | (simp; done) | (simp; omega)); done))) | with_reducible refine condB (fun h => ?_) (fun h => ?_) | with_reducible refine exI rfl ?_ | with_reducible refine eqR rfl ?_ | (with_reducible refine exW (wrapN1 ?_) ?_; (focus (omega))) | (with_reducible refine exW (wrapN ?_) ?_; (focus (omega))) | (with_reducible refine exW (wrapB ?_ ?_) ?_; (focus (omega)); (focus (omega))) | with_reducible refine exW rfl ?_ | (with_reducible refine ixJ _ rfl ?_ ?_; (focus ((first | decide | omega | (simp; done) | (simp; omega)); done))) | (with_reducible refine ixJ' _ rfl ?_ ?_; (focus ((first | decide | omega | (simp; done) | (simp; omega)); done))) | (refine ixJ (Int.toNat _) ?_ ?_ ?_; (focus ((first | rfl | decide | omega | (simp; done)); done)); (focus ((first | decide | omega | (simp; done) | (simp; omega)); done))) | (refine ixJ' (Int.toNat _) ?_ ?_ ?_; (focus ((first | rfl | decide | omega | (simp; done)); done)); (focus ((first | decide | omega | (simp; done) | (simp; omega)); done))) | with_reducible refine ixS _ rfl (by assumption) ?_ | (with_reducible refine shlI ?_ ?_; (focus (first | decide | omega))) | (refine exI (callZ rfl rfl (if_pos ?_)) ?_; (focus ((first | decide | omega | (simp; done) | (simp; omega)); done)))))
                  rfl
            · have q1 : ((s[k].toNat : Int) == 47) = false := beq_eq_false_iff_ne.2 fun e => h47 (by apply UInt8.toNat_inj.1; simp; omega)
              cases acc with
              | nil =>
                dsimp only
                repeat' ((conv => whnf); first | with_reducible refine ixS _ rfl hx ?_ | with_reducible refine exI (callZ hb21 rfl e2) ?_ | (first | (with_reducible refine condT ?_ ?_; (focus ((first | assumption | decide | (simp; done) | (simp; omega)); done))) | (with_reducible refine condF ?_ ?_; (focus ((first | assumption | decide | (simp; done) | (simp; omega)); done))) | with_reducible refine condB (fun h => ?_) (fun h => ?_) | with_reducible refine exI rfl ?_ | with_reducible refine eqR rfl ?_ | (with_reducible refine exW (wrapN1 ?_) ?_; (focus (omega))) | (with_reducible refine exW (wrapN ?_) ?_; (focus (omega))) | (with_reducible refine exW (wrapB ?_ ?_) ?_; (focus (omega)); (focus (omega))) | with_reducible refine exW rfl ?_ | (with_reducible refine ixJ _ rfl ?_ ?_; (focus ((first | decide | omega | (simp; done) | (simp; omega)); done))) | (with_reducible refine ixJ' _ rfl ?_ ?_; (focus ((first | decide | omega | (simp; done) | (simp; omega)); done))) | (refine ixJ (Int.toNat _) ?_ ?_ ?_; (focus ((first | rfl | decide | omega | (simp; done)); done)); (focus ((first | decide | omega | (simp; done) | (simp; omega)); done))) | (refine ixJ' (Int.toNat _) ?_ ?_ ?_; (focus ((first | rfl | decide | omega | (simp; done)); done)); (focus ((first | decide | omega | (simp; done) | (simp; omega)); done))) | with_reducible refine ixS _ rfl (by assumption) ?_ | (with_reducible refine shlI ?_ ?_; (focus (first | decide | omega))) | (refine exI (callZ rfl rfl (if_pos ?_)) ?_; (focus ((first | decide | omega | (simp; done) | (simp; omega)); done)))))
                rfl
              | cons a acc =>
                dsimp only
                repeat' ((conv => whnf); first | with_reducible refine ixS _ rfl hx ?_ | with_reducible refine exI (callZ hb21 rfl e2) ?_ | (first | (with_reducible refine condT ?_ ?_; (focus ((first | assumption | decide | (simp; done) | (simp; omega)); done))) | (with_reducible refine condF ?_ ?_; (focus ((first | assumption | decide | (simp; done) | (simp; omega)); done))) | with_reducible refine condB (fun h => ?_) (fun h => ?_) | with_reducible refine exI rfl ?_ | with_reducible refine eqR rfl ?_ | (with_reducible refine exW (wrapN1 ?_) ?_; (focus (omega))) | (with_reducible refine exW (wrapN ?_) ?_; (focus (omega))) | (with_reducible refine exW (wrapB ?_ ?_) ?_; (focus (omega)); (focus (omega))) | with_reducible refine exW rfl ?_ | (with_reducible refine ixJ _ rfl ?_ ?_; (focus ((first | decide | omega | (simp; done) | (simp; omega)); done))) | (with_reducible refine ixJ' _ rfl ?_ ?_; (focus ((first | decide | omega | (simp; done) | (simp; omega)); done))) | (refine ixJ (Int.toNat _) ?_ ?_ ?_; (focus ((first | rfl | decide | omega | (simp; done)); done)); (focus ((first | decide | omega | (simp; done) | (simp; omega)); done))) | (refine ixJ' (Int.toNat _) ?_ ?_ ?_; (focus ((first | rfl | decide | omega | (simp; done)); done)); (focus ((first | decide | omega | (simp; done) | (simp; omega)); done))) | with_reducible refine ixS _ rfl (by assumption) ?_ | (with_reducible refine shlI ?_ ?_; (focus (first | decide | omega))) | (refine exI (callZ rfl rfl (if_pos ?_)) ?_; (focus ((first | decide | omega | (simp; done) | (simp; omega)); done)))))
                rfl
          | some tk =>
            obtain ⟨kd, len, num⟩ := tk
            rw [htk] at h5
            have e3 : oneR s k = .tuple [.agg [.int .i64 kd, .str ((s.drop k).take len), .int .i64 num, .int .i64 k], .bool true] := by unfold oneR; rw [htk]
            rw [e3] at e2
            have hl := tok1_len htk
            rw [List.length_drop] at hl
            have tl : ((s.drop k).take len).length = len := by rw [List.length_take, List.length_drop]; omega
            have h6 : lexN s = joinL (acc ++ [⟨kd, (s.drop k).take len, num, k⟩]) (lexAt n (k + len) s) := by rw [h3, h5]; exact joinL_snoc _ _ _
            clear h3 h5 htk
            by_cases h47 : s[k] = 47
            · have q1 : ((s[k].toNat : Int) == 47) = true := by rw [h47]; rfl
              by_cases hk1 : k + 1 < s.length
              · have f2 : decide (((k + 1 : Nat) : Int) < (s.length : Int)) = true := by simp; omega
                have hx1 : s[k + 1]? = some s[k + 1] := by simp [hk1]
                have q2 : ((s[k + 1].toNat : Int) == 47) = false := by
                  refine beq_eq_false_iff_ne.2 fun e => hr ⟨h47, by rw [hx1]; congr 1; apply UInt8.toNat_inj.1; simp; omega⟩
                cases acc with
                | nil =>
                  dsimp only
                  repeat' ((conv => whnf); first | with_reducible refine ixS _ rfl hx ?_ | with_reducible refine ixS _ rfl hx1 ?_ | with_reducible refine exI (callZ hb21 rfl e2) ?_ | (first | (with_reducible refine condT ?_ ?_; (focus ((first | assumption | decide | (simp; done) | (simp; omega)); done))) | (with_reducible refine condF ?_ ?_; (focus ((first | assumption | decide | (simp; done) | (simp; omega)); done))) | with_reducible refine condB (fun h => ?_) (fun h => ?_) | with_reducible refine exI rfl ?_ | with_reducible refine eqR rfl ?_ | (with_reducible refine exW (wrapN1 ?_) ?_; (focus (omega))) | (with_reducible refine exW (wrapN ?_) ?_; (focus (omega))) | (with_reducible refine exW (wrapB ?_ ?_) ?_; (focus (omega)); (focus (omega))) | with_reducible refine exW rfl ?_ | (with_reducible refine ixJ _ rfl ?_ ?_; (focus ((first | decide | omega | (simp; done) | (simp; omega)); done))) | (with_reducible refine ixJ' _ rfl ?_ ?_; (focus ((first | decide | omega | (simp; done) | (simp; omega)); done))) | (refine ixJ (Int.toNat _) ?_ ?_ ?_; (focus ((first | rfl | decide | omega | (simp; done)); done)); (focus ((first | decide | omega | (simp; done) | (simp; omega)); done))) | (refine ixJ' (Int.toNat _) ?_ ?_ ?_; (focus ((first | rfl | decide | omega | (simp; done)); done)); (focus ((first | decide | omega | (simp; done) | (simp; omega)); done))) | with_reducible refine ixS _ rfl (by assumption) ?_ | (with_reducible refine shlI ?_ ?_; (focus (first | decide | omega))) | (refine exI (callZ rfl rfl (if_pos ?_)) ?_; (focus ((first | decide | omega | (simp; done) | (simp; omega)); done)))))
                  conv => whnf
                  exact ⟨(k + len, n, [⟨kd, (s.drop k).take len, num, k⟩]), ⟨by show k + len ≤ s.length; omega, by show s.length < k + len + n; omega, h6, by show 1 ≤ k + len; omega⟩, by show s.length - (k + len) < s.length - k; omega, FgL.mk [0, 3] rfl ⟨Wk.noref rfl, Wk.ptr rfl rfl, Wk.slice rfl rfl rfl (Nat.le_refl _) (Nat.le_refl _) rfl, Wk.int (by rw [tl]), trivial⟩ ⟨⟨rfl, rfl, rfl, rfl, BodyGe.pre (rest := []) rfl rfl⟩, ⟨rfl, rfl, rfl, rfl, BodyGe.pre (rest := []) rfl rfl⟩, trivial⟩ rfl⟩
                | cons a acc =>
                  dsimp only
                  repeat' ((conv => whnf); first | with_reducible refine ixS _ rfl hx ?_ | with_reducible refine ixS _ rfl hx1 ?_ | with_reducible refine exI (callZ hb21 rfl e2) ?_ | (first | (with_reducible refine condT ?_ ?_; (focus ((first | assumption | decide | (simp; done) | (simp; omega)); done))) | (with_reducible refine condF ?_ ?_; (focus ((first | assumption | decide | (simp; done) | (simp; omega)); done))) | with_reducible refine condB (fun h => ?_) (fun h => ?_) | with_reducible refine exI rfl ?_ | with_reducible refine eqR rfl ?_ | (with_reducible refine exW (wrapN1 ?_) ?_; (focus (omega))) | (with_reducible refine exW (wrapN ?_) ?_; (focus (omega))) | (with_reducible refine exW (wrapB ?_ ?_) ?_; (focus (omega)); (focus (omega))) | with_reducible refine exW rfl ?_ | (with_reducible refine ixJ _ rfl ?_ ?_; (focus ((first | decide | omega | (simp; done) | (simp; omega)); done))) | (with_reducible refine ixJ' _ rfl ?_ ?_; (focus ((first | decide | omega | (simp; done) | (simp; omega)); done))) | (refine ixJ (Int.toNat _) ?_ ?_ ?_; (focus ((first | rfl | decide | omega | (simp; done)); done)); (focus ((first | decide | omega | (simp; done) | (simp; omega)); done))) | (refine ixJ' (Int.toNat _) ?_ ?_ ?_; (focus ((first | rfl | decide | omega | (simp; done)); done)); (focus ((first | decide | omega | (simp; done) | (simp; omega)); done))) | with_reducible refine ixS _ rfl (by assumption) ?_ | (with_reducible refine shlI ?_ ?_; (focus (first | decide | omega))) | (refine exI (callZ rfl rfl (if_pos ?_)) ?_; (focus ((first | decide | omega | (simp; done) | (simp; omega)); done)))))
                  conv => whnf
                  refine exI (app_ok aT (xs := [.int .i64 kd, .str ((s.drop k).take len), .int .i64 num, .int .i64 k]) rfl rfl rfl (tksC_len _) rfl (by decide) ⟨by simp at h4 ⊢; omega, by simp at h4 ⊢; omega⟩) ?_
                  repeat' ((conv => whnf); (first | (with_reducible refine condT ?_ ?_; (focus ((first | assumption | decide | (simp; done) | (simp; omega)); done))) | (with_reducible refine condF ?_ ?_; (focus ((first | assumption | decide | (simp; done) | (simp; omega)); done))) | with_reducible refine condB (fun h => ?_) (fun h => ?_) | with_reducible refine exI rfl ?_ | with_reducible refine eqR rfl ?_ | (with_reducible refine exW (wrapN1 ?_) ?_; (focus (omega))) | (with_reducible refine exW (wrapN ?_) ?_; (focus (omega))) | (with_reducible refine exW (wrapB ?_ ?_) ?_; (focus (omega)); (focus (omega))) | with_reducible refine exW rfl ?_ | (with_reducible refine ixJ _ rfl ?_ ?_; (focus ((first | decide | omega | (simp; done) | (simp; omega)); done))) | (with_reducible refine ixJ' _ rfl ?_ ?_; (focus ((first | decide | omega | (simp; done) | (simp; omega)); done))) | (refine ixJ (Int.toNat _) ?_ ?_ ?_; (focus ((first | rfl | decide | omega | (simp; done)); done)); (focus ((first | decide | omega | (simp; done) | (simp; omega)); done))) | (refine ixJ' (Int.toNat _) ?_ ?_ ?_; (focus ((first | rfl | decide | omega | (simp; done)); done)); (focus ((first | decide | omega | (simp; done) | (simp; omega)); done))) | with_reducible refine ixS _ rfl (by assumption) ?_ | (with_reducible refine shlI ?_ ?_; (focus (first | decide | omega))) | (refine exI (callZ rfl rfl (if_pos ?_)) ?_; (focus ((first | decide | omega | (simp; done) | (simp; omega)); done)))))
                  conv => whnf
                  refine ⟨(k + len, n, (a :: acc) ++ [⟨kd, (s.drop k).take len, num, k⟩]), ⟨by show k + len ≤ s.length; omega, by show s.length < k + len + n; omega, h6, by show ((a :: acc) ++ [_]).length ≤ k + len; rw [len_snoc]; omega⟩, by show s.length - (k + len) < s.length - k; omega, FgL.mk [0, 4] rfl ?_ ?_ rfl⟩
                  · refine ⟨Wk.noref rfl, Wk.ptr rfl rfl, Wk.slice rfl rfl ?_ ?_ ?_ rfl, Wk.int ?_, trivial⟩
                    · exact (len_snoc (a :: acc) _).symm
                    · exact Nat.le_refl _
                    · exact Nat.le_of_eq (len_snoc (a :: acc) _)
                    · rw [tl]
                  · exact ⟨⟨rfl, rfl, rfl, rfl, BodyGe.pre (rest := []) rfl rfl⟩, ⟨rfl, rfl, rfl, rfl, BodyGe.pre (rest := []) ((tksC_append (a :: acc) ⟨kd, (s.drop k).take len, num, k⟩).symm.trans (List.append_nil _).symm) (tksC_refs _)⟩, trivial⟩
              · have f2 : decide (((k + 1 : Nat) : Int) < (s.length : Int)) = false := by simp; omega
                cases acc with
                | nil =>
                  dsimp only
                  repeat' ((conv => whnf); first | with_reducible refine ixS _ rfl hx ?_ | with_reducible refine exI (callZ hb21 rfl e2) ?_ | (first | (with_reducible refine condT ?_ ?_; (focus ((first | assumption | decide | (simp; done) | (simp; omega)); done))) | (with_reducible refine condF ?_ ?_; (focus ((first | assumption | decide | (simp; done) | (simp; omega)); done))) | with_reducible refine condB (fun h => ?_) (fun h => ?_) | with_reducible refine exI rfl ?_ | with_reducible refine eqR rfl ?_ | (with_reducible refine exW (wrapN1 ?_) ?_; (focus (omega))) | (with_reducible refine exW (wrapN ?_) ?_; (focus (omega))) | (with_reducible refine exW (wrapB ?_ ?_) ?_; (focus (omega)); (focus (omega))) | with_reducible refine exW rfl ?_ | (with_reducible refine ixJ _ rfl ?_ ?_; (focus ((first | decide | omega | (simp; done) | (simp; omega)); done))) | (with_reducible refine ixJ' _ rfl ?_ ?_; (focus ((first | decide | omega | (simp; done) | (simp; omega)); done))) | (refine ixJ (Int.toNat _) ?_ ?_ ?_; (focus ((first | rfl | decide | omega | (simp; done)); done)); (focus ((first | decide | omega | (simp; done) | (simp; omega)); done))) | (refine ixJ' (Int.toNat _) ?_ ?_ ?_; (focus ((first | rfl | decide | omega | (simp; done)); done)); (focus ((first | decide | omega | (simp; done) | (simp; omega)); done))) | with_reducible refine ixS _ rfl (by assumption) ?_ | (with_reducible refine shlI ?_ ?_; (focus (first | decide | omega))) | (refine exI (callZ rfl rfl (if_pos ?_)) ?_; (focus ((first | decide | omega | (simp; done) | (simp; omega)); done)))))
                  conv => whnf
                  exact ⟨(k + len, n, [⟨kd, (s.drop k).take len, num, k⟩]), ⟨by show k + len ≤ s.length; omega, by show s.length < k + len + n; omega, h6, by show 1 ≤ k + len; omega⟩, by show s.length - (k + len) < s.length - k; omega, FgL.mk [0, 3] rfl ⟨Wk.noref rfl, Wk.ptr rfl rfl, Wk.slice rfl rfl rfl (Nat.le_refl _) (Nat.le_refl _) rfl, Wk.int (by rw [tl]), trivial⟩ ⟨⟨rfl, rfl, rfl, rfl, BodyGe.pre (rest := []) rfl rfl⟩, ⟨rfl, rfl, rfl, rfl, BodyGe.pre (rest := []) rfl rfl⟩, trivial⟩ rfl⟩
                | cons a acc =>
                  dsimp only
                  repeat' ((conv => whnf); first | with_reducible refine ixS _ rfl hx ?_ | with_reducible refine exI (callZ hb21 rfl e2) ?_ | (first | (with_reducible refine condT ?_ ?_; (focus ((first | assumption | decide | (simp; done) | (simp; omega)); done))) | (with_reducible refine condF ?_ ?_; (focus ((first | assumption | decide | (simp; done) | (simp; omega)); done))) | with_reducible refine condB (fun h => ?_) (fun h => ?_) | with_reducible refine exI rfl ?_ | with_reducible refine eqR rfl ?_ | (with_reducible refine exW (wrapN1 ?_) ?_; (focus (omega))) | (with_reducible refine exW (wrapN ?_) ?_; (focus (omega))) | (with_reducible refine exW (wrapB ?_ ?_) ?_; (focus (omega)); (focus (omega))) | with_reducible refine exW rfl ?_ | (with_reducible refine ixJ _ rfl ?_ ?_; (focus ((first | decide | omega | (simp; done) | (simp; omega)); done))) | (with_reducible refine ixJ' _ rfl ?_ ?_; (focus ((first | decide | omega | (simp; done) | (simp; omega)); done))) | (refine ixJ (Int.toNat _) ?_ ?_ ?_; (focus ((first | rfl | decide | omega | (simp; done)); done)); (focus ((first | decide | omega | (simp; done) | (simp; omega)); done))) | (refine ixJ' (Int.toNat _) ?_ ?_ ?_; (focus ((first | rfl | decide | omega | (simp; done)); done)); (focus ((first | decide | omega | (simp; done) | (simp; omega)); done))) | with_reducible refine ixS _ rfl (by assumption) ?_ | (with_reducible refine shlI ?_ ?_; (focus (first | decide | omega))) | (refine exI (callZ rfl rfl (if_pos ?_)) ?_; (focus ((first | decide | omega | (simp; done) | (simp; omega)); done)))))
                  conv => whnf
                  refine exI (app_ok aT (xs := [.int .i64 kd, .str ((s.drop k).take len), .int .i64 num, .int .i64 k]) rfl rfl rfl (tksC_len _) rfl (by decide) ⟨by simp at h4 ⊢; omega, by simp at h4 ⊢; omega⟩) ?_
                  repeat' ((conv => whnf); (first | (with_reducible refine condT ?_ ?_; (focus ((first | assumption | decide | (simp; done) | (simp; omega)); done))) | (with_reducible refine condF ?_ ?_; (focus ((first | assumption | decide | (simp; done) | (simp; omega)); done))) | with_reducible refine condB (fun h => ?_) (fun h => ?_) | with_reducible refine exI rfl ?_ | with_reducible refine eqR rfl ?_ | (with_reducible refine exW (wrapN1 ?_) ?_; (focus (omega))) | (with_reducible refine exW (wrapN ?_) ?_; (focus (omega))) | (with_reducible refine exW (wrapB ?_ ?_) ?_; (focus (omega)); (focus (omega))) | with_reducible refine exW rfl ?_ | (with_reducible refine ixJ _ rfl ?_ ?_; (focus ((first | decide | omega | (simp; done) | (simp; omega)); done))) | (with_reducible refine ixJ' _ rfl ?_ ?_; (focus ((first | decide | omega | (simp; done) | (simp; omega)); done))) | (refine ixJ (Int.toNat _) ?_ ?_ ?_; (focus ((first | rfl | decide | omega | (simp; done)); done)); (focus ((first | decide | omega | (simp; done) | (simp; omega)); done))) | (refine ixJ' (Int.toNat _) ?_ ?_ ?_; (focus ((first | rfl | decide | omega | (simp; done)); done)); (focus ((first | decide | omega | (simp; done) | (simp; omega)); done))) | with_reducible refine ixS _ rfl (by assumption) ?_ | (with_reducible refine shlI ?_ ?_; (focus (first | decide | omega))) | (refine exI (callZ rfl rfl (if_pos ?_)) ?_; (focus ((first | decide | omega | (simp; done) | (simp; omega)); done)))))
                  conv => whnf
                  refine ⟨(k + len, n, (a :: acc) ++ [⟨kd, (s.drop k).take len, num, k⟩]), ⟨by show k + len ≤ s.length; omega, by show s.length < k + len + n; omega, h6, by show ((a :: acc) ++ [_]).length ≤ k + len; rw [len_snoc]; omega⟩, by show s.length - (k + len) < s.length - k; omega, FgL.mk [0, 4] rfl ?_ ?_ rfl⟩
                  · refine ⟨Wk.noref rfl, Wk.ptr rfl rfl, Wk.slice rfl rfl ?_ ?_ ?_ rfl, Wk.int ?_, trivial⟩
                    · exact (len_snoc (a :: acc) _).symm
                    · exact Nat.le_refl _
                    · exact Nat.le_of_eq (len_snoc (a :: acc) _)
                    · rw [tl]
                  · exact ⟨⟨rfl, rfl, rfl, rfl, BodyGe.pre (rest := []) rfl rfl⟩, ⟨rfl, rfl, rfl, rfl, BodyGe.pre (rest := []) ((tksC_append (a :: acc) ⟨kd, (s.drop k).take len, num, k⟩).symm.trans (List.append_nil _).symm) (tksC_refs _)⟩, trivial⟩
            · have q1 : ((s[k].toNat : Int) == 47) = false := beq_eq_false_iff_ne.2 fun e => h47 (by apply UInt8.toNat_inj.1; simp; omega)
              cases acc with
              | nil =>
                dsimp only
                repeat' ((conv => whnf); first | with_reducible refine ixS _ rfl hx ?_ | with_reducible refine exI (callZ hb21 rfl e2) ?_ | (first | (with_reducible refine condT ?_ ?_; (focus ((first | assumption | decide | (simp; done) | (simp; omega)); done))) | (with_reducible refine condF ?_ ?_; (focus ((first | assumption | decide | (simp; done) | (simp; omega)); done))) | with_reducible refine condB (fun h => ?_) (fun h => ?_) | with_reducible refine exI rfl ?_ | with_reducible refine eqR rfl ?_ | (with_reducible refine exW (wrapN1 ?_) ?_; (focus (omega))) | (with_reducible refine exW (wrapN ?_) ?_; (focus (omega))) | (with_reducible refine exW (wrapB ?_ ?_) ?_; (focus (omega)); (focus (omega))) | with_reducible refine exW rfl ?_ | (with_reducible refine ixJ _ rfl ?_ ?_; (focus ((first | decide | omega | (simp; done) | (simp; omega)); done))) | (with_reducible refine ixJ' _ rfl ?_ ?_; (focus ((first | decide | omega | (simp; done) | (simp; omega)); done))) | (refine ixJ (Int.toNat _) ?_ ?_ ?_; (focus ((first | rfl | decide | omega | (simp; done)); done)); (focus ((first | decide | omega | (simp; done) | (simp; omega)); done))) | (refine ixJ' (Int.toNat _) ?_ ?_ ?_; (focus ((first | rfl | decide | omega | (simp; done)); done)); (focus ((first | decide | omega | (simp; done) | (simp; omega)); done))) | with_reducible refine ixS _ rfl (by assumption) ?_ | (with_reducible refine shlI ?_ ?_; (focus (first | decide | omega))) | (refine exI (callZ rfl rfl (if_pos ?_)) ?_; (focus ((first | decide | omega | (simp; done) | (simp; omega)); done)))))
                conv => whnf
                exact ⟨(k + len, n, [⟨kd, (s.drop k).take len, num, k⟩]), ⟨by show k + len ≤ s.length; omega, by show s.length < k + len + n; omega, h6, by show 1 ≤ k + len; omega⟩, by show s.length - (k + len) < s.length - k; omega, FgL.mk [0, 3] rfl ⟨Wk.noref rfl, Wk.ptr rfl rfl, Wk.slice rfl rfl rfl (Nat.le_refl _) (Nat.le_refl _) rfl, Wk.int (by rw [tl]), trivial⟩ ⟨⟨rfl, rfl, rfl, rfl, BodyGe.pre (rest := []) rfl rfl⟩, ⟨rfl, rfl, rfl, rfl, BodyGe.pre (rest := []) rfl rfl⟩, trivial⟩ rfl⟩
              | cons a acc =>
                dsimp only
                repeat' ((conv => whnf); first | with_reducible refine ixS _ rfl hx ?_ | with_reducible refine exI (callZ hb21 rfl e2) ?_ | (first | (with_reducible refine condT ?_ ?_; (focus ((first | assumption | decide | (simp; done) | (simp; omega)); done))) | (with_reducible refine condF ?_ ?_; (focus ((first | assumption | decide | (simp; done) | (simp; omega)); done))) | with_reducible refine condB (fun h => ?_) (fun h => ?_) | with_reducible refine exI rfl ?_ | with_reducible refine eqR rfl ?_ | (with_reducible refine exW (wrapN1 ?_) ?_; (focus (omega))) | (with_reducible refine exW (wrapN ?_) ?_; (focus (omega))) | (with_reducible refine exW (wrapB ?_ ?_) ?_; (focus (omega)); (focus (omega))) | with_reducible refine exW rfl ?_ | (with_reducible refine ixJ _ rfl ?_ ?_; (focus ((first | decide | omega | (simp; done) | (simp; omega)); done))) | (with_reducible refine ixJ' _ rfl ?_ ?_; (focus ((first | decide | omega | (simp; done) | (simp; omega)); done))) | (refine ixJ (Int.toNat _) ?_ ?_ ?_; (focus ((first | rfl | decide | omega | (simp; done)); done)); (focus ((first | decide | omega | (simp; done) | (simp; omega)); done))) | (refine ixJ' (Int.toNat _) ?_ ?_ ?_; (focus ((first | rfl | decide | omega | (simp; done)); done)); (focus ((first | decide | omega | (simp; done) | (simp; omega)); done))) | with_reducible refine ixS _ rfl (by assumption) ?_ | (with_reducible refine shlI ?_ ?_; (focus (first | decide | omega))) | (refine exI (callZ rfl rfl (if_pos ?_)) ?_; (focus ((first | decide | omega | (simp; done) | (simp; omega)); done)))))
                conv => whnf
                refine exI (app_ok aT (xs := [.int .i64 kd, .str ((s.drop k).take len), .int .i64 num, .int .i64 k]) rfl rfl rfl (tksC_len _) rfl (by decide) ⟨by simp at h4 ⊢; omega, by simp at h4 ⊢; omega⟩) ?_
                repeat' ((conv => whnf); (first | (with_reducible refine condT ?_ ?_; (focus ((first | assumption | decide | (simp; done) | (simp; omega)); done))) | (with_reducible refine condF ?_ ?_; (focus ((first | assumption | decide | (simp; done) | (simp; omega)); done))) | with_reducible refine condB (fun h => ?_) (fun h => ?_) | with_reducible refine exI rfl ?_ | with_reducible refine eqR rfl ?_ | (with_reducible refine exW (wrapN1 ?_) ?_; (focus (omega))) | (with_reducible refine exW (wrapN ?_) ?_; (focus (omega))) | (with_reducible refine exW (wrapB ?_ ?_) ?_; (focus (omega)); (focus (omega))) | with_reducible refine exW rfl ?_ | (with_reducible refine ixJ _ rfl ?_ ?_; (focus ((first | decide | omega | (simp; done) | (simp; omega)); done))) | (with_reducible refine ixJ' _ rfl ?_ ?_; (focus ((first | decide | omega | (simp; done) | (simp; omega)); done))) | (refine ixJ (Int.toNat _) ?_ ?_ ?_; (focus ((first | rfl | decide | omega | (simp; done)); done)); (focus ((first | decide | omega | (simp; done) | (simp; omega)); done))) | (refine ixJ' (Int.toNat _) ?_ ?_ ?_; (focus ((first | rfl | decide | omega | (simp; done)); done)); (focus ((first | decide | omega | (simp; done) | (simp; omega)); done))) | with_reducible refine ixS _ rfl (by assumption) ?_ | (with_reducible refine shlI ?_ ?_; (focus (first | decide | omega))) | (refine exI (callZ rfl rfl (if_pos ?_)) ?_; (focus ((first | decide | omega | (simp; done) | (simp; omega)); done)))))
                conv => whnf
                refine ⟨(k + len, n, (a :: acc) ++ [⟨kd, (s.drop k).take len, num, k⟩]), ⟨by show k + len ≤ s.length; omega, by show s.length < k + len + n; omega, h6, by show ((a :: acc) ++ [_]).length ≤ k + len; rw [len_snoc]; omega⟩, by show s.length - (k + len) < s.length - k; omega, FgL.mk [0, 4] rfl ?_ ?_ rfl⟩
                · refine ⟨Wk.noref rfl, Wk.ptr rfl rfl, Wk.slice rfl rfl ?_ ?_ ?_ rfl, Wk.int ?_, trivial⟩
                  · exact (len_snoc (a :: acc) _).symm
                  · exact Nat.le_refl _
                  · exact Nat.le_of_eq (len_snoc (a :: acc) _)
                  · rw [tl]
                · exact ⟨⟨rfl, rfl, rfl, rfl, BodyGe.pre (rest := []) rfl rfl⟩, ⟨rfl, rfl, rfl, rfl, BodyGe.pre (rest := []) ((tksC_append (a :: acc) ⟨kd, (s.drop k).take len, num, k⟩).symm.trans (List.append_nil _).symm) (tksC_refs _)⟩, trivial⟩
    · have e1 : decide ((k : Int) < (s.length : Int)) = false := by simpa using hk
      have e9 : lexN s = .inr acc := by
        obtain ⟨n, rfl⟩ : ∃ m, n = m + 1 := ⟨n - 1, by omega⟩
        rw [h3, lexAt_end (by omega)]; simp [joinL]
      cases acc with
      | nil =>
        dsimp only
        repeat' ((conv => whnf); first | (with_reducible refine condT ?_ ?_; (focus ((first | assumption | decide | (simp; done) | (simp; omega)); done))) | (with_reducible refine condF ?_ ?_; (focus ((first | assumption | decide | (simp; done) | (simp; omega)); done))) | with_reducible refine condB (fun h => ?_) (fun h => ?_) | with_reducible refine exI rfl ?_ | with_reducible refine eqR rfl ?_ | (with_reducible refine exW (wrapN1 ?_) ?_; (focus (omega))) | (with_reducible refine exW (wrapN ?_) ?_; (focus (omega))) | (with_reducible refine exW (wrapB ?_ ?_) ?_; (focus (omega)); (focus (omega))) | with_reducible refine exW rfl ?_ | (with_reducible refine ixJ _ rfl ?_ ?_; (focus ((first | decide | omega | (simp; done) | (simp; omega)); done))) | (with_reducible refine ixJ' _ rfl ?_ ?_; (focus ((first | decide | omega | (simp; done) | (simp; omega)); done))) | (refine ixJ (Int.toNat _) ?_ ?_ ?_; (focus ((first | rfl | decide | omega | (simp; done)); done)); (focus ((first | decide | omega | (simp; done) | (simp; omega)); done))) | (refine ixJ' (Int.toNat _) ?_ ?_ ?_; (focus ((first | rfl | decide | omega | (simp; done)); done)); (focus ((first | decide | omega | (simp; done) | (simp; omega)); done))) | with_reducible refine ixS _ rfl (by assumption) ?_ | (with_reducible refine shlI ?_ ?_; (focus (first | decide | omega))) | (refine exI (callZ rfl rfl (if_pos ?_)) ?_; (focus ((first | decide | omega | (simp; done) | (simp; omega)); done))))
        unfold allR; rw [if_neg (by omega), e9]; rfl
      | cons a acc =>
        dsimp only
        repeat' ((conv => whnf); (first | (with_reducible refine condT ?_ ?_; (focus ((first | assumption | decide | (simp; done) | (simp; omega)); done))) | (with_reducible refine condF ?_ ?_; (focus ((first | assumption | decide | (simp; done) | (simp; omega)); done))) | with_reducible refine condB (fun h => ?_) (fun h => ?_) | with_reducible refine exI rfl ?_ | with_reducible refine eqR rfl ?_ | (with_reducible refine exW (wrapN1 ?_) ?_; (focus (omega))) | (with_reducible refine exW (wrapN ?_) ?_; (focus (omega))) | (with_reducible refine exW (wrapB ?_ ?_) ?_; (focus (omega)); (focus (omega))) | with_reducible refine exW rfl ?_ | (with_reducible refine ixJ _ rfl ?_ ?_; (focus ((first | decide | omega | (simp; done) | (simp; omega)); done))) | (with_reducible refine ixJ' _ rfl ?_ ?_; (focus ((first | decide | omega | (simp; done) | (simp; omega)); done))) | (refine ixJ (Int.toNat _) ?_ ?_ ?_; (focus ((first | rfl | decide | omega | (simp; done)); done)); (focus ((first | decide | omega | (simp; done) | (simp; omega)); done))) | (refine ixJ' (Int.toNat _) ?_ ?_ ?_; (focus ((first | rfl | decide | omega | (simp; done)); done)); (focus ((first | decide | omega | (simp; done) | (simp; omega)); done))) | with_reducible refine ixS _ rfl (by assumption) ?_ | (with_reducible refine shlI ?_ ?_; (focus (first | decide | omega))) | (refine exI (callZ rfl rfl (if_pos ?_)) ?_; (focus ((first | decide | omega | (simp; done) | (simp; omega)); done)))))
        conv => whnf
        refine exI (app_ok aT (xs := [.int .i64 5, .str [], .int .i64 0, .int .i64 s.length]) rfl rfl rfl (tksC_len _) rfl (by decide) ⟨by simp at h4 ⊢; omega, by simp at h4 ⊢; omega⟩) ?_
        repeat' ((conv => whnf); (first | (with_reducible refine condT ?_ ?_; (focus ((first | assumption | decide | (simp; done) | (simp; omega)); done))) | (with_reducible refine condF ?_ ?_; (focus ((first | assumption | decide | (simp; done) | (simp; omega)); done))) | with_reducible refine condB (fun h => ?_) (fun h => ?_) | with_reducible refine exI rfl ?_ | with_reducible refine eqR rfl ?_ | (with_reducible refine exW (wrapN1 ?_) ?_; (focus (omega))) | (with_reducible refine exW (wrapN ?_) ?_; (focus (omega))) | (with_reducible refine exW (wrapB ?_ ?_) ?_; (focus (omega)); (focus (omega))) | with_reducible refine exW rfl ?_ | (with_reducible refine ixJ _ rfl ?_ ?_; (focus ((first | decide | omega | (simp; done) | (simp; omega)); done))) | (with_reducible refine ixJ' _ rfl ?_ ?_; (focus ((first | decide | omega | (simp; done) | (simp; omega)); done))) | (refine ixJ (Int.toNat _) ?_ ?_ ?_; (focus ((first | rfl | decide | omega | (simp; done)); done)); (focus ((first | decide | omega | (simp; done) | (simp; omega)); done))) | (refine ixJ' (Int.toNat _) ?_ ?_ ?_; (focus ((first | rfl | decide | omega | (simp; done)); done)); (focus ((first | decide | omega | (simp; done) | (simp; omega)); done))) | with_reducible refine ixS _ rfl (by assumption) ?_ | (with_reducible refine shlI ?_ ?_; (focus (first | decide | omega))) | (refine exI (callZ rfl rfl (if_pos ?_)) ?_; (focus ((first | decide | omega | (simp; done) | (simp; omega)); done)))))
        conv => whnf
        refine ⟨.tuple [.rs (acc.length + 1 + 1) 4 (tksC (a :: acc) ++ Tk.cells ⟨5, [], 0, s.length⟩), .agg [.int .i64 0, .int .i64 0]], frz_two (frz_slice (b := 3) rfl ?_ ?_) (frz_aggL rfl), ?_⟩
        · exact (congrArg List.length (tksC_append (a :: acc) ⟨5, [], 0, s.length⟩)).symm.trans ((tksC_len _).trans (by simp))
        · exact (congrArg (List.all · lit) (tksC_append (a :: acc) ⟨5, [], 0, s.length⟩)).symm.trans (tksC_lit _)
        · show _ = allR s
          unfold allR; rw [if_neg (by omega), e9, ← tksC_append]; rfl
end Go.Proofs.YtacaaiiooedgjaaDoor.lex
end

/-
  Of 'cantileverlaw02': words; lists of tokens compared; LexReads.
-/
section
set_option linter.unusedVariables false
set_option linter.unusedSimpArgs false
namespace Go.Proofs.YtacaaiiooedgjaaDoor.lex
open Go.Abs Go.RowKit
set_option maxRecDepth 100000
set_option maxHeartbeats 4000000

def wordR (s : List UInt8) : AV := if s ≠ [] ∧ wordN s = s.length then .tuple [.int .i64 (if keysL.contains s then 2 else 1), .bool true] else .tuple [.int .i64 0, .bool false]
theorem plain_wordR (s : List UInt8) : plain (wordR s) = true := by unfold wordR; split <;> rfl
theorem look_ok' {H : AHeap} {b : Nat} (x : List UInt8) (h : mapEs H (.map b) = some (entsF 0 keysL)) : aLookup Tryd.prog 40 (.map b) (.str x) true H = some (.tuple [.agg [], .bool (keysL.contains x)]) := by
  obtain ⟨o, h1, h2, h3⟩ := find_ok x keysL 0 0
  have hz : tzero Tryd.prog 47 = some (.agg []) := by kernel_rfl
  simp only [aLookup, kd40, h, h1, ← h2]
  cases o with
  | none => simp [hz]
  | some p => have := h3 p rfl; obtain ⟨j, v⟩ := p; subst this; simp
section
attribute [local irreducible] wordN
theorem wordP_ok (s : List UInt8) (hs : s.length ≤ 65536) : ValOK Tryd.prog runLives.gl 10 [.str s] (wordR s) := by
  have e2 : F6 22 [.str s] = some (.int .i64 (wordN s)) := by simp only [F6]; rw [if_pos (by omega)]
  have hb : hasBody Tryd.prog 22 = true := by kernel_rfl
  refine fn_valI (fun g => Nat.beq g 22) 2 follows noNum F6_sound Tryd.func10 rfl ?_
  by_cases h0 : s = []
  · have e1 : (s == []) = true := by simpa using h0
    repeat' ((conv => whnf); (first | (with_reducible refine condT ?_ ?_; (focus ((first | assumption | decide | (simp; done) | (simp; omega)); done))) | (with_reducible refine condF ?_ ?_; (focus ((first | assumption | decide | (simp; done) | (simp; omega)); done))) | with_reducible refine condB (fun h => ?_) (fun h => ?_) | with_reducible refine exI rfl ?_ | with_reducible refine eqR rfl ?_ | (with_reducible refine exW (wrapN1 ?_) ?_; (focus (omega))) | (with_reducible refine exW (wrapN ?_) ?_; (focus (omega))) | (with_reducible refine exW (wrapB ?_ ?_) ?_; (focus (omega)); (focus (omega))) | with_reducible refine exW rfl ?_ | (with_reducible refine ixJ _ rfl ?_ ?_; (focus ((first | decide | omega | (simp; done) | (simp; omega)); done))) | (with_reducible refine ixJ' _ rfl ?_ ?_; (focus ((first | decide | omega | (simp; done) | (simp; omega)); done))) | (refine ixJ (Int.toNat _) ?_ ?_ ?_; (focus ((first | rfl | decide | omega | (simp; done)); done)); (focus ((first | decide | omega | (simp; done) | (simp; omega)); done))) | (refine ixJ' (Int.toNat _) ?_ ?_ ?_; (focus ((first | rfl | decide | omega | (simp; done)); done)); (focus ((first | decide | omega | (simp; done) | (simp; omega)); done))) | with_reducible refine ixS _ rfl (by assumption) ?_ | (with_reducible refine shlI ?_ ?_; (focus (first | decide | omega))) | (refine exI (callZ rfl rfl (if_pos ?_)) ?_; (focus ((first | decide | omega | (simp; done) | (simp; omega)); done)))))
    unfold wordR; rw [if_neg (by simp [h0])]
  · have e1 : (s == []) = false := by simpa using h0
    by_cases hw : wordN s = s.length
    · have e3 : ((wordN s : Int) != (s.length : Int)) = false := by rw [hw]; simp
      have eR : wordR s = .tuple [.int .i64 (if keysL.contains s then 2 else 1), .bool true] := by unfold wordR; rw [if_pos ⟨h0, hw⟩]
      rw [eR]
      cases hc : keysL.contains s with
      | true =>
        repeat' ((conv => whnf); first | (with_reducible refine exI (callZ hb rfl e2) ?_) | (with_reducible refine exI (look_ok' _ ?_) ?_; (focus rfl)) | (first | (with_reducible refine condT ?_ ?_; (focus ((first | assumption | decide | (simp; done) | (simp; omega)); done))) | (with_reducible refine condF ?_ ?_; (focus ((first | assumption | decide | (simp; done) | (simp; omega)); done))) | with_reducible refine condB (fun h => ?_) (fun h => ?_) | with_reducible refine exI rfl ?_ | with_reducible refine eqR rfl ?_ | (with_reducible refine exW (wrapN1 ?_) ?_; (focus (omega))) | (with_reducible refine exW (wrapN ?_) ?_; (focus (omega))) | (with_reducible refine exW (wrapB ?_ ?_) ?_; (focus (omega)); (focus (omega))) | with_reducible refine exW rfl ?_ | (with_reducible refine ixJ _ rfl ?_ ?_; (focus ((first | decide | omega | (simp; done) | (simp; omega)); done))) | (with_reducible refine ixJ' _ rfl ?_ ?_; (focus ((first | decide | omega | (simp; done) | (simp; omega)); done))) | (refine ixJ (Int.toNat _) ?_ ?_ ?_; (focus ((first | rfl | decide | omega | (simp; done)); done)); (focus ((first | decide | omega | (simp; done) | (simp; omega)); done))) | (refine ixJ' (Int.toNat _) ?_ ?_ ?_; (focus ((first | rfl | decide | omega | (simp; done)); done)); (focus ((first | decide | omega | (simp; done) | (simp; omega)); done))) | with_reducible refine ixS _ rfl (by assumption) ?_ | (with_reducible refine shlI ?_ ?_; (focus (first | decide | omega))) | (refine exI (callZ rfl rfl (if_pos ?_)) ?_; (focus ((first | decide | omega | (simp; done) | (simp; omega)); done)))))
        conv => whnf
        refine exI (look_ok' _ ?_) ?_
        · rfl
        rw [hc]
        repeat' ((conv => whnf); (first | (with_reducible refine condT ?_ ?_; (focus ((first | assumption | decide | (simp; done) | (simp; omega)); done))) | (with_reducible refine condF ?_ ?_; (focus ((first | assumption | decide | (simp; done) | (simp; omega)); done))) | with_reducible refine condB (fun h => ?_) (fun h => ?_) | with_reducible refine exI rfl ?_ | with_reducible refine eqR rfl ?_ | (with_reducible refine exW (wrapN1 ?_) ?_; (focus (omega))) | (with_reducible refine exW (wrapN ?_) ?_; (focus (omega))) | (with_reducible refine exW (wrapB ?_ ?_) ?_; (focus (omega)); (focus (omega))) | with_reducible refine exW rfl ?_ | (with_reducible refine ixJ _ rfl ?_ ?_; (focus ((first | decide | omega | (simp; done) | (simp; omega)); done))) | (with_reducible refine ixJ' _ rfl ?_ ?_; (focus ((first | decide | omega | (simp; done) | (simp; omega)); done))) | (refine ixJ (Int.toNat _) ?_ ?_ ?_; (focus ((first | rfl | decide | omega | (simp; done)); done)); (focus ((first | decide | omega | (simp; done) | (simp; omega)); done))) | (refine ixJ' (Int.toNat _) ?_ ?_ ?_; (focus ((first | rfl | decide | omega | (simp; done)); done)); (focus ((first | decide | omega | (simp; done) | (simp; omega)); done))) | with_reducible refine ixS _ rfl (by assumption) ?_ | (with_reducible refine shlI ?_ ?_; (focus (first | decide | omega))) | (refine exI (callZ rfl rfl (if_pos ?_)) ?_; (focus ((first | decide | omega | (simp; done) | (simp; omega)); done)))))
        rfl
      | false =>
        repeat' ((conv => whnf); first | (with_reducible refine exI (callZ hb rfl e2) ?_) | (with_reducible refine exI (look_ok' _ ?_) ?_; (focus rfl)) | (first | (with_reducible refine condT ?_ ?_; (focus ((first | assumption | decide | (simp; done) | (simp; omega)); done))) | (with_reducible refine condF ?_ ?_; (focus ((first | assumption | decide | (simp; done) | (simp; omega)); done))) | with_reducible refine condB (fun h => ?_) (fun h => ?_) | with_reducible refine exI rfl ?_ | with_reducible refine eqR rfl ?_ | (with_reducible refine exW (wrapN1 ?_) ?_; (focus (omega))) | (with_reducible refine exW (wrapN ?_) ?_; (focus (omega))) | (with_reducible refine exW (wrapB ?_ ?_) ?_; (focus (omega)); (focus (omega))) | with_reducible refine exW rfl ?_ | (with_reducible refine ixJ _ rfl ?_ ?_; (focus ((first | decide | omega | (simp; done) | (simp; omega)); done))) | (with_reducible refine ixJ' _ rfl ?_ ?_; (focus ((first | decide | omega | (simp; done) | (simp; omega)); done))) | (refine ixJ (Int.toNat _) ?_ ?_ ?_; (focus ((first | rfl | decide | omega | (simp; done)); done)); (focus ((first | decide | omega | (simp; done) | (simp; omega)); done))) | (refine ixJ' (Int.toNat _) ?_ ?_ ?_; (focus ((first | rfl | decide | omega | (simp; done)); done)); (focus ((first | decide | omega | (simp; done) | (simp; omega)); done))) | with_reducible refine ixS _ rfl (by assumption) ?_ | (with_reducible refine shlI ?_ ?_; (focus (first | decide | omega))) | (refine exI (callZ rfl rfl (if_pos ?_)) ?_; (focus ((first | decide | omega | (simp; done) | (simp; omega)); done)))))
        conv => whnf
        refine exI (look_ok' _ ?_) ?_
        · rfl
        rw [hc]
        repeat' ((conv => whnf); (first | (with_reducible refine condT ?_ ?_; (focus ((first | assumption | decide | (simp; done) | (simp; omega)); done))) | (with_reducible refine condF ?_ ?_; (focus ((first | assumption | decide | (simp; done) | (simp; omega)); done))) | with_reducible refine condB (fun h => ?_) (fun h => ?_) | with_reducible refine exI rfl ?_ | with_reducible refine eqR rfl ?_ | (with_reducible refine exW (wrapN1 ?_) ?_; (focus (omega))) | (with_reducible refine exW (wrapN ?_) ?_; (focus (omega))) | (with_reducible refine exW (wrapB ?_ ?_) ?_; (focus (omega)); (focus (omega))) | with_reducible refine exW rfl ?_ | (with_reducible refine ixJ _ rfl ?_ ?_; (focus ((first | decide | omega | (simp; done) | (simp; omega)); done))) | (with_reducible refine ixJ' _ rfl ?_ ?_; (focus ((first | decide | omega | (simp; done) | (simp; omega)); done))) | (refine ixJ (Int.toNat _) ?_ ?_ ?_; (focus ((first | rfl | decide | omega | (simp; done)); done)); (focus ((first | decide | omega | (simp; done) | (simp; omega)); done))) | (refine ixJ' (Int.toNat _) ?_ ?_ ?_; (focus ((first | rfl | decide | omega | (simp; done)); done)); (focus ((first | decide | omega | (simp; done) | (simp; omega)); done))) | with_reducible refine ixS _ rfl (by assumption) ?_ | (with_reducible refine shlI ?_ ?_; (focus (first | decide | omega))) | (refine exI (callZ rfl rfl (if_pos ?_)) ?_; (focus ((first | decide | omega | (simp; done) | (simp; omega)); done)))))
        rfl
    · have e3 : ((wordN s : Int) != (s.length : Int)) = true := by simp; omega
      repeat' ((conv => whnf); first | (with_reducible refine exI (callZ hb rfl e2) ?_) | (first | (with_reducible refine condT ?_ ?_; (focus ((first | assumption | decide | (simp; done) | (simp; omega)); done))) | (with_reducible refine condF ?_ ?_; (focus ((first | assumption | decide | (simp; done) | (simp; omega)); done))) | with_reducible refine condB (fun h => ?_) (fun h => ?_) | with_reducible refine exI rfl ?_ | with_reducible refine eqR rfl ?_ | (with_reducible refine exW (wrapN1 ?_) ?_; (focus (omega))) | (with_reducible refine exW (wrapN ?_) ?_; (focus (omega))) | (with_reducible refine exW (wrapB ?_ ?_) ?_; (focus (omega)); (focus (omega))) | with_reducible refine exW rfl ?_ | (with_reducible refine ixJ _ rfl ?_ ?_; (focus ((first | decide | omega | (simp; done) | (simp; omega)); done))) | (with_reducible refine ixJ' _ rfl ?_ ?_; (focus ((first | decide | omega | (simp; done) | (simp; omega)); done))) | (refine ixJ (Int.toNat _) ?_ ?_ ?_; (focus ((first | rfl | decide | omega | (simp; done)); done)); (focus ((first | decide | omega | (simp; done) | (simp; omega)); done))) | (refine ixJ' (Int.toNat _) ?_ ?_ ?_; (focus ((first | rfl | decide | omega | (simp; done)); done)); (focus ((first | decide | omega | (simp; done) | (simp; omega)); done))) | with_reducible refine ixS _ rfl (by assumption) ?_ | (with_reducible refine shlI ?_ ?_; (focus (first | decide | omega))) | (refine exI (callZ rfl rfl (if_pos ?_)) ?_; (focus ((first | decide | omega | (simp; done) | (simp; omega)); done)))))
      unfold wordR; rw [if_neg (fun h => hw h.2)]
end
theorem wordN_at0 {s : List UInt8} (h : 0 < s.length) : wordN s = if letB s[0].toNat then spanN worB s else 0 := by
  cases s with
  | nil => simp at h
  | cons c t => rfl
def wInv (s : List UInt8) (i : Nat) : Prop := i ≤ s.length ∧ (i = 0 ∨ (0 < i ∧ wordN s = spanN worB s ∧ spanN worB s = i + spanN worB (s.drop i)))
theorem wInv_step {s : List UInt8} {i : Nat} (h : wInv s i) (hlt : i < s.length) (h2 : letB s[i].toNat = true ∨ (i ≠ 0 ∧ worB s[i].toNat = true)) : wInv s (i + 1) := by
  have hat := spanN_at (p := worB) hlt
  have hw : worB s[i].toNat = true := by rcases h2 with h2 | h2; simp [worB, h2]; exact h2.2
  rw [hw, if_pos rfl] at hat
  refine ⟨hlt, .inr ⟨by omega, ?_, ?_⟩⟩
  · rcases h.2 with h0 | h0
    · subst h0
      have : letB s[0].toNat = true := by rcases h2 with h2 | h2; exact h2; exact absurd rfl h2.1
      rw [wordN_at0 (by omega), this, if_pos rfl]
    · exact h0.2.1
  · rcases h.2 with h0 | h0
    · subst h0; rw [List.drop_zero] at hat; omega
    · omega
theorem wInv_bad {s : List UInt8} {i : Nat} (h : wInv s i) (hlt : i < s.length) (h1 : letB s[i].toNat = false) (h2 : i = 0 ∨ worB s[i].toNat = false) : wordR s = .tuple [.int .i64 0, .bool false] := by
  unfold wordR
  rw [if_neg]
  rintro ⟨_, h4⟩
  rcases h.2 with h0 | h0
  · subst h0
    rw [wordN_at0 (by omega), h1] at h4
    simp at h4; omega
  · have hat := spanN_at (p := worB) hlt
    rcases h2 with h2 | h2
    · omega
    · rw [h2, if_neg (by decide)] at hat; omega
theorem wInv_end {s : List UInt8} (h : wInv s s.length) (h0 : s ≠ []) : wordR s = .tuple [.int .i64 (if keysL.contains s then 2 else 1), .bool true] := by
  have hl : 0 < s.length := List.length_pos_iff.2 h0
  unfold wordR
  rw [if_pos]
  refine ⟨h0, ?_⟩
  rcases h.2 with h1 | h1
  · omega
  · have := spanN_end (p := worB) (s := s) (e := s.length) (by omega); omega
theorem wordD_ok (s : List UInt8) (hs : s.length ≤ 65536) : ValOK Tryd.prog runLives.gl 11 [.str s] (wordR s) := by
  refine fn_val follows noNum F8_sound Tryd.func11 rfl ?_
  conv => whnf
  repeat' ((conv => whnf); first | (with_reducible refine condT ?_ ?_; (focus ((first | assumption | decide | (simp; done) | (simp; omega)); done))) | (with_reducible refine condF ?_ ?_; (focus ((first | assumption | decide | (simp; done) | (simp; omega)); done))) | with_reducible refine condB (fun h => ?_) (fun h => ?_) | with_reducible refine exI rfl ?_ | with_reducible refine eqR rfl ?_ | (with_reducible refine exW (wrapN1 ?_) ?_; (focus (omega))) | (with_reducible refine exW (wrapN ?_) ?_; (focus (omega))) | (with_reducible refine exW (wrapB ?_ ?_) ?_; (focus (omega)); (focus (omega))) | with_reducible refine exW rfl ?_ | (with_reducible refine ixJ _ rfl ?_ ?_; (focus ((first | decide | omega | (simp; done) | (simp; omega)); done))) | (with_reducible refine ixJ' _ rfl ?_ ?_; (focus ((first | decide | omega | (simp; done) | (simp; omega)); done))) | (refine ixJ (Int.toNat _) ?_ ?_ ?_; (focus ((first | rfl | decide | omega | (simp; done)); done)); (focus ((first | decide | omega | (simp; done) | (simp; omega)); done))) | (refine ixJ' (Int.toNat _) ?_ ?_ ?_; (focus ((first | rfl | decide | omega | (simp; done)); done)); (focus ((first | decide | omega | (simp; done) | (simp; omega)); done))) | with_reducible refine ixS _ rfl (by assumption) ?_ | (with_reducible refine shlI ?_ ?_; (focus (first | decide | omega))) | (refine exI (callZ rfl rfl (if_pos ?_)) ?_; (focus ((first | decide | omega | (simp; done) | (simp; omega)); done))))
  conv => whnf
  refine ⟨Nat, wInv s, (fun i => [(0, .str s), (4, .int .i64 i)]), (fun _ => []), (fun i => s.length - i), ⟨0, ⟨Nat.zero_le _, .inl rfl⟩, FgL.mk0 rfl ⟨Wk.noref rfl, Wk.int rfl, trivial⟩⟩, ?_⟩
  intro i hI
  have hi := hI.1
  by_cases hlt : i < s.length
  · have e1 : decide ((i : Int) < (s.length : Int)) = true := by simpa using hlt
    have hx : s[i]? = some s[i] := by simp [hlt]
    have u1 := u8_eq s[i] 95 (by decide)
    cases hl : letB s[i].toNat with
    | true =>
      repeat' ((conv => whnf); first | with_reducible refine ixS _ rfl hx ?_ | (first | (with_reducible refine condT ?_ ?_; (focus ((first | assumption | decide | (simp; done) | (simp; omega)); done))) | (with_reducible refine condF ?_ ?_; (focus ((first | assumption | decide | (simp; done) | (simp; omega)); done))) | with_reducible refine condB (fun h => ?_) (fun h => ?_) | with_reducible refine exI rfl ?_ | with_reducible refine eqR rfl ?_ | (with_reducible refine exW (wrapN1 ?_) ?_; (focus (omega))) | (with_reducible refine exW (wrapN ?_) ?_; (focus (omega))) | (with_reducible refine exW (wrapB ?_ ?_) ?_; (focus (omega)); (focus (omega))) | with_reducible refine exW rfl ?_ | (with_reducible refine ixJ _ rfl ?_ ?_; (focus ((first | decide | omega | (simp; done) | (simp; omega)); done))) | (with_reducible refine ixJ' _ rfl ?_ ?_; (focus ((first | decide | omega | (simp; done) | (simp; omega)); done))) | (refine ixJ (Int.toNat _) ?_ ?_ ?_; (focus ((first | rfl | decide | omega | (simp; done)); done)); (focus ((first | decide | omega | (simp; done) | (simp; omega)); done))) | (refine ixJ' (Int.toNat _) ?_ ?_ ?_; (focus ((first | rfl | decide | omega | (simp; done)); done)); (focus ((first | decide | omega | (simp; done) | (simp; omega)); done))) | with_reducible refine ixS _ rfl (by assumption) ?_ | (with_reducible refine shlI ?_ ?_; (focus (first | decide | omega))) | (refine exI (callZ rfl rfl (if_pos ?_)) ?_; (focus ((first | decide | omega | (simp; done) | (simp; omega)); done)))))
      conv => whnf
      exact ⟨i + 1, wInv_step hI hlt (.inl hl), by show s.length - (i + 1) < s.length - i; omega, FgL.mk0 rfl ⟨Wk.noref rfl, Wk.int rfl, trivial⟩⟩
    | false =>
      by_cases h0 : i = 0
      · have e2 : ((i : Int) == 0) = true := by simp [h0]
        repeat' ((conv => whnf); first | with_reducible refine ixS _ rfl hx ?_ | (first | (with_reducible refine condT ?_ ?_; (focus ((first | assumption | decide | (simp; done) | (simp; omega)); done))) | (with_reducible refine condF ?_ ?_; (focus ((first | assumption | decide | (simp; done) | (simp; omega)); done))) | with_reducible refine condB (fun h => ?_) (fun h => ?_) | with_reducible refine exI rfl ?_ | with_reducible refine eqR rfl ?_ | (with_reducible refine exW (wrapN1 ?_) ?_; (focus (omega))) | (with_reducible refine exW (wrapN ?_) ?_; (focus (omega))) | (with_reducible refine exW (wrapB ?_ ?_) ?_; (focus (omega)); (focus (omega))) | with_reducible refine exW rfl ?_ | (with_reducible refine ixJ _ rfl ?_ ?_; (focus ((first | decide | omega | (simp; done) | (simp; omega)); done))) | (with_reducible refine ixJ' _ rfl ?_ ?_; (focus ((first | decide | omega | (simp; done) | (simp; omega)); done))) | (refine ixJ (Int.toNat _) ?_ ?_ ?_; (focus ((first | rfl | decide | omega | (simp; done)); done)); (focus ((first | decide | omega | (simp; done) | (simp; omega)); done))) | (refine ixJ' (Int.toNat _) ?_ ?_ ?_; (focus ((first | rfl | decide | omega | (simp; done)); done)); (focus ((first | decide | omega | (simp; done) | (simp; omega)); done))) | with_reducible refine ixS _ rfl (by assumption) ?_ | (with_reducible refine shlI ?_ ?_; (focus (first | decide | omega))) | (refine exI (callZ rfl rfl (if_pos ?_)) ?_; (focus ((first | decide | omega | (simp; done) | (simp; omega)); done)))))
        exact (wInv_bad hI hlt hl (.inl h0)).symm
      · have e2 : ((i : Int) == 0) = false := by simp [h0]
        cases hw : worB s[i].toNat with
        | true =>
          repeat' ((conv => whnf); first | with_reducible refine ixS _ rfl hx ?_ | (first | (with_reducible refine condT ?_ ?_; (focus ((first | assumption | decide | (simp; done) | (simp; omega)); done))) | (with_reducible refine condF ?_ ?_; (focus ((first | assumption | decide | (simp; done) | (simp; omega)); done))) | with_reducible refine condB (fun h => ?_) (fun h => ?_) | with_reducible refine exI rfl ?_ | with_reducible refine eqR rfl ?_ | (with_reducible refine exW (wrapN1 ?_) ?_; (focus (omega))) | (with_reducible refine exW (wrapN ?_) ?_; (focus (omega))) | (with_reducible refine exW (wrapB ?_ ?_) ?_; (focus (omega)); (focus (omega))) | with_reducible refine exW rfl ?_ | (with_reducible refine ixJ _ rfl ?_ ?_; (focus ((first | decide | omega | (simp; done) | (simp; omega)); done))) | (with_reducible refine ixJ' _ rfl ?_ ?_; (focus ((first | decide | omega | (simp; done) | (simp; omega)); done))) | (refine ixJ (Int.toNat _) ?_ ?_ ?_; (focus ((first | rfl | decide | omega | (simp; done)); done)); (focus ((first | decide | omega | (simp; done) | (simp; omega)); done))) | (refine ixJ' (Int.toNat _) ?_ ?_ ?_; (focus ((first | rfl | decide | omega | (simp; done)); done)); (focus ((first | decide | omega | (simp; done) | (simp; omega)); done))) | with_reducible refine ixS _ rfl (by assumption) ?_ | (with_reducible refine shlI ?_ ?_; (focus (first | decide | omega))) | (refine exI (callZ rfl rfl (if_pos ?_)) ?_; (focus ((first | decide | omega | (simp; done) | (simp; omega)); done)))))
          all_goals (first | (exfalso; simp_all [worB]; done) | skip)
          all_goals (conv => whnf)
          all_goals exact ⟨i + 1, wInv_step hI hlt (.inr ⟨h0, hw⟩), by show s.length - (i + 1) < s.length - i; omega, FgL.mk0 rfl ⟨Wk.noref rfl, Wk.int rfl, trivial⟩⟩
        | false =>
          repeat' ((conv => whnf); first | with_reducible refine ixS _ rfl hx ?_ | (first | (with_reducible refine condT ?_ ?_; (focus ((first | assumption | decide | (simp; done) | (simp; omega)); done))) | (with_reducible refine condF ?_ ?_; (focus ((first | assumption | decide | (simp; done) | (simp; omega)); done))) | with_reducible refine condB (fun h => ?_) (fun h => ?_) | with_reducible refine exI rfl ?_ | with_reducible refine eqR rfl ?_ | (with_reducible refine exW (wrapN1 ?_) ?_; (focus (omega))) | (with_reducible refine exW (wrapN ?_) ?_; (focus (omega))) | (with_reducible refine exW (wrapB ?_ ?_) ?_; (focus (omega)); (focus (omega))) | with_reducible refine exW rfl ?_ | (with_reducible refine ixJ _ rfl ?_ ?_; (focus ((first | decide | omega | (simp; done) | (simp; omega)); done))) | (with_reducible refine ixJ' _ rfl ?_ ?_; (focus ((first | decide | omega | (simp; done) | (simp; omega)); done))) | (refine ixJ (Int.toNat _) ?_ ?_ ?_; (focus ((first | rfl | decide | omega | (simp; done)); done)); (focus ((first | decide | omega | (simp; done) | (simp; omega)); done))) | (refine ixJ' (Int.toNat _) ?_ ?_ ?_; (focus ((first | rfl | decide | omega | (simp; done)); done)); (focus ((first | decide | omega | (simp; done) | (simp; omega)); done))) | with_reducible refine ixS _ rfl (by assumption) ?_ | (with_reducible refine shlI ?_ ?_; (focus (first | decide | omega))) | (refine exI (callZ rfl rfl (if_pos ?_)) ?_; (focus ((first | decide | omega | (simp; done) | (simp; omega)); done)))))
          all_goals (first | (exfalso; simp_all [worB]; done) | skip)
          all_goals exact (wInv_bad hI hlt hl (.inr hw)).symm
  · have e1 : decide ((i : Int) < (s.length : Int)) = false := by simpa using hlt
    have hi2 : i = s.length := by omega
    subst hi2
    by_cases h0 : s = []
    · have e2 : (s == []) = true := by simpa using h0
      repeat' ((conv => whnf); first | (with_reducible refine condT ?_ ?_; (focus ((first | assumption | decide | (simp; done) | (simp; omega)); done))) | (with_reducible refine condF ?_ ?_; (focus ((first | assumption | decide | (simp; done) | (simp; omega)); done))) | with_reducible refine condB (fun h => ?_) (fun h => ?_) | with_reducible refine exI rfl ?_ | with_reducible refine eqR rfl ?_ | (with_reducible refine exW (wrapN1 ?_) ?_; (focus (omega))) | (with_reducible refine exW (wrapN ?_) ?_; (focus (omega))) | (with_reducible refine exW (wrapB ?_ ?_) ?_; (focus (omega)); (focus (omega))) | with_reducible refine exW rfl ?_ | (with_reducible refine ixJ _ rfl ?_ ?_; (focus ((first | decide | omega | (simp; done) | (simp; omega)); done))) | (with_reducible refine ixJ' _ rfl ?_ ?_; (focus ((first | decide | omega | (simp; done) | (simp; omega)); done))) | (refine ixJ (Int.toNat _) ?_ ?_ ?_; (focus ((first | rfl | decide | omega | (simp; done)); done)); (focus ((first | decide | omega | (simp; done) | (simp; omega)); done))) | (refine ixJ' (Int.toNat _) ?_ ?_ ?_; (focus ((first | rfl | decide | omega | (simp; done)); done)); (focus ((first | decide | omega | (simp; done) | (simp; omega)); done))) | with_reducible refine ixS _ rfl (by assumption) ?_ | (with_reducible refine shlI ?_ ?_; (focus (first | decide | omega))) | (refine exI (callZ rfl rfl (if_pos ?_)) ?_; (focus ((first | decide | omega | (simp; done) | (simp; omega)); done))))
      unfold wordR; rw [if_neg (fun h => h.1 h0)]
    · have e2 : (s == []) = false := by simpa using h0
      repeat' ((conv => whnf); first | (with_reducible refine condT ?_ ?_; (focus ((first | assumption | decide | (simp; done) | (simp; omega)); done))) | (with_reducible refine condF ?_ ?_; (focus ((first | assumption | decide | (simp; done) | (simp; omega)); done))) | with_reducible refine condB (fun h => ?_) (fun h => ?_) | with_reducible refine exI rfl ?_ | with_reducible refine eqR rfl ?_ | (with_reducible refine exW (wrapN1 ?_) ?_; (focus (omega))) | (with_reducible refine exW (wrapN ?_) ?_; (focus (omega))) | (with_reducible refine exW (wrapB ?_ ?_) ?_; (focus (omega)); (focus (omega))) | with_reducible refine exW rfl ?_ | (with_reducible refine ixJ _ rfl ?_ ?_; (focus ((first | decide | omega | (simp; done) | (simp; omega)); done))) | (with_reducible refine ixJ' _ rfl ?_ ?_; (focus ((first | decide | omega | (simp; done) | (simp; omega)); done))) | (refine ixJ (Int.toNat _) ?_ ?_ ?_; (focus ((first | rfl | decide | omega | (simp; done)); done)); (focus ((first | decide | omega | (simp; done) | (simp; omega)); done))) | (refine ixJ' (Int.toNat _) ?_ ?_ ?_; (focus ((first | rfl | decide | omega | (simp; done)); done)); (focus ((first | decide | omega | (simp; done) | (simp; omega)); done))) | with_reducible refine ixS _ rfl (by assumption) ?_ | (with_reducible refine shlI ?_ ?_; (focus (first | decide | omega))) | (refine exI (callZ rfl rfl (if_pos ?_)) ?_; (focus ((first | decide | omega | (simp; done) | (simp; omega)); done))))
      rw [wInv_end hI h0]

/-- Lists of tokens compared. -/
theorem tk4_ok : ∀ (l : List Tk) (i : Nat) (h : i < l.length), tk 4 ((tksC l).drop (i * 4)) = some l[i].cells
  | t :: l, 0, h => by simp only [Nat.zero_mul, List.drop_zero, tksC]; rfl
  | t :: l, i + 1, h => by
    have e : (i + 1) * 4 = 4 + i * 4 := by omega
    have e2 : (tksC (t :: l)).drop ((i + 1) * 4) = (tksC l).drop (i * 4) := by rw [e, ← List.drop_drop]; rfl
    rw [e2, tk4_ok l i (by simpa using h)]; rfl
theorem g3 : tagg Tryd.prog 3 = some false := by kernel_rfl
theorem g9 : tagg Tryd.prog 9 = some false := by kernel_rfl
theorem g2 : tagg Tryd.prog 2 = some false := by kernel_rfl
theorem g24 : tagg Tryd.prog 24 = some false := by kernel_rfl
theorem fe30 : fieldsEq Tryd.prog 30 = some [(3, 0), (9, 1), (2, 2), (3, 3)] := by kernel_rfl
theorem eg30 : Tryd.prog.eqGuardType Tryd.prog.depth 30 = false := by kernel_rfl
theorem fe26 : fieldsEq Tryd.prog 26 = some [(24, 0), (3, 1)] := by kernel_rfl
theorem eg26 : Tryd.prog.eqGuardType Tryd.prog.depth 26 = false := by kernel_rfl
theorem agg30 (a c d a' c' d' : Int) (b b' : List UInt8) : aggEq Tryd.prog 30 [.int .i64 a, .str b, .int .i64 c, .int .i64 d] [.int .i64 a', .str b', .int .i64 c', .int .i64 d'] = some (a == a' && (b == b' && (c == c' && (d == d' && true)))) :=
  aggEq_ok eg30 fe30 (eqF_cons g3 rfl rfl (eqB_int Tryd.underlying3 _ _) (eqF_cons g9 rfl rfl (eqB_str Tryd.underlying9 _ _) (eqF_cons g2 rfl rfl (eqB_int Tryd.underlying2 _ _) (eqF_cons g3 rfl rfl (eqB_int Tryd.underlying3 _ _) rfl))))
theorem agg26 (a b a' b' : Int) : aggEq Tryd.prog 26 [.int .i64 a, .int .i64 b] [.int .i64 a', .int .i64 b'] = some (a == a' && (b == b' && true)) :=
  aggEq_ok eg26 fe26 (eqF_cons g24 rfl rfl (eqB_int Tryd.underlying24 _ _) (eqF_cons g3 rfl rfl (eqB_int Tryd.underlying3 _ _) rfl))
theorem toks_ok (l : List Tk) (hl : l.length ≤ 1099511627776) : ValOK Tryd.prog runLives.gl 12 [.rs l.length 4 (tksC l), .rs l.length 4 (tksC l)] (.bool true) := by
  refine fn_val follows noNum F8_sound Tryd.func12 rfl ?_
  repeat' ((conv => whnf); first | (with_reducible refine condT ?_ ?_; (focus ((first | assumption | decide | (simp; done) | (simp; omega)); done))) | (with_reducible refine condF ?_ ?_; (focus ((first | assumption | decide | (simp; done) | (simp; omega)); done))) | with_reducible refine condB (fun h => ?_) (fun h => ?_) | with_reducible refine exI rfl ?_ | with_reducible refine eqR rfl ?_ | (with_reducible refine exW (wrapN1 ?_) ?_; (focus (omega))) | (with_reducible refine exW (wrapN ?_) ?_; (focus (omega))) | (with_reducible refine exW (wrapB ?_ ?_) ?_; (focus (omega)); (focus (omega))) | with_reducible refine exW rfl ?_ | (with_reducible refine ixJ _ rfl ?_ ?_; (focus ((first | decide | omega | (simp; done) | (simp; omega)); done))) | (with_reducible refine ixJ' _ rfl ?_ ?_; (focus ((first | decide | omega | (simp; done) | (simp; omega)); done))) | (refine ixJ (Int.toNat _) ?_ ?_ ?_; (focus ((first | rfl | decide | omega | (simp; done)); done)); (focus ((first | decide | omega | (simp; done) | (simp; omega)); done))) | (refine ixJ' (Int.toNat _) ?_ ?_ ?_; (focus ((first | rfl | decide | omega | (simp; done)); done)); (focus ((first | decide | omega | (simp; done) | (simp; omega)); done))) | with_reducible refine ixS _ rfl (by assumption) ?_ | (with_reducible refine shlI ?_ ?_; (focus (first | decide | omega))) | (refine exI (callZ rfl rfl (if_pos ?_)) ?_; (focus ((first | decide | omega | (simp; done) | (simp; omega)); done))))
  conv => whnf
  refine ⟨Nat, (fun i => i ≤ l.length), (fun i => [(0, .rs l.length 4 (tksC l)), (1, .rs l.length 4 (tksC l)), (5, .int .i64 i)]), (fun _ => []), (fun i => l.length - i), ⟨0, Nat.zero_le _, FgL.mk0 rfl ⟨Wk.noref rfl, Wk.noref rfl, Wk.int rfl, trivial⟩⟩, ?_⟩
  intro i hi
  by_cases hlt : i < l.length
  · have e1 : decide ((i : Int) < (l.length : Int)) = true := by simpa using hlt
    have hx := tk4_ok l i hlt
    generalize l[i] = t at *
    repeat' ((conv => whnf); first | (refine exI hx ?_) | (refine exI (agg30 _ _ _ _ _ _ _ _) ?_) | (first | (with_reducible refine condT ?_ ?_; (focus ((first | assumption | decide | (simp; done) | (simp; omega)); done))) | (with_reducible refine condF ?_ ?_; (focus ((first | assumption | decide | (simp; done) | (simp; omega)); done))) | with_reducible refine condB (fun h => ?_) (fun h => ?_) | with_reducible refine exI rfl ?_ | with_reducible refine eqR rfl ?_ | (with_reducible refine exW (wrapN1 ?_) ?_; (focus (omega))) | (with_reducible refine exW (wrapN ?_) ?_; (focus (omega))) | (with_reducible refine exW (wrapB ?_ ?_) ?_; (focus (omega)); (focus (omega))) | with_reducible refine exW rfl ?_ | (with_reducible refine ixJ _ rfl ?_ ?_; (focus ((first | decide | omega | (simp; done) | (simp; omega)); done))) | (with_reducible refine ixJ' _ rfl ?_ ?_; (focus ((first | decide | omega | (simp; done) | (simp; omega)); done))) | (refine ixJ (Int.toNat _) ?_ ?_ ?_; (focus ((first | rfl | decide | omega | (simp; done)); done)); (focus ((first | decide | omega | (simp; done) | (simp; omega)); done))) | (refine ixJ' (Int.toNat _) ?_ ?_ ?_; (focus ((first | rfl | decide | omega | (simp; done)); done)); (focus ((first | decide | omega | (simp; done) | (simp; omega)); done))) | with_reducible refine ixS _ rfl (by assumption) ?_ | (with_reducible refine shlI ?_ ?_; (focus (first | decide | omega))) | (refine exI (callZ rfl rfl (if_pos ?_)) ?_; (focus ((first | decide | omega | (simp; done) | (simp; omega)); done)))))
    conv => whnf
    exact ⟨i + 1, hlt, by show l.length - (i + 1) < l.length - i; omega, FgL.mk0 rfl ⟨Wk.noref rfl, Wk.noref rfl, Wk.int rfl, trivial⟩⟩
  · have e1 : decide ((i : Int) < (l.length : Int)) = false := by simpa using hlt
    repeat' ((conv => whnf); first | (with_reducible refine condT ?_ ?_; (focus ((first | assumption | decide | (simp; done) | (simp; omega)); done))) | (with_reducible refine condF ?_ ?_; (focus ((first | assumption | decide | (simp; done) | (simp; omega)); done))) | with_reducible refine condB (fun h => ?_) (fun h => ?_) | with_reducible refine exI rfl ?_ | with_reducible refine eqR rfl ?_ | (with_reducible refine exW (wrapN1 ?_) ?_; (focus (omega))) | (with_reducible refine exW (wrapN ?_) ?_; (focus (omega))) | (with_reducible refine exW (wrapB ?_ ?_) ?_; (focus (omega)); (focus (omega))) | with_reducible refine exW rfl ?_ | (with_reducible refine ixJ _ rfl ?_ ?_; (focus ((first | decide | omega | (simp; done) | (simp; omega)); done))) | (with_reducible refine ixJ' _ rfl ?_ ?_; (focus ((first | decide | omega | (simp; done) | (simp; omega)); done))) | (refine ixJ (Int.toNat _) ?_ ?_ ?_; (focus ((first | rfl | decide | omega | (simp; done)); done)); (focus ((first | decide | omega | (simp; done) | (simp; omega)); done))) | (refine ixJ' (Int.toNat _) ?_ ?_ ?_; (focus ((first | rfl | decide | omega | (simp; done)); done)); (focus ((first | decide | omega | (simp; done) | (simp; omega)); done))) | with_reducible refine ixS _ rfl (by assumption) ?_ | (with_reducible refine shlI ?_ ?_; (focus (first | decide | omega))) | (refine exI (callZ rfl rfl (if_pos ?_)) ?_; (focus ((first | decide | omega | (simp; done) | (simp; omega)); done))))
    rfl
theorem toks_nil : ValOK Tryd.prog runLives.gl 12 [.nslice, .nslice] (.bool true) := by
  refine fn_val follows noNum F8_sound Tryd.func12 rfl ?_
  repeat' ((conv => whnf); first | (with_reducible refine condT ?_ ?_; (focus ((first | assumption | decide | (simp; done) | (simp; omega)); done))) | (with_reducible refine condF ?_ ?_; (focus ((first | assumption | decide | (simp; done) | (simp; omega)); done))) | with_reducible refine condB (fun h => ?_) (fun h => ?_) | with_reducible refine exI rfl ?_ | with_reducible refine eqR rfl ?_ | (with_reducible refine exW (wrapN1 ?_) ?_; (focus (omega))) | (with_reducible refine exW (wrapN ?_) ?_; (focus (omega))) | (with_reducible refine exW (wrapB ?_ ?_) ?_; (focus (omega)); (focus (omega))) | with_reducible refine exW rfl ?_ | (with_reducible refine ixJ _ rfl ?_ ?_; (focus ((first | decide | omega | (simp; done) | (simp; omega)); done))) | (with_reducible refine ixJ' _ rfl ?_ ?_; (focus ((first | decide | omega | (simp; done) | (simp; omega)); done))) | (refine ixJ (Int.toNat _) ?_ ?_ ?_; (focus ((first | rfl | decide | omega | (simp; done)); done)); (focus ((first | decide | omega | (simp; done) | (simp; omega)); done))) | (refine ixJ' (Int.toNat _) ?_ ?_ ?_; (focus ((first | rfl | decide | omega | (simp; done)); done)); (focus ((first | decide | omega | (simp; done) | (simp; omega)); done))) | with_reducible refine ixS _ rfl (by assumption) ?_ | (with_reducible refine shlI ?_ ?_; (focus (first | decide | omega))) | (refine exI (callZ rfl rfl (if_pos ?_)) ?_; (focus ((first | decide | omega | (simp; done) | (simp; omega)); done))))
  conv => whnf
  refine ⟨Unit, (fun i => True), (fun i => [(0, .nslice), (1, .nslice), (5, .int .i64 0)]), (fun _ => []), (fun i => 0), ⟨(), trivial, FgL.mk0 rfl ⟨Wk.noref rfl, Wk.noref rfl, Wk.int rfl, trivial⟩⟩, ?_⟩
  intro i hi
  repeat' ((conv => whnf); first | (with_reducible refine condT ?_ ?_; (focus ((first | assumption | decide | (simp; done) | (simp; omega)); done))) | (with_reducible refine condF ?_ ?_; (focus ((first | assumption | decide | (simp; done) | (simp; omega)); done))) | with_reducible refine condB (fun h => ?_) (fun h => ?_) | with_reducible refine exI rfl ?_ | with_reducible refine eqR rfl ?_ | (with_reducible refine exW (wrapN1 ?_) ?_; (focus (omega))) | (with_reducible refine exW (wrapN ?_) ?_; (focus (omega))) | (with_reducible refine exW (wrapB ?_ ?_) ?_; (focus (omega)); (focus (omega))) | with_reducible refine exW rfl ?_ | (with_reducible refine ixJ _ rfl ?_ ?_; (focus ((first | decide | omega | (simp; done) | (simp; omega)); done))) | (with_reducible refine ixJ' _ rfl ?_ ?_; (focus ((first | decide | omega | (simp; done) | (simp; omega)); done))) | (refine ixJ (Int.toNat _) ?_ ?_ ?_; (focus ((first | rfl | decide | omega | (simp; done)); done)); (focus ((first | decide | omega | (simp; done) | (simp; omega)); done))) | (refine ixJ' (Int.toNat _) ?_ ?_ ?_; (focus ((first | rfl | decide | omega | (simp; done)); done)); (focus ((first | decide | omega | (simp; done) | (simp; omega)); done))) | with_reducible refine ixS _ rfl (by assumption) ?_ | (with_reducible refine shlI ?_ ?_; (focus (first | decide | omega))) | (refine exI (callZ rfl rfl (if_pos ?_)) ?_; (focus ((first | decide | omega | (simp; done) | (simp; omega)); done))))
  rfl
end Go.Proofs.YtacaaiiooedgjaaDoor.lex
end

/-
  Of 'cantileverlaw02': texts that are put together: what a token needs of what comes behind it.
-/
section
set_option linter.unusedVariables false
set_option linter.unusedSimpArgs false
namespace Go.Proofs.YtacaaiiooedgjaaDoor.lex
open Go.Abs Go.RowKit

/-! texts that are put together: what a token needs of what comes behind it -/
theorem spanN_app {p : Int → Bool} : ∀ (u : List UInt8) {d : UInt8} (r : List UInt8), p d.toNat = false → spanN p (u ++ d :: r) = spanN p u
  | [], d, r, h => by rw [List.nil_append, spanN_false _ h]; rfl
  | c :: u, d, r, h => by
    rw [List.cons_append]
    cases hc : p c.toNat with
    | true => rw [spanN_true _ hc, spanN_true _ hc, spanN_app u r h]
    | false => rw [spanN_false _ hc, spanN_false _ hc]
/-- A byte that ends every token. -/
structure Ends (d : UInt8) : Prop where
  hw : worB d.toNat = false
  hd : digB d.toNat = false
  ht : (letB d.toNat || d == 95) = false
  hs : ¬ (d = 124 ∨ d = 38 ∨ d = 61)
  hb : blaB d.toNat = true
theorem ends10 : Ends 10 := ⟨by decide, by decide, by decide, by decide, by decide⟩
theorem ends32 : Ends 32 := ⟨by decide, by decide, by decide, by decide, by decide⟩
theorem wordN_app {u : List UInt8} {d : UInt8} (r : List UInt8) (h : Ends d) (hu : u ≠ []) : wordN (u ++ d :: r) = wordN u := by
  cases u with
  | nil => exact absurd rfl hu
  | cons c u =>
    have := spanN_app (c :: u) r h.hw
    simp only [List.cons_append] at this
    simp only [List.cons_append, wordN, this]
theorem get_app {u : List UInt8} {d : UInt8} {r : List UInt8} {n : Nat} (h : n ≤ u.length) : (u ++ d :: r)[n]? = if n = u.length then some d else u[n]? := by
  split
  · rename_i e; subst e; simp
  · rw [List.getElem?_append_left (by omega)]
theorem tailB_app {u : List UInt8} {d : UInt8} {r : List UInt8} {n : Nat} (h : Ends d) (hn : n ≤ u.length) : tailB (u ++ d :: r) n = tailB u n := by
  unfold tailB
  rw [get_app hn]
  by_cases e : n = u.length
  · rw [if_pos e, List.getElem?_eq_none (by omega)]; exact h.ht
  · rw [if_neg e]
theorem head_app {u w : List UInt8} (hu : u ≠ []) : (u ++ w).head? = u.head? := by cases u with | nil => exact absurd rfl hu | cons c u => rfl
theorem numN_app {u : List UInt8} {d : UInt8} (r : List UInt8) (h : Ends d) (hu : u ≠ []) : numN (u ++ d :: r) = numN u := by
  rw [numN_eq, numN_eq, spanN_app u r h.hd, head_app hu, tailB_app h (spanN_le _ _), List.take_append_of_le_length (spanN_le _ _)]
theorem signN_app {u : List UInt8} {d : UInt8} (r : List UInt8) (h : Ends d) (hu : u ≠ []) : signN (u ++ d :: r) = signN u := by
  match u with
  | [] => exact absurd rfl hu
  | [c] =>
    simp only [List.cons_append, List.nil_append, signN]
    rw [if_neg]
    rintro (⟨rfl, h1⟩ | ⟨rfl, _⟩)
    · exact h.hs h1
    · exact h.hs (.inr (.inr rfl))
  | c :: e :: u => rfl
theorem tok1_app {u : List UInt8} {d : UInt8} (r : List UInt8) (h : Ends d) (hu : u ≠ []) : tok1 (u ++ d :: r) = tok1 u := by
  unfold tok1
  rw [wordN_app r h hu, numN_app r h hu, signN_app r h hu, List.take_append_of_le_length (wordN_le _)]
theorem skip_app : ∀ (b : Bool) (u r : List UInt8), skip b (u ++ 10 :: r) = if skip b u < u.length then skip b u else u.length + 1 + skip false r
  | true, [], r => by simp [skip]; omega
  | false, [], r => by simp [skip, show blaB 10 = true by decide]; omega
  | true, c :: u, r => by
    have h1 := skip_app false u r
    have h2 := skip_app true u r
    simp only [List.cons_append, skip, List.length_cons]
    split
    · rw [h1]; split
      · rw [if_pos (by omega)]
      · rw [if_neg (by omega)]; omega
    · rw [h2]; split
      · rw [if_pos (by omega)]
      · rw [if_neg (by omega)]; omega
  | false, c :: u, r => by
    have h1 := skip_app false u r
    have h2 := skip_app true u r
    simp only [List.cons_append, skip, List.length_cons]
    have hh : (u ++ 10 :: r).head? = some 47 ↔ u.head? = some 47 := by
      cases u with
      | nil => simp
      | cons a u => simp
    simp only [hh]
    split
    · rw [h1]; split
      · rw [if_pos (by omega)]
      · rw [if_neg (by omega)]; omega
    · split
      · rw [h2]; split
        · rw [if_pos (by omega)]
        · rw [if_neg (by omega)]; omega
      · rw [if_pos (by omega)]
/-- Fuel is no matter. -/
theorem lexF_fuel : ∀ (n m pos : Nat) (s : List UInt8), s.length < n → s.length < m → lexF n pos s = lexF m pos s
  | 0, _, _, _, h, _ => by omega
  | _, 0, _, _, _, h => by omega
  | n + 1, m + 1, pos, s, h1, h2 => by
    rw [lexF, lexF]
    split
    · rfl
    · rename_i hs
      cases ht : tok1 s with
      | none => rfl
      | some p =>
        obtain ⟨kd, len, num⟩ := p
        have hl := tok1_len ht
        simp only
        rw [lexF_fuel n m _ _ (by simp; omega) (by simp; omega)]
def Tk.up (d : Nat) (t : Tk) : Tk := { t with pos := t.pos + d }
def upR (d : Nat) : Nat ⊕ List Tk → Nat ⊕ List Tk
  | .inl e => .inl (e + d)
  | .inr l => .inr (l.map (Tk.up d))
theorem lexF_up (d : Nat) : ∀ (n pos : Nat) (s : List UInt8), lexF n (pos + d) s = upR d (lexF n pos s)
  | 0, _, _ => rfl
  | n + 1, pos, s => by
    rw [lexF, lexF]
    split
    · rfl
    · cases ht : tok1 s with
      | none => rfl
      | some p =>
        obtain ⟨kd, len, num⟩ := p
        simp only
        have e : pos + d + len + skip false (s.drop len) = pos + len + skip false (s.drop len) + d := by omega
        rw [e, lexF_up d n]
        cases lexF n (pos + len + skip false (s.drop len)) (s.drop (len + skip false (s.drop len))) <;> rfl
/-- One text, and one behind it on a new line. -/
def gluR (A : Nat) (x y : Nat ⊕ List Tk) : Nat ⊕ List Tk := match x with
  | .inl e => .inl e
  | .inr l => match y with
    | .inl e => .inl (e + (A + 1))
    | .inr m => .inr (l ++ m.map (Tk.up (A + 1)))
theorem glueF (b : List UInt8) (A : Nat) : ∀ (n N pos : Nat) (u : List UInt8), pos + u.length = A → u.length < n → (u ++ 10 :: b).length < N →
    lexF N (pos + skip false (u ++ 10 :: b)) ((u ++ 10 :: b).drop (skip false (u ++ 10 :: b))) = gluR A (lexF n (pos + skip false u) (u.drop (skip false u))) (lexN b)
  | 0, _, _, _, _, h, _ => by omega
  | n + 1, N, pos, u, hA, hn, hN => by
    have hle := skip_le false u
    by_cases hs : skip false u < u.length
    · rw [skip_app false u b, if_pos hs, List.drop_append_of_le_length (by omega)]
      have hne : u.drop (skip false u) ≠ [] := by intro e; have := congrArg List.length e; simp at this; omega
      have hlv : (u.drop (skip false u)).length = u.length - skip false u := by simp
      generalize hv : u.drop (skip false u) = v at *
      generalize hk : skip false u = k at *
      obtain ⟨N, rfl⟩ : ∃ M, N = M + 1 := ⟨N - 1, by omega⟩
      rw [lexF, lexF, if_neg (by simp), if_neg hne, tok1_app b ends10 hne]
      cases ht : tok1 v with
      | none => rfl
      | some p =>
        obtain ⟨kd, len, num⟩ := p
        have hl := tok1_len ht
        simp only
        rw [List.take_append_of_le_length hl.2, List.drop_append_of_le_length hl.2]
        have ih := glueF b A n N (pos + k + len) (v.drop len) (by simp; omega) (by simp; omega) (by simp at hN ⊢; omega)
        have e1 : (v ++ 10 :: b).drop (len + skip false (v.drop len ++ 10 :: b)) = (v.drop len ++ 10 :: b).drop (skip false (v.drop len ++ 10 :: b)) := by
          rw [← List.drop_drop, List.drop_append_of_le_length hl.2]
        rw [e1, ih, List.drop_drop]
        cases lexF n (pos + k + len + skip false (v.drop len)) (v.drop (len + skip false (v.drop len))) with
        | inl e => rfl
        | inr l => cases lexN b <;> rfl
    · have he : skip false u = u.length := by omega
      rw [skip_app false u b, if_neg hs, he, List.drop_length]
      have e1 : (u ++ 10 :: b).drop (u.length + 1 + skip false b) = b.drop (skip false b) := by
        rw [Nat.add_assoc, ← List.drop_drop, List.drop_left, Nat.add_comm 1, List.drop_succ_cons]
      have e2 : pos + (u.length + 1 + skip false b) = skip false b + (A + 1) := by omega
      have e3 : lexF (n + 1) (pos + u.length) ([] : List UInt8) = .inr [] := rfl
      rw [e1, e2, e3, lexF_up, lexF_fuel N (b.length + 1) _ _ (by simp at hN ⊢; omega) (by simp; omega)]
      show upR (A + 1) (lexN b) = _
      cases lexN b <;> rfl
theorem glue (a b : List UInt8) : lexN (a ++ 10 :: b) = gluR a.length (lexN a) (lexN b) := by
  have h := glueF b a.length (a.length + 1) ((a ++ 10 :: b).length + 1) 0 a (by omega) (by omega) (by omega)
  simp only [Nat.zero_add] at h
  exact h
end Go.Proofs.YtacaaiiooedgjaaDoor.lex
end

/-
  Of 'cantileverlaw02': LexReads.
-/
section
set_option linter.unusedVariables false
set_option linter.unusedSimpArgs false
namespace Go.Proofs.YtacaaiiooedgjaaDoor.lexReadsLaw
open Go.Abs Go.RowKit lex
set_option maxRecDepth 100000
set_option maxHeartbeats 4000000

theorem lives_ok : ValOK Tryd.prog runLives.gl 7 [] (.bool true) := val_of_orc runLives.knownLives rfl rfl
theorem core (s : List UInt8) (hs : s.length ≤ maxLen) (X : AV) (hX : X = .nslice ∨ ∃ n cs, X = .rs n 4 cs) (a b k : Int) (w : Bool) (h8 : s.length ≤ 3000 → ValOK Tryd.prog runLives.gl 8 [.str s] (.tuple [X, .agg [.int .i64 a, .int .i64 b]]))
    (h9 : s.length ≤ 3000 → ValOK Tryd.prog runLives.gl 9 [.str s] (.tuple [X, .agg [.int .i64 a, .int .i64 b]])) (h10 : s.length ≤ 3000 → ValOK Tryd.prog runLives.gl 10 [.str s] (.tuple [.int .i64 k, .bool w]))
    (h11 : s.length ≤ 3000 → ValOK Tryd.prog runLives.gl 11 [.str s] (.tuple [.int .i64 k, .bool w])) (h12 : ValOK Tryd.prog runLives.gl 12 [X, X] (.bool true)) : ValOK Tryd.prog runLives.gl 4 [.str s] (.bool true) := by
  by_cases hl : s.length ≤ 3000
  · have e0 : decide ((s.length : Int) > 3000) = false := by simp; omega
    have hO := orcF_sound (P := Tryd.prog) (gl := runLives.gl) (l := [(7, [], .bool true), (8, [.str s], .tuple [X, .agg [.int .i64 a, .int .i64 b]]), (9, [.str s], .tuple [X, .agg [.int .i64 a, .int .i64 b]]),
      (10, [.str s], .tuple [.int .i64 k, .bool w]), (11, [.str s], .tuple [.int .i64 k, .bool w]), (12, [X, X], .bool true)])
      ⟨rfl, lives_ok, rfl, h8 hl, rfl, h9 hl, rfl, h10 hl, rfl, h11 hl, by rcases hX with rfl | ⟨n, cs, rfl⟩ <;> rfl, h12, trivial⟩
    have b7 : hasBody Tryd.prog 7 = true := by kernel_rfl
    have b8 : hasBody Tryd.prog 8 = true := by kernel_rfl
    have b9 : hasBody Tryd.prog 9 = true := by kernel_rfl
    have b10 : hasBody Tryd.prog 10 = true := by kernel_rfl
    have b11 : hasBody Tryd.prog 11 = true := by kernel_rfl
    have b12 : hasBody Tryd.prog 12 = true := by kernel_rfl
    have c7 := fun H => callF (P := Tryd.prog) (H := H) b7 (findF_here (l := [(8, [.str s], .tuple [X, .agg [.int .i64 a, .int .i64 b]]), (9, [.str s], .tuple [X, .agg [.int .i64 a, .int .i64 b]]), (10, [.str s], .tuple [.int .i64 k, .bool w]), (11, [.str s], .tuple [.int .i64 k, .bool w]), (12, [X, X], .bool true)]) (g := 7) (args := []) (r := .bool true))
    generalize hL : [(7, [], AV.bool true), (8, [AV.str s], .tuple [X, .agg [.int .i64 a, .int .i64 b]]), (9, [.str s], .tuple [X, .agg [.int .i64 a, .int .i64 b]]), (10, [.str s], .tuple [.int .i64 k, .bool w]), (11, [.str s], .tuple [.int .i64 k, .bool w]), (12, [X, X], .bool true)] = L at *
    have c8 := fun H => callF (P := Tryd.prog) (H := H) b8 (show L.find? _ = some (8, [.str s], .tuple [X, .agg [.int .i64 a, .int .i64 b]]) by subst hL; exact findF_next rfl findF_here)
    have c9 := fun H => callF (P := Tryd.prog) (H := H) b9 (show L.find? _ = some (9, [.str s], .tuple [X, .agg [.int .i64 a, .int .i64 b]]) by subst hL; exact findF_next rfl (findF_next rfl findF_here))
    have c10 := fun H => callF (P := Tryd.prog) (H := H) b10 (show L.find? _ = some (10, [.str s], .tuple [.int .i64 k, .bool w]) by subst hL; exact findF_next rfl (findF_next rfl (findF_next rfl findF_here)))
    have c11 := fun H => callF (P := Tryd.prog) (H := H) b11 (show L.find? _ = some (11, [.str s], .tuple [.int .i64 k, .bool w]) by subst hL; exact findF_next rfl (findF_next rfl (findF_next rfl (findF_next rfl findF_here))))
    have c12 := fun H => callF (P := Tryd.prog) (H := H) b12 (show L.find? _ = some (12, [X, X], .bool true) by subst hL; exact findF_next rfl (findF_next rfl (findF_next rfl (findF_next rfl (findF_next rfl findF_here)))))
    clear hL h8 h9 h10 h11 h12
    rcases hX with rfl | ⟨n, cs, rfl⟩
    · refine fn_val follows noNum hO Tryd.func4 rfl ?_
      repeat' ((conv => whnf); first | (with_reducible refine exI (c7 _) ?_) | (with_reducible refine exI (c8 _) ?_) | (with_reducible refine exI (c9 _) ?_) | (with_reducible refine exI (c10 _) ?_) | (with_reducible refine exI (c11 _) ?_) | (with_reducible refine exI (c12 _) ?_) | (refine exI (agg26 _ _ _ _) ?_) | (first | (with_reducible refine condT ?_ ?_; (focus ((first | assumption | decide | (simp; done) | (simp; omega)); done))) | (with_reducible refine condF ?_ ?_; (focus ((first | assumption | decide | (simp; done) | (simp; omega)); done))) | with_reducible refine condB (fun h => ?_) (fun h => ?_) | with_reducible refine exI rfl ?_ | with_reducible refine eqR rfl ?_ | (with_reducible refine exW (wrapN1 ?_) ?_; (focus (omega))) | (with_reducible refine exW (wrapN ?_) ?_; (focus (omega))) | (with_reducible refine exW (wrapB ?_ ?_) ?_; (focus (omega)); (focus (omega))) | with_reducible refine exW rfl ?_ | (with_reducible refine ixJ _ rfl ?_ ?_; (focus ((first | decide | omega | (simp; done) | (simp; omega)); done))) | (with_reducible refine ixJ' _ rfl ?_ ?_; (focus ((first | decide | omega | (simp; done) | (simp; omega)); done))) | (refine ixJ (Int.toNat _) ?_ ?_ ?_; (focus ((first | rfl | decide | omega | (simp; done)); done)); (focus ((first | decide | omega | (simp; done) | (simp; omega)); done))) | (refine ixJ' (Int.toNat _) ?_ ?_ ?_; (focus ((first | rfl | decide | omega | (simp; done)); done)); (focus ((first | decide | omega | (simp; done) | (simp; omega)); done))) | with_reducible refine ixS _ rfl (by assumption) ?_ | (with_reducible refine shlI ?_ ?_; (focus (first | decide | omega))) | (refine exI (callZ rfl rfl (if_pos ?_)) ?_; (focus ((first | decide | omega | (simp; done) | (simp; omega)); done)))))
      all_goals (try (simp_all [resOf]; done))
    · refine fn_val follows noNum hO Tryd.func4 rfl ?_
      repeat' ((conv => whnf); first | (with_reducible refine exI (c7 _) ?_) | (with_reducible refine exI (c8 _) ?_) | (with_reducible refine exI (c9 _) ?_) | (with_reducible refine exI (c10 _) ?_) | (with_reducible refine exI (c11 _) ?_) | (with_reducible refine exI (c12 _) ?_) | (refine exI (agg26 _ _ _ _) ?_) | (first | (with_reducible refine condT ?_ ?_; (focus ((first | assumption | decide | (simp; done) | (simp; omega)); done))) | (with_reducible refine condF ?_ ?_; (focus ((first | assumption | decide | (simp; done) | (simp; omega)); done))) | with_reducible refine condB (fun h => ?_) (fun h => ?_) | with_reducible refine exI rfl ?_ | with_reducible refine eqR rfl ?_ | (with_reducible refine exW (wrapN1 ?_) ?_; (focus (omega))) | (with_reducible refine exW (wrapN ?_) ?_; (focus (omega))) | (with_reducible refine exW (wrapB ?_ ?_) ?_; (focus (omega)); (focus (omega))) | with_reducible refine exW rfl ?_ | (with_reducible refine ixJ _ rfl ?_ ?_; (focus ((first | decide | omega | (simp; done) | (simp; omega)); done))) | (with_reducible refine ixJ' _ rfl ?_ ?_; (focus ((first | decide | omega | (simp; done) | (simp; omega)); done))) | (refine ixJ (Int.toNat _) ?_ ?_ ?_; (focus ((first | rfl | decide | omega | (simp; done)); done)); (focus ((first | decide | omega | (simp; done) | (simp; omega)); done))) | (refine ixJ' (Int.toNat _) ?_ ?_ ?_; (focus ((first | rfl | decide | omega | (simp; done)); done)); (focus ((first | decide | omega | (simp; done) | (simp; omega)); done))) | with_reducible refine ixS _ rfl (by assumption) ?_ | (with_reducible refine shlI ?_ ?_; (focus (first | decide | omega))) | (refine exI (callZ rfl rfl (if_pos ?_)) ?_; (focus ((first | decide | omega | (simp; done) | (simp; omega)); done)))))
      all_goals (try (simp_all [resOf]; done))
  · have e0 : decide ((s.length : Int) > 3000) = true := by simp; omega
    refine fn_val follows noNum runLives.knownLives Tryd.func4 rfl ?_
    repeat' ((conv => whnf); first | (with_reducible refine condT ?_ ?_; (focus ((first | assumption | decide | (simp; done) | (simp; omega)); done))) | (with_reducible refine condF ?_ ?_; (focus ((first | assumption | decide | (simp; done) | (simp; omega)); done))) | with_reducible refine condB (fun h => ?_) (fun h => ?_) | with_reducible refine exI rfl ?_ | with_reducible refine eqR rfl ?_ | (with_reducible refine exW (wrapN1 ?_) ?_; (focus (omega))) | (with_reducible refine exW (wrapN ?_) ?_; (focus (omega))) | (with_reducible refine exW (wrapB ?_ ?_) ?_; (focus (omega)); (focus (omega))) | with_reducible refine exW rfl ?_ | (with_reducible refine ixJ _ rfl ?_ ?_; (focus ((first | decide | omega | (simp; done) | (simp; omega)); done))) | (with_reducible refine ixJ' _ rfl ?_ ?_; (focus ((first | decide | omega | (simp; done) | (simp; omega)); done))) | (refine ixJ (Int.toNat _) ?_ ?_ ?_; (focus ((first | rfl | decide | omega | (simp; done)); done)); (focus ((first | decide | omega | (simp; done) | (simp; omega)); done))) | (refine ixJ' (Int.toNat _) ?_ ?_ ?_; (focus ((first | rfl | decide | omega | (simp; done)); done)); (focus ((first | decide | omega | (simp; done) | (simp; omega)); done))) | with_reducible refine ixS _ rfl (by assumption) ?_ | (with_reducible refine shlI ?_ ?_; (focus (first | decide | omega))) | (refine exI (callZ rfl rfl (if_pos ?_)) ?_; (focus ((first | decide | omega | (simp; done) | (simp; omega)); done))))
    all_goals (try (simp_all [resOf]; done))

theorem lexF_len : ∀ (n k : Nat) (s : List UInt8) (l : List Tk), lexF n k s = .inr l → l.length ≤ n
  | 0, k, s, l, h => by cases h; exact Nat.le_refl _
  | n + 1, k, s, l, h => by
    rw [lexF] at h
    split at h
    · cases h; exact Nat.zero_le _
    · split at h
      · cases h
      · rename_i a b c _
        split at h
        · cases h
        · rename_i l' h'; cases h
          have := lexF_len _ _ _ _ h'
          simp only [List.length_cons]; omega
theorem law_ok (s : List UInt8) (hs : s.length ≤ maxLen) : ValOK Tryd.prog runLives.gl 4 [.str s] (.bool true) := by
  obtain ⟨k, w, hw⟩ : ∃ k w, wordR s = .tuple [.int .i64 k, .bool w] := by unfold wordR; split <;> exact ⟨_, _, rfl⟩
  have h10 := fun h : s.length ≤ 3000 => wordP_ok s (by omega)
  have h11 := fun h : s.length ≤ 3000 => wordD_ok s (by omega)
  have h8 := fun h : s.length ≤ 3000 => all_ok s (by omega)
  have h9 := fun h : s.length ≤ 3000 => allRef_ok s (by omega)
  rw [hw] at h10 h11
  by_cases hl : s.length ≤ 3000
  · have e : ¬ 65536 < s.length := by omega
    cases hx : lexN s with
    | inl p =>
      have eR : allR s = .tuple [.nslice, .agg [.int .i64 4, .int .i64 p]] := by unfold allR; rw [if_neg e, hx]
      rw [eR] at h8 h9
      exact core s hs .nslice (.inl rfl) 4 p k w h8 h9 h10 h11 toks_nil
    | inr l =>
      have eR : allR s = .tuple [.rs (l.length + 1) 4 (tksC (l ++ [⟨5, [], 0, s.length⟩])), .agg [.int .i64 0, .int .i64 0]] := by unfold allR; rw [if_neg e, hx]
      rw [eR] at h8 h9
      have hll := lexF_len _ _ _ _ (show lexF (s.length + 1) (skip false s) (s.drop (skip false s)) = .inr l from hx)
      have ht := toks_ok (l ++ [⟨5, [], 0, s.length⟩]) (by rw [len_snoc]; omega)
      rw [len_snoc] at ht
      exact core s hs _ (.inr ⟨_, _, rfl⟩) 0 0 k w h8 h9 h10 h11 ht
  · exact core s hs .nslice (.inl rfl) 0 0 k w (fun h => absurd h hl) (fun h => absurd h hl) h10 h11 toks_nil
def Qs : List (AV → Prop) := [fun u => ∃ s : List UInt8, u = .str s ∧ s.length ≤ maxLen]
theorem opens : OpensAll Tryd.prog Tryd.f4.params.toList Qs := by
  rw [Tryd.params4]
  exact ⟨opensV_str Tryd.underlying9, trivial⟩
theorem law (us : List AV) (h : AllQ Qs us) : ValOK Tryd.prog runLives.gl 4 us (.bool true) := by
  obtain ⟨_, _, rfl, ⟨s, rfl, hs⟩, h1⟩ := allQ_cons h
  cases allQ_nil h1
  exact law_ok s hs
theorem solid : Solid Tryd.prog := by unfold Solid; kernel_rfl
end Go.Proofs.YtacaaiiooedgjaaDoor.lexReadsLaw
end

/-
  Of 'cantileverlaw02': LexGlue.
-/
section
set_option linter.unusedVariables false
set_option linter.unusedSimpArgs false
namespace Go.Proofs.YtacaaiiooedgjaaDoor.lexGlueLaw
open Go.Abs Go.RowKit lex lexReadsLaw
set_option maxRecDepth 100000
set_option maxHeartbeats 4000000

theorem lexF_inl : ∀ (n k : Nat) (s : List UInt8) (e : Nat), lexF n k s = .inl e → e < k + s.length
  | 0, k, s, e, h => by cases h
  | n + 1, k, s, e, h => by
    rw [lexF] at h
    split at h
    · cases h
    · rename_i hne
      have hpos : 0 < s.length := List.length_pos_iff.2 hne
      cases hk : tok1 s with
      | none => rw [hk] at h; cases h; omega
      | some p =>
        obtain ⟨kd, len, num⟩ := p
        rw [hk] at h
        have hl := tok1_len hk
        have hs := skip_le false (s.drop len)
        rw [List.length_drop] at hs
        simp only at h
        split at h
        · rename_i e' hr; cases h
          have := lexF_inl _ _ _ _ hr
          simp only [List.length_drop] at this; omega
        · cases h
theorem lexF_pos : ∀ (n k : Nat) (s : List UInt8) (l : List Tk), lexF n k s = .inr l → ∀ t ∈ l, t.pos < k + s.length
  | 0, k, s, l, h, t, ht => by cases h; cases ht
  | n + 1, k, s, l, h, t, ht => by
    rw [lexF] at h
    split at h
    · cases h; cases ht
    · rename_i hne
      have hpos : 0 < s.length := List.length_pos_iff.2 hne
      cases hk : tok1 s with
      | none => rw [hk] at h; cases h
      | some p =>
        obtain ⟨kd, len, num⟩ := p
        rw [hk] at h
        have hl := tok1_len hk
        have hs := skip_le false (s.drop len)
        rw [List.length_drop] at hs
        simp only at h
        split at h
        · cases h
        · rename_i l' hr; cases h
          rcases List.mem_cons.1 ht with rfl | ht
          · show k < k + s.length; omega
          · have := lexF_pos _ _ _ _ hr t ht
            simp only [List.length_drop] at this; omega
theorem lexN_inl {s : List UInt8} {e : Nat} (h : lexN s = .inl e) : e < s.length := by
  have := lexF_inl _ _ _ _ h
  have hs := skip_le false s
  simp only [List.length_drop] at this; omega
/-- What All hands back, by its first answer. -/
def resX : Nat → Nat ⊕ List Tk → AV
  | n, .inl e => .tuple [.nslice, .agg [.int .i64 4, .int .i64 e]]
  | n, .inr l => .tuple [.rs (l.length + 1) 4 (tksC (l ++ [⟨5, [], 0, n⟩])), .agg [.int .i64 0, .int .i64 0]]
theorem all_ok' (s : List UInt8) (hs : s.length ≤ 65536) : ValOK Tryd.prog runLives.gl 8 [.str s] (resX s.length (lexN s)) := by
  have h := all_ok s hs
  unfold allR at h
  rw [if_neg (by omega)] at h
  cases hx : lexN s with
  | inl e => rw [hx] at h; exact h
  | inr l => rw [hx] at h; exact h

section
variable (a b : List UInt8)
def fct : List (Nat × List AV × AV) := [(7, [], .bool true), (8, [.str a], resX a.length (lexN a)), (8, [.str b], resX b.length (lexN b)), (8, [.str (a ++ [10] ++ b)], resX (a ++ [10] ++ b).length (lexN (a ++ [10] ++ b)))]
theorem fct_ok (ha : a.length ≤ 3000) (hb : b.length ≤ 3000) : OrcSound Tryd.prog runLives.gl (orcF (fct a b)) :=
  orcF_sound ⟨rfl, lives_ok, rfl, all_ok' a (by omega), rfl, all_ok' b (by omega), rfl, all_ok' _ (by simp; omega), trivial⟩
theorem b7 : hasBody Tryd.prog 7 = true := by kernel_rfl
theorem b8 : hasBody Tryd.prog 8 = true := by kernel_rfl
theorem str_inj {x y : List UInt8} (h : [AV.str x] = [AV.str y]) : x = y := by cases h; rfl
theorem c7 (H : AHeap) : acall Tryd.prog (orcF (fct a b)) H 7 [] = some (.bool true, H) := callF b7 findF_here
theorem c8a (H : AHeap) : acall Tryd.prog (orcF (fct a b)) H 8 [.str a] = some (resX a.length (lexN a), H) := callF b8 (findF_next rfl findF_here)
theorem c8b (H : AHeap) : acall Tryd.prog (orcF (fct a b)) H 8 [.str b] = some (resX b.length (lexN b), H) :=
  callF b8 (findF_next rfl (findF_fn (fun h => congrArg (fun s => resX s.length (lexN s)) (str_inj h)) findF_here))
theorem c8n (H : AHeap) : acall Tryd.prog (orcF (fct a b)) H 8 [.str (a ++ [10] ++ b)] = some (resX (a ++ [10] ++ b).length (lexN (a ++ [10] ++ b)), H) :=
  callF b8 (findF_next rfl (findF_fn (fun h => congrArg (fun s => resX s.length (lexN s)) (str_inj h)) (findF_fn (fun h => congrArg (fun s => resX s.length (lexN s)) (str_inj h)) findF_here)))
end
theorem glue' (a b : List UInt8) : lexN (a ++ [10] ++ b) = gluR a.length (lexN a) (lexN b) := by rw [List.append_assoc]; exact glue a b
theorem law_ok (a b : List UInt8) (ha : a.length ≤ 3000) (hb : b.length ≤ 3000) : ValOK Tryd.prog runLives.gl 3 [.str a, .str b] (.bool true) := by
  have hO := fct_ok a b ha hb
  have e1 : decide ((a.length : Int) > 3000) = false := by simp; omega
  have e2 : decide ((b.length : Int) > 3000) = false := by simp; omega
  have q7 := c7 a b
  have qa := c8a a b
  have qb := c8b a b
  have qn := c8n a b
  have hg := glue' a b
  generalize fct a b = L at *
  generalize hn : lexN (a ++ [10] ++ b) = rn at *
  cases hx : lexN a with
  | inl e =>
    rw [hx] at qa hg
    subst hg
    simp only [gluR, resX] at qa qn
    cases hy : lexN b with
    | inl e' =>
      rw [hy] at qb
      simp only [resX] at qb
      clear hn hx hy
      refine fn_val follows noNum hO Tryd.func3 rfl ?_
      repeat' ((conv => whnf); first | (with_reducible refine exI (q7 _) ?_) | (with_reducible refine exI (qa _) ?_) | (with_reducible refine exI (qb _) ?_) | (refine exI (qn _) ?_) | (refine exI (agg26 _ _ _ _) ?_) | (first | (with_reducible refine condT ?_ ?_; (focus ((first | assumption | decide | (simp; done) | (simp; omega)); done))) | (with_reducible refine condF ?_ ?_; (focus ((first | assumption | decide | (simp; done) | (simp; omega)); done))) | with_reducible refine condB (fun h => ?_) (fun h => ?_) | with_reducible refine exI rfl ?_ | with_reducible refine eqR rfl ?_ | (with_reducible refine exW (wrapN1 ?_) ?_; (focus (omega))) | (with_reducible refine exW (wrapN ?_) ?_; (focus (omega))) | (with_reducible refine exW (wrapB ?_ ?_) ?_; (focus (omega)); (focus (omega))) | with_reducible refine exW rfl ?_ | (with_reducible refine ixJ _ rfl ?_ ?_; (focus ((first | decide | omega | (simp; done) | (simp; omega)); done))) | (with_reducible refine ixJ' _ rfl ?_ ?_; (focus ((first | decide | omega | (simp; done) | (simp; omega)); done))) | (refine ixJ (Int.toNat _) ?_ ?_ ?_; (focus ((first | rfl | decide | omega | (simp; done)); done)); (focus ((first | decide | omega | (simp; done) | (simp; omega)); done))) | (refine ixJ' (Int.toNat _) ?_ ?_ ?_; (focus ((first | rfl | decide | omega | (simp; done)); done)); (focus ((first | decide | omega | (simp; done) | (simp; omega)); done))) | with_reducible refine ixS _ rfl (by assumption) ?_ | (with_reducible refine shlI ?_ ?_; (focus (first | decide | omega))) | (refine exI (callZ rfl rfl (if_pos ?_)) ?_; (focus ((first | decide | omega | (simp; done) | (simp; omega)); done)))) | (refine And.intro ?_ ?_; (focus (simp; omega))))
      all_goals (try (simp_all [resOf]; done))
    | inr l =>
      rw [hy] at qb
      simp only [resX] at qb
      clear hn hx hy
      refine fn_val follows noNum hO Tryd.func3 rfl ?_
      repeat' ((conv => whnf); first | (with_reducible refine exI (q7 _) ?_) | (with_reducible refine exI (qa _) ?_) | (with_reducible refine exI (qb _) ?_) | (refine exI (qn _) ?_) | (refine exI (agg26 _ _ _ _) ?_) | (first | (with_reducible refine condT ?_ ?_; (focus ((first | assumption | decide | (simp; done) | (simp; omega)); done))) | (with_reducible refine condF ?_ ?_; (focus ((first | assumption | decide | (simp; done) | (simp; omega)); done))) | with_reducible refine condB (fun h => ?_) (fun h => ?_) | with_reducible refine exI rfl ?_ | with_reducible refine eqR rfl ?_ | (with_reducible refine exW (wrapN1 ?_) ?_; (focus (omega))) | (with_reducible refine exW (wrapN ?_) ?_; (focus (omega))) | (with_reducible refine exW (wrapB ?_ ?_) ?_; (focus (omega)); (focus (omega))) | with_reducible refine exW rfl ?_ | (with_reducible refine ixJ _ rfl ?_ ?_; (focus ((first | decide | omega | (simp; done) | (simp; omega)); done))) | (with_reducible refine ixJ' _ rfl ?_ ?_; (focus ((first | decide | omega | (simp; done) | (simp; omega)); done))) | (refine ixJ (Int.toNat _) ?_ ?_ ?_; (focus ((first | rfl | decide | omega | (simp; done)); done)); (focus ((first | decide | omega | (simp; done) | (simp; omega)); done))) | (refine ixJ' (Int.toNat _) ?_ ?_ ?_; (focus ((first | rfl | decide | omega | (simp; done)); done)); (focus ((first | decide | omega | (simp; done) | (simp; omega)); done))) | with_reducible refine ixS _ rfl (by assumption) ?_ | (with_reducible refine shlI ?_ ?_; (focus (first | decide | omega))) | (refine exI (callZ rfl rfl (if_pos ?_)) ?_; (focus ((first | decide | omega | (simp; done) | (simp; omega)); done)))) | (refine And.intro ?_ ?_; (focus (simp; omega))))
      all_goals (try (simp_all [resOf]; done))
  | inr l =>
    rw [hx] at qa hg
    subst hg
    cases hy : lexN b with
    | inl e' =>
      have hle := lexN_inl hy
      rw [hy] at qb qn
      simp only [gluR, resX] at qa qn qb
      clear hn hx hy
      refine fn_val follows noNum hO Tryd.func3 rfl ?_
      repeat' ((conv => whnf); first | (with_reducible refine exI (q7 _) ?_) | (with_reducible refine exI (qa _) ?_) | (with_reducible refine exI (qb _) ?_) | (refine exI (qn _) ?_) | (refine exI (agg26 _ _ _ _) ?_) | (first | (with_reducible refine condT ?_ ?_; (focus ((first | assumption | decide | (simp; done) | (simp; omega)); done))) | (with_reducible refine condF ?_ ?_; (focus ((first | assumption | decide | (simp; done) | (simp; omega)); done))) | with_reducible refine condB (fun h => ?_) (fun h => ?_) | with_reducible refine exI rfl ?_ | with_reducible refine eqR rfl ?_ | (with_reducible refine exW (wrapN1 ?_) ?_; (focus (omega))) | (with_reducible refine exW (wrapN ?_) ?_; (focus (omega))) | (with_reducible refine exW (wrapB ?_ ?_) ?_; (focus (omega)); (focus (omega))) | with_reducible refine exW rfl ?_ | (with_reducible refine ixJ _ rfl ?_ ?_; (focus ((first | decide | omega | (simp; done) | (simp; omega)); done))) | (with_reducible refine ixJ' _ rfl ?_ ?_; (focus ((first | decide | omega | (simp; done) | (simp; omega)); done))) | (refine ixJ (Int.toNat _) ?_ ?_ ?_; (focus ((first | rfl | decide | omega | (simp; done)); done)); (focus ((first | decide | omega | (simp; done) | (simp; omega)); done))) | (refine ixJ' (Int.toNat _) ?_ ?_ ?_; (focus ((first | rfl | decide | omega | (simp; done)); done)); (focus ((first | decide | omega | (simp; done) | (simp; omega)); done))) | with_reducible refine ixS _ rfl (by assumption) ?_ | (with_reducible refine shlI ?_ ?_; (focus (first | decide | omega))) | (refine exI (callZ rfl rfl (if_pos ?_)) ?_; (focus ((first | decide | omega | (simp; done) | (simp; omega)); done)))) | (refine And.intro ?_ ?_; (focus (simp; omega))))
      trace_state
      all_goals (try (simp_all [resOf]; done))
    | inr m =>
      rw [hy] at qb qn
      simp only [gluR, resX] at qa qn qb
      have hl1 := lexF_len _ _ _ _ (show lexF (a.length + 1) (skip false a) (a.drop (skip false a)) = .inr l from hx)
      have hm1 := lexF_len _ _ _ _ (show lexF (b.length + 1) (skip false b) (b.drop (skip false b)) = .inr m from hy)
      have hmp : ∀ t ∈ m ++ [(⟨5, [], 0, b.length⟩ : Tk)], t.pos ≤ b.length := fun t ht => by
        rcases List.mem_append.1 ht with ht | ht
        · have := lexF_pos _ _ _ _ (show lexF (b.length + 1) (skip false b) (b.drop (skip false b)) = .inr m from hy) t ht
          have hs := skip_le false b
          rw [List.length_drop] at this; omega
        · simp at ht; subst ht; exact Nat.le_refl _
      have elen : (l ++ m.map (Tk.up (a.length + 1))).length = l.length + m.length := by simp
      have eN : l ++ m.map (Tk.up (a.length + 1)) ++ [(⟨5, [], 0, (a ++ [10] ++ b).length⟩ : Tk)] = l ++ (m ++ [(⟨5, [], 0, b.length⟩ : Tk)]).map (Tk.up (a.length + 1)) := by
        rw [List.append_assoc, List.map_append]
        congr 2
        simp [Tk.up]; omega
      rw [elen, eN] at qn
      clear hn hx hy
      refine fn_val follows noNum hO Tryd.func3 rfl ?_
      repeat' ((conv => whnf); first | (with_reducible refine exI (q7 _) ?_) | (with_reducible refine exI (qa _) ?_) | (with_reducible refine exI (qb _) ?_) | (refine exI (qn _) ?_) | (refine exI (agg26 _ _ _ _) ?_) | (first | (with_reducible refine condT ?_ ?_; (focus ((first | assumption | decide | (simp; done) | (simp; omega)); done))) | (with_reducible refine condF ?_ ?_; (focus ((first | assumption | decide | (simp; done) | (simp; omega)); done))) | with_reducible refine condB (fun h => ?_) (fun h => ?_) | with_reducible refine exI rfl ?_ | with_reducible refine eqR rfl ?_ | (with_reducible refine exW (wrapN1 ?_) ?_; (focus (omega))) | (with_reducible refine exW (wrapN ?_) ?_; (focus (omega))) | (with_reducible refine exW (wrapB ?_ ?_) ?_; (focus (omega)); (focus (omega))) | with_reducible refine exW rfl ?_ | (with_reducible refine ixJ _ rfl ?_ ?_; (focus ((first | decide | omega | (simp; done) | (simp; omega)); done))) | (with_reducible refine ixJ' _ rfl ?_ ?_; (focus ((first | decide | omega | (simp; done) | (simp; omega)); done))) | (refine ixJ (Int.toNat _) ?_ ?_ ?_; (focus ((first | rfl | decide | omega | (simp; done)); done)); (focus ((first | decide | omega | (simp; done) | (simp; omega)); done))) | (refine ixJ' (Int.toNat _) ?_ ?_ ?_; (focus ((first | rfl | decide | omega | (simp; done)); done)); (focus ((first | decide | omega | (simp; done) | (simp; omega)); done))) | with_reducible refine ixS _ rfl (by assumption) ?_ | (with_reducible refine shlI ?_ ?_; (focus (first | decide | omega))) | (refine exI (callZ rfl rfl (if_pos ?_)) ?_; (focus ((first | decide | omega | (simp; done) | (simp; omega)); done)))) | (refine And.intro ?_ ?_; (focus (simp; omega))))
      conv => whnf
      refine ⟨Nat, (fun i => i ≤ l.length + m.length + 1), (fun i => [(0, .str a), (5, .rs (l.length + 1) 4 (tksC (l ++ [⟨5, [], 0, a.length⟩]))), (7, .rs (m.length + 1) 4 (tksC (m ++ [⟨5, [], 0, b.length⟩]))), (9, .rs (l.length + m.length + 1) 4 (tksC (l ++ (m ++ [(⟨5, [], 0, b.length⟩ : Tk)]).map (Tk.up (a.length + 1))))), (11, .int .i64 i)]), (fun _ => []), (fun i => l.length + m.length + 1 - i), ⟨0, Nat.zero_le _, FgL.mk0 rfl ?_⟩, ?_⟩
      · refine And.intro (Wk.noref rfl) ?_
        refine And.intro (Wk.noref rfl) ?_
        refine And.intro (Wk.noref rfl) ?_
        refine And.intro (Wk.noref rfl) ?_
        exact ⟨Wk.int rfl, trivial⟩
      intro i hi
      clear q7 qa qb qn
      by_cases hlt : i < l.length + m.length + 1
      · have f1 : decide ((i : Int) < ((l.length + m.length + 1 : Nat) : Int)) = true := by simp; omega
        by_cases hil : i < l.length
        · have f2 : decide ((i : Int) < ((l.length + 1 : Nat) : Int) - 1) = true := by simp; omega
          have x1 := tk4_ok (l ++ [⟨5, [], 0, a.length⟩]) i (by simp; omega)
          have x2 := tk4_ok (l ++ (m ++ [(⟨5, [], 0, b.length⟩ : Tk)]).map (Tk.up (a.length + 1))) i (by simp; omega)
          rw [List.getElem_append_left hil] at x1 x2
          generalize l[i] = t at *
          repeat' ((conv => whnf); first | (refine exI x1 ?_) | (refine exI x2 ?_) | (refine exI (agg30 _ _ _ _ _ _ _ _) ?_) | (with_reducible refine ixJ i rfl ?_ ?_; (focus (omega))) | (first | (with_reducible refine condT ?_ ?_; (focus ((first | assumption | decide | (simp; done) | (simp; omega)); done))) | (with_reducible refine condF ?_ ?_; (focus ((first | assumption | decide | (simp; done) | (simp; omega)); done))) | with_reducible refine condB (fun h => ?_) (fun h => ?_) | with_reducible refine exI rfl ?_ | with_reducible refine eqR rfl ?_ | (with_reducible refine exW (wrapN1 ?_) ?_; (focus (omega))) | (with_reducible refine exW (wrapN ?_) ?_; (focus (omega))) | (with_reducible refine exW (wrapB ?_ ?_) ?_; (focus (omega)); (focus (omega))) | with_reducible refine exW rfl ?_ | (with_reducible refine ixJ _ rfl ?_ ?_; (focus ((first | decide | omega | (simp; done) | (simp; omega)); done))) | (with_reducible refine ixJ' _ rfl ?_ ?_; (focus ((first | decide | omega | (simp; done) | (simp; omega)); done))) | (refine ixJ (Int.toNat _) ?_ ?_ ?_; (focus ((first | rfl | decide | omega | (simp; done)); done)); (focus ((first | decide | omega | (simp; done) | (simp; omega)); done))) | (refine ixJ' (Int.toNat _) ?_ ?_ ?_; (focus ((first | rfl | decide | omega | (simp; done)); done)); (focus ((first | decide | omega | (simp; done) | (simp; omega)); done))) | with_reducible refine ixS _ rfl (by assumption) ?_ | (with_reducible refine shlI ?_ ?_; (focus (first | decide | omega))) | (refine exI (callZ rfl rfl (if_pos ?_)) ?_; (focus ((first | decide | omega | (simp; done) | (simp; omega)); done)))))
          conv => whnf
          exact ⟨i + 1, by show i + 1 ≤ l.length + m.length + 1; omega, by show l.length + m.length + 1 - (i + 1) < l.length + m.length + 1 - i; omega, FgL.mk0 rfl ⟨Wk.noref rfl, Wk.noref rfl, Wk.noref rfl, Wk.noref rfl, Wk.int rfl, trivial⟩⟩
        · have f2 : decide ((i : Int) < ((l.length + 1 : Nat) : Int) - 1) = false := by simp; omega
          have x1 := tk4_ok (m ++ [⟨5, [], 0, b.length⟩]) (i - l.length) (by simp; omega)
          have x2 := tk4_ok (l ++ (m ++ [(⟨5, [], 0, b.length⟩ : Tk)]).map (Tk.up (a.length + 1))) i (by simp; omega)
          rw [List.getElem_append_right (by omega), List.getElem_map] at x2
          have hjl : i - l.length < (m ++ [(⟨5, [], 0, b.length⟩ : Tk)]).length := by simp; omega
          have hp := hmp _ (List.getElem_mem hjl)
          generalize (m ++ [(⟨5, [], 0, b.length⟩ : Tk)])[i - l.length] = u at *
          have hq : (!(((Tk.up (a.length + 1) u).kind : Int) == (u.kind : Int) && ((Tk.up (a.length + 1) u).text == u.text && (((Tk.up (a.length + 1) u).num : Int) == (u.num : Int) && (((Tk.up (a.length + 1) u).pos : Int) == ((u.pos + a.length + 1 : Nat) : Int) && true))))) = false := by
            simp [Tk.up]; omega
          have hj : (i : Int) - ((l.length + 1 : Nat) : Int) + 1 = ((i - l.length : Nat) : Int) := by omega
          repeat' ((conv => whnf); first | (refine exI x1 ?_) | (refine exI x2 ?_) | (refine exI (agg30 _ _ _ _ _ _ _ _) ?_) | (with_reducible refine ixJ i rfl ?_ ?_; (focus (omega))) | (with_reducible refine ixJ (i - l.length) hj ?_ ?_; (focus (omega))) | (first | (with_reducible refine condT ?_ ?_; (focus ((first | assumption | decide | (simp; done) | (simp; omega)); done))) | (with_reducible refine condF ?_ ?_; (focus ((first | assumption | decide | (simp; done) | (simp; omega)); done))) | with_reducible refine condB (fun h => ?_) (fun h => ?_) | with_reducible refine exI rfl ?_ | with_reducible refine eqR rfl ?_ | (with_reducible refine exW (wrapN1 ?_) ?_; (focus (omega))) | (with_reducible refine exW (wrapN ?_) ?_; (focus (omega))) | (with_reducible refine exW (wrapB ?_ ?_) ?_; (focus (omega)); (focus (omega))) | with_reducible refine exW rfl ?_ | (with_reducible refine ixJ _ rfl ?_ ?_; (focus ((first | decide | omega | (simp; done) | (simp; omega)); done))) | (with_reducible refine ixJ' _ rfl ?_ ?_; (focus ((first | decide | omega | (simp; done) | (simp; omega)); done))) | (refine ixJ (Int.toNat _) ?_ ?_ ?_; (focus ((first | rfl | decide | omega | (simp; done)); done)); (focus ((first | decide | omega | (simp; done) | (simp; omega)); done))) | (refine ixJ' (Int.toNat _) ?_ ?_ ?_; (focus ((first | rfl | decide | omega | (simp; done)); done)); (focus ((first | decide | omega | (simp; done) | (simp; omega)); done))) | with_reducible refine ixS _ rfl (by assumption) ?_ | (with_reducible refine shlI ?_ ?_; (focus (first | decide | omega))) | (refine exI (callZ rfl rfl (if_pos ?_)) ?_; (focus ((first | decide | omega | (simp; done) | (simp; omega)); done)))))
          conv => whnf
          exact ⟨i + 1, by show i + 1 ≤ l.length + m.length + 1; omega, by show l.length + m.length + 1 - (i + 1) < l.length + m.length + 1 - i; omega, FgL.mk0 rfl ⟨Wk.noref rfl, Wk.noref rfl, Wk.noref rfl, Wk.noref rfl, Wk.int rfl, trivial⟩⟩
      · have f1 : decide ((i : Int) < ((l.length + m.length + 1 : Nat) : Int)) = false := by simp; omega
        repeat' ((conv => whnf); first | (with_reducible refine condT ?_ ?_; (focus ((first | assumption | decide | (simp; done) | (simp; omega)); done))) | (with_reducible refine condF ?_ ?_; (focus ((first | assumption | decide | (simp; done) | (simp; omega)); done))) | with_reducible refine condB (fun h => ?_) (fun h => ?_) | with_reducible refine exI rfl ?_ | with_reducible refine eqR rfl ?_ | (with_reducible refine exW (wrapN1 ?_) ?_; (focus (omega))) | (with_reducible refine exW (wrapN ?_) ?_; (focus (omega))) | (with_reducible refine exW (wrapB ?_ ?_) ?_; (focus (omega)); (focus (omega))) | with_reducible refine exW rfl ?_ | (with_reducible refine ixJ _ rfl ?_ ?_; (focus ((first | decide | omega | (simp; done) | (simp; omega)); done))) | (with_reducible refine ixJ' _ rfl ?_ ?_; (focus ((first | decide | omega | (simp; done) | (simp; omega)); done))) | (refine ixJ (Int.toNat _) ?_ ?_ ?_; (focus ((first | rfl | decide | omega | (simp; done)); done)); (focus ((first | decide | omega | (simp; done) | (simp; omega)); done))) | (refine ixJ' (Int.toNat _) ?_ ?_ ?_; (focus ((first | rfl | decide | omega | (simp; done)); done)); (focus ((first | decide | omega | (simp; done) | (simp; omega)); done))) | with_reducible refine ixS _ rfl (by assumption) ?_ | (with_reducible refine shlI ?_ ?_; (focus (first | decide | omega))) | (refine exI (callZ rfl rfl (if_pos ?_)) ?_; (focus ((first | decide | omega | (simp; done) | (simp; omega)); done))))
        rfl
theorem law_big (a b : List UInt8) (h : ¬ (a.length ≤ 3000 ∧ b.length ≤ 3000)) : ValOK Tryd.prog runLives.gl 3 [.str a, .str b] (.bool true) := by
  by_cases ha : a.length ≤ 3000
  · have e1 : decide ((a.length : Int) > 3000) = false := by simp; omega
    have e2 : decide ((b.length : Int) > 3000) = true := by simp; omega
    refine fn_val follows noNum runLives.knownLives Tryd.func3 rfl ?_
    repeat' ((conv => whnf); first | (with_reducible refine condT ?_ ?_; (focus ((first | assumption | decide | (simp; done) | (simp; omega)); done))) | (with_reducible refine condF ?_ ?_; (focus ((first | assumption | decide | (simp; done) | (simp; omega)); done))) | with_reducible refine condB (fun h => ?_) (fun h => ?_) | with_reducible refine exI rfl ?_ | with_reducible refine eqR rfl ?_ | (with_reducible refine exW (wrapN1 ?_) ?_; (focus (omega))) | (with_reducible refine exW (wrapN ?_) ?_; (focus (omega))) | (with_reducible refine exW (wrapB ?_ ?_) ?_; (focus (omega)); (focus (omega))) | with_reducible refine exW rfl ?_ | (with_reducible refine ixJ _ rfl ?_ ?_; (focus ((first | decide | omega | (simp; done) | (simp; omega)); done))) | (with_reducible refine ixJ' _ rfl ?_ ?_; (focus ((first | decide | omega | (simp; done) | (simp; omega)); done))) | (refine ixJ (Int.toNat _) ?_ ?_ ?_; (focus ((first | rfl | decide | omega | (simp; done)); done)); (focus ((first | decide | omega | (simp; done) | (simp; omega)); done))) | (refine ixJ' (Int.toNat _) ?_ ?_ ?_; (focus ((first | rfl | decide | omega | (simp; done)); done)); (focus ((first | decide | omega | (simp; done) | (simp; omega)); done))) | with_reducible refine ixS _ rfl (by assumption) ?_ | (with_reducible refine shlI ?_ ?_; (focus (first | decide | omega))) | (refine exI (callZ rfl rfl (if_pos ?_)) ?_; (focus ((first | decide | omega | (simp; done) | (simp; omega)); done))))
    all_goals (try (simp_all [resOf]; done))
  · have e1 : decide ((a.length : Int) > 3000) = true := by simp; omega
    refine fn_val follows noNum runLives.knownLives Tryd.func3 rfl ?_
    repeat' ((conv => whnf); first | (with_reducible refine condT ?_ ?_; (focus ((first | assumption | decide | (simp; done) | (simp; omega)); done))) | (with_reducible refine condF ?_ ?_; (focus ((first | assumption | decide | (simp; done) | (simp; omega)); done))) | with_reducible refine condB (fun h => ?_) (fun h => ?_) | with_reducible refine exI rfl ?_ | with_reducible refine eqR rfl ?_ | (with_reducible refine exW (wrapN1 ?_) ?_; (focus (omega))) | (with_reducible refine exW (wrapN ?_) ?_; (focus (omega))) | (with_reducible refine exW (wrapB ?_ ?_) ?_; (focus (omega)); (focus (omega))) | with_reducible refine exW rfl ?_ | (with_reducible refine ixJ _ rfl ?_ ?_; (focus ((first | decide | omega | (simp; done) | (simp; omega)); done))) | (with_reducible refine ixJ' _ rfl ?_ ?_; (focus ((first | decide | omega | (simp; done) | (simp; omega)); done))) | (refine ixJ (Int.toNat _) ?_ ?_ ?_; (focus ((first | rfl | decide | omega | (simp; done)); done)); (focus ((first | decide | omega | (simp; done) | (simp; omega)); done))) | (refine ixJ' (Int.toNat _) ?_ ?_ ?_; (focus ((first | rfl | decide | omega | (simp; done)); done)); (focus ((first | decide | omega | (simp; done) | (simp; omega)); done))) | with_reducible refine ixS _ rfl (by assumption) ?_ | (with_reducible refine shlI ?_ ?_; (focus (first | decide | omega))) | (refine exI (callZ rfl rfl (if_pos ?_)) ?_; (focus ((first | decide | omega | (simp; done) | (simp; omega)); done))))
    all_goals (try (simp_all [resOf]; done))
def Qs : List (AV → Prop) := [fun u => ∃ s : List UInt8, u = .str s ∧ s.length ≤ maxLen, fun u => ∃ s : List UInt8, u = .str s ∧ s.length ≤ maxLen]
theorem opens : OpensAll Tryd.prog Tryd.f3.params.toList Qs := by
  rw [Tryd.params3]
  exact ⟨opensV_str Tryd.underlying9, opensV_str Tryd.underlying9, trivial⟩
theorem law (us : List AV) (h : AllQ Qs us) : ValOK Tryd.prog runLives.gl 3 us (.bool true) := by
  obtain ⟨_, _, rfl, ⟨a, rfl, ha⟩, h1⟩ := allQ_cons h
  obtain ⟨_, _, rfl, ⟨b, rfl, hb⟩, h2⟩ := allQ_cons h1
  cases allQ_nil h2
  by_cases h : a.length ≤ 3000 ∧ b.length ≤ 3000
  · exact law_ok a b h.1 h.2
  · exact law_big a b h
theorem solid : Solid Tryd.prog := lexReadsLaw.solid
end Go.Proofs.YtacaaiiooedgjaaDoor.lexGlueLaw
end

/-
  Of 'cantileverlaw02': strings.Join, lex.Join.
-/
section
set_option linter.unusedVariables false
set_option linter.unusedSimpArgs false
namespace Go.Proofs.YtacaaiiooedgjaaDoor.lex
open Go.Abs Go.RowKit
set_option maxRecDepth 100000
set_option maxHeartbeats 4000000
variable {gl : Glob}

/-- Texts put together with blanks. -/
def joinB : List (List UInt8) → List UInt8
  | [] => []
  | [t] => t
  | t :: l => t ++ 32 :: joinB l
def lens : List (List UInt8) → Nat
  | [] => 0
  | t :: l => t.length + 1 + lens l
def byt (s : List UInt8) : List AV := s.map fun b => .int .u8 b.toNat
theorem b58 : hasBody Tryd.prog 58 = false := by kernel_rfl
theorem lens_len : ∀ l : List (List UInt8), l.length ≤ lens l
  | [] => Nat.le_refl _
  | t :: l => by have := lens_len l; simp only [List.length_cons, lens]; omega
theorem byt_one (t : List UInt8) : (byt t).all one = true := by simp [byt, List.all_eq_true, one]
theorem c5 : Tryd.prog.cellsOf 5 = 1 := by kernel_rfl
theorem bT : appT Tryd.prog 60 9 = some (5, 1, 1) := by kernel_rfl
theorem mk58 {orc : Orc} {H : AHeap} {n : Nat} (hn : n ≤ 2097152) : acall Tryd.prog orc H 58 ([] ++ [AV.int .i64 (IntKind.i64.wrap (IntKind.i64.wrap (2 * Int.ofNat 0) + (n : Int)))] ++ []) = some (.slice H.length 0 n n 1, H ++ [⟨true, H.length, 0, .cells [] 5⟩]) := by
  have e : IntKind.i64.wrap (IntKind.i64.wrap (2 * Int.ofNat 0) + (n : Int)) = (n : Int) := by
    have : IntKind.i64.wrap (2 * Int.ofNat 0) = 0 := by decide
    rw [this, Int.zero_add]; exact wrapB (by omega) (by omega)
  rw [e]
  have h3 : extMk Tryd.prog 58 = some 5 := by kernel_rfl
  obtain ⟨h1, h2, _⟩ := extMk_spec (vs := [.int .i64 (n : Int)]) h3
  refine mkz_ok b58 ?_ ?_ h3 (by omega)
  · exact fun args => (extMk_spec h3 args).1
  · exact fun args => (extMk_spec h3 args).2.1
def tailJ : List (List UInt8) → List UInt8
  | [] => []
  | t :: l => 32 :: (t ++ tailJ l)
theorem joinB_tail : ∀ (t : List UInt8) (l : List (List UInt8)), joinB (t :: l) = t ++ tailJ l
  | t, [] => by simp [joinB, tailJ]
  | t, u :: l => by rw [joinB, joinB_tail u l]; rfl; simp
theorem tailJ_len : ∀ l : List (List UInt8), (tailJ l).length ≤ lens l
  | [] => Nat.le_refl _
  | t :: l => by have := tailJ_len l; simp only [tailJ, lens, List.length_cons, List.length_append]; omega
theorem byt_refs : ∀ t : List UInt8, refsL (byt t) [] = []
  | [] => rfl
  | c :: t => byt_refs t
theorem byt_app (a b : List UInt8) : byt (a ++ b) = byt a ++ byt b := by simp [byt]
theorem byt_len (a : List UInt8) : (byt a).length = a.length := by simp [byt]
theorem us2 (s : List UInt8) (h0 : s ≠ []) (hs : s.length ≤ 1099511627776) : aUStr Tryd.prog 72 (.ptr 1 0) s.length [⟨true, 0, 0, .cells [.ptr 0 0, .slice 1 0 s.length s.length 1] 62⟩, ⟨true, 1, 0, .cells (byt s) 5⟩] =
    some (.str s, [⟨true, 0, 0, .cells [.ptr 0 0, .slice 1 0 s.length s.length 1] 62⟩, AObj.dead ⟨true, 1, 0, .cells (byt s) 5⟩]) :=
  ustr_ok (P := Tryd.prog) (t := 72) (ty := 5) (b := 1) (f := 1) (s := s) u72 c5 rfl h0 hs
theorem sjoin_ok (t u : List UInt8) (ts : List (List UInt8)) (hb : lens (t :: u :: ts) ≤ 1048576) : ValOK Tryd.prog gl 26 [.rs (t :: u :: ts).length 1 ((t :: u :: ts).map AV.str), .str [32]] (.str (joinB (t :: u :: ts))) := by
  refine fn_valI (fun g => false) 3 follows noNum none_sound Tryd.func26 rfl ?_
  generalize hl : t :: u :: ts = l at *
  have hl2 : 2 ≤ l.length := by rw [← hl]; simp
  have hl3 := lens_len l
  have d0 : ((l.length : Int) == 0) = false := beq_eq_false_iff_ne.2 (by omega)
  have d1 : ((l.length : Int) == 1) = false := beq_eq_false_iff_ne.2 (by omega)
  obtain ⟨k, hk⟩ : ∃ k, l.length = k + 1 := ⟨l.length - 1, by omega⟩
  have hk1 : 1 ≤ k ∧ k ≤ 1048576 := by omega
  have wk : IntKind.i64.wrap ((l.length : Int) - 1) = (k : Int) := by
    have e : (l.length : Int) - 1 = (k : Int) := by omega
    rw [e]; exact wrapB (by omega) (by omega)
  have q1 := Nat.div_le_self 9223372036854775807 k
  have q2 : 2 ≤ 9223372036854775807 / k := by rw [Nat.le_div_iff_mul_le (by omega)]; omega
  have wq : IntKind.i64.wrap (Int.tdiv 9223372036854775807 (k : Int)) = ((9223372036854775807 / k : Nat) : Int) := by
    have e : Int.tdiv 9223372036854775807 (k : Int) = ((9223372036854775807 / k : Nat) : Int) := rfl
    rw [e]
    generalize 9223372036854775807 / k = q at *
    exact wrapB (by omega) (by omega)
  have d2 : decide ((([32] : List UInt8).length : Int) ≥ ((9223372036854775807 / k : Nat) : Int)) = false := by
    generalize 9223372036854775807 / k = q at *
    have : ¬ ((([32] : List UInt8).length : Int) ≥ (q : Int)) := by simp; omega
    simp only [this, decide_false]
  clear q1 q2
  have wm : IntKind.i64.wrap ((([32] : List UInt8).length : Int) * (k : Int)) = (k : Int) := by
    have : ((([32] : List UInt8).length : Int) * (k : Int)) = (k : Int) := by simp
    rw [this]; exact wrapB (by omega) (by omega)
  have wz : IntKind.i64.wrap (0 + (k : Int)) = (k : Int) := by
    rw [Int.zero_add]; exact wrapB (by omega) (by omega)
  repeat' ((conv => whnf); first | (with_reducible refine exW wk ?_) | (with_reducible refine exW wm ?_) | (with_reducible refine exW wz ?_) | (refine And.intro (show (k : Int) ≠ 0 by omega) ?_) | (rw [wq]) | (first | (with_reducible refine condT ?_ ?_; (focus ((first | assumption | decide | (simp; done) | (simp; omega)); done))) | (with_reducible refine condF ?_ ?_; (focus ((first | assumption | decide | (simp; done) | (simp; omega)); done))) | with_reducible refine condB (fun h => ?_) (fun h => ?_) | with_reducible refine exI rfl ?_ | with_reducible refine eqR rfl ?_ | (with_reducible refine exW (wrapN1 ?_) ?_; (focus (omega))) | (with_reducible refine exW (wrapN ?_) ?_; (focus (omega))) | (with_reducible refine exW (wrapB ?_ ?_) ?_; (focus (omega)); (focus (omega))) | with_reducible refine exW rfl ?_ | (with_reducible refine ixJ _ rfl ?_ ?_; (focus ((first | decide | omega | (simp; done) | (simp; omega)); done))) | (with_reducible refine ixJ' _ rfl ?_ ?_; (focus ((first | decide | omega | (simp; done) | (simp; omega)); done))) | (refine ixJ (Int.toNat _) ?_ ?_ ?_; (focus ((first | rfl | decide | omega | (simp; done)); done)); (focus ((first | decide | omega | (simp; done) | (simp; omega)); done))) | (refine ixJ' (Int.toNat _) ?_ ?_ ?_; (focus ((first | rfl | decide | omega | (simp; done)); done)); (focus ((first | decide | omega | (simp; done) | (simp; omega)); done))) | with_reducible refine ixS _ rfl (by assumption) ?_ | (with_reducible refine shlI ?_ ?_; (focus (first | decide | omega))) | (refine exI (callZ rfl rfl (if_pos ?_)) ?_; (focus ((first | decide | omega | (simp; done) | (simp; omega)); done)))))
  conv => whnf
  refine ⟨Nat × Nat, (fun p => p.1 ≤ l.length ∧ 1 ≤ p.2 ∧ p.2 + lens (l.drop p.1) ≤ 2097152), (fun p => [(0, .rs l.length 1 (l.map AV.str)), (1, .str [32]), (5, .int .i64 p.2), (39, .rs l.length 1 (l.map AV.str)), (40, .int .i64 l.length), (41, .int .i64 p.1)]), (fun _ => []), (fun p => l.length - p.1), ⟨(0, k), ⟨Nat.zero_le _, by show 1 ≤ k; omega, by show k + lens l ≤ 2097152; omega⟩, ?_⟩, ?_⟩
  · refine FgL.mk0 rfl ?_
    refine And.intro (Wk.noref rfl) ?_
    refine And.intro (Wk.noref rfl) ?_
    refine And.intro (Wk.int rfl) ?_
    refine And.intro (Wk.noref rfl) ?_
    refine And.intro (Wk.int rfl) ?_
    exact ⟨Wk.int rfl, trivial⟩
  rintro ⟨i, n⟩ ⟨h1, h2, h3⟩
  dsimp only at h1 h2 h3
  clear wk wq d2 wm wz
  by_cases hlt : i < l.length
  · have e1 : decide ((i : Int) < (l.length : Int)) = true := by simpa using hlt
    have hx := tk1_map AV.str l i hlt (off := i * 1) (by omega)
    have hdr : l.drop i = l[i] :: l.drop (i + 1) := List.drop_eq_getElem_cons hlt
    rw [hdr] at h3
    simp only [lens] at h3
    generalize l[i] = x at *
    have e2 : decide ((x.length : Int) > 9223372036854775807 - (n : Int)) = false := by simp; omega
    repeat' ((conv => whnf); first | (refine exI hx ?_) | (first | (with_reducible refine condT ?_ ?_; (focus ((first | assumption | decide | (simp; done) | (simp; omega)); done))) | (with_reducible refine condF ?_ ?_; (focus ((first | assumption | decide | (simp; done) | (simp; omega)); done))) | with_reducible refine condB (fun h => ?_) (fun h => ?_) | with_reducible refine exI rfl ?_ | with_reducible refine eqR rfl ?_ | (with_reducible refine exW (wrapN1 ?_) ?_; (focus (omega))) | (with_reducible refine exW (wrapN ?_) ?_; (focus (omega))) | (with_reducible refine exW (wrapB ?_ ?_) ?_; (focus (omega)); (focus (omega))) | with_reducible refine exW rfl ?_ | (with_reducible refine ixJ _ rfl ?_ ?_; (focus ((first | decide | omega | (simp; done) | (simp; omega)); done))) | (with_reducible refine ixJ' _ rfl ?_ ?_; (focus ((first | decide | omega | (simp; done) | (simp; omega)); done))) | (refine ixJ (Int.toNat _) ?_ ?_ ?_; (focus ((first | rfl | decide | omega | (simp; done)); done)); (focus ((first | decide | omega | (simp; done) | (simp; omega)); done))) | (refine ixJ' (Int.toNat _) ?_ ?_ ?_; (focus ((first | rfl | decide | omega | (simp; done)); done)); (focus ((first | decide | omega | (simp; done) | (simp; omega)); done))) | with_reducible refine ixS _ rfl (by assumption) ?_ | (with_reducible refine shlI ?_ ?_; (focus (first | decide | omega))) | (refine exI (callZ rfl rfl (if_pos ?_)) ?_; (focus ((first | decide | omega | (simp; done) | (simp; omega)); done)))))
    conv => whnf
    refine ⟨(i + 1, n + x.length), ⟨hlt, by show 1 ≤ n + x.length; omega, by show n + x.length + lens (l.drop (i + 1)) ≤ 2097152; omega⟩, by show l.length - (i + 1) < l.length - i; omega, FgL.mk0 rfl ?_⟩
    refine And.intro (Wk.noref rfl) ?_
    refine And.intro (Wk.noref rfl) ?_
    refine And.intro (Wk.int rfl) ?_
    refine And.intro (Wk.noref rfl) ?_
    refine And.intro (Wk.int rfl) ?_
    exact ⟨Wk.int rfl, trivial⟩
  · have e1 : decide ((i : Int) < (l.length : Int)) = false := by simpa using hlt
    have hn : n ≤ 2097152 := by omega
    clear h1 h3
    have hx0 : tk 1 ((l.map AV.str).drop (0 * 1)) = some [.str t] := by rw [← hl]; rfl
    have e2 : decide (IntKind.i64.wrap (Int.ofNat 0 - 0) < (n : Int)) = true := by
      have : IntKind.i64.wrap (Int.ofNat 0 - 0) = 0 := by decide
      rw [this]; simp; omega
    have hlr : l.map AV.str = AV.str t :: (u :: ts).map AV.str := by rw [← hl]; rfl
    have hlen : (u :: ts).length = l.length - 1 := by rw [← hl]; rfl
    have e63 : AV.rs (l.length - 1) 1 (List.take ((l.length - 1) * 1) (List.drop (1 * 1) (List.map AV.str l))) = AV.rs (l.length - 1) 1 ((u :: ts).map AV.str) := by
      rw [hlr]; congr 1
      show List.take ((l.length - 1) * 1) ((u :: ts).map AV.str) = _
      rw [List.take_of_length_le]; rw [List.length_map, hlen]; omega
    have hjt : joinB l = t ++ tailJ (u :: ts) := by rw [← hl]; exact joinB_tail _ _
    have hjl : (joinB l).length ≤ 1048576 := by
      have h1 := tailJ_len (u :: ts)
      rw [hjt, List.length_append]
      rw [← hl, lens] at hb; omega
    have htb : t.length ≤ 1048576 := by rw [← hl] at hb; simp only [lens] at hb; omega
    have init : ∃ a : List UInt8, a = t := ⟨t, rfl⟩
    by_cases ht : t = []
    · subst ht
      repeat' ((conv => whnf); first | (refine exI hx0 ?_) | (refine exI (mk58 hn) ?_) | (refine exI (app_zero bT rfl) ?_) | (first | (with_reducible refine condT ?_ ?_; (focus ((first | assumption | decide | (simp; done) | (simp; omega)); done))) | (with_reducible refine condF ?_ ?_; (focus ((first | assumption | decide | (simp; done) | (simp; omega)); done))) | with_reducible refine condB (fun h => ?_) (fun h => ?_) | with_reducible refine exI rfl ?_ | with_reducible refine eqR rfl ?_ | (with_reducible refine exW (wrapN1 ?_) ?_; (focus (omega))) | (with_reducible refine exW (wrapN ?_) ?_; (focus (omega))) | (with_reducible refine exW (wrapB ?_ ?_) ?_; (focus (omega)); (focus (omega))) | with_reducible refine exW rfl ?_ | (with_reducible refine ixJ _ rfl ?_ ?_; (focus ((first | decide | omega | (simp; done) | (simp; omega)); done))) | (with_reducible refine ixJ' _ rfl ?_ ?_; (focus ((first | decide | omega | (simp; done) | (simp; omega)); done))) | (refine ixJ (Int.toNat _) ?_ ?_ ?_; (focus ((first | rfl | decide | omega | (simp; done)); done)); (focus ((first | decide | omega | (simp; done) | (simp; omega)); done))) | (refine ixJ' (Int.toNat _) ?_ ?_ ?_; (focus ((first | rfl | decide | omega | (simp; done)); done)); (focus ((first | decide | omega | (simp; done) | (simp; omega)); done))) | with_reducible refine ixS _ rfl (by assumption) ?_ | (with_reducible refine shlI ?_ ?_; (focus (first | decide | omega))) | (refine exI (callZ rfl rfl (if_pos ?_)) ?_; (focus ((first | decide | omega | (simp; done) | (simp; omega)); done)))))
      conv => whnf
      refine ⟨Nat × List UInt8, (fun p => p.1 ≤ l.length - 1 ∧ joinB l = p.2 ++ tailJ ((u :: ts).drop p.1) ∧ (0 < p.1 → p.2 ≠ [])), (fun p => [(1, .str [32]), (8, .ptr 0 0), (63, .rs (l.length - 1) 1 ((u :: ts).map AV.str)), (64, .int .i64 (l.length - 1 : Nat)), (65, .int .i64 p.1)]), (fun p => [⟨true, 0, 0, .cells [.ptr 0 0, .slice 1 0 p.2.length p.2.length 1] 62⟩, ⟨true, 1, 0, .cells (byt p.2) 5⟩]), (fun p => l.length - 1 - p.1), ⟨(0, []), ⟨Nat.zero_le _, hjt, fun h => absurd h (Nat.lt_irrefl 0)⟩, FgL.mk [0, 1] rfl ?_ ?_ rfl⟩, ?_⟩
      · refine And.intro (Wk.noref rfl) ?_
        refine And.intro (Wk.ptr rfl rfl) ?_
        refine And.intro (Wk.eq e63 rfl) ?_
        refine And.intro (Wk.int rfl) ?_
        exact ⟨Wk.int rfl, trivial⟩
      · refine ⟨⟨rfl, rfl, rfl, rfl, BodyGe.cellsL ⟨Wk.ptr rfl rfl, Wk.slice rfl rfl rfl (Nat.le_refl _) (Nat.zero_le _) rfl, trivial⟩⟩, ⟨rfl, rfl, rfl, rfl, BodyGe.pre (rest := []) rfl rfl⟩, trivial⟩
      rintro ⟨j, acc⟩ ⟨j1, j2, j3⟩
      dsimp only at j1 j2 j3
      dsimp only
      clear hx0 e2 e63 hjt htb e1 init
      by_cases hjlt : j < l.length - 1
      · have f1 : decide ((j : Int) < ((l.length - 1 : Nat) : Int)) = true := by simp; omega
        have hjr : j < (u :: ts).length := by rw [hlen]; exact hjlt
        have hx := tk1_map AV.str (u :: ts) j hjr (off := j * 1) (by omega)
        have hdr : (u :: ts).drop j = (u :: ts)[j] :: (u :: ts).drop (j + 1) := List.drop_eq_getElem_cons hjr
        rw [hdr] at j2
        generalize (u :: ts)[j] = x at *
        have hal : acc.length + 1 + x.length ≤ 1048576 := by
          rw [j2] at hjl; simp only [tailJ, List.length_append, List.length_cons] at hjl; omega
        have j4 : joinB l = (acc ++ 32 :: x) ++ tailJ ((u :: ts).drop (j + 1)) := by rw [j2]; simp [tailJ]
        by_cases hxe : x = []
        · subst hxe
          repeat' ((conv => whnf); first | (refine exI hx ?_) | (refine exI (app_okG bT (xs := byt [32]) (n := 1) (cs := byt acc) rfl rfl (ekil_le (by simp [ABody.len])) ((byt_len acc).trans (Nat.mul_one _).symm) (byt_one [32]) (by decide) ⟨by omega, by omega⟩) ?_) | (refine exI (app_zero bT rfl) ?_) | (first | (with_reducible refine condT ?_ ?_; (focus ((first | assumption | decide | (simp; done) | (simp; omega)); done))) | (with_reducible refine condF ?_ ?_; (focus ((first | assumption | decide | (simp; done) | (simp; omega)); done))) | with_reducible refine condB (fun h => ?_) (fun h => ?_) | with_reducible refine exI rfl ?_ | with_reducible refine eqR rfl ?_ | (with_reducible refine exW (wrapN1 ?_) ?_; (focus (omega))) | (with_reducible refine exW (wrapN ?_) ?_; (focus (omega))) | (with_reducible refine exW (wrapB ?_ ?_) ?_; (focus (omega)); (focus (omega))) | with_reducible refine exW rfl ?_ | (with_reducible refine ixJ _ rfl ?_ ?_; (focus ((first | decide | omega | (simp; done) | (simp; omega)); done))) | (with_reducible refine ixJ' _ rfl ?_ ?_; (focus ((first | decide | omega | (simp; done) | (simp; omega)); done))) | (refine ixJ (Int.toNat _) ?_ ?_ ?_; (focus ((first | rfl | decide | omega | (simp; done)); done)); (focus ((first | decide | omega | (simp; done) | (simp; omega)); done))) | (refine ixJ' (Int.toNat _) ?_ ?_ ?_; (focus ((first | rfl | decide | omega | (simp; done)); done)); (focus ((first | decide | omega | (simp; done) | (simp; omega)); done))) | with_reducible refine ixS _ rfl (by assumption) ?_ | (with_reducible refine shlI ?_ ?_; (focus (first | decide | omega))) | (refine exI (callZ rfl rfl (if_pos ?_)) ?_; (focus ((first | decide | omega | (simp; done) | (simp; omega)); done)))))
          conv => whnf
          refine ⟨(j + 1, acc ++ [32]), ⟨hjlt, j4, fun _ => by simp⟩, by show l.length - 1 - (j + 1) < l.length - 1 - j; omega, FgL.mk [0, 2] rfl ?_ ?_ rfl⟩
          · refine And.intro (Wk.noref rfl) ?_
            refine And.intro (Wk.ptr rfl rfl) ?_
            refine And.intro (Wk.noref rfl) ?_
            refine And.intro (Wk.int rfl) ?_
            exact ⟨Wk.int rfl, trivial⟩
          · refine ⟨⟨rfl, rfl, rfl, rfl, BodyGe.cellsL ⟨Wk.ptr rfl rfl, Wk.slice rfl rfl ?_ (Nat.le_refl _) ?_ rfl, trivial⟩⟩, ⟨rfl, rfl, rfl, rfl, BodyGe.pre (rest := []) ?_ ?_⟩, trivial⟩
            · show acc.length + 1 = (acc ++ [32]).length; simp
            · show (acc ++ [32]).length ≤ acc.length + 1; simp
            · show byt acc ++ byt [32] = byt (acc ++ [32]) ++ []; rw [byt_app]; simp
            · exact byt_refs _
        · have hxl : x.length ≠ 0 := fun e => hxe (List.eq_nil_of_length_eq_zero e)
          repeat' ((conv => whnf); first | (refine exI hx ?_) | (refine exI (app_okG bT (xs := byt [32]) (n := 1) (cs := byt acc) rfl rfl (ekil_le (by simp [ABody.len])) ((byt_len acc).trans (Nat.mul_one _).symm) (byt_one [32]) (by decide) ⟨by omega, by omega⟩) ?_) | (refine exI (app_okG bT (xs := byt x) (n := x.length) (cs := byt acc ++ byt [32]) rfl rfl (ekil_le (by simp [ABody.len])) (by simp [byt_len]) (byt_one x) hxl ⟨by omega, by omega⟩) ?_) | (first | (with_reducible refine condT ?_ ?_; (focus ((first | assumption | decide | (simp; done) | (simp; omega)); done))) | (with_reducible refine condF ?_ ?_; (focus ((first | assumption | decide | (simp; done) | (simp; omega)); done))) | with_reducible refine condB (fun h => ?_) (fun h => ?_) | with_reducible refine exI rfl ?_ | with_reducible refine eqR rfl ?_ | (with_reducible refine exW (wrapN1 ?_) ?_; (focus (omega))) | (with_reducible refine exW (wrapN ?_) ?_; (focus (omega))) | (with_reducible refine exW (wrapB ?_ ?_) ?_; (focus (omega)); (focus (omega))) | with_reducible refine exW rfl ?_ | (with_reducible refine ixJ _ rfl ?_ ?_; (focus ((first | decide | omega | (simp; done) | (simp; omega)); done))) | (with_reducible refine ixJ' _ rfl ?_ ?_; (focus ((first | decide | omega | (simp; done) | (simp; omega)); done))) | (refine ixJ (Int.toNat _) ?_ ?_ ?_; (focus ((first | rfl | decide | omega | (simp; done)); done)); (focus ((first | decide | omega | (simp; done) | (simp; omega)); done))) | (refine ixJ' (Int.toNat _) ?_ ?_ ?_; (focus ((first | rfl | decide | omega | (simp; done)); done)); (focus ((first | decide | omega | (simp; done) | (simp; omega)); done))) | with_reducible refine ixS _ rfl (by assumption) ?_ | (with_reducible refine shlI ?_ ?_; (focus (first | decide | omega))) | (refine exI (callZ rfl rfl (if_pos ?_)) ?_; (focus ((first | decide | omega | (simp; done) | (simp; omega)); done)))))
          conv => whnf
          refine ⟨(j + 1, acc ++ 32 :: x), ⟨hjlt, j4, fun _ => by simp⟩, by show l.length - 1 - (j + 1) < l.length - 1 - j; omega, FgL.mk [0, 3] rfl ?_ ?_ rfl⟩
          · refine And.intro (Wk.noref rfl) ?_
            refine And.intro (Wk.ptr rfl rfl) ?_
            refine And.intro (Wk.noref rfl) ?_
            refine And.intro (Wk.int rfl) ?_
            exact ⟨Wk.int rfl, trivial⟩
          · refine ⟨⟨rfl, rfl, rfl, rfl, BodyGe.cellsL ⟨Wk.ptr rfl rfl, Wk.slice rfl rfl ?_ (Nat.le_refl _) ?_ rfl, trivial⟩⟩, ⟨rfl, rfl, rfl, rfl, BodyGe.pre (rest := []) ?_ ?_⟩, trivial⟩
            · show acc.length + 1 + x.length = (acc ++ 32 :: x).length; simp; omega
            · show (acc ++ 32 :: x).length ≤ acc.length + 1 + x.length; simp; omega
            · show byt acc ++ byt [32] ++ byt x = byt (acc ++ 32 :: x) ++ []; rw [byt_app]; simp [byt]
            · exact byt_refs _
      · have f1 : decide ((j : Int) < ((l.length - 1 : Nat) : Int)) = false := by simp; omega
        have hdj : (u :: ts).drop j = [] := List.drop_eq_nil_of_le (by rw [hlen]; omega)
        rw [hdj, tailJ, List.append_nil] at j2
        have hne : acc ≠ [] := j3 (by omega)
        rw [j2] at hjl ⊢
        obtain ⟨c, r, rfl⟩ : ∃ c r, acc = c :: r := by cases acc with | nil => exact absurd rfl hne | cons c r => exact ⟨c, r, rfl⟩
        repeat' ((conv => whnf); first | (refine exI (us2 (c :: r) hne (by omega)) ?_) | (first | (with_reducible refine condT ?_ ?_; (focus ((first | assumption | decide | (simp; done) | (simp; omega)); done))) | (with_reducible refine condF ?_ ?_; (focus ((first | assumption | decide | (simp; done) | (simp; omega)); done))) | with_reducible refine condB (fun h => ?_) (fun h => ?_) | with_reducible refine exI rfl ?_ | with_reducible refine eqR rfl ?_ | (with_reducible refine exW (wrapN1 ?_) ?_; (focus (omega))) | (with_reducible refine exW (wrapN ?_) ?_; (focus (omega))) | (with_reducible refine exW (wrapB ?_ ?_) ?_; (focus (omega)); (focus (omega))) | with_reducible refine exW rfl ?_ | (with_reducible refine ixJ _ rfl ?_ ?_; (focus ((first | decide | omega | (simp; done) | (simp; omega)); done))) | (with_reducible refine ixJ' _ rfl ?_ ?_; (focus ((first | decide | omega | (simp; done) | (simp; omega)); done))) | (refine ixJ (Int.toNat _) ?_ ?_ ?_; (focus ((first | rfl | decide | omega | (simp; done)); done)); (focus ((first | decide | omega | (simp; done) | (simp; omega)); done))) | (refine ixJ' (Int.toNat _) ?_ ?_ ?_; (focus ((first | rfl | decide | omega | (simp; done)); done)); (focus ((first | decide | omega | (simp; done) | (simp; omega)); done))) | with_reducible refine ixS _ rfl (by assumption) ?_ | (with_reducible refine shlI ?_ ?_; (focus (first | decide | omega))) | (refine exI (callZ rfl rfl (if_pos ?_)) ?_; (focus ((first | decide | omega | (simp; done) | (simp; omega)); done)))))
        all_goals rfl
    · have htl : t.length ≠ 0 := fun e => ht (List.eq_nil_of_length_eq_zero e)
      repeat' ((conv => whnf); first | (refine exI hx0 ?_) | (refine exI (mk58 hn) ?_) | (refine exI (app_okG bT (xs := byt t) (n := t.length) (cs := []) rfl rfl (ekil_le (by simp [ABody.len])) rfl (byt_one t) htl ⟨by show 0 + t.length ≤ 1099511627776; omega, by show (0 + t.length) * 1 ≤ 70368744177664; omega⟩) ?_) | (first | (with_reducible refine condT ?_ ?_; (focus ((first | assumption | decide | (simp; done) | (simp; omega)); done))) | (with_reducible refine condF ?_ ?_; (focus ((first | assumption | decide | (simp; done) | (simp; omega)); done))) | with_reducible refine condB (fun h => ?_) (fun h => ?_) | with_reducible refine exI rfl ?_ | with_reducible refine eqR rfl ?_ | (with_reducible refine exW (wrapN1 ?_) ?_; (focus (omega))) | (with_reducible refine exW (wrapN ?_) ?_; (focus (omega))) | (with_reducible refine exW (wrapB ?_ ?_) ?_; (focus (omega)); (focus (omega))) | with_reducible refine exW rfl ?_ | (with_reducible refine ixJ _ rfl ?_ ?_; (focus ((first | decide | omega | (simp; done) | (simp; omega)); done))) | (with_reducible refine ixJ' _ rfl ?_ ?_; (focus ((first | decide | omega | (simp; done) | (simp; omega)); done))) | (refine ixJ (Int.toNat _) ?_ ?_ ?_; (focus ((first | rfl | decide | omega | (simp; done)); done)); (focus ((first | decide | omega | (simp; done) | (simp; omega)); done))) | (refine ixJ' (Int.toNat _) ?_ ?_ ?_; (focus ((first | rfl | decide | omega | (simp; done)); done)); (focus ((first | decide | omega | (simp; done) | (simp; omega)); done))) | with_reducible refine ixS _ rfl (by assumption) ?_ | (with_reducible refine shlI ?_ ?_; (focus (first | decide | omega))) | (refine exI (callZ rfl rfl (if_pos ?_)) ?_; (focus ((first | decide | omega | (simp; done) | (simp; omega)); done)))))
      conv => whnf
      refine ⟨Nat × List UInt8, (fun p => p.1 ≤ l.length - 1 ∧ joinB l = p.2 ++ tailJ ((u :: ts).drop p.1) ∧ (0 < p.1 → p.2 ≠ [])), (fun p => [(1, .str [32]), (8, .ptr 0 0), (63, .rs (l.length - 1) 1 ((u :: ts).map AV.str)), (64, .int .i64 (l.length - 1 : Nat)), (65, .int .i64 p.1)]), (fun p => [⟨true, 0, 0, .cells [.ptr 0 0, .slice 1 0 p.2.length p.2.length 1] 62⟩, ⟨true, 1, 0, .cells (byt p.2) 5⟩]), (fun p => l.length - 1 - p.1), ⟨(0, t), ⟨Nat.zero_le _, hjt, fun h => absurd h (Nat.lt_irrefl 0)⟩, FgL.mk [0, 2] rfl ?_ ?_ rfl⟩, ?_⟩
      · refine And.intro (Wk.noref rfl) ?_
        refine And.intro (Wk.ptr rfl rfl) ?_
        refine And.intro (Wk.eq e63 rfl) ?_
        refine And.intro (Wk.int rfl) ?_
        exact ⟨Wk.int rfl, trivial⟩
      · refine ⟨⟨rfl, rfl, rfl, rfl, BodyGe.cellsL ⟨Wk.ptr rfl rfl, Wk.slice rfl rfl ?_ (Nat.le_refl _) ?_ rfl, trivial⟩⟩, ⟨rfl, rfl, rfl, rfl, BodyGe.pre (rest := []) ?_ ?_⟩, trivial⟩
        · show 0 + t.length = t.length; omega
        · show t.length ≤ 0 + t.length; omega
        · show [] ++ byt t = byt t ++ []; simp
        · exact byt_refs t
      rintro ⟨j, acc⟩ ⟨j1, j2, j3⟩
      dsimp only at j1 j2 j3
      dsimp only
      clear hx0 e2 e63 hjt htb e1 init
      by_cases hjlt : j < l.length - 1
      · have f1 : decide ((j : Int) < ((l.length - 1 : Nat) : Int)) = true := by simp; omega
        have hjr : j < (u :: ts).length := by rw [hlen]; exact hjlt
        have hx := tk1_map AV.str (u :: ts) j hjr (off := j * 1) (by omega)
        have hdr : (u :: ts).drop j = (u :: ts)[j] :: (u :: ts).drop (j + 1) := List.drop_eq_getElem_cons hjr
        rw [hdr] at j2
        generalize (u :: ts)[j] = x at *
        have hal : acc.length + 1 + x.length ≤ 1048576 := by
          rw [j2] at hjl; simp only [tailJ, List.length_append, List.length_cons] at hjl; omega
        have j4 : joinB l = (acc ++ 32 :: x) ++ tailJ ((u :: ts).drop (j + 1)) := by rw [j2]; simp [tailJ]
        by_cases hxe : x = []
        · subst hxe
          repeat' ((conv => whnf); first | (refine exI hx ?_) | (refine exI (app_okG bT (xs := byt [32]) (n := 1) (cs := byt acc) rfl rfl (ekil_le (by simp [ABody.len])) ((byt_len acc).trans (Nat.mul_one _).symm) (byt_one [32]) (by decide) ⟨by omega, by omega⟩) ?_) | (refine exI (app_zero bT rfl) ?_) | (first | (with_reducible refine condT ?_ ?_; (focus ((first | assumption | decide | (simp; done) | (simp; omega)); done))) | (with_reducible refine condF ?_ ?_; (focus ((first | assumption | decide | (simp; done) | (simp; omega)); done))) | with_reducible refine condB (fun h => ?_) (fun h => ?_) | with_reducible refine exI rfl ?_ | with_reducible refine eqR rfl ?_ | (with_reducible refine exW (wrapN1 ?_) ?_; (focus (omega))) | (with_reducible refine exW (wrapN ?_) ?_; (focus (omega))) | (with_reducible refine exW (wrapB ?_ ?_) ?_; (focus (omega)); (focus (omega))) | with_reducible refine exW rfl ?_ | (with_reducible refine ixJ _ rfl ?_ ?_; (focus ((first | decide | omega | (simp; done) | (simp; omega)); done))) | (with_reducible refine ixJ' _ rfl ?_ ?_; (focus ((first | decide | omega | (simp; done) | (simp; omega)); done))) | (refine ixJ (Int.toNat _) ?_ ?_ ?_; (focus ((first | rfl | decide | omega | (simp; done)); done)); (focus ((first | decide | omega | (simp; done) | (simp; omega)); done))) | (refine ixJ' (Int.toNat _) ?_ ?_ ?_; (focus ((first | rfl | decide | omega | (simp; done)); done)); (focus ((first | decide | omega | (simp; done) | (simp; omega)); done))) | with_reducible refine ixS _ rfl (by assumption) ?_ | (with_reducible refine shlI ?_ ?_; (focus (first | decide | omega))) | (refine exI (callZ rfl rfl (if_pos ?_)) ?_; (focus ((first | decide | omega | (simp; done) | (simp; omega)); done)))))
          conv => whnf
          refine ⟨(j + 1, acc ++ [32]), ⟨hjlt, j4, fun _ => by simp⟩, by show l.length - 1 - (j + 1) < l.length - 1 - j; omega, FgL.mk [0, 2] rfl ?_ ?_ rfl⟩
          · refine And.intro (Wk.noref rfl) ?_
            refine And.intro (Wk.ptr rfl rfl) ?_
            refine And.intro (Wk.noref rfl) ?_
            refine And.intro (Wk.int rfl) ?_
            exact ⟨Wk.int rfl, trivial⟩
          · refine ⟨⟨rfl, rfl, rfl, rfl, BodyGe.cellsL ⟨Wk.ptr rfl rfl, Wk.slice rfl rfl ?_ (Nat.le_refl _) ?_ rfl, trivial⟩⟩, ⟨rfl, rfl, rfl, rfl, BodyGe.pre (rest := []) ?_ ?_⟩, trivial⟩
            · show acc.length + 1 = (acc ++ [32]).length; simp
            · show (acc ++ [32]).length ≤ acc.length + 1; simp
            · show byt acc ++ byt [32] = byt (acc ++ [32]) ++ []; rw [byt_app]; simp
            · exact byt_refs _
        · have hxl : x.length ≠ 0 := fun e => hxe (List.eq_nil_of_length_eq_zero e)
          repeat' ((conv => whnf); first | (refine exI hx ?_) | (refine exI (app_okG bT (xs := byt [32]) (n := 1) (cs := byt acc) rfl rfl (ekil_le (by simp [ABody.len])) ((byt_len acc).trans (Nat.mul_one _).symm) (byt_one [32]) (by decide) ⟨by omega, by omega⟩) ?_) | (refine exI (app_okG bT (xs := byt x) (n := x.length) (cs := byt acc ++ byt [32]) rfl rfl (ekil_le (by simp [ABody.len])) (by simp [byt_len]) (byt_one x) hxl ⟨by omega, by omega⟩) ?_) | (first | (with_reducible refine condT ?_ ?_; (focus ((first | assumption | decide | (simp; done) | (simp; omega)); done))) | (with_reducible refine condF ?_ ?_; (focus ((first | assumption | decide | (simp; done) | (simp; omega)); done))) | with_reducible refine condB (fun h => ?_) (fun h => ?_) | with_reducible refine exI rfl ?_ | with_reducible refine eqR rfl ?_ | (with_reducible refine exW (wrapN1 ?_) ?_; (focus (omega))) | (with_reducible refine exW (wrapN ?_) ?_; (focus (omega))) | (with_reducible refine exW (wrapB ?_ ?_) ?_; (focus (omega)); (focus (omega))) | with_reducible refine exW rfl ?_ | (with_reducible refine ixJ _ rfl ?_ ?_; (focus ((first | decide | omega | (simp; done) | (simp; omega)); done))) | (with_reducible refine ixJ' _ rfl ?_ ?_; (focus ((first | decide | omega | (simp; done) | (simp; omega)); done))) | (refine ixJ (Int.toNat _) ?_ ?_ ?_; (focus ((first | rfl | decide | omega | (simp; done)); done)); (focus ((first | decide | omega | (simp; done) | (simp; omega)); done))) | (refine ixJ' (Int.toNat _) ?_ ?_ ?_; (focus ((first | rfl | decide | omega | (simp; done)); done)); (focus ((first | decide | omega | (simp; done) | (simp; omega)); done))) | with_reducible refine ixS _ rfl (by assumption) ?_ | (with_reducible refine shlI ?_ ?_; (focus (first | decide | omega))) | (refine exI (callZ rfl rfl (if_pos ?_)) ?_; (focus ((first | decide | omega | (simp; done) | (simp; omega)); done)))))
          conv => whnf
          refine ⟨(j + 1, acc ++ 32 :: x), ⟨hjlt, j4, fun _ => by simp⟩, by show l.length - 1 - (j + 1) < l.length - 1 - j; omega, FgL.mk [0, 3] rfl ?_ ?_ rfl⟩
          · refine And.intro (Wk.noref rfl) ?_
            refine And.intro (Wk.ptr rfl rfl) ?_
            refine And.intro (Wk.noref rfl) ?_
            refine And.intro (Wk.int rfl) ?_
            exact ⟨Wk.int rfl, trivial⟩
          · refine ⟨⟨rfl, rfl, rfl, rfl, BodyGe.cellsL ⟨Wk.ptr rfl rfl, Wk.slice rfl rfl ?_ (Nat.le_refl _) ?_ rfl, trivial⟩⟩, ⟨rfl, rfl, rfl, rfl, BodyGe.pre (rest := []) ?_ ?_⟩, trivial⟩
            · show acc.length + 1 + x.length = (acc ++ 32 :: x).length; simp; omega
            · show (acc ++ 32 :: x).length ≤ acc.length + 1 + x.length; simp; omega
            · show byt acc ++ byt [32] ++ byt x = byt (acc ++ 32 :: x) ++ []; rw [byt_app]; simp [byt]
            · exact byt_refs _
      · have f1 : decide ((j : Int) < ((l.length - 1 : Nat) : Int)) = false := by simp; omega
        have hdj : (u :: ts).drop j = [] := List.drop_eq_nil_of_le (by rw [hlen]; omega)
        rw [hdj, tailJ, List.append_nil] at j2
        have hne : acc ≠ [] := j3 (by omega)
        rw [j2] at hjl ⊢
        obtain ⟨c, r, rfl⟩ : ∃ c r, acc = c :: r := by cases acc with | nil => exact absurd rfl hne | cons c r => exact ⟨c, r, rfl⟩
        repeat' ((conv => whnf); first | (refine exI (us2 (c :: r) hne (by omega)) ?_) | (first | (with_reducible refine condT ?_ ?_; (focus ((first | assumption | decide | (simp; done) | (simp; omega)); done))) | (with_reducible refine condF ?_ ?_; (focus ((first | assumption | decide | (simp; done) | (simp; omega)); done))) | with_reducible refine condB (fun h => ?_) (fun h => ?_) | with_reducible refine exI rfl ?_ | with_reducible refine eqR rfl ?_ | (with_reducible refine exW (wrapN1 ?_) ?_; (focus (omega))) | (with_reducible refine exW (wrapN ?_) ?_; (focus (omega))) | (with_reducible refine exW (wrapB ?_ ?_) ?_; (focus (omega)); (focus (omega))) | with_reducible refine exW rfl ?_ | (with_reducible refine ixJ _ rfl ?_ ?_; (focus ((first | decide | omega | (simp; done) | (simp; omega)); done))) | (with_reducible refine ixJ' _ rfl ?_ ?_; (focus ((first | decide | omega | (simp; done) | (simp; omega)); done))) | (refine ixJ (Int.toNat _) ?_ ?_ ?_; (focus ((first | rfl | decide | omega | (simp; done)); done)); (focus ((first | decide | omega | (simp; done) | (simp; omega)); done))) | (refine ixJ' (Int.toNat _) ?_ ?_ ?_; (focus ((first | rfl | decide | omega | (simp; done)); done)); (focus ((first | decide | omega | (simp; done) | (simp; omega)); done))) | with_reducible refine ixS _ rfl (by assumption) ?_ | (with_reducible refine shlI ?_ ?_; (focus (first | decide | omega))) | (refine exI (callZ rfl rfl (if_pos ?_)) ?_; (focus ((first | decide | omega | (simp; done) | (simp; omega)); done)))))
        all_goals rfl
end Go.Proofs.YtacaaiiooedgjaaDoor.lex
end


/-
  Texts of this proof, one behind the other (part 8).
-/
import Derived.Test.YtacaaiiooedgjaaDoorPack7

/-
  Of 'cantileverlaw02': lex.Join.
-/
section
set_option linter.unusedVariables false
set_option linter.unusedSimpArgs false
namespace Go.Proofs.YtacaaiiooedgjaaDoor.lex
open Go.Abs Go.RowKit
set_option maxRecDepth 100000
set_option maxHeartbeats 4000000
variable {gl : Glob}

theorem ms_okG {P : Program} {t e : TypeId} {z b : Nat} {u : AV} {H : AHeap} (ht : P.underlying t = some (.slice e)) (hz : tsz P e = some z) (hb : (P.info? e).map (·.bytes) = some b) (hu : tzero P e = some u) (hul : u.cells.length = z) (hz0 : z ≠ 0) (n : Nat)
    (h : n ≤ 1099511627776) (h2 : b * n ≤ 140737488355328) : aMakeSlice P t (.int .i64 n) (.int .i64 n) H = some (.slice H.length 0 n n z, newBlk H (repl n u.cells) e) := by
  cases hi : P.info? e with
  | none => rw [hi] at hb; cases hb
  | some i =>
    rw [hi] at hb
    simp only [Option.map_some, Option.some.injEq] at hb
    have h2' : (b : Int) * (n : Int) ≤ 140737488355328 := by
      have : ((b * n : Nat) : Int) ≤ ((140737488355328 : Nat) : Int) := Int.ofNat_le.2 h2
      simpa using this
    simp only [aMakeSlice, msCore, ht, hz, hi, hb, hu]
    rw [if_pos ⟨by omega, by omega, by omega, h2'⟩]
    try simp only [Int.toNat_natCast]
    by_cases hn : n = 0
    · subst hn; simp [repl, newBlk]
    · have h0 : ¬ (n * z = 0) := fun e => by rcases Nat.mul_eq_zero.1 e with e | e; exact hn e; exact hz0 e
      rw [if_neg h0, if_pos hul]
theorem spl_set : ∀ (cs : List AV) (k : Nat) (v : AV), k < cs.length → spl cs k [v] = some (cs.set k v)
  | c :: cs, 0, v, h => by cases cs <;> rfl
  | c :: cs, k + 1, v, h => by simp only [spl, spl_set cs k v (by simpa using h)]; rfl
theorem sjoin0 : ValOK Tryd.prog gl 26 [.rs 0 1 [], .str [32]] (.str []) := by
  refine fn_valI (fun g => false) 3 follows noNum none_sound Tryd.func26 rfl ?_
  repeat' ((conv => whnf); first | (with_reducible refine condT ?_ ?_; (focus ((first | assumption | decide | (simp; done) | (simp; omega)); done))) | (with_reducible refine condF ?_ ?_; (focus ((first | assumption | decide | (simp; done) | (simp; omega)); done))) | with_reducible refine condB (fun h => ?_) (fun h => ?_) | with_reducible refine exI rfl ?_ | with_reducible refine eqR rfl ?_ | (with_reducible refine exW (wrapN1 ?_) ?_; (focus (omega))) | (with_reducible refine exW (wrapN ?_) ?_; (focus (omega))) | (with_reducible refine exW (wrapB ?_ ?_) ?_; (focus (omega)); (focus (omega))) | with_reducible refine exW rfl ?_ | (with_reducible refine ixJ _ rfl ?_ ?_; (focus ((first | decide | omega | (simp; done) | (simp; omega)); done))) | (with_reducible refine ixJ' _ rfl ?_ ?_; (focus ((first | decide | omega | (simp; done) | (simp; omega)); done))) | (refine ixJ (Int.toNat _) ?_ ?_ ?_; (focus ((first | rfl | decide | omega | (simp; done)); done)); (focus ((first | decide | omega | (simp; done) | (simp; omega)); done))) | (refine ixJ' (Int.toNat _) ?_ ?_ ?_; (focus ((first | rfl | decide | omega | (simp; done)); done)); (focus ((first | decide | omega | (simp; done) | (simp; omega)); done))) | with_reducible refine ixS _ rfl (by assumption) ?_ | (with_reducible refine shlI ?_ ?_; (focus (first | decide | omega))) | (refine exI (callZ rfl rfl (if_pos ?_)) ?_; (focus ((first | decide | omega | (simp; done) | (simp; omega)); done))))
  all_goals rfl
theorem sjoin1 (t : List UInt8) : ValOK Tryd.prog gl 26 [.rs 1 1 [.str t], .str [32]] (.str t) := by
  refine fn_valI (fun g => false) 3 follows noNum none_sound Tryd.func26 rfl ?_
  repeat' ((conv => whnf); first | (with_reducible refine condT ?_ ?_; (focus ((first | assumption | decide | (simp; done) | (simp; omega)); done))) | (with_reducible refine condF ?_ ?_; (focus ((first | assumption | decide | (simp; done) | (simp; omega)); done))) | with_reducible refine condB (fun h => ?_) (fun h => ?_) | with_reducible refine exI rfl ?_ | with_reducible refine eqR rfl ?_ | (with_reducible refine exW (wrapN1 ?_) ?_; (focus (omega))) | (with_reducible refine exW (wrapN ?_) ?_; (focus (omega))) | (with_reducible refine exW (wrapB ?_ ?_) ?_; (focus (omega)); (focus (omega))) | with_reducible refine exW rfl ?_ | (with_reducible refine ixJ _ rfl ?_ ?_; (focus ((first | decide | omega | (simp; done) | (simp; omega)); done))) | (with_reducible refine ixJ' _ rfl ?_ ?_; (focus ((first | decide | omega | (simp; done) | (simp; omega)); done))) | (refine ixJ (Int.toNat _) ?_ ?_ ?_; (focus ((first | rfl | decide | omega | (simp; done)); done)); (focus ((first | decide | omega | (simp; done) | (simp; omega)); done))) | (refine ixJ' (Int.toNat _) ?_ ?_ ?_; (focus ((first | rfl | decide | omega | (simp; done)); done)); (focus ((first | decide | omega | (simp; done) | (simp; omega)); done))) | with_reducible refine ixS _ rfl (by assumption) ?_ | (with_reducible refine shlI ?_ ?_; (focus (first | decide | omega))) | (refine exI (callZ rfl rfl (if_pos ?_)) ?_; (focus ((first | decide | omega | (simp; done) | (simp; omega)); done))))
  all_goals rfl
theorem sjoin (l : List (List UInt8)) (hb : lens l ≤ 1048576) : ValOK Tryd.prog gl 26 [.rs l.length 1 (l.map AV.str), .str [32]] (.str (joinB l)) := by
  match l with
  | [] => exact sjoin0
  | [t] => exact sjoin1 t
  | t :: u :: ts => exact sjoin_ok t u ts hb
theorem m49 (H : AHeap) (n : Nat) (h : n ≤ 1099511627776) : aMakeSlice Tryd.prog 49 (.int .i64 n) (.int .i64 n) H = some (.slice H.length 0 n n 1, newBlk H (repl n [.str []]) 9) := by
  have hz : tsz Tryd.prog 9 = some 1 := by kernel_rfl
  have hb : (Tryd.prog.info? 9).map (·.bytes) = some 16 := by kernel_rfl
  have hu : tzero Tryd.prog 9 = some (.str []) := by kernel_rfl
  exact ms_okG Tryd.underlying49 hz hb hu rfl (by decide) n h (by omega)
def cellsAt (l : List Tk) (i : Nat) : List AV := ((l.take i).map fun t => AV.str t.text) ++ repl (l.length - i) [.str []]
theorem repl_one : ∀ n : Nat, (repl n [AV.str []]).length = n
  | 0 => rfl
  | n + 1 => by simp [repl, repl_one n]
theorem cellsAt_len (l : List Tk) (i : Nat) (h : i ≤ l.length) : (cellsAt l i).length = l.length := by
  simp [cellsAt, repl_one]; omega
theorem cellsAt_set (l : List Tk) (i : Nat) (h : i < l.length) : (cellsAt l i).set i (.str l[i].text) = cellsAt l (i + 1) := by
  have e : l.length - i = (l.length - (i + 1)) + 1 := by omega
  have h1 : ((l.take i).map fun t => AV.str t.text).length = i := by simp; omega
  unfold cellsAt
  rw [e, List.set_append_right _ _ (by omega)]
  rw [h1, Nat.sub_self]
  show _ ++ (AV.str [] :: repl (l.length - (i + 1)) [AV.str []]).set 0 _ = _
  rw [List.take_succ_eq_append_getElem h, List.map_append]
  simp
theorem cellsAt_refs (l : List Tk) (i : Nat) : refsL (cellsAt l i) [] = [] := by
  unfold cellsAt
  have h1 : ∀ n, refsL (repl n [AV.str []]) [] = [] := fun n => by induction n with | zero => rfl | succ n ih => exact ih
  have h2 : ∀ (m : List Tk) (r : List AV), refsL r [] = [] → refsL ((m.map fun t => AV.str t.text) ++ r) [] = [] := fun m r hr => by induction m with | nil => exact hr | cons t m ih => exact ih
  exact h2 _ _ (h1 _)
theorem cellsAt_all (l : List Tk) : cellsAt l l.length = (l.map Tk.text).map AV.str := by
  simp [cellsAt, repl]
theorem strs_lit (l : List (List UInt8)) : (l.map AV.str).all lit = true := by simp [List.all_eq_true, lit]
theorem ljoin_ok (l : List Tk) (hb : lens (l.map Tk.text) ≤ 1048576) : ValOK Tryd.prog gl 13 [.rs l.length 4 (tksC l)] (.str (joinB (l.map Tk.text))) := by
  have hO : OrcSound Tryd.prog gl (orcZ fun f args => match f with
    | 26 => open Classical in if args = [.rs (l.map Tk.text).length 1 ((l.map Tk.text).map AV.str), .str [32]] then some (.str (joinB (l.map Tk.text))) else none
    | _ => none) := orcZ_sound fun f args r h => by
      split at h
      · split at h <;> cases h
        rename_i e; subst e
        exact ⟨rfl, sjoin _ hb⟩
      · cases h
  refine fn_val follows noNum hO Tryd.func13 rfl ?_
  have hl := lens_len (l.map Tk.text)
  rw [List.length_map] at hl
  repeat' ((conv => whnf); first | (refine exI (m49 _ l.length (by omega)) ?_) | (first | (with_reducible refine condT ?_ ?_; (focus ((first | assumption | decide | (simp; done) | (simp; omega)); done))) | (with_reducible refine condF ?_ ?_; (focus ((first | assumption | decide | (simp; done) | (simp; omega)); done))) | with_reducible refine condB (fun h => ?_) (fun h => ?_) | with_reducible refine exI rfl ?_ | with_reducible refine eqR rfl ?_ | (with_reducible refine exW (wrapN1 ?_) ?_; (focus (omega))) | (with_reducible refine exW (wrapN ?_) ?_; (focus (omega))) | (with_reducible refine exW (wrapB ?_ ?_) ?_; (focus (omega)); (focus (omega))) | with_reducible refine exW rfl ?_ | (with_reducible refine ixJ _ rfl ?_ ?_; (focus ((first | decide | omega | (simp; done) | (simp; omega)); done))) | (with_reducible refine ixJ' _ rfl ?_ ?_; (focus ((first | decide | omega | (simp; done) | (simp; omega)); done))) | (refine ixJ (Int.toNat _) ?_ ?_ ?_; (focus ((first | rfl | decide | omega | (simp; done)); done)); (focus ((first | decide | omega | (simp; done) | (simp; omega)); done))) | (refine ixJ' (Int.toNat _) ?_ ?_ ?_; (focus ((first | rfl | decide | omega | (simp; done)); done)); (focus ((first | decide | omega | (simp; done) | (simp; omega)); done))) | with_reducible refine ixS _ rfl (by assumption) ?_ | (with_reducible refine shlI ?_ ?_; (focus (first | decide | omega))) | (refine exI (callZ rfl rfl (if_pos ?_)) ?_; (focus ((first | decide | omega | (simp; done) | (simp; omega)); done)))))
  conv => whnf
  refine ⟨Nat, (fun i => i ≤ l.length), (fun i => [(3, .slice 0 0 l.length l.length 1), (9, .rs l.length 4 (tksC l)), (10, .int .i64 l.length), (11, .int .i64 i)]), (fun i => [⟨true, 0, 0, .cells (cellsAt l i) 9⟩]), (fun i => l.length - i), ⟨0, Nat.zero_le _, FgL.mk [0] rfl ?_ ?_ rfl⟩, ?_⟩
  · refine And.intro (Wk.slice rfl rfl rfl (Nat.le_refl _) (Nat.le_refl _) rfl) ?_
    refine And.intro (Wk.noref rfl) ?_
    refine And.intro (Wk.int rfl) ?_
    exact ⟨Wk.int rfl, trivial⟩
  · refine ⟨⟨rfl, rfl, rfl, rfl, BodyGe.pre (rest := []) ?_ (cellsAt_refs l 0)⟩, trivial⟩
    show repl l.length [AV.str []] = cellsAt l 0 ++ []
    simp [cellsAt]
  intro i hi
  dsimp only
  by_cases hlt : i < l.length
  · have e1 : decide ((i : Int) < (l.length : Int)) = true := by simpa using hlt
    have hx := tk4_ok l i hlt
    have hsp := spl_set (cellsAt l i) (0 + i * 1) (.str l[i].text) (by rw [cellsAt_len l i hi]; omega)
    have hse := cellsAt_set l i hlt
    generalize l[i] = t at *
    repeat' ((conv => whnf); first | (refine exI hx ?_) | (refine exI hsp ?_) | (with_reducible refine ixJ i rfl ?_ ?_; (focus (omega))) | (first | (with_reducible refine condT ?_ ?_; (focus ((first | assumption | decide | (simp; done) | (simp; omega)); done))) | (with_reducible refine condF ?_ ?_; (focus ((first | assumption | decide | (simp; done) | (simp; omega)); done))) | with_reducible refine condB (fun h => ?_) (fun h => ?_) | with_reducible refine exI rfl ?_ | with_reducible refine eqR rfl ?_ | (with_reducible refine exW (wrapN1 ?_) ?_; (focus (omega))) | (with_reducible refine exW (wrapN ?_) ?_; (focus (omega))) | (with_reducible refine exW (wrapB ?_ ?_) ?_; (focus (omega)); (focus (omega))) | with_reducible refine exW rfl ?_ | (with_reducible refine ixJ _ rfl ?_ ?_; (focus ((first | decide | omega | (simp; done) | (simp; omega)); done))) | (with_reducible refine ixJ' _ rfl ?_ ?_; (focus ((first | decide | omega | (simp; done) | (simp; omega)); done))) | (refine ixJ (Int.toNat _) ?_ ?_ ?_; (focus ((first | rfl | decide | omega | (simp; done)); done)); (focus ((first | decide | omega | (simp; done) | (simp; omega)); done))) | (refine ixJ' (Int.toNat _) ?_ ?_ ?_; (focus ((first | rfl | decide | omega | (simp; done)); done)); (focus ((first | decide | omega | (simp; done) | (simp; omega)); done))) | with_reducible refine ixS _ rfl (by assumption) ?_ | (with_reducible refine shlI ?_ ?_; (focus (first | decide | omega))) | (refine exI (callZ rfl rfl (if_pos ?_)) ?_; (focus ((first | decide | omega | (simp; done) | (simp; omega)); done)))))
    conv => whnf
    refine ⟨i + 1, hlt, by show l.length - (i + 1) < l.length - i; omega, FgL.mk [0] rfl ?_ ?_ rfl⟩
    · refine And.intro (Wk.slice rfl rfl rfl (Nat.le_refl _) (Nat.le_refl _) rfl) ?_
      refine And.intro (Wk.noref rfl) ?_
      refine And.intro (Wk.int rfl) ?_
      exact ⟨Wk.int rfl, trivial⟩
    · refine ⟨⟨rfl, rfl, rfl, rfl, BodyGe.pre (rest := []) ?_ (cellsAt_refs l (i + 1))⟩, trivial⟩
      have e : 0 + i * 1 = i := by omega
      show (cellsAt l i).set (0 + i * 1) (.str t.text) = cellsAt l (i + 1) ++ []
      rw [e, hse, List.append_nil]
  · have e1 : decide ((i : Int) < (l.length : Int)) = false := by simpa using hlt
    have hi2 : i = l.length := by have := hi; omega
    subst hi2
    rw [cellsAt_all]
    have hb26 : hasBody Tryd.prog 26 = true := by kernel_rfl
    have hfr : frzL (frz [⟨true, 0, 0, .cells ((l.map Tk.text).map AV.str) 9⟩] 30) [.slice 0 0 l.length l.length 1, .str [32]] = some [.rs (l.map Tk.text).length 1 ((l.map Tk.text).map AV.str), .str [32]] := by
      have h1 : frz [⟨true, 0, 0, .cells ((l.map Tk.text).map AV.str) 9⟩] 30 (.slice 0 0 l.length l.length 1) = some (.rs l.length 1 ((l.map Tk.text).map AV.str)) := frz_slice (n := 28) rfl (by simp) (strs_lit _)
      simp only [frzL, h1, List.length_map]
      rfl
    repeat' ((conv => whnf); first | (refine exI (callZ hb26 hfr (if_pos rfl)) ?_) | (first | (with_reducible refine condT ?_ ?_; (focus ((first | assumption | decide | (simp; done) | (simp; omega)); done))) | (with_reducible refine condF ?_ ?_; (focus ((first | assumption | decide | (simp; done) | (simp; omega)); done))) | with_reducible refine condB (fun h => ?_) (fun h => ?_) | with_reducible refine exI rfl ?_ | with_reducible refine eqR rfl ?_ | (with_reducible refine exW (wrapN1 ?_) ?_; (focus (omega))) | (with_reducible refine exW (wrapN ?_) ?_; (focus (omega))) | (with_reducible refine exW (wrapB ?_ ?_) ?_; (focus (omega)); (focus (omega))) | with_reducible refine exW rfl ?_ | (with_reducible refine ixJ _ rfl ?_ ?_; (focus ((first | decide | omega | (simp; done) | (simp; omega)); done))) | (with_reducible refine ixJ' _ rfl ?_ ?_; (focus ((first | decide | omega | (simp; done) | (simp; omega)); done))) | (refine ixJ (Int.toNat _) ?_ ?_ ?_; (focus ((first | rfl | decide | omega | (simp; done)); done)); (focus ((first | decide | omega | (simp; done) | (simp; omega)); done))) | (refine ixJ' (Int.toNat _) ?_ ?_ ?_; (focus ((first | rfl | decide | omega | (simp; done)); done)); (focus ((first | decide | omega | (simp; done) | (simp; omega)); done))) | with_reducible refine ixS _ rfl (by assumption) ?_ | (with_reducible refine shlI ?_ ?_; (focus (first | decide | omega))) | (refine exI (callZ rfl rfl (if_pos ?_)) ?_; (focus ((first | decide | omega | (simp; done) | (simp; omega)); done)))))
    all_goals rfl
end Go.Proofs.YtacaaiiooedgjaaDoor.lex
end

/-
  Of 'cantileverlaw02': lines and columns.
-/
section
set_option linter.unusedVariables false
set_option linter.unusedSimpArgs false
namespace Go.Proofs.YtacaaiiooedgjaaDoor.lex
open Go.Abs Go.RowKit
set_option maxRecDepth 100000
set_option maxHeartbeats 4000000

/-- Where a row's end stands last ahead of a place; -1: nowhere. -/
def lastF (s : List UInt8) : Nat → Int
  | 0 => -1
  | k + 1 => if s[k]? = some 10 then k else lastF s k
/-- The column behind a text. -/
def colN (s : List UInt8) : Nat := s.foldl (fun c b => if b = 10 then 1 else c + 1) 1
theorem colN_snoc (s : List UInt8) (b : UInt8) : colN (s ++ [b]) = if b = 10 then 1 else colN s + 1 := by simp [colN, List.foldl_append]
theorem last_col (s : List UInt8) : ∀ k, k ≤ s.length → (k : Int) - lastF s k = colN (s.take k)
  | 0, _ => by simp [lastF, colN]
  | k + 1, h => by
    have ih := last_col s k (by omega)
    have hk : s[k]? = some s[k] := by simp [show k < s.length by omega]
    rw [List.take_succ_eq_append_getElem (by omega), colN_snoc, lastF, hk]
    by_cases e : s[k] = 10
    · rw [if_pos (by rw [e]), if_pos e]; omega
    · rw [if_neg (by simpa using e), if_neg e]; omega
theorem lastF_ge (s : List UInt8) : ∀ k, -1 ≤ lastF s k ∧ lastF s k < k
  | 0 => by simp [lastF]
  | k + 1 => by have := lastF_ge s k; unfold lastF; split <;> omega
theorem lastF_take (s : List UInt8) (k : Nat) : ∀ j, j ≤ k → lastF (s.take k) j = lastF s j
  | 0, _ => rfl
  | j + 1, h => by
    rw [lastF, lastF, lastF_take s k j (by omega), List.getElem?_take_of_lt (by omega)]
theorem last_ok (s : List UInt8) (hs : s.length ≤ 1099511627776) : ValOK Tryd.prog runLives.gl 47 [.str s, .int .u8 10] (.int .i64 (lastF s s.length)) := by
  refine fn_val follows noNum F8_sound Tryd.func47 rfl ?_
  have w0 : IntKind.i64.wrap ((s.length : Int) - 1) = (s.length : Int) - 1 := wrapB (by omega) (by omega)
  repeat' ((conv => whnf); first | (with_reducible refine exW w0 ?_) | (first | (with_reducible refine condT ?_ ?_; (focus ((first | assumption | decide | (simp; done) | (simp; omega)); done))) | (with_reducible refine condF ?_ ?_; (focus ((first | assumption | decide | (simp; done) | (simp; omega)); done))) | with_reducible refine condB (fun h => ?_) (fun h => ?_) | with_reducible refine exI rfl ?_ | with_reducible refine eqR rfl ?_ | (with_reducible refine exW (wrapN1 ?_) ?_; (focus (omega))) | (with_reducible refine exW (wrapN ?_) ?_; (focus (omega))) | (with_reducible refine exW (wrapB ?_ ?_) ?_; (focus (omega)); (focus (omega))) | with_reducible refine exW rfl ?_ | (with_reducible refine ixJ _ rfl ?_ ?_; (focus ((first | decide | omega | (simp; done) | (simp; omega)); done))) | (with_reducible refine ixJ' _ rfl ?_ ?_; (focus ((first | decide | omega | (simp; done) | (simp; omega)); done))) | (refine ixJ (Int.toNat _) ?_ ?_ ?_; (focus ((first | rfl | decide | omega | (simp; done)); done)); (focus ((first | decide | omega | (simp; done) | (simp; omega)); done))) | (refine ixJ' (Int.toNat _) ?_ ?_ ?_; (focus ((first | rfl | decide | omega | (simp; done)); done)); (focus ((first | decide | omega | (simp; done) | (simp; omega)); done))) | with_reducible refine ixS _ rfl (by assumption) ?_ | (with_reducible refine shlI ?_ ?_; (focus (first | decide | omega))) | (refine exI (callZ rfl rfl (if_pos ?_)) ?_; (focus ((first | decide | omega | (simp; done) | (simp; omega)); done)))))
  conv => whnf
  refine ⟨Nat, (fun k => k ≤ s.length ∧ lastF s s.length = lastF s k), (fun k => [(0, .str s), (1, .int .u8 10), (5, .int .i64 ((k : Int) - 1))]), (fun _ => []), (fun k => k), ⟨s.length, ⟨Nat.le_refl _, rfl⟩, FgL.mk0 rfl ⟨Wk.noref rfl, Wk.noref rfl, Wk.int rfl, trivial⟩⟩, ?_⟩
  rintro k ⟨h1, h2⟩
  dsimp only
  cases k with
  | zero =>
    have e1 : decide (((0 : Nat) : Int) - 1 ≥ 0) = false := by decide
    repeat' ((conv => whnf); first | (with_reducible refine condT ?_ ?_; (focus ((first | assumption | decide | (simp; done) | (simp; omega)); done))) | (with_reducible refine condF ?_ ?_; (focus ((first | assumption | decide | (simp; done) | (simp; omega)); done))) | with_reducible refine condB (fun h => ?_) (fun h => ?_) | with_reducible refine exI rfl ?_ | with_reducible refine eqR rfl ?_ | (with_reducible refine exW (wrapN1 ?_) ?_; (focus (omega))) | (with_reducible refine exW (wrapN ?_) ?_; (focus (omega))) | (with_reducible refine exW (wrapB ?_ ?_) ?_; (focus (omega)); (focus (omega))) | with_reducible refine exW rfl ?_ | (with_reducible refine ixJ _ rfl ?_ ?_; (focus ((first | decide | omega | (simp; done) | (simp; omega)); done))) | (with_reducible refine ixJ' _ rfl ?_ ?_; (focus ((first | decide | omega | (simp; done) | (simp; omega)); done))) | (refine ixJ (Int.toNat _) ?_ ?_ ?_; (focus ((first | rfl | decide | omega | (simp; done)); done)); (focus ((first | decide | omega | (simp; done) | (simp; omega)); done))) | (refine ixJ' (Int.toNat _) ?_ ?_ ?_; (focus ((first | rfl | decide | omega | (simp; done)); done)); (focus ((first | decide | omega | (simp; done) | (simp; omega)); done))) | with_reducible refine ixS _ rfl (by assumption) ?_ | (with_reducible refine shlI ?_ ?_; (focus (first | decide | omega))) | (refine exI (callZ rfl rfl (if_pos ?_)) ?_; (focus ((first | decide | omega | (simp; done) | (simp; omega)); done))))
    rw [h2]; rfl
  | succ k =>
    have e1 : decide (((k + 1 : Nat) : Int) - 1 ≥ 0) = true := by simp
    have hk : s[k]? = some s[k] := by simp [show k < s.length by omega]
    have hj : ((k + 1 : Nat) : Int) - 1 = (k : Int) := by omega
    have u1 := u8_eq s[k] 10 (by decide)
    rw [hj] at e1 ⊢
    by_cases e : s[k] = 10
    · have v1 : ((s[k].toNat : Int) == 10) = true := by rw [e]; rfl
      have h3 : lastF s (k + 1) = k := by rw [lastF, hk, if_pos (by rw [e])]
      repeat' ((conv => whnf); first | with_reducible refine ixS _ rfl hk ?_ | (first | (with_reducible refine condT ?_ ?_; (focus ((first | assumption | decide | (simp; done) | (simp; omega)); done))) | (with_reducible refine condF ?_ ?_; (focus ((first | assumption | decide | (simp; done) | (simp; omega)); done))) | with_reducible refine condB (fun h => ?_) (fun h => ?_) | with_reducible refine exI rfl ?_ | with_reducible refine eqR rfl ?_ | (with_reducible refine exW (wrapN1 ?_) ?_; (focus (omega))) | (with_reducible refine exW (wrapN ?_) ?_; (focus (omega))) | (with_reducible refine exW (wrapB ?_ ?_) ?_; (focus (omega)); (focus (omega))) | with_reducible refine exW rfl ?_ | (with_reducible refine ixJ _ rfl ?_ ?_; (focus ((first | decide | omega | (simp; done) | (simp; omega)); done))) | (with_reducible refine ixJ' _ rfl ?_ ?_; (focus ((first | decide | omega | (simp; done) | (simp; omega)); done))) | (refine ixJ (Int.toNat _) ?_ ?_ ?_; (focus ((first | rfl | decide | omega | (simp; done)); done)); (focus ((first | decide | omega | (simp; done) | (simp; omega)); done))) | (refine ixJ' (Int.toNat _) ?_ ?_ ?_; (focus ((first | rfl | decide | omega | (simp; done)); done)); (focus ((first | decide | omega | (simp; done) | (simp; omega)); done))) | with_reducible refine ixS _ rfl (by assumption) ?_ | (with_reducible refine shlI ?_ ?_; (focus (first | decide | omega))) | (refine exI (callZ rfl rfl (if_pos ?_)) ?_; (focus ((first | decide | omega | (simp; done) | (simp; omega)); done)))))
      rw [h2, h3]; rfl
    · have v1 : ((s[k].toNat : Int) == 10) = false := beq_eq_false_iff_ne.2 fun h => e (UInt8.toNat_inj.1 (by simp; omega))
      have h3 : lastF s (k + 1) = lastF s k := by rw [lastF, hk, if_neg (by simpa using e)]
      repeat' ((conv => whnf); first | with_reducible refine ixS _ rfl hk ?_ | (first | (with_reducible refine condT ?_ ?_; (focus ((first | assumption | decide | (simp; done) | (simp; omega)); done))) | (with_reducible refine condF ?_ ?_; (focus ((first | assumption | decide | (simp; done) | (simp; omega)); done))) | with_reducible refine condB (fun h => ?_) (fun h => ?_) | with_reducible refine exI rfl ?_ | with_reducible refine eqR rfl ?_ | (with_reducible refine exW (wrapN1 ?_) ?_; (focus (omega))) | (with_reducible refine exW (wrapN ?_) ?_; (focus (omega))) | (with_reducible refine exW (wrapB ?_ ?_) ?_; (focus (omega)); (focus (omega))) | with_reducible refine exW rfl ?_ | (with_reducible refine ixJ _ rfl ?_ ?_; (focus ((first | decide | omega | (simp; done) | (simp; omega)); done))) | (with_reducible refine ixJ' _ rfl ?_ ?_; (focus ((first | decide | omega | (simp; done) | (simp; omega)); done))) | (refine ixJ (Int.toNat _) ?_ ?_ ?_; (focus ((first | rfl | decide | omega | (simp; done)); done)); (focus ((first | decide | omega | (simp; done) | (simp; omega)); done))) | (refine ixJ' (Int.toNat _) ?_ ?_ ?_; (focus ((first | rfl | decide | omega | (simp; done)); done)); (focus ((first | decide | omega | (simp; done) | (simp; omega)); done))) | with_reducible refine ixS _ rfl (by assumption) ?_ | (with_reducible refine shlI ?_ ?_; (focus (first | decide | omega))) | (refine exI (callZ rfl rfl (if_pos ?_)) ?_; (focus ((first | decide | omega | (simp; done) | (simp; omega)); done)))))
      conv => whnf
      refine ⟨k, ⟨by omega, by rw [h2, h3]⟩, by show k < k + 1; omega, FgL.mk0 rfl ?_⟩
      exact ⟨Wk.noref rfl, Wk.noref rfl, Wk.int rfl, trivial⟩
def cutN (s : List UInt8) (at_ : Int) : Nat := min at_.toNat s.length
def lineR (s : List UInt8) (at_ : Int) : AV := .tuple [.int .i64 ((s.take (cutN s at_)).count 10 + 1 : Nat), .int .i64 (colN (s.take (cutN s at_)))]
theorem lineP_ok (s : List UInt8) (at_ : Int) (hs : s.length ≤ 3000) : ValOK Tryd.prog runLives.gl 14 [.str s, .int .i64 at_] (lineR s at_) := by
  have hO : OrcSound Tryd.prog runLives.gl (orcZ fun f args => match f with
    | 47 => match args with | [.str t, .int .u8 10] => if t.length ≤ 1099511627776 then some (.int .i64 (lastF t t.length)) else none | _ => none
    | _ => none) := orcZ_sound fun f args r h => by
      split at h
      · split at h <;> try (cases h; done)
        split at h <;> cases h
        rename_i hl; exact ⟨rfl, last_ok _ hl⟩
      · cases h
  generalize hk : cutN s at_ = k
  have hk2 : k ≤ s.length := by rw [← hk]; exact Nat.min_le_right _ _
  have hcut : (if (s.length : Int) < (if 0 > at_ then 0 else at_) then (s.length : Int) else (if 0 > at_ then 0 else at_)) = (k : Int) := by
    rw [← hk]; unfold cutN; split <;> split <;> omega
  refine fn_valI (fun g => Nat.beq g 47) 3 follows noNum hO Tryd.func14 rfl ?_
  have htl : (s.take k).length = k := by rw [List.length_take]; omega
  have hlc := last_col s k hk2
  have hlg := lastF_ge (s.take k) k
  have hlt : lastF (s.take k) k = lastF s k := lastF_take s k k (Nat.le_refl _)
  have hcn : colN (s.take k) ≤ 3001 := by omega
  have hct : (s.take k).count 10 ≤ k := by have := List.count_le_length (a := (10 : UInt8)) (l := s.take k); omega
  have w1 : IntKind.i64.wrap (((s.take k).count 10 : Nat) + 1) = (((s.take k).count 10 + 1 : Nat) : Int) := wrapN1 (by omega)
  have w2 : IntKind.i64.wrap (((s.take k).length : Int) - lastF (s.take k) (s.take k).length) = (colN (s.take k) : Int) := by
    rw [htl, hlt, hlc]; exact wrapB (by omega) (by omega)
  have c47 : ∀ H, acall Tryd.prog (orcZ fun f args => match f with
    | 47 => match args with | [.str t, .int .u8 10] => if t.length ≤ 1099511627776 then some (.int .i64 (lastF t t.length)) else none | _ => none
    | _ => none) H 47 [.str (s.take k), .int .u8 10] = some (.int .i64 (lastF (s.take k) (s.take k).length), H) := fun H => callZ (by kernel_rfl) rfl (if_pos (by omega))
  repeat' ((conv => whnf); first | (refine ixJ' k hcut hk2 ?_) | (refine ixS 0 rfl (b := 10) rfl ?_) | (with_reducible refine exW w1 ?_) | (with_reducible refine exW w2 ?_) | (refine exI (c47 _) ?_) | (first | (with_reducible refine condT ?_ ?_; (focus ((first | assumption | decide | (simp; done) | (simp; omega)); done))) | (with_reducible refine condF ?_ ?_; (focus ((first | assumption | decide | (simp; done) | (simp; omega)); done))) | with_reducible refine condB (fun h => ?_) (fun h => ?_) | with_reducible refine exI rfl ?_ | with_reducible refine eqR rfl ?_ | (with_reducible refine exW (wrapN1 ?_) ?_; (focus (omega))) | (with_reducible refine exW (wrapN ?_) ?_; (focus (omega))) | (with_reducible refine exW (wrapB ?_ ?_) ?_; (focus (omega)); (focus (omega))) | with_reducible refine exW rfl ?_ | (with_reducible refine ixJ _ rfl ?_ ?_; (focus ((first | decide | omega | (simp; done) | (simp; omega)); done))) | (with_reducible refine ixJ' _ rfl ?_ ?_; (focus ((first | decide | omega | (simp; done) | (simp; omega)); done))) | (refine ixJ (Int.toNat _) ?_ ?_ ?_; (focus ((first | rfl | decide | omega | (simp; done)); done)); (focus ((first | decide | omega | (simp; done) | (simp; omega)); done))) | (refine ixJ' (Int.toNat _) ?_ ?_ ?_; (focus ((first | rfl | decide | omega | (simp; done)); done)); (focus ((first | decide | omega | (simp; done) | (simp; omega)); done))) | with_reducible refine ixS _ rfl (by assumption) ?_ | (with_reducible refine shlI ?_ ?_; (focus (first | decide | omega))) | (refine exI (callZ rfl rfl (if_pos ?_)) ?_; (focus ((first | decide | omega | (simp; done) | (simp; omega)); done)))))
  show AV.tuple [AV.int .i64 (IntKind.i64.wrap (((s.take k).count 10 : Nat) + 1)), AV.int .i64 (colN (s.take k))] = _
  rw [w1]; unfold lineR; rw [hk]
theorem lineD_ok (s : List UInt8) (at_ : Int) (hs : s.length ≤ 3000) : ValOK Tryd.prog runLives.gl 15 [.str s, .int .i64 at_] (lineR s at_) := by
  generalize hk : cutN s at_ = k
  have hk2 : k ≤ s.length := by rw [← hk]; exact Nat.min_le_right _ _
  have hcut : (if (s.length : Int) < (if at_ > 0 then at_ else 0) then (s.length : Int) else (if at_ > 0 then at_ else 0)) = (k : Int) := by
    rw [← hk]; unfold cutN; split <;> split <;> omega
  refine fn_val follows noNum F8_sound Tryd.func15 rfl ?_
  repeat' ((conv => whnf); first | (first | (with_reducible refine condT ?_ ?_; (focus ((first | assumption | decide | (simp; done) | (simp; omega)); done))) | (with_reducible refine condF ?_ ?_; (focus ((first | assumption | decide | (simp; done) | (simp; omega)); done))) | with_reducible refine condB (fun h => ?_) (fun h => ?_) | with_reducible refine exI rfl ?_ | with_reducible refine eqR rfl ?_ | (with_reducible refine exW (wrapN1 ?_) ?_; (focus (omega))) | (with_reducible refine exW (wrapN ?_) ?_; (focus (omega))) | (with_reducible refine exW (wrapB ?_ ?_) ?_; (focus (omega)); (focus (omega))) | with_reducible refine exW rfl ?_ | (with_reducible refine ixJ _ rfl ?_ ?_; (focus ((first | decide | omega | (simp; done) | (simp; omega)); done))) | (with_reducible refine ixJ' _ rfl ?_ ?_; (focus ((first | decide | omega | (simp; done) | (simp; omega)); done))) | (refine ixJ (Int.toNat _) ?_ ?_ ?_; (focus ((first | rfl | decide | omega | (simp; done)); done)); (focus ((first | decide | omega | (simp; done) | (simp; omega)); done))) | (refine ixJ' (Int.toNat _) ?_ ?_ ?_; (focus ((first | rfl | decide | omega | (simp; done)); done)); (focus ((first | decide | omega | (simp; done) | (simp; omega)); done))) | with_reducible refine ixS _ rfl (by assumption) ?_ | (with_reducible refine shlI ?_ ?_; (focus (first | decide | omega))) | (refine exI (callZ rfl rfl (if_pos ?_)) ?_; (focus ((first | decide | omega | (simp; done) | (simp; omega)); done)))))
  conv => whnf
  refine ⟨Nat, (fun i => i ≤ k), (fun i => [(0, .str s), (1, .int .i64 k), (6, .int .i64 ((s.take i).count 10 + 1 : Nat)), (7, .int .i64 (colN (s.take i))), (8, .int .i64 i)]), (fun _ => []), (fun i => k - i), ⟨0, Nat.zero_le _, FgL.mk0 rfl ?_⟩, ?_⟩
  · refine And.intro (Wk.noref rfl) ?_
    refine And.intro (Wk.int hcut) ?_
    refine And.intro (Wk.int (by simp)) ?_
    refine And.intro (Wk.int (by simp [colN])) ?_
    exact ⟨Wk.int rfl, trivial⟩
  intro i hi
  dsimp only
  by_cases hlt : i < k
  · have e1 : decide ((i : Int) < (k : Int)) = true := by simpa using hlt
    have hil : i < s.length := by omega
    have hx : s[i]? = some s[i] := by simp [hil]
    have htk : s.take (i + 1) = s.take i ++ [s[i]] := List.take_succ_eq_append_getElem hil
    have hct : (s.take i).count 10 ≤ i := by have := List.count_le_length (a := (10 : UInt8)) (l := s.take i); rw [List.length_take] at this; omega
    have hlc := last_col s i (by omega)
    have hlg := lastF_ge s i
    have hcn : colN (s.take i) ≤ 3001 := by omega
    have w1 : IntKind.i64.wrap (((s.take i).count 10 + 1 : Nat) + 1 : Int) = (((s.take i).count 10 + 1 + 1 : Nat) : Int) := wrapN1 (by omega)
    have w2 : IntKind.i64.wrap ((colN (s.take i) : Int) + 1) = ((colN (s.take i) + 1 : Nat) : Int) := wrapN1 (by omega)
    by_cases e : s[i] = 10
    · have v1 : ((s[i].toNat : Int) == 10) = true := by rw [e]; rfl
      repeat' ((conv => whnf); first | with_reducible refine ixS _ rfl hx ?_ | (with_reducible refine exW w1 ?_) | (with_reducible refine exW w2 ?_) | (first | (with_reducible refine condT ?_ ?_; (focus ((first | assumption | decide | (simp; done) | (simp; omega)); done))) | (with_reducible refine condF ?_ ?_; (focus ((first | assumption | decide | (simp; done) | (simp; omega)); done))) | with_reducible refine condB (fun h => ?_) (fun h => ?_) | with_reducible refine exI rfl ?_ | with_reducible refine eqR rfl ?_ | (with_reducible refine exW (wrapN1 ?_) ?_; (focus (omega))) | (with_reducible refine exW (wrapN ?_) ?_; (focus (omega))) | (with_reducible refine exW (wrapB ?_ ?_) ?_; (focus (omega)); (focus (omega))) | with_reducible refine exW rfl ?_ | (with_reducible refine ixJ _ rfl ?_ ?_; (focus ((first | decide | omega | (simp; done) | (simp; omega)); done))) | (with_reducible refine ixJ' _ rfl ?_ ?_; (focus ((first | decide | omega | (simp; done) | (simp; omega)); done))) | (refine ixJ (Int.toNat _) ?_ ?_ ?_; (focus ((first | rfl | decide | omega | (simp; done)); done)); (focus ((first | decide | omega | (simp; done) | (simp; omega)); done))) | (refine ixJ' (Int.toNat _) ?_ ?_ ?_; (focus ((first | rfl | decide | omega | (simp; done)); done)); (focus ((first | decide | omega | (simp; done) | (simp; omega)); done))) | with_reducible refine ixS _ rfl (by assumption) ?_ | (with_reducible refine shlI ?_ ?_; (focus (first | decide | omega))) | (refine exI (callZ rfl rfl (if_pos ?_)) ?_; (focus ((first | decide | omega | (simp; done) | (simp; omega)); done)))))
      conv => whnf
      refine ⟨i + 1, hlt, by show k - (i + 1) < k - i; omega, FgL.mk0 rfl ?_⟩
      refine And.intro (Wk.noref rfl) ?_
      refine And.intro (Wk.int rfl) ?_
      refine And.intro (Wk.int (by rw [htk, List.count_append, e]; simp)) ?_
      refine And.intro (Wk.int (by rw [htk, colN_snoc, if_pos e]; rfl)) ?_
      exact ⟨Wk.int rfl, trivial⟩
    · have v1 : ((s[i].toNat : Int) == 10) = false := beq_eq_false_iff_ne.2 fun h => e (UInt8.toNat_inj.1 (by simp; omega))
      repeat' ((conv => whnf); first | with_reducible refine ixS _ rfl hx ?_ | (with_reducible refine exW w1 ?_) | (with_reducible refine exW w2 ?_) | (first | (with_reducible refine condT ?_ ?_; (focus ((first | assumption | decide | (simp; done) | (simp; omega)); done))) | (with_reducible refine condF ?_ ?_; (focus ((first | assumption | decide | (simp; done) | (simp; omega)); done))) | with_reducible refine condB (fun h => ?_) (fun h => ?_) | with_reducible refine exI rfl ?_ | with_reducible refine eqR rfl ?_ | (with_reducible refine exW (wrapN1 ?_) ?_; (focus (omega))) | (with_reducible refine exW (wrapN ?_) ?_; (focus (omega))) | (with_reducible refine exW (wrapB ?_ ?_) ?_; (focus (omega)); (focus (omega))) | with_reducible refine exW rfl ?_ | (with_reducible refine ixJ _ rfl ?_ ?_; (focus ((first | decide | omega | (simp; done) | (simp; omega)); done))) | (with_reducible refine ixJ' _ rfl ?_ ?_; (focus ((first | decide | omega | (simp; done) | (simp; omega)); done))) | (refine ixJ (Int.toNat _) ?_ ?_ ?_; (focus ((first | rfl | decide | omega | (simp; done)); done)); (focus ((first | decide | omega | (simp; done) | (simp; omega)); done))) | (refine ixJ' (Int.toNat _) ?_ ?_ ?_; (focus ((first | rfl | decide | omega | (simp; done)); done)); (focus ((first | decide | omega | (simp; done) | (simp; omega)); done))) | with_reducible refine ixS _ rfl (by assumption) ?_ | (with_reducible refine shlI ?_ ?_; (focus (first | decide | omega))) | (refine exI (callZ rfl rfl (if_pos ?_)) ?_; (focus ((first | decide | omega | (simp; done) | (simp; omega)); done)))))
      conv => whnf
      refine ⟨i + 1, hlt, by show k - (i + 1) < k - i; omega, FgL.mk0 rfl ?_⟩
      refine And.intro (Wk.noref rfl) ?_
      refine And.intro (Wk.int rfl) ?_
      refine And.intro (Wk.int (by rw [htk, List.count_append]; simp [e])) ?_
      refine And.intro (Wk.int (by rw [htk, colN_snoc, if_neg e])) ?_
      exact ⟨Wk.int rfl, trivial⟩
  · have e1 : decide ((i : Int) < (k : Int)) = false := by simpa using hlt
    have hi2 : i = k := by have := hi; omega
    subst hi2
    repeat' ((conv => whnf); first | (with_reducible refine condT ?_ ?_; (focus ((first | assumption | decide | (simp; done) | (simp; omega)); done))) | (with_reducible refine condF ?_ ?_; (focus ((first | assumption | decide | (simp; done) | (simp; omega)); done))) | with_reducible refine condB (fun h => ?_) (fun h => ?_) | with_reducible refine exI rfl ?_ | with_reducible refine eqR rfl ?_ | (with_reducible refine exW (wrapN1 ?_) ?_; (focus (omega))) | (with_reducible refine exW (wrapN ?_) ?_; (focus (omega))) | (with_reducible refine exW (wrapB ?_ ?_) ?_; (focus (omega)); (focus (omega))) | with_reducible refine exW rfl ?_ | (with_reducible refine ixJ _ rfl ?_ ?_; (focus ((first | decide | omega | (simp; done) | (simp; omega)); done))) | (with_reducible refine ixJ' _ rfl ?_ ?_; (focus ((first | decide | omega | (simp; done) | (simp; omega)); done))) | (refine ixJ (Int.toNat _) ?_ ?_ ?_; (focus ((first | rfl | decide | omega | (simp; done)); done)); (focus ((first | decide | omega | (simp; done) | (simp; omega)); done))) | (refine ixJ' (Int.toNat _) ?_ ?_ ?_; (focus ((first | rfl | decide | omega | (simp; done)); done)); (focus ((first | decide | omega | (simp; done) | (simp; omega)); done))) | with_reducible refine ixS _ rfl (by assumption) ?_ | (with_reducible refine shlI ?_ ?_; (focus (first | decide | omega))) | (refine exI (callZ rfl rfl (if_pos ?_)) ?_; (focus ((first | decide | omega | (simp; done) | (simp; omega)); done))))
    unfold lineR; rw [hk]

/-! tokens whatever they are -/
structure GT where
  kind : Int
  text : List UInt8
  num : Int
  pos : Int
def GT.cells (t : GT) : List AV := [.int .i64 t.kind, .str t.text, .int .i64 t.num, .int .i64 t.pos]
def gtC : List GT → List AV
  | [] => []
  | t :: l => t.cells ++ gtC l
theorem gk4 : ∀ (l : List GT) (i : Nat) (h : i < l.length), tk 4 ((gtC l).drop (i * 4)) = some l[i].cells
  | t :: l, 0, h => by simp only [Nat.zero_mul, List.drop_zero, gtC]; rfl
  | t :: l, i + 1, h => by
    have e : (i + 1) * 4 = 4 + i * 4 := by omega
    have e2 : (gtC (t :: l)).drop ((i + 1) * 4) = (gtC l).drop (i * 4) := by rw [e, ← List.drop_drop]; rfl
    rw [e2, gk4 l i (by simpa using h)]; rfl
def gAt (l : List GT) (i : Nat) : List AV := ((l.take i).map fun t => AV.str t.text) ++ repl (l.length - i) [.str []]
theorem gAt_len (l : List GT) (i : Nat) (h : i ≤ l.length) : (gAt l i).length = l.length := by
  simp [gAt, repl_one]; omega
theorem gAt_set (l : List GT) (i : Nat) (h : i < l.length) : (gAt l i).set i (.str l[i].text) = gAt l (i + 1) := by
  have e : l.length - i = (l.length - (i + 1)) + 1 := by omega
  have h1 : ((l.take i).map fun t => AV.str t.text).length = i := by simp; omega
  unfold gAt
  rw [e, List.set_append_right _ _ (by omega)]
  rw [h1, Nat.sub_self]
  show _ ++ (AV.str [] :: repl (l.length - (i + 1)) [AV.str []]).set 0 _ = _
  rw [List.take_succ_eq_append_getElem h, List.map_append]
  simp
theorem gAt_refs (l : List GT) (i : Nat) : refsL (gAt l i) [] = [] := by
  unfold gAt
  have h1 : ∀ n, refsL (repl n [AV.str []]) [] = [] := fun n => by induction n with | zero => rfl | succ n ih => exact ih
  have h2 : ∀ (m : List GT) (r : List AV), refsL r [] = [] → refsL ((m.map fun t => AV.str t.text) ++ r) [] = [] := fun m r hr => by induction m with | nil => exact hr | cons t m ih => exact ih
  exact h2 _ _ (h1 _)
theorem gAt_all (l : List GT) : gAt l l.length = (l.map GT.text).map AV.str := by
  simp [gAt, repl]
theorem gjoin_ok (l : List GT) (hb : lens (l.map GT.text) ≤ 1048576) : ValOK Tryd.prog runLives.gl 13 [.rs l.length 4 (gtC l)] (.str (joinB (l.map GT.text))) := by
  have hO : OrcSound Tryd.prog runLives.gl (orcZ fun f args => match f with
    | 26 => open Classical in if args = [.rs (l.map GT.text).length 1 ((l.map GT.text).map AV.str), .str [32]] then some (.str (joinB (l.map GT.text))) else none
    | _ => none) := orcZ_sound fun f args r h => by
      split at h
      · split at h <;> cases h
        rename_i e; subst e
        exact ⟨rfl, sjoin _ hb⟩
      · cases h
  refine fn_val follows noNum hO Tryd.func13 rfl ?_
  have hl := lens_len (l.map GT.text)
  rw [List.length_map] at hl
  repeat' ((conv => whnf); first | (refine exI (m49 _ l.length (by omega)) ?_) | (first | (with_reducible refine condT ?_ ?_; (focus ((first | assumption | decide | (simp; done) | (simp; omega)); done))) | (with_reducible refine condF ?_ ?_; (focus ((first | assumption | decide | (simp; done) | (simp; omega)); done))) | with_reducible refine condB (fun h => ?_) (fun h => ?_) | with_reducible refine exI rfl ?_ | with_reducible refine eqR rfl ?_ | (with_reducible refine exW (wrapN1 ?_) ?_; (focus (omega))) | (with_reducible refine exW (wrapN ?_) ?_; (focus (omega))) | (with_reducible refine exW (wrapB ?_ ?_) ?_; (focus (omega)); (focus (omega))) | with_reducible refine exW rfl ?_ | (with_reducible refine ixJ _ rfl ?_ ?_; (focus ((first | decide | omega | (simp; done) | (simp; omega)); done))) | (with_reducible refine ixJ' _ rfl ?_ ?_; (focus ((first | decide | omega | (simp; done) | (simp; omega)); done))) | (refine ixJ (Int.toNat _) ?_ ?_ ?_; (focus ((first | rfl | decide | omega | (simp; done)); done)); (focus ((first | decide | omega | (simp; done) | (simp; omega)); done))) | (refine ixJ' (Int.toNat _) ?_ ?_ ?_; (focus ((first | rfl | decide | omega | (simp; done)); done)); (focus ((first | decide | omega | (simp; done) | (simp; omega)); done))) | with_reducible refine ixS _ rfl (by assumption) ?_ | (with_reducible refine shlI ?_ ?_; (focus (first | decide | omega))) | (refine exI (callZ rfl rfl (if_pos ?_)) ?_; (focus ((first | decide | omega | (simp; done) | (simp; omega)); done)))))
  conv => whnf
  refine ⟨Nat, (fun i => i ≤ l.length), (fun i => [(3, .slice 0 0 l.length l.length 1), (9, .rs l.length 4 (gtC l)), (10, .int .i64 l.length), (11, .int .i64 i)]), (fun i => [⟨true, 0, 0, .cells (gAt l i) 9⟩]), (fun i => l.length - i), ⟨0, Nat.zero_le _, FgL.mk [0] rfl ?_ ?_ rfl⟩, ?_⟩
  · refine And.intro (Wk.slice rfl rfl rfl (Nat.le_refl _) (Nat.le_refl _) rfl) ?_
    refine And.intro (Wk.noref rfl) ?_
    refine And.intro (Wk.int rfl) ?_
    exact ⟨Wk.int rfl, trivial⟩
  · refine ⟨⟨rfl, rfl, rfl, rfl, BodyGe.pre (rest := []) ?_ (gAt_refs l 0)⟩, trivial⟩
    show repl l.length [AV.str []] = gAt l 0 ++ []
    simp [gAt]
  intro i hi
  dsimp only
  by_cases hlt : i < l.length
  · have e1 : decide ((i : Int) < (l.length : Int)) = true := by simpa using hlt
    have hx := gk4 l i hlt
    have hsp := spl_set (gAt l i) (0 + i * 1) (.str l[i].text) (by rw [gAt_len l i hi]; omega)
    have hse := gAt_set l i hlt
    generalize l[i] = t at *
    repeat' ((conv => whnf); first | (refine exI hx ?_) | (refine exI hsp ?_) | (with_reducible refine ixJ i rfl ?_ ?_; (focus (omega))) | (first | (with_reducible refine condT ?_ ?_; (focus ((first | assumption | decide | (simp; done) | (simp; omega)); done))) | (with_reducible refine condF ?_ ?_; (focus ((first | assumption | decide | (simp; done) | (simp; omega)); done))) | with_reducible refine condB (fun h => ?_) (fun h => ?_) | with_reducible refine exI rfl ?_ | with_reducible refine eqR rfl ?_ | (with_reducible refine exW (wrapN1 ?_) ?_; (focus (omega))) | (with_reducible refine exW (wrapN ?_) ?_; (focus (omega))) | (with_reducible refine exW (wrapB ?_ ?_) ?_; (focus (omega)); (focus (omega))) | with_reducible refine exW rfl ?_ | (with_reducible refine ixJ _ rfl ?_ ?_; (focus ((first | decide | omega | (simp; done) | (simp; omega)); done))) | (with_reducible refine ixJ' _ rfl ?_ ?_; (focus ((first | decide | omega | (simp; done) | (simp; omega)); done))) | (refine ixJ (Int.toNat _) ?_ ?_ ?_; (focus ((first | rfl | decide | omega | (simp; done)); done)); (focus ((first | decide | omega | (simp; done) | (simp; omega)); done))) | (refine ixJ' (Int.toNat _) ?_ ?_ ?_; (focus ((first | rfl | decide | omega | (simp; done)); done)); (focus ((first | decide | omega | (simp; done) | (simp; omega)); done))) | with_reducible refine ixS _ rfl (by assumption) ?_ | (with_reducible refine shlI ?_ ?_; (focus (first | decide | omega))) | (refine exI (callZ rfl rfl (if_pos ?_)) ?_; (focus ((first | decide | omega | (simp; done) | (simp; omega)); done)))))
    conv => whnf
    refine ⟨i + 1, hlt, by show l.length - (i + 1) < l.length - i; omega, FgL.mk [0] rfl ?_ ?_ rfl⟩
    · refine And.intro (Wk.slice rfl rfl rfl (Nat.le_refl _) (Nat.le_refl _) rfl) ?_
      refine And.intro (Wk.noref rfl) ?_
      refine And.intro (Wk.int rfl) ?_
      exact ⟨Wk.int rfl, trivial⟩
    · refine ⟨⟨rfl, rfl, rfl, rfl, BodyGe.pre (rest := []) ?_ (gAt_refs l (i + 1))⟩, trivial⟩
      have e : 0 + i * 1 = i := by omega
      show (gAt l i).set (0 + i * 1) (.str t.text) = gAt l (i + 1) ++ []
      rw [e, hse, List.append_nil]
  · have e1 : decide ((i : Int) < (l.length : Int)) = false := by simpa using hlt
    have hi2 : i = l.length := by have := hi; omega
    subst hi2
    rw [gAt_all]
    have hb26 : hasBody Tryd.prog 26 = true := by kernel_rfl
    have hfr : frzL (frz [⟨true, 0, 0, .cells ((l.map GT.text).map AV.str) 9⟩] 30) [.slice 0 0 l.length l.length 1, .str [32]] = some [.rs (l.map GT.text).length 1 ((l.map GT.text).map AV.str), .str [32]] := by
      have h1 : frz [⟨true, 0, 0, .cells ((l.map GT.text).map AV.str) 9⟩] 30 (.slice 0 0 l.length l.length 1) = some (.rs l.length 1 ((l.map GT.text).map AV.str)) := frz_slice (n := 28) rfl (by simp) (strs_lit _)
      simp only [frzL, h1, List.length_map]
      rfl
    repeat' ((conv => whnf); first | (refine exI (callZ hb26 hfr (if_pos rfl)) ?_) | (first | (with_reducible refine condT ?_ ?_; (focus ((first | assumption | decide | (simp; done) | (simp; omega)); done))) | (with_reducible refine condF ?_ ?_; (focus ((first | assumption | decide | (simp; done) | (simp; omega)); done))) | with_reducible refine condB (fun h => ?_) (fun h => ?_) | with_reducible refine exI rfl ?_ | with_reducible refine eqR rfl ?_ | (with_reducible refine exW (wrapN1 ?_) ?_; (focus (omega))) | (with_reducible refine exW (wrapN ?_) ?_; (focus (omega))) | (with_reducible refine exW (wrapB ?_ ?_) ?_; (focus (omega)); (focus (omega))) | with_reducible refine exW rfl ?_ | (with_reducible refine ixJ _ rfl ?_ ?_; (focus ((first | decide | omega | (simp; done) | (simp; omega)); done))) | (with_reducible refine ixJ' _ rfl ?_ ?_; (focus ((first | decide | omega | (simp; done) | (simp; omega)); done))) | (refine ixJ (Int.toNat _) ?_ ?_ ?_; (focus ((first | rfl | decide | omega | (simp; done)); done)); (focus ((first | decide | omega | (simp; done) | (simp; omega)); done))) | (refine ixJ' (Int.toNat _) ?_ ?_ ?_; (focus ((first | rfl | decide | omega | (simp; done)); done)); (focus ((first | decide | omega | (simp; done) | (simp; omega)); done))) | with_reducible refine ixS _ rfl (by assumption) ?_ | (with_reducible refine shlI ?_ ?_; (focus (first | decide | omega))) | (refine exI (callZ rfl rfl (if_pos ?_)) ?_; (focus ((first | decide | omega | (simp; done) | (simp; omega)); done)))))
    all_goals rfl
theorem gjoin_nil : ValOK Tryd.prog runLives.gl 13 [.nslice] (.str []) := by
  have hO : OrcSound Tryd.prog runLives.gl (orcZ fun f args => match f with
    | 26 => open Classical in if args = [.rs 0 1 [], .str [32]] then some (.str []) else none
    | _ => none) := orcZ_sound fun f args r h => by
      split at h
      · split at h <;> cases h
        rename_i e; subst e
        exact ⟨rfl, sjoin0⟩
      · cases h
  have hb26 : hasBody Tryd.prog 26 = true := by kernel_rfl
  refine fn_val follows noNum hO Tryd.func13 rfl ?_
  repeat' ((conv => whnf); first | (first | (with_reducible refine condT ?_ ?_; (focus ((first | assumption | decide | (simp; done) | (simp; omega)); done))) | (with_reducible refine condF ?_ ?_; (focus ((first | assumption | decide | (simp; done) | (simp; omega)); done))) | with_reducible refine condB (fun h => ?_) (fun h => ?_) | with_reducible refine exI rfl ?_ | with_reducible refine eqR rfl ?_ | (with_reducible refine exW (wrapN1 ?_) ?_; (focus (omega))) | (with_reducible refine exW (wrapN ?_) ?_; (focus (omega))) | (with_reducible refine exW (wrapB ?_ ?_) ?_; (focus (omega)); (focus (omega))) | with_reducible refine exW rfl ?_ | (with_reducible refine ixJ _ rfl ?_ ?_; (focus ((first | decide | omega | (simp; done) | (simp; omega)); done))) | (with_reducible refine ixJ' _ rfl ?_ ?_; (focus ((first | decide | omega | (simp; done) | (simp; omega)); done))) | (refine ixJ (Int.toNat _) ?_ ?_ ?_; (focus ((first | rfl | decide | omega | (simp; done)); done)); (focus ((first | decide | omega | (simp; done) | (simp; omega)); done))) | (refine ixJ' (Int.toNat _) ?_ ?_ ?_; (focus ((first | rfl | decide | omega | (simp; done)); done)); (focus ((first | decide | omega | (simp; done) | (simp; omega)); done))) | with_reducible refine ixS _ rfl (by assumption) ?_ | (with_reducible refine shlI ?_ ?_; (focus (first | decide | omega))) | (refine exI (callZ rfl rfl (if_pos ?_)) ?_; (focus ((first | decide | omega | (simp; done) | (simp; omega)); done)))))
  conv => whnf
  refine ⟨Unit, (fun i => True), (fun i => [(3, .slice 0 0 0 0 1), (9, .nslice), (10, .int .i64 0), (11, .int .i64 0)]), (fun i => [⟨true, 0, 0, .cells [] 9⟩]), (fun i => 0), ⟨(), trivial, FgL.mk [0] rfl ?_ ?_ rfl⟩, ?_⟩
  · refine And.intro (Wk.slice rfl rfl rfl (Nat.le_refl _) (Nat.le_refl _) rfl) ?_
    refine And.intro (Wk.noref rfl) ?_
    refine And.intro (Wk.int rfl) ?_
    exact ⟨Wk.int rfl, trivial⟩
  · exact ⟨⟨rfl, rfl, rfl, rfl, BodyGe.pre (rest := []) rfl rfl⟩, trivial⟩
  intro i hi
  dsimp only
  repeat' ((conv => whnf); first | (refine exI (callZ hb26 rfl (if_pos rfl)) ?_) | (first | (with_reducible refine condT ?_ ?_; (focus ((first | assumption | decide | (simp; done) | (simp; omega)); done))) | (with_reducible refine condF ?_ ?_; (focus ((first | assumption | decide | (simp; done) | (simp; omega)); done))) | with_reducible refine condB (fun h => ?_) (fun h => ?_) | with_reducible refine exI rfl ?_ | with_reducible refine eqR rfl ?_ | (with_reducible refine exW (wrapN1 ?_) ?_; (focus (omega))) | (with_reducible refine exW (wrapN ?_) ?_; (focus (omega))) | (with_reducible refine exW (wrapB ?_ ?_) ?_; (focus (omega)); (focus (omega))) | with_reducible refine exW rfl ?_ | (with_reducible refine ixJ _ rfl ?_ ?_; (focus ((first | decide | omega | (simp; done) | (simp; omega)); done))) | (with_reducible refine ixJ' _ rfl ?_ ?_; (focus ((first | decide | omega | (simp; done) | (simp; omega)); done))) | (refine ixJ (Int.toNat _) ?_ ?_ ?_; (focus ((first | rfl | decide | omega | (simp; done)); done)); (focus ((first | decide | omega | (simp; done) | (simp; omega)); done))) | (refine ixJ' (Int.toNat _) ?_ ?_ ?_; (focus ((first | rfl | decide | omega | (simp; done)); done)); (focus ((first | decide | omega | (simp; done) | (simp; omega)); done))) | with_reducible refine ixS _ rfl (by assumption) ?_ | (with_reducible refine shlI ?_ ?_; (focus (first | decide | omega))) | (refine exI (callZ rfl rfl (if_pos ?_)) ?_; (focus ((first | decide | omega | (simp; done) | (simp; omega)); done)))))
  all_goals rfl
/-- The document's answer. -/
theorem joinB_snoc : ∀ (a : List (List UInt8)) (t : List UInt8), joinB (a ++ [t]) = if a = [] then t else joinB a ++ 32 :: t
  | [], t => rfl
  | [x], t => rfl
  | x :: y :: a, t => by
    have ih := joinB_snoc (y :: a) t
    rw [if_neg (by simp)] at ih ⊢
    show x ++ 32 :: joinB (y :: a ++ [t]) = _
    rw [ih]; show _ = (x ++ 32 :: joinB (y :: a)) ++ 32 :: t
    simp
theorem joinB_le : ∀ l : List (List UInt8), (joinB l).length ≤ lens l
  | [] => Nat.le_refl _
  | t :: l => by
    have := tailJ_len l
    rw [joinB_tail, List.length_append, lens]; omega
theorem lens_take : ∀ (l : List (List UInt8)) (k : Nat), lens (l.take k) ≤ lens l
  | [], k => by simp [lens]
  | t :: l, 0 => by simp [lens]
  | t :: l, k + 1 => by have := lens_take l k; simp only [List.take_succ_cons, lens]; omega
theorem gjoinR_ok (l : List GT) (hb : lens (l.map GT.text) ≤ 1048576) : ValOK Tryd.prog runLives.gl 16 [.rs l.length 4 (gtC l)] (.str (joinB (l.map GT.text))) := by
  refine fn_val follows noNum F8_sound Tryd.func16 rfl ?_
  have hl := lens_len (l.map GT.text)
  rw [List.length_map] at hl
  repeat' ((conv => whnf); first | (first | (with_reducible refine condT ?_ ?_; (focus ((first | assumption | decide | (simp; done) | (simp; omega)); done))) | (with_reducible refine condF ?_ ?_; (focus ((first | assumption | decide | (simp; done) | (simp; omega)); done))) | with_reducible refine condB (fun h => ?_) (fun h => ?_) | with_reducible refine exI rfl ?_ | with_reducible refine eqR rfl ?_ | (with_reducible refine exW (wrapN1 ?_) ?_; (focus (omega))) | (with_reducible refine exW (wrapN ?_) ?_; (focus (omega))) | (with_reducible refine exW (wrapB ?_ ?_) ?_; (focus (omega)); (focus (omega))) | with_reducible refine exW rfl ?_ | (with_reducible refine ixJ _ rfl ?_ ?_; (focus ((first | decide | omega | (simp; done) | (simp; omega)); done))) | (with_reducible refine ixJ' _ rfl ?_ ?_; (focus ((first | decide | omega | (simp; done) | (simp; omega)); done))) | (refine ixJ (Int.toNat _) ?_ ?_ ?_; (focus ((first | rfl | decide | omega | (simp; done)); done)); (focus ((first | decide | omega | (simp; done) | (simp; omega)); done))) | (refine ixJ' (Int.toNat _) ?_ ?_ ?_; (focus ((first | rfl | decide | omega | (simp; done)); done)); (focus ((first | decide | omega | (simp; done) | (simp; omega)); done))) | with_reducible refine ixS _ rfl (by assumption) ?_ | (with_reducible refine shlI ?_ ?_; (focus (first | decide | omega))) | (refine exI (callZ rfl rfl (if_pos ?_)) ?_; (focus ((first | decide | omega | (simp; done) | (simp; omega)); done)))))
  conv => whnf
  refine ⟨Nat, (fun i => i ≤ l.length), (fun i => [(0, .rs l.length 4 (gtC l)), (3, .str (joinB ((l.map GT.text).take i))), (4, .int .i64 i)]), (fun i => []), (fun i => l.length - i), ⟨0, Nat.zero_le _, FgL.mk0 rfl ?_⟩, ?_⟩
  · refine And.intro (Wk.noref rfl) ?_
    refine And.intro (Wk.str rfl) ?_
    exact ⟨Wk.int rfl, trivial⟩
  intro i hi
  dsimp only
  have hjl := joinB_le ((l.map GT.text).take i)
  have hjt := lens_take (l.map GT.text) i
  by_cases hlt : i < l.length
  · have e1 : decide ((i : Int) < (l.length : Int)) = true := by simpa using hlt
    have hx := gk4 l i hlt
    obtain ⟨_, hx1, _⟩ := (show _ ∧ tk 1 (((gtC l).drop (i * 4)).drop 1) = some [.str l[i].text] ∧ True by
      refine ⟨trivial, ?_, trivial⟩
      obtain ⟨h1, h2⟩ := tk_some hx
      match h3 : (gtC l).drop (i * 4), h1, h2 with
      | x1 :: x2 :: x3 :: x4 :: X, _, h2 =>
        simp only [GT.cells] at h2
        simp at h2; obtain ⟨_, rfl, _⟩ := h2; rfl)
    have htk : (l.map GT.text).take (i + 1) = (l.map GT.text).take i ++ [l[i].text] := by
      rw [List.take_succ_eq_append_getElem (by simpa using hlt)]; simp
    have hs := joinB_snoc ((l.map GT.text).take i) l[i].text
    have hj2 := joinB_le ((l.map GT.text).take (i + 1))
    have hj3 := lens_take (l.map GT.text) (i + 1)
    rw [← htk] at hs
    generalize l[i] = t at *
    by_cases h0 : i = 0
    · subst h0
      have e2 : decide (((0 : Nat) : Int) > 0) = false := by decide
      rw [if_pos (by simp)] at hs
      rw [hs] at hj2
      repeat' ((conv => whnf); first | (refine exI hx1 ?_) | (with_reducible refine ixJ 0 rfl ?_ ?_; (focus (omega))) | (refine And.intro ?_ ?_; (focus (simp [joinB]; omega))) | (first | (with_reducible refine condT ?_ ?_; (focus ((first | assumption | decide | (simp; done) | (simp; omega)); done))) | (with_reducible refine condF ?_ ?_; (focus ((first | assumption | decide | (simp; done) | (simp; omega)); done))) | with_reducible refine condB (fun h => ?_) (fun h => ?_) | with_reducible refine exI rfl ?_ | with_reducible refine eqR rfl ?_ | (with_reducible refine exW (wrapN1 ?_) ?_; (focus (omega))) | (with_reducible refine exW (wrapN ?_) ?_; (focus (omega))) | (with_reducible refine exW (wrapB ?_ ?_) ?_; (focus (omega)); (focus (omega))) | with_reducible refine exW rfl ?_ | (with_reducible refine ixJ _ rfl ?_ ?_; (focus ((first | decide | omega | (simp; done) | (simp; omega)); done))) | (with_reducible refine ixJ' _ rfl ?_ ?_; (focus ((first | decide | omega | (simp; done) | (simp; omega)); done))) | (refine ixJ (Int.toNat _) ?_ ?_ ?_; (focus ((first | rfl | decide | omega | (simp; done)); done)); (focus ((first | decide | omega | (simp; done) | (simp; omega)); done))) | (refine ixJ' (Int.toNat _) ?_ ?_ ?_; (focus ((first | rfl | decide | omega | (simp; done)); done)); (focus ((first | decide | omega | (simp; done) | (simp; omega)); done))) | with_reducible refine ixS _ rfl (by assumption) ?_ | (with_reducible refine shlI ?_ ?_; (focus (first | decide | omega))) | (refine exI (callZ rfl rfl (if_pos ?_)) ?_; (focus ((first | decide | omega | (simp; done) | (simp; omega)); done)))))
      conv => whnf
      refine ⟨0 + 1, hlt, by show l.length - (0 + 1) < l.length - 0; omega, FgL.mk0 rfl ?_⟩
      refine And.intro (Wk.noref rfl) ?_
      refine And.intro (Wk.str (by rw [hs]; simp [joinB])) ?_
      exact ⟨Wk.int rfl, trivial⟩
    · have e2 : decide ((i : Int) > 0) = true := by simp; omega
      have hne : (l.map GT.text).take i ≠ [] := by
        intro e; have := congrArg List.length e; rw [List.length_take, List.length_map] at this; simp only [List.length_nil] at this; omega
      rw [if_neg hne] at hs
      rw [hs, List.length_append, List.length_cons] at hj2
      repeat' ((conv => whnf); first | (refine exI hx1 ?_) | (with_reducible refine ixJ i rfl ?_ ?_; (focus (omega))) | (refine And.intro ?_ ?_; (focus (simp; omega))) | (first | (with_reducible refine condT ?_ ?_; (focus ((first | assumption | decide | (simp; done) | (simp; omega)); done))) | (with_reducible refine condF ?_ ?_; (focus ((first | assumption | decide | (simp; done) | (simp; omega)); done))) | with_reducible refine condB (fun h => ?_) (fun h => ?_) | with_reducible refine exI rfl ?_ | with_reducible refine eqR rfl ?_ | (with_reducible refine exW (wrapN1 ?_) ?_; (focus (omega))) | (with_reducible refine exW (wrapN ?_) ?_; (focus (omega))) | (with_reducible refine exW (wrapB ?_ ?_) ?_; (focus (omega)); (focus (omega))) | with_reducible refine exW rfl ?_ | (with_reducible refine ixJ _ rfl ?_ ?_; (focus ((first | decide | omega | (simp; done) | (simp; omega)); done))) | (with_reducible refine ixJ' _ rfl ?_ ?_; (focus ((first | decide | omega | (simp; done) | (simp; omega)); done))) | (refine ixJ (Int.toNat _) ?_ ?_ ?_; (focus ((first | rfl | decide | omega | (simp; done)); done)); (focus ((first | decide | omega | (simp; done) | (simp; omega)); done))) | (refine ixJ' (Int.toNat _) ?_ ?_ ?_; (focus ((first | rfl | decide | omega | (simp; done)); done)); (focus ((first | decide | omega | (simp; done) | (simp; omega)); done))) | with_reducible refine ixS _ rfl (by assumption) ?_ | (with_reducible refine shlI ?_ ?_; (focus (first | decide | omega))) | (refine exI (callZ rfl rfl (if_pos ?_)) ?_; (focus ((first | decide | omega | (simp; done) | (simp; omega)); done)))))
      conv => whnf
      refine ⟨i + 1, hlt, by show l.length - (i + 1) < l.length - i; omega, FgL.mk0 rfl ?_⟩
      refine And.intro (Wk.noref rfl) ?_
      refine And.intro (Wk.str (by rw [hs]; simp)) ?_
      exact ⟨Wk.int rfl, trivial⟩
  · have e1 : decide ((i : Int) < (l.length : Int)) = false := by simpa using hlt
    have hi2 : i = l.length := by have := hi; omega
    subst hi2
    repeat' ((conv => whnf); first | (with_reducible refine condT ?_ ?_; (focus ((first | assumption | decide | (simp; done) | (simp; omega)); done))) | (with_reducible refine condF ?_ ?_; (focus ((first | assumption | decide | (simp; done) | (simp; omega)); done))) | with_reducible refine condB (fun h => ?_) (fun h => ?_) | with_reducible refine exI rfl ?_ | with_reducible refine eqR rfl ?_ | (with_reducible refine exW (wrapN1 ?_) ?_; (focus (omega))) | (with_reducible refine exW (wrapN ?_) ?_; (focus (omega))) | (with_reducible refine exW (wrapB ?_ ?_) ?_; (focus (omega)); (focus (omega))) | with_reducible refine exW rfl ?_ | (with_reducible refine ixJ _ rfl ?_ ?_; (focus ((first | decide | omega | (simp; done) | (simp; omega)); done))) | (with_reducible refine ixJ' _ rfl ?_ ?_; (focus ((first | decide | omega | (simp; done) | (simp; omega)); done))) | (refine ixJ (Int.toNat _) ?_ ?_ ?_; (focus ((first | rfl | decide | omega | (simp; done)); done)); (focus ((first | decide | omega | (simp; done) | (simp; omega)); done))) | (refine ixJ' (Int.toNat _) ?_ ?_ ?_; (focus ((first | rfl | decide | omega | (simp; done)); done)); (focus ((first | decide | omega | (simp; done) | (simp; omega)); done))) | with_reducible refine ixS _ rfl (by assumption) ?_ | (with_reducible refine shlI ?_ ?_; (focus (first | decide | omega))) | (refine exI (callZ rfl rfl (if_pos ?_)) ?_; (focus ((first | decide | omega | (simp; done) | (simp; omega)); done))))
    rw [List.take_of_length_le (by simp)]; try rfl
theorem gjoinR_nil : ValOK Tryd.prog runLives.gl 16 [.nslice] (.str []) := by
  refine fn_val follows noNum F8_sound Tryd.func16 rfl ?_
  repeat' ((conv => whnf); first | (first | (with_reducible refine condT ?_ ?_; (focus ((first | assumption | decide | (simp; done) | (simp; omega)); done))) | (with_reducible refine condF ?_ ?_; (focus ((first | assumption | decide | (simp; done) | (simp; omega)); done))) | with_reducible refine condB (fun h => ?_) (fun h => ?_) | with_reducible refine exI rfl ?_ | with_reducible refine eqR rfl ?_ | (with_reducible refine exW (wrapN1 ?_) ?_; (focus (omega))) | (with_reducible refine exW (wrapN ?_) ?_; (focus (omega))) | (with_reducible refine exW (wrapB ?_ ?_) ?_; (focus (omega)); (focus (omega))) | with_reducible refine exW rfl ?_ | (with_reducible refine ixJ _ rfl ?_ ?_; (focus ((first | decide | omega | (simp; done) | (simp; omega)); done))) | (with_reducible refine ixJ' _ rfl ?_ ?_; (focus ((first | decide | omega | (simp; done) | (simp; omega)); done))) | (refine ixJ (Int.toNat _) ?_ ?_ ?_; (focus ((first | rfl | decide | omega | (simp; done)); done)); (focus ((first | decide | omega | (simp; done) | (simp; omega)); done))) | (refine ixJ' (Int.toNat _) ?_ ?_ ?_; (focus ((first | rfl | decide | omega | (simp; done)); done)); (focus ((first | decide | omega | (simp; done) | (simp; omega)); done))) | with_reducible refine ixS _ rfl (by assumption) ?_ | (with_reducible refine shlI ?_ ?_; (focus (first | decide | omega))) | (refine exI (callZ rfl rfl (if_pos ?_)) ?_; (focus ((first | decide | omega | (simp; done) | (simp; omega)); done)))))
  conv => whnf
  refine ⟨Unit, (fun i => True), (fun i => [(0, .nslice), (3, .str []), (4, .int .i64 0)]), (fun i => []), (fun i => 0), ⟨(), trivial, FgL.mk0 rfl ?_⟩, ?_⟩
  · refine And.intro (Wk.noref rfl) ?_
    refine And.intro (Wk.str rfl) ?_
    exact ⟨Wk.int rfl, trivial⟩
  intro i hi
  repeat' ((conv => whnf); first | (with_reducible refine condT ?_ ?_; (focus ((first | assumption | decide | (simp; done) | (simp; omega)); done))) | (with_reducible refine condF ?_ ?_; (focus ((first | assumption | decide | (simp; done) | (simp; omega)); done))) | with_reducible refine condB (fun h => ?_) (fun h => ?_) | with_reducible refine exI rfl ?_ | with_reducible refine eqR rfl ?_ | (with_reducible refine exW (wrapN1 ?_) ?_; (focus (omega))) | (with_reducible refine exW (wrapN ?_) ?_; (focus (omega))) | (with_reducible refine exW (wrapB ?_ ?_) ?_; (focus (omega)); (focus (omega))) | with_reducible refine exW rfl ?_ | (with_reducible refine ixJ _ rfl ?_ ?_; (focus ((first | decide | omega | (simp; done) | (simp; omega)); done))) | (with_reducible refine ixJ' _ rfl ?_ ?_; (focus ((first | decide | omega | (simp; done) | (simp; omega)); done))) | (refine ixJ (Int.toNat _) ?_ ?_ ?_; (focus ((first | rfl | decide | omega | (simp; done)); done)); (focus ((first | decide | omega | (simp; done) | (simp; omega)); done))) | (refine ixJ' (Int.toNat _) ?_ ?_ ?_; (focus ((first | rfl | decide | omega | (simp; done)); done)); (focus ((first | decide | omega | (simp; done) | (simp; omega)); done))) | with_reducible refine ixS _ rfl (by assumption) ?_ | (with_reducible refine shlI ?_ ?_; (focus (first | decide | omega))) | (refine exI (callZ rfl rfl (if_pos ?_)) ?_; (focus ((first | decide | omega | (simp; done) | (simp; omega)); done))))
  all_goals rfl
end Go.Proofs.YtacaaiiooedgjaaDoor.lex
end

/-
  Of 'cantileverlaw02': LexPlaces.
-/
section
set_option linter.unusedVariables false
set_option linter.unusedSimpArgs false
namespace Go.Proofs.YtacaaiiooedgjaaDoor.lexPlacesLaw
open Go.Abs Go.RowKit lex lexReadsLaw lexGlueLaw
set_option maxRecDepth 100000
set_option maxHeartbeats 4000000

def sumM : List GT → Nat
  | [] => 0
  | t :: l => min 3001 t.text.length + sumM l
theorem sumM_take : ∀ (l : List GT) (i : Nat) (h : i < l.length), sumM (l.take (i + 1)) = sumM (l.take i) + min 3001 l[i].text.length
  | t :: l, 0, h => by simp [sumM]
  | t :: l, i + 1, h => by
    have := sumM_take l i (by simpa using h)
    simp only [List.take_succ_cons, sumM, List.getElem_cons_succ]; omega
theorem sumM_le : ∀ (l : List GT) (i : Nat), sumM (l.take i) ≤ 3001 * i
  | [], i => by simp [sumM]
  | t :: l, 0 => by simp [sumM]
  | t :: l, i + 1 => by have := sumM_le l i; simp only [List.take_succ_cons, sumM]; omega
theorem lens_le : ∀ l : List GT, sumM l ≤ 3000 → lens (l.map GT.text) ≤ sumM l + l.length
  | [], _ => Nat.le_refl _
  | t :: l, h => by
    simp only [sumM] at h
    have := lens_le l (by omega)
    simp only [List.map_cons, lens, sumM, List.length_cons]; omega
def fcts (s : List UInt8) (at_ : Int) (X : AV) (j : List UInt8) : List (Nat × List AV × AV) := [(7, [], .bool true), (14, [.str s, .int .i64 at_], lineR s at_), (15, [.str s, .int .i64 at_], lineR s at_), (13, [X], .str j), (16, [X], .str j)]
section
variable (s : List UInt8) (at_ : Int) (X : AV) (j : List UInt8)
theorem b13 : hasBody Tryd.prog 13 = true := by kernel_rfl
theorem b14 : hasBody Tryd.prog 14 = true := by kernel_rfl
theorem b15 : hasBody Tryd.prog 15 = true := by kernel_rfl
theorem b16 : hasBody Tryd.prog 16 = true := by kernel_rfl
theorem p7 (H : AHeap) : acall Tryd.prog (orcF (fcts s at_ X j)) H 7 [] = some (.bool true, H) := callF b7 findF_here
theorem p14 (H : AHeap) : acall Tryd.prog (orcF (fcts s at_ X j)) H 14 [.str s, .int .i64 at_] = some (lineR s at_, H) := callF b14 (findF_next rfl findF_here)
theorem p15 (H : AHeap) : acall Tryd.prog (orcF (fcts s at_ X j)) H 15 [.str s, .int .i64 at_] = some (lineR s at_, H) := callF b15 (findF_next rfl (findF_next rfl findF_here))
theorem p13 (H : AHeap) : acall Tryd.prog (orcF (fcts s at_ X j)) H 13 [X] = some (.str j, H) := callF b13 (findF_next rfl (findF_next rfl (findF_next rfl findF_here)))
theorem p16 (H : AHeap) : acall Tryd.prog (orcF (fcts s at_ X j)) H 16 [X] = some (.str j, H) := callF b16 (findF_next rfl (findF_next rfl (findF_next rfl (findF_next rfl findF_here))))
end
theorem law_nil (s : List UInt8) (at_ : Int) : ValOK Tryd.prog runLives.gl 6 [.str s, .int .i64 at_, .nslice] (.bool true) := by
  by_cases hl : s.length ≤ 3000
  · have hO : OrcSound Tryd.prog runLives.gl (orcF (fcts s at_ .nslice [])) := orcF_sound ⟨rfl, lives_ok, rfl, lineP_ok s at_ hl, rfl, lineD_ok s at_ hl, rfl, gjoin_nil, rfl, gjoinR_nil, trivial⟩
    have q7 := p7 s at_ .nslice []
    have q14 := p14 s at_ .nslice []
    have q15 := p15 s at_ .nslice []
    have q13 := p13 s at_ .nslice []
    have q16 := p16 s at_ .nslice []
    have e0 : decide ((s.length : Int) > 3000) = false := by simp; omega
    unfold lineR at q14 q15
    generalize fcts s at_ .nslice [] = L at *
    refine fn_val follows noNum hO Tryd.func6 rfl ?_
    repeat' ((conv => whnf); first | (with_reducible refine exI (q7 _) ?_) | (first | (with_reducible refine condT ?_ ?_; (focus ((first | assumption | decide | (simp; done) | (simp; omega)); done))) | (with_reducible refine condF ?_ ?_; (focus ((first | assumption | decide | (simp; done) | (simp; omega)); done))) | with_reducible refine condB (fun h => ?_) (fun h => ?_) | with_reducible refine exI rfl ?_ | with_reducible refine eqR rfl ?_ | (with_reducible refine exW (wrapN1 ?_) ?_; (focus (omega))) | (with_reducible refine exW (wrapN ?_) ?_; (focus (omega))) | (with_reducible refine exW (wrapB ?_ ?_) ?_; (focus (omega)); (focus (omega))) | with_reducible refine exW rfl ?_ | (with_reducible refine ixJ _ rfl ?_ ?_; (focus ((first | decide | omega | (simp; done) | (simp; omega)); done))) | (with_reducible refine ixJ' _ rfl ?_ ?_; (focus ((first | decide | omega | (simp; done) | (simp; omega)); done))) | (refine ixJ (Int.toNat _) ?_ ?_ ?_; (focus ((first | rfl | decide | omega | (simp; done)); done)); (focus ((first | decide | omega | (simp; done) | (simp; omega)); done))) | (refine ixJ' (Int.toNat _) ?_ ?_ ?_; (focus ((first | rfl | decide | omega | (simp; done)); done)); (focus ((first | decide | omega | (simp; done) | (simp; omega)); done))) | with_reducible refine ixS _ rfl (by assumption) ?_ | (with_reducible refine shlI ?_ ?_; (focus (first | decide | omega))) | (refine exI (callZ rfl rfl (if_pos ?_)) ?_; (focus ((first | decide | omega | (simp; done) | (simp; omega)); done)))))
    conv => whnf
    refine ⟨Unit, (fun i => True), (fun i => [(0, .str s), (1, .int .i64 at_), (2, .nslice), (7, .int .i64 s.length), (8, .int .i64 0)]), (fun i => []), (fun i => 0), ⟨(), trivial, FgL.mk0 rfl ?_⟩, ?_⟩
    · refine And.intro (Wk.noref rfl) ?_
      refine And.intro (Wk.noref rfl) ?_
      refine And.intro (Wk.noref rfl) ?_
      refine And.intro (Wk.int rfl) ?_
      exact ⟨Wk.int rfl, trivial⟩
    intro i hi
    dsimp only
    repeat' ((conv => whnf); first | (with_reducible refine exI (q14 _) ?_) | (with_reducible refine exI (q15 _) ?_) | (with_reducible refine exI (q13 _) ?_) | (with_reducible refine exI (q16 _) ?_) | (first | (with_reducible refine condT ?_ ?_; (focus ((first | assumption | decide | (simp; done) | (simp; omega)); done))) | (with_reducible refine condF ?_ ?_; (focus ((first | assumption | decide | (simp; done) | (simp; omega)); done))) | with_reducible refine condB (fun h => ?_) (fun h => ?_) | with_reducible refine exI rfl ?_ | with_reducible refine eqR rfl ?_ | (with_reducible refine exW (wrapN1 ?_) ?_; (focus (omega))) | (with_reducible refine exW (wrapN ?_) ?_; (focus (omega))) | (with_reducible refine exW (wrapB ?_ ?_) ?_; (focus (omega)); (focus (omega))) | with_reducible refine exW rfl ?_ | (with_reducible refine ixJ _ rfl ?_ ?_; (focus ((first | decide | omega | (simp; done) | (simp; omega)); done))) | (with_reducible refine ixJ' _ rfl ?_ ?_; (focus ((first | decide | omega | (simp; done) | (simp; omega)); done))) | (refine ixJ (Int.toNat _) ?_ ?_ ?_; (focus ((first | rfl | decide | omega | (simp; done)); done)); (focus ((first | decide | omega | (simp; done) | (simp; omega)); done))) | (refine ixJ' (Int.toNat _) ?_ ?_ ?_; (focus ((first | rfl | decide | omega | (simp; done)); done)); (focus ((first | decide | omega | (simp; done) | (simp; omega)); done))) | with_reducible refine ixS _ rfl (by assumption) ?_ | (with_reducible refine shlI ?_ ?_; (focus (first | decide | omega))) | (refine exI (callZ rfl rfl (if_pos ?_)) ?_; (focus ((first | decide | omega | (simp; done) | (simp; omega)); done)))))
    all_goals (try (simp_all [resOf]; done))
  · have e0 : decide ((s.length : Int) > 3000) = true := by simp; omega
    refine fn_val follows noNum runLives.knownLives Tryd.func6 rfl ?_
    repeat' ((conv => whnf); first | (with_reducible refine condT ?_ ?_; (focus ((first | assumption | decide | (simp; done) | (simp; omega)); done))) | (with_reducible refine condF ?_ ?_; (focus ((first | assumption | decide | (simp; done) | (simp; omega)); done))) | with_reducible refine condB (fun h => ?_) (fun h => ?_) | with_reducible refine exI rfl ?_ | with_reducible refine eqR rfl ?_ | (with_reducible refine exW (wrapN1 ?_) ?_; (focus (omega))) | (with_reducible refine exW (wrapN ?_) ?_; (focus (omega))) | (with_reducible refine exW (wrapB ?_ ?_) ?_; (focus (omega)); (focus (omega))) | with_reducible refine exW rfl ?_ | (with_reducible refine ixJ _ rfl ?_ ?_; (focus ((first | decide | omega | (simp; done) | (simp; omega)); done))) | (with_reducible refine ixJ' _ rfl ?_ ?_; (focus ((first | decide | omega | (simp; done) | (simp; omega)); done))) | (refine ixJ (Int.toNat _) ?_ ?_ ?_; (focus ((first | rfl | decide | omega | (simp; done)); done)); (focus ((first | decide | omega | (simp; done) | (simp; omega)); done))) | (refine ixJ' (Int.toNat _) ?_ ?_ ?_; (focus ((first | rfl | decide | omega | (simp; done)); done)); (focus ((first | decide | omega | (simp; done) | (simp; omega)); done))) | with_reducible refine ixS _ rfl (by assumption) ?_ | (with_reducible refine shlI ?_ ?_; (focus (first | decide | omega))) | (refine exI (callZ rfl rfl (if_pos ?_)) ?_; (focus ((first | decide | omega | (simp; done) | (simp; omega)); done))))
    conv => whnf
    refine ⟨Unit, (fun i => True), (fun i => [(0, .str s), (1, .int .i64 at_), (2, .nslice), (7, .int .i64 s.length), (8, .int .i64 0)]), (fun i => []), (fun i => 0), ⟨(), trivial, FgL.mk0 rfl ?_⟩, ?_⟩
    · refine And.intro (Wk.noref rfl) ?_
      refine And.intro (Wk.noref rfl) ?_
      refine And.intro (Wk.noref rfl) ?_
      refine And.intro (Wk.int rfl) ?_
      exact ⟨Wk.int rfl, trivial⟩
    intro i hi
    dsimp only
    repeat' ((conv => whnf); first | (with_reducible refine condT ?_ ?_; (focus ((first | assumption | decide | (simp; done) | (simp; omega)); done))) | (with_reducible refine condF ?_ ?_; (focus ((first | assumption | decide | (simp; done) | (simp; omega)); done))) | with_reducible refine condB (fun h => ?_) (fun h => ?_) | with_reducible refine exI rfl ?_ | with_reducible refine eqR rfl ?_ | (with_reducible refine exW (wrapN1 ?_) ?_; (focus (omega))) | (with_reducible refine exW (wrapN ?_) ?_; (focus (omega))) | (with_reducible refine exW (wrapB ?_ ?_) ?_; (focus (omega)); (focus (omega))) | with_reducible refine exW rfl ?_ | (with_reducible refine ixJ _ rfl ?_ ?_; (focus ((first | decide | omega | (simp; done) | (simp; omega)); done))) | (with_reducible refine ixJ' _ rfl ?_ ?_; (focus ((first | decide | omega | (simp; done) | (simp; omega)); done))) | (refine ixJ (Int.toNat _) ?_ ?_ ?_; (focus ((first | rfl | decide | omega | (simp; done)); done)); (focus ((first | decide | omega | (simp; done) | (simp; omega)); done))) | (refine ixJ' (Int.toNat _) ?_ ?_ ?_; (focus ((first | rfl | decide | omega | (simp; done)); done)); (focus ((first | decide | omega | (simp; done) | (simp; omega)); done))) | with_reducible refine ixS _ rfl (by assumption) ?_ | (with_reducible refine shlI ?_ ?_; (focus (first | decide | omega))) | (refine exI (callZ rfl rfl (if_pos ?_)) ?_; (focus ((first | decide | omega | (simp; done) | (simp; omega)); done))))
    all_goals (try (simp_all [resOf]; done))
theorem law_rs (s : List UInt8) (at_ : Int) (l : List GT) : ValOK Tryd.prog runLives.gl 6 [.str s, .int .i64 at_, .rs l.length 4 (gtC l)] (.bool true) := by
  have hO : ∃ L, OrcSound Tryd.prog runLives.gl (orcF L) ∧ (∀ H, acall Tryd.prog (orcF L) H 7 [] = some (.bool true, H)) ∧ (s.length + sumM l ≤ 3000 → l.length ≤ 3000 →
      (∀ H, acall Tryd.prog (orcF L) H 14 [.str s, .int .i64 at_] = some (lineR s at_, H)) ∧ (∀ H, acall Tryd.prog (orcF L) H 15 [.str s, .int .i64 at_] = some (lineR s at_, H)) ∧
      (∀ H, acall Tryd.prog (orcF L) H 13 [.rs l.length 4 (gtC l)] = some (.str (joinB (l.map GT.text)), H)) ∧ (∀ H, acall Tryd.prog (orcF L) H 16 [.rs l.length 4 (gtC l)] = some (.str (joinB (l.map GT.text)), H))) := by
    by_cases hc : s.length + sumM l ≤ 3000 ∧ l.length ≤ 3000
    · have hb := lens_le l (by omega)
      exact ⟨fcts s at_ (.rs l.length 4 (gtC l)) (joinB (l.map GT.text)), orcF_sound ⟨rfl, lives_ok, rfl, lineP_ok s at_ (by omega), rfl, lineD_ok s at_ (by omega), rfl, gjoin_ok l (by omega), rfl, gjoinR_ok l (by omega), trivial⟩, p7 _ _ _ _, fun _ _ => ⟨p14 _ _ _ _, p15 _ _ _ _, p13 _ _ _ _, p16 _ _ _ _⟩⟩
    · exact ⟨[(7, [], .bool true)], orcF_sound ⟨rfl, lives_ok, trivial⟩, fun H => callF b7 findF_here, fun h1 h2 => absurd ⟨h1, h2⟩ hc⟩
  obtain ⟨L, hO, q7, hq⟩ := hO
  refine fn_val follows noNum hO Tryd.func6 rfl ?_
  repeat' ((conv => whnf); first | (with_reducible refine exI (q7 _) ?_) | (first | (with_reducible refine condT ?_ ?_; (focus ((first | assumption | decide | (simp; done) | (simp; omega)); done))) | (with_reducible refine condF ?_ ?_; (focus ((first | assumption | decide | (simp; done) | (simp; omega)); done))) | with_reducible refine condB (fun h => ?_) (fun h => ?_) | with_reducible refine exI rfl ?_ | with_reducible refine eqR rfl ?_ | (with_reducible refine exW (wrapN1 ?_) ?_; (focus (omega))) | (with_reducible refine exW (wrapN ?_) ?_; (focus (omega))) | (with_reducible refine exW (wrapB ?_ ?_) ?_; (focus (omega)); (focus (omega))) | with_reducible refine exW rfl ?_ | (with_reducible refine ixJ _ rfl ?_ ?_; (focus ((first | decide | omega | (simp; done) | (simp; omega)); done))) | (with_reducible refine ixJ' _ rfl ?_ ?_; (focus ((first | decide | omega | (simp; done) | (simp; omega)); done))) | (refine ixJ (Int.toNat _) ?_ ?_ ?_; (focus ((first | rfl | decide | omega | (simp; done)); done)); (focus ((first | decide | omega | (simp; done) | (simp; omega)); done))) | (refine ixJ' (Int.toNat _) ?_ ?_ ?_; (focus ((first | rfl | decide | omega | (simp; done)); done)); (focus ((first | decide | omega | (simp; done) | (simp; omega)); done))) | with_reducible refine ixS _ rfl (by assumption) ?_ | (with_reducible refine shlI ?_ ?_; (focus (first | decide | omega))) | (refine exI (callZ rfl rfl (if_pos ?_)) ?_; (focus ((first | decide | omega | (simp; done) | (simp; omega)); done)))))
  conv => whnf
  refine ⟨Nat, (fun i => i ≤ l.length ∧ i ≤ 3001), (fun i => [(0, .str s), (1, .int .i64 at_), (2, .rs l.length 4 (gtC l)), (7, .int .i64 (s.length + sumM (l.take i) : Nat)), (8, .int .i64 i)]), (fun i => []), (fun i => l.length - i), ⟨0, ⟨Nat.zero_le _, Nat.zero_le _⟩, FgL.mk0 rfl ?_⟩, ?_⟩
  · refine And.intro (Wk.noref rfl) ?_
    refine And.intro (Wk.noref rfl) ?_
    refine And.intro (Wk.noref rfl) ?_
    refine And.intro (Wk.int (by simp [sumM])) ?_
    exact ⟨Wk.int rfl, trivial⟩
  rintro i ⟨hi, hi3⟩
  dsimp only
  have hsl := sumM_le l i
  by_cases c1 : i < l.length
  · have e1 : decide ((i : Int) < (l.length : Int)) = true := by simpa using c1
    by_cases c2 : i ≤ 3000
    · have e2 : decide ((i : Int) ≤ 3000) = true := by simp; omega
      by_cases c3 : s.length + sumM (l.take i) ≤ 3000
      · have e3 : decide (((s.length + sumM (l.take i) : Nat) : Int) ≤ 3000) = true := by simp; omega
        have hx := gk4 l i c1
        obtain ⟨_, hx1, _⟩ := (show _ ∧ tk 1 (((gtC l).drop (i * 4)).drop 1) = some [.str l[i].text] ∧ True by
          refine ⟨trivial, ?_, trivial⟩
          obtain ⟨h1, h2⟩ := tk_some hx
          match h3 : (gtC l).drop (i * 4), h1, h2 with
          | x1 :: x2 :: x3 :: x4 :: X, _, h2 =>
            simp only [GT.cells] at h2
            simp at h2; obtain ⟨_, rfl, _⟩ := h2; rfl)
        have hst := sumM_take l i c1
        generalize l[i] = t at *
        have w1 : IntKind.i64.wrap (((s.length + sumM (l.take i) : Nat) : Int) + (if (t.text.length : Int) < 3001 then (t.text.length : Int) else 3001)) = ((s.length + sumM (l.take (i + 1)) : Nat) : Int) := by
          have : (if (t.text.length : Int) < 3001 then (t.text.length : Int) else 3001) = ((min 3001 t.text.length : Nat) : Int) := by split <;> omega
          rw [this, hst, wrapN (by omega)]; omega
        repeat' ((conv => whnf); first | (refine exI hx1 ?_) | (with_reducible refine ixJ i rfl ?_ ?_; (focus (omega))) | (refine exW w1 ?_) | (first | (with_reducible refine condT ?_ ?_; (focus ((first | assumption | decide | (simp; done) | (simp; omega)); done))) | (with_reducible refine condF ?_ ?_; (focus ((first | assumption | decide | (simp; done) | (simp; omega)); done))) | with_reducible refine condB (fun h => ?_) (fun h => ?_) | with_reducible refine exI rfl ?_ | with_reducible refine eqR rfl ?_ | (with_reducible refine exW (wrapN1 ?_) ?_; (focus (omega))) | (with_reducible refine exW (wrapN ?_) ?_; (focus (omega))) | (with_reducible refine exW (wrapB ?_ ?_) ?_; (focus (omega)); (focus (omega))) | with_reducible refine exW rfl ?_ | (with_reducible refine ixJ _ rfl ?_ ?_; (focus ((first | decide | omega | (simp; done) | (simp; omega)); done))) | (with_reducible refine ixJ' _ rfl ?_ ?_; (focus ((first | decide | omega | (simp; done) | (simp; omega)); done))) | (refine ixJ (Int.toNat _) ?_ ?_ ?_; (focus ((first | rfl | decide | omega | (simp; done)); done)); (focus ((first | decide | omega | (simp; done) | (simp; omega)); done))) | (refine ixJ' (Int.toNat _) ?_ ?_ ?_; (focus ((first | rfl | decide | omega | (simp; done)); done)); (focus ((first | decide | omega | (simp; done) | (simp; omega)); done))) | with_reducible refine ixS _ rfl (by assumption) ?_ | (with_reducible refine shlI ?_ ?_; (focus (first | decide | omega))) | (refine exI (callZ rfl rfl (if_pos ?_)) ?_; (focus ((first | decide | omega | (simp; done) | (simp; omega)); done)))))
        conv => whnf
        refine ⟨i + 1, ⟨c1, by omega⟩, by show l.length - (i + 1) < l.length - i; omega, FgL.mk0 rfl ?_⟩
        refine And.intro (Wk.noref rfl) ?_
        refine And.intro (Wk.noref rfl) ?_
        refine And.intro (Wk.noref rfl) ?_
        refine And.intro (Wk.int rfl) ?_
        exact ⟨Wk.int rfl, trivial⟩
      · have e3 : decide (((s.length + sumM (l.take i) : Nat) : Int) ≤ 3000) = false := by simp; omega
        have e4 : decide (((s.length + sumM (l.take i) : Nat) : Int) > 3000) = true := by simp; omega
        repeat' ((conv => whnf); first | (with_reducible refine condT ?_ ?_; (focus ((first | assumption | decide | (simp; done) | (simp; omega)); done))) | (with_reducible refine condF ?_ ?_; (focus ((first | assumption | decide | (simp; done) | (simp; omega)); done))) | with_reducible refine condB (fun h => ?_) (fun h => ?_) | with_reducible refine exI rfl ?_ | with_reducible refine eqR rfl ?_ | (with_reducible refine exW (wrapN1 ?_) ?_; (focus (omega))) | (with_reducible refine exW (wrapN ?_) ?_; (focus (omega))) | (with_reducible refine exW (wrapB ?_ ?_) ?_; (focus (omega)); (focus (omega))) | with_reducible refine exW rfl ?_ | (with_reducible refine ixJ _ rfl ?_ ?_; (focus ((first | decide | omega | (simp; done) | (simp; omega)); done))) | (with_reducible refine ixJ' _ rfl ?_ ?_; (focus ((first | decide | omega | (simp; done) | (simp; omega)); done))) | (refine ixJ (Int.toNat _) ?_ ?_ ?_; (focus ((first | rfl | decide | omega | (simp; done)); done)); (focus ((first | decide | omega | (simp; done) | (simp; omega)); done))) | (refine ixJ' (Int.toNat _) ?_ ?_ ?_; (focus ((first | rfl | decide | omega | (simp; done)); done)); (focus ((first | decide | omega | (simp; done) | (simp; omega)); done))) | with_reducible refine ixS _ rfl (by assumption) ?_ | (with_reducible refine shlI ?_ ?_; (focus (first | decide | omega))) | (refine exI (callZ rfl rfl (if_pos ?_)) ?_; (focus ((first | decide | omega | (simp; done) | (simp; omega)); done))))
        all_goals (try (simp_all [resOf]; done))
    · have e2 : decide ((i : Int) ≤ 3000) = false := by simp; omega
      have e4 : decide ((l.length : Int) > 3000) = true := by simp; omega
      repeat' ((conv => whnf); first | (with_reducible refine condT ?_ ?_; (focus ((first | assumption | decide | (simp; done) | (simp; omega)); done))) | (with_reducible refine condF ?_ ?_; (focus ((first | assumption | decide | (simp; done) | (simp; omega)); done))) | with_reducible refine condB (fun h => ?_) (fun h => ?_) | with_reducible refine exI rfl ?_ | with_reducible refine eqR rfl ?_ | (with_reducible refine exW (wrapN1 ?_) ?_; (focus (omega))) | (with_reducible refine exW (wrapN ?_) ?_; (focus (omega))) | (with_reducible refine exW (wrapB ?_ ?_) ?_; (focus (omega)); (focus (omega))) | with_reducible refine exW rfl ?_ | (with_reducible refine ixJ _ rfl ?_ ?_; (focus ((first | decide | omega | (simp; done) | (simp; omega)); done))) | (with_reducible refine ixJ' _ rfl ?_ ?_; (focus ((first | decide | omega | (simp; done) | (simp; omega)); done))) | (refine ixJ (Int.toNat _) ?_ ?_ ?_; (focus ((first | rfl | decide | omega | (simp; done)); done)); (focus ((first | decide | omega | (simp; done) | (simp; omega)); done))) | (refine ixJ' (Int.toNat _) ?_ ?_ ?_; (focus ((first | rfl | decide | omega | (simp; done)); done)); (focus ((first | decide | omega | (simp; done) | (simp; omega)); done))) | with_reducible refine ixS _ rfl (by assumption) ?_ | (with_reducible refine shlI ?_ ?_; (focus (first | decide | omega))) | (refine exI (callZ rfl rfl (if_pos ?_)) ?_; (focus ((first | decide | omega | (simp; done) | (simp; omega)); done))))
      all_goals (try (simp_all [resOf]; done))
  · have e1 : decide ((i : Int) < (l.length : Int)) = false := by simpa using c1
    have hi2 : i = l.length := by omega
    subst hi2
    rw [List.take_length]
    by_cases c3 : s.length + sumM l ≤ 3000
    · have e3 : decide (((s.length + sumM l : Nat) : Int) > 3000) = false := by simp; omega
      by_cases c4 : l.length ≤ 3000
      · have e4 : decide ((l.length : Int) > 3000) = false := by simp; omega
        obtain ⟨q14, q15, q13, q16⟩ := hq c3 c4
        unfold lineR at q14 q15
        repeat' ((conv => whnf); first | (with_reducible refine exI (q14 _) ?_) | (with_reducible refine exI (q15 _) ?_) | (with_reducible refine exI (q13 _) ?_) | (with_reducible refine exI (q16 _) ?_) | (first | (with_reducible refine condT ?_ ?_; (focus ((first | assumption | decide | (simp; done) | (simp; omega)); done))) | (with_reducible refine condF ?_ ?_; (focus ((first | assumption | decide | (simp; done) | (simp; omega)); done))) | with_reducible refine condB (fun h => ?_) (fun h => ?_) | with_reducible refine exI rfl ?_ | with_reducible refine eqR rfl ?_ | (with_reducible refine exW (wrapN1 ?_) ?_; (focus (omega))) | (with_reducible refine exW (wrapN ?_) ?_; (focus (omega))) | (with_reducible refine exW (wrapB ?_ ?_) ?_; (focus (omega)); (focus (omega))) | with_reducible refine exW rfl ?_ | (with_reducible refine ixJ _ rfl ?_ ?_; (focus ((first | decide | omega | (simp; done) | (simp; omega)); done))) | (with_reducible refine ixJ' _ rfl ?_ ?_; (focus ((first | decide | omega | (simp; done) | (simp; omega)); done))) | (refine ixJ (Int.toNat _) ?_ ?_ ?_; (focus ((first | rfl | decide | omega | (simp; done)); done)); (focus ((first | decide | omega | (simp; done) | (simp; omega)); done))) | (refine ixJ' (Int.toNat _) ?_ ?_ ?_; (focus ((first | rfl | decide | omega | (simp; done)); done)); (focus ((first | decide | omega | (simp; done) | (simp; omega)); done))) | with_reducible refine ixS _ rfl (by assumption) ?_ | (with_reducible refine shlI ?_ ?_; (focus (first | decide | omega))) | (refine exI (callZ rfl rfl (if_pos ?_)) ?_; (focus ((first | decide | omega | (simp; done) | (simp; omega)); done)))))
        all_goals (try (simp_all [resOf]; done))
      · have e4 : decide ((l.length : Int) > 3000) = true := by simp; omega
        repeat' ((conv => whnf); first | (with_reducible refine condT ?_ ?_; (focus ((first | assumption | decide | (simp; done) | (simp; omega)); done))) | (with_reducible refine condF ?_ ?_; (focus ((first | assumption | decide | (simp; done) | (simp; omega)); done))) | with_reducible refine condB (fun h => ?_) (fun h => ?_) | with_reducible refine exI rfl ?_ | with_reducible refine eqR rfl ?_ | (with_reducible refine exW (wrapN1 ?_) ?_; (focus (omega))) | (with_reducible refine exW (wrapN ?_) ?_; (focus (omega))) | (with_reducible refine exW (wrapB ?_ ?_) ?_; (focus (omega)); (focus (omega))) | with_reducible refine exW rfl ?_ | (with_reducible refine ixJ _ rfl ?_ ?_; (focus ((first | decide | omega | (simp; done) | (simp; omega)); done))) | (with_reducible refine ixJ' _ rfl ?_ ?_; (focus ((first | decide | omega | (simp; done) | (simp; omega)); done))) | (refine ixJ (Int.toNat _) ?_ ?_ ?_; (focus ((first | rfl | decide | omega | (simp; done)); done)); (focus ((first | decide | omega | (simp; done) | (simp; omega)); done))) | (refine ixJ' (Int.toNat _) ?_ ?_ ?_; (focus ((first | rfl | decide | omega | (simp; done)); done)); (focus ((first | decide | omega | (simp; done) | (simp; omega)); done))) | with_reducible refine ixS _ rfl (by assumption) ?_ | (with_reducible refine shlI ?_ ?_; (focus (first | decide | omega))) | (refine exI (callZ rfl rfl (if_pos ?_)) ?_; (focus ((first | decide | omega | (simp; done) | (simp; omega)); done))))
        all_goals (try (simp_all [resOf]; done))
    · have e3 : decide (((s.length + sumM l : Nat) : Int) > 3000) = true := by simp; omega
      repeat' ((conv => whnf); first | (with_reducible refine condT ?_ ?_; (focus ((first | assumption | decide | (simp; done) | (simp; omega)); done))) | (with_reducible refine condF ?_ ?_; (focus ((first | assumption | decide | (simp; done) | (simp; omega)); done))) | with_reducible refine condB (fun h => ?_) (fun h => ?_) | with_reducible refine exI rfl ?_ | with_reducible refine eqR rfl ?_ | (with_reducible refine exW (wrapN1 ?_) ?_; (focus (omega))) | (with_reducible refine exW (wrapN ?_) ?_; (focus (omega))) | (with_reducible refine exW (wrapB ?_ ?_) ?_; (focus (omega)); (focus (omega))) | with_reducible refine exW rfl ?_ | (with_reducible refine ixJ _ rfl ?_ ?_; (focus ((first | decide | omega | (simp; done) | (simp; omega)); done))) | (with_reducible refine ixJ' _ rfl ?_ ?_; (focus ((first | decide | omega | (simp; done) | (simp; omega)); done))) | (refine ixJ (Int.toNat _) ?_ ?_ ?_; (focus ((first | rfl | decide | omega | (simp; done)); done)); (focus ((first | decide | omega | (simp; done) | (simp; omega)); done))) | (refine ixJ' (Int.toNat _) ?_ ?_ ?_; (focus ((first | rfl | decide | omega | (simp; done)); done)); (focus ((first | decide | omega | (simp; done) | (simp; omega)); done))) | with_reducible refine ixS _ rfl (by assumption) ?_ | (with_reducible refine shlI ?_ ?_; (focus (first | decide | omega))) | (refine exI (callZ rfl rfl (if_pos ?_)) ?_; (focus ((first | decide | omega | (simp; done) | (simp; omega)); done))))
      all_goals (try (simp_all [resOf]; done))
def Qf : List (List AV → Prop) := [fun us => ∃ n, us = [.int .i64 n] ∧ (Lit.int .i64 n).wf = true, fun us => ∃ s : List UInt8, us = [.str s] ∧ s.length ≤ maxLen, fun us => ∃ n, us = [.int .i64 n] ∧ (Lit.int .i64 n).wf = true, fun us => ∃ n, us = [.int .i64 n] ∧ (Lit.int .i64 n).wf = true]
def Qs : List (AV → Prop) := [fun u => ∃ s : List UInt8, u = .str s ∧ s.length ≤ maxLen, fun u => ∃ n, u = .int .i64 n ∧ (Lit.int .i64 n).wf = true, fun u => u = .nslice ∨ ∃ l : List (List AV), (∀ u ∈ l, FsQ Qf u ∧ u.length = 4) ∧ u = .rs l.length 4 l.flatten ∧ l.length ≤ maxLen]
theorem fs30 : FsOpens Tryd.prog (match Tryd.prog.underlying 30 with | some (.struct fs) => fs.toList | _ => []) Qf 0 (Tryd.prog.cellsOf 30) := by
  rw [Tryd.underlying30]
  refine ⟨rfl, opens_int Tryd.underlying3, ?_⟩
  refine ⟨by kernel_rfl, opens_str Tryd.underlying9, ?_⟩
  refine ⟨by kernel_rfl, opens_int Tryd.underlying2, ?_⟩
  refine ⟨by kernel_rfl, opens_int Tryd.underlying3, ?_⟩
  unfold FsOpens; kernel_rfl
theorem opens : OpensAll Tryd.prog Tryd.f6.params.toList Qs := by
  rw [Tryd.params6]
  have h := fs30
  rw [Tryd.underlying30] at h
  exact ⟨opensV_str Tryd.underlying9, opensV_int Tryd.underlying3, opensV_slice Tryd.underlying23 (by kernel_rfl) (by decide) (opens_struct Tryd.underlying30 h), trivial⟩
theorem flat_gt : ∀ l : List (List AV), (∀ u ∈ l, FsQ Qf u ∧ u.length = 4) → ∃ m : List GT, l.flatten = gtC m ∧ l.length = m.length
  | [], _ => ⟨[], rfl, rfl⟩
  | u :: l, h => by
    obtain ⟨m, h1, h2⟩ := flat_gt l fun v hv => h v (by simp [hv])
    obtain ⟨⟨a, u1, rfl, ⟨n1, rfl, _⟩, b, u2, rfl, ⟨s1, rfl, _⟩, c, u3, rfl, ⟨n2, rfl, _⟩, d, u4, rfl, ⟨n3, rfl, _⟩, h3⟩, _⟩ := h u (by simp)
    have h3 : u4 = [] := h3
    subst h3
    exact ⟨⟨n1, s1, n2, n3⟩ :: m, by simp only [List.flatten_cons, gtC, h1]; rfl, by simp [h2]⟩
theorem law (us : List AV) (h : AllQ Qs us) : ValOK Tryd.prog runLives.gl 6 us (.bool true) := by
  obtain ⟨_, _, rfl, ⟨s, rfl, hs⟩, h1⟩ := allQ_cons h
  obtain ⟨_, _, rfl, ⟨a, rfl, _⟩, h2⟩ := allQ_cons h1
  obtain ⟨_, _, rfl, hl, h3⟩ := allQ_cons h2
  cases allQ_nil h3
  rcases hl with rfl | ⟨l, hl, rfl, hll⟩
  · exact law_nil s a
  · obtain ⟨m, e1, e2⟩ := flat_gt l hl
    rw [e1, e2]
    exact law_rs s a m
theorem solid : Solid Tryd.prog := lexReadsLaw.solid
end Go.Proofs.YtacaaiiooedgjaaDoor.lexPlacesLaw
end


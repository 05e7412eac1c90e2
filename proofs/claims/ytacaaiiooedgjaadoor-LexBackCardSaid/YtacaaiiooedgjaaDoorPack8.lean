/-
  Texts of this proof, one behind the other (part 8).
-/
import Derived.Test.YtacaaiiooedgjaaDoorPack7

/-
  Of 'cantileverlaw02': lex.Join.
-/
section
set_option linter.unusedVariables false
set_option linter.unusedSimpArgs false
namespace Go.Proofs.YtacaaiiooedgjaaDoor.lex
open Go.Abs Go.RowKit
set_option maxRecDepth 100000
set_option maxHeartbeats 4000000
variable {gl : Glob}

theorem ms_okG {P : Program} {t e : TypeId} {z b : Nat} {u : AV} {H : AHeap} (ht : P.underlying t = some (.slice e)) (hz : tsz P e = some z) (hb : (P.info? e).map (·.bytes) = some b) (hu : tzero P e = some u) (hul : u.cells.length = z) (hz0 : z ≠ 0) (n : Nat)
    (h : n ≤ 1099511627776) (h2 : b * n ≤ 140737488355328) : aMakeSlice P t (.int .i64 n) (.int .i64 n) H = some (.slice H.length 0 n n z, newBlk H (repl n u.cells) e) := by
  cases hi : P.info? e with
  | none => rw [hi] at hb; cases hb
  | some i =>
    rw [hi] at hb
    simp only [Option.map_some, Option.some.injEq] at hb
    have h2' : (b : Int) * (n : Int) ≤ 140737488355328 := by
      have : ((b * n : Nat) : Int) ≤ ((140737488355328 : Nat) : Int) := Int.ofNat_le.2 h2
      simpa using this
    simp only [aMakeSlice, msCore, ht, hz, hi, hb, hu]
    rw [if_pos ⟨by omega, by omega, by omega, h2'⟩]
    try simp only [Int.toNat_natCast]
    by_cases hn : n = 0
    · subst hn; simp [repl, newBlk]
    · have h0 : ¬ (n * z = 0) := fun e => by rcases Nat.mul_eq_zero.1 e with e | e; exact hn e; exact hz0 e
      rw [if_neg h0, if_pos hul]
theorem spl_set : ∀ (cs : List AV) (k : Nat) (v : AV), k < cs.length → spl cs k [v] = some (cs.set k v)
  | c :: cs, 0, v, h => by cases cs <;> rfl
  | c :: cs, k + 1, v, h => by simp only [spl, spl_set cs k v (by simpa using h)]; rfl
theorem sjoin0 : ValOK Tryd.prog gl 26 [.rs 0 1 [], .str [32]] (.str []) := by
  refine fn_valI (fun g => false) 3 follows noNum none_sound Tryd.func26 rfl ?_
  repeat' ((conv => whnf); first | (with_reducible refine condT ?_ ?_; (focus ((first | assumption | decide | (simp; done) | (simp; omega)); done))) | (with_reducible refine condF ?_ ?_; (focus ((first | assumption | decide | (simp; done) | (simp; omega)); done))) | with_reducible refine condB (fun h => ?_) (fun h => ?_) | with_reducible refine exI rfl ?_ | with_reducible refine eqR rfl ?_ | (with_reducible refine exW (wrapN1 ?_) ?_; (focus (omega))) | (with_reducible refine exW (wrapN ?_) ?_; (focus (omega))) | (with_reducible refine exW (wrapB ?_ ?_) ?_; (focus (omega)); (focus (omega))) | with_reducible refine exW rfl ?_ | (with_reducible refine ixJ _ rfl ?_ ?_; (focus ((first | decide | omega | (simp; done) | (simp; omega)); done))) | (with_reducible refine ixJ' _ rfl ?_ ?_; (focus ((first | decide | omega | (simp; done) | (simp; omega)); done))) | (refine ixJ (Int.toNat _) ?_ ?_ ?_; (focus ((first | rfl | decide | omega | (simp; done)); done)); (focus ((first | decide | omega | (simp; done) | (simp; omega)); done))) | (refine ixJ' (Int.toNat _) ?_ ?_ ?_; (focus ((first | rfl | decide | omega | (simp; done)); done)); (focus ((first | decide | omega | (simp; done) | (simp; omega)); done))) | with_reducible refine ixS _ rfl (by assumption) ?_ | (with_reducible refine shlI ?_ ?_; (focus (first | decide | omega))) | (refine exI (callZ rfl rfl (if_pos ?_)) ?_; (focus ((first | decide | omega | (simp; done) | (simp; omega)); done))))
  all_goals rfl
theorem sjoin1 (t : List UInt8) : ValOK Tryd.prog gl 26 [.rs 1 1 [.str t], .str [32]] (.str t) := by
  refine fn_valI (fun g => false) 3 follows noNum none_sound Tryd.func26 rfl ?_
  repeat' ((conv => whnf); first | (with_reducible refine condT ?_ ?_; (focus ((first | assumption | decide | (simp; done) | (simp; omega)); done))) | (with_reducible refine condF ?_ ?_; (focus ((first | assumption | decide | (simp; done) | (simp; omega)); done))) | with_reducible refine condB (fun h => ?_) (fun h => ?_) | with_reducible refine exI rfl ?_ | with_reducible refine eqR rfl ?_ | (with_reducible refine exW (wrapN1 ?_) ?_; (focus (omega))) | (with_reducible refine exW (wrapN ?_) ?_; (focus (omega))) | (with_reducible refine exW (wrapB ?_ ?_) ?_; (focus (omega)); (focus (omega))) | with_reducible refine exW rfl ?_ | (with_reducible refine ixJ _ rfl ?_ ?_; (focus ((first | decide | omega | (simp; done) | (simp; omega)); done))) | (with_reducible refine ixJ' _ rfl ?_ ?_; (focus ((first | decide | omega | (simp; done) | (simp; omega)); done))) | (refine ixJ (Int.toNat _) ?_ ?_ ?_; (focus ((first | rfl | decide | omega | (simp; done)); done)); (focus ((first | decide | omega | (simp; done) | (simp; omega)); done))) | (refine ixJ' (Int.toNat _) ?_ ?_ ?_; (focus ((first | rfl | decide | omega | (simp; done)); done)); (focus ((first | decide | omega | (simp; done) | (simp; omega)); done))) | with_reducible refine ixS _ rfl (by assumption) ?_ | (with_reducible refine shlI ?_ ?_; (focus (first | decide | omega))) | (refine exI (callZ rfl rfl (if_pos ?_)) ?_; (focus ((first | decide | omega | (simp; done) | (simp; omega)); done))))
  all_goals rfl
theorem sjoin (l : List (List UInt8)) (hb : lens l ≤ 1048576) : ValOK Tryd.prog gl 26 [.rs l.length 1 (l.map AV.str), .str [32]] (.str (joinB l)) := by
  match l with
  | [] => exact sjoin0
  | [t] => exact sjoin1 t
  | t :: u :: ts => exact sjoin_ok t u ts hb
theorem m49 (H : AHeap) (n : Nat) (h : n ≤ 1099511627776) : aMakeSlice Tryd.prog 49 (.int .i64 n) (.int .i64 n) H = some (.slice H.length 0 n n 1, newBlk H (repl n [.str []]) 9) := by
  have hz : tsz Tryd.prog 9 = some 1 := by kernel_rfl
  have hb : (Tryd.prog.info? 9).map (·.bytes) = some 16 := by kernel_rfl
  have hu : tzero Tryd.prog 9 = some (.str []) := by kernel_rfl
  exact ms_okG Tryd.underlying49 hz hb hu rfl (by decide) n h (by omega)
def cellsAt (l : List Tk) (i : Nat) : List AV := ((l.take i).map fun t => AV.str t.text) ++ repl (l.length - i) [.str []]
theorem repl_one : ∀ n : Nat, (repl n [AV.str []]).length = n
  | 0 => rfl
  | n + 1 => by simp [repl, repl_one n]
theorem cellsAt_len (l : List Tk) (i : Nat) (h : i ≤ l.length) : (cellsAt l i).length = l.length := by
  simp [cellsAt, repl_one]; omega
theorem cellsAt_set (l : List Tk) (i : Nat) (h : i < l.length) : (cellsAt l i).set i (.str l[i].text) = cellsAt l (i + 1) := by
  have e : l.length - i = (l.length - (i + 1)) + 1 := by omega
  have h1 : ((l.take i).map fun t => AV.str t.text).length = i := by simp; omega
  unfold cellsAt
  rw [e, List.set_append_right _ _ (by omega)]
  rw [h1, Nat.sub_self]
  show _ ++ (AV.str [] :: repl (l.length - (i + 1)) [AV.str []]).set 0 _ = _
  rw [List.take_succ_eq_append_getElem h, List.map_append]
  simp
theorem cellsAt_refs (l : List Tk) (i : Nat) : refsL (cellsAt l i) [] = [] := by
  unfold cellsAt
  have h1 : ∀ n, refsL (repl n [AV.str []]) [] = [] := fun n => by induction n with | zero => rfl | succ n ih => exact ih
  have h2 : ∀ (m : List Tk) (r : List AV), refsL r [] = [] → refsL ((m.map fun t => AV.str t.text) ++ r) [] = [] := fun m r hr => by induction m with | nil => exact hr | cons t m ih => exact ih
  exact h2 _ _ (h1 _)
theorem cellsAt_all (l : List Tk) : cellsAt l l.length = (l.map Tk.text).map AV.str := by
  simp [cellsAt, repl]
theorem strs_lit (l : List (List UInt8)) : (l.map AV.str).all lit = true := by simp [List.all_eq_true, lit]
theorem ljoin_ok (l : List Tk) (hb : lens (l.map Tk.text) ≤ 1048576) : ValOK Tryd.prog gl 13 [.rs l.length 4 (tksC l)] (.str (joinB (l.map Tk.text))) := by
  have hO : OrcSound Tryd.prog gl (orcZ fun f args => match f with
    | 26 => open Classical in if args = [.rs (l.map Tk.text).length 1 ((l.map Tk.text).map AV.str), .str [32]] then some (.str (joinB (l.map Tk.text))) else none
    | _ => none) := orcZ_sound fun f args r h => by
      split at h
      · split at h <;> cases h
        rename_i e; subst e
        exact ⟨rfl, sjoin _ hb⟩
      · cases h
  refine fn_val follows noNum hO Tryd.func13 rfl ?_
  have hl := lens_len (l.map Tk.text)
  rw [List.length_map] at hl
  repeat' ((conv => whnf); first | (refine exI (m49 _ l.length (by omega)) ?_) | (first | (with_reducible refine condT ?_ ?_; (focus ((first | assumption | decide | (simp; done) | (simp; omega)); done))) | (with_reducible refine condF ?_ ?_; (focus ((first | assumption | decide | (simp; done) | (simp; omega)); done))) | with_reducible refine condB (fun h => ?_) (fun h => ?_) | with_reducible refine exI rfl ?_ | with_reducible refine eqR rfl ?_ | (with_reducible refine exW (wrapN1 ?_) ?_; (focus (omega))) | (with_reducible refine exW (wrapN ?_) ?_; (focus (omega))) | (with_reducible refine exW (wrapB ?_ ?_) ?_; (focus (omega)); (focus (omega))) | with_reducible refine exW rfl ?_ | (with_reducible refine ixJ _ rfl ?_ ?_; (focus ((first | decide | omega | (simp; done) | (simp; omega)); done))) | (with_reducible refine ixJ' _ rfl ?_ ?_; (focus ((first | decide | omega | (simp; done) | (simp; omega)); done))) | (refine ixJ (Int.toNat _) ?_ ?_ ?_; (focus ((first | rfl | decide | omega | (simp; done)); done)); (focus ((first | decide | omega | (simp; done) | (simp; omega)); done))) | (refine ixJ' (Int.toNat _) ?_ ?_ ?_; (focus ((first | rfl | decide | omega | (simp; done)); done)); (focus ((first | decide | omega | (simp; done) | (simp; omega)); done))) | with_reducible refine ixS _ rfl (by assumption) ?_ | (with_reducible refine shlI ?_ ?_; (focus (first | decide | omega))) | (refine exI (callZ rfl rfl (if_pos ?_)) ?_; (focus ((first | decide | omega | (simp; done) | (simp; omega)); done)))))
  conv => whnf
  refine ⟨Nat, (fun i => i ≤ l.length), (fun i => [(3, .slice 0 0 l.length l.length 1), (9, .rs l.length 4 (tksC l)), (10, .int .i64 l.length), (11, .int .i64 i)]), (fun i => [⟨true, 0, 0, .cells (cellsAt l i) 9⟩]), (fun i => l.length - i), ⟨0, Nat.zero_le _, FgL.mk [0] rfl ?_ ?_ rfl⟩, ?_⟩
  · refine And.intro (Wk.slice rfl rfl rfl (Nat.le_refl _) (Nat.le_refl _) rfl) ?_
    refine And.intro (Wk.noref rfl) ?_
    refine And.intro (Wk.int rfl) ?_
    exact ⟨Wk.int rfl, trivial⟩
  · refine ⟨⟨rfl, rfl, rfl, rfl, BodyGe.pre (rest := []) ?_ (cellsAt_refs l 0)⟩, trivial⟩
    show repl l.length [AV.str []] = cellsAt l 0 ++ []
    simp [cellsAt]
  intro i hi
  dsimp only
  by_cases hlt : i < l.length
  · have e1 : decide ((i : Int) < (l.length : Int)) = true := by simpa using hlt
    have hx := tk4_ok l i hlt
    have hsp := spl_set (cellsAt l i) (0 + i * 1) (.str l[i].text) (by rw [cellsAt_len l i hi]; omega)
    have hse := cellsAt_set l i hlt
    generalize l[i] = t at *
    repeat' ((conv => whnf); first | (refine exI hx ?_) | (refine exI hsp ?_) | (with_reducible refine ixJ i rfl ?_ ?_; (focus (omega))) | (first | (with_reducible refine condT ?_ ?_; (focus ((first | assumption | decide | (simp; done) | (simp; omega)); done))) | (with_reducible refine condF ?_ ?_; (focus ((first | assumption | decide | (simp; done) | (simp; omega)); done))) | with_reducible refine condB (fun h => ?_) (fun h => ?_) | with_reducible refine exI rfl ?_ | with_reducible refine eqR rfl ?_ | (with_reducible refine exW (wrapN1 ?_) ?_; (focus (omega))) | (with_reducible refine exW (wrapN ?_) ?_; (focus (omega))) | (with_reducible refine exW (wrapB ?_ ?_) ?_; (focus (omega)); (focus (omega))) | with_reducible refine exW rfl ?_ | (with_reducible refine ixJ _ rfl ?_ ?_; (focus ((first | decide | omega | (simp; done) | (simp; omega)); done))) | (with_reducible refine ixJ' _ rfl ?_ ?_; (focus ((first | decide | omega | (simp; done) | (simp; omega)); done))) | (refine ixJ (Int.toNat _) ?_ ?_ ?_; (focus ((first | rfl | decide | omega | (simp; done)); done)); (focus ((first | decide | omega | (simp; done) | (simp; omega)); done))) | (refine ixJ' (Int.toNat _) ?_ ?_ ?_; (focus ((first | rfl | decide | omega | (simp; done)); done)); (focus ((first | decide | omega | (simp; done) | (simp; omega)); done))) | with_reducible refine ixS _ rfl (by assumption) ?_ | (with_reducible refine shlI ?_ ?_; (focus (first | decide | omega))) | (refine exI (callZ rfl rfl (if_pos ?_)) ?_; (focus ((first | decide | omega | (simp; done) | (simp; omega)); done)))))
    conv => whnf
    refine ⟨i + 1, hlt, by show l.length - (i + 1) < l.length - i; omega, FgL.mk [0] rfl ?_ ?_ rfl⟩
    · refine And.intro (Wk.slice rfl rfl rfl (Nat.le_refl _) (Nat.le_refl _) rfl) ?_
      refine And.intro (Wk.noref rfl) ?_
      refine And.intro (Wk.int rfl) ?_
      exact ⟨Wk.int rfl, trivial⟩
    · refine ⟨⟨rfl, rfl, rfl, rfl, BodyGe.pre (rest := []) ?_ (cellsAt_refs l (i + 1))⟩, trivial⟩
      have e : 0 + i * 1 = i := by omega
      show (cellsAt l i).set (0 + i * 1) (.str t.text) = cellsAt l (i + 1) ++ []
      rw [e, hse, List.append_nil]
  · have e1 : decide ((i : Int) < (l.length : Int)) = false := by simpa using hlt
    have hi2 : i = l.length := by have := hi; omega
    subst hi2
    rw [cellsAt_all]
    have hb26 : hasBody Tryd.prog 26 = true := by kernel_rfl
    have hfr : frzL (frz [⟨true, 0, 0, .cells ((l.map Tk.text).map AV.str) 9⟩] 30) [.slice 0 0 l.length l.length 1, .str [32]] = some [.rs (l.map Tk.text).length 1 ((l.map Tk.text).map AV.str), .str [32]] := by
      have h1 : frz [⟨true, 0, 0, .cells ((l.map Tk.text).map AV.str) 9⟩] 30 (.slice 0 0 l.length l.length 1) = some (.rs l.length 1 ((l.map Tk.text).map AV.str)) := frz_slice (n := 28) rfl (by simp) (strs_lit _)
      simp only [frzL, h1, List.length_map]
      rfl
    repeat' ((conv => whnf); first | (refine exI (callZ hb26 hfr (if_pos rfl)) ?_) | (first | (with_reducible refine condT ?_ ?_; (focus ((first | assumption | decide | (simp; done) | (simp; omega)); done))) | (with_reducible refine condF ?_ ?_; (focus ((first | assumption | decide | (simp; done) | (simp; omega)); done))) | with_reducible refine condB (fun h => ?_) (fun h => ?_) | with_reducible refine exI rfl ?_ | with_reducible refine eqR rfl ?_ | (with_reducible refine exW (wrapN1 ?_) ?_; (focus (omega))) | (with_reducible refine exW (wrapN ?_) ?_; (focus (omega))) | (with_reducible refine exW (wrapB ?_ ?_) ?_; (focus (omega)); (focus (omega))) | with_reducible refine exW rfl ?_ | (with_reducible refine ixJ _ rfl ?_ ?_; (focus ((first | decide | omega | (simp; done) | (simp; omega)); done))) | (with_reducible refine ixJ' _ rfl ?_ ?_; (focus ((first | decide | omega | (simp; done) | (simp; omega)); done))) | (refine ixJ (Int.toNat _) ?_ ?_ ?_; (focus ((first | rfl | decide | omega | (simp; done)); done)); (focus ((first | decide | omega | (simp; done) | (simp; omega)); done))) | (refine ixJ' (Int.toNat _) ?_ ?_ ?_; (focus ((first | rfl | decide | omega | (simp; done)); done)); (focus ((first | decide | omega | (simp; done) | (simp; omega)); done))) | with_reducible refine ixS _ rfl (by assumption) ?_ | (with_reducible refine shlI ?_ ?_; (focus (first | decide | omega))) | (refine exI (callZ rfl rfl (if_pos ?_)) ?_; (focus ((first | decide | omega | (simp; done) | (simp; omega)); done)))))
    all_goals rfl
end Go.Proofs.YtacaaiiooedgjaaDoor.lex
end

/-
  Of 'cantileverlaw02': tokens put together with blanks are read as what they were.
-/
section
set_option linter.unusedVariables false
set_option linter.unusedSimpArgs false
namespace Go.Proofs.YtacaaiiooedgjaaDoor.lex
open Go.Abs Go.RowKit

/-! tokens put together with blanks -/
theorem spanN_take {p : Int → Bool} : ∀ (u : List UInt8), spanN p (u.take (spanN p u)) = spanN p u
  | [] => rfl
  | c :: u => by
    cases hc : p c.toNat with
    | true => rw [spanN_true _ hc, List.take_succ_cons, spanN_true _ hc, spanN_take u]
    | false => rw [spanN_false _ hc]; rfl
theorem take_ne {u : List UInt8} {n : Nat} (h : 0 < n) (hn : n ≤ u.length) : ∃ c v, u.take n = c :: v ∧ ∃ w, u = c :: w := by
  cases u with
  | nil => simp at hn; omega
  | cons c u => cases n with | zero => omega | succ n => exact ⟨c, u.take n, rfl, u, rfl⟩
theorem letD (n : Int) : letB n = true → digB n = false := by
  intro h
  simp only [letB, digB, Bool.or_eq_true, Bool.and_eq_true, decide_eq_true_eq, Bool.and_eq_false_iff, decide_eq_false_iff_not] at *; omega
theorem digS {c : UInt8} (h : digB c.toNat = true) (t : List UInt8) : signN (c :: t) = 0 := by
  have hc : 48 ≤ c.toNat ∧ c.toNat ≤ 57 := by simp [digB] at h; omega
  have ne : ∀ d : UInt8, (d.toNat < 48 ∨ 57 < d.toNat) → c ≠ d := fun d hd e => by subst e; omega
  have hm : [124,38,61,33,60,43,45,42,94,40,41,123,125,44,59].contains c = false := by
    rw [Bool.eq_false_iff]
    intro hc
    rw [List.contains_iff_mem] at hc
    simp only [List.mem_cons, List.not_mem_nil, or_false] at hc
    rcases hc with h | h | h | h | h | h | h | h | h | h | h | h | h | h | h <;> exact ne _ (by decide) h
  match t with
  | [] => simp only [signN]; rw [hm]; rfl
  | d :: t =>
    simp only [signN]
    rw [if_neg (by
      rintro (⟨_, h | h | h⟩ | ⟨_, h | h⟩) <;> exact ne _ (by decide) h), hm]; rfl
theorem numN_zero {s : List UInt8} (h : (numN s).1 = 0) : numN s = (0, 0) := by
  rw [numN_eq] at h ⊢
  split
  · rfl
  · rename_i hn
    rw [if_neg hn] at h
    exact absurd (.inl h) hn
theorem sign_head {c : UInt8} {t : List UInt8} (h : 0 < signN (c :: t)) : [124,38,61,33,60,43,45,42,94,40,41,123,125,44,59].contains c = true := by
  match t with
  | [] => simp only [signN] at h; split at h; assumption; omega
  | d :: t =>
    simp only [signN] at h
    split at h
    · rename_i h1
      rcases h1 with ⟨_, rfl | rfl | rfl⟩ | ⟨_, rfl | rfl⟩ <;> decide
    · split at h; assumption; omega
theorem sign_take {u : List UInt8} (h : 0 < signN u) : signN (u.take (signN u)) = signN u := by
  match u with
  | [] => simp [signN] at h
  | [c] =>
    have hc := sign_head h
    have e : signN [c] = 1 := by simp only [signN]; rw [if_pos hc]
    rw [e]; exact e
  | c :: d :: t =>
    by_cases h1 : (d = c ∧ (c = 124 ∨ c = 38 ∨ c = 61)) ∨ (d = 61 ∧ (c = 33 ∨ c = 60))
    · have e : signN (c :: d :: t) = 2 := by simp only [signN]; rw [if_pos h1]
      rw [e]; show signN [c, d] = 2; simp only [signN]; rw [if_pos h1]
    · have hc := sign_head h
      have e : signN (c :: d :: t) = 1 := by simp only [signN]; rw [if_neg h1, if_pos hc]
      rw [e]; show signN [c] = 1; simp only [signN]; rw [if_pos hc]
theorem numN_head {c : UInt8} {t : List UInt8} (h : digB c.toNat = false) : (numN (c :: t)).1 = 0 := by
  rw [numN_eq, if_pos]; exact .inl (spanN_false _ h)
theorem numN_dig {c : UInt8} {t : List UInt8} (h : 0 < (numN (c :: t)).1) : digB c.toNat = true := by
  cases hd : digB c.toNat with
  | true => rfl
  | false => rw [numN_head hd] at h; omega
/-- A token is read again from its text alone; its first byte is no blank, no stroke. -/
theorem tok1_take {u : List UInt8} {kd len num : Nat} (h : tok1 u = some (kd, len, num)) : tok1 (u.take len) = some (kd, len, num) ∧ ∃ c v, u.take len = c :: v ∧ blaB c.toNat = false ∧ c ≠ 47 := by
  have hl := tok1_len h
  obtain ⟨c, v, e1, w, rfl⟩ := take_ne hl.1 hl.2
  unfold tok1 at h
  split at h
  · rename_i hw
    cases h
    have hlet : letB c.toNat = true := by
      simp only [wordN] at hw; split at hw; assumption; omega
    have hwn : wordN (c :: w) = spanN worB (c :: w) := by simp only [wordN]; rw [if_pos hlet]
    have e2 : wordN ((c :: w).take (wordN (c :: w))) = wordN (c :: w) := by
      rw [e1]; simp only [wordN]; rw [if_pos hlet, ← e1, hwn, spanN_take]; simp only [hlet, if_true]
    refine ⟨?_, c, v, e1, ?_, ?_⟩
    · unfold tok1; rw [e2, if_pos hw, List.take_take, Nat.min_self]
    · simp only [letB, blaB, Bool.or_eq_true, Bool.and_eq_true, decide_eq_true_eq, Bool.or_eq_false_iff, beq_eq_false_iff_ne] at *; omega
    · rintro rfl; revert hlet; decide
  · rename_i hw
    split at h
    · rename_i hn
      cases h
      have hd := numN_dig hn
      have hnl : letB c.toNat = false := by cases e : letB c.toNat with | false => rfl | true => have := letD _ e; rw [hd] at this; cases this
      have e0 : numN (c :: w) = (spanN digB (c :: w), valN ((c :: w).take (spanN digB (c :: w)))) := by
        rw [numN_eq] at hn ⊢; split at hn; simp at hn; rename_i hq; rw [if_neg hq]
      have hq : ¬ (spanN digB (c :: w) = 0 ∨ (1 < spanN digB (c :: w) ∧ (c :: w).head? = some 48) ∨ tailB (c :: w) (spanN digB (c :: w)) = true ∨ ¬ valN ((c :: w).take (spanN digB (c :: w))) < 9223372036854775808) := by
        intro hq; rw [numN_eq, if_pos hq] at hn; simp at hn
      rw [e0] at hn e1 hl ⊢
      simp only at hn e1 hl ⊢
      generalize hm : spanN digB (c :: w) = m at *
      have hlen : ((c :: w).take m).length = m := by rw [List.length_take]; omega
      have hsp : spanN digB ((c :: w).take m) = m := by rw [← hm]; exact spanN_take _
      have e2 : numN ((c :: w).take m) = (m, valN ((c :: w).take m)) := by
        rw [numN_eq, hsp, if_neg, List.take_take, Nat.min_self]
        rintro (h | h | h | h)
        · omega
        · refine hq (.inr (.inl ⟨h.1, ?_⟩)); rw [e1] at h; exact h.2
        · unfold tailB at h; rw [List.getElem?_eq_none (by omega)] at h; cases h
        · rw [List.take_take, Nat.min_self] at h; exact hq (.inr (.inr (.inr h)))
      refine ⟨?_, c, v, e1, ?_, ?_⟩
      · unfold tok1
        rw [if_neg (by rw [e1]; simp only [wordN, hnl]; simp), e2, if_pos hn]
      · simp only [digB, blaB, Bool.and_eq_true, decide_eq_true_eq, Bool.or_eq_false_iff, beq_eq_false_iff_ne] at *; omega
      · rintro rfl; revert hd; decide
    · rename_i hn
      split at h
      · rename_i hs
        cases h
        have hc := sign_head hs
        have hnd : digB c.toNat = false := by
          cases e : digB c.toNat with
          | false => rfl
          | true => have := digS e w; omega
        have hnl : letB c.toNat = false := by
          cases e : letB c.toNat with
          | false => rfl
          | true =>
            exfalso
            have : 0 < wordN (c :: w) := by simp only [wordN]; rw [if_pos e, spanN_true _ (by simp [worB, e])]; omega
            exact hw this
        refine ⟨?_, c, v, e1, ?_, ?_⟩
        · unfold tok1
          rw [if_neg (by rw [e1]; simp only [wordN, hnl]; simp), if_neg (by rw [e1, numN_head hnd]; omega), sign_take hs, if_pos hs]
        · rw [List.contains_iff_mem] at hc
          simp only [List.mem_cons, List.not_mem_nil, or_false] at hc
          rcases hc with h | h | h | h | h | h | h | h | h | h | h | h | h | h | h <;> (subst h; decide)
        · rintro rfl; revert hc; decide
      · cases h

/-- A token as the lexer finds it. -/
def TkOK (t : Tk) : Prop := tok1 t.text = some (t.kind, t.text.length, t.num) ∧ ∃ c v, t.text = c :: v ∧ blaB c.toNat = false ∧ c ≠ 47
theorem lexF_ok : ∀ (n pos : Nat) (s : List UInt8) (l : List Tk), lexF n pos s = .inr l → ∀ t ∈ l, TkOK t
  | 0, _, _, l, h, t, ht => by cases h; cases ht
  | n + 1, pos, s, l, h, t, ht => by
    rw [lexF] at h
    split at h
    · cases h; cases ht
    · cases hk : tok1 s with
      | none => rw [hk] at h; cases h
      | some p =>
        obtain ⟨kd, len, num⟩ := p
        rw [hk] at h
        simp only at h
        cases hr : lexF n (pos + len + skip false (s.drop len)) (s.drop (len + skip false (s.drop len))) with
        | inl e => rw [hr] at h; cases h
        | inr m =>
          rw [hr] at h; cases h
          rcases List.mem_cons.1 ht with rfl | ht
          · have hl := tok1_len hk
            have h2 := tok1_take hk
            have e : (s.take len).length = len := by rw [List.length_take]; omega
            exact ⟨by rw [e]; exact h2.1, h2.2⟩
          · exact lexF_ok _ _ _ _ hr t ht
def joinW : List Tk → List UInt8
  | [] => []
  | t :: l => t.text ++ 32 :: joinW l
def repos : Nat → List Tk → List Tk
  | _, [] => []
  | k, t :: l => { t with pos := k } :: repos (k + t.text.length + 1) l
theorem repos_up (d : Nat) : ∀ (k : Nat) (l : List Tk), (repos k l).map (Tk.up d) = repos (k + d) l
  | _, [] => rfl
  | k, t :: l => by
    simp only [repos, List.map_cons, repos_up d]
    have e : k + t.text.length + 1 + d = k + d + t.text.length + 1 := by omega
    rw [e]; rfl
theorem lexJoin : ∀ (l : List Tk), (∀ t ∈ l, TkOK t) → lexN (joinW l) = .inr (repos 0 l)
  | [], _ => rfl
  | t :: l, h => by
    obtain ⟨h1, c, v, h2, h3, h4⟩ := h t (by simp)
    have ih := lexJoin l fun t ht => h t (by simp [ht])
    have hs : skip false (t.text ++ 32 :: joinW l) = 0 := by
      rw [h2]; simp only [List.cons_append, skip, h3]
      rw [if_neg (by decide), if_neg (fun hq => h4 hq.1)]
    have hne : t.text ≠ [] := by rw [h2]; simp
    have hlen : 0 < t.text.length := List.length_pos_iff.2 hne
    unfold lexN at ih ⊢
    simp only [joinW]
    rw [hs]
    simp only [List.drop_zero]
    rw [lexF, if_neg (by simp), tok1_app _ ends32 hne, h1]
    simp only
    have e1 : (t.text ++ 32 :: joinW l).drop t.text.length = 32 :: joinW l := List.drop_left
    have e2 : skip false (32 :: joinW l) = skip false (joinW l) + 1 := by simp only [skip]; rw [if_pos (by decide)]
    have e3 : (t.text ++ 32 :: joinW l).drop (t.text.length + (skip false (joinW l) + 1)) = (joinW l).drop (skip false (joinW l)) := by
      rw [← List.drop_drop, e1, List.drop_succ_cons]
    have e4 : 0 + t.text.length + (skip false (joinW l) + 1) = skip false (joinW l) + (t.text.length + 1) := by omega
    have e5 : (t.text ++ 32 :: joinW l).take t.text.length = t.text := List.take_left
    rw [e1, e2, e3, e4, e5, lexF_up, lexF_fuel _ ((joinW l).length + 1) _ _ (by simp; omega) (by simp; omega), ih]
    simp only [upR, repos_up]
    simp only [repos, Nat.zero_add]
/-- The gaps between tokens. -/
theorem lexF_gaps : ∀ (n k : Nat) (s : List UInt8) (l : List Tk) (at_ : Nat), at_ ≤ s.length → s.length < at_ + n → lexF n (at_ + skip false (s.drop at_)) (s.drop (at_ + skip false (s.drop at_))) = .inr l →
    match l with
    | [] => at_ + skip false (s.drop at_) = s.length
    | t :: l' => t.pos = at_ + skip false (s.drop at_) ∧ t.pos + t.text.length ≤ s.length ∧ (s.drop t.pos).take t.text.length = t.text ∧ 0 < t.text.length ∧ lexF (n - 1) (t.pos + t.text.length + skip false (s.drop (t.pos + t.text.length))) (s.drop (t.pos + t.text.length + skip false (s.drop (t.pos + t.text.length)))) = .inr l'
  | 0, k, s, l, a, h1, h2, h => by omega
  | n + 1, k, s, l, a, h1, h2, h => by
    have hle := skip_le false (s.drop a)
    rw [List.length_drop] at hle
    rw [lexF] at h
    split at h
    · rename_i he
      cases h
      have := congrArg List.length he
      simp at this
      show a + skip false (s.drop a) = s.length
      omega
    · rename_i hne
      cases hk : tok1 (s.drop (a + skip false (s.drop a))) with
      | none => rw [hk] at h; cases h
      | some p =>
        obtain ⟨kd, len, num⟩ := p
        rw [hk] at h
        have hl := tok1_len hk
        rw [List.length_drop] at hl
        generalize a + skip false (s.drop a) = k at *
        simp only [List.drop_drop] at h
        rw [← Nat.add_assoc] at h
        have e : ((s.drop k).take len).length = len := by rw [List.length_take, List.length_drop]; omega
        cases hr : lexF n (k + len + skip false (s.drop (k + len))) (s.drop (k + len + skip false (s.drop (k + len)))) with
        | inl e => rw [hr] at h; cases h
        | inr m =>
          rw [hr] at h; cases h
          exact ⟨rfl, by simp only [e]; omega, by simp only [e], by simp only [e]; omega, by simp only [e]; exact hr⟩
end Go.Proofs.YtacaaiiooedgjaaDoor.lex
end

/-
  Of 'cantileverlaw02': LexBack.
-/
section
set_option linter.unusedVariables false
set_option linter.unusedSimpArgs false
namespace Go.Proofs.YtacaaiiooedgjaaDoor.lexBackLaw
open Go.Abs Go.RowKit lex lexReadsLaw lexGlueLaw
set_option maxRecDepth 100000
set_option maxHeartbeats 4000000

theorem joinB_W : ∀ l : List Tk, joinB (l.map Tk.text ++ [[]]) = joinW l
  | [] => rfl
  | [t] => rfl
  | t :: u :: l => by
    have ih := joinB_W (u :: l)
    show t.text ++ 32 :: joinB ((u :: l).map Tk.text ++ [[]]) = _
    rw [ih]; rfl
theorem lens_app : ∀ (a b : List (List UInt8)), lens (a ++ b) = lens a + lens b
  | [], b => by simp [lens]
  | t :: a, b => by simp only [List.cons_append, lens, lens_app a b]; omega
theorem lexF_lens : ∀ (n k : Nat) (s : List UInt8) (l : List Tk), lexF n k s = .inr l → lens (l.map Tk.text) ≤ 2 * s.length
  | 0, _, _, l, h => by cases h; exact Nat.zero_le _
  | n + 1, k, s, l, h => by
    rw [lexF] at h
    split at h
    · cases h; exact Nat.zero_le _
    · cases hk : tok1 s with
      | none => rw [hk] at h; cases h
      | some p =>
        obtain ⟨kd, len, num⟩ := p
        rw [hk] at h
        have hl := tok1_len hk
        simp only at h
        split at h
        · cases h
        · rename_i l' hr; cases h
          have ih := lexF_lens _ _ _ _ hr
          have e : (s.take len).length = len := by rw [List.length_take]; omega
          rw [List.length_drop] at ih
          simp only [List.map_cons, lens, e]; omega
theorem joinB_len : ∀ l : List (List UInt8), (joinB l).length ≤ lens l
  | [] => Nat.le_refl _
  | t :: l => by
    have := tailJ_len l
    rw [joinB_tail, List.length_append, lens]; omega
theorem repos_len : ∀ (k : Nat) (l : List Tk), (repos k l).length = l.length
  | _, [] => rfl
  | k, t :: l => by simp [repos, repos_len]
theorem repos_get : ∀ (k : Nat) (l : List Tk) (i : Nat) (h : i < l.length), ∃ p, (repos k l)[i]? = some { l[i] with pos := p }
  | k, t :: l, 0, h => ⟨k, rfl⟩
  | k, t :: l, i + 1, h => by
    obtain ⟨p, hp⟩ := repos_get (k + t.text.length + 1) l i (by simpa using h)
    exact ⟨p, by simpa [repos] using hp⟩

section
variable (s : List UInt8) (l : List Tk)
def endT (n : Nat) : Tk := ⟨5, [], 0, n⟩
/-- Where the rounds stand. -/
def Inv (i a : Nat) : Prop := (i ≤ l.length ∧ a ≤ s.length ∧ ∃ n, s.length < a + n ∧ lexF n (a + skip false (s.drop a)) (s.drop (a + skip false (s.drop a))) = .inr (l.drop i)) ∨ (i = l.length + 1 ∧ a ≤ s.length)
theorem inv_step {i a : Nat} (h : Inv s l i a) (hi : i < l.length + 1) : ∃ t u : Tk, (l ++ [endT s.length])[i]? = some t ∧ (repos 0 l ++ [endT (joinW l).length])[i]? = some { t with pos := u.pos } ∧
    t.pos = a + skip false (s.drop a) ∧ t.pos + t.text.length ≤ s.length ∧ (s.drop t.pos).take t.text.length = t.text ∧ Inv s l (i + 1) (t.pos + t.text.length) := by
  rcases h with ⟨h1, h2, n, h3, h4⟩ | ⟨h1, _⟩
  · have hg := lexF_gaps n 0 s (l.drop i) a h2 h3 h4
    by_cases hl : i < l.length
    · have hd : l.drop i = l[i] :: l.drop (i + 1) := List.drop_eq_getElem_cons hl
      rw [hd] at hg
      obtain ⟨p, hp⟩ := repos_get 0 l i hl
      obtain ⟨g1, g2, g3, g4, g5⟩ := hg
      refine ⟨l[i], ⟨0, [], 0, p⟩, ?_, ?_, g1, g2, g3, .inl ⟨hl, g2, n - 1, by omega, g5⟩⟩
      · rw [List.getElem?_append_left hl]; simp [hl]
      · rw [List.getElem?_append_left (by rw [repos_len]; exact hl)]; exact hp
    · have hi2 : i = l.length := by omega
      subst hi2
      rw [List.drop_length] at hg
      refine ⟨endT s.length, endT (joinW l).length, ?_, ?_, hg.symm, Nat.le_refl _, ?_, .inr ⟨rfl, Nat.le_refl _⟩⟩
      · simp
      · have e : (repos 0 l).length = l.length := repos_len 0 l
        rw [List.getElem?_append_right (by omega), e, Nat.sub_self]; rfl
      · show (s.drop s.length).take 0 = []; simp
  · omega
end
theorem tkf {X : List AV} {a b c d : AV} (h : tk 4 X = some [a, b, c, d]) : tk 1 (X.drop 0) = some [a] ∧ tk 1 (X.drop 1) = some [b] ∧ tk 1 (X.drop 3) = some [d] := by
  obtain ⟨h1, h2⟩ := tk_some h
  match X, h1, h2 with
  | x1 :: x2 :: x3 :: x4 :: X, _, h2 => simp at h2; obtain ⟨rfl, rfl, rfl, rfl⟩ := h2; exact ⟨rfl, rfl, rfl⟩
/-- One step through a gap. -/
theorem gap_step {s : List UInt8} {a P : Nat} {st : Bool} (ha : a < s.length) (hP : a + skip st (s.drop a) = P) (hlt : a < P) :
    (st = true ∧ s[a] = 10 ∧ a + 1 + skip false (s.drop (a + 1)) = P) ∨ (st = true ∧ s[a] ≠ 10 ∧ a + 1 + skip true (s.drop (a + 1)) = P) ∨
    (st = false ∧ blaB s[a].toNat = true ∧ s[a] ≠ 47 ∧ a + 1 + skip false (s.drop (a + 1)) = P) ∨ (st = false ∧ s[a] = 47 ∧ ∃ h : a + 1 < s.length, s[a + 1] = 47 ∧ a + 1 + skip true (s.drop (a + 1)) = P) := by
  rw [List.drop_eq_getElem_cons ha] at hP
  cases st with
  | true =>
    simp only [skip] at hP
    by_cases h : s[a] = 10
    · rw [if_pos h] at hP; exact .inl ⟨rfl, h, by omega⟩
    · rw [if_neg h] at hP; exact .inr (.inl ⟨rfl, h, by omega⟩)
  | false =>
    simp only [skip] at hP
    by_cases h : blaB s[a].toNat = true
    · rw [if_pos h] at hP
      refine .inr (.inr (.inl ⟨rfl, h, ?_, by omega⟩))
      intro e; rw [e] at h; revert h; decide
    · rw [if_neg h] at hP
      by_cases h2 : s[a] = 47 ∧ (s.drop (a + 1)).head? = some 47
      · rw [if_pos h2] at hP
        have h3 := h2.2
        rw [List.head?_drop] at h3
        obtain ⟨h4, h5⟩ := List.getElem?_eq_some_iff.1 h3
        exact .inr (.inr (.inr ⟨rfl, h2.1, h4, h5, by omega⟩))
      · rw [if_neg h2] at hP; omega
def lexS (s : List UInt8) : List (Nat × List AV × AV) := [(7, [], .bool true), (8, [.str s], resX s.length (lexN s))]
theorem law_ok (s : List UInt8) (hs : s.length ≤ 3000) : ValOK Tryd.prog runLives.gl 5 [.str s] (.bool true) := by
  have e1 : decide ((s.length : Int) > 3000) = false := by simp; omega
  have hA := all_ok' s (by omega)
  cases hx : lexN s with
  | inl e =>
    rw [hx] at hA
    have hO := orcF_sound (P := Tryd.prog) (gl := runLives.gl) (l := [(7, [], .bool true), (8, [.str s], resX s.length (.inl e))]) ⟨rfl, lives_ok, rfl, hA, trivial⟩
    have q7 : ∀ H, acall Tryd.prog (orcF [(7, [], .bool true), (8, [.str s], resX s.length (.inl e))]) H 7 [] = some (.bool true, H) := fun H => callF b7 findF_here
    have q8 : ∀ H, acall Tryd.prog (orcF [(7, [], .bool true), (8, [.str s], resX s.length (.inl e))]) H 8 [.str s] = some (.tuple [.nslice, .agg [.int .i64 4, .int .i64 e]], H) := fun H => callF b8 (findF_next rfl findF_here)
    generalize [(7, ([] : List AV), AV.bool true), (8, [.str s], resX s.length (.inl e))] = L at *
    refine fn_val follows noNum hO Tryd.func5 rfl ?_
    repeat' ((conv => whnf); first | (with_reducible refine exI (q7 _) ?_) | (with_reducible refine exI (q8 _) ?_) | (refine exI (agg26 _ _ _ _) ?_) | (first | (with_reducible refine condT ?_ ?_; (focus ((first | assumption | decide | (simp; done) | (simp; omega)); done))) | (with_reducible refine condF ?_ ?_; (focus ((first | assumption | decide | (simp; done) | (simp; omega)); done))) | with_reducible refine condB (fun h => ?_) (fun h => ?_) | with_reducible refine exI rfl ?_ | with_reducible refine eqR rfl ?_ | (with_reducible refine exW (wrapN1 ?_) ?_; (focus (omega))) | (with_reducible refine exW (wrapN ?_) ?_; (focus (omega))) | (with_reducible refine exW (wrapB ?_ ?_) ?_; (focus (omega)); (focus (omega))) | with_reducible refine exW rfl ?_ | (with_reducible refine ixJ _ rfl ?_ ?_; (focus ((first | decide | omega | (simp; done) | (simp; omega)); done))) | (with_reducible refine ixJ' _ rfl ?_ ?_; (focus ((first | decide | omega | (simp; done) | (simp; omega)); done))) | (refine ixJ (Int.toNat _) ?_ ?_ ?_; (focus ((first | rfl | decide | omega | (simp; done)); done)); (focus ((first | decide | omega | (simp; done) | (simp; omega)); done))) | (refine ixJ' (Int.toNat _) ?_ ?_ ?_; (focus ((first | rfl | decide | omega | (simp; done)); done)); (focus ((first | decide | omega | (simp; done) | (simp; omega)); done))) | with_reducible refine ixS _ rfl (by assumption) ?_ | (with_reducible refine shlI ?_ ?_; (focus (first | decide | omega))) | (refine exI (callZ rfl rfl (if_pos ?_)) ?_; (focus ((first | decide | omega | (simp; done) | (simp; omega)); done)))))
    all_goals (try (simp_all [resOf]; done))
  | inr l =>
    rw [hx] at hA
    have hln := lexF_len _ _ _ _ (show lexF (s.length + 1) (skip false s) (s.drop (skip false s)) = .inr l from hx)
    have hll := lexF_lens _ _ _ _ (show lexF (s.length + 1) (skip false s) (s.drop (skip false s)) = .inr l from hx)
    rw [List.length_drop] at hll
    have hte : (l ++ [endT s.length]).map Tk.text = l.map Tk.text ++ [[]] := by simp [endT]
    have hlb : lens ((l ++ [endT s.length]).map Tk.text) ≤ 6001 := by rw [hte, lens_app]; simp only [lens, List.length_nil]; omega
    have hJ := ljoin_ok (gl := runLives.gl) (l ++ [endT s.length]) (by omega)
    have hjl := joinB_len ((l ++ [endT s.length]).map Tk.text)
    rw [hte, joinB_W] at hJ hjl
    rw [len_snoc] at hJ
    rw [← hte] at hjl
    have hB := all_ok' (joinW l) (by omega)
    rw [lexJoin l (lexF_ok _ _ _ _ (show lexF (s.length + 1) (skip false s) (s.drop (skip false s)) = .inr l from hx))] at hB
    simp only [resX, repos_len] at hA hB
    have hI0 : Inv s l 0 0 := .inl ⟨Nat.zero_le _, Nat.zero_le _, s.length + 1, by omega, by simp only [Nat.zero_add, List.drop_zero]; exact hx⟩
    have hEq : s = joinW l → l ++ [(⟨5, [], 0, s.length⟩ : Tk)] = repos 0 l ++ [⟨5, [], 0, (joinW l).length⟩] := fun e => by
      have h2 := lexJoin l (lexF_ok _ _ _ _ (show lexF (s.length + 1) (skip false s) (s.drop (skip false s)) = .inr l from hx))
      rw [← e, hx] at h2
      have h3 : l = repos 0 l := by injection h2
      rw [← h3, ← e]
    generalize hM : repos 0 l ++ [⟨5, [], 0, (joinW l).length⟩] = M at *
    generalize hjn : joinW l = j at *
    have hstep : ∀ i a, Inv s l i a → i < l.length + 1 → ∃ t u : Tk, (l ++ [endT s.length])[i]? = some t ∧ M[i]? = some { t with pos := u.pos } ∧
        t.pos = a + skip false (s.drop a) ∧ t.pos + t.text.length ≤ s.length ∧ (s.drop t.pos).take t.text.length = t.text ∧ Inv s l (i + 1) (t.pos + t.text.length) := fun i a h1 h2 => by
      have := inv_step s l h1 h2
      rw [hjn] at this
      have hM' : repos 0 l ++ [endT j.length] = M := hM
      rw [hM'] at this
      exact this
    have hMl : M.length = l.length + 1 := by rw [← hM]; simp [repos_len]
    have hO := orcF_sound (P := Tryd.prog) (gl := runLives.gl) (l := [(7, [], .bool true), (8, [.str s], .tuple [.rs (l.length + 1) 4 (tksC (l ++ [endT s.length])), .agg [.int .i64 0, .int .i64 0]]), (13, [.rs (l.length + 1) 4 (tksC (l ++ [endT s.length]))], .str j),
      (8, [.str j], .tuple [.rs (l.length + 1) 4 (tksC M), .agg [.int .i64 0, .int .i64 0]])]) ⟨rfl, lives_ok, rfl, hA, rfl, hJ, rfl, hB, trivial⟩
    have b13 : hasBody Tryd.prog 13 = true := by kernel_rfl
    generalize hLL : [(7, ([] : List AV), AV.bool true), (8, [.str s], .tuple [.rs (l.length + 1) 4 (tksC (l ++ [endT s.length])), .agg [.int .i64 0, .int .i64 0]]), (13, [.rs (l.length + 1) 4 (tksC (l ++ [endT s.length]))], .str j),
      (8, [.str j], .tuple [.rs (l.length + 1) 4 (tksC M), .agg [.int .i64 0, .int .i64 0]])] = L at *
    have q7 : ∀ H, acall Tryd.prog (orcF L) H 7 [] = some (.bool true, H) := fun H => by subst hLL; exact callF b7 findF_here
    have q8 : ∀ H, acall Tryd.prog (orcF L) H 8 [.str s] = some (.tuple [.rs (l.length + 1) 4 (tksC (l ++ [endT s.length])), .agg [.int .i64 0, .int .i64 0]], H) := fun H => by
      subst hLL; exact callF b8 (findF_next rfl findF_here)
    have q13 : ∀ H, acall Tryd.prog (orcF L) H 13 [.rs (l.length + 1) 4 (tksC (l ++ [endT s.length]))] = some (.str j, H) := fun H => by
      subst hLL; exact callF b13 (findF_next rfl (findF_next rfl findF_here))
    have q8b : ∀ H, acall Tryd.prog (orcF L) H 8 [.str j] = some (.tuple [.rs (l.length + 1) 4 (tksC M), .agg [.int .i64 0, .int .i64 0]], H) := fun H => by
      subst hLL; exact callF b8 (findF_next rfl (findF_fn (fun h => by have := hEq (str_inj h); show AV.tuple [.rs (l.length + 1) 4 (tksC (l ++ [(⟨5, [], 0, s.length⟩ : Tk)])), _] = _; rw [this]) (findF_next rfl findF_here)))
    clear hLL hEq hM hx hA hB hJ hjn hte hlb hjl
    have xe := tk4_ok (l ++ [endT s.length]) l.length (by simp)
    rw [List.getElem_append_right (Nat.le_refl _)] at xe
    simp only [Nat.sub_self, List.getElem_cons_zero] at xe
    have xe0 := (tkf xe).1
    have xe3 := (tkf xe).2.2
    have d6 : (((endT s.length).kind : Int) != 5) = false := by simp [endT]
    have d7 : (((endT s.length).pos : Int) != (s.length : Int)) = false := by simp [endT]
    refine fn_val follows noNum hO Tryd.func5 rfl ?_
    repeat' ((conv => whnf); first | (with_reducible refine exI (q7 _) ?_) | (with_reducible refine exI (q8 _) ?_) | (with_reducible refine exI (q13 _) ?_) | (with_reducible refine exI (q8b _) ?_) | (refine exI xe0 ?_) | (refine exI xe3 ?_) | (with_reducible refine ixJ l.length (by omega) (by omega) ?_) | (refine exI (agg26 _ _ _ _) ?_) | (first | (with_reducible refine condT ?_ ?_; (focus ((first | assumption | decide | (simp; done) | (simp; omega)); done))) | (with_reducible refine condF ?_ ?_; (focus ((first | assumption | decide | (simp; done) | (simp; omega)); done))) | with_reducible refine condB (fun h => ?_) (fun h => ?_) | with_reducible refine exI rfl ?_ | with_reducible refine eqR rfl ?_ | (with_reducible refine exW (wrapN1 ?_) ?_; (focus (omega))) | (with_reducible refine exW (wrapN ?_) ?_; (focus (omega))) | (with_reducible refine exW (wrapB ?_ ?_) ?_; (focus (omega)); (focus (omega))) | with_reducible refine exW rfl ?_ | (with_reducible refine ixJ _ rfl ?_ ?_; (focus ((first | decide | omega | (simp; done) | (simp; omega)); done))) | (with_reducible refine ixJ' _ rfl ?_ ?_; (focus ((first | decide | omega | (simp; done) | (simp; omega)); done))) | (refine ixJ (Int.toNat _) ?_ ?_ ?_; (focus ((first | rfl | decide | omega | (simp; done)); done)); (focus ((first | decide | omega | (simp; done) | (simp; omega)); done))) | (refine ixJ' (Int.toNat _) ?_ ?_ ?_; (focus ((first | rfl | decide | omega | (simp; done)); done)); (focus ((first | decide | omega | (simp; done) | (simp; omega)); done))) | with_reducible refine ixS _ rfl (by assumption) ?_ | (with_reducible refine shlI ?_ ?_; (focus (first | decide | omega))) | (refine exI (callZ rfl rfl (if_pos ?_)) ?_; (focus ((first | decide | omega | (simp; done) | (simp; omega)); done)))))
    conv => whnf
    refine ⟨Nat × Nat, (fun p => p.1 ≤ l.length + 1 ∧ Inv s l p.1 p.2), (fun p => [(0, .str s), (3, .rs (l.length + 1) 4 (tksC (l ++ [endT s.length]))), (5, .rs (l.length + 1) 4 (tksC M)), (7, .int .i64 p.2), (8, .bool false), (9, .int .i64 p.1)]), (fun _ => []), (fun p => l.length + 1 - p.1), ⟨(0, 0), ⟨Nat.zero_le _, hI0⟩, FgL.mk0 rfl ?_⟩, ?_⟩
    · refine And.intro (Wk.noref rfl) ?_
      refine And.intro (Wk.noref rfl) ?_
      refine And.intro (Wk.noref rfl) ?_
      refine And.intro (Wk.int rfl) ?_
      refine And.intro (Wk.bool rfl) ?_
      exact ⟨Wk.int rfl, trivial⟩
    clear q7 q8 q8b q13 xe xe0 xe3 d6 d7
    rintro ⟨i, a⟩ ⟨h1, h2⟩
    dsimp only at h1 h2
    dsimp only
    by_cases hlt : i < l.length + 1
    · have f1 : decide ((i : Int) < ((l.length + 1 : Nat) : Int)) = true := by simp; omega
      obtain ⟨t, u, g1, g2, g3, g4, g5, g6⟩ := hstep i a h2 hlt
      have x1 := tk4_ok (l ++ [endT s.length]) i (by simp; omega)
      have x2 := tk4_ok M i (by omega)
      obtain ⟨_, g1⟩ := List.getElem?_eq_some_iff.1 g1
      obtain ⟨_, g2⟩ := List.getElem?_eq_some_iff.1 g2
      rw [g1] at x1
      rw [g2] at x2
      clear g1 g2
      have k1 : decide ((t.pos : Int) < (a : Int)) = false := by simp; omega
      have k2 : decide (((t.pos + t.text.length : Nat) : Int) > (s.length : Int)) = false := by simp; omega
      have k3 : (!(List.take (t.pos + t.text.length - t.pos) (List.drop t.pos s) == t.text)) = false := by rw [Nat.add_sub_cancel_left, g5]; simp
      have k4 : (!((t.kind : Int) == (t.kind : Int) && (t.text == t.text && ((t.num : Int) == (t.num : Int) && ((t.pos : Int) == (t.pos : Int) && true))))) = false := by simp
      repeat' ((conv => whnf); first | (refine exI x1 ?_) | (refine exI x2 ?_) | (refine exI (agg30 _ _ _ _ _ _ _ _) ?_) | (with_reducible refine ixJ i rfl ?_ ?_; (focus (omega))) | (first | (with_reducible refine condT ?_ ?_; (focus ((first | assumption | decide | (simp; done) | (simp; omega)); done))) | (with_reducible refine condF ?_ ?_; (focus ((first | assumption | decide | (simp; done) | (simp; omega)); done))) | with_reducible refine condB (fun h => ?_) (fun h => ?_) | with_reducible refine exI rfl ?_ | with_reducible refine eqR rfl ?_ | (with_reducible refine exW (wrapN1 ?_) ?_; (focus (omega))) | (with_reducible refine exW (wrapN ?_) ?_; (focus (omega))) | (with_reducible refine exW (wrapB ?_ ?_) ?_; (focus (omega)); (focus (omega))) | with_reducible refine exW rfl ?_ | (with_reducible refine ixJ _ rfl ?_ ?_; (focus ((first | decide | omega | (simp; done) | (simp; omega)); done))) | (with_reducible refine ixJ' _ rfl ?_ ?_; (focus ((first | decide | omega | (simp; done) | (simp; omega)); done))) | (refine ixJ (Int.toNat _) ?_ ?_ ?_; (focus ((first | rfl | decide | omega | (simp; done)); done)); (focus ((first | decide | omega | (simp; done) | (simp; omega)); done))) | (refine ixJ' (Int.toNat _) ?_ ?_ ?_; (focus ((first | rfl | decide | omega | (simp; done)); done)); (focus ((first | decide | omega | (simp; done) | (simp; omega)); done))) | with_reducible refine ixS _ rfl (by assumption) ?_ | (with_reducible refine shlI ?_ ?_; (focus (first | decide | omega))) | (refine exI (callZ rfl rfl (if_pos ?_)) ?_; (focus ((first | decide | omega | (simp; done) | (simp; omega)); done)))))
      conv => whnf
      refine ⟨Nat × Bool, (fun p => p.1 ≤ t.pos ∧ p.1 + skip p.2 (s.drop p.1) = t.pos), (fun p => [(0, .str s), (3, .rs (l.length + 1) 4 (tksC (l ++ [endT s.length]))), (5, .rs (l.length + 1) 4 (tksC M)), (7, .int .i64 p.1), (8, .bool p.2), (9, .int .i64 i), (10, .ptr 0 0)]), (fun _ => [⟨true, 0, 0, .cells t.cells 30⟩]), (fun p => t.pos - p.1), ⟨(a, false), ⟨by omega, g3.symm⟩, FgL.mk [0] rfl ?_ ⟨⟨rfl, rfl, rfl, rfl, BodyGe.pre (rest := []) rfl rfl⟩, trivial⟩ rfl⟩, ?_⟩
      · refine And.intro (Wk.noref rfl) ?_
        refine And.intro (Wk.noref rfl) ?_
        refine And.intro (Wk.noref rfl) ?_
        refine And.intro (Wk.int rfl) ?_
        refine And.intro (Wk.bool rfl) ?_
        refine And.intro (Wk.int rfl) ?_
        exact ⟨Wk.ptr rfl rfl, trivial⟩
      clear x1 x2 k1 k2 k3 k4
      rintro ⟨b, st⟩ ⟨j1, j2⟩
      dsimp only at j1 j2
      dsimp only
      by_cases hbt : b < t.pos
      · have f2 : decide ((b : Int) < (t.pos : Int)) = true := by simp; omega
        have hb : b < s.length := by omega
        have hy : s[b]? = some s[b] := by simp [hb]
        have u1 := u8_eq s[b] 10 (by decide)
        have u2 := u8_eq s[b] 47 (by decide)
        rcases gap_step hb j2 hbt with ⟨rfl, c1, c2⟩ | ⟨rfl, c1, c2⟩ | ⟨rfl, c1, c3, c2⟩ | ⟨rfl, c1, c3, c4, c2⟩
        · have v1 : ((s[b].toNat : Int) != 10) = false := by rw [c1]; rfl
          have v2 : ((s[b].toNat : Int) == 47) = false := by rw [c1]; rfl
          repeat' ((conv => whnf); first | with_reducible refine ixS _ rfl hy ?_ | (first | (with_reducible refine condT ?_ ?_; (focus ((first | assumption | decide | (simp; done) | (simp; omega)); done))) | (with_reducible refine condF ?_ ?_; (focus ((first | assumption | decide | (simp; done) | (simp; omega)); done))) | with_reducible refine condB (fun h => ?_) (fun h => ?_) | with_reducible refine exI rfl ?_ | with_reducible refine eqR rfl ?_ | (with_reducible refine exW (wrapN1 ?_) ?_; (focus (omega))) | (with_reducible refine exW (wrapN ?_) ?_; (focus (omega))) | (with_reducible refine exW (wrapB ?_ ?_) ?_; (focus (omega)); (focus (omega))) | with_reducible refine exW rfl ?_ | (with_reducible refine ixJ _ rfl ?_ ?_; (focus ((first | decide | omega | (simp; done) | (simp; omega)); done))) | (with_reducible refine ixJ' _ rfl ?_ ?_; (focus ((first | decide | omega | (simp; done) | (simp; omega)); done))) | (refine ixJ (Int.toNat _) ?_ ?_ ?_; (focus ((first | rfl | decide | omega | (simp; done)); done)); (focus ((first | decide | omega | (simp; done) | (simp; omega)); done))) | (refine ixJ' (Int.toNat _) ?_ ?_ ?_; (focus ((first | rfl | decide | omega | (simp; done)); done)); (focus ((first | decide | omega | (simp; done) | (simp; omega)); done))) | with_reducible refine ixS _ rfl (by assumption) ?_ | (with_reducible refine shlI ?_ ?_; (focus (first | decide | omega))) | (refine exI (callZ rfl rfl (if_pos ?_)) ?_; (focus ((first | decide | omega | (simp; done) | (simp; omega)); done)))))
          all_goals (first | (exfalso; simp_all [blaB]; done) | skip)
          all_goals (conv => whnf)
          all_goals refine ⟨(b + 1, false), ⟨by show b + 1 ≤ t.pos; omega, c2⟩, by show t.pos - (b + 1) < t.pos - b; omega, FgL.mk [0] rfl ?_ ⟨⟨rfl, rfl, rfl, rfl, BodyGe.pre (rest := []) rfl rfl⟩, trivial⟩ rfl⟩
          all_goals refine And.intro (Wk.noref rfl) ?_
          all_goals refine And.intro (Wk.noref rfl) ?_
          all_goals refine And.intro (Wk.noref rfl) ?_
          all_goals refine And.intro (Wk.int rfl) ?_
          all_goals refine And.intro (Wk.bool ?_) ?_
          all_goals (first | (refine And.intro (Wk.int rfl) ?_; exact ⟨Wk.ptr rfl rfl, trivial⟩) | rfl | assumption | (simp_all; done))
        · have v1 : ((s[b].toNat : Int) != 10) = true := by simp; intro e; exact c1 (UInt8.toNat_inj.1 (by simp; omega))
          repeat' ((conv => whnf); first | with_reducible refine ixS _ rfl hy ?_ | (first | (with_reducible refine condT ?_ ?_; (focus ((first | assumption | decide | (simp; done) | (simp; omega)); done))) | (with_reducible refine condF ?_ ?_; (focus ((first | assumption | decide | (simp; done) | (simp; omega)); done))) | with_reducible refine condB (fun h => ?_) (fun h => ?_) | with_reducible refine exI rfl ?_ | with_reducible refine eqR rfl ?_ | (with_reducible refine exW (wrapN1 ?_) ?_; (focus (omega))) | (with_reducible refine exW (wrapN ?_) ?_; (focus (omega))) | (with_reducible refine exW (wrapB ?_ ?_) ?_; (focus (omega)); (focus (omega))) | with_reducible refine exW rfl ?_ | (with_reducible refine ixJ _ rfl ?_ ?_; (focus ((first | decide | omega | (simp; done) | (simp; omega)); done))) | (with_reducible refine ixJ' _ rfl ?_ ?_; (focus ((first | decide | omega | (simp; done) | (simp; omega)); done))) | (refine ixJ (Int.toNat _) ?_ ?_ ?_; (focus ((first | rfl | decide | omega | (simp; done)); done)); (focus ((first | decide | omega | (simp; done) | (simp; omega)); done))) | (refine ixJ' (Int.toNat _) ?_ ?_ ?_; (focus ((first | rfl | decide | omega | (simp; done)); done)); (focus ((first | decide | omega | (simp; done) | (simp; omega)); done))) | with_reducible refine ixS _ rfl (by assumption) ?_ | (with_reducible refine shlI ?_ ?_; (focus (first | decide | omega))) | (refine exI (callZ rfl rfl (if_pos ?_)) ?_; (focus ((first | decide | omega | (simp; done) | (simp; omega)); done)))))
          all_goals (first | (exfalso; simp_all [blaB]; done) | skip)
          all_goals (conv => whnf)
          all_goals refine ⟨(b + 1, true), ⟨by show b + 1 ≤ t.pos; omega, c2⟩, by show t.pos - (b + 1) < t.pos - b; omega, FgL.mk [0] rfl ?_ ⟨⟨rfl, rfl, rfl, rfl, BodyGe.pre (rest := []) rfl rfl⟩, trivial⟩ rfl⟩
          all_goals refine And.intro (Wk.noref rfl) ?_
          all_goals refine And.intro (Wk.noref rfl) ?_
          all_goals refine And.intro (Wk.noref rfl) ?_
          all_goals refine And.intro (Wk.int rfl) ?_
          all_goals refine And.intro (Wk.bool ?_) ?_
          all_goals (first | (refine And.intro (Wk.int rfl) ?_; exact ⟨Wk.ptr rfl rfl, trivial⟩) | rfl | assumption | (simp_all; done))
        · have v2 : ((s[b].toNat : Int) == 47) = false := beq_eq_false_iff_ne.2 fun e => c3 (UInt8.toNat_inj.1 (by simp; omega))
          repeat' ((conv => whnf); first | with_reducible refine ixS _ rfl hy ?_ | (first | (with_reducible refine condT ?_ ?_; (focus ((first | assumption | decide | (simp; done) | (simp; omega)); done))) | (with_reducible refine condF ?_ ?_; (focus ((first | assumption | decide | (simp; done) | (simp; omega)); done))) | with_reducible refine condB (fun h => ?_) (fun h => ?_) | with_reducible refine exI rfl ?_ | with_reducible refine eqR rfl ?_ | (with_reducible refine exW (wrapN1 ?_) ?_; (focus (omega))) | (with_reducible refine exW (wrapN ?_) ?_; (focus (omega))) | (with_reducible refine exW (wrapB ?_ ?_) ?_; (focus (omega)); (focus (omega))) | with_reducible refine exW rfl ?_ | (with_reducible refine ixJ _ rfl ?_ ?_; (focus ((first | decide | omega | (simp; done) | (simp; omega)); done))) | (with_reducible refine ixJ' _ rfl ?_ ?_; (focus ((first | decide | omega | (simp; done) | (simp; omega)); done))) | (refine ixJ (Int.toNat _) ?_ ?_ ?_; (focus ((first | rfl | decide | omega | (simp; done)); done)); (focus ((first | decide | omega | (simp; done) | (simp; omega)); done))) | (refine ixJ' (Int.toNat _) ?_ ?_ ?_; (focus ((first | rfl | decide | omega | (simp; done)); done)); (focus ((first | decide | omega | (simp; done) | (simp; omega)); done))) | with_reducible refine ixS _ rfl (by assumption) ?_ | (with_reducible refine shlI ?_ ?_; (focus (first | decide | omega))) | (refine exI (callZ rfl rfl (if_pos ?_)) ?_; (focus ((first | decide | omega | (simp; done) | (simp; omega)); done)))))
          all_goals (first | (exfalso; simp_all [blaB]; done) | skip)
          all_goals (conv => whnf)
          all_goals refine ⟨(b + 1, false), ⟨by show b + 1 ≤ t.pos; omega, c2⟩, by show t.pos - (b + 1) < t.pos - b; omega, FgL.mk [0] rfl ?_ ⟨⟨rfl, rfl, rfl, rfl, BodyGe.pre (rest := []) rfl rfl⟩, trivial⟩ rfl⟩
          all_goals refine And.intro (Wk.noref rfl) ?_
          all_goals refine And.intro (Wk.noref rfl) ?_
          all_goals refine And.intro (Wk.noref rfl) ?_
          all_goals refine And.intro (Wk.int rfl) ?_
          all_goals refine And.intro (Wk.bool ?_) ?_
          all_goals (first | (refine And.intro (Wk.int rfl) ?_; exact ⟨Wk.ptr rfl rfl, trivial⟩) | rfl | assumption | (simp_all; done))
        · have v2 : ((s[b].toNat : Int) == 47) = true := by rw [c1]; rfl
          have hz : s[b + 1]? = some s[b + 1] := by simp [c3]
          have v3 : ((s[b + 1].toNat : Int) == 47) = true := by rw [c4]; rfl
          have v4 : decide (((b + 1 : Nat) : Int) < (s.length : Int)) = true := by simp; omega
          repeat' ((conv => whnf); first | with_reducible refine ixS _ rfl hy ?_ | with_reducible refine ixS _ rfl hz ?_ | (first | (with_reducible refine condT ?_ ?_; (focus ((first | assumption | decide | (simp; done) | (simp; omega)); done))) | (with_reducible refine condF ?_ ?_; (focus ((first | assumption | decide | (simp; done) | (simp; omega)); done))) | with_reducible refine condB (fun h => ?_) (fun h => ?_) | with_reducible refine exI rfl ?_ | with_reducible refine eqR rfl ?_ | (with_reducible refine exW (wrapN1 ?_) ?_; (focus (omega))) | (with_reducible refine exW (wrapN ?_) ?_; (focus (omega))) | (with_reducible refine exW (wrapB ?_ ?_) ?_; (focus (omega)); (focus (omega))) | with_reducible refine exW rfl ?_ | (with_reducible refine ixJ _ rfl ?_ ?_; (focus ((first | decide | omega | (simp; done) | (simp; omega)); done))) | (with_reducible refine ixJ' _ rfl ?_ ?_; (focus ((first | decide | omega | (simp; done) | (simp; omega)); done))) | (refine ixJ (Int.toNat _) ?_ ?_ ?_; (focus ((first | rfl | decide | omega | (simp; done)); done)); (focus ((first | decide | omega | (simp; done) | (simp; omega)); done))) | (refine ixJ' (Int.toNat _) ?_ ?_ ?_; (focus ((first | rfl | decide | omega | (simp; done)); done)); (focus ((first | decide | omega | (simp; done) | (simp; omega)); done))) | with_reducible refine ixS _ rfl (by assumption) ?_ | (with_reducible refine shlI ?_ ?_; (focus (first | decide | omega))) | (refine exI (callZ rfl rfl (if_pos ?_)) ?_; (focus ((first | decide | omega | (simp; done) | (simp; omega)); done)))))
          all_goals (first | (exfalso; simp_all [blaB]; done) | skip)
          all_goals (conv => whnf)
          all_goals refine ⟨(b + 1, true), ⟨by show b + 1 ≤ t.pos; omega, c2⟩, by show t.pos - (b + 1) < t.pos - b; omega, FgL.mk [0] rfl ?_ ⟨⟨rfl, rfl, rfl, rfl, BodyGe.pre (rest := []) rfl rfl⟩, trivial⟩ rfl⟩
          all_goals refine And.intro (Wk.noref rfl) ?_
          all_goals refine And.intro (Wk.noref rfl) ?_
          all_goals refine And.intro (Wk.noref rfl) ?_
          all_goals refine And.intro (Wk.int rfl) ?_
          all_goals refine And.intro (Wk.bool ?_) ?_
          all_goals (first | (refine And.intro (Wk.int rfl) ?_; exact ⟨Wk.ptr rfl rfl, trivial⟩) | rfl | assumption | (simp_all; done))
      · have f2 : decide ((b : Int) < (t.pos : Int)) = false := by simp; omega
        repeat' ((conv => whnf); (first | (with_reducible refine condT ?_ ?_; (focus ((first | assumption | decide | (simp; done) | (simp; omega)); done))) | (with_reducible refine condF ?_ ?_; (focus ((first | assumption | decide | (simp; done) | (simp; omega)); done))) | with_reducible refine condB (fun h => ?_) (fun h => ?_) | with_reducible refine exI rfl ?_ | with_reducible refine eqR rfl ?_ | (with_reducible refine exW (wrapN1 ?_) ?_; (focus (omega))) | (with_reducible refine exW (wrapN ?_) ?_; (focus (omega))) | (with_reducible refine exW (wrapB ?_ ?_) ?_; (focus (omega)); (focus (omega))) | with_reducible refine exW rfl ?_ | (with_reducible refine ixJ _ rfl ?_ ?_; (focus ((first | decide | omega | (simp; done) | (simp; omega)); done))) | (with_reducible refine ixJ' _ rfl ?_ ?_; (focus ((first | decide | omega | (simp; done) | (simp; omega)); done))) | (refine ixJ (Int.toNat _) ?_ ?_ ?_; (focus ((first | rfl | decide | omega | (simp; done)); done)); (focus ((first | decide | omega | (simp; done) | (simp; omega)); done))) | (refine ixJ' (Int.toNat _) ?_ ?_ ?_; (focus ((first | rfl | decide | omega | (simp; done)); done)); (focus ((first | decide | omega | (simp; done) | (simp; omega)); done))) | with_reducible refine ixS _ rfl (by assumption) ?_ | (with_reducible refine shlI ?_ ?_; (focus (first | decide | omega))) | (refine exI (callZ rfl rfl (if_pos ?_)) ?_; (focus ((first | decide | omega | (simp; done) | (simp; omega)); done)))))
        conv => whnf
        refine ⟨(i + 1, t.pos + t.text.length), ⟨hlt, g6⟩, by show l.length + 1 - (i + 1) < l.length + 1 - i; omega, FgL.mk0 rfl ?_⟩
        refine And.intro (Wk.noref rfl) ?_
        refine And.intro (Wk.noref rfl) ?_
        refine And.intro (Wk.noref rfl) ?_
        refine And.intro (Wk.int rfl) ?_
        refine And.intro (Wk.bool rfl) ?_
        exact ⟨Wk.int rfl, trivial⟩
    · have f1 : decide ((i : Int) < ((l.length + 1 : Nat) : Int)) = false := by simp; omega
      repeat' ((conv => whnf); first | (with_reducible refine condT ?_ ?_; (focus ((first | assumption | decide | (simp; done) | (simp; omega)); done))) | (with_reducible refine condF ?_ ?_; (focus ((first | assumption | decide | (simp; done) | (simp; omega)); done))) | with_reducible refine condB (fun h => ?_) (fun h => ?_) | with_reducible refine exI rfl ?_ | with_reducible refine eqR rfl ?_ | (with_reducible refine exW (wrapN1 ?_) ?_; (focus (omega))) | (with_reducible refine exW (wrapN ?_) ?_; (focus (omega))) | (with_reducible refine exW (wrapB ?_ ?_) ?_; (focus (omega)); (focus (omega))) | with_reducible refine exW rfl ?_ | (with_reducible refine ixJ _ rfl ?_ ?_; (focus ((first | decide | omega | (simp; done) | (simp; omega)); done))) | (with_reducible refine ixJ' _ rfl ?_ ?_; (focus ((first | decide | omega | (simp; done) | (simp; omega)); done))) | (refine ixJ (Int.toNat _) ?_ ?_ ?_; (focus ((first | rfl | decide | omega | (simp; done)); done)); (focus ((first | decide | omega | (simp; done) | (simp; omega)); done))) | (refine ixJ' (Int.toNat _) ?_ ?_ ?_; (focus ((first | rfl | decide | omega | (simp; done)); done)); (focus ((first | decide | omega | (simp; done) | (simp; omega)); done))) | with_reducible refine ixS _ rfl (by assumption) ?_ | (with_reducible refine shlI ?_ ?_; (focus (first | decide | omega))) | (refine exI (callZ rfl rfl (if_pos ?_)) ?_; (focus ((first | decide | omega | (simp; done) | (simp; omega)); done))))
      all_goals rfl
theorem law_big (s : List UInt8) (h : ¬ s.length ≤ 3000) : ValOK Tryd.prog runLives.gl 5 [.str s] (.bool true) := by
  have e1 : decide ((s.length : Int) > 3000) = true := by simp; omega
  refine fn_val follows noNum runLives.knownLives Tryd.func5 rfl ?_
  repeat' ((conv => whnf); first | (with_reducible refine condT ?_ ?_; (focus ((first | assumption | decide | (simp; done) | (simp; omega)); done))) | (with_reducible refine condF ?_ ?_; (focus ((first | assumption | decide | (simp; done) | (simp; omega)); done))) | with_reducible refine condB (fun h => ?_) (fun h => ?_) | with_reducible refine exI rfl ?_ | with_reducible refine eqR rfl ?_ | (with_reducible refine exW (wrapN1 ?_) ?_; (focus (omega))) | (with_reducible refine exW (wrapN ?_) ?_; (focus (omega))) | (with_reducible refine exW (wrapB ?_ ?_) ?_; (focus (omega)); (focus (omega))) | with_reducible refine exW rfl ?_ | (with_reducible refine ixJ _ rfl ?_ ?_; (focus ((first | decide | omega | (simp; done) | (simp; omega)); done))) | (with_reducible refine ixJ' _ rfl ?_ ?_; (focus ((first | decide | omega | (simp; done) | (simp; omega)); done))) | (refine ixJ (Int.toNat _) ?_ ?_ ?_; (focus ((first | rfl | decide | omega | (simp; done)); done)); (focus ((first | decide | omega | (simp; done) | (simp; omega)); done))) | (refine ixJ' (Int.toNat _) ?_ ?_ ?_; (focus ((first | rfl | decide | omega | (simp; done)); done)); (focus ((first | decide | omega | (simp; done) | (simp; omega)); done))) | with_reducible refine ixS _ rfl (by assumption) ?_ | (with_reducible refine shlI ?_ ?_; (focus (first | decide | omega))) | (refine exI (callZ rfl rfl (if_pos ?_)) ?_; (focus ((first | decide | omega | (simp; done) | (simp; omega)); done))))
  all_goals (try (simp_all [resOf]; done))
def Qs : List (AV → Prop) := [fun u => ∃ s : List UInt8, u = .str s ∧ s.length ≤ maxLen]
theorem opens : OpensAll Tryd.prog Tryd.f5.params.toList Qs := by
  rw [Tryd.params5]
  exact ⟨opensV_str Tryd.underlying9, trivial⟩
theorem law (us : List AV) (h : AllQ Qs us) : ValOK Tryd.prog runLives.gl 5 us (.bool true) := by
  obtain ⟨_, _, rfl, ⟨s, rfl, hs⟩, h1⟩ := allQ_cons h
  cases allQ_nil h1
  by_cases h : s.length ≤ 3000
  · exact law_ok s h
  · exact law_big s h
theorem solid : Solid Tryd.prog := lexReadsLaw.solid
end Go.Proofs.YtacaaiiooedgjaaDoor.lexBackLaw
end


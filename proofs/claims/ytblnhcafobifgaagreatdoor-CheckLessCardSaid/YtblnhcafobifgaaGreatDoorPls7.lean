/-
  Texts of this proof, one behind the other (part 7).
-/
import Derived.Test.YtblnhcafobifgaaGreatDoorPls6


section

set_option linter.unusedVariables false
set_option linter.unusedSimpArgs false
namespace Go.Proofs.YtblnhcafobifgaaGreatDoor.lex
open Go.Abs Go.RowKit
set_option maxRecDepth 100000
set_option maxHeartbeats 4000000
variable {gl : Glob}
theorem nmSL_take : ∀ (l : List St) (i : Nat) (h : i < l.length), nmSL (l.take (i + 1)) = nmSL (l.take i) ++ nmS l[i]
  | e :: l, 0, h => by simp [nmSL]
  | e :: l, i + 1, h => by
    have := nmSL_take l i (by simpa using h)
    simp only [List.take_succ_cons, nmSL, List.getElem_cons_succ] at this ⊢
    rw [this, List.append_assoc]
theorem sizeSL_take_le : ∀ (l : List St) (i : Nat), sizeSL (l.take i) ≤ sizeSL l
  | [], i => by simp
  | e :: l, 0 => by simp [sizeSL]
  | e :: l, i + 1 => by have := sizeSL_take_le l i; simp only [List.take_succ_cons, sizeSL]; omega
theorem nmSL_take_len (l : List St) (i : Nat) : (nmSL (l.take i)).length ≤ sizeSL l := by
  have h1 := nmSL_len (l.take i)
  have h2 := sizeSL_take_le l i
  omega
theorem nmS_eq (x : St) : nmS x = (cond (!(x.name == [])) [x.name] []) ++ (nmL x.exprs ++ (nmSL x.thn ++ nmSL x.els)) := by
  obtain ⟨k, n, lc, o, x, t, e⟩ := x
  rfl
theorem rsK_nil : rsK [] = .rs 0 1 [] := rfl
theorem rsK_cons (y : List UInt8) (r : List (List UInt8)) : rsK (y :: r) = .rs (r.length + 1) 1 (strC (y :: r)) := rfl
theorem allR_ok : ∀ (n : Nat) (l : List St), sizeSL l ≤ n → okSL l → l.length ≤ 9223372036854775807 → sizeSL l ≤ 1048576 → ValOK Tryz.prog gl 32 [stA l] (rsK (nmSL l))
  | n, l, h, hok, hl, hs => by
    obtain ⟨O, hO, p1, p2, -⟩ := fams (P := Tryz.prog) (gl := gl) [{ I := List St, f := 32, G := fun l => sizeSL l < n ∧ okSL l ∧ l.length ≤ 9223372036854775807 ∧ sizeSL l ≤ 1048576, A := fun l => [stA l], R := fun l => rsK (nmSL l), body := (by kernel_rfl), inj := (fun i j _ _ h => by simp only [List.cons.injEq, and_true] at h; rw [stA_inj h]), ok := (fun l hl => ⟨rfl, match n, hl.1 with | n + 1, h => allR_ok n l (by omega) hl.2.1 hl.2.2.1 hl.2.2.2⟩) },
      { I := Ex, f := 58, G := fun x => okE x ∧ sizeE x ≤ 1048576, A := fun x => [.agg x.cells], R := fun x => rsK (nmE x), body := (by kernel_rfl), inj := (fun i j _ _ h => by rw [agg_inj h]), ok := (fun x hx => ⟨ex_refs x, regsR_ok _ x (Nat.le_refl _) hx.1 hx.2⟩) }] rfl
    have q1 : ∀ l, sizeSL l < n → okSL l → l.length ≤ 9223372036854775807 → sizeSL l ≤ 1048576 → ∀ H, acall Tryz.prog O H 32 [stA l] = some (rsK (nmSL l), H) := fun l h1 h2 h3 h4 => p1 l ⟨h1, h2, h3, h4⟩
    have q2 : ∀ x, okE x → sizeE x ≤ 1048576 → ∀ H, acall Tryz.prog O H 58 [.agg x.cells] = some (rsK (nmE x), H) := fun x h1 h2 => p2 x ⟨h1, h2⟩
    clear p1 p2
    have hT : appT Tryz.prog 42 42 = some (9, 1, 16) := by kernel_rfl
    simp only [stA] at q1 ⊢
    rw [show rsK (nmSL l) = .rs (nmSL l).length 1 (strC (nmSL l)) from rfl]
    refine fn_valN follows noNum hO Tryz.func32 rfl ?_
    repeat' ((conv => whnf); first | refine stp ?_ | with_reducible refine condB (fun h => ?_) (fun h => ?_))
    conv => whnf
    refine ⟨Nat, (fun i => i ≤ l.length), (fun i => [(0, .rs l.length 7 (stC l)), (3, grA 0 1 (nmSL (l.take i))), (4, .int .i64 i)]), (fun i => grB 0 strC 9 (nmSL (l.take i))), (fun i => l.length - i), ⟨0, Nat.zero_le _, ?_⟩, ?_⟩
    · exact FgL.mk [] rfl ⟨Wk.noref rfl, Wk.noref rfl, Wk.int rfl, trivial⟩ trivial rfl
    intro i hi
    dsimp only
    have hle := nmSL_take_len l i
    by_cases hlt : i < l.length
    · have e1 : decide ((i : Int) < (l.length : Int)) = true := by simpa using hlt
      have hsz := sizeSL_mem _ _ (get_mem hlt)
      have hse := sizeS_eq l[i]
      have hx1 : tk 1 (((stC l).drop (i * 7)).drop 1) = some [.str l[i].name] := by rw [stC_at l i hlt]; exact cell_n _ _
      have hx4 : tk 1 (((stC l).drop (i * 7)).drop 4) = some [exA l[i].exprs] := by rw [stC_at l i hlt]; exact cell_x _ _
      have hx5 : tk 1 (((stC l).drop (i * 7)).drop 5) = some [stA l[i].thn] := by rw [stC_at l i hlt]; exact cell_t _ _
      have hx6 : tk 1 (((stC l).drop (i * 7)).drop 6) = some [stA l[i].els] := by rw [stC_at l i hlt]; exact cell_e _ _
      obtain ⟨k1, k2, k3, k4, k5, k6, k7, k8⟩ := okS_parts (okSL_get hok _ (get_mem hlt))
      have qt := q1 l[i].thn (by omega) k7 k4 (by omega)
      have qe := q1 l[i].els (by omega) k8 k5 (by omega)
      have hnt := nmSL_len l[i].thn
      have hne := nmSL_len l[i].els
      have hnx : nmSL (l.take (i + 1)) = ((nmSL (l.take i) ++ cond (!(l[i].name == [])) [l[i].name] []) ++ nmL l[i].exprs) ++ (nmSL l[i].thn ++ nmSL l[i].els) := by
        rw [nmSL_take l i hlt, nmS_eq]; simp only [List.append_assoc]
      clear q1
      generalize nmSL (l.take i) = o at *
      generalize l[i] = x at *
      obtain ⟨kind, name, loc, order, exprs, thn, els⟩ := x
      simp only [St.name, St.exprs, St.thn, St.els, stA, exA] at *
      generalize nmSL thn = nt at *
      generalize nmSL els = ne at *
      obtain ⟨base, hbase⟩ : ∃ b, o ++ cond (!(name == [])) [name] [] = b := ⟨_, rfl⟩
      have hbl : base.length ≤ o.length + 1 := by
        rw [← hbase, List.length_append]
        cases (!(name == [])) <;> simp
      rw [hbase] at hnx
      have hlx := sizeL_len exprs
      have hin : ∀ k (hk : k < exprs.length), nmL (exprs.take (k + 1)) = nmL (exprs.take k) ++ nmE exprs[k] := nmL_take exprs
      have hil := nmL_take_len exprs
      have hnl := nmL_len exprs
      have hfull : nmL (exprs.take exprs.length) = nmL exprs := by rw [List.take_length]
      have hclo := strC_len o
      have hlo := hle
      obtain ⟨nb, e2⟩ : ∃ b, (!(name == [])) = b := ⟨_, rfl⟩
      rw [e2] at hbase
      cases nb <;> rcases o with _ | ⟨z, o⟩ <;> simp only [cond_true, cond_false, List.append_nil, List.length_cons] at hbase hlo hclo
      all_goals
        repeat' ((conv => whnf); first | (with_reducible refine ixJ i rfl ?_ ?_; (focus (omega))) | (refine exI hx1 ?_) | (refine exI hx4 ?_) | (refine apS ?_) | (first | refine stp ?_ | with_reducible refine condB (fun h => ?_) (fun h => ?_)))
        conv => whnf
        refine ⟨Nat, (fun k => k ≤ exprs.length), (fun k => [(0, .rs l.length 7 (stC l)), (3, grA 0 1 (base ++ nmL (exprs.take k))), (4, .int .i64 i), (5, .int .i64 k)]), (fun k => grB 0 strC 9 (base ++ nmL (exprs.take k))), (fun k => exprs.length - k), ⟨0, Nat.zero_le _, ?_⟩, ?_⟩
        · subst hbase
          simp only [List.take_zero, nmL, List.append_nil]
          first | (exact FgL.mk [] rfl ⟨Wk.noref rfl, Wk.noref rfl, Wk.int rfl, Wk.int rfl, trivial⟩ trivial rfl) | (exact FgL.mk [0] rfl ⟨Wk.noref rfl, Wk.slice rfl rfl (by first | rfl | (simp; done) | (simp; omega)) (Nat.le_refl _) (by first | rfl | (simp; done) | (simp; omega)) rfl, Wk.int rfl, Wk.int rfl, trivial⟩ ⟨⟨rfl, rfl, rfl, rfl, BodyGe.pre (rest := []) (by first | rfl | (simp [strC]; done)) (strC_refs _)⟩, trivial⟩ rfl) | (exact FgL.mk [1] rfl ⟨Wk.noref rfl, Wk.slice rfl rfl (by first | rfl | (simp; done) | (simp; omega)) (Nat.le_refl _) (by first | rfl | (simp; done) | (simp; omega)) rfl, Wk.int rfl, Wk.int rfl, trivial⟩ ⟨⟨rfl, rfl, rfl, rfl, BodyGe.pre (rest := []) (by first | rfl | (simp [strC]; done)) (strC_refs _)⟩, trivial⟩ rfl) | (exact FgL.mk [2] rfl ⟨Wk.noref rfl, Wk.slice rfl rfl (by first | rfl | (simp; done) | (simp; omega)) (Nat.le_refl _) (by first | rfl | (simp; done) | (simp; omega)) rfl, Wk.int rfl, Wk.int rfl, trivial⟩ ⟨⟨rfl, rfl, rfl, rfl, BodyGe.pre (rest := []) (by first | rfl | (simp [strC]; done)) (strC_refs _)⟩, trivial⟩ rfl)
        intro k hk
        dsimp only
        have hlk2 := hil k
        by_cases hlk : k < exprs.length
        · have e3 : decide ((k : Int) < (exprs.length : Int)) = true := by simpa using hlk
          have hxk := ex4 exprs k hlk
          have hlr := nmE_len exprs[k]
          have hsk := sizeL_mem _ _ (get_mem hlk)
          have q3 := q2 exprs[k] (okL_get k6 _ (get_mem hlk)) (by omega)
          have hnk : base ++ nmL (exprs.take (k + 1)) = (base ++ nmL (exprs.take k)) ++ nmE exprs[k] := by rw [hin k hlk, List.append_assoc]
          have hlp : (base ++ nmL (exprs.take k)).length ≤ 4194304 := by rw [List.length_append]; omega
          generalize base ++ nmL (exprs.take k) = p at *
          generalize nmE exprs[k] = r at *
          generalize exprs[k] = y at *
          obtain ⟨yo, yn, ys, yk⟩ := y
          simp only [Ex.cells] at hxk q3
          have hcl := strC_len p
          have hon := strs_one r
          rcases p with _ | ⟨z2, p⟩ <;> rcases r with _ | ⟨z3, r⟩ <;> simp only [rsK_nil, rsK_cons, List.length_cons] at q3 hcl hlp hlr
          all_goals
            repeat' ((conv => whnf); first | (with_reducible refine exI (q3 _) ?_) | (with_reducible refine ixJ i rfl ?_ ?_; (focus (omega))) | (with_reducible refine ixJ k rfl ?_ ?_; (focus (omega))) | (refine exI hx4 ?_) | (refine exI hxk ?_) | (refine apS ?_) | (first | refine stp ?_ | with_reducible refine condB (fun h => ?_) (fun h => ?_)))
            conv => whnf
            refine ⟨k + 1, hlk, by show exprs.length - (k + 1) < exprs.length - k; omega, ?_⟩
            rw [hnk]
            try rw [List.append_nil]
            first | (exact FgL.mk [] rfl ⟨Wk.noref rfl, Wk.noref rfl, Wk.int rfl, Wk.int rfl, trivial⟩ trivial rfl) | (exact FgL.mk [0] rfl ⟨Wk.noref rfl, Wk.slice rfl rfl (by first | rfl | (simp; done) | (simp; omega)) (Nat.le_refl _) (by first | rfl | (simp; done) | (simp; omega)) rfl, Wk.int rfl, Wk.int rfl, trivial⟩ ⟨⟨rfl, rfl, rfl, rfl, BodyGe.pre (rest := []) (by first | rfl | (simp [strC]; done)) (strC_refs _)⟩, trivial⟩ rfl) | (exact FgL.mk [1] rfl ⟨Wk.noref rfl, Wk.slice rfl rfl (by first | rfl | (simp; done) | (simp; omega)) (Nat.le_refl _) (by first | rfl | (simp; done) | (simp; omega)) rfl, Wk.int rfl, Wk.int rfl, trivial⟩ ⟨⟨rfl, rfl, rfl, rfl, BodyGe.pre (rest := []) (by first | rfl | (simp [strC]; done)) (strC_refs _)⟩, trivial⟩ rfl)
        · have e3 : decide ((k : Int) < (exprs.length : Int)) = false := by simpa using hlk
          have hk2 : k = exprs.length := by have := hk; omega
          subst hk2
          rw [hfull] at hlk2 ⊢
          have hlp : (base ++ nmL exprs).length ≤ 4194304 := by rw [List.length_append]; omega
          generalize base ++ nmL exprs = p at *
          have hnn := strs_one nt
          have hne2 := strs_one ne
          have hcl := strC_len p
          have hcl2 : (strC p ++ strC nt).length = (p.length + nt.length) * 1 := by simp [strC]
          have hcl3 := strC_len nt
          rcases p with _ | ⟨z2, p⟩ <;> rcases nt with _ | ⟨z3, nt⟩ <;> rcases ne with _ | ⟨z4, ne⟩ <;> simp only [rsK_nil, rsK_cons, List.length_cons] at qt qe hcl hlp hnt hne hcl2 hcl3
          all_goals
            repeat' ((conv => whnf); first | (with_reducible refine exI (qt _) ?_) | (with_reducible refine exI (qe _) ?_) | (with_reducible refine ixJ i rfl ?_ ?_; (focus (omega))) | (refine exI hx4 ?_) | (refine exI hx5 ?_) | (refine exI hx6 ?_) | (refine apS ?_) | (first | refine stp ?_ | with_reducible refine condB (fun h => ?_) (fun h => ?_)))
            conv => whnf
            refine ⟨i + 1, hlt, by show l.length - (i + 1) < l.length - i; omega, ?_⟩
            rw [hnx]
            try simp only [List.append_nil, List.nil_append]
            first | (exact FgL.mk [] rfl ⟨Wk.noref rfl, Wk.noref rfl, Wk.int rfl, trivial⟩ trivial rfl) | (exact FgL.mk [0] rfl ⟨Wk.noref rfl, Wk.slice rfl rfl (by first | rfl | (simp; done) | (simp; omega)) (Nat.le_refl _) (by first | rfl | (simp; done) | (simp; omega)) rfl, Wk.int rfl, trivial⟩ ⟨⟨rfl, rfl, rfl, rfl, BodyGe.pre (rest := []) (by first | rfl | (simp [strC]; done)) (strC_refs _)⟩, trivial⟩ rfl) | (exact FgL.mk [1] rfl ⟨Wk.noref rfl, Wk.slice rfl rfl (by first | rfl | (simp; done) | (simp; omega)) (Nat.le_refl _) (by first | rfl | (simp; done) | (simp; omega)) rfl, Wk.int rfl, trivial⟩ ⟨⟨rfl, rfl, rfl, rfl, BodyGe.pre (rest := []) (by first | rfl | (simp [strC]; done)) (strC_refs _)⟩, trivial⟩ rfl) | (exact FgL.mk [2] rfl ⟨Wk.noref rfl, Wk.slice rfl rfl (by first | rfl | (simp; done) | (simp; omega)) (Nat.le_refl _) (by first | rfl | (simp; done) | (simp; omega)) rfl, Wk.int rfl, trivial⟩ ⟨⟨rfl, rfl, rfl, rfl, BodyGe.pre (rest := []) (by first | rfl | (simp [strC]; done)) (strC_refs _)⟩, trivial⟩ rfl)
    · have e1 : decide ((i : Int) < (l.length : Int)) = false := by simpa using hlt
      have hi2 : i = l.length := by have := hi; omega
      subst hi2
      rw [List.take_length] at hle ⊢
      generalize nmSL l = o at *
      cases o with
      | nil =>
        repeat' ((conv => whnf); first | refine stp ?_ | with_reducible refine condB (fun h => ?_) (fun h => ?_))
        all_goals exact .inr ⟨rfl, _, rfl⟩
      | cons z o =>
        repeat' ((conv => whnf); first | refine stp ?_ | with_reducible refine condB (fun h => ?_) (fun h => ?_))
        conv => whnf
        exact ⟨_, frz_slice (b := 0) rfl (strC_cons z o) (strC_lit (z :: o)), .inl rfl⟩
end Go.Proofs.YtblnhcafobifgaaGreatDoor.lex
end


section

set_option linter.unusedVariables false
set_option linter.unusedSimpArgs false
namespace Go.Proofs.YtblnhcafobifgaaGreatDoor.lex
open Go.Abs Go.RowKit
set_option maxRecDepth 100000
set_option maxHeartbeats 4000000
def rgN0 (l : List St) : List (List UInt8) := addA (nmSL l) []
theorem rg_stmts (l : List St) (hok : okSL l) (hl : l.length ≤ 9223372036854775807) (h : sizeSL l ≤ 1048576) : MemOK Tryz.prog runLives.gl 46 [stA l, .int .i64 1, .func (.func 54) [] [.ptr 2 0], .func (.func 55) [] [.ptr 2 0]] (rgH []) (.bool true) (rgH (rgN0 l)) := by
  have hI : rgI 1 [] (sizeSL l + 0) := ⟨by omega, by omega⟩
  have := TvS.stmts rgV (sizeSL l) l 1 [] 0 (Nat.le_refl _) hok hl hI
  have e := goSL_rg l 1 []
  have e1 : (goSL rgV.hE rgV.hS l 1 []).1 = true := congrArg Prod.fst e
  have e2 : (goSL rgV.hE rgV.hS l 1 []).2 = rgN0 l := congrArg Prod.snd e
  rw [e1, e2] at this
  exact this
theorem rg_sorted {orc : Orc} (n : List (List UInt8)) (hk : okKeys n (rgE 0 n) n.length = true) : acall Tryz.prog (orcOr (sortO 56 78) orc) (rgH n ++ [⟨true, 3, 0, .cells [.map 0] 91⟩]) 56 [.func (.func 78) [] [.ptr 3 0]] = some (rsK (sortB n), rgH n ++ [⟨true, 3, 0, .cells [.map 0] 91⟩]) := by
  refine callOr1 (by kernel_rfl) ?_
  have hb : hasBody Tryz.prog 56 = true := by kernel_rfl
  unfold acall
  rw [if_pos hb]
  have h1 : sortAns (rgE 0 n) n.length = some (rsK (sortB n)) := by
    unfold sortAns
    rw [strsE_rg]
    simp only [hk, if_true]
  have h2 : mapIn ⟨true, 3, 0, .cells [.map 0] 91⟩ = some 0 := rfl
  have h3 : mapOf ⟨true, 0, 0, .map (rgE 0 n) n.length⟩ = some (rgE 0 n, n.length) := rfl
  simp only [sortO, if_true, sortArg, rgH]
  show (match mapIn ⟨true, 3, 0, .cells [.map 0] 91⟩ with | some b => _ | none => none) = _
  rw [h2]
  show (match mapOf ⟨true, 0, 0, .map (rgE 0 n) n.length⟩ with | some (es, clock) => _ | none => none) = _
  rw [h3]
  show (match sortAns (rgE 0 n) n.length with | some v => _ | none => none) = _
  rw [h1]
theorem regsX_ok (l : List St) (hok : okSL l) (hl : l.length ≤ 9223372036854775807) (h : sizeSL l ≤ 900000) : ValOK Tryz.prog runLives.gl 30 [stA l] (rsK (sortB (rgN0 l))) := by
  obtain ⟨O, hO, ⟨p1, -⟩, -⟩ := famsM (P := Tryz.prog) (gl := runLives.gl) [{ I := Unit, f := 46, G := (fun _ => True), A := (fun _ => [stA l, .int .i64 1, .func (.func 54) [] [.ptr 2 0], .func (.func 55) [] [.ptr 2 0]]), H := (fun _ => rgH []), R := (fun _ => .bool true), O := (fun _ => rgH (rgN0 l)), body := (by kernel_rfl), inj := (fun _ _ _ _ _ _ => ⟨rfl, rfl⟩), ok := (fun _ _ => rg_stmts l hok hl (by omega)) }] [] rfl
  have hO2 := orcOr_sound (shelf.sound (gl := runLives.gl)) hO
  have q1 : acall Tryz.prog (orcOr (sortO 56 78) O) (rgH []) 46 [stA l, .int .i64 1, .func (.func 54) [] [.ptr 2 0], .func (.func 55) [] [.ptr 2 0]] = some (.bool true, rgH (rgN0 l)) := callOr2 (by kernel_rfl) rfl (p1 () trivial)
  have hlen := addA_len (nmSL l) []
  have hlen2 := nmSL_len l
  simp only [List.length_nil] at hlen
  have hk : okKeys (rgN0 l) (rgE 0 (rgN0 l)) (rgN0 l).length = true := by
    refine rg_keys (addA_nodup _ _ List.nodup_nil) (fun x hx => ?_) (by unfold rgN0; omega)
    rcases addA_mem.1 hx with hx | hx
    · cases hx
    · exact nmSL_ok hok x hx
  have q2 := rg_sorted (orc := O) (rgN0 l) hk
  simp only [stA, rgH] at q1 q2 ⊢
  generalize rgE 0 (rgN0 l) = es at *
  generalize (rgN0 l).length = c at *
  refine fn_valI (fun g => Nat.beq g 46 || Nat.beq g 56) 2 follows noNum hO2 Tryz.func30 rfl ?_
  repeat' ((conv => whnf); first | (refine exI q1 ?_) | (refine exI q2 ?_) | (first | refine stp ?_ | with_reducible refine condB (fun h => ?_) (fun h => ?_)))
  all_goals (conv => whnf)
  all_goals rfl
end Go.Proofs.YtblnhcafobifgaaGreatDoor.lex
end


section

set_option linter.unusedVariables false
set_option linter.unusedSimpArgs false
namespace Go.Proofs.YtblnhcafobifgaaGreatDoor.lex
open Go.Abs Go.RowKit
set_option maxRecDepth 100000
set_option maxHeartbeats 4000000
variable {gl : Glob}
theorem xc_take {H : AHeap} {f c : Nat} {o : List (List UInt8)} {k : Nat} (hH : H[0]? = some ⟨true, f, 0, .cells (strC o) 9⟩) (hk : k ≤ o.length) : xcells H 1 (.slice 0 0 k c 1) = some (k, strC (o.take k)) := by
  have h : tk (k * 1) ((strC o).drop 0) = some (strC (o.take k)) := by
    have h1 : strC o = strC (o.take k) ++ strC (o.drop k) := by rw [← strC_app, List.take_append_drop]
    have h2 : (strC (o.take k)).length = k * 1 := by rw [strC_len, List.length_take, Nat.min_eq_left hk]
    rw [List.drop_zero, h1, ← h2]; exact tk_app _ _
  simp only [xcells, if_true, rd, hH, h]
theorem xc_drop {H : AHeap} {f c n : Nat} {o : List (List UInt8)} {k : Nat} (hH : H[0]? = some ⟨true, f, 0, .cells (strC o) 9⟩) (hn : n = o.length) : xcells H 1 (.slice 0 (0 + k * 1) (n - k) c 1) = some (n - k, strC (o.drop k)) := by
  have h : tk ((n - k) * 1) ((strC o).drop (0 + k * 1)) = some (strC (o.drop k)) := by
    have h1 : (strC o).drop (0 + k * 1) = strC (o.drop k) := by simp [strC]
    rw [h1]
    exact tk_all (by rw [strC_len, List.length_drop, hn])
  simp only [xcells, if_true, rd, hH, h]
theorem xc_none {H : AHeap} {off n c : Nat} (h0 : n = 0) {f : Nat} {cs : List AV} (hH : H[0]? = some ⟨true, f, 0, .cells cs 9⟩) : xcells H 1 (.slice 0 off n c 1) = some (0, []) := by
  subst h0
  have h : tk (0 * 1) (cs.drop off) = some [] := by cases (cs.drop off) <;> rfl
  simp only [xcells, if_true, rd, hH, h]
theorem setR_ok (l : List (List UInt8)) (h : l.length ≤ 1048576) : ValOK Tryz.prog gl 31 [rsK l] (rsK (setU l)) := by
  have hT : appT Tryz.prog 42 42 = some (9, 1, 16) := by kernel_rfl
  rw [show rsK (setU l) = .rs (setU l).length 1 (strC (setU l)) from rfl, show rsK l = .rs l.length 1 (strC l) from rfl]
  refine fn_valN follows noNum none_sound Tryz.func31 rfl ?_
  repeat' ((conv => whnf); first | refine stp ?_ | with_reducible refine condB (fun h => ?_) (fun h => ?_))
  conv => whnf
  refine ⟨Nat, (fun i => i ≤ l.length), (fun i => [(0, .rs l.length 1 (strC l)), (3, grA 0 1 (setU (l.take i))), (4, .int .i64 i)]), (fun i => grB 0 strC 9 (setU (l.take i))), (fun i => l.length - i), ⟨0, Nat.zero_le _, ?_⟩, ?_⟩
  · exact FgL.mk [] rfl ⟨Wk.noref rfl, Wk.noref rfl, Wk.int rfl, trivial⟩ trivial rfl
  intro i hi
  dsimp only
  have hle := setU_take_len l i
  by_cases hlt : i < l.length
  · have e1 : decide ((i : Int) < (l.length : Int)) = true := by simpa using hlt
    have hs : tk 1 ((strC l).drop (i * 1)) = some [.str l[i]] := tk1_map AV.str l i hlt (by omega)
    have hnx := setU_next l i hlt
    generalize setU (l.take i) = o at *
    generalize l[i] = s at *
    have hpl := posU_le s o
    rcases o with _ | ⟨z, o⟩
    ·
      repeat' ((conv => whnf); first | (with_reducible refine ixJ i rfl ?_ ?_; (focus (omega))) | (refine exI hs ?_) | (refine apS ?_) | (first | refine stp ?_ | with_reducible refine condB (fun h => ?_) (fun h => ?_)))
      conv => whnf
      refine ⟨Nat, (fun k => k ≤ posU s ([] : List (List UInt8))), (fun k => [(0, .rs l.length 1 (strC l)), (3, grA 0 1 ([] : List (List UInt8))), (4, .int .i64 i), (5, .int .i64 k)]), (fun k => grB 0 strC 9 ([] : List (List UInt8))), (fun k => posU s ([] : List (List UInt8)) - k), ⟨0, Nat.zero_le _, ?_⟩, ?_⟩
      · exact FgL.mk [] rfl ⟨Wk.noref rfl, Wk.noref rfl, Wk.int rfl, Wk.int rfl, trivial⟩ trivial rfl
      intro k hk
      dsimp only
      have hk0 : k = 0 := by simpa [posU] using hk
      subst hk0
      repeat' ((conv => whnf); first | (with_reducible refine ixJ i rfl ?_ ?_; (focus (omega))) | (refine exI hs ?_) | (refine apS ?_) | (first | refine stp ?_ | with_reducible refine condB (fun h => ?_) (fun h => ?_)))
      conv => whnf
      refine ⟨i + 1, hlt, by show l.length - (i + 1) < l.length - i; omega, ?_⟩
      rw [hnx]
      exact FgL.mk [2] rfl ⟨Wk.noref rfl, Wk.slice rfl rfl rfl (Nat.le_refl _) (Nat.le_refl _) rfl, Wk.int rfl, trivial⟩ ⟨⟨rfl, rfl, rfl, rfl, BodyGe.pre (rest := []) rfl rfl⟩, trivial⟩ rfl
    · have hcl := strC_cons z o
      have hol : o.length + 1 ≤ l.length := by simpa using hle
      repeat' ((conv => whnf); first | (with_reducible refine ixJ i rfl ?_ ?_; (focus (omega))) | (refine exI hs ?_) | (first | refine stp ?_ | with_reducible refine condB (fun h => ?_) (fun h => ?_)))
      conv => whnf
      refine ⟨Nat, (fun k => k ≤ posU s (z :: o)), (fun k => [(0, .rs l.length 1 (strC l)), (3, grA 0 1 (z :: o)), (4, .int .i64 i), (5, .int .i64 k)]), (fun k => grB 0 strC 9 (z :: o)), (fun k => posU s (z :: o) - k), ⟨0, Nat.zero_le _, ?_⟩, ?_⟩
      · exact FgL.mk [0] rfl ⟨Wk.noref rfl, Wk.slice rfl rfl rfl (Nat.le_refl _) (Nat.le_refl _) rfl, Wk.int rfl, Wk.int rfl, trivial⟩ ⟨⟨rfl, rfl, rfl, rfl, BodyGe.pre (rest := []) (by simp) (strC_refs _)⟩, trivial⟩ rfl
      intro k hk
      dsimp only
      by_cases hlk : k < posU s (z :: o)
      · have hkl : k < (z :: o).length := by omega
        have hob := posU_lt s (z :: o) k hkl hlk
        have hg : tk 1 ((strC (z :: o)).drop (0 + k * 1)) = some [.str (z :: o)[k]] := tk1_map AV.str (z :: o) k hkl (by omega)
        generalize (z :: o)[k] = y at *
        simp only [List.length_cons] at hkl
        have e3 : decide ((k : Int) < ((o.length + 1 : Nat) : Int)) = true := by simp; omega
        repeat' ((conv => whnf); first | (with_reducible refine ixJ i rfl ?_ ?_; (focus (omega))) | (with_reducible refine ixJ k rfl ?_ ?_; (focus (omega))) | (refine exI hs ?_) | (refine exI hg ?_) | (first | refine stp ?_ | with_reducible refine condB (fun h => ?_) (fun h => ?_)))
        conv => whnf
        refine ⟨k + 1, hlk, by show posU s (z :: o) - (k + 1) < posU s (z :: o) - k; omega, ?_⟩
        exact FgL.mk [0] rfl ⟨Wk.noref rfl, Wk.slice rfl rfl rfl (Nat.le_refl _) (Nat.le_refl _) rfl, Wk.int rfl, Wk.int rfl, trivial⟩ ⟨⟨rfl, rfl, rfl, rfl, BodyGe.pre (rest := []) (by simp) (strC_refs _)⟩, trivial⟩ rfl
      · have hk2 : k = posU s (z :: o) := by have := hk; omega
        have hpa := posU_at s (z :: o)
        have hsame := insU_same s (z :: o)
        have hnew := insU_new s (z :: o)
        rw [← hk2] at hpa hsame hnew
        by_cases hkl : k < (z :: o).length
        · have hob := hpa hkl
          have hsm := hsame hkl
          have hnw := hnew
          have hg : tk 1 ((strC (z :: o)).drop (0 + k * 1)) = some [.str (z :: o)[k]] := tk1_map AV.str (z :: o) k hkl (by omega)
          have hkl2 : k < o.length + 1 := by simpa using hkl
          have e3 : decide ((k : Int) < ((o.length + 1 : Nat) : Int)) = true := by simp; omega
          cases hys : ((z :: o)[k] == s) with
          | true =>
            rw [hsm hys] at hnx
            generalize (z :: o)[k] = y at *
            repeat' ((conv => whnf); first | (with_reducible refine ixJ i rfl ?_ ?_; (focus (omega))) | (with_reducible refine ixJ k rfl ?_ ?_; (focus (omega))) | (refine exI hs ?_) | (refine exI hg ?_) | (first | refine stp ?_ | with_reducible refine condB (fun h => ?_) (fun h => ?_)))
            conv => whnf
            refine ⟨i + 1, hlt, by show l.length - (i + 1) < l.length - i; omega, ?_⟩
            rw [hnx]
            exact FgL.mk [0] rfl ⟨Wk.noref rfl, Wk.slice rfl rfl rfl (Nat.le_refl _) (Nat.le_refl _) rfl, Wk.int rfl, trivial⟩ ⟨⟨rfl, rfl, rfl, rfl, BodyGe.pre (rest := []) (by simp) (strC_refs _)⟩, trivial⟩ rfl
          | false =>
            have hnx2 := hnx.trans (hnw fun _ => hys)
            generalize (z :: o)[k] = y at *
            rcases k with _ | k
            · simp only [List.take_zero, List.drop_zero, List.nil_append] at hnx2
              have hxd := fun (H : AHeap) (f c : Nat) hH => xc_drop (H := H) (f := f) (c := c) (n := o.length + 1) (o := z :: o) (k := 0) hH rfl
              repeat' ((conv => whnf); first | (with_reducible refine ixJ i rfl ?_ ?_; (focus (omega))) | (with_reducible refine ixJ 0 rfl ?_ ?_; (focus (omega))) | (refine exI hs ?_) | (refine exI hg ?_) | (refine exI (app_okG hT (hxd _ _ _ rfl) rfl (ekil_ok ?_) ?_ ?_ ?_ ?_) ?_; (focus (simp [ekOk, ABody.len])); (focus (simp [strC]; try omega)); (focus (exact strs_one _)); (focus (omega)); (focus (omega))) | (refine apS ?_) | (first | refine stp ?_ | with_reducible refine condB (fun h => ?_) (fun h => ?_)))
              conv => whnf
              refine ⟨i + 1, hlt, by show l.length - (i + 1) < l.length - i; omega, ?_⟩
              rw [hnx2]
              refine FgL.mk [4] rfl ⟨Wk.noref rfl, Wk.slice rfl rfl ?_ (Nat.le_refl _) ?_ rfl, Wk.int rfl, trivial⟩ ⟨⟨rfl, rfl, rfl, rfl, BodyGe.pre (rest := []) ?_ (strC_refs _)⟩, trivial⟩ rfl
              all_goals first | (simp [strC]; done) | (simp; omega)
            · have hxt := fun (H : AHeap) (f c : Nat) hH => xc_take (H := H) (f := f) (c := c) (o := z :: o) (k := k + 1) hH (by simp; omega)
              have hxd := fun (H : AHeap) (f c : Nat) hH => xc_drop (H := H) (f := f) (c := c) (n := o.length + 1) (o := z :: o) (k := k + 1) hH rfl
              have hct : (([] : List AV) ++ strC ((z :: o).take (k + 1))).length = (0 + (k + 1)) * 1 := by rw [List.nil_append, strC_len, List.length_take, Nat.min_eq_left (by simp; omega)]; omega
              repeat' ((conv => whnf); first | (with_reducible refine ixJ i rfl ?_ ?_; (focus (omega))) | (with_reducible refine ixJ (k + 1) rfl ?_ ?_; (focus (omega))) | (refine exI hs ?_) | (refine exI hg ?_) | (refine exI (app_okG hT (hxt _ _ _ rfl) rfl (ekil_ok ?_) ?_ ?_ ?_ ?_) ?_; (focus (simp [ekOk, ABody.len])); (focus (simp [strC]; try omega)); (focus (exact strs_one _)); (focus (omega)); (focus (omega))) | (refine exI (app_okG hT (hxd _ _ _ rfl) rfl (ekil_ok ?_) ?_ ?_ ?_ ?_) ?_; (focus (simp [ekOk, ABody.len])); (focus (simp [strC]; try omega)); (focus (exact strs_one _)); (focus (omega)); (focus (omega))) | (refine apS ?_) | (first | refine stp ?_ | with_reducible refine condB (fun h => ?_) (fun h => ?_)))
              conv => whnf
              refine ⟨i + 1, hlt, by show l.length - (i + 1) < l.length - i; omega, ?_⟩
              rw [hnx2]
              refine FgL.mk [5] rfl ⟨Wk.noref rfl, Wk.slice rfl rfl ?_ (Nat.le_refl _) ?_ rfl, Wk.int rfl, trivial⟩ ⟨⟨rfl, rfl, rfl, rfl, BodyGe.pre (rest := []) ?_ (strC_refs _)⟩, trivial⟩ rfl
              all_goals first | (simp [strC]; done) | (simp; omega)
        · have hkn : k = o.length + 1 := by
            have := posU_le s (z :: o)
            simp only [List.length_cons] at this hkl
            omega
          have hnx2 := hnx.trans (hnew fun h => absurd h hkl)
          have e3 : decide ((k : Int) < ((o.length + 1 : Nat) : Int)) = false := by simp; omega
          rcases k with _ | k
          · omega
          · have hxt := fun (H : AHeap) (f c : Nat) hH => xc_take (H := H) (f := f) (c := c) (o := z :: o) (k := k + 1) hH (by simp; omega)
            have hct : (([] : List AV) ++ strC ((z :: o).take (k + 1))).length = (0 + (k + 1)) * 1 := by rw [List.nil_append, strC_len, List.length_take, Nat.min_eq_left (by simp; omega)]; omega
            have hdr : (z :: o).drop (k + 1) = [] := List.drop_eq_nil_of_le (by simp; omega)
            rw [hdr] at hnx2
            repeat' ((conv => whnf); first | (with_reducible refine ixJ i rfl ?_ ?_; (focus (omega))) | (with_reducible refine ixJ (k + 1) rfl ?_ ?_; (focus (omega))) | (refine exI hs ?_) | (refine exI (app_okG hT (hxt _ _ _ rfl) rfl (ekil_ok ?_) ?_ ?_ ?_ ?_) ?_; (focus (simp [ekOk, ABody.len])); (focus (simp [strC]; try omega)); (focus (exact strs_one _)); (focus (omega)); (focus (omega))) | (refine exI (app_zero hT (xc_none (by omega) rfl)) ?_) | (refine apS ?_) | (first | refine stp ?_ | with_reducible refine condB (fun h => ?_) (fun h => ?_)))
            conv => whnf
            refine ⟨i + 1, hlt, by show l.length - (i + 1) < l.length - i; omega, ?_⟩
            rw [hnx2]
            refine FgL.mk [4] rfl ⟨Wk.noref rfl, Wk.slice rfl rfl ?_ (Nat.le_refl _) ?_ rfl, Wk.int rfl, trivial⟩ ⟨⟨rfl, rfl, rfl, rfl, BodyGe.pre (rest := []) ?_ (strC_refs _)⟩, trivial⟩ rfl
            all_goals first | (simp [strC]; done) | (simp; omega)
  · have e1 : decide ((i : Int) < (l.length : Int)) = false := by simpa using hlt
    have hi2 : i = l.length := by have := hi; omega
    subst hi2
    rw [List.take_length] at hle ⊢
    generalize setU l = o at *
    cases o with
    | nil =>
      repeat' ((conv => whnf); first | refine stp ?_ | with_reducible refine condB (fun h => ?_) (fun h => ?_))
      all_goals exact .inr ⟨rfl, _, rfl⟩
    | cons z o =>
      repeat' ((conv => whnf); first | refine stp ?_ | with_reducible refine condB (fun h => ?_) (fun h => ?_))
      conv => whnf
      exact ⟨_, frz_slice (b := 0) rfl (strC_cons z o) (strC_lit (z :: o)), .inl rfl⟩
theorem regsL_ok (l : List St) (hok : okSL l) (hl : l.length ≤ 9223372036854775807) (h : sizeSL l ≤ 900000) : ValOK Tryz.prog gl 14 [stA l] (rsK (sortB (rgN0 l))) := by
  have hlen := nmSL_len l
  obtain ⟨O, hO, p1, p2, -⟩ := fams (P := Tryz.prog) (gl := gl) [{ I := Unit, f := 32, G := (fun _ => True), A := (fun _ => [stA l]), R := (fun _ => rsK (nmSL l)), body := (by kernel_rfl), inj := (fun _ _ _ _ _ => rfl), ok := (fun _ _ => ⟨rfl, allR_ok _ l (Nat.le_refl _) hok hl (by omega)⟩) },
    { I := Unit, f := 31, G := (fun _ => True), A := (fun _ => [rsK (nmSL l)]), R := (fun _ => rsK (setU (nmSL l))), body := (by kernel_rfl), inj := (fun _ _ _ _ _ => rfl), ok := (fun _ _ => ⟨rfl, setR_ok _ (by omega)⟩) }] rfl
  have q1 : ∀ H, acall Tryz.prog O H 32 [stA l] = some (rsK (nmSL l), H) := p1 () trivial
  have q2 : ∀ H, acall Tryz.prog O H 31 [rsK (nmSL l)] = some (rsK (setU (nmSL l)), H) := p2 () trivial
  rw [show rsK (sortB (rgN0 l)) = rsK (setU (nmSL l)) by rw [setU_eq]; rfl]
  simp only [stA, rsK] at q1 q2 ⊢
  refine fn_val follows noNum hO Tryz.func14 rfl ?_
  repeat' ((conv => whnf); first | (refine exI (q1 _) ?_) | (refine exI (q2 _) ?_) | (first | refine stp ?_ | with_reducible refine condB (fun h => ?_) (fun h => ?_)))
  all_goals rfl
end Go.Proofs.YtblnhcafobifgaaGreatDoor.lex
end


section

set_option linter.unusedSimpArgs false
set_option linter.unusedVariables false
namespace Go.Abs
open Go.RowKit
section
open Classical
end
end Go.Abs
end


section

set_option linter.unusedSimpArgs false
set_option linter.unusedVariables false
namespace Go.Abs
open Go.RowKit
section
open Classical
noncomputable def snO (sn : Snap) (ι : IMap) (H : AHeap) (W : World) : Snap := fun a => if ∃ (b : Nat) (o : AObj) (p : Place), H[b]? = some o ∧ o.alive = true ∧ ι b = some p ∧ p.blk = a.block then W.cell? a else sn a
end
def orcD (F : Nat → List AV → Option AV) : Orc := fun f args H => match frzL (frz H 30) args with
  | some az => match F f az with | some r => some (r, kil (fun _ _ => true) 0 H) | none => none
  | none => none
theorem cell_lt {W : World} {a : Addr} {v : Value} (hv : W.cell? a = some v) : a.block < W.heap.size := by
  cases hq : W.heap[a.block]? with
  | none => unfold World.cell? at hv; rw [hq] at hv; simp at hv
  | some ob => exact (Array.getElem?_eq_some_iff.1 hq).1
theorem orcD_sound {P : Program} {gl : Glob} {F : Nat → List AV → Option AV} (h : ∀ f args r, F f args = some r → ValOK P gl f args r) : OrcSound P gl (orcD F) := by
  intro f args H r H' hf sn ι W cargs hg hR ha
  unfold orcD at hf
  split at hf <;> try (simp at hf; done)
  rename_i az has
  split at hf <;> simp at hf
  rename_i r' hr
  obtain ⟨rfl, rfl⟩ := hf
  have h2 := h f az r' hr
  have hle : ∀ a v, sn a = some v → snO sn ι H W a = some v := fun a v hv => by
    unfold snO
    split
    · exact (hR.snap a v hv).2.1
    · exact hv
  have hcell : ∀ a v, snO sn ι H W a = some v → W.cell? a = some v := fun a v hv => by
    unfold snO at hv
    split at hv
    · exact hv
    · exact (hR.snap a v hv).2.1
  have hR' : R (snO sn ι H W) noI [] W :=
    ⟨fun b => ⟨fun hb => by simp at hb, fun ⟨p, hp⟩ => by simp [noI] at hp⟩, fun b p hp => by simp [noI] at hp, fun b o p hb => by simp at hb, fun b b' o o' p p' hb => by simp at hb,
      fun a v hv => ⟨cell_lt (hcell a v hv), hcell a v hv, fun b o p hb => by simp at hb⟩, fun b o p hb => by simp at hb⟩
  have hargs : LR (snO sn ι H W) noI az cargs := frzL_sound (fun u r v => frz_sound2 hR.obj ⟨hle, fun _ _ h => h⟩ (fun b o p hb hal hp off v hv => by
    unfold snO; rw [if_pos ⟨b, o, p, hb, hal, hp, rfl⟩]; exact hv) 30 u r v) has ha
  refine (h2 _ W cargs (hg.mono (gl_le hle)) hR' hargs).monoY ?_
  rintro e W' ⟨v, rfl, hx, hv⟩
  generalize hs1 : snx (snO sn ι H W) W.heap.size W' = s1 at hv
  have h1lt : ∀ a, a.block < W.heap.size → s1 a = snO sn ι H W a := fun a ha => by rw [← hs1]; unfold snx; rw [if_pos ha]
  have h1ge : ∀ a, ¬ a.block < W.heap.size → s1 a = W'.cell? a := fun a ha => by rw [← hs1]; unfold snx; rw [if_neg ha]
  have hle1 : ∀ a v, sn a = some v → s1 a = some v := fun a v hv => by rw [h1lt a (hR.snap a v hv).1]; exact hle a v hv
  have hcell1 : ∀ a v, s1 a = some v → W'.cell? a = some v := fun a v hv => by
    by_cases hlt : a.block < W.heap.size
    · rw [h1lt a hlt] at hv
      have := hcell a v hv
      unfold World.cell? at this ⊢
      rw [hx.old _ hlt]; exact this
    · rw [h1ge a hlt] at hv; exact hv
  refine ⟨v, s1, ι, rfl, VR_noI hv, ⟨fun b => ⟨fun hb => ?_, fun ⟨p, hp⟩ => ?_⟩, fun b p hp => ?_, fun b o p hb hal hp => ?_, fun b b' o o' p p' hb hb' hp hp' e => ?_, fun a v hv => ?_, fun b o p hb hp e => ?_⟩, ⟨hle1, fun _ _ h => h⟩, fun b p hp => .inl hp, fun c hc _ => hx.old c hc, hx.size, hx.os, hx.tape, hx.output, fun a v hv => ?_, fun b o hb => ?_⟩
  · rw [kil_length] at hb; exact (hR.dom b).1 hb
  · rw [kil_length]; exact (hR.dom b).2 ⟨p, hp⟩
  · have := hR.blk b p hp; have := hx.size; omega
  · obtain ⟨o0, _, _, _, h4⟩ := kil_some hb
    have := (h4 hal).2; simp at this
  · obtain ⟨o0, g1, g2, g3, _⟩ := kil_some hb
    obtain ⟨o0', g1', g2', g3', _⟩ := kil_some hb'
    rw [g2, g3, g2', g3']
    exact hR.sep b b' o0 o0' p p' g1 g1' hp hp' e
  · refine ⟨cell_lt (hcell1 a v hv), hcell1 a v hv, fun b o p hb hal hp => ?_⟩
    obtain ⟨o0, _, _, _, h4⟩ := kil_some hb
    have := (h4 hal).2; simp at this
  · obtain ⟨o0, g1, g2, g3, _⟩ := kil_some hb
    exact hR.shz b o0 p g1 hp (by rw [← g3]; exact e)
  · by_cases hlt : a.block < W.heap.size
    · rw [h1lt a hlt] at hv
      unfold snO at hv
      split at hv
      · rename_i hex
        obtain ⟨b, o, p, x1, x2, x3, x4⟩ := hex
        exact .inr (.inr ⟨b, o, p, x1, x2, x3, x4⟩)
      · exact .inl hv
    · exact .inr (.inl (by omega))
  · rw [kil_get, hb]
    simp only [Nat.zero_add, Option.map_some]
    refine ⟨_, rfl, ?_⟩
    simp [AObj.dead]
theorem callD {P : Program} {F : Nat → List AV → Option AV} {H : AHeap} {g : Nat} {args fa : List AV} {r : AV} (h1 : hasBody P g = true) (h2 : frzL (frz H 30) args = some fa) (h3 : F g fa = some r) : acall P (orcD F) H g args = some (r, kil (fun _ _ => true) 0 H) := by
  simp only [acall, h1, if_true, orcD, h2, h3]
end Go.Abs
end


section

set_option linter.unusedVariables false
set_option linter.unusedSimpArgs false
namespace Go.Proofs.YtblnhcafobifgaaGreatDoor.lex
open Go.Abs Go.RowKit
set_option maxRecDepth 100000
set_option maxHeartbeats 4000000
variable {gl : Glob}
def nmsS (x : St) : List (List UInt8) := sortB (rgN0 [.mk x.kind x.name [] 0 x.exprs [] []])
def alSt (k : Int) (n l : List UInt8) (o : Int) (x : List Ex) : St := .mk k n l o x [] []
def alA (k : Int) (n l : List UInt8) (o : Int) (nx : Nat) (cx : List AV) : AV := .rs 1 7 [.int .i64 k, .str n, .str l, .int .i64 o, .rs nx 4 cx, .nslice, .nslice]
theorem al_weak (k : Int) (n l : List UInt8) (o : Int) (x : List Ex) : ∀ sn vs, LR sn noI [alA k n l o x.length (exC x)] vs → LR sn noI [stA [alSt k n l o x]] vs := by
  intro sn vs h
  have hE : stA [alSt k n l o x] = .rs 1 7 [.int .i64 k, .str n, .str l, .int .i64 o, .rs x.length 4 (exC x), .rs 0 7 [], .rs 0 7 []] := rfl
  rw [hE]
  simp only [alA, LR] at h ⊢
  obtain ⟨d, ds, rfl, h1, h2⟩ := h
  refine ⟨d, ds, rfl, ?_, h2⟩
  unfold VR at h1 ⊢
  rcases h1 with ⟨h1, _⟩ | ⟨a, cap, x1, x2, x3, x4, x5⟩
  · cases h1
  · refine .inr ⟨a, cap, x1, x2, rfl, ?_, x5⟩
    simp only [MR] at x4 ⊢
    obtain ⟨m1, m2, m3, m4, m5, ⟨v6, n6, k6⟩, ⟨v7, n7, k7⟩, m8⟩ := x4
    exact ⟨m1, m2, m3, m4, m5, ⟨v6, n6, nil_rs k6⟩, ⟨v7, n7, nil_rs k7⟩, m8⟩
section
open Classical
noncomputable def tabF (g : Nat) (A : List AV) (r : AV) : Nat → List AV → Option AV := fun f fa => if f = g ∧ fa = A then some r else none
end
theorem tabF_sound {g : Nat} {A : List AV} {r : AV} (h : ValOK Tryz.prog gl g A r) : OrcSound Tryz.prog gl (orcD (tabF g A r)) := orcD_sound fun f args r' hr => by
  unfold tabF at hr
  split at hr
  · rename_i h2
    obtain ⟨rfl, rfl⟩ := h2
    simp only [Option.some.injEq] at hr
    subst hr
    exact h
  · cases hr
theorem tabF_none {g f : Nat} {A : List AV} {r : AV} (h : f ≠ g) (args : List AV) (H : AHeap) : orcD (tabF g A r) f args H = none := by
  unfold orcD
  split
  · rename_i az _
    have : tabF g A r f az = none := by unfold tabF; rw [if_neg (fun e => h e.1)]
    rw [this]
  · rfl
theorem alSt_ok {k : Int} {n l : List UInt8} {o : Int} {x : List Ex} (hn : n.length ≤ 9223372036854775807) (hl : l.length ≤ 9223372036854775807) (hx : okL x) (hxl : x.length ≤ 9223372036854775807) : okSL [alSt k n l o x] := by
  simp [okSL, alSt, okS, okL, okN, hn, hl, hx, hxl]
theorem alSt_size (k : Int) (n l : List UInt8) (o : Int) (x : List Ex) : sizeSL [alSt k n l o x] = 1 + sizeL x := by simp [alSt, sizeSL, sizeS]
def anyD (ds : List Dc) : List (List UInt8) → Bool
  | [] => false
  | s :: l => decide (0 ≤ findD ds s) || anyD ds l
def hidB (ds : List Dc) (x : St) : Bool := anyD ds (nmsS x)
theorem anyD_at (ds : List Dc) : ∀ (l : List (List UInt8)) (i : Nat) (h : i < l.length), 0 ≤ findD ds l[i] → anyD ds l = true
  | s :: l, 0, h, h2 => by simp only [List.getElem_cons_zero] at h2; simp only [anyD, decide_eq_true h2, Bool.true_or]
  | s :: l, i + 1, h, h2 => by simp only [anyD, anyD_at ds l i (by simpa using h) (by simpa using h2), Bool.or_true]
theorem anyD_next (ds : List Dc) : ∀ (l : List (List UInt8)) (i : Nat) (h : i < l.length), anyD ds (l.take i) = false → findD ds l[i] < 0 → anyD ds (l.take (i + 1)) = false
  | s :: l, 0, h, h1, h2 => by
    simp only [List.getElem_cons_zero] at h2
    simp only [List.take_succ_cons, List.take_zero, anyD, Bool.or_false, decide_eq_false_iff_not]; omega
  | s :: l, i + 1, h, h1, h2 => by
    simp only [List.take_succ_cons, anyD, Bool.or_eq_false_iff] at h1 ⊢
    exact ⟨h1.1, anyD_next ds l i (by simpa using h) h1.2 (by simpa using h2)⟩
def plainAt (ds : List Dc) (i : Int) : Bool := ((ds[i.toNat]?).map (·.plain)).getD false
def onePF (ds : List Dc) (k o : Int) (loc : List UInt8) (hid : Bool) : Int :=
  cond (!(loc == []) && decide (findD ds loc < 0)) 6
    (cond (!(o == 0) && !(mayN k o (cond (loc == []) false (plainAt ds (findD ds loc))) == 0)) (mayN k o (cond (loc == []) false (plainAt ds (findD ds loc)))) (cond hid 6 0))
def oneP (ds : List Dc) (x : St) : Int := onePF ds x.kind x.order x.loc (hidB ds x)
theorem dcp (l : List Dc) (i : Nat) (h : i < l.length) : tk 1 (((dcC l).drop (i * 3)).drop 1) = some [.bool l[i].plain] := by
  rw [dcC_at l i h]; rfl
theorem nmsS_len (x : St) (hs : sizeL x.exprs ≤ 800000) : (nmsS x).length ≤ 800001 := by
  unfold nmsS rgN0
  rw [(sortB_perm _).length_eq]
  have h1 := addA_len (nmSL [St.mk x.kind x.name [] 0 x.exprs [] []]) []
  have h2 := nmSL_len [St.mk x.kind x.name [] 0 x.exprs [] []]
  simp only [sizeSL, sizeS, List.length_nil] at h1 h2
  omega
theorem stmtX_ok (ds : List Dc) (x : St) (hd : ds.length ≤ 9223372036854775807) (hok : okS x) (hs : sizeL x.exprs ≤ 800000) : ValOK Tryz.prog runLives.gl 29 [.rs ds.length 3 (dcC ds), .agg x.cells] (.int .i64 (oneP ds x)) := by
  obtain ⟨k1, k2, k3, _, _, k4, _, _⟩ := okS_parts hok
  have hregs := (regsX_ok [alSt x.kind x.name [] 0 x.exprs] (alSt_ok k1 (by simp) k4 k3) (by simp) (by rw [alSt_size]; omega)).weak (al_weak x.kind x.name [] 0 x.exprs)
  have hO1 := tabF_sound hregs
  have hD := findD_lt ds x.loc
  have hnm : sortB (rgN0 [alSt x.kind x.name [] 0 x.exprs]) = nmsS x := rfl
  rw [hnm] at hO1 hregs
  have q1 : ∀ (o2 : Orc) H args, frzL (frz H 30) args = some [alA x.kind x.name [] 0 x.exprs.length (exC x.exprs)] → acall Tryz.prog (orcOr (orcD (tabF 30 [alA x.kind x.name [] 0 x.exprs.length (exC x.exprs)] (rsK (nmsS x)))) o2) H 30 args = some (rsK (nmsS x), kil (fun _ _ => true) 0 H) := fun o2 H args h => callOr1 (by kernel_rfl) (callD (by kernel_rfl) h (by unfold tabF; exact if_pos ⟨rfl, rfl⟩))
  have hlen : (nmsS x).length ≤ 800001 := nmsS_len x hs
  have hnm2 : nmsS x = nmsS x := rfl
  generalize hnm3 : nmsS x = nm at *
  obtain ⟨O, hO, p2, p3, -⟩ := fams (P := Tryz.prog) (gl := runLives.gl) [{ I := List UInt8, f := 27, G := fun _ => True, A := fun s => [.rs ds.length 3 (dcC ds), .str s], R := fun s => .int .i64 (findD ds s), body := (by kernel_rfl), inj := (fun i j _ _ h => by simp only [List.cons.injEq, AV.str.injEq, and_true, true_and] at h; rw [h]), ok := (fun s _ => ⟨rfl, findX_ok ds s hd⟩) },
    { I := Int × Int × Bool, f := 8, G := fun _ => True, A := fun p => [.int .i64 p.1, .int .i64 p.2.1, .bool p.2.2], R := fun p => .int .i64 (mayN p.1 p.2.1 p.2.2), body := (by kernel_rfl), inj := (fun i j _ _ h => by simp only [List.cons.injEq, AV.int.injEq, AV.bool.injEq, and_true, true_and] at h; rw [h.1, h.2.1, h.2.2]), ok := (fun p _ => ⟨rfl, mayX_ok p.1 p.2.1 p.2.2⟩) }] rfl
  have hOO := orcOr_sound hO1 hO
  have q2 : ∀ s H, acall Tryz.prog (orcOr (orcD (tabF 30 [alA x.kind x.name [] 0 x.exprs.length (exC x.exprs)] (rsK nm))) O) H 27 [.rs ds.length 3 (dcC ds), .str s] = some (.int .i64 (findD ds s), H) := fun s H => callOr2 (by kernel_rfl) (tabF_none (by decide) _ _) (p2 s trivial H)
  have q3 : ∀ k o p H, acall Tryz.prog (orcOr (orcD (tabF 30 [alA x.kind x.name [] 0 x.exprs.length (exC x.exprs)] (rsK nm))) O) H 8 [.int .i64 k, .int .i64 o, .bool p] = some (.int .i64 (mayN k o p), H) := fun k o p H => callOr2 (by kernel_rfl) (tabF_none (by decide) _ _) (p3 (k, o, p) trivial H)
  have q1 := q1 O
  clear p2 p3 hO hO1 hregs
  generalize orcOr (orcD (tabF 30 [alA x.kind x.name [] 0 x.exprs.length (exC x.exprs)] (rsK nm))) O = OO at *
  have hnl : nm.length ≤ 9223372036854775807 := by omega
  obtain ⟨kd, nam, loc, ord, ex, th, el⟩ := x
  simp only [St.kind, St.name, St.loc, St.order, St.exprs, St.cells, exA, alA, rsK] at *
  have hR0 : oneP ds (.mk kd nam loc ord ex th el) = onePF ds kd ord loc (anyD ds nm) := by rw [← hnm3]; rfl
  rw [hR0]
  clear hR0 hnm2 hnm3 hnm
  generalize hR0 : onePF ds kd ord loc (anyD ds nm) = R0
  unfold onePF at hR0
  refine fn_val follows noNum hOO Tryz.func29 rfl ?_
  cases hl : loc == [] with
  | true =>
    rw [hl] at hR0
    simp only [Bool.not_true, Bool.false_and, cond_false, cond_true] at hR0
    have hl2 : loc = [] := by simpa using hl
    subst hl2
    cases ho : ord == 0 with
    | true =>
      rw [ho] at hR0
      simp only [Bool.not_true, Bool.false_and, cond_false] at hR0
      have t2 : (ord != 0) = false := bne_of ho
      repeat' ((conv => whnf); first | (refine exI (q1 _ _ rfl) ?_) | (refine exI (q2 _ _) ?_) | (refine exI (q3 _ _ _ _) ?_) | (first | refine stp ?_ | with_reducible refine condB (fun h => ?_) (fun h => ?_)))
      (conv => whnf)
      refine ⟨Nat, (fun i => i ≤ nm.length ∧ anyD ds (nm.take i) = false), (fun i => [(0, .rs ds.length 3 (dcC ds)), (46, .rs nm.length 1 (nm.map .str)), (47, .int .i64 nm.length), (48, .int .i64 i)]), (fun _ => []), (fun i => nm.length - i), ⟨0, ⟨Nat.zero_le _, rfl⟩, FgL.mk0 rfl ?_⟩, ?_⟩
      · (repeat (first | exact trivial | refine stw ?_))
      rintro i ⟨hi, hno⟩
      dsimp only
      by_cases hlt : i < nm.length
      · have e1 : decide ((i : Int) < (nm.length : Int)) = true := by simpa using hlt
        have hx : tk 1 ((nm.map AV.str).drop (i * 1)) = some [AV.str nm[i]] := tk1_map AV.str nm i hlt (by omega)
        have hyes := anyD_at ds nm i hlt
        have hnx := anyD_next ds nm i hlt hno
        generalize nm[i] = s at *
        by_cases hf : 0 ≤ findD ds s
        · have e2 : decide (0 ≤ findD ds s) = true := by simpa using hf
          rw [hyes hf] at hR0
          simp only [cond_true] at hR0
          subst hR0
          repeat' ((conv => whnf); first | (refine exI hx ?_) | (refine exI (q2 _ _) ?_) | (with_reducible refine ixJ i rfl ?_ ?_; (focus (omega))) | (first | refine stp ?_ | with_reducible refine condB (fun h => ?_) (fun h => ?_)))
          all_goals rfl
        · have e2 : decide (0 ≤ findD ds s) = false := by simpa using hf
          have hnx2 := hnx (by omega)
          repeat' ((conv => whnf); first | (refine exI hx ?_) | (refine exI (q2 _ _) ?_) | (with_reducible refine ixJ i rfl ?_ ?_; (focus (omega))) | (first | refine stp ?_ | with_reducible refine condB (fun h => ?_) (fun h => ?_)))
          conv => whnf
          refine ⟨i + 1, ⟨hlt, hnx2⟩, by show nm.length - (i + 1) < nm.length - i; omega, FgL.mk0 rfl ?_⟩
          (repeat (first | exact trivial | refine stw ?_))
      · have e1 : decide ((i : Int) < (nm.length : Int)) = false := by simpa using hlt
        have hi2 : i = nm.length := by have := hi; omega
        subst hi2
        rw [List.take_length] at hno
        rw [hno] at hR0
        simp only [cond_false] at hR0
        subst hR0
        repeat' ((conv => whnf); first | refine stp ?_ | with_reducible refine condB (fun h => ?_) (fun h => ?_))
        all_goals rfl
    | false =>
      rw [ho] at hR0
      simp only [Bool.not_false, Bool.true_and] at hR0
      have t2 : (ord != 0) = true := bne_of ho
      cases hm : mayN kd ord false == 0 with
      | true =>
        rw [hm] at hR0
        simp only [Bool.not_true, cond_false] at hR0
        have t3 : (mayN kd ord false != 0) = false := bne_of hm
        repeat' ((conv => whnf); first | (refine exI (q1 _ _ rfl) ?_) | (refine exI (q2 _ _) ?_) | (refine exI (q3 _ _ _ _) ?_) | (first | refine stp ?_ | with_reducible refine condB (fun h => ?_) (fun h => ?_)))
        (conv => whnf)
        refine ⟨Nat, (fun i => i ≤ nm.length ∧ anyD ds (nm.take i) = false), (fun i => [(0, .rs ds.length 3 (dcC ds)), (46, .rs nm.length 1 (nm.map .str)), (47, .int .i64 nm.length), (48, .int .i64 i)]), (fun _ => []), (fun i => nm.length - i), ⟨0, ⟨Nat.zero_le _, rfl⟩, FgL.mk0 rfl ?_⟩, ?_⟩
        · (repeat (first | exact trivial | refine stw ?_))
        rintro i ⟨hi, hno⟩
        dsimp only
        by_cases hlt : i < nm.length
        · have e1 : decide ((i : Int) < (nm.length : Int)) = true := by simpa using hlt
          have hx : tk 1 ((nm.map AV.str).drop (i * 1)) = some [AV.str nm[i]] := tk1_map AV.str nm i hlt (by omega)
          have hyes := anyD_at ds nm i hlt
          have hnx := anyD_next ds nm i hlt hno
          generalize nm[i] = s at *
          by_cases hf : 0 ≤ findD ds s
          · have e2 : decide (0 ≤ findD ds s) = true := by simpa using hf
            rw [hyes hf] at hR0
            simp only [cond_true] at hR0
            subst hR0
            repeat' ((conv => whnf); first | (refine exI hx ?_) | (refine exI (q2 _ _) ?_) | (with_reducible refine ixJ i rfl ?_ ?_; (focus (omega))) | (first | refine stp ?_ | with_reducible refine condB (fun h => ?_) (fun h => ?_)))
            all_goals rfl
          · have e2 : decide (0 ≤ findD ds s) = false := by simpa using hf
            have hnx2 := hnx (by omega)
            repeat' ((conv => whnf); first | (refine exI hx ?_) | (refine exI (q2 _ _) ?_) | (with_reducible refine ixJ i rfl ?_ ?_; (focus (omega))) | (first | refine stp ?_ | with_reducible refine condB (fun h => ?_) (fun h => ?_)))
            conv => whnf
            refine ⟨i + 1, ⟨hlt, hnx2⟩, by show nm.length - (i + 1) < nm.length - i; omega, FgL.mk0 rfl ?_⟩
            (repeat (first | exact trivial | refine stw ?_))
        · have e1 : decide ((i : Int) < (nm.length : Int)) = false := by simpa using hlt
          have hi2 : i = nm.length := by have := hi; omega
          subst hi2
          rw [List.take_length] at hno
          rw [hno] at hR0
          simp only [cond_false] at hR0
          subst hR0
          repeat' ((conv => whnf); first | refine stp ?_ | with_reducible refine condB (fun h => ?_) (fun h => ?_))
          all_goals rfl
      | false =>
        rw [hm] at hR0
        simp only [Bool.not_false, cond_true] at hR0
        have t3 : (mayN kd ord false != 0) = true := bne_of hm
        have q3' := fun H => q3 kd ord false H
        generalize mayN kd ord false = mm at *
        subst hR0
        repeat' ((conv => whnf); first | (refine exI (q3' _) ?_) | (first | refine stp ?_ | with_reducible refine condB (fun h => ?_) (fun h => ?_)))
        all_goals rfl
  | false =>
    rw [hl] at hR0
    simp only [Bool.not_false, Bool.true_and, cond_false] at hR0
    have t0 : (!(loc == [])) = true := by rw [hl]; rfl
    rcases hD with hD | ⟨j, hD, hj, _⟩
    · rw [hD] at hR0
      have e0 : decide ((-1 : Int) < 0) = true := rfl
      simp only [e0, cond_true] at hR0
      subst hR0
      have q2' := fun H => (q2 loc H).trans (by rw [hD])
      repeat' ((conv => whnf); first | (refine exI (q2' _) ?_) | (first | refine stp ?_ | with_reducible refine condB (fun h => ?_) (fun h => ?_)))
      all_goals rfl
    · have e0 : decide (findD ds loc < 0) = false := by simp only [decide_eq_false_iff_not]; omega
      have e3 : plainAt ds (findD ds loc) = ds[j].plain := by unfold plainAt; rw [hD]; simp [hj]
      rw [e0, e3] at hR0
      simp only [cond_false] at hR0
      have hx2 := dcp ds j hj
      generalize ds[j].plain = pl at *
      have q2l := fun H => (q2 loc H).trans (by rw [hD])
      have e4 : decide ((j : Int) < 0) = false := by simp only [decide_eq_false_iff_not]; omega
      cases ho : ord == 0 with
      | true =>
        rw [ho] at hR0
        simp only [Bool.not_true, Bool.false_and, cond_false] at hR0
        have t2 : (ord != 0) = false := bne_of ho
        repeat' ((conv => whnf); first | (refine exI (q1 _ _ rfl) ?_) | (refine exI (q2l _) ?_) | (with_reducible refine ixJ j rfl ?_ ?_; (focus (omega))) | (refine exI hx2 ?_) | (first | refine stp ?_ | with_reducible refine condB (fun h => ?_) (fun h => ?_)))
        (conv => whnf)
        refine ⟨Nat, (fun i => i ≤ nm.length ∧ anyD ds (nm.take i) = false), (fun i => [(0, .rs ds.length 3 (dcC ds)), (46, .rs nm.length 1 (nm.map .str)), (47, .int .i64 nm.length), (48, .int .i64 i)]), (fun _ => []), (fun i => nm.length - i), ⟨0, ⟨Nat.zero_le _, rfl⟩, FgL.mk0 rfl ?_⟩, ?_⟩
        · (repeat (first | exact trivial | refine stw ?_))
        rintro i ⟨hi, hno⟩
        dsimp only
        by_cases hlt : i < nm.length
        · have e1 : decide ((i : Int) < (nm.length : Int)) = true := by simpa using hlt
          have hx : tk 1 ((nm.map AV.str).drop (i * 1)) = some [AV.str nm[i]] := tk1_map AV.str nm i hlt (by omega)
          have hyes := anyD_at ds nm i hlt
          have hnx := anyD_next ds nm i hlt hno
          generalize nm[i] = s at *
          by_cases hf : 0 ≤ findD ds s
          · have e2 : decide (0 ≤ findD ds s) = true := by simpa using hf
            rw [hyes hf] at hR0
            simp only [cond_true] at hR0
            subst hR0
            repeat' ((conv => whnf); first | (refine exI hx ?_) | (refine exI (q2 _ _) ?_) | (with_reducible refine ixJ i rfl ?_ ?_; (focus (omega))) | (first | refine stp ?_ | with_reducible refine condB (fun h => ?_) (fun h => ?_)))
            all_goals rfl
          · have e2 : decide (0 ≤ findD ds s) = false := by simpa using hf
            have hnx2 := hnx (by omega)
            repeat' ((conv => whnf); first | (refine exI hx ?_) | (refine exI (q2 _ _) ?_) | (with_reducible refine ixJ i rfl ?_ ?_; (focus (omega))) | (first | refine stp ?_ | with_reducible refine condB (fun h => ?_) (fun h => ?_)))
            conv => whnf
            refine ⟨i + 1, ⟨hlt, hnx2⟩, by show nm.length - (i + 1) < nm.length - i; omega, FgL.mk0 rfl ?_⟩
            (repeat (first | exact trivial | refine stw ?_))
        · have e1 : decide ((i : Int) < (nm.length : Int)) = false := by simpa using hlt
          have hi2 : i = nm.length := by have := hi; omega
          subst hi2
          rw [List.take_length] at hno
          rw [hno] at hR0
          simp only [cond_false] at hR0
          subst hR0
          repeat' ((conv => whnf); first | refine stp ?_ | with_reducible refine condB (fun h => ?_) (fun h => ?_))
          all_goals rfl
      | false =>
        rw [ho] at hR0
        simp only [Bool.not_false, Bool.true_and] at hR0
        have t2 : (ord != 0) = true := bne_of ho
        have q3' := fun H => q3 kd ord pl H
        cases hm : mayN kd ord pl == 0 with
        | true =>
          rw [hm] at hR0
          simp only [Bool.not_true, cond_false] at hR0
          have t3 : (mayN kd ord pl != 0) = false := bne_of hm
          generalize mayN kd ord pl = mm at *
          repeat' ((conv => whnf); first | (refine exI (q1 _ _ rfl) ?_) | (refine exI (q2l _) ?_) | (refine exI (q3' _) ?_) | (with_reducible refine ixJ j rfl ?_ ?_; (focus (omega))) | (refine exI hx2 ?_) | (first | refine stp ?_ | with_reducible refine condB (fun h => ?_) (fun h => ?_)))
          (conv => whnf)
          refine ⟨Nat, (fun i => i ≤ nm.length ∧ anyD ds (nm.take i) = false), (fun i => [(0, .rs ds.length 3 (dcC ds)), (46, .rs nm.length 1 (nm.map .str)), (47, .int .i64 nm.length), (48, .int .i64 i)]), (fun _ => []), (fun i => nm.length - i), ⟨0, ⟨Nat.zero_le _, rfl⟩, FgL.mk0 rfl ?_⟩, ?_⟩
          · (repeat (first | exact trivial | refine stw ?_))
          rintro i ⟨hi, hno⟩
          dsimp only
          by_cases hlt : i < nm.length
          · have e1 : decide ((i : Int) < (nm.length : Int)) = true := by simpa using hlt
            have hx : tk 1 ((nm.map AV.str).drop (i * 1)) = some [AV.str nm[i]] := tk1_map AV.str nm i hlt (by omega)
            have hyes := anyD_at ds nm i hlt
            have hnx := anyD_next ds nm i hlt hno
            generalize nm[i] = s at *
            by_cases hf : 0 ≤ findD ds s
            · have e2 : decide (0 ≤ findD ds s) = true := by simpa using hf
              rw [hyes hf] at hR0
              simp only [cond_true] at hR0
              subst hR0
              repeat' ((conv => whnf); first | (refine exI hx ?_) | (refine exI (q2 _ _) ?_) | (with_reducible refine ixJ i rfl ?_ ?_; (focus (omega))) | (first | refine stp ?_ | with_reducible refine condB (fun h => ?_) (fun h => ?_)))
              all_goals rfl
            · have e2 : decide (0 ≤ findD ds s) = false := by simpa using hf
              have hnx2 := hnx (by omega)
              repeat' ((conv => whnf); first | (refine exI hx ?_) | (refine exI (q2 _ _) ?_) | (with_reducible refine ixJ i rfl ?_ ?_; (focus (omega))) | (first | refine stp ?_ | with_reducible refine condB (fun h => ?_) (fun h => ?_)))
              conv => whnf
              refine ⟨i + 1, ⟨hlt, hnx2⟩, by show nm.length - (i + 1) < nm.length - i; omega, FgL.mk0 rfl ?_⟩
              (repeat (first | exact trivial | refine stw ?_))
          · have e1 : decide ((i : Int) < (nm.length : Int)) = false := by simpa using hlt
            have hi2 : i = nm.length := by have := hi; omega
            subst hi2
            rw [List.take_length] at hno
            rw [hno] at hR0
            simp only [cond_false] at hR0
            subst hR0
            repeat' ((conv => whnf); first | refine stp ?_ | with_reducible refine condB (fun h => ?_) (fun h => ?_))
            all_goals rfl
        | false =>
          rw [hm] at hR0
          simp only [Bool.not_false, cond_true] at hR0
          have t3 : (mayN kd ord pl != 0) = true := bne_of hm
          generalize mayN kd ord pl = mm at *
          subst hR0
          repeat' ((conv => whnf); first | (refine exI (q2l _) ?_) | (refine exI (q3' _) ?_) | (with_reducible refine ixJ j rfl ?_ ?_; (focus (omega))) | (refine exI hx2 ?_) | (first | refine stp ?_ | with_reducible refine condB (fun h => ?_) (fun h => ?_)))
          all_goals rfl
end Go.Proofs.YtblnhcafobifgaaGreatDoor.lex
end


section

set_option linter.unusedVariables false
set_option linter.unusedSimpArgs false
namespace Go.Proofs.YtblnhcafobifgaaGreatDoor.lex
open Go.Abs Go.RowKit
set_option maxRecDepth 100000
set_option maxHeartbeats 4000000
variable {gl : Glob}
def oneRF (ds : List Dc) (k o : Int) (loc : List UInt8) (hid : Bool) : Int :=
  cond (k == 7) (mayN k o false) (cond (!(loc == []) && decide (findD ds loc < 0)) 6
    (cond (!(loc == []) && !(mayN k o (plainAt ds (findD ds loc)) == 0)) (mayN k o (plainAt ds (findD ds loc))) (cond hid 6 0)))
def oneR (ds : List Dc) (x : St) : Int := oneRF ds x.kind x.order x.loc (hidB ds x)
end Go.Proofs.YtblnhcafobifgaaGreatDoor.lex
end


section

set_option linter.unusedVariables false
set_option linter.unusedSimpArgs false
namespace Go.Proofs.YtblnhcafobifgaaGreatDoor.lex
open Go.Abs Go.RowKit
set_option maxRecDepth 100000
set_option maxHeartbeats 4000000
variable {gl : Glob}
def thenN (r : Nat × Int) (g : Nat → Nat × Int) : Nat × Int := cond (r.2 == 0) (g r.1) r
mutual
def nbS (f : St → Int) : St → Nat → Nat × Int
  | .mk k n l o x t e, m => cond (f (.mk k n l o x t e) == 0) (thenN (nbSL f t (m + 1)) (nbSL f e)) (m, f (.mk k n l o x t e))
def nbSL (f : St → Int) : List St → Nat → Nat × Int
  | [], m => (m, 0)
  | x :: l, m => thenN (nbS f x m) (nbSL f l)
end
theorem nbS_eq (f : St → Int) (x : St) (m : Nat) : nbS f x m = cond (f x == 0) (thenN (nbSL f x.thn (m + 1)) (nbSL f x.els)) (m, f x) := by
  obtain ⟨k, n, l, o, x, t, e⟩ := x
  simp only [nbS, St.thn, St.els]
theorem nbSL_at (f : St → Int) : ∀ (l : List St) (m i : Nat) (h : i < l.length), (nbSL f (l.take i) m).2 = 0 → nbSL f (l.take (i + 1)) m = nbS f l[i] (nbSL f (l.take i) m).1
  | x :: l, m, 0, h, _ => by
    simp only [List.take_zero, List.take_succ_cons, nbSL, List.getElem_cons_zero, thenN]
    generalize nbS f x m = r
    cases hr : r.2 == 0 with
    | true => simp only [cond_true]; have : r.2 = 0 := by simpa using hr
              rw [← this]
    | false => simp only [cond_false]
  | x :: l, m, i + 1, h, h0 => by
    simp only [List.take_succ_cons, nbSL, List.getElem_cons_succ, thenN] at h0 ⊢
    generalize nbS f x m = r at *
    cases hr : r.2 == 0 with
    | true =>
      rw [hr] at h0
      simp only [cond_true] at h0 ⊢
      exact nbSL_at f l r.1 i (by simpa using h) h0
    | false =>
      rw [hr] at h0
      simp only [cond_false] at h0
      rw [h0] at hr; cases hr
theorem nbSL_stop (f : St → Int) : ∀ (l : List St) (m i : Nat), (nbSL f (l.take i) m).2 ≠ 0 → nbSL f l m = nbSL f (l.take i) m
  | [], m, i, h => by simp
  | x :: l, m, 0, h => by simp [nbSL] at h
  | x :: l, m, i + 1, h => by
    simp only [List.take_succ_cons, nbSL, thenN] at h ⊢
    generalize nbS f x m = r at *
    cases hr : r.2 == 0 with
    | true =>
      rw [hr] at h
      simp only [cond_true] at h ⊢
      exact nbSL_stop f l r.1 i h
    | false => simp only [cond_false]
mutual
theorem nbS_le (f : St → Int) : ∀ (x : St) (m : Nat), m ≤ (nbS f x m).1 ∧ (nbS f x m).1 ≤ m + sizeS x
  | .mk k n l o x t e, m => by
    simp only [nbS, sizeS, thenN]
    have h1 := nbSL_le f t (m + 1)
    generalize nbSL f t (m + 1) = r at *
    have h2 := nbSL_le f e r.1
    cases f (.mk k n l o x t e) == 0 <;> cases r.2 == 0 <;> simp only [cond_true, cond_false] <;> omega
theorem nbSL_le (f : St → Int) : ∀ (l : List St) (m : Nat), m ≤ (nbSL f l m).1 ∧ (nbSL f l m).1 ≤ m + sizeSL l
  | [], m => by simp only [nbSL, sizeSL]; omega
  | x :: l, m => by
    simp only [nbSL, sizeSL, thenN]
    have h1 := nbS_le f x m
    generalize nbS f x m = r at *
    have h2 := nbSL_le f l r.1
    cases r.2 == 0 <;> simp only [cond_true, cond_false] <;> omega
end
theorem sizeSL_at : ∀ (l : List St) (i : Nat) (h : i < l.length), sizeSL (l.take i) + sizeS l[i] ≤ sizeSL l
  | x :: l, 0, h => by simp [sizeSL]
  | x :: l, i + 1, h => by
    simp only [List.take_succ_cons, sizeSL, List.getElem_cons_succ]
    have := sizeSL_at l i (by simpa using h)
    omega
theorem sizeS_kids (x : St) : sizeS x = 1 + sizeL x.exprs + sizeSL x.thn + sizeSL x.els := by cases x; simp only [sizeS, St.exprs, St.thn, St.els]
theorem agg_cells_inj {x y : St} (h : AV.agg x.cells = .agg y.cells) : x = y := by
  have : stA [x] = stA [y] := by
    simp only [AV.agg.injEq] at h
    simp only [stA, stC, h]; rfl
  have := stA_inj this
  simpa using this
theorem st_refs2 (ds : List Dc) (x : St) : refsL [.rs ds.length 3 (dcC ds), .agg x.cells] [] = [] := by cases x; rfl
end Go.Proofs.YtblnhcafobifgaaGreatDoor.lex
end


section

set_option linter.unusedVariables false
set_option linter.unusedSimpArgs false
namespace Go.Proofs.YtblnhcafobifgaaGreatDoor.lex
open Go.Abs Go.RowKit
set_option maxRecDepth 100000
set_option maxHeartbeats 4000000
end Go.Proofs.YtblnhcafobifgaaGreatDoor.lex
end


section

set_option linter.unusedVariables false
set_option linter.unusedSimpArgs false
namespace Go.Proofs.YtblnhcafobifgaaGreatDoor.lex
open Go.Abs Go.RowKit
set_option maxRecDepth 100000
set_option maxHeartbeats 8000000
def isW (m : Bool) (s : List UInt8) : Bool := if m then wordB s else s == []
def hasN (k : Int) : Bool := k == 1 || (k == 2 || (k == 4 || (k == 5 || k == 6)))
def hasL (k : Int) : Bool := decide (2 ≤ k ∧ k ≤ 6)
def hasO (k : Int) : Bool := decide (2 ≤ k ∧ k ≤ 7)
def hasX (k : Int) : Nat := if k = 2 ∨ k = 7 then 0 else if k = 4 then 2 else 1
def hasT (k : Int) : Bool := k == 10 || k == 11
def hasE (k : Int) : Bool := k == 10
def ownSF (kind : Int) (name loc : List UInt8) (order : Int) (nx nt ne : Nat) : Bool :=
  decide (1 ≤ kind ∧ kind ≤ 11) && (isW (hasN kind) name && (isW (hasL kind) loc && ((if hasO kind then decide (1 ≤ order ∧ order ≤ 6) else order == 0) && (decide (nx = hasX kind) && ((hasT kind || decide (nt = 0)) && (hasE kind || decide (ne = 0)))))))
def ownS (x : St) : Bool := ownSF x.kind x.name x.loc x.order x.exprs.length x.thn.length x.els.length
theorem rightS_key (kind : Int) (name loc : List UInt8) (order : Int) (nx nt ne : Nat) (cx ct ce rest : List AV) (d : Int) (hn : name.length ≤ 9223372036854775807) (hl : loc.length ≤ 9223372036854775807) :
    ValOK Tryz.prog runLives.gl 48 [.rp (.int .i64 kind :: .str name :: .str loc :: .int .i64 order :: .rs nx 4 cx :: .rs nt 7 ct :: .rs ne 7 ce :: rest), .int .i64 d] (.bool (ownSF kind name loc order nx nt ne)) := by
  have hb : hasBody Tryz.prog 45 = true := by kernel_rfl
  have q1 : ∀ (m : Bool) (H : AHeap), acall Tryz.prog (orcZ isWordF) H 45 [.str name, .bool m] = some (.bool (isW m name), H) := fun m H => callZ hb rfl (by simp only [isWordF, isW]; rw [if_pos hn])
  have q2 : ∀ (m : Bool) (H : AHeap), acall Tryz.prog (orcZ isWordF) H 45 [.str loc, .bool m] = some (.bool (isW m loc), H) := fun m H => callZ hb rfl (by simp only [isWordF, isW]; rw [if_pos hl])
  by_cases h1 : kind < 1
  · have e1 : decide (kind < 1) = true := by simpa using h1
    refine fn_val follows noNum isWordF_sound Tryz.func48 rfl ?_
    repeat' ((conv => whnf); (first | refine stp ?_ | with_reducible refine condB (fun h => ?_) (fun h => ?_)))
    all_goals (show AV.bool _ = AV.bool _; congr 1; unfold ownSF; symm; rw [Bool.and_eq_false_iff]; left; simpa using fun h => absurd h (by omega))
  · have e1 : decide (kind < 1) = false := by simpa using h1
    by_cases h2 : 11 < kind
    · have e2 : decide (kind > 11) = true := by simpa using h2
      refine fn_val follows noNum isWordF_sound Tryz.func48 rfl ?_
      repeat' ((conv => whnf); (first | refine stp ?_ | with_reducible refine condB (fun h => ?_) (fun h => ?_)))
      all_goals (show AV.bool _ = AV.bool _; congr 1; unfold ownSF; symm; rw [Bool.and_eq_false_iff]; left; simpa using fun _ => h2)
    · clear e1
      have hop : kind = 1 ∨ kind = 2 ∨ kind = 3 ∨ kind = 4 ∨ kind = 5 ∨ kind = 6 ∨ kind = 7 ∨ kind = 8 ∨ kind = 9 ∨ kind = 10 ∨ kind = 11 := by omega
      clear h1 h2
      have b1 : ∀ m, isW m name = true ∨ isW m name = false := fun m => by cases isW m name <;> simp
      have b2 : ∀ m, isW m loc = true ∨ isW m loc = false := fun m => by cases isW m loc <;> simp
      rcases hop with rfl | rfl | rfl | rfl | rfl | rfl | rfl | rfl | rfl | rfl | rfl
      all_goals (refine fn_val follows noNum isWordF_sound Tryz.func48 rfl ?_)
      all_goals (repeat' ((conv => whnf); first | (refine exI (q1 _ _) ?_) | (refine exI (q2 _ _) ?_) | (first | refine stp ?_ | with_reducible refine condB (fun h => ?_) (fun h => ?_))))
      all_goals (clear q1 q2 hb b1 b2)
      all_goals (first | rfl | (show AV.bool _ = AV.bool _; rw [AV.bool.injEq, Bool.eq_iff_iff]; simp_all [ownSF, hasN, hasL, hasO, hasX, hasT, hasE]; done) | (show AV.bool _ = AV.bool _; rw [AV.bool.injEq, Bool.eq_iff_iff]; simp_all [ownSF, hasN, hasL, hasO, hasX, hasT, hasE]; omega) | skip)
      all_goals trace_state
end Go.Proofs.YtblnhcafobifgaaGreatDoor.lex
end


section

set_option linter.unusedVariables false
set_option linter.unusedSimpArgs false
namespace Go.Proofs.YtblnhcafobifgaaGreatDoor.lex
open Go.Abs Go.RowKit
set_option maxRecDepth 100000
set_option maxHeartbeats 4000000
def rS (x : St) (_ : Int) (s : Unit) : Bool × Unit := (ownS x, s)
mutual
def rightS : St → Bool
  | .mk k n l o x t e => ownS (.mk k n l o x t e) && (rightL x && (rightSL t && rightSL e))
def rightSL : List St → Bool
  | [] => true
  | x :: l => rightS x && rightSL l
end
theorem rightS_eq : ∀ x : St, rightS x = (ownS x && (rightL x.exprs && (rightSL x.thn && rightSL x.els)))
  | .mk _ _ _ _ _ _ _ => by simp only [rightS, St.exprs, St.thn, St.els]
mutual
theorem goS_r : ∀ (x : St) (d : Int) (s : Unit), goS rE rS x d s = (rightS x, ())
  | .mk k n l o x t e, d, s => by
    simp only [goS, rS, rightS, goL_r x (d + 1) (), goSL_r t (d + 1) (), goSL_r e (d + 1) (), thenB]
    cases ownS (.mk k n l o x t e) <;> cases rightL x <;> cases rightSL t <;> rfl
theorem goSL_r : ∀ (l : List St) (d : Int) (s : Unit), goSL rE rS l d s = (rightSL l, ())
  | [], d, s => by simp only [goSL, rightSL]
  | x :: l, d, s => by
    simp only [goSL, goS_r x d s, goSL_r l d (), rightSL, thenB]
    cases rightS x <;> rfl
end
def rV : TvS runLives.gl where
  σ := Unit
  Mem := fun _ => []
  k := 0
  len := fun _ => rfl
  same := fun _ => ⟨trivial, rfl, rfl⟩
  evo := fun _ _ => rfl
  inj := fun _ _ _ => rfl
  I := fun d s m => 0 ≤ d ∧ d + m ≤ 1152921504606846976
  up := fun d s m h0 h => ⟨h0, by have := h.2; omega⟩
  less := fun d s m h => ⟨h.1, by have := h.2; omega⟩
  bnd := fun d s m h => ⟨h.1, by have := h.2; omega⟩
  gE := 47
  cE := []
  hE := rE
  bodyE := by kernel_rfl
  wkE := trivial
  okE := fun e rest d s m ho _ => mem_of_val (rightX_ok e rest d ho) rfl
  downE := fun e d s m h _ => ⟨by have := h.1; omega, by have := h.2; omega⟩
  gS := 48
  cS := []
  hS := rS
  bodyS := by kernel_rfl
  wkS := trivial
  okS := fun x rest d s m ho _ => by
    refine mem_of_val ?_ rfl
    obtain ⟨k1, k2, _⟩ := okS_parts ho
    obtain ⟨k, n, l, o, x, t, e⟩ := x
    simp only [St.cells, exA]
    exact rightS_key k n l o x.length t.length e.length _ _ _ rest d k1 k2
  downS := fun e d s m h _ => ⟨by have := h.1; omega, by have := h.2; omega⟩
theorem stmts_r (l : List St) (d : Int) (hok : okSL l) (hl : l.length ≤ 9223372036854775807) (h0 : 0 ≤ d) (h1 : d + sizeSL l ≤ 1152921504606846976) : ValOK Tryz.prog runLives.gl 46 [stA l, .int .i64 d, .func (.func 47) [] [], .func (.func 48) [] []] (.bool (rightSL l)) := by
  have := TvS.stmts rV (sizeSL l) l d () 0 (Nat.le_refl _) hok hl ⟨h0, h1⟩
  have e : (goSL rV.hE rV.hS l d ()).1 = rightSL l := by
    have := goSL_r l d ()
    show (goSL rE rS l d ()).1 = _
    rw [this]
  rw [e] at this
  exact val_of_mem this rfl
def cS (_ : St) (d : Int) (n : Nat) : Bool × Nat := (decide (((n + 1 : Nat) : Int) ≤ 2000) && decide (d ≤ 32), n + 1)
mutual
theorem goS_c : ∀ (x : St) (d : Int) (n : Nat), Cnt (goS cE cS x d n) n (sizeS x) (d + deepS x)
  | .mk k nm lc o x t e, d, n => by
    simp only [goS]
    refine Cnt.to (cnt_then (cnt_one d n) fun h1 h2 => cnt_then (goL_c x (d + 1) (n + 1) h1 h2) fun h1 _ => cnt_then (goSL_c t (d + 1) _ h1 h2) fun h1 _ => goSL_c e (d + 1) _ h1 h2) ?_ ?_
    · simp only [sizeS]; omega
    · simp only [deepS]; omega
theorem goSL_c : ∀ (l : List St) (d : Int) (n : Nat), n ≤ 2000 → d ≤ 33 → Cnt (goSL cE cS l d n) n (sizeSL l) (d + deepSL l)
  | [], d, n, h1, h2 => by simp only [goSL, sizeSL, deepSL]; exact ⟨⟨fun _ => by omega, fun _ => rfl⟩, fun _ => rfl⟩
  | e :: l, d, n, h1, h2 => by
    simp only [goSL]
    exact (cnt_then (goS_c e d n) fun h1 _ => goSL_c l d _ h1 h2).to (by simp only [sizeSL]) (by simp only [deepSL]; omega)
end
end Go.Proofs.YtblnhcafobifgaaGreatDoor.lex
end


section

set_option linter.unusedVariables false
set_option linter.unusedSimpArgs false
namespace Go.Proofs.YtblnhcafobifgaaGreatDoor.lex
open Go.Abs Go.RowKit
set_option maxRecDepth 100000
set_option maxHeartbeats 4000000
def deepTL : List (List St) → Nat
  | [] => 0
  | l :: t => max (deepSL l) (deepTL t)
end Go.Proofs.YtblnhcafobifgaaGreatDoor.lex
end


section

set_option linter.unusedVariables false
set_option linter.unusedSimpArgs false
namespace Go.Proofs.YtblnhcafobifgaaGreatDoor.lex
open Go.Abs Go.RowKit
set_option maxRecDepth 100000
set_option maxHeartbeats 4000000
def ckB (n : Nat) (g : Bool) : AHeap := [⟨true, 0, 0, .cells [.int .i64 n] 3⟩, ⟨true, 1, 0, .cells [.bool g] 4⟩, ⟨true, 2, 0, .cells [.func (.func 71) [] [.ptr 0 0]] 80⟩]
def ckH (s : Nat × Bool) : AHeap := [⟨true, 0, 0, .cells [.int .i64 s.1] 3⟩, ⟨true, 1, 0, .cells [.bool s.2] 4⟩, ⟨true, 2, 0, .cells [.func (.func 71) [] [.ptr 0 0]] 80⟩, ⟨true, 3, 0, .cells [.func (.func 44) [] [.ptr 2 0, .ptr 1 0]] 80⟩]
def lim (n : Nat) (d : Int) : Bool := decide (((n + 1 : Nat) : Int) ≤ 2000) && decide (d ≤ 32)
def ckE (_ : Ex) (d : Int) (s : Nat × Bool) : Bool × (Nat × Bool) := (lim s.1 d, (s.1 + 1, lim s.1 d))
def ckS (_ : St) (d : Int) (s : Nat × Bool) : Bool × (Nat × Bool) := (lim s.1 d, (s.1 + 1, lim s.1 d))
theorem ck1_ok (cs : List AV) (d : Int) (n : Nat) (g : Bool) (hn : n ≤ 2000) : MemOK Tryz.prog runLives.gl 72 [.rp cs, .int .i64 d, .ptr 3 0] (ckH (n, g)) (.bool (lim n d)) (ckH (n + 1, lim n d)) := by
  refine fn_mem (k := 4) follows noNum (orcN_sound follows noNum isWordF_sound 4) rfl Tryz.func72 rfl (wcall_ok (isC := fun _ => false) 4) ?_
  repeat' ((conv => whnf); first | refine stp ?_ | with_reducible refine condB (fun h => ?_) (fun h => ?_))
  all_goals (conv => whnf)
  all_goals (exact ⟨by unfold lim; rw [h]; rfl, by unfold lim; rw [h]; rfl, rfl⟩)
theorem ck2_ok (cs : List AV) (d : Int) (n : Nat) (g : Bool) (hn : n ≤ 2000) : MemOK Tryz.prog runLives.gl 73 [.rp cs, .int .i64 d, .ptr 3 0] (ckH (n, g)) (.bool (lim n d)) (ckH (n + 1, lim n d)) := by
  refine fn_mem (k := 4) follows noNum (orcN_sound follows noNum isWordF_sound 4) rfl Tryz.func73 rfl (wcall_ok (isC := fun _ => false) 4) ?_
  repeat' ((conv => whnf); first | refine stp ?_ | with_reducible refine condB (fun h => ?_) (fun h => ?_))
  all_goals (conv => whnf)
  all_goals (exact ⟨by unfold lim; rw [h]; rfl, by unfold lim; rw [h]; rfl, rfl⟩)
theorem ckH_inj {a b : Nat × Bool} (h : ckH a = ckH b) : a = b := by
  simp only [ckH, List.cons.injEq, AObj.mk.injEq, ABody.cells.injEq, AV.int.injEq, AV.bool.injEq, and_true, true_and] at h
  obtain ⟨x, y⟩ := a
  obtain ⟨z, w⟩ := b
  simp only at h
  rw [show x = z by omega, h.2]
def tw (r : Bool × Nat) : Bool × (Nat × Bool) := (r.1, (r.2, r.1))
theorem tw_then {r : Bool × Nat} {f : Nat → Bool × Nat} {f' : Nat × Bool → Bool × (Nat × Bool)} (h : ∀ n, f' (n, true) = tw (f n)) : thenB (tw r) f' = tw (thenB r f) := by
  obtain ⟨b, n⟩ := r
  cases b with
  | true => exact h n
  | false => rfl
mutual
theorem goE_ck : ∀ (e : Ex) (d : Int) (n : Nat), goE ckE e d (n, true) = tw (goE cE e d n)
  | .mk o num s k, d, n => by
    have e1 : goE ckE (.mk o num s k) d (n, true) = thenB (tw (cE (.mk o num s k) d n)) fun s => goL ckE k (d + 1) s := by simp only [goE]; rfl
    have e2 : goE cE (.mk o num s k) d n = thenB (cE (.mk o num s k) d n) fun s => goL cE k (d + 1) s := by simp only [goE, thenB]
    rw [e1, e2]
    exact tw_then fun n => goL_ck k (d + 1) n
theorem goL_ck : ∀ (l : List Ex) (d : Int) (n : Nat), goL ckE l d (n, true) = tw (goL cE l d n)
  | [], d, n => by simp only [goL, tw]
  | e :: l, d, n => by
    have e1 : goL ckE (e :: l) d (n, true) = thenB (goE ckE e d (n, true)) fun s => goL ckE l d s := by simp only [goL, thenB]
    have e2 : goL cE (e :: l) d n = thenB (goE cE e d n) fun s => goL cE l d s := by simp only [goL, thenB]
    rw [e1, e2, goE_ck e d n]
    exact tw_then fun n => goL_ck l d n
end
mutual
theorem goS_ck : ∀ (x : St) (d : Int) (n : Nat), goS ckE ckS x d (n, true) = tw (goS cE cS x d n)
  | .mk k nm lc o x t e, d, n => by
    simp only [goS]
    rw [show ckS (.mk k nm lc o x t e) d (n, true) = tw (cS (.mk k nm lc o x t e) d n) from rfl]
    exact tw_then fun n => by
      rw [goL_ck x (d + 1) n]
      exact tw_then fun n => by
        rw [goSL_ck t (d + 1) n]
        exact tw_then fun n => goSL_ck e (d + 1) n
theorem goSL_ck : ∀ (l : List St) (d : Int) (n : Nat), goSL ckE ckS l d (n, true) = tw (goSL cE cS l d n)
  | [], d, n => by simp only [goSL, tw]
  | e :: l, d, n => by
    simp only [goSL]
    rw [goS_ck e d n]
    exact tw_then fun n => goSL_ck l d n
end
theorem ckV_down (d : Int) (s : Nat × Bool) (h : 0 ≤ d ∧ d ≤ 33 ∧ s.1 ≤ 2000) (ht : lim s.1 d = true) : 0 ≤ d + 1 ∧ d + 1 ≤ 33 ∧ s.1 + 1 ≤ 2000 :=
  have h2 : s.1 + 1 ≤ 2000 ∧ d + 1 ≤ 33 := (cnt_one d s.1).1.1 ht
  have h3 : 0 ≤ d := h.1
  ⟨by clear h ht h2; omega, h2.2, h2.1⟩
theorem ckV_up (d : Int) (s : Nat × Bool) (h0 : 0 ≤ d) (h : 0 ≤ d + 1 ∧ d + 1 ≤ 33 ∧ s.1 ≤ 2000) : 0 ≤ d ∧ d ≤ 33 ∧ s.1 ≤ 2000 := ⟨h0, by have := h.2.1; clear h; omega, h.2.2⟩
theorem ckV_bnd (d : Int) (s : Nat × Bool) (h : 0 ≤ d ∧ d ≤ 33 ∧ s.1 ≤ 2000) : 0 ≤ d ∧ d ≤ 1152921504606846976 := ⟨h.1, by have := h.2.1; clear h; omega⟩
def ckV : TvS runLives.gl where
  σ := Nat × Bool
  Mem := ckH
  k := 4
  len := fun _ => rfl
  same := fun s => ⟨⟨⟨rfl, rfl, rfl, rfl, BodyGe.pre (rest := []) rfl rfl⟩, ⟨rfl, rfl, rfl, rfl, BodyGe.pre (rest := []) rfl rfl⟩, ⟨rfl, rfl, rfl, rfl, BodyGe.cellsL ⟨Wk.func trivial ⟨Wk.ptr rfl rfl, trivial⟩, trivial⟩⟩, ⟨rfl, rfl, rfl, rfl, BodyGe.cellsL ⟨Wk.func trivial ⟨Wk.ptr rfl rfl, Wk.ptr rfl rfl, trivial⟩, trivial⟩⟩, trivial⟩, rfl, rfl⟩
  evo := fun _ _ => rfl
  inj := fun _ _ h => ckH_inj h
  I := fun d s m => 0 ≤ d ∧ d ≤ 33 ∧ s.1 ≤ 2000
  up := fun d s m h0 h => ckV_up d s h0 h
  less := fun d s m h => h
  bnd := fun d s m h => ckV_bnd d s h
  gE := 72
  cE := [.ptr 3 0]
  hE := ckE
  bodyE := by kernel_rfl
  wkE := ⟨Wk.ptr rfl rfl, trivial⟩
  okE := fun e rest d s m _ h => ck1_ok (e.cells ++ rest) d s.1 s.2 h.2.2
  downE := fun e d s m h ht => ckV_down d s h ht
  gS := 73
  cS := [.ptr 3 0]
  hS := ckS
  bodyS := by kernel_rfl
  wkS := ⟨Wk.ptr rfl rfl, trivial⟩
  okS := fun x rest d s m _ h => ck2_ok (x.cells ++ rest) d s.1 s.2 h.2.2
  downS := fun e d s m h ht => ckV_down d s h ht
def ckF : AV := .func (.func 72) [] [.ptr 3 0]
def ckG : AV := .func (.func 73) [] [.ptr 3 0]
theorem ck_stmts (l : List St) (n : Nat) (hok : okSL l) (hl : l.length ≤ 9223372036854775807) (hn : n ≤ 2000) : MemOK Tryz.prog runLives.gl 46 [stA l, .int .i64 1, ckF, ckG] (ckH (n, true)) (.bool (goSL cE cS l 1 n).1) (ckH ((goSL cE cS l 1 n).2, (goSL cE cS l 1 n).1)) := by
  have := TvS.stmts ckV (sizeSL l) l 1 (n, true) 0 (Nat.le_refl _) hok hl ⟨by decide, by decide, hn⟩
  have e : goSL ckV.hE ckV.hS l 1 (n, true) = tw (goSL cE cS l 1 n) := goSL_ck l 1 n
  rw [e] at this
  exact this
def cnH (n : Nat) (g : Bool) (nd nt : Nat) (cd ct : List AV) : AHeap := [⟨true, 0, 0, .cells [.int .i64 n] 3⟩, ⟨true, 1, 0, .cells [.bool g] 4⟩, ⟨true, 2, 0, .cells [.func (.func 71) [] [.ptr 0 0]] 80⟩, ⟨true, 3, 0, .cells [.rs nd 3 cd, .rs nt 1 ct] 29⟩, ⟨true, 4, 0, .cells [.func (.func 44) [] [.ptr 2 0, .ptr 1 0]] 80⟩]
def cnF : AV := .func (.func 72) [] [.ptr 4 0]
def cnG : AV := .func (.func 73) [] [.ptr 4 0]
theorem ck_nd (nd nt : Nat) (cd ct : List AV) (l : List St) (n : Nat) (hok : okSL l) (hl : l.length ≤ 9223372036854775807) (hn : n ≤ 2000) : MemOK Tryz.prog runLives.gl 46 [stA l, .int .i64 1, cnF, cnG] (cnH n true nd nt cd ct) (.bool (goSL cE cS l 1 n).1) (cnH (goSL cE cS l 1 n).2 (goSL cE cS l 1 n).1 nd nt cd ct) := by
  have hM := ck_stmts l n hok hl hn
  generalize goSL cE cS l 1 n = r at *
  have h := mem_frame (m := [0, 1, 2, 4]) (n := 5) (Hc := cnH n true nd nt cd ct) (cargs := [stA l, .int .i64 1, cnF, cnG]) hM ?_ ?_ rfl rfl rfl rfl rfl rfl
  · have e1 : updM [0, 1, 2, 4] (ckH (r.2, r.1)) 0 (cnH n true nd nt cd ct) = cnH r.2 r.1 nd nt cd ct := rfl
    rw [e1] at h
    exact h
  · rfl
  · exact ⟨⟨rfl, rfl, rfl, rfl, BodyGe.pre (rest := []) rfl rfl⟩, ⟨rfl, rfl, rfl, rfl, BodyGe.pre (rest := []) rfl rfl⟩, ⟨rfl, rfl, rfl, rfl, BodyGe.cellsL ⟨Wk.func trivial ⟨Wk.ptr rfl rfl, trivial⟩, trivial⟩⟩, ⟨rfl, rfl, rfl, rfl, BodyGe.cellsL ⟨Wk.func trivial ⟨Wk.ptr rfl rfl, Wk.ptr rfl rfl, trivial⟩, trivial⟩⟩, trivial⟩
def goT (g : List St → Nat → Bool × Nat) : List (List St) → Nat → Bool × Nat
  | [], n => (true, n)
  | l :: t, n => thenB (g l n) fun n => goT g t n
theorem goT_at {g : List St → Nat → Bool × Nat} : ∀ (t : List (List St)) (n i : Nat) (hi : i < t.length), (goT g (t.take i) n).1 = true → goT g (t.take (i + 1)) n = g t[i] (goT g (t.take i) n).2
  | e :: l, n, 0, _, _ => by
    simp only [List.take_zero, List.take_succ_cons, goT, List.getElem_cons_zero, thenB]
    split
    · rename_i h2; rw [← h2]
    · rename_i h2; rw [← Bool.eq_false_iff.2 h2]
  | e :: l, n, i + 1, hi, ht => by
    simp only [List.take_succ_cons, goT, List.getElem_cons_succ, thenB] at ht ⊢
    split
    · rename_i h2
      rw [if_pos h2] at ht
      exact goT_at l _ i (by simpa using hi) ht
    · rename_i h2; rw [if_neg h2] at ht; cases ht
theorem goT_stop {g : List St → Nat → Bool × Nat} : ∀ (t : List (List St)) (n i : Nat), (goT g (t.take i) n).1 = false → goT g t n = goT g (t.take i) n
  | [], n, i, hf => by simp
  | e :: l, n, 0, hf => by simp only [List.take_zero, goT] at hf; cases hf
  | e :: l, n, i + 1, hf => by
    simp only [List.take_succ_cons, goT, thenB] at hf ⊢
    split
    · rename_i h2
      rw [if_pos h2] at hf
      exact goT_stop l _ i hf
    · rfl
def cT (ts : List (List St)) (n : Nat) : Bool × Nat := goT (fun l n => goSL cE cS l 1 n) ts n
theorem cT_cnt : ∀ (ts : List (List St)) (n : Nat), n ≤ 2000 → Cnt (cT ts n) n (sizeTL ts) (1 + deepTL ts)
  | [], n, h => by
    simp only [cT, goT, sizeTL, deepTL]
    exact ⟨⟨fun _ => by omega, fun _ => rfl⟩, fun _ => rfl⟩
  | l :: t, n, h => by
    have := cnt_then (f := fun n => cT t n) (goSL_c l 1 n h (by omega)) fun h1 _ => cT_cnt t _ h1
    refine Cnt.to this (by simp only [sizeTL]) ?_
    simp only [deepTL]; omega
theorem nodes_ck (ts : List (List St)) (nd : Nat) (cd : List AV) (hok : okTL ts) (hl : ts.length ≤ 9223372036854775807) :
    MemOK Tryz.prog runLives.gl 43 [.agg [.rs nd 3 cd, .rs ts.length 1 (ts.map stA)], .func (.func 44) [] [.ptr 2 0, .ptr 1 0]] (ckB 0 true) (.tuple []) (ckB (cT ts 0).2 (cT ts 0).1) := by
  obtain ⟨O, hO, ⟨p1, -⟩, -⟩ := famsM (P := Tryz.prog) (gl := runLives.gl) [{ I := List St × Nat, f := 46, G := (fun p => okSL p.1 ∧ p.1.length ≤ 9223372036854775807 ∧ p.2 ≤ 2000), A := (fun p => [stA p.1, .int .i64 1, cnF, cnG]), H := (fun p => cnH p.2 true nd ts.length cd (ts.map stA)), R := (fun p => .bool (goSL cE cS p.1 1 p.2).1), O := (fun p => cnH (goSL cE cS p.1 1 p.2).2 (goSL cE cS p.1 1 p.2).1 nd ts.length cd (ts.map stA)), body := (by kernel_rfl), inj := (fun p q _ _ ha hh => by simp only [List.cons.injEq, and_true] at ha; simp only [cnH, List.cons.injEq, AObj.mk.injEq, ABody.cells.injEq, AV.int.injEq, and_true, true_and] at hh; rw [stA_inj ha, show p.2 = q.2 by omega]; exact ⟨rfl, rfl⟩), ok := (fun p hp => ck_nd _ _ _ _ p.1 p.2 hp.1 hp.2.1 hp.2.2) }] [] rfl
  have q1 : ∀ l n, okSL l → l.length ≤ 9223372036854775807 → n ≤ 2000 → acall Tryz.prog O (cnH n true nd ts.length cd (ts.map stA)) 46 [stA l, .int .i64 1, cnF, cnG] = some (.bool (goSL cE cS l 1 n).1, cnH (goSL cE cS l 1 n).2 (goSL cE cS l 1 n).1 nd ts.length cd (ts.map stA)) := fun l n h1 h2 h3 => p1 (l, n) ⟨h1, h2, h3⟩
  clear p1
  refine fn_mem (k := 3) follows noNum hO rfl Tryz.func43 rfl (cw0_ok _ _) ?_
  repeat' ((conv => whnf); first | refine stp ?_ | with_reducible refine condB (fun h => ?_) (fun h => ?_))
  conv => whnf
  refine ⟨Nat, (fun i => i ≤ ts.length ∧ (cT (ts.take i) 0).1 = true), (fun i => [(4, cnF), (5, cnG), (11, .rs ts.length 1 (ts.map stA)), (12, .int .i64 ts.length), (13, .int .i64 i)]), (fun i => cnH (cT (ts.take i) 0).2 true nd ts.length cd (ts.map stA)), (fun i => ts.length - i), ⟨0, ⟨Nat.zero_le _, rfl⟩, FgLK.mk [0, 1, 2, 3, 4] rfl rfl ?_ ⟨⟨rfl, rfl, rfl, rfl, BodyGe.pre (rest := []) rfl rfl⟩, ⟨rfl, rfl, rfl, rfl, BodyGe.pre (rest := []) rfl rfl⟩, ⟨rfl, rfl, rfl, rfl, BodyGe.cellsL ⟨Wk.func trivial ⟨Wk.ptr rfl rfl, trivial⟩, trivial⟩⟩, ⟨rfl, rfl, rfl, rfl, BodyGe.pre (rest := []) rfl rfl⟩, ⟨rfl, rfl, rfl, rfl, BodyGe.cellsL ⟨Wk.func trivial ⟨Wk.ptr rfl rfl, Wk.ptr rfl rfl, trivial⟩, trivial⟩⟩, trivial⟩ rfl⟩, ?_⟩
  · refine And.intro (Wk.func trivial ⟨Wk.ptr rfl rfl, trivial⟩) ?_
    refine And.intro (Wk.func trivial ⟨Wk.ptr rfl rfl, trivial⟩) ?_
    refine And.intro (Wk.noref rfl) ?_
    refine And.intro (Wk.int rfl) ?_
    exact ⟨Wk.int rfl, trivial⟩
  rintro i ⟨hi, hall⟩
  dsimp only
  have hb : (cT (ts.take i) 0).2 ≤ 2000 := by
    have h1 := cT_cnt (ts.take i) 0 (by decide)
    rw [h1.2 hall]; exact (h1.1.1 hall).1
  by_cases hlt : i < ts.length
  · have e1 : decide ((i : Int) < (ts.length : Int)) = true := by simpa using hlt
    have hat : cT (ts.take (i + 1)) 0 = goSL cE cS ts[i] 1 (cT (ts.take i) 0).2 := goT_at ts 0 i hlt hall
    have hst : (cT (ts.take (i + 1)) 0).1 = false → cT ts 0 = cT (ts.take (i + 1)) 0 := goT_stop ts 0 (i + 1)
    have hx := th1 ts i hlt
    obtain ⟨k1, k2⟩ := okTL_get hok _ (get_mem hlt)
    have q2 := q1 ts[i] (cT (ts.take i) 0).2 k1 k2 hb
    generalize (cT (ts.take i) 0).2 = n at *
    generalize ts[i] = l at *
    generalize goSL cE cS l 1 n = r at *
    obtain ⟨b, n2⟩ := r
    simp only [stA] at hx
    simp only [stA, cnF, cnG, cnH] at q2
    cases b with
    | true =>
      repeat' ((conv => whnf); first | (refine exI hx ?_) | (refine exI q2 ?_) | (with_reducible refine ixJ i rfl ?_ ?_; (focus (omega))) | (first | refine stp ?_ | with_reducible refine condB (fun h => ?_) (fun h => ?_)))
      conv => whnf
      refine ⟨i + 1, ⟨hlt, by rw [hat]⟩, by show ts.length - (i + 1) < ts.length - i; omega, FgLK.mk [0, 1, 2, 3, 4] rfl rfl ?_ ⟨⟨rfl, rfl, rfl, rfl, ?_⟩, ⟨rfl, rfl, rfl, rfl, BodyGe.pre (rest := []) rfl rfl⟩, ⟨rfl, rfl, rfl, rfl, BodyGe.cellsL ⟨Wk.func trivial ⟨Wk.ptr rfl rfl, trivial⟩, trivial⟩⟩, ⟨rfl, rfl, rfl, rfl, BodyGe.pre (rest := []) rfl rfl⟩, ⟨rfl, rfl, rfl, rfl, BodyGe.cellsL ⟨Wk.func trivial ⟨Wk.ptr rfl rfl, Wk.ptr rfl rfl, trivial⟩, trivial⟩⟩, trivial⟩ rfl⟩
      · refine And.intro (Wk.func trivial ⟨Wk.ptr rfl rfl, trivial⟩) ?_
        refine And.intro (Wk.func trivial ⟨Wk.ptr rfl rfl, trivial⟩) ?_
        refine And.intro (Wk.noref rfl) ?_
        refine And.intro (Wk.int rfl) ?_
        exact ⟨Wk.int rfl, trivial⟩
      · rw [hat]
        exact BodyGe.pre (rest := []) rfl rfl
    | false =>
      rw [hst (by rw [hat]), hat]
      repeat' ((conv => whnf); first | (refine exI hx ?_) | (refine exI q2 ?_) | (with_reducible refine ixJ i rfl ?_ ?_; (focus (omega))) | (first | refine stp ?_ | with_reducible refine condB (fun h => ?_) (fun h => ?_)))
      all_goals (conv => whnf)
      all_goals (exact ⟨rfl, rfl⟩)
  · have e1 : decide ((i : Int) < (ts.length : Int)) = false := by simpa using hlt
    have hi2 : i = ts.length := by have := hi; omega
    subst hi2
    rw [List.take_length] at hall ⊢
    rw [hall]
    generalize (cT ts 0).2 = n at *
    repeat' ((conv => whnf); first | refine stp ?_ | with_reducible refine condB (fun h => ?_) (fun h => ?_))
    all_goals (conv => whnf)
    all_goals (exact ⟨rfl, rfl⟩)
end Go.Proofs.YtblnhcafobifgaaGreatDoor.lex
end


section

set_option linter.unusedVariables false
set_option linter.unusedSimpArgs false
namespace Go.Proofs.YtblnhcafobifgaaGreatDoor.lex
open Go.Abs Go.RowKit
set_option maxRecDepth 100000
set_option maxHeartbeats 4000000
variable {gl : Glob}
end Go.Proofs.YtblnhcafobifgaaGreatDoor.lex
end


section

set_option linter.unusedVariables false
set_option linter.unusedSimpArgs false
namespace Go.Proofs.YtblnhcafobifgaaGreatDoor.lex
open Go.Abs Go.RowKit
set_option maxRecDepth 100000
set_option maxHeartbeats 8000000
variable {gl : Glob}
def isK (k : Int) : Bool := decide (1 ≤ k ∧ k ≤ 11)
def hX (k : Int) : Int := if isK k then hasX k else 0
def hT (k : Int) : Bool := isK k && hasT k
end Go.Proofs.YtblnhcafobifgaaGreatDoor.lex
end


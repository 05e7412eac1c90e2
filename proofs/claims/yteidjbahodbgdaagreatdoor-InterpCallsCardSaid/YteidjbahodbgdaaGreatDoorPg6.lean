/-
  Texts of this proof, one behind the other (part 6).
-/
import Derived.Test.YteidjbahodbgdaaGreatDoorPg5
set_option linter.unusedVariables false
set_option linter.unusedSimpArgs false

section
namespace Go.Proofs.YteidjbahodbgdaaGreatDoor.lex
open Go.Abs Go.RowKit
set_option maxRecDepth 100000
set_option maxHeartbeats 4000000
variable {gl : Z0l}
theorem ZaV : ∀ (l : List St) (i : Nat) (h : i < l.length), nmSL (l.take (i + 1)) = nmSL (l.take i) ++ nmS l[i]
 | e :: l, 0, h => by simp [nmSL]
 | e :: l, i + 1, h => by
  have := ZaV l i (by simpa using h)
  simp only [List.take_succ_cons, nmSL, List.getElem_cons_succ] at this ⊢
  rw [this, List.append_assoc]
theorem Z4v : ∀ (l : List St) (i : Nat), sizeSL (l.take i) <= sizeSL l
 | [], i => by simp
 | e :: l, 0 => by simp [sizeSL]
 | e :: l, i + 1 => by have := Z4v l i; simp only [List.take_succ_cons, sizeSL]; omega
theorem Z9y (l : List St) (i : Nat) : (nmSL (l.take i)).length <= sizeSL l := by
 have h1 := nmSL_len (l.take i)
 have h2 := Z4v l i
 omega
theorem Zlv (x : St) : nmS x = (cond (!(x.name == [])) [x.name] []) ++ (nmL x.exprs ++ (nmSL x.thn ++ nmSL x.els)) := by
 obtain ⟨k, n, lc, o, x, t, e⟩ := x
 rfl
theorem ZfE : rsK [] = .rs 0 1 [] := rfl
theorem ZcW (y : List UInt8) (r : List (List UInt8)) : rsK (y :: r) = .rs (r.length + 1) 1 (Z1h (y :: r)) := rfl
theorem ZgX : ∀ (n : Nat) (l : List St), sizeSL l <= n -> okSL l -> l.length <= 9223372036854775807 -> sizeSL l <= 1048576 -> ValOK Tryz.prog gl 85 [stA l] (rsK (nmSL l))
 | n, l, h, hok, hl, hs => by
  obtain ⟨O, hO, p1, p2, -⟩ := fams (P := Tryz.prog) (gl := gl) [{ I := List St, f := 85, G := fun l => sizeSL l < n /\ okSL l /\ l.length <= 9223372036854775807 /\ sizeSL l <= 1048576, A := fun l => [stA l], R := fun l => rsK (nmSL l), body := (by kernel_rfl), inj := (fun i j _ _ h => by simp only [List.cons.injEq, and_true] at h; rw [ZjC h]), ok := (fun l hl => ⟨rfl, match n, hl.1 with | n + 1, h => ZgX n l (by omega) hl.2.1 hl.2.2.1 hl.2.2.2⟩) },
   { I := Ex, f := 97, G := fun x => okE x /\ Z0f x <= 1048576, A := fun x => [.agg x.cells], R := fun x => rsK (nmE x), body := (by kernel_rfl), inj := (fun i j _ _ h => by rw [Z6c h]), ok := (fun x hx => ⟨Z40 x, Zd1 _ x (Nat.le_refl _) hx.1 hx.2⟩) }] rfl
  have q1 : ∀ l, sizeSL l < n -> okSL l -> l.length <= 9223372036854775807 -> sizeSL l <= 1048576 -> ∀ H, Z04 Tryz.prog O H 85 [stA l] = some (rsK (nmSL l), H) := fun l h1 h2 h3 h4 => p1 l ⟨h1, h2, h3, h4⟩
  have q2 : ∀ x, okE x -> Z0f x <= 1048576 -> ∀ H, Z04 Tryz.prog O H 97 [.agg x.cells] = some (rsK (nmE x), H) := fun x h1 h2 => p2 x ⟨h1, h2⟩
  clear p1 p2
  have hT : Z74 Tryz.prog 91 91 = some (9, 1, 16) := by kernel_rfl
  simp only [stA] at q1 ⊢
  rw [show rsK (nmSL l) = .rs (nmSL l).length 1 (Z1h (nmSL l)) from rfl]
  refine Z5Y follows Z09 hO Tryz.func85 rfl ?_
  repeat' ((conv => whnf); first | refine stp ?_ | with_reducible refine Z01 (fun h => ?_) (fun h => ?_))
  conv => whnf
  refine ⟨Nat, (fun i => i <= l.length), (fun i => [(0, .rs l.length 7 (stC l)), (3, grA 0 1 (nmSL (l.take i))), (4, .int .i64 i)]), (fun i => grB 0 Z1h 9 (nmSL (l.take i))), (fun i => l.length - i), ⟨0, Nat.zero_le _, ?_⟩, ?_⟩
  · exact FgL.mk [] rfl ⟨Wk.noref rfl, Wk.noref rfl, Wk.int rfl, trivial⟩ trivial rfl
  intro i hi
  dsimp only
  have hle := Z9y l i
  by_cases hlt : i < l.length
  · have e1 : decide ((i : Int) < (l.length : Int)) = true := by simpa using hlt
    have hsz := Z8t _ _ (Z0i hlt)
    have hse := ZhF l[i]
    have hx1 : tk 1 (((stC l).drop (i * 7)).drop 1) = some [.str l[i].name] := by rw [ZaH l i hlt]; exact ZlW _ _
    have hx4 : tk 1 (((stC l).drop (i * 7)).drop 4) = some [exA l[i].exprs] := by rw [ZaH l i hlt]; exact ZlU _ _
    have hx5 : tk 1 (((stC l).drop (i * 7)).drop 5) = some [stA l[i].thn] := by rw [ZaH l i hlt]; exact ZlV _ _
    have hx6 : tk 1 (((stC l).drop (i * 7)).drop 6) = some [stA l[i].els] := by rw [ZaH l i hlt]; exact ZlX _ _
    obtain ⟨k1, k2, k3, k4, k5, k6, k7, k8⟩ := ZfU (Zd8 hok _ (Z0i hlt))
    have qt := q1 l[i].thn (by omega) k7 k4 (by omega)
    have qe := q1 l[i].els (by omega) k8 k5 (by omega)
    have hnt := nmSL_len l[i].thn
    have hne := nmSL_len l[i].els
    have hnx : nmSL (l.take (i + 1)) = ((nmSL (l.take i) ++ cond (!(l[i].name == [])) [l[i].name] []) ++ nmL l[i].exprs) ++ (nmSL l[i].thn ++ nmSL l[i].els) := by
     rw [ZaV l i hlt, Zlv]; simp only [List.append_assoc]
    clear q1
    generalize nmSL (l.take i) = o at *
    generalize l[i] = x at *
    obtain ⟨kind, name, loc, order, exprs, thn, els⟩ := x
    simp only [St.name, St.exprs, St.thn, St.els, stA, exA] at *
    generalize nmSL thn = nt at *
    generalize nmSL els = ne at *
    obtain ⟨base, hbase⟩ : ∃ b, o ++ cond (!(name == [])) [name] [] = b := ⟨_, rfl⟩
    have hbl : base.length <= o.length + 1 := by
     rw [<- hbase, List.length_append]
     cases (!(name == [])) <;> simp
    rw [hbase] at hnx
    have hlx := Z1H exprs
    have hin : ∀ k (hk : k < exprs.length), nmL (exprs.take (k + 1)) = nmL (exprs.take k) ++ nmE exprs[k] := Z5j exprs
    have hil := Z2E exprs
    have hnl := nmL_len exprs
    have hfull : nmL (exprs.take exprs.length) = nmL exprs := by rw [List.take_length]
    have hclo := Z2C o
    have hlo := hle
    obtain ⟨nb, e2⟩ : ∃ b, (!(name == [])) = b := ⟨_, rfl⟩
    rw [e2] at hbase
    cases nb <;> rcases o with _ | ⟨z, o⟩ <;> simp only [cond_true, cond_false, List.append_nil, List.length_cons] at hbase hlo hclo
    all_goals
     repeat' ((conv => whnf); first | (with_reducible refine ixJ i rfl ?_ ?_; (focus (omega))) | (refine exI hx1 ?_) | (refine exI hx4 ?_) | (refine apS ?_) | (first | refine stp ?_ | with_reducible refine Z01 (fun h => ?_) (fun h => ?_)))
     conv => whnf
     refine ⟨Nat, (fun k => k <= exprs.length), (fun k => [(0, .rs l.length 7 (stC l)), (3, grA 0 1 (base ++ nmL (exprs.take k))), (4, .int .i64 i), (5, .int .i64 k)]), (fun k => grB 0 Z1h 9 (base ++ nmL (exprs.take k))), (fun k => exprs.length - k), ⟨0, Nat.zero_le _, ?_⟩, ?_⟩
     · subst hbase
       simp only [List.take_zero, nmL, List.append_nil]
       first | (exact FgL.mk [] rfl ⟨Wk.noref rfl, Wk.noref rfl, Wk.int rfl, Wk.int rfl, trivial⟩ trivial rfl) | (exact FgL.mk [0] rfl ⟨Wk.noref rfl, Wk.slice rfl rfl (by first | rfl | (simp; done) | (simp; omega)) (Nat.le_refl _) (by first | rfl | (simp; done) | (simp; omega)) rfl, Wk.int rfl, Wk.int rfl, trivial⟩ ⟨⟨rfl, rfl, rfl, rfl, BodyGe.pre (rest := []) (by first | rfl | (simp [Z1h]; done)) (Z0s _)⟩, trivial⟩ rfl) | (exact FgL.mk [1] rfl ⟨Wk.noref rfl, Wk.slice rfl rfl (by first | rfl | (simp; done) | (simp; omega)) (Nat.le_refl _) (by first | rfl | (simp; done) | (simp; omega)) rfl, Wk.int rfl, Wk.int rfl, trivial⟩ ⟨⟨rfl, rfl, rfl, rfl, BodyGe.pre (rest := []) (by first | rfl | (simp [Z1h]; done)) (Z0s _)⟩, trivial⟩ rfl) | (exact FgL.mk [2] rfl ⟨Wk.noref rfl, Wk.slice rfl rfl (by first | rfl | (simp; done) | (simp; omega)) (Nat.le_refl _) (by first | rfl | (simp; done) | (simp; omega)) rfl, Wk.int rfl, Wk.int rfl, trivial⟩ ⟨⟨rfl, rfl, rfl, rfl, BodyGe.pre (rest := []) (by first | rfl | (simp [Z1h]; done)) (Z0s _)⟩, trivial⟩ rfl)
     intro k hk
     dsimp only
     have hlk2 := hil k
     by_cases hlk : k < exprs.length
     · have e3 : decide ((k : Int) < (exprs.length : Int)) = true := by simpa using hlk
       have hxk := ex4 exprs k hlk
       have hlr := Z4E exprs[k]
       have hsk := Z0w _ _ (Z0i hlk)
       have q3 := q2 exprs[k] (Z0H k6 _ (Z0i hlk)) (by omega)
       have hnk : base ++ nmL (exprs.take (k + 1)) = (base ++ nmL (exprs.take k)) ++ nmE exprs[k] := by rw [hin k hlk, List.append_assoc]
       have hlp : (base ++ nmL (exprs.take k)).length <= 4194304 := by rw [List.length_append]; omega
       generalize base ++ nmL (exprs.take k) = p at *
       generalize nmE exprs[k] = r at *
       generalize exprs[k] = y at *
       obtain ⟨yo, yn, ys, yk⟩ := y
       simp only [Ex.cells] at hxk q3
       have hcl := Z2C p
       have hon := Z1E r
       rcases p with _ | ⟨z2, p⟩ <;> rcases r with _ | ⟨z3, r⟩ <;> simp only [ZfE, ZcW, List.length_cons] at q3 hcl hlp hlr
       all_goals
        repeat' ((conv => whnf); first | (with_reducible refine exI (q3 _) ?_) | (with_reducible refine ixJ i rfl ?_ ?_; (focus (omega))) | (with_reducible refine ixJ k rfl ?_ ?_; (focus (omega))) | (refine exI hx4 ?_) | (refine exI hxk ?_) | (refine apS ?_) | (first | refine stp ?_ | with_reducible refine Z01 (fun h => ?_) (fun h => ?_)))
        conv => whnf
        refine ⟨k + 1, hlk, by show exprs.length - (k + 1) < exprs.length - k; omega, ?_⟩
        rw [hnk]
        try rw [List.append_nil]
        first | (exact FgL.mk [] rfl ⟨Wk.noref rfl, Wk.noref rfl, Wk.int rfl, Wk.int rfl, trivial⟩ trivial rfl) | (exact FgL.mk [0] rfl ⟨Wk.noref rfl, Wk.slice rfl rfl (by first | rfl | (simp; done) | (simp; omega)) (Nat.le_refl _) (by first | rfl | (simp; done) | (simp; omega)) rfl, Wk.int rfl, Wk.int rfl, trivial⟩ ⟨⟨rfl, rfl, rfl, rfl, BodyGe.pre (rest := []) (by first | rfl | (simp [Z1h]; done)) (Z0s _)⟩, trivial⟩ rfl) | (exact FgL.mk [1] rfl ⟨Wk.noref rfl, Wk.slice rfl rfl (by first | rfl | (simp; done) | (simp; omega)) (Nat.le_refl _) (by first | rfl | (simp; done) | (simp; omega)) rfl, Wk.int rfl, Wk.int rfl, trivial⟩ ⟨⟨rfl, rfl, rfl, rfl, BodyGe.pre (rest := []) (by first | rfl | (simp [Z1h]; done)) (Z0s _)⟩, trivial⟩ rfl)
     · have e3 : decide ((k : Int) < (exprs.length : Int)) = false := by simpa using hlk
       have hk2 : k = exprs.length := by have := hk; omega
       subst hk2
       rw [hfull] at hlk2 ⊢
       have hlp : (base ++ nmL exprs).length <= 4194304 := by rw [List.length_append]; omega
       generalize base ++ nmL exprs = p at *
       have hnn := Z1E nt
       have hne2 := Z1E ne
       have hcl := Z2C p
       have hcl2 : (Z1h p ++ Z1h nt).length = (p.length + nt.length) * 1 := by simp [Z1h]
       have hcl3 := Z2C nt
       rcases p with _ | ⟨z2, p⟩ <;> rcases nt with _ | ⟨z3, nt⟩ <;> rcases ne with _ | ⟨z4, ne⟩ <;> simp only [ZfE, ZcW, List.length_cons] at qt qe hcl hlp hnt hne hcl2 hcl3
       all_goals
        repeat' ((conv => whnf); first | (with_reducible refine exI (qt _) ?_) | (with_reducible refine exI (qe _) ?_) | (with_reducible refine ixJ i rfl ?_ ?_; (focus (omega))) | (refine exI hx4 ?_) | (refine exI hx5 ?_) | (refine exI hx6 ?_) | (refine apS ?_) | (first | refine stp ?_ | with_reducible refine Z01 (fun h => ?_) (fun h => ?_)))
        conv => whnf
        refine ⟨i + 1, hlt, by show l.length - (i + 1) < l.length - i; omega, ?_⟩
        rw [hnx]
        try simp only [List.append_nil, List.nil_append]
        first | (exact FgL.mk [] rfl ⟨Wk.noref rfl, Wk.noref rfl, Wk.int rfl, trivial⟩ trivial rfl) | (exact FgL.mk [0] rfl ⟨Wk.noref rfl, Wk.slice rfl rfl (by first | rfl | (simp; done) | (simp; omega)) (Nat.le_refl _) (by first | rfl | (simp; done) | (simp; omega)) rfl, Wk.int rfl, trivial⟩ ⟨⟨rfl, rfl, rfl, rfl, BodyGe.pre (rest := []) (by first | rfl | (simp [Z1h]; done)) (Z0s _)⟩, trivial⟩ rfl) | (exact FgL.mk [1] rfl ⟨Wk.noref rfl, Wk.slice rfl rfl (by first | rfl | (simp; done) | (simp; omega)) (Nat.le_refl _) (by first | rfl | (simp; done) | (simp; omega)) rfl, Wk.int rfl, trivial⟩ ⟨⟨rfl, rfl, rfl, rfl, BodyGe.pre (rest := []) (by first | rfl | (simp [Z1h]; done)) (Z0s _)⟩, trivial⟩ rfl) | (exact FgL.mk [2] rfl ⟨Wk.noref rfl, Wk.slice rfl rfl (by first | rfl | (simp; done) | (simp; omega)) (Nat.le_refl _) (by first | rfl | (simp; done) | (simp; omega)) rfl, Wk.int rfl, trivial⟩ ⟨⟨rfl, rfl, rfl, rfl, BodyGe.pre (rest := []) (by first | rfl | (simp [Z1h]; done)) (Z0s _)⟩, trivial⟩ rfl)
  · have e1 : decide ((i : Int) < (l.length : Int)) = false := by simpa using hlt
    have hi2 : i = l.length := by have := hi; omega
    subst hi2
    rw [List.take_length] at hle ⊢
    generalize nmSL l = o at *
    cases o with
    | nil =>
     repeat' ((conv => whnf); first | refine stp ?_ | with_reducible refine Z01 (fun h => ?_) (fun h => ?_))
     all_goals exact .inr ⟨rfl, _, rfl⟩
    | cons z o =>
     repeat' ((conv => whnf); first | refine stp ?_ | with_reducible refine Z01 (fun h => ?_) (fun h => ?_))
     conv => whnf
     exact ⟨_, Z3X (b := 0) rfl (Z1F z o) (Z48 (z :: o)), .inl rfl⟩
end Go.Proofs.YteidjbahodbgdaaGreatDoor.lex
end

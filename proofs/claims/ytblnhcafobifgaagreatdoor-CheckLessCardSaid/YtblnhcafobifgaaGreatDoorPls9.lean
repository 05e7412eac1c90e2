/-
  Texts of this proof, one behind the other (part 9).
-/
import Derived.Test.YtblnhcafobifgaaGreatDoorPls8


section

set_option linter.unusedVariables false
set_option linter.unusedSimpArgs false
namespace Go.Proofs.YtblnhcafobifgaaGreatDoor.lex
open Go.Abs Go.RowKit
set_option maxRecDepth 100000
set_option maxHeartbeats 4000000
variable {gl : Glob}
def dcB (d : Dc) : Bool := wordB d.name && decide (0 ≤ d.val)
def rightTL : List (List St) → Bool
  | [] => true
  | l :: t => rightSL l && rightTL t
def checkP (p : Pr) : Int := if 2000 < sizeTL p.threads ∨ 32 < deepTL p.threads then 3 else if p.decls.all dcB && rightTL p.threads then 0 else 2
theorem rightTL_take : ∀ (l : List (List St)) (i : Nat) (h : i < l.length), rightTL (l.take (i + 1)) = (rightTL (l.take i) && rightSL l[i])
  | e :: l, 0, h => by simp only [List.take_succ_cons, List.take_zero, rightTL, List.getElem_cons_zero, Bool.and_true, Bool.true_and]
  | e :: l, i + 1, h => by
    have := rightTL_take l i (by simpa using h)
    simp only [List.take_succ_cons, rightTL, List.getElem_cons_succ] at this ⊢; rw [this, Bool.and_assoc]
theorem rightTL_get : ∀ {l : List (List St)} {i : Nat} (h : i < l.length), rightSL l[i] = false → rightTL l = false
  | e :: l, 0, h, h2 => by simp only [List.getElem_cons_zero] at h2; simp only [rightTL, h2, Bool.false_and]
  | e :: l, i + 1, h, h2 => by simp only [List.getElem_cons_succ] at h2; simp only [rightTL, rightTL_get (l := l) (by simpa using h) h2, Bool.and_false]
theorem all_take {α : Type} (f : α → Bool) : ∀ (l : List α) (i : Nat) (h : i < l.length), (l.take (i + 1)).all f = ((l.take i).all f && f l[i])
  | e :: l, 0, h => by simp
  | e :: l, i + 1, h => by
    have := all_take f l i (by simpa using h)
    simp only [List.take_succ_cons, List.all_cons, List.getElem_cons_succ] at this ⊢; rw [this, Bool.and_assoc]
theorem all_get {α : Type} (f : α → Bool) {l : List α} {i : Nat} (h : i < l.length) (h2 : f l[i] = false) : l.all f = false := by
  rw [List.all_eq_false]; exact ⟨_, get_mem h, by simp [h2]⟩
end Go.Proofs.YtblnhcafobifgaaGreatDoor.lex
end


section

set_option linter.unusedVariables false
set_option linter.unusedSimpArgs false
namespace Go.Proofs.YtblnhcafobifgaaGreatDoor.lex
open Go.Abs Go.RowKit
set_option maxRecDepth 100000
set_option maxHeartbeats 4000000
def chC (ds : List Dc) (ts : List (List St)) (n : Nat) (g : Bool) : AHeap := [⟨true, 0, 0, .cells [.rs ds.length 3 (dcC ds), .rs ts.length 1 (ts.map stA)] 29⟩, ⟨true, 1, 0, .cells [.int .i64 n] 3⟩, ⟨true, 2, 0, .cells [.bool g] 4⟩, ⟨true, 3, 0, .cells [.func (.func 71) [] [.ptr 1 0]] 80⟩]
theorem ck_call (ds : List Dc) (ts : List (List St)) (hok : okTL ts) (hl : ts.length ≤ 9223372036854775807) :
    MemOK Tryz.prog runLives.gl 43 [.agg [.rs ds.length 3 (dcC ds), .rs ts.length 1 (ts.map stA)], .func (.func 44) [] [.ptr 3 0, .ptr 2 0]] (chC ds ts 0 true) (.tuple []) (chC ds ts (cT ts 0).2 (cT ts 0).1) := by
  have hM := nodes_ck ts ds.length (dcC ds) hok hl
  have h := mem_frame (m := [1, 2, 3]) (n := 4) (Hc := chC ds ts 0 true) (cargs := [.agg [.rs ds.length 3 (dcC ds), .rs ts.length 1 (ts.map stA)], .func (.func 44) [] [.ptr 3 0, .ptr 2 0]]) hM ?_ ?_ rfl rfl rfl rfl rfl rfl
  · exact h
  · rfl
  · exact ⟨⟨rfl, rfl, rfl, rfl, BodyGe.pre (rest := []) rfl rfl⟩, ⟨rfl, rfl, rfl, rfl, BodyGe.pre (rest := []) rfl rfl⟩, ⟨rfl, rfl, rfl, rfl, BodyGe.cellsL ⟨Wk.func trivial ⟨Wk.ptr rfl rfl, trivial⟩, trivial⟩⟩, trivial⟩
theorem ck_says (ts : List (List St)) : (cT ts 0).1 = true ↔ ¬ (2000 < sizeTL ts ∨ 32 < deepTL ts) := by
  rw [(cT_cnt ts 0 (by decide)).1]; omega
theorem checkPX_ok (p : Pr) (hok : okP p) (hs : sizeTL p.threads ≤ 1000000) : ValOK Tryz.prog runLives.gl 26 [p.av] (.int .i64 (checkP p)) := by
  obtain ⟨⟨hd1, hd2⟩, ht1, ht2⟩ := hok
  obtain ⟨ds, ts⟩ := p
  have hsay := ck_says ts
  simp only [Pr.av, checkP] at *
  obtain ⟨O, hO, ⟨p1, -⟩, ⟨p2, p3, -⟩⟩ := famsM (P := Tryz.prog) (gl := runLives.gl) [{ I := Unit, f := 43, G := (fun _ => True), A := (fun _ => [.agg [.rs ds.length 3 (dcC ds), .rs ts.length 1 (ts.map stA)], .func (.func 44) [] [.ptr 3 0, .ptr 2 0]]), H := (fun _ => chC ds ts 0 true), R := (fun _ => .tuple []), O := (fun _ => chC ds ts (cT ts 0).2 (cT ts 0).1), body := (by kernel_rfl), inj := (fun _ _ _ _ _ _ => ⟨rfl, rfl⟩), ok := (fun _ _ => ck_call ds ts ht1 ht2) }]
    [{ I := List St, f := 46, G := (fun x => x ∈ ts), A := (fun x => [stA x, .int .i64 1, .func (.func 47) [] [], .func (.func 48) [] []]), R := (fun x => .bool (rightSL x)), body := (by kernel_rfl), inj := (fun i j _ _ h => by simp only [List.cons.injEq, and_true] at h; rw [stA_inj h]), ok := (fun x hx => ⟨rfl, stmts_r x 1 (okTL_get ht1 _ hx).1 (okTL_get ht1 _ hx).2 (by decide) (by have := sizeTL_mem _ _ hx; omega)⟩) },
     { I := List UInt8, f := 45, G := (fun s => s.length ≤ 9223372036854775807), A := (fun s => [.str s, .bool true]), R := (fun s => .bool (wordB s)), body := (by kernel_rfl), inj := (fun i j _ _ h => by simp only [List.cons.injEq, AV.str.injEq, and_true] at h; rw [h]), ok := (fun s hs => ⟨rfl, isWord_ok s hs true⟩) }] rfl
  have q1 : acall Tryz.prog O (chC ds ts 0 true) 43 [.agg [.rs ds.length 3 (dcC ds), .rs ts.length 1 (ts.map stA)], .func (.func 44) [] [.ptr 3 0, .ptr 2 0]] = some (.tuple [], chC ds ts (cT ts 0).2 (cT ts 0).1) := p1 () trivial
  have q2 : ∀ x ∈ ts, ∀ H, acall Tryz.prog O H 46 [stA x, .int .i64 1, .func (.func 47) [] [], .func (.func 48) [] []] = some (.bool (rightSL x), H) := p2
  have q3 : ∀ s, s.length ≤ 9223372036854775807 → ∀ H, acall Tryz.prog O H 45 [.str s, .bool true] = some (.bool (wordB s), H) := p3
  clear p1 p2 p3
  generalize (cT ts 0).2 = n at *
  generalize (cT ts 0).1 = b at *
  refine fn_valI (fun g => Nat.beq g 43 || (Nat.beq g 46 || Nat.beq g 45)) 1 follows noNum hO Tryz.func26 rfl ?_
  cases b with
  | false =>
    rw [if_pos (Classical.not_not.1 fun h => by have := hsay.2 h; cases this)]
    repeat' ((conv => whnf); first | (refine exI q1 ?_) | (first | refine stp ?_ | with_reducible refine condB (fun h => ?_) (fun h => ?_)))
    all_goals (conv => whnf)
    all_goals rfl
  | true =>
    rw [if_neg (hsay.1 rfl)]
    repeat' ((conv => whnf); first | (refine exI q1 ?_) | (first | refine stp ?_ | with_reducible refine condB (fun h => ?_) (fun h => ?_)))
    conv => whnf
    refine ⟨Nat, (fun i => i ≤ ds.length ∧ (ds.take i).all dcB = true), (fun i => [(1, .ptr 0 0), (16, .rs ds.length 3 (dcC ds)), (17, .int .i64 ds.length), (18, .int .i64 i)]), (fun _ => [⟨true, 0, 0, .cells [.rs ds.length 3 (dcC ds), .rs ts.length 1 (ts.map stA)] 29⟩]), (fun i => ds.length - i), ⟨0, ⟨Nat.zero_le _, rfl⟩, FgL.mk [0] rfl ?_ ⟨⟨rfl, rfl, rfl, rfl, BodyGe.pre (rest := []) rfl rfl⟩, trivial⟩ rfl⟩, ?_⟩
    · (repeat (first | exact trivial | refine stw ?_))
    rintro i ⟨hi, hall⟩
    dsimp only
    by_cases hlt : i < ds.length
    · have e1 : decide ((i : Int) < (ds.length : Int)) = true := by simpa using hlt
      have hat := all_take dcB ds i hlt
      rw [hall, Bool.true_and] at hat
      have hfalse : dcB ds[i] = false → ds.all dcB = false := all_get dcB hlt
      have hx3 := dc3 ds i hlt
      have qn := q3 ds[i].name (hd2 _ (get_mem hlt))
      generalize hd : ds[i] = d at *
      obtain ⟨nm, pl, vl⟩ := d
      simp only [dcB, Dc.cells] at hat hfalse hx3 qn
      generalize wordB nm = w at *
      by_cases hv : 0 ≤ vl
      · have e3 : decide (vl < 0) = false := by simpa using hv
        rw [show decide (0 ≤ vl) = true from by simpa using hv, Bool.and_true] at hat hfalse
        cases w with
        | true =>
          repeat' ((conv => whnf); first | (with_reducible refine exI (qn _) ?_) | (with_reducible refine ixJ i rfl ?_ ?_; (focus (omega))) | (refine exI hx3 ?_) | (first | refine stp ?_ | with_reducible refine condB (fun h => ?_) (fun h => ?_)))
          conv => whnf
          refine ⟨i + 1, ⟨hlt, hat⟩, by show ds.length - (i + 1) < ds.length - i; omega, FgL.mk [0] rfl ?_ ⟨⟨rfl, rfl, rfl, rfl, BodyGe.pre (rest := []) rfl rfl⟩, trivial⟩ rfl⟩
          (repeat (first | exact trivial | refine stw ?_))
        | false =>
          rw [hfalse rfl]
          repeat' ((conv => whnf); first | (with_reducible refine exI (qn _) ?_) | (with_reducible refine ixJ i rfl ?_ ?_; (focus (omega))) | (refine exI hx3 ?_) | (first | refine stp ?_ | with_reducible refine condB (fun h => ?_) (fun h => ?_)))
          all_goals rfl
      · have e3 : decide (vl < 0) = true := by simp only [decide_eq_true_eq]; omega
        rw [show decide (0 ≤ vl) = false from by simpa using hv, Bool.and_false] at hat hfalse
        rw [hfalse rfl]
        cases w
        all_goals (repeat' ((conv => whnf); first | (with_reducible refine exI (qn _) ?_) | (with_reducible refine ixJ i rfl ?_ ?_; (focus (omega))) | (refine exI hx3 ?_) | (first | refine stp ?_ | with_reducible refine condB (fun h => ?_) (fun h => ?_))))
        all_goals rfl
    · have e1 : decide ((i : Int) < (ds.length : Int)) = false := by simpa using hlt
      have hi2 : i = ds.length := by have := hi; omega
      subst hi2
      rw [List.take_length] at hall
      rw [hall, Bool.true_and]
      repeat' ((conv => whnf); first | refine stp ?_ | with_reducible refine condB (fun h => ?_) (fun h => ?_))
      conv => whnf
      refine ⟨Nat, (fun i => i ≤ ts.length ∧ rightTL (ts.take i) = true), (fun i => [(33, .rs ts.length 1 (ts.map stA)), (34, .int .i64 ts.length), (35, .int .i64 i)]), (fun _ => []), (fun i => ts.length - i), ⟨0, ⟨Nat.zero_le _, rfl⟩, FgL.mk0 rfl ?_⟩, ?_⟩
      · (repeat (first | exact trivial | refine stw ?_))
      rintro i ⟨hi, hrl⟩
      dsimp only
      by_cases hlt : i < ts.length
      · have e1 : decide ((i : Int) < (ts.length : Int)) = true := by simpa using hlt
        have hat := rightTL_take ts i hlt
        rw [hrl, Bool.true_and] at hat
        have hfalse : rightSL ts[i] = false → rightTL ts = false := rightTL_get hlt
        have hx := th1 ts i hlt
        have qr := q2 ts[i] (get_mem hlt)
        generalize ts[i] = l at *
        simp only [stA] at hx qr
        cases hr : rightSL l with
        | true =>
          rw [hr] at hat qr
          repeat' ((conv => whnf); first | (with_reducible refine exI (qr _) ?_) | (with_reducible refine ixJ i rfl ?_ ?_; (focus (omega))) | (refine exI hx ?_) | (refine exI (qr _) ?_) | (first | refine stp ?_ | with_reducible refine condB (fun h => ?_) (fun h => ?_)))
          conv => whnf
          refine ⟨i + 1, ⟨hlt, hat⟩, by show ts.length - (i + 1) < ts.length - i; omega, FgL.mk0 rfl ?_⟩
          (repeat (first | exact trivial | refine stw ?_))
        | false =>
          rw [hr] at qr
          rw [hfalse hr]
          repeat' ((conv => whnf); first | (with_reducible refine exI (qr _) ?_) | (with_reducible refine ixJ i rfl ?_ ?_; (focus (omega))) | (refine exI hx ?_) | (refine exI (qr _) ?_) | (first | refine stp ?_ | with_reducible refine condB (fun h => ?_) (fun h => ?_)))
          all_goals rfl
      · have e1 : decide ((i : Int) < (ts.length : Int)) = false := by simpa using hlt
        have hi2 : i = ts.length := by have := hi; omega
        subst hi2
        rw [List.take_length] at hrl
        rw [hrl]
        repeat' ((conv => whnf); first | refine stp ?_ | with_reducible refine condB (fun h => ?_) (fun h => ?_))
        all_goals rfl
end Go.Proofs.YtblnhcafobifgaaGreatDoor.lex
end


section

set_option linter.unusedVariables false
set_option linter.unusedSimpArgs false
namespace Go.Proofs.YtblnhcafobifgaaGreatDoor.lex
open Go.Abs Go.RowKit
set_option maxRecDepth 100000
set_option maxHeartbeats 4000000
variable {gl : Glob}
def firstO {α : Type} (g : Nat → Option α) : Nat → Option α
  | 0 => none
  | n + 1 => match firstO g n with | some a => some a | none => g n
theorem firstO_next {α : Type} {g : Nat → Option α} {i : Nat} (h : firstO g i = none) : firstO g (i + 1) = g i := by simp only [firstO, h]
theorem firstO_stop {α : Type} {g : Nat → Option α} {a : α} : ∀ {n i : Nat}, i ≤ n → firstO g i = some a → firstO g n = some a
  | 0, i, h, e => by have : i = 0 := by omega
                     subst this; exact e
  | n + 1, i, h, e => by
    by_cases hi : i = n + 1
    · subst hi; exact e
    · simp only [firstO, firstO_stop (n := n) (by omega) e]
theorem firstO_at {α : Type} {g : Nat → Option α} {a : α} {n i : Nat} (hi : i < n) (h : firstO g i = none) (e : g i = some a) : firstO g n = some a :=
  firstO_stop (i := i + 1) hi ((firstO_next h).trans e)
theorem firstO_congr {α : Type} {g g' : Nat → Option α} : ∀ {n : Nat}, (∀ i, i < n → g i = g' i) → firstO g n = firstO g' n
  | 0, _ => rfl
  | n + 1, h => by simp only [firstO, firstO_congr (n := n) fun i hi => h i (by omega), h n (by omega)]
abbrev W3 := Int × Int × Int
def gD (ds : List Dc) (i : Nat) : Option W3 := match ds[i]? with
  | some d => cond (noD d.name (ds.take i)) none (some (0, ((i : Nat) : Int), 6))
  | none => none
def gT (f : St → Int) (ts : List (List St)) (i : Nat) : Option W3 := match ts[i]? with
  | some l => cond ((nbSL f l 0).2 == 0) none (some (((i + 1 : Nat) : Int), (((nbSL f l 0).1 : Nat) : Int), (nbSL f l 0).2))
  | none => none
def gR (ts : List (List St)) (i : Nat) : Option W3 := match ts[i]? with
  | some l => cond (decide (16 < (sortB (rgN0 l)).length)) (some (((i + 1 : Nat) : Int), 0, 3)) none
  | none => none
def longP (nd nt : Nat) : Bool := decide (nt < 1) || (decide (4 < nt) || decide (6 < nd))
def chkF (e : Int) (ds : List Dc) (ts : List (List St)) (f : St → Int) : W3 :=
  cond (e == 0) (cond (longP ds.length ts.length) (0, 0, 3)
    (match firstO (gD ds) ds.length with
      | some r => r
      | none => match firstO (gT f ts) ts.length with
        | some r => r
        | none => match firstO (gR ts) ts.length with
          | some r => r
          | none => (0, 0, 0))) (0, 0, e)
def resW (r : W3) : AV := .tuple [.agg [.int .i64 r.1, .int .i64 r.2.1], .int .i64 r.2.2]
theorem gD_at {ds : List Dc} {i : Nat} (h : i < ds.length) : gD ds i = cond (noD ds[i].name (ds.take i)) none (some (0, ((i : Nat) : Int), 6)) := by simp [gD, h]
theorem gT_at {f : St → Int} {ts : List (List St)} {i : Nat} (h : i < ts.length) : gT f ts i = cond ((nbSL f ts[i] 0).2 == 0) none (some (((i + 1 : Nat) : Int), (((nbSL f ts[i] 0).1 : Nat) : Int), (nbSL f ts[i] 0).2)) := by simp [gT, h]
theorem gR_at {ts : List (List St)} {i : Nat} (h : i < ts.length) : gR ts i = cond (decide (16 < (sortB (rgN0 ts[i])).length)) (some (((i + 1 : Nat) : Int), 0, 3)) none := by simp [gR, h]
end Go.Proofs.YtblnhcafobifgaaGreatDoor.lex
end


section

set_option linter.unusedSimpArgs false
set_option linter.unusedVariables false
namespace Go.Abs
open Go.RowKit
end Go.Abs
end


section

set_option linter.unusedSimpArgs false
set_option linter.unusedVariables false
namespace Go.Abs
open Go.RowKit
section
variable {P : Program} {gl : Glob} {tW tB : TypeId}
end
end Go.Abs
end


section

set_option linter.unusedSimpArgs false
set_option linter.unusedVariables false
namespace Go.Abs
open Go.RowKit
def hasN (tm : Tr) : Nat → Bool
  | 0 => true
  | n + 1 => tex tm n
def TsOf (tm : Tr) : List (Nat × AV) → Prop
  | [] => True
  | x :: l => tget tm x.1 = some x.2 ∧ TsOf tm l
section rel
variable {sn : Snap} {ι : IMap} {tm : Tr} {a : Act}
theorem hasN_le (ht : TRel sn ι tm a) : ∀ {n : Nat}, hasN tm n = true → n ≤ a.tmps.size
  | 0, _ => Nat.zero_le _
  | n + 1, h => ht.2 n h
theorem TsOf.tsr (ht : TRel sn ι tm a) : ∀ {ts : List (Nat × AV)}, TsOf tm ts → TSR sn ι ts a.tmps
  | [], _ => trivial
  | x :: l, ⟨h1, h2⟩ => ⟨ht.1 _ _ h1, h2.tsr ht⟩
theorem TSR.look {tmps : Array Value} : ∀ {ts : List (Nat × AV)}, TSR sn ι ts tmps → ∀ t u, alook t ts = some u → ∃ v, tmps[t]? = some v ∧ VR sn ι u v
  | [], _, t, u, e => by simp [alook] at e
  | (k, w) :: l, ⟨h1, h2⟩, t, u, e => by
    simp only [alook] at e
    split at e
    · rename_i hk
      have := Nat.eq_of_beq_eq_true hk; subst this
      simp at e; subst e
      exact h1
    · exact h2.look t u e
end rel
def rfK (P : Program) (cw : CW) : AV → Array Tmp → Code → Code → KN → KX → KN → Tr → AHeap → Prop := fun v ps asg bd kn kx kr tm H =>
  match v with
  | .func (.func g) first caps => hasBody P g = true ∧ ∃ (n : Nat) (ts : List (Nat × AV)), hasN tm n = true ∧ TsOf tm ts ∧ ∀ l : Nat,
      cw g (first ++ .func (.yield l) [] [] :: caps) (H ++ [⟨true, H.length, 0, .loop ⟨l, .ready, none, n, ps, asg, bd⟩ ts⟩]) fun _ H1 =>
        onO H1[H.length]? fun o => match o with
          | ⟨true, fam, sh, .loop g ts⟩ => g.st ≠ .busy ∧ frcHW ((wkil H.length fam H1).set H.length (AObj.dead ⟨true, fam, sh, .loop g ts⟩)) fun H2 => match g.pend with
            | none => kn tm H2
            | some .ret => kr tm H2
            | some (.exit id) => kx id tm H2
            | _ => False
          | _ => False
  | _ => False
theorem turn_putObj (W : World) (r : Nat) (o : Obj) : Turn W (W.putObj r o) r :=
  ⟨fun c hc => World.putObj_heap_other hc, by simp, rfl, rfl, rfl⟩
section stmt
variable {P : Program} {gl : Glob} {orc : Orc} {k : Nat}
theorem rfK_ok (hn : NoNum P) (hO : OrcSound P gl orc) {cw : CW} (hcw : CWok P orc cw) : RFok P gl none k (rfK P cw) := by
  intro f v ps asg bd kn kx kr tm H hv h a W sn ι Q hg hR ht hQ
  unfold rfK at h
  split at h <;> try exact h.elim
  rename_i g first caps
  obtain ⟨hb, n, ts, h1, h2, h⟩ := h
  obtain ⟨f', c', hfv, hl1, hl2⟩ := (aeval_sound hg ht _ _ hv).func
  refine wpIn_rangeFunc fun fn _ => ?_
  obtain ⟨rec, hrec⟩ : ∃ rec : Loop, rec = { state := .ready, pending := none, fn, tmps := a.tmps, params := ps, assign := asg, body := bd, defers := W.heap.size } := ⟨_, rfl⟩
  have hfnn : ∃ fn, P.funcs[g]? = some fn := by
    unfold hasBody at hb
    cases hfn : P.funcs[g]? with
    | none => rw [hfn] at hb; cases hb
    | some fn => exact ⟨fn, rfl⟩
  obtain ⟨gfn, hgfn⟩ := hfnn
  obtain ⟨W1, hW1⟩ : ∃ W1, W1 = W.alloc (.deferred (some [])) := ⟨_, rfl⟩
  obtain ⟨W2, hW2⟩ : ∃ W2, W2 = W1.alloc (.loop rec) := ⟨_, rfl⟩
  have hsz1 : W1.heap.size = W.heap.size + 1 := by rw [hW1]; simp
  have hsz2 : W2.heap.size = W.heap.size + 2 := by rw [hW2]; simp [hsz1]
  have hs1 : Stp sn ι H W sn ι H W1 := Stp.ext hR (by rw [hW1]; exact Ext.alloc W _)
  obtain ⟨p, hp⟩ : ∃ p : Place, p = ⟨W1.heap.size, 0, 0⟩ := ⟨_, rfl⟩
  obtain ⟨o, ho⟩ : ∃ o : AObj, o = ⟨true, H.length, 0, .loop ⟨W1.heap.size, .ready, none, n, ps, asg, bd⟩ ts⟩ := ⟨_, rfl⟩
  have hs2 : Stp sn ι H W1 sn (upd ι H.length p) (H ++ [o]) W2 := by
    rw [hp, hW2]
    refine Stp.alloc hs1.rel o (.loop rec) 0 fun _ => ?_
    rw [ho]
    simp only [OR]
    exact ⟨rec, World.alloc_heap_new W1 _, trivial, ⟨by rw [hrec], by rw [hrec], by rw [hrec]; exact hasN_le ht h1, by rw [hrec], by rw [hrec], by rw [hrec]⟩, by rw [hrec]; exact h2.tsr ht⟩
  have hs12 := Stp.trans hR hs1 hs2
  obtain ⟨r, H1, hc, h⟩ := hcw _ _ _ _ (h W1.heap.size)
  rw [← ho] at hc
  have ha : LR sn (upd ι H.length p) (first ++ .func (.yield W1.heap.size) [] [] :: caps) (f'.toList ++ .func (.yield W1.heap.size) #[] #[] :: c'.toList) := by
    refine LR.append (LR_mono hs2.le _ _ hl1) ?_
    simp only [LR]
    exact ⟨_, _, rfl, by simp [VR, LR], LR_mono hs2.le _ _ hl2⟩
  unfold acall at hc
  rw [if_pos hb] at hc
  have hcall := (hO g _ _ r H1 hc sn _ W2 _ hg hs2.rel ha).calls hgfn
  have hbn : gfn.body.isNone = false := by
    unfold hasBody at hb
    rw [hgfn] at hb
    have hb : gfn.body.isSome = true := hb
    cases hfb : gfn.body with
    | none => rw [hfb] at hb; cases hb
    | some _ => rfl
  refine ⟨W1.heap.size, [dmark W.heap.size], W2, { target := .fn (.func g) c', args := f' ++ #[.func (.yield W1.heap.size) #[] #[]] }, W2, g, (f' ++ #[.func (.yield W1.heap.size) #[] #[]]) ++ c', W2, ?_, ?_, fun f' _ => trivial, ?_, fun h => (by cases h), callsIn_q.2 ?_⟩
  · rw [hsz1, hW2, hW1, hrec]; exact run_enterLoop_outer fn a.tmps ps asg bd
  · simp only [resolve, hfv, Deferred.ofValue]
    simp [go_sem]
  · simp only [invoke, callFunc, Sem.run_bind, run_program, Result.andThen_ok, hgfn, hn.num g gfn hgfn, hbn, Bool.false_eq_true, if_false]
    rfl
  · have hargs : ((f' ++ #[.func (.yield W1.heap.size) #[] #[]]) ++ c') = (f'.toList ++ Value.func (.yield W1.heap.size) #[] #[] :: c'.toList).toArray := by apply Array.ext'; simp
    rw [hargs]
    refine hcall.mono ?_
    rintro e W3 ⟨u, sn', ι', rfl, hu, hs⟩
    obtain ⟨o1, hb1, h⟩ := onO_some h
    split at h <;> try exact h.elim
    rename_i fam sh gg ts1
    obtain ⟨hst, h⟩ := h
    rw [frcHW_eq] at h
    have hpb : (upd ι H.length p) H.length = some p := upd_self _ _ _
    have hpb' : ι' H.length = some p := hs.le.ι _ _ hpb
    have hor := hs.rel.obj _ _ p hb1 rfl hpb'
    simp only [OR] at hor
    obtain ⟨r3, e1, e2, e3, e4⟩ := hor
    have hpk : p.blk = W1.heap.size := by rw [hp]
    rw [hpk] at e1
    obtain ⟨r4, hr4⟩ : ∃ r4 : Loop, r4 = { r3 with state := .exhausted } := ⟨_, rfl⟩
    have hs4 : Stp sn' ι' H1 W3 sn' ι' ((wkil H.length fam H1).set H.length (AObj.dead ⟨true, fam, sh, .loop gg ts1⟩)) (W3.putObj W1.heap.size (.loop r4)) :=
      Stp.lose hs.rel (o := ⟨true, fam, sh, .loop gg ts1⟩) hb1 rfl hpb' (by rw [hpk]; exact turn_putObj W3 _ _)
    have hall := Stp.trans hR hs12 (Stp.trans hs12.rel hs hs4)
    have nott : ∀ (b : Nat) (q : Place), (upd ι H.length p) b = some q → q.blk ≠ W.heap.size := by
      intro b q hq e
      unfold upd at hq
      split at hq
      · cases hq; omega
      · have := hR.blk b q hq; omega
    have hD : W3.heap[W.heap.size]? = some (.deferred (some [])) := by
      rw [hs.frame _ (by omega) fun b o q _ _ hq => nott b q hq, hs2.frame _ (by omega) fun b o q _ _ hq e => (by have := hR.blk b q hq; omega), hW1]
      exact World.alloc_heap_new W _
    have hdef : DefOK W a.defers ι' ((wkil H.length fam H1).set H.length (AObj.dead ⟨true, fam, sh, .loop gg ts1⟩)) (W3.putObj W1.heap.size (.loop r4)) (dmark W.heap.size :: a.defers) := by
      refine ⟨[W.heap.size], rfl, by simp, fun D hD' => ?_⟩
      simp only [List.mem_singleton] at hD'
      subst hD'
      refine ⟨Nat.le_refl _, by rw [World.putObj_heap_other (by omega)]; exact hD, fun b o q _ _ hq e => ?_⟩
      rcases hs.fresh b q hq with f1 | f1 | ⟨b0, o0, p0, f1, f2, f3, f4⟩
      · exact nott b q f1 e
      · omega
      · exact nott b0 p0 f3 (f4.trans e)
    have htm : TRel sn' ι' tm { a with defers := dmark W.heap.size :: a.defers } := ht.mono (hs12.le.trans hs.le)
    refine ⟨r3.pending, W3.putObj W1.heap.size (.loop r4), by rw [hr4]; exact run_endLoop e1 (by rw [e3.st]; exact hst), ?_⟩
    rw [e3.pend]
    split at h
    · rename_i hpe
      rw [hpe]
      exact hQ .normal tm _ _ _ sn' ι' h (hall.q hR) htm hdef
    · rename_i hpe
      rw [hpe]
      exact wpIn_ret (hQ .ret tm _ _ _ sn' ι' h (hall.q hR) htm hdef)
    · rename_i id hpe
      rw [hpe]
      exact wpIn_exit (hQ (.exit id) tm _ _ _ sn' ι' h (hall.q hR) htm hdef)
    · exact h.elim
end stmt
def setLoop (H : AHeap) (b : Nat) (was st : LoopState) (pf : Option Code → Option Code) (k : AHeap → Prop) : Prop :=
  onO H[b]? fun o => match o with
    | ⟨true, fam, sh, .loop g ts⟩ => g.st = was ∧ frcHW ((wkil b fam H).set b ⟨true, fam, sh, .loop { g with st := st, pend := pf g.pend } ts⟩) k
    | _ => False
def tmR (n : Nat) (ts : List (Nat × AV)) : Tr := mask (fun t => alook t ts) (tmk (fun i => if Nat.blt i n then some (.tuple []) else none) (tdep 20 n))
def tsIn : List Nat → List AV → List (Nat × AV) → List (Nat × AV)
  | p :: ps, u :: us, ts => tsIn ps us ((p, u) :: ts)
  | _, _, ts => ts
theorem tsIn_look {sn : Snap} {ι : IMap} {n : Nat} : ∀ {ps : List Nat} {us : List AV} {vs : List Value} {ts : List (Nat × AV)} {tmps : Array Value}, allLt n ps = true → n ≤ tmps.size → ps.length = us.length → LR sn ι us vs →
    (∀ t u, alook t ts = some u → ∃ v, tmps[t]? = some v ∧ VR sn ι u v) →
    n ≤ ((ps.zip vs).foldl (fun tmps x => tmps.setIfInBounds x.1 x.2) tmps).size ∧ ∀ t u, alook t (tsIn ps us ts) = some u → ∃ v, ((ps.zip vs).foldl (fun tmps x => tmps.setIfInBounds x.1 x.2) tmps)[t]? = some v ∧ VR sn ι u v
  | [], [], vs, ts, tmps, hp, hn, hl, hv, h => by simpa [tsIn, hn] using h
  | p :: ps, u :: us, vs, ts, tmps, hp, hn, hl, hv, h => by
    simp only [allLt, Bool.and_eq_true] at hp
    simp only [LR] at hv
    obtain ⟨d, ds, rfl, h1, h2⟩ := hv
    simp only [List.zip_cons_cons, List.foldl_cons, tsIn]
    have hpl : p < tmps.size := by have := blt_lt hp.1; omega
    refine tsIn_look hp.2 (by simpa using hn) (by simpa using hl) h2 fun t u' e => ?_
    simp only [alook] at e
    split at e
    · rename_i hk
      have := Nat.eq_of_beq_eq_true hk; subst this
      simp at e; subst e
      exact ⟨d, by simp [hpl], h1⟩
    · rename_i hk
      obtain ⟨v, g1, g2⟩ := h t u' e
      exact ⟨v, by rw [Array.getElem?_setIfInBounds_ne (by rintro rfl; simp at hk)]; exact g1, g2⟩
  | [], _ :: _, _, _, _, _, _, hl, _, _ => by simp at hl
  | _ :: _, [], _, _, _, _, _, hl, _, _ => by simp at hl
section round
variable {P : Program} {gl : Glob} {orc : Orc} {k : Nat}
def finY (b k : Nat) (H0 : AHeap) (ok : Bool) (pend : Option Code) (r : AV) (N : AHeap) (H : AHeap) : Prop :=
  setLoop H b .busy (match ok with | true => .ready | false => .done) (fun _ => pend) fun H => r = .bool ok ∧ H.take k = N ∧ evoB k H0 N = true
theorem setLoop_sound {sn : Snap} {ι : IMap} {H : AHeap} {W : World} {b l : Nat} {was st : LoopState} {pf : Option Code → Option Code} {K : AHeap → Prop} (hR : R sn ι H W) (h : setLoop H b was st pf K) (hl : ∀ p, ι b = some p → p.blk = l) :
    ∃ r : Loop, W.heap[l]? = some (.loop r) ∧ r.state = was ∧ ∃ H', K H' ∧ ∀ r', r' = { r with state := st, pending := pf r.pending } → Stp sn ι H W sn ι H' (W.putObj l (.loop r')) := by
  obtain ⟨o, hb, h⟩ := onO_some h
  split at h <;> try exact h.elim
  rename_i fam sh g ts
  obtain ⟨hst, h⟩ := h
  rw [frcHW_eq] at h
  obtain ⟨p, hp⟩ := hR.place hb
  have hor := hR.obj _ _ p hb rfl hp
  simp only [OR] at hor
  obtain ⟨r, e1, e2, e3, e4⟩ := hor
  have hpl := hl p hp
  rw [hpl] at e1
  refine ⟨r, e1, by rw [e3.st]; exact hst, _, h, fun r' hr' => ?_⟩
  refine Stp.write hR (o := ⟨true, fam, sh, .loop g ts⟩) hb rfl hp (by rw [hpl]; exact turn_putObj W l _) (.loop { g with st := st, pend := pf g.pend } ts) ?_
  simp only [OR]
  rw [hpl]
  refine ⟨r', World.putObj_heap_same (Array.getElem?_eq_some_iff.1 e1).1, by rw [← hpl]; exact e2, ?_, by rw [hr']; exact e4⟩
  rw [hr']
  exact ⟨rfl, by rw [← e3.pend], e3.n, e3.ps, e3.asg, e3.bd⟩
theorem round_mem (hm : P.follows .mixedOrders = true) (hn : NoNum P) (hO : OrcSound P gl orc) {b : Nat} {args : List AV} {H0 N : AHeap} {r : AV} {fam sh : Nat} {g : ALoop} {ts : List (Nat × AV)} {cw : CW} (hcw : CWok P orc cw)
    (hk : H0.length = k) (hb : H0[b]? = some ⟨true, fam, sh, .loop g ts⟩) (hps : g.ps.toList.length = args.length) (hpn : allLt g.n g.ps.toList = true)
    (h : frcTr (tmR g.n (tsIn g.ps.toList args ts)) fun tm => wexec P gl orc cw (wloopK k) g.asg
      (fun tm H => setLoop H b .ready .busy (fun p => p) fun H => wexec P gl orc cw (wloopK k) g.bd (fun _ H => finY b k H0 true none r N H) (fun id _ H => finY b k H0 false (some (.exit id)) r N H) (fun _ H => finY b k H0 false (some .ret) r N H) tm H)
      (fun _ _ _ => False) (fun _ _ => False) tm H0) : MemOK P gl (ykey g.l) args H0 r N := by
  intro sn ι W cargs hg hR ha
  rw [frcTr_eq] at h
  have hbk : b < k := by rw [← hk]; exact (List.getElem?_eq_some_iff.1 hb).1
  obtain ⟨p, hp⟩ := hR.place hb
  have hor := hR.obj _ _ p hb rfl hp
  simp only [OR] at hor
  obtain ⟨rc, e1, e2, e3, e4⟩ := hor
  have keepl : ∀ {sn' : Snap} {ι' : IMap} {H' : AHeap} {W' : World}, Stq k sn ι H0 W sn' ι' H' W' → ∀ q, ι' b = some q → q.blk = g.l := fun s q hq => by
    have := s.keep b p hbk hp
    rw [hq] at this; cases this; exact e2
  rw [e2] at e1
  have hcl : cargs.toArray.size = rc.params.size := by
    have := ha.length
    rw [e3.ps]
    simp only [List.size_toArray, this, ← hps, Array.length_toList]
  refine .inr ⟨g.l, rfl, hn.key _, _, _, _, _, run_yield e1 hcl, ?_⟩
  rw [e3.asg, e3.bd, e3.ps]
  have hfold : ∀ (l : Array Tmp) (vs : List Value) (t0 : Array Value), (l.zip vs.toArray).foldl (fun tmps x => match x with | (t, a) => tmps.setIfInBounds t a) t0 = (l.toList.zip vs).foldl (fun tmps x => tmps.setIfInBounds x.1 x.2) t0 := by
    intro l vs t0
    rw [← Array.foldl_toList, Array.toList_zip]
  rw [hfold]
  obtain ⟨hsz, hlk⟩ := tsIn_look (ps := g.ps.toList) (us := args) (vs := cargs) (ts := ts) (tmps := rc.tmps) hpn e3.n hps ha (e4.look)
  have ht : TRel sn ι (tmR g.n (tsIn g.ps.toList args ts)) { tmps := (g.ps.toList.zip cargs).foldl (fun tmps x => tmps.setIfInBounds x.1 x.2) rc.tmps, defers := [] } := by
    refine ⟨fun t u e => hlk t u (mask_get _ _ _ _ e), fun t e => ?_⟩
    unfold tmR at e
    rw [mask_tex] at e
    obtain ⟨u, hu⟩ := tmk_tex _ _ _ e
    split at hu
    · rename_i hlt; exact Nat.lt_of_lt_of_le (blt_lt hlt) hsz
    · cases hu
  refine roundIn_of_wpIn (F := Fq none) trivial ?_
  have fin : ∀ {ok : Bool} {pend : Option Code} {sn' : Snap} {ι' : IMap} {H' : AHeap} {W' : World}, pend.isNone = ok → Stq k sn ι H0 W sn' ι' H' W' → finY b k H0 ok pend r N H' →
      ∃ v w', (Instr.endRound g.l pend).run P W' = .ok v w' ∧ ∃ v' sn2 ι2, Ending.returned v = .returned v' ∧ VR sn2 ι2 r v' ∧ Stp sn ι H0 W sn2 ι2 N w' := by
    intro ok pend sn' ι' H' W' hok s hf
    obtain ⟨r3, f1, f2, H3, ⟨rfl, g1, g2⟩, f3⟩ := setLoop_sound s.rel hf (keepl s)
    have hst := f3 { r3 with state := if pend.isNone then .ready else .done, pending := pend } (by rw [hok]; cases ok <;> rfl)
    have hrun := run_endRound (P := P) pend f1
    have s3 := s.trans (hst.q s.rel)
    obtain ⟨ι2, k1, k2⟩ := stp_of_stq hk hR s3 g1 g2
    exact ⟨_, _, hrun, _, sn', ι2, rfl, by rw [hok]; exact vr_bool ok, k1⟩
  refine (wexec_ok (rd := some g.l) hm hn hO hcw g.asg h) _ W sn ι _ hg hR ht fun x tm1 H1 a1 W1 sn1 ι1 hx s1 t1 d1 => ?_
  cases x with
  | normal =>
    replace hx : setLoop H1 b .ready .busy (fun p => p) fun H => wexec P gl orc cw (wloopK k) g.bd (fun _ H => finY b k H0 true none r N H) (fun id _ H => finY b k H0 false (some (.exit id)) r N H) (fun _ H => finY b k H0 false (some .ret) r N H) tm1 H := hx
    obtain ⟨r2, f1, f2, H2, hx, f3⟩ := setLoop_sound s1.rel hx (keepl s1)
    have hst := f3 { r2 with state := .busy } rfl
    refine ⟨_, run_beginRound f1 f2, ?_⟩
    refine (wexec_ok (rd := some g.l) hm hn hO hcw g.bd hx) a1 _ sn1 ι1 _ (hg.mono (gl_le s1.le)) hst.rel (t1.mono hst.le) fun x tm2 H3 a3 W3 sn3 ι3 hx3 s3 t3 d3 => ?_
    have s := (s1.trans (hst.q s1.rel)).trans s3
    cases x with
    | normal => exact fin rfl s hx3
    | ret => exact fin rfl s hx3
    | exit id => exact fin rfl s hx3
  | exit id => exact hx.elim
  | ret => exact hx.elim
end round
section call
open Classical
theorem orcI_at {I : Type} {G : I → Prop} {fF : I → Nat} {fA : I → List AV} {fH : I → AHeap} {fR : I → AV} {fO : I → AHeap} (hinj : ∀ i j, G i → G j → fF i = fF j → fA i = fA j → fH i = fH j → fR i = fR j ∧ fO i = fO j) {g : Nat} {args : List AV} {H : AHeap} (i : I) (hi : G i) (h1 : fF i = g) (h2 : fA i = args) (h3 : fH i = H) :
    orcI G fF fA fH fR fO g args H = some (fR i, fO i) := by
  have hx : ∃ i, G i ∧ fF i = g ∧ fA i = args ∧ fH i = H := ⟨i, hi, h1, h2, h3⟩
  unfold orcI
  rw [dif_pos hx]
  obtain ⟨g1, g2, g3, g4⟩ := Classical.choose_spec hx
  obtain ⟨e1, e2⟩ := hinj _ i g1 hi (g2.trans h1.symm) (g3.trans h2.symm) (g4.trans h3.symm)
  rw [e1, e2]
end call
theorem acall_y {P : Program} (hn : NoNum P) {O : Orc} {H : AHeap} {l : Nat} {args : List AV} {x : AV × AHeap} (h : O (ykey l) args H = some x) : acall P O H (ykey l) (ymark l :: args) = some x := by
  have hk := hn.key l
  unfold acall
  rw [hn.noBody, if_neg (by decide)]
  simp only [extId, extIx, extMk, hk, yl, ymark, if_true]
  exact h
theorem acall_y1 {P : Program} (hn : NoNum P) {O1 O2 : Orc} {H : AHeap} {l : Nat} {args : List AV} {x : AV × AHeap} (h : O1 (ykey l) args H = some x) : acall P (orcOr O1 O2) H (ykey l) (ymark l :: args) = some x :=
  acall_y hn (by unfold orcOr; rw [h])
def rfOf : Code → Option (Array Tmp × Code × Code)
  | .rangeFunc _ ps a b => some (ps, a, b)
  | .seq a b => match rfOf a with | some x => some x | none => rfOf b
  | .cond _ a b => match rfOf a with | some x => some x | none => rfOf b
  | .block _ b => rfOf b
  | .loop b => rfOf b
  | .scope b => rfOf b
  | _ => none
def rfIn (c : Option Code) : Array Tmp × Code × Code := match c with
  | some c => match rfOf c with | some x => x | none => (#[], .skip, .skip)
  | none => (#[], .skip, .skip)
def fitsB (k : Nat) : AHeap → Bool
  | [] => true
  | o :: H => allLt k (refsB o.body []) && fitsB k H
theorem fitsB_get {k : Nat} : ∀ {H : AHeap} {b : Nat} {o : AObj}, fitsB k H = true → H[b]? = some o → allLt k (refsB o.body []) = true
  | [], b, o, h, e => by simp at e
  | x :: H, 0, o, h, e => by simp only [fitsB, Bool.and_eq_true] at h; simp at e; subst e; exact h.1
  | x :: H, b + 1, o, h, e => by simp only [fitsB, Bool.and_eq_true] at h; exact fitsB_get h.2 (by simpa using e)
def otherF (fs : List Nat) : AHeap → Bool
  | [] => true
  | o :: H => !mem o.fam fs && otherF fs H
theorem otherF_get {fs : List Nat} : ∀ {X : AHeap} {b : Nat} {o : AObj}, otherF fs X = true → X[b]? = some o → o.fam ∉ fs
  | [], b, o, h, e => by simp at e
  | x :: X, 0, o, h, e => by
    simp only [otherF, Bool.and_eq_true, Bool.not_eq_true'] at h
    simp at e; subst e
    intro hm; rw [mem_iff.2 hm] at h; cases h.1
  | x :: X, b + 1, o, h, e => by simp only [otherF, Bool.and_eq_true] at h; exact otherF_get h.2 (by simpa using e)
theorem mem_app {P : Program} {gl : Glob} {f : Nat} {args : List AV} {H H' : AHeap} {r : AV} (hM : MemOK P gl f args H r H') (X : AHeap) (hl : H'.length = H.length) (ha : allLt H.length (refsL args []) = true) (hb : fitsB H.length H = true) (hX : otherF (H.map (·.fam)) X = true) : MemOK P gl f args (H ++ X) r (H' ++ X) := by
  intro sn ι W cargs hg hR hargs
  let ι0 : IMap := fun b => if b < H.length then ι b else none
  have i0 : ∀ b, b < H.length → ι0 b = ι b := fun b h => if_pos h
  have i0' : ∀ b p, ι0 b = some p → b < H.length ∧ ι b = some p := fun b p h => by
    have h : (if b < H.length then ι b else none) = some p := h
    split at h
    · exact ⟨by assumption, h⟩
    · cases h
  have gH : ∀ (b : Nat) (o : AObj), H[b]? = some o → (H ++ X)[b]? = some o := fun b o h => by
    rw [List.getElem?_append_left (List.getElem?_eq_some_iff.1 h).1]; exact h
  have hfam : ∀ (b c : Nat) (o x : AObj) (p q : Place), H[b]? = some o → (H ++ X)[c]? = some x → H.length ≤ c → ι b = some p → ι c = some q → p.blk = q.blk → False := by
    intro b c o x p q hb hc hk hp hq e
    have hf := (hR.sep b c o x p q (gH b o hb) hc hp hq e).1
    rw [List.getElem?_append_right hk] at hc
    exact otherF_get hX hc (by rw [← hf]; exact List.mem_map.2 ⟨o, List.mem_of_getElem? hb, rfl⟩)
  have hR0 : R sn ι0 H W := by
    refine ⟨fun b => ⟨fun hb => ?_, fun ⟨p, hp⟩ => (i0' b p hp).1⟩, fun b p hp => hR.blk b p (i0' b p hp).2, fun b o p ho hal hp => ?_, fun b b' o o' p p' ho ho' hp hp' e => hR.sep b b' o o' p p' (gH _ _ ho) (gH _ _ ho') (i0' _ _ hp).2 (i0' _ _ hp').2 e, fun a v hv => ?_, fun b o p ho hp e => hR.shz b o p (gH _ _ ho) (i0' _ _ hp).2 e⟩
    · obtain ⟨p, hp⟩ := (hR.dom b).1 (by rw [List.length_append]; omega)
      exact ⟨p, by rw [i0 b hb]; exact hp⟩
    · obtain ⟨hbl, hp⟩ := i0' b p hp
      exact OR_refs o.body p (fun x hx q hq => by rw [i0 x (allLt_mem (fitsB_get hb ho) x hx)]; exact hq) (hR.obj b o p (gH _ _ ho) hal hp)
    · obtain ⟨h1, h2, h3⟩ := hR.snap a v hv
      exact ⟨h1, h2, fun b o p ho hal hp => h3 b o p (gH _ _ ho) hal (i0' _ _ hp).2⟩
  have hl0 : LR sn ι0 args cargs := LR_refs args [] cargs (fun b hb' p hp => by rw [i0 b (allLt_mem ha b hb')]; exact hp) hargs
  refine (hM sn ι0 W cargs hg hR0 hl0).mono ?_
  rintro e W1 ⟨v, sn1, ι1, rfl, hv, hs⟩
  let ι2 : IMap := fun b => match ι1 b with | some p => some p | none => ι b
  have a1 : ∀ b p, ι1 b = some p → ι2 b = some p := fun b p h => by show (match ι1 b with | some p => some p | none => ι b) = some p; rw [h]
  have a2 : ∀ b, H.length ≤ b → ι2 b = ι b := fun b h => by
    show (match ι1 b with | some p => some p | none => ι b) = ι b
    cases hq : ι1 b with
    | none => rfl
    | some p => have := (hs.rel.dom b).2 ⟨p, hq⟩; omega
  have a3 : ∀ b p, ι b = some p → ι2 b = some p := fun b p h => by
    by_cases hb' : b < H.length
    · exact a1 b p (hs.le.ι b p (by rw [i0 b hb']; exact h))
    · rw [a2 b (by omega)]; exact h
  have a4 : ∀ b p, b < H.length → ι2 b = some p → ι1 b = some p ∧ ι b = some p := fun b p hb' h => by
    obtain ⟨q, hq⟩ := (hR.dom b).1 (by rw [List.length_append]; omega)
    have h1 := hs.le.ι b q (by rw [i0 b hb']; exact hq)
    have h2 := a1 b q h1
    rw [h] at h2; cases h2
    exact ⟨h1, hq⟩
  have hle : Le sn sn1 ι ι2 := ⟨hs.le.sn, a3⟩
  have g1 : ∀ (b : Nat) (o : AObj), (H' ++ X)[b]? = some o → (b < H.length ∧ H'[b]? = some o) ∨ (H.length ≤ b ∧ (H ++ X)[b]? = some o) := fun b o h => by
    by_cases hb' : b < H.length
    · rw [List.getElem?_append_left (by omega)] at h; exact .inl ⟨hb', h⟩
    · rw [List.getElem?_append_right (by omega), hl] at h
      exact .inr ⟨by omega, by rw [List.getElem?_append_right (by omega)]; exact h⟩
  have old : ∀ (b : Nat) (o : AObj) (p : Place), (H' ++ X)[b]? = some o → ι2 b = some p → ∃ o0, (H ++ X)[b]? = some o0 ∧ ι b = some p ∧ o.fam = o0.fam ∧ o.sh = o0.sh := by
    intro b o p ho hp
    rcases g1 b o ho with ⟨h1, h2⟩ | ⟨h1, h2⟩
    · obtain ⟨_, hq⟩ := a4 b p h1 hp
      obtain ⟨o', k1, k2, k3, _⟩ := hs.evo b _ (List.getElem?_eq_getElem h1)
      rw [h2] at k1; cases k1
      exact ⟨_, gH _ _ (List.getElem?_eq_getElem h1), hq, k2, k3⟩
    · rw [a2 b h1] at hp
      exact ⟨o, h2, hp, rfl, rfl⟩
  have same : ∀ (b : Nat) (o : AObj) (p : Place), (H ++ X)[b]? = some o → H.length ≤ b → ι b = some p → W1.heap[p.blk]? = W.heap[p.blk]? := fun b o p ho hk hp =>
    hs.frame p.blk (hR.blk b p hp) fun b' o' p' ho' _ hp' e => hfam b' b o' o p' p ho' ho hk (i0' _ _ hp').2 hp e
  refine ⟨v, sn1, ι2, rfl, VR_mono ⟨fun _ _ h => h, a1⟩ _ _ hv, ⟨?_, hle, fun b p hp => ?_, fun c hc hno => hs.frame c hc fun b o p ho hal hp => hno b o p (gH _ _ ho) hal (i0' _ _ hp).2, hs.size, hs.os, hs.tape, hs.output, fun a v hv => ?_, fun b o ho => ?_⟩⟩
  · refine ⟨fun b => ?_, fun b p hp => ?_, fun b o p ho hal hp => ?_, fun b b' o o' p p' ho ho' hp hp' e => ?_, fun a u hu => ?_, fun b o p ho hp e => ?_⟩
    · have := hR.dom b
      rw [List.length_append, hl, ← List.length_append, this]
      constructor
      · rintro ⟨p, hp⟩; exact ⟨p, a3 b p hp⟩
      · rintro ⟨p, hp⟩
        by_cases hb' : b < H.length
        · exact ⟨p, (a4 b p hb' hp).2⟩
        · exact ⟨p, by rw [← a2 b (by omega)]; exact hp⟩
    · by_cases hb' : b < H.length
      · exact hs.rel.blk b p (a4 b p hb' hp).1
      · rw [a2 b (by omega)] at hp
        have := hR.blk b p hp; have := hs.size; omega
    · rcases g1 b o ho with ⟨h1, h2⟩ | ⟨h1, h2⟩
      · obtain ⟨hp1, _⟩ := a4 b p h1 hp
        exact OR_mono ⟨fun _ _ h => h, a1⟩ rfl (hs.rel.obj b o p h2 hal hp1)
      · rw [a2 b h1] at hp
        exact OR_mono hle (same b o p h2 h1 hp) (hR.obj b o p h2 hal hp)
    · obtain ⟨o0, k1, k2, k3, k4⟩ := old b o p ho hp
      obtain ⟨o0', k1', k2', k3', k4'⟩ := old b' o' p' ho' hp'
      rw [k3, k3', k4, k4']
      exact hR.sep b b' o0 o0' p p' k1 k1' k2 k2' e
    · obtain ⟨h1, h2, h3⟩ := hs.rel.snap a u hu
      refine ⟨h1, h2, fun b o p ho hal hp e => ?_⟩
      rcases g1 b o ho with ⟨k1, k2⟩ | ⟨k1, k2⟩
      · exact h3 b o p k2 hal (a4 b p k1 hp).1 e
      · rw [a2 b k1] at hp
        rcases hs.sfresh a u hu with f1 | f1 | ⟨b0, o0, p0, f1, f2, f3, f4⟩
        · exact (hR.snap a u f1).2.2 b o p k2 hal hp e
        · have := hR.blk b p hp; omega
        · exact hfam b0 b o0 o p0 p f1 k2 k1 (i0' _ _ f3).2 hp (f4.trans e.symm)
    · obtain ⟨o0, k1, k2, _, k4⟩ := old b o p ho hp
      exact hR.shz b o0 p k1 k2 (by rw [← k4]; exact e)
  · by_cases hb' : b < H.length
    · exact .inl (a4 b p hb' hp).2
    · rw [a2 b (by omega)] at hp; exact .inl hp
  · rcases hs.sfresh a v hv with f1 | f1 | ⟨b0, o0, p0, f1, f2, f3, f4⟩
    · exact .inl f1
    · exact .inr (.inl f1)
    · exact .inr (.inr ⟨b0, o0, p0, gH _ _ f1, f2, (i0' _ _ f3).2, f4⟩)
  · by_cases hb' : b < H.length
    · rw [List.getElem?_append_left hb'] at ho
      obtain ⟨o', k1, k2, k3, k4⟩ := hs.evo b o ho
      exact ⟨o', by rw [List.getElem?_append_left (by omega)]; exact k1, k2, k3, k4⟩
    · rw [List.getElem?_append_right (by omega)] at ho
      exact ⟨o, by rw [List.getElem?_append_right (by omega), hl]; exact ho, rfl, rfl, id⟩
end Go.Abs
end


section

set_option linter.unusedVariables false
set_option linter.unusedSimpArgs false
namespace Go.Proofs.YtblnhcafobifgaaGreatDoor.lex
open Go.Abs Go.RowKit
set_option maxRecDepth 100000
set_option maxHeartbeats 4000000
noncomputable def rcC : Array Tmp × Code × Code := rfIn Tryz.f11.body
noncomputable def recC (L : Nat) (st : Option (Nat × Int)) : ALoop := match st with
  | none => ⟨L, .ready, none, 80, rcC.1, rcC.2.1, rcC.2.2⟩
  | some _ => ⟨L, .done, some .ret, 80, rcC.1, rcC.2.1, rcC.2.2⟩
def tsC : List (Nat × AV) := [(1, .ptr 0 0), (2, .ptr 1 0), (3, .ptr 2 0), (7, .ptr 3 0)]
def wC (t : Nat) (st : Option (Nat × Int)) : List AV := match st with
  | none => [.int .i64 0, .int .i64 0]
  | some r => [.int .i64 ((t + 1 : Nat) : Int), .int .i64 (r.1 : Nat)]
def eC (st : Option (Nat × Int)) : List AV := match st with
  | none => [.int .i64 0]
  | some r => [.int .i64 r.2]
noncomputable def bsC (ds : List Dc) (ts : List (List St)) (t L : Nat) (st : Option (Nat × Int)) : AHeap := [⟨true, 0, 0, .cells [.rs ds.length 3 (dcC ds), .rs ts.length 1 (ts.map stA)] 29⟩, ⟨true, 1, 0, .cells (wC t st) 32⟩, ⟨true, 2, 0, .cells (eC st) 23⟩, ⟨true, 3, 0, .cells [.int .i64 (t : Nat)] 3⟩, ⟨true, 4, 0, .loop (recC L st) tsC⟩]
def yA (L : Nat) : AV := .func (.yield L) [] []
def ecA : AV := .func (.func 52) [] [.ptr 5 0, .ptr 6 0, .ptr 7 0]
noncomputable def ecH (ds : List Dc) (ts : List (List St)) (t L : Nat) (n : Int) (st : Option (Nat × Int)) : AHeap := [⟨true, 0, 0, .cells [.rs ds.length 3 (dcC ds), .rs ts.length 1 (ts.map stA)] 29⟩, ⟨true, 1, 0, .cells (wC t st) 32⟩, ⟨true, 2, 0, .cells (eC st) 23⟩, ⟨true, 3, 0, .cells [.int .i64 (t : Nat)] 3⟩, ⟨true, 4, 0, .loop (recC L st) tsC⟩,
  ⟨true, 5, 0, .cells [yA L] 89⟩, ⟨true, 6, 0, .cells [.int .i64 n] 3⟩, ⟨true, 7, 0, .cells [ecA] 90⟩]
def stO (r : Nat × Int) : Option (Nat × Int) := cond (r.2 == 0) none (some r)
theorem round_ok (ds : List Dc) (ts : List (List St)) (t L n : Nat) (x : St) (hd : ds.length ≤ 9223372036854775807) (hok : okS x) (hs : sizeL x.exprs ≤ 800000) (ht : t ≤ 1000000) :
    MemOK Tryz.prog runLives.gl (ykey L) [.int .i64 (n : Nat), .agg x.cells] (ecH ds ts t L n none) (.bool (oneP ds x == 0)) (ecH ds ts t L n (stO (n, oneP ds x))) := by
  obtain ⟨O, hO, p1, -⟩ := fams (P := Tryz.prog) (gl := runLives.gl) [{ I := Unit, f := 29, G := fun _ => True, A := fun _ => [.rs ds.length 3 (dcC ds), .agg x.cells], R := fun _ => .int .i64 (oneP ds x), body := (by kernel_rfl), inj := (fun i j _ _ h => rfl), ok := (fun _ _ => ⟨st_refs2 ds x, stmtX_ok ds x hd hok hs⟩) }] rfl
  have q1 : ∀ H, acall Tryz.prog O H 29 [.rs ds.length 3 (dcC ds), .agg x.cells] = some (.int .i64 (oneP ds x), H) := p1 () trivial
  clear p1
  generalize oneP ds x = e at *
  obtain ⟨k, nm, lc, o, ex, th, el⟩ := x
  simp only [St.cells, exA] at *
  refine round_mem (k := 8) (b := 4) (fam := 4) (sh := 0) (g := recC L none) (ts := tsC) follows noNum hO (cw0_ok _ _) rfl rfl rfl rfl ?_
  cases he : e == 0 with
  | true =>
    have f1 : (e != 0) = false := bne_of he
    have hst : stO (n, e) = none := by unfold stO; simp only [he, cond_true]
    rw [hst]
    repeat' ((conv => whnf); first | (refine exI (q1 _) ?_) | (refine And.intro (rfl : (_ : LoopState) = _) ?_) | (first | refine stp ?_ | with_reducible refine condB (fun h => ?_) (fun h => ?_)))
    all_goals (conv => whnf)
    all_goals first | exact ⟨rfl, rfl⟩ | exact ⟨rfl, rfl, rfl⟩ | trace_state
  | false =>
    have f1 : (e != 0) = true := bne_of he
    have hst : stO (n, e) = some (n, e) := by unfold stO; simp only [he, cond_false]
    rw [hst]
    repeat' ((conv => whnf); first | (refine exI (q1 _) ?_) | (refine And.intro (rfl : (_ : LoopState) = _) ?_) | (first | refine stp ?_ | with_reducible refine condB (fun h => ?_) (fun h => ?_)))
    all_goals (conv => whnf)
    all_goals first | exact ⟨rfl, rfl⟩ | exact ⟨rfl, rfl, rfl⟩ | trace_state
theorem ecH_inj {ds : List Dc} {ts : List (List St)} {t L : Nat} {n m : Int} (h : ecH ds ts t L n none = ecH ds ts t L m none) : n = m := by
  simpa only [ecH, List.cons.injEq, AObj.mk.injEq, ABody.cells.injEq, AV.int.injEq, and_true, true_and] using h
theorem ecH_app {ds : List Dc} {ts : List (List St)} {t L : Nat} {n m : Int} {X Y : AHeap} (h : ecH ds ts t L n none ++ X = ecH ds ts t L m none ++ Y) : n = m ∧ X = Y := by
  obtain ⟨h1, h2⟩ := List.append_inj h rfl
  exact ⟨ecH_inj h1, h2⟩
def fs8 : List Nat := [0, 1, 2, 3, 4, 5, 6, 7]
theorem ecH_fits (ds : List Dc) (ts : List (List St)) (t L : Nat) (n : Int) : fitsB 8 (ecH ds ts t L n none) = true := rfl
theorem ne_key (L f : Nat) (h : f < 1024) : ykey L ≠ f := fun e => by have e : L + 1024 = f := e; omega
theorem each_ok (ds : List Dc) (ts : List (List St)) (t L : Nat) (hd : ds.length ≤ 9223372036854775807) (ht : t ≤ 1000000) : ∀ (q : Nat) (l : List St) (n : Nat), sizeSL l ≤ q → okSL l → l.length ≤ 9223372036854775807 → n + sizeSL l ≤ 800000 →
    MemOK Tryz.prog runLives.gl 52 [stA l, .ptr 5 0, .ptr 6 0, .ptr 7 0] (ecH ds ts t L n none) (.bool ((nbSL (oneP ds) l n).2 == 0)) (ecH ds ts t L (nbSL (oneP ds) l n).1 (stO (nbSL (oneP ds) l n)))
  | q, l, n, hq, hok, hl, hn => by
    have hO : ∃ O, OrcSound Tryz.prog runLives.gl O ∧ (∀ x ∈ l, ∀ (c : Nat) (X : AHeap), otherF fs8 X = true → acall Tryz.prog O (ecH ds ts t L c none ++ X) (ykey L) (ymark L :: [.int .i64 (c : Nat), .agg x.cells]) = some (.bool (oneP ds x == 0), ecH ds ts t L c (stO (c, oneP ds x)) ++ X)) ∧
        (∀ (y : List St) (c : Nat) (X : AHeap), sizeSL y < q → okSL y → y.length ≤ 9223372036854775807 → c + sizeSL y ≤ 800000 → otherF fs8 X = true → acall Tryz.prog O (ecH ds ts t L c none ++ X) 52 [stA y, .ptr 5 0, .ptr 6 0, .ptr 7 0] = some (.bool ((nbSL (oneP ds) y c).2 == 0), ecH ds ts t L (nbSL (oneP ds) y c).1 (stO (nbSL (oneP ds) y c)) ++ X)) := by
      refine ⟨orcOr (orcI (fun p : Nat × St × AHeap => p.2.1 ∈ l ∧ otherF fs8 p.2.2 = true) (fun _ => ykey L) (fun p => [.int .i64 (p.1 : Nat), .agg p.2.1.cells]) (fun p => ecH ds ts t L p.1 none ++ p.2.2) (fun p => .bool (oneP ds p.2.1 == 0)) (fun p => ecH ds ts t L p.1 (stO (p.1, oneP ds p.2.1)) ++ p.2.2)) (orcI (fun p : List St × Nat × AHeap => sizeSL p.1 < q ∧ okSL p.1 ∧ p.1.length ≤ 9223372036854775807 ∧ p.2.1 + sizeSL p.1 ≤ 800000 ∧ otherF fs8 p.2.2 = true) (fun _ => 52) (fun p => [stA p.1, .ptr 5 0, .ptr 6 0, .ptr 7 0]) (fun p => ecH ds ts t L p.2.1 none ++ p.2.2) (fun p => .bool ((nbSL (oneP ds) p.1 p.2.1).2 == 0)) (fun p => ecH ds ts t L (nbSL (oneP ds) p.1 p.2.1).1 (stO (nbSL (oneP ds) p.1 p.2.1)) ++ p.2.2)), orcOr_sound (orcI_sound fun p hp => ?_) (orcI_sound fun p hp => ?_), fun x hx c X hX => ?_, fun y c X h0 h1 h2 h3 hX => ?_⟩
      · exact mem_app (round_ok ds ts t L p.1 p.2.1 hd (okSL_get hok _ hp.1) (by have := sizeSL_mem l p.2.1 hp.1; rw [sizeS_kids] at this; omega) ht) p.2.2 rfl (by cases p.2.1; rfl) (ecH_fits ..) hp.2
      · obtain ⟨h0, h1, h2, h3, h4⟩ := hp
        refine mem_app ?_ p.2.2 rfl rfl (ecH_fits ..) h4
        match q, hq, h0 with
        | q + 1, hq, h0 => exact each_ok ds ts t L hd ht q p.1 p.2.1 (by omega) h1 h2 h3
      · exact acall_y1 noNum (orcI_at (fun i j _ _ _ ha hh => by
          obtain ⟨i1, i2, i3⟩ := i
          obtain ⟨j1, j2, j3⟩ := j
          obtain ⟨h1, rfl⟩ := ecH_app hh
          obtain rfl : i1 = j1 := by simp only at h1; omega
          simp only [List.cons.injEq, and_true, true_and] at ha
          rw [agg_cells_inj ha]; exact ⟨rfl, rfl⟩) (c, x, X) ⟨hx, hX⟩ rfl rfl rfl)
      · exact callOr2 (by kernel_rfl) (orcI_none fun p _ e _ => ne_key _ _ (by decide) e) (callI (P := Tryz.prog) (fun i j _ _ _ ha hh => by
          obtain ⟨i1, i2, i3⟩ := i
          obtain ⟨j1, j2, j3⟩ := j
          obtain ⟨h1, rfl⟩ := ecH_app hh
          obtain rfl : i2 = j2 := by simp only at h1; omega
          simp only [List.cons.injEq, and_true] at ha
          rw [stA_inj ha]; exact ⟨rfl, rfl⟩) (by kernel_rfl) (y, c, X) ⟨h0, h1, h2, h3, hX⟩ rfl rfl rfl)
    obtain ⟨O, hO, q1, q2⟩ := hO
    generalize oneP ds = f at *
    show MemOK _ _ _ [.rs l.length 7 (stC l), .ptr 5 0, .ptr 6 0, .ptr 7 0] _ _ _
    refine fn_mem (k := 8) follows noNum hO rfl Tryz.func52 rfl (cw0_ok _ _) ?_
    repeat' ((conv => whnf); first | refine stp ?_ | with_reducible refine condB (fun h => ?_) (fun h => ?_))
    conv => whnf
    refine ⟨Nat, (fun i => i ≤ l.length ∧ (nbSL f (l.take i) n).2 = 0), (fun i => [(1, .ptr 5 0), (2, .ptr 6 0), (3, .ptr 7 0), (8, .rs l.length 7 (stC l)), (9, .int .i64 l.length), (10, .int .i64 i)]), (fun i => ecH ds ts t L ((nbSL f (l.take i) n).1 : Nat) none), (fun i => l.length - i), ⟨0, ⟨Nat.zero_le _, rfl⟩, FgLK.mk [0, 1, 2, 3, 4, 5, 6, 7] rfl rfl ?_ ⟨⟨rfl, rfl, rfl, rfl, BodyGe.pre (rest := []) rfl rfl⟩, ⟨rfl, rfl, rfl, rfl, BodyGe.pre (rest := []) rfl rfl⟩, ⟨rfl, rfl, rfl, rfl, BodyGe.pre (rest := []) rfl rfl⟩, ⟨rfl, rfl, rfl, rfl, BodyGe.pre (rest := []) rfl rfl⟩, ⟨rfl, rfl, rfl, rfl, rfl, rfl, Wk.ptr rfl rfl, rfl, Wk.ptr rfl rfl, rfl, Wk.ptr rfl rfl, rfl, Wk.ptr rfl rfl, trivial⟩, ⟨rfl, rfl, rfl, rfl, BodyGe.pre (rest := []) rfl rfl⟩, ⟨rfl, rfl, rfl, rfl, BodyGe.pre (rest := []) rfl rfl⟩, ⟨rfl, rfl, rfl, rfl, BodyGe.cellsL ⟨Wk.func trivial ⟨Wk.ptr rfl rfl, Wk.ptr rfl rfl, Wk.ptr rfl rfl, trivial⟩, trivial⟩⟩, trivial⟩ rfl⟩, ?_⟩
    · (repeat (first | exact trivial | refine stw ?_))
    rintro i ⟨hi, h0⟩
    dsimp only
    by_cases hlt : i < l.length
    · have e1 : decide ((i : Int) < (l.length : Int)) = true := by simpa using hlt
      have hat := nbSL_at f l n i hlt h0
      have hstop := nbSL_stop f l n (i + 1)
      have hle := nbSL_le f (l.take i) n
      have hsz := sizeSL_at l i hlt
      have hx := st7 l i hlt
      have hmem := get_mem hlt
      have hok' := okS_parts (okSL_get hok _ hmem)
      have hkids := sizeS_kids l[i]
      have hy := fun c X hX => q1 _ hmem c X hX
      generalize hc : (nbSL f (l.take i) n).1 = c at *
      generalize l[i] = x at *
      rw [nbS_eq] at hat
      obtain ⟨_, _, _, ht1, he, _, ht2, he2⟩ := hok'
      have hX : otherF fs8 [⟨true, 8, 0, .cells x.cells 64⟩] = true := rfl
      have hy := hy c _ hX
      have hqt := q2 x.thn (c + 1) _ (by omega) ht2 ht1 (by omega) hX
      have hlt2 := nbSL_le f x.thn (c + 1)
      rw [show ((c + 1 : Nat) : Int) = (c : Int) + 1 from by omega] at hqt
      cases h1 : f x == 0 with
      | false =>
        rw [h1] at hat hy
        simp only [cond_false] at hat
        have hst := hstop (by rw [hat]; simpa using h1)
        rw [hst, hat]
        have hsO : stO (c, f x) = some (c, f x) := by unfold stO; simp only [h1, cond_false]
        simp only [h1]
        rw [hsO] at hy ⊢
        obtain ⟨k, nm, lc, o, ex, th, el⟩ := x
        simp only [St.cells, exA, St.thn, St.els, stA] at *
        clear hqt hat hst hstop q1 q2
        generalize f (St.mk k nm lc o ex th el) = fx at *
        repeat' ((conv => whnf); first | (refine exI hx ?_) | (refine exI hy ?_) | (with_reducible refine ixJ i rfl ?_ ?_; (focus (omega))) | (first | refine stp ?_ | with_reducible refine condB (fun h => ?_) (fun h => ?_)))
        all_goals exact ⟨rfl, rfl⟩
      | true =>
        rw [h1] at hat hy
        simp only [cond_true] at hat
        have hsO : stO (c, f x) = none := by unfold stO; simp only [h1, cond_true]
        rw [hsO] at hy
        clear hsO
        have hqe := q2 x.els (nbSL f x.thn (c + 1)).1 _ (by omega) he2 he (by omega) hX
        have hle2 := nbSL_le f x.els (nbSL f x.thn (c + 1)).1
        generalize nbSL f x.thn (c + 1) = T at *
        obtain ⟨T1, T2⟩ := T
        simp only [thenN] at *
        cases h2 : T2 == 0 with
        | false =>
          rw [h2] at hat hqt
          simp only [cond_false] at hat
          have hst := hstop (by rw [hat]; simpa using h2)
          rw [hst, hat]
          have hsT : stO (T1, T2) = some (T1, T2) := by unfold stO; simp only [h2, cond_false]
          simp only [h2]
          rw [hsT] at hqt ⊢
          obtain ⟨k, nm, lc, o, ex, th, el⟩ := x
          simp only [St.cells, exA, St.thn, St.els, stA] at *
          clear hqe hat hst hstop q1 q2
          repeat' ((conv => whnf); first | (refine exI hx ?_) | (refine exI hy ?_) | (refine exI hqt ?_) | (refine exI hqe ?_) | (with_reducible refine ixJ i rfl ?_ ?_; (focus (omega))) | (first | refine stp ?_ | with_reducible refine condB (fun h => ?_) (fun h => ?_)))
          all_goals exact ⟨rfl, rfl⟩
        | true =>
          rw [h2] at hat hqt
          simp only [cond_true] at hat
          have hsT : stO (T1, T2) = none := by unfold stO; simp only [h2, cond_true]
          rw [hsT] at hqt
          clear hsT
          generalize nbSL f x.els T1 = E at *
          obtain ⟨E1, E2⟩ := E
          simp only at hqe hat
          cases h3 : E2 == 0 with
          | false =>
            rw [h3] at hqe
            have hst := hstop (by rw [hat]; simpa using h3)
            rw [hst, hat]
            have hsE : stO (E1, E2) = some (E1, E2) := by unfold stO; simp only [h3, cond_false]
            simp only [h3]
            rw [hsE] at hqe ⊢
            obtain ⟨k, nm, lc, o, ex, th, el⟩ := x
            simp only [St.cells, exA, St.thn, St.els, stA] at *
            clear hat hst hstop q1 q2
            repeat' ((conv => whnf); first | (refine exI hx ?_) | (refine exI hy ?_) | (refine exI hqt ?_) | (refine exI hqe ?_) | (with_reducible refine ixJ i rfl ?_ ?_; (focus (omega))) | (first | refine stp ?_ | with_reducible refine condB (fun h => ?_) (fun h => ?_)))
            all_goals exact ⟨rfl, rfl⟩
          | true =>
            rw [h3] at hqe
            have hsE : stO (E1, E2) = none := by unfold stO; simp only [h3, cond_true]
            rw [hsE] at hqe
            have h4 : (nbSL f (l.take (i + 1)) n).2 = 0 := by rw [hat]; simpa using h3
            obtain ⟨k, nm, lc, o, ex, th, el⟩ := x
            simp only [St.cells, exA, St.thn, St.els, stA] at *
            clear hstop q1 q2
            repeat' ((conv => whnf); first | (refine exI hx ?_) | (refine exI hy ?_) | (refine exI hqt ?_) | (refine exI hqe ?_) | (with_reducible refine ixJ i rfl ?_ ?_; (focus (omega))) | (first | refine stp ?_ | with_reducible refine condB (fun h => ?_) (fun h => ?_)))
            conv => whnf
            refine ⟨i + 1, ⟨hlt, h4⟩, by show l.length - (i + 1) < l.length - i; omega, ?_⟩
            rw [hat]
            refine FgLK.mk [0, 1, 2, 3, 4, 5, 6, 7] rfl rfl ?_ ⟨⟨rfl, rfl, rfl, rfl, BodyGe.pre (rest := []) rfl rfl⟩, ⟨rfl, rfl, rfl, rfl, BodyGe.pre (rest := []) rfl rfl⟩, ⟨rfl, rfl, rfl, rfl, BodyGe.pre (rest := []) rfl rfl⟩, ⟨rfl, rfl, rfl, rfl, BodyGe.pre (rest := []) rfl rfl⟩, ⟨rfl, rfl, rfl, rfl, rfl, rfl, Wk.ptr rfl rfl, rfl, Wk.ptr rfl rfl, rfl, Wk.ptr rfl rfl, rfl, Wk.ptr rfl rfl, trivial⟩, ⟨rfl, rfl, rfl, rfl, BodyGe.pre (rest := []) rfl rfl⟩, ⟨rfl, rfl, rfl, rfl, BodyGe.pre (rest := []) rfl rfl⟩, ⟨rfl, rfl, rfl, rfl, BodyGe.cellsL ⟨Wk.func trivial ⟨Wk.ptr rfl rfl, Wk.ptr rfl rfl, Wk.ptr rfl rfl, trivial⟩, trivial⟩⟩, trivial⟩ rfl
            (repeat (first | exact trivial | refine stw ?_))
    · have e1 : decide ((i : Int) < (l.length : Int)) = false := by simpa using hlt
      have hi2 : i = l.length := by have := hi; omega
      subst hi2
      rw [List.take_length] at h0 ⊢
      have hsL : stO (nbSL f l n) = none := by unfold stO; simp only [h0]; rfl
      rw [hsL, h0]
      repeat' ((conv => whnf); first | refine stp ?_ | with_reducible refine condB (fun h => ?_) (fun h => ?_))
      all_goals exact ⟨rfl, rfl⟩
end Go.Proofs.YtblnhcafobifgaaGreatDoor.lex
end


section

set_option linter.unusedVariables false
set_option linter.unusedSimpArgs false
namespace Go.Proofs.YtblnhcafobifgaaGreatDoor.lex
open Go.Abs Go.RowKit
set_option maxRecDepth 100000
set_option maxHeartbeats 4000000
theorem numbX_ok (l : List St) : ValOK Tryz.prog runLives.gl 28 [stA l] (.func (.func 51) [] [.rp [stA l]]) := by
  unfold stA
  refine fn_val follows noNum none_sound Tryz.func28 rfl ?_
  repeat' ((conv => whnf); first | refine stp ?_ | with_reducible refine condB (fun h => ?_) (fun h => ?_))
  all_goals rfl
theorem numb1_ok (ds : List Dc) (ts : List (List St)) (t L : Nat) (l : List St) (hd : ds.length ≤ 9223372036854775807) (ht : t ≤ 1000000) (hok : okSL l) (hl : l.length ≤ 9223372036854775807) (hs : sizeSL l ≤ 800000) :
    MemOK Tryz.prog runLives.gl 51 [yA L, .rp [stA l]] (bsC ds ts t L none) (.tuple []) (bsC ds ts t L (stO (nbSL (oneP ds) l 0))) := by
  obtain ⟨O, hO, ⟨p1, -⟩, -⟩ := famsM (P := Tryz.prog) (gl := runLives.gl) [{ I := Unit, f := 52, G := (fun _ => True), A := (fun _ => [stA l, .ptr 5 0, .ptr 6 0, .ptr 7 0]), H := (fun _ => ecH ds ts t L 0 none), R := (fun _ => .bool ((nbSL (oneP ds) l 0).2 == 0)), O := (fun _ => ecH ds ts t L ((nbSL (oneP ds) l 0).1 : Nat) (stO (nbSL (oneP ds) l 0))), body := (by kernel_rfl), inj := (fun _ _ _ _ _ _ => ⟨rfl, rfl⟩), ok := (fun _ _ => each_ok ds ts t L hd ht _ l 0 (Nat.le_refl _) hok hl (by omega)) }] [] rfl
  have q1 := p1 () trivial
  clear p1
  simp only [stA] at *
  refine fn_mem (k := 5) follows noNum hO rfl Tryz.func51 rfl (cw0_ok _ _) ?_
  generalize nbSL (oneP ds) l 0 = r at *
  obtain ⟨r1, r2⟩ := r
  cases hr : r2 == 0 with
  | true =>
    have hst : stO (r1, r2) = none := by unfold stO; simp only [hr, cond_true]
    rw [hst] at q1 ⊢
    repeat' ((conv => whnf); first | (refine exI q1 ?_) | (first | refine stp ?_ | with_reducible refine condB (fun h => ?_) (fun h => ?_)))
    all_goals (conv => whnf)
    all_goals first | exact ⟨rfl, rfl⟩ | exact ⟨rfl, rfl, rfl⟩ | trace_state
  | false =>
    have hst : stO (r1, r2) = some (r1, r2) := by unfold stO; simp only [hr, cond_false]
    rw [hst] at q1 ⊢
    repeat' ((conv => whnf); first | (refine exI q1 ?_) | (first | refine stp ?_ | with_reducible refine condB (fun h => ?_) (fun h => ?_)))
    all_goals (conv => whnf)
    all_goals first | exact ⟨rfl, rfl⟩ | exact ⟨rfl, rfl, rfl⟩ | trace_state
def ckXH (ds : List Dc) (ts : List (List St)) : AHeap := [⟨true, 0, 0, .cells [.rs ds.length 3 (dcC ds), .rs ts.length 1 (ts.map stA)] 29⟩, ⟨true, 1, 0, .cells [.int .i64 0, .int .i64 0] 32⟩, ⟨true, 2, 0, .cells [.int .i64 0] 23⟩]
theorem dcC_take : ∀ (ds : List Dc) (i : Nat), (dcC ds).take (i * 3) = dcC (ds.take i)
  | [], i => by simp [dcC]
  | d :: l, 0 => by simp [dcC]
  | d :: l, i + 1 => by
    rw [show (i + 1) * 3 = i * 3 + 1 + 1 + 1 from by omega]
    simp only [List.take_succ_cons, dcC, Dc.cells, List.cons_append, List.nil_append]
    rw [dcC_take l i]
theorem noD_find (s : List UInt8) : ∀ (l : List Dc) (k : Nat), (decide (0 ≤ fdI s l k)) = !noD s l
  | [], k => rfl
  | d :: l, k => by
    simp only [fdI, noD]
    rcases Bool.eq_false_or_eq_true (d.name == s) with h | h
    · have : decide ((0 : Int) ≤ (k : Int)) = true := by simp only [decide_eq_true_eq]; omega
      simp only [h, cond_true, Bool.not_true, Bool.false_and, Bool.not_false, this]
    · simp only [h, cond_false, Bool.not_false, Bool.true_and]
      exact noD_find s l (k + 1)
theorem n1_inj {ds : List Dc} {ts : List (List St)} {p q : Nat × Nat} (ha : [yA p.2, .rp [stA (ts.getD p.1 [])]] = [yA q.2, .rp [stA (ts.getD q.1 [])]]) (hh : bsC ds ts p.1 p.2 none = bsC ds ts q.1 q.2 none) : p = q := by
  obtain ⟨p1, p2⟩ := p
  obtain ⟨q1, q2⟩ := q
  simp only [yA, List.cons.injEq, AV.func.injEq, Fn.yield.injEq, true_and, and_true] at ha
  simp only [bsC, List.cons.injEq, AObj.mk.injEq, ABody.cells.injEq, AV.int.injEq, and_true, true_and] at hh
  have h1 : p1 = q1 := by omega
  rw [h1, ha.1]
theorem n1_ok {ds : List Dc} {ts : List (List St)} (hd1 : ds.length ≤ 9223372036854775807) (ht1 : okTL ts) (hs : sizeTL ts ≤ 800000) (p : Nat × Nat) (h1 : p.1 < ts.length) (h2 : p.1 ≤ 1000000) :
    MemOK Tryz.prog runLives.gl 51 [yA p.2, .rp [stA (ts.getD p.1 [])]] (bsC ds ts p.1 p.2 none) (.tuple []) (bsC ds ts p.1 p.2 (stO (nbSL (oneP ds) (ts.getD p.1 []) 0))) := by
  have hg : ts.getD p.1 [] = ts[p.1] := by simp [List.getD_eq_getElem?_getD, h1]
  have hm : ts[p.1] ∈ ts := get_mem h1
  rw [hg]
  exact numb1_ok ds ts p.1 p.2 _ hd1 h2 (okTL_get ht1 _ hm).1 (okTL_get ht1 _ hm).2 (by have := sizeTL_mem ts _ hm; omega)
theorem checkWX_ok (p : Pr) (hok : okP p) (hs : sizeTL p.threads ≤ 800000) : ValOK Tryz.prog runLives.gl 11 [p.av] (resW (chkF (checkP p) p.decls p.threads (oneP p.decls))) := by
  obtain ⟨⟨hd1, hd2⟩, ht1, ht2⟩ := id hok
  have hck := checkPX_ok p hok (by omega)
  obtain ⟨ds, ts⟩ := p
  simp only [Pr.av] at *
  generalize checkP ⟨ds, ts⟩ = e0 at *
  obtain ⟨O, hO, ⟨p5, -⟩, ⟨p1, p2, p3, p4, -⟩⟩ := famsM (P := Tryz.prog) (gl := runLives.gl) [{ I := Nat × Nat, f := 51, G := (fun p => p.1 < ts.length ∧ p.1 ≤ 1000000), A := (fun p => [yA p.2, .rp [stA (ts.getD p.1 [])]]), H := (fun p => bsC ds ts p.1 p.2 none), R := (fun _ => .tuple []), O := (fun p => bsC ds ts p.1 p.2 (stO (nbSL (oneP ds) (ts.getD p.1 []) 0))), body := (by kernel_rfl), inj := (fun p q _ _ ha hh => by rw [n1_inj ha hh]; exact ⟨rfl, rfl⟩), ok := (fun p hp => n1_ok hd1 ht1 hs p hp.1 hp.2) }] [
    { I := Unit, f := 26, G := fun _ => True, A := fun _ => [.agg [.rs ds.length 3 (dcC ds), .rs ts.length 1 (ts.map stA)]], R := fun _ => .int .i64 e0, body := (by kernel_rfl), inj := (fun i j _ _ h => rfl), ok := (fun _ _ => ⟨rfl, hck⟩) },
    { I := Nat × List UInt8, f := 27, G := fun _ => True, A := fun p => [.rs (ds.take p.1).length 3 (dcC (ds.take p.1)), .str p.2], R := fun p => .int .i64 (findD (ds.take p.1) p.2), body := (by kernel_rfl), inj := (fun i j _ _ h => by simp only [List.cons.injEq, AV.str.injEq, AV.rs.injEq, and_true, true_and] at h; rw [List.take_eq_take_min, show min i.1 ds.length = min j.1 ds.length by simpa [List.length_take] using h.1.1, ← List.take_eq_take_min, h.2]), ok := (fun p _ => ⟨rfl, findX_ok (ds.take p.1) p.2 (by simp; omega)⟩) },
    { I := List St, f := 28, G := fun _ => True, A := fun l => [stA l], R := fun l => .func (.func 51) [] [.rp [stA l]], body := (by kernel_rfl), inj := (fun i j _ _ h => by simp only [List.cons.injEq, and_true] at h; rw [stA_inj h]), ok := (fun l _ => ⟨rfl, numbX_ok l⟩) },
    { I := List St, f := 30, G := fun l => l ∈ ts, A := fun l => [stA l], R := fun l => rsK (sortB (rgN0 l)), body := (by kernel_rfl), inj := (fun i j _ _ h => by simp only [List.cons.injEq, and_true] at h; rw [stA_inj h]), ok := (fun l hl => ⟨rfl, regsX_ok l (okTL_get ht1 l hl).1 (okTL_get ht1 l hl).2 (by have := sizeTL_mem ts l hl; omega)⟩) }] rfl
  have q1 : ∀ H, acall Tryz.prog O H 26 [.agg [.rs ds.length 3 (dcC ds), .rs ts.length 1 (ts.map stA)]] = some (.int .i64 e0, H) := p1 () trivial
  have q2 : ∀ i s H, i ≤ ds.length → acall Tryz.prog O H 27 [.rs i 3 ((dcC ds).take (i * 3)), .str s] = some (.int .i64 (findD (ds.take i) s), H) := fun i s H h => by
    have := p2 (i, s) trivial H
    simp only at this
    rw [List.length_take, Nat.min_eq_left h] at this
    rw [dcC_take]; exact this
  have q3 : ∀ l H, acall Tryz.prog O H 28 [stA l] = some (.func (.func 51) [] [.rp [stA l]], H) := fun l => p3 l trivial
  have q4 : ∀ l ∈ ts, ∀ H, acall Tryz.prog O H 30 [stA l] = some (.rs (sortB (rgN0 l)).length 1 ((sortB (rgN0 l)).map .str), H) := p4
  have q5 : ∀ (i L : Nat) (h : i < ts.length), i ≤ 1000000 → acall Tryz.prog O (bsC ds ts i L none) 51 [yA L, .rp [stA ts[i]]] = some (.tuple [], bsC ds ts i L (stO (nbSL (oneP ds) ts[i] 0))) := fun i L h h2 => by
    have hg : ts.getD i [] = ts[i] := by simp [List.getD_eq_getElem?_getD, h]
    have := p5 (i, L) ⟨h, h2⟩
    simp only [hg] at this
    exact this
  clear p1 p2 p3 p4 p5 hck
  generalize oneP ds = f at *
  generalize hR0 : chkF e0 ds ts f = R0
  unfold chkF at hR0
  refine fn_valXR (Φ := (· = resW R0)) (rf := rfK Tryz.prog (cw0 Tryz.prog O)) (rfK_ok noNum hO (cw0_ok _ _)) follows noNum hO (fun r' e sn v h => e ▸ h) Tryz.func11 rfl (cw0_ok _ _) ?_
  cases h0 : e0 == 0 with
  | false =>
    rw [h0] at hR0
    simp only [cond_false] at hR0
    subst hR0
    have t0 : (e0 != 0) = true := bne_of h0
    repeat' ((conv => whnf); first | (refine exI (q1 _) ?_) | (first | refine stp ?_ | with_reducible refine condB (fun h => ?_) (fun h => ?_)))
    all_goals rfl
  | true =>
    rw [h0] at hR0
    simp only [cond_true] at hR0
    have t0 : (e0 != 0) = false := bne_of h0
    cases h1 : longP ds.length ts.length with
    | true =>
      rw [h1] at hR0
      simp only [cond_true] at hR0
      subst hR0
      unfold longP at h1
      by_cases a1 : ts.length < 1
      · have e1 : decide ((ts.length : Int) < 1) = true := by simp only [decide_eq_true_eq]; omega
        repeat' ((conv => whnf); first | (refine exI (q1 _) ?_) | (first | refine stp ?_ | with_reducible refine condB (fun h => ?_) (fun h => ?_)))
        all_goals rfl
      · have e1 : decide ((ts.length : Int) < 1) = false := by simp only [decide_eq_false_iff_not]; omega
        by_cases a2 : 4 < ts.length
        · have e2 : decide (4 < (ts.length : Int)) = true := by simp only [decide_eq_true_eq]; omega
          repeat' ((conv => whnf); first | (refine exI (q1 _) ?_) | (first | refine stp ?_ | with_reducible refine condB (fun h => ?_) (fun h => ?_)))
          all_goals rfl
        · have e2 : decide (4 < (ts.length : Int)) = false := by simp only [decide_eq_false_iff_not]; omega
          have e3 : decide (6 < (ds.length : Int)) = true := by
            simp only [Bool.or_eq_true, decide_eq_true_eq] at h1 ⊢
            omega
          repeat' ((conv => whnf); first | (refine exI (q1 _) ?_) | (first | refine stp ?_ | with_reducible refine condB (fun h => ?_) (fun h => ?_)))
          all_goals rfl
    | false =>
      rw [h1] at hR0
      simp only [cond_false] at hR0
      unfold longP at h1
      simp only [Bool.or_eq_false_iff, decide_eq_false_iff_not] at h1
      have e1 : decide ((ts.length : Int) < 1) = false := by simp only [decide_eq_false_iff_not]; omega
      have e2 : decide (4 < (ts.length : Int)) = false := by simp only [decide_eq_false_iff_not]; omega
      have e3 : decide (6 < (ds.length : Int)) = false := by simp only [decide_eq_false_iff_not]; omega
      repeat' ((conv => whnf); first | (refine exI (q1 _) ?_) | (first | refine stp ?_ | with_reducible refine condB (fun h => ?_) (fun h => ?_)))
      conv => whnf
      refine ⟨Nat, (fun i => i ≤ ds.length ∧ firstO (gD ds) i = none), (fun i => [(1, .ptr 0 0), (2, .ptr 1 0), (3, .ptr 2 0), (38, .rs ds.length 3 (dcC ds)), (39, .int .i64 ds.length), (40, .int .i64 i)]), (fun _ => ckXH ds ts), (fun i => ds.length - i), ⟨0, ⟨Nat.zero_le _, rfl⟩, FgL.mk [0, 1, 2] rfl ?_ ⟨⟨rfl, rfl, rfl, rfl, BodyGe.pre (rest := []) rfl rfl⟩, ⟨rfl, rfl, rfl, rfl, BodyGe.pre (rest := []) rfl rfl⟩, ⟨rfl, rfl, rfl, rfl, BodyGe.pre (rest := []) rfl rfl⟩, trivial⟩ rfl⟩, ?_⟩
      · (repeat (first | exact trivial | refine stw ?_))
      rintro i ⟨hi, hno⟩
      dsimp only
      by_cases hlt : i < ds.length
      · have f1 : decide ((i : Int) < (ds.length : Int)) = true := by simpa using hlt
        have hx := dc3 ds i hlt
        have hg := gD_at hlt
        have hq := fun H => q2 i ds[i].name H (by omega)
        have hnf : decide (0 ≤ findD (ds.take i) ds[i].name) = !noD ds[i].name (ds.take i) := noD_find ds[i].name (ds.take i) 0
        generalize ds[i] = d at *
        obtain ⟨s, pl, vl⟩ := d
        simp only [Dc.cells] at hx hq hg hnf
        cases hn : noD s (ds.take i) with
        | false =>
          rw [hn] at hg hnf
          simp only [cond_false, Bool.not_false] at hg hnf
          rw [firstO_at hlt hno hg] at hR0
          subst hR0
          repeat' ((conv => whnf); first | (refine exI hx ?_) | (refine exI (hq _) ?_) | (with_reducible refine ixJ i rfl ?_ ?_; (focus (omega))) | (with_reducible refine ixJ' i rfl ?_ ?_; (focus (omega))) | (first | refine stp ?_ | with_reducible refine condB (fun h => ?_) (fun h => ?_)))
          all_goals rfl
        | true =>
          rw [hn] at hg hnf
          simp only [cond_true, Bool.not_true] at hg hnf
          have hno2 := (firstO_next hno).trans hg
          repeat' ((conv => whnf); first | (refine exI hx ?_) | (refine exI (hq _) ?_) | (with_reducible refine ixJ i rfl ?_ ?_; (focus (omega))) | (with_reducible refine ixJ' i rfl ?_ ?_; (focus (omega))) | (first | refine stp ?_ | with_reducible refine condB (fun h => ?_) (fun h => ?_)))
          conv => whnf
          refine ⟨i + 1, ⟨hlt, hno2⟩, by show ds.length - (i + 1) < ds.length - i; omega, FgL.mk [0, 1, 2] rfl ?_ ⟨⟨rfl, rfl, rfl, rfl, BodyGe.pre (rest := []) rfl rfl⟩, ⟨rfl, rfl, rfl, rfl, BodyGe.pre (rest := []) rfl rfl⟩, ⟨rfl, rfl, rfl, rfl, BodyGe.pre (rest := []) rfl rfl⟩, trivial⟩ rfl⟩
          (repeat (first | exact trivial | refine stw ?_))
      · have f1 : decide ((i : Int) < (ds.length : Int)) = false := by simpa using hlt
        have hi2 : i = ds.length := by have := hi; omega
        subst hi2
        rw [hno] at hR0
        simp only at hR0
        repeat' ((conv => whnf); first | refine stp ?_ | with_reducible refine condB (fun h => ?_) (fun h => ?_))
        conv => whnf
        refine ⟨Nat, (fun i => i ≤ ts.length ∧ firstO (gT f ts) i = none), (fun i => [(1, .ptr 0 0), (2, .ptr 1 0), (3, .ptr 2 0), (57, .rs ts.length 1 (ts.map stA)), (58, .int .i64 ts.length), (59, .int .i64 i)]), (fun _ => ckXH ds ts), (fun i => ts.length - i), ⟨0, ⟨Nat.zero_le _, rfl⟩, FgL.mk [0, 1, 2] rfl ?_ ⟨⟨rfl, rfl, rfl, rfl, BodyGe.pre (rest := []) rfl rfl⟩, ⟨rfl, rfl, rfl, rfl, BodyGe.pre (rest := []) rfl rfl⟩, ⟨rfl, rfl, rfl, rfl, BodyGe.pre (rest := []) rfl rfl⟩, trivial⟩ rfl⟩, ?_⟩
        · (repeat (first | exact trivial | refine stw ?_))
        rintro i ⟨hi, hno⟩
        dsimp only
        by_cases hlt : i < ts.length
        · have f1 : decide ((i : Int) < (ts.length : Int)) = true := by simpa using hlt
          have hx := th1 ts i hlt
          have hg := gT_at (f := f) hlt
          have hqn := q3 ts[i]
          have hq5 := fun L => q5 i L hlt (by omega)
          generalize ts[i] = l at *
          simp only [stA] at hx hqn hq5
          generalize nbSL f l 0 = r at *
          obtain ⟨r1, r2⟩ := r
          simp only at hg
          cases hn : r2 == 0 with
          | false =>
            rw [hn] at hg
            simp only [cond_false] at hg
            rw [firstO_at hlt hno hg] at hR0
            subst hR0
            have hst : stO (r1, r2) = some (r1, r2) := by unfold stO; simp only [hn, cond_false]
            rw [hst] at hq5
            repeat' ((conv => whnf); first | (refine exI hx ?_) | (refine exI (hqn _) ?_) | (refine ⟨by kernel_rfl, 80, tsC, rfl, ⟨rfl, rfl, rfl, rfl, trivial⟩, fun L => ?_⟩) | (refine exI (hq5 _) ?_) | (refine And.intro (show LoopState.ready ≠ LoopState.busy from by intro h; cases h) ?_) | (refine And.intro (show LoopState.done ≠ LoopState.busy from by intro h; cases h) ?_) | (with_reducible refine ixJ i rfl ?_ ?_; (focus (omega))) | (first | refine stp ?_ | with_reducible refine condB (fun h => ?_) (fun h => ?_)))
            all_goals rfl
          | true =>
            rw [hn] at hg
            simp only [cond_true] at hg
            have hno2 := (firstO_next hno).trans hg
            have hst : stO (r1, r2) = none := by unfold stO; simp only [hn, cond_true]
            rw [hst] at hq5
            repeat' ((conv => whnf); first | (refine exI hx ?_) | (refine exI (hqn _) ?_) | (refine ⟨by kernel_rfl, 80, tsC, rfl, ⟨rfl, rfl, rfl, rfl, trivial⟩, fun L => ?_⟩) | (refine exI (hq5 _) ?_) | (refine And.intro (show LoopState.ready ≠ LoopState.busy from by intro h; cases h) ?_) | (refine And.intro (show LoopState.done ≠ LoopState.busy from by intro h; cases h) ?_) | (with_reducible refine ixJ i rfl ?_ ?_; (focus (omega))) | (first | refine stp ?_ | with_reducible refine condB (fun h => ?_) (fun h => ?_)))
            conv => whnf
            refine ⟨i + 1, ⟨hlt, hno2⟩, by show ts.length - (i + 1) < ts.length - i; omega, FgL.mk [0, 1, 2] rfl ?_ ⟨⟨rfl, rfl, rfl, rfl, BodyGe.pre (rest := []) rfl rfl⟩, ⟨rfl, rfl, rfl, rfl, BodyGe.pre (rest := []) rfl rfl⟩, ⟨rfl, rfl, rfl, rfl, BodyGe.pre (rest := []) rfl rfl⟩, trivial⟩ rfl⟩
            (repeat (first | exact trivial | refine stw ?_))
        · have f1 : decide ((i : Int) < (ts.length : Int)) = false := by simpa using hlt
          have hi2 : i = ts.length := by have := hi; omega
          subst hi2
          rw [hno] at hR0
          simp only at hR0
          repeat' ((conv => whnf); first | refine stp ?_ | with_reducible refine condB (fun h => ?_) (fun h => ?_))
          conv => whnf
          refine ⟨Nat, (fun i => i ≤ ts.length ∧ firstO (gR ts) i = none), (fun i => [(1, .ptr 0 0), (2, .ptr 1 0), (3, .ptr 2 0), (81, .rs ts.length 1 (ts.map stA)), (82, .int .i64 ts.length), (83, .int .i64 i)]), (fun _ => ckXH ds ts), (fun i => ts.length - i), ⟨0, ⟨Nat.zero_le _, rfl⟩, FgL.mk [0, 1, 2] rfl ?_ ⟨⟨rfl, rfl, rfl, rfl, BodyGe.pre (rest := []) rfl rfl⟩, ⟨rfl, rfl, rfl, rfl, BodyGe.pre (rest := []) rfl rfl⟩, ⟨rfl, rfl, rfl, rfl, BodyGe.pre (rest := []) rfl rfl⟩, trivial⟩ rfl⟩, ?_⟩
          · (repeat (first | exact trivial | refine stw ?_))
          rintro i ⟨hi, hno⟩
          dsimp only
          by_cases hlt : i < ts.length
          · have f1 : decide ((i : Int) < (ts.length : Int)) = true := by simpa using hlt
            have hx := th1 ts i hlt
            have hg := gR_at hlt
            have hq := q4 ts[i] (get_mem hlt)
            generalize ts[i] = l at *
            simp only [stA] at hx hq
            generalize sortB (rgN0 l) = nm at *
            by_cases hn : 16 < nm.length
            · rw [decide_eq_true hn] at hg
              simp only [cond_true] at hg
              rw [firstO_at hlt hno hg] at hR0
              subst hR0
              have f2 : decide (16 < (nm.length : Int)) = true := by simp only [decide_eq_true_eq]; omega
              repeat' ((conv => whnf); first | (refine exI hx ?_) | (refine exI (hq _) ?_) | (with_reducible refine ixJ i rfl ?_ ?_; (focus (omega))) | (first | refine stp ?_ | with_reducible refine condB (fun h => ?_) (fun h => ?_)))
              all_goals rfl
            · rw [decide_eq_false hn] at hg
              simp only [cond_false] at hg
              have hno2 := (firstO_next hno).trans hg
              have f2 : decide (16 < (nm.length : Int)) = false := by simp only [decide_eq_false_iff_not]; omega
              repeat' ((conv => whnf); first | (refine exI hx ?_) | (refine exI (hq _) ?_) | (with_reducible refine ixJ i rfl ?_ ?_; (focus (omega))) | (first | refine stp ?_ | with_reducible refine condB (fun h => ?_) (fun h => ?_)))
              conv => whnf
              refine ⟨i + 1, ⟨hlt, hno2⟩, by show ts.length - (i + 1) < ts.length - i; omega, FgL.mk [0, 1, 2] rfl ?_ ⟨⟨rfl, rfl, rfl, rfl, BodyGe.pre (rest := []) rfl rfl⟩, ⟨rfl, rfl, rfl, rfl, BodyGe.pre (rest := []) rfl rfl⟩, ⟨rfl, rfl, rfl, rfl, BodyGe.pre (rest := []) rfl rfl⟩, trivial⟩ rfl⟩
              (repeat (first | exact trivial | refine stw ?_))
          · have f1 : decide ((i : Int) < (ts.length : Int)) = false := by simpa using hlt
            have hi2 : i = ts.length := by have := hi; omega
            subst hi2
            rw [hno] at hR0
            simp only at hR0
            subst hR0
            repeat' ((conv => whnf); first | refine stp ?_ | with_reducible refine condB (fun h => ?_) (fun h => ?_))
            all_goals rfl
end Go.Proofs.YtblnhcafobifgaaGreatDoor.lex
end


section

set_option linter.unusedVariables false
set_option linter.unusedSimpArgs false
namespace Go.Proofs.YtblnhcafobifgaaGreatDoor.lex
open Go.Abs Go.RowKit
set_option maxRecDepth 100000
theorem one_same (ds : List Dc) (x : St) (h : ownS x = true) : oneP ds x = oneR ds x := by
  unfold ownS ownSF at h
  simp only [Bool.and_eq_true, decide_eq_true_eq] at h
  obtain ⟨hk, hn, hl, ho, hx, -, -⟩ := h
  unfold oneP oneR onePF oneRF
  obtain ⟨k, n, l, o, ex, t, e⟩ := x
  simp only [St.kind, St.name, St.loc, St.order, St.exprs] at *
  by_cases h7 : k = 7
  · subst h7
    have hL : hasL 7 = false := by decide
    have hN : hasN 7 = false := by decide
    have hO : hasO 7 = true := by decide
    have hX : hasX 7 = 0 := by decide
    simp only [hL, hN, hO, hX, isW, Bool.false_eq_true, if_false, eq_self, if_true, decide_eq_true_eq, List.length_eq_zero_iff] at hl hn ho hx
    simp only [beq_iff_eq] at hl hn
    subst hl; subst hn; subst hx
    have ho := of_decide_eq_true ho
    have h0 : (o == 0) = false := by simp only [beq_eq_false_iff_ne, ne_eq]; omega
    have hh : hidB ds (.mk 7 [] [] o [] t e) = false := rfl
    simp only [beq_self_eq_true, Bool.not_true, Bool.false_and, cond_false, cond_true, h0, Bool.not_false, Bool.true_and, hh]
    cases hm : mayN 7 o false == 0 with
    | true => simp only [Bool.not_true, cond_false]; simpa using (beq_iff_eq.1 hm).symm
    | false => simp only [Bool.not_false, cond_true]
  · have e7 : (k == 7) = false := by simpa using h7
    simp only [e7, cond_false]
    by_cases hL : hasL k = true
    · simp only [hL, isW, eq_self, if_true] at hl
      have hne : (l == []) = false := by
        cases l with
        | nil => simp [wordB] at hl
        | cons _ _ => rfl
      have hO : hasO k = true := by
        simp only [hasL, hasO, decide_eq_true_eq] at hL ⊢; omega
      simp only [hO, eq_self, if_true, decide_eq_true_eq] at ho
      have ho := of_decide_eq_true ho
      have h0 : (o == 0) = false := by simp only [beq_eq_false_iff_ne, ne_eq]; omega
      simp only [hne, h0, Bool.not_false, Bool.true_and, cond_false]
    · have hL : hasL k = false := by simpa using hL
      simp only [hL, isW, Bool.false_eq_true, if_false, beq_iff_eq] at hl
      subst hl
      have hO : hasO k = false := by
        simp only [hasL, hasO, decide_eq_false_iff_not] at hL ⊢; omega
      simp only [hO, Bool.false_eq_true, if_false, beq_iff_eq] at ho
      subst ho
      simp only [beq_self_eq_true, Bool.not_true, Bool.false_and, cond_false]
mutual
theorem nbS_congr {f g : St → Int} (h : ∀ x, ownS x = true → f x = g x) : ∀ (x : St) (m : Nat), rightS x = true → nbS f x m = nbS g x m
  | .mk k n l o ex t e, m, hr => by
    rw [rightS_eq] at hr
    simp only [Bool.and_eq_true, St.exprs, St.thn, St.els] at hr
    obtain ⟨h1, _, h3, h4⟩ := hr
    have hE : nbSL f e = nbSL g e := funext fun m => nbSL_congr h e m h4
    simp only [nbS]
    rw [h _ h1, nbSL_congr h t (m + 1) h3, hE]
theorem nbSL_congr {f g : St → Int} (h : ∀ x, ownS x = true → f x = g x) : ∀ (l : List St) (m : Nat), rightSL l = true → nbSL f l m = nbSL g l m
  | [], m, hr => by simp only [nbSL]
  | x :: l, m, hr => by
    simp only [rightSL, Bool.and_eq_true] at hr
    have hL : nbSL f l = nbSL g l := funext fun m => nbSL_congr h l m hr.2
    simp only [nbSL]
    rw [nbS_congr h x m hr.1, hL]
end
theorem rightTL_all : ∀ {ts : List (List St)} {i : Nat} (h : i < ts.length), rightTL ts = true → rightSL ts[i] = true
  | l :: t, 0, h, hr => by simp only [rightTL, Bool.and_eq_true] at hr; exact hr.1
  | l :: t, i + 1, h, hr => by simp only [rightTL, Bool.and_eq_true] at hr; simpa using rightTL_all (by simpa using h) hr.2
theorem chk_same (p : Pr) : chkF (checkP p) p.decls p.threads (oneP p.decls) = chkF (checkP p) p.decls p.threads (oneR p.decls) := by
  unfold chkF
  cases h : checkP p == 0 with
  | false => rfl
  | true =>
    have hr : rightTL p.threads = true := by
      unfold checkP at h
      split at h
      · cases h
      · split at h
        · rename_i h2; simp only [Bool.and_eq_true] at h2; exact h2.2
        · cases h
    have : ∀ i, i < p.threads.length → gT (oneP p.decls) p.threads i = gT (oneR p.decls) p.threads i := fun i hi => by
      rw [gT_at hi, gT_at hi, nbSL_congr (fun x hx => one_same p.decls x hx) _ 0 (rightTL_all hi hr)]
    rw [firstO_congr this]
def chkW (p : Pr) : W3 := chkF (checkP p) p.decls p.threads (oneR p.decls)
theorem checkX_ok (p : Pr) (hok : okP p) (hs : sizeTL p.threads ≤ 800000) : ValOK Tryz.prog runLives.gl 11 [p.av] (resW (chkW p)) := by
  have := checkWX_ok p hok hs
  rw [chk_same] at this; exact this
end Go.Proofs.YtblnhcafobifgaaGreatDoor.lex
end


section

set_option linter.unusedSimpArgs false
set_option linter.unusedVariables false
namespace Go.Abs
open Go.RowKit
noncomputable def frzT (T : TH) : Nat → AV → Option AV
  | 0, _ => none
  | n + 1, u => match u with
    | .ptr b off => match (T.get b).alive, (T.get b).body with
        | true, .cells cs _ => match frzL (frzT T n) (cs.drop off) with | some l => some (.rp l) | none => none
        | _, _ => none
    | .slice b off len _ z => match len with
      | 0 => some (.rs 0 z [])
      | _ + 1 => match (T.get b).alive, (T.get b).body with
          | true, .cells cs _ => match tk (len * z) (cs.drop off) with
            | some cs => match frzL (frzT T n) cs with | some l => some (.rs len z l) | none => none
            | none => none
          | _, _ => none
    | .agg cs => match frzL (frzT T n) cs with | some l => some (.agg l) | none => none
    | .tuple cs => match frzL (frzT T n) cs with | some l => some (.tuple l) | none => none
    | .iface t v => match frzT T n v with | some x => some (.iface t x) | none => none
    | .func fn f c => match frzL (frzT T n) f, frzL (frzT T n) c with | some f, some c => some (.func fn f c) | _, _ => none
    | .map _ => none
    | u => some u
theorem frzL_imp {f g : AV → Option AV} (h : ∀ u r, f u = some r → g u = some r) : ∀ {l l' : List AV}, frzL f l = some l' → frzL g l = some l'
  | [], l', e => e
  | c :: l, l', e => by
    simp only [frzL] at e ⊢
    split at e <;> simp at e
    rename_i x y hx hy
    subst e
    rw [h _ _ hx, frzL_imp h hy]
theorem frzT_frz {T : TH} {H : AHeap} (hR : Rep T H) : ∀ (n : Nat) (u r : AV), frzT T n u = some r → frz H n u = some r := by
  intro n
  induction n with
  | zero => intro u r h; simp [frzT] at h
  | succ n ih =>
    intro u r h
    unfold frzT at h
    unfold frz
    split at h
    · rename_i b off
      split at h <;> try (simp at h; done)
      rename_i cs ty ha hb
      split at h <;> simp at h
      rename_i l hl
      subst h
      simp only [hR.obj b ha, ha, hb, frzL_imp ih hl]
    · rename_i b off len cap z
      split at h
      · simp at h; subst h; rfl
      · rename_i len
        split at h <;> try (simp at h; done)
        rename_i cs ty ha hb
        split at h <;> try (simp at h; done)
        rename_i cs' hcs
        split at h <;> simp at h
        rename_i l hl
        subst h
        simp only [hR.obj b ha, ha, hb, hcs, frzL_imp ih hl]
    · split at h <;> simp at h
      rename_i l hl; subst h
      simp only [frzL_imp ih hl]
    · split at h <;> simp at h
      rename_i l hl; subst h
      simp only [frzL_imp ih hl]
    · split at h <;> simp at h
      rename_i x hx; subst h
      simp only [ih _ _ hx]
    · split at h <;> simp at h
      rename_i f c hf hc; subst h
      simp only [frzL_imp ih hf, frzL_imp ih hc]
    · simp at h
    · rename_i e1 e2 e3 e4 e5 e6 e7
      simp at h; subst h
      cases u with
      | ptr b o => exact (e1 _ _ rfl).elim
      | slice b o l c z => exact (e2 _ _ _ _ _ rfl).elim
      | agg cs => exact (e3 _ rfl).elim
      | tuple cs => exact (e4 _ rfl).elim
      | iface t v => exact (e5 _ _ rfl).elim
      | func fn f c => exact (e6 _ _ _ rfl).elim
      | map b => exact (e7 _ rfl).elim
      | _ => rfl
noncomputable def forcZ (F : Nat → List AV → Option AV) : FOrc := fun f args T => match frzL (frzT T 30) args with
  | some az => match F f az with | some r => some (r, T) | none => none
  | none => none
theorem forcZ_sim (F : Nat → List AV → Option AV) : OrcSim (forcZ F) (orcZ F) := by
  intro f args T r T' h H hR
  unfold forcZ at h
  split at h <;> try (simp at h; done)
  rename_i az hz
  split at h <;> simp at h
  rename_i r' hr
  obtain ⟨rfl, rfl⟩ := h
  exact ⟨H, by simp only [orcZ, frzL_imp (frzT_frz hR 30) hz, hr], hR⟩
mutual
def wkV : AV → AV → Bool
  | .nslice, .rs 0 _ [] => true
  | .agg a, .agg b => wkVL a b
  | .rs n z a, .rs n' z' b => Nat.beq n n' && (Nat.beq z z' && wkVL a b)
  | .rp a, .rp b => wkVL a b
  | u, u2 => veq u u2
def wkVL : List AV → List AV → Bool
  | [], [] => true
  | u :: l, u2 :: l2 => wkV u u2 && wkVL l l2
  | _, _ => false
end
theorem wkVL_len : ∀ {l l2 : List AV}, wkVL l l2 = true → l.length = l2.length
  | [], [], _ => rfl
  | u :: l, u2 :: l2, h => by simp only [wkVL, Bool.and_eq_true] at h; simp [wkVL_len h.2]
  | [], _ :: _, h => by simp [wkVL] at h
  | _ :: _, [], h => by simp [wkVL] at h
mutual
theorem wkV_VR {sn : Snap} {ι : IMap} : ∀ (u u2 : AV) (v : Value), wkV u u2 = true → VR sn ι u v → VR sn ι u2 v
  | .agg a, .agg b, v, h, e => by
    simp only [wkV] at h
    obtain ⟨d, rfl, h1⟩ := e.agg
    exact vr_agg (wkVL_LR a b _ h h1)
  | .rs n z a, .rs n' z' b, v, h, e => by
    simp only [wkV, Bool.and_eq_true] at h
    obtain ⟨h1, h2, h3⟩ := h
    have := Nat.eq_of_beq_eq_true h1; subst this
    have := Nat.eq_of_beq_eq_true h2; subst this
    have hl := wkVL_len h3
    simp only [VR] at e ⊢
    rcases e with ⟨e1, rfl, e3⟩ | ⟨ad, cap, e1, e2, e3, e4, e5⟩
    · exact .inl ⟨e1, by cases b with | nil => rfl | cons _ _ => simp at hl, e3⟩
    · exact .inr ⟨ad, cap, e1, e2, by rw [← hl]; exact e3, wkVL_MR a b _ _ h3 e4, e5⟩
  | .rp a, .rp b, v, h, e => by
    simp only [wkV] at h
    simp only [VR] at e ⊢
    obtain ⟨bl, o, e1, e2⟩ := e
    exact ⟨bl, o, e1, wkVL_MR a b _ _ h e2⟩
  | u, u2, v, h, e => by
    by_cases hn : u = .nslice ∧ ∃ z, u2 = .rs 0 z []
    · obtain ⟨rfl, z, rfl⟩ := hn
      exact nil_rs e
    · have : veq u u2 = true ∨ ((∃ a b, u = .agg a ∧ u2 = .agg b) ∨ (∃ n z a n' z' b, u = .rs n z a ∧ u2 = .rs n' z' b) ∨ (∃ a b, u = .rp a ∧ u2 = .rp b)) := by
        unfold wkV at h
        split at h
        · exact (hn ⟨rfl, _, rfl⟩).elim
        · exact .inr (.inl ⟨_, _, rfl, rfl⟩)
        · exact .inr (.inr (.inl ⟨_, _, _, _, _, _, rfl, rfl⟩))
        · exact .inr (.inr (.inr ⟨_, _, rfl, rfl⟩))
        · exact .inl h
      rcases this with h | ⟨a, b, rfl, rfl⟩ | ⟨n, z, a, n', z', b, rfl, rfl⟩ | ⟨a, b, rfl, rfl⟩
      · have := veq_eq _ _ h; subst this; exact e
      · simp only [wkV] at h
        obtain ⟨d, rfl, h1⟩ := e.agg
        exact vr_agg (wkVL_LR a b _ h h1)
      · simp only [wkV, Bool.and_eq_true] at h
        obtain ⟨h1, h2, h3⟩ := h
        have := Nat.eq_of_beq_eq_true h1; subst this
        have := Nat.eq_of_beq_eq_true h2; subst this
        have hl := wkVL_len h3
        simp only [VR] at e ⊢
        rcases e with ⟨e1, rfl, e3⟩ | ⟨ad, cap, e1, e2, e3, e4, e5⟩
        · exact .inl ⟨e1, by cases b with | nil => rfl | cons _ _ => simp at hl, e3⟩
        · exact .inr ⟨ad, cap, e1, e2, by rw [← hl]; exact e3, wkVL_MR a b _ _ h3 e4, e5⟩
      · simp only [wkV] at h
        simp only [VR] at e ⊢
        obtain ⟨bl, o, e1, e2⟩ := e
        exact ⟨bl, o, e1, wkVL_MR a b _ _ h e2⟩
theorem wkVL_LR {sn : Snap} {ι : IMap} : ∀ (l l2 : List AV) (vs : List Value), wkVL l l2 = true → LR sn ι l vs → LR sn ι l2 vs
  | [], [], vs, h, e => e
  | u :: l, u2 :: l2, vs, h, e => by
    simp only [wkVL, Bool.and_eq_true] at h
    simp only [LR] at e ⊢
    obtain ⟨d, ds, e1, e2, e3⟩ := e
    exact ⟨d, ds, e1, wkV_VR u u2 d h.1 e2, wkVL_LR l l2 ds h.2 e3⟩
  | [], _ :: _, _, h, _ => by simp [wkVL] at h
  | _ :: _, [], _, h, _ => by simp [wkVL] at h
theorem wkVL_MR {sn : Snap} : ∀ (l l2 : List AV) (b o : Nat), wkVL l l2 = true → MR sn l b o → MR sn l2 b o
  | [], [], b, o, h, e => e
  | u :: l, u2 :: l2, b, o, h, e => by
    simp only [wkVL, Bool.and_eq_true] at h
    simp only [MR] at e ⊢
    obtain ⟨⟨v, e1, e2⟩, e3⟩ := e
    exact ⟨⟨v, e1, wkV_VR u u2 v h.1 e2⟩, wkVL_MR l l2 b (o + 1) h.2 e3⟩
  | [], _ :: _, _, _, h, _ => by simp [wkVL] at h
  | _ :: _, [], _, _, h, _ => by simp [wkVL] at h
end
theorem ValOK.nils {P : Program} {gl : Glob} {f : Nat} {args args2 : List AV} {r : AV} (h : ValOK P gl f args2 r) (hw : wkVL args args2 = true) : ValOK P gl f args r :=
  h.weak fun sn vs e => wkVL_LR args args2 vs hw e
end Go.Abs
end


section

set_option linter.unusedVariables false
set_option maxRecDepth 100000
namespace Go.Proofs.YtblnhcafobifgaaGreatDoor.runLives
open Go.RowKit Go.Abs Go.Proofs.YtblnhcafobifgaaGreatDoor.lex
def ld (n l : List UInt8) (o : Int) : St := .mk 2 n l o [] [] []
def dx : Dc := ⟨[120], false, 0⟩
def dd : Dc := ⟨[100], true, 0⟩
def eR : Ex := .mk 2 0 [114] []
def eN : Ex := .mk 1 1 [] []
def progs : List (Pr × W3) := [
  (⟨[dx], [[ld [114] [120] 3, .mk 10 [] [] 0 [.mk 7 0 [] [eR, eN]] [.mk 3 [] [120] 4 [.mk 14 0 [] [eR, eN]] [] []] []]]⟩, (0, 0, 0)),
  (⟨[dx, dd], [[ld [100] [120] 3]]⟩, (1, 0, 6)),
  (⟨[dx, dd], [[ld [114] [100] 3]]⟩, (1, 0, 8)),
  (⟨[dx, dd], [[ld [114] [120] 4]]⟩, (1, 0, 7)),
  (⟨[dx], [[.mk 1 [114] [] 0 [eN] [] [], .mk 10 [] [] 0 [eR] [.mk 3 [] [121] 4 [eN] [] []] []]]⟩, (1, 2, 6)),
  (⟨[dx], []⟩, (0, 0, 3)),
  (⟨[dx, dx], [[]]⟩, (0, 1, 6))]
def look (args : List AV) : List (Pr × W3) → Option AV
  | [] => none
  | (p, r) :: l => if wkVL args [p.av] then some (resW r) else look args l
theorem look_mem {args : List AV} : ∀ {l : List (Pr × W3)} {x : AV}, look args l = some x → ∃ p r, (p, r) ∈ l ∧ wkVL args [p.av] = true ∧ x = resW r
  | (p, r) :: l, x, h => by
    unfold look at h
    split at h
    · rename_i hw; simp at h; exact ⟨p, r, by simp, hw, h.symm⟩
    · obtain ⟨p', r', h1, h2⟩ := look_mem h; exact ⟨p', r', by simp [h1], h2⟩
  | [], x, h => by simp [look] at h
def tabW : Nat → List AV → Option AV := fun f args => if Nat.beq f 11 then look args progs else none
theorem progs_ok : ∀ x ∈ progs, okP x.1 ∧ sizeTL x.1.threads ≤ 800000 ∧ chkW x.1 = x.2 := by
  have h : ∀ x, x ∈ progs → x ∈ progs := fun x h => h
  intro x hx
  simp only [progs, List.mem_cons, List.not_mem_nil, or_false] at hx
  rcases hx with rfl | rfl | rfl | rfl | rfl | rfl | rfl <;> refine ⟨?_, by decide, by rfl⟩ <;> simp [okP, okD, okTL, okSL, okS, okL, okE, okN, ld, dx, dd, eR, eN]
theorem tabW_sound : OrcSound Tryz.prog gl (orcZ tabW) := orcZ_sound fun f args r h => by
  unfold tabW at h
  split at h
  · rename_i e
    have e := Nat.eq_of_beq_eq_true e
    subst e
    obtain ⟨p, r', hm, hw, rfl⟩ := look_mem h
    obtain ⟨h1, h2, h3⟩ := progs_ok _ hm
    simp only at h1 h2 h3
    subst h3
    exact ⟨rfl, (checkX_ok p h1 h2).nils hw⟩
  · cases h
def isS (l : List (Nat × List AV)) : Nat → List AV → Bool := fun f args => Nat.beq f 56 || (Nat.beq f 11 || memA f args l)
noncomputable def foS (l : List (Nat × List AV)) : FOrc := forcThen (fun f _ => Nat.beq f 56) (fsortO 56 78) (forcThen (fun f _ => Nat.beq f 11) (forcZ tabW) (ftblO l))
def toS (l : List (Nat × List AV)) : Orc := orcIf (fun f _ => Nat.beq f 56) (sortO 56 78) (orcIf (fun f _ => Nat.beq f 11) (orcZ tabW) (tblO l))
theorem simS (l : List (Nat × List AV)) : OrcSim (foS l) (toS l) := forcThen_sim (fsortO_sim _ _) (forcThen_sim (forcZ_sim tabW) (ftblO_sim l))
theorem lives : saysTrue (frunG Tryz.prog gl (isS []) (foS []) 100000 100 7 [] TH.empty) = true := by kernel_rfl
theorem knownLives : OrcSound Tryz.prog gl (tblO [(7, [])]) := known_trueG follows noNum (simS []) (orcIf_sound shelf.sound (orcIf_sound tabW_sound tblO_nil)) tblO_nil rfl lives
end Go.Proofs.YtblnhcafobifgaaGreatDoor.runLives
end


section

set_option linter.unusedVariables false
set_option linter.unusedSimpArgs false
namespace Go.Proofs.YtblnhcafobifgaaGreatDoor.lex
open Go.Abs Go.RowKit
set_option maxRecDepth 100000
set_option maxHeartbeats 4000000
variable {gl : Glob}
def ifp (l : Int) (f : Int → Int) : Int := if 0 ≤ l then f l else l
mutual
def heftS : St → Int → Int
  | .mk _ n lc _ x t e, l => ifp (ifp (heftL x (l - 1 - (n.length / 20 : Nat) - (lc.length / 20 : Nat))) (heftSL t)) (heftSL e)
def heftSL : List St → Int → Int
  | [], l => l
  | x :: k, l => if 0 ≤ l then heftSL k (heftS x l) else l
end
theorem heftS_eq : ∀ (x : St) (l : Int), heftS x l = ifp (ifp (heftL x.exprs (l - 1 - (x.name.length / 20 : Nat) - (x.loc.length / 20 : Nat))) (heftSL x.thn)) (heftSL x.els)
  | .mk _ _ _ _ _ _ _, l => by simp only [heftS, St.exprs, St.name, St.loc, St.thn, St.els]
mutual
theorem heftS_size : ∀ (x : St) (l : Int), 0 ≤ heftS x l → (sizeS x : Int) + heftS x l ≤ l
  | .mk _ n lc _ x t e, l, h => by
    simp only [heftS, sizeS, ifp] at *
    generalize hl1 : l - 1 - ((n.length / 20 : Nat) : Int) - ((lc.length / 20 : Nat) : Int) = l1 at *
    have hx := heftL_size x l1
    have ht := heftSL_size t (heftL x l1)
    by_cases h1 : 0 ≤ heftL x l1
    · simp only [if_pos h1] at *
      have he := heftSL_size e (heftSL t (heftL x l1))
      by_cases h2 : 0 ≤ heftSL t (heftL x l1)
      · simp only [if_pos h2] at *
        have := hx h1; have := ht h2; have := he h; omega
      · simp only [if_neg h2] at *; omega
    · simp only [if_neg h1] at *; omega
theorem heftSL_size : ∀ (k : List St) (l : Int), 0 ≤ heftSL k l → (sizeSL k : Int) + heftSL k l ≤ l
  | [], l, h => by simp only [heftSL, sizeSL] at *; omega
  | x :: k, l, h => by
    simp only [heftSL, sizeSL] at *
    split at h
    · rename_i hl
      rw [if_pos hl]
      have h1 := heftSL_size k _ h
      have h2 : 0 ≤ heftS x l := by omega
      have h3 := heftS_size x l h2
      omega
    · omega
end
theorem ifp_le {l : Int} {f : Int → Int} (h : ∀ m, f m ≤ m) : ifp l f ≤ l := by
  unfold ifp; split
  · exact h l
  · exact Int.le_refl _
mutual
theorem heftS_le : ∀ (x : St) (l : Int), heftS x l ≤ l
  | .mk _ n lc _ x t e, l => by
    simp only [heftS]
    have h1 := heftL_le x (l - 1 - ((n.length / 20 : Nat) : Int) - ((lc.length / 20 : Nat) : Int))
    have h2 := ifp_le (l := heftL x (l - 1 - ((n.length / 20 : Nat) : Int) - ((lc.length / 20 : Nat) : Int))) (heftSL_le t)
    have h3 := ifp_le (l := ifp (heftL x (l - 1 - ((n.length / 20 : Nat) : Int) - ((lc.length / 20 : Nat) : Int))) (heftSL t)) (heftSL_le e)
    omega
theorem heftSL_le : ∀ (k : List St) (l : Int), heftSL k l ≤ l
  | [], l => by simp only [heftSL]; omega
  | x :: k, l => by
    simp only [heftSL]
    split
    · have := heftSL_le k (heftS x l); have := heftS_le x l; omega
    · omega
end
theorem heftSL_at : ∀ (k : List St) (l : Int) (i : Nat) (h : i < k.length), heftSL (k.take (i + 1)) l = if 0 ≤ heftSL (k.take i) l then heftS k[i] (heftSL (k.take i) l) else heftSL (k.take i) l
  | e :: k, l, 0, h => by simp only [List.take_succ_cons, List.take_zero, heftSL, List.getElem_cons_zero]
  | e :: k, l, i + 1, h => by
    have ih := fun l => heftSL_at k l i (by simpa using h)
    simp only [List.take_succ_cons, heftSL, List.getElem_cons_succ] at ih ⊢
    split
    · exact ih _
    · rename_i h2; simp [h2]
theorem heftSL_stop : ∀ (k : List St) (l : Int) (i : Nat), heftSL (k.take i) l < 0 → heftSL k l = heftSL (k.take i) l
  | [], l, i, h => by simp [heftSL]
  | e :: k, l, 0, h => by
    simp only [List.take_zero, heftSL] at *
    rw [if_neg (by omega)]
  | e :: k, l, i + 1, h => by
    simp only [List.take_succ_cons, heftSL] at *
    split
    · rename_i hl
      rw [if_pos hl] at h
      exact heftSL_stop k _ i h
    · rfl
theorem cell_l (s : St) (rest : List AV) : tk 1 ((s.cells ++ rest).drop 2) = some [.str s.loc] := by
  obtain ⟨k, n, l, o, x, t, e⟩ := s
  simp only [St.cells, St.loc]; rfl
theorem hefts_ok : ∀ (n : Nat) (l : List St) (a : Int), sizeSL l ≤ n → okSL l → l.length ≤ 9223372036854775807 → 0 ≤ a → a ≤ 1048576 → ValOK Tryz.prog gl 25 [stA l, .int .i64 a] (.int .i64 (heftSL l a))
  | n, l, a, h, hok, hl, ha0, ha1 => by
    obtain ⟨O, hO, p1, p2, -⟩ := fams (P := Tryz.prog) (gl := gl) [{ I := List St × Int, f := 25, G := fun p => sizeSL p.1 < n ∧ okSL p.1 ∧ p.1.length ≤ 9223372036854775807 ∧ 0 ≤ p.2 ∧ p.2 ≤ 1048576, A := fun p => [stA p.1, .int .i64 p.2], R := fun p => .int .i64 (heftSL p.1 p.2), body := (by kernel_rfl), inj := (fun i j _ _ h => by simp only [List.cons.injEq, AV.int.injEq, and_true, true_and] at h; rw [stA_inj h.1, h.2]), ok := (fun p hp => ⟨rfl, match n, hp.1 with | n + 1, h => hefts_ok n p.1 p.2 (by omega) hp.2.1 hp.2.2.1 hp.2.2.2.1 hp.2.2.2.2⟩) },
      { I := Ex × Int, f := 41, G := fun p => okE p.1 ∧ 0 ≤ p.2 ∧ p.2 ≤ 1048576, A := fun p => [.agg p.1.cells, .int .i64 p.2], R := fun p => .int .i64 (heftE p.1 p.2), body := (by kernel_rfl), inj := (fun i j _ _ h => by simp only [List.cons.injEq, AV.agg.injEq, AV.int.injEq, and_true, true_and] at h; rw [cells_inj _ _ h.1, h.2]), ok := (fun p hp => ⟨by have := ex_refs p.1; simpa [refsL, refs] using this, heft_ok _ p.1 p.2 (Nat.le_refl _) hp.1 hp.2.1 hp.2.2⟩) }] rfl
    have q1 : ∀ x a, sizeSL x < n → okSL x → x.length ≤ 9223372036854775807 → 0 ≤ a → a ≤ 1048576 → ∀ H, acall Tryz.prog O H 25 [stA x, .int .i64 a] = some (.int .i64 (heftSL x a), H) := fun x a h1 h2 h3 h4 h5 => p1 (x, a) ⟨h1, h2, h3, h4, h5⟩
    have q2 : ∀ k a, okE k → 0 ≤ a → a ≤ 1048576 → ∀ H, acall Tryz.prog O H 41 [.agg k.cells, .int .i64 a] = some (.int .i64 (heftE k a), H) := fun k a h1 h2 h3 => p2 (k, a) ⟨h1, h2, h3⟩
    clear p1 p2
    simp only [stA] at q1 ⊢
    refine fn_val follows noNum hO Tryz.func25 rfl ?_
    repeat' ((conv => whnf); first | refine stp ?_ | with_reducible refine condB (fun h => ?_) (fun h => ?_))
    conv => whnf
    refine ⟨Nat, (fun i => i ≤ l.length), (fun i => [(0, .rs l.length 7 (stC l)), (1, .int .i64 (heftSL (l.take i) a)), (5, .int .i64 i)]), (fun _ => []), (fun i => l.length - i), ⟨0, Nat.zero_le _, FgL.mk0 rfl ?_⟩, ?_⟩
    · simp only [List.take_zero, heftSL]; (repeat (first | exact trivial | refine stw ?_))
    intro i hi
    dsimp only
    have hle := heftSL_le (l.take i) a
    by_cases hlt : i < l.length
    · have e1 : decide ((i : Int) < (l.length : Int)) = true := by simpa using hlt
      by_cases hpos : 0 ≤ heftSL (l.take i) a
      · have e2 : decide (heftSL (l.take i) a ≥ 0) = true := by simpa using hpos
        have hs := heftSL_at l a i hlt
        rw [if_pos hpos, heftS_eq] at hs
        have hsz := sizeSL_mem _ _ (get_mem hlt)
        have hse := sizeS_eq l[i]
        have hx1 : tk 1 (((stC l).drop (i * 7)).drop 1) = some [.str l[i].name] := by rw [stC_at l i hlt]; exact cell_n _ _
        have hx2 : tk 1 (((stC l).drop (i * 7)).drop 2) = some [.str l[i].loc] := by rw [stC_at l i hlt]; exact cell_l _ _
        have hx4 : tk 1 (((stC l).drop (i * 7)).drop 4) = some [exA l[i].exprs] := by rw [stC_at l i hlt]; exact cell_x _ _
        have hx5 : tk 1 (((stC l).drop (i * 7)).drop 5) = some [stA l[i].thn] := by rw [stC_at l i hlt]; exact cell_t _ _
        have hx6 : tk 1 (((stC l).drop (i * 7)).drop 6) = some [stA l[i].els] := by rw [stC_at l i hlt]; exact cell_e _ _
        obtain ⟨k1, k2, k3, k4, k5, k6, k7, k8⟩ := okS_parts (okSL_get hok _ (get_mem hlt))
        have qt := fun a => q1 l[i].thn a (by omega) k7 k4
        have qe := fun a => q1 l[i].els a (by omega) k8 k5
        clear q1
        generalize (heftSL (l.take i) a) = b at *
        generalize l[i] = x at *
        obtain ⟨kind, name, loc, order, exprs, thn, els⟩ := x
        simp only [St.name, St.loc, St.exprs, St.thn, St.els, exA, stA] at *
        clear hsz hse
        have q20 : Int.tdiv (name.length : Int) 20 = ((name.length / 20 : Nat) : Int) := rfl
        have q21 : Int.tdiv (loc.length : Int) 20 = ((loc.length / 20 : Nat) : Int) := rfl
        have w1 : IntKind.i64.wrap (b - 1) = b - 1 := wrapB (by omega) (by omega)
        have w2 : IntKind.i64.wrap (Int.tdiv (name.length : Int) 20) = ((name.length / 20 : Nat) : Int) := by rw [q20]; exact wrapB (by omega) (by omega)
        have w2' : IntKind.i64.wrap (Int.tdiv (loc.length : Int) 20) = ((loc.length / 20 : Nat) : Int) := by rw [q21]; exact wrapB (by omega) (by omega)
        have w3 : IntKind.i64.wrap (b - 1 - ((name.length / 20 : Nat) : Int)) = b - 1 - ((name.length / 20 : Nat) : Int) := wrapB (by omega) (by omega)
        have w4 : IntKind.i64.wrap (b - 1 - ((name.length / 20 : Nat) : Int) - ((loc.length / 20 : Nat) : Int)) = b - 1 - ((name.length / 20 : Nat) : Int) - ((loc.length / 20 : Nat) : Int) := wrapB (by omega) (by omega)
        repeat' ((conv => whnf); first | (with_reducible refine exW w1 ?_) | (refine And.intro (show (20 : Int) ≠ 0 by decide) ?_) | (rw [w2]) | (rw [w2']) | (with_reducible refine exW w3 ?_) | (with_reducible refine exW w4 ?_) | (with_reducible refine ixJ i rfl ?_ ?_; (focus (omega))) | (refine exI hx1 ?_) | (refine exI hx2 ?_) | (first | refine stp ?_ | with_reducible refine condB (fun h => ?_) (fun h => ?_)))
        conv => whnf
        have hb0 : b - 1 - ((name.length / 20 : Nat) : Int) - ((loc.length / 20 : Nat) : Int) ≤ 1048576 := by omega
        clear w1 w2 w2' w3 w4
        generalize hl0 : b - 1 - ((name.length / 20 : Nat) : Int) - ((loc.length / 20 : Nat) : Int) = l0 at *
        refine ⟨Nat, (fun k => k ≤ exprs.length), (fun k => [(0, .rs l.length 7 (stC l)), (1, .int .i64 (heftL (exprs.take k) l0)), (5, .int .i64 i), (6, .int .i64 k)]), (fun _ => []), (fun k => exprs.length - k), ⟨0, Nat.zero_le _, FgL.mk0 rfl ?_⟩, ?_⟩
        · simp only [List.take_zero, heftL]; (repeat (first | exact trivial | refine stw ?_))
        intro k hk
        dsimp only
        have hke := heftL_le (exprs.take k) l0
        have fin : ∀ v, heftL exprs l0 = v → ∃ w, True := fun _ _ => ⟨(), trivial⟩
        by_cases hkt : k < exprs.length
        · have e3 : decide ((k : Int) < (exprs.length : Int)) = true := by simpa using hkt
          by_cases hp2 : 0 ≤ heftL (exprs.take k) l0
          · have e4 : decide (heftL (exprs.take k) l0 ≥ 0) = true := by simpa using hp2
            have hy := ex4 exprs k hkt
            have hat := heftL_at exprs l0 k hkt
            rw [if_pos hp2] at hat
            have qk := q2 exprs[k] (heftL (exprs.take k) l0) (okL_get k6 _ (get_mem hkt)) hp2 (by omega)
            generalize exprs[k] = y at *
            repeat' ((conv => whnf); first | (with_reducible refine exI (qk _) ?_) | (with_reducible refine ixJ i rfl ?_ ?_; (focus (omega))) | (with_reducible refine ixJ k rfl ?_ ?_; (focus (omega))) | (refine exI hx4 ?_) | (refine exI hy ?_) | (refine exI (qk _) ?_) | (first | refine stp ?_ | with_reducible refine condB (fun h => ?_) (fun h => ?_)))
            conv => whnf
            refine ⟨k + 1, hkt, by show exprs.length - (k + 1) < exprs.length - k; omega, FgL.mk0 rfl ?_⟩
            rw [hat]; (repeat (first | exact trivial | refine stw ?_))
          · have e4 : decide (heftL (exprs.take k) l0 ≥ 0) = false := by simpa using hp2
            have hst := heftL_stop exprs l0 k (by omega)
            rw [hst] at hs
            simp only [ifp, if_neg hp2] at hs
            repeat' ((conv => whnf); first | (with_reducible refine ixJ i rfl ?_ ?_; (focus (omega))) | (refine exI hx4 ?_) | (first | refine stp ?_ | with_reducible refine condB (fun h => ?_) (fun h => ?_)))
            conv => whnf
            refine ⟨i + 1, hlt, by show l.length - (i + 1) < l.length - i; omega, FgL.mk0 rfl ?_⟩
            rw [hs]; (repeat (first | exact trivial | refine stw ?_))
        · have e3 : decide ((k : Int) < (exprs.length : Int)) = false := by simpa using hkt
          have hk2 : k = exprs.length := by have := hk; omega
          subst hk2
          rw [List.take_length] at hke ⊢
          generalize heftL exprs l0 = l1 at *
          by_cases hp2 : 0 ≤ l1
          · have e4 : decide (l1 ≥ 0) = true := by simpa using hp2
            simp only [ifp, if_pos hp2] at hs
            have qt1 := qt l1 hp2 (by omega)
            have ht1 := heftSL_le thn l1
            generalize heftSL thn l1 = l2 at *
            by_cases hp3 : 0 ≤ l2
            · have e5 : decide (l2 ≥ 0) = true := by simpa using hp3
              simp only [if_pos hp3] at hs
              have qe1 := qe l2 hp3 (by omega)
              generalize heftSL els l2 = l3 at *
              repeat' ((conv => whnf); first | (with_reducible refine ixJ i rfl ?_ ?_; (focus (omega))) | (refine exI hx4 ?_) | (refine exI hx5 ?_) | (refine exI hx6 ?_) | (refine exI (qt1 _) ?_) | (refine exI (qe1 _) ?_) | (first | refine stp ?_ | with_reducible refine condB (fun h => ?_) (fun h => ?_)))
              conv => whnf
              refine ⟨i + 1, hlt, by show l.length - (i + 1) < l.length - i; omega, FgL.mk0 rfl ?_⟩
              rw [hs]; (repeat (first | exact trivial | refine stw ?_))
            · have e5 : decide (l2 ≥ 0) = false := by simpa using hp3
              simp only [if_neg hp3] at hs
              repeat' ((conv => whnf); first | (with_reducible refine ixJ i rfl ?_ ?_; (focus (omega))) | (refine exI hx4 ?_) | (refine exI hx5 ?_) | (refine exI hx6 ?_) | (refine exI (qt1 _) ?_) | (first | refine stp ?_ | with_reducible refine condB (fun h => ?_) (fun h => ?_)))
              conv => whnf
              refine ⟨i + 1, hlt, by show l.length - (i + 1) < l.length - i; omega, FgL.mk0 rfl ?_⟩
              rw [hs]; (repeat (first | exact trivial | refine stw ?_))
          · have e4 : decide (l1 ≥ 0) = false := by simpa using hp2
            simp only [ifp, if_neg hp2] at hs
            repeat' ((conv => whnf); first | (with_reducible refine ixJ i rfl ?_ ?_; (focus (omega))) | (refine exI hx4 ?_) | (first | refine stp ?_ | with_reducible refine condB (fun h => ?_) (fun h => ?_)))
            conv => whnf
            refine ⟨i + 1, hlt, by show l.length - (i + 1) < l.length - i; omega, FgL.mk0 rfl ?_⟩
            rw [hs]; (repeat (first | exact trivial | refine stw ?_))
      · have e2 : decide (heftSL (l.take i) a ≥ 0) = false := by simpa using hpos
        have hst := heftSL_stop l a i (by omega)
        rw [hst]
        repeat' ((conv => whnf); first | refine stp ?_ | with_reducible refine condB (fun h => ?_) (fun h => ?_))
        all_goals rfl
    · have e1 : decide ((i : Int) < (l.length : Int)) = false := by simpa using hlt
      have hi2 : i = l.length := by have := hi; omega
      subst hi2
      rw [List.take_length]
      repeat' ((conv => whnf); first | refine stp ?_ | with_reducible refine condB (fun h => ?_) (fun h => ?_))
      all_goals rfl
end Go.Proofs.YtblnhcafobifgaaGreatDoor.lex
end


section

set_option linter.unusedVariables false
set_option linter.unusedSimpArgs false
namespace Go.Proofs.YtblnhcafobifgaaGreatDoor.lex
open Go.Abs Go.RowKit
set_option maxRecDepth 100000
set_option maxHeartbeats 4000000
variable {gl : Glob}
def heftD : List Dc → Int → Int
  | [], l => l
  | x :: k, l => if 0 ≤ l then heftD k (l - (x.name.length / 20 : Nat)) else l
def heftTL : List (List St) → Int → Int
  | [], l => l
  | x :: k, l => if 0 ≤ l then heftTL k (heftSL x l) else l
def lightP (p : Pr) (m : Int) : Bool := decide (0 ≤ heftTL p.threads (heftD p.decls (m - min (m + 1) (p.decls.length : Int) - min (m + 1) (p.threads.length : Int))))
theorem heftD_le : ∀ (k : List Dc) (l : Int), heftD k l ≤ l
  | [], l => by simp only [heftD]; omega
  | x :: k, l => by
    simp only [heftD]
    split
    · have := heftD_le k (l - (x.name.length / 20 : Nat)); omega
    · omega
theorem heftTL_le : ∀ (k : List (List St)) (l : Int), heftTL k l ≤ l
  | [], l => by simp only [heftTL]; omega
  | x :: k, l => by
    simp only [heftTL]
    split
    · have := heftTL_le k (heftSL x l); have := heftSL_le x l; omega
    · omega
theorem heftTL_size : ∀ (k : List (List St)) (l : Int), 0 ≤ heftTL k l → (sizeTL k : Int) + heftTL k l ≤ l
  | [], l, h => by simp only [heftTL, sizeTL] at *; omega
  | x :: k, l, h => by
    simp only [heftTL, sizeTL] at *
    split at h
    · rename_i hl
      rw [if_pos hl]
      have h1 := heftTL_size k _ h
      have h2 : 0 ≤ heftSL x l := by omega
      have h3 := heftSL_size x l h2
      omega
    · omega
theorem lightP_size (p : Pr) (m : Nat) (h : lightP p m = true) : sizeTL p.threads ≤ m := by
  simp only [lightP, decide_eq_true_eq] at h
  have h1 := heftTL_size _ _ h
  have h2 := heftD_le p.decls ((m : Int) - min ((m : Int) + 1) (p.decls.length : Int) - min ((m : Int) + 1) (p.threads.length : Int))
  omega
theorem heftD_at : ∀ (k : List Dc) (l : Int) (i : Nat) (h : i < k.length), heftD (k.take (i + 1)) l = if 0 ≤ heftD (k.take i) l then heftD (k.take i) l - (k[i].name.length / 20 : Nat) else heftD (k.take i) l
  | e :: k, l, 0, h => by simp only [List.take_succ_cons, List.take_zero, heftD, List.getElem_cons_zero]
  | e :: k, l, i + 1, h => by
    have ih := fun l => heftD_at k l i (by simpa using h)
    simp only [List.take_succ_cons, heftD, List.getElem_cons_succ] at ih ⊢
    split
    · exact ih _
    · rename_i h2; simp [h2]
theorem heftD_stop : ∀ (k : List Dc) (l : Int) (i : Nat), heftD (k.take i) l < 0 → heftD k l = heftD (k.take i) l
  | [], l, i, h => by simp [heftD]
  | e :: k, l, 0, h => by
    simp only [List.take_zero, heftD] at *
    rw [if_neg (by omega)]
  | e :: k, l, i + 1, h => by
    simp only [List.take_succ_cons, heftD] at *
    split
    · rename_i hl
      rw [if_pos hl] at h
      exact heftD_stop k _ i h
    · rfl
theorem heftTL_at : ∀ (k : List (List St)) (l : Int) (i : Nat) (h : i < k.length), heftTL (k.take (i + 1)) l = if 0 ≤ heftTL (k.take i) l then heftSL k[i] (heftTL (k.take i) l) else heftTL (k.take i) l
  | e :: k, l, 0, h => by simp only [List.take_succ_cons, List.take_zero, heftTL, List.getElem_cons_zero]
  | e :: k, l, i + 1, h => by
    have ih := fun l => heftTL_at k l i (by simpa using h)
    simp only [List.take_succ_cons, heftTL, List.getElem_cons_succ] at ih ⊢
    split
    · exact ih _
    · rename_i h2; simp [h2]
theorem heftTL_stop : ∀ (k : List (List St)) (l : Int) (i : Nat), heftTL (k.take i) l < 0 → heftTL k l = heftTL (k.take i) l
  | [], l, i, h => by simp [heftTL]
  | e :: k, l, 0, h => by
    simp only [List.take_zero, heftTL] at *
    rw [if_neg (by omega)]
  | e :: k, l, i + 1, h => by
    simp only [List.take_succ_cons, heftTL] at *
    split
    · rename_i hl
      rw [if_pos hl] at h
      exact heftTL_stop k _ i h
    · rfl
theorem lightP_ok (p : Pr) (m : Int) (hok : okP p) (hm0 : 0 ≤ m) (hm1 : m ≤ 1048576) : ValOK Tryz.prog gl 10 [p.av, .int .i64 m] (.bool (lightP p m)) := by
  obtain ⟨⟨hd1, hd2⟩, ht1, ht2⟩ := hok
  obtain ⟨O, hO, p1, -⟩ := fams (P := Tryz.prog) (gl := gl) [{ I := List St × Int, f := 25, G := fun q => okSL q.1 ∧ q.1.length ≤ 9223372036854775807 ∧ 0 ≤ q.2 ∧ q.2 ≤ 1048576, A := fun q => [stA q.1, .int .i64 q.2], R := fun q => .int .i64 (heftSL q.1 q.2), body := (by kernel_rfl), inj := (fun i j _ _ h => by simp only [List.cons.injEq, AV.int.injEq, and_true, true_and] at h; rw [stA_inj h.1, h.2]), ok := (fun q hq => ⟨rfl, hefts_ok _ q.1 q.2 (Nat.le_refl _) hq.1 hq.2.1 hq.2.2.1 hq.2.2.2⟩) }] rfl
  have q1 : ∀ x a, okSL x → x.length ≤ 9223372036854775807 → 0 ≤ a → a ≤ 1048576 → ∀ H, acall Tryz.prog O H 25 [stA x, .int .i64 a] = some (.int .i64 (heftSL x a), H) := fun x a h1 h2 h3 h4 => p1 (x, a) ⟨h1, h2, h3, h4⟩
  clear p1
  obtain ⟨ds, ts⟩ := p
  simp only [Pr.av, lightP] at *
  have w1 : IntKind.i64.wrap (m + 1) = m + 1 := wrapB (by omega) (by omega)
  have hl0 : m - (if (ds.length : Int) < m + 1 then (ds.length : Int) else m + 1) - (if (ts.length : Int) < m + 1 then (ts.length : Int) else m + 1) = m - min (m + 1) (ds.length : Int) - min (m + 1) (ts.length : Int) := by
    rw [Int.min_def, Int.min_def]; split <;> split <;> split <;> split <;> omega
  generalize m - min (m + 1) (ds.length : Int) - min (m + 1) (ts.length : Int) = l0 at *
  have hlm : l0 ≤ 1048576 := by omega
  have hlm2 : -9000000000000000000 ≤ l0 := by omega
  refine fn_val follows noNum hO Tryz.func10 rfl ?_
  repeat' ((conv => whnf); first | (with_reducible refine exW w1 ?_) | (first | refine stp ?_ | with_reducible refine condB (fun h => ?_) (fun h => ?_)))
  conv => whnf
  rw [hl0]
  refine ⟨Nat, (fun i => i ≤ ds.length), (fun i => [(2, .ptr 0 0), (5, .int .i64 (heftD (ds.take i) l0)), (6, .int .i64 i)]), (fun _ => [⟨true, 0, 0, .cells [.rs ds.length 3 (dcC ds), .rs ts.length 1 (ts.map stA)] 29⟩]), (fun i => ds.length - i), ⟨0, Nat.zero_le _, FgL.mk [0] rfl ?_ ⟨⟨rfl, rfl, rfl, rfl, BodyGe.pre (rest := []) rfl rfl⟩, trivial⟩ rfl⟩, ?_⟩
  · simp only [List.take_zero, heftD]; (repeat (first | exact trivial | refine stw ?_))
  intro i hi
  dsimp only
  have hle := heftD_le (ds.take i) l0
  by_cases hc : i < ds.length ∧ 0 ≤ heftD (ds.take i) l0
  · obtain ⟨hlt, hpos⟩ := hc
    have e1 : decide ((i : Int) < (ds.length : Int)) = true := by simpa using hlt
    have e2 : decide (heftD (ds.take i) l0 ≥ 0) = true := by simpa using hpos
    have hs := heftD_at ds l0 i hlt
    rw [if_pos hpos] at hs
    have hxn := dcn ds i hlt
    have hln := hd2 _ (get_mem hlt)
    generalize heftD (ds.take i) l0 = b at *
    generalize ds[i] = d at *
    obtain ⟨name, pl, vl⟩ := d
    simp only at *
    have q20 : Int.tdiv (name.length : Int) 20 = ((name.length / 20 : Nat) : Int) := rfl
    have w2 : IntKind.i64.wrap (Int.tdiv (name.length : Int) 20) = ((name.length / 20 : Nat) : Int) := by rw [q20]; exact wrapB (by omega) (by omega)
    have w3 : IntKind.i64.wrap (b - ((name.length / 20 : Nat) : Int)) = b - ((name.length / 20 : Nat) : Int) := wrapB (by omega) (by omega)
    repeat' ((conv => whnf); first | (refine And.intro (show (20 : Int) ≠ 0 by decide) ?_) | (rw [w2]) | (with_reducible refine exW w3 ?_) | (with_reducible refine ixJ i rfl ?_ ?_; (focus (omega))) | (refine exI hxn ?_) | (first | refine stp ?_ | with_reducible refine condB (fun h => ?_) (fun h => ?_)))
    conv => whnf
    refine ⟨i + 1, hlt, by show ds.length - (i + 1) < ds.length - i; omega, FgL.mk [0] rfl ?_ ⟨⟨rfl, rfl, rfl, rfl, BodyGe.pre (rest := []) rfl rfl⟩, trivial⟩ rfl⟩
    rw [hs]; (repeat (first | exact trivial | refine stw ?_))
  · have hfin : heftD (ds.take i) l0 = heftD ds l0 := by
      by_cases hlt : i < ds.length
      · exact (heftD_stop ds l0 i (by omega)).symm
      · rw [List.take_of_length_le (by omega)]
    rw [hfin] at hc hle ⊢
    generalize heftD ds l0 = l1 at *
    obtain ⟨b1, e1, hb⟩ : ∃ b1, decide ((i : Int) < (ds.length : Int)) = b1 ∧ (b1 = true → decide (l1 ≥ 0) = false) := ⟨_, rfl, fun h => by simp only [decide_eq_true_eq, decide_eq_false_iff_not] at *; omega⟩
    have hb2 : b1 = false ∨ b1 = true ∧ decide (l1 ≥ 0) = false := by cases b1 <;> simp_all
    clear hb
    rcases hb2 with rfl | ⟨rfl, e2⟩
    all_goals
      repeat' ((conv => whnf); first | refine stp ?_ | with_reducible refine condB (fun h => ?_) (fun h => ?_))
      conv => whnf
      refine ⟨Nat, (fun i => i ≤ ts.length), (fun i => [(2, .ptr 0 0), (5, .int .i64 (heftTL (ts.take i) l1)), (7, .int .i64 i)]), (fun _ => [⟨true, 0, 0, .cells [.rs ds.length 3 (dcC ds), .rs ts.length 1 (ts.map stA)] 29⟩]), (fun i => ts.length - i), ⟨0, Nat.zero_le _, FgL.mk [0] rfl ?_ ⟨⟨rfl, rfl, rfl, rfl, BodyGe.pre (rest := []) rfl rfl⟩, trivial⟩ rfl⟩, ?_⟩
      · simp only [List.take_zero, heftTL]; (repeat (first | exact trivial | refine stw ?_))
      clear e1
      try clear e2
      intro k hk
      dsimp only
      have hlk := heftTL_le (ts.take k) l1
      by_cases hkt : k < ts.length
      · have e1 : decide ((k : Int) < (ts.length : Int)) = true := by simpa using hkt
        by_cases hpos : 0 ≤ heftTL (ts.take k) l1
        · have e2 : decide (heftTL (ts.take k) l1 ≥ 0) = true := by simpa using hpos
          have hs := heftTL_at ts l1 k hkt
          rw [if_pos hpos] at hs
          have hx := th1 ts k hkt
          have hok := okTL_get ht1 _ (get_mem hkt)
          have q2 := q1 ts[k] (heftTL (ts.take k) l1) hok.1 hok.2 hpos (by omega)
          generalize heftTL (ts.take k) l1 = b at *
          generalize ts[k] = t at *
          simp only [stA] at hx q2
          repeat' ((conv => whnf); first | (with_reducible refine exI (q2 _) ?_) | (with_reducible refine ixJ k rfl ?_ ?_; (focus (omega))) | (refine exI hx ?_) | (first | refine stp ?_ | with_reducible refine condB (fun h => ?_) (fun h => ?_)))
          conv => whnf
          refine ⟨k + 1, hkt, by show ts.length - (k + 1) < ts.length - k; omega, FgL.mk [0] rfl ?_ ⟨⟨rfl, rfl, rfl, rfl, BodyGe.pre (rest := []) rfl rfl⟩, trivial⟩ rfl⟩
          rw [hs]; (repeat (first | exact trivial | refine stw ?_))
        · have e2 : decide (heftTL (ts.take k) l1 ≥ 0) = false := by simpa using hpos
          have hst := heftTL_stop ts l1 k (by omega)
          rw [hst]
          repeat' ((conv => whnf); first | refine stp ?_ | with_reducible refine condB (fun h => ?_) (fun h => ?_))
          all_goals rfl
      · have e1 : decide ((k : Int) < (ts.length : Int)) = false := by simpa using hkt
        have hk2 : k = ts.length := by have := hk; omega
        subst hk2
        rw [List.take_length]
        repeat' ((conv => whnf); first | refine stp ?_ | with_reducible refine condB (fun h => ?_) (fun h => ?_))
        all_goals rfl
end Go.Proofs.YtblnhcafobifgaaGreatDoor.lex
end


section

set_option linter.unusedVariables false
set_option linter.unusedSimpArgs false
namespace Go.Proofs.YtblnhcafobifgaaGreatDoor.lex
open Go.Abs Go.RowKit
set_option maxRecDepth 100000
set_option maxHeartbeats 4000000
open runLives (follows noNum)
def one0 {gl : Glob} {f : Nat} {A : List AV} {R : AV} (G : Prop) (hb : hasBody Tryz.prog f = true) (hr : refsL A [] = []) (h : G → ValOK Tryz.prog gl f A R) : Fam Tryz.prog gl := { I := Unit, f := f, G := fun _ => G, A := fun _ => A, R := fun _ => R, body := hb, inj := (fun _ _ _ _ _ => rfl), ok := (fun _ hG => ⟨hr, h hG⟩) }
theorem livesV : ValOK Tryz.prog runLives.gl 7 [] (.bool true) := by
  intro sn W cargs hg hR ha
  refine ((runLives.knownLives 7 [] [] (.bool true) [] (by kernel_rfl) sn noI W cargs hg hR ha).calls Tryz.func7).mono ?_
  rintro e W' ⟨v, sn', ι', rfl, hv, hs⟩
  cases hv.bool
  exact ⟨_, rfl, Stq.ext (Stp.q (k := 0) hR hs), by simp [VR]⟩
theorem lightP_lens (p : Pr) (m : Nat) (h : lightP p m = true) : p.decls.length ≤ m ∧ p.threads.length ≤ m := by
  simp only [lightP, decide_eq_true_eq] at h
  have h1 := heftTL_le p.threads (heftD p.decls ((m : Int) - min ((m : Int) + 1) (p.decls.length : Int) - min ((m : Int) + 1) (p.threads.length : Int)))
  have h2 := heftD_le p.decls ((m : Int) - min ((m : Int) + 1) (p.decls.length : Int) - min ((m : Int) + 1) (p.threads.length : Int))
  omega
end Go.Proofs.YtblnhcafobifgaaGreatDoor.lex
end


section

set_option linter.unusedVariables false
set_option linter.unusedSimpArgs false
namespace Go.Proofs.YtblnhcafobifgaaGreatDoor.lex
open Go.Abs Go.RowKit
set_option maxRecDepth 100000
set_option maxHeartbeats 4000000
variable {gl : Glob}
theorem splN : ∀ (a b c vs : List AV), b.length = vs.length → spl (a ++ (b ++ c)) a.length vs = some (a ++ (vs ++ c))
  | [], [], c, [], _ => by cases c <;> rfl
  | [], x :: b, c, v :: vs, h => by
    have := splN [] b c vs (by simpa using h)
    simp only [List.nil_append, List.length_nil] at this
    simp only [List.nil_append, List.length_nil, List.cons_append, spl, this]
  | x :: a, b, c, vs, h => by
    have := splN a b c vs h
    simp only [List.cons_append, List.length_cons, spl, this]
  | [], [], c, _ :: _, h => by simp at h
  | [], _ :: _, c, [], h => by simp at h
def flat1 : AV → Bool
  | .bool _ => true
  | .int _ _ => true
  | .str _ => true
  | .rs _ _ _ => true
  | _ => false
theorem frz_flat {H : AHeap} {n : Nat} : ∀ {u : AV}, flat1 u = true → frz H (n + 1) u = some u
  | .bool _, _ => rfl
  | .int _ _, _ => rfl
  | .str _, _ => rfl
  | .rs _ _ _, _ => rfl
theorem frzL_flat {H : AHeap} {n : Nat} : ∀ {cs : List AV}, cs.all flat1 = true → frzL (frz H (n + 1)) cs = some cs
  | [], _ => rfl
  | c :: cs, h => by
    simp only [List.all_cons, Bool.and_eq_true] at h
    simp only [frzL, frz_flat h.1, frzL_flat h.2]
theorem frz_sliceF {H : AHeap} {n b f sh len cap z : Nat} {cs : List AV} {ty : TypeId} (hH : H[b]? = some ⟨true, f, sh, .cells cs ty⟩) (hc : cs.length = len * z) (hl : cs.all flat1 = true) : frz H (n + 2) (.slice b 0 len cap z) = some (.rs len z cs) := by
  cases len with
  | zero =>
    have : cs = [] := List.eq_nil_of_length_eq_zero (by omega)
    subst this; rfl
  | succ m =>
    have h2 : frzL (frz H (n + 1)) cs = some cs := frzL_flat hl
    unfold frz
    simp only [hH, List.drop_zero, tk_all hc]
    rw [h2]
def flat2 : AV → Bool
  | .bool _ => true
  | .int _ _ => true
  | .str _ => true
  | .rs _ _ _ => true
  | .nslice => true
  | _ => false
theorem refs_flat : ∀ {u : AV} {acc : List Nat}, flat2 u = true → refs u acc = acc
  | .bool _, _, _ => by simp only [refs]
  | .int _ _, _, _ => by simp only [refs]
  | .str _, _, _ => by simp only [refs]
  | .rs _ _ _, _, _ => by simp only [refs]
  | .nslice, _, _ => by simp only [refs]
theorem refsL_flat : ∀ {l : List AV} {acc : List Nat}, l.all flat2 = true → refsL l acc = acc
  | [], _, _ => by simp only [refsL]
  | c :: l, acc, h => by
    simp only [List.all_cons, Bool.and_eq_true] at h
    simp only [refsL, refs_flat h.1, refsL_flat h.2]
theorem flat12 : ∀ {l : List AV}, l.all flat1 = true → l.all flat2 = true := by
  intro l h
  rw [List.all_eq_true] at h ⊢
  intro u hu
  have := h u hu
  cases u <;> simp_all [flat1, flat2]
theorem repl_flat (z : List AV) (hz : z.all flat2 = true) : ∀ n, (repl n z).all flat2 = true
  | 0 => rfl
  | n + 1 => by simp only [repl, List.all_append, hz, repl_flat z hz n, Bool.and_true]
end Go.Proofs.YtblnhcafobifgaaGreatDoor.lex
end


section

set_option linter.unusedVariables false
set_option linter.unusedSimpArgs false
namespace Go.Proofs.YtblnhcafobifgaaGreatDoor.lex
open Go.Abs Go.RowKit
set_option maxRecDepth 100000
set_option maxHeartbeats 4000000
theorem msC {P : Program} {t e : TypeId} {z b : Nat} {u : AV} (ht : P.underlying t = some (.slice e)) (hz : tsz P e = some z) (hb : (P.info? e).map (·.bytes) = some b) (hu : tzero P e = some u) (hul : u.cells.length = z) (hz0 : z ≠ 0) (n : Nat)
    (h : n ≤ 1099511627776) (h2 : b * n ≤ 140737488355328) : msCore P t (.int .i64 n) (.int .i64 n) = some (repl n u.cells, e, z, n, n) := by
  cases hi : P.info? e with
  | none => rw [hi] at hb; cases hb
  | some i =>
    rw [hi] at hb
    simp only [Option.map_some, Option.some.injEq] at hb
    have h2' : (b : Int) * (n : Int) ≤ 140737488355328 := by
      have : ((b * n : Nat) : Int) ≤ ((140737488355328 : Nat) : Int) := Int.ofNat_le.2 h2
      simpa using this
    simp only [msCore, ht, hz, hi, hb, hu]
    rw [if_pos ⟨by omega, by omega, by omega, h2'⟩]
    by_cases hn : n = 0
    · subst hn; simp [repl]
    · have h0 : ¬ (n * z = 0) := fun e => by rcases Nat.mul_eq_zero.1 e with e | e; exact hn e; exact hz0 e
      simp only [Int.toNat_natCast]
      rw [if_neg h0, if_pos hul]
theorem mkslF {P : Program} {ρ : Operand → Option AV} {t e ty : TypeId} {z n : Nat} {zs : List AV} {d : Option Nat} {l : Operand} {p : String} {af : Array Edge} {gu : Option (Nat × Bool)} (h : msCore P t (.int .i64 n) (.int .i64 n) = some (zs, e, z, n, n)) (hl : ρ l = some (.int .i64 n)) :
    aallocF P ρ { dst := d, op := .makeSlice t l l, type := ty, pos := p, after := af, guard := gu } = some (fun b => .slice b 0 n n z, .cells zs e) := by
  simp only [aallocF, hl, h]
theorem mkD_ok (n : Nat) (h : n ≤ 1048576) : msCore Tryz.prog 26 (.int .i64 n) (.int .i64 n) = some (repl n [.str [], .bool false, .int .i64 0], 55, 3, n, n) := by
  have hz : tsz Tryz.prog 55 = some 3 := by kernel_rfl
  have hb : (Tryz.prog.info? 55).map (·.bytes) = some 32 := by kernel_rfl
  have hu : tzero Tryz.prog 55 = some (.agg [.str [], .bool false, .int .i64 0]) := by kernel_rfl
  exact msC Tryz.underlying26 hz hb hu rfl (by decide) n (by omega) (by omega)
theorem dcC_len : ∀ l : List Dc, (dcC l).length = l.length * 3
  | [] => by simp only [dcC]; rfl
  | d :: l => by simp only [dcC, Dc.cells, List.length_append, dcC_len l, List.length_cons, List.length_nil]; omega
theorem dcC_flat : ∀ l : List Dc, (dcC l).all flat1 = true
  | [] => by simp only [dcC]; rfl
  | d :: l => by simp only [dcC, Dc.cells, List.all_append, dcC_flat l, Bool.and_true]; rfl
theorem repl_len (z : List AV) : ∀ n, (repl n z).length = n * z.length
  | 0 => by simp [repl]
  | n + 1 => by simp only [repl, List.length_append, repl_len z n]; rw [Nat.add_mul]; omega
theorem dcC_one : ∀ l : List Dc, (dcC l).all Go.Abs.one = true
  | [] => by simp only [dcC]; rfl
  | d :: l => by simp only [dcC, Dc.cells, List.all_append, dcC_one l, Bool.and_true]; rfl
theorem body2 {m : List Nat} {a b a2 b2 : AV} {ty : TypeId} (h1 : Wk m a a2) (h2 : Wk m b b2) : BodyGe m (.cells [a, b] ty) (.cells [a2, b2] ty) := by
  refine ⟨rfl, Nat.le_refl _, fun i c hc => ?_⟩
  match i, hc with
  | 0, hc => simp only [List.getElem?_cons_zero, Option.some.injEq] at hc; subst hc; exact ⟨a, rfl, h1⟩
  | 1, hc => simp only [List.getElem?_cons_succ, List.getElem?_cons_zero, Option.some.injEq] at hc; subst hc; exact ⟨b, rfl, h2⟩
  | n + 2, hc => simp at hc
theorem frz_agg2 {H : AHeap} {n : Nat} {a b a' b' : AV} (h1 : frz H n a = some a') (h2 : frz H n b = some b') : frz H (n + 1) (.agg [a, b]) = some (.agg [a', b']) := by
  show (match frzL (frz H n) [a, b] with | some l => some (AV.agg l) | none => none) = _
  simp only [frzL, h1, h2]
end Go.Proofs.YtblnhcafobifgaaGreatDoor.lex
end


section

set_option linter.unusedSimpArgs false
set_option linter.unusedVariables false
namespace Go.Abs
open Go.RowKit Go.ChangeShapes Go.WideShapes Go.ChangeAt
def OpensB (P : Program) (N : Nat) (t : TypeId) (Q : List AV → Prop) : Prop :=
  ∀ (H : Type) (enc : TypeId × Value → H) (W : World) (fuel : Nat) (cs : List Value) (x : DataW H × List MemPlace), fuel ≤ N → DataW.trod enc P W 0 (fun _ => true) true fuel t cs = some x → ∃ us, Q us ∧ LR (snap0 W) noI us cs
section opens
variable {P : Program}
theorem OpensB.mono {N : Nat} {t : TypeId} {Q Q' : List AV → Prop} (h : OpensB P N t Q) (hq : ∀ u, Q u → Q' u) : OpensB P N t Q' := fun H enc W fuel cs x hN hx => let ⟨u, h1, h2⟩ := h H enc W fuel cs x hN hx; ⟨u, hq _ h1, h2⟩
theorem OpensB.of {N : Nat} {t : TypeId} {Q : List AV → Prop} (h : Opens P t Q) : OpensB P N t Q := fun H enc W fuel cs x _ hx => h H enc W fuel cs x hx
theorem OpensB.all {t : TypeId} {Q : List AV → Prop} (h : ∀ N, OpensB P N t Q) : Opens P t Q := fun H enc W fuel cs x hx => h fuel H enc W fuel cs x (Nat.le_refl _) hx
theorem opensB_zero {t : TypeId} {Q : List AV → Prop} : OpensB P 0 t Q := fun H enc W fuel cs x hN hx => by
  obtain rfl : fuel = 0 := by omega
  simp [DataW.trod] at hx
theorem opensB_slice {N : Nat} {t e : TypeId} {z : Nat} {Q : List AV → Prop} (ht : P.underlying t = some (.slice e)) (hz : P.cellsOf e = z) (hz0 : z ≠ 0) (he : OpensB P N e Q) :
    OpensB P (N + 1) t fun us => ∃ l : List (List AV), (∀ u ∈ l, Q u ∧ u.length = z) ∧ us = [.rs l.length z l.flatten] ∧ l.length ≤ maxLen := by
  intro H enc W fuel cs x hN h
  rcases DataW.trod_slice ht h with ⟨rfl, _⟩ | ⟨a, len, cap, els, rest, n, hfu, rfl, _, _, hlc, hcm, hl, hel, hrest⟩
  · exact ⟨_, ⟨[], by simp, rfl, by simp⟩, by simp [LR, VR]⟩
  · rw [hz] at hel
    have each : ∀ i, i < len → ∃ (vs : List Value) (u : List AV), W.cells? 0 (a.add (i * z)) z = some vs ∧ Q u ∧ LR (snap0 W) noI u vs := by
      intro i hi
      have h1 := hel i hi
      have h2 : els[i]? = some els[i] := List.getElem?_eq_getElem (by omega)
      rw [h2] at h1
      simp only [Option.bind_eq_some_iff] at h1
      obtain ⟨vs, h3, h4⟩ := h1
      obtain ⟨u, h5, h6⟩ := he H enc W n vs _ (by omega) h4
      exact ⟨vs, u, h3, h5, h6⟩
    have hex : ∃ (l : List (List AV)) (vss : List (List Value)), l.length = len ∧ vss.length = len ∧ ∀ i, i < len → ∃ vs u, l[i]? = some u ∧ vss[i]? = some vs ∧ W.cells? 0 (a.add (i * z)) z = some vs ∧ Q u ∧ LR (snap0 W) noI u vs := by
      clear hel hl h hlc hcm hrest
      induction len with
      | zero => exact ⟨[], [], rfl, rfl, fun i hi => by omega⟩
      | succ m ih =>
        obtain ⟨l, vss, h1, h2, h3⟩ := ih fun i hi => each i (by omega)
        obtain ⟨vs, u, g1, g2, g3⟩ := each m (by omega)
        refine ⟨l ++ [u], vss ++ [vs], by simp [h1], by simp [h2], fun i hi => ?_⟩
        by_cases e : i = m
        · subst e
          exact ⟨vs, u, by simp [← h1], by simp [← h2], g1, g2, g3⟩
        · obtain ⟨vs', u', k1, k2, k3⟩ := h3 i (by omega)
          exact ⟨vs', u', by rw [List.getElem?_append_left (by omega)]; exact k1, by rw [List.getElem?_append_left (by omega)]; exact k2, k3⟩
    obtain ⟨l, vss, h1, h2, h3⟩ := hex
    have hll : ∀ u ∈ l, Q u ∧ u.length = z := by
      intro u hu
      obtain ⟨i, hi, rfl⟩ := List.mem_iff_getElem.1 hu
      obtain ⟨vs, u', k1, k2, k3, k4, k5⟩ := h3 i (by omega)
      rw [List.getElem?_eq_getElem hi] at k1; simp at k1
      rw [k1]
      exact ⟨k4, by rw [← k5.length, (cells?_get k3).1]⟩
    refine ⟨_, ⟨l, hll, rfl, by omega⟩, ?_⟩
    simp only [LR]
    refine ⟨_, _, rfl, ?_, rfl⟩
    simp only [VR]
    have hfl : l.flatten.length = l.length * z := by
      clear h1 h3
      induction l with
      | nil => simp
      | cons u l ih => simp only [List.flatten_cons, List.length_append, List.length_cons, (hll u (by simp)).2, ih fun v hv => hll v (by simp [hv])]; rw [Nat.add_mul]; omega
    have hspot : len ≠ 0 → a.spot = none := by
      intro h0
      obtain ⟨vs, u, k1, k2, k3, k4, k5⟩ := h3 0 (by omega)
      obtain ⟨g1, g2⟩ := cells?_get k3
      have : W.cell? ((a.add (0 * z)).add 0) = some vs[0] := g2 0 _ (List.getElem?_eq_getElem (by omega))
      rw [Nat.zero_mul] at this
      simpa [Addr.add] using World.cell?_spot this
    refine .inr ⟨a, cap, by rw [h1], by omega, hfl, mr_of_get fun k u hu => ?_, fun h0 => hspot (by rw [← h1]; exact h0)⟩
    obtain ⟨x', g1, g2⟩ := flatten_at hz0 (fun u hu => (hll u hu).2) hu
    have hklt : k / z < len := by rw [← h1]; exact (List.getElem?_eq_some_iff.1 g1).1
    obtain ⟨vs, u', k1, k2, k3, k4, k5⟩ := h3 (k / z) hklt
    rw [g1] at k1; simp at k1; subst k1
    obtain ⟨v, e1, e2⟩ := k5.get g2
    refine ⟨v, ?_, e2⟩
    have hc := (cells?_get k3).2 _ _ e1
    rw [addr_addadd a (hspot (Nat.ne_of_gt (Nat.lt_of_le_of_lt (Nat.zero_le _) hklt)))] at hc
    have hk : a.off + k / z * z + k % z = a.off + k := by rw [Nat.add_assoc, Nat.mul_comm, Nat.div_add_mod]
    rw [hk] at hc
    unfold snap0
    have hlt : a.block < W.heap.size := by
      cases hq : W.heap[a.block]? with
      | none => unfold World.cell? at hc; simp only [hq] at hc; cases hc
      | some ob => exact (Array.getElem?_eq_some_iff.1 hq).1
    rw [if_pos (by exact hlt)]; exact hc
def FsOpensB (P : Program) (N : Nat) : List Field → List (List AV → Prop) → Nat → Nat → Prop
  | [], [], off, tot => off = tot
  | f :: fs, Q :: Qs, off, tot => f.offset = off ∧ OpensB P N f.type Q ∧ FsOpensB P N fs Qs (off + P.cellsOf f.type) tot
  | _, _, _, _ => False
theorem opensB_fs {N : Nat} {H : Type} {enc : TypeId × Value → H} {W : World} {n tot : Nat} {cs : List Value} (hcs : cs.length = tot) (hN : n ≤ N) : ∀ {fs : List Field} {Qs : List (List AV → Prop)} {xs : List (DataW H × List MemPlace)} {off : Nat}, FsOpensB P N fs Qs off tot → xs.length = fs.length → off ≤ tot →
    (∀ (i : Nat) (f : Field), fs[i]? = some f → DataW.trod enc P W 0 (fun _ => true) true n f.type ((cs.drop f.offset).take (P.cellsOf f.type)) = xs[i]?) → ∃ us, FsQ Qs us ∧ LR (snap0 W) noI us (cs.drop off)
  | [], [], xs, off, h, hl, ho, hx => by
    have : off = tot := h
    subst this
    exact ⟨[], rfl, by simp [LR, ← hcs]⟩
  | f :: fs, Q :: Qs, xs, off, h, hl, ho, hx => by
    obtain ⟨h1, h2, h3⟩ := h
    cases xs with
    | nil => simp at hl
    | cons x xs =>
      have h0 := hx 0 f rfl
      simp only [List.getElem?_cons_zero] at h0
      obtain ⟨u, q1, q2⟩ := h2 H enc W n _ _ hN h0
      have hle : ∀ (fs : List Field) (Qs : List (List AV → Prop)) (o : Nat), FsOpensB P N fs Qs o tot → o ≤ tot := by
        intro fs
        induction fs with
        | nil => intro Qs o h; cases Qs with | nil => exact Nat.le_of_eq h | cons _ _ => exact h.elim
        | cons g gs ih => intro Qs o h; cases Qs with | nil => exact h.elim | cons _ _ => have := ih _ _ h.2.2; omega
      obtain ⟨us, q3, q4⟩ := opensB_fs hcs hN h3 (by simpa using hl) (hle _ _ _ h3) fun i g hg => by simpa using hx (i + 1) g (by simpa using hg)
      refine ⟨u ++ us, ⟨u, us, rfl, q1, q3⟩, ?_⟩
      rw [h1] at q2
      have := q2.append q4
      rwa [← List.drop_drop, List.take_append_drop] at this
  | [], _ :: _, xs, off, h, hl, ho, hx => h.elim
  | _ :: _, [], xs, off, h, hl, ho, hx => h.elim
theorem opensB_struct {N : Nat} {t : TypeId} {fs : Array Field} {Qs : List (List AV → Prop)} (ht : P.underlying t = some (.struct fs)) (h : FsOpensB P N fs.toList Qs 0 (P.cellsOf t)) : OpensB P (N + 1) t (FsQ Qs) := by
  intro H enc W fuel cs x hN hx
  obtain ⟨xs, n, hfu, _, hl, hlen, hf⟩ := DataW.trod_struct ht hx
  obtain ⟨us, h1, h2⟩ := opensB_fs hl (by omega) h (by simpa using hlen) (Nat.zero_le _) fun i f hi => hf i f (by simpa using hi)
  exact ⟨us, h1, by simpa using h2⟩
end opens
end Go.Abs
end


section

set_option linter.unusedVariables false
set_option linter.unusedSimpArgs false
namespace Go.Proofs.YtblnhcafobifgaaGreatDoor.lex
open Go.Abs Go.RowKit
set_option maxRecDepth 100000
set_option maxHeartbeats 4000000
variable {gl : Glob}
theorem ktexts_ok (l : List (List UInt8)) (h : l.length ≤ 1048576) : ValOK Tryz.prog gl 13 [rsK l, rsK l] (.bool true) := by
  unfold rsK
  refine fn_val follows noNum none_sound Tryz.func13 rfl ?_
  have e0 : ((l.length : Int) != (l.length : Int)) = false := bne_of (b := true) (by simp)
  repeat' ((conv => whnf); first | refine stp ?_ | with_reducible refine condB (fun h => ?_) (fun h => ?_))
  conv => whnf
  refine ⟨Nat, (fun i => i ≤ l.length), (fun i => [(0, .rs l.length 1 (l.map .str)), (1, .rs l.length 1 (l.map .str)), (5, .int .i64 i)]), (fun _ => []), (fun i => l.length - i), ⟨0, Nat.zero_le _, FgL.mk0 rfl ?_⟩, ?_⟩
  · (repeat (first | exact trivial | refine stw ?_))
  intro i hi
  dsimp only
  by_cases hlt : i < l.length
  · have e1 : decide ((i : Int) < (l.length : Int)) = true := by simpa using hlt
    have hx := tk1_map AV.str l i hlt (off := i * 1) (by omega)
    have e2 : (!(l[i] == l[i])) = false := by simp
    generalize l[i] = x at *
    repeat' ((conv => whnf); first | (with_reducible refine ixJ i rfl ?_ ?_; (focus (omega))) | (refine exI hx ?_) | (first | refine stp ?_ | with_reducible refine condB (fun h => ?_) (fun h => ?_)))
    conv => whnf
    refine ⟨i + 1, hlt, by show l.length - (i + 1) < l.length - i; omega, FgL.mk0 rfl ?_⟩
    (repeat (first | exact trivial | refine stw ?_))
  · have e1 : decide ((i : Int) < (l.length : Int)) = false := by simpa using hlt
    repeat' ((conv => whnf); first | refine stp ?_ | with_reducible refine condB (fun h => ?_) (fun h => ?_))
    all_goals rfl
end Go.Proofs.YtblnhcafobifgaaGreatDoor.lex
end


section

set_option linter.unusedVariables false
set_option linter.unusedSimpArgs false
namespace Go.Proofs.YtblnhcafobifgaaGreatDoor.lex
open Go.Abs Go.RowKit
set_option maxRecDepth 100000
end Go.Proofs.YtblnhcafobifgaaGreatDoor.lex
end


section

set_option linter.unusedVariables false
set_option linter.unusedSimpArgs false
namespace Go.Proofs.YtblnhcafobifgaaGreatDoor.lex
open Go.Abs Go.RowKit
set_option maxRecDepth 100000
set_option maxHeartbeats 4000000
variable {gl : Glob}
def tabC (ds : List Dc) (rs : List (List (List UInt8))) : List AV := [.rs ds.length 3 (dcC ds), .rs rs.length 1 (rs.map rsK)]
end Go.Proofs.YtblnhcafobifgaaGreatDoor.lex
end


section

set_option linter.unusedVariables false
set_option linter.unusedSimpArgs false
namespace Go.Proofs.YtblnhcafobifgaaGreatDoor.lex
open Go.Abs Go.RowKit
set_option maxRecDepth 100000
set_option maxHeartbeats 4000000
variable {gl : Glob}
theorem map_inj {α β : Type} {f : α → β} (hf : ∀ x y, f x = f y → x = y) : ∀ {a b : List α}, a.map f = b.map f → a = b
  | [], [], _ => rfl
  | x :: a, y :: b, h => by
    simp only [List.map_cons, List.cons.injEq] at h
    rw [hf _ _ h.1, map_inj hf h.2]
  | [], _ :: _, h => by simp at h
  | _ :: _, [], h => by simp at h
end Go.Proofs.YtblnhcafobifgaaGreatDoor.lex
end


section

set_option linter.unusedVariables false
set_option linter.unusedSimpArgs false
namespace Go.Proofs.YtblnhcafobifgaaGreatDoor.lex
open Go.Abs Go.RowKit
set_option maxRecDepth 100000
set_option maxHeartbeats 4000000
open runLives (follows noNum)
theorem resw2 {P : Program} {gl : Glob} {f : Nat} {args : List AV} {a a' b : AV} (h : ValOK P gl f args (.tuple [a, b])) (hw : wkV a a' = true) : ValOK P gl f args (.tuple [a', b]) := fun sn W cargs hg hR ha =>
  (h sn W cargs hg hR ha).mono fun e W' ⟨v, h1, h2, h3⟩ => by
    obtain ⟨d, rfl, h4⟩ := h3.tuple
    refine ⟨_, h1, h2, vr_tuple ?_⟩
    simp only [LR] at h4 ⊢
    obtain ⟨x, xs, e1, e2, e3⟩ := h4
    exact ⟨x, xs, e1, wkV_VR a a' x hw e2, e3⟩
def rgT (ts : List (List St)) : List (List (List UInt8)) := ts.map fun l => sortB (rgN0 l)
theorem rgT_cells (ts : List (List St)) : (rgT ts).map rsK = ts.map fun l => rsK (sortB (rgN0 l)) := by simp [rgT]
theorem rgT_len (ts : List (List St)) : (rgT ts).length = ts.length := by simp [rgT]
def tabR (p : Pr) (e : Int) : AV := cond (e == 0) (.tuple [.agg (tabC p.decls (rgT p.threads)), .int .i64 0]) (.tuple [.agg (tabC [] []), .int .i64 e])
def rgAt (l : List (List St)) (i : Nat) : List AV := (l.take i).map (fun l => rsK (sortB (rgN0 l))) ++ repl (l.length - i) [.nslice]
theorem rgAt_set (l : List (List St)) (i k : Nat) (h : i < l.length) (hk : k = i * 1) : spl (rgAt l i) k [rsK (sortB (rgN0 l[i]))] = some (rgAt l (i + 1)) := by
  have e : l.length - i = (l.length - (i + 1)) + 1 := by omega
  have hl : ((l.take i).map (fun l => rsK (sortB (rgN0 l)))).length = k := by rw [List.length_map, List.length_take]; omega
  have h1 : rgAt l i = (l.take i).map (fun l => rsK (sortB (rgN0 l))) ++ ([.nslice] ++ repl (l.length - (i + 1)) [.nslice]) := by unfold rgAt; rw [e]; rfl
  rw [h1, ← hl, splN _ _ _ _ (by simp)]
  unfold rgAt
  rw [List.take_add_one, List.getElem?_eq_getElem h]
  simp only [Option.toList_some, List.map_append, List.map_cons, List.map_nil, List.append_assoc]
theorem rgAt_zero (l : List (List St)) : rgAt l 0 = repl l.length [.nslice] := by simp [rgAt]
theorem rgAt_all (l : List (List St)) : rgAt l l.length = (rgT l).map rsK := by simp [rgAt, repl, rgT]
theorem rk_flat : ∀ l : List (List (List UInt8)), (l.map rsK).all flat1 = true
  | [] => rfl
  | x :: l => by simp only [List.map_cons, List.all_cons, rk_flat l, Bool.and_true]; rfl
theorem rgAt_refs (l : List (List St)) (i : Nat) : refsL (rgAt l i) [] = [] := by
  refine refsL_flat ?_
  unfold rgAt
  rw [List.all_append, repl_flat _ rfl, Bool.and_true]
  have := rk_flat (rgT (l.take i))
  rw [rgT_cells] at this
  exact flat12 this
theorem mkR_ok (n : Nat) (h : n ≤ 1048576) : msCore Tryz.prog 36 (.int .i64 n) (.int .i64 n) = some (repl n [.nslice], 42, 1, n, n) := by
  have hz : tsz Tryz.prog 42 = some 1 := by kernel_rfl
  have hb : (Tryz.prog.info? 42).map (·.bytes) = some 24 := by kernel_rfl
  have hu : tzero Tryz.prog 42 = some .nslice := by kernel_rfl
  exact msC Tryz.underlying36 hz hb hu rfl (by decide) n (by omega) (by omega)
theorem frz_tup2 {H : AHeap} {n : Nat} {a a' : AV} {k : IntKind} {x : Int} (h1 : frz H (n + 1) a = some a') : frz H (n + 2) (.tuple [a, .int k x]) = some (.tuple [a', .int k x]) := by
  show (match frzL (frz H (n + 1)) [a, .int k x] with | some l => some (AV.tuple l) | none => none) = _
  have h2 : frz H (n + 1) (.int k x) = some (.int k x) := rfl
  simp only [frzL, h1, h2]
theorem copyD6 (ds : List Dc) (b0 b1 b2 b4 b5 : ABody) : aCopy Tryz.prog 26 (.slice 3 0 ds.length ds.length 3) (.rs ds.length 3 (dcC ds)) [⟨true, 0, 0, b0⟩, ⟨true, 1, 0, b1⟩, ⟨true, 2, 0, b2⟩, ⟨true, 3, 0, .cells (repl ds.length [.str [], .bool false, .int .i64 0]) 55⟩, ⟨true, 4, 0, b4⟩, ⟨true, 5, 0, b5⟩] = some (.int .i64 ds.length, [⟨true, 0, 0, b0⟩, ⟨true, 1, 0, b1⟩, ⟨true, 2, 0, b2⟩, ⟨true, 3, 0, .cells (dcC ds) 55⟩, ⟨true, 4, 0, b4⟩, ⟨true, 5, 0, b5⟩]) := by
  have hz : tsz Tryz.prog 55 = some 3 := by kernel_rfl
  have hmin : Nat.min ds.length ds.length = ds.length := Nat.min_self _
  have hsp : spl (repl ds.length [AV.str [], .bool false, .int .i64 0]) 0 (dcC ds) = some (dcC ds) := by
    have := splN [] (repl ds.length [AV.str [], .bool false, .int .i64 0]) [] (dcC ds) (by rw [repl_len, dcC_len]; rfl)
    simpa using this
  unfold aCopy
  simp only [Tryz.underlying26, hz, xcells, if_true, hmin]
  by_cases h0 : ds.length = 0
  · have : ds = [] := List.eq_nil_of_length_eq_zero h0
    subst this; rfl
  · rw [if_neg h0, tk_all (dcC_len ds)]
    simp only [wr, List.getElem?_cons_succ, List.getElem?_cons_zero, dcC_one, if_true, hsp]
    rfl
theorem tabsX_ok (p : Pr) (hok : okP p) (hs : sizeTL p.threads ≤ 800000) (hd : p.decls.length ≤ 1048576) (ht : p.threads.length ≤ 1048576) : ValOK Tryz.prog runLives.gl 12 [p.av] (tabR p (chkW p).2.2) := by
  have hck := checkX_ok p hok hs
  obtain ⟨ds, ts⟩ := p
  obtain ⟨⟨hd1, hd2⟩, ht1, ht2⟩ := hok
  generalize chkW ⟨ds, ts⟩ = w at *
  obtain ⟨w1, w2, e⟩ := w
  simp only [Pr.av, resW] at *
  obtain ⟨O, hO, p1, p2, -⟩ := fams (P := Tryz.prog) (gl := runLives.gl) [
    { I := Unit, f := 11, G := fun _ => True, A := fun _ => [.agg [.rs ds.length 3 (dcC ds), .rs ts.length 1 (ts.map stA)]], R := fun _ => .tuple [.agg [.int .i64 w1, .int .i64 w2], .int .i64 e], body := (by kernel_rfl), inj := (fun i j _ _ h => rfl), ok := (fun _ _ => ⟨rfl, hck⟩) },
    { I := List St, f := 30, G := fun l => l ∈ ts, A := fun l => [stA l], R := fun l => rsK (sortB (rgN0 l)), body := (by kernel_rfl), inj := (fun i j _ _ h => by simp only [List.cons.injEq, and_true] at h; rw [stA_inj h]), ok := (fun l hl => ⟨rfl, regsX_ok l (okTL_get ht1 _ hl).1 (okTL_get ht1 _ hl).2 (by have := sizeTL_mem ts _ hl; omega)⟩) }] rfl
  have q1 : ∀ H, acall Tryz.prog O H 11 [.agg [.rs ds.length 3 (dcC ds), .rs ts.length 1 (ts.map stA)]] = some (.tuple [.agg [.int .i64 w1, .int .i64 w2], .int .i64 e], H) := p1 () trivial
  have q2 : ∀ l ∈ ts, ∀ H, acall Tryz.prog O H 30 [stA l] = some (rsK (sortB (rgN0 l)), H) := p2
  clear p1 p2 hck
  have hmd := mkD_ok ds.length hd
  have hmt := mkR_ok ts.length ht
  have hrd : ∀ k, allLt k (refsB (.cells (repl ds.length [.str [], .bool false, .int .i64 0]) 55) []) = true := fun k => by
    have : refsB (.cells (repl ds.length [.str [], .bool false, .int .i64 0]) 55) [] = [] := refsL_flat (repl_flat _ rfl _)
    rw [this]; rfl
  have hrt : ∀ k, allLt k (refsB (.cells (repl ts.length [.nslice]) 42) []) = true := fun k => by
    have : refsB (.cells (repl ts.length [.nslice]) 42) [] = [] := refsL_flat (repl_flat _ rfl _)
    rw [this]; rfl
  unfold tabR
  cases he : e == 0 with
  | false =>
    have e1 : (e != 0) = true := bne_of he
    refine resw2 (a := .agg [.nslice, .nslice]) ?_ rfl
    refine fn_val follows noNum hO Tryz.func12 rfl ?_
    repeat' ((conv => whnf); first | (with_reducible refine exI (q1 _) ?_) | (first | refine stp ?_ | with_reducible refine condB (fun h => ?_) (fun h => ?_)))
    all_goals rfl
  | true =>
    have e1 : (e != 0) = false := bne_of he
    refine fn_val follows noNum hO Tryz.func12 rfl ?_
    repeat' ((conv => whnf); first | (with_reducible refine exI (q1 _) ?_) | (rw [mkslF hmd]; rotate_left; (focus (rfl)); dsimp only; rw [if_pos (hrd _)]) | (rw [mkslF hmt]; rotate_left; (focus (rfl)); dsimp only; rw [if_pos (hrt _)]) | (refine exI (copyD6 ds _ _ _ _ _) ?_) | (first | refine stp ?_ | with_reducible refine condB (fun h => ?_) (fun h => ?_)))
    conv => whnf
    refine ⟨Nat, (fun i => i ≤ ts.length), (fun i => [(2, .ptr 0 0), (6, .ptr 3 0), (33, .rs ts.length 1 (ts.map stA)), (34, .int .i64 ts.length), (35, .int .i64 i)]), (fun i => [⟨true, 0, 0, .cells [.nslice, .nslice] 38⟩, ⟨true, 1, 0, .cells (dcC ds) 55⟩, ⟨true, 2, 0, .cells (rgAt ts i) 42⟩, ⟨true, 3, 0, .cells [.slice 1 0 ds.length ds.length 3, .slice 2 0 ts.length ts.length 1] 38⟩]), (fun i => ts.length - i), ⟨0, Nat.zero_le _, FgL.mk [1, 3, 4, 5] rfl ?_ ⟨⟨rfl, rfl, rfl, rfl, BodyGe.pre (rest := []) rfl rfl⟩, ⟨rfl, rfl, rfl, rfl, BodyGe.pre (rest := []) (by simp) (refsL_flat (flat12 (dcC_flat _)))⟩, ⟨rfl, rfl, rfl, rfl, BodyGe.pre (rest := []) (by rw [rgAt_zero]; simp) (rgAt_refs _ _)⟩, ⟨rfl, rfl, rfl, rfl, body2 (Wk.slice rfl rfl rfl (Nat.le_refl _) (Nat.le_refl _) rfl) (Wk.slice rfl rfl rfl (Nat.le_refl _) (Nat.le_refl _) rfl)⟩, trivial⟩ rfl⟩, ?_⟩
    · (repeat (first | exact trivial | refine stw ?_))
    intro i hi
    dsimp only
    by_cases hlt : i < ts.length
    · have e2 : decide ((i : Int) < (ts.length : Int)) = true := by simpa using hlt
      have hx := th1 ts i hlt
      have hsp := rgAt_set ts i (0 + i * 1) hlt (by omega)
      have q3 := q2 ts[i] (get_mem hlt)
      generalize hnx : rgAt ts (i + 1) = nx at *
      generalize sortB (rgN0 ts[i]) = v at *
      generalize ts[i] = x at *
      simp only [stA, rsK] at hx hsp q3
      repeat' ((conv => whnf); first | (with_reducible refine exI (q3 _) ?_) | (with_reducible refine ixJ i rfl ?_ ?_; (focus (omega))) | (refine exI hx ?_) | (refine exI hsp ?_) | (first | refine stp ?_ | with_reducible refine condB (fun h => ?_) (fun h => ?_)))
      conv => whnf
      refine ⟨i + 1, hlt, by show ts.length - (i + 1) < ts.length - i; omega, FgL.mk [0, 1, 2, 3] rfl ?_ ⟨⟨rfl, rfl, rfl, rfl, BodyGe.pre (rest := []) rfl rfl⟩, ⟨rfl, rfl, rfl, rfl, BodyGe.pre (rest := []) (by simp) (refsL_flat (flat12 (dcC_flat _)))⟩, ⟨rfl, rfl, rfl, rfl, BodyGe.pre (rest := []) (by rw [hnx]; simp) (rgAt_refs _ _)⟩, ⟨rfl, rfl, rfl, rfl, body2 (Wk.slice rfl rfl rfl (Nat.le_refl _) (Nat.le_refl _) rfl) (Wk.slice rfl rfl rfl (Nat.le_refl _) (Nat.le_refl _) rfl)⟩, trivial⟩ rfl⟩
      (repeat (first | exact trivial | refine stw ?_))
    · have e2 : decide ((i : Int) < (ts.length : Int)) = false := by simpa using hlt
      have hi2 : i = ts.length := by have := hi; omega
      subst hi2
      rw [rgAt_all]
      repeat' ((conv => whnf); first | refine stp ?_ | with_reducible refine condB (fun h => ?_) (fun h => ?_))
      conv => whnf
      refine ⟨_, frz_tup2 (frz_agg2 (n := 28) (frz_sliceF (n := 26) (b := 1) rfl (dcC_len ds) (dcC_flat ds)) (frz_sliceF (n := 26) (b := 2) rfl (by simp [rgT]) (rk_flat _))), ?_⟩
      simp only [cond_true, tabC, rgT_len]
end Go.Proofs.YtblnhcafobifgaaGreatDoor.lex
end


section

set_option linter.unusedVariables false
set_option linter.unusedSimpArgs false
namespace Go.Proofs.YtblnhcafobifgaaGreatDoor.lex
open Go.Abs Go.RowKit
set_option maxRecDepth 100000
set_option maxHeartbeats 4000000
def QE (us : List AV) : Prop := ∃ e : Ex, us = e.cells ∧ okE e
def QEL (us : List AV) : Prop := ∃ l : List Ex, us = [exA l] ∧ okL l ∧ l.length ≤ maxLen
def QI (us : List AV) : Prop := ∃ n, us = [.int .i64 n] ∧ (Lit.int .i64 n).wf = true
def QB (us : List AV) : Prop := ∃ b, us = [.bool b]
def QT (us : List AV) : Prop := ∃ s : List UInt8, us = [.str s] ∧ s.length ≤ maxLen
def QS (us : List AV) : Prop := ∃ e : St, us = e.cells ∧ okS e
def QSL (us : List AV) : Prop := ∃ l : List St, us = [stA l] ∧ okSL l ∧ l.length ≤ maxLen
def QTL (us : List AV) : Prop := ∃ l : List (List St), us = [.rs l.length 1 (l.map stA)] ∧ okTL l ∧ l.length ≤ maxLen
def QD (us : List AV) : Prop := ∃ d : Dc, us = d.cells ∧ d.name.length ≤ 9223372036854775807
def QDL (us : List AV) : Prop := ∃ l : List Dc, us = [.rs l.length 3 (dcC l)] ∧ okD l
theorem ex_list : ∀ l : List (List AV), (∀ u ∈ l, QE u ∧ u.length = 4) → ∃ m : List Ex, l.flatten = exC m ∧ l.length = m.length ∧ okL m
  | [], _ => ⟨[], by simp only [exC, List.flatten_nil], rfl, trivial⟩
  | u :: l, h => by
    obtain ⟨m, h1, h2, h3⟩ := ex_list l fun v hv => h v (by simp [hv])
    obtain ⟨⟨e, rfl, h4⟩, _⟩ := h u (by simp)
    exact ⟨e :: m, by simp only [List.flatten_cons, exC, h1], by simp [h2], by simp only [okL]; exact ⟨h4, h3⟩⟩
theorem st_list : ∀ l : List (List AV), (∀ u ∈ l, QS u ∧ u.length = 7) → ∃ m : List St, l.flatten = stC m ∧ l.length = m.length ∧ okSL m
  | [], _ => ⟨[], by simp only [stC, List.flatten_nil], rfl, trivial⟩
  | u :: l, h => by
    obtain ⟨m, h1, h2, h3⟩ := st_list l fun v hv => h v (by simp [hv])
    obtain ⟨⟨e, rfl, h4⟩, _⟩ := h u (by simp)
    exact ⟨e :: m, by simp only [List.flatten_cons, stC, h1], by simp [h2], by simp only [okSL]; exact ⟨h4, h3⟩⟩
theorem dc_list : ∀ l : List (List AV), (∀ u ∈ l, QD u ∧ u.length = 3) → ∃ m : List Dc, l.flatten = dcC m ∧ l.length = m.length ∧ ∀ d ∈ m, d.name.length ≤ 9223372036854775807
  | [], _ => ⟨[], by simp only [dcC, List.flatten_nil], rfl, by simp⟩
  | u :: l, h => by
    obtain ⟨m, h1, h2, h3⟩ := dc_list l fun v hv => h v (by simp [hv])
    obtain ⟨⟨e, rfl, h4⟩, _⟩ := h u (by simp)
    exact ⟨e :: m, by simp only [List.flatten_cons, dcC, h1], by simp [h2], fun d hd => by rcases List.mem_cons.1 hd with rfl | hd; exact h4; exact h3 d hd⟩
theorem th_list : ∀ l : List (List AV), (∀ u ∈ l, QSL u ∧ u.length = 1) → ∃ m : List (List St), l.flatten = m.map stA ∧ l.length = m.length ∧ okTL m
  | [], _ => ⟨[], by simp only [List.map_nil, List.flatten_nil], rfl, trivial⟩
  | u :: l, h => by
    obtain ⟨m, h1, h2, h3⟩ := th_list l fun v hv => h v (by simp [hv])
    obtain ⟨⟨e, rfl, h4, h5⟩, _⟩ := h u (by simp)
    exact ⟨e :: m, by simp only [List.flatten_cons, List.map_cons, h1]; rfl, by simp [h2], by simp only [okTL]; exact ⟨h4, h5, h3⟩⟩
theorem fsE (N : Nat) (h : OpensB Tryz.prog N 62 QEL) : FsOpensB Tryz.prog N (match Tryz.prog.underlying 68 with | some (.struct fs) => fs.toList | _ => []) [QI, QI, QT, QEL] 0 (Tryz.prog.cellsOf 68) := by
  rw [Tryz.underlying68]
  refine ⟨rfl, .of (opens_int Tryz.underlying3), ?_⟩
  refine ⟨by kernel_rfl, .of (opens_int Tryz.underlying2), ?_⟩
  refine ⟨by kernel_rfl, .of (opens_str Tryz.underlying9), ?_⟩
  refine ⟨by kernel_rfl, h, ?_⟩
  unfold FsOpensB; kernel_rfl
theorem q_e {us : List AV} (h : FsQ [QI, QI, QT, QEL] us) : QE us := by
  obtain ⟨a, u1, rfl, ⟨n1, rfl, _⟩, b, u2, rfl, ⟨n2, rfl, _⟩, c, u3, rfl, ⟨s, rfl, hs⟩, d, u4, rfl, ⟨k, rfl, hk, hkl⟩, h3⟩ := h
  have h3 : u4 = [] := h3
  subst h3
  exact ⟨.mk n1 n2 s k, by simp only [Ex.cells]; rfl, by simp only [okE, okN]; exact ⟨⟨hs, hkl⟩, hk⟩⟩
theorem opensE : ∀ N, OpensB Tryz.prog N 68 QE ∧ OpensB Tryz.prog N 62 QEL
  | 0 => ⟨opensB_zero, opensB_zero⟩
  | N + 1 => by
    obtain ⟨h1, h2⟩ := opensE N
    have h3 := fsE N h2
    rw [Tryz.underlying68] at h3
    refine ⟨(opensB_struct Tryz.underlying68 h3).mono fun u hu => q_e hu, (opensB_slice Tryz.underlying62 (by kernel_rfl) (show (4 : Nat) ≠ 0 by decide) h1).mono ?_⟩
    rintro u ⟨l, hl, rfl, hll⟩
    obtain ⟨m, e1, e2, e3⟩ := ex_list l hl
    exact ⟨m, by rw [e1, e2]; rfl, e3, by rw [← e2]; exact hll⟩
theorem fsS (N : Nat) (h : OpensB Tryz.prog N 35 QSL) : FsOpensB Tryz.prog N (match Tryz.prog.underlying 64 with | some (.struct fs) => fs.toList | _ => []) [QI, QT, QT, QI, QEL, QSL, QSL] 0 (Tryz.prog.cellsOf 64) := by
  rw [Tryz.underlying64]
  refine ⟨rfl, .of (opens_int Tryz.underlying3), ?_⟩
  refine ⟨by kernel_rfl, .of (opens_str Tryz.underlying9), ?_⟩
  refine ⟨by kernel_rfl, .of (opens_str Tryz.underlying9), ?_⟩
  refine ⟨by kernel_rfl, .of (opens_int Tryz.underlying3), ?_⟩
  refine ⟨by kernel_rfl, (opensE N).2, ?_⟩
  refine ⟨by kernel_rfl, h, ?_⟩
  refine ⟨by kernel_rfl, h, ?_⟩
  unfold FsOpensB; kernel_rfl
theorem q_s {us : List AV} (h : FsQ [QI, QT, QT, QI, QEL, QSL, QSL] us) : QS us := by
  obtain ⟨a, u1, rfl, ⟨n1, rfl, _⟩, b, u2, rfl, ⟨s1, rfl, hs1⟩, c, u3, rfl, ⟨s2, rfl, hs2⟩, d, u4, rfl, ⟨n2, rfl, _⟩, e, u5, rfl, ⟨x, rfl, hx, hxl⟩, f, u6, rfl, ⟨t, rfl, ht, htl⟩, g, u7, rfl, ⟨k, rfl, hk, hkl⟩, h3⟩ := h
  have h3 : u7 = [] := h3
  subst h3
  exact ⟨.mk n1 s1 s2 n2 x t k, by simp only [St.cells, stA]; rfl, by simp only [okS, okN]; exact ⟨⟨hs1, hxl⟩, ⟨hs2, htl⟩, hkl, hx, ht, hk⟩⟩
theorem opensS : ∀ N, OpensB Tryz.prog N 64 QS ∧ OpensB Tryz.prog N 35 QSL
  | 0 => ⟨opensB_zero, opensB_zero⟩
  | N + 1 => by
    obtain ⟨h1, h2⟩ := opensS N
    have h3 := fsS N h2
    rw [Tryz.underlying64] at h3
    refine ⟨(opensB_struct Tryz.underlying64 h3).mono fun u hu => q_s hu, (opensB_slice Tryz.underlying35 (by kernel_rfl) (show (7 : Nat) ≠ 0 by decide) h1).mono ?_⟩
    rintro u ⟨l, hl, rfl, hll⟩
    obtain ⟨m, e1, e2, e3⟩ := st_list l hl
    exact ⟨m, by rw [e1, e2]; rfl, e3, by rw [← e2]; exact hll⟩
theorem fsD : FsOpens Tryz.prog (match Tryz.prog.underlying 55 with | some (.struct fs) => fs.toList | _ => []) [QT, QB, QI] 0 (Tryz.prog.cellsOf 55) := by
  rw [Tryz.underlying55]
  refine ⟨rfl, opens_str Tryz.underlying9, ?_⟩
  refine ⟨by kernel_rfl, opens_bool Tryz.underlying4, ?_⟩
  refine ⟨by kernel_rfl, opens_int Tryz.underlying2, ?_⟩
  unfold FsOpens; kernel_rfl
theorem q_d {us : List AV} (h : FsQ [QT, QB, QI] us) : QD us := by
  obtain ⟨a, u1, rfl, ⟨s, rfl, hs⟩, b, u2, rfl, ⟨n1, rfl⟩, c, u3, rfl, ⟨n2, rfl, _⟩, h3⟩ := h
  have h3 : u3 = [] := h3
  subst h3
  exact ⟨⟨s, n1, n2⟩, rfl, hs⟩
theorem opensDL : Opens Tryz.prog 26 QDL := by
  have h3 := fsD
  rw [Tryz.underlying55] at h3
  refine opens_mono (opens_slice Tryz.underlying26 (by kernel_rfl) (show (3 : Nat) ≠ 0 by decide) (opens_mono (opens_struct Tryz.underlying55 h3) fun u hu => q_d hu)) ?_
  rintro u ⟨l, hl, rfl, hll⟩
  obtain ⟨m, e1, e2, e3⟩ := dc_list l hl
  exact ⟨m, by rw [e1, e2], by rw [← e2]; exact hll, e3⟩
theorem opensTL : Opens Tryz.prog 27 QTL := by
  refine opens_mono (opens_slice Tryz.underlying27 (by kernel_rfl) (show (1 : Nat) ≠ 0 by decide) (OpensB.all fun N => (opensS N).2)) ?_
  rintro u ⟨l, hl, rfl, hll⟩
  obtain ⟨m, e1, e2, e3⟩ := th_list l hl
  exact ⟨m, by rw [e1, e2], e3, by rw [← e2]; exact hll⟩
theorem fsP : FsOpens Tryz.prog (match Tryz.prog.underlying 29 with | some (.struct fs) => fs.toList | _ => []) [QDL, QTL] 0 (Tryz.prog.cellsOf 29) := by
  rw [Tryz.underlying29]
  refine ⟨rfl, opensDL, ?_⟩
  refine ⟨by kernel_rfl, opensTL, ?_⟩
  unfold FsOpens; kernel_rfl
theorem opensP : OpensV Tryz.prog 29 fun u => ∃ p : Pr, u = p.av ∧ okP p := by
  have h3 := fsP
  rw [Tryz.underlying29] at h3
  refine opensV_mono (opensV_struct Tryz.underlying29 h3) ?_
  rintro u ⟨us, rfl, a, u1, rfl, ⟨ds, rfl, hd⟩, b, u2, rfl, ⟨ts, rfl, ht, htl⟩, h4⟩
  have h4 : u2 = [] := h4
  subst h4
  exact ⟨⟨ds, ts⟩, rfl, hd, ht, htl⟩
end Go.Proofs.YtblnhcafobifgaaGreatDoor.lex
end


section

set_option linter.unusedVariables false
set_option linter.unusedSimpArgs false
namespace Go.Proofs.YtblnhcafobifgaaGreatDoor.lex
open Go.Abs Go.RowKit
theorem firstO_none {α : Type} {g : Nat → Option α} : ∀ {n : Nat}, firstO g n = none ↔ ∀ i, i < n → g i = none
  | 0 => by simp [firstO]
  | n + 1 => by
    constructor
    · intro h i hi
      cases h1 : firstO g n with
      | some a => simp only [firstO, h1] at h; cases h
      | none =>
        rcases Nat.lt_or_eq_of_le (Nat.le_of_lt_succ hi) with h2 | h2
        · exact firstO_none.1 h1 i h2
        · subst h2; simpa only [firstO, h1] using h
    · intro h
      have h1 : firstO g n = none := firstO_none.2 fun i hi => h i (by omega)
      simp only [firstO, h1]
      exact h n (by omega)
theorem firstO_some {α : Type} {g : Nat → Option α} {a : α} : ∀ {n : Nat}, firstO g n = some a → ∃ i, i < n ∧ g i = some a
  | 0, h => by cases h
  | n + 1, h => by
    cases h1 : firstO g n with
    | some b =>
      simp only [firstO, h1] at h
      obtain ⟨i, hi, hg⟩ := firstO_some h1
      exact ⟨i, by omega, by rw [hg]; exact h⟩
    | none => simp only [firstO, h1] at h; exact ⟨n, by omega, h⟩
mutual
theorem nbS_num (f : St → Int) : ∀ (x : St) (m m' : Nat), (nbS f x m).2 = (nbS f x m').2
  | .mk k n l o x t e, m, m' => by
    simp only [nbS, thenN]
    cases f (.mk k n l o x t e) == 0 with
    | false => rfl
    | true =>
      simp only [cond_true]
      rw [nbSL_num f t (m + 1) (m' + 1)]
      cases h : (nbSL f t (m' + 1)).2 == 0 with
      | true => simp only [cond_true]; exact nbSL_num f e _ _
      | false => simp only [cond_false]; exact nbSL_num f t _ _
theorem nbSL_num (f : St → Int) : ∀ (l : List St) (m m' : Nat), (nbSL f l m).2 = (nbSL f l m').2
  | [], m, m' => rfl
  | x :: l, m, m' => by
    simp only [nbSL, thenN]
    rw [nbS_num f x m m']
    cases h : (nbS f x m').2 == 0 with
    | true => simp only [cond_true]; exact nbSL_num f l _ _
    | false => simp only [cond_false]; exact nbS_num f x _ _
end
theorem nb_mem (f : St → Int) : ∀ (l : List St) (m : Nat), (nbSL f l m).2 = 0 ↔ ∀ x ∈ l, (nbS f x 0).2 = 0
  | [], m => by simp [nbSL]
  | x :: l, m => by
    have h2 := nb_mem f l (nbS f x m).1
    simp only [nbSL, thenN, List.forall_mem_cons]
    rw [nbS_num f x 0 m, ← h2]
    cases h : (nbS f x m).2 == 0 with
    | true => have : (nbS f x m).2 = 0 := by simpa using h
              simp only [cond_true, this, true_and]
    | false => have : (nbS f x m).2 ≠ 0 := by simpa using h
               simp only [cond_false, this, false_and]
theorem rightTL_mem : ∀ (ts : List (List St)), rightTL ts = true ↔ ∀ l ∈ ts, rightSL l = true
  | [] => by simp [rightTL]
  | l :: t => by simp only [rightTL, Bool.and_eq_true, List.forall_mem_cons, rightTL_mem t]
structure Gd (ds : List Dc) (ts : List (List St)) : Prop where
  size : sizeTL ts ≤ 2000
  deep : deepTL ts ≤ 32
  dec : ds.all dcB = true
  right : ∀ l ∈ ts, rightSL l = true
  long : longP ds.length ts.length = false
  dd : firstO (gD ds) ds.length = none
  each : ∀ l ∈ ts, (nbSL (oneR ds) l 0).2 = 0
  reg : ∀ l ∈ ts, (sortB (rgN0 l)).length ≤ 16
theorem checkP_zero (p : Pr) : checkP p = 0 ↔ (sizeTL p.threads ≤ 2000 ∧ deepTL p.threads ≤ 32) ∧ p.decls.all dcB = true ∧ rightTL p.threads = true := by
  unfold checkP
  split
  · rename_i h; constructor
    · intro h2; cases h2
    · intro h2; omega
  · rename_i h
    have h' : sizeTL p.threads ≤ 2000 ∧ deepTL p.threads ≤ 32 := by omega
    split
    · rename_i h2; simp only [Bool.and_eq_true] at h2; exact ⟨fun _ => ⟨h', h2⟩, fun _ => rfl⟩
    · rename_i h2; simp only [Bool.and_eq_true] at h2; exact ⟨fun h => absurd h (by decide), fun h => absurd h.2 h2⟩
theorem gT_none {f : St → Int} {ts : List (List St)} {i : Nat} (h : i < ts.length) : gT f ts i = none ↔ (nbSL f ts[i] 0).2 = 0 := by
  rw [gT_at h]
  cases h2 : (nbSL f ts[i] 0).2 == 0 with
  | true => have : (nbSL f ts[i] 0).2 = 0 := by simpa using h2
            simp only [cond_true, this]
  | false => have : (nbSL f ts[i] 0).2 ≠ 0 := by simpa using h2
             simp [this]
theorem gR_none {ts : List (List St)} {i : Nat} (h : i < ts.length) : gR ts i = none ↔ (sortB (rgN0 ts[i])).length ≤ 16 := by
  rw [gR_at h]
  cases h2 : decide (16 < (sortB (rgN0 ts[i])).length) with
  | true => have : 16 < (sortB (rgN0 ts[i])).length := by simpa using h2
            simp; omega
  | false => have : ¬ 16 < (sortB (rgN0 ts[i])).length := by simpa using h2
             simp; omega
theorem all_at {ts : List (List St)} {P : List St → Prop} : (∀ l ∈ ts, P l) ↔ ∀ i (h : i < ts.length), P ts[i] :=
  ⟨fun h i hi => h _ (List.getElem_mem hi), fun h l hl => by obtain ⟨i, hi, rfl⟩ := List.getElem_of_mem hl; exact h i hi⟩
theorem gd_iff (p : Pr) : (chkW p).2.2 = 0 ↔ Gd p.decls p.threads := by
  obtain ⟨ds, ts⟩ := p
  have hz := checkP_zero ⟨ds, ts⟩
  unfold chkW chkF
  simp only at hz ⊢
  constructor
  · intro h
    cases h0 : checkP ⟨ds, ts⟩ == 0 with
    | false => rw [h0] at h; simp only [cond_false] at h; rw [h] at h0; cases h0
    | true =>
      rw [h0] at h
      simp only [cond_true] at h
      have h0 : checkP ⟨ds, ts⟩ = 0 := by simpa using h0
      obtain ⟨⟨z1, z2⟩, z3, z4⟩ := hz.1 h0
      cases h1 : longP ds.length ts.length with
      | true => rw [h1] at h; simp at h
      | false =>
        rw [h1] at h
        simp only [cond_false] at h
        cases h2 : firstO (gD ds) ds.length with
        | some r =>
          rw [h2] at h
          obtain ⟨i, hi, hg⟩ := firstO_some h2
          rw [gD_at hi] at hg
          cases hn : noD ds[i].name (ds.take i) with
          | true => rw [hn] at hg; cases hg
          | false => rw [hn] at hg; cases hg; simp at h
        | none =>
          rw [h2] at h
          simp only at h
          cases h3 : firstO (gT (oneR ds) ts) ts.length with
          | some r =>
            rw [h3] at h
            obtain ⟨i, hi, hg⟩ := firstO_some h3
            rw [gT_at hi] at hg
            cases hn : (nbSL (oneR ds) ts[i] 0).2 == 0 with
            | true => rw [hn] at hg; cases hg
            | false =>
              rw [hn] at hg
              cases hg
              simp only at h
              rw [h] at hn; cases hn
          | none =>
            rw [h3] at h
            simp only at h
            cases h4 : firstO (gR ts) ts.length with
            | some r =>
              rw [h4] at h
              obtain ⟨i, hi, hg⟩ := firstO_some h4
              rw [gR_at hi] at hg
              cases hn : decide (16 < (sortB (rgN0 ts[i])).length) with
              | true => rw [hn] at hg; cases hg; simp at h
              | false => rw [hn] at hg; cases hg
            | none =>
              exact ⟨z1, z2, z3, (rightTL_mem ts).1 z4, h1, h2, all_at.2 fun i hi => (gT_none hi).1 (firstO_none.1 h3 i hi), all_at.2 fun i hi => (gR_none hi).1 (firstO_none.1 h4 i hi)⟩
  · intro g
    have e0 : checkP ⟨ds, ts⟩ = 0 := hz.2 ⟨⟨g.size, g.deep⟩, g.dec, (rightTL_mem ts).2 g.right⟩
    have e3 : firstO (gT (oneR ds) ts) ts.length = none := firstO_none.2 fun i hi => (gT_none hi).2 (g.each _ (List.getElem_mem hi))
    have e4 : firstO (gR ts) ts.length = none := firstO_none.2 fun i hi => (gR_none hi).2 (g.reg _ (List.getElem_mem hi))
    rw [e0, g.long, g.dd, e3, e4]
    rfl
theorem sizeTL_app : ∀ (a b : List (List St)), sizeTL (a ++ b) = sizeTL a + sizeTL b
  | [], b => by simp [sizeTL]
  | l :: a, b => by simp only [List.cons_append, sizeTL, sizeTL_app a b]; omega
theorem deepTL_app : ∀ (a b : List (List St)), deepTL (a ++ b) = max (deepTL a) (deepTL b)
  | [], b => by simp [deepTL]
  | l :: a, b => by simp only [List.cons_append, deepTL, deepTL_app a b]; omega
theorem sizeTL_rev : ∀ ts : List (List St), sizeTL ts.reverse = sizeTL ts
  | [] => rfl
  | l :: t => by rw [List.reverse_cons, sizeTL_app, sizeTL_rev t]; simp only [sizeTL]; omega
theorem deepTL_rev : ∀ ts : List (List St), deepTL ts.reverse = deepTL ts
  | [] => rfl
  | l :: t => by rw [List.reverse_cons, deepTL_app, deepTL_rev t]; simp only [deepTL]; omega
theorem Gd.rev {ds : List Dc} {ts : List (List St)} (g : Gd ds ts) : Gd ds ts.reverse where
  size := by rw [sizeTL_rev]; exact g.size
  deep := by rw [deepTL_rev]; exact g.deep
  dec := g.dec
  right := fun l hl => g.right l (List.mem_reverse.1 hl)
  long := by rw [List.length_reverse]; exact g.long
  dd := g.dd
  each := fun l hl => g.each l (List.mem_reverse.1 hl)
  reg := fun l hl => g.reg l (List.mem_reverse.1 hl)
theorem okTL_mem : ∀ {t : List (List St)}, (∀ l ∈ t, okSL l ∧ l.length ≤ 9223372036854775807) → okTL t
  | [], _ => trivial
  | l :: t, h => by
    have h1 := h l (by simp)
    exact ⟨h1.1, h1.2, okTL_mem fun x hx => h x (by simp [hx])⟩
def lessS (l : List St) (k : Nat) : List St := l.take k ++ l.drop (k + 1)
theorem lessS_mem {l : List St} {k : Nat} {x : St} (h : x ∈ lessS l k) : x ∈ l := by
  rcases List.mem_append.1 h with h | h
  · exact List.mem_of_mem_take h
  · exact List.mem_of_mem_drop h
theorem lessS_cons (x : St) (l : List St) (k : Nat) : lessS (x :: l) (k + 1) = x :: lessS l k := by simp [lessS]
theorem lessS_size : ∀ (l : List St) (k : Nat), sizeSL (lessS l k) ≤ sizeSL l
  | [], k => by simp [lessS]
  | x :: l, 0 => by simp [lessS, sizeSL]
  | x :: l, k + 1 => by rw [lessS_cons]; have := lessS_size l k; simp only [sizeSL]; omega
theorem lessS_deep : ∀ (l : List St) (k : Nat), deepSL (lessS l k) ≤ deepSL l
  | [], k => by simp [lessS]
  | x :: l, 0 => by simp only [lessS, List.take_zero, List.nil_append, List.drop_succ_cons, List.drop_zero, deepSL]; omega
  | x :: l, k + 1 => by rw [lessS_cons]; have := lessS_deep l k; simp only [deepSL]; omega
theorem rightSL_mem : ∀ (l : List St), rightSL l = true ↔ ∀ x ∈ l, rightS x = true
  | [] => by simp [rightSL]
  | x :: l => by simp only [rightSL, Bool.and_eq_true, List.forall_mem_cons, rightSL_mem l]
theorem nmSL_mem {s : List UInt8} : ∀ (l : List St), s ∈ nmSL l ↔ ∃ x ∈ l, s ∈ nmS x
  | [] => by simp [nmSL]
  | x :: l => by simp only [nmSL, List.mem_append, nmSL_mem l, List.mem_cons, exists_eq_or_imp]
theorem nodup_len {α : Type} : ∀ {a b : List α}, a.Nodup → (∀ x ∈ a, x ∈ b) → a.length ≤ b.length
  | [], b, _, _ => Nat.zero_le _
  | x :: a, b, hn, h => by
    obtain ⟨s, t, rfl⟩ := List.append_of_mem (h x (by simp))
    have hn := List.nodup_cons.1 hn
    have := nodup_len (a := a) (b := s ++ t) hn.2 fun y hy => by
      have := h y (by simp [hy])
      simp only [List.mem_append, List.mem_cons] at this ⊢
      rcases this with h1 | rfl | h1
      · exact .inl h1
      · exact absurd hy hn.1
      · exact .inr h1
    simp only [List.length_append, List.length_cons] at this ⊢
    omega
theorem regs_len (l : List St) : (sortB (rgN0 l)).length = (rgN0 l).length := (sortB_perm _).length_eq
theorem lessS_regs (l : List St) (k : Nat) : (sortB (rgN0 (lessS l k))).length ≤ (sortB (rgN0 l)).length := by
  rw [regs_len, regs_len]
  refine nodup_len (addA_nodup _ _ List.nodup_nil) fun s hs => ?_
  unfold rgN0 at hs ⊢
  rw [addA_mem] at hs ⊢
  rcases hs with hs | hs
  · cases hs
  · obtain ⟨x, hx, hn⟩ := (nmSL_mem _).1 hs
    exact .inr ((nmSL_mem _).2 ⟨x, lessS_mem hx, hn⟩)
theorem sizeTL_set : ∀ (ts : List (List St)) (t : Nat) (l : List St) (h : t < ts.length), sizeSL l ≤ sizeSL ts[t] → sizeTL (ts.set t l) ≤ sizeTL ts
  | x :: ts, 0, l, h, hl => by simp only [List.getElem_cons_zero] at hl; simp only [List.set_cons_zero, sizeTL]; omega
  | x :: ts, t + 1, l, h, hl => by
    have := sizeTL_set ts t l (by simpa using h) (by simpa using hl)
    simp only [List.set_cons_succ, sizeTL]; omega
theorem deepTL_set : ∀ (ts : List (List St)) (t : Nat) (l : List St) (h : t < ts.length), deepSL l ≤ deepSL ts[t] → deepTL (ts.set t l) ≤ deepTL ts
  | x :: ts, 0, l, h, hl => by simp only [List.getElem_cons_zero] at hl; simp only [List.set_cons_zero, deepTL]; omega
  | x :: ts, t + 1, l, h, hl => by
    have := deepTL_set ts t l (by simpa using h) (by simpa using hl)
    simp only [List.set_cons_succ, deepTL]; omega
theorem Gd.less {ds : List Dc} {ts : List (List St)} (g : Gd ds ts) {t k : Nat} (h : t < ts.length) : Gd ds (ts.set t (lessS ts[t] k)) where
  size := Nat.le_trans (sizeTL_set _ _ _ h (lessS_size _ _)) g.size
  deep := Nat.le_trans (deepTL_set _ _ _ h (lessS_deep _ _)) g.deep
  dec := g.dec
  right := fun l hl => by
    rcases List.mem_or_eq_of_mem_set hl with hl | rfl
    · exact g.right l hl
    · exact (rightSL_mem _).2 fun x hx => (rightSL_mem _).1 (g.right _ (List.getElem_mem h)) x (lessS_mem hx)
  long := by rw [List.length_set]; exact g.long
  dd := g.dd
  each := fun l hl => by
    rcases List.mem_or_eq_of_mem_set hl with hl | rfl
    · exact g.each l hl
    · exact (nb_mem _ _ _).2 fun x hx => (nb_mem _ _ _).1 (g.each _ (List.getElem_mem h)) x (lessS_mem hx)
  reg := fun l hl => by
    rcases List.mem_or_eq_of_mem_set hl with hl | rfl
    · exact g.reg l hl
    · exact Nat.le_trans (lessS_regs _ _) (g.reg _ (List.getElem_mem h))
theorem okSL_mem : ∀ {l : List St}, (∀ s ∈ l, okS s) → okSL l
  | [], _ => by simp [okSL]
  | x :: l, h => by
    simp only [okSL]
    exact ⟨h x (by simp), okSL_mem fun s hs => h s (by simp [hs])⟩
theorem lessS_len (l : List St) (k : Nat) : (lessS l k).length ≤ l.length := by
  simp only [lessS, List.length_append, List.length_take, List.length_drop]; omega
theorem okTL_set {ts : List (List St)} {t k : Nat} (hok : okTL ts) (h : t < ts.length) : okTL (ts.set t (lessS ts[t] k)) := okTL_mem fun l hl => by
  rcases List.mem_or_eq_of_mem_set hl with hl | rfl
  · exact okTL_get hok l hl
  · have := okTL_get hok _ (List.getElem_mem h)
    exact ⟨okSL_mem fun s hs => okSL_get this.1 s (lessS_mem hs), Nat.le_trans (lessS_len _ _) this.2⟩
theorem okTL_rev {ts : List (List St)} (hok : okTL ts) : okTL ts.reverse := okTL_mem fun l hl => okTL_get hok l (List.mem_reverse.1 hl)
end Go.Proofs.YtblnhcafobifgaaGreatDoor.lex
end


section

set_option linter.unusedVariables false
set_option linter.unusedSimpArgs false
namespace Go.Proofs.YtblnhcafobifgaaGreatDoor.lex
open Go.Abs Go.RowKit
set_option maxRecDepth 100000
variable {gl : Glob}
def pickZ (n : Int) (m : Nat) : Int := cond (decide (n.tmod m < 0)) (n.tmod m + m) (n.tmod m)
theorem pickZ_in (n : Int) {m : Nat} (h : 0 < m) : 0 ≤ pickZ n m ∧ pickZ n m < m := by
  have h1 := Int.tmod_lt_of_pos n (b := (m : Int)) (by omega)
  have h2 : -(m : Int) < n.tmod m := by
    have := Int.tmod_lt_of_pos (-n) (b := (m : Int)) (by omega)
    rw [Int.neg_tmod] at this; omega
  unfold pickZ
  cases h3 : decide (n.tmod m < 0) with
  | true => have := of_decide_eq_true h3; simp only [cond_true]; omega
  | false => have := of_decide_eq_false h3; simp only [cond_false]; omega
theorem pick_ok (n : Int) (m : Nat) (hm : 0 < m) (hm2 : m ≤ 9223372036854775807) : ValOK Tryz.prog gl 15 [.int .i64 n, .int .i64 m] (.int .i64 (pickZ n m)) := by
  refine fn_val follows noNum none_sound Tryz.func15 rfl ?_
  have h0 : (m : Int) ≠ 0 := by omega
  repeat' ((conv => whnf); first | (refine And.intro h0 ?_) | (first | refine stp ?_ | with_reducible refine condB (fun h => ?_) (fun h => ?_)))
  · show AV.int _ _ = AV.int _ _
    have h1 := pickZ_in n hm
    unfold pickZ at h1 ⊢
    rw [h] at h1 ⊢
    simp only [cond_true] at h1 ⊢
    rw [wrapB (by omega) (by omega)]
  · show AV.int _ _ = AV.int _ _
    unfold pickZ
    rw [h]; rfl
end Go.Proofs.YtblnhcafobifgaaGreatDoor.lex
end


section

set_option linter.unusedVariables false
set_option linter.unusedSimpArgs false
namespace Go.Proofs.YtblnhcafobifgaaGreatDoor.lex
open Go.Abs Go.RowKit
set_option maxRecDepth 100000
set_option maxHeartbeats 4000000
open runLives (follows noNum)
section
open Classical
noncomputable def tab2 (g : Nat) (A1 A2 : List AV) (r1 r2 : AV) : Nat → List AV → Option AV := fun f fa => if f = g ∧ fa = A1 then some r1 else if f = g ∧ fa = A2 then some r2 else none
end
theorem tab2_1 (g : Nat) (A1 A2 : List AV) (r1 r2 : AV) : tab2 g A1 A2 r1 r2 g A1 = some r1 := by unfold tab2; exact if_pos ⟨rfl, rfl⟩
theorem tab2_2 (g : Nat) (A1 A2 : List AV) (r1 r2 : AV) (h : A2 = A1 → r2 = r1) : tab2 g A1 A2 r1 r2 g A2 = some r2 := by
  unfold tab2
  by_cases e : A2 = A1
  · rw [if_pos ⟨rfl, e⟩, h e]
  · rw [if_neg (fun x => e x.2), if_pos ⟨rfl, rfl⟩]
theorem chkW_ok {p : Pr} (h : (chkW p).2.2 = 0) : chkW p = (0, 0, 0) := by
  have g := (gd_iff p).1 h
  obtain ⟨ds, ts⟩ := p
  have e0 : checkP ⟨ds, ts⟩ = 0 := (checkP_zero ⟨ds, ts⟩).2 ⟨⟨g.size, g.deep⟩, g.dec, (rightTL_mem ts).2 g.right⟩
  have e3 : firstO (gT (oneR ds) ts) ts.length = none := firstO_none.2 fun i hi => (gT_none hi).2 (g.each _ (List.getElem_mem hi))
  have e4 : firstO (gR ts) ts.length = none := firstO_none.2 fun i hi => (gR_none hi).2 (g.reg _ (List.getElem_mem hi))
  unfold chkW chkF
  have e1 := g.long
  have e2 := g.dd
  simp only at e1 e2 ⊢
  rw [e0, e1, e2, e3, e4]
  rfl
theorem clLaw0 (p : Pr) (t k : Int) (hp : okP p) (h : lightP p ((3000 : Nat) : Int) = true → ¬ (chkW p).2.2 = 0) : ValOK Tryz.prog runLives.gl 4 [p.av, .int .i64 t, .int .i64 k] (.bool true) := by
  obtain ⟨W1, W2, E, hW⟩ : ∃ a b c, chkW p = (a, b, c) := ⟨_, _, _, rfl⟩
  have hc1 : sizeTL p.threads ≤ 800000 → _ := checkX_ok p hp
  rw [hW] at hc1 h
  simp only [resW] at hc1 h
  have hG : lightP p ((3000 : Nat) : Int) = true → sizeTL p.threads ≤ 800000 := fun h => by have := lightP_size p 3000 h; omega
  obtain ⟨O, hO, p1, p2, p3, -⟩ := fams (P := Tryz.prog) (gl := runLives.gl) [
    one0 (f := 7) (A := []) (R := .bool true) True (by kernel_rfl) rfl (fun _ => livesV),
    one0 (f := 10) (A := [p.av, .int .i64 3000]) (R := .bool (lightP p ((3000 : Nat) : Int))) True (by kernel_rfl) rfl (fun _ => lightP_ok p ((3000 : Nat) : Int) hp (by decide) (by decide)),
    one0 (f := 11) (A := [p.av]) (R := .tuple [.agg [.int .i64 W1, .int .i64 W2], .int .i64 E]) (lightP p ((3000 : Nat) : Int) = true) (by kernel_rfl) rfl (fun h => hc1 (hG h))] rfl
  have q1 : ∀ H, acall Tryz.prog O H 7 [] = some (.bool true, H) := p1 () trivial
  have q2 : ∀ H, acall Tryz.prog O H 10 [p.av, .int .i64 3000] = some (.bool (lightP p ((3000 : Nat) : Int)), H) := p2 () trivial
  have q3 : lightP p ((3000 : Nat) : Int) = true → ∀ H, acall Tryz.prog O H 11 [p.av] = some (.tuple [.agg [.int .i64 W1, .int .i64 W2], .int .i64 E], H) := p3 ()
  clear p1 p2 p3
  generalize lightP p ((3000 : Nat) : Int) = l1 at *
  obtain ⟨ds, ts⟩ := p
  cases l1 with
  | false =>
    simp only [Pr.av] at *
    refine fn_val follows noNum hO Tryz.func4 rfl ?_
    repeat' ((conv => whnf); first | (with_reducible refine exI (q1 _) ?_) | (with_reducible refine exI (q2 _) ?_) | (first | refine stp ?_ | with_reducible refine condB (fun h => ?_) (fun h => ?_)))
    all_goals rfl
  | true =>
    have r3 := q3 rfl
    clear q3
    have e1 : (E != 0) = true := by simpa using h rfl
    simp only [Pr.av] at *
    refine fn_val follows noNum hO Tryz.func4 rfl ?_
    repeat' ((conv => whnf); first | (with_reducible refine exI (q1 _) ?_) | (with_reducible refine exI (q2 _) ?_) | (with_reducible refine exI (r3 _) ?_) | (first | refine stp ?_ | with_reducible refine condB (fun h => ?_) (fun h => ?_)))
    all_goals rfl
end Go.Proofs.YtblnhcafobifgaaGreatDoor.lex
end


section

set_option linter.unusedSimpArgs false
set_option linter.unusedVariables false
namespace Go.Abs
open Go.RowKit
def orcE (fs : List Nat) (F : Nat → List AV → Option AV) : Orc := fun f args H => match frzL (frz (kil (fun _ o => !mem o.fam fs) 0 H) 30) args with
  | some az => match F f az with | some r => some (r, kil (fun _ o => mem o.fam fs) 0 H) | none => none
  | none => none
theorem orcE_sound {P : Program} {gl : Glob} {fs : List Nat} {F : Nat → List AV → Option AV} (h : ∀ f args r, F f args = some r → ValOK P gl f args r) : OrcSound P gl (orcE fs F) := by
  intro f args H r H' hf sn ι W cargs hg hR ha
  unfold orcE at hf
  split at hf <;> try (simp at hf; done)
  rename_i az has
  split at hf <;> simp at hf
  rename_i r' hr
  obtain ⟨rfl, rfl⟩ := hf
  have h2 := h f az r' hr
  generalize hHQ : kil (fun _ o => !mem o.fam fs) 0 H = HQ at has
  have inQ : ∀ (b : Nat) (o : AObj), HQ[b]? = some o → o.alive = true → H[b]? = some o ∧ mem o.fam fs = true := fun b o hb hal => by
    rw [← hHQ] at hb
    obtain ⟨o0, g1, _, _, g4⟩ := kil_some hb
    obtain ⟨rfl, g5⟩ := g4 hal
    exact ⟨g1, by simpa using g5⟩
  have hle : ∀ a v, sn a = some v → snO sn ι HQ W a = some v := fun a v hv => by
    unfold snO
    split
    · exact (hR.snap a v hv).2.1
    · exact hv
  have hcell : ∀ a v, snO sn ι HQ W a = some v → W.cell? a = some v := fun a v hv => by
    unfold snO at hv
    split at hv
    · exact hv
    · exact (hR.snap a v hv).2.1
  have hR' : R (snO sn ι HQ W) noI [] W :=
    ⟨fun b => ⟨fun hb => by simp at hb, fun ⟨p, hp⟩ => by simp [noI] at hp⟩, fun b p hp => by simp [noI] at hp, fun b o p hb => by simp at hb, fun b b' o o' p p' hb => by simp at hb,
      fun a v hv => ⟨cell_lt (hcell a v hv), hcell a v hv, fun b o p hb => by simp at hb⟩, fun b o p hb => by simp at hb⟩
  have hobjQ : ∀ (b : Nat) (o : AObj) p, HQ[b]? = some o → o.alive = true → ι b = some p → OR sn ι W o.body p := fun b o p hb hal hp => hR.obj b o p (inQ b o hb hal).1 hal hp
  have hargs : LR (snO sn ι HQ W) noI az cargs := frzL_sound (fun u r v => frz_sound2 hobjQ ⟨hle, fun _ _ h => h⟩ (fun b o p hb hal hp off v hv => by
    unfold snO; rw [if_pos ⟨b, o, p, hb, hal, hp, rfl⟩]; exact hv) 30 u r v) has ha
  refine (h2 _ W cargs (hg.mono (gl_le hle)) hR' hargs).monoY ?_
  rintro e W' ⟨v, rfl, hx, hv⟩
  generalize hs1 : snx (snO sn ι HQ W) W.heap.size W' = s1 at hv
  have h1lt : ∀ a, a.block < W.heap.size → s1 a = snO sn ι HQ W a := fun a ha => by rw [← hs1]; unfold snx; rw [if_pos ha]
  have h1ge : ∀ a, ¬ a.block < W.heap.size → s1 a = W'.cell? a := fun a ha => by rw [← hs1]; unfold snx; rw [if_neg ha]
  have hle1 : ∀ a v, sn a = some v → s1 a = some v := fun a v hv => by rw [h1lt a (hR.snap a v hv).1]; exact hle a v hv
  have hcell1 : ∀ a v, s1 a = some v → W'.cell? a = some v := fun a v hv => by
    by_cases hlt : a.block < W.heap.size
    · rw [h1lt a hlt] at hv
      have := hcell a v hv
      unfold World.cell? at this ⊢
      rw [hx.old _ hlt]; exact this
    · rw [h1ge a hlt] at hv; exact hv
  refine ⟨v, s1, ι, rfl, VR_noI hv, ⟨fun b => ⟨fun hb => ?_, fun ⟨p, hp⟩ => ?_⟩, fun b p hp => ?_, fun b o p hb hal hp => ?_, fun b b' o o' p p' hb hb' hp hp' e => ?_, fun a v hv => ?_, fun b o p hb hp e => ?_⟩, ⟨hle1, fun _ _ h => h⟩, fun b p hp => .inl hp, fun c hc _ => hx.old c hc, hx.size, hx.os, hx.tape, hx.output, fun a v hv => ?_, fun b o hb => ?_⟩
  · rw [kil_length] at hb; exact (hR.dom b).1 hb
  · rw [kil_length]; exact (hR.dom b).2 ⟨p, hp⟩
  · have := hR.blk b p hp; have := hx.size; omega
  · obtain ⟨o0, g1, _, _, h4⟩ := kil_some hb
    obtain ⟨rfl, _⟩ := h4 hal
    exact OR_mono ⟨hle1, fun _ _ h => h⟩ (hx.old _ (hR.blk b p hp)) (hR.obj b o p g1 hal hp)
  · obtain ⟨o0, g1, g2, g3, _⟩ := kil_some hb
    obtain ⟨o0', g1', g2', g3', _⟩ := kil_some hb'
    rw [g2, g3, g2', g3']
    exact hR.sep b b' o0 o0' p p' g1 g1' hp hp' e
  · refine ⟨cell_lt (hcell1 a v hv), hcell1 a v hv, fun b o p hb hal hp hne => ?_⟩
    obtain ⟨o0, g1, _, _, h4⟩ := kil_some hb
    obtain ⟨rfl, g5⟩ := h4 hal
    have hlt : a.block < W.heap.size := hne ▸ hR.blk b p hp
    rw [h1lt a hlt] at hv
    unfold snO at hv
    split at hv
    · rename_i hex
      obtain ⟨b', o', p', x1, x2, x3, x4⟩ := hex
      obtain ⟨y1, y2⟩ := inQ b' o' x1 x2
      have := (hR.sep b b' o o' p p' g1 y1 hp x3 (hne.trans x4.symm)).1
      rw [this, y2] at g5; cases g5
    · exact (hR.snap a v hv).2.2 b o p g1 hal hp hne
  · obtain ⟨o0, g1, g2, g3, _⟩ := kil_some hb
    exact hR.shz b o0 p g1 hp (by rw [← g3]; exact e)
  · by_cases hlt : a.block < W.heap.size
    · rw [h1lt a hlt] at hv
      unfold snO at hv
      split at hv
      · rename_i hex
        obtain ⟨b, o, p, x1, x2, x3, x4⟩ := hex
        exact .inr (.inr ⟨b, o, p, (inQ b o x1 x2).1, x2, x3, x4⟩)
      · exact .inl hv
    · exact .inr (.inl (by omega))
  · rw [kil_get, hb]
    simp only [Nat.zero_add, Option.map_some]
    refine ⟨_, rfl, ?_⟩
    split <;> simp [AObj.dead]
theorem callE {P : Program} {fs : List Nat} {F : Nat → List AV → Option AV} {H : AHeap} {g : Nat} {args fa : List AV} {r : AV} (h1 : hasBody P g = true) (h2 : frzL (frz (kil (fun _ o => !mem o.fam fs) 0 H) 30) args = some fa) (h3 : F g fa = some r) : acall P (orcE fs F) H g args = some (r, kil (fun _ o => mem o.fam fs) 0 H) := by
  simp only [acall, h1, if_true, orcE, h2, h3]
end Go.Abs
end


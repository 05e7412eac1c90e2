/-
  Texts of this proof, one behind the other (part 9).
-/
import Derived.Test.YtajhailaofchlaaDoorPack8

/-
  'lives', run by the kernel.
-/
section
set_option linter.unusedVariables false
namespace Go.Proofs.YtajhailaofchlaaDoor.runLives
open Go.RowKit Go.Abs
set_option maxRecDepth 100000
def isS (l : List (Nat × List AV)) : Nat → List AV → Bool := fun f args => Nat.beq f 64 || memA f args l
noncomputable def foS (l : List (Nat × List AV)) : FOrc := forcThen (fun f _ => Nat.beq f 64) (fsortO 64 84) (ftblO l)
def toS (l : List (Nat × List AV)) : Orc := orcIf (fun f _ => Nat.beq f 64) (sortO 64 84) (tblO l)
theorem simS (l : List (Nat × List AV)) : OrcSim (foS l) (toS l) := forcThen_sim (fsortO_sim 64 84) (ftblO_sim l)
theorem lives : saysTrue (frunG Tryd.prog gl (isS []) (foS []) 100000 100 8 [] TH.empty) = true := by kernel_rfl
theorem knownLives : OrcSound Tryd.prog gl (tblO [(8, [])]) := known_trueG follows noNum (simS []) (orcIf_sound shelf.sound tblO_nil) tblO_nil rfl lives

end Go.Proofs.YtajhailaofchlaaDoor.runLives
end

/-
  'cantileverlaw03.AstChecks': whatever it is handed, it says true.
-/
section
set_option linter.unusedVariables false
set_option linter.unusedSimpArgs false
namespace Go.Proofs.YtajhailaofchlaaDoor.lex
open Go.Abs Go.RowKit
set_option maxRecDepth 100000
set_option maxHeartbeats 4000000
theorem livesV : ValOK Tryd.prog runLives.gl 8 [] (.bool true) := by
  intro sn W cargs hg hR ha
  refine (runLives.knownLives 8 [] [] (.bool true) [] (by kernel_rfl) sn noI W cargs hg hR ha).mono ?_
  rintro e W' ⟨v, sn', ι', rfl, hv, hs⟩
  cases hv.bool
  exact ⟨_, rfl, Stq.ext (Stp.q (k := 0) hR hs), by simp [VR]⟩
abbrev rgl : Glob := runLives.gl
def one0 {gl : Glob} {f : Nat} {A : List AV} {R : AV} (G : Prop) (hb : hasBody Tryd.prog f = true) (hr : refsL A [] = []) (h : G → ValOK Tryd.prog gl f A R) : Fam Tryd.prog gl := { I := Unit, f := f, G := fun _ => G, A := fun _ => A, R := fun _ => R, body := hb, inj := (fun _ _ _ _ _ => rfl), ok := (fun _ hG => ⟨hr, h hG⟩) }
theorem e_refs (e : Ex) : refsL [.agg e.cells] [] = [] := by have := ex_refs e; simpa [refsL, refs] using this
theorem light_size (e : Ex) (h : 0 ≤ heftE e 3000) : sizeE e ≤ 1048576 := by have := heftE_size e 3000 h; omega
theorem acLaw (p : Pr) (e : Ex) (hp : okP p) (he : okE e) : ValOK Tryd.prog runLives.gl 4 [p.av, .agg e.cells] (.bool true) := by
  have hsz : lightP p 3000 = true → sizeTL p.threads ≤ 3000 := fun h => lightP_size p 3000 h
  obtain ⟨O, hO, p1, p2, p3, p4, p5, p6, p7, p8, p9, p10, p11, -⟩ := fams (P := Tryd.prog) (gl := runLives.gl) [
    one0 (f := 8) (A := []) (R := .bool true) True (by kernel_rfl) rfl (fun _ => livesV),
    one0 (f := 13) (A := [p.av, .int .i64 3000]) (R := .bool (lightP p 3000)) True (by kernel_rfl) rfl (fun _ => lightP_ok p 3000 hp (by omega) (by omega)),
    one0 (f := 14) (A := [.agg e.cells, .int .i64 3000]) (R := .bool (decide (0 ≤ heftE e 3000))) True (by kernel_rfl) (by have := ex_refs e; simpa [refsL, refs] using this) (fun _ => light_ok e 3000 he (by omega) (by omega)),
    one0 (f := 9) (A := [p.av]) (R := .int .i64 (checkP p)) (sizeTL p.threads ≤ 3000) (by kernel_rfl) rfl (fun h => checkPX_ok p hp (by omega)),
    one0 (f := 15) (A := [p.av]) (R := .int .i64 (checkP p)) (sizeTL p.threads ≤ 3000) (by kernel_rfl) rfl (fun h => checkPR_ok p hp (by omega)),
    one0 (f := 10) (A := [.agg e.cells]) (R := .int .i64 (checkE e)) (sizeE e ≤ 1048576) (by kernel_rfl) (e_refs e) (fun h => checkEX_ok e he h),
    one0 (f := 16) (A := [.agg e.cells]) (R := .int .i64 (checkE e)) (sizeE e ≤ 1048576) (by kernel_rfl) (e_refs e) (fun h => checkER_ok e he h),
    one0 (f := 17) (A := [p.av]) (R := .int .i64 (sizeTL p.threads)) (sizeTL p.threads ≤ 3000) (by kernel_rfl) rfl (fun h => sizePX_ok p hp (by omega)),
    one0 (f := 18) (A := [p.av]) (R := .int .i64 (sizeTL p.threads)) (sizeTL p.threads ≤ 3000) (by kernel_rfl) rfl (fun h => sizePR_ok p hp.2.2 (by omega)),
    one0 (f := 12) (A := [p.av]) (R := .int .i64 (deepTL p.threads)) (sizeTL p.threads ≤ 3000) (by kernel_rfl) rfl (fun h => deepPX_ok p hp (by omega)),
    one0 (f := 19) (A := [p.av]) (R := .int .i64 (deepTL p.threads)) (sizeTL p.threads ≤ 3000) (by kernel_rfl) rfl (fun h => deepPR_ok p hp.2.2 (by omega))] rfl
  have q1 : ∀ H, acall Tryd.prog O H 8 [] = some (.bool true, H) := p1 () trivial
  have q2 : ∀ H, acall Tryd.prog O H 13 [p.av, .int .i64 3000] = some (.bool (lightP p 3000), H) := p2 () trivial
  have q3 : ∀ H, acall Tryd.prog O H 14 [.agg e.cells, .int .i64 3000] = some (.bool (decide (0 ≤ heftE e 3000)), H) := p3 () trivial
  have q4 : sizeTL p.threads ≤ 3000 → ∀ H, acall Tryd.prog O H 9 [p.av] = some (.int .i64 (checkP p), H) := p4 ()
  have q5 : sizeTL p.threads ≤ 3000 → ∀ H, acall Tryd.prog O H 15 [p.av] = some (.int .i64 (checkP p), H) := p5 ()
  have q6 : sizeE e ≤ 1048576 → ∀ H, acall Tryd.prog O H 10 [.agg e.cells] = some (.int .i64 (checkE e), H) := p6 ()
  have q7 : sizeE e ≤ 1048576 → ∀ H, acall Tryd.prog O H 16 [.agg e.cells] = some (.int .i64 (checkE e), H) := p7 ()
  have q8 : sizeTL p.threads ≤ 3000 → ∀ H, acall Tryd.prog O H 17 [p.av] = some (.int .i64 (sizeTL p.threads), H) := p8 ()
  have q9 : sizeTL p.threads ≤ 3000 → ∀ H, acall Tryd.prog O H 18 [p.av] = some (.int .i64 (sizeTL p.threads), H) := p9 ()
  have q10 : sizeTL p.threads ≤ 3000 → ∀ H, acall Tryd.prog O H 12 [p.av] = some (.int .i64 (deepTL p.threads), H) := p10 ()
  have q11 : sizeTL p.threads ≤ 3000 → ∀ H, acall Tryd.prog O H 19 [p.av] = some (.int .i64 (deepTL p.threads), H) := p11 ()
  have hlight := light_size e
  clear p1 p2 p3 p4 p5 p6 p7 p8 p9 p10 p11
  generalize checkP p = c1 at *
  generalize checkE e = c2 at *
  generalize sizeTL p.threads = c3 at *
  generalize deepTL p.threads = c4 at *
  generalize lightP p 3000 = l1 at *
  generalize heftE e 3000 = h2 at *
  obtain ⟨ds, ts⟩ := p
  obtain ⟨op, num, name, kids⟩ := e
  simp only [Pr.av, Ex.cells] at *
  refine fn_val follows noNum hO Tryd.func4 rfl ?_
  by_cases hh : l1 = true ∧ 0 ≤ h2
  · obtain ⟨rfl, hh⟩ := hh
    have e1 : decide (0 ≤ h2) = true := by simpa using hh
    rw [e1] at q3
    have q4 := q4 (hsz rfl)
    have q5 := q5 (hsz rfl)
    have q8 := q8 (hsz rfl)
    have q9 := q9 (hsz rfl)
    have q10 := q10 (hsz rfl)
    have q11 := q11 (hsz rfl)
    have q6 := q6 (hlight hh)
    have q7 := q7 (hlight hh)
    have f1 : (c1 == c1) = true := by simp
    have f2 : (c2 == c2) = true := by simp
    have f3 : ((c3 : Int) == (c3 : Int)) = true := by simp
    have f4 : ((c4 : Int) == (c4 : Int)) = true := by simp
    repeat' ((conv => whnf); first | (with_reducible refine exI (q1 _) ?_) | (with_reducible refine exI (q2 _) ?_) | (with_reducible refine exI (q3 _) ?_) | (with_reducible refine exI (q4 _) ?_) | (with_reducible refine exI (q5 _) ?_) | (with_reducible refine exI (q6 _) ?_) | (with_reducible refine exI (q7 _) ?_) | (with_reducible refine exI (q8 _) ?_) | (with_reducible refine exI (q9 _) ?_) | (with_reducible refine exI (q10 _) ?_) | (with_reducible refine exI (q11 _) ?_) | (first | (with_reducible refine condT ?_ ?_; (focus (assumption))) | (with_reducible refine condF ?_ ?_; (focus (assumption))) | (with_reducible refine condT ?_ ?_; (focus (decide))) | (with_reducible refine condF ?_ ?_; (focus (decide))) | (with_reducible refine condT ?_ ?_; (focus ((first | assumption | decide | (simp; done) | (simp; omega)); done))) | (with_reducible refine condF ?_ ?_; (focus ((first | assumption | decide | (simp; done) | (simp; omega)); done))) | with_reducible refine condB (fun h => ?_) (fun h => ?_) | with_reducible refine exI rfl ?_ | with_reducible refine eqR rfl ?_ | (with_reducible refine exW (wrapN1 ?_) ?_; (focus (omega))) | (with_reducible refine exW (wrapN ?_) ?_; (focus (omega))) | (with_reducible refine exW (wrapB ?_ ?_) ?_; (focus (omega)); (focus (omega))) | with_reducible refine exW rfl ?_ | (with_reducible refine ixJ _ rfl ?_ ?_; (focus ((first | decide | omega | (simp; done) | (simp; omega)); done))) | (with_reducible refine ixJ' _ rfl ?_ ?_; (focus ((first | decide | omega | (simp; done) | (simp; omega)); done))) | (refine ixJ (Int.toNat _) ?_ ?_ ?_; (focus ((first | rfl | decide | omega | (simp; done)); done)); (focus ((first | decide | omega | (simp; done) | (simp; omega)); done))) | (refine ixJ' (Int.toNat _) ?_ ?_ ?_; (focus ((first | rfl | decide | omega | (simp; done)); done)); (focus ((first | decide | omega | (simp; done) | (simp; omega)); done))) | with_reducible refine ixS _ rfl (by assumption) ?_ | (with_reducible refine shlI ?_ ?_; (focus (first | decide | omega))) | (refine exI (callZ rfl rfl (if_pos ?_)) ?_; (focus ((first | decide | omega | (simp; done) | (simp; omega)); done)))))
    all_goals (rw [f4]; rfl)
  · cases l1 with
    | true =>
      have e1 : decide (0 ≤ h2) = false := by simp only [true_and] at hh; simpa using hh
      rw [e1] at q3
      repeat' ((conv => whnf); first | (with_reducible refine exI (q1 _) ?_) | (with_reducible refine exI (q2 _) ?_) | (with_reducible refine exI (q3 _) ?_) | (first | (with_reducible refine condT ?_ ?_; (focus (assumption))) | (with_reducible refine condF ?_ ?_; (focus (assumption))) | (with_reducible refine condT ?_ ?_; (focus (decide))) | (with_reducible refine condF ?_ ?_; (focus (decide))) | (with_reducible refine condT ?_ ?_; (focus ((first | assumption | decide | (simp; done) | (simp; omega)); done))) | (with_reducible refine condF ?_ ?_; (focus ((first | assumption | decide | (simp; done) | (simp; omega)); done))) | with_reducible refine condB (fun h => ?_) (fun h => ?_) | with_reducible refine exI rfl ?_ | with_reducible refine eqR rfl ?_ | (with_reducible refine exW (wrapN1 ?_) ?_; (focus (omega))) | (with_reducible refine exW (wrapN ?_) ?_; (focus (omega))) | (with_reducible refine exW (wrapB ?_ ?_) ?_; (focus (omega)); (focus (omega))) | with_reducible refine exW rfl ?_ | (with_reducible refine ixJ _ rfl ?_ ?_; (focus ((first | decide | omega | (simp; done) | (simp; omega)); done))) | (with_reducible refine ixJ' _ rfl ?_ ?_; (focus ((first | decide | omega | (simp; done) | (simp; omega)); done))) | (refine ixJ (Int.toNat _) ?_ ?_ ?_; (focus ((first | rfl | decide | omega | (simp; done)); done)); (focus ((first | decide | omega | (simp; done) | (simp; omega)); done))) | (refine ixJ' (Int.toNat _) ?_ ?_ ?_; (focus ((first | rfl | decide | omega | (simp; done)); done)); (focus ((first | decide | omega | (simp; done) | (simp; omega)); done))) | with_reducible refine ixS _ rfl (by assumption) ?_ | (with_reducible refine shlI ?_ ?_; (focus (first | decide | omega))) | (refine exI (callZ rfl rfl (if_pos ?_)) ?_; (focus ((first | decide | omega | (simp; done) | (simp; omega)); done)))))
      all_goals rfl
    | false =>
      repeat' ((conv => whnf); first | (with_reducible refine exI (q1 _) ?_) | (with_reducible refine exI (q2 _) ?_) | (with_reducible refine exI (q3 _) ?_) | (first | (with_reducible refine condT ?_ ?_; (focus (assumption))) | (with_reducible refine condF ?_ ?_; (focus (assumption))) | (with_reducible refine condT ?_ ?_; (focus (decide))) | (with_reducible refine condF ?_ ?_; (focus (decide))) | (with_reducible refine condT ?_ ?_; (focus ((first | assumption | decide | (simp; done) | (simp; omega)); done))) | (with_reducible refine condF ?_ ?_; (focus ((first | assumption | decide | (simp; done) | (simp; omega)); done))) | with_reducible refine condB (fun h => ?_) (fun h => ?_) | with_reducible refine exI rfl ?_ | with_reducible refine eqR rfl ?_ | (with_reducible refine exW (wrapN1 ?_) ?_; (focus (omega))) | (with_reducible refine exW (wrapN ?_) ?_; (focus (omega))) | (with_reducible refine exW (wrapB ?_ ?_) ?_; (focus (omega)); (focus (omega))) | with_reducible refine exW rfl ?_ | (with_reducible refine ixJ _ rfl ?_ ?_; (focus ((first | decide | omega | (simp; done) | (simp; omega)); done))) | (with_reducible refine ixJ' _ rfl ?_ ?_; (focus ((first | decide | omega | (simp; done) | (simp; omega)); done))) | (refine ixJ (Int.toNat _) ?_ ?_ ?_; (focus ((first | rfl | decide | omega | (simp; done)); done)); (focus ((first | decide | omega | (simp; done) | (simp; omega)); done))) | (refine ixJ' (Int.toNat _) ?_ ?_ ?_; (focus ((first | rfl | decide | omega | (simp; done)); done)); (focus ((first | decide | omega | (simp; done) | (simp; omega)); done))) | with_reducible refine ixS _ rfl (by assumption) ?_ | (with_reducible refine shlI ?_ ?_; (focus (first | decide | omega))) | (refine exI (callZ rfl rfl (if_pos ?_)) ?_; (focus ((first | decide | omega | (simp; done) | (simp; omega)); done)))))
      all_goals rfl
end Go.Proofs.YtajhailaofchlaaDoor.lex
namespace Go.Proofs.YtajhailaofchlaaDoor.acLaw
open Go.Abs Go.RowKit
def Qs : List (AV → Prop) := [fun u => ∃ p : lex.Pr, u = p.av ∧ lex.okP p, fun u => ∃ e : lex.Ex, u = .agg e.cells ∧ lex.okE e]
theorem opens : OpensAll Tryd.prog Tryd.f4.params.toList Qs := by
  rw [Tryd.params4]
  exact ⟨lex.opensP, lex.opensX, trivial⟩
theorem law (us : List AV) (h : AllQ Qs us) : ValOK Tryd.prog runLives.gl 4 us (.bool true) := by
  obtain ⟨_, _, rfl, ⟨p, rfl, hp⟩, h1⟩ := allQ_cons h
  obtain ⟨_, _, rfl, ⟨e, rfl, he⟩, h2⟩ := allQ_cons h1
  cases allQ_nil h2
  exact lex.acLaw p e hp he
theorem solid : Solid Tryd.prog := by unfold Solid; kernel_rfl
end Go.Proofs.YtajhailaofchlaaDoor.acLaw
end


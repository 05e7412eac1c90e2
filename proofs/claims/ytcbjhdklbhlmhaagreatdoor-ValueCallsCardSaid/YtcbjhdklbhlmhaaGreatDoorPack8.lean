/-
  Texts of this proof, one behind the other (part 8).
-/
import Derived.Test.YtcbjhdklbhlmhaaGreatDoorPack7

/-
  Made simple: the document's simple.
-/
section
set_option linter.unusedVariables false
set_option linter.unusedSimpArgs false
namespace Go.Proofs.YtcbjhdklbhlmhaaGreatDoor.lex
open Go.Abs Go.RowKit
set_option maxRecDepth 100000
set_option maxHeartbeats 4000000
variable {gl : Glob}
theorem simpleR_ok : ∀ (n : Nat) (e : Ex), sizeE e ≤ n → goodE e → sizeE e ≤ 1048576 → ValOK Tryz.prog gl 25 [.agg e.cells] (.agg (simpE e).cells)
  | n, .mk op num name kids, h, hg, hs => by
    obtain ⟨O, hO, p1, p2, p3, p4, -⟩ := fams (P := Tryz.prog) (gl := gl) [famSelf (f := 25) (by kernel_rfl) (fun x => sizeE x < n ∧ goodE x ∧ sizeE x ≤ 1048576) (fun x => .agg (simpE x).cells) (fun x hx => match n, hx.1 with | n + 1, h => simpleR_ok n x (by omega) hx.2.1 hx.2.2),
      famSelf (f := 46) (by kernel_rfl) (fun x => okE x ∧ sizeE x ≤ 1048576) (fun x => .agg x.cells) (fun x hx => copyR_ok _ x (Nat.le_refl _) hx.1 hx.2),
      famIs (g := 69) (by kernel_rfl) isR_ok,
      famTwo (g := 70) (by kernel_rfl) (fun p => okE p.1) (fun p hp => sameR_ok _ p.1 p.2 (Nat.le_refl _) hp)] rfl
    have hO2 := orcOr_sound (doF_sound (gl := gl)) hO
    have q1 : ∀ x, sizeE x < n → goodE x → sizeE x ≤ 1048576 → ∀ H, acall Tryz.prog (orcOr (orcZ doF) O) H 25 [.agg x.cells] = some (.agg (simpE x).cells, H) := fun x h1 h2 h3 H => callOr2 (by kernel_rfl) (orcZ_none fun _ => rfl) (p1 x ⟨h1, h2, h3⟩ H)
    have qc : ∀ x, okE x → sizeE x ≤ 1048576 → ∀ H, acall Tryz.prog (orcOr (orcZ doF) O) H 46 [.agg x.cells] = some (.agg x.cells, H) := fun x h1 h2 H => callOr2 (by kernel_rfl) (orcZ_none fun _ => rfl) (p2 x ⟨h1, h2⟩ H)
    have qi : ∀ x n H, acall Tryz.prog (orcOr (orcZ doF) O) H 69 [.agg x.cells, .int .i64 n] = some (.bool (isX x n), H) := fun x n H => callOr2 (by kernel_rfl) (orcZ_none fun _ => rfl) (p3 (x, n) trivial H)
    have qs : ∀ x y, okE x → ∀ H, acall Tryz.prog (orcOr (orcZ doF) O) H 70 [.agg x.cells, .agg y.cells] = some (.bool (sameE x y), H) := fun x y hx H => callOr2 (by kernel_rfl) (orcZ_none fun _ => rfl) (p4 (x, y) hx H)
    have qd : ∀ (H : AHeap) (b f : Nat) (op x : Int) (l : List Int) (ty : TypeId), H[b]? = some ⟨true, f, 0, .cells (ksC (x :: l)) ty⟩ → acall Tryz.prog (orcOr (orcZ doF) O) H 43 [.int .i64 op, .slice b 0 (l.length + 1) (l.length + 1) 1] = some (.tuple [.int .i64 (doI op (x :: l)).1, .int .i64 (doI op (x :: l)).2], H) := fun H b f op x l ty hH => by
      refine callOr1 (by kernel_rfl) (callZ (fa := [.int .i64 op, .rs (l.length + 1) 1 (ksC (x :: l))]) (by kernel_rfl) ?_ ?_)
      · have h1 : frz H 30 (.slice b 0 (l.length + 1) (l.length + 1) 1) = some (.rs (l.length + 1) 1 (ksC (x :: l))) := frz_slice hH (ksC_cons _ _) (ksC_lit _)
        simp only [frzL, h1]; rfl
      · show (match intsOf (ksC (x :: l)) with | some l => _ | none => none) = _
        rw [show intsOf (ksC (x :: l)) = some (x :: l) from intsOf_map _]
    clear p1 p2 p3 p4
    generalize orcOr (orcZ doF) O = O2 at *
    have hlen := sizeL_len kids
    obtain ⟨hkl, hkg, -⟩ := goodE_kids hg
    have hT : appT Tryz.prog 22 22 = some (24, 4, 56) := by kernel_rfl
    have hT2 : appT Tryz.prog 26 26 = some (2, 1, 8) := by kernel_rfl
    by_cases hk0 : kids = []
    · subst hk0
      have qc := qc (.mk op num name []) hg.2.2 hs
      simp only [simpE, Ex.cells, exA, exC] at qc ⊢
      refine fn_valWI (fun g => !Nat.beq g 47) 1 follows noNum hO2 Tryz.func25 rfl ?_
      repeat' ((conv => whnf); first | (with_reducible refine exI (qc _) ?_) | (first | refine stp ?_ | with_reducible refine condB (fun h => ?_) (fun h => ?_)))
      all_goals exact fun _ _ h => h
    · have hop : 3 ≤ op ∧ op ≤ 16 := by
        cases kids with
        | nil => exact absurd rfl hk0
        | cons k l => exact kidsI_op (n := l.length) hkl
      simp only [sizeE] at h hs
      have e0 : ((kids.length : Int) == 0) = false := by simpa using hk0
      rw [simpE_kids _ _ _ _ hk0]
      simp only [Ex.cells, exA]
      refine fn_valWI (fun g => !Nat.beq g 47) 1 follows noNum hO2 Tryz.func25 rfl ?_
      repeat' ((conv => whnf); first | refine stp ?_ | with_reducible refine condB (fun h => ?_) (fun h => ?_))
      conv => whnf
      obtain ⟨ks, hks⟩ : ∃ ks, kids.map simpE = ks := ⟨_, rfl⟩
      have hksl : ks.length = kids.length := by rw [← hks]; simp
      have hksg : ∀ k ∈ ks, goodE k := fun k hk => by rw [← hks] at hk; obtain ⟨x, hx, rfl⟩ := List.mem_map.1 hk; exact good_simp (hkg x hx)
      rw [hks]
      refine ⟨Nat, (fun i => i ≤ kids.length), (fun i => [(1, .ptr 0 0), (2, .ptr 1 0), (3, .ptr 2 0), (4, grA 4 1 ((ks.take i).map Ex.num)), (5, .bool ((ks.take i).all fun k => k.op == 1)), (6, .int .i64 i)]),
        (fun i => ⟨true, 0, 0, .cells [.int .i64 op, .int .i64 num, .str name, .rs kids.length 4 (exC kids)] 24⟩ :: ⟨true, 1, 0, .cells [.int .i64 0, .int .i64 0, .str [], .nslice] 24⟩ :: ⟨true, 2, 0, .cells [.int .i64 op, .int .i64 0, .str [], grA 3 4 (ks.take i)] 24⟩ :: (grB 3 exC 24 (ks.take i) ++ grB 4 ksC 2 ((ks.take i).map Ex.num))), (fun i => kids.length - i), ⟨0, Nat.zero_le _, ?_⟩, ?_⟩
      · exact FgL.mk [0, 1, 2] rfl ⟨Wk.ptr rfl rfl, Wk.ptr rfl rfl, Wk.ptr rfl rfl, Wk.noref rfl, Wk.bool rfl, Wk.int rfl, trivial⟩ ⟨⟨rfl, rfl, rfl, rfl, BodyGe.pre (rest := []) rfl rfl⟩, ⟨rfl, rfl, rfl, rfl, BodyGe.pre (rest := []) rfl rfl⟩, ⟨rfl, rfl, rfl, rfl, BodyGe.pre (rest := []) rfl rfl⟩, trivial⟩ rfl
      intro i hi
      dsimp only
      by_cases hlt : i < kids.length
      · have e1 : decide ((i : Int) < (kids.length : Int)) = true := by simpa using hlt
        have hlk : i < ks.length := by omega
        have hx := ex4 kids i hlt
        have hsz := sizeL_mem _ _ (get_mem hlt)
        have q3 := q1 kids[i] (by omega) (hkg _ (get_mem hlt)) (by omega)
        have hxs : simpE kids[i] = ks[i] := by simp only [← hks, List.getElem_map]
        rw [hxs] at q3
        have hal := allE_take (fun k => k.op == 1) ks i hlk
        have hnx : ks.take (i + 1) = ks.take i ++ [ks[i]] := List.take_succ_eq_append_getElem hlk
        have hol : (ks.take i).length ≤ 1048576 := by rw [List.length_take]; omega
        generalize hw2 : (ks.take (i + 1)).all (fun k => k.op == 1) = w2 at *
        generalize (ks.take i).all (fun k => k.op == 1) = w at *
        generalize ks.take i = o at *
        generalize ks[i] = y at *
        generalize kids[i] = x at *
        clear hxs q1 qc qi qs qd
        obtain ⟨xo, xn, xs, xk⟩ := x
        obtain ⟨yo, yn, ys, yk⟩ := y
        simp only [Ex.cells, Ex.op, Ex.num, exA] at hx q3 hal
        cases o with
        | nil =>
          cases w with
          | true =>
            simp only [Bool.true_and] at hal
            repeat' ((conv => whnf); first | (with_reducible refine exI (q3 _) ?_) | (with_reducible refine ixJ i rfl ?_ ?_; (focus (omega))) | (refine exI hx ?_) | (refine apS ?_) | (first | refine stp ?_ | with_reducible refine condB (fun h => ?_) (fun h => ?_)))
            conv => whnf
            refine ⟨i + 1, hlt, by show kids.length - (i + 1) < kids.length - i; omega, ?_⟩
            rw [hw2, hnx]
            exact FgL.mk [0, 1, 2, 5, 7] rfl ⟨Wk.ptr rfl rfl, Wk.ptr rfl rfl, Wk.ptr rfl rfl, Wk.slice rfl rfl rfl (Nat.le_refl _) (Nat.le_refl _) rfl, Wk.bool hal.symm, Wk.int rfl, trivial⟩ ⟨⟨rfl, rfl, rfl, rfl, BodyGe.pre (rest := []) rfl rfl⟩, ⟨rfl, rfl, rfl, rfl, BodyGe.pre (rest := []) rfl rfl⟩, ⟨rfl, rfl, rfl, rfl, BodyGe.cellsL ⟨Wk.noref rfl, Wk.noref rfl, Wk.noref rfl, Wk.slice rfl rfl rfl (Nat.le_refl _) (Nat.le_refl _) rfl, trivial⟩⟩, ⟨rfl, rfl, rfl, rfl, BodyGe.pre (rest := []) rfl (exC_refs _)⟩, ⟨rfl, rfl, rfl, rfl, BodyGe.pre (rest := []) rfl (ksC_refs _)⟩, trivial⟩ rfl
          | false =>
            simp only [Bool.false_and] at hal
            repeat' ((conv => whnf); first | (with_reducible refine exI (q3 _) ?_) | (with_reducible refine ixJ i rfl ?_ ?_; (focus (omega))) | (refine exI hx ?_) | (refine apS ?_) | (first | refine stp ?_ | with_reducible refine condB (fun h => ?_) (fun h => ?_)))
            conv => whnf
            refine ⟨i + 1, hlt, by show kids.length - (i + 1) < kids.length - i; omega, ?_⟩
            rw [hw2, hnx]
            exact FgL.mk [0, 1, 2, 5, 7] rfl ⟨Wk.ptr rfl rfl, Wk.ptr rfl rfl, Wk.ptr rfl rfl, Wk.slice rfl rfl rfl (Nat.le_refl _) (Nat.le_refl _) rfl, Wk.bool hal.symm, Wk.int rfl, trivial⟩ ⟨⟨rfl, rfl, rfl, rfl, BodyGe.pre (rest := []) rfl rfl⟩, ⟨rfl, rfl, rfl, rfl, BodyGe.pre (rest := []) rfl rfl⟩, ⟨rfl, rfl, rfl, rfl, BodyGe.cellsL ⟨Wk.noref rfl, Wk.noref rfl, Wk.noref rfl, Wk.slice rfl rfl rfl (Nat.le_refl _) (Nat.le_refl _) rfl, trivial⟩⟩, ⟨rfl, rfl, rfl, rfl, BodyGe.pre (rest := []) rfl (exC_refs _)⟩, ⟨rfl, rfl, rfl, rfl, BodyGe.pre (rest := []) rfl (ksC_refs _)⟩, trivial⟩ rfl
        | cons z o =>
          have hcl := exC_cons4 z o
          have hcl2 := ksC_cons z.num (o.map Ex.num)
          simp only [List.length_map] at hcl2
          simp only [List.length_cons] at hol
          cases w with
          | true =>
            simp only [Bool.true_and] at hal
            repeat' ((conv => whnf); first | (with_reducible refine exI (q3 _) ?_) | (with_reducible refine ixJ i rfl ?_ ?_; (focus (omega))) | (refine exI hx ?_) | (refine apS ?_) | (first | refine stp ?_ | with_reducible refine condB (fun h => ?_) (fun h => ?_)))
            conv => whnf
            refine ⟨i + 1, hlt, by show kids.length - (i + 1) < kids.length - i; omega, ?_⟩
            rw [hw2, hnx]
            exact FgL.mk [0, 1, 2, 7, 9] rfl ⟨Wk.ptr rfl rfl, Wk.ptr rfl rfl, Wk.ptr rfl rfl, Wk.slice rfl rfl (by simp) (Nat.le_refl _) (by simp) rfl, Wk.bool hal.symm, Wk.int rfl, trivial⟩ ⟨⟨rfl, rfl, rfl, rfl, BodyGe.pre (rest := []) rfl rfl⟩, ⟨rfl, rfl, rfl, rfl, BodyGe.pre (rest := []) rfl rfl⟩, ⟨rfl, rfl, rfl, rfl, BodyGe.cellsL ⟨Wk.noref rfl, Wk.noref rfl, Wk.noref rfl, Wk.slice rfl rfl (by simp) (Nat.le_refl _) (by simp) rfl, trivial⟩⟩, ⟨rfl, rfl, rfl, rfl, BodyGe.pre (rest := []) (exC_snoc z o (.mk yo yn ys yk)) (exC_refs _)⟩, ⟨rfl, rfl, rfl, rfl, BodyGe.pre (rest := []) (by simp [ksC, Ex.num]) (ksC_refs _)⟩, trivial⟩ rfl
          | false =>
            simp only [Bool.false_and] at hal
            repeat' ((conv => whnf); first | (with_reducible refine exI (q3 _) ?_) | (with_reducible refine ixJ i rfl ?_ ?_; (focus (omega))) | (refine exI hx ?_) | (refine apS ?_) | (first | refine stp ?_ | with_reducible refine condB (fun h => ?_) (fun h => ?_)))
            conv => whnf
            refine ⟨i + 1, hlt, by show kids.length - (i + 1) < kids.length - i; omega, ?_⟩
            rw [hw2, hnx]
            exact FgL.mk [0, 1, 2, 7, 9] rfl ⟨Wk.ptr rfl rfl, Wk.ptr rfl rfl, Wk.ptr rfl rfl, Wk.slice rfl rfl (by simp) (Nat.le_refl _) (by simp) rfl, Wk.bool hal.symm, Wk.int rfl, trivial⟩ ⟨⟨rfl, rfl, rfl, rfl, BodyGe.pre (rest := []) rfl rfl⟩, ⟨rfl, rfl, rfl, rfl, BodyGe.pre (rest := []) rfl rfl⟩, ⟨rfl, rfl, rfl, rfl, BodyGe.cellsL ⟨Wk.noref rfl, Wk.noref rfl, Wk.noref rfl, Wk.slice rfl rfl (by simp) (Nat.le_refl _) (by simp) rfl, trivial⟩⟩, ⟨rfl, rfl, rfl, rfl, BodyGe.pre (rest := []) (exC_snoc z o (.mk yo yn ys yk)) (exC_refs _)⟩, ⟨rfl, rfl, rfl, rfl, BodyGe.pre (rest := []) (by simp [ksC, Ex.num]) (ksC_refs _)⟩, trivial⟩ rfl
      · have e1 : decide ((i : Int) < (kids.length : Int)) = false := by simpa using hlt
        have hi2 : i = kids.length := by have := hi; omega
        subst hi2
        rw [List.take_of_length_le (by omega)]
        unfold outS
        have hkl2 : kidsI op = (ks.length : Int) := by rw [hkl, hksl]
        rw [← hksl] at e1 ⊢
        generalize hkk : exC kids = ck
        generalize hal : ks.all (fun k => k.op == 1) = w at *
        clear hks hksl hkl hkg e0 hlt hi hlen h hs hg hkk q1 qc hT hT2 hk0
        have hlen2 : ks.length = 1 ∧ (op = 3 ∨ op = 4) ∨ ks.length = 2 ∧ (5 ≤ op ∧ op ≤ 16) := by
          unfold kidsI at hkl2
          split at hkl2
          · omega
          · split at hkl2
            · left; omega
            · right
              rw [if_pos (by omega)] at hkl2
              omega
        rcases hlen2 with ⟨hl1, hop2⟩ | ⟨hl2, hop2⟩
        · match ks, hl1 with
          | [x], _ =>
            have hgx := hksg x (by simp)
            have hv := fun (H : AHeap) hH => qd H 4 4 op x.num [] 2 hH
            clear qd qi qs hksg hkl2 hal
            simp only [List.map_cons, List.map_nil] at hv ⊢
            generalize (doI op [x.num]).1 = v at *
            generalize (doI op [x.num]).2 = v2 at *
            obtain ⟨xo, xn, xs, xk⟩ := x
            cases w with
            | true =>
              simp only [cond_true, Ex.num] at hv ⊢
              by_cases h0 : 0 ≤ v
              · have e3 : decide (0 ≤ v) = true := by simpa using h0
                have e2 : decide (v ≥ 0) = true := e3
                rw [e3]
                simp only [cond_true, numX, exC, Ex.cells, exA]
                repeat' ((conv => whnf); first | (refine exI (hv _ rfl) ?_) | (first | refine stp ?_ | with_reducible refine condB (fun h => ?_) (fun h => ?_)))
                all_goals exact fun _ _ h => nil4 h
              · have e3 : decide (0 ≤ v) = false := by simpa using h0
                have e2 : decide (v ≥ 0) = false := e3
                rw [e3]
                simp only [cond_false, exC, Ex.cells, exA]
                repeat' ((conv => whnf); first | (refine exI (hv _ rfl) ?_) | (first | refine stp ?_ | with_reducible refine condB (fun h => ?_) (fun h => ?_)))
                all_goals exact fun _ _ h => h
            | false =>
              simp only [cond_false]
              clear hv
              rcases hop2 with rfl | rfl
              · by_cases hx3 : xo = 3
                · subst hx3
                  obtain ⟨g1, g2, _⟩ := goodE_kids hgx
                  have hxl : xk.length = 1 := by have : (1 : Int) = xk.length := g1; omega
                  match xk, hxl with
                  | [z], _ =>
                    obtain ⟨zo, zn, zs, zk⟩ := z
                    simp only [ruleS, Ex.op, Ex.kids, exC, Ex.cells, List.length_cons, List.length_nil, exA, beq_self_eq_true, Bool.and_self, cond_true, List.headD_cons, List.cons_append, List.nil_append] at e1 ⊢
                    repeat' ((conv => whnf); first | refine stp ?_ | with_reducible refine condB (fun h => ?_) (fun h => ?_))
                    all_goals exact fun _ _ h => h
                · have ex3 : (xo == 3) = false := by simpa using hx3
                  simp only [ruleS, Ex.op, ex3, Bool.and_false, cond_false, Ex.kids, exC, Ex.cells, List.length_cons, List.length_nil, exA, List.cons_append, List.nil_append] at e1 ⊢
                  repeat' ((conv => whnf); first | refine stp ?_ | with_reducible refine condB (fun h => ?_) (fun h => ?_))
                  all_goals exact fun _ _ h => h
              · simp only [ruleS, Ex.op, show ((4 : Int) == 3) = false from rfl, Bool.false_and, cond_false, Ex.kids, exC, Ex.cells, List.length_cons, List.length_nil, exA, List.cons_append, List.nil_append] at e1 ⊢
                repeat' ((conv => whnf); first | refine stp ?_ | with_reducible refine condB (fun h => ?_) (fun h => ?_))
                all_goals exact fun _ _ h => h
        · match ks, hl2 with
          | [x, y], _ =>
            have hgx := hksg x (by simp)
            have hv := fun (H : AHeap) hH => qd H 4 4 op x.num [y.num] 2 hH
            have qa0 := qi x 0
            have qa1 := qi x 1
            have qb0 := qi y 0
            have qb1 := qi y 1
            have qs := qs x y hgx.2.2
            clear qd qi hksg hkl2 hal hgx
            simp only [List.map_cons, List.map_nil] at hv ⊢
            generalize (doI op [x.num, y.num]).1 = v at *
            generalize (doI op [x.num, y.num]).2 = v2 at *
            cases w with
            | true =>
              clear qa0 qa1 qb0 qb1 qs
              obtain ⟨xo, xn, xs, xk⟩ := x
              obtain ⟨yo, yn, ys, yk⟩ := y
              simp only [cond_true, Ex.num] at hv ⊢
              by_cases h0 : 0 ≤ v
              · have e3 : decide (0 ≤ v) = true := by simpa using h0
                have e2 : decide (v ≥ 0) = true := e3
                rw [e3]
                simp only [cond_true, numX, exC, Ex.cells, exA, List.cons_append, List.nil_append]
                repeat' ((conv => whnf); first | (refine exI (hv _ rfl) ?_) | (first | refine stp ?_ | with_reducible refine condB (fun h => ?_) (fun h => ?_)))
                all_goals exact fun _ _ h => nil4 h
              · have e3 : decide (0 ≤ v) = false := by simpa using h0
                have e2 : decide (v ≥ 0) = false := e3
                rw [e3]
                simp only [cond_false, exC, Ex.cells, exA, List.cons_append, List.nil_append]
                repeat' ((conv => whnf); first | (refine exI (hv _ rfl) ?_) | (first | refine stp ?_ | with_reducible refine condB (fun h => ?_) (fun h => ?_)))
                all_goals exact fun _ _ h => h
            | false =>
              simp only [cond_false, ruleS, twoS]
              clear hv
              generalize isX x 0 = a0 at *
              generalize isX x 1 = a1 at *
              generalize isX y 0 = b0 at *
              generalize isX y 1 = b1 at *
              generalize sameE x y = sm at *
              obtain ⟨xo, xn, xs, xk⟩ := x
              obtain ⟨yo, yn, ys, yk⟩ := y
              simp only [exC, Ex.cells, exA, List.cons_append, List.nil_append, List.length_cons, List.length_nil] at qa0 qa1 qb0 qb1 qs e1 ⊢
              have hop3 : op = 5 ∨ op = 6 ∨ op = 7 ∨ op = 8 ∨ op = 9 ∨ op = 10 ∨ op = 11 ∨ op = 12 ∨ op = 13 ∨ op = 14 ∨ op = 15 ∨ op = 16 := by omega
              clear hop2 hop
              rcases hop3 with rfl | rfl | rfl | rfl | rfl | rfl | rfl | rfl | rfl | rfl | rfl | rfl
              all_goals
                repeat' ((conv => whnf); first | (with_reducible refine exI (qa0 _) ?_) | (with_reducible refine exI (qa1 _) ?_) | (with_reducible refine exI (qb0 _) ?_) | (with_reducible refine exI (qb1 _) ?_) | (with_reducible refine exI (qs _) ?_) | (first | refine stp ?_ | with_reducible refine condB (fun h => ?_) (fun h => ?_)))
              all_goals clear qa0 qa1 qb0 qb1 qs hO2
              all_goals (subst_vars; intro sn v hv; first | exact hv | exact nil4 hv | (cases sm <;> first | (simp at h; done) | exact hv | exact nil4 hv) | (revert hv; simp [numX, Ex.cells, exC, exA]; done))
end Go.Proofs.YtcbjhdklbhlmhaaGreatDoor.lex
end

/-
  Simple, of both; how great expressions are, how great they grow.
-/
section
set_option linter.unusedVariables false
set_option linter.unusedSimpArgs false
namespace Go.Proofs.YtcbjhdklbhlmhaaGreatDoor.lex
open Go.Abs Go.RowKit
set_option maxRecDepth 100000
set_option maxHeartbeats 4000000
variable {gl : Glob}
def zeroX : Ex := .mk 0 0 [] []
def okI (e : Ex) : Prop := okE e ∧ inE e
theorem check0 {e : Ex} (h : checkE e = 0) (hi : okI e) : goodE e ∧ sizeE e ≤ 2000 ∧ deepE e ≤ 32 := by
  unfold checkE at h
  split at h
  · cases h
  · rename_i h1
    split at h
    · rename_i h2
      exact ⟨⟨h2, hi.2, hi.1⟩, by omega, by omega⟩
    · cases h
theorem nil4t {a b c d : AV} {z : Nat} {sn : Snap} {v : Value} (h : VR sn noI (.tuple [.agg [a, b, c, .nslice], d]) v) : VR sn noI (.tuple [.agg [a, b, c, .rs 0 z []], d]) v := by
  simp only [VR, LR] at h ⊢
  obtain ⟨w, h0, d0, l0, e0, ⟨d', h1, d1, l1, e1, g1, d2, l2, e2, g2, d3, l3, e3, g3, d4, l4, e4, g4, g5⟩, r⟩ := h
  exact ⟨w, h0, d0, l0, e0, ⟨d', h1, d1, l1, e1, g1, d2, l2, e2, g2, d3, l3, e3, g3, d4, l4, e4, .inl ⟨trivial, trivial, g4⟩, g5⟩, r⟩
def simpO (e : Ex) : AV := .tuple [.agg (if checkE e = 0 then simpE e else zeroX).cells, .int .i64 (checkE e)]
def famOne {f : Nat} (hb : hasBody Tryz.prog f = true) (e : Ex) (G : Prop) (r : AV) (h : G → ValOK Tryz.prog gl f [.agg e.cells] r) : Fam Tryz.prog gl := { I := Unit, f := f, G := fun _ => G, A := fun _ => [.agg e.cells], R := fun _ => r, body := hb, inj := (fun _ _ _ _ _ => rfl), ok := (fun _ hx => ⟨ex_refs e, h hx⟩) }
theorem SimpleX_ok (e : Ex) (hi : okI e) (hs : sizeE e ≤ 1048576) : ValOK Tryz.prog runLives.gl 9 [.agg e.cells] (simpO e) := by
  obtain ⟨O, hO, p1, p2, -⟩ := fams (P := Tryz.prog) (gl := runLives.gl) [famOne (f := 20) (by kernel_rfl) e True (.int .i64 (checkE e)) (fun _ => checkEX_ok e hi.1 hs),
    famOne (f := 24) (by kernel_rfl) e (checkE e = 0) (.agg (simpE e).cells) (fun h => simpleX_ok _ e (Nat.le_refl _) (check0 h hi).1 hs)] rfl
  have q1 : ∀ H, acall Tryz.prog O H 20 [.agg e.cells] = some (.int .i64 (checkE e), H) := p1 () trivial
  have q2 : checkE e = 0 → ∀ H, acall Tryz.prog O H 24 [.agg e.cells] = some (.agg (simpE e).cells, H) := p2 ()
  clear p1 p2
  unfold simpO
  clear hi hs
  generalize checkE e = c at *
  generalize simpE e = s at *
  obtain ⟨op, num, name, kids⟩ := e
  obtain ⟨so, sn1, ss, sk⟩ := s
  by_cases hc : c = 0
  · replace q2 := q2 hc
    subst hc
    rw [if_pos rfl]
    simp only [Ex.cells, exA] at q1 q2 ⊢
    refine fn_valW follows noNum hO Tryz.func9 rfl ?_
    repeat' ((conv => whnf); first | (with_reducible refine exI (q1 _) ?_) | (with_reducible refine exI (q2 _) ?_) | (first | refine stp ?_ | with_reducible refine condB (fun h => ?_) (fun h => ?_)))
    all_goals exact fun _ _ h => h
  · rw [if_neg hc]
    have e1 : (c != 0) = true := bne_of (b := false) (by simpa using hc)
    simp only [Ex.cells, exA, exC, zeroX, List.length_nil] at q1 ⊢
    clear q2
    refine fn_valW follows noNum hO Tryz.func9 rfl ?_
    repeat' ((conv => whnf); first | (with_reducible refine exI (q1 _) ?_) | (first | refine stp ?_ | with_reducible refine condB (fun h => ?_) (fun h => ?_)))
    all_goals exact fun _ _ h => nil4t h
theorem SimpleR_ok (e : Ex) (hi : okI e) (hs : sizeE e ≤ 1048576) : ValOK Tryz.prog gl 10 [.agg e.cells] (simpO e) := by
  obtain ⟨O, hO, p1, p2, -⟩ := fams (P := Tryz.prog) (gl := gl) [famOne (f := 22) (by kernel_rfl) e True (.int .i64 (checkE e)) (fun _ => checkER_ok e hi.1 hs),
    famOne (f := 25) (by kernel_rfl) e (checkE e = 0) (.agg (simpE e).cells) (fun h => simpleR_ok _ e (Nat.le_refl _) (check0 h hi).1 hs)] rfl
  have q1 : ∀ H, acall Tryz.prog O H 22 [.agg e.cells] = some (.int .i64 (checkE e), H) := p1 () trivial
  have q2 : checkE e = 0 → ∀ H, acall Tryz.prog O H 25 [.agg e.cells] = some (.agg (simpE e).cells, H) := p2 ()
  clear p1 p2
  unfold simpO
  clear hi hs
  generalize checkE e = c at *
  generalize simpE e = s at *
  obtain ⟨op, num, name, kids⟩ := e
  obtain ⟨so, sn1, ss, sk⟩ := s
  by_cases hc : c = 0
  · replace q2 := q2 hc
    subst hc
    rw [if_pos rfl]
    simp only [Ex.cells, exA] at q1 q2 ⊢
    refine fn_valW follows noNum hO Tryz.func10 rfl ?_
    repeat' ((conv => whnf); first | (with_reducible refine exI (q1 _) ?_) | (with_reducible refine exI (q2 _) ?_) | (first | refine stp ?_ | with_reducible refine condB (fun h => ?_) (fun h => ?_)))
    all_goals exact fun _ _ h => h
  · rw [if_neg hc]
    have e1 : (c != 0) = true := bne_of (b := false) (by simpa using hc)
    simp only [Ex.cells, exA, exC, zeroX, List.length_nil] at q1 ⊢
    clear q2
    refine fn_valW follows noNum hO Tryz.func10 rfl ?_
    repeat' ((conv => whnf); first | (with_reducible refine exI (q1 _) ?_) | (first | refine stp ?_ | with_reducible refine condB (fun h => ?_) (fun h => ?_)))
    all_goals exact fun _ _ h => nil4t h
theorem countR_ok : ∀ (n : Nat) (e : Ex), sizeE e ≤ n → sizeE e ≤ 1048576 → ValOK Tryz.prog gl 48 [.agg e.cells] (.int .i64 (sizeE e))
  | 0, e, h, _ => by have := sizeE_pos e; omega
  | n + 1, .mk op num name kids, h, hb => by
    simp only [sizeE] at h hb ⊢
    obtain ⟨O, hO, q, -⟩ := fams (P := Tryz.prog) (gl := gl) [famE (g := 48) (by kernel_rfl) (fun k => .int .i64 (sizeE k)) kids fun k hk => countR_ok n k (by have := sizeL_mem _ _ hk; omega) (by have := sizeL_mem _ _ hk; omega)] rfl
    have hlen := sizeL_len kids
    simp only [Ex.cells]
    refine fn_val follows noNum hO Tryz.func48 rfl ?_
    repeat' ((conv => whnf); first | refine stp ?_ | with_reducible refine condB (fun h => ?_) (fun h => ?_))
    conv => whnf
    refine ⟨Nat, (fun i => i ≤ kids.length), (fun i => [(1, .ptr 0 0), (3, .int .i64 (1 + sizeL (kids.take i) : Nat)), (4, .int .i64 i)]), (fun _ => [⟨true, 0, 0, .cells [.int .i64 op, .int .i64 num, .str name, .rs kids.length 4 (exC kids)] 24⟩]), (fun i => kids.length - i), ⟨0, Nat.zero_le _, FgL.mk [0] rfl ?_ ⟨⟨rfl, rfl, rfl, rfl, BodyGe.pre (rest := []) rfl rfl⟩, trivial⟩ rfl⟩, ?_⟩
    · simp only [List.take_zero, sizeL]; (repeat (first | exact trivial | refine stw ?_))
    intro i hi
    dsimp only
    by_cases hlt : i < kids.length
    · have e1 : decide ((i : Int) < (kids.length : Int)) = true := by simpa using hlt
      have hx := ex4 kids i hlt
      have hs := sizeL_take kids i hlt
      have hg := sizeL_get kids i hlt
      have q1 : ∀ H, acall Tryz.prog O H 48 [.agg kids[i].cells] = some (.int .i64 (sizeE kids[i]), H) := q _ (get_mem hlt)
      generalize kids[i] = k at *
      repeat' ((conv => whnf); first | (refine exI hx ?_) | (refine exI (q1 _) ?_) | (with_reducible refine ixJ i rfl ?_ ?_; (focus (omega))) | (first | refine stp ?_ | with_reducible refine condB (fun h => ?_) (fun h => ?_)))
      conv => whnf
      refine ⟨i + 1, hlt, by show kids.length - (i + 1) < kids.length - i; omega, FgL.mk [0] rfl ?_ ⟨⟨rfl, rfl, rfl, rfl, BodyGe.pre (rest := []) rfl rfl⟩, trivial⟩ rfl⟩
      rw [hs, ← Nat.add_assoc]; (repeat (first | exact trivial | refine stw ?_))
    · have e1 : decide ((i : Int) < (kids.length : Int)) = false := by simpa using hlt
      have hi2 : i = kids.length := by have := hi; omega
      subst hi2
      repeat' ((conv => whnf); first | refine stp ?_ | with_reducible refine condB (fun h => ?_) (fun h => ?_))
      simp only [List.take_length]; rfl
theorem sizeX_ok : ∀ (n : Nat) (e : Ex), sizeE e ≤ n → sizeE e ≤ 1048576 → ValOK Tryz.prog gl 27 [.agg e.cells] (.int .i64 (sizeE e))
  | 0, e, h, _ => by have := sizeE_pos e; omega
  | n + 1, .mk op num name kids, h, hb => by
    simp only [sizeE] at h hb ⊢
    obtain ⟨O, hO, q, -⟩ := fams (P := Tryz.prog) (gl := gl) [famE (g := 27) (by kernel_rfl) (fun k => .int .i64 (sizeE k)) kids fun k hk => sizeX_ok n k (by have := sizeL_mem _ _ hk; omega) (by have := sizeL_mem _ _ hk; omega)] rfl
    have hlen := sizeL_len kids
    simp only [Ex.cells]
    refine fn_val follows noNum hO Tryz.func27 rfl ?_
    repeat' ((conv => whnf); first | refine stp ?_ | with_reducible refine condB (fun h => ?_) (fun h => ?_))
    conv => whnf
    refine ⟨Nat, (fun i => i ≤ kids.length), (fun i => [(3, .int .i64 (1 + sizeL (kids.take i) : Nat)), (7, .rs kids.length 4 (exC kids)), (8, .int .i64 kids.length), (9, .int .i64 i)]), (fun _ => []), (fun i => kids.length - i), ⟨0, Nat.zero_le _, FgL.mk0 rfl ?_⟩, ?_⟩
    · simp only [List.take_zero, sizeL]; (repeat (first | exact trivial | refine stw ?_))
    intro i hi
    dsimp only
    by_cases hlt : i < kids.length
    · have e1 : decide ((i : Int) < (kids.length : Int)) = true := by simpa using hlt
      have hx := ex4 kids i hlt
      have hs := sizeL_take kids i hlt
      have hg := sizeL_get kids i hlt
      have q1 : ∀ H, acall Tryz.prog O H 27 [.agg kids[i].cells] = some (.int .i64 (sizeE kids[i]), H) := q _ (get_mem hlt)
      generalize kids[i] = k at *
      obtain ⟨ko, kn, ks, kk⟩ := k
      simp only [Ex.cells] at hx q1
      repeat' ((conv => whnf); first | (refine exI hx ?_) | (with_reducible refine exI (q1 _) ?_) | (with_reducible refine ixJ i rfl ?_ ?_; (focus (omega))) | (first | refine stp ?_ | with_reducible refine condB (fun h => ?_) (fun h => ?_)))
      conv => whnf
      refine ⟨i + 1, hlt, by show kids.length - (i + 1) < kids.length - i; omega, FgL.mk0 rfl ?_⟩
      rw [hs, ← Nat.add_assoc]; (repeat (first | exact trivial | refine stw ?_))
    · have e1 : decide ((i : Int) < (kids.length : Int)) = false := by simpa using hlt
      have hi2 : i = kids.length := by have := hi; omega
      subst hi2
      repeat' ((conv => whnf); first | refine stp ?_ | with_reducible refine condB (fun h => ?_) (fun h => ?_))
      simp only [List.take_length]; rfl
theorem grownX_ok (nm : List UInt8) (m : Nat) (hm : m ≤ 1048576) : ∀ (n : Nat) (e : Ex), sizeE e ≤ n → sizeE e ≤ 1048576 → ValOK Tryz.prog gl 26 [.agg e.cells, .str nm, .int .i64 m] (.int .i64 (growE nm m e))
  | 0, e, h, _ => by have := sizeE_pos e; omega
  | n + 1, .mk op num name kids, h, hb => by
    simp only [sizeE] at h hb
    simp only [growE]
    obtain ⟨O, hO, p1, -⟩ := fams (P := Tryz.prog) (gl := gl) [{ I := Ex, f := 26, G := fun k => k ∈ kids, A := fun k => [.agg k.cells, .str nm, .int .i64 m], R := fun k => .int .i64 (growE nm m k), body := (by kernel_rfl), inj := (fun i j _ _ h => by simp only [List.cons.injEq] at h; rw [agg_inj (a := i) (b := j) (by rw [h.1])]), ok := (fun k hk => ⟨by obtain ⟨a, b, c, d⟩ := k; rfl, grownX_ok nm m hm n k (by have := sizeL_mem _ _ hk; omega) (by have := sizeL_mem _ _ hk; omega)⟩) }] rfl
    have q : ∀ k ∈ kids, ∀ H, acall Tryz.prog O H 26 [.agg k.cells, .str nm, .int .i64 m] = some (.int .i64 (growE nm m k), H) := p1
    clear p1
    have hlen := sizeL_len kids
    have hgl := growL_le nm m kids
    simp only [Ex.cells]
    cases ho : (op == 2) with
    | false =>
      simp only [Bool.false_and, cond_false]
      refine fn_val follows noNum hO Tryz.func26 rfl ?_
      repeat' ((conv => whnf); first | refine stp ?_ | with_reducible refine condB (fun h => ?_) (fun h => ?_))
      conv => whnf
      refine ⟨Nat, (fun i => i ≤ kids.length), (fun i => [(1, .str nm), (2, .int .i64 m), (7, .int .i64 (1 + growL nm m (kids.take i) : Nat)), (21, .rs kids.length 4 (exC kids)), (22, .int .i64 kids.length), (23, .int .i64 i)]), (fun _ => []), (fun i => kids.length - i), ⟨0, Nat.zero_le _, FgL.mk0 rfl ?_⟩, ?_⟩
      · simp only [List.take_zero, growL]; exact ⟨Wk.noref rfl, Wk.int rfl, Wk.int rfl, Wk.noref rfl, Wk.int rfl, Wk.int rfl, trivial⟩
      intro i hi
      dsimp only
      by_cases hlt : i < kids.length
      · have e1 : decide ((i : Int) < (kids.length : Int)) = true := by simpa using hlt
        have hx := ex4 kids i hlt
        have hs := growL_take nm m kids i hlt
        have hle := growL_take_le nm m kids (i + 1)
        have q1 := q _ (get_mem hlt)
        generalize kids[i] = k at *
        obtain ⟨ko, kn, ks, kk⟩ := k
        simp only [Ex.cells] at hx q1
        have hbig : sizeL kids * (m + 1) ≤ 1048576 * 1048577 := Nat.mul_le_mul (by omega) (by omega)
        generalize growE nm m (Ex.mk ko kn ks kk) = g at *
        generalize sizeL kids * (m + 1) = big at *
        repeat' ((conv => whnf); first | (refine exI hx ?_) | (with_reducible refine exI (q1 _) ?_) | (with_reducible refine ixJ i rfl ?_ ?_; (focus (omega))) | (first | refine stp ?_ | with_reducible refine condB (fun h => ?_) (fun h => ?_)))
        conv => whnf
        refine ⟨i + 1, hlt, by show kids.length - (i + 1) < kids.length - i; omega, FgL.mk0 rfl ?_⟩
        rw [hs, ← Nat.add_assoc]; exact ⟨Wk.noref rfl, Wk.int rfl, Wk.int rfl, Wk.noref rfl, Wk.int rfl, Wk.int rfl, trivial⟩
      · have e1 : decide ((i : Int) < (kids.length : Int)) = false := by simpa using hlt
        have hi2 : i = kids.length := by have := hi; omega
        subst hi2
        repeat' ((conv => whnf); first | refine stp ?_ | with_reducible refine condB (fun h => ?_) (fun h => ?_))
        simp only [List.take_length]; rfl
    | true =>
      cases hn : (name == nm) with
      | true =>
        simp only [Bool.and_self, cond_true]
        refine fn_val follows noNum hO Tryz.func26 rfl ?_
        repeat' ((conv => whnf); first | refine stp ?_ | with_reducible refine condB (fun h => ?_) (fun h => ?_))
        all_goals rfl
      | false =>
        simp only [Bool.and_false, cond_false]
        refine fn_val follows noNum hO Tryz.func26 rfl ?_
        repeat' ((conv => whnf); first | refine stp ?_ | with_reducible refine condB (fun h => ?_) (fun h => ?_))
        conv => whnf
        refine ⟨Nat, (fun i => i ≤ kids.length), (fun i => [(1, .str nm), (2, .int .i64 m), (7, .int .i64 (1 + growL nm m (kids.take i) : Nat)), (21, .rs kids.length 4 (exC kids)), (22, .int .i64 kids.length), (23, .int .i64 i)]), (fun _ => []), (fun i => kids.length - i), ⟨0, Nat.zero_le _, FgL.mk0 rfl ?_⟩, ?_⟩
        · simp only [List.take_zero, growL]; exact ⟨Wk.noref rfl, Wk.int rfl, Wk.int rfl, Wk.noref rfl, Wk.int rfl, Wk.int rfl, trivial⟩
        intro i hi
        dsimp only
        by_cases hlt : i < kids.length
        · have e1 : decide ((i : Int) < (kids.length : Int)) = true := by simpa using hlt
          have hx := ex4 kids i hlt
          have hs := growL_take nm m kids i hlt
          have hle := growL_take_le nm m kids (i + 1)
          have q1 := q _ (get_mem hlt)
          generalize kids[i] = k at *
          obtain ⟨ko, kn, ks, kk⟩ := k
          simp only [Ex.cells] at hx q1
          have hbig : sizeL kids * (m + 1) ≤ 1048576 * 1048577 := Nat.mul_le_mul (by omega) (by omega)
          generalize growE nm m (Ex.mk ko kn ks kk) = g at *
          generalize sizeL kids * (m + 1) = big at *
          repeat' ((conv => whnf); first | (refine exI hx ?_) | (with_reducible refine exI (q1 _) ?_) | (with_reducible refine ixJ i rfl ?_ ?_; (focus (omega))) | (first | refine stp ?_ | with_reducible refine condB (fun h => ?_) (fun h => ?_)))
          conv => whnf
          refine ⟨i + 1, hlt, by show kids.length - (i + 1) < kids.length - i; omega, FgL.mk0 rfl ?_⟩
          rw [hs, ← Nat.add_assoc]; exact ⟨Wk.noref rfl, Wk.int rfl, Wk.int rfl, Wk.noref rfl, Wk.int rfl, Wk.int rfl, trivial⟩
        · have e1 : decide ((i : Int) < (kids.length : Int)) = false := by simpa using hlt
          have hi2 : i = kids.length := by have := hi; omega
          subst hi2
          repeat' ((conv => whnf); first | refine stp ?_ | with_reducible refine condB (fun h => ?_) (fun h => ?_))
          simp only [List.take_length]; rfl
theorem put_self {b : Ex} : ∀ {e : Ex}, goodE e → putE [] b e = e := by
  have key : ∀ n (e : Ex), sizeE e ≤ n → goodE e → putE [] b e = e := by
    intro n
    induction n with
    | zero => intro e h _; have := sizeE_pos e; omega
    | succ n ih =>
      intro e h hg
      obtain ⟨op, num, name, kids⟩ := e
      simp only [sizeE] at h
      have hh : (op == 2 && name == []) = false := by
        have h1 := hg.1
        simp only [rightE, Bool.and_eq_true, ownF] at h1
        cases ho : (op == 2) with
        | false => rfl
        | true =>
          cases hn : (name == ([] : List UInt8)) with
          | false => rfl
          | true =>
            have : name = [] := by simpa using hn
            subst this
            rw [ho] at h1
            simp [wordB_nil] at h1
      simp only [putE, hh, cond_false]
      rw [putL_map]
      congr 1
      have hk := (goodE_kids hg).2.1
      have : kids.map (putE [] b) = kids.map id := List.map_congr_left fun x hx => ih x (by have := sizeL_mem _ _ hx; omega) (hk x hx)
      rw [this, List.map_id]
  exact fun {e} hg => key _ e (Nat.le_refl _) hg
theorem hit_ne {nm : List UInt8} {op num : Int} {name : List UInt8} {kids : List Ex} (hg : goodE (.mk op num name kids)) (h1 : (op == 2) = true) (h2 : (name == nm) = true) : nm ≠ [] := by
  intro e
  subst e
  have h1' := hg.1
  have : name = [] := by simpa using h2
  subst this
  simp only [rightE, Bool.and_eq_true, ownF] at h1'
  rw [h1] at h1'
  simp [wordB_nil] at h1'
theorem putX_core (nm : List UInt8) (b : Ex) (hself : nm ≠ [] → ValOK Tryz.prog gl 28 [.agg b.cells, .str [], .agg b.cells] (.agg b.cells)) : ∀ (n : Nat) (e : Ex), sizeE e ≤ n → goodE e → sizeE e ≤ 1048576 → ValOK Tryz.prog gl 28 [.agg e.cells, .str nm, .agg b.cells] (.agg (putE nm b e).cells)
  | 0, e, h, _, _ => by have := sizeE_pos e; omega
  | n + 1, .mk op num name kids, h, hg, hs => by
    have hlen := sizeL_len kids
    simp only [sizeE] at h hs
    have hm := mkE_ok kids.length (by omega)
    have hkg := (goodE_kids hg).2.1
    obtain ⟨O, hO, p1, -⟩ := fams (P := Tryz.prog) (gl := gl) [{ I := Option Ex, f := 28, G := fun x => match x with | none => nm ≠ [] | some x => x ∈ kids, A := fun x => match x with | none => [.agg b.cells, .str [], .agg b.cells] | some x => [.agg x.cells, .str nm, .agg b.cells], R := fun x => match x with | none => .agg b.cells | some x => .agg (putE nm b x).cells, body := (by kernel_rfl), inj := (fun i j hi hj h => by
        cases i with
        | none =>
          cases j with
          | none => rfl
          | some y => simp only [List.cons.injEq, AV.str.injEq] at h; exact absurd h.2.1.symm hi
        | some x =>
          cases j with
          | none => simp only [List.cons.injEq, AV.str.injEq] at h; exact absurd h.2.1 hj
          | some y => simp only [List.cons.injEq] at h; rw [agg_inj (a := x) (b := y) (by rw [h.1])]), ok := (fun x hx => match x, hx with
        | none, hx => ⟨by obtain ⟨a', b', c', d'⟩ := b; rfl, hself hx⟩
        | some x, hx => ⟨by obtain ⟨a', b', c', d'⟩ := b; obtain ⟨a2, b2, c2, d2⟩ := x; rfl, putX_core nm b hself n x (by have := sizeL_mem _ _ hx; omega) (hkg x hx) (by have := sizeL_mem _ _ hx; omega)⟩) }] rfl
    have q1 : ∀ x ∈ kids, ∀ H, acall Tryz.prog O H 28 [.agg x.cells, .str nm, .agg b.cells] = some (.agg (putE nm b x).cells, H) := fun x hx => p1 (some x) hx
    have q2 : nm ≠ [] → ∀ H, acall Tryz.prog O H 28 [.agg b.cells, .str [], .agg b.cells] = some (.agg b.cells, H) := fun h => p1 none h
    clear p1
    have hne := hit_ne (nm := nm) hg
    obtain ⟨bo, bn, bs, bk⟩ := b
    simp only [putE]
    cases ho : (op == 2) with
    | false =>
      simp only [Bool.false_and, cond_false, Ex.cells, exA] at q1 ⊢
      refine fn_valW follows noNum hO Tryz.func28 rfl ?_
      repeat' ((conv => whnf); first | (refine exI (hm _) ?_) | (first | refine stp ?_ | with_reducible refine condB (fun h => ?_) (fun h => ?_)))
      conv => whnf
      obtain ⟨ks, hks⟩ : ∃ ks, kids.map (putE nm (.mk bo bn bs bk)) = ks := ⟨_, rfl⟩
      have hksl : ks.length = kids.length := by rw [← hks]; simp
      rw [putL_map, hks]
      refine ⟨Nat, (fun i => i ≤ kids.length), (fun i => [(1, .str nm), (3, .ptr 0 0), (5, .ptr 1 0), (6, .ptr 2 0), (7, .slice 3 0 kids.length kids.length 4), (27, .rs kids.length 4 (exC kids)), (28, .int .i64 kids.length), (29, .int .i64 i)]),
        (fun i => [⟨true, 0, 0, .cells [.int .i64 op, .int .i64 num, .str name, .rs kids.length 4 (exC kids)] 24⟩, ⟨true, 1, 0, .cells [.int .i64 bo, .int .i64 bn, .str bs, .rs bk.length 4 (exC bk)] 24⟩, ⟨true, 2, 0, .cells [.int .i64 0, .int .i64 0, .str [], .nslice] 24⟩, ⟨true, 3, 0, .cells (exAt ks i) 24⟩]), (fun i => kids.length - i), ⟨0, Nat.zero_le _, ?_⟩, ?_⟩
      · refine FgL.mk [0, 1, 2, 3] rfl ⟨Wk.noref rfl, Wk.ptr rfl rfl, Wk.ptr rfl rfl, Wk.ptr rfl rfl, Wk.slice rfl rfl rfl (Nat.le_refl _) (Nat.le_refl _) rfl, Wk.noref rfl, Wk.int rfl, Wk.int rfl, trivial⟩ ⟨⟨rfl, rfl, rfl, rfl, BodyGe.pre (rest := []) rfl rfl⟩, ⟨rfl, rfl, rfl, rfl, BodyGe.pre (rest := []) rfl rfl⟩, ⟨rfl, rfl, rfl, rfl, BodyGe.pre (rest := []) rfl rfl⟩, ⟨rfl, rfl, rfl, rfl, BodyGe.pre (rest := []) ?_ (exAt_refs _ _)⟩, trivial⟩ rfl
        rw [exAt_zero, hksl]; simp
      intro i hi
      dsimp only
      by_cases hlt : i < kids.length
      · have e1 : decide ((i : Int) < (kids.length : Int)) = true := by simpa using hlt
        have hlk : i < ks.length := by omega
        have hx := ex4 kids i hlt
        have q3 := q1 kids[i] (get_mem hlt)
        have hxs : putE nm (.mk bo bn bs bk) kids[i] = ks[i] := by simp only [← hks, List.getElem_map]
        have hsp := exAt_set ks i (0 + i * 4) hlk (by omega)
        have hrf := exAt_refs ks (i + 1)
        rw [hxs] at q3
        generalize hnx : exAt ks (i + 1) = nx at *
        generalize exAt ks i = cx at *
        generalize ks[i] = y at *
        generalize kids[i] = x at *
        clear hxs q1 q2
        obtain ⟨xo, xn, xs, xk⟩ := x
        obtain ⟨yo, yn, ys, yk⟩ := y
        simp only [Ex.cells, exA] at hx q3 hsp
        repeat' ((conv => whnf); first | (with_reducible refine exI (q3 _) ?_) | (with_reducible refine ixJ i rfl ?_ ?_; (focus (omega))) | (refine exI hx ?_) | (refine exI hsp ?_) | (first | refine stp ?_ | with_reducible refine condB (fun h => ?_) (fun h => ?_)))
        conv => whnf
        refine ⟨i + 1, hlt, by show kids.length - (i + 1) < kids.length - i; omega, ?_⟩
        rw [hnx]
        exact FgL.mk [0, 1, 2, 3] rfl ⟨Wk.noref rfl, Wk.ptr rfl rfl, Wk.ptr rfl rfl, Wk.ptr rfl rfl, Wk.slice rfl rfl rfl (Nat.le_refl _) (Nat.le_refl _) rfl, Wk.noref rfl, Wk.int rfl, Wk.int rfl, trivial⟩ ⟨⟨rfl, rfl, rfl, rfl, BodyGe.pre (rest := []) rfl rfl⟩, ⟨rfl, rfl, rfl, rfl, BodyGe.pre (rest := []) rfl rfl⟩, ⟨rfl, rfl, rfl, rfl, BodyGe.pre (rest := []) rfl rfl⟩, ⟨rfl, rfl, rfl, rfl, BodyGe.pre (rest := []) (by simp) hrf⟩, trivial⟩ rfl
      · have e1 : decide ((i : Int) < (kids.length : Int)) = false := by simpa using hlt
        have hi2 : i = kids.length := by have := hi; omega
        subst hi2
        have hx1 : exAt ks kids.length = exC ks := by rw [← hksl]; exact exAt_all ks
        rw [hx1]
        have hfz : ∀ (H : AHeap) (f : Nat) (ty : TypeId), H[3]? = some ⟨true, f, 0, .cells (exC ks) ty⟩ → frz H 30 (.agg [.int .i64 op, .int .i64 num, .str name, .slice 3 0 kids.length kids.length 4]) = some (.agg [.int .i64 op, .int .i64 num, .str name, .rs ks.length 4 (exC ks)]) := fun H f ty hH => frz_agg4 rfl rfl rfl (by rw [← hksl]; exact frz_sliceF hH (exC_len ks) (exC_flat ks))
        repeat' ((conv => whnf); first | (refine exI (hfz _ _ _ rfl) ?_) | (first | refine stp ?_ | with_reducible refine condB (fun h => ?_) (fun h => ?_)))
        all_goals exact fun _ _ h => h
    | true =>
      cases hn : (name == nm) with
      | true =>
        replace q2 := q2 (hne ho hn)
        simp only [Bool.and_self, cond_true, Ex.cells, exA] at q2 ⊢
        refine fn_valW follows noNum hO Tryz.func28 rfl ?_
        repeat' ((conv => whnf); first | (with_reducible refine exI (q2 _) ?_) | (first | refine stp ?_ | with_reducible refine condB (fun h => ?_) (fun h => ?_)))
        all_goals exact fun _ _ h => h
      | false =>
        simp only [Bool.and_false, cond_false, Ex.cells, exA] at q1 ⊢
        refine fn_valW follows noNum hO Tryz.func28 rfl ?_
        repeat' ((conv => whnf); first | (refine exI (hm _) ?_) | (first | refine stp ?_ | with_reducible refine condB (fun h => ?_) (fun h => ?_)))
        conv => whnf
        obtain ⟨ks, hks⟩ : ∃ ks, kids.map (putE nm (.mk bo bn bs bk)) = ks := ⟨_, rfl⟩
        have hksl : ks.length = kids.length := by rw [← hks]; simp
        rw [putL_map, hks]
        refine ⟨Nat, (fun i => i ≤ kids.length), (fun i => [(1, .str nm), (3, .ptr 0 0), (5, .ptr 1 0), (6, .ptr 2 0), (7, .slice 3 0 kids.length kids.length 4), (27, .rs kids.length 4 (exC kids)), (28, .int .i64 kids.length), (29, .int .i64 i)]),
          (fun i => [⟨true, 0, 0, .cells [.int .i64 op, .int .i64 num, .str name, .rs kids.length 4 (exC kids)] 24⟩, ⟨true, 1, 0, .cells [.int .i64 bo, .int .i64 bn, .str bs, .rs bk.length 4 (exC bk)] 24⟩, ⟨true, 2, 0, .cells [.int .i64 0, .int .i64 0, .str [], .nslice] 24⟩, ⟨true, 3, 0, .cells (exAt ks i) 24⟩]), (fun i => kids.length - i), ⟨0, Nat.zero_le _, ?_⟩, ?_⟩
        · refine FgL.mk [0, 1, 2, 3] rfl ⟨Wk.noref rfl, Wk.ptr rfl rfl, Wk.ptr rfl rfl, Wk.ptr rfl rfl, Wk.slice rfl rfl rfl (Nat.le_refl _) (Nat.le_refl _) rfl, Wk.noref rfl, Wk.int rfl, Wk.int rfl, trivial⟩ ⟨⟨rfl, rfl, rfl, rfl, BodyGe.pre (rest := []) rfl rfl⟩, ⟨rfl, rfl, rfl, rfl, BodyGe.pre (rest := []) rfl rfl⟩, ⟨rfl, rfl, rfl, rfl, BodyGe.pre (rest := []) rfl rfl⟩, ⟨rfl, rfl, rfl, rfl, BodyGe.pre (rest := []) ?_ (exAt_refs _ _)⟩, trivial⟩ rfl
          rw [exAt_zero, hksl]; simp
        intro i hi
        dsimp only
        by_cases hlt : i < kids.length
        · have e1 : decide ((i : Int) < (kids.length : Int)) = true := by simpa using hlt
          have hlk : i < ks.length := by omega
          have hx := ex4 kids i hlt
          have q3 := q1 kids[i] (get_mem hlt)
          have hxs : putE nm (.mk bo bn bs bk) kids[i] = ks[i] := by simp only [← hks, List.getElem_map]
          have hsp := exAt_set ks i (0 + i * 4) hlk (by omega)
          have hrf := exAt_refs ks (i + 1)
          rw [hxs] at q3
          generalize hnx : exAt ks (i + 1) = nx at *
          generalize exAt ks i = cx at *
          generalize ks[i] = y at *
          generalize kids[i] = x at *
          clear hxs q1 q2
          obtain ⟨xo, xn, xs, xk⟩ := x
          obtain ⟨yo, yn, ys, yk⟩ := y
          simp only [Ex.cells, exA] at hx q3 hsp
          repeat' ((conv => whnf); first | (with_reducible refine exI (q3 _) ?_) | (with_reducible refine ixJ i rfl ?_ ?_; (focus (omega))) | (refine exI hx ?_) | (refine exI hsp ?_) | (first | refine stp ?_ | with_reducible refine condB (fun h => ?_) (fun h => ?_)))
          conv => whnf
          refine ⟨i + 1, hlt, by show kids.length - (i + 1) < kids.length - i; omega, ?_⟩
          rw [hnx]
          exact FgL.mk [0, 1, 2, 3] rfl ⟨Wk.noref rfl, Wk.ptr rfl rfl, Wk.ptr rfl rfl, Wk.ptr rfl rfl, Wk.slice rfl rfl rfl (Nat.le_refl _) (Nat.le_refl _) rfl, Wk.noref rfl, Wk.int rfl, Wk.int rfl, trivial⟩ ⟨⟨rfl, rfl, rfl, rfl, BodyGe.pre (rest := []) rfl rfl⟩, ⟨rfl, rfl, rfl, rfl, BodyGe.pre (rest := []) rfl rfl⟩, ⟨rfl, rfl, rfl, rfl, BodyGe.pre (rest := []) rfl rfl⟩, ⟨rfl, rfl, rfl, rfl, BodyGe.pre (rest := []) (by simp) hrf⟩, trivial⟩ rfl
        · have e1 : decide ((i : Int) < (kids.length : Int)) = false := by simpa using hlt
          have hi2 : i = kids.length := by have := hi; omega
          subst hi2
          have hx1 : exAt ks kids.length = exC ks := by rw [← hksl]; exact exAt_all ks
          rw [hx1]
          have hfz : ∀ (H : AHeap) (f : Nat) (ty : TypeId), H[3]? = some ⟨true, f, 0, .cells (exC ks) ty⟩ → frz H 30 (.agg [.int .i64 op, .int .i64 num, .str name, .slice 3 0 kids.length kids.length 4]) = some (.agg [.int .i64 op, .int .i64 num, .str name, .rs ks.length 4 (exC ks)]) := fun H f ty hH => frz_agg4 rfl rfl rfl (by rw [← hksl]; exact frz_sliceF hH (exC_len ks) (exC_flat ks))
          repeat' ((conv => whnf); first | (refine exI (hfz _ _ _ rfl) ?_) | (first | refine stp ?_ | with_reducible refine condB (fun h => ?_) (fun h => ?_)))
          all_goals exact fun _ _ h => h
theorem putX_ok (nm : List UInt8) (b e : Ex) (hb : goodE b) (hg : goodE e) (hbs : sizeE b ≤ 1048576) (hs : sizeE e ≤ 1048576) : ValOK Tryz.prog gl 28 [.agg e.cells, .str nm, .agg b.cells] (.agg (putE nm b e).cells) := by
  have h0 := putX_core (gl := gl) [] b (fun h => absurd rfl h) _ b (Nat.le_refl _) hb hbs
  rw [put_self hb] at h0
  exact putX_core nm b (fun _ => h0) _ e (Nat.le_refl _) hg hs
end Go.Proofs.YtcbjhdklbhlmhaaGreatDoor.lex
end

/-
  Put: the document's.
-/
section
set_option linter.unusedVariables false
set_option linter.unusedSimpArgs false
namespace Go.Proofs.YtcbjhdklbhlmhaaGreatDoor.lex
open Go.Abs Go.RowKit
set_option maxRecDepth 100000
set_option maxHeartbeats 4000000
variable {gl : Glob}
theorem putPL_at (nm : List UInt8) (b : Ex) : ∀ (k : List Ex) (l : Int) (i : Nat) (h : i < k.length), 0 ≤ (putPL nm b (k.take i) l).2 → putPL nm b (k.take (i + 1)) l = ((putPL nm b (k.take i) l).1 ++ [(putP nm b k[i] (putPL nm b (k.take i) l).2).1], (putP nm b k[i] (putPL nm b (k.take i) l).2).2)
  | e :: k, l, 0, h, h0 => by
    simp only [List.take_zero, putPL] at h0
    simp only [List.take_succ_cons, List.take_zero, putPL, List.getElem_cons_zero, List.nil_append]
    rw [show decide (0 ≤ l) = true by simpa using h0]
    simp only [cond_true]
  | e :: k, l, i + 1, h, h0 => by
    simp only [List.take_succ_cons, putPL] at h0 ⊢
    by_cases hl : 0 ≤ l
    · rw [show decide (0 ≤ l) = true by simpa using hl] at h0 ⊢
      simp only [cond_true] at h0 ⊢
      have := putPL_at nm b k (putP nm b e l).2 i (by simpa using h) h0
      rw [this]
      simp only [List.getElem_cons_succ, List.cons_append]
    · rw [show decide (0 ≤ l) = false by simpa using hl] at h0
      simp only [cond_false] at h0
      omega
theorem putPL_stop (nm : List UInt8) (b : Ex) : ∀ (k : List Ex) (l : Int) (i : Nat), (putPL nm b (k.take i) l).2 < 0 → putPL nm b k l = putPL nm b (k.take i) l
  | [], l, i, h => by simp
  | e :: k, l, 0, h => by
    simp only [List.take_zero, putPL] at h ⊢
    rw [show decide (0 ≤ l) = false by simpa using h]
    simp only [cond_false]
  | e :: k, l, i + 1, h => by
    simp only [List.take_succ_cons, putPL] at h ⊢
    by_cases hl : 0 ≤ l
    · rw [show decide (0 ≤ l) = true by simpa using hl] at h ⊢
      simp only [cond_true] at h ⊢
      rw [putPL_stop nm b k _ i h]
    · rw [show decide (0 ≤ l) = false by simpa using hl]
      simp only [cond_false]
mutual
theorem putP_le (nm : List UInt8) (b : Ex) : ∀ (e : Ex) (l : Int), (putP nm b e l).2 ≤ l ∧ (0 ≤ l → -(sizeE b : Int) - 1 ≤ (putP nm b e l).2)
  | .mk op num name kids, l => by
    simp only [putP]
    cases (op == 2 && name == nm) with
    | true => simp only [cond_true]; omega
    | false =>
      have := putPL_le nm b kids (l - 1)
      simp only [cond_false]
      exact ⟨by omega, fun h => this.2 (by omega)⟩
theorem putPL_le (nm : List UInt8) (b : Ex) : ∀ (k : List Ex) (l : Int), (putPL nm b k l).2 ≤ l ∧ (-1 ≤ l → -(sizeE b : Int) - 1 ≤ (putPL nm b k l).2)
  | [], l => by simp only [putPL]; exact ⟨Int.le_refl _, fun h => by omega⟩
  | e :: k, l => by
    simp only [putPL]
    by_cases hl : 0 ≤ l
    · rw [show decide (0 ≤ l) = true by simpa using hl]
      simp only [cond_true]
      have h1 := putP_le nm b e l
      have h2 := putPL_le nm b k (putP nm b e l).2
      refine ⟨by omega, fun _ => ?_⟩
      by_cases h3 : -1 ≤ (putP nm b e l).2
      · exact h2.2 h3
      · have h4 : putPL nm b k (putP nm b e l).2 = ([], (putP nm b e l).2) := by
          cases k with
          | nil => simp only [putPL]
          | cons x k => simp only [putPL]; rw [show decide (0 ≤ (putP nm b e l).2) = false by simp; omega]; rfl
        rw [h4]; exact h1.2 hl
    · rw [show decide (0 ≤ l) = false by simpa using hl]
      simp only [cond_false]
      exact ⟨Int.le_refl _, fun h => by omega⟩
end
theorem putPL_len (nm : List UInt8) (b : Ex) : ∀ (k : List Ex) (l : Int), (putPL nm b k l).1.length ≤ k.length
  | [], l => by simp [putPL]
  | e :: k, l => by
    simp only [putPL]
    cases decide (0 ≤ l) with
    | true => have := putPL_len nm b k (putP nm b e l).2; simp only [cond_true, List.length_cons]; omega
    | false => simp
theorem put_args (nm : List UInt8) (b x : Ex) (l : Int) : refsL [.agg x.cells, .str nm, .agg b.cells, .int .i64 l] [] = [] := by
  obtain ⟨a1, b1, c1, d1⟩ := x
  obtain ⟨a2, b2, c2, d2⟩ := b
  rfl
def famPut (nm : List UInt8) (b : Ex) (kids : List Ex) (h : ∀ x : Ex × Int, (x.1 ∈ kids ∧ 0 ≤ x.2 ∧ x.2 ≤ 1048576) → ValOK Tryz.prog gl 29 [.agg x.1.cells, .str nm, .agg b.cells, .int .i64 x.2] (.tuple [.agg (putP nm b x.1 x.2).1.cells, .int .i64 (putP nm b x.1 x.2).2])) : Fam Tryz.prog gl where
  I := Ex × Int
  f := 29
  G := fun x => x.1 ∈ kids ∧ 0 ≤ x.2 ∧ x.2 ≤ 1048576
  A := fun x => [.agg x.1.cells, .str nm, .agg b.cells, .int .i64 x.2]
  R := fun x => .tuple [.agg (putP nm b x.1 x.2).1.cells, .int .i64 (putP nm b x.1 x.2).2]
  body := by kernel_rfl
  inj := fun i j _ _ h => by
    simp only [List.cons.injEq, AV.int.injEq, and_true, true_and] at h
    rw [agg_inj (a := i.1) (b := j.1) (by rw [h.1]), h.2]
  ok := fun x hx => ⟨put_args nm b x.1 x.2, h x hx⟩
theorem putR_ok (nm : List UInt8) (b : Ex) (hbo : okE b) (hbs : sizeE b ≤ 1048576) : ∀ (n : Nat) (e : Ex) (l : Int), sizeE e ≤ n → okE e → sizeE e ≤ 1048576 → 0 ≤ l → l ≤ 1048576 → ValOK Tryz.prog gl 29 [.agg e.cells, .str nm, .agg b.cells, .int .i64 l] (.tuple [.agg (putP nm b e l).1.cells, .int .i64 (putP nm b e l).2])
  | 0, e, l, h, _, _, _, _ => by have := sizeE_pos e; omega
  | n + 1, .mk op num name kids, l, h, hok, hs, hl0, hl1 => by
    have hlen := sizeL_len kids
    simp only [sizeE] at h hs
    have hki := okE_kids hok
    simp only [Ex.kids, Ex.name, okN] at hki
    have hT : appT Tryz.prog 22 22 = some (24, 4, 56) := by kernel_rfl
    obtain ⟨O, hO, p1, p2, p3, -⟩ := fams (P := Tryz.prog) (gl := gl) [famPut nm b kids (fun x hx => putR_ok nm b hbo hbs n x.1 x.2 (by have := sizeL_mem _ _ hx.1; omega) (okL_get hki.2 _ hx.1) (by have := sizeL_mem _ _ hx.1; omega) hx.2.1 hx.2.2),
      famOne (f := 46) (by kernel_rfl) b True (.agg b.cells) (fun _ => copyR_ok _ b (Nat.le_refl _) hbo hbs),
      famOne (f := 48) (by kernel_rfl) b True (.int .i64 (sizeE b)) (fun _ => countR_ok _ b (Nat.le_refl _) hbs)] rfl
    have q1 : ∀ x ∈ kids, ∀ l, 0 ≤ l → l ≤ 1048576 → ∀ H, acall Tryz.prog O H 29 [.agg x.cells, .str nm, .agg b.cells, .int .i64 l] = some (.tuple [.agg (putP nm b x l).1.cells, .int .i64 (putP nm b x l).2], H) := fun x hx l h1 h2 => p1 (x, l) ⟨hx, h1, h2⟩
    have q2 : ∀ H, acall Tryz.prog O H 46 [.agg b.cells] = some (.agg b.cells, H) := p2 () trivial
    have q3 : ∀ H, acall Tryz.prog O H 48 [.agg b.cells] = some (.int .i64 (sizeE b), H) := p3 () trivial
    clear p1 p2 p3
    have hle := putPL_le nm b kids (l - 1)
    generalize hbz : sizeE b = bz at *
    simp only [putP, hbz]
    cases ho : (op == 2) with
    | false =>
      simp only [Bool.false_and, cond_false, Ex.cells, exA]
      refine fn_valW follows noNum hO Tryz.func29 rfl ?_
      obtain ⟨bo, bn, bs, bk⟩ := b
      simp only [Ex.cells, exA] at q1 ⊢
      repeat' ((conv => whnf); first | refine stp ?_ | with_reducible refine condB (fun h => ?_) (fun h => ?_))
      conv => whnf
      obtain ⟨st, hst⟩ : ∃ st : Nat → List Ex × Int, (fun i => putPL nm (.mk bo bn bs bk) (kids.take i) (l - 1)) = st := ⟨_, rfl⟩
      have hsti : ∀ i, putPL nm (.mk bo bn bs bk) (kids.take i) (l - 1) = st i := fun i => congrFun hst i
      refine ⟨Nat, (fun i => i ≤ kids.length), (fun i => [(1, .str nm), (3, .int .i64 (st i).2), (4, .ptr 0 0), (6, .ptr 1 0), (8, .ptr 2 0), (10, .ptr 3 0), (11, .int .i64 i)]),
        (fun i => ⟨true, 0, 0, .cells [.int .i64 op, .int .i64 num, .str name, .rs kids.length 4 (exC kids)] 24⟩ :: ⟨true, 1, 0, .cells [.int .i64 bo, .int .i64 bn, .str bs, .rs bk.length 4 (exC bk)] 24⟩ :: ⟨true, 2, 0, .cells [.int .i64 0, .int .i64 0, .str [], .nslice] 24⟩ :: ⟨true, 3, 0, .cells [.int .i64 op, .int .i64 num, .str name, grA 4 4 (st i).1] 24⟩ :: grB 4 exC 24 (st i).1), (fun i => kids.length - i), ⟨0, Nat.zero_le _, ?_⟩, ?_⟩
      · have h0 : st 0 = ([], l - 1) := by rw [← hsti 0]; simp only [List.take_zero, putPL]
        dsimp only; rw [h0]
        exact FgL.mk [0, 1, 2, 3] rfl ⟨Wk.noref rfl, Wk.int rfl, Wk.ptr rfl rfl, Wk.ptr rfl rfl, Wk.ptr rfl rfl, Wk.ptr rfl rfl, Wk.int rfl, trivial⟩ ⟨⟨rfl, rfl, rfl, rfl, BodyGe.pre (rest := []) rfl rfl⟩, ⟨rfl, rfl, rfl, rfl, BodyGe.pre (rest := []) rfl rfl⟩, ⟨rfl, rfl, rfl, rfl, BodyGe.pre (rest := []) rfl rfl⟩, ⟨rfl, rfl, rfl, rfl, BodyGe.pre (rest := []) rfl rfl⟩, trivial⟩ rfl
      intro i hi
      dsimp only
      have hsl := putPL_len nm (.mk bo bn bs bk) (kids.take i) (l - 1)
      have hsb := putPL_le nm (.mk bo bn bs bk) (kids.take i) (l - 1)
      rw [hsti i] at hsl hsb
      rw [List.length_take] at hsl
      by_cases hlt : i < kids.length
      · have e1 : decide ((i : Int) < (kids.length : Int)) = true := by simpa using hlt
        by_cases hneg : 0 ≤ (st i).2
        · have hat := putPL_at nm (.mk bo bn bs bk) kids (l - 1) i hlt (by rw [hsti i]; exact hneg)
          rw [hsti i, hsti (i + 1)] at hat
          have hx := ex4 kids i hlt
          have q4 := q1 kids[i] (get_mem hlt) (st i).2 hneg (by omega)
          have hst1 : (st (i + 1)).1 = (st i).1 ++ [(putP nm (.mk bo bn bs bk) kids[i] (st i).2).1] := by rw [hat]
          have hst2 : (st (i + 1)).2 = (putP nm (.mk bo bn bs bk) kids[i] (st i).2).2 := by rw [hat]
          clear hat hst hsti q1 hle
          generalize (putP nm (.mk bo bn bs bk) kids[i] (st i).2).1 = y at *
          generalize (putP nm (.mk bo bn bs bk) kids[i] (st i).2).2 = m at *
          generalize hl2 : (st (i + 1)).2 = l2 at *
          generalize (st i).2 = left at *
          generalize (st i).1 = o at *
          have e2 : decide (left ≥ 0) = true := by simpa using hneg
          subst hst2
          generalize kids[i] = x at *
          obtain ⟨xo, xn, xs, xk⟩ := x
          obtain ⟨yo, yn, ys, yk⟩ := y
          simp only [Ex.cells, exA] at hx q4
          cases o with
          | nil =>
            repeat' ((conv => whnf); first | (with_reducible refine exI (q4 _) ?_) | (with_reducible refine ixJ i rfl ?_ ?_; (focus (omega))) | (refine exI hx ?_) | (refine apS ?_) | (first | refine stp ?_ | with_reducible refine condB (fun h => ?_) (fun h => ?_)))
            conv => whnf
            refine ⟨i + 1, hlt, by show kids.length - (i + 1) < kids.length - i; omega, ?_⟩
            rw [hl2, hst1]
            exact FgL.mk [0, 1, 2, 3, 6] rfl ⟨Wk.noref rfl, Wk.int rfl, Wk.ptr rfl rfl, Wk.ptr rfl rfl, Wk.ptr rfl rfl, Wk.ptr rfl rfl, Wk.int rfl, trivial⟩ ⟨⟨rfl, rfl, rfl, rfl, BodyGe.pre (rest := []) rfl rfl⟩, ⟨rfl, rfl, rfl, rfl, BodyGe.pre (rest := []) rfl rfl⟩, ⟨rfl, rfl, rfl, rfl, BodyGe.pre (rest := []) rfl rfl⟩, ⟨rfl, rfl, rfl, rfl, BodyGe.cellsL ⟨Wk.noref rfl, Wk.noref rfl, Wk.noref rfl, Wk.slice rfl rfl rfl (Nat.le_refl _) (Nat.le_refl _) rfl, trivial⟩⟩, ⟨rfl, rfl, rfl, rfl, BodyGe.pre (rest := []) rfl (exC_refs _)⟩, trivial⟩ rfl
          | cons z o =>
            have hcl := exC_cons4 z o
            simp only [List.length_cons] at hsl
            repeat' ((conv => whnf); first | (with_reducible refine exI (q4 _) ?_) | (with_reducible refine ixJ i rfl ?_ ?_; (focus (omega))) | (refine exI hx ?_) | (refine apS ?_) | (first | refine stp ?_ | with_reducible refine condB (fun h => ?_) (fun h => ?_)))
            conv => whnf
            refine ⟨i + 1, hlt, by show kids.length - (i + 1) < kids.length - i; omega, ?_⟩
            rw [hl2, hst1]
            exact FgL.mk [0, 1, 2, 3, 7] rfl ⟨Wk.noref rfl, Wk.int rfl, Wk.ptr rfl rfl, Wk.ptr rfl rfl, Wk.ptr rfl rfl, Wk.ptr rfl rfl, Wk.int rfl, trivial⟩ ⟨⟨rfl, rfl, rfl, rfl, BodyGe.pre (rest := []) rfl rfl⟩, ⟨rfl, rfl, rfl, rfl, BodyGe.pre (rest := []) rfl rfl⟩, ⟨rfl, rfl, rfl, rfl, BodyGe.pre (rest := []) rfl rfl⟩, ⟨rfl, rfl, rfl, rfl, BodyGe.cellsL ⟨Wk.noref rfl, Wk.noref rfl, Wk.noref rfl, Wk.slice rfl rfl (by simp) (Nat.le_refl _) (by simp) rfl, trivial⟩⟩, ⟨rfl, rfl, rfl, rfl, BodyGe.pre (rest := []) (exC_snoc z o (.mk yo yn ys yk)) (exC_refs _)⟩, trivial⟩ rfl
        · have hstop := putPL_stop nm (.mk bo bn bs bk) kids (l - 1) i (by rw [hsti i]; omega)
          rw [hstop, hsti i]
          have e2 : decide ((st i).2 ≥ 0) = false := by simpa using hneg
          clear hst hsti q1 hle hstop hsb hneg
          generalize (st i).2 = left at *
          generalize (st i).1 = o at *
          cases o with
          | nil =>
            repeat' ((conv => whnf); first | refine stp ?_ | with_reducible refine condB (fun h => ?_) (fun h => ?_))
            all_goals exact fun _ _ h => nil4t h
          | cons z o =>
            repeat' ((conv => whnf); first | refine stp ?_ | with_reducible refine condB (fun h => ?_) (fun h => ?_))
            conv => whnf
            exact ⟨_, frz_two (frz_agg4 rfl rfl rfl (frz_sliceF (b := 4) rfl (exC_cons4 z o) (exC_flat (z :: o)))) (frz_lit rfl), fun _ _ h => h⟩
      · have e1 : decide ((i : Int) < (kids.length : Int)) = false := by simpa using hlt
        have hi2 : i = kids.length := by have := hi; omega
        subst hi2
        have hall : putPL nm (.mk bo bn bs bk) kids (l - 1) = st kids.length := by rw [← hsti kids.length, List.take_length]
        rw [hall]
        clear hst hsti q1 hle hall hsb
        generalize (st kids.length).2 = left at *
        generalize (st kids.length).1 = o at *
        cases o with
        | nil =>
          repeat' ((conv => whnf); first | refine stp ?_ | with_reducible refine condB (fun h => ?_) (fun h => ?_))
          all_goals exact fun _ _ h => nil4t h
        | cons z o =>
          repeat' ((conv => whnf); first | refine stp ?_ | with_reducible refine condB (fun h => ?_) (fun h => ?_))
          conv => whnf
          exact ⟨_, frz_two (frz_agg4 rfl rfl rfl (frz_sliceF (b := 4) rfl (exC_cons4 z o) (exC_flat (z :: o)))) (frz_lit rfl), fun _ _ h => h⟩
    | true =>
      obtain ⟨bo, bn, bs, bk⟩ := b
      cases hn : (name == nm) with
      | true =>
        simp only [Bool.and_self, cond_true, Ex.cells, exA] at q2 q3 ⊢
        refine fn_valW follows noNum hO Tryz.func29 rfl ?_
        repeat' ((conv => whnf); first | (with_reducible refine exI (q2 _) ?_) | (with_reducible refine exI (q3 _) ?_) | (first | refine stp ?_ | with_reducible refine condB (fun h => ?_) (fun h => ?_)))
        all_goals exact fun _ _ h => h
      | false =>
        simp only [Bool.and_false, cond_false, Ex.cells, exA] at q1 ⊢
        refine fn_valW follows noNum hO Tryz.func29 rfl ?_
        repeat' ((conv => whnf); first | refine stp ?_ | with_reducible refine condB (fun h => ?_) (fun h => ?_))
        conv => whnf
        obtain ⟨st, hst⟩ : ∃ st : Nat → List Ex × Int, (fun i => putPL nm (.mk bo bn bs bk) (kids.take i) (l - 1)) = st := ⟨_, rfl⟩
        have hsti : ∀ i, putPL nm (.mk bo bn bs bk) (kids.take i) (l - 1) = st i := fun i => congrFun hst i
        refine ⟨Nat, (fun i => i ≤ kids.length), (fun i => [(1, .str nm), (3, .int .i64 (st i).2), (4, .ptr 0 0), (6, .ptr 1 0), (8, .ptr 2 0), (10, .ptr 3 0), (11, .int .i64 i)]),
          (fun i => ⟨true, 0, 0, .cells [.int .i64 op, .int .i64 num, .str name, .rs kids.length 4 (exC kids)] 24⟩ :: ⟨true, 1, 0, .cells [.int .i64 bo, .int .i64 bn, .str bs, .rs bk.length 4 (exC bk)] 24⟩ :: ⟨true, 2, 0, .cells [.int .i64 0, .int .i64 0, .str [], .nslice] 24⟩ :: ⟨true, 3, 0, .cells [.int .i64 op, .int .i64 num, .str name, grA 4 4 (st i).1] 24⟩ :: grB 4 exC 24 (st i).1), (fun i => kids.length - i), ⟨0, Nat.zero_le _, ?_⟩, ?_⟩
        · have h0 : st 0 = ([], l - 1) := by rw [← hsti 0]; simp only [List.take_zero, putPL]
          dsimp only; rw [h0]
          exact FgL.mk [0, 1, 2, 3] rfl ⟨Wk.noref rfl, Wk.int rfl, Wk.ptr rfl rfl, Wk.ptr rfl rfl, Wk.ptr rfl rfl, Wk.ptr rfl rfl, Wk.int rfl, trivial⟩ ⟨⟨rfl, rfl, rfl, rfl, BodyGe.pre (rest := []) rfl rfl⟩, ⟨rfl, rfl, rfl, rfl, BodyGe.pre (rest := []) rfl rfl⟩, ⟨rfl, rfl, rfl, rfl, BodyGe.pre (rest := []) rfl rfl⟩, ⟨rfl, rfl, rfl, rfl, BodyGe.pre (rest := []) rfl rfl⟩, trivial⟩ rfl
        intro i hi
        dsimp only
        have hsl := putPL_len nm (.mk bo bn bs bk) (kids.take i) (l - 1)
        have hsb := putPL_le nm (.mk bo bn bs bk) (kids.take i) (l - 1)
        rw [hsti i] at hsl hsb
        rw [List.length_take] at hsl
        by_cases hlt : i < kids.length
        · have e1 : decide ((i : Int) < (kids.length : Int)) = true := by simpa using hlt
          by_cases hneg : 0 ≤ (st i).2
          · have hat := putPL_at nm (.mk bo bn bs bk) kids (l - 1) i hlt (by rw [hsti i]; exact hneg)
            rw [hsti i, hsti (i + 1)] at hat
            have hx := ex4 kids i hlt
            have q4 := q1 kids[i] (get_mem hlt) (st i).2 hneg (by omega)
            have hst1 : (st (i + 1)).1 = (st i).1 ++ [(putP nm (.mk bo bn bs bk) kids[i] (st i).2).1] := by rw [hat]
            have hst2 : (st (i + 1)).2 = (putP nm (.mk bo bn bs bk) kids[i] (st i).2).2 := by rw [hat]
            clear hat hst hsti q1 hle
            generalize (putP nm (.mk bo bn bs bk) kids[i] (st i).2).1 = y at *
            generalize (putP nm (.mk bo bn bs bk) kids[i] (st i).2).2 = m at *
            generalize hl2 : (st (i + 1)).2 = l2 at *
            generalize (st i).2 = left at *
            generalize (st i).1 = o at *
            have e2 : decide (left ≥ 0) = true := by simpa using hneg
            subst hst2
            generalize kids[i] = x at *
            obtain ⟨xo, xn, xs, xk⟩ := x
            obtain ⟨yo, yn, ys, yk⟩ := y
            simp only [Ex.cells, exA] at hx q4
            cases o with
            | nil =>
              repeat' ((conv => whnf); first | (with_reducible refine exI (q4 _) ?_) | (with_reducible refine ixJ i rfl ?_ ?_; (focus (omega))) | (refine exI hx ?_) | (refine apS ?_) | (first | refine stp ?_ | with_reducible refine condB (fun h => ?_) (fun h => ?_)))
              conv => whnf
              refine ⟨i + 1, hlt, by show kids.length - (i + 1) < kids.length - i; omega, ?_⟩
              rw [hl2, hst1]
              exact FgL.mk [0, 1, 2, 3, 6] rfl ⟨Wk.noref rfl, Wk.int rfl, Wk.ptr rfl rfl, Wk.ptr rfl rfl, Wk.ptr rfl rfl, Wk.ptr rfl rfl, Wk.int rfl, trivial⟩ ⟨⟨rfl, rfl, rfl, rfl, BodyGe.pre (rest := []) rfl rfl⟩, ⟨rfl, rfl, rfl, rfl, BodyGe.pre (rest := []) rfl rfl⟩, ⟨rfl, rfl, rfl, rfl, BodyGe.pre (rest := []) rfl rfl⟩, ⟨rfl, rfl, rfl, rfl, BodyGe.cellsL ⟨Wk.noref rfl, Wk.noref rfl, Wk.noref rfl, Wk.slice rfl rfl rfl (Nat.le_refl _) (Nat.le_refl _) rfl, trivial⟩⟩, ⟨rfl, rfl, rfl, rfl, BodyGe.pre (rest := []) rfl (exC_refs _)⟩, trivial⟩ rfl
            | cons z o =>
              have hcl := exC_cons4 z o
              simp only [List.length_cons] at hsl
              repeat' ((conv => whnf); first | (with_reducible refine exI (q4 _) ?_) | (with_reducible refine ixJ i rfl ?_ ?_; (focus (omega))) | (refine exI hx ?_) | (refine apS ?_) | (first | refine stp ?_ | with_reducible refine condB (fun h => ?_) (fun h => ?_)))
              conv => whnf
              refine ⟨i + 1, hlt, by show kids.length - (i + 1) < kids.length - i; omega, ?_⟩
              rw [hl2, hst1]
              exact FgL.mk [0, 1, 2, 3, 7] rfl ⟨Wk.noref rfl, Wk.int rfl, Wk.ptr rfl rfl, Wk.ptr rfl rfl, Wk.ptr rfl rfl, Wk.ptr rfl rfl, Wk.int rfl, trivial⟩ ⟨⟨rfl, rfl, rfl, rfl, BodyGe.pre (rest := []) rfl rfl⟩, ⟨rfl, rfl, rfl, rfl, BodyGe.pre (rest := []) rfl rfl⟩, ⟨rfl, rfl, rfl, rfl, BodyGe.pre (rest := []) rfl rfl⟩, ⟨rfl, rfl, rfl, rfl, BodyGe.cellsL ⟨Wk.noref rfl, Wk.noref rfl, Wk.noref rfl, Wk.slice rfl rfl (by simp) (Nat.le_refl _) (by simp) rfl, trivial⟩⟩, ⟨rfl, rfl, rfl, rfl, BodyGe.pre (rest := []) (exC_snoc z o (.mk yo yn ys yk)) (exC_refs _)⟩, trivial⟩ rfl
          · have hstop := putPL_stop nm (.mk bo bn bs bk) kids (l - 1) i (by rw [hsti i]; omega)
            rw [hstop, hsti i]
            have e2 : decide ((st i).2 ≥ 0) = false := by simpa using hneg
            clear hst hsti q1 hle hstop hsb hneg
            generalize (st i).2 = left at *
            generalize (st i).1 = o at *
            cases o with
            | nil =>
              repeat' ((conv => whnf); first | refine stp ?_ | with_reducible refine condB (fun h => ?_) (fun h => ?_))
              all_goals exact fun _ _ h => nil4t h
            | cons z o =>
              repeat' ((conv => whnf); first | refine stp ?_ | with_reducible refine condB (fun h => ?_) (fun h => ?_))
              conv => whnf
              exact ⟨_, frz_two (frz_agg4 rfl rfl rfl (frz_sliceF (b := 4) rfl (exC_cons4 z o) (exC_flat (z :: o)))) (frz_lit rfl), fun _ _ h => h⟩
        · have e1 : decide ((i : Int) < (kids.length : Int)) = false := by simpa using hlt
          have hi2 : i = kids.length := by have := hi; omega
          subst hi2
          have hall : putPL nm (.mk bo bn bs bk) kids (l - 1) = st kids.length := by rw [← hsti kids.length, List.take_length]
          rw [hall]
          clear hst hsti q1 hle hall hsb
          generalize (st kids.length).2 = left at *
          generalize (st kids.length).1 = o at *
          cases o with
          | nil =>
            repeat' ((conv => whnf); first | refine stp ?_ | with_reducible refine condB (fun h => ?_) (fun h => ?_))
            all_goals exact fun _ _ h => nil4t h
          | cons z o =>
            repeat' ((conv => whnf); first | refine stp ?_ | with_reducible refine condB (fun h => ?_) (fun h => ?_))
            conv => whnf
            exact ⟨_, frz_two (frz_agg4 rfl rfl rfl (frz_sliceF (b := 4) rfl (exC_cons4 z o) (exC_flat (z :: o)))) (frz_lit rfl), fun _ _ h => h⟩
end Go.Proofs.YtcbjhdklbhlmhaaGreatDoor.lex
end

/-
  Texts, rising, each once: two ways to the same list (plain lists).
-/
section
set_option linter.unusedVariables false
set_option linter.unusedSimpArgs false
namespace Go.Proofs.YtcbjhdklbhlmhaaGreatDoor.lex
open Go.Abs Go.RowKit
theorem bl_eq : ∀ (x y : List UInt8), Op.bytesLess x y = decide (x < y)
  | [], [] => by simp [Op.bytesLess]
  | _ :: _, [] => by simp [Op.bytesLess]
  | [], _ :: _ => by simp [Op.bytesLess]
  | a :: x, b :: y => by
    rw [Op.bytesLess, bl_eq x y]
    simp only [List.cons_lt_cons_iff]
    by_cases h1 : a < b <;> by_cases h2 : a = b <;> by_cases h3 : x < y <;> simp [h1, h2, h3]
/-- How many stand ahead. -/
def posU (s : List UInt8) : List (List UInt8) → Nat
  | [] => 0
  | x :: o => if Op.bytesLess x s = true then posU s o + 1 else 0
def insU (s : List UInt8) : List (List UInt8) → List (List UInt8)
  | [] => [s]
  | x :: o => if Op.bytesLess x s = true then x :: insU s o else if (x == s) = true then x :: o else s :: x :: o
def setU (l : List (List UInt8)) : List (List UInt8) := l.foldl (fun o s => insU s o) []
theorem posU_le (s : List UInt8) : ∀ o, posU s o ≤ o.length
  | [] => Nat.le_refl _
  | x :: o => by have := posU_le s o; simp only [posU, List.length_cons]; split <;> omega
theorem posU_lt (s : List UInt8) : ∀ (o : List (List UInt8)) (k : Nat) (h : k < o.length), k < posU s o → Op.bytesLess o[k] s = true
  | x :: o, 0, h, hk => by
    simp only [posU] at hk
    split at hk
    · assumption
    · omega
  | x :: o, k + 1, h, hk => by
    simp only [posU] at hk
    split at hk
    · exact posU_lt s o k (by simpa using h) (by omega)
    · omega
theorem posU_at (s : List UInt8) : ∀ (o : List (List UInt8)) (h : posU s o < o.length), Op.bytesLess o[posU s o] s = false
  | x :: o, h => by
    cases hx : Op.bytesLess x s with
    | true =>
      have e : posU s (x :: o) = posU s o + 1 := by simp [posU, hx]
      simp only [e, List.length_cons] at h
      simp only [e, List.getElem_cons_succ]
      exact posU_at s o (by omega)
    | false =>
      have e : posU s (x :: o) = 0 := by simp [posU, hx]
      simp only [e, List.getElem_cons_zero]; exact hx
theorem insU_same (s : List UInt8) : ∀ (o : List (List UInt8)) (h : posU s o < o.length), (o[posU s o] == s) = true → insU s o = o
  | x :: o, h, he => by
    cases hx : Op.bytesLess x s with
    | true =>
      have e : posU s (x :: o) = posU s o + 1 := by simp [posU, hx]
      simp only [e, List.length_cons] at h
      simp only [e, List.getElem_cons_succ] at he
      simp only [insU, hx, if_true, insU_same s o (by omega) he]
    | false =>
      have e : posU s (x :: o) = 0 := by simp [posU, hx]
      simp only [e, List.getElem_cons_zero] at he
      simp only [insU, hx, he, if_true, Bool.false_eq_true, if_false]
theorem insU_new (s : List UInt8) : ∀ (o : List (List UInt8)), (∀ h : posU s o < o.length, (o[posU s o] == s) = false) → insU s o = o.take (posU s o) ++ (s :: o.drop (posU s o))
  | [], _ => rfl
  | x :: o, he => by
    cases hx : Op.bytesLess x s with
    | true =>
      have e : posU s (x :: o) = posU s o + 1 := by simp [posU, hx]
      have := insU_new s o fun h => by
        have := he (by rw [e]; simpa using h)
        simpa only [e, List.getElem_cons_succ] using this
      rw [e]
      simp only [insU, hx, if_true, List.take_succ_cons, List.drop_succ_cons, List.cons_append, ← this]
    | false =>
      have e : posU s (x :: o) = 0 := by simp [posU, hx]
      have h2 := he (by rw [e]; simp)
      simp only [e, List.getElem_cons_zero] at h2
      rw [e]
      simp only [insU, hx, h2, Bool.false_eq_true, if_false, List.take_zero, List.drop_zero, List.nil_append]
theorem insU_mem {s x : List UInt8} : ∀ {o : List (List UInt8)}, x ∈ insU s o ↔ x ∈ o ∨ x = s
  | [] => by simp [insU]
  | y :: o => by
    have ih := insU_mem (s := s) (x := x) (o := o)
    simp only [insU]
    split
    · simp only [List.mem_cons, ih, or_assoc]
    · split
      · rename_i h
        have : y = s := by simpa using h
        subst this
        simp only [List.mem_cons]
        constructor
        · exact .inl
        · rintro (h | rfl)
          · exact h
          · exact .inl rfl
      · simp only [List.mem_cons]
        constructor
        · rintro (h | h)
          · exact .inr h
          · exact .inl h
        · rintro (h | h)
          · exact .inr h
          · exact .inl h
theorem insU_len (s : List UInt8) : ∀ o, (insU s o).length ≤ o.length + 1
  | [] => by simp [insU]
  | x :: o => by have := insU_len s o; simp only [insU]; split <;> (try split) <;> simp only [List.length_cons] <;> omega
theorem setU_len : ∀ (l o : List (List UInt8)), (l.foldl (fun o s => insU s o) o).length ≤ o.length + l.length
  | [], o => by simp
  | s :: l, o => by
    have := setU_len l (insU s o)
    have h2 := insU_len s o
    simp only [List.foldl_cons, List.length_cons]; omega
theorem lt_of (a b : List UInt8) (h : ¬ a < b) (hn : a ≠ b) : b < a := by
  rcases List.le_total a b with h1 | h1
  · have h2 : b ≤ a := List.not_lt.1 h
    exact absurd (List.le_antisymm h1 h2) hn
  · exact List.not_le.1 fun h2 => hn (List.le_antisymm h2 h1)
theorem insU_sorted (s : List UInt8) : ∀ {o : List (List UInt8)}, o.Pairwise (· < ·) → (insU s o).Pairwise (· < ·)
  | [], _ => by simp [insU]
  | x :: o, h => by
    rw [List.pairwise_cons] at h
    simp only [insU, bl_eq, decide_eq_true_eq]
    split
    · rename_i hx
      rw [List.pairwise_cons]
      refine ⟨fun a ha => ?_, insU_sorted s h.2⟩
      rcases insU_mem.1 ha with ha | rfl
      · exact h.1 a ha
      · exact hx
    · rename_i hx
      split
      · rw [List.pairwise_cons]; exact h
      · rename_i hn
        have hsx : s < x := lt_of x s hx (fun e => hn (by simp [e]))
        rw [List.pairwise_cons]
        refine ⟨fun a ha => ?_, by rw [List.pairwise_cons]; exact h⟩
        rcases List.mem_cons.1 ha with rfl | ha
        · exact hsx
        · exact List.lt_trans hsx (h.1 a ha)
theorem setU_sorted : ∀ (l o : List (List UInt8)), o.Pairwise (· < ·) → (l.foldl (fun o s => insU s o) o).Pairwise (· < ·)
  | [], o, h => h
  | s :: l, o, h => setU_sorted l _ (insU_sorted s h)
theorem setU_mem {x : List UInt8} : ∀ {l o : List (List UInt8)}, x ∈ l.foldl (fun o s => insU s o) o ↔ x ∈ o ∨ x ∈ l
  | [], o => by simp
  | s :: l, o => by
    have := setU_mem (x := x) (l := l) (o := insU s o)
    simp only [List.foldl_cons, this, insU_mem, List.mem_cons, or_assoc]
theorem setU_eq (l : List (List UInt8)) : setU l = sortB (addA l []) := by
  have h1 := setU_sorted l [] List.Pairwise.nil
  refine sortB_unique ?_ (h1.imp fun {a b} h => ?_)
  · have hn : (setU l).Nodup := h1.imp fun {a b} h e => by subst e; exact List.lt_irrefl _ h
    refine (List.perm_ext_iff_of_nodup hn (addA_nodup l [] List.nodup_nil)).2 fun a => ?_
    rw [addA_mem]; exact setU_mem
  · simp only [leB, decide_eq_true_eq]; exact List.le_of_lt h
theorem setU_next (l : List (List UInt8)) (i : Nat) (h : i < l.length) : setU (l.take (i + 1)) = insU l[i] (setU (l.take i)) := by
  unfold setU
  rw [List.take_succ_eq_append_getElem h, List.foldl_append]; rfl
theorem setU_take_len (l : List (List UInt8)) (i : Nat) : (setU (l.take i)).length ≤ l.length := by
  have := setU_len (l.take i) []
  unfold setU
  simp only [List.length_nil, List.length_take] at this
  omega
end Go.Proofs.YtcbjhdklbhlmhaaGreatDoor.lex
end

/-
  Registers of statements: the document's list of them.
-/
section
set_option linter.unusedVariables false
set_option linter.unusedSimpArgs false
namespace Go.Proofs.YtcbjhdklbhlmhaaGreatDoor.lex
open Go.Abs Go.RowKit
set_option maxRecDepth 100000
set_option maxHeartbeats 4000000
variable {gl : Glob}
theorem nmSL_take : ∀ (l : List St) (i : Nat) (h : i < l.length), nmSL (l.take (i + 1)) = nmSL (l.take i) ++ nmS l[i]
  | e :: l, 0, h => by simp [nmSL]
  | e :: l, i + 1, h => by
    have := nmSL_take l i (by simpa using h)
    simp only [List.take_succ_cons, nmSL, List.getElem_cons_succ] at this ⊢
    rw [this, List.append_assoc]
theorem sizeSL_take_le : ∀ (l : List St) (i : Nat), sizeSL (l.take i) ≤ sizeSL l
  | [], i => by simp
  | e :: l, 0 => by simp [sizeSL]
  | e :: l, i + 1 => by have := sizeSL_take_le l i; simp only [List.take_succ_cons, sizeSL]; omega
theorem nmSL_take_len (l : List St) (i : Nat) : (nmSL (l.take i)).length ≤ sizeSL l := by
  have h1 := nmSL_len (l.take i)
  have h2 := sizeSL_take_le l i
  omega
theorem nmS_eq (x : St) : nmS x = (cond (!(x.name == [])) [x.name] []) ++ (nmL x.exprs ++ (nmSL x.thn ++ nmSL x.els)) := by
  obtain ⟨k, n, lc, o, x, t, e⟩ := x
  rfl
theorem rsK_nil : rsK [] = .rs 0 1 [] := rfl
theorem rsK_cons (y : List UInt8) (r : List (List UInt8)) : rsK (y :: r) = .rs (r.length + 1) 1 (strC (y :: r)) := rfl
theorem allR_ok : ∀ (n : Nat) (l : List St), sizeSL l ≤ n → okSL l → l.length ≤ 9223372036854775807 → sizeSL l ≤ 1048576 → ValOK Tryz.prog gl 56 [stA l] (rsK (nmSL l))
  | n, l, h, hok, hl, hs => by
    obtain ⟨O, hO, p1, p2, -⟩ := fams (P := Tryz.prog) (gl := gl) [{ I := List St, f := 56, G := fun l => sizeSL l < n ∧ okSL l ∧ l.length ≤ 9223372036854775807 ∧ sizeSL l ≤ 1048576, A := fun l => [stA l], R := fun l => rsK (nmSL l), body := (by kernel_rfl), inj := (fun i j _ _ h => by simp only [List.cons.injEq, and_true] at h; rw [stA_inj h]), ok := (fun l hl => ⟨rfl, match n, hl.1 with | n + 1, h => allR_ok n l (by omega) hl.2.1 hl.2.2.1 hl.2.2.2⟩) },
      { I := Ex, f := 74, G := fun x => okE x ∧ sizeE x ≤ 1048576, A := fun x => [.agg x.cells], R := fun x => rsK (nmE x), body := (by kernel_rfl), inj := (fun i j _ _ h => by rw [agg_inj h]), ok := (fun x hx => ⟨ex_refs x, regsR_ok _ x (Nat.le_refl _) hx.1 hx.2⟩) }] rfl
    have q1 : ∀ l, sizeSL l < n → okSL l → l.length ≤ 9223372036854775807 → sizeSL l ≤ 1048576 → ∀ H, acall Tryz.prog O H 56 [stA l] = some (rsK (nmSL l), H) := fun l h1 h2 h3 h4 => p1 l ⟨h1, h2, h3, h4⟩
    have q2 : ∀ x, okE x → sizeE x ≤ 1048576 → ∀ H, acall Tryz.prog O H 74 [.agg x.cells] = some (rsK (nmE x), H) := fun x h1 h2 => p2 x ⟨h1, h2⟩
    clear p1 p2
    have hT : appT Tryz.prog 25 25 = some (9, 1, 16) := by kernel_rfl
    simp only [stA] at q1 ⊢
    rw [show rsK (nmSL l) = .rs (nmSL l).length 1 (strC (nmSL l)) from rfl]
    refine fn_valN follows noNum hO Tryz.func56 rfl ?_
    repeat' ((conv => whnf); first | refine stp ?_ | with_reducible refine condB (fun h => ?_) (fun h => ?_))
    conv => whnf
    refine ⟨Nat, (fun i => i ≤ l.length), (fun i => [(0, .rs l.length 7 (stC l)), (3, grA 0 1 (nmSL (l.take i))), (4, .int .i64 i)]), (fun i => grB 0 strC 9 (nmSL (l.take i))), (fun i => l.length - i), ⟨0, Nat.zero_le _, ?_⟩, ?_⟩
    · exact FgL.mk [] rfl ⟨Wk.noref rfl, Wk.noref rfl, Wk.int rfl, trivial⟩ trivial rfl
    intro i hi
    dsimp only
    have hle := nmSL_take_len l i
    by_cases hlt : i < l.length
    · have e1 : decide ((i : Int) < (l.length : Int)) = true := by simpa using hlt
      have hsz := sizeSL_mem _ _ (get_mem hlt)
      have hse := sizeS_eq l[i]
      have hx1 : tk 1 (((stC l).drop (i * 7)).drop 1) = some [.str l[i].name] := by rw [stC_at l i hlt]; exact cell_n _ _
      have hx4 : tk 1 (((stC l).drop (i * 7)).drop 4) = some [exA l[i].exprs] := by rw [stC_at l i hlt]; exact cell_x _ _
      have hx5 : tk 1 (((stC l).drop (i * 7)).drop 5) = some [stA l[i].thn] := by rw [stC_at l i hlt]; exact cell_t _ _
      have hx6 : tk 1 (((stC l).drop (i * 7)).drop 6) = some [stA l[i].els] := by rw [stC_at l i hlt]; exact cell_e _ _
      obtain ⟨k1, k2, k3, k4, k5, k6, k7, k8⟩ := okS_parts (okSL_get hok _ (get_mem hlt))
      have qt := q1 l[i].thn (by omega) k7 k4 (by omega)
      have qe := q1 l[i].els (by omega) k8 k5 (by omega)
      have hnt := nmSL_len l[i].thn
      have hne := nmSL_len l[i].els
      have hnx : nmSL (l.take (i + 1)) = ((nmSL (l.take i) ++ cond (!(l[i].name == [])) [l[i].name] []) ++ nmL l[i].exprs) ++ (nmSL l[i].thn ++ nmSL l[i].els) := by
        rw [nmSL_take l i hlt, nmS_eq]; simp only [List.append_assoc]
      clear q1
      generalize nmSL (l.take i) = o at *
      generalize l[i] = x at *
      obtain ⟨kind, name, loc, order, exprs, thn, els⟩ := x
      simp only [St.name, St.exprs, St.thn, St.els, stA, exA] at *
      generalize nmSL thn = nt at *
      generalize nmSL els = ne at *
      obtain ⟨base, hbase⟩ : ∃ b, o ++ cond (!(name == [])) [name] [] = b := ⟨_, rfl⟩
      have hbl : base.length ≤ o.length + 1 := by
        rw [← hbase, List.length_append]
        cases (!(name == [])) <;> simp
      rw [hbase] at hnx
      have hlx := sizeL_len exprs
      have hin : ∀ k (hk : k < exprs.length), nmL (exprs.take (k + 1)) = nmL (exprs.take k) ++ nmE exprs[k] := nmL_take exprs
      have hil := nmL_take_len exprs
      have hnl := nmL_len exprs
      have hfull : nmL (exprs.take exprs.length) = nmL exprs := by rw [List.take_length]
      have hen : (name == []) = true ∨ (name == []) = false := by cases (name == []) <;> simp
      rcases hen with hen | hen
      · rw [hen] at hbase
        simp only [Bool.not_true, cond_false, List.append_nil] at hbase
        have e2 : (!(name == [])) = false := by rw [hen]; rfl
        rcases o with _ | ⟨z, o⟩
        · skip
          repeat' ((conv => whnf); first | (with_reducible refine ixJ i rfl ?_ ?_; (focus (omega))) | (refine exI hx1 ?_) | (refine exI hx4 ?_) | (refine apS ?_) | (first | refine stp ?_ | with_reducible refine condB (fun h => ?_) (fun h => ?_)))
          conv => whnf
          refine ⟨Nat, (fun k => k ≤ exprs.length), (fun k => [(0, .rs l.length 7 (stC l)), (3, grA 0 1 (base ++ nmL (exprs.take k))), (4, .int .i64 i), (5, .int .i64 k)]), (fun k => grB 0 strC 9 (base ++ nmL (exprs.take k))), (fun k => exprs.length - k), ⟨0, Nat.zero_le _, ?_⟩, ?_⟩
          · subst hbase
            simp only [List.take_zero, nmL, List.append_nil]
            exact FgL.mk [] rfl ⟨Wk.noref rfl, Wk.noref rfl, Wk.int rfl, Wk.int rfl, trivial⟩ trivial rfl
          intro k hk
          dsimp only
          have hlk2 := hil k
          by_cases hlk : k < exprs.length
          · have e3 : decide ((k : Int) < (exprs.length : Int)) = true := by simpa using hlk
            have hxk := ex4 exprs k hlk
            have hlr := nmE_len exprs[k]
            have hsk := sizeL_mem _ _ (get_mem hlk)
            have q3 := q2 exprs[k] (okL_get k6 _ (get_mem hlk)) (by omega)
            have hnk : base ++ nmL (exprs.take (k + 1)) = (base ++ nmL (exprs.take k)) ++ nmE exprs[k] := by rw [hin k hlk, List.append_assoc]
            have hlp : (base ++ nmL (exprs.take k)).length ≤ 4194304 := by rw [List.length_append]; omega
            generalize base ++ nmL (exprs.take k) = p at *
            generalize nmE exprs[k] = r at *
            generalize exprs[k] = y at *
            obtain ⟨yo, yn, ys, yk⟩ := y
            simp only [Ex.cells] at hxk q3
            rcases p with _ | ⟨z2, p⟩
            · rcases r with _ | ⟨z3, r⟩
              · simp only [rsK_nil] at q3
                repeat' ((conv => whnf); first | (with_reducible refine exI (q3 _) ?_) | (with_reducible refine ixJ i rfl ?_ ?_; (focus (omega))) | (with_reducible refine ixJ k rfl ?_ ?_; (focus (omega))) | (refine exI hx4 ?_) | (refine exI hxk ?_) | (refine apS ?_) | (first | refine stp ?_ | with_reducible refine condB (fun h => ?_) (fun h => ?_)))
                conv => whnf
                refine ⟨k + 1, hlk, by show exprs.length - (k + 1) < exprs.length - k; omega, ?_⟩
                rw [hnk]
                exact FgL.mk [] rfl ⟨Wk.noref rfl, Wk.noref rfl, Wk.int rfl, Wk.int rfl, trivial⟩ trivial rfl
              · simp only [rsK_cons] at q3
                have hon := strs_one (z3 :: r)
                simp only [List.length_cons] at hlr
                repeat' ((conv => whnf); first | (with_reducible refine exI (q3 _) ?_) | (with_reducible refine ixJ i rfl ?_ ?_; (focus (omega))) | (with_reducible refine ixJ k rfl ?_ ?_; (focus (omega))) | (refine exI hx4 ?_) | (refine exI hxk ?_) | (refine apS ?_) | (first | refine stp ?_ | with_reducible refine condB (fun h => ?_) (fun h => ?_)))
                conv => whnf
                refine ⟨k + 1, hlk, by show exprs.length - (k + 1) < exprs.length - k; omega, ?_⟩
                rw [hnk]
                exact FgL.mk [0] rfl ⟨Wk.noref rfl, Wk.slice rfl rfl (by first | rfl | (simp; done) | (simp; omega)) (Nat.le_refl _) (by first | rfl | (simp; done) | (simp; omega)) rfl, Wk.int rfl, Wk.int rfl, trivial⟩ ⟨⟨rfl, rfl, rfl, rfl, BodyGe.pre (rest := []) (by first | rfl | (simp [strC]; done)) (strC_refs _)⟩, trivial⟩ rfl
            · have hcl := strC_cons z2 p
              simp only [List.length_cons] at hlp
              rcases r with _ | ⟨z3, r⟩
              · simp only [rsK_nil] at q3
                repeat' ((conv => whnf); first | (with_reducible refine exI (q3 _) ?_) | (with_reducible refine ixJ i rfl ?_ ?_; (focus (omega))) | (with_reducible refine ixJ k rfl ?_ ?_; (focus (omega))) | (refine exI hx4 ?_) | (refine exI hxk ?_) | (refine apS ?_) | (first | refine stp ?_ | with_reducible refine condB (fun h => ?_) (fun h => ?_)))
                conv => whnf
                refine ⟨k + 1, hlk, by show exprs.length - (k + 1) < exprs.length - k; omega, ?_⟩
                rw [hnk, List.append_nil]
                exact FgL.mk [0] rfl ⟨Wk.noref rfl, Wk.slice rfl rfl (by first | rfl | (simp; done) | (simp; omega)) (Nat.le_refl _) (by first | rfl | (simp; done) | (simp; omega)) rfl, Wk.int rfl, Wk.int rfl, trivial⟩ ⟨⟨rfl, rfl, rfl, rfl, BodyGe.pre (rest := []) (by first | rfl | (simp [strC]; done)) (strC_refs _)⟩, trivial⟩ rfl
              · simp only [rsK_cons] at q3
                have hon := strs_one (z3 :: r)
                simp only [List.length_cons] at hlr
                repeat' ((conv => whnf); first | (with_reducible refine exI (q3 _) ?_) | (with_reducible refine ixJ i rfl ?_ ?_; (focus (omega))) | (with_reducible refine ixJ k rfl ?_ ?_; (focus (omega))) | (refine exI hx4 ?_) | (refine exI hxk ?_) | (refine apS ?_) | (first | refine stp ?_ | with_reducible refine condB (fun h => ?_) (fun h => ?_)))
                conv => whnf
                refine ⟨k + 1, hlk, by show exprs.length - (k + 1) < exprs.length - k; omega, ?_⟩
                rw [hnk]
                exact FgL.mk [1] rfl ⟨Wk.noref rfl, Wk.slice rfl rfl (by first | rfl | (simp; done) | (simp; omega)) (Nat.le_refl _) (by first | rfl | (simp; done) | (simp; omega)) rfl, Wk.int rfl, Wk.int rfl, trivial⟩ ⟨⟨rfl, rfl, rfl, rfl, BodyGe.pre (rest := []) (by first | rfl | (simp [strC]; done)) (strC_refs _)⟩, trivial⟩ rfl
          · have e3 : decide ((k : Int) < (exprs.length : Int)) = false := by simpa using hlk
            have hk2 : k = exprs.length := by have := hk; omega
            subst hk2
            rw [hfull] at hlk2 ⊢
            have hlp : (base ++ nmL exprs).length ≤ 4194304 := by rw [List.length_append]; omega
            generalize base ++ nmL exprs = p at *
            have hnn := strs_one nt
            have hne2 := strs_one ne
            rcases p with _ | ⟨z2, p⟩
            · skip
              rcases nt with _ | ⟨z3, nt⟩
              · simp only [rsK_nil] at qt
                rcases ne with _ | ⟨z4, ne⟩
                · simp only [rsK_nil] at qe
                  repeat' ((conv => whnf); first | (with_reducible refine exI (qt _) ?_) | (with_reducible refine exI (qe _) ?_) | (with_reducible refine ixJ i rfl ?_ ?_; (focus (omega))) | (refine exI hx4 ?_) | (refine exI hx5 ?_) | (refine exI hx6 ?_) | (refine apS ?_) | (first | refine stp ?_ | with_reducible refine condB (fun h => ?_) (fun h => ?_)))
                  conv => whnf
                  refine ⟨i + 1, hlt, by show l.length - (i + 1) < l.length - i; omega, ?_⟩
                  rw [hnx]
                  simp only [List.append_nil]
                  exact FgL.mk [] rfl ⟨Wk.noref rfl, Wk.noref rfl, Wk.int rfl, trivial⟩ trivial rfl
                · simp only [rsK_cons] at qe
                  simp only [List.length_cons] at hne
                  repeat' ((conv => whnf); first | (with_reducible refine exI (qt _) ?_) | (with_reducible refine exI (qe _) ?_) | (with_reducible refine ixJ i rfl ?_ ?_; (focus (omega))) | (refine exI hx4 ?_) | (refine exI hx5 ?_) | (refine exI hx6 ?_) | (refine apS ?_) | (first | refine stp ?_ | with_reducible refine condB (fun h => ?_) (fun h => ?_)))
                  conv => whnf
                  refine ⟨i + 1, hlt, by show l.length - (i + 1) < l.length - i; omega, ?_⟩
                  rw [hnx]
                  simp only [List.nil_append]
                  exact FgL.mk [0] rfl ⟨Wk.noref rfl, Wk.slice rfl rfl (by first | rfl | (simp; done) | (simp; omega)) (Nat.le_refl _) (by first | rfl | (simp; done) | (simp; omega)) rfl, Wk.int rfl, trivial⟩ ⟨⟨rfl, rfl, rfl, rfl, BodyGe.pre (rest := []) (by first | rfl | (simp [strC]; done)) (strC_refs _)⟩, trivial⟩ rfl
              · simp only [rsK_cons] at qt
                simp only [List.length_cons] at hnt
                have hcl2 := strC_cons z3 nt
                rcases ne with _ | ⟨z4, ne⟩
                · simp only [rsK_nil] at qe
                  repeat' ((conv => whnf); first | (with_reducible refine exI (qt _) ?_) | (with_reducible refine exI (qe _) ?_) | (with_reducible refine ixJ i rfl ?_ ?_; (focus (omega))) | (refine exI hx4 ?_) | (refine exI hx5 ?_) | (refine exI hx6 ?_) | (refine apS ?_) | (first | refine stp ?_ | with_reducible refine condB (fun h => ?_) (fun h => ?_)))
                  conv => whnf
                  refine ⟨i + 1, hlt, by show l.length - (i + 1) < l.length - i; omega, ?_⟩
                  rw [hnx]
                  simp only [List.append_nil, List.nil_append]
                  exact FgL.mk [0] rfl ⟨Wk.noref rfl, Wk.slice rfl rfl (by first | rfl | (simp; done) | (simp; omega)) (Nat.le_refl _) (by first | rfl | (simp; done) | (simp; omega)) rfl, Wk.int rfl, trivial⟩ ⟨⟨rfl, rfl, rfl, rfl, BodyGe.pre (rest := []) (by first | rfl | (simp [strC]; done)) (strC_refs _)⟩, trivial⟩ rfl
                · simp only [rsK_cons] at qe
                  simp only [List.length_cons] at hne
                  repeat' ((conv => whnf); first | (with_reducible refine exI (qt _) ?_) | (with_reducible refine exI (qe _) ?_) | (with_reducible refine ixJ i rfl ?_ ?_; (focus (omega))) | (refine exI hx4 ?_) | (refine exI hx5 ?_) | (refine exI hx6 ?_) | (refine apS ?_) | (first | refine stp ?_ | with_reducible refine condB (fun h => ?_) (fun h => ?_)))
                  conv => whnf
                  refine ⟨i + 1, hlt, by show l.length - (i + 1) < l.length - i; omega, ?_⟩
                  rw [hnx]
                  simp only [List.nil_append]
                  exact FgL.mk [1] rfl ⟨Wk.noref rfl, Wk.slice rfl rfl (by first | rfl | (simp; done) | (simp; omega)) (Nat.le_refl _) (by first | rfl | (simp; done) | (simp; omega)) rfl, Wk.int rfl, trivial⟩ ⟨⟨rfl, rfl, rfl, rfl, BodyGe.pre (rest := []) (by first | rfl | (simp [strC]; done)) (strC_refs _)⟩, trivial⟩ rfl
            · have hcl := strC_cons z2 p
              simp only [List.length_cons] at hlp
              rcases nt with _ | ⟨z3, nt⟩
              · simp only [rsK_nil] at qt
                rcases ne with _ | ⟨z4, ne⟩
                · simp only [rsK_nil] at qe
                  repeat' ((conv => whnf); first | (with_reducible refine exI (qt _) ?_) | (with_reducible refine exI (qe _) ?_) | (with_reducible refine ixJ i rfl ?_ ?_; (focus (omega))) | (refine exI hx4 ?_) | (refine exI hx5 ?_) | (refine exI hx6 ?_) | (refine apS ?_) | (first | refine stp ?_ | with_reducible refine condB (fun h => ?_) (fun h => ?_)))
                  conv => whnf
                  refine ⟨i + 1, hlt, by show l.length - (i + 1) < l.length - i; omega, ?_⟩
                  rw [hnx]
                  simp only [List.append_nil, List.nil_append]
                  exact FgL.mk [0] rfl ⟨Wk.noref rfl, Wk.slice rfl rfl (by first | rfl | (simp; done) | (simp; omega)) (Nat.le_refl _) (by first | rfl | (simp; done) | (simp; omega)) rfl, Wk.int rfl, trivial⟩ ⟨⟨rfl, rfl, rfl, rfl, BodyGe.pre (rest := []) (by first | rfl | (simp [strC]; done)) (strC_refs _)⟩, trivial⟩ rfl
                · simp only [rsK_cons] at qe
                  simp only [List.length_cons] at hne
                  repeat' ((conv => whnf); first | (with_reducible refine exI (qt _) ?_) | (with_reducible refine exI (qe _) ?_) | (with_reducible refine ixJ i rfl ?_ ?_; (focus (omega))) | (refine exI hx4 ?_) | (refine exI hx5 ?_) | (refine exI hx6 ?_) | (refine apS ?_) | (first | refine stp ?_ | with_reducible refine condB (fun h => ?_) (fun h => ?_)))
                  conv => whnf
                  refine ⟨i + 1, hlt, by show l.length - (i + 1) < l.length - i; omega, ?_⟩
                  rw [hnx]
                  simp only [List.nil_append]
                  exact FgL.mk [1] rfl ⟨Wk.noref rfl, Wk.slice rfl rfl (by first | rfl | (simp; done) | (simp; omega)) (Nat.le_refl _) (by first | rfl | (simp; done) | (simp; omega)) rfl, Wk.int rfl, trivial⟩ ⟨⟨rfl, rfl, rfl, rfl, BodyGe.pre (rest := []) (by first | rfl | (simp [strC]; done)) (strC_refs _)⟩, trivial⟩ rfl
              · simp only [rsK_cons] at qt
                simp only [List.length_cons] at hnt
                have hcl2 : (strC (z2 :: p) ++ strC (z3 :: nt)).length = (p.length + 1 + (nt.length + 1)) * 1 := by simp [strC]; omega
                rcases ne with _ | ⟨z4, ne⟩
                · simp only [rsK_nil] at qe
                  repeat' ((conv => whnf); first | (with_reducible refine exI (qt _) ?_) | (with_reducible refine exI (qe _) ?_) | (with_reducible refine ixJ i rfl ?_ ?_; (focus (omega))) | (refine exI hx4 ?_) | (refine exI hx5 ?_) | (refine exI hx6 ?_) | (refine apS ?_) | (first | refine stp ?_ | with_reducible refine condB (fun h => ?_) (fun h => ?_)))
                  conv => whnf
                  refine ⟨i + 1, hlt, by show l.length - (i + 1) < l.length - i; omega, ?_⟩
                  rw [hnx]
                  simp only [List.append_nil, List.nil_append]
                  exact FgL.mk [1] rfl ⟨Wk.noref rfl, Wk.slice rfl rfl (by first | rfl | (simp; done) | (simp; omega)) (Nat.le_refl _) (by first | rfl | (simp; done) | (simp; omega)) rfl, Wk.int rfl, trivial⟩ ⟨⟨rfl, rfl, rfl, rfl, BodyGe.pre (rest := []) (by first | rfl | (simp [strC]; done)) (strC_refs _)⟩, trivial⟩ rfl
                · simp only [rsK_cons] at qe
                  simp only [List.length_cons] at hne
                  repeat' ((conv => whnf); first | (with_reducible refine exI (qt _) ?_) | (with_reducible refine exI (qe _) ?_) | (with_reducible refine ixJ i rfl ?_ ?_; (focus (omega))) | (refine exI hx4 ?_) | (refine exI hx5 ?_) | (refine exI hx6 ?_) | (refine apS ?_) | (first | refine stp ?_ | with_reducible refine condB (fun h => ?_) (fun h => ?_)))
                  conv => whnf
                  refine ⟨i + 1, hlt, by show l.length - (i + 1) < l.length - i; omega, ?_⟩
                  rw [hnx]
                  exact FgL.mk [2] rfl ⟨Wk.noref rfl, Wk.slice rfl rfl (by first | rfl | (simp; done) | (simp; omega)) (Nat.le_refl _) (by first | rfl | (simp; done) | (simp; omega)) rfl, Wk.int rfl, trivial⟩ ⟨⟨rfl, rfl, rfl, rfl, BodyGe.pre (rest := []) (by first | rfl | (simp [strC]; done)) (strC_refs _)⟩, trivial⟩ rfl
        · have hclo := strC_cons z o
          have hlo := hle
          simp only [List.length_cons] at hlo
          repeat' ((conv => whnf); first | (with_reducible refine ixJ i rfl ?_ ?_; (focus (omega))) | (refine exI hx1 ?_) | (refine exI hx4 ?_) | (refine apS ?_) | (first | refine stp ?_ | with_reducible refine condB (fun h => ?_) (fun h => ?_)))
          conv => whnf
          refine ⟨Nat, (fun k => k ≤ exprs.length), (fun k => [(0, .rs l.length 7 (stC l)), (3, grA 0 1 (base ++ nmL (exprs.take k))), (4, .int .i64 i), (5, .int .i64 k)]), (fun k => grB 0 strC 9 (base ++ nmL (exprs.take k))), (fun k => exprs.length - k), ⟨0, Nat.zero_le _, ?_⟩, ?_⟩
          · subst hbase
            simp only [List.take_zero, nmL, List.append_nil]
            exact FgL.mk [0] rfl ⟨Wk.noref rfl, Wk.slice rfl rfl (by first | rfl | (simp; done) | (simp; omega)) (Nat.le_refl _) (by first | rfl | (simp; done) | (simp; omega)) rfl, Wk.int rfl, Wk.int rfl, trivial⟩ ⟨⟨rfl, rfl, rfl, rfl, BodyGe.pre (rest := []) (by first | rfl | (simp [strC]; done)) (strC_refs _)⟩, trivial⟩ rfl
          intro k hk
          dsimp only
          have hlk2 := hil k
          by_cases hlk : k < exprs.length
          · have e3 : decide ((k : Int) < (exprs.length : Int)) = true := by simpa using hlk
            have hxk := ex4 exprs k hlk
            have hlr := nmE_len exprs[k]
            have hsk := sizeL_mem _ _ (get_mem hlk)
            have q3 := q2 exprs[k] (okL_get k6 _ (get_mem hlk)) (by omega)
            have hnk : base ++ nmL (exprs.take (k + 1)) = (base ++ nmL (exprs.take k)) ++ nmE exprs[k] := by rw [hin k hlk, List.append_assoc]
            have hlp : (base ++ nmL (exprs.take k)).length ≤ 4194304 := by rw [List.length_append]; omega
            generalize base ++ nmL (exprs.take k) = p at *
            generalize nmE exprs[k] = r at *
            generalize exprs[k] = y at *
            obtain ⟨yo, yn, ys, yk⟩ := y
            simp only [Ex.cells] at hxk q3
            rcases p with _ | ⟨z2, p⟩
            · rcases r with _ | ⟨z3, r⟩
              · simp only [rsK_nil] at q3
                repeat' ((conv => whnf); first | (with_reducible refine exI (q3 _) ?_) | (with_reducible refine ixJ i rfl ?_ ?_; (focus (omega))) | (with_reducible refine ixJ k rfl ?_ ?_; (focus (omega))) | (refine exI hx4 ?_) | (refine exI hxk ?_) | (refine apS ?_) | (first | refine stp ?_ | with_reducible refine condB (fun h => ?_) (fun h => ?_)))
                conv => whnf
                refine ⟨k + 1, hlk, by show exprs.length - (k + 1) < exprs.length - k; omega, ?_⟩
                rw [hnk]
                exact FgL.mk [] rfl ⟨Wk.noref rfl, Wk.noref rfl, Wk.int rfl, Wk.int rfl, trivial⟩ trivial rfl
              · simp only [rsK_cons] at q3
                have hon := strs_one (z3 :: r)
                simp only [List.length_cons] at hlr
                repeat' ((conv => whnf); first | (with_reducible refine exI (q3 _) ?_) | (with_reducible refine ixJ i rfl ?_ ?_; (focus (omega))) | (with_reducible refine ixJ k rfl ?_ ?_; (focus (omega))) | (refine exI hx4 ?_) | (refine exI hxk ?_) | (refine apS ?_) | (first | refine stp ?_ | with_reducible refine condB (fun h => ?_) (fun h => ?_)))
                conv => whnf
                refine ⟨k + 1, hlk, by show exprs.length - (k + 1) < exprs.length - k; omega, ?_⟩
                rw [hnk]
                exact FgL.mk [0] rfl ⟨Wk.noref rfl, Wk.slice rfl rfl (by first | rfl | (simp; done) | (simp; omega)) (Nat.le_refl _) (by first | rfl | (simp; done) | (simp; omega)) rfl, Wk.int rfl, Wk.int rfl, trivial⟩ ⟨⟨rfl, rfl, rfl, rfl, BodyGe.pre (rest := []) (by first | rfl | (simp [strC]; done)) (strC_refs _)⟩, trivial⟩ rfl
            · have hcl := strC_cons z2 p
              simp only [List.length_cons] at hlp
              rcases r with _ | ⟨z3, r⟩
              · simp only [rsK_nil] at q3
                repeat' ((conv => whnf); first | (with_reducible refine exI (q3 _) ?_) | (with_reducible refine ixJ i rfl ?_ ?_; (focus (omega))) | (with_reducible refine ixJ k rfl ?_ ?_; (focus (omega))) | (refine exI hx4 ?_) | (refine exI hxk ?_) | (refine apS ?_) | (first | refine stp ?_ | with_reducible refine condB (fun h => ?_) (fun h => ?_)))
                conv => whnf
                refine ⟨k + 1, hlk, by show exprs.length - (k + 1) < exprs.length - k; omega, ?_⟩
                rw [hnk, List.append_nil]
                exact FgL.mk [0] rfl ⟨Wk.noref rfl, Wk.slice rfl rfl (by first | rfl | (simp; done) | (simp; omega)) (Nat.le_refl _) (by first | rfl | (simp; done) | (simp; omega)) rfl, Wk.int rfl, Wk.int rfl, trivial⟩ ⟨⟨rfl, rfl, rfl, rfl, BodyGe.pre (rest := []) (by first | rfl | (simp [strC]; done)) (strC_refs _)⟩, trivial⟩ rfl
              · simp only [rsK_cons] at q3
                have hon := strs_one (z3 :: r)
                simp only [List.length_cons] at hlr
                repeat' ((conv => whnf); first | (with_reducible refine exI (q3 _) ?_) | (with_reducible refine ixJ i rfl ?_ ?_; (focus (omega))) | (with_reducible refine ixJ k rfl ?_ ?_; (focus (omega))) | (refine exI hx4 ?_) | (refine exI hxk ?_) | (refine apS ?_) | (first | refine stp ?_ | with_reducible refine condB (fun h => ?_) (fun h => ?_)))
                conv => whnf
                refine ⟨k + 1, hlk, by show exprs.length - (k + 1) < exprs.length - k; omega, ?_⟩
                rw [hnk]
                exact FgL.mk [1] rfl ⟨Wk.noref rfl, Wk.slice rfl rfl (by first | rfl | (simp; done) | (simp; omega)) (Nat.le_refl _) (by first | rfl | (simp; done) | (simp; omega)) rfl, Wk.int rfl, Wk.int rfl, trivial⟩ ⟨⟨rfl, rfl, rfl, rfl, BodyGe.pre (rest := []) (by first | rfl | (simp [strC]; done)) (strC_refs _)⟩, trivial⟩ rfl
          · have e3 : decide ((k : Int) < (exprs.length : Int)) = false := by simpa using hlk
            have hk2 : k = exprs.length := by have := hk; omega
            subst hk2
            rw [hfull] at hlk2 ⊢
            have hlp : (base ++ nmL exprs).length ≤ 4194304 := by rw [List.length_append]; omega
            generalize base ++ nmL exprs = p at *
            have hnn := strs_one nt
            have hne2 := strs_one ne
            rcases p with _ | ⟨z2, p⟩
            · skip
              rcases nt with _ | ⟨z3, nt⟩
              · simp only [rsK_nil] at qt
                rcases ne with _ | ⟨z4, ne⟩
                · simp only [rsK_nil] at qe
                  repeat' ((conv => whnf); first | (with_reducible refine exI (qt _) ?_) | (with_reducible refine exI (qe _) ?_) | (with_reducible refine ixJ i rfl ?_ ?_; (focus (omega))) | (refine exI hx4 ?_) | (refine exI hx5 ?_) | (refine exI hx6 ?_) | (refine apS ?_) | (first | refine stp ?_ | with_reducible refine condB (fun h => ?_) (fun h => ?_)))
                  conv => whnf
                  refine ⟨i + 1, hlt, by show l.length - (i + 1) < l.length - i; omega, ?_⟩
                  rw [hnx]
                  simp only [List.append_nil]
                  exact FgL.mk [] rfl ⟨Wk.noref rfl, Wk.noref rfl, Wk.int rfl, trivial⟩ trivial rfl
                · simp only [rsK_cons] at qe
                  simp only [List.length_cons] at hne
                  repeat' ((conv => whnf); first | (with_reducible refine exI (qt _) ?_) | (with_reducible refine exI (qe _) ?_) | (with_reducible refine ixJ i rfl ?_ ?_; (focus (omega))) | (refine exI hx4 ?_) | (refine exI hx5 ?_) | (refine exI hx6 ?_) | (refine apS ?_) | (first | refine stp ?_ | with_reducible refine condB (fun h => ?_) (fun h => ?_)))
                  conv => whnf
                  refine ⟨i + 1, hlt, by show l.length - (i + 1) < l.length - i; omega, ?_⟩
                  rw [hnx]
                  simp only [List.nil_append]
                  exact FgL.mk [0] rfl ⟨Wk.noref rfl, Wk.slice rfl rfl (by first | rfl | (simp; done) | (simp; omega)) (Nat.le_refl _) (by first | rfl | (simp; done) | (simp; omega)) rfl, Wk.int rfl, trivial⟩ ⟨⟨rfl, rfl, rfl, rfl, BodyGe.pre (rest := []) (by first | rfl | (simp [strC]; done)) (strC_refs _)⟩, trivial⟩ rfl
              · simp only [rsK_cons] at qt
                simp only [List.length_cons] at hnt
                have hcl2 := strC_cons z3 nt
                rcases ne with _ | ⟨z4, ne⟩
                · simp only [rsK_nil] at qe
                  repeat' ((conv => whnf); first | (with_reducible refine exI (qt _) ?_) | (with_reducible refine exI (qe _) ?_) | (with_reducible refine ixJ i rfl ?_ ?_; (focus (omega))) | (refine exI hx4 ?_) | (refine exI hx5 ?_) | (refine exI hx6 ?_) | (refine apS ?_) | (first | refine stp ?_ | with_reducible refine condB (fun h => ?_) (fun h => ?_)))
                  conv => whnf
                  refine ⟨i + 1, hlt, by show l.length - (i + 1) < l.length - i; omega, ?_⟩
                  rw [hnx]
                  simp only [List.append_nil, List.nil_append]
                  exact FgL.mk [0] rfl ⟨Wk.noref rfl, Wk.slice rfl rfl (by first | rfl | (simp; done) | (simp; omega)) (Nat.le_refl _) (by first | rfl | (simp; done) | (simp; omega)) rfl, Wk.int rfl, trivial⟩ ⟨⟨rfl, rfl, rfl, rfl, BodyGe.pre (rest := []) (by first | rfl | (simp [strC]; done)) (strC_refs _)⟩, trivial⟩ rfl
                · simp only [rsK_cons] at qe
                  simp only [List.length_cons] at hne
                  repeat' ((conv => whnf); first | (with_reducible refine exI (qt _) ?_) | (with_reducible refine exI (qe _) ?_) | (with_reducible refine ixJ i rfl ?_ ?_; (focus (omega))) | (refine exI hx4 ?_) | (refine exI hx5 ?_) | (refine exI hx6 ?_) | (refine apS ?_) | (first | refine stp ?_ | with_reducible refine condB (fun h => ?_) (fun h => ?_)))
                  conv => whnf
                  refine ⟨i + 1, hlt, by show l.length - (i + 1) < l.length - i; omega, ?_⟩
                  rw [hnx]
                  simp only [List.nil_append]
                  exact FgL.mk [1] rfl ⟨Wk.noref rfl, Wk.slice rfl rfl (by first | rfl | (simp; done) | (simp; omega)) (Nat.le_refl _) (by first | rfl | (simp; done) | (simp; omega)) rfl, Wk.int rfl, trivial⟩ ⟨⟨rfl, rfl, rfl, rfl, BodyGe.pre (rest := []) (by first | rfl | (simp [strC]; done)) (strC_refs _)⟩, trivial⟩ rfl
            · have hcl := strC_cons z2 p
              simp only [List.length_cons] at hlp
              rcases nt with _ | ⟨z3, nt⟩
              · simp only [rsK_nil] at qt
                rcases ne with _ | ⟨z4, ne⟩
                · simp only [rsK_nil] at qe
                  repeat' ((conv => whnf); first | (with_reducible refine exI (qt _) ?_) | (with_reducible refine exI (qe _) ?_) | (with_reducible refine ixJ i rfl ?_ ?_; (focus (omega))) | (refine exI hx4 ?_) | (refine exI hx5 ?_) | (refine exI hx6 ?_) | (refine apS ?_) | (first | refine stp ?_ | with_reducible refine condB (fun h => ?_) (fun h => ?_)))
                  conv => whnf
                  refine ⟨i + 1, hlt, by show l.length - (i + 1) < l.length - i; omega, ?_⟩
                  rw [hnx]
                  simp only [List.append_nil, List.nil_append]
                  exact FgL.mk [0] rfl ⟨Wk.noref rfl, Wk.slice rfl rfl (by first | rfl | (simp; done) | (simp; omega)) (Nat.le_refl _) (by first | rfl | (simp; done) | (simp; omega)) rfl, Wk.int rfl, trivial⟩ ⟨⟨rfl, rfl, rfl, rfl, BodyGe.pre (rest := []) (by first | rfl | (simp [strC]; done)) (strC_refs _)⟩, trivial⟩ rfl
                · simp only [rsK_cons] at qe
                  simp only [List.length_cons] at hne
                  repeat' ((conv => whnf); first | (with_reducible refine exI (qt _) ?_) | (with_reducible refine exI (qe _) ?_) | (with_reducible refine ixJ i rfl ?_ ?_; (focus (omega))) | (refine exI hx4 ?_) | (refine exI hx5 ?_) | (refine exI hx6 ?_) | (refine apS ?_) | (first | refine stp ?_ | with_reducible refine condB (fun h => ?_) (fun h => ?_)))
                  conv => whnf
                  refine ⟨i + 1, hlt, by show l.length - (i + 1) < l.length - i; omega, ?_⟩
                  rw [hnx]
                  simp only [List.nil_append]
                  exact FgL.mk [1] rfl ⟨Wk.noref rfl, Wk.slice rfl rfl (by first | rfl | (simp; done) | (simp; omega)) (Nat.le_refl _) (by first | rfl | (simp; done) | (simp; omega)) rfl, Wk.int rfl, trivial⟩ ⟨⟨rfl, rfl, rfl, rfl, BodyGe.pre (rest := []) (by first | rfl | (simp [strC]; done)) (strC_refs _)⟩, trivial⟩ rfl
              · simp only [rsK_cons] at qt
                simp only [List.length_cons] at hnt
                have hcl2 : (strC (z2 :: p) ++ strC (z3 :: nt)).length = (p.length + 1 + (nt.length + 1)) * 1 := by simp [strC]; omega
                rcases ne with _ | ⟨z4, ne⟩
                · simp only [rsK_nil] at qe
                  repeat' ((conv => whnf); first | (with_reducible refine exI (qt _) ?_) | (with_reducible refine exI (qe _) ?_) | (with_reducible refine ixJ i rfl ?_ ?_; (focus (omega))) | (refine exI hx4 ?_) | (refine exI hx5 ?_) | (refine exI hx6 ?_) | (refine apS ?_) | (first | refine stp ?_ | with_reducible refine condB (fun h => ?_) (fun h => ?_)))
                  conv => whnf
                  refine ⟨i + 1, hlt, by show l.length - (i + 1) < l.length - i; omega, ?_⟩
                  rw [hnx]
                  simp only [List.append_nil, List.nil_append]
                  exact FgL.mk [1] rfl ⟨Wk.noref rfl, Wk.slice rfl rfl (by first | rfl | (simp; done) | (simp; omega)) (Nat.le_refl _) (by first | rfl | (simp; done) | (simp; omega)) rfl, Wk.int rfl, trivial⟩ ⟨⟨rfl, rfl, rfl, rfl, BodyGe.pre (rest := []) (by first | rfl | (simp [strC]; done)) (strC_refs _)⟩, trivial⟩ rfl
                · simp only [rsK_cons] at qe
                  simp only [List.length_cons] at hne
                  repeat' ((conv => whnf); first | (with_reducible refine exI (qt _) ?_) | (with_reducible refine exI (qe _) ?_) | (with_reducible refine ixJ i rfl ?_ ?_; (focus (omega))) | (refine exI hx4 ?_) | (refine exI hx5 ?_) | (refine exI hx6 ?_) | (refine apS ?_) | (first | refine stp ?_ | with_reducible refine condB (fun h => ?_) (fun h => ?_)))
                  conv => whnf
                  refine ⟨i + 1, hlt, by show l.length - (i + 1) < l.length - i; omega, ?_⟩
                  rw [hnx]
                  exact FgL.mk [2] rfl ⟨Wk.noref rfl, Wk.slice rfl rfl (by first | rfl | (simp; done) | (simp; omega)) (Nat.le_refl _) (by first | rfl | (simp; done) | (simp; omega)) rfl, Wk.int rfl, trivial⟩ ⟨⟨rfl, rfl, rfl, rfl, BodyGe.pre (rest := []) (by first | rfl | (simp [strC]; done)) (strC_refs _)⟩, trivial⟩ rfl
      · rw [hen] at hbase
        simp only [Bool.not_false, cond_true] at hbase
        have e2 : (!(name == [])) = true := by rw [hen]; rfl
        rcases o with _ | ⟨z, o⟩
        · skip
          repeat' ((conv => whnf); first | (with_reducible refine ixJ i rfl ?_ ?_; (focus (omega))) | (refine exI hx1 ?_) | (refine exI hx4 ?_) | (refine apS ?_) | (first | refine stp ?_ | with_reducible refine condB (fun h => ?_) (fun h => ?_)))
          conv => whnf
          refine ⟨Nat, (fun k => k ≤ exprs.length), (fun k => [(0, .rs l.length 7 (stC l)), (3, grA 0 1 (base ++ nmL (exprs.take k))), (4, .int .i64 i), (5, .int .i64 k)]), (fun k => grB 0 strC 9 (base ++ nmL (exprs.take k))), (fun k => exprs.length - k), ⟨0, Nat.zero_le _, ?_⟩, ?_⟩
          · subst hbase
            simp only [List.take_zero, nmL, List.append_nil]
            exact FgL.mk [1] rfl ⟨Wk.noref rfl, Wk.slice rfl rfl (by first | rfl | (simp; done) | (simp; omega)) (Nat.le_refl _) (by first | rfl | (simp; done) | (simp; omega)) rfl, Wk.int rfl, Wk.int rfl, trivial⟩ ⟨⟨rfl, rfl, rfl, rfl, BodyGe.pre (rest := []) (by first | rfl | (simp [strC]; done)) (strC_refs _)⟩, trivial⟩ rfl
          intro k hk
          dsimp only
          have hlk2 := hil k
          by_cases hlk : k < exprs.length
          · have e3 : decide ((k : Int) < (exprs.length : Int)) = true := by simpa using hlk
            have hxk := ex4 exprs k hlk
            have hlr := nmE_len exprs[k]
            have hsk := sizeL_mem _ _ (get_mem hlk)
            have q3 := q2 exprs[k] (okL_get k6 _ (get_mem hlk)) (by omega)
            have hnk : base ++ nmL (exprs.take (k + 1)) = (base ++ nmL (exprs.take k)) ++ nmE exprs[k] := by rw [hin k hlk, List.append_assoc]
            have hlp : (base ++ nmL (exprs.take k)).length ≤ 4194304 := by rw [List.length_append]; omega
            generalize base ++ nmL (exprs.take k) = p at *
            generalize nmE exprs[k] = r at *
            generalize exprs[k] = y at *
            obtain ⟨yo, yn, ys, yk⟩ := y
            simp only [Ex.cells] at hxk q3
            rcases p with _ | ⟨z2, p⟩
            · rcases r with _ | ⟨z3, r⟩
              · simp only [rsK_nil] at q3
                repeat' ((conv => whnf); first | (with_reducible refine exI (q3 _) ?_) | (with_reducible refine ixJ i rfl ?_ ?_; (focus (omega))) | (with_reducible refine ixJ k rfl ?_ ?_; (focus (omega))) | (refine exI hx4 ?_) | (refine exI hxk ?_) | (refine apS ?_) | (first | refine stp ?_ | with_reducible refine condB (fun h => ?_) (fun h => ?_)))
                conv => whnf
                refine ⟨k + 1, hlk, by show exprs.length - (k + 1) < exprs.length - k; omega, ?_⟩
                rw [hnk]
                exact FgL.mk [] rfl ⟨Wk.noref rfl, Wk.noref rfl, Wk.int rfl, Wk.int rfl, trivial⟩ trivial rfl
              · simp only [rsK_cons] at q3
                have hon := strs_one (z3 :: r)
                simp only [List.length_cons] at hlr
                repeat' ((conv => whnf); first | (with_reducible refine exI (q3 _) ?_) | (with_reducible refine ixJ i rfl ?_ ?_; (focus (omega))) | (with_reducible refine ixJ k rfl ?_ ?_; (focus (omega))) | (refine exI hx4 ?_) | (refine exI hxk ?_) | (refine apS ?_) | (first | refine stp ?_ | with_reducible refine condB (fun h => ?_) (fun h => ?_)))
                conv => whnf
                refine ⟨k + 1, hlk, by show exprs.length - (k + 1) < exprs.length - k; omega, ?_⟩
                rw [hnk]
                exact FgL.mk [0] rfl ⟨Wk.noref rfl, Wk.slice rfl rfl (by first | rfl | (simp; done) | (simp; omega)) (Nat.le_refl _) (by first | rfl | (simp; done) | (simp; omega)) rfl, Wk.int rfl, Wk.int rfl, trivial⟩ ⟨⟨rfl, rfl, rfl, rfl, BodyGe.pre (rest := []) (by first | rfl | (simp [strC]; done)) (strC_refs _)⟩, trivial⟩ rfl
            · have hcl := strC_cons z2 p
              simp only [List.length_cons] at hlp
              rcases r with _ | ⟨z3, r⟩
              · simp only [rsK_nil] at q3
                repeat' ((conv => whnf); first | (with_reducible refine exI (q3 _) ?_) | (with_reducible refine ixJ i rfl ?_ ?_; (focus (omega))) | (with_reducible refine ixJ k rfl ?_ ?_; (focus (omega))) | (refine exI hx4 ?_) | (refine exI hxk ?_) | (refine apS ?_) | (first | refine stp ?_ | with_reducible refine condB (fun h => ?_) (fun h => ?_)))
                conv => whnf
                refine ⟨k + 1, hlk, by show exprs.length - (k + 1) < exprs.length - k; omega, ?_⟩
                rw [hnk, List.append_nil]
                exact FgL.mk [0] rfl ⟨Wk.noref rfl, Wk.slice rfl rfl (by first | rfl | (simp; done) | (simp; omega)) (Nat.le_refl _) (by first | rfl | (simp; done) | (simp; omega)) rfl, Wk.int rfl, Wk.int rfl, trivial⟩ ⟨⟨rfl, rfl, rfl, rfl, BodyGe.pre (rest := []) (by first | rfl | (simp [strC]; done)) (strC_refs _)⟩, trivial⟩ rfl
              · simp only [rsK_cons] at q3
                have hon := strs_one (z3 :: r)
                simp only [List.length_cons] at hlr
                repeat' ((conv => whnf); first | (with_reducible refine exI (q3 _) ?_) | (with_reducible refine ixJ i rfl ?_ ?_; (focus (omega))) | (with_reducible refine ixJ k rfl ?_ ?_; (focus (omega))) | (refine exI hx4 ?_) | (refine exI hxk ?_) | (refine apS ?_) | (first | refine stp ?_ | with_reducible refine condB (fun h => ?_) (fun h => ?_)))
                conv => whnf
                refine ⟨k + 1, hlk, by show exprs.length - (k + 1) < exprs.length - k; omega, ?_⟩
                rw [hnk]
                exact FgL.mk [1] rfl ⟨Wk.noref rfl, Wk.slice rfl rfl (by first | rfl | (simp; done) | (simp; omega)) (Nat.le_refl _) (by first | rfl | (simp; done) | (simp; omega)) rfl, Wk.int rfl, Wk.int rfl, trivial⟩ ⟨⟨rfl, rfl, rfl, rfl, BodyGe.pre (rest := []) (by first | rfl | (simp [strC]; done)) (strC_refs _)⟩, trivial⟩ rfl
          · have e3 : decide ((k : Int) < (exprs.length : Int)) = false := by simpa using hlk
            have hk2 : k = exprs.length := by have := hk; omega
            subst hk2
            rw [hfull] at hlk2 ⊢
            have hlp : (base ++ nmL exprs).length ≤ 4194304 := by rw [List.length_append]; omega
            generalize base ++ nmL exprs = p at *
            have hnn := strs_one nt
            have hne2 := strs_one ne
            rcases p with _ | ⟨z2, p⟩
            · skip
              rcases nt with _ | ⟨z3, nt⟩
              · simp only [rsK_nil] at qt
                rcases ne with _ | ⟨z4, ne⟩
                · simp only [rsK_nil] at qe
                  repeat' ((conv => whnf); first | (with_reducible refine exI (qt _) ?_) | (with_reducible refine exI (qe _) ?_) | (with_reducible refine ixJ i rfl ?_ ?_; (focus (omega))) | (refine exI hx4 ?_) | (refine exI hx5 ?_) | (refine exI hx6 ?_) | (refine apS ?_) | (first | refine stp ?_ | with_reducible refine condB (fun h => ?_) (fun h => ?_)))
                  conv => whnf
                  refine ⟨i + 1, hlt, by show l.length - (i + 1) < l.length - i; omega, ?_⟩
                  rw [hnx]
                  simp only [List.append_nil]
                  exact FgL.mk [] rfl ⟨Wk.noref rfl, Wk.noref rfl, Wk.int rfl, trivial⟩ trivial rfl
                · simp only [rsK_cons] at qe
                  simp only [List.length_cons] at hne
                  repeat' ((conv => whnf); first | (with_reducible refine exI (qt _) ?_) | (with_reducible refine exI (qe _) ?_) | (with_reducible refine ixJ i rfl ?_ ?_; (focus (omega))) | (refine exI hx4 ?_) | (refine exI hx5 ?_) | (refine exI hx6 ?_) | (refine apS ?_) | (first | refine stp ?_ | with_reducible refine condB (fun h => ?_) (fun h => ?_)))
                  conv => whnf
                  refine ⟨i + 1, hlt, by show l.length - (i + 1) < l.length - i; omega, ?_⟩
                  rw [hnx]
                  simp only [List.nil_append]
                  exact FgL.mk [0] rfl ⟨Wk.noref rfl, Wk.slice rfl rfl (by first | rfl | (simp; done) | (simp; omega)) (Nat.le_refl _) (by first | rfl | (simp; done) | (simp; omega)) rfl, Wk.int rfl, trivial⟩ ⟨⟨rfl, rfl, rfl, rfl, BodyGe.pre (rest := []) (by first | rfl | (simp [strC]; done)) (strC_refs _)⟩, trivial⟩ rfl
              · simp only [rsK_cons] at qt
                simp only [List.length_cons] at hnt
                have hcl2 := strC_cons z3 nt
                rcases ne with _ | ⟨z4, ne⟩
                · simp only [rsK_nil] at qe
                  repeat' ((conv => whnf); first | (with_reducible refine exI (qt _) ?_) | (with_reducible refine exI (qe _) ?_) | (with_reducible refine ixJ i rfl ?_ ?_; (focus (omega))) | (refine exI hx4 ?_) | (refine exI hx5 ?_) | (refine exI hx6 ?_) | (refine apS ?_) | (first | refine stp ?_ | with_reducible refine condB (fun h => ?_) (fun h => ?_)))
                  conv => whnf
                  refine ⟨i + 1, hlt, by show l.length - (i + 1) < l.length - i; omega, ?_⟩
                  rw [hnx]
                  simp only [List.append_nil, List.nil_append]
                  exact FgL.mk [0] rfl ⟨Wk.noref rfl, Wk.slice rfl rfl (by first | rfl | (simp; done) | (simp; omega)) (Nat.le_refl _) (by first | rfl | (simp; done) | (simp; omega)) rfl, Wk.int rfl, trivial⟩ ⟨⟨rfl, rfl, rfl, rfl, BodyGe.pre (rest := []) (by first | rfl | (simp [strC]; done)) (strC_refs _)⟩, trivial⟩ rfl
                · simp only [rsK_cons] at qe
                  simp only [List.length_cons] at hne
                  repeat' ((conv => whnf); first | (with_reducible refine exI (qt _) ?_) | (with_reducible refine exI (qe _) ?_) | (with_reducible refine ixJ i rfl ?_ ?_; (focus (omega))) | (refine exI hx4 ?_) | (refine exI hx5 ?_) | (refine exI hx6 ?_) | (refine apS ?_) | (first | refine stp ?_ | with_reducible refine condB (fun h => ?_) (fun h => ?_)))
                  conv => whnf
                  refine ⟨i + 1, hlt, by show l.length - (i + 1) < l.length - i; omega, ?_⟩
                  rw [hnx]
                  simp only [List.nil_append]
                  exact FgL.mk [1] rfl ⟨Wk.noref rfl, Wk.slice rfl rfl (by first | rfl | (simp; done) | (simp; omega)) (Nat.le_refl _) (by first | rfl | (simp; done) | (simp; omega)) rfl, Wk.int rfl, trivial⟩ ⟨⟨rfl, rfl, rfl, rfl, BodyGe.pre (rest := []) (by first | rfl | (simp [strC]; done)) (strC_refs _)⟩, trivial⟩ rfl
            · have hcl := strC_cons z2 p
              simp only [List.length_cons] at hlp
              rcases nt with _ | ⟨z3, nt⟩
              · simp only [rsK_nil] at qt
                rcases ne with _ | ⟨z4, ne⟩
                · simp only [rsK_nil] at qe
                  repeat' ((conv => whnf); first | (with_reducible refine exI (qt _) ?_) | (with_reducible refine exI (qe _) ?_) | (with_reducible refine ixJ i rfl ?_ ?_; (focus (omega))) | (refine exI hx4 ?_) | (refine exI hx5 ?_) | (refine exI hx6 ?_) | (refine apS ?_) | (first | refine stp ?_ | with_reducible refine condB (fun h => ?_) (fun h => ?_)))
                  conv => whnf
                  refine ⟨i + 1, hlt, by show l.length - (i + 1) < l.length - i; omega, ?_⟩
                  rw [hnx]
                  simp only [List.append_nil, List.nil_append]
                  exact FgL.mk [0] rfl ⟨Wk.noref rfl, Wk.slice rfl rfl (by first | rfl | (simp; done) | (simp; omega)) (Nat.le_refl _) (by first | rfl | (simp; done) | (simp; omega)) rfl, Wk.int rfl, trivial⟩ ⟨⟨rfl, rfl, rfl, rfl, BodyGe.pre (rest := []) (by first | rfl | (simp [strC]; done)) (strC_refs _)⟩, trivial⟩ rfl
                · simp only [rsK_cons] at qe
                  simp only [List.length_cons] at hne
                  repeat' ((conv => whnf); first | (with_reducible refine exI (qt _) ?_) | (with_reducible refine exI (qe _) ?_) | (with_reducible refine ixJ i rfl ?_ ?_; (focus (omega))) | (refine exI hx4 ?_) | (refine exI hx5 ?_) | (refine exI hx6 ?_) | (refine apS ?_) | (first | refine stp ?_ | with_reducible refine condB (fun h => ?_) (fun h => ?_)))
                  conv => whnf
                  refine ⟨i + 1, hlt, by show l.length - (i + 1) < l.length - i; omega, ?_⟩
                  rw [hnx]
                  simp only [List.nil_append]
                  exact FgL.mk [1] rfl ⟨Wk.noref rfl, Wk.slice rfl rfl (by first | rfl | (simp; done) | (simp; omega)) (Nat.le_refl _) (by first | rfl | (simp; done) | (simp; omega)) rfl, Wk.int rfl, trivial⟩ ⟨⟨rfl, rfl, rfl, rfl, BodyGe.pre (rest := []) (by first | rfl | (simp [strC]; done)) (strC_refs _)⟩, trivial⟩ rfl
              · simp only [rsK_cons] at qt
                simp only [List.length_cons] at hnt
                have hcl2 : (strC (z2 :: p) ++ strC (z3 :: nt)).length = (p.length + 1 + (nt.length + 1)) * 1 := by simp [strC]; omega
                rcases ne with _ | ⟨z4, ne⟩
                · simp only [rsK_nil] at qe
                  repeat' ((conv => whnf); first | (with_reducible refine exI (qt _) ?_) | (with_reducible refine exI (qe _) ?_) | (with_reducible refine ixJ i rfl ?_ ?_; (focus (omega))) | (refine exI hx4 ?_) | (refine exI hx5 ?_) | (refine exI hx6 ?_) | (refine apS ?_) | (first | refine stp ?_ | with_reducible refine condB (fun h => ?_) (fun h => ?_)))
                  conv => whnf
                  refine ⟨i + 1, hlt, by show l.length - (i + 1) < l.length - i; omega, ?_⟩
                  rw [hnx]
                  simp only [List.append_nil, List.nil_append]
                  exact FgL.mk [1] rfl ⟨Wk.noref rfl, Wk.slice rfl rfl (by first | rfl | (simp; done) | (simp; omega)) (Nat.le_refl _) (by first | rfl | (simp; done) | (simp; omega)) rfl, Wk.int rfl, trivial⟩ ⟨⟨rfl, rfl, rfl, rfl, BodyGe.pre (rest := []) (by first | rfl | (simp [strC]; done)) (strC_refs _)⟩, trivial⟩ rfl
                · simp only [rsK_cons] at qe
                  simp only [List.length_cons] at hne
                  repeat' ((conv => whnf); first | (with_reducible refine exI (qt _) ?_) | (with_reducible refine exI (qe _) ?_) | (with_reducible refine ixJ i rfl ?_ ?_; (focus (omega))) | (refine exI hx4 ?_) | (refine exI hx5 ?_) | (refine exI hx6 ?_) | (refine apS ?_) | (first | refine stp ?_ | with_reducible refine condB (fun h => ?_) (fun h => ?_)))
                  conv => whnf
                  refine ⟨i + 1, hlt, by show l.length - (i + 1) < l.length - i; omega, ?_⟩
                  rw [hnx]
                  exact FgL.mk [2] rfl ⟨Wk.noref rfl, Wk.slice rfl rfl (by first | rfl | (simp; done) | (simp; omega)) (Nat.le_refl _) (by first | rfl | (simp; done) | (simp; omega)) rfl, Wk.int rfl, trivial⟩ ⟨⟨rfl, rfl, rfl, rfl, BodyGe.pre (rest := []) (by first | rfl | (simp [strC]; done)) (strC_refs _)⟩, trivial⟩ rfl
        · have hclo := strC_cons z o
          have hlo := hle
          simp only [List.length_cons] at hlo
          repeat' ((conv => whnf); first | (with_reducible refine ixJ i rfl ?_ ?_; (focus (omega))) | (refine exI hx1 ?_) | (refine exI hx4 ?_) | (refine apS ?_) | (first | refine stp ?_ | with_reducible refine condB (fun h => ?_) (fun h => ?_)))
          conv => whnf
          refine ⟨Nat, (fun k => k ≤ exprs.length), (fun k => [(0, .rs l.length 7 (stC l)), (3, grA 0 1 (base ++ nmL (exprs.take k))), (4, .int .i64 i), (5, .int .i64 k)]), (fun k => grB 0 strC 9 (base ++ nmL (exprs.take k))), (fun k => exprs.length - k), ⟨0, Nat.zero_le _, ?_⟩, ?_⟩
          · subst hbase
            simp only [List.take_zero, nmL, List.append_nil]
            exact FgL.mk [2] rfl ⟨Wk.noref rfl, Wk.slice rfl rfl (by first | rfl | (simp; done) | (simp; omega)) (Nat.le_refl _) (by first | rfl | (simp; done) | (simp; omega)) rfl, Wk.int rfl, Wk.int rfl, trivial⟩ ⟨⟨rfl, rfl, rfl, rfl, BodyGe.pre (rest := []) (by first | rfl | (simp [strC]; done)) (strC_refs _)⟩, trivial⟩ rfl
          intro k hk
          dsimp only
          have hlk2 := hil k
          by_cases hlk : k < exprs.length
          · have e3 : decide ((k : Int) < (exprs.length : Int)) = true := by simpa using hlk
            have hxk := ex4 exprs k hlk
            have hlr := nmE_len exprs[k]
            have hsk := sizeL_mem _ _ (get_mem hlk)
            have q3 := q2 exprs[k] (okL_get k6 _ (get_mem hlk)) (by omega)
            have hnk : base ++ nmL (exprs.take (k + 1)) = (base ++ nmL (exprs.take k)) ++ nmE exprs[k] := by rw [hin k hlk, List.append_assoc]
            have hlp : (base ++ nmL (exprs.take k)).length ≤ 4194304 := by rw [List.length_append]; omega
            generalize base ++ nmL (exprs.take k) = p at *
            generalize nmE exprs[k] = r at *
            generalize exprs[k] = y at *
            obtain ⟨yo, yn, ys, yk⟩ := y
            simp only [Ex.cells] at hxk q3
            rcases p with _ | ⟨z2, p⟩
            · rcases r with _ | ⟨z3, r⟩
              · simp only [rsK_nil] at q3
                repeat' ((conv => whnf); first | (with_reducible refine exI (q3 _) ?_) | (with_reducible refine ixJ i rfl ?_ ?_; (focus (omega))) | (with_reducible refine ixJ k rfl ?_ ?_; (focus (omega))) | (refine exI hx4 ?_) | (refine exI hxk ?_) | (refine apS ?_) | (first | refine stp ?_ | with_reducible refine condB (fun h => ?_) (fun h => ?_)))
                conv => whnf
                refine ⟨k + 1, hlk, by show exprs.length - (k + 1) < exprs.length - k; omega, ?_⟩
                rw [hnk]
                exact FgL.mk [] rfl ⟨Wk.noref rfl, Wk.noref rfl, Wk.int rfl, Wk.int rfl, trivial⟩ trivial rfl
              · simp only [rsK_cons] at q3
                have hon := strs_one (z3 :: r)
                simp only [List.length_cons] at hlr
                repeat' ((conv => whnf); first | (with_reducible refine exI (q3 _) ?_) | (with_reducible refine ixJ i rfl ?_ ?_; (focus (omega))) | (with_reducible refine ixJ k rfl ?_ ?_; (focus (omega))) | (refine exI hx4 ?_) | (refine exI hxk ?_) | (refine apS ?_) | (first | refine stp ?_ | with_reducible refine condB (fun h => ?_) (fun h => ?_)))
                conv => whnf
                refine ⟨k + 1, hlk, by show exprs.length - (k + 1) < exprs.length - k; omega, ?_⟩
                rw [hnk]
                exact FgL.mk [0] rfl ⟨Wk.noref rfl, Wk.slice rfl rfl (by first | rfl | (simp; done) | (simp; omega)) (Nat.le_refl _) (by first | rfl | (simp; done) | (simp; omega)) rfl, Wk.int rfl, Wk.int rfl, trivial⟩ ⟨⟨rfl, rfl, rfl, rfl, BodyGe.pre (rest := []) (by first | rfl | (simp [strC]; done)) (strC_refs _)⟩, trivial⟩ rfl
            · have hcl := strC_cons z2 p
              simp only [List.length_cons] at hlp
              rcases r with _ | ⟨z3, r⟩
              · simp only [rsK_nil] at q3
                repeat' ((conv => whnf); first | (with_reducible refine exI (q3 _) ?_) | (with_reducible refine ixJ i rfl ?_ ?_; (focus (omega))) | (with_reducible refine ixJ k rfl ?_ ?_; (focus (omega))) | (refine exI hx4 ?_) | (refine exI hxk ?_) | (refine apS ?_) | (first | refine stp ?_ | with_reducible refine condB (fun h => ?_) (fun h => ?_)))
                conv => whnf
                refine ⟨k + 1, hlk, by show exprs.length - (k + 1) < exprs.length - k; omega, ?_⟩
                rw [hnk, List.append_nil]
                exact FgL.mk [0] rfl ⟨Wk.noref rfl, Wk.slice rfl rfl (by first | rfl | (simp; done) | (simp; omega)) (Nat.le_refl _) (by first | rfl | (simp; done) | (simp; omega)) rfl, Wk.int rfl, Wk.int rfl, trivial⟩ ⟨⟨rfl, rfl, rfl, rfl, BodyGe.pre (rest := []) (by first | rfl | (simp [strC]; done)) (strC_refs _)⟩, trivial⟩ rfl
              · simp only [rsK_cons] at q3
                have hon := strs_one (z3 :: r)
                simp only [List.length_cons] at hlr
                repeat' ((conv => whnf); first | (with_reducible refine exI (q3 _) ?_) | (with_reducible refine ixJ i rfl ?_ ?_; (focus (omega))) | (with_reducible refine ixJ k rfl ?_ ?_; (focus (omega))) | (refine exI hx4 ?_) | (refine exI hxk ?_) | (refine apS ?_) | (first | refine stp ?_ | with_reducible refine condB (fun h => ?_) (fun h => ?_)))
                conv => whnf
                refine ⟨k + 1, hlk, by show exprs.length - (k + 1) < exprs.length - k; omega, ?_⟩
                rw [hnk]
                exact FgL.mk [1] rfl ⟨Wk.noref rfl, Wk.slice rfl rfl (by first | rfl | (simp; done) | (simp; omega)) (Nat.le_refl _) (by first | rfl | (simp; done) | (simp; omega)) rfl, Wk.int rfl, Wk.int rfl, trivial⟩ ⟨⟨rfl, rfl, rfl, rfl, BodyGe.pre (rest := []) (by first | rfl | (simp [strC]; done)) (strC_refs _)⟩, trivial⟩ rfl
          · have e3 : decide ((k : Int) < (exprs.length : Int)) = false := by simpa using hlk
            have hk2 : k = exprs.length := by have := hk; omega
            subst hk2
            rw [hfull] at hlk2 ⊢
            have hlp : (base ++ nmL exprs).length ≤ 4194304 := by rw [List.length_append]; omega
            generalize base ++ nmL exprs = p at *
            have hnn := strs_one nt
            have hne2 := strs_one ne
            rcases p with _ | ⟨z2, p⟩
            · skip
              rcases nt with _ | ⟨z3, nt⟩
              · simp only [rsK_nil] at qt
                rcases ne with _ | ⟨z4, ne⟩
                · simp only [rsK_nil] at qe
                  repeat' ((conv => whnf); first | (with_reducible refine exI (qt _) ?_) | (with_reducible refine exI (qe _) ?_) | (with_reducible refine ixJ i rfl ?_ ?_; (focus (omega))) | (refine exI hx4 ?_) | (refine exI hx5 ?_) | (refine exI hx6 ?_) | (refine apS ?_) | (first | refine stp ?_ | with_reducible refine condB (fun h => ?_) (fun h => ?_)))
                  conv => whnf
                  refine ⟨i + 1, hlt, by show l.length - (i + 1) < l.length - i; omega, ?_⟩
                  rw [hnx]
                  simp only [List.append_nil]
                  exact FgL.mk [] rfl ⟨Wk.noref rfl, Wk.noref rfl, Wk.int rfl, trivial⟩ trivial rfl
                · simp only [rsK_cons] at qe
                  simp only [List.length_cons] at hne
                  repeat' ((conv => whnf); first | (with_reducible refine exI (qt _) ?_) | (with_reducible refine exI (qe _) ?_) | (with_reducible refine ixJ i rfl ?_ ?_; (focus (omega))) | (refine exI hx4 ?_) | (refine exI hx5 ?_) | (refine exI hx6 ?_) | (refine apS ?_) | (first | refine stp ?_ | with_reducible refine condB (fun h => ?_) (fun h => ?_)))
                  conv => whnf
                  refine ⟨i + 1, hlt, by show l.length - (i + 1) < l.length - i; omega, ?_⟩
                  rw [hnx]
                  simp only [List.nil_append]
                  exact FgL.mk [0] rfl ⟨Wk.noref rfl, Wk.slice rfl rfl (by first | rfl | (simp; done) | (simp; omega)) (Nat.le_refl _) (by first | rfl | (simp; done) | (simp; omega)) rfl, Wk.int rfl, trivial⟩ ⟨⟨rfl, rfl, rfl, rfl, BodyGe.pre (rest := []) (by first | rfl | (simp [strC]; done)) (strC_refs _)⟩, trivial⟩ rfl
              · simp only [rsK_cons] at qt
                simp only [List.length_cons] at hnt
                have hcl2 := strC_cons z3 nt
                rcases ne with _ | ⟨z4, ne⟩
                · simp only [rsK_nil] at qe
                  repeat' ((conv => whnf); first | (with_reducible refine exI (qt _) ?_) | (with_reducible refine exI (qe _) ?_) | (with_reducible refine ixJ i rfl ?_ ?_; (focus (omega))) | (refine exI hx4 ?_) | (refine exI hx5 ?_) | (refine exI hx6 ?_) | (refine apS ?_) | (first | refine stp ?_ | with_reducible refine condB (fun h => ?_) (fun h => ?_)))
                  conv => whnf
                  refine ⟨i + 1, hlt, by show l.length - (i + 1) < l.length - i; omega, ?_⟩
                  rw [hnx]
                  simp only [List.append_nil, List.nil_append]
                  exact FgL.mk [0] rfl ⟨Wk.noref rfl, Wk.slice rfl rfl (by first | rfl | (simp; done) | (simp; omega)) (Nat.le_refl _) (by first | rfl | (simp; done) | (simp; omega)) rfl, Wk.int rfl, trivial⟩ ⟨⟨rfl, rfl, rfl, rfl, BodyGe.pre (rest := []) (by first | rfl | (simp [strC]; done)) (strC_refs _)⟩, trivial⟩ rfl
                · simp only [rsK_cons] at qe
                  simp only [List.length_cons] at hne
                  repeat' ((conv => whnf); first | (with_reducible refine exI (qt _) ?_) | (with_reducible refine exI (qe _) ?_) | (with_reducible refine ixJ i rfl ?_ ?_; (focus (omega))) | (refine exI hx4 ?_) | (refine exI hx5 ?_) | (refine exI hx6 ?_) | (refine apS ?_) | (first | refine stp ?_ | with_reducible refine condB (fun h => ?_) (fun h => ?_)))
                  conv => whnf
                  refine ⟨i + 1, hlt, by show l.length - (i + 1) < l.length - i; omega, ?_⟩
                  rw [hnx]
                  simp only [List.nil_append]
                  exact FgL.mk [1] rfl ⟨Wk.noref rfl, Wk.slice rfl rfl (by first | rfl | (simp; done) | (simp; omega)) (Nat.le_refl _) (by first | rfl | (simp; done) | (simp; omega)) rfl, Wk.int rfl, trivial⟩ ⟨⟨rfl, rfl, rfl, rfl, BodyGe.pre (rest := []) (by first | rfl | (simp [strC]; done)) (strC_refs _)⟩, trivial⟩ rfl
            · have hcl := strC_cons z2 p
              simp only [List.length_cons] at hlp
              rcases nt with _ | ⟨z3, nt⟩
              · simp only [rsK_nil] at qt
                rcases ne with _ | ⟨z4, ne⟩
                · simp only [rsK_nil] at qe
                  repeat' ((conv => whnf); first | (with_reducible refine exI (qt _) ?_) | (with_reducible refine exI (qe _) ?_) | (with_reducible refine ixJ i rfl ?_ ?_; (focus (omega))) | (refine exI hx4 ?_) | (refine exI hx5 ?_) | (refine exI hx6 ?_) | (refine apS ?_) | (first | refine stp ?_ | with_reducible refine condB (fun h => ?_) (fun h => ?_)))
                  conv => whnf
                  refine ⟨i + 1, hlt, by show l.length - (i + 1) < l.length - i; omega, ?_⟩
                  rw [hnx]
                  simp only [List.append_nil, List.nil_append]
                  exact FgL.mk [0] rfl ⟨Wk.noref rfl, Wk.slice rfl rfl (by first | rfl | (simp; done) | (simp; omega)) (Nat.le_refl _) (by first | rfl | (simp; done) | (simp; omega)) rfl, Wk.int rfl, trivial⟩ ⟨⟨rfl, rfl, rfl, rfl, BodyGe.pre (rest := []) (by first | rfl | (simp [strC]; done)) (strC_refs _)⟩, trivial⟩ rfl
                · simp only [rsK_cons] at qe
                  simp only [List.length_cons] at hne
                  repeat' ((conv => whnf); first | (with_reducible refine exI (qt _) ?_) | (with_reducible refine exI (qe _) ?_) | (with_reducible refine ixJ i rfl ?_ ?_; (focus (omega))) | (refine exI hx4 ?_) | (refine exI hx5 ?_) | (refine exI hx6 ?_) | (refine apS ?_) | (first | refine stp ?_ | with_reducible refine condB (fun h => ?_) (fun h => ?_)))
                  conv => whnf
                  refine ⟨i + 1, hlt, by show l.length - (i + 1) < l.length - i; omega, ?_⟩
                  rw [hnx]
                  simp only [List.nil_append]
                  exact FgL.mk [1] rfl ⟨Wk.noref rfl, Wk.slice rfl rfl (by first | rfl | (simp; done) | (simp; omega)) (Nat.le_refl _) (by first | rfl | (simp; done) | (simp; omega)) rfl, Wk.int rfl, trivial⟩ ⟨⟨rfl, rfl, rfl, rfl, BodyGe.pre (rest := []) (by first | rfl | (simp [strC]; done)) (strC_refs _)⟩, trivial⟩ rfl
              · simp only [rsK_cons] at qt
                simp only [List.length_cons] at hnt
                have hcl2 : (strC (z2 :: p) ++ strC (z3 :: nt)).length = (p.length + 1 + (nt.length + 1)) * 1 := by simp [strC]; omega
                rcases ne with _ | ⟨z4, ne⟩
                · simp only [rsK_nil] at qe
                  repeat' ((conv => whnf); first | (with_reducible refine exI (qt _) ?_) | (with_reducible refine exI (qe _) ?_) | (with_reducible refine ixJ i rfl ?_ ?_; (focus (omega))) | (refine exI hx4 ?_) | (refine exI hx5 ?_) | (refine exI hx6 ?_) | (refine apS ?_) | (first | refine stp ?_ | with_reducible refine condB (fun h => ?_) (fun h => ?_)))
                  conv => whnf
                  refine ⟨i + 1, hlt, by show l.length - (i + 1) < l.length - i; omega, ?_⟩
                  rw [hnx]
                  simp only [List.append_nil, List.nil_append]
                  exact FgL.mk [1] rfl ⟨Wk.noref rfl, Wk.slice rfl rfl (by first | rfl | (simp; done) | (simp; omega)) (Nat.le_refl _) (by first | rfl | (simp; done) | (simp; omega)) rfl, Wk.int rfl, trivial⟩ ⟨⟨rfl, rfl, rfl, rfl, BodyGe.pre (rest := []) (by first | rfl | (simp [strC]; done)) (strC_refs _)⟩, trivial⟩ rfl
                · simp only [rsK_cons] at qe
                  simp only [List.length_cons] at hne
                  repeat' ((conv => whnf); first | (with_reducible refine exI (qt _) ?_) | (with_reducible refine exI (qe _) ?_) | (with_reducible refine ixJ i rfl ?_ ?_; (focus (omega))) | (refine exI hx4 ?_) | (refine exI hx5 ?_) | (refine exI hx6 ?_) | (refine apS ?_) | (first | refine stp ?_ | with_reducible refine condB (fun h => ?_) (fun h => ?_)))
                  conv => whnf
                  refine ⟨i + 1, hlt, by show l.length - (i + 1) < l.length - i; omega, ?_⟩
                  rw [hnx]
                  exact FgL.mk [2] rfl ⟨Wk.noref rfl, Wk.slice rfl rfl (by first | rfl | (simp; done) | (simp; omega)) (Nat.le_refl _) (by first | rfl | (simp; done) | (simp; omega)) rfl, Wk.int rfl, trivial⟩ ⟨⟨rfl, rfl, rfl, rfl, BodyGe.pre (rest := []) (by first | rfl | (simp [strC]; done)) (strC_refs _)⟩, trivial⟩ rfl
    · have e1 : decide ((i : Int) < (l.length : Int)) = false := by simpa using hlt
      have hi2 : i = l.length := by have := hi; omega
      subst hi2
      rw [List.take_length] at hle ⊢
      generalize nmSL l = o at *
      cases o with
      | nil =>
        repeat' ((conv => whnf); first | refine stp ?_ | with_reducible refine condB (fun h => ?_) (fun h => ?_))
        all_goals exact .inr ⟨rfl, _, rfl⟩
      | cons z o =>
        repeat' ((conv => whnf); first | refine stp ?_ | with_reducible refine condB (fun h => ?_) (fun h => ?_))
        conv => whnf
        exact ⟨_, frz_slice (b := 0) rfl (strC_cons z o) (strC_lit (z :: o)), .inl rfl⟩
end Go.Proofs.YtcbjhdklbhlmhaaGreatDoor.lex
end

/-
  Registers: the program's Regs hands back the names, rising, each once.
-/
section
set_option linter.unusedVariables false
set_option linter.unusedSimpArgs false
namespace Go.Proofs.YtcbjhdklbhlmhaaGreatDoor.lex
open Go.Abs Go.RowKit
set_option maxRecDepth 100000
set_option maxHeartbeats 4000000
def rgN0 (l : List St) : List (List UInt8) := addA (nmSL l) []
theorem rg_stmts (l : List St) (hok : okSL l) (hl : l.length ≤ 9223372036854775807) (h : sizeSL l ≤ 1048576) : MemOK Tryz.prog runLives.gl 50 [stA l, .int .i64 1, .func (.func 51) [] [.ptr 2 0], .func (.func 52) [] [.ptr 2 0]] (rgH []) (.bool true) (rgH (rgN0 l)) := by
  have hI : rgI 1 [] (sizeSL l + 0) := ⟨by omega, by omega⟩
  have := TvS.stmts rgV (sizeSL l) l 1 [] 0 (Nat.le_refl _) hok hl hI
  have e := goSL_rg l 1 []
  have e1 : (goSL rgV.hE rgV.hS l 1 []).1 = true := congrArg Prod.fst e
  have e2 : (goSL rgV.hE rgV.hS l 1 []).2 = rgN0 l := congrArg Prod.snd e
  rw [e1, e2] at this
  exact this
theorem rg_sorted {orc : Orc} (n : List (List UInt8)) (hk : okKeys n (rgE 0 n) n.length = true) : acall Tryz.prog (orcOr (sortO 53 73) orc) (rgH n ++ [⟨true, 3, 0, .cells [.map 0] 72⟩]) 53 [.func (.func 73) [] [.ptr 3 0]] = some (rsK (sortB n), rgH n ++ [⟨true, 3, 0, .cells [.map 0] 72⟩]) := by
  refine callOr1 (by kernel_rfl) ?_
  have hb : hasBody Tryz.prog 53 = true := by kernel_rfl
  unfold acall
  rw [if_pos hb]
  have h1 : sortAns (rgE 0 n) n.length = some (rsK (sortB n)) := by
    unfold sortAns
    rw [strsE_rg]
    simp only [hk, if_true]
  have h2 : mapIn ⟨true, 3, 0, .cells [.map 0] 72⟩ = some 0 := rfl
  have h3 : mapOf ⟨true, 0, 0, .map (rgE 0 n) n.length⟩ = some (rgE 0 n, n.length) := rfl
  simp only [sortO, if_true, sortArg, rgH]
  show (match mapIn ⟨true, 3, 0, .cells [.map 0] 72⟩ with | some b => _ | none => none) = _
  rw [h2]
  show (match mapOf ⟨true, 0, 0, .map (rgE 0 n) n.length⟩ with | some (es, clock) => _ | none => none) = _
  rw [h3]
  show (match sortAns (rgE 0 n) n.length with | some v => _ | none => none) = _
  rw [h1]
theorem regsX_ok (l : List St) (hok : okSL l) (hl : l.length ≤ 9223372036854775807) (h : sizeSL l ≤ 900000) : ValOK Tryz.prog runLives.gl 31 [stA l] (rsK (sortB (rgN0 l))) := by
  obtain ⟨O, hO, ⟨p1, -⟩, -⟩ := famsM (P := Tryz.prog) (gl := runLives.gl) [{ I := Unit, f := 50, G := (fun _ => True), A := (fun _ => [stA l, .int .i64 1, .func (.func 51) [] [.ptr 2 0], .func (.func 52) [] [.ptr 2 0]]), H := (fun _ => rgH []), R := (fun _ => .bool true), O := (fun _ => rgH (rgN0 l)), body := (by kernel_rfl), inj := (fun _ _ _ _ _ _ => ⟨rfl, rfl⟩), ok := (fun _ _ => rg_stmts l hok hl (by omega)) }] [] rfl
  have hO2 := orcOr_sound (shelf.sound (gl := runLives.gl)) hO
  have q1 : acall Tryz.prog (orcOr (sortO 53 73) O) (rgH []) 50 [stA l, .int .i64 1, .func (.func 51) [] [.ptr 2 0], .func (.func 52) [] [.ptr 2 0]] = some (.bool true, rgH (rgN0 l)) := callOr2 (by kernel_rfl) rfl (p1 () trivial)
  have hlen := addA_len (nmSL l) []
  have hlen2 := nmSL_len l
  simp only [List.length_nil] at hlen
  have hk : okKeys (rgN0 l) (rgE 0 (rgN0 l)) (rgN0 l).length = true := by
    refine rg_keys (addA_nodup _ _ List.nodup_nil) (fun x hx => ?_) (by unfold rgN0; omega)
    rcases addA_mem.1 hx with hx | hx
    · cases hx
    · exact nmSL_ok hok x hx
  have q2 := rg_sorted (orc := O) (rgN0 l) hk
  simp only [stA, rgH] at q1 q2 ⊢
  generalize rgE 0 (rgN0 l) = es at *
  generalize (rgN0 l).length = c at *
  refine fn_valI (fun g => Nat.beq g 50 || Nat.beq g 53) 2 follows noNum hO2 Tryz.func31 rfl ?_
  repeat' ((conv => whnf); first | (refine exI q1 ?_) | (refine exI q2 ?_) | (first | refine stp ?_ | with_reducible refine condB (fun h => ?_) (fun h => ?_)))
  all_goals (conv => whnf)
  all_goals rfl
end Go.Proofs.YtcbjhdklbhlmhaaGreatDoor.lex
end

/-
  Texts, rising, each once: the document's Set.
-/
section
set_option linter.unusedVariables false
set_option linter.unusedSimpArgs false
namespace Go.Proofs.YtcbjhdklbhlmhaaGreatDoor.lex
open Go.Abs Go.RowKit
set_option maxRecDepth 100000
set_option maxHeartbeats 4000000
variable {gl : Glob}
theorem xc_take {H : AHeap} {f c : Nat} {o : List (List UInt8)} {k : Nat} (hH : H[0]? = some ⟨true, f, 0, .cells (strC o) 9⟩) (hk : k ≤ o.length) : xcells H 1 (.slice 0 0 k c 1) = some (k, strC (o.take k)) := by
  have h : tk (k * 1) ((strC o).drop 0) = some (strC (o.take k)) := by
    have h1 : strC o = strC (o.take k) ++ strC (o.drop k) := by rw [← strC_app, List.take_append_drop]
    have h2 : (strC (o.take k)).length = k * 1 := by rw [strC_len, List.length_take, Nat.min_eq_left hk]
    rw [List.drop_zero, h1, ← h2]; exact tk_app _ _
  simp only [xcells, if_true, rd, hH, h]
theorem xc_drop {H : AHeap} {f c n : Nat} {o : List (List UInt8)} {k : Nat} (hH : H[0]? = some ⟨true, f, 0, .cells (strC o) 9⟩) (hn : n = o.length) : xcells H 1 (.slice 0 (0 + k * 1) (n - k) c 1) = some (n - k, strC (o.drop k)) := by
  have h : tk ((n - k) * 1) ((strC o).drop (0 + k * 1)) = some (strC (o.drop k)) := by
    have h1 : (strC o).drop (0 + k * 1) = strC (o.drop k) := by simp [strC]
    rw [h1]
    exact tk_all (by rw [strC_len, List.length_drop, hn])
  simp only [xcells, if_true, rd, hH, h]
theorem xc_none {H : AHeap} {off n c : Nat} (h0 : n = 0) {f : Nat} {cs : List AV} (hH : H[0]? = some ⟨true, f, 0, .cells cs 9⟩) : xcells H 1 (.slice 0 off n c 1) = some (0, []) := by
  subst h0
  have h : tk (0 * 1) (cs.drop off) = some [] := by cases (cs.drop off) <;> rfl
  simp only [xcells, if_true, rd, hH, h]
theorem setR_ok (l : List (List UInt8)) (h : l.length ≤ 1048576) : ValOK Tryz.prog gl 55 [rsK l] (rsK (setU l)) := by
  have hT : appT Tryz.prog 25 25 = some (9, 1, 16) := by kernel_rfl
  rw [show rsK (setU l) = .rs (setU l).length 1 (strC (setU l)) from rfl, show rsK l = .rs l.length 1 (strC l) from rfl]
  refine fn_valN follows noNum none_sound Tryz.func55 rfl ?_
  repeat' ((conv => whnf); first | refine stp ?_ | with_reducible refine condB (fun h => ?_) (fun h => ?_))
  conv => whnf
  refine ⟨Nat, (fun i => i ≤ l.length), (fun i => [(0, .rs l.length 1 (strC l)), (3, grA 0 1 (setU (l.take i))), (4, .int .i64 i)]), (fun i => grB 0 strC 9 (setU (l.take i))), (fun i => l.length - i), ⟨0, Nat.zero_le _, ?_⟩, ?_⟩
  · exact FgL.mk [] rfl ⟨Wk.noref rfl, Wk.noref rfl, Wk.int rfl, trivial⟩ trivial rfl
  intro i hi
  dsimp only
  have hle := setU_take_len l i
  by_cases hlt : i < l.length
  · have e1 : decide ((i : Int) < (l.length : Int)) = true := by simpa using hlt
    have hs : tk 1 ((strC l).drop (i * 1)) = some [.str l[i]] := tk1_map AV.str l i hlt (by omega)
    have hnx := setU_next l i hlt
    generalize setU (l.take i) = o at *
    generalize l[i] = s at *
    have hpl := posU_le s o
    rcases o with _ | ⟨z, o⟩
    · -- the first
      repeat' ((conv => whnf); first | (with_reducible refine ixJ i rfl ?_ ?_; (focus (omega))) | (refine exI hs ?_) | (refine apS ?_) | (first | refine stp ?_ | with_reducible refine condB (fun h => ?_) (fun h => ?_)))
      conv => whnf
      refine ⟨Nat, (fun k => k ≤ posU s ([] : List (List UInt8))), (fun k => [(0, .rs l.length 1 (strC l)), (3, grA 0 1 ([] : List (List UInt8))), (4, .int .i64 i), (5, .int .i64 k)]), (fun k => grB 0 strC 9 ([] : List (List UInt8))), (fun k => posU s ([] : List (List UInt8)) - k), ⟨0, Nat.zero_le _, ?_⟩, ?_⟩
      · exact FgL.mk [] rfl ⟨Wk.noref rfl, Wk.noref rfl, Wk.int rfl, Wk.int rfl, trivial⟩ trivial rfl
      intro k hk
      dsimp only
      have hk0 : k = 0 := by simpa [posU] using hk
      subst hk0
      repeat' ((conv => whnf); first | (with_reducible refine ixJ i rfl ?_ ?_; (focus (omega))) | (refine exI hs ?_) | (refine apS ?_) | (first | refine stp ?_ | with_reducible refine condB (fun h => ?_) (fun h => ?_)))
      conv => whnf
      refine ⟨i + 1, hlt, by show l.length - (i + 1) < l.length - i; omega, ?_⟩
      rw [hnx]
      exact FgL.mk [2] rfl ⟨Wk.noref rfl, Wk.slice rfl rfl rfl (Nat.le_refl _) (Nat.le_refl _) rfl, Wk.int rfl, trivial⟩ ⟨⟨rfl, rfl, rfl, rfl, BodyGe.pre (rest := []) rfl rfl⟩, trivial⟩ rfl
    · have hcl := strC_cons z o
      have hol : o.length + 1 ≤ l.length := by simpa using hle
      repeat' ((conv => whnf); first | (with_reducible refine ixJ i rfl ?_ ?_; (focus (omega))) | (refine exI hs ?_) | (first | refine stp ?_ | with_reducible refine condB (fun h => ?_) (fun h => ?_)))
      conv => whnf
      refine ⟨Nat, (fun k => k ≤ posU s (z :: o)), (fun k => [(0, .rs l.length 1 (strC l)), (3, grA 0 1 (z :: o)), (4, .int .i64 i), (5, .int .i64 k)]), (fun k => grB 0 strC 9 (z :: o)), (fun k => posU s (z :: o) - k), ⟨0, Nat.zero_le _, ?_⟩, ?_⟩
      · exact FgL.mk [0] rfl ⟨Wk.noref rfl, Wk.slice rfl rfl rfl (Nat.le_refl _) (Nat.le_refl _) rfl, Wk.int rfl, Wk.int rfl, trivial⟩ ⟨⟨rfl, rfl, rfl, rfl, BodyGe.pre (rest := []) (by simp) (strC_refs _)⟩, trivial⟩ rfl
      intro k hk
      dsimp only
      by_cases hlk : k < posU s (z :: o)
      · have hkl : k < (z :: o).length := by omega
        have hob := posU_lt s (z :: o) k hkl hlk
        have hg : tk 1 ((strC (z :: o)).drop (0 + k * 1)) = some [.str (z :: o)[k]] := tk1_map AV.str (z :: o) k hkl (by omega)
        generalize (z :: o)[k] = y at *
        simp only [List.length_cons] at hkl
        have e3 : decide ((k : Int) < ((o.length + 1 : Nat) : Int)) = true := by simp; omega
        repeat' ((conv => whnf); first | (with_reducible refine ixJ i rfl ?_ ?_; (focus (omega))) | (with_reducible refine ixJ k rfl ?_ ?_; (focus (omega))) | (refine exI hs ?_) | (refine exI hg ?_) | (first | refine stp ?_ | with_reducible refine condB (fun h => ?_) (fun h => ?_)))
        conv => whnf
        refine ⟨k + 1, hlk, by show posU s (z :: o) - (k + 1) < posU s (z :: o) - k; omega, ?_⟩
        exact FgL.mk [0] rfl ⟨Wk.noref rfl, Wk.slice rfl rfl rfl (Nat.le_refl _) (Nat.le_refl _) rfl, Wk.int rfl, Wk.int rfl, trivial⟩ ⟨⟨rfl, rfl, rfl, rfl, BodyGe.pre (rest := []) (by simp) (strC_refs _)⟩, trivial⟩ rfl
      · have hk2 : k = posU s (z :: o) := by have := hk; omega
        have hpa := posU_at s (z :: o)
        have hsame := insU_same s (z :: o)
        have hnew := insU_new s (z :: o)
        rw [← hk2] at hpa hsame hnew
        by_cases hkl : k < (z :: o).length
        · have hob := hpa hkl
          have hsm := hsame hkl
          have hnw := hnew
          have hg : tk 1 ((strC (z :: o)).drop (0 + k * 1)) = some [.str (z :: o)[k]] := tk1_map AV.str (z :: o) k hkl (by omega)
          have hkl2 : k < o.length + 1 := by simpa using hkl
          have e3 : decide ((k : Int) < ((o.length + 1 : Nat) : Int)) = true := by simp; omega
          cases hys : ((z :: o)[k] == s) with
          | true =>
            rw [hsm hys] at hnx
            generalize (z :: o)[k] = y at *
            repeat' ((conv => whnf); first | (with_reducible refine ixJ i rfl ?_ ?_; (focus (omega))) | (with_reducible refine ixJ k rfl ?_ ?_; (focus (omega))) | (refine exI hs ?_) | (refine exI hg ?_) | (first | refine stp ?_ | with_reducible refine condB (fun h => ?_) (fun h => ?_)))
            conv => whnf
            refine ⟨i + 1, hlt, by show l.length - (i + 1) < l.length - i; omega, ?_⟩
            rw [hnx]
            exact FgL.mk [0] rfl ⟨Wk.noref rfl, Wk.slice rfl rfl rfl (Nat.le_refl _) (Nat.le_refl _) rfl, Wk.int rfl, trivial⟩ ⟨⟨rfl, rfl, rfl, rfl, BodyGe.pre (rest := []) (by simp) (strC_refs _)⟩, trivial⟩ rfl
          | false =>
            have hnx2 := hnx.trans (hnw fun _ => hys)
            generalize (z :: o)[k] = y at *
            rcases k with _ | k
            · simp only [List.take_zero, List.drop_zero, List.nil_append] at hnx2
              have hxd := fun (H : AHeap) (f c : Nat) hH => xc_drop (H := H) (f := f) (c := c) (n := o.length + 1) (o := z :: o) (k := 0) hH rfl
              repeat' ((conv => whnf); first | (with_reducible refine ixJ i rfl ?_ ?_; (focus (omega))) | (with_reducible refine ixJ 0 rfl ?_ ?_; (focus (omega))) | (refine exI hs ?_) | (refine exI hg ?_) | (refine exI (app_okG hT (hxd _ _ _ rfl) rfl (ekil_ok ?_) ?_ ?_ ?_ ?_) ?_; (focus (simp [ekOk, ABody.len])); (focus (simp [strC]; try omega)); (focus (exact strs_one _)); (focus (omega)); (focus (omega))) | (refine apS ?_) | (first | refine stp ?_ | with_reducible refine condB (fun h => ?_) (fun h => ?_)))
              conv => whnf
              refine ⟨i + 1, hlt, by show l.length - (i + 1) < l.length - i; omega, ?_⟩
              rw [hnx2]
              refine FgL.mk [4] rfl ⟨Wk.noref rfl, Wk.slice rfl rfl ?_ (Nat.le_refl _) ?_ rfl, Wk.int rfl, trivial⟩ ⟨⟨rfl, rfl, rfl, rfl, BodyGe.pre (rest := []) ?_ (strC_refs _)⟩, trivial⟩ rfl
              all_goals first | (simp [strC]; done) | (simp; omega)
            · have hxt := fun (H : AHeap) (f c : Nat) hH => xc_take (H := H) (f := f) (c := c) (o := z :: o) (k := k + 1) hH (by simp; omega)
              have hxd := fun (H : AHeap) (f c : Nat) hH => xc_drop (H := H) (f := f) (c := c) (n := o.length + 1) (o := z :: o) (k := k + 1) hH rfl
              have hct : (([] : List AV) ++ strC ((z :: o).take (k + 1))).length = (0 + (k + 1)) * 1 := by rw [List.nil_append, strC_len, List.length_take, Nat.min_eq_left (by simp; omega)]; omega
              repeat' ((conv => whnf); first | (with_reducible refine ixJ i rfl ?_ ?_; (focus (omega))) | (with_reducible refine ixJ (k + 1) rfl ?_ ?_; (focus (omega))) | (refine exI hs ?_) | (refine exI hg ?_) | (refine exI (app_okG hT (hxt _ _ _ rfl) rfl (ekil_ok ?_) ?_ ?_ ?_ ?_) ?_; (focus (simp [ekOk, ABody.len])); (focus (simp [strC]; try omega)); (focus (exact strs_one _)); (focus (omega)); (focus (omega))) | (refine exI (app_okG hT (hxd _ _ _ rfl) rfl (ekil_ok ?_) ?_ ?_ ?_ ?_) ?_; (focus (simp [ekOk, ABody.len])); (focus (simp [strC]; try omega)); (focus (exact strs_one _)); (focus (omega)); (focus (omega))) | (refine apS ?_) | (first | refine stp ?_ | with_reducible refine condB (fun h => ?_) (fun h => ?_)))
              conv => whnf
              refine ⟨i + 1, hlt, by show l.length - (i + 1) < l.length - i; omega, ?_⟩
              rw [hnx2]
              refine FgL.mk [5] rfl ⟨Wk.noref rfl, Wk.slice rfl rfl ?_ (Nat.le_refl _) ?_ rfl, Wk.int rfl, trivial⟩ ⟨⟨rfl, rfl, rfl, rfl, BodyGe.pre (rest := []) ?_ (strC_refs _)⟩, trivial⟩ rfl
              all_goals first | (simp [strC]; done) | (simp; omega)
        · have hkn : k = o.length + 1 := by
            have := posU_le s (z :: o)
            simp only [List.length_cons] at this hkl
            omega
          have hnx2 := hnx.trans (hnew fun h => absurd h hkl)
          have e3 : decide ((k : Int) < ((o.length + 1 : Nat) : Int)) = false := by simp; omega
          rcases k with _ | k
          · omega
          · have hxt := fun (H : AHeap) (f c : Nat) hH => xc_take (H := H) (f := f) (c := c) (o := z :: o) (k := k + 1) hH (by simp; omega)
            have hct : (([] : List AV) ++ strC ((z :: o).take (k + 1))).length = (0 + (k + 1)) * 1 := by rw [List.nil_append, strC_len, List.length_take, Nat.min_eq_left (by simp; omega)]; omega
            have hdr : (z :: o).drop (k + 1) = [] := List.drop_eq_nil_of_le (by simp; omega)
            rw [hdr] at hnx2
            repeat' ((conv => whnf); first | (with_reducible refine ixJ i rfl ?_ ?_; (focus (omega))) | (with_reducible refine ixJ (k + 1) rfl ?_ ?_; (focus (omega))) | (refine exI hs ?_) | (refine exI (app_okG hT (hxt _ _ _ rfl) rfl (ekil_ok ?_) ?_ ?_ ?_ ?_) ?_; (focus (simp [ekOk, ABody.len])); (focus (simp [strC]; try omega)); (focus (exact strs_one _)); (focus (omega)); (focus (omega))) | (refine exI (app_zero hT (xc_none (by omega) rfl)) ?_) | (refine apS ?_) | (first | refine stp ?_ | with_reducible refine condB (fun h => ?_) (fun h => ?_)))
            conv => whnf
            refine ⟨i + 1, hlt, by show l.length - (i + 1) < l.length - i; omega, ?_⟩
            rw [hnx2]
            refine FgL.mk [4] rfl ⟨Wk.noref rfl, Wk.slice rfl rfl ?_ (Nat.le_refl _) ?_ rfl, Wk.int rfl, trivial⟩ ⟨⟨rfl, rfl, rfl, rfl, BodyGe.pre (rest := []) ?_ (strC_refs _)⟩, trivial⟩ rfl
            all_goals first | (simp [strC]; done) | (simp; omega)
  · have e1 : decide ((i : Int) < (l.length : Int)) = false := by simpa using hlt
    have hi2 : i = l.length := by have := hi; omega
    subst hi2
    rw [List.take_length] at hle ⊢
    generalize setU l = o at *
    cases o with
    | nil =>
      repeat' ((conv => whnf); first | refine stp ?_ | with_reducible refine condB (fun h => ?_) (fun h => ?_))
      all_goals exact .inr ⟨rfl, _, rfl⟩
    | cons z o =>
      repeat' ((conv => whnf); first | refine stp ?_ | with_reducible refine condB (fun h => ?_) (fun h => ?_))
      conv => whnf
      exact ⟨_, frz_slice (b := 0) rfl (strC_cons z o) (strC_lit (z :: o)), .inl rfl⟩
/-- The document's Regs. -/
theorem regsL_ok (l : List St) (hok : okSL l) (hl : l.length ≤ 9223372036854775807) (h : sizeSL l ≤ 900000) : ValOK Tryz.prog gl 32 [stA l] (rsK (sortB (rgN0 l))) := by
  have hlen := nmSL_len l
  obtain ⟨O, hO, p1, p2, -⟩ := fams (P := Tryz.prog) (gl := gl) [{ I := Unit, f := 56, G := (fun _ => True), A := (fun _ => [stA l]), R := (fun _ => rsK (nmSL l)), body := (by kernel_rfl), inj := (fun _ _ _ _ _ => rfl), ok := (fun _ _ => ⟨rfl, allR_ok _ l (Nat.le_refl _) hok hl (by omega)⟩) },
    { I := Unit, f := 55, G := (fun _ => True), A := (fun _ => [rsK (nmSL l)]), R := (fun _ => rsK (setU (nmSL l))), body := (by kernel_rfl), inj := (fun _ _ _ _ _ => rfl), ok := (fun _ _ => ⟨rfl, setR_ok _ (by omega)⟩) }] rfl
  have q1 : ∀ H, acall Tryz.prog O H 56 [stA l] = some (rsK (nmSL l), H) := p1 () trivial
  have q2 : ∀ H, acall Tryz.prog O H 55 [rsK (nmSL l)] = some (rsK (setU (nmSL l)), H) := p2 () trivial
  rw [show rsK (sortB (rgN0 l)) = rsK (setU (nmSL l)) by rw [setU_eq]; rfl]
  simp only [stA, rsK] at q1 q2 ⊢
  refine fn_val follows noNum hO Tryz.func32 rfl ?_
  repeat' ((conv => whnf); first | (refine exI (q1 _) ?_) | (refine exI (q2 _) ?_) | (first | refine stp ?_ | with_reducible refine condB (fun h => ?_) (fun h => ?_)))
  all_goals rfl
end Go.Proofs.YtcbjhdklbhlmhaaGreatDoor.lex
end

/-
  Put, of both; names, of both.
-/
section
set_option linter.unusedVariables false
set_option linter.unusedSimpArgs false
namespace Go.Proofs.YtcbjhdklbhlmhaaGreatDoor.lex
open Go.Abs Go.RowKit
set_option maxRecDepth 100000
set_option maxHeartbeats 4000000
variable {gl : Glob}
def oneV {gl : Glob} {f : Nat} {A : List AV} {R : AV} (G : Prop) (hb : hasBody Tryz.prog f = true) (hr : refsL A [] = []) (h : G → ValOK Tryz.prog gl f A R) : Fam Tryz.prog gl := { I := Unit, f := f, G := fun _ => G, A := fun _ => A, R := fun _ => R, body := hb, inj := (fun _ _ _ _ _ => rfl), ok := (fun _ hG => ⟨hr, h hG⟩) }
/-- Why it may not be put in. -/
def putI (e : Ex) (nm : List UInt8) (b : Ex) : Int := if checkE e ≠ 0 then checkE e else if checkE b ≠ 0 then checkE b else if 2000 < sizeE (putE nm b e) then 3 else checkE (putE nm b e)
def putO (e : Ex) (nm : List UInt8) (b : Ex) : AV := .tuple [.agg (if putI e nm b = 0 then putE nm b e else zeroX).cells, .int .i64 (putI e nm b)]
theorem okI_put {e b : Ex} {nm : List UInt8} (he : goodE e) (hb : goodE b) : okI (putE nm b e) := ⟨(good_put hb he).2.2, (good_put hb he).2.1⟩
theorem PutX_ok (e : Ex) (nm : List UInt8) (b : Ex) (hi : okI e) (hbi : okI b) (hs : sizeE e ≤ 1048576) (hbs : sizeE b ≤ 1048576) : ValOK Tryz.prog runLives.gl 11 [.agg e.cells, .str nm, .agg b.cells] (putO e nm b) := by
  have hgrow : goodE e ∧ goodE b → sizeE (putE nm b e) ≤ 2000 → True := fun _ _ => trivial
  obtain ⟨O, hO, p1, p2, p3, p4, -⟩ := fams (P := Tryz.prog) (gl := runLives.gl) [famSelf (f := 20) (by kernel_rfl) (fun x => okE x ∧ sizeE x ≤ 1048576) (fun x => .int .i64 (checkE x)) (fun x hx => checkEX_ok x hx.1 hx.2),
    famOne (f := 27) (by kernel_rfl) b True (.int .i64 (sizeE b)) (fun _ => sizeX_ok _ b (Nat.le_refl _) hbs),
    oneV (f := 26) (A := [.agg e.cells, .str nm, .int .i64 (sizeE b)]) (R := .int .i64 (growE nm (sizeE b) e)) True (by kernel_rfl) (by obtain ⟨a', b', c', d'⟩ := e; rfl) (fun _ => grownX_ok nm (sizeE b) hbs _ e (Nat.le_refl _) hs),
    oneV (f := 28) (A := [.agg e.cells, .str nm, .agg b.cells]) (R := .agg (putE nm b e).cells) (goodE e ∧ goodE b) (by kernel_rfl) (by obtain ⟨a', b', c', d'⟩ := e; obtain ⟨a2, b2, c2, d2⟩ := b; rfl) (fun h => putX_ok nm b e h.2 h.1 hbs hs)] rfl
  have q1 : ∀ H, acall Tryz.prog O H 20 [.agg e.cells] = some (.int .i64 (checkE e), H) := p1 e ⟨hi.1, hs⟩
  have q1b : ∀ H, acall Tryz.prog O H 20 [.agg b.cells] = some (.int .i64 (checkE b), H) := p1 b ⟨hbi.1, hbs⟩
  have q1c : okE (putE nm b e) ∧ sizeE (putE nm b e) ≤ 1048576 → ∀ H, acall Tryz.prog O H 20 [.agg (putE nm b e).cells] = some (.int .i64 (checkE (putE nm b e)), H) := p1 _
  have q2 : ∀ H, acall Tryz.prog O H 27 [.agg b.cells] = some (.int .i64 (sizeE b), H) := p2 () trivial
  have q3 : ∀ H, acall Tryz.prog O H 26 [.agg e.cells, .str nm, .int .i64 (sizeE b)] = some (.int .i64 (growE nm (sizeE b) e), H) := p3 () trivial
  have q4 : goodE e ∧ goodE b → ∀ H, acall Tryz.prog O H 28 [.agg e.cells, .str nm, .agg b.cells] = some (.agg (putE nm b e).cells, H) := p4 ()
  clear p1 p2 p3 p4 hgrow
  have hge := fun h => (check0 (e := e) h hi).1
  have hgb := fun h => (check0 (e := b) h hbi).1
  have hgp := fun (h1 : goodE e) (h2 : goodE b) => okI_put (nm := nm) h1 h2
  rw [grow_size] at q3
  have hI : putI e nm b = if checkE e ≠ 0 then checkE e else if checkE b ≠ 0 then checkE b else if 2000 < sizeE (putE nm b e) then 3 else checkE (putE nm b e) := rfl
  unfold putO
  generalize putI e nm b = pI at *
  generalize putE nm b e = t at *
  generalize hc1 : checkE e = c1 at *
  generalize hc2 : checkE b = c2 at *
  generalize hc3 : checkE t = c3 at *
  have hsz := sizeE_pos t
  by_cases h1 : c1 = 0
  · by_cases h2 : c2 = 0
    · by_cases h3 : sizeE t ≤ 2000
      · replace q4 := q4 ⟨hge h1, hgb h2⟩
        replace q1c := q1c ⟨(hgp (hge h1) (hgb h2)).1, by omega⟩
        have e3 : decide ((sizeE t : Int) > 2000) = false := by simp; omega
        clear hge hgb hgp hi hbi hs hbs hc1 hc2 hc3
        rw [if_neg (fun h => h h1), if_neg (fun h => h h2), if_neg (by omega)] at hI
        subst hI
        generalize sizeE t = tz at *
        generalize sizeE b = bz at *
        obtain ⟨eo, en, es, ek⟩ := e
        obtain ⟨bo, bn, bs, bk⟩ := b
        obtain ⟨to, tn, ts, tkk⟩ := t
        simp only [Ex.cells, exA] at q1 q1b q1c q2 q3 q4 ⊢
        subst h1
        subst h2
        by_cases h4 : pI = 0
        · subst h4
          rw [if_pos rfl]
          refine fn_valW follows noNum hO Tryz.func11 rfl ?_
          repeat' ((conv => whnf); first | (with_reducible refine exI (q1 _) ?_) | (with_reducible refine exI (q1b _) ?_) | (with_reducible refine exI (q1c _) ?_) | (with_reducible refine exI (q2 _) ?_) | (with_reducible refine exI (q3 _) ?_) | (with_reducible refine exI (q4 _) ?_) | (first | refine stp ?_ | with_reducible refine condB (fun h => ?_) (fun h => ?_)))
          all_goals exact fun _ _ h => h
        · rw [if_neg h4]
          have e4 : (pI != 0) = true := bne_of (b := false) (by simpa using h4)
          simp only [zeroX, exC, List.length_nil]
          refine fn_valW follows noNum hO Tryz.func11 rfl ?_
          repeat' ((conv => whnf); first | (with_reducible refine exI (q1 _) ?_) | (with_reducible refine exI (q1b _) ?_) | (with_reducible refine exI (q1c _) ?_) | (with_reducible refine exI (q2 _) ?_) | (with_reducible refine exI (q3 _) ?_) | (with_reducible refine exI (q4 _) ?_) | (first | refine stp ?_ | with_reducible refine condB (fun h => ?_) (fun h => ?_)))
          all_goals exact fun _ _ h => nil4t h
      · have e3 : decide ((sizeE t : Int) > 2000) = true := by simp; omega
        clear hge hgb hgp hi hbi hs hbs hc1 hc2 hc3 q1c q4
        rw [if_neg (fun h => h h1), if_neg (fun h => h h2), if_pos (by omega)] at hI
        rw [hI, if_neg (by decide)]
        generalize sizeE t = tz at *
        generalize sizeE b = bz at *
        obtain ⟨eo, en, es, ek⟩ := e
        obtain ⟨bo, bn, bs, bk⟩ := b
        simp only [Ex.cells, exA, zeroX, exC, List.length_nil] at q1 q1b q2 q3 ⊢
        subst h1
        subst h2
        refine fn_valW follows noNum hO Tryz.func11 rfl ?_
        repeat' ((conv => whnf); first | (with_reducible refine exI (q1 _) ?_) | (with_reducible refine exI (q1b _) ?_) | (with_reducible refine exI (q2 _) ?_) | (with_reducible refine exI (q3 _) ?_) | (first | refine stp ?_ | with_reducible refine condB (fun h => ?_) (fun h => ?_)))
        all_goals exact fun _ _ h => nil4t h
    · clear hge hgb hgp hi hbi hs hbs hc1 hc2 hc3 q1c q4 q2 q3
      have e2 : (c2 != 0) = true := bne_of (b := false) (by simpa using h2)
      rw [if_neg (fun h => h h1), if_pos h2] at hI
      rw [hI, if_neg h2]
      obtain ⟨eo, en, es, ek⟩ := e
      obtain ⟨bo, bn, bs, bk⟩ := b
      simp only [Ex.cells, exA, zeroX, exC, List.length_nil] at q1 q1b ⊢
      subst h1
      refine fn_valW follows noNum hO Tryz.func11 rfl ?_
      repeat' ((conv => whnf); first | (with_reducible refine exI (q1 _) ?_) | (with_reducible refine exI (q1b _) ?_) | (first | refine stp ?_ | with_reducible refine condB (fun h => ?_) (fun h => ?_)))
      all_goals exact fun _ _ h => nil4t h
  · clear hge hgb hgp hi hbi hs hbs hc1 hc2 hc3 q1c q4 q2 q3
    have e2 : (c1 != 0) = true := bne_of (b := false) (by simpa using h1)
    rw [if_pos h1] at hI
    rw [hI, if_neg h1]
    obtain ⟨eo, en, es, ek⟩ := e
    obtain ⟨bo, bn, bs, bk⟩ := b
    simp only [Ex.cells, exA, zeroX, exC, List.length_nil] at q1 q1b ⊢
    refine fn_valW follows noNum hO Tryz.func11 rfl ?_
    repeat' ((conv => whnf); first | (with_reducible refine exI (q1 _) ?_) | (with_reducible refine exI (q1b _) ?_) | (first | refine stp ?_ | with_reducible refine condB (fun h => ?_) (fun h => ?_)))
    all_goals exact fun _ _ h => nil4t h
theorem check_put {e b : Ex} {nm : List UInt8} (he : goodE e) (hb : goodE b) (h : sizeE (putE nm b e) ≤ 2000) : checkE (putE nm b e) = 0 ∨ checkE (putE nm b e) = 3 := by
  have hr := (good_put (nm := nm) hb he).1
  unfold checkE
  rw [if_pos hr]
  split
  · exact .inr rfl
  · exact .inl rfl
theorem PutR_ok (e : Ex) (nm : List UInt8) (b : Ex) (hi : okI e) (hbi : okI b) (hs : sizeE e ≤ 1048576) (hbs : sizeE b ≤ 1048576) : ValOK Tryz.prog gl 12 [.agg e.cells, .str nm, .agg b.cells] (putO e nm b) := by
  obtain ⟨O, hO, p1, p4, -⟩ := fams (P := Tryz.prog) (gl := gl) [famSelf (f := 22) (by kernel_rfl) (fun x => okE x ∧ sizeE x ≤ 1048576) (fun x => .int .i64 (checkE x)) (fun x hx => checkER_ok x hx.1 hx.2),
    oneV (f := 29) (A := [.agg e.cells, .str nm, .agg b.cells, .int .i64 2000]) (R := .tuple [.agg (putP nm b e 2000).1.cells, .int .i64 (putP nm b e 2000).2]) True (by kernel_rfl) (put_args nm b e 2000) (fun h => putR_ok nm b hbi.1 hbs _ e 2000 (Nat.le_refl _) hi.1 hs (by omega) (by omega))] rfl
  have q1 : ∀ H, acall Tryz.prog O H 22 [.agg e.cells] = some (.int .i64 (checkE e), H) := p1 e ⟨hi.1, hs⟩
  have q1b : ∀ H, acall Tryz.prog O H 22 [.agg b.cells] = some (.int .i64 (checkE b), H) := p1 b ⟨hbi.1, hbs⟩
  have q1c : okE (putE nm b e) ∧ sizeE (putE nm b e) ≤ 1048576 → ∀ H, acall Tryz.prog O H 22 [.agg (putE nm b e).cells] = some (.int .i64 (checkE (putE nm b e)), H) := p1 _
  have q4 : ∀ H, acall Tryz.prog O H 29 [.agg e.cells, .str nm, .agg b.cells, .int .i64 2000] = some (.tuple [.agg (putP nm b e 2000).1.cells, .int .i64 (putP nm b e 2000).2], H) := p4 () trivial
  clear p1 p4
  have hge := fun h => (check0 (e := e) h hi).1
  have hgb := fun h => (check0 (e := b) h hbi).1
  have hgp := fun (h1 : goodE e) (h2 : goodE b) => okI_put (nm := nm) h1 h2
  have hcp := fun (h1 : goodE e) (h2 : goodE b) => check_put (nm := nm) h1 h2
  obtain ⟨hpe1, hpe2⟩ := putP_eq nm b e 2000 (by omega)
  have hI : putI e nm b = if checkE e ≠ 0 then checkE e else if checkE b ≠ 0 then checkE b else if 2000 < sizeE (putE nm b e) then 3 else checkE (putE nm b e) := rfl
  unfold putO
  generalize putI e nm b = pI at *
  generalize putE nm b e = t at *
  generalize putP nm b e 2000 = pp at *
  generalize hc1 : checkE e = c1 at *
  generalize hc2 : checkE b = c2 at *
  generalize hc3 : checkE t = c3 at *
  have hsz := sizeE_pos t
  by_cases h1 : c1 = 0
  · by_cases h2 : c2 = 0
    · by_cases h3 : sizeE t ≤ 2000
      · have hpp := hpe1 (by omega)
        replace q1c := q1c ⟨(hgp (hge h1) (hgb h2)).1, by omega⟩
        replace hcp := hcp (hge h1) (hgb h2) h3
        rw [hpp] at q4
        have e3 : decide ((2000 - (sizeE t : Int)) < 0) = false := by simp; omega
        clear hge hgb hgp hi hbi hs hbs hc1 hc2 hc3 hpe1 hpe2 hpp
        rw [if_neg (fun h => h h1), if_neg (fun h => h h2), if_neg (by omega)] at hI
        subst hI
        generalize sizeE t = tz at *
        obtain ⟨eo, en, es, ek⟩ := e
        obtain ⟨bo, bn, bs, bk⟩ := b
        obtain ⟨to, tn, ts, tkk⟩ := t
        simp only [Ex.cells, exA] at q1 q1b q1c q4 ⊢
        subst h1
        subst h2
        rcases hcp with h4 | h4
        · subst h4
          rw [if_pos rfl]
          refine fn_valW follows noNum hO Tryz.func12 rfl ?_
          repeat' ((conv => whnf); first | (with_reducible refine exI (q1 _) ?_) | (with_reducible refine exI (q1b _) ?_) | (with_reducible refine exI (q1c _) ?_) | (with_reducible refine exI (q4 _) ?_) | (first | refine stp ?_ | with_reducible refine condB (fun h => ?_) (fun h => ?_)))
          all_goals exact fun _ _ h => h
        · subst h4
          rw [if_neg (by decide)]
          simp only [zeroX, exC, List.length_nil]
          refine fn_valW follows noNum hO Tryz.func12 rfl ?_
          repeat' ((conv => whnf); first | (with_reducible refine exI (q1 _) ?_) | (with_reducible refine exI (q1b _) ?_) | (with_reducible refine exI (q1c _) ?_) | (with_reducible refine exI (q4 _) ?_) | (first | refine stp ?_ | with_reducible refine condB (fun h => ?_) (fun h => ?_)))
          all_goals exact fun _ _ h => nil4t h
      · have hneg := hpe2 (by omega)
        have e3 : decide (pp.2 < 0) = true := by simpa using hneg
        clear hge hgb hgp hi hbi hs hbs hc1 hc2 hc3 q1c hcp hpe1 hpe2
        rw [if_neg (fun h => h h1), if_neg (fun h => h h2), if_pos (by omega)] at hI
        rw [hI, if_neg (by decide)]
        generalize pp.2 = p2 at *
        generalize pp.1 = p1 at *
        obtain ⟨eo, en, es, ek⟩ := e
        obtain ⟨bo, bn, bs, bk⟩ := b
        obtain ⟨po, pn, ps, pk⟩ := p1
        simp only [Ex.cells, exA, zeroX, exC, List.length_nil] at q1 q1b q4 ⊢
        subst h1
        subst h2
        refine fn_valW follows noNum hO Tryz.func12 rfl ?_
        repeat' ((conv => whnf); first | (with_reducible refine exI (q1 _) ?_) | (with_reducible refine exI (q1b _) ?_) | (with_reducible refine exI (q4 _) ?_) | (first | refine stp ?_ | with_reducible refine condB (fun h => ?_) (fun h => ?_)))
        all_goals exact fun _ _ h => nil4t h
    · clear hge hgb hgp hi hbi hs hbs hc1 hc2 hc3 q1c q4 hcp hpe1 hpe2
      have e2 : (c2 != 0) = true := bne_of (b := false) (by simpa using h2)
      have e2b : (c2 == 0) = false := by simpa using h2
      rw [if_neg (fun h => h h1), if_pos h2] at hI
      rw [hI, if_neg h2]
      obtain ⟨eo, en, es, ek⟩ := e
      obtain ⟨bo, bn, bs, bk⟩ := b
      simp only [Ex.cells, exA, zeroX, exC, List.length_nil] at q1 q1b ⊢
      subst h1
      refine fn_valW follows noNum hO Tryz.func12 rfl ?_
      repeat' ((conv => whnf); first | (with_reducible refine exI (q1 _) ?_) | (with_reducible refine exI (q1b _) ?_) | (first | refine stp ?_ | with_reducible refine condB (fun h => ?_) (fun h => ?_)))
      all_goals exact fun _ _ h => nil4t h
  · clear hge hgb hgp hi hbi hs hbs hc1 hc2 hc3 q1c q4 hcp hpe1 hpe2
    have e2 : (c1 != 0) = true := bne_of (b := false) (by simpa using h1)
    have e2b : (c1 == 0) = false := by simpa using h1
    rw [if_pos h1] at hI
    rw [hI, if_neg h1]
    obtain ⟨eo, en, es, ek⟩ := e
    obtain ⟨bo, bn, bs, bk⟩ := b
    simp only [Ex.cells, exA, zeroX, exC, List.length_nil] at q1 q1b ⊢
    refine fn_valW follows noNum hO Tryz.func12 rfl ?_
    repeat' ((conv => whnf); first | (with_reducible refine exI (q1 _) ?_) | (with_reducible refine exI (q1b _) ?_) | (first | refine stp ?_ | with_reducible refine condB (fun h => ?_) (fun h => ?_)))
    all_goals exact fun _ _ h => nil4t h
end Go.Proofs.YtcbjhdklbhlmhaaGreatDoor.lex
end

/-
  A verified abstract interpreter, part 49: a call that is handed memory of ours for good: what it hands back may hold of it, and nothing of ours is written any more.
-/
section
set_option linter.unusedSimpArgs false
set_option linter.unusedVariables false
namespace Go.Abs
open Go.RowKit

section
open Classical
/-- What is known of memory, and what stands in living blocks of ours. -/
noncomputable def snO (sn : Snap) (ι : IMap) (H : AHeap) (W : World) : Snap := fun a => if ∃ (b : Nat) (o : AObj) (p : Place), H[b]? = some o ∧ o.alive = true ∧ ι b = some p ∧ p.blk = a.block then W.cell? a else sn a
end
def orcD (F : Nat → List AV → Option AV) : Orc := fun f args H => match frzL (frz H 30) args with
  | some az => match F f az with | some r => some (r, kil (fun _ _ => true) 0 H) | none => none
  | none => none
theorem cell_lt {W : World} {a : Addr} {v : Value} (hv : W.cell? a = some v) : a.block < W.heap.size := by
  cases hq : W.heap[a.block]? with
  | none => unfold World.cell? at hv; rw [hq] at hv; simp at hv
  | some ob => exact (Array.getElem?_eq_some_iff.1 hq).1
theorem orcD_sound {P : Program} {gl : Glob} {F : Nat → List AV → Option AV} (h : ∀ f args r, F f args = some r → ValOK P gl f args r) : OrcSound P gl (orcD F) := by
  intro f args H r H' hf sn ι W cargs hg hR ha
  unfold orcD at hf
  split at hf <;> try (simp at hf; done)
  rename_i az has
  split at hf <;> simp at hf
  rename_i r' hr
  obtain ⟨rfl, rfl⟩ := hf
  have h2 := h f az r' hr
  have hle : ∀ a v, sn a = some v → snO sn ι H W a = some v := fun a v hv => by
    unfold snO
    split
    · exact (hR.snap a v hv).2.1
    · exact hv
  have hcell : ∀ a v, snO sn ι H W a = some v → W.cell? a = some v := fun a v hv => by
    unfold snO at hv
    split at hv
    · exact hv
    · exact (hR.snap a v hv).2.1
  have hR' : R (snO sn ι H W) noI [] W :=
    ⟨fun b => ⟨fun hb => by simp at hb, fun ⟨p, hp⟩ => by simp [noI] at hp⟩, fun b p hp => by simp [noI] at hp, fun b o p hb => by simp at hb, fun b b' o o' p p' hb => by simp at hb,
      fun a v hv => ⟨cell_lt (hcell a v hv), hcell a v hv, fun b o p hb => by simp at hb⟩, fun b o p hb => by simp at hb⟩
  have hargs : LR (snO sn ι H W) noI az cargs := frzL_sound (fun u r v => frz_sound2 hR.obj ⟨hle, fun _ _ h => h⟩ (fun b o p hb hal hp off v hv => by
    unfold snO; rw [if_pos ⟨b, o, p, hb, hal, hp, rfl⟩]; exact hv) 30 u r v) has ha
  refine (h2 _ W cargs (hg.mono (gl_le hle)) hR' hargs).mono ?_
  rintro e W' ⟨v, rfl, hx, hv⟩
  generalize hs1 : snx (snO sn ι H W) W.heap.size W' = s1 at hv
  have h1lt : ∀ a, a.block < W.heap.size → s1 a = snO sn ι H W a := fun a ha => by rw [← hs1]; unfold snx; rw [if_pos ha]
  have h1ge : ∀ a, ¬ a.block < W.heap.size → s1 a = W'.cell? a := fun a ha => by rw [← hs1]; unfold snx; rw [if_neg ha]
  have hle1 : ∀ a v, sn a = some v → s1 a = some v := fun a v hv => by rw [h1lt a (hR.snap a v hv).1]; exact hle a v hv
  have hcell1 : ∀ a v, s1 a = some v → W'.cell? a = some v := fun a v hv => by
    by_cases hlt : a.block < W.heap.size
    · rw [h1lt a hlt] at hv
      have := hcell a v hv
      unfold World.cell? at this ⊢
      rw [hx.old _ hlt]; exact this
    · rw [h1ge a hlt] at hv; exact hv
  refine ⟨v, s1, ι, rfl, VR_noI hv, ⟨fun b => ⟨fun hb => ?_, fun ⟨p, hp⟩ => ?_⟩, fun b p hp => ?_, fun b o p hb hal hp => ?_, fun b b' o o' p p' hb hb' hp hp' e => ?_, fun a v hv => ?_, fun b o p hb hp e => ?_⟩, ⟨hle1, fun _ _ h => h⟩, fun b p hp => .inl hp, fun c hc _ => hx.old c hc, hx.size, hx.os, hx.tape, hx.output, fun a v hv => ?_, fun b o hb => ?_⟩
  · rw [kil_length] at hb; exact (hR.dom b).1 hb
  · rw [kil_length]; exact (hR.dom b).2 ⟨p, hp⟩
  · have := hR.blk b p hp; have := hx.size; omega
  · obtain ⟨o0, _, _, _, h4⟩ := kil_some hb
    have := (h4 hal).2; simp at this
  · obtain ⟨o0, g1, g2, g3, _⟩ := kil_some hb
    obtain ⟨o0', g1', g2', g3', _⟩ := kil_some hb'
    rw [g2, g3, g2', g3']
    exact hR.sep b b' o0 o0' p p' g1 g1' hp hp' e
  · refine ⟨cell_lt (hcell1 a v hv), hcell1 a v hv, fun b o p hb hal hp => ?_⟩
    obtain ⟨o0, _, _, _, h4⟩ := kil_some hb
    have := (h4 hal).2; simp at this
  · obtain ⟨o0, g1, g2, g3, _⟩ := kil_some hb
    exact hR.shz b o0 p g1 hp (by rw [← g3]; exact e)
  · by_cases hlt : a.block < W.heap.size
    · rw [h1lt a hlt] at hv
      unfold snO at hv
      split at hv
      · rename_i hex
        obtain ⟨b, o, p, x1, x2, x3, x4⟩ := hex
        exact .inr (.inr ⟨b, o, p, x1, x2, x3, x4⟩)
      · exact .inl hv
    · exact .inr (.inl (by omega))
  · rw [kil_get, hb]
    simp only [Nat.zero_add, Option.map_some]
    refine ⟨_, rfl, ?_⟩
    simp [AObj.dead]
theorem callD {P : Program} {F : Nat → List AV → Option AV} {H : AHeap} {g : Nat} {args fa : List AV} {r : AV} (h1 : hasBody P g = true) (h2 : frzL (frz H 30) args = some fa) (h3 : F g fa = some r) : acall P (orcD F) H g args = some (r, kil (fun _ _ => true) 0 H) := by
  simp only [acall, h1, if_true, orcD, h2, h3]
end Go.Abs
end

/-
  Names of registers, of both.
-/
section
set_option linter.unusedVariables false
set_option linter.unusedSimpArgs false
namespace Go.Proofs.YtcbjhdklbhlmhaaGreatDoor.lex
open Go.Abs Go.RowKit
set_option maxRecDepth 100000
set_option maxHeartbeats 4000000
variable {gl : Glob}
def nmsO (e : Ex) : AV := rsK (sortB (addA (nmE e) []))
def nmSt (e : Ex) : St := .mk 0 [] [] 0 [e] [] []
theorem nmSt_names (e : Ex) : rgN0 [nmSt e] = addA (nmE e) [] := by
  unfold rgN0
  congr 1
  simp [nmSt, nmSL, nmS, nmL]
def nmA (e : Ex) : AV := .rs 1 7 [.int .i64 0, .str [], .str [], .int .i64 0, .rs 1 4 e.cells, .nslice, .nslice]
theorem nm_weak (e : Ex) : ∀ sn vs, LR sn noI [nmA e] vs → LR sn noI [stA [nmSt e]] vs := by
  intro sn vs h
  have hE : stA [nmSt e] = .rs 1 7 [.int .i64 0, .str [], .str [], .int .i64 0, .rs 1 4 e.cells, .rs 0 7 [], .rs 0 7 []] := by
    obtain ⟨o, m, s, k⟩ := e; rfl
  rw [hE]
  simp only [nmA, LR] at h ⊢
  obtain ⟨d, ds, rfl, h1, h2⟩ := h
  refine ⟨d, ds, rfl, ?_, h2⟩
  unfold VR at h1 ⊢
  rcases h1 with ⟨h1, _⟩ | ⟨a, cap, x1, x2, x3, x4, x5⟩
  · cases h1
  · refine .inr ⟨a, cap, x1, x2, rfl, ?_, x5⟩
    simp only [MR] at x4 ⊢
    obtain ⟨m1, m2, m3, m4, m5, ⟨v6, n6, k6⟩, ⟨v7, n7, k7⟩, m8⟩ := x4
    exact ⟨m1, m2, m3, m4, m5, ⟨v6, n6, nil_rs k6⟩, ⟨v7, n7, nil_rs k7⟩, m8⟩
section
open Classical
noncomputable def nmF (g : Nat) (e : Ex) : Nat → List AV → Option AV := fun f fa => if f = g ∧ fa = [nmA e] then some (nmsO e) else none
end
theorem nmF_sound (g : Nat) (e : Ex) (h : ValOK Tryz.prog gl g [stA [nmSt e]] (rsK (sortB (rgN0 [nmSt e])))) : OrcSound Tryz.prog gl (orcD (nmF g e)) := orcD_sound fun f args r hr => by
  unfold nmF at hr
  split at hr
  · rename_i h2
    obtain ⟨rfl, rfl⟩ := h2
    simp only [Option.some.injEq] at hr
    subst hr
    rw [nmSt_names] at h
    exact h.weak (nm_weak e)
  · cases hr
theorem nmSt_ok {e : Ex} (hok : okE e) : okSL [nmSt e] := by
  simp [okSL, nmSt, okS, okL, okN, hok]
theorem nmSt_size (e : Ex) : sizeSL [nmSt e] = 1 + sizeE e := by simp [nmSt, sizeSL, sizeS, sizeL]
theorem NamesX_ok (e : Ex) (hok : okE e) (hs : sizeE e ≤ 800000) : ValOK Tryz.prog runLives.gl 15 [.agg e.cells] (nmsO e) := by
  have hO := nmF_sound 31 e (regsX_ok [nmSt e] (nmSt_ok hok) (by simp) (by rw [nmSt_size]; omega))
  have hq : ∀ H args, frzL (frz H 30) args = some [nmA e] → acall Tryz.prog (orcD (nmF 31 e)) H 31 args = some (nmsO e, kil (fun _ _ => true) 0 H) := fun H args h => callD (by kernel_rfl) h (by unfold nmF; exact if_pos ⟨rfl, rfl⟩)
  generalize orcD (nmF 31 e) = O at *
  unfold nmsO rsK at hq ⊢
  generalize sortB (addA (nmE e) []) = l at *
  obtain ⟨op, num, name, kids⟩ := e
  simp only [Ex.cells, exA, nmA] at hq ⊢
  refine fn_val follows noNum hO Tryz.func15 rfl ?_
  repeat' ((conv => whnf); first | (refine exI (hq _ _ rfl) ?_) | (first | refine stp ?_ | with_reducible refine condB (fun h => ?_) (fun h => ?_)))
  all_goals rfl
theorem NamesR_ok (e : Ex) (hok : okE e) (hs : sizeE e ≤ 800000) : ValOK Tryz.prog gl 16 [.agg e.cells] (nmsO e) := by
  have hO := nmF_sound (gl := gl) 32 e (regsL_ok [nmSt e] (nmSt_ok hok) (by simp) (by rw [nmSt_size]; omega))
  have hq : ∀ H args, frzL (frz H 30) args = some [nmA e] → acall Tryz.prog (orcD (nmF 32 e)) H 32 args = some (nmsO e, kil (fun _ _ => true) 0 H) := fun H args h => callD (by kernel_rfl) h (by unfold nmF; exact if_pos ⟨rfl, rfl⟩)
  generalize orcD (nmF 32 e) = O at *
  unfold nmsO rsK at hq ⊢
  generalize sortB (addA (nmE e) []) = l at *
  obtain ⟨op, num, name, kids⟩ := e
  simp only [Ex.cells, exA, nmA] at hq ⊢
  refine fn_val follows noNum hO Tryz.func16 rfl ?_
  repeat' ((conv => whnf); first | (refine exI (hq _ _ rfl) ?_) | (first | refine stp ?_ | with_reducible refine condB (fun h => ?_) (fun h => ?_)))
  all_goals rfl
end Go.Proofs.YtcbjhdklbhlmhaaGreatDoor.lex
end


/-
  Texts of this proof, one behind the other (part 8).
-/
import Derived.Test.YtkkfcfjhhdmamaaGreatDoorPack7


section

set_option linter.unusedVariables false
set_option linter.unusedSimpArgs false
namespace Go.Proofs.YtkkfcfjhhdmamaaGreatDoor.lex
open Go.Abs Go.RowKit
set_option maxRecDepth 100000
set_option maxHeartbeats 4000000
def goodX (e : Ex) : Prop := rightE e = true ∧ rgE e
theorem brk0 {e : Ex} (h : rightE e = true) : brk (e.op, wrE e) 0 = wrE e := by
  have := lev_pos (right_op h)
  exact if_neg (show ¬ lev e.op < 0 by omega)
abbrev wmE : WM Tryz.prog rgl tW tB := wmExpr (fun e l => goodX e ∧ l = 0) (fun e l h => h.1.1) (fun e l h => by rw [h.2]; exact expr_okN _ e (Nat.le_refl _) h.1.1 h.1.2 0 (by omega))
theorem e1 {O : Orc} (h : wmE.fam.Ask O) {e : Ex} (g : goodX e) {w : List UInt8} (hw : wrE e = w) {s : List UInt8} {b c fb fc : Nat} {H : AHeap} {rest : List AV} {d : Int} (hs : s ≠ []) (hb : (s ++ w).length ≤ 1073741824)
    (e2 : H[b]? = some ⟨true, fb, 0, .cells [.ptr b 0, .slice c 0 s.length s.length 1, .int .i64 d] tW⟩) (e1 : H[c]? = some ⟨true, fc, 0, .cells (byt s) tB⟩) (e3 : Nat.beq fb fc = false) (e4 : loneA [b, c] [fb, fc] 0 H = true) (e5 : frzL (frzM [b, c] (kilM [b, c] H) 30) rest = some [.agg e.cells, .int .i64 0]) :
    acall Tryz.prog O H 49 (.ptr b 0 :: rest) = some (.tuple [], out1 tW tB H b c fb fc (s ++ w) d) := by
  have h1 := expr1 h e 0 ⟨g, rfl⟩ (s := s) (b := b) (c := c) (fb := fb) (fc := fc) (H := H) (rest := rest) (d := d) hs
  rw [brk0 g.1, hw] at h1
  exact h1 hb e2 e1 e3 e4 e5
theorem e0 {O : Orc} (h : wmE.fam.Ask O) {e : Ex} (g : goodX e) {w : List UInt8} (hw : wrE e = w) {b fb : Nat} {H : AHeap} {rest : List AV} {d : Int} (hb : w.length ≤ 1073741824)
    (e1 : H[b]? = some ⟨true, fb, 0, .cells [.nptr, .nslice, .int .i64 d] tW⟩) (e2 : loneA [b] [fb] 0 H = true) (e3 : famLt H.length H = true) (e4 : frzL (frzM [b] (kilM [b] H) 30) rest = some [.agg e.cells, .int .i64 0]) :
    acall Tryz.prog O H 49 (.ptr b 0 :: rest) = some (.tuple [], out0 tW tB H b fb w d) := by
  have h1 := expr0 h e 0 ⟨g, rfl⟩ (b := b) (fb := fb) (H := H) (rest := rest) (d := d)
  rw [brk0 g.1, hw] at h1
  exact h1 hb e1 e2 e3 e4
def brT (word : List UInt8) (e : Ex) : List UInt8 := word ++ (40 :: (wrE e ++ [41]))
theorem bracket_ok (word : List UInt8) (hw : word ≠ []) (e : Ex) (g : goodX e) (s : List UInt8) (d : Int) (hb : (s ++ brT word e).length ≤ 1073741824) :
    MemQ Tryz.prog rgl 1 88 [.ptr 0 0, .str word, .agg e.cells] (WH tW tB s d) (.tuple []) (WH tW tB (s ++ brT word e) d) := by
  obtain ⟨O, hO, ⟨p1, p2, -⟩, -⟩ := famsM (P := Tryz.prog) (gl := rgl) [wmPut.fam, wmE.fam] [] rfl
  obtain ⟨w, hwe⟩ : ∃ w, wrE e = w := ⟨_, rfl⟩
  have q1 := fun {s : List UInt8} {b c fb fc : Nat} {H : AHeap} {rest : List AV} {d : Int} hs hb x2 x1 x3 x4 x5 => e1 p2 g hwe (s := s) (b := b) (c := c) (fb := fb) (fc := fc) (H := H) (rest := rest) (d := d) hs hb x2 x1 x3 x4 x5
  simp only [brT, hwe] at hb ⊢
  clear p2 g hwe
  simp only [List.length_append, List.length_cons, List.length_nil] at hb
  obtain ⟨eo, en, es_, ek⟩ := e
  simp only [Ex.cells] at *
  generalize hN : WH tW tB (s ++ (word ++ 40 :: (w ++ [41]))) d = N
  refine fn_memqC follows noNum hO Tryz.func88 rfl ?_
  cases s with
  | nil =>
    repeat' ((conv => whnf); first | (refine exO0 (put0 p1 word [[40]] (word ++ [40]) rfl rfl hw ?_ rfl rfl rfl rfl) ?_; (focus ((try simp only [List.length_append, List.length_cons, List.length_nil] at *); omega))) | (refine exO1 (put1 p1  [[41]] [41]  rfl rfl ?_ ?_ rfl rfl rfl rfl rfl) ?_; (focus (first | exact List.cons_ne_nil _ _ | assumption | (simp; done) | (intro hz; simp only [List.append_eq_nil_iff] at hz; simp_all; done))); (focus ((try simp only [List.length_append, List.length_cons, List.length_nil] at *); omega))) | (refine exO1 (q1 ?_ ?_ rfl rfl rfl rfl rfl) ?_; (focus (first | exact List.cons_ne_nil _ _ | assumption | (simp; done) | (intro hz; simp only [List.append_eq_nil_iff] at hz; simp_all; done))); (focus ((try simp only [List.length_append, List.length_cons, List.length_nil] at *); omega))) | (first | refine stp ?_ | with_reducible refine condB (fun h => ?_) (fun h => ?_)))
    conv => whnf
    (apply finE hN; rotate_left; rotate_left; (focus (exact rfl)); (focus (exact rfl)); (focus (exact rfl)); (focus (exact rfl)); (focus (simp; done)); (focus (first | exact List.cons_ne_nil _ _ | assumption | (simp; done) | (intro hz; simp only [List.append_eq_nil_iff] at hz; simp_all; done))))
  | cons c t =>
    repeat' ((conv => whnf); first | (refine exO1 (put1 p1 [word, [40]] (word ++ [40]) rfl rfl ?_ ?_ rfl rfl rfl rfl rfl) ?_; (focus (first | exact List.cons_ne_nil _ _ | assumption | (simp; done) | (intro hz; simp only [List.append_eq_nil_iff] at hz; simp_all; done))); (focus ((try simp only [List.length_append, List.length_cons, List.length_nil] at *); omega))) | (refine exO1 (put1 p1  [[41]] [41]  rfl rfl ?_ ?_ rfl rfl rfl rfl rfl) ?_; (focus (first | exact List.cons_ne_nil _ _ | assumption | (simp; done) | (intro hz; simp only [List.append_eq_nil_iff] at hz; simp_all; done))); (focus ((try simp only [List.length_append, List.length_cons, List.length_nil] at *); omega))) | (refine exO1 (q1 ?_ ?_ rfl rfl rfl rfl rfl) ?_; (focus (first | exact List.cons_ne_nil _ _ | assumption | (simp; done) | (intro hz; simp only [List.append_eq_nil_iff] at hz; simp_all; done))); (focus ((try simp only [List.length_append, List.length_cons, List.length_nil] at *); omega))) | (first | refine stp ?_ | with_reducible refine condB (fun h => ?_) (fun h => ?_)))
    conv => whnf
    (apply finE hN; rotate_left; rotate_left; (focus (exact rfl)); (focus (exact rfl)); (focus (exact rfl)); (focus (exact rfl)); (focus (simp; done)); (focus (first | exact List.cons_ne_nil _ _ | assumption | (simp; done) | (intro hz; simp only [List.append_eq_nil_iff] at hz; simp_all; done))))
theorem access_ok (word : List UInt8) (hw : word ≠ []) (x : St) (hg : ∀ e ∈ x.exprs, goodX e) (hle : x.exprs.length ≤ 9223372036854775807) (s : List UInt8) (d : Int) (hb : (s ++ accT word x.loc x.exprs x.order).length ≤ 1073741824) :
    MemQ Tryz.prog rgl 1 89 [.ptr 0 0, .str word, .agg x.cells] (WH tW tB s d) (.tuple []) (WH tW tB (s ++ accT word x.loc x.exprs x.order) d) := by
  obtain ⟨O, hO, ⟨p1, p2, -⟩, ⟨p3, -⟩⟩ := famsM (P := Tryz.prog) (gl := rgl) [wmPut.fam, wmE.fam] [famOrd] rfl
  have q3 : ∀ H, acall Tryz.prog O H 22 [.int .i64 x.order] = some (.str (ordT x.order), H) := p3 x.order trivial
  clear p3
  obtain ⟨k, nm, lc, o, xs, th, el⟩ := x
  simp only [St.exprs, St.loc, St.order, St.cells, exA, accT] at *
  generalize ordT o = od at *
  obtain ⟨tot, htot⟩ : ∃ tot, s ++ (word ++ 40 :: (lc ++ (argT xs ++ 44 :: 32 :: (od ++ [41])))) = tot := ⟨_, rfl⟩
  rw [htot] at hb ⊢
  generalize hN : WH tW tB tot d = N
  have hf1 : List.flatten [word, [40], lc] = word ++ 40 :: lc := by simp
  have hf2 : List.flatten [[44, 32], od, [41]] = 44 :: 32 :: (od ++ [41]) := by simp
  have hpre : (s ++ (word ++ 40 :: lc)).length ≤ 1073741824 := by
    rw [← htot] at hb
    simp only [List.length_append, List.length_cons] at hb ⊢
    omega
  have q1 := fun {e : Ex} (g : goodX e) {w : List UInt8} (hw : wrE e = w) {s : List UInt8} {b c fb fc : Nat} {H : AHeap} {rest : List AV} {d : Int} hs hb x2 x1 x3 x4 x5 => e1 p2 g hw (s := s) (b := b) (c := c) (fb := fb) (fc := fc) (H := H) (rest := rest) (d := d) hs hb x2 x1 x3 x4 x5
  refine fn_memqC follows noNum hO Tryz.func89 rfl ?_
  cases s with
  | nil =>
    repeat' ((conv => whnf); first | (refine exO0 (put0 p1 word [[40], lc] (word ++ (40 :: lc)) hf1 rfl hw ?_ rfl rfl rfl rfl) ?_; (focus ((try simp only [List.length_append, List.length_cons, List.length_nil] at *); omega))) | (first | refine stp ?_ | with_reducible refine condB (fun h => ?_) (fun h => ?_)))
    conv => whnf
    refine ⟨Nat × List UInt8, (fun p => p.1 ≤ xs.length ∧ p.2 ≠ [] ∧ p.2 ++ (argT (xs.drop p.1) ++ 44 :: 32 :: (od ++ [41])) = tot), (fun p => [(0, .ptr 0 0), (5, .ptr 2 0), (15, .rs xs.length 4 (exC xs)), (16, .int .i64 xs.length), (17, .int .i64 p.1)]), (fun p => WH tW tB p.2 d ++ [⟨true, 2, 0, .cells [.int .i64 k, .str nm, .str lc, .int .i64 o, .rs xs.length 4 (exC xs), .rs th.length 7 (stC th), .rs el.length 7 (stC el)] 49⟩]), (fun p => xs.length - p.1), ⟨(0, word ++ 40 :: lc), ⟨Nat.zero_le _, by simp, by rw [← htot]; simp⟩, ?_⟩, ?_⟩
    · dsimp only
      apply fgE (rest := [1])
      rotate_left; rotate_left; rotate_left
      (focus (exact rfl)); (focus (exact rfl)); (focus (exact rfl))
      (focus (exact ⟨⟨rfl, rfl, rfl, rfl, BodyGe.pre (rest := []) rfl rfl⟩, trivial⟩))
      (focus (exact rfl))
      (focus (refine And.intro (Wk.ptr rfl rfl) ?_; refine And.intro (Wk.ptr rfl rfl) ?_; refine And.intro (Wk.noref rfl) ?_; refine And.intro (Wk.int rfl) ?_; exact ⟨Wk.int rfl, trivial⟩))
      (focus (exact rfl)); (focus (simp; done)); (focus (simp; done))
    rintro ⟨i, acc⟩ ⟨h1, h2, h3⟩
    dsimp only at h1 h2 h3
    dsimp only
    clear htot hpre
    have htl := congrArg List.length h3
    obtain ⟨ac, at_, rfl⟩ : ∃ c t, acc = c :: t := by cases acc with | nil => exact absurd rfl h2 | cons c t => exact ⟨c, t, rfl⟩
    by_cases hlt : i < xs.length
    · have c1 : decide ((i : Int) < (xs.length : Int)) = true := by simpa using hlt
      have hx := ex4 xs i hlt
      have hgx := hg xs[i] (get_mem hlt)
      rw [List.drop_eq_getElem_cons hlt] at h3 htl
      simp only [argT, List.length_append, List.length_cons, List.length_nil] at h3 htl
      obtain ⟨w, hwe⟩ : ∃ w, wrE xs[i] = w := ⟨_, rfl⟩
      have qe := fun {s : List UInt8} {b c fb fc : Nat} {H : AHeap} {rest : List AV} {d : Int} hs hb x2 x1 x3 x4 x5 => q1 hgx hwe (s := s) (b := b) (c := c) (fb := fb) (fc := fc) (H := H) (rest := rest) (d := d) hs hb x2 x1 x3 x4 x5
      rw [hwe] at h3 htl
      clear q1 hgx hwe
      generalize xs[i] = x at *
      obtain ⟨xo, xn, xm, xk⟩ := x
      simp only [Ex.cells] at *
      repeat' ((conv => whnf); first | (refine exI hx ?_) | (refine exO1 (put1 p1  [[44, 32]] [44, 32]  rfl rfl ?_ ?_ rfl rfl rfl rfl rfl) ?_; (focus (first | exact List.cons_ne_nil _ _ | assumption | (simp; done) | (intro hz; simp only [List.append_eq_nil_iff] at hz; simp_all; done))); (focus ((try simp only [List.length_append, List.length_cons, List.length_nil] at *); omega))) | (refine exO1 (qe ?_ ?_ rfl rfl rfl rfl rfl) ?_; (focus (first | exact List.cons_ne_nil _ _ | assumption | (simp; done) | (intro hz; simp only [List.append_eq_nil_iff] at hz; simp_all; done))); (focus ((try simp only [List.length_append, List.length_cons, List.length_nil] at *); omega))) | (with_reducible refine ixJ i rfl ?_ ?_; (focus (omega))) | (first | refine stp ?_ | with_reducible refine condB (fun h => ?_) (fun h => ?_)))
      conv => whnf
      refine ⟨(i + 1, ac :: at_ ++ [44, 32] ++ w), ⟨hlt, by simp, by rw [← h3]; simp⟩, by show xs.length - (i + 1) < xs.length - i; omega, ?_⟩
      dsimp only
      apply fgE (rest := [2])
      rotate_left; rotate_left; rotate_left
      (focus (exact rfl)); (focus (exact rfl)); (focus (exact rfl))
      (focus (exact ⟨⟨rfl, rfl, rfl, rfl, BodyGe.pre (rest := []) rfl rfl⟩, trivial⟩))
      (focus (exact rfl))
      (focus (refine And.intro (Wk.ptr rfl rfl) ?_; refine And.intro (Wk.ptr rfl rfl) ?_; refine And.intro (Wk.noref rfl) ?_; refine And.intro (Wk.int rfl) ?_; exact ⟨Wk.int rfl, trivial⟩))
      (focus (exact rfl)); (focus (simp; done)); (focus (simp; done))
    · have c1 : decide ((i : Int) < (xs.length : Int)) = false := by simpa using hlt
      have hi2 : i = xs.length := by omega
      subst hi2
      rw [List.drop_length] at h3 htl
      simp only [argT, List.nil_append, List.length_append, List.length_cons, List.length_nil] at h3 htl
      repeat' ((conv => whnf); first | (with_reducible refine exI (q3 _) ?_) | (refine exO1 (put1 p1 [[44, 32], od, [41]] (44 :: 32 :: (od ++ [41])) hf2 rfl ?_ ?_ rfl rfl rfl rfl rfl) ?_; (focus (first | exact List.cons_ne_nil _ _ | assumption | (simp; done) | (intro hz; simp only [List.append_eq_nil_iff] at hz; simp_all; done))); (focus ((try simp only [List.length_append, List.length_cons, List.length_nil] at *); omega))) | (first | refine stp ?_ | with_reducible refine condB (fun h => ?_) (fun h => ?_)))
      conv => whnf
      (apply finE hN; rotate_left; rotate_left; (focus (exact rfl)); (focus (exact rfl)); (focus (exact rfl)); (focus (exact rfl)); (focus (exact h3)); (focus (rw [← h3]; simp; done)))
  | cons c t =>
    repeat' ((conv => whnf); first | (refine exO1 (put1 p1 [word, [40], lc] (word ++ (40 :: lc)) hf1 rfl ?_ ?_ rfl rfl rfl rfl rfl) ?_; (focus (first | exact List.cons_ne_nil _ _ | assumption | (simp; done) | (intro hz; simp only [List.append_eq_nil_iff] at hz; simp_all; done))); (focus ((try simp only [List.length_append, List.length_cons, List.length_nil] at *); omega))) | (first | refine stp ?_ | with_reducible refine condB (fun h => ?_) (fun h => ?_)))
    conv => whnf
    refine ⟨Nat × List UInt8, (fun p => p.1 ≤ xs.length ∧ p.2 ≠ [] ∧ p.2 ++ (argT (xs.drop p.1) ++ 44 :: 32 :: (od ++ [41])) = tot), (fun p => [(0, .ptr 0 0), (5, .ptr 2 0), (15, .rs xs.length 4 (exC xs)), (16, .int .i64 xs.length), (17, .int .i64 p.1)]), (fun p => WH tW tB p.2 d ++ [⟨true, 2, 0, .cells [.int .i64 k, .str nm, .str lc, .int .i64 o, .rs xs.length 4 (exC xs), .rs th.length 7 (stC th), .rs el.length 7 (stC el)] 49⟩]), (fun p => xs.length - p.1), ⟨(0, c :: t ++ (word ++ 40 :: lc)), ⟨Nat.zero_le _, by simp, by rw [← htot]; simp⟩, ?_⟩, ?_⟩
    · dsimp only
      apply fgE (rest := [2])
      rotate_left; rotate_left; rotate_left
      (focus (exact rfl)); (focus (exact rfl)); (focus (exact rfl))
      (focus (exact ⟨⟨rfl, rfl, rfl, rfl, BodyGe.pre (rest := []) rfl rfl⟩, trivial⟩))
      (focus (exact rfl))
      (focus (refine And.intro (Wk.ptr rfl rfl) ?_; refine And.intro (Wk.ptr rfl rfl) ?_; refine And.intro (Wk.noref rfl) ?_; refine And.intro (Wk.int rfl) ?_; exact ⟨Wk.int rfl, trivial⟩))
      (focus (exact rfl)); (focus (simp; done)); (focus (simp; done))
    rintro ⟨i, acc⟩ ⟨h1, h2, h3⟩
    dsimp only at h1 h2 h3
    dsimp only
    clear htot hpre
    have htl := congrArg List.length h3
    obtain ⟨ac, at_, rfl⟩ : ∃ c t, acc = c :: t := by cases acc with | nil => exact absurd rfl h2 | cons c t => exact ⟨c, t, rfl⟩
    by_cases hlt : i < xs.length
    · have c1 : decide ((i : Int) < (xs.length : Int)) = true := by simpa using hlt
      have hx := ex4 xs i hlt
      have hgx := hg xs[i] (get_mem hlt)
      rw [List.drop_eq_getElem_cons hlt] at h3 htl
      simp only [argT, List.length_append, List.length_cons, List.length_nil] at h3 htl
      obtain ⟨w, hwe⟩ : ∃ w, wrE xs[i] = w := ⟨_, rfl⟩
      have qe := fun {s : List UInt8} {b c fb fc : Nat} {H : AHeap} {rest : List AV} {d : Int} hs hb x2 x1 x3 x4 x5 => q1 hgx hwe (s := s) (b := b) (c := c) (fb := fb) (fc := fc) (H := H) (rest := rest) (d := d) hs hb x2 x1 x3 x4 x5
      rw [hwe] at h3 htl
      clear q1 hgx hwe
      generalize xs[i] = x at *
      obtain ⟨xo, xn, xm, xk⟩ := x
      simp only [Ex.cells] at *
      repeat' ((conv => whnf); first | (refine exI hx ?_) | (refine exO1 (put1 p1  [[44, 32]] [44, 32]  rfl rfl ?_ ?_ rfl rfl rfl rfl rfl) ?_; (focus (first | exact List.cons_ne_nil _ _ | assumption | (simp; done) | (intro hz; simp only [List.append_eq_nil_iff] at hz; simp_all; done))); (focus ((try simp only [List.length_append, List.length_cons, List.length_nil] at *); omega))) | (refine exO1 (qe ?_ ?_ rfl rfl rfl rfl rfl) ?_; (focus (first | exact List.cons_ne_nil _ _ | assumption | (simp; done) | (intro hz; simp only [List.append_eq_nil_iff] at hz; simp_all; done))); (focus ((try simp only [List.length_append, List.length_cons, List.length_nil] at *); omega))) | (with_reducible refine ixJ i rfl ?_ ?_; (focus (omega))) | (first | refine stp ?_ | with_reducible refine condB (fun h => ?_) (fun h => ?_)))
      conv => whnf
      refine ⟨(i + 1, ac :: at_ ++ [44, 32] ++ w), ⟨hlt, by simp, by rw [← h3]; simp⟩, by show xs.length - (i + 1) < xs.length - i; omega, ?_⟩
      dsimp only
      apply fgE (rest := [2])
      rotate_left; rotate_left; rotate_left
      (focus (exact rfl)); (focus (exact rfl)); (focus (exact rfl))
      (focus (exact ⟨⟨rfl, rfl, rfl, rfl, BodyGe.pre (rest := []) rfl rfl⟩, trivial⟩))
      (focus (exact rfl))
      (focus (refine And.intro (Wk.ptr rfl rfl) ?_; refine And.intro (Wk.ptr rfl rfl) ?_; refine And.intro (Wk.noref rfl) ?_; refine And.intro (Wk.int rfl) ?_; exact ⟨Wk.int rfl, trivial⟩))
      (focus (exact rfl)); (focus (simp; done)); (focus (simp; done))
    · have c1 : decide ((i : Int) < (xs.length : Int)) = false := by simpa using hlt
      have hi2 : i = xs.length := by omega
      subst hi2
      rw [List.drop_length] at h3 htl
      simp only [argT, List.nil_append, List.length_append, List.length_cons, List.length_nil] at h3 htl
      repeat' ((conv => whnf); first | (with_reducible refine exI (q3 _) ?_) | (refine exO1 (put1 p1 [[44, 32], od, [41]] (44 :: 32 :: (od ++ [41])) hf2 rfl ?_ ?_ rfl rfl rfl rfl rfl) ?_; (focus (first | exact List.cons_ne_nil _ _ | assumption | (simp; done) | (intro hz; simp only [List.append_eq_nil_iff] at hz; simp_all; done))); (focus ((try simp only [List.length_append, List.length_cons, List.length_nil] at *); omega))) | (first | refine stp ?_ | with_reducible refine condB (fun h => ?_) (fun h => ?_)))
      conv => whnf
      (apply finE hN; rotate_left; rotate_left; (focus (exact rfl)); (focus (exact rfl)); (focus (exact rfl)); (focus (exact rfl)); (focus (exact h3)); (focus (rw [← h3]; simp; done)))
end Go.Proofs.YtkkfcfjhhdmamaaGreatDoor.lex
end


section

set_option linter.unusedVariables false
set_option linter.unusedSimpArgs false
namespace Go.Proofs.YtkkfcfjhhdmamaaGreatDoor.lex
open Go.Abs Go.RowKit
set_option maxRecDepth 100000
set_option maxHeartbeats 4000000
def StmtOK (x : St) (i : Nat) : Prop := ∀ (s : List UInt8), (s ++ stT x i).length ≤ 1073741824 → MemQ Tryz.prog rgl 1 57 [.ptr 0 0, .agg x.cells] (WH tW tB s i) (.tuple []) (WH tW tB (s ++ stT x i) i)
def BlockOK (l : List St) (i : Nat) : Prop := ∀ (s : List UInt8), s ≠ [] → (s ++ blkT l i).length ≤ 1073741824 → MemQ Tryz.prog rgl 1 35 [.ptr 0 0, stA l] (WH tW tB s i) (.tuple []) (WH tW tB (s ++ blkT l i) i)
def wmBr : WM Tryz.prog rgl tW tB where
  f := 88
  X := List UInt8 × Ex × Int
  G := fun x => x.1 ≠ [] ∧ goodX x.2.1
  G0 := fun _ => True
  A := fun x => [.str x.1, .agg x.2.1.cells]
  D := fun x => x.2.2
  T := fun x => brT x.1 x.2.1
  L := 1073741824
  body := by kernel_rfl
  inj := by
    rintro x y _ _ h _
    simp only [List.cons.injEq, AV.str.injEq, and_true] at h
    have := agg_inj (a := x.2.1) (b := y.2.1) (by rw [h.2])
    rw [this, h.1]
  ne := fun x g _ => by simp [brT]
  ok := fun x g s _ hb => bracket_ok x.1 g.1 x.2.1 g.2 s x.2.2 hb
theorem stg_inj {a b : St} (h : AV.agg a.cells = AV.agg b.cells) : a = b := scells_inj a b (by simpa using h)
def wmAc : WM Tryz.prog rgl tW tB where
  f := 89
  X := List UInt8 × St × Int
  G := fun x => x.1 ≠ [] ∧ (∀ e ∈ x.2.1.exprs, goodX e) ∧ x.2.1.exprs.length ≤ 9223372036854775807
  G0 := fun _ => True
  A := fun x => [.str x.1, .agg x.2.1.cells]
  D := fun x => x.2.2
  T := fun x => accT x.1 x.2.1.loc x.2.1.exprs x.2.1.order
  L := 1073741824
  body := by kernel_rfl
  inj := by
    rintro x y _ _ h _
    simp only [List.cons.injEq, AV.str.injEq, and_true] at h
    have := stg_inj h.2
    rw [this, h.1]
  ne := fun x g _ => by simp [accT]
  ok := fun x g s _ hb => access_ok x.1 g.1 x.2.1 g.2.1 g.2.2 s x.2.2 hb
def wmBl (K : List St → Nat → Prop) (hok : ∀ l i, K l i → BlockOK l i) : WM Tryz.prog rgl tW tB where
  f := 35
  X := List St × Nat
  G := fun x => K x.1 x.2
  G0 := fun _ => False
  A := fun x => [stA x.1]
  D := fun x => (x.2 : Int)
  T := fun x => blkT x.1 x.2
  L := 1073741824
  body := by kernel_rfl
  inj := by
    rintro x y _ _ h hd
    simp only [List.cons.injEq, and_true] at h
    rw [stA_inj h, Int.ofNat_inj.1 hd]
  ne := fun x _ h => h.elim
  ok := fun x g s h0 hb => hok x.1 x.2 g s h0 hb
def wmSt (K : St → Nat → Prop) (hne : ∀ x i, K x i → stT x i ≠ []) (hok : ∀ x i, K x i → StmtOK x i) : WM Tryz.prog rgl tW tB where
  f := 57
  X := St × Nat
  G := fun x => K x.1 x.2
  G0 := fun _ => True
  A := fun x => [.agg x.1.cells]
  D := fun x => (x.2 : Int)
  T := fun x => stT x.1 x.2
  L := 1073741824
  body := by kernel_rfl
  inj := by
    rintro x y _ _ h hd
    simp only [List.cons.injEq, and_true] at h
    rw [stg_inj h, Int.ofNat_inj.1 hd]
  ne := fun x g _ => hne _ _ g
  ok := fun x g s _ hb => hok x.1 x.2 g s hb
theorem wask1 {W : WM Tryz.prog rgl tW tB} {O : Orc} (h : W.fam.Ask O) (x : W.X) (g : W.G x) {T : List UInt8} (hT : W.T x = T) {A : List AV} (hA : W.A x = A) {s : List UInt8} {b c fb fc : Nat} {H : AHeap} {rest : List AV} {d : Int} (hd : W.D x = d) (hL : W.L = 1073741824) (hs : s ≠ []) (hb : (s ++ T).length ≤ 1073741824)
    (e2 : H[b]? = some ⟨true, fb, 0, .cells [.ptr b 0, .slice c 0 s.length s.length 1, .int .i64 d] tW⟩) (e1 : H[c]? = some ⟨true, fc, 0, .cells (byt s) tB⟩) (e3 : Nat.beq fb fc = false) (e4 : loneA [b, c] [fb, fc] 0 H = true) (e5 : frzL (frzM [b, c] (kilM [b, c] H) 30) rest = some A) :
    acall Tryz.prog O H W.f (.ptr b 0 :: rest) = some (.tuple [], out1 tW tB H b c fb fc (s ++ T) d) := by
  subst hT; subst hA; subst hd
  exact WM.ask1 h x g hs (by rw [hL]; exact hb) e1 e2 e3 e4 e5
theorem wask0 {W : WM Tryz.prog rgl tW tB} {O : Orc} (h : W.fam.Ask O) (x : W.X) (g : W.G x) (g0 : W.G0 x) {T : List UInt8} (hT : W.T x = T) {A : List AV} (hA : W.A x = A) {b fb : Nat} {H : AHeap} {rest : List AV} {d : Int} (hd : W.D x = d) (hL : W.L = 1073741824) (hb : T.length ≤ 1073741824)
    (e1 : H[b]? = some ⟨true, fb, 0, .cells [.nptr, .nslice, .int .i64 d] tW⟩) (e2 : loneA [b] [fb] 0 H = true) (e3 : famLt H.length H = true) (e4 : frzL (frzM [b] (kilM [b] H) 30) rest = some A) :
    acall Tryz.prog O H W.f (.ptr b 0 :: rest) = some (.tuple [], out0 tW tB H b fb T d) := by
  subst hT; subst hA; subst hd
  exact WM.ask0 h x g g0 (by rw [hL]; exact hb) e1 e2 e3 e4
theorem stmt_k1 {nm lc : List UInt8} {o : Int} {e : Ex} {th el : List St} {i : Nat} (hn : nm ≠ []) (g : goodX e) : StmtOK (.mk 1 nm lc o [e] th el : St) i := by
  intro s hb
  have hst : stT (.mk 1 nm lc o [e] th el : St) i = nm ++ ([32, 61, 32] ++ ((wrE e) ++ [59])) := by
    simp [stT, opnT, plnT, hdT, brT, blkT, hn]
  rw [hst] at hb ⊢
  obtain ⟨O, hO, ⟨p1, p2, -⟩, -⟩ := famsM (P := Tryz.prog) (gl := rgl) [wmPut.fam, wmE.fam] [] rfl
  obtain ⟨w, hwe⟩ : ∃ w, wrE e = w := ⟨_, rfl⟩
  have q1 := fun {s : List UInt8} {b c fb fc : Nat} {H : AHeap} {rest : List AV} {d : Int} hs hb y2 y1 y3 y4 y5 => e1 p2 g hwe (s := s) (b := b) (c := c) (fb := fb) (fc := fc) (H := H) (rest := rest) (d := d) hs hb y2 y1 y3 y4 y5
  rw [hwe] at hb ⊢
  clear p2 g hwe hst
  obtain ⟨tot, htot⟩ : ∃ tot, s ++ (nm ++ ([32, 61, 32] ++ (w ++ [59]))) = tot := ⟨_, rfl⟩
  rw [htot] at hb ⊢
  generalize hN : WH tW tB tot i = N
  have hx := ex4 [e] 0 (by simp)
  simp only [List.getElem_cons_zero] at hx
  simp only [St.cells, exA]
  generalize exC [e] = ks at *
  obtain ⟨eo, en, es_, ek⟩ := e
  simp only [Ex.cells] at *
  have hf : List.flatten [nm, [32, 61, 32]] = nm ++ [32, 61, 32] := by simp
  have hnn : (!(nm == ([] : List UInt8))) = true := by simp [hn]
  refine fn_memqC follows noNum hO Tryz.func57 rfl ?_
  cases s with
  | nil =>
    have htl := congrArg List.length htot
    simp only [List.length_append, List.length_cons, List.length_nil] at htl
    repeat' ((conv => whnf); first | (refine exO0 (put0 p1 nm [[32, 61, 32]] (nm ++ [32, 61, 32]) hf rfl hn ?_ rfl rfl rfl rfl) ?_; (focus ((try simp only [List.length_append, List.length_cons, List.length_nil] at *); omega))) | (refine exI hx ?_) | (refine exO1 (q1 ?_ ?_ rfl rfl rfl rfl rfl) ?_; (focus (first | exact List.cons_ne_nil _ _ | assumption | (simp; done) | (intro hz; simp only [List.append_eq_nil_iff] at hz; simp_all; done))); (focus ((try simp only [List.length_append, List.length_cons, List.length_nil] at *); omega))) | (refine exO1 (put1 p1  [[59]] [59]  rfl rfl ?_ ?_ rfl rfl rfl rfl rfl) ?_; (focus (first | exact List.cons_ne_nil _ _ | assumption | (simp; done) | (intro hz; simp only [List.append_eq_nil_iff] at hz; simp_all; done))); (focus ((try simp only [List.length_append, List.length_cons, List.length_nil] at *); omega))) | (first | refine stp ?_ | with_reducible refine condB (fun h => ?_) (fun h => ?_)))
    conv => whnf
    (apply finE hN; rotate_left; rotate_left; (focus (exact rfl)); (focus (exact rfl)); (focus (exact rfl)); (focus (exact rfl)); (focus (rw [← htot]; simp; done)); (focus (refine List.ne_nil_of_length_pos ?_; omega)))
  | cons c t =>
    have htl := congrArg List.length htot
    simp only [List.length_append, List.length_cons, List.length_nil] at htl
    repeat' ((conv => whnf); first | (refine exO1 (put1 p1 [nm, [32, 61, 32]] (nm ++ [32, 61, 32]) hf rfl ?_ ?_ rfl rfl rfl rfl rfl) ?_; (focus (first | exact List.cons_ne_nil _ _ | assumption | (simp; done) | (intro hz; simp only [List.append_eq_nil_iff] at hz; simp_all; done))); (focus ((try simp only [List.length_append, List.length_cons, List.length_nil] at *); omega))) | (refine exI hx ?_) | (refine exO1 (q1 ?_ ?_ rfl rfl rfl rfl rfl) ?_; (focus (first | exact List.cons_ne_nil _ _ | assumption | (simp; done) | (intro hz; simp only [List.append_eq_nil_iff] at hz; simp_all; done))); (focus ((try simp only [List.length_append, List.length_cons, List.length_nil] at *); omega))) | (refine exO1 (put1 p1  [[59]] [59]  rfl rfl ?_ ?_ rfl rfl rfl rfl rfl) ?_; (focus (first | exact List.cons_ne_nil _ _ | assumption | (simp; done) | (intro hz; simp only [List.append_eq_nil_iff] at hz; simp_all; done))); (focus ((try simp only [List.length_append, List.length_cons, List.length_nil] at *); omega))) | (first | refine stp ?_ | with_reducible refine condB (fun h => ?_) (fun h => ?_)))
    conv => whnf
    (apply finE hN; rotate_left; rotate_left; (focus (exact rfl)); (focus (exact rfl)); (focus (exact rfl)); (focus (exact rfl)); (focus (rw [← htot]; simp; done)); (focus (refine List.ne_nil_of_length_pos ?_; omega)))
theorem stmt_k2 {nm lc : List UInt8} {o : Int} {xs : List Ex} {th el : List St} {i : Nat} (hn : nm ≠ []) (g : ∀ e ∈ xs, goodX e) (hl : xs.length ≤ 9223372036854775807) : StmtOK (.mk 2 nm lc o xs th el : St) i := by
  intro s hb
  have hst : stT (.mk 2 nm lc o xs th el : St) i = nm ++ ([32, 61, 32] ++ ((accT [108, 111, 97, 100] lc xs o) ++ [59])) := by
    simp [stT, opnT, plnT, hdT, brT, blkT, hn]
  rw [hst] at hb ⊢
  obtain ⟨O, hO, ⟨p1, p2, -⟩, -⟩ := famsM (P := Tryz.prog) (gl := rgl) [wmPut.fam, wmAc.fam] [] rfl
  obtain ⟨A, hA⟩ : ∃ A, accT [108, 111, 97, 100] lc xs o = A := ⟨_, rfl⟩
  have hAn : A ≠ [] := by rw [← hA]; simp [accT]
  have q1 := fun {s : List UInt8} {b c fb fc : Nat} {H : AHeap} {rest : List AV} hs hb y2 y1 y3 y4 y5 => wask1 p2 ([108, 111, 97, 100], (.mk 2 nm lc o xs th el : St), (i : Int)) ⟨List.cons_ne_nil _ _, g, hl⟩ hA (A := [.str [108, 111, 97, 100], .agg (St.cells (.mk 2 nm lc o xs th el : St))]) rfl (s := s) (b := b) (c := c) (fb := fb) (fc := fc) (H := H) (rest := rest) (d := (i : Int)) rfl rfl hs hb y2 y1 y3 y4 y5
  have q0 := fun {b fb : Nat} {H : AHeap} {rest : List AV} hb y1 y2 y3 y4 => wask0 p2 ([108, 111, 97, 100], (.mk 2 nm lc o xs th el : St), (i : Int)) ⟨List.cons_ne_nil _ _, g, hl⟩ trivial hA (A := [.str [108, 111, 97, 100], .agg (St.cells (.mk 2 nm lc o xs th el : St))]) rfl (b := b) (fb := fb) (H := H) (rest := rest) (d := (i : Int)) rfl rfl hb y1 y2 y3 y4
  rw [hA] at hb ⊢
  clear p2 g hA hst hl
  simp only [St.cells] at q1 q0
  obtain ⟨tot, htot⟩ : ∃ tot, s ++ (nm ++ ([32, 61, 32] ++ (A ++ [59]))) = tot := ⟨_, rfl⟩
  rw [htot] at hb ⊢
  generalize hN : WH tW tB tot i = N
  simp only [St.cells, exA]
  have hf : List.flatten [nm, [32, 61, 32]] = nm ++ [32, 61, 32] := by simp
  have hnn : (!(nm == ([] : List UInt8))) = true := by simp [hn]
  refine fn_memqC follows noNum hO Tryz.func57 rfl ?_
  cases s with
  | nil =>
    have htl := congrArg List.length htot
    simp only [List.length_append, List.length_cons, List.length_nil] at htl
    repeat' ((conv => whnf); first | (refine exO0 (put0 p1 nm [[32, 61, 32]] (nm ++ [32, 61, 32]) hf rfl hn ?_ rfl rfl rfl rfl) ?_; (focus ((try simp only [List.length_append, List.length_cons, List.length_nil] at *); omega))) | (refine exO1 (q1 ?_ ?_ rfl rfl rfl rfl rfl) ?_; (focus (first | exact List.cons_ne_nil _ _ | assumption | (simp; done) | (intro hz; simp only [List.append_eq_nil_iff] at hz; simp_all; done))); (focus ((try simp only [List.length_append, List.length_cons, List.length_nil] at *); omega))) | (refine exO1 (put1 p1  [[59]] [59]  rfl rfl ?_ ?_ rfl rfl rfl rfl rfl) ?_; (focus (first | exact List.cons_ne_nil _ _ | assumption | (simp; done) | (intro hz; simp only [List.append_eq_nil_iff] at hz; simp_all; done))); (focus ((try simp only [List.length_append, List.length_cons, List.length_nil] at *); omega))) | (first | refine stp ?_ | with_reducible refine condB (fun h => ?_) (fun h => ?_)))
    conv => whnf
    (apply finE hN; rotate_left; rotate_left; (focus (exact rfl)); (focus (exact rfl)); (focus (exact rfl)); (focus (exact rfl)); (focus (rw [← htot]; simp; done)); (focus (refine List.ne_nil_of_length_pos ?_; omega)))
  | cons c t =>
    have htl := congrArg List.length htot
    simp only [List.length_append, List.length_cons, List.length_nil] at htl
    repeat' ((conv => whnf); first | (refine exO1 (put1 p1 [nm, [32, 61, 32]] (nm ++ [32, 61, 32]) hf rfl ?_ ?_ rfl rfl rfl rfl rfl) ?_; (focus (first | exact List.cons_ne_nil _ _ | assumption | (simp; done) | (intro hz; simp only [List.append_eq_nil_iff] at hz; simp_all; done))); (focus ((try simp only [List.length_append, List.length_cons, List.length_nil] at *); omega))) | (refine exO1 (q1 ?_ ?_ rfl rfl rfl rfl rfl) ?_; (focus (first | exact List.cons_ne_nil _ _ | assumption | (simp; done) | (intro hz; simp only [List.append_eq_nil_iff] at hz; simp_all; done))); (focus ((try simp only [List.length_append, List.length_cons, List.length_nil] at *); omega))) | (refine exO1 (put1 p1  [[59]] [59]  rfl rfl ?_ ?_ rfl rfl rfl rfl rfl) ?_; (focus (first | exact List.cons_ne_nil _ _ | assumption | (simp; done) | (intro hz; simp only [List.append_eq_nil_iff] at hz; simp_all; done))); (focus ((try simp only [List.length_append, List.length_cons, List.length_nil] at *); omega))) | (first | refine stp ?_ | with_reducible refine condB (fun h => ?_) (fun h => ?_)))
    conv => whnf
    (apply finE hN; rotate_left; rotate_left; (focus (exact rfl)); (focus (exact rfl)); (focus (exact rfl)); (focus (exact rfl)); (focus (rw [← htot]; simp; done)); (focus (refine List.ne_nil_of_length_pos ?_; omega)))
theorem stmt_k3 {lc : List UInt8} {o : Int} {xs : List Ex} {th el : List St} {i : Nat} (g : ∀ e ∈ xs, goodX e) (hl : xs.length ≤ 9223372036854775807) : StmtOK (.mk 3 [] lc o xs th el : St) i := by
  intro s hb
  have hst : stT (.mk 3 [] lc o xs th el : St) i = (accT [115, 116, 111, 114, 101] lc xs o) ++ [59] := by
    simp [stT, opnT, plnT, hdT, brT, blkT]
  rw [hst] at hb ⊢
  obtain ⟨O, hO, ⟨p1, p2, -⟩, -⟩ := famsM (P := Tryz.prog) (gl := rgl) [wmPut.fam, wmAc.fam] [] rfl
  obtain ⟨A, hA⟩ : ∃ A, accT [115, 116, 111, 114, 101] lc xs o = A := ⟨_, rfl⟩
  have hAn : A ≠ [] := by rw [← hA]; simp [accT]
  have q1 := fun {s : List UInt8} {b c fb fc : Nat} {H : AHeap} {rest : List AV} hs hb y2 y1 y3 y4 y5 => wask1 p2 ([115, 116, 111, 114, 101], (.mk 3 [] lc o xs th el : St), (i : Int)) ⟨List.cons_ne_nil _ _, g, hl⟩ hA (A := [.str [115, 116, 111, 114, 101], .agg (St.cells (.mk 3 [] lc o xs th el : St))]) rfl (s := s) (b := b) (c := c) (fb := fb) (fc := fc) (H := H) (rest := rest) (d := (i : Int)) rfl rfl hs hb y2 y1 y3 y4 y5
  have q0 := fun {b fb : Nat} {H : AHeap} {rest : List AV} hb y1 y2 y3 y4 => wask0 p2 ([115, 116, 111, 114, 101], (.mk 3 [] lc o xs th el : St), (i : Int)) ⟨List.cons_ne_nil _ _, g, hl⟩ trivial hA (A := [.str [115, 116, 111, 114, 101], .agg (St.cells (.mk 3 [] lc o xs th el : St))]) rfl (b := b) (fb := fb) (H := H) (rest := rest) (d := (i : Int)) rfl rfl hb y1 y2 y3 y4
  rw [hA] at hb ⊢
  clear p2 g hA hst hl
  simp only [St.cells] at q1 q0
  obtain ⟨tot, htot⟩ : ∃ tot, s ++ (A ++ [59]) = tot := ⟨_, rfl⟩
  rw [htot] at hb ⊢
  generalize hN : WH tW tB tot i = N
  simp only [St.cells, exA]
  refine fn_memqC follows noNum hO Tryz.func57 rfl ?_
  cases s with
  | nil =>
    have htl := congrArg List.length htot
    simp only [List.length_append, List.length_cons, List.length_nil] at htl
    repeat' ((conv => whnf); first | (refine exO0 (q0 ?_ rfl rfl rfl rfl) ?_; (focus ((try simp only [List.length_append, List.length_cons, List.length_nil] at *); omega))) | (refine exO1 (put1 p1  [[59]] [59]  rfl rfl ?_ ?_ rfl rfl rfl rfl rfl) ?_; (focus (first | exact List.cons_ne_nil _ _ | assumption | (simp; done) | (intro hz; simp only [List.append_eq_nil_iff] at hz; simp_all; done))); (focus ((try simp only [List.length_append, List.length_cons, List.length_nil] at *); omega))) | (first | refine stp ?_ | with_reducible refine condB (fun h => ?_) (fun h => ?_)))
    conv => whnf
    (apply finE hN; rotate_left; rotate_left; (focus (exact rfl)); (focus (exact rfl)); (focus (exact rfl)); (focus (exact rfl)); (focus (rw [← htot]; simp; done)); (focus (refine List.ne_nil_of_length_pos ?_; omega)))
  | cons c t =>
    have htl := congrArg List.length htot
    simp only [List.length_append, List.length_cons, List.length_nil] at htl
    repeat' ((conv => whnf); first | (refine exO1 (q1 ?_ ?_ rfl rfl rfl rfl rfl) ?_; (focus (first | exact List.cons_ne_nil _ _ | assumption | (simp; done) | (intro hz; simp only [List.append_eq_nil_iff] at hz; simp_all; done))); (focus ((try simp only [List.length_append, List.length_cons, List.length_nil] at *); omega))) | (refine exO1 (put1 p1  [[59]] [59]  rfl rfl ?_ ?_ rfl rfl rfl rfl rfl) ?_; (focus (first | exact List.cons_ne_nil _ _ | assumption | (simp; done) | (intro hz; simp only [List.append_eq_nil_iff] at hz; simp_all; done))); (focus ((try simp only [List.length_append, List.length_cons, List.length_nil] at *); omega))) | (first | refine stp ?_ | with_reducible refine condB (fun h => ?_) (fun h => ?_)))
    conv => whnf
    (apply finE hN; rotate_left; rotate_left; (focus (exact rfl)); (focus (exact rfl)); (focus (exact rfl)); (focus (exact rfl)); (focus (rw [← htot]; simp; done)); (focus (refine List.ne_nil_of_length_pos ?_; omega)))
theorem stmt_k4 {nm lc : List UInt8} {o : Int} {xs : List Ex} {th el : List St} {i : Nat} (hn : nm ≠ []) (g : ∀ e ∈ xs, goodX e) (hl : xs.length ≤ 9223372036854775807) : StmtOK (.mk 4 nm lc o xs th el : St) i := by
  intro s hb
  have hst : stT (.mk 4 nm lc o xs th el : St) i = nm ++ ([32, 61, 32] ++ ((accT [99, 97, 115] lc xs o) ++ [59])) := by
    simp [stT, opnT, plnT, hdT, brT, blkT, hn]
  rw [hst] at hb ⊢
  obtain ⟨O, hO, ⟨p1, p2, -⟩, -⟩ := famsM (P := Tryz.prog) (gl := rgl) [wmPut.fam, wmAc.fam] [] rfl
  obtain ⟨A, hA⟩ : ∃ A, accT [99, 97, 115] lc xs o = A := ⟨_, rfl⟩
  have hAn : A ≠ [] := by rw [← hA]; simp [accT]
  have q1 := fun {s : List UInt8} {b c fb fc : Nat} {H : AHeap} {rest : List AV} hs hb y2 y1 y3 y4 y5 => wask1 p2 ([99, 97, 115], (.mk 4 nm lc o xs th el : St), (i : Int)) ⟨List.cons_ne_nil _ _, g, hl⟩ hA (A := [.str [99, 97, 115], .agg (St.cells (.mk 4 nm lc o xs th el : St))]) rfl (s := s) (b := b) (c := c) (fb := fb) (fc := fc) (H := H) (rest := rest) (d := (i : Int)) rfl rfl hs hb y2 y1 y3 y4 y5
  have q0 := fun {b fb : Nat} {H : AHeap} {rest : List AV} hb y1 y2 y3 y4 => wask0 p2 ([99, 97, 115], (.mk 4 nm lc o xs th el : St), (i : Int)) ⟨List.cons_ne_nil _ _, g, hl⟩ trivial hA (A := [.str [99, 97, 115], .agg (St.cells (.mk 4 nm lc o xs th el : St))]) rfl (b := b) (fb := fb) (H := H) (rest := rest) (d := (i : Int)) rfl rfl hb y1 y2 y3 y4
  rw [hA] at hb ⊢
  clear p2 g hA hst hl
  simp only [St.cells] at q1 q0
  obtain ⟨tot, htot⟩ : ∃ tot, s ++ (nm ++ ([32, 61, 32] ++ (A ++ [59]))) = tot := ⟨_, rfl⟩
  rw [htot] at hb ⊢
  generalize hN : WH tW tB tot i = N
  simp only [St.cells, exA]
  have hf : List.flatten [nm, [32, 61, 32]] = nm ++ [32, 61, 32] := by simp
  have hnn : (!(nm == ([] : List UInt8))) = true := by simp [hn]
  refine fn_memqC follows noNum hO Tryz.func57 rfl ?_
  cases s with
  | nil =>
    have htl := congrArg List.length htot
    simp only [List.length_append, List.length_cons, List.length_nil] at htl
    repeat' ((conv => whnf); first | (refine exO0 (put0 p1 nm [[32, 61, 32]] (nm ++ [32, 61, 32]) hf rfl hn ?_ rfl rfl rfl rfl) ?_; (focus ((try simp only [List.length_append, List.length_cons, List.length_nil] at *); omega))) | (refine exO1 (q1 ?_ ?_ rfl rfl rfl rfl rfl) ?_; (focus (first | exact List.cons_ne_nil _ _ | assumption | (simp; done) | (intro hz; simp only [List.append_eq_nil_iff] at hz; simp_all; done))); (focus ((try simp only [List.length_append, List.length_cons, List.length_nil] at *); omega))) | (refine exO1 (put1 p1  [[59]] [59]  rfl rfl ?_ ?_ rfl rfl rfl rfl rfl) ?_; (focus (first | exact List.cons_ne_nil _ _ | assumption | (simp; done) | (intro hz; simp only [List.append_eq_nil_iff] at hz; simp_all; done))); (focus ((try simp only [List.length_append, List.length_cons, List.length_nil] at *); omega))) | (first | refine stp ?_ | with_reducible refine condB (fun h => ?_) (fun h => ?_)))
    conv => whnf
    (apply finE hN; rotate_left; rotate_left; (focus (exact rfl)); (focus (exact rfl)); (focus (exact rfl)); (focus (exact rfl)); (focus (rw [← htot]; simp; done)); (focus (refine List.ne_nil_of_length_pos ?_; omega)))
  | cons c t =>
    have htl := congrArg List.length htot
    simp only [List.length_append, List.length_cons, List.length_nil] at htl
    repeat' ((conv => whnf); first | (refine exO1 (put1 p1 [nm, [32, 61, 32]] (nm ++ [32, 61, 32]) hf rfl ?_ ?_ rfl rfl rfl rfl rfl) ?_; (focus (first | exact List.cons_ne_nil _ _ | assumption | (simp; done) | (intro hz; simp only [List.append_eq_nil_iff] at hz; simp_all; done))); (focus ((try simp only [List.length_append, List.length_cons, List.length_nil] at *); omega))) | (refine exO1 (q1 ?_ ?_ rfl rfl rfl rfl rfl) ?_; (focus (first | exact List.cons_ne_nil _ _ | assumption | (simp; done) | (intro hz; simp only [List.append_eq_nil_iff] at hz; simp_all; done))); (focus ((try simp only [List.length_append, List.length_cons, List.length_nil] at *); omega))) | (refine exO1 (put1 p1  [[59]] [59]  rfl rfl ?_ ?_ rfl rfl rfl rfl rfl) ?_; (focus (first | exact List.cons_ne_nil _ _ | assumption | (simp; done) | (intro hz; simp only [List.append_eq_nil_iff] at hz; simp_all; done))); (focus ((try simp only [List.length_append, List.length_cons, List.length_nil] at *); omega))) | (first | refine stp ?_ | with_reducible refine condB (fun h => ?_) (fun h => ?_)))
    conv => whnf
    (apply finE hN; rotate_left; rotate_left; (focus (exact rfl)); (focus (exact rfl)); (focus (exact rfl)); (focus (exact rfl)); (focus (rw [← htot]; simp; done)); (focus (refine List.ne_nil_of_length_pos ?_; omega)))
theorem stmt_k5 {nm lc : List UInt8} {o : Int} {xs : List Ex} {th el : List St} {i : Nat} (hn : nm ≠ []) (g : ∀ e ∈ xs, goodX e) (hl : xs.length ≤ 9223372036854775807) : StmtOK (.mk 5 nm lc o xs th el : St) i := by
  intro s hb
  have hst : stT (.mk 5 nm lc o xs th el : St) i = nm ++ ([32, 61, 32] ++ ((accT [97, 100, 100] lc xs o) ++ [59])) := by
    simp [stT, opnT, plnT, hdT, brT, blkT, hn]
  rw [hst] at hb ⊢
  obtain ⟨O, hO, ⟨p1, p2, -⟩, -⟩ := famsM (P := Tryz.prog) (gl := rgl) [wmPut.fam, wmAc.fam] [] rfl
  obtain ⟨A, hA⟩ : ∃ A, accT [97, 100, 100] lc xs o = A := ⟨_, rfl⟩
  have hAn : A ≠ [] := by rw [← hA]; simp [accT]
  have q1 := fun {s : List UInt8} {b c fb fc : Nat} {H : AHeap} {rest : List AV} hs hb y2 y1 y3 y4 y5 => wask1 p2 ([97, 100, 100], (.mk 5 nm lc o xs th el : St), (i : Int)) ⟨List.cons_ne_nil _ _, g, hl⟩ hA (A := [.str [97, 100, 100], .agg (St.cells (.mk 5 nm lc o xs th el : St))]) rfl (s := s) (b := b) (c := c) (fb := fb) (fc := fc) (H := H) (rest := rest) (d := (i : Int)) rfl rfl hs hb y2 y1 y3 y4 y5
  have q0 := fun {b fb : Nat} {H : AHeap} {rest : List AV} hb y1 y2 y3 y4 => wask0 p2 ([97, 100, 100], (.mk 5 nm lc o xs th el : St), (i : Int)) ⟨List.cons_ne_nil _ _, g, hl⟩ trivial hA (A := [.str [97, 100, 100], .agg (St.cells (.mk 5 nm lc o xs th el : St))]) rfl (b := b) (fb := fb) (H := H) (rest := rest) (d := (i : Int)) rfl rfl hb y1 y2 y3 y4
  rw [hA] at hb ⊢
  clear p2 g hA hst hl
  simp only [St.cells] at q1 q0
  obtain ⟨tot, htot⟩ : ∃ tot, s ++ (nm ++ ([32, 61, 32] ++ (A ++ [59]))) = tot := ⟨_, rfl⟩
  rw [htot] at hb ⊢
  generalize hN : WH tW tB tot i = N
  simp only [St.cells, exA]
  have hf : List.flatten [nm, [32, 61, 32]] = nm ++ [32, 61, 32] := by simp
  have hnn : (!(nm == ([] : List UInt8))) = true := by simp [hn]
  refine fn_memqC follows noNum hO Tryz.func57 rfl ?_
  cases s with
  | nil =>
    have htl := congrArg List.length htot
    simp only [List.length_append, List.length_cons, List.length_nil] at htl
    repeat' ((conv => whnf); first | (refine exO0 (put0 p1 nm [[32, 61, 32]] (nm ++ [32, 61, 32]) hf rfl hn ?_ rfl rfl rfl rfl) ?_; (focus ((try simp only [List.length_append, List.length_cons, List.length_nil] at *); omega))) | (refine exO1 (q1 ?_ ?_ rfl rfl rfl rfl rfl) ?_; (focus (first | exact List.cons_ne_nil _ _ | assumption | (simp; done) | (intro hz; simp only [List.append_eq_nil_iff] at hz; simp_all; done))); (focus ((try simp only [List.length_append, List.length_cons, List.length_nil] at *); omega))) | (refine exO1 (put1 p1  [[59]] [59]  rfl rfl ?_ ?_ rfl rfl rfl rfl rfl) ?_; (focus (first | exact List.cons_ne_nil _ _ | assumption | (simp; done) | (intro hz; simp only [List.append_eq_nil_iff] at hz; simp_all; done))); (focus ((try simp only [List.length_append, List.length_cons, List.length_nil] at *); omega))) | (first | refine stp ?_ | with_reducible refine condB (fun h => ?_) (fun h => ?_)))
    conv => whnf
    (apply finE hN; rotate_left; rotate_left; (focus (exact rfl)); (focus (exact rfl)); (focus (exact rfl)); (focus (exact rfl)); (focus (rw [← htot]; simp; done)); (focus (refine List.ne_nil_of_length_pos ?_; omega)))
  | cons c t =>
    have htl := congrArg List.length htot
    simp only [List.length_append, List.length_cons, List.length_nil] at htl
    repeat' ((conv => whnf); first | (refine exO1 (put1 p1 [nm, [32, 61, 32]] (nm ++ [32, 61, 32]) hf rfl ?_ ?_ rfl rfl rfl rfl rfl) ?_; (focus (first | exact List.cons_ne_nil _ _ | assumption | (simp; done) | (intro hz; simp only [List.append_eq_nil_iff] at hz; simp_all; done))); (focus ((try simp only [List.length_append, List.length_cons, List.length_nil] at *); omega))) | (refine exO1 (q1 ?_ ?_ rfl rfl rfl rfl rfl) ?_; (focus (first | exact List.cons_ne_nil _ _ | assumption | (simp; done) | (intro hz; simp only [List.append_eq_nil_iff] at hz; simp_all; done))); (focus ((try simp only [List.length_append, List.length_cons, List.length_nil] at *); omega))) | (refine exO1 (put1 p1  [[59]] [59]  rfl rfl ?_ ?_ rfl rfl rfl rfl rfl) ?_; (focus (first | exact List.cons_ne_nil _ _ | assumption | (simp; done) | (intro hz; simp only [List.append_eq_nil_iff] at hz; simp_all; done))); (focus ((try simp only [List.length_append, List.length_cons, List.length_nil] at *); omega))) | (first | refine stp ?_ | with_reducible refine condB (fun h => ?_) (fun h => ?_)))
    conv => whnf
    (apply finE hN; rotate_left; rotate_left; (focus (exact rfl)); (focus (exact rfl)); (focus (exact rfl)); (focus (exact rfl)); (focus (rw [← htot]; simp; done)); (focus (refine List.ne_nil_of_length_pos ?_; omega)))
theorem stmt_k6 {nm lc : List UInt8} {o : Int} {xs : List Ex} {th el : List St} {i : Nat} (hn : nm ≠ []) (g : ∀ e ∈ xs, goodX e) (hl : xs.length ≤ 9223372036854775807) : StmtOK (.mk 6 nm lc o xs th el : St) i := by
  intro s hb
  have hst : stT (.mk 6 nm lc o xs th el : St) i = nm ++ ([32, 61, 32] ++ ((accT [115, 119, 97, 112] lc xs o) ++ [59])) := by
    simp [stT, opnT, plnT, hdT, brT, blkT, hn]
  rw [hst] at hb ⊢
  obtain ⟨O, hO, ⟨p1, p2, -⟩, -⟩ := famsM (P := Tryz.prog) (gl := rgl) [wmPut.fam, wmAc.fam] [] rfl
  obtain ⟨A, hA⟩ : ∃ A, accT [115, 119, 97, 112] lc xs o = A := ⟨_, rfl⟩
  have hAn : A ≠ [] := by rw [← hA]; simp [accT]
  have q1 := fun {s : List UInt8} {b c fb fc : Nat} {H : AHeap} {rest : List AV} hs hb y2 y1 y3 y4 y5 => wask1 p2 ([115, 119, 97, 112], (.mk 6 nm lc o xs th el : St), (i : Int)) ⟨List.cons_ne_nil _ _, g, hl⟩ hA (A := [.str [115, 119, 97, 112], .agg (St.cells (.mk 6 nm lc o xs th el : St))]) rfl (s := s) (b := b) (c := c) (fb := fb) (fc := fc) (H := H) (rest := rest) (d := (i : Int)) rfl rfl hs hb y2 y1 y3 y4 y5
  have q0 := fun {b fb : Nat} {H : AHeap} {rest : List AV} hb y1 y2 y3 y4 => wask0 p2 ([115, 119, 97, 112], (.mk 6 nm lc o xs th el : St), (i : Int)) ⟨List.cons_ne_nil _ _, g, hl⟩ trivial hA (A := [.str [115, 119, 97, 112], .agg (St.cells (.mk 6 nm lc o xs th el : St))]) rfl (b := b) (fb := fb) (H := H) (rest := rest) (d := (i : Int)) rfl rfl hb y1 y2 y3 y4
  rw [hA] at hb ⊢
  clear p2 g hA hst hl
  simp only [St.cells] at q1 q0
  obtain ⟨tot, htot⟩ : ∃ tot, s ++ (nm ++ ([32, 61, 32] ++ (A ++ [59]))) = tot := ⟨_, rfl⟩
  rw [htot] at hb ⊢
  generalize hN : WH tW tB tot i = N
  simp only [St.cells, exA]
  have hf : List.flatten [nm, [32, 61, 32]] = nm ++ [32, 61, 32] := by simp
  have hnn : (!(nm == ([] : List UInt8))) = true := by simp [hn]
  refine fn_memqC follows noNum hO Tryz.func57 rfl ?_
  cases s with
  | nil =>
    have htl := congrArg List.length htot
    simp only [List.length_append, List.length_cons, List.length_nil] at htl
    repeat' ((conv => whnf); first | (refine exO0 (put0 p1 nm [[32, 61, 32]] (nm ++ [32, 61, 32]) hf rfl hn ?_ rfl rfl rfl rfl) ?_; (focus ((try simp only [List.length_append, List.length_cons, List.length_nil] at *); omega))) | (refine exO1 (q1 ?_ ?_ rfl rfl rfl rfl rfl) ?_; (focus (first | exact List.cons_ne_nil _ _ | assumption | (simp; done) | (intro hz; simp only [List.append_eq_nil_iff] at hz; simp_all; done))); (focus ((try simp only [List.length_append, List.length_cons, List.length_nil] at *); omega))) | (refine exO1 (put1 p1  [[59]] [59]  rfl rfl ?_ ?_ rfl rfl rfl rfl rfl) ?_; (focus (first | exact List.cons_ne_nil _ _ | assumption | (simp; done) | (intro hz; simp only [List.append_eq_nil_iff] at hz; simp_all; done))); (focus ((try simp only [List.length_append, List.length_cons, List.length_nil] at *); omega))) | (first | refine stp ?_ | with_reducible refine condB (fun h => ?_) (fun h => ?_)))
    conv => whnf
    (apply finE hN; rotate_left; rotate_left; (focus (exact rfl)); (focus (exact rfl)); (focus (exact rfl)); (focus (exact rfl)); (focus (rw [← htot]; simp; done)); (focus (refine List.ne_nil_of_length_pos ?_; omega)))
  | cons c t =>
    have htl := congrArg List.length htot
    simp only [List.length_append, List.length_cons, List.length_nil] at htl
    repeat' ((conv => whnf); first | (refine exO1 (put1 p1 [nm, [32, 61, 32]] (nm ++ [32, 61, 32]) hf rfl ?_ ?_ rfl rfl rfl rfl rfl) ?_; (focus (first | exact List.cons_ne_nil _ _ | assumption | (simp; done) | (intro hz; simp only [List.append_eq_nil_iff] at hz; simp_all; done))); (focus ((try simp only [List.length_append, List.length_cons, List.length_nil] at *); omega))) | (refine exO1 (q1 ?_ ?_ rfl rfl rfl rfl rfl) ?_; (focus (first | exact List.cons_ne_nil _ _ | assumption | (simp; done) | (intro hz; simp only [List.append_eq_nil_iff] at hz; simp_all; done))); (focus ((try simp only [List.length_append, List.length_cons, List.length_nil] at *); omega))) | (refine exO1 (put1 p1  [[59]] [59]  rfl rfl ?_ ?_ rfl rfl rfl rfl rfl) ?_; (focus (first | exact List.cons_ne_nil _ _ | assumption | (simp; done) | (intro hz; simp only [List.append_eq_nil_iff] at hz; simp_all; done))); (focus ((try simp only [List.length_append, List.length_cons, List.length_nil] at *); omega))) | (first | refine stp ?_ | with_reducible refine condB (fun h => ?_) (fun h => ?_)))
    conv => whnf
    (apply finE hN; rotate_left; rotate_left; (focus (exact rfl)); (focus (exact rfl)); (focus (exact rfl)); (focus (exact rfl)); (focus (rw [← htot]; simp; done)); (focus (refine List.ne_nil_of_length_pos ?_; omega)))
theorem stmt_k7 {lc : List UInt8} {o : Int} {xs : List Ex} {th el : List St} {i : Nat}  : StmtOK (.mk 7 [] lc o xs th el : St) i := by
  intro s hb
  have hst : stT (.mk 7 [] lc o xs th el : St) i = [102, 101, 110, 99, 101, 40] ++ ((ordT o) ++ [41, 59]) := by
    simp [stT, opnT, plnT, hdT, brT, blkT]
  rw [hst] at hb ⊢
  obtain ⟨O, hO, ⟨p1, -⟩, ⟨r1, -⟩⟩ := famsM (P := Tryz.prog) (gl := rgl) [wmPut.fam] [famOrd] rfl
  have q3 : ∀ H, acall Tryz.prog O H 22 [.int .i64 o] = some (.str (ordT o), H) := r1 o trivial
  clear r1
  generalize ordT o = od at *
  obtain ⟨tot, htot⟩ : ∃ tot, s ++ ([102, 101, 110, 99, 101, 40] ++ (od ++ [41, 59])) = tot := ⟨_, rfl⟩
  rw [htot] at hb ⊢
  generalize hN : WH tW tB tot i = N
  simp only [St.cells, exA]
  have hf : List.flatten [[102, 101, 110, 99, 101, 40], od, [41]] = [102, 101, 110, 99, 101, 40] ++ (od ++ [41]) := by simp
  refine fn_memqC follows noNum hO Tryz.func57 rfl ?_
  cases s with
  | nil =>
    have htl := congrArg List.length htot
    simp only [List.length_append, List.length_cons, List.length_nil] at htl
    repeat' ((conv => whnf); first | (refine exO0 (put0 p1 [102, 101, 110, 99, 101, 40] [od, [41]] ([102, 101, 110, 99, 101, 40] ++ (od ++ [41])) hf rfl (List.cons_ne_nil _ _) ?_ rfl rfl rfl rfl) ?_; (focus ((try simp only [List.length_append, List.length_cons, List.length_nil] at *); omega))) | (with_reducible refine exI (q3 _) ?_) | (refine exO1 (put1 p1  [[59]] [59]  rfl rfl ?_ ?_ rfl rfl rfl rfl rfl) ?_; (focus (first | exact List.cons_ne_nil _ _ | assumption | (simp; done) | (intro hz; simp only [List.append_eq_nil_iff] at hz; simp_all; done))); (focus ((try simp only [List.length_append, List.length_cons, List.length_nil] at *); omega))) | (first | refine stp ?_ | with_reducible refine condB (fun h => ?_) (fun h => ?_)))
    conv => whnf
    (apply finE hN; rotate_left; rotate_left; (focus (exact rfl)); (focus (exact rfl)); (focus (exact rfl)); (focus (exact rfl)); (focus (rw [← htot]; simp; done)); (focus (refine List.ne_nil_of_length_pos ?_; omega)))
  | cons c t =>
    have htl := congrArg List.length htot
    simp only [List.length_append, List.length_cons, List.length_nil] at htl
    repeat' ((conv => whnf); first | (refine exO1 (put1 p1 [[102, 101, 110, 99, 101, 40], od, [41]] ([102, 101, 110, 99, 101, 40] ++ (od ++ [41])) hf rfl ?_ ?_ rfl rfl rfl rfl rfl) ?_; (focus (first | exact List.cons_ne_nil _ _ | assumption | (simp; done) | (intro hz; simp only [List.append_eq_nil_iff] at hz; simp_all; done))); (focus ((try simp only [List.length_append, List.length_cons, List.length_nil] at *); omega))) | (with_reducible refine exI (q3 _) ?_) | (refine exO1 (put1 p1  [[59]] [59]  rfl rfl ?_ ?_ rfl rfl rfl rfl rfl) ?_; (focus (first | exact List.cons_ne_nil _ _ | assumption | (simp; done) | (intro hz; simp only [List.append_eq_nil_iff] at hz; simp_all; done))); (focus ((try simp only [List.length_append, List.length_cons, List.length_nil] at *); omega))) | (first | refine stp ?_ | with_reducible refine condB (fun h => ?_) (fun h => ?_)))
    conv => whnf
    (apply finE hN; rotate_left; rotate_left; (focus (exact rfl)); (focus (exact rfl)); (focus (exact rfl)); (focus (exact rfl)); (focus (rw [← htot]; simp; done)); (focus (refine List.ne_nil_of_length_pos ?_; omega)))
theorem stmt_k8 {lc : List UInt8} {o : Int} {e : Ex} {th el : List St} {i : Nat} (g : goodX e) : StmtOK (.mk 8 [] lc o [e] th el : St) i := by
  intro s hb
  have hst : stT (.mk 8 [] lc o [e] th el : St) i = (brT [97, 115, 115, 117, 109, 101] e) ++ [59] := by
    simp [stT, opnT, plnT, hdT, brT, blkT]
  rw [hst] at hb ⊢
  obtain ⟨O, hO, ⟨p1, p2, -⟩, -⟩ := famsM (P := Tryz.prog) (gl := rgl) [wmPut.fam, wmBr.fam] [] rfl
  obtain ⟨B, hB⟩ : ∃ B, brT [97, 115, 115, 117, 109, 101] e = B := ⟨_, rfl⟩
  have hBn : B ≠ [] := by rw [← hB]; simp [brT]
  have q1 := fun {s : List UInt8} {b c fb fc : Nat} {H : AHeap} {rest : List AV} hs hb y2 y1 y3 y4 y5 => wask1 p2 ([97, 115, 115, 117, 109, 101], e, (i : Int)) ⟨List.cons_ne_nil _ _, g⟩ hB (A := [.str [97, 115, 115, 117, 109, 101], .agg e.cells]) rfl (s := s) (b := b) (c := c) (fb := fb) (fc := fc) (H := H) (rest := rest) (d := (i : Int)) rfl rfl hs hb y2 y1 y3 y4 y5
  have q0 := fun {b fb : Nat} {H : AHeap} {rest : List AV} hb y1 y2 y3 y4 => wask0 p2 ([97, 115, 115, 117, 109, 101], e, (i : Int)) ⟨List.cons_ne_nil _ _, g⟩ trivial hB (A := [.str [97, 115, 115, 117, 109, 101], .agg e.cells]) rfl (b := b) (fb := fb) (H := H) (rest := rest) (d := (i : Int)) rfl rfl hb y1 y2 y3 y4
  rw [hB] at hb ⊢
  clear p2 g hB hst
  obtain ⟨tot, htot⟩ : ∃ tot, s ++ (B ++ [59]) = tot := ⟨_, rfl⟩
  rw [htot] at hb ⊢
  generalize hN : WH tW tB tot i = N
  have hx := ex4 [e] 0 (by simp)
  simp only [List.getElem_cons_zero] at hx
  simp only [St.cells, exA]
  generalize exC [e] = ks at *
  obtain ⟨eo, en, es_, ek⟩ := e
  simp only [Ex.cells] at *
  refine fn_memqC follows noNum hO Tryz.func57 rfl ?_
  cases s with
  | nil =>
    have htl := congrArg List.length htot
    simp only [List.length_append, List.length_cons, List.length_nil] at htl
    repeat' ((conv => whnf); first | (refine exO0 (q0 ?_ rfl rfl rfl rfl) ?_; (focus ((try simp only [List.length_append, List.length_cons, List.length_nil] at *); omega))) | (refine exI hx ?_) | (refine exO1 (put1 p1  [[59]] [59]  rfl rfl ?_ ?_ rfl rfl rfl rfl rfl) ?_; (focus (first | exact List.cons_ne_nil _ _ | assumption | (simp; done) | (intro hz; simp only [List.append_eq_nil_iff] at hz; simp_all; done))); (focus ((try simp only [List.length_append, List.length_cons, List.length_nil] at *); omega))) | (first | refine stp ?_ | with_reducible refine condB (fun h => ?_) (fun h => ?_)))
    conv => whnf
    (apply finE hN; rotate_left; rotate_left; (focus (exact rfl)); (focus (exact rfl)); (focus (exact rfl)); (focus (exact rfl)); (focus (rw [← htot]; simp; done)); (focus (refine List.ne_nil_of_length_pos ?_; omega)))
  | cons c t =>
    have htl := congrArg List.length htot
    simp only [List.length_append, List.length_cons, List.length_nil] at htl
    repeat' ((conv => whnf); first | (refine exO1 (q1 ?_ ?_ rfl rfl rfl rfl rfl) ?_; (focus (first | exact List.cons_ne_nil _ _ | assumption | (simp; done) | (intro hz; simp only [List.append_eq_nil_iff] at hz; simp_all; done))); (focus ((try simp only [List.length_append, List.length_cons, List.length_nil] at *); omega))) | (refine exI hx ?_) | (refine exO1 (put1 p1  [[59]] [59]  rfl rfl ?_ ?_ rfl rfl rfl rfl rfl) ?_; (focus (first | exact List.cons_ne_nil _ _ | assumption | (simp; done) | (intro hz; simp only [List.append_eq_nil_iff] at hz; simp_all; done))); (focus ((try simp only [List.length_append, List.length_cons, List.length_nil] at *); omega))) | (first | refine stp ?_ | with_reducible refine condB (fun h => ?_) (fun h => ?_)))
    conv => whnf
    (apply finE hN; rotate_left; rotate_left; (focus (exact rfl)); (focus (exact rfl)); (focus (exact rfl)); (focus (exact rfl)); (focus (rw [← htot]; simp; done)); (focus (refine List.ne_nil_of_length_pos ?_; omega)))
theorem stmt_k9 {lc : List UInt8} {o : Int} {e : Ex} {th el : List St} {i : Nat} (g : goodX e) : StmtOK (.mk 9 [] lc o [e] th el : St) i := by
  intro s hb
  have hst : stT (.mk 9 [] lc o [e] th el : St) i = (brT [97, 115, 115, 101, 114, 116] e) ++ [59] := by
    simp [stT, opnT, plnT, hdT, brT, blkT]
  rw [hst] at hb ⊢
  obtain ⟨O, hO, ⟨p1, p2, -⟩, -⟩ := famsM (P := Tryz.prog) (gl := rgl) [wmPut.fam, wmBr.fam] [] rfl
  obtain ⟨B, hB⟩ : ∃ B, brT [97, 115, 115, 101, 114, 116] e = B := ⟨_, rfl⟩
  have hBn : B ≠ [] := by rw [← hB]; simp [brT]
  have q1 := fun {s : List UInt8} {b c fb fc : Nat} {H : AHeap} {rest : List AV} hs hb y2 y1 y3 y4 y5 => wask1 p2 ([97, 115, 115, 101, 114, 116], e, (i : Int)) ⟨List.cons_ne_nil _ _, g⟩ hB (A := [.str [97, 115, 115, 101, 114, 116], .agg e.cells]) rfl (s := s) (b := b) (c := c) (fb := fb) (fc := fc) (H := H) (rest := rest) (d := (i : Int)) rfl rfl hs hb y2 y1 y3 y4 y5
  have q0 := fun {b fb : Nat} {H : AHeap} {rest : List AV} hb y1 y2 y3 y4 => wask0 p2 ([97, 115, 115, 101, 114, 116], e, (i : Int)) ⟨List.cons_ne_nil _ _, g⟩ trivial hB (A := [.str [97, 115, 115, 101, 114, 116], .agg e.cells]) rfl (b := b) (fb := fb) (H := H) (rest := rest) (d := (i : Int)) rfl rfl hb y1 y2 y3 y4
  rw [hB] at hb ⊢
  clear p2 g hB hst
  obtain ⟨tot, htot⟩ : ∃ tot, s ++ (B ++ [59]) = tot := ⟨_, rfl⟩
  rw [htot] at hb ⊢
  generalize hN : WH tW tB tot i = N
  have hx := ex4 [e] 0 (by simp)
  simp only [List.getElem_cons_zero] at hx
  simp only [St.cells, exA]
  generalize exC [e] = ks at *
  obtain ⟨eo, en, es_, ek⟩ := e
  simp only [Ex.cells] at *
  refine fn_memqC follows noNum hO Tryz.func57 rfl ?_
  cases s with
  | nil =>
    have htl := congrArg List.length htot
    simp only [List.length_append, List.length_cons, List.length_nil] at htl
    repeat' ((conv => whnf); first | (refine exO0 (q0 ?_ rfl rfl rfl rfl) ?_; (focus ((try simp only [List.length_append, List.length_cons, List.length_nil] at *); omega))) | (refine exI hx ?_) | (refine exO1 (put1 p1  [[59]] [59]  rfl rfl ?_ ?_ rfl rfl rfl rfl rfl) ?_; (focus (first | exact List.cons_ne_nil _ _ | assumption | (simp; done) | (intro hz; simp only [List.append_eq_nil_iff] at hz; simp_all; done))); (focus ((try simp only [List.length_append, List.length_cons, List.length_nil] at *); omega))) | (first | refine stp ?_ | with_reducible refine condB (fun h => ?_) (fun h => ?_)))
    conv => whnf
    (apply finE hN; rotate_left; rotate_left; (focus (exact rfl)); (focus (exact rfl)); (focus (exact rfl)); (focus (exact rfl)); (focus (rw [← htot]; simp; done)); (focus (refine List.ne_nil_of_length_pos ?_; omega)))
  | cons c t =>
    have htl := congrArg List.length htot
    simp only [List.length_append, List.length_cons, List.length_nil] at htl
    repeat' ((conv => whnf); first | (refine exO1 (q1 ?_ ?_ rfl rfl rfl rfl rfl) ?_; (focus (first | exact List.cons_ne_nil _ _ | assumption | (simp; done) | (intro hz; simp only [List.append_eq_nil_iff] at hz; simp_all; done))); (focus ((try simp only [List.length_append, List.length_cons, List.length_nil] at *); omega))) | (refine exI hx ?_) | (refine exO1 (put1 p1  [[59]] [59]  rfl rfl ?_ ?_ rfl rfl rfl rfl rfl) ?_; (focus (first | exact List.cons_ne_nil _ _ | assumption | (simp; done) | (intro hz; simp only [List.append_eq_nil_iff] at hz; simp_all; done))); (focus ((try simp only [List.length_append, List.length_cons, List.length_nil] at *); omega))) | (first | refine stp ?_ | with_reducible refine condB (fun h => ?_) (fun h => ?_)))
    conv => whnf
    (apply finE hN; rotate_left; rotate_left; (focus (exact rfl)); (focus (exact rfl)); (focus (exact rfl)); (focus (exact rfl)); (focus (rw [← htot]; simp; done)); (focus (refine List.ne_nil_of_length_pos ?_; omega)))
theorem stmt_k10 {lc : List UInt8} {o : Int} {e : Ex} {th el : List St} {i : Nat} (g : goodX e) (ht : BlockOK th i) (he : BlockOK el i) : StmtOK (.mk 10 [] lc o [e] th el : St) i := by
  intro s hb
  have hst : stT (.mk 10 [] lc o [e] th el : St) i = (brT [105, 102, 32] e) ++ (32 :: ((blkT th i) ++ ((if el.length = 0 then [] else [32, 101, 108, 115, 101, 32] ++ blkT el i)))) := by
    simp [stT, opnT, plnT, hdT, brT, blkT]
  rw [hst] at hb ⊢
  obtain ⟨O, hO, ⟨p1, p2, p3, -⟩, -⟩ := famsM (P := Tryz.prog) (gl := rgl) [wmPut.fam, wmBr.fam, (wmBl (fun l j => (l = th ∨ l = el) ∧ j = i) (fun l j h => by rcases h with ⟨h | h, rfl⟩; rw [h]; exact ht; rw [h]; exact he)).fam] [] rfl
  obtain ⟨B, hB⟩ : ∃ B, brT [105, 102, 32] e = B := ⟨_, rfl⟩
  have hBn : B ≠ [] := by rw [← hB]; simp [brT]
  have q1 := fun {s : List UInt8} {b c fb fc : Nat} {H : AHeap} {rest : List AV} hs hb y2 y1 y3 y4 y5 => wask1 p2 ([105, 102, 32], e, (i : Int)) ⟨List.cons_ne_nil _ _, g⟩ hB (A := [.str [105, 102, 32], .agg e.cells]) rfl (s := s) (b := b) (c := c) (fb := fb) (fc := fc) (H := H) (rest := rest) (d := (i : Int)) rfl rfl hs hb y2 y1 y3 y4 y5
  have q0 := fun {b fb : Nat} {H : AHeap} {rest : List AV} hb y1 y2 y3 y4 => wask0 p2 ([105, 102, 32], e, (i : Int)) ⟨List.cons_ne_nil _ _, g⟩ trivial hB (A := [.str [105, 102, 32], .agg e.cells]) rfl (b := b) (fb := fb) (H := H) (rest := rest) (d := (i : Int)) rfl rfl hb y1 y2 y3 y4
  rw [hB] at hb ⊢
  obtain ⟨Bt, hBt⟩ : ∃ B, blkT th i = B := ⟨_, rfl⟩
  have q5 := fun {s : List UInt8} {b c fb fc : Nat} {H : AHeap} {rest : List AV} hs hb y2 y1 y3 y4 y5 => wask1 p3 (th, i) ⟨.inl rfl, rfl⟩ hBt (A := [stA th]) rfl (s := s) (b := b) (c := c) (fb := fb) (fc := fc) (H := H) (rest := rest) (d := (i : Int)) rfl rfl hs hb y2 y1 y3 y4 y5
  obtain ⟨Be, hBe⟩ : ∃ B, blkT el i = B := ⟨_, rfl⟩
  have q6 := fun {s : List UInt8} {b c fb fc : Nat} {H : AHeap} {rest : List AV} hs hb y2 y1 y3 y4 y5 => wask1 p3 (el, i) ⟨.inr rfl, rfl⟩ hBe (A := [stA el]) rfl (s := s) (b := b) (c := c) (fb := fb) (fc := fc) (H := H) (rest := rest) (d := (i : Int)) rfl rfl hs hb y2 y1 y3 y4 y5
  rw [hBt, hBe] at hb ⊢
  simp only [stA] at q5 q6
  obtain ⟨tot, htot⟩ : ∃ tot, s ++ (B ++ (32 :: (Bt ++ (if el.length = 0 then [] else [32, 101, 108, 115, 101, 32] ++ Be)))) = tot := ⟨_, rfl⟩
  rw [htot] at hb ⊢
  generalize hN : WH tW tB tot i = N
  have hx := ex4 [e] 0 (by simp)
  simp only [List.getElem_cons_zero] at hx
  simp only [St.cells, exA]
  generalize exC [e] = ks at *
  obtain ⟨eo, en, es_, ek⟩ := e
  simp only [Ex.cells] at *
  refine fn_memqC follows noNum hO Tryz.func57 rfl ?_
  cases s with
  | nil =>
    by_cases hel : el.length = 0
    · have c1 : decide ((el.length : Int) > 0) = false := by simp only [gt_iff_lt, decide_eq_false_iff_not]; omega
      rw [if_pos hel] at htot
      have htl := congrArg List.length htot
      simp only [List.length_append, List.length_cons, List.length_nil] at htl
      repeat' ((conv => whnf); first | (refine exO0 (q0 ?_ rfl rfl rfl rfl) ?_; (focus ((try simp only [List.length_append, List.length_cons, List.length_nil] at *); omega))) | (refine exI hx ?_) | (refine exO1 (put1 p1  [[32]] [32]  rfl rfl ?_ ?_ rfl rfl rfl rfl rfl) ?_; (focus (first | exact List.cons_ne_nil _ _ | assumption | (simp; done) | (intro hz; simp only [List.append_eq_nil_iff] at hz; simp_all; done))); (focus ((try simp only [List.length_append, List.length_cons, List.length_nil] at *); omega))) | (refine exO1 (q5 ?_ ?_ rfl rfl rfl rfl rfl) ?_; (focus (first | exact List.cons_ne_nil _ _ | assumption | (simp; done) | (intro hz; simp only [List.append_eq_nil_iff] at hz; simp_all; done))); (focus ((try simp only [List.length_append, List.length_cons, List.length_nil] at *); omega))) | (refine exO1 (put1 p1  [[32, 101, 108, 115, 101, 32]] [32, 101, 108, 115, 101, 32]  rfl rfl ?_ ?_ rfl rfl rfl rfl rfl) ?_; (focus (first | exact List.cons_ne_nil _ _ | assumption | (simp; done) | (intro hz; simp only [List.append_eq_nil_iff] at hz; simp_all; done))); (focus ((try simp only [List.length_append, List.length_cons, List.length_nil] at *); omega))) | (refine exO1 (q6 ?_ ?_ rfl rfl rfl rfl rfl) ?_; (focus (first | exact List.cons_ne_nil _ _ | assumption | (simp; done) | (intro hz; simp only [List.append_eq_nil_iff] at hz; simp_all; done))); (focus ((try simp only [List.length_append, List.length_cons, List.length_nil] at *); omega))) | (first | refine stp ?_ | with_reducible refine condB (fun h => ?_) (fun h => ?_)))
      conv => whnf
      (apply finE hN; rotate_left; rotate_left; (focus (exact rfl)); (focus (exact rfl)); (focus (exact rfl)); (focus (exact rfl)); (focus (rw [← htot]; simp; done)); (focus (refine List.ne_nil_of_length_pos ?_; omega)))
    · have c1 : decide ((el.length : Int) > 0) = true := by simp only [gt_iff_lt, decide_eq_true_eq]; omega
      rw [if_neg hel] at htot
      have htl := congrArg List.length htot
      simp only [List.length_append, List.length_cons, List.length_nil] at htl
      repeat' ((conv => whnf); first | (refine exO0 (q0 ?_ rfl rfl rfl rfl) ?_; (focus ((try simp only [List.length_append, List.length_cons, List.length_nil] at *); omega))) | (refine exI hx ?_) | (refine exO1 (put1 p1  [[32]] [32]  rfl rfl ?_ ?_ rfl rfl rfl rfl rfl) ?_; (focus (first | exact List.cons_ne_nil _ _ | assumption | (simp; done) | (intro hz; simp only [List.append_eq_nil_iff] at hz; simp_all; done))); (focus ((try simp only [List.length_append, List.length_cons, List.length_nil] at *); omega))) | (refine exO1 (q5 ?_ ?_ rfl rfl rfl rfl rfl) ?_; (focus (first | exact List.cons_ne_nil _ _ | assumption | (simp; done) | (intro hz; simp only [List.append_eq_nil_iff] at hz; simp_all; done))); (focus ((try simp only [List.length_append, List.length_cons, List.length_nil] at *); omega))) | (refine exO1 (put1 p1  [[32, 101, 108, 115, 101, 32]] [32, 101, 108, 115, 101, 32]  rfl rfl ?_ ?_ rfl rfl rfl rfl rfl) ?_; (focus (first | exact List.cons_ne_nil _ _ | assumption | (simp; done) | (intro hz; simp only [List.append_eq_nil_iff] at hz; simp_all; done))); (focus ((try simp only [List.length_append, List.length_cons, List.length_nil] at *); omega))) | (refine exO1 (q6 ?_ ?_ rfl rfl rfl rfl rfl) ?_; (focus (first | exact List.cons_ne_nil _ _ | assumption | (simp; done) | (intro hz; simp only [List.append_eq_nil_iff] at hz; simp_all; done))); (focus ((try simp only [List.length_append, List.length_cons, List.length_nil] at *); omega))) | (first | refine stp ?_ | with_reducible refine condB (fun h => ?_) (fun h => ?_)))
      conv => whnf
      (apply finE hN; rotate_left; rotate_left; (focus (exact rfl)); (focus (exact rfl)); (focus (exact rfl)); (focus (exact rfl)); (focus (rw [← htot]; simp; done)); (focus (refine List.ne_nil_of_length_pos ?_; omega)))
  | cons c t =>
    by_cases hel : el.length = 0
    · have c1 : decide ((el.length : Int) > 0) = false := by simp only [gt_iff_lt, decide_eq_false_iff_not]; omega
      rw [if_pos hel] at htot
      have htl := congrArg List.length htot
      simp only [List.length_append, List.length_cons, List.length_nil] at htl
      repeat' ((conv => whnf); first | (refine exO1 (q1 ?_ ?_ rfl rfl rfl rfl rfl) ?_; (focus (first | exact List.cons_ne_nil _ _ | assumption | (simp; done) | (intro hz; simp only [List.append_eq_nil_iff] at hz; simp_all; done))); (focus ((try simp only [List.length_append, List.length_cons, List.length_nil] at *); omega))) | (refine exI hx ?_) | (refine exO1 (put1 p1  [[32]] [32]  rfl rfl ?_ ?_ rfl rfl rfl rfl rfl) ?_; (focus (first | exact List.cons_ne_nil _ _ | assumption | (simp; done) | (intro hz; simp only [List.append_eq_nil_iff] at hz; simp_all; done))); (focus ((try simp only [List.length_append, List.length_cons, List.length_nil] at *); omega))) | (refine exO1 (q5 ?_ ?_ rfl rfl rfl rfl rfl) ?_; (focus (first | exact List.cons_ne_nil _ _ | assumption | (simp; done) | (intro hz; simp only [List.append_eq_nil_iff] at hz; simp_all; done))); (focus ((try simp only [List.length_append, List.length_cons, List.length_nil] at *); omega))) | (refine exO1 (put1 p1  [[32, 101, 108, 115, 101, 32]] [32, 101, 108, 115, 101, 32]  rfl rfl ?_ ?_ rfl rfl rfl rfl rfl) ?_; (focus (first | exact List.cons_ne_nil _ _ | assumption | (simp; done) | (intro hz; simp only [List.append_eq_nil_iff] at hz; simp_all; done))); (focus ((try simp only [List.length_append, List.length_cons, List.length_nil] at *); omega))) | (refine exO1 (q6 ?_ ?_ rfl rfl rfl rfl rfl) ?_; (focus (first | exact List.cons_ne_nil _ _ | assumption | (simp; done) | (intro hz; simp only [List.append_eq_nil_iff] at hz; simp_all; done))); (focus ((try simp only [List.length_append, List.length_cons, List.length_nil] at *); omega))) | (first | refine stp ?_ | with_reducible refine condB (fun h => ?_) (fun h => ?_)))
      conv => whnf
      (apply finE hN; rotate_left; rotate_left; (focus (exact rfl)); (focus (exact rfl)); (focus (exact rfl)); (focus (exact rfl)); (focus (rw [← htot]; simp; done)); (focus (refine List.ne_nil_of_length_pos ?_; omega)))
    · have c1 : decide ((el.length : Int) > 0) = true := by simp only [gt_iff_lt, decide_eq_true_eq]; omega
      rw [if_neg hel] at htot
      have htl := congrArg List.length htot
      simp only [List.length_append, List.length_cons, List.length_nil] at htl
      repeat' ((conv => whnf); first | (refine exO1 (q1 ?_ ?_ rfl rfl rfl rfl rfl) ?_; (focus (first | exact List.cons_ne_nil _ _ | assumption | (simp; done) | (intro hz; simp only [List.append_eq_nil_iff] at hz; simp_all; done))); (focus ((try simp only [List.length_append, List.length_cons, List.length_nil] at *); omega))) | (refine exI hx ?_) | (refine exO1 (put1 p1  [[32]] [32]  rfl rfl ?_ ?_ rfl rfl rfl rfl rfl) ?_; (focus (first | exact List.cons_ne_nil _ _ | assumption | (simp; done) | (intro hz; simp only [List.append_eq_nil_iff] at hz; simp_all; done))); (focus ((try simp only [List.length_append, List.length_cons, List.length_nil] at *); omega))) | (refine exO1 (q5 ?_ ?_ rfl rfl rfl rfl rfl) ?_; (focus (first | exact List.cons_ne_nil _ _ | assumption | (simp; done) | (intro hz; simp only [List.append_eq_nil_iff] at hz; simp_all; done))); (focus ((try simp only [List.length_append, List.length_cons, List.length_nil] at *); omega))) | (refine exO1 (put1 p1  [[32, 101, 108, 115, 101, 32]] [32, 101, 108, 115, 101, 32]  rfl rfl ?_ ?_ rfl rfl rfl rfl rfl) ?_; (focus (first | exact List.cons_ne_nil _ _ | assumption | (simp; done) | (intro hz; simp only [List.append_eq_nil_iff] at hz; simp_all; done))); (focus ((try simp only [List.length_append, List.length_cons, List.length_nil] at *); omega))) | (refine exO1 (q6 ?_ ?_ rfl rfl rfl rfl rfl) ?_; (focus (first | exact List.cons_ne_nil _ _ | assumption | (simp; done) | (intro hz; simp only [List.append_eq_nil_iff] at hz; simp_all; done))); (focus ((try simp only [List.length_append, List.length_cons, List.length_nil] at *); omega))) | (first | refine stp ?_ | with_reducible refine condB (fun h => ?_) (fun h => ?_)))
      conv => whnf
      (apply finE hN; rotate_left; rotate_left; (focus (exact rfl)); (focus (exact rfl)); (focus (exact rfl)); (focus (exact rfl)); (focus (rw [← htot]; simp; done)); (focus (refine List.ne_nil_of_length_pos ?_; omega)))
theorem stmt_k11 {lc : List UInt8} {o : Int} {e : Ex} {th el : List St} {i : Nat} (g : goodX e) (ht : BlockOK th i) : StmtOK (.mk 11 [] lc o [e] th el : St) i := by
  intro s hb
  have hst : stT (.mk 11 [] lc o [e] th el : St) i = (brT [119, 104, 105, 108, 101, 32] e) ++ (32 :: (blkT th i)) := by
    simp [stT, opnT, plnT, hdT, brT, blkT]
  rw [hst] at hb ⊢
  obtain ⟨O, hO, ⟨p1, p2, p3, -⟩, -⟩ := famsM (P := Tryz.prog) (gl := rgl) [wmPut.fam, wmBr.fam, (wmBl (fun l j => l = th ∧ j = i) (fun l j h => by rw [h.1, h.2]; exact ht)).fam] [] rfl
  obtain ⟨B, hB⟩ : ∃ B, brT [119, 104, 105, 108, 101, 32] e = B := ⟨_, rfl⟩
  have hBn : B ≠ [] := by rw [← hB]; simp [brT]
  have q1 := fun {s : List UInt8} {b c fb fc : Nat} {H : AHeap} {rest : List AV} hs hb y2 y1 y3 y4 y5 => wask1 p2 ([119, 104, 105, 108, 101, 32], e, (i : Int)) ⟨List.cons_ne_nil _ _, g⟩ hB (A := [.str [119, 104, 105, 108, 101, 32], .agg e.cells]) rfl (s := s) (b := b) (c := c) (fb := fb) (fc := fc) (H := H) (rest := rest) (d := (i : Int)) rfl rfl hs hb y2 y1 y3 y4 y5
  have q0 := fun {b fb : Nat} {H : AHeap} {rest : List AV} hb y1 y2 y3 y4 => wask0 p2 ([119, 104, 105, 108, 101, 32], e, (i : Int)) ⟨List.cons_ne_nil _ _, g⟩ trivial hB (A := [.str [119, 104, 105, 108, 101, 32], .agg e.cells]) rfl (b := b) (fb := fb) (H := H) (rest := rest) (d := (i : Int)) rfl rfl hb y1 y2 y3 y4
  rw [hB] at hb ⊢
  obtain ⟨Bt, hBt⟩ : ∃ B, blkT th i = B := ⟨_, rfl⟩
  have q5 := fun {s : List UInt8} {b c fb fc : Nat} {H : AHeap} {rest : List AV} hs hb y2 y1 y3 y4 y5 => wask1 p3 (th, i) ⟨rfl, rfl⟩ hBt (A := [stA th]) rfl (s := s) (b := b) (c := c) (fb := fb) (fc := fc) (H := H) (rest := rest) (d := (i : Int)) rfl rfl hs hb y2 y1 y3 y4 y5
  rw [hBt] at hb ⊢
  simp only [stA] at q5
  obtain ⟨tot, htot⟩ : ∃ tot, s ++ (B ++ (32 :: Bt)) = tot := ⟨_, rfl⟩
  rw [htot] at hb ⊢
  generalize hN : WH tW tB tot i = N
  have hx := ex4 [e] 0 (by simp)
  simp only [List.getElem_cons_zero] at hx
  simp only [St.cells, exA]
  generalize exC [e] = ks at *
  obtain ⟨eo, en, es_, ek⟩ := e
  simp only [Ex.cells] at *
  refine fn_memqC follows noNum hO Tryz.func57 rfl ?_
  cases s with
  | nil =>
    have htl := congrArg List.length htot
    simp only [List.length_append, List.length_cons, List.length_nil] at htl
    repeat' ((conv => whnf); first | (refine exO0 (q0 ?_ rfl rfl rfl rfl) ?_; (focus ((try simp only [List.length_append, List.length_cons, List.length_nil] at *); omega))) | (refine exI hx ?_) | (refine exO1 (put1 p1  [[32]] [32]  rfl rfl ?_ ?_ rfl rfl rfl rfl rfl) ?_; (focus (first | exact List.cons_ne_nil _ _ | assumption | (simp; done) | (intro hz; simp only [List.append_eq_nil_iff] at hz; simp_all; done))); (focus ((try simp only [List.length_append, List.length_cons, List.length_nil] at *); omega))) | (refine exO1 (q5 ?_ ?_ rfl rfl rfl rfl rfl) ?_; (focus (first | exact List.cons_ne_nil _ _ | assumption | (simp; done) | (intro hz; simp only [List.append_eq_nil_iff] at hz; simp_all; done))); (focus ((try simp only [List.length_append, List.length_cons, List.length_nil] at *); omega))) | (first | refine stp ?_ | with_reducible refine condB (fun h => ?_) (fun h => ?_)))
    conv => whnf
    (apply finE hN; rotate_left; rotate_left; (focus (exact rfl)); (focus (exact rfl)); (focus (exact rfl)); (focus (exact rfl)); (focus (rw [← htot]; simp; done)); (focus (refine List.ne_nil_of_length_pos ?_; omega)))
  | cons c t =>
    have htl := congrArg List.length htot
    simp only [List.length_append, List.length_cons, List.length_nil] at htl
    repeat' ((conv => whnf); first | (refine exO1 (q1 ?_ ?_ rfl rfl rfl rfl rfl) ?_; (focus (first | exact List.cons_ne_nil _ _ | assumption | (simp; done) | (intro hz; simp only [List.append_eq_nil_iff] at hz; simp_all; done))); (focus ((try simp only [List.length_append, List.length_cons, List.length_nil] at *); omega))) | (refine exI hx ?_) | (refine exO1 (put1 p1  [[32]] [32]  rfl rfl ?_ ?_ rfl rfl rfl rfl rfl) ?_; (focus (first | exact List.cons_ne_nil _ _ | assumption | (simp; done) | (intro hz; simp only [List.append_eq_nil_iff] at hz; simp_all; done))); (focus ((try simp only [List.length_append, List.length_cons, List.length_nil] at *); omega))) | (refine exO1 (q5 ?_ ?_ rfl rfl rfl rfl rfl) ?_; (focus (first | exact List.cons_ne_nil _ _ | assumption | (simp; done) | (intro hz; simp only [List.append_eq_nil_iff] at hz; simp_all; done))); (focus ((try simp only [List.length_append, List.length_cons, List.length_nil] at *); omega))) | (first | refine stp ?_ | with_reducible refine condB (fun h => ?_) (fun h => ?_)))
    conv => whnf
    (apply finE hN; rotate_left; rotate_left; (focus (exact rfl)); (focus (exact rfl)); (focus (exact rfl)); (focus (exact rfl)); (focus (rw [← htot]; simp; done)); (focus (refine List.ne_nil_of_length_pos ?_; omega)))
end Go.Proofs.YtkkfcfjhhdmamaaGreatDoor.lex
end


section

set_option linter.unusedVariables false
set_option linter.unusedSimpArgs false
namespace Go.Proofs.YtkkfcfjhhdmamaaGreatDoor.lex
open Go.Abs Go.RowKit
set_option maxRecDepth 100000
set_option maxHeartbeats 4000000
def wmBeg : WM Tryz.prog rgl tW tB where
  f := 72
  X := Nat
  G := fun x => x < 40
  G0 := fun _ => False
  A := fun _ => []
  D := fun x => (x : Int)
  T := fun x => spc x
  L := 1073741824
  body := by kernel_rfl
  inj := by
    rintro x y _ _ _ hd
    rw [Int.ofNat_inj.1 hd]
  ne := fun x _ h => h.elim
  ok := fun x g s h0 hb => begin_ok x g s h0 hb
theorem lnT_cons (x : St) (l : List St) (i : Nat) : lnT (x :: l) i = spc i ++ (stT x i ++ (10 :: lnT l i)) := by simp only [lnT]
theorem block_ok (l : List St) (i : Nat) (hi : i < 38) (hl : l.length ≤ 9223372036854775807) (hk : ∀ x ∈ l, StmtOK x (i + 1) ∧ stT x (i + 1) ≠ []) : BlockOK l i := by
  intro s hs hb
  obtain ⟨O, hO, ⟨p1, p2, p3, -⟩, -⟩ := famsM (P := Tryz.prog) (gl := rgl) [wmPut.fam, wmBeg.fam, (wmSt (fun x j => (StmtOK x j ∧ stT x j ≠ [])) (fun x j h => h.2) (fun x j h => h.1)).fam] [] rfl
  have qb := fun (n : Nat) (hn : n < 40) {s : List UInt8} {b c fb fc : Nat} {H : AHeap} {rest : List AV} hs hb y2 y1 y3 y4 y5 => wask1 p2 n hn (T := spc n) rfl (A := []) rfl (s := s) (b := b) (c := c) (fb := fb) (fc := fc) (H := H) (rest := rest) (d := (n : Int)) rfl rfl hs hb y2 y1 y3 y4 y5
  have qs := fun (x : St) (h : StmtOK x (i + 1) ∧ stT x (i + 1) ≠ []) {T : List UInt8} (hT : stT x (i + 1) = T) {s : List UInt8} {b c fb fc : Nat} {H : AHeap} {rest : List AV} hs hb y2 y1 y3 y4 y5 => wask1 p3 (x, i + 1) h hT (A := [.agg x.cells]) rfl (s := s) (b := b) (c := c) (fb := fb) (fc := fc) (H := H) (rest := rest) (d := ((i + 1 : Nat) : Int)) rfl rfl hs hb y2 y1 y3 y4 y5
  have qb1 := fun {s : List UInt8} {b c fb fc : Nat} {H : AHeap} {rest : List AV} hs hb y2 y1 y3 y4 y5 => qb (i + 1) (by omega) (s := s) (b := b) (c := c) (fb := fb) (fc := fc) (H := H) (rest := rest) hs hb y2 y1 y3 y4 y5
  have qb0 := fun {s : List UInt8} {b c fb fc : Nat} {H : AHeap} {rest : List AV} hs hb y2 y1 y3 y4 y5 => qb i (by omega) (s := s) (b := b) (c := c) (fb := fb) (fc := fc) (H := H) (rest := rest) hs hb y2 y1 y3 y4 y5
  clear qb
  obtain ⟨tot, htot⟩ : ∃ tot, s ++ blkT l i = tot := ⟨_, rfl⟩
  rw [htot] at hb ⊢
  simp only [blkT] at htot
  generalize spc i = sp0 at *
  generalize hsp1 : spc (i + 1) = sp1 at *
  generalize hN : WH tW tB tot i = N
  have w1 : IntKind.i64.wrap ((i : Int) + 1) = ((i + 1 : Nat) : Int) := by
    have : (i : Int) + 1 = ((i + 1 : Nat) : Int) := by omega
    rw [this]; exact wrapB (by omega) (by omega)
  have w2 : IntKind.i64.wrap (((i + 1 : Nat) : Int) - 1) = (i : Int) := by
    have : ((i + 1 : Nat) : Int) - 1 = (i : Int) := by omega
    rw [this]; exact wrapB (by omega) (by omega)
  obtain ⟨c, t, rfl⟩ : ∃ c t, s = c :: t := by cases s with | nil => exact absurd rfl hs | cons c t => exact ⟨c, t, rfl⟩
  have htl := congrArg List.length htot
  simp only [List.length_append, List.length_cons, List.length_nil] at htl
  simp only [stA]
  refine fn_memqC follows noNum hO Tryz.func35 rfl ?_
  repeat' ((conv => whnf); first | (refine exO1 (put1 p1  [[123, 10]] [123, 10]  rfl rfl ?_ ?_ rfl rfl rfl rfl rfl) ?_; (focus (first | exact List.cons_ne_nil _ _ | assumption | (simp; done) | (intro hz; simp only [List.append_eq_nil_iff] at hz; simp_all; done))); (focus ((try simp only [List.length_append, List.length_cons, List.length_nil] at *); omega))) | (with_reducible refine exW w1 ?_) | (first | refine stp ?_ | with_reducible refine condB (fun h => ?_) (fun h => ?_)))
  conv => whnf
  refine ⟨Nat × List UInt8, (fun p => p.1 ≤ l.length ∧ p.2 ≠ [] ∧ p.2 ++ (lnT (l.drop p.1) (i + 1) ++ (sp0 ++ [125])) = tot), (fun p => [(0, .ptr 0 0), (16, .rs l.length 7 (stC l)), (17, .int .i64 l.length), (18, .int .i64 p.1)]), (fun p => WH tW tB p.2 ((i + 1 : Nat) : Int) ++ []), (fun p => l.length - p.1), ⟨(0, c :: t ++ [123, 10]), ⟨Nat.zero_le _, by simp, by rw [← htot]; simp⟩, ?_⟩, ?_⟩
  · apply fgE (rest := [])
    rotate_left; rotate_left; rotate_left
    (focus (exact rfl)); (focus (exact rfl)); (focus (exact rfl))
    (focus (exact trivial))
    (focus (exact rfl))
    (focus (refine And.intro (Wk.ptr rfl rfl) ?_; refine And.intro (Wk.noref rfl) ?_; refine And.intro (Wk.int rfl) ?_; exact ⟨Wk.int rfl, trivial⟩))
    (focus (exact rfl)); (focus (simp; done)); (focus (simp; done))
  rintro ⟨j, acc⟩ ⟨h1, h2, h3⟩
  dsimp only at h1 h2 h3
  dsimp only
  clear htot htl hs
  have htl := congrArg List.length h3
  obtain ⟨ac, at_, rfl⟩ : ∃ c t, acc = c :: t := by cases acc with | nil => exact absurd rfl h2 | cons c t => exact ⟨c, t, rfl⟩
  by_cases hlt : j < l.length
  · have c1 : decide ((j : Int) < (l.length : Int)) = true := by simpa using hlt
    have hx := st7 l j hlt
    have hkx := hk l[j] (get_mem hlt)
    rw [List.drop_eq_getElem_cons hlt, lnT_cons, hsp1] at h3 htl
    obtain ⟨w, hwe⟩ : ∃ w, stT l[j] (i + 1) = w := ⟨_, rfl⟩
    have qe := @qs l[j] hkx w hwe
    rw [hwe] at h3 htl
    simp only [List.length_append, List.length_cons, List.length_nil] at htl
    clear qs hkx hwe hk
    generalize l[j] = x at *
    obtain ⟨xk, xn, xl, xo, xx, xt, xe⟩ := x
    simp only [St.cells, exA] at *
    repeat' ((conv => whnf); first | (refine exI hx ?_) | (refine exO1 (qb1 ?_ ?_ rfl rfl rfl rfl rfl) ?_; (focus (first | exact List.cons_ne_nil _ _ | assumption | (simp; done) | (intro hz; simp only [List.append_eq_nil_iff] at hz; simp_all; done))); (focus ((try simp only [List.length_append, List.length_cons, List.length_nil] at *); omega))) | (refine exO1 (qe ?_ ?_ rfl rfl rfl rfl rfl) ?_; (focus (first | exact List.cons_ne_nil _ _ | assumption | (simp; done) | (intro hz; simp only [List.append_eq_nil_iff] at hz; simp_all; done))); (focus ((try simp only [List.length_append, List.length_cons, List.length_nil] at *); omega))) | (refine exO1 (put1 p1  [[10]] [10]  rfl rfl ?_ ?_ rfl rfl rfl rfl rfl) ?_; (focus (first | exact List.cons_ne_nil _ _ | assumption | (simp; done) | (intro hz; simp only [List.append_eq_nil_iff] at hz; simp_all; done))); (focus ((try simp only [List.length_append, List.length_cons, List.length_nil] at *); omega))) | (with_reducible refine ixJ j rfl ?_ ?_; (focus (omega))) | (first | refine stp ?_ | with_reducible refine condB (fun h => ?_) (fun h => ?_)))
    conv => whnf
    refine ⟨(j + 1, ac :: at_ ++ sp1 ++ w ++ [10]), ⟨hlt, by simp, by rw [← h3]; simp⟩, by show l.length - (j + 1) < l.length - j; omega, ?_⟩
    apply fgE (rest := [])
    rotate_left; rotate_left; rotate_left
    (focus (exact rfl)); (focus (exact rfl)); (focus (exact rfl))
    (focus (exact trivial))
    (focus (exact rfl))
    (focus (refine And.intro (Wk.ptr rfl rfl) ?_; refine And.intro (Wk.noref rfl) ?_; refine And.intro (Wk.int rfl) ?_; exact ⟨Wk.int rfl, trivial⟩))
    (focus (exact rfl)); (focus (simp; done)); (focus (simp; done))
  · have c1 : decide ((j : Int) < (l.length : Int)) = false := by simpa using hlt
    have hi2 : j = l.length := by omega
    subst hi2
    rw [List.drop_length] at h3 htl
    simp only [lnT, List.nil_append, List.length_append, List.length_cons, List.length_nil] at h3 htl
    repeat' ((conv => whnf); first | (with_reducible refine exW w2 ?_) | (refine exO1 (qb0 ?_ ?_ rfl rfl rfl rfl rfl) ?_; (focus (first | exact List.cons_ne_nil _ _ | assumption | (simp; done) | (intro hz; simp only [List.append_eq_nil_iff] at hz; simp_all; done))); (focus ((try simp only [List.length_append, List.length_cons, List.length_nil] at *); omega))) | (refine exO1 (put1 p1  [[125]] [125]  rfl rfl ?_ ?_ rfl rfl rfl rfl rfl) ?_; (focus (first | exact List.cons_ne_nil _ _ | assumption | (simp; done) | (intro hz; simp only [List.append_eq_nil_iff] at hz; simp_all; done))); (focus ((try simp only [List.length_append, List.length_cons, List.length_nil] at *); omega))) | (first | refine stp ?_ | with_reducible refine condB (fun h => ?_) (fun h => ?_)))
    conv => whnf
    (apply finE hN; rotate_left; rotate_left; (focus (exact rfl)); (focus (exact rfl)); (focus (exact rfl)); (focus (exact rfl)); (focus (rw [← h3]; simp; done)); (focus (refine List.ne_nil_of_length_pos ?_; omega)))
end Go.Proofs.YtkkfcfjhhdmamaaGreatDoor.lex
end


section

set_option linter.unusedVariables false
set_option linter.unusedSimpArgs false
namespace Go.Proofs.YtkkfcfjhhdmamaaGreatDoor.lex
open Go.Abs Go.RowKit
set_option maxRecDepth 100000
set_option maxHeartbeats 4000000
theorem stT_ne (x : St) (i : Nat) : stT x i ≠ [] := by
  obtain ⟨k, n, lc, o, xs, t, e⟩ := x
  simp only [stT]
  intro h
  have h2 := (List.append_eq_nil_iff.1 h).2
  split at h2
  · simp at h2
  · split at h2
    · simp at h2
    · simp at h2
theorem right_mem : ∀ {l : List Ex}, rightL l = true → ∀ e ∈ l, rightE e = true
  | x :: l, h, e, he => by
    simp only [rightL, Bool.and_eq_true] at h
    rcases List.mem_cons.1 he with rfl | he
    · exact h.1
    · exact right_mem h.2 e he
theorem rightS_mem : ∀ {l : List St}, rightSL l = true → ∀ e ∈ l, rightS e = true
  | x :: l, h, e, he => by
    simp only [rightSL, Bool.and_eq_true] at h
    rcases List.mem_cons.1 he with rfl | he
    · exact h.1
    · exact rightS_mem h.2 e he
theorem rightS_facts {k : Int} {n lc : List UInt8} {o : Int} {xs : List Ex} {t e : List St} (h : rightS (.mk k n lc o xs t e) = true) :
    (1 ≤ k ∧ k ≤ 11) ∧ (hasN k = true → n ≠ []) ∧ (hasN k = false → n = []) ∧ xs.length = hasX k ∧ (hasT k = false → t = []) ∧ (hasE k = false → e = []) ∧ rightL xs = true ∧ rightSL t = true ∧ rightSL e = true := by
  simp only [rightS, Bool.and_eq_true] at h
  obtain ⟨h1, h2, h3, h4⟩ := h
  simp only [ownS, ownSF, St.kind, St.name, St.loc, St.order, St.exprs, St.thn, St.els, Bool.and_eq_true, decide_eq_true_eq, Bool.or_eq_true] at h1
  obtain ⟨a1, a2, a3, a4, a5, a6, a7⟩ := h1
  refine ⟨of_decide_eq_true a1, fun hk => ?_, fun hk => ?_, of_decide_eq_true a5, fun hk => ?_, fun hk => ?_, h2, h3, h4⟩
  · rw [hk] at a2; exact wordB_ne (by simpa [isW] using a2)
  · rw [hk] at a2; simpa [isW] using a2
  · rcases a6 with a | a; rw [hk] at a; cases a; exact List.eq_nil_of_length_eq_zero (of_decide_eq_true a)
  · rcases a7 with a | a; rw [hk] at a; cases a; exact List.eq_nil_of_length_eq_zero (of_decide_eq_true a)
theorem stmt_okN : ∀ (n : Nat) (x : St), sizeS x ≤ n → rightS x = true → rgS x → okS x → ∀ i : Nat, i + deepS x ≤ 37 → StmtOK x i
  | 0, x, h, _, _, _, _, _ => by have : 0 < sizeS x := by rw [sizeS_eq]; omega
                                 omega
  | n + 1, .mk k nm lc o xs t e, h, hr, hg, hok, i, hd => by
    obtain ⟨f1, f2, f3, f4, f5, f6, f7, f8, f9⟩ := rightS_facts hr
    simp only [rgS] at hg
    obtain ⟨g1, g2, g3⟩ := hg
    obtain ⟨k1, k2, k3, k4, k5, k6, k7, k8⟩ := okS_parts hok
    simp only [St.name, St.loc, St.exprs, St.thn, St.els] at k1 k2 k3 k4 k5 k6 k7 k8
    simp only [sizeS] at h
    simp only [deepS] at hd
    have blk : ∀ l : List St, sizeSL l ≤ n → rightSL l = true → rgSL l → okSL l → l.length ≤ 9223372036854775807 → i + 1 + deepSL l ≤ 37 → BlockOK l i := by
      intro l b1 b2 b3 b4 b5 b6
      refine block_ok l i (by omega) b5 fun x hx => ⟨?_, stT_ne x _⟩
      have c1 := sizeSL_mem l x hx
      have c2 := deepSL_mem l x hx
      exact stmt_okN n x (by omega) (rightS_mem b2 x hx) (rgSL_get b3 x hx) (okSL_get b4 x hx) (i + 1) (by omega)
    have bt := blk t (by omega) f8 g2 k7 k4 (by omega)
    have be := blk e (by omega) f9 g3 k8 k5 (by omega)
    have gx : ∀ e ∈ xs, goodX e := fun e he => ⟨right_mem f7 e he, rgL_get g1 e he⟩
    have one : xs.length = 1 → ∃ e, xs = [e] ∧ goodX e := fun hl => by
      match xs, hl, gx with
      | [e], _, gx => exact ⟨e, rfl, gx e (by simp)⟩
    have hk : k = 1 ∨ k = 2 ∨ k = 3 ∨ k = 4 ∨ k = 5 ∨ k = 6 ∨ k = 7 ∨ k = 8 ∨ k = 9 ∨ k = 10 ∨ k = 11 := by omega
    clear blk f1 f5 f6 f7 f8 f9 g1 g2 g3 k1 k2 k4 k5 k6 k7 k8 h hd hr hok
    rcases hk with rfl | rfl | rfl | rfl | rfl | rfl | rfl | rfl | rfl | rfl | rfl
    · obtain ⟨e', rfl, ge⟩ := one f4
      exact stmt_k1 (f2 rfl) ge
    · exact stmt_k2 (f2 rfl) gx k3
    · obtain rfl := f3 rfl
      exact stmt_k3 gx k3
    · exact stmt_k4 (f2 rfl) gx k3
    · exact stmt_k5 (f2 rfl) gx k3
    · exact stmt_k6 (f2 rfl) gx k3
    · obtain rfl := f3 rfl
      exact stmt_k7
    · obtain rfl := f3 rfl
      obtain ⟨e', rfl, ge⟩ := one f4
      exact stmt_k8 ge
    · obtain rfl := f3 rfl
      obtain ⟨e', rfl, ge⟩ := one f4
      exact stmt_k9 ge
    · obtain rfl := f3 rfl
      obtain ⟨e', rfl, ge⟩ := one f4
      exact stmt_k10 ge bt be
    · obtain rfl := f3 rfl
      obtain ⟨e', rfl, ge⟩ := one f4
      exact stmt_k11 ge bt
theorem block_okN (l : List St) (i : Nat) (h1 : rightSL l = true) (h2 : rgSL l) (h3 : okSL l) (h4 : l.length ≤ 9223372036854775807) (h5 : i + 1 + deepSL l ≤ 37) : BlockOK l i :=
  block_ok l i (by omega) h4 fun x hx => ⟨stmt_okN _ x (Nat.le_refl _) (rightS_mem h1 x hx) (rgSL_get h2 x hx) (okSL_get h3 x hx) (i + 1) (by have := deepSL_mem l x hx; omega), stT_ne x _⟩
theorem checkE_good {e : Ex} (h : checkE e = 0) : rightE e = true := by
  unfold checkE at h
  split at h
  · cases h
  · split at h
    · assumption
    · cases h
theorem uB : Tryz.prog.underlying 114 = some (.pointer 5) := by kernel_rfl
theorem cB : Tryz.prog.cellsOf 5 = 1 := by kernel_rfl
theorem us_ok {H : AHeap} {b f : Nat} {s : List UInt8} (h0 : s ≠ []) (hs : s.length ≤ 1099511627776) (hH : H[b]? = some ⟨true, f, 0, .cells (byt s) tB⟩) : aUStr Tryz.prog 114 (.ptr b 0) s.length H = some (.str s, (wkil b f H).set b ⟨false, f, 0, .cells [] 0⟩) := ustr_ok uB cB hH h0 hs
theorem usA_ok {orc : Orc} {ρ : Operand → Option AV} {o : Oper} {H : AHeap} {x y : Operand} {b f : Nat} {s : List UInt8} (ho : o.op = .call { callee := .builtin .unsafeString, args := #[x, y], argTypes := #[114, 3] }) (hx : ρ x = some (.ptr b 0)) (hy : ρ y = some (.int .i64 (s.length : Int)))
    (h0 : s ≠ []) (hs : s.length ≤ 1099511627776) (hH : H[b]? = some ⟨true, f, 0, .cells (byt s) tB⟩) : aop Tryz.prog orc ρ o H = some (.str s, (wkil b f H).set b ⟨false, f, 0, .cells [] 0⟩) := by
  have h1 := us_ok h0 hs hH
  have h2 : apure' Tryz.prog ρ H o = none := by simp [apure', apure, ho]
  have h3 : aeff Tryz.prog ρ H o = aUStr Tryz.prog 114 (.ptr b 0) s.length H := by
    simp only [aeff, ho, hx, hy]
  unfold aop
  simp only [ho, callee, h2, h3, h1]
def isX (g : Nat) : Bool := !(Nat.beq g 36)
theorem exprP_ok (e : Ex) (hok : okE e) (hg : rgE e) (hs : sizeE e ≤ 1048576) (hb : checkE e = 0 → (wrE e).length ≤ 1073741824) : ValOK Tryz.prog rgl 13 [.agg e.cells] (.tuple [.str (if checkE e = 0 then wrE e else []), .int .i64 (checkE e)]) := by
  have hch := checkEX_ok e hok hs
  by_cases hc : checkE e = 0
  · have g : goodX e := ⟨checkE_good hc, hg⟩
    rw [if_pos hc]
    rw [hc] at hch ⊢
    obtain ⟨O, hO, ⟨p1, -⟩, ⟨p2, -⟩⟩ := famsM (P := Tryz.prog) (gl := rgl) [wmE.fam] [{ I := Unit, f := 48, G := (fun _ => True), A := (fun _ => [.agg e.cells]), R := (fun _ => .int .i64 0), body := (by kernel_rfl), inj := (fun _ _ _ _ _ => rfl), ok := (fun _ _ => ⟨ex_refs e, hch⟩) }] rfl
    have q2 : ∀ H, acall Tryz.prog O H 48 [.agg e.cells] = some (.int .i64 0, H) := p2 () trivial
    obtain ⟨w, hwe⟩ : ∃ w, wrE e = w := ⟨_, rfl⟩
    have hwn : w ≠ [] := by rw [← hwe]; exact wrE_ne g.1
    have hb := hb hc
    have q1 := fun {b fb : Nat} {H : AHeap} {rest : List AV} {d : Int} hb y1 y2 y3 y4 => e0 p1 g hwe (b := b) (fb := fb) (H := H) (rest := rest) (d := d) hb y1 y2 y3 y4
    rw [hwe] at hb ⊢
    clear p1 p2 hch hc hwe g hok hg hs
    have hlw : w.length ≤ 1099511627776 := by omega
    obtain ⟨w0, w1, rfl⟩ : ∃ c t, w = c :: t := by cases w with | nil => exact absurd rfl hwn | cons c t => exact ⟨c, t, rfl⟩
    obtain ⟨eo, en, es_, ek⟩ := e
    simp only [Ex.cells] at *
    refine fn_valI isX 1 follows noNum hO Tryz.func13 rfl ?_
    repeat' ((conv => whnf); first | (with_reducible refine exI (q2 _) ?_) | (refine exO0 (q1 ?_ rfl rfl rfl rfl) ?_; (focus ((try simp only [List.length_append, List.length_cons, List.length_nil] at *); omega))) | (refine exI (usA_ok (s := w0 :: w1) rfl rfl rfl hwn hlw rfl) ?_) | (first | refine stp ?_ | with_reducible refine condB (fun h => ?_) (fun h => ?_)))
    all_goals rfl
  · rw [if_neg hc]
    obtain ⟨O, hO, p2, -⟩ := fams (P := Tryz.prog) (gl := rgl) [{ I := Unit, f := 48, G := (fun _ => True), A := (fun _ => [.agg e.cells]), R := (fun _ => .int .i64 (checkE e)), body := (by kernel_rfl), inj := (fun _ _ _ _ _ => rfl), ok := (fun _ _ => ⟨ex_refs e, hch⟩) }] rfl
    have q2 : ∀ H, acall Tryz.prog O H 48 [.agg e.cells] = some (.int .i64 (checkE e), H) := p2 () trivial
    clear p2 hch
    generalize checkE e = c at *
    have e1 : (c != 0) = true := by simpa using hc
    obtain ⟨eo, en, es_, ek⟩ := e
    simp only [Ex.cells] at *
    refine fn_val follows noNum hO Tryz.func13 rfl ?_
    repeat' ((conv => whnf); first | (with_reducible refine exI (q2 _) ?_) | (first | refine stp ?_ | with_reducible refine condB (fun h => ?_) (fun h => ?_)))
    all_goals rfl
end Go.Proofs.YtkkfcfjhhdmamaaGreatDoor.lex
end


section

set_option linter.unusedVariables false
set_option linter.unusedSimpArgs false
namespace Go.Proofs.YtkkfcfjhhdmamaaGreatDoor.lex
open Go.Abs Go.RowKit
set_option maxRecDepth 100000
set_option maxHeartbeats 4000000
def famWr : Fam Tryz.prog rgl := { I := Ex, f := 58, G := (fun e => goodX e ∧ (wrE e).length ≤ 1073741824), A := (fun e => [.agg e.cells]), R := (fun e => .str (wrE e)), body := (by kernel_rfl), inj := (fun x y _ _ h => by rw [agg_inj (a := x) (b := y) h]), ok := (fun e g => ⟨by have := ex_refs e; simpa [refsL, refs] using this, write_okN _ e (Nat.le_refl _) g.1.1 g.1.2 g.2⟩) }
def famOrdR : Fam Tryz.prog rgl := famI (f := 23) (by kernel_rfl) (fun _ => True) (fun n => .str (ordT n)) (fun n _ => ordR_ok n)
theorem accR_ok (word : List UInt8) (x : St) (hg : ∀ e ∈ x.exprs, goodX e) (hle : x.exprs.length ≤ 9223372036854775807) (hb : (accT word x.loc x.exprs x.order).length ≤ 1073741824) :
    ValOK Tryz.prog rgl 109 [.str word, .agg x.cells] (.str (accT word x.loc x.exprs x.order)) := by
  obtain ⟨O, hO, p1, p2, -⟩ := fams (P := Tryz.prog) (gl := rgl) [famWr, famOrdR] rfl
  have q1 : ∀ e, goodX e ∧ (wrE e).length ≤ 1073741824 → ∀ H, acall Tryz.prog O H 58 [.agg e.cells] = some (.str (wrE e), H) := p1
  have q2 : ∀ H, acall Tryz.prog O H 23 [.int .i64 x.order] = some (.str (ordT x.order), H) := p2 x.order trivial
  clear p1 p2
  obtain ⟨k, nm, lc, o, xs, th, el⟩ := x
  simp only [St.exprs, St.loc, St.order, St.cells, exA, accT] at *
  generalize ordT o = od at *
  obtain ⟨tot, htot⟩ : ∃ tot, word ++ (40 :: (lc ++ (argT xs ++ 44 :: 32 :: (od ++ [41])))) = tot := ⟨_, rfl⟩
  rw [htot] at hb ⊢
  have htl := congrArg List.length htot
  simp only [List.length_append, List.length_cons, List.length_nil] at htl
  refine fn_val follows noNum hO Tryz.func109 rfl ?_
  repeat' ((conv => whnf); first | (refine And.intro (show List.length _ + List.length _ ≤ 9223372036854775807 from ?_) ?_; (focus ((try simp only [List.length_append, List.length_cons, List.length_nil] at *); omega))) | (first | refine stp ?_ | with_reducible refine condB (fun h => ?_) (fun h => ?_)))
  conv => whnf
  refine ⟨Nat × List UInt8, (fun p => p.1 ≤ xs.length ∧ p.2 ++ (argT (xs.drop p.1) ++ 44 :: 32 :: (od ++ [41])) = tot), (fun p => [(3, .ptr 0 0), (5, .str p.2), (6, .int .i64 p.1)]), (fun _ => [⟨true, 0, 0, .cells [.int .i64 k, .str nm, .str lc, .int .i64 o, .rs xs.length 4 (exC xs), .rs th.length 7 (stC th), .rs el.length 7 (stC el)] 49⟩]), (fun p => xs.length - p.1), ⟨(0, word ++ [40] ++ lc), ⟨Nat.zero_le _, by rw [← htot]; simp⟩, FgL.mk [0] rfl ?_ ⟨⟨rfl, rfl, rfl, rfl, BodyGe.pre (rest := []) rfl rfl⟩, trivial⟩ rfl⟩, ?_⟩
  · refine And.intro (Wk.ptr rfl rfl) ?_
    refine And.intro (Wk.noref rfl) ?_
    exact ⟨Wk.int rfl, trivial⟩
  rintro ⟨i, acc⟩ ⟨h1, h3⟩
  dsimp only at h1 h3
  dsimp only
  clear htot htl
  have htl := congrArg List.length h3
  by_cases hlt : i < xs.length
  · have c1 : decide ((i : Int) < (xs.length : Int)) = true := by simpa using hlt
    have hx := ex4 xs i hlt
    have hgx := hg xs[i] (get_mem hlt)
    rw [List.drop_eq_getElem_cons hlt] at h3 htl
    simp only [argT, List.length_append, List.length_cons, List.length_nil] at h3 htl
    have q1 := q1 xs[i] ⟨hgx, by omega⟩
    clear hgx hg
    generalize xs[i] = e at *
    generalize wrE e = w at *
    obtain ⟨xo, xn, xm, xk⟩ := e
    simp only [Ex.cells] at *
    repeat' ((conv => whnf); first | (refine exI hx ?_) | (with_reducible refine exI (q1 _) ?_) | (refine And.intro (show List.length _ + List.length _ ≤ 9223372036854775807 from ?_) ?_; (focus ((try simp only [List.length_append, List.length_cons, List.length_nil] at *); omega))) | (with_reducible refine ixJ i rfl ?_ ?_; (focus (omega))) | (first | refine stp ?_ | with_reducible refine condB (fun h => ?_) (fun h => ?_)))
    conv => whnf
    refine ⟨(i + 1, acc ++ [44, 32] ++ w), ⟨hlt, by rw [← h3]; simp⟩, by show xs.length - (i + 1) < xs.length - i; omega, FgL.mk [0] rfl ?_ ⟨⟨rfl, rfl, rfl, rfl, BodyGe.pre (rest := []) rfl rfl⟩, trivial⟩ rfl⟩
    refine And.intro (Wk.ptr rfl rfl) ?_
    refine And.intro (Wk.noref rfl) ?_
    exact ⟨Wk.int rfl, trivial⟩
  · have c1 : decide ((i : Int) < (xs.length : Int)) = false := by simpa using hlt
    have hi2 : i = xs.length := by omega
    subst hi2
    rw [List.drop_length] at h3 htl
    simp only [argT, List.nil_append, List.length_append, List.length_cons, List.length_nil] at h3 htl
    have hfin : acc ++ [44, 32] ++ od ++ [41] = tot := by rw [← h3]; simp
    rw [← hfin]
    repeat' ((conv => whnf); first | (with_reducible refine exI (q2 _) ?_) | (refine And.intro (show List.length _ + List.length _ ≤ 9223372036854775807 from ?_) ?_; (focus ((try simp only [List.length_append, List.length_cons, List.length_nil] at *); omega))) | (first | refine stp ?_ | with_reducible refine condB (fun h => ?_) (fun h => ?_)))
    all_goals rfl
def famAcR : Fam Tryz.prog rgl := { I := List UInt8 × St, f := 109, G := (fun x => (∀ e ∈ x.2.exprs, goodX e) ∧ x.2.exprs.length ≤ 9223372036854775807 ∧ (accT x.1 x.2.loc x.2.exprs x.2.order).length ≤ 1073741824), A := (fun x => [.str x.1, .agg x.2.cells]), R := (fun x => .str (accT x.1 x.2.loc x.2.exprs x.2.order)), body := (by kernel_rfl), inj := (fun x y _ _ h => by simp only [List.cons.injEq, AV.str.injEq, and_true] at h; have := scells_inj x.2 y.2 (by simpa using h.2); rw [this, h.1]), ok := (fun x g => ⟨by obtain ⟨w, ⟨k, n, l, o, xs, t, e⟩⟩ := x; rfl, accR_ok x.1 x.2 g.1 g.2.1 g.2.2⟩) }
theorem pln_k1 {nm lc : List UInt8} {o : Int} {e : Ex} {th el : List St} (hn : nm ≠ []) (g : goodX e) (hb : (opnT nm ++ plnT 1 lc o [e]).length ≤ 1073741824) : ValOK Tryz.prog rgl 87 [.agg (St.cells (.mk 1 nm lc o [e] th el : St))] (.str (opnT nm ++ plnT 1 lc o [e])) := by
  have ht : (opnT nm ++ plnT 1 lc o [e]) = nm ++ [32, 61, 32] ++ (wrE e) := by simp [opnT, plnT, hdT, hn]
  rw [ht] at hb ⊢
  try simp only [List.length_append, List.length_cons, List.length_nil] at hb
  obtain ⟨O, hO, p1, -⟩ := fams (P := Tryz.prog) (gl := rgl) [famWr] rfl
  have q1 : ∀ H, acall Tryz.prog O H 58 [.agg e.cells] = some (.str (wrE e), H) := p1 e ⟨g, by omega⟩
  have hx := ex4 [e] 0 (by simp)
  simp only [List.getElem_cons_zero] at hx
  clear p1 g ht
  generalize wrE e = w at *
  simp only [St.cells, exA]
  generalize exC [e] = ks at *
  obtain ⟨eo, en, es_, ek⟩ := e
  simp only [Ex.cells] at *
  refine fn_val follows noNum hO Tryz.func87 rfl ?_
  repeat' ((conv => whnf); first | (refine exI hx ?_) | (with_reducible refine exI (q1 _) ?_) | (refine And.intro (show List.length _ + List.length _ ≤ 9223372036854775807 from ?_) ?_; (focus ((try simp only [List.length_append, List.length_cons, List.length_nil] at *); omega))) | (first | refine stp ?_ | with_reducible refine condB (fun h => ?_) (fun h => ?_)))
  all_goals rfl
theorem pln_k2 {nm lc : List UInt8} {o : Int} {xs : List Ex} {th el : List St} (hn : nm ≠ []) (g : ∀ e ∈ xs, goodX e) (hl : xs.length ≤ 9223372036854775807) (hb : (opnT nm ++ plnT 2 lc o xs).length ≤ 1073741824) : ValOK Tryz.prog rgl 87 [.agg (St.cells (.mk 2 nm lc o xs th el : St))] (.str (opnT nm ++ plnT 2 lc o xs)) := by
  have ht : (opnT nm ++ plnT 2 lc o xs) = nm ++ [32, 61, 32] ++ (accT [108, 111, 97, 100] lc xs o) := by simp [opnT, plnT, hdT, hn]
  rw [ht] at hb ⊢
  try simp only [List.length_append, List.length_cons, List.length_nil] at hb
  obtain ⟨O, hO, p1, -⟩ := fams (P := Tryz.prog) (gl := rgl) [famAcR] rfl
  have q1 : ∀ H, acall Tryz.prog O H 109 [.str [108, 111, 97, 100], .agg (St.cells (.mk 2 nm lc o xs th el : St))] = some (.str (accT [108, 111, 97, 100] lc xs o), H) := p1 ([108, 111, 97, 100], (.mk 2 nm lc o xs th el : St)) ⟨g, hl, by simp only [St.loc, St.exprs, St.order]; omega⟩
  clear p1 g ht
  generalize accT [108, 111, 97, 100] lc xs o = A at *
  simp only [St.cells, exA] at *
  refine fn_val follows noNum hO Tryz.func87 rfl ?_
  repeat' ((conv => whnf); first | (with_reducible refine exI (q1 _) ?_) | (refine And.intro (show List.length _ + List.length _ ≤ 9223372036854775807 from ?_) ?_; (focus ((try simp only [List.length_append, List.length_cons, List.length_nil] at *); omega))) | (first | refine stp ?_ | with_reducible refine condB (fun h => ?_) (fun h => ?_)))
  all_goals rfl
theorem pln_k3 {lc : List UInt8} {o : Int} {xs : List Ex} {th el : List St} (g : ∀ e ∈ xs, goodX e) (hl : xs.length ≤ 9223372036854775807) (hb : (opnT [] ++ plnT 3 lc o xs).length ≤ 1073741824) : ValOK Tryz.prog rgl 87 [.agg (St.cells (.mk 3 [] lc o xs th el : St))] (.str (opnT [] ++ plnT 3 lc o xs)) := by
  have ht : (opnT [] ++ plnT 3 lc o xs) = (accT [115, 116, 111, 114, 101] lc xs o) := by simp [opnT, plnT, hdT]
  rw [ht] at hb ⊢
  try simp only [List.length_append, List.length_cons, List.length_nil] at hb
  obtain ⟨O, hO, p1, -⟩ := fams (P := Tryz.prog) (gl := rgl) [famAcR] rfl
  have q1 : ∀ H, acall Tryz.prog O H 109 [.str [115, 116, 111, 114, 101], .agg (St.cells (.mk 3 [] lc o xs th el : St))] = some (.str (accT [115, 116, 111, 114, 101] lc xs o), H) := p1 ([115, 116, 111, 114, 101], (.mk 3 [] lc o xs th el : St)) ⟨g, hl, by simp only [St.loc, St.exprs, St.order]; omega⟩
  clear p1 g ht
  generalize accT [115, 116, 111, 114, 101] lc xs o = A at *
  simp only [St.cells, exA] at *
  refine fn_val follows noNum hO Tryz.func87 rfl ?_
  repeat' ((conv => whnf); first | (with_reducible refine exI (q1 _) ?_) | (refine And.intro (show List.length _ + List.length _ ≤ 9223372036854775807 from ?_) ?_; (focus ((try simp only [List.length_append, List.length_cons, List.length_nil] at *); omega))) | (first | refine stp ?_ | with_reducible refine condB (fun h => ?_) (fun h => ?_)))
  all_goals rfl
theorem pln_k4 {nm lc : List UInt8} {o : Int} {xs : List Ex} {th el : List St} (hn : nm ≠ []) (g : ∀ e ∈ xs, goodX e) (hl : xs.length ≤ 9223372036854775807) (hb : (opnT nm ++ plnT 4 lc o xs).length ≤ 1073741824) : ValOK Tryz.prog rgl 87 [.agg (St.cells (.mk 4 nm lc o xs th el : St))] (.str (opnT nm ++ plnT 4 lc o xs)) := by
  have ht : (opnT nm ++ plnT 4 lc o xs) = nm ++ [32, 61, 32] ++ (accT [99, 97, 115] lc xs o) := by simp [opnT, plnT, hdT, hn]
  rw [ht] at hb ⊢
  try simp only [List.length_append, List.length_cons, List.length_nil] at hb
  obtain ⟨O, hO, p1, -⟩ := fams (P := Tryz.prog) (gl := rgl) [famAcR] rfl
  have q1 : ∀ H, acall Tryz.prog O H 109 [.str [99, 97, 115], .agg (St.cells (.mk 4 nm lc o xs th el : St))] = some (.str (accT [99, 97, 115] lc xs o), H) := p1 ([99, 97, 115], (.mk 4 nm lc o xs th el : St)) ⟨g, hl, by simp only [St.loc, St.exprs, St.order]; omega⟩
  clear p1 g ht
  generalize accT [99, 97, 115] lc xs o = A at *
  simp only [St.cells, exA] at *
  refine fn_val follows noNum hO Tryz.func87 rfl ?_
  repeat' ((conv => whnf); first | (with_reducible refine exI (q1 _) ?_) | (refine And.intro (show List.length _ + List.length _ ≤ 9223372036854775807 from ?_) ?_; (focus ((try simp only [List.length_append, List.length_cons, List.length_nil] at *); omega))) | (first | refine stp ?_ | with_reducible refine condB (fun h => ?_) (fun h => ?_)))
  all_goals rfl
theorem pln_k5 {nm lc : List UInt8} {o : Int} {xs : List Ex} {th el : List St} (hn : nm ≠ []) (g : ∀ e ∈ xs, goodX e) (hl : xs.length ≤ 9223372036854775807) (hb : (opnT nm ++ plnT 5 lc o xs).length ≤ 1073741824) : ValOK Tryz.prog rgl 87 [.agg (St.cells (.mk 5 nm lc o xs th el : St))] (.str (opnT nm ++ plnT 5 lc o xs)) := by
  have ht : (opnT nm ++ plnT 5 lc o xs) = nm ++ [32, 61, 32] ++ (accT [97, 100, 100] lc xs o) := by simp [opnT, plnT, hdT, hn]
  rw [ht] at hb ⊢
  try simp only [List.length_append, List.length_cons, List.length_nil] at hb
  obtain ⟨O, hO, p1, -⟩ := fams (P := Tryz.prog) (gl := rgl) [famAcR] rfl
  have q1 : ∀ H, acall Tryz.prog O H 109 [.str [97, 100, 100], .agg (St.cells (.mk 5 nm lc o xs th el : St))] = some (.str (accT [97, 100, 100] lc xs o), H) := p1 ([97, 100, 100], (.mk 5 nm lc o xs th el : St)) ⟨g, hl, by simp only [St.loc, St.exprs, St.order]; omega⟩
  clear p1 g ht
  generalize accT [97, 100, 100] lc xs o = A at *
  simp only [St.cells, exA] at *
  refine fn_val follows noNum hO Tryz.func87 rfl ?_
  repeat' ((conv => whnf); first | (with_reducible refine exI (q1 _) ?_) | (refine And.intro (show List.length _ + List.length _ ≤ 9223372036854775807 from ?_) ?_; (focus ((try simp only [List.length_append, List.length_cons, List.length_nil] at *); omega))) | (first | refine stp ?_ | with_reducible refine condB (fun h => ?_) (fun h => ?_)))
  all_goals rfl
theorem pln_k6 {nm lc : List UInt8} {o : Int} {xs : List Ex} {th el : List St} (hn : nm ≠ []) (g : ∀ e ∈ xs, goodX e) (hl : xs.length ≤ 9223372036854775807) (hb : (opnT nm ++ plnT 6 lc o xs).length ≤ 1073741824) : ValOK Tryz.prog rgl 87 [.agg (St.cells (.mk 6 nm lc o xs th el : St))] (.str (opnT nm ++ plnT 6 lc o xs)) := by
  have ht : (opnT nm ++ plnT 6 lc o xs) = nm ++ [32, 61, 32] ++ (accT [115, 119, 97, 112] lc xs o) := by simp [opnT, plnT, hdT, hn]
  rw [ht] at hb ⊢
  try simp only [List.length_append, List.length_cons, List.length_nil] at hb
  obtain ⟨O, hO, p1, -⟩ := fams (P := Tryz.prog) (gl := rgl) [famAcR] rfl
  have q1 : ∀ H, acall Tryz.prog O H 109 [.str [115, 119, 97, 112], .agg (St.cells (.mk 6 nm lc o xs th el : St))] = some (.str (accT [115, 119, 97, 112] lc xs o), H) := p1 ([115, 119, 97, 112], (.mk 6 nm lc o xs th el : St)) ⟨g, hl, by simp only [St.loc, St.exprs, St.order]; omega⟩
  clear p1 g ht
  generalize accT [115, 119, 97, 112] lc xs o = A at *
  simp only [St.cells, exA] at *
  refine fn_val follows noNum hO Tryz.func87 rfl ?_
  repeat' ((conv => whnf); first | (with_reducible refine exI (q1 _) ?_) | (refine And.intro (show List.length _ + List.length _ ≤ 9223372036854775807 from ?_) ?_; (focus ((try simp only [List.length_append, List.length_cons, List.length_nil] at *); omega))) | (first | refine stp ?_ | with_reducible refine condB (fun h => ?_) (fun h => ?_)))
  all_goals rfl
theorem pln_k7 {lc : List UInt8} {o : Int} {xs : List Ex} {th el : List St}  (hb : (opnT [] ++ plnT 7 lc o xs).length ≤ 1073741824) : ValOK Tryz.prog rgl 87 [.agg (St.cells (.mk 7 [] lc o xs th el : St))] (.str (opnT [] ++ plnT 7 lc o xs)) := by
  have ht : (opnT [] ++ plnT 7 lc o xs) = [102, 101, 110, 99, 101, 40] ++ (ordT o) ++ [41] := by simp [opnT, plnT, hdT]
  rw [ht] at hb ⊢
  try simp only [List.length_append, List.length_cons, List.length_nil] at hb
  obtain ⟨O, hO, p1, -⟩ := fams (P := Tryz.prog) (gl := rgl) [famOrdR] rfl
  have q1 : ∀ H, acall Tryz.prog O H 23 [.int .i64 o] = some (.str (ordT o), H) := p1 o trivial
  clear p1 ht
  generalize ordT o = od at *
  simp only [St.cells, exA] at *
  refine fn_val follows noNum hO Tryz.func87 rfl ?_
  repeat' ((conv => whnf); first | (with_reducible refine exI (q1 _) ?_) | (refine And.intro (show List.length _ + List.length _ ≤ 9223372036854775807 from ?_) ?_; (focus ((try simp only [List.length_append, List.length_cons, List.length_nil] at *); omega))) | (first | refine stp ?_ | with_reducible refine condB (fun h => ?_) (fun h => ?_)))
  all_goals rfl
theorem pln_k8 {lc : List UInt8} {o : Int} {e : Ex} {th el : List St} (g : goodX e) (hb : (opnT [] ++ plnT 8 lc o [e]).length ≤ 1073741824) : ValOK Tryz.prog rgl 87 [.agg (St.cells (.mk 8 [] lc o [e] th el : St))] (.str (opnT [] ++ plnT 8 lc o [e])) := by
  have ht : (opnT [] ++ plnT 8 lc o [e]) = [97, 115, 115, 117, 109, 101, 40] ++ (wrE e) ++ [41] := by simp [opnT, plnT, hdT]
  rw [ht] at hb ⊢
  try simp only [List.length_append, List.length_cons, List.length_nil] at hb
  obtain ⟨O, hO, p1, -⟩ := fams (P := Tryz.prog) (gl := rgl) [famWr] rfl
  have q1 : ∀ H, acall Tryz.prog O H 58 [.agg e.cells] = some (.str (wrE e), H) := p1 e ⟨g, by omega⟩
  have hx := ex4 [e] 0 (by simp)
  simp only [List.getElem_cons_zero] at hx
  clear p1 g ht
  generalize wrE e = w at *
  simp only [St.cells, exA]
  generalize exC [e] = ks at *
  obtain ⟨eo, en, es_, ek⟩ := e
  simp only [Ex.cells] at *
  refine fn_val follows noNum hO Tryz.func87 rfl ?_
  repeat' ((conv => whnf); first | (refine exI hx ?_) | (with_reducible refine exI (q1 _) ?_) | (refine And.intro (show List.length _ + List.length _ ≤ 9223372036854775807 from ?_) ?_; (focus ((try simp only [List.length_append, List.length_cons, List.length_nil] at *); omega))) | (first | refine stp ?_ | with_reducible refine condB (fun h => ?_) (fun h => ?_)))
  all_goals rfl
theorem pln_k9 {lc : List UInt8} {o : Int} {e : Ex} {th el : List St} (g : goodX e) (hb : (opnT [] ++ plnT 9 lc o [e]).length ≤ 1073741824) : ValOK Tryz.prog rgl 87 [.agg (St.cells (.mk 9 [] lc o [e] th el : St))] (.str (opnT [] ++ plnT 9 lc o [e])) := by
  have ht : (opnT [] ++ plnT 9 lc o [e]) = [97, 115, 115, 101, 114, 116, 40] ++ (wrE e) ++ [41] := by simp [opnT, plnT, hdT]
  rw [ht] at hb ⊢
  try simp only [List.length_append, List.length_cons, List.length_nil] at hb
  obtain ⟨O, hO, p1, -⟩ := fams (P := Tryz.prog) (gl := rgl) [famWr] rfl
  have q1 : ∀ H, acall Tryz.prog O H 58 [.agg e.cells] = some (.str (wrE e), H) := p1 e ⟨g, by omega⟩
  have hx := ex4 [e] 0 (by simp)
  simp only [List.getElem_cons_zero] at hx
  clear p1 g ht
  generalize wrE e = w at *
  simp only [St.cells, exA]
  generalize exC [e] = ks at *
  obtain ⟨eo, en, es_, ek⟩ := e
  simp only [Ex.cells] at *
  refine fn_val follows noNum hO Tryz.func87 rfl ?_
  repeat' ((conv => whnf); first | (refine exI hx ?_) | (with_reducible refine exI (q1 _) ?_) | (refine And.intro (show List.length _ + List.length _ ≤ 9223372036854775807 from ?_) ?_; (focus ((try simp only [List.length_append, List.length_cons, List.length_nil] at *); omega))) | (first | refine stp ?_ | with_reducible refine condB (fun h => ?_) (fun h => ?_)))
  all_goals rfl
end Go.Proofs.YtkkfcfjhhdmamaaGreatDoor.lex
end


section

set_option linter.unusedVariables false
set_option linter.unusedSimpArgs false
namespace Go.Proofs.YtkkfcfjhhdmamaaGreatDoor.lex
open Go.Abs Go.RowKit
set_option maxRecDepth 100000
set_option maxHeartbeats 4000000
theorem spc_succ (i : Nat) : spc (i + 1) = spc i ++ [32, 32] := by
  unfold spc
  rw [show 2 * (i + 1) = 2 * i + 2 by omega, ← List.replicate_append_replicate]; rfl
theorem stT_plain {k : Int} {n lc : List UInt8} {o : Int} {xs : List Ex} {t e : List St} (h1 : k ≠ 10) (h2 : k ≠ 11) (i : Nat) : stT (.mk k n lc o xs t e) i = (opnT n ++ plnT k lc o xs) ++ [59] := by
  simp only [stT]
  rw [if_neg h1, if_neg h2, List.append_assoc]
theorem plain_ok {k : Int} {nm lc : List UInt8} {o : Int} {xs : List Ex} {th el : List St} (hr : rightS (.mk k nm lc o xs th el) = true) (hg : rgL xs) (hl : xs.length ≤ 9223372036854775807) (h1 : k ≠ 10) (h2 : k ≠ 11) (hb : (opnT nm ++ plnT k lc o xs).length ≤ 1073741824) :
    ValOK Tryz.prog rgl 87 [.agg (St.cells (.mk k nm lc o xs th el))] (.str (opnT nm ++ plnT k lc o xs)) := by
  obtain ⟨f1, f2, f3, f4, f5, f6, f7, f8, f9⟩ := rightS_facts hr
  have gx : ∀ e ∈ xs, goodX e := fun e he => ⟨right_mem f7 e he, rgL_get hg e he⟩
  have one : xs.length = 1 → ∃ e, xs = [e] ∧ goodX e := fun hl => by
    match xs, hl, gx with
    | [e], _, gx => exact ⟨e, rfl, gx e (by simp)⟩
  have hk : k = 1 ∨ k = 2 ∨ k = 3 ∨ k = 4 ∨ k = 5 ∨ k = 6 ∨ k = 7 ∨ k = 8 ∨ k = 9 := by omega
  clear f1 f5 f6 f7 f8 f9 hr hg h1 h2
  rcases hk with rfl | rfl | rfl | rfl | rfl | rfl | rfl | rfl | rfl
  · obtain ⟨e', rfl, ge⟩ := one f4
    exact pln_k1 (f2 rfl) ge hb
  · exact pln_k2 (f2 rfl) gx hl hb
  · obtain rfl := f3 rfl
    exact pln_k3 gx hl hb
  · exact pln_k4 (f2 rfl) gx hl hb
  · exact pln_k5 (f2 rfl) gx hl hb
  · exact pln_k6 (f2 rfl) gx hl hb
  · obtain rfl := f3 rfl
    exact pln_k7 hb
  · obtain rfl := f3 rfl
    obtain ⟨e', rfl, ge⟩ := one f4
    exact pln_k8 ge hb
  · obtain rfl := f3 rfl
    obtain ⟨e', rfl, ge⟩ := one f4
    exact pln_k9 ge hb
def famPl : Fam Tryz.prog rgl := { I := St, f := 87, G := (fun x => rightS x = true ∧ rgL x.exprs ∧ x.exprs.length ≤ 9223372036854775807 ∧ (x.kind ≠ 10 ∧ x.kind ≠ 11) ∧ (opnT x.name ++ plnT x.kind x.loc x.order x.exprs).length ≤ 1073741824), A := (fun x => [.agg x.cells]), R := (fun x => .str (opnT x.name ++ plnT x.kind x.loc x.order x.exprs)), body := (by kernel_rfl), inj := (fun x y _ _ h => by have := scells_inj x y (by simpa using h); rw [this]), ok := (fun x g => ⟨by obtain ⟨k, n, l, o, xs, t, e⟩ := x; rfl, by obtain ⟨k, n, l, o, xs, t, e⟩ := x; exact plain_ok g.1 g.2.1 g.2.2.1 g.2.2.2.1.1 g.2.2.2.1.2 g.2.2.2.2⟩) }
def LnOK (l : List St) (i : Nat) : Prop := ValOK Tryz.prog rgl 56 [stA l, .str (spc i)] (.str (lnT l i))
theorem lines_okN : ∀ (n : Nat) (l : List St) (i : Nat), sizeSL l ≤ n → rightSL l = true → rgSL l → okSL l → l.length ≤ 9223372036854775807 → (lnT l i).length ≤ 1073741824 → LnOK l i
  | n, l, i, h, hr, hg, hok, hle, hl => by
    obtain ⟨O, hO, p1, p2, p3, -⟩ := fams (P := Tryz.prog) (gl := rgl) [famWr, famPl,
      { I := List St, f := 56, G := (fun x => sizeSL x < n ∧ rightSL x = true ∧ rgSL x ∧ okSL x ∧ x.length ≤ 9223372036854775807 ∧ (lnT x (i + 1)).length ≤ 1073741824), A := (fun x => [stA x, .str (spc (i + 1))]), R := (fun x => .str (lnT x (i + 1))), body := (by kernel_rfl), inj := (fun x y _ _ h => by simp only [List.cons.injEq, and_true] at h; rw [stA_inj h]), ok := (fun x g => ⟨rfl, match n, g with | n + 1, g => lines_okN n x (i + 1) (by omega) g.2.1 g.2.2.1 g.2.2.2.1 g.2.2.2.2.1 g.2.2.2.2.2⟩) }] rfl
    have q1 : ∀ e, goodX e ∧ (wrE e).length ≤ 1073741824 → ∀ H, acall Tryz.prog O H 58 [.agg e.cells] = some (.str (wrE e), H) := p1
    have q2 : ∀ x : St, _ → ∀ H, acall Tryz.prog O H 87 [.agg x.cells] = some (.str (opnT x.name ++ plnT x.kind x.loc x.order x.exprs), H) := p2
    have q3 : ∀ x : List St, sizeSL x < n ∧ rightSL x = true ∧ rgSL x ∧ okSL x ∧ x.length ≤ 9223372036854775807 ∧ (lnT x (i + 1)).length ≤ 1073741824 → ∀ H, acall Tryz.prog O H 56 [stA x, .str (spc (i + 1))] = some (.str (lnT x (i + 1)), H) := p3
    rw [spc_succ] at q3
    clear p1 p2 p3
    unfold LnOK
    generalize hsp : spc i = sp at *
    obtain ⟨tot, htot⟩ : ∃ tot, lnT l i = tot := ⟨_, rfl⟩
    rw [htot] at hl ⊢
    simp only [stA] at q3 ⊢
    refine fn_val follows noNum hO Tryz.func56 rfl ?_
    repeat' ((conv => whnf); first | refine stp ?_ | with_reducible refine condB (fun h => ?_) (fun h => ?_))
    conv => whnf
    refine ⟨Nat × List UInt8, (fun p => p.1 ≤ l.length ∧ p.2 ++ lnT (l.drop p.1) i = tot), (fun p => [(0, .rs l.length 7 (stC l)), (1, .str sp), (5, .str p.2), (6, .int .i64 p.1)]), (fun _ => []), (fun p => l.length - p.1), ⟨(0, []), ⟨Nat.zero_le _, by rw [← htot]; simp⟩, FgL.mk [] rfl ?_ trivial rfl⟩, ?_⟩
    · refine And.intro (Wk.noref rfl) ?_
      refine And.intro (Wk.noref rfl) ?_
      refine And.intro (Wk.noref rfl) ?_
      exact ⟨Wk.int rfl, trivial⟩
    rintro ⟨j, acc⟩ ⟨h1, h3⟩
    dsimp only at h1 h3
    dsimp only
    clear htot
    have htl := congrArg List.length h3
    by_cases hlt : j < l.length
    · have c1 : decide ((j : Int) < (l.length : Int)) = true := by simpa using hlt
      have hx := st7 l j hlt
      have g1 := rightS_mem hr l[j] (get_mem hlt)
      have g2 := rgSL_get hg l[j] (get_mem hlt)
      have g3 := okSL_get hok l[j] (get_mem hlt)
      have g4 := sizeSL_mem l l[j] (get_mem hlt)
      have g5 : sizeS l[j] ≤ n := by omega
      rw [List.drop_eq_getElem_cons hlt, lnT_cons, hsp] at h3 htl
      generalize l[j] = x at *
      clear hr hg hok h g4
      obtain ⟨k, nm, lc, o, xs, th, el⟩ := x
      obtain ⟨f1, f2, f3, f4, f5, f6, f7, f8, f9⟩ := rightS_facts g1
      simp only [rgS] at g2
      obtain ⟨r1, r2, r3⟩ := g2
      obtain ⟨k1, k2, k3, k4, k5, k6, k7, k8⟩ := okS_parts g3
      simp only [St.name, St.loc, St.exprs, St.thn, St.els] at k1 k2 k3 k4 k5 k6 k7 k8
      simp only [sizeS] at g5
      by_cases e10 : k = 10
      · subst e10
        obtain rfl := f3 rfl
        obtain ⟨e, rfl, ge⟩ : ∃ e, xs = [e] ∧ goodX e := by
          match xs, f4, f7, r1 with
          | [e], _, f7, r1 => exact ⟨e, rfl, right_mem f7 e (by simp), rgL_get r1 e (by simp)⟩
        have hst : stT (.mk 10 [] lc o [e] th el : St) i = [105, 102, 32, 40] ++ (wrE e ++ ([41, 32] ++ ((123 :: 10 :: (lnT th (i + 1) ++ (sp ++ [125]))) ++ (if el.length = 0 then [] else [32, 101, 108, 115, 101, 32] ++ (123 :: 10 :: (lnT el (i + 1) ++ (sp ++ [125]))))))) := by
          simp [stT, opnT, hdT, hsp]
        rw [hst] at h3 htl
        simp only [List.length_append, List.length_cons, List.length_nil] at htl
        have q1 := q1 e ⟨ge, by omega⟩
        have qt := q3 th ⟨by omega, f8, r2, k7, k4, by omega⟩
        by_cases hel : el.length = 0
        · have c3 : decide ((el.length : Int) > 0) = false := by simp only [gt_iff_lt, decide_eq_false_iff_not]; omega
          rw [if_pos hel] at h3 htl
          clear q2 q3 ge hst f1 f2 f3 f4 f5 f6 f7 f8 f9 r1 r2 r3 k1 k2 k3 k4 k5 k6 k7 k8 g1 g3 g5
          generalize lnT th (i + 1) = LT at *
          generalize wrE e = w at *
          have hy := ex4 [e] 0 (by simp)
          simp only [List.getElem_cons_zero] at hy
          simp only [St.cells, exA, stA] at *
          generalize exC [e] = ks at *
          obtain ⟨eo, en, es_, ek⟩ := e
          simp only [Ex.cells] at *
          repeat' ((conv => whnf); first | (refine exI hx ?_) | (refine exI hy ?_) | (with_reducible refine exI (q1 _) ?_) | (with_reducible refine exI (qt _) ?_) | (refine And.intro (show List.length _ + List.length _ ≤ 9223372036854775807 from ?_) ?_; (focus ((try simp only [List.length_append, List.length_cons, List.length_nil] at *); omega))) | (with_reducible refine ixJ j rfl ?_ ?_; (focus (omega))) | (first | refine stp ?_ | with_reducible refine condB (fun h => ?_) (fun h => ?_)))
          conv => whnf
          refine ⟨(j + 1, acc ++ sp ++ [105, 102, 32, 40] ++ w ++ [41, 32, 123, 10] ++ LT ++ sp ++ [125] ++ [10]), ⟨hlt, by rw [← h3]; simp⟩, by show l.length - (j + 1) < l.length - j; omega, FgL.mk [] rfl ?_ trivial rfl⟩
          refine And.intro (Wk.noref rfl) ?_
          refine And.intro (Wk.noref rfl) ?_
          refine And.intro (Wk.noref rfl) ?_
          exact ⟨Wk.int rfl, trivial⟩
        · have c3 : decide ((el.length : Int) > 0) = true := by simp only [gt_iff_lt, decide_eq_true_eq]; omega
          rw [if_neg hel] at h3 htl
          simp only [List.length_append, List.length_cons, List.length_nil] at htl
          have qe := q3 el ⟨by omega, f9, r3, k8, k5, by omega⟩
          clear q2 q3 ge hst f1 f2 f3 f4 f5 f6 f7 f8 f9 r1 r2 r3 k1 k2 k3 k4 k5 k6 k7 k8 g1 g3 g5
          generalize lnT th (i + 1) = LT at *
          generalize lnT el (i + 1) = LE at *
          generalize wrE e = w at *
          have hy := ex4 [e] 0 (by simp)
          simp only [List.getElem_cons_zero] at hy
          simp only [St.cells, exA, stA] at *
          generalize exC [e] = ks at *
          obtain ⟨eo, en, es_, ek⟩ := e
          simp only [Ex.cells] at *
          repeat' ((conv => whnf); first | (refine exI hx ?_) | (refine exI hy ?_) | (with_reducible refine exI (q1 _) ?_) | (with_reducible refine exI (qt _) ?_) | (with_reducible refine exI (qe _) ?_) | (refine And.intro (show List.length _ + List.length _ ≤ 9223372036854775807 from ?_) ?_; (focus ((try simp only [List.length_append, List.length_cons, List.length_nil] at *); omega))) | (with_reducible refine ixJ j rfl ?_ ?_; (focus (omega))) | (first | refine stp ?_ | with_reducible refine condB (fun h => ?_) (fun h => ?_)))
          conv => whnf
          refine ⟨(j + 1, acc ++ sp ++ [105, 102, 32, 40] ++ w ++ [41, 32, 123, 10] ++ LT ++ sp ++ [125] ++ [32, 101, 108, 115, 101, 32, 123, 10] ++ LE ++ sp ++ [125] ++ [10]), ⟨hlt, by rw [← h3]; simp⟩, by show l.length - (j + 1) < l.length - j; omega, FgL.mk [] rfl ?_ trivial rfl⟩
          refine And.intro (Wk.noref rfl) ?_
          refine And.intro (Wk.noref rfl) ?_
          refine And.intro (Wk.noref rfl) ?_
          exact ⟨Wk.int rfl, trivial⟩
      have b10 : (k == 10) = false := by simpa using e10
      by_cases e11 : k = 11
      · subst e11
        obtain rfl := f3 rfl
        obtain ⟨e, rfl, ge⟩ : ∃ e, xs = [e] ∧ goodX e := by
          match xs, f4, f7, r1 with
          | [e], _, f7, r1 => exact ⟨e, rfl, right_mem f7 e (by simp), rgL_get r1 e (by simp)⟩
        have hst : stT (.mk 11 [] lc o [e] th el : St) i = [119, 104, 105, 108, 101, 32, 40] ++ (wrE e ++ ([41, 32] ++ (123 :: 10 :: (lnT th (i + 1) ++ (sp ++ [125]))))) := by
          simp [stT, opnT, hdT, hsp]
        rw [hst] at h3 htl
        simp only [List.length_append, List.length_cons, List.length_nil] at htl
        have q1 := q1 e ⟨ge, by omega⟩
        have qt := q3 th ⟨by omega, f8, r2, k7, k4, by omega⟩
        clear q2 q3 ge hst f1 f2 f3 f4 f5 f6 f7 f8 f9 r1 r2 r3 k1 k2 k3 k4 k5 k6 k7 k8 g1 g3 g5
        generalize lnT th (i + 1) = LT at *
        generalize wrE e = w at *
        have hy := ex4 [e] 0 (by simp)
        simp only [List.getElem_cons_zero] at hy
        simp only [St.cells, exA, stA] at *
        generalize exC [e] = ks at *
        obtain ⟨eo, en, es_, ek⟩ := e
        simp only [Ex.cells] at *
        repeat' ((conv => whnf); first | (refine exI hx ?_) | (refine exI hy ?_) | (with_reducible refine exI (q1 _) ?_) | (with_reducible refine exI (qt _) ?_) | (refine And.intro (show List.length _ + List.length _ ≤ 9223372036854775807 from ?_) ?_; (focus ((try simp only [List.length_append, List.length_cons, List.length_nil] at *); omega))) | (with_reducible refine ixJ j rfl ?_ ?_; (focus (omega))) | (first | refine stp ?_ | with_reducible refine condB (fun h => ?_) (fun h => ?_)))
        conv => whnf
        refine ⟨(j + 1, acc ++ sp ++ [119, 104, 105, 108, 101, 32, 40] ++ w ++ [41, 32, 123, 10] ++ LT ++ sp ++ [125, 10]), ⟨hlt, by rw [← h3]; simp⟩, by show l.length - (j + 1) < l.length - j; omega, FgL.mk [] rfl ?_ trivial rfl⟩
        refine And.intro (Wk.noref rfl) ?_
        refine And.intro (Wk.noref rfl) ?_
        refine And.intro (Wk.noref rfl) ?_
        exact ⟨Wk.int rfl, trivial⟩
      have b11 : (k == 11) = false := by simpa using e11
      rw [stT_plain e10 e11] at h3 htl
      have qp := q2 (.mk k nm lc o xs th el : St) ⟨g1, r1, k3, ⟨e10, e11⟩, by simp only [St.name, St.kind, St.loc, St.order, St.exprs]; simp only [List.length_append, List.length_cons, List.length_nil] at htl ⊢; omega⟩
      simp only [St.name, St.kind, St.loc, St.order, St.exprs] at qp
      clear q1 q2 q3 f1 f2 f3 f4 f5 f6 f7 f8 f9 r1 r2 r3 k1 k2 k3 k4 k5 k6 k7 k8 g1 g3 g5 e10 e11
      generalize opnT nm ++ plnT k lc o xs = w at *
      simp only [List.length_append, List.length_cons, List.length_nil] at htl
      simp only [St.cells, exA, stA] at *
      repeat' ((conv => whnf); first | (refine exI hx ?_) | (refine exI hy ?_) | (with_reducible refine exI (qp _) ?_) | (refine And.intro (show List.length _ + List.length _ ≤ 9223372036854775807 from ?_) ?_; (focus ((try simp only [List.length_append, List.length_cons, List.length_nil] at *); omega))) | (with_reducible refine ixJ j rfl ?_ ?_; (focus (omega))) | (first | refine stp ?_ | with_reducible refine condB (fun h => ?_) (fun h => ?_)))
      conv => whnf
      refine ⟨(j + 1, acc ++ sp ++ w ++ [59, 10]), ⟨hlt, by rw [← h3]; simp⟩, by show l.length - (j + 1) < l.length - j; omega, FgL.mk [] rfl ?_ trivial rfl⟩
      refine And.intro (Wk.noref rfl) ?_
      refine And.intro (Wk.noref rfl) ?_
      refine And.intro (Wk.noref rfl) ?_
      exact ⟨Wk.int rfl, trivial⟩
    · have c1 : decide ((j : Int) < (l.length : Int)) = false := by simpa using hlt
      have hi2 : j = l.length := by omega
      subst hi2
      rw [List.drop_length] at h3 htl
      simp only [lnT, List.append_nil] at h3 htl
      rw [← h3]
      repeat' ((conv => whnf); first | (first | refine stp ?_ | with_reducible refine condB (fun h => ?_) (fun h => ?_)))
      all_goals rfl
end Go.Proofs.YtkkfcfjhhdmamaaGreatDoor.lex
end


section

set_option linter.unusedVariables false
set_option linter.unusedSimpArgs false
namespace Go.Proofs.YtkkfcfjhhdmamaaGreatDoor.lex
open Go.Abs Go.RowKit
set_option maxRecDepth 100000
set_option maxHeartbeats 4000000
def chC (ds : List Dc) (ts : List (List St)) (n : Nat) (g : Bool) : AHeap := [⟨true, 0, 0, .cells [.rs ds.length 3 (dcC ds), .rs ts.length 1 (ts.map stA)] 25⟩, ⟨true, 1, 0, .cells [.int .i64 n] 3⟩, ⟨true, 2, 0, .cells [.bool g] 4⟩, ⟨true, 3, 0, .cells [.func (.func 93) [] [.ptr 1 0]] 102⟩]
theorem ck_call (ds : List Dc) (ts : List (List St)) (hok : okTL ts) (hl : ts.length ≤ 9223372036854775807) :
    MemOK Tryz.prog runLives.gl 64 [.agg [.rs ds.length 3 (dcC ds), .rs ts.length 1 (ts.map stA)], .func (.func 65) [] [.ptr 3 0, .ptr 2 0]] (chC ds ts 0 true) (.tuple []) (chC ds ts (cT ts 0).2 (cT ts 0).1) := by
  have hM := nodes_ck ts ds.length (dcC ds) hok hl
  have h := mem_frame (m := [1, 2, 3]) (n := 4) (Hc := chC ds ts 0 true) (cargs := [.agg [.rs ds.length 3 (dcC ds), .rs ts.length 1 (ts.map stA)], .func (.func 65) [] [.ptr 3 0, .ptr 2 0]]) hM ?_ ?_ rfl rfl rfl rfl rfl rfl
  · exact h
  · rfl
  · exact ⟨⟨rfl, rfl, rfl, rfl, BodyGe.pre (rest := []) rfl rfl⟩, ⟨rfl, rfl, rfl, rfl, BodyGe.pre (rest := []) rfl rfl⟩, ⟨rfl, rfl, rfl, rfl, BodyGe.cellsL ⟨Wk.func trivial ⟨Wk.ptr rfl rfl, trivial⟩, trivial⟩⟩, trivial⟩
theorem ck_says (ts : List (List St)) : (cT ts 0).1 = true ↔ ¬ (2000 < sizeTL ts ∨ 32 < deepTL ts) := by
  rw [(cT_cnt ts 0 (by decide)).1]; omega
theorem checkPX_ok (p : Pr) (hok : okP p) (hs : sizeTL p.threads ≤ 1000000) : ValOK Tryz.prog runLives.gl 32 [p.av] (.int .i64 (checkP p)) := by
  obtain ⟨⟨hd1, hd2⟩, ht1, ht2⟩ := hok
  obtain ⟨ds, ts⟩ := p
  have hsay := ck_says ts
  simp only [Pr.av, checkP] at *
  obtain ⟨O, hO, ⟨p1, -⟩, ⟨p2, p3, -⟩⟩ := famsM (P := Tryz.prog) (gl := runLives.gl) [{ I := Unit, f := 64, G := (fun _ => True), A := (fun _ => [.agg [.rs ds.length 3 (dcC ds), .rs ts.length 1 (ts.map stA)], .func (.func 65) [] [.ptr 3 0, .ptr 2 0]]), H := (fun _ => chC ds ts 0 true), R := (fun _ => .tuple []), O := (fun _ => chC ds ts (cT ts 0).2 (cT ts 0).1), body := (by kernel_rfl), inj := (fun _ _ _ _ _ _ => ⟨rfl, rfl⟩), ok := (fun _ _ => ck_call ds ts ht1 ht2) }]
    [{ I := List St, f := 67, G := (fun x => x ∈ ts), A := (fun x => [stA x, .int .i64 1, .func (.func 68) [] [], .func (.func 69) [] []]), R := (fun x => .bool (rightSL x)), body := (by kernel_rfl), inj := (fun i j _ _ h => by simp only [List.cons.injEq, and_true] at h; rw [stA_inj h]), ok := (fun x hx => ⟨rfl, stmts_r x 1 (okTL_get ht1 _ hx).1 (okTL_get ht1 _ hx).2 (by decide) (by have := sizeTL_mem _ _ hx; omega)⟩) },
     { I := List UInt8, f := 66, G := (fun s => s.length ≤ 9223372036854775807), A := (fun s => [.str s, .bool true]), R := (fun s => .bool (wordB s)), body := (by kernel_rfl), inj := (fun i j _ _ h => by simp only [List.cons.injEq, AV.str.injEq, and_true] at h; rw [h]), ok := (fun s hs => ⟨rfl, isWord_ok s hs true⟩) }] rfl
  have q1 : acall Tryz.prog O (chC ds ts 0 true) 64 [.agg [.rs ds.length 3 (dcC ds), .rs ts.length 1 (ts.map stA)], .func (.func 65) [] [.ptr 3 0, .ptr 2 0]] = some (.tuple [], chC ds ts (cT ts 0).2 (cT ts 0).1) := p1 () trivial
  have q2 : ∀ x ∈ ts, ∀ H, acall Tryz.prog O H 67 [stA x, .int .i64 1, .func (.func 68) [] [], .func (.func 69) [] []] = some (.bool (rightSL x), H) := p2
  have q3 : ∀ s, s.length ≤ 9223372036854775807 → ∀ H, acall Tryz.prog O H 66 [.str s, .bool true] = some (.bool (wordB s), H) := p3
  clear p1 p2 p3
  generalize (cT ts 0).2 = n at *
  generalize (cT ts 0).1 = b at *
  refine fn_valI (fun g => Nat.beq g 64 || (Nat.beq g 67 || Nat.beq g 66)) 1 follows noNum hO Tryz.func32 rfl ?_
  cases b with
  | false =>
    rw [if_pos (Classical.not_not.1 fun h => by have := hsay.2 h; cases this)]
    repeat' ((conv => whnf); first | (refine exI q1 ?_) | (first | refine stp ?_ | with_reducible refine condB (fun h => ?_) (fun h => ?_)))
    all_goals (conv => whnf)
    all_goals rfl
  | true =>
    rw [if_neg (hsay.1 rfl)]
    repeat' ((conv => whnf); first | (refine exI q1 ?_) | (first | refine stp ?_ | with_reducible refine condB (fun h => ?_) (fun h => ?_)))
    conv => whnf
    refine ⟨Nat, (fun i => i ≤ ds.length ∧ (ds.take i).all dcB = true), (fun i => [(1, .ptr 0 0), (16, .rs ds.length 3 (dcC ds)), (17, .int .i64 ds.length), (18, .int .i64 i)]), (fun _ => [⟨true, 0, 0, .cells [.rs ds.length 3 (dcC ds), .rs ts.length 1 (ts.map stA)] 25⟩]), (fun i => ds.length - i), ⟨0, ⟨Nat.zero_le _, rfl⟩, FgL.mk [0] rfl ?_ ⟨⟨rfl, rfl, rfl, rfl, BodyGe.pre (rest := []) rfl rfl⟩, trivial⟩ rfl⟩, ?_⟩
    · (repeat (first | exact trivial | refine stw ?_))
    rintro i ⟨hi, hall⟩
    dsimp only
    by_cases hlt : i < ds.length
    · have e1 : decide ((i : Int) < (ds.length : Int)) = true := by simpa using hlt
      have hat := all_take dcB ds i hlt
      rw [hall, Bool.true_and] at hat
      have hfalse : dcB ds[i] = false → ds.all dcB = false := all_get dcB hlt
      have hx3 := dc3 ds i hlt
      have qn := q3 ds[i].name (hd2 _ (get_mem hlt))
      generalize hd : ds[i] = d at *
      obtain ⟨nm, pl, vl⟩ := d
      simp only [dcB, Dc.cells] at hat hfalse hx3 qn
      generalize wordB nm = w at *
      by_cases hv : 0 ≤ vl
      · have e3 : decide (vl < 0) = false := by simpa using hv
        rw [show decide (0 ≤ vl) = true from by simpa using hv, Bool.and_true] at hat hfalse
        cases w with
        | true =>
          repeat' ((conv => whnf); first | (with_reducible refine exI (qn _) ?_) | (with_reducible refine ixJ i rfl ?_ ?_; (focus (omega))) | (refine exI hx3 ?_) | (first | refine stp ?_ | with_reducible refine condB (fun h => ?_) (fun h => ?_)))
          conv => whnf
          refine ⟨i + 1, ⟨hlt, hat⟩, by show ds.length - (i + 1) < ds.length - i; omega, FgL.mk [0] rfl ?_ ⟨⟨rfl, rfl, rfl, rfl, BodyGe.pre (rest := []) rfl rfl⟩, trivial⟩ rfl⟩
          (repeat (first | exact trivial | refine stw ?_))
        | false =>
          rw [hfalse rfl]
          repeat' ((conv => whnf); first | (with_reducible refine exI (qn _) ?_) | (with_reducible refine ixJ i rfl ?_ ?_; (focus (omega))) | (refine exI hx3 ?_) | (first | refine stp ?_ | with_reducible refine condB (fun h => ?_) (fun h => ?_)))
          all_goals rfl
      · have e3 : decide (vl < 0) = true := by simp only [decide_eq_true_eq]; omega
        rw [show decide (0 ≤ vl) = false from by simpa using hv, Bool.and_false] at hat hfalse
        rw [hfalse rfl]
        cases w
        all_goals (repeat' ((conv => whnf); first | (with_reducible refine exI (qn _) ?_) | (with_reducible refine ixJ i rfl ?_ ?_; (focus (omega))) | (refine exI hx3 ?_) | (first | refine stp ?_ | with_reducible refine condB (fun h => ?_) (fun h => ?_))))
        all_goals rfl
    · have e1 : decide ((i : Int) < (ds.length : Int)) = false := by simpa using hlt
      have hi2 : i = ds.length := by have := hi; omega
      subst hi2
      rw [List.take_length] at hall
      rw [hall, Bool.true_and]
      repeat' ((conv => whnf); first | refine stp ?_ | with_reducible refine condB (fun h => ?_) (fun h => ?_))
      conv => whnf
      refine ⟨Nat, (fun i => i ≤ ts.length ∧ rightTL (ts.take i) = true), (fun i => [(33, .rs ts.length 1 (ts.map stA)), (34, .int .i64 ts.length), (35, .int .i64 i)]), (fun _ => []), (fun i => ts.length - i), ⟨0, ⟨Nat.zero_le _, rfl⟩, FgL.mk0 rfl ?_⟩, ?_⟩
      · (repeat (first | exact trivial | refine stw ?_))
      rintro i ⟨hi, hrl⟩
      dsimp only
      by_cases hlt : i < ts.length
      · have e1 : decide ((i : Int) < (ts.length : Int)) = true := by simpa using hlt
        have hat := rightTL_take ts i hlt
        rw [hrl, Bool.true_and] at hat
        have hfalse : rightSL ts[i] = false → rightTL ts = false := rightTL_get hlt
        have hx := th1 ts i hlt
        have qr := q2 ts[i] (get_mem hlt)
        generalize ts[i] = l at *
        simp only [stA] at hx qr
        cases hr : rightSL l with
        | true =>
          rw [hr] at hat qr
          repeat' ((conv => whnf); first | (with_reducible refine exI (qr _) ?_) | (with_reducible refine ixJ i rfl ?_ ?_; (focus (omega))) | (refine exI hx ?_) | (refine exI (qr _) ?_) | (first | refine stp ?_ | with_reducible refine condB (fun h => ?_) (fun h => ?_)))
          conv => whnf
          refine ⟨i + 1, ⟨hlt, hat⟩, by show ts.length - (i + 1) < ts.length - i; omega, FgL.mk0 rfl ?_⟩
          (repeat (first | exact trivial | refine stw ?_))
        | false =>
          rw [hr] at qr
          rw [hfalse hr]
          repeat' ((conv => whnf); first | (with_reducible refine exI (qr _) ?_) | (with_reducible refine ixJ i rfl ?_ ?_; (focus (omega))) | (refine exI hx ?_) | (refine exI (qr _) ?_) | (first | refine stp ?_ | with_reducible refine condB (fun h => ?_) (fun h => ?_)))
          all_goals rfl
      · have e1 : decide ((i : Int) < (ts.length : Int)) = false := by simpa using hlt
        have hi2 : i = ts.length := by have := hi; omega
        subst hi2
        rw [List.take_length] at hrl
        rw [hrl]
        repeat' ((conv => whnf); first | refine stp ?_ | with_reducible refine condB (fun h => ?_) (fun h => ?_))
        all_goals rfl
end Go.Proofs.YtkkfcfjhhdmamaaGreatDoor.lex
end


section

set_option linter.unusedVariables false
set_option linter.unusedSimpArgs false
namespace Go.Proofs.YtkkfcfjhhdmamaaGreatDoor.lex
open Go.Abs Go.RowKit
set_option maxRecDepth 100000
set_option maxHeartbeats 4000000
open Classical in
theorem fz_add {P : Program} {gl : Glob} {O : Orc} (hO : OrcSound P gl O) {f0 : Nat} {A0 : List AV} {r0 : AV} (hr : plain r0 = true) (hv : ValOK P gl f0 A0 r0) (hb : hasBody P f0 = true) : ∃ O', OrcSound P gl O' ∧ (∀ H args, frzL (frz H 30) args = some A0 → acall P O' H f0 args = some (r0, H)) ∧
    ∀ g, g ≠ f0 → ∀ args H, acall P O' H g args = acall P O H g args := by
  have hz : OrcSound P gl (orcZ fun f args => if f = f0 ∧ args = A0 then some r0 else none) := orcZ_sound fun f args r h => by
    split at h
    · rename_i e
      obtain ⟨rfl, rfl⟩ := e
      cases h
      exact ⟨hr, hv⟩
    · cases h
  refine ⟨orcOr (orcZ fun f args => if f = f0 ∧ args = A0 then some r0 else none) O, orcOr_sound hz hO, fun H args ha => callOr1 hb (callZ hb ha (if_pos ⟨rfl, rfl⟩)), fun g hg args H => ?_⟩
  unfold acall
  have : orcOr (orcZ fun f args => if f = f0 ∧ args = A0 then some r0 else none) O g args H = O g args H := by
    unfold orcOr orcZ
    cases frzL (frz H 30) args with
    | none => rfl
    | some fa => simp only; rw [if_neg (fun h => hg h.1)]
  rw [this]
theorem ask_mono {P : Program} {gl : Glob} {O O' : Orc} {f0 : Nat} {F : FamM P gl} (h : F.Ask O) (he : ∀ g, g ≠ f0 → ∀ args H, acall P O' H g args = acall P O H g args) (hf : F.f ≠ f0) : F.Ask O' := fun i hi => (he _ hf _ _).trans (h i hi)
def soloP (x : St) : Pr := ⟨[], [[x]]⟩
theorem soloP_ok {x : St} (h : okS x) : okP (soloP x) := by
  refine ⟨⟨by simp [soloP], by simp [soloP]⟩, ?_, by simp [soloP]⟩
  simp only [soloP, okTL, okSL]
  exact ⟨⟨h, trivial⟩, by simp, trivial⟩
theorem solo_size (x : St) : sizeTL (soloP x).threads = sizeS x := by simp only [soloP, sizeTL, sizeSL]; omega
theorem solo_deep (x : St) : deepTL (soloP x).threads = deepS x := by simp only [soloP, deepTL, deepSL]; omega
theorem checkP_good {p : Pr} (h : checkP p = 0) : sizeTL p.threads ≤ 2000 ∧ deepTL p.threads ≤ 32 ∧ p.decls.all dcB = true ∧ rightTL p.threads = true := by
  unfold checkP at h
  split at h
  · cases h
  · rename_i h1
    split at h
    · rename_i h2
      simp only [Bool.and_eq_true] at h2
      exact ⟨by omega, by omega, h2.1, h2.2⟩
    · cases h
theorem soloX_ok (x : St) (hok : okS x) (hs : sizeS x ≤ 1000000) : ValOK Tryz.prog rgl 32 [.agg [.nslice, .rs 1 1 [stA [x]]]] (.int .i64 (checkP (soloP x))) := by
  have h := checkPX_ok (soloP x) (soloP_ok hok) (by rw [solo_size]; exact hs)
  refine h.weak fun sn vs h => ?_
  simp only [Pr.av, soloP, LR, VR] at h ⊢
  obtain ⟨d, ds, e, ⟨d', h1, d1, l1, e1, g1, d2, l2, e2, g2, g3⟩, r⟩ := h
  exact ⟨d, ds, e, ⟨d', h1, d1, l1, e1, .inl ⟨rfl, rfl, g1⟩, d2, l2, e2, g2, g3⟩, r⟩
theorem stmtP_ok (x : St) (hok : okS x) (hg : rgS x) (hs : sizeS x ≤ 1000000) (hb : checkP (soloP x) = 0 → (stT x 0).length + 1 ≤ 1073741824) : ValOK Tryz.prog rgl 19 [.agg x.cells] (.tuple [.str (if checkP (soloP x) = 0 then stT x 0 ++ [10] else []), .int .i64 (checkP (soloP x))]) := by
  have hch := soloX_ok x hok hs
  by_cases hc : checkP (soloP x) = 0
  · obtain ⟨c1, c2, c3, c4⟩ := checkP_good hc
    have hr : rightS x = true := by simpa only [soloP, rightTL, rightSL, Bool.and_true] using c4
    have hsx : StmtOK x 0 := stmt_okN _ x (Nat.le_refl _) hr hg hok 0 (by rw [solo_deep] at c2; omega)
    have hb := hb hc
    rw [if_pos hc]
    rw [hc] at hch ⊢
    obtain ⟨O, hO, ⟨p1, p3, -⟩, -⟩ := famsM (P := Tryz.prog) (gl := rgl) [wmPut.fam, (wmSt (fun x j => (StmtOK x j ∧ stT x j ≠ [])) (fun x j h => h.2) (fun x j h => h.1)).fam] [] rfl
    obtain ⟨O', hO', q2, he⟩ := fz_add hO (f0 := 32) rfl hch (by kernel_rfl)
    replace p1 := ask_mono p1 he (by decide)
    replace p3 := ask_mono p3 he (by decide)
    obtain ⟨w, hwe⟩ : ∃ w, stT x 0 = w := ⟨_, rfl⟩
    have hwn : w ≠ [] := by rw [← hwe]; exact stT_ne x 0
    have q1 := fun {b fb : Nat} {H : AHeap} {rest : List AV} hb y1 y2 y3 y4 => wask0 p3 (x, 0) ⟨hsx, stT_ne x 0⟩ trivial hwe (A := [.agg x.cells]) rfl (b := b) (fb := fb) (H := H) (rest := rest) (d := 0) rfl rfl hb y1 y2 y3 y4
    rw [hwe] at hb ⊢
    have hlw : (w ++ [10]).length ≤ 1099511627776 := by simp only [List.length_append, List.length_cons, List.length_nil]; omega
    clear he hO hch hc hwe hok hg hs c1 c2 c3 c4
    simp only [stA, stC, List.length_cons, List.length_nil] at q2
    obtain ⟨w0, w1, rfl⟩ : ∃ c t, w = c :: t := by cases w with | nil => exact absurd rfl hwn | cons c t => exact ⟨c, t, rfl⟩
    obtain ⟨k, nm, lc, o, xs, th, el⟩ := x
    simp only [St.cells, exA, List.append_nil] at q1 q2 ⊢
    refine fn_valI isX 1 follows noNum hO' Tryz.func19 rfl ?_
    repeat' ((conv => whnf); first | (refine exI (q2 _ _ rfl) ?_) | (refine exO0 (q1 ?_ rfl rfl rfl rfl) ?_; (focus ((try simp only [List.length_append, List.length_cons, List.length_nil] at *); omega))) | (refine exO1 (put1 p1  [[10]] [10]  rfl rfl ?_ ?_ rfl rfl rfl rfl rfl) ?_; (focus (first | exact List.cons_ne_nil _ _ | assumption | (simp; done) | (intro hz; simp only [List.append_eq_nil_iff] at hz; simp_all; done))); (focus ((try simp only [List.length_append, List.length_cons, List.length_nil] at *); omega))) | (refine exI (usA_ok (s := w0 :: w1 ++ [10]) rfl rfl rfl (List.cons_ne_nil _ _) hlw rfl) ?_) | (first | refine stp ?_ | with_reducible refine condB (fun h => ?_) (fun h => ?_)))
    all_goals rfl
  · rw [if_neg hc]
    obtain ⟨O', hO', q2, -⟩ := fz_add (none_sound (gl := rgl)) (f0 := 32) rfl hch (by kernel_rfl)
    clear hch
    generalize checkP (soloP x) = c at *
    have e1 : (c != 0) = true := by simpa using hc
    simp only [stA, stC, List.length_cons, List.length_nil] at q2
    obtain ⟨k, nm, lc, o, xs, th, el⟩ := x
    simp only [St.cells, exA, List.append_nil] at q2 ⊢
    refine fn_val follows noNum hO' Tryz.func19 rfl ?_
    repeat' ((conv => whnf); first | (refine exI (q2 _ _ rfl) ?_) | (first | refine stp ?_ | with_reducible refine condB (fun h => ?_) (fun h => ?_)))
    all_goals rfl
end Go.Proofs.YtkkfcfjhhdmamaaGreatDoor.lex
end


section

set_option linter.unusedVariables false
set_option linter.unusedSimpArgs false
namespace Go.Proofs.YtkkfcfjhhdmamaaGreatDoor.lex
open Go.Abs Go.RowKit
set_option maxRecDepth 100000
set_option maxHeartbeats 4000000
theorem exprR_ok (e : Ex) (hok : okE e) (hg : rgE e) (hs : sizeE e ≤ 1048576) (hb : checkE e = 0 → (wrE e).length ≤ 1073741824) : ValOK Tryz.prog rgl 21 [.agg e.cells] (.tuple [.str (if checkE e = 0 then wrE e else []), .int .i64 (checkE e)]) := by
  have hch := checkER_ok (gl := rgl) e hok hs
  by_cases hc : checkE e = 0
  · have g : goodX e := ⟨checkE_good hc, hg⟩
    rw [if_pos hc]
    rw [hc] at hch ⊢
    have hb := hb hc
    obtain ⟨O, hO, p1, p2, -⟩ := fams (P := Tryz.prog) (gl := rgl) [famWr, { I := Unit, f := 14, G := (fun _ => True), A := (fun _ => [.agg e.cells]), R := (fun _ => .int .i64 0), body := (by kernel_rfl), inj := (fun _ _ _ _ _ => rfl), ok := (fun _ _ => ⟨ex_refs e, hch⟩) }] rfl
    have q1 : ∀ H, acall Tryz.prog O H 58 [.agg e.cells] = some (.str (wrE e), H) := p1 e ⟨g, hb⟩
    have q2 : ∀ H, acall Tryz.prog O H 14 [.agg e.cells] = some (.int .i64 0, H) := p2 () trivial
    clear p1 p2 hch
    generalize wrE e = w at *
    obtain ⟨eo, en, es_, ek⟩ := e
    simp only [Ex.cells] at *
    refine fn_val follows noNum hO Tryz.func21 rfl ?_
    repeat' ((conv => whnf); first | (with_reducible refine exI (q1 _) ?_) | (with_reducible refine exI (q2 _) ?_) | (first | refine stp ?_ | with_reducible refine condB (fun h => ?_) (fun h => ?_)))
    all_goals rfl
  · rw [if_neg hc]
    obtain ⟨O, hO, p2, -⟩ := fams (P := Tryz.prog) (gl := rgl) [{ I := Unit, f := 14, G := (fun _ => True), A := (fun _ => [.agg e.cells]), R := (fun _ => .int .i64 (checkE e)), body := (by kernel_rfl), inj := (fun _ _ _ _ _ => rfl), ok := (fun _ _ => ⟨ex_refs e, hch⟩) }] rfl
    have q2 : ∀ H, acall Tryz.prog O H 14 [.agg e.cells] = some (.int .i64 (checkE e), H) := p2 () trivial
    clear p2 hch
    generalize checkE e = c at *
    have e1 : (c != 0) = true := by simpa using hc
    obtain ⟨eo, en, es_, ek⟩ := e
    simp only [Ex.cells] at *
    refine fn_val follows noNum hO Tryz.func21 rfl ?_
    repeat' ((conv => whnf); first | (with_reducible refine exI (q2 _) ?_) | (first | refine stp ?_ | with_reducible refine condB (fun h => ?_) (fun h => ?_)))
    all_goals rfl
theorem soloR_ok (x : St) (hok : okS x) (hs : sizeS x ≤ 1000000) : ValOK Tryz.prog rgl 10 [.agg [.nslice, .rs 1 1 [stA [x]]]] (.int .i64 (checkP (soloP x))) := by
  have h := checkPR_ok (gl := rgl) (soloP x) (soloP_ok hok) (by rw [solo_size]; omega)
  refine h.weak fun sn vs h => ?_
  simp only [Pr.av, soloP, LR, VR] at h ⊢
  obtain ⟨d, ds, e, ⟨d', h1, d1, l1, e1, g1, d2, l2, e2, g2, g3⟩, r⟩ := h
  exact ⟨d, ds, e, ⟨d', h1, d1, l1, e1, .inl ⟨rfl, rfl, g1⟩, d2, l2, e2, g2, g3⟩, r⟩
theorem ask_keep {P : Program} {O O' : Orc} {f0 f : Nat} {A : List AV} {r : AV} {H : AHeap} (h : acall P O H f A = some (r, H)) (he : ∀ g, g ≠ f0 → ∀ args H, acall P O' H g args = acall P O H g args) (hf : f ≠ f0) : acall P O' H f A = some (r, H) := by rw [he f hf]; exact h
theorem stmtR_ok (x : St) (hok : okS x) (hg : rgS x) (hs : sizeS x ≤ 1000000) (hb : checkP (soloP x) = 0 → (stT x 0).length + 1 ≤ 1073741824) : ValOK Tryz.prog rgl 20 [.agg x.cells] (.tuple [.str (if checkP (soloP x) = 0 then stT x 0 ++ [10] else []), .int .i64 (checkP (soloP x))]) := by
  have hch := soloR_ok x hok hs
  by_cases hc : checkP (soloP x) = 0
  · obtain ⟨c1, c2, c3, c4⟩ := checkP_good hc
    have hr : rightSL [x] = true := by simpa only [soloP, rightTL, Bool.and_true] using c4
    have hb := hb hc
    rw [if_pos hc]
    rw [hc] at hch ⊢
    have htx : lnT [x] 0 = stT x 0 ++ [10] := by simp only [lnT, spc]; rfl
    have hln : ValOK Tryz.prog rgl 56 [stA [x], .str []] (.str (stT x 0 ++ [10])) := by
      rw [← htx]
      exact lines_okN _ [x] 0 (Nat.le_refl _) hr (by simp only [rgSL]; exact ⟨hg, trivial⟩) (by simp only [okSL]; exact ⟨hok, trivial⟩) (by simp) (by rw [htx]; simp only [List.length_append, List.length_cons, List.length_nil]; omega)
    obtain ⟨O1, hO1, p1, _⟩ := fz_add (none_sound (gl := rgl)) (f0 := 56) rfl hln (by kernel_rfl)
    obtain ⟨O', hO', q2, he⟩ := fz_add hO1 (f0 := 10) rfl hch (by kernel_rfl)
    have q1 : ∀ (H : AHeap) args, frzL (frz H 30) args = some [stA [x], .str []] → acall Tryz.prog O' H 56 args = some (.str (stT x 0 ++ [10]), H) := fun H args ha => by rw [he _ (by decide)]; exact p1 H args ha
    clear he hO1 p1 hch hc hln htx hok hg hs c1 c2 c3 c4 hb hr
    generalize stT x 0 ++ [10] = w at *
    simp only [stA, stC, List.length_cons, List.length_nil] at q1 q2
    obtain ⟨k, nm, lc, o, xs, th, el⟩ := x
    simp only [St.cells, exA, List.append_nil] at q1 q2 ⊢
    refine fn_val follows noNum hO' Tryz.func20 rfl ?_
    repeat' ((conv => whnf); first | (refine exI (q2 _ _ rfl) ?_) | (refine exI (q1 _ _ rfl) ?_) | (first | refine stp ?_ | with_reducible refine condB (fun h => ?_) (fun h => ?_)))
    all_goals rfl
  · rw [if_neg hc]
    obtain ⟨O', hO', q2, -⟩ := fz_add (none_sound (gl := rgl)) (f0 := 10) rfl hch (by kernel_rfl)
    clear hch
    generalize checkP (soloP x) = c at *
    have e1 : (c != 0) = true := by simpa using hc
    simp only [stA, stC, List.length_cons, List.length_nil] at q2
    obtain ⟨k, nm, lc, o, xs, th, el⟩ := x
    simp only [St.cells, exA, List.append_nil] at q2 ⊢
    refine fn_val follows noNum hO' Tryz.func20 rfl ?_
    repeat' ((conv => whnf); first | (refine exI (q2 _ _ rfl) ?_) | (first | refine stp ?_ | with_reducible refine condB (fun h => ?_) (fun h => ?_)))
    all_goals rfl
end Go.Proofs.YtkkfcfjhhdmamaaGreatDoor.lex
end


section

set_option linter.unusedVariables false
set_option linter.unusedSimpArgs false
namespace Go.Proofs.YtkkfcfjhhdmamaaGreatDoor.lex
open Go.Abs Go.RowKit
set_option maxRecDepth 100000
set_option maxHeartbeats 4000000
def WP (cs : List AV) : List UInt8 → AHeap
  | [] => [⟨true, 0, 0, .cells [.nptr, .nslice, .int .i64 0] tW⟩, ⟨true, 1, 0, .cells cs 25⟩]
  | x :: s => [⟨true, 0, 0, .cells [.ptr 0 0, .slice 2 0 (x :: s).length (x :: s).length 1, .int .i64 0] tW⟩, ⟨true, 1, 0, .cells cs 25⟩, ⟨true, 2, 0, .cells (byt (x :: s)) tB⟩]
theorem fgP {t0 tm : Tr} {H : AHeap} {l : List (Nat × AV)} {s1 s : List UInt8} {cs : List AV} {v c b f0 f1 f2 : Nat} (h : subT t0 tm = true) (e : s1 = s) (hs : s ≠ []) (h0 : H[v]? = some ⟨true, f0, 0, .cells [.ptr v 0, .slice b 0 s1.length s1.length 1, .int .i64 0] tW⟩) (h2 : H[c]? = some ⟨true, f2, 0, .cells cs 25⟩) (h1 : H[b]? = some ⟨true, f1, 0, .cells (byt s1) tB⟩)
    (hcs : refsL cs [] = []) (hn : nodupN ([v, c, b].map (famOf H)) = true) (hsl : SlotsGe [v, c, b] tm l) : FgL t0 tm H l (WP cs s) := by
  subst e
  cases s1 with
  | nil => exact absurd rfl hs
  | cons x s =>
    refine FgL.mk [v, c, b] h hsl ?_ hn
    exact ⟨by rw [h0]; exact ⟨rfl, rfl, rfl, rfl, BodyGe.cellsL ⟨Wk.ptr rfl rfl, Wk.slice rfl rfl rfl (Nat.le_refl _) (Nat.le_refl _) rfl, Wk.int rfl, trivial⟩⟩, by rw [h2]; exact ⟨rfl, rfl, rfl, rfl, BodyGe.pre (rest := []) (by simp) hcs⟩, by rw [h1]; exact ⟨rfl, rfl, rfl, rfl, BodyGe.pre (rest := []) (by simp) (byt_refs _ _)⟩, trivial⟩
theorem fgP0 {t0 tm : Tr} {H : AHeap} {l : List (Nat × AV)} {cs : List AV} {v c f0 f2 : Nat} (h : subT t0 tm = true) (h0 : H[v]? = some ⟨true, f0, 0, .cells [.nptr, .nslice, .int .i64 0] tW⟩) (h2 : H[c]? = some ⟨true, f2, 0, .cells cs 25⟩)
    (hcs : refsL cs [] = []) (hn : nodupN ([v, c].map (famOf H)) = true) (hsl : SlotsGe [v, c] tm l) : FgL t0 tm H l (WP cs []) := by
  refine FgL.mk [v, c] h hsl ?_ hn
  exact ⟨by rw [h0]; exact ⟨rfl, rfl, rfl, rfl, BodyGe.cellsL ⟨Wk.noref rfl, Wk.noref rfl, Wk.int rfl, trivial⟩⟩, by rw [h2]; exact ⟨rfl, rfl, rfl, rfl, BodyGe.pre (rest := []) (by simp) hcs⟩, trivial⟩
theorem progP_ok (p : Pr) (hok : okP p) (hg : rgP p) (hs : sizeTL p.threads ≤ 1000000) (hb : checkP p = 0 → (prT p).length ≤ 1073741824) : ValOK Tryz.prog rgl 9 [p.av] (.tuple [.str (if checkP p = 0 then prT p else []), .int .i64 (checkP p)]) := by
  have hch := checkPX_ok p hok hs
  by_cases hc : checkP p = 0
  · obtain ⟨c1, c2, c3, c4⟩ := checkP_good hc
    have hb := hb hc
    rw [if_pos hc]
    rw [hc] at hch ⊢
    have hbl : ∀ l ∈ p.threads, BlockOK l 0 := fun l hl => by
      have h1 := okTL_get hok.2.1 l hl
      have h3 : rightSL l = true := by
        have : ∀ (t : List (List St)), rightTL t = true → ∀ l ∈ t, rightSL l = true := by
          intro t
          induction t with
          | nil => intro _ l hl; cases hl
          | cons x t ih =>
            intro h l hl
            simp only [rightTL, Bool.and_eq_true] at h
            rcases List.mem_cons.1 hl with rfl | hl
            · exact h.1
            · exact ih h.2 l hl
        exact this _ c4 l hl
      have h4 : deepSL l ≤ deepTL p.threads := by
        have : ∀ (t : List (List St)), ∀ l ∈ t, deepSL l ≤ deepTL t := by
          intro t
          induction t with
          | nil => intro l hl; cases hl
          | cons x t ih =>
            intro l hl
            simp only [deepTL]
            rcases List.mem_cons.1 hl with rfl | hl
            · omega
            · have := ih l hl; omega
        exact this _ l hl
      exact block_okN l 0 h3 (rgTL_get hg.2 l hl) h1.1 h1.2 (by omega)
    have hdc : ∀ d ∈ p.decls, (0 ≤ d.val ∧ rgI d.val) ∧ d.name ≠ [] := fun d hd => by
      have h1 := List.all_eq_true.1 c3 d hd
      simp only [dcB, Bool.and_eq_true, decide_eq_true_eq] at h1
      exact ⟨⟨h1.2, hg.1 d hd⟩, wordB_ne h1.1⟩
    obtain ⟨O, hO, ⟨p1, p3, -⟩, ⟨p2, p4, -⟩⟩ := famsM (P := Tryz.prog) (gl := rgl) [wmPut.fam, (wmBl (fun l j => l ∈ p.threads ∧ j = 0) (fun l j h => by rw [h.2]; exact hbl l h.1)).fam] [{ I := Unit, f := 32, G := (fun _ => True), A := (fun _ => [p.av]), R := (fun _ => .int .i64 0), body := (by kernel_rfl), inj := (fun _ _ _ _ _ => rfl), ok := (fun _ _ => ⟨rfl, hch⟩) }, famFmt] rfl
    have q2 : ∀ H, acall Tryz.prog O H 32 [p.av] = some (.int .i64 0, H) := p2 () trivial
    have q4 : ∀ n : Int, 0 ≤ n ∧ rgI n → ∀ H, acall Tryz.prog O H 34 [.int .i64 n, .int .i64 10] = some (.str (digI n), H) := p4
    have q5 := fun (l : List St) (hl : l ∈ p.threads) {B : List UInt8} (hB : blkT l 0 = B) {s : List UInt8} {b c fb fc : Nat} {H : AHeap} {rest : List AV} hs hb y2 y1 y3 y4 y5 => wask1 p3 (l, 0) ⟨hl, rfl⟩ hB (A := [stA l]) rfl (s := s) (b := b) (c := c) (fb := fb) (fc := fc) (H := H) (rest := rest) (d := 0) rfl rfl hs hb y2 y1 y3 y4 y5
    clear p2 p3 p4 hch
    obtain ⟨hok1, _, hok2⟩ := hok
    obtain ⟨ds, ts⟩ := p
    have hdl : ds.length ≤ 9223372036854775807 := hok1.1
    have htl0 : ts.length ≤ 9223372036854775807 := hok2
    simp only [Pr.av, prT] at *
    obtain ⟨tot, htot⟩ : ∃ tot, dcsT ds ++ thsT ts = tot := ⟨_, rfl⟩
    rw [htot] at hb ⊢
    generalize hcs : [AV.rs ds.length 3 (dcC ds), AV.rs ts.length 1 (ts.map stA)] = cs at *
    have hcsr : ∀ cs : List AV, [AV.rs ds.length 3 (dcC ds), AV.rs ts.length 1 (ts.map stA)] = cs → refsL cs [] = [] := fun cs h => by rw [← h]; rfl
    refine fn_valI isX 1 follows noNum hO Tryz.func9 rfl ?_
    subst hcs
    repeat' ((conv => whnf); first | (with_reducible refine exI (q2 _) ?_) | (first | refine stp ?_ | with_reducible refine condB (fun h => ?_) (fun h => ?_)))
    conv => whnf
    refine ⟨Nat × List UInt8, (fun p => p.1 ≤ ds.length ∧ (p.1 ≠ 0 → p.2 ≠ []) ∧ p.2 ++ (dcsT (ds.drop p.1) ++ thsT ts) = tot), (fun p => [(1, .ptr 1 0), (5, .ptr 0 0), (17, .rs ds.length 3 (dcC ds)), (18, .int .i64 ds.length), (19, .int .i64 p.1)]), (fun p => WP [AV.rs ds.length 3 (dcC ds), AV.rs ts.length 1 (ts.map stA)] p.2), (fun p => ds.length - p.1), ⟨(0, []), ⟨Nat.zero_le _, fun h => absurd rfl h, htot⟩, ?_⟩, ?_⟩
    · (apply fgP0 (v := 1) (c := 0); rotate_left; (focus (exact rfl)); (focus (exact rfl)); (focus (exact rfl)); (focus (exact rfl)); (focus (refine And.intro (Wk.ptr rfl rfl) ?_; refine And.intro (Wk.ptr rfl rfl) ?_; refine And.intro (Wk.noref rfl) ?_; refine And.intro (Wk.int rfl) ?_; exact ⟨Wk.int rfl, trivial⟩)); (focus (exact rfl)))
    rintro ⟨i, acc⟩ ⟨h1, h2, h3⟩
    dsimp only at h1 h2 h3
    dsimp only
    by_cases hlt : i < ds.length
    · have c1 : decide ((i : Int) < (ds.length : Int)) = true := by simpa using hlt
      have hx := dc3 ds i hlt
      obtain ⟨hd1, hd2⟩ := hdc ds[i] (get_mem hlt)
      have q4 := q4 _ hd1
      rw [List.drop_eq_getElem_cons hlt] at h3
      simp only [dcsT] at h3
      generalize ds[i] = d at *
      obtain ⟨nm, pl, vl⟩ := d
      simp only [Dc.cells] at *
      clear htot q5 hd1
      cases pl
      · have hT : dcT ⟨nm, false, vl⟩ = [115, 104, 97, 114, 101, 100, 32] ++ (nm ++ ([32, 61, 32] ++ (digI vl ++ [59, 10]))) := by simp [dcT]
        rw [hT] at h3
        generalize digI vl = dg at *
        have hf : List.flatten [[115, 104, 97, 114, 101, 100, 32], nm, [32, 61, 32], dg, [59, 10]] = [115, 104, 97, 114, 101, 100, 32] ++ (nm ++ ([32, 61, 32] ++ (dg ++ [59, 10]))) := by simp
        have htl := congrArg List.length h3
        simp only [List.length_append, List.length_cons, List.length_nil] at htl
        cases acc with
        | nil =>
          repeat' ((conv => whnf); first | (refine exI hx ?_) | (with_reducible refine exI (q4 _) ?_) | (refine exO0 (put0 p1 [115, 104, 97, 114, 101, 100, 32] [nm, [32, 61, 32], dg, [59, 10]] ([115, 104, 97, 114, 101, 100, 32] ++ (nm ++ ([32, 61, 32] ++ (dg ++ [59, 10])))) hf rfl (List.cons_ne_nil _ _) ?_ rfl rfl rfl rfl) ?_; (focus ((try simp only [List.length_append, List.length_cons, List.length_nil] at *); omega))) | (with_reducible refine ixJ i rfl ?_ ?_; (focus (omega))) | (first | refine stp ?_ | with_reducible refine condB (fun h => ?_) (fun h => ?_)))
          conv => whnf
          refine ⟨(i + 1, [115, 104, 97, 114, 101, 100, 32] ++ (nm ++ ([32, 61, 32] ++ (dg ++ [59, 10])))), ⟨hlt, fun _ => List.cons_ne_nil _ _, by rw [← h3]; simp⟩, by show ds.length - (i + 1) < ds.length - i; omega, ?_⟩
          (apply fgP (v := 0) (c := 1); rotate_left; rotate_left; rotate_left; (focus (exact rfl)); (focus (exact rfl)); (focus (exact rfl)); (focus (exact rfl)); (focus (exact rfl)); (focus (refine And.intro (Wk.ptr rfl rfl) ?_; refine And.intro (Wk.ptr rfl rfl) ?_; refine And.intro (Wk.noref rfl) ?_; refine And.intro (Wk.int rfl) ?_; exact ⟨Wk.int rfl, trivial⟩)); (focus (exact rfl)); (focus (simp; done)); (focus (simp; done)))
        | cons ac at_ =>
          repeat' ((conv => whnf); first | (refine exI hx ?_) | (with_reducible refine exI (q4 _) ?_) | (refine exO1 (put1 p1 [[115, 104, 97, 114, 101, 100, 32], nm, [32, 61, 32], dg, [59, 10]] ([115, 104, 97, 114, 101, 100, 32] ++ (nm ++ ([32, 61, 32] ++ (dg ++ [59, 10])))) hf rfl ?_ ?_ rfl rfl rfl rfl rfl) ?_; (focus (first | exact List.cons_ne_nil _ _ | assumption | (simp; done) | (intro hz; simp only [List.append_eq_nil_iff] at hz; simp_all; done))); (focus ((try simp only [List.length_append, List.length_cons, List.length_nil] at *); omega))) | (with_reducible refine ixJ i rfl ?_ ?_; (focus (omega))) | (first | refine stp ?_ | with_reducible refine condB (fun h => ?_) (fun h => ?_)))
          conv => whnf
          refine ⟨(i + 1, ac :: at_ ++ ([115, 104, 97, 114, 101, 100, 32] ++ (nm ++ ([32, 61, 32] ++ (dg ++ [59, 10]))))), ⟨hlt, fun _ => List.cons_ne_nil _ _, by rw [← h3]; simp⟩, by show ds.length - (i + 1) < ds.length - i; omega, ?_⟩
          (apply fgP (v := 0) (c := 1); rotate_left; rotate_left; rotate_left; (focus (exact rfl)); (focus (exact rfl)); (focus (exact rfl)); (focus (exact rfl)); (focus (exact rfl)); (focus (refine And.intro (Wk.ptr rfl rfl) ?_; refine And.intro (Wk.ptr rfl rfl) ?_; refine And.intro (Wk.noref rfl) ?_; refine And.intro (Wk.int rfl) ?_; exact ⟨Wk.int rfl, trivial⟩)); (focus (exact rfl)); (focus (simp; done)); (focus (simp; done)))
      · have hT : dcT ⟨nm, true, vl⟩ = [112, 108, 97, 105, 110, 32] ++ (nm ++ ([32, 61, 32] ++ (digI vl ++ [59, 10]))) := by simp [dcT]
        rw [hT] at h3
        generalize digI vl = dg at *
        have hf : List.flatten [[112, 108, 97, 105, 110, 32], nm, [32, 61, 32], dg, [59, 10]] = [112, 108, 97, 105, 110, 32] ++ (nm ++ ([32, 61, 32] ++ (dg ++ [59, 10]))) := by simp
        have htl := congrArg List.length h3
        simp only [List.length_append, List.length_cons, List.length_nil] at htl
        cases acc with
        | nil =>
          repeat' ((conv => whnf); first | (refine exI hx ?_) | (with_reducible refine exI (q4 _) ?_) | (refine exO0 (put0 p1 [112, 108, 97, 105, 110, 32] [nm, [32, 61, 32], dg, [59, 10]] ([112, 108, 97, 105, 110, 32] ++ (nm ++ ([32, 61, 32] ++ (dg ++ [59, 10])))) hf rfl (List.cons_ne_nil _ _) ?_ rfl rfl rfl rfl) ?_; (focus ((try simp only [List.length_append, List.length_cons, List.length_nil] at *); omega))) | (with_reducible refine ixJ i rfl ?_ ?_; (focus (omega))) | (first | refine stp ?_ | with_reducible refine condB (fun h => ?_) (fun h => ?_)))
          conv => whnf
          refine ⟨(i + 1, [112, 108, 97, 105, 110, 32] ++ (nm ++ ([32, 61, 32] ++ (dg ++ [59, 10])))), ⟨hlt, fun _ => List.cons_ne_nil _ _, by rw [← h3]; simp⟩, by show ds.length - (i + 1) < ds.length - i; omega, ?_⟩
          (apply fgP (v := 0) (c := 1); rotate_left; rotate_left; rotate_left; (focus (exact rfl)); (focus (exact rfl)); (focus (exact rfl)); (focus (exact rfl)); (focus (exact rfl)); (focus (refine And.intro (Wk.ptr rfl rfl) ?_; refine And.intro (Wk.ptr rfl rfl) ?_; refine And.intro (Wk.noref rfl) ?_; refine And.intro (Wk.int rfl) ?_; exact ⟨Wk.int rfl, trivial⟩)); (focus (exact rfl)); (focus (simp; done)); (focus (simp; done)))
        | cons ac at_ =>
          repeat' ((conv => whnf); first | (refine exI hx ?_) | (with_reducible refine exI (q4 _) ?_) | (refine exO1 (put1 p1 [[112, 108, 97, 105, 110, 32], nm, [32, 61, 32], dg, [59, 10]] ([112, 108, 97, 105, 110, 32] ++ (nm ++ ([32, 61, 32] ++ (dg ++ [59, 10])))) hf rfl ?_ ?_ rfl rfl rfl rfl rfl) ?_; (focus (first | exact List.cons_ne_nil _ _ | assumption | (simp; done) | (intro hz; simp only [List.append_eq_nil_iff] at hz; simp_all; done))); (focus ((try simp only [List.length_append, List.length_cons, List.length_nil] at *); omega))) | (with_reducible refine ixJ i rfl ?_ ?_; (focus (omega))) | (first | refine stp ?_ | with_reducible refine condB (fun h => ?_) (fun h => ?_)))
          conv => whnf
          refine ⟨(i + 1, ac :: at_ ++ ([112, 108, 97, 105, 110, 32] ++ (nm ++ ([32, 61, 32] ++ (dg ++ [59, 10]))))), ⟨hlt, fun _ => List.cons_ne_nil _ _, by rw [← h3]; simp⟩, by show ds.length - (i + 1) < ds.length - i; omega, ?_⟩
          (apply fgP (v := 0) (c := 1); rotate_left; rotate_left; rotate_left; (focus (exact rfl)); (focus (exact rfl)); (focus (exact rfl)); (focus (exact rfl)); (focus (exact rfl)); (focus (refine And.intro (Wk.ptr rfl rfl) ?_; refine And.intro (Wk.ptr rfl rfl) ?_; refine And.intro (Wk.noref rfl) ?_; refine And.intro (Wk.int rfl) ?_; exact ⟨Wk.int rfl, trivial⟩)); (focus (exact rfl)); (focus (simp; done)); (focus (simp; done)))
    · have c1 : decide ((i : Int) < (ds.length : Int)) = false := by simpa using hlt
      have hi2 : i = ds.length := by omega
      subst hi2
      rw [List.drop_length] at h3
      simp only [dcsT, List.nil_append] at h3
      cases acc with
      | nil =>
        repeat' ((conv => whnf); first | (first | refine stp ?_ | with_reducible refine condB (fun h => ?_) (fun h => ?_)))
        conv => whnf
        refine ⟨Nat × List UInt8, (fun p => p.1 ≤ ts.length ∧ p.2 ++ thsT (ts.drop p.1) = tot), (fun p => [(5, .ptr 0 0), (35, .rs ts.length 1 (ts.map stA)), (36, .int .i64 ts.length), (37, .int .i64 p.1)]), (fun p => WP [AV.rs ds.length 3 (dcC ds), AV.rs ts.length 1 (ts.map stA)] p.2), (fun p => ts.length - p.1), ⟨(0, []), ⟨Nat.zero_le _, h3⟩, ?_⟩, ?_⟩
        · (apply fgP0 (v := 0) (c := 1); rotate_left; (focus (exact rfl)); (focus (exact rfl)); (focus (exact rfl)); (focus (exact rfl)); (focus (refine And.intro (Wk.ptr rfl rfl) ?_; refine And.intro (Wk.noref rfl) ?_; refine And.intro (Wk.int rfl) ?_; exact ⟨Wk.int rfl, trivial⟩)); (focus (exact rfl)))
        rintro ⟨j, bcc⟩ ⟨k1, k3⟩
        dsimp only at k1 k3
        dsimp only
        clear h3 htot hdc h1
        by_cases hjt : j < ts.length
        · have c2 : decide ((j : Int) < (ts.length : Int)) = true := by simpa using hjt
          have hy := th1 ts j hjt
          obtain ⟨B, hB⟩ : ∃ B, blkT ts[j] 0 = B := ⟨_, rfl⟩
          have q6 := @q5 ts[j] (get_mem hjt) B hB
          rw [List.drop_eq_getElem_cons hjt] at k3
          simp only [thsT, thT, hB] at k3
          clear q5 hB
          generalize ts[j] = l at *
          simp only [stA] at hy q6
          have htl := congrArg List.length k3
          simp only [List.length_append, List.length_cons, List.length_nil] at htl
          cases bcc with
          | nil =>
            repeat' ((conv => whnf); first | (refine exI hy ?_) | (refine exO0 (put0 p1  [116, 104, 114, 101, 97, 100, 32] [] [116, 104, 114, 101, 97, 100, 32]  rfl rfl (List.cons_ne_nil _ _) ?_ rfl rfl rfl rfl) ?_; (focus ((try simp only [List.length_append, List.length_cons, List.length_nil] at *); omega))) | (refine exO1 (q6 ?_ ?_ rfl rfl rfl rfl rfl) ?_; (focus (first | exact List.cons_ne_nil _ _ | assumption | (simp; done) | (intro hz; simp only [List.append_eq_nil_iff] at hz; simp_all; done))); (focus ((try simp only [List.length_append, List.length_cons, List.length_nil] at *); omega))) | (refine exO1 (put1 p1  [[10]] [10]  rfl rfl ?_ ?_ rfl rfl rfl rfl rfl) ?_; (focus (first | exact List.cons_ne_nil _ _ | assumption | (simp; done) | (intro hz; simp only [List.append_eq_nil_iff] at hz; simp_all; done))); (focus ((try simp only [List.length_append, List.length_cons, List.length_nil] at *); omega))) | (with_reducible refine ixJ j rfl ?_ ?_; (focus (omega))) | (first | refine stp ?_ | with_reducible refine condB (fun h => ?_) (fun h => ?_)))
            conv => whnf
            refine ⟨(j + 1, [116, 104, 114, 101, 97, 100, 32] ++ B ++ [10]), ⟨hjt, by rw [← k3]; simp⟩, by show ts.length - (j + 1) < ts.length - j; omega, ?_⟩
            (apply fgP (v := 0) (c := 1); rotate_left; rotate_left; rotate_left; (focus (exact rfl)); (focus (exact rfl)); (focus (exact rfl)); (focus (exact rfl)); (focus (exact rfl)); (focus (refine And.intro (Wk.ptr rfl rfl) ?_; refine And.intro (Wk.noref rfl) ?_; refine And.intro (Wk.int rfl) ?_; exact ⟨Wk.int rfl, trivial⟩)); (focus (exact rfl)); (focus (simp; done)); (focus (simp; done)))
          | cons bc bt =>
            repeat' ((conv => whnf); first | (refine exI hy ?_) | (refine exO1 (put1 p1  [[116, 104, 114, 101, 97, 100, 32]] [116, 104, 114, 101, 97, 100, 32]  rfl rfl ?_ ?_ rfl rfl rfl rfl rfl) ?_; (focus (first | exact List.cons_ne_nil _ _ | assumption | (simp; done) | (intro hz; simp only [List.append_eq_nil_iff] at hz; simp_all; done))); (focus ((try simp only [List.length_append, List.length_cons, List.length_nil] at *); omega))) | (refine exO1 (q6 ?_ ?_ rfl rfl rfl rfl rfl) ?_; (focus (first | exact List.cons_ne_nil _ _ | assumption | (simp; done) | (intro hz; simp only [List.append_eq_nil_iff] at hz; simp_all; done))); (focus ((try simp only [List.length_append, List.length_cons, List.length_nil] at *); omega))) | (refine exO1 (put1 p1  [[10]] [10]  rfl rfl ?_ ?_ rfl rfl rfl rfl rfl) ?_; (focus (first | exact List.cons_ne_nil _ _ | assumption | (simp; done) | (intro hz; simp only [List.append_eq_nil_iff] at hz; simp_all; done))); (focus ((try simp only [List.length_append, List.length_cons, List.length_nil] at *); omega))) | (with_reducible refine ixJ j rfl ?_ ?_; (focus (omega))) | (first | refine stp ?_ | with_reducible refine condB (fun h => ?_) (fun h => ?_)))
            conv => whnf
            refine ⟨(j + 1, bc :: bt ++ [116, 104, 114, 101, 97, 100, 32] ++ B ++ [10]), ⟨hjt, by rw [← k3]; simp⟩, by show ts.length - (j + 1) < ts.length - j; omega, ?_⟩
            (apply fgP (v := 0) (c := 1); rotate_left; rotate_left; rotate_left; (focus (exact rfl)); (focus (exact rfl)); (focus (exact rfl)); (focus (exact rfl)); (focus (exact rfl)); (focus (refine And.intro (Wk.ptr rfl rfl) ?_; refine And.intro (Wk.noref rfl) ?_; refine And.intro (Wk.int rfl) ?_; exact ⟨Wk.int rfl, trivial⟩)); (focus (exact rfl)); (focus (simp; done)); (focus (simp; done)))
        · have c2 : decide ((j : Int) < (ts.length : Int)) = false := by simpa using hjt
          have hj2 : j = ts.length := by omega
          subst hj2
          rw [List.drop_length] at k3
          simp only [thsT, List.append_nil] at k3
          subst k3
          cases bcc with
          | nil =>
            repeat' ((conv => whnf); first | refine stp ?_ | with_reducible refine condB (fun h => ?_) (fun h => ?_))
            all_goals rfl
          | cons bc bt =>
            have hlw : (bc :: bt).length ≤ 1099511627776 := by omega
            repeat' ((conv => whnf); first | (refine exI (usA_ok (s := bc :: bt) rfl rfl rfl (List.cons_ne_nil _ _) hlw rfl) ?_) | (first | refine stp ?_ | with_reducible refine condB (fun h => ?_) (fun h => ?_)))
            all_goals rfl
      | cons ac at_ =>
        repeat' ((conv => whnf); first | (first | refine stp ?_ | with_reducible refine condB (fun h => ?_) (fun h => ?_)))
        conv => whnf
        refine ⟨Nat × List UInt8, (fun p => p.1 ≤ ts.length ∧ p.2 ++ thsT (ts.drop p.1) = tot), (fun p => [(5, .ptr 0 0), (35, .rs ts.length 1 (ts.map stA)), (36, .int .i64 ts.length), (37, .int .i64 p.1)]), (fun p => WP [AV.rs ds.length 3 (dcC ds), AV.rs ts.length 1 (ts.map stA)] p.2), (fun p => ts.length - p.1), ⟨(0, ac :: at_), ⟨Nat.zero_le _, h3⟩, ?_⟩, ?_⟩
        · (apply fgP (v := 0) (c := 1); rotate_left; rotate_left; rotate_left; (focus (exact rfl)); (focus (exact rfl)); (focus (exact rfl)); (focus (exact rfl)); (focus (exact rfl)); (focus (refine And.intro (Wk.ptr rfl rfl) ?_; refine And.intro (Wk.noref rfl) ?_; refine And.intro (Wk.int rfl) ?_; exact ⟨Wk.int rfl, trivial⟩)); (focus (exact rfl)); (focus (simp; done)); (focus (simp; done)))
        rintro ⟨j, bcc⟩ ⟨k1, k3⟩
        dsimp only at k1 k3
        dsimp only
        clear h3 htot hdc h1
        by_cases hjt : j < ts.length
        · have c2 : decide ((j : Int) < (ts.length : Int)) = true := by simpa using hjt
          have hy := th1 ts j hjt
          obtain ⟨B, hB⟩ : ∃ B, blkT ts[j] 0 = B := ⟨_, rfl⟩
          have q6 := @q5 ts[j] (get_mem hjt) B hB
          rw [List.drop_eq_getElem_cons hjt] at k3
          simp only [thsT, thT, hB] at k3
          clear q5 hB
          generalize ts[j] = l at *
          simp only [stA] at hy q6
          have htl := congrArg List.length k3
          simp only [List.length_append, List.length_cons, List.length_nil] at htl
          cases bcc with
          | nil =>
            repeat' ((conv => whnf); first | (refine exI hy ?_) | (refine exO0 (put0 p1  [116, 104, 114, 101, 97, 100, 32] [] [116, 104, 114, 101, 97, 100, 32]  rfl rfl (List.cons_ne_nil _ _) ?_ rfl rfl rfl rfl) ?_; (focus ((try simp only [List.length_append, List.length_cons, List.length_nil] at *); omega))) | (refine exO1 (q6 ?_ ?_ rfl rfl rfl rfl rfl) ?_; (focus (first | exact List.cons_ne_nil _ _ | assumption | (simp; done) | (intro hz; simp only [List.append_eq_nil_iff] at hz; simp_all; done))); (focus ((try simp only [List.length_append, List.length_cons, List.length_nil] at *); omega))) | (refine exO1 (put1 p1  [[10]] [10]  rfl rfl ?_ ?_ rfl rfl rfl rfl rfl) ?_; (focus (first | exact List.cons_ne_nil _ _ | assumption | (simp; done) | (intro hz; simp only [List.append_eq_nil_iff] at hz; simp_all; done))); (focus ((try simp only [List.length_append, List.length_cons, List.length_nil] at *); omega))) | (with_reducible refine ixJ j rfl ?_ ?_; (focus (omega))) | (first | refine stp ?_ | with_reducible refine condB (fun h => ?_) (fun h => ?_)))
            conv => whnf
            refine ⟨(j + 1, [116, 104, 114, 101, 97, 100, 32] ++ B ++ [10]), ⟨hjt, by rw [← k3]; simp⟩, by show ts.length - (j + 1) < ts.length - j; omega, ?_⟩
            (apply fgP (v := 0) (c := 1); rotate_left; rotate_left; rotate_left; (focus (exact rfl)); (focus (exact rfl)); (focus (exact rfl)); (focus (exact rfl)); (focus (exact rfl)); (focus (refine And.intro (Wk.ptr rfl rfl) ?_; refine And.intro (Wk.noref rfl) ?_; refine And.intro (Wk.int rfl) ?_; exact ⟨Wk.int rfl, trivial⟩)); (focus (exact rfl)); (focus (simp; done)); (focus (simp; done)))
          | cons bc bt =>
            repeat' ((conv => whnf); first | (refine exI hy ?_) | (refine exO1 (put1 p1  [[116, 104, 114, 101, 97, 100, 32]] [116, 104, 114, 101, 97, 100, 32]  rfl rfl ?_ ?_ rfl rfl rfl rfl rfl) ?_; (focus (first | exact List.cons_ne_nil _ _ | assumption | (simp; done) | (intro hz; simp only [List.append_eq_nil_iff] at hz; simp_all; done))); (focus ((try simp only [List.length_append, List.length_cons, List.length_nil] at *); omega))) | (refine exO1 (q6 ?_ ?_ rfl rfl rfl rfl rfl) ?_; (focus (first | exact List.cons_ne_nil _ _ | assumption | (simp; done) | (intro hz; simp only [List.append_eq_nil_iff] at hz; simp_all; done))); (focus ((try simp only [List.length_append, List.length_cons, List.length_nil] at *); omega))) | (refine exO1 (put1 p1  [[10]] [10]  rfl rfl ?_ ?_ rfl rfl rfl rfl rfl) ?_; (focus (first | exact List.cons_ne_nil _ _ | assumption | (simp; done) | (intro hz; simp only [List.append_eq_nil_iff] at hz; simp_all; done))); (focus ((try simp only [List.length_append, List.length_cons, List.length_nil] at *); omega))) | (with_reducible refine ixJ j rfl ?_ ?_; (focus (omega))) | (first | refine stp ?_ | with_reducible refine condB (fun h => ?_) (fun h => ?_)))
            conv => whnf
            refine ⟨(j + 1, bc :: bt ++ [116, 104, 114, 101, 97, 100, 32] ++ B ++ [10]), ⟨hjt, by rw [← k3]; simp⟩, by show ts.length - (j + 1) < ts.length - j; omega, ?_⟩
            (apply fgP (v := 0) (c := 1); rotate_left; rotate_left; rotate_left; (focus (exact rfl)); (focus (exact rfl)); (focus (exact rfl)); (focus (exact rfl)); (focus (exact rfl)); (focus (refine And.intro (Wk.ptr rfl rfl) ?_; refine And.intro (Wk.noref rfl) ?_; refine And.intro (Wk.int rfl) ?_; exact ⟨Wk.int rfl, trivial⟩)); (focus (exact rfl)); (focus (simp; done)); (focus (simp; done)))
        · have c2 : decide ((j : Int) < (ts.length : Int)) = false := by simpa using hjt
          have hj2 : j = ts.length := by omega
          subst hj2
          rw [List.drop_length] at k3
          simp only [thsT, List.append_nil] at k3
          subst k3
          cases bcc with
          | nil =>
            repeat' ((conv => whnf); first | refine stp ?_ | with_reducible refine condB (fun h => ?_) (fun h => ?_))
            all_goals rfl
          | cons bc bt =>
            have hlw : (bc :: bt).length ≤ 1099511627776 := by omega
            repeat' ((conv => whnf); first | (refine exI (usA_ok (s := bc :: bt) rfl rfl rfl (List.cons_ne_nil _ _) hlw rfl) ?_) | (first | refine stp ?_ | with_reducible refine condB (fun h => ?_) (fun h => ?_)))
            all_goals rfl
  · rw [if_neg hc]
    obtain ⟨O, hO, p2, -⟩ := fams (P := Tryz.prog) (gl := rgl) [{ I := Unit, f := 32, G := (fun _ => True), A := (fun _ => [p.av]), R := (fun _ => .int .i64 (checkP p)), body := (by kernel_rfl), inj := (fun _ _ _ _ _ => rfl), ok := (fun _ _ => ⟨rfl, hch⟩) }] rfl
    have q2 : ∀ H, acall Tryz.prog O H 32 [p.av] = some (.int .i64 (checkP p), H) := p2 () trivial
    clear p2 hch
    generalize checkP p = c at *
    have e1 : (c != 0) = true := by simpa using hc
    obtain ⟨ds, ts⟩ := p
    simp only [Pr.av] at *
    refine fn_val follows noNum hO Tryz.func9 rfl ?_
    repeat' ((conv => whnf); first | (with_reducible refine exI (q2 _) ?_) | (first | refine stp ?_ | with_reducible refine condB (fun h => ?_) (fun h => ?_)))
    all_goals rfl
end Go.Proofs.YtkkfcfjhhdmamaaGreatDoor.lex
end


section

set_option linter.unusedVariables false
set_option linter.unusedSimpArgs false
namespace Go.Proofs.YtkkfcfjhhdmamaaGreatDoor.lex
open Go.Abs Go.RowKit
set_option maxRecDepth 100000
set_option maxHeartbeats 4000000
theorem rightTL_mem : ∀ (t : List (List St)), rightTL t = true → ∀ l ∈ t, rightSL l = true := by
  intro t
  induction t with
  | nil => intro _ l hl; cases hl
  | cons x t ih =>
    intro h l hl
    simp only [rightTL, Bool.and_eq_true] at h
    rcases List.mem_cons.1 hl with rfl | hl
    · exact h.1
    · exact ih h.2 l hl
theorem thsT_mem : ∀ (t : List (List St)), ∀ l ∈ t, (lnT l 1).length ≤ (thsT t).length := by
  intro t
  induction t with
  | nil => intro l hl; cases hl
  | cons x t ih =>
    intro l hl
    simp only [thsT, thT, blkT, Nat.zero_add, List.length_append, List.length_cons]
    rcases List.mem_cons.1 hl with rfl | hl
    · omega
    · have := ih l hl; omega
theorem thT_eq (l : List St) : thT l = [116, 104, 114, 101, 97, 100, 32, 123, 10] ++ (lnT l 1 ++ [125, 10]) := by
  simp only [thT, blkT, spc]; simp
theorem dcp (l : List Dc) (i : Nat) (h : i < l.length) : tk 1 (((dcC l).drop (i * 3)).drop 1) = some [.bool l[i].plain] := by
  have := dc3 l i h
  obtain ⟨t, ht⟩ : ∃ t, (dcC l).drop (i * 3) = l[i].cells ++ t := by
    obtain ⟨h1, h2⟩ := tk_take this
    exact ⟨((dcC l).drop (i * 3)).drop 3, by rw [h1, List.take_append_drop]⟩
  rw [ht]; rfl
theorem progR_ok (p : Pr) (hok : okP p) (hg : rgP p) (hs : sizeTL p.threads ≤ 1000000) (hb : checkP p = 0 → (prT p).length ≤ 1073741824) : ValOK Tryz.prog rgl 18 [p.av] (.tuple [.str (if checkP p = 0 then prT p else []), .int .i64 (checkP p)]) := by
  have hch := checkPR_ok (gl := rgl) p hok (by omega)
  by_cases hc : checkP p = 0
  · obtain ⟨c1, c2, c3, c4⟩ := checkP_good hc
    have hb := hb hc
    rw [if_pos hc]
    rw [hc] at hch ⊢
    have hln : ∀ l ∈ p.threads, LnOK l 1 := fun l hl => by
      have h1 := okTL_get hok.2.1 l hl
      have h2 := thsT_mem _ l hl
      simp only [prT, List.length_append] at hb
      exact lines_okN _ l 1 (Nat.le_refl _) (rightTL_mem _ c4 l hl) (rgTL_get hg.2 l hl) h1.1 h1.2 (by omega)
    have hdc : ∀ d ∈ p.decls, 0 ≤ d.val ∧ rgI d.val := fun d hd => by
      have h1 := List.all_eq_true.1 c3 d hd
      simp only [dcB, Bool.and_eq_true, decide_eq_true_eq] at h1
      exact ⟨h1.2, hg.1 d hd⟩
    obtain ⟨O, hO, p1, p2, p3, -⟩ := fams (P := Tryz.prog) (gl := rgl) [famI (f := 55) (by kernel_rfl) (fun n => 0 ≤ n ∧ rgI n) (fun n => .str (digI n)) (fun n h => digsR_ok n h.1 h.2), { I := Unit, f := 10, G := (fun _ => True), A := (fun _ => [p.av]), R := (fun _ => .int .i64 0), body := (by kernel_rfl), inj := (fun _ _ _ _ _ => rfl), ok := (fun _ _ => ⟨rfl, hch⟩) },
      { I := List St, f := 56, G := (fun x => x ∈ p.threads), A := (fun x => [stA x, .str (spc 1)]), R := (fun x => .str (lnT x 1)), body := (by kernel_rfl), inj := (fun x y _ _ h => by simp only [List.cons.injEq, and_true] at h; rw [stA_inj h]), ok := (fun x g => ⟨rfl, hln x g⟩) }] rfl
    have q1 : ∀ n : Int, 0 ≤ n ∧ rgI n → ∀ H, acall Tryz.prog O H 55 [.int .i64 n] = some (.str (digI n), H) := p1
    have q2 : ∀ H, acall Tryz.prog O H 10 [p.av] = some (.int .i64 0, H) := p2 () trivial
    have q3 : ∀ l ∈ p.threads, ∀ H, acall Tryz.prog O H 56 [stA l, .str [32, 32]] = some (.str (lnT l 1), H) := p3
    clear p1 p2 p3 hch hln
    obtain ⟨hok1, _, hok2⟩ := hok
    obtain ⟨ds, ts⟩ := p
    have hdl : ds.length ≤ 9223372036854775807 := hok1.1
    have htl0 : ts.length ≤ 9223372036854775807 := hok2
    simp only [Pr.av, prT] at *
    obtain ⟨tot, htot⟩ : ∃ tot, dcsT ds ++ thsT ts = tot := ⟨_, rfl⟩
    rw [htot] at hb ⊢
    refine fn_val follows noNum hO Tryz.func18 rfl ?_
    repeat' ((conv => whnf); first | (with_reducible refine exI (q2 _) ?_) | (first | refine stp ?_ | with_reducible refine condB (fun h => ?_) (fun h => ?_)))
    conv => whnf
    refine ⟨Nat × List UInt8, (fun p => p.1 ≤ ds.length ∧ p.2 ++ (dcsT (ds.drop p.1) ++ thsT ts) = tot), (fun p => [(1, .ptr 0 0), (5, .str p.2), (6, .int .i64 p.1)]), (fun _ => [⟨true, 0, 0, .cells [AV.rs ds.length 3 (dcC ds), AV.rs ts.length 1 (ts.map stA)] 25⟩]), (fun p => ds.length - p.1), ⟨(0, []), ⟨Nat.zero_le _, htot⟩, FgL.mk [0] rfl ?_ ⟨⟨rfl, rfl, rfl, rfl, BodyGe.pre (rest := []) rfl rfl⟩, trivial⟩ rfl⟩, ?_⟩
    · refine And.intro (Wk.ptr rfl rfl) ?_
      refine And.intro (Wk.noref rfl) ?_
      exact ⟨Wk.int rfl, trivial⟩
    rintro ⟨i, acc⟩ ⟨h1, h3⟩
    dsimp only at h1 h3
    dsimp only
    clear htot
    by_cases hlt : i < ds.length
    · have c1 : decide ((i : Int) < (ds.length : Int)) = true := by simpa using hlt
      have x1 := dcn ds i hlt
      have x2 := dcp ds i hlt
      have x3 := dcv ds i hlt
      have q1 := q1 _ (hdc ds[i] (get_mem hlt))
      rw [List.drop_eq_getElem_cons hlt] at h3
      simp only [dcsT] at h3
      generalize ds[i] = d at *
      obtain ⟨nm, pl, vl⟩ := d
      simp only [Dc.cells, dcT] at *
      generalize digI vl = dg at *
      have htl := congrArg List.length h3
      clear hdc q3
      cases pl
      · simp only [Bool.false_eq_true, if_false, List.length_append, List.length_cons, List.length_nil] at h3 htl
        repeat' ((conv => whnf); first | (refine exI x1 ?_) | (refine exI x2 ?_) | (refine exI x3 ?_) | (with_reducible refine exI (q1 _) ?_) | (refine And.intro (show List.length _ + List.length _ ≤ 9223372036854775807 from ?_) ?_; (focus ((try simp only [List.length_append, List.length_cons, List.length_nil] at *); omega))) | (with_reducible refine ixJ i rfl ?_ ?_; (focus (omega))) | (first | refine stp ?_ | with_reducible refine condB (fun h => ?_) (fun h => ?_)))
        conv => whnf
        refine ⟨(i + 1, acc ++ [115, 104, 97, 114, 101, 100, 32] ++ nm ++ [32, 61, 32] ++ dg ++ [59, 10]), ⟨hlt, by rw [← h3]; simp⟩, by show ds.length - (i + 1) < ds.length - i; omega, FgL.mk [0] rfl ?_ ⟨⟨rfl, rfl, rfl, rfl, BodyGe.pre (rest := []) rfl rfl⟩, trivial⟩ rfl⟩
        refine And.intro (Wk.ptr rfl rfl) ?_
        refine And.intro (Wk.noref rfl) ?_
        exact ⟨Wk.int rfl, trivial⟩
      · simp only [if_true, List.length_append, List.length_cons, List.length_nil] at h3 htl
        repeat' ((conv => whnf); first | (refine exI x1 ?_) | (refine exI x2 ?_) | (refine exI x3 ?_) | (with_reducible refine exI (q1 _) ?_) | (refine And.intro (show List.length _ + List.length _ ≤ 9223372036854775807 from ?_) ?_; (focus ((try simp only [List.length_append, List.length_cons, List.length_nil] at *); omega))) | (with_reducible refine ixJ i rfl ?_ ?_; (focus (omega))) | (first | refine stp ?_ | with_reducible refine condB (fun h => ?_) (fun h => ?_)))
        conv => whnf
        refine ⟨(i + 1, acc ++ [112, 108, 97, 105, 110, 32] ++ nm ++ [32, 61, 32] ++ dg ++ [59, 10]), ⟨hlt, by rw [← h3]; simp⟩, by show ds.length - (i + 1) < ds.length - i; omega, FgL.mk [0] rfl ?_ ⟨⟨rfl, rfl, rfl, rfl, BodyGe.pre (rest := []) rfl rfl⟩, trivial⟩ rfl⟩
        refine And.intro (Wk.ptr rfl rfl) ?_
        refine And.intro (Wk.noref rfl) ?_
        exact ⟨Wk.int rfl, trivial⟩
    · have c1 : decide ((i : Int) < (ds.length : Int)) = false := by simpa using hlt
      have hi2 : i = ds.length := by omega
      subst hi2
      rw [List.drop_length] at h3
      simp only [dcsT, List.nil_append] at h3
      clear hdc q1
      repeat' ((conv => whnf); first | (first | refine stp ?_ | with_reducible refine condB (fun h => ?_) (fun h => ?_)))
      conv => whnf
      refine ⟨Nat × List UInt8, (fun p => p.1 ≤ ts.length ∧ p.2 ++ thsT (ts.drop p.1) = tot), (fun p => [(1, .ptr 0 0), (5, .str p.2), (8, .int .i64 p.1)]), (fun _ => [⟨true, 0, 0, .cells [AV.rs ds.length 3 (dcC ds), AV.rs ts.length 1 (ts.map stA)] 25⟩]), (fun p => ts.length - p.1), ⟨(0, acc), ⟨Nat.zero_le _, h3⟩, FgL.mk [0] rfl ?_ ⟨⟨rfl, rfl, rfl, rfl, BodyGe.pre (rest := []) rfl rfl⟩, trivial⟩ rfl⟩, ?_⟩
      · refine And.intro (Wk.ptr rfl rfl) ?_
        refine And.intro (Wk.noref rfl) ?_
        exact ⟨Wk.int rfl, trivial⟩
      clear h1 h3
      rintro ⟨j, bcc⟩ ⟨h1, h3⟩
      dsimp only at h1 h3
      dsimp only
      have htl := congrArg List.length h3
      by_cases hjt : j < ts.length
      · have c2 : decide ((j : Int) < (ts.length : Int)) = true := by simpa using hjt
        have hx := th1 ts j hjt
        have q3 := q3 ts[j] (get_mem hjt)
        rw [List.drop_eq_getElem_cons hjt] at h3 htl
        simp only [thsT, thT_eq, List.length_append, List.length_cons, List.length_nil] at h3 htl
        generalize ts[j] = l at *
        generalize lnT l 1 = w at *
        simp only [stA] at hx q3
        repeat' ((conv => whnf); first | (refine exI hx ?_) | (with_reducible refine exI (q3 _) ?_) | (refine And.intro (show List.length _ + List.length _ ≤ 9223372036854775807 from ?_) ?_; (focus ((try simp only [List.length_append, List.length_cons, List.length_nil] at *); omega))) | (with_reducible refine ixJ j rfl ?_ ?_; (focus (omega))) | (first | refine stp ?_ | with_reducible refine condB (fun h => ?_) (fun h => ?_)))
        conv => whnf
        refine ⟨(j + 1, bcc ++ [116, 104, 114, 101, 97, 100, 32, 123, 10] ++ w ++ [125, 10]), ⟨hjt, by rw [← h3]; simp⟩, by show ts.length - (j + 1) < ts.length - j; omega, FgL.mk [0] rfl ?_ ⟨⟨rfl, rfl, rfl, rfl, BodyGe.pre (rest := []) rfl rfl⟩, trivial⟩ rfl⟩
        refine And.intro (Wk.ptr rfl rfl) ?_
        refine And.intro (Wk.noref rfl) ?_
        exact ⟨Wk.int rfl, trivial⟩
      · have c2 : decide ((j : Int) < (ts.length : Int)) = false := by simpa using hjt
        have hj2 : j = ts.length := by omega
        subst hj2
        rw [List.drop_length] at h3
        simp only [thsT, List.append_nil] at h3
        rw [← h3]
        repeat' ((conv => whnf); first | (first | refine stp ?_ | with_reducible refine condB (fun h => ?_) (fun h => ?_)))
        all_goals rfl
  · rw [if_neg hc]
    obtain ⟨O, hO, p2, -⟩ := fams (P := Tryz.prog) (gl := rgl) [{ I := Unit, f := 10, G := (fun _ => True), A := (fun _ => [p.av]), R := (fun _ => .int .i64 (checkP p)), body := (by kernel_rfl), inj := (fun _ _ _ _ _ => rfl), ok := (fun _ _ => ⟨rfl, hch⟩) }] rfl
    have q2 : ∀ H, acall Tryz.prog O H 10 [p.av] = some (.int .i64 (checkP p), H) := p2 () trivial
    clear p2 hch
    generalize checkP p = c at *
    have e1 : (c != 0) = true := by simpa using hc
    obtain ⟨ds, ts⟩ := p
    simp only [Pr.av] at *
    refine fn_val follows noNum hO Tryz.func18 rfl ?_
    repeat' ((conv => whnf); first | (with_reducible refine exI (q2 _) ?_) | (first | refine stp ?_ | with_reducible refine condB (fun h => ?_) (fun h => ?_)))
    all_goals rfl
end Go.Proofs.YtkkfcfjhhdmamaaGreatDoor.lex
end


section

set_option linter.unusedVariables false
set_option linter.unusedSimpArgs false
namespace Go.Proofs.YtkkfcfjhhdmamaaGreatDoor.lex
open Go.Abs Go.RowKit
set_option maxRecDepth 100000
set_option maxHeartbeats 4000000
theorem dcsT_len : ∀ (k : List Dc) (l : Int), (∀ d ∈ k, rgI d.val) → 0 ≤ heftD k l → ((dcsT k).length : Int) ≤ 60 * k.length + 20 * (l - heftD k l)
  | [], l, hg, h => by simp only [dcsT, heftD, List.length_nil] at *; omega
  | x :: k, l, hg, h => by
    simp only [heftD] at h ⊢
    by_cases hl : 0 ≤ l
    · rw [if_pos hl] at h ⊢
      have ih := dcsT_len k _ (fun d hd => hg d (by simp [hd])) h
      have h1 := digI_len (hg x (by simp))
      have h2 : (dcT x).length ≤ 12 + x.name.length + (digI x.val).length := by
        obtain ⟨n, p, v⟩ := x
        cases p <;> simp [dcT] <;> omega
      simp only [dcsT, List.length_append, List.length_cons]
      omega
    · rw [if_neg hl] at h; omega
theorem thsT_len : ∀ (k : List (List St)) (l : Int), rgTL k → 1 + deepTL k ≤ 41 → 0 ≤ heftTL k l → ((thsT k).length : Int) ≤ 12 * k.length + 512 * (l - heftTL k l)
  | [], l, hg, hd, h => by simp only [thsT, heftTL, List.length_nil] at *; omega
  | x :: k, l, hg, hd, h => by
    simp only [heftTL] at h ⊢
    by_cases hl : 0 ≤ l
    · rw [if_pos hl] at h ⊢
      simp only [rgTL] at hg
      simp only [deepTL] at hd
      have h4 := heftTL_le k (heftSL x l)
      have ih := thsT_len k _ hg.2 (by omega) h
      have h1 := lnT_len x 1 l hg.1 (by omega) (by omega)
      simp only [thsT, thT_eq, List.length_append, List.length_cons, List.length_nil]
      omega
    · rw [if_neg hl] at h; omega
theorem prT_len (p : Pr) (hg : rgP p) (hd : 1 + deepTL p.threads ≤ 41) (h : lightP p 3000 = true) : (prT p).length ≤ 4000000 := by
  simp only [lightP, decide_eq_true_eq] at h
  have h1 := heftTL_le p.threads (heftD p.decls ((3000 : Int) - min ((3000 : Int) + 1) (p.decls.length : Int) - min ((3000 : Int) + 1) (p.threads.length : Int)))
  have h2 := heftD_le p.decls ((3000 : Int) - min ((3000 : Int) + 1) (p.decls.length : Int) - min ((3000 : Int) + 1) (p.threads.length : Int))
  have h3 := dcsT_len p.decls _ hg.1 (show 0 ≤ heftD p.decls ((3000 : Int) - min ((3000 : Int) + 1) (p.decls.length : Int) - min ((3000 : Int) + 1) (p.threads.length : Int)) by omega)
  have h4 := thsT_len p.threads _ hg.2 hd h
  simp only [prT, List.length_append]
  omega
theorem lightS_ok (x : St) (hok : okS x) : ValOK Tryz.prog rgl 17 [stA [x], .int .i64 3000] (.bool (decide (0 ≤ heftS x 3000))) := by
  have e1 : heftSL [x] 3000 = heftS x 3000 := by simp [heftSL]
  have h := hefts_ok (gl := rgl) _ [x] 3000 (Nat.le_refl _) (by simp only [okSL]; exact ⟨hok, trivial⟩) (by simp) (by omega) (by omega)
  rw [e1] at h
  have hO := orcF_sound (P := Tryz.prog) (gl := rgl) (l := [(30, [stA [x], .int .i64 3000], .int .i64 (heftS x 3000))]) ⟨rfl, h, trivial⟩
  have q : ∀ H, acall Tryz.prog (orcF [(30, [stA [x], .int .i64 3000], .int .i64 (heftS x 3000))]) H 30 [stA [x], .int .i64 3000] = some (.int .i64 (heftS x 3000), H) := fun H => callF (by kernel_rfl) findF_here
  clear h e1
  generalize heftS x 3000 = c at *
  simp only [stA] at *
  refine fn_val follows noNum hO Tryz.func17 rfl ?_
  repeat' ((conv => whnf); first | (with_reducible refine exI (q _) ?_) | (first | refine stp ?_ | with_reducible refine condB (fun h => ?_) (fun h => ?_)))
  all_goals rfl
end Go.Proofs.YtkkfcfjhhdmamaaGreatDoor.lex
end


section

set_option linter.unusedVariables false
namespace Go.Proofs.YtkkfcfjhhdmamaaGreatDoor.runLives
open Go.RowKit Go.Abs
set_option maxRecDepth 100000
theorem lives : saysTrue (frun Tryz.prog gl [] 100000 100 6 [] TH.empty) = true := by kernel_rfl
theorem knownLives : OrcSound Tryz.prog gl (tblO [(6, [])]) := known_true follows noNum tblO_nil rfl lives
end Go.Proofs.YtkkfcfjhhdmamaaGreatDoor.runLives
end


/-
  Texts of this proof, one behind the other (part 10).
-/
import Derived.Test.YtblnhcafobifgaaGreatDoorPls9


section

set_option linter.unusedVariables false
set_option linter.unusedSimpArgs false
namespace Go.Proofs.YtblnhcafobifgaaGreatDoor.lex
open Go.Abs Go.RowKit
set_option maxRecDepth 100000
set_option maxHeartbeats 4000000
open runLives (follows noNum)
def ivN (n j : Nat) : Int := (n : Int) - 1 - (j : Int)
theorem ivN_at {n j : Nat} (h : j < n) : ivN n j = ((n - 1 - j : Nat) : Int) := by unfold ivN; omega
theorem ivN_next {n j : Nat} (h : j < n) (hn : n ≤ 3000) : IntKind.i64.wrap (ivN n j - 1) = ivN n (j + 1) := by
  unfold ivN; rw [wrapB (by omega) (by omega)]; omega
theorem rev_next (ts : List (List St)) (j : Nat) (h : j < ts.length) : ts.reverse.take (j + 1) = ts.reverse.take j ++ [ts[ts.length - 1 - j]] := by
  rw [List.take_add_one, List.getElem?_eq_getElem (by simpa using h), List.getElem_reverse]
  simp
theorem st_flat : ∀ l : List (List St), (l.map stA).all flat1 = true
  | [] => rfl
  | x :: l => by simp only [List.map_cons, List.all_cons, st_flat l, Bool.and_true]; rfl
theorem ivN_sub {n i : Nat} (h : i < n) (hn : n ≤ 3000) : IntKind.i64.wrap (ivN n 0 - (i : Int)) = ivN n i := by
  unfold ivN; rw [wrapB (by omega) (by omega)]; omega
theorem rgT_at (ts : List (List St)) (i : Nat) (h : i < ts.length) : tk 1 (((rgT ts).map rsK).drop (i * 1)) = some [rsK (sortB (rgN0 ts[i]))] := by
  have := tk1_map rsK (rgT ts) i (by rw [rgT_len]; exact h) (off := i * 1) (by omega)
  rw [this]
  simp [rgT]
theorem regs_at (ts : List (List St)) {i : Nat} (h : i < ts.length) (hs : sizeTL ts ≤ 3000) : ∃ k : Nat, ivN ts.length i = (k : Int) ∧ k < ts.length ∧ ∃ x, x ∈ ts ∧ tk 1 ((ts.map stA).drop (i * 1)) = some [stA x] ∧ tk 1 (((rgT ts).map rsK).drop (i * 1)) = some [rsK (sortB (rgN0 x))] ∧ tk 1 (((rgT ts.reverse).map rsK).drop (k * 1)) = some [rsK (sortB (rgN0 x))] ∧ (sortB (rgN0 x)).length ≤ 1048576 := by
  refine ⟨ts.length - 1 - i, ivN_at h, by omega, ts[i], List.getElem_mem h, tk1_map stA ts i h (off := i * 1) (by omega), rgT_at ts i h, ?_, ?_⟩
  · have := rgT_at ts.reverse (ts.length - 1 - i) (by simp; omega)
    have e : ts.length - 1 - (ts.length - 1 - i) = i := by omega
    rw [this, List.getElem_reverse]
    simp only [e]
  · have h1 := (sortB_perm (rgN0 ts[i])).length_eq
    have h2 := addA_len (nmSL ts[i]) []
    have h3 := nmSL_len ts[i]
    have h4 := sizeTL_mem ts _ (List.getElem_mem h)
    simp only [List.length_nil] at h2
    unfold rgN0 at h1 ⊢
    omega
attribute [local irreducible] ivN
theorem frzL_one {f : AV → Option AV} {x y : AV} (h : f x = some y) : frzL f [x] = some [y] := by simp only [frzL, h]
theorem stC_cons (x : St) (l : List St) : stC (x :: l) = x.cells ++ stC l := by simp only [stC]
theorem stC_take : ∀ (l : List St) (k : Nat), (stC l).take (k * 7) = stC (l.take k)
  | [], k => by simp [stC]
  | x :: l, 0 => by simp [stC]
  | x :: l, k + 1 => by
    obtain ⟨kd, n, lo, o, ex, t, e⟩ := x
    rw [show (k + 1) * 7 = k * 7 + 1 + 1 + 1 + 1 + 1 + 1 + 1 from by omega]
    simp only [List.take_succ_cons, stC_cons, St.cells, List.cons_append, List.nil_append, stC_take l k]
theorem stC_dropk : ∀ (l : List St) (k : Nat), (stC l).drop (k * 7) = stC (l.drop k)
  | [], k => by simp [stC]
  | x :: l, 0 => by simp
  | x :: l, k + 1 => by
    obtain ⟨kd, n, lo, o, ex, t, e⟩ := x
    rw [show (k + 1) * 7 = k * 7 + 1 + 1 + 1 + 1 + 1 + 1 + 1 from by omega]
    simp only [List.drop_succ_cons, stC_cons, St.cells, List.cons_append, List.nil_append, stC_dropk l k]
theorem stC_one : ∀ l : List St, (stC l).all Go.Abs.one = true
  | [] => by simp only [stC]; rfl
  | x :: l => by
    obtain ⟨kd, n, lo, o, ex, t, e⟩ := x
    simp only [stC_cons, St.cells, List.all_append, stC_one l, Bool.and_true]; rfl
theorem stC_flt : ∀ l : List St, (stC l).all flat1 = true
  | [] => by simp only [stC]; rfl
  | x :: l => by
    obtain ⟨kd, n, lo, o, ex, t, e⟩ := x
    simp only [stC_cons, St.cells, List.all_append, stC_flt l, Bool.and_true]; rfl
theorem st_one : ∀ l : List (List St), (l.map stA).all Go.Abs.one = true
  | [] => rfl
  | x :: l => by simp only [List.map_cons, List.all_cons, st_one l, Bool.and_true]; rfl
theorem spl_set : ∀ (cs : List AV) (k : Nat) (v : AV), k < cs.length → spl cs k [v] = some (cs.set k v)
  | c :: cs, 0, v, h => by cases cs <;> rfl
  | c :: cs, k + 1, v, h => by simp only [spl, spl_set cs k v (by simpa using h)]; rfl
theorem frz_st {H : AHeap} {b f sh len cap : Nat} {cs : List AV} {l : List St} {ty : TypeId} (hH : H[b]? = some ⟨true, f, sh, .cells cs ty⟩) (hc : cs = stC l) (hl : len = l.length) : frz H 28 (.slice b 0 len cap 7) = some (stA l) := by
  subst hc; subst hl
  exact frz_sliceF (n := 26) hH (stC_len l) (stC_flt l)
theorem frzL_set {H : AHeap} {n : Nat} {v : AV} {y : List St} (hv : frz H (n + 1) v = some (stA y)) : ∀ (l : List (List St)) (t : Nat), frzL (frz H (n + 1)) ((l.map stA).set t v) = some ((l.set t y).map stA)
  | [], _ => rfl
  | x :: l, 0 => by
    have := frzL_flat (H := H) (n := n) (st_flat l)
    simp only [List.map_cons, List.set_cons_zero, frzL, hv, this]
  | x :: l, t + 1 => by
    have h1 : frz H (n + 1) (stA x) = some (stA x) := rfl
    simp only [List.map_cons, List.set_cons_succ, frzL, h1, frzL_set hv l t]
theorem frz_sliceS {H : AHeap} {n b f sh len cap t : Nat} {v : AV} {y : List St} {ts : List (List St)} {ty : TypeId} (hH : H[b]? = some ⟨true, f, sh, .cells ((ts.map stA).set t v) ty⟩) (hv : frz H (n + 1) v = some (stA y)) (hl : len = ts.length) (h0 : 0 < ts.length) :
    frz H (n + 2) (.slice b 0 len cap 1) = some (.rs ts.length 1 ((ts.set t y).map stA)) := by
  subst hl
  obtain ⟨m, hm⟩ : ∃ m, ts.length = m + 1 := ⟨ts.length - 1, by omega⟩
  have hc : ((ts.map stA).set t v).length = (m + 1) * 1 := by simp [hm]
  rw [hm]
  unfold frz
  simp only [hH, List.drop_zero, tk_all hc]
  rw [frzL_set hv]
theorem clLaw1 (ds : List Dc) (ts : List (List St)) (th wh : Int) (hp : okP ⟨ds, ts⟩) (hl : lightP ⟨ds, ts⟩ ((3000 : Nat) : Int) = true) (g : Gd ds ts) : ValOK Tryz.prog runLives.gl 4 [(Pr.mk ds ts).av, .int .i64 th, .int .i64 wh] (.bool true) := by
  have hsz := lightP_size ⟨ds, ts⟩ 3000 hl
  obtain ⟨hdl, htl⟩ := lightP_lens ⟨ds, ts⟩ 3000 hl
  simp only at hsz hdl htl
  obtain ⟨⟨hd1, hd2⟩, ht1, ht2⟩ := id hp
  simp only at hd1 hd2 ht1 ht2
  have hpos : 0 < ts.length := by
    have := g.long
    unfold longP at this
    simp only [Bool.or_eq_false_iff, decide_eq_false_iff_not] at this
    omega
  have hq : okP ⟨ds, ts.reverse⟩ := ⟨⟨hd1, hd2⟩, okTL_rev ht1, by simpa using ht2⟩
  have hck := checkX_ok ⟨ds, ts⟩ hp (by simp only; omega)
  have hw1 := chkW_ok ((gd_iff ⟨ds, ts⟩).2 g)
  have hw2 := chkW_ok ((gd_iff ⟨ds, ts.reverse⟩).2 g.rev)
  have ht1' := tabsX_ok ⟨ds, ts⟩ hp (by simp only; omega) (by simp only; omega) (by simp only; omega)
  have ht2' := tabsX_ok ⟨ds, ts.reverse⟩ hq (by simp only [sizeTL_rev]; omega) (by simp only; omega) (by simp only [List.length_reverse]; omega)
  rw [hw1] at ht1' hck
  rw [hw2] at ht2'
  have hwt := (pickZ_in th hpos).1
  obtain ⟨tn, htn⟩ : ∃ tn : Nat, pickZ th ts.length = (tn : Int) := ⟨(pickZ th ts.length).toNat, by omega⟩
  have htl2 : tn < ts.length := by have := (pickZ_in th hpos).2; omega
  obtain ⟨kn, hkn⟩ : ∃ kn : Nat, 0 < ts[tn].length → pickZ wh ts[tn].length = (kn : Int) ∧ kn < ts[tn].length := ⟨(pickZ wh ts[tn].length).toNat, fun h => by have := pickZ_in wh h; omega⟩
  have g3 := g.less (k := kn) htl2
  have hw3 := chkW_ok ((gd_iff ⟨ds, ts.set tn (lessS ts[tn] kn)⟩).2 g3)
  have hr : okP ⟨ds, ts.set tn (lessS ts[tn] kn)⟩ := ⟨⟨hd1, hd2⟩, okTL_set ht1 htl2, by simpa using ht2⟩
  have hck3 := checkX_ok ⟨ds, ts.set tn (lessS ts[tn] kn)⟩ hr (by have := g3.size; simp only; omega)
  rw [hw3] at hck3
  obtain ⟨O, hO, p1, p2, p3, p4, p5, -⟩ := fams (P := Tryz.prog) (gl := runLives.gl) [
    one0 (f := 7) (A := []) (R := .bool true) True (by kernel_rfl) rfl (fun _ => livesV),
    one0 (f := 10) (A := [(Pr.mk ds ts).av, .int .i64 3000]) (R := .bool true) True (by kernel_rfl) rfl (fun _ => hl ▸ lightP_ok ⟨ds, ts⟩ ((3000 : Nat) : Int) hp (by decide) (by decide)),
    { I := List St, f := 14, G := fun l => l ∈ ts, A := fun l => [stA l], R := fun l => rsK (sortB (rgN0 l)), body := (by kernel_rfl), inj := (fun i j _ _ h => by simp only [List.cons.injEq, and_true] at h; rw [stA_inj h]), ok := (fun l hl => ⟨rfl, regsL_ok l (okTL_get ht1 _ hl).1 (okTL_get ht1 _ hl).2 (by have := sizeTL_mem ts _ hl; omega)⟩) },
    { I := List (List UInt8), f := 13, G := fun n => n.length ≤ 1048576, A := fun n => [rsK n, rsK n], R := fun _ => .bool true, body := (by kernel_rfl), inj := (fun _ _ _ _ _ => rfl), ok := (fun n hn => ⟨rfl, ktexts_ok n hn⟩) },
    { I := Int × Nat, f := 15, G := fun p => 0 < p.2 ∧ p.2 ≤ 9223372036854775807, A := fun p => [.int .i64 p.1, .int .i64 (p.2 : Int)], R := fun p => .int .i64 (pickZ p.1 p.2), body := (by kernel_rfl), inj := (fun i j _ _ h => by simp only [List.cons.injEq, AV.int.injEq, true_and, and_true] at h; rw [h.1, Int.ofNat.inj h.2]), ok := (fun p hp => ⟨rfl, pick_ok p.1 p.2 hp.1 hp.2⟩) }] rfl
  have q1 : ∀ H, acall Tryz.prog O H 7 [] = some (.bool true, H) := p1 () trivial
  have q2 : ∀ H, acall Tryz.prog O H 10 [(Pr.mk ds ts).av, .int .i64 3000] = some (.bool true, H) := p2 () trivial
  have q3 : ∀ l ∈ ts, ∀ H, acall Tryz.prog O H 14 [stA l] = some (rsK (sortB (rgN0 l)), H) := p3
  have q4 : ∀ n : List (List UInt8), n.length ≤ 1048576 → ∀ H, acall Tryz.prog O H 13 [rsK n, rsK n] = some (.bool true, H) := p4
  have q5 : ∀ (x : Int) (m : Nat), 0 < m → m ≤ 9223372036854775807 → ∀ H, acall Tryz.prog O H 15 [.int .i64 x, .int .i64 (m : Int)] = some (.int .i64 (pickZ x m), H) := fun x m h1 h2 => p5 (x, m) ⟨h1, h2⟩
  clear p1 p2 p3 p4 p5
  have hO1 : OrcSound Tryz.prog runLives.gl (orcZ (tab2 11 [(Pr.mk ds ts).av] [(Pr.mk ds (ts.set tn (lessS ts[tn] kn))).av] (resW (0, 0, 0)) (resW (0, 0, 0)))) := orcZ_sound fun f args r h => by
    unfold tab2 at h
    split at h
    · rename_i h2; obtain ⟨rfl, rfl⟩ := h2; cases h; exact ⟨rfl, hck⟩
    · split at h
      · rename_i h2; obtain ⟨rfl, rfl⟩ := h2; cases h; exact ⟨rfl, hck3⟩
      · cases h
  have hTT : ∀ f args r, tab2 12 [(Pr.mk ds ts).av] [(Pr.mk ds ts.reverse).av] (tabR ⟨ds, ts⟩ 0) (tabR ⟨ds, ts.reverse⟩ 0) f args = some r → ValOK Tryz.prog runLives.gl f args r := fun f args r h => by
    unfold tab2 at h
    split at h
    · rename_i h2; obtain ⟨rfl, rfl⟩ := h2; cases h; exact ht1'
    · split at h
      · rename_i h2; obtain ⟨rfl, rfl⟩ := h2; cases h; exact ht2'
      · cases h
  have hOO := orcOr_sound hO1 (orcOr_sound (orcE_sound (fs := []) hTT) (orcOr_sound (orcE_sound (fs := [2]) hTT) hO))
  have cN : ∀ f H args, f ≠ 11 → orcZ (tab2 11 [(Pr.mk ds ts).av] [(Pr.mk ds (ts.set tn (lessS ts[tn] kn))).av] (resW (0, 0, 0)) (resW (0, 0, 0))) f args H = none := fun f H args h => by
    unfold orcZ
    split
    · rename_i az _
      have : tab2 11 [(Pr.mk ds ts).av] [(Pr.mk ds (ts.set tn (lessS ts[tn] kn))).av] (resW (0, 0, 0)) (resW (0, 0, 0)) f az = none := by unfold tab2; rw [if_neg (fun e => h e.1), if_neg (fun e => h e.1)]
      rw [this]
    · rfl
  have tN : ∀ fs f H args, f ≠ 12 → orcE fs (tab2 12 [(Pr.mk ds ts).av] [(Pr.mk ds ts.reverse).av] (tabR ⟨ds, ts⟩ 0) (tabR ⟨ds, ts.reverse⟩ 0)) f args H = none := fun fs f H args h => by
    unfold orcE
    split
    · rename_i az _
      have : tab2 12 [(Pr.mk ds ts).av] [(Pr.mk ds ts.reverse).av] (tabR ⟨ds, ts⟩ 0) (tabR ⟨ds, ts.reverse⟩ 0) f az = none := by unfold tab2; rw [if_neg (fun e => h e.1), if_neg (fun e => h e.1)]
      rw [this]
    · rfl
  have c1 : ∀ H, acall Tryz.prog (orcOr (orcZ (tab2 11 [(Pr.mk ds ts).av] [(Pr.mk ds (ts.set tn (lessS ts[tn] kn))).av] (resW (0, 0, 0)) (resW (0, 0, 0)))) (orcOr (orcE [] (tab2 12 [(Pr.mk ds ts).av] [(Pr.mk ds ts.reverse).av] (tabR ⟨ds, ts⟩ 0) (tabR ⟨ds, ts.reverse⟩ 0))) (orcOr (orcE [2] (tab2 12 [(Pr.mk ds ts).av] [(Pr.mk ds ts.reverse).av] (tabR ⟨ds, ts⟩ 0) (tabR ⟨ds, ts.reverse⟩ 0))) O))) H 11 [(Pr.mk ds ts).av] = some (resW (0, 0, 0), H) := fun H => callOr1 (by kernel_rfl) (callZ (by kernel_rfl) rfl (tab2_1 _ _ _ _ _))
  have c2 : ∀ H args, frzL (frz H 30) args = some [(Pr.mk ds (ts.set tn (lessS ts[tn] kn))).av] → acall Tryz.prog (orcOr (orcZ (tab2 11 [(Pr.mk ds ts).av] [(Pr.mk ds (ts.set tn (lessS ts[tn] kn))).av] (resW (0, 0, 0)) (resW (0, 0, 0)))) (orcOr (orcE [] (tab2 12 [(Pr.mk ds ts).av] [(Pr.mk ds ts.reverse).av] (tabR ⟨ds, ts⟩ 0) (tabR ⟨ds, ts.reverse⟩ 0))) (orcOr (orcE [2] (tab2 12 [(Pr.mk ds ts).av] [(Pr.mk ds ts.reverse).av] (tabR ⟨ds, ts⟩ 0) (tabR ⟨ds, ts.reverse⟩ 0))) O))) H 11 args = some (resW (0, 0, 0), H) := fun H args h => callOr1 (by kernel_rfl) (callZ (by kernel_rfl) h (tab2_2 _ _ _ _ _ (fun _ => rfl)))
  have t1 : ∀ H, acall Tryz.prog (orcOr (orcZ (tab2 11 [(Pr.mk ds ts).av] [(Pr.mk ds (ts.set tn (lessS ts[tn] kn))).av] (resW (0, 0, 0)) (resW (0, 0, 0)))) (orcOr (orcE [] (tab2 12 [(Pr.mk ds ts).av] [(Pr.mk ds ts.reverse).av] (tabR ⟨ds, ts⟩ 0) (tabR ⟨ds, ts.reverse⟩ 0))) (orcOr (orcE [2] (tab2 12 [(Pr.mk ds ts).av] [(Pr.mk ds ts.reverse).av] (tabR ⟨ds, ts⟩ 0) (tabR ⟨ds, ts.reverse⟩ 0))) O))) H 12 [(Pr.mk ds ts).av] = some (tabR ⟨ds, ts⟩ 0, kil (fun _ o => mem o.fam []) 0 H) := fun H => callOr2 (by kernel_rfl) (cN _ _ _ (by decide)) (callOr1 (by kernel_rfl) (callE (by kernel_rfl) rfl (tab2_1 _ _ _ _ _)))
  have hinj : [(Pr.mk ds ts.reverse).av] = [(Pr.mk ds ts).av] → tabR ⟨ds, ts.reverse⟩ 0 = tabR ⟨ds, ts⟩ 0 := fun h => by
    simp only [Pr.av, List.cons.injEq, AV.agg.injEq, AV.rs.injEq, and_true, true_and] at h
    rw [map_inj (fun x y h => stA_inj h) h.2]
  have t2 : ∀ H args, frzL (frz (kil (fun _ o => !mem o.fam []) 0 H) 30) args = none → frzL (frz (kil (fun _ o => !mem o.fam [2]) 0 H) 30) args = some [(Pr.mk ds ts.reverse).av] → acall Tryz.prog (orcOr (orcZ (tab2 11 [(Pr.mk ds ts).av] [(Pr.mk ds (ts.set tn (lessS ts[tn] kn))).av] (resW (0, 0, 0)) (resW (0, 0, 0)))) (orcOr (orcE [] (tab2 12 [(Pr.mk ds ts).av] [(Pr.mk ds ts.reverse).av] (tabR ⟨ds, ts⟩ 0) (tabR ⟨ds, ts.reverse⟩ 0))) (orcOr (orcE [2] (tab2 12 [(Pr.mk ds ts).av] [(Pr.mk ds ts.reverse).av] (tabR ⟨ds, ts⟩ 0) (tabR ⟨ds, ts.reverse⟩ 0))) O))) H 12 args = some (tabR ⟨ds, ts.reverse⟩ 0, kil (fun _ o => mem o.fam [2]) 0 H) := fun H args h0 h => callOr2 (by kernel_rfl) (cN _ _ _ (by decide)) (callOr2 (by kernel_rfl) (by unfold orcE; rw [h0]) (callOr1 (by kernel_rfl) (callE (by kernel_rfl) h (tab2_2 _ _ _ _ _ hinj))))
  have lift : ∀ f H args x, f ≠ 11 → f ≠ 12 → hasBody Tryz.prog f = true → acall Tryz.prog O H f args = some x → acall Tryz.prog (orcOr (orcZ (tab2 11 [(Pr.mk ds ts).av] [(Pr.mk ds (ts.set tn (lessS ts[tn] kn))).av] (resW (0, 0, 0)) (resW (0, 0, 0)))) (orcOr (orcE [] (tab2 12 [(Pr.mk ds ts).av] [(Pr.mk ds ts.reverse).av] (tabR ⟨ds, ts⟩ 0) (tabR ⟨ds, ts.reverse⟩ 0))) (orcOr (orcE [2] (tab2 12 [(Pr.mk ds ts).av] [(Pr.mk ds ts.reverse).av] (tabR ⟨ds, ts⟩ 0) (tabR ⟨ds, ts.reverse⟩ 0))) O))) H f args = some x := fun f H args x h1 h2 hb h => callOr2 hb (cN _ _ _ h1) (callOr2 hb (tN _ _ _ _ h2) (callOr2 hb (tN _ _ _ _ h2) h))
  have r1 := fun H => lift _ H _ _ (by decide) (by decide) (by kernel_rfl) (q1 H)
  have r2 := fun H => lift _ H _ _ (by decide) (by decide) (by kernel_rfl) (q2 H)
  have r3 := fun l hl H => lift _ H _ _ (by decide) (by decide) (by kernel_rfl) (q3 l hl H)
  have r4 := fun n hn H => lift _ H _ _ (by decide) (by decide) (by kernel_rfl) (q4 n hn H)
  have r5 := fun x m h1 h2 H => lift _ H _ _ (by decide) (by decide) (by kernel_rfl) (q5 x m h1 h2 H)
  clear q1 q2 q3 q4 q5 lift cN tN hTT hO1 hO hck hck3 ht1' ht2' hw1 hw2 hw3 hinj hp hq hr hl g3
  generalize orcOr (orcZ (tab2 11 [(Pr.mk ds ts).av] [(Pr.mk ds (ts.set tn (lessS ts[tn] kn))).av] (resW (0, 0, 0)) (resW (0, 0, 0)))) (orcOr (orcE [] (tab2 12 [(Pr.mk ds ts).av] [(Pr.mk ds ts.reverse).av] (tabR ⟨ds, ts⟩ 0) (tabR ⟨ds, ts.reverse⟩ 0))) (orcOr (orcE [2] (tab2 12 [(Pr.mk ds ts).av] [(Pr.mk ds ts.reverse).av] (tabR ⟨ds, ts⟩ 0) (tabR ⟨ds, ts.reverse⟩ 0))) O)) = OO at *
  clear O
  simp only [Pr.av, resW, List.length_reverse] at *
  have e1 : IntKind.i64.wrap ((ts.length : Int) - 1) = ivN ts.length 0 := by rw [wrapB (by omega) (by omega)]; unfold ivN; omega
  have hTs : appT Tryz.prog 35 35 = some (64, 7, 120) := by kernel_rfl
  have hTq : appT Tryz.prog 27 27 = some (35, 1, 24) := by kernel_rfl
  refine fn_val follows noNum hOO Tryz.func4 rfl ?_
  repeat' ((conv => whnf); first | (with_reducible refine exI (r1 _) ?_) | (with_reducible refine exI (r2 _) ?_) | (with_reducible refine exI (c1 _) ?_) | (refine exW e1 ?_) | (first | refine stp ?_ | with_reducible refine condB (fun h => ?_) (fun h => ?_)))
  conv => whnf
  refine ⟨Nat, (fun j => j ≤ ts.length), (fun j => [(1, .int .i64 th), (2, .int .i64 wh), (3, .ptr 0 0), (9, .ptr 1 0), (10, .int .i64 (ivN ts.length j))]), (fun j => ⟨true, 0, 0, .cells [.rs ds.length 3 (dcC ds), .rs ts.length 1 (ts.map stA)] 29⟩ :: ⟨true, 1, 0, .cells [.rs ds.length 3 (dcC ds), grA 2 1 (ts.reverse.take j)] 29⟩ :: grB 2 (fun l => l.map stA) 35 (ts.reverse.take j)), (fun j => ts.length - j), ⟨0, Nat.zero_le _, FgL.mk [0, 2] rfl ?_ ⟨⟨rfl, rfl, rfl, rfl, BodyGe.pre (rest := []) rfl rfl⟩, ⟨rfl, rfl, rfl, rfl, body2 (Wk.noref rfl) (Wk.noref rfl)⟩, trivial⟩ rfl⟩, ?_⟩
  · exact ⟨Wk.int rfl, Wk.int rfl, Wk.ptr rfl rfl, Wk.ptr rfl rfl, Wk.int rfl, trivial⟩
  intro j hj
  dsimp only
  have hlen : (ts.reverse.take j).length = j := by rw [List.length_take, List.length_reverse]; omega
  by_cases hlt : j < ts.length
  · have f1 : decide (ivN ts.length j ≥ 0) = true := by rw [ivN_at hlt]; simp
    have f1' : decide (0 ≤ ivN ts.length j) = true := f1
    have f3 := ivN_next hlt htl
    obtain ⟨k, f2, hk, x, hx, hnx⟩ : ∃ k : Nat, ivN ts.length j = (k : Int) ∧ k < ts.length ∧ ∃ x, tk 1 ((ts.map stA).drop (k * 1)) = some [stA x] ∧ ts.reverse.take (j + 1) = ts.reverse.take j ++ [x] :=
      ⟨ts.length - 1 - j, ivN_at hlt, by omega, _, tk1_map stA ts (ts.length - 1 - j) (by omega) (off := (ts.length - 1 - j) * 1) (by omega), rev_next ts j hlt⟩
    generalize ts.reverse.take j = o at *
    simp only [stA] at hx
    rcases o with _ | ⟨z, o⟩
    · repeat' ((conv => whnf); first | (with_reducible refine ixJ k f2 ?_ ?_; (focus (omega))) | (refine exI hx ?_) | (refine exW f3 ?_) | (refine apS ?_) | (first | refine stp ?_ | with_reducible refine condB (fun h => ?_) (fun h => ?_)))
      conv => whnf
      refine ⟨j + 1, hlt, by show ts.length - (j + 1) < ts.length - j; omega, ?_⟩
      dsimp only
      rw [hnx]
      exact FgL.mk [0, 1, 3] rfl ⟨Wk.int rfl, Wk.int rfl, Wk.ptr rfl rfl, Wk.ptr rfl rfl, Wk.int rfl, trivial⟩ ⟨⟨rfl, rfl, rfl, rfl, BodyGe.pre (rest := []) rfl rfl⟩, ⟨rfl, rfl, rfl, rfl, body2 (Wk.noref rfl) (Wk.slice rfl rfl rfl (Nat.le_refl _) (Nat.le_refl _) rfl)⟩, ⟨rfl, rfl, rfl, rfl, BodyGe.pre (rest := []) rfl rfl⟩, trivial⟩ rfl
    · simp only [List.length_cons] at hlen
      have hcl : ((z :: o).map stA).length = (o.length + 1) * 1 := by simp
      repeat' ((conv => whnf); first | (with_reducible refine ixJ k f2 ?_ ?_; (focus (omega))) | (refine exI hx ?_) | (refine exW f3 ?_) | (refine apS ?_) | (first | refine stp ?_ | with_reducible refine condB (fun h => ?_) (fun h => ?_)))
      conv => whnf
      refine ⟨j + 1, hlt, by show ts.length - (j + 1) < ts.length - j; omega, ?_⟩
      dsimp only
      rw [hnx]
      exact FgL.mk [0, 1, 4] rfl ⟨Wk.int rfl, Wk.int rfl, Wk.ptr rfl rfl, Wk.ptr rfl rfl, Wk.int rfl, trivial⟩ ⟨⟨rfl, rfl, rfl, rfl, BodyGe.pre (rest := []) rfl rfl⟩, ⟨rfl, rfl, rfl, rfl, body2 (Wk.noref rfl) (Wk.slice rfl rfl (by first | rfl | (simp; done) | (simp; omega)) (Nat.le_refl _) (by first | rfl | (simp; done) | (simp; omega)) rfl)⟩, ⟨rfl, rfl, rfl, rfl, BodyGe.pre (rest := []) (by simp [stA]) (refsL_flat (flat12 (st_flat (z :: o ++ [x]))))⟩, trivial⟩ rfl
  · have hj2 : j = ts.length := by have := hj; omega
    subst hj2
    have f1 : decide (ivN ts.length ts.length ≥ 0) = false := by unfold ivN; simp; omega
    rw [List.take_of_length_le (by simp)] at hlen ⊢
    have hR1 : tabR ⟨ds, ts⟩ 0 = .tuple [.agg [.rs ds.length 3 (dcC ds), .rs (rgT ts).length 1 ((rgT ts).map rsK)], .int .i64 0] := rfl
    have hR2 : tabR ⟨ds, ts.reverse⟩ 0 = .tuple [.agg [.rs ds.length 3 (dcC ds), .rs (rgT ts.reverse).length 1 ((rgT ts.reverse).map rsK)], .int .i64 0] := rfl
    rw [hR1] at t1
    rw [hR2] at t2
    clear hR1 hR2
    have hfl := st_flat ts.reverse
    have hln : (ts.reverse.map stA).length = ts.length * 1 := by simp
    have hl1 := rgT_len ts
    have hl2 := rgT_len ts.reverse
    rw [List.length_reverse] at hl2
    rw [hl1] at t1
    rw [hl2] at t2
    have g1 : ((ts.length : Int) != (ts.length : Int)) = false := bne_of (b := true) (by simp)
    obtain ⟨z, o, hrev⟩ : ∃ z o, ts.reverse = z :: o := by
      cases h : ts.reverse with
      | nil => rw [h] at hlen; simp at hlen; omega
      | cons z o => exact ⟨z, o, rfl⟩
    have hol : o.length + 1 = ts.length := by rw [hrev] at hlen; simpa using hlen
    rw [hrev] at hfl hln ⊢
    rw [hrev] at t2
    rw [← hol] at hln t2
    simp only [grA, grB]
    repeat' ((conv => whnf); first | (refine exI (t1 _) ?_) | (refine exI (t2 _ _ rfl (frzL_one (frz_agg2 (n := 29) rfl (frz_sliceF (n := 27) (b := 2) rfl hln hfl)))) ?_) | (first | refine stp ?_ | with_reducible refine condB (fun h => ?_) (fun h => ?_)))
    conv => whnf
    refine ⟨Nat, (fun i => i ≤ ts.length), (fun i => [(1, .int .i64 th), (2, .int .i64 wh), (3, .ptr 0 0), (11, .ptr 1 0), (13, .ptr 2 0), (15, .int .i64 i)]), (fun i => [⟨true, 0, 0, .cells [.rs ds.length 3 (dcC ds), .rs ts.length 1 (ts.map stA)] 29⟩, ⟨true, 1, 0, .cells [.rs ds.length 3 (dcC ds), .rs ts.length 1 ((rgT ts).map rsK)] 38⟩, ⟨true, 2, 0, .cells [.rs ds.length 3 (dcC ds), .rs (o.length + 1) 1 ((rgT (z :: o)).map rsK)] 38⟩]), (fun i => ts.length - i), ⟨0, Nat.zero_le _, FgL.mk [0, 3, 4] rfl ?_ ⟨⟨rfl, rfl, rfl, rfl, BodyGe.pre (rest := []) rfl rfl⟩, ⟨rfl, rfl, rfl, rfl, BodyGe.pre (rest := []) rfl rfl⟩, ⟨rfl, rfl, rfl, rfl, BodyGe.pre (rest := []) rfl rfl⟩, trivial⟩ rfl⟩, ?_⟩
    · exact ⟨Wk.int rfl, Wk.int rfl, Wk.ptr rfl rfl, Wk.ptr rfl rfl, Wk.ptr rfl rfl, Wk.int rfl, trivial⟩
    intro i hi
    dsimp only
    by_cases hit : i < ts.length
    · have f4 : decide ((i : Int) < (ts.length : Int)) = true := by simpa using hit
      have f5 := ivN_sub hit htl
      have e1' : IntKind.i64.wrap (((o.length + 1 : Nat) : Int) - 1) = ivN ts.length 0 := by rw [hol]; exact e1
      have e1'' : IntKind.i64.wrap (((o.length : Nat) : Int) + 1 - 1) = ivN ts.length 0 := by have := e1'; simpa using this
      obtain ⟨k, f6, hk, x, hm, hx1, hx2, hx3, hx4⟩ := regs_at ts hit (by omega)
      rw [hrev] at hx3
      have r3 := r3 x hm
      have r4 := r4 _ hx4
      generalize sortB (rgN0 x) = v at *
      simp only [stA, rsK] at hx1 hx2 hx3 r3 r4
      repeat' ((conv => whnf); first | (with_reducible refine exI (r3 _) ?_) | (with_reducible refine exI (r4 _) ?_) | (with_reducible refine ixJ i rfl ?_ ?_; (focus (omega))) | (with_reducible refine ixJ k f6 ?_ ?_; (focus (omega))) | (refine exI hx1 ?_) | (refine exI hx2 ?_) | (refine exI hx3 ?_) | (refine exW e1' ?_) | (refine exW e1'' ?_) | (refine exW f5 ?_) | (first | refine stp ?_ | with_reducible refine condB (fun h => ?_) (fun h => ?_)))
      conv => whnf
      refine ⟨i + 1, hit, by show ts.length - (i + 1) < ts.length - i; omega, ?_⟩
      exact FgL.mk [0, 1, 2] rfl ⟨Wk.int rfl, Wk.int rfl, Wk.ptr rfl rfl, Wk.ptr rfl rfl, Wk.ptr rfl rfl, Wk.int rfl, trivial⟩ ⟨⟨rfl, rfl, rfl, rfl, BodyGe.pre (rest := []) rfl rfl⟩, ⟨rfl, rfl, rfl, rfl, BodyGe.pre (rest := []) rfl rfl⟩, ⟨rfl, rfl, rfl, rfl, BodyGe.pre (rest := []) rfl rfl⟩, trivial⟩ rfl
    · have f4 : decide ((i : Int) < (ts.length : Int)) = false := by simpa using hit
      have r6 := r5 th ts.length hpos (by omega)
      rw [htn] at r6
      have hx := th1 ts tn htl2
      obtain ⟨x, hxe⟩ : ∃ x, ts[tn] = x := ⟨_, rfl⟩
      rw [hxe] at c2 hkn hx
      have hxl : x.length ≤ 3000 := by
        have h1 := sizeTL_mem ts _ (List.getElem_mem htl2)
        rw [hxe] at h1
        have h2 := sizeSL_len x
        omega
      simp only [stA] at hx
      by_cases hx0 : 0 < x.length
      · obtain ⟨hk1, hk2⟩ := hkn hx0
        have r7 := r5 wh x.length hx0 (by omega)
        rw [hk1] at r7
        have f7 : ((x.length : Int) == 0) = false := by simp; exact fun h => by rw [h] at hx0; simp at hx0
        have f8 : IntKind.i64.wrap ((kn : Int) + 1) = ((kn + 1 : Nat) : Int) := wrapN1 (by omega)
        repeat' ((conv => whnf); first | (with_reducible refine exI (r6 _) ?_) | (with_reducible refine exI (r7 _) ?_) | (with_reducible refine ixJ tn rfl ?_ ?_; (focus (omega))) | (refine exI hx ?_) | (refine exW f8 ?_) | (first | refine stp ?_ | with_reducible refine condB (fun h => ?_) (fun h => ?_)))
        conv => whnf
        have s1 : AV.rs (kn - 0) 7 (List.take ((kn - 0) * 7) (List.drop (0 * 7) (stC x))) = stA (x.take kn) := by
          rw [Nat.zero_mul, List.drop_zero, Nat.sub_zero, stC_take]
          unfold stA
          rw [List.length_take, Nat.min_eq_left (by omega)]
        rw [s1]
        unfold lessS at c2
        have hA : (x.take kn).length ≤ 3000 := by rw [List.length_take]; omega
        have hB : (x.drop (kn + 1)).length ≤ 3000 := by rw [List.length_drop]; omega
        have s2 : AV.rs (x.length - (kn + 1)) 7 (List.take ((x.length - (kn + 1)) * 7) (List.drop ((kn + 1) * 7) (stC x))) = stA (x.drop (kn + 1)) := by
          rw [stC_dropk]
          unfold stA
          rw [List.length_drop, List.take_of_length_le (by rw [stC_len, List.length_drop]; exact Nat.le_refl _)]
        generalize x.take kn = A at *
        generalize x.drop (kn + 1) = B at *
        have hAo := stC_one A
        have hBo := stC_one B
        have hAl := stC_len A
        have hBl := stC_len B
        have hTo := st_one ts
        have hTl : (ts.map stA).length = ts.length * 1 := by simp
        have hw : ∀ v, spl (ts.map stA) (0 + tn * 1) [v] = some ((ts.map stA).set tn v) := fun v => by rw [show 0 + tn * 1 = tn from by omega]; exact spl_set _ _ _ (by simpa using htl2)
        simp only [List.length_set] at c2
        have f9 : ((0 : Int) == 0) = true := rfl
        rcases A with _ | ⟨a0, A⟩ <;> rcases B with _ | ⟨b0, B⟩ <;> simp only [stA, List.length_cons] at s2 hA hB hAl hBl ⊢
        all_goals
          repeat' ((conv => whnf); first | (rw [s2]; refine apS ?_) | (with_reducible refine ixJ tn rfl ?_ ?_; (focus (omega))) | (refine exI hx ?_) | (refine exI (hw _) ?_) | (refine exW f8 ?_) | (refine apS ?_)| (first | refine stp ?_ | with_reducible refine condB (fun h => ?_) (fun h => ?_)))
          conv => whnf
          refine exI (c2 _ _ (frzL_one (frz_agg2 (n := 29) rfl (frz_sliceS (n := 27) rfl ?hv ?hl hpos)))) ?_
          case hv =>
            refine frz_st rfl ?_ ?_
            · first | rfl | (exact (stC_app _ _).symm) | (simp; done) | (rw [List.append_nil]; rfl)
            · first | rfl | (simp; done) | (simp; omega)
          case hl => omega
          repeat' ((conv => whnf); (first | refine stp ?_ | with_reducible refine condB (fun h => ?_) (fun h => ?_)))
          all_goals rfl
      · have hx1 : x = [] := List.eq_nil_of_length_eq_zero (by omega)
        subst hx1
        repeat' ((conv => whnf); first | (with_reducible refine exI (r6 _) ?_) | (with_reducible refine ixJ tn rfl ?_ ?_; (focus (omega))) | (refine exI hx ?_) | (first | refine stp ?_ | with_reducible refine condB (fun h => ?_) (fun h => ?_)))
        all_goals rfl
end Go.Proofs.YtblnhcafobifgaaGreatDoor.lex
end


section

set_option linter.unusedVariables false
namespace Go.Proofs.YtblnhcafobifgaaGreatDoor.clLaw
open Go.Abs Go.RowKit
def Qs : List (AV → Prop) := [fun u => ∃ p : lex.Pr, u = p.av ∧ lex.okP p, fun u => ∃ n, u = .int .i64 n ∧ (Lit.int .i64 n).wf = true, fun u => ∃ n, u = .int .i64 n ∧ (Lit.int .i64 n).wf = true]
theorem opens : OpensAll Tryz.prog Tryz.f4.params.toList Qs := by
  rw [Tryz.params4]
  exact ⟨lex.opensP, opensV_int Tryz.underlying3, opensV_int Tryz.underlying3, trivial⟩
theorem law (us : List AV) (h : AllQ Qs us) : ValOK Tryz.prog runLives.gl 4 us (.bool true) := by
  obtain ⟨_, _, rfl, ⟨p, rfl, hp⟩, h1⟩ := allQ_cons h
  obtain ⟨_, _, rfl, ⟨b, rfl, hb⟩, h2⟩ := allQ_cons h1
  obtain ⟨_, _, rfl, ⟨c, rfl, hc⟩, h3⟩ := allQ_cons h2
  cases allQ_nil h3
  by_cases hx : lex.lightP p ((3000 : Nat) : Int) = true ∧ (lex.chkW p).2.2 = 0
  · obtain ⟨ds, ts⟩ := p
    exact lex.clLaw1 ds ts b c hp hx.1 ((lex.gd_iff ⟨ds, ts⟩).1 hx.2)
  · exact lex.clLaw0 p b c hp fun h1 h2 => hx ⟨h1, h2⟩
theorem solid : Solid Tryz.prog := by unfold Solid; kernel_rfl
end Go.Proofs.YtblnhcafobifgaaGreatDoor.clLaw
end


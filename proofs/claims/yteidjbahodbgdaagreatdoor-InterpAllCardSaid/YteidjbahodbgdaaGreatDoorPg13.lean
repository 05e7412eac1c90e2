/-
  Texts of this proof, one behind the other (part 13).
-/
import Derived.Test.YteidjbahodbgdaaGreatDoorPg12
set_option linter.unusedVariables false
set_option linter.unusedSimpArgs false

section
namespace Go.Proofs.YteidjbahodbgdaaGreatDoor.lex
open Go.Abs Go.RowKit Go.Flat
set_option maxRecDepth 100000
set_option maxHeartbeats 4000000
variable {gl : Z0l}
theorem Zec {O : Orc} (hO : Z06 Tryz.prog gl O) : ∃ O', Z06 Tryz.prog gl O' /\ (∀ (r : List Int) (e : Ex), okE e -> Z0f e <= 1048576 -> Z0q r.length e = true -> ∀ H args, Z0L (frz H 30) args = some [.agg e.cells, rsI r] -> Z04 Tryz.prog O' H 60 args = some (.int .i64 (evC r e), H)) /\
  ∀ g, g ≠ 60 -> ∀ args H, Z04 Tryz.prog O' H g args = Z04 Tryz.prog O H g args := by
 obtain ⟨O', h1, h2, h3⟩ := Z7B (P := Tryz.prog) (gl := gl) (I := List Int × Ex) (f0 := 60) (G := fun i => okE i.2 /\ Z0f i.2 <= 1048576 /\ Z0q i.1.length i.2 = true) (A := fun i => [.agg i.2.cells, rsI i.1]) (R := fun i => .int .i64 (evC i.1 i.2))
  (fun _ _ => rfl) (fun i j _ _ h => by
   simp only [List.cons.injEq, AV.agg.injEq, rsI, AV.rs.injEq, and_true, true_and] at h
   obtain ⟨h1, _, h2⟩ := h
   rw [Z4H h2, Z16 _ _ h1]) (fun i h => Zav _ _ _ (Nat.le_refl _) h.1 h.2.1 h.2.2) (by kernel_rfl) hO
 exact ⟨O', h1, fun r e g1 g2 g3 H args ha => h2 (r, e) ⟨g1, g2, g3⟩ H args ha, h3⟩
theorem Zhu {H : Z00} {xo xn : Int} {xs : List UInt8} {xk S : AV} {r : List Int} (hk : frz H 29 xk = some xk) (hS : frz H 30 S = some (rsI r)) : Z0L (frz H 30) [.agg [.int .i64 xo, .int .i64 xn, .str xs, xk], S] = some [.agg [.int .i64 xo, .int .i64 xn, .str xs, xk], rsI r] := by
 have h2 : frz H 30 (.agg [.int .i64 xo, .int .i64 xn, .str xs, xk]) = some (.agg [.int .i64 xo, .int .i64 xn, .str xs, xk]) := by
  show (match Z0L (frz H 29) [.int .i64 xo, .int .i64 xn, .str xs, xk] with | some l => some (AV.agg l) | none => none) = _
  simp only [Z0L, hk]
  rfl
 simp only [Z0L, h2, hS]
theorem Z0Y {H : Z00} {E E' R R' : AV} {f a1 a2 a3 a4 a5 p k : Int} (hE : frz H 29 E = some E') (hR : frz H 29 R = some R') :
  frz H 30 (.agg [E, .int .i64 f, .int .i64 a1, .int .i64 a2, .int .i64 a3, .int .i64 a4, .int .i64 a5, .int .i64 p, R, .int .i64 k]) = some (.agg [E', .int .i64 f, .int .i64 a1, .int .i64 a2, .int .i64 a3, .int .i64 a4, .int .i64 a5, .int .i64 p, R', .int .i64 k]) := by
 show (match Z0L (frz H 29) [E, .int .i64 f, .int .i64 a1, .int .i64 a2, .int .i64 a3, .int .i64 a4, .int .i64 a5, .int .i64 p, R, .int .i64 k] with | some l => some (AV.agg l) | none => none) = _
 simp only [Z0L, hE, hR]
 rfl
theorem Z3J {sn : Z0j} {E E' R R' : AV} {v : Value} (hE : ∀ v, VR sn noI E v -> VR sn noI E' v) (hR : ∀ v, VR sn noI R v -> VR sn noI R' v) {f a1 a2 a3 a4 a5 p k : AV}
  (h : VR sn noI (.agg [E, f, a1, a2, a3, a4, a5, p, R, k]) v) : VR sn noI (.agg [E', f, a1, a2, a3, a4, a5, p, R', k]) v := by
 simp only [VR, LR] at h ⊢
 obtain ⟨g, hg, g1, m1, f1, r1, g2, m2, f2, r2, g3, m3, f3, r3, g4, m4, f4, r4, g5, m5, f5, r5, g6, m6, f6, r6, g7, m7, f7, r7, g8, m8, f8, r8, g9, m9, f9, r9, rest⟩ := h
 exact ⟨g, hg, g1, m1, f1, hE _ r1, g2, m2, f2, r2, g3, m3, f3, r3, g4, m4, f4, r4, g5, m5, f5, r5, g6, m6, f6, r6, g7, m7, f7, r7, g8, m8, f8, r8, g9, m9, f9, hR _ r9, rest⟩
def Zn5 : List AV := [.nslice, .int .i64 0, .int .i64 0, .int .i64 0, .int .i64 0, .int .i64 0, .int .i64 0, .int .i64 0, .nslice, .int .i64 0]
def gwH (regs : Int) (l : List Ins) (s : Th) (asked : Nat) : Z00 :=
 ⟨true, 0, 0, .cells [.int .i64 regs, .rs l.length 6 (inC l)] 24⟩ :: ⟨true, 1, 0, .cells Zn5 37⟩ :: ⟨true, 2, 0, .cells [grA 4 5 s.evs, .int .i64 0, .int .i64 0, .int .i64 0, .int .i64 0, .int .i64 0, .int .i64 0, .int .i64 (s.at_ : Nat), .slice 3 0 s.regs.length s.regs.length 1, .int .i64 (asked : Nat)] 37⟩ :: ⟨true, 3, 0, .cells (ksC s.regs) 2⟩ :: grB 4 Z14 47 s.evs
def gwI (k rg lo od to : Int) (ex : List Ex) (n : Nat) : AObj := ⟨true, n, 0, .cells [.int .i64 k, .int .i64 rg, .int .i64 lo, .int .i64 od, .int .i64 to, .rs ex.length 4 (exC ex)] 62⟩
theorem Zj5 {regs : Nat} {l : List Ins} (hr : Runs regs l) (ha : Acy (nxL l) l.length) (h16 : regs <= 16) (az : List Int) (hal : az.length <= 1000) :
  ValOK Tryz.prog gl 37 [.agg [.int .i64 regs, .rs l.length 6 (inC l)], rsI az] (.agg (Z0T (goI l az (th0 regs) 0))) := by
 obtain ⟨rank, hrank⟩ := ha
 have hf := hr.good.few
 have hinjA : ∀ i j : Qu × Int, Z3d i.1.kind = true -> Z3d j.1.kind = true -> [AV.agg (quC i.1), .int .i64 i.2] = [AV.agg (quC j.1), .int .i64 j.2] -> AV.tuple [.agg (Z0c (ans wrI i.1 i.2)), .int .i64 0] = .tuple [.agg (Z0c (ans wrI j.1 j.2)), .int .i64 0] := fun i j _ _ h => by
  obtain ⟨⟨k, lo, od, a, b⟩, v⟩ := i
  obtain ⟨⟨k', lo', od', a', b'⟩, v'⟩ := j
  simp only [quC, List.cons.injEq, AV.agg.injEq, AV.int.injEq, true_and, and_true] at h
  obtain ⟨⟨rfl, rfl, rfl, rfl, rfl⟩, rfl⟩ := h
  rfl
 obtain ⟨O1, hO1, p2, -⟩ := fams (P := Tryz.prog) (gl := gl) [{ I := Qu × Int, f := 41, G := fun i => Z3d i.1.kind = true, A := fun i => [.agg (quC i.1), .int .i64 i.2], R := fun i => .tuple [.agg (Z0c (ans wrI i.1 i.2)), .int .i64 0], body := (by kernel_rfl), inj := hinjA, ok := (fun i hi => ⟨rfl, by have h := Z90 (gl := gl) i.1 i.2; rw [show Z83 i.1 i.2 = ans wrI i.1 i.2 from if_pos hi, show Z82 i.1 = 0 from if_pos hi] at h; exact h⟩) }] rfl
 obtain ⟨O, hO, q3, hoth⟩ := Zec hO1
 have q2 : ∀ (q : Qu) (v : Int), Z3d q.kind = true -> ∀ H, Z04 Tryz.prog O H 41 [.agg (quC q), .int .i64 v] = some (.tuple [.agg (Z0c (ans wrI q v)), .int .i64 0], H) := fun q v h H => (hoth _ (by show (41 : Nat) ≠ 60; decide) _ _).trans (p2 (q, v) h H)
 clear p2 hoth hO1 hinjA
 have hm := Zca regs (by omega)
 have hT : Z74 Tryz.prog 33 33 = some (47, 5, 40) := by kernel_rfl
 have hT2 : Z74 Tryz.prog 25 25 = some (2, 1, 8) := by kernel_rfl
 generalize hST : goI l az (th0 regs) 0 = ST
 simp only [rsI]
 refine fn_valX (Φ := fun r' => ∀ sn v, VR sn noI r' v -> VR sn noI (.agg (Z0T ST)) v) follows Z09 hO (fun r' h => h) Tryz.func37 rfl (Z3G _ _) ?_
 repeat' ((conv => whnf); first | (refine exI (hm _) ?_) | (first | refine stp ?_ | with_reducible refine Z01 (fun h => ?_) (fun h => ?_)))
 conv => whnf
 refine ⟨Th × Nat, (fun x => Rch (nxL l) x.1.at_ /\ x.1.regs.length = regs /\ x.1.evs.length + rank x.1.at_ <= l.length /\ x.2 <= az.length /\ goI l (az.drop x.2) x.1 x.2 = ST), (fun x => [(1, .rs az.length 1 (ksC az)), (2, .ptr 0 0), (4, .ptr 1 0), (5, .ptr 2 0)]), (fun x => gwH regs l x.1 x.2), (fun x => rank x.1.at_), ⟨(th0 regs, 0), ⟨.zero, List.length_replicate, by have := hrank.1 0 .zero; show 0 + rank 0 <= _; omega, Nat.zero_le _, hST⟩, ?_⟩, ?_⟩
 · have hz : ksC (th0 regs).regs = Z4u regs [.int .i64 0] := Z9C regs
   have hzl : (th0 regs).regs.length = regs := List.length_replicate
   simp only [gwH, hzl]
   try rw [<- hz]
   exact fgA [0, 1, 3, 2]
 rintro ⟨s, asked⟩ ⟨hs, hrl, hev, has, hgo⟩
 (try dsimp only at hs hrl hev has hgo)
 (try dsimp only)
 have hat := hr.good.lt hs
 have hio := hr.ins _ hat
 have hon : ∀ t, Flat.stp evF (Z0h l s.at_) s = .on t -> (Rch (nxL l) t.at_ /\ t.regs.length = regs /\ t.evs.length + rank t.at_ <= l.length /\ asked <= az.length /\ goI l (az.drop asked) t asked = ST) /\ rank t.at_ < rank s.at_ := fun t hst => by
  have hn : t.at_ ∈ nxL l s.at_ := Z6l evF hst
  have hrk := hrank.2 _ _ hs hn
  have hl2 := ZbT hst
  have hr2 := Z9f hst
  exact ⟨⟨.next hs hn, hr2.trans hrl, by omega, has, by rw [<- hgo]; exact (Zmw evF wrI (Z0h l) hrank.2 hrank.1 hs hst).symm⟩, hrk⟩
 have hends : ∀ e, Flat.stp evF (Z0h l s.at_) s = .ends e -> ST = ⟨s, e, none, asked⟩ := fun e hst => by
  rw [<- hgo]; exact ZlJ evF wrI (Z0h l) hrank.1 hs hst
 have hask0 : Flat.stp evF (Z0h l s.at_) s = .asks -> asked = az.length -> ST = ⟨s, 0, some (qu evF (Z0h l s.at_) s.regs), asked⟩ := fun hst he => by
  rw [<- hgo, he, List.drop_length]; exact ZlK evF wrI (Z0h l) hrank.1 hs hst
 have hask1 : Flat.stp evF (Z0h l s.at_) s = .asks -> ∀ h : asked < az.length, (Rch (nxL l) (Z1k evF wrI (Z0h l s.at_) s az[asked]).at_ /\ (Z1k evF wrI (Z0h l s.at_) s az[asked]).regs.length = regs /\ (Z1k evF wrI (Z0h l s.at_) s az[asked]).evs.length + rank (Z1k evF wrI (Z0h l s.at_) s az[asked]).at_ <= l.length /\ asked + 1 <= az.length /\ goI l (az.drop (asked + 1)) (Z1k evF wrI (Z0h l s.at_) s az[asked]) (asked + 1) = ST) /\ rank (Z1k evF wrI (Z0h l s.at_) s az[asked]).at_ < rank s.at_ := fun hst h => by
  have hn : s.at_ + 1 ∈ nxL l s.at_ := ZgT evF hst
  have hrk := hrank.2 _ _ hs hn
  have e3 : (Z1k evF wrI (Z0h l s.at_) s az[asked]).evs.length = s.evs.length + 1 := by show (s.evs ++ [_]).length = _; simp
  have e4 : (Z1k evF wrI (Z0h l s.at_) s az[asked]).at_ = s.at_ + 1 := rfl
  refine ⟨⟨.next hs hn, by show (s.regs.set _ _).length = _; rw [List.length_set]; exact hrl, by rw [e3, e4]; omega, h, ?_⟩, hrk⟩
  rw [<- hgo, List.drop_eq_getElem_cons h]; exact (Zkj evF wrI (Z0h l) hrank.1 hs hst).symm
 have hx := in6 l s.at_ hat
 rw [<- Z2V hat] at hx
 have hevl : s.evs.length <= 4000 := by omega
 have hat4 : s.at_ < 4000 := by omega
 clear hgo hev hs hm hST
 generalize Z0h l s.at_ = i at *
 have hright := hio.right
 have hxok := hio.ok
 rw [<- hrl] at hright
 have hex2 := Zdh i.kind
 have hexn := hio.nex
 have wa : IntKind.i64.wrap ((s.at_ : Int) + 1) = ((s.at_ + 1 : Nat) : Int) := Z2n (by omega)
 have wk : IntKind.i64.wrap ((asked : Int) + 1) = ((asked + 1 : Nat) : Int) := Z2n (by omega)
 obtain ⟨p, r, evs⟩ := s
 obtain ⟨k, rg, lo, od, to, ex⟩ := i
 simp only at hat hrl hx hevl hright hxok hexn hex2 wa
 obtain ⟨E, hE⟩ : ∃ E, evs = E := ⟨_, rfl⟩
 rw [hE] at hon hends hask0 hask1
 rcases evs with _ | ⟨z, evs⟩
 case' cons => have hcl := Z0g z evs; have hon1 := Z10 (z :: evs); simp only [List.length_cons] at hevl
 case' nil =>
  simp only [gwH, grA, grB, Z0m, exA] at *
  repeat' ((conv => whnf); first | (refine exI hx ?_) | (with_reducible refine ixJ p rfl ?_ ?_; (focus (omega))) | (first | refine stp ?_ | with_reducible refine Z01 (fun h => ?_) (fun h => ?_)))
  conv => whnf
  refine ⟨Nat, (fun n => n <= ex.length), (fun n => [(1, .rs az.length 1 (ksC az)), (2, .ptr 0 0), (4, .ptr 1 0), (5, .ptr 2 0), (6, .ptr 4 0), (7, grA 5 1 (evCL r (ex.take n))), (8, .int .i64 (n : Nat))]), (fun n => gwH regs l ⟨p, r, []⟩ asked ++ gwI k rg lo od to ex 4 :: grB 5 ksC 2 (evCL r (ex.take n))), (fun n => ex.length - n), ⟨0, Nat.zero_le _, ?_⟩, ?_⟩
  · simp only [gwH, gwI, grA, grB, List.cons_append, List.nil_append, List.length_cons, List.take_zero, evCL]
    exact fgA [0, 1, 2, 3, 4]
 case' cons =>
  simp only [gwH, grA, grB, Z0m, exA] at *
  repeat' ((conv => whnf); first | (refine exI hx ?_) | (with_reducible refine ixJ p rfl ?_ ?_; (focus (omega))) | (first | refine stp ?_ | with_reducible refine Z01 (fun h => ?_) (fun h => ?_)))
  conv => whnf
  refine ⟨Nat, (fun n => n <= ex.length), (fun n => [(1, .rs az.length 1 (ksC az)), (2, .ptr 0 0), (4, .ptr 1 0), (5, .ptr 2 0), (6, .ptr 5 0), (7, grA 6 1 (evCL r (ex.take n))), (8, .int .i64 (n : Nat))]), (fun n => gwH regs l ⟨p, r, z :: evs⟩ asked ++ gwI k rg lo od to ex 5 :: grB 6 ksC 2 (evCL r (ex.take n))), (fun n => ex.length - n), ⟨0, Nat.zero_le _, ?_⟩, ?_⟩
  · simp only [gwH, gwI, grA, grB, List.cons_append, List.nil_append, List.length_cons, List.take_zero, evCL]
    exact fgA [0, 1, 2, 3, 4, 5]
 all_goals
  intro n hn
  (try dsimp only at hn)
  (try dsimp only)
  simp only [gwH, gwI, grA, grB, List.cons_append, List.nil_append, List.length_cons]
  by_cases hlt : n < ex.length
  · have e3 : decide ((n : Int) < (ex.length : Int)) = true := by simpa using hlt
    have hxe := ex4 ex n hlt
    have hmm := Z0i hlt
    have q3k := q3 r ex[n] (hxok _ hmm).1 (hxok _ hmm).2 (hright _ hmm)
    have hsn : evCL r (ex.take (n + 1)) = evCL r (ex.take n) ++ [evC r ex[n]] := by
     rw [Z2i, Z2i, List.take_succ_eq_append_getElem hlt, List.map_append]; rfl
    have hol : (evCL r (ex.take n)).length <= 2 := by rw [Z2i, List.length_map, List.length_take]; omega
    clear q2 q3 hright hxok hon hends hask0 hask1 hx hio
    generalize evCL r (ex.take n) = o at *
    generalize evC r ex[n] = y at *
    generalize ex[n] = x at *
    obtain ⟨xo, xn, xs, xk⟩ := x
    simp only [Ex.cells] at hxe q3k
    rcases o with _ | ⟨y0, o⟩
    case' cons => have hcl2 := Z2e y0 o; have hon2 := Z4G (y0 :: o); simp only [List.length_cons] at hol
    all_goals
     simp only [grA, grB]
     repeat' ((conv => whnf); first | (refine exI (q3k _ _ ?_) ?_; (focus (exact Zhu rfl (Z02 (n := 28) (b := 3) rfl (Z0d _) (Z0e _))))) | (refine exI hxe ?_) | (with_reducible refine ixJ n rfl ?_ ?_; (focus (omega))) | (refine apS ?_) | (first | refine stp ?_ | with_reducible refine Z01 (fun h => ?_) (fun h => ?_)))
     conv => whnf
     refine ⟨n + 1, hlt, by show ex.length - (n + 1) < ex.length - n; omega, ?_⟩
     rw [hsn]
     simp only [grA, grB, List.nil_append, List.cons_append, List.length_append, List.length_cons, List.length_nil]
     first | exact fgA [0, 1, 2, 3, 4, 6] | exact fgA [0, 1, 2, 3, 4, 7] | exact fgA [0, 1, 2, 3, 4, 5, 7] | exact fgA [0, 1, 2, 3, 4, 5, 8]
  · have e3 : decide ((n : Int) < (ex.length : Int)) = false := by simpa using hlt
    obtain rfl : n = ex.length := by omega
    rw [List.take_length]
    clear q3 hright hxok hx
    have hkk := hio.kind
    have hreg := hio.reg
    have hto := hio.to
    simp only at hkk hreg hto
    clear hio
    have hkc : k = 1 \/ k = 2 \/ k = 3 \/ k = 4 \/ k = 5 \/ k = 6 \/ k = 7 \/ k = 8 \/ k = 9 \/ k = 10 \/ k = 11 \/ k = 12 \/ k = 13 := by omega
    rcases hkc with rfl | rfl | rfl | rfl | rfl | rfl | rfl | rfl | rfl | rfl | rfl | rfl | rfl
    · rw [show Z3W 1 = 1 by decide] at hexn
      obtain ⟨x, rfl⟩ := Z2J (l := ex) (by omega)
      obtain ⟨g, rfl⟩ : ∃ g : Nat, rg = g := ⟨rg.toNat, by have := (hreg rfl).1; omega⟩
      have hg : g < r.length := by have := (hreg rfl).2; omega
      have hv0 : val evF (⟨1, (g : Int), lo, od, to, [x]⟩ : Ins) r 0 = evC r x := rfl
      simp only [evCL, grA, grB, List.length_cons, List.length_nil]
      have hN := hon ⟨p + 1, r.set g (evC r x), E⟩ (by simp [Flat.stp, hv0])
      generalize evC r x = v0 at *
      subst hE
      repeat' ((conv => whnf); first | (with_reducible refine exW wa ?_) | (with_reducible refine exW wk ?_) | (refine exI (Z4F r g _ hg (by omega)) ?_) | (with_reducible refine ixJ g rfl ?_ ?_; (focus (omega))) | (refine apS ?_) | (first | refine stp ?_ | with_reducible refine Z01 (fun h => ?_) (fun h => ?_)))
      conv => whnf
      refine ⟨(⟨p + 1, r.set g v0, _⟩, asked), hN.1, hN.2, ?_⟩
      simp only [gwH, grA, grB, List.cons_append, List.nil_append, List.length_cons, List.length_append, List.length_nil, List.length_set]
      first | exact fgA [0, 1, 2, 3] | exact fgA [0, 1, 2, 3, 4]
    · rw [show Z3W 2 = 0 by decide] at hexn
      obtain rfl : ex = [] := List.length_eq_zero_iff.1 (by omega)
      obtain ⟨g, rfl⟩ : ∃ g : Nat, rg = g := ⟨rg.toNat, by have := (hreg rfl).1; omega⟩
      have hg : g < r.length := by have := (hreg rfl).2; omega
      have hv0 : val evF (⟨2, (g : Int), lo, od, to, []⟩ : Ins) r 0 = 0 := rfl
      simp only [evCL, grA, grB, List.length_cons, List.length_nil]
      have hst : Flat.stp evF (⟨2, (g : Int), lo, od, to, []⟩ : Ins) ⟨p, r, E⟩ = .asks := by simp [Flat.stp]
      have hqu : qu evF (⟨2, (g : Int), lo, od, to, []⟩ : Ins) r = ⟨2, lo, od, 0, 0⟩ := rfl
      by_cases hfull : asked = az.length
      · rw [hask0 hst hfull, hqu]
        have ef : ((asked : Int) == (az.length : Int)) = true := by simp [hfull]
        clear hon hends hask0 hask1 hst hqu hv0
        subst hE
        simp only [Z0T, Z3H, quC, rsE, rsI, List.cons_append, List.nil_append, List.length_cons]
        repeat' ((conv => whnf); first | (with_reducible refine exW wa ?_) | (with_reducible refine exW wk ?_) | (first | refine stp ?_ | with_reducible refine Z01 (fun h => ?_) (fun h => ?_)))
        all_goals (conv => whnf)
        all_goals first | exact ⟨_, Z0Y (Z02 (n := 27) (b := 4) rfl (Z0g _ _) (Z0t _)) (Z02 (n := 27) (b := 3) rfl (Z0d _) (Z0e _)), fun sn v h => h⟩ | exact ⟨_, Z0Y rfl (Z02 (n := 27) (b := 3) rfl (Z0d _) (Z0e _)), fun sn v h => Z3J (fun _ h => Z0X h) (fun _ h => h) h⟩
      · have hlt : asked < az.length := by omega
        have hN := hask1 hst hlt
        have ef : ((asked : Int) == (az.length : Int)) = false := by simp; omega
        have hza : ∀ off, off = asked -> tk 1 ((ksC az).drop off) = some [.int .i64 az[asked]] := fun off e => Z11 _ az asked hlt e
        have q2a := q2 (qu evF (⟨2, (g : Int), lo, od, to, []⟩ : Ins) r) az[asked] rfl
        rw [show Z1k evF wrI (⟨2, (g : Int), lo, od, to, []⟩ : Ins) ⟨p, r, E⟩ az[asked] = ⟨p + 1, r.set g az[asked], E ++ [ans wrI (qu evF (⟨2, (g : Int), lo, od, to, []⟩ : Ins) r) az[asked]]⟩ from rfl] at hN
        rw [hqu] at q2a hN
        clear hon hends hask0 hask1 hst hqu hv0 q2
        generalize ans wrI _ az[asked] = e at *
        generalize az[asked] = v at *
        obtain ⟨ek, el, eo, er, ew⟩ := e
        simp only [quC, Z0c] at q2a
        subst hE
        repeat' ((conv => whnf); first | (with_reducible refine exW wa ?_) | (with_reducible refine exW wk ?_) | (refine exI (Z4F r g _ hg (by omega)) ?_) | (with_reducible refine ixJ g rfl ?_ ?_; (focus (omega))) | (refine exI (q2a _) ?_) | (refine exI (hza _ (by omega)) ?_) | (with_reducible refine ixJ asked rfl ?_ ?_; (focus (omega))) | (refine apS ?_) | (first | refine stp ?_ | with_reducible refine Z01 (fun h => ?_) (fun h => ?_)))
        conv => whnf
        refine ⟨(⟨p + 1, r.set g v, _ ++ [⟨ek, el, eo, er, ew⟩]⟩, asked + 1), hN.1, hN.2, ?_⟩
        simp only [gwH, grA, grB, List.cons_append, List.nil_append, List.length_cons, List.length_append, List.length_nil, List.length_set]
        first | exact fgA [0, 1, 2, 3, 8] | exact fgA [0, 1, 2, 3, 9]
    · rw [show Z3W 3 = 1 by decide] at hexn
      obtain ⟨x, rfl⟩ := Z2J (l := ex) (by omega)
      have hv0 : val evF (⟨3, rg, lo, od, to, [x]⟩ : Ins) r 0 = evC r x := rfl
      simp only [evCL, grA, grB, List.length_cons, List.length_nil]
      have hN := hon ⟨p + 1, r, E ++ [⟨2, lo, od, 0, evC r x⟩]⟩ (by simp [Flat.stp, hv0])
      generalize evC r x = v0 at *
      subst hE
      repeat' ((conv => whnf); first | (with_reducible refine exW wa ?_) | (with_reducible refine exW wk ?_) | (refine apS ?_) | (first | refine stp ?_ | with_reducible refine Z01 (fun h => ?_) (fun h => ?_)))
      conv => whnf
      refine ⟨(⟨p + 1, r, _ ++ [⟨2, lo, od, 0, v0⟩]⟩, asked), hN.1, hN.2, ?_⟩
      simp only [gwH, grA, grB, List.cons_append, List.nil_append, List.length_cons, List.length_append, List.length_nil, List.length_set]
      first | exact fgA [0, 1, 2, 3, 7] | exact fgA [0, 1, 2, 3, 8]
    · rw [show Z3W 4 = 2 by decide] at hexn
      obtain ⟨x, y, rfl⟩ := Zja (l := ex) (by omega)
      obtain ⟨g, rfl⟩ : ∃ g : Nat, rg = g := ⟨rg.toNat, by have := (hreg rfl).1; omega⟩
      have hg : g < r.length := by have := (hreg rfl).2; omega
      have hv0 : val evF (⟨4, (g : Int), lo, od, to, [x, y]⟩ : Ins) r 0 = evC r x := rfl
      have hv1 : val evF (⟨4, (g : Int), lo, od, to, [x, y]⟩ : Ins) r 1 = evC r y := rfl
      simp only [evCL, grA, grB, List.length_cons, List.length_nil]
      have hst : Flat.stp evF (⟨4, (g : Int), lo, od, to, [x, y]⟩ : Ins) ⟨p, r, E⟩ = .asks := by simp [Flat.stp]
      have hqu : qu evF (⟨4, (g : Int), lo, od, to, [x, y]⟩ : Ins) r = ⟨4, lo, od, evC r x, evC r y⟩ := rfl
      by_cases hfull : asked = az.length
      · rw [hask0 hst hfull, hqu]
        have ef : ((asked : Int) == (az.length : Int)) = true := by simp [hfull]
        clear hon hends hask0 hask1 hst hqu hv0 hv1
        generalize evC r x = v0 at *
        generalize evC r y = v1 at *
        subst hE
        simp only [Z0T, Z3H, quC, rsE, rsI, List.cons_append, List.nil_append, List.length_cons]
        repeat' ((conv => whnf); first | (with_reducible refine exW wa ?_) | (with_reducible refine exW wk ?_) | (first | refine stp ?_ | with_reducible refine Z01 (fun h => ?_) (fun h => ?_)))
        all_goals (conv => whnf)
        all_goals first | exact ⟨_, Z0Y (Z02 (n := 27) (b := 4) rfl (Z0g _ _) (Z0t _)) (Z02 (n := 27) (b := 3) rfl (Z0d _) (Z0e _)), fun sn v h => h⟩ | exact ⟨_, Z0Y rfl (Z02 (n := 27) (b := 3) rfl (Z0d _) (Z0e _)), fun sn v h => Z3J (fun _ h => Z0X h) (fun _ h => h) h⟩
      · have hlt : asked < az.length := by omega
        have hN := hask1 hst hlt
        have ef : ((asked : Int) == (az.length : Int)) = false := by simp; omega
        have hza : ∀ off, off = asked -> tk 1 ((ksC az).drop off) = some [.int .i64 az[asked]] := fun off e => Z11 _ az asked hlt e
        have q2a := q2 (qu evF (⟨4, (g : Int), lo, od, to, [x, y]⟩ : Ins) r) az[asked] rfl
        rw [show Z1k evF wrI (⟨4, (g : Int), lo, od, to, [x, y]⟩ : Ins) ⟨p, r, E⟩ az[asked] = ⟨p + 1, r.set g az[asked], E ++ [ans wrI (qu evF (⟨4, (g : Int), lo, od, to, [x, y]⟩ : Ins) r) az[asked]]⟩ from rfl] at hN
        rw [hqu] at q2a hN
        clear hon hends hask0 hask1 hst hqu hv0 hv1 q2
        generalize evC r x = v0 at *
        generalize evC r y = v1 at *
        generalize ans wrI _ az[asked] = e at *
        generalize az[asked] = v at *
        obtain ⟨ek, el, eo, er, ew⟩ := e
        simp only [quC, Z0c] at q2a
        subst hE
        repeat' ((conv => whnf); first | (with_reducible refine exW wa ?_) | (with_reducible refine exW wk ?_) | (refine exI (Z4F r g _ hg (by omega)) ?_) | (with_reducible refine ixJ g rfl ?_ ?_; (focus (omega))) | (refine exI (q2a _) ?_) | (refine exI (hza _ (by omega)) ?_) | (with_reducible refine ixJ asked rfl ?_ ?_; (focus (omega))) | (refine apS ?_) | (first | refine stp ?_ | with_reducible refine Z01 (fun h => ?_) (fun h => ?_)))
        conv => whnf
        refine ⟨(⟨p + 1, r.set g v, _ ++ [⟨ek, el, eo, er, ew⟩]⟩, asked + 1), hN.1, hN.2, ?_⟩
        simp only [gwH, grA, grB, List.cons_append, List.nil_append, List.length_cons, List.length_append, List.length_nil, List.length_set]
        first | exact fgA [0, 1, 2, 3, 9] | exact fgA [0, 1, 2, 3, 10]
    · rw [show Z3W 5 = 1 by decide] at hexn
      obtain ⟨x, rfl⟩ := Z2J (l := ex) (by omega)
      obtain ⟨g, rfl⟩ : ∃ g : Nat, rg = g := ⟨rg.toNat, by have := (hreg rfl).1; omega⟩
      have hg : g < r.length := by have := (hreg rfl).2; omega
      have hv0 : val evF (⟨5, (g : Int), lo, od, to, [x]⟩ : Ins) r 0 = evC r x := rfl
      simp only [evCL, grA, grB, List.length_cons, List.length_nil]
      have hst : Flat.stp evF (⟨5, (g : Int), lo, od, to, [x]⟩ : Ins) ⟨p, r, E⟩ = .asks := by simp [Flat.stp]
      have hqu : qu evF (⟨5, (g : Int), lo, od, to, [x]⟩ : Ins) r = ⟨5, lo, od, evC r x, 0⟩ := rfl
      by_cases hfull : asked = az.length
      · rw [hask0 hst hfull, hqu]
        have ef : ((asked : Int) == (az.length : Int)) = true := by simp [hfull]
        clear hon hends hask0 hask1 hst hqu hv0
        generalize evC r x = v0 at *
        subst hE
        simp only [Z0T, Z3H, quC, rsE, rsI, List.cons_append, List.nil_append, List.length_cons]
        repeat' ((conv => whnf); first | (with_reducible refine exW wa ?_) | (with_reducible refine exW wk ?_) | (first | refine stp ?_ | with_reducible refine Z01 (fun h => ?_) (fun h => ?_)))
        all_goals (conv => whnf)
        all_goals first | exact ⟨_, Z0Y (Z02 (n := 27) (b := 4) rfl (Z0g _ _) (Z0t _)) (Z02 (n := 27) (b := 3) rfl (Z0d _) (Z0e _)), fun sn v h => h⟩ | exact ⟨_, Z0Y rfl (Z02 (n := 27) (b := 3) rfl (Z0d _) (Z0e _)), fun sn v h => Z3J (fun _ h => Z0X h) (fun _ h => h) h⟩
      · have hlt : asked < az.length := by omega
        have hN := hask1 hst hlt
        have ef : ((asked : Int) == (az.length : Int)) = false := by simp; omega
        have hza : ∀ off, off = asked -> tk 1 ((ksC az).drop off) = some [.int .i64 az[asked]] := fun off e => Z11 _ az asked hlt e
        have q2a := q2 (qu evF (⟨5, (g : Int), lo, od, to, [x]⟩ : Ins) r) az[asked] rfl
        rw [show Z1k evF wrI (⟨5, (g : Int), lo, od, to, [x]⟩ : Ins) ⟨p, r, E⟩ az[asked] = ⟨p + 1, r.set g az[asked], E ++ [ans wrI (qu evF (⟨5, (g : Int), lo, od, to, [x]⟩ : Ins) r) az[asked]]⟩ from rfl] at hN
        rw [hqu] at q2a hN
        clear hon hends hask0 hask1 hst hqu hv0 q2
        generalize evC r x = v0 at *
        generalize ans wrI _ az[asked] = e at *
        generalize az[asked] = v at *
        obtain ⟨ek, el, eo, er, ew⟩ := e
        simp only [quC, Z0c] at q2a
        subst hE
        repeat' ((conv => whnf); first | (with_reducible refine exW wa ?_) | (with_reducible refine exW wk ?_) | (refine exI (Z4F r g _ hg (by omega)) ?_) | (with_reducible refine ixJ g rfl ?_ ?_; (focus (omega))) | (refine exI (q2a _) ?_) | (refine exI (hza _ (by omega)) ?_) | (with_reducible refine ixJ asked rfl ?_ ?_; (focus (omega))) | (refine apS ?_) | (first | refine stp ?_ | with_reducible refine Z01 (fun h => ?_) (fun h => ?_)))
        conv => whnf
        refine ⟨(⟨p + 1, r.set g v, _ ++ [⟨ek, el, eo, er, ew⟩]⟩, asked + 1), hN.1, hN.2, ?_⟩
        simp only [gwH, grA, grB, List.cons_append, List.nil_append, List.length_cons, List.length_append, List.length_nil, List.length_set]
        first | exact fgA [0, 1, 2, 3, 9] | exact fgA [0, 1, 2, 3, 10]
    · rw [show Z3W 6 = 1 by decide] at hexn
      obtain ⟨x, rfl⟩ := Z2J (l := ex) (by omega)
      obtain ⟨g, rfl⟩ : ∃ g : Nat, rg = g := ⟨rg.toNat, by have := (hreg rfl).1; omega⟩
      have hg : g < r.length := by have := (hreg rfl).2; omega
      have hv0 : val evF (⟨6, (g : Int), lo, od, to, [x]⟩ : Ins) r 0 = evC r x := rfl
      simp only [evCL, grA, grB, List.length_cons, List.length_nil]
      have hst : Flat.stp evF (⟨6, (g : Int), lo, od, to, [x]⟩ : Ins) ⟨p, r, E⟩ = .asks := by simp [Flat.stp]
      have hqu : qu evF (⟨6, (g : Int), lo, od, to, [x]⟩ : Ins) r = ⟨6, lo, od, evC r x, 0⟩ := rfl
      by_cases hfull : asked = az.length
      · rw [hask0 hst hfull, hqu]
        have ef : ((asked : Int) == (az.length : Int)) = true := by simp [hfull]
        clear hon hends hask0 hask1 hst hqu hv0
        generalize evC r x = v0 at *
        subst hE
        simp only [Z0T, Z3H, quC, rsE, rsI, List.cons_append, List.nil_append, List.length_cons]
        repeat' ((conv => whnf); first | (with_reducible refine exW wa ?_) | (with_reducible refine exW wk ?_) | (first | refine stp ?_ | with_reducible refine Z01 (fun h => ?_) (fun h => ?_)))
        all_goals (conv => whnf)
        all_goals first | exact ⟨_, Z0Y (Z02 (n := 27) (b := 4) rfl (Z0g _ _) (Z0t _)) (Z02 (n := 27) (b := 3) rfl (Z0d _) (Z0e _)), fun sn v h => h⟩ | exact ⟨_, Z0Y rfl (Z02 (n := 27) (b := 3) rfl (Z0d _) (Z0e _)), fun sn v h => Z3J (fun _ h => Z0X h) (fun _ h => h) h⟩
      · have hlt : asked < az.length := by omega
        have hN := hask1 hst hlt
        have ef : ((asked : Int) == (az.length : Int)) = false := by simp; omega
        have hza : ∀ off, off = asked -> tk 1 ((ksC az).drop off) = some [.int .i64 az[asked]] := fun off e => Z11 _ az asked hlt e
        have q2a := q2 (qu evF (⟨6, (g : Int), lo, od, to, [x]⟩ : Ins) r) az[asked] rfl
        rw [show Z1k evF wrI (⟨6, (g : Int), lo, od, to, [x]⟩ : Ins) ⟨p, r, E⟩ az[asked] = ⟨p + 1, r.set g az[asked], E ++ [ans wrI (qu evF (⟨6, (g : Int), lo, od, to, [x]⟩ : Ins) r) az[asked]]⟩ from rfl] at hN
        rw [hqu] at q2a hN
        clear hon hends hask0 hask1 hst hqu hv0 q2
        generalize evC r x = v0 at *
        generalize ans wrI _ az[asked] = e at *
        generalize az[asked] = v at *
        obtain ⟨ek, el, eo, er, ew⟩ := e
        simp only [quC, Z0c] at q2a
        subst hE
        repeat' ((conv => whnf); first | (with_reducible refine exW wa ?_) | (with_reducible refine exW wk ?_) | (refine exI (Z4F r g _ hg (by omega)) ?_) | (with_reducible refine ixJ g rfl ?_ ?_; (focus (omega))) | (refine exI (q2a _) ?_) | (refine exI (hza _ (by omega)) ?_) | (with_reducible refine ixJ asked rfl ?_ ?_; (focus (omega))) | (refine apS ?_) | (first | refine stp ?_ | with_reducible refine Z01 (fun h => ?_) (fun h => ?_)))
        conv => whnf
        refine ⟨(⟨p + 1, r.set g v, _ ++ [⟨ek, el, eo, er, ew⟩]⟩, asked + 1), hN.1, hN.2, ?_⟩
        simp only [gwH, grA, grB, List.cons_append, List.nil_append, List.length_cons, List.length_append, List.length_nil, List.length_set]
        first | exact fgA [0, 1, 2, 3, 9] | exact fgA [0, 1, 2, 3, 10]
    · rw [show Z3W 7 = 0 by decide] at hexn
      obtain rfl : ex = [] := List.length_eq_zero_iff.1 (by omega)
      have hv0 : val evF (⟨7, rg, lo, od, to, []⟩ : Ins) r 0 = 0 := rfl
      simp only [evCL, grA, grB, List.length_cons, List.length_nil]
      have hN := hon ⟨p + 1, r, E ++ [⟨4, 0, od, 0, 0⟩]⟩ (by simp [Flat.stp, hv0])
      subst hE
      repeat' ((conv => whnf); first | (with_reducible refine exW wa ?_) | (with_reducible refine exW wk ?_) | (refine apS ?_) | (first | refine stp ?_ | with_reducible refine Z01 (fun h => ?_) (fun h => ?_)))
      conv => whnf
      refine ⟨(⟨p + 1, r, _ ++ [⟨4, 0, od, 0, 0⟩]⟩, asked), hN.1, hN.2, ?_⟩
      simp only [gwH, grA, grB, List.cons_append, List.nil_append, List.length_cons, List.length_append, List.length_nil, List.length_set]
      first | exact fgA [0, 1, 2, 3, 6] | exact fgA [0, 1, 2, 3, 7]
    · rw [show Z3W 8 = 1 by decide] at hexn
      obtain ⟨x, rfl⟩ := Z2J (l := ex) (by omega)
      have hv0 : val evF (⟨8, rg, lo, od, to, [x]⟩ : Ins) r 0 = evC r x := rfl
      simp only [evCL, grA, grB, List.length_cons, List.length_nil]
      by_cases hv : evC r x = 0
      · have hF := hends 2 (by simp [Flat.stp, hv0, hv])
        have ev0 : (evC r x == 0) = true := by simpa using hv
        rw [hF]
        clear hF hon hends hask0 hask1 hv hv0
        generalize evC r x = v0 at *
        subst hE
        simp only [Z0T, Z3H, rsE, rsI, List.cons_append, List.nil_append, List.length_cons]
        repeat' ((conv => whnf); first | (with_reducible refine exW wa ?_) | (with_reducible refine exW wk ?_) | (first | refine stp ?_ | with_reducible refine Z01 (fun h => ?_) (fun h => ?_)))
        all_goals (conv => whnf)
        all_goals first | exact ⟨_, Z0Y (Z02 (n := 27) (b := 4) rfl (Z0g _ _) (Z0t _)) (Z02 (n := 27) (b := 3) rfl (Z0d _) (Z0e _)), fun sn v h => h⟩ | exact ⟨_, Z0Y rfl (Z02 (n := 27) (b := 3) rfl (Z0d _) (Z0e _)), fun sn v h => Z3J (fun _ h => Z0X h) (fun _ h => h) h⟩
      · have hN := hon ⟨p + 1, r, E⟩ (by simp [Flat.stp, hv0, hv])
        have ev0 : (evC r x == 0) = false := by simpa using hv
        clear hv hv0
        generalize evC r x = v0 at *
        subst hE
        repeat' ((conv => whnf); first | (with_reducible refine exW wa ?_) | (with_reducible refine exW wk ?_) | (refine apS ?_) | (first | refine stp ?_ | with_reducible refine Z01 (fun h => ?_) (fun h => ?_)))
        conv => whnf
        refine ⟨(⟨p + 1, r, _⟩, asked), hN.1, hN.2, ?_⟩
        simp only [gwH, grA, grB, List.cons_append, List.nil_append, List.length_cons, List.length_append, List.length_nil, List.length_set]
        first | exact fgA [0, 1, 2, 3] | exact fgA [0, 1, 2, 3, 4]
    · rw [show Z3W 9 = 1 by decide] at hexn
      obtain ⟨x, rfl⟩ := Z2J (l := ex) (by omega)
      have hv0 : val evF (⟨9, rg, lo, od, to, [x]⟩ : Ins) r 0 = evC r x := rfl
      simp only [evCL, grA, grB, List.length_cons, List.length_nil]
      by_cases hv : evC r x = 0
      · have hF := hends 3 (by simp [Flat.stp, hv0, hv])
        have ev0 : (evC r x == 0) = true := by simpa using hv
        rw [hF]
        clear hF hon hends hask0 hask1 hv hv0
        generalize evC r x = v0 at *
        subst hE
        simp only [Z0T, Z3H, rsE, rsI, List.cons_append, List.nil_append, List.length_cons]
        repeat' ((conv => whnf); first | (with_reducible refine exW wa ?_) | (with_reducible refine exW wk ?_) | (first | refine stp ?_ | with_reducible refine Z01 (fun h => ?_) (fun h => ?_)))
        all_goals (conv => whnf)
        all_goals first | exact ⟨_, Z0Y (Z02 (n := 27) (b := 4) rfl (Z0g _ _) (Z0t _)) (Z02 (n := 27) (b := 3) rfl (Z0d _) (Z0e _)), fun sn v h => h⟩ | exact ⟨_, Z0Y rfl (Z02 (n := 27) (b := 3) rfl (Z0d _) (Z0e _)), fun sn v h => Z3J (fun _ h => Z0X h) (fun _ h => h) h⟩
      · have hN := hon ⟨p + 1, r, E⟩ (by simp [Flat.stp, hv0, hv])
        have ev0 : (evC r x == 0) = false := by simpa using hv
        clear hv hv0
        generalize evC r x = v0 at *
        subst hE
        repeat' ((conv => whnf); first | (with_reducible refine exW wa ?_) | (with_reducible refine exW wk ?_) | (refine apS ?_) | (first | refine stp ?_ | with_reducible refine Z01 (fun h => ?_) (fun h => ?_)))
        conv => whnf
        refine ⟨(⟨p + 1, r, _⟩, asked), hN.1, hN.2, ?_⟩
        simp only [gwH, grA, grB, List.cons_append, List.nil_append, List.length_cons, List.length_append, List.length_nil, List.length_set]
        first | exact fgA [0, 1, 2, 3] | exact fgA [0, 1, 2, 3, 4]
    · rw [show Z3W 10 = 0 by decide] at hexn
      obtain rfl : ex = [] := List.length_eq_zero_iff.1 (by omega)
      obtain ⟨g, rfl⟩ : ∃ g : Nat, to = g := ⟨to.toNat, by have := (hto rfl).1; omega⟩
      have hv0 : val evF (⟨10, rg, lo, od, (g : Int), []⟩ : Ins) r 0 = 0 := rfl
      simp only [evCL, grA, grB, List.length_cons, List.length_nil]
      have hN := hon ⟨g, r, E⟩ (by simp [Flat.stp])
      subst hE
      repeat' ((conv => whnf); first | (with_reducible refine exW wa ?_) | (with_reducible refine exW wk ?_) | (refine apS ?_) | (first | refine stp ?_ | with_reducible refine Z01 (fun h => ?_) (fun h => ?_)))
      conv => whnf
      refine ⟨(⟨g, r, _⟩, asked), hN.1, hN.2, ?_⟩
      simp only [gwH, grA, grB, List.cons_append, List.nil_append, List.length_cons, List.length_append, List.length_nil, List.length_set]
      first | exact fgA [0, 1, 2, 3] | exact fgA [0, 1, 2, 3, 4]
    · rw [show Z3W 11 = 1 by decide] at hexn
      obtain ⟨x, rfl⟩ := Z2J (l := ex) (by omega)
      obtain ⟨g, rfl⟩ : ∃ g : Nat, to = g := ⟨to.toNat, by have := (hto rfl).1; omega⟩
      have hv0 : val evF (⟨11, rg, lo, od, (g : Int), [x]⟩ : Ins) r 0 = evC r x := rfl
      simp only [evCL, grA, grB, List.length_cons, List.length_nil]
      by_cases hv : evC r x = 0
      · have hN := hon ⟨g, r, E⟩ (by simp [Flat.stp, hv0, hv])
        have ev0 : (evC r x == 0) = true := by simpa using hv
        clear hv hv0
        generalize evC r x = v0 at *
        subst hE
        repeat' ((conv => whnf); first | (with_reducible refine exW wa ?_) | (with_reducible refine exW wk ?_) | (refine apS ?_) | (first | refine stp ?_ | with_reducible refine Z01 (fun h => ?_) (fun h => ?_)))
        conv => whnf
        refine ⟨(⟨g, r, _⟩, asked), hN.1, hN.2, ?_⟩
        simp only [gwH, grA, grB, List.cons_append, List.nil_append, List.length_cons, List.length_append, List.length_nil, List.length_set]
        first | exact fgA [0, 1, 2, 3] | exact fgA [0, 1, 2, 3, 4]
      · have hN := hon ⟨p + 1, r, E⟩ (by simp [Flat.stp, hv0, hv])
        have ev0 : (evC r x == 0) = false := by simpa using hv
        clear hv hv0
        generalize evC r x = v0 at *
        subst hE
        repeat' ((conv => whnf); first | (with_reducible refine exW wa ?_) | (with_reducible refine exW wk ?_) | (refine apS ?_) | (first | refine stp ?_ | with_reducible refine Z01 (fun h => ?_) (fun h => ?_)))
        conv => whnf
        refine ⟨(⟨p + 1, r, _⟩, asked), hN.1, hN.2, ?_⟩
        simp only [gwH, grA, grB, List.cons_append, List.nil_append, List.length_cons, List.length_append, List.length_nil, List.length_set]
        first | exact fgA [0, 1, 2, 3] | exact fgA [0, 1, 2, 3, 4]
    · rw [show Z3W 12 = 0 by decide] at hexn
      obtain rfl : ex = [] := List.length_eq_zero_iff.1 (by omega)
      have hv0 : val evF (⟨12, rg, lo, od, to, []⟩ : Ins) r 0 = 0 := rfl
      simp only [evCL, grA, grB, List.length_cons, List.length_nil]
      rw [hends 4 (by simp [Flat.stp])]
      subst hE
      simp only [Z0T, Z3H, rsE, rsI, List.cons_append, List.nil_append, List.length_cons]
      repeat' ((conv => whnf); first | (with_reducible refine exW wa ?_) | (with_reducible refine exW wk ?_) | (first | refine stp ?_ | with_reducible refine Z01 (fun h => ?_) (fun h => ?_)))
      all_goals (conv => whnf)
      all_goals first | exact ⟨_, Z0Y (Z02 (n := 27) (b := 4) rfl (Z0g _ _) (Z0t _)) (Z02 (n := 27) (b := 3) rfl (Z0d _) (Z0e _)), fun sn v h => h⟩ | exact ⟨_, Z0Y rfl (Z02 (n := 27) (b := 3) rfl (Z0d _) (Z0e _)), fun sn v h => Z3J (fun _ h => Z0X h) (fun _ h => h) h⟩
    · rw [show Z3W 13 = 0 by decide] at hexn
      obtain rfl : ex = [] := List.length_eq_zero_iff.1 (by omega)
      have hv0 : val evF (⟨13, rg, lo, od, to, []⟩ : Ins) r 0 = 0 := rfl
      simp only [evCL, grA, grB, List.length_cons, List.length_nil]
      rw [hends 1 (by simp [Flat.stp])]
      subst hE
      simp only [Z0T, Z3H, rsE, rsI, List.cons_append, List.nil_append, List.length_cons]
      repeat' ((conv => whnf); first | (with_reducible refine exW wa ?_) | (with_reducible refine exW wk ?_) | (first | refine stp ?_ | with_reducible refine Z01 (fun h => ?_) (fun h => ?_)))
      all_goals (conv => whnf)
      all_goals first | exact ⟨_, Z0Y (Z02 (n := 27) (b := 4) rfl (Z0g _ _) (Z0t _)) (Z02 (n := 27) (b := 3) rfl (Z0d _) (Z0e _)), fun sn v h => h⟩ | exact ⟨_, Z0Y rfl (Z02 (n := 27) (b := 3) rfl (Z0d _) (Z0e _)), fun sn v h => Z3J (fun _ h => Z0X h) (fun _ h => h) h⟩
end Go.Proofs.YteidjbahodbgdaaGreatDoor.lex
end

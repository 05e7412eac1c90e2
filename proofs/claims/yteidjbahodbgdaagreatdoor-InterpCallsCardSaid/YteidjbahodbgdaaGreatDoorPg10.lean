/-
  Texts of this proof, one behind the other (part 10).
-/
import Derived.Test.YteidjbahodbgdaaGreatDoorPg9
set_option linter.unusedVariables false
set_option linter.unusedSimpArgs false

section
namespace Go.Proofs.YteidjbahodbgdaaGreatDoor.lex
open Go.Abs Go.RowKit Go.Flat
set_option maxRecDepth 100000
set_option maxHeartbeats 4000000
variable {gl : Z0l}
def Zne (f : Nat) : Bool := Nat.beq f 62 || (Nat.beq f 67 || Nat.beq f 19)
theorem Zja {l : List Ex} (h : l.length = 2) : ∃ x y, l = [x, y] := by
 match l, h with
 | [x, y], _ => exact ⟨x, y, rfl⟩
theorem ZkL {regs n : Nat} {i : Ins} {s : Th} (ho : InsOK regs n i) (h : Flat.stp evF i s = .asks) : Z3d i.kind = true /\ (0 <= i.reg /\ i.reg < regs) /\ (i.kind = 2 /\ i.ex = [] \/ i.kind = 4 /\ (∃ x y, i.ex = [x, y]) \/ i.kind = 5 /\ (∃ x, i.ex = [x]) \/ i.kind = 6 /\ (∃ x, i.ex = [x])) := by
 have hk := ho.kind
 have hn := ho.nex
 have hg := ho.reg
 obtain ⟨k, rg, lo, od, to, ex⟩ := i
 simp only at hk hn hg ⊢
 unfold Flat.stp at h
 simp only at h
 split at h
 · cases h
 split at h
 · cases h
 split at h
 · cases h
 split at h
 · split at h <;> cases h
 split at h
 · split at h <;> cases h
 split at h
 · cases h
 split at h
 · split at h <;> cases h
 split at h
 · cases h
 split at h
 · cases h
 have hc : k = 2 \/ k = 4 \/ k = 5 \/ k = 6 := by omega
 rcases hc with rfl | rfl | rfl | rfl
 · exact ⟨rfl, hg rfl, .inl ⟨rfl, by rw [show Z3W 2 = 0 by decide] at hn; exact List.length_eq_zero_iff.1 (by omega)⟩⟩
 · exact ⟨rfl, hg rfl, .inr (.inl ⟨rfl, Zja (by rw [show Z3W 4 = 2 by decide] at hn; omega)⟩)⟩
 · exact ⟨rfl, hg rfl, .inr (.inr (.inl ⟨rfl, Z2J (by rw [show Z3W 5 = 1 by decide] at hn; omega)⟩))⟩
 · exact ⟨rfl, hg rfl, .inr (.inr (.inr ⟨rfl, Z2J (by rw [show Z3W 6 = 1 by decide] at hn; omega)⟩))⟩
theorem ZgW {regs : Nat} {l : List Ins} (hr : Runs regs l) (ha : Acy (nxL l) l.length) (s : Th) (asked : Nat) (v : Int) (hs : Rch (nxL l) s.at_) (hrl : s.regs.length = regs) (hev : s.evs.length <= 1000000) (has : asked <= 1000000) (hst : Flat.stp evF (Z0h l s.at_) s = .asks) :
  Z76 Tryz.prog gl 2 49 [.ptr 0 0, .int .i64 v] (thH regs l s (asked : Nat) 0 true) (.tuple []) (Zhj regs l ((asked + 1 : Nat) : Int) (adv evF (Z0h l) l.length (Z1k evF wrI (Z0h l s.at_) s v))) := by
 obtain ⟨rank, hrank⟩ := ha
 have hat := hr.good.lt hs
 have hio := hr.ins _ hat
 obtain ⟨hask, hreg, hkinds⟩ := ZkL hio hst
 have hf := hr.good.few
 have hinjA : ∀ i j : Qu × Int, Z3d i.1.kind = true -> Z3d j.1.kind = true -> [AV.agg (quC i.1), .int .i64 i.2] = [AV.agg (quC j.1), .int .i64 j.2] -> AV.tuple [.agg (Z0c (ans wrI i.1 i.2)), .int .i64 0] = .tuple [.agg (Z0c (ans wrI j.1 j.2)), .int .i64 0] := fun i j _ _ h => by
  obtain ⟨⟨k, lo, od, a, b⟩, v⟩ := i
  obtain ⟨⟨k', lo', od', a', b'⟩, v'⟩ := j
  simp only [quC, List.cons.injEq, AV.agg.injEq, AV.int.injEq, true_and, and_true] at h
  obtain ⟨⟨rfl, rfl, rfl, rfl, rfl⟩, rfl⟩ := h
  rfl
 obtain ⟨O1, hO1, ⟨p1, -⟩, p2, -⟩ := Z6G (P := Tryz.prog) (gl := gl) [Zfl hr] [{ I := Qu × Int, f := 19, G := fun i => Z3d i.1.kind = true, A := fun i => [.agg (quC i.1), .int .i64 i.2], R := fun i => .tuple [.agg (Z0c (ans wrI i.1 i.2)), .int .i64 0], body := (by kernel_rfl), inj := hinjA, ok := (fun i hi => ⟨rfl, by have h := Z92 (gl := gl) i.1 i.2; rw [show Z83 i.1 i.2 = ans wrI i.1 i.2 from if_pos hi, show Z82 i.1 = 0 from if_pos hi] at h; exact h⟩) }] rfl
 obtain ⟨O, hO, q3, hoth⟩ := Z4k hO1
 have p1' : ∀ s : Th, s.at_ < l.length -> s.regs.length = regs -> s.evs.length <= 1048576 -> Z04 Tryz.prog O (thH regs l s ((asked + 1 : Nat) : Int) 0 false) 67 [.ptr 0 0] = some (.bool (Z2c (Flat.stp evF (Z0h l s.at_) s)), ZaM regs l s ((asked + 1 : Nat) : Int) (Flat.stp evF (Z0h l s.at_) s)) := fun s h1 h2 h3 => (hoth _ (by decide) _ _).trans (p1 (s, ((asked + 1 : Nat) : Int)) ⟨h1, h2, h3⟩)
 have p2' : ∀ (q : Qu) (v : Int), Z3d q.kind = true -> ∀ H, Z04 Tryz.prog O H 19 [.agg (quC q), .int .i64 v] = some (.tuple [.agg (Z0c (ans wrI q v)), .int .i64 0], H) := fun q v h H => (hoth _ (by decide) _ _).trans (p2 (q, v) h H)
 have hnx : (Z1k evF wrI (Z0h l s.at_) s v).at_ ∈ nxL l s.at_ := by
  show s.at_ + 1 ∈ nxI (Z0h l s.at_) s.at_
  have : Z3d (Z0h l s.at_).kind = true := hask
  unfold nxI
  rcases hkinds with h | h | h | h <;> simp [h.1]
 have hI1 : Rch (nxL l) (Z1k evF wrI (Z0h l s.at_) s v).at_ /\ (Z1k evF wrI (Z0h l s.at_) s v).regs.length = regs /\ adv evF (Z0h l) l.length (Z1k evF wrI (Z0h l s.at_) s v) = adv evF (Z0h l) l.length (Z1k evF wrI (Z0h l s.at_) s v) /\ (Z1k evF wrI (Z0h l s.at_) s v).evs.length + rank (Z1k evF wrI (Z0h l s.at_) s v).at_ <= 1048576 := by
  have h1 : Rch (nxL l) (Z1k evF wrI (Z0h l s.at_) s v).at_ := .next hs hnx
  have h2 := hrank.1 _ h1
  refine ⟨h1, by show (s.regs.set _ _).length = _; rw [List.length_set]; exact hrl, rfl, ?_⟩
  have h3 : (Z1k evF wrI (Z0h l s.at_) s v).evs.length = s.evs.length + 1 := by show (s.evs ++ [_]).length = _; simp
  omega
 have hx := in6 l s.at_ hat
 have hxr : tk 1 (((inC l).drop (s.at_ * 6)).drop 1) = some [.int .i64 l[s.at_].reg] := by rw [Z8J l s.at_ hat]; rfl
 rw [<- Z2V hat] at hx hxr
 have q2 := p2' (qu evF (Z0h l s.at_) s.regs) v hask
 have hto : Z1k evF wrI (Z0h l s.at_) s v = ⟨s.at_ + 1, s.regs.set (Z0h l s.at_).reg.toNat v, s.evs ++ [ans wrI (qu evF (Z0h l s.at_) s.regs) v]⟩ := rfl
 have hquE : quC (qu evF (Z0h l s.at_) s.regs) = [.int .i64 (Z0h l s.at_).kind, .int .i64 (Z0h l s.at_).loc, .int .i64 (Z0h l s.at_).order, .int .i64 (val evF (Z0h l s.at_) s.regs 0), .int .i64 (val evF (Z0h l s.at_) s.regs 1)] := rfl
 rw [hquE] at q2
 generalize hAA : adv evF (Z0h l) l.length (Z1k evF wrI (Z0h l s.at_) s v) = AA at *
 generalize ans wrI (qu evF (Z0h l s.at_) s.regs) v = e at *
 clear p1 p2 p2' hoth hO1 hst hask hquE
 have hright := hio.right
 have hxok := hio.ok
 rw [<- hrl] at hright
 clear hio
 generalize Z1k evF wrI (Z0h l s.at_) s v = tt at *
 subst hto
 have wa : IntKind.i64.wrap ((s.at_ : Int) + 1) = ((s.at_ + 1 : Nat) : Int) := Z2n (by omega)
 have wk : IntKind.i64.wrap ((asked : Int) + 1) = ((asked + 1 : Nat) : Int) := Z2n (by omega)
 have hT : Z74 Tryz.prog 33 33 = some (47, 5, 40) := by kernel_rfl
 obtain ⟨ek, el, eo, er, ew⟩ := e
 simp only [Z0c] at q2
 generalize Z0h l s.at_ = i at *
 obtain ⟨k, rg, lo, od, to, ex⟩ := i
 obtain ⟨s_at, r, evs⟩ := s
 simp only at *
 obtain ⟨g, rfl⟩ : ∃ g : Nat, rg = g := ⟨rg.toNat, by omega⟩
 have hg : g < r.length := by omega
 simp only [Int.toNat_natCast] at *
 refine Z0Z Zne 3 follows Z09 hO Tryz.func49 rfl ?_
 rcases evs with _ | ⟨z0, evs⟩
 case' nil => have q4 := fun x => q3 (.int .i64 regs) (.rs l.length 6 (inC l)) (.int .i64 (s_at : Nat)) r [.nslice, .int .i64 asked, .int .i64 0, .bool true] x
 case' cons => have q4 := fun x => q3 (.int .i64 regs) (.rs l.length 6 (inC l)) (.int .i64 (s_at : Nat)) r [.rs (evs.length + 1) 5 (Z14 (z0 :: evs)), .int .i64 asked, .int .i64 0, .bool true] x; have hcl := Z0g z0 evs; have hon := Z10 (z0 :: evs); simp only [List.length_cons] at hev
 all_goals
  rcases hkinds with ⟨rfl, rfl⟩ | ⟨rfl, x, y, rfl⟩ | ⟨rfl, x, rfl⟩ | ⟨rfl, x, rfl⟩
  all_goals
   try have qe0 := q4 x (hxok x (by simp)).1 (hxok x (by simp)).2 (hright x (by simp))
   try have qe1 := q4 y (hxok y (by simp)).1 (hxok y (by simp)).2 (hright y (by simp))
   clear q3 q4 hright hxok
   simp only [val, evF] at q2
   try simp only [List.getElem?_cons_zero, List.getElem?_cons_succ, List.getElem?_nil] at q2
   (try (generalize evC r x = v0 at *)); (try (generalize evC r y = v1 at *)); (try (obtain ⟨xo, xn, xs, xk⟩ := x)); (try (obtain ⟨yo, yn, ys, yk⟩ := y))
   simp only [Z0m, exA, exC, Ex.cells, List.append_nil, List.cons_append, List.nil_append, List.length_cons, List.length_nil] at *
   simp only [thH, grA, grB, List.length_cons]
   repeat' ((conv => whnf); first | (with_reducible refine exW wa ?_) | (with_reducible refine exW wk ?_) | (refine exI hx ?_) | (refine exI hxr ?_) | (with_reducible refine ixJ s_at rfl ?_ ?_; (focus (omega))) | (refine exI (q2 _) ?_) | (refine exI (Z4F r g _ hg (by omega)) ?_) | (with_reducible refine ixJ g rfl ?_ ?_; (focus (omega))) | (refine exI (qe0 _ _ ?_) ?_; (focus (first | exact Z1a rfl (Z02 (n := 27) (b := 1) rfl (Z0d _) (Z0e _)) (Z02 (n := 27) (b := 2) rfl (Z0g _ _) (Z0t _)) rfl | exact Z1a rfl (Z02 (n := 27) (b := 1) rfl (Z0d _) (Z0e _)) rfl rfl))) | (refine exI (qe1 _ _ ?_) ?_; (focus (first | exact Z1a rfl (Z02 (n := 27) (b := 1) rfl (Z0d _) (Z0e _)) (Z02 (n := 27) (b := 2) rfl (Z0g _ _) (Z0t _)) rfl | exact Z1a rfl (Z02 (n := 27) (b := 1) rfl (Z0d _) (Z0e _)) rfl rfl))) | (refine apS ?_) | (first | refine stp ?_ | with_reducible refine Z01 (fun h => ?_) (fun h => ?_)))
   conv => whnf
   refine ⟨Th, (fun s => Rch (nxL l) s.at_ /\ s.regs.length = regs /\ adv evF (Z0h l) l.length s = AA /\ s.evs.length + rank s.at_ <= 1048576), (fun s => [(0, .ptr 0 0)]), (fun s => thH regs l s ((asked + 1 : Nat) : Int) 0 false), (fun s => rank s.at_), ⟨_, ⟨hI1.1, hI1.2.1, hAA, hI1.2.2.2⟩, ?_⟩, ?_⟩
   · first | exact fgA [0, 1, 7] | exact fgA [0, 1, 8]
   clear hx hxr q2 wa wk hT hI1
   (try (clear qe0)); (try (clear qe1))
   rintro s ⟨hs, hrl, hA, hb⟩
   have hat := hr.good.lt hs
   have q := p1' s hat hrl (by omega)
   have hsr : rank s.at_ < l.length := hrank.1 _ hs
   cases hst : Flat.stp evF (Z0h l s.at_) s
   case' on t =>
    have hn : t.at_ ∈ nxL l s.at_ := Z6l evF hst
    have hrk := hrank.2 _ _ hs hn
    have hl2 := ZbT hst
    have hr2 := Z9f hst
    obtain ⟨em, hem, -⟩ := Z9g evF hst
    have hA2 := (Zjg evF (Z0h l) hrank.2 hrank.1 hs hst).symm.trans hA
    rw [hst] at q
    have hI : Rch (nxL l) t.at_ /\ t.regs.length = regs /\ adv evF (Z0h l) l.length t = AA /\ t.evs.length + rank t.at_ <= 1048576 := ⟨.next hs hn, by omega, hA2, by omega⟩
    clear hst hn hl2 hA2 hA hb hr2
    obtain ⟨p, r, evs⟩ := s
    obtain ⟨p2, r2, evs2⟩ := t
    simp only at hem hrk
    rcases evs with _ | ⟨z, evs⟩ <;> rcases evs2 with _ | ⟨z2, evs2⟩
    all_goals (try (refine absurd hem ?_; simp; done))
    all_goals
     simp only [thH, ZaM, Z2t, grA, grB, Z2c, List.length_cons, List.length_nil] at q ⊢
     repeat' ((conv => whnf); first | (refine exI q ?_) | (first | refine stp ?_ | with_reducible refine Z01 (fun h => ?_) (fun h => ?_)))
     conv => whnf
     refine ⟨_, hI, hrk, ?_⟩
     first | exact fgA [0, 1] | exact fgA [0, 1, 2] | exact fgA [0, 1, 3]
   all_goals
    first | have hA2 := (Ze0 evF (Z0h l) hrank.1 hs hst).symm.trans hA | have hA2 := (Ze1 evF (Z0h l) hrank.1 hs hst).symm.trans hA
    rw [hst] at q
    rw [<- hA2]
    clear hst hA2 hA hb
    obtain ⟨p, r, evs⟩ := s
    rcases evs with _ | ⟨z, evs⟩
    all_goals
     simp only [thH, ZaM, Z2t, grA, grB, Z2c, Zhj, List.length_cons, List.length_nil] at q ⊢
     repeat' ((conv => whnf); first | (refine exI q ?_) | (first | refine stp ?_ | with_reducible refine Z01 (fun h => ?_) (fun h => ?_)))
     all_goals (conv => whnf)
     all_goals first | exact Z4x [0, 1] | exact Z4x [0, 1, 3]
end Go.Proofs.YteidjbahodbgdaaGreatDoor.lex
end

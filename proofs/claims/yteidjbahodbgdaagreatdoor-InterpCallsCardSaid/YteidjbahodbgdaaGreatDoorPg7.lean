/-
  Texts of this proof, one behind the other (part 7).
-/
import Derived.Test.YteidjbahodbgdaaGreatDoorPg6
set_option linter.unusedVariables false
set_option linter.unusedSimpArgs false

section
namespace Go.Proofs.YteidjbahodbgdaaGreatDoor.lex
open Go.Abs Go.RowKit
set_option maxRecDepth 100000
set_option maxHeartbeats 4000000
variable {gl : Z0l}
theorem Zf8 {H : Z00} {f c : Nat} {o : List (List UInt8)} {k : Nat} (hH : H[0]? = some ⟨true, f, 0, .cells (Z1h o) 9⟩) (hk : k <= o.length) : Z2b H 1 (.slice 0 0 k c 1) = some (k, Z1h (o.take k)) := by
 have h : tk (k * 1) ((Z1h o).drop 0) = some (Z1h (o.take k)) := by
  have h1 : Z1h o = Z1h (o.take k) ++ Z1h (o.drop k) := by rw [<- Zhw, List.take_append_drop]
  have h2 : (Z1h (o.take k)).length = k * 1 := by rw [Z2C, List.length_take, Nat.min_eq_left hk]
  rw [List.drop_zero, h1, <- h2]; exact Zfh _ _
 simp only [Z2b, if_true, rd, hH, h]
theorem Zf9 {H : Z00} {f c n : Nat} {o : List (List UInt8)} {k : Nat} (hH : H[0]? = some ⟨true, f, 0, .cells (Z1h o) 9⟩) (hn : n = o.length) : Z2b H 1 (.slice 0 (0 + k * 1) (n - k) c 1) = some (n - k, Z1h (o.drop k)) := by
 have h : tk ((n - k) * 1) ((Z1h o).drop (0 + k * 1)) = some (Z1h (o.drop k)) := by
  have h1 : (Z1h o).drop (0 + k * 1) = Z1h (o.drop k) := by simp [Z1h]
  rw [h1]
  exact Zaz (by rw [Z2C, List.length_drop, hn])
 simp only [Z2b, if_true, rd, hH, h]
theorem Zjm {H : Z00} {off n c : Nat} (h0 : n = 0) {f : Nat} {cs : List AV} (hH : H[0]? = some ⟨true, f, 0, .cells cs 9⟩) : Z2b H 1 (.slice 0 off n c 1) = some (0, []) := by
 subst h0
 have h : tk (0 * 1) (cs.drop off) = some [] := by cases (cs.drop off) <;> rfl
 simp only [Z2b, if_true, rd, hH, h]
theorem ZjH (l : List (List UInt8)) (h : l.length <= 1048576) : ValOK Tryz.prog gl 84 [rsK l] (rsK (Z4U l)) := by
 have hT : Z74 Tryz.prog 91 91 = some (9, 1, 16) := by kernel_rfl
 rw [show rsK (Z4U l) = .rs (Z4U l).length 1 (Z1h (Z4U l)) from rfl, show rsK l = .rs l.length 1 (Z1h l) from rfl]
 refine Z5Y follows Z09 Z05 Tryz.func84 rfl ?_
 repeat' ((conv => whnf); first | refine stp ?_ | with_reducible refine Z01 (fun h => ?_) (fun h => ?_))
 conv => whnf
 refine ⟨Nat, (fun i => i <= l.length), (fun i => [(0, .rs l.length 1 (Z1h l)), (3, grA 0 1 (Z4U (l.take i))), (4, .int .i64 i)]), (fun i => grB 0 Z1h 9 (Z4U (l.take i))), (fun i => l.length - i), ⟨0, Nat.zero_le _, ?_⟩, ?_⟩
 · exact FgL.mk [] rfl ⟨Wk.noref rfl, Wk.noref rfl, Wk.int rfl, trivial⟩ trivial rfl
 intro i hi
 dsimp only
 have hle := Z9k l i
 by_cases hlt : i < l.length
 · have e1 : decide ((i : Int) < (l.length : Int)) = true := by simpa using hlt
   have hs : tk 1 ((Z1h l).drop (i * 1)) = some [.str l[i]] := Z11 AV.str l i hlt (by omega)
   have hnx := ZfA l i hlt
   generalize Z4U (l.take i) = o at *
   generalize l[i] = s at *
   have hpl := Zc5 s o
   rcases o with _ | ⟨z, o⟩
   ·
    repeat' ((conv => whnf); first | (with_reducible refine ixJ i rfl ?_ ?_; (focus (omega))) | (refine exI hs ?_) | (refine apS ?_) | (first | refine stp ?_ | with_reducible refine Z01 (fun h => ?_) (fun h => ?_)))
    conv => whnf
    refine ⟨Nat, (fun k => k <= Z3C s ([] : List (List UInt8))), (fun k => [(0, .rs l.length 1 (Z1h l)), (3, grA 0 1 ([] : List (List UInt8))), (4, .int .i64 i), (5, .int .i64 k)]), (fun k => grB 0 Z1h 9 ([] : List (List UInt8))), (fun k => Z3C s ([] : List (List UInt8)) - k), ⟨0, Nat.zero_le _, ?_⟩, ?_⟩
    · exact FgL.mk [] rfl ⟨Wk.noref rfl, Wk.noref rfl, Wk.int rfl, Wk.int rfl, trivial⟩ trivial rfl
    intro k hk
    dsimp only
    have hk0 : k = 0 := by simpa [Z3C] using hk
    subst hk0
    repeat' ((conv => whnf); first | (with_reducible refine ixJ i rfl ?_ ?_; (focus (omega))) | (refine exI hs ?_) | (refine apS ?_) | (first | refine stp ?_ | with_reducible refine Z01 (fun h => ?_) (fun h => ?_)))
    conv => whnf
    refine ⟨i + 1, hlt, by show l.length - (i + 1) < l.length - i; omega, ?_⟩
    rw [hnx]
    exact FgL.mk [2] rfl ⟨Wk.noref rfl, Wk.slice rfl rfl rfl (Nat.le_refl _) (Nat.le_refl _) rfl, Wk.int rfl, trivial⟩ ⟨⟨rfl, rfl, rfl, rfl, BodyGe.pre (rest := []) rfl rfl⟩, trivial⟩ rfl
   · have hcl := Z1F z o
     have hol : o.length + 1 <= l.length := by simpa using hle
     repeat' ((conv => whnf); first | (with_reducible refine ixJ i rfl ?_ ?_; (focus (omega))) | (refine exI hs ?_) | (first | refine stp ?_ | with_reducible refine Z01 (fun h => ?_) (fun h => ?_)))
     conv => whnf
     refine ⟨Nat, (fun k => k <= Z3C s (z :: o)), (fun k => [(0, .rs l.length 1 (Z1h l)), (3, grA 0 1 (z :: o)), (4, .int .i64 i), (5, .int .i64 k)]), (fun k => grB 0 Z1h 9 (z :: o)), (fun k => Z3C s (z :: o) - k), ⟨0, Nat.zero_le _, ?_⟩, ?_⟩
     · exact FgL.mk [0] rfl ⟨Wk.noref rfl, Wk.slice rfl rfl rfl (Nat.le_refl _) (Nat.le_refl _) rfl, Wk.int rfl, Wk.int rfl, trivial⟩ ⟨⟨rfl, rfl, rfl, rfl, BodyGe.pre (rest := []) (by simp) (Z0s _)⟩, trivial⟩ rfl
     intro k hk
     dsimp only
     by_cases hlk : k < Z3C s (z :: o)
     · have hkl : k < (z :: o).length := by omega
       have hob := ZfM s (z :: o) k hkl hlk
       have hg : tk 1 ((Z1h (z :: o)).drop (0 + k * 1)) = some [.str (z :: o)[k]] := Z11 AV.str (z :: o) k hkl (by omega)
       generalize (z :: o)[k] = y at *
       simp only [List.length_cons] at hkl
       have e3 : decide ((k : Int) < ((o.length + 1 : Nat) : Int)) = true := by simp; omega
       repeat' ((conv => whnf); first | (with_reducible refine ixJ i rfl ?_ ?_; (focus (omega))) | (with_reducible refine ixJ k rfl ?_ ?_; (focus (omega))) | (refine exI hs ?_) | (refine exI hg ?_) | (first | refine stp ?_ | with_reducible refine Z01 (fun h => ?_) (fun h => ?_)))
       conv => whnf
       refine ⟨k + 1, hlk, by show Z3C s (z :: o) - (k + 1) < Z3C s (z :: o) - k; omega, ?_⟩
       exact FgL.mk [0] rfl ⟨Wk.noref rfl, Wk.slice rfl rfl rfl (Nat.le_refl _) (Nat.le_refl _) rfl, Wk.int rfl, Wk.int rfl, trivial⟩ ⟨⟨rfl, rfl, rfl, rfl, BodyGe.pre (rest := []) (by simp) (Z0s _)⟩, trivial⟩ rfl
     · have hk2 : k = Z3C s (z :: o) := by have := hk; omega
       have hpa := ZfN s (z :: o)
       have hsame := Zb1 s (z :: o)
       have hnew := Zdr s (z :: o)
       rw [<- hk2] at hpa hsame hnew
       by_cases hkl : k < (z :: o).length
       · have hob := hpa hkl
         have hsm := hsame hkl
         have hnw := hnew
         have hg : tk 1 ((Z1h (z :: o)).drop (0 + k * 1)) = some [.str (z :: o)[k]] := Z11 AV.str (z :: o) k hkl (by omega)
         have hkl2 : k < o.length + 1 := by simpa using hkl
         have e3 : decide ((k : Int) < ((o.length + 1 : Nat) : Int)) = true := by simp; omega
         cases hys : ((z :: o)[k] == s) with
         | true =>
          rw [hsm hys] at hnx
          generalize (z :: o)[k] = y at *
          repeat' ((conv => whnf); first | (with_reducible refine ixJ i rfl ?_ ?_; (focus (omega))) | (with_reducible refine ixJ k rfl ?_ ?_; (focus (omega))) | (refine exI hs ?_) | (refine exI hg ?_) | (first | refine stp ?_ | with_reducible refine Z01 (fun h => ?_) (fun h => ?_)))
          conv => whnf
          refine ⟨i + 1, hlt, by show l.length - (i + 1) < l.length - i; omega, ?_⟩
          rw [hnx]
          exact FgL.mk [0] rfl ⟨Wk.noref rfl, Wk.slice rfl rfl rfl (Nat.le_refl _) (Nat.le_refl _) rfl, Wk.int rfl, trivial⟩ ⟨⟨rfl, rfl, rfl, rfl, BodyGe.pre (rest := []) (by simp) (Z0s _)⟩, trivial⟩ rfl
         | false =>
          have hnx2 := hnx.trans (hnw fun _ => hys)
          generalize (z :: o)[k] = y at *
          rcases k with _ | k
          · simp only [List.take_zero, List.drop_zero, List.nil_append] at hnx2
            have hxd := fun (H : Z00) (f c : Nat) hH => Zf9 (H := H) (f := f) (c := c) (n := o.length + 1) (o := z :: o) (k := 0) hH rfl
            repeat' ((conv => whnf); first | (with_reducible refine ixJ i rfl ?_ ?_; (focus (omega))) | (with_reducible refine ixJ 0 rfl ?_ ?_; (focus (omega))) | (refine exI hs ?_) | (refine exI hg ?_) | (refine exI (Z7Y hT (hxd _ _ _ rfl) rfl (Z7T ?_) ?_ ?_ ?_ ?_) ?_; (focus (simp [Zin, ABody.len])); (focus (simp [Z1h]; try omega)); (focus (exact Z1E _)); (focus (omega)); (focus (omega))) | (refine apS ?_) | (first | refine stp ?_ | with_reducible refine Z01 (fun h => ?_) (fun h => ?_)))
            conv => whnf
            refine ⟨i + 1, hlt, by show l.length - (i + 1) < l.length - i; omega, ?_⟩
            rw [hnx2]
            refine FgL.mk [4] rfl ⟨Wk.noref rfl, Wk.slice rfl rfl ?_ (Nat.le_refl _) ?_ rfl, Wk.int rfl, trivial⟩ ⟨⟨rfl, rfl, rfl, rfl, BodyGe.pre (rest := []) ?_ (Z0s _)⟩, trivial⟩ rfl
            all_goals first | (simp [Z1h]; done) | (simp; omega)
          · have hxt := fun (H : Z00) (f c : Nat) hH => Zf8 (H := H) (f := f) (c := c) (o := z :: o) (k := k + 1) hH (by simp; omega)
            have hxd := fun (H : Z00) (f c : Nat) hH => Zf9 (H := H) (f := f) (c := c) (n := o.length + 1) (o := z :: o) (k := k + 1) hH rfl
            have hct : (([] : List AV) ++ Z1h ((z :: o).take (k + 1))).length = (0 + (k + 1)) * 1 := by rw [List.nil_append, Z2C, List.length_take, Nat.min_eq_left (by simp; omega)]; omega
            repeat' ((conv => whnf); first | (with_reducible refine ixJ i rfl ?_ ?_; (focus (omega))) | (with_reducible refine ixJ (k + 1) rfl ?_ ?_; (focus (omega))) | (refine exI hs ?_) | (refine exI hg ?_) | (refine exI (Z7Y hT (hxt _ _ _ rfl) rfl (Z7T ?_) ?_ ?_ ?_ ?_) ?_; (focus (simp [Zin, ABody.len])); (focus (simp [Z1h]; try omega)); (focus (exact Z1E _)); (focus (omega)); (focus (omega))) | (refine exI (Z7Y hT (hxd _ _ _ rfl) rfl (Z7T ?_) ?_ ?_ ?_ ?_) ?_; (focus (simp [Zin, ABody.len])); (focus (simp [Z1h]; try omega)); (focus (exact Z1E _)); (focus (omega)); (focus (omega))) | (refine apS ?_) | (first | refine stp ?_ | with_reducible refine Z01 (fun h => ?_) (fun h => ?_)))
            conv => whnf
            refine ⟨i + 1, hlt, by show l.length - (i + 1) < l.length - i; omega, ?_⟩
            rw [hnx2]
            refine FgL.mk [5] rfl ⟨Wk.noref rfl, Wk.slice rfl rfl ?_ (Nat.le_refl _) ?_ rfl, Wk.int rfl, trivial⟩ ⟨⟨rfl, rfl, rfl, rfl, BodyGe.pre (rest := []) ?_ (Z0s _)⟩, trivial⟩ rfl
            all_goals first | (simp [Z1h]; done) | (simp; omega)
       · have hkn : k = o.length + 1 := by
          have := Zc5 s (z :: o)
          simp only [List.length_cons] at this hkl
          omega
         have hnx2 := hnx.trans (hnew fun h => absurd h hkl)
         have e3 : decide ((k : Int) < ((o.length + 1 : Nat) : Int)) = false := by simp; omega
         rcases k with _ | k
         · omega
         · have hxt := fun (H : Z00) (f c : Nat) hH => Zf8 (H := H) (f := f) (c := c) (o := z :: o) (k := k + 1) hH (by simp; omega)
           have hct : (([] : List AV) ++ Z1h ((z :: o).take (k + 1))).length = (0 + (k + 1)) * 1 := by rw [List.nil_append, Z2C, List.length_take, Nat.min_eq_left (by simp; omega)]; omega
           have hdr : (z :: o).drop (k + 1) = [] := List.drop_eq_nil_of_le (by simp; omega)
           rw [hdr] at hnx2
           repeat' ((conv => whnf); first | (with_reducible refine ixJ i rfl ?_ ?_; (focus (omega))) | (with_reducible refine ixJ (k + 1) rfl ?_ ?_; (focus (omega))) | (refine exI hs ?_) | (refine exI (Z7Y hT (hxt _ _ _ rfl) rfl (Z7T ?_) ?_ ?_ ?_ ?_) ?_; (focus (simp [Zin, ABody.len])); (focus (simp [Z1h]; try omega)); (focus (exact Z1E _)); (focus (omega)); (focus (omega))) | (refine exI (ZdT hT (Zjm (by omega) rfl)) ?_) | (refine apS ?_) | (first | refine stp ?_ | with_reducible refine Z01 (fun h => ?_) (fun h => ?_)))
           conv => whnf
           refine ⟨i + 1, hlt, by show l.length - (i + 1) < l.length - i; omega, ?_⟩
           rw [hnx2]
           refine FgL.mk [4] rfl ⟨Wk.noref rfl, Wk.slice rfl rfl ?_ (Nat.le_refl _) ?_ rfl, Wk.int rfl, trivial⟩ ⟨⟨rfl, rfl, rfl, rfl, BodyGe.pre (rest := []) ?_ (Z0s _)⟩, trivial⟩ rfl
           all_goals first | (simp [Z1h]; done) | (simp; omega)
 · have e1 : decide ((i : Int) < (l.length : Int)) = false := by simpa using hlt
   have hi2 : i = l.length := by have := hi; omega
   subst hi2
   rw [List.take_length] at hle ⊢
   generalize Z4U l = o at *
   cases o with
   | nil =>
    repeat' ((conv => whnf); first | refine stp ?_ | with_reducible refine Z01 (fun h => ?_) (fun h => ?_))
    all_goals exact .inr ⟨rfl, _, rfl⟩
   | cons z o =>
    repeat' ((conv => whnf); first | refine stp ?_ | with_reducible refine Z01 (fun h => ?_) (fun h => ?_))
    conv => whnf
    exact ⟨_, Z3X (b := 0) rfl (Z1F z o) (Z48 (z :: o)), .inl rfl⟩
theorem ZhK (l : List St) (hok : okSL l) (hl : l.length <= 9223372036854775807) (h : sizeSL l <= 900000) : ValOK Tryz.prog gl 70 [stA l] (rsK (Z4U (nmSL l))) := by
 have hlen := nmSL_len l
 obtain ⟨O, hO, p1, p2, -⟩ := fams (P := Tryz.prog) (gl := gl) [{ I := Unit, f := 85, G := (fun _ => True), A := (fun _ => [stA l]), R := (fun _ => rsK (nmSL l)), body := (by kernel_rfl), inj := (fun _ _ _ _ _ => rfl), ok := (fun _ _ => ⟨rfl, ZgX _ l (Nat.le_refl _) hok hl (by omega)⟩) },
  { I := Unit, f := 84, G := (fun _ => True), A := (fun _ => [rsK (nmSL l)]), R := (fun _ => rsK (Z4U (nmSL l))), body := (by kernel_rfl), inj := (fun _ _ _ _ _ => rfl), ok := (fun _ _ => ⟨rfl, ZjH _ (by omega)⟩) }] rfl
 have q1 : ∀ H, Z04 Tryz.prog O H 85 [stA l] = some (rsK (nmSL l), H) := p1 () trivial
 have q2 : ∀ H, Z04 Tryz.prog O H 84 [rsK (nmSL l)] = some (rsK (Z4U (nmSL l)), H) := p2 () trivial
 simp only [stA, rsK] at q1 q2 ⊢
 refine Z0a follows Z09 hO Tryz.func70 rfl ?_
 repeat' ((conv => whnf); first | (refine exI (q1 _) ?_) | (refine exI (q2 _) ?_) | (first | refine stp ?_ | with_reducible refine Z01 (fun h => ?_) (fun h => ?_)))
 all_goals rfl
end Go.Proofs.YteidjbahodbgdaaGreatDoor.lex
end

section
namespace Go.Proofs.YteidjbahodbgdaaGreatDoor.lex
open Go.Abs Go.RowKit Go.Flat
set_option maxRecDepth 100000
set_option maxHeartbeats 4000000
variable {gl : Z0l}
theorem Zkv {P : Program} {gl : Z0l} {orc : Orc} (hm : P.follows .mixedOrders = true) (hn : NoNum P) (hO : Z06 P gl orc) {f : Nat} {fn : Func} {c : Code} {args : List AV} {r : AV}
  (hf : P.funcs[f]? = some fn) (hc : fn.body = some c) (h : Z2z (tmk (Z8a args fn.ntmps args.length) (Z8r 20 fn.ntmps)) fun tm => Z1t P gl orc (cw0 P orc) (Z6h 0) c (Zcg P fn.results.toList fun r' => r' = r \/ wkV r' r = true) (fun _ _ _ => False) (Zcg P fn.results.toList fun r' => r' = r \/ wkV r' r = true) tm []) : ValOK P gl f args r :=
 fn_valX hm hn hO (fun r' hr sn v hv => by rcases hr with rfl | hr; exact hv; exact Zfb _ _ _ hr hv) hf hc (Z3G P orc) h
theorem Zjh (k : Int) : ValOK Tryz.prog gl 53 [.int .i64 k] (.bool (Z6I k)) := by
 refine Z0a follows Z09 Z05 Tryz.func53 rfl ?_
 repeat' ((conv => whnf); first | refine stp ?_ | with_reducible refine Z01 (fun h => ?_) (fun h => ?_))
 all_goals (show AV.bool _ = AV.bool _; congr 1; unfold Z6I; (first | (simp_all; done) | (simp_all; omega) | (rw [Bool.eq_iff_iff]; simp_all; omega)))
def ZiY (k : Int) : Int := if 1 <= k /\ k <= 13 then Z3W k else -1
theorem Zlx (k : Int) : ValOK Tryz.prog gl 54 [.int .i64 k] (.int .i64 (ZiY k)) := by
 refine Z0a follows Z09 Z05 Tryz.func54 rfl ?_
 repeat' ((conv => whnf); first | refine stp ?_ | with_reducible refine Z01 (fun h => ?_) (fun h => ?_))
 all_goals (show AV.int _ _ = AV.int _ _; congr 1; unfold ZiY Z3W; simp only [beq_iff_eq, beq_eq_false_iff_ne] at *; (repeat' split) <;> omega)
theorem ZjF (k : Int) : ValOK Tryz.prog gl 55 [.int .i64 k] (.bool (Z36 k)) := by
 obtain ⟨O, hO, p1, -⟩ := fams (P := Tryz.prog) (gl := gl) [{ I := Unit, f := 53, G := fun _ => True, A := fun _ => [.int .i64 k], R := fun _ => .bool (Z6I k), body := (by kernel_rfl), inj := fun _ _ _ _ _ => rfl, ok := fun _ _ => ⟨rfl, Zjh _⟩ }] rfl
 have q1 : ∀ H, Z04 Tryz.prog O H 53 [.int .i64 k] = some (.bool (Z6I k), H) := p1 () trivial
 clear p1
 have hs : Z36 k = (k == 1 || (Z6I k && (k != 3))) := by
  unfold Z36 Z6I
  rw [Bool.eq_iff_iff]; simp; omega
 rw [hs]
 clear hs
 generalize Z6I k = a at *
 refine Z0a follows Z09 hO Tryz.func55 rfl ?_
 cases a <;> (repeat' ((conv => whnf); first | (refine exI (q1 _) ?_) | (first | refine stp ?_ | with_reducible refine Z01 (fun h => ?_) (fun h => ?_))))
 all_goals (show AV.bool _ = AV.bool _; congr 1; clear q1; simp_all)
theorem Z9W : ∀ l : List Ex, (exC l).all Go.Abs.one = true
 | [] => by simp only [exC]; rfl
 | .mk _ _ _ _ :: l => by simp only [exC, Ex.cells, List.all_append, Z9W l, Bool.and_true]; rfl
theorem Z5w : ∀ l : List Ex, (exC l).all Z61 = true
 | [] => by simp only [exC]; rfl
 | .mk _ _ _ _ :: l => by simp only [exC, Ex.cells, List.all_append, Z5w l, Bool.and_true]; rfl
theorem Z9V (l : List Ex) : refsL (exC l) [] = [] := Z49 (Zgx (Z5w l))
theorem Z4j (e : Ex) (l : List Ex) : (exC (e :: l)).length = (l.length + 1) * 4 := by rw [Zch]; rfl
theorem wk4 {k1 k2 : IntKind} {a b : Int} {s : List UInt8} : wkV (.agg [.int k1 a, .int k2 b, .str s, .nslice]) (.agg [.int k1 a, .int k2 b, .str s, .rs 0 4 []]) = true := by simp [wkV, wkVL, veq]
theorem Z9J {H : Z00} {n : Nat} {a b c d a' b' c' d' : AV} (h1 : frz H n a = some a') (h2 : frz H n b = some b') (h3 : frz H n c = some c') (h4 : frz H n d = some d') : frz H (n + 1) (.agg [a, b, c, d]) = some (.agg [a', b', c', d']) := by
 show (match Z0L (frz H n) [a, b, c, d] with | some l => some (AV.agg l) | none => none) = _
 simp only [Z0L, h1, h2, h3, h4]
theorem Zdi : ∀ (n : Nat) (e : Ex), Z0f e <= n -> okE e -> Z0f e <= 1048576 -> ValOK Tryz.prog gl 56 [.agg e.cells, .str [114]] (.agg (Z3D e).cells)
 | n, e, h, hok, hs => by
  have hinj : ∀ x y : Ex, (Z0f x < n /\ okE x /\ Z0f x <= 1048576) -> (Z0f y < n /\ okE y /\ Z0f y <= 1048576) -> [AV.agg x.cells, .str [114]] = [AV.agg y.cells, .str [114]] -> AV.agg (Z3D x).cells = .agg (Z3D y).cells := fun x y _ _ h => by
   simp only [List.cons.injEq, AV.agg.injEq, and_true] at h
   rw [Z16 _ _ h]
  obtain ⟨O, hO, p1, p2, -⟩ := fams (P := Tryz.prog) (gl := gl) [{ I := Ex, f := 56, G := fun x => Z0f x < n /\ okE x /\ Z0f x <= 1048576, A := fun x => [.agg x.cells, .str [114]], R := fun x => .agg (Z3D x).cells, body := (by kernel_rfl), inj := hinj, ok := (fun x hx => ⟨by obtain ⟨o, m, s, k⟩ := x; simp only [Ex.cells]; rfl, match n, hx.1 with | n + 1, h => Zdi n x (by omega) hx.2.1 hx.2.2⟩) },
   { I := List UInt8, f := 58, G := fun s => s.length <= 9223372036854775807, A := fun s => [.str s], R := fun s => .int .i64 (Z1X s), body := (by kernel_rfl), inj := (fun i j _ _ h => by simp only [List.cons.injEq, AV.str.injEq, and_true] at h; rw [h]), ok := fun s hs => ⟨rfl, ZfZ s hs⟩ }] rfl
  have q1 : ∀ x, Z0f x < n -> okE x -> Z0f x <= 1048576 -> ∀ H, Z04 Tryz.prog O H 56 [.agg x.cells, .str [114]] = some (.agg (Z3D x).cells, H) := fun x h1 h2 h3 => p1 x ⟨h1, h2, h3⟩
  have q2 : ∀ s, s.length <= 9223372036854775807 -> ∀ H, Z04 Tryz.prog O H 58 [.str s] = some (.int .i64 (Z1X s), H) := p2
  clear p1 p2 hinj
  have hT : Z74 Tryz.prog 60 60 = some (65, 4, 56) := by kernel_rfl
  obtain ⟨op, num, name, kids⟩ := e
  have hk := Z2d hok
  simp only [Ex.kids, Ex.name, okN] at hk
  simp only [Z0f] at h hs
  have q2' := q2 name hk.1.1
  clear q2
  simp only [Ex.cells, Z3D] at *
  have hcase : ((op == 2) = true /\ decide (Z1X name >= 0) = true /\ (if op = 2 then ZeB name else name) = [114] ++ name /\ name.length <= 4) \/ ((op == 2) = true /\ decide (Z1X name >= 0) = false /\ (if op = 2 then ZeB name else name) = [48]) \/ ((op == 2) = false /\ (if op = 2 then ZeB name else name) = name) := by
   by_cases h2 : op = 2
   · subst h2
     by_cases h3 : 0 <= Z1X name
     · exact .inl ⟨rfl, by simpa using h3, by simp [ZeB, h3], Zdj name h3⟩
     · exact .inr (.inl ⟨rfl, by simpa using h3, by simp [ZeB, h3]⟩)
   · exact .inr (.inr ⟨by simpa using h2, by simp [h2]⟩)
  generalize hnm : (if op = 2 then ZeB name else name) = nm at *
  clear hnm
  generalize Z1X name = ns at *
  rw [Z1Y]
  refine Zkv follows Z09 hO Tryz.func56 rfl ?_
  rcases hcase with ⟨o1, o2, rfl, o3⟩ | ⟨o1, o2, rfl⟩ | ⟨o1, rfl⟩
  case inl =>
   repeat' ((conv => whnf); first | (with_reducible refine exI (q2' _) ?_) | (refine And.intro (show _ <= (9223372036854775807 : Nat) by simp; omega) ?_) | (first | refine stp ?_ | with_reducible refine Z01 (fun h => ?_) (fun h => ?_)))
   conv => whnf
   refine ⟨Nat, (fun i => i <= kids.length), (fun i => [(1, .str [114]), (2, .ptr 0 0), (4, .ptr 1 0), (5, .ptr 2 0), (6, .int .i64 i)]), (fun i => ⟨true, 0, 0, .cells [.int .i64 op, .int .i64 num, .str name, .rs kids.length 4 (exC kids)] 65⟩ :: ⟨true, 1, 0, .cells [.int .i64 0, .int .i64 0, .str [], .nslice] 65⟩ :: ⟨true, 2, 0, .cells [.int .i64 op, .int .i64 num, .str ([114] ++ name), grA 3 4 (namL (kids.take i))] 65⟩ :: grB 3 exC 65 (namL (kids.take i))), (fun i => kids.length - i), ⟨0, Nat.zero_le _, ?_⟩, ?_⟩
   · simp only [List.take_zero, namL]
     refine FgL.mk [0, 1, 2] rfl ?_ ⟨⟨rfl, rfl, rfl, rfl, BodyGe.pre (rest := []) rfl rfl⟩, ⟨rfl, rfl, rfl, rfl, BodyGe.pre (rest := []) rfl rfl⟩, ⟨rfl, rfl, rfl, rfl, BodyGe.pre (rest := []) rfl rfl⟩, trivial⟩ rfl
     (repeat (first | exact trivial | refine stw ?_))
   intro i hi
   dsimp only
   by_cases hlt : i < kids.length
   · have e1 : decide ((i : Int) < (kids.length : Int)) = true := by simpa using hlt
     have hx := ex4 kids i hlt
     have hsz := Z0w _ _ (Z0i hlt)
     have hkl := Z1H kids
     have q3 := q1 kids[i] (by omega) (Z0H hk.2 _ (Z0i hlt)) (by omega)
     have hnx := Z5k kids i hlt
     have hol : (namL (kids.take i)).length <= 1048576 := by rw [Z1Y, List.length_take]; omega
     clear q1 q2' hsz
     generalize namL (kids.take i) = o at *
     generalize Z3D kids[i] = y at *
     generalize kids[i] = x at *
     obtain ⟨xo, xn, xs, xk⟩ := x
     obtain ⟨yo, yn, ys, yk⟩ := y
     simp only [Ex.cells] at hx q3
     cases o with
     | nil =>
      repeat' ((conv => whnf); first | (with_reducible refine exI (q3 _) ?_) | (with_reducible refine ixJ i rfl ?_ ?_; (focus (omega))) | (refine exI hx ?_) | (refine apS ?_) | (first | refine stp ?_ | with_reducible refine Z01 (fun h => ?_) (fun h => ?_)))
      conv => whnf
      refine ⟨i + 1, hlt, by show kids.length - (i + 1) < kids.length - i; omega, ?_⟩
      rw [hnx]
      refine FgL.mk [0, 1, 2, 4] rfl ?_ ⟨⟨rfl, rfl, rfl, rfl, BodyGe.pre (rest := []) rfl rfl⟩, ⟨rfl, rfl, rfl, rfl, BodyGe.pre (rest := []) rfl rfl⟩, ⟨rfl, rfl, rfl, rfl, BodyGe.cellsL ⟨Wk.int rfl, Wk.int rfl, Wk.noref rfl, Wk.slice rfl rfl rfl (Nat.le_refl _) (Nat.le_refl _) rfl, trivial⟩⟩, ⟨rfl, rfl, rfl, rfl, BodyGe.pre (rest := []) rfl rfl⟩, trivial⟩ rfl
      (repeat (first | exact trivial | refine stw ?_))
     | cons z o =>
      have hcl := Z4j z o
      have hon := Z9W (z :: o)
      simp only [List.length_cons] at hol
      repeat' ((conv => whnf); first | (with_reducible refine exI (q3 _) ?_) | (with_reducible refine ixJ i rfl ?_ ?_; (focus (omega))) | (refine exI hx ?_) | (refine apS ?_) | (first | refine stp ?_ | with_reducible refine Z01 (fun h => ?_) (fun h => ?_)))
      conv => whnf
      refine ⟨i + 1, hlt, by show kids.length - (i + 1) < kids.length - i; omega, ?_⟩
      rw [hnx]
      refine FgL.mk [0, 1, 2, 5] rfl ?_ ⟨⟨rfl, rfl, rfl, rfl, BodyGe.pre (rest := []) rfl rfl⟩, ⟨rfl, rfl, rfl, rfl, BodyGe.pre (rest := []) rfl rfl⟩, ⟨rfl, rfl, rfl, rfl, BodyGe.cellsL ⟨Wk.int rfl, Wk.int rfl, Wk.noref rfl, Wk.slice rfl rfl (by simp) (Nat.le_refl _) (by simp) rfl, trivial⟩⟩, ⟨rfl, rfl, rfl, rfl, BodyGe.pre (rest := []) (by show _ = exC ((z :: o) ++ [Ex.mk yo yn ys yk]) ++ []; rw [Z9X, List.append_nil]; simp only [exC, Ex.cells, List.append_nil]) (Z9V _)⟩, trivial⟩ rfl
      (repeat (first | exact trivial | refine stw ?_))
   · have e1 : decide ((i : Int) < (kids.length : Int)) = false := by simpa using hlt
     have hi2 : i = kids.length := by have := hi; omega
     subst hi2
     have hol : (namL kids).length = kids.length := Z1Y kids
     rw [List.take_length]
     rw [<- hol]
     clear q1 q2'
     generalize namL kids = o at *
     cases o with
     | nil =>
      rw [<- hol] at *
      repeat' ((conv => whnf); first | refine stp ?_ | with_reducible refine Z01 (fun h => ?_) (fun h => ?_))
      all_goals (conv => whnf)
      all_goals exact .inr wk4
     | cons z o =>
      repeat' ((conv => whnf); first | refine stp ?_ | with_reducible refine Z01 (fun h => ?_) (fun h => ?_))
      all_goals (conv => whnf)
      all_goals exact ⟨_, Z9J (n := 29) rfl rfl rfl (Z02 (n := 27) (b := 3) rfl (Z4j z o) (Z5w _)), .inl rfl⟩
  case inr.inl =>
   repeat' ((conv => whnf); first | (with_reducible refine exI (q2' _) ?_) | (refine And.intro (show _ <= (9223372036854775807 : Nat) by simp; omega) ?_) | (first | refine stp ?_ | with_reducible refine Z01 (fun h => ?_) (fun h => ?_)))
   conv => whnf
   refine ⟨Nat, (fun i => i <= kids.length), (fun i => [(1, .str [114]), (2, .ptr 0 0), (4, .ptr 1 0), (5, .ptr 2 0), (6, .int .i64 i)]), (fun i => ⟨true, 0, 0, .cells [.int .i64 op, .int .i64 num, .str name, .rs kids.length 4 (exC kids)] 65⟩ :: ⟨true, 1, 0, .cells [.int .i64 0, .int .i64 0, .str [], .nslice] 65⟩ :: ⟨true, 2, 0, .cells [.int .i64 op, .int .i64 num, .str ([48]), grA 3 4 (namL (kids.take i))] 65⟩ :: grB 3 exC 65 (namL (kids.take i))), (fun i => kids.length - i), ⟨0, Nat.zero_le _, ?_⟩, ?_⟩
   · simp only [List.take_zero, namL]
     refine FgL.mk [0, 1, 2] rfl ?_ ⟨⟨rfl, rfl, rfl, rfl, BodyGe.pre (rest := []) rfl rfl⟩, ⟨rfl, rfl, rfl, rfl, BodyGe.pre (rest := []) rfl rfl⟩, ⟨rfl, rfl, rfl, rfl, BodyGe.pre (rest := []) rfl rfl⟩, trivial⟩ rfl
     (repeat (first | exact trivial | refine stw ?_))
   intro i hi
   dsimp only
   by_cases hlt : i < kids.length
   · have e1 : decide ((i : Int) < (kids.length : Int)) = true := by simpa using hlt
     have hx := ex4 kids i hlt
     have hsz := Z0w _ _ (Z0i hlt)
     have hkl := Z1H kids
     have q3 := q1 kids[i] (by omega) (Z0H hk.2 _ (Z0i hlt)) (by omega)
     have hnx := Z5k kids i hlt
     have hol : (namL (kids.take i)).length <= 1048576 := by rw [Z1Y, List.length_take]; omega
     clear q1 q2' hsz
     generalize namL (kids.take i) = o at *
     generalize Z3D kids[i] = y at *
     generalize kids[i] = x at *
     obtain ⟨xo, xn, xs, xk⟩ := x
     obtain ⟨yo, yn, ys, yk⟩ := y
     simp only [Ex.cells] at hx q3
     cases o with
     | nil =>
      repeat' ((conv => whnf); first | (with_reducible refine exI (q3 _) ?_) | (with_reducible refine ixJ i rfl ?_ ?_; (focus (omega))) | (refine exI hx ?_) | (refine apS ?_) | (first | refine stp ?_ | with_reducible refine Z01 (fun h => ?_) (fun h => ?_)))
      conv => whnf
      refine ⟨i + 1, hlt, by show kids.length - (i + 1) < kids.length - i; omega, ?_⟩
      rw [hnx]
      refine FgL.mk [0, 1, 2, 4] rfl ?_ ⟨⟨rfl, rfl, rfl, rfl, BodyGe.pre (rest := []) rfl rfl⟩, ⟨rfl, rfl, rfl, rfl, BodyGe.pre (rest := []) rfl rfl⟩, ⟨rfl, rfl, rfl, rfl, BodyGe.cellsL ⟨Wk.int rfl, Wk.int rfl, Wk.noref rfl, Wk.slice rfl rfl rfl (Nat.le_refl _) (Nat.le_refl _) rfl, trivial⟩⟩, ⟨rfl, rfl, rfl, rfl, BodyGe.pre (rest := []) rfl rfl⟩, trivial⟩ rfl
      (repeat (first | exact trivial | refine stw ?_))
     | cons z o =>
      have hcl := Z4j z o
      have hon := Z9W (z :: o)
      simp only [List.length_cons] at hol
      repeat' ((conv => whnf); first | (with_reducible refine exI (q3 _) ?_) | (with_reducible refine ixJ i rfl ?_ ?_; (focus (omega))) | (refine exI hx ?_) | (refine apS ?_) | (first | refine stp ?_ | with_reducible refine Z01 (fun h => ?_) (fun h => ?_)))
      conv => whnf
      refine ⟨i + 1, hlt, by show kids.length - (i + 1) < kids.length - i; omega, ?_⟩
      rw [hnx]
      refine FgL.mk [0, 1, 2, 5] rfl ?_ ⟨⟨rfl, rfl, rfl, rfl, BodyGe.pre (rest := []) rfl rfl⟩, ⟨rfl, rfl, rfl, rfl, BodyGe.pre (rest := []) rfl rfl⟩, ⟨rfl, rfl, rfl, rfl, BodyGe.cellsL ⟨Wk.int rfl, Wk.int rfl, Wk.noref rfl, Wk.slice rfl rfl (by simp) (Nat.le_refl _) (by simp) rfl, trivial⟩⟩, ⟨rfl, rfl, rfl, rfl, BodyGe.pre (rest := []) (by show _ = exC ((z :: o) ++ [Ex.mk yo yn ys yk]) ++ []; rw [Z9X, List.append_nil]; simp only [exC, Ex.cells, List.append_nil]) (Z9V _)⟩, trivial⟩ rfl
      (repeat (first | exact trivial | refine stw ?_))
   · have e1 : decide ((i : Int) < (kids.length : Int)) = false := by simpa using hlt
     have hi2 : i = kids.length := by have := hi; omega
     subst hi2
     have hol : (namL kids).length = kids.length := Z1Y kids
     rw [List.take_length]
     rw [<- hol]
     clear q1 q2'
     generalize namL kids = o at *
     cases o with
     | nil =>
      rw [<- hol] at *
      repeat' ((conv => whnf); first | refine stp ?_ | with_reducible refine Z01 (fun h => ?_) (fun h => ?_))
      all_goals (conv => whnf)
      all_goals exact .inr wk4
     | cons z o =>
      repeat' ((conv => whnf); first | refine stp ?_ | with_reducible refine Z01 (fun h => ?_) (fun h => ?_))
      all_goals (conv => whnf)
      all_goals exact ⟨_, Z9J (n := 29) rfl rfl rfl (Z02 (n := 27) (b := 3) rfl (Z4j z o) (Z5w _)), .inl rfl⟩
  case inr.inr =>
   repeat' ((conv => whnf); first | (with_reducible refine exI (q2' _) ?_) | (refine And.intro (show _ <= (9223372036854775807 : Nat) by simp; omega) ?_) | (first | refine stp ?_ | with_reducible refine Z01 (fun h => ?_) (fun h => ?_)))
   conv => whnf
   refine ⟨Nat, (fun i => i <= kids.length), (fun i => [(1, .str [114]), (2, .ptr 0 0), (4, .ptr 1 0), (5, .ptr 2 0), (6, .int .i64 i)]), (fun i => ⟨true, 0, 0, .cells [.int .i64 op, .int .i64 num, .str nm, .rs kids.length 4 (exC kids)] 65⟩ :: ⟨true, 1, 0, .cells [.int .i64 0, .int .i64 0, .str [], .nslice] 65⟩ :: ⟨true, 2, 0, .cells [.int .i64 op, .int .i64 num, .str (nm), grA 3 4 (namL (kids.take i))] 65⟩ :: grB 3 exC 65 (namL (kids.take i))), (fun i => kids.length - i), ⟨0, Nat.zero_le _, ?_⟩, ?_⟩
   · simp only [List.take_zero, namL]
     refine FgL.mk [0, 1, 2] rfl ?_ ⟨⟨rfl, rfl, rfl, rfl, BodyGe.pre (rest := []) rfl rfl⟩, ⟨rfl, rfl, rfl, rfl, BodyGe.pre (rest := []) rfl rfl⟩, ⟨rfl, rfl, rfl, rfl, BodyGe.pre (rest := []) rfl rfl⟩, trivial⟩ rfl
     (repeat (first | exact trivial | refine stw ?_))
   intro i hi
   dsimp only
   by_cases hlt : i < kids.length
   · have e1 : decide ((i : Int) < (kids.length : Int)) = true := by simpa using hlt
     have hx := ex4 kids i hlt
     have hsz := Z0w _ _ (Z0i hlt)
     have hkl := Z1H kids
     have q3 := q1 kids[i] (by omega) (Z0H hk.2 _ (Z0i hlt)) (by omega)
     have hnx := Z5k kids i hlt
     have hol : (namL (kids.take i)).length <= 1048576 := by rw [Z1Y, List.length_take]; omega
     clear q1 q2' hsz
     generalize namL (kids.take i) = o at *
     generalize Z3D kids[i] = y at *
     generalize kids[i] = x at *
     obtain ⟨xo, xn, xs, xk⟩ := x
     obtain ⟨yo, yn, ys, yk⟩ := y
     simp only [Ex.cells] at hx q3
     cases o with
     | nil =>
      repeat' ((conv => whnf); first | (with_reducible refine exI (q3 _) ?_) | (with_reducible refine ixJ i rfl ?_ ?_; (focus (omega))) | (refine exI hx ?_) | (refine apS ?_) | (first | refine stp ?_ | with_reducible refine Z01 (fun h => ?_) (fun h => ?_)))
      conv => whnf
      refine ⟨i + 1, hlt, by show kids.length - (i + 1) < kids.length - i; omega, ?_⟩
      rw [hnx]
      refine FgL.mk [0, 1, 2, 4] rfl ?_ ⟨⟨rfl, rfl, rfl, rfl, BodyGe.pre (rest := []) rfl rfl⟩, ⟨rfl, rfl, rfl, rfl, BodyGe.pre (rest := []) rfl rfl⟩, ⟨rfl, rfl, rfl, rfl, BodyGe.cellsL ⟨Wk.int rfl, Wk.int rfl, Wk.noref rfl, Wk.slice rfl rfl rfl (Nat.le_refl _) (Nat.le_refl _) rfl, trivial⟩⟩, ⟨rfl, rfl, rfl, rfl, BodyGe.pre (rest := []) rfl rfl⟩, trivial⟩ rfl
      (repeat (first | exact trivial | refine stw ?_))
     | cons z o =>
      have hcl := Z4j z o
      have hon := Z9W (z :: o)
      simp only [List.length_cons] at hol
      repeat' ((conv => whnf); first | (with_reducible refine exI (q3 _) ?_) | (with_reducible refine ixJ i rfl ?_ ?_; (focus (omega))) | (refine exI hx ?_) | (refine apS ?_) | (first | refine stp ?_ | with_reducible refine Z01 (fun h => ?_) (fun h => ?_)))
      conv => whnf
      refine ⟨i + 1, hlt, by show kids.length - (i + 1) < kids.length - i; omega, ?_⟩
      rw [hnx]
      refine FgL.mk [0, 1, 2, 5] rfl ?_ ⟨⟨rfl, rfl, rfl, rfl, BodyGe.pre (rest := []) rfl rfl⟩, ⟨rfl, rfl, rfl, rfl, BodyGe.pre (rest := []) rfl rfl⟩, ⟨rfl, rfl, rfl, rfl, BodyGe.cellsL ⟨Wk.int rfl, Wk.int rfl, Wk.noref rfl, Wk.slice rfl rfl (by simp) (Nat.le_refl _) (by simp) rfl, trivial⟩⟩, ⟨rfl, rfl, rfl, rfl, BodyGe.pre (rest := []) (by show _ = exC ((z :: o) ++ [Ex.mk yo yn ys yk]) ++ []; rw [Z9X, List.append_nil]; simp only [exC, Ex.cells, List.append_nil]) (Z9V _)⟩, trivial⟩ rfl
      (repeat (first | exact trivial | refine stw ?_))
   · have e1 : decide ((i : Int) < (kids.length : Int)) = false := by simpa using hlt
     have hi2 : i = kids.length := by have := hi; omega
     subst hi2
     have hol : (namL kids).length = kids.length := Z1Y kids
     rw [List.take_length]
     rw [<- hol]
     clear q1 q2'
     generalize namL kids = o at *
     cases o with
     | nil =>
      rw [<- hol] at *
      repeat' ((conv => whnf); first | refine stp ?_ | with_reducible refine Z01 (fun h => ?_) (fun h => ?_))
      all_goals (conv => whnf)
      all_goals exact .inr wk4
     | cons z o =>
      repeat' ((conv => whnf); first | refine stp ?_ | with_reducible refine Z01 (fun h => ?_) (fun h => ?_))
      all_goals (conv => whnf)
      all_goals exact ⟨_, Z9J (n := 29) rfl rfl rfl (Z02 (n := 27) (b := 3) rfl (Z4j z o) (Z5w _)), .inl rfl⟩
end Go.Proofs.YteidjbahodbgdaaGreatDoor.lex
end

section
namespace Go.Proofs.YteidjbahodbgdaaGreatDoor.lex
open Go.Abs Go.RowKit
set_option maxRecDepth 100000
set_option maxHeartbeats 4000000
variable {gl : Z0l}
def ZiD (k : Int) (n l : List UInt8) (o : Int) (x : List Ex) : St := .mk k n l o x [] []
def alA (k : Int) (n l : List UInt8) (o : Int) (nx : Nat) (cx : List AV) : AV := .rs 1 7 [.int .i64 k, .str n, .str l, .int .i64 o, .rs nx 4 cx, .nslice, .nslice]
theorem ZkQ (k : Int) (n l : List UInt8) (o : Int) (x : List Ex) : ∀ sn vs, LR sn noI [alA k n l o x.length (exC x)] vs -> LR sn noI [stA [ZiD k n l o x]] vs := by
 intro sn vs h
 have hE : stA [ZiD k n l o x] = .rs 1 7 [.int .i64 k, .str n, .str l, .int .i64 o, .rs x.length 4 (exC x), .rs 0 7 [], .rs 0 7 []] := rfl
 rw [hE]
 simp only [alA, LR] at h ⊢
 obtain ⟨d, ds, rfl, h1, h2⟩ := h
 refine ⟨d, ds, rfl, ?_, h2⟩
 unfold VR at h1 ⊢
 rcases h1 with ⟨h1, _⟩ | ⟨a, cap, x1, x2, x3, x4, x5⟩
 · cases h1
 · refine .inr ⟨a, cap, x1, x2, rfl, ?_, x5⟩
   simp only [MR] at x4 ⊢
   obtain ⟨m1, m2, m3, m4, m5, ⟨v6, n6, k6⟩, ⟨v7, n7, k7⟩, m8⟩ := x4
   exact ⟨m1, m2, m3, m4, m5, ⟨v6, n6, Zde k6⟩, ⟨v7, n7, Zde k7⟩, m8⟩
section
open Classical
noncomputable def Zlh (g : Nat) (A : List AV) (r : AV) : Nat -> List AV -> Option AV := fun f fa => if f = g /\ fa = A then some r else none
end
theorem Zei {g : Nat} {A : List AV} {r : AV} (h : ValOK Tryz.prog gl g A r) : Z06 Tryz.prog gl (ZjV (Zlh g A r)) := Zex fun f args r' hr => by
 unfold Zlh at hr
 split at hr
 · rename_i h2
   obtain ⟨rfl, rfl⟩ := h2
   simp only [Option.some.injEq] at hr
   subst hr
   exact h
 · cases hr
theorem ZkR {k : Int} {n l : List UInt8} {o : Int} {x : List Ex} (hn : n.length <= 9223372036854775807) (hl : l.length <= 9223372036854775807) (hx : okL x) (hxl : x.length <= 9223372036854775807) : okSL [ZiD k n l o x] := by
 simp [okSL, ZiD, okS, okL, okN, hn, hl, hx, hxl]
theorem ZgY (k : Int) (n l : List UInt8) (o : Int) (x : List Ex) : sizeSL [ZiD k n l o x] = 1 + sizeL x := by simp [ZiD, sizeSL, ZbW]
end Go.Proofs.YteidjbahodbgdaaGreatDoor.lex
end

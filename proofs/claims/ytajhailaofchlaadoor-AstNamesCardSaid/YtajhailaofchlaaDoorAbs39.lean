/-
  A verified abstract interpreter, part 39: steps of a proof: loops, texts.
-/
import Derived.Test.YtajhailaofchlaaDoorAbs38
set_option linter.unusedSimpArgs false
set_option linter.unusedVariables false
namespace Go.Abs
open Go.RowKit

theorem FgL.mk {t0 tm : Tr} {H : AHeap} {l : List (Nat × AV)} {H2 : AHeap} (m : List Nat) (h : subT t0 tm = true) (h1 : SlotsGe m tm l) (h2 : HpGe H m m H2 0) (h3 : nodupN (m.map (famOf H)) = true) : FgL t0 tm H l H2 := by
  unfold FgL FgLK; rw [h]; exact ⟨m, rfl, h1, h2, h3⟩
theorem FgLK.mk {k : Nat} {t0 tm : Tr} {H : AHeap} {l : List (Nat × AV)} {H2 : AHeap} (m : List Nat) (hk : pref k 0 m = true) (h : subT t0 tm = true) (h1 : SlotsGe m tm l) (h2 : HpGe H m m H2 0) (h3 : nodupN (m.map (famOf H)) = true) : FgLK k t0 tm H l H2 := by
  unfold FgLK; rw [h]; exact ⟨m, hk, h1, h2, h3⟩
/-- Nothing of memory is kept. -/
theorem FgL.mk0 {t0 tm : Tr} {H : AHeap} {l : List (Nat × AV)} (h : subT t0 tm = true) (h1 : SlotsGe [] tm l) : FgL t0 tm H l [] := FgL.mk [] h h1 trivial rfl
theorem wrapI {n : Int} (h : -9223372036854775808 ≤ n ∧ n ≤ 9223372036854775807) : IntKind.i64.wrap n = n := IntWalk.i64_in n h
/-- A loop, by what holds at its head. -/
theorem loopI {S : Type} (I : S → Prop) (L : S → List (Nat × AV)) (B : S → AHeap) (μ : S → Nat) {body : (Tr → AHeap → Prop) → Tr → AHeap → Prop} {tm : Tr} {H : AHeap} (s : S) (h0 : I s) (h1 : FgL tm tm H (L s) (B s))
    (h : ∀ s, I s → frcTr (mask (fun n => alook n (L s)) tm) fun tm1 => frcHW (B s) fun H1 => body (fun tm' H' => ∃ s', I s' ∧ μ s' < μ s ∧ FgL tm tm' H' (L s') (B s')) tm1 H1) : wloop body tm H := ⟨S, I, L, B, μ, ⟨s, h0, h1⟩, h⟩
theorem roundI {S : Type} {I : S → Prop} {μ : S → Nat} {K : S → Prop} {s0 : S} (s : S) (h0 : I s) (h1 : μ s < μ s0) (h2 : K s) : ∃ s', I s' ∧ μ s' < μ s0 ∧ K s' := ⟨s, h0, h1, h2⟩
/-- A shift's count. -/
theorem shlI {a b : Int} {K : Prop} (h : a ≤ b) (k : K) : a ≤ b ∧ K := ⟨h, k⟩
end Go.Abs

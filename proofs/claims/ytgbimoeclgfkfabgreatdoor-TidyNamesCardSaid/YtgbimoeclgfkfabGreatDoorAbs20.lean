/-
  A verified abstract interpreter, part 20: calls n deep, of which some are known.
-/
import Derived.Test.YtgbimoeclgfkfabGreatDoorAbs19
set_option linter.unusedSimpArgs false
set_option linter.unusedVariables false
namespace Go.Abs
open Go.RowKit

/-- As 'runs', but what the table tells is not run. -/
def runsT (P : Program) (gl : Glob) (tbl : Orc) (fuel : Nat) : Nat → Orc
  | 0 => fun _ _ _ => none
  | n + 1 => fun f args H => match tbl f args H with
    | some r => some r
    | none => afunc P gl (runsT P gl tbl fuel n) fuel f args H

theorem runsT_sound {P : Program} {gl : Glob} {tbl : Orc} {fuel : Nat} (hm : P.follows .mixedOrders = true) (hn : NoNum P) (ht : OrcSound P gl tbl) : ∀ n, OrcSound P gl (runsT P gl tbl fuel n)
  | 0 => by intro f args H r H' h; simp [runsT] at h
  | n + 1 => by
    have := afunc_sound (fuel := fuel) hm hn (runsT_sound (fuel := fuel) hm hn ht n)
    intro f args H r H' h
    simp only [runsT] at h
    split at h
    · rename_i y hy
      simp at h; subst h
      exact ht f args H r H' hy
    · exact this f args H r H' h

def memA (f : Nat) (args : List AV) : List (Nat × List AV) → Bool
  | [] => false
  | (g, az) :: l => (Nat.beq f g && veqL args az) || memA f args l

/-- The calls of l, handed no memory, answer true and leave nothing. -/
def tblTrue (l : List (Nat × List AV)) : Orc := fun f args H => match H with
  | [] => if memA f args l then some (.bool true, []) else none
  | _ => none

theorem tblTrue_nil {P : Program} {gl : Glob} : OrcSound P gl (tblTrue []) := by
  intro f args H r H' h
  simp only [tblTrue] at h
  split at h <;> simp [memA] at h

/-- One more. -/
theorem tblTrue_cons {P : Program} {gl : Glob} {fuel n : Nat} (hm : P.follows .mixedOrders = true) (hn : NoNum P) {l : List (Nat × List AV)} (hl : OrcSound P gl (tblTrue l)) {f : Nat} {az : List AV} (h : runsT P gl (tblTrue l) fuel n f az [] = some (.bool true, [])) : OrcSound P gl (tblTrue ((f, az) :: l)) := by
  intro g args H r H' hg
  simp only [tblTrue] at hg
  split at hg <;> try (simp at hg; done)
  split at hg <;> simp at hg
  obtain ⟨rfl, rfl⟩ := hg
  rename_i hmem
  simp only [memA, Bool.or_eq_true, Bool.and_eq_true] at hmem
  rcases hmem with ⟨hm1, hm2⟩ | hm'
  · have := Nat.eq_of_beq_eq_true hm1; subst this
    have := veqL_eq _ _ hm2; subst this
    exact runsT_sound hm hn hl n g args [] _ _ h
  · exact hl g args [] (.bool true) [] (by simp [tblTrue, hm'])

theorem closed_callsT {P : Program} {gl : Glob} {tbl : Orc} {f : Nat} {b : Bool} (hO : OrcSound P gl tbl) (h : tbl f [] [] = some (.bool b, [])) {W : World} (hg : GlOK gl (snap0 W)) :
    Calls P f #[] W fun e W' => e = .returned (.bool b) ∧ Below W.heap.size W W' := by
  refine (hO f [] [] _ _ h (snap0 W) noI W [] hg (R0 W) (by simp [LR])).mono ?_
  rintro e W' ⟨v, sn', ι', rfl, hv, hs⟩
  cases hv.bool
  exact ⟨rfl, hs.below⟩
end Go.Abs

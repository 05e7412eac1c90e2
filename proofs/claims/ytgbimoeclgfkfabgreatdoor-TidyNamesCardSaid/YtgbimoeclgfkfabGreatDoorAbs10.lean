/-
  A verified abstract interpreter, part 10: the blocks that a value names.
-/
import Derived.Test.YtgbimoeclgfkfabGreatDoorAbs9
set_option linter.unusedSimpArgs false
set_option linter.unusedVariables false
namespace Go.Abs
open Go.RowKit

mutual
/-- The blocks that a value names. -/
def refs : AV → List Nat → List Nat
  | .ptr b _, acc => b :: acc
  | .slice b _ _ _ _, acc => b :: acc
  | .map b, acc => b :: acc
  | .func _ f c, acc => refsL f (refsL c acc)
  | .iface _ v, acc => refs v acc
  | .agg cs, acc => refsL cs acc
  | .tuple cs, acc => refsL cs acc
  | .bool _, acc => acc
  | .int _ _, acc => acc
  | .str _, acc => acc
  | .nptr, acc => acc
  | .rp _, acc => acc
  | .nslice, acc => acc
  | .rs _ _ _, acc => acc
  | .nmap, acc => acc
  | .nfunc, acc => acc
  | .niface, acc => acc
def refsL : List AV → List Nat → List Nat
  | [], acc => acc
  | v :: l, acc => refs v (refsL l acc)
end

def refsE : List (AV × AV × Nat) → List Nat → List Nat
  | [], acc => acc
  | (k, v, _) :: es, acc => refs k (refs v (refsE es acc))

def refsB : ABody → List Nat → List Nat
  | .cells cs _, acc => refsL cs acc
  | .map es _, acc => refsE es acc
  | .siter _ _, acc => acc

def mem (i : Nat) : List Nat → Bool
  | [] => false
  | j :: l => Nat.beq i j || mem i l

theorem mem_iff {i : Nat} : ∀ {l : List Nat}, mem i l = true ↔ i ∈ l
  | [] => by simp [mem]
  | j :: l => by simp [mem, mem_iff (l := l), Nat.beq_eq]

end Go.Abs

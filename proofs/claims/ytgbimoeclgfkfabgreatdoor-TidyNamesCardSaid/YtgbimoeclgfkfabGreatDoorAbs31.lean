/-
  A verified abstract interpreter, part 31: a listed variable that holds a sentinel error: an interface value, in it a pointer to a text.
-/
import Derived.Test.YtgbimoeclgfkfabGreatDoorAbs30
import Derived.Stop.LaidErr
set_option linter.unusedSimpArgs false
set_option linter.unusedVariables false
namespace Go.Abs
open Go.RowKit

theorem laid_sent {P : Program} {n nm : String} {text : List UInt8} {r : List (String × DataW Unit)} {W : World} {g : Nat} {ti tp te ts : TypeId} {ms : Array (String × TypeId)} {f : Field}
    (h : laidMet P ((n, .iface nm (.ptr (.agg [.lit (.string text)]))) :: r) W)
    (hg : P.globalNamed n = some g) (ht : (P.globals[g]?).map (·.type) = some ti) (hi : P.underlying ti = some (.interface ms)) (hrow : ∀ u, P.typeName? 3 u = some nm → u = tp)
    (hp : P.underlying tp = some (.pointer te)) (he : P.underlying te = some (.struct #[f])) (hft : f.type = ts) (hfo : f.offset = 0) (hs : P.underlying ts = some .string) (hc : P.cellsOf te = 1) (hcs : P.cellsOf ts = 1) :
    MR (snap0 W) [.iface tp (.rp [.str text])] g 0 := by
  obtain ⟨a, s, hv, hcell, hst, _⟩ := laid_sentinel h hg ht hi hrow hp he hft hfo hs hc hcs
  have hin : ∀ (b : Nat) (v : Value) (o : Nat), W.cell? ⟨b, o, none⟩ = some v → snap0 W ⟨b, o, none⟩ = some v := by
    intro b v o hq
    have hb : b < W.heap.size := by
      cases hh : W.heap[b]? with
      | none => unfold World.cell? at hq; simp [hh] at hq
      | some ob => exact (Array.getElem?_eq_some_iff.1 hh).1
    unfold snap0; rw [if_pos hb]; exact hq
  have hsp : a = ⟨a.block, a.off, none⟩ := by
    obtain ⟨b, o, sp⟩ := a
    cases sp with
    | none => rfl
    | some k => exfalso; unfold World.cell? at hcell; split at hcell <;> simp at hcell
  have h0 : W.cell? ⟨g, 0, none⟩ = some (.iface tp (.pointer (some a))) := by rw [World.var?_cell hg hv]; rfl
  rw [hsp] at h0 hcell
  simp only [MR]
  refine ⟨⟨_, hin _ _ _ h0, ?_⟩, trivial⟩
  simp only [VR]
  refine ⟨_, rfl, a.block, a.off, rfl, ?_⟩
  simp only [MR]
  refine ⟨⟨_, hin _ _ _ hcell, ?_⟩, trivial⟩
  simp only [VR]
  exact ⟨s, rfl, hst⟩
end Go.Abs

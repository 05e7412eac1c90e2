/-
  Texts of this proof, one behind the other (part 15).
-/
import Derived.Test.YteidjbahodbgdaaGreatDoorPg11
set_option linter.unusedVariables false
set_option linter.unusedSimpArgs false

section
namespace Go.Flat
variable {α : Type} {ev : α -> List Int -> Int} {wr : Int -> Int} {ins : Nat -> In α} {f : Nat} {s0 : Th} {vals : List Int}
theorem Zb8 {Q : Stand -> Prop} {g : Int -> List Stand -> Option (List Stand)} (hg : ∀ v o r, (∀ s ∈ o, Q s) -> g v o = some r -> ∀ s ∈ r, Q s) : ∀ {l : List Int} {o r : List Stand}, (∀ s ∈ o, Q s) -> Z8h g l o = some r -> ∀ s ∈ r, Q s
 | [], o, r, ho, h => by cases h; exact ho
 | v :: l, o, r, ho, h => by
  unfold Z8h at h
  split at h
  · rename_i o' h1
    exact Zb8 hg (hg v o o' ho h1) h
  · cases h
theorem gat_all {Q : Stand -> Prop} (hQ : ∀ az, Q (go ev wr ins f az s0 0)) : ∀ {d : Nat} {az : List Int} {o r : List Stand}, (∀ s ∈ o, Q s) -> gat ev wr ins f s0 vals d az o = some r -> ∀ s ∈ r, Q s
 | d, az, o, r, ho, h => by
  have hone : ∀ s ∈ o ++ [go ev wr ins f az s0 0], Q s := fun s hs => by
   rcases List.mem_append.1 hs with hs | hs
   · exact ho s hs
   · rw [List.mem_singleton.1 hs]; exact hQ az
  cases d with
  | zero =>
   unfold gat at h
   split at h
   · cases h
   · split at h
     · cases h; exact hone
     · cases h
  | succ d =>
   unfold gat at h
   split at h
   · exact Zb8 (fun v o r ho h => gat_all hQ ho h) ho h
   · split at h
     · cases h; exact hone
     · cases h
end Go.Flat
namespace Go.Proofs.YteidjbahodbgdaaGreatDoor.lex
open Go.Abs Go.RowKit Go.Flat
set_option maxRecDepth 100000
set_option maxHeartbeats 4000000
theorem Z7e (st : Flat.Stand) : ∃ (n1 : Nat) (c1 : List AV) (a1 a2 a3 a4 a5 p : Int) (n2 : Nat) (c2 : List AV) (k : Int), Z0T st = [.rs n1 5 c1, .int .i64 st.fin, .int .i64 a1, .int .i64 a2, .int .i64 a3, .int .i64 a4, .int .i64 a5, .int .i64 p, .rs n2 1 c2, .int .i64 k] :=
 ⟨_, _, _, _, _, _, _, _, _, _, _, by simp only [Z0T, rsE, rsI, Z2k, List.cons_append, List.nil_append]; exact rfl⟩
theorem Zlj (out : List Flat.Stand) (n : Nat) (h : n < out.length) : tk 10 ((Z0P out).drop (n * 10)) = some (Z0T out[n]) := by
 induction out generalizing n with
 | nil => simp at h
 | cons s l ih =>
  cases n with
  | zero =>
   obtain ⟨n1, c1, a1, a2, a3, a4, a5, p, n2, c2, k, e⟩ := Z7e s
   simp only [Nat.zero_mul, List.drop_zero, Z0P, List.getElem_cons_zero, e]
   rfl
  | succ n =>
   have e1 : (n + 1) * 10 = (Z0T s).length + n * 10 := by rw [Z6O]; omega
   simp only [Z0P, List.getElem_cons_succ]
   rw [e1, List.drop_append]
   simp only [Nat.add_sub_cancel_left]
   rw [List.drop_eq_nil_of_le (by omega), List.nil_append]
   exact ih n (by simpa using h)
theorem ZdX {c : Cd} {vs : List Int} {out : List Flat.Stand} (h : Z6y c vs = some out) : out.length <= 4096 := by
 have hg := Z6X (l := c.ins) (s0 := th0 c.regs.toNat) (vs := vs) c.ins.length [] []
 unfold Z6y at h
 rw [h] at hg
 exact (Z5W _ _ _ _ Z7s hg).1.few
theorem Zbo {c : Cd} (hok : okC c) (hs : ∀ i ∈ c.ins, ∀ e ∈ i.ex, Z0f e <= 800000) (hfl : Z0E c = true) {vs : List Int} {out : List Flat.Stand} (h : Z6y c vs = some out) : ∀ s ∈ out, s.th.evs.length <= 4000 /\ s.th.regs.length <= 16 :=
 gat_all (Q := fun s => s.th.evs.length <= 4000 /\ s.th.regs.length <= 16) (fun az => by
  have := Z5M hok hs az
  unfold Z07 at this
  rw [if_pos hfl] at this
  exact this) (fun s hs => by cases hs) h
end Go.Proofs.YteidjbahodbgdaaGreatDoor.lex
end

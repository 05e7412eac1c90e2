/-
  Texts of this proof, one behind the other (part 6).
-/
import Derived.Test.YtblnhcafobifgaaGreatDoorPack5
import Derived.Test.YtblnhcafobifgaaGreatDoorRows
import Derived.KernelRfl
import Derived.Shelf.SlIter.Nil
import Derived.Shelf.SortM.Plain
import Derived.Shelf.SortM.SortNone
import Derived.Test.YtblnhcafobifgaaGreatDoorProg


section

set_option linter.unusedSimpArgs false
set_option linter.unusedVariables false
namespace Go.Abs
open Go.RowKit
theorem Wk.nil {m : List Nat} {z : Nat} : Wk m .nslice (.rs 0 z []) := fun sn ι v h => by simp only [VR] at h ⊢; exact .inl ⟨trivial, trivial, h⟩
theorem swA {A B : Prop} (h : A) : Stp1 (A ∧ B) B := fun b => ⟨h, b⟩
theorem stw {P Q : Prop} (q : Q) (h : Stp1 P Q := by
    first
    | (refine swA (Wk.int ?_); (focus (first | rfl | omega | (simp; done) | (simp; omega)))) | (refine swA (Wk.bool ?_); (focus (first | rfl | (simp; done)))) | exact swA (Wk.noref rfl)
    | exact swA (Wk.ptr rfl rfl) | (refine swA (Wk.slice rfl ?_ ?_ ?_ ?_ ?_); (focus (first | rfl | omega)); (focus (first | rfl | omega)); (focus (first | rfl | omega)); (focus (first | rfl | omega)); (focus rfl)) | exact swA Wk.nil | exact swA (Wk.func trivial ⟨Wk.ptr rfl rfl, trivial⟩) | exact swA (Wk.map rfl)) : P := h q
theorem ValOK.weak {P : Program} {gl : Glob} {f : Nat} {args args2 : List AV} {r : AV} (h : ValOK P gl f args2 r) (hw : ∀ sn vs, LR sn noI args vs → LR sn noI args2 vs) : ValOK P gl f args r :=
  fun sn W cargs hg hR ha => h sn W cargs hg hR (hw _ _ ha)
theorem ValOK.less {P : Program} {gl : Glob} {f : Nat} {args : List AV} {r r2 : AV} (h : ValOK P gl f args r) (hw : ∀ sn v, VR sn noI r v → VR sn noI r2 v) : ValOK P gl f args r2 :=
  fun sn W cargs hg hR ha => (h sn W cargs hg hR ha).mono fun e W' ⟨v, h1, h2, h3⟩ => ⟨v, h1, h2, hw _ _ h3⟩
theorem nil_rs {z : Nat} {sn : Snap} {ι : IMap} {v : Value} (h : VR sn ι .nslice v) : VR sn ι (.rs 0 z []) v := by simp only [VR] at h ⊢; exact .inl ⟨trivial, trivial, h⟩
section
open Classical
noncomputable def orcJ {I : Type} (G : I → Prop) (fF : I → Nat) (fA : I → List AV) (fR : I → AV) : Orc := orcV fun f args => if h : ∃ i, G i ∧ fF i = f ∧ fA i = args then some (fR (Classical.choose h)) else none
theorem orcJ_sound {P : Program} {gl : Glob} {I : Type} {G : I → Prop} {fF : I → Nat} {fA : I → List AV} {fR : I → AV} (h : ∀ i, G i → refsL (fA i) [] = [] ∧ ValOK P gl (fF i) (fA i) (fR i)) : OrcSound P gl (orcJ G fF fA fR) := orcV_sound fun f args r e => by
  split at e
  · rename_i hx
    simp only [Option.some.injEq] at e
    subst e
    obtain ⟨g1, e1, e2⟩ := Classical.choose_spec hx
    have := h _ g1
    rw [e1, e2] at this; exact this
  · cases e
theorem callJ {P : Program} {I : Type} {G : I → Prop} {fF : I → Nat} {fA : I → List AV} {fR : I → AV} (hinj : ∀ i j, G i → G j → fF i = fF j → fA i = fA j → fR i = fR j) {H : AHeap} (i : I) (hb : hasBody P (fF i) = true) (hi : G i) :
    acall P (orcJ G fF fA fR) H (fF i) (fA i) = some (fR i, H) := by
  have hx : ∃ j, G j ∧ fF j = fF i ∧ fA j = fA i := ⟨i, hi, rfl, rfl⟩
  unfold acall
  rw [if_pos hb]
  unfold orcJ orcV
  simp only [dif_pos hx]
  obtain ⟨g1, g2, g3⟩ := Classical.choose_spec hx
  rw [hinj _ i g1 hi g2 g3]
theorem orcI_none {I : Type} {G : I → Prop} {fF : I → Nat} {fA : I → List AV} {fH : I → AHeap} {fR : I → AV} {fO : I → AHeap} {g : Nat} {args : List AV} {H : AHeap} (h : ∀ i, G i → fF i = g → fA i ≠ args) : orcI G fF fA fH fR fO g args H = none := by
  unfold orcI
  rw [dif_neg]
  rintro ⟨i, h1, h2, h3, _⟩
  exact h i h1 h2 h3
end
theorem callOr1 {P : Program} {o1 o2 : Orc} {H : AHeap} {g : Nat} {args : List AV} {x : AV × AHeap} (hb : hasBody P g = true) (h : acall P o1 H g args = some x) : acall P (orcOr o1 o2) H g args = some x := by
  unfold acall at h ⊢
  rw [if_pos hb] at h ⊢
  unfold orcOr; rw [h]
theorem callOr2 {P : Program} {o1 o2 : Orc} {H : AHeap} {g : Nat} {args : List AV} {x : AV × AHeap} (hb : hasBody P g = true) (h1 : o1 g args H = none) (h : acall P o2 H g args = some x) : acall P (orcOr o1 o2) H g args = some x := by
  unfold acall at h ⊢
  rw [if_pos hb] at h ⊢
  unfold orcOr; rw [h1]; exact h
structure Fam (P : Program) (gl : Glob) where
  I : Type
  f : Nat
  G : I → Prop
  A : I → List AV
  R : I → AV
  body : hasBody P f = true
  inj : ∀ i j, G i → G j → A i = A j → R i = R j
  ok : ∀ i, G i → refsL (A i) [] = [] ∧ ValOK P gl f (A i) (R i)
structure FamM (P : Program) (gl : Glob) where
  I : Type
  f : Nat
  G : I → Prop
  A : I → List AV
  H : I → AHeap
  R : I → AV
  O : I → AHeap
  body : hasBody P f = true
  inj : ∀ i j, G i → G j → A i = A j → H i = H j → R i = R j ∧ O i = O j
  ok : ∀ i, G i → MemOK P gl f (A i) (H i) (R i) (O i)
section
variable {P : Program} {gl : Glob}
def Fam.Ask (F : Fam P gl) (O : Orc) : Prop := ∀ i, F.G i → ∀ H, acall P O H F.f (F.A i) = some (F.R i, H)
def FamM.Ask (F : FamM P gl) (O : Orc) : Prop := ∀ i, F.G i → acall P O (F.H i) F.f (F.A i) = some (F.R i, F.O i)
def AllAsk (O : Orc) : List (Fam P gl) → Prop
  | [] => True
  | F :: l => F.Ask O ∧ AllAsk O l
def AllAskM (O : Orc) : List (FamM P gl) → Prop
  | [] => True
  | F :: l => F.Ask O ∧ AllAskM O l
theorem add_ask {o O : Orc} {f : Nat} (ho : ∀ g args H, g ≠ f → o g args H = none) : (∀ F : Fam P gl, F.f ≠ f → F.Ask O → F.Ask (orcOr o O)) ∧ (∀ F : FamM P gl, F.f ≠ f → F.Ask O → F.Ask (orcOr o O)) :=
  ⟨fun F hf h i hi H => callOr2 F.body (ho _ _ _ hf) (h i hi H), fun F hf h i hi => callOr2 F.body (ho _ _ _ hf) (h i hi)⟩
theorem fams_all : ∀ (l : List (Fam P gl)), nodupN (l.map (·.f)) = true → ∃ O, OrcSound P gl O ∧ AllAsk O l
  | [], _ => ⟨fun _ _ _ => none, (fun f args H r H' h => by cases h), trivial⟩
  | F :: l, h => by
    simp only [List.map_cons, nodupN, Bool.and_eq_true, Bool.not_eq_true'] at h
    obtain ⟨O, hO, ha⟩ := fams_all l h.2
    have ho : ∀ g args H, g ≠ F.f → orcJ F.G (fun _ => F.f) F.A F.R g args H = none := by
      intro g args H hg
      have : ¬ ∃ i, F.G i ∧ F.f = g ∧ F.A i = args := by
        rintro ⟨i, _, h2, _⟩
        exact hg h2.symm
      simp only [orcJ, orcV, dif_neg this]
    refine ⟨orcOr (orcJ F.G (fun _ => F.f) F.A F.R) O, orcOr_sound (orcJ_sound F.ok) hO, fun i hi H => callOr1 F.body (callJ (fun i j hi hj _ ha => F.inj i j hi hj ha) i F.body hi), ?_⟩
    have hn : ∀ G ∈ l, G.f ≠ F.f := fun G hG e => by
      have h1 := h.1
      have : mem F.f (l.map (·.f)) = true := mem_iff.2 (by rw [← e]; exact List.mem_map_of_mem hG)
      rw [this] at h1; cases h1
    clear h
    induction l with
    | nil => trivial
    | cons G l ih =>
      exact ⟨(add_ask ho).1 G (hn G (by simp)) ha.1, ih ha.2 fun K hK => hn K (by simp [hK])⟩
theorem fams (l : List (Fam P gl)) (h : nodupN (l.map (·.f)) = true) : ∃ O, OrcSound P gl O ∧ AllAsk O l := fams_all l h
theorem AllAsk.add {o O : Orc} {f : Nat} (ho : ∀ g args H, g ≠ f → o g args H = none) : ∀ {l : List (Fam P gl)}, mem f (l.map (·.f)) = false → AllAsk O l → AllAsk (orcOr o O) l
  | [], _, _ => trivial
  | F :: l, h, ha => by
    simp only [List.map_cons, mem, Bool.or_eq_false_iff] at h
    exact ⟨(add_ask ho).1 F (fun e => by rw [e] at h; simp at h) ha.1, AllAsk.add ho h.2 ha.2⟩
theorem AllAskM.add {o O : Orc} {f : Nat} (ho : ∀ g args H, g ≠ f → o g args H = none) : ∀ {l : List (FamM P gl)}, mem f (l.map (·.f)) = false → AllAskM O l → AllAskM (orcOr o O) l
  | [], _, _ => trivial
  | F :: l, h, ha => by
    simp only [List.map_cons, mem, Bool.or_eq_false_iff] at h
    exact ⟨(add_ask ho).2 F (fun e => by rw [e] at h; simp at h) ha.1, AllAskM.add ho h.2 ha.2⟩
theorem famsM : ∀ (m : List (FamM P gl)) (l : List (Fam P gl)), nodupN (m.map (·.f) ++ l.map (·.f)) = true → ∃ O, OrcSound P gl O ∧ AllAskM O m ∧ AllAsk O l
  | [], l, h => by
    obtain ⟨O, h1, h2⟩ := fams_all l h
    exact ⟨O, h1, trivial, h2⟩
  | F :: m, l, h => by
    simp only [List.map_cons, List.cons_append, nodupN, Bool.and_eq_true, Bool.not_eq_true'] at h
    obtain ⟨O, hO, ha, hb⟩ := famsM m l h.2
    have ho : ∀ g args H, g ≠ F.f → orcI F.G (fun _ => F.f) F.A F.H F.R F.O g args H = none := fun g args H hg => orcI_none fun i _ e => absurd e.symm hg
    have hmem : ∀ {a b : List Nat}, mem F.f (a ++ b) = false → mem F.f a = false ∧ mem F.f b = false := by
      intro a b h
      constructor
      · cases hx : mem F.f a with
        | false => rfl
        | true => rw [mem_iff.2 (List.mem_append.2 (.inl (mem_iff.1 hx)))] at h; cases h
      · cases hx : mem F.f b with
        | false => rfl
        | true => rw [mem_iff.2 (List.mem_append.2 (.inr (mem_iff.1 hx)))] at h; cases h
    obtain ⟨n1, n2⟩ := hmem h.1
    refine ⟨orcOr (orcI F.G (fun _ => F.f) F.A F.H F.R F.O) O, orcOr_sound (orcI_sound F.ok) hO, ⟨fun i hi => callOr1 F.body (callI (fun i j hi hj _ ha hh => F.inj i j hi hj ha hh) F.body i hi rfl rfl rfl), AllAskM.add ho n1 ha⟩, AllAsk.add ho n2 hb⟩
end
end Go.Abs
end


section

set_option linter.unusedVariables false
set_option linter.unusedSimpArgs false
namespace Go.Proofs.YtblnhcafobifgaaGreatDoor.lex
open Go.Abs Go.RowKit
set_option maxRecDepth 100000
set_option maxHeartbeats 4000000
variable {gl : Glob}
theorem bne_of {α : Type} [BEq α] {x y : α} {b : Bool} (h : (x == y) = b) : (x != y) = !b := by simp only [bne, h]
inductive Ex where
  | mk (op num : Int) (name : List UInt8) (kids : List Ex)
instance : Inhabited Ex := ⟨.mk 0 0 [] []⟩
def Ex.op : Ex → Int
  | .mk o _ _ _ => o
def Ex.num : Ex → Int
  | .mk _ n _ _ => n
def Ex.name : Ex → List UInt8
  | .mk _ _ s _ => s
def Ex.kids : Ex → List Ex
  | .mk _ _ _ k => k
mutual
def Ex.cells : Ex → List AV
  | .mk op num name kids => [.int .i64 op, .int .i64 num, .str name, .rs kids.length 4 (exC kids)]
def exC : List Ex → List AV
  | [] => []
  | e :: l => e.cells ++ exC l
end
def exA (l : List Ex) : AV := .rs l.length 4 (exC l)
mutual
def sizeE : Ex → Nat
  | .mk _ _ _ kids => 1 + sizeL kids
def sizeL : List Ex → Nat
  | [] => 0
  | e :: l => sizeE e + sizeL l
end
mutual
def deepE : Ex → Nat
  | .mk _ _ _ kids => deepL kids + 1
def deepL : List Ex → Nat
  | [] => 0
  | e :: l => max (deepE e) (deepL l)
end
theorem cells_len : ∀ e : Ex, e.cells.length = 4
  | .mk _ _ _ _ => by simp only [Ex.cells]; rfl
theorem exC_len : ∀ l : List Ex, (exC l).length = l.length * 4
  | [] => by simp only [exC]; rfl
  | e :: l => by simp only [exC, List.length_append, cells_len, exC_len l, List.length_cons]; omega
theorem exC_drop (e : Ex) (l : List Ex) (i : Nat) : (exC (e :: l)).drop ((i + 1) * 4) = (exC l).drop (i * 4) := by
  have h : (i + 1) * 4 = 4 + i * 4 := by omega
  rw [h, ← List.drop_drop, exC, List.drop_left' (cells_len e)]
theorem tk_app : ∀ (a b : List AV), tk a.length (a ++ b) = some a
  | [], b => by cases b <;> rfl
  | c :: a, b => by simp only [List.length_cons, List.cons_append, tk, tk_app a b]
theorem exC_at : ∀ (l : List Ex) (i : Nat) (h : i < l.length), (exC l).drop (i * 4) = l[i].cells ++ exC (l.drop (i + 1))
  | e :: l, 0, h => by simp only [Nat.zero_mul, List.drop_zero, exC, List.getElem_cons_zero, List.drop_succ_cons]
  | e :: l, i + 1, h => by rw [exC_drop, exC_at l i (by simpa using h)]; simp only [List.getElem_cons_succ, List.drop_succ_cons]
mutual
theorem cells_inj : ∀ (a b : Ex), a.cells = b.cells → a = b
  | .mk o n s k, .mk o' n' s' k', h => by
    simp only [Ex.cells] at h
    simp at h
    obtain ⟨rfl, rfl, rfl, hl, hk⟩ := h
    rw [exC_inj k k' hk hl]
theorem exC_inj : ∀ (a b : List Ex), exC a = exC b → a.length = b.length → a = b
  | [], [], _, _ => rfl
  | x :: a, y :: b, h, hl => by
    simp only [exC] at h
    have h' := List.append_inj h (by rw [cells_len, cells_len])
    rw [cells_inj x y h'.1, exC_inj a b h'.2 (by simpa using hl)]
  | [], _ :: _, _, hl => by simp at hl
  | _ :: _, [], _, hl => by simp at hl
end
theorem exA_inj {a b : List Ex} (h : exA a = exA b) : a = b := by
  simp only [exA, AV.rs.injEq, true_and] at h
  exact exC_inj _ _ h.2 h.1
theorem sizeE_pos : ∀ e : Ex, 0 < sizeE e
  | .mk _ _ _ _ => by simp only [sizeE]; omega
theorem sizeL_get : ∀ (l : List Ex) (i : Nat) (h : i < l.length), sizeL l = sizeL (l.take i) + sizeE l[i] + sizeL (l.drop (i + 1))
  | e :: l, 0, h => by simp only [List.take_zero, sizeL, List.getElem_cons_zero, List.drop_succ_cons, List.drop_zero]; omega
  | e :: l, i + 1, h => by
    have := sizeL_get l i (by simpa using h)
    simp only [List.take_succ_cons, sizeL, List.getElem_cons_succ, List.drop_succ_cons]; omega
theorem sizeE_kids : ∀ e : Ex, sizeE e = 1 + sizeL e.kids
  | .mk _ _ _ _ => by simp only [sizeE, Ex.kids]
theorem sizeL_mem : ∀ (l : List Ex) (e : Ex), e ∈ l → sizeE e ≤ sizeL l
  | e :: l, f, h => by
    simp only [sizeL]
    rcases List.mem_cons.1 h with rfl | h
    · omega
    · have := sizeL_mem l f h; omega
mutual
theorem deepE_size : ∀ e : Ex, deepE e ≤ sizeE e
  | .mk _ _ _ k => by have := deepL_size k; simp only [deepE, sizeE]; omega
theorem deepL_size : ∀ l : List Ex, deepL l ≤ sizeL l
  | [] => Nat.le_refl _
  | e :: l => by have := deepE_size e; have := deepL_size l; simp only [deepL, sizeL]; omega
end
theorem get_mem {α : Type} {l : List α} {i : Nat} (h : i < l.length) : l[i] ∈ l := List.getElem_mem h
end Go.Proofs.YtblnhcafobifgaaGreatDoor.lex
end


section

set_option linter.unusedVariables false
set_option linter.unusedSimpArgs false
namespace Go.Proofs.YtblnhcafobifgaaGreatDoor.lex
open Go.Abs Go.RowKit
set_option maxRecDepth 100000
set_option maxHeartbeats 4000000
variable {gl : Glob}
def wordB (s : List UInt8) : Bool := !s.isEmpty && (wordN s == s.length && !keysL.contains s)
theorem wordR_B (s : List UInt8) : ∃ k w, wordR s = .tuple [.int .i64 k, .bool w] ∧ (w && (k == 1)) = wordB s ∧ (k == 1) = wordB s := by
  unfold wordR wordB
  by_cases h0 : s = []
  · subst h0; exact ⟨0, false, by rw [if_neg (fun h => h.1 rfl)], rfl, rfl⟩
  · by_cases hw : wordN s = s.length
    · rw [if_pos ⟨h0, hw⟩]
      refine ⟨_, _, rfl, ?_⟩
      have : s.isEmpty = false := by cases s with | nil => exact absurd rfl h0 | cons _ _ => rfl
      rw [this, hw]
      cases keysL.contains s <;> simp
    · rw [if_neg (fun h => hw h.2)]
      refine ⟨_, _, rfl, ?_⟩
      have : (wordN s == s.length) = false := by simpa using hw
      rw [this]; simp
theorem isWord_ok (s : List UInt8) (hs : s.length ≤ 9223372036854775807) (m : Bool) : ValOK Tryz.prog gl 45 [.str s, .bool m] (.bool (if m then wordB s else s == [])) := by
  obtain ⟨k, w, h1, h2, h3⟩ := wordR_B s
  have hO := orcF_sound (P := Tryz.prog) (gl := gl) (l := [(74, [.str s], wordR s)]) ⟨rfl, wordP_ok s hs, trivial⟩
  have q : ∀ H, acall Tryz.prog (orcF [(74, [.str s], wordR s)]) H 74 [.str s] = some (wordR s, H) := fun H => callF (by kernel_rfl) findF_here
  rw [h1] at q hO
  rw [← h3]
  cases m with
  | true =>
    refine fn_val follows noNum hO Tryz.func45 rfl ?_
    repeat' ((conv => whnf); first | (refine exI (q _) ?_) | (first | refine stp ?_ | with_reducible refine condB (fun h => ?_) (fun h => ?_)))
    all_goals rfl
  | false =>
    refine fn_val follows noNum hO Tryz.func45 rfl ?_
    repeat' ((conv => whnf); first | (refine exI (q _) ?_) | (first | refine stp ?_ | with_reducible refine condB (fun h => ?_) (fun h => ?_)))
    all_goals rfl
end Go.Proofs.YtblnhcafobifgaaGreatDoor.lex
end


section

set_option linter.unusedVariables false
set_option linter.unusedSimpArgs false
namespace Go.Proofs.YtblnhcafobifgaaGreatDoor.lex
open Go.Abs Go.RowKit
set_option maxRecDepth 100000
set_option maxHeartbeats 4000000
variable {gl : Glob}
def okN (s : List UInt8) (n : Nat) : Prop := s.length ≤ 9223372036854775807 ∧ n ≤ 9223372036854775807
mutual
def okE : Ex → Prop
  | .mk _ _ s k => okN s k.length ∧ okL k
def okL : List Ex → Prop
  | [] => True
  | e :: l => okE e ∧ okL l
end
theorem okL_get : ∀ {l : List Ex}, okL l → ∀ e ∈ l, okE e
  | x :: l, h, e, he => by
    simp only [okL] at h
    rcases List.mem_cons.1 he with rfl | he
    · exact h.1
    · exact okL_get h.2 e he
theorem okE_kids : ∀ {e : Ex}, okE e → okN e.name e.kids.length ∧ okL e.kids
  | .mk _ _ s k, h => by simp only [okE] at h; exact h
def kidsI (op : Int) : Int := if op = 1 ∨ op = 2 then 0 else if op = 3 ∨ op = 4 then 1 else if 5 ≤ op ∧ op ≤ 16 then 2 else -1
mutual
def heftE : Ex → Int → Int
  | .mk _ _ s k, l => heftL k (l - 1 - (s.length / 20 : Nat))
def heftL : List Ex → Int → Int
  | [], l => l
  | e :: k, l => if 0 ≤ l then heftL k (heftE e l) else l
end
mutual
theorem heftE_size : ∀ (e : Ex) (l : Int), 0 ≤ heftE e l → (sizeE e : Int) + heftE e l ≤ l
  | .mk _ _ s k, l, h => by
    simp only [heftE, sizeE] at *
    have := heftL_size k _ h; omega
theorem heftL_size : ∀ (k : List Ex) (l : Int), 0 ≤ heftL k l → (sizeL k : Int) + heftL k l ≤ l
  | [], l, h => by simp only [heftL, sizeL] at *; omega
  | e :: k, l, h => by
    simp only [heftL, sizeL] at *
    split at h
    · rename_i hl
      rw [if_pos hl]
      have h1 := heftL_size k _ h
      have h2 : 0 ≤ heftE e l := by omega
      have h3 := heftE_size e l h2
      omega
    · omega
end
mutual
theorem heftE_le : ∀ (e : Ex) (l : Int), heftE e l ≤ l
  | .mk _ _ s k, l => by simp only [heftE]; have := heftL_le k (l - 1 - (s.length / 20 : Nat)); omega
theorem heftL_le : ∀ (k : List Ex) (l : Int), heftL k l ≤ l
  | [], l => by simp only [heftL]; omega
  | e :: k, l => by
    simp only [heftL]
    split
    · have := heftL_le k (heftE e l); have := heftE_le e l; omega
    · omega
end
mutual
theorem heftE_ge : ∀ (e : Ex) (l : Int), okE e → 0 ≤ l → -9000000000000000000 ≤ heftE e l
  | .mk _ _ s k, l, h, h2 => by
    simp only [okE, okN] at h; simp only [heftE]
    exact heftL_ge k _ h.2 (by omega)
theorem heftL_ge : ∀ (k : List Ex) (l : Int), okL k → -9000000000000000000 ≤ l → -9000000000000000000 ≤ heftL k l
  | [], l, h, h2 => by simp only [heftL]; exact h2
  | e :: k, l, h, h2 => by
    simp only [okL] at h
    simp only [heftL]
    split
    · exact heftL_ge k _ h.2 (heftE_ge e l h.1 (by assumption))
    · exact h2
end
def ownF (op num : Int) (name : List UInt8) (n : Nat) : Bool := kidsI op == (n : Int) && ((op == 2) == wordB name && ((op == 2 || name == []) && (decide (0 ≤ num) && (op == 1 || num == 0))))
def ownE (e : Ex) : Bool := ownF e.op e.num e.name e.kids.length
mutual
def rightE : Ex → Bool
  | .mk o n s k => ownF o n s k.length && rightL k
def rightL : List Ex → Bool
  | [] => true
  | e :: l => rightE e && rightL l
end
end Go.Proofs.YtblnhcafobifgaaGreatDoor.lex
end


section

set_option linter.unusedVariables false
set_option linter.unusedSimpArgs false
namespace Go.Proofs.YtblnhcafobifgaaGreatDoor.lex
open Go.Abs Go.RowKit
set_option maxRecDepth 100000
set_option maxHeartbeats 4000000
theorem FgLK.same {k : Nat} {t0 tm : Tr} {H : AHeap} {l : List (Nat × AV)} (h1 : subT t0 tm = true) (hs : SlotsGe (List.range k) tm l) (hH : HpGe H (List.range k) (List.range k) H 0 ∧ nodupN ((List.range k).map (famOf H)) = true ∧ pref k 0 (List.range k) = true) : FgLK k t0 tm H l H := by
  unfold FgLK
  rw [h1]
  exact ⟨List.range k, hH.2.2, hs, hH.1, hH.2.1⟩
structure TvE (gl : Glob) where
  σ : Type
  Mem : σ → AHeap
  k : Nat
  len : ∀ s, (Mem s).length = k
  same : ∀ s, HpGe (Mem s) (List.range k) (List.range k) (Mem s) 0 ∧ nodupN ((List.range k).map (famOf (Mem s))) = true ∧ pref k 0 (List.range k) = true
  evo : ∀ s s', evoB k (Mem s) (Mem s') = true
  inj : ∀ s s', Mem s = Mem s' → s = s'
  I : Int → σ → Nat → Prop
  up : ∀ d s m, 0 ≤ d → I (d + 1) s m → I d s m
  less : ∀ d s m, I d s (m + 1) → I d s m
  bnd : ∀ d s m, I d s m → 0 ≤ d ∧ d ≤ 1152921504606846976
  gE : Nat
  cE : List AV
  hE : Ex → Int → σ → Bool × σ
  bodyE : hasBody Tryz.prog gE = true
  wkE : WkL (List.range k) cE cE
  okE : ∀ e rest d s m, okE e → I d s (m + 1) → MemOK Tryz.prog gl gE ([.rp (e.cells ++ rest), .int .i64 d] ++ cE) (Mem s) (.bool (hE e d s).1) (Mem (hE e d s).2)
  downE : ∀ e d s m, I d s (m + 1) → (hE e d s).1 = true → I (d + 1) (hE e d s).2 m
section
variable {σ : Type}
mutual
def goE (h : Ex → Int → σ → Bool × σ) : Ex → Int → σ → Bool × σ
  | .mk o n s k, d, t => if (h (.mk o n s k) d t).1 = true then goL h k (d + 1) (h (.mk o n s k) d t).2 else (false, (h (.mk o n s k) d t).2)
def goL (h : Ex → Int → σ → Bool × σ) : List Ex → Int → σ → Bool × σ
  | [], d, t => (true, t)
  | e :: l, d, t => if (goE h e d t).1 = true then goL h l d (goE h e d t).2 else (false, (goE h e d t).2)
end
variable {h : Ex → Int → σ → Bool × σ}
theorem goE_eq (e : Ex) (d : Int) (t : σ) : goE h e d t = if (h e d t).1 = true then goL h e.kids (d + 1) (h e d t).2 else (false, (h e d t).2) := by
  obtain ⟨o, n, s, k⟩ := e
  simp only [goE, Ex.kids]
theorem goL_at : ∀ (l : List Ex) (d : Int) (t : σ) (i : Nat) (hi : i < l.length), (goL h (l.take i) d t).1 = true → goL h (l.take (i + 1)) d t = goE h l[i] d (goL h (l.take i) d t).2
  | e :: l, d, t, 0, _, _ => by
    simp only [List.take_zero, List.take_succ_cons, goL, List.getElem_cons_zero]
    split
    · rename_i h2; rw [← h2]
    · rename_i h2; rw [← Bool.eq_false_iff.2 h2]
  | e :: l, d, t, i + 1, hi, ht => by
    simp only [List.take_succ_cons, goL, List.getElem_cons_succ] at ht ⊢
    split
    · rename_i h2
      rw [if_pos h2] at ht
      exact goL_at l d _ i (by simpa using hi) ht
    · rename_i h2; rw [if_neg h2] at ht; cases ht
theorem goL_stop : ∀ (l : List Ex) (d : Int) (t : σ) (i : Nat), (goL h (l.take i) d t).1 = false → goL h l d t = goL h (l.take i) d t
  | [], d, t, i, hf => by simp
  | e :: l, d, t, 0, hf => by simp only [List.take_zero, goL] at hf; cases hf
  | e :: l, d, t, i + 1, hf => by
    simp only [List.take_succ_cons, goL] at hf ⊢
    split
    · rename_i h2
      rw [if_pos h2] at hf
      exact goL_stop l d _ i hf
    · rfl
end
section
variable {gl : Glob} (V : TvE gl)
def TvE.F : AV := .func (.func V.gE) [] V.cE
mutual
theorem TvE.keepE : ∀ (e : Ex) (d : Int) (s : V.σ) (m : Nat), V.I d s (sizeE e + m) → (goE V.hE e d s).1 = true → V.I d (goE V.hE e d s).2 m
  | .mk o n t k, d, s, m, hI, ht => by
    simp only [goE, sizeE] at hI ht ⊢
    split
    · rename_i h2
      rw [if_pos h2] at ht
      have h3 := V.downE _ d s (sizeL k + m) (by rw [show 1 + sizeL k + m = sizeL k + m + 1 from by omega] at hI; exact hI) h2
      exact V.up _ _ _ (V.bnd _ _ _ hI).1 (TvE.keepL k (d + 1) _ m h3 ht)
    · rename_i h2; rw [if_neg h2] at ht; cases ht
theorem TvE.keepL : ∀ (l : List Ex) (d : Int) (s : V.σ) (m : Nat), V.I d s (sizeL l + m) → (goL V.hE l d s).1 = true → V.I d (goL V.hE l d s).2 m
  | [], d, s, m, hI, ht => by simp only [goL, sizeL, Nat.zero_add] at hI ⊢; exact hI
  | e :: l, d, s, m, hI, ht => by
    simp only [goL, sizeL] at hI ht ⊢
    split
    · rename_i h2
      rw [if_pos h2] at ht
      exact TvE.keepL l d _ m (TvE.keepE e d s (sizeL l + m) (by rw [← Nat.add_assoc]; exact hI) h2) ht
    · rename_i h2; rw [if_neg h2] at ht; cases ht
end
theorem kid_cell (e : Ex) (rest : List AV) : tk 1 ((e.cells ++ rest).drop 3) = some [exA e.kids] := by
  obtain ⟨o, n, s, k⟩ := e
  simp only [Ex.cells, exA, Ex.kids]; rfl
theorem TvE.fin (s t : V.σ) (b : Bool) : List.take V.k (V.Mem t) = V.Mem t ∧ (allLt V.k (refs (AV.bool b) []) && evoB V.k (V.Mem s) (V.Mem t)) = true :=
  ⟨List.take_of_length_le (by rw [V.len]; exact Nat.le_refl _), by rw [V.evo]; rfl⟩
theorem TvE.exprs (hf : Tryz.prog.follows .mixedOrders = true) : ∀ (n : Nat) (l : List Ex) (d : Int) (s : V.σ) (m : Nat), sizeL l ≤ n → okL l → l.length ≤ 9223372036854775807 → V.I d s (sizeL l + m) →
    MemOK Tryz.prog gl 75 [exA l, .int .i64 d, V.F] (V.Mem s) (.bool (goL V.hE l d s).1) (V.Mem (goL V.hE l d s).2)
  | n, l, d, s, m, hn, hok, hl, hI => by
    have hF : ∃ O, OrcSound Tryz.prog gl O ∧ (∀ (i : Nat) (hi : i < l.length) (t : V.σ) (q : Nat), n ≠ 0 → V.I (d + 1) t (sizeL l[i].kids + q) → acall Tryz.prog O (V.Mem t) 75 [exA l[i].kids, .int .i64 (d + 1), V.F] = some (.bool (goL V.hE l[i].kids (d + 1) t).1, V.Mem (goL V.hE l[i].kids (d + 1) t).2)) ∧
        (∀ (i : Nat) (hi : i < l.length) (t : V.σ) (q : Nat), V.I d t (q + 1) → acall Tryz.prog O (V.Mem t) V.gE ([.rp ((exC l).drop (i * 4)), .int .i64 d] ++ V.cE) = some (.bool (V.hE l[i] d t).1, V.Mem (V.hE l[i] d t).2)) := by
      have s1 := orcI_sound (P := Tryz.prog) (gl := gl) (I := Nat × V.σ × Nat) (G := fun p => ∃ hp : p.1 < l.length, n ≠ 0 ∧ V.I (d + 1) p.2.1 (sizeL l[p.1].kids + p.2.2)) (fF := fun _ => 75) (fA := fun p => [exA (l.getD p.1 default).kids, .int .i64 (d + 1), V.F]) (fH := fun p => V.Mem p.2.1) (fR := fun p => .bool (goL V.hE (l.getD p.1 default).kids (d + 1) p.2.1).1) (fO := fun p => V.Mem (goL V.hE (l.getD p.1 default).kids (d + 1) p.2.1).2) fun p hp => by
        obtain ⟨hp, h0, h1⟩ := hp
        have hg : l.getD p.1 default = l[p.1] := by simp [List.getD_eq_getElem?_getD, hp]
        rw [hg]
        have hke := okL_get hok _ (get_mem hp)
        have hsz := sizeL_mem _ _ (get_mem hp)
        have hsk := sizeE_kids l[p.1]
        match n, hn, h0 with
        | n + 1, hn, _ => exact TvE.exprs hf n _ (d + 1) p.2.1 p.2.2 (by omega) (okE_kids hke).2 (okE_kids hke).1.2 h1
      have s2 := orcI_sound (P := Tryz.prog) (gl := gl) (I := Nat × V.σ × Nat) (G := fun p => p.1 < l.length ∧ V.I d p.2.1 (p.2.2 + 1)) (fF := fun _ => V.gE) (fA := fun p => [.rp ((exC l).drop (p.1 * 4)), .int .i64 d] ++ V.cE) (fH := fun p => V.Mem p.2.1) (fR := fun p => .bool (V.hE (l.getD p.1 default) d p.2.1).1) (fO := fun p => V.Mem (V.hE (l.getD p.1 default) d p.2.1).2) fun p hp => by
        obtain ⟨hp, h1⟩ := hp
        have hg : l.getD p.1 default = l[p.1] := by simp [List.getD_eq_getElem?_getD, hp]
        have hke := okL_get hok _ (get_mem hp)
        simp only [hg]
        rw [exC_at l p.1 hp]
        exact V.okE _ _ _ _ _ hke h1
      refine ⟨_, orcOr_sound s1 s2, fun i hi t q h0 h1 => ?_, fun i hi t q h1 => ?_⟩
      · have hg : l.getD i default = l[i] := by simp [List.getD_eq_getElem?_getD, hi]
        have := callI (P := Tryz.prog) (I := Nat × V.σ × Nat) (G := fun p => ∃ hp : p.1 < l.length, n ≠ 0 ∧ V.I (d + 1) p.2.1 (sizeL l[p.1].kids + p.2.2)) (fF := fun _ => 75) (fA := fun p => [exA (l.getD p.1 default).kids, .int .i64 (d + 1), V.F]) (fH := fun p => V.Mem p.2.1) (fR := fun p => .bool (goL V.hE (l.getD p.1 default).kids (d + 1) p.2.1).1) (fO := fun p => V.Mem (goL V.hE (l.getD p.1 default).kids (d + 1) p.2.1).2)
          (fun p q _ _ _ ha hh => by
            have e2 := V.inj _ _ hh
            simp only [List.cons.injEq, and_true, true_and] at ha
            rw [exA_inj ha, e2]; exact ⟨rfl, rfl⟩) (g := 75) (args := [exA l[i].kids, .int .i64 (d + 1), V.F]) (H := V.Mem t) (by kernel_rfl) (i, t, q) ⟨hi, h0, h1⟩ rfl (by rw [hg]) rfl
        simp only [hg] at this
        exact callOr1 (by kernel_rfl) this
      · have hg : l.getD i default = l[i] := by simp [List.getD_eq_getElem?_getD, hi]
        refine callOr2 V.bodyE (orcI_none fun p _ _ ha => ?_) ?_
        · have := congrArg (fun a => a.head?) ha
          simp [exA] at this
        · have := callI (P := Tryz.prog) (I := Nat × V.σ × Nat) (G := fun p => p.1 < l.length ∧ V.I d p.2.1 (p.2.2 + 1)) (fF := fun _ => V.gE) (fA := fun p => [.rp ((exC l).drop (p.1 * 4)), .int .i64 d] ++ V.cE) (fH := fun p => V.Mem p.2.1) (fR := fun p => .bool (V.hE (l.getD p.1 default) d p.2.1).1) (fO := fun p => V.Mem (V.hE (l.getD p.1 default) d p.2.1).2)
            (fun p q hp hq _ ha hh => by
              have e2 := V.inj _ _ hh
              simp only [List.cons_append, List.nil_append, List.cons.injEq, AV.rp.injEq, true_and, and_true] at ha
              have := congrArg List.length ha
              simp only [List.length_drop, exC_len] at this
              have e : p.1 = q.1 := by have := hp.1; have := hq.1; omega
              rw [e, e2]; exact ⟨rfl, rfl⟩) (g := V.gE) (args := [.rp ((exC l).drop (i * 4)), .int .i64 d] ++ V.cE) (H := V.Mem t) V.bodyE (i, t, q) ⟨hi, h1⟩ rfl rfl rfl
          simp only [hg] at this
          exact this
    obtain ⟨O, hO, q2, q1⟩ := hF
    have hbd := V.bnd _ _ _ hI
    have w1 : IntKind.i64.wrap (d + 1) = d + 1 := wrapB (by omega) (by omega)
    simp only [exA, TvE.F] at q2 ⊢
    refine fn_mem (k := V.k) follows noNum hO (V.len s) Tryz.func75 rfl (cw0_ok _ _) ?_
    repeat' ((conv => whnf); first | (rw [frcHW_eq]) | (first | refine stp ?_ | with_reducible refine condB (fun h => ?_) (fun h => ?_)))
    conv => whnf
    refine ⟨Nat, (fun i => i ≤ l.length ∧ (goL V.hE (l.take i) d s).1 = true), (fun i => [(0, .rs l.length 4 (exC l)), (1, .int .i64 d), (2, .func (.func V.gE) [] V.cE), (9, .int .i64 l.length), (10, .int .i64 i)]), (fun i => V.Mem (goL V.hE (l.take i) d s).2), (fun i => l.length - i), ⟨0, ⟨Nat.zero_le _, by simp only [List.take_zero, goL]⟩, ?_⟩, ?_⟩
    · simp only [List.take_zero, goL]
      refine FgLK.same rfl ?_ (V.same _)
      refine And.intro (Wk.noref rfl) ?_
      refine And.intro (Wk.noref rfl) ?_
      refine And.intro (Wk.func trivial V.wkE) ?_
      refine And.intro (Wk.int rfl) ?_
      exact ⟨Wk.int rfl, trivial⟩
    rintro i ⟨hi, hall⟩
    dsimp only
    conv => whnf
    rw [frcHW_eq]
    by_cases hlt : i < l.length
    · have e1 : decide ((i : Int) < (l.length : Int)) = true := by simpa using hlt
      have hat := goL_at (h := V.hE) l d s i hlt hall
      have hI2 : V.I d (goL V.hE (l.take i) d s).2 (sizeL (l.drop i) + m) := V.keepL (l.take i) d s (sizeL (l.drop i) + m) (by
        have := sizeL_get l i hlt
        have e : sizeL (l.drop i) = sizeE l[i] + sizeL (l.drop (i + 1)) := by rw [List.drop_eq_getElem_cons hlt]; simp only [sizeL]
        have e2 : sizeL (l.take i) + (sizeL (l.drop i) + m) = sizeL l + m := by omega
        rw [e2]; exact hI) hall
      generalize (goL V.hE (l.take i) d s).2 = t at *
      have esz : sizeL (l.drop i) + m = (sizeL l[i].kids + (sizeL (l.drop (i + 1)) + m)) + 1 := by
        rw [List.drop_eq_getElem_cons hlt]; simp only [sizeL]; have := sizeE_kids l[i]; omega
      rw [esz] at hI2
      have q1' := q1 i hlt t _ hI2
      have hd2 := V.downE l[i] d t _ hI2
      have hx3 : tk 1 (((exC l).drop (i * 4)).drop 3) = some [exA l[i].kids] := by rw [exC_at l i hlt]; exact kid_cell _ _
      have hn0 : n ≠ 0 := by have := sizeL_mem _ _ (get_mem hlt); have := sizeE_pos l[i]; omega
      have q2' := fun t q => q2 i hlt t q hn0
      rw [goE_eq] at hat
      have hst := goL_stop (h := V.hE) l d s (i + 1)
      generalize l[i] = e at *
      generalize hr : V.hE e d t = r at *
      obtain ⟨b, t1⟩ := r
      dsimp only at *
      cases b with
      | false =>
        simp only [Bool.false_eq_true, if_false] at hat
        rw [hat] at hst
        rw [hst rfl]
        clear q2 q2' hx3
        repeat' ((conv => whnf); first | (refine exI q1' ?_) | (rw [frcHW_eq]) | (with_reducible refine ixJ i rfl ?_ ?_; (focus (omega))) | (first | refine stp ?_ | with_reducible refine condB (fun h => ?_) (fun h => ?_)))
        all_goals (conv => whnf)
        all_goals (exact V.fin s t1 false)
      | true =>
        simp only [if_true] at hat
        have q2'' := q2' t1 _ (hd2 rfl)
        generalize hg : goL V.hE e.kids (d + 1) t1 = g at *
        obtain ⟨b2, t2⟩ := g
        dsimp only at *
        simp only [exA] at hx3 q2''
        cases b2 with
        | true =>
          repeat' ((conv => whnf); first | (refine exI q1' ?_) | (refine exI q2'' ?_) | (refine exI hx3 ?_) | (rw [frcHW_eq]) | (with_reducible refine exW w1 ?_) | (with_reducible refine ixJ i rfl ?_ ?_; (focus (omega))) | (first | refine stp ?_ | with_reducible refine condB (fun h => ?_) (fun h => ?_)))
          all_goals (conv => whnf)
          refine ⟨i + 1, ⟨hlt, by rw [hat]⟩, by show l.length - (i + 1) < l.length - i; omega, ?_⟩
          rw [hat]
          refine FgLK.same rfl ?_ (V.same _)
          refine And.intro (Wk.noref rfl) ?_
          refine And.intro (Wk.noref rfl) ?_
          refine And.intro (Wk.func trivial V.wkE) ?_
          refine And.intro (Wk.int rfl) ?_
          exact ⟨Wk.int rfl, trivial⟩
        | false =>
          rw [hat] at hst
          rw [hst rfl]
          repeat' ((conv => whnf); first | (refine exI q1' ?_) | (refine exI q2'' ?_) | (refine exI hx3 ?_) | (rw [frcHW_eq]) | (with_reducible refine exW w1 ?_) | (with_reducible refine ixJ i rfl ?_ ?_; (focus (omega))) | (first | refine stp ?_ | with_reducible refine condB (fun h => ?_) (fun h => ?_)))
          all_goals (conv => whnf)
          all_goals (exact V.fin s t2 false)
    · have e1 : decide ((i : Int) < (l.length : Int)) = false := by simpa using hlt
      have hi2 : i = l.length := by have := hi; omega
      subst hi2
      rw [List.take_length] at hall ⊢
      rw [hall]
      generalize (goL V.hE l d s).2 = t at *
      repeat' ((conv => whnf); first | (rw [frcHW_eq]) | (first | refine stp ?_ | with_reducible refine condB (fun h => ?_) (fun h => ?_)))
      all_goals (conv => whnf)
      all_goals (exact V.fin s t true)
end
end Go.Proofs.YtblnhcafobifgaaGreatDoor.lex
end


section

set_option linter.unusedVariables false
set_option linter.unusedSimpArgs false
namespace Go.Proofs.YtblnhcafobifgaaGreatDoor.lex
open Go.Abs Go.RowKit
set_option maxRecDepth 100000
set_option maxHeartbeats 4000000
inductive St where
  | mk (kind : Int) (name loc : List UInt8) (order : Int) (exprs : List Ex) (thn els : List St)
instance : Inhabited St := ⟨.mk 0 [] [] 0 [] [] []⟩
def St.kind : St → Int
  | .mk k _ _ _ _ _ _ => k
def St.name : St → List UInt8
  | .mk _ n _ _ _ _ _ => n
def St.loc : St → List UInt8
  | .mk _ _ l _ _ _ _ => l
def St.order : St → Int
  | .mk _ _ _ o _ _ _ => o
def St.exprs : St → List Ex
  | .mk _ _ _ _ x _ _ => x
def St.thn : St → List St
  | .mk _ _ _ _ _ t _ => t
def St.els : St → List St
  | .mk _ _ _ _ _ _ e => e
mutual
def St.cells : St → List AV
  | .mk k n l o x t e => [.int .i64 k, .str n, .str l, .int .i64 o, exA x, .rs t.length 7 (stC t), .rs e.length 7 (stC e)]
def stC : List St → List AV
  | [] => []
  | s :: l => s.cells ++ stC l
end
def stA (l : List St) : AV := .rs l.length 7 (stC l)
mutual
def sizeS : St → Nat
  | .mk _ _ _ _ x t e => 1 + sizeL x + sizeSL t + sizeSL e
def sizeSL : List St → Nat
  | [] => 0
  | s :: l => sizeS s + sizeSL l
end
mutual
def deepS : St → Nat
  | .mk _ _ _ _ x t e => max (max (deepSL t) (deepSL e)) (deepL x) + 1
def deepSL : List St → Nat
  | [] => 0
  | s :: l => max (deepS s) (deepSL l)
end
mutual
def okS : St → Prop
  | .mk _ n l _ x t e => okN n x.length ∧ okN l t.length ∧ e.length ≤ 9223372036854775807 ∧ okL x ∧ okSL t ∧ okSL e
def okSL : List St → Prop
  | [] => True
  | s :: l => okS s ∧ okSL l
end
theorem okSL_get : ∀ {l : List St}, okSL l → ∀ s ∈ l, okS s
  | x :: l, h, e, he => by
    simp only [okSL] at h
    rcases List.mem_cons.1 he with rfl | he
    · exact h.1
    · exact okSL_get h.2 e he
theorem okS_parts : ∀ {s : St}, okS s → s.name.length ≤ 9223372036854775807 ∧ s.loc.length ≤ 9223372036854775807 ∧ s.exprs.length ≤ 9223372036854775807 ∧ s.thn.length ≤ 9223372036854775807 ∧ s.els.length ≤ 9223372036854775807 ∧ okL s.exprs ∧ okSL s.thn ∧ okSL s.els
  | .mk _ _ _ _ _ _ _, h => by
    simp only [okS, okN] at h
    simp only [St.name, St.loc, St.exprs, St.thn, St.els]
    exact ⟨h.1.1, h.2.1.1, h.1.2, h.2.1.2, h.2.2.1, h.2.2.2⟩
theorem scells_len : ∀ s : St, s.cells.length = 7
  | .mk _ _ _ _ _ _ _ => by simp only [St.cells]; rfl
theorem stC_len : ∀ l : List St, (stC l).length = l.length * 7
  | [] => by simp only [stC]; rfl
  | s :: l => by simp only [stC, List.length_append, scells_len, stC_len l, List.length_cons]; omega
theorem stC_drop (s : St) (l : List St) (i : Nat) : (stC (s :: l)).drop ((i + 1) * 7) = (stC l).drop (i * 7) := by
  have h : (i + 1) * 7 = 7 + i * 7 := by omega
  rw [h, ← List.drop_drop, stC, List.drop_left' (scells_len s)]
theorem stC_at : ∀ (l : List St) (i : Nat) (h : i < l.length), (stC l).drop (i * 7) = l[i].cells ++ stC (l.drop (i + 1))
  | s :: l, 0, h => by simp only [Nat.zero_mul, List.drop_zero, stC, List.getElem_cons_zero, List.drop_succ_cons]
  | s :: l, i + 1, h => by rw [stC_drop, stC_at l i (by simpa using h)]; simp only [List.getElem_cons_succ, List.drop_succ_cons]
theorem st7 (l : List St) (i : Nat) (h : i < l.length) : tk 7 ((stC l).drop (i * 7)) = some l[i].cells := by
  rw [stC_at l i h]
  have := tk_app l[i].cells (stC (l.drop (i + 1)))
  rwa [scells_len] at this
mutual
theorem scells_inj : ∀ (a b : St), a.cells = b.cells → a = b
  | .mk k n l o x t e, .mk k' n' l' o' x' t' e', h => by
    simp only [St.cells, List.cons.injEq, AV.int.injEq, AV.str.injEq, AV.rs.injEq, true_and, and_true] at h
    obtain ⟨rfl, rfl, rfl, rfl, hx, ht, he⟩ := h
    rw [exA_inj hx, stC_inj t t' ht.2 ht.1, stC_inj e e' he.2 he.1]
theorem stC_inj : ∀ (a b : List St), stC a = stC b → a.length = b.length → a = b
  | [], [], _, _ => rfl
  | x :: a, y :: b, h, hl => by
    simp only [stC] at h
    have h' := List.append_inj h (by rw [scells_len, scells_len])
    rw [scells_inj x y h'.1, stC_inj a b h'.2 (by simpa using hl)]
  | [], _ :: _, _, hl => by simp at hl
  | _ :: _, [], _, hl => by simp at hl
end
theorem stA_inj {a b : List St} (h : stA a = stA b) : a = b := by
  simp only [stA, AV.rs.injEq, true_and] at h
  exact stC_inj _ _ h.2 h.1
theorem sizeS_eq : ∀ s : St, sizeS s = 1 + sizeL s.exprs + sizeSL s.thn + sizeSL s.els
  | .mk _ _ _ _ _ _ _ => by simp only [sizeS, St.exprs, St.thn, St.els]
theorem sizeSL_get : ∀ (l : List St) (i : Nat) (h : i < l.length), sizeSL l = sizeSL (l.take i) + sizeS l[i] + sizeSL (l.drop (i + 1))
  | s :: l, 0, h => by simp only [List.take_zero, sizeSL, List.getElem_cons_zero, List.drop_succ_cons, List.drop_zero]; omega
  | s :: l, i + 1, h => by
    have := sizeSL_get l i (by simpa using h)
    simp only [List.take_succ_cons, sizeSL, List.getElem_cons_succ, List.drop_succ_cons]; omega
theorem sizeSL_mem : ∀ (l : List St) (s : St), s ∈ l → sizeS s ≤ sizeSL l
  | e :: l, f, h => by
    simp only [sizeSL]
    rcases List.mem_cons.1 h with rfl | h
    · omega
    · have := sizeSL_mem l f h; omega
mutual
theorem deepS_size : ∀ s : St, deepS s ≤ sizeS s
  | .mk _ _ _ _ x t e => by have := deepSL_size t; have := deepSL_size e; have := deepL_size x; simp only [deepS, sizeS]; omega
theorem deepSL_size : ∀ l : List St, deepSL l ≤ sizeSL l
  | [] => Nat.le_refl _
  | s :: l => by have := deepS_size s; have := deepSL_size l; simp only [deepSL, sizeSL]; omega
end
theorem cell_x (s : St) (rest : List AV) : tk 1 ((s.cells ++ rest).drop 4) = some [exA s.exprs] := by
  obtain ⟨k, n, l, o, x, t, e⟩ := s
  simp only [St.cells, exA, St.exprs]; rfl
theorem cell_t (s : St) (rest : List AV) : tk 1 ((s.cells ++ rest).drop 5) = some [stA s.thn] := by
  obtain ⟨k, n, l, o, x, t, e⟩ := s
  simp only [St.cells, stA, St.thn]; rfl
theorem cell_e (s : St) (rest : List AV) : tk 1 ((s.cells ++ rest).drop 6) = some [stA s.els] := by
  obtain ⟨k, n, l, o, x, t, e⟩ := s
  simp only [St.cells, stA, St.els]; rfl
theorem cell_n (s : St) (rest : List AV) : tk 1 ((s.cells ++ rest).drop 1) = some [.str s.name] := by
  obtain ⟨k, n, l, o, x, t, e⟩ := s
  simp only [St.cells, St.name]; rfl
end Go.Proofs.YtblnhcafobifgaaGreatDoor.lex
end


section

set_option linter.unusedVariables false
set_option linter.unusedSimpArgs false
namespace Go.Proofs.YtblnhcafobifgaaGreatDoor.lex
open Go.Abs Go.RowKit
set_option maxRecDepth 100000
set_option maxHeartbeats 4000000
structure TvS (gl : Glob) extends TvE gl where
  gS : Nat
  cS : List AV
  hS : St → Int → σ → Bool × σ
  bodyS : hasBody Tryz.prog gS = true
  wkS : WkL (List.range k) cS cS
  okS : ∀ x rest d s m, lex.okS x → I d s (m + 1) → MemOK Tryz.prog gl gS ([.rp (x.cells ++ rest), .int .i64 d] ++ cS) (Mem s) (.bool (hS x d s).1) (Mem (hS x d s).2)
  downS : ∀ x d s m, I d s (m + 1) → (hS x d s).1 = true → I (d + 1) (hS x d s).2 m
section
variable {σ : Type}
def thenB (r : Bool × σ) (f : σ → Bool × σ) : Bool × σ := if r.1 = true then f r.2 else (false, r.2)
mutual
def goS (hE : Ex → Int → σ → Bool × σ) (hS : St → Int → σ → Bool × σ) : St → Int → σ → Bool × σ
  | .mk k n l o x t e, d, s => thenB (hS (.mk k n l o x t e) d s) fun s1 => thenB (goL hE x (d + 1) s1) fun s2 => thenB (goSL hE hS t (d + 1) s2) fun s3 => goSL hE hS e (d + 1) s3
def goSL (hE : Ex → Int → σ → Bool × σ) (hS : St → Int → σ → Bool × σ) : List St → Int → σ → Bool × σ
  | [], d, s => (true, s)
  | x :: l, d, s => thenB (goS hE hS x d s) fun s1 => goSL hE hS l d s1
end
variable {hE : Ex → Int → σ → Bool × σ} {hS : St → Int → σ → Bool × σ}
theorem goS_eq (x : St) (d : Int) (s : σ) : goS hE hS x d s = thenB (hS x d s) fun s1 => thenB (goL hE x.exprs (d + 1) s1) fun s2 => thenB (goSL hE hS x.thn (d + 1) s2) fun s3 => goSL hE hS x.els (d + 1) s3 := by
  obtain ⟨k, n, l, o, x, t, e⟩ := x
  simp only [goS, St.exprs, St.thn, St.els]
theorem goSL_at : ∀ (l : List St) (d : Int) (t : σ) (i : Nat) (hi : i < l.length), (goSL hE hS (l.take i) d t).1 = true → goSL hE hS (l.take (i + 1)) d t = goS hE hS l[i] d (goSL hE hS (l.take i) d t).2
  | e :: l, d, t, 0, _, _ => by
    simp only [List.take_zero, List.take_succ_cons, goSL, List.getElem_cons_zero, thenB]
    split
    · rename_i h2; rw [← h2]
    · rename_i h2; rw [← Bool.eq_false_iff.2 h2]
  | e :: l, d, t, i + 1, hi, ht => by
    simp only [List.take_succ_cons, goSL, List.getElem_cons_succ, thenB] at ht ⊢
    split
    · rename_i h2
      rw [if_pos h2] at ht
      exact goSL_at l d _ i (by simpa using hi) ht
    · rename_i h2; rw [if_neg h2] at ht; cases ht
theorem goSL_stop : ∀ (l : List St) (d : Int) (t : σ) (i : Nat), (goSL hE hS (l.take i) d t).1 = false → goSL hE hS l d t = goSL hE hS (l.take i) d t
  | [], d, t, i, hf => by simp
  | e :: l, d, t, 0, hf => by simp only [List.take_zero, goSL] at hf; cases hf
  | e :: l, d, t, i + 1, hf => by
    simp only [List.take_succ_cons, goSL, thenB] at hf ⊢
    split
    · rename_i h2
      rw [if_pos h2] at hf
      exact goSL_stop l d _ i hf
    · rfl
theorem thenB_true {r : Bool × σ} {f : σ → Bool × σ} (h : (thenB r f).1 = true) : r.1 = true ∧ thenB r f = f r.2 := by
  unfold thenB at h ⊢
  split at h
  · rename_i h2; exact ⟨h2, by rw [if_pos h2]⟩
  · cases h
end
section
variable {gl : Glob} (V : TvS gl)
def TvS.G : AV := .func (.func V.gS) [] V.cS
mutual
theorem TvS.keepS : ∀ (x : St) (d : Int) (s : V.σ) (m : Nat), V.I d s (sizeS x + m) → (goS V.hE V.hS x d s).1 = true → V.I d (goS V.hE V.hS x d s).2 m
  | .mk k n l o x t e, d, s, m, hI, ht => by
    simp only [goS, sizeS] at hI ht ⊢
    obtain ⟨h1, e1⟩ := thenB_true ht
    rw [e1] at ht ⊢
    obtain ⟨h2, e2⟩ := thenB_true ht
    rw [e2] at ht ⊢
    obtain ⟨h3, e3⟩ := thenB_true ht
    rw [e3] at ht ⊢
    have i1 := V.downS _ d s (sizeL x + (sizeSL t + (sizeSL e + m))) (by rw [show 1 + sizeL x + sizeSL t + sizeSL e + m = sizeL x + (sizeSL t + (sizeSL e + m)) + 1 from by omega] at hI; exact hI) h1
    have i2 := V.toTvE.keepL x (d + 1) _ _ i1 h2
    have i3 := TvS.keepSL t (d + 1) _ _ i2 h3
    exact V.up _ _ _ (V.bnd _ _ _ hI).1 (TvS.keepSL e (d + 1) _ m i3 ht)
theorem TvS.keepSL : ∀ (l : List St) (d : Int) (s : V.σ) (m : Nat), V.I d s (sizeSL l + m) → (goSL V.hE V.hS l d s).1 = true → V.I d (goSL V.hE V.hS l d s).2 m
  | [], d, s, m, hI, ht => by simp only [goSL, sizeSL, Nat.zero_add] at hI ⊢; exact hI
  | x :: l, d, s, m, hI, ht => by
    simp only [goSL, sizeSL] at hI ht ⊢
    obtain ⟨h1, e1⟩ := thenB_true ht
    rw [e1] at ht ⊢
    exact TvS.keepSL l d _ m (TvS.keepS x d s (sizeSL l + m) (by rw [← Nat.add_assoc]; exact hI) h1) ht
end
theorem TvS.stmts : ∀ (n : Nat) (l : List St) (d : Int) (s : V.σ) (m : Nat), sizeSL l ≤ n → okSL l → l.length ≤ 9223372036854775807 → V.I d s (sizeSL l + m) →
    MemOK Tryz.prog gl 46 [stA l, .int .i64 d, V.toTvE.F, V.G] (V.Mem s) (.bool (goSL V.hE V.hS l d s).1) (V.Mem (goSL V.hE V.hS l d s).2)
  | n, l, d, s, m, hn, hok, hl, hI => by
    have hF : ∃ O, OrcSound Tryz.prog gl O ∧
        (∀ (x : List St) (t : V.σ) (q : Nat), sizeSL x < n → okSL x → x.length ≤ 9223372036854775807 → V.I (d + 1) t (sizeSL x + q) → acall Tryz.prog O (V.Mem t) 46 [stA x, .int .i64 (d + 1), V.toTvE.F, V.G] = some (.bool (goSL V.hE V.hS x (d + 1) t).1, V.Mem (goSL V.hE V.hS x (d + 1) t).2)) ∧
        (∀ (x : List Ex) (t : V.σ) (q : Nat), okL x → x.length ≤ 9223372036854775807 → V.I (d + 1) t (sizeL x + q) → acall Tryz.prog O (V.Mem t) 75 [exA x, .int .i64 (d + 1), V.toTvE.F] = some (.bool (goL V.hE x (d + 1) t).1, V.Mem (goL V.hE x (d + 1) t).2)) ∧
        (∀ (i : Nat) (hi : i < l.length) (t : V.σ) (q : Nat), V.I d t (q + 1) → acall Tryz.prog O (V.Mem t) V.gS ([.rp ((stC l).drop (i * 7)), .int .i64 d] ++ V.cS) = some (.bool (V.hS l[i] d t).1, V.Mem (V.hS l[i] d t).2)) := by
      have s1 := orcI_sound (P := Tryz.prog) (gl := gl) (I := List St × V.σ × Nat) (G := fun p => sizeSL p.1 < n ∧ okSL p.1 ∧ p.1.length ≤ 9223372036854775807 ∧ V.I (d + 1) p.2.1 (sizeSL p.1 + p.2.2)) (fF := fun _ => 46) (fA := fun p => [stA p.1, .int .i64 (d + 1), V.toTvE.F, V.G]) (fH := fun p => V.Mem p.2.1) (fR := fun p => .bool (goSL V.hE V.hS p.1 (d + 1) p.2.1).1) (fO := fun p => V.Mem (goSL V.hE V.hS p.1 (d + 1) p.2.1).2) fun p hp => by
        obtain ⟨h0, h1, h2, h3⟩ := hp
        match n, hn, h0 with
        | n + 1, hn, h0 => exact TvS.stmts n _ (d + 1) p.2.1 p.2.2 (by omega) h1 h2 h3
      have s2 := orcI_sound (P := Tryz.prog) (gl := gl) (I := List Ex × V.σ × Nat) (G := fun p => okL p.1 ∧ p.1.length ≤ 9223372036854775807 ∧ V.I (d + 1) p.2.1 (sizeL p.1 + p.2.2)) (fF := fun _ => 75) (fA := fun p => [exA p.1, .int .i64 (d + 1), V.toTvE.F]) (fH := fun p => V.Mem p.2.1) (fR := fun p => .bool (goL V.hE p.1 (d + 1) p.2.1).1) (fO := fun p => V.Mem (goL V.hE p.1 (d + 1) p.2.1).2) fun p hp =>
        V.toTvE.exprs follows _ p.1 (d + 1) p.2.1 p.2.2 (Nat.le_refl _) hp.1 hp.2.1 hp.2.2
      have s3 := orcI_sound (P := Tryz.prog) (gl := gl) (I := Nat × V.σ × Nat) (G := fun p => p.1 < l.length ∧ V.I d p.2.1 (p.2.2 + 1)) (fF := fun _ => V.gS) (fA := fun p => [.rp ((stC l).drop (p.1 * 7)), .int .i64 d] ++ V.cS) (fH := fun p => V.Mem p.2.1) (fR := fun p => .bool (V.hS (l.getD p.1 default) d p.2.1).1) (fO := fun p => V.Mem (V.hS (l.getD p.1 default) d p.2.1).2) fun p hp => by
        obtain ⟨hp, h1⟩ := hp
        have hg : l.getD p.1 default = l[p.1] := by simp [List.getD_eq_getElem?_getD, hp]
        have hke := okSL_get hok _ (get_mem hp)
        simp only [hg]
        rw [stC_at l p.1 hp]
        exact V.okS _ _ _ _ _ hke h1
      refine ⟨_, orcOr_sound s1 (orcOr_sound s2 s3), fun x t q h0 h1 h2 h3 => ?_, fun x t q h0 h1 h2 => ?_, fun i hi t q h1 => ?_⟩
      · exact callOr1 (by kernel_rfl) (callI (P := Tryz.prog) (fun p q _ _ _ ha hh => by
            have e2 := V.inj _ _ hh
            simp only [List.cons.injEq, and_true, true_and] at ha
            rw [stA_inj ha, e2]; exact ⟨rfl, rfl⟩) (by kernel_rfl) (x, t, q) ⟨h0, h1, h2, h3⟩ rfl rfl rfl)
      · refine callOr2 (by kernel_rfl) (orcI_none fun p _ e _ => absurd e (by decide)) ?_
        exact callOr1 (by kernel_rfl) (callI (P := Tryz.prog) (fun p q _ _ _ ha hh => by
            have e2 := V.inj _ _ hh
            simp only [List.cons.injEq, and_true, true_and] at ha
            rw [exA_inj ha, e2]; exact ⟨rfl, rfl⟩) (by kernel_rfl) (x, t, q) ⟨h0, h1, h2⟩ rfl rfl rfl)
      · have hg : l.getD i default = l[i] := by simp [List.getD_eq_getElem?_getD, hi]
        refine callOr2 V.bodyS (orcI_none fun p _ _ ha => ?_) ?_
        · have := congrArg (fun a => a.head?) ha
          simp [stA] at this
        refine callOr2 V.bodyS (orcI_none fun p _ _ ha => ?_) ?_
        · have := congrArg (fun a => a.head?) ha
          simp [exA] at this
        · have := callI (P := Tryz.prog) (I := Nat × V.σ × Nat) (G := fun p => p.1 < l.length ∧ V.I d p.2.1 (p.2.2 + 1)) (fF := fun _ => V.gS) (fA := fun p => [.rp ((stC l).drop (p.1 * 7)), .int .i64 d] ++ V.cS) (fH := fun p => V.Mem p.2.1) (fR := fun p => .bool (V.hS (l.getD p.1 default) d p.2.1).1) (fO := fun p => V.Mem (V.hS (l.getD p.1 default) d p.2.1).2)
            (fun p q hp hq _ ha hh => by
              have e2 := V.inj _ _ hh
              simp only [List.cons_append, List.nil_append, List.cons.injEq, AV.rp.injEq, true_and, and_true] at ha
              have := congrArg List.length ha
              simp only [List.length_drop, stC_len] at this
              have e : p.1 = q.1 := by have := hp.1; have := hq.1; omega
              rw [e, e2]; exact ⟨rfl, rfl⟩) (g := V.gS) (args := [.rp ((stC l).drop (i * 7)), .int .i64 d] ++ V.cS) (H := V.Mem t) V.bodyS (i, t, q) ⟨hi, h1⟩ rfl rfl rfl
          simp only [hg] at this
          exact this
    obtain ⟨O, hO, q3, q2, q1⟩ := hF
    have hbd := V.bnd _ _ _ hI
    have w1 : IntKind.i64.wrap (d + 1) = d + 1 := wrapB (by omega) (by omega)
    simp only [stA, exA, TvE.F, TvS.G] at q2 q3 ⊢
    refine fn_mem (k := V.k) follows noNum hO (V.len s) Tryz.func46 rfl (cw0_ok _ _) ?_
    repeat' ((conv => whnf); (first | refine stp ?_ | with_reducible refine condB (fun h => ?_) (fun h => ?_)))
    conv => whnf
    refine ⟨Nat, (fun i => i ≤ l.length ∧ (goSL V.hE V.hS (l.take i) d s).1 = true), (fun i => [(0, .rs l.length 7 (stC l)), (1, .int .i64 d), (2, .func (.func V.gE) [] V.cE), (3, .func (.func V.gS) [] V.cS), (12, .int .i64 l.length), (13, .int .i64 i)]), (fun i => V.Mem (goSL V.hE V.hS (l.take i) d s).2), (fun i => l.length - i), ⟨0, ⟨Nat.zero_le _, by simp only [List.take_zero, goSL]⟩, ?_⟩, ?_⟩
    · simp only [List.take_zero, goSL]
      refine FgLK.same rfl ?_ (V.same _)
      refine And.intro (Wk.noref rfl) ?_
      refine And.intro (Wk.noref rfl) ?_
      refine And.intro (Wk.func trivial V.wkE) ?_
      refine And.intro (Wk.func trivial V.wkS) ?_
      refine And.intro (Wk.int rfl) ?_
      exact ⟨Wk.int rfl, trivial⟩
    rintro i ⟨hi, hall⟩
    dsimp only
    conv => whnf
    rw [frcHW_eq]
    by_cases hlt : i < l.length
    · have e1 : decide ((i : Int) < (l.length : Int)) = true := by simpa using hlt
      have hat := goSL_at (hE := V.hE) (hS := V.hS) l d s i hlt hall
      have hI2 : V.I d (goSL V.hE V.hS (l.take i) d s).2 (sizeSL (l.drop i) + m) := V.keepSL (l.take i) d s (sizeSL (l.drop i) + m) (by
        have := sizeSL_get l i hlt
        have e : sizeSL (l.drop i) = sizeS l[i] + sizeSL (l.drop (i + 1)) := by rw [List.drop_eq_getElem_cons hlt]; simp only [sizeSL]
        have e2 : sizeSL (l.take i) + (sizeSL (l.drop i) + m) = sizeSL l + m := by omega
        rw [e2]; exact hI) hall
      generalize (goSL V.hE V.hS (l.take i) d s).2 = t at *
      have esz : sizeSL (l.drop i) + m = (sizeL l[i].exprs + (sizeSL l[i].thn + (sizeSL l[i].els + (sizeSL (l.drop (i + 1)) + m)))) + 1 := by
        rw [List.drop_eq_getElem_cons hlt]; simp only [sizeSL]; have := sizeS_eq l[i]; omega
      rw [esz] at hI2
      have q1' := q1 i hlt t _ hI2
      have hd2 := V.downS l[i] d t _ hI2
      have hx4 : tk 1 (((stC l).drop (i * 7)).drop 4) = some [exA l[i].exprs] := by rw [stC_at l i hlt]; exact cell_x _ _
      have hx5 : tk 1 (((stC l).drop (i * 7)).drop 5) = some [stA l[i].thn] := by rw [stC_at l i hlt]; exact cell_t _ _
      have hx6 : tk 1 (((stC l).drop (i * 7)).drop 6) = some [stA l[i].els] := by rw [stC_at l i hlt]; exact cell_e _ _
      obtain ⟨_, _, k1, k2, k3, k4, k5, k6⟩ := okS_parts (okSL_get hok _ (get_mem hlt))
      have hsz := sizeSL_mem _ _ (get_mem hlt)
      have hse := sizeS_eq l[i]
      have qx := fun t q => q2 l[i].exprs t q k4 k1
      have qt := fun t q => q3 l[i].thn t q (by omega) k5 k2
      have qe := fun t q => q3 l[i].els t q (by omega) k6 k3
      have kx := fun s m => V.toTvE.keepL l[i].exprs (d + 1) s m
      have kt := fun s m => V.keepSL l[i].thn (d + 1) s m
      rw [goS_eq] at hat
      have hst := goSL_stop (hE := V.hE) (hS := V.hS) l d s (i + 1)
      clear q1 q2 q3 hse hsz k1 k2 k3 k4 k5 k6
      generalize l[i] = e at *
      generalize hr : V.hS e d t = r at *
      obtain ⟨b, t1⟩ := r
      simp only [exA, stA] at hx4 hx5 hx6 qx qt qe
      dsimp only [thenB] at *
      cases b with
      | false =>
        simp only [Bool.false_eq_true, if_false] at hat
        rw [hat] at hst
        rw [hst rfl]
        repeat' ((conv => whnf); first | (refine exI q1' ?_) | (rw [frcHW_eq]) | (with_reducible refine ixJ i rfl ?_ ?_; (focus (omega))) | (first | refine stp ?_ | with_reducible refine condB (fun h => ?_) (fun h => ?_)))
        all_goals (conv => whnf)
        all_goals (exact V.toTvE.fin s t1 false)
      | true =>
        simp only [if_true] at hat
        have i1 := hd2 rfl
        have qx' := qx t1 _ i1
        have kx' := kx t1 _ i1
        generalize hg : goL V.hE e.exprs (d + 1) t1 = g at *
        obtain ⟨b2, t2⟩ := g
        dsimp only at *
        cases b2 with
        | false =>
          simp only [Bool.false_eq_true, if_false] at hat
          rw [hat] at hst
          rw [hst rfl]
          repeat' ((conv => whnf); first | (refine exI q1' ?_) | (refine exI qx' ?_) | (refine exI hx4 ?_) | (rw [frcHW_eq]) | (with_reducible refine exW w1 ?_) | (with_reducible refine ixJ i rfl ?_ ?_; (focus (omega))) | (first | refine stp ?_ | with_reducible refine condB (fun h => ?_) (fun h => ?_)))
          all_goals (conv => whnf)
          all_goals (exact V.toTvE.fin s t2 false)
        | true =>
          simp only [if_true] at hat
          have i2 := kx' rfl
          have qt' := qt t2 _ i2
          have kt' := kt t2 _ i2
          generalize hg2 : goSL V.hE V.hS e.thn (d + 1) t2 = g2 at *
          obtain ⟨b3, t3⟩ := g2
          dsimp only at *
          cases b3 with
          | false =>
            simp only [Bool.false_eq_true, if_false] at hat
            rw [hat] at hst
            rw [hst rfl]
            repeat' ((conv => whnf); first | (refine exI q1' ?_) | (refine exI qx' ?_) | (refine exI qt' ?_) | (refine exI hx4 ?_) | (refine exI hx5 ?_) | (rw [frcHW_eq]) | (with_reducible refine exW w1 ?_) | (with_reducible refine ixJ i rfl ?_ ?_; (focus (omega))) | (first | refine stp ?_ | with_reducible refine condB (fun h => ?_) (fun h => ?_)))
            all_goals (conv => whnf)
            all_goals (exact V.toTvE.fin s t3 false)
          | true =>
            simp only [if_true] at hat
            have i3 := kt' rfl
            have qe' := qe t3 _ i3
            generalize hg3 : goSL V.hE V.hS e.els (d + 1) t3 = g3 at *
            obtain ⟨b4, t4⟩ := g3
            dsimp only at *
            cases b4 with
            | false =>
              rw [hat] at hst
              rw [hst rfl]
              repeat' ((conv => whnf); first | (refine exI q1' ?_) | (refine exI qx' ?_) | (refine exI qt' ?_) | (refine exI qe' ?_) | (refine exI hx4 ?_) | (refine exI hx5 ?_) | (refine exI hx6 ?_) | (rw [frcHW_eq]) | (with_reducible refine exW w1 ?_) | (with_reducible refine ixJ i rfl ?_ ?_; (focus (omega))) | (first | refine stp ?_ | with_reducible refine condB (fun h => ?_) (fun h => ?_)))
              all_goals (conv => whnf)
              all_goals (exact V.toTvE.fin s t4 false)
            | true =>
              repeat' ((conv => whnf); first | (refine exI q1' ?_) | (refine exI qx' ?_) | (refine exI qt' ?_) | (refine exI qe' ?_) | (refine exI hx4 ?_) | (refine exI hx5 ?_) | (refine exI hx6 ?_) | (rw [frcHW_eq]) | (with_reducible refine exW w1 ?_) | (with_reducible refine ixJ i rfl ?_ ?_; (focus (omega))) | (first | refine stp ?_ | with_reducible refine condB (fun h => ?_) (fun h => ?_)))
              all_goals (conv => whnf)
              refine ⟨i + 1, ⟨hlt, by rw [hat]⟩, by show l.length - (i + 1) < l.length - i; omega, ?_⟩
              rw [hat]
              refine FgLK.same rfl ?_ (V.same _)
              refine And.intro (Wk.noref rfl) ?_
              refine And.intro (Wk.noref rfl) ?_
              refine And.intro (Wk.func trivial V.wkE) ?_
              refine And.intro (Wk.func trivial V.wkS) ?_
              refine And.intro (Wk.int rfl) ?_
              exact ⟨Wk.int rfl, trivial⟩
    · have e1 : decide ((i : Int) < (l.length : Int)) = false := by simpa using hlt
      have hi2 : i = l.length := by have := hi; omega
      subst hi2
      rw [List.take_length] at hall ⊢
      rw [hall]
      generalize (goSL V.hE V.hS l d s).2 = t at *
      repeat' ((conv => whnf); first | (rw [frcHW_eq]) | (first | refine stp ?_ | with_reducible refine condB (fun h => ?_) (fun h => ?_)))
      all_goals (conv => whnf)
      all_goals (exact V.toTvE.fin s t true)
end
end Go.Proofs.YtblnhcafobifgaaGreatDoor.lex
end


section

set_option linter.unusedVariables false
set_option linter.unusedSimpArgs false
namespace Go.Proofs.YtblnhcafobifgaaGreatDoor.lex
open Go.Abs Go.RowKit
set_option maxRecDepth 100000
set_option maxHeartbeats 4000000
variable {gl : Glob}
def sizeTL : List (List St) → Nat
  | [] => 0
  | l :: t => sizeSL l + sizeTL t
def okTL : List (List St) → Prop
  | [] => True
  | l :: t => okSL l ∧ l.length ≤ 9223372036854775807 ∧ okTL t
theorem okTL_get : ∀ {t : List (List St)}, okTL t → ∀ l ∈ t, okSL l ∧ l.length ≤ 9223372036854775807
  | x :: t, h, l, hl => by
    rcases List.mem_cons.1 hl with rfl | hl
    · exact ⟨h.1, h.2.1⟩
    · exact okTL_get h.2.2 l hl
theorem th1 (t : List (List St)) (i : Nat) (h : i < t.length) : tk 1 ((t.map stA).drop (i * 1)) = some [stA t[i]] := tk1_map stA t i h (by omega)
structure Dc where
  name : List UInt8
  plain : Bool
  val : Int
def Dc.cells (d : Dc) : List AV := [.str d.name, .bool d.plain, .int .i64 d.val]
def dcC : List Dc → List AV
  | [] => []
  | d :: l => d.cells ++ dcC l
theorem dcC_drop (d : Dc) (l : List Dc) (i : Nat) : (dcC (d :: l)).drop ((i + 1) * 3) = (dcC l).drop (i * 3) := by
  have h : (i + 1) * 3 = 3 + i * 3 := by omega
  rw [h, ← List.drop_drop]
  have h2 : (dcC (d :: l)).drop 3 = dcC l := rfl
  rw [h2]
theorem dcC_at : ∀ (l : List Dc) (i : Nat) (h : i < l.length), (dcC l).drop (i * 3) = l[i].cells ++ dcC (l.drop (i + 1))
  | d :: l, 0, h => by simp only [Nat.zero_mul, List.drop_zero, dcC, List.getElem_cons_zero, List.drop_succ_cons]
  | d :: l, i + 1, h => by rw [dcC_drop, dcC_at l i (by simpa using h)]; simp only [List.getElem_cons_succ, List.drop_succ_cons]
theorem dc3 (l : List Dc) (i : Nat) (h : i < l.length) : tk 3 ((dcC l).drop (i * 3)) = some l[i].cells := by
  rw [dcC_at l i h]; rfl
structure Pr where
  decls : List Dc
  threads : List (List St)
def Pr.av (p : Pr) : AV := .agg [.rs p.decls.length 3 (dcC p.decls), .rs p.threads.length 1 (p.threads.map stA)]
def okD (l : List Dc) : Prop := l.length ≤ 9223372036854775807 ∧ ∀ d ∈ l, d.name.length ≤ 9223372036854775807
def okP (p : Pr) : Prop := okD p.decls ∧ okTL p.threads ∧ p.threads.length ≤ 9223372036854775807
theorem sizeTL_mem : ∀ (t : List (List St)) (l : List St), l ∈ t → sizeSL l ≤ sizeTL t
  | e :: t, l, h => by
    simp only [sizeTL]
    rcases List.mem_cons.1 h with rfl | h
    · omega
    · have := sizeTL_mem t l h; omega
end Go.Proofs.YtblnhcafobifgaaGreatDoor.lex
end


section

set_option linter.unusedVariables false
set_option linter.unusedSimpArgs false
namespace Go.Proofs.YtblnhcafobifgaaGreatDoor.lex
open Go.Abs Go.RowKit
set_option maxRecDepth 100000
set_option maxHeartbeats 4000000
variable {gl : Glob}
def fdI (s : List UInt8) : List Dc → Nat → Int
  | [], _ => -1
  | d :: l, i => cond (d.name == s) (i : Int) (fdI s l (i + 1))
def findD (ds : List Dc) (s : List UInt8) : Int := fdI s ds 0
def noD (s : List UInt8) : List Dc → Bool
  | [] => true
  | d :: l => !(d.name == s) && noD s l
theorem fdI_at (s : List UInt8) : ∀ (l : List Dc) (k i : Nat) (h : i < l.length), noD s (l.take i) = true → (l[i].name == s) = true → fdI s l k = ((k + i : Nat) : Int)
  | d :: l, k, 0, h, h1, h2 => by
    simp only [List.getElem_cons_zero] at h2
    simp only [fdI, h2, cond_true, Nat.add_zero]
  | d :: l, k, i + 1, h, h1, h2 => by
    simp only [List.take_succ_cons, noD, Bool.and_eq_true, Bool.not_eq_true'] at h1
    simp only [List.getElem_cons_succ] at h2
    simp only [fdI, h1.1, cond_false]
    rw [fdI_at s l (k + 1) i (by simpa using h) h1.2 h2, show k + 1 + i = k + (i + 1) from by omega]
theorem fdI_none (s : List UInt8) : ∀ (l : List Dc) (k : Nat), noD s l = true → fdI s l k = -1
  | [], k, h => rfl
  | d :: l, k, h => by
    simp only [noD, Bool.and_eq_true, Bool.not_eq_true'] at h
    simp only [fdI, h.1, cond_false]
    exact fdI_none s l (k + 1) h.2
theorem noD_next (s : List UInt8) : ∀ (l : List Dc) (i : Nat) (h : i < l.length), noD s (l.take i) = true → (l[i].name == s) = false → noD s (l.take (i + 1)) = true
  | d :: l, 0, h, h1, h2 => by
    simp only [List.getElem_cons_zero] at h2
    simp [noD, h2]
  | d :: l, i + 1, h, h1, h2 => by
    simp only [List.take_succ_cons, noD, Bool.and_eq_true, Bool.not_eq_true'] at h1 ⊢
    simp only [List.getElem_cons_succ] at h2
    exact ⟨h1.1, noD_next s l i (by simpa using h) h1.2 h2⟩
theorem fdI_lt (s : List UInt8) : ∀ (l : List Dc) (k : Nat), fdI s l k = -1 ∨ ∃ i : Nat, fdI s l k = ((k + i : Nat) : Int) ∧ i < l.length ∧ (l[i]?).map (·.name) = some s
  | [], k => .inl rfl
  | d :: l, k => by
    simp only [fdI]
    cases h : d.name == s with
    | true => exact .inr ⟨0, by simp, by simp, by simpa using h⟩
    | false =>
      rcases fdI_lt s l (k + 1) with h | ⟨i, h1, h2, h3⟩
      · exact .inl h
      · exact .inr ⟨i + 1, by rw [cond_false, h1]; congr 1; omega, by simpa using h2, by simpa using h3⟩
theorem findD_lt (ds : List Dc) (s : List UInt8) : findD ds s = -1 ∨ ∃ i : Nat, findD ds s = (i : Int) ∧ i < ds.length ∧ (ds[i]?).map (·.name) = some s := by
  rcases fdI_lt s ds 0 with h | ⟨i, h1, h2, h3⟩
  · exact .inl h
  · exact .inr ⟨i, by unfold findD; rw [h1, Nat.zero_add], h2, h3⟩
def nmH (s : List UInt8) : AHeap := [⟨true, 0, 0, .cells [.str s] 9⟩]
theorem find1_ok (d : Dc) (s : List UInt8) : MemOK Tryz.prog gl 50 [.agg d.cells, .ptr 0 0] (nmH s) (.bool (d.name == s)) (nmH s) := by
  obtain ⟨nm, pl, v⟩ := d
  simp only [Dc.cells]
  refine fn_mem (k := 1) follows noNum none_sound rfl Tryz.func50 rfl (cw0_ok _ _) ?_
  repeat' ((conv => whnf); first | refine stp ?_ | with_reducible refine condB (fun h => ?_) (fun h => ?_))
  all_goals first | rfl | exact ⟨rfl, rfl⟩ | exact ⟨rfl, rfl, rfl⟩
theorem indexF_ok (ds : List Dc) (s : List UInt8) (hl : ds.length ≤ 9223372036854775807) : MemOK Tryz.prog gl 49 [.rs ds.length 3 (dcC ds), .func (.func 50) [] [.ptr 0 0]] (nmH s) (.int .i64 (findD ds s)) (nmH s) := by
  obtain ⟨O, hO, ⟨p1, -⟩, -⟩ := famsM (P := Tryz.prog) (gl := gl) [{ I := Dc, f := 50, G := fun _ => True, A := fun d => [.agg d.cells, .ptr 0 0], H := fun _ => nmH s, R := fun d => .bool (d.name == s), O := fun _ => nmH s, body := (by kernel_rfl), inj := (fun i j _ _ h _ => by obtain ⟨a, b, c⟩ := i; obtain ⟨a', b', c'⟩ := j; simp only [Dc.cells, List.cons.injEq, AV.agg.injEq, AV.str.injEq, and_true] at h; rw [h.1]; exact ⟨rfl, rfl⟩), ok := (fun d _ => find1_ok d s) }] [] rfl
  have q1 : ∀ d : Dc, acall Tryz.prog O (nmH s) 50 [.agg d.cells, .ptr 0 0] = some (.bool (d.name == s), nmH s) := fun d => p1 d trivial
  clear p1
  refine fn_mem (k := 1) follows noNum hO rfl Tryz.func49 rfl (cw0_ok _ _) ?_
  repeat' ((conv => whnf); first | refine stp ?_ | with_reducible refine condB (fun h => ?_) (fun h => ?_))
  conv => whnf
  refine ⟨Nat, (fun i => i ≤ ds.length ∧ noD s (ds.take i) = true), (fun i => [(0, .rs ds.length 3 (dcC ds)), (1, .func (.func 50) [] [.ptr 0 0]), (7, .int .i64 ds.length), (8, .int .i64 i)]), (fun _ => nmH s), (fun i => ds.length - i), ⟨0, ⟨Nat.zero_le _, rfl⟩, FgLK.mk [0] rfl rfl ?_ ⟨⟨rfl, rfl, rfl, rfl, BodyGe.pre (rest := []) rfl rfl⟩, trivial⟩ rfl⟩, ?_⟩
  · (repeat (first | exact trivial | refine stw ?_))
  rintro i ⟨hi, hno⟩
  dsimp only
  by_cases hlt : i < ds.length
  · have e1 : decide ((i : Int) < (ds.length : Int)) = true := by simpa using hlt
    have hx := dc3 ds i hlt
    have hq := q1 ds[i]
    have hat := fdI_at s ds 0 i hlt hno
    have hnx := noD_next s ds i hlt hno
    rw [Nat.zero_add] at hat
    cases hr : ds[i].name == s with
    | true =>
      rw [hr] at hq
      have hat := hat hr
      have hat : findD ds s = (i : Int) := hat
      rw [hat]
      generalize ds[i] = d at *
      repeat' ((conv => whnf); first | (refine exI hx ?_) | (with_reducible refine ixJ i rfl ?_ ?_; (focus (omega))) | (refine exI hq ?_) | (first | refine stp ?_ | with_reducible refine condB (fun h => ?_) (fun h => ?_)))
      all_goals first | rfl | exact ⟨rfl, rfl⟩ | exact ⟨rfl, rfl, rfl⟩
    | false =>
      rw [hr] at hq
      have hnx2 := hnx hr
      clear hnx
      generalize ds[i] = d at *
      repeat' ((conv => whnf); first | (refine exI hx ?_) | (with_reducible refine ixJ i rfl ?_ ?_; (focus (omega))) | (refine exI hq ?_) | (first | refine stp ?_ | with_reducible refine condB (fun h => ?_) (fun h => ?_)))
      conv => whnf
      refine ⟨i + 1, ⟨hlt, hnx2⟩, by show ds.length - (i + 1) < ds.length - i; omega, FgLK.mk [0] rfl rfl ?_ ⟨⟨rfl, rfl, rfl, rfl, BodyGe.pre (rest := []) rfl rfl⟩, trivial⟩ rfl⟩
      (repeat (first | exact trivial | refine stw ?_))
  · have e1 : decide ((i : Int) < (ds.length : Int)) = false := by simpa using hlt
    have hi2 : i = ds.length := by have := hi; omega
    subst hi2
    rw [List.take_length] at hno
    have hat : findD ds s = -1 := fdI_none s ds 0 hno
    rw [hat]
    repeat' ((conv => whnf); first | refine stp ?_ | with_reducible refine condB (fun h => ?_) (fun h => ?_))
    all_goals first | rfl | exact ⟨rfl, rfl⟩ | exact ⟨rfl, rfl, rfl⟩
theorem findX_ok (ds : List Dc) (s : List UInt8) (hl : ds.length ≤ 9223372036854775807) : ValOK Tryz.prog gl 27 [.rs ds.length 3 (dcC ds), .str s] (.int .i64 (findD ds s)) := by
  obtain ⟨O, hO, ⟨p1, -⟩, -⟩ := famsM (P := Tryz.prog) (gl := gl) [{ I := Unit, f := 49, G := fun _ => True, A := fun _ => [.rs ds.length 3 (dcC ds), .func (.func 50) [] [.ptr 0 0]], H := fun _ => nmH s, R := fun _ => .int .i64 (findD ds s), O := fun _ => nmH s, body := (by kernel_rfl), inj := (fun _ _ _ _ _ _ => ⟨rfl, rfl⟩), ok := (fun _ _ => indexF_ok ds s hl) }] [] rfl
  have q1 := p1 () trivial
  clear p1
  refine fn_val follows noNum hO Tryz.func27 rfl ?_
  repeat' ((conv => whnf); first | (refine exI q1 ?_) | (first | refine stp ?_ | with_reducible refine condB (fun h => ?_) (fun h => ?_)))
  all_goals rfl
end Go.Proofs.YtblnhcafobifgaaGreatDoor.lex
end


section

set_option linter.unusedVariables false
namespace Go.Proofs.YtblnhcafobifgaaGreatDoor.runLives
open Go.RowKit Go.Abs
def tbl0 : List AV := [.bool false, .bool false, .int .i64 (.ofNat 0), .bool true, .bool false, .int .i64 (.ofNat 0), .bool false, .bool true, .int .i64 (.ofNat 0),
    .bool false, .bool false, .int .i64 (.ofNat 1), .bool false, .bool false, .int .i64 (.ofNat 1), .bool false, .bool false, .int .i64 (.ofNat 2),
    .bool false, .bool false, .int .i64 (.ofNat 2), .bool false, .bool false, .int .i64 (.ofNat 2), .bool false, .bool false, .int .i64 (.ofNat 2),
    .bool false, .bool false, .int .i64 (.ofNat 2), .bool false, .bool false, .int .i64 (.ofNat 2), .bool false, .bool false, .int .i64 (.ofNat 2),
    .bool false, .bool false, .int .i64 (.ofNat 2), .bool false, .bool false, .int .i64 (.ofNat 2), .bool false, .bool false, .int .i64 (.ofNat 2),
    .bool false, .bool false, .int .i64 (.ofNat 2), .bool false, .bool false, .int .i64 (.ofNat 2)]
def tbl1 : List AV := [.bool false, .bool false, .bool false, .int .i64 (.ofNat 0), .bool false, .bool false, .bool true, .bool false, .bool false, .int .i64 (.ofNat 1),
    .bool false, .bool false, .bool true, .bool true, .bool true, .int .i64 (.ofNat 0), .bool false, .bool false, .bool false, .bool true, .bool true,
    .int .i64 (.ofNat 1), .bool false, .bool false, .bool true, .bool true, .bool true, .int .i64 (.ofNat 2), .bool false, .bool false, .bool true,
    .bool true, .bool true, .int .i64 (.ofNat 1), .bool false, .bool false, .bool true, .bool true, .bool true, .int .i64 (.ofNat 1), .bool false,
    .bool false, .bool false, .bool false, .bool true, .int .i64 (.ofNat 0), .bool false, .bool false, .bool false, .bool false, .bool false,
    .int .i64 (.ofNat 1), .bool false, .bool false, .bool false, .bool false, .bool false, .int .i64 (.ofNat 1), .bool false, .bool false, .bool false,
    .bool false, .bool false, .int .i64 (.ofNat 1), .bool true, .bool true, .bool false, .bool false, .bool false, .int .i64 (.ofNat 1), .bool true,
    .bool false]
def tbl2 : List AV := [.bool false, .bool false, .bool false, .bool false, .bool false, .bool false, .bool false, .bool false, .bool false, .bool false, .bool false,
    .bool false, .bool false, .bool false, .bool false, .bool true, .bool true, .bool true, .bool false, .bool false, .bool true, .bool false, .bool true,
    .bool true, .bool false, .bool true, .bool false, .bool true, .bool false, .bool false, .bool true, .bool true, .bool true, .bool true, .bool true,
    .bool false, .bool false, .bool true, .bool true, .bool true, .bool true, .bool true, .bool false, .bool false, .bool true, .bool true, .bool true,
    .bool true, .bool true, .bool false, .bool false, .bool false, .bool true, .bool true, .bool true, .bool true]
def gl : Glob := fun g => if Nat.beq g 1 then some tbl0 else if Nat.beq g 2 then some tbl1 else if Nat.beq g 0 then some tbl2 else none
set_option maxRecDepth 100000
theorem follows : Tryz.prog.follows .mixedOrders = true := by kernel_rfl
theorem noNumAll : (Tryz.prog.funcs.toList.all fun fn => !(fn.name == "runtime.NumGoroutine")) = true := by kernel_rfl
theorem noNum : NoNum Tryz.prog := ⟨fun g fn h => by
  have h1 := List.all_eq_true.1 noNumAll fn (Array.mem_toList_iff.2 (Array.mem_of_getElem? h))
  simpa using h1, of_decide_eq_true (by kernel_rfl)⟩
theorem n0 : Tryz.prog.globalNamed "cantilever/ast.shapes" = some 1 := by kernel_rfl
theorem ty0 : (Tryz.prog.globals[1]?).map (·.type) = some 121 := by kernel_rfl
theorem av0 : avOf Tryz.prog 6 121 (Rows.laid_cantilever_ast_shapes (H := Unit)) = some tbl0 := by kernel_rfl
theorem n1 : Tryz.prog.globalNamed "cantilever/ast.forms" = some 2 := by kernel_rfl
theorem ty1 : (Tryz.prog.globals[2]?).map (·.type) = some 124 := by kernel_rfl
theorem av1 : avOf Tryz.prog 6 124 (Rows.laid_cantilever_ast_forms (H := Unit)) = some tbl1 := by kernel_rfl
theorem n2 : Tryz.prog.globalNamed "cantilever/check.may" = some 0 := by kernel_rfl
theorem ty2 : (Tryz.prog.globals[0]?).map (·.type) = some 53 := by kernel_rfl
theorem av2 : avOf Tryz.prog 6 53 (Rows.laid_cantilever_check_may (H := Unit)) = some tbl2 := by kernel_rfl
theorem globs {W : World} (h : laidMetH Tryz.prog [("cantilever/ast.shapes", Rows.laid_cantilever_ast_shapes), ("cantilever/ast.forms", Rows.laid_cantilever_ast_forms), ("cantilever/check.may", Rows.laid_cantilever_check_may)] W) : GlOK gl (snap0 W) := by
  have h' : laidMet Tryz.prog [("cantilever/ast.shapes", Rows.laid_cantilever_ast_shapes), ("cantilever/ast.forms", Rows.laid_cantilever_ast_forms), ("cantilever/check.may", Rows.laid_cantilever_check_may)] W := h
  obtain ⟨_, hv, _⟩ := id h'
  obtain ⟨m0, _⟩ := laid_glob n0 ty0 av0 hv
  have h' := laidMet.tail h'
  obtain ⟨_, hv, _⟩ := id h'
  obtain ⟨m1, _⟩ := laid_glob n1 ty1 av1 hv
  have h' := laidMet.tail h'
  obtain ⟨_, hv, _⟩ := id h'
  obtain ⟨m2, _⟩ := laid_glob n2 ty2 av2 hv
  intro g cs hg
  unfold gl at hg
  split at hg
  · rename_i e; have := Nat.eq_of_beq_eq_true e; subst this; simp at hg; subst hg; exact m0
  split at hg
  · rename_i e; have := Nat.eq_of_beq_eq_true e; subst this; simp at hg; subst hg; exact m1
  split at hg
  · rename_i e; have := Nat.eq_of_beq_eq_true e; subst this; simp at hg; subst hg; exact m2
  cases hg
end Go.Proofs.YtblnhcafobifgaaGreatDoor.runLives
end


section

set_option linter.unusedVariables false
set_option linter.unusedSimpArgs false
namespace Go.Proofs.YtblnhcafobifgaaGreatDoor.lex
open Go.Abs Go.RowKit
set_option maxRecDepth 100000
set_option maxHeartbeats 4000000
def mayN (k o : Int) (p : Bool) : Int :=
  if k < 2 ∨ 7 < k then 2 else if o < 1 ∨ 6 < o then 7
  else if k = 7 then (if o = 1 ∨ o = 2 then 7 else 0)
  else if ((k = 4 ∨ k = 5 ∨ k = 6) ∧ p = true) ∨ p ≠ decide (o = 1) then 8
  else if (k = 2 ∧ (o = 4 ∨ o = 5)) ∨ (k = 3 ∧ (o = 3 ∨ o = 5)) then 7 else 0
theorem may_cases {k : Int} (h : ¬ (k < 2 ∨ 7 < k)) : k = 2 ∨ k = 3 ∨ k = 4 ∨ k = 5 ∨ k = 6 ∨ k = 7 := by omega
theorem ord_cases {o : Int} (h : ¬ (o < 1 ∨ 6 < o)) : o = 1 ∨ o = 2 ∨ o = 3 ∨ o = 4 ∨ o = 5 ∨ o = 6 := by omega
theorem mayX_ok (k o : Int) (p : Bool) : ValOK Tryz.prog runLives.gl 8 [.int .i64 k, .int .i64 o, .bool p] (.int .i64 (mayN k o p)) := by
  refine fn_val follows noNum none_sound Tryz.func8 rfl ?_
  by_cases hk : k < 2 ∨ 7 < k
  · have e : mayN k o p = 2 := by unfold mayN; rw [if_pos hk]
    rw [e]
    rcases hk with hk | hk
    · have e1 : decide (k < 2) = true := by simpa using hk
      repeat' ((conv => whnf); first | refine stp ?_ | with_reducible refine condB (fun h => ?_) (fun h => ?_))
      all_goals rfl
    · have e1 : decide (k < 2) = false := by simp; omega
      have e2 : decide (7 < k) = true := by simpa using hk
      repeat' ((conv => whnf); first | refine stp ?_ | with_reducible refine condB (fun h => ?_) (fun h => ?_))
      all_goals rfl
  · have e1 : decide (k < 2) = false := by simp; omega
    have e2 : decide (7 < k) = false := by simp; omega
    by_cases ho : o < 1 ∨ 6 < o
    · have e : mayN k o p = 7 := by unfold mayN; rw [if_neg hk, if_pos ho]
      rw [e]
      rcases ho with ho | ho
      · have e3 : decide (o < 1) = true := by simpa using ho
        repeat' ((conv => whnf); first | refine stp ?_ | with_reducible refine condB (fun h => ?_) (fun h => ?_))
        all_goals rfl
      · have e3 : decide (o < 1) = false := by simp; omega
        have e4 : decide (6 < o) = true := by simpa using ho
        repeat' ((conv => whnf); first | refine stp ?_ | with_reducible refine condB (fun h => ?_) (fun h => ?_))
        all_goals rfl
    · rcases may_cases hk with rfl | rfl | rfl | rfl | rfl | rfl
      all_goals rcases ord_cases ho with rfl | rfl | rfl | rfl | rfl | rfl
      all_goals cases p
      all_goals clear e1 e2 hk ho
      all_goals (repeat' ((conv => whnf); first | refine stp ?_ | with_reducible refine condB (fun h => ?_) (fun h => ?_)))
      all_goals rfl
end Go.Proofs.YtblnhcafobifgaaGreatDoor.lex
end


section

set_option linter.unusedVariables false
set_option linter.unusedSimpArgs false
namespace Go.Proofs.YtblnhcafobifgaaGreatDoor.lex
open Go.Abs Go.RowKit
set_option maxRecDepth 100000
set_option maxHeartbeats 4000000
def isWordF (f : Nat) (xs : List AV) : Option AV := match f with
  | 45 => match xs with | [.str s, .bool m] => if s.length ≤ 9223372036854775807 then some (.bool (if m then wordB s else s == [])) else none | _ => none
  | _ => none
theorem isWordF_sound {gl : Glob} : OrcSound Tryz.prog gl (orcZ isWordF) := orcZ_sound fun f xs r h => by
  unfold isWordF at h
  split at h
  · split at h <;> try (cases h; done)
    split at h <;> cases h
    rename_i hs
    exact ⟨rfl, isWord_ok _ hs _⟩
  · cases h
theorem wordB_nil : wordB [] = false := rfl
theorem rightX_ok (e : Ex) (rest : List AV) (d : Int) (hok : okE e) : ValOK Tryz.prog runLives.gl 47 [.rp (e.cells ++ rest), .int .i64 d] (.bool (ownE e)) := by
  obtain ⟨⟨hn1, hn2⟩, _⟩ := okE_kids hok
  have hb : hasBody Tryz.prog 45 = true := by kernel_rfl
  have key : ∀ (op num : Int) (name : List UInt8) (v : AV) (n : Nat), (∃ cs, v = .rs n 4 cs) → name.length ≤ 9223372036854775807 → ValOK Tryz.prog runLives.gl 47 [.rp (.int .i64 op :: .int .i64 num :: .str name :: v :: rest), .int .i64 d] (.bool (ownF op num name n)) := by
    intro op num name v n hv hname
    have q : ∀ (m : Bool) (H : AHeap), acall Tryz.prog (orcZ isWordF) H 45 [.str name, .bool m] = some (.bool (if m then wordB name else name == []), H) := fun m H => callZ hb rfl (by simp only [isWordF]; rw [if_pos hname])
    by_cases h1 : op < 1
    · have e1 : decide (op < 1) = true := by simpa using h1
      have hk : kidsI op = -1 := by unfold kidsI; rw [if_neg (by omega), if_neg (by omega), if_neg (by omega)]
      obtain ⟨cs, rfl⟩ := hv
      all_goals
        refine fn_val follows noNum isWordF_sound Tryz.func47 rfl ?_
        repeat' ((conv => whnf); first | (refine exI (q _ _) ?_) | (first | refine stp ?_ | with_reducible refine condB (fun h => ?_) (fun h => ?_)))
      all_goals (show AV.bool _ = AV.bool _; congr 1; unfold ownF; rw [hk])
      all_goals (first | rfl | (symm; simp; intros; omega))
    · have e1 : decide (op < 1) = false := by simpa using h1
      by_cases h2 : 16 < op
      · have e2 : decide (op > 16) = true := by simpa using h2
        have hk : kidsI op = -1 := by unfold kidsI; rw [if_neg (by omega), if_neg (by omega), if_neg (by omega)]
        obtain ⟨cs, rfl⟩ := hv
        all_goals
          refine fn_val follows noNum isWordF_sound Tryz.func47 rfl ?_
          repeat' ((conv => whnf); first | (refine exI (q _ _) ?_) | (first | refine stp ?_ | with_reducible refine condB (fun h => ?_) (fun h => ?_)))
        all_goals (show AV.bool _ = AV.bool _; congr 1; unfold ownF; rw [hk])
        all_goals (first | rfl | (symm; simp; intros; omega))
      · clear e1
        have hop : op = 1 ∨ op = 2 ∨ op = 3 ∨ op = 4 ∨ op = 5 ∨ op = 6 ∨ op = 7 ∨ op = 8 ∨ op = 9 ∨ op = 10 ∨ op = 11 ∨ op = 12 ∨ op = 13 ∨ op = 14 ∨ op = 15 ∨ op = 16 := by omega
        clear h1 h2
        rcases hop with rfl | rfl | rfl | rfl | rfl | rfl | rfl | rfl | rfl | rfl | rfl | rfl | rfl | rfl | rfl | rfl
        all_goals (obtain ⟨cs, rfl⟩ := hv)
        all_goals (refine fn_val follows noNum isWordF_sound Tryz.func47 rfl ?_)
        all_goals (repeat' ((conv => whnf); first | (refine exI (q _ _) ?_) | (first | refine stp ?_ | with_reducible refine condB (fun h => ?_) (fun h => ?_))))
        all_goals (first | rfl | (show AV.bool _ = AV.bool _; clear q hb hok hn1 hn2; simp_all [ownF, kidsI]; done) | (show AV.bool _ = AV.bool _; clear q hb hok hn1 hn2; simp_all [ownF, kidsI]; omega) | skip)
        all_goals (clear q hb hok hn1 hn2)
        all_goals (show AV.bool _ = AV.bool _; rw [AV.bool.injEq, Bool.eq_iff_iff])
        all_goals (first | (simp_all [ownF, kidsI, wordB_nil]; done) | (simp_all [ownF, kidsI, wordB_nil]; omega))
  obtain ⟨op, num, name, kids⟩ := e
  simp only [Ex.cells]; exact key op num name _ kids.length ⟨_, rfl⟩ hn1
end Go.Proofs.YtblnhcafobifgaaGreatDoor.lex
end


section

set_option linter.unusedVariables false
set_option linter.unusedSimpArgs false
namespace Go.Proofs.YtblnhcafobifgaaGreatDoor.lex
open Go.Abs Go.RowKit
set_option maxRecDepth 100000
set_option maxHeartbeats 4000000
theorem noI_of {sn : Snap} {ι : IMap} {W : World} (h : R sn ι [] W) : ι = noI := by
  funext b
  cases hb : ι b with
  | none => rfl
  | some p => have := (h.dom b).2 ⟨p, hb⟩; simp at this
theorem mem_of_val {P : Program} {gl : Glob} {f : Nat} {args : List AV} {r : AV} (h : ValOK P gl f args r) (hp : plain r = true) : MemOK P gl f args [] r [] := by
  intro sn ι W cargs hg hR ha
  have := noI_of hR; subst this
  refine (h sn W cargs hg hR ha).monoY ?_
  rintro e W' ⟨v, rfl, hx, hv⟩
  exact ⟨v, sn, noI, rfl, plain_VR hp hv, Stp.ext hR hx⟩
theorem val_of_mem {P : Program} {gl : Glob} {f : Nat} {args : List AV} {r : AV} (h : MemOK P gl f args [] r []) (hp : plain r = true) (hb : (P.funcs[f]?).isSome = true := by kernel_rfl) : ValOK P gl f args r := by
  intro sn W cargs hg hR ha
  obtain ⟨fn, hfn⟩ := Option.isSome_iff_exists.1 hb
  refine ((h sn noI W cargs hg hR ha).calls hfn).mono ?_
  rintro e W' ⟨v, sn', ι', rfl, hv, hs⟩
  exact ⟨v, rfl, ⟨fun c hc => hs.frame c hc fun b o p hb => by simp at hb, hs.size, hs.os, hs.tape, hs.output⟩, plain_VR hp hv⟩
def rE (e : Ex) (_ : Int) (s : Unit) : Bool × Unit := (ownE e, s)
mutual
theorem goE_r : ∀ (e : Ex) (d : Int) (s : Unit), goE rE e d s = (rightE e, ())
  | .mk o n s k, d, t => by
    have := goL_r k (d + 1) ()
    simp only [goE, rE, ownE, Ex.op, Ex.num, Ex.name, Ex.kids, rightE, this]
    cases ownF o n s k.length <;> rfl
theorem goL_r : ∀ (l : List Ex) (d : Int) (s : Unit), goL rE l d s = (rightL l, ())
  | [], d, s => by simp only [goL, rightL]
  | e :: l, d, s => by
    simp only [goL, goE_r e d s, goL_r l d (), rightL]
    cases rightE e <;> rfl
end
def cE (_ : Ex) (d : Int) (n : Nat) : Bool × Nat := (decide (((n + 1 : Nat) : Int) ≤ 2000) && decide (d ≤ 32), n + 1)
def Cnt (r : Bool × Nat) (n a : Nat) (D : Int) : Prop := (r.1 = true ↔ n + a ≤ 2000 ∧ D ≤ 33) ∧ (r.1 = true → r.2 = n + a)
theorem cnt_then {r : Bool × Nat} {f : Nat → Bool × Nat} {n a b : Nat} {D1 D2 : Int} (h1 : Cnt r n a D1) (h2 : n + a ≤ 2000 → D1 ≤ 33 → Cnt (f (n + a)) (n + a) b D2) : Cnt (thenB r f) n (a + b) (max D1 D2) := by
  obtain ⟨g1, g2⟩ := h1
  unfold thenB
  by_cases h : r.1 = true
  · rw [if_pos h, g2 h]
    have h3 := g1.1 h
    obtain ⟨k1, k2⟩ := h2 h3.1 h3.2
    refine ⟨?_, fun h4 => by rw [k2 h4]; omega⟩
    rw [k1]
    constructor <;> (intro h; omega)
  · rw [if_neg h]
    refine ⟨⟨fun h => (by cases h), fun h3 => absurd (g1.2 (by omega)) h⟩, fun h => (by cases h)⟩
theorem cnt_one (d : Int) (n : Nat) : Cnt (decide (((n + 1 : Nat) : Int) ≤ 2000) && decide (d ≤ 32), n + 1) n 1 (d + 1) := by
  refine ⟨?_, fun _ => rfl⟩
  simp only [Bool.and_eq_true, decide_eq_true_eq]
  constructor <;> (intro h; omega)
theorem Cnt.to {r : Bool × Nat} {n a b : Nat} {D E : Int} (h : Cnt r n a D) (e1 : a = b) (e2 : D = E) : Cnt r n b E := by subst e1; subst e2; exact h
mutual
theorem goE_c : ∀ (e : Ex) (d : Int) (n : Nat), Cnt (goE cE e d n) n (sizeE e) (d + deepE e)
  | .mk o num s k, d, n => by
    have : goE cE (.mk o num s k) d n = thenB (cE (.mk o num s k) d n) fun n => goL cE k (d + 1) n := by simp only [goE, thenB]
    rw [this]
    exact (cnt_then (cnt_one d n) fun h1 h2 => goL_c k (d + 1) (n + 1) h1 h2).to (by simp only [sizeE]) (by simp only [deepE]; omega)
theorem goL_c : ∀ (l : List Ex) (d : Int) (n : Nat), n ≤ 2000 → d ≤ 33 → Cnt (goL cE l d n) n (sizeL l) (d + deepL l)
  | [], d, n, h1, h2 => by simp only [goL, sizeL, deepL]; exact ⟨⟨fun _ => by omega, fun _ => rfl⟩, fun _ => rfl⟩
  | e :: l, d, n, h1, h2 => by
    have : goL cE (e :: l) d n = thenB (goE cE e d n) fun n => goL cE l d n := by simp only [goL, thenB]
    rw [this]
    exact (cnt_then (goE_c e d n) fun h1 _ => goL_c l d _ h1 h2).to (by simp only [sizeL]) (by simp only [deepL]; omega)
end
end Go.Proofs.YtblnhcafobifgaaGreatDoor.lex
end


section

set_option linter.unusedVariables false
set_option linter.unusedSimpArgs false
namespace Go.Proofs.YtblnhcafobifgaaGreatDoor.lex
open Go.Abs Go.RowKit
set_option maxRecDepth 100000
set_option maxHeartbeats 4000000
def rgE : Nat → List (List UInt8) → List (AV × AV × Nat)
  | _, [] => []
  | i, s :: l => (.str s, .agg [], i) :: rgE (i + 1) l
def rgH (n : List (List UInt8)) : AHeap := [⟨true, 0, 0, .map (rgE 0 n) n.length⟩, ⟨true, 1, 0, .cells [.map 0] 91⟩, ⟨true, 2, 0, .cells [.func (.func 53) [] [.ptr 1 0]] 93⟩]
theorem rgE_inj : ∀ {a b : List (List UInt8)} {i : Nat}, rgE i a = rgE i b → a = b
  | [], [], _, _ => rfl
  | [], _ :: _, _, h => by simp [rgE] at h
  | _ :: _, [], _, h => by simp [rgE] at h
  | x :: a, y :: b, i, h => by
    simp only [rgE, List.cons.injEq, Prod.mk.injEq, AV.str.injEq, and_true] at h
    rw [h.1, rgE_inj h.2]
theorem rgH_inj {a b : List (List UInt8)} (h : rgH a = rgH b) : a = b := by
  simp only [rgH, List.cons.injEq, AObj.mk.injEq, ABody.map.injEq, and_true, true_and] at h
  exact rgE_inj h.1
theorem rgE_app (s : List UInt8) : ∀ (a : List (List UInt8)) (i : Nat), rgE i (a ++ [s]) = rgE i a ++ [(.str s, .agg [], i + a.length)]
  | [], i => rfl
  | x :: a, i => by
    simp only [List.cons_append, rgE, rgE_app s a (i + 1), List.length_cons]
    rw [show i + 1 + a.length = i + (a.length + 1) by omega]
theorem rg_find (s : List UInt8) : ∀ (a : List (List UInt8)) (i j : Nat), a.contains s = false → aFind .string (.str s) (rgE i a) j = some none
  | [], i, j, h => rfl
  | x :: a, i, j, h => by
    simp only [List.contains_cons, Bool.or_eq_false_iff] at h
    simp only [rgE, aFind, aSame, h.1]
    exact rg_find s a (i + 1) (j + 1) h.2
theorem rg_found (s : List UInt8) : ∀ (a : List (List UInt8)) (i j : Nat), a.contains s = true → ∃ k v, aFind .string (.str s) (rgE i a) j = some (some (j + k, v)) ∧ mset (.str s) (.agg []) k (rgE i a) = rgE i a
  | [], i, j, h => by simp at h
  | x :: a, i, j, h => by
    simp only [List.contains_cons, Bool.or_eq_true] at h
    cases hx : (s == x) with
    | true =>
      refine ⟨0, .agg [], by simp only [rgE, aFind, aSame, hx]; rfl, ?_⟩
      have : s = x := by simpa using hx
      subst this; rfl
    | false =>
      rw [hx] at h
      obtain ⟨k, v, h1, h2⟩ := rg_found s a (i + 1) (j + 1) (by simpa using h)
      refine ⟨k + 1, v, ?_, ?_⟩
      · simp only [rgE, aFind, aSame, hx]; rw [h1, show j + 1 + k = j + (k + 1) by omega]
      · simp only [rgE, mset, h2]
def rgP (s : List UInt8) (n : List (List UInt8)) : List (List UInt8) := if n.contains s = true then n else n ++ [s]
theorem rg_set (s : List UInt8) (n : List (List UInt8)) : aMapSet Tryz.prog 91 (.map 0) (.str s) (.agg []) (rgH n) = some (rgH (rgP s n)) := by
  have hd : keyDesc Tryz.prog 91 = some (.string, 92) := by kernel_rfl
  have hw : wkil 0 0 (rgH n) = rgH n := wkil_lone (o := ⟨true, 0, 0, .map (rgE 0 n) n.length⟩) rfl rfl
  unfold aMapSet
  simp only [hd]
  have h0 : (rgH n)[0]? = some ⟨true, 0, 0, .map (rgE 0 n) n.length⟩ := rfl
  simp only [h0, hw]
  cases h : n.contains s with
  | false =>
    rw [rg_find s n 0 0 h]
    simp only [rgP, h]
    rw [if_neg (by decide)]
    simp only [rgH, rgE_app, List.set_cons_zero, Nat.zero_add, List.length_append, List.length_cons, List.length_nil]
  | true =>
    obtain ⟨k, v, h1, h2⟩ := rg_found s n 0 0 h
    rw [h1]
    simp only [rgP, h, if_true, Nat.zero_add, h2]
    rfl
theorem rgE_refs : ∀ (n : List (List UInt8)) (i : Nat), refsB (.map (rgE i n) i) [] = []
  | [], i => rfl
  | x :: n, i => rgE_refs n (i + 1)
theorem rgE_ge (m : List Nat) : ∀ (n : List (List UInt8)) (i : Nat), EGe m (rgE i n) (rgE i n)
  | [], i => trivial
  | x :: n, i => ⟨Wk.noref rfl, Wk.noref rfl, rfl, rgE_ge m n (i + 1)⟩
theorem rg_evo (s s' : List (List UInt8)) : evoB 3 (rgH s) (rgH s') = true := by
  have h : ∀ c, refsB (.map (rgE 0 s') c) [] = [] := fun c => rgE_refs s' 0
  simp only [rgH, evoB, h]; rfl
def rgI (d : Int) (_ : List (List UInt8)) (m : Nat) : Prop := 0 ≤ d ∧ d + (m : Int) ≤ 576460752303423488
def rgN (s : List UInt8) (n : List (List UInt8)) : List (List UInt8) := cond (s == []) n (rgP s n)
theorem cell_op (x : Ex) (rest : List AV) : tk 1 ((x.cells ++ rest).drop 0) = some [.int .i64 x.op] := by
  obtain ⟨o, n, s, k⟩ := x
  rfl
theorem cell_nm (x : Ex) (rest : List AV) : tk 1 ((x.cells ++ rest).drop 2) = some [.str x.name] := by
  obtain ⟨o, n, s, k⟩ := x
  rfl
theorem rg3_ok (x : St) (rest : List AV) (d : Int) (n : List (List UInt8)) : MemOK Tryz.prog runLives.gl 55 [.rp (x.cells ++ rest), .int .i64 d, .ptr 2 0] (rgH n) (.bool true) (rgH (rgN x.name n)) := by
  have hx := cell_n x rest
  refine fn_mem (k := 3) follows noNum (orcN_sound follows noNum isWordF_sound 3) rfl Tryz.func55 rfl (wcall_ok (isC := fun _ => false) 3) ?_
  have he := rg_evo n (rgN x.name n)
  have hset := rg_set x.name n
  unfold rgN at he ⊢
  generalize x.name = s at *
  generalize x.cells ++ rest = cs at *
  cases hs : (s == []) with
  | true =>
    rw [hs, cond_true] at he
    rw [cond_true]
    have e1 : (!(s == [])) = false := by rw [hs]; rfl
    repeat' ((conv => whnf); first | (refine exI hx ?_) | (first | refine stp ?_ | with_reducible refine condB (fun h => ?_) (fun h => ?_)))
    all_goals (conv => whnf)
    all_goals (exact ⟨rfl, by rw [he]; rfl⟩)
  | false =>
    rw [hs, cond_false] at he
    rw [cond_false]
    have e1 : (!(s == [])) = true := by rw [hs]; rfl
    simp only [rgH] at hset he ⊢
    generalize rgE 0 (rgP s n) = es' at *
    generalize (rgP s n).length = c' at *
    repeat' ((conv => whnf); first | (refine exI hx ?_) | (refine exI hset ?_) | (first | refine stp ?_ | with_reducible refine condB (fun h => ?_) (fun h => ?_)))
    all_goals (conv => whnf)
    all_goals (exact ⟨rfl, by rw [he]; rfl⟩)
end Go.Proofs.YtblnhcafobifgaaGreatDoor.lex
end


section

namespace Go.Proofs.YtblnhcafobifgaaGreatDoor.shelf
open Go.Shelf Go.RowKit Go.Maps Go.Sort
def keys57_ren : Go.Shelf.Ren := ⟨fun | 7 => 57 | 10 => 78 | n => n, fun | 23 => 91 | 26 => 9 | 3 => 92 | 28 => 98 | 0 => 0 | 27 => 97 | 33 => 93 | 4 => 4 | n => n, fun | n => n⟩
theorem keys57 : Go.Proofs.SlLaysZ.n7 Tryz.prog keys57_ren := {
  mixed := by kernel_rfl
  f7 := ⟨Tryz.f57.name, by decide, Tryz.func57.trans (congrArg some (by kernel_rfl))⟩
  f10 := ⟨Tryz.f78.name, by decide, Tryz.func78.trans (congrArg some (by kernel_rfl))⟩
  t0 := Tryz.underlying0
  a0 := Tryz.isAgg0
  z0 := Tryz.sizeOf0
  v0 := Tryz.zeroValue0
  t4 := Tryz.underlying4
  a4 := Tryz.isAgg4
  z4 := Tryz.sizeOf4
  v4 := Tryz.zeroValue4
  t23 := Tryz.underlying91
  a23 := Tryz.isAgg91
  z23 := Tryz.sizeOf91
  v23 := Tryz.zeroValue91
  t26 := Tryz.underlying9
  a26 := Tryz.isAgg9
  z26 := Tryz.sizeOf9
  v26 := Tryz.zeroValue9
  t27 := Tryz.underlying97
  a27 := Tryz.isAgg97
  z27 := Tryz.sizeOf97
  v27 := Tryz.zeroValue97
  t28 := Tryz.underlying98
  a28 := Tryz.isAgg98
  z28 := Tryz.sizeOf98
  v28 := Tryz.zeroValue98
  t33 := Tryz.underlying93
  a33 := Tryz.isAgg93
  z33 := Tryz.sizeOf93
  v33 := Tryz.zeroValue93 }
def sorted56_ren : Go.Shelf.Ren := ⟨fun | 6 => 56 | 8 => 76 | 9 => 77 | 11 => 92 | 13 => 94 | 12 => 93 | 23 => 117 | 24 => 118 | 14 => 108 | 15 => 109 | 16 => 110 | 17 => 111 | 18 => 112 | 19 => 113 | 20 => 114 | 21 => 115 | 22 => 116 | 25 => 124 | 26 => 125 | 27 => 126 | 28 => 127 | 29 => 128 | 30 => 129 | 31 => 133 | n => n, fun | 26 => 9 | 28 => 98 | 24 => 42 | 0 => 0 | 3 => 3 | 37 => 144 | 48 => 161 | 50 => 163 | 4 => 4 | 40 => 154 | 39 => 153 | 45 => 114 | 5 => 5 | 9 => 9 | 51 => 168 | 55 => 172 | 57 => 177 | 58 => 178 | 33 => 93 | n => n, fun | n => n⟩
theorem sorted56 : Go.Proofs.SlLaysZ.n6 Tryz.prog sorted56_ren := {
  mixed := by kernel_rfl
  f6 := ⟨Tryz.f56.name, by decide, Tryz.func56.trans (congrArg some (by kernel_rfl))⟩
  f8 := ⟨Tryz.f76.name, by decide, Tryz.func76.trans (congrArg some (by kernel_rfl))⟩
  f11 := ⟨Tryz.f92.name, by decide, Tryz.func92.trans (congrArg some (by kernel_rfl))⟩
  t0 := Tryz.underlying0
  a0 := Tryz.isAgg0
  z0 := Tryz.sizeOf0
  v0 := Tryz.zeroValue0
  t24 := Tryz.underlying42
  a24 := Tryz.isAgg42
  z24 := Tryz.sizeOf42
  v24 := Tryz.zeroValue42
  t26 := Tryz.underlying9
  a26 := Tryz.isAgg9
  z26 := Tryz.sizeOf9
  v26 := Tryz.zeroValue9
  t28 := Tryz.underlying98
  a28 := Tryz.isAgg98
  z28 := Tryz.sizeOf98
  v28 := Tryz.zeroValue98
  i26 := by kernel_rfl }
def sort77_ren : Go.Shelf.Ren := ⟨fun | 6 => 77 | 8 => 94 | 9 => 93 | 19 => 117 | 20 => 118 | 21 => 108 | 22 => 109 | 23 => 110 | 24 => 111 | 25 => 112 | 26 => 113 | 27 => 114 | 28 => 115 | 29 => 116 | 36 => 124 | 31 => 125 | 32 => 126 | 37 => 127 | 38 => 128 | 39 => 129 | 41 => 133 | n => n, fun | 27 => 42 | 29 => 9 | 3 => 3 | 32 => 144 | 26 => 42 | 0 => 0 | 44 => 161 | 46 => 163 | 4 => 4 | 36 => 154 | 35 => 153 | 41 => 114 | 5 => 5 | 9 => 9 | 53 => 168 | 57 => 172 | 63 => 177 | 64 => 178 | n => n, fun | n => n⟩
theorem sort77 : Go.Proofs.SlLaysM.n6 Tryz.prog sort77_ren := {
  mixed := by kernel_rfl
  f6 := ⟨Tryz.f77.name, by decide, Tryz.func77.trans (congrArg some (by kernel_rfl))⟩
  f8 := Tryz.func94.trans (congrArg some (by kernel_rfl))
  f9 := ⟨Tryz.f93.name, by decide, Tryz.func93.trans (congrArg some (by kernel_rfl))⟩
  f19 := Tryz.func117.trans (congrArg some (by kernel_rfl))
  f20 := Tryz.func118.trans (congrArg some (by kernel_rfl))
  f21 := ⟨Tryz.f108.name, by decide, Tryz.func108.trans (congrArg some (by kernel_rfl))⟩
  f22 := ⟨Tryz.f109.name, by decide, Tryz.func109.trans (congrArg some (by kernel_rfl))⟩
  f23 := ⟨Tryz.f110.name, by decide, Tryz.func110.trans (congrArg some (by kernel_rfl))⟩
  f24 := ⟨Tryz.f111.name, by decide, Tryz.func111.trans (congrArg some (by kernel_rfl))⟩
  f25 := ⟨Tryz.f112.name, by decide, Tryz.func112.trans (congrArg some (by kernel_rfl))⟩
  f26 := ⟨Tryz.f113.name, by decide, Tryz.func113.trans (congrArg some (by kernel_rfl))⟩
  f27 := ⟨Tryz.f114.name, by decide, Tryz.func114.trans (congrArg some (by kernel_rfl))⟩
  f28 := ⟨Tryz.f115.name, by decide, Tryz.func115.trans (congrArg some (by kernel_rfl))⟩
  f29 := ⟨Tryz.f116.name, by decide, Tryz.func116.trans (congrArg some (by kernel_rfl))⟩
  f31 := Tryz.func125.trans (congrArg some (by kernel_rfl))
  f32 := Tryz.func126.trans (congrArg some (by kernel_rfl))
  f36 := ⟨Tryz.f124.name, by decide, Tryz.func124.trans (congrArg some (by kernel_rfl))⟩
  f37 := ⟨Tryz.f127.name, by decide, Tryz.func127.trans (congrArg some (by kernel_rfl))⟩
  f38 := ⟨Tryz.f128.name, by decide, Tryz.func128.trans (congrArg some (by kernel_rfl))⟩
  f39 := ⟨Tryz.f129.name, by decide, Tryz.func129.trans (congrArg some (by kernel_rfl))⟩
  f41 := ⟨Tryz.f133.name, by decide, Tryz.func133.trans (congrArg some (by kernel_rfl))⟩
  t0 := Tryz.underlying0
  a0 := Tryz.isAgg0
  z0 := Tryz.sizeOf0
  v0 := Tryz.zeroValue0
  t3 := Tryz.underlying3
  a3 := Tryz.isAgg3
  z3 := Tryz.sizeOf3
  v3 := Tryz.zeroValue3
  t4 := Tryz.underlying4
  a4 := Tryz.isAgg4
  z4 := Tryz.sizeOf4
  v4 := Tryz.zeroValue4
  t5 := Tryz.underlying5
  a5 := Tryz.isAgg5
  z5 := Tryz.sizeOf5
  v5 := Tryz.zeroValue5
  t9 := Tryz.underlying9
  a9 := Tryz.isAgg9
  z9 := Tryz.sizeOf9
  v9 := Tryz.zeroValue9
  t26 := Tryz.underlying42
  a26 := Tryz.isAgg42
  z26 := Tryz.sizeOf42
  v26 := Tryz.zeroValue42
  t27 := Tryz.underlying42
  a27 := Tryz.isAgg42
  z27 := Tryz.sizeOf42
  v27 := Tryz.zeroValue42
  t29 := Tryz.underlying9
  a29 := Tryz.isAgg9
  z29 := Tryz.sizeOf9
  v29 := Tryz.zeroValue9
  t32 := Tryz.underlying144
  a32 := Tryz.isAgg144
  z32 := Tryz.sizeOf144
  v32 := Tryz.zeroValue144
  t35 := Tryz.underlying153
  a35 := Tryz.isAgg153
  z35 := Tryz.sizeOf153
  v35 := Tryz.zeroValue153
  t36 := Tryz.underlying154
  a36 := Tryz.isAgg154
  z36 := Tryz.sizeOf154
  v36 := Tryz.zeroValue154
  t41 := Tryz.underlying114
  a41 := Tryz.isAgg114
  z41 := Tryz.sizeOf114
  v41 := Tryz.zeroValue114
  t44 := Tryz.underlying161
  a44 := Tryz.isAgg161
  z44 := Tryz.sizeOf161
  v44 := Tryz.zeroValue161
  t46 := Tryz.underlying163
  a46 := Tryz.isAgg163
  z46 := Tryz.sizeOf163
  v46 := Tryz.zeroValue163
  t53 := Tryz.underlying168
  a53 := Tryz.isAgg168
  z53 := Tryz.sizeOf168
  v53 := Tryz.zeroValue168
  t57 := Tryz.underlying172
  a57 := Tryz.isAgg172
  z57 := Tryz.sizeOf172
  v57 := Tryz.zeroValue172
  t63 := Tryz.underlying177
  a63 := Tryz.isAgg177
  z63 := Tryz.sizeOf177
  v63 := Tryz.zeroValue177
  t64 := Tryz.underlying178
  a64 := Tryz.isAgg178
  z64 := Tryz.sizeOf178
  v64 := Tryz.zeroValue178 }
theorem sorts (m : Nat) : AnyZ.SortsIn Tryz.prog sorted56_ren Fence.wide m :=
  ⟨fun blk off cap ss W hH hblk hsz => callsIn_wide.2 (AnyM.slices_Sort_string sort77 blk off cap ss W hH hblk hsz),
   fun p cap W => callsIn_wide.2 (AnyM.slices_Sort_string_none sort77 p cap W)⟩
set_option maxHeartbeats 1000000 in
theorem sortsKeys : Go.Abs.SortsKeys Tryz.prog 56 78 9 := by
  intro Bm b nn D0 R W hcell hown hmax hbytes
  have hBm : Bm < W.heap.size := by
    by_cases h : Bm < W.heap.size
    · exact h
    · have h2 : W.heap[Bm]? = none := Array.getElem?_eq_none (by omega)
      simp [World.cell?, h2] at hcell
  have hseq : SeqGives Fence.wide 2 Tryz.prog 78 #[.pointer (some ⟨Bm, 0, none⟩)] encStr (fun ss => ss.Perm (strKeys D0)) (Maps.size D0) W :=
    AnyZ.keys_gives (ρ := keys57_ren) { keys57 with } Fence.wide _ trivial rfl (by omega) Bm b nn D0 W hBm hcell hown
  exact callsIn_wide.1 (AnyZ.sorted_in sorted56 Fence.wide 5 trivial trivial trivial trivial rfl (by omega) (sorts _) (enters_of Tryz.func77 (by kernel_rfl) rfl) 78 #[.pointer (some ⟨Bm, 0, none⟩)] trivial (enters_of Tryz.func78 (by kernel_rfl) rfl) _ _ hmax hbytes W hseq)
theorem keyT : Tryz.prog.underlying 9 = some .string := by kernel_rfl
theorem sound {gl : Go.Abs.Glob} : Go.Abs.OrcSound Tryz.prog gl (Go.Abs.sortO 56 78) := Go.Abs.sortO_sound sortsKeys keyT
end Go.Proofs.YtblnhcafobifgaaGreatDoor.shelf
end


section

set_option linter.unusedVariables false
set_option linter.unusedSimpArgs false
namespace Go.Proofs.YtblnhcafobifgaaGreatDoor.lex
open Go.Abs Go.RowKit
set_option maxRecDepth 100000
set_option maxHeartbeats 4000000
theorem rg2_ok (x : Ex) (rest : List AV) (d : Int) (n : List (List UInt8)) : MemOK Tryz.prog runLives.gl 54 [.rp (x.cells ++ rest), .int .i64 d, .ptr 2 0] (rgH n) (.bool true) (rgH (cond (x.op == 2) (rgN x.name n) n)) := by
  have hx := cell_op x rest
  have hx2 := cell_nm x rest
  refine fn_mem (k := 3) follows noNum (orcN_sound follows noNum isWordF_sound 3) rfl Tryz.func54 rfl (wcall_ok (isC := fun _ => false) 3) ?_
  have he := rg_evo n (cond (x.op == 2) (rgN x.name n) n)
  have hset := rg_set x.name n
  unfold rgN at he ⊢
  generalize x.name = s at *
  generalize x.op = o at *
  generalize x.cells ++ rest = cs at *
  cases ho : (o == 2) with
  | false =>
    rw [ho, cond_false] at he
    rw [cond_false]
    have e1 : (o != 2) = true := bne_of (b := false) ho
    repeat' ((conv => whnf); first | (refine exI hx ?_) | (refine exI hx2 ?_) | (first | refine stp ?_ | with_reducible refine condB (fun h => ?_) (fun h => ?_)))
    all_goals (conv => whnf)
    all_goals (exact ⟨rfl, by rw [he]; rfl⟩)
  | true =>
    rw [ho, cond_true] at he
    rw [cond_true]
    have e0 : (o != 2) = false := bne_of (b := true) ho
    cases hs : (s == []) with
    | true =>
      rw [hs, cond_true] at he
      rw [cond_true]
      have e1 : (!(s == [])) = false := by rw [hs]; rfl
      repeat' ((conv => whnf); first | (refine exI hx ?_) | (refine exI hx2 ?_) | (first | refine stp ?_ | with_reducible refine condB (fun h => ?_) (fun h => ?_)))
      all_goals (conv => whnf)
      all_goals (exact ⟨rfl, by rw [he]; rfl⟩)
    | false =>
      rw [hs, cond_false] at he
      rw [cond_false]
      have e1 : (!(s == [])) = true := by rw [hs]; rfl
      simp only [rgH] at hset he ⊢
      generalize rgE 0 (rgP s n) = es' at *
      generalize (rgP s n).length = c' at *
      repeat' ((conv => whnf); first | (refine exI hx ?_) | (refine exI hx2 ?_) | (refine exI hset ?_) | (first | refine stp ?_ | with_reducible refine condB (fun h => ?_) (fun h => ?_)))
      all_goals (conv => whnf)
      all_goals (exact ⟨rfl, by rw [he]; rfl⟩)
def rgEf (x : Ex) (_ : Int) (n : List (List UInt8)) : Bool × List (List UInt8) := (true, cond (x.op == 2) (rgN x.name n) n)
def rgSf (x : St) (_ : Int) (n : List (List UInt8)) : Bool × List (List UInt8) := (true, rgN x.name n)
def rgV : TvS runLives.gl where
  σ := List (List UInt8)
  Mem := rgH
  k := 3
  len := fun _ => rfl
  same := fun s => ⟨⟨⟨rfl, rfl, rfl, rfl, ⟨rfl, rgE_ge _ s 0⟩⟩, ⟨rfl, rfl, rfl, rfl, BodyGe.cellsL ⟨Wk.map rfl, trivial⟩⟩, ⟨rfl, rfl, rfl, rfl, BodyGe.cellsL ⟨Wk.func trivial ⟨Wk.ptr rfl rfl, trivial⟩, trivial⟩⟩, trivial⟩, rfl, rfl⟩
  evo := fun s s' => rg_evo s s'
  inj := fun _ _ h => rgH_inj h
  I := rgI
  up := fun d s m h0 h => ⟨h0, by have := h.2; omega⟩
  less := fun d s m h => ⟨h.1, by have := h.2; omega⟩
  bnd := fun d s m h => ⟨h.1, by have := h.2; omega⟩
  gE := 54
  cE := [.ptr 2 0]
  hE := rgEf
  bodyE := by kernel_rfl
  wkE := ⟨Wk.ptr rfl rfl, trivial⟩
  okE := fun e rest d s m _ h => rg2_ok e rest d s
  downE := fun e d s m h _ => ⟨by have := h.1; omega, by have := h.2; omega⟩
  gS := 55
  cS := [.ptr 2 0]
  hS := rgSf
  bodyS := by kernel_rfl
  wkS := ⟨Wk.ptr rfl rfl, trivial⟩
  okS := fun x rest d s m _ h => rg3_ok x rest d s
  downS := fun e d s m h _ => ⟨by have := h.1; omega, by have := h.2; omega⟩
mutual
def nmE : Ex → List (List UInt8)
  | .mk o _ s k => (cond (o == 2 && !(s == [])) [s] []) ++ nmL k
def nmL : List Ex → List (List UInt8)
  | [] => []
  | e :: l => nmE e ++ nmL l
end
mutual
def nmS : St → List (List UInt8)
  | .mk _ n _ _ x t e => (cond (!(n == [])) [n] []) ++ (nmL x ++ (nmSL t ++ nmSL e))
def nmSL : List St → List (List UInt8)
  | [] => []
  | x :: l => nmS x ++ nmSL l
end
def addA (l : List (List UInt8)) (n : List (List UInt8)) : List (List UInt8) := l.foldl (fun n s => rgP s n) n
theorem addA_app (a b n : List (List UInt8)) : addA (a ++ b) n = addA b (addA a n) := List.foldl_append
theorem rgN_add (b : Bool) (s : List UInt8) (n : List (List UInt8)) : cond b (rgN s n) n = addA (cond (b && !(s == [])) [s] []) n := by
  unfold rgN
  cases b <;> cases (s == []) <;> rfl
mutual
theorem goE_rg : ∀ (e : Ex) (d : Int) (n : List (List UInt8)), goE rgEf e d n = (true, addA (nmE e) n)
  | .mk o m s k, d, n => by
    simp only [goE, rgEf, if_true, Ex.op, Ex.name]
    rw [goL_rg k (d + 1), rgN_add, nmE, addA_app]
theorem goL_rg : ∀ (l : List Ex) (d : Int) (n : List (List UInt8)), goL rgEf l d n = (true, addA (nmL l) n)
  | [], d, n => by simp only [goL, nmL]; rfl
  | e :: l, d, n => by
    simp only [goL, goE_rg e d n, if_true, goL_rg l d, nmL, addA_app]
end
mutual
theorem goS_rg : ∀ (x : St) (d : Int) (n : List (List UInt8)), goS rgEf rgSf x d n = (true, addA (nmS x) n)
  | .mk k m lc o x t e, d, n => by
    have h := rgN_add true m n
    simp only [cond_true, Bool.true_and] at h
    simp only [goS]
    rw [show rgSf (.mk k m lc o x t e) d n = (true, rgN m n) from rfl, h]
    simp only [thenB, goL_rg, if_true, goSL_rg t, goSL_rg e, nmS, addA_app]
theorem goSL_rg : ∀ (l : List St) (d : Int) (n : List (List UInt8)), goSL rgEf rgSf l d n = (true, addA (nmSL l) n)
  | [], d, n => by simp only [goSL, nmSL]; rfl
  | e :: l, d, n => by
    simp only [goSL, thenB, goS_rg e d n, if_true, goSL_rg l d, nmSL, addA_app]
end
theorem rgP_nodup {s : List UInt8} {n : List (List UInt8)} (h : n.Nodup) : (rgP s n).Nodup := by
  unfold rgP
  split
  · exact h
  · rename_i hc
    have hm : s ∉ n := by simpa using hc
    exact List.nodup_append.2 ⟨h, by simp, fun a ha b hb => by simp at hb; subst hb; exact fun e => hm (e ▸ ha)⟩
theorem addA_nodup : ∀ (l n : List (List UInt8)), n.Nodup → (addA l n).Nodup
  | [], n, h => h
  | s :: l, n, h => addA_nodup l (rgP s n) (rgP_nodup h)
theorem rgP_mem {s x : List UInt8} {n : List (List UInt8)} : x ∈ rgP s n ↔ x ∈ n ∨ x = s := by
  unfold rgP
  split
  · rename_i hc
    have hm : s ∈ n := by simpa using hc
    exact ⟨.inl, fun h => h.elim id (fun e => e ▸ hm)⟩
  · simp
theorem addA_mem {x : List UInt8} : ∀ {l n : List (List UInt8)}, x ∈ addA l n ↔ x ∈ n ∨ x ∈ l
  | [], n => by simp [addA]
  | s :: l, n => by
    have := addA_mem (x := x) (l := l) (n := rgP s n)
    rw [rgP_mem] at this
    show x ∈ addA l (rgP s n) ↔ _
    rw [this]; simp only [List.mem_cons]; exact or_assoc
theorem addA_len : ∀ (l n : List (List UInt8)), (addA l n).length ≤ n.length + l.length
  | [], n => by simp [addA]
  | s :: l, n => by
    have := addA_len l (rgP s n)
    have h2 : (rgP s n).length ≤ n.length + 1 := by unfold rgP; split <;> simp
    show (addA l (rgP s n)).length ≤ _
    simp only [List.length_cons]; omega
mutual
theorem nmE_len : ∀ e : Ex, (nmE e).length ≤ sizeE e
  | .mk o m s k => by
    have := nmL_len k
    simp only [nmE, sizeE, List.length_append]
    cases (o == 2 && !(s == [])) <;> simp <;> omega
theorem nmL_len : ∀ l : List Ex, (nmL l).length ≤ sizeL l
  | [] => by simp [nmL]
  | e :: l => by have := nmE_len e; have := nmL_len l; simp only [nmL, sizeL, List.length_append]; omega
end
mutual
theorem nmS_len : ∀ e : St, (nmS e).length ≤ sizeS e
  | .mk k n lc o x t e => by
    have := nmL_len x; have := nmSL_len t; have := nmSL_len e
    simp only [nmS, sizeS, List.length_append]
    cases (!(n == [])) <;> simp <;> omega
theorem nmSL_len : ∀ l : List St, (nmSL l).length ≤ sizeSL l
  | [] => by simp [nmSL]
  | e :: l => by have := nmS_len e; have := nmSL_len l; simp only [nmSL, sizeSL, List.length_append]; omega
end
mutual
theorem nmE_ok : ∀ {e : Ex}, okE e → ∀ x ∈ nmE e, x.length ≤ 9223372036854775807
  | .mk o m s k, h, x, hx => by
    have h1 := okE_kids h
    simp only [Ex.name, Ex.kids, okN] at h1
    simp only [nmE, List.mem_append] at hx
    rcases hx with hx | hx
    · cases hb : (o == 2 && !(s == [])) with
      | true => rw [hb] at hx; simp at hx; subst hx; exact h1.1.1
      | false => rw [hb] at hx; simp at hx
    · exact nmL_ok h1.2 x hx
theorem nmL_ok : ∀ {l : List Ex}, okL l → ∀ x ∈ nmL l, x.length ≤ 9223372036854775807
  | [], h, x, hx => by simp [nmL] at hx
  | e :: l, h, x, hx => by
    simp only [nmL, List.mem_append] at hx
    rcases hx with hx | hx
    · exact nmE_ok (okL_get h e (by simp)) x hx
    · exact nmL_ok (by simp only [okL] at h; exact h.2) x hx
end
mutual
theorem nmS_ok : ∀ {e : St}, okS e → ∀ x ∈ nmS e, x.length ≤ 9223372036854775807
  | .mk k n lc o ex t e, h, x, hx => by
    obtain ⟨k1, k2, k3, k4, k5, k6, k7, k8⟩ := okS_parts h
    simp only [St.name, St.exprs, St.thn, St.els] at *
    simp only [nmS, List.mem_append] at hx
    rcases hx with hx | hx | hx | hx
    · cases hb : (!(n == [])) with
      | true => rw [hb] at hx; simp at hx; subst hx; exact k1
      | false => rw [hb] at hx; simp at hx
    · exact nmL_ok k6 x hx
    · exact nmSL_ok k7 x hx
    · exact nmSL_ok k8 x hx
theorem nmSL_ok : ∀ {l : List St}, okSL l → ∀ x ∈ nmSL l, x.length ≤ 9223372036854775807
  | [], h, x, hx => by simp [nmSL] at hx
  | e :: l, h, x, hx => by
    simp only [nmSL, List.mem_append] at hx
    rcases hx with hx | hx
    · exact nmS_ok (okSL_get h e (by simp)) x hx
    · exact nmSL_ok (by simp only [okSL] at h; exact h.2) x hx
end
theorem strsE_rg : ∀ (n : List (List UInt8)) (i : Nat), strsE (rgE i n) = some n
  | [], i => rfl
  | x :: n, i => by simp only [rgE, strsE, strsE_rg n (i + 1)]
theorem born_rg : ∀ (n : List (List UInt8)) (i : Nat), (rgE i n).map (·.2.2) = (List.range' i n.length)
  | [], i => rfl
  | x :: n, i => by simp only [rgE, List.map_cons, born_rg n (i + 1), List.length_cons, List.range'_succ]
theorem rg_keys {n : List (List UInt8)} (h1 : n.Nodup) (h2 : ∀ x ∈ n, x.length ≤ 9223372036854775807) (h3 : n.length ≤ 1000000) : okKeys n (rgE 0 n) n.length = true := by
  unfold okKeys
  simp only [born_rg, Bool.and_eq_true, decide_eq_true_eq]
  refine ⟨h1, h2, List.nodup_range', ?_, by simpa using h3⟩
  rw [List.all_eq_true]
  intro b hb
  have := List.mem_range'_1.1 hb
  simp only [decide_eq_true_eq]; omega
end Go.Proofs.YtblnhcafobifgaaGreatDoor.lex
end


section

set_option linter.unusedVariables false
set_option linter.unusedSimpArgs false
namespace Go.Proofs.YtblnhcafobifgaaGreatDoor.lex
open Go.Abs Go.RowKit
end Go.Proofs.YtblnhcafobifgaaGreatDoor.lex
end


section

set_option linter.unusedSimpArgs false
set_option linter.unusedVariables false
namespace Go.Abs
open Go.RowKit
end Go.Abs
end


section

set_option linter.unusedVariables false
set_option linter.unusedSimpArgs false
namespace Go.Proofs.YtblnhcafobifgaaGreatDoor.lex
open Go.Abs Go.RowKit
set_option maxRecDepth 100000
set_option maxHeartbeats 4000000
variable {gl : Glob}
end Go.Proofs.YtblnhcafobifgaaGreatDoor.lex
end


section

set_option linter.unusedVariables false
set_option linter.unusedSimpArgs false
namespace Go.Proofs.YtblnhcafobifgaaGreatDoor.lex
open Go.Abs Go.RowKit
set_option maxRecDepth 100000
set_option maxHeartbeats 4000000
variable {gl : Glob}
end Go.Proofs.YtblnhcafobifgaaGreatDoor.lex
end


section

set_option linter.unusedVariables false
set_option linter.unusedSimpArgs false
namespace Go.Proofs.YtblnhcafobifgaaGreatDoor.lex
open Go.Abs Go.RowKit
set_option maxRecDepth 100000
set_option maxHeartbeats 4000000
variable {gl : Glob}
end Go.Proofs.YtblnhcafobifgaaGreatDoor.lex
end


section

set_option linter.unusedVariables false
set_option linter.unusedSimpArgs false
namespace Go.Proofs.YtblnhcafobifgaaGreatDoor.lex
open Go.Abs Go.RowKit
set_option maxRecDepth 100000
set_option maxHeartbeats 4000000
def rgN0 (l : List St) : List (List UInt8) := addA (nmSL l) []
theorem rg_stmts (l : List St) (hok : okSL l) (hl : l.length ≤ 9223372036854775807) (h : sizeSL l ≤ 1048576) : MemOK Tryz.prog runLives.gl 46 [stA l, .int .i64 1, .func (.func 54) [] [.ptr 2 0], .func (.func 55) [] [.ptr 2 0]] (rgH []) (.bool true) (rgH (rgN0 l)) := by
  have hI : rgI 1 [] (sizeSL l + 0) := ⟨by omega, by omega⟩
  have := TvS.stmts rgV (sizeSL l) l 1 [] 0 (Nat.le_refl _) hok hl hI
  have e := goSL_rg l 1 []
  have e1 : (goSL rgV.hE rgV.hS l 1 []).1 = true := congrArg Prod.fst e
  have e2 : (goSL rgV.hE rgV.hS l 1 []).2 = rgN0 l := congrArg Prod.snd e
  rw [e1, e2] at this
  exact this
theorem rg_sorted {orc : Orc} (n : List (List UInt8)) (hk : okKeys n (rgE 0 n) n.length = true) : acall Tryz.prog (orcOr (sortO 56 78) orc) (rgH n ++ [⟨true, 3, 0, .cells [.map 0] 91⟩]) 56 [.func (.func 78) [] [.ptr 3 0]] = some (rsK (sortB n), rgH n ++ [⟨true, 3, 0, .cells [.map 0] 91⟩]) := by
  refine callOr1 (by kernel_rfl) ?_
  have hb : hasBody Tryz.prog 56 = true := by kernel_rfl
  unfold acall
  rw [if_pos hb]
  have h1 : sortAns (rgE 0 n) n.length = some (rsK (sortB n)) := by
    unfold sortAns
    rw [strsE_rg]
    simp only [hk, if_true]
  have h2 : mapIn ⟨true, 3, 0, .cells [.map 0] 91⟩ = some 0 := rfl
  have h3 : mapOf ⟨true, 0, 0, .map (rgE 0 n) n.length⟩ = some (rgE 0 n, n.length) := rfl
  simp only [sortO, if_true, sortArg, rgH]
  show (match mapIn ⟨true, 3, 0, .cells [.map 0] 91⟩ with | some b => _ | none => none) = _
  rw [h2]
  show (match mapOf ⟨true, 0, 0, .map (rgE 0 n) n.length⟩ with | some (es, clock) => _ | none => none) = _
  rw [h3]
  show (match sortAns (rgE 0 n) n.length with | some v => _ | none => none) = _
  rw [h1]
theorem regsX_ok (l : List St) (hok : okSL l) (hl : l.length ≤ 9223372036854775807) (h : sizeSL l ≤ 900000) : ValOK Tryz.prog runLives.gl 30 [stA l] (rsK (sortB (rgN0 l))) := by
  obtain ⟨O, hO, ⟨p1, -⟩, -⟩ := famsM (P := Tryz.prog) (gl := runLives.gl) [{ I := Unit, f := 46, G := (fun _ => True), A := (fun _ => [stA l, .int .i64 1, .func (.func 54) [] [.ptr 2 0], .func (.func 55) [] [.ptr 2 0]]), H := (fun _ => rgH []), R := (fun _ => .bool true), O := (fun _ => rgH (rgN0 l)), body := (by kernel_rfl), inj := (fun _ _ _ _ _ _ => ⟨rfl, rfl⟩), ok := (fun _ _ => rg_stmts l hok hl (by omega)) }] [] rfl
  have hO2 := orcOr_sound (shelf.sound (gl := runLives.gl)) hO
  have q1 : acall Tryz.prog (orcOr (sortO 56 78) O) (rgH []) 46 [stA l, .int .i64 1, .func (.func 54) [] [.ptr 2 0], .func (.func 55) [] [.ptr 2 0]] = some (.bool true, rgH (rgN0 l)) := callOr2 (by kernel_rfl) rfl (p1 () trivial)
  have hlen := addA_len (nmSL l) []
  have hlen2 := nmSL_len l
  simp only [List.length_nil] at hlen
  have hk : okKeys (rgN0 l) (rgE 0 (rgN0 l)) (rgN0 l).length = true := by
    refine rg_keys (addA_nodup _ _ List.nodup_nil) (fun x hx => ?_) (by unfold rgN0; omega)
    rcases addA_mem.1 hx with hx | hx
    · cases hx
    · exact nmSL_ok hok x hx
  have q2 := rg_sorted (orc := O) (rgN0 l) hk
  simp only [stA, rgH] at q1 q2 ⊢
  generalize rgE 0 (rgN0 l) = es at *
  generalize (rgN0 l).length = c at *
  refine fn_valI (fun g => Nat.beq g 46 || Nat.beq g 56) 2 follows noNum hO2 Tryz.func30 rfl ?_
  repeat' ((conv => whnf); first | (refine exI q1 ?_) | (refine exI q2 ?_) | (first | refine stp ?_ | with_reducible refine condB (fun h => ?_) (fun h => ?_)))
  all_goals (conv => whnf)
  all_goals rfl
end Go.Proofs.YtblnhcafobifgaaGreatDoor.lex
end


section

set_option linter.unusedVariables false
set_option linter.unusedSimpArgs false
namespace Go.Proofs.YtblnhcafobifgaaGreatDoor.lex
open Go.Abs Go.RowKit
set_option maxRecDepth 100000
set_option maxHeartbeats 4000000
variable {gl : Glob}
end Go.Proofs.YtblnhcafobifgaaGreatDoor.lex
end


section

set_option linter.unusedSimpArgs false
set_option linter.unusedVariables false
namespace Go.Abs
open Go.RowKit
def NewOK (P : Program) (gl : Glob) (f : Nat) (args : List AV) (r : AV) (N : AHeap) : Prop :=
  ∀ (sn : Snap) (W : World) (cargs : List Value), GlOK gl sn → R sn noI [] W → LR sn noI args cargs →
    Calls P f cargs.toArray W fun e W' => ∃ v sn' ι', e = .returned v ∧ VR sn' ι' r v ∧ Stq 0 sn noI [] W sn' ι' N W'
section
open Classical
end
structure FamN (P : Program) (gl : Glob) where
  I : Type
  f : Nat
  G : I → Prop
  A : I → List AV
  R : I → AV
  N : I → AHeap
  body : hasBody P f = true
  inj : ∀ i j, G i → G j → A i = A j → R i = R j ∧ N i = N j
  ok : ∀ i, G i → refsL (A i) [] = [] ∧ (∀ o ∈ N i, o.alive = true) ∧ NewOK P gl f (A i) (R i) (N i)
end Go.Abs
end


section

set_option linter.unusedSimpArgs false
set_option linter.unusedVariables false
namespace Go.Abs
open Go.RowKit
section
open Classical
noncomputable def snO (sn : Snap) (ι : IMap) (H : AHeap) (W : World) : Snap := fun a => if ∃ (b : Nat) (o : AObj) (p : Place), H[b]? = some o ∧ o.alive = true ∧ ι b = some p ∧ p.blk = a.block then W.cell? a else sn a
end
def orcD (F : Nat → List AV → Option AV) : Orc := fun f args H => match frzL (frz H 30) args with
  | some az => match F f az with | some r => some (r, kil (fun _ _ => true) 0 H) | none => none
  | none => none
theorem cell_lt {W : World} {a : Addr} {v : Value} (hv : W.cell? a = some v) : a.block < W.heap.size := by
  cases hq : W.heap[a.block]? with
  | none => unfold World.cell? at hv; rw [hq] at hv; simp at hv
  | some ob => exact (Array.getElem?_eq_some_iff.1 hq).1
theorem orcD_sound {P : Program} {gl : Glob} {F : Nat → List AV → Option AV} (h : ∀ f args r, F f args = some r → ValOK P gl f args r) : OrcSound P gl (orcD F) := by
  intro f args H r H' hf sn ι W cargs hg hR ha
  unfold orcD at hf
  split at hf <;> try (simp at hf; done)
  rename_i az has
  split at hf <;> simp at hf
  rename_i r' hr
  obtain ⟨rfl, rfl⟩ := hf
  have h2 := h f az r' hr
  have hle : ∀ a v, sn a = some v → snO sn ι H W a = some v := fun a v hv => by
    unfold snO
    split
    · exact (hR.snap a v hv).2.1
    · exact hv
  have hcell : ∀ a v, snO sn ι H W a = some v → W.cell? a = some v := fun a v hv => by
    unfold snO at hv
    split at hv
    · exact hv
    · exact (hR.snap a v hv).2.1
  have hR' : R (snO sn ι H W) noI [] W :=
    ⟨fun b => ⟨fun hb => by simp at hb, fun ⟨p, hp⟩ => by simp [noI] at hp⟩, fun b p hp => by simp [noI] at hp, fun b o p hb => by simp at hb, fun b b' o o' p p' hb => by simp at hb,
      fun a v hv => ⟨cell_lt (hcell a v hv), hcell a v hv, fun b o p hb => by simp at hb⟩, fun b o p hb => by simp at hb⟩
  have hargs : LR (snO sn ι H W) noI az cargs := frzL_sound (fun u r v => frz_sound2 hR.obj ⟨hle, fun _ _ h => h⟩ (fun b o p hb hal hp off v hv => by
    unfold snO; rw [if_pos ⟨b, o, p, hb, hal, hp, rfl⟩]; exact hv) 30 u r v) has ha
  refine (h2 _ W cargs (hg.mono (gl_le hle)) hR' hargs).monoY ?_
  rintro e W' ⟨v, rfl, hx, hv⟩
  generalize hs1 : snx (snO sn ι H W) W.heap.size W' = s1 at hv
  have h1lt : ∀ a, a.block < W.heap.size → s1 a = snO sn ι H W a := fun a ha => by rw [← hs1]; unfold snx; rw [if_pos ha]
  have h1ge : ∀ a, ¬ a.block < W.heap.size → s1 a = W'.cell? a := fun a ha => by rw [← hs1]; unfold snx; rw [if_neg ha]
  have hle1 : ∀ a v, sn a = some v → s1 a = some v := fun a v hv => by rw [h1lt a (hR.snap a v hv).1]; exact hle a v hv
  have hcell1 : ∀ a v, s1 a = some v → W'.cell? a = some v := fun a v hv => by
    by_cases hlt : a.block < W.heap.size
    · rw [h1lt a hlt] at hv
      have := hcell a v hv
      unfold World.cell? at this ⊢
      rw [hx.old _ hlt]; exact this
    · rw [h1ge a hlt] at hv; exact hv
  refine ⟨v, s1, ι, rfl, VR_noI hv, ⟨fun b => ⟨fun hb => ?_, fun ⟨p, hp⟩ => ?_⟩, fun b p hp => ?_, fun b o p hb hal hp => ?_, fun b b' o o' p p' hb hb' hp hp' e => ?_, fun a v hv => ?_, fun b o p hb hp e => ?_⟩, ⟨hle1, fun _ _ h => h⟩, fun b p hp => .inl hp, fun c hc _ => hx.old c hc, hx.size, hx.os, hx.tape, hx.output, fun a v hv => ?_, fun b o hb => ?_⟩
  · rw [kil_length] at hb; exact (hR.dom b).1 hb
  · rw [kil_length]; exact (hR.dom b).2 ⟨p, hp⟩
  · have := hR.blk b p hp; have := hx.size; omega
  · obtain ⟨o0, _, _, _, h4⟩ := kil_some hb
    have := (h4 hal).2; simp at this
  · obtain ⟨o0, g1, g2, g3, _⟩ := kil_some hb
    obtain ⟨o0', g1', g2', g3', _⟩ := kil_some hb'
    rw [g2, g3, g2', g3']
    exact hR.sep b b' o0 o0' p p' g1 g1' hp hp' e
  · refine ⟨cell_lt (hcell1 a v hv), hcell1 a v hv, fun b o p hb hal hp => ?_⟩
    obtain ⟨o0, _, _, _, h4⟩ := kil_some hb
    have := (h4 hal).2; simp at this
  · obtain ⟨o0, g1, g2, g3, _⟩ := kil_some hb
    exact hR.shz b o0 p g1 hp (by rw [← g3]; exact e)
  · by_cases hlt : a.block < W.heap.size
    · rw [h1lt a hlt] at hv
      unfold snO at hv
      split at hv
      · rename_i hex
        obtain ⟨b, o, p, x1, x2, x3, x4⟩ := hex
        exact .inr (.inr ⟨b, o, p, x1, x2, x3, x4⟩)
      · exact .inl hv
    · exact .inr (.inl (by omega))
  · rw [kil_get, hb]
    simp only [Nat.zero_add, Option.map_some]
    refine ⟨_, rfl, ?_⟩
    simp [AObj.dead]
theorem callD {P : Program} {F : Nat → List AV → Option AV} {H : AHeap} {g : Nat} {args fa : List AV} {r : AV} (h1 : hasBody P g = true) (h2 : frzL (frz H 30) args = some fa) (h3 : F g fa = some r) : acall P (orcD F) H g args = some (r, kil (fun _ _ => true) 0 H) := by
  simp only [acall, h1, if_true, orcD, h2, h3]
end Go.Abs
end


section

set_option linter.unusedVariables false
set_option linter.unusedSimpArgs false
namespace Go.Proofs.YtblnhcafobifgaaGreatDoor.lex
open Go.Abs Go.RowKit
set_option maxRecDepth 100000
set_option maxHeartbeats 4000000
variable {gl : Glob}
def nmsS (x : St) : List (List UInt8) := sortB (rgN0 [.mk x.kind x.name [] 0 x.exprs [] []])
def alSt (k : Int) (n l : List UInt8) (o : Int) (x : List Ex) : St := .mk k n l o x [] []
def alA (k : Int) (n l : List UInt8) (o : Int) (nx : Nat) (cx : List AV) : AV := .rs 1 7 [.int .i64 k, .str n, .str l, .int .i64 o, .rs nx 4 cx, .nslice, .nslice]
theorem al_weak (k : Int) (n l : List UInt8) (o : Int) (x : List Ex) : ∀ sn vs, LR sn noI [alA k n l o x.length (exC x)] vs → LR sn noI [stA [alSt k n l o x]] vs := by
  intro sn vs h
  have hE : stA [alSt k n l o x] = .rs 1 7 [.int .i64 k, .str n, .str l, .int .i64 o, .rs x.length 4 (exC x), .rs 0 7 [], .rs 0 7 []] := rfl
  rw [hE]
  simp only [alA, LR] at h ⊢
  obtain ⟨d, ds, rfl, h1, h2⟩ := h
  refine ⟨d, ds, rfl, ?_, h2⟩
  unfold VR at h1 ⊢
  rcases h1 with ⟨h1, _⟩ | ⟨a, cap, x1, x2, x3, x4, x5⟩
  · cases h1
  · refine .inr ⟨a, cap, x1, x2, rfl, ?_, x5⟩
    simp only [MR] at x4 ⊢
    obtain ⟨m1, m2, m3, m4, m5, ⟨v6, n6, k6⟩, ⟨v7, n7, k7⟩, m8⟩ := x4
    exact ⟨m1, m2, m3, m4, m5, ⟨v6, n6, nil_rs k6⟩, ⟨v7, n7, nil_rs k7⟩, m8⟩
section
open Classical
noncomputable def tabF (g : Nat) (A : List AV) (r : AV) : Nat → List AV → Option AV := fun f fa => if f = g ∧ fa = A then some r else none
end
theorem tabF_sound {g : Nat} {A : List AV} {r : AV} (h : ValOK Tryz.prog gl g A r) : OrcSound Tryz.prog gl (orcD (tabF g A r)) := orcD_sound fun f args r' hr => by
  unfold tabF at hr
  split at hr
  · rename_i h2
    obtain ⟨rfl, rfl⟩ := h2
    simp only [Option.some.injEq] at hr
    subst hr
    exact h
  · cases hr
theorem tabF_none {g f : Nat} {A : List AV} {r : AV} (h : f ≠ g) (args : List AV) (H : AHeap) : orcD (tabF g A r) f args H = none := by
  unfold orcD
  split
  · rename_i az _
    have : tabF g A r f az = none := by unfold tabF; rw [if_neg (fun e => h e.1)]
    rw [this]
  · rfl
theorem alSt_ok {k : Int} {n l : List UInt8} {o : Int} {x : List Ex} (hn : n.length ≤ 9223372036854775807) (hl : l.length ≤ 9223372036854775807) (hx : okL x) (hxl : x.length ≤ 9223372036854775807) : okSL [alSt k n l o x] := by
  simp [okSL, alSt, okS, okL, okN, hn, hl, hx, hxl]
theorem alSt_size (k : Int) (n l : List UInt8) (o : Int) (x : List Ex) : sizeSL [alSt k n l o x] = 1 + sizeL x := by simp [alSt, sizeSL, sizeS]
def anyD (ds : List Dc) : List (List UInt8) → Bool
  | [] => false
  | s :: l => decide (0 ≤ findD ds s) || anyD ds l
def hidB (ds : List Dc) (x : St) : Bool := anyD ds (nmsS x)
theorem anyD_at (ds : List Dc) : ∀ (l : List (List UInt8)) (i : Nat) (h : i < l.length), 0 ≤ findD ds l[i] → anyD ds l = true
  | s :: l, 0, h, h2 => by simp only [List.getElem_cons_zero] at h2; simp only [anyD, decide_eq_true h2, Bool.true_or]
  | s :: l, i + 1, h, h2 => by simp only [anyD, anyD_at ds l i (by simpa using h) (by simpa using h2), Bool.or_true]
theorem anyD_next (ds : List Dc) : ∀ (l : List (List UInt8)) (i : Nat) (h : i < l.length), anyD ds (l.take i) = false → findD ds l[i] < 0 → anyD ds (l.take (i + 1)) = false
  | s :: l, 0, h, h1, h2 => by
    simp only [List.getElem_cons_zero] at h2
    simp only [List.take_succ_cons, List.take_zero, anyD, Bool.or_false, decide_eq_false_iff_not]; omega
  | s :: l, i + 1, h, h1, h2 => by
    simp only [List.take_succ_cons, anyD, Bool.or_eq_false_iff] at h1 ⊢
    exact ⟨h1.1, anyD_next ds l i (by simpa using h) h1.2 (by simpa using h2)⟩
def plainAt (ds : List Dc) (i : Int) : Bool := ((ds[i.toNat]?).map (·.plain)).getD false
def onePF (ds : List Dc) (k o : Int) (loc : List UInt8) (hid : Bool) : Int :=
  cond (!(loc == []) && decide (findD ds loc < 0)) 6
    (cond (!(o == 0) && !(mayN k o (cond (loc == []) false (plainAt ds (findD ds loc))) == 0)) (mayN k o (cond (loc == []) false (plainAt ds (findD ds loc)))) (cond hid 6 0))
def oneP (ds : List Dc) (x : St) : Int := onePF ds x.kind x.order x.loc (hidB ds x)
theorem dcp (l : List Dc) (i : Nat) (h : i < l.length) : tk 1 (((dcC l).drop (i * 3)).drop 1) = some [.bool l[i].plain] := by
  rw [dcC_at l i h]; rfl
theorem nmsS_len (x : St) (hs : sizeL x.exprs ≤ 800000) : (nmsS x).length ≤ 800001 := by
  unfold nmsS rgN0
  rw [(sortB_perm _).length_eq]
  have h1 := addA_len (nmSL [St.mk x.kind x.name [] 0 x.exprs [] []]) []
  have h2 := nmSL_len [St.mk x.kind x.name [] 0 x.exprs [] []]
  simp only [sizeSL, sizeS, List.length_nil] at h1 h2
  omega
theorem stmtX_ok (ds : List Dc) (x : St) (hd : ds.length ≤ 9223372036854775807) (hok : okS x) (hs : sizeL x.exprs ≤ 800000) : ValOK Tryz.prog runLives.gl 29 [.rs ds.length 3 (dcC ds), .agg x.cells] (.int .i64 (oneP ds x)) := by
  obtain ⟨k1, k2, k3, _, _, k4, _, _⟩ := okS_parts hok
  have hregs := (regsX_ok [alSt x.kind x.name [] 0 x.exprs] (alSt_ok k1 (by simp) k4 k3) (by simp) (by rw [alSt_size]; omega)).weak (al_weak x.kind x.name [] 0 x.exprs)
  have hO1 := tabF_sound hregs
  have hD := findD_lt ds x.loc
  have hnm : sortB (rgN0 [alSt x.kind x.name [] 0 x.exprs]) = nmsS x := rfl
  rw [hnm] at hO1 hregs
  have q1 : ∀ (o2 : Orc) H args, frzL (frz H 30) args = some [alA x.kind x.name [] 0 x.exprs.length (exC x.exprs)] → acall Tryz.prog (orcOr (orcD (tabF 30 [alA x.kind x.name [] 0 x.exprs.length (exC x.exprs)] (rsK (nmsS x)))) o2) H 30 args = some (rsK (nmsS x), kil (fun _ _ => true) 0 H) := fun o2 H args h => callOr1 (by kernel_rfl) (callD (by kernel_rfl) h (by unfold tabF; exact if_pos ⟨rfl, rfl⟩))
  have hlen : (nmsS x).length ≤ 800001 := nmsS_len x hs
  have hnm2 : nmsS x = nmsS x := rfl
  generalize hnm3 : nmsS x = nm at *
  obtain ⟨O, hO, p2, p3, -⟩ := fams (P := Tryz.prog) (gl := runLives.gl) [{ I := List UInt8, f := 27, G := fun _ => True, A := fun s => [.rs ds.length 3 (dcC ds), .str s], R := fun s => .int .i64 (findD ds s), body := (by kernel_rfl), inj := (fun i j _ _ h => by simp only [List.cons.injEq, AV.str.injEq, and_true, true_and] at h; rw [h]), ok := (fun s _ => ⟨rfl, findX_ok ds s hd⟩) },
    { I := Int × Int × Bool, f := 8, G := fun _ => True, A := fun p => [.int .i64 p.1, .int .i64 p.2.1, .bool p.2.2], R := fun p => .int .i64 (mayN p.1 p.2.1 p.2.2), body := (by kernel_rfl), inj := (fun i j _ _ h => by simp only [List.cons.injEq, AV.int.injEq, AV.bool.injEq, and_true, true_and] at h; rw [h.1, h.2.1, h.2.2]), ok := (fun p _ => ⟨rfl, mayX_ok p.1 p.2.1 p.2.2⟩) }] rfl
  have hOO := orcOr_sound hO1 hO
  have q2 : ∀ s H, acall Tryz.prog (orcOr (orcD (tabF 30 [alA x.kind x.name [] 0 x.exprs.length (exC x.exprs)] (rsK nm))) O) H 27 [.rs ds.length 3 (dcC ds), .str s] = some (.int .i64 (findD ds s), H) := fun s H => callOr2 (by kernel_rfl) (tabF_none (by decide) _ _) (p2 s trivial H)
  have q3 : ∀ k o p H, acall Tryz.prog (orcOr (orcD (tabF 30 [alA x.kind x.name [] 0 x.exprs.length (exC x.exprs)] (rsK nm))) O) H 8 [.int .i64 k, .int .i64 o, .bool p] = some (.int .i64 (mayN k o p), H) := fun k o p H => callOr2 (by kernel_rfl) (tabF_none (by decide) _ _) (p3 (k, o, p) trivial H)
  have q1 := q1 O
  clear p2 p3 hO hO1 hregs
  generalize orcOr (orcD (tabF 30 [alA x.kind x.name [] 0 x.exprs.length (exC x.exprs)] (rsK nm))) O = OO at *
  have hnl : nm.length ≤ 9223372036854775807 := by omega
  obtain ⟨kd, nam, loc, ord, ex, th, el⟩ := x
  simp only [St.kind, St.name, St.loc, St.order, St.exprs, St.cells, exA, alA, rsK] at *
  have hR0 : oneP ds (.mk kd nam loc ord ex th el) = onePF ds kd ord loc (anyD ds nm) := by rw [← hnm3]; rfl
  rw [hR0]
  clear hR0 hnm2 hnm3 hnm
  generalize hR0 : onePF ds kd ord loc (anyD ds nm) = R0
  unfold onePF at hR0
  refine fn_val follows noNum hOO Tryz.func29 rfl ?_
  cases hl : loc == [] with
  | true =>
    rw [hl] at hR0
    simp only [Bool.not_true, Bool.false_and, cond_false, cond_true] at hR0
    have hl2 : loc = [] := by simpa using hl
    subst hl2
    cases ho : ord == 0 with
    | true =>
      rw [ho] at hR0
      simp only [Bool.not_true, Bool.false_and, cond_false] at hR0
      have t2 : (ord != 0) = false := bne_of ho
      repeat' ((conv => whnf); first | (refine exI (q1 _ _ rfl) ?_) | (refine exI (q2 _ _) ?_) | (refine exI (q3 _ _ _ _) ?_) | (first | refine stp ?_ | with_reducible refine condB (fun h => ?_) (fun h => ?_)))
      (conv => whnf)
      refine ⟨Nat, (fun i => i ≤ nm.length ∧ anyD ds (nm.take i) = false), (fun i => [(0, .rs ds.length 3 (dcC ds)), (46, .rs nm.length 1 (nm.map .str)), (47, .int .i64 nm.length), (48, .int .i64 i)]), (fun _ => []), (fun i => nm.length - i), ⟨0, ⟨Nat.zero_le _, rfl⟩, FgL.mk0 rfl ?_⟩, ?_⟩
      · (repeat (first | exact trivial | refine stw ?_))
      rintro i ⟨hi, hno⟩
      dsimp only
      by_cases hlt : i < nm.length
      · have e1 : decide ((i : Int) < (nm.length : Int)) = true := by simpa using hlt
        have hx : tk 1 ((nm.map AV.str).drop (i * 1)) = some [AV.str nm[i]] := tk1_map AV.str nm i hlt (by omega)
        have hyes := anyD_at ds nm i hlt
        have hnx := anyD_next ds nm i hlt hno
        generalize nm[i] = s at *
        by_cases hf : 0 ≤ findD ds s
        · have e2 : decide (0 ≤ findD ds s) = true := by simpa using hf
          rw [hyes hf] at hR0
          simp only [cond_true] at hR0
          subst hR0
          repeat' ((conv => whnf); first | (refine exI hx ?_) | (refine exI (q2 _ _) ?_) | (with_reducible refine ixJ i rfl ?_ ?_; (focus (omega))) | (first | refine stp ?_ | with_reducible refine condB (fun h => ?_) (fun h => ?_)))
          all_goals rfl
        · have e2 : decide (0 ≤ findD ds s) = false := by simpa using hf
          have hnx2 := hnx (by omega)
          repeat' ((conv => whnf); first | (refine exI hx ?_) | (refine exI (q2 _ _) ?_) | (with_reducible refine ixJ i rfl ?_ ?_; (focus (omega))) | (first | refine stp ?_ | with_reducible refine condB (fun h => ?_) (fun h => ?_)))
          conv => whnf
          refine ⟨i + 1, ⟨hlt, hnx2⟩, by show nm.length - (i + 1) < nm.length - i; omega, FgL.mk0 rfl ?_⟩
          (repeat (first | exact trivial | refine stw ?_))
      · have e1 : decide ((i : Int) < (nm.length : Int)) = false := by simpa using hlt
        have hi2 : i = nm.length := by have := hi; omega
        subst hi2
        rw [List.take_length] at hno
        rw [hno] at hR0
        simp only [cond_false] at hR0
        subst hR0
        repeat' ((conv => whnf); first | refine stp ?_ | with_reducible refine condB (fun h => ?_) (fun h => ?_))
        all_goals rfl
    | false =>
      rw [ho] at hR0
      simp only [Bool.not_false, Bool.true_and] at hR0
      have t2 : (ord != 0) = true := bne_of ho
      cases hm : mayN kd ord false == 0 with
      | true =>
        rw [hm] at hR0
        simp only [Bool.not_true, cond_false] at hR0
        have t3 : (mayN kd ord false != 0) = false := bne_of hm
        repeat' ((conv => whnf); first | (refine exI (q1 _ _ rfl) ?_) | (refine exI (q2 _ _) ?_) | (refine exI (q3 _ _ _ _) ?_) | (first | refine stp ?_ | with_reducible refine condB (fun h => ?_) (fun h => ?_)))
        (conv => whnf)
        refine ⟨Nat, (fun i => i ≤ nm.length ∧ anyD ds (nm.take i) = false), (fun i => [(0, .rs ds.length 3 (dcC ds)), (46, .rs nm.length 1 (nm.map .str)), (47, .int .i64 nm.length), (48, .int .i64 i)]), (fun _ => []), (fun i => nm.length - i), ⟨0, ⟨Nat.zero_le _, rfl⟩, FgL.mk0 rfl ?_⟩, ?_⟩
        · (repeat (first | exact trivial | refine stw ?_))
        rintro i ⟨hi, hno⟩
        dsimp only
        by_cases hlt : i < nm.length
        · have e1 : decide ((i : Int) < (nm.length : Int)) = true := by simpa using hlt
          have hx : tk 1 ((nm.map AV.str).drop (i * 1)) = some [AV.str nm[i]] := tk1_map AV.str nm i hlt (by omega)
          have hyes := anyD_at ds nm i hlt
          have hnx := anyD_next ds nm i hlt hno
          generalize nm[i] = s at *
          by_cases hf : 0 ≤ findD ds s
          · have e2 : decide (0 ≤ findD ds s) = true := by simpa using hf
            rw [hyes hf] at hR0
            simp only [cond_true] at hR0
            subst hR0
            repeat' ((conv => whnf); first | (refine exI hx ?_) | (refine exI (q2 _ _) ?_) | (with_reducible refine ixJ i rfl ?_ ?_; (focus (omega))) | (first | refine stp ?_ | with_reducible refine condB (fun h => ?_) (fun h => ?_)))
            all_goals rfl
          · have e2 : decide (0 ≤ findD ds s) = false := by simpa using hf
            have hnx2 := hnx (by omega)
            repeat' ((conv => whnf); first | (refine exI hx ?_) | (refine exI (q2 _ _) ?_) | (with_reducible refine ixJ i rfl ?_ ?_; (focus (omega))) | (first | refine stp ?_ | with_reducible refine condB (fun h => ?_) (fun h => ?_)))
            conv => whnf
            refine ⟨i + 1, ⟨hlt, hnx2⟩, by show nm.length - (i + 1) < nm.length - i; omega, FgL.mk0 rfl ?_⟩
            (repeat (first | exact trivial | refine stw ?_))
        · have e1 : decide ((i : Int) < (nm.length : Int)) = false := by simpa using hlt
          have hi2 : i = nm.length := by have := hi; omega
          subst hi2
          rw [List.take_length] at hno
          rw [hno] at hR0
          simp only [cond_false] at hR0
          subst hR0
          repeat' ((conv => whnf); first | refine stp ?_ | with_reducible refine condB (fun h => ?_) (fun h => ?_))
          all_goals rfl
      | false =>
        rw [hm] at hR0
        simp only [Bool.not_false, cond_true] at hR0
        have t3 : (mayN kd ord false != 0) = true := bne_of hm
        have q3' := fun H => q3 kd ord false H
        generalize mayN kd ord false = mm at *
        subst hR0
        repeat' ((conv => whnf); first | (refine exI (q3' _) ?_) | (first | refine stp ?_ | with_reducible refine condB (fun h => ?_) (fun h => ?_)))
        all_goals rfl
  | false =>
    rw [hl] at hR0
    simp only [Bool.not_false, Bool.true_and, cond_false] at hR0
    have t0 : (!(loc == [])) = true := by rw [hl]; rfl
    rcases hD with hD | ⟨j, hD, hj, _⟩
    · rw [hD] at hR0
      have e0 : decide ((-1 : Int) < 0) = true := rfl
      simp only [e0, cond_true] at hR0
      subst hR0
      have q2' := fun H => (q2 loc H).trans (by rw [hD])
      repeat' ((conv => whnf); first | (refine exI (q2' _) ?_) | (first | refine stp ?_ | with_reducible refine condB (fun h => ?_) (fun h => ?_)))
      all_goals rfl
    · have e0 : decide (findD ds loc < 0) = false := by simp only [decide_eq_false_iff_not]; omega
      have e3 : plainAt ds (findD ds loc) = ds[j].plain := by unfold plainAt; rw [hD]; simp [hj]
      rw [e0, e3] at hR0
      simp only [cond_false] at hR0
      have hx2 := dcp ds j hj
      generalize ds[j].plain = pl at *
      have q2l := fun H => (q2 loc H).trans (by rw [hD])
      have e4 : decide ((j : Int) < 0) = false := by simp only [decide_eq_false_iff_not]; omega
      cases ho : ord == 0 with
      | true =>
        rw [ho] at hR0
        simp only [Bool.not_true, Bool.false_and, cond_false] at hR0
        have t2 : (ord != 0) = false := bne_of ho
        repeat' ((conv => whnf); first | (refine exI (q1 _ _ rfl) ?_) | (refine exI (q2l _) ?_) | (with_reducible refine ixJ j rfl ?_ ?_; (focus (omega))) | (refine exI hx2 ?_) | (first | refine stp ?_ | with_reducible refine condB (fun h => ?_) (fun h => ?_)))
        (conv => whnf)
        refine ⟨Nat, (fun i => i ≤ nm.length ∧ anyD ds (nm.take i) = false), (fun i => [(0, .rs ds.length 3 (dcC ds)), (46, .rs nm.length 1 (nm.map .str)), (47, .int .i64 nm.length), (48, .int .i64 i)]), (fun _ => []), (fun i => nm.length - i), ⟨0, ⟨Nat.zero_le _, rfl⟩, FgL.mk0 rfl ?_⟩, ?_⟩
        · (repeat (first | exact trivial | refine stw ?_))
        rintro i ⟨hi, hno⟩
        dsimp only
        by_cases hlt : i < nm.length
        · have e1 : decide ((i : Int) < (nm.length : Int)) = true := by simpa using hlt
          have hx : tk 1 ((nm.map AV.str).drop (i * 1)) = some [AV.str nm[i]] := tk1_map AV.str nm i hlt (by omega)
          have hyes := anyD_at ds nm i hlt
          have hnx := anyD_next ds nm i hlt hno
          generalize nm[i] = s at *
          by_cases hf : 0 ≤ findD ds s
          · have e2 : decide (0 ≤ findD ds s) = true := by simpa using hf
            rw [hyes hf] at hR0
            simp only [cond_true] at hR0
            subst hR0
            repeat' ((conv => whnf); first | (refine exI hx ?_) | (refine exI (q2 _ _) ?_) | (with_reducible refine ixJ i rfl ?_ ?_; (focus (omega))) | (first | refine stp ?_ | with_reducible refine condB (fun h => ?_) (fun h => ?_)))
            all_goals rfl
          · have e2 : decide (0 ≤ findD ds s) = false := by simpa using hf
            have hnx2 := hnx (by omega)
            repeat' ((conv => whnf); first | (refine exI hx ?_) | (refine exI (q2 _ _) ?_) | (with_reducible refine ixJ i rfl ?_ ?_; (focus (omega))) | (first | refine stp ?_ | with_reducible refine condB (fun h => ?_) (fun h => ?_)))
            conv => whnf
            refine ⟨i + 1, ⟨hlt, hnx2⟩, by show nm.length - (i + 1) < nm.length - i; omega, FgL.mk0 rfl ?_⟩
            (repeat (first | exact trivial | refine stw ?_))
        · have e1 : decide ((i : Int) < (nm.length : Int)) = false := by simpa using hlt
          have hi2 : i = nm.length := by have := hi; omega
          subst hi2
          rw [List.take_length] at hno
          rw [hno] at hR0
          simp only [cond_false] at hR0
          subst hR0
          repeat' ((conv => whnf); first | refine stp ?_ | with_reducible refine condB (fun h => ?_) (fun h => ?_))
          all_goals rfl
      | false =>
        rw [ho] at hR0
        simp only [Bool.not_false, Bool.true_and] at hR0
        have t2 : (ord != 0) = true := bne_of ho
        have q3' := fun H => q3 kd ord pl H
        cases hm : mayN kd ord pl == 0 with
        | true =>
          rw [hm] at hR0
          simp only [Bool.not_true, cond_false] at hR0
          have t3 : (mayN kd ord pl != 0) = false := bne_of hm
          generalize mayN kd ord pl = mm at *
          repeat' ((conv => whnf); first | (refine exI (q1 _ _ rfl) ?_) | (refine exI (q2l _) ?_) | (refine exI (q3' _) ?_) | (with_reducible refine ixJ j rfl ?_ ?_; (focus (omega))) | (refine exI hx2 ?_) | (first | refine stp ?_ | with_reducible refine condB (fun h => ?_) (fun h => ?_)))
          (conv => whnf)
          refine ⟨Nat, (fun i => i ≤ nm.length ∧ anyD ds (nm.take i) = false), (fun i => [(0, .rs ds.length 3 (dcC ds)), (46, .rs nm.length 1 (nm.map .str)), (47, .int .i64 nm.length), (48, .int .i64 i)]), (fun _ => []), (fun i => nm.length - i), ⟨0, ⟨Nat.zero_le _, rfl⟩, FgL.mk0 rfl ?_⟩, ?_⟩
          · (repeat (first | exact trivial | refine stw ?_))
          rintro i ⟨hi, hno⟩
          dsimp only
          by_cases hlt : i < nm.length
          · have e1 : decide ((i : Int) < (nm.length : Int)) = true := by simpa using hlt
            have hx : tk 1 ((nm.map AV.str).drop (i * 1)) = some [AV.str nm[i]] := tk1_map AV.str nm i hlt (by omega)
            have hyes := anyD_at ds nm i hlt
            have hnx := anyD_next ds nm i hlt hno
            generalize nm[i] = s at *
            by_cases hf : 0 ≤ findD ds s
            · have e2 : decide (0 ≤ findD ds s) = true := by simpa using hf
              rw [hyes hf] at hR0
              simp only [cond_true] at hR0
              subst hR0
              repeat' ((conv => whnf); first | (refine exI hx ?_) | (refine exI (q2 _ _) ?_) | (with_reducible refine ixJ i rfl ?_ ?_; (focus (omega))) | (first | refine stp ?_ | with_reducible refine condB (fun h => ?_) (fun h => ?_)))
              all_goals rfl
            · have e2 : decide (0 ≤ findD ds s) = false := by simpa using hf
              have hnx2 := hnx (by omega)
              repeat' ((conv => whnf); first | (refine exI hx ?_) | (refine exI (q2 _ _) ?_) | (with_reducible refine ixJ i rfl ?_ ?_; (focus (omega))) | (first | refine stp ?_ | with_reducible refine condB (fun h => ?_) (fun h => ?_)))
              conv => whnf
              refine ⟨i + 1, ⟨hlt, hnx2⟩, by show nm.length - (i + 1) < nm.length - i; omega, FgL.mk0 rfl ?_⟩
              (repeat (first | exact trivial | refine stw ?_))
          · have e1 : decide ((i : Int) < (nm.length : Int)) = false := by simpa using hlt
            have hi2 : i = nm.length := by have := hi; omega
            subst hi2
            rw [List.take_length] at hno
            rw [hno] at hR0
            simp only [cond_false] at hR0
            subst hR0
            repeat' ((conv => whnf); first | refine stp ?_ | with_reducible refine condB (fun h => ?_) (fun h => ?_))
            all_goals rfl
        | false =>
          rw [hm] at hR0
          simp only [Bool.not_false, cond_true] at hR0
          have t3 : (mayN kd ord pl != 0) = true := bne_of hm
          generalize mayN kd ord pl = mm at *
          subst hR0
          repeat' ((conv => whnf); first | (refine exI (q2l _) ?_) | (refine exI (q3' _) ?_) | (with_reducible refine ixJ j rfl ?_ ?_; (focus (omega))) | (refine exI hx2 ?_) | (first | refine stp ?_ | with_reducible refine condB (fun h => ?_) (fun h => ?_)))
          all_goals rfl
end Go.Proofs.YtblnhcafobifgaaGreatDoor.lex
end


section

set_option linter.unusedVariables false
set_option linter.unusedSimpArgs false
namespace Go.Proofs.YtblnhcafobifgaaGreatDoor.lex
open Go.Abs Go.RowKit
set_option maxRecDepth 100000
set_option maxHeartbeats 4000000
variable {gl : Glob}
def oneRF (ds : List Dc) (k o : Int) (loc : List UInt8) (hid : Bool) : Int :=
  cond (k == 7) (mayN k o false) (cond (!(loc == []) && decide (findD ds loc < 0)) 6
    (cond (!(loc == []) && !(mayN k o (plainAt ds (findD ds loc)) == 0)) (mayN k o (plainAt ds (findD ds loc))) (cond hid 6 0)))
def oneR (ds : List Dc) (x : St) : Int := oneRF ds x.kind x.order x.loc (hidB ds x)
end Go.Proofs.YtblnhcafobifgaaGreatDoor.lex
end


section

set_option linter.unusedVariables false
set_option linter.unusedSimpArgs false
namespace Go.Proofs.YtblnhcafobifgaaGreatDoor.lex
open Go.Abs Go.RowKit
set_option maxRecDepth 100000
set_option maxHeartbeats 4000000
variable {gl : Glob}
def thenN (r : Nat × Int) (g : Nat → Nat × Int) : Nat × Int := cond (r.2 == 0) (g r.1) r
mutual
def nbS (f : St → Int) : St → Nat → Nat × Int
  | .mk k n l o x t e, m => cond (f (.mk k n l o x t e) == 0) (thenN (nbSL f t (m + 1)) (nbSL f e)) (m, f (.mk k n l o x t e))
def nbSL (f : St → Int) : List St → Nat → Nat × Int
  | [], m => (m, 0)
  | x :: l, m => thenN (nbS f x m) (nbSL f l)
end
theorem nbS_eq (f : St → Int) (x : St) (m : Nat) : nbS f x m = cond (f x == 0) (thenN (nbSL f x.thn (m + 1)) (nbSL f x.els)) (m, f x) := by
  obtain ⟨k, n, l, o, x, t, e⟩ := x
  simp only [nbS, St.thn, St.els]
theorem nbSL_at (f : St → Int) : ∀ (l : List St) (m i : Nat) (h : i < l.length), (nbSL f (l.take i) m).2 = 0 → nbSL f (l.take (i + 1)) m = nbS f l[i] (nbSL f (l.take i) m).1
  | x :: l, m, 0, h, _ => by
    simp only [List.take_zero, List.take_succ_cons, nbSL, List.getElem_cons_zero, thenN]
    generalize nbS f x m = r
    cases hr : r.2 == 0 with
    | true => simp only [cond_true]; have : r.2 = 0 := by simpa using hr
              rw [← this]
    | false => simp only [cond_false]
  | x :: l, m, i + 1, h, h0 => by
    simp only [List.take_succ_cons, nbSL, List.getElem_cons_succ, thenN] at h0 ⊢
    generalize nbS f x m = r at *
    cases hr : r.2 == 0 with
    | true =>
      rw [hr] at h0
      simp only [cond_true] at h0 ⊢
      exact nbSL_at f l r.1 i (by simpa using h) h0
    | false =>
      rw [hr] at h0
      simp only [cond_false] at h0
      rw [h0] at hr; cases hr
theorem nbSL_stop (f : St → Int) : ∀ (l : List St) (m i : Nat), (nbSL f (l.take i) m).2 ≠ 0 → nbSL f l m = nbSL f (l.take i) m
  | [], m, i, h => by simp
  | x :: l, m, 0, h => by simp [nbSL] at h
  | x :: l, m, i + 1, h => by
    simp only [List.take_succ_cons, nbSL, thenN] at h ⊢
    generalize nbS f x m = r at *
    cases hr : r.2 == 0 with
    | true =>
      rw [hr] at h
      simp only [cond_true] at h ⊢
      exact nbSL_stop f l r.1 i h
    | false => simp only [cond_false]
mutual
theorem nbS_le (f : St → Int) : ∀ (x : St) (m : Nat), m ≤ (nbS f x m).1 ∧ (nbS f x m).1 ≤ m + sizeS x
  | .mk k n l o x t e, m => by
    simp only [nbS, sizeS, thenN]
    have h1 := nbSL_le f t (m + 1)
    generalize nbSL f t (m + 1) = r at *
    have h2 := nbSL_le f e r.1
    cases f (.mk k n l o x t e) == 0 <;> cases r.2 == 0 <;> simp only [cond_true, cond_false] <;> omega
theorem nbSL_le (f : St → Int) : ∀ (l : List St) (m : Nat), m ≤ (nbSL f l m).1 ∧ (nbSL f l m).1 ≤ m + sizeSL l
  | [], m => by simp only [nbSL, sizeSL]; omega
  | x :: l, m => by
    simp only [nbSL, sizeSL, thenN]
    have h1 := nbS_le f x m
    generalize nbS f x m = r at *
    have h2 := nbSL_le f l r.1
    cases r.2 == 0 <;> simp only [cond_true, cond_false] <;> omega
end
theorem sizeSL_at : ∀ (l : List St) (i : Nat) (h : i < l.length), sizeSL (l.take i) + sizeS l[i] ≤ sizeSL l
  | x :: l, 0, h => by simp [sizeSL]
  | x :: l, i + 1, h => by
    simp only [List.take_succ_cons, sizeSL, List.getElem_cons_succ]
    have := sizeSL_at l i (by simpa using h)
    omega
theorem sizeS_kids (x : St) : sizeS x = 1 + sizeL x.exprs + sizeSL x.thn + sizeSL x.els := by cases x; simp only [sizeS, St.exprs, St.thn, St.els]
theorem agg_cells_inj {x y : St} (h : AV.agg x.cells = .agg y.cells) : x = y := by
  have : stA [x] = stA [y] := by
    simp only [AV.agg.injEq] at h
    simp only [stA, stC, h]; rfl
  have := stA_inj this
  simpa using this
theorem st_refs2 (ds : List Dc) (x : St) : refsL [.rs ds.length 3 (dcC ds), .agg x.cells] [] = [] := by cases x; rfl
end Go.Proofs.YtblnhcafobifgaaGreatDoor.lex
end


section

set_option linter.unusedVariables false
set_option linter.unusedSimpArgs false
namespace Go.Proofs.YtblnhcafobifgaaGreatDoor.lex
open Go.Abs Go.RowKit
set_option maxRecDepth 100000
set_option maxHeartbeats 4000000
end Go.Proofs.YtblnhcafobifgaaGreatDoor.lex
end


section

set_option linter.unusedVariables false
set_option linter.unusedSimpArgs false
namespace Go.Proofs.YtblnhcafobifgaaGreatDoor.lex
open Go.Abs Go.RowKit
set_option maxRecDepth 100000
set_option maxHeartbeats 8000000
def isW (m : Bool) (s : List UInt8) : Bool := if m then wordB s else s == []
def hasN (k : Int) : Bool := k == 1 || (k == 2 || (k == 4 || (k == 5 || k == 6)))
def hasL (k : Int) : Bool := decide (2 ≤ k ∧ k ≤ 6)
def hasO (k : Int) : Bool := decide (2 ≤ k ∧ k ≤ 7)
def hasX (k : Int) : Nat := if k = 2 ∨ k = 7 then 0 else if k = 4 then 2 else 1
def hasT (k : Int) : Bool := k == 10 || k == 11
def hasE (k : Int) : Bool := k == 10
def ownSF (kind : Int) (name loc : List UInt8) (order : Int) (nx nt ne : Nat) : Bool :=
  decide (1 ≤ kind ∧ kind ≤ 11) && (isW (hasN kind) name && (isW (hasL kind) loc && ((if hasO kind then decide (1 ≤ order ∧ order ≤ 6) else order == 0) && (decide (nx = hasX kind) && ((hasT kind || decide (nt = 0)) && (hasE kind || decide (ne = 0)))))))
def ownS (x : St) : Bool := ownSF x.kind x.name x.loc x.order x.exprs.length x.thn.length x.els.length
theorem rightS_key (kind : Int) (name loc : List UInt8) (order : Int) (nx nt ne : Nat) (cx ct ce rest : List AV) (d : Int) (hn : name.length ≤ 9223372036854775807) (hl : loc.length ≤ 9223372036854775807) :
    ValOK Tryz.prog runLives.gl 48 [.rp (.int .i64 kind :: .str name :: .str loc :: .int .i64 order :: .rs nx 4 cx :: .rs nt 7 ct :: .rs ne 7 ce :: rest), .int .i64 d] (.bool (ownSF kind name loc order nx nt ne)) := by
  have hb : hasBody Tryz.prog 45 = true := by kernel_rfl
  have q1 : ∀ (m : Bool) (H : AHeap), acall Tryz.prog (orcZ isWordF) H 45 [.str name, .bool m] = some (.bool (isW m name), H) := fun m H => callZ hb rfl (by simp only [isWordF, isW]; rw [if_pos hn])
  have q2 : ∀ (m : Bool) (H : AHeap), acall Tryz.prog (orcZ isWordF) H 45 [.str loc, .bool m] = some (.bool (isW m loc), H) := fun m H => callZ hb rfl (by simp only [isWordF, isW]; rw [if_pos hl])
  by_cases h1 : kind < 1
  · have e1 : decide (kind < 1) = true := by simpa using h1
    refine fn_val follows noNum isWordF_sound Tryz.func48 rfl ?_
    repeat' ((conv => whnf); (first | refine stp ?_ | with_reducible refine condB (fun h => ?_) (fun h => ?_)))
    all_goals (show AV.bool _ = AV.bool _; congr 1; unfold ownSF; symm; rw [Bool.and_eq_false_iff]; left; simpa using fun h => absurd h (by omega))
  · have e1 : decide (kind < 1) = false := by simpa using h1
    by_cases h2 : 11 < kind
    · have e2 : decide (kind > 11) = true := by simpa using h2
      refine fn_val follows noNum isWordF_sound Tryz.func48 rfl ?_
      repeat' ((conv => whnf); (first | refine stp ?_ | with_reducible refine condB (fun h => ?_) (fun h => ?_)))
      all_goals (show AV.bool _ = AV.bool _; congr 1; unfold ownSF; symm; rw [Bool.and_eq_false_iff]; left; simpa using fun _ => h2)
    · clear e1
      have hop : kind = 1 ∨ kind = 2 ∨ kind = 3 ∨ kind = 4 ∨ kind = 5 ∨ kind = 6 ∨ kind = 7 ∨ kind = 8 ∨ kind = 9 ∨ kind = 10 ∨ kind = 11 := by omega
      clear h1 h2
      have b1 : ∀ m, isW m name = true ∨ isW m name = false := fun m => by cases isW m name <;> simp
      have b2 : ∀ m, isW m loc = true ∨ isW m loc = false := fun m => by cases isW m loc <;> simp
      rcases hop with rfl | rfl | rfl | rfl | rfl | rfl | rfl | rfl | rfl | rfl | rfl
      all_goals (refine fn_val follows noNum isWordF_sound Tryz.func48 rfl ?_)
      all_goals (repeat' ((conv => whnf); first | (refine exI (q1 _ _) ?_) | (refine exI (q2 _ _) ?_) | (first | refine stp ?_ | with_reducible refine condB (fun h => ?_) (fun h => ?_))))
      all_goals (clear q1 q2 hb b1 b2)
      all_goals (first | rfl | (show AV.bool _ = AV.bool _; rw [AV.bool.injEq, Bool.eq_iff_iff]; simp_all [ownSF, hasN, hasL, hasO, hasX, hasT, hasE]; done) | (show AV.bool _ = AV.bool _; rw [AV.bool.injEq, Bool.eq_iff_iff]; simp_all [ownSF, hasN, hasL, hasO, hasX, hasT, hasE]; omega) | skip)
      all_goals trace_state
end Go.Proofs.YtblnhcafobifgaaGreatDoor.lex
end


section

set_option linter.unusedVariables false
set_option linter.unusedSimpArgs false
namespace Go.Proofs.YtblnhcafobifgaaGreatDoor.lex
open Go.Abs Go.RowKit
set_option maxRecDepth 100000
set_option maxHeartbeats 4000000
def rS (x : St) (_ : Int) (s : Unit) : Bool × Unit := (ownS x, s)
mutual
def rightS : St → Bool
  | .mk k n l o x t e => ownS (.mk k n l o x t e) && (rightL x && (rightSL t && rightSL e))
def rightSL : List St → Bool
  | [] => true
  | x :: l => rightS x && rightSL l
end
theorem rightS_eq : ∀ x : St, rightS x = (ownS x && (rightL x.exprs && (rightSL x.thn && rightSL x.els)))
  | .mk _ _ _ _ _ _ _ => by simp only [rightS, St.exprs, St.thn, St.els]
mutual
theorem goS_r : ∀ (x : St) (d : Int) (s : Unit), goS rE rS x d s = (rightS x, ())
  | .mk k n l o x t e, d, s => by
    simp only [goS, rS, rightS, goL_r x (d + 1) (), goSL_r t (d + 1) (), goSL_r e (d + 1) (), thenB]
    cases ownS (.mk k n l o x t e) <;> cases rightL x <;> cases rightSL t <;> rfl
theorem goSL_r : ∀ (l : List St) (d : Int) (s : Unit), goSL rE rS l d s = (rightSL l, ())
  | [], d, s => by simp only [goSL, rightSL]
  | x :: l, d, s => by
    simp only [goSL, goS_r x d s, goSL_r l d (), rightSL, thenB]
    cases rightS x <;> rfl
end
def rV : TvS runLives.gl where
  σ := Unit
  Mem := fun _ => []
  k := 0
  len := fun _ => rfl
  same := fun _ => ⟨trivial, rfl, rfl⟩
  evo := fun _ _ => rfl
  inj := fun _ _ _ => rfl
  I := fun d s m => 0 ≤ d ∧ d + m ≤ 1152921504606846976
  up := fun d s m h0 h => ⟨h0, by have := h.2; omega⟩
  less := fun d s m h => ⟨h.1, by have := h.2; omega⟩
  bnd := fun d s m h => ⟨h.1, by have := h.2; omega⟩
  gE := 47
  cE := []
  hE := rE
  bodyE := by kernel_rfl
  wkE := trivial
  okE := fun e rest d s m ho _ => mem_of_val (rightX_ok e rest d ho) rfl
  downE := fun e d s m h _ => ⟨by have := h.1; omega, by have := h.2; omega⟩
  gS := 48
  cS := []
  hS := rS
  bodyS := by kernel_rfl
  wkS := trivial
  okS := fun x rest d s m ho _ => by
    refine mem_of_val ?_ rfl
    obtain ⟨k1, k2, _⟩ := okS_parts ho
    obtain ⟨k, n, l, o, x, t, e⟩ := x
    simp only [St.cells, exA]
    exact rightS_key k n l o x.length t.length e.length _ _ _ rest d k1 k2
  downS := fun e d s m h _ => ⟨by have := h.1; omega, by have := h.2; omega⟩
theorem stmts_r (l : List St) (d : Int) (hok : okSL l) (hl : l.length ≤ 9223372036854775807) (h0 : 0 ≤ d) (h1 : d + sizeSL l ≤ 1152921504606846976) : ValOK Tryz.prog runLives.gl 46 [stA l, .int .i64 d, .func (.func 47) [] [], .func (.func 48) [] []] (.bool (rightSL l)) := by
  have := TvS.stmts rV (sizeSL l) l d () 0 (Nat.le_refl _) hok hl ⟨h0, h1⟩
  have e : (goSL rV.hE rV.hS l d ()).1 = rightSL l := by
    have := goSL_r l d ()
    show (goSL rE rS l d ()).1 = _
    rw [this]
  rw [e] at this
  exact val_of_mem this rfl
def cS (_ : St) (d : Int) (n : Nat) : Bool × Nat := (decide (((n + 1 : Nat) : Int) ≤ 2000) && decide (d ≤ 32), n + 1)
mutual
theorem goS_c : ∀ (x : St) (d : Int) (n : Nat), Cnt (goS cE cS x d n) n (sizeS x) (d + deepS x)
  | .mk k nm lc o x t e, d, n => by
    simp only [goS]
    refine Cnt.to (cnt_then (cnt_one d n) fun h1 h2 => cnt_then (goL_c x (d + 1) (n + 1) h1 h2) fun h1 _ => cnt_then (goSL_c t (d + 1) _ h1 h2) fun h1 _ => goSL_c e (d + 1) _ h1 h2) ?_ ?_
    · simp only [sizeS]; omega
    · simp only [deepS]; omega
theorem goSL_c : ∀ (l : List St) (d : Int) (n : Nat), n ≤ 2000 → d ≤ 33 → Cnt (goSL cE cS l d n) n (sizeSL l) (d + deepSL l)
  | [], d, n, h1, h2 => by simp only [goSL, sizeSL, deepSL]; exact ⟨⟨fun _ => by omega, fun _ => rfl⟩, fun _ => rfl⟩
  | e :: l, d, n, h1, h2 => by
    simp only [goSL]
    exact (cnt_then (goS_c e d n) fun h1 _ => goSL_c l d _ h1 h2).to (by simp only [sizeSL]) (by simp only [deepSL]; omega)
end
end Go.Proofs.YtblnhcafobifgaaGreatDoor.lex
end


section

set_option linter.unusedVariables false
set_option linter.unusedSimpArgs false
namespace Go.Proofs.YtblnhcafobifgaaGreatDoor.lex
open Go.Abs Go.RowKit
set_option maxRecDepth 100000
set_option maxHeartbeats 4000000
def deepTL : List (List St) → Nat
  | [] => 0
  | l :: t => max (deepSL l) (deepTL t)
end Go.Proofs.YtblnhcafobifgaaGreatDoor.lex
end


section

set_option linter.unusedVariables false
set_option linter.unusedSimpArgs false
namespace Go.Proofs.YtblnhcafobifgaaGreatDoor.lex
open Go.Abs Go.RowKit
set_option maxRecDepth 100000
set_option maxHeartbeats 4000000
def ckB (n : Nat) (g : Bool) : AHeap := [⟨true, 0, 0, .cells [.int .i64 n] 3⟩, ⟨true, 1, 0, .cells [.bool g] 4⟩, ⟨true, 2, 0, .cells [.func (.func 71) [] [.ptr 0 0]] 80⟩]
def ckH (s : Nat × Bool) : AHeap := [⟨true, 0, 0, .cells [.int .i64 s.1] 3⟩, ⟨true, 1, 0, .cells [.bool s.2] 4⟩, ⟨true, 2, 0, .cells [.func (.func 71) [] [.ptr 0 0]] 80⟩, ⟨true, 3, 0, .cells [.func (.func 44) [] [.ptr 2 0, .ptr 1 0]] 80⟩]
def lim (n : Nat) (d : Int) : Bool := decide (((n + 1 : Nat) : Int) ≤ 2000) && decide (d ≤ 32)
def ckE (_ : Ex) (d : Int) (s : Nat × Bool) : Bool × (Nat × Bool) := (lim s.1 d, (s.1 + 1, lim s.1 d))
def ckS (_ : St) (d : Int) (s : Nat × Bool) : Bool × (Nat × Bool) := (lim s.1 d, (s.1 + 1, lim s.1 d))
theorem ck1_ok (cs : List AV) (d : Int) (n : Nat) (g : Bool) (hn : n ≤ 2000) : MemOK Tryz.prog runLives.gl 72 [.rp cs, .int .i64 d, .ptr 3 0] (ckH (n, g)) (.bool (lim n d)) (ckH (n + 1, lim n d)) := by
  refine fn_mem (k := 4) follows noNum (orcN_sound follows noNum isWordF_sound 4) rfl Tryz.func72 rfl (wcall_ok (isC := fun _ => false) 4) ?_
  repeat' ((conv => whnf); first | refine stp ?_ | with_reducible refine condB (fun h => ?_) (fun h => ?_))
  all_goals (conv => whnf)
  all_goals (exact ⟨by unfold lim; rw [h]; rfl, by unfold lim; rw [h]; rfl, rfl⟩)
theorem ck2_ok (cs : List AV) (d : Int) (n : Nat) (g : Bool) (hn : n ≤ 2000) : MemOK Tryz.prog runLives.gl 73 [.rp cs, .int .i64 d, .ptr 3 0] (ckH (n, g)) (.bool (lim n d)) (ckH (n + 1, lim n d)) := by
  refine fn_mem (k := 4) follows noNum (orcN_sound follows noNum isWordF_sound 4) rfl Tryz.func73 rfl (wcall_ok (isC := fun _ => false) 4) ?_
  repeat' ((conv => whnf); first | refine stp ?_ | with_reducible refine condB (fun h => ?_) (fun h => ?_))
  all_goals (conv => whnf)
  all_goals (exact ⟨by unfold lim; rw [h]; rfl, by unfold lim; rw [h]; rfl, rfl⟩)
theorem ckH_inj {a b : Nat × Bool} (h : ckH a = ckH b) : a = b := by
  simp only [ckH, List.cons.injEq, AObj.mk.injEq, ABody.cells.injEq, AV.int.injEq, AV.bool.injEq, and_true, true_and] at h
  obtain ⟨x, y⟩ := a
  obtain ⟨z, w⟩ := b
  simp only at h
  rw [show x = z by omega, h.2]
def tw (r : Bool × Nat) : Bool × (Nat × Bool) := (r.1, (r.2, r.1))
theorem tw_then {r : Bool × Nat} {f : Nat → Bool × Nat} {f' : Nat × Bool → Bool × (Nat × Bool)} (h : ∀ n, f' (n, true) = tw (f n)) : thenB (tw r) f' = tw (thenB r f) := by
  obtain ⟨b, n⟩ := r
  cases b with
  | true => exact h n
  | false => rfl
mutual
theorem goE_ck : ∀ (e : Ex) (d : Int) (n : Nat), goE ckE e d (n, true) = tw (goE cE e d n)
  | .mk o num s k, d, n => by
    have e1 : goE ckE (.mk o num s k) d (n, true) = thenB (tw (cE (.mk o num s k) d n)) fun s => goL ckE k (d + 1) s := by simp only [goE]; rfl
    have e2 : goE cE (.mk o num s k) d n = thenB (cE (.mk o num s k) d n) fun s => goL cE k (d + 1) s := by simp only [goE, thenB]
    rw [e1, e2]
    exact tw_then fun n => goL_ck k (d + 1) n
theorem goL_ck : ∀ (l : List Ex) (d : Int) (n : Nat), goL ckE l d (n, true) = tw (goL cE l d n)
  | [], d, n => by simp only [goL, tw]
  | e :: l, d, n => by
    have e1 : goL ckE (e :: l) d (n, true) = thenB (goE ckE e d (n, true)) fun s => goL ckE l d s := by simp only [goL, thenB]
    have e2 : goL cE (e :: l) d n = thenB (goE cE e d n) fun s => goL cE l d s := by simp only [goL, thenB]
    rw [e1, e2, goE_ck e d n]
    exact tw_then fun n => goL_ck l d n
end
mutual
theorem goS_ck : ∀ (x : St) (d : Int) (n : Nat), goS ckE ckS x d (n, true) = tw (goS cE cS x d n)
  | .mk k nm lc o x t e, d, n => by
    simp only [goS]
    rw [show ckS (.mk k nm lc o x t e) d (n, true) = tw (cS (.mk k nm lc o x t e) d n) from rfl]
    exact tw_then fun n => by
      rw [goL_ck x (d + 1) n]
      exact tw_then fun n => by
        rw [goSL_ck t (d + 1) n]
        exact tw_then fun n => goSL_ck e (d + 1) n
theorem goSL_ck : ∀ (l : List St) (d : Int) (n : Nat), goSL ckE ckS l d (n, true) = tw (goSL cE cS l d n)
  | [], d, n => by simp only [goSL, tw]
  | e :: l, d, n => by
    simp only [goSL]
    rw [goS_ck e d n]
    exact tw_then fun n => goSL_ck l d n
end
theorem ckV_down (d : Int) (s : Nat × Bool) (h : 0 ≤ d ∧ d ≤ 33 ∧ s.1 ≤ 2000) (ht : lim s.1 d = true) : 0 ≤ d + 1 ∧ d + 1 ≤ 33 ∧ s.1 + 1 ≤ 2000 :=
  have h2 : s.1 + 1 ≤ 2000 ∧ d + 1 ≤ 33 := (cnt_one d s.1).1.1 ht
  have h3 : 0 ≤ d := h.1
  ⟨by clear h ht h2; omega, h2.2, h2.1⟩
theorem ckV_up (d : Int) (s : Nat × Bool) (h0 : 0 ≤ d) (h : 0 ≤ d + 1 ∧ d + 1 ≤ 33 ∧ s.1 ≤ 2000) : 0 ≤ d ∧ d ≤ 33 ∧ s.1 ≤ 2000 := ⟨h0, by have := h.2.1; clear h; omega, h.2.2⟩
theorem ckV_bnd (d : Int) (s : Nat × Bool) (h : 0 ≤ d ∧ d ≤ 33 ∧ s.1 ≤ 2000) : 0 ≤ d ∧ d ≤ 1152921504606846976 := ⟨h.1, by have := h.2.1; clear h; omega⟩
def ckV : TvS runLives.gl where
  σ := Nat × Bool
  Mem := ckH
  k := 4
  len := fun _ => rfl
  same := fun s => ⟨⟨⟨rfl, rfl, rfl, rfl, BodyGe.pre (rest := []) rfl rfl⟩, ⟨rfl, rfl, rfl, rfl, BodyGe.pre (rest := []) rfl rfl⟩, ⟨rfl, rfl, rfl, rfl, BodyGe.cellsL ⟨Wk.func trivial ⟨Wk.ptr rfl rfl, trivial⟩, trivial⟩⟩, ⟨rfl, rfl, rfl, rfl, BodyGe.cellsL ⟨Wk.func trivial ⟨Wk.ptr rfl rfl, Wk.ptr rfl rfl, trivial⟩, trivial⟩⟩, trivial⟩, rfl, rfl⟩
  evo := fun _ _ => rfl
  inj := fun _ _ h => ckH_inj h
  I := fun d s m => 0 ≤ d ∧ d ≤ 33 ∧ s.1 ≤ 2000
  up := fun d s m h0 h => ckV_up d s h0 h
  less := fun d s m h => h
  bnd := fun d s m h => ckV_bnd d s h
  gE := 72
  cE := [.ptr 3 0]
  hE := ckE
  bodyE := by kernel_rfl
  wkE := ⟨Wk.ptr rfl rfl, trivial⟩
  okE := fun e rest d s m _ h => ck1_ok (e.cells ++ rest) d s.1 s.2 h.2.2
  downE := fun e d s m h ht => ckV_down d s h ht
  gS := 73
  cS := [.ptr 3 0]
  hS := ckS
  bodyS := by kernel_rfl
  wkS := ⟨Wk.ptr rfl rfl, trivial⟩
  okS := fun x rest d s m _ h => ck2_ok (x.cells ++ rest) d s.1 s.2 h.2.2
  downS := fun e d s m h ht => ckV_down d s h ht
def ckF : AV := .func (.func 72) [] [.ptr 3 0]
def ckG : AV := .func (.func 73) [] [.ptr 3 0]
theorem ck_stmts (l : List St) (n : Nat) (hok : okSL l) (hl : l.length ≤ 9223372036854775807) (hn : n ≤ 2000) : MemOK Tryz.prog runLives.gl 46 [stA l, .int .i64 1, ckF, ckG] (ckH (n, true)) (.bool (goSL cE cS l 1 n).1) (ckH ((goSL cE cS l 1 n).2, (goSL cE cS l 1 n).1)) := by
  have := TvS.stmts ckV (sizeSL l) l 1 (n, true) 0 (Nat.le_refl _) hok hl ⟨by decide, by decide, hn⟩
  have e : goSL ckV.hE ckV.hS l 1 (n, true) = tw (goSL cE cS l 1 n) := goSL_ck l 1 n
  rw [e] at this
  exact this
def cnH (n : Nat) (g : Bool) (nd nt : Nat) (cd ct : List AV) : AHeap := [⟨true, 0, 0, .cells [.int .i64 n] 3⟩, ⟨true, 1, 0, .cells [.bool g] 4⟩, ⟨true, 2, 0, .cells [.func (.func 71) [] [.ptr 0 0]] 80⟩, ⟨true, 3, 0, .cells [.rs nd 3 cd, .rs nt 1 ct] 29⟩, ⟨true, 4, 0, .cells [.func (.func 44) [] [.ptr 2 0, .ptr 1 0]] 80⟩]
def cnF : AV := .func (.func 72) [] [.ptr 4 0]
def cnG : AV := .func (.func 73) [] [.ptr 4 0]
theorem ck_nd (nd nt : Nat) (cd ct : List AV) (l : List St) (n : Nat) (hok : okSL l) (hl : l.length ≤ 9223372036854775807) (hn : n ≤ 2000) : MemOK Tryz.prog runLives.gl 46 [stA l, .int .i64 1, cnF, cnG] (cnH n true nd nt cd ct) (.bool (goSL cE cS l 1 n).1) (cnH (goSL cE cS l 1 n).2 (goSL cE cS l 1 n).1 nd nt cd ct) := by
  have hM := ck_stmts l n hok hl hn
  generalize goSL cE cS l 1 n = r at *
  have h := mem_frame (m := [0, 1, 2, 4]) (n := 5) (Hc := cnH n true nd nt cd ct) (cargs := [stA l, .int .i64 1, cnF, cnG]) hM ?_ ?_ rfl rfl rfl rfl rfl rfl
  · have e1 : updM [0, 1, 2, 4] (ckH (r.2, r.1)) 0 (cnH n true nd nt cd ct) = cnH r.2 r.1 nd nt cd ct := rfl
    rw [e1] at h
    exact h
  · rfl
  · exact ⟨⟨rfl, rfl, rfl, rfl, BodyGe.pre (rest := []) rfl rfl⟩, ⟨rfl, rfl, rfl, rfl, BodyGe.pre (rest := []) rfl rfl⟩, ⟨rfl, rfl, rfl, rfl, BodyGe.cellsL ⟨Wk.func trivial ⟨Wk.ptr rfl rfl, trivial⟩, trivial⟩⟩, ⟨rfl, rfl, rfl, rfl, BodyGe.cellsL ⟨Wk.func trivial ⟨Wk.ptr rfl rfl, Wk.ptr rfl rfl, trivial⟩, trivial⟩⟩, trivial⟩
def goT (g : List St → Nat → Bool × Nat) : List (List St) → Nat → Bool × Nat
  | [], n => (true, n)
  | l :: t, n => thenB (g l n) fun n => goT g t n
theorem goT_at {g : List St → Nat → Bool × Nat} : ∀ (t : List (List St)) (n i : Nat) (hi : i < t.length), (goT g (t.take i) n).1 = true → goT g (t.take (i + 1)) n = g t[i] (goT g (t.take i) n).2
  | e :: l, n, 0, _, _ => by
    simp only [List.take_zero, List.take_succ_cons, goT, List.getElem_cons_zero, thenB]
    split
    · rename_i h2; rw [← h2]
    · rename_i h2; rw [← Bool.eq_false_iff.2 h2]
  | e :: l, n, i + 1, hi, ht => by
    simp only [List.take_succ_cons, goT, List.getElem_cons_succ, thenB] at ht ⊢
    split
    · rename_i h2
      rw [if_pos h2] at ht
      exact goT_at l _ i (by simpa using hi) ht
    · rename_i h2; rw [if_neg h2] at ht; cases ht
theorem goT_stop {g : List St → Nat → Bool × Nat} : ∀ (t : List (List St)) (n i : Nat), (goT g (t.take i) n).1 = false → goT g t n = goT g (t.take i) n
  | [], n, i, hf => by simp
  | e :: l, n, 0, hf => by simp only [List.take_zero, goT] at hf; cases hf
  | e :: l, n, i + 1, hf => by
    simp only [List.take_succ_cons, goT, thenB] at hf ⊢
    split
    · rename_i h2
      rw [if_pos h2] at hf
      exact goT_stop l _ i hf
    · rfl
def cT (ts : List (List St)) (n : Nat) : Bool × Nat := goT (fun l n => goSL cE cS l 1 n) ts n
theorem cT_cnt : ∀ (ts : List (List St)) (n : Nat), n ≤ 2000 → Cnt (cT ts n) n (sizeTL ts) (1 + deepTL ts)
  | [], n, h => by
    simp only [cT, goT, sizeTL, deepTL]
    exact ⟨⟨fun _ => by omega, fun _ => rfl⟩, fun _ => rfl⟩
  | l :: t, n, h => by
    have := cnt_then (f := fun n => cT t n) (goSL_c l 1 n h (by omega)) fun h1 _ => cT_cnt t _ h1
    refine Cnt.to this (by simp only [sizeTL]) ?_
    simp only [deepTL]; omega
theorem nodes_ck (ts : List (List St)) (nd : Nat) (cd : List AV) (hok : okTL ts) (hl : ts.length ≤ 9223372036854775807) :
    MemOK Tryz.prog runLives.gl 43 [.agg [.rs nd 3 cd, .rs ts.length 1 (ts.map stA)], .func (.func 44) [] [.ptr 2 0, .ptr 1 0]] (ckB 0 true) (.tuple []) (ckB (cT ts 0).2 (cT ts 0).1) := by
  obtain ⟨O, hO, ⟨p1, -⟩, -⟩ := famsM (P := Tryz.prog) (gl := runLives.gl) [{ I := List St × Nat, f := 46, G := (fun p => okSL p.1 ∧ p.1.length ≤ 9223372036854775807 ∧ p.2 ≤ 2000), A := (fun p => [stA p.1, .int .i64 1, cnF, cnG]), H := (fun p => cnH p.2 true nd ts.length cd (ts.map stA)), R := (fun p => .bool (goSL cE cS p.1 1 p.2).1), O := (fun p => cnH (goSL cE cS p.1 1 p.2).2 (goSL cE cS p.1 1 p.2).1 nd ts.length cd (ts.map stA)), body := (by kernel_rfl), inj := (fun p q _ _ ha hh => by simp only [List.cons.injEq, and_true] at ha; simp only [cnH, List.cons.injEq, AObj.mk.injEq, ABody.cells.injEq, AV.int.injEq, and_true, true_and] at hh; rw [stA_inj ha, show p.2 = q.2 by omega]; exact ⟨rfl, rfl⟩), ok := (fun p hp => ck_nd _ _ _ _ p.1 p.2 hp.1 hp.2.1 hp.2.2) }] [] rfl
  have q1 : ∀ l n, okSL l → l.length ≤ 9223372036854775807 → n ≤ 2000 → acall Tryz.prog O (cnH n true nd ts.length cd (ts.map stA)) 46 [stA l, .int .i64 1, cnF, cnG] = some (.bool (goSL cE cS l 1 n).1, cnH (goSL cE cS l 1 n).2 (goSL cE cS l 1 n).1 nd ts.length cd (ts.map stA)) := fun l n h1 h2 h3 => p1 (l, n) ⟨h1, h2, h3⟩
  clear p1
  refine fn_mem (k := 3) follows noNum hO rfl Tryz.func43 rfl (cw0_ok _ _) ?_
  repeat' ((conv => whnf); first | refine stp ?_ | with_reducible refine condB (fun h => ?_) (fun h => ?_))
  conv => whnf
  refine ⟨Nat, (fun i => i ≤ ts.length ∧ (cT (ts.take i) 0).1 = true), (fun i => [(4, cnF), (5, cnG), (11, .rs ts.length 1 (ts.map stA)), (12, .int .i64 ts.length), (13, .int .i64 i)]), (fun i => cnH (cT (ts.take i) 0).2 true nd ts.length cd (ts.map stA)), (fun i => ts.length - i), ⟨0, ⟨Nat.zero_le _, rfl⟩, FgLK.mk [0, 1, 2, 3, 4] rfl rfl ?_ ⟨⟨rfl, rfl, rfl, rfl, BodyGe.pre (rest := []) rfl rfl⟩, ⟨rfl, rfl, rfl, rfl, BodyGe.pre (rest := []) rfl rfl⟩, ⟨rfl, rfl, rfl, rfl, BodyGe.cellsL ⟨Wk.func trivial ⟨Wk.ptr rfl rfl, trivial⟩, trivial⟩⟩, ⟨rfl, rfl, rfl, rfl, BodyGe.pre (rest := []) rfl rfl⟩, ⟨rfl, rfl, rfl, rfl, BodyGe.cellsL ⟨Wk.func trivial ⟨Wk.ptr rfl rfl, Wk.ptr rfl rfl, trivial⟩, trivial⟩⟩, trivial⟩ rfl⟩, ?_⟩
  · refine And.intro (Wk.func trivial ⟨Wk.ptr rfl rfl, trivial⟩) ?_
    refine And.intro (Wk.func trivial ⟨Wk.ptr rfl rfl, trivial⟩) ?_
    refine And.intro (Wk.noref rfl) ?_
    refine And.intro (Wk.int rfl) ?_
    exact ⟨Wk.int rfl, trivial⟩
  rintro i ⟨hi, hall⟩
  dsimp only
  have hb : (cT (ts.take i) 0).2 ≤ 2000 := by
    have h1 := cT_cnt (ts.take i) 0 (by decide)
    rw [h1.2 hall]; exact (h1.1.1 hall).1
  by_cases hlt : i < ts.length
  · have e1 : decide ((i : Int) < (ts.length : Int)) = true := by simpa using hlt
    have hat : cT (ts.take (i + 1)) 0 = goSL cE cS ts[i] 1 (cT (ts.take i) 0).2 := goT_at ts 0 i hlt hall
    have hst : (cT (ts.take (i + 1)) 0).1 = false → cT ts 0 = cT (ts.take (i + 1)) 0 := goT_stop ts 0 (i + 1)
    have hx := th1 ts i hlt
    obtain ⟨k1, k2⟩ := okTL_get hok _ (get_mem hlt)
    have q2 := q1 ts[i] (cT (ts.take i) 0).2 k1 k2 hb
    generalize (cT (ts.take i) 0).2 = n at *
    generalize ts[i] = l at *
    generalize goSL cE cS l 1 n = r at *
    obtain ⟨b, n2⟩ := r
    simp only [stA] at hx
    simp only [stA, cnF, cnG, cnH] at q2
    cases b with
    | true =>
      repeat' ((conv => whnf); first | (refine exI hx ?_) | (refine exI q2 ?_) | (with_reducible refine ixJ i rfl ?_ ?_; (focus (omega))) | (first | refine stp ?_ | with_reducible refine condB (fun h => ?_) (fun h => ?_)))
      conv => whnf
      refine ⟨i + 1, ⟨hlt, by rw [hat]⟩, by show ts.length - (i + 1) < ts.length - i; omega, FgLK.mk [0, 1, 2, 3, 4] rfl rfl ?_ ⟨⟨rfl, rfl, rfl, rfl, ?_⟩, ⟨rfl, rfl, rfl, rfl, BodyGe.pre (rest := []) rfl rfl⟩, ⟨rfl, rfl, rfl, rfl, BodyGe.cellsL ⟨Wk.func trivial ⟨Wk.ptr rfl rfl, trivial⟩, trivial⟩⟩, ⟨rfl, rfl, rfl, rfl, BodyGe.pre (rest := []) rfl rfl⟩, ⟨rfl, rfl, rfl, rfl, BodyGe.cellsL ⟨Wk.func trivial ⟨Wk.ptr rfl rfl, Wk.ptr rfl rfl, trivial⟩, trivial⟩⟩, trivial⟩ rfl⟩
      · refine And.intro (Wk.func trivial ⟨Wk.ptr rfl rfl, trivial⟩) ?_
        refine And.intro (Wk.func trivial ⟨Wk.ptr rfl rfl, trivial⟩) ?_
        refine And.intro (Wk.noref rfl) ?_
        refine And.intro (Wk.int rfl) ?_
        exact ⟨Wk.int rfl, trivial⟩
      · rw [hat]
        exact BodyGe.pre (rest := []) rfl rfl
    | false =>
      rw [hst (by rw [hat]), hat]
      repeat' ((conv => whnf); first | (refine exI hx ?_) | (refine exI q2 ?_) | (with_reducible refine ixJ i rfl ?_ ?_; (focus (omega))) | (first | refine stp ?_ | with_reducible refine condB (fun h => ?_) (fun h => ?_)))
      all_goals (conv => whnf)
      all_goals (exact ⟨rfl, rfl⟩)
  · have e1 : decide ((i : Int) < (ts.length : Int)) = false := by simpa using hlt
    have hi2 : i = ts.length := by have := hi; omega
    subst hi2
    rw [List.take_length] at hall ⊢
    rw [hall]
    generalize (cT ts 0).2 = n at *
    repeat' ((conv => whnf); first | refine stp ?_ | with_reducible refine condB (fun h => ?_) (fun h => ?_))
    all_goals (conv => whnf)
    all_goals (exact ⟨rfl, rfl⟩)
end Go.Proofs.YtblnhcafobifgaaGreatDoor.lex
end


section

set_option linter.unusedVariables false
set_option linter.unusedSimpArgs false
namespace Go.Proofs.YtblnhcafobifgaaGreatDoor.lex
open Go.Abs Go.RowKit
set_option maxRecDepth 100000
set_option maxHeartbeats 4000000
variable {gl : Glob}
end Go.Proofs.YtblnhcafobifgaaGreatDoor.lex
end


section

set_option linter.unusedVariables false
set_option linter.unusedSimpArgs false
namespace Go.Proofs.YtblnhcafobifgaaGreatDoor.lex
open Go.Abs Go.RowKit
set_option maxRecDepth 100000
set_option maxHeartbeats 8000000
variable {gl : Glob}
def isK (k : Int) : Bool := decide (1 ≤ k ∧ k ≤ 11)
def hX (k : Int) : Int := if isK k then hasX k else 0
def hT (k : Int) : Bool := isK k && hasT k
end Go.Proofs.YtblnhcafobifgaaGreatDoor.lex
end


section

set_option linter.unusedVariables false
set_option linter.unusedSimpArgs false
namespace Go.Proofs.YtblnhcafobifgaaGreatDoor.lex
open Go.Abs Go.RowKit
set_option maxRecDepth 100000
set_option maxHeartbeats 8000000
variable {gl : Glob}
end Go.Proofs.YtblnhcafobifgaaGreatDoor.lex
end


section

set_option linter.unusedVariables false
set_option linter.unusedSimpArgs false
namespace Go.Proofs.YtblnhcafobifgaaGreatDoor.lex
open Go.Abs Go.RowKit
set_option maxRecDepth 100000
set_option maxHeartbeats 4000000
variable {gl : Glob}
def dcB (d : Dc) : Bool := wordB d.name && decide (0 ≤ d.val)
def rightTL : List (List St) → Bool
  | [] => true
  | l :: t => rightSL l && rightTL t
def checkP (p : Pr) : Int := if 2000 < sizeTL p.threads ∨ 32 < deepTL p.threads then 3 else if p.decls.all dcB && rightTL p.threads then 0 else 2
theorem rightTL_take : ∀ (l : List (List St)) (i : Nat) (h : i < l.length), rightTL (l.take (i + 1)) = (rightTL (l.take i) && rightSL l[i])
  | e :: l, 0, h => by simp only [List.take_succ_cons, List.take_zero, rightTL, List.getElem_cons_zero, Bool.and_true, Bool.true_and]
  | e :: l, i + 1, h => by
    have := rightTL_take l i (by simpa using h)
    simp only [List.take_succ_cons, rightTL, List.getElem_cons_succ] at this ⊢; rw [this, Bool.and_assoc]
theorem rightTL_get : ∀ {l : List (List St)} {i : Nat} (h : i < l.length), rightSL l[i] = false → rightTL l = false
  | e :: l, 0, h, h2 => by simp only [List.getElem_cons_zero] at h2; simp only [rightTL, h2, Bool.false_and]
  | e :: l, i + 1, h, h2 => by simp only [List.getElem_cons_succ] at h2; simp only [rightTL, rightTL_get (l := l) (by simpa using h) h2, Bool.and_false]
theorem all_take {α : Type} (f : α → Bool) : ∀ (l : List α) (i : Nat) (h : i < l.length), (l.take (i + 1)).all f = ((l.take i).all f && f l[i])
  | e :: l, 0, h => by simp
  | e :: l, i + 1, h => by
    have := all_take f l i (by simpa using h)
    simp only [List.take_succ_cons, List.all_cons, List.getElem_cons_succ] at this ⊢; rw [this, Bool.and_assoc]
theorem all_get {α : Type} (f : α → Bool) {l : List α} {i : Nat} (h : i < l.length) (h2 : f l[i] = false) : l.all f = false := by
  rw [List.all_eq_false]; exact ⟨_, get_mem h, by simp [h2]⟩
end Go.Proofs.YtblnhcafobifgaaGreatDoor.lex
end


section

set_option linter.unusedVariables false
set_option linter.unusedSimpArgs false
namespace Go.Proofs.YtblnhcafobifgaaGreatDoor.lex
open Go.Abs Go.RowKit
set_option maxRecDepth 100000
set_option maxHeartbeats 4000000
def chC (ds : List Dc) (ts : List (List St)) (n : Nat) (g : Bool) : AHeap := [⟨true, 0, 0, .cells [.rs ds.length 3 (dcC ds), .rs ts.length 1 (ts.map stA)] 29⟩, ⟨true, 1, 0, .cells [.int .i64 n] 3⟩, ⟨true, 2, 0, .cells [.bool g] 4⟩, ⟨true, 3, 0, .cells [.func (.func 71) [] [.ptr 1 0]] 80⟩]
theorem ck_call (ds : List Dc) (ts : List (List St)) (hok : okTL ts) (hl : ts.length ≤ 9223372036854775807) :
    MemOK Tryz.prog runLives.gl 43 [.agg [.rs ds.length 3 (dcC ds), .rs ts.length 1 (ts.map stA)], .func (.func 44) [] [.ptr 3 0, .ptr 2 0]] (chC ds ts 0 true) (.tuple []) (chC ds ts (cT ts 0).2 (cT ts 0).1) := by
  have hM := nodes_ck ts ds.length (dcC ds) hok hl
  have h := mem_frame (m := [1, 2, 3]) (n := 4) (Hc := chC ds ts 0 true) (cargs := [.agg [.rs ds.length 3 (dcC ds), .rs ts.length 1 (ts.map stA)], .func (.func 44) [] [.ptr 3 0, .ptr 2 0]]) hM ?_ ?_ rfl rfl rfl rfl rfl rfl
  · exact h
  · rfl
  · exact ⟨⟨rfl, rfl, rfl, rfl, BodyGe.pre (rest := []) rfl rfl⟩, ⟨rfl, rfl, rfl, rfl, BodyGe.pre (rest := []) rfl rfl⟩, ⟨rfl, rfl, rfl, rfl, BodyGe.cellsL ⟨Wk.func trivial ⟨Wk.ptr rfl rfl, trivial⟩, trivial⟩⟩, trivial⟩
theorem ck_says (ts : List (List St)) : (cT ts 0).1 = true ↔ ¬ (2000 < sizeTL ts ∨ 32 < deepTL ts) := by
  rw [(cT_cnt ts 0 (by decide)).1]; omega
theorem checkPX_ok (p : Pr) (hok : okP p) (hs : sizeTL p.threads ≤ 1000000) : ValOK Tryz.prog runLives.gl 26 [p.av] (.int .i64 (checkP p)) := by
  obtain ⟨⟨hd1, hd2⟩, ht1, ht2⟩ := hok
  obtain ⟨ds, ts⟩ := p
  have hsay := ck_says ts
  simp only [Pr.av, checkP] at *
  obtain ⟨O, hO, ⟨p1, -⟩, ⟨p2, p3, -⟩⟩ := famsM (P := Tryz.prog) (gl := runLives.gl) [{ I := Unit, f := 43, G := (fun _ => True), A := (fun _ => [.agg [.rs ds.length 3 (dcC ds), .rs ts.length 1 (ts.map stA)], .func (.func 44) [] [.ptr 3 0, .ptr 2 0]]), H := (fun _ => chC ds ts 0 true), R := (fun _ => .tuple []), O := (fun _ => chC ds ts (cT ts 0).2 (cT ts 0).1), body := (by kernel_rfl), inj := (fun _ _ _ _ _ _ => ⟨rfl, rfl⟩), ok := (fun _ _ => ck_call ds ts ht1 ht2) }]
    [{ I := List St, f := 46, G := (fun x => x ∈ ts), A := (fun x => [stA x, .int .i64 1, .func (.func 47) [] [], .func (.func 48) [] []]), R := (fun x => .bool (rightSL x)), body := (by kernel_rfl), inj := (fun i j _ _ h => by simp only [List.cons.injEq, and_true] at h; rw [stA_inj h]), ok := (fun x hx => ⟨rfl, stmts_r x 1 (okTL_get ht1 _ hx).1 (okTL_get ht1 _ hx).2 (by decide) (by have := sizeTL_mem _ _ hx; omega)⟩) },
     { I := List UInt8, f := 45, G := (fun s => s.length ≤ 9223372036854775807), A := (fun s => [.str s, .bool true]), R := (fun s => .bool (wordB s)), body := (by kernel_rfl), inj := (fun i j _ _ h => by simp only [List.cons.injEq, AV.str.injEq, and_true] at h; rw [h]), ok := (fun s hs => ⟨rfl, isWord_ok s hs true⟩) }] rfl
  have q1 : acall Tryz.prog O (chC ds ts 0 true) 43 [.agg [.rs ds.length 3 (dcC ds), .rs ts.length 1 (ts.map stA)], .func (.func 44) [] [.ptr 3 0, .ptr 2 0]] = some (.tuple [], chC ds ts (cT ts 0).2 (cT ts 0).1) := p1 () trivial
  have q2 : ∀ x ∈ ts, ∀ H, acall Tryz.prog O H 46 [stA x, .int .i64 1, .func (.func 47) [] [], .func (.func 48) [] []] = some (.bool (rightSL x), H) := p2
  have q3 : ∀ s, s.length ≤ 9223372036854775807 → ∀ H, acall Tryz.prog O H 45 [.str s, .bool true] = some (.bool (wordB s), H) := p3
  clear p1 p2 p3
  generalize (cT ts 0).2 = n at *
  generalize (cT ts 0).1 = b at *
  refine fn_valI (fun g => Nat.beq g 43 || (Nat.beq g 46 || Nat.beq g 45)) 1 follows noNum hO Tryz.func26 rfl ?_
  cases b with
  | false =>
    rw [if_pos (Classical.not_not.1 fun h => by have := hsay.2 h; cases this)]
    repeat' ((conv => whnf); first | (refine exI q1 ?_) | (first | refine stp ?_ | with_reducible refine condB (fun h => ?_) (fun h => ?_)))
    all_goals (conv => whnf)
    all_goals rfl
  | true =>
    rw [if_neg (hsay.1 rfl)]
    repeat' ((conv => whnf); first | (refine exI q1 ?_) | (first | refine stp ?_ | with_reducible refine condB (fun h => ?_) (fun h => ?_)))
    conv => whnf
    refine ⟨Nat, (fun i => i ≤ ds.length ∧ (ds.take i).all dcB = true), (fun i => [(1, .ptr 0 0), (16, .rs ds.length 3 (dcC ds)), (17, .int .i64 ds.length), (18, .int .i64 i)]), (fun _ => [⟨true, 0, 0, .cells [.rs ds.length 3 (dcC ds), .rs ts.length 1 (ts.map stA)] 29⟩]), (fun i => ds.length - i), ⟨0, ⟨Nat.zero_le _, rfl⟩, FgL.mk [0] rfl ?_ ⟨⟨rfl, rfl, rfl, rfl, BodyGe.pre (rest := []) rfl rfl⟩, trivial⟩ rfl⟩, ?_⟩
    · (repeat (first | exact trivial | refine stw ?_))
    rintro i ⟨hi, hall⟩
    dsimp only
    by_cases hlt : i < ds.length
    · have e1 : decide ((i : Int) < (ds.length : Int)) = true := by simpa using hlt
      have hat := all_take dcB ds i hlt
      rw [hall, Bool.true_and] at hat
      have hfalse : dcB ds[i] = false → ds.all dcB = false := all_get dcB hlt
      have hx3 := dc3 ds i hlt
      have qn := q3 ds[i].name (hd2 _ (get_mem hlt))
      generalize hd : ds[i] = d at *
      obtain ⟨nm, pl, vl⟩ := d
      simp only [dcB, Dc.cells] at hat hfalse hx3 qn
      generalize wordB nm = w at *
      by_cases hv : 0 ≤ vl
      · have e3 : decide (vl < 0) = false := by simpa using hv
        rw [show decide (0 ≤ vl) = true from by simpa using hv, Bool.and_true] at hat hfalse
        cases w with
        | true =>
          repeat' ((conv => whnf); first | (with_reducible refine exI (qn _) ?_) | (with_reducible refine ixJ i rfl ?_ ?_; (focus (omega))) | (refine exI hx3 ?_) | (first | refine stp ?_ | with_reducible refine condB (fun h => ?_) (fun h => ?_)))
          conv => whnf
          refine ⟨i + 1, ⟨hlt, hat⟩, by show ds.length - (i + 1) < ds.length - i; omega, FgL.mk [0] rfl ?_ ⟨⟨rfl, rfl, rfl, rfl, BodyGe.pre (rest := []) rfl rfl⟩, trivial⟩ rfl⟩
          (repeat (first | exact trivial | refine stw ?_))
        | false =>
          rw [hfalse rfl]
          repeat' ((conv => whnf); first | (with_reducible refine exI (qn _) ?_) | (with_reducible refine ixJ i rfl ?_ ?_; (focus (omega))) | (refine exI hx3 ?_) | (first | refine stp ?_ | with_reducible refine condB (fun h => ?_) (fun h => ?_)))
          all_goals rfl
      · have e3 : decide (vl < 0) = true := by simp only [decide_eq_true_eq]; omega
        rw [show decide (0 ≤ vl) = false from by simpa using hv, Bool.and_false] at hat hfalse
        rw [hfalse rfl]
        cases w
        all_goals (repeat' ((conv => whnf); first | (with_reducible refine exI (qn _) ?_) | (with_reducible refine ixJ i rfl ?_ ?_; (focus (omega))) | (refine exI hx3 ?_) | (first | refine stp ?_ | with_reducible refine condB (fun h => ?_) (fun h => ?_))))
        all_goals rfl
    · have e1 : decide ((i : Int) < (ds.length : Int)) = false := by simpa using hlt
      have hi2 : i = ds.length := by have := hi; omega
      subst hi2
      rw [List.take_length] at hall
      rw [hall, Bool.true_and]
      repeat' ((conv => whnf); first | refine stp ?_ | with_reducible refine condB (fun h => ?_) (fun h => ?_))
      conv => whnf
      refine ⟨Nat, (fun i => i ≤ ts.length ∧ rightTL (ts.take i) = true), (fun i => [(33, .rs ts.length 1 (ts.map stA)), (34, .int .i64 ts.length), (35, .int .i64 i)]), (fun _ => []), (fun i => ts.length - i), ⟨0, ⟨Nat.zero_le _, rfl⟩, FgL.mk0 rfl ?_⟩, ?_⟩
      · (repeat (first | exact trivial | refine stw ?_))
      rintro i ⟨hi, hrl⟩
      dsimp only
      by_cases hlt : i < ts.length
      · have e1 : decide ((i : Int) < (ts.length : Int)) = true := by simpa using hlt
        have hat := rightTL_take ts i hlt
        rw [hrl, Bool.true_and] at hat
        have hfalse : rightSL ts[i] = false → rightTL ts = false := rightTL_get hlt
        have hx := th1 ts i hlt
        have qr := q2 ts[i] (get_mem hlt)
        generalize ts[i] = l at *
        simp only [stA] at hx qr
        cases hr : rightSL l with
        | true =>
          rw [hr] at hat qr
          repeat' ((conv => whnf); first | (with_reducible refine exI (qr _) ?_) | (with_reducible refine ixJ i rfl ?_ ?_; (focus (omega))) | (refine exI hx ?_) | (refine exI (qr _) ?_) | (first | refine stp ?_ | with_reducible refine condB (fun h => ?_) (fun h => ?_)))
          conv => whnf
          refine ⟨i + 1, ⟨hlt, hat⟩, by show ts.length - (i + 1) < ts.length - i; omega, FgL.mk0 rfl ?_⟩
          (repeat (first | exact trivial | refine stw ?_))
        | false =>
          rw [hr] at qr
          rw [hfalse hr]
          repeat' ((conv => whnf); first | (with_reducible refine exI (qr _) ?_) | (with_reducible refine ixJ i rfl ?_ ?_; (focus (omega))) | (refine exI hx ?_) | (refine exI (qr _) ?_) | (first | refine stp ?_ | with_reducible refine condB (fun h => ?_) (fun h => ?_)))
          all_goals rfl
      · have e1 : decide ((i : Int) < (ts.length : Int)) = false := by simpa using hlt
        have hi2 : i = ts.length := by have := hi; omega
        subst hi2
        rw [List.take_length] at hrl
        rw [hrl]
        repeat' ((conv => whnf); first | refine stp ?_ | with_reducible refine condB (fun h => ?_) (fun h => ?_))
        all_goals rfl
end Go.Proofs.YtblnhcafobifgaaGreatDoor.lex
end


section

set_option linter.unusedVariables false
set_option linter.unusedSimpArgs false
namespace Go.Proofs.YtblnhcafobifgaaGreatDoor.lex
open Go.Abs Go.RowKit
set_option maxRecDepth 100000
set_option maxHeartbeats 4000000
variable {gl : Glob}
def firstO {α : Type} (g : Nat → Option α) : Nat → Option α
  | 0 => none
  | n + 1 => match firstO g n with | some a => some a | none => g n
theorem firstO_next {α : Type} {g : Nat → Option α} {i : Nat} (h : firstO g i = none) : firstO g (i + 1) = g i := by simp only [firstO, h]
theorem firstO_stop {α : Type} {g : Nat → Option α} {a : α} : ∀ {n i : Nat}, i ≤ n → firstO g i = some a → firstO g n = some a
  | 0, i, h, e => by have : i = 0 := by omega
                     subst this; exact e
  | n + 1, i, h, e => by
    by_cases hi : i = n + 1
    · subst hi; exact e
    · simp only [firstO, firstO_stop (n := n) (by omega) e]
theorem firstO_at {α : Type} {g : Nat → Option α} {a : α} {n i : Nat} (hi : i < n) (h : firstO g i = none) (e : g i = some a) : firstO g n = some a :=
  firstO_stop (i := i + 1) hi ((firstO_next h).trans e)
theorem firstO_congr {α : Type} {g g' : Nat → Option α} : ∀ {n : Nat}, (∀ i, i < n → g i = g' i) → firstO g n = firstO g' n
  | 0, _ => rfl
  | n + 1, h => by simp only [firstO, firstO_congr (n := n) fun i hi => h i (by omega), h n (by omega)]
abbrev W3 := Int × Int × Int
def gD (ds : List Dc) (i : Nat) : Option W3 := match ds[i]? with
  | some d => cond (noD d.name (ds.take i)) none (some (0, ((i : Nat) : Int), 6))
  | none => none
def gT (f : St → Int) (ts : List (List St)) (i : Nat) : Option W3 := match ts[i]? with
  | some l => cond ((nbSL f l 0).2 == 0) none (some (((i + 1 : Nat) : Int), (((nbSL f l 0).1 : Nat) : Int), (nbSL f l 0).2))
  | none => none
def gR (ts : List (List St)) (i : Nat) : Option W3 := match ts[i]? with
  | some l => cond (decide (16 < (sortB (rgN0 l)).length)) (some (((i + 1 : Nat) : Int), 0, 3)) none
  | none => none
def longP (nd nt : Nat) : Bool := decide (nt < 1) || (decide (4 < nt) || decide (6 < nd))
def chkF (e : Int) (ds : List Dc) (ts : List (List St)) (f : St → Int) : W3 :=
  cond (e == 0) (cond (longP ds.length ts.length) (0, 0, 3)
    (match firstO (gD ds) ds.length with
      | some r => r
      | none => match firstO (gT f ts) ts.length with
        | some r => r
        | none => match firstO (gR ts) ts.length with
          | some r => r
          | none => (0, 0, 0))) (0, 0, e)
def resW (r : W3) : AV := .tuple [.agg [.int .i64 r.1, .int .i64 r.2.1], .int .i64 r.2.2]
theorem gD_at {ds : List Dc} {i : Nat} (h : i < ds.length) : gD ds i = cond (noD ds[i].name (ds.take i)) none (some (0, ((i : Nat) : Int), 6)) := by simp [gD, h]
theorem gT_at {f : St → Int} {ts : List (List St)} {i : Nat} (h : i < ts.length) : gT f ts i = cond ((nbSL f ts[i] 0).2 == 0) none (some (((i + 1 : Nat) : Int), (((nbSL f ts[i] 0).1 : Nat) : Int), (nbSL f ts[i] 0).2)) := by simp [gT, h]
theorem gR_at {ts : List (List St)} {i : Nat} (h : i < ts.length) : gR ts i = cond (decide (16 < (sortB (rgN0 ts[i])).length)) (some (((i + 1 : Nat) : Int), 0, 3)) none := by simp [gR, h]
end Go.Proofs.YtblnhcafobifgaaGreatDoor.lex
end


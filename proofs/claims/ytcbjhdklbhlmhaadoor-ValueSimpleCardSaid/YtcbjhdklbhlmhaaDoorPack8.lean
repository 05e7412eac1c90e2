/-
  Texts of this proof, one behind the other (part 8).
-/
import Derived.Test.YtcbjhdklbhlmhaaDoorPack7

/-
  Expressions with numbers in their range, lists of words, lists of numbers: what is read of them.
-/
section
set_option linter.unusedVariables false
set_option linter.unusedSimpArgs false
namespace Go.Proofs.YtcbjhdklbhlmhaaDoor.lex
open Go.Abs Go.RowKit
set_option maxRecDepth 100000
set_option maxHeartbeats 4000000
def OE (us : List AV) : Prop := ∃ e : Ex, us = e.cells ∧ okI e
def OEL (us : List AV) : Prop := ∃ l : List Ex, us = [exA l] ∧ (okL l ∧ inL l) ∧ l.length ≤ maxLen
def OI (us : List AV) : Prop := ∃ n, us = [.int .i64 n] ∧ (Lit.int .i64 n).wf = true
def OT (us : List AV) : Prop := ∃ s : List UInt8, us = [.str s] ∧ s.length ≤ maxLen
theorem wf_in {n : Int} (h : (Lit.int .i64 n).wf = true) : -9223372036854775808 ≤ n ∧ n ≤ 9223372036854775807 := by
  have h' : IntKind.i64.min ≤ n ∧ n ≤ 9223372036854775807 := by simpa [Lit.wf] using h
  have h2 : IntKind.i64.min = -9223372036854775808 := rfl
  omega
theorem oex_list : ∀ l : List (List AV), (∀ u ∈ l, OE u ∧ u.length = 4) → ∃ m : List Ex, l.flatten = exC m ∧ l.length = m.length ∧ okL m ∧ inL m
  | [], _ => ⟨[], by simp only [exC, List.flatten_nil], rfl, trivial, trivial⟩
  | u :: l, h => by
    obtain ⟨m, h1, h2, h3, h5⟩ := oex_list l fun v hv => h v (by simp [hv])
    obtain ⟨⟨e, rfl, h4⟩, _⟩ := h u (by simp)
    exact ⟨e :: m, by simp only [List.flatten_cons, exC, h1], by simp [h2], by simp only [okL]; exact ⟨h4.1, h3⟩, by simp only [inL]; exact ⟨h4.2, h5⟩⟩
theorem ofsE (N : Nat) (h : OpensB Tryd.prog N 22 OEL) : FsOpensB Tryd.prog N (match Tryd.prog.underlying 24 with | some (.struct fs) => fs.toList | _ => []) [OI, OI, OT, OEL] 0 (Tryd.prog.cellsOf 24) := by
  rw [Tryd.underlying24]
  refine ⟨rfl, .of (opens_int Tryd.underlying3), ?_⟩
  refine ⟨by kernel_rfl, .of (opens_int Tryd.underlying2), ?_⟩
  refine ⟨by kernel_rfl, .of (opens_str Tryd.underlying9), ?_⟩
  refine ⟨by kernel_rfl, h, ?_⟩
  unfold FsOpensB; kernel_rfl
theorem oq_e {us : List AV} (h : FsQ [OI, OI, OT, OEL] us) : OE us := by
  obtain ⟨a, u1, rfl, ⟨n1, rfl, _⟩, b, u2, rfl, ⟨n2, rfl, hw⟩, c, u3, rfl, ⟨s, rfl, hs⟩, d, u4, rfl, ⟨k, rfl, ⟨hk, hik⟩, hkl⟩, h3⟩ := h
  have h3 : u4 = [] := h3
  subst h3
  exact ⟨.mk n1 n2 s k, by simp only [Ex.cells]; rfl, by simp only [okE, okN]; exact ⟨⟨hs, hkl⟩, hk⟩, by simp only [inE]; exact ⟨wf_in hw, hik⟩⟩
theorem oopensE : ∀ N, OpensB Tryd.prog N 24 OE ∧ OpensB Tryd.prog N 22 OEL
  | 0 => ⟨opensB_zero, opensB_zero⟩
  | N + 1 => by
    obtain ⟨h1, h2⟩ := oopensE N
    have h3 := ofsE N h2
    rw [Tryd.underlying24] at h3
    refine ⟨(opensB_struct Tryd.underlying24 h3).mono fun u hu => oq_e hu, (opensB_slice Tryd.underlying22 (by kernel_rfl) (show (4 : Nat) ≠ 0 by decide) h1).mono ?_⟩
    rintro u ⟨l, hl, rfl, hll⟩
    obtain ⟨m, e1, e2, e3, e4⟩ := oex_list l hl
    exact ⟨m, by rw [e1, e2]; rfl, ⟨e3, e4⟩, by rw [← e2]; exact hll⟩
theorem oopensX : OpensV Tryd.prog 24 fun u => ∃ e : Ex, u = .agg e.cells ∧ okI e := by
  have h3 : FsOpens Tryd.prog (match Tryd.prog.underlying 24 with | some (.struct fs) => fs.toList | _ => []) [OI, OI, OT, OEL] 0 (Tryd.prog.cellsOf 24) := by
    rw [Tryd.underlying24]
    refine ⟨rfl, opens_int Tryd.underlying3, ?_⟩
    refine ⟨by kernel_rfl, opens_int Tryd.underlying2, ?_⟩
    refine ⟨by kernel_rfl, opens_str Tryd.underlying9, ?_⟩
    refine ⟨by kernel_rfl, OpensB.all fun N => (oopensE N).2, ?_⟩
    unfold FsOpens; kernel_rfl
  rw [Tryd.underlying24] at h3
  refine opensV_mono (opensV_struct Tryd.underlying24 h3) ?_
  rintro u ⟨us, rfl, hu⟩
  obtain ⟨e, rfl, he⟩ := oq_e hu
  exact ⟨e, rfl, he⟩
theorem ow_list : ∀ l : List (List AV), (∀ u ∈ l, OT u ∧ u.length = 1) → ∃ m : List (List UInt8), l.flatten = m.map .str ∧ l.length = m.length
  | [], _ => ⟨[], rfl, rfl⟩
  | u :: l, h => by
    obtain ⟨m, h1, h2⟩ := ow_list l fun v hv => h v (by simp [hv])
    obtain ⟨⟨s, rfl, _⟩, _⟩ := h u (by simp)
    exact ⟨s :: m, by simp [h1], by simp [h2]⟩
theorem oi_list : ∀ l : List (List AV), (∀ u ∈ l, OI u ∧ u.length = 1) → ∃ m : List Int, l.flatten = ksC m ∧ l.length = m.length
  | [], _ => ⟨[], rfl, rfl⟩
  | u :: l, h => by
    obtain ⟨m, h1, h2⟩ := oi_list l fun v hv => h v (by simp [hv])
    obtain ⟨⟨s, rfl, _⟩, _⟩ := h u (by simp)
    exact ⟨s :: m, by simp [h1, ksC], by simp [h2]⟩
theorem oopensW : OpensV Tryd.prog 25 fun u => ∃ n : List (List UInt8), u = rsK n := by
  refine opensV_mono (opensV_slice Tryd.underlying25 (by kernel_rfl) (show (1 : Nat) ≠ 0 by decide) (opens_str Tryd.underlying9)) ?_
  rintro u ⟨l, hl, rfl, _⟩
  obtain ⟨m, e1, e2⟩ := ow_list l hl
  exact ⟨m, by rw [e1, e2]; rfl⟩
theorem oopensI : OpensV Tryd.prog 26 fun u => ∃ l : List Int, u = .rs l.length 1 (ksC l) := by
  refine opensV_mono (opensV_slice Tryd.underlying26 (by kernel_rfl) (show (1 : Nat) ≠ 0 by decide) (opens_int Tryd.underlying2)) ?_
  rintro u ⟨l, hl, rfl, _⟩
  obtain ⟨m, e1, e2⟩ := oi_list l hl
  exact ⟨m, by rw [e1, e2]⟩
theorem oopensT : OpensV Tryd.prog 9 fun u => ∃ s : List UInt8, u = .str s := by
  refine opensV_mono (opensV_str Tryd.underlying9) ?_
  rintro u ⟨s, rfl, _⟩
  exact ⟨s, rfl⟩
end Go.Proofs.YtcbjhdklbhlmhaaDoor.lex
end

/-
  'lives', run by the kernel.
-/
section
set_option linter.unusedVariables false
namespace Go.Proofs.YtcbjhdklbhlmhaaDoor.runLives
open Go.RowKit Go.Abs
set_option maxRecDepth 100000
def isS (l : List (Nat × List AV)) : Nat → List AV → Bool := fun f args => Nat.beq f 42 || memA f args l
noncomputable def foS (l : List (Nat × List AV)) : FOrc := forcThen (fun f _ => Nat.beq f 42) (fsortO 42 56) (ftblO l)
def toS (l : List (Nat × List AV)) : Orc := orcIf (fun f _ => Nat.beq f 42) (sortO 42 56) (tblO l)
theorem simS (l : List (Nat × List AV)) : OrcSim (foS l) (toS l) := forcThen_sim (fsortO_sim 42 56) (ftblO_sim l)
theorem lives : saysTrue (frunG Tryd.prog gl (isS []) (foS []) 100000 100 4 [] TH.empty) = true := by kernel_rfl
theorem knownLives : OrcSound Tryd.prog gl (tblO [(4, [])]) := known_trueG follows noNum (simS []) (orcIf_sound shelf.sound tblO_nil) tblO_nil rfl lives

end Go.Proofs.YtcbjhdklbhlmhaaDoor.runLives
end

/-
  'cantileverlaw07.ValueSimple': whatever it is handed, it says true.
-/
section
set_option linter.unusedVariables false
set_option linter.unusedSimpArgs false
namespace Go.Proofs.YtcbjhdklbhlmhaaDoor.lex
open Go.Abs Go.RowKit
set_option maxRecDepth 100000
set_option maxHeartbeats 4000000
variable {gl : Glob}
theorem lsize_ok : ∀ (n : Nat) (e : Ex), sizeE e ≤ n → sizeE e ≤ 1048576 → ValOK Tryd.prog gl 10 [.agg e.cells] (.int .i64 (sizeE e))
  | 0, e, h, _ => by have := sizeE_pos e; omega
  | n + 1, .mk op num name kids, h, hb => by
    simp only [sizeE] at h hb ⊢
    obtain ⟨O, hO, q, -⟩ := fams (P := Tryd.prog) (gl := gl) [famE (g := 10) (by kernel_rfl) (fun k => .int .i64 (sizeE k)) kids fun k hk => lsize_ok n k (by have := sizeL_mem _ _ hk; omega) (by have := sizeL_mem _ _ hk; omega)] rfl
    have hlen := sizeL_len kids
    simp only [Ex.cells]
    refine fn_val follows noNum hO Tryd.func10 rfl ?_
    repeat' ((conv => whnf); first | refine stp ?_ | with_reducible refine condB (fun h => ?_) (fun h => ?_))
    conv => whnf
    refine ⟨Nat, (fun i => i ≤ kids.length), (fun i => [(1, .ptr 0 0), (3, .int .i64 (1 + sizeL (kids.take i) : Nat)), (4, .int .i64 i)]), (fun _ => [⟨true, 0, 0, .cells [.int .i64 op, .int .i64 num, .str name, .rs kids.length 4 (exC kids)] 24⟩]), (fun i => kids.length - i), ⟨0, Nat.zero_le _, FgL.mk [0] rfl ?_ ⟨⟨rfl, rfl, rfl, rfl, BodyGe.pre (rest := []) rfl rfl⟩, trivial⟩ rfl⟩, ?_⟩
    · simp only [List.take_zero, sizeL]; (repeat (first | exact trivial | refine stw ?_))
    intro i hi
    dsimp only
    by_cases hlt : i < kids.length
    · have e1 : decide ((i : Int) < (kids.length : Int)) = true := by simpa using hlt
      have hx := ex4 kids i hlt
      have hs := sizeL_take kids i hlt
      have hg := sizeL_get kids i hlt
      have q1 : ∀ H, acall Tryd.prog O H 10 [.agg kids[i].cells] = some (.int .i64 (sizeE kids[i]), H) := q _ (get_mem hlt)
      generalize kids[i] = k at *
      repeat' ((conv => whnf); first | (refine exI hx ?_) | (refine exI (q1 _) ?_) | (with_reducible refine ixJ i rfl ?_ ?_; (focus (omega))) | (first | refine stp ?_ | with_reducible refine condB (fun h => ?_) (fun h => ?_)))
      conv => whnf
      refine ⟨i + 1, hlt, by show kids.length - (i + 1) < kids.length - i; omega, FgL.mk [0] rfl ?_ ⟨⟨rfl, rfl, rfl, rfl, BodyGe.pre (rest := []) rfl rfl⟩, trivial⟩ rfl⟩
      rw [hs, ← Nat.add_assoc]; (repeat (first | exact trivial | refine stw ?_))
    · have e1 : decide ((i : Int) < (kids.length : Int)) = false := by simpa using hlt
      have hi2 : i = kids.length := by have := hi; omega
      subst hi2
      repeat' ((conv => whnf); first | refine stp ?_ | with_reducible refine condB (fun h => ?_) (fun h => ?_))
      simp only [List.take_length]; rfl
theorem livesV : ValOK Tryd.prog runLives.gl 4 [] (.bool true) := by
  intro sn W cargs hg hR ha
  refine (runLives.knownLives 4 [] [] (.bool true) [] (by kernel_rfl) sn noI W cargs hg hR ha).mono ?_
  rintro e W' ⟨v, sn', ι', rfl, hv, hs⟩
  cases hv.bool
  exact ⟨_, rfl, Stq.ext (Stp.q (k := 0) hR hs), by simp [VR]⟩
theorem light_sizeV (e : Ex) (h : 0 ≤ heftE e 3000) : sizeE e ≤ 3000 := by have := heftE_size e 3000 h; omega
def smX (e : Ex) : Ex := if checkE e = 0 then simpE e else zeroX
def ptX (e : Ex) (nm : List UInt8) (b : Ex) : Ex := if putI e nm b = 0 then putE nm b e else zeroX
theorem zero_ok : okE zeroX := by simp [zeroX, okE, okN, okL]
theorem smX_ok {e : Ex} (h : okI e) : okE (smX e) := by
  unfold smX
  split
  · rename_i h0; exact (good_simp (check0 h0 h).1).2.2
  · exact zero_ok
theorem ptX_ok {e b : Ex} {nm : List UInt8} (h : okI e) (hb : okI b) : okE (ptX e nm b) := by
  unfold ptX
  split
  · rename_i h0
    have h1 : checkE e = 0 := by
      unfold putI at h0
      by_cases hc : checkE e = 0
      · exact hc
      · rw [if_pos hc] at h0; exact absurd h0 hc
    have h2 : checkE b = 0 := by
      unfold putI at h0
      rw [if_neg (fun h => h h1)] at h0
      by_cases hc : checkE b = 0
      · exact hc
      · rw [if_pos hc] at h0; exact absurd h0 hc
    exact (good_put (check0 h2 hb).1 (check0 h1 h).1).2.2
  · exact zero_ok
end Go.Proofs.YtcbjhdklbhlmhaaDoor.lex
end

/-
  Maps of registers among more memory: written to, looked into; Eval there.
-/
section
set_option linter.unusedVariables false
set_option linter.unusedSimpArgs false
namespace Go.Proofs.YtcbjhdklbhlmhaaDoor.lex
open Go.Abs Go.RowKit
set_option maxRecDepth 100000
set_option maxHeartbeats 4000000
variable {gl : Glob}
theorem mp_putK {H : AHeap} {k : Nat} {n : List (List UInt8 × Int)} (hH : H[k]? = some (mapO k n)) (hl : Go.Abs.lone k k 0 H = true) (s : List UInt8) (v : Int) : aMapSet Tryd.prog 31 (.map k) (.str s) (.int .i64 v) H = some (H.set k (mapO k (putR s v n))) := by
  have hw : wkil k k H = H := wkil_lone hH hl
  unfold aMapSet
  simp only [keyR, hH, mapO, hw]
  cases h : getR s n with
  | none =>
    rw [mp_none s n 0 0 h, putR_none s v n h]
    simp only [mp_app, Nat.zero_add, List.length_append, List.length_cons, List.length_nil]
  | some w =>
    obtain ⟨j, h1, h2⟩ := mp_some s w n 0 0 h
    rw [h1]
    simp only [Nat.zero_add, h2, putR_len s v n h]
theorem mp_lookK {H : AHeap} {k f c : Nat} (s : List UInt8) (n : List (List UInt8 × Int)) (hH : H[k]? = some ⟨true, f, 0, .map (mpE 0 n) c⟩) : aLookup Tryd.prog 31 (.map k) (.str s) false H = some (.int .i64 (regR n s)) := by
  unfold aLookup
  simp only [keyR, mapEs, mapObj, hH]
  cases h : getR s n with
  | none => rw [mp_none s n 0 0 h]; simp only [zeroR, regR, h]; rfl
  | some w =>
    obtain ⟨j, h1, _⟩ := mp_some s w n 0 0 h
    rw [h1]; simp only [regR, h]; rfl
/-- A function that looks into the map, called where there is more memory, the map standing at number k. -/
theorem evFr {f k : Nat} {fargs cargs : List AV} {r : AV} {reg : List (List UInt8 × Int)} {Hc : AHeap} (hM : MemOK Tryd.prog gl f fargs (mapH reg) r (mapH reg)) (ha : frzL (frzM [k] (kilM [k] Hc) 30) cargs = some fargs) (hs : HpGe Hc [k] [k] (mapH reg) 0)
    (hl : loneM [k] ([k].map (famOf Hc)) 0 Hc = true) (hu : updM [k] (mapH reg) 0 Hc = Hc) (h1 : noRO r = true) (h2 : allLt 1 (refs r []) = true) (h3 : ren (fun b => [k].getD b 0) r = r) : MemOK Tryd.prog gl f cargs Hc r Hc := by
  have h := mem_frame (m := [k]) (n := 30) (Hc := Hc) (cargs := cargs) hM ha hs rfl hl (mapH_evo reg) (by simp only [mapH, mapO, noROH, noROB, mp_noRO]; rfl) h1 h2
  rw [hu, h3] at h
  exact h
theorem okv_refs {a b : Int} : noRO (.tuple [.int .i64 a, .int .i64 b]) = true ∧ allLt 1 (refs (.tuple [.int .i64 a, .int .i64 b]) []) = true := ⟨rfl, rfl⟩
theorem EvalG_ok (e : Ex) (reg : List (List UInt8 × Int)) (hok : okE e) (hc : checkE e = 0) : MemOK Tryd.prog runLives.gl 8 [.agg e.cells, .map 0] (mapH reg) (.tuple [.int .i64 (evalE (regR reg) e), .int .i64 0]) (mapH reg) := by
  have hs : sizeE e ≤ 1048576 := by
    unfold checkE at hc
    split at hc
    · cases hc
    · omega
  have h := EvalX_ok e reg hok hs
  unfold evalO at h
  rw [if_pos hc] at h
  exact h
/-- Eval where the map stands third, after two boxes. -/
theorem Eval2_ok (x e b : Ex) (reg : List (List UInt8 × Int)) (rest : AHeap) (hok : okE x) (hc : checkE x = 0) (hl : loneM [2] ([2].map (famOf ([⟨true, 0, 0, .cells e.cells 24⟩, ⟨true, 1, 0, .cells b.cells 24⟩, ⟨true, 2, 0, .map (mpE 0 reg) reg.length⟩] ++ rest))) 0 ([⟨true, 0, 0, .cells e.cells 24⟩, ⟨true, 1, 0, .cells b.cells 24⟩, ⟨true, 2, 0, .map (mpE 0 reg) reg.length⟩] ++ rest) = true) :
    MemOK Tryd.prog runLives.gl 8 [.agg x.cells, .map 2] ([⟨true, 0, 0, .cells e.cells 24⟩, ⟨true, 1, 0, .cells b.cells 24⟩, ⟨true, 2, 0, .map (mpE 0 reg) reg.length⟩] ++ rest) (.tuple [.int .i64 (evalE (regR reg) x), .int .i64 0]) ([⟨true, 0, 0, .cells e.cells 24⟩, ⟨true, 1, 0, .cells b.cells 24⟩, ⟨true, 2, 0, .map (mpE 0 reg) reg.length⟩] ++ rest) := by
  refine evFr (k := 2) (EvalG_ok x reg hok hc) (by obtain ⟨a1, a2, a3, a4⟩ := x; rfl) ⟨⟨rfl, rfl, rfl, rfl, ⟨rfl, mp_ge _ _ _⟩⟩, trivial⟩ hl ?_ rfl rfl rfl
  have hp : ∀ i, 2 < i → posN [2] i 0 = none := fun i hi => by
    have : Nat.beq 2 i = false := Bool.eq_false_iff.2 fun e => by have := Nat.eq_of_beq_eq_true e; omega
    simp only [posN, this]; rfl
  have ht : ∀ (l : AHeap) (i : Nat), 2 < i → updM [2] (mapH reg) i l = l := by
    intro l
    induction l with
    | nil => intro i _; rfl
    | cons o l ih => intro i hi; simp only [updM, hp i hi, ih (i + 1) (by omega)]
  have h1 : updM [2] (mapH reg) 0 ([⟨true, 0, 0, .cells e.cells 24⟩, ⟨true, 1, 0, .cells b.cells 24⟩, ⟨true, 2, 0, .map (mpE 0 reg) reg.length⟩] ++ rest) = ⟨true, 0, 0, .cells e.cells 24⟩ :: ⟨true, 1, 0, .cells b.cells 24⟩ :: ⟨true, 2, 0, renB (fun b => ([2] : List Nat).getD b 0) (.map (mpE 0 reg) reg.length)⟩ :: updM [2] (mapH reg) 3 rest := rfl
  rw [h1, ht _ _ (by omega)]
  simp only [renB, mp_ren]; rfl
/-- Eval where the map stands fifth. -/
theorem Eval4_ok (x e b s : Ex) (reg few : List (List UInt8 × Int)) (hok : okE x) (hc : checkE x = 0) : MemOK Tryd.prog runLives.gl 8 [.agg x.cells, .map 4] [⟨true, 0, 0, .cells e.cells 24⟩, ⟨true, 1, 0, .cells b.cells 24⟩, mapO 2 reg, ⟨true, 3, 0, .cells s.cells 24⟩, mapO 4 few] (.tuple [.int .i64 (evalE (regR few) x), .int .i64 0]) [⟨true, 0, 0, .cells e.cells 24⟩, ⟨true, 1, 0, .cells b.cells 24⟩, mapO 2 reg, ⟨true, 3, 0, .cells s.cells 24⟩, mapO 4 few] := by
  refine evFr (k := 4) (EvalG_ok x few hok hc) (by obtain ⟨a1, a2, a3, a4⟩ := x; rfl) ⟨⟨rfl, rfl, rfl, rfl, ⟨rfl, mp_ge _ _ _⟩⟩, trivial⟩ ?_ ?_ rfl rfl rfl
  · obtain ⟨a1, a2, a3, a4⟩ := e; obtain ⟨b1, b2, b3, b4⟩ := b; obtain ⟨c1, c2, c3, c4⟩ := s; rfl
  · have h1 : updM [4] (mapH few) 0 [⟨true, 0, 0, .cells e.cells 24⟩, ⟨true, 1, 0, .cells b.cells 24⟩, mapO 2 reg, ⟨true, 3, 0, .cells s.cells 24⟩, mapO 4 few] = [⟨true, 0, 0, .cells e.cells 24⟩, ⟨true, 1, 0, .cells b.cells 24⟩, mapO 2 reg, ⟨true, 3, 0, .cells s.cells 24⟩, ⟨true, 4, 0, renB (fun b => ([4] : List Nat).getD b 0) (.map (mpE 0 few) few.length)⟩] := rfl
    rw [h1]
    simp only [renB, mp_ren]; rfl
/-- Eval, wherever it is known to stand right. -/
def famEv : FamM Tryd.prog runLives.gl :=
  { I := Ex × Nat × List (List UInt8 × Int) × AHeap, f := 8, G := fun i => i.2.2.2[i.2.1]? = some (mapO i.2.1 i.2.2.1) ∧ MemOK Tryd.prog runLives.gl 8 [.agg i.1.cells, .map i.2.1] i.2.2.2 (.tuple [.int .i64 (evalE (regR i.2.2.1) i.1), .int .i64 0]) i.2.2.2,
    A := fun i => [.agg i.1.cells, .map i.2.1], H := fun i => i.2.2.2, R := fun i => .tuple [.int .i64 (evalE (regR i.2.2.1) i.1), .int .i64 0], O := fun i => i.2.2.2, body := (by kernel_rfl),
    inj := (fun i j hi hj h1 h2 => by
      obtain ⟨x, k, reg, H⟩ := i
      obtain ⟨x', k', reg', H'⟩ := j
      simp only [List.cons.injEq, AV.map.injEq, and_true] at h1 h2
      obtain ⟨h1, rfl⟩ := h1
      subst h2
      have hx := agg_inj (a := x) (b := x') (by rw [h1])
      subst hx
      have h3 := hi.1.symm.trans hj.1
      simp only [mapO, Option.some.injEq, AObj.mk.injEq, ABody.map.injEq, true_and] at h3
      have h4 := mp_inj h3.1
      subst h4
      exact ⟨rfl, rfl⟩),
    ok := (fun i hi => hi.2) }
end Go.Proofs.YtcbjhdklbhlmhaaDoor.lex
end

/-
  'cantileverlaw07.ValueSimple': the walk.
-/
section
set_option linter.unusedVariables false
set_option linter.unusedSimpArgs false
namespace Go.Proofs.YtcbjhdklbhlmhaaDoor.lex
open Go.Abs Go.RowKit
set_option maxRecDepth 100000
set_option maxHeartbeats 4000000
def h5 (e b : Ex) (rg : List (List UInt8 × Int)) (s : Ex) (few : List (List UInt8 × Int)) (p : Ex) : AHeap := [⟨true, 0, 0, .cells e.cells 24⟩, ⟨true, 1, 0, .cells b.cells 24⟩, ⟨true, 2, 0, .map (mpE 0 rg) rg.length⟩, ⟨true, 3, 0, .cells s.cells 24⟩, ⟨true, 4, 0, .map (mpE 0 few) few.length⟩, ⟨true, 5, 0, .cells p.cells 24⟩]
theorem Eval5_ok (x e b : Ex) (rg : List (List UInt8 × Int)) (s : Ex) (few : List (List UInt8 × Int)) (p : Ex) (hok : okE x) (hc : checkE x = 0) : MemOK Tryd.prog runLives.gl 8 [.agg x.cells, .map 2] (h5 e b rg s few p) (.tuple [.int .i64 (evalE (regR rg) x), .int .i64 0]) (h5 e b rg s few p) :=
  Eval2_ok x e b rg [⟨true, 3, 0, .cells s.cells 24⟩, ⟨true, 4, 0, .map (mpE 0 few) few.length⟩, ⟨true, 5, 0, .cells p.cells 24⟩] hok hc (by obtain ⟨a1, a2, a3, a4⟩ := e; obtain ⟨b1, b2, b3, b4⟩ := b; obtain ⟨c1, c2, c3, c4⟩ := s; obtain ⟨d1, d2, d3, d4⟩ := p; rfl)
theorem set5 (e b : Ex) (rg : List (List UInt8 × Int)) (s : Ex) (few : List (List UInt8 × Int)) (p : Ex) (nm : List UInt8) (v : Int) : aMapSet Tryd.prog 31 (.map 2) (.str nm) (.int .i64 v) (h5 e b rg s few p) = some (h5 e b (putR nm v rg) s few p) := mp_putK (k := 2) (n := rg) rfl rfl nm v
theorem put_check {e b : Ex} {nm : List UInt8} (h : putI e nm b = 0) : checkE (putE nm b e) = 0 := by
  unfold putI at h
  split at h
  · rename_i h1; exact absurd h h1
  · split at h
    · rename_i h1; exact absurd h h1
    · split at h
      · cases h
      · exact h
theorem simpleLaw (e b : Ex) (names : List (List UInt8)) (l : List Int) (nm : List UInt8) (he : okI e) (hb : okI b) (hl : ∀ v ∈ l, inI v) (hle : 0 ≤ heftE e 3000) (hlb : 0 ≤ heftE b 3000) (hce : checkE e = 0) (hcb : checkE b = 0) : ValOK Tryd.prog runLives.gl 3 [.agg e.cells, .agg b.cells, rsK names, .rs l.length 1 (ksC l), .str nm] (.bool true) := by
  have hr0 := regsN_in names hl
  obtain ⟨reg, hreg⟩ : ∃ reg, regsN names l = reg := ⟨_, rfl⟩
  rw [hreg] at hr0
  obtain ⟨hge, hse, hde⟩ := check0 hce he
  obtain ⟨hgb, hsb, hdb⟩ := check0 hcb hb
  have hcs := check_simp hce he
  have hsim := size_simp e
  obtain ⟨O, hO, ⟨m1, -⟩, p1, p2, p3, p4, p5, p6, p7, -⟩ := famsM (P := Tryd.prog) (gl := runLives.gl) [famEv] [
      oneV (f := 4) (A := []) (R := .bool true) True (by kernel_rfl) rfl (fun _ => livesV),
      { I := Ex, f := 5, G := okE, A := fun e => [.agg e.cells, .int .i64 3000], R := fun e => .bool (decide (0 ≤ heftE e 3000)), body := (by kernel_rfl), inj := (fun i j _ _ h => by simp only [List.cons.injEq] at h; rw [agg_inj (a := i) (b := j) (by rw [h.1])]), ok := (fun e he => ⟨pair_refs e 3000, light_ok e 3000 he (by omega) (by omega)⟩) },
      famSelf (f := 6) (by kernel_rfl) (fun x => okE x ∧ sizeE x ≤ 1048576) (fun x => .int .i64 (checkE x)) (fun x hx => checkER_ok x hx.1 hx.2),
      famOne (f := 9) (by kernel_rfl) e True (simpO e) (fun _ => SimpleX_ok e he (by omega)),
      famSelf (f := 10) (by kernel_rfl) (fun x => sizeE x ≤ 1048576) (fun x => .int .i64 (sizeE x)) (fun x hx => lsize_ok _ x (Nat.le_refl _) hx),
      famOne (f := 11) (by kernel_rfl) e True (nmsO e) (fun _ => NamesX_ok e he.1 (by omega)),
      oneV (f := 12) (A := [.agg e.cells, .str nm, .agg b.cells]) (R := putO e nm b) True (by kernel_rfl) (by obtain ⟨a', b', c', d'⟩ := e; obtain ⟨a2, b2, c2, d2⟩ := b; rfl) (fun _ => PutX_ok e nm b he hb (by omega) (by omega))] rfl
  obtain ⟨O2, hO2, n1, n2⟩ := famN_add { I := Unit, f := 7, G := fun _ => True, A := fun _ => [rsK names, .rs l.length 1 (ksC l)], R := fun _ => .map 0, N := fun _ => mapH reg, body := (by kernel_rfl), inj := (fun _ _ _ _ _ => ⟨rfl, rfl⟩), ok := (fun _ _ => ⟨rfl, fun o ho => by simp only [mapH, List.mem_singleton] at ho; subst ho; rfl, by rw [← hreg]; exact registers_ok names l⟩) } hO
  have qr : acall Tryd.prog O2 [⟨true, 0, 0, .cells e.cells 24⟩, ⟨true, 1, 0, .cells b.cells 24⟩] 7 [rsK names, .rs l.length 1 (ksC l)] = some (.map 2, [⟨true, 0, 0, .cells e.cells 24⟩, ⟨true, 1, 0, .cells b.cells 24⟩, ⟨true, 2, 0, .map (mpE 0 reg) reg.length⟩]) := by
    have := n1 () trivial [⟨true, 0, 0, .cells e.cells 24⟩, ⟨true, 1, 0, .cells b.cells 24⟩]
    rw [this]
    simp only [shA, mapH, mapO, List.map_cons, List.map_nil, shO, renB, mp_ren, List.length_nil, List.length_cons, List.cons_append, List.nil_append]
    rfl
  have w : ∀ g, g ≠ 7 → ∀ args H, acall Tryd.prog O2 H g args = acall Tryd.prog O H g args := n2
  have q1 : ∀ H, acall Tryd.prog O2 H 4 [] = some (.bool true, H) := fun H => by rw [w _ (by decide)]; exact p1 () trivial H
  have q2 : ∀ x, okE x → ∀ H, acall Tryd.prog O2 H 5 [.agg x.cells, .int .i64 3000] = some (.bool (decide (0 ≤ heftE x 3000)), H) := fun x hx H => by rw [w _ (by decide)]; exact p2 x hx H
  have q3 : ∀ x, okE x → sizeE x ≤ 1048576 → ∀ H, acall Tryd.prog O2 H 6 [.agg x.cells] = some (.int .i64 (checkE x), H) := fun x h1 h2 H => by rw [w _ (by decide)]; exact p3 x ⟨h1, h2⟩ H
  have q4 : ∀ H, acall Tryd.prog O2 H 9 [.agg e.cells] = some (simpO e, H) := fun H => by rw [w _ (by decide)]; exact p4 () trivial H
  have q5 : ∀ x, sizeE x ≤ 1048576 → ∀ H, acall Tryd.prog O2 H 10 [.agg x.cells] = some (.int .i64 (sizeE x), H) := fun x h1 H => by rw [w _ (by decide)]; exact p5 x h1 H
  have q6 : ∀ H, acall Tryd.prog O2 H 11 [.agg e.cells] = some (nmsO e, H) := fun H => by rw [w _ (by decide)]; exact p6 () trivial H
  have q7 : ∀ H, acall Tryd.prog O2 H 12 [.agg e.cells, .str nm, .agg b.cells] = some (putO e nm b, H) := fun H => by rw [w _ (by decide)]; exact p7 () trivial H
  have qE : ∀ (x : Ex) (k : Nat) (rg : List (List UInt8 × Int)) (H : AHeap), H[k]? = some (mapO k rg) → MemOK Tryd.prog runLives.gl 8 [.agg x.cells, .map k] H (.tuple [.int .i64 (evalE (regR rg) x), .int .i64 0]) H → acall Tryd.prog O2 H 8 [.agg x.cells, .map k] = some (.tuple [.int .i64 (evalE (regR rg) x), .int .i64 0], H) := fun x k rg H h1 h2 => by rw [w _ (by decide)]; exact m1 (x, k, rg, H) ⟨h1, h2⟩
  have hnl : (sortB (addA (nmE e) [])).length ≤ 1048576 := by
    rw [(sortB_perm _).length_eq]
    have g1 := addA_len (nmE e) []
    have g2 := nmE_len e
    simp only [List.length_nil] at g1
    omega
  have q2e := q2 e he.1
  have q2b := q2 b hb.1
  have q3e := q3 e he.1 (by omega)
  have q3b := q3 b hb.1 (by omega)
  have q5e := q5 e (by omega)
  have q5s := q5 (simpE e) (by omega)
  clear q2 q3 q5 w n1 n2 m1 p1 p2 p3 p4 p5 p6 p7 hO
  rw [show simpO e = .tuple [.agg (simpE e).cells, .int .i64 0] from by unfold simpO; rw [if_pos hce, hce]] at q4
  rw [hce] at q3e
  rw [hcb] at q3b
  rw [show decide (0 ≤ heftE e 3000) = true by simpa using hle] at q2e
  rw [show decide (0 ≤ heftE b 3000) = true by simpa using hlb] at q2b
  unfold nmsO at q6
  unfold putO at q7
  have hpI := put_good0 (nm := nm) hge hgb hce hcb
  have hpx : putI e nm b = 0 → (if putI e nm b = 0 then putE nm b e else zeroX) = putE nm b e := fun h => if_pos h
  have hpc : putI e nm b = 0 → checkE (putE nm b e) = 0 := put_check
  generalize (if putI e nm b = 0 then putE nm b e else zeroX) = px at *
  generalize putI e nm b = pI at *
  have r5b : ∀ few, acall Tryd.prog O2 (h5 e b reg (simpE e) few px) 8 [.agg b.cells, .map 2] = some (.tuple [.int .i64 (evalE (regR reg) b), .int .i64 0], h5 e b reg (simpE e) few px) := fun few => qE b 2 reg _ rfl (Eval5_ok b e b reg (simpE e) few px hb.1 hcb)
  have r5e : ∀ few, acall Tryd.prog O2 (h5 e b (putR nm (evalE (regR reg) b) reg) (simpE e) few px) 8 [.agg e.cells, .map 2] = some (.tuple [.int .i64 (evalE (regR (putR nm (evalE (regR reg) b) reg)) e), .int .i64 0], h5 e b (putR nm (evalE (regR reg) b) reg) (simpE e) few px) := fun few => qE e 2 _ _ rfl (Eval5_ok e e b _ (simpE e) few px he.1 hce)
  have r5x : pI = 0 → ∀ few, acall Tryd.prog O2 (h5 e b reg (simpE e) few px) 8 [.agg px.cells, .map 2] = some (.tuple [.int .i64 (evalE (regR (putR nm (evalE (regR reg) b) reg)) e), .int .i64 0], h5 e b reg (simpE e) few px) := fun h few => by
    have h1 := hpx h
    have h2 := hpc h
    have h3 : okE px := by rw [h1]; exact (good_put hgb hge).2.2
    have := qE px 2 reg _ rfl (Eval5_ok px e b reg (simpE e) few px h3 (by rw [h1]; exact h2))
    rw [reg_put, ← eval_put, ← h1]
    exact this
  have r5s : ∀ few, aMapSet Tryd.prog 31 (.map 2) (.str nm) (.int .i64 (evalE (regR reg) b)) (h5 e b reg (simpE e) few px) = some (h5 e b (putR nm (evalE (regR reg) b) reg) (simpE e) few px) := fun few => set5 e b reg (simpE e) few px nm _
  have qE1 : acall Tryd.prog O2 [⟨true, 0, 0, .cells e.cells 24⟩, ⟨true, 1, 0, .cells b.cells 24⟩, ⟨true, 2, 0, .map (mpE 0 reg) reg.length⟩] 8 [.agg e.cells, .map 2] = some (.tuple [.int .i64 (evalE (regR reg) e), .int .i64 0], [⟨true, 0, 0, .cells e.cells 24⟩, ⟨true, 1, 0, .cells b.cells 24⟩, ⟨true, 2, 0, .map (mpE 0 reg) reg.length⟩]) := qE e 2 reg _ rfl (Eval2_ok e e b reg [] he.1 hce (by obtain ⟨a1, a2, a3, a4⟩ := e; obtain ⟨b1, b2, b3, b4⟩ := b; rfl))
  have qE2 : acall Tryd.prog O2 [⟨true, 0, 0, .cells e.cells 24⟩, ⟨true, 1, 0, .cells b.cells 24⟩, ⟨true, 2, 0, .map (mpE 0 reg) reg.length⟩, ⟨true, 3, 0, .cells (simpE e).cells 24⟩] 8 [.agg (simpE e).cells, .map 2] = some (.tuple [.int .i64 (evalE (regR reg) e), .int .i64 0], [⟨true, 0, 0, .cells e.cells 24⟩, ⟨true, 1, 0, .cells b.cells 24⟩, ⟨true, 2, 0, .map (mpE 0 reg) reg.length⟩, ⟨true, 3, 0, .cells (simpE e).cells 24⟩]) := by
    have := qE (simpE e) 2 reg _ rfl (Eval2_ok (simpE e) e b reg [⟨true, 3, 0, .cells (simpE e).cells 24⟩] (good_simp hge).2.2 hcs (by generalize simpE e = s; obtain ⟨a1, a2, a3, a4⟩ := e; obtain ⟨b1, b2, b3, b4⟩ := b; obtain ⟨c1, c2, c3, c4⟩ := s; rfl))
    rw [eval_simp (inM_reg hr0) hge] at this
    exact this
  have qE3 : acall Tryd.prog O2 [⟨true, 0, 0, .cells e.cells 24⟩, ⟨true, 1, 0, .cells b.cells 24⟩, ⟨true, 2, 0, .map (mpE 0 reg) reg.length⟩, ⟨true, 3, 0, .cells (simpE e).cells 24⟩, ⟨true, 4, 0, .map (mpE 0 (fewR reg (sortB (addA (nmE e) [])) [])) (fewR reg (sortB (addA (nmE e) [])) []).length⟩] 8 [.agg e.cells, .map 4] = some (.tuple [.int .i64 (evalE (regR reg) e), .int .i64 0], [⟨true, 0, 0, .cells e.cells 24⟩, ⟨true, 1, 0, .cells b.cells 24⟩, ⟨true, 2, 0, .map (mpE 0 reg) reg.length⟩, ⟨true, 3, 0, .cells (simpE e).cells 24⟩, ⟨true, 4, 0, .map (mpE 0 (fewR reg (sortB (addA (nmE e) [])) [])) (fewR reg (sortB (addA (nmE e) [])) []).length⟩]) := by
    have := qE e 4 (fewR reg (sortB (addA (nmE e) [])) []) _ rfl (Eval4_ok e e b (simpE e) reg (fewR reg (sortB (addA (nmE e) [])) []) he.1 hce)
    rw [eval_few hge] at this
    exact this
  generalize evalE (regR (putR nm (evalE (regR reg) b) reg)) e = vz at *
  generalize evalE (regR reg) b = vb at *
  generalize putR nm vb reg = reg2 at *
  generalize evalE (regR reg) e = ve at *
  generalize sizeE (simpE e) = zs at *
  generalize sizeE e = ze at *
  have hvz : (vz == vz) = true := by simp
  simp only [h5] at r5b r5e r5x r5s
  have hgt : decide ((zs : Int) > (ze : Int)) = false := by simp; omega
  have hve : (ve != ve) = false := by simp
  generalize hs : simpE e = s at *
  generalize hn : sortB (addA (nmE e) []) = ns at *
  obtain ⟨eo, en, es, ek⟩ := e
  obtain ⟨bo, bn, bs, bk⟩ := b
  obtain ⟨so, sn, ss, sk⟩ := s
  obtain ⟨xo, xn, xs, xk⟩ := px
  simp only [Ex.cells, exA, rsK] at q2e q2b qr q3e q3b q4 q5e q5s q6 q7 qE1 qE2 qE3 r5b r5e r5x r5s ⊢
  refine fn_val follows noNum hO2 Tryd.func3 rfl ?_
  repeat' ((conv => whnf); first | (with_reducible refine exI (q1 _) ?_) | (with_reducible refine exI (q2e _) ?_) | (with_reducible refine exI (q2b _) ?_) | (with_reducible refine exI (q3e _) ?_) | (with_reducible refine exI (q3b _) ?_) | (refine exI qr ?_) | (refine exI qE1 ?_) | (refine exI qE2 ?_) | (with_reducible refine exI (q6 _) ?_) | (with_reducible refine exI (q7 _) ?_) | (with_reducible refine exI (q4 _) ?_) | (with_reducible refine exI (q5e _) ?_) | (with_reducible refine exI (q5s _) ?_) | (first | refine stp ?_ | with_reducible refine condB (fun h => ?_) (fun h => ?_)))
  conv => whnf
  refine ⟨Nat, (fun i => i ≤ ns.length), (fun i => [(4, .str nm), (5, .ptr 0 0), (6, .ptr 1 0), (11, .map 2), (12, .int .i64 ve), (18, .map 4), (19, .rs ns.length 1 (ns.map .str)), (20, .int .i64 i)]), (fun i => [⟨true, 0, 0, .cells [.int .i64 eo, .int .i64 en, .str es, .rs ek.length 4 (exC ek)] 24⟩, ⟨true, 1, 0, .cells [.int .i64 bo, .int .i64 bn, .str bs, .rs bk.length 4 (exC bk)] 24⟩, mapO 2 reg, ⟨true, 3, 0, .cells [.int .i64 so, .int .i64 sn, .str ss, .rs sk.length 4 (exC sk)] 24⟩, mapO 4 (fewR reg (ns.take i) [])]), (fun i => ns.length - i), ⟨0, Nat.zero_le _, ?_⟩, ?_⟩
  · exact FgL.mk [0, 1, 2, 3, 4] rfl ⟨Wk.noref rfl, Wk.ptr rfl rfl, Wk.ptr rfl rfl, Wk.map rfl, Wk.int rfl, Wk.map rfl, Wk.noref rfl, Wk.int rfl, trivial⟩ ⟨⟨rfl, rfl, rfl, rfl, BodyGe.pre (rest := []) rfl rfl⟩, ⟨rfl, rfl, rfl, rfl, BodyGe.pre (rest := []) rfl rfl⟩, ⟨rfl, rfl, rfl, rfl, ⟨rfl, mp_ge _ _ _⟩⟩, ⟨rfl, rfl, rfl, rfl, BodyGe.pre (rest := []) rfl rfl⟩, ⟨rfl, rfl, rfl, rfl, ⟨rfl, trivial⟩⟩, trivial⟩ rfl
  intro i hi
  dsimp only
  clear q1 q2e q2b qr q3e q3b q4 q5e q5s q6 qE1 qE2
  by_cases hlt : i < ns.length
  · have e1 : decide ((i : Int) < (ns.length : Int)) = true := by simpa using hlt
    have hx := tk1_map AV.str ns i hlt (off := i * 1) (by omega)
    have hnx := fewR_next reg ns i hlt
    generalize fewR reg (ns.take i) [] = fw at *
    generalize ns[i] = sx at *
    have hset : aMapSet Tryd.prog 31 (.map 4) (.str sx) (.int .i64 (regR reg sx)) [⟨true, 0, 0, .cells [.int .i64 eo, .int .i64 en, .str es, .rs ek.length 4 (exC ek)] 24⟩, ⟨true, 1, 0, .cells [.int .i64 bo, .int .i64 bn, .str bs, .rs bk.length 4 (exC bk)] 24⟩, ⟨true, 2, 0, .map (mpE 0 reg) reg.length⟩, ⟨true, 3, 0, .cells [.int .i64 so, .int .i64 sn, .str ss, .rs sk.length 4 (exC sk)] 24⟩, ⟨true, 4, 0, .map (mpE 0 fw) fw.length⟩] = some [⟨true, 0, 0, .cells [.int .i64 eo, .int .i64 en, .str es, .rs ek.length 4 (exC ek)] 24⟩, ⟨true, 1, 0, .cells [.int .i64 bo, .int .i64 bn, .str bs, .rs bk.length 4 (exC bk)] 24⟩, ⟨true, 2, 0, .map (mpE 0 reg) reg.length⟩, ⟨true, 3, 0, .cells [.int .i64 so, .int .i64 sn, .str ss, .rs sk.length 4 (exC sk)] 24⟩, ⟨true, 4, 0, .map (mpE 0 (putR sx (regR reg sx) fw)) (putR sx (regR reg sx) fw).length⟩] := mp_putK (k := 4) (n := fw) rfl rfl sx (regR reg sx)
    simp only [mapO]
    repeat' ((conv => whnf); first | (with_reducible refine ixJ i rfl ?_ ?_; (focus (omega))) | (refine exI hx ?_) | (refine exI (mp_lookK sx reg rfl) ?_) | (refine exI hset ?_) | (first | refine stp ?_ | with_reducible refine condB (fun h => ?_) (fun h => ?_)))
    conv => whnf
    refine ⟨i + 1, hlt, by show ns.length - (i + 1) < ns.length - i; omega, ?_⟩
    rw [hnx]
    exact FgL.mk [0, 1, 2, 3, 4] rfl ⟨Wk.noref rfl, Wk.ptr rfl rfl, Wk.ptr rfl rfl, Wk.map rfl, Wk.int rfl, Wk.map rfl, Wk.noref rfl, Wk.int rfl, trivial⟩ ⟨⟨rfl, rfl, rfl, rfl, BodyGe.pre (rest := []) rfl rfl⟩, ⟨rfl, rfl, rfl, rfl, BodyGe.pre (rest := []) rfl rfl⟩, ⟨rfl, rfl, rfl, rfl, ⟨rfl, mp_ge _ _ _⟩⟩, ⟨rfl, rfl, rfl, rfl, BodyGe.pre (rest := []) rfl rfl⟩, ⟨rfl, rfl, rfl, rfl, ⟨rfl, mp_ge _ _ _⟩⟩, trivial⟩ rfl
  · have e1 : decide ((i : Int) < (ns.length : Int)) = false := by simpa using hlt
    have hi2 : i = ns.length := by have := hi; omega
    subst hi2
    rw [List.take_length]
    simp only [mapO]
    rcases hpI with rfl | rfl
    · have r5x := r5x rfl
      generalize fewR reg ns [] = few at *
      have r5b := r5b few
      have r5e := r5e few
      have r5x := r5x few
      have r5s := r5s few
      repeat' ((conv => whnf); first | (refine exI qE3 ?_) | (with_reducible refine exI (q7 _) ?_) | (refine exI r5b ?_) | (refine exI r5x ?_) | (refine exI r5s ?_) | (refine exI r5e ?_) | (first | refine stp ?_ | with_reducible refine condB (fun h => ?_) (fun h => ?_)))
      all_goals (rw [hvz]; rfl)
    · repeat' ((conv => whnf); first | (refine exI qE3 ?_) | (with_reducible refine exI (q7 _) ?_) | (first | refine stp ?_ | with_reducible refine condB (fun h => ?_) (fun h => ?_)))
      all_goals rfl
end Go.Proofs.YtcbjhdklbhlmhaaDoor.lex
end

/-
  'cantileverlaw07.ValueSimple': whatever it is handed, it says true.
-/
section
set_option linter.unusedVariables false
set_option linter.unusedSimpArgs false
namespace Go.Proofs.YtcbjhdklbhlmhaaDoor.lex
open Go.Abs Go.RowKit
set_option maxRecDepth 100000
set_option maxHeartbeats 4000000
theorem simpleAll (e b : Ex) (names : List (List UInt8)) (l : List Int) (nm : List UInt8) (he : okI e) (hb : okI b) (hl : ∀ v ∈ l, inI v) : ValOK Tryd.prog runLives.gl 3 [.agg e.cells, .agg b.cells, rsK names, .rs l.length 1 (ksC l), .str nm] (.bool true) := by
  by_cases h : 0 ≤ heftE e 3000 ∧ 0 ≤ heftE b 3000 ∧ checkE e = 0 ∧ checkE b = 0
  · exact simpleLaw e b names l nm he hb hl h.1 h.2.1 h.2.2.1 h.2.2.2
  obtain ⟨O2, hO2, p1, p2, p3, -⟩ := fams (P := Tryd.prog) (gl := runLives.gl) [
      oneV (f := 4) (A := []) (R := .bool true) True (by kernel_rfl) rfl (fun _ => livesV),
      { I := Ex, f := 5, G := okE, A := fun e => [.agg e.cells, .int .i64 3000], R := fun e => .bool (decide (0 ≤ heftE e 3000)), body := (by kernel_rfl), inj := (fun i j _ _ h => by simp only [List.cons.injEq] at h; rw [agg_inj (a := i) (b := j) (by rw [h.1])]), ok := (fun e he => ⟨pair_refs e 3000, light_ok e 3000 he (by omega) (by omega)⟩) },
      famSelf (f := 6) (by kernel_rfl) (fun x => okE x ∧ sizeE x ≤ 1048576) (fun x => .int .i64 (checkE x)) (fun x hx => checkER_ok x hx.1 hx.2)] rfl
  have q1 : ∀ H, acall Tryd.prog O2 H 4 [] = some (.bool true, H) := fun H => p1 () trivial H
  have q2e : ∀ H, acall Tryd.prog O2 H 5 [.agg e.cells, .int .i64 3000] = some (.bool (decide (0 ≤ heftE e 3000)), H) := p2 e he.1
  have q2b : ∀ H, acall Tryd.prog O2 H 5 [.agg b.cells, .int .i64 3000] = some (.bool (decide (0 ≤ heftE b 3000)), H) := p2 b hb.1
  have q3e : 0 ≤ heftE e 3000 → ∀ H, acall Tryd.prog O2 H 6 [.agg e.cells] = some (.int .i64 (checkE e), H) := fun g => p3 e ⟨he.1, by have := light_sizeV e g; omega⟩
  have q3b : 0 ≤ heftE b 3000 → ∀ H, acall Tryd.prog O2 H 6 [.agg b.cells] = some (.int .i64 (checkE b), H) := fun g => p3 b ⟨hb.1, by have := light_sizeV b g; omega⟩
  clear p1 p2 p3 he hb hl
  generalize heftE e 3000 = e3 at *
  generalize heftE b 3000 = b3 at *
  generalize checkE e = ce at *
  generalize checkE b = cb at *
  obtain ⟨eo, en, es, ek⟩ := e
  obtain ⟨bo, bn, bs, bk⟩ := b
  simp only [Ex.cells, exA, rsK] at q2e q2b q3e q3b ⊢
  refine fn_val follows noNum hO2 Tryd.func3 rfl ?_
  by_cases g1 : 0 ≤ e3
  · have e1 : decide (0 ≤ e3) = true := by simpa using g1
    have q3e := q3e g1
    rw [e1] at q2e
    by_cases g2 : 0 ≤ b3
    · have e2 : decide (0 ≤ b3) = true := by simpa using g2
      have q3b := q3b g2
      rw [e2] at q2b
      by_cases g3 : ce = 0
      · subst g3
        have g4 : cb ≠ 0 := fun g => h ⟨g1, g2, rfl, g⟩
        have e4 : (cb != 0) = true := by simpa using g4
        repeat' ((conv => whnf); first | (with_reducible refine exI (q1 _) ?_) | (with_reducible refine exI (q2e _) ?_) | (with_reducible refine exI (q2b _) ?_) | (with_reducible refine exI (q3e _) ?_) | (with_reducible refine exI (q3b _) ?_) | (first | refine stp ?_ | with_reducible refine condB (fun h => ?_) (fun h => ?_)))
        all_goals rfl
      · have e4 : (ce != 0) = true := by simpa using g3
        repeat' ((conv => whnf); first | (with_reducible refine exI (q1 _) ?_) | (with_reducible refine exI (q2e _) ?_) | (with_reducible refine exI (q2b _) ?_) | (with_reducible refine exI (q3e _) ?_) | (with_reducible refine exI (q3b _) ?_) | (first | refine stp ?_ | with_reducible refine condB (fun h => ?_) (fun h => ?_)))
        all_goals rfl
    · have e2 : decide (0 ≤ b3) = false := by simpa using g2
      rw [e2] at q2b
      repeat' ((conv => whnf); first | (with_reducible refine exI (q1 _) ?_) | (with_reducible refine exI (q2e _) ?_) | (with_reducible refine exI (q2b _) ?_) | (first | refine stp ?_ | with_reducible refine condB (fun h => ?_) (fun h => ?_)))
      all_goals rfl
  · have e1 : decide (0 ≤ e3) = false := by simpa using g1
    rw [e1] at q2e
    repeat' ((conv => whnf); first | (with_reducible refine exI (q1 _) ?_) | (with_reducible refine exI (q2e _) ?_) | (first | refine stp ?_ | with_reducible refine condB (fun h => ?_) (fun h => ?_)))
    all_goals rfl
theorem oi_listR : ∀ l : List (List AV), (∀ u ∈ l, OI u ∧ u.length = 1) → ∃ m : List Int, l.flatten = ksC m ∧ l.length = m.length ∧ ∀ v ∈ m, inI v
  | [], _ => ⟨[], rfl, rfl, by simp⟩
  | u :: l, h => by
    obtain ⟨m, h1, h2, h3⟩ := oi_listR l fun v hv => h v (by simp [hv])
    obtain ⟨⟨s, rfl, hw⟩, _⟩ := h u (by simp)
    exact ⟨s :: m, by simp [h1, ksC], by simp [h2], fun v hv => by rcases List.mem_cons.1 hv with rfl | hv; exact wf_in hw; exact h3 v hv⟩
theorem oopensIR : OpensV Tryd.prog 26 fun u => ∃ l : List Int, u = .rs l.length 1 (ksC l) ∧ ∀ v ∈ l, inI v := by
  refine opensV_mono (opensV_slice Tryd.underlying26 (by kernel_rfl) (show (1 : Nat) ≠ 0 by decide) (opens_int Tryd.underlying2)) ?_
  rintro u ⟨l, hl, rfl, _⟩
  obtain ⟨m, e1, e2, e3⟩ := oi_listR l hl
  exact ⟨m, by rw [e1, e2], e3⟩
end Go.Proofs.YtcbjhdklbhlmhaaDoor.lex
namespace Go.Proofs.YtcbjhdklbhlmhaaDoor.simpleLaw
open Go.Abs Go.RowKit
def Qs : List (AV → Prop) := [fun u => ∃ e : lex.Ex, u = .agg e.cells ∧ lex.okI e, fun u => ∃ e : lex.Ex, u = .agg e.cells ∧ lex.okI e, fun u => ∃ n : List (List UInt8), u = rsK n, fun u => ∃ l : List Int, u = .rs l.length 1 (lex.ksC l) ∧ ∀ v ∈ l, lex.inI v, fun u => ∃ s : List UInt8, u = .str s]
theorem opens : OpensAll Tryd.prog Tryd.f3.params.toList Qs := by
  rw [Tryd.params3]
  exact ⟨lex.oopensX, lex.oopensX, lex.oopensW, lex.oopensIR, lex.oopensT, trivial⟩
theorem law (us : List AV) (h : AllQ Qs us) : ValOK Tryd.prog runLives.gl 3 us (.bool true) := by
  obtain ⟨_, _, rfl, ⟨e, rfl, he⟩, h1⟩ := allQ_cons h
  obtain ⟨_, _, rfl, ⟨b, rfl, hb⟩, h2⟩ := allQ_cons h1
  obtain ⟨_, _, rfl, ⟨names, rfl⟩, h3⟩ := allQ_cons h2
  obtain ⟨_, _, rfl, ⟨l, rfl, hl⟩, h4⟩ := allQ_cons h3
  obtain ⟨_, _, rfl, ⟨nm, rfl⟩, h5⟩ := allQ_cons h4
  cases allQ_nil h5
  exact lex.simpleAll e b names l nm he hb hl
theorem solid : Solid Tryd.prog := by unfold Solid; kernel_rfl
end Go.Proofs.YtcbjhdklbhlmhaaDoor.simpleLaw
end


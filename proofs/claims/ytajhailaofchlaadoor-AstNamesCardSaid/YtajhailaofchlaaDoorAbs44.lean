/-
  A verified abstract interpreter, part 44: runs in which some functions are answered by a contract; slices.Sorted of a map's keys, handed back to be read alone.
-/
import Derived.Test.YtajhailaofchlaaDoorAbs43
import Derived.Sort.KeysCollected
import Derived.Maps.OwnSet
set_option linter.unusedSimpArgs false
set_option linter.unusedVariables false
namespace Go.Abs
open Go.RowKit Go.Maps
open Go.Proofs (encStr)

/-! runs with contracts -/
/-- As 'runsT'; where isO says so, the contract alone is asked. -/
def runsG (P : Program) (gl : Glob) (isO : Nat → List AV → Bool) (tbl : Orc) (fuel : Nat) : Nat → Orc
  | 0 => fun _ _ _ => none
  | n + 1 => fun f args H => if isO f args = true then tbl f args H else afunc P gl (runsG P gl isO tbl fuel n) fuel f args H

theorem runsG_sound {P : Program} {gl : Glob} {isO : Nat → List AV → Bool} {tbl : Orc} {fuel : Nat} (hm : P.follows .mixedOrders = true) (hn : NoNum P) (ht : OrcSound P gl tbl) : ∀ n, OrcSound P gl (runsG P gl isO tbl fuel n)
  | 0 => by intro f args H r H' h; simp [runsG] at h
  | n + 1 => by
    have := afunc_sound (fuel := fuel) hm hn (runsG_sound (fuel := fuel) (isO := isO) hm hn ht n)
    intro f args H r H' h
    simp only [runsG] at h
    split at h
    · exact ht f args H r H' h
    · exact this f args H r H' h

noncomputable def frunG (P : Program) (gl : Glob) (isO : Nat → List AV → Bool) (fo : FOrc) (fuel n : Nat) : FOrc :=
  Nat.rec (motive := fun _ => FOrc) (fun _ _ _ => none) (fun _ ih f args T => iff' (isO f args) (fo f args T) (Option.rec none (fun run => run ih args T) (fcomp P gl fuel f))) n

section
variable {P : Program} {gl : Glob} {fuel : Nat}
theorem frunG_ok {isO : Nat → List AV → Bool} {fo : FOrc} {tbl : Orc} (hs : OrcSim fo tbl) : ∀ m, OrcSim (frunG P gl isO fo fuel m) (runsG P gl isO tbl fuel m)
  | 0 => by intro f args T r T' h; cases h
  | m + 1 => by
    intro f args T r T' h H hR
    rcases iff_some2 (show iff' (isO f args) (fo f args T) (Option.rec none (fun run => run (frunG P gl isO fo fuel m) args T) (fcomp P gl fuel f)) = some (r, T') from h) with ⟨h1, h2⟩ | ⟨h1, h2⟩
    · obtain ⟨H', g1, g2⟩ := hs f args T r T' h2 H hR
      exact ⟨H', by simp [runsG, h1, g1], g2⟩
    · cases hf : fcomp P gl fuel f with
      | none => rw [hf] at h2; cases h2
      | some run =>
        rw [hf] at h2
        obtain ⟨H', g1, g2⟩ := fcomp_ok (frunG_ok hs m) hf hR h2
        exact ⟨H', by simp [runsG, h1, g1], g2⟩

/-- What the kernel ran with contracts is known. -/
theorem known_trueG (hm : P.follows .mixedOrders = true) (hn : NoNum P) {isO : Nat → List AV → Bool} {fo : FOrc} {tbl : Orc} (hs : OrcSim fo tbl) (ht : OrcSound P gl tbl)
    {l : List (Nat × List AV)} (hl : OrcSound P gl (tblO l)) {m f : Nat} {az : List AV} (hrefs : refsL az [] = []) (h : saysTrue (frunG P gl isO fo fuel m f az TH.empty) = true) : OrcSound P gl (tblO ((f, az) :: l)) := by
  obtain ⟨T', h'⟩ := saysTrue_spec h
  obtain ⟨H', h1, _⟩ := frunG_ok hs m f az TH.empty _ T' h' [] Rep.empty
  exact tblO_cons hl hrefs (runsG_sound hm hn ht m) h1

/-- What is known to be true, as a contract for the quick run. -/
def ftblO (l : List (Nat × List AV)) : FOrc := fun f args T => if memA f args l then some (.bool true, T) else none
theorem ftblO_sim (l : List (Nat × List AV)) : OrcSim (ftblO l) (tblO l) := by
  intro f args T r T' h H hR
  simp only [ftblO] at h
  split at h <;> simp at h
  obtain ⟨rfl, rfl⟩ := h
  exact ⟨H, by simp [tblO, *], hR⟩

/-- One contract, then the other. -/
def orcThen (a b : Orc) : Orc := fun f args H => match a f args H with | some r => some r | none => b f args H
def forcThen (g : Nat → List AV → Bool) (a b : FOrc) : FOrc := fun f args T => if g f args = true then a f args T else b f args T
def orcIf (g : Nat → List AV → Bool) (a b : Orc) : Orc := fun f args H => if g f args = true then a f args H else b f args H
theorem orcIf_sound {g : Nat → List AV → Bool} {a b : Orc} (ha : OrcSound P gl a) (hb : OrcSound P gl b) : OrcSound P gl (orcIf g a b) := by
  intro f args H r H' h
  simp only [orcIf] at h
  split at h
  · exact ha f args H r H' h
  · exact hb f args H r H' h
theorem forcThen_sim {g : Nat → List AV → Bool} {fa fb : FOrc} {a b : Orc} (ha : OrcSim fa a) (hb : OrcSim fb b) : OrcSim (forcThen g fa fb) (orcIf g a b) := by
  intro f args T r T' h H hR
  simp only [forcThen] at h
  split at h
  · obtain ⟨H', h1, h2⟩ := ha f args T r T' h H hR
    exact ⟨H', by simp [orcIf, *], h2⟩
  · obtain ⟨H', h1, h2⟩ := hb f args T r T' h H hR
    exact ⟨H', by simp [orcIf, *], h2⟩
end

/-! texts in order -/
def insB (x : List UInt8) : List (List UInt8) → List (List UInt8)
  | [] => [x]
  | y :: l => if leB x y = true then x :: y :: l else y :: insB x l
/-- Texts, rising. -/
def sortB : List (List UInt8) → List (List UInt8)
  | [] => []
  | x :: l => insB x (sortB l)
theorem insB_perm (x : List UInt8) : ∀ l : List (List UInt8), (insB x l).Perm (x :: l)
  | [] => .refl _
  | y :: l => by
    simp only [insB]
    split
    · exact .refl _
    · exact ((insB_perm x l).cons y).trans (.swap x y l)
theorem sortB_perm : ∀ l : List (List UInt8), (sortB l).Perm l
  | [] => .refl _
  | x :: l => (insB_perm x _).trans ((sortB_perm l).cons x)
theorem leB_total (a b : List UInt8) : leB a b = true ∨ leB b a = true := by
  simp only [leB, decide_eq_true_eq]
  exact List.le_total a b
theorem leB_trans {a b c : List UInt8} (h : leB a b = true) (h' : leB b c = true) : leB a c = true := by
  simp only [leB, decide_eq_true_eq] at *
  exact List.le_trans h h'
theorem leB_anti {a b : List UInt8} (h : leB a b = true) (h' : leB b a = true) : a = b := by
  simp only [leB, decide_eq_true_eq] at *
  exact List.le_antisymm h h'
theorem insB_sorted (x : List UInt8) : ∀ l : List (List UInt8), l.Pairwise (fun a b => leB a b = true) → (insB x l).Pairwise (fun a b => leB a b = true)
  | [], _ => by simp [insB]
  | y :: l, h => by
    rw [List.pairwise_cons] at h
    simp only [insB]
    split
    · rename_i hxy
      rw [List.pairwise_cons]
      refine ⟨fun a ha => ?_, by rw [List.pairwise_cons]; exact h⟩
      rcases List.mem_cons.1 ha with rfl | ha
      · exact hxy
      · exact leB_trans hxy (h.1 a ha)
    · rename_i hxy
      rw [List.pairwise_cons]
      refine ⟨fun a ha => ?_, insB_sorted x l h.2⟩
      rcases List.mem_cons.1 ((insB_perm x l).mem_iff.1 ha) with rfl | ha
      · exact (leB_total a y).resolve_left hxy
      · exact h.1 a ha
theorem sortB_sorted : ∀ l : List (List UInt8), (sortB l).Pairwise (fun a b => leB a b = true)
  | [] => List.Pairwise.nil
  | x :: l => insB_sorted x _ (sortB_sorted l)
theorem sortB_unique {l l' : List (List UInt8)} (hp : l'.Perm l) (hs : l'.Pairwise (fun a b => leB a b = true)) : l' = sortB l :=
  List.Perm.eq_of_pairwise (le := fun a b => leB a b = true) (fun a b _ _ h1 h2 => leB_anti h1 h2) hs (sortB_sorted l) (hp.trans (sortB_perm l).symm)
theorem mergeSort_sortB {ss l : List (List UInt8)} (hp : ss.Perm l) : ss.mergeSort leB = sortB l := by
  refine sortB_unique ((List.mergeSort_perm ss leB).trans hp) ?_
  exact List.pairwise_mergeSort (le := leB) (fun a b c h1 h2 => leB_trans h1 h2) (fun a b => by simp only [Bool.or_eq_true]; exact leB_total a b) ss

/-! slices.Sorted(maps.Keys(m)) -/
/-- What slices.Sorted does with the function value that maps.Keys made. -/
def SortsKeys (P : Program) (fS fI kt : Nat) : Prop := ∀ (Bm b nn : Nat) (D0 : DataW Unit) (R : Value → Option (DataW Unit × List MemPlace)) (W : World),
  W.cell? ⟨Bm, 0, none⟩ = some (.map (some b)) → W.ownsMap P kt R b nn D0 → Maps.size D0 ≤ maxLen → Maps.size D0 * 16 ≤ 140737488355328 →
  Calls P fS #[.func (.func fI) #[] #[.pointer (some ⟨Bm, 0, none⟩)]] W fun e W' => ∃ (v : Value) (ss : List (List UInt8)), e = .returned v ∧ ss.Perm (strKeys D0) ∧
    W'.ownsRow W.heap.size kt 1 v ss.length ((ss.mergeSort leB).map encStr) ∧ (v = .slice none 0 0 ↔ ss = []) ∧ Below W.heap.size W W'

/-- Texts as a list that is read alone. -/
def rsK (l : List (List UInt8)) : AV := match l with | [] => .nslice | l => .rs l.length 1 (l.map .str)

theorem LR_strs {sn : Snap} {ι : IMap} : ∀ {l : List (List UInt8)}, LR sn ι (l.map .str) (l.map encStr)
  | [] => by simp [LR]
  | x :: l => by
    simp only [List.map_cons, LR]
    exact ⟨_, _, rfl, by simp [VR, encStr], LR_strs⟩

theorem ER_keys {sn : Snap} {ι : IMap} : ∀ {es : List (AV × AV × Nat)} {l : List MapEntry} {keys : List (List UInt8)}, ER sn ι es l → es.map (·.1) = keys.map AV.str → l.map (·.key) = keys.map encStr ∧ l.map (·.born) = es.map (·.2.2)
  | [], l, keys, h, hk => by
    simp [ER] at h; subst h
    cases keys <;> simp at hk
    simp
  | (k, v, n) :: es, l, keys, h, hk => by
    simp only [ER] at h
    obtain ⟨x, l', rfl, h1, h2, h3, h4⟩ := h
    cases keys with
    | nil => simp at hk
    | cons c keys =>
      simp only [List.map_cons, List.cons.injEq] at hk
      obtain ⟨rfl, hk⟩ := hk
      obtain ⟨e1, e2⟩ := ER_keys h4 hk
      obtain ⟨ba, e3, e4⟩ := h1.str
      simp only [List.map_cons, e1, e2, h3, and_true, List.cons.injEq]
      rw [e3, ← e4]

theorem MR_of_cells {sn : Snap} {W : World} {g : Nat} {B : Nat} (hg : B ≤ g) : ∀ (us : List AV) (vs : List Value) (o : Nat), LR (snx sn B W) noI us vs → (∀ (i : Nat) (v : Value), vs[i]? = some v → W.cell? ⟨g, o + i, none⟩ = some v) → MR (snx sn B W) us g o
  | [], vs, o, h, hc => by simp [MR]
  | u :: us, vs, o, h, hc => by
    simp only [LR] at h
    obtain ⟨d, ds, rfl, h1, h2⟩ := h
    simp only [MR]
    refine ⟨⟨d, ?_, h1⟩, MR_of_cells hg us ds (o + 1) h2 fun i v hv => ?_⟩
    · have := hc 0 d rfl
      simp only [snx]
      rw [if_neg (show ¬ g < B by omega)]
      exact this
    · have := hc (i + 1) v (by simpa using hv)
      rw [show o + 1 + i = o + (i + 1) from by omega]; exact this

theorem sorted_calls {P : Program} {fS fI kt : Nat} (hS : SortsKeys P fS fI kt) (hk : P.underlying kt = some .string) {sn : Snap} {ι : IMap} {H : AHeap} {W : World} (hR : R sn ι H W)
    {c b : Nat} {oc ob : AObj} {cs : List AV} {ty : TypeId} {es : List (AV × AV × Nat)} {clock : Nat} {keys : List (List UInt8)}
    (hc : H[c]? = some oc) (hca : oc.alive = true) (hcs : oc.sh = 0) (hcb : oc.body = .cells (.map b :: cs) ty) (hb : H[b]? = some ob) (hba : ob.alive = true) (hbb : ob.body = .map es clock)
    (hkeys : es.map (·.1) = keys.map AV.str) (hnd : keys.Nodup) (hlen : ∀ k ∈ keys, k.length ≤ maxLen) (hbn : (es.map (·.2.2)).Nodup) (hbc : ∀ n ∈ es.map (·.2.2), n < clock) (hsz : keys.length ≤ 1000000)
    {cargs : List Value} (ha : LR sn ι [.func (.func fI) [] [.ptr c 0]] cargs) :
    Calls P fS cargs.toArray W fun e W' => ∃ v sn' ι', e = .returned v ∧ VR sn' ι' (rsK (sortB keys)) v ∧ Stp sn ι H W sn' ι' H W' := by
  obtain ⟨pc, hpc⟩ := hR.place hc
  obtain ⟨pb, hpb⟩ := hR.place hb
  have hoc := hR.obj c oc pc hc hca hpc
  have hob := hR.obj b ob pb hb hba hpb
  rw [hcb] at hoc; rw [hbb] at hob
  simp only [OR] at hoc hob
  obtain ⟨arr, hw1, hw2, hw3, hw4⟩ := hoc
  obtain ⟨mes, hm1, hm2⟩ := hob
  have hz := hR.shz c oc pc hc hpc hcs
  obtain ⟨v0, hv0, hv1⟩ := hw4 0 (.map b) rfl
  obtain ⟨p', hp', rfl⟩ := hv1.map
  rw [hpb] at hp'; simp at hp'; subst hp'
  have hcell : W.cell? ⟨pc.blk, 0, none⟩ = some (.map (some pb.blk)) := by
    rw [cell_of_heap hw1]; rw [hz] at hv0; simpa using hv0
  obtain ⟨hk1, hk2⟩ := ER_keys hm2 hkeys
  have hlens : mes.size = keys.length := by
    have := congrArg List.length hk1
    simpa using this
  have hmx : maxLen = 9223372036854775807 := rfl
  let R0 : Value → Option (DataW Unit × List MemPlace) := fun _ => some (.nil, [])
  have hkeyOf : ∀ x ∈ mes.toList, ∃ s, x.key = encStr s ∧ s ∈ keys ∧ keyOf P kt x.key = some (.string s) := by
    intro x hx
    have : x.key ∈ mes.toList.map (·.key) := List.mem_map_of_mem hx
    rw [hk1] at this
    obtain ⟨s, hs, e⟩ := List.mem_map.1 this
    refine ⟨s, e.symm, hs, ?_⟩
    rw [← e]
    have hl := hlen s hs
    simp only [keyOf, hk, mapKey, encStr]
    have : (⟨⟨s⟩⟩ : ByteArray).size ≤ maxLen := by simpa [ByteArray.size] using hl
    rw [if_pos this]
  have hF : WideElems.Fit P kt R0 mes clock := by
    refine ⟨by omega, ⟨fun x hx => ?_, by rw [hk2]; exact hbn, ?_⟩, fun x hx => ?_⟩
    · exact hbc _ (by rw [← hk2]; exact List.mem_map_of_mem hx)
    · rw [hk1]
      exact (List.nodup_iff_pairwise_ne.1 hnd).map _ fun a b hab e => hab (encStr_inj e)
    · obtain ⟨s, _, _, h3⟩ := hkeyOf x hx
      exact ⟨(.string s, .nil), by simp [WideElems.rd, h3, R0]⟩
  let D0 : DataW Unit := .map ((mes.toList.map (WideElems.rg P kt R0)).foldr DataW.insert [])
  have hown : W.ownsMap P kt R0 pb.blk mes.size D0 := ⟨mes, clock, hm1, hF, Nat.le_refl _, rfl⟩
  have hsize : Maps.size D0 = mes.size := by simp only [D0, Maps.size]; exact length_read mes
  have hperm : (strKeys D0).Perm keys := by
    have h1 : ((mes.toList.map (WideElems.rg P kt R0)).foldr DataW.insert []).Perm (mes.toList.map (WideElems.rg P kt R0)) := by
      generalize mes.toList.map (WideElems.rg P kt R0) = l
      induction l with
      | nil => exact .refl _
      | cons x l ih =>
        have hins : ∀ (y : Lit × DataW Unit) (m : List (Lit × DataW Unit)), (DataW.insert y m).Perm (y :: m) := by
          intro y m
          induction m with
          | nil => exact .refl _
          | cons z m ih2 =>
            simp only [DataW.insert]
            split
            · exact .refl _
            · exact (ih2.cons z).trans (.swap y z m)
        exact (hins x _).trans (ih.cons x)
    have h2 := h1.map (fun p => strOf p.1)
    refine h2.trans ?_
    have : (mes.toList.map (WideElems.rg P kt R0)).map (fun p => strOf p.1) = keys := by
      have e : (mes.toList.map (WideElems.rg P kt R0)).map (fun p => encStr (strOf p.1)) = keys.map encStr := by
        rw [← hk1, List.map_map]
        refine List.map_congr_left fun x hx => ?_
        obtain ⟨s, h1, _, h3⟩ := hkeyOf x hx
        have hr : WideElems.rd P kt R0 x = some (.string s, .nil) := by simp [WideElems.rd, h3, R0]
        simp only [Function.comp, WideElems.rg_of hr, strOf, h1]
      have : (((mes.toList.map (WideElems.rg P kt R0)).map (fun p => strOf p.1)).map encStr) = keys.map encStr := by rw [List.map_map]; exact e
      exact List.map_inj_right (fun a b h => encStr_inj h) |>.1 this
    rw [this]
  have hargs : cargs = [.func (.func fI) #[] #[.pointer (some ⟨pc.blk, 0, none⟩)]] := by
    simp only [LR] at ha
    obtain ⟨d, ds, rfl, h1, rfl⟩ := ha
    obtain ⟨f', c', rfl, h2, h3⟩ := h1.func
    simp only [LR] at h2 h3
    obtain ⟨d2, ds2, h4, h5, h6⟩ := h3
    subst h6
    obtain ⟨p, hp, rfl⟩ := h5.ptr
    rw [hpc] at hp; simp at hp; subst hp
    have e1 : f' = #[] := by apply Array.ext'; simpa using h2
    have e2 : c' = #[.pointer (some ⟨pc.blk, 0, none⟩)] := by apply Array.ext'; simp [h4, hz]
    rw [e1, e2]
  rw [hargs]
  refine (hS pc.blk pb.blk mes.size D0 R0 W hcell hown (by omega) (by omega)).mono ?_
  rintro e W' ⟨v, ss, rfl, hss, hrow, hnil, hbel⟩
  have hext : Ext W W' := ⟨fun c hc => hbel.block c hc, hbel.size, hbel.os, hbel.tape, hbel.output⟩
  refine ⟨v, snx sn W.heap.size W', ι, rfl, ?_, Stp.snap hR hext⟩
  have hms : ss.mergeSort leB = sortB keys := mergeSort_sortB (hss.trans hperm)
  rw [hms] at hrow
  have hlen2 : (sortB keys).length = ss.length := by rw [← hms, List.length_mergeSort]
  obtain ⟨hr0, hr⟩ := hrow
  rcases hr with ⟨rfl, hz0⟩ | ⟨g, cap, cur, rfl, hg1, hg2, hg3, hg4, hg5, hg6⟩
  · have : sortB keys = [] := List.eq_nil_of_length_eq_zero (by omega)
    rw [this]; simp [rsK, VR]
  · cases hsk : sortB keys with
    | nil =>
      have : ss = [] := List.eq_nil_of_length_eq_zero (by rw [← hlen2, hsk]; rfl)
      have := hnil.2 this
      simp at this
    | cons x l =>
      rw [← hsk]
      have hform : rsK (sortB keys) = .rs (sortB keys).length 1 ((sortB keys).map .str) := by rw [hsk]; rfl
      rw [hform]
      simp only [VR]
      refine ⟨⟨g, 0, none⟩, cap, by rw [hlen2], by omega, by simp, ?_, fun _ => rfl⟩
      refine MR_of_cells hg1 _ _ 0 LR_strs fun i v hv => ?_
      rw [cell_of_heap hg2]
      simp only [Nat.zero_add]
      have : (cur.toList.take (ss.length * 1))[i]? = some v := by rw [hg6]; exact hv
      rw [List.getElem?_take] at this
      split at this
      · simpa using this
      · cases this

/-- The keys of a map, if they are texts. -/
def strsE : List (AV × AV × Nat) → Option (List (List UInt8))
  | [] => some []
  | (.str s, _, _) :: es => match strsE es with | some l => some (s :: l) | none => none
  | _ => none
theorem strsE_spec : ∀ {es : List (AV × AV × Nat)} {l : List (List UInt8)}, strsE es = some l → es.map (·.1) = l.map AV.str
  | [], l, h => by simp [strsE] at h; subst h; rfl
  | (k, v, n) :: es, l, h => by
    unfold strsE at h
    split at h
    · rename_i e; cases e
    · rename_i e
      simp only [List.cons.injEq, Prod.mk.injEq] at e
      obtain ⟨⟨rfl, rfl, rfl⟩, rfl⟩ := e
      split at h <;> simp at h
      subst h
      simp [strsE_spec (by assumption)]
    · cases h
def okKeys (keys : List (List UInt8)) (es : List (AV × AV × Nat)) (clock : Nat) : Bool :=
  decide keys.Nodup && (decide (∀ k ∈ keys, k.length ≤ 9223372036854775807) && (decide (es.map (·.2.2)).Nodup && ((es.map (·.2.2)).all (fun n => decide (n < clock)) && Nat.ble keys.length 1000000)))
/-- The contract of slices.Sorted, for runs. -/
def sortAns (es : List (AV × AV × Nat)) (clock : Nat) : Option AV := match strsE es with
  | some keys => if okKeys keys es clock = true then some (rsK (sortB keys)) else none
  | none => none
def sortArg (fI : Nat) : List AV → Option Nat
  | [.func (.func g) [] [.ptr c 0]] => if g = fI then some c else none
  | _ => none
def mapIn (oc : AObj) : Option Nat := if oc.alive = true ∧ oc.sh = 0 then (match oc.body with | .cells [.map b] _ => some b | _ => none) else none
def mapOf (ob : AObj) : Option (List (AV × AV × Nat) × Nat) := if ob.alive = true then (match ob.body with | .map es clock => some (es, clock) | _ => none) else none
def sortO (fS fI : Nat) : Orc := fun f args H =>
  if f = fS then (match sortArg fI args with
    | some c => match H[c]? with
      | some oc => match mapIn oc with
        | some b => match H[b]? with
          | some ob => match mapOf ob with
            | some (es, clock) => match sortAns es clock with
              | some v => some (v, H)
              | none => none
            | none => none
          | none => none
        | none => none
      | none => none
    | none => none) else none
noncomputable def fsortO (fS fI : Nat) : FOrc := fun f args T =>
  if f = fS then (match sortArg fI args with
    | some c => match mapIn (T.get c) with
        | some b => match mapOf (T.get b) with
            | some (es, clock) => match sortAns es clock with
              | some v => some (v, T)
              | none => none
            | none => none
        | none => none
    | none => none) else none
theorem mapIn_spec {oc : AObj} {b : Nat} (h : mapIn oc = some b) : oc.alive = true ∧ oc.sh = 0 ∧ ∃ ty, oc.body = .cells [.map b] ty := by
  unfold mapIn at h
  split at h <;> try (cases h; done)
  rename_i h1
  split at h <;> simp at h
  subst h
  exact ⟨h1.1, h1.2, _, by assumption⟩
theorem mapOf_spec {ob : AObj} {x : List (AV × AV × Nat) × Nat} (h : mapOf ob = some x) : ob.alive = true ∧ ob.body = .map x.1 x.2 := by
  unfold mapOf at h
  split at h <;> try (cases h; done)
  split at h <;> simp at h
  subst h
  exact ⟨by assumption, by assumption⟩
theorem sortArg_spec {fI c : Nat} {args : List AV} (h : sortArg fI args = some c) : args = [.func (.func fI) [] [.ptr c 0]] := by
  unfold sortArg at h
  split at h <;> try (cases h; done)
  split at h <;> simp at h
  subst h; rename_i e; subst e; rfl
theorem fsortO_sim (fS fI : Nat) : OrcSim (fsortO fS fI) (sortO fS fI) := by
  intro f args T r T' h H hR
  simp only [fsortO] at h
  split at h <;> try (cases h; done)
  rename_i hf
  split at h <;> try (cases h; done)
  rename_i c hc
  split at h <;> try (cases h; done)
  rename_i b hb
  split at h <;> try (cases h; done)
  rename_i es clock hm
  split at h <;> simp at h
  obtain ⟨rfl, rfl⟩ := h
  rename_i v hv
  have h1 := hR.obj c (mapIn_spec hb).1
  have h2 := hR.obj b (mapOf_spec hm).1
  exact ⟨H, by simp [sortO, hf, hc, h1, hb, h2, hm, hv], hR⟩
theorem sortO_sound {P : Program} {gl : Glob} {fS fI kt : Nat} (hS : SortsKeys P fS fI kt) (hk : P.underlying kt = some .string) : OrcSound P gl (sortO fS fI) := by
  intro f args H r H' h sn ι W cargs hg hR ha
  simp only [sortO] at h
  split at h <;> try (cases h; done)
  rename_i hf
  subst hf
  split at h <;> try (cases h; done)
  rename_i c hc
  split at h <;> try (cases h; done)
  rename_i oc hoc
  split at h <;> try (cases h; done)
  rename_i b hb
  split at h <;> try (cases h; done)
  rename_i ob hob
  split at h <;> try (cases h; done)
  rename_i es clock hm
  split at h <;> simp at h
  obtain ⟨rfl, rfl⟩ := h
  rename_i v hv
  unfold sortAns at hv
  split at hv <;> try (cases hv; done)
  rename_i keys hks
  split at hv <;> simp at hv
  subst hv
  rename_i hok
  simp only [okKeys, Bool.and_eq_true, decide_eq_true_eq, List.all_eq_true] at hok
  obtain ⟨o1, o2, o3, o4, o5⟩ := hok
  obtain ⟨m1, m2, ty, m3⟩ := mapIn_spec hb
  obtain ⟨n1, n2⟩ := mapOf_spec hm
  rw [sortArg_spec hc] at ha
  exact sorted_calls hS hk hR hoc m1 m2 m3 hob n1 n2 (strsE_spec hks) o1 o2 o3 o4 (Nat.le_of_ble_eq_true o5) ha
end Go.Abs

/-
  Texts of this proof, one behind the other (part 16).
-/
import Derived.Test.YteidjbahodbgdaaGreatDoorPg14
import Derived.Test.YteidjbahodbgdaaGreatDoorPg15
set_option linter.unusedVariables false
set_option linter.unusedSimpArgs false

section
namespace Go.Abs
open Go.RowKit
def Zd5 (fs : List Nat) (H : Z00) : Z00 := kil (fun _ o => mem o.fam fs) 0 H
theorem Z9B {P : Program} {gl : Z0l} {f : Nat} {fs : List Nat} {H H' : Z00} {args args2 : List AV} {r : AV} (hM : Z1O P gl f args2 (Zd5 fs H) r H') (ha : ZmR fs H args args2) : Z1O P gl f args H r H' := by
 intro sn ι W cargs hg hR hl
 generalize hHQ : ZhS fs H = HQ at *
 have inQ : ∀ (b : Nat) (o : AObj), HQ[b]? = some o -> o.alive = true -> H[b]? = some o /\ mem o.fam fs = true := fun b o hb hal => by
  rw [<- hHQ] at hb
  obtain ⟨o0, g1, _, _, g4⟩ := Z0x hb
  obtain ⟨rfl, g5⟩ := g4 hal
  exact ⟨g1, by simpa using g5⟩
 have inK : ∀ (b : Nat) (o : AObj), (Zd5 fs H)[b]? = some o -> o.alive = true -> H[b]? = some o /\ mem o.fam fs = false := fun b o hb hal => by
  obtain ⟨o0, g1, _, _, g4⟩ := Z0x hb
  obtain ⟨rfl, g5⟩ := g4 hal
  exact ⟨g1, g5⟩
 have hle : ∀ a v, sn a = some v -> snO sn ι HQ W a = some v := fun a v hv => by
  unfold snO
  split
  · exact (hR.snap a v hv).2.1
  · exact hv
 have hcell : ∀ a v, snO sn ι HQ W a = some v -> W.cell? a = some v := fun a v hv => by
  unfold snO at hv
  split at hv
  · exact hv
  · exact (hR.snap a v hv).2.1
 have hobjQ : ∀ (b : Nat) (o : AObj) p, HQ[b]? = some o -> o.alive = true -> ι b = some p -> OR sn ι W o.body p := fun b o p hb hal hp => hR.obj b o p (inQ b o hb hal).1 hal hp
 have hR' : R (snO sn ι HQ W) ι (Zd5 fs H) W := by
  refine ⟨fun b => by unfold Zd5; rw [Z0u]; exact hR.dom b, hR.blk, fun b o p hb hal hp => ?_, fun b b' o o' p p' hb hb' hal hal' hp hp' e => ?_, fun a v hv => ?_, fun b o p hb hp e => ?_⟩
  · exact Z0N ⟨hle, fun _ _ h => h⟩ rfl (hR.obj b o p (inK b o hb hal).1 hal hp)
  · exact hR.sep b b' o o' p p' (inK b o hb hal).1 (inK b' o' hb' hal').1 hal hal' hp hp' e
  · refine ⟨Z65 (hcell a v hv), hcell a v hv, fun b o p hb hal hp hne => ?_⟩
    obtain ⟨g1, g5⟩ := inK b o hb hal
    unfold snO at hv
    split at hv
    · rename_i hex
      obtain ⟨b', o', p', x1, x2, x3, x4⟩ := hex
      obtain ⟨y1, y2⟩ := inQ b' o' x1 x2
      have := (hR.sep b b' o o' p p' g1 y1 hal x2 hp x3 (hne.trans x4.symm)).1
      rw [this, y2] at g5; cases g5
    · exact (hR.snap a v hv).2.2 b o p g1 hal hp hne
  · obtain ⟨o0, g1, _, g3, _⟩ := Z0x hb
    exact hR.shz b o0 p g1 hp (by rw [<- g3]; exact e)
 have hargs : LR (snO sn ι HQ W) ι args2 cargs := by
  clear hM
  induction args generalizing args2 cargs with
  | nil =>
   cases args2 with
   | nil => exact hl
   | cons _ _ => exact ha.elim
  | cons u l ih =>
   cases args2 with
   | nil => exact ha.elim
   | cons u2 l2 =>
    simp only [LR] at hl ⊢
    obtain ⟨v, vs, rfl, h1, h2⟩ := hl
    refine ⟨v, vs, rfl, ?_, ih (by simp only [ZmR] at ha; exact ha.2) vs h2⟩
    have h3 := ha.1
    rw [hHQ] at h3
    rcases h3 with rfl | h3
    · exact Z0W ⟨hle, fun _ _ h => h⟩ _ _ h1
    · exact Z88 (Z1R hobjQ ⟨hle, fun _ _ h => h⟩ (fun b o p hb hal hp off v hv => by
       unfold snO; rw [if_pos ⟨b, o, p, hb, hal, hp, rfl⟩]; exact hv) 30 u u2 v h3 h1)
 refine (hM _ ι W cargs (hg.mono (Z8g hle)) hR' hargs).mono ?_
 rintro e W' ⟨v, sn', ι', rfl, hv, hst⟩
 refine ⟨v, sn', ι', rfl, hv, hst.rel, ⟨fun a v h => hst.le.sn a v (hle a v h), hst.le.ι⟩, fun b p hp => ?_, fun c hc hno => hst.frame c hc fun b o p hb hal hp => hno b o p (inK b o hb hal).1 hal hp, hst.size, hst.os, hst.tape, hst.output, fun a v hv => ?_, fun b o hb => ?_⟩
 · rcases hst.fresh b p hp with h | h | ⟨b0, o0, p0, e1, e2, e3, e4⟩
   · exact .inl h
   · exact .inr (.inl h)
   · exact .inr (.inr ⟨b0, o0, p0, (inK b0 o0 e1 e2).1, e2, e3, e4⟩)
 · rcases hst.sfresh a v hv with h | h | ⟨b0, o0, p0, e1, e2, e3, e4⟩
   · unfold snO at h
     split at h
     · rename_i hex
       obtain ⟨b, o, p, x1, x2, x3, x4⟩ := hex
       exact .inr (.inr ⟨b, o, p, (inQ b o x1 x2).1, x2, x3, x4⟩)
     · exact .inl h
   · exact .inr (.inl h)
   · exact .inr (.inr ⟨b0, o0, p0, (inK b0 o0 e1 e2).1, e2, e3, e4⟩)
 · obtain ⟨o1, h1, h2, h3, h4⟩ : ∃ o1, (Zd5 fs H)[b]? = some o1 /\ o1.fam = o.fam /\ o1.sh = o.sh /\ (o1.alive = true -> o.alive = true) := by
    unfold Zd5
    rw [Z2U, hb]
    refine ⟨_, rfl, ?_⟩
    dsimp only
    split <;> simp [AObj.dead]
   obtain ⟨o', k1, k2, k3, k4⟩ := hst.evo b o1 h1
   exact ⟨o', k1, k2.trans h2, k3.trans h3, fun h => h4 (k4 h)⟩
end Go.Abs
end

section
namespace Go.Proofs.YteidjbahodbgdaaGreatDoor.lex
open Go.Abs Go.RowKit Go.Flat
set_option maxRecDepth 100000
set_option maxHeartbeats 4000000
variable {gl : Z0l}
def jlA (b : Nat) : Nat -> AV
 | 0 => .nslice
 | n + 1 => .slice b 0 (n + 1) (n + 1) 10
def jlB (b : Nat) : Nat -> List AV -> Z00
 | 0, _ => []
 | _ + 1, cs => [⟨true, b, 0, .cells cs 37⟩]
abbrev AlR := Bool × Nat × List AV
def Z23 (g : Int -> Nat × List AV -> AlR) : List Int -> Nat × List AV -> AlR
 | [], o => (true, o)
 | v :: l, o => if (g v o).1 = true then Z23 g l (g v o).2 else (false, 0, [])
def Z6z (St : List Int -> Flat.Stand) (vals : List Int) : Nat -> List Int -> Nat × List AV -> AlR
 | 0, az, o => if (St az).fin = 0 then (false, 0, []) else (decide (o.1 < 4096), o.1 + 1, o.2 ++ Z0T (St az))
 | d + 1, az, o => if (St az).fin = 0 then Z23 (fun v o => Z6z St vals d (az ++ [v]) o) vals o else (decide (o.1 < 4096), o.1 + 1, o.2 ++ Z0T (St az))
theorem Zgs {g : Int -> Nat × List AV -> AlR} {g' : Int -> Nat × List AV -> Option (Nat × List AV)} (h : ∀ v o, (g' v o).isSome = (g v o).1 /\ ∀ o', g' v o = some o' -> (g v o).2 = o') : ∀ (l : List Int) (o : Nat × List AV), (Z2Y g' l o).isSome = (Z23 g l o).1 /\ ∀ o', Z2Y g' l o = some o' -> (Z23 g l o).2 = o'
 | [], o => ⟨rfl, fun o' e => by cases e; rfl⟩
 | v :: l, o => by
  obtain ⟨h1, h2⟩ := h v o
  unfold Z2Y Z23
  cases he : g' v o with
  | none =>
   rw [he] at h1
   rw [if_neg (by rw [<- h1]; decide)]
   exact ⟨rfl, fun o' e => by cases e⟩
  | some o1 =>
   rw [he] at h1
   rw [if_pos (by rw [<- h1]; rfl), h2 _ he]
   exact Zgs h l o1
theorem ZdY {St : List Int -> Flat.Stand} {vals : List Int} : ∀ (d : Nat) (az : List Int) (o : Nat × List AV), (Z6t St vals d az o).isSome = (Z6z St vals d az o).1 /\ ∀ o', Z6t St vals d az o = some o' -> (Z6z St vals d az o).2 = o'
 | 0, az, o => by
  unfold Z6t Z6z
  by_cases h : (St az).fin = 0
  · rw [if_pos h, if_pos h]; exact ⟨rfl, fun o' e => by cases e⟩
  · rw [if_neg h, if_neg h]
    by_cases h2 : o.1 < 4096
    · rw [if_pos h2]; exact ⟨by simp [h2], fun o' e => by cases e; rfl⟩
    · rw [if_neg h2]; exact ⟨by simp [h2], fun o' e => by cases e⟩
 | d + 1, az, o => by
  unfold Z6t Z6z
  by_cases h : (St az).fin = 0
  · rw [if_pos h, if_pos h]
    exact Zgs (fun v o => ZdY d (az ++ [v]) o) vals o
  · rw [if_neg h, if_neg h]
    by_cases h2 : o.1 < 4096
    · rw [if_pos h2]; exact ⟨by simp [h2], fun o' e => by cases e; rfl⟩
    · rw [if_neg h2]; exact ⟨by simp [h2], fun o' e => by cases e⟩
structure Ok3 (n : Nat) (cs : List AV) : Prop where
 len : cs.length = n * 10
 rn : ∀ g, renL g cs = cs
 rf : refsL cs [] = []
theorem OkC.k3 {n : Nat} {cs : List AV} (h : OkC n cs) : Ok3 n cs := ⟨h.len, h.rn, h.rf⟩
theorem Ok3.snoc {n : Nat} {cs : List AV} (h : Ok3 n cs) (st : Flat.Stand) : Ok3 (n + 1) (cs ++ Z0T st) :=
 ⟨by rw [List.length_append, h.len, Z6O]; omega, fun g => by rw [Z9p, h.rn, Zfm], by rw [Z7l, Zfn, h.rf]⟩
theorem ZfV : Ok3 0 [] := ⟨rfl, fun _ => rfl, rfl⟩
theorem ZdE {g : Int -> Nat × List AV -> AlR} (hg : ∀ v o, OkC o.1 o.2 -> (g v o).1 = true -> OkC (g v o).2.1 (g v o).2.2) : ∀ (l : List Int) (o : Nat × List AV), OkC o.1 o.2 -> Ok3 (Z23 g l o).2.1 (Z23 g l o).2.2 /\ ((Z23 g l o).1 = true -> OkC (Z23 g l o).2.1 (Z23 g l o).2.2)
 | [], o, h => ⟨h.k3, fun _ => h⟩
 | v :: l, o, h => by
  unfold Z23
  split
  · rename_i h1
    exact ZdE hg l _ (hg v o h h1)
  · exact ⟨ZfV, fun h => by cases h⟩
theorem Za7 {St : List Int -> Flat.Stand} {vals : List Int} : ∀ (d : Nat) (az : List Int) (o : Nat × List AV), OkC o.1 o.2 -> Ok3 (Z6z St vals d az o).2.1 (Z6z St vals d az o).2.2 /\ ((Z6z St vals d az o).1 = true -> OkC (Z6z St vals d az o).2.1 (Z6z St vals d az o).2.2)
 | 0, az, o, h => by
  unfold Z6z
  split
  · exact ⟨ZfV, fun h => by cases h⟩
  · exact ⟨h.k3.snoc _, fun h2 => h.snoc (of_decide_eq_true h2) _⟩
 | d + 1, az, o, h => by
  unfold Z6z
  split
  · exact ZdE (fun v o h => (Za7 d (az ++ [v]) o h).2) vals o h
  · exact ⟨h.k3.snoc _, fun h2 => h.snoc (of_decide_eq_true h2) _⟩
end Go.Proofs.YteidjbahodbgdaaGreatDoor.lex
end

section
namespace Go.Proofs.YteidjbahodbgdaaGreatDoor.lex
open Go.Abs Go.RowKit Go.Flat
set_option maxRecDepth 100000
set_option maxHeartbeats 4000000
variable {gl : Z0l}
abbrev jC (regs : Int) (l : List Ins) : AV := .agg [.int .i64 regs, .rs l.length 6 (inC l)]
def jX (f : Nat) (cs : List AV) : AObj := ⟨true, f, 0, .cells cs 2⟩
def jW (regs : Int) (l : List Ins) : AObj := ⟨true, 0, 0, .cells [.int .i64 regs, .rs l.length 6 (inC l)] 24⟩
def jcH (regs : Int) (l : List Ins) (v : Int) : List Int -> Nat -> List AV -> Z00
 | [], 0, _ => [jW regs l, jX 1 [], jX 2 [.int .i64 v], jX 1 [.int .i64 v]]
 | [], _ + 1, cs => [jW regs l, ⟨true, 1, 0, .cells cs 37⟩, jX 2 [], jX 3 [.int .i64 v], jX 2 [.int .i64 v]]
 | a0 :: az, 0, _ => [jW regs l, jX 1 [], jX 1 (ksC (a0 :: az)), jX 3 [.int .i64 v], jX 1 (ksC (a0 :: az) ++ [.int .i64 v])]
 | a0 :: az, _ + 1, cs => [jW regs l, ⟨true, 1, 0, .cells cs 37⟩, jX 2 [], jX 2 (ksC (a0 :: az)), jX 4 [.int .i64 v], jX 2 (ksC (a0 :: az) ++ [.int .i64 v])]
def jcS : List Int -> Nat -> AV
 | [], 0 => .slice 3 0 1 1 1
 | [], _ + 1 => .slice 4 0 1 1 1
 | _ :: az, 0 => .slice 4 0 (0 + (az.length + 1) + 1) (0 + (az.length + 1) + 1) 1
 | _ :: az, _ + 1 => .slice 5 0 (0 + (az.length + 1) + 1) (0 + (az.length + 1) + 1) 1
def jcK : List Int -> Nat -> Nat
 | [], 0 => 4
 | [], _ + 1 => 5
 | _ :: _, 0 => 5
 | _ :: _, _ + 1 => 6
def jZ (f : Nat) : AObj := ⟨false, f, 0, .cells [] 0⟩
def jcD : List Int -> Nat -> Z00
 | [], 0 => [jZ 1, jZ 2, jZ 1]
 | [], _ + 1 => [jZ 1, jZ 2, jZ 3, jZ 2]
 | _ :: _, 0 => [jZ 1, jZ 1, jZ 3, jZ 1]
 | _ :: _, _ + 1 => [jZ 1, jZ 2, jZ 2, jZ 4, jZ 2]
theorem Zmt {regs : Int} {l : List Ins} {vs az : List Int} {v : Int} {n : Nat} {cs : List AV} {F : AlR} (hM : Z76 Tryz.prog gl 0 33 [jC regs l, rsI vs, rsI (az ++ [v]), jlA 0 n] (jlB 0 n cs) (.tuple [jlA 0 F.2.1, .bool F.1]) (jlB 0 F.2.1 F.2.2)) (hc : Ok3 n cs) (hF : Ok3 F.2.1 F.2.2) :
  Z1O Tryz.prog gl 33 [jC regs l, rsI vs, jcS az n, jlA 1 n] (jcH regs l v az n cs) (.tuple [jlA (jcK az n) F.2.1, .bool F.1]) (jW regs l :: (jcD az n ++ jlB (jcK az n) F.2.1 F.2.2)) := by
 obtain ⟨b, n2, cs2⟩ := F
 simp only at *
 have hcs := hc.rf
 have hcr := hc.rn
 have hcs2 := hF.rf
 have hcr2 := hF.rn
 clear hc hF
 have hc2 : ∀ k : Nat, Z0M k (refsL cs2 []) = true := fun k => by rw [hcs2]; rfl
 have hc3 : ∀ (k : Nat) (g : Nat -> Nat), Z0M k (refsL (renL g cs2) []) = true := fun k g => by rw [hcr2]; exact hc2 k
 have h1 := Z2m hM (Nat.zero_le _) (Nat.zero_le _) (fun i o h => by
  cases n2 with
  | zero => cases h
  | succ n2 =>
   match i, h with
   | 0, h => cases h; exact ⟨rfl, rfl, hc2 _⟩
   | i + 1, h => cases h) (fun i o h => by
  cases n with
  | zero => cases h
  | succ n =>
   match i, h with
   | 0, h => cases h; exact ⟨rfl, rfl⟩
   | i + 1, h => cases h) (by cases n2 <;> rfl)
 clear hM
 have hk2 : ∀ x : List Int, ksC (x ++ [v]) = ksC x ++ [.int .i64 v] := fun x => Z9D x v
 have hfl : ∀ x : List Int, (ksC x ++ [AV.int .i64 v]).all Z61 = true := fun x => by rw [<- hk2]; exact Z0e _
 have hfn : ∀ (x : List Int), (ksC x ++ [AV.int .i64 v]).length = (0 + x.length + 1) * 1 := fun x => by rw [<- hk2, Z0d]; simp
 have hrs : ∀ (a0 : Int) (x : List Int), (AV.rs (0 + (x.length + 1) + 1) 1 (ksC (a0 :: x) ++ [AV.int .i64 v])) = rsI ((a0 :: x) ++ [v]) := fun a0 x => by
  unfold rsI
  rw [hk2]
  congr 1
  simp
 rcases az with _ | ⟨a0, az⟩ <;> rcases n with _ | n
 · have h2 := Z1d (m := []) (Hc := Zd5 [1, 2] (jcH regs l v [] 0 cs)) (cargs := [jC regs l, rsI vs, rsI ([] ++ [v]), .nslice]) h1 (Wk.tuple ⟨Wk.noref rfl, Wk.noref rfl, Wk.noref rfl, Wk.noref rfl, trivial⟩) trivial rfl rfl (by cases n2 <;> rfl) (Z0z rfl) (fun i o h => by
    cases n2 with
    | zero => cases h
    | succ n2 =>
     match i, h with
     | 0, h => cases h; exact hc3 _ _
     | i + 1, h => cases h) (by cases n2 <;> rfl)
   refine Z9B (args2 := [jC regs l, rsI vs, rsI ([] ++ [v]), .nslice]) (fs := [1, 2]) (cast ?_ h2) ⟨.inl rfl, .inl rfl, .inr (Z02 (n := 28) (b := 3) rfl rfl rfl), .inl rfl, trivial⟩
   rcases n2 with _ | n2 <;> simp [Zd5, kil, AObj.dead, mem, jcH, jX, jW, jcD, jZ, jcK, jlA, jlB, rsI, Z4s, Z4A, Z3m, shE, shS, sgE, sgS, Z1C, renL, ren, hcr, hcr2]
 · have h2 := Z1d (m := [1]) (Hc := Zd5 [2, 3] (jcH regs l v [] (n + 1) cs)) (cargs := [jC regs l, rsI vs, rsI ([] ++ [v]), .slice 1 0 (n + 1) (n + 1) 10]) h1 (Wk.tuple ⟨Wk.noref rfl, Wk.noref rfl, Wk.noref rfl, Z1i rfl, trivial⟩) ⟨⟨rfl, rfl, rfl, rfl, Z1L hcs⟩, trivial⟩ rfl rfl (by cases n2 <;> rfl) (Z0z rfl) (fun i o h => by
    cases n2 with
    | zero =>
     match i, h with
     | 0, h => cases h; rfl
     | i + 1, h => cases h
    | succ n2 =>
     match i, h with
     | 0, h => cases h; rfl
     | 1, h => cases h; exact hc3 _ _
     | i + 2, h => cases h) (by cases n2 <;> rfl)
   refine Z9B (args2 := [jC regs l, rsI vs, rsI ([] ++ [v]), .slice 1 0 (n + 1) (n + 1) 10]) (fs := [2, 3]) (cast ?_ h2) ⟨.inl rfl, .inl rfl, .inr (Z02 (n := 28) (b := 4) rfl rfl rfl), .inl rfl, trivial⟩
   rcases n2 with _ | n2 <;> simp [Zd5, kil, AObj.dead, mem, jcH, jX, jW, jcD, jZ, jcK, jlA, jlB, rsI, Z4s, Z4A, Z3m, shE, shS, sgE, sgS, Z1C, renL, ren, hcr, hcr2]
 · have h2 := Z1d (m := []) (Hc := Zd5 [1, 3] (jcH regs l v (a0 :: az) 0 cs)) (cargs := [jC regs l, rsI vs, rsI ((a0 :: az) ++ [v]), .nslice]) h1 (Wk.tuple ⟨Wk.noref rfl, Wk.noref rfl, Wk.noref rfl, Wk.noref rfl, trivial⟩) trivial rfl rfl (by cases n2 <;> rfl) (Z0z rfl) (fun i o h => by
    cases n2 with
    | zero => cases h
    | succ n2 =>
     match i, h with
     | 0, h => cases h; exact hc3 _ _
     | i + 1, h => cases h) (by cases n2 <;> rfl)
   refine Z9B (args2 := [jC regs l, rsI vs, rsI ((a0 :: az) ++ [v]), .nslice]) (fs := [1, 3]) (cast ?_ h2) ⟨.inl rfl, .inl rfl, .inr (by rw [<- hrs]; exact Z02 (n := 28) (b := 4) rfl (hfn (a0 :: az)) (hfl (a0 :: az))), .inl rfl, trivial⟩
   rcases n2 with _ | n2 <;> simp [Zd5, kil, AObj.dead, mem, jcH, jX, jW, jcD, jZ, jcK, jlA, jlB, rsI, Z4s, Z4A, Z3m, shE, shS, sgE, sgS, Z1C, renL, ren, hcr, hcr2]
 · have h2 := Z1d (m := [1]) (Hc := Zd5 [2, 4] (jcH regs l v (a0 :: az) (n + 1) cs)) (cargs := [jC regs l, rsI vs, rsI ((a0 :: az) ++ [v]), .slice 1 0 (n + 1) (n + 1) 10]) h1 (Wk.tuple ⟨Wk.noref rfl, Wk.noref rfl, Wk.noref rfl, Z1i rfl, trivial⟩) ⟨⟨rfl, rfl, rfl, rfl, Z1L hcs⟩, trivial⟩ rfl rfl (by cases n2 <;> rfl) (Z0z rfl) (fun i o h => by
    cases n2 with
    | zero =>
     match i, h with
     | 0, h => cases h; rfl
     | i + 1, h => cases h
    | succ n2 =>
     match i, h with
     | 0, h => cases h; rfl
     | 1, h => cases h; exact hc3 _ _
     | i + 2, h => cases h) (by cases n2 <;> rfl)
   refine Z9B (args2 := [jC regs l, rsI vs, rsI ((a0 :: az) ++ [v]), .slice 1 0 (n + 1) (n + 1) 10]) (fs := [2, 4]) (cast ?_ h2) ⟨.inl rfl, .inl rfl, .inr (by rw [<- hrs]; exact Z02 (n := 28) (b := 5) rfl (hfn (a0 :: az)) (hfl (a0 :: az))), .inl rfl, trivial⟩
   rcases n2 with _ | n2 <;> simp [Zd5, kil, AObj.dead, mem, jcH, jX, jW, jcD, jZ, jcK, jlA, jlB, rsI, Z4s, Z4A, Z3m, shE, shS, sgE, sgS, Z1C, renL, ren, hcr, hcr2]
end Go.Proofs.YteidjbahodbgdaaGreatDoor.lex
end

section
namespace Go.Proofs.YteidjbahodbgdaaGreatDoor.lex
open Go.Abs Go.RowKit Go.Flat
set_option maxRecDepth 100000
set_option maxHeartbeats 4000000
variable {gl : Z0l}
def Zn1 (f : Nat) : Bool := Nat.beq f 37 || Nat.beq f 33
structure Js where
 i : Nat
 n : Nat
 cs : List AV
theorem ZkC {regs : Nat} {l : List Ins} {vs az : List Int} {n : Nat} {cs : List AV} (hc : OkC n cs) {O : Orc} (hO : Z06 Tryz.prog gl O) {st : Flat.Stand} (hfin : st.fin ≠ 0)
  (q1 : ∀ H, Z04 Tryz.prog O H 37 [jC regs l, rsI az] = some (.agg (Z0T st), H)) :
  Z76 Tryz.prog gl 0 33 [jC regs l, rsI vs, rsI az, jlA 0 n] (jlB 0 n cs) (.tuple [jlA 0 (n + 1), .bool (decide (n < 4096))]) (jlB 0 (n + 1) (cs ++ Z0T st)) := by
 have hT : Z74 Tryz.prog 28 28 = some (37, 10, 112) := by kernel_rfl
 have ef : (st.fin != 0) = true := by simpa using hfin
 have hcs := (hc.k3.snoc st).rf
 have hlen := hc.len
 have hfew := hc.few
 have hh := hc.rf
 obtain ⟨n1, c1, a1, a2, a3, a4, a5, p, n2, c2, k, hst⟩ := Z7e st
 rw [hst] at q1 hcs ⊢
 generalize st.fin = fin at *
 clear hfin hst hc
 simp only [rsI, jlA, jlB] at *
 refine Z0Z Zn1 3 follows Z09 hO Tryz.func33 rfl ?_
 rcases n with _ | n
 · obtain rfl : cs = [] := List.length_eq_zero_iff.1 (by omega)
   simp only [jlA, jlB]
   repeat' ((conv => whnf); first | (refine exI (q1 _) ?_) | (refine apS ?_) | (first | refine stp ?_ | with_reducible refine Z01 (fun h => ?_) (fun h => ?_)))
   all_goals (conv => whnf)
   all_goals exact ⟨[3], rfl, ⟨⟨rfl, rfl, rfl, rfl, BodyGe.pre (rest := []) rfl rfl⟩, trivial⟩, rfl, Wk.tuple ⟨Z1i rfl, Wk.bool rfl, trivial⟩⟩
 · have e4 : decide (((n + 1 : Nat) : Int) < 4096) = decide (n + 1 < 4096) := decide_eq_decide.2 (by omega)
   simp only [jlA, jlB]
   repeat' ((conv => whnf); first | (refine exI (q1 _) ?_) | (refine apS ?_) | (first | refine stp ?_ | with_reducible refine Z01 (fun h => ?_) (fun h => ?_)))
   all_goals (conv => whnf)
   all_goals exact ⟨[4], rfl, ⟨⟨rfl, rfl, rfl, rfl, Z1L hcs⟩, trivial⟩, rfl, Wk.tuple ⟨Z1i rfl, Wk.bool e4, trivial⟩⟩
theorem ZkM {regs : Nat} {l : List Ins} {vs az : List Int} {n : Nat} {cs : List AV} (hc : OkC n cs) (hvs : vs.length <= 1000) (hal : az.length <= 5000) {O : Orc} (hO : Z06 Tryz.prog gl O) {st : Flat.Stand} (hfin : st.fin = 0) {g : Int -> Nat × List AV -> AlR}
  (hg : ∀ v o, OkC o.1 o.2 -> (g v o).1 = true -> OkC (g v o).2.1 (g v o).2.2)
  (q1 : ∀ H, Z04 Tryz.prog O H 37 [jC regs l, rsI az] = some (.agg (Z0T st), H))
  (q2 : ∀ v n cs, OkC n cs -> v ∈ vs -> Z04 Tryz.prog O (jcH regs l v az n cs) 33 [jC regs l, rsI vs, jcS az n, jlA 1 n] = some (.tuple [jlA (jcK az n) (g v (n, cs)).2.1, .bool (g v (n, cs)).1], jW regs l :: (jcD az n ++ jlB (jcK az n) (g v (n, cs)).2.1 (g v (n, cs)).2.2))) :
  Z76 Tryz.prog gl 0 33 [jC regs l, rsI vs, rsI az, jlA 0 n] (jlB 0 n cs) (.tuple [jlA 0 (Z23 g vs (n, cs)).2.1, .bool (Z23 g vs (n, cs)).1]) (jlB 0 (Z23 g vs (n, cs)).2.1 (Z23 g vs (n, cs)).2.2) := by
 have hT : Z74 Tryz.prog 25 25 = some (2, 1, 8) := by kernel_rfl
 have ef : (st.fin != 0) = false := by simp [hfin]
 have hI0 : 0 <= vs.length /\ OkC n cs /\ Z23 g (vs.drop 0) (n, cs) = Z23 g vs (n, cs) := ⟨Nat.zero_le _, hc, by rw [List.drop_zero]⟩
 generalize hF : Z23 g vs (n, cs) = F at hI0 ⊢
 clear hF
 have hcs := hc.rf
 obtain ⟨n1, c1, a1, a2, a3, a4, a5, p, n2, c2, k, hst⟩ := Z7e st
 rw [hst] at q1
 generalize st.fin = fin at *
 clear hfin hst hc
 simp only [rsI] at *
 refine Z0Z Zn1 3 follows Z09 hO Tryz.func33 rfl ?_
 rcases n with _ | n
 all_goals simp only [jlA, jlB]
 all_goals repeat' ((conv => whnf); first | (refine exI (q1 _) ?_) | (first | refine stp ?_ | with_reducible refine Z01 (fun h => ?_) (fun h => ?_)))
 all_goals (conv => whnf)
 all_goals refine ⟨Js, (fun s => s.i <= vs.length /\ OkC s.n s.cs /\ Z23 g (vs.drop s.i) (s.n, s.cs) = F), (fun s => [(1, .rs vs.length 1 (ksC vs)), (2, .rs az.length 1 (ksC az)), (3, jlA 1 s.n), (4, .ptr 0 0), (11, .int .i64 (s.i : Nat))]),
  (fun s => ⟨true, 0, 0, .cells [.int .i64 regs, .rs l.length 6 (inC l)] 24⟩ :: jlB 1 s.n s.cs), (fun s => vs.length - s.i), ⟨⟨0, _, cs⟩, hI0, ?_⟩, ?_⟩
 · exact fgA [0]
 rotate_left
 · refine FgLK.mk [1, 0] rfl rfl ?_ ⟨⟨rfl, rfl, rfl, rfl, BodyGe.pre (rest := []) rfl rfl⟩, ⟨rfl, rfl, rfl, rfl, Z1L hcs⟩, trivial⟩ rfl
   (repeat (first | exact trivial | refine stw ?_))
 all_goals
  clear hI0 q1 ef hcs
  rintro ⟨i, n1, c1⟩ ⟨hi, hc, hf⟩
  dsimp only at hi hc hf
  (try dsimp only)
  have hlen := hc.len
  have hcs := hc.rf
  have hfew := hc.few
  by_cases hlt : i < vs.length
  · have e1 : decide ((i : Int) < (vs.length : Int)) = true := by simpa using hlt
    have hx : ∀ off, off = i -> tk 1 ((ksC vs).drop off) = some [.int .i64 vs[i]] := fun off e => Z11 _ vs i hlt e
    have hkl : (ksC az).length = az.length * 1 := Z0d az
    have hko : (ksC az).all Go.Abs.one = true := by simp [ksC, Go.Abs.one]
    have wa : IntKind.i64.wrap ((i : Int) + 1) = ((i + 1 : Nat) : Int) := Z2n (by omega)
    rw [List.drop_eq_getElem_cons hlt] at hf
    simp only [Z23] at hf
    have q := q2 vs[i] n1 c1 hc (List.getElem_mem hlt)
    have hok := hg vs[i] (n1, c1) hc
    clear q2 hg
    generalize vs[i] = v at *
    generalize hgv : g v (n1, c1) = G at *
    clear hgv
    obtain ⟨b, n2, c2⟩ := G
    simp only at q hok hf
    rcases b with _ | _
    · simp at hf
      subst hf
      clear hok hc
      rcases az with _ | ⟨a0, az⟩
      all_goals rcases n1 with _ | n1
      all_goals simp only [jlA, jlB, jcH, jcS, jcK, jcD, jX, jW, jZ, List.length_nil, List.length_cons, List.cons_append, List.nil_append] at q hkl hko hal ⊢
      all_goals rcases n2 with _ | n2
      all_goals simp only [jlA, jlB, List.append_nil] at q
      all_goals repeat' ((conv => whnf); first | (refine exI q ?_) | (refine exI (hx _ (by omega)) ?_) | (with_reducible refine ixJ i rfl ?_ ?_; (focus (omega))) | (refine apS ?_) | (first | refine stp ?_ | with_reducible refine Z01 (fun h => ?_) (fun h => ?_)))
      all_goals (conv => whnf)
      all_goals exact ⟨[], rfl, trivial, rfl, Wk.noref rfl⟩
    · rw [if_pos rfl] at hf
      have hok := hok rfl
      have hcs2 := hok.rf
      rcases az with _ | ⟨a0, az⟩
      all_goals rcases n1 with _ | n1
      all_goals simp only [jlA, jlB, jcH, jcS, jcK, jcD, jX, jW, jZ, List.length_nil, List.length_cons, List.cons_append, List.nil_append] at q hkl hko hal ⊢
      all_goals rcases n2 with _ | n2
      all_goals simp only [jlA, jlB, List.append_nil] at q
      all_goals repeat' ((conv => whnf); first | (refine exI q ?_) | (refine exI (hx _ (by omega)) ?_) | (with_reducible refine exW wa ?_) | (with_reducible refine ixJ i rfl ?_ ?_; (focus (omega))) | (refine apS ?_) | (first | refine stp ?_ | with_reducible refine Z01 (fun h => ?_) (fun h => ?_)))
      all_goals (conv => whnf)
      all_goals refine ⟨⟨i + 1, _, c2⟩, ⟨hlt, hok, hf⟩, by show vs.length - (i + 1) < vs.length - i; omega, ?_⟩
      all_goals simp only [jlA, jlB]
      all_goals first
       | exact fgA [0]
       | (refine FgLK.mk [0, 4] rfl rfl ?_ ⟨⟨rfl, rfl, rfl, rfl, BodyGe.pre (rest := []) rfl rfl⟩, ⟨rfl, rfl, rfl, rfl, Z1L hcs2⟩, trivial⟩ rfl; (repeat (first | exact trivial | refine stw ?_)))
       | (refine FgLK.mk [0, 5] rfl rfl ?_ ⟨⟨rfl, rfl, rfl, rfl, BodyGe.pre (rest := []) rfl rfl⟩, ⟨rfl, rfl, rfl, rfl, Z1L hcs2⟩, trivial⟩ rfl; (repeat (first | exact trivial | refine stw ?_)))
       | (refine FgLK.mk [0, 6] rfl rfl ?_ ⟨⟨rfl, rfl, rfl, rfl, BodyGe.pre (rest := []) rfl rfl⟩, ⟨rfl, rfl, rfl, rfl, Z1L hcs2⟩, trivial⟩ rfl; (repeat (first | exact trivial | refine stw ?_)))
  · have e1 : decide ((i : Int) < (vs.length : Int)) = false := by simpa using hlt
    rw [List.drop_eq_nil_of_le (by omega)] at hf
    simp only [Z23] at hf
    clear q2 hg
    subst hf
    rcases n1 with _ | n1
    all_goals simp only [jlA, jlB]
    all_goals repeat' ((conv => whnf); first | (first | refine stp ?_ | with_reducible refine Z01 (fun h => ?_) (fun h => ?_)))
    all_goals (conv => whnf)
    · exact ⟨[], rfl, trivial, rfl, Wk.noref rfl⟩
    · exact ⟨[1], rfl, ⟨⟨rfl, rfl, rfl, rfl, Z1L hcs⟩, trivial⟩, rfl, Wk.tuple ⟨Z1i rfl, Wk.bool rfl, trivial⟩⟩
end Go.Proofs.YteidjbahodbgdaaGreatDoor.lex
end

section
namespace Go.Proofs.YteidjbahodbgdaaGreatDoor.lex
open Go.Abs Go.RowKit Go.Flat
set_option maxRecDepth 100000
set_option maxHeartbeats 4000000
variable {gl : Z0l}
theorem Zke {regs : Int} {l : List Ins} {az : List Int} {v v' : Int} {n n' : Nat} {cs cs' : List AV} (hc : OkC n cs) (hc' : OkC n' cs') (h : jcH regs l v az n cs = jcH regs l v' az n' cs') : v = v' /\ n = n' /\ cs = cs' := by
 have h0 : n = 0 -> cs = [] := fun h => List.length_eq_zero_iff.1 (by have := hc.len; omega)
 have h0' : n' = 0 -> cs' = [] := fun h => List.length_eq_zero_iff.1 (by have := hc'.len; omega)
 have hl := hc.len
 have hl' := hc'.len
 rcases az with _ | ⟨a0, az⟩ <;> rcases n with _ | n <;> rcases n' with _ | n' <;> simp [jcH, jX, jW] at h
 · exact ⟨h, rfl, by rw [h0 rfl, h0' rfl]⟩
 · obtain ⟨h1, h2⟩ := h
   subst h1
   exact ⟨h2, by omega, rfl⟩
 · exact ⟨h, rfl, by rw [h0 rfl, h0' rfl]⟩
 · obtain ⟨h1, h2⟩ := h
   subst h1
   exact ⟨h2, by omega, rfl⟩
theorem ZjS {regs : Nat} {l : List Ins} {vs : List Int} (hr : Runs regs l) (ha : Acy (nxL l) l.length) (h16 : regs <= 16) (hvs : vs.length <= 1000) (hl : l.length <= 1000) : ∀ (d : Nat) (az : List Int) (n : Nat) (cs : List AV), OkC n cs -> az.length + d = l.length ->
  Z76 Tryz.prog gl 0 33 [jC regs l, rsI vs, rsI az, jlA 0 n] (jlB 0 n cs) (.tuple [jlA 0 (Z6z (fun az => goI l az (th0 regs) 0) vs d az (n, cs)).2.1, .bool (Z6z (fun az => goI l az (th0 regs) 0) vs d az (n, cs)).1]) (jlB 0 (Z6z (fun az => goI l az (th0 regs) 0) vs d az (n, cs)).2.1 (Z6z (fun az => goI l az (th0 regs) 0) vs d az (n, cs)).2.2) := by
 obtain ⟨rank, hrank⟩ := id ha
 have hend : ∀ az : List Int, l.length <= az.length -> (goI l az (th0 regs) 0).fin ≠ 0 := fun az h => Zdw evF wrI (Z0h l) l.length hrank.2 hrank.1 az (th0 regs) 0 .zero (by have := hrank.1 0 .zero; show rank 0 < _; omega)
 clear hrank rank
 have hgo : ∀ az : List Int, az.length <= 1000 -> ValOK Tryz.prog gl 37 [jC regs l, rsI az] (.agg (Z0T (goI l az (th0 regs) 0))) := fun az h => Zj5 hr ha h16 az h
 have hfin : ∀ (d : Nat) (az : List Int) (n : Nat) (cs : List AV), OkC n cs -> az.length <= 1000 -> (goI l az (th0 regs) 0).fin ≠ 0 -> Z76 Tryz.prog gl 0 33 [jC regs l, rsI vs, rsI az, jlA 0 n] (jlB 0 n cs) (.tuple [jlA 0 (Z6z (fun az => goI l az (th0 regs) 0) vs d az (n, cs)).2.1, .bool (Z6z (fun az => goI l az (th0 regs) 0) vs d az (n, cs)).1]) (jlB 0 (Z6z (fun az => goI l az (th0 regs) 0) vs d az (n, cs)).2.1 (Z6z (fun az => goI l az (th0 regs) 0) vs d az (n, cs)).2.2) := fun d az n cs hc h1 hf => by
  have e : Z6z (fun az => goI l az (th0 regs) 0) vs d az (n, cs) = (decide (n < 4096), n + 1, cs ++ Z0T (goI l az (th0 regs) 0)) := by cases d <;> (unfold Z6z; rw [if_neg hf])
  rw [e]
  obtain ⟨O, hO, p1, -⟩ := fams (P := Tryz.prog) (gl := gl) [one0 (f := 37) (A := [jC regs l, rsI az]) (R := .agg (Z0T (goI l az (th0 regs) 0))) True (by kernel_rfl) rfl (fun _ => hgo az h1)] rfl
  exact ZkC hc hO hf (p1 () trivial)
 intro d
 induction d with
 | zero => exact fun az n cs hc hd => hfin 0 az n cs hc (by omega) (hend az (by omega))
 | succ d ih =>
  intro az n cs hc hd
  by_cases hf : (goI l az (th0 regs) 0).fin = 0
  · have e : Z6z (fun az => goI l az (th0 regs) 0) vs (d + 1) az (n, cs) = Z23 (fun v o => Z6z (fun az => goI l az (th0 regs) 0) vs d (az ++ [v]) o) vs (n, cs) := by
     show (if (goI l az (th0 regs) 0).fin = 0 then _ else _) = _
     rw [if_pos hf]
    rw [e]
    let g : Int -> Nat × List AV -> AlR := fun v o => Z6z (fun az => goI l az (th0 regs) 0) vs d (az ++ [v]) o
    have hg3 : ∀ v n cs, OkC n cs -> Ok3 (g v (n, cs)).2.1 (g v (n, cs)).2.2 := fun v n cs h => (Za7 d (az ++ [v]) (n, cs) h).1
    have hgk : ∀ v (o : Nat × List AV), OkC o.1 o.2 -> (g v o).1 = true -> OkC (g v o).2.1 (g v o).2.2 := fun v o h => (Za7 d (az ++ [v]) o h).2
    have ih2 := fun v n cs (h : OkC n cs) => Zmt (gl := gl) (F := g v (n, cs)) (ih (az ++ [v]) n cs h (by simp; omega)) h.k3 (hg3 v n cs h)
    show Z76 _ _ _ _ _ _ (.tuple [jlA 0 (Z23 g vs (n, cs)).2.1, .bool (Z23 g vs (n, cs)).1]) (jlB 0 (Z23 g vs (n, cs)).2.1 (Z23 g vs (n, cs)).2.2)
    generalize g = g at *
    obtain ⟨O, hO, ⟨p1, -⟩, p2, -⟩ := Z6G (P := Tryz.prog) (gl := gl) [{ I := Int × Nat × List AV, f := 33, G := fun i => OkC i.2.1 i.2.2 /\ i.1 ∈ vs, A := fun i => [jC regs l, rsI vs, jcS az i.2.1, jlA 1 i.2.1], H := fun i => jcH regs l i.1 az i.2.1 i.2.2, R := fun i => .tuple [jlA (jcK az i.2.1) (g i.1 (i.2.1, i.2.2)).2.1, .bool (g i.1 (i.2.1, i.2.2)).1], O := fun i => jW regs l :: (jcD az i.2.1 ++ jlB (jcK az i.2.1) (g i.1 (i.2.1, i.2.2)).2.1 (g i.1 (i.2.1, i.2.2)).2.2), body := (by kernel_rfl), inj := (fun i j h1 h2 _ h => by obtain ⟨e1, e2, e3⟩ := Zke h1.1 h2.1 h; rw [e1, e2, e3]; exact ⟨rfl, rfl⟩), ok := fun i h => ih2 i.1 i.2.1 i.2.2 h.1 }]
     [one0 (f := 37) (A := [jC regs l, rsI az]) (R := .agg (Z0T (goI l az (th0 regs) 0))) True (by kernel_rfl) rfl (fun _ => hgo az (by omega))] rfl
    exact ZkM hc hvs (by omega) hO hf hgk (p2 () trivial) (fun v n cs h1 h2 => p1 (v, n, cs) ⟨h1, h2⟩)
  · exact hfin (d + 1) az n cs hc (by omega) hf
def Zn0 (f : Nat) : Bool := Nat.beq f 16 || Nat.beq f 33
theorem ZkP (c : Cd) (hok : okC c) (hs : ∀ i ∈ c.ins, ∀ e ∈ i.ex, Z0f e <= 800000) (vs : List Int) (hvs : vs.length <= 1000) (hl : c.ins.length <= 1000) : ValOK Tryz.prog runLives.gl 10 [c.av, rsI vs] (ZeS c vs) := by
 have hrun := ZiJ (Z9n (gl := runLives.gl) c hok hs [] (by decide))
 have hΦ : ∀ r' : AV, (∀ sn v, VR sn noI r' v -> VR sn noI (ZeS c vs) v) -> ∀ sn v, VR sn noI r' v -> VR sn noI (ZeS c vs) v := fun r' h => h
 obtain ⟨n1, c1, a1, a2, a3, a4, a5, p, n2, c2, k, hst⟩ := Z7e (Z07 c [])
 rw [hst] at hrun
 generalize (Z07 c []).fin = fin at *
 by_cases hfl : Z0E c = true
 · have hc := Z1Z hfl
   obtain ⟨hr, hr0, hr16⟩ := Z3R hok hs hc
   have hac := Z2G hfl
   have he : Z1y c = 0 := Z15.2 hfl
   have hq := ZjS (gl := runLives.gl) (vs := vs) hr hac (by omega) hvs hl c.ins.length [] 0 [] Z7s (by simp)
   have hF3 := (Za7 (St := fun az => goI c.ins az (th0 c.regs.toNat) 0) (vals := vs) c.ins.length [] (0, []) Z7s).1
   have hg := ZdY (St := fun az => goI c.ins az (th0 c.regs.toNat) 0) (vals := vs) c.ins.length [] (0, [])
   have hgg := Z6X (l := c.ins) (s0 := th0 c.regs.toNat) (vs := vs) c.ins.length [] []
   rw [he] at hrun
   have e1 : ZdZ c vs = (Z6y c vs).getD [] := if_pos hfl
   have e2 : ZiC c vs = cond (Z6y c vs).isSome 0 3 := if_pos hfl
   unfold ZeS at hΦ ⊢
   rw [e1, e2] at hΦ ⊢
   unfold Z6y at hΦ ⊢
   simp only [List.length_nil, Z0P] at hgg
   rw [hgg] at hg
   obtain ⟨rg, l⟩ := c
   obtain ⟨regs, rfl⟩ : ∃ regs : Nat, rg = regs := ⟨rg.toNat, by simp only at hr0; omega⟩
   simp only [Cd.av, Int.toNat_natCast] at *
   clear hgg e1 e2 he hfl hr hac hs hok hc hr0 hr16 hst
   generalize Z6z (fun az => goI l az (th0 regs) 0) vs l.length [] (0, []) = F at *
   generalize gat evF wrI (Z0h l) l.length (th0 regs) vs l.length [] [] = R at *
   obtain ⟨b, m, cs⟩ := F
   simp only at hg hF3 hq
   have hcr := hF3.rn
   have hc2 : ∀ k : Nat, Z0M k (refsL cs []) = true := fun k => by rw [hF3.rf]; rfl
   have hc3 : ∀ (k : Nat) (g : Nat -> Nat), Z0M k (refsL (renL g cs) []) = true := fun k g => by rw [hcr]; exact hc2 k
   have hq : Z76 Tryz.prog runLives.gl 0 33 [jC regs l, rsI vs, .nslice, .nslice] [] (.tuple [jlA 0 m, .bool b]) (jlB 0 m cs) := fun sn ι W cargs hg hR ha => hq sn ι W cargs hg hR (by
    simp only [LR] at ha ⊢
    obtain ⟨v, vs, rfl, h1, v2, vs2, rfl, h2, v3, vs3, rfl, h3, h4⟩ := ha
    exact ⟨v, _, rfl, h1, v2, _, rfl, h2, v3, _, rfl, Zde h3, h4⟩)
   have h1 := Z2m hq (Nat.zero_le _) (Nat.zero_le _) (fun i o h => by
    cases m with
    | zero => cases h
    | succ m =>
     match i, h with
     | 0, h => cases h; exact ⟨rfl, rfl, hc2 _⟩
     | i + 1, h => cases h) (fun i o h => by cases h) (by cases m <;> rfl)
   have h2 := Z1d (m := []) (Hc := [jW regs l, ⟨true, 1, 0, .cells [.rs n1 5 c1, .int .i64 fin, .int .i64 a1, .int .i64 a2, .int .i64 a3, .int .i64 a4, .int .i64 a5, .int .i64 p, .rs n2 1 c2, .int .i64 k] 37⟩]) (cargs := [jC regs l, rsI vs, .nslice, .nslice]) h1 (Wk.tuple ⟨Wk.noref rfl, Wk.noref rfl, Wk.noref rfl, Wk.noref rfl, trivial⟩) trivial rfl rfl (by cases m <;> rfl) (Z0z rfl) (fun i o h => by
    cases m with
    | zero => cases h
    | succ m =>
     match i, h with
     | 0, h => cases h; exact hc3 _ _
     | i + 1, h => cases h) (by cases m <;> rfl)
   have h3 : Z1O Tryz.prog runLives.gl 33 [jC regs l, rsI vs, .nslice, .nslice] [jW regs l, ⟨true, 1, 0, .cells [.rs n1 5 c1, .int .i64 fin, .int .i64 a1, .int .i64 a2, .int .i64 a3, .int .i64 a4, .int .i64 a5, .int .i64 p, .rs n2 1 c2, .int .i64 k] 37⟩] (.tuple [jlA 2 m, .bool b]) ([jW regs l, ⟨true, 1, 0, .cells [.rs n1 5 c1, .int .i64 fin, .int .i64 a1, .int .i64 a2, .int .i64 a3, .int .i64 a4, .int .i64 a5, .int .i64 p, .rs n2 1 c2, .int .i64 k] 37⟩] ++ jlB 2 m cs) := by
    refine cast ?_ h2
    rcases m with _ | m <;> simp [jW, jlA, jlB, rsI, Z4s, Z4A, Z3m, shE, shS, sgE, sgS, Z1C, renL, ren, hcr]
   obtain ⟨O, hO, ⟨p1, -⟩, ⟨p2, -⟩⟩ := Z6G (P := Tryz.prog) (gl := runLives.gl) [{ I := Unit, f := 33, G := fun _ => True, A := fun _ => [jC regs l, rsI vs, .nslice, .nslice], H := fun _ => [jW regs l, ⟨true, 1, 0, .cells [.rs n1 5 c1, .int .i64 fin, .int .i64 a1, .int .i64 a2, .int .i64 a3, .int .i64 a4, .int .i64 a5, .int .i64 p, .rs n2 1 c2, .int .i64 k] 37⟩], R := fun _ => .tuple [jlA 2 m, .bool b], O := fun _ => [jW regs l, ⟨true, 1, 0, .cells [.rs n1 5 c1, .int .i64 fin, .int .i64 a1, .int .i64 a2, .int .i64 a3, .int .i64 a4, .int .i64 a5, .int .i64 p, .rs n2 1 c2, .int .i64 k] 37⟩] ++ jlB 2 m cs, body := (by kernel_rfl), inj := (fun _ _ _ _ _ _ => ⟨rfl, rfl⟩), ok := fun _ _ => h3 }]
    [one0 (f := 16) (A := [jC regs l, .nslice]) (R := .tuple [.agg [.rs n1 5 c1, .int .i64 fin, .int .i64 a1, .int .i64 a2, .int .i64 a3, .int .i64 a4, .int .i64 a5, .int .i64 p, .rs n2 1 c2, .int .i64 k], .int .i64 0]) True (by kernel_rfl) rfl (fun _ => hrun)] rfl
   have q1 : Z04 Tryz.prog O [jW regs l, ⟨true, 1, 0, .cells [.rs n1 5 c1, .int .i64 fin, .int .i64 a1, .int .i64 a2, .int .i64 a3, .int .i64 a4, .int .i64 a5, .int .i64 p, .rs n2 1 c2, .int .i64 k] 37⟩] 33 [jC regs l, rsI vs, .nslice, .nslice] = some (.tuple [jlA 2 m, .bool b], [jW regs l, ⟨true, 1, 0, .cells [.rs n1 5 c1, .int .i64 fin, .int .i64 a1, .int .i64 a2, .int .i64 a3, .int .i64 a4, .int .i64 a5, .int .i64 p, .rs n2 1 c2, .int .i64 k] 37⟩] ++ jlB 2 m cs) := p1 () trivial
   have q2 : ∀ H, Z04 Tryz.prog O H 16 [jC regs l, .nslice] = some (.tuple [.agg [.rs n1 5 c1, .int .i64 fin, .int .i64 a1, .int .i64 a2, .int .i64 a3, .int .i64 a4, .int .i64 a5, .int .i64 p, .rs n2 1 c2, .int .i64 k], .int .i64 0], H) := p2 () trivial
   clear p1 p2 h1 h2 h3 hq hrun hc2 hc3 hcr hF3
   simp only [jW, jC, rsI, List.cons_append, List.nil_append] at q1 q2 ⊢
   refine fn_valX follows Z09 (Z0K follows Z09 hO 3) hΦ Tryz.func10 rfl (Z1j (isC := Zn0) 3) ?_
   clear hΦ
   rcases R with _ | out
   · simp only [Option.map_none, Option.isSome_none] at hg
     obtain rfl : b = false := hg.1.symm
     rcases m with _ | m
     all_goals simp only [jlA, jlB] at q1
     all_goals repeat' ((conv => whnf); first | (refine exI (q2 _) ?_) | (refine exI q1 ?_) | (first | refine stp ?_ | with_reducible refine Z01 (fun h => ?_) (fun h => ?_)))
     all_goals (conv => whnf)
     all_goals exact fun sn v h => Zeb (fun _ h => Z0X h) h
   · simp only [Option.map_some, Option.isSome_some] at hg
     obtain rfl : b = true := hg.1.symm
     have hE := hg.2 _ rfl
     simp only [Prod.mk.injEq] at hE
     obtain ⟨rfl, rfl⟩ := hE
     rcases out with _ | ⟨z, out⟩
     all_goals simp only [jlA, jlB, List.length_cons, List.length_nil] at q1 ⊢
     all_goals repeat' ((conv => whnf); first | (refine exI (q2 _) ?_) | (refine exI q1 ?_) | (first | refine stp ?_ | with_reducible refine Z01 (fun h => ?_) (fun h => ?_)))
     all_goals (conv => whnf)
     · exact fun sn v h => Zeb (fun _ h => Z0X h) h
     · exact ⟨_, Zgn (Zdz (n := 27) (b := 2) rfl rfl) rfl, fun sn v h => h⟩
 · have he : Z1y c ≠ 0 := fun h => hfl (Z15.1 h)
   have e1 : (Z1y c != 0) = true := by simpa using he
   have e2 : ZdZ c vs = [] := if_neg hfl
   have e3 : ZiC c vs = Z1y c := if_neg hfl
   unfold ZeS at hΦ ⊢
   rw [e2, e3] at hΦ ⊢
   obtain ⟨O, hO, p1, -⟩ := fams (P := Tryz.prog) (gl := runLives.gl) [one0 (f := 16) (A := [c.av, .nslice]) (R := .tuple [.agg [.rs n1 5 c1, .int .i64 fin, .int .i64 a1, .int .i64 a2, .int .i64 a3, .int .i64 a4, .int .i64 a5, .int .i64 p, .rs n2 1 c2, .int .i64 k], .int .i64 (Z1y c)]) True (by kernel_rfl) rfl (fun _ => hrun)] rfl
   have q1 : ∀ H, Z04 Tryz.prog O H 16 [c.av, .nslice] = some (.tuple [.agg [.rs n1 5 c1, .int .i64 fin, .int .i64 a1, .int .i64 a2, .int .i64 a3, .int .i64 a4, .int .i64 a5, .int .i64 p, .rs n2 1 c2, .int .i64 k], .int .i64 (Z1y c)], H) := p1 () trivial
   clear p1 hrun he hfl hok hs hst
   generalize Z1y c = n at *
   obtain ⟨regs, l⟩ := c
   simp only [Cd.av, rsI] at *
   refine fn_valX follows Z09 (Z0K follows Z09 hO 3) hΦ Tryz.func10 rfl (Z1j (isC := Zn0) 3) ?_
   clear hΦ
   repeat' ((conv => whnf); first | (refine exI (q1 _) ?_) | (first | refine stp ?_ | with_reducible refine Z01 (fun h => ?_) (fun h => ?_)))
   all_goals exact fun sn v h => Zeb (fun _ h => Z0X h) h
end Go.Proofs.YteidjbahodbgdaaGreatDoor.lex
end

section
namespace Go.Proofs.YteidjbahodbgdaaGreatDoor.lex
open Go.Abs Go.RowKit Go.Flat
set_option maxRecDepth 100000
set_option maxHeartbeats 4000000
theorem iaLaw (c : Cd) (vs : List Int) (hok : okC c) : ValOK Tryz.prog runLives.gl 3 [c.av, rsI vs] (.bool true) := by
 by_cases hlight : ltC c 12 = true /\ vs.length <= 3
 case' neg =>
  obtain ⟨O, hO, p0, p1, -⟩ := fams (P := Tryz.prog) (gl := runLives.gl) [
   one0 (f := 7) (A := []) (R := .bool true) True (by kernel_rfl) rfl (fun _ => Z8G),
   one0 (f := 8) (A := [c.av, .int .i64 12]) (R := .bool (ltC c 12)) True (by kernel_rfl) rfl (fun _ => Z3b c hok 12)] rfl
  have q0 : ∀ H, Z04 Tryz.prog O H 7 [] = some (.bool true, H) := p0 () trivial
  have q1 : ∀ H, Z04 Tryz.prog O H 8 [c.av, .int .i64 12] = some (.bool (ltC c 12), H) := p1 () trivial
  clear p0 p1 hok
  generalize ltC c 12 = lt at *
  obtain ⟨regs, l⟩ := c
  simp only [Cd.av, rsI] at *
  refine Z0a follows Z09 hO Tryz.func3 rfl ?_
  cases lt
  case' true => have e1 : decide ((vs.length : Int) > 3) = true := by simp; simp only [true_and] at hlight; omega
  all_goals repeat' ((conv => whnf); first | (refine exI (q0 _) ?_) | (refine exI (q1 _) ?_) | (first | refine stp ?_ | with_reducible refine Z01 (fun h => ?_) (fun h => ?_)))
  all_goals rfl
 obtain ⟨hlt, hv3⟩ := hlight
 have hs := (Z4g hlt).2
 have hLt := Z3b (gl := runLives.gl) c hok 12
 rw [hlt] at hLt
 have hA := Zcq c hok hs vs (by omega)
 have hB := ZkP c hok hs vs (by omega) (by have := (Z4g hlt).1; omega)
 unfold ZeS at hA hB
 have hlens : (ZdZ c vs).length <= 4096 /\ ∀ a ∈ ZdZ c vs, a.th.evs.length <= 4000 /\ a.th.regs.length <= 16 := by
  unfold ZdZ
  by_cases hfl : Z0E c = true
  · rw [if_pos hfl]
    cases h : Z6y c vs with
    | none => exact ⟨Nat.zero_le _, fun a ha => by cases ha⟩
    | some out => exact ⟨ZdX h, Zbo hok hs hfl h⟩
  · rw [if_neg hfl]; exact ⟨Nat.zero_le _, fun a ha => by cases ha⟩
 generalize ZdZ c vs = out at *
 generalize ZiC c vs = nn at *
 obtain ⟨hfew, hmem⟩ := hlens
 obtain ⟨O, hO, p0, p1, p2, p3, p4, -⟩ := fams (P := Tryz.prog) (gl := runLives.gl) [
  one0 (f := 7) (A := []) (R := .bool true) True (by kernel_rfl) rfl (fun _ => Z8G),
  one0 (f := 8) (A := [c.av, .int .i64 12]) (R := .bool true) True (by kernel_rfl) rfl (fun _ => hLt),
  one0 (f := 9) (A := [c.av, rsI vs]) (R := .tuple [.rs out.length 10 (Z0P out), .int .i64 nn]) True (by kernel_rfl) rfl (fun _ => hA),
  one0 (f := 10) (A := [c.av, rsI vs]) (R := .tuple [.rs out.length 10 (Z0P out), .int .i64 nn]) True (by kernel_rfl) rfl (fun _ => hB),
  { I := Flat.Stand, f := 11, G := fun a => a ∈ out, A := fun a => [.agg (Z0T a), .agg (Z0T a)], R := fun a => .bool true, body := (by kernel_rfl), inj := (fun i j _ _ h => rfl), ok := (fun a ha => ⟨Z9i _ _, by have h := Z7g (gl := runLives.gl) a a (by have := hmem a ha; omega) (by have := hmem a ha; omega) (by have := hmem a ha; omega) (by have := hmem a ha; omega); rw [Z9j] at h; exact h⟩) }] rfl
 have q0 : ∀ H, Z04 Tryz.prog O H 7 [] = some (.bool true, H) := p0 () trivial
 have q1 : ∀ H, Z04 Tryz.prog O H 8 [c.av, .int .i64 12] = some (.bool true, H) := p1 () trivial
 have q2 : ∀ H, Z04 Tryz.prog O H 9 [c.av, rsI vs] = some (.tuple [.rs out.length 10 (Z0P out), .int .i64 nn], H) := p2 () trivial
 have q3 : ∀ H, Z04 Tryz.prog O H 10 [c.av, rsI vs] = some (.tuple [.rs out.length 10 (Z0P out), .int .i64 nn], H) := p3 () trivial
 have q4 : ∀ a ∈ out, ∀ H, Z04 Tryz.prog O H 11 [.agg (Z0T a), .agg (Z0T a)] = some (.bool true, H) := p4
 clear p0 p1 p2 p3 p4 hA hB hLt hmem hs hlt hok
 have e1 : decide ((vs.length : Int) > 3) = false := by simp; omega
 have f1 : ((out.length : Int) != (out.length : Int)) = false := by simp
 have f2 : (nn != nn) = false := by simp
 obtain ⟨regs, l⟩ := c
 simp only [Cd.av, rsI] at *
 refine Z0a follows Z09 hO Tryz.func3 rfl ?_
 repeat' ((conv => whnf); first | (refine exI (q0 _) ?_) | (refine exI (q1 _) ?_) | (refine exI (q2 _) ?_) | (refine exI (q3 _) ?_) | (first | refine stp ?_ | with_reducible refine Z01 (fun h => ?_) (fun h => ?_)))
 conv => whnf
 refine ⟨Nat, (fun n => n <= out.length), (fun n => [(5, .rs out.length 10 (Z0P out)), (7, .rs out.length 10 (Z0P out)), (9, .int .i64 (n : Nat))]), (fun _ => []), (fun n => out.length - n), ⟨0, Nat.zero_le _, ?_⟩, ?_⟩
 · exact fgA []
 intro n hn
 (try dsimp only at hn)
 (try dsimp only)
 clear q0 q1 q2 q3
 by_cases hlt : n < out.length
 · have e2 : decide ((n : Int) < (out.length : Int)) = true := by simpa using hlt
   have hx := Zlj out n hlt
   have hq := q4 out[n] (List.getElem_mem _)
   obtain ⟨m1, d1, b1, b2, b3, b4, b5, p', m2, d2, k', hcs'⟩ := Z7e out[n]
   rw [hcs'] at hx hq
   clear q4 hcs'
   repeat' ((conv => whnf); first | (refine exI hx ?_) | (refine exI (hq _) ?_) | (with_reducible refine ixJ n rfl ?_ ?_; (focus (omega))) | (first | refine stp ?_ | with_reducible refine Z01 (fun h => ?_) (fun h => ?_)))
   conv => whnf
   refine ⟨n + 1, hlt, by show out.length - (n + 1) < out.length - n; omega, ?_⟩
   exact fgA []
 · have e2 : decide ((n : Int) < (out.length : Int)) = false := by simpa using hlt
   repeat' ((conv => whnf); first | (first | refine stp ?_ | with_reducible refine Z01 (fun h => ?_) (fun h => ?_)))
   all_goals rfl
end Go.Proofs.YteidjbahodbgdaaGreatDoor.lex
namespace Go.Proofs.YteidjbahodbgdaaGreatDoor.iaLaw
open Go.Abs Go.RowKit Go.Flat lex
def Qs : List (AV -> Prop) := [fun u => ∃ c : Cd, u = c.av /\ okC c, fun u => ∃ l : List Int, u = rsI l /\ l.length <= 9223372036854775807]
theorem opens : Z4q Tryz.prog Tryz.f3.params.toList Qs := by
 rw [Tryz.params3]
 exact ⟨ZfR, Zc7, trivial⟩
theorem law (us : List AV) (h : ZiG Qs us) : ValOK Tryz.prog runLives.gl 3 us (.bool true) := by
 obtain ⟨_, _, rfl, ⟨c, rfl, hc⟩, h1⟩ := Z1w h
 obtain ⟨_, _, rfl, ⟨vs, rfl, hv⟩, h2⟩ := Z1w h1
 cases Za6 h2
 exact lex.iaLaw c vs hc
theorem solid : Solid Tryz.prog := by unfold Solid; kernel_rfl
end Go.Proofs.YteidjbahodbgdaaGreatDoor.iaLaw
end

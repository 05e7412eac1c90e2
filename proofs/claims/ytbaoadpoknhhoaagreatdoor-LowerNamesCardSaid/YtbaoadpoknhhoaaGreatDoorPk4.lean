/-
  Texts of this proof, one behind the other (part 4).
-/
import Derived.Test.YtbaoadpoknhhoaaGreatDoorPk3
set_option linter.unusedVariables false
set_option linter.unusedSimpArgs false

section
namespace Go.Abs
open Go.RowKit
noncomputable def ZhR {β : Type} (n : Int) : (Int -> β) -> β := Int.rec (motive := fun _ => (Int -> β) -> β) (fun m f => Nat.rec (motive := fun _ => β) (f (.ofNat 0)) (fun m _ => f (.ofNat (Nat.succ m))) m) (fun m f => Nat.rec (motive := fun _ => β) (f (.negSucc 0)) (fun m _ => f (.negSucc (Nat.succ m))) m) n
theorem ZfL {β : Type} (n : Int) (f : Int -> β) : ZhR n f = f n := by cases n with | ofNat m => cases m <;> rfl | negSucc m => cases m <;> rfl
noncomputable def Z0D {β : Type} (n : Nat) : (Nat -> β) -> β := Nat.rec (motive := fun _ => (Nat -> β) -> β) (fun f => f 0) (fun m _ f => f (Nat.succ m)) n
theorem Z0G {β : Type} (n : Nat) (f : Nat -> β) : Z0D n f = f n := by cases n <;> rfl
noncomputable def Zam {β : Type} (b : Bool) : (Bool -> β) -> β := Bool.rec (motive := fun _ => (Bool -> β) -> β) (fun f => f false) (fun f => f true) b
theorem Z4w {β : Type} (b : Bool) (f : Bool -> β) : Zam b f = f b := by cases b <;> rfl
noncomputable def ZfJ {β : Type} (s : List UInt8) : (List UInt8 -> β) -> β := List.rec (motive := fun _ => (List UInt8 -> β) -> β) (fun f => f []) (fun c _ ih f => ih fun l => f (c :: l)) s
theorem Zbp {β : Type} : ∀ (s : List UInt8) (f : List UInt8 -> β), ZfJ s f = f s
 | [], f => rfl
 | c :: s, f => by show ZfJ s (fun l => f (c :: l)) = _; rw [Zbp s]
noncomputable def Z5v {β : Type} (v : AV) : (AV -> β) -> β :=
 AV.rec (motive_1 := fun _ => (AV -> β) -> β) (motive_2 := fun _ => (List AV -> β) -> β) (fun b f => Zam b fun b => f (.bool b)) (fun k n f => ZhR n fun n => f (.int k n)) (fun s f => ZfJ s fun s => f (.str s)) (fun f => f .nptr)
  (fun b o f => Z0D b fun b => Z0D o fun o => f (.ptr b o)) (fun cs _ f => f (.rp cs)) (fun f => f .nslice)
  (fun b o l c z f => Z0D b fun b => Z0D o fun o => Z0D l fun l => Z0D c fun c => Z0D z fun z => f (.slice b o l c z)) (fun n z cs _ f => Z0D n fun n => f (.rs n z cs)) (fun f => f .nmap) (fun b f => Z0D b fun b => f (.map b))
  (fun fn _ _ iha ihb f => iha fun a => ihb fun b => f (.func fn a b)) (fun f => f .nfunc) (fun t _ ih f => ih fun v => f (.iface t v)) (fun f => f .niface)
  (fun _ ih f => ih fun cs => f (.agg cs)) (fun _ ih f => ih fun vs => f (.tuple vs)) (fun f => f []) (fun _ _ ihv ihl f => ihv fun v => ihl fun l => f (v :: l)) v
noncomputable def Zbo {β : Type} (l : List AV) : (List AV -> β) -> β :=
 AV.rec_1 (motive_1 := fun _ => (AV -> β) -> β) (motive_2 := fun _ => (List AV -> β) -> β) (fun b f => Zam b fun b => f (.bool b)) (fun k n f => ZhR n fun n => f (.int k n)) (fun s f => ZfJ s fun s => f (.str s)) (fun f => f .nptr)
  (fun b o f => Z0D b fun b => Z0D o fun o => f (.ptr b o)) (fun cs _ f => f (.rp cs)) (fun f => f .nslice)
  (fun b o l c z f => Z0D b fun b => Z0D o fun o => Z0D l fun l => Z0D c fun c => Z0D z fun z => f (.slice b o l c z)) (fun n z cs _ f => Z0D n fun n => f (.rs n z cs)) (fun f => f .nmap) (fun b f => Z0D b fun b => f (.map b))
  (fun fn _ _ iha ihb f => iha fun a => ihb fun b => f (.func fn a b)) (fun f => f .nfunc) (fun t _ ih f => ih fun v => f (.iface t v)) (fun f => f .niface)
  (fun _ ih f => ih fun cs => f (.agg cs)) (fun _ ih f => ih fun vs => f (.tuple vs)) (fun f => f []) (fun _ _ ihv ihl f => ihv fun v => ihl fun l => f (v :: l)) l
noncomputable def Z5j {β : Type} (l : List AV) : (List AV -> β) -> β := List.rec (motive := fun _ => (List AV -> β) -> β) (fun f => f []) (fun v _ ih f => Z5v v fun v => ih fun l => f (v :: l)) l
mutual
theorem Z1b {β : Type} : ∀ (v : AV) (f : AV -> β), Z5v v f = f v
 | .bool b, f => Z4w b _
 | .int k n, f => ZfL n _
 | .str s, f => Zbp s _
 | .nptr, f => rfl
 | .ptr b o, f => by show (Z0D b fun b => Z0D o fun o => f (.ptr b o)) = _; simp only [Z0G]
 | .rp cs, f => rfl
 | .nslice, f => rfl
 | .slice b o l c z, f => by show (Z0D b fun b => Z0D o fun o => Z0D l fun l => Z0D c fun c => Z0D z fun z => f (.slice b o l c z)) = _; simp only [Z0G]
 | .rs n z cs, f => Z0G n _
 | .nmap, f => rfl
 | .map b, f => Z0G b _
 | .func fn a b, f => by show (Zbo a fun a => Zbo b fun b => f (.func fn a b)) = _; simp only [frcVLI_eq]
 | .nfunc, f => rfl
 | .iface t v, f => Z1b v _
 | .niface, f => rfl
 | .agg cs, f => frcVLI_eq cs _
 | .tuple vs, f => frcVLI_eq vs _
theorem frcVLI_eq {β : Type} : ∀ (l : List AV) (f : List AV -> β), Zbo l f = f l
 | [], f => rfl
 | v :: l, f => by show (Z5v v fun v => Zbo l fun l => f (v :: l)) = _; rw [Z1b v]; exact frcVLI_eq l _
end
theorem Z1P {β : Type} : ∀ (l : List AV) (f : List AV -> β), Z5j l f = f l
 | [], f => rfl
 | v :: l, f => by show (Z5v v fun v => Z5j l fun l => f (v :: l)) = _; rw [Z1b v]; exact Z1P l _
noncomputable def Z0r (gl : Glob) (d n : Nat) (x : Operand) : Option (Tre AV d -> AV) :=
 match x with
 | .tmp t => iff' (Nat.blt t n) (Bx.rec (fun g => some g) (Zdw AV d t)) none
 | .const v => match ofV v with | some c => Z5v c fun c => some fun _ => c | none => none
 | .global g => match gl g with | some cs => some fun _ => .rp cs | none => none
 | .func f => some fun _ => .func (.func f) [] []
noncomputable def Z3G (gl : Glob) (d n : Nat) (E : Tre AV d) (x : Operand) : Option AV := match Z0r gl d n x with | some g => some (g E) | none => none
theorem Z04 {gl : Glob} {d n : Nat} {E : Tre AV d} {x : Operand} {g : Tre AV d -> AV} (h : Z0r gl d n x = some g) : Z3G gl d n E x = some (g E) := by
 simp [Z3G, h]
def EnvSim (d n : Nat) (E : Tre AV d) (tm : Tr) : Prop := ∀ t, Z0I tm t = if t < n then some (Z1W d t E) else none
theorem Z8a {gl : Glob} {d n : Nat} {E : Tre AV d} {tm : Tr} (h : EnvSim d n E tm) : Z3G gl d n E = Z1g gl tm := by
 funext x
 unfold Z3G Z0r Z1g
 cases x with
 | tmp t =>
  simp only [h t, Z1A]
  by_cases ht : t < n
  · have hb : Nat.blt t n = true := by simpa [Nat.blt_eq] using ht
    rw [if_pos hb, if_pos ht]
    show some ((Zdw AV d t).v E) = _
    rw [Z4Y]
  · have hb : ¬ Nat.blt t n = true := by simpa [Nat.blt_eq] using ht
    rw [if_neg hb, if_neg ht]
 | const v => cases hv : ofV v <;> simp [Z1b, hv]
 | global g => cases hg : gl g <;> simp [hg]
 | func f => rfl
abbrev OpF (d : Nat) := Z4K -> Tre AV d -> TH -> Knt -> Res
def Z0Z (P : Program) (gl : Glob) (d n : Nat) (o : Oper) (F : OpF d) : Prop :=
 ∀ forc orc E T k out H, Z16 forc orc -> Rep T H -> F forc E T k = some out -> ∃ r T' H', aop P orc (Z3G gl d n E) o H = some (r, H') /\ Rep T' H' /\ k r T' = some out
section ok
variable {P : Program} {gl : Glob} {d n : Nat} {orc : Orc} {ρ : Operand -> Option AV} {H : Z00} {o : Oper}
theorem Zax {c : Call} {b : Builtin} (h : c.callee = .builtin b) : callee ρ c = none := by simp [callee, h]
theorem Z43 (h : kind o < 3) : aop P orc ρ o H = (match Z02 P ρ H o with | some r => some (r, H) | none => Z2D P ρ H o) := by
 have hc : ∀ c, o.op = .call c -> callee ρ c = none := by
  intro c ho
  unfold kind at h
  simp only [ho] at h
  cases hc : c.callee with
  | builtin b => exact Zax hc
  | value f => simp [hc] at h
  | invoke r m => simp [hc] at h
 unfold aop
 split
 · rename_i g args hx
   split at hx
   · rename_i c ho; rw [hc c ho] at hx; cases hx
   · cases hx
 · rfl
theorem Z08 (hk : kind o < 3) {r : AV} (h : Z02 P ρ H o = some r) : aop P orc ρ o H = some (r, H) := by
 rw [Z43 hk, h]
theorem ZeG (hk : kind o = 2) {mk : Nat -> AV} {body : ABody} (h : Z0p P ρ o = some (mk, body)) : aop P orc ρ o H = some (mk H.length, H ++ [⟨true, H.length, 0, body⟩]) := by
 rw [Z43 (by omega)]
 have hp : Z02 P ρ H o = none := by
  unfold kind at hk
  unfold Z02 Z0f
  cases ho : o.op with
  | call c =>
   simp only [ho] at hk ⊢
   cases hc : c.callee with
   | builtin b => cases b <;> simp [hc] at hk
   | value f => simp [hc] at hk
   | invoke r m => simp [hc] at hk
  | _ => simp [ho] at hk ⊢
 simp only [hp]
 unfold Z0p at h
 unfold Z2D
 cases ho : o.op with
 | alloc e =>
  simp only [ho] at h ⊢
  split at h <;> simp at h
  rename_i z hz
  obtain ⟨rfl, rfl⟩ := h
  simp [Z9P, hz, Z3O]
 | box e x =>
  simp only [ho] at h ⊢
  split at h <;> simp at h
  rename_i z hz
  obtain ⟨rfl, rfl⟩ := h
  simp [hz, ZjY, Z3O]
 | buildSlice t len ps =>
  simp only [ho] at h ⊢
  split at h <;> try (simp at h; done)
  rename_i us hus
  split at h <;> simp at h
  rename_i cs e z hz
  obtain ⟨rfl, rfl⟩ := h
  simp [hus, Z1U, hz, Z3O]
 | makeSlice t l c =>
  simp only [ho] at h ⊢
  split at h <;> try (simp at h; done)
  rename_i a b ha hb
  split at h <;> simp at h
  rename_i zs e z ln cp hz
  obtain ⟨rfl, rfl⟩ := h
  simp [ha, hb, Z1I, hz, Z3O]
 | makeMap t r =>
  cases r with
  | none =>
   simp only [ho] at h ⊢
   simp at h
   obtain ⟨rfl, rfl⟩ := h
   simp
  | some x => simp [ho] at h
 | _ => simp [ho] at h
noncomputable def Z92 (P : Program) (gl : Glob) (d n : Nat) (o : Oper) : OpF d := fun _ E T k => match Z02 P (Z3G gl d n E) [] o with | some r => Z5v r fun r => k r T | none => none
theorem ZeE {src dst : TypeId} {x : Operand} (ho : o.op = .convert src dst x) {r : AV} (h : Z02 P ρ [] o = some r) : Z02 P ρ H o = some r := by
 unfold Z02 at h ⊢
 simp only [ho] at h ⊢
 split at h
 · rename_i b off len cap z hx
   split at h
   · simp [Z4I] at h
   · cases h
 · simpa only [Z0f, ho] using h
theorem Zfd {src dst : TypeId} {x : Operand} (ho : o.op = .convert src dst x) : Z0Z P gl d n o (Z92 P gl d n o) := by
 intro forc orc E T k out H hO hR h
 unfold Z92 at h
 split at h <;> try (simp at h; done)
 rename_i r hr
 rw [Z1b] at h
 exact ⟨r, T, H, Z08 (by simp [kind, ho]) (ZeE ho hr), hR, h⟩
theorem Z86 (hk : kind o = 0) : Z0Z P gl d n o (Z92 P gl d n o) := by
 intro forc orc E T k out H hO hR h
 unfold Z92 at h
 split at h <;> try (simp at h; done)
 rename_i r hr
 rw [Z1b] at h
 exact ⟨r, T, H, Z08 (by omega) (by rw [<- Zj2 hk [] H]; exact hr), hR, h⟩
end ok
noncomputable def kix (k : IntKind) : Nat := IntKind.rec 0 1 2 3 4 5 6 7 k
theorem Z6p {k k' : IntKind} (h : Nat.beq (kix k) (kix k') = true) : k = k' := by
 cases k <;> cases k' <;> first | rfl | (exact absurd (show Nat.beq (kix _) (kix _) = false from rfl) (by rw [h]; simp))
noncomputable def kmx (k : IntKind) : Nat := IntKind.rec 127 32767 2147483647 9223372036854775807 255 65535 4294967295 18446744073709551615 k
theorem Zbh {k : IntKind} {s : Nat} (h : s <= kmx k) : k.wrap (s : Int) = s := by
 cases k with
 | i8 => exact IntWalk.i8_in _ (by have : s <= 127 := h; omega)
 | i16 => exact IntWalk.i16_in _ (by have : s <= 32767 := h; omega)
 | i32 => exact IntWalk.i32_in _ (by have : s <= 2147483647 := h; omega)
 | i64 => exact IntWalk.i64_in _ (by have : s <= 9223372036854775807 := h; omega)
 | u8 => exact IntWalk.u8_in _ (by have : s <= 255 := h; omega)
 | u16 => exact IntWalk.u16_in _ (by have : s <= 65535 := h; omega)
 | u32 => exact IntWalk.u32_in _ (by have : s <= 4294967295 := h; omega)
 | u64 => exact IntWalk.u64_in _ (by have : s <= 18446744073709551615 := h; omega)
abbrev ZgS := AV -> AV -> (AV -> Res) -> Res -> Res
def Zgg (P : Program) (op : BinOp) (t : TypeId) (F : ZgS) : Prop := ∀ x y k dd out, F x y k dd = some out -> (∃ r, Z57 P op t x y = some r /\ k r = some out) \/ dd = some out
noncomputable def cmpF (c : Nat -> Nat -> Bool) : ZgS := fun x y k dd =>
 onNat x (fun kx a => onNat y (fun ky b => iff' (Nat.beq (kix kx) (kix ky)) (iff' (c a b) (k (.bool true)) (k (.bool false))) dd) dd) dd
theorem Z6F {P : Program} {op : BinOp} {t : TypeId} {c : Nat -> Nat -> Bool} (h1 : op ≠ .shl) (h2 : op ≠ .shr) (hc : ∀ k (a b : Nat), Z0w op k (a : Int) (b : Int) = some (.bool (c a b))) : Zgg P op t (cmpF c) := by
 intro x y k dd out h
 unfold cmpF at h
 rcases Z1K x (fun kx a => onNat y (fun ky b => iff' (Nat.beq (kix kx) (kix ky)) (iff' (c a b) (k (.bool true)) (k (.bool false))) dd) dd) dd with ⟨kx, a, rfl, e⟩ | e
 · rw [e] at h
   rcases Z1K y (fun ky b => iff' (Nat.beq (kix kx) (kix ky)) (iff' (c a b) (k (.bool true)) (k (.bool false))) dd) dd with ⟨ky, b, rfl, e'⟩ | e'
   · rw [e', Z1A] at h
     split at h
     · rename_i hk
       have := Z6p hk; subst this
       refine .inl ⟨.bool (c a b), ?_, ?_⟩
       · have := hc kx a b
         cases op <;> first | exact (h1 rfl).elim | exact (h2 rfl).elim | simpa [Z57] using this
       · rw [Z1A] at h; cases hcab : c a b <;> simpa [hcab] using h
     · exact .inr h
   · rw [e'] at h; exact .inr h
 · rw [e] at h; exact .inr h
noncomputable def ZjF (f : Nat -> Nat -> Nat) (g : Nat -> Nat -> Bool) : ZgS := fun x y k dd =>
 onNat x (fun kx a => onNat y (fun ky b => iff' (Nat.beq (kix kx) (kix ky)) (iff' (g a b) (iff' (Nat.ble (f a b) (kmx kx)) (Z1V (f a b) fun s => k (.int kx (.ofNat s))) dd) dd) dd) dd) dd
theorem Z0g {β : Type} (m : Nat) (f : Nat -> β) : Z1V m f = f m := by cases m <;> rfl
theorem ZaC {P : Program} {op : BinOp} {t : TypeId} {f : Nat -> Nat -> Nat} {g : Nat -> Nat -> Bool} (h1 : op ≠ .shl) (h2 : op ≠ .shr)
  (hc : ∀ k (a b : Nat), g a b = true -> Z0w op k (a : Int) (b : Int) = some (.int k (k.wrap (f a b : Nat)))) : Zgg P op t (ZjF f g) := by
 intro x y k dd out h
 unfold ZjF at h
 rcases Z1K x (fun kx a => onNat y (fun ky b => iff' (Nat.beq (kix kx) (kix ky)) (iff' (g a b) (iff' (Nat.ble (f a b) (kmx kx)) (Z1V (f a b) fun s => k (.int kx (.ofNat s))) dd) dd) dd) dd) dd with ⟨kx, a, rfl, e⟩ | e
 · rw [e] at h
   rcases Z1K y (fun ky b => iff' (Nat.beq (kix kx) (kix ky)) (iff' (g a b) (iff' (Nat.ble (f a b) (kmx kx)) (Z1V (f a b) fun s => k (.int kx (.ofNat s))) dd) dd) dd) dd with ⟨ky, b, rfl, e'⟩ | e'
   · rw [e', Z1A] at h
     split at h
     · rename_i hk
       have := Z6p hk; subst this
       rw [Z1A] at h
       split at h
       · rename_i hg
         rw [Z1A] at h
         split at h
         · rename_i hle
           rw [Z0g] at h
           refine .inl ⟨_, ?_, h⟩
           have := hc kx a b hg
           rw [Zbh (Nat.le_of_ble_eq_true hle)] at this
           cases op <;> first | exact (h1 rfl).elim | exact (h2 rfl).elim | simpa [Z57] using this
         · exact .inr h
       · exact .inr h
     · exact .inr h
   · rw [e'] at h; exact .inr h
 · rw [e] at h; exact .inr h
noncomputable def eqF (want : Bool) : ZgS := fun x y k dd =>
 cmpF (fun a b => iff' (Nat.beq a b) want (!want)) x y k (Z3I x (fun s => Z3I y (fun s' => iff' (eqS s s') (k (.bool want)) (k (.bool (!want)))) dd) dd)
theorem ZgI {P : Program} {op : BinOp} {t : TypeId} {want : Bool} (hop : (op = .eql /\ want = true) \/ (op = .neq /\ want = false)) : Zgg P op t (eqF want) := by
 intro x y k dd out h
 have hci : ∀ k (a b : Nat), Z0w op k (a : Int) (b : Int) = some (.bool (iff' (Nat.beq a b) want (!want))) := by
  intro k a b
  have hab : Nat.beq a b = decide ((a : Int) = (b : Int)) := by
   by_cases e : a = b
   · subst e; simp
   · have : ¬ ((a : Int) = b) := by omega
     have h3 : Nat.beq a b = false := by cases hq : Nat.beq a b with | false => rfl | true => exact absurd (Nat.eq_of_beq_eq_true hq) e
     rw [h3]; simp [this]
  rcases hop with ⟨rfl, rfl⟩ | ⟨rfl, rfl⟩
  · simp only [Z0w, Z1A, hab]; by_cases e : (a : Int) = b <;> simp [e]
  · simp only [Z0w, Z1A, hab]; by_cases e : (a : Int) = b <;> simp [e]
 rcases Z6F (P := P) (t := t) (by rcases hop with ⟨rfl, _⟩ | ⟨rfl, _⟩ <;> simp) (by rcases hop with ⟨rfl, _⟩ | ⟨rfl, _⟩ <;> simp) hci x y k _ out h with h1 | h1
 · exact .inl h1
 · rcases Z2L x (fun s => Z3I y (fun s' => iff' (eqS s s') (k (.bool want)) (k (.bool (!want)))) dd) dd with ⟨s, rfl, e⟩ | e
   · rw [e] at h1
     rcases Z2L y (fun s' => iff' (eqS s s') (k (.bool want)) (k (.bool (!want)))) dd with ⟨s', rfl, e'⟩ | e'
     · rw [e', Z1A, ZdP] at h1
       rcases hop with ⟨rfl, rfl⟩ | ⟨rfl, rfl⟩
       · refine .inl ⟨.bool (s == s'), by simp [Z57, Z46], ?_⟩
         cases hs : (s == s') <;> simpa [hs] using h1
       · refine .inl ⟨.bool !(s == s'), by simp [Z57, Z46], ?_⟩
         cases hs : (s == s') <;> simpa [hs] using h1
     · rw [e'] at h1; exact .inr h1
   · rw [e] at h1; exact .inr h1
noncomputable def ZjX (op : BinOp) : Option ZgS :=
 match op with
 | .add => some (ZjF (fun a b => Nat.add a b) (fun _ _ => true))
 | .sub => some (ZjF (fun a b => Nat.sub a b) (fun a b => Nat.ble b a))
 | .mul => some (ZjF (fun a b => Nat.mul a b) (fun _ _ => true))
 | .eql => some (eqF true)
 | .neq => some (eqF false)
 | .lss => some (cmpF fun a b => Nat.blt a b)
 | .leq => some (cmpF fun a b => Nat.ble a b)
 | .gtr => some (cmpF fun a b => Nat.blt b a)
 | .geq => some (cmpF fun a b => Nat.ble b a)
 | _ => none
theorem Zir {P : Program} {op : BinOp} {t : TypeId} {F : ZgS} (h : ZjX op = some F) : Zgg P op t F := by
 unfold ZjX at h
 cases op <;> simp at h <;> subst h
 · exact ZaC (by simp) (by simp) fun k a b _ => by simp only [Z0w]; rfl
 · refine ZaC (by simp) (by simp) fun k a b hg => ?_
   have := Nat.le_of_ble_eq_true hg
   simp only [Z0w]
   have e : ((a : Int) - (b : Int)) = ((Nat.sub a b : Nat) : Int) := by show _ = ((a - b : Nat) : Int); omega
   rw [e]; rfl
 · exact ZaC (by simp) (by simp) fun k a b _ => by simp only [Z0w]; rfl
 · exact ZgI (.inl ⟨rfl, rfl⟩)
 · exact ZgI (.inr ⟨rfl, rfl⟩)
 · refine Z6F (by simp) (by simp) fun k a b => ?_
   simp only [Z0w]; congr 2
   by_cases e : a < b
   · have h2 : Nat.blt a b = true := by simpa [Nat.blt_eq] using e
     rw [h2]; simp [e]
   · have h2 : Nat.blt a b = false := by cases hq : Nat.blt a b with | false => rfl | true => exact absurd (by simpa [Nat.blt_eq] using hq) e
     rw [h2]; simp [e]
 · refine Z6F (by simp) (by simp) fun k a b => ?_
   simp only [Z0w]; congr 2
   by_cases e : a <= b
   · have h2 : Nat.ble a b = true := Nat.ble_eq_true_of_le e
     rw [h2]; simp [e]
   · have h2 : Nat.ble a b = false := by cases hq : Nat.ble a b with | false => rfl | true => exact absurd (Nat.le_of_ble_eq_true hq) e
     rw [h2]; simp [e]
 · refine Z6F (by simp) (by simp) fun k a b => ?_
   simp only [Z0w]; congr 2
   by_cases e : b < a
   · have h2 : Nat.blt b a = true := by simpa [Nat.blt_eq] using e
     rw [h2]; simp [e]
   · have h2 : Nat.blt b a = false := by cases hq : Nat.blt b a with | false => rfl | true => exact absurd (by simpa [Nat.blt_eq] using hq) e
     rw [h2]; simp [e]
 · refine Z6F (by simp) (by simp) fun k a b => ?_
   simp only [Z0w]; congr 2
   by_cases e : b <= a
   · have h2 : Nat.ble b a = true := Nat.ble_eq_true_of_le e
     rw [h2]; simp [e]
   · have h2 : Nat.ble b a = false := by cases hq : Nat.ble b a with | false => rfl | true => exact absurd (Nat.le_of_ble_eq_true hq) e
     rw [h2]; simp [e]
end Go.Abs
end

section
namespace Go.Abs
open Go.RowKit
section some
variable {γ : Type} {v : AV} {out : γ}
theorem Z1m {f : IntKind -> Nat -> Option γ} {dd : Option γ} (h : onNat v f dd = some out) : (∃ k n, v = .int k (Int.ofNat n) /\ f k n = some out) \/ dd = some out := by
 rcases Z1K v f dd with ⟨k, n, rfl, e⟩ | e <;> rw [e] at h
 · exact .inl ⟨k, n, rfl, h⟩
 · exact .inr h
theorem Z1L {f : Bool -> Option γ} {dd : Option γ} (h : Z23 v f dd = some out) : (∃ b, v = .bool b /\ f b = some out) \/ ((∀ b, v ≠ .bool b) /\ dd = some out) := by
 rcases Z37 v f dd with ⟨b, rfl, e⟩ | ⟨e', e⟩ <;> rw [e] at h
 · exact .inl ⟨b, rfl, h⟩
 · exact .inr ⟨e', h⟩
theorem Z1H {f : List UInt8 -> Option γ} {dd : Option γ} (h : Z3I v f dd = some out) : (∃ b, v = .str b /\ f b = some out) \/ dd = some out := by
 rcases Z2L v f dd with ⟨b, rfl, e⟩ | e <;> rw [e] at h
 · exact .inl ⟨b, rfl, h⟩
 · exact .inr h
theorem Z14 {f : Nat -> Nat -> Option γ} {g : List AV -> Option γ} {dd : Option γ} (h : onPtr v f g dd = some out) : (∃ b o, v = .ptr b o /\ f b o = some out) \/ (∃ cs, v = .rp cs /\ g cs = some out) \/ dd = some out := by
 rcases Z6f v f g dd with ⟨b, o, rfl, e⟩ | ⟨cs, rfl, e⟩ | e <;> rw [e] at h
 · exact .inl ⟨b, o, rfl, h⟩
 · exact .inr (.inl ⟨cs, rfl, h⟩)
 · exact .inr (.inr h)
theorem Z0q {f : Nat -> Nat -> Nat -> Nat -> Nat -> Option γ} {g : Nat -> Nat -> List AV -> Option γ} {e dd : Option γ} (h : Z0X v f g e dd = some out) :
  (∃ b o l c z, v = .slice b o l c z /\ f b o l c z = some out) \/ (∃ n z cs, v = .rs n z cs /\ g n z cs = some out) \/ (v = .nslice /\ e = some out) \/ dd = some out := by
 rcases Z8g v f g e dd with ⟨b, o, l, c, z, rfl, e⟩ | ⟨n, z, cs, rfl, e⟩ | ⟨rfl, e⟩ | e <;> rw [e] at h
 · exact .inl ⟨b, o, l, c, z, rfl, h⟩
 · exact .inr (.inl ⟨n, z, cs, rfl, h⟩)
 · exact .inr (.inr (.inl ⟨rfl, h⟩))
 · exact .inr (.inr (.inr h))
theorem Z96 {f : List AV -> Option γ} {dd : Option γ} (h : Z6e v f dd = some out) : (∃ b, v = .tuple b /\ f b = some out) \/ dd = some out := by
 rcases Z8f v f dd with ⟨b, rfl, e⟩ | e <;> rw [e] at h
 · exact .inl ⟨b, rfl, h⟩
 · exact .inr h
theorem Z4V {f : List AV -> Option γ} {dd : Option γ} (h : Zaj v f dd = some out) : (∃ b, v = .agg b /\ f b = some out) \/ ((∀ b, v ≠ .agg b) /\ dd = some out) := by
 rcases Zai v f dd with ⟨b, rfl, e⟩ | ⟨e', e⟩ <;> rw [e] at h
 · exact .inl ⟨b, rfl, h⟩
 · exact .inr ⟨e', h⟩
theorem Zah {f : Fn -> List AV -> List AV -> Option γ} {dd : Option γ} (h : onFunc v f dd = some out) : (∃ fn a b, v = .func fn a b /\ f fn a b = some out) \/ dd = some out := by
 rcases Z98 v f dd with ⟨fn, a, b, rfl, e⟩ | e <;> rw [e] at h
 · exact .inl ⟨fn, a, b, rfl, h⟩
 · exact .inr h
theorem Z0M {o : AObj} {f : Nat -> Nat -> List AV -> TypeId -> Option γ} (h : Z0Y o f none = some out) : ∃ fam sh cs ty, o = ⟨true, fam, sh, .cells cs ty⟩ /\ f fam sh cs ty = some out := by
 rcases Z8h o f none with ⟨a, b, c, d, rfl, e⟩ | e <;> rw [e] at h
 · exact ⟨a, b, c, d, rfl, h⟩
 · cases h
theorem Z4U {o : AObj} {f : Nat -> Nat -> List (AV × AV × Nat) -> Nat -> Option γ} (h : Z97 o f none = some out) : ∃ fam sh cs ty, o = ⟨true, fam, sh, .map cs ty⟩ /\ f fam sh cs ty = some out := by
 rcases Zag o f none with ⟨a, b, c, d, rfl, e⟩ | e <;> rw [e] at h
 · exact ⟨a, b, c, d, rfl, h⟩
 · cases h
theorem Z03 {b : Bool} {x : Option γ} (h : iff' b x none = some out) : b = true /\ x = some out := by
 cases b
 · cases h
 · exact ⟨rfl, h⟩
theorem Z3b {α : Type} {l : List α} {n : Nat} {f : α -> Option γ} (h : ZgD l n f none = some out) : ∃ v, l[n]? = some v /\ f v = some out := by
 rcases Z7G l n f none with ⟨v, h1, e⟩ | e <;> rw [e] at h
 · exact ⟨v, h1, h⟩
 · cases h
theorem Z4f {n : Nat} {l : List AV} {f : List AV -> Option γ} (h : tkR n l f none = some out) : ∃ r, tk n l = some r /\ f r = some out := by
 rcases Z8V n l f none with ⟨v, h1, e⟩ | e <;> rw [e] at h
 · exact ⟨v, h1, h⟩
 · cases h
theorem Z61 {l : List AV} {n : Nat} {vs : List AV} {f : List AV -> Option γ} (h : ZiI l n vs f none = some out) : ∃ r, spl l n vs = some r /\ f r = some out := by
 rcases Z4O l n vs f none with ⟨v, h1, e⟩ | e <;> rw [e] at h
 · exact ⟨v, h1, h⟩
 · cases h
end some
theorem ZcL {l : List AV} {n : Nat} {v : AV} (h : l[n]? = some v) : tk 1 (l.drop n) = some [v] := by
 obtain ⟨hn, rfl⟩ := List.getElem?_eq_some_iff.1 h
 rw [List.drop_eq_getElem_cons hn]; simp [tk]
noncomputable def Zka {β : Type} (T : TH) (f : Nat -> BT AObj 12 -> β) : β := TH.rec f T
noncomputable def Zj1 (T : TH) (b : Nat) (o : AObj) (f : TH -> Res) : Res := Zka T fun sz tr => Z3j 12 b o tr fun tr' => f ⟨sz, tr'⟩
theorem Z8e (T : TH) (b : Nat) (o : AObj) (f : TH -> Res) : Zj1 T b o f = f (T.set b o) := by
 obtain ⟨sz, tr⟩ := T
 show Z3j 12 b o tr (fun tr' => f ⟨sz, tr'⟩) = _
 rw [Z2y]; rfl
noncomputable def Zl2 (T : TH) (bd : ABody) (f : Nat -> TH -> Res) : Res :=
 Zka T fun sz tr => iff' (Nat.blt sz 4096) (Z3j 12 sz ⟨true, sz, 0, bd⟩ tr fun tr' => Z1V (Nat.add sz 1) fun s => f sz ⟨s, tr'⟩) none
theorem Z6i {T : TH} {bd : ABody} {f : Nat -> TH -> Res} {out : AV × TH} (h : Zl2 T bd f = some out) : T.sz < 4096 /\ f T.sz (T.push ⟨true, T.sz, 0, bd⟩) = some out := by
 obtain ⟨sz, tr⟩ := T
 obtain ⟨h1, h2⟩ := Z03 (show iff' (Nat.blt sz 4096) (Z3j 12 sz ⟨true, sz, 0, bd⟩ tr fun tr' => Z1V (Nat.add sz 1) fun s => f sz ⟨s, tr'⟩) none = some out from h)
 rw [Z2y, Z0g] at h2
 exact ⟨by simpa [Nat.blt_eq] using h1, h2⟩
section ops
variable {P : Program} {gl : Glob} {d n : Nat} {o : Oper}
noncomputable def ZjN (g : Tre AV d -> AV) : OpF d := fun _ E T k => frc1 (g E) fun v => k v T
theorem Zdi {x : Operand} {g : Tre AV d -> AV} (ho : o.op = .move x \/ o.op = .assign x) (hg : Z0r gl d n x = some g) : Z0Z P gl d n o (ZjN g) := by
 intro forc orc E T k out H hO hR h
 simp only [ZjN, Z0h] at h
 refine ⟨g E, T, H, Z08 (by rcases ho with e | e <;> simp [kind, e]) ?_, hR, h⟩
 rcases ho with e | e <;> simp [Z02, Z0f, e, Z04 hg]
noncomputable def Zhk (gc ga gb : Tre AV d -> AV) : OpF d := fun _ E T k => Z23 (gc E) (fun b => iff' b (frc1 (ga E) fun v => k v T) (frc1 (gb E) fun v => k v T)) none
theorem Zfj {c a b : Operand} {gc ga gb : Tre AV d -> AV} (ho : o.op = .pick c a b) (hc : Z0r gl d n c = some gc) (ha : Z0r gl d n a = some ga) (hb : Z0r gl d n b = some gb) : Z0Z P gl d n o (Zhk gc ga gb) := by
 intro forc orc E T k out H hO hR h
 simp only [Zhk, Z0h] at h
 rcases Z1L h with ⟨w, e, h⟩ | ⟨_, h⟩ <;> try (cases h; done)
 cases w with
 | true => exact ⟨ga E, T, H, Z08 (by simp [kind, ho]) (by simp [Z02, Z0f, ho, Z04 hc, Z04 ha, e]), hR, h⟩
 | false => exact ⟨gb E, T, H, Z08 (by simp [kind, ho]) (by simp [Z02, Z0f, ho, Z04 hc, Z04 hb, e]), hR, h⟩
noncomputable def Zlh (F : ZgS) (gx gy : Tre AV d -> AV) (s : OpF d) : OpF d := fun forc E T k => F (gx E) (gy E) (fun r => k r T) (s forc E T k)
theorem Zio {op : BinOp} {t t2 : TypeId} {x y : Operand} {F : ZgS} {gx gy : Tre AV d -> AV} {s : OpF d} (ho : o.op = .binOp op t x y t2) (hF : ZjX op = some F) (hx : Z0r gl d n x = some gx) (hy : Z0r gl d n y = some gy)
  (hs : Z0Z P gl d n o s) : Z0Z P gl d n o (Zlh F gx gy s) := by
 intro forc orc E T k out H hO hR h
 rcases Zir (P := P) (t := t) hF _ _ _ _ _ h with ⟨r, h1, h2⟩ | h
 · exact ⟨r, T, H, Z08 (by simp [kind, ho]) (by simp [Z02, ho, Z04 hx, Z04 hy, Zgc h1]), hR, h2⟩
 · exact hs forc orc E T k out H hO hR h
noncomputable def ZkZ (g : Tre AV d -> AV) : OpF d := fun _ E T k => Z23 (g E) (fun b => iff' b (k (.bool false) T) (k (.bool true) T)) none
theorem Zhq {t : TypeId} {x : Operand} {g : Tre AV d -> AV} (ho : o.op = .unOp .not t x) (hg : Z0r gl d n x = some g) : Z0Z P gl d n o (ZkZ g) := by
 intro forc orc E T k out H hO hR h
 rcases Z1L h with ⟨w, e, h⟩ | ⟨_, h⟩ <;> try (cases h; done)
 refine ⟨.bool !w, T, H, Z08 (by simp [kind, ho]) (by simp [Z02, Z0f, ho, Z04 hg, e, aUn]), hR, ?_⟩
 cases w <;> exact h
noncomputable def Zgu (g : Tre AV d -> AV) : OpF d := fun _ E T k =>
 onPtr (g E) (fun b off => Z0Y (T.get b) (fun _ _ cs _ => ZgD cs off (fun v => k v T) none) none) (fun cs => ZgD cs 0 (fun v => k v T) none) none
theorem Zdr {t : TypeId} {x : Operand} {g : Tre AV d -> AV} (ho : o.op = .load t x) (ht : Z3L P t = some false) (hg : Z0r gl d n x = some g) : Z0Z P gl d n o (Zgu g) := by
 intro forc orc E T k out H hO hR h
 rcases Z14 h with ⟨b, off, e, h⟩ | ⟨cs, e, h⟩ | h <;> try (cases h; done)
 · obtain ⟨fam, sh, cs, ty, e2, h⟩ := Z0M h
   obtain ⟨v, h1, h2⟩ := Z3b h
   have hH := hR.obj b (by rw [e2])
   rw [e2] at hH
   exact ⟨v, T, H, Z08 (by simp [kind, ho]) (by simp [Z02, Z0f, ho, Z04 hg, e, Z55, ht, rd, hH, ZcL h1]), hR, h2⟩
 · obtain ⟨v, h1, h2⟩ := Z3b h
   have := ZcL h1
   exact ⟨v, T, H, Z08 (by simp [kind, ho]) (by simp [Z02, Z0f, ho, Z04 hg, e, Z55, ht, rd, show tk 1 cs = some [v] by simpa using this]), hR, h2⟩
noncomputable def Zgt (m : Nat) (g : Tre AV d -> AV) : OpF d := fun _ E T k =>
 onPtr (g E) (fun b off => Z0Y (T.get b) (fun _ _ cs _ => tkR m (Z74 cs off) (fun l => k (.agg l) T) none) none) (fun cs => tkR m cs (fun l => k (.agg l) T) none) none
theorem Zdq {t : TypeId} {x : Operand} {m : Nat} {g : Tre AV d -> AV} (ho : o.op = .load t x) (ht : Z3L P t = some true) (hm : tsz P t = some m) (hg : Z0r gl d n x = some g) : Z0Z P gl d n o (Zgt m g) := by
 intro forc orc E T k out H hO hR h
 rcases Z14 h with ⟨b, off, e, h⟩ | ⟨cs, e, h⟩ | h <;> try (cases h; done)
 · obtain ⟨fam, sh, cs, ty, e2, h⟩ := Z0M h
   obtain ⟨v, h1, h2⟩ := Z4f h
   have hH := hR.obj b (by rw [e2])
   rw [e2] at hH
   rw [Z1v] at h1
   exact ⟨.agg v, T, H, Z08 (by simp [kind, ho]) (by simp [Z02, Z0f, ho, Z04 hg, e, Z55, ht, hm, rd, hH, h1]), hR, h2⟩
 · obtain ⟨v, h1, h2⟩ := Z4f h
   exact ⟨.agg v, T, H, Z08 (by simp [kind, ho]) (by simp [Z02, Z0f, ho, Z04 hg, e, Z55, ht, hm, rd, h1]), hR, h2⟩
noncomputable def Zl9 (c : Nat) (g : Tre AV d -> AV) : OpF d := fun _ E T k => onPtr (g E) (fun b off => Z1V (Nat.add off c) fun w => k (.ptr b w) T) (fun cs => k (.rp (Z74 cs c)) T) none
theorem ZhX {s : TypeId} {x : Operand} {f m : Nat} {fd : Field} {g : Tre AV d -> AV} (ho : o.op = .fieldAddr s x f) (hf : Z3W P s f = some fd) (hz : tsz P fd.type = some (m + 1)) (hg : Z0r gl d n x = some g) : Z0Z P gl d n o (Zl9 fd.offset g) := by
 intro forc orc E T k out H hO hR h
 rcases Z14 h with ⟨b, off, e, h⟩ | ⟨cs, e, h⟩ | h <;> try (cases h; done)
 · rw [Z0g] at h
   exact ⟨_, T, H, Z08 (by simp [kind, ho]) (by simp only [Z02, Z0f, ho, Z04 hg, e, Z2E, hf, hz]; rfl), hR, h⟩
 · rw [Z1v] at h
   exact ⟨_, T, H, Z08 (by simp [kind, ho]) (by simp only [Z02, Z0f, ho, Z04 hg, e, Z2E, hf, hz]), hR, h⟩
noncomputable def Zl5 (z : Nat) (gx gi : Tre AV d -> AV) : OpF d := fun _ E T k =>
 onNat (gi E) (fun _ i => Z0X (gx E) (fun b off len _ z' => iff' (Nat.blt i len) (iff' (Nat.beq z' z) (Z1V (Nat.add off (Nat.mul i z)) fun w => k (.ptr b w) T) none) none)
  (fun m z' cs => iff' (Nat.blt i m) (iff' (Nat.beq z' z) (k (.rp (Z74 cs (Nat.mul i z))) T) none) none) none none) none
theorem ZhH {t e : TypeId} {x i : Operand} {z : Nat} {gx gi : Tre AV d -> AV} (ho : o.op = .indexAddr t x i) (ht : P.underlying t = some (.slice e)) (hz : tsz P e = some z) (hx : Z0r gl d n x = some gx) (hi : Z0r gl d n i = some gi) : Z0Z P gl d n o (Zl5 z gx gi) := by
 intro forc orc E T k out H hO hR h
 rcases Z1m h with ⟨kk, m, e1, h⟩ | h <;> try (cases h; done)
 rcases Z0q h with ⟨b, off, l, c, z', e2, h⟩ | ⟨l, z', cs, e2, h⟩ | ⟨_, h⟩ | h <;> try (cases h; done)
 · obtain ⟨h1, h⟩ := Z03 h
   obtain ⟨h2, h⟩ := Z03 h
   have h1' : m < l := by simpa [Nat.blt_eq] using h1
   have h2' := Nat.eq_of_beq_eq_true h2
   subst h2'
   rw [Z0g] at h
   refine ⟨_, T, H, Z08 (by simp [kind, ho]) ?_, hR, h⟩
   have hc : (0 : Int) <= Int.ofNat m /\ Int.ofNat m < (l : Int) := ⟨Int.natCast_nonneg m, by show (m : Int) < l; omega⟩
   simp only [Z02, Z0f, ho, Z04 hx, Z04 hi, e1, e2, Z1r, ht, hz, if_pos hc, if_true]
   rfl
 · obtain ⟨h1, h⟩ := Z03 h
   obtain ⟨h2, h⟩ := Z03 h
   have h1' : m < l := by simpa [Nat.blt_eq] using h1
   have h2' := Nat.eq_of_beq_eq_true h2
   subst h2'
   rw [Z1v] at h
   refine ⟨_, T, H, Z08 (by simp [kind, ho]) ?_, hR, h⟩
   have hc : (0 : Int) <= Int.ofNat m /\ Int.ofNat m < (l : Int) := ⟨Int.natCast_nonneg m, by show (m : Int) < l; omega⟩
   simp only [Z02, Z0f, ho, Z04 hx, Z04 hi, e1, e2, Z1r, ht, hz, if_pos hc, if_true]
   rfl
noncomputable def Zl4 (gx gi : Tre AV d -> AV) : OpF d := fun _ E T k =>
 onNat (gi E) (fun _ i => Z3I (gx E) (fun s => ZgD s i (fun c => Z1V (UInt8.toNat c) fun w => k (.int .u8 (.ofNat w)) T) none) none) none
theorem ZhG {t : TypeId} {x i : Operand} {gx gi : Tre AV d -> AV} (ho : o.op = .index t x i) (ht : P.underlying t = some .string) (hx : Z0r gl d n x = some gx) (hi : Z0r gl d n i = some gi) : Z0Z P gl d n o (Zl4 gx gi) := by
 intro forc orc E T k out H hO hR h
 rcases Z1m h with ⟨kk, m, e1, h⟩ | h <;> try (cases h; done)
 rcases Z1H h with ⟨s, e2, h⟩ | h <;> try (cases h; done)
 obtain ⟨c, h1, h⟩ := Z3b h
 rw [Z0g] at h
 refine ⟨_, T, H, Z08 (by simp [kind, ho]) ?_, hR, h⟩
 have hc : (0 : Int) <= Int.ofNat m := Int.natCast_nonneg m
 have ht' : (Int.ofNat m).toNat = m := rfl
 simp only [Z02, Z0f, ho, Z04 hx, Z04 hi, e1, e2, Z7V, ht, if_pos hc, ht', h1]
 rfl
noncomputable def Zla (i : Nat) (g : Tre AV d -> AV) : OpF d := fun _ E T k => Z6e (g E) (fun vs => ZgD vs i (fun v => k v T) none) none
theorem ZhY {x : Operand} {i : Nat} {g : Tre AV d -> AV} (ho : o.op = .extract x i) (hg : Z0r gl d n x = some g) : Z0Z P gl d n o (Zla i g) := by
 intro forc orc E T k out H hO hR h
 rcases Z96 h with ⟨vs, e, h⟩ | h <;> try (cases h; done)
 obtain ⟨v, h1, h2⟩ := Z3b h
 exact ⟨v, T, H, Z08 (by simp [kind, ho]) (by simp [Z02, Z0f, ho, Z04 hg, e, Z5S, h1]), hR, h2⟩
noncomputable def Zl1 (g : Tre AV d -> AV) (s : OpF d) : OpF d := fun forc E T k => onPtr (g E) (fun b off => k (.ptr b off) T) (fun cs => k (.rp cs) T) (s forc E T k)
theorem Zhu {x : Operand} {g : Tre AV d -> AV} {s : OpF d} (ho : o.op = .nilCheck x) (hg : Z0r gl d n x = some g) (hs : Z0Z P gl d n o s) : Z0Z P gl d n o (Zl1 g s) := by
 intro forc orc E T k out H hO hR h
 rcases Z14 h with ⟨b, off, e, h⟩ | ⟨cs, e, h⟩ | h
 · exact ⟨_, T, H, Z08 (by simp [kind, ho]) (by simp [Z02, Z0f, ho, Z04 hg, e, Zgb]), hR, h⟩
 · exact ⟨_, T, H, Z08 (by simp [kind, ho]) (by simp [Z02, Z0f, ho, Z04 hg, e, Zgb]), hR, h⟩
 · exact hs forc orc E T k out H hO hR h
noncomputable def Zjc (g : Tre AV d -> AV) : OpF d := fun _ E T k => Z3I (g E) (fun s => Z1V (ZfD s) fun m => k (.int .i64 (.ofNat m)) T) none
noncomputable def Zl3 (g : Tre AV d -> AV) : OpF d := fun _ E T k => Z0X (g E) (fun _ _ l _ _ => k (.int .i64 (.ofNat l)) T) (fun m _ _ => k (.int .i64 (.ofNat m)) T) (k (.int .i64 (.ofNat 0)) T) none
noncomputable def ZhB (g : Tre AV d -> AV) : OpF d := fun _ E T k => frc1 (g E) fun v => match v with
 | .nmap => k (.int .i64 (.ofNat 0)) T
 | .map b => Z97 (T.get b) (fun _ _ es _ => Z1V (ZfD es) fun m => k (.int .i64 (.ofNat m)) T) none
 | _ => none
theorem Z5J {c : Call} (ho : o.op = .call c) (hc : c.callee = .builtin .len) : kind o = 1 := by simp [kind, ho, hc]
theorem ZfC {c : Call} {x : Operand} {t : TypeId} {ts : List TypeId} {g : Tre AV d -> AV} (ho : o.op = .call c) (hc : c.callee = .builtin .len) (ha : c.args.toList = [x]) (ht : c.argTypes.toList = t :: ts) (hu : P.underlying t = some .string)
  (hg : Z0r gl d n x = some g) : Z0Z P gl d n o (Zjc g) := by
 intro forc orc E T k out H hO hR h
 rcases Z1H h with ⟨s, e, h⟩ | h <;> try (cases h; done)
 rw [Z0g, Z2M] at h
 exact ⟨_, T, H, Z08 (by rw [Z5J ho hc]; omega) (by simp only [Z02, Z0f, ho, hc, ha, ht, Z04 hg, e, ZiC, hu]; rfl), hR, h⟩
theorem ZhC {c : Call} {x : Operand} {t el : TypeId} {ts : List TypeId} {g : Tre AV d -> AV} (ho : o.op = .call c) (hc : c.callee = .builtin .len) (ha : c.args.toList = [x]) (ht : c.argTypes.toList = t :: ts) (hu : P.underlying t = some (.slice el))
  (hg : Z0r gl d n x = some g) : Z0Z P gl d n o (Zl3 g) := by
 intro forc orc E T k out H hO hR h
 rcases Z0q h with ⟨b, off, l, c', z', e, h⟩ | ⟨l, z', cs, e, h⟩ | ⟨e, h⟩ | h <;> try (cases h; done)
 all_goals exact ⟨_, T, H, Z08 (by rw [Z5J ho hc]; omega) (by simp only [Z02, Z0f, ho, hc, ha, ht, Z04 hg, e, ZiC, hu]; rfl), hR, h⟩
theorem ZfE {c : Call} {x : Operand} {t kt el : TypeId} {ts : List TypeId} {g : Tre AV d -> AV} (ho : o.op = .call c) (hc : c.callee = .builtin .len) (ha : c.args.toList = [x]) (ht : c.argTypes.toList = t :: ts) (hu : P.underlying t = some (.map kt el))
  (hg : Z0r gl d n x = some g) : Z0Z P gl d n o (ZhB g) := by
 intro forc orc E T k out H hO hR h
 simp only [ZhB, Z0h] at h
 split at h <;> try (cases h; done)
 · rename_i e
   exact ⟨_, T, H, Z08 (by rw [Z5J ho hc]; omega) (by simp only [Z02, Z0f, ho, hc, ha, ht, Z04 hg, e, ZiC, hu]; rfl), hR, h⟩
 · rename_i b e
   obtain ⟨fam, sh, es, cl, e2, h⟩ := Z4U h
   have hH := hR.obj b (by rw [e2])
   rw [e2] at hH
   rw [Z0g, Z2M] at h
   exact ⟨_, T, H, Z08 (by rw [Z5J ho hc]; omega) (by simp only [Z02, Z0f, ho, hc, ha, ht, Z04 hg, e, ZiC, hu, Z7A, hH]; rfl), hR, h⟩
noncomputable def Zft (mk : Nat -> AV) (bd : ABody) (k : Knt) (T : TH) : Res := Zl2 T bd fun sz T' => frc1 (mk sz) fun v => k v T'
noncomputable def ZhT {β : Type} (b : ABody) (f : ABody -> β) : β := match b with
 | .cells cs ty => Z5j cs fun cs => f (.cells cs ty)
 | b => f b
theorem ZfN {β : Type} (b : ABody) (f : ABody -> β) : ZhT b f = f b := by cases b <;> simp [ZhT, Z1P]
noncomputable def Zh8 (P : Program) (gl : Glob) (d n : Nat) (o : Oper) : OpF d := fun _ E T k => match Z0p P (Z3G gl d n E) o with | some (mk, bd) => ZhT bd fun bd => Zft mk bd k T | none => none
theorem Z6j {E : Tre AV d} {orc : Orc} {T : TH} {k : Knt} {out : AV × TH} {H : Z00} {mk : Nat -> AV} {bd : ABody} (hk : kind o = 2) (ha : Z0p P (Z3G gl d n E) o = some (mk, bd)) (hR : Rep T H) (h : Zft mk bd k T = some out) :
  ∃ r T' H', aop P orc (Z3G gl d n E) o H = some (r, H') /\ Rep T' H' /\ k r T' = some out := by
 obtain ⟨h1, h2⟩ := Z6i h
 rw [Z0h] at h2
 refine ⟨mk H.length, _, _, ZeG hk ha, hR.push h1 bd, ?_⟩
 rw [<- hR.sz]; exact h2
theorem Zfc (hk : kind o = 2) : Z0Z P gl d n o (Zh8 P gl d n o) := by
 intro forc orc E T k out H hO hR h
 unfold Zh8 at h
 split at h <;> try (simp at h; done)
 rename_i mk bd ha
 rw [ZfN] at h
 exact Z6j hk ha hR h
noncomputable def Zlk (bd : ABody) : OpF d := fun _ E T k => Zft (fun m => .ptr m 0) bd k T
theorem Ziv {e : TypeId} {z : AV} (ho : o.op = .alloc e) (hz : Z1C P e = some z) : Z0Z P gl d n o (Zlk (.cells z.cells e)) := by
 intro forc orc E T k out H hO hR h
 exact Z6j (by simp [kind, ho]) (by simp [Z0p, ho, hz]) hR h
noncomputable def ZkF (e : TypeId) (g : Tre AV d -> AV) : OpF d := fun _ E T k => frc1 (g E) fun v => Zaj v (fun cs => Zft (fun m => .ptr m 0) (.cells cs e) k T) (Zft (fun m => .ptr m 0) (.cells [v] e) k T)
theorem Z6G {v : AV} (h : ∀ b, v ≠ .agg b) : v.cells = [v] := by cases v <;> first | rfl | exact (h _ rfl).elim
theorem Zin {e : TypeId} {x : Operand} {g : Tre AV d -> AV} (ho : o.op = .box e x) (hg : Z0r gl d n x = some g) : Z0Z P gl d n o (ZkF e g) := by
 intro forc orc E T k out H hO hR h
 simp only [ZkF, Z0h] at h
 rcases Z4V h with ⟨cs, e1, h⟩ | ⟨hne, h⟩
 · exact Z6j (by simp [kind, ho]) (by simp [Z0p, ho, Z04 hg, e1, AV.cells]) hR h
 · exact Z6j (by simp [kind, ho]) (by simp [Z0p, ho, Z04 hg, Z6G hne]) hR h
noncomputable def Z9x (gl : Glob) (d n : Nat) (place : Nat -> Option (Nat × Nat)) : List (Nat × Operand) -> Option (Tre AV d -> List AV -> (List AV -> Res) -> Res)
 | [] => some fun _ cs f => f cs
 | (i, x) :: l => match place i, Z0r gl d n x, Z9x gl d n place l with
  | some (off, sz), some g, some G => Z0D off fun off => Z0D sz fun sz => some fun E cs f => frc1 (g E) fun v =>
   Zaj v (fun vs => iff' (Nat.beq (ZfD vs) sz) (ZiI cs off vs (fun cs' => G E cs' f) none) none) (iff' (Nat.beq 1 sz) (ZiI cs off [v] (fun cs' => G E cs' f) none) none)
  | _, _, _ => none
theorem Z5N {place : Nat -> Option (Nat × Nat)} : ∀ (l : List (Nat × Operand)) (G : Tre AV d -> List AV -> (List AV -> Res) -> Res), Z9x gl d n place l = some G -> ∀ E cs f out, G E cs f = some out ->
  ∃ us cs', Z2z (Z3G gl d n E) l = some us /\ Z45 place cs us = some cs' /\ f cs' = some out
 | [], G, h, E, cs, f, out, he => by simp [Z9x] at h; subst h; exact ⟨[], cs, rfl, rfl, he⟩
 | (i, x) :: l, G, h, E, cs, f, out, he => by
  simp only [Z9x] at h
  split at h <;> try (simp at h; done)
  rename_i off sz g G' hp hg hG
  rw [Z0G, Z0G] at h
  simp at h; subst h
  simp only [Z0h] at he
  rcases Z4V he with ⟨vs, e, he2⟩ | ⟨hne, he2⟩
  · obtain ⟨h1, he3⟩ := Z03 he2
    have h1' := Nat.eq_of_beq_eq_true h1
    rw [Z2M] at h1'
    obtain ⟨cs1, h2, he4⟩ := Z61 he3
    obtain ⟨us, cs', k1, k2, k3⟩ := Z5N l G' hG E cs1 f out he4
    exact ⟨(i, .agg vs) :: us, cs', by simp [Z2z, Z04 hg, e, k1], by simp [Z45, hp, AV.cells, h1', h2, k2], k3⟩
  · obtain ⟨h1, he3⟩ := Z03 he2
    have h1' := Nat.eq_of_beq_eq_true h1
    obtain ⟨cs1, h2, he4⟩ := Z61 he3
    obtain ⟨us, cs', k1, k2, k3⟩ := Z5N l G' hG E cs1 f out he4
    exact ⟨(i, g E) :: us, cs', by simp [Z2z, Z04 hg, k1], by simp [Z45, hp, Z6G hne, <- h1', h2, k2], k3⟩
noncomputable def Zli (zs : List AV) (G : Tre AV d -> List AV -> (List AV -> Res) -> Res) : OpF d := fun _ E T k => G E zs fun cs => k (.agg cs) T
theorem Zip {t : TypeId} {ps : Array (Nat × Operand)} {z : AV} {fs : Array Field} {G : Tre AV d -> List AV -> (List AV -> Res) -> Res} (ho : o.op = .build t ps) (hz : Z1C P t = some z) (hu : P.underlying t = some (.struct fs)) (ha : Z5P P t = true)
  (hG : Z9x gl d n (Z9k P t) ps.toList = some G) : Z0Z P gl d n o (Zli z.cells G) := by
 intro forc orc E T k out H hO hR h
 obtain ⟨us, cs', h1, h2, h3⟩ := Z5N _ _ hG E _ _ _ h
 exact ⟨.agg cs', T, H, Z08 (by simp [kind, ho]) (by simp [Z02, Z0f, ho, h1, ZbK, hz, hu, ha, h2]), hR, h3⟩
noncomputable def Zlg (len : Nat) (zs : List AV) (e : TypeId) (z : Nat) (G : Tre AV d -> List AV -> (List AV -> Res) -> Res) : OpF d := fun _ E T k => G E zs fun cs => Zft (fun m => .slice m 0 len len z) (.cells cs e) k T
theorem ZaA {t : TypeId} {len : Nat} {zs cs : List AV} {e : TypeId} {z : Nat} {us : List (Nat × AV)} (h : Z4C P t len [] = some (zs, e, z)) (hf : Z45 (fun i => some (i * z, z)) zs us = some cs) : Z4C P t len us = some (cs, e, z) := by
 unfold Z4C at h ⊢
 split at h <;> try (simp at h; done)
 rename_i e' hu
 split at h <;> try (simp at h; done)
 rename_i z' hz
 split at h <;> try (simp at h; done)
 rename_i hle
 split at h <;> try (simp at h; done)
 rename_i zs' hzs
 simp only [Z45, Option.some.injEq, Prod.mk.injEq] at h
 obtain ⟨rfl, rfl, rfl⟩ := h
 simp only [hu, hz, if_pos hle, hzs, hf]
theorem Zim {t : TypeId} {len : Nat} {ps : Array (Nat × Operand)} {zs : List AV} {e : TypeId} {z : Nat} {G : Tre AV d -> List AV -> (List AV -> Res) -> Res} (ho : o.op = .buildSlice t len ps) (hz : Z4C P t len [] = some (zs, e, z))
  (hG : Z9x gl d n (fun i => some (i * z, z)) ps.toList = some G) : Z0Z P gl d n o (Zlg len zs e z G) := by
 intro forc orc E T k out H hO hR h
 obtain ⟨us, cs', h1, h2, h3⟩ := Z5N _ _ hG E _ _ _ h
 exact Z6j (by simp [kind, ho]) (by simp [Z0p, ho, h1, ZaA hz h2]) hR h3
noncomputable def Zg4 (gl : Glob) (d n : Nat) : Option Operand -> Option (Tre AV d -> Nat -> (Nat -> Res) -> Res)
 | none => some fun _ m f => f m
 | some x => match Z0r gl d n x with | some g => some fun E _ f => onNat (g E) (fun _ i => f i) none | none => none
theorem Z3i {b : Option Operand} {B : Tre AV d -> Nat -> (Nat -> Res) -> Res} (h : Zg4 gl d n b = some B) {E : Tre AV d} {m top : Nat} {f : Nat -> Res} {out : AV × TH} (hm : m <= top) (he : B E m (fun i => iff' (Nat.ble i top) (f i) none) = some out) :
  ∃ ob i, Z54 (Z3G gl d n E) b = some ob /\ bnd ob m top = some i /\ f i = some out := by
 cases b with
 | none =>
  simp [Zg4] at h; subst h
  obtain ⟨_, h2⟩ := Z03 he
  exact ⟨none, m, rfl, rfl, h2⟩
 | some x =>
  simp only [Zg4] at h
  split at h <;> simp at h
  rename_i g hg
  subst h
  rcases Z1m he with ⟨kk, i, e, he2⟩ | he2 <;> try (cases he2; done)
  obtain ⟨h1, h2⟩ := Z03 he2
  have h1' : i <= top := Nat.le_of_ble_eq_true h1
  refine ⟨some (g E), i, by simp [Z54, Z04 hg], ?_, h2⟩
  have hc : (0 : Int) <= Int.ofNat i /\ Int.ofNat i <= (top : Int) := ⟨Int.natCast_nonneg i, by show (i : Int) <= top; omega⟩
  simp only [bnd, e, if_pos hc]; rfl
noncomputable def ZkT (gx : Tre AV d -> AV) (lo hi : Tre AV d -> Nat -> (Nat -> Res) -> Res) : OpF d := fun _ E T k => Z3I (gx E) (fun s => Z0D (ZfD s) fun m => hi E m fun h => iff' (Nat.ble h m) (lo E 0 fun l => iff' (Nat.ble l h) (Zh0 (Z74 s l) (Nat.sub h l) fun r => k (.str r) T) none) none) none
theorem Zh7 {t : TypeId} {x : Operand} {lo hi : Option Operand} {gx : Tre AV d -> AV} {L R : Tre AV d -> Nat -> (Nat -> Res) -> Res} (ho : o.op = .slice t x lo hi none) (ht : P.underlying t = some .string) (hx : Z0r gl d n x = some gx) (hL : Zg4 gl d n lo = some L) (hH : Zg4 gl d n hi = some R) :
  Z0Z P gl d n o (ZkT gx L R) := by
 intro forc orc E T k out H hO hR h
 rcases Z1H h with ⟨s, e, h⟩ | h <;> try (cases h; done)
 rw [Z0G, Z2M] at h
 obtain ⟨oh, i, a1, a2, h⟩ := Z3i hH (Nat.le_refl _) h
 obtain ⟨ol, l, b1, b2, h⟩ := Z3i hL (Nat.zero_le _) h
 rw [Z83, Z1v] at h
 exact ⟨_, T, H, Z08 (by simp [kind, ho]) (by simp only [Z02, Z0f, ho, Z04 hx, a1, b1, e, Z3P, ht, a2, b2]; rfl), hR, h⟩
noncomputable def ZkU (z : Nat) (gx : Tre AV d -> AV) (lo hi : Tre AV d -> Nat -> (Nat -> Res) -> Res) : OpF d := fun _ E T k => Z0X (gx E)
 (fun b off len cap z' => iff' (Nat.ble len cap) (iff' (Nat.beq z z') (hi E len fun h => iff' (Nat.ble h cap) (lo E 0 fun l => iff' (Nat.ble l h) (Z0D (Nat.add off (Nat.mul l z')) fun o' => Z0D (Nat.sub h l) fun n' => Z0D (Nat.sub cap l) fun c' => k (.slice b o' n' c' z') T) none) none) none) none)
 (fun m z' cs => iff' (Nat.beq z z') (hi E m fun h => iff' (Nat.ble h m) (lo E 0 fun l => iff' (Nat.ble l h) (Z0D (Nat.sub h l) fun n' => Zh0 (Z74 cs (Nat.mul l z')) (Nat.mul n' z') fun r => k (.rs n' z' r) T) none) none) none)
 (hi E 0 fun h => iff' (Nat.ble h 0) (lo E 0 fun l => iff' (Nat.ble l h) (k .nslice T) none) none) none
theorem Zh9 {t e : TypeId} {x : Operand} {z : Nat} {lo hi : Option Operand} {gx : Tre AV d -> AV} {L R : Tre AV d -> Nat -> (Nat -> Res) -> Res} (ho : o.op = .slice t x lo hi none) (ht : P.underlying t = some (.slice e)) (hz : tsz P e = some z) (hx : Z0r gl d n x = some gx)
  (hL : Zg4 gl d n lo = some L) (hH : Zg4 gl d n hi = some R) : Z0Z P gl d n o (ZkU z gx L R) := by
 intro forc orc E T k out H hO hR h
 rcases Z0q h with ⟨b, off, len, cap, z', e1, h1⟩ | ⟨m, z', cs, e1, h1⟩ | ⟨e1, h1⟩ | h1 <;> try (cases h1; done)
 · obtain ⟨g1, h1⟩ := Z03 h1
   obtain ⟨g2, h2⟩ := Z03 h1
   have g2' := Nat.eq_of_beq_eq_true g2
   obtain ⟨oh, i, a1, a2, h3⟩ := Z3i hH (Nat.le_of_ble_eq_true g1) h2
   obtain ⟨ol, l, b1, b2, h4⟩ := Z3i hL (Nat.zero_le _) h3
   simp only [Z0G] at h4
   exact ⟨_, T, H, Z08 (by simp [kind, ho]) (by simp only [Z02, Z0f, ho, Z04 hx, a1, b1, e1, Z3P, ht, hz, if_pos g2', a2, b2]; rfl), hR, h4⟩
 · obtain ⟨g2, h2⟩ := Z03 h1
   have g2' := Nat.eq_of_beq_eq_true g2
   obtain ⟨oh, i, a1, a2, h3⟩ := Z3i hH (Nat.le_refl _) h2
   obtain ⟨ol, l, b1, b2, h4⟩ := Z3i hL (Nat.zero_le _) h3
   simp only [Z0G] at h4
   rw [Z83, Z1v] at h4
   exact ⟨_, T, H, Z08 (by simp [kind, ho]) (by simp only [Z02, Z0f, ho, Z04 hx, a1, b1, e1, Z3P, ht, hz, if_pos g2', a2, b2]; rfl), hR, h4⟩
 · obtain ⟨oh, i, a1, a2, h3⟩ := Z3i hH (Nat.le_refl _) h1
   obtain ⟨ol, l, b1, b2, h4⟩ := Z3i hL (Nat.zero_le _) h3
   exact ⟨_, T, H, Z08 (by simp [kind, ho]) (by simp only [Z02, Z0f, ho, Z04 hx, a1, b1, e1, Z3P, ht, hz, a2, b2]), hR, h4⟩
noncomputable def Zlc (kk : IntKind) (g : Tre AV d -> AV) (s : OpF d) : OpF d := fun forc E T k => onNat (g E) (fun _ m => iff' (Nat.ble m (kmx kk)) (k (.int kk (.ofNat m)) T) (s forc E T k)) (s forc E T k)
theorem Zia {src dst : TypeId} {x : Operand} {kk : IntKind} {td : TypeDesc} {g : Tre AV d -> AV} {s : OpF d} (ho : o.op = .convert src dst x) (hs : P.underlying src = some td) (hd : P.underlying dst = some (.int kk)) (hg : Z0r gl d n x = some g) (hsl : Z0Z P gl d n o s) : Z0Z P gl d n o (Zlc kk g s) := by
 intro forc orc E T k out H hO hR h
 rcases Z1m h with ⟨k0, m, e, h1⟩ | h1
 · cases hb : Nat.ble m (kmx kk) with
   | true =>
    rw [hb] at h1
    have hw := Zbh (Nat.le_of_ble_eq_true hb)
    have hw' : kk.wrap (Int.ofNat m) = Int.ofNat m := hw
    exact ⟨_, T, H, Z08 (by simp [kind, ho]) (by simp only [Z02, Z0f, ho, Z04 hg, e, ZcD, hs, hd, hw']), hR, h1⟩
   | false =>
    rw [hb] at h1
    exact hsl forc orc E T k out H hO hR h1
 · exact hsl forc orc E T k out H hO hR h1
noncomputable def Zke (s : List UInt8) : List AV := List.rec [] (fun b _ ih => .int .u8 (Int.ofNat (UInt8.toNat b)) :: ih) s
theorem Zdn : ∀ s : List UInt8, Zke s = s.map fun b => .int .u8 b.toNat
 | [] => rfl
 | b :: s => by show _ :: Zke s = _; rw [Zdn s]; rfl
noncomputable def ZkS (g : Tre AV d -> AV) : OpF d := fun _ E T k => Z3I (g E) (fun s => Z0D (ZfD s) fun m => Z5j (Zke s) fun cs => k (.rs m 1 cs) T) none
theorem Zh4 {src dst x : _} {e : TypeId} {g : Tre AV d -> AV} (ho : o.op = .convert src dst x) (hs : P.underlying src = some .string) (hd : P.underlying dst = some (.slice e)) (he : P.underlying e = some (.int .u8)) (hg : Z0r gl d n x = some g) : Z0Z P gl d n o (ZkS g) := by
 intro forc orc E T k out H hO hR h
 rcases Z1H h with ⟨s, e1, h1⟩ | h1 <;> try (cases h1; done)
 rw [Z0G, Z1P, Zdn, Z2M] at h1
 refine ⟨_, T, H, ?_, hR, h1⟩
 rw [Z43 (by simp [kind, ho])]
 simp [Z02, Z0f, Z2D, ho, Z04 hg, e1, ZcD, hs, hd, Z6T, he]
noncomputable def Zfl (v : AV) : Bool := Zaj v (fun _ => false) (Z6e v (fun _ => false) true)
theorem Zhn (v : AV) : Zfl v = one v := by cases v <;> rfl
noncomputable def ZbI (l : List AV) : Bool := List.rec true (fun v _ ih => iff' (Zfl v) ih false) l
theorem Z6M : ∀ l : List AV, ZbI l = l.all one
 | [] => rfl
 | v :: l => by
  show iff' (Zfl v) (ZbI l) false = _
  rw [Z6M l, Zhn, List.all_cons, Z1A]; cases one v <;> simp
noncomputable def wrF (a : AV) (vs : List AV) (T : TH) (f : TH -> Res) : Res :=
 onPtr a (fun b off => Z0Y (T.get b) (fun fam sh cs ty => iff' (ZbI vs) (ZiI cs off vs (fun cs' => Zj1 T b ⟨true, fam, sh, .cells cs' ty⟩ f) none) none) none) (fun _ => none) none
theorem Z8P {T : TH} {H : Z00} {a : AV} {vs : List AV} {f : TH -> Res} {out : AV × TH} (hR : Rep T H) (h : wrF a vs T f = some out) : ∃ T' H', wr H a vs = some H' /\ Rep T' H' /\ f T' = some out := by
 unfold wrF at h
 rcases Z14 h with ⟨b, off, rfl, h⟩ | ⟨_, _, h⟩ | h <;> try (cases h; done)
 replace h : Z0Y (T.get b) _ none = some out := h
 obtain ⟨fam, sh, cs, ty, e2, h⟩ := Z0M h
 have e2 : T.get b = ⟨true, fam, sh, .cells cs ty⟩ := e2
 obtain ⟨h1, h⟩ := Z03 h
 obtain ⟨cs', h2, h⟩ := Z61 h
 rw [Z8e] at h
 have hH := hR.obj b (by rw [e2])
 have hs := hR.set' e2 (.cells cs' ty)
 rw [e2] at hH
 rw [Z6M] at h1
 exact ⟨_, _, by simp only [wr, hH, h1, if_true, h2], hs, h⟩
noncomputable def Zk3 (m : Nat) (ga gx : Tre AV d -> AV) : OpF d := fun _ E T k =>
 frc1 (gx E) fun v => Zaj v (fun cs => iff' (Nat.beq (ZfD cs) m) (wrF (ga E) cs T fun T' => k (.tuple []) T') none) (iff' (Nat.beq 1 m) (wrF (ga E) [v] T fun T' => k (.tuple []) T') none)
theorem Z7D {t : TypeId} {a x : Operand} (ho : o.op = .store t a x) {ρ : Operand -> Option AV} {orc : Orc} {H H' : Z00} {u v : AV} (ha : ρ a = some u) (hx : ρ x = some v) (h : Z5q P t u v H = some H') : aop P orc ρ o H = some (.tuple [], H') := by
 simp [aop, Z02, Z0f, Z2D, ho, ha, hx, h]
theorem Zh2 {t : TypeId} {a x : Operand} {m : Nat} {ga gx : Tre AV d -> AV} (ho : o.op = .store t a x) (hm : tsz P t = some m) (ha : Z0r gl d n a = some ga) (hx : Z0r gl d n x = some gx) : Z0Z P gl d n o (Zk3 m ga gx) := by
 intro forc orc E T k out H hO hR h
 simp only [Zk3, Z0h] at h
 rcases Z4V h with ⟨cs, e, h⟩ | ⟨hne, h⟩
 · obtain ⟨h1, h⟩ := Z03 h
   have h1' := Nat.eq_of_beq_eq_true h1
   rw [Z2M] at h1'
   obtain ⟨T', H', g1, g2, g3⟩ := Z8P hR h
   exact ⟨_, T', H', Z7D ho (Z04 ha) (Z04 hx) (by simp [Z5q, hm, e, AV.cells, h1', g1]), g2, g3⟩
 · obtain ⟨h1, h⟩ := Z03 h
   have h1' := Nat.eq_of_beq_eq_true h1
   obtain ⟨T', H', g1, g2, g3⟩ := Z8P hR h
   exact ⟨_, T', H', Z7D ho (Z04 ha) (Z04 hx) (by simp [Z5q, hm, Z6G hne, <- h1', g1]), g2, g3⟩
end ops
end Go.Abs
end

section
namespace Go.Abs
open Go.RowKit
noncomputable def Zjo {α β : Type} (l : List α) : (List α -> β) -> β := List.rec (motive := fun _ => (List α -> β) -> β) (fun f => f []) (fun v _ ih f => ih fun r => f (v :: r)) l
theorem Z8q {α β : Type} : ∀ (l : List α) (f : List α -> β), Zjo l f = f l
 | [], f => rfl
 | v :: l, f => by show Zjo l (fun r => f (v :: r)) = _; rw [Z8q l]
noncomputable def ZeF {α : Type} (l m : List α) : List α := List.rec m (fun v _ ih => v :: ih) l
theorem Z53 {α : Type} : ∀ (l m : List α), ZeF l m = l ++ m
 | [], m => rfl
 | v :: l, m => by show v :: ZeF l m = _; rw [Z53 l]; rfl
section ops
variable {P : Program} {gl : Glob} {d n : Nat} {o : Oper}
noncomputable def cargs (gl : Glob) (d n : Nat) : List Operand -> Option (Tre AV d -> (List AV -> Res) -> Res)
 | [] => some fun _ f => f []
 | x :: l => match Z0r gl d n x, cargs gl d n l with | some g, some G => some fun E f => frc1 (g E) fun v => G E fun vs => f (v :: vs) | _, _ => none
theorem Z3z : ∀ (l : List Operand) (G : Tre AV d -> (List AV -> Res) -> Res), cargs gl d n l = some G -> ∀ E f, ∃ vs, Z1i (Z3G gl d n E) l = some vs /\ G E f = f vs
 | [], G, h, E, f => by simp [cargs] at h; subst h; exact ⟨[], rfl, rfl⟩
 | x :: l, G, h, E, f => by
  simp only [cargs] at h
  split at h <;> simp at h
  rename_i g G' hg hG
  subst h
  obtain ⟨vs, h1, h2⟩ := Z3z l G' hG E (fun vs => f (g E :: vs))
  exact ⟨g E :: vs, by simp [Z1i, Z04 hg, h1], by simp only [Z0h]; exact h2⟩
noncomputable def Zcu (r : Res) (k : Knt) : Res := Option.rec none (fun p => Prod.rec (fun v T => k v T) p) r
theorem Z7P {r : Res} {k : Knt} {out : AV × TH} (h : Zcu r k = some out) : ∃ v T, r = some (v, T) /\ k v T = some out := by
 cases r with
 | none => cases h
 | some p => obtain ⟨v, T⟩ := p; exact ⟨v, T, rfl, h⟩
noncomputable def ZjE (g : Nat) (G : Tre AV d -> (List AV -> Res) -> Res) : OpF d := fun forc E T k => G E fun vs => Zcu (forc g vs T) k
theorem Zg5 {c : Call} {g : Nat} {G : Tre AV d -> (List AV -> Res) -> Res} (ho : o.op = .call c) (hc : c.callee = .value (.func g)) (hb : Z09 P g = true) (hG : cargs gl d n c.args.toList = some G) : Z0Z P gl d n o (ZjE g G) := by
 intro forc orc E T k out H hO hR h
 obtain ⟨vs, h1, h2⟩ := Z3z _ _ hG E (fun vs => Zcu (forc g vs T) k)
 have h : G E (fun vs => Zcu (forc g vs T) k) = some out := h
 rw [h2] at h
 obtain ⟨v, T', h3, h4⟩ := Z7P h
 obtain ⟨H', h5, h6⟩ := hO g vs T v T' h3 H hR
 refine ⟨v, T', H', ?_, h6, h4⟩
 have hf : Z3G gl d n E (.func g) = some (.func (.func g) [] []) := rfl
 simp [aop, ho, callee, hc, hf, h1, Z0e, hb, h5]
noncomputable def fnG (fn : Fn) (f : Nat -> Res) : Res := match fn with | .func g => f g | _ => none
noncomputable def Zil (P : Program) (gf : Tre AV d -> AV) (G : Tre AV d -> (List AV -> Res) -> Res) : OpF d := fun forc E T k =>
 onFunc (gf E) (fun fn a b => G E fun vs => fnG fn fun g => iff' (Z09 P g) (Zcu (forc g (ZeF a (ZeF vs b)) T) k) none) none
theorem Zg6 {c : Call} {f : Operand} {gf : Tre AV d -> AV} {G : Tre AV d -> (List AV -> Res) -> Res} (ho : o.op = .call c) (hc : c.callee = .value f) (hf : Z0r gl d n f = some gf) (hG : cargs gl d n c.args.toList = some G) : Z0Z P gl d n o (Zil P gf G) := by
 intro forc orc E T k out H hO hR h
 unfold Zil at h
 rcases Zah h with ⟨fn, a, b, e, h⟩ | h <;> try (cases h; done)
 obtain ⟨vs, h1, h2⟩ := Z3z _ _ hG E (fun vs => fnG fn fun g => iff' (Z09 P g) (Zcu (forc g (ZeF a (ZeF vs b)) T) k) none)
 rw [h2] at h
 unfold fnG at h
 split at h <;> try (cases h; done)
 rename_i g
 obtain ⟨hb, h⟩ := Z03 h
 obtain ⟨v, T', h3, h4⟩ := Z7P h
 obtain ⟨H', h5, h6⟩ := hO _ _ _ _ _ h3 H hR
 refine ⟨v, T', H', ?_, h6, h4⟩
 rw [Z53, Z53] at h5
 simp [aop, ho, callee, hc, Z04 hf, e, h1, Z0e, hb, h5]
noncomputable def xcF (z : Nat) (x : AV) (T : TH) (f : Nat -> List AV -> Res) : Res :=
 Z0X x (fun b off len _ z' => iff' (Nat.beq z' z) (Z0Y (T.get b) (fun _ _ cs _ => tkR (Nat.mul len z) (Z74 cs off) (fun l => f len l) none) none) none) (fun m z' cs => iff' (Nat.beq z' z) (f m cs) none) (f 0 [])
  (Z3I x (fun s => iff' (Nat.beq z 1) (frcVL (s.map fun b => .int .u8 b.toNat) fun l => Z1V (ZfD s) fun m => f m l) none) none)
theorem Zgh {z : Nat} {x : AV} {T : TH} {H : Z00} {f : Nat -> List AV -> Res} {out : AV × TH} (hR : Rep T H) (h : xcF z x T f = some out) : ∃ m xs, Z2X H z x = some (m, xs) /\ f m xs = some out := by
 unfold xcF at h
 rcases Z0q h with ⟨b, off, l, c, z', e1, h3⟩ | ⟨m, z', cs, e1, h3⟩ | ⟨e1, h3⟩ | h3
 · obtain ⟨h1, h4⟩ := Z03 h3
   have hz := Nat.eq_of_beq_eq_true h1
   replace h4 : Z0Y (T.get b) _ none = some out := h4
   obtain ⟨fam, sh, cs, ty, e2, h5⟩ := Z0M h4
   have e2 : T.get b = ⟨true, fam, sh, .cells cs ty⟩ := e2
   obtain ⟨r, h2, h6⟩ := Z4f h5
   have hH := hR.obj b (by rw [e2])
   rw [e2] at hH
   rw [Z1v] at h2
   have h2' : tk (l * z) (cs.drop off) = some r := h2
   exact ⟨l, r, by simp [Z2X, rd, hH, h2', e1, hz], h6⟩
 · obtain ⟨h1, h4⟩ := Z03 h3
   have hz := Nat.eq_of_beq_eq_true h1
   exact ⟨m, cs, by simp [Z2X, e1, hz], h4⟩
 · exact ⟨0, [], by simp [Z2X, e1], h3⟩
 · rcases Z1H h3 with ⟨s, e1, h4⟩ | h4 <;> try (cases h4; done)
   obtain ⟨h1, h5⟩ := Z03 h4
   have hz := Nat.eq_of_beq_eq_true h1
   rw [frcVL_eq, Z0g, Z2M] at h5
   exact ⟨_, _, by simp [Z2X, e1, hz], h5⟩
noncomputable def Zl6 (T : TH) (b fam sh : Nat) (cs : List AV) (ty : TypeId) (f : Nat -> TH -> Res) : Res :=
 Zka T fun sz tr => iff' (Nat.blt sz 4096) (Z3j 12 b Z0n tr fun tr1 => Z3j 12 sz ⟨true, fam, sh, .cells cs ty⟩ tr1 fun tr2 => Z1V (Nat.add sz 1) fun s => f sz ⟨s, tr2⟩) none
theorem Zdu {T : TH} {b fam sh : Nat} {cs : List AV} {ty : TypeId} {f : Nat -> TH -> Res} {out : AV × TH} (h : Zl6 T b fam sh cs ty f = some out) :
  T.sz < 4096 /\ f T.sz ((T.set b Z0n).push ⟨true, fam, sh, .cells cs ty⟩) = some out := by
 obtain ⟨sz, tr⟩ := T
 obtain ⟨h1, h2⟩ := Z03 (show iff' (Nat.blt sz 4096) (Z3j 12 b Z0n tr fun tr1 => Z3j 12 sz ⟨true, fam, sh, .cells cs ty⟩ tr1 fun tr2 => Z1V (Nat.add sz 1) fun s => f sz ⟨s, tr2⟩) none = some out from h)
 rw [Z2y, Z2y, Z0g] at h2
 exact ⟨by simpa [Nat.blt_eq] using h1, h2⟩
theorem Rep.grow' {T : TH} {H : Z00} (h : Rep T H) {b fam sh0 : Nat} {bd0 : ABody} (e : T.get b = ⟨true, fam, sh0, bd0⟩) (hs : T.sz < 4096) (en sh : Nat) (bd : ABody) :
  Rep ((T.set b Z0n).push ⟨true, fam, sh, bd⟩) (Z9Y fam en H ++ [⟨true, fam, sh, bd⟩]) := by
 have := h.grow (b := b) (by rw [e]) hs en sh bd
 simp only [e] at this
 exact this
noncomputable def Za7 {α : Type} (l : List α) : Bool := List.rec false (fun _ _ _ => true) l
theorem Z7j {α : Type} (l : List α) (k : Nat) : Za7 (l.drop k) = true ↔ k < l.length := by
 have : ∀ m : List α, Za7 m = true ↔ 0 < m.length := fun m => by cases m <;> simp [Za7]
 rw [this, List.length_drop]; omega
noncomputable def ZkH (e : TypeId) (by' b off len z' lm : Nat) (xs : List AV) (fam sh : Nat) (cs : List AV) (ty : TypeId) (T : TH) (k : Knt) : Res :=
 iff' (Nat.ble lm 1099511627776) (iff' (Nat.ble (Nat.mul lm by') 70368744177664)
  (iff' (Nat.beq (Nat.add off (Nat.mul len z')) (ZfD cs)) (iff' (Nat.beq ty e) (iff' (ZbI xs)
    (Zjo (ZeF (Z74 cs off) xs) fun cs' => Z1V (Nat.add sh off) fun so => Zl6 T b fam so cs' ty fun a T' => k (.slice a 0 lm lm z') T') none) none) none) none) none
noncomputable def ZkI (e : TypeId) (z by' : Nat) (s : AV) (m : Nat) (xs : List AV) (T : TH) (k : Knt) : Res :=
 iff' (Nat.beq m 0) (Z0X s (fun b o l c z' => k (.slice b o l c z') T) (fun m' z' cs => k (.rs m' z' cs) T) (k .nslice T) none)
  (Z0X s (fun b off len cap z' => iff' (Nat.beq z' z) (Z1V (Nat.add len m) fun lm => Z0Y (T.get b) (fun fam sh cs ty => iff' (Nat.ble lm cap)
     (iff' (Za7 (Z74 cs (Nat.add off (Nat.mul len z')))) (wrF (.ptr b (Nat.add off (Nat.mul len z'))) xs T fun T' => k (.slice b off lm cap z') T') (ZkH e by' b off len z' lm xs fam sh cs ty T k))
     (ZkH e by' b off len z' lm xs fam sh cs ty T k)) none) none)
    (fun _ _ _ => none) (iff' (Nat.ble m 1099511627776) (iff' (Nat.ble (Nat.mul m by') 70368744177664) (Zft (fun a => .slice a 0 m m z) (.cells xs e) k T) none) none) none)
theorem Z0u {γ : Type} {b : Bool} {x y : Option γ} {out : γ} (h : iff' b x y = some out) : (b = true /\ x = some out) \/ (b = false /\ y = some out) := by
 cases b
 · exact .inr ⟨rfl, h⟩
 · exact .inl ⟨rfl, h⟩
theorem Zit {e t t2 : TypeId} {i : TypeInfo} {u : AV} {s x : AV} {m : Nat} {xs : List AV} {T : TH} {H : Z00} {k : Knt} {out : AV × TH} (hu : P.underlying t = some (.slice e)) (hi : P.info? e = some i) (hz : Z1C P e = some u) (hx2 : apx P t2 = true) (hsz : u.cells.length = i.size)
  (hR : Rep T H) (hxs : Z2X H i.size x = some (m, xs)) (h : ZkI e i.size i.bytes s m xs T k = some out) : ∃ r T' H', Z2m P t t2 s x H = some (r, H') /\ Rep T' H' /\ k r T' = some out := by
 have hcond : (apx P t2 && u.cells.length == i.size) = true := by simp [hx2, hsz]
 unfold ZkI at h
 rcases Z0u h with ⟨h0, h⟩ | ⟨h0, h⟩
 · have h0' := Nat.eq_of_beq_eq_true h0
   subst h0'
   rcases Z0q h with ⟨b, off, l, c, z', rfl, h⟩ | ⟨l, z', cs, rfl, h⟩ | ⟨rfl, h⟩ | h <;> try (cases h; done)
   all_goals exact ⟨_, T, H, by simp only [Z2m, hu, hi, hz, hcond, hxs, if_true], hR, h⟩
 · have h0' : ¬ m = 0 := by intro e; subst e; simp at h0
   rcases Z0q h with ⟨b, off, l, c, z', rfl, h⟩ | ⟨_, _, _, _, h⟩ | ⟨rfl, h⟩ | h <;> try (cases h; done)
   · obtain ⟨h1, h⟩ := Z03 h
     have := Nat.eq_of_beq_eq_true h1; subst this
     rw [Z0g] at h
     replace h : Z0Y (T.get b) _ none = some out := h
     obtain ⟨fam, sh, cs, ty, e2, h⟩ := Z0M h
     have e2 : T.get b = ⟨true, fam, sh, .cells cs ty⟩ := e2
     have hH := hR.obj b (by rw [e2])
     rw [e2] at hH
     have hcl : ZiP H b = cs.length := by simp [ZiP, hH]
     have grow : ¬ (l + m <= c /\ off + l * i.size < ZiP H b) -> ZkH e i.bytes b off l i.size (Nat.add l m) xs fam sh cs ty T k = some out -> ∃ r T' H', Z2m P t t2 (.slice b off l c i.size) x H = some (r, H') /\ Rep T' H' /\ k r T' = some out := by
      intro h2' h
      obtain ⟨h3, h⟩ := Z03 h
      obtain ⟨h4, h⟩ := Z03 h
      have h3' : l + m <= 1099511627776 := Nat.le_of_ble_eq_true h3
      have h4' : (l + m) * i.bytes <= 70368744177664 := Nat.le_of_ble_eq_true h4
      obtain ⟨h5, h⟩ := Z03 h
      obtain ⟨h6, h⟩ := Z03 h
      obtain ⟨h7, h⟩ := Z03 h
      have h5' : off + l * i.size = cs.length := by rw [<- Z2M]; exact Nat.eq_of_beq_eq_true h5
      have h6' := Nat.eq_of_beq_eq_true h6
      rw [Z6M] at h7
      rw [Z8q, Z0g, Z53, Z1v] at h
      obtain ⟨h8, h⟩ := Zdu h
      have hg := hR.grow' e2 h8 (sh + cs.length) (sh + off) (.cells (cs.drop off ++ xs) ty)
      refine ⟨.slice H.length 0 (l + m) (l + m) i.size, _, _, ?_, hg, ?_⟩
      · simp only [Z2m, hu, hi, hz, hcond, hxs, if_true, if_neg h0', if_neg h2', if_pos (show l + m <= 1099511627776 /\ (l + m) * i.bytes <= 70368744177664 from ⟨h3', h4'⟩), hH,
         if_pos (show off + l * i.size = cs.length /\ ty = e /\ xs.all one = true from ⟨h5', h6', h7⟩)]
      · rw [<- hR.sz]; exact h
     rcases Z0u h with ⟨h2, h⟩ | ⟨h2, h⟩
     · have h2' : l + m <= c := Nat.le_of_ble_eq_true h2
       rw [Z1v] at h
       rcases Z0u h with ⟨h9, h⟩ | ⟨h9, h⟩
       · have h9' : off + l * i.size < ZiP H b := by rw [hcl]; exact (Z7j cs _).1 h9
         obtain ⟨T', H', g1, g2, g3⟩ := Z8P hR h
         have g1' : wr H (.ptr b (off + l * i.size)) xs = some H' := g1
         exact ⟨_, T', H', by simp only [Z2m, hu, hi, hz, hcond, hxs, if_true, if_neg h0', if_pos (show l + m <= c /\ off + l * i.size < ZiP H b from ⟨h2', h9'⟩), g1']; rfl, g2, g3⟩
       · refine grow (fun hc => ?_) h
         have : Za7 (cs.drop (off + l * i.size)) = true := (Z7j cs _).2 (by rw [<- hcl]; exact hc.2)
         rw [show Za7 (List.drop (Nat.add off (Nat.mul l i.size)) cs) = Za7 (cs.drop (off + l * i.size)) from rfl, this] at h9
         cases h9
     · have h2' : ¬ l + m <= c := fun hle => by rw [show Nat.ble (Nat.add l m) c = true from Nat.ble_eq_true_of_le hle] at h2; cases h2
       exact grow (fun hc => h2' hc.1) h
   · obtain ⟨h3, h⟩ := Z03 h
     obtain ⟨h4, h⟩ := Z03 h
     have h3' : m <= 1099511627776 := Nat.le_of_ble_eq_true h3
     have h4' : m * i.bytes <= 70368744177664 := Nat.le_of_ble_eq_true h4
     obtain ⟨h5, h⟩ := Z6i h
     rw [Z0h] at h
     refine ⟨.slice H.length 0 m m i.size, _, _, ?_, hR.push h5 (.cells xs e), ?_⟩
     · simp only [Z2m, hu, hi, hz, hcond, hxs, if_true, if_neg h0', if_pos (show m <= 1099511627776 /\ m * i.bytes <= 70368744177664 from ⟨h3', h4'⟩)]; rfl
     · rw [<- hR.sz]; exact h
noncomputable def Zlj (e : TypeId) (z by' : Nat) (gs gx : Tre AV d -> AV) : OpF d := fun _ E T k => xcF z (gx E) T fun m xs => ZkI e z by' (gs E) m xs T k
theorem ZeI {ρ : Operand -> Option AV} {orc : Orc} {H : Z00} {c : Call} {b : Builtin} (ho : o.op = .call c) (hc : c.callee = .builtin b) (hb : b = .append \/ b = .copy) : aop P orc ρ o H = Z2D P ρ H o := by
 rcases hb with rfl | rfl <;> simp [aop, Z02, Z0f, ho, hc, callee]
theorem Zis {c : Call} {s x : Operand} {t t2 e : TypeId} {i : TypeInfo} {u : AV} {gs gx : Tre AV d -> AV} (ho : o.op = .call c) (hc : c.callee = .builtin .append) (ha : c.args.toList = [s, x]) (ht : c.argTypes.toList = [t, t2])
  (hu : P.underlying t = some (.slice e)) (hi : P.info? e = some i) (hz : Z1C P e = some u) (hx2 : apx P t2 = true) (hsz : u.cells.length = i.size) (hs : Z0r gl d n s = some gs) (hx : Z0r gl d n x = some gx) : Z0Z P gl d n o (Zlj e i.size i.bytes gs gx) := by
 intro forc orc E T k out H hO hR h
 obtain ⟨m, xs, h1, h2⟩ := Zgh hR h
 obtain ⟨r, T', H', g1, g2, g3⟩ := Zit hu hi hz hx2 hsz hR h1 h2
 refine ⟨r, T', H', ?_, g2, g3⟩
 rw [ZeI ho hc (.inl rfl)]
 simp [Z2D, ho, hc, ha, ht, Z04 hs, Z04 hx, g1]
noncomputable def Zlb (z : Nat) (gs gx : Tre AV d -> AV) : OpF d := fun _ E T k => xcF z (gx E) T fun m xs => Z0X (gs E)
 (fun b off len _ z' => iff' (Nat.beq z' z) (Z1V (Nat.min m len) fun mn => iff' (Nat.beq mn 0) (k (.int .i64 (.ofNat 0)) T) (tkR (Nat.mul mn z') xs (fun cs => wrF (.ptr b off) cs T fun T' => k (.int .i64 (.ofNat mn)) T') none)) none)
 (fun _ _ _ => none) (k (.int .i64 (.ofNat 0)) T) none
theorem Zi9 {c : Call} {s x : Operand} {t t2 e : TypeId} {z : Nat} {gs gx : Tre AV d -> AV} (ho : o.op = .call c) (hc : c.callee = .builtin .copy) (ha : c.args.toList = [s, x]) (ht : c.argTypes.toList = [t, t2])
  (hu : P.underlying t = some (.slice e)) (hz : tsz P e = some z) (hs : Z0r gl d n s = some gs) (hx : Z0r gl d n x = some gx) : Z0Z P gl d n o (Zlb z gs gx) := by
 intro forc orc E T k out H hO hR h
 obtain ⟨m, xs, h1, h⟩ := Zgh hR h
 have key : ∀ r H', ZaN P t (gs E) (gx E) H = some (r, H') -> aop P orc (Z3G gl d n E) o H = some (r, H') := by
  intro r H' g
  rw [ZeI ho hc (.inr rfl)]
  simp [Z2D, ho, hc, ha, ht, Z04 hs, Z04 hx, g]
 rcases Z0q h with ⟨b, off, l, cp, z', e1, h⟩ | ⟨_, _, _, _, h⟩ | ⟨e1, h⟩ | h <;> try (cases h; done)
 · obtain ⟨h2, h5⟩ := Z03 h
   have hzz := Nat.eq_of_beq_eq_true h2
   rw [Z0g] at h5
   rcases Z0u h5 with ⟨h3, h6⟩ | ⟨h3, h6⟩
   · have h3' := Nat.eq_of_beq_eq_true h3
     exact ⟨_, T, H, key _ _ (by simp only [ZaN, hu, hz, h1, e1, hzz, if_true, if_pos h3']; rfl), hR, h6⟩
   · have h3' : ¬ Nat.min m l = 0 := fun e => by rw [e] at h3; simp at h3
     obtain ⟨cs, h4, h7⟩ := Z4f h6
     have h4' : tk (Nat.min m l * z') xs = some cs := h4
     rw [hzz] at h4'
     obtain ⟨T', H', g1, g2, g3⟩ := Z8P hR h7
     exact ⟨_, T', H', key _ _ (by simp only [ZaN, hu, hz, h1, e1, hzz, if_true, if_neg h3', h4', g1]; rfl), g2, g3⟩
 · exact ⟨_, T, H, key _ _ (by simp only [ZaN, hu, hz, h1, e1]; rfl), hR, h⟩
noncomputable def Zky (P : Program) (s t : TypeId) (g : Tre AV d -> AV) : OpF d := fun _ E T k => onPtr (g E) (fun b off => iff' (Z5r P s t 0 off [T.get b]) (k (.ptr b off) T) none) (fun _ => none) none
theorem Zeq {s t : TypeId} {x : Operand} {g : Tre AV d -> AV} (ho : o.op = .convert s t x) (ht : (∃ e, P.underlying t = some (.pointer e)) \/ P.underlying t = some .unsafePointer) (hg : Z0r gl d n x = some g) : Z0Z P gl d n o (Zky P s t g) := by
 intro forc orc E T k out H hO hR h
 rcases Z14 h with ⟨b, off, e, h⟩ | ⟨_, _, h⟩ | h <;> try (cases h; done)
 obtain ⟨h1, h2⟩ := Z03 h
 have hal : (T.get b).alive = true := by
  unfold Z5r at h1
  simp only [List.getElem?_cons_zero] at h1
  split at h1
  · rename_i ha _; exact ha
  · cases h1
 have hH := hR.obj b hal
 have h3 : Z5r P s t b off H = true := by
  unfold Z5r at h1 ⊢
  rw [hH]; exact h1
 refine ⟨.ptr b off, T, H, ?_, hR, h2⟩
 rw [Z43 (by simp [kind, ho])]
 have hp : Z02 P (Z3G gl d n E) H o = none := by simp [Z02, Z0f, ho, Z04 hg, e, ZcD]
 rw [hp]
 simp [Z2D, ho, Z04 hg, e, Z6T, h3]
def ZfT (P : Program) (g : Nat) : Bool := match P.funcs[g]? with | some fn => decide (fn.body.isNone = true /\ fn.name = "internal/abi.NoEscape" /\ fn.origin = "") | none => false
theorem Zck {g : Nat} (h : ZfT P g = true) (x : AV) : Z5w P g [x] = some x /\ Z09 P g = false := by
 unfold ZfT at h
 unfold Z5w Z09
 split at h
 · rename_i fn hfn
   have h' := of_decide_eq_true h
   simp only [hfn]
   rw [if_pos h']
   refine ⟨rfl, ?_⟩
   cases hb : fn.body with
   | none => rfl
   | some c => have := h'.1; rw [hb] at this; cases this
 · cases h
noncomputable def Zc8 (vs : List AV) (f : AV -> Res) : Res := List.rec none (fun v l _ => List.rec (f v) (fun _ _ _ => none) l) vs
theorem Z7t {vs : List AV} {f : AV -> Res} {out : AV × TH} (h : Zc8 vs f = some out) : ∃ v, vs = [v] /\ f v = some out := by
 match vs, h with
 | [v], h => exact ⟨v, rfl, h⟩
noncomputable def Zjs (G : Tre AV d -> (List AV -> Res) -> Res) : OpF d := fun _ E T k => G E fun vs => Zc8 vs fun v => k v T
theorem ZfS {c : Call} {g : Nat} {G : Tre AV d -> (List AV -> Res) -> Res} (ho : o.op = .call c) (hc : c.callee = .value (.func g)) (hb : ZfT P g = true) (hG : cargs gl d n c.args.toList = some G) : Z0Z P gl d n o (Zjs G) := by
 intro forc orc E T k out H hO hR h
 obtain ⟨vs, h1, h2⟩ := Z3z _ _ hG E (fun vs => Zc8 vs fun v => k v T)
 have h : G E (fun vs => Zc8 vs fun v => k v T) = some out := h
 rw [h2] at h
 obtain ⟨v, rfl, h3⟩ := Z7t h
 obtain ⟨e1, e2⟩ := Zck hb v
 refine ⟨v, T, H, ?_, hR, h3⟩
 have hf : Z3G gl d n E (.func g) = some (.func (.func g) [] []) := rfl
 simp [aop, ho, callee, hc, hf, h1, Z0e, e1, e2]
theorem Zcl {g : Nat} {e : TypeId} (h : Z8t P g = some e) (vs : List AV) : Z5w P g vs = none /\ Z73 P g vs = none /\ Z09 P g = false := by
 unfold Z8t at h
 unfold Z5w Z73 Z09
 split at h <;> try (cases h; done)
 rename_i fn hfn
 split at h <;> try (cases h; done)
 rename_i hc
 refine ⟨?_, ?_, ?_⟩
 · rw [if_neg]; rintro ⟨_, h2, _⟩; rw [hc.2.1] at h2; exact absurd h2 (by decide)
 · rw [if_neg (by rintro ⟨_, h2, _⟩; rw [hc.2.1] at h2; exact absurd h2 (by decide)), if_neg (by rintro ⟨_, h2, _⟩; rw [hc.2.1] at h2; exact absurd h2 (by decide))]
 · cases hb : fn.body with
   | none => rfl
   | some c => have := hc.1; rw [hb] at this; cases this
def Z8u (P : Program) (g : Nat) : Bool := match P.funcs[g]? with | some fn => decide (fn.body.isNone = true /\ fn.name = "internal/bytealg.IndexByteString" /\ fn.origin = "") | none => false
theorem Z9q {g : Nat} (h : Z8u P g = true) (s : List UInt8) (m : Nat) : Z5w P g [.str s, .int .u8 (.ofNat m)] = none /\ Z73 P g [.str s, .int .u8 (.ofNat m)] = some (.int .i64 (ixB (UInt8.ofNat m) s 0)) /\ Z09 P g = false := by
 unfold Z8u at h
 unfold Z5w Z73 Z09
 split at h <;> try (cases h; done)
 rename_i fn hfn
 have hc := of_decide_eq_true h
 simp only [hfn]
 refine ⟨?_, ?_, ?_⟩
 · rw [if_neg]; rintro ⟨_, h2, _⟩; rw [hc.2.1] at h2; exact absurd h2 (by decide)
 · rw [if_pos hc]
 · cases hb : fn.body with
   | none => rfl
   | some c => have := hc.1; rw [hb] at this; cases this
noncomputable def Zhm (vs : List AV) (f : AV -> AV -> Res) : Res := List.rec none (fun v l _ => List.rec none (fun w l _ => List.rec (f v w) (fun _ _ _ => none) l) l) vs
theorem Zc7 {vs : List AV} {f : AV -> AV -> Res} {out : AV × TH} (h : Zhm vs f = some out) : ∃ v w, vs = [v, w] /\ f v w = some out := by
 match vs, h with
 | [v, w], h => exact ⟨v, w, rfl, h⟩
noncomputable def Zkh (G : Tre AV d -> (List AV -> Res) -> Res) : OpF d := fun _ E T k => G E fun vs => Zhm vs fun v w => Z3I v (fun s => onNat w (fun kk m => iff' (Nat.beq (kix kk) (kix .u8)) (Z5v (.int .i64 (ixB (UInt8.ofNat m) s 0)) fun r => k r T) none) none) none
theorem ZhD {c : Call} {g : Nat} {G : Tre AV d -> (List AV -> Res) -> Res} (ho : o.op = .call c) (hc : c.callee = .value (.func g)) (he : Z8u P g = true) (hG : cargs gl d n c.args.toList = some G) : Z0Z P gl d n o (Zkh G) := by
 intro forc orc E T k out H hO hR h
 obtain ⟨vs, h1, h2⟩ := Z3z _ _ hG E (fun vs => Zhm vs fun v w => Z3I v (fun s => onNat w (fun kk m => iff' (Nat.beq (kix kk) (kix .u8)) (Z5v (.int .i64 (ixB (UInt8.ofNat m) s 0)) fun r => k r T) none) none) none)
 unfold Zkh at h
 rw [h2] at h
 obtain ⟨v, w, rfl, h3⟩ := Zc7 h
 rcases Z1H h3 with ⟨s, rfl, h4⟩ | h4 <;> try (cases h4; done)
 rcases Z1m h4 with ⟨kk, m, rfl, h5⟩ | h5 <;> try (cases h5; done)
 obtain ⟨h6, h7⟩ := Z03 h5
 have hk := Z6p h6
 subst hk
 rw [Z1b] at h7
 obtain ⟨e1, e2, e3⟩ := Z9q he s m
 refine ⟨_, T, H, ?_, hR, h7⟩
 have hf : Z3G gl d n E (.func g) = some (.func (.func g) [] []) := rfl
 have e1' : Z5w P g [.str s, .int .u8 (Int.ofNat m)] = none := e1
 have e2' : Z73 P g [.str s, .int .u8 (Int.ofNat m)] = some (.int .i64 (ixB (UInt8.ofNat m) s 0)) := e2
 simp only [aop, ho, callee, hc, hf, h1, Z0e, e3, List.nil_append, List.append_nil, Bool.false_eq_true, if_false, e1', e2']
noncomputable def Zkd (e : TypeId) (G : Tre AV d -> (List AV -> Res) -> Res) : OpF d := fun _ E T k => G E fun vs => Zc8 vs fun v => onNat v (fun kk m => iff' (Nat.beq (kix kk) 3) (iff' (Nat.ble m 281474976710656) (Zft (fun a => .slice a 0 m m 1) (.cells [] e) k T) none) none) none
theorem Zhv {c : Call} {g : Nat} {e : TypeId} {G : Tre AV d -> (List AV -> Res) -> Res} (ho : o.op = .call c) (hc : c.callee = .value (.func g)) (he : Z8t P g = some e) (hG : cargs gl d n c.args.toList = some G) : Z0Z P gl d n o (Zkd e G) := by
 intro forc orc E T k out H hO hR h
 obtain ⟨vs, h1, h2⟩ := Z3z _ _ hG E (fun vs => Zc8 vs fun v => onNat v (fun kk m => iff' (Nat.beq (kix kk) 3) (iff' (Nat.ble m 281474976710656) (Zft (fun a => .slice a 0 m m 1) (.cells [] e) k T) none) none) none)
 unfold Zkd at h
 rw [h2] at h
 obtain ⟨v, rfl, h3⟩ := Z7t h
 rcases Z1m h3 with ⟨kk, m, rfl, h4⟩ | h4 <;> try (cases h4; done)
 obtain ⟨h5, h6⟩ := Z03 h4
 have hk : kk = .i64 := Z6p (k' := .i64) h5
 subst hk
 obtain ⟨h7, h8⟩ := Z03 h6
 have h7' : m <= 281474976710656 := Nat.le_of_ble_eq_true h7
 obtain ⟨h9, h10⟩ := Z6i h8
 rw [Z0h] at h10
 obtain ⟨e1, e4, e2⟩ := Zcl he [.int .i64 (Int.ofNat m)]
 refine ⟨.slice H.length 0 m m 1, _, _, ?_, hR.push h9 (.cells [] e), ?_⟩
 · have hf : Z3G gl d n E (.func g) = some (.func (.func g) [] []) := rfl
   simp only [aop, ho, callee, hc, hf, h1, Z0e, e2, List.nil_append, List.append_nil, Bool.false_eq_true, if_false, e1, e4, he, if_pos h7', hR.sz]
 · rw [<- hR.sz]; exact h10
noncomputable def Zlf (g : Tre AV d -> AV) : OpF d := fun _ E T k => Z0X (g E) (fun _ _ _ _ _ => none) (fun _ _ _ => none) (k (.int .i64 (.ofNat 0)) T) none
theorem Zik {c : Call} {x : Operand} {t e : TypeId} {g : Tre AV d -> AV} (ho : o.op = .call c) (hc : c.callee = .builtin .cap) (ha : c.args.toList = [x]) (ht : c.argTypes.toList = [t]) (hu : P.underlying t = some (.slice e)) (hg : Z0r gl d n x = some g) : Z0Z P gl d n o (Zlf g) := by
 intro forc orc E T k out H hO hR h
 have ha' : aop P orc (Z3G gl d n E) o H = Z2D P (Z3G gl d n E) H o := by simp [aop, Z02, Z0f, ho, hc, callee]
 rcases Z0q h with ⟨_, _, _, _, _, _, h⟩ | ⟨_, _, _, _, h⟩ | ⟨e, h⟩ | h <;> try (cases h; done)
 refine ⟨_, T, H, ?_, hR, h⟩
 rw [ha']; simp [Z2D, ho, hc, ha, ht, hu, Z04 hg, e]
noncomputable def Zld (zs : List AV) (z : Nat) (g : Tre AV d -> AV) : OpF d := fun _ E T k => Z0X (g E)
 (fun b off len _ z' => iff' (Nat.beq len 0) (k (.tuple []) T) (iff' (Nat.beq z z') (wrF (.ptr b off) (Zc1 len zs) T fun T' => k (.tuple []) T') none)) (fun _ _ _ => none) (k (.tuple []) T) none
theorem Zib {c : Call} {x : Operand} {t e : TypeId} {u : AV} {g : Tre AV d -> AV} (ho : o.op = .call c) (hc : c.callee = .builtin .clear) (ha : c.args.toList = [x]) (ht : c.argTypes.toList = [t]) (hu : P.underlying t = some (.slice e)) (hz : Z1C P e = some u) (hg : Z0r gl d n x = some g) : Z0Z P gl d n o (Zld u.cells u.cells.length g) := by
 intro forc orc E T k out H hO hR h
 have ha' : aop P orc (Z3G gl d n E) o H = Z2D P (Z3G gl d n E) H o := by simp [aop, Z02, Z0f, ho, hc, callee]
 have key : ∀ H', Z6U P t (g E) H = some H' -> aop P orc (Z3G gl d n E) o H = some (.tuple [], H') := by
  intro H' q
  rw [ha']; simp [Z2D, ho, hc, ha, ht, Z04 hg, q]
 rcases Z0q h with ⟨b, off, l, cp, z', e1, h⟩ | ⟨_, _, _, _, h⟩ | ⟨e1, h⟩ | h <;> try (cases h; done)
 · rcases Z0u h with ⟨h1, h2⟩ | ⟨h1, h2⟩
   · have h1' := Nat.eq_of_beq_eq_true h1
     exact ⟨_, T, H, key _ (by simp only [Z6U, hu, hz, e1, if_pos h1']), hR, h2⟩
   · obtain ⟨h3, h4⟩ := Z03 h2
     have h3' := Nat.eq_of_beq_eq_true h3
     have h1' : ¬ l = 0 := fun e => by rw [e] at h1; cases h1
     obtain ⟨T', H', g1, g2, g3⟩ := Z8P hR h4
     exact ⟨_, T', H', key _ (by simp only [Z6U, hu, hz, e1, if_neg h1', if_pos h3']; exact g1), g2, g3⟩
 · exact ⟨_, T, H, key _ (by simp only [Z6U, hu, hz, e1]), hR, h⟩
noncomputable def ZkV (g : Tre AV d -> AV) : OpF d := fun _ E T k => Z0X (g E) (fun b off _ cap _ => Nat.rec none (fun _ _ => k (.ptr b off) T) cap) (fun _ _ _ => none) (k .nptr T) none
theorem Zha {c : Call} {x : Operand} {g : Tre AV d -> AV} (ho : o.op = .call c) (hc : c.callee = .builtin .unsafeSliceData) (ha : c.args.toList = [x]) (hg : Z0r gl d n x = some g) : Z0Z P gl d n o (ZkV g) := by
 intro forc orc E T k out H hO hR h
 have ha' : aop P orc (Z3G gl d n E) o H = Z2D P (Z3G gl d n E) H o := by simp [aop, Z02, Z0f, ho, hc, callee]
 rcases Z0q h with ⟨b, off, l, cp, z, e, h⟩ | ⟨_, _, _, _, h⟩ | ⟨e, h⟩ | h <;> try (cases h; done)
 · cases cp with
   | zero => cases h
   | succ cp =>
    refine ⟨.ptr b off, T, H, ?_, hR, h⟩
    rw [ha']; simp [Z2D, ho, hc, ha, Z04 hg, e]
 · refine ⟨.nptr, T, H, ?_, hR, h⟩
   rw [ha']; simp [Z2D, ho, hc, ha, Z04 hg, e]
noncomputable def ZkK (P : Program) (t : TypeId) (gx gn : Tre AV d -> AV) : OpF d := fun _ E T k => onNat (gn E) (fun kk m => iff' (Nat.beq (kix kk) 3) (frc1 (gx E) fun p => match m with
 | 0 => (match p with | .nptr => k (.str []) T | .ptr _ _ => k (.str []) T | _ => none)
 | m + 1 => (match p with
  | .ptr b 0 => (match Z6P P t (.ptr 0 0) (m + 1) [T.get b] with | some (r, _) => Z5v r fun r => Zj1 T b Z0n fun T' => k r T' | none => none)
  | _ => none)) none) none
theorem ZeM {t : TypeId} {b m : Nat} {o : AObj} {H H1 : Z00} {r : AV} (hb : H[b]? = some o) (h : Z6P P t (.ptr 0 0) (m + 1) [o] = some (r, H1)) : o.alive = true /\ Z6P P t (.ptr b 0) (m + 1) H = some (r, (Z3o b o.fam H).set b o.dead) := by
 unfold Z6P at h ⊢
 simp only [List.getElem?_cons_zero] at h
 simp only [hb]
 split at h <;> try (simp at h; done)
 rename_i cs ty hal hbd
 split at h <;> try (simp at h; done)
 rename_i e ht
 split at h <;> try (simp at h; done)
 rename_i hc
 split at h <;> try (simp at h; done)
 rename_i l hl
 split at h <;> simp at h
 rename_i bs hbs
 obtain ⟨rfl, _⟩ := h
 refine ⟨hal, ?_⟩
 simp only [hal, hbd, ht, if_pos hc, hl, hbs]
theorem ZgZ {c : Call} {x y : Operand} {t t2 : TypeId} {gx gn : Tre AV d -> AV} (ho : o.op = .call c) (hc : c.callee = .builtin .unsafeString) (ha : c.args.toList = [x, y]) (ht : c.argTypes.toList = [t, t2]) (hx : Z0r gl d n x = some gx) (hy : Z0r gl d n y = some gn) :
  Z0Z P gl d n o (ZkK P t gx gn) := by
 intro forc orc E T k out H hO hR h
 have ha' : aop P orc (Z3G gl d n E) o H = Z2D P (Z3G gl d n E) H o := by simp [aop, Z02, Z0f, ho, hc, callee]
 rcases Z1m h with ⟨kk, m, e1, h⟩ | h <;> try (cases h; done)
 obtain ⟨h1, h⟩ := Z03 h
 have hk : kk = .i64 := by cases kk <;> first | rfl | cases h1
 subst hk
 simp only [Z0h] at h
 have key : ∀ r H', Z6P P t (gx E) m H = some (r, H') -> aop P orc (Z3G gl d n E) o H = some (r, H') := by
  intro r H' g
  rw [ha']; simp only [Z2D, ho, hc, ha, ht, Z04 hx, Z04 hy, e1, g]
 cases m with
 | zero =>
  simp only at h
  split at h <;> try (cases h; done)
  · rename_i e; exact ⟨_, T, H, key _ _ (by simp [e, Z6P]), hR, h⟩
  · rename_i e; exact ⟨_, T, H, key _ _ (by simp [e, Z6P]), hR, h⟩
 | succ m =>
  simp only at h
  split at h <;> try (cases h; done)
  rename_i b e
  split at h <;> try (cases h; done)
  rename_i r H1 hu
  rw [Z1b, Z8e] at h
  have hal : (T.get b).alive = true := by
   unfold Z6P at hu
   simp only [List.getElem?_cons_zero] at hu
   split at hu
   · rename_i ha _; exact ha
   · cases hu
  have hH := hR.obj b hal
  obtain ⟨_, g1⟩ := ZeM hH hu
  exact ⟨r, _, _, key _ _ (by rw [e]; exact g1), hR.lose hal, h⟩
noncomputable def Zkv (g : Tre AV d -> AV) : OpF d := fun _ E T k => frc1 (g E) fun u => match u with
 | .slice b off len cap z => (match Z4I (.slice 0 off len cap z) [T.get b] with | some r => Z5v r fun r => k r T | none => none)
 | _ => none
theorem ZcC {b off len cap z : Nat} {o : AObj} {H : Z00} {r : AV} (hb : H[b]? = some o) (h : Z4I (.slice 0 off len cap z) [o] = some r) : Z4I (.slice b off len cap z) H = some r := by
 unfold Z4I at h ⊢
 simp only [List.getElem?_cons_zero] at h
 simp only [hb]
 exact h
theorem Zi7 {src dst : TypeId} {x : Operand} {g : Tre AV d -> AV} (ho : o.op = .convert src dst x) (hs : Z6S P src dst = true) (hx : Z0r gl d n x = some g) : Z0Z P gl d n o (Zkv g) := by
 intro forc orc E T k out H hO hR h
 unfold Zkv at h
 simp only [Z0h] at h
 split at h <;> try (cases h; done)
 rename_i b off len cap z e
 split at h <;> try (cases h; done)
 rename_i r hr
 rw [Z1b] at h
 have hal : (T.get b).alive = true := by
  unfold Z4I at hr
  simp only [List.getElem?_cons_zero] at hr
  split at hr
  · split at hr
    · rename_i ha _; exact ha
    · cases hr
  · cases hr
 have hH := hR.obj b hal
 refine ⟨r, T, H, Z08 (by simp [kind, ho]) ?_, hR, h⟩
 unfold Z02
 simp only [ho, Z04 hx, e, hs, if_true]
 exact ZcC hH hr
def mvS (b : Nat) : AV -> AV
 | .slice _ o l c z => .slice b o l c z
 | v => v
noncomputable def Zk5 (P : Program) (gl : Glob) (d n : Nat) (t : TypeId) (x : Operand) (lo hi : Option Operand) : OpF d := fun _ E T k => match Z3G gl d n E x, Z54 (Z3G gl d n E) lo, Z54 (Z3G gl d n E) hi with
 | some u, some lo, some hi => (match u with
  | .ptr b off => (match Z2l P t (.ptr 0 off) lo hi [T.get b] with | some r => Z5v (mvS b r) fun r => k r T | none => none)
  | _ => none)
 | _, _, _ => none
theorem ZaI {t : TypeId} {b off : Nat} {lo hi : Option AV} {o : AObj} {H : Z00} {r : AV} (hb : H[b]? = some o) (h : Z2l P t (.ptr 0 off) lo hi [o] = some r) : o.alive = true /\ Z2l P t (.ptr b off) lo hi H = some (mvS b r) := by
 unfold Z2l at h ⊢
 simp only [List.getElem?_cons_zero] at h
 simp only [hb]
 split at h <;> try (simp at h; done)
 rename_i n e ht
 split at h <;> try (simp at h; done)
 rename_i z hz
 split at h <;> try (simp at h; done)
 rename_i cs ty hal hbd
 split at h <;> try (simp at h; done)
 rename_i hle
 split at h <;> try (simp at h; done)
 rename_i k hk
 split at h <;> simp at h
 subst h; rename_i l hl
 refine ⟨hal, ?_⟩
 simp only [ht, hz, hal, hbd, hle, if_true, hk, hl, mvS]
theorem Zhb {t : TypeId} {x : Operand} {lo hi : Option Operand} (ho : o.op = .slice t x lo hi none) (ht : ∃ m e, P.underlying t = some (.array m e)) : Z0Z P gl d n o (Zk5 P gl d n t x lo hi) := by
 intro forc orc E T k out H hO hR h
 unfold Zk5 at h
 split at h <;> try (cases h; done)
 rename_i u lo1 hi1 hu hlo hhi
 split at h <;> try (cases h; done)
 rename_i b off
 split at h <;> try (cases h; done)
 rename_i r hr
 rw [Z1b] at h
 obtain ⟨m, e, ht⟩ := ht
 have hal : (T.get b).alive = true := by
  unfold Z2l at hr
  simp only [List.getElem?_cons_zero, ht] at hr
  split at hr <;> try (simp at hr; done)
  split at hr
  · rename_i ha _; exact ha
  · cases hr
 obtain ⟨_, hr2⟩ := ZaI (hR.obj b hal) hr
 have hp : Z02 P (Z3G gl d n E) H o = none := by
  simp [Z02, Z0f, ho, hu, hlo, hhi, Z3P]
 refine ⟨_, T, H, ?_, hR, h⟩
 rw [Z43 (by simp [kind, ho]), hp]
 simp only [Z2D, ho, hu, hlo, hhi, hr2]
noncomputable def Zhx (dd : TypeDesc) (gm gk gv : Tre AV d -> AV) : OpF d := fun _ E T k => frc1 (gm E) fun m => frc1 (gk E) fun key => frc1 (gv E) fun v => match m with
 | .map b => Z97 (T.get b) (fun fam sh es clock => match Z3n dd key es 0 with
  | some (some (i, _)) => Zjo (Zfu key v i es) fun es' => Zj1 T b ⟨true, fam, sh, .map es' clock⟩ fun T' => k (.tuple []) T'
  | some none => Zjo (ZeF es [(key, v, clock)]) fun es' => Z1V (Nat.add clock 1) fun c' => Zj1 T b ⟨true, fam, sh, .map es' c'⟩ fun T' => k (.tuple []) T'
  | none => none) none
 | _ => none
theorem Zfv {t e : TypeId} {m key v : Operand} {dd : TypeDesc} {gm gk gv : Tre AV d -> AV} (ho : o.op = .mapUpdate t m key v \/ o.op = .insert t m key v) (hd : Z2i P t = some (dd, e)) (hm : Z0r gl d n m = some gm) (hk : Z0r gl d n key = some gk)
  (hv : Z0r gl d n v = some gv) : Z0Z P gl d n o (Zhx dd gm gk gv) := by
 intro forc orc E T k out H hO hR h
 simp only [Zhx, Z0h] at h
 split at h <;> try (cases h; done)
 rename_i b e1
 replace h : Z97 (T.get b) _ none = some out := h
 obtain ⟨fam, sh, es, clock, e2, h⟩ := Z4U h
 have e2 : T.get b = ⟨true, fam, sh, .map es clock⟩ := e2
 have hH := hR.obj b (by rw [e2])
 rw [e2] at hH
 have key : ∀ H', Z1T P t (gm E) (gk E) (gv E) H = some H' -> aop P orc (Z3G gl d n E) o H = some (.tuple [], H') := by
  intro H' g
  rcases ho with ho | ho <;> simp [aop, Z02, Z0f, Z2D, ho, Z04 hm, Z04 hk, Z04 hv, g]
 split at h <;> try (cases h; done)
 · rename_i i w hf
   rw [Z8q, Z8e] at h
   exact ⟨_, _, _, key _ (by simp only [Z1T, hd, e1, hH, hf]), hR.set' e2 _, h⟩
 · rename_i hf
   rw [Z8q, Z0g, Z8e, Z53] at h
   exact ⟨_, _, _, key _ (by simp only [Z1T, hd, e1, hH, hf]), hR.set' e2 _, h⟩
noncomputable def Zkf (dd : TypeDesc) (z : AV) (ok : Bool) (gm gk : Tre AV d -> AV) : OpF d := fun _ E T k => frc1 (gm E) fun m => frc1 (gk E) fun key =>
 match (match m with | .nmap => some [] | .map b => Z97 (T.get b) (fun _ _ es _ => some es) none | _ => none) with
 | some es => (match Z3n dd key es 0 with
  | some (some (_, v)) => frc1 v fun v => iff' ok (k (.tuple [v, .bool true]) T) (k v T)
  | some none => iff' ok (k (.tuple [z, .bool false]) T) (k z T)
  | none => none)
 | none => none
theorem Zhz {t e : TypeId} {m key : Operand} {dd : TypeDesc} {z : AV} {ok : Bool} {gm gk : Tre AV d -> AV} (ho : o.op = .lookup t m key ok) (hd : Z2i P t = some (dd, e)) (hz : Z1C P e = some z) (hm : Z0r gl d n m = some gm) (hk : Z0r gl d n key = some gk) :
  Z0Z P gl d n o (Zkf dd z ok gm gk) := by
 intro forc orc E T k out H hO hR h
 simp only [Zkf, Z0h] at h
 split at h <;> try (cases h; done)
 rename_i es hes
 have hes' : Zdm H (gm E) = some es := by
  split at hes <;> try (cases hes; done)
  · rename_i e1; simp at hes; subst hes; rw [e1]; rfl
  · rename_i b e1
    replace hes : Z97 (T.get b) _ none = some es := hes
    obtain ⟨fam, sh, es', cl, e2, h3⟩ := Z4U hes
    have e2 : T.get b = ⟨true, fam, sh, .map es' cl⟩ := e2
    have h3 : es' = es := by simpa using h3
    subst h3
    have hH := hR.obj b (by rw [e2])
    rw [e2] at hH
    rw [e1]; simp [Zdm, Z7A, hH]
 split at h <;> try (cases h; done)
 · rename_i i v hf
   rw [Z1A] at h
   refine ⟨if ok = true then .tuple [v, .bool true] else v, T, H, Z08 (by simp [kind, ho]) (by simp only [Z02, ho, Z04 hm, Z04 hk, Z3m, hd, hes', hf]), hR, ?_⟩
   cases ok <;> simpa using h
 · rename_i hf
   rw [Z1A] at h
   refine ⟨if ok = true then .tuple [z, .bool false] else z, T, H, Z08 (by simp [kind, ho]) (by simp only [Z02, ho, Z04 hm, Z04 hk, Z3m, hd, hes', hf, hz]), hR, ?_⟩
   cases ok <;> simpa using h
end ops
end Go.Abs
end

section
namespace Go.Abs
open Go.RowKit
section cop
variable (P : Program) (gl : Glob) (d n : Nat)
noncomputable def Z2R (o : Oper) : Option (OpF d) := match kind o with
 | 0 => some (Z92 P gl d n o)
 | 2 => some (Zh8 P gl d n o)
 | _ => none
noncomputable def Zen (o : Oper) (op : BinOp) (x y : Operand) : Option (OpF d) := match ZjX op, Z0r gl d n x, Z0r gl d n y with
 | some F, some gx, some gy => some (Zlh F gx gy (Z92 P gl d n o))
 | _, _, _ => Z2R P gl d n o
noncomputable def Zau (t : TypeId) (x : Operand) : Option (OpF d) := match Z0r gl d n x with
 | some g => match Z3L P t with
  | some false => some (Zgu g)
  | some true => match tsz P t with | some m => Z1V m fun m => some (Zgt m g) | none => none
  | none => none
 | none => none
noncomputable def Zed (s : TypeId) (x : Operand) (f : Nat) : Option (OpF d) := match Z0r gl d n x, Z3W P s f with
 | some g, some fd => match tsz P fd.type with
  | some (_ + 1) => Z1V fd.offset fun c => some (Zl9 c g)
  | _ => none
 | _, _ => none
noncomputable def Zeb (o : Oper) (t : TypeId) (x i : Operand) : Option (OpF d) := match Z0r gl d n x, Z0r gl d n i with
 | some gx, some gi => match P.underlying t with
  | some (.slice e) => match tsz P e with | some z => Z1V z fun z => some (Zl5 z gx gi) | none => none
  | _ => Z2R P gl d n o
 | _, _ => none
noncomputable def Ze9 (o : Oper) (t : TypeId) (x i : Operand) : Option (OpF d) := match Z0r gl d n x, Z0r gl d n i with
 | some gx, some gi => match P.underlying t with
  | some .string => some (Zl4 gx gi)
  | _ => Z2R P gl d n o
 | _, _ => none
noncomputable def Ze7 (o : Oper) (x : Operand) (t : TypeId) : Option (OpF d) := match Z0r gl d n x with
 | some g => match P.underlying t with
  | some .string => some (Zjc g)
  | some (.slice _) => some (Zl3 g)
  | some (.map _ _) => some (ZhB g)
  | _ => none
 | none => none
noncomputable def Zep (s x : Operand) (t t2 : TypeId) : Option (OpF d) := match Z0r gl d n s, Z0r gl d n x with
 | some gs, some gx => match P.underlying t with
  | some (.slice e) => match P.info? e, Z1C P e with
   | some i, some u => iff' (apx P t2 && Nat.beq u.cells.length i.size) (Z1V i.size fun z => Z1V i.bytes fun b => some (Zlj e z b gs gx)) none
   | _, _ => none
  | _ => none
 | _, _ => none
noncomputable def Zef (s x : Operand) (t : TypeId) : Option (OpF d) := match Z0r gl d n s, Z0r gl d n x with
 | some gs, some gx => match P.underlying t with
  | some (.slice e) => match tsz P e with
   | some z => Z1V z fun z => some (Zlb z gs gx)
   | none => none
  | _ => none
 | _, _ => none
noncomputable def Zav (o : Oper) (c : Call) : Option (OpF d) := match c.callee with
 | .value (.func g) => match cargs gl d n c.args.toList with | some G => iff' (Z09 P g) (some (ZjE g G)) (iff' (ZfT P g) (some (Zjs G)) (iff' (Z8u P g) (some (Zkh G)) (match Z8t P g with | some e => Z1V e fun e => some (Zkd e G) | none => none))) | none => none
 | .value f => match Z0r gl d n f, cargs gl d n c.args.toList with | some gf, some G => some (Zil P gf G) | _, _ => none
 | .builtin .len => match c.args.toList, c.argTypes.toList with | [x], t :: _ => Ze7 P gl d n o x t | _, _ => none
 | .builtin .append => match c.args.toList, c.argTypes.toList with | [s, x], [t, t2] => Zep P gl d n s x t t2 | _, _ => none
 | .builtin .cap => match c.args.toList, c.argTypes.toList with | [x], [t] => (match Z0r gl d n x, P.underlying t with | some g, some (.slice _) => some (Zlf g) | _, _ => none) | _, _ => none
 | .builtin .clear => match c.args.toList, c.argTypes.toList with
  | [x], [t] => (match Z0r gl d n x, P.underlying t with | some g, some (.slice e) => (match Z1C P e with | some u => Z5j u.cells fun zs => Z1V zs.length fun z => some (Zld zs z g) | none => none) | _, _ => none)
  | _, _ => none
 | .builtin .unsafeSliceData => match c.args.toList with | [x] => (match Z0r gl d n x with | some g => some (ZkV g) | none => none) | _ => none
 | .builtin .unsafeString => match c.args.toList, c.argTypes.toList with | [x, y], [t, _] => (match Z0r gl d n x, Z0r gl d n y with | some gx, some gn => some (ZkK P t gx gn) | _, _ => none) | _, _ => none
 | .builtin .copy => match c.args.toList, c.argTypes.toList with | [s, x], [t, _] => Zef P gl d n s x t | _, _ => none
 | _ => Z2R P gl d n o
noncomputable def Ze1 (t : TypeId) (a x : Operand) : Option (OpF d) := match Z0r gl d n a, Z0r gl d n x, tsz P t with
 | some ga, some gx, some m => Z1V m fun m => some (Zk3 m ga gx)
 | _, _, _ => none
noncomputable def ZbC (t : TypeId) (m k v : Operand) : Option (OpF d) := match Z2i P t, Z0r gl d n m, Z0r gl d n k, Z0r gl d n v with
 | some (dd, _), some gm, some gk, some gv => some (Zhx dd gm gk gv)
 | _, _, _, _ => none
noncomputable def Ze5 (t : TypeId) (m k : Operand) (ok : Bool) : Option (OpF d) := match Z2i P t, Z0r gl d n m, Z0r gl d n k with
 | some (dd, e), some gm, some gk => match Z1C P e with | some z => Z5v z fun z => some (Zkf dd z ok gm gk) | none => none
 | _, _, _ => none
noncomputable def Zel (o : Oper) (t : TypeId) (ps : Array (Nat × Operand)) : Option (OpF d) := match P.underlying t, Z1C P t with
 | some (.struct _), some z => iff' (Z5P P t) (match Z9x gl d n (Z9k P t) ps.toList with | some G => Z5j z.cells fun zs => some (Zli zs G) | none => none) none
 | _, _ => Z2R P gl d n o
noncomputable def Zej (t : TypeId) (len : Nat) (ps : Array (Nat × Operand)) : Option (OpF d) := match Z4C P t len [] with
 | some (zs, e, z) => match Z9x gl d n (fun i => some (i * z, z)) ps.toList with | some G => Z5j zs fun zs => Z0D z fun z => some (Zlg len zs e z G) | none => none
 | none => none
noncomputable def Ze3 (t : TypeId) (x : Operand) (lo hi : Option Operand) : Option (OpF d) := match Z0r gl d n x, Zg4 gl d n lo, Zg4 gl d n hi with
 | some gx, some L, some R => match P.underlying t with
  | some .string => some (ZkT gx L R)
  | some (.slice e) => match tsz P e with | some z => Z0D z fun z => some (ZkU z gx L R) | none => none
  | some (.array _ _) => some (Zk5 P gl d n t x lo hi)
  | _ => none
 | _, _, _ => none
noncomputable def Zeh (o : Oper) (src dst : TypeId) (x : Operand) : Option (OpF d) := match P.underlying src, P.underlying dst, Z0r gl d n x with
 | some _, some (.int kk), some g => some (Zlc kk g (Z92 P gl d n o))
 | some .string, some (.slice e), some g => match P.underlying e with | some (.int .u8) => some (ZkS g) | _ => none
 | some (.pointer _), some .unsafePointer, some g => some (Zky P src dst g)
 | some .unsafePointer, some (.pointer _), some g => some (Zky P src dst g)
 | some (.slice _), some .string, some g => iff' (Z6S P src dst) (some (Zkv g)) none
 | _, _, _ => Z2R P gl d n o
noncomputable def cop (o : Oper) : Option (OpF d) := match o.op with
 | .move x => match Z0r gl d n x with | some g => some (ZjN g) | none => none
 | .assign x => match Z0r gl d n x with | some g => some (ZjN g) | none => none
 | .pick c a b => match Z0r gl d n c, Z0r gl d n a, Z0r gl d n b with | some gc, some ga, some gb => some (Zhk gc ga gb) | _, _, _ => none
 | .binOp op _ x y _ => Zen P gl d n o op x y
 | .unOp .not _ x => match Z0r gl d n x with | some g => some (ZkZ g) | none => none
 | .load t x => Zau P gl d n t x
 | .fieldAddr s x f => Zed P gl d n s x f
 | .indexAddr t x i => Zeb P gl d n o t x i
 | .index t x i => Ze9 P gl d n o t x i
 | .extract x i => match Z0r gl d n x with | some g => some (Zla i g) | none => none
 | .nilCheck x => match Z0r gl d n x with | some g => some (Zl1 g (Z92 P gl d n o)) | none => none
 | .build t ps => Zel P gl d n o t ps
 | .buildSlice t len ps => Zej P gl d n t len ps
 | .slice t x lo hi none => Ze3 P gl d n t x lo hi
 | .convert s t x => Zeh P gl d n o s t x
 | .alloc e => match Z1C P e with | some z => Z5j z.cells fun cs => some (Zlk (.cells cs e)) | none => none
 | .box e x => match Z0r gl d n x with | some g => some (ZkF e g) | none => none
 | .store t a x => Ze1 P gl d n t a x
 | .mapUpdate t m k v => ZbC P gl d n t m k v
 | .insert t m k v => ZbC P gl d n t m k v
 | .lookup t m k ok => Ze5 P gl d n t m k ok
 | .call c => Zav P gl d n o c
 | _ => Z2R P gl d n o
end cop
section ok
variable {P : Program} {gl : Glob} {d n : Nat} {o : Oper}
theorem Z1p {F : OpF d} (h : Z2R P gl d n o = some F) : Z0Z P gl d n o F := by
 unfold Z2R at h
 split at h <;> simp at h
 · subst h; exact Z86 (by assumption)
 · subst h; exact Zfc (by assumption)
theorem Zem {op : BinOp} {t t2 : TypeId} {x y : Operand} (ho : o.op = .binOp op t x y t2) {F : OpF d} (h : Zen P gl d n o op x y = some F) : Z0Z P gl d n o F := by
 unfold Zen at h
 split at h
 · rename_i B gx gy hB hx hy
   simp at h; subst h
   exact Zio ho hB hx hy (Z86 (by simp [kind, ho]))
 · exact Z1p h
theorem Zcp {t : TypeId} {x : Operand} (ho : o.op = .load t x) {F : OpF d} (h : Zau P gl d n t x = some F) : Z0Z P gl d n o F := by
 unfold Zau at h
 split at h <;> try (simp at h; done)
 rename_i g hg
 split at h <;> try (simp at h; done)
 · rename_i ht; simp at h; subst h; exact Zdr ho ht hg
 · rename_i ht
   split at h <;> try (simp at h; done)
   rename_i m hm
   rw [Z0g] at h; simp at h; subst h; exact Zdq ho ht hm hg
theorem Zec {s : TypeId} {x : Operand} {f : Nat} (ho : o.op = .fieldAddr s x f) {F : OpF d} (h : Zed P gl d n s x f = some F) : Z0Z P gl d n o F := by
 unfold Zed at h
 split at h <;> try (simp at h; done)
 rename_i g fd hg hf
 split at h <;> try (simp at h; done)
 rename_i m hm
 rw [Z0g] at h; simp at h; subst h; exact ZhX ho hf hm hg
theorem Zea {t : TypeId} {x i : Operand} (ho : o.op = .indexAddr t x i) {F : OpF d} (h : Zeb P gl d n o t x i = some F) : Z0Z P gl d n o F := by
 unfold Zeb at h
 split at h <;> try (simp at h; done)
 rename_i gx gi hx hi
 split at h
 · rename_i e ht
   split at h <;> try (simp at h; done)
   rename_i z hz
   rw [Z0g] at h; simp at h; subst h; exact ZhH ho ht hz hx hi
 · exact Z1p h
theorem Ze8 {t : TypeId} {x i : Operand} (ho : o.op = .index t x i) {F : OpF d} (h : Ze9 P gl d n o t x i = some F) : Z0Z P gl d n o F := by
 unfold Ze9 at h
 split at h <;> try (simp at h; done)
 rename_i gx gi hx hi
 split at h
 · rename_i ht; simp at h; subst h; exact ZhG ho ht hx hi
 · exact Z1p h
theorem Ze6 {c : Call} {x : Operand} {t : TypeId} {ts : List TypeId} (ho : o.op = .call c) (hc : c.callee = .builtin .len) (ha : c.args.toList = [x]) (ht : c.argTypes.toList = t :: ts) {F : OpF d} (h : Ze7 P gl d n o x t = some F) : Z0Z P gl d n o F := by
 unfold Ze7 at h
 split at h <;> try (simp at h; done)
 rename_i g hg
 split at h <;> simp at h
 · rename_i hu; subst h; exact ZfC ho hc ha ht hu hg
 · rename_i hu; subst h; exact ZhC ho hc ha ht hu hg
 · rename_i hu; subst h; exact ZfE ho hc ha ht hu hg
theorem Zeo {c : Call} {s x : Operand} {t t2 : TypeId} (ho : o.op = .call c) (hc : c.callee = .builtin .append) (ha : c.args.toList = [s, x]) (ht : c.argTypes.toList = [t, t2]) {F : OpF d} (h : Zep P gl d n s x t t2 = some F) : Z0Z P gl d n o F := by
 unfold Zep at h
 split at h <;> try (simp at h; done)
 rename_i gs gx hs hx
 split at h <;> try (simp at h; done)
 rename_i e hu
 split at h <;> try (simp at h; done)
 rename_i i u hi hz
 obtain ⟨h1, h2⟩ := Z03 h
 rw [Z0g, Z0g] at h2
 simp at h2; subst h2
 rw [Bool.and_eq_true] at h1
 exact Zis ho hc ha ht hu hi hz h1.1 (Nat.eq_of_beq_eq_true h1.2) hs hx
theorem Zee {c : Call} {s x : Operand} {t t2 : TypeId} (ho : o.op = .call c) (hc : c.callee = .builtin .copy) (ha : c.args.toList = [s, x]) (ht : c.argTypes.toList = [t, t2]) {F : OpF d} (h : Zef P gl d n s x t = some F) : Z0Z P gl d n o F := by
 unfold Zef at h
 split at h <;> try (simp at h; done)
 rename_i gs gx hs hx
 split at h <;> try (simp at h; done)
 rename_i e hu
 split at h <;> try (simp at h; done)
 rename_i z hz
 rw [Z0g] at h; simp at h; subst h
 exact Zi9 ho hc ha ht hu hz hs hx
theorem Zcq {c : Call} (ho : o.op = .call c) {F : OpF d} (h : Zav P gl d n o c = some F) : Z0Z P gl d n o F := by
 unfold Zav at h
 split at h
 · rename_i g hc
   split at h <;> try (simp at h; done)
   rename_i G hG
   rcases Z0u h with ⟨h1, h2⟩ | ⟨_, h2⟩
   · simp at h2; subst h2
     exact Zg5 ho hc h1 hG
   · rcases Z0u h2 with ⟨h1, h2⟩ | ⟨_, h2⟩
     · simp at h2; subst h2
       exact ZfS ho hc h1 hG
     rcases Z0u h2 with ⟨h1, h2⟩ | ⟨_, h2⟩
     · simp at h2; subst h2
       exact ZhD ho hc h1 hG
     · split at h2 <;> try (simp at h2; done)
       rename_i e he
       rw [Z0g] at h2; simp at h2; subst h2
       exact Zhv ho hc he hG
 · rename_i f hc _
   split at h <;> simp at h
   rename_i gf G hf hG
   subst h
   exact Zg6 ho (by assumption) hf hG
 · rename_i hc
   split at h <;> try (simp at h; done)
   rename_i x t ts ha ht
   exact Ze6 ho hc ha ht h
 · rename_i hc
   split at h <;> try (simp at h; done)
   rename_i s x t t2 ha ht
   exact Zeo ho hc ha ht h
 · rename_i hc
   split at h <;> try (simp at h; done)
   rename_i x t ha ht
   split at h <;> simp at h
   subst h
   exact Zik ho hc ha ht (by assumption) (by assumption)
 · rename_i hc
   split at h <;> try (simp at h; done)
   rename_i x t ha ht
   split at h <;> try (simp at h; done)
   rename_i g e hg hu
   split at h <;> try (simp at h; done)
   rename_i u hz
   rw [Z1P, Z0g] at h
   simp at h
   subst h
   exact Zib ho hc ha ht hu hz hg
 · rename_i hc
   split at h <;> try (simp at h; done)
   rename_i x ha
   split at h <;> simp at h
   subst h
   exact Zha ho hc ha (by assumption)
 · rename_i hc
   split at h <;> try (simp at h; done)
   rename_i x y t t2 ha ht
   split at h <;> simp at h
   subst h
   exact ZgZ ho hc ha ht (by assumption) (by assumption)
 · rename_i hc
   split at h <;> try (simp at h; done)
   rename_i s x t t2 ha ht
   exact Zee ho hc ha ht h
 · exact Z1p h
theorem Ze0 {t : TypeId} {a x : Operand} (ho : o.op = .store t a x) {F : OpF d} (h : Ze1 P gl d n t a x = some F) : Z0Z P gl d n o F := by
 unfold Ze1 at h
 split at h <;> try (simp at h; done)
 rename_i ga gx m ha hx hm
 rw [Z0g] at h; simp at h; subst h
 exact Zh2 ho hm ha hx
theorem Z9w {t : TypeId} {m k v : Operand} (ho : o.op = .mapUpdate t m k v \/ o.op = .insert t m k v) {F : OpF d} (h : ZbC P gl d n t m k v = some F) : Z0Z P gl d n o F := by
 unfold ZbC at h
 split at h <;> simp at h
 subst h
 exact Zfv ho (by assumption) (by assumption) (by assumption) (by assumption)
theorem Ze4 {t : TypeId} {m k : Operand} {ok : Bool} (ho : o.op = .lookup t m k ok) {F : OpF d} (h : Ze5 P gl d n t m k ok = some F) : Z0Z P gl d n o F := by
 unfold Ze5 at h
 split at h <;> try (simp at h; done)
 rename_i dd e gm gk hd hm hk
 split at h <;> try (simp at h; done)
 rename_i z hz
 rw [Z1b] at h; simp at h; subst h
 exact Zhz ho hd hz hm hk
theorem Zek {t : TypeId} {ps : Array (Nat × Operand)} (ho : o.op = .build t ps) {F : OpF d} (h : Zel P gl d n o t ps = some F) : Z0Z P gl d n o F := by
 unfold Zel at h
 split at h
 · rename_i fs z hu hz
   obtain ⟨h1, h2⟩ := Z03 h
   split at h2 <;> try (simp at h2; done)
   rename_i G hG
   rw [Z1P] at h2; simp at h2; subst h2
   exact Zip ho hz hu h1 hG
 · exact Z1p h
theorem Zei {t : TypeId} {len : Nat} {ps : Array (Nat × Operand)} (ho : o.op = .buildSlice t len ps) {F : OpF d} (h : Zej P gl d n t len ps = some F) : Z0Z P gl d n o F := by
 unfold Zej at h
 split at h <;> try (simp at h; done)
 rename_i zs e z hz
 split at h <;> try (simp at h; done)
 rename_i G hG
 rw [Z1P, Z0G] at h; simp at h; subst h
 exact Zim ho hz hG
theorem Ze2 {t : TypeId} {x : Operand} {lo hi : Option Operand} (ho : o.op = .slice t x lo hi none) {F : OpF d} (h : Ze3 P gl d n t x lo hi = some F) : Z0Z P gl d n o F := by
 unfold Ze3 at h
 split at h <;> try (simp at h; done)
 rename_i gx L R hx hL hR
 split at h <;> try (simp at h; done)
 · rename_i ht; simp at h; subst h; exact Zh7 ho ht hx hL hR
 · rename_i e ht
   split at h <;> try (simp at h; done)
   rename_i z hz
   rw [Z0G] at h; simp at h; subst h; exact Zh9 ho ht hz hx hL hR
 · rename_i m e ht
   simp at h; subst h; exact Zhb ho ⟨m, e, ht⟩
theorem Zeg {src dst : TypeId} {x : Operand} (ho : o.op = .convert src dst x) {F : OpF d} (h : Zeh P gl d n o src dst x = some F) : Z0Z P gl d n o F := by
 unfold Zeh at h
 split at h
 · rename_i td kk g hs hd hg
   simp at h; subst h
   exact Zia ho hs hd hg (Zfd ho)
 · rename_i e g hs hd hg
   split at h <;> simp at h
   rename_i he
   subst h
   exact Zh4 ho hs hd he hg
 · rename_i e g hs hd hg
   simp at h; subst h
   exact Zeq ho (.inr hd) hg
 · rename_i e g hs hd hg
   simp at h; subst h
   exact Zeq ho (.inl ⟨_, hd⟩) hg
 · rename_i e g hs hd hg
   obtain ⟨h1, h2⟩ := Z03 h
   simp at h2; subst h2
   exact Zi7 ho h1 hg
 · exact Z1p h
theorem ZgK {F : OpF d} (h : cop P gl d n o = some F) : Z0Z P gl d n o F := by
 unfold cop at h
 split at h
 · rename_i x ho; split at h <;> simp at h; subst h; exact Zdi (.inl ho) (by assumption)
 · rename_i x ho; split at h <;> simp at h; subst h; exact Zdi (.inr ho) (by assumption)
 · rename_i c a b ho; split at h <;> simp at h; subst h; exact Zfj ho (by assumption) (by assumption) (by assumption)
 · rename_i ho; exact Zem ho h
 · rename_i ho; split at h <;> simp at h; subst h; exact Zhq ho (by assumption)
 · rename_i ho; exact Zcp ho h
 · rename_i ho; exact Zec ho h
 · rename_i ho; exact Zea ho h
 · rename_i ho; exact Ze8 ho h
 · rename_i ho; split at h <;> simp at h; subst h; exact ZhY ho (by assumption)
 · rename_i ho; split at h <;> simp at h; subst h; exact Zhu ho (by assumption) (Z86 (by simp [kind, ho]))
 · rename_i ho; exact Zek ho h
 · rename_i ho; exact Zei ho h
 · rename_i ho; exact Ze2 ho h
 · rename_i ho; exact Zeg ho h
 · rename_i ho; split at h <;> try (simp at h; done)
   rename_i z hz
   rw [Z1P] at h; simp at h; subst h; exact Ziv ho hz
 · rename_i ho; split at h <;> simp at h; subst h; exact Zin ho (by assumption)
 · rename_i ho; exact Ze0 ho h
 · rename_i ho; exact Z9w (.inl ho) h
 · rename_i ho; exact Z9w (.inr ho) h
 · rename_i ho; exact Ze4 ho h
 · rename_i ho; exact Zcq ho h
 · exact Z1p h
end ok
section seq
variable (P : Program) (gl : Glob) (d n : Nat)
abbrev StF (d : Nat) := Z4K -> Tre AV d -> TH -> (Tre AV d -> TH -> Res) -> Res
noncomputable def Zjw (dst : Option Tmp) : Option (AV -> Tre AV d -> (Tre AV d -> Res) -> Res) := match dst with
 | none => some fun _ E f => f E
 | some t => iff' (Nat.blt t n) (Bx.rec (fun p => some p) (Zhj AV Res d t)) none
noncomputable def ZiQ (ops : List Oper) (o : Oper) : Option (Option ((Tre AV d -> AV) × Bool)) := match o.guard with
 | none => some none
 | some (j, want) => match ops[j]? with
  | some g => match g.dst with
   | some t => iff' (Nat.blt t n) (Bx.rec (fun q => some (some (q, want))) (Zdw AV d t)) none
   | none => none
  | none => none
noncomputable def Z9v (ops : List Oper) (o : Oper) : Option (StF d) := match cop P gl d n o, Zjw d n o.dst, ZiQ d n ops o with
 | some F, some p, some none => some fun forc E T k => F forc E T fun v T' => p v E fun E' => k E' T'
 | some F, some p, some (some (q, want)) => some fun forc E T k => Z23 (q E) (fun b => iff' b (iff' want (F forc E T fun v T' => p v E fun E' => k E' T') (p (.tuple []) E fun E' => k E' T))
  (iff' want (p (.tuple []) E fun E' => k E' T) (F forc E T fun v T' => p v E fun E' => k E' T'))) (p (.tuple []) E fun E' => k E' T)
 | _, _, _ => none
noncomputable def ZjR (ops : List Oper) (forc : Z4K) (l : List Oper) : Tre AV d -> TH -> (Tre AV d -> TH -> Res) -> Res :=
 List.rec (motive := fun _ => Tre AV d -> TH -> (Tre AV d -> TH -> Res) -> Res) (fun E T k => k E T) (fun o _ ih E T k => Option.rec none (fun s => s forc E T fun E' T' => ih E' T' k) (Z9v P gl d n ops o)) l
end seq
theorem ZfM {β : Type} (o : Oper) (r : AV) (H : Z00) (f : AV -> Z00 -> β) : ZhS o r H f = f r H := Z1c o r H f
theorem Z4d : ∀ {t : Tr} {n : Nat}, tex t n = true -> ∀ v, ∃ t', ZaT t n v = some t'
 | .leaf, n, h, v => by simp [tex] at h
 | .node x l r, 0, h, v => by
  cases x with
  | none => simp [tex] at h
  | some y => exact ⟨_, rfl⟩
 | .node x l r, n + 1, h, v => by
  simp only [tex] at h
  simp only [ZaT]
  split at h
  · rename_i e
    obtain ⟨t', h'⟩ := Z4d (t := l) h v
    simp only [e, h']; exact ⟨_, rfl⟩
  · rename_i e
    obtain ⟨t', h'⟩ := Z4d (t := r) h v
    cases hm : Nat.mod n 2 with
    | zero => exact (e hm).elim
    | succ m => simp only [h']; exact ⟨_, rfl⟩
theorem Z80 : ∀ (d : Nat) (g : Nat -> Option AV) (n : Nat), n + 1 < 2 ^ d -> Z0I (tmk g d) n = g n
 | 0, g, n, h => by simp at h
 | d + 1, g, 0, h => by simp only [tmk, Z0I]; cases g 0 <;> rfl
 | d + 1, g, n + 1, h => by
  rw [Nat.pow_succ] at h
  simp only [tmk, Z0I]
  split
  · rename_i e
    have e' : n % 2 = 0 := e
    have hd : Nat.div n 2 = n / 2 := rfl
    rw [Z80 d _ _ (by rw [hd]; omega)]
    show g (2 * (n / 2) + 1) = _
    congr 1; omega
  · rename_i e
    have e' : ¬ n % 2 = 0 := e
    have hd : Nat.div n 2 = n / 2 := rfl
    rw [Z80 d _ _ (by rw [hd]; omega)]
    show g (2 * (n / 2) + 2) = _
    congr 1; omega
section seqok
variable {P : Program} {gl : Glob} {d n : Nat}
theorem EnvSim.put {E : Tre AV d} {tm : Tr} (hn : n <= 8 ^ d) (h : EnvSim d n E tm) {t : Nat} (ht : t < n) (v : AV) : ∃ tm', ZaT tm t v = some tm' /\ EnvSim d n (ZbV d t v E) tm' := by
 have hg : tex tm t = true := Z5C _ _ _ (by rw [h t, if_pos ht])
 obtain ⟨tm', h1⟩ := Z4d hg v
 refine ⟨tm', h1, fun s => ?_⟩
 rw [(Z1Z _ _ _ _ h1).2.1 s]
 by_cases hs : s < n
 · rw [if_pos hs, Z33 d t s v E (by omega) (by omega)]
   by_cases e : s = t
   · rw [if_pos e, if_pos e]
   · rw [if_neg e, if_neg e, h s, if_pos hs]
 · rw [if_neg hs, if_neg (by omega), h s, if_neg hs]
theorem ZdZ (hn : n <= 8 ^ d) {dst : Option Tmp} {p : AV -> Tre AV d -> (Tre AV d -> Res) -> Res} (h : Zjw d n dst = some p) {E : Tre AV d} {tm : Tr} (hE : EnvSim d n E tm) (v : AV) (f : Tre AV d -> Res) :
  ∃ E' tm', Z31 dst v tm = some tm' /\ EnvSim d n E' tm' /\ p v E f = f E' := by
 unfold Zjw at h
 cases dst with
 | none => simp at h; subst h; exact ⟨E, tm, rfl, hE, rfl⟩
 | some t =>
  obtain ⟨h1, h2⟩ := Z03 (show iff' (Nat.blt t n) (Bx.rec (fun p => some p) (Zhj AV Res d t)) none = some p from h)
  have ht : t < n := by simpa [Nat.blt_eq] using h1
  have h3 : some (Zhj AV Res d t).v = some p := h2
  simp at h3; subst h3
  obtain ⟨tm', g1, g2⟩ := hE.put hn ht v
  exact ⟨_, tm', g1, g2, Zad d t v E f⟩
def ZjG (P : Program) (gl : Glob) (d n : Nat) (ops : List Oper) (o : Oper) (s : StF d) : Prop :=
 ∀ forc orc E T (k : Tre AV d -> TH -> Res) out H tm, Z16 forc orc -> Rep T H -> EnvSim d n E tm -> s forc E T k = some out ->
  ∃ E' T' tm' H', EnvSim d n E' tm' /\ Rep T' H' /\ k E' T' = some out /\
   ((Z0m ops o tm = some true /\ ∃ r, aop P orc (Z1g gl tm) o H = some (r, H') /\ Z31 o.dst r tm = some tm') \/ (Z0m ops o tm = some false /\ Z31 o.dst (.tuple []) tm = some tm' /\ H' = H))
theorem ZbB (hn : n <= 8 ^ d) {ops : List Oper} {o : Oper} {s : StF d} (h : Z9v P gl d n ops o = some s) : ZjG P gl d n ops o s := by
 intro forc orc E T k out H tm hO hR hE he
 have run : ∀ {F : OpF d} {p : AV -> Tre AV d -> (Tre AV d -> Res) -> Res}, cop P gl d n o = some F -> Zjw d n o.dst = some p -> (F forc E T fun v T' => p v E fun E' => k E' T') = some out ->
   ∃ E' T' tm' H', EnvSim d n E' tm' /\ Rep T' H' /\ k E' T' = some out /\ ∃ r, aop P orc (Z1g gl tm) o H = some (r, H') /\ Z31 o.dst r tm = some tm' := by
  intro F p hF hp h1
  obtain ⟨r, T', H', g1, g2, g3⟩ := ZgK hF forc orc E T _ out H hO hR h1
  rw [Z8a hE] at g1
  obtain ⟨E', tm', g4, g5, g6⟩ := ZdZ hn hp hE r (fun E' => k E' T')
  rw [g6] at g3
  exact ⟨E', T', tm', H', g5, g2, g3, r, g1, g4⟩
 have skip : ∀ {p : AV -> Tre AV d -> (Tre AV d -> Res) -> Res}, Zjw d n o.dst = some p -> (p (.tuple []) E fun E' => k E' T) = some out ->
   ∃ E' T' tm' H', EnvSim d n E' tm' /\ Rep T' H' /\ k E' T' = some out /\ Z31 o.dst (.tuple []) tm = some tm' /\ H' = H := by
  intro p hp h1
  obtain ⟨E', tm', g4, g5, g6⟩ := ZdZ hn hp hE (.tuple []) (fun E' => k E' T)
  rw [g6] at h1
  exact ⟨E', T, tm', H, g5, hR, h1, g4, rfl⟩
 unfold Z9v at h
 split at h <;> try (simp at h; done)
 · rename_i F p hF hp hg
   simp at h; subst h
   have hw : Z0m ops o tm = some true := by
    unfold ZiQ at hg
    unfold Z0m
    split at hg
    · rename_i e; simp [e]
    · exfalso
      split at hg <;> try (simp at hg; done)
      split at hg <;> try (simp at hg; done)
      obtain ⟨_, h2⟩ := Z03 hg
      simp at h2
   obtain ⟨E', T', tm', H', g1, g2, g3, g4⟩ := run hF hp he
   exact ⟨E', T', tm', H', g1, g2, g3, .inl ⟨hw, g4⟩⟩
 · rename_i F p q want hF hp hg
   simp at h; subst h
   have hw : Z0m ops o tm = (match q E with | .bool b => some (b == want) | _ => some false) := by
    unfold ZiQ at hg
    unfold Z0m
    split at hg
    · simp at hg
    · rename_i j w e
      split at hg <;> try (simp at hg; done)
      rename_i g hj
      split at hg <;> try (simp at hg; done)
      rename_i t ht
      obtain ⟨h1, h2⟩ := Z03 hg
      have h3 : some (some ((Zdw AV d t).v, w)) = some (some (q, want)) := h2
      simp at h3
      obtain ⟨rfl, rfl⟩ := h3
      have htn : t < n := by simpa [Nat.blt_eq] using h1
      simp only [e, hj, ht, hE t, if_pos htn, Z4Y]
      split <;> simp_all
   rcases Z1L he with ⟨b, e, h1⟩ | ⟨e, h1⟩
   · rw [e] at hw
     cases b <;> cases want
     · obtain ⟨E', T', tm', H', g1, g2, g3, g4⟩ := run hF hp h1
       exact ⟨E', T', tm', H', g1, g2, g3, .inl ⟨hw, g4⟩⟩
     · obtain ⟨E', T', tm', H', g1, g2, g3, g4⟩ := skip hp h1
       exact ⟨E', T', tm', H', g1, g2, g3, .inr ⟨hw, g4⟩⟩
     · obtain ⟨E', T', tm', H', g1, g2, g3, g4⟩ := skip hp h1
       exact ⟨E', T', tm', H', g1, g2, g3, .inr ⟨hw, g4⟩⟩
     · obtain ⟨E', T', tm', H', g1, g2, g3, g4⟩ := run hF hp h1
       exact ⟨E', T', tm', H', g1, g2, g3, .inl ⟨hw, g4⟩⟩
   · have hw2 : Z0m ops o tm = some false := by rw [hw]; split <;> simp_all
     obtain ⟨E', T', tm', H', g1, g2, g3, g4⟩ := skip hp h1
     exact ⟨E', T', tm', H', g1, g2, g3, .inr ⟨hw2, g4⟩⟩
theorem Zdz (hn : n <= 8 ^ d) {ops : List Oper} {forc : Z4K} {orc : Orc} (hO : Z16 forc orc) : ∀ (l : List Oper) (E : Tre AV d) (T : TH) (k : Tre AV d -> TH -> Res) (out : AV × TH) (H : Z00) (tm : Tr), Rep T H -> EnvSim d n E tm -> ZjR P gl d n ops forc l E T k = some out ->
  ∃ E' T' tm' H', ZcH P gl orc ops l tm H = some (tm', H') /\ EnvSim d n E' tm' /\ Rep T' H' /\ k E' T' = some out
 | [], E, T, k, out, H, tm, hR, hE, h => ⟨E, T, tm, H, rfl, hE, hR, h⟩
 | o :: l, E, T, k, out, H, tm, hR, hE, h => by
  have h : (Option.rec none (fun s => s forc E T fun E' T' => ZjR P gl d n ops forc l E' T' k) (Z9v P gl d n ops o) : Res) = some out := h
  cases hs : Z9v P gl d n ops o with
  | none => rw [hs] at h; cases h
  | some s =>
   rw [hs] at h
   obtain ⟨E1, T1, tm1, H1, g1, g2, g3, g4⟩ := ZbB hn hs forc orc E T _ out H tm hO hR hE h
   obtain ⟨E2, T2, tm2, H2, k1, k2, k3, k4⟩ := Zdz hn hO l E1 T1 k out H1 tm1 g2 g1 g3
   refine ⟨E2, T2, tm2, H2, ?_, k2, k3, k4⟩
   rcases g4 with ⟨w1, r, w2, w3⟩ | ⟨w1, w2, rfl⟩
   · simp only [ZcH, w1, w2, ZfM, w3, k1]
   · simp only [ZcH, w1, w2, k1]
end seqok
end Go.Abs
end

section
namespace Go.Abs
open Go.RowKit
noncomputable def ieq (a b : Int) : Bool := Int.rec (motive := fun _ => Int -> Bool) (fun a b => Int.rec (fun b => Nat.beq a b) (fun _ => false) b) (fun a b => Int.rec (fun _ => false) (fun b => Nat.beq a b) b) a b
theorem Zjf {a b : Int} (h : ieq a b = true) : a = b := by
 cases a <;> cases b
 · exact congrArg _ (Nat.eq_of_beq_eq_true h)
 · cases h
 · cases h
 · exact congrArg _ (Nat.eq_of_beq_eq_true h)
noncomputable def ZiG (v w : AV) : Bool :=
 Zc9 v (fun k n => Zc9 w (fun k' n' => iff' (Nat.beq (kix k) (kix k')) (ieq n n') false) false)
  (Z3I v (fun s => Z3I w (fun s' => eqS s s') false) (Z23 v (fun b => Z23 w (fun b' => iff' b b' (!b')) false) (onPtr v (fun b o => onPtr w (fun b' o' => iff' (Nat.beq b b') (Nat.beq o o') false) (fun _ => false) false) (fun _ => veq v w) (veq v w))))
theorem Z0s {b x : Bool} (h : iff' b x false = true) : b = true /\ x = true := by
 cases b
 · cases h
 · exact ⟨rfl, h⟩
theorem ZgY {v w : AV} (h : ZiG v w = true) : v = w := by
 unfold ZiG at h
 cases v <;> try exact Z7b _ _ h
 · rename_i b
   replace h : Z23 w (fun b' => iff' b b' (!b')) false = true := h
   rcases Z37 w (fun b' => iff' b b' (!b')) false with ⟨b', rfl, e⟩ | ⟨_, e⟩ <;> rw [e] at h
   · cases b <;> cases b' <;> first | rfl | cases h
   · cases h
 · rename_i k n
   replace h : Zc9 w (fun k' n' => iff' (Nat.beq (kix k) (kix k')) (ieq n n') false) false = true := h
   rcases Z6g w (fun k' n' => iff' (Nat.beq (kix k) (kix k')) (ieq n n') false) false with ⟨k', n', rfl, e⟩ | e <;> rw [e] at h
   · obtain ⟨h1, h2⟩ := Z0s h
     rw [Z6p h1, Zjf h2]
   · cases h
 · rename_i s
   replace h : Z3I w (fun s' => eqS s s') false = true := h
   rcases Z2L w (fun s' => eqS s s') false with ⟨s', rfl, e⟩ | e <;> rw [e] at h
   · rw [ZdP] at h; simp at h; rw [h]
   · cases h
 · rename_i b o
   replace h : onPtr w (fun b' o' => iff' (Nat.beq b b') (Nat.beq o o') false) (fun _ => false) false = true := h
   rcases Z6f w (fun b' o' => iff' (Nat.beq b b') (Nat.beq o o') false) (fun _ => false) false with ⟨b', o', rfl, e⟩ | ⟨_, _, e⟩ | e <;> rw [e] at h
   · obtain ⟨h1, h2⟩ := Z0s h
     rw [Nat.eq_of_beq_eq_true h1, Nat.eq_of_beq_eq_true h2]
   · cases h
   · cases h
mutual
theorem Z19 : ∀ v : AV, veq v v = true
 | .bool b => by simp [veq]
 | .int k n => by simp [veq]
 | .str s => by simp [veq]
 | .nptr => rfl
 | .ptr b o => by simp [veq]
 | .rp cs => by simp [veq, veqL_refl cs]
 | .nslice => rfl
 | .slice b o l c z => by simp [veq]
 | .rs n z cs => by simp [veq, veqL_refl cs]
 | .nmap => rfl
 | .map b => by simp [veq]
 | .func f a b => by simp [veq, veqL_refl a, veqL_refl b]
 | .nfunc => rfl
 | .iface t v => by simp [veq, Z19 v]
 | .niface => rfl
 | .agg cs => by simp [veq, veqL_refl cs]
 | .tuple vs => by simp [veq, veqL_refl vs]
theorem veqL_refl : ∀ l : List AV, veqL l l = true
 | [] => rfl
 | v :: l => by simp [veqL, Z19 v, veqL_refl l]
end
noncomputable def ltV (n : Nat) (v : AV) : Bool :=
 AV.rec (motive_1 := fun _ => Nat -> Bool) (motive_2 := fun _ => Nat -> Bool) (fun _ _ => true) (fun _ _ _ => true) (fun _ _ => true) (fun _ => true) (fun b _ n => Nat.blt b n) (fun _ _ _ => true) (fun _ => true)
  (fun b _ _ _ _ n => Nat.blt b n) (fun _ _ _ _ _ => true) (fun _ => true) (fun b n => Nat.blt b n) (fun _ _ _ iha ihb n => iff' (iha n) (ihb n) false) (fun _ => true) (fun _ _ ih n => ih n) (fun _ => true)
  (fun _ ih n => ih n) (fun _ ih n => ih n) (fun _ => true) (fun _ _ ihv ihl n => iff' (ihv n) (ihl n) false) v n
noncomputable def ZjO (n : Nat) (l : List AV) : Bool :=
 AV.rec_1 (motive_1 := fun _ => Nat -> Bool) (motive_2 := fun _ => Nat -> Bool) (fun _ _ => true) (fun _ _ _ => true) (fun _ _ => true) (fun _ => true) (fun b _ n => Nat.blt b n) (fun _ _ _ => true) (fun _ => true)
  (fun b _ _ _ _ n => Nat.blt b n) (fun _ _ _ _ _ => true) (fun _ => true) (fun b n => Nat.blt b n) (fun _ _ _ iha ihb n => iff' (iha n) (ihb n) false) (fun _ => true) (fun _ _ ih n => ih n) (fun _ => true)
  (fun _ ih n => ih n) (fun _ ih n => ih n) (fun _ => true) (fun _ _ ihv ihl n => iff' (ihv n) (ihl n) false) l n
mutual
theorem Z5H {n : Nat} : ∀ (v : AV) (acc : List Nat), ltV n v = true -> (∀ x ∈ acc, x < n) -> ∀ x ∈ Z12 v acc, x < n
 | .ptr b o, acc, h, ha => by
  have hb : Nat.blt b n = true := h
  have : b < n := by simpa [Nat.blt_eq] using hb
  intro x hx; simp only [Z12, List.mem_cons] at hx
  rcases hx with rfl | hx
  · exact this
  · exact ha x hx
 | .slice b o l c z, acc, h, ha => by
  have hb : Nat.blt b n = true := h
  have : b < n := by simpa [Nat.blt_eq] using hb
  intro x hx; simp only [Z12, List.mem_cons] at hx
  rcases hx with rfl | hx
  · exact this
  · exact ha x hx
 | .map b, acc, h, ha => by
  have hb : Nat.blt b n = true := h
  have : b < n := by simpa [Nat.blt_eq] using hb
  intro x hx; simp only [Z12, List.mem_cons] at hx
  rcases hx with rfl | hx
  · exact this
  · exact ha x hx
 | .func f a b, acc, h, ha => by
  obtain ⟨h1, h2⟩ := Z0s (show iff' (ZjO n a) (ZjO n b) false = true from h)
  simp only [Z12]
  exact ltVI_refs a _ h1 (ltVI_refs b acc h2 ha)
 | .iface t v, acc, h, ha => by simp only [Z12]; exact Z5H v acc h ha
 | .agg cs, acc, h, ha => by simp only [Z12]; exact ltVI_refs cs acc h ha
 | .tuple cs, acc, h, ha => by simp only [Z12]; exact ltVI_refs cs acc h ha
 | .bool _, acc, h, ha => by simpa [Z12] using ha
 | .int _ _, acc, h, ha => by simpa [Z12] using ha
 | .str _, acc, h, ha => by simpa [Z12] using ha
 | .nptr, acc, h, ha => by simpa [Z12] using ha
 | .rp _, acc, h, ha => by simpa [Z12] using ha
 | .nslice, acc, h, ha => by simpa [Z12] using ha
 | .rs _ _ _, acc, h, ha => by simpa [Z12] using ha
 | .nmap, acc, h, ha => by simpa [Z12] using ha
 | .nfunc, acc, h, ha => by simpa [Z12] using ha
 | .niface, acc, h, ha => by simpa [Z12] using ha
theorem ltVI_refs {n : Nat} : ∀ (l : List AV) (acc : List Nat), ZjO n l = true -> (∀ x ∈ acc, x < n) -> ∀ x ∈ refsL l acc, x < n
 | [], acc, h, ha => by simpa [refsL] using ha
 | v :: l, acc, h, ha => by
  obtain ⟨h1, h2⟩ := Z0s (show iff' (ltV n v) (ZjO n l) false = true from h)
  simp only [refsL]
  exact Z5H v _ h1 (ltVI_refs l acc h2 ha)
end
noncomputable def ltL (n : Nat) (l : List AV) : Bool := List.rec true (fun v _ ih => iff' (ltV n v) ih false) l
theorem Zdo {n : Nat} : ∀ {l : List AV}, ltL n l = true -> ∀ v ∈ l, ltV n v = true
 | [], h, v, hv => by simp at hv
 | u :: l, h, v, hv => by
  obtain ⟨h1, h2⟩ := Z0s (show iff' (ltV n u) (ltL n l) false = true from h)
  rcases List.mem_cons.1 hv with rfl | hv
  · exact h1
  · exact Zdo h2 v hv
theorem Zbc {n : Nat} : ∀ (l : List AV) (acc : List Nat), ltL n l = true -> (∀ x ∈ acc, x < n) -> ∀ x ∈ refsL l acc, x < n
 | [], acc, h, ha => by simpa [refsL] using ha
 | v :: l, acc, h, ha => by
  obtain ⟨h1, h2⟩ := Z0s (show iff' (ltV n v) (ltL n l) false = true from h)
  simp only [refsL]
  exact Z5H v _ h1 (Zbc l acc h2 ha)
theorem Z8A {n : Nat} : ∀ {l : List Nat}, (∀ x ∈ l, x < n) -> Z0T n l = true
 | [], h => rfl
 | i :: l, h => by
  simp only [Z0T, Bool.and_eq_true]
  exact ⟨by simpa [Nat.blt_eq] using h i (by simp), Z8A fun x hx => h x (by simp [hx])⟩
noncomputable def ltO (n : Nat) (o : AObj) : Bool :=
 AObj.rec (fun alive _ _ body => iff' alive (ABody.rec (motive := fun _ => Bool) (fun cs _ => ltL n cs) (fun es _ => List.rec true (fun _ _ _ => false) es) (fun _ _ => true) (fun _ _ => false) body) false) o
theorem Zfy {n : Nat} {o : AObj} (h : ltO n o = true) : o.alive = true /\ Z0T n (Z3H o.body []) = true := by
 obtain ⟨alive, fam, sh, body⟩ := o
 obtain ⟨h1, h2⟩ := Z0s h
 refine ⟨h1, Z8A ?_⟩
 cases body with
 | cells cs ty => exact Zbc cs [] h2 (by simp)
 | map es c =>
  cases es with
  | nil => simp [Z3H, Z8c]
  | cons e es => cases h2
 | siter s p => simp [Z3H]
 | loop g ts => cases h2
theorem Z7o {n : Nat} : ∀ {env : List (Nat × AV)}, (∀ t v, (t, v) ∈ env -> ltV n v = true) -> ∀ acc : List Nat, (∀ x ∈ acc, x < n) -> ∀ x ∈ Z0W env acc, x < n
 | [], h, acc, ha => by simpa [Z0W] using ha
 | (t, v) :: l, h, acc, ha => by
  simp only [Z0W]
  exact Z5H v _ (h t v (by simp)) (Z7o (fun t v hv => h t v (by simp [hv])) acc ha)
section congr
variable {P : Program} {ρ ρ' : Operand -> Option AV} {H : Z00} {o : Oper} {orc : Orc}
theorem aevals_congr : ∀ {l : List Operand}, (∀ x ∈ l, ρ x = ρ' x) -> Z1i ρ l = Z1i ρ' l
 | [], h => rfl
 | x :: l, h => by
  simp only [Z1i]
  rw [h x (by simp), aevals_congr fun y hy => h y (by simp [hy])]
theorem Z2f : ∀ {l : List (Nat × Operand)}, (∀ p ∈ l, ρ p.2 = ρ' p.2) -> Z2z ρ l = Z2z ρ' l
 | [], h => rfl
 | (i, x) :: l, h => by
  simp only [Z2z]
  rw [h (i, x) (by simp), Z2f fun y hy => h y (by simp [hy])]
theorem Z2B : ∀ {x : Option Operand}, (∀ y, x = some y -> ρ y = ρ' y) -> Z54 ρ x = Z54 ρ' x
 | none, h => rfl
 | some x, h => by simp only [Z54]; rw [h x rfl]
theorem Z9A {c : Call} (h : ∀ x ∈ c.operands.toList, ρ x = ρ' x) : callee ρ c = callee ρ' c := by
 unfold callee
 cases hc : c.callee with
 | value f =>
  have h1 : ρ f = ρ' f := h f (by simp [Call.operands, hc])
  have h2 : Z1i ρ c.args.toList = Z1i ρ' c.args.toList := aevals_congr fun x hx => h x (by simp [Call.operands, hc]; exact .inr (by simpa using hx))
  simp only [h1, h2]
 | _ => rfl
theorem Z2x {c : Call} {l : List Operand} (hl : c.args.toList = l) (h : ∀ x ∈ c.operands.toList, ρ x = ρ' x) : ∀ x ∈ l, ρ x = ρ' x := by
 subst hl
 intro x hx
 exact h x (by simp only [Call.operands, Array.toList_append, List.mem_append]; exact .inr hx)
theorem Z42 (h : ∀ x ∈ o.op.operands.toList, ρ x = ρ' x) : Z02 P ρ H o = Z02 P ρ' H o := by
 unfold Z02 Z0f
 cases ho : o.op with
 | build t ps =>
  rw [ho] at h; simp only
  rw [Z2f (ρ := ρ) (ρ' := ρ') fun p hp => h p.2 (by simp only [Op.operands]; exact List.mem_map.2 ⟨p, hp, rfl⟩)]
 | makeFunc fn f c =>
  rw [ho] at h; simp only
  rw [aevals_congr (ρ := ρ) (ρ' := ρ') (l := f.toList) fun x hx => h x (by simp only [Op.operands, Array.toList_append, List.mem_append]; exact .inl hx),
   aevals_congr (ρ := ρ) (ρ' := ρ') (l := c.toList) fun x hx => h x (by simp only [Op.operands, Array.toList_append, List.mem_append]; exact .inr hx)]
 | slice t x lo hi mx =>
  rw [ho] at h
  cases mx with
  | some m =>
   cases hi with
   | none => rfl
   | some hi =>
    simp only
    have h1 : ρ x = ρ' x := h x (by simp [Op.operands])
    have h2 : Z54 ρ lo = Z54 ρ' lo := Z2B fun y hy => h y (by subst hy; simp [Op.operands])
    have h3 : ρ hi = ρ' hi := h hi (by simp [Op.operands])
    have h4 : ρ m = ρ' m := h m (by simp [Op.operands])
    rw [h1, h2, h3, h4]
  | none =>
   simp only
   have h1 : ρ x = ρ' x := h x (by simp [Op.operands])
   have h2 : Z54 ρ lo = Z54 ρ' lo := Z2B fun y hy => h y (by subst hy; simp [Op.operands])
   have h3 : Z54 ρ hi = Z54 ρ' hi := Z2B fun y hy => h y (by subst hy; simp [Op.operands])
   rw [h1, h2, h3]
 | call c =>
  rw [ho] at h
  have h' : ∀ x ∈ c.operands.toList, ρ x = ρ' x := h
  simp only
  cases hc : c.callee with
  | builtin b =>
   cases b <;> simp only
   all_goals first
    | rfl
    | (rw [aevals_congr (ρ := ρ) (ρ' := ρ') (Z2x rfl h')])
    | (split
       · rename_i x t ts ha ht
         rw [Z2x ha h' x (by simp)]
       · rfl)
  | _ => rfl
 | _ => (rw [ho] at h) <;> (simp only [Op.operands] at h; simp_all)
theorem Zcy (h : ∀ x ∈ o.op.operands.toList, ρ x = ρ' x) : Z2D P ρ H o = Z2D P ρ' H o := by
 unfold Z2D
 cases ho : o.op with
 | buildSlice t len ps =>
  rw [ho] at h; simp only
  rw [Z2f (ρ := ρ) (ρ' := ρ') fun p hp => h p.2 (by simp only [Op.operands]; exact List.mem_map.2 ⟨p, hp, rfl⟩)]
 | call c =>
  rw [ho] at h
  have h' : ∀ x ∈ c.operands.toList, ρ x = ρ' x := h
  simp only
  cases hc : c.callee with
  | builtin b =>
   cases b <;> simp only
   all_goals first
    | rfl
    | (split
       · rename_i s x t ts ha ht
         rw [Z2x ha h' x (by simp), Z2x ha h' s (by simp)]
       · rfl)
    | (split
       · rename_i x ha
         rw [Z2x ha h' x (by simp)]
       · rfl)
    | (split
       · rename_i x t ha ht
         rw [Z2x ha h' x (by simp)]
       · rfl)
  | _ => rfl
 | makeMap t r => cases r <;> rfl
 | slice t x lo hi mx =>
  cases mx with
  | some m => rfl
  | none =>
   rw [ho] at h
   simp only
   have h1 : ρ x = ρ' x := h x (by simp [Op.operands])
   have h2 : Z54 ρ lo = Z54 ρ' lo := Z2B fun y hy => h y (by subst hy; simp [Op.operands])
   have h3 : Z54 ρ hi = Z54 ρ' hi := Z2B fun y hy => h y (by subst hy; simp [Op.operands])
   rw [h1, h2, h3]
 | _ => (rw [ho] at h) <;> (simp only [Op.operands] at h; simp_all)
theorem ZeJ (h : ∀ x ∈ o.op.operands.toList, ρ x = ρ' x) : aop P orc ρ o H = aop P orc ρ' o H := by
 unfold aop
 rw [Z42 h, Zcy h]
 cases ho : o.op with
 | call c =>
  rw [ho] at h
  simp only [Z9A (show ∀ x ∈ c.operands.toList, ρ x = ρ' x from h)]
 | _ => rfl
theorem Z8E (h : ∀ x ∈ o.op.operands.toList, ρ x = ρ' x) : Z0p P ρ o = Z0p P ρ' o := by
 unfold Z0p
 cases ho : o.op with
 | buildSlice t len ps =>
  rw [ho] at h; simp only
  rw [Z2f (ρ := ρ) (ρ' := ρ') fun p hp => h p.2 (by simp only [Op.operands]; exact List.mem_map.2 ⟨p, hp, rfl⟩)]
 | makeMap t r => cases r <;> rfl
 | _ => (rw [ho] at h) <;> (simp only [Op.operands] at h; simp_all)
def Zhp (P : Program) (o : Oper) : Bool := match o.op with
 | .convert s d _ => match P.underlying s, P.underlying d with | _, some (.slice _) => true | _, some .unsafePointer => true | some .unsafePointer, _ => true | _, _ => false
 | .slice t _ _ _ _ => match P.underlying t with | some (.array _ _) => true | _ => false
 | _ => false
def Zca (P : Program) : List Oper -> Bool
 | [] => true
 | o :: l => !Zhp P o && Zca P l
theorem Z7w : ∀ {l : List Oper}, Zca P l = true -> ∀ o ∈ l, Zhp P o = false
 | [], h, o, ho => by simp at ho
 | x :: l, h, o, ho => by
  simp only [Zca, Bool.and_eq_true, Bool.not_eq_true'] at h
  rcases List.mem_cons.1 ho with rfl | ho
  · exact h.1
  · exact Z7w h.2 o ho
theorem Z6K (hk : kind o < 2) (hodd : Zhp P o = false) {r : AV} {H' : Z00} (h : aop P orc ρ o H = some (r, H')) : Z02 P ρ H o = some r /\ H' = H := by
 rw [Z43 (by omega)] at h
 have he : Z2D P ρ H o = none := by
  unfold kind at hk
  unfold Z2D
  cases ho : o.op with
  | call c =>
   simp only [ho] at hk ⊢
   cases hc : c.callee with
   | builtin b => cases b <;> simp [hc] at hk ⊢
   | value f => simp [hc] at hk
   | invoke r m => simp [hc] at hk
  | convert s d x =>
   simp only
   split
   · rename_i u hu
     have : Z6T P s d u H = none := by
      unfold Zhp at hodd
      simp only [ho] at hodd
      unfold Z6T
      split
      · split
        · rename_i e hs hd
          simp only [hs, hd] at hodd
          cases hodd
        · rfl
      · rw [if_neg]
        intro hc
        unfold Z5r at hc
        split at hc <;> try (cases hc; done)
        split at hc <;> try (cases hc; done)
        split at hc
        · rename_i hs hd; simp only [hs, hd] at hodd; cases hodd
        · rename_i hs hd; simp only [hs, hd] at hodd; cases hodd
        · cases hc
      · rfl
     rw [this]
   · rfl
  | slice t x lo hi mx =>
   cases mx with
   | some m => rfl
   | none =>
    simp only
    split
    · rename_i u lo1 hi1 _ _ _
      have : Z2l P t u lo1 hi1 H = none := by
       unfold Zhp at hodd
       simp only [ho] at hodd
       unfold Z2l
       split
       · split
         · rename_i ht; simp only [ht] at hodd; cases hodd
         · rfl
       · rfl
      rw [this]
    · rfl
  | _ => simp [ho] at hk ⊢
 split at h
 · rename_i r' hr; simp at h; obtain ⟨rfl, rfl⟩ := h; exact ⟨hr, rfl⟩
 · rw [he] at h; cases h
theorem ZaD (hk : kind o = 2) {r : AV} {H' : Z00} (h : aop P orc ρ o H = some (r, H')) : ∃ mk body, Z0p P ρ o = some (mk, body) /\ r = mk H.length /\ H' = H ++ [⟨true, H.length, 0, body⟩] := by
 cases ha : Z0p P ρ o with
 | some p =>
  obtain ⟨mk, body⟩ := p
  rw [ZeG hk ha] at h
  simp at h
  exact ⟨mk, body, rfl, h.1.symm, h.2.symm⟩
 | none =>
  exfalso
  rw [Z43 (by omega)] at h
  have hp : Z02 P ρ H o = none := by
   unfold kind at hk
   unfold Z02 Z0f
   cases ho : o.op with
   | call c =>
    simp only [ho] at hk ⊢
    cases hc : c.callee with
    | builtin b => cases b <;> simp [hc] at hk
    | value f => simp [hc] at hk
    | invoke r m => simp [hc] at hk
   | _ => simp [ho] at hk ⊢
  rw [hp] at h
  simp only at h
  unfold kind at hk
  unfold Z0p at ha
  unfold Z2D at h
  cases ho : o.op with
  | alloc e => simp only [ho] at ha h; split at ha <;> simp at ha; rename_i hz; simp [Z9P, hz] at h
  | box e x => simp only [ho] at ha h; split at ha <;> simp at ha; rename_i hz; simp [hz] at h
  | buildSlice t len ps =>
   simp only [ho] at ha h
   split at ha
   · rename_i us hus
     split at ha <;> simp at ha
     rename_i hz
     simp [hus, Z1U, hz] at h
   · rename_i hus; simp [hus] at h
  | makeSlice t l c =>
   simp only [ho] at ha h
   split at ha
   · rename_i a b hl hc
     split at ha <;> simp at ha
     rename_i hz
     simp [hl, hc, Z1I, hz] at h
   · rename_i hne
     split at h
     · rename_i a b hl hc; exact hne _ _ hl hc
     · cases h
  | makeMap t r => cases r <;> simp [ho] at ha h
  | call c =>
   simp only [ho] at hk
   cases hc : c.callee with
   | builtin b => cases b <;> simp [hc] at hk
   | value f => simp [hc] at hk
   | invoke r m => simp [hc] at hk
  | _ => simp [ho] at hk
end congr
end Go.Abs
end

section
namespace Go.Abs
open Go.RowKit
theorem Z4X {vals vals' : List (Option AV)} {D : Nat -> Bool} {t : Nat} : ∀ (l : List Oper) (i : Nat) (acc : Option AV), (∀ k, D k = true -> vals[k]? = vals'[k]?) -> Z0J vals D t l i acc = Z0J vals' D t l i acc
 | [], i, acc, h => rfl
 | o :: l, i, acc, h => by
  simp only [Z0J]
  by_cases e : D i = true
  · rw [h i e]; exact Z4X l (i + 1) _ h
  · have e2 : D i = false := by cases hq : D i with | false => rfl | true => exact absurd hq e
    rw [e2]; simp only [Bool.and_false, Bool.false_eq_true, if_false]
    exact Z4X l (i + 1) _ h
theorem Z8d {dst : Option Tmp} {v : AV} {tm tm1 : Tr} {o : Oper} (ho : o.dst = dst) (hp : Z31 dst v tm = some tm1) (t : Nat) : Z0I tm1 t = if Z1Q o t = true then some v else Z0I tm t := by
 unfold Z1Q
 rw [ho]
 cases dst with
 | none => simp [Z31] at hp; subst hp; simp
 | some d =>
  obtain ⟨h3, h4, _⟩ := Z1Z _ _ _ _ hp
  rw [h4]
  by_cases e : t = d
  · simp [e]
  · rw [if_neg e, if_neg]; simpa using Ne.symm e
theorem Zb4 {dst : Option Tmp} {v : AV} {tm tm1 : Tr} (hp : Z31 dst v tm = some tm1) (t : Nat) : tex tm1 t = tex tm t := by
 cases dst with
 | none => simp [Z31] at hp; subst hp; rfl
 | some d => exact (Z1Z _ _ _ _ hp).2.2 t
theorem ZbE {m i : Nat} (h : m + 1 = 2 ^ i) (k : Nat) : bit m k = decide (k < i) := by
 have : m = 2 ^ i - 1 := by omega
 rw [Z4E, this, Nat.testBit_two_pow_sub_one]
structure VInv (ops : List Oper) (an : List Nat) (tm : Tr) (vals : List (Option AV)) (done : Nat) (tmc : Tr) : Prop where
 vlen : vals.length = ops.length
 known : ∀ k, bit done k = true -> ∃ v, vals[k]? = some (some v)
 unk : ∀ k, bit done k = false -> ∀ v, vals[k]? = some (some v) -> False
 cls : ∀ k j, bit done k = true -> bit (an.getD k 0) j = true -> bit done j = true
 cur : ∀ t, Z0J vals (bit done) t ops 0 (Z0I tm t) = Z0I tmc t
 dst : ∀ k o d, bit done k = true -> ops[k]? = some o -> o.dst = some d -> ∃ x, Z0I tmc d = some x
theorem VInv.start (ops : List Oper) (an : List Nat) (tm : Tr) : VInv ops an tm (Z0H ops) 0 tm :=
 ⟨Z1e ops, fun k h => (by rw [Z0U] at h; cases h), fun k _ v h => Z27 ops k v h, fun k j h => (by rw [Z0U] at h; cases h), fun t => Z3x _ _ _ fun k o _ _ => Z0U _, fun k o d h => (by rw [Z0U] at h; cases h)⟩
theorem VInv.vle {ops : List Oper} {an : List Nat} {tm tmc : Tr} {i : Nat} {vals : List (Option AV)} {done : Nat} (h : VInv ops an tm vals done tmc) (hi : bit done i = false) (r : AV) : VLe vals (vals.set i (some r)) :=
 Za9 fun u hu => h.unk i hi u hu
theorem Z3B (m i k : Nat) : bit (Nat.lor m (2 ^ i)) k = (bit m k || Nat.beq k i) := by
 rw [Z8z, ZaB]
 congr 1
 by_cases e : i = k
 · subst e; simp
 · rw [decide_eq_false e]
   cases hq : Nat.beq k i with
   | false => rfl
   | true => exact absurd (Nat.eq_of_beq_eq_true hq).symm e
theorem VInv.next {ops : List Oper} {an : List Nat} {tm tmc tm1 : Tr} {i : Nat} {vals : List (Option AV)} {done : Nat} (h : VInv ops an tm vals done tmc) {o : Oper} (ho : ops[i]? = some o) {r : AV} (hp : Z31 o.dst r tmc = some tm1)
  (hi : bit done i = false) (han : ∀ k, bit (an.getD i 0) k = true -> bit done k = true) (hb : an.getD i 0 < 2 ^ i) (htm : Z0x ops an i o = true) : VInv ops an tm (vals.set i (some r)) (Nat.lor done (2 ^ i)) tm1 := by
 have hil : i < ops.length := (List.getElem?_eq_some_iff.1 ho).1
 have hself : (vals.set i (some r))[i]? = some (some r) := by rw [List.getElem?_set, if_pos rfl, if_pos (by rw [h.vlen]; exact hil)]
 have hne : ∀ k, bit done k = true -> k ≠ i := fun k hk e => by subst e; rw [hi] at hk; cases hk
 refine ⟨by rw [List.length_set, h.vlen], ?_, ?_, ?_, ?_, ?_⟩
 · intro k hk
   rw [Z3B, Bool.or_eq_true] at hk
   by_cases e : k = i
   · subst e; exact ⟨r, hself⟩
   · rw [List.getElem?_set, if_neg (Ne.symm e)]
     rcases hk with hk | hk
     · exact h.known k hk
     · exact absurd (Nat.eq_of_beq_eq_true hk) e
 · intro k hk v hv
   rw [Z3B, Bool.or_eq_false_iff] at hk
   have e : k ≠ i := fun e => by subst e; simp at hk
   rw [List.getElem?_set, if_neg (Ne.symm e)] at hv
   exact h.unk k hk.1 v hv
 · intro k j hk hj
   rw [Z3B, Bool.or_eq_true] at hk ⊢
   rcases hk with hk | hk
   · exact .inl (h.cls k j hk hj)
   · have := Nat.eq_of_beq_eq_true hk; subst this
     exact .inl (han j hj)
 · intro t
   rw [Z6n ops 0 _ o (j := i) ho (by rw [Nat.zero_add]; exact hself) (D := bit done) (fun k => by rw [Nat.zero_add]; exact Z3B done i k) (fun k x hx hd1 hd2 hlt => by
       rw [Nat.zero_add]
       cases hq : bit done k with
       | false => rfl
       | true =>
        exfalso
        simp only [Z0x, Bool.and_eq_true] at htm
        have hw : Z2n an i t ops 0 = true := by
         unfold Z1Q at hd1
         cases hd : o.dst with
         | none => rw [hd] at hd1; cases hd1
         | some d => rw [hd] at hd1; have := Nat.eq_of_beq_eq_true hd1; subst this; have := htm.2; rw [hd] at this; exact this
        rcases Z0E ops 0 k x hw hx hd2 with h1 | h1 | h1
        · omega
        · rw [Nat.zero_add] at h1; have := ZeB hb h1; omega
        · rw [Nat.zero_add] at h1
          have := h.cls k i hq h1
          rw [hi] at this; cases this) (by rw [Nat.zero_add]; exact hi)]
   rw [Z8d rfl hp t]
   rw [Z4X (vals' := vals) ops 0 _ (fun k hk => by rw [List.getElem?_set, if_neg (Ne.symm (hne k hk))]), h.cur t]
 · intro k x dd hk hx hd
   rw [Z8d rfl hp dd]
   split
   · exact ⟨r, rfl⟩
   · rename_i hnd
     rw [Z3B, Bool.or_eq_true] at hk
     rcases hk with hk | hk
     · exact h.dst k x dd hk hx hd
     · have := Nat.eq_of_beq_eq_true hk; subst this
       have : x = o := by rw [ho] at hx; simpa using hx.symm
       subst this
       exact absurd (by simp [Z1Q, hd]) hnd
theorem Z3d {vals : List (Option AV)} : ∀ (l : List Oper) (i : Nat) (tm : Tr), (∀ k, k < l.length -> ∃ v, vals[i + k]? = some (some v)) -> (∀ o ∈ l, ∀ d, o.dst = some d -> tex tm d = true) -> ∃ tm', Z1d vals l i tm = some tm'
 | [], i, tm, hv, hd => ⟨tm, rfl⟩
 | o :: l, i, tm, hv, hd => by
  obtain ⟨v, hv0⟩ := hv 0 (by simp)
  simp only [Nat.add_zero] at hv0
  have hp : ∃ tm1, Z31 o.dst v tm = some tm1 := by
   cases hdo : o.dst with
   | none => exact ⟨tm, rfl⟩
   | some d => exact Z4d (hd o (by simp) d hdo) v
  obtain ⟨tm1, hp⟩ := hp
  obtain ⟨tm', h'⟩ := Z3d l (i + 1) tm1 (fun k hk => by have := hv (k + 1) (by simpa using hk); rwa [show i + (k + 1) = i + 1 + k from by omega] at this) (fun x hx d hdx => by
   rw [Zb4 hp d]; exact hd x (by simp [hx]) d hdx)
  exact ⟨tm', by simp only [Z1d, hv0, hp, h']⟩
theorem Z7M {tm : Tr} {vals : List (Option AV)} {ops : List Oper} {D : Nat -> Bool} : ∀ (ts : List Nat), (∀ t ∈ ts, ∃ v, Z0J vals D t ops 0 (Z0I tm t) = some v) -> ∃ env, Z17 tm vals ops D ts = some env
 | [], h => ⟨[], rfl⟩
 | t :: ts, h => by
  obtain ⟨v, hv⟩ := h t (by simp)
  obtain ⟨e, he⟩ := Z7M ts fun s hs => h s (by simp [hs])
  exact ⟨(t, v) :: e, by simp [Z17, hv, he]⟩
theorem Z7L {tm : Tr} {vals : List (Option AV)} {ops : List Oper} {D : Nat -> Bool} {Q : AV -> Prop} : ∀ (ts : List Nat) (env : List (Nat × AV)), Z17 tm vals ops D ts = some env -> (∀ t ∈ ts, ∀ v, Z0J vals D t ops 0 (Z0I tm t) = some v -> Q v) -> ∀ t v, (t, v) ∈ env -> Q v
 | [], env, e, h, t, v, hm => by simp [Z17] at e; subst e; simp at hm
 | s :: ts, env, e, h, t, v, hm => by
  simp only [Z17] at e
  split at e <;> simp at e
  subst e; rename_i u e' hu he
  rcases List.mem_cons.1 hm with heq | hm
  · simp at heq; obtain ⟨e1, e2⟩ := heq; rw [e2]; exact h s (by simp) u hu
  · exact Z7L ts e' he (fun t ht v hv => h t (by simp [ht]) v hv) t v hm
def Z5Q (n : Nat) (ops : List Oper) : List Oper -> Bool
 | [] => true
 | o :: l => Z0T n (looks ops o) && Z5Q n ops l
theorem Z4G {n : Nat} {ops : List Oper} : ∀ {l : List Oper}, Z5Q n ops l = true -> ∀ o ∈ l, Z0T n (looks ops o) = true
 | [], h, o, ho => by simp at ho
 | x :: l, h, o, ho => by
  simp only [Z5Q, Bool.and_eq_true] at h
  rcases List.mem_cons.1 ho with rfl | ho
  · exact h.1
  · exact Z4G h.2 o ho
def sOK (ops : List Oper) (an : List Nat) : List Nat -> Nat -> List Nat -> Bool
 | [], m, _ => Nat.beq (m + 1) (2 ^ ops.length)
 | i :: l, m, pend => match ops[i]? with
  | none => false
  | some o => !bit m i && Nat.beq (Nat.land (an.getD i 0) m) (an.getD i 0) && (match kind o with
   | 3 => Z3l (an.getD i 0) pend && sOK ops an l (Nat.lor m (2 ^ i)) []
   | 2 => sOK ops an l (Nat.lor m (2 ^ i)) (pend ++ [i])
   | _ => sOK ops an l (Nat.lor m (2 ^ i)) pend)
def Zat (ops : List Oper) : List Nat -> List Nat
 | [] => []
 | i :: l => match ops[i]? with | some o => if Nat.beq (kind o) 3 then i :: Zat ops l else Zat ops l | none => Zat ops l
noncomputable def dOK (n : Nat) (ops : List Oper) (an : List Nat) : Bool :=
 iff' (Z4e ops an ops 0) (iff' (Z41 an 0) (iff' (sOK ops an (Z6d ops an) 0 []) (iff' (Z3h an (Zat ops (Z6d ops an))) (Z5Q n ops ops) false) false) false) false
theorem Zbg {a m : Nat} (h : Nat.beq (Nat.land a m) a = true) : ∀ k, bit a k = true -> bit m k = true := by
 intro k hk
 have e := Nat.eq_of_beq_eq_true h
 have e' : (a &&& m) = a := e
 rw [Z4E] at hk ⊢
 rw [<- e', Nat.testBit_and, Bool.and_eq_true] at hk
 exact hk.2
def Z6s : List Oper -> Bool
 | [] => false
 | o :: l => Nat.ble 2 (kind o) || Z6s l
theorem Z3T : ∀ {l : List Oper}, Z6s l = false -> ∀ o ∈ l, kind o < 2
 | [], h, o, ho => by simp at ho
 | x :: l, h, o, ho => by
  simp only [Z6s, Bool.or_eq_false_iff] at h
  rcases List.mem_cons.1 ho with rfl | ho
  · have := h.1
    cases hq : Nat.ble 2 (kind o) with
    | false => exact Nat.lt_of_not_le fun hle => by rw [Nat.ble_eq_true_of_le hle] at hq; cases hq
    | true => rw [hq] at this; cases this
  · exact Z3T h.2 o ho
section facts
variable {gl : Glob} {d n : Nat} {ops : List Oper} {an : List Nat} {tm tmc : Tr} {i : Nat} {vals : List (Option AV)} {done : Nat} {E : Tre AV d} {o : Oper}
theorem ZfW (htm : Z0x ops an i o = true) (hlt : ∀ t ∈ looks ops o, t < n) (hV : VInv ops an tm vals done tmc) (hE : EnvSim d n E tmc) (hi : bit done i = false) (han : ∀ k, bit (an.getD i 0) k = true -> bit done k = true) :
  ∃ env, Z17 tm vals ops (bit (an.getD i 0)) (looks ops o) = some env /\ (∀ t ∈ looks ops o, Z0S t env = some (Z1W d t E)) /\ (∀ t v, (t, v) ∈ env -> ∃ s ∈ looks ops o, v = Z1W d s E) := by
 simp only [Z0x, Bool.and_eq_true] at htm
 have hlast : ∀ t ∈ looks ops o, Z0J vals (bit (an.getD i 0)) t ops 0 (Z0I tm t) = some (Z1W d t E) := by
  intro t ht
  have hw := List.all_eq_true.1 htm.1 t ht
  rw [Z0N (D' := bit done) ops 0 _ (fun k x hx hd => ?_), hV.cur t, hE t, if_pos (hlt t ht)]
  simp only [Nat.zero_add]
  cases hq : bit done k with
  | true =>
   rcases Z0E ops 0 k x hw hx hd with h1 | h1 | h1
   · rw [Nat.zero_add] at h1; subst h1; rw [hi] at hq; cases hq
   · rwa [Nat.zero_add] at h1
   · rw [Nat.zero_add] at h1
     have := hV.cls k i hq h1
     rw [hi] at this; cases this
  | false =>
   cases hp : bit (an.getD i 0) k with
   | false => rfl
   | true => rw [han k hp] at hq; cases hq
 obtain ⟨env, he⟩ := Z7M (looks ops o) fun t ht => ⟨_, hlast t ht⟩
 refine ⟨env, he, fun t ht => ?_, fun t v hm => ?_⟩
 · obtain ⟨u, hu⟩ := Z6E _ _ he t ht
   obtain ⟨_, h2⟩ := Z51 _ _ he t u hu
   rw [hlast t ht] at h2
   rw [hu, <- h2]
 · exact Z7L (Q := fun v => ∃ s ∈ looks ops o, v = Z1W d s E) _ _ he (fun t ht v hv => ⟨t, ht, by rw [hlast t ht] at hv; simpa using hv.symm⟩) t v hm
theorem Zfz {x : Operand} {t : Nat} (hx : x ∈ o.op.operands.toList) (e : x = .tmp t) : t ∈ looks ops o := by
 subst e
 have := Z7x _ hx
 unfold looks
 split
 · exact this
 · split
   · split
     · exact List.mem_cons_of_mem _ this
     · exact this
   · exact this
theorem Zcn {env : List (Nat × AV)} (hl : ∀ t ∈ looks ops o, Z0S t env = some (Z1W d t E)) (hE : EnvSim d n E tmc) (hlt : ∀ t ∈ looks ops o, t < n) : ∀ x ∈ o.op.operands.toList, Z0t gl env x = Z1g gl tmc x := by
 intro x hx
 cases x with
 | tmp t =>
  have ht := Zfz (ops := ops) hx rfl
  simp only [Z0t, Z1g, hl t ht, hE t, if_pos (hlt t ht)]
 | const v => rfl
 | global g => rfl
 | func f => rfl
theorem Z1k {env : List (Nat × AV)} (hl : ∀ t ∈ looks ops o, Z0S t env = some (Z1W d t E)) (hE : EnvSim d n E tmc) (hlt : ∀ t ∈ looks ops o, t < n) {b : Bool} (h : Z0m ops o tmc = some b) : Z07 ops env o = b := by
 unfold Z0m at h
 unfold Z07
 split at h
 · rename_i e; simp at h; subst h; simp [e]
 · rename_i j want e
   split at h <;> try (simp at h; done)
   rename_i g hj
   split at h <;> try (simp at h; done)
   rename_i t ht
   have hmem : t ∈ looks ops o := by simp [looks, e, hj, ht]
   simp only [e, hj, ht, hl t hmem]
   rw [hE t, if_pos (hlt t hmem)] at h
   split at h
   · rename_i b' hb; simp at hb; simp at h; rw [hb]; exact h
   · rename_i u hne hu
     simp at h hu
     subst h; subst hu
     split
     · rename_i b' hb; simp at hb; exact absurd hb (hne b')
     · rfl
   · rename_i hn; cases hn
end facts
section run
variable (P : Program) (gl : Glob) (d n : Nat)
noncomputable def ZkB (ops : List Oper) (o : Oper) : Option (Z4K -> Tre AV d -> TH -> AV -> Res -> Res) := if Zhp P o = true then none else match cop P gl d n o, ZiQ d n ops o with
 | some F, some none => some fun forc E B v k => F forc E B fun u _ => iff' (ZiG v u) k none
 | some F, some (some (q, want)) => some fun forc E B v k => Z23 (q E) (fun b => iff' b (iff' want (F forc E B fun u _ => iff' (ZiG v u) k none) k) (iff' want k (F forc E B fun u _ => iff' (ZiG v u) k none))) k
 | _, _ => none
noncomputable def Zjn (an : List Nat) (aj j : Nat) (chk : TH -> Res -> Res) (base : TH) (k : Res) (sts : List (Nat × TH)) : Res :=
 List.rec (chk base k) (fun p _ ih => Prod.rec (fun e B => iff' (bit aj e) ih (chk B (iff' (bit (an.getD e 0) j) k ih))) p) sts
abbrev Rec (d : Nat) := Nat × Tre AV d × AV
noncomputable def Zg2 (ops : List Oper) (j : Nat) : Option (Z4K -> Tre AV d -> TH -> AV -> Res -> Res) := match ops[j]? with | some o => ZkB P gl d n ops o | none => none
noncomputable def ZdM (ops : List Oper) (an : List Nat) (forc : Z4K) (sts : List (Nat × TH)) (base : TH) (k : Res) (recs : List (Rec d)) : Res :=
 List.rec k (fun p _ ih => Prod.rec (fun j q => Prod.rec (fun E v => Option.rec none (fun c => Zjn an (an.getD j 0) j (fun B k => c forc E B v k) base ih sts) (Zg2 P gl d n ops j)) q) p) recs
noncomputable def clk (gl : Glob) (d n : Nat) : List Nat -> Option (Tre AV d -> List AV)
 | [] => some fun _ => []
 | t :: l => match Z0r gl d n (.tmp t), clk gl d n l with | some g, some G => some fun E => g E :: G E | _, _ => none
noncomputable def ZiR (gl : Glob) (d n : Nat) (o : Oper) : Option (Tre AV d -> AV) := match o.dst with | some t => Z0r gl d n (.tmp t) | none => none
noncomputable def Zl7 {β : Type} (k : Nat) (a b c e : β) : β := Nat.rec a (fun k _ => Nat.rec b (fun k _ => Nat.rec c (fun _ _ => e) k) k) k
abbrev ZjJ (d : Nat) := Tre AV d -> TH -> TH -> List (Nat × TH) -> List (Rec d) -> (Tre AV d -> TH -> Res) -> Res
noncomputable def Zjr (ops : List Oper) (rc : Bool) (forc : Z4K) (i : Nat) (o : Oper) (ih : ZjJ d) : ZjJ d := fun E T B sts recs k =>
 Option.rec none (fun s => Zl7 (kind o)
   (s forc E T fun E' T' => ih E' T' B sts recs k)
   (iff' rc (Option.rec none (fun g => s forc E T fun E' T' => frc1 (g E') fun v => ih E' T' B sts ((i, E, v) :: recs) k) (ZiR gl d n o)) (s forc E T fun E' T' => ih E' T' B sts recs k))
   (s forc E T fun E' T' => iff' (iff' (Nat.beq T'.sz T.sz) true (ltO T.sz (T'.get T.sz))) (ih E' T' B sts recs k) none)
   (Option.rec none (fun L => iff' (ltL T.sz (L E)) (s forc E T fun E' T' => iff' (Nat.ble T.sz T'.sz) (ih E' T' T' (ZeF sts [(i, B)]) recs k) none) none) (clk gl d n (looks ops o))))
  (Z9v P gl d n ops o)
noncomputable def Z9X (ops : List Oper) (an : List Nat) (rc : Bool) (forc : Z4K) (l : List Nat) : ZjJ d :=
 List.rec (motive := fun _ => ZjJ d) (fun E T B sts recs k => ZdM P gl d n ops an forc sts B (k E T) recs) (fun i _ ih => Option.rec (fun _ _ _ _ _ _ => none) (fun o => Zjr P gl d n ops rc forc i o ih) (ops[i]?)) l
noncomputable def ZhW (ops : List Oper) (forc : Z4K) (E : Tre AV d) (T : TH) (k : Tre AV d -> TH -> Res) : Res :=
 iff' (Zca P ops) (iff' (dOK n ops (Z0A ops [])) (Z9X P gl d n ops (Z0A ops []) (Z6s ops) forc (Z6d ops (Z0A ops [])) E T T [] [] k) none) none
end run
end Go.Abs
end

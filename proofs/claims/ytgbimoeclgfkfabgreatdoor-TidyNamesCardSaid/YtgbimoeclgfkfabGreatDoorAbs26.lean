/-
  A verified abstract interpreter, part 26: each operation laid ahead once; regions in the order of their text.
-/
import Derived.Test.YtgbimoeclgfkfabGreatDoorAbs25
set_option linter.unusedSimpArgs false
set_option linter.unusedVariables false
namespace Go.Abs
open Go.RowKit

section cop
variable (P : Program) (gl : Glob) (d n : Nat)

/-- By the slow road, where there is one. -/
noncomputable def copSlow (o : Oper) : Option (OpF d) := match kind o with
  | 0 => some (slowP P gl d n o)
  | 2 => some (slowN P gl d n o)
  | _ => none

noncomputable def copBin (o : Oper) (op : BinOp) (x y : Operand) : Option (OpF d) := match binF op, copd gl d n x, copd gl d n y with
  | some F, some gx, some gy => some (bopF F gx gy (slowP P gl d n o))
  | _, _, _ => copSlow P gl d n o

noncomputable def copLoad (t : TypeId) (x : Operand) : Option (OpF d) := match copd gl d n x with
  | some g => match tagg P t with
    | some false => some (loadF1 g)
    | some true => match tsz P t with | some m => frcN m fun m => some (loadFn m g) | none => none
    | none => none
  | none => none

noncomputable def copFad (s : TypeId) (x : Operand) (f : Nat) : Option (OpF d) := match copd gl d n x, fieldOf P s f with
  | some g, some fd => match tsz P fd.type with
    | some (_ + 1) => frcN fd.offset fun c => some (fadF c g)
    | _ => none
  | _, _ => none

noncomputable def copIad (o : Oper) (t : TypeId) (x i : Operand) : Option (OpF d) := match copd gl d n x, copd gl d n i with
  | some gx, some gi => match P.underlying t with
    | some (.slice e) => match tsz P e with | some z => frcN z fun z => some (iadF z gx gi) | none => none
    | _ => copSlow P gl d n o
  | _, _ => none

noncomputable def copIdx (o : Oper) (t : TypeId) (x i : Operand) : Option (OpF d) := match copd gl d n x, copd gl d n i with
  | some gx, some gi => match P.underlying t with
    | some .string => some (idxF gx gi)
    | _ => copSlow P gl d n o
  | _, _ => none

noncomputable def copLen (o : Oper) (x : Operand) (t : TypeId) : Option (OpF d) := match copd gl d n x with
  | some g => match P.underlying t with
    | some .string => some (lenSF g)
    | some (.slice _) => some (lenF g)
    | some (.map _ _) => some (lenMF g)
    | _ => none
  | none => none

noncomputable def copApp (s x : Operand) (t t2 : TypeId) : Option (OpF d) := match copd gl d n s, copd gl d n x with
  | some gs, some gx => match P.underlying t with
    | some (.slice e) => match P.info? e, tzero P e with
      | some i, some u => iff' (apx P t2 && Nat.beq u.cells.length i.size) (frcN i.size fun z => frcN i.bytes fun b => some (appF e z b gs gx)) none
      | _, _ => none
    | _ => none
  | _, _ => none

noncomputable def copCpy (s x : Operand) (t : TypeId) : Option (OpF d) := match copd gl d n s, copd gl d n x with
  | some gs, some gx => match P.underlying t with
    | some (.slice e) => match tsz P e with
      | some z => frcN z fun z => some (cpyF z gs gx)
      | none => none
    | _ => none
  | _, _ => none

noncomputable def copCall (o : Oper) (c : Call) : Option (OpF d) := match c.callee with
  | .value (.func g) => match cargs gl d n c.args.toList with | some G => iff' (hasBody P g) (some (calSF g G)) (iff' (extOk P g) (some (extrF G)) (iff' (extIxOk P g) (some (ixsF G)) (match extMk P g with | some e => frcN e fun e => some (mnzF e G) | none => none))) | none => none
  | .value f => match copd gl d n f, cargs gl d n c.args.toList with | some gf, some G => some (calDF P gf G) | _, _ => none
  | .builtin .len => match c.args.toList, c.argTypes.toList with | [x], t :: _ => copLen P gl d n o x t | _, _ => none
  | .builtin .append => match c.args.toList, c.argTypes.toList with | [s, x], [t, t2] => copApp P gl d n s x t t2 | _, _ => none
  | .builtin .cap => match c.args.toList, c.argTypes.toList with | [x], [t] => (match copd gl d n x, P.underlying t with | some g, some (.slice _) => some (capF g) | _, _ => none) | _, _ => none
  | .builtin .clear => match c.args.toList, c.argTypes.toList with
    | [x], [t] => (match copd gl d n x, P.underlying t with | some g, some (.slice e) => (match tzero P e with | some u => frcVLR u.cells fun zs => frcN zs.length fun z => some (clrF zs z g) | none => none) | _, _ => none)
    | _, _ => none
  | .builtin .unsafeSliceData => match c.args.toList with | [x] => (match copd gl d n x with | some g => some (sldF g) | none => none) | _ => none
  | .builtin .unsafeString => match c.args.toList, c.argTypes.toList with | [x, y], [t, _] => (match copd gl d n x, copd gl d n y with | some gx, some gn => some (ustF P t gx gn) | _, _ => none) | _, _ => none
  | .builtin .copy => match c.args.toList, c.argTypes.toList with | [s, x], [t, _] => copCpy P gl d n s x t | _, _ => none
  | _ => copSlow P gl d n o

noncomputable def copSto (t : TypeId) (a x : Operand) : Option (OpF d) := match copd gl d n a, copd gl d n x, tsz P t with
  | some ga, some gx, some m => frcN m fun m => some (stoF m ga gx)
  | _, _, _ => none

noncomputable def copMap (t : TypeId) (m k v : Operand) : Option (OpF d) := match keyDesc P t, copd gl d n m, copd gl d n k, copd gl d n v with
  | some (dd, _), some gm, some gk, some gv => some (mapSF dd gm gk gv)
  | _, _, _, _ => none

noncomputable def copLkp (t : TypeId) (m k : Operand) (ok : Bool) : Option (OpF d) := match keyDesc P t, copd gl d n m, copd gl d n k with
  | some (dd, e), some gm, some gk => match tzero P e with | some z => frcVR z fun z => some (lkpF dd z ok gm gk) | none => none
  | _, _, _ => none

noncomputable def copBld (o : Oper) (t : TypeId) (ps : Array (Nat × Operand)) : Option (OpF d) := match P.underlying t, tzero P t with
  | some (.struct _), some z => iff' (allSized P t) (match cfill gl d n (fplace P t) ps.toList with | some G => frcVLR z.cells fun zs => some (bldF zs G) | none => none) none
  | _, _ => copSlow P gl d n o

noncomputable def copBsl (t : TypeId) (len : Nat) (ps : Array (Nat × Operand)) : Option (OpF d) := match bsCore P t len [] with
  | some (zs, e, z) => match cfill gl d n (fun i => some (i * z, z)) ps.toList with | some G => frcVLR zs fun zs => frcNR z fun z => some (bslF len zs e z G) | none => none
  | none => none

noncomputable def copSli (t : TypeId) (x : Operand) (lo hi : Option Operand) : Option (OpF d) := match copd gl d n x, cbnd gl d n lo, cbnd gl d n hi with
  | some gx, some L, some R => match P.underlying t with
    | some .string => some (slsF gx L R)
    | some (.slice e) => match tsz P e with | some z => frcNR z fun z => some (sliF z gx L R) | none => none
    | some (.array _ _) => some (slaF P gl d n t x lo hi)
    | _ => none
  | _, _, _ => none

noncomputable def copCnv (o : Oper) (src dst : TypeId) (x : Operand) : Option (OpF d) := match P.underlying src, P.underlying dst, copd gl d n x with
  | some _, some (.int kk), some g => some (cnvF kk g (slowP P gl d n o))
  | some .string, some (.slice e), some g => match P.underlying e with | some (.int .u8) => some (stbF g) | _ => none
  | some (.pointer _), some .unsafePointer, some g => some (cnpF P src dst g)
  | some .unsafePointer, some (.pointer _), some g => some (cnpF P src dst g)
  | some (.slice _), some .string, some g => iff' (aConvS P src dst) (some (csrF g)) none
  | _, _, _ => copSlow P gl d n o

noncomputable def cop (o : Oper) : Option (OpF d) := match o.op with
  | .move x => match copd gl d n x with | some g => some (movF g) | none => none
  | .assign x => match copd gl d n x with | some g => some (movF g) | none => none
  | .pick c a b => match copd gl d n c, copd gl d n a, copd gl d n b with | some gc, some ga, some gb => some (pickF gc ga gb) | _, _, _ => none
  | .binOp op _ x y _ => copBin P gl d n o op x y
  | .unOp .not _ x => match copd gl d n x with | some g => some (notF g) | none => none
  | .load t x => copLoad P gl d n t x
  | .fieldAddr s x f => copFad P gl d n s x f
  | .indexAddr t x i => copIad P gl d n o t x i
  | .index t x i => copIdx P gl d n o t x i
  | .extract x i => match copd gl d n x with | some g => some (extF i g) | none => none
  | .nilCheck x => match copd gl d n x with | some g => some (nilF g (slowP P gl d n o)) | none => none
  | .build t ps => copBld P gl d n o t ps
  | .buildSlice t len ps => copBsl P gl d n t len ps
  | .slice t x lo hi none => copSli P gl d n t x lo hi
  | .convert s t x => copCnv P gl d n o s t x
  | .alloc e => match tzero P e with | some z => frcVLR z.cells fun cs => some (allF (.cells cs e)) | none => none
  | .box e x => match copd gl d n x with | some g => some (boxF e g) | none => none
  | .store t a x => copSto P gl d n t a x
  | .mapUpdate t m k v => copMap P gl d n t m k v
  | .insert t m k v => copMap P gl d n t m k v
  | .lookup t m k ok => copLkp P gl d n t m k ok
  | .call c => copCall P gl d n o c
  | _ => copSlow P gl d n o
end cop

section ok
variable {P : Program} {gl : Glob} {d n : Nat} {o : Oper}

theorem copSlow_ok {F : OpF d} (h : copSlow P gl d n o = some F) : OpOK P gl d n o F := by
  unfold copSlow at h
  split at h <;> simp at h
  · subst h; exact slowP_ok (by assumption)
  · subst h; exact slowN_ok (by assumption)

theorem copBin_ok {op : BinOp} {t t2 : TypeId} {x y : Operand} (ho : o.op = .binOp op t x y t2) {F : OpF d} (h : copBin P gl d n o op x y = some F) : OpOK P gl d n o F := by
  unfold copBin at h
  split at h
  · rename_i B gx gy hB hx hy
    simp at h; subst h
    exact bopF_ok ho hB hx hy (slowP_ok (by simp [kind, ho]))
  · exact copSlow_ok h

theorem copLoad_ok {t : TypeId} {x : Operand} (ho : o.op = .load t x) {F : OpF d} (h : copLoad P gl d n t x = some F) : OpOK P gl d n o F := by
  unfold copLoad at h
  split at h <;> try (simp at h; done)
  rename_i g hg
  split at h <;> try (simp at h; done)
  · rename_i ht; simp at h; subst h; exact loadF1_ok ho ht hg
  · rename_i ht
    split at h <;> try (simp at h; done)
    rename_i m hm
    rw [frcN_eq'] at h; simp at h; subst h; exact loadFn_ok ho ht hm hg

theorem copFad_ok {s : TypeId} {x : Operand} {f : Nat} (ho : o.op = .fieldAddr s x f) {F : OpF d} (h : copFad P gl d n s x f = some F) : OpOK P gl d n o F := by
  unfold copFad at h
  split at h <;> try (simp at h; done)
  rename_i g fd hg hf
  split at h <;> try (simp at h; done)
  rename_i m hm
  rw [frcN_eq'] at h; simp at h; subst h; exact fadF_ok ho hf hm hg

theorem copIad_ok {t : TypeId} {x i : Operand} (ho : o.op = .indexAddr t x i) {F : OpF d} (h : copIad P gl d n o t x i = some F) : OpOK P gl d n o F := by
  unfold copIad at h
  split at h <;> try (simp at h; done)
  rename_i gx gi hx hi
  split at h
  · rename_i e ht
    split at h <;> try (simp at h; done)
    rename_i z hz
    rw [frcN_eq'] at h; simp at h; subst h; exact iadF_ok ho ht hz hx hi
  · exact copSlow_ok h

theorem copIdx_ok {t : TypeId} {x i : Operand} (ho : o.op = .index t x i) {F : OpF d} (h : copIdx P gl d n o t x i = some F) : OpOK P gl d n o F := by
  unfold copIdx at h
  split at h <;> try (simp at h; done)
  rename_i gx gi hx hi
  split at h
  · rename_i ht; simp at h; subst h; exact idxF_ok ho ht hx hi
  · exact copSlow_ok h

theorem copLen_ok {c : Call} {x : Operand} {t : TypeId} {ts : List TypeId} (ho : o.op = .call c) (hc : c.callee = .builtin .len) (ha : c.args.toList = [x]) (ht : c.argTypes.toList = t :: ts) {F : OpF d} (h : copLen P gl d n o x t = some F) : OpOK P gl d n o F := by
  unfold copLen at h
  split at h <;> try (simp at h; done)
  rename_i g hg
  split at h <;> simp at h
  · rename_i hu; subst h; exact lenSF_ok ho hc ha ht hu hg
  · rename_i hu; subst h; exact lenF_ok ho hc ha ht hu hg
  · rename_i hu; subst h; exact lenMF_ok ho hc ha ht hu hg

theorem copApp_ok {c : Call} {s x : Operand} {t t2 : TypeId} (ho : o.op = .call c) (hc : c.callee = .builtin .append) (ha : c.args.toList = [s, x]) (ht : c.argTypes.toList = [t, t2]) {F : OpF d} (h : copApp P gl d n s x t t2 = some F) : OpOK P gl d n o F := by
  unfold copApp at h
  split at h <;> try (simp at h; done)
  rename_i gs gx hs hx
  split at h <;> try (simp at h; done)
  rename_i e hu
  split at h <;> try (simp at h; done)
  rename_i i u hi hz
  obtain ⟨h1, h2⟩ := iff_some h
  rw [frcN_eq', frcN_eq'] at h2
  simp at h2; subst h2
  rw [Bool.and_eq_true] at h1
  exact appF_ok ho hc ha ht hu hi hz h1.1 (Nat.eq_of_beq_eq_true h1.2) hs hx

theorem copCpy_ok {c : Call} {s x : Operand} {t t2 : TypeId} (ho : o.op = .call c) (hc : c.callee = .builtin .copy) (ha : c.args.toList = [s, x]) (ht : c.argTypes.toList = [t, t2]) {F : OpF d} (h : copCpy P gl d n s x t = some F) : OpOK P gl d n o F := by
  unfold copCpy at h
  split at h <;> try (simp at h; done)
  rename_i gs gx hs hx
  split at h <;> try (simp at h; done)
  rename_i e hu
  split at h <;> try (simp at h; done)
  rename_i z hz
  rw [frcN_eq'] at h; simp at h; subst h
  exact cpyF_ok ho hc ha ht hu hz hs hx

theorem copCall_ok {c : Call} (ho : o.op = .call c) {F : OpF d} (h : copCall P gl d n o c = some F) : OpOK P gl d n o F := by
  unfold copCall at h
  split at h
  · rename_i g hc
    split at h <;> try (simp at h; done)
    rename_i G hG
    rcases iff_some2 h with ⟨h1, h2⟩ | ⟨_, h2⟩
    · simp at h2; subst h2
      exact calSF_ok ho hc h1 hG
    · rcases iff_some2 h2 with ⟨h1, h2⟩ | ⟨_, h2⟩
      · simp at h2; subst h2
        exact extrF_ok ho hc h1 hG
      rcases iff_some2 h2 with ⟨h1, h2⟩ | ⟨_, h2⟩
      · simp at h2; subst h2
        exact ixsF_ok ho hc h1 hG
      · split at h2 <;> try (simp at h2; done)
        rename_i e he
        rw [frcN_eq'] at h2; simp at h2; subst h2
        exact mnzF_ok ho hc he hG
  · rename_i f hc _
    split at h <;> simp at h
    rename_i gf G hf hG
    subst h
    exact calDF_ok ho (by assumption) hf hG
  · rename_i hc
    split at h <;> try (simp at h; done)
    rename_i x t ts ha ht
    exact copLen_ok ho hc ha ht h
  · rename_i hc
    split at h <;> try (simp at h; done)
    rename_i s x t t2 ha ht
    exact copApp_ok ho hc ha ht h
  · rename_i hc
    split at h <;> try (simp at h; done)
    rename_i x t ha ht
    split at h <;> simp at h
    subst h
    exact capF_ok ho hc ha ht (by assumption) (by assumption)
  · rename_i hc
    split at h <;> try (simp at h; done)
    rename_i x t ha ht
    split at h <;> try (simp at h; done)
    rename_i g e hg hu
    split at h <;> try (simp at h; done)
    rename_i u hz
    rw [frcVLR_eq, frcN_eq'] at h
    simp at h
    subst h
    exact clrF_ok ho hc ha ht hu hz hg
  · rename_i hc
    split at h <;> try (simp at h; done)
    rename_i x ha
    split at h <;> simp at h
    subst h
    exact sldF_ok ho hc ha (by assumption)
  · rename_i hc
    split at h <;> try (simp at h; done)
    rename_i x y t t2 ha ht
    split at h <;> simp at h
    subst h
    exact ustF_ok ho hc ha ht (by assumption) (by assumption)
  · rename_i hc
    split at h <;> try (simp at h; done)
    rename_i s x t t2 ha ht
    exact copCpy_ok ho hc ha ht h
  · exact copSlow_ok h

theorem copSto_ok {t : TypeId} {a x : Operand} (ho : o.op = .store t a x) {F : OpF d} (h : copSto P gl d n t a x = some F) : OpOK P gl d n o F := by
  unfold copSto at h
  split at h <;> try (simp at h; done)
  rename_i ga gx m ha hx hm
  rw [frcN_eq'] at h; simp at h; subst h
  exact stoF_ok ho hm ha hx

theorem copMap_ok {t : TypeId} {m k v : Operand} (ho : o.op = .mapUpdate t m k v ∨ o.op = .insert t m k v) {F : OpF d} (h : copMap P gl d n t m k v = some F) : OpOK P gl d n o F := by
  unfold copMap at h
  split at h <;> simp at h
  subst h
  exact mapSF_ok ho (by assumption) (by assumption) (by assumption) (by assumption)

theorem copLkp_ok {t : TypeId} {m k : Operand} {ok : Bool} (ho : o.op = .lookup t m k ok) {F : OpF d} (h : copLkp P gl d n t m k ok = some F) : OpOK P gl d n o F := by
  unfold copLkp at h
  split at h <;> try (simp at h; done)
  rename_i dd e gm gk hd hm hk
  split at h <;> try (simp at h; done)
  rename_i z hz
  rw [frcVR_eq] at h; simp at h; subst h
  exact lkpF_ok ho hd hz hm hk

theorem copBld_ok {t : TypeId} {ps : Array (Nat × Operand)} (ho : o.op = .build t ps) {F : OpF d} (h : copBld P gl d n o t ps = some F) : OpOK P gl d n o F := by
  unfold copBld at h
  split at h
  · rename_i fs z hu hz
    obtain ⟨h1, h2⟩ := iff_some h
    split at h2 <;> try (simp at h2; done)
    rename_i G hG
    rw [frcVLR_eq] at h2; simp at h2; subst h2
    exact bldF_ok ho hz hu h1 hG
  · exact copSlow_ok h

theorem copBsl_ok {t : TypeId} {len : Nat} {ps : Array (Nat × Operand)} (ho : o.op = .buildSlice t len ps) {F : OpF d} (h : copBsl P gl d n t len ps = some F) : OpOK P gl d n o F := by
  unfold copBsl at h
  split at h <;> try (simp at h; done)
  rename_i zs e z hz
  split at h <;> try (simp at h; done)
  rename_i G hG
  rw [frcVLR_eq, frcNR_eq] at h; simp at h; subst h
  exact bslF_ok ho hz hG

theorem copSli_ok {t : TypeId} {x : Operand} {lo hi : Option Operand} (ho : o.op = .slice t x lo hi none) {F : OpF d} (h : copSli P gl d n t x lo hi = some F) : OpOK P gl d n o F := by
  unfold copSli at h
  split at h <;> try (simp at h; done)
  rename_i gx L R hx hL hR
  split at h <;> try (simp at h; done)
  · rename_i ht; simp at h; subst h; exact slsF_ok ho ht hx hL hR
  · rename_i e ht
    split at h <;> try (simp at h; done)
    rename_i z hz
    rw [frcNR_eq] at h; simp at h; subst h; exact sliF_ok ho ht hz hx hL hR
  · rename_i m e ht
    simp at h; subst h; exact slaF_ok ho ⟨m, e, ht⟩

theorem copCnv_ok {src dst : TypeId} {x : Operand} (ho : o.op = .convert src dst x) {F : OpF d} (h : copCnv P gl d n o src dst x = some F) : OpOK P gl d n o F := by
  unfold copCnv at h
  split at h
  · rename_i td kk g hs hd hg
    simp at h; subst h
    exact cnvF_ok ho hs hd hg (slowC_ok ho)
  · rename_i e g hs hd hg
    split at h <;> simp at h
    rename_i he
    subst h
    exact stbF_ok ho hs hd he hg
  · rename_i e g hs hd hg
    simp at h; subst h
    exact cnpF_ok ho (.inr hd) hg
  · rename_i e g hs hd hg
    simp at h; subst h
    exact cnpF_ok ho (.inl ⟨_, hd⟩) hg
  · rename_i e g hs hd hg
    obtain ⟨h1, h2⟩ := iff_some h
    simp at h2; subst h2
    exact csrF_ok ho h1 hg
  · exact copSlow_ok h

theorem cop_ok {F : OpF d} (h : cop P gl d n o = some F) : OpOK P gl d n o F := by
  unfold cop at h
  split at h
  · rename_i x ho; split at h <;> simp at h; subst h; exact movF_ok (.inl ho) (by assumption)
  · rename_i x ho; split at h <;> simp at h; subst h; exact movF_ok (.inr ho) (by assumption)
  · rename_i c a b ho; split at h <;> simp at h; subst h; exact pickF_ok ho (by assumption) (by assumption) (by assumption)
  · rename_i ho; exact copBin_ok ho h
  · rename_i ho; split at h <;> simp at h; subst h; exact notF_ok ho (by assumption)
  · rename_i ho; exact copLoad_ok ho h
  · rename_i ho; exact copFad_ok ho h
  · rename_i ho; exact copIad_ok ho h
  · rename_i ho; exact copIdx_ok ho h
  · rename_i ho; split at h <;> simp at h; subst h; exact extF_ok ho (by assumption)
  · rename_i ho; split at h <;> simp at h; subst h; exact nilF_ok ho (by assumption) (slowP_ok (by simp [kind, ho]))
  · rename_i ho; exact copBld_ok ho h
  · rename_i ho; exact copBsl_ok ho h
  · rename_i ho; exact copSli_ok ho h
  · rename_i ho; exact copCnv_ok ho h
  · rename_i ho; split at h <;> try (simp at h; done)
    rename_i z hz
    rw [frcVLR_eq] at h; simp at h; subst h; exact allF_ok ho hz
  · rename_i ho; split at h <;> simp at h; subst h; exact boxF_ok ho (by assumption)
  · rename_i ho; exact copSto_ok ho h
  · rename_i ho; exact copMap_ok (.inl ho) h
  · rename_i ho; exact copMap_ok (.inr ho) h
  · rename_i ho; exact copLkp_ok ho h
  · rename_i ho; exact copCall_ok ho h
  · exact copSlow_ok h
end ok

/-! a region in the order of its text -/
section seq
variable (P : Program) (gl : Glob) (d n : Nat)

abbrev StF (d : Nat) := FOrc → Tre AV d → TH → (Tre AV d → TH → Res) → Res

/-- What an operation's value is put into. -/
noncomputable def cput (dst : Option Tmp) : Option (AV → Tre AV d → (Tre AV d → Res) → Res) := match dst with
  | none => some fun _ E f => f E
  | some t => iff' (Nat.blt t n) (Bx.rec (fun p => some p) (putB AV Res d t)) none

/-- May the operation run? 0: always; else the temporary that tells, and what it is to hold. -/
noncomputable def cgrd (ops : List Oper) (o : Oper) : Option (Option ((Tre AV d → AV) × Bool)) := match o.guard with
  | none => some none
  | some (j, want) => match ops[j]? with
    | some g => match g.dst with
      | some t => iff' (Nat.blt t n) (Bx.rec (fun q => some (some (q, want))) (getB AV d t)) none
      | none => none
    | none => none

noncomputable def cstep (ops : List Oper) (o : Oper) : Option (StF d) := match cop P gl d n o, cput d n o.dst, cgrd d n ops o with
  | some F, some p, some none => some fun forc E T k => F forc E T fun v T' => p v E fun E' => k E' T'
  | some F, some p, some (some (q, want)) => some fun forc E T k => onBool (q E) (fun b => iff' b (iff' want (F forc E T fun v T' => p v E fun E' => k E' T') (p (.tuple []) E fun E' => k E' T))
      (iff' want (p (.tuple []) E fun E' => k E' T) (F forc E T fun v T' => p v E fun E' => k E' T'))) (p (.tuple []) E fun E' => k E' T)
  | _, _, _ => none

noncomputable def fseq (ops : List Oper) (forc : FOrc) (l : List Oper) : Tre AV d → TH → (Tre AV d → TH → Res) → Res :=
  List.rec (motive := fun _ => Tre AV d → TH → (Tre AV d → TH → Res) → Res) (fun E T k => k E T) (fun o _ ih E T k => Option.rec none (fun s => s forc E T fun E' T' => ih E' T' k) (cstep P gl d n ops o)) l
end seq

theorem frcC_eq' {β : Type} (o : Oper) (r : AV) (H : AHeap) (f : AV → AHeap → β) : frcC o r H f = f r H := frcC_eq o r H f

theorem tset_some : ∀ {t : Tr} {n : Nat}, tex t n = true → ∀ v, ∃ t', tset t n v = some t'
  | .leaf, n, h, v => by simp [tex] at h
  | .node x l r, 0, h, v => by
    cases x with
    | none => simp [tex] at h
    | some y => exact ⟨_, rfl⟩
  | .node x l r, n + 1, h, v => by
    simp only [tex] at h
    simp only [tset]
    split at h
    · rename_i e
      obtain ⟨t', h'⟩ := tset_some (t := l) h v
      simp only [e, h']; exact ⟨_, rfl⟩
    · rename_i e
      obtain ⟨t', h'⟩ := tset_some (t := r) h v
      cases hm : Nat.mod n 2 with
      | zero => exact (e hm).elim
      | succ m => simp only [h']; exact ⟨_, rfl⟩

theorem tmk_get' : ∀ (d : Nat) (g : Nat → Option AV) (n : Nat), n + 1 < 2 ^ d → tget (tmk g d) n = g n
  | 0, g, n, h => by simp at h
  | d + 1, g, 0, h => by simp only [tmk, tget]; cases g 0 <;> rfl
  | d + 1, g, n + 1, h => by
    rw [Nat.pow_succ] at h
    simp only [tmk, tget]
    split
    · rename_i e
      have e' : n % 2 = 0 := e
      have hd : Nat.div n 2 = n / 2 := rfl
      rw [tmk_get' d _ _ (by rw [hd]; omega)]
      show g (2 * (n / 2) + 1) = _
      congr 1; omega
    · rename_i e
      have e' : ¬ n % 2 = 0 := e
      have hd : Nat.div n 2 = n / 2 := rfl
      rw [tmk_get' d _ _ (by rw [hd]; omega)]
      show g (2 * (n / 2) + 2) = _
      congr 1; omega

section seqok
variable {P : Program} {gl : Glob} {d n : Nat}

theorem EnvSim.put {E : Tre AV d} {tm : Tr} (hn : n ≤ 8 ^ d) (h : EnvSim d n E tm) {t : Nat} (ht : t < n) (v : AV) : ∃ tm', tset tm t v = some tm' ∧ EnvSim d n (teput d t v E) tm' := by
  have hg : tex tm t = true := tget_tex _ _ _ (by rw [h t, if_pos ht])
  obtain ⟨tm', h1⟩ := tset_some hg v
  refine ⟨tm', h1, fun s => ?_⟩
  rw [(tset_get _ _ _ _ h1).2.1 s]
  by_cases hs : s < n
  · rw [if_pos hs, teget_put d t s v E (by omega) (by omega)]
    by_cases e : s = t
    · rw [if_pos e, if_pos e]
    · rw [if_neg e, if_neg e, h s, if_pos hs]
  · rw [if_neg hs, if_neg (by omega), h s, if_neg hs]

theorem cput_ok (hn : n ≤ 8 ^ d) {dst : Option Tmp} {p : AV → Tre AV d → (Tre AV d → Res) → Res} (h : cput d n dst = some p) {E : Tre AV d} {tm : Tr} (hE : EnvSim d n E tm) (v : AV) (f : Tre AV d → Res) :
    ∃ E' tm', putT dst v tm = some tm' ∧ EnvSim d n E' tm' ∧ p v E f = f E' := by
  unfold cput at h
  cases dst with
  | none => simp at h; subst h; exact ⟨E, tm, rfl, hE, rfl⟩
  | some t =>
    obtain ⟨h1, h2⟩ := iff_some (show iff' (Nat.blt t n) (Bx.rec (fun p => some p) (putB AV Res d t)) none = some p from h)
    have ht : t < n := by simpa [Nat.blt_eq] using h1
    have h3 : some (putB AV Res d t).v = some p := h2
    simp at h3; subst h3
    obtain ⟨tm', g1, g2⟩ := hE.put hn ht v
    exact ⟨_, tm', g1, g2, putB_eq d t v E f⟩

/-- One step of a region that goes by its text. -/
def StepOK (P : Program) (gl : Glob) (d n : Nat) (ops : List Oper) (o : Oper) (s : StF d) : Prop :=
  ∀ forc orc E T (k : Tre AV d → TH → Res) out H tm, OrcSim forc orc → Rep T H → EnvSim d n E tm → s forc E T k = some out →
    ∃ E' T' tm' H', EnvSim d n E' tm' ∧ Rep T' H' ∧ k E' T' = some out ∧
      ((awanted ops o tm = some true ∧ ∃ r, aop P orc (aeval gl tm) o H = some (r, H') ∧ putT o.dst r tm = some tm') ∨ (awanted ops o tm = some false ∧ putT o.dst (.tuple []) tm = some tm' ∧ H' = H))

theorem cstep_ok (hn : n ≤ 8 ^ d) {ops : List Oper} {o : Oper} {s : StF d} (h : cstep P gl d n ops o = some s) : StepOK P gl d n ops o s := by
  intro forc orc E T k out H tm hO hR hE he
  have run : ∀ {F : OpF d} {p : AV → Tre AV d → (Tre AV d → Res) → Res}, cop P gl d n o = some F → cput d n o.dst = some p → (F forc E T fun v T' => p v E fun E' => k E' T') = some out →
      ∃ E' T' tm' H', EnvSim d n E' tm' ∧ Rep T' H' ∧ k E' T' = some out ∧ ∃ r, aop P orc (aeval gl tm) o H = some (r, H') ∧ putT o.dst r tm = some tm' := by
    intro F p hF hp h1
    obtain ⟨r, T', H', g1, g2, g3⟩ := cop_ok hF forc orc E T _ out H hO hR h1
    rw [rhoE_eq hE] at g1
    obtain ⟨E', tm', g4, g5, g6⟩ := cput_ok hn hp hE r (fun E' => k E' T')
    rw [g6] at g3
    exact ⟨E', T', tm', H', g5, g2, g3, r, g1, g4⟩
  have skip : ∀ {p : AV → Tre AV d → (Tre AV d → Res) → Res}, cput d n o.dst = some p → (p (.tuple []) E fun E' => k E' T) = some out →
      ∃ E' T' tm' H', EnvSim d n E' tm' ∧ Rep T' H' ∧ k E' T' = some out ∧ putT o.dst (.tuple []) tm = some tm' ∧ H' = H := by
    intro p hp h1
    obtain ⟨E', tm', g4, g5, g6⟩ := cput_ok hn hp hE (.tuple []) (fun E' => k E' T)
    rw [g6] at h1
    exact ⟨E', T, tm', H, g5, hR, h1, g4, rfl⟩
  unfold cstep at h
  split at h <;> try (simp at h; done)
  · rename_i F p hF hp hg
    simp at h; subst h
    have hw : awanted ops o tm = some true := by
      unfold cgrd at hg
      unfold awanted
      split at hg
      · rename_i e; simp [e]
      · exfalso
        split at hg <;> try (simp at hg; done)
        split at hg <;> try (simp at hg; done)
        obtain ⟨_, h2⟩ := iff_some hg
        simp at h2
    obtain ⟨E', T', tm', H', g1, g2, g3, g4⟩ := run hF hp he
    exact ⟨E', T', tm', H', g1, g2, g3, .inl ⟨hw, g4⟩⟩
  · rename_i F p q want hF hp hg
    simp at h; subst h
    have hw : awanted ops o tm = (match q E with | .bool b => some (b == want) | _ => some false) := by
      unfold cgrd at hg
      unfold awanted
      split at hg
      · simp at hg
      · rename_i j w e
        split at hg <;> try (simp at hg; done)
        rename_i g hj
        split at hg <;> try (simp at hg; done)
        rename_i t ht
        obtain ⟨h1, h2⟩ := iff_some hg
        have h3 : some (some ((getB AV d t).v, w)) = some (some (q, want)) := h2
        simp at h3
        obtain ⟨rfl, rfl⟩ := h3
        have htn : t < n := by simpa [Nat.blt_eq] using h1
        simp only [e, hj, ht, hE t, if_pos htn, getB_eq]
        split <;> simp_all
    rcases onBool_some he with ⟨b, e, h1⟩ | ⟨e, h1⟩
    · rw [e] at hw
      cases b <;> cases want
      · obtain ⟨E', T', tm', H', g1, g2, g3, g4⟩ := run hF hp h1
        exact ⟨E', T', tm', H', g1, g2, g3, .inl ⟨hw, g4⟩⟩
      · obtain ⟨E', T', tm', H', g1, g2, g3, g4⟩ := skip hp h1
        exact ⟨E', T', tm', H', g1, g2, g3, .inr ⟨hw, g4⟩⟩
      · obtain ⟨E', T', tm', H', g1, g2, g3, g4⟩ := skip hp h1
        exact ⟨E', T', tm', H', g1, g2, g3, .inr ⟨hw, g4⟩⟩
      · obtain ⟨E', T', tm', H', g1, g2, g3, g4⟩ := run hF hp h1
        exact ⟨E', T', tm', H', g1, g2, g3, .inl ⟨hw, g4⟩⟩
    · have hw2 : awanted ops o tm = some false := by rw [hw]; split <;> simp_all
      obtain ⟨E', T', tm', H', g1, g2, g3, g4⟩ := skip hp h1
      exact ⟨E', T', tm', H', g1, g2, g3, .inr ⟨hw2, g4⟩⟩

theorem fseq_ok (hn : n ≤ 8 ^ d) {ops : List Oper} {forc : FOrc} {orc : Orc} (hO : OrcSim forc orc) : ∀ (l : List Oper) (E : Tre AV d) (T : TH) (k : Tre AV d → TH → Res) (out : AV × TH) (H : AHeap) (tm : Tr), Rep T H → EnvSim d n E tm → fseq P gl d n ops forc l E T k = some out →
    ∃ E' T' tm' H', aseq P gl orc ops l tm H = some (tm', H') ∧ EnvSim d n E' tm' ∧ Rep T' H' ∧ k E' T' = some out
  | [], E, T, k, out, H, tm, hR, hE, h => ⟨E, T, tm, H, rfl, hE, hR, h⟩
  | o :: l, E, T, k, out, H, tm, hR, hE, h => by
    have h : (Option.rec none (fun s => s forc E T fun E' T' => fseq P gl d n ops forc l E' T' k) (cstep P gl d n ops o) : Res) = some out := h
    cases hs : cstep P gl d n ops o with
    | none => rw [hs] at h; cases h
    | some s =>
      rw [hs] at h
      obtain ⟨E1, T1, tm1, H1, g1, g2, g3, g4⟩ := cstep_ok hn hs forc orc E T _ out H tm hO hR hE h
      obtain ⟨E2, T2, tm2, H2, k1, k2, k3, k4⟩ := fseq_ok hn hO l E1 T1 k out H1 tm1 g2 g1 g3
      refine ⟨E2, T2, tm2, H2, ?_, k2, k3, k4⟩
      rcases g4 with ⟨w1, r, w2, w3⟩ | ⟨w1, w2, rfl⟩
      · simp only [aseq, w1, w2, frcC_eq', w3, k1]
      · simp only [aseq, w1, w2, k1]
end seqok

end Go.Abs

/-
  Texts of this proof, one behind the other (part 7).
-/
import Derived.Test.YtpcpdlfhcahjgaaGreatDoorXd6
set_option linter.unusedVariables false
set_option linter.unusedSimpArgs false
set_option maxRecDepth 100000
set_option maxHeartbeats 4000000
open Go.Proofs.Tryz renaming prog → Y00,func36 → Y0l,func27 → Y0A
open Nat renaming le_refl → Y01,beq → Y03,zero_le → Y05,zero_add → Y0c,eq_of_beq_eq_true → Y0k,mul_one → Y0u,le_succ_of_le → Y0y
open List renaming length_cons → Y02,length_append → Y07,getElem_mem → Y08,getElem?_eq_some_iff → Y09,length_nil → Y0a,getElem?_append_right → Y0d,mem_append → Y0f,append_nil → Y0g,getElem?_eq_getElem → Y0h,getElem?_append_left → Y0i,getD_eq_getElem?_getD → Y0j,mem_singleton → Y0m,findIdx?_eq_none_iff → Y0o,drop_eq_getElem_cons → Y0p,drop_length → Y0q,mem_cons → Y0s,mem_map → Y0v,cons_append → Y0w,mem_of_getElem? → Y0z,cons_ne_nil → Y0B,getElem?_replicate → Y0C,all_eq_true → Y0E,length_eq_zero_iff → Y0F,nodup_cons → Y0G,findIdx?_eq_some_iff_getElem → Y0H,take_succ_eq_append_getElem → Y0I,take_length → Y0J,length_map → Y0K
open Go.Abs.BodyGe renaming z → Y04,pre → Y06,cellsL → Y0r
open Go.Abs.Wk renaming slice → Y0b
open Bool renaming and_eq_true → Y0e,true_and → Y0n,eq_false_iff → Y0x
open Int renaming le_refl → Y0t
open Option renaming map_some → Y0D
namespace Go.Proofs.YtpcpdlfhcahjgaaGreatDoor.lex
open Go.Abs Go.RowKit
section
def lfC(w:DLf):List AV:=[.rs w.l.length 1 (Z5C w.l),.bool w.ok]
abbrev tL:TypeId:=96
theorem Zm3 {gl : Z0w} {f b fb : Nat} {Hc : Z00} {w w' : DLf} {args cargs : List AV} {r : AV} (hM : Z7R Y00 gl 1 f args (lfH w) r (lfH w')) (hargs : Wk [b] (.tuple cargs) (.tuple args)) (hb : Hc[b]? = some ⟨true, fb, 0, .cells (lfC w) tL⟩)
  (hl:Z0O [b] [fb] 0 Hc=true) (hF:Z0X Hc.length Hc=true) (hr:∀σ,ren σ r=r) (hr2:Z0h 1 (Z0z r [])=true):Z3F Y00 gl f cargs Hc r (Hc.set b ⟨true,fb,0,.cells (lfC w') tL⟩):=by
 have hfam:Z0m Hc b=fb:=by simp only[Z0m,hb]
 have h:=ZfN (m:=[b]) (Hc:=Hc) (cargs:=cargs) (Zg4 hM) hargs ⟨onOI hb ⟨rfl,rfl,rfl,rfl,Y06 (rest:=[]) (by rw[Y0g];rfl) rfl⟩,trivial⟩ rfl (by simp only[List.map,hfam];exact hl) rfl (Z5o hF) (λi o ho=>by
  match i,ho with
  |0,ho=>cases ho;rfl
  |i+1,ho=>cases ho) hr2
 rw[hr]at h
 have hu:Zbq [b] (sgS [b] Hc.length) (lfH w') 0 Hc++shS (sgS [b] Hc.length) Hc.length ((lfH w').drop [b].length)=Hc.set b ⟨true,fb,0,.cells (lfC w') tL⟩:=by
  have e0:shS (sgS [b] Hc.length) Hc.length ((lfH w').drop [b].length)=[]:=rfl
  rw[e0,Y0g]
  apply List.ext_getElem?
  intro i
  rw[Z8C]
  simp only[Y0c]
  by_cases hi:i=b
  · subst hi
    rw[List.getElem?_set_self (Y09.1 hb).1,hb]
    have hp:Z3H [i] i 0=some 0:=by simp[Z3H]
    simp only[Y0D,hp]
    rfl
  · have : Z3H [b] i 0 = none := by
     have:Y03 b i=false:=Y0x.2 λe=>hi (Y0k e).symm
     simp only[Z3H,this];rfl
    rw[this,List.getElem?_set_ne (λe=>hi e.symm)]
    cases Hc[i]?<;>rfl
 rw[hu]at h
 exact h
structure LfI (I:Type) where
 i:I
 w:DLf
 b:Nat
 fb:Nat
 H:Z00
theorem Zkf{a b:DLf}(h:lfC a=lfC b):a=b:=by
 obtain⟨l,o⟩:=a
 obtain⟨l',o'⟩:=b
 simp only[lfC,List.cons.injEq,AV.rs.injEq,AV.bool.injEq,true_and,and_true]at h
 rw[Z3L h.1.2,h.2]
def Zah (f : Nat) (hb : Z0E Y00 f = true) {I : Type} (G : I -> DLf -> Prop) (A : I -> List AV) (R : I -> DLf -> AV) (N : I -> DLf -> DLf) (hA : ∀ i b, Wk [b] (.tuple (.ptr b 0 :: A i)) (.tuple (.ptr 0 0 :: A i))) (hinj : ∀ i j, A i = A j -> i = j) (hr : ∀ i w σ, ren σ (R i w) = R i w) (hr2 : ∀ i w, Z0h 1 (Z0z (R i w) []) = true)
  (ok:∀i s,G i s->Z7R Y00 runLives.gl 1 f (.ptr 0 0::A i) (lfH s) (R i s) (lfH (N i s))):FamM Y00 runLives.gl where
 I:=LfI I
 f:=f
 G:=λx=>G x.i x.w/\x.H[x.b]? = some ⟨true,x.fb,0,.cells (lfC x.w) tL⟩/\Z0O [x.b] [x.fb] 0 x.H=true/\Z0X x.H.length x.H=true
 A:=λx=>.ptr x.b 0::A x.i
 H:=λx=>x.H
 R:=λx=>R x.i x.w
 O:=λx=>x.H.set x.b ⟨true,x.fb,0,.cells (lfC (N x.i x.w)) tL⟩
 body:=hb
 inj:=by
  rintro⟨i,w,b,fb,H⟩ ⟨i',w',b',fb',H'⟩ ⟨_,h1,_,_⟩ ⟨_,h2,_,_⟩ e1 e2
  dsimp only at h1 h2 e1 e2⊢
  simp only[List.cons.injEq,AV.ptr.injEq,and_true]at e1
  obtain⟨rfl,e1⟩:=e1
  have e1:=hinj _ _ e1
  subst e1 e2
  rw[h1]at h2
  simp only[Option.some.injEq,AObj.mk.injEq,ABody.cells.injEq,true_and,and_true]at h2
  obtain⟨rfl,h2⟩:=h2
  rw[Zkf h2]
  exact⟨rfl,rfl⟩
 ok:=λx h=>Zm3 (ok x.i x.w h.1) (hA x.i x.b) h.2.1 h.2.2.1 h.2.2.2 (hr x.i x.w) (hr2 x.i x.w)
theorem wk1{b:Nat}:Wk [b] (.tuple [.ptr b 0]) (.tuple [.ptr 0 0]):=Wk.tuple ⟨Wk.ptr rfl rfl,trivial⟩
theorem wk2{b:Nat}{s:List UInt8}:Wk [b] (.tuple [.ptr b 0,.str s]) (.tuple [.ptr 0 0,.str s]):=Wk.tuple ⟨Wk.ptr rfl rfl,Wk.noref rfl,trivial⟩
def Zen:FamM Y00 runLives.gl:=Zah 52 (by kernel_rfl) (I:=Unit) (λ_ s=>LfOK s) (λ_=>[]) (λ_ s=>.str s.next.1) (λ_ s=>s.next.2) (λ_ _=>wk1) (λ_ _ _=>rfl) (λ_ _ _=>rfl) (λ_ _=>rfl) (λ_ s h=>ZcZ s h)
def Z82:FamM Y00 runLives.gl:=Zah 68 (by kernel_rfl) (I:=List UInt8) (λs _=>s.length<=1048576) (λs=>[.str s]) (λs w=>.int .i64 (w.small s).1) (λs w=>(w.small s).2) (λ_ _=>wk2) (λi j h=>by simpa using h) (λ_ _ _=>rfl) (λ_ _=>rfl) (λs w h=>Za7 w s h)
def Zla:FamM Y00 runLives.gl:=Zah 70 (by kernel_rfl) (I:=Unit) (λ_ s=>LfOK s) (λ_=>[]) (λ_ s=>.int .i64 s.number.1) (λ_ s=>s.number.2) (λ_ _=>wk1) (λ_ _ _=>rfl) (λ_ _ _=>rfl) (λ_ _=>rfl) (λ_ s h=>ZfV s h)
def Zlk:FamM Y00 runLives.gl:=Zah 72 (by kernel_rfl) (I:=Unit) (λ_ s=>LfOK s) (λ_=>[]) (λ_ s=>.agg (idC s.did.1)) (λ_ s=>s.did.2) (λ_ _=>wk1) (λ_ _ _=>rfl) (λ_ _ _=>rfl) (λ_ _=>rfl) (λ_ s h=>Zj8 s h)
def evB:FamM Y00 runLives.gl:=Zah 73 (by kernel_rfl) (I:=Unit) (λ_ s=>LfOK s) (λ_=>[]) (λ_ s=>.tuple [.agg (evC s.event.1),.agg (idC s.event.2.1)]) (λ_ s=>s.event.2.2) (λ_ _=>wk1) (λ_ _ _=>rfl) (λ_ _ _=>rfl) (λ_ _=>rfl) (λ_ s h=>Zm4 s h)
end
section
theorem Z8H:∀s:List UInt8,(Z0C s).length<=s.length+1/\(Z0C s)≠[]/\∀w∈Z0C s,w.length<=s.length
 |[]=>⟨Y01 _,by simp[Z0C],by simp[Z0C]⟩
 |b::s=>by
  obtain⟨h1,h2,h3⟩:=Z8H s
  simp only[Z0C]
  by_cases hb:b=32
  · rw[if_pos hb]
    refine⟨by simp only[Y02];omega,by simp,λw hw=>?_⟩
    rcases Y0s.1 hw with rfl|hw
    ·exact Y05 _
    ·have:=h3 w hw;simp only[Y02];omega
  · rw[if_neg hb]
    cases hs:Z0C s with
    |nil=>exact absurd hs h2
    |cons w l =>
     rw[hs]at h1 h3
     refine⟨by simp only[Y02]at h1⊢;omega,by simp,λv hv=>?_⟩
     rcases Y0s.1 hv with rfl|hv
     ·have:=h3 w (by simp);simp only[Y02];omega
     ·have:=h3 v (by simp[hv]);simp only[Y02];omega
theorem Z49(s:List UInt8)(h:s.length<=1048576):LfOK ⟨Z0C s,true⟩:=⟨by have:=(Z8H s).1;show (Z0C s).length<=_;omega,λw hw=>by have:=(Z8H s).2.2 w hw;omega⟩
def ZeW(w:DLf):List DId×DLf:=Z7j (w.next.2.small w.next.1).2.l.length (w.next.2.small w.next.1).2 []
def Zlc(f:Nat):Bool:=Y03 f 52 || (Y03 f 68 || (Y03 f 70 || (Y03 f 72 || (Y03 f 73 || (Y03 f 51 || Y03 f 74)))))
theorem Zam(l:List DId):Z0z (Z3E l) []=[]:=by
 cases l<;>rfl
theorem Zka{f:Nat}{s s':DLf}{x x':DLn}{u u':AV}{args:List AV}{r:AV}(h:Z7R Y00 runLives.gl 2 f args (lfH s++[lnB x u]) r (lfH s'++[lnB x' u'])):Z3F Y00 runLives.gl f args (lfH s++[lnB x u]) r (lfH s'++[lnB x' u']):=Za6 h rfl rfl λb o o' h h'=>by
 match b,h,h' with
 |0,h,h'=>cases h;cases h';exact⟨rfl,rfl,λ_=>rfl⟩
 |1,h,h'=>cases h;cases h';exact⟨rfl,rfl,λ_=>rfl⟩
 |b+2,h,h'=>cases h
theorem Zf8 (w : DLf) (hw : LfOK w) (Z Y : List AV) (tz ty : TypeId) (x : DLn) (hx : x.ids = []) : Z3F Y00 runLives.gl 74 [.ptr 1 0, .ptr 2 0] [⟨true, 0, 0, .cells Z tz⟩, ⟨true, 1, 0, .cells (lfC w) tL⟩, ⟨true, 2, 0, .cells (Z2r x .nslice) 78⟩, ⟨true, 3, 0, .cells Y ty⟩, ⟨true, 4, 0, .cells Y ty⟩] (.tuple [])
  [⟨true,0,0,.cells Z tz⟩,⟨true,1,0,.cells (lfC (ZeW w).2) tL⟩,⟨true,2,0,.cells (Z2r { x with n:=(w.next.2.small w.next.1).1 } (Z3E (ZeW w).1)) 78⟩,⟨true,3,0,.cells Y ty⟩,⟨true,4,0,.cells Y ty⟩]:=by
 have e4:=ZhF w hw x hx
 have h:=Zka e4
 change Z3F _ _ _ _ _ _ (lfH (ZeW w).2++[lnB { x with n:=(w.next.2.small w.next.1).1 } (Z3E (ZeW w).1)]) at h
 generalize (w.next.2.small w.next.1).1=n at *
 generalize ZeW w=R at *
 obtain⟨R1,R2⟩:=R
 dsimp only at h⊢
 have key : ∀ u : AV, Z0z u [] = [] -> (∀ σ, ren σ u = u) -> Z3F Y00 runLives.gl 74 [.ptr 0 0, .ptr 1 0] (lfH w ++ [lnB x .nslice]) (.tuple []) (lfH R2 ++ [lnB { x with n := n } u]) -> Z3F Y00 runLives.gl 74 [.ptr 1 0, .ptr 2 0] [⟨true, 0, 0, .cells Z tz⟩, ⟨true, 1, 0, .cells (lfC w) tL⟩, ⟨true, 2, 0, .cells (Z2r x .nslice) 78⟩, ⟨true, 3, 0, .cells Y ty⟩, ⟨true, 4, 0, .cells Y ty⟩] (.tuple [])
   [⟨true,0,0,.cells Z tz⟩,⟨true,1,0,.cells (lfC R2) tL⟩,⟨true,2,0,.cells (Z2r { x with n:=n } u) 78⟩,⟨true,3,0,.cells Y ty⟩,⟨true,4,0,.cells Y ty⟩]:=λu hu hu2 h=>by
  have h2:=ZfN (m:=[1,2]) (Hc:=[⟨true,0,0,.cells Z tz⟩,⟨true,1,0,.cells (lfC w) tL⟩,⟨true,2,0,.cells (Z2r x .nslice) 78⟩,⟨true,3,0,.cells Y ty⟩,⟨true,4,0,.cells Y ty⟩]) (cargs:=[.ptr 1 0,.ptr 2 0]) h (Wk.tuple ⟨Wk.ptr rfl rfl,Wk.ptr rfl rfl,trivial⟩) ⟨⟨rfl,rfl,rfl,rfl,Y06 (rest:=[]) (by rw[Y0g];rfl) rfl⟩,⟨rfl,rfl,rfl,rfl,Y06 (rest:=[]) (by rw[Y0g]) rfl⟩,trivial⟩ rfl rfl rfl (Z5o rfl) (λi o ho=>by
   match i,ho with
   |0,ho=>cases ho;rfl
   |1,ho=>cases ho;show Z0h 2 (refsL (Z2r { x with n:=n } u) [])=true;simp only[Z2r,refsL,hu,Z0z];rfl
   |i+2,ho=>cases ho) rfl
  have e:Zbq [1,2] (sgS [1,2] 5) (lfH R2++[lnB { x with n:=n } u]) 0 [⟨true,0,0,.cells Z tz⟩,⟨true,1,0,.cells (lfC w) tL⟩,⟨true,2,0,.cells (Z2r x .nslice) 78⟩,⟨true,3,0,.cells Y ty⟩,⟨true,4,0,.cells Y ty⟩]++shS (sgS [1,2] 5) 5 ((lfH R2++[lnB { x with n:=n } u]).drop 2)=[⟨true,0,0,.cells Z tz⟩,⟨true,1,0,.cells (lfC R2) tL⟩,⟨true,2,0,.cells (Z2r { x with n:=n } u) 78⟩,⟨true,3,0,.cells Y ty⟩,⟨true,4,0,.cells Y ty⟩]:=by
   have hr:renL (sgS [1,2] 5) (Z2r { x with n:=n } u)=Z2r { x with n:=n } u:=by simp only[Z2r,renL,hu2,ren]
   have e2:Zbq [1,2] (sgS [1,2] 5) (lfH R2++[lnB { x with n:=n } u]) 0 [⟨true,0,0,.cells Z tz⟩,⟨true,1,0,.cells (lfC w) tL⟩,⟨true,2,0,.cells (Z2r x .nslice) 78⟩,⟨true,3,0,.cells Y ty⟩,⟨true,4,0,.cells Y ty⟩]++shS (sgS [1,2] 5) 5 ((lfH R2++[lnB { x with n:=n } u]).drop 2)=[⟨true,0,0,.cells Z tz⟩,⟨true,1,0,.cells (lfC R2) tL⟩,⟨true,2,0,.cells (renL (sgS [1,2] 5) (Z2r { x with n:=n } u)) 78⟩,⟨true,3,0,.cells Y ty⟩,⟨true,4,0,.cells Y ty⟩]:=rfl
   rw[e2,hr]
  exact e ▸ h2
 refine key (Z3E R1) (Zam R1) (λσ=>?_) h
 cases R1<;>rfl
theorem ZaG{α : Type}(l:List α):((l.length:Int)==0)=l.isEmpty:=by
 cases l with
 |nil=>rfl
 |cons a l=>simp;omega
def fmY:List AV:=[.func (.func 67) [] [],.func (.func 69) [] [],.func (.func 71) [] [],.func (.func 74) [] [],.func (.func 75) [] []]
def lnV(x:DLn):AV:=.agg (Z2r x (Z3E x.ids))
def Z1r(s:List UInt8):AV:=.tuple [lnV (Z06 s).1,.bool (Z06 s).2]
abbrev w0S(s:List UInt8):DLf:=(DLf.mk (Z0C s) true).next.2
def lnR(x:DLn)(w:DLf):DLn×Bool:=(x,w.ok&&w.l.isEmpty)
def lnG(k:List UInt8)(n v:Int)(id:DId)(ev:DEv)(frm:DId)(ids:List DId):DLn:=⟨k,n,v,id,ev,frm,ids⟩
theorem Z74(s:List UInt8)(h:(DLf.mk (Z0C s) true).next.1=Z0j):Z06 s=lnR (lnG Z0j ((w0S s).next.2.small (w0S s).next.1).1 0 idD evD idD []) ((w0S s).next.2.small (w0S s).next.1).2:=by
 unfold Z06
 simp only[h,if_true,if_false,true_or,or_true,false_or]
 rfl
theorem Z9W(s:List UInt8)(h:(DLf.mk (Z0C s) true).next.1=Z23):Z06 s=lnR (lnG Z23 ((w0S s).next.2.small (w0S s).next.1).1 ((w0S s).next.2.small (w0S s).next.1).2.number.1 idD evD idD []) ((w0S s).next.2.small (w0S s).next.1).2.number.2:=by
 have d0:¬Z23=Z0j:=by decide
 unfold Z06
 simp only[h,if_true,if_false,true_or,or_true,false_or,d0]
 rfl
theorem Z75(s:List UInt8)(h:(DLf.mk (Z0C s) true).next.1=Z0k):Z06 s=lnR (lnG Z0k 0 0 (w0S s).did.1 (w0S s).did.2.event.1 (w0S s).did.2.event.2.1 []) (w0S s).did.2.event.2.2:=by
 have d0:¬Z0k=Z0j:=by decide
 have d1:¬Z0k=Z23:=by decide
 unfold Z06
 simp only[h,if_true,if_false,true_or,or_true,false_or,d0,d1]
 rfl
theorem Z73(s:List UInt8)(h:(DLf.mk (Z0C s) true).next.1=Z0d):Z06 s=lnR (lnG Z0d ((w0S s).next.2.small (w0S s).next.1).1 0 idD evD idD (ZeW (w0S s)).1) (ZeW (w0S s)).2:=by
 have d0:¬Z0d=Z0j:=by decide
 have d1:¬Z0d=Z23:=by decide
 have d2:¬Z0d=Z0k:=by decide
 unfold Z06
 simp only[h,if_true,if_false,true_or,or_true,false_or,d0,d1,d2]
 rfl
theorem Z9X(s:List UInt8)(h:(DLf.mk (Z0C s) true).next.1=Z16):Z06 s=lnR (lnG Z16 0 0 idD evD idD []) (w0S s):=by
 have d0:¬Z16=Z0j:=by decide
 have d1:¬Z16=Z23:=by decide
 have d2:¬Z16=Z0k:=by decide
 have d3:¬Z16=Z0d:=by decide
 unfold Z06
 simp only[h,if_true,if_false,true_or,or_true,false_or,d0,d1,d2,d3]
 rfl
theorem Z86(s:List UInt8)(h:¬((DLf.mk (Z0C s) true).next.1=Z0j\/(DLf.mk (Z0C s) true).next.1=Z23\/(DLf.mk (Z0C s) true).next.1=Z0k\/(DLf.mk (Z0C s) true).next.1=Z0d\/(DLf.mk (Z0C s) true).next.1=Z16)):Z06 s=(lnG [] 0 0 idD evD idD [],false):=by
 unfold Z06
 simp only
 rw[if_neg h]
 rfl
theorem Ze9(s:List UInt8)(hs:s.length<=1048576)(hkind:(DLf.mk (Z0C s) true).next.1=Z0j):ValOK Y00 runLives.gl 36 [.str s] (Z1r s):=by
 have hF:=Z49 s hs
 have f0:=Z0r hF
 obtain⟨O,hO,⟨p1,p2,p3,p4,p5,-⟩,p7,-⟩:=Z5m (P:=Y00) (gl:=runLives.gl) [Zen,Z82,Zla,Zlk,evB] [
  { I:=Unit,f:=51,G:=λ_=>True,A:=λ_=>[.str s,.str [32]],R:=λ_=>.rs (Z0C s).length 1 ((Z0C s).map AV.str),body:=(by kernel_rfl),inj:=(λ_ _ _ _ _=>rfl),ok:=(λ_ _=>⟨rfl,Z48 s hs⟩) }] rfl
 have qn:∀w,LfOK w->∀b fb Hc,Hc[b]? = some ⟨true,fb,0,.cells (lfC w) tL⟩->Z0O [b] [fb] 0 Hc=true->Z0X Hc.length Hc=true->Z02 Y00 O Hc 52 [.ptr b 0]=some (.str w.next.1,Hc.set b ⟨true,fb,0,.cells (lfC w.next.2) tL⟩):=λw hw b fb Hc h1 h2 h3=>p1 ⟨(),w,b,fb,Hc⟩ ⟨hw,h1,h2,h3⟩
 have qs:∀w,∀s,s.length<=1048576->∀b fb Hc,Hc[b]? = some ⟨true,fb,0,.cells (lfC w) tL⟩->Z0O [b] [fb] 0 Hc=true->Z0X Hc.length Hc=true->Z02 Y00 O Hc 68 [.ptr b 0,.str s]=some (.int .i64 (w.small s).1,Hc.set b ⟨true,fb,0,.cells (lfC (w.small s).2) tL⟩):=λw s hs b fb Hc h1 h2 h3=>p2 ⟨s,w,b,fb,Hc⟩ ⟨hs,h1,h2,h3⟩
 have qm:∀w,LfOK w->∀b fb Hc,Hc[b]? = some ⟨true,fb,0,.cells (lfC w) tL⟩->Z0O [b] [fb] 0 Hc=true->Z0X Hc.length Hc=true->Z02 Y00 O Hc 70 [.ptr b 0]=some (.int .i64 w.number.1,Hc.set b ⟨true,fb,0,.cells (lfC w.number.2) tL⟩):=λw hw b fb Hc h1 h2 h3=>p3 ⟨(),w,b,fb,Hc⟩ ⟨hw,h1,h2,h3⟩
 have qd:∀w,LfOK w->∀b fb Hc,Hc[b]? = some ⟨true,fb,0,.cells (lfC w) tL⟩->Z0O [b] [fb] 0 Hc=true->Z0X Hc.length Hc=true->Z02 Y00 O Hc 72 [.ptr b 0]=some (.agg (idC w.did.1),Hc.set b ⟨true,fb,0,.cells (lfC w.did.2) tL⟩):=λw hw b fb Hc h1 h2 h3=>p4 ⟨(),w,b,fb,Hc⟩ ⟨hw,h1,h2,h3⟩
 have qe:∀w,LfOK w->∀b fb Hc,Hc[b]? = some ⟨true,fb,0,.cells (lfC w) tL⟩->Z0O [b] [fb] 0 Hc=true->Z0X Hc.length Hc=true->Z02 Y00 O Hc 73 [.ptr b 0]=some (.tuple [.agg (evC w.event.1),.agg (idC w.event.2.1)],Hc.set b ⟨true,fb,0,.cells (lfC w.event.2.2) tL⟩):=λw hw b fb Hc h1 h2 h3=>p5 ⟨(),w,b,fb,Hc⟩ ⟨hw,h1,h2,h3⟩
 have qsp:∀H,Z02 Y00 O H 51 [.str s,.str [32]]=some (.rs (Z0C s).length 1 ((Z0C s).map AV.str),H):=p7 () trivial
 clear p1 p2 p3 p4 p5 p7
 have g0:=qn _ hF
 unfold Z1r
 rw[Z74 s hkind]
 have F1:=f0.1
 clear f0
 unfold w0S at *
 generalize Z0C s=L0 at *
 rw[hkind]at g0
 clear hkind
 generalize (DLf.mk L0 true).next.2=w1 at *
 have f1:=Z0r F1
 have g1:=qn w1 F1
 have g2:=qs w1.next.2 w1.next.1 f1.2
 generalize w1.next.2.small w1.next.1=sm at *
 generalize w1.next.1=s1 at *
 generalize w1.next.2=w2 at *
 obtain⟨n,⟨l3,ok3⟩⟩:=sm
 obtain⟨l1,ok1⟩:=w1
 obtain⟨l2,ok2⟩:=w2
 clear qn qs qm qd qe
 simp only[lfC,Z5C,idC,evC,lnV,Z2r,lnR,lnG,idD,evD,Z3E]at *
 refine Z0u Zlc 3 follows Z0a hO Y0l rfl ?_
 repeat' ((conv=>whnf);first|with_reducible refine exI (qsp _) ?_|refine exI (g0 1 1 _ rfl rfl rfl) ?_|refine exI (g1 1 1 _ rfl rfl rfl) ?_|refine exI (g2 1 1 _ rfl rfl rfl) ?_|(refine ZaL ?_ ?_;(focus (assumption)))|(refine ZaM ?_ ?_;(focus (assumption)))|((with_reducible apply Z01<;>intro h)<;>subst h)|refine stp ?_|with_reducible apply Z01<;>intro h)
 all_goals conv=>whnf
 all_goals first|rfl|(rw[ZaG];rfl)
theorem ZhS(s:List UInt8)(hs:s.length<=1048576)(hkind:(DLf.mk (Z0C s) true).next.1=Z23):ValOK Y00 runLives.gl 36 [.str s] (Z1r s):=by
 have hF:=Z49 s hs
 have f0:=Z0r hF
 obtain⟨O,hO,⟨p1,p2,p3,p4,p5,-⟩,p7,-⟩:=Z5m (P:=Y00) (gl:=runLives.gl) [Zen,Z82,Zla,Zlk,evB] [
  { I:=Unit,f:=51,G:=λ_=>True,A:=λ_=>[.str s,.str [32]],R:=λ_=>.rs (Z0C s).length 1 ((Z0C s).map AV.str),body:=(by kernel_rfl),inj:=(λ_ _ _ _ _=>rfl),ok:=(λ_ _=>⟨rfl,Z48 s hs⟩) }] rfl
 have qn:∀w,LfOK w->∀b fb Hc,Hc[b]? = some ⟨true,fb,0,.cells (lfC w) tL⟩->Z0O [b] [fb] 0 Hc=true->Z0X Hc.length Hc=true->Z02 Y00 O Hc 52 [.ptr b 0]=some (.str w.next.1,Hc.set b ⟨true,fb,0,.cells (lfC w.next.2) tL⟩):=λw hw b fb Hc h1 h2 h3=>p1 ⟨(),w,b,fb,Hc⟩ ⟨hw,h1,h2,h3⟩
 have qs:∀w,∀s,s.length<=1048576->∀b fb Hc,Hc[b]? = some ⟨true,fb,0,.cells (lfC w) tL⟩->Z0O [b] [fb] 0 Hc=true->Z0X Hc.length Hc=true->Z02 Y00 O Hc 68 [.ptr b 0,.str s]=some (.int .i64 (w.small s).1,Hc.set b ⟨true,fb,0,.cells (lfC (w.small s).2) tL⟩):=λw s hs b fb Hc h1 h2 h3=>p2 ⟨s,w,b,fb,Hc⟩ ⟨hs,h1,h2,h3⟩
 have qm:∀w,LfOK w->∀b fb Hc,Hc[b]? = some ⟨true,fb,0,.cells (lfC w) tL⟩->Z0O [b] [fb] 0 Hc=true->Z0X Hc.length Hc=true->Z02 Y00 O Hc 70 [.ptr b 0]=some (.int .i64 w.number.1,Hc.set b ⟨true,fb,0,.cells (lfC w.number.2) tL⟩):=λw hw b fb Hc h1 h2 h3=>p3 ⟨(),w,b,fb,Hc⟩ ⟨hw,h1,h2,h3⟩
 have qd:∀w,LfOK w->∀b fb Hc,Hc[b]? = some ⟨true,fb,0,.cells (lfC w) tL⟩->Z0O [b] [fb] 0 Hc=true->Z0X Hc.length Hc=true->Z02 Y00 O Hc 72 [.ptr b 0]=some (.agg (idC w.did.1),Hc.set b ⟨true,fb,0,.cells (lfC w.did.2) tL⟩):=λw hw b fb Hc h1 h2 h3=>p4 ⟨(),w,b,fb,Hc⟩ ⟨hw,h1,h2,h3⟩
 have qe:∀w,LfOK w->∀b fb Hc,Hc[b]? = some ⟨true,fb,0,.cells (lfC w) tL⟩->Z0O [b] [fb] 0 Hc=true->Z0X Hc.length Hc=true->Z02 Y00 O Hc 73 [.ptr b 0]=some (.tuple [.agg (evC w.event.1),.agg (idC w.event.2.1)],Hc.set b ⟨true,fb,0,.cells (lfC w.event.2.2) tL⟩):=λw hw b fb Hc h1 h2 h3=>p5 ⟨(),w,b,fb,Hc⟩ ⟨hw,h1,h2,h3⟩
 have qsp:∀H,Z02 Y00 O H 51 [.str s,.str [32]]=some (.rs (Z0C s).length 1 ((Z0C s).map AV.str),H):=p7 () trivial
 clear p1 p2 p3 p4 p5 p7
 have g0:=qn _ hF
 unfold Z1r
 rw[Z9W s hkind]
 have F1:=f0.1
 clear f0
 unfold w0S at *
 generalize Z0C s=L0 at *
 rw[hkind]at g0
 clear hkind
 generalize (DLf.mk L0 true).next.2=w1 at *
 have f1:=Z0r F1
 have g1:=qn w1 F1
 have g2:=qs w1.next.2 w1.next.1 f1.2
 have F3:LfOK (w1.next.2.small w1.next.1).2:=ZeU f1.1 (Z5E _ _)
 have g3:=qm _ F3
 generalize (w1.next.2.small w1.next.1).2.number=nm at *
 generalize w1.next.2.small w1.next.1=sm at *
 generalize w1.next.1=s1 at *
 generalize w1.next.2=w2 at *
 obtain⟨n,⟨l3,ok3⟩⟩:=sm
 obtain⟨v,⟨l4,ok4⟩⟩:=nm
 obtain⟨l1,ok1⟩:=w1
 obtain⟨l2,ok2⟩:=w2
 clear qn qs qm qd qe
 simp only[lfC,Z5C,idC,evC,lnV,Z2r,lnR,lnG,idD,evD,Z3E]at *
 refine Z0u Zlc 3 follows Z0a hO Y0l rfl ?_
 repeat' ((conv=>whnf);first|with_reducible refine exI (qsp _) ?_|refine exI (g0 1 1 _ rfl rfl rfl) ?_|refine exI (g1 1 1 _ rfl rfl rfl) ?_|refine exI (g2 1 1 _ rfl rfl rfl) ?_|refine exI (g3 1 1 _ rfl rfl rfl) ?_|(refine ZaL ?_ ?_;(focus (assumption)))|(refine ZaM ?_ ?_;(focus (assumption)))|((with_reducible apply Z01<;>intro h)<;>subst h)|refine stp ?_|with_reducible apply Z01<;>intro h)
 all_goals conv=>whnf
 all_goals first|rfl|(rw[ZaG];rfl)
theorem Zea(s:List UInt8)(hs:s.length<=1048576)(hkind:(DLf.mk (Z0C s) true).next.1=Z0k):ValOK Y00 runLives.gl 36 [.str s] (Z1r s):=by
 have hF:=Z49 s hs
 have f0:=Z0r hF
 obtain⟨O,hO,⟨p1,p2,p3,p4,p5,-⟩,p7,-⟩:=Z5m (P:=Y00) (gl:=runLives.gl) [Zen,Z82,Zla,Zlk,evB] [
  { I:=Unit,f:=51,G:=λ_=>True,A:=λ_=>[.str s,.str [32]],R:=λ_=>.rs (Z0C s).length 1 ((Z0C s).map AV.str),body:=(by kernel_rfl),inj:=(λ_ _ _ _ _=>rfl),ok:=(λ_ _=>⟨rfl,Z48 s hs⟩) }] rfl
 have qn:∀w,LfOK w->∀b fb Hc,Hc[b]? = some ⟨true,fb,0,.cells (lfC w) tL⟩->Z0O [b] [fb] 0 Hc=true->Z0X Hc.length Hc=true->Z02 Y00 O Hc 52 [.ptr b 0]=some (.str w.next.1,Hc.set b ⟨true,fb,0,.cells (lfC w.next.2) tL⟩):=λw hw b fb Hc h1 h2 h3=>p1 ⟨(),w,b,fb,Hc⟩ ⟨hw,h1,h2,h3⟩
 have qs:∀w,∀s,s.length<=1048576->∀b fb Hc,Hc[b]? = some ⟨true,fb,0,.cells (lfC w) tL⟩->Z0O [b] [fb] 0 Hc=true->Z0X Hc.length Hc=true->Z02 Y00 O Hc 68 [.ptr b 0,.str s]=some (.int .i64 (w.small s).1,Hc.set b ⟨true,fb,0,.cells (lfC (w.small s).2) tL⟩):=λw s hs b fb Hc h1 h2 h3=>p2 ⟨s,w,b,fb,Hc⟩ ⟨hs,h1,h2,h3⟩
 have qm:∀w,LfOK w->∀b fb Hc,Hc[b]? = some ⟨true,fb,0,.cells (lfC w) tL⟩->Z0O [b] [fb] 0 Hc=true->Z0X Hc.length Hc=true->Z02 Y00 O Hc 70 [.ptr b 0]=some (.int .i64 w.number.1,Hc.set b ⟨true,fb,0,.cells (lfC w.number.2) tL⟩):=λw hw b fb Hc h1 h2 h3=>p3 ⟨(),w,b,fb,Hc⟩ ⟨hw,h1,h2,h3⟩
 have qd:∀w,LfOK w->∀b fb Hc,Hc[b]? = some ⟨true,fb,0,.cells (lfC w) tL⟩->Z0O [b] [fb] 0 Hc=true->Z0X Hc.length Hc=true->Z02 Y00 O Hc 72 [.ptr b 0]=some (.agg (idC w.did.1),Hc.set b ⟨true,fb,0,.cells (lfC w.did.2) tL⟩):=λw hw b fb Hc h1 h2 h3=>p4 ⟨(),w,b,fb,Hc⟩ ⟨hw,h1,h2,h3⟩
 have qe:∀w,LfOK w->∀b fb Hc,Hc[b]? = some ⟨true,fb,0,.cells (lfC w) tL⟩->Z0O [b] [fb] 0 Hc=true->Z0X Hc.length Hc=true->Z02 Y00 O Hc 73 [.ptr b 0]=some (.tuple [.agg (evC w.event.1),.agg (idC w.event.2.1)],Hc.set b ⟨true,fb,0,.cells (lfC w.event.2.2) tL⟩):=λw hw b fb Hc h1 h2 h3=>p5 ⟨(),w,b,fb,Hc⟩ ⟨hw,h1,h2,h3⟩
 have qsp:∀H,Z02 Y00 O H 51 [.str s,.str [32]]=some (.rs (Z0C s).length 1 ((Z0C s).map AV.str),H):=p7 () trivial
 clear p1 p2 p3 p4 p5 p7
 have g0:=qn _ hF
 unfold Z1r
 rw[Z75 s hkind]
 have F1:=f0.1
 clear f0
 unfold w0S at *
 generalize Z0C s=L0 at *
 rw[hkind]at g0
 clear hkind
 generalize (DLf.mk L0 true).next.2=w1 at *
 have g1:=qd w1 F1
 have F2:LfOK w1.did.2:=ZeU (Z0r F1).1 (Zmq _)
 have g2:=qe _ F2
 generalize w1.did.2.event=ev at *
 generalize w1.did=dd at *
 obtain⟨⟨dt,di⟩,⟨l2,ok2⟩⟩:=dd
 obtain⟨⟨ek,el,eo,er,ew⟩,⟨ft,fi⟩,⟨l3,ok3⟩⟩:=ev
 obtain⟨l1,ok1⟩:=w1
 clear qn qs qm qd qe
 simp only[lfC,Z5C,idC,evC,lnV,Z2r,lnR,lnG,idD,evD,Z3E]at *
 refine Z0u Zlc 3 follows Z0a hO Y0l rfl ?_
 repeat' ((conv=>whnf);first|with_reducible refine exI (qsp _) ?_|refine exI (g0 1 1 _ rfl rfl rfl) ?_|refine exI (g1 1 1 _ rfl rfl rfl) ?_|refine exI (g2 1 1 _ rfl rfl rfl) ?_|(refine ZaL ?_ ?_;(focus (assumption)))|(refine ZaM ?_ ?_;(focus (assumption)))|((with_reducible apply Z01<;>intro h)<;>subst h)|refine stp ?_|with_reducible apply Z01<;>intro h)
 all_goals conv=>whnf
 all_goals first|rfl|(rw[ZaG];rfl)
theorem ZhT(s:List UInt8)(hs:s.length<=1048576)(hkind:(DLf.mk (Z0C s) true).next.1=Z16):ValOK Y00 runLives.gl 36 [.str s] (Z1r s):=by
 have hF:=Z49 s hs
 have f0:=Z0r hF
 obtain⟨O,hO,⟨p1,p2,p3,p4,p5,-⟩,p7,-⟩:=Z5m (P:=Y00) (gl:=runLives.gl) [Zen,Z82,Zla,Zlk,evB] [
  { I:=Unit,f:=51,G:=λ_=>True,A:=λ_=>[.str s,.str [32]],R:=λ_=>.rs (Z0C s).length 1 ((Z0C s).map AV.str),body:=(by kernel_rfl),inj:=(λ_ _ _ _ _=>rfl),ok:=(λ_ _=>⟨rfl,Z48 s hs⟩) }] rfl
 have qn:∀w,LfOK w->∀b fb Hc,Hc[b]? = some ⟨true,fb,0,.cells (lfC w) tL⟩->Z0O [b] [fb] 0 Hc=true->Z0X Hc.length Hc=true->Z02 Y00 O Hc 52 [.ptr b 0]=some (.str w.next.1,Hc.set b ⟨true,fb,0,.cells (lfC w.next.2) tL⟩):=λw hw b fb Hc h1 h2 h3=>p1 ⟨(),w,b,fb,Hc⟩ ⟨hw,h1,h2,h3⟩
 have qs:∀w,∀s,s.length<=1048576->∀b fb Hc,Hc[b]? = some ⟨true,fb,0,.cells (lfC w) tL⟩->Z0O [b] [fb] 0 Hc=true->Z0X Hc.length Hc=true->Z02 Y00 O Hc 68 [.ptr b 0,.str s]=some (.int .i64 (w.small s).1,Hc.set b ⟨true,fb,0,.cells (lfC (w.small s).2) tL⟩):=λw s hs b fb Hc h1 h2 h3=>p2 ⟨s,w,b,fb,Hc⟩ ⟨hs,h1,h2,h3⟩
 have qm:∀w,LfOK w->∀b fb Hc,Hc[b]? = some ⟨true,fb,0,.cells (lfC w) tL⟩->Z0O [b] [fb] 0 Hc=true->Z0X Hc.length Hc=true->Z02 Y00 O Hc 70 [.ptr b 0]=some (.int .i64 w.number.1,Hc.set b ⟨true,fb,0,.cells (lfC w.number.2) tL⟩):=λw hw b fb Hc h1 h2 h3=>p3 ⟨(),w,b,fb,Hc⟩ ⟨hw,h1,h2,h3⟩
 have qd:∀w,LfOK w->∀b fb Hc,Hc[b]? = some ⟨true,fb,0,.cells (lfC w) tL⟩->Z0O [b] [fb] 0 Hc=true->Z0X Hc.length Hc=true->Z02 Y00 O Hc 72 [.ptr b 0]=some (.agg (idC w.did.1),Hc.set b ⟨true,fb,0,.cells (lfC w.did.2) tL⟩):=λw hw b fb Hc h1 h2 h3=>p4 ⟨(),w,b,fb,Hc⟩ ⟨hw,h1,h2,h3⟩
 have qe:∀w,LfOK w->∀b fb Hc,Hc[b]? = some ⟨true,fb,0,.cells (lfC w) tL⟩->Z0O [b] [fb] 0 Hc=true->Z0X Hc.length Hc=true->Z02 Y00 O Hc 73 [.ptr b 0]=some (.tuple [.agg (evC w.event.1),.agg (idC w.event.2.1)],Hc.set b ⟨true,fb,0,.cells (lfC w.event.2.2) tL⟩):=λw hw b fb Hc h1 h2 h3=>p5 ⟨(),w,b,fb,Hc⟩ ⟨hw,h1,h2,h3⟩
 have qsp:∀H,Z02 Y00 O H 51 [.str s,.str [32]]=some (.rs (Z0C s).length 1 ((Z0C s).map AV.str),H):=p7 () trivial
 clear p1 p2 p3 p4 p5 p7
 have g0:=qn _ hF
 unfold Z1r
 rw[Z9X s hkind]
 have F1:=f0.1
 clear f0
 unfold w0S at *
 generalize Z0C s=L0 at *
 rw[hkind]at g0
 clear hkind
 generalize (DLf.mk L0 true).next.2=w1 at *
 obtain⟨l1,ok1⟩:=w1
 clear qn qs qm qd qe
 simp only[lfC,Z5C,idC,evC,lnV,Z2r,lnR,lnG,idD,evD,Z3E]at *
 refine Z0u Zlc 3 follows Z0a hO Y0l rfl ?_
 repeat' ((conv=>whnf);first|with_reducible refine exI (qsp _) ?_|refine exI (g0 1 1 _ rfl rfl rfl) ?_|(refine ZaL ?_ ?_;(focus (assumption)))|(refine ZaM ?_ ?_;(focus (assumption)))|((with_reducible apply Z01<;>intro h)<;>subst h)|refine stp ?_|with_reducible apply Z01<;>intro h)
 all_goals conv=>whnf
 all_goals first|rfl|(rw[ZaG];rfl)
theorem Ze8(s:List UInt8)(hs:s.length<=1048576)(hkind:(DLf.mk (Z0C s) true).next.1=Z0d):ValOK Y00 runLives.gl 36 [.str s] (Z1r s):=by
 have hF:=Z49 s hs
 have f0:=Z0r hF
 have e4:=Zf8 (w0S s) f0.1 (Z2r (lnG [] 0 0 idD evD idD []) .nslice) fmY 78 99 (lnG Z0d 0 0 idD evD idD []) rfl
 obtain⟨O,hO,⟨p1,p2,p3,p4,p5,p6,-⟩,p7,-⟩:=Z5m (P:=Y00) (gl:=runLives.gl) [Zen,Z82,Zla,Zlk,evB,
  { I:=Unit,f:=74,G:=λ_=>True,A:=λ_=>[.ptr 1 0,.ptr 2 0],H:=λ_=>[⟨true,0,0,.cells (Z2r (lnG [] 0 0 idD evD idD []) .nslice) 78⟩,⟨true,1,0,.cells (lfC (w0S s)) tL⟩,⟨true,2,0,.cells (Z2r (lnG Z0d 0 0 idD evD idD []) .nslice) 78⟩,⟨true,3,0,.cells fmY 99⟩,⟨true,4,0,.cells fmY 99⟩],R:=λ_=>.tuple [],O:=λ_=>[⟨true,0,0,.cells (Z2r (lnG [] 0 0 idD evD idD []) .nslice) 78⟩,⟨true,1,0,.cells (lfC (ZeW (w0S s)).2) tL⟩,⟨true,2,0,.cells (Z2r (lnG Z0d ((w0S s).next.2.small (w0S s).next.1).1 0 idD evD idD []) (Z3E (ZeW (w0S s)).1)) 78⟩,⟨true,3,0,.cells fmY 99⟩,⟨true,4,0,.cells fmY 99⟩],body:=(by kernel_rfl),inj:=(λ_ _ _ _ _ _=>⟨rfl,rfl⟩),ok:=λ_ _=>e4 }] [
  { I:=Unit,f:=51,G:=λ_=>True,A:=λ_=>[.str s,.str [32]],R:=λ_=>.rs (Z0C s).length 1 ((Z0C s).map AV.str),body:=(by kernel_rfl),inj:=(λ_ _ _ _ _=>rfl),ok:=(λ_ _=>⟨rfl,Z48 s hs⟩) }] rfl
 have qn:∀w,LfOK w->∀b fb Hc,Hc[b]? = some ⟨true,fb,0,.cells (lfC w) tL⟩->Z0O [b] [fb] 0 Hc=true->Z0X Hc.length Hc=true->Z02 Y00 O Hc 52 [.ptr b 0]=some (.str w.next.1,Hc.set b ⟨true,fb,0,.cells (lfC w.next.2) tL⟩):=λw hw b fb Hc h1 h2 h3=>p1 ⟨(),w,b,fb,Hc⟩ ⟨hw,h1,h2,h3⟩
 have qs:∀w,∀s,s.length<=1048576->∀b fb Hc,Hc[b]? = some ⟨true,fb,0,.cells (lfC w) tL⟩->Z0O [b] [fb] 0 Hc=true->Z0X Hc.length Hc=true->Z02 Y00 O Hc 68 [.ptr b 0,.str s]=some (.int .i64 (w.small s).1,Hc.set b ⟨true,fb,0,.cells (lfC (w.small s).2) tL⟩):=λw s hs b fb Hc h1 h2 h3=>p2 ⟨s,w,b,fb,Hc⟩ ⟨hs,h1,h2,h3⟩
 have qm:∀w,LfOK w->∀b fb Hc,Hc[b]? = some ⟨true,fb,0,.cells (lfC w) tL⟩->Z0O [b] [fb] 0 Hc=true->Z0X Hc.length Hc=true->Z02 Y00 O Hc 70 [.ptr b 0]=some (.int .i64 w.number.1,Hc.set b ⟨true,fb,0,.cells (lfC w.number.2) tL⟩):=λw hw b fb Hc h1 h2 h3=>p3 ⟨(),w,b,fb,Hc⟩ ⟨hw,h1,h2,h3⟩
 have qd:∀w,LfOK w->∀b fb Hc,Hc[b]? = some ⟨true,fb,0,.cells (lfC w) tL⟩->Z0O [b] [fb] 0 Hc=true->Z0X Hc.length Hc=true->Z02 Y00 O Hc 72 [.ptr b 0]=some (.agg (idC w.did.1),Hc.set b ⟨true,fb,0,.cells (lfC w.did.2) tL⟩):=λw hw b fb Hc h1 h2 h3=>p4 ⟨(),w,b,fb,Hc⟩ ⟨hw,h1,h2,h3⟩
 have qe:∀w,LfOK w->∀b fb Hc,Hc[b]? = some ⟨true,fb,0,.cells (lfC w) tL⟩->Z0O [b] [fb] 0 Hc=true->Z0X Hc.length Hc=true->Z02 Y00 O Hc 73 [.ptr b 0]=some (.tuple [.agg (evC w.event.1),.agg (idC w.event.2.1)],Hc.set b ⟨true,fb,0,.cells (lfC w.event.2.2) tL⟩):=λw hw b fb Hc h1 h2 h3=>p5 ⟨(),w,b,fb,Hc⟩ ⟨hw,h1,h2,h3⟩
 have q4:Z02 Y00 O [⟨true,0,0,.cells (Z2r (lnG [] 0 0 idD evD idD []) .nslice) 78⟩,⟨true,1,0,.cells (lfC (w0S s)) tL⟩,⟨true,2,0,.cells (Z2r (lnG Z0d 0 0 idD evD idD []) .nslice) 78⟩,⟨true,3,0,.cells fmY 99⟩,⟨true,4,0,.cells fmY 99⟩] 74 [.ptr 1 0,.ptr 2 0]=some (.tuple [],[⟨true,0,0,.cells (Z2r (lnG [] 0 0 idD evD idD []) .nslice) 78⟩,⟨true,1,0,.cells (lfC (ZeW (w0S s)).2) tL⟩,⟨true,2,0,.cells (Z2r (lnG Z0d ((w0S s).next.2.small (w0S s).next.1).1 0 idD evD idD []) (Z3E (ZeW (w0S s)).1)) 78⟩,⟨true,3,0,.cells fmY 99⟩,⟨true,4,0,.cells fmY 99⟩]):=p6 () trivial
 have qsp:∀H,Z02 Y00 O H 51 [.str s,.str [32]]=some (.rs (Z0C s).length 1 ((Z0C s).map AV.str),H):=p7 () trivial
 clear p1 p2 p3 p4 p5 p6 p7 e4
 have g0:=qn _ hF
 unfold Z1r
 rw[Z73 s hkind]
 have F1:=f0.1
 clear f0
 unfold w0S at *
 generalize Z0C s=L0 at *
 rw[hkind]at g0
 clear hkind
 generalize (DLf.mk L0 true).next.2=w1 at *
 generalize ZeW w1=R at *
 generalize (w1.next.2.small w1.next.1).1=n at *
 obtain⟨l1,ok1⟩:=w1
 clear qn qs qm qd qe
 simp only[fmY,lfC,Z5C,idC,evC,lnV,Z2r,lnR,lnG,idD,evD,Z3E]at *
 refine Z0u Zlc 3 follows Z0a hO Y0l rfl ?_
 obtain⟨R1,⟨l9,ok9⟩⟩:=R
 cases R1
 all_goals simp only[frN,Y0a,Y02]at *
 all_goals repeat' ((conv=>whnf);first|with_reducible refine exI (qsp _) ?_|refine exI (g0 1 1 _ rfl rfl rfl) ?_|refine exI q4 ?_|(refine ZaL ?_ ?_;(focus (assumption)))|(refine ZaM ?_ ?_;(focus (assumption)))|((with_reducible apply Z01<;>intro h)<;>subst h)|refine stp ?_|with_reducible apply Z01<;>intro h)
 all_goals conv=>whnf
 all_goals first|rfl|(rw[ZaG];rfl)
theorem Zfv(s:List UInt8)(hs:s.length<=1048576)(hkind:¬((DLf.mk (Z0C s) true).next.1=Z0j\/(DLf.mk (Z0C s) true).next.1=Z23\/(DLf.mk (Z0C s) true).next.1=Z0k\/(DLf.mk (Z0C s) true).next.1=Z0d\/(DLf.mk (Z0C s) true).next.1=Z16)):ValOK Y00 runLives.gl 36 [.str s] (Z1r s):=by
 have hF:=Z49 s hs
 have f0:=Z0r hF
 obtain⟨O,hO,⟨p1,p2,p3,p4,p5,-⟩,p7,-⟩:=Z5m (P:=Y00) (gl:=runLives.gl) [Zen,Z82,Zla,Zlk,evB] [
  { I:=Unit,f:=51,G:=λ_=>True,A:=λ_=>[.str s,.str [32]],R:=λ_=>.rs (Z0C s).length 1 ((Z0C s).map AV.str),body:=(by kernel_rfl),inj:=(λ_ _ _ _ _=>rfl),ok:=(λ_ _=>⟨rfl,Z48 s hs⟩) }] rfl
 have qn:∀w,LfOK w->∀b fb Hc,Hc[b]? = some ⟨true,fb,0,.cells (lfC w) tL⟩->Z0O [b] [fb] 0 Hc=true->Z0X Hc.length Hc=true->Z02 Y00 O Hc 52 [.ptr b 0]=some (.str w.next.1,Hc.set b ⟨true,fb,0,.cells (lfC w.next.2) tL⟩):=λw hw b fb Hc h1 h2 h3=>p1 ⟨(),w,b,fb,Hc⟩ ⟨hw,h1,h2,h3⟩
 have qs:∀w,∀s,s.length<=1048576->∀b fb Hc,Hc[b]? = some ⟨true,fb,0,.cells (lfC w) tL⟩->Z0O [b] [fb] 0 Hc=true->Z0X Hc.length Hc=true->Z02 Y00 O Hc 68 [.ptr b 0,.str s]=some (.int .i64 (w.small s).1,Hc.set b ⟨true,fb,0,.cells (lfC (w.small s).2) tL⟩):=λw s hs b fb Hc h1 h2 h3=>p2 ⟨s,w,b,fb,Hc⟩ ⟨hs,h1,h2,h3⟩
 have qm:∀w,LfOK w->∀b fb Hc,Hc[b]? = some ⟨true,fb,0,.cells (lfC w) tL⟩->Z0O [b] [fb] 0 Hc=true->Z0X Hc.length Hc=true->Z02 Y00 O Hc 70 [.ptr b 0]=some (.int .i64 w.number.1,Hc.set b ⟨true,fb,0,.cells (lfC w.number.2) tL⟩):=λw hw b fb Hc h1 h2 h3=>p3 ⟨(),w,b,fb,Hc⟩ ⟨hw,h1,h2,h3⟩
 have qd:∀w,LfOK w->∀b fb Hc,Hc[b]? = some ⟨true,fb,0,.cells (lfC w) tL⟩->Z0O [b] [fb] 0 Hc=true->Z0X Hc.length Hc=true->Z02 Y00 O Hc 72 [.ptr b 0]=some (.agg (idC w.did.1),Hc.set b ⟨true,fb,0,.cells (lfC w.did.2) tL⟩):=λw hw b fb Hc h1 h2 h3=>p4 ⟨(),w,b,fb,Hc⟩ ⟨hw,h1,h2,h3⟩
 have qe:∀w,LfOK w->∀b fb Hc,Hc[b]? = some ⟨true,fb,0,.cells (lfC w) tL⟩->Z0O [b] [fb] 0 Hc=true->Z0X Hc.length Hc=true->Z02 Y00 O Hc 73 [.ptr b 0]=some (.tuple [.agg (evC w.event.1),.agg (idC w.event.2.1)],Hc.set b ⟨true,fb,0,.cells (lfC w.event.2.2) tL⟩):=λw hw b fb Hc h1 h2 h3=>p5 ⟨(),w,b,fb,Hc⟩ ⟨hw,h1,h2,h3⟩
 have qsp:∀H,Z02 Y00 O H 51 [.str s,.str [32]]=some (.rs (Z0C s).length 1 ((Z0C s).map AV.str),H):=p7 () trivial
 clear p1 p2 p3 p4 p5 p7
 have g0:=qn _ hF
 unfold Z1r
 rw[Z86 s hkind]
 clear f0
 unfold w0S at *
 generalize Z0C s=L0 at *
 generalize (DLf.mk L0 true).next.2=w1 at *
 generalize (DLf.mk L0 true).next.1=k at *
 simp only[not_or]at hkind
 obtain⟨h1,h2,h3,h4,h5⟩:=hkind
 have h1:(k==Z0j)=false:=by simpa using h1
 have h2:(k==Z23)=false:=by simpa using h2
 have h3:(k==Z0k)=false:=by simpa using h3
 have h4:(k==Z0d)=false:=by simpa using h4
 have h5:(k==Z16)=false:=by simpa using h5
 unfold Z0j at h1
 unfold Z23 at h2
 unfold Z0k at h3
 unfold Z0d at h4
 unfold Z16 at h5
 obtain⟨l1,ok1⟩:=w1
 clear qn qs qm qd qe
 simp only[lfC,Z5C,idC,evC,lnV,Z2r,lnR,lnG,idD,evD,Z3E]at *
 refine Z0u Zlc 3 follows Z0a hO Y0l rfl ?_
 repeat' ((conv=>whnf);first|with_reducible refine exI (qsp _) ?_|refine exI (g0 1 1 _ rfl rfl rfl) ?_|refine stp ?_|with_reducible apply Z01<;>intro h)
 all_goals conv=>whnf
 all_goals rfl
theorem ZjN(s:List UInt8)(hs:s.length<=1048576):ValOK Y00 runLives.gl 36 [.str s] (Z1r s):=by
 by_cases h1:(DLf.mk (Z0C s) true).next.1=Z0j
 ·exact Ze9 s hs h1
 by_cases h2:(DLf.mk (Z0C s) true).next.1=Z23
 ·exact ZhS s hs h2
 by_cases h3:(DLf.mk (Z0C s) true).next.1=Z0k
 ·exact Zea s hs h3
 by_cases h4:(DLf.mk (Z0C s) true).next.1=Z0d
 ·exact Ze8 s hs h4
 by_cases h5:(DLf.mk (Z0C s) true).next.1=Z16
 ·exact ZhT s hs h5
 exact Zfv s hs (by rintro (h|h|h|h|h)<;>contradiction)
end
section
theorem Z27{c:UInt8}{s x y:List UInt8}(h:Z1b c s=some (x,y)):s.length=x.length+(y.length+1):=by
 rw[(Z4j 0 h).2];simp
theorem Z8e:∀(n m:Nat)(s:List UInt8),s.length<n->s.length<m->Z2a n s=Z2a m s
 |n+1,m+1,s,h1,h2=>by
  simp only[Z2a]
  cases h:Z1b 10 s with
  |none=>rfl
  |some p =>
   obtain⟨l,r⟩:=p
   have:=Z27 h
   simp only
   rw[Z8e n m r (by omega) (by omega)]
 |0,_,s,h1,_=>by omega
 |_+1,0,s,_,h2=>by omega
def Z17(s:List UInt8):Nat:=Z2a (s.length+1) s
theorem Zes{s:List UInt8}(h:Z1b 10 s=none):Z17 s=0:=by
 unfold Z17;simp only[Z2a,h]
theorem Zic{s l r:List UInt8}(h:Z1b 10 s=some (l,r))(hr:(Z06 l).2=false):Z17 s=0:=by
 unfold Z17;simp only[Z2a,h,hr];rfl
theorem Zib{s l r:List UInt8}(h:Z1b 10 s=some (l,r))(hr:(Z06 l).2=true):Z17 s=Z17 r+1:=by
 unfold Z17
 have:=Z27 h
 have e:Z2a (s.length+1) s=Z2a s.length r+1:=by
  rw[Z2a];simp only[h,hr,if_true]
 rw[e,Z8e s.length (r.length+1) r (by omega) (by omega)]
theorem Zd0:∀(n:Nat)(s:List UInt8),Z2a n s<=n
 |0,s=>Y01 _
 |n+1,s=>by
  simp only[Z2a]
  cases h:Z1b 10 s with
  |none=>exact Y05 _
  |some p =>
   obtain⟨l,r⟩:=p
   simp only
   split
   ·have:=Zd0 n r;omega
   ·omega
def Zfw:Fam Y00 runLives.gl:={ I:=List UInt8,f:=36,G:=λs=>s.length<=1048576,A:=λs=>[.str s],R:=Z1r,body:=(by kernel_rfl),inj:=(λi j _ _ h=>by simp only[List.cons.injEq,AV.str.injEq,and_true]at h;rw[h]),ok:=(λs hs=>⟨rfl,ZjN s hs⟩) }
def Zjt:Fam Y00 runLives.gl:={ I:=List UInt8,f:=25,G:=λs=>s.length<=1048576,A:=λs=>[.str s,.str [10]],R:=Z6q 10,body:=(by kernel_rfl),inj:=(λi j _ _ h=>by simp only[List.cons.injEq,AV.str.injEq,and_true]at h;rw[h]),ok:=(λs hs=>⟨rfl,Zjr 10 (.inl rfl) s (by omega)⟩) }
theorem Z1L(l:List DId):Z3E l = .nslice\/∃m C,Z3E l = .rs (m+1) 2 C:=by
 cases l with
 |nil=>exact .inl rfl
 |cons d l=>exact .inr ⟨_,_,rfl⟩
structure LnS where
 n:Nat
 s:List UInt8
theorem Zab(s:List UInt8)(hs:s.length<=1048576):ValOK Y00 runLives.gl 13 [.str s] (.int .i64 (Z17 s:Nat)):=by
 obtain⟨O,hO,p1,p2,-⟩:=fams (P:=Y00) (gl:=runLives.gl) [Zfw,Zjt] rfl
 have q1:∀s,s.length<=1048576->∀H,Z02 Y00 O H 36 [.str s]=some (Z1r s,H):=p1
 have q2:∀s,s.length<=1048576->∀H,Z02 Y00 O H 25 [.str s,.str [10]]=some (Z6q 10 s,H):=p2
 clear p1 p2
 have htot:Z17 s<=1048577:=by
  have:Z17 s<=s.length+1:=Zd0 _ _
  omega
 obtain⟨T,hT⟩:∃T,T=Z17 s:=⟨_,rfl⟩
 rw[<- hT]at htot⊢
 refine Z0u (λg=>Y03 g 36 || Y03 g 25) 2 follows Z0a hO Tryz.func13 rfl ?_
 repeat' ((conv=>whnf);first|refine stp ?_|with_reducible apply Z01<;>intro h)
 conv=>whnf
 refine⟨LnS,(λt=>t.n+Z17 t.s=T/\t.s.length<=1048576),(λt=>[(0,.str t.s),(2,.int .i64 0),(3,.int .i64 (t.n:Nat))]),(λ_=>[]),(λt=>t.s.length),⟨⟨0,s⟩,⟨by rw[hT];exact Y0c _,hs⟩,FgL.mk0 rfl ?_⟩,?_⟩
 ·exact wks
 clear hT hs
 rintro⟨n,s'⟩ ⟨hn,hs⟩
 dsimp only at hn hs⊢
 have q2s:=q2 s' hs
 unfold Z6q at q2s
 cases h:Z1b 10 s' with
 |none =>
  rw[h]at q2s
  rw[Zes h]at hn
  repeat' ((conv=>whnf);first|with_reducible refine exI (q2s _) ?_|refine stp ?_|with_reducible apply Z01<;>intro h)
  all_goals conv=>whnf
  all_goals exact congrArg (λz:Nat=>AV.int .i64 (z:Int)) hn
 |some p =>
  obtain⟨l,r⟩:=p
  rw[h]at q2s
  have hl:=Z27 h
  have q1l:=q1 l (by omega)
  unfold Z1r lnV Z2r at q1l
  have hV:=Z1L (Z06 l).1.ids
  generalize Z3E (Z06 l).1.ids=V at *
  have hno:=Zic h
  have hon:=Zib h
  generalize (Z06 l).2=b at *
  rcases hV with rfl|⟨m,C,rfl⟩
  · cases b with
    |false =>
     rw[hno rfl]at hn
     repeat' ((conv=>whnf);first|with_reducible refine exI (q2s _) ?_|with_reducible refine exI (q1l _) ?_|refine stp ?_|with_reducible apply Z01<;>intro h)
     all_goals conv=>whnf
     all_goals exact congrArg (λz:Nat=>AV.int .i64 (z:Int)) hn
    |true =>
     rw[hon rfl]at hn
     repeat' ((conv=>whnf);first|with_reducible refine exI (q2s _) ?_|with_reducible refine exI (q1l _) ?_|refine stp ?_|with_reducible apply Z01<;>intro h)
     conv=>whnf
     refine⟨⟨n+1,r⟩,⟨by show n+1+Z17 r=T;omega,by show r.length<=_;omega⟩,by show r.length<s'.length;omega,FgL.mk0 rfl ?_⟩
     exact wks
  · cases b with
    |false =>
     rw[hno rfl]at hn
     repeat' ((conv=>whnf);first|with_reducible refine exI (q2s _) ?_|with_reducible refine exI (q1l _) ?_|refine stp ?_|with_reducible apply Z01<;>intro h)
     all_goals conv=>whnf
     all_goals exact congrArg (λz:Nat=>AV.int .i64 (z:Int)) hn
    |true =>
     rw[hon rfl]at hn
     repeat' ((conv=>whnf);first|with_reducible refine exI (q2s _) ?_|with_reducible refine exI (q1l _) ?_|refine stp ?_|with_reducible apply Z01<;>intro h)
     conv=>whnf
     refine⟨⟨n+1,r⟩,⟨by show n+1+Z17 r=T;omega,by show r.length<=_;omega⟩,by show r.length<s'.length;omega,FgL.mk0 rfl ?_⟩
     exact wks
end
section
def Z1g:Nat->DGr->Bool->List UInt8->Option (DGr×Bool×List UInt8)
 |0,_,_,_=>none
 |n+1,g,told,s=>match Z1b 10 s with
  |none=>none
  | some (l, rest) => if (Z06 l).2 then (match Z1I g told (Z06 l).1 with
    |none=>none
    |some (g',told')=>if (Z06 l).1.kind=Z16 then some (g',told',rest) else Z1g n g' told' rest)
   else none
theorem Z6G:∀(n:Nat)(g:DGr)(told:Bool)(s:List UInt8),Zd1 n g told s=(Z1g n g told s).map λp=>(p.1,p.2.2)
 |0,g,told,s=>rfl
 |n+1,g,told,s=>by
  simp only[Zd1,Z1g]
  cases h:Z1b 10 s with
  |none=>rfl
  |some p =>
   obtain⟨l,r⟩:=p
   simp only
   split
   · cases Z1I g told (Z06 l).1 with
     |none=>rfl
     |some q =>
      obtain⟨g',t'⟩:=q
      simp only
      split
      ·rfl
      ·exact Z6G n g' t' r
   ·rfl
theorem Z7f:∀(n m:Nat)(g:DGr)(told:Bool)(s:List UInt8),s.length<n->s.length<m->Z1g n g told s=Z1g m g told s
 |n+1,m+1,g,told,s,h1,h2=>by
  simp only[Z1g]
  cases h:Z1b 10 s with
  |none=>rfl
  |some p =>
   obtain⟨l,r⟩:=p
   have:=Z27 h
   simp only
   cases Z1I g told (Z06 l).1 with
   |none=>rfl
   |some q =>
    obtain⟨g',t'⟩:=q
    simp only
    rw[Z7f n m g' t' r (by omega) (by omega)]
 |0,_,g,told,s,h1,_=>by omega
 |_+1,0,g,told,s,_,h2=>by omega
def Z2m(g:DGr)(told:Bool)(s:List UInt8):Option (DGr×Bool×List UInt8):=Z1g (s.length+1) g told s
theorem Zg3{g:DGr}{told:Bool}{s:List UInt8}(h:Z1b 10 s=none):Z2m g told s=none:=by
 unfold Z2m;simp only[Z1g,h]
theorem Z5K{g:DGr}{told:Bool}{s l r:List UInt8}(h:Z1b 10 s=some (l,r))(hr:(Z06 l).2=false):Z2m g told s=none:=by
 unfold Z2m;simp only[Z1g,h,hr];rfl
theorem Z4g{g:DGr}{told:Bool}{s l r:List UInt8}(h:Z1b 10 s=some (l,r))(hp:Z1I g told (Z06 l).1=none):Z2m g told s=none:=by
 unfold Z2m;simp only[Z1g,h,hp];split<;>rfl
theorem Z3i{g g':DGr}{told told':Bool}{s l r:List UInt8}(h:Z1b 10 s=some (l,r))(hr:(Z06 l).2=true)(hp:Z1I g told (Z06 l).1=some (g',told'))(he:(Z06 l).1.kind=Z16):Z2m g told s=some (g',told',r):=by
 unfold Z2m;simp only[Z1g,h,hr,hp,he,if_true]
theorem Z2E{g g':DGr}{told told':Bool}{s l r:List UInt8}(h:Z1b 10 s=some (l,r))(hr:(Z06 l).2=true)(hp:Z1I g told (Z06 l).1=some (g',told'))(he:(Z06 l).1.kind≠Z16):Z2m g told s=Z2m g' told' r:=by
 unfold Z2m
 have:=Z27 h
 have e:Z1g (s.length+1) g told s=Z1g s.length g' told' r:=by
  rw[Z1g];simp only[h,hr,hp,if_true];rw[if_neg he]
 rw[e,Z7f s.length (r.length+1) g' told' r (by omega) (by omega)]
theorem Z2d(w:DLf)(s:List UInt8):0<=(w.small s).1/\(w.small s).1<=999:=by
 unfold DLf.small Z81
 cases h:Zbh s with
 |none=>exact⟨Y0t _,by show (0:Int)<=999;omega⟩
 |some n =>
  simp only
  by_cases h2:0<=n/\n<=999
  ·simp only[if_pos h2];exact h2
  ·simp only[if_neg h2];exact⟨Y0t _,by show (0:Int)<=999;omega⟩
theorem Z9R:rgI 0:=by unfold rgI;omega
theorem Z8K(w:DLf)(s:List UInt8):rgI (w.small s).1:=by have:=Z2d w s;unfold rgI;omega
theorem Zj4(w:DLf):rgI w.number.1:=by
 unfold DLf.number
 cases h:Zbh w.next.1 with
 |none=>exact Z9R
 |some n=>exact (Z3Q h).2
theorem ZgJ(w:DLf):okD w.did.1:=⟨Z8K _ _,Z8K _ _⟩
theorem Zik(s:List UInt8):rgI ((Z2Z s).getD 0):=by
 unfold Z2Z
 repeat' split
 all_goals (show rgI _;unfold rgI;simp)
theorem Zk0(s:List UInt8):rgI ((Z9u s).getD 0):=by
 unfold Z9u
 repeat' split
 all_goals (show rgI _;unfold rgI;simp)
theorem ZfT(w:DLf)(f:List UInt8->Option Int)(hf:rgI ((f w.next.1).getD 0)):rgI (w.look f).1:=by
 rw[Z8R];exact hf
theorem num?_rg(w:DLf)(b:Bool):rgI (w.num? b).1:=by
 unfold DLf.num?
 cases b
 ·exact Z9R
 ·exact Zj4 w
theorem Zix(w:DLf)(k:Int):rgI (w.evLoc k).1:=by
 unfold DLf.evLoc
 split
 ·exact Z9R
 ·exact Z8K _ _
theorem Zks(w:DLf)(b:Bool):okD (w.from? b).1:=by
 unfold DLf.from?
 cases b
 ·exact⟨Z9R,Z9R⟩
 · simp only[if_true]
   split
   ·exact ZgJ _
   ·exact ZgJ _
theorem Zdq(w:DLf):okV w.event.1/\okD w.event.2.1:=by
 unfold DLf.event
 exact⟨⟨ZfT _ _ (Zik _),Zix _ _,ZfT _ _ (Zk0 _),num?_rg _ _,num?_rg _ _⟩,Zks _ _⟩
theorem Zgb:∀(n:Nat)(w:DLf)(a:List DId),(∀d∈a,okD d)->∀d∈(Z7j n w a).1,okD d
 |0,w,a,h=>h
 |n+1,w,a,h=>by
  simp only[Z7j]
  split
  · refine Zgb n _ _ λd hd=>?_
    rcases Y0f.1 hd with hd|hd
    ·exact h d hd
    ·simp only[Y0m]at hd;subst hd;exact ZgJ w
  ·exact h
theorem Zdd:∀(n:Nat)(w:DLf)(a:List DId),(Z7j n w a).1.length<=a.length+n
 |0,w,a=>Y01 _
 |n+1,w,a=>by
  simp only[Z7j]
  split
  · have:=Zdd n w.did.2 (a++[w.did.1])
    simp only[Y07,Y02,Y0a]at this;omega
  ·show a.length<=_;omega
structure LnOK (x:DLn) (m:Nat):Prop where
 n0:0<=x.n
 n1:x.n<=999
 v:rgI x.v
 id0:0<=x.id.t/\x.id.t<=999
 id1:0<=x.id.i/\x.id.i<=999
 ev:okV x.ev
 frm:okD x.frm
 ids:∀d∈x.ids,okD d
 few:x.ids.length<=m
 none:x.kind≠Z0d->x.ids=[]
theorem Zj5(w:DLf):w.next.2.l.length<=w.l.length:=by
 obtain⟨l,o⟩:=w
 cases l with
 |nil=>exact Y01 _
 |cons s l=>exact Nat.le_succ _
theorem Z1X(s:List UInt8):LnOK (Z06 s).1 (s.length+1)/\((Z06 s).2=true->(Z06 s).1.kind=Z0j\/(Z06 s).1.kind=Z23\/(Z06 s).1.kind=Z0k\/(Z06 s).1.kind=Z0d\/(Z06 s).1.kind=Z16):=by
 have rd0:0<=idD.t/\idD.t<=999:=by decide
 have rd1:0<=idD.i/\idD.i<=999:=by decide
 have rdD:okD idD:=⟨Z9R,Z9R⟩
 have rdV:okV evD:=⟨Z9R,Z9R,Z9R,Z9R,Z9R⟩
 by_cases h1:(DLf.mk (Z0C s) true).next.1=Z0j
 · rw[Z74 s h1]
   exact⟨⟨(Z2d _ _).1,(Z2d _ _).2,Z9R,rd0,rd1,rdV,rdD,by simp[lnR,lnG],Y05 _,λ_=>rfl⟩,λ_=>.inl rfl⟩
 by_cases h2:(DLf.mk (Z0C s) true).next.1=Z23
 · rw[Z9W s h2]
   exact⟨⟨(Z2d _ _).1,(Z2d _ _).2,Zj4 _,rd0,rd1,rdV,rdD,by simp[lnR,lnG],Y05 _,λ_=>rfl⟩,λ_=>.inr (.inl rfl)⟩
 by_cases h3:(DLf.mk (Z0C s) true).next.1=Z0k
 · rw[Z75 s h3]
   exact⟨⟨Y0t _,show (0:Int)<=999 by decide,Z9R,Z2d _ _,Z2d _ _,(Zdq _).1,(Zdq _).2,by simp[lnR,lnG],Y05 _,λ_=>rfl⟩,λ_=>.inr (.inr (.inl rfl))⟩
 by_cases h4:(DLf.mk (Z0C s) true).next.1=Z0d
 · rw[Z73 s h4]
   refine⟨⟨(Z2d _ _).1,(Z2d _ _).2,Z9R,rd0,rd1,rdV,rdD,Zgb _ _ _ (by simp),?_,λh=>absurd rfl h⟩,λ_=>.inr (.inr (.inr (.inl rfl)))⟩
   have e1:=Zdd ((w0S s).next.2.small (w0S s).next.1).2.l.length ((w0S s).next.2.small (w0S s).next.1).2 []
   have e2:=Zj5 (w0S s)
   have e3:=Zj5 (DLf.mk (Z0C s) true)
   have e4:=(Z8H s).1
   rw[Z5E]at e1
   show (Z7j _ _ _).1.length<=_
   rw[Z5E]
   simp only[Y0a,Y0c]at e1
   have e3':(w0S s).l.length<=(Z0C s).length:=e3
   omega
 by_cases h5:(DLf.mk (Z0C s) true).next.1=Z16
 · rw[Z9X s h5]
   exact⟨⟨Y0t _,show (0:Int)<=999 by decide,Z9R,rd0,rd1,rdV,rdD,by simp[lnR,lnG],Y05 _,λ_=>rfl⟩,λ_=>.inr (.inr (.inr (.inr rfl)))⟩
 · rw[Z86 s (by rintro (h|h|h|h|h)<;>contradiction)]
   exact⟨⟨Y0t _,show (0:Int)<=999 by decide,Z9R,rd0,rd1,rdV,rdD,by simp[lnG],Y05 _,λ_=>rfl⟩,λh=>by cases h⟩
structure Wf (g:DGr) (told:Bool) (c:Nat):Prop where
 fl:g.frm.length=g.thr.length
 no:told=false->g.thr=[]
 n4:g.thr.length<=4
 i:g.ini.length<=c/\∀n∈g.ini,rgI n
 t:∀l∈g.thr,l.length<=c/\∀e∈l,okV e
 f:∀l∈g.frm,l.length<=c/\∀e∈l,okD e
 o:g.ord.length<=c/\∀l∈g.ord,l.length<=2000000/\∀d∈l,okD d
theorem ZmD:Wf gr0 false 0:=⟨rfl,λ_=>rfl,by decide,⟨Y01 _,by simp[gr0]⟩,by simp[gr0],by simp[gr0],⟨Y01 _,by simp[gr0]⟩⟩
theorem Wf.okG{g:DGr}{told:Bool}{c:Nat}(h:Wf g told c)(hc:c<=1048576):okG g:=⟨⟨by have:=h.i.1;unfold Z5A;omega,h.i.2⟩,⟨by have:=h.n4;unfold Z5A;omega,λl hl=>⟨by have:=(h.t l hl).1;unfold Z5A;omega,(h.t l hl).2⟩⟩,⟨by have:=h.n4;have:=h.fl;unfold Z5A;omega,λl hl=>⟨by have:=(h.f l hl).1;unfold Z5A;omega,(h.f l hl).2⟩⟩,⟨by have:=h.o.1;unfold Z5A;omega,λl hl=>⟨by have:=(h.o.2 l hl).1;unfold Z5A;omega,(h.o.2 l hl).2⟩⟩⟩
theorem ZfO{α : Type}{l:List α}{i:Nat}{a b : α}(h:b∈l.set i a):b∈l\/b=a:=by
 rcases List.mem_or_eq_of_mem_set h with h|h
 ·exact .inl h
 ·exact .inr h
theorem Z6P{g g':DGr}{told told':Bool}{c:Nat}{x:DLn}{m:Nat}(h:Wf g told c)(hx:LnOK x m)(hm:m<=2000000)(hp:Z1I g told x=some (g',told')):Wf g' told' (c+1):=by
 have hmono:Wf g told (c+1):=⟨h.fl,h.no,h.n4,⟨Y0y h.i.1,h.i.2⟩,λl hl=>⟨Y0y (h.t l hl).1,(h.t l hl).2⟩,λl hl=>⟨Y0y (h.f l hl).1,(h.f l hl).2⟩,⟨Y0y h.o.1,h.o.2⟩⟩
 unfold Z1I at hp
 split at hp
 · split at hp
   ·cases hp
   · rename_i h1
     simp only[Option.some.injEq,Prod.mk.injEq]at hp
     obtain⟨rfl,rfl⟩:=hp
     have h2:¬4<x.n:=λe=>h1 (.inr e)
     refine⟨by simp,λe=>(by cases e),?_,hmono.i,λl hl=>?_,λl hl=>?_,hmono.o⟩
     ·rw[List.length_replicate];have:=hx.n0;omega
     ·have:=List.eq_of_mem_replicate hl;subst this;exact⟨Y05 _,by simp⟩
     ·have:=List.eq_of_mem_replicate hl;subst this;exact⟨Y05 _,by simp⟩
 · split at hp
   · split at hp
     · simp only[Option.some.injEq,Prod.mk.injEq]at hp
       obtain⟨rfl,rfl⟩:=hp
       refine⟨h.fl,h.no,h.n4,⟨by rw[Y07];have:=h.i.1;simp only[Y02,Y0a];omega,λn hn=>?_⟩,hmono.t,hmono.f,hmono.o⟩
       rcases Y0f.1 hn with hn|hn
       ·exact h.i.2 n hn
       ·simp only[Y0m]at hn;subst hn;exact hx.v
     ·cases hp
   · split at hp
     · split at hp
       ·cases hp
       · split at hp
         · rename_i l f hl hf
           split at hp
           · simp only[Option.some.injEq,Prod.mk.injEq]at hp
             obtain⟨rfl,rfl⟩:=hp
             obtain⟨a1,a2⟩:=Y09.1 hl
             obtain⟨b1,b2⟩:=Y09.1 hf
             have hlm:l∈g.thr:=by rw[<- a2];exact Y08 a1
             have hfm:f∈g.frm:=by rw[<- b2];exact Y08 b1
             refine⟨by simp[h.fl],λe=>by rw[h.no e]at a1;simp at a1,by simpa using h.n4,hmono.i,λq hq=>?_,λq hq=>?_,hmono.o⟩
             · rcases ZfO hq with hq|rfl
               ·exact hmono.t q hq
               · refine⟨by rw[Y07];have:=(h.t l hlm).1;simp only[Y02,Y0a];omega,λe he=>?_⟩
                 rcases Y0f.1 he with he|he
                 ·exact (h.t l hlm).2 e he
                 ·simp only[Y0m]at he;subst he;exact hx.ev
             · rcases ZfO hq with hq|rfl
               ·exact hmono.f q hq
               · refine⟨by rw[Y07];have:=(h.f f hfm).1;simp only[Y02,Y0a];omega,λe he=>?_⟩
                 rcases Y0f.1 he with he|he
                 ·exact (h.f f hfm).2 e he
                 ·simp only[Y0m]at he;subst he;exact hx.frm
           ·cases hp
         ·cases hp
     · split at hp
       · split at hp
         · simp only[Option.some.injEq,Prod.mk.injEq]at hp
           obtain⟨rfl,rfl⟩:=hp
           refine⟨h.fl,h.no,h.n4,hmono.i,hmono.t,hmono.f,⟨by rw[Y07];have:=h.o.1;simp only[Y02,Y0a];omega,λq hq=>?_⟩⟩
           rcases Y0f.1 hq with hq|hq
           ·exact h.o.2 q hq
           ·simp only[Y0m]at hq;subst hq;exact⟨Nat.le_trans hx.few hm,hx.ids⟩
         ·cases hp
       · simp only[Option.some.injEq,Prod.mk.injEq]at hp
         obtain⟨rfl,rfl⟩:=hp
         exact hmono
theorem Zd4:∀(n:Nat)(g:DGr)(told:Bool)(s:List UInt8)(c M:Nat)(g':DGr)(told':Bool)(r:List UInt8),Wf g told c->c+s.length<=M->M<=1048576->Z1g n g told s=some (g',told',r)->∃c',Wf g' told' c'/\c'+r.length<=M
 |0,g,told,s,c,M,g',told',r,_,_,_,h=>by cases h
 |n+1,g,told,s,c,M,g',told',r,hw,hc,hM,h=>by
  simp only[Z1g]at h
  cases hcut:Z1b 10 s with
  |none=>rw[hcut]at h;cases h
  |some p =>
   obtain⟨l,rest⟩:=p
   have hl:=Z27 hcut
   simp only[hcut]at h
   split at h
   · cases hp:Z1I g told (Z06 l).1 with
     |none=>simp only[hp]at h;cases h
     |some q =>
      obtain⟨g2,t2⟩:=q
      simp only[hp]at h
      have hw2:=Z6P hw (Z1X l).1 (by omega) hp
      split at h
      · simp only[Option.some.injEq,Prod.mk.injEq]at h
        obtain⟨rfl,rfl,rfl⟩:=h
        exact⟨c+1,hw2,by omega⟩
      ·exact Zd4 n g2 t2 rest (c+1) M g' told' r hw2 (by omega) hM h
   ·cases h
end
end Go.Proofs.YtpcpdlfhcahjgaaGreatDoor.lex
section
namespace Go.Abs
open Go.RowKit
mutual
def wkV:AV->AV->Bool
 | .nslice,.rs 0 _ []=>true
 | .agg a,.agg b=>wkVL a b
 | .rs n z a,.rs n' z' b=>Y03 n n'&&(Y03 z z'&&wkVL a b)
 | .rp a,.rp b=>wkVL a b
 |u,u2=>veq u u2
def wkVL:List AV->List AV->Bool
 |[],[]=>true
 |u::l,u2::l2=>wkV u u2&&wkVL l l2
 |_,_=>false
end
theorem Z8A:∀{l l2:List AV},wkVL l l2=true->l.length=l2.length
 |[],[],_=>rfl
 |u::l,u2::l2,h=>by simp only[wkVL,Y0e]at h;simp[Z8A h.2]
 |[],_::_,h=>by simp[wkVL]at h
 |_::_,[],h=>by simp[wkVL]at h
mutual
theorem Zf4{sn:Z0l}{ι : Z0i}:∀(u u2:AV)(v:Value),wkV u u2=true->VR sn ι u v->VR sn ι u2 v
 | .agg a,.agg b,v,h,e=>by
  simp only[wkV]at h
  obtain⟨d,rfl,h1⟩:=e.agg
  exact Z4t (wkVL_LR a b _ h h1)
 | .rs n z a,.rs n' z' b,v,h,e=>by
  simp only[wkV,Y0e]at h
  obtain⟨h1,h2,h3⟩:=h
  have:=Y0k h1;subst this
  have:=Y0k h2;subst this
  have hl:=Z8A h3
  simp only[VR]at e⊢
  rcases e with ⟨e1,rfl,e3⟩|⟨ad,cap,e1,e2,e3,e4,e5⟩
  ·exact .inl ⟨e1,by cases b with|nil=>rfl|cons _ _=>simp at hl,e3⟩
  ·exact .inr ⟨ad,cap,e1,e2,by rw[<- hl];exact e3,wkVL_MR a b _ _ h3 e4,e5⟩
 | .rp a,.rp b,v,h,e=>by
  simp only[wkV]at h
  simp only[VR]at e⊢
  obtain⟨bl,o,e1,e2⟩:=e
  exact⟨bl,o,e1,wkVL_MR a b _ _ h e2⟩
 |u,u2,v,h,e=>by
  by_cases hn:u = .nslice/\∃z,u2 = .rs 0 z []
  · obtain⟨rfl,z,rfl⟩:=hn
    exact ZlR e
  · have : veq u u2 = true \/ ((∃ a b, u = .agg a /\ u2 = .agg b) \/ (∃ n z a n' z' b, u = .rs n z a /\ u2 = .rs n' z' b) \/ (∃ a b, u = .rp a /\ u2 = .rp b)) := by
     unfold wkV at h
     split at h
     ·exact (hn ⟨rfl,_,rfl⟩).elim
     ·exact .inr (.inl ⟨_,_,rfl,rfl⟩)
     ·exact .inr (.inr (.inl ⟨_,_,_,_,_,_,rfl,rfl⟩))
     ·exact .inr (.inr (.inr ⟨_,_,rfl,rfl⟩))
     ·exact .inl h
    rcases this with h|⟨a,b,rfl,rfl⟩|⟨n,z,a,n',z',b,rfl,rfl⟩|⟨a,b,rfl,rfl⟩
    ·have:=Z9C _ _ h;subst this;exact e
    · simp only[wkV]at h
      obtain⟨d,rfl,h1⟩:=e.agg
      exact Z4t (wkVL_LR a b _ h h1)
    · simp only[wkV,Y0e]at h
      obtain⟨h1,h2,h3⟩:=h
      have:=Y0k h1;subst this
      have:=Y0k h2;subst this
      have hl:=Z8A h3
      simp only[VR]at e⊢
      rcases e with ⟨e1,rfl,e3⟩|⟨ad,cap,e1,e2,e3,e4,e5⟩
      ·exact .inl ⟨e1,by cases b with|nil=>rfl|cons _ _=>simp at hl,e3⟩
      ·exact .inr ⟨ad,cap,e1,e2,by rw[<- hl];exact e3,wkVL_MR a b _ _ h3 e4,e5⟩
    · simp only[wkV]at h
      simp only[VR]at e⊢
      obtain⟨bl,o,e1,e2⟩:=e
      exact⟨bl,o,e1,wkVL_MR a b _ _ h e2⟩
theorem wkVL_LR{sn:Z0l}{ι : Z0i}:∀(l l2:List AV)(vs:List Value),wkVL l l2=true->LR sn ι l vs->LR sn ι l2 vs
 |[],[],vs,h,e=>e
 |u::l,u2::l2,vs,h,e=>by
  simp only[wkVL,Y0e]at h
  simp only[LR]at e⊢
  obtain⟨d,ds,e1,e2,e3⟩:=e
  exact⟨d,ds,e1,Zf4 u u2 d h.1 e2,wkVL_LR l l2 ds h.2 e3⟩
 |[],_::_,_,h,_=>by simp[wkVL]at h
 |_::_,[],_,h,_=>by simp[wkVL]at h
theorem wkVL_MR{sn:Z0l}:∀(l l2:List AV)(b o:Nat),wkVL l l2=true->MR sn l b o->MR sn l2 b o
 |[],[],b,o,h,e=>e
 |u::l,u2::l2,b,o,h,e=>by
  simp only[wkVL,Y0e]at h
  simp only[MR]at e⊢
  obtain⟨⟨v,e1,e2⟩,e3⟩:=e
  exact⟨⟨v,e1,Zf4 u u2 v h.1 e2⟩,wkVL_MR l l2 b (o+1) h.2 e3⟩
 |[],_::_,_,_,h,_=>by simp[wkVL]at h
 |_::_,[],_,_,h,_=>by simp[wkVL]at h
end
theorem ValOK.nils{P:Program}{gl:Z0w}{f:Nat}{args args2:List AV}{r:AV}(h:ValOK P gl f args2 r)(hw:wkVL args args2=true):ValOK P gl f args r :=
 h.weak λsn vs e=>wkVL_LR args args2 vs hw e
end Go.Abs
end
section
namespace Go.Abs
open Go.RowKit
def WkW(fs:List Nat)(H:Z00)(m:List Nat)(u u2:AV):Prop:=WkZ fs H m u u2\/∃u1,WkZ fs H m u u1/\wkV u1 u2=true
structure HpD (fs:List Nat) (m:List Nat) (H H2:Z00):Prop where
 len:H2.length=m.length
 get:∀(b:Nat)(o2:AObj),H2[b]? = some o2->∃ (j:Nat) (o:AObj),m[b]? = some j/\H[j]? = some o/\(o2.sh=0->o.sh=0)/\(o2.alive=true->o.alive=true/\o2.sh=o.sh/\mem o.fam fs=false/\BodyGeZ fs H m o.body o2.body)
 sep:∀(b b':Nat)(o2 o2':AObj)(j j':Nat),H2[b]? = some o2->H2[b']? = some o2'->o2.alive=true->o2'.alive=true->m[b]? = some j->m[b']? = some j'->Z0m H j=Z0m H j'->b=b'
theorem FgS.dead {k : Nat} {fs m : List Nat} {tm tm2 : Tr} {H H2 : Z00} (htr : ∀ n u2, Z15 tm2 n = some u2 -> ∃ u, Z15 tm n = some u /\ WkW fs H m u u2) (htx : ∀ n, tex tm2 n = true -> tex tm n = true)
  (hp:HpD fs m H H2) (hkp:Zec k 0 m=true):FgS k tm H tm2 H2:=by
 intro sn ι W a hR ht
 obtain⟨hl,hg,hsep⟩:=hp
 generalize hHQ:Z5G fs H=HQ
 have inQ:∀(b:Nat)(o:AObj),HQ[b]? = some o->o.alive=true->H[b]? = some o/\mem o.fam fs=true:=λb o hb hal=>by
  rw[<- hHQ]at hb
  obtain⟨o0,g1,_,_,g4⟩:=Z1T hb
  obtain⟨rfl,g5⟩:=g4 hal
  exact⟨g1,by simpa using g5⟩
 have hle:∀a v,sn a=some v->snO sn ι HQ W a=some v:=λa v hv=>by
  unfold snO
  split
  ·exact (hR.snap a v hv).2.1
  ·exact hv
 have hcell:∀a v,snO sn ι HQ W a=some v->W.cell? a=some v:=λa v hv=>by
  unfold snO at hv
  split at hv
  ·exact hv
  ·exact (hR.snap a v hv).2.1
 have hobjQ:∀(b:Nat)(o:AObj) p,HQ[b]? = some o->o.alive=true -> ι b=some p->OR sn ι W o.body p:=λb o p hb hal hp=>hR.obj b o p (inQ b o hb hal).1 hal hp
 have hz:∀(u u2:AV)(v:Value),WkZ fs H m u u2->VR sn ι u v->VR (snO sn ι HQ W) (iot m ι) u2 v:=λu u2 v h hv=>by
  rcases h with h|h
  ·exact Z0R ⟨hle,λ_ _ h=>h⟩ _ _ (h _ _ _ hv)
  · rw[hHQ]at h
    exact Zbc (Z30 hobjQ ⟨hle,λ_ _ h=>h⟩ (λb o p hb hal hp off v hv=>by
     unfold snO;rw[if_pos ⟨b,o,p,hb,hal,hp,rfl⟩];exact hv) 30 u u2 v h hv)
 have at2:∀{b:Nat}{o2:AObj}{p:Place},H2[b]? = some o2->o2.alive=true->iot m ι b=some p->∃j o,m[b]? = some j/\H[j]? = some o /\ ι j=some p/\o.alive=true/\o2.sh=o.sh/\mem o.fam fs=false/\BodyGeZ fs H m o.body o2.body:=by
  intro b o2 p hb ha hp
  obtain⟨j,o,x1,x2,x3,x4⟩:=hg b o2 hb
  obtain⟨y1,y2,y3,y4⟩:=x4 ha
  simp only[iot,x1]at hp
  exact⟨j,o,x1,x2,hp,y1,y2,y3,y4⟩
 have hR2:R (snO sn ι HQ W) (iot m ι) H2 W:=by
  refine⟨λb=>⟨λhb=>?_,λ⟨p,hp⟩=>?_⟩,λb p hp=>?_,λb o2 p hb ha hp=>?_,λb b' o o' p p' hb hb' ha ha' hp hp' e=>?_,λad v hv=>?_,λb o2 p hb hp e=>?_⟩
  · obtain⟨j,o,x1,x2,_⟩:=hg b _ (Y0h hb)
    obtain⟨p,hp⟩:=hR.place x2
    exact⟨p,by simp only[iot,x1];exact hp⟩
  · unfold iot at hp
    split at hp
    ·rename_i j hj;rw[hl];exact (Y09.1 hj).1
    ·cases hp
  · unfold iot at hp
    split at hp
    ·exact hR.blk _ p hp
    ·cases hp
  · obtain⟨j,o,x1,x2,x3,x4,x5,x6,x8⟩:=at2 hb ha hp
    have hor:=hR.obj j o p x2 x4 x3
    generalize o.body=b1 at x8 hor
    generalize o2.body=b2 at x8
    unfold BodyGeZ at x8
    split at x8
    · obtain⟨rfl,h1,h2⟩:=x8
      simp only[OR]at hor⊢
      obtain⟨arr,g1,g2,g3,g4⟩:=hor
      refine⟨arr,g1,g2,by omega,λi c2 hc=>?_⟩
      obtain⟨c,e1,e2⟩:=h2 i c2 hc
      obtain⟨v,e3,e4⟩:=g4 i c e1
      exact⟨v,e3,hz _ _ _ e2 e4⟩
    ·exact Z0Q ⟨hle,λ_ _ h=>h⟩ rfl (x8.or hor)
  · obtain⟨j,q,x1,x2,x3,x4,x5,x6,x8⟩:=at2 hb ha hp
    obtain⟨j',q',y1,y2,y3,y4,y5,y6,y8⟩:=at2 hb' ha' hp'
    have hs:=hR.sep j j' q q' p p' x2 y2 x4 y4 x3 y3 e
    have:b=b':=hsep b b' o o' j j' hb hb' ha ha' x1 y1 (by simp[Z0m,x2,y2,hs.1])
    subst this
    rw[hb]at hb';cases hb'
    exact⟨rfl,by rw[x1]at y1;cases y1;rw[x2]at y2;cases y2;exact (by have:=hs.2;omega)⟩
  · refine⟨ZgT (hcell ad v hv),hcell ad v hv,λb o2 p hb ha hp hne=>?_⟩
    obtain⟨j,o,x1,x2,x3,x4,x5,x6,_⟩:=at2 hb ha hp
    unfold snO at hv
    split at hv
    · rename_i hex
      obtain⟨b',o',p',z1,z2,z3,z4⟩:=hex
      obtain⟨y1,y2⟩:=inQ b' o' z1 z2
      have:=(hR.sep j b' o o' p p' x2 y1 x4 z2 x3 z3 (hne.trans z4.symm)).1
      rw[this,y2]at x6;cases x6
    ·exact (hR.snap ad v hv).2.2 j o p x2 x4 x3 hne
  · obtain⟨j,o,x1,x2,x3,x4⟩:=hg b o2 hb
    simp only[iot,x1]at hp
    exact hR.shz j o p x2 hp (x3 e)
 refine⟨snO sn ι HQ W,iot m ι,⟨hR2,hle,λb o2 p hb ha hp=>?_,λ_ _ _=>rfl,Y01 _,rfl,rfl,rfl,λad v hv=>?_,λb p hb hp=>by have:=Z6B hkp b hb;simp only[Y0c]at this;simp only[iot,this];exact hp⟩,λt u2 hu=>?_,λt hx=>ht.2 t (htx t hx)⟩
 · obtain⟨j,o,x1,x2,x3,x4,_⟩:=at2 hb ha hp
   exact .inr ⟨j,o,p,x2,x4,x3,rfl⟩
 · unfold snO at hv
   split at hv
   · rename_i hex
     obtain⟨b,o,p,x1,x2,x3,x4⟩:=hex
     exact .inr (.inr ⟨b,o,p,(inQ b o x1 x2).1,x2,x3,x4⟩)
   ·exact .inl hv
 · obtain⟨u,h1,h2⟩:=htr t u2 hu
   obtain⟨v,h4,h5⟩:=ht.1 t u h1
   rcases h2 with h2|⟨u1,h2,h3⟩
   ·exact⟨v,h4,hz _ _ _ h2 h5⟩
   ·exact⟨v,h4,Zf4 u1 u2 v h3 (hz _ _ _ h2 h5)⟩
def SlotsGeW(fs:List Nat)(H:Z00)(m:List Nat)(t:Tr):List (Nat×AV)->Prop
 |[]=>True
 |(n,u2)::l=>(onO (Z15 t n) λu=>WkW fs H m u u2)/\SlotsGeW fs H m t l
theorem SlotsGeW.get{fs:List Nat}{H:Z00}{m:List Nat}{t:Tr}:∀{l:List (Nat×AV)},SlotsGeW fs H m t l->∀n u2,Z1O n l=some u2->∃u,Z15 t n=some u/\WkW fs H m u u2
 |[],h,n,u2,e=>by simp[Z1O]at e
 |(k,v)::l,h,n,u2,e=>by
  simp only[Z1O]at e
  split at e
  · rename_i hk
    have:=Y0k hk;subst this
    simp at e;subst e
    exact Z03 h.1
  ·exact h.2.get n u2 e
theorem FgLK.mkD{k:Nat}{t0 tm:Tr}{H:Z00}{l:List (Nat×AV)}{H2:Z00}(fs m:List Nat)(hk:Zec k 0 m=true)(h:Z7Z t0 tm=true)(h1:SlotsGeW fs H m tm l)(h2:HpD fs m H H2):FgLK k t0 tm H l H2:=by
 unfold FgLK;rw[h]
 exact .inr (FgS.dead (fs:=fs) (m:=m) (λn u2 e=>h1.get n u2 (Z5e _ _ _ _ e)) (λn e=>Z6x h n (by rwa [Z6E]at e)) h2 hk)
theorem WkW.wk{fs:List Nat}{H:Z00}{m:List Nat}{u u2:AV}(h:Wk m u u2):WkW fs H m u u2:=.inl (.inl h)
end Go.Abs
end
section
namespace Go.Flat
def upd{α : Type}(f:Nat -> α)(v:Nat)(x : α):Nat -> α:=λu=>if u=v then x else f u
structure Ds where
 st:Nat->Nat
 gone:Nat->Nat
 path:List Nat
 l:List Nat
def start:Ds:=⟨upd (λ_=>0) 0 1,λ_=>0,[0],[]⟩
def shut(s:Ds)(v:Nat)(p:List Nat):Ds:=⟨upd s.st v 2,s.gone,p,v::s.l⟩
def rk(v:Nat):List Nat->Nat
 |[]=>0
 |x::l=>if x=v then l.length else rk v l
def left(n:Nat)(nx:Nat->List Nat)(s:Ds):Nat:=((List.range n).map λv=>((nx v).length-s.gone v)+(if s.st v=2 then 0 else 1)).sum
end Go.Flat
end
section
namespace Go.Proofs.YtpcpdlfhcahjgaaGreatDoor.lex.lg
open Go.Abs Go.RowKit Go.Flat
def inb(b:Nat)(ty:TypeId):List AV->AObj
 |[]=>⟨false,b,0,.cells [] ty⟩
 |c::r=>⟨true,b,0,.cells (c::r) ty⟩
def grn(b z:Nat):Nat->AV
 |0=>.nslice
 |n+1=>.slice b 0 (n+1) (n+1) z
def inn(k:Nat)(ty:Nat->TypeId)(g:Nat->List AV)(n:Nat):Z00:=(List.range n).map λi=>inb (k+i) (ty i) (g i)
def outc(k z:Nat)(len:Nat->Nat)(n:Nat):List AV:=(List.range n).map λi=>grn (k+i) z (len i)
theorem inb_ne{b:Nat}{ty:TypeId}{l:List AV}(h:l≠[]):inb b ty l=⟨true,b,0,.cells l ty⟩:=by
 cases l with
 |nil=>exact (h rfl).elim
 |cons c r=>rfl
theorem inb_al{b:Nat}{ty:TypeId}{l:List AV}:(inb b ty l).alive=true ↔ l≠[]:=by
 cases l with
 |nil=>simp[inb]
 |cons c r=>simp[inb]
theorem inb_sh{b:Nat}{ty:TypeId}{l:List AV}:(inb b ty l).sh=0:=by cases l<;>rfl
theorem inb_fam{b:Nat}{ty:TypeId}{l:List AV}:(inb b ty l).fam=b:=by cases l<;>rfl
theorem inn_len(k:Nat)(ty:Nat->TypeId)(g:Nat->List AV)(n:Nat):(inn k ty g n).length=n:=by simp[inn]
theorem inn_get(k:Nat)(ty:Nat->TypeId)(g:Nat->List AV){n i:Nat}(h:i<n):(inn k ty g n)[i]? = some (inb (k+i) (ty i) (g i)):=by simp[inn,h]
theorem outc_len(k z:Nat)(len:Nat->Nat)(n:Nat):(outc k z len n).length=n:=by simp[outc]
theorem outc_get(k z:Nat)(len:Nat->Nat){n i:Nat}(h:i<n):(outc k z len n)[i]? = some (grn (k+i) z (len i)):=by simp[outc,h]
theorem outc_at(k z:Nat)(len:Nat->Nat){n i:Nat}(h:i<n):tk 1 ((outc k z len n).drop (i*1))=some [grn (k+i) z (len i)]:=by
 rw[Y0u];exact tk_one (outc_get k z len h)
theorem outc_set(k z:Nat)(len:Nat->Nat){n i:Nat}(h:i<n)(v:AV):spl (outc k z len n) (0+i*1) [v]=some ((outc k z len n).set i v):=by
 rw[show 0+i*1=i by omega]
 have key:∀(cs:List AV)(k:Nat),k<cs.length->spl cs k [v]=some (cs.set k v):=by
  intro cs
  induction cs with
  |nil=>intro k h;simp at h
  |cons c cs ih =>
   intro k h
   cases k with
   |zero=>cases cs<;>rfl
   |succ k=>simp only[spl,ih k (by simpa using h)];rfl
 exact key _ _ (by rw[outc_len];exact h)
def sec(A T E:Z00):Z00:=A++(T++E)
theorem frcNPS{n m:Nat}{k:Nat->Prop}(e:n=m)(h:k m):frcNP n k:=by rw[Z2g,e];exact h
theorem sec_len{A T E:Z00}{n:Nat}(h:A.length+T.length+E.length=n):(sec A T E).length=n:=by simp[sec];omega
theorem sec_lo{A T E:Z00}{j:Nat}{o:AObj}(h:A[j]? = some o):(sec A T E)[j]? = some o:=by
 unfold sec;rw[Y0i (Y09.1 h).1];exact h
theorem sec_mid{A T E:Z00}{k i:Nat}{o:AObj}(hk:A.length=k)(h:T[i]? = some o):(sec A T E)[k+i]? = some o:=by
 subst hk
 unfold sec
 rw[Y0d (by omega),Nat.add_sub_cancel_left,Y0i (Y09.1 h).1]
 exact h
theorem sec_hi{A T E:Z00}{n e:Nat}{o:AObj}(hn:A.length+T.length+e=n)(h:E[e]? = some o):(sec A T E)[n]? = some o:=by
 subst hn
 unfold sec
 rw[Y0d (by omega),Y0d (by omega),show A.length+T.length+e-A.length-T.length=e from by omega]
 exact h
theorem Zfq{A T E:Z00}(o:AObj):sec A T E++[o]=sec A T (E++[o]):=by simp[sec]
theorem sec_new{A T E:Z00}{n:Nat}{cs:List AV}{ty:TypeId}(hn:A.length+T.length+E.length=n):Z2V (sec A T E) cs ty=sec A T (E++[⟨true,n,0,.cells cs ty⟩]):=by
 unfold Z2V
 rw[sec_len hn,Zfq]
theorem Zfr{A T E:Z00}{i:Nat}{o:AObj}(h:(sec A T E)[i]? = some o):A[i]? = some o\/o∈T\/o∈E:=by
 unfold sec at h
 by_cases hi:i<A.length
 ·rw[Y0i hi]at h;exact .inl h
 · rw[Y0d (by omega)]at h
   exact .inr (Y0f.1 (Y0z h))
theorem sec_set{A T E:Z00}{b f:Nat}{o':AObj}(hb:b<A.length)(hA:Go.Abs.lone f b 0 A=true)(hT:∀o∈T,o.fam≠f)(hE:∀o∈E,o.fam≠f):(Z3G b f (sec A T E)).set b o'=sec (A.set b o') T E:=by
 rw[Zcu λi o hi hne=>by
  rcases Zfr hi with h|h|h
  · rcases Go.Abs.lone_get hA h with h1|h1
    ·omega
    ·exact h1
  ·exact hT o h
  ·exact hE o h]
 unfold sec
 rw[List.set_append_left _ _ hb]
theorem sec_setE{A T E:Z00}{n e f:Nat}{o':AObj}(hn:A.length+T.length+e=n)(he:e<E.length)(hA:∀o∈A,o.fam≠f)(hT:∀o∈T,o.fam≠f)(hE:Go.Abs.lone f e 0 E=true):(Z3G n f (sec A T E)).set n o'=sec A T (E.set e o'):=by
 subst hn
 rw[Zcu λi o hi hne=>by
  by_cases h1:i<A.length
  · have:A[i]? = some o:=by unfold sec at hi;rwa [Y0i h1]at hi
    exact hA o (Y0z this)
  · by_cases h2:i<A.length+T.length
    · have:T[i-A.length]? = some o:=by unfold sec at hi;rwa [Y0d (by omega),Y0i (by omega)]at hi
      exact hT o (Y0z this)
    · have h3:E[i-A.length-T.length]? = some o:=by unfold sec at hi;rwa [Y0d (by omega),Y0d (by omega)]at hi
      rcases Go.Abs.lone_get hE h3 with h4|h4
      ·omega
      ·exact h4]
 unfold sec
 rw[List.set_append_right _ _ (by omega),List.set_append_right _ _ (by omega),show A.length+T.length+e-A.length-T.length=e from by omega]
def famB(k:Nat)(A:Z00):Bool:=A.all λo=>Nat.blt o.fam k
theorem famB_ne{k f:Nat}{A:Z00}(h:famB k A=true)(hf:k<=f):∀o∈A,o.fam≠f:=λo ho=>by
 have:=Y0E.1 h o ho
 simp only[Nat.blt_eq]at this
 omega
theorem inn_fam{k n:Nat}{ty:Nat->TypeId}{g:Nat->List AV}:∀o∈inn k ty g n,k<=o.fam/\o.fam<k+n:=λo ho=>by
 simp only[inn,Y0v,List.mem_range]at ho
 obtain⟨i,hi,rfl⟩:=ho
 rw[inb_fam];omega
theorem grn_app {P : Program} {t t2 : TypeId} {z by_ : Nat} {ty : Nat -> TypeId} {A E : Z00} {k i n n0 N len : Nat} {g : Nat -> List AV} (hT : ZeI P t t2 = some (ty i, z, by_)) {x : AV} {xs : List AV} (hx : Z2M (sec A (inn k ty g n) E) z x = some (n0, xs)) (hn0 : n0 ≠ 0) (hk : A.length = k) (hi : i < n) (hN : k + n + E.length = N) (hl : (g i).length = len * z) (hz : z ≠ 0)
  (ho:xs.all Go.Abs.one=true) (hs:len+n0<=1099511627776/\(len+n0)*by_<=70368744177664) (hA:famB k A=true) (hE:∀o∈E,o.fam≠k+i) :
  Z0U P t t2 (grn (k+i) z len) x (sec A (inn k ty g n) E)=some (.slice N 0 (len+n0) (len+n0) z,sec A (inn k ty g n) (E++[⟨true,if len=0 then N else k+i,0,.cells (g i++xs) (ty i)⟩])):=by
 have hlen:(sec A (inn k ty g n) E).length=N:=sec_len (by rw[hk,inn_len,hN])
 cases len with
 |zero =>
  rw[Nat.zero_mul]at hl
  rw[Y0F.1 hl]
  rw[Y0c]at hs
  have:=Zc9 hT hx hn0 hs
  show Z0U P t t2 .nslice x _=_
  rw[this,hlen]
  simp only[Y0c,List.nil_append,Option.some.injEq,Prod.mk.injEq,true_and,if_true]
  exact sec_new (by rw[hk,inn_len];omega)
 |succ m =>
  rw[if_neg (Nat.succ_ne_zero m)]
  have hne:g i≠[]:=λe0=>by rw[e0,Nat.succ_mul]at hl;simp only[Y0a]at hl;omega
  have hb:(sec A (inn k ty g n) E)[k+i]? = some ⟨true,k+i,0,.cells (g i) (ty i)⟩:=by
   rw[sec_mid hk (inn_get _ _ _ hi),inb_ne hne]
  have hek:ZeB (k+i) (g i).length (sec A (inn k ty g n) E)=sec A (inn k ty g n) E:=Z1z λo ho hf=>by
   obtain⟨j,hj⟩:=List.getElem?_of_mem ho
   rcases Zfr hj with h|h|h
   ·exact absurd hf (famB_ne hA (Nat.le_add_right k i) o (Y0z h))
   · simp only[inn,Y0v,List.mem_range]at h
     obtain⟨a,ha,rfl⟩:=h
     rw[inb_fam]at hf
     have:a=i:=by omega
     subst this
     rw[inb_ne hne]
     simp[ABody.len]
   ·exact absurd hf (hE o h)
  have:=Z1C (cap:=m+1) hT hx hb hek hl ho hn0 hs
  show Z0U P t t2 (.slice (k+i) 0 (m+1) (m+1) z) x _=_
  rw[this,hlen,Zfq]
def HpGeD(fs:List Nat)(H:Z00)(m:List Nat):List Nat->Z00->Prop
 |[],[]=>True
 |j::l,o2::H2=>(onO H[j]? λo=>(o2.alive=false/\o2.sh=0/\o.sh=0)\/(o.alive=true/\o2.alive=true/\o2.sh=o.sh/\BodyGeZ fs H m o.body o2.body))/\HpGeD fs H m l H2
 |_,_=>False
theorem HpGeD.get{fs:List Nat}{H:Z00}{m:List Nat}:∀{l:List Nat}{H2:Z00},HpGeD fs H m l H2->H2.length=l.length/\∀(b:Nat)(o2:AObj),H2[b]? = some o2->∃ (j:Nat) (o:AObj),l[b]? = some j/\H[j]? = some o/\((o2.alive=false/\o2.sh=0/\o.sh=0)\/(o.alive=true/\o2.alive=true/\o2.sh=o.sh/\BodyGeZ fs H m o.body o2.body))
 |[],[],h=>⟨rfl,λb o2 hb=>by simp at hb⟩
 |j::l,x::H2,h=>by
  obtain⟨h1,h2⟩:=h
  obtain⟨o,ho,e⟩:=Z03 h1
  obtain⟨k1,k2⟩:=h2.get
  refine⟨by simp[k1],λb o2 hb=>?_⟩
  cases b with
  |zero=>simp at hb;subst hb;exact⟨j,o,rfl,ho,e⟩
  |succ b =>
   obtain⟨j',o',x1,x2,x3⟩:=k2 b o2 (by simpa using hb)
   exact⟨j',o',by simpa using x1,x2,x3⟩
 |[],_::_,h=>h.elim
 |_::_,[],h=>h.elim
def famsL(H:Z00):Z00->List Nat->List Nat
 |o::A,j::l=>cond o.alive (Z0m H j::famsL H A l) (famsL H A l)
 |_,_=>[]
theorem Z3X{H:Z00}:∀{A:Z00}{l:List Nat}{b j:Nat}{o:AObj},A[b]? = some o->o.alive=true->l[b]? = some j->Z0m H j∈famsL H A l
 |[],l,b,j,o,h,_,_=>by simp at h
 |x::A,[],b,j,o,_,_,h=>by simp at h
 |x::A,i::l,0,j,o,h1,h2,h3=>by
  simp at h1 h3;subst h1;subst h3
  simp[famsL,h2]
 |x::A,i::l,b+1,j,o,h1,h2,h3=>by
  have:=Z3X (H:=H) (A:=A) (l:=l) (b:=b) (j:=j) (by simpa using h1) h2 (by simpa using h3)
  unfold famsL
  cases x.alive with
  |true=>exact List.mem_cons_of_mem _ this
  |false=>exact this
theorem Zaw{H:Z00}:∀{A:Z00}{l:List Nat},(famsL H A l).Nodup->∀{b b' j j':Nat}{o o':AObj},A[b]? = some o->o.alive=true->l[b]? = some j->A[b']? = some o'->o'.alive=true->l[b']? = some j'->Z0m H j=Z0m H j'->b=b'
 |[],l,_,b,b',j,j',o,o',h,_,_,_,_,_,_=>by simp at h
 |x::A,[],_,b,b',j,j',o,o',_,_,h,_,_,_,_=>by simp at h
 |x::A,i::l,hn,b,b',j,j',o,o',h1,h2,h3,g1,g2,g3,e=>by
  unfold famsL at hn
  cases b with
  |zero =>
   cases b' with
   |zero=>rfl
   |succ b' =>
    exfalso
    simp at h1 h3;subst h1;subst h3
    rw[h2]at hn
    simp only[cond_true,Y0G]at hn
    exact hn.1 (by rw[e];exact Z3X (by simpa using g1) g2 (by simpa using g3))
  |succ b =>
   have hn2:(famsL H A l).Nodup:=by
    cases hx:x.alive with
    |true=>rw[hx]at hn;simp only[cond_true,Y0G]at hn;exact hn.2
    |false=>rw[hx]at hn;exact hn
   cases b' with
   |zero =>
    exfalso
    simp at g1 g3;subst g1;subst g3
    rw[g2]at hn
    simp only[cond_true,Y0G]at hn
    exact hn.1 (by rw[<- e];exact Z3X (by simpa using h1) h2 (by simpa using h3))
   |succ b' =>
    have:=Zaw hn2 (b:=b) (b':=b') (by simpa using h1) h2 (by simpa using h3) (by simpa using g1) g2 (by simpa using g3) e
    omega
theorem HpD.sec {ml : List Nat} {H A2 : Z00} {k n : Nat} {ty : Nat -> TypeId} {g : Nat -> List AV} {nb : Nat -> Nat} (hA : HpGeD [] H (ml ++ (List.range n).map nb) ml A2) (hk : ml.length = k)
  (hI0:∀i,i<n->∃o,H[nb i]? = some o/\o.sh=0)
  (hI:∀i,i<n->g i≠[]->∃o,H[nb i]? = some o/\o.alive=true/\o.body = .cells (g i) (ty i))
  (hr:∀i,i<n->refsL (g i) []=[]) (hs:(famsL H A2 ml).Nodup)
  (hf:∀i,i<n->g i≠[]->Z0m H (nb i) ∉ famsL H A2 ml)
  (hf2:∀i i',i<n->i'<n->g i≠[]->g i'≠[]->Z0m H (nb i)=Z0m H (nb i')->i=i'):HpD [] (ml++(List.range n).map nb) H (A2++inn k ty g n):=by
 obtain⟨hl,hg⟩:=hA.get
 have hmi:∀i,i<n->((List.range n).map nb)[i]? = some (nb i):=λi hi=>by simp[hi]
 have lo:∀b,b<k->(ml++(List.range n).map nb)[b]? = ml[b]?:=λb hb=>Y0i (by omega)
 have hi:∀b,¬b<k->(ml++(List.range n).map nb)[b]? = ((List.range n).map nb)[b-k]?:=λb hb=>by rw[Y0d (by omega),hk]
 have lo2:∀b,b<k->(A2++inn k ty g n)[b]? = A2[b]?:=λb hb=>Y0i (by omega)
 have hi2:∀b o2,¬b<k->(A2++inn k ty g n)[b]? = some o2->b-k<n/\o2=inb b (ty (b-k)) (g (b-k)):=λb o2 hb h=>by
  rw[Y0d (by omega),hl,hk]at h
  have hlt:b-k<n:=by have:=(Y09.1 h).1;rwa [inn_len]at this
  rw[inn_get _ _ _ hlt,Option.some.injEq]at h
  refine⟨hlt,?_⟩
  rw[<- h];congr 1;omega
 refine⟨by simp[hl,hk,inn_len],λb o2 hb=>?_,λb b' o2 o2' j j' hb hb' ha ha' hj hj' e=>?_⟩
 · by_cases hlt:b<k
   · rw[lo2 b hlt]at hb
     obtain⟨j,o,x1,x2,x3⟩:=hg b o2 hb
     refine⟨j,o,(lo b hlt).trans x1,x2,λe=>?_,λha=>?_⟩
     · rcases x3 with ⟨_,_,y⟩|⟨_,_,y,_⟩
       ·exact y
       ·omega
     · rcases x3 with ⟨y,_,_⟩|⟨y1,y2,y3,y4⟩
       ·rw[y]at ha;cases ha
       ·exact⟨y1,y3,rfl,y4⟩
   · obtain⟨h1,rfl⟩:=hi2 b o2 hlt hb
     obtain⟨o,x2,x3⟩:=hI0 _ h1
     refine⟨nb (b-k),o,(hi b hlt).trans (hmi _ h1),x2,λ_=>x3,λha=>?_⟩
     rw[inb_al]at ha
     obtain⟨o',y1,y2,y4⟩:=hI _ h1 ha
     rw[x2]at y1;cases y1
     refine⟨y2,by rw[inb_sh,x3],rfl,?_⟩
     rw[inb_ne ha,y4]
     exact Y04 (Y06 (rest:=[]) (by simp) (hr _ h1))
 · by_cases hlt:b<k
   · rw[lo b hlt]at hj
     rw[lo2 b hlt]at hb
     by_cases hlt':b'<k
     · rw[lo b' hlt']at hj'
       rw[lo2 b' hlt']at hb'
       exact Zaw hs hb ha hj hb' ha' hj' e
     · obtain⟨h1,rfl⟩:=hi2 b' o2' hlt' hb'
       rw[hi b' hlt',hmi _ h1,Option.some.injEq]at hj'
       subst hj'
       rw[inb_al]at ha'
       exact absurd (by rw[<- e];exact Z3X hb ha hj) (hf _ h1 ha')
   · obtain⟨h1,rfl⟩:=hi2 b o2 hlt hb
     rw[hi b hlt,hmi _ h1,Option.some.injEq]at hj
     subst hj
     rw[inb_al]at ha
     by_cases hlt':b'<k
     · rw[lo b' hlt']at hj'
       rw[lo2 b' hlt']at hb'
       exact absurd (by rw[e];exact Z3X hb' ha' hj') (hf _ h1 ha)
     · obtain⟨h1',rfl⟩:=hi2 b' o2' hlt' hb'
       rw[hi b' hlt',hmi _ h1',Option.some.injEq]at hj'
       subst hj'
       rw[inb_al]at ha'
       have:=hf2 _ _ h1 h1' ha ha' e
       omega
theorem famOf_get{H:Z00}{j:Nat}{o:AObj}(h:H[j]? = some o):Z0m H j=o.fam:=by unfold Z0m;rw[h]
theorem HpD.grow {ml : List Nat} {H A2 : Z00} {k n : Nat} {ty : Nat -> TypeId} {g g' : Nat -> List AV} {nb : Nat -> Nat} (hS : ∀ i, i < n -> H[k + i]? = some (inb (k + i) (ty i) (g i))) (hA : HpGeD [] H (ml ++ (List.range n).map nb) ml A2) (hk : ml.length = k)
  (hnb:∀i,i<n->(nb i=k+i/\g' i=g i)\/∃f,H[nb i]? = some ⟨true,f,0,.cells (g' i) (ty i)⟩/\(f=k+i\/f=nb i)/\k+n<=nb i)
  (hinj:∀i i',i<n->i'<n->nb i=nb i'->i=i') (hr:∀i,i<n->refsL (g' i) []=[]) (hs:(famsL H A2 ml).Nodup) (hm:∀x∈famsL H A2 ml,x<k):HpD [] (ml++(List.range n).map nb) H (A2++inn k ty g' n):=by
 have fam_:∀i,i<n->Z0m H (nb i)=k+i\/(Z0m H (nb i)=nb i/\k+n<=nb i):=λi hi=>by
  rcases hnb i hi with ⟨h1,h2⟩|⟨f,h1,h2,h3⟩
  ·left;rw[h1,famOf_get (hS i hi),inb_fam]
  · rw[famOf_get h1]
    rcases h2 with h2|h2
    ·exact .inl h2
    ·exact .inr ⟨h2,h3⟩
 refine HpD.sec hA hk (λi hi=>?_) (λi hi hne=>?_) hr hs (λi hi hne hx=>?_) (λi i' hi hi' hne hne' e=>?_)
 · rcases hnb i hi with ⟨h1,h2⟩|⟨f,h1,h2,h3⟩
   ·exact⟨_,by rw[h1];exact hS i hi,inb_sh⟩
   ·exact⟨_,h1,rfl⟩
 · rcases hnb i hi with ⟨h1,h2⟩|⟨f,h1,h2,h3⟩
   · rw[h2]at hne
     exact⟨_,by rw[h1];exact hS i hi,inb_al.2 hne,by rw[inb_ne hne,h2]⟩
   ·exact⟨_,h1,rfl,rfl⟩
 · have:=hm _ hx
   rcases fam_ i hi with h|⟨h,h2⟩<;>omega
 · rcases fam_ i hi with h|⟨h,h2⟩<;>rcases fam_ i' hi' with h'|⟨h',h2'⟩
   ·omega
   ·omega
   ·omega
   ·exact hinj i i' hi hi' (by omega)
theorem nil_wk{m:List Nat}:Wk m .nslice .nslice:=Wk.noref rfl
theorem outc_ge {m : List Nat} {k z n : Nat} {len len' : Nat -> Nat} {cs : List AV} {t : TypeId} (hl : n <= cs.length) (h : ∀ i, i < n -> (cs[i]? = some (grn (k + i) z (len i)) /\ len' i = len i /\ m[k + i]? = some (k + i)) \/ ∃ b, cs[i]? = some (.slice b 0 (len' i) (len' i) z) /\ 0 < len' i /\ m[k + i]? = some b) :
  BodyGe m (.cells cs t) (.cells (outc k z len' n) t):=by
 refine⟨rfl,by rw[outc_len];exact hl,λa c2 hc2=>?_⟩
 have ha:a<n:=by have:=(Y09.1 hc2).1;rwa [outc_len]at this
 rw[outc_get _ _ _ ha,Option.some.injEq]at hc2
 subst hc2
 rcases h a ha with ⟨h1,h2,h3⟩|⟨b,h1,h2,h3⟩
 · refine⟨_,h1,?_⟩
   rw[h2]
   cases len a with
   |zero=>exact nil_wk
   |succ l=>exact Y0b h3 rfl rfl (Y01 _) (Y01 _) rfl
 · refine⟨_,h1,?_⟩
   generalize len' a=l at *
   cases l with
   |zero=>omega
   |succ l=>exact Y0b h3 rfl rfl (Y01 _) (Y01 _) rfl
theorem grn_wk{m:List Nat}{b z n:Nat}(h:m[b]? = some b):Wk m (grn b z n) (grn b z n):=by
 cases n with
 |zero=>exact nil_wk
 |succ n=>exact Y0b h rfl rfl (Y01 _) (Y01 _) rfl
theorem grn_wk2{m:List Nat}{b b' z n:Nat}(h:m[b]? = some b')(hn:0<n):Wk m (.slice b' 0 n n z) (grn b z n):=by
 cases n with
 |zero=>omega
 |succ n=>exact Y0b h rfl rfl (Y01 _) (Y01 _) rfl
theorem ml_at{ml:List Nat}{nb:Nat->Nat}{k n i:Nat}(h:ml.length=k)(hi:i<n):(ml++(List.range n).map nb)[k+i]? = some (nb i):=by
 subst h
 rw[Y0d (by omega),Nat.add_sub_cancel_left]
 simp[hi]
theorem SlotsGe.w{fs:List Nat}{H:Z00}{m:List Nat}{t:Tr}:∀{l:List (Nat×AV)},SlotsGe m t l->SlotsGeW fs H m t l
 |[],_=>trivial
 |(n,u)::l,h=>by
  refine⟨?_,SlotsGe.w h.2⟩
  obtain⟨v,e1,e2⟩:=Z03 h.1
  exact onOI e1 (WkW.wk e2)
theorem onlyF_get{fs:List Nat}{H:Z00}{b:Nat}{o:AObj}(h:H[b]? = some o)(hm:mem o.fam fs=true):(Z5G fs H)[b]? = some o:=by
 unfold Z5G
 rw[Z3j,h]
 simp[hm]
end Go.Proofs.YtpcpdlfhcahjgaaGreatDoor.lex.lg
end
namespace Go.Proofs.YtpcpdlfhcahjgaaGreatDoor.lex
open Go.Abs Go.RowKit
section
def ZcH(g:DGr)(d f:DId):Bool:=ZeS g d ((g.ev d).getD evD) f
theorem ZgL(a b:DId):(a.t==b.t&&(a.i==b.i&&true))=decide (a=b):=by
 obtain⟨a1,a2⟩:=a;obtain⟨b1,b2⟩:=b
 by_cases h:(⟨a1,a2⟩:DId)=⟨b1,b2⟩
 ·rw[decide_eq_true h];simp only[DId.mk.injEq]at h;simp[h.1,h.2]
 · rw[decide_eq_false h];simp only[DId.mk.injEq,not_and]at h
   by_cases h1:a1=b1
   ·simp[h h1]
   ·simp[h1]
theorem Z97(o:Option DEv):ZnO o = .tuple [.agg (evC (o.getD evD)),.bool o.isSome]:=by cases o<;>rfl
section
variable {gl:Z0w}
theorem Zkn(g:DGr)(hg:okG g)(d f:DId)(hd:okD d)(hf:okD f):ValOK Y00 gl 41 [g.av,.agg (idC d),.agg (idC f)] (.bool (ZcH g d f)):=by
 obtain⟨O,hO,p1,p2,p3,-⟩:=fams (P:=Y00) (gl:=gl) [
  { I:=DEv,f:=57,G:=λ_=>True,A:=λe=>[.agg (evC e)],R:=λe=>.bool e.rd,body:=(by kernel_rfl),inj:=(λi j _ _ h=>by rw[Z1N i j (by simpa using h)]),ok:=(λe _=>⟨rfl,Zjf e⟩) },
  { I:=DEv,f:=58,G:=λ_=>True,A:=λe=>[.agg (evC e)],R:=λe=>.bool e.wr,body:=(by kernel_rfl),inj:=(λi j _ _ h=>by rw[Z1N i j (by simpa using h)]),ok:=(λe _=>⟨rfl,Zgc e⟩) },
  { I:=DId,f:=59,G:=okD,A:=λd=>[g.av,.agg (idC d)],R:=λd=>.tuple [.agg (evC ((g.ev d).getD evD)),.bool (g.ev d).isSome],body:=(by kernel_rfl),inj:=(λi j _ _ h=>by rw[Z3S i j (by simpa using h)]),ok:=(λd hd=>⟨rfl,by have:=Zm8 (gl:=gl) g hg d hd;unfold DGr.evR at this;rw[Z97]at this;exact this⟩) }] rfl
 have q1:∀e:DEv,∀H,Z02 Y00 O H 57 [.agg (evC e)]=some (.bool e.rd,H):=λe=>p1 e trivial
 have q2:∀e:DEv,∀H,Z02 Y00 O H 58 [.agg (evC e)]=some (.bool e.wr,H):=λe=>p2 e trivial
 have q3:=p3 d hd
 have q4:=p3 f hf
 dsimp only at q3 q4
 clear p1 p2 p3
 have hs:ZcH g d f=(let e:=(g.ev d).getD evD;let w:=(g.ev f).getD evD;if e.rd then (g.ev f).isSome&&(!decide (f=d))&&w.wr&&w.l==e.l&&w.w==e.r else decide (f=idD)):=by
  unfold ZcH ZeS
  dsimp only
  cases g.ev f with
  |none=>rfl
  |some w=>simp only[Option.isSome_some,Y0n,Option.getD_some,decide_not]
 rw[hs]
 dsimp only
 generalize (g.ev d).getD evD=e at *
 generalize (g.ev f).getD evD=w at *
 generalize (g.ev f).isSome=b at *
 generalize (g.ev d).isSome=b' at *
 have q1e:=q1 e
 have q2w:=q2 w
 have a1:=Zll f d
 have a2:=Zll f idD
 rw[ZgL]at a1 a2
 clear q1 q2 hs
 simp only[DGr.av,grC,rsI,Z4T,Z58]at q3 q4⊢
 generalize Z07 Z2b g.ini=X at *
 generalize Z07 (λx=>[rsE x]) g.thr=A at *
 generalize Z07 (λx=>[rsD x]) g.frm=B at *
 generalize Z07 (λx=>[rsD x]) g.ord=C at *
 obtain⟨rd,hrd⟩:∃b,b=e.rd:=⟨_,rfl⟩
 obtain⟨wr,hwr⟩:∃b,b=w.wr:=⟨_,rfl⟩
 rw[<- hrd]at q1e⊢
 rw[<- hwr]at q2w⊢
 obtain⟨c1,hc1⟩:∃b,b=decide (f=d):=⟨_,rfl⟩
 obtain⟨c2,hc2⟩:∃b,b=decide (f=idD):=⟨_,rfl⟩
 rw[<- hc1]at a1⊢
 rw[<- hc2]at a2⊢
 clear hrd hwr hc1 hc2
 obtain⟨k1,l1,o1,r1,w1⟩:=e
 obtain⟨k2,l2,o2,r2,w2⟩:=w
 obtain⟨dt,di⟩:=d
 obtain⟨ft,fi⟩:=f
 simp only[evC,idC,idD]at *
 obtain⟨m1,hm1⟩:∃b,b=(l2==l1):=⟨_,rfl⟩
 obtain⟨m2,hm2⟩:∃b,b=(w2==r1):=⟨_,rfl⟩
 rw[<- hm1,<- hm2]
 replace hm1:=hm1.symm
 replace hm2:=hm2.symm
 cases rd
 · refine Z09 follows Z0a hO Tryz.func41 rfl ?_
   repeat' ((conv=>whnf);first|with_reducible refine exI (q3 _) ?_|with_reducible refine exI (q1e _) ?_|refine exI a2 ?_|refine stp ?_|with_reducible apply Z01<;>intro h)
   all_goals rfl
 cases b
 · refine Z09 follows Z0a hO Tryz.func41 rfl ?_
   repeat' ((conv=>whnf);first|with_reducible refine exI (q3 _) ?_|with_reducible refine exI (q4 _) ?_|with_reducible refine exI (q1e _) ?_|refine stp ?_|with_reducible apply Z01<;>intro h)
   all_goals rfl
 cases c1<;>cases wr<;>cases m1
 all_goals refine Z09 follows Z0a hO Tryz.func41 rfl ?_
 all_goals repeat' ((conv=>whnf);first|with_reducible refine exI (q3 _) ?_|with_reducible refine exI (q4 _) ?_|with_reducible refine exI (q1e _) ?_|with_reducible refine exI (q2w _) ?_|with_reducible refine exI a1 ?_|refine stp ?_|with_reducible apply Z01<;>intro h)
 all_goals first|rfl|(show AV.bool _=AV.bool _;rw[hm2];rfl)
end
end
section
section
variable {gl:Z0w}
theorem Zlt(l:List DEv)(h:l.length<=Z5A):ValOK Y00 gl 56 [rsE l] (.bool (decide (14<l.length))):=by
 simp only[rsE]
 generalize Z07 evC l=Y
 refine Z09 follows Z0a Z05 Tryz.func56 rfl ?_
 repeat' ((conv=>whnf);first|refine stp ?_|with_reducible apply Z01<;>intro h)
 all_goals exact congrArg AV.bool (decide_eq_decide.2 (by omega))
def Za8(l:List (List DEv)):Int:=match l.findIdx? (λx=>decide (14<x.length)) with
 |some i=>i
 |none=>-1
theorem Zkj(thr:List (List DEv))(h1:thr.length<=Z5A)(h2:∀l∈thr,Zl8 l):ValOK Y00 gl 80 [Z4T thr,.func (.func 56) [] []] (.int .i64 (Za8 thr)):=by
 obtain⟨O,hO,p1,-⟩:=fams (P:=Y00) (gl:=gl) [
  { I:=List DEv,f:=56,G:=λl=>l.length<=Z5A,A:=λl=>[rsE l],R:=λl=>.bool (decide (14<l.length)),body:=(by kernel_rfl),inj:=(λi j _ _ h=>by rw[Zft i j (by simpa using h)]),ok:=(λl hl=>⟨rfl,Zlt l hl⟩) }] rfl
 have h1':thr.length<=9223372036854775807:=h1
 have ha:=λi (hi:i<thr.length)=>Z0f (f:=λx=>[rsE x]) (k:=1) (λ_=>rfl) thr i hi
 simp only[Z4T]
 generalize Z07 (λx=>[rsE x]) thr=A at *
 refine Z09 follows Z0a hO Tryz.func80 rfl ?_
 repeat' ((conv=>whnf);first|refine stp ?_|with_reducible apply Z01<;>intro h)
 conv=>whnf
 refine⟨Nat,(λi=>i<=thr.length/\∀j (hj:j<thr.length),j<i->¬14<thr[j].length),(λi=>[(0,.rs thr.length 1 A),(1,.func (.func 56) [] []),(6,.rs thr.length 1 A),(7,.int .i64 thr.length),(8,.int .i64 i)]),(λ_=>[]),(λi=>thr.length-i),⟨0,⟨Y05 _,λj _ h=>absurd h (Nat.not_lt_zero _)⟩,FgL.mk0 rfl ?_⟩,?_⟩
 ·exact wks
 rintro i ⟨hi,hno⟩
 dsimp only
 by_cases hlt:i<thr.length
 · have e1:decide ((i:Int)<(thr.length:Int))=true:=decide_eq_true (by omega)
   have hx:=ha i hlt
   have q:∀H,Z02 Y00 O H 56 [rsE thr[i]]=some (.bool (decide (14<thr[i].length)),H):=p1 _ (h2 _ (Y08 hlt)).1
   have hyes:decide (14<thr[i].length)=true->Za8 thr=(i:Int):=λh=>by
    unfold Za8
    rw[Y0H.2 ⟨hlt,h,λj hj=>by simpa using hno j (by omega) hj⟩]
   have hnext:decide (14<thr[i].length)=false->∀j (hj:j<thr.length),j<i+1->¬14<thr[j].length:=λh j hj hji=>by
    by_cases hj2:j=i
    ·subst hj2;exact of_decide_eq_false h
    ·exact hno j hj (by omega)
   generalize decide (14<thr[i].length)=b at *
   generalize thr[i]=l at hx q
   simp only[rsE]at hx q
   cases b
   · repeat' ((conv=>whnf);first|with_reducible refine exI (q _) ?_|(refine Z0c (q _) ?_)|(with_reducible refine ixJ i rfl ?_ ?_;focus omega)|refine exI hx ?_|refine stp ?_|with_reducible apply Z01<;>intro h)
     conv=>whnf
     refine⟨i+1,⟨hlt,hnext rfl⟩,by show thr.length-(i+1)<thr.length-i;omega,FgL.mk0 rfl ?_⟩
     exact wks
   · repeat' ((conv=>whnf);first|with_reducible refine exI (q _) ?_|(refine Z0c (q _) ?_)|(with_reducible refine ixJ i rfl ?_ ?_;focus omega)|refine exI hx ?_|refine stp ?_|with_reducible apply Z01<;>intro h)
     show AV.int _ _=AV.int _ _
     rw[hyes rfl]
 · have e1:decide ((i:Int)<(thr.length:Int))=false:=decide_eq_false (by omega)
   repeat' ((conv=>whnf);first|refine stp ?_|with_reducible apply Z01<;>intro h)
   all_goals show AV.int _ _=AV.int _ _
   all_goals refine congrArg (AV.int .i64) ?_
   all_goals unfold Za8
   all_goals rw[Y0o.2 (λx hx=>by
    obtain⟨j,hj,rfl⟩:=List.getElem_of_mem hx
    exact decide_eq_false (hno j hj (by omega)))]
   all_goals rfl
theorem ZfU(l:List (List DEv)):decide (Za8 l >= 0)=l.any λx=>decide (14<x.length):=by
 unfold Za8
 cases h:l.findIdx? (λx=>decide (14<x.length)) with
 |none =>
  have h2:=Y0o.1 h
  have:(l.any λx=>decide (14<x.length))=false:=by
   rw[Y0x];intro hc
   obtain⟨x,hx,hp⟩:=List.any_eq_true.1 hc
   rw[h2 x hx]at hp;cases hp
  rw[this];rfl
 |some i =>
  obtain⟨hi,hp,_⟩:=Y0H.1 h
  have:(l.any λx=>decide (14<x.length))=true:=List.any_eq_true.2 ⟨_,Y08 hi,hp⟩
  rw[this]
  exact decide_eq_true (by show ((i:Int)) >= 0;omega)
theorem ZbG(g:DGr)(hg:okG g):ValOK Y00 gl 39 [g.av] (.bool (Z2X g)):=by
 obtain⟨O,hO,p1,-⟩:=fams (P:=Y00) (gl:=gl) [
  { I:=Unit,f:=80,G:=λ_=>True,A:=λ_=>[Z4T g.thr,.func (.func 56) [] []],R:=λ_=>.int .i64 (Za8 g.thr),body:=(by kernel_rfl),inj:=(λ_ _ _ _ _=>rfl),ok:=(λ_ _=>⟨rfl,Zkj g.thr hg.2.1.1 hg.2.1.2⟩) }] rfl
 have q:=p1 () trivial
 dsimp only at q
 clear p1
 obtain⟨ini,thr,frm,ord⟩:=g
 obtain⟨⟨i1,i2⟩,⟨t1,t2⟩,⟨f1,f2⟩,⟨o1,o2⟩⟩:=hg
 dsimp only at i1 i2 t1 t2 f1 f2 o1 o2 q
 unfold Z2X
 dsimp only
 rw[<- ZfU]
 generalize Za8 thr=x at *
 simp only[DGr.av,grC,rsI,Z4T,Z58]at q⊢
 generalize Z07 Z2b ini=X at *
 generalize Z07 (λx=>[rsE x]) thr=A at *
 generalize Z07 (λx=>[rsD x]) frm=B at *
 generalize Z07 (λx=>[rsD x]) ord=C at *
 have fin:∀b c:Bool,(b=c)->AV.bool b=AV.bool c:=λb c h=>by rw[h]
 by_cases c1:4<thr.length
 · have e1:decide ((thr.length:Int)>4)=true:=decide_eq_true (by omega)
   rw[decide_eq_true c1]
   refine Z0u (λg=>Y03 g 80) 2 follows Z0a hO Tryz.func39 rfl ?_
   repeat' ((conv=>whnf);first|refine stp ?_|with_reducible apply Z01<;>intro h)
   all_goals rfl
 have e1:decide ((thr.length:Int)>4)=false:=decide_eq_false (by omega)
 rw[decide_eq_false c1]
 by_cases c2:6<ini.length
 · have e2:decide ((ini.length:Int)>6)=true:=decide_eq_true (by omega)
   rw[decide_eq_true c2]
   refine Z0u (λg=>Y03 g 80) 2 follows Z0a hO Tryz.func39 rfl ?_
   repeat' ((conv=>whnf);first|refine stp ?_|with_reducible apply Z01<;>intro h)
   all_goals rfl
 have e2:decide ((ini.length:Int)>6)=false:=decide_eq_false (by omega)
 rw[decide_eq_false c2]
 refine Z0u (λg=>Y03 g 80) 2 follows Z0a hO Tryz.func39 rfl ?_
 repeat' ((conv=>whnf);first|with_reducible refine exI (q _) ?_|(refine Z0c (q _) ?_)|refine stp ?_|with_reducible apply Z01<;>intro h)
 all_goals rfl
end
end
section
abbrev tM:TypeId:=106
abbrev DT:Type:=DId×Int×Nat
def dmE:List DT->List (AV×AV×Nat)
 |[]=>[]
 |(d,v,n)::l=>(.agg (idC d),.int .i64 v,n)::dmE l
def Z2L:List DT->List (DId×Int)
 |[]=>[]
 |(d,v,n)::l=>(d,v)::Z2L l
theorem Zmn(m:List Nat):∀(n:List DT),EGe m (dmE n) (dmE n)
 |[]=>trivial
 |(s,v,k)::n=>⟨Wk.noref rfl,Wk.noref rfl,rfl,Zmn m n⟩
theorem Zjo:∀(a:List DT)(d:DId)(v:Int)(c:Nat),dmE (a++[(d,v,c)])=dmE a++[(.agg (idC d),.int .i64 v,c)]
 |[],d,v,c=>rfl
 |(x,w,n)::a,d,v,c=>by simp only[Y0w,dmE,Zjo a d v c]
theorem Z8E:∀(a:List DT)(d:DId)(v:Int)(c:Nat),Z2L (a++[(d,v,c)])=Z2L a++[(d,v)]
 |[],d,v,c=>rfl
 |(x,w,n)::a,d,v,c=>by simp only[Y0w,Z2L,Z8E a d v c]
theorem Zjm:∀a:List DT,(dmE a).length=(Z2L a).length
 |[]=>rfl
 |(x,w,n)::a=>by simp only[dmE,Z2L,Y02,Zjm a]
theorem Zjn:∀(a:List DT)(j:Nat),dmE (a.eraseIdx j)=(dmE a).eraseIdx j
 |[],j=>by cases j<;>rfl
 |(x,w,n)::a,0=>rfl
 |(x,w,n)::a,j+1=>by simp only[List.eraseIdx_cons_succ,dmE,Zjn a j]
theorem ZcG:∀(a:List DT)(j:Nat),Z2L (a.eraseIdx j)=(Z2L a).eraseIdx j
 |[],j=>by cases j<;>rfl
 |(x,w,n)::a,0=>rfl
 |(x,w,n)::a,j+1=>by simp only[List.eraseIdx_cons_succ,Z2L,ZcG a j]
theorem ZgK(a b:DId):(a.t==b.t&&(a.i==b.i&&true))=(b==a):=by
 obtain⟨a1,a2⟩:=a;obtain⟨b1,b2⟩:=b
 by_cases h:(⟨b1,b2⟩:DId)=⟨a1,a2⟩
 ·rw[h,beq_self_eq_true];simp only[DId.mk.injEq]at h;simp[h.1,h.2]
 · rw[beq_eq_false_iff_ne.2 h];simp only[DId.mk.injEq,not_and]at h
   by_cases h1:b1=a1
   ·have:=h h1;simp[h1];omega
   ·simp;intro h2;exact absurd h2.symm h1
theorem Zc0(d:DId):∀(a:List DT)(j:Nat),(Z2L a).findIdx? (λp=>p.1==d)=none->Z42 (.array 2 63) (.agg (idC d)) (dmE a) j=some none
 |[],j,h=>rfl
 |(x,w,n)::a,j,h=>by
  have h1:=Y0o.1 h (x,w) (by simp[Z2L])
  have e:Z7C (.array 2 63) (.agg (idC d)) (.agg (idC x))=some (d.t==x.t&&(d.i==x.i&&true)):=rfl
  simp only[dmE,Z42,e,ZgK]
  dsimp only at h1
  rw[h1]
  refine Zc0 d a (j+1) (Y0o.2 λp hp=>Y0o.1 h p ?_)
  simp[Z2L,hp]
theorem Z9a(d:DId):∀(a:List DT)(j k:Nat),(Z2L a).findIdx? (λp=>p.1==d)=some k->∃v,((Z2L a)[k]?).map (·.2)=some v/\Z42 (.array 2 63) (.agg (idC d)) (dmE a) j=some (some (j+k,.int .i64 v))
 |[],j,k,h=>by simp[Z2L]at h
 |(x,w,n)::a,j,k,h=>by
  have e:Z7C (.array 2 63) (.agg (idC d)) (.agg (idC x))=some (d.t==x.t&&(d.i==x.i&&true)):=rfl
  simp only[dmE,Z42,e,ZgK]
  simp only[Z2L,List.findIdx?_cons]at h
  cases hx:(x==d) with
  |true =>
   rw[hx]at h
   simp at h;subst h
   exact⟨w,rfl,rfl⟩
  |false =>
   rw[hx]at h
   simp only[Bool.false_eq_true,if_false,Option.map_eq_some_iff]at h
   obtain⟨k',h1,rfl⟩:=h
   obtain⟨v,h2,h3⟩:=Z9a d a (j+1) k' h1
   refine⟨v,by simpa[Z2L]using h2,?_⟩
   simp only
   rw[h3,show j+1+k'=j+(k'+1) by omega]
theorem ZmI:Z4G Y00 tM=some (.array 2 63,3):=by kernel_rfl
theorem ZmR:Z3C Y00 3=some (.int .i64 0):=by kernel_rfl
theorem Zmm {H : Z00} {b f c : Nat} {es : List DT} (d : DId) (v : Int) (hH : H[b]? = some ⟨true, f, 0, .map (dmE es) c⟩) (hl : Go.Abs.lone f b 0 H = true) (hnew : (Z2L es).findIdx? (fun p => p.1 == d) = none) :
  Z41 Y00 tM (.map b) (.agg (idC d)) (.int .i64 v) H=some (H.set b ⟨true,f,0,.map (dmE (es++[(d,v,c)])) (c+1)⟩):=by
 have hw:Z3G b f H=H:=Z9y hH hl
 unfold Z41
 simp only[ZmI,hH,Zc0 d es 0 hnew,hw,Zjo]
theorem Zdz {H : Z00} {b f c : Nat} {es : List DT} (d : DId) (hH : H[b]? = some ⟨true, f, 0, .map (dmE es) c⟩) (hno : (Z2L es).findIdx? (fun p => p.1 == d) = none) :
  Z29 Y00 tM (.map b) (.agg (idC d)) true H=some (.tuple [.int .i64 0,.bool false]):=by
 unfold Z29
 simp only[ZmI,ZfP,Z7c,hH,Zc0 d es 0 hno,ZmR]
 rfl
theorem Zdy {H : Z00} {b f c k : Nat} {es : List DT} (d : DId) {v : Int} (hH : H[b]? = some ⟨true, f, 0, .map (dmE es) c⟩) (hs : (Z2L es).findIdx? (fun p => p.1 == d) = some k) (hv : ((Z2L es)[k]?).map (·.2) = some v) :
  Z29 Y00 tM (.map b) (.agg (idC d)) true H=some (.tuple [.int .i64 v,.bool true]):=by
 obtain⟨v',h1,h2⟩:=Z9a d es 0 k hs
 rw[hv]at h1
 cases h1
 unfold Z29
 simp only[ZmI,ZfP,Z7c,hH,h2]
 rfl
theorem ZkM {H : Z00} {b f c k : Nat} {es : List DT} (d : DId) (hH : H[b]? = some ⟨true, f, 0, .map (dmE es) c⟩) (hl : Go.Abs.lone f b 0 H = true) (hs : (Z2L es).findIdx? (fun p => p.1 == d) = some k) :
  Z7D Y00 tM (.map b) (.agg (idC d)) H=some (H.set b ⟨true,f,0,.map (dmE (es.eraseIdx k)) c⟩):=by
 obtain⟨v',h1,h2⟩:=Z9a d es 0 k hs
 have hw:Z3G b f H=H:=Z9y hH hl
 unfold Z7D
 simp only[ZmI,hH,h2,hw,Zjn,Y0c]
theorem Z9w:∀(a b:List (List DEv))(t:Nat),Z14 t (a++b)=Z14 t a++Z14 (t+a.length) b
 |[],b,t=>by simp[Z14]
 |l::a,b,t=>by simp only[Y0w,Z14,Z9w a b (t+1),Y02,List.append_assoc];rw[show t+1+a.length=t+(a.length+1) by omega]
theorem Zcr(t:Nat):∀(a b:List DEv)(i:Nat),Z4W t i (a++b)=Z4W t i a++Z4W t (i+a.length) b
 |[],b,i=>by simp[Z4W]
 |e::a,b,i=>by
  simp only[Y0w,Z4W,Zcr t a b (i+1),Y02]
  rw[show i+1+a.length=i+(a.length+1) by omega]
  split<;>rfl
theorem ZdV(l:List (List DEv))(k:Nat)(h:k<l.length):Z14 0 (l.take (k+1))=Z14 0 (l.take k)++Z4W k 0 l[k]:=by
 rw[Y0I h,Z9w,List.length_take,Nat.min_eq_left (by omega),Y0c]
 simp[Z14]
theorem Zf1(t:Nat)(l:List DEv)(k:Nat)(h:k<l.length):Z4W t 0 (l.take (k+1))=Z4W t 0 (l.take k)++(if l[k].wr then [(⟨(t:Int)+1,k⟩,l[k].l)] else []):=by
 rw[Y0I h,Zcr,List.length_take,Nat.min_eq_left (by omega),Y0c]
 simp only[Z4W]
def ZaK(x:Nat)(ds:List DId)(os:List (List DId))(left:List (DId×Int)):Option (List (DId×Int)):=match Z2Q x ds left with
 |some l=>Z2c (x+1) os l
 |none=>none
theorem Ze4(x:Nat)(o:List DId)(os:List (List DId))(left:List (DId×Int)):Z2c x (o::os) left=ZaK x o os left:=rfl
theorem ZgP(x:Nat)(os:List (List DId))(left:List (DId×Int)):ZaK x [] os left=Z2c (x+1) os left:=rfl
theorem Z8q{x:Nat}{d:DId}(ds:List DId)(os:List (List DId)){left:List (DId×Int)}(h:Z4B left x d=none):ZaK x (d::ds) os left=none:=by
 unfold ZaK;simp only[Z2Q,h]
theorem ZeE{x:Nat}{d:DId}(ds:List DId)(os:List (List DId)){left l:List (DId×Int)}(h:Z4B left x d=some l):ZaK x (d::ds) os left=ZaK x ds os l:=by
 unfold ZaK;simp only[Z2Q,h]
end
section
section
variable {gl:Z0w}
def HM(gc:List AV)(es:List DT)(c:Nat):Z00:=[⟨true,0,0,.cells gc 33⟩,⟨true,1,0,.map (dmE es) c⟩]
theorem ZhI{t0 tm:Tr}{H:Z00}{l:List (Nat×AV)}{gc:List AV}{es:List DT}{c:Nat}(h:Z7Z t0 tm=true)(hg:refsL gc []=[])(hg0:H[0]? = some ⟨true,0,0,.cells gc 33⟩)(h0:H[1]? = some ⟨true,1,0,.map (dmE es) c⟩)(hsl:SlotsGe [0,1] tm l):FgL t0 tm H l (HM gc es c):=by
 refine FgL.mk [0,1] h hsl ⟨onOI hg0 ⟨rfl,rfl,rfl,rfl,Y06 (rest:=[]) (by rw[Y0g]) hg⟩,onOI h0 ⟨rfl,rfl,rfl,rfl,⟨rfl,Zmn _ _⟩⟩,trivial⟩ ?_
 simp only[List.map,Z0m,hg0,h0]
 rfl
theorem ZkS {orc : Orc} {ρ : Operand -> Option AV} {o : Oper} {H : Z00} {x y : Operand} {b f c k : Nat} {es : List DT} (d : DId) (ho : o.op = .call { callee := .builtin .delete, args := #[x, y], argTypes := #[tM, 63] }) (hx : ρ x = some (.map b)) (hy : ρ y = some (.agg (idC d)))
  (hH:H[b]? = some ⟨true,f,0,.map (dmE es) c⟩) (hl:Go.Abs.lone f b 0 H=true) (hs:(Z2L es).findIdx? (λp=>p.1==d)=some k):aop Y00 orc ρ o H=some (.tuple [],H.set b ⟨true,f,0,.map (dmE (es.eraseIdx k)) c⟩):=by
 have h1:=ZkM d hH hl hs
 have h2:Z0q Y00 ρ H o=none:=by simp[Z0q,Z2q,ho]
 have h3:Z7H Y00 ρ H o=some (.tuple [],H.set b ⟨true,f,0,.map (dmE (es.eraseIdx k)) c⟩):=by
  simp only[Z7H,ho,hx,hy,h1]
 unfold aop
 simp only[ho,callee,h2,h3]
def StA:Type:=Nat×List DT×Nat
theorem ZjM(g:DGr)(hg:okG g)(hs2:g.thr.length<=100)(hs3:g.ord.length<=100)(hs4:∀l∈g.thr,l.length<=100):ValOK Y00 gl 42 [g.av] (.bool (decide (Z2c 0 g.ord (Z14 0 g.thr)=some []))):=by
 obtain⟨O,hO,p1,-⟩:=fams (P:=Y00) (gl:=gl) [
  { I:=DEv,f:=58,G:=λ_=>True,A:=λe=>[.agg (evC e)],R:=λe=>.bool e.wr,body:=(by kernel_rfl),inj:=(λi j _ _ h=>by rw[Z1N i j (by simpa using h)]),ok:=(λe _=>⟨rfl,Zgc e⟩) }] rfl
 have q1:∀e:DEv,∀H,Z02 Y00 O H 58 [.agg (evC e)]=some (.bool e.wr,H):=λe=>p1 e trivial
 clear p1
 have hT:=λi (hi:i<g.thr.length)=>Z0f (f:=λx=>[rsE x]) (k:=1) (λ_=>rfl) g.thr i hi
 have hR:=λi (hi:i<g.ord.length)=>Z0f (f:=λx=>[rsD x]) (k:=1) (λ_=>rfl) g.ord i hi
 simp only[DGr.av,grC,rsI,Z4T,Z58]
 generalize Z07 Z2b g.ini=XI at *
 generalize Z07 (λx=>[rsE x]) g.thr=XT at *
 generalize Z07 (λx=>[rsD x]) g.frm=XF at *
 generalize Z07 (λx=>[rsD x]) g.ord=XO at *
 have hgr:refsL [AV.rs g.ini.length 1 XI,.rs g.thr.length 1 XT,.rs g.frm.length 1 XF,.rs g.ord.length 1 XO] []=[]:=rfl
 refine Z09 follows Z0a hO Tryz.func42 rfl ?_
 repeat' ((conv=>whnf);first|refine stp ?_|with_reducible apply Z01<;>intro h)
 conv=>whnf
 refine⟨StA,(λs=>s.1<=g.thr.length/\Z2L s.2.1=Z14 0 (g.thr.take s.1)/\(∀p∈Z2L s.2.1,p.1.t<=(s.1:Int))/\s.2.2<=100*s.1),(λs=>[(1,.ptr 0 0),(2,.bool false),(3,.map 1),(16,.rs g.thr.length 1 XT),(17,.int .i64 g.thr.length),(18,.int .i64 (s.1:Nat))]),(λs=>HM [AV.rs g.ini.length 1 XI,.rs g.thr.length 1 XT,.rs g.frm.length 1 XF,.rs g.ord.length 1 XO] s.2.1 s.2.2),(λs=>g.thr.length-s.1),⟨(0,[],0),⟨Y05 _,by simp[Z2L,Z14],by simp[Z2L],by simp⟩,?_⟩,?_⟩
 · refine ZhI rfl hgr rfl rfl ?_
   exact wks
 rintro⟨k,es,c⟩ ⟨hk,hes,hbd,hc⟩
 dsimp only at hk hes hbd hc⊢
 by_cases hlt:k<g.thr.length
 · have e1:decide ((k:Int)<(g.thr.length:Int))=true:=by simpa using hlt
   have hx:=hT k hlt
   simp only[HM]
   repeat' ((conv=>whnf);first|(with_reducible refine ixJ k rfl ?_ ?_;focus omega)|refine exI hx ?_|refine stp ?_|with_reducible apply Z01<;>intro h)
   conv=>whnf
   clear hx
   have hnext:=ZdV g.thr k hlt
   have hl4:=hs4 _ (Y08 hlt)
   generalize g.thr[k]=l at *
   have hL:=λi (hi:i<l.length)=>Z0f (f:=evC) (k:=5) (λ_=>rfl) l i hi
   generalize Z07 evC l=XL at *
   generalize Z14 0 (g.thr.take k)=W0 at *
   clear hT hR hg
   refine⟨StA,(λs=>s.1<=l.length/\Z2L s.2.1=W0++Z4W k 0 (l.take s.1)/\(∀p∈Z2L s.2.1,p.1.t<=(k:Int)\/p.1.t=(k:Int)+1/\p.1.i<(s.1:Int))/\s.2.2<=100*k+s.1),(λs=>[(1,.ptr 0 0),(2,.bool false),(3,.map 1),(4,.int .i64 (k:Nat)),(16,.rs g.thr.length 1 XT),(17,.int .i64 g.thr.length),(18,.int .i64 (k:Nat)),(23,.rs l.length 5 XL),(24,.int .i64 l.length),(25,.int .i64 (s.1:Nat))]),(λs=>HM [AV.rs g.ini.length 1 XI,.rs g.thr.length 1 XT,.rs g.frm.length 1 XF,.rs g.ord.length 1 XO] s.2.1 s.2.2),(λs=>l.length-s.1),⟨(0,es,c),⟨Y05 _,by simp[hes,Z4W],λp hp=>.inl (hbd p hp),hc⟩,?_⟩,?_⟩
   · refine ZhI rfl hgr rfl rfl ?_
     exact wks
   clear hes hbd hc
   rintro⟨i,es,c⟩ ⟨hi,hes,hbd,hc⟩
   dsimp only at hi hes hbd hc⊢
   by_cases hit:i<l.length
   · have e2:decide ((i:Int)<(l.length:Int))=true:=by simpa using hit
     have hx:=hL i hit
     have hn:=Zf1 k l i hit
     have qe:=q1 l[i]
     generalize l[i]=e at *
     have w1:IntKind.i64.wrap ((k:Int)+1)=(k:Int)+1:=Z1i (by omega) (by omega)
     have hnew:(Z2L es).findIdx? (λp=>p.1==(⟨(k:Int)+1,i⟩:DId))=none:=Y0o.2 λp hp=>by
      rw[beq_eq_false_iff_ne]
      intro h
      rcases hbd p hp with h1|⟨h1,h2⟩
      ·rw[h]at h1;dsimp only at h1;omega
      ·rw[h]at h2;dsimp only at h2;omega
     obtain⟨w,hw⟩:∃w,w=e.wr:=⟨_,rfl⟩
     rw[<- hw]at hn qe
     obtain⟨ek,el,eo,er,ew⟩:=e
     simp only[evC]at hx qe
     simp only[HM]
     cases w with
     |false =>
      repeat' ((conv=>whnf);first|with_reducible refine exI (qe _) ?_|(with_reducible refine exW w1 ?_)|(with_reducible refine ixJ i rfl ?_ ?_;focus omega)|refine exI hx ?_|refine stp ?_|with_reducible apply Z01<;>intro h)
      conv=>whnf
      refine⟨(i+1,es,c),⟨hit,?_,?_,?_⟩,by show l.length-(i+1)<l.length-i;omega,?_⟩
      ·rw[hn];simpa using hes
      · intro p hp
        rcases hbd p hp with h1|⟨h1,h2⟩
        ·exact .inl h1
        ·exact .inr ⟨h1,by show _<((i+1:Nat):Int);omega⟩
      ·show c<=_;omega
      (try dsimp only)
      refine ZhI rfl hgr rfl rfl ?_
      exact wks
     |true =>
      repeat' ((conv=>whnf);first|with_reducible refine exI (qe _) ?_|(with_reducible refine exW w1 ?_)|(with_reducible refine ixJ i rfl ?_ ?_;focus omega)|refine exI hx ?_|refine exI (Zmm (b:=1) (f:=1) (c:=c) (es:=es) (⟨(k:Int)+1,i⟩:DId) el rfl rfl hnew) ?_|refine stp ?_|with_reducible apply Z01<;>intro h)
      conv=>whnf
      refine⟨(i+1,es++[(⟨(k:Int)+1,i⟩,el,c)],c+1),⟨hit,?_,?_,?_⟩,by show l.length-(i+1)<l.length-i;omega,?_⟩
      · show Z2L (es++_)=_
        rw[hn,Z8E,hes];simp
      · intro p hp
        have hp:p∈Z2L (es++[(⟨(k:Int)+1,i⟩,el,c)]):=hp
        rw[Z8E,Y0f]at hp
        rcases hp with hp|hp
        · rcases hbd p hp with h1|⟨h1,h2⟩
          ·exact .inl h1
          ·exact .inr ⟨h1,by show _<((i+1:Nat):Int);omega⟩
        · simp only[Y0m]at hp
          subst hp
          exact .inr ⟨rfl,by show (i:Int)<((i+1:Nat):Int);omega⟩
      ·show c+1<=_;omega
      (try dsimp only)
      refine ZhI rfl hgr rfl rfl ?_
      exact wks
   have ei:i=l.length:=by omega
   subst ei
   have e2:decide (((l.length:Nat):Int)<(l.length:Int))=false:=decide_eq_false (by omega)
   simp only[HM]
   repeat' ((conv=>whnf);first|refine stp ?_|with_reducible apply Z01<;>intro h)
   conv=>whnf
   refine⟨(k+1,es,c),⟨hlt,?_,?_,?_⟩,by show g.thr.length-(k+1)<g.thr.length-k;omega,?_⟩
   · show Z2L es=_
     rw[hnext,hes,Y0J]
   · intro p hp
     rcases hbd p hp with h1|⟨h1,h2⟩
     ·show _<=((k+1:Nat):Int);omega
     ·show _<=((k+1:Nat):Int);omega
   ·show c<=_;omega
   (try dsimp only)
   refine ZhI rfl hgr rfl rfl ?_
   exact wks
 have ek:k=g.thr.length:=by omega
 subst ek
 have e1:decide (((g.thr.length:Nat):Int)<(g.thr.length:Int))=false:=decide_eq_false (by omega)
 simp only[HM]
 repeat' ((conv=>whnf);first|refine stp ?_|with_reducible apply Z01<;>intro h)
 conv=>whnf
 have h0:Z2c 0 (g.ord.drop 0) (Z2L es)=Z2c 0 g.ord (Z14 0 g.thr):=by rw[hes,Y0J,List.drop_zero]
 clear hes hbd
 generalize Z2c 0 g.ord (Z14 0 g.thr)=RR at *
 refine⟨StA,(λs=>s.1<=g.ord.length/\Z2c s.1 (g.ord.drop s.1) (Z2L s.2.1)=RR),(λs=>[(1,.ptr 0 0),(2,.bool false),(3,.map 1),(42,.rs g.ord.length 1 XO),(43,.int .i64 g.ord.length),(44,.int .i64 (s.1:Nat))]),(λs=>HM [AV.rs g.ini.length 1 XI,.rs g.thr.length 1 XT,.rs g.frm.length 1 XF,.rs g.ord.length 1 XO] s.2.1 s.2.2),(λs=>g.ord.length-s.1),⟨(0,es,c),⟨Y05 _,h0⟩,?_⟩,?_⟩
 · refine ZhI rfl hgr rfl rfl ?_
   exact wks
 clear h0 hT hc hlt e1
 clear es c
 rintro⟨k,es,c⟩ ⟨hk,hes⟩
 dsimp only at hk hes⊢
 by_cases hlt:k<g.ord.length
 · have e1:decide ((k:Int)<(g.ord.length:Int))=true:=by simpa using hlt
   have hx:=hR k hlt
   simp only[HM]
   repeat' ((conv=>whnf);first|(with_reducible refine ixJ k rfl ?_ ?_;focus omega)|refine exI hx ?_|refine stp ?_|with_reducible apply Z01<;>intro h)
   conv=>whnf
   clear hx
   have hll:g.ord[k].length<=9223372036854775807:=(hg.2.2.2.2 _ (Y08 hlt)).1
   rw[Y0p hlt,Ze4]at hes
   generalize g.ord[k]=l at *
   have hL:=λi (hi:i<l.length)=>Z0f (f:=idC) (k:=2) (λ_=>rfl) l i hi
   generalize Z07 idC l=XL at *
   clear hR hg
   refine⟨StA,(λs=>s.1<=l.length/\ZaK k (l.drop s.1) (g.ord.drop (k+1)) (Z2L s.2.1)=RR),(λs=>[(1,.ptr 0 0),(2,.bool false),(3,.map 1),(8,.int .i64 (k:Nat)),(42,.rs g.ord.length 1 XO),(43,.int .i64 g.ord.length),(44,.int .i64 (k:Nat)),(49,.rs l.length 2 XL),(50,.int .i64 l.length),(51,.int .i64 (s.1:Nat))]),(λs=>HM [AV.rs g.ini.length 1 XI,.rs g.thr.length 1 XT,.rs g.frm.length 1 XF,.rs g.ord.length 1 XO] s.2.1 s.2.2),(λs=>l.length-s.1),⟨(0,es,c),⟨Y05 _,hes⟩,?_⟩,?_⟩
   · refine ZhI rfl hgr rfl rfl ?_
     exact wks
   clear hes es c
   rintro⟨i,es,c⟩ ⟨hi,hes⟩
   dsimp only at hi hes⊢
   by_cases hit:i<l.length
   · have e2:decide ((i:Int)<(l.length:Int))=true:=by simpa using hit
     have hx:=hL i hit
     rw[Y0p hit]at hes
     generalize l[i]=d at *
     simp only[HM]
     cases hf:(Z2L es).findIdx? (λp=>p.1==d) with
     |none =>
      have hw:Z4B (Z2L es) k d=none:=by unfold Z4B;simp only[hf]
      rw[Z8q _ _ hw]at hes
      subst hes
      have hlk:=Zdz (b:=1) (f:=1) (c:=c) (H:=[⟨true,0,0,.cells [AV.rs g.ini.length 1 XI,.rs g.thr.length 1 XT,.rs g.frm.length 1 XF,.rs g.ord.length 1 XO] 33⟩,⟨true,1,0,.map (dmE es) c⟩]) d rfl hf
      simp only[idC]at hlk hx
      repeat' ((conv=>whnf);first|(with_reducible refine ixJ i rfl ?_ ?_;focus omega)|refine exI hx ?_|refine exI (Zdz (b:=1) (f:=1) (c:=c) (es:=es) d rfl hf) ?_|refine stp ?_|with_reducible apply Z01<;>intro h)
      all_goals rfl
     |some j =>
      obtain⟨v,hv,_⟩:=Z9a d es 0 j hf
      by_cases hvk:v=(k:Int)
      · have hw:Z4B (Z2L es) k d=some ((Z2L es).eraseIdx j):=by unfold Z4B;simp only[hf];rw[if_pos (by rw[hv,hvk])]
        rw[ZeE _ _ hw,<- ZcG]at hes
        have hn:(v != (k:Int))=false:=by simpa using hvk
        simp only[idC]at hx
        repeat' ((conv=>whnf);first|(with_reducible refine ixJ i rfl ?_ ?_;focus omega)|refine exI hx ?_|refine exI (Zdy (b:=1) (f:=1) (c:=c) (es:=es) d rfl hf hv) ?_|refine exI (ZkS (b:=1) (f:=1) (c:=c) (es:=es) d rfl rfl rfl rfl rfl hf) ?_|refine stp ?_|with_reducible apply Z01<;>intro h)
        conv=>whnf
        refine⟨(i+1,es.eraseIdx j,c),⟨hit,hes⟩,by show l.length-(i+1)<l.length-i;omega,?_⟩
        (try dsimp only)
        refine ZhI rfl hgr rfl rfl ?_
        have w1:IntKind.i64.wrap ((i:Int)+1)=((i+1:Nat):Int):=by rw[Z1i (by omega) (by omega)];rfl
        (repeat (first|exact trivial|refine stw ?_|refine And.intro (Wk.int w1) ?_))
      · have hw:Z4B (Z2L es) k d=none:=by unfold Z4B;simp only[hf];rw[if_neg (by rw[hv];simpa using hvk)]
        rw[Z8q _ _ hw]at hes
        subst hes
        have hn:(v != (k:Int))=true:=by simpa using hvk
        simp only[idC]at hx
        repeat' ((conv=>whnf);first|(with_reducible refine ixJ i rfl ?_ ?_;focus omega)|refine exI hx ?_|refine exI (Zdy (b:=1) (f:=1) (c:=c) (es:=es) d rfl hf hv) ?_|refine stp ?_|with_reducible apply Z01<;>intro h)
        all_goals rfl
   have ei:i=l.length:=by omega
   subst ei
   have e2:decide (((l.length:Nat):Int)<(l.length:Int))=false:=decide_eq_false (by omega)
   rw[Y0q,ZgP]at hes
   simp only[HM]
   repeat' ((conv=>whnf);first|refine stp ?_|with_reducible apply Z01<;>intro h)
   conv=>whnf
   refine⟨(k+1,es,c),⟨hlt,hes⟩,by show g.ord.length-(k+1)<g.ord.length-k;omega,?_⟩
   (try dsimp only)
   refine ZhI rfl hgr rfl rfl ?_
   exact wks
 have ek:k=g.ord.length:=by omega
 subst ek
 have e1:decide (((g.ord.length:Nat):Int)<(g.ord.length:Int))=false:=decide_eq_false (by omega)
 rw[Y0q]at hes
 simp only[Z2c]at hes
 subst hes
 have hdl:=Zjm es
 generalize Z2L es=m at *
 simp only[HM]
 repeat' ((conv=>whnf);first|refine stp ?_|with_reducible apply Z01<;>intro h)
 all_goals conv=>whnf
 show AV.bool _=AV.bool _
 rw[hdl]
 cases m<;>rfl
end
end
section
theorem Z5F(g:DGr)(t:Nat):∀(i:Nat)(l:List DEv)(f:List DId),Z1F g t i l f=true->f.length=l.length
 |_,[],[],_=>rfl
 |_,[],_::_,h=>by simp[Z1F]at h
 |_,_::_,[],h=>by simp[Z1F]at h
 |i,e::l,f::fs,h=>by
  simp only[Z1F,Y0e]at h
  simp[Z5F g t (i+1) l fs h.2]
theorem Z8S{g:DGr}(h:Z2X g=false):g.thr.length<=4/\g.ini.length<=6/\∀l∈g.thr,l.length<=14:=by
 unfold Z2X at h
 simp only[Bool.or_eq_false_iff,decide_eq_false_iff_not,Nat.not_lt]at h
 refine⟨h.1.1,h.1.2,λl hl=>?_⟩
 have:=List.any_eq_false.1 h.2 l hl
 simp at this;exact this
theorem Znh(g:DGr)(k i:Nat)(hk:k<g.thr.length)(hi:i<g.thr[k].length):g.ev ⟨(k:Int)+1,i⟩=some g.thr[k][i]:=by
 unfold DGr.ev
 have h1:((k:Int)+1).toNat-1=k:=by omega
 have h2:(i:Int).toNat=i:=by omega
 simp only
 rw[if_neg (by omega),if_neg (by omega),h1,h2,Y0h hk]
 simp only
 rw[Y0h hi]
theorem Zfg(g:DGr)(k i:Nat)(hk:k<g.thr.length)(hi:i<g.thr[k].length)(f:DId):ZcH g ⟨(k:Int)+1,i⟩ f=ZeS g ⟨(k:Int)+1,i⟩ g.thr[k][i] f:=by
 unfold ZcH;rw[Znh g k i hk hi];rfl
def HG(gc:List AV):Z00:=[⟨true,0,0,.cells gc 33⟩]
theorem Z65{t0 tm:Tr}{H:Z00}{l:List (Nat×AV)}{gc:List AV}(h:Z7Z t0 tm=true)(hg:refsL gc []=[])(hg0:H[0]? = some ⟨true,0,0,.cells gc 33⟩)(hsl:SlotsGe [0] tm l):FgL t0 tm H l (HG gc):=by
 refine FgL.mk [0] h hsl ⟨onOI hg0 ⟨rfl,rfl,rfl,rfl,Y06 (rest:=[]) (by rw[Y0g]) hg⟩,trivial⟩ ?_
 simp only[List.map,Z0m,hg0]
 rfl
def Zkp(g:DGr)(b:Bool):Int:=if (b&&decide (Z2c 0 g.ord (Z14 0 g.thr)=some []))=true then 0 else 2
section
variable {gl:Z0w}
theorem Z9b(g:DGr)(hg:okG g):ValOK Y00 gl 27 [g.av] (.int .i64 (Z0e g)):=by
 by_cases hlong:Z2X g=true
 · obtain ⟨O, hO, p1, -⟩ := fams (P := Y00) (gl := gl) [
    { I:=Unit,f:=39,G:=λ_=>True,A:=λ_=>[g.av],R:=λ_=>.bool (Z2X g),body:=(by kernel_rfl),inj:=(λ_ _ _ _ _=>rfl),ok:=(λ_ _=>⟨rfl,ZbG g hg⟩) }] rfl
   have q1:∀H,Z02 Y00 O H 39 [g.av]=some (.bool (Z2X g),H):=p1 () trivial
   have e0:Z0e g=3:=by unfold Z0e;rw[if_pos hlong]
   rw[hlong]at q1
   rw[e0]
   clear p1 hlong e0 hg
   simp only[DGr.av,grC,rsI,Z4T,Z58]at q1⊢
   refine Z09 follows Z0a hO Y0A rfl ?_
   repeat' ((conv=>whnf);first|with_reducible refine exI (q1 _) ?_|refine stp ?_|with_reducible apply Z01<;>intro h)
   all_goals rfl
 have hlong:Z2X g=false:=by simpa using hlong
 obtain⟨s1,s2,s3⟩:=Z8S hlong
 by_cases hfl:g.frm.length=g.thr.length/\g.ord.length=g.ini.length
 rotate_left
 · obtain ⟨O, hO, p1, -⟩ := fams (P := Y00) (gl := gl) [
    { I:=Unit,f:=39,G:=λ_=>True,A:=λ_=>[g.av],R:=λ_=>.bool (Z2X g),body:=(by kernel_rfl),inj:=(λ_ _ _ _ _=>rfl),ok:=(λ_ _=>⟨rfl,ZbG g hg⟩) }] rfl
   have q1:∀H,Z02 Y00 O H 39 [g.av]=some (.bool (Z2X g),H):=p1 () trivial
   clear p1
   have e0:Z0e g=2:=by
    unfold Z0e Zan
    rw[hlong]
    have:(g.frm.length==g.thr.length&&g.ord.length==g.ini.length)=false:=by
     by_cases h1:g.frm.length=g.thr.length
     · have:¬g.ord.length=g.ini.length:=λh=>hfl ⟨h1,h⟩
       simp[this]
     ·simp[h1]
    rw[this];rfl
   rw[hlong]at q1
   rw[e0]
   clear e0
   simp only[DGr.av,grC,rsI,Z4T,Z58]at q1⊢
   generalize Z07 Z2b g.ini=XI at *
   generalize Z07 (λx=>[rsE x]) g.thr=XT at *
   generalize Z07 (λx=>[rsD x]) g.frm=XF at *
   generalize Z07 (λx=>[rsD x]) g.ord=XO at *
   by_cases h1:g.frm.length=g.thr.length
   · have n1:((g.frm.length:Int) != (g.thr.length:Int))=false:=by rw[h1];simp
     have n2:((g.ord.length:Int) != (g.ini.length:Int))=true:=by
      have:¬g.ord.length=g.ini.length:=λh=>hfl ⟨h1,h⟩
      simp;omega
     refine Z09 follows Z0a hO Y0A rfl ?_
     repeat' ((conv=>whnf);first|with_reducible refine exI (q1 _) ?_|refine stp ?_|with_reducible apply Z01<;>intro h)
     all_goals rfl
   · have n1:((g.frm.length:Int) != (g.thr.length:Int))=true:=by simp;omega
     refine Z09 follows Z0a hO Y0A rfl ?_
     repeat' ((conv=>whnf);first|with_reducible refine exI (q1 _) ?_|refine stp ?_|with_reducible apply Z01<;>intro h)
     all_goals rfl
 obtain⟨hfl,hol⟩:=hfl
 have e0:Z0e g=Zkp g (Z0V g 0 g.thr g.frm):=by
  unfold Z0e Zan Zkp
  rw[if_neg (by rw[hlong];decide),hfl,hol]
  simp
 rw[e0]
 obtain⟨O,hO,p1,p2,p3,p4,-⟩:=fams (P:=Y00) (gl:=gl) [
  { I:=Unit,f:=39,G:=λ_=>True,A:=λ_=>[g.av],R:=λ_=>.bool (Z2X g),body:=(by kernel_rfl),inj:=(λ_ _ _ _ _=>rfl),ok:=(λ_ _=>⟨rfl,ZbG g hg⟩) },
  { I:=DEv,f:=40,G:=λ_=>True,A:=λe=>[.agg (evC e),.int .i64 g.ini.length],R:=λe=>.bool (Z3l g.ini.length e),body:=(by kernel_rfl),inj:=(λi j _ _ h=>by rw[Z1N i j (by simpa using h)]),ok:=(λe _=>⟨rfl,Zip e _ (by omega)⟩) },
  { I:=DId×DId,f:=41,G:=λx=>okD x.1/\okD x.2,A:=λx=>[g.av,.agg (idC x.1),.agg (idC x.2)],R:=λx=>.bool (ZcH g x.1 x.2),body:=(by kernel_rfl),inj:=(λi j _ _ h=>by obtain⟨a,b⟩:=i;obtain⟨a',b'⟩:=j;simp only[List.cons.injEq,AV.agg.injEq,and_true,true_and]at h;rw[Z3S a a' h.1,Z3S b b' h.2]),ok:=(λx h=>⟨rfl,Zkn g hg _ _ h.1 h.2⟩) },
  { I:=Unit,f:=42,G:=λ_=>True,A:=λ_=>[g.av],R:=λ_=>.bool (decide (Z2c 0 g.ord (Z14 0 g.thr)=some [])),body:=(by kernel_rfl),inj:=(λ_ _ _ _ _=>rfl),ok:=(λ_ _=>⟨rfl,ZjM g hg (by omega) (by omega) (λl hl=>by have:=s3 l hl;omega)⟩) }] rfl
 have q1:∀H,Z02 Y00 O H 39 [g.av]=some (.bool (Z2X g),H):=p1 () trivial
 have q2:∀e H,Z02 Y00 O H 40 [.agg (evC e),.int .i64 g.ini.length]=some (.bool (Z3l g.ini.length e),H):=λe H=>p2 e trivial H
 have q3:∀d f,okD d->okD f->∀H,Z02 Y00 O H 41 [g.av,.agg (idC d),.agg (idC f)]=some (.bool (ZcH g d f),H):=λd f h1 h2 H=>p3 (d,f) ⟨h1,h2⟩ H
 have q4:∀H,Z02 Y00 O H 42 [g.av]=some (.bool (decide (Z2c 0 g.ord (Z14 0 g.thr)=some [])),H):=p4 () trivial
 rw[hlong]at q1
 clear p1 p2 p3 p4
 have hT:=λi (hi:i<g.thr.length)=>Z0f (f:=λx=>[rsE x]) (k:=1) (λ_=>rfl) g.thr i hi
 have hF:=λi (hi:i<g.frm.length)=>Z0f (f:=λx=>[rsD x]) (k:=1) (λ_=>rfl) g.frm i hi
 simp only[DGr.av,grC,rsI,Z4T,Z58]at q1 q3 q4⊢
 generalize Z07 Z2b g.ini=XI at *
 generalize Z07 (λx=>[rsE x]) g.thr=XT at *
 generalize Z07 (λx=>[rsD x]) g.frm=XF at *
 generalize Z07 (λx=>[rsD x]) g.ord=XO at *
 have n1:((g.frm.length:Int) != (g.thr.length:Int))=false:=by rw[hfl];simp
 have n2:((g.ord.length:Int) != (g.ini.length:Int))=false:=by rw[hol];simp
 refine Z09 follows Z0a hO Y0A rfl ?_
 repeat' ((conv=>whnf);first|with_reducible refine exI (q1 _) ?_|refine stp ?_|with_reducible apply Z01<;>intro h)
 conv=>whnf
 have hgr:refsL [AV.rs g.ini.length 1 XI,.rs g.thr.length 1 XT,.rs g.frm.length 1 XF,.rs g.ord.length 1 XO] []=[]:=rfl
 obtain⟨R1,hR1⟩:∃b,b=Z0V g 0 g.thr g.frm:=⟨_,rfl⟩
 rw[<- hR1]
 refine⟨Nat,(λk=>k<=g.thr.length/\Z0V g k (g.thr.drop k) (g.frm.drop k)=R1),(λk=>[(1,.ptr 0 0),(2,.int .i64 0),(26,.rs g.thr.length 1 XT),(27,.int .i64 g.thr.length),(28,.int .i64 (k:Nat))]),(λk=>HG [AV.rs g.ini.length 1 XI,.rs g.thr.length 1 XT,.rs g.frm.length 1 XF,.rs g.ord.length 1 XO]),(λk=>g.thr.length-k),⟨0,⟨Y05 _,hR1.symm⟩,?_⟩,?_⟩
 · refine Z65 rfl hgr rfl ?_
   exact wks
 clear hR1 e0 q1
 rintro k ⟨hk,hr⟩
 dsimp only at hk hr⊢
 by_cases hlt:k<g.thr.length
 · have e1:decide ((k:Int)<(g.thr.length:Int))=true:=by simpa using hlt
   have hlf:k<g.frm.length:=by omega
   have hx:=hT k hlt
   have hxf:=hF k hlf
   have hs3:=s3 _ (Y08 hlt)
   have okf:=(hg.2.2.1.2 _ (Y08 hlf)).2
   have okl:=(hg.2.2.1.2 _ (Y08 hlf)).1
   rw[Y0p hlt,Y0p hlf]at hr
   simp only[Z0V]at hr
   have hsrc:=Zfg g k
   have okl:g.frm[k].length<=9223372036854775807:=okl
   have hsrc:∀(i:Nat)(hi:i<g.thr[k].length)(f:DId),ZcH g ⟨(k:Int)+1,i⟩ f=ZeS g ⟨(k:Int)+1,i⟩ g.thr[k][i] f:=λi hi f=>hsrc i hlt hi f
   generalize g.thr[k]=l at *
   generalize g.frm[k]=f at *
   have hx':tk 1 (List.drop (k*1) XT)=some [.rs l.length 5 (Z07 evC l)]:=hx
   have hxf':tk 1 (List.drop (k*1) XF)=some [.rs f.length 2 (Z07 idC f)]:=hxf
   clear hx hxf hT hF
   have hL:=λi (hi:i<l.length)=>Z0f (f:=evC) (k:=5) (λ_=>rfl) l i hi
   have hD:=λi (hi:i<f.length)=>Z0f (f:=idC) (k:=2) (λ_=>rfl) f i hi
   generalize Z07 evC l=XL at *
   generalize Z07 idC f=XD at *
   simp only[HG]
   by_cases hlen:f.length=l.length
   rotate_left
   · have n3:((f.length:Int) != (l.length:Int))=true:=by simp;omega
     have hr2:R1=false:=by
      rw[<- hr]
      have:Z1F g k 0 l f=false:=by
       rw[Y0x];intro h;exact hlen (Z5F g k 0 l f h)
      rw[this];rfl
     subst hr2
     repeat' ((conv=>whnf);first|(with_reducible refine ixJ k rfl ?_ ?_;focus omega)|(refine exI hx' ?_)|(refine exI hxf' ?_)|refine stp ?_|with_reducible apply Z01<;>intro h)
     all_goals rfl
   have n3:((f.length:Int) != (l.length:Int))=false:=by rw[hlen];simp
   repeat' ((conv=>whnf);first|(with_reducible refine ixJ k rfl ?_ ?_;focus omega)|(refine exI hx' ?_)|(refine exI hxf' ?_)|refine stp ?_|with_reducible apply Z01<;>intro h)
   conv=>whnf
   generalize hRs:Z0V g (k+1) (g.thr.drop (k+1)) (g.frm.drop (k+1))=RS at *
   clear hx' n3
   refine⟨Nat,(λi=>i<=l.length/\(Z1F g k i (l.drop i) (f.drop i)&&RS)=R1),(λi=>[(1,.ptr 0 0),(2,.int .i64 0),(3,.int .i64 (k:Nat)),(26,.rs g.thr.length 1 XT),(27,.int .i64 g.thr.length),(28,.int .i64 (k:Nat)),(42,.rs l.length 5 XL),(43,.int .i64 l.length),(44,.int .i64 (i:Nat))]),(λi=>HG [AV.rs g.ini.length 1 XI,.rs g.thr.length 1 XT,.rs g.frm.length 1 XF,.rs g.ord.length 1 XO]),(λi=>l.length-i),⟨0,⟨Y05 _,hr⟩,?_⟩,?_⟩
   · refine Z65 rfl hgr rfl ?_
     exact wks
   clear hr
   rintro i ⟨hi,hr⟩
   dsimp only at hi hr⊢
   by_cases hit:i<l.length
   · have e2:decide ((i:Int)<(l.length:Int))=true:=by simpa using hit
     have hif:i<f.length:=by omega
     have hx1:=hL i hit
     have hx2:=hD i hif
     rw[Y0p hit,Y0p hif]at hr
     simp only[Z1F]at hr
     have okd:=okf _ (Y08 hif)
     have w1:IntKind.i64.wrap ((k:Int)+1)=(k:Int)+1:=Z1i (by omega) (by omega)
     have okid:okD ⟨(k:Int)+1,i⟩:=⟨⟨by show -9223372036854775808<=(k:Int)+1;omega,by show (k:Int)+1<=_;omega⟩,⟨by show -9223372036854775808<=(i:Int);omega,by show (i:Int)<=_;omega⟩⟩
     have q2e:=q2 l[i]
     have q3e:=q3 ⟨(k:Int)+1,i⟩ f[i] okid okd
     rw[hsrc i hit]at q3e
     generalize l[i]=e at *
     generalize f[i]=d at *
     generalize Z3l g.ini.length e=b1 at *
     generalize ZeS g ⟨(k:Int)+1,i⟩ e d=b2 at *
     simp only[evC,idC]at hx1 hx2 q2e q3e
     simp only[HG]
     clear hL hD q2 q3 hsrc okf
     cases b1 with
     |false =>
      have hr2:R1=false:=hr.symm
      subst hr2
      repeat' ((conv=>whnf);first|with_reducible refine exI (q2e _) ?_|(with_reducible refine ixJ i rfl ?_ ?_;focus omega)|refine exI hx1 ?_|refine stp ?_|with_reducible apply Z01<;>intro h)
      all_goals rfl
     |true =>
      cases b2 with
      |false =>
       have hr2:R1=false:=hr.symm
       subst hr2
       repeat' ((conv=>whnf);first|with_reducible refine exI (q2e _) ?_|with_reducible refine exI (q3e _) ?_|(with_reducible refine exW w1 ?_)|(with_reducible refine ixJ i rfl ?_ ?_;focus omega)|(with_reducible refine ixJ k rfl ?_ ?_;focus omega)|refine exI hx1 ?_|refine exI hx2 ?_|(refine exI hxf' ?_)|refine stp ?_|with_reducible apply Z01<;>intro h)
       all_goals rfl
      |true =>
       simp only[Y0n]at hr
       repeat' ((conv=>whnf);first|with_reducible refine exI (q2e _) ?_|with_reducible refine exI (q3e _) ?_|(with_reducible refine exW w1 ?_)|(with_reducible refine ixJ i rfl ?_ ?_;focus omega)|(with_reducible refine ixJ k rfl ?_ ?_;focus omega)|refine exI hx1 ?_|refine exI hx2 ?_|(refine exI hxf' ?_)|refine stp ?_|with_reducible apply Z01<;>intro h)
       conv=>whnf
       refine⟨i+1,⟨hit,hr⟩,by show l.length-(i+1)<l.length-i;omega,?_⟩
       (try dsimp only)
       refine Z65 rfl hgr rfl ?_
       exact wks
   have ei:i=l.length:=by omega
   subst ei
   have e2:decide (((l.length:Nat):Int)<(l.length:Int))=false:=decide_eq_false (by omega)
   rw[Y0q,<- hlen,Y0q]at hr
   simp only[HG]
   repeat' ((conv=>whnf);first|refine stp ?_|with_reducible apply Z01<;>intro h)
   conv=>whnf
   refine⟨k+1,⟨hlt,hRs.trans hr⟩,by show g.thr.length-(k+1)<g.thr.length-k;omega,?_⟩
   (try dsimp only)
   refine Z65 rfl hgr rfl ?_
   exact wks
 have ek:k=g.thr.length:=by omega
 subst ek
 have e1:decide (((g.thr.length:Nat):Int)<(g.thr.length:Int))=false:=decide_eq_false (by omega)
 rw[Y0q,<- hfl,Y0q]at hr
 have hr:R1=true:=hr.symm
 subst hr
 unfold Zkp
 simp only[Y0n]
 generalize decide (Z2c 0 g.ord (Z14 0 g.thr)=some [])=b at *
 simp only[HG]
 cases b
 · repeat' ((conv=>whnf);first|with_reducible refine exI (q4 _) ?_|refine stp ?_|with_reducible apply Z01<;>intro h)
   all_goals rfl
 · repeat' ((conv=>whnf);first|with_reducible refine exI (q4 _) ?_|refine stp ?_|with_reducible apply Z01<;>intro h)
   all_goals rfl
end
end
section
theorem Zmv{g:DGr}(h:Z0e g=0):Z2X g=false/\Zan g=true:=by
 unfold Z0e at h
 split at h
 ·cases h
 · rename_i h1
   split at h
   ·rename_i h2;exact⟨by simpa using h1,h2⟩
   ·cases h
theorem Zew{g:DGr}(h:Zan g=true):g.frm.length=g.thr.length/\g.ord.length=g.ini.length/\Z0V g 0 g.thr g.frm=true/\Z2c 0 g.ord (Z14 0 g.thr)=some []:=by
 unfold Zan at h
 simp only[Y0e,beq_iff_eq,decide_eq_true_eq]at h
 exact⟨h.1.1.1,h.1.1.2,h.1.2,h.2⟩
theorem Z85(g:DGr):∀(ls:List (List DEv))(fs:List (List DId))(t:Nat),Z0V g t ls fs=true->∀k (h:k<ls.length) (h':k<fs.length),Z1F g (t+k) 0 ls[k] fs[k]=true
 |[],_,_,_,k,h,_=>by simp at h
 |l::ls,[],_,_,k,_,h=>by simp at h
 |l::ls,f::fs,t,h,k,hk,hk'=>by
  simp only[Z0V,Y0e]at h
  cases k with
  |zero=>exact h.1
  |succ k =>
   rw[show t+(k+1)=t+1+k by omega]
   exact Z85 g ls fs (t+1) h.2 k (by simpa using hk) (by simpa using hk')
theorem Zfd{left l:List (DId×Int)}{x:Nat}{d:DId}(h:Z4B left x d=some l):l.length+1=left.length:=by
 unfold Z4B at h
 split at h
 · rename_i j hj
   split at h
   · cases h
     obtain⟨hj',_⟩:=Y0H.1 hj
     rw[List.length_eraseIdx_of_lt hj'];omega
   ·cases h
 ·cases h
theorem Z7Y(x:Nat):∀(ds:List DId)(left l:List (DId×Int)),Z2Q x ds left=some l->l.length+ds.length=left.length
 |[],left,l,h=>by simp only[Z2Q,Option.some.injEq]at h;rw[h];rfl
 |d::ds,left,l,h=>by
  simp only[Z2Q]at h
  split at h
  · rename_i m hm
    have h1:=Zfd hm
    have h2:=Z7Y x ds m l h
    rw[Y02];omega
  ·cases h
theorem Z9I:∀(os:List (List DId))(x:Nat)(left l:List (DId×Int)),Z2c x os left=some l->l.length+(os.map List.length).sum=left.length
 |[],x,left,l,h=>by simp only[Z2c,Option.some.injEq]at h;rw[h];rfl
 |o::os,x,left,l,h=>by
  simp only[Z2c]at h
  split at h
  · rename_i m hm
    have h1:=Z7Y x o left m hm
    have h2:=Z9I os (x+1) m l h
    rw[List.map_cons,List.sum_cons];omega
  ·cases h
theorem Zcq(t:Nat):∀(l:List DEv)(i:Nat),(Z4W t i l).length<=l.length
 |[],i=>Y01 _
 |e::l,i=>by
  have:=Zcq t l (i+1)
  simp only[Z4W]
  split<;>simp only[Y02]<;>omega
theorem Z9v:∀(ls:List (List DEv))(t:Nat),(∀l∈ls,l.length<=14)->(Z14 t ls).length<=14*ls.length
 |[],t,_=>Y01 _
 |l::ls,t,h=>by
  have h1:=Z9v ls (t+1) λm hm=>h m (by simp[hm])
  have h2:=Zcq t l 0
  have h3:=h l (by simp)
  simp only[Z14,Y07,Y02];omega
theorem ZfM{o:List DId}:∀{os:List (List DId)},o∈os->o.length<=(os.map List.length).sum
 |[],h=>by cases h
 |p::os,h=>by
  rw[List.map_cons,List.sum_cons]
  rcases Y0s.1 h with rfl|h
  ·omega
  ·have:=ZfM h;omega
theorem Z5h(l:List (List UInt8)):(Z0s l).length<=Z2u l+1:=by
 unfold Z0s
 have:=Z2k l
 rw[Y07]
 exact Nat.add_le_add_right this _
theorem Za9:∀(l:List Int)(x:Nat),(∀n∈l,rgI n)->x+l.length<=1000->(Z2o x l).length<=60*l.length
 |[],x,_,_=>Y01 _
 |v::l,x,h,hx=>by
  rw[Y02]at hx
  have h1:=Za9 l (x+1) (λn hn=>h n (by simp[hn])) (by omega)
  have h2:=Z0N (h v (by simp))
  have h3:=Z0N (n:=(x:Int)) ⟨by omega,by omega⟩
  have h4:=Z5h [Z23,Z0g x,Z0g v]
  simp only[Z2u,Z23,Y02,Y0a]at h4
  simp only[Z2o,Y07,Y02]
  have e:Z0s [Z23,Z0g x,Z0g v]=Z0s [[108,111,99],Z0g x,Z0g v]:=rfl
  rw[e]
  omega
theorem Zdo(t:Nat)(ht:t<=1000):∀(l:List DEv)(f:List DId)(i:Nat),(∀e∈l,okV e)->(∀d∈f,okD d)->i+l.length<=1000->(Z3I t i l f).length<=210*l.length
 |[],f,i,_,_,_=>by simp[Z3I]
 |e::l,[],i,_,_,_=>by simp[Z3I]
 |e::l,d::f,i,h,h',hi=>by
  rw[Y02]at hi
  have h1:=Zdo t ht l f (i+1) (λn hn=>h n (by simp[hn])) (λn hn=>h' n (by simp[hn])) (by omega)
  have h2:=ZgB e (h e (by simp))
  have h3:=Zar e d (h' d (by simp))
  have h4:=Z8X ⟨(t:Int)+1,i⟩ ⟨⟨by show -9223372036854775808<=(t:Int)+1;omega,by show (t:Int)+1<=_;omega⟩,⟨by show -9223372036854775808<=(i:Int);omega,by show (i:Int)<=_;omega⟩⟩
  have h5:=Z5h [Z0k,idT ⟨(t:Int)+1,i⟩,evT e,Z2f e d]
  simp only[Z3I,Y07,Y02]
  have e1:Z2u [Z0k,idT ⟨(t:Int)+1,i⟩,evT e,Z2f e d]=5+1+((idT ⟨(t:Int)+1,i⟩).length+1+((evT e).length+1+((Z2f e d).length+1+0))):=rfl
  rw[e1]at h5
  omega
theorem Z9E:∀(ls:List (List DEv))(fs:List (List DId))(t:Nat),(∀l∈ls,l.length<=14/\∀e∈l,okV e)->(∀f∈fs,∀d∈f,okD d)->t+ls.length<=1000->(Z1q t ls fs).length<=2940*ls.length
 |[],fs,t,_,_,_=>by simp[Z1q]
 |l::ls,[],t,_,_,_=>by simp[Z1q]
 |l::ls,f::fs,t,h,h',ht=>by
  rw[Y02]at ht
  have h1:=Z9E ls fs (t+1) (λn hn=>h n (by simp[hn])) (λn hn=>h' n (by simp[hn])) (by omega)
  have h0:=h l (by simp)
  have h2:=Zdo t (by omega) l f 0 h0.2 (h' f (by simp)) (by omega)
  simp only[Z1q,Y07,Y02]
  omega
theorem Z9Z:∀(os:List (List DId))(x:Nat),(∀o∈os,∀d∈o,okD d)->x+os.length<=1000->(Z1Y x os).length<=40*os.length+44*(os.map List.length).sum
 |[],x,_,_=>by simp[Z1Y]
 |o::os,x,h,hx=>by
  rw[Y02]at hx
  have h1:=Z9Z os (x+1) (λn hn=>h n (by simp[hn])) (by omega)
  have h2:=Z8W o (h o (by simp))
  have h3:=Z0N (n:=(x:Int)) ⟨by omega,by omega⟩
  have h4:=Z2k (o.map idT)
  have h5:=Z5h [Z0d,Z0g x,Z0v (o.map idT)]
  have e1:Z2u [Z0d,Z0g x,Z0v (o.map idT)]=5+1+((Z0g (x:Int)).length+1+((Z0v (o.map idT)).length+1+0)):=rfl
  rw[e1]at h5
  simp only[Z1Y,Y07,Y02,List.map_cons,List.sum_cons]
  omega
structure Rt (g:DGr):Prop where
 ok:okG g
 fl:g.frm.length=g.thr.length
 ol:g.ord.length=g.ini.length
 fe:∀k (h:k<g.thr.length) (h':k<g.frm.length),g.frm[k].length=g.thr[k].length
 s1:g.ini.length<=6
 s2:g.thr.length<=4
 s4:∀l∈g.thr,l.length<=14
 os:(g.ord.map List.length).sum<=56
 rt:Z0V g 0 g.thr g.frm=true
 tk:Z2c 0 g.ord (Z14 0 g.thr)=some []
theorem Z9P{g:DGr}(hg:okG g)(h:Z0e g=0):Rt g:=by
 obtain⟨h1,h2⟩:=Zmv h
 obtain⟨s1,s2,s3⟩:=Z8S h1
 obtain⟨g1,g2,g3,g4⟩:=Zew h2
 refine⟨hg,g1,g2,λk h h'=>Z5F _ _ _ _ _ (Z85 g _ _ 0 g3 k h h'),s2,s1,s3,?_,g3,g4⟩
 have h5:=Z9I _ _ _ _ g4
 have h6:=Z9v g.thr 0 s3
 simp only[Y0a,Y0c]at h5
 omega
theorem Z6V{g:DGr}(h:Rt g):(Z0y g).length<=20000:=by
 have h1:=Za9 g.ini 0 h.ok.1.2 (by have:=h.s1;omega)
 have h2:=Z9E g.thr g.frm 0 (λl hl=>⟨h.s4 l hl,(h.ok.2.1.2 l hl).2⟩) (λf hf=>(h.ok.2.2.1.2 f hf).2) (by have:=h.s2;omega)
 have h3:=Z9Z g.ord 0 (λo ho=>(h.ok.2.2.2.2 o ho).2) (by have:=h.ol;have:=h.s1;omega)
 have h4:=Z5h [Z0j,Z0g g.thr.length]
 have e1:Z2u [Z0j,Z0g g.thr.length]=5+1+((Z0g g.thr.length).length+1+0):=rfl
 have h5:=Z0N (n:=(g.thr.length:Int)) ⟨by omega,by have:=h.s2;omega⟩
 have e4:(Z0s [Z16]).length=4:=by decide
 unfold Z0y
 simp only[Y07,e4]
 have a1:=h.s1
 have a2:=h.s2
 have a3:=h.os
 have a4:=h.ol
 rw[e1]at h4
 omega
theorem ZiP{g:DGr}(h:Rt g):TxG g:=⟨h.ok,h.fl,h.fe,λo ho=>by have:=ZfM ho;have:=h.os;omega,by have:=h.s1;omega,by have:=h.s2;omega,by have:=h.ol;have:=h.s1;omega,λl hl=>by have:=h.s4 l hl;omega,by have:=Z6V h;omega⟩
end
section
theorem Znz{t0 tm:Tr}{H:Z00}{l:List (Nat×AV)}{c fc n:Nat}{cs:List AV}{s:List UInt8}(h:Z7Z t0 tm=true)(hs:s≠[])(h0:H[0]? = some ⟨true,0,0,.cells [.ptr 0 0,.slice c 0 n n 1] tS⟩)(h1:H[c]? = some ⟨true,fc,0,.cells cs tB⟩)(en:n=s.length)(ec:cs=byt s)(hn:Y03 0 fc=false)(hsl:SlotsGe [0,c] tm l):FgL t0 tm H l (BH tS tB s):=by
 subst en ec
 obtain⟨x,r,rfl⟩:∃x r,s=x::r:=by cases s with|nil=>exact absurd rfl hs|cons x r=>exact⟨x,r,rfl⟩
 refine FgL.mk [0,c] h hsl ⟨onOI h0 ⟨rfl,rfl,rfl,rfl,Y0r ⟨Wk.ptr rfl rfl,Y0b rfl rfl rfl (Y01 _) (Y01 _) rfl,trivial⟩⟩,onOI h1 ⟨rfl,rfl,rfl,rfl,Y06 (rest:=[]) (by rw[Y0g]) (Go.Abs.byt_refs _ _)⟩,trivial⟩ ?_
 simp only[List.map,Z0m,h0,h1,Z0S,mem]
 first|(simp[hn];done)|(simp;intro hz;rw[<- hz]at hn;simp at hn)
def Ze2(g:DGr):List UInt8:=if Z0e g=0 then Z0y g else []
def Ze3(g:DGr):Int:=if Z0e g=0 then 0 else 2
def Z5B(g:DGr):AV:=.tuple [.str (Ze2 g),.int .i64 (Ze3 g)]
theorem Zhg(g:DGr)(hg:okG g):ValOK Y00 runLives.gl 15 [g.av] (Z5B g):=by
 by_cases h0:Z0e g=0
 · obtain ⟨O, hO, p1, p2, -⟩ := fams (P := Y00) (gl := runLives.gl) [
    { I:=Unit,f:=27,G:=λ_=>True,A:=λ_=>[g.av],R:=λ_=>.int .i64 0,body:=(by kernel_rfl),inj:=(λ_ _ _ _ _=>rfl),ok:=(λ_ _=>⟨rfl,by rw[<- h0];exact Z9b g hg⟩) },
    { I:=Unit,f:=28,G:=λ_=>True,A:=λ_=>[g.av],R:=λ_=>.str (Z0y g),body:=(by kernel_rfl),inj:=(λ_ _ _ _ _=>rfl),ok:=(λ_ _=>⟨rfl,Zfb g (ZiP (Z9P hg h0))⟩) }] rfl
   have q1:∀H,Z02 Y00 O H 27 [g.av]=some (.int .i64 0,H):=p1 () trivial
   have q2:∀H,Z02 Y00 O H 28 [g.av]=some (.str (Z0y g),H):=p2 () trivial
   have e0:Z5B g = .tuple [.str (Z0y g),.int .i64 0]:=by unfold Z5B Ze2 Ze3;rw[if_pos h0,if_pos h0]
   rw[e0]
   clear p1 p2 e0
   generalize Z0y g=T at *
   simp only[DGr.av,grC,rsI,Z4T,Z58]at q1 q2⊢
   refine Z09 follows Z0a hO Tryz.func15 rfl ?_
   repeat' ((conv=>whnf);first|with_reducible refine exI (q1 _) ?_|with_reducible refine exI (q2 _) ?_|refine stp ?_|with_reducible apply Z01<;>intro h)
   all_goals rfl
 · obtain ⟨O, hO, p1, -⟩ := fams (P := Y00) (gl := runLives.gl) [
    { I:=Unit,f:=27,G:=λ_=>True,A:=λ_=>[g.av],R:=λ_=>.int .i64 (Z0e g),body:=(by kernel_rfl),inj:=(λ_ _ _ _ _=>rfl),ok:=(λ_ _=>⟨rfl,Z9b g hg⟩) }] rfl
   have q1:∀H,Z02 Y00 O H 27 [g.av]=some (.int .i64 (Z0e g),H):=p1 () trivial
   have e0:Z5B g = .tuple [.str [],.int .i64 2]:=by unfold Z5B Ze2 Ze3;rw[if_neg h0,if_neg h0]
   rw[e0]
   clear p1 e0
   have hc:(Z0e g != 0)=true:=by simpa using h0
   generalize Z0e g=c at *
   simp only[DGr.av,grC,rsI,Z4T,Z58]at q1⊢
   refine Z09 follows Z0a hO Tryz.func15 rfl ?_
   repeat' ((conv=>whnf);first|with_reducible refine exI (q1 _) ?_|refine stp ?_|with_reducible apply Z01<;>intro h)
   all_goals rfl
def Z0b:List DGr->List UInt8
 |[]=>[]
 |g::l=>Z0y g++Z0b l
def Z28(l:List DGr):Bool:=l.all λg=>decide (Z0e g=0)
def Z4r(l:List DGr):AV:=if Z28 l then .tuple [.str (Z0b l),.int .i64 0] else .tuple [.str [],.int .i64 2]
theorem Z2Y:∀a b:List DGr,Z0b (a++b)=Z0b a++Z0b b
 |[],b=>rfl
 |g::a,b=>by simp only[Y0w,Z0b,Z2Y a b,List.append_assoc]
theorem Zer(l:List DGr)(k:Nat)(h:k<l.length):Z0b (l.take (k+1))=Z0b (l.take k)++Z0y l[k]:=by
 rw[Y0I h,Z2Y];simp[Z0b]
theorem Z46(g:DGr):Z0y g≠[]:=by unfold Z0y Z0s;simp
theorem Zhj(l:List DGr)(hl:∀g∈l,okG g)(hn:l.length<=1048576):ValOK Y00 runLives.gl 8 [rsG l] (Z4r l):=by
 obtain⟨O,hO,p1,-⟩:=fams (P:=Y00) (gl:=runLives.gl) [
  { I:=DGr,f:=15,G:=okG,A:=λg=>[g.av],R:=Z5B,body:=(by kernel_rfl),inj:=(λi j _ _ h=>by have e:i=j:=Zdg (by simpa using h);rw[e]),ok:=(λg hg=>⟨rfl,Zhg g hg⟩) }] rfl
 have q1:∀g,okG g->∀H,Z02 Y00 O H 15 [g.av]=some (Z5B g,H):=p1
 clear p1
 have hG:=λi (hi:i<l.length)=>Z0f (f:=grC) (k:=4) (λ_=>rfl) l i hi
 simp only[rsG]
 generalize Z07 grC l=XG at *
 refine Z0u (λg=>Y03 g 15) 3 follows Z0a hO Tryz.func8 rfl ?_
 repeat' ((conv=>whnf);first|refine stp ?_|with_reducible apply Z01<;>intro h)
 conv=>whnf
 refine⟨Nat,(λk=>k<=l.length/\(∀j (hj:j<l.length),j<k->Z0e l[j]=0)/\(Z0b (l.take k)).length<=20000*k),(λk=>[(2,.str []),(3,.int .i64 0),(4,.ptr 0 0),(9,.rs l.length 4 XG),(10,.int .i64 l.length),(11,.int .i64 (k:Nat))]),(λk=>BH tS tB (Z0b (l.take k))),(λk=>l.length-k),⟨0,⟨Y05 _,λj _ h=>absurd h (Nat.not_lt_zero _),Y01 _⟩,?_⟩,?_⟩
 · refine FgL.mk [0] rfl ?_ ⟨⟨rfl,rfl,rfl,rfl,Y0r ⟨Wk.noref rfl,Wk.noref rfl,trivial⟩⟩,trivial⟩ rfl
   exact wks
 rintro k ⟨hk,hno,hlen⟩
 dsimp only at hk hno hlen⊢
 by_cases hlt:k<l.length
 · have e1:decide ((k:Int)<(l.length:Int))=true:=by simpa using hlt
   have hx:=hG k hlt
   have hg:=hl _ (Y08 hlt)
   have hnext:=Zer l k hlt
   have qg:=q1 l[k] hg
   by_cases hc:Z0e l[k]=0
   rotate_left
   · have e0 : Z4r l = .tuple [.str [], .int .i64 2] := by
      unfold Z4r
      have:Z28 l=false:=by
       unfold Z28
       rw[Y0x];intro h
       exact hc (of_decide_eq_true (Y0E.1 h _ (Y08 hlt)))
      rw[this];rfl
     have e3:Z5B l[k] = .tuple [.str [],.int .i64 2]:=by unfold Z5B Ze2 Ze3;rw[if_neg hc,if_neg hc]
     rw[e0]
     rw[e3]at qg
     generalize l[k]=g at *
     simp only[DGr.av,grC,rsI,Z4T,Z58]at qg hx
     generalize Z0b (l.take k)=X at *
     cases X with
     |nil =>
      simp only[BH]
      repeat' ((conv=>whnf);first|with_reducible refine exI (qg _) ?_|(with_reducible refine ixJ k rfl ?_ ?_;focus omega)|refine exI hx ?_|refine stp ?_|with_reducible apply Z01<;>intro h)
      all_goals rfl
     |cons c r =>
      simp only[BH]
      repeat' ((conv=>whnf);first|with_reducible refine exI (qg _) ?_|(with_reducible refine ixJ k rfl ?_ ?_;focus omega)|refine exI hx ?_|refine stp ?_|with_reducible apply Z01<;>intro h)
      all_goals rfl
   have e3:Z5B l[k] = .tuple [.str (Z0y l[k]),.int .i64 0]:=by unfold Z5B Ze2 Ze3;rw[if_pos hc,if_pos hc]
   have hTl:=Z6V (Z9P hg hc)
   have hTn:=Z46 l[k]
   have hno2:∀j (hj:j<l.length),j<k+1->Z0e l[j]=0:=λj hj hjk=>by
    by_cases hj2:j=k
    ·subst hj2;exact hc
    ·exact hno j hj (by omega)
   rw[e3]at qg
   clear e3
   generalize Z0y l[k]=T at *
   generalize l[k]=g at *
   simp only[DGr.av,grC,rsI,Z4T,Z58]at qg hx
   obtain⟨w0,w1,rfl⟩:∃c t,T=c::t:=by cases T with|nil=>exact absurd rfl hTn|cons c t=>exact⟨c,t,rfl⟩
   generalize Z0b (l.take k)=X at *
   have hlen2:(Z0b (l.take (k+1))).length<=20000*(k+1):=by rw[hnext,Y07];omega
   cases X with
   |nil =>
    simp only[BH]
    simp only[Y02]at hTl
    repeat' ((conv=>whnf);first|with_reducible refine exI (qg _) ?_|(with_reducible refine ixJ k rfl ?_ ?_;focus omega)|refine exI hx ?_|refine exI (Zc9 apB (xs:=byt (w0::w1)) (n:=(w0::w1).length) rfl (by simp) ⟨by simp only[Y02];omega,by simp only[Y02];omega⟩) ?_|refine stp ?_|with_reducible apply Z01<;>intro h)
    conv=>whnf
    refine⟨k+1,⟨hlt,hno2,hlen2⟩,by show l.length-(k+1)<l.length-k;omega,?_⟩
    (try dsimp only)
    rw[hnext]
    refine Znz (s:=w0::w1) rfl (Y0B _ _) rfl rfl rfl rfl rfl ?_
    exact wks
   |cons c r =>
    simp only[BH]
    simp only[Y02]at hTl hlen
    repeat' ((conv=>whnf);first|with_reducible refine exI (qg _) ?_|(with_reducible refine ixJ k rfl ?_ ?_;focus omega)|refine exI hx ?_|refine exI (Z1C apB (xs:=byt (w0::w1)) (n:=(w0::w1).length) (cs:=byt (c::r)) rfl rfl (Z1z (by simp[ABody.len])) ((Z1A _).trans (Y0u _).symm) (Z2I _) (by simp) ⟨by simp only[Y02];omega,by simp only[Y02];omega⟩) ?_|refine stp ?_|with_reducible apply Z01<;>intro h)
    conv=>whnf
    refine⟨k+1,⟨hlt,hno2,hlen2⟩,by show l.length-(k+1)<l.length-k;omega,?_⟩
    (try dsimp only)
    rw[hnext]
    refine Znz (s:=c::(r++w0::w1)) rfl (Y0B _ _) rfl rfl (by simp;omega) (by rw[<- Z3Z];rfl) rfl ?_
    exact wks
 have ek:k=l.length:=by omega
 subst ek
 have e1:decide (((l.length:Nat):Int)<(l.length:Int))=false:=decide_eq_false (by omega)
 have e0:Z4r l = .tuple [.str (Z0b l),.int .i64 0]:=by
  unfold Z4r
  have:Z28 l=true:=Y0E.2 λg hg=>by
   obtain⟨j,hj,rfl⟩:=List.getElem_of_mem hg
   exact decide_eq_true (hno j hj hj)
  rw[this];rfl
 rw[e0]
 rw[Y0J]at hlen⊢
 generalize Z0b l=X at *
 cases X with
 |nil =>
  simp only[BH]
  repeat' ((conv=>whnf);first|refine stp ?_|with_reducible apply Z01<;>intro h)
  all_goals rfl
 |cons c r =>
  simp only[BH]
  repeat' ((conv=>whnf);first|refine exI (ZiO (s:=c::r) rfl rfl rfl (Y0B _ _) (by omega) rfl) ?_|refine exI (ZjC (s:=c::r) (Y0B _ _) (by omega) rfl) ?_|refine stp ?_|with_reducible apply Z01<;>intro h)
  all_goals rfl
end
section
abbrev tG:TypeId:=33
def Z6o(l:List (List DId)):List AV:=l.map Z3E
def Z0J(g:DGr)(i:Nat):List AV:=if i=0 then Z07 Z2b g.ini else if i=1 then Z6o g.ord else if i<2+g.thr.length then Z07 evC (g.thr.getD (i-2) []) else Z07 idC (g.frm.getD (i-2-g.thr.length) [])
def gty(n:Nat)(i:Nat):TypeId:=if i=0 then 2 else if i=1 then 57 else if i<2+n then 60 else 63
def gN(g:DGr):Nat:=2+(g.thr.length+g.thr.length)
def gT(g:DGr):Z00:=lg.inn 4 (gty g.thr.length) (Z0J g) (gN g)
def Z7I:AObj:=⟨true,0,0,.cells [.nslice,.nslice,.nslice,.nslice] tG⟩
def thL(g:DGr)(j:Nat):Nat:=(g.thr.getD j []).length
def frL(g:DGr)(j:Nat):Nat:=(g.frm.getD j []).length
def gA(g:DGr):Bool->Z00
 |false=>[Z7I,⟨true,1,0,.cells [lg.grn 4 1 g.ini.length,.nslice,.nslice,lg.grn 5 1 g.ord.length] tG⟩,⟨false,2,0,.cells [] 0⟩,⟨false,3,0,.cells [] 0⟩]
 |true=>[Z7I,⟨true,1,0,.cells [lg.grn 4 1 g.ini.length,.slice 2 0 g.thr.length g.thr.length 1,.slice 3 0 g.thr.length g.thr.length 1,lg.grn 5 1 g.ord.length] tG⟩,⟨true,2,0,.cells (lg.outc 6 5 (thL g) g.thr.length) 56⟩,⟨true,3,0,.cells (lg.outc (6+g.thr.length) 2 (frL g) g.thr.length) 57⟩]
def frC(g:DGr)(told:Bool):List AV:=[frN 1 g.ini.length (Z07 Z2b g.ini),if told then .rs g.thr.length 1 (g.thr.map λl=>frN 5 l.length (Z07 evC l)) else .nslice,if told then .rs g.thr.length 1 (g.frm.map λl=>frN 2 l.length (Z07 idC l)) else .nslice,frN 1 g.ord.length (Z6o g.ord)]
structure OnS where
 g:DGr
 told:Bool
 rest:List UInt8
 ended:Bool
def gB(t:OnS):Z00:=if t.ended then [Z7I,⟨true,1,0,.cells (frC t.g t.told) tG⟩] else lg.sec (gA t.g t.told) (gT t.g) []
theorem Z3T(g:DGr):(gT g).length=gN g:=lg.inn_len _ _ _ _
theorem Z8h(g:DGr):∀o∈gT g,4<=o.fam/\o.fam<4+gN g:=lg.inn_fam
theorem Zal:∀l:List Int,refsL (Z07 Z2b l) []=[]
 |[]=>rfl
 |d::l=>Zal l
theorem Zdn:∀l:List DEv,refsL (Z07 evC l) []=[]
 |[]=>rfl
 |d::l=>Zdn l
theorem Za2:∀l:List (List DId),refsL (Z6o l) []=[]
 |[]=>rfl
 |d::l=>by
  show Z0z (Z3E d) (refsL (Z6o l) [])=[]
  rw[Za2 l,Zam]
theorem Z5O(g:DGr)(i:Nat):refsL (Z0J g i) []=[]:=by
 unfold Z0J
 split
 ·exact Zal _
 · split
   ·exact Za2 _
   · split
     ·exact Zdn _
     ·exact Z8V _
def Z94(k:Nat):Z00->Prop
 |[]=>True
 |o::E=>k<=o.fam/\Z94 k E
theorem Z1Z{k:Nat}:∀{E:Z00},Z94 k E->∀o∈E,k<=o.fam
 |[],_,o,h=>by cases h
 |x::E,h,o,ho=>by
  rcases Y0s.1 ho with rfl|ho
  ·exact h.1
  ·exact Z1Z h.2 o ho
section
variable {T E A:Z00} {N b:Nat}
theorem slG{j:Nat}(hT:T.length=N)(hA:A.length=4)(hE:E.length=j)(hb:4+N+j=b):(lg.sec A T E).length=b:=lg.sec_len (by omega)
theorem nwG{j:Nat}{cs:List AV}{ty:TypeId}(hT:T.length=N)(hb:4+N+j=b)(hA:A.length=4)(hE:E.length=j):Z2V (lg.sec A T E) cs ty=lg.sec A T (E++[⟨true,b,0,.cells cs ty⟩]):=lg.sec_new (by omega)
theorem atG{j:Nat}{o:AObj}(hT:T.length=N)(hb:4+N+j=b)(hA:A.length=4)(h:E[j]? = some o):(lg.sec A T E)[b]? = some o:=lg.sec_hi (e:=j) (by omega) h
theorem Z6Y{A':Z00}{o':AObj}(hTf:∀o∈T,4<=o.fam)(hA:A.length=4)(hl:Go.Abs.lone 0 0 0 A=true)(hE:Z94 4 E)(e':A.set 0 o'=A'):(Z3G 0 0 (lg.sec A T E)).set 0 o'=lg.sec A' T E:=by
 rw[lg.sec_set (by omega) hl (λo ho=>by have:=hTf o ho;omega) (λo ho=>by have:=Z1Z hE o ho;omega),e']
theorem Z8G{A':Z00}{o':AObj}(hTf:∀o∈T,4<=o.fam)(hA:A.length=4)(hl:Go.Abs.lone 1 1 0 A=true)(hE:Z94 4 E)(e':A.set 1 o'=A'):(Z3G 1 1 (lg.sec A T E)).set 1 o'=lg.sec A' T E:=by
 rw[lg.sec_set (by omega) hl (λo ho=>by have:=hTf o ho;omega) (λo ho=>by have:=Z1Z hE o ho;omega),e']
theorem ZmG{A':Z00}{o':AObj}(hTf:∀o∈T,4<=o.fam)(hA:A.length=4)(hl:Go.Abs.lone 2 2 0 A=true)(hE:Z94 4 E)(e':A.set 2 o'=A'):(Z3G 2 2 (lg.sec A T E)).set 2 o'=lg.sec A' T E:=by
 rw[lg.sec_set (by omega) hl (λo ho=>by have:=hTf o ho;omega) (λo ho=>by have:=Z1Z hE o ho;omega),e']
theorem ZmF{A':Z00}{o':AObj}(hTf:∀o∈T,4<=o.fam)(hA:A.length=4)(hl:Go.Abs.lone 3 3 0 A=true)(hE:Z94 4 E)(e':A.set 3 o'=A'):(Z3G 3 3 (lg.sec A T E)).set 3 o'=lg.sec A' T E:=by
 rw[lg.sec_set (by omega) hl (λo ho=>by have:=hTf o ho;omega) (λo ho=>by have:=Z1Z hE o ho;omega),e']
theorem Z7F{x x':AObj}(hT:T.length=N)(hTf:∀o∈T,o.fam<b)(hb:4+N=b)(hA:A.length=4)(hf:lg.famB 4 A=true)(hx:x.fam=b):(Z3G b x.fam (lg.sec A T [x])).set b x'=lg.sec A T [x']:=by
 rw[hx]
 exact lg.sec_setE (e:=0) (by omega) (by simp) (lg.famB_ne hf (by omega)) (λo ho=>by have:=hTf o ho;omega) (by simp[Go.Abs.lone])
end
theorem Z11{c:Prop}{i:Decidable c}{B:¬c->Prop}{A:c->Prop}(h:c)(a:A h):Decidable.rec (motive:=λ_=>Prop) B A i:=by
 cases i with
 |isTrue h'=>exact a
 |isFalse h'=>exact absurd h h'
theorem Z0Z{a b:Bool}(h:a=true)(k:b=true):(a&&b)=true:=by rw[h,k];rfl
theorem Z9d{A A' T E E':Z00}(hA:A.length=A'.length)(hE:Nat.ble E.length E'.length=true):Nat.ble (lg.sec A T E).length (lg.sec A' T E').length=true:=Nat.ble_eq_true_of_le (by have:=Nat.le_of_ble_eq_true hE;simp only[lg.sec,Y07];omega)
theorem xcG{H:Z00}{b f z:Nat}{xs:List AV}{ty:TypeId}(hz:xs.length=z)(h:H[b]? = some ⟨true,f,0,.cells xs ty⟩):Z2M H z (.slice b 0 1 1 z)=some (1,xs):=by
 have e:tk (1*z) xs=some xs:=by rw[Nat.one_mul,<- hz];exact Z7V rfl
 simp only[Z2M,rd,h,List.drop_zero,e]
 simp
theorem appG {g : DGr} {A E : Z00} {i j b b' len z by_ fx : Nat} {t tx : TypeId} {xs : List AV} (hT : ZeI Y00 t t = some (gty g.thr.length i, z, by_)) (hi : i < gN g) (hb : 4 + gN g + j = b) (hb' : b + 1 = b') (hl : (Z0J g i).length = len * z) (hz : z ≠ 0) (hz2 : xs.length = z) (ho : xs.all Go.Abs.one = true)
  (hs:len+1<=1048580) (hby:by_<=100) (hA:A.length=4) (hf:lg.famB 4 A=true) (hE:∀o∈E,o.fam≠4+i) (hx:E[j]? = some ⟨true,fx,0,.cells xs tx⟩) (hEl:E.length=j+1) :
  Z0U Y00 t t (lg.grn (4+i) z len) (.slice b 0 1 1 z) (lg.sec A (gT g) E)=some (.slice b' 0 (len+1) (len+1) z,lg.sec A (gT g) (E++[⟨true,if len=0 then b' else 4+i,0,.cells (Z0J g i++xs) (gty g.thr.length i)⟩])) :=
 lg.grn_app hT (xcG hz2 (atG (Z3T g) hb hA hx)) (by decide) hA hi (by omega) hl hz ho ⟨by omega,by have:(len+1)*by_<=1048580*100:=Nat.mul_le_mul hs hby;omega⟩ hf hE
theorem Zgf(g:DGr)(told:Bool)(r:List UInt8):gB ⟨g,told,r,false⟩=gA g told++lg.inn 4 (gty g.thr.length) (Z0J g) (gN g):=by
 unfold gB lg.sec gT
 simp
theorem tgG:Z4u Y00 tG=some true:=by kernel_rfl
theorem tzG:tsz Y00 tG=some 4:=by kernel_rfl
theorem Z18{tm:Tr}{A T E:Z00}(hA:A[0]? = some Z7I)(h0:Z15 tm 2=some (.ptr 0 0))(h3:Z15 tm 3=some (.str []))(h4:Z15 tm 4=some (.bool false)):Z37 Y00 tm (lg.sec A T E) Tryz.f24.results.toList=some [.agg [.nslice,.nslice,.nslice,.nslice],.str [],.bool false]:=by
 have h1:(lg.sec A T E)[0]? = some Z7I:=lg.sec_lo hA
 have h2:Z9f Y00 tG (.ptr 0 0) (lg.sec A T E)=some (.agg [.nslice,.nslice,.nslice,.nslice]):=by
  simp only[Z9f,tgG,tzG,rd,h1,Z7I]
  rfl
 have hl:Tryz.f24.results.toList=([ResultVar.cell 2 tG,ResultVar.tmp 3,ResultVar.tmp 4]:List ResultVar):=rfl
 rw[hl]
 simp only[Z37,h0,h3,h4,h2]
theorem Zng{H:Z00}(g:DGr)(told:Bool)(h0:Z0m H 0=0)(h1:Z0m H 1=1)(h2:Z0m H 2=2)(h3:Z0m H 3=3):(lg.famsL H (gA g told) [0,1,2,3]).Nodup/\∀x∈lg.famsL H (gA g told) [0,1,2,3],x<4:=by
 cases told<;>simp[lg.famsL,gA,Z7I,h0,h1,h2,h3]<;>(try (intro x hx;omega))
theorem Z36 {t0 tm : Tr} {H : Z00} {l : List (Nat × AV)} {g g' : DGr} {told : Bool} {nb : Nat -> Nat} {r : List UInt8} (hsub : Z7Z t0 tm = true) (hsl : SlotsGe ([0, 1, 2, 3] ++ (List.range (gN g')).map nb) tm l) (hn : g'.thr.length = g.thr.length)
  (hS:∀i,i<gN g->H[4+i]? = some (lg.inb (4+i) (gty g.thr.length i) (Z0J g i))) (hA:lg.HpGeD [] H ([0,1,2,3]++(List.range (gN g')).map nb) [0,1,2,3] (gA g' told))
  (hnb:∀i,i<gN g->(nb i=4+i/\Z0J g' i=Z0J g i)\/∃f,H[nb i]? = some ⟨true,f,0,.cells (Z0J g' i) (gty g.thr.length i)⟩/\(f=4+i\/f=nb i)/\4+gN g<=nb i)
  (hinj:∀i i',i<gN g->i'<gN g->nb i=nb i'->i=i') (h0:Z0m H 0=0) (h1:Z0m H 1=1) (h2:Z0m H 2=2) (h3:Z0m H 3=3):FgLK 0 t0 tm H l (gB ⟨g',told,r,false⟩):=by
 rw[Zgf]
 have hN:gN g'=gN g:=by unfold gN;rw[hn]
 rw[hn,hN]
 rw[hN]at hsl hA
 obtain⟨f1,f2⟩:=Zng g' told h0 h1 h2 h3
 exact FgLK.mkD [] _ rfl hsub (lg.SlotsGe.w hsl) (lg.HpD.grow hS hA rfl hnb hinj (λi _=>Z5O _ _) f1 f2)
theorem Z1M{A T E:Z00}{j:Nat}{o:AObj}(h:A[j]? = some o)(hf:o.fam=j):Z0m (lg.sec A T E) j=j:=by
 rw[lg.famOf_get (lg.sec_lo h),hf]
theorem Zle{g':DGr}{T E:Z00}{m:List Nat}{c1 c4:AV}(w1:Wk m c1 (lg.grn 4 1 g'.ini.length))(w4:Wk m c4 (lg.grn 5 1 g'.ord.length)):lg.HpGeD [] (lg.sec [Z7I,⟨true,1,0,.cells [c1,.nslice,.nslice,c4] tG⟩,⟨false,2,0,.cells [] 0⟩,⟨false,3,0,.cells [] 0⟩] T E) m [0,1,2,3] (gA g' false) :=
 ⟨onOI (lg.sec_lo rfl) (.inr ⟨rfl,rfl,rfl,Y04 (Y06 (rest:=[]) rfl rfl)⟩),onOI (lg.sec_lo rfl) (.inr ⟨rfl,rfl,rfl,Y04 (Y0r ⟨w1,lg.nil_wk,lg.nil_wk,w4,trivial⟩)⟩),onOI (lg.sec_lo rfl) (.inl ⟨rfl,rfl,rfl⟩),onOI (lg.sec_lo rfl) (.inl ⟨rfl,rfl,rfl⟩),trivial⟩
theorem Zld {g' : DGr} {T E : Z00} {m : List Nat} {c1 c4 : AV} {ct cf : List AV} (w1 : Wk m c1 (lg.grn 4 1 g'.ini.length)) (w4 : Wk m c4 (lg.grn 5 1 g'.ord.length)) (h2 : m[2]? = some 2) (h3 : m[3]? = some 3) (wt : BodyGe m (.cells ct 56) (.cells (lg.outc 6 5 (thL g') g'.thr.length) 56)) (wf : BodyGe m (.cells cf 57) (.cells (lg.outc (6 + g'.thr.length) 2 (frL g') g'.thr.length) 57)) :
  lg.HpGeD [] (lg.sec [Z7I,⟨true,1,0,.cells [c1,.slice 2 0 g'.thr.length g'.thr.length 1,.slice 3 0 g'.thr.length g'.thr.length 1,c4] tG⟩,⟨true,2,0,.cells ct 56⟩,⟨true,3,0,.cells cf 57⟩] T E) m [0,1,2,3] (gA g' true) :=
 ⟨onOI (lg.sec_lo rfl) (.inr ⟨rfl,rfl,rfl,Y04 (Y06 (rest:=[]) rfl rfl)⟩),onOI (lg.sec_lo rfl) (.inr ⟨rfl,rfl,rfl,Y04 (Y0r ⟨w1,Y0b h2 rfl rfl (Y01 _) (Y01 _) rfl,Y0b h3 rfl rfl (Y01 _) (Y01 _) rfl,w4,trivial⟩)⟩),onOI (lg.sec_lo rfl) (.inr ⟨rfl,rfl,rfl,Y04 wt⟩),onOI (lg.sec_lo rfl) (.inr ⟨rfl,rfl,rfl,Y04 wf⟩),trivial⟩
theorem ZeT{m:List Nat}{k z n:Nat}{len:Nat->Nat}{t:TypeId}(hm:∀i,i<n->m[k+i]? = some (k+i)):BodyGe m (.cells (lg.outc k z len n) t) (.cells (lg.outc k z len n) t) :=
 lg.outc_ge (by rw[lg.outc_len];exact Y01 _) λi hi=>.inl ⟨lg.outc_get _ _ _ hi,rfl,hm i hi⟩
theorem ml4{nb:Nat->Nat}{n i:Nat}(hi:i<n):([0,1,2,3]++(List.range n).map nb)[4+i]? = some (nb i):=lg.ml_at rfl hi
theorem Z9z{z n:Nat}{l l':List AV}(hl:l.length=n*z)(h:wkVL l l'=true):wkV (frN z n l) (.rs n z l')=true:=by
 cases n with
 |zero =>
  rw[Nat.zero_mul]at hl
  have:=Y0F.1 hl
  subst this
  cases l' with
  |nil=>rfl
  |cons a l'=>simp[wkVL]at h
 |succ n=>simp only[frN,wkV,Nat.beq_refl,Y0n];exact h
theorem Z6c(k:IntKind)(n:Int):wkV (.int k n) (.int k n)=true:=by simp[wkV,veq]
theorem Zg9:∀l:List Int,wkVL (Z07 Z2b l) (Z07 Z2b l)=true
 |[]=>rfl
 |d::l=>by
  show (wkV _ _&&wkVL (Z07 Z2b l) (Z07 Z2b l))=true
  rw[Z6c,Zg9 l];rfl
theorem Zga:∀l:List DId,wkVL (Z07 idC l) (Z07 idC l)=true
 |[]=>rfl
 |d::l=>by
  show (wkV _ _&&(wkV _ _&&wkVL (Z07 idC l) (Z07 idC l)))=true
  rw[Z6c,Z6c,Zga l];rfl
theorem Zjj:∀l:List DEv,wkVL (Z07 evC l) (Z07 evC l)=true
 |[]=>rfl
 |d::l=>by
  show (wkV _ _&&(wkV _ _&&(wkV _ _&&(wkV _ _&&(wkV _ _&&wkVL (Z07 evC l) (Z07 evC l))))))=true
  rw[Z6c,Z6c,Z6c,Z6c,Z6c,Zjj l];rfl
theorem Zkm(l:List DId):wkV (Z3E l) (rsD l)=true:=Z9z (Z0Y (k:=2) (λ_=>rfl) l) (Zga l)
theorem Zj0:∀l:List (List DId),wkVL (Z6o l) (Z07 (λx=>[rsD x]) l)=true
 |[]=>rfl
 |d::l=>by
  show (wkV (Z3E d) (rsD d)&&wkVL (Z6o l) (Z07 (λx=>[rsD x]) l))=true
  rw[Zkm,Zj0 l];rfl
theorem ZiR:∀l:List (List DEv),wkVL (l.map λl=>frN 5 l.length (Z07 evC l)) (Z07 (λx=>[rsE x]) l)=true
 |[]=>rfl
 |d::l=>by
  show (wkV (frN 5 d.length (Z07 evC d)) (rsE d)&&wkVL (l.map λl=>frN 5 l.length (Z07 evC l)) (Z07 (λx=>[rsE x]) l))=true
  rw[ZiR l,show wkV (frN 5 d.length (Z07 evC d)) (rsE d)=true from Z9z (Z0Y (k:=5) (λ_=>rfl) d) (Zjj d)];rfl
theorem Zjg:∀l:List (List DId),wkVL (l.map λl=>frN 2 l.length (Z07 idC l)) (Z07 (λx=>[rsD x]) l)=true
 |[]=>rfl
 |d::l=>by
  show (wkV (frN 2 d.length (Z07 idC d)) (rsD d)&&wkVL (l.map λl=>frN 2 l.length (Z07 idC l)) (Z07 (λx=>[rsD x]) l))=true
  rw[Zjg l,show wkV (frN 2 d.length (Z07 idC d)) (rsD d)=true from Z9z (Z0Y (k:=2) (λ_=>rfl) d) (Zga d)];rfl
theorem Zko{g:DGr}{told:Bool}(hf:g.frm.length=g.thr.length)(hno:told=false->g.thr=[]):wkV (.agg (frC g told)) g.av=true:=by
 have h1:wkV (frN 1 g.ini.length (Z07 Z2b g.ini)) (rsI g.ini)=true:=Z9z (Z0Y (k:=1) (λ_=>rfl) _) (Zg9 _)
 have h4:wkV (frN 1 g.ord.length (Z6o g.ord)) (Z58 g.ord)=true:=Z9z (by simp[Z6o]) (Zj0 _)
 show (wkV _ _&&(wkV _ _&&(wkV _ _&&(wkV _ _&&true))))=true
 rw[h1,h4]
 cases told with
 |false =>
  have h:=hno rfl
  have h2:g.frm=[]:=Y0F.1 (by rw[hf,h];rfl)
  rw[h,h2];rfl
 |true =>
  have h2:wkV (.rs g.thr.length 1 (g.thr.map λl=>frN 5 l.length (Z07 evC l))) (Z4T g.thr)=true:=by
   simp only[wkV,Z4T,Nat.beq_refl,Y0n];exact ZiR _
  have h3:wkV (.rs g.thr.length 1 (g.frm.map λl=>frN 2 l.length (Z07 idC l))) (Z58 g.frm)=true:=by
   simp only[wkV,Z58,hf,Nat.beq_refl,Y0n];exact Zjg _
  simp only[if_true,h2,h3];rfl
theorem Z5l(z n:Nat)(l:List AV):frN z n l = .nslice\/∃m,frN z n l = .rs (m+1) z l:=by
 cases n with
 |zero=>exact .inl rfl
 |succ m=>exact .inr ⟨m,rfl⟩
theorem Zdm(g:DGr)(told:Bool):refsL [.agg (frC g told)] []=[]:=by
 unfold frC
 rcases Z5l 1 g.ini.length (Z07 Z2b g.ini)with h|⟨m,h⟩<;>rw[h]<;>rcases Z5l 1 g.ord.length (Z6o g.ord)with h2|⟨m2,h2⟩<;>rw[h2]<;>cases told<;>rfl
theorem ZiG{g:DGr}{told:Bool}(hg:okG g)(hf:g.frm.length=g.thr.length)(hno:told=false->g.thr=[]):ValOK Y00 runLives.gl 27 [.agg (frC g told)] (.int .i64 (Z0e g)):=(Z9b g hg).nils (by show (wkV _ _&&true)=true;rw[Zko hf hno];rfl)
theorem ZjE{g:DGr}{told:Bool}(hg:okG g)(hf:g.frm.length=g.thr.length)(hno:told=false->g.thr=[])(hc:Z0e g=0):ValOK Y00 runLives.gl 28 [.agg (frC g told)] (.str (Z0y g)):=(Zfb g (ZiP (Z9P hg hc))).nils (by show (wkV _ _&&true)=true;rw[Zko hf hno];rfl)
end
section
theorem fzb{H:Z00}{n b f sh len cap z:Nat}{cs l:List AV}{ty:TypeId}(hH:H[b]? = some ⟨true,f,sh,.cells cs ty⟩)(hc:cs.length=len*z)(hl:Z1n (frz H n) cs=some l):frz H (n+1) (.slice b 0 len cap z)=some (.rs len z l):=by
 cases len with
 |zero =>
  have:cs=[]:=List.eq_nil_of_length_eq_zero (by omega)
  subst this
  simp only[Z1n,Option.some.injEq]at hl
  subst hl
  rfl
 |succ m =>
  unfold frz
  simp only[hH,List.drop_zero,Z7V hc,hl]
theorem Z2e{g:AV->Option AV}:∀{a x:List AV},a.length=x.length->(∀(i:Nat)(u v:AV),a[i]? = some u->x[i]? = some v->g u=some v)->Z1n g a=some x
 |[],[],_,_=>rfl
 |u::a,v::x,hl,h=>by
  have e1:=h 0 u v rfl rfl
  have e2:=Z2e (g:=g) (a:=a) (x:=x) (by simpa using hl) λi u v hu hv=>h (i+1) u v (by simpa using hu) (by simpa using hv)
  simp only[Z1n,e1,e2]
 |[],_::_,hl,_=>by simp at hl
 |_::_,[],hl,_=>by simp at hl
theorem Zdc:∀l:List Int,(Z07 Z2b l).all lit=true
 |[]=>rfl
 |d::l=>Zdc l
theorem Zdp:∀l:List DEv,(Z07 evC l).all lit=true
 |[]=>rfl
 |d::l=>Zdp l
theorem Zde:∀l:List DId,(Z07 idC l).all lit=true
 |[]=>rfl
 |d::l=>Zde l
theorem Zkr{H:Z00}{n:Nat}(l:List DId):frz H (n+1) (Z3E l)=some (Z3E l):=by cases l<;>rfl
theorem Zdi{H:Z00}{n:Nat}:∀l:List (List DId),Z1n (frz H (n+1)) (Z6o l)=some (Z6o l)
 |[]=>rfl
 |d::l=>by
  show Z1n _ (Z3E d::Z6o l)=some (Z3E d::Z6o l)
  simp only[Z1n,Zkr,Zdi l]
theorem Z5k{H:Z00}{n:Nat}:∀{cs:List AV},cs.all lit=true->Z1n (frz H (n+1)) cs=some cs
 |[],_=>rfl
 |c::l,h=>by
  simp only[List.all_cons,Y0e]at h
  simp only[Z1n,Zgh h.1,Z5k h.2]
theorem Z8Z{fs:List Nat}{H:Z00}{b z n m:Nat}{ty:TypeId}{cs:List AV}(hb:H[b]? = some (lg.inb b ty cs))(hm:mem b fs=true)(hc:cs.length=n*z)(hz:z≠0)(hl:∀H,Z1n (frz H (m+1)) cs=some cs):frz (Z5G fs H) (m+2) (lg.grn b z n)=some (frN z n cs):=by
 cases n with
 |zero=>rfl
 |succ n =>
  have hne:cs≠[]:=λe=>by
   subst e
   have h2:0<(n+1)*z:=Nat.mul_pos (Nat.succ_pos n) (Nat.pos_of_ne_zero hz)
   simp only[Y0a]at hc;omega
  rw[lg.inb_ne hne]at hb
  exact fzb (lg.onlyF_get hb hm) hc (hl _)
def fsF(N:Nat):List Nat:=[2,3]++(List.range N).map (4 + ·)
theorem Zn9{N:Nat}:mem 2 (fsF N)=true:=rfl
theorem Zn8{N:Nat}:mem 3 (fsF N)=true:=rfl
theorem Ziq{N i:Nat}(h:i<N):mem (4+i) (fsF N)=true:=Z0W.2 (List.mem_append_right _ (Y0v.2 ⟨i,List.mem_range.2 h,rfl⟩))
theorem Zgg{N i:Nat}(h:i<2):mem i (fsF N)=false:=by
 cases hm:mem i (fsF N) with
 |false=>rfl
 |true =>
  exfalso
  rcases Y0f.1 (Z0W.1 hm)with h2|h2
  ·simp at h2;omega
  · obtain⟨j,_,hj⟩:=Y0v.1 h2
    omega
theorem Zju{t0 tm:Tr}{A E:Z00}{l:List (Nat×AV)}{g:DGr}{told:Bool}{r:List UInt8}(hA:gA g told=A)(hsub:Z7Z t0 tm=true)(hsl:SlotsGe [0,1] tm l)(hfl:g.frm.length=g.thr.length):FgLK 0 t0 tm (lg.sec A (gT g) E) l (gB ⟨g,told,r,true⟩):=by
 subst hA
 have hA4:(gA g told).length=4:=by cases told<;>rfl
 have hS:∀i,i<gN g->(lg.sec (gA g told) (gT g) E)[4+i]? = some (lg.inb (4+i) (gty g.thr.length i) (Z0J g i)):=λi hi=>lg.sec_mid hA4 (lg.inn_get _ _ _ hi)
 have h0:(lg.sec (gA g told) (gT g) E)[0]? = some Z7I:=lg.sec_lo (by cases told<;>rfl)
 have e1:frz (Z5G (fsF (gN g)) (lg.sec (gA g told) (gT g) E)) 30 (lg.grn 4 1 g.ini.length)=some (frN 1 g.ini.length (Z07 Z2b g.ini)):=Z8Z (m:=28) (hS 0 (by unfold gN;omega)) (Ziq (i:=0) (by unfold gN;omega)) (Z0Y (k:=1) (λ_=>rfl) _) (by decide) λH=>Z5k (Zdc _)
 have e4:frz (Z5G (fsF (gN g)) (lg.sec (gA g told) (gT g) E)) 30 (lg.grn 5 1 g.ord.length)=some (frN 1 g.ord.length (Z6o g.ord)):=Z8Z (m:=28) (hS 1 (by unfold gN;omega)) (Ziq (i:=1) (by unfold gN;omega)) (by show (Z6o g.ord).length=_;unfold Z6o;rw[Y0K,Y0u]) (by decide) λH=>Zdi _
 refine FgLK.mkD (fsF (gN g)) [0,1] rfl hsub (lg.SlotsGe.w hsl) ⟨rfl,λb o2 hb=>?_,λb b' o2 o2' j j' hb hb' _ _ hj hj' e=>?_⟩
 · match b,hb with
   |0,hb =>
    obtain rfl:Z7I=o2:=by simpa[gB]using hb
    exact⟨0,Z7I,rfl,h0,λ_=>rfl,λ_=>⟨rfl,rfl,Zgg (i:=0) (by decide),Y04 (Y06 (rest:=[]) rfl rfl)⟩⟩
   |1,hb =>
    obtain rfl:(⟨true,1,0,.cells (frC g told) tG⟩:AObj)=o2:=by simpa[gB]using hb
    cases told with
    |false =>
     refine⟨1,_,rfl,lg.sec_lo rfl,λ_=>rfl,λ_=>⟨rfl,rfl,Zgg (i:=1) (by decide),rfl,by simp[frC],λi c2 hc=>?_⟩⟩
     match i,hc with
     | 0, hc => obtain rfl : frN 1 g.ini.length (Z07 Z2b g.ini) = c2 := by simpa [frC] using hc
                exact⟨_,rfl,.inr e1⟩
     | 1, hc => obtain rfl : AV.nslice = c2 := by simpa [frC] using hc
                exact⟨_,rfl,.inl lg.nil_wk⟩
     | 2, hc => obtain rfl : AV.nslice = c2 := by simpa [frC] using hc
                exact⟨_,rfl,.inl lg.nil_wk⟩
     | 3, hc => obtain rfl : frN 1 g.ord.length (Z6o g.ord) = c2 := by simpa [frC] using hc
                exact⟨_,rfl,.inr e4⟩
     |i+4,hc=>simp[frC]at hc
    |true =>
     have g2:(Z5G (fsF (gN g)) (lg.sec (gA g true) (gT g) E))[2]? = some ⟨true,2,0,.cells (lg.outc 6 5 (thL g) g.thr.length) 56⟩:=lg.onlyF_get (lg.sec_lo rfl) Zn9
     have g3:(Z5G (fsF (gN g)) (lg.sec (gA g true) (gT g) E))[3]? = some ⟨true,3,0,.cells (lg.outc (6+g.thr.length) 2 (frL g) g.thr.length) 57⟩:=lg.onlyF_get (lg.sec_lo rfl) Zn8
     have e2:frz (Z5G (fsF (gN g)) (lg.sec (gA g true) (gT g) E)) 30 (.slice 2 0 g.thr.length g.thr.length 1)=some (.rs g.thr.length 1 (g.thr.map λl=>frN 5 l.length (Z07 evC l))):=by
      refine fzb g2 (by rw[lg.outc_len,Y0u]) (Z2e (by rw[lg.outc_len,Y0K]) λi u v hu hv=>?_)
      have hi:i<g.thr.length:=by have:=(Y09.1 hu).1;rwa [lg.outc_len]at this
      rw[lg.outc_get _ _ _ hi,Option.some.injEq]at hu
      subst hu
      rw[List.getElem?_map,Y0h hi,Y0D,Option.some.injEq]at hv
      subst hv
      have hgc:Z0J g (2+i)=Z07 evC g.thr[i]:=by
       unfold Z0J
       rw[if_neg (by omega),if_neg (by omega),if_pos (by omega),show 2+i-2=i by omega]
       simp[List.getD,hi]
      have hlen:thL g i=g.thr[i].length:=by unfold thL;simp[List.getD,hi]
      rw[hlen,<- hgc]
      have:=hS (2+i) (by unfold gN;omega)
      rw[show 4+(2+i)=6+i by omega]at this
      exact Z8Z (m:=27) this (by rw[show 6+i=4+(2+i) by omega];exact Ziq (by unfold gN;omega)) (by rw[hgc];exact Z0Y (k:=5) (λ_=>rfl) _) (by decide) λH=>by rw[hgc];exact Z5k (Zdp _)
     have e3:frz (Z5G (fsF (gN g)) (lg.sec (gA g true) (gT g) E)) 30 (.slice 3 0 g.thr.length g.thr.length 1)=some (.rs g.thr.length 1 (g.frm.map λl=>frN 2 l.length (Z07 idC l))):=by
      refine fzb g3 (by rw[lg.outc_len,Y0u]) (Z2e (by rw[lg.outc_len,Y0K,hfl]) λi u v hu hv=>?_)
      have hi:i<g.thr.length:=by have:=(Y09.1 hu).1;rwa [lg.outc_len]at this
      have hi2:i<g.frm.length:=by omega
      rw[lg.outc_get _ _ _ hi,Option.some.injEq]at hu
      subst hu
      rw[List.getElem?_map,Y0h hi2,Y0D,Option.some.injEq]at hv
      subst hv
      have hgc:Z0J g (2+g.thr.length+i)=Z07 idC g.frm[i]:=by
       unfold Z0J
       rw[if_neg (by omega),if_neg (by omega),if_neg (by omega),show 2+g.thr.length+i-2-g.thr.length=i by omega]
       simp[List.getD,hi2]
      have hlen:frL g i=g.frm[i].length:=by unfold frL;simp[List.getD,hi2]
      rw[hlen,<- hgc]
      have:=hS (2+g.thr.length+i) (by unfold gN;omega)
      rw[show 4+(2+g.thr.length+i)=6+g.thr.length+i by omega]at this
      exact Z8Z (m:=27) this (by rw[show 6+g.thr.length+i=4+(2+g.thr.length+i) by omega];exact Ziq (by unfold gN;omega)) (by rw[hgc];exact Z0Y (k:=2) (λ_=>rfl) _) (by decide) λH=>by rw[hgc];exact Z5k (Zde _)
     refine⟨1,_,rfl,lg.sec_lo rfl,λ_=>rfl,λ_=>⟨rfl,rfl,Zgg (i:=1) (by decide),rfl,by simp[frC],λi c2 hc=>?_⟩⟩
     match i,hc with
     | 0, hc => obtain rfl : frN 1 g.ini.length (Z07 Z2b g.ini) = c2 := by simpa [frC] using hc
                exact⟨_,rfl,.inr e1⟩
     | 1, hc => obtain rfl : AV.rs g.thr.length 1 (g.thr.map fun l => frN 5 l.length (Z07 evC l)) = c2 := by simpa [frC] using hc
                exact⟨_,rfl,.inr e2⟩
     | 2, hc => obtain rfl : AV.rs g.thr.length 1 (g.frm.map fun l => frN 2 l.length (Z07 idC l)) = c2 := by simpa [frC] using hc
                exact⟨_,rfl,.inr e3⟩
     | 3, hc => obtain rfl : frN 1 g.ord.length (Z6o g.ord) = c2 := by simpa [frC] using hc
                exact⟨_,rfl,.inr e4⟩
     |i+4,hc=>simp[frC]at hc
   |b+2,hb=>simp[gB]at hb
 · have h1:Z0m (lg.sec (gA g told) (gT g) E) 0=0:=Z1M (A:=gA g told) (j:=0) (o:=Z7I) (by cases told<;>rfl) rfl
   have h2:Z0m (lg.sec (gA g told) (gT g) E) 1=1:=by
    cases told
    ·exact Z1M (j:=1) rfl rfl
    ·exact Z1M (j:=1) rfl rfl
   match b,b',hj,hj' with
   |0,0,_,_=>rfl
   |1,1,_,_=>rfl
   |0,1,hj,hj'=>cases hj;cases hj';rw[h1,h2]at e;cases e
   |1,0,hj,hj'=>cases hj;cases hj';rw[h1,h2]at e;cases e
   |b+2,_,hj,_=>simp at hj
   |_,b+2,_,hj'=>simp at hj'
def nbM(i:Nat):Nat:=if i=1 then 5 else 4
theorem ZaO {t0 tm : Tr} {E : Z00} {l : List (Nat × AV)} {g : DGr} {n b2 b3 : Nat} {r : List UInt8} (hg0 : g.thr = []) (hb2 : 4 + gN g + 2 = b2) (hb3 : 4 + gN g + 3 = b3) (hsub : Z7Z t0 tm = true) (hsl : SlotsGe ([0, 1, b2, b3] ++ (List.range (2 + (n + n))).map nbM) tm l)
  (hE2:E[2]? = some ⟨true,b2,0,.cells (Z4w n [.nslice]) 56⟩) (hE3:E[3]? = some ⟨true,b3,0,.cells (Z4w n [.nslice]) 57⟩) :
  FgLK 0 t0 tm (lg.sec [Z7I,⟨true,1,0,.cells [lg.grn 4 1 g.ini.length,.slice b2 0 n n 1,.slice b3 0 n n 1,lg.grn 5 1 g.ord.length] tG⟩,⟨false,2,0,.cells [] 0⟩,⟨false,3,0,.cells [] 0⟩] (gT g) E) l (gB ⟨{ g with thr:=List.replicate n [],frm:=List.replicate n [] },true,r,false⟩):=by
 rw[Zgf]
 have hn:({ g with thr:=List.replicate n [],frm:=List.replicate n [] }:DGr).thr.length=n:=List.length_replicate
 have hN:gN ({ g with thr:=List.replicate n [],frm:=List.replicate n [] }:DGr)=2+(n+n):=by unfold gN;rw[hn]
 have hT:∀j,thL ({ g with thr:=List.replicate n [],frm:=List.replicate n [] }:DGr) j=0:=λj=>by
  show ((List.replicate n ([]:List DEv)).getD j []).length=0
  rw[Y0j,Y0C]
  split<;>rfl
 have hF:∀j,frL ({ g with thr:=List.replicate n [],frm:=List.replicate n [] }:DGr) j=0:=λj=>by
  show ((List.replicate n ([]:List DId)).getD j []).length=0
  rw[Y0j,Y0C]
  split<;>rfl
 have hc:∀i,Z0J ({ g with thr:=List.replicate n [],frm:=List.replicate n [] }:DGr) i=if i<2 then Z0J g i else []:=λi=>by
  have e1:∀j,(List.replicate n ([]:List DEv)).getD j []=[]:=λj=>by
   rw[Y0j,Y0C];split<;>rfl
  have e2:∀j,(List.replicate n ([]:List DId)).getD j []=[]:=λj=>by
   rw[Y0j,Y0C];split<;>rfl
  unfold Z0J
  by_cases h0:i=0
  ·subst h0;rfl
  · by_cases h1:i=1
    ·subst h1;rfl
    · rw[if_neg h0,if_neg h1,if_neg (show ¬i<2 by omega)]
      simp only[e1,e2]
      split<;>rfl
 have hro:∀(k z:Nat)(f:Nat->Nat),(∀j,f j=0)->BodyGe ([0,1,b2,b3]++(List.range (2+(n+n))).map nbM) (.cells (Z4w n [.nslice]) 56) (.cells (lg.outc k z f n) 56)/\BodyGe ([0,1,b2,b3]++(List.range (2+(n+n))).map nbM) (.cells (Z4w n [.nslice]) 57) (.cells (lg.outc k z f n) 57):=λk z f hf=>by
  have e:lg.outc k z f n=Z4w n [.nslice]:=by
   have e1:lg.outc k z f n=List.replicate n .nslice:=by
    refine List.eq_replicate_iff.2 ⟨lg.outc_len _ _ _ _,λb hb=>?_⟩
    obtain⟨i,_,rfl⟩:=Y0v.1 hb
    rw[hf];rfl
   rw[e1]
   clear e1 hf hsl hE2 hE3 hn hN hT hF hc
   induction n with
   |zero=>rfl
   |succ n ih=>rw[List.replicate_succ,ih];rfl
  have er:refsL (Z4w n [.nslice]) []=[]:=by
   clear e hf hsl hE2 hE3 hn hN hT hF hc
   induction n with
   |zero=>rfl
   |succ n ih=>exact ih
  rw[e]
  exact⟨Y06 (rest:=[]) (by simp) er,Y06 (rest:=[]) (by simp) er⟩
 have hS:∀i,i<2->(lg.sec [Z7I,⟨true,1,0,.cells [lg.grn 4 1 g.ini.length,.slice b2 0 n n 1,.slice b3 0 n n 1,lg.grn 5 1 g.ord.length] tG⟩,⟨false,2,0,.cells [] 0⟩,⟨false,3,0,.cells [] 0⟩] (gT g) E)[4+i]? = some (lg.inb (4+i) (gty g.thr.length i) (Z0J g i)):=λi hi=>lg.sec_mid rfl (lg.inn_get _ _ _ (by unfold gN;omega))
 have h2:(lg.sec [Z7I,⟨true,1,0,.cells [lg.grn 4 1 g.ini.length,.slice b2 0 n n 1,.slice b3 0 n n 1,lg.grn 5 1 g.ord.length] tG⟩,⟨false,2,0,.cells [] 0⟩,⟨false,3,0,.cells [] 0⟩] (gT g) E)[b2]? = some ⟨true,b2,0,.cells (Z4w n [.nslice]) 56⟩:=atG (Z3T g) hb2 rfl hE2
 have h3:(lg.sec [Z7I,⟨true,1,0,.cells [lg.grn 4 1 g.ini.length,.slice b2 0 n n 1,.slice b3 0 n n 1,lg.grn 5 1 g.ord.length] tG⟩,⟨false,2,0,.cells [] 0⟩,⟨false,3,0,.cells [] 0⟩] (gT g) E)[b3]? = some ⟨true,b3,0,.cells (Z4w n [.nslice]) 57⟩:=atG (Z3T g) hb3 rfl hE3
 rw[hN,hn]
 generalize hH:lg.sec _ _ _=H at hS h2 h3⊢
 have h0:H[0]? = some Z7I:=by rw[<- hH];exact lg.sec_lo rfl
 have h1:H[1]? = some ⟨true,1,0,.cells [lg.grn 4 1 g.ini.length,.slice b2 0 n n 1,.slice b3 0 n n 1,lg.grn 5 1 g.ord.length] tG⟩:=by rw[<- hH];exact lg.sec_lo rfl
 have m4:([0,1,b2,b3]++(List.range (2+(n+n))).map nbM)[4]? = some 4:=lg.ml_at (ml:=[0,1,b2,b3]) (i:=0) rfl (by omega)
 have m5:([0,1,b2,b3]++(List.range (2+(n+n))).map nbM)[5]? = some 5:=lg.ml_at (ml:=[0,1,b2,b3]) (i:=1) rfl (by omega)
 have hA:lg.HpGeD [] H ([0,1,b2,b3]++(List.range (2+(n+n))).map nbM) [0,1,b2,b3] (gA ({ g with thr:=List.replicate n [],frm:=List.replicate n [] }:DGr) true):=by
  unfold gA
  rw[hn]
  exact⟨onOI h0 (.inr ⟨rfl,rfl,rfl,Y04 (Y06 (rest:=[]) rfl rfl)⟩),onOI h1 (.inr ⟨rfl,rfl,rfl,Y04 (Y0r ⟨lg.grn_wk m4,Y0b rfl rfl rfl (Y01 _) (Y01 _) rfl,Y0b rfl rfl rfl (Y01 _) (Y01 _) rfl,lg.grn_wk m5,trivial⟩)⟩),
   onOI h2 (.inr ⟨rfl,rfl,rfl,Y04 (hro _ _ _ hT).1⟩),onOI h3 (.inr ⟨rfl,rfl,rfl,Y04 (hro _ _ _ hF).2⟩),trivial⟩
 have f0:Z0m H 0=0:=lg.famOf_get h0
 have f1:Z0m H 1=1:=lg.famOf_get h1
 have f2:Z0m H b2=b2:=lg.famOf_get h2
 have f3:Z0m H b3=b3:=lg.famOf_get h3
 have fl:lg.famsL H (gA ({ g with thr:=List.replicate n [],frm:=List.replicate n [] }:DGr) true) [0,1,b2,b3]=[0,1,b2,b3]:=by simp[lg.famsL,gA,Z7I,f0,f1,f2,f3]
 have f4:∀i,i<2->Z0m H (nbM i)=4+i:=λi hi=>by
  have e:nbM i=4+i:=by unfold nbM;split<;>omega
  rw[e,lg.famOf_get (hS i hi),lg.inb_fam]
 have hlt:∀i,Z0J ({ g with thr:=List.replicate n [],frm:=List.replicate n [] }:DGr) i≠[]->i<2:=λi h=>by
  rw[hc]at h
  by_cases hi:i<2
  ·exact hi
  ·rw[if_neg hi]at h;exact absurd rfl h
 refine FgLK.mkD [] _ rfl hsub (lg.SlotsGe.w hsl) (lg.HpD.sec (k:=4) (nb:=nbM) hA rfl (λi hi=>?_) (λi hi hne=>?_) (λi hi=>Z5O _ _) (by rw[fl];simp;omega) (λi hi hne=>?_) (λi i' hi hi' hne hne' e=>?_))
 · by_cases h1:i=1
   ·subst h1;exact⟨_,hS 1 (by omega),lg.inb_sh⟩
   ·exact⟨_,by unfold nbM;rw[if_neg h1];exact hS 0 (by omega),lg.inb_sh⟩
 · have hi2:=hlt i hne
   have e:nbM i=4+i:=by unfold nbM;split<;>omega
   rw[hc,if_pos hi2]at hne⊢
   refine⟨_,by rw[e];exact hS i hi2,lg.inb_al.2 hne,?_⟩
   rw[lg.inb_ne hne]
   have:gty g.thr.length i=gty n i:=by unfold gty;match i,hi2 with|0,_=>rfl|1,_=>rfl
   rw[this]
 · rw[fl,f4 i (hlt i hne)]
   have:=hlt i hne
   have:2<=gN g:=by unfold gN;omega
   simp;omega
 · rw[f4 i (hlt i hne),f4 i' (hlt i' hne')]at e
   omega
def Z4L(g:DGr)(j:Nat)(e:DEv)(d:DId):DGr:={ g with thr:=g.thr.set j (g.thr.getD j []++[e]),frm:=g.frm.set j (g.frm.getD j []++[d]) }
theorem ZjQ{g:DGr}{told:Bool}{x:DLn}{j:Nat}(hk:x.kind=Z0k)(hfl:g.frm.length=g.thr.length)(h1:x.id.t=(j+1:Nat))(hj:j<g.thr.length)(h2:x.id.i=(thL g j:Nat)):Z1I g told x=some (Z4L g j x.ev x.frm,told):=by
 have e0:(x.id.t-1).toNat=j:=by omega
 have hj2:j<g.frm.length:=by omega
 unfold Z1I
 rw[if_neg (by rw[hk];decide),if_neg (by rw[hk];decide),if_pos hk,if_neg (by omega),e0,Y0h hj,Y0h hj2]
 simp only
 have e1:g.thr.getD j []=g.thr[j]:=by simp[List.getD,hj]
 have e2:g.frm.getD j []=g.frm[j]:=by simp[List.getD,hj2]
 rw[if_pos (by rw[h2];unfold thL;rw[e1])]
 unfold Z4L
 rw[e1,e2]
theorem Zfz{g:DGr}{told:Bool}{x:DLn}(hk:x.kind=Z0k)(h:¬(1<=x.id.t/\(x.id.t-1).toNat<g.thr.length/\x.id.i=(thL g (x.id.t-1).toNat:Nat))):Z1I g told x=none:=by
 unfold Z1I
 rw[if_neg (by rw[hk];decide),if_neg (by rw[hk];decide),if_pos hk]
 split
 ·rfl
 · rename_i h1
   split
   · rename_i l f hl hf
     obtain⟨a1,a2⟩:=Y09.1 hl
     split
     · rename_i h2
       refine absurd ⟨by omega,a1,?_⟩ h
       rw[h2];unfold thL
       rw[Y0j,hl];rfl
     ·rfl
   ·rfl
theorem Z6z{α : Type}(l:List α)(j i:Nat)(a d : α)(hj:j<l.length):(l.set j a).getD i d=if i=j then a else l.getD i d:=by
 rw[Y0j,List.getElem?_set]
 by_cases h:j=i
 ·subst h;simp[hj]
 ·rw[if_neg h,if_neg (Ne.symm h),Y0j]
theorem ZjD{g:DGr}{j:Nat}{e:DEv}{d:DId}(hj:j<g.thr.length)(i:Nat):thL (Z4L g j e d) i=if i=j then thL g j+1 else thL g i:=by
 show ((g.thr.set j _).getD i []).length=_
 rw[Z6z _ _ _ _ _ hj]
 split
 ·rw[Y07];rfl
 ·rfl
theorem Zky{g:DGr}{j:Nat}{e:DEv}{d:DId}(hj:j<g.frm.length)(i:Nat):frL (Z4L g j e d) i=if i=j then frL g j+1 else frL g i:=by
 show ((g.frm.set j _).getD i []).length=_
 rw[Z6z _ _ _ _ _ hj]
 split
 ·rw[Y07];rfl
 ·rfl
theorem Z8M{g:DGr}{j:Nat}{e:DEv}{d:DId}:(Z4L g j e d).thr.length=g.thr.length:=List.length_set
theorem Zm9{g:DGr}{j:Nat}{e:DEv}{d:DId}(hj:j<g.thr.length)(hf:g.frm.length=g.thr.length)(i:Nat)(hi:i<gN g):Z0J (Z4L g j e d) i=if i=2+j then Z0J g (2+j)++evC e else if i=2+g.thr.length+j then Z0J g (2+g.thr.length+j)++idC d else Z0J g i:=by
 unfold Z0J
 rw[Z8M]
 have e1:∀i,(Z4L g j e d).thr.getD i []=if i=j then g.thr.getD j []++[e] else g.thr.getD i []:=λi=>Z6z _ _ _ _ _ hj
 have e2:∀i,(Z4L g j e d).frm.getD i []=if i=j then g.frm.getD j []++[d] else g.frm.getD i []:=λi=>Z6z _ _ _ _ _ (by omega)
 by_cases h0:i=0
 · subst h0
   rw[if_pos rfl,if_neg (by omega),if_neg (by omega)];rfl
 by_cases h1:i=1
 · subst h1
   rw[if_neg (by omega),if_pos rfl,if_neg (by omega),if_neg (by omega)];rfl
 rw[if_neg h0,if_neg h1]
 rw[if_neg (show ¬i=0 from h0),if_neg (show ¬i=1 from h1)]
 by_cases h2:i<2+g.thr.length
 · rw[if_pos h2,if_pos h2,e1]
   by_cases h3:i=2+j
   · subst h3
     rw[if_pos rfl,if_pos (by omega),if_neg (by omega),if_neg (by omega),if_pos (by omega),Z3r,show 2+j-2=j by omega];simp[Z07]
   ·rw[if_neg h3,if_neg (by omega),if_neg (by omega)]
 · rw[if_neg h2,if_neg h2,e2]
   by_cases h3:i=2+g.thr.length+j
   · subst h3
     rw[if_pos (by omega),if_neg (by omega),if_pos rfl,if_neg (by omega),if_neg (by omega),if_neg (by omega),Z3r,show 2+g.thr.length+j-2-g.thr.length=j by omega];simp[Z07]
   ·rw[if_neg h3,if_neg (by omega),if_neg (by omega)]
theorem ZnH{m:List Nat}{k z n j b:Nat}{len len':Nat->Nat}{t:TypeId}(hj:j<n)(hl:∀i,len' i=if i=j then len j+1 else len i)(hm:∀i,i<n->i≠j->m[k+i]? = some (k+i))(hb:m[k+j]? = some b):BodyGe m (.cells ((lg.outc k z len n).set j (.slice b 0 (len j+1) (len j+1) z)) t) (.cells (lg.outc k z len' n) t) :=
 lg.outc_ge (by rw[List.length_set,lg.outc_len];exact Y01 _) λi hi=>by
  by_cases h:i=j
  · subst h
    rw[hl,if_pos rfl]
    exact .inr ⟨b,by rw[List.getElem?_set_self (by rw[lg.outc_len];exact hi)],Nat.succ_pos _,hb⟩
  ·exact .inl ⟨by rw[List.getElem?_set_ne (Ne.symm h),lg.outc_get _ _ _ hi],by rw[hl,if_neg h],hm i hi h⟩
def ZkD(k:Nat):Z00->Prop
 |[]=>True
 |o::E=>o.fam≠k/\ZkD k E
theorem Zax{k:Nat}:∀{E:Z00},ZkD k E->∀o∈E,o.fam≠k
 |[],_,o,h=>by cases h
 |x::E,h,o,ho=>by
  rcases Y0s.1 ho with rfl|ho
  ·exact h.1
  ·exact Zax h.2 o ho
def nbE(n j b3 b5:Nat)(i:Nat):Nat:=if i=2+j then b3 else if i=2+n+j then b5 else 4+i
theorem ZdG {t0 tm : Tr} {E : Z00} {l : List (Nat × AV)} {g : DGr} {j b3 b5 tl fl f3 f5 : Nat} {e : DEv} {d : DId} {r : List UInt8} (hj : j < g.thr.length) (hfl : g.frm.length = g.thr.length) (hb3 : 4 + gN g + 3 = b3) (hb5 : 4 + gN g + 5 = b5) (htl : thL g j = tl) (hfl2 : frL g j = fl)
  (hsub:Z7Z t0 tm=true) (hsl:SlotsGe ([0,1,2,3]++(List.range (gN g)).map (nbE g.thr.length j b3 b5)) tm l)
  (hE3:E[3]? = some ⟨true,f3,0,.cells (Z0J g (2+j)++evC e) 60⟩) (hf3:f3=6+j\/f3=b3) (hE5:E[5]? = some ⟨true,f5,0,.cells (Z0J g (2+g.thr.length+j)++idC d) 63⟩) (hf5:f5=6+g.thr.length+j\/f5=b5) :
  FgLK 0 t0 tm (lg.sec [Z7I,⟨true,1,0,.cells [lg.grn 4 1 g.ini.length,.slice 2 0 g.thr.length g.thr.length 1,.slice 3 0 g.thr.length g.thr.length 1,lg.grn 5 1 g.ord.length] tG⟩,⟨true,2,0,.cells ((lg.outc 6 5 (thL g) g.thr.length).set j (.slice b3 0 (tl+1) (tl+1) 5)) 56⟩,⟨true,3,0,.cells ((lg.outc (6+g.thr.length) 2 (frL g) g.thr.length).set j (.slice b5 0 (fl+1) (fl+1) 2)) 57⟩] (gT g) E) l (gB ⟨Z4L g j e d,true,r,false⟩):=by
 subst htl
 subst hfl2
 have hN:gN (Z4L g j e d)=gN g:=by unfold gN;rw[Z8M]
 have hgN:gN g=2+(g.thr.length+g.thr.length):=rfl
 have hm:∀i,i<gN g->([0,1,2,3]++(List.range (gN g)).map (nbE g.thr.length j b3 b5))[4+i]? = some (nbE g.thr.length j b3 b5 i):=λi hi=>ml4 hi
 have hmk:∀i,i<gN g->i≠2+j->i≠2+g.thr.length+j->([0,1,2,3]++(List.range (gN g)).map (nbE g.thr.length j b3 b5))[4+i]? = some (4+i):=λi hi h1 h2=>by
  rw[hm i hi];unfold nbE;rw[if_neg h1,if_neg h2]
 have hm1:([0,1,2,3]++(List.range (gN g)).map (nbE g.thr.length j b3 b5))[6+j]? = some b3:=by
  rw[show 6+j=4+(2+j) by omega,hm _ (by omega)];unfold nbE;rw[if_pos rfl]
 have hm2:([0,1,2,3]++(List.range (gN g)).map (nbE g.thr.length j b3 b5))[6+g.thr.length+j]? = some b5:=by
  rw[show 6+g.thr.length+j=4+(2+g.thr.length+j) by omega,hm _ (by omega)];unfold nbE;rw[if_neg (by omega),if_pos rfl]
 refine Z36 (g:=g) (g':=Z4L g j e d) (told:=true) (nb:=nbE g.thr.length j b3 b5) hsub (by rw[hN];exact hsl) Z8M (λi hi=>lg.sec_mid rfl (lg.inn_get _ _ _ hi)) ?_ (λi hi=>?_) (λi i' hi hi' h=>?_) (Z1M rfl rfl) (Z1M rfl rfl) (Z1M rfl rfl) (Z1M rfl rfl)
 · rw[hN]
   unfold gA
   rw[Z8M]
   refine⟨onOI (lg.sec_lo rfl) (.inr ⟨rfl,rfl,rfl,Y04 (Y06 (rest:=[]) rfl rfl)⟩),onOI (lg.sec_lo rfl) (.inr ⟨rfl,rfl,rfl,Y04 (Y0r ⟨lg.grn_wk (hmk 0 (by omega) (by omega) (by omega)),Y0b rfl rfl rfl (Y01 _) (Y01 _) rfl,Y0b rfl rfl rfl (Y01 _) (Y01 _) rfl,lg.grn_wk (hmk 1 (by omega) (by omega) (by omega)),trivial⟩)⟩),
    onOI (lg.sec_lo rfl) (.inr ⟨rfl,rfl,rfl,Y04 (ZnH hj (λi=>ZjD hj i) (λi hi hne=>?_) hm1)⟩),onOI (lg.sec_lo rfl) (.inr ⟨rfl,rfl,rfl,Y04 (ZnH hj (λi=>Zky (by omega) i) (λi hi hne=>?_) hm2)⟩),trivial⟩
   · have:=hmk (2+i) (by omega) (by omega) (by omega)
     rwa [show 4+(2+i)=6+i by omega]at this
   · have:=hmk (2+g.thr.length+i) (by omega) (by omega) (by omega)
     rwa [show 4+(2+g.thr.length+i)=6+g.thr.length+i by omega]at this
 · rw[Zm9 hj hfl i hi]
   by_cases h1:i=2+j
   · subst h1
     rw[if_pos rfl]
     have e1:nbE g.thr.length j b3 b5 (2+j)=b3:=by unfold nbE;rw[if_pos rfl]
     have e2:gty g.thr.length (2+j)=60:=by unfold gty;rw[if_neg (by omega),if_neg (by omega),if_pos (by omega)]
     rw[e1,e2]
     exact .inr ⟨f3,atG (Z3T g) hb3 rfl hE3,by omega,by omega⟩
   · rw[if_neg h1]
     by_cases h2:i=2+g.thr.length+j
     · subst h2
       rw[if_pos rfl]
       have e1:nbE g.thr.length j b3 b5 (2+g.thr.length+j)=b5:=by unfold nbE;rw[if_neg (by omega),if_pos rfl]
       have e2:gty g.thr.length (2+g.thr.length+j)=63:=by unfold gty;rw[if_neg (by omega),if_neg (by omega),if_neg (by omega)]
       rw[e1,e2]
       exact .inr ⟨f5,atG (Z3T g) hb5 rfl hE5,by omega,by omega⟩
     · rw[if_neg h2]
       exact .inl ⟨by unfold nbE;rw[if_neg h1,if_neg h2],rfl⟩
 · unfold nbE at h
   split at h<;>split at h<;>(try split at h)<;>(try split at h)<;>omega
end
section
set_option maxHeartbeats 40000000
attribute [local irreducible] Go.Abs.frcHW Go.Abs.frcNP lg.sec
def Zgy:AV:=.tuple [.agg [.nslice,.nslice,.nslice,.nslice],.str [],.bool false]
def onV(s:List UInt8):Option (DGr×Bool×List UInt8)->AV
 |none=>Zgy
 |some (g,told,rest)=>if Z0e g=0/\Z0y g=s.take (s.length-rest.length) then .tuple [.agg (frC g told),.str rest,.bool true] else Zgy
structure OnI (s:List UInt8) (RR:Option (DGr×Bool×List UInt8)) (t:OnS) (c:Nat):Prop where
 wf:Wf t.g t.told c
 few:c+t.rest.length<=s.length
 on:t.ended=false->Z2m t.g t.told t.rest=RR
 en:t.ended=true->RR=some (t.g,t.told,t.rest)
def Zo5(f:Nat):Bool:=Y03 f 36 || (Y03 f 25 || (Y03 f 27 || Y03 f 28))
def Zj3(s:List UInt8)(RR:Option (DGr×Bool×List UInt8))(O:Orc)(hs:s.length<=1048576)(hRR:RR=Z2m gr0 false s)(hO:OrcSound Y00 runLives.gl O):{ G:OnS->Prop // (∀t,(∃c,OnI s RR t c)->G t)->ValOK Y00 runLives.gl 24 [.str s] (onV s RR) }:=by
 apply Subtype.mk
 intro hG
 refine Z0u Zo5 2 follows Z0a hO Tryz.func24 rfl ?_
 show Z10 _ _
 rw[Z0x]
 generalize hAs:AV.str s=A0
 conv in (tmk _ _)=>reduce
 subst hAs
 repeat' ((conv=>whnf);first|(with_reducible refine lg.frcNPS rfl ?_)|(with_reducible refine frcHW_x ?_)|(with_reducible refine frcNP_x ?_)|(with_reducible refine Z0B ?_)|(with_reducible refine Z0A ?_)|refine stp ?_|with_reducible apply Z01<;>intro h)
 conv=>whnf
 refine⟨OnS,(λt=>∃c,OnI s RR t c),(λt=>[(0,.str s),(2,.ptr 0 0),(3,.str []),(4,.bool false),(5,.ptr 1 0),(6,.str t.rest),(7,.bool t.ended)]),gB,(λt=>t.rest.length),⟨⟨gr0,false,s,false⟩,⟨0,ZmD,by show 0+s.length<=_;omega,λ_=>hRR.symm,λh=>by cases h⟩,?_⟩,?_⟩
 · have e0:=Zgf gr0 false s
   rw[e0]
   refine FgLK.mkD [] ([0,1,0,0]++(List.range 2).map λ_=>0) rfl rfl (lg.SlotsGe.w ?_) (lg.HpD.sec (k:=4) (n:=2) (nb:=λ_=>0) ⟨onOI rfl (.inr ⟨rfl,rfl,rfl,Y04 (Y06 (rest:=[]) rfl rfl)⟩),onOI rfl (.inr ⟨rfl,rfl,rfl,Y04 (Y06 (rest:=[]) rfl rfl)⟩),onOI rfl (.inl ⟨rfl,rfl,rfl⟩),onOI rfl (.inl ⟨rfl,rfl,rfl⟩),trivial⟩ rfl (λi hi=>⟨_,rfl,rfl⟩) (λi hi h=>?_) (λi hi=>Z5O _ _) (by decide) (λi hi h=>?_) (λi i' hi hi' h=>?_))
   · refine stw ?_
     refine And.intro (Wk.ptr rfl rfl) ?_
     iterate 2 refine stw ?_
     refine And.intro (Wk.ptr rfl rfl) ?_
     exact wks
   all_goals exact absurd (by match i,hi with|0,_=>rfl|1,_=>rfl) h
 exact hG
end
end Go.Proofs.YtpcpdlfhcahjgaaGreatDoor.lex

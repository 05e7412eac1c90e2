/-
  Texts of this proof, one behind the other (part 4).
-/
import Derived.Test.YtpcpdlfhcahjgaaGreatDoorXd3
import Derived.Shelf.Strconv.Itoa2
import Derived.Ground.NamesProg
import Derived.Test.YtpcpdlfhcahjgaaGreatDoorProg
import Derived.Lib.ItoaMem
import Derived.Shelf.Strconv.Itoa1
import Derived.Shelf.Strconv.Itoa0
import Derived.Sort.KeysCollected
import Derived.Maps.OwnSet
set_option linter.unusedVariables false
set_option linter.unusedSimpArgs false
set_option maxRecDepth 100000
set_option maxHeartbeats 4000000
open Go.Proofs.Tryz renaming prog → Y00,underlying3 → Y0b,func59 → Y0r,underlying2 → Y0y,func40 → Y0C,func54 → Y0E,isAgg3 → Y0F,sizeOf3 → Y0G,zeroValue3 → Y0H,func60 → Y0L,underlying63 → Y0T,underlying60 → Y0U,underlying33 → Y0V,underlying4 → Y0W,zeroValue4 → Y0X
open And renaming intro → Y01
open Go.Abs.Wk renaming int → Y02,noref → Y05,ptr → Y06,slice → Y0h
open List renaming length_cons → Y03,length_append → Y08,length_take → Y09,getElem?_eq_getElem → Y0c,cons_append → Y0l,getElem?_eq_some_iff → Y0m,drop_eq_getElem_cons → Y0n,append_assoc → Y0o,length_map → Y0p,take_succ_eq_append_getElem → Y0q,getElem?_append_left → Y0s,take_append_drop → Y0u,map_cons → Y0v,eq_nil_of_length_eq_zero → Y0A,drop_eq_nil_of_le → Y0B,getElem?_append_right → Y0I,length_nil → Y0J,length_drop → Y0K,append_nil → Y0M,getElem_mem → Y0N,getElem?_set_ne → Y0P,ext_getElem? → Y0S,mem_of_getElem? → Y0Y,all_eq_true → Y0Z,take_length → Y12,getElem_map → Y13,getElem?_eq_none → Y14,getElem?_set_self → Y15
open Nat renaming beq → Y04,le_refl → Y07,zero_le → Y0d,zero_add → Y0e,eq_of_beq_eq_true → Y0f,le_trans → Y0j,mul_one → Y0z,min_eq_left → Y0Q
open Go.Abs.FgL renaming mk → Y0a,mk0 → Y0g
open Go.Abs.BodyGe renaming pre → Y0i,cellsL → Y0k
open Bool renaming false_and → Y0t,and_eq_true → Y0w,eq_false_iff → Y0x,and_false → Y0O,not_eq_true' → Y0R,false_eq_true → Y11
open Option renaming map_some → Y0D
open Int renaming toNat_natCast → Y10
namespace Go.Proofs.YtpcpdlfhcahjgaaGreatDoor.lex
open Go.Abs Go.RowKit
section
structure DId where
 t:Int
 i:Int
deriving DecidableEq
structure DEv where
 k:Int
 l:Int
 o:Int
 r:Int
 w:Int
deriving DecidableEq
structure DGr where
 ini:List Int
 thr:List (List DEv)
 frm:List (List DId)
 ord:List (List DId)
deriving DecidableEq
def DEv.rd(e:DEv):Bool:=e.k==1 || e.k==3
def DEv.wr(e:DEv):Bool:=e.k==2 || e.k==3
def DGr.ev(g:DGr)(d:DId):Option DEv :=
 if d.t<0\/d.i<0 then none
 else if d.t=0 then (g.ini[d.i.toNat]?).map λv=>⟨2,d.i,1,0,v⟩
 else match g.thr[d.t.toNat-1]? with
  |none=>none
  |some l=>l[d.i.toNat]?
def evD:DEv:=⟨0,0,0,0,0⟩
def idD:DId:=⟨0,0⟩
def Z3l(n:Nat)(e:DEv):Bool :=
 decide (1<=e.k)&&decide (e.k<=4)&&decide (1<=e.o)&&decide (e.o<=6)&&(e.rd || e.r==0)&&(e.wr || e.w==0)&&(if e.k=4 then e.l==0 else decide (0<=e.l)&&decide (e.l<(n:Int)))
def ZeS(g:DGr)(d:DId)(e:DEv)(f:DId):Bool :=
 if e.rd then (match g.ev f with
  |some w=>decide (f≠d)&&w.wr&&w.l==e.l&&w.w==e.r
  |none=>false)
 else decide (f=idD)
def Z1F(g:DGr)(t:Nat):Nat->List DEv->List DId->Bool
 |_,[],[]=>true
 |i,e::es,f::fs=>Z3l g.ini.length e&&ZeS g ⟨(t:Int)+1,i⟩ e f&&Z1F g t (i+1) es fs
 |_,_,_=>false
def Z0V(g:DGr):Nat->List (List DEv)->List (List DId)->Bool
 |_,[],[]=>true
 |t,l::ls,f::fs=>Z1F g t 0 l f&&Z0V g (t+1) ls fs
 |_,_,_=>false
def Z4W(t:Nat):Nat->List DEv->List (DId×Int)
 |_,[]=>[]
 |i,e::es=>if e.wr then (⟨(t:Int)+1,i⟩,e.l)::Z4W t (i+1) es else Z4W t (i+1) es
def Z14:Nat->List (List DEv)->List (DId×Int)
 |_,[]=>[]
 |t,l::ls=>Z4W t 0 l++Z14 (t+1) ls
def Z4B(left:List (DId×Int))(x:Nat)(d:DId):Option (List (DId×Int)) :=
 match left.findIdx? (λp=>p.1==d) with
 |some j=>if (left[j]?).map (·.2)=some (x:Int) then some (left.eraseIdx j) else none
 |none=>none
def Z2Q(x:Nat):List DId->List (DId×Int)->Option (List (DId×Int))
 |[],left=>some left
 |d::ds,left=>match Z4B left x d with
  |some l=>Z2Q x ds l
  |none=>none
def Z2c:Nat->List (List DId)->List (DId×Int)->Option (List (DId×Int))
 |_,[],left=>some left
 |x,o::os,left=>match Z2Q x o left with
  |some l=>Z2c (x+1) os l
  |none=>none
def Z2X(g:DGr):Bool:=decide (4<g.thr.length) || decide (6<g.ini.length) || g.thr.any λl=>decide (14<l.length)
def Zan(g:DGr):Bool:=g.frm.length==g.thr.length&&g.ord.length==g.ini.length&&Z0V g 0 g.thr g.frm&&decide (Z2c 0 g.ord (Z14 0 g.thr)=some [])
def Z0e(g:DGr):Int:=if Z2X g then 3 else if Zan g then 0 else 2
def Z0g(n:Int):List UInt8:=if n<0 then 45::Z4s n.natAbs else Z4s n.toNat
def idT(d:DId):List UInt8:=Z0g d.t++(46::Z0g d.i)
def Z0P:List (List UInt8)->List UInt8
 |[]=>[]
 |[w]=>w
 |w::v::l=>w++(32::Z0P (v::l))
def Z0v(l:List (List UInt8)):List UInt8:=Z0P (l.filter λw=>w != [])
def Z1E(k:Int):List UInt8:=if k=1 then [114,101,97,100] else if k=2 then [119,114,105,116,101] else if k=3 then [117,112,100,97,116,101] else if k=4 then [102,101,110,99,101] else []
def evT(e:DEv):List UInt8:=Z0v [Z1E e.k,if e.k=4 then [] else 120::Z0g e.l,Z3D e.o,if e.rd then Z0g e.r else [],if e.wr then Z0g e.w else []]
def Z0s(l:List (List UInt8)):List UInt8:=Z0v l++[10]
def Z0j:List UInt8:=[103,114,97,112,104]
def Z23:List UInt8:=[108,111,99]
def Z0k:List UInt8:=[101,118,101,110,116]
def Z0d:List UInt8:=[111,114,100,101,114]
def Z16:List UInt8:=[101,110,100]
def Z31:List UInt8:=[102,114,111,109]
def Z2o:Nat->List Int->List UInt8
 |_,[]=>[]
 |x,v::vs=>Z0s [Z23,Z0g x,Z0g v]++Z2o (x+1) vs
def Z2f(e:DEv)(f:DId):List UInt8:=if e.rd then Z0v [Z31,idT f] else []
def Z3I(t:Nat):Nat->List DEv->List DId->List UInt8
 |_,[],_=>[]
 |_,_::_,[]=>[]
 |i,e::es,f::fs=>Z0s [Z0k,idT ⟨(t:Int)+1,i⟩,evT e,Z2f e f]++Z3I t (i+1) es fs
def Z1q:Nat->List (List DEv)->List (List DId)->List UInt8
 |_,[],_=>[]
 |_,_::_,[]=>[]
 |t,l::ls,f::fs=>Z3I t 0 l f++Z1q (t+1) ls fs
def Z1Y:Nat->List (List DId)->List UInt8
 |_,[]=>[]
 |x,o::os=>Z0s [Z0d,Z0g x,Z0v (o.map idT)]++Z1Y (x+1) os
def Z0y(g:DGr):List UInt8:=Z0s [Z0j,Z0g g.thr.length]++(Z2o 0 g.ini++(Z1q 0 g.thr g.frm++(Z1Y 0 g.ord++Z0s [Z16])))
def Z1b(c:UInt8):List UInt8->Option (List UInt8×List UInt8)
 |[]=>none
 |b::s=>if b=c then some ([],s) else match Z1b c s with
  |some (x,y)=>some (b::x,y)
  |none=>none
def Z0C:List UInt8->List (List UInt8)
 |[]=>[[]]
 |b::s=>if b=32 then []::Z0C s else match Z0C s with
  |[]=>[[b]]
  |w::l=>(b::w)::l
def Zeo:Nat->List UInt8->Option Nat
 |a,[]=>some a
 |a,b::s=>if 48<=b.toNat/\b.toNat<=57 then Zeo (10*a+(b.toNat-48)) s else none
def Zbh(s:List UInt8):Option Int :=
 let n:Int:=match s with
  |45::r=>match Zeo 0 r with|some m=>-(m:Int)|none=>0
  |_=>match Zeo 0 s with|some m=>(m:Int)|none=>0
 if Z0g n=s /\ -9223372036854775808<=n/\n<=9223372036854775807 then some n else none
def Z81(s:List UInt8):Option Int :=
 match Zbh s with
 |some n=>if 0<=n/\n<=999 then some n else none
 |none=>none
structure DLf where
 l:List (List UInt8)
 ok:Bool
deriving DecidableEq
structure DLn where
 kind:List UInt8
 n:Int
 v:Int
 id:DId
 ev:DEv
 frm:DId
 ids:List DId
deriving DecidableEq
def DLf.next(w:DLf):List UInt8×DLf:=match w.l with
 |[]=>([],w)
 |s::l=>(s,⟨l,w.ok⟩)
def DLf.small(w:DLf)(s:List UInt8):Int×DLf:=match Z81 s with
 |some n=>(n,w)
 |none=>(0,⟨w.l,false⟩)
def DLf.number(w:DLf):Int×DLf:=match Zbh w.next.1 with
 |some n=>(n,w.next.2)
 |none=>(0,⟨w.next.2.l,false⟩)
def Z4x(s:List UInt8):List UInt8×List UInt8:=match Z1b 46 s with
 |some p=>p
 |none=>(s,[])
def DLf.did(w:DLf):DId×DLf :=
 let p:=Z4x w.next.1
 let a:=w.next.2.small p.1
 let b:=a.2.small p.2
 (⟨a.1,b.1⟩,b.2)
def Z2Z(s:List UInt8):Option Int:=if s=Z1E 1 then some 1 else if s=Z1E 2 then some 2 else if s=Z1E 3 then some 3 else if s=Z1E 4 then some 4 else none
def Z9u(s:List UInt8):Option Int:=if s=Z3D 1 then some 1 else if s=Z3D 2 then some 2 else if s=Z3D 3 then some 3 else if s=Z3D 4 then some 4 else if s=Z3D 5 then some 5 else if s=Z3D 6 then some 6 else none
def DLf.look(w:DLf)(f:List UInt8->Option Int):Int×DLf:=match f w.next.1 with
 |some n=>(n,w.next.2)
 |none=>(0,⟨w.next.2.l,false⟩)
def xOf(s:List UInt8):List UInt8×Bool:=match s with
 |120::r=>(r,true)
 |_=>(s,false)
def DLf.evLoc(w:DLf)(k:Int):Int×DLf :=
 if k=4 then (0,w) else
  let p:=xOf w.next.1
  (⟨w.next.2.l,w.next.2.ok&&p.2⟩:DLf).small p.1
def DLf.num?(w:DLf)(b:Bool):Int×DLf:=if b then w.number else (0,w)
def DLf.from?(w:DLf)(b:Bool):DId×DLf:=if b then (if w.ok then (⟨w.next.2.l,w.next.1==Z31⟩:DLf).did else w.did) else (idD,w)
def DLf.event(w:DLf):DEv×DId×DLf :=
 let a:=w.look Z2Z
 let b:=a.2.evLoc a.1
 let c:=b.2.look Z9u
 let d:=c.2.num? (a.1==1 || a.1==3)
 let e:=d.2.num? (a.1==2 || a.1==3)
 let f:=e.2.from? (a.1==1 || a.1==3)
 (⟨a.1,b.1,c.1,d.1,e.1⟩,f.1,f.2)
def Z7j:Nat->DLf->List DId->List DId×DLf
 |0,w,a=>(a,w)
 |n+1,w,a=>match w.l,w.ok with
  |_::_,true=>Z7j n w.did.2 (a++[w.did.1])
  |_,_=>(a,w)
def ln0(k:List UInt8):DLn:=⟨k,0,0,idD,evD,idD,[]⟩
def Z06(s:List UInt8):DLn×Bool :=
 let w:DLf:=⟨Z0C s,true⟩
 let k:=w.next.1
 let w:=w.next.2
 let r:DLn×DLf :=
  if k=Z0j then ({ ln0 k with n:=(w.next.2.small w.next.1).1 },(w.next.2.small w.next.1).2)
  else if k=Z23 then
   let a:=w.next.2.small w.next.1
   ({ ln0 k with n:=a.1,v:=a.2.number.1 },a.2.number.2)
  else if k=Z0k then
   let a:=w.did
   let b:=a.2.event
   ({ ln0 k with id:=a.1,ev:=b.1,frm:=b.2.1 },b.2.2)
  else if k=Z0d then
   let a:=w.next.2.small w.next.1
   let b:=Z7j a.2.l.length a.2 []
   ({ ln0 k with n:=a.1,ids:=b.1 },b.2)
  else (ln0 k,w)
 if k=Z0j\/k=Z23\/k=Z0k\/k=Z0d\/k=Z16 then (r.1,r.2.ok&&r.2.l.isEmpty) else (ln0 [],false)
def Z1I(g:DGr)(told:Bool)(x:DLn):Option (DGr×Bool) :=
 if x.kind=Z0j then (if told\/4<x.n then none else some ({ g with thr:=List.replicate x.n.toNat [],frm:=List.replicate x.n.toNat [] },true))
 else if x.kind=Z23 then (if x.n=g.ini.length then some ({ g with ini:=g.ini++[x.v] },told) else none)
 else if x.kind=Z0k then (if x.id.t<1 then none else match g.thr[(x.id.t-1).toNat]?,g.frm[(x.id.t-1).toNat]? with
  |some l,some f=>if x.id.i=l.length then some ({ g with thr:=g.thr.set (x.id.t-1).toNat (l++[x.ev]),frm:=g.frm.set (x.id.t-1).toNat (f++[x.frm]) },told) else none
  |_,_=>none)
 else if x.kind=Z0d then (if x.n=g.ord.length then some ({ g with ord:=g.ord++[x.ids] },told) else none)
 else some (g,told)
def gr0:DGr:=⟨[],[],[],[]⟩
def Zd1:Nat->DGr->Bool->List UInt8->Option (DGr×List UInt8)
 |0,_,_,_=>none
 |n+1,g,told,s=>match Z1b 10 s with
  |none=>none
  | some (l, rest) => if (Z06 l).2 then (match Z1I g told (Z06 l).1 with
    |none=>none
    |some (g',told')=>if (Z06 l).1.kind=Z16 then some (g',rest) else Zd1 n g' told' rest)
   else none
def Zel(s:List UInt8):Option (DGr×List UInt8):=match Zd1 (s.length+1) gr0 false s with
 |none=>none
 |some (g,rest)=>if Z0e g=0/\Z0y g=s.take (s.length-rest.length) then some (g,rest) else none
def Z9i:Nat->List UInt8->List DGr->Option (List DGr)
 |0,_,_=>none
 |n+1,s,a=>if s=[] then some a else match Zel s with
  |none=>none
  |some (g,rest)=>Z9i n rest (a++[g])
def Z2a:Nat->List UInt8->Nat
 |0,_=>0
 |n+1,s=>match Z1b 10 s with
  |none=>0
  |some (l,rest)=>if (Z06 l).2 then Z2a n rest+1 else 0
end
end Go.Proofs.YtpcpdlfhcahjgaaGreatDoor.lex
section
namespace Go.Abs
open Go.RowKit
theorem Wk.nil{m:List Nat}{z:Nat}:Wk m .nslice (.rs 0 z []):=λsn ι v h=>by simp only[VR]at h⊢;exact .inl ⟨trivial,trivial,h⟩
theorem swA{A B:Prop}(h:A):Zf0 (A/\B) B:=λb=>⟨h,b⟩
theorem stw{P Q:Prop}(q:Q)(h:Zf0 P Q:=by
 first
 |(refine swA (Wk.int ?_);(focus (first|rfl|omega|(simp;done)|(simp;omega))))|(refine swA (Wk.bool ?_);(focus (first|rfl|(simp;done))))|exact swA (Wk.noref rfl)
 |exact swA (Wk.ptr rfl rfl)|(refine swA (Wk.slice rfl ?_ ?_ ?_ ?_ ?_);(focus (first|rfl|omega));(focus (first|rfl|omega));(focus (first|rfl|omega));(focus (first|rfl|omega));(focus rfl))|exact swA Wk.nil|exact swA (Wk.func trivial ⟨Wk.ptr rfl rfl,trivial⟩)|exact swA (Wk.map rfl)):P:=h q
theorem ValOK.weak{P:Program}{gl:Z0w}{f:Nat}{args args2:List AV}{r:AV}(h:ValOK P gl f args2 r)(hw:∀sn vs,LR sn noI args vs->LR sn noI args2 vs):ValOK P gl f args r :=
 λsn W cargs hg hR ha=>h sn W cargs hg hR (hw _ _ ha)
theorem ValOK.less{P:Program}{gl:Z0w}{f:Nat}{args:List AV}{r r2:AV}(h:ValOK P gl f args r)(hw:∀sn v,VR sn noI r v->VR sn noI r2 v):ValOK P gl f args r2 :=
 λsn W cargs hg hR ha=>(h sn W cargs hg hR ha).mono λe W' ⟨v,h1,h2,h3⟩=>⟨v,h1,h2,hw _ _ h3⟩
theorem ZlR{z:Nat}{sn:Z0l}{ι : Z0i}{v:Value}(h:VR sn ι .nslice v):VR sn ι (.rs 0 z []) v:=by simp only[VR]at h⊢;exact .inl ⟨trivial,trivial,h⟩
section
open Classical
noncomputable def Zl7{I:Type}(G:I->Prop)(fF:I->Nat)(fA:I->List AV)(fR:I->AV):Orc:=Zl6 λf args=>if h:∃i,G i/\fF i=f/\fA i=args then some (fR (Classical.choose h)) else none
theorem Zej{P:Program}{gl:Z0w}{I:Type}{G:I->Prop}{fF:I->Nat}{fA:I->List AV}{fR:I->AV}(h:∀i,G i->refsL (fA i) []=[]/\ValOK P gl (fF i) (fA i) (fR i)):OrcSound P gl (Zl7 G fF fA fR):=Z8b λf args r e=>by
 split at e
 · rename_i hx
   simp only[Option.some.injEq]at e
   subst e
   obtain⟨g1,e1,e2⟩:=Classical.choose_spec hx
   have:=h _ g1
   rw[e1,e2]at this;exact this
 ·cases e
theorem Znp {P : Program} {I : Type} {G : I -> Prop} {fF : I -> Nat} {fA : I -> List AV} {fR : I -> AV} (hinj : ∀ i j, G i -> G j -> fF i = fF j -> fA i = fA j -> fR i = fR j) {H : Z00} (i : I) (hb : Z0E P (fF i) = true) (hi : G i) :
  Z02 P (Zl7 G fF fA fR) H (fF i) (fA i)=some (fR i,H):=by
 have hx:∃j,G j/\fF j=fF i/\fA j=fA i:=⟨i,hi,rfl,rfl⟩
 unfold Z02
 rw[if_pos hb]
 unfold Zl7 Zl6
 simp only[dif_pos hx]
 obtain⟨g1,g2,g3⟩:=Classical.choose_spec hx
 rw[hinj _ i g1 hi g2 g3]
theorem ZfC{I:Type}{G:I->Prop}{fF:I->Nat}{fA:I->List AV}{fH:I->Z00}{fR:I->AV}{fO:I->Z00}{g:Nat}{args:List AV}{H:Z00}(h:∀i,G i->fF i=g->fA i≠args):orcI G fF fA fH fR fO g args H=none:=by
 unfold orcI
 rw[dif_neg]
 rintro⟨i,h1,h2,h3,_⟩
 exact h i h1 h2 h3
end
theorem Zc4{P:Program}{o1 o2:Orc}{H:Z00}{g:Nat}{args:List AV}{x:AV×Z00}(hb:Z0E P g=true)(h:Z02 P o1 H g args=some x):Z02 P (Z4q o1 o2) H g args=some x:=by
 unfold Z02 at h⊢
 rw[if_pos hb]at h⊢
 unfold Z4q;rw[h]
theorem ZgW{P:Program}{o1 o2:Orc}{H:Z00}{g:Nat}{args:List AV}{x:AV×Z00}(hb:Z0E P g=true)(h1:o1 g args H=none)(h:Z02 P o2 H g args=some x):Z02 P (Z4q o1 o2) H g args=some x:=by
 unfold Z02 at h⊢
 rw[if_pos hb]at h⊢
 unfold Z4q;rw[h1];exact h
structure Fam (P:Program) (gl:Z0w) where
 I:Type
 f:Nat
 G:I->Prop
 A:I->List AV
 R:I->AV
 body:Z0E P f=true
 inj:∀i j,G i->G j->A i=A j->R i=R j
 ok:∀i,G i->refsL (A i) []=[]/\ValOK P gl f (A i) (R i)
structure FamM (P:Program) (gl:Z0w) where
 I:Type
 f:Nat
 G:I->Prop
 A:I->List AV
 H:I->Z00
 R:I->AV
 O:I->Z00
 body:Z0E P f=true
 inj:∀i j,G i->G j->A i=A j->H i=H j->R i=R j/\O i=O j
 ok:∀i,G i->Z3F P gl f (A i) (H i) (R i) (O i)
section
variable {P:Program} {gl:Z0w}
def Fam.Ask(F:Fam P gl)(O:Orc):Prop:=∀i,F.G i->∀H,Z02 P O H F.f (F.A i)=some (F.R i,H)
def FamM.Ask(F:FamM P gl)(O:Orc):Prop:=∀i,F.G i->Z02 P O (F.H i) F.f (F.A i)=some (F.R i,F.O i)
def AllAsk(O:Orc):List (Fam P gl)->Prop
 |[]=>True
 |F::l=>F.Ask O/\AllAsk O l
def AllAskM(O:Orc):List (FamM P gl)->Prop
 |[]=>True
 |F::l=>F.Ask O/\AllAskM O l
theorem Zcd{o O:Orc}{f:Nat}(ho:∀g args H,g≠f->o g args H=none):(∀F:Fam P gl,F.f≠f->F.Ask O->F.Ask (Z4q o O))/\(∀F:FamM P gl,F.f≠f->F.Ask O->F.Ask (Z4q o O)) :=
 ⟨λF hf h i hi H=>ZgW F.body (ho _ _ _ hf) (h i hi H),λF hf h i hi=>ZgW F.body (ho _ _ _ hf) (h i hi)⟩
theorem Z93:∀(l:List (Fam P gl)),Z0S (l.map (·.f))=true->∃O,OrcSound P gl O/\AllAsk O l
 |[],_=>⟨λ_ _ _=>none,(λf args H r H' h=>by cases h),trivial⟩
 |F::l,h=>by
  simp only[Y0v,Z0S,Y0w,Y0R]at h
  obtain⟨O,hO,ha⟩:=Z93 l h.2
  have ho:∀g args H,g≠F.f->Zl7 F.G (λ_=>F.f) F.A F.R g args H=none:=by
   intro g args H hg
   have:¬ ∃i,F.G i/\F.f=g/\F.A i=args:=by
    rintro⟨i,_,h2,_⟩
    exact hg h2.symm
   simp only[Zl7,Zl6,dif_neg this]
  refine⟨Z4q (Zl7 F.G (λ_=>F.f) F.A F.R) O,Z4F (Zej F.ok) hO,λi hi H=>Zc4 F.body (Znp (λi j hi hj _ ha=>F.inj i j hi hj ha) i F.body hi),?_⟩
  have hn:∀G∈l,G.f≠F.f:=λG hG e=>by
   have h1:=h.1
   have:mem F.f (l.map (·.f))=true:=Z0W.2 (by rw[<- e];exact List.mem_map_of_mem hG)
   rw[this]at h1;cases h1
  clear h
  induction l with
  |nil=>trivial
  |cons G l ih =>
   exact⟨(Zcd ho).1 G (hn G (by simp)) ha.1,ih ha.2 λK hK=>hn K (by simp[hK])⟩
theorem fams(l:List (Fam P gl))(h:Z0S (l.map (·.f))=true):∃O,OrcSound P gl O/\AllAsk O l:=Z93 l h
theorem AllAsk.add{o O:Orc}{f:Nat}(ho:∀g args H,g≠f->o g args H=none):∀{l:List (Fam P gl)},mem f (l.map (·.f))=false->AllAsk O l->AllAsk (Z4q o O) l
 |[],_,_=>trivial
 |F::l,h,ha=>by
  simp only[Y0v,mem,Bool.or_eq_false_iff]at h
  exact⟨(Zcd ho).1 F (λe=>by rw[e]at h;simp at h) ha.1,AllAsk.add ho h.2 ha.2⟩
theorem AllAskM.add{o O:Orc}{f:Nat}(ho:∀g args H,g≠f->o g args H=none):∀{l:List (FamM P gl)},mem f (l.map (·.f))=false->AllAskM O l->AllAskM (Z4q o O) l
 |[],_,_=>trivial
 |F::l,h,ha=>by
  simp only[Y0v,mem,Bool.or_eq_false_iff]at h
  exact⟨(Zcd ho).2 F (λe=>by rw[e]at h;simp at h) ha.1,AllAskM.add ho h.2 ha.2⟩
theorem Z5m:∀(m:List (FamM P gl))(l:List (Fam P gl)),Z0S (m.map (·.f)++l.map (·.f))=true->∃O,OrcSound P gl O/\AllAskM O m/\AllAsk O l
 |[],l,h=>by
  obtain⟨O,h1,h2⟩:=Z93 l h
  exact⟨O,h1,trivial,h2⟩
 |F::m,l,h=>by
  simp only[Y0v,Y0l,Z0S,Y0w,Y0R]at h
  obtain⟨O,hO,ha,hb⟩:=Z5m m l h.2
  have ho:∀g args H,g≠F.f->orcI F.G (λ_=>F.f) F.A F.H F.R F.O g args H=none:=λg args H hg=>ZfC λi _ e=>absurd e.symm hg
  have hmem:∀{a b:List Nat},mem F.f (a++b)=false->mem F.f a=false/\mem F.f b=false:=by
   intro a b h
   constructor
   · cases hx:mem F.f a with
     |false=>rfl
     |true=>rw[Z0W.2 (List.mem_append.2 (.inl (Z0W.1 hx)))]at h;cases h
   · cases hx:mem F.f b with
     |false=>rfl
     |true=>rw[Z0W.2 (List.mem_append.2 (.inr (Z0W.1 hx)))]at h;cases h
  obtain⟨n1,n2⟩:=hmem h.1
  refine⟨Z4q (orcI F.G (λ_=>F.f) F.A F.H F.R F.O) O,Z4F (Zek F.ok) hO,⟨λi hi=>Zc4 F.body (Znq (λi j hi hj _ ha hh=>F.inj i j hi hj ha hh) F.body i hi rfl rfl rfl),AllAskM.add ho n1 ha⟩,AllAsk.add ho n2 hb⟩
end
theorem hbp{a b:Bool}{f i s s2:Nat}{m:List Nat}{cs cs2:List AV}{ty:TypeId}(h1:a=true:=by rfl)(h2:b=true:=by rfl)(h3:f=i:=by rfl)(h4:s2=s:=by rfl)(h5:cs=cs2++[]:=by rfl)(h6:refsL cs2 []=[]:=by rfl):a=true/\b=true/\f=i/\s2=s/\BodyGe m (.cells cs ty) (.cells cs2 ty):=⟨h1,h2,h3,h4,BodyGe.pre (rest:=[]) h5 h6⟩
theorem wks{P:Prop}(h:P:=by (repeat (first|exact trivial|refine stw ?_));done):P:=h
theorem neS{α : Type}{l:List α}(h:l≠[]:=by first|exact List.cons_ne_nil _ _|assumption|(simp;done)|(intro hz;simp only[List.append_eq_nil_iff]at hz;simp_all;done)):l≠[]:=h
theorem leS{P:Prop}(h:P:=by (try simp only[List.length_append,List.length_cons,List.length_nil]at *);omega):P:=h
end Go.Abs
end
section
namespace Go.Abs
open Go.RowKit
def grB{α : Type}(b:Nat)(C:List α -> List AV)(ty:TypeId):List α -> Z00
 |[]=>[]
 |x::r=>[⟨true,b,0,.cells (C (x::r)) ty⟩]
theorem Z1U:∀(l:List (List UInt8))(acc:List Nat),refsL (l.map AV.str) acc=acc
 |[],acc=>rfl
 |x::l,acc=>Z1U l acc
end Go.Abs
end
section
namespace Go.Abs
open Go.RowKit
theorem Z0B{H:Z00}{k:Z00->Prop}(h:k H):frcHW H k:=by rw[Z0t];exact h
theorem Z04{H H':Z00}{k:Z00->Prop}(e:H=H')(h:k H'):frcHW H k:=by rw[Z0t,e];exact h
theorem Z0c{o:Option (AV×Z00)}{r:AV}{H':Z00}{k:AV->Z00->Prop}(h:o=some (r,H'))(hk:k r H'):∃y,o=some y/\Z6K y.1 λr=>frcHW y.2 λH'=>k r H':=⟨_,h,by rw[Z26,Z0t];exact hk⟩
theorem Z0p{o:Option (List AV)}{cs':List AV}{F:List AV->Z00}{H':Z00}{k:Z00->Prop}(h:o=some cs')(e:F cs'=H')(hk:k H'):∃cs',o=some cs'/\frcHW (F cs') k:=⟨_,h,by rw[Z0t,e];exact hk⟩
theorem Z0A{n:Nat}{k:Nat->Prop}(h:k n):frcNP n k:=by rw[Z2g];exact h
theorem onOI{α : Type}{o:Option α}{x : α}{k : α -> Prop}(e:o=some x)(h:k x):onO o k:=by rw[e];exact h
theorem Zcu{H:Z00}{b f:Nat}(h:∀i o,H[i]? = some o->i≠b->o.fam≠f):Z3G b f H=H:=by
 unfold Z3G
 refine Y0S λi=>?_
 rw[Z3j]
 cases hi:H[i]? with
 |none=>rfl
 |some o =>
  simp only[Y0D,Y0e,Option.some.injEq]
  by_cases hb:i=b
  ·subst hb;simp
  · have:=h i o hi hb
    rw[if_neg]
    simp[hb,this]
end Go.Abs
end
namespace Go.Proofs.YtpcpdlfhcahjgaaGreatDoor.lex
open Go.Abs Go.RowKit
section
theorem Zf7(b c:UInt8):Y04 b.toNat c.toNat=decide (b=c):=by
 by_cases h:b=c
 ·subst h;simp
 · have:b.toNat≠c.toNat:=λe=>h (UInt8.toNat_inj.1 e)
   rw[decide_eq_false h,Y0x]
   intro h2;exact this (Y0f h2)
theorem ZdA{c:UInt8}:∀{s:List UInt8}(i:Nat),Z1b c s=none->ixB c s i = -1
 |[],i,_=>rfl
 |b::s,i,h=>by
  simp only[Z1b]at h
  by_cases hb:b=c
  ·rw[if_pos hb]at h;cases h
  · rw[if_neg hb]at h
    simp only[ixB,Zf7,decide_eq_false hb,cond_false]
    refine ZdA (i+1) ?_
    cases hc:Z1b c s with
    |none=>rfl
    |some p=>rw[hc]at h;cases h
theorem Z4j{c:UInt8}:∀{s x y:List UInt8}(i:Nat),Z1b c s=some (x,y)->ixB c s i=((i+x.length:Nat):Int)/\s=x++c::y
 |[],x,y,i,h=>by cases h
 |b::s,x,y,i,h=>by
  simp only[Z1b]at h
  by_cases hb:b=c
  · rw[if_pos hb]at h
    simp only[Option.some.injEq,Prod.mk.injEq]at h
    obtain⟨rfl,rfl⟩:=h
    subst hb
    refine⟨?_,rfl⟩
    simp only[ixB,Zf7,decide_true,cond_true];rfl
  · rw[if_neg hb]at h
    cases hc:Z1b c s with
    |none=>rw[hc]at h;cases h
    |some p =>
     obtain⟨u,v⟩:=p
     rw[hc]at h
     simp only[Option.some.injEq,Prod.mk.injEq]at h
     obtain⟨rfl,rfl⟩:=h
     obtain⟨h1,h2⟩:=Z4j (i+1) hc
     refine⟨?_,by rw[h2];rfl⟩
     simp only[ixB,Zf7,decide_eq_false hb,cond_false]
     rw[show Nat.add i 1=i+1 from rfl,h1,Y03]
     congr 1;omega
section
variable {gl:Z0w}
theorem ZiU(c:UInt8)(hc:c=10\/c=32\/c=46)(s:List UInt8)(hs:s.length<=1099511627776):ValOK Y00 gl 54 [.str s,.str [c]] (.int .i64 (ixB c s 0)):=by
 by_cases h:[c]=s
 · subst h
   have hb:(([c]:List UInt8)==[c])=true:=by simp
   have e:ixB c [c] 0=0:=by simp[ixB]
   rw[e]
   rcases hc with rfl|rfl|rfl
   all_goals refine Z0u (λg=>false) 2 follows Z0a Z05 Y0E rfl ?_
   all_goals repeat' ((conv=>whnf);first|refine stp ?_|with_reducible apply Z01<;>intro h)
   all_goals rfl
 · have hb:([c]==s)=false:=by simpa using h
   rcases hc with rfl|rfl|rfl
   · have h2:([10]:List UInt8)[0]? = some 10:=rfl
     refine Z0u (λg=>false) 2 follows Z0a Z05 Y0E rfl ?_
     repeat' ((conv=>whnf);first|with_reducible refine ixS 0 rfl h2 ?_|refine stp ?_|with_reducible apply Z01<;>intro h)
     all_goals rfl
   · have h2:([32]:List UInt8)[0]? = some 32:=rfl
     refine Z0u (λg=>false) 2 follows Z0a Z05 Y0E rfl ?_
     repeat' ((conv=>whnf);first|with_reducible refine ixS 0 rfl h2 ?_|refine stp ?_|with_reducible apply Z01<;>intro h)
     all_goals rfl
   · have h2:([46]:List UInt8)[0]? = some 46:=rfl
     refine Z0u (λg=>false) 2 follows Z0a Z05 Y0E rfl ?_
     repeat' ((conv=>whnf);first|with_reducible refine ixS 0 rfl h2 ?_|refine stp ?_|with_reducible apply Z01<;>intro h)
     all_goals rfl
def Z6q(c:UInt8)(s:List UInt8):AV:=match Z1b c s with
 |none=>.tuple [.str s,.str [],.bool false]
 |some (x,y)=>.tuple [.str x,.str y,.bool true]
theorem Zjr(c:UInt8)(hc:c=10\/c=32\/c=46)(s:List UInt8)(hs:s.length<=1099511627776):ValOK Y00 gl 25 [.str s,.str [c]] (Z6q c s):=by
 obtain⟨O,hO,p1,-⟩:=fams (P:=Y00) (gl:=gl) [
  { I:=Unit,f:=54,G:=λ_=>True,A:=λ_=>[.str s,.str [c]],R:=λ_=>.int .i64 (ixB c s 0),body:=(by kernel_rfl),inj:=(λ_ _ _ _ _=>rfl),ok:=(λ_ _=>⟨rfl,ZiU c hc s hs⟩) }] rfl
 have q1:∀H,Z02 Y00 O H 54 [.str s,.str [c]]=some (.int .i64 (ixB c s 0),H):=p1 () trivial
 clear p1 hc
 cases h:Z1b c s with
 |none =>
  rw[ZdA 0 h]at q1
  have e0:Z6q c s = .tuple [.str s,.str [],.bool false]:=by unfold Z6q;rw[h]
  rw[e0]
  refine Z0u (λg=>Y04 g 54) 2 follows Z0a hO Tryz.func25 rfl ?_
  repeat' ((conv=>whnf);first|with_reducible refine exI (q1 _) ?_|refine stp ?_|with_reducible apply Z01<;>intro h)
  all_goals rfl
 |some p =>
  obtain⟨x,y⟩:=p
  obtain⟨h1,h2⟩:=Z4j 0 h
  rw[h1,Y0e]at q1
  have e0:Z6q c s = .tuple [.str x,.str y,.bool true]:=by unfold Z6q;rw[h]
  rw[e0]
  have hlen:s.length=x.length+(y.length+1):=by rw[h2];simp
  have ht:s.take x.length=x:=by rw[h2];simp
  have hd:s.drop (x.length+1)=y:=by rw[h2];simp
  refine Z0u (λg=>Y04 g 54) 2 follows Z0a hO Tryz.func25 rfl ?_
  repeat' ((conv=>whnf);first|with_reducible refine exI (q1 _) ?_|refine stp ?_|with_reducible apply Z01<;>intro h)
  all_goals rw[ht,hd]
theorem ZjA(s:List UInt8)(hs:s.length<=1099511627776):ValOK Y00 gl 90 [.str s,.str [120]] (.tuple [.str (xOf s).1,.bool (xOf s).2]):=by
 cases s with
 |nil =>
  refine Z0u (λg=>false) 3 follows Z0a Z05 Tryz.func90 rfl ?_
  repeat' ((conv=>whnf);first|refine stp ?_|with_reducible apply Z01<;>intro h)
  all_goals rfl
 |cons b r =>
  simp only[Y03]at hs
  by_cases hb:b=120
  · subst hb
    have e1:decide (((120::r:List UInt8).length:Int) >= 1)=true:=decide_eq_true (by simp only[Y03];omega)
    have e2:(([120]:List UInt8)==[120])=true:=by decide
    have e0:xOf (120::r)=(r,true):=rfl
    rw[e0]
    refine Z0u (λg=>false) 3 follows Z0a Z05 Tryz.func90 rfl ?_
    repeat' ((conv=>whnf);first|refine stp ?_|with_reducible apply Z01<;>intro h)
    all_goals rfl
  · have e1:decide (((b::r:List UInt8).length:Int) >= 1)=true:=decide_eq_true (by simp only[Y03];omega)
    have e2:(([b]:List UInt8)==[120])=false:=by simpa using hb
    have e0:xOf (b::r)=(b::r,false):=by
     unfold xOf
     split
     ·rename_i r' h;simp at h;exact absurd h.1 hb
     ·rfl
    rw[e0]
    refine Z0u (λg=>false) 3 follows Z0a Z05 Tryz.func90 rfl ?_
    repeat' ((conv=>whnf);first|refine stp ?_|with_reducible apply Z01<;>intro h)
    all_goals rfl
end
end
section
def Z07{α : Type}(f : α -> List AV):List α -> List AV
 |[]=>[]
 |a::l=>f a++Z07 f l
theorem Z0Y{α : Type}{f : α -> List AV}{k:Nat}(h:∀a,(f a).length=k):∀l:List α,(Z07 f l).length=l.length*k
 |[]=>by simp[Z07]
 |a::l=>by rw[Z07,Y08,h,Z0Y h l,Y03,Nat.succ_mul,Nat.add_comm]
theorem ZaP{α : Type}{f : α -> List AV}{k:Nat}(h:∀a,(f a).length=k):∀(l:List α)(i:Nat),(Z07 f l).drop (i*k)=Z07 f (l.drop i)
 |l,0=>by simp
 |[],i+1=>by simp[Z07]
 |a::l,i+1=>by
  have e:(i+1)*k=(f a).length+i*k:=by rw[h,Nat.succ_mul,Nat.add_comm]
  rw[Z07,e,<- List.drop_drop,List.drop_left,ZaP h l i,List.drop_succ_cons]
theorem Z0f{α : Type}{f : α -> List AV}{k:Nat}(h:∀a,(f a).length=k)(l:List α)(i:Nat)(hi:i<l.length):tk k ((Z07 f l).drop (i*k))=some (f l[i]):=by
 rw[ZaP h,Y0n hi,Z07,<- h l[i]]
 exact Zcz _ _
theorem Z3r{α : Type}(f : α -> List AV):∀a b:List α,Z07 f (a++b)=Z07 f a++Z07 f b
 |[],b=>rfl
 |x::a,b=>by simp only[Y0l,Z07,Z3r f a b,Y0o]
def Z2b(n:Int):List AV:=[.int .i64 n]
def idC(d:DId):List AV:=[.int .i64 d.t,.int .i64 d.i]
def evC(e:DEv):List AV:=[.int .i64 e.k,.int .i64 e.l,.int .i64 e.o,.int .i64 e.r,.int .i64 e.w]
def rsI(l:List Int):AV:=.rs l.length 1 (Z07 Z2b l)
def rsD(l:List DId):AV:=.rs l.length 2 (Z07 idC l)
def rsE(l:List DEv):AV:=.rs l.length 5 (Z07 evC l)
def Z58(l:List (List DId)):AV:=.rs l.length 1 (Z07 (λx=>[rsD x]) l)
def Z4T(l:List (List DEv)):AV:=.rs l.length 1 (Z07 (λx=>[rsE x]) l)
def grC(g:DGr):List AV:=[rsI g.ini,Z4T g.thr,Z58 g.frm,Z58 g.ord]
def DGr.av(g:DGr):AV:=.agg (grC g)
def rsG(l:List DGr):AV:=.rs l.length 4 (Z07 grC l)
def Z5A:Nat:=9223372036854775807
def okD(d:DId):Prop:=rgI d.t/\rgI d.i
def okV(e:DEv):Prop:=rgI e.k/\rgI e.l/\rgI e.o/\rgI e.r/\rgI e.w
def Zn3(l:List Int):Prop:=l.length<=Z5A/\∀n∈l,rgI n
def Zl9(l:List DId):Prop:=l.length<=Z5A/\∀d∈l,okD d
def Zl8(l:List DEv):Prop:=l.length<=Z5A/\∀d∈l,okV d
def okG(g:DGr):Prop:=Zn3 g.ini/\(g.thr.length<=Z5A/\∀l∈g.thr,Zl8 l)/\(g.frm.length<=Z5A/\∀l∈g.frm,Zl9 l)/\(g.ord.length<=Z5A/\∀l∈g.ord,Zl9 l)
def okGs(l:List DGr):Prop:=l.length<=Z5A/\∀g∈l,okG g
namespace oc
theorem ZiM{n:Int}(h:(Lit.int .i64 n).wf=true):rgI n:=by
 have h':IntKind.i64.min<=n/\n<=9223372036854775807:=by simpa[Lit.wf]using h
 have h2:IntKind.i64.min = -9223372036854775808:=rfl
 unfold rgI;omega
def QZ(us:List AV):Prop:=∃n,us=[.int .i64 n]/\(Lit.int .i64 n).wf=true
theorem Z3p{α : Type}{Q:List AV->Prop}{f : α -> List AV}{ok : α -> Prop}{k:Nat}(hq:∀u,Q u->∃a,u=f a/\ok a):∀l:List (List AV),(∀u∈l,Q u/\u.length=k)->∃m:List α,l.flatten=Z07 f m/\l.length=m.length/\∀a∈m,ok a
 |[],_=>⟨[],rfl,rfl,by simp⟩
 |u::l,h=>by
  obtain⟨m,h1,h2,h3⟩:=Z3p hq l λv hv=>h v (by simp[hv])
  obtain⟨a,rfl,ha⟩:=hq u (h u (by simp)).1
  exact⟨a::m,by simp only[List.flatten_cons,Z07,h1],by simp[h2],λd hd=>by rcases List.mem_cons.1 hd with rfl|hd;exact ha;exact h3 d hd⟩
def QIs(us:List AV):Prop:=∃l:List Int,us=[rsI l]/\Zn3 l
theorem ZnY:Z5Z Y00 29 QIs:=by
 refine Z1m (Z1J Tryz.underlying29 (by kernel_rfl) (show (1:Nat)≠0 by decide) (Z1u Y0y)) ?_
 rintro u ⟨l,hl,rfl,hll⟩
 obtain⟨m,e1,e2,e3⟩:=Z3p (f:=Z2b) (ok:=rgI) (λu ⟨n,h1,h2⟩=>⟨n,h1,ZiM h2⟩) l hl
 exact⟨m,by rw[e1,e2];rfl,by rw[<- e2];exact hll,e3⟩
theorem fsD:Z2K Y00 (match Y00.underlying 63 with|some (.struct fs)=>fs.toList|_=>[]) [QZ,QZ] 0 (Y00.cellsOf 63):=by
 rw[Y0T]
 refine⟨rfl,Z1u Y0b,?_⟩
 refine⟨by kernel_rfl,Z1u Y0b,?_⟩
 unfold Z2K;kernel_rfl
theorem q_d{us:List AV}(h:FsQ [QZ,QZ] us):∃d,us=idC d/\okD d:=by
 obtain⟨a,u1,rfl,⟨n1,rfl,h1⟩,b,u2,rfl,⟨n2,rfl,h2⟩,h3⟩:=h
 have h3:u2=[]:=h3
 subst h3
 exact⟨⟨n1,n2⟩,rfl,ZiM h1,ZiM h2⟩
def QDs(us:List AV):Prop:=∃l:List DId,us=[rsD l]/\Zl9 l
theorem Zo0:Z5Z Y00 57 QDs:=by
 have h3:=fsD
 rw[Y0T]at h3
 refine Z1m (Z1J Tryz.underlying57 (by kernel_rfl) (show (2:Nat)≠0 by decide) (Z1m (Z3P Y0T h3) λu hu=>q_d hu)) ?_
 rintro u ⟨l,hl,rfl,hll⟩
 obtain⟨m,e1,e2,e3⟩:=Z3p (f:=idC) (ok:=okD) (λu h=>h) l hl
 exact⟨m,by rw[e1,e2];rfl,by rw[<- e2];exact hll,e3⟩
def ZmC(us:List AV):Prop:=∃l:List (List DId),us=[Z58 l]/\(l.length<=Z5A/\∀x∈l,Zl9 x)
theorem ZlK:Z5Z Y00 31 ZmC:=by
 refine Z1m (Z1J Tryz.underlying31 (by kernel_rfl) (show (1:Nat)≠0 by decide) Zo0) ?_
 rintro u ⟨l,hl,rfl,hll⟩
 obtain⟨m,e1,e2,e3⟩:=Z3p (f:=λx=>[rsD x]) (ok:=Zl9) (λu h=>h) l hl
 exact⟨m,by rw[e1,e2];rfl,by rw[<- e2];exact hll,e3⟩
theorem fsV:Z2K Y00 (match Y00.underlying 60 with|some (.struct fs)=>fs.toList|_=>[]) [QZ,QZ,QZ,QZ,QZ] 0 (Y00.cellsOf 60):=by
 rw[Y0U]
 refine⟨rfl,Z1u Y0b,?_⟩
 refine⟨by kernel_rfl,Z1u Y0b,?_⟩
 refine⟨by kernel_rfl,Z1u Y0b,?_⟩
 refine⟨by kernel_rfl,Z1u Y0y,?_⟩
 refine⟨by kernel_rfl,Z1u Y0y,?_⟩
 unfold Z2K;kernel_rfl
theorem q_v{us:List AV}(h:FsQ [QZ,QZ,QZ,QZ,QZ] us):∃d,us=evC d/\okV d:=by
 obtain⟨a,u1,rfl,⟨n1,rfl,h1⟩,b,u2,rfl,⟨n2,rfl,h2⟩,c,u3,rfl,⟨n3,rfl,h3⟩,d,u4,rfl,⟨n4,rfl,h4⟩,e,u5,rfl,⟨n5,rfl,h5⟩,h6⟩:=h
 have h6:u5=[]:=h6
 subst h6
 exact⟨⟨n1,n2,n3,n4,n5⟩,rfl,ZiM h1,ZiM h2,ZiM h3,ZiM h4,ZiM h5⟩
def QEs(us:List AV):Prop:=∃l:List DEv,us=[rsE l]/\Zl8 l
theorem ZnZ:Z5Z Y00 56 QEs:=by
 have h3:=fsV
 rw[Y0U]at h3
 refine Z1m (Z1J Tryz.underlying56 (by kernel_rfl) (show (5:Nat)≠0 by decide) (Z1m (Z3P Y0U h3) λu hu=>q_v hu)) ?_
 rintro u ⟨l,hl,rfl,hll⟩
 obtain⟨m,e1,e2,e3⟩:=Z3p (f:=evC) (ok:=okV) (λu h=>h) l hl
 exact⟨m,by rw[e1,e2];rfl,by rw[<- e2];exact hll,e3⟩
def Znx(us:List AV):Prop:=∃l:List (List DEv),us=[Z4T l]/\(l.length<=Z5A/\∀x∈l,Zl8 x)
theorem Zn2:Z5Z Y00 30 Znx:=by
 refine Z1m (Z1J Tryz.underlying30 (by kernel_rfl) (show (1:Nat)≠0 by decide) ZnZ) ?_
 rintro u ⟨l,hl,rfl,hll⟩
 obtain⟨m,e1,e2,e3⟩:=Z3p (f:=λx=>[rsE x]) (ok:=Zl8) (λu h=>h) l hl
 exact⟨m,by rw[e1,e2];rfl,by rw[<- e2];exact hll,e3⟩
theorem fsG:Z2K Y00 (match Y00.underlying 33 with|some (.struct fs)=>fs.toList|_=>[]) [QIs,Znx,ZmC,ZmC] 0 (Y00.cellsOf 33):=by
 rw[Y0V]
 refine⟨rfl,ZnY,?_⟩
 refine⟨by kernel_rfl,Zn2,?_⟩
 refine⟨by kernel_rfl,ZlK,?_⟩
 refine⟨by kernel_rfl,ZlK,?_⟩
 unfold Z2K;kernel_rfl
theorem q_g{us:List AV}(h:FsQ [QIs,Znx,ZmC,ZmC] us):∃g,us=grC g/\okG g:=by
 obtain⟨a,u1,rfl,⟨n1,rfl,h1⟩,b,u2,rfl,⟨n2,rfl,h2⟩,c,u3,rfl,⟨n3,rfl,h3⟩,d,u4,rfl,⟨n4,rfl,h4⟩,h6⟩:=h
 have h6:u4=[]:=h6
 subst h6
 exact⟨⟨n1,n2,n3,n4⟩,rfl,h1,h2,h3,h4⟩
theorem opGs:Z8y Y00 22 λu=>∃l:List DGr,u=rsG l/\okGs l:=by
 have h3:=fsG
 rw[Y0V]at h3
 refine ZbE (Za3 Tryz.underlying22 (by kernel_rfl) (show (4:Nat)≠0 by decide) (Z1m (Z3P Y0V h3) λu hu=>q_g hu)) ?_
 rintro u ⟨l,hl,rfl,hll⟩
 obtain⟨m,e1,e2,e3⟩:=Z3p (f:=grC) (ok:=okG) (λu h=>h) l hl
 exact⟨m,by rw[e1,e2];rfl,by rw[<- e2];exact hll,e3⟩
end oc
end
end Go.Proofs.YtpcpdlfhcahjgaaGreatDoor.lex
section
namespace Go.Proofs.YtpcpdlfhcahjgaaGreatDoor.shelf
open Go.Shelf
def Ziv:Go.Shelf.Ren:=⟨fun|285=>97|n=>n,fun|37=>38|53=>132|3=>3|4=>4|51=>128|9=>9|5=>5|0=>0|n=>n,fun|n=>n⟩
theorem fb10:Go.Proofs.Lays.n285 Y00 Ziv:={
 mixed:=by kernel_rfl
 f285:=Tryz.func97.trans (congrArg some (by kernel_rfl))
 t0:=Tryz.underlying0
 a0:=Tryz.isAgg0
 z0:=Tryz.sizeOf0
 v0:=Tryz.zeroValue0
 t3:=Y0b
 a3:=Y0F
 z3:=Y0G
 v3:=Y0H
 t4:=Y0W
 a4:=Tryz.isAgg4
 z4:=Tryz.sizeOf4
 v4:=Y0X
 t5:=Tryz.underlying5
 a5:=Tryz.isAgg5
 z5:=Tryz.sizeOf5
 v5:=Tryz.zeroValue5
 t9:=Tryz.underlying9
 a9:=Tryz.isAgg9
 z9:=Tryz.sizeOf9
 v9:=Tryz.zeroValue9
 t37:=Tryz.underlying38
 a37:=Tryz.isAgg38
 z37:=Tryz.sizeOf38
 v37:=Tryz.zeroValue38
 t51:=Tryz.underlying128
 a51:=Tryz.isAgg128
 z51:=Tryz.sizeOf128
 v51:=Tryz.zeroValue128
 t53:=Tryz.underlying132
 a53:=Tryz.isAgg132
 z53:=Tryz.sizeOf132
 v53:=Tryz.zeroValue132 }
def Zgx:Go.Shelf.Ren:=⟨fun|129=>108|n=>n,fun|53=>132|3=>3|4=>4|46=>117|5=>5|9=>9|n=>n,fun|n=>n⟩
theorem fblen:Go.Proofs.Lays.n129 Y00 Zgx:={
 mixed:=by kernel_rfl
 f129:=Tryz.func108.trans (congrArg some (by kernel_rfl))
 t3:=Y0b
 a3:=Y0F
 z3:=Y0G
 v3:=Y0H
 t4:=Y0W
 a4:=Tryz.isAgg4
 z4:=Tryz.sizeOf4
 v4:=Y0X
 t5:=Tryz.underlying5
 a5:=Tryz.isAgg5
 z5:=Tryz.sizeOf5
 v5:=Tryz.zeroValue5
 t9:=Tryz.underlying9
 a9:=Tryz.isAgg9
 z9:=Tryz.sizeOf9
 v9:=Tryz.zeroValue9
 t46:=Tryz.underlying117
 a46:=Tryz.isAgg117
 z46:=Tryz.sizeOf117
 v46:=Tryz.zeroValue117
 t53:=Tryz.underlying132
 a53:=Tryz.isAgg132
 z53:=Tryz.sizeOf132
 v53:=Tryz.zeroValue132 }
def Zgw:Go.Shelf.Ren:=⟨fun|317=>107|n=>n,fun|3=>3|46=>117|n=>n,fun|n=>n⟩
theorem fblog:Go.Proofs.Lays.n317 Y00 Zgw:={
 mixed:=by kernel_rfl
 f317:=Tryz.func107.trans (congrArg some (by kernel_rfl))
 t3:=Y0b
 a3:=Y0F
 z3:=Y0G
 v3:=Y0H
 t46:=Tryz.underlying117
 a46:=Tryz.isAgg117
 z46:=Tryz.sizeOf117
 v46:=Tryz.zeroValue117 }
def ZeA:Go.Shelf.Ren:=⟨fun|318=>109|n=>n,fun|3=>3|4=>4|n=>n,fun|n=>n⟩
theorem fbbool:Go.Proofs.Lays.n318 Y00 ZeA:={
 mixed:=by kernel_rfl
 f318:=Tryz.func109.trans (congrArg some (by kernel_rfl))
 t3:=Y0b
 a3:=Y0F
 z3:=Y0G
 v3:=Y0H
 t4:=Y0W
 a4:=Tryz.isAgg4
 z4:=Tryz.sizeOf4
 v4:=Y0X }
end Go.Proofs.YtpcpdlfhcahjgaaGreatDoor.shelf
end
section
namespace Go.Abs
open Go.RowKit
section
open Classical
noncomputable def snO(sn:Z0l)(ι : Z0i)(H:Z00)(W:World):Z0l:=λa=>if ∃ (b:Nat) (o:AObj) (p:Place),H[b]? = some o/\o.alive=true /\ ι b=some p/\p.blk=a.block then W.cell? a else sn a
end
theorem ZgT{W:World}{a:Addr}{v:Value}(hv:W.cell? a=some v):a.block<W.heap.size:=by
 cases hq:W.heap[a.block]? with
 |none=>unfold World.cell? at hv;rw[hq]at hv;simp at hv
 |some ob=>exact (Array.getElem?_eq_some_iff.1 hq).1
end Go.Abs
end
section
namespace Go.Abs
open Go.RowKit
def Z7R(P:Program)(gl:Z0w)(k f:Nat)(args:List AV)(H:Z00)(r:AV)(H':Z00):Prop :=
 ∀(sn:Z0l)(ι : Z0i)(W:World)(cargs:List Value),GlOK gl sn->R sn ι H W->LR sn ι args cargs ->
  CallsY P f cargs.toArray W λe W'=>∃v sn' ι',e = .returned v/\VR sn' ι' r v/\Stq k sn ι H W sn' ι' H' W'
def ZkB(P:Program)(l:List ResultVar)(k:Nat)(r:AV)(N:Z00)(tm:Tr)(H:Z00):Prop :=
 onO (Z37 P tm H l) λvs=>∃m,Zec k 0 m=true/\HpGe H m m N 0/\Z0S (m.map (Z0m H))=true/\Wk m (Z3O vs) r
theorem fn_memqR {rf : AV -> Array Tmp -> Code -> Code -> KN -> KX -> KN -> Tr -> Z00 -> Prop} {P : Program} {gl : Z0w} {orc : Orc} {k : Nat} (hrf : Znw P gl none k rf) (hm : P.follows .mixedOrders = true) (hn : NoNum P) (hO : OrcSound P gl orc) {f : Nat} {fn : Func} {c : Code} {args : List AV} {H0 N : Z00} {r : AV}
  (hf:P.funcs[f]? = some fn) (hc:fn.body=some c) {cw:CW} (hcw:Zcn P orc cw)
  (h:Z10 (tmk (Zbg args fn.ntmps args.length) (ZcC 20 fn.ntmps)) λtm=>Z24 P gl orc cw ⟨Z6p k,rf⟩ c (ZkB P fn.results.toList k r N) (λ_ _ _=>False) (ZkB P fn.results.toList k r N) tm H0):Z7R P gl k f args H0 r N:=by
 intro sn ι W cargs hg hR ha
 rw[Z0x]at h
 refine .inl (Z3Y hf hc (Z1p (rd:=none) hrf hm hn hO hcw c h) hg hR ha (λ_ _ _ h=>h) λx tm1 H a1 W1 sn1 ι1 hx s1 t1=>?_)
 have key:ZkB P fn.results.toList k r N tm1 H->∃v,(results fn a1.tmps).run P W1 = .ok v W1/\∃sn' ι',VR sn' ι' r v/\Stq k sn ι H0 W sn' ι' N W1:=by
  intro h
  obtain⟨us,h1,m,h0,h2,h3,h4⟩:=Z03 h
  obtain⟨vs,k1,k2⟩:=Z1k s1.rel t1 _ _ h1
  obtain⟨hS,_⟩:=Fg.sound (k:=k) (m:=m) (tm:=tm1) (tm2:=Z5J (λ_=>none) tm1) ⟨⟨λn u2 e=>(by have:=Z5e _ _ _ _ e;cases this),λn e=>(by rw[Z6E]at e;exact e)⟩,h2,h3,h0⟩ s1.rel t1
  exact⟨_,Z1W k2,sn1,iot m ι1,h4 _ _ _ (Z9S (fn:=fn) k1),s1.trans hS⟩
 cases x with
 |normal =>
  obtain⟨v,k1,sn',ι',k2,k3⟩:=key hx
  exact⟨v,k1,v,sn',ι',rfl,k2,k3⟩
 |exit id=>exact hx.elim
 |ret =>
  obtain⟨v,k1,sn',ι',k2,k3⟩:=key hx
  exact⟨v,k1,v,sn',ι',rfl,k2,k3⟩
theorem Zkz {P : Program} {gl : Z0w} {orc : Orc} (hm : P.follows .mixedOrders = true) (hn : NoNum P) (hO : OrcSound P gl orc) {f k : Nat} {fn : Func} {c : Code} {args : List AV} {H0 N : Z00} {r : AV}
  (hf:P.funcs[f]? = some fn) (hc:fn.body=some c) {cw:CW} (hcw:Zcn P orc cw)
  (h:Z10 (tmk (Zbg args fn.ntmps args.length) (ZcC 20 fn.ntmps)) λtm=>Z24 P gl orc cw (Zct k) c (ZkB P fn.results.toList k r N) (λ_ _ _=>False) (ZkB P fn.results.toList k r N) tm H0):Z7R P gl k f args H0 r N :=
 fn_memqR (λ_ _ _ _ _ _ _ _ _ _ _ h=>h.elim) hm hn hO hf hc hcw h
theorem Z1v {P : Program} {gl : Z0w} {orc : Orc} (isC : Nat -> Bool) (n : Nat) (hm : P.follows .mixedOrders = true) (hn : NoNum P) (hO : OrcSound P gl orc) {f k : Nat} {fn : Func} {c : Code} {args : List AV} {H0 N : Z00} {r : AV}
  (hf:P.funcs[f]? = some fn) (hc:fn.body=some c)
  (h:Z10 (tmk (Zbg args fn.ntmps args.length) (ZcC 20 fn.ntmps)) λtm=>Z24 P gl (Zei P gl orc isC n) (ZhB P gl orc isC n) (Zct k) c (ZkB P fn.results.toList k r N) (λ_ _ _=>False) (ZkB P fn.results.toList k r N) tm H0):Z7R P gl k f args H0 r N :=
 Zkz hm hn (Z4c hm hn hO n) hf hc (Z6v n) h
def Zbf(m:List Nat)(σ : Nat->Nat)(k:Nat)(Hs:Z00):Nat->Z00->Z00
 |_,[]=>[]
 |i,o::H=>(match Z3H m i 0 with
  |some j=>if Nat.blt j k then (match Hs[j]? with
   |some o'=>{ o with alive:=o'.alive,body:=Z6A σ o'.body }
   |none=>o) else o.dead
  |none=>o)::Zbf m σ k Hs (i+1) H
theorem Z6w (m : List Nat) (σ : Nat -> Nat) (k : Nat) (Hs : Z00) : ∀ (H : Z00) (i b : Nat), (Zbf m σ k Hs i H)[b]? = (H[b]?).map fun o => match Z3H m (i + b) 0 with
  |some j=>if Nat.blt j k then (match Hs[j]? with
   |some o'=>{ o with alive:=o'.alive,body:=Z6A σ o'.body }
   |none=>o) else o.dead
  |none=>o
 |[],i,b=>by simp[Zbf]
 |o::H,i,0=>by
  simp only[Zbf,List.getElem?_cons_zero,Y0D,Nat.add_zero]<;>rfl
 |o::H,i,b+1=>by
  simp only[Zbf,List.getElem?_cons_succ]
  rw[Z6w m σ k Hs H (i+1) b,show i+1+b=i+(b+1) by omega]
theorem Zcx(m:List Nat)(σ : Nat->Nat)(k:Nat)(Hs:Z00):∀(H:Z00)(i:Nat),(Zbf m σ k Hs i H).length=H.length
 |[],i=>rfl
 |o::H,i=>by simp only[Zbf,Y03,Zcx m σ k Hs H (i+1)]
def Z0O(m fs:List Nat):Nat->Z00->Bool
 |_,[]=>true
 |i,o::H=>(mem i m || (!o.alive || !mem o.fam fs))&&Z0O m fs (i+1) H
theorem Z7d{m fs:List Nat}:∀{H:Z00}{i j:Nat}{o:AObj},Z0O m fs i H=true->H[j]? = some o->o.alive=true->i+j∈m\/o.fam ∉ fs
 |[],i,j,o,h,e,_=>by simp at e
 |x::H,i,0,o,h,e,ha=>by
  simp only[Z0O,Y0w,Bool.or_eq_true,Y0R]at h
  simp at e;subst e
  rcases h.1 with h1|h1|h1
  ·exact .inl (Z0W.1 h1)
  ·rw[ha]at h1;cases h1
  ·exact .inr λe=>by rw[Z0W.2 e]at h1;cases h1
 |x::H,i,j+1,o,h,e,ha=>by
  simp only[Z0O,Y0w]at h
  have:=Z7d h.2 (by simpa using e) ha
  rcases this with h1|h1
  ·exact .inl (by rw[show i+(j+1)=i+1+j by omega];exact h1)
  ·exact .inr h1
def sig(m:List Nat)(k d:Nat)(b:Nat):Nat:=if b<k then m.getD b 0 else d
theorem Z8d {P : Program} {gl : Z0w} {f k : Nat} {Hs Hs' Hc : Z00} {fargs cargs : List AV} {r : AV} {m : List Nat} {n F : Nat} {bL : ABody} (hM : Z7R P gl k f fargs Hs r Hs') (hargs : Z1n (Zbj m (ZeV m Hc) n) cargs = some fargs) (hsub : HpGe Hc m m Hs 0)
  (hnd:Z0S (m.map (Z0m Hc))=true) (hlone:Z0O m (m.map (Z0m Hc)) 0 Hc=true) (hlen':Hs'.length=k+1) (hL:Hs'[k]? = some ⟨true,k,0,bL⟩)
  (hg2:∀(i:Nat)(o:AObj),Hs'[i]? = some o->o.fam=i/\o.alive=true/\Z0h (k+1) (Z6m o.body [])=true) (hs0:∀(i:Nat)(o:AObj),Hs[i]? = some o->o.sh=0)
  (hro:Zem Hs'=true) (hrr:ZbF r=true) (hrk:Z0h (k+1) (Z0z r [])=true) (hF:(m.length=k/\∀o∈Hc,o.fam<F)\/(m.length=k+1/\F=Z0m Hc (m.getD k 0))) :
  Z3F P gl f cargs Hc (ren (sig m k Hc.length) r) (Zbf m (sig m k Hc.length) k Hs' 0 Hc++[⟨true,F,0,Z6A (sig m k Hc.length) bL⟩]):=by
 intro sn ι W vargs hg hR hl
 obtain⟨hl1,hg1⟩:=hsub.get
 have hmk:k<=m.length/\m.length<=k+1:=by rcases hF with ⟨h,_⟩|⟨h,_⟩<;>omega
 have inm:∀b,b∈m->∃ (i:Nat) (o o2:AObj) (p:Place),m[i]? = some b/\Hc[b]? = some o/\Hs[i]? = some o2/\o.alive=true/\o2.alive=true /\ ι b=some p:=by
  intro b hb
  obtain⟨i,hi,rfl⟩:=List.mem_iff_getElem.1 hb
  obtain⟨j,o,o2,x1,x2,x3,x4,x5,_⟩:=hg1 i hi
  rw[Y0c hi]at x1
  cases x1
  obtain⟨p,hp⟩:=hR.place x2
  exact⟨i,o,o2,p,Y0c hi,x2,x3,x4,x5,hp⟩
 have apart_:∀(b:Nat)(o:AObj)(p:Place),Hc[b]? = some o->o.alive=true->b ∉ m -> ι b=some p->∀b' p',b'∈m -> ι b'=some p'->p'.blk≠p.blk:=by
  intro b o p ho hoa hb hp b' p' hb' hp' e
  obtain⟨i,o',o2,q,y1,y2,y3,y4,y5,y6⟩:=inm b' hb'
  have hs:=hR.sep b b' o o' p p' ho y2 hoa y4 hp hp' e.symm
  rcases Z7d hlone ho hoa with h|h
  ·exact hb (by simpa using h)
  · refine h ?_
    rw[List.mem_map]
    exact⟨b',hb',by simp only[Z0m,y2];exact hs.1.symm⟩
 let q:Nat->Prop:=λc=>∃b p,b∈m /\ ι b=some p/\p.blk=c
 let sn2:Z0l:=λa=>open Classical in if q a.block\/¬a.block<W.heap.size then none else W.cell? a
 have hsn2:∀a v,sn2 a=some v->¬q a.block/\a.block<W.heap.size/\W.cell? a=some v:=λa v h=>by
  have h:(open Classical in if q a.block\/¬a.block<W.heap.size then none else W.cell? a)=some v:=h
  split at h
  ·cases h
  · rename_i hx
    simp only[not_or,Classical.not_not]at hx
    exact⟨hx.1,hx.2,h⟩
 have hsn2':∀a v,¬q a.block->a.block<W.heap.size->W.cell? a=some v->sn2 a=some v:=λa v h1 h2 h3=>by
  show (open Classical in if q a.block\/¬a.block<W.heap.size then none else W.cell? a)=some v
  rw[if_neg (by simp only[not_or,Classical.not_not];exact⟨h1,h2⟩)];exact h3
 have hle:∀a v,sn a=some v->sn2 a=some v:=λa v hv=>by
  obtain⟨h1,h2,h3⟩:=hR.snap a v hv
  refine hsn2' a v ?_ h1 h2
  rintro⟨b,p,hb,hp,e⟩
  obtain⟨i,o,o2,p',y1,y2,y3,y4,y5,y6⟩:=inm b hb
  exact h3 b o p y2 y4 hp e
 have hR0:=Zlv hsub hnd hR
 have atm:∀{i:Nat}{p:Place},iot m ι i=some p->∃b,m[i]? = some b/\b∈m /\ ι b=some p:=λ{i p} hp=>by
  unfold iot at hp
  split at hp
  ·rename_i b hb;exact⟨b,hb,Y0Y hb,hp⟩
  ·cases hp
 have hRs:R sn2 (iot m ι) Hs W:=by
  refine⟨hR0.dom,hR0.blk,λb o p hb ha hp=>Z0Q ⟨hle,λ_ _ h=>h⟩ rfl (hR0.obj b o p hb ha hp),hR0.sep,λa v hv=>?_,hR0.shz⟩
  obtain⟨h1,h2,h3⟩:=hsn2 a v hv
  refine⟨h2,h3,λb o p hb ha hp e=>?_⟩
  obtain⟨c,_,hc,hp'⟩:=atm hp
  exact h1 ⟨c,p,hc,hp',e⟩
 have hla:LR sn2 (iot m ι) fargs vargs:=by
  refine Z7k (H:=ZeV m Hc) (W:=W) (λb o p hb ha hp=>?_) (ZbN hle) (λb o p hb ha hp off v hv=>?_) n _ _ _ hargs hl
  ·exact hR.obj b o p (Zda hb ha).1 ha hp
  · obtain⟨h1,h2⟩:=Zda hb ha
    refine hsn2' _ v ?_ (hR.blk b p hp) hv
    rintro⟨b',p',hb',hp',e⟩
    exact apart_ b o p h1 ha h2 hp b' p' hb' hp' e
 refine (hM sn2 (iot m ι) W vargs (hg.mono (ZbN hle)) hRs hla).mono ?_
 rintro e W' ⟨v,sn',ι',rfl,hv,hst⟩
 generalize hd:Hc.length=d at *
 obtain⟨pL,hpL⟩:=(hst.rel.dom k).1 (by omega)
 have hshL:pL.sh=0:=hst.rel.shz k _ pL hL hpL rfl
 have hblkL:=hst.rel.blk k pL hpL
 let κ : Z0i:=λb=>if b<d then ι b else if b=d then some pL else none
 have k1:∀b,b<d -> κ b = ι b:=λb hb=>if_pos hb
 have k2 : κ d=some pL:=by show (if d<d then ι d else if d=d then some pL else none)=some pL;rw[if_neg (by omega),if_pos rfl]
 have kinv:∀b p,κ b=some p->(b<d /\ ι b=some p)\/(b=d/\p=pL):=λb p hp=>by
  by_cases hb:b<d
  ·rw[k1 b hb]at hp;exact .inl ⟨hb,hp⟩
  · have hp:(if b<d then ι b else if b=d then some pL else none)=some p:=hp
    rw[if_neg hb]at hp
    split at hp
    ·cases hp;exact .inr ⟨by assumption,rfl⟩
    ·cases hp
 have whereL:W.heap.size<=pL.blk\/∃ (c:Nat) (oc:AObj) (pc:Place),m.length=k+1/\m[k]? = some c/\Hc[c]? = some oc/\oc.alive=true/\oc.sh=0 /\ ι c=some pc/\pc.blk=pL.blk:=by
  rcases hst.fresh k _ pL hL rfl hpL with h|⟨b0,o0,p0,e1,e2,e3,e4⟩
  ·exact .inl h
  · obtain⟨c,hc,hcm,hpc⟩:=atm e3
    have hb0:b0<m.length:=(Y0m.1 hc).1
    obtain⟨j,o,o2,x1,x2,x3,x4,x5,x6,x7,x8⟩:=hg1 b0 hb0
    rw[hc]at x1;cases x1
    by_cases hlt:b0<k
    · exfalso
      have hkeep:=hst.keep b0 p0 hlt e3
      obtain⟨ob,hob⟩:∃ob,Hs'[b0]? = some ob:=⟨_,Y0c (by omega)⟩
      have hs:=hst.rel.sep b0 k ob _ p0 pL hob hL (hg2 b0 ob hob).2.1 rfl hkeep hpL e4
      have h1:=(hg2 b0 ob hob).1
      rw[h1]at hs
      simp at hs
      omega
    · have hbk:b0=k:=by omega
      subst hbk
      rw[e1]at x3;cases x3
      exact .inr ⟨c,o,p0,by omega,hc,x2,x4,by rw[<- x7];exact hs0 _ _ e1,hpc,e4⟩
 have mLt:∀{i b:Nat},m[i]? = some b->b<d:=λ{i b} h=>by
  obtain⟨_,o,_,p,_,y2,_⟩:=inm b (Y0Y h)
  rw[<- hd];exact (Y0m.1 y2).1
 have hback:∀i,i<k+1->∀p,ι' i=some p -> κ (sig m k d i)=some p:=λi hi p hp=>by
  by_cases hik:i<k
  · obtain⟨b,hb⟩:∃b,m[i]? = some b:=⟨m[i],Y0c (by omega)⟩
    obtain⟨p0,hp0⟩:=(hRs.dom i).1 (by omega)
    have h1:=hst.keep i p0 hik hp0
    rw[hp]at h1;cases h1
    obtain⟨c,hc,_,hp1⟩:=atm hp0
    rw[hb]at hc;cases hc
    have:sig m k d i=b:=by unfold sig;rw[if_pos hik,List.getD_eq_getElem?_getD,hb];rfl
    rw[this,k1 b (mLt hb)];exact hp1
  · have:i=k:=by omega
    subst this
    rw[hpL]at hp;cases hp
    have:sig m i d i=d:=by unfold sig;rw[if_neg (by omega)]
    rw[this];exact k2
 have pos_:∀b,b∈m->∃i,Z3H m b 0=some i/\m[i]? = some b:=λb hb=>by
  cases hx:Z3H m b 0 with
  |none=>exact (Z77 hx hb).elim
  |some i=>exact⟨i,rfl,by simpa using (Z2T hx).2⟩
 have old:∀(b:Nat)(o:AObj)(p:Place),Hc[b]? = some o->o.alive=true->b ∉ m -> ι b=some p->W'.heap[p.blk]? = W.heap[p.blk]?:=λb o p ho hoa hb hp=>by
  refine hst.frame _ (hR.blk b p hp) λi o2 p2 hi ha hp2 e=>?_
  obtain⟨c,_,hc,hp3⟩:=atm hp2
  exact apart_ b o p ho hoa hb hp c p2 hc hp3 e
 have hup:∀(b:Nat)(o':AObj),(Zbf m (sig m k d) k Hs' 0 Hc)[b]? = some o'->∃o,Hc[b]? = some o/\o'.fam=o.fam/\o'.sh=o.sh/\((b ∉ m/\o'=o)\/(∃ (i:Nat) (x:AObj),i<k/\m[i]? = some b/\Hs'[i]? = some x/\o'.alive=x.alive/\o'.body=Z6A (sig m k d) x.body/\o.alive=true)\/o'.alive=false):=by
  intro b o' h
  rw[Z6w]at h
  simp only[Y0e]at h
  cases hx:Hc[b]? with
  |none=>rw[hx]at h;cases h
  |some o =>
   rw[hx]at h
   simp only[Y0D,Option.some.injEq]at h
   refine⟨o,rfl,?_⟩
   by_cases hb:b∈m
   · obtain⟨i,h1,h2⟩:=pos_ b hb
     have hi:i<m.length:=(Y0m.1 h2).1
     rw[h1]at h
     by_cases hik:i<k
     · have hi':i<Hs'.length:=by omega
       simp only[Nat.blt_eq,hik,Y0c hi',if_true]at h
       subst h
       obtain⟨_,y,_,_,_,y2,_,y4,_⟩:=inm b hb
       rw[hx]at y2;cases y2
       exact⟨rfl,rfl,.inr (.inl ⟨i,Hs'[i],hik,h2,Y0c hi',rfl,rfl,y4⟩)⟩
     · simp only[Nat.blt_eq,hik,if_false]at h
       subst h
       exact⟨rfl,rfl,.inr (.inr rfl)⟩
   · have hn : Z3H m b 0 = none := by
      cases hx:Z3H m b 0 with
      |none=>rfl
      |some i=>exact (hb (Y0Y (Z2T hx).2)).elim
     rw[hn]at h
     subst h
     exact⟨rfl,rfl,.inl ⟨hb,rfl⟩⟩
 have hlen:(Zbf m (sig m k d) k Hs' 0 Hc).length=d:=by rw[Zcx,hd]
 have hget : ∀ (b : Nat) (o' : AObj) (p : Place), (Zbf m (sig m k d) k Hs' 0 Hc ++ [⟨true, F, 0, Z6A (sig m k d) bL⟩])[b]? = some o' -> κ b = some p ->
   (b<d /\ ι b=some p/\(Zbf m (sig m k d) k Hs' 0 Hc)[b]? = some o')\/(b=d/\p=pL/\o'=⟨true,F,0,Z6A (sig m k d) bL⟩):=by
  intro b o' p hb hp
  rcases kinv b p hp with ⟨h1,h2⟩|⟨rfl,rfl⟩
  · rw[Y0s (by omega)]at hb
    exact .inl ⟨h1,h2,hb⟩
  · rw[Y0I (by omega),hlen,Nat.sub_self]at hb
    simp at hb
    exact .inr ⟨rfl,rfl,hb.symm⟩
 have hnr:∀c,c<W.heap.size->(∀(b:Nat)(o:AObj) p,Hc[b]? = some o->o.alive=true -> ι b=some p->p.blk≠c)->W'.heap[c]? = W.heap[c]?:=λc hc hno=>by
  refine hst.frame c hc λi o2 p2 hi ha hp2 e=>?_
  obtain⟨b,_,hb,hp3⟩:=atm hp2
  obtain⟨_,o,_,_,_,y2,_,y4,_⟩:=inm b hb
  exact hno b o p2 y2 y4 hp3 e
 have sepL:∀(b:Nat)(o:AObj)(p:Place),Hc[b]? = some o->o.alive=true -> ι b=some p->p.blk=pL.blk->o.fam=F/\p.sh=o.sh:=by
  intro b o p ho hoa hp e
  rcases whereL with h|⟨c,oc,pc,g1,g2,g3,g4,g5,g6,g7⟩
  ·have:=hR.blk b p hp;omega
  · have hs:=hR.sep c b oc o pc p g3 ho g4 hoa g6 hp (g7.trans e.symm)
    have hpc:=hR.shz c oc pc g3 g6 g5
    rcases hF with ⟨h,_⟩|⟨_,h⟩
    ·omega
    · have:m.getD k 0=c:=by rw[List.getD_eq_getElem?_getD,g2];rfl
      rw[this]at h
      simp only[Z0m,g3]at h
      exact⟨by rw[h];exact hs.1.symm,by omega⟩
 have halx:∀{b:Nat}{o x:AObj},((b ∉ m/\o=x)\/(∃ (i:Nat) (y:AObj),i<k/\m[i]? = some b/\Hs'[i]? = some y/\o.alive=y.alive/\o.body=Z6A (sig m k d) y.body/\x.alive=true)\/o.alive=false)->o.alive=true->x.alive=true:=by
  intro b o x hz ha
  rcases hz with ⟨_,rfl⟩|⟨_,_,_,_,_,_,_,h⟩|h
  ·exact ha
  ·exact h
  ·rw[h]at ha;cases ha
 have hR':R sn κ (Zbf m (sig m k d) k Hs' 0 Hc++[⟨true,F,0,Z6A (sig m k d) bL⟩]) W':=by
  refine⟨λb=>⟨λhb=>?_,λ⟨p,hp⟩=>?_⟩,λb p hp=>?_,λb o' p hb ha hp=>?_,λb b' o o' p p' hb hb' ha ha' hp hp' e=>?_,λa v hv=>?_,λb o' p hb hp e=>?_⟩
  · simp only[Y08,hlen,Y03,Y0J]at hb
    by_cases hlt:b<d
    ·rw[k1 b hlt];exact (hR.dom b).1 (by omega)
    · have:b=d:=by omega
      subst this;exact⟨pL,k2⟩
  · simp only[Y08,hlen,Y03,Y0J]
    rcases kinv b p hp with ⟨h1,_⟩|⟨h1,_⟩<;>omega
  · rcases kinv b p hp with ⟨_,h1⟩|⟨_,rfl⟩
    ·exact Nat.lt_of_lt_of_le (hR.blk b p h1) hst.size
    ·exact hblkL
  · rcases hget b o' p hb hp with ⟨b1,b2,b3⟩|⟨b1,rfl,rfl⟩
    · obtain⟨o,ho,_,_,h|⟨i,x,h0,h1,h2,h3,h4,h5⟩|h⟩:=hup b o' b3
      · obtain⟨h1,rfl⟩:=h
        refine Z0Q ⟨λ_ _ h=>h,λc p hc=>?_⟩ (old b _ p ho ha h1 b2) (hR.obj b _ p ho ha b2)
        rw[k1 c (by have:=(hR.dom c).2 ⟨p,hc⟩;omega)];exact hc
      · rw[h4]
        have hi':=hst.rel.obj i x p h2 (by rw[<- h3];exact ha) (hst.keep i p h0 (by simp only[iot,h1];exact b2))
        have h7:=(hg2 i x h2).2.2
        exact ZdR x.body (Z60 x.body p (λy hy=>hback y (Z1D h7 y hy)) (Zhi x.body (Z7a hro h2) hi'))
      ·rw[h]at ha;cases ha
    · have hi':=hst.rel.obj k _ p hL rfl hpL
      have h7:=(hg2 k _ hL).2.2
      exact ZdR bL (Z60 bL p (λy hy=>hback y (Z1D h7 y hy)) (Zhi bL (Z7a hro hL) hi'))
  · rcases hget b o p hb hp with ⟨b1,b2,b3⟩|⟨b1,rfl,rfl⟩<;>rcases hget b' o' p' hb' hp' with ⟨c1,c2,c3⟩|⟨c1,rfl,rfl⟩
    · obtain⟨x,hx,e1,e2,hz⟩:=hup b o b3
      obtain⟨y,hy,e3,e4,hw⟩:=hup b' o' c3
      have:=hR.sep b b' x y p p' hx hy (halx hz ha) (halx hw ha') b2 c2 e
      rw[e1,e2,e3,e4];exact this
    · obtain⟨x,hx,e1,e2,hz⟩:=hup b o b3
      obtain⟨s1,s2⟩:=sepL b x p hx (halx hz ha) b2 e
      exact⟨by rw[e1];exact s1,by rw[e2,hshL,s2];simp⟩
    · obtain⟨x,hx,e1,e2,hz⟩:=hup b' o' c3
      obtain⟨s1,s2⟩:=sepL b' x p' hx (halx hz ha') c2 e.symm
      exact⟨by rw[e1];exact s1.symm,by rw[e2,hshL,s2];simp⟩
    ·exact⟨rfl,rfl⟩
  · obtain⟨h1,h2,h3⟩:=hR.snap a v hv
    refine⟨Nat.lt_of_lt_of_le h1 hst.size,?_,λb o' p hb ha hp=>?_⟩
    ·rw[<- h2];exact World.cell?_of_block (hnr _ h1 h3)
    · rcases hget b o' p hb hp with ⟨b1,b2,b3⟩|⟨b1,rfl,rfl⟩
      · obtain⟨o,ho,_,_,h|⟨i,x,_,_,_,_,_,h5⟩|h⟩:=hup b o' b3
        ·obtain⟨_,rfl⟩:=h;exact h3 b _ p ho ha b2
        ·exact h3 b o p ho h5 b2
        ·rw[h]at ha;cases ha
      · rcases whereL with h|⟨c,oc,pc,g1,g2,g3,g4,g5,g6,g7⟩
        ·omega
        ·have:=h3 c oc pc g3 g4 g6;omega
  · rcases hget b o' p hb hp with ⟨b1,b2,b3⟩|⟨b1,rfl,rfl⟩
    · obtain⟨o,ho,_,e2,_⟩:=hup b o' b3
      exact hR.shz b o p ho b2 (by rw[<- e2];exact e)
    ·exact hshL
 refine⟨v,sn,κ,rfl,?_,hR',⟨λ_ _ h=>h,λb p hb=>?_⟩,λb p hp=>?_,hnr,hst.size,hst.os,hst.tape,hst.output,λ_ _ h=>.inl h,λb o hb=>?_⟩
 ·exact (Z6j r v).2 (Z1Q r [] v (λy hy=>hback y (Z1D hrk y hy)) (Z4R r v hrr hv))
 ·rw[k1 b (by have:=(hR.dom b).2 ⟨p,hb⟩;omega)];exact hb
 · rcases kinv b p hp with ⟨_,h1⟩|⟨_,rfl⟩
   ·exact .inl h1
   · rcases whereL with h|⟨c,oc,pc,g1,g2,g3,g4,g5,g6,g7⟩
     ·exact .inr (.inl h)
     ·exact .inr (.inr ⟨c,oc,pc,g3,g4,g6,g7⟩)
 · have hb':b<(Zbf m (sig m k d) k Hs' 0 Hc).length:=by rw[hlen,<- hd];exact (Y0m.1 hb).1
   have hx:=Y0c hb'
   obtain⟨x,hx1,e1,e2,h|⟨i,y,h0,h1,h2,h3,h4,h5⟩|h⟩:=hup b _ hx
   · rw[hb]at hx1;cases hx1
     exact⟨_,by rw[Y0s hb'];exact hx,e1,e2,λha=>by rw[h.2]at ha;exact ha⟩
   · rw[hb]at hx1;cases hx1
     exact⟨_,by rw[Y0s hb'];exact hx,e1,e2,λ_=>h5⟩
   · rw[hb]at hx1;cases hx1
     exact⟨_,by rw[Y0s hb'];exact hx,e1,e2,λha=>by rw[h]at ha;cases ha⟩
end Go.Abs
end
section
namespace Go.Abs
open Go.RowKit
def byt(s:List UInt8):List AV:=s.map λb=>.int .u8 b.toNat
theorem Z2I(t:List UInt8):(byt t).all one=true:=by simp[byt,Y0Z,one]
theorem byt_refs:∀(t:List UInt8)(acc:List Nat),refsL (byt t) acc=acc
 |[],_=>rfl
 |c::t,acc=>by show refsL (.int .u8 c.toNat::byt t) acc=acc;simp only[refsL,Z0z];exact byt_refs t acc
theorem Z3Z(a b:List UInt8):byt (a++b)=byt a++byt b:=by simp[byt]
theorem Z1A(a:List UInt8):(byt a).length=a.length:=by simp[byt]
theorem Zc5(f:Nat->Nat):∀t:List UInt8,renL f (byt t)=byt t
 |[]=>rfl
 |c::t=>by show ren f (.int .u8 c.toNat)::renL f (byt t)=_;rw[Zc5 f t];rfl
theorem Z9c:∀t:List UInt8,noROL (byt t)=true
 |[]=>rfl
 |c::t=>by show (ZbF (.int .u8 c.toNat)&&noROL (byt t))=true;rw[Z9c t];rfl
theorem ZgX:∀{a b:List UInt8},byt a=byt b->a=b
 |[],[],_=>rfl
 |[],_::_,h=>by simp[byt]at h
 |_::_,[],h=>by simp[byt]at h
 |x::a,y::b,h=>by
  have h':AV.int .u8 x.toNat::byt a=AV.int .u8 y.toNat::byt b:=h
  simp only[List.cons.injEq,AV.int.injEq,true_and]at h'
  have h2:x.toNat=y.toNat:=by have:=h'.1;omega
  rw[UInt8.toNat_inj.1 h2,ZgX h'.2]
theorem Z3n {P : Program} {ρ : Operand -> Option AV} {o : Oper} {x : Operand} {H : Z00} {b f sh off len cap : Nat} {cs : List AV} {ty s d : TypeId} (bs : List UInt8) (ho : o.op = .convert s d x) (hx : ρ x = some (.slice b off len cap 1)) (hT : Z5y P s d = true)
  (hH:H[b]? = some ⟨true,f,sh,.cells cs ty⟩) (hc:tk len (cs.drop off)=some (byt bs)):Z0q P ρ H o=some (.str bs):=by
 have h1:Z2i (byt bs)=some bs:=Z4N bs
 simp[Z0q,ho,hx,ZdN,hT,hH,hc,h1]
theorem ZgO {P : Program} {orc : Orc} {ρ : Operand -> Option AV} {o : Oper} {x : Operand} {H : Z00} {b f sh off len cap : Nat} {cs : List AV} {ty s d : TypeId} (bs : List UInt8) (ho : o.op = .convert s d x) (hx : ρ x = some (.slice b off len cap 1)) (hT : Z5y P s d = true)
  (hH:H[b]? = some ⟨true,f,sh,.cells cs ty⟩) (hc:tk len (cs.drop off)=some (byt bs)):aop P orc ρ o H=some (.str bs,H):=by
 have h:=Z3n bs ho hx hT hH hc
 simp[aop,ho,h]
def Z0X(d:Nat):Z00->Bool
 |[]=>true
 |o::H=>Nat.blt o.fam d&&Z0X d H
theorem Z5o{d:Nat}:∀{H:Z00},Z0X d H=true->∀o∈H,o.fam<d
 |[],_,o,h=>by cases h
 |x::H,h,o,ho=>by
  simp only[Z0X,Y0w]at h
  rcases List.mem_cons.1 ho with rfl|ho
  ·exact Z6g h.1
  ·exact Z5o h.2 o ho
end Go.Abs
end
section
namespace Go.Proofs.YtpcpdlfhcahjgaaGreatDoor.lex
open Go.Abs Go.RowKit Go.Sort
variable {gl:Z0w}
abbrev ZbX:UInt8->Value:=λb=>Value.int .u8 (b.toNat:Int)
theorem ZgY(d:List UInt8)(i:Nat):(byt d)[i]? = (d[i]?).map λb=>AV.int .u8 b.toNat:=by simp[byt]
theorem Zmh (u : Nat) (hu : u < 18446744073709551616) (d0 : List UInt8) (hd : d0.length = 24) (hnd : Lib.nDigits u <= 23) (cap : Nat) (ty : TypeId) :
  Z3F Y00 gl 97 [.slice 0 1 (Lib.nDigits u) cap 1,.int .u64 u] [⟨true,0,0,.cells (byt d0) ty⟩] (.tuple []) [⟨true,0,0,.cells (byt (d0.take 1++(Lib.decDigits u++d0.drop (1+Lib.nDigits u)))) ty⟩]:=by
 intro sn ι W cargs hg hR ha
 simp only[LR]at ha
 obtain⟨v1,_,rfl,h1,v2,_,rfl,h2,rfl⟩:=ha
 obtain⟨p,a,cap',hp,rfl,c1,c2,c3⟩:=h1.slice
 cases h2.int
 have hob:=hR.obj 0 _ p rfl rfl hp
 simp only[OR]at hob
 obtain⟨arr,g1,g2,g3,g4⟩:=hob
 have hsh:=hR.shz 0 _ p rfl hp rfl
 have hpos:=Lib.nDigits_pos u
 have hlen:=Lib.decDigits_length u
 generalize hn:Lib.nDigits u=nd at *
 obtain⟨rfl,c4⟩:=c3 (by omega)
 rw[hsh]at g3 g4
 rw[hsh]
 rw[Z1A,hd]at g3
 have hcell:∀i (h:i<24),W.cell? ⟨p.blk,i,none⟩=some (ZbX d0[i]):=λi h=>by
  obtain⟨v,e1,e2⟩:=g4 i (.int .u8 d0[i].toNat) (by rw[ZgY,Y0c (by omega)];rfl)
  cases e2.int
  simp only[World.cell?,g1]
  rw[Y0e]at e1;exact e1
 let d:Array UInt8:=((d0.drop 1).take nd).toArray
 have hds:d.size=nd:=by simp[d];omega
 have hdj:∀j,j<nd->∀(h:1+j<d0.length),d[j]! = d0[1+j]:=λj hj h=>by
  rw[getElem!_pos d j (by omega)]
  simp[d,Nat.add_comm 1 j]
 have hH:Holds ZbX W p.blk 1 d:=λj hj=>by
  rw[hds]at hj
  refine⟨?_,?_⟩
  ·rw[hcell (1+j) (by omega),hdj j hj (by omega)]
  ·simp[World.frozen?,g1]
 have hpow:u<10 ^ d.size:=by rw[hds,<- hn];exact Lib.lt_pow_nDigits u
 have hc:=Any.internal_strconv_formatBase10 shelf.fb10 p.blk 1 cap' u d W hH hpow hu (by rw[hds];omega)
 rw[hds]at hc
 refine hc.monoY ?_
 rintro e W' ⟨rfl,k,v',dk,rfl,hF⟩
 have hks:dk.size=nd:=hF.size
 have hdig:∀j (h:j<nd),ZbX dk[j]! = ZbX ((Lib.decDigits u)[j]'(by omega)):=λj h=>by
  have:=Lib.row_is_numeral (u:=u) (v':=v') (dk:=dk) (by rw[hn];exact hF) j (by omega)
  rw[this]
 have hother:∀c,c≠p.blk->((putRow ZbX W p.blk 1 dk).drewN k).heap[c]? = W.heap[c]?:=λc hc=>by
  show (putRow ZbX W p.blk 1 dk).heap[c]? = _
  simp only[putRow,mapBlock,Array.getElem?_modify]
  rw[if_neg (λe=>hc e.symm)]
 have hthis:((putRow ZbX W p.blk 1 dk).drewN k).heap[p.blk]? = some (.cells (putCells ZbX 1 dk arr) ty (0,0)):=by
  show (putRow ZbX W p.blk 1 dk).heap[p.blk]? = _
  simp only[putRow,mapBlock,Array.getElem?_modify,if_true,g1]
  rfl
 have hsize:((putRow ZbX W p.blk 1 dk).drewN k).heap.size=W.heap.size:=by
  show (putRow ZbX W p.blk 1 dk).heap.size=_
  simp
 have one0:∀{b:Nat}{o o':AObj},[o'][b]? = some o->b=0/\o=o':=λ{b o o'} h=>by
  cases b with
  |zero=>simp at h;exact⟨rfl,h.symm⟩
  |succ b=>simp at h
 refine⟨.tuple #[],sn,ι,rfl,by simp[VR,LR],⟨λb=>?_,λb q hq=>by rw[hsize];exact hR.blk b q hq,λb o q hb hal hq=>?_,λb b' o o' q q' hb hb' hal hal' hq hq' e=>?_,λad v hv=>?_,λb o q hb hq e=>?_⟩,Le.refl _ _,λ_ _ h=>.inl h,λc hc hno=>hother c (λe=>hno 0 _ p rfl rfl hp e.symm),by rw[hsize];exact Y07 _,rfl,rfl,rfl,λ_ _ h=>.inl h,λb o hb=>?_⟩
 ·exact hR.dom b
 · obtain⟨rfl,rfl⟩:=one0 hb
   rw[hp]at hq;cases hq
   simp only[OR]
   refine⟨_,hthis,by simp[putCells,g2],by rw[hsh,Z1A];simp only[Y08,Y09,Y0K];omega,λi c hi=>?_⟩
   rw[hsh,Y0e]
   rw[ZgY]at hi
   have hi24:i<24:=by
    have h1:i<(d0.take 1++(Lib.decDigits u++d0.drop (1+nd))).length:=by
     cases hx:(d0.take 1++(Lib.decDigits u++d0.drop (1+nd)))[i]? with
     |none=>rw[hx]at hi;cases hi
     |some b=>exact (Y0m.1 hx).1
    simp only[Y08,Y09,Y0K]at h1
    omega
   have ha0:arr[i]? = some (ZbX d0[i]):=by
    have:=hcell i hi24
    simp[World.cell?,g1]at this
    exact this
   have hput:(putCells ZbX 1 dk arr)[i]? = some (if 1<=i/\i<1+nd then ZbX dk[i-1]! else ZbX d0[i]):=by
    simp only[putCells,Array.getElem?_mapIdx,ha0,Y0D,hks]
   rw[hput]
   refine⟨_,rfl,?_⟩
   by_cases h1:1<=i/\i<1+nd
   · rw[if_pos h1,hdig (i-1) (by omega)]
     have:(d0.take 1++(Lib.decDigits u++d0.drop (1+nd)))[i]? = some ((Lib.decDigits u)[i-1]'(by omega)):=by
      rw[Y0I (by simp;omega),Y0s (by simp;omega),Y09]
      rw[show i-min 1 d0.length=i-1 by omega]
      exact Y0c (by omega)
     rw[this]at hi
     simp at hi;subst hi
     simp[VR]
   · rw[if_neg h1]
     have:(d0.take 1++(Lib.decDigits u++d0.drop (1+nd)))[i]? = some d0[i]:=by
      by_cases h0:i=0
      · subst h0
        rw[Y0s (by simp;omega),List.getElem?_take]
        simp
      · rw[Y0I (by simp;omega),Y0I (by simp;omega),List.getElem?_drop,Y09]
        rw[show 1+nd+(i-min 1 d0.length-(Lib.decDigits u).length)=i by omega]
        exact Y0c (by omega)
     rw[this]at hi
     simp at hi;subst hi
     simp[VR]
 · obtain⟨rfl,rfl⟩:=one0 hb
   obtain⟨rfl,rfl⟩:=one0 hb'
   rw[hq]at hq';cases hq'
   exact⟨rfl,rfl⟩
 · obtain⟨s1,s2,s3⟩:=hR.snap ad v hv
   refine⟨by rw[hsize];exact s1,?_,λb o q hb hal hq=>?_⟩
   · rw[<- s2]
     exact World.cell?_of_block (hother _ λe=>s3 0 _ p rfl rfl hp e.symm)
   · obtain⟨rfl,rfl⟩:=one0 hb
     exact s3 0 _ q rfl rfl hq
 · obtain⟨rfl,rfl⟩:=one0 hb
   exact hR.shz 0 _ q rfl hq rfl
 · obtain⟨rfl,rfl⟩:=one0 hb
   exact⟨_,rfl,rfl,rfl,λ_=>rfl⟩
end Go.Proofs.YtpcpdlfhcahjgaaGreatDoor.lex
end
section
namespace Go.Proofs.YtpcpdlfhcahjgaaGreatDoor.lex
open Go.Abs Go.RowKit Go.Sort
def ZmM(n:Nat):List UInt8:=if n<10 then [UInt8.ofNat (48+n)] else [UInt8.ofNat (48+n / 10),UInt8.ofNat (48+n % 10)]
theorem ZkQ(n:Nat)(h:n<100):ZmM n=Z4s n:=by
 unfold ZmM
 by_cases h1:n<10
 ·rw[if_pos h1,Z7v h1]
 ·rw[if_neg h1,ZiC h1,Z7v (by omega)];rfl
theorem ZmX{gl:Z0w}(n:Nat)(hn:n<100):ValOK Y00 gl 95 [.int .i64 n] (.str (ZmM n)):=by
 refine Z09 follows Z0a Z05 Tryz.func95 rfl ?_
 by_cases h:n<10
 · have e1:decide ((n:Int)<10)=true:=by simp;omega
   repeat' ((conv=>whnf);first|refine stp ?_|with_reducible apply Z01<;>intro h)
   refine congrArg AV.str ?_
   clear e1 hn
   revert n
   decide +kernel
 · have e1:decide ((n:Int)<10)=false:=by simp;omega
   repeat' ((conv=>whnf);first|refine stp ?_|with_reducible apply Z01<;>intro h)
   refine congrArg AV.str ?_
   clear e1
   revert h;revert hn;revert n
   decide +kernel
theorem Zlw{gl:Z0w}(n:Nat)(hn:n<100):∃O:Orc,OrcSound Y00 gl O/\(∀H,Z02 Y00 O H 95 [.int .i64 n]=some (.str (Z4s n),H)):=by
 obtain⟨O,hO,q1,-⟩:=fams (P:=Y00) (gl:=gl) [{ I:=Unit,f:=95,G:=(λ_=>True),A:=(λ_=>[.int .i64 n]),R:=(λ_=>.str (ZmM n)),body:=(by kernel_rfl),inj:=(λ_ _ _ _ _=>rfl),ok:=(λ_ _=>⟨rfl,ZmX n hn⟩) }] rfl
 exact⟨O,hO,λH=>by rw[<- ZkQ n hn];exact q1 () trivial H⟩
end Go.Proofs.YtpcpdlfhcahjgaaGreatDoor.lex
end
section
namespace Go.Proofs.YtpcpdlfhcahjgaaGreatDoor.runLives
open Go.RowKit Go.Abs
def ZnD:List AV:=[.int .u8 (.ofNat 0),.int .u8 (.ofNat 1),.int .u8 (.ofNat 28),.int .u8 (.ofNat 2),.int .u8 (.ofNat 29),.int .u8 (.ofNat 14),.int .u8 (.ofNat 24),
 .int .u8 (.ofNat 3),.int .u8 (.ofNat 30),.int .u8 (.ofNat 22),.int .u8 (.ofNat 20),.int .u8 (.ofNat 15),.int .u8 (.ofNat 25),
 .int .u8 (.ofNat 17),.int .u8 (.ofNat 4),.int .u8 (.ofNat 8),.int .u8 (.ofNat 31),.int .u8 (.ofNat 27),.int .u8 (.ofNat 13),.int .u8 (.ofNat 23),
 .int .u8 (.ofNat 21),.int .u8 (.ofNat 19),.int .u8 (.ofNat 16),.int .u8 (.ofNat 7),.int .u8 (.ofNat 26),.int .u8 (.ofNat 12),
 .int .u8 (.ofNat 18),.int .u8 (.ofNat 6),.int .u8 (.ofNat 11),.int .u8 (.ofNat 5),.int .u8 (.ofNat 10),.int .u8 (.ofNat 9)]
def ZnC:List AV:=[.int .u8 (.ofNat 0),.int .u8 (.ofNat 1),.int .u8 (.ofNat 56),.int .u8 (.ofNat 2),.int .u8 (.ofNat 57),.int .u8 (.ofNat 49),.int .u8 (.ofNat 28),
 .int .u8 (.ofNat 3),.int .u8 (.ofNat 61),.int .u8 (.ofNat 58),.int .u8 (.ofNat 42),.int .u8 (.ofNat 50),.int .u8 (.ofNat 38),
 .int .u8 (.ofNat 29),.int .u8 (.ofNat 17),.int .u8 (.ofNat 4),.int .u8 (.ofNat 62),.int .u8 (.ofNat 47),.int .u8 (.ofNat 59),
 .int .u8 (.ofNat 36),.int .u8 (.ofNat 45),.int .u8 (.ofNat 43),.int .u8 (.ofNat 51),.int .u8 (.ofNat 22),.int .u8 (.ofNat 53),
 .int .u8 (.ofNat 39),.int .u8 (.ofNat 33),.int .u8 (.ofNat 30),.int .u8 (.ofNat 24),.int .u8 (.ofNat 18),.int .u8 (.ofNat 12),
 .int .u8 (.ofNat 5),.int .u8 (.ofNat 63),.int .u8 (.ofNat 55),.int .u8 (.ofNat 48),.int .u8 (.ofNat 27),.int .u8 (.ofNat 60),
 .int .u8 (.ofNat 41),.int .u8 (.ofNat 37),.int .u8 (.ofNat 16),.int .u8 (.ofNat 46),.int .u8 (.ofNat 35),.int .u8 (.ofNat 44),
 .int .u8 (.ofNat 21),.int .u8 (.ofNat 52),.int .u8 (.ofNat 32),.int .u8 (.ofNat 23),.int .u8 (.ofNat 11),.int .u8 (.ofNat 54),
 .int .u8 (.ofNat 26),.int .u8 (.ofNat 40),.int .u8 (.ofNat 15),.int .u8 (.ofNat 34),.int .u8 (.ofNat 20),.int .u8 (.ofNat 31),
 .int .u8 (.ofNat 10),.int .u8 (.ofNat 25),.int .u8 (.ofNat 14),.int .u8 (.ofNat 19),.int .u8 (.ofNat 9),.int .u8 (.ofNat 13),.int .u8 (.ofNat 8),
 .int .u8 (.ofNat 7),.int .u8 (.ofNat 6)]
def tbl2:List AV:=[.int .u64 (.ofNat 1),.int .u64 (.ofNat 10),.int .u64 (.ofNat 100),.int .u64 (.ofNat 1000),.int .u64 (.ofNat 10000),.int .u64 (.ofNat 100000),
 .int .u64 (.ofNat 1000000),.int .u64 (.ofNat 10000000),.int .u64 (.ofNat 100000000),.int .u64 (.ofNat 1000000000),.int .u64 (.ofNat 10000000000),
 .int .u64 (.ofNat 100000000000),.int .u64 (.ofNat 1000000000000),.int .u64 (.ofNat 10000000000000),.int .u64 (.ofNat 100000000000000),
 .int .u64 (.ofNat 1000000000000000),.int .u64 (.ofNat 10000000000000000),.int .u64 (.ofNat 100000000000000000),
 .int .u64 (.ofNat 1000000000000000000),.int .u64 (.ofNat 10000000000000000000)]
def ZnB:List AV:=[.int .u8 (.ofNat 128),.int .u8 (.ofNat 191),.int .u8 (.ofNat 160),.int .u8 (.ofNat 191),.int .u8 (.ofNat 128),.int .u8 (.ofNat 159),
 .int .u8 (.ofNat 144),.int .u8 (.ofNat 191),.int .u8 (.ofNat 128),.int .u8 (.ofNat 143),.int .u8 (.ofNat 0),.int .u8 (.ofNat 0),
 .int .u8 (.ofNat 0),.int .u8 (.ofNat 0),.int .u8 (.ofNat 0),.int .u8 (.ofNat 0),.int .u8 (.ofNat 0),.int .u8 (.ofNat 0),.int .u8 (.ofNat 0),
 .int .u8 (.ofNat 0),.int .u8 (.ofNat 0),.int .u8 (.ofNat 0),.int .u8 (.ofNat 0),.int .u8 (.ofNat 0),.int .u8 (.ofNat 0),.int .u8 (.ofNat 0),
 .int .u8 (.ofNat 0),.int .u8 (.ofNat 0),.int .u8 (.ofNat 0),.int .u8 (.ofNat 0),.int .u8 (.ofNat 0),.int .u8 (.ofNat 0)]
def ZnX:List AV:=[.iface 165 (.rp [.str [118,97,108,117,101,32,111,117,116,32,111,102,32,114,97,110,103,101]])]
def ZnW:List AV:=[.iface 165 (.rp [.str [105,110,118,97,108,105,100,32,115,121,110,116,97,120]])]
def gl:Z0w:=λg=>if Y04 g 6 then some ZnD else if Y04 g 7 then some ZnC else if Y04 g 1 then some tbl2 else if Y04 g 3 then some ZnB else if Y04 g 5 then some ZnX else if Y04 g 4 then some ZnW else none
theorem follows:Y00.follows .mixedOrders=true:=by kernel_rfl
theorem Z8P:(Y00.funcs.toList.all λfn=>!(fn.name == "runtime.NumGoroutine"))=true:=by kernel_rfl
theorem Z0a:NoNum Y00:=⟨λg fn h=>by
 have h1:=Y0Z.1 Z8P fn (Array.mem_toList_iff.2 (Array.mem_of_getElem? h))
 simpa using h1,of_decide_eq_true (by kernel_rfl)⟩
theorem n0:Y00.globalNamed "math/bits.deBruijn32tab" = some 6:=by kernel_rfl
theorem ty0:(Y00.globals[6]?).map (·.type)=some 163:=by kernel_rfl
theorem av0:Zhu Y00 6 163 (Rows.laid_math_bits_deBruijn32tab (H:=Unit))=some ZnD:=by kernel_rfl
theorem n1:Y00.globalNamed "math/bits.deBruijn64tab" = some 7:=by kernel_rfl
theorem ty1:(Y00.globals[7]?).map (·.type)=some 164:=by kernel_rfl
theorem av1:Zhu Y00 6 164 (Rows.laid_math_bits_deBruijn64tab (H:=Unit))=some ZnC:=by kernel_rfl
theorem n2:Y00.globalNamed "internal/strconv.uint64pow10" = some 1:=by kernel_rfl
theorem ty2:(Y00.globals[1]?).map (·.type)=some 142:=by kernel_rfl
theorem av2:Zhu Y00 6 142 (Rows.laid_internal_strconv_uint64pow10 (H:=Unit))=some tbl2:=by kernel_rfl
theorem n3:Y00.globalNamed "unicode/utf8.acceptRanges" = some 3:=by kernel_rfl
theorem ty3:(Y00.globals[3]?).map (·.type)=some 157:=by kernel_rfl
theorem av3:Zhu Y00 6 157 (Rows.laid_unicode_utf8_acceptRanges (H:=Unit))=some ZnB:=by kernel_rfl
theorem ZnF : "*" ++ "errors.errorString" = "*errors.errorString" := by decide
theorem ZlT(u:TypeId)(h:Y00.typeName? 3 u=some "*errors.errorString"):u=165 :=
 typeName_ptr_named (nm := "errors.errorString") (by rw[ZnF];kernel_rfl) (by kernel_rfl) (by decide) u (by rw[ZnF];exact h)
noncomputable def fld:Field:=match Y00.underlying 167 with|some (.struct fs)=>(fs.toList.head?).getD default|_=>default
theorem unE:Y00.underlying 167=some (.struct #[fld]):=by kernel_rfl
theorem unP:Y00.underlying 165=some (.pointer 167):=by kernel_rfl
theorem unS:Y00.underlying 9=some .string:=by kernel_rfl
theorem ZnM:fld.type=9:=by kernel_rfl
theorem ZnN:fld.offset=0:=by kernel_rfl
theorem Zjw:Y00.cellsOf 167=1:=by kernel_rfl
theorem Zjv:Y00.cellsOf 9=1:=by kernel_rfl
theorem sn0:Y00.globalNamed "strconv.ErrRange" = some 5:=by kernel_rfl
theorem ZnT:(Y00.globals[5]?).map (·.type)=some 52:=by kernel_rfl
noncomputable def Zo4:Array (String×TypeId):=match Y00.underlying 52 with|some (.interface ms)=>ms|_=>#[]
theorem ZnR:Y00.underlying 52=some (.interface Zo4):=by kernel_rfl
theorem sn1:Y00.globalNamed "strconv.ErrSyntax" = some 4:=by kernel_rfl
theorem ZnS:(Y00.globals[4]?).map (·.type)=some 52:=by kernel_rfl
noncomputable def Zo3:Array (String×TypeId):=match Y00.underlying 52 with|some (.interface ms)=>ms|_=>#[]
theorem ZnQ:Y00.underlying 52=some (.interface Zo3):=by kernel_rfl
theorem globs{W:World}(h:laidMetH Y00 [("math/bits.deBruijn32tab", Rows.laid_math_bits_deBruijn32tab), ("math/bits.deBruijn64tab", Rows.laid_math_bits_deBruijn64tab), ("internal/strconv.uint64pow10", Rows.laid_internal_strconv_uint64pow10), ("unicode/utf8.acceptRanges", Rows.laid_unicode_utf8_acceptRanges), ("strconv.ErrRange", Rows.laid_strconv_ErrRange), ("strconv.ErrSyntax", Rows.laid_strconv_ErrSyntax), ("unicode/utf8.first", Rows.laid_unicode_utf8_first)] W):GlOK gl (Z2D W):=by
 have h':laidMet Y00 [("math/bits.deBruijn32tab", Rows.laid_math_bits_deBruijn32tab), ("math/bits.deBruijn64tab", Rows.laid_math_bits_deBruijn64tab), ("internal/strconv.uint64pow10", Rows.laid_internal_strconv_uint64pow10), ("unicode/utf8.acceptRanges", Rows.laid_unicode_utf8_acceptRanges), ("strconv.ErrRange", Rows.laid_strconv_ErrRange), ("strconv.ErrSyntax", Rows.laid_strconv_ErrSyntax), ("unicode/utf8.first", Rows.laid_unicode_utf8_first)] W:=h
 obtain⟨_,hv,_⟩:=id h'
 obtain⟨m0,_⟩:=Z5i n0 ty0 av0 hv
 have h':=laidMet.tail h'
 obtain⟨_,hv,_⟩:=id h'
 obtain⟨m1,_⟩:=Z5i n1 ty1 av1 hv
 have h':=laidMet.tail h'
 obtain⟨_,hv,_⟩:=id h'
 obtain⟨m2,_⟩:=Z5i n2 ty2 av2 hv
 have h':=laidMet.tail h'
 obtain⟨_,hv,_⟩:=id h'
 obtain⟨m3,_⟩:=Z5i n3 ty3 av3 hv
 have h':=laidMet.tail h'
 have s0:=Zai h' sn0 ZnT ZnR ZlT unP unE ZnM ZnN unS Zjw Zjv
 have h':=laidMet.tail h'
 have s1:=Zai h' sn1 ZnS ZnQ ZlT unP unE ZnM ZnN unS Zjw Zjv
 have h':=laidMet.tail h'
 intro g cs hg
 unfold gl at hg
 split at hg
 ·rename_i e;have:=Y0f e;subst this;simp at hg;subst hg;exact m0
 split at hg
 ·rename_i e;have:=Y0f e;subst this;simp at hg;subst hg;exact m1
 split at hg
 ·rename_i e;have:=Y0f e;subst this;simp at hg;subst hg;exact m2
 split at hg
 ·rename_i e;have:=Y0f e;subst this;simp at hg;subst hg;exact m3
 split at hg
 ·rename_i e;have:=Y0f e;subst this;simp at hg;subst hg;exact s0
 split at hg
 ·rename_i e;have:=Y0f e;subst this;simp at hg;subst hg;exact s1
 cases hg
end Go.Proofs.YtpcpdlfhcahjgaaGreatDoor.runLives
end
section
namespace Go.Proofs.YtpcpdlfhcahjgaaGreatDoor.lex
open Go.Abs Go.RowKit Go.Sort
theorem Z5p(W:World):Ext W W:=⟨λ_ _=>rfl,Y07 _,rfl,rfl,rfl⟩
theorem ZgI:∀n:Nat,Z4s n=Lib.decDigits n:=by
 intro n
 induction n using Nat.strongRecOn with
 |_ n ih =>
  rw[Z4s,Lib.decDigits]
  by_cases h:n<10
  ·rw[if_pos h,dif_pos h]
  ·rw[if_neg h,dif_neg h,ih (n / 10) (by omega)]
section
variable {gl:Z0w}
theorem Zig(u:Nat)(h:u<18446744073709551616):ValOK Y00 gl 108 [.int .u64 u] (.int .i64 (Lib.bitLen u)):=by
 intro sn W cargs hg hR ha
 simp only[LR]at ha
 obtain⟨v1,_,rfl,h1,rfl⟩:=ha
 cases h1.int
 refine (Any.bits_Len64 shelf.fblen u W (by omega) (by omega)).mono ?_
 rintro e W' ⟨rfl,rfl⟩
 exact⟨_,rfl,Z5p _,by simp[VR]⟩
theorem Zi8(x:Nat)(h:x<=64):ValOK Y00 gl 107 [.int .i64 x] (.int .i64 (Lib.l10 x)):=by
 intro sn W cargs hg hR ha
 simp only[LR]at ha
 obtain⟨v1,_,rfl,h1,rfl⟩:=ha
 cases h1.int
 refine (Any.internal_strconv_log10Pow2 shelf.fblog x h W).mono ?_
 rintro e W' ⟨rfl,rfl⟩
 exact⟨_,rfl,Z5p _,by simp[VR]⟩
theorem ZiI(b:Bool):ValOK Y00 gl 109 [.bool b] (.int .i64 (if b then 1 else 0)):=by
 intro sn W cargs hg hR ha
 simp only[LR]at ha
 obtain⟨v1,_,rfl,h1,rfl⟩:=ha
 cases h1.bool
 refine (Any.internal_strconv_bool2_int shelf.fbbool b W).mono ?_
 rintro e W' ⟨rfl,rfl⟩
 exact⟨_,rfl,Z5p _,by simp[VR]⟩
end
theorem Zh2(u:Nat)(h:u<18446744073709551616):Lib.bitLen u<=64:=Lib.bitLen_le u 64 (Y07 _) h
def ZiZ:List AV:=(List.range 20).map λi=>AV.int .u64 ((10 ^ i:Nat):Int)
theorem p10:runLives.tbl2=ZiZ:=by kernel_rfl
theorem ZlH(j:Nat)(h:j<20):tk 1 (runLives.tbl2.drop (j*1))=some [.int .u64 ((10 ^ j:Nat):Int)]:=by
 have:=Z6T (λi:Nat=>AV.int .u64 ((10 ^ i:Nat):Int)) (List.range 20) j (by simpa using h) (off:=j*1) (by omega)
 rw[p10];simpa[ZiZ]using this
theorem ZlS(u:Nat)(h1:1<=u)(h2:u<18446744073709551616):ValOK Y00 runLives.gl 96 [.int .u64 u] (.int .i64 (Lib.nDigits u)):=by
 obtain⟨O,hO,q1,q2,q3,-⟩:=fams (P:=Y00) (gl:=runLives.gl) [
  { I:=Nat,f:=108,G:=(λu=>u<18446744073709551616),A:=(λu=>[.int .u64 u]),R:=(λu=>.int .i64 (Lib.bitLen u)),body:=(by kernel_rfl),inj:=(λi j _ _ h=>by simp only[List.cons.injEq,AV.int.injEq,true_and,and_true]at h;rw[Int.ofNat_inj.1 h]),ok:=(λu h=>⟨rfl,Zig u h⟩) },
  { I:=Nat,f:=107,G:=(λu=>u<=64),A:=(λu=>[.int .i64 u]),R:=(λu=>.int .i64 (Lib.l10 u)),body:=(by kernel_rfl),inj:=(λi j _ _ h=>by simp only[List.cons.injEq,AV.int.injEq,true_and,and_true]at h;rw[Int.ofNat_inj.1 h]),ok:=(λu h=>⟨rfl,Zi8 u h⟩) },
  { I:=Bool,f:=109,G:=(λ_=>True),A:=(λb=>[.bool b]),R:=(λb=>.int .i64 (if b then 1 else 0)),body:=(by kernel_rfl),inj:=(λi j _ _ h=>by simp only[List.cons.injEq,AV.bool.injEq,and_true]at h;rw[h]),ok:=(λb _=>⟨rfl,ZiI b⟩) }] rfl
 have r1:∀H,Z02 Y00 O H 108 [.int .u64 u]=some (.int .i64 (Lib.bitLen u),H):=q1 u h2
 have r2:∀H,Z02 Y00 O H 107 [.int .i64 (Lib.bitLen u)]=some (.int .i64 (Lib.l10 (Lib.bitLen u)),H):=q2 _ (Zh2 u h2)
 have r3:∀b H,Z02 Y00 O H 109 [.bool b]=some (.int .i64 (if b then 1 else 0),H):=λb=>q3 b trivial
 clear q1 q2 q3
 obtain⟨e1,e2⟩:=Lib.numDigits_eq u h1 h2
 generalize Lib.nDigits u=nd at *
 generalize Lib.l10 (Lib.bitLen u)=l at *
 generalize Lib.bitLen u=bl at *
 have hp:=ZlH l (by omega)
 have hd:decide ((u:Int) >= ((10 ^ l:Nat):Int))=decide (10 ^ l<=u):=by
  have:((u:Int) >= ((10 ^ l:Nat):Int)) ↔ 10 ^ l<=u:=by omega
  simp only[this]
 have hw:IntKind.i64.wrap ((l:Int)+(if decide (10 ^ l<=u) then 1 else 0))=(nd:Int):=by
  have:((l:Int)+(if decide (10 ^ l<=u)=true then 1 else 0))=(nd:Int):=by
   rw[<- e1];by_cases h:10 ^ l<=u<;>simp[h]
  rw[this];exact Z1i (by omega) (by split at e1<;>omega)
 refine Z09 follows Z0a hO Tryz.func96 rfl ?_
 repeat' ((conv=>whnf);first|with_reducible refine exI (r1 _) ?_|with_reducible refine exI (r2 _) ?_|(rw[hd];with_reducible refine exI (r3 _ _) ?_)|refine exI hp ?_|(with_reducible refine ixJ l rfl ?_ ?_;focus omega)|(with_reducible refine exW hw ?_)|refine stp ?_|with_reducible apply Z01<;>intro h)
 all_goals rfl
theorem ZnE:Z5y Y00 38 9=true:=by kernel_rfl
theorem Zfm {P : Program} {orc : Orc} {ρ : Operand -> Option AV} {o : Oper} {H : Z00} {t e : TypeId} {x lo hi : Operand} {b off f sh n z : Nat} {cs : List AV} {ty : TypeId} (l h off' len' cap' : Nat) (ho : o.op = .slice t x (some lo) (some hi) none) (hx : ρ x = some (.ptr b off)) (hlo : ρ lo = some (.int .i64 (l : Int))) (hhi : ρ hi = some (.int .i64 (h : Int)))
  (ht:P.underlying t=some (.array n e)/\tsz P e=some z) (hH:H[b]? = some ⟨true,f,sh,.cells cs ty⟩) (hc:Nat.ble (off+n*z) cs.length=true) (h1:l<=h) (h2:h<=n) (e1:off+l*z=off') (e2:h-l=len') (e3:n-l=cap'):aop P orc ρ o H=some (.slice b off' len' cap' z,H):=by
 subst e1;subst e2;subst e3
 have c1:bnd (some (.int .i64 (h:Int))) n n=some h:=by simp only[bnd];rw[if_pos (by omega),Y10]
 have c2:bnd (some (.int .i64 (l:Int))) 0 h=some l:=by simp only[bnd];rw[if_pos (by omega),Y10]
 simp only[aop,Z0q,Z2q,Z7H,ho,hx,hlo,hhi,ZeZ,Z7A,Z7z,ht.1,ht.2,hH,hc,c1,c2,if_true]
theorem ZmQ:Y00.underlying 131=some (.array 24 5)/\tsz Y00 5=some 1:=⟨by kernel_rfl,by kernel_rfl⟩
theorem Zi5(u:Nat)(h1:1<=u)(h2:u<18446744073709551616):Lib.nDigits u<=20:=by
 obtain⟨e1,e2⟩:=Lib.numDigits_eq u h1 h2
 split at e1<;>omega
theorem Zme(u:Nat)(h1:100<=u)(h2:u<=9223372036854775807):ValOK Y00 runLives.gl 82 [.int .i64 u,.int .i64 10] (.str (Z4s u)):=by
 obtain⟨O,hO,⟨q2,-⟩,⟨q1,-⟩⟩:=Z5m (P:=Y00) (gl:=runLives.gl) [
  { I := Unit, f := 97, G := (fun _ => True), A := (fun _ => [.slice 0 1 (Lib.nDigits u) 23 1, .int .u64 u]), H := (fun _ => [⟨true, 0, 0, .cells (byt (List.replicate 24 0)) 131⟩]), R := (fun _ => .tuple []), O := (fun _ => [⟨true, 0, 0, .cells (byt ((List.replicate 24 0).take 1 ++ (Lib.decDigits u ++ (List.replicate 24 0).drop (1 + Lib.nDigits u)))) 131⟩]), body := (by kernel_rfl), inj := (fun _ _ _ _ _ _ => ⟨rfl, rfl⟩),
    ok:=(λ_ _=>Zmh u (by omega) (List.replicate 24 0) (by simp) (by have:=Zi5 u (by omega) (by omega);omega) 23 _) }] [
  { I:=Unit,f:=96,G:=(λ_=>True),A:=(λ_=>[.int .u64 u]),R:=(λ_=>.int .i64 (Lib.nDigits u)),body:=(by kernel_rfl),inj:=(λ_ _ _ _ _=>rfl),ok:=(λ_ _=>⟨rfl,ZlS u (by omega) (by omega)⟩) }] rfl
 have r1:∀H,Z02 Y00 O H 96 [.int .u64 u]=some (.int .i64 (Lib.nDigits u),H):=q1 () trivial
 have r2:=q2 () trivial
 dsimp only at r2
 clear q1 q2
 have hlen:=Lib.decDigits_length u
 rw[ZgI]
 have hnd:Lib.nDigits u<=20:=Zi5 u (by omega) (by omega)
 generalize Lib.decDigits u=D at *
 generalize Lib.nDigits u=nd at *
 have hlenB:(byt ((List.replicate 24 (0:UInt8)).take 1++(D++(List.replicate 24 0).drop (1+nd)))).length=24:=by rw[Z1A];simp only[Y08,Y09,Y0K,List.length_replicate];omega
 have hble:Nat.ble (0+24*1) (byt ((List.replicate 24 (0:UInt8)).take 1++(D++(List.replicate 24 0).drop (1+nd)))).length=true:=by rw[hlenB];rfl
 have hcv:tk nd ((byt ((List.replicate 24 (0:UInt8)).take 1++(D++(List.replicate 24 0).drop (1+nd)))).drop 1)=some (byt D):=by
  have h:(byt ((List.replicate 24 (0:UInt8)).take 1++(D++(List.replicate 24 0).drop (1+nd)))).drop 1=byt D++byt ((List.replicate 24 (0:UInt8)).drop (1+nd)):=by rw[<- Z3Z];rfl
  rw[h,<- hlen,<- Z1A D];exact Zcz _ _
 have e1:decide ((0:Int)<=(u:Int))=true:=by simp
 have e2:decide ((u:Int)<100)=false:=by simp;omega
 have e3:decide ((u:Int)<0)=false:=by simp
 have w1:IntKind.u64.wrap (u:Int)=(u:Int):=by simp[IntKind.wrap,IntKind.bits,IntKind.signed];omega
 have w2:IntKind.i64.wrap (1+(nd:Int))=((1+nd:Nat):Int):=by
  have:1+(nd:Int)=((1+nd:Nat):Int):=by omega
  rw[this];exact Z1i (by omega) (by omega)
 refine Z09 follows Z0a hO Tryz.func82 rfl ?_
 repeat' ((conv=>whnf);first|(rw[w1];with_reducible refine exI (r1 _) ?_)|refine exI r2 ?_|refine exI (Zfm 1 (1+nd) 1 nd 23 rfl rfl rfl rfl ZmQ rfl rfl (by omega) (by omega) rfl (by omega) rfl) ?_|refine exI (Zfm 1 (1+nd) 1 nd 23 rfl rfl rfl rfl ZmQ rfl hble (by omega) (by omega) rfl (by omega) rfl) ?_|refine exI (ZgO D rfl rfl ZnE rfl hcv) ?_|(with_reducible refine exW w1 ?_)|(with_reducible refine exW w2 ?_)|refine stp ?_|with_reducible apply Z01<;>intro h)
 all_goals rfl
end Go.Proofs.YtpcpdlfhcahjgaaGreatDoor.lex
end
section
namespace Go.Proofs.YtpcpdlfhcahjgaaGreatDoor.lex
open Go.Abs Go.RowKit Go.Sort
theorem Zly {P : Program} {orc : Orc} {ρ : Operand -> Option AV} {o : Oper} {H : Z00} {t e : TypeId} {x hi : Operand} {b off f sh n z : Nat} {cs : List AV} {ty : TypeId} (h cap' : Nat) (ho : o.op = .slice t x none (some hi) none) (hx : ρ x = some (.ptr b off)) (hhi : ρ hi = some (.int .i64 (h : Int)))
  (ht:P.underlying t=some (.array n e)/\tsz P e=some z) (hH:H[b]? = some ⟨true,f,sh,.cells cs ty⟩) (hc:Nat.ble (off+n*z) cs.length=true) (h2:h<=n) (e3:n=cap'):aop P orc ρ o H=some (.slice b off h cap' z,H):=by
 subst e3
 have c1:bnd (some (.int .i64 (h:Int))) n n=some h:=by simp only[bnd];rw[if_pos (by omega),Y10]
 have c2:bnd none 0 h=some 0:=rfl
 simp only[aop,Z0q,Z2q,Z7H,ho,hx,hhi,ZeZ,Z7A,Z7z,ht.1,ht.2,hH,hc,c1,c2,if_true,Nat.zero_mul,Nat.add_zero,Nat.sub_zero]
theorem ZnU(c v:AV)(cs:List AV):spl (c::cs) 0 [v]=some (v::cs):=by cases cs<;>rfl
theorem Zmd(u:Nat)(h1:1<=u)(h2:u<=9223372036854775808):ValOK Y00 runLives.gl 82 [.int .i64 (-(u:Int)),.int .i64 10] (.str (45::Z4s u)):=by
 obtain⟨O,hO,⟨q2,-⟩,⟨q1,-⟩⟩:=Z5m (P:=Y00) (gl:=runLives.gl) [
  { I := Unit, f := 97, G := (fun _ => True), A := (fun _ => [.slice 0 1 (Lib.nDigits u) 23 1, .int .u64 u]), H := (fun _ => [⟨true, 0, 0, .cells (byt (List.replicate 24 0)) 131⟩]), R := (fun _ => .tuple []), O := (fun _ => [⟨true, 0, 0, .cells (byt ((List.replicate 24 0).take 1 ++ (Lib.decDigits u ++ (List.replicate 24 0).drop (1 + Lib.nDigits u)))) 131⟩]), body := (by kernel_rfl), inj := (fun _ _ _ _ _ _ => ⟨rfl, rfl⟩),
    ok:=(λ_ _=>Zmh u (by omega) (List.replicate 24 0) (by simp) (by have:=Zi5 u (by omega) (by omega);omega) 23 _) }] [
  { I:=Unit,f:=96,G:=(λ_=>True),A:=(λ_=>[.int .u64 u]),R:=(λ_=>.int .i64 (Lib.nDigits u)),body:=(by kernel_rfl),inj:=(λ_ _ _ _ _=>rfl),ok:=(λ_ _=>⟨rfl,ZlS u (by omega) (by omega)⟩) }] rfl
 have r1:∀H,Z02 Y00 O H 96 [.int .u64 u]=some (.int .i64 (Lib.nDigits u),H):=q1 () trivial
 have r2:=q2 () trivial
 dsimp only at r2
 clear q1 q2
 have hlen:=Lib.decDigits_length u
 rw[ZgI]
 have hnd:Lib.nDigits u<=20:=Zi5 u (by omega) (by omega)
 generalize Lib.decDigits u=D at *
 generalize Lib.nDigits u=nd at *
 have e1:decide ((0:Int) <= -(u:Int))=false:=by simp;omega
 have e3:decide (-(u:Int)<0)=true:=by simp;omega
 have w2:IntKind.i64.wrap (1+(nd:Int))=((1+nd:Nat):Int):=by
  have:1+(nd:Int)=((1+nd:Nat):Int):=by omega
  rw[this];exact Z1i (by omega) (by omega)
 have w1:IntKind.u64.wrap (0-IntKind.u64.wrap (-(u:Int)))=(u:Int):=by
  simp[IntKind.wrap,IntKind.bits,IntKind.signed];omega
 have hcells:∃cs:List AV,cs=byt (45::(D++(List.replicate 24 (0:UInt8)).drop (1+nd))):=⟨_,rfl⟩
 obtain⟨cs,hcs⟩:=hcells
 have hx:(byt ((List.replicate 24 (0:UInt8)).take 1++(D++(List.replicate 24 0).drop (1+nd)))) = .int .u8 0::byt (D++(List.replicate 24 (0:UInt8)).drop (1+nd)):=rfl
 have hlenB:(byt (D++(List.replicate 24 (0:UInt8)).drop (1+nd))).length=23:=by rw[Z1A];simp only[Y08,Y0K,List.length_replicate];omega
 have hble:Nat.ble (0+24*1) (.int .u8 45::byt (D++(List.replicate 24 (0:UInt8)).drop (1+nd))).length=true:=by rw[Y03,hlenB];rfl
 have hcv:tk (1+nd) ((.int .u8 45::byt (D++(List.replicate 24 (0:UInt8)).drop (1+nd))).drop 0)=some (byt (45::D)):=by
  have h:(AV.int .u8 45::byt (D++(List.replicate 24 (0:UInt8)).drop (1+nd))).drop 0=byt (45::D)++byt ((List.replicate 24 (0:UInt8)).drop (1+nd)):=by rw[<- Z3Z];rfl
  have h2:1+nd=(byt (45::D)).length:=by rw[Z1A,Y03];omega
  rw[h,h2];exact Zcz _ _
 rw[hx]at r2
 generalize byt (D++(List.replicate 24 (0:UInt8)).drop (1+nd))=B at *
 refine Z09 follows Z0a hO Tryz.func82 rfl ?_
 repeat' ((conv=>whnf);first|(rw[w1];with_reducible refine exI (r1 _) ?_)|refine exI r2 ?_|refine exI (Zfm 1 (1+nd) 1 nd 23 rfl rfl rfl rfl ZmQ rfl rfl (by omega) (by omega) rfl (by omega) rfl) ?_|refine exI (Zly (1+nd) 24 rfl rfl rfl ZmQ rfl hble (by omega) rfl) ?_|refine exI (ZgO (45::D) rfl rfl ZnE rfl hcv) ?_|refine exI (ZnU _ _ _) ?_|(with_reducible refine exW w2 ?_)|refine stp ?_|with_reducible apply Z01<;>intro h)
 all_goals rfl
theorem Zmf(n:Int)(h1:rgI n):ValOK Y00 runLives.gl 82 [.int .i64 n,.int .i64 10] (.str (Z0g n)):=by
 have h2:=h1.1
 have h3:=h1.2
 by_cases h0:0<=n
 · obtain⟨u,rfl⟩:∃u:Nat,n=(u:Int):=⟨n.toNat,by omega⟩
   have hn:Z0g (u:Int)=Z4s u:=by unfold Z0g;rw[if_neg (by omega)];simp
   rw[hn]
   by_cases h:u<100
   · obtain⟨O,hO,r1⟩:=Zlw (gl:=runLives.gl) u h
     have e1:decide ((0:Int)<=(u:Int))=true:=by simp
     have e2:decide ((u:Int)<100)=true:=by simp;omega
     refine Z09 follows Z0a hO Tryz.func82 rfl ?_
     repeat' ((conv=>whnf);first|with_reducible refine exI (r1 _) ?_|refine stp ?_|with_reducible apply Z01<;>intro h)
     all_goals rfl
   ·exact Zme u (by omega) (by omega)
 · obtain⟨u,rfl⟩:∃u:Nat,n = -(u:Int):=⟨n.natAbs,by omega⟩
   have hn:Z0g (-(u:Int))=45::Z4s u:=by unfold Z0g;rw[if_pos (by omega)];simp
   rw[hn]
   exact Zmd u (by omega) (by omega)
theorem Zgv(n:Int)(h1:rgI n):∃O:Orc,OrcSound Y00 runLives.gl O/\(∀H,Z02 Y00 O H 82 [.int .i64 n,.int .i64 10]=some (.str (Z0g n),H)):=by
 obtain⟨O,hO,q1,-⟩:=fams (P:=Y00) (gl:=runLives.gl) [{ I:=Unit,f:=82,G:=(λ_=>True),A:=(λ_=>[.int .i64 n,.int .i64 10]),R:=(λ_=>.str (Z0g n)),body:=(by kernel_rfl),inj:=(λ_ _ _ _ _=>rfl),ok:=(λ_ _=>⟨rfl,Zmf n h1⟩) }] rfl
 exact⟨O,hO,q1 () trivial⟩
theorem ZkA(n:Int)(h1:rgI n):ValOK Y00 runLives.gl 62 [.int .i64 n,.int .i64 10] (.str (Z0g n)):=by
 obtain⟨O,hO,r1⟩:=Zgv n h1
 refine Z0u (λg=>Y04 g 82) 2 follows Z0a hO Tryz.func62 rfl ?_
 repeat' ((conv=>whnf);first|with_reducible refine exI (r1 _) ?_|refine stp ?_|with_reducible apply Z01<;>intro h)
 all_goals rfl
theorem Z6I(n:Int)(h1:rgI n):ValOK Y00 runLives.gl 45 [.int .i64 n] (.str (Z0g n)):=by
 obtain⟨O,hO,r1⟩:=Zgv n h1
 refine Z0u (λg=>Y04 g 82) 3 follows Z0a hO Tryz.func45 rfl ?_
 repeat' ((conv=>whnf);first|with_reducible refine exI (r1 _) ?_|refine stp ?_|with_reducible apply Z01<;>intro h)
 all_goals rfl
end Go.Proofs.YtpcpdlfhcahjgaaGreatDoor.lex
end
namespace Go.Proofs.YtpcpdlfhcahjgaaGreatDoor.lex
open Go.Abs Go.RowKit
section
theorem ZbZ(n:Int)(h:rgI n):ValOK Y00 runLives.gl 46 [.int .i64 n] (.str (Z0g n)):=by
 obtain⟨O,hO,p1,-⟩:=fams (P:=Y00) (gl:=runLives.gl) [{ I:=Unit,f:=62,G:=(λ_=>True),A:=(λ_=>[.int .i64 n,.int .i64 10]),R:=(λ_=>.str (Z0g n)),body:=(by kernel_rfl),inj:=(λ_ _ _ _ _=>rfl),ok:=(λ_ _=>⟨rfl,ZkA n h⟩) }] rfl
 have q:∀H,Z02 Y00 O H 62 [.int .i64 n,.int .i64 10]=some (.str (Z0g n),H):=p1 () trivial
 clear p1
 generalize Z0g n=s at *
 refine Z09 follows Z0a hO Tryz.func46 rfl ?_
 repeat' ((conv=>whnf);first|with_reducible refine exI (q _) ?_|refine stp ?_|with_reducible apply Z01<;>intro h)
 all_goals rfl
theorem Z0N{n:Int}(h:rgI n):(Z0g n).length<=21:=by
 have h1:=h.1
 have h2:=h.2
 unfold Z0g
 split
 · have:=Zc2 19 n.natAbs (by omega)
   rw[Y03];omega
 · have:=Zc2 19 n.toNat (by omega)
   omega
theorem Zmp(d:DId)(hd:okD d):ValOK Y00 runLives.gl 48 [.agg (idC d)] (.str (idT d)):=by
 obtain⟨O,hO,p1,-⟩:=fams (P:=Y00) (gl:=runLives.gl) [{ I:=Int,f:=45,G:=rgI,A:=(λn=>[.int .i64 n]),R:=(λn=>.str (Z0g n)),body:=(by kernel_rfl),inj:=(λi j _ _ h=>by rw[show i=j by simpa using h]),ok:=(λn h=>⟨rfl,Z6I n h⟩) }] rfl
 obtain⟨t,i⟩:=d
 have q1:∀H,Z02 Y00 O H 45 [.int .i64 t]=some (.str (Z0g t),H):=p1 t hd.1
 have q2:∀H,Z02 Y00 O H 45 [.int .i64 i]=some (.str (Z0g i),H):=p1 i hd.2
 clear p1
 simp only[idC,idT]
 have l1:=Z0N hd.1
 have l2:=Z0N hd.2
 dsimp only at l1 l2
 generalize Z0g t=a at *
 generalize Z0g i=b at *
 refine Z09 follows Z0a hO Tryz.func48 rfl ?_
 repeat' ((conv=>whnf);first|with_reducible refine exI (q1 _) ?_|with_reducible refine exI (q2 _) ?_|(refine Y01 (show a.length+1<=9223372036854775807 by omega) ?_)|(refine Y01 (show (a++[46]).length+b.length<=9223372036854775807 by rw[Y08];show a.length+1+b.length<=_;omega) ?_)|refine stp ?_|with_reducible apply Z01<;>intro h)
 all_goals first|rfl|(show AV.str _=AV.str _;refine congrArg AV.str ?_;simp;done)|(show AV.str _=AV.str _;refine congrArg AV.str ?_;exact (Y0o _ _ _))
section
variable {gl:Z0w}
theorem ZbK(k:Int):(k<1\/4<k)\/k=1\/k=2\/k=3\/k=4:=by omega
theorem ZiB(k:Int):ValOK Y00 gl 64 [.int .i64 k] (.str (Z1E k)):=by
 rcases ZbK k with hout|rfl|rfl|rfl|rfl
 · have:Z1E k=[]:=by unfold Z1E;repeat rw[if_neg (by omega)]
   rw[this]
   refine Z09 follows Z0a Z05 Tryz.func64 rfl ?_
   repeat' ((conv=>whnf);first|refine stp ?_|with_reducible apply Z01<;>intro h)
   all_goals first|rfl|(exfalso;simp only[beq_iff_eq]at *;omega)
 all_goals
  refine Z09 follows Z0a Z05 Tryz.func64 rfl ?_
  repeat' ((conv=>whnf);first|refine stp ?_|with_reducible apply Z01<;>intro h)
  rfl
end
end
section
variable {gl:Z0w}
theorem u72:Y00.underlying 73=some (.pointer 5):=by kernel_rfl
def Z4H:List (List UInt8)->List UInt8
 |[]=>[]
 |[t]=>t
 |t::l=>t++32::Z4H l
def Z2u:List (List UInt8)->Nat
 |[]=>0
 |t::l=>t.length+1+Z2u l
theorem b58:Z0E Y00 106=false:=by kernel_rfl
theorem Zd8:∀l:List (List UInt8),l.length<=Z2u l
 |[]=>Y07 _
 |t::l=>by have:=Zd8 l;simp only[Y03,Z2u];omega
theorem Z2I(t:List UInt8):(byt t).all one=true:=by simp[byt,Y0Z,one]
theorem c5:Y00.cellsOf 5=1:=by kernel_rfl
theorem bT:ZeI Y00 38 9=some (5,1,1):=by kernel_rfl
theorem ZnK{orc:Orc}{H:Z00}{n:Nat}(hn:n<=2097152):Z02 Y00 orc H 106 ([]++[AV.int .i64 (IntKind.i64.wrap (IntKind.i64.wrap (2*Int.ofNat 0)+(n:Int)))]++[])=some (.slice H.length 0 n n 1,H++[⟨true,H.length,0,.cells [] 5⟩]):=by
 have e:IntKind.i64.wrap (IntKind.i64.wrap (2*Int.ofNat 0)+(n:Int))=(n:Int):=by
  have:IntKind.i64.wrap (2*Int.ofNat 0)=0:=by decide
  rw[this,Int.zero_add];exact Z1i (by omega) (by omega)
 rw[e]
 have h3:Zaz Y00 106=some 5:=by kernel_rfl
 obtain⟨h1,h2,_⟩:=Z5Q (vs:=[.int .i64 (n:Int)]) h3
 refine ZlV b58 ?_ ?_ h3 (by omega)
 ·exact λargs=>(Z5Q h3 args).1
 ·exact λargs=>(Z5Q h3 args).2.1
def Z4p:List (List UInt8)->List UInt8
 |[]=>[]
 |t::l=>32::(t++Z4p l)
theorem Z5M:∀(t:List UInt8)(l:List (List UInt8)),Z4H (t::l)=t++Z4p l
 |t,[]=>by simp[Z4H,Z4p]
 |t,u::l=>by rw[Z4H,Z5M u l];rfl;simp
theorem Z6W:∀l:List (List UInt8),(Z4p l).length<=Z2u l
 |[]=>Y07 _
 |t::l=>by have:=Z6W l;simp only[Z4p,Z2u,Y03,Y08];omega
theorem byt_refs:∀t:List UInt8,refsL (byt t) []=[]
 |[]=>rfl
 |c::t=>byt_refs t
theorem us2 (s : List UInt8) (h0 : s ≠ []) (hs : s.length <= 1099511627776) : ZaZ Y00 73 (.ptr 1 0) s.length [⟨true, 0, 0, .cells [.ptr 0 0, .slice 1 0 s.length s.length 1] 50⟩, ⟨true, 1, 0, .cells (byt s) 5⟩] =
  some (.str s,[⟨true,0,0,.cells [.ptr 0 0,.slice 1 0 s.length s.length 1] 50⟩,AObj.dead ⟨true,1,0,.cells (byt s) 5⟩]) :=
 ustr_ok (P:=Y00) (t:=73) (ty:=5) (b:=1) (f:=1) (s:=s) u72 c5 rfl h0 hs
theorem ZhO(t u:List UInt8)(ts:List (List UInt8))(hb:Z2u (t::u::ts)<=1048576):ValOK Y00 gl 60 [.rs (t::u::ts).length 1 ((t::u::ts).map AV.str),.str [32]] (.str (Z4H (t::u::ts))):=by
 refine Z0u (λg=>false) 3 follows Z0a Z05 Y0L rfl ?_
 generalize hl:t::u::ts=l at *
 have hl2:2<=l.length:=by rw[<- hl];simp
 have hl3:=Zd8 l
 have d0:((l.length:Int)==0)=false:=beq_eq_false_iff_ne.2 (by omega)
 have d1:((l.length:Int)==1)=false:=beq_eq_false_iff_ne.2 (by omega)
 obtain⟨k,hk⟩:∃k,l.length=k+1:=⟨l.length-1,by omega⟩
 have hk1:1<=k/\k<=1048576:=by omega
 have wk:IntKind.i64.wrap ((l.length:Int)-1)=(k:Int):=by
  have e:(l.length:Int)-1=(k:Int):=by omega
  rw[e];exact Z1i (by omega) (by omega)
 have q1:=Nat.div_le_self 9223372036854775807 k
 have q2:2<=9223372036854775807 / k:=by rw[Nat.le_div_iff_mul_le (by omega)];omega
 have wq:IntKind.i64.wrap (Int.tdiv 9223372036854775807 (k:Int))=((9223372036854775807 / k:Nat):Int):=by
  have e:Int.tdiv 9223372036854775807 (k:Int)=((9223372036854775807 / k:Nat):Int):=rfl
  rw[e]
  generalize 9223372036854775807 / k=q at *
  exact Z1i (by omega) (by omega)
 have d2:decide ((([32]:List UInt8).length:Int) >= ((9223372036854775807 / k:Nat):Int))=false:=by
  generalize 9223372036854775807 / k=q at *
  have:¬((([32]:List UInt8).length:Int) >= (q:Int)):=by simp;omega
  simp only[this,decide_false]
 clear q1 q2
 have wm:IntKind.i64.wrap ((([32]:List UInt8).length:Int)*(k:Int))=(k:Int):=by
  have:((([32]:List UInt8).length:Int)*(k:Int))=(k:Int):=by simp
  rw[this];exact Z1i (by omega) (by omega)
 have wz:IntKind.i64.wrap (0+(k:Int))=(k:Int):=by
  rw[Int.zero_add];exact Z1i (by omega) (by omega)
 repeat' ((conv=>whnf);first|(with_reducible refine exW wk ?_)|(with_reducible refine exW wm ?_)|(with_reducible refine exW wz ?_)|(refine Y01 (show (k:Int)≠0 by omega) ?_)|(rw[wq])|refine stp ?_|with_reducible apply Z01<;>intro h)
 conv=>whnf
 refine⟨Nat×Nat,(λp=>p.1<=l.length/\1<=p.2/\p.2+Z2u (l.drop p.1)<=2097152),(λp=>[(0,.rs l.length 1 (l.map AV.str)),(1,.str [32]),(5,.int .i64 p.2),(39,.rs l.length 1 (l.map AV.str)),(40,.int .i64 l.length),(41,.int .i64 p.1)]),(λ_=>[]),(λp=>l.length-p.1),⟨(0,k),⟨Y0d _,by show 1<=k;omega,by show k+Z2u l<=2097152;omega⟩,?_⟩,?_⟩
 · refine Y0g rfl ?_
   refine Y01 (Y05 rfl) ?_
   refine Y01 (Y05 rfl) ?_
   refine Y01 (Y02 rfl) ?_
   refine Y01 (Y05 rfl) ?_
   refine Y01 (Y02 rfl) ?_
   exact⟨Y02 rfl,trivial⟩
 rintro⟨i,n⟩ ⟨h1,h2,h3⟩
 dsimp only at h1 h2 h3
 clear wk wq d2 wm wz
 by_cases hlt:i<l.length
 · have e1:decide ((i:Int)<(l.length:Int))=true:=by simpa using hlt
   have hx:=Z6T AV.str l i hlt (off:=i*1) (by omega)
   have hdr:l.drop i=l[i]::l.drop (i+1):=Y0n hlt
   rw[hdr]at h3
   simp only[Z2u]at h3
   generalize l[i]=x at *
   have e2:decide ((x.length:Int)>9223372036854775807-(n:Int))=false:=by simp;omega
   repeat' ((conv=>whnf);first|refine exI hx ?_|refine stp ?_|with_reducible apply Z01<;>intro h)
   conv=>whnf
   refine⟨(i+1,n+x.length),⟨hlt,by show 1<=n+x.length;omega,by show n+x.length+Z2u (l.drop (i+1))<=2097152;omega⟩,by show l.length-(i+1)<l.length-i;omega,Y0g rfl ?_⟩
   refine Y01 (Y05 rfl) ?_
   refine Y01 (Y05 rfl) ?_
   refine Y01 (Y02 rfl) ?_
   refine Y01 (Y05 rfl) ?_
   refine Y01 (Y02 rfl) ?_
   exact⟨Y02 rfl,trivial⟩
 · have e1:decide ((i:Int)<(l.length:Int))=false:=by simpa using hlt
   have hn:n<=2097152:=by omega
   clear h1 h3
   have hx0:tk 1 ((l.map AV.str).drop (0*1))=some [.str t]:=by rw[<- hl];rfl
   have e2:decide (IntKind.i64.wrap (Int.ofNat 0-0)<(n:Int))=true:=by
    have:IntKind.i64.wrap (Int.ofNat 0-0)=0:=by decide
    rw[this];simp;omega
   have hlr:l.map AV.str=AV.str t::(u::ts).map AV.str:=by rw[<- hl];rfl
   have hlen:(u::ts).length=l.length-1:=by rw[<- hl];rfl
   have e63:AV.rs (l.length-1) 1 (List.take ((l.length-1)*1) (List.drop (1*1) (List.map AV.str l)))=AV.rs (l.length-1) 1 ((u::ts).map AV.str):=by
    rw[hlr];congr 1
    show List.take ((l.length-1)*1) ((u::ts).map AV.str)=_
    rw[List.take_of_length_le];rw[Y0p,hlen];omega
   have hjt:Z4H l=t++Z4p (u::ts):=by rw[<- hl];exact Z5M _ _
   have hjl:(Z4H l).length<=1048576:=by
    have h1:=Z6W (u::ts)
    rw[hjt,Y08]
    rw[<- hl,Z2u]at hb;omega
   have htb:t.length<=1048576:=by rw[<- hl]at hb;simp only[Z2u]at hb;omega
   have init:∃a:List UInt8,a=t:=⟨t,rfl⟩
   by_cases ht:t=[]
   · subst ht
     repeat' ((conv=>whnf);first|refine exI hx0 ?_|refine exI (ZnK hn) ?_|refine exI (Z4l bT rfl) ?_|refine stp ?_|with_reducible apply Z01<;>intro h)
     conv=>whnf
     refine⟨Nat×List UInt8,(λp=>p.1<=l.length-1/\Z4H l=p.2++Z4p ((u::ts).drop p.1)/\(0<p.1->p.2≠[])),(λp=>[(1,.str [32]),(8,.ptr 0 0),(63,.rs (l.length-1) 1 ((u::ts).map AV.str)),(64,.int .i64 (l.length-1:Nat)),(65,.int .i64 p.1)]),(λp=>[⟨true,0,0,.cells [.ptr 0 0,.slice 1 0 p.2.length p.2.length 1] 50⟩,⟨true,1,0,.cells (byt p.2) 5⟩]),(λp=>l.length-1-p.1),⟨(0,[]),⟨Y0d _,hjt,λh=>absurd h (Nat.lt_irrefl 0)⟩,Y0a [0,1] rfl ?_ ?_ rfl⟩,?_⟩
     · refine Y01 (Y05 rfl) ?_
       refine Y01 (Y06 rfl rfl) ?_
       refine Y01 (Wk.eq e63 rfl) ?_
       refine Y01 (Y02 rfl) ?_
       exact⟨Y02 rfl,trivial⟩
     ·refine⟨⟨rfl,rfl,rfl,rfl,Y0k ⟨Y06 rfl rfl,Y0h rfl rfl rfl (Y07 _) (Y0d _) rfl,trivial⟩⟩,hbp,trivial⟩
     rintro⟨j,acc⟩ ⟨j1,j2,j3⟩
     dsimp only at j1 j2 j3
     dsimp only
     clear hx0 e2 e63 hjt htb e1 init
     by_cases hjlt:j<l.length-1
     · have f1:decide ((j:Int)<((l.length-1:Nat):Int))=true:=by simp;omega
       have hjr:j<(u::ts).length:=by rw[hlen];exact hjlt
       have hx:=Z6T AV.str (u::ts) j hjr (off:=j*1) (by omega)
       have hdr:(u::ts).drop j=(u::ts)[j]::(u::ts).drop (j+1):=Y0n hjr
       rw[hdr]at j2
       generalize (u::ts)[j]=x at *
       have hal:acc.length+1+x.length<=1048576:=by
        rw[j2]at hjl;simp only[Z4p,Y08,Y03]at hjl;omega
       have j4:Z4H l=(acc++32::x)++Z4p ((u::ts).drop (j+1)):=by rw[j2];simp[Z4p]
       by_cases hxe:x=[]
       · subst hxe
         repeat' ((conv=>whnf);first|refine exI hx ?_|refine exI (Z1C bT (xs:=byt [32]) (n:=1) (cs:=byt acc) rfl rfl (Z1z (by simp[ABody.len])) ((Z1A acc).trans (Y0z _).symm) (Z2I [32]) (by decide) ⟨by omega,by omega⟩) ?_|refine exI (Z4l bT rfl) ?_|refine stp ?_|with_reducible apply Z01<;>intro h)
         conv=>whnf
         refine⟨(j+1,acc++[32]),⟨hjlt,j4,λ_=>by simp⟩,by show l.length-1-(j+1)<l.length-1-j;omega,Y0a [0,2] rfl ?_ ?_ rfl⟩
         · refine Y01 (Y05 rfl) ?_
           refine Y01 (Y06 rfl rfl) ?_
           refine Y01 (Y05 rfl) ?_
           refine Y01 (Y02 rfl) ?_
           exact⟨Y02 rfl,trivial⟩
         · refine⟨⟨rfl,rfl,rfl,rfl,Y0k ⟨Y06 rfl rfl,Y0h rfl rfl ?_ (Y07 _) ?_ rfl,trivial⟩⟩,⟨rfl,rfl,rfl,rfl,Y0i (rest:=[]) ?_ ?_⟩,trivial⟩
           ·show acc.length+1=(acc++[32]).length;simp
           ·show (acc++[32]).length<=acc.length+1;simp
           ·show byt acc++byt [32]=byt (acc++[32])++[];rw[Z3Z];simp
           ·exact byt_refs _
       · have hxl:x.length≠0:=λe=>hxe (Y0A e)
         repeat' ((conv=>whnf);first|refine exI hx ?_|refine exI (Z1C bT (xs:=byt [32]) (n:=1) (cs:=byt acc) rfl rfl (Z1z (by simp[ABody.len])) ((Z1A acc).trans (Y0z _).symm) (Z2I [32]) (by decide) ⟨by omega,by omega⟩) ?_|refine exI (Z1C bT (xs:=byt x) (n:=x.length) (cs:=byt acc++byt [32]) rfl rfl (Z1z (by simp[ABody.len])) (by simp[Z1A]) (Z2I x) hxl ⟨by omega,by omega⟩) ?_|refine stp ?_|with_reducible apply Z01<;>intro h)
         conv=>whnf
         refine⟨(j+1,acc++32::x),⟨hjlt,j4,λ_=>by simp⟩,by show l.length-1-(j+1)<l.length-1-j;omega,Y0a [0,3] rfl ?_ ?_ rfl⟩
         · refine Y01 (Y05 rfl) ?_
           refine Y01 (Y06 rfl rfl) ?_
           refine Y01 (Y05 rfl) ?_
           refine Y01 (Y02 rfl) ?_
           exact⟨Y02 rfl,trivial⟩
         · refine⟨⟨rfl,rfl,rfl,rfl,Y0k ⟨Y06 rfl rfl,Y0h rfl rfl ?_ (Y07 _) ?_ rfl,trivial⟩⟩,⟨rfl,rfl,rfl,rfl,Y0i (rest:=[]) ?_ ?_⟩,trivial⟩
           ·show acc.length+1+x.length=(acc++32::x).length;simp;omega
           ·show (acc++32::x).length<=acc.length+1+x.length;simp;omega
           ·show byt acc++byt [32]++byt x=byt (acc++32::x)++[];rw[Z3Z];simp[byt]
           ·exact byt_refs _
     · have f1:decide ((j:Int)<((l.length-1:Nat):Int))=false:=by simp;omega
       have hdj:(u::ts).drop j=[]:=Y0B (by rw[hlen];omega)
       rw[hdj,Z4p,Y0M]at j2
       have hne:acc≠[]:=j3 (by omega)
       rw[j2]at hjl⊢
       obtain⟨c,r,rfl⟩:∃c r,acc=c::r:=by cases acc with|nil=>exact absurd rfl hne|cons c r=>exact⟨c,r,rfl⟩
       repeat' ((conv=>whnf);first|refine exI (us2 (c::r) hne (by omega)) ?_|refine stp ?_|with_reducible apply Z01<;>intro h)
       all_goals rfl
   · have htl:t.length≠0:=λe=>ht (Y0A e)
     repeat' ((conv=>whnf);first|refine exI hx0 ?_|refine exI (ZnK hn) ?_|refine exI (Z1C bT (xs:=byt t) (n:=t.length) (cs:=[]) rfl rfl (Z1z (by simp[ABody.len])) rfl (Z2I t) htl ⟨by show 0+t.length<=1099511627776;omega,by show (0+t.length)*1<=70368744177664;omega⟩) ?_|refine stp ?_|with_reducible apply Z01<;>intro h)
     conv=>whnf
     refine⟨Nat×List UInt8,(λp=>p.1<=l.length-1/\Z4H l=p.2++Z4p ((u::ts).drop p.1)/\(0<p.1->p.2≠[])),(λp=>[(1,.str [32]),(8,.ptr 0 0),(63,.rs (l.length-1) 1 ((u::ts).map AV.str)),(64,.int .i64 (l.length-1:Nat)),(65,.int .i64 p.1)]),(λp=>[⟨true,0,0,.cells [.ptr 0 0,.slice 1 0 p.2.length p.2.length 1] 50⟩,⟨true,1,0,.cells (byt p.2) 5⟩]),(λp=>l.length-1-p.1),⟨(0,t),⟨Y0d _,hjt,λh=>absurd h (Nat.lt_irrefl 0)⟩,Y0a [0,2] rfl ?_ ?_ rfl⟩,?_⟩
     · refine Y01 (Y05 rfl) ?_
       refine Y01 (Y06 rfl rfl) ?_
       refine Y01 (Wk.eq e63 rfl) ?_
       refine Y01 (Y02 rfl) ?_
       exact⟨Y02 rfl,trivial⟩
     · refine⟨⟨rfl,rfl,rfl,rfl,Y0k ⟨Y06 rfl rfl,Y0h rfl rfl ?_ (Y07 _) ?_ rfl,trivial⟩⟩,⟨rfl,rfl,rfl,rfl,Y0i (rest:=[]) ?_ ?_⟩,trivial⟩
       ·show 0+t.length=t.length;omega
       ·show t.length<=0+t.length;omega
       ·show []++byt t=byt t++[];simp
       ·exact byt_refs t
     rintro⟨j,acc⟩ ⟨j1,j2,j3⟩
     dsimp only at j1 j2 j3
     dsimp only
     clear hx0 e2 e63 hjt htb e1 init
     by_cases hjlt:j<l.length-1
     · have f1:decide ((j:Int)<((l.length-1:Nat):Int))=true:=by simp;omega
       have hjr:j<(u::ts).length:=by rw[hlen];exact hjlt
       have hx:=Z6T AV.str (u::ts) j hjr (off:=j*1) (by omega)
       have hdr:(u::ts).drop j=(u::ts)[j]::(u::ts).drop (j+1):=Y0n hjr
       rw[hdr]at j2
       generalize (u::ts)[j]=x at *
       have hal:acc.length+1+x.length<=1048576:=by
        rw[j2]at hjl;simp only[Z4p,Y08,Y03]at hjl;omega
       have j4:Z4H l=(acc++32::x)++Z4p ((u::ts).drop (j+1)):=by rw[j2];simp[Z4p]
       by_cases hxe:x=[]
       · subst hxe
         repeat' ((conv=>whnf);first|refine exI hx ?_|refine exI (Z1C bT (xs:=byt [32]) (n:=1) (cs:=byt acc) rfl rfl (Z1z (by simp[ABody.len])) ((Z1A acc).trans (Y0z _).symm) (Z2I [32]) (by decide) ⟨by omega,by omega⟩) ?_|refine exI (Z4l bT rfl) ?_|refine stp ?_|with_reducible apply Z01<;>intro h)
         conv=>whnf
         refine⟨(j+1,acc++[32]),⟨hjlt,j4,λ_=>by simp⟩,by show l.length-1-(j+1)<l.length-1-j;omega,Y0a [0,2] rfl ?_ ?_ rfl⟩
         · refine Y01 (Y05 rfl) ?_
           refine Y01 (Y06 rfl rfl) ?_
           refine Y01 (Y05 rfl) ?_
           refine Y01 (Y02 rfl) ?_
           exact⟨Y02 rfl,trivial⟩
         · refine⟨⟨rfl,rfl,rfl,rfl,Y0k ⟨Y06 rfl rfl,Y0h rfl rfl ?_ (Y07 _) ?_ rfl,trivial⟩⟩,⟨rfl,rfl,rfl,rfl,Y0i (rest:=[]) ?_ ?_⟩,trivial⟩
           ·show acc.length+1=(acc++[32]).length;simp
           ·show (acc++[32]).length<=acc.length+1;simp
           ·show byt acc++byt [32]=byt (acc++[32])++[];rw[Z3Z];simp
           ·exact byt_refs _
       · have hxl:x.length≠0:=λe=>hxe (Y0A e)
         repeat' ((conv=>whnf);first|refine exI hx ?_|refine exI (Z1C bT (xs:=byt [32]) (n:=1) (cs:=byt acc) rfl rfl (Z1z (by simp[ABody.len])) ((Z1A acc).trans (Y0z _).symm) (Z2I [32]) (by decide) ⟨by omega,by omega⟩) ?_|refine exI (Z1C bT (xs:=byt x) (n:=x.length) (cs:=byt acc++byt [32]) rfl rfl (Z1z (by simp[ABody.len])) (by simp[Z1A]) (Z2I x) hxl ⟨by omega,by omega⟩) ?_|refine stp ?_|with_reducible apply Z01<;>intro h)
         conv=>whnf
         refine⟨(j+1,acc++32::x),⟨hjlt,j4,λ_=>by simp⟩,by show l.length-1-(j+1)<l.length-1-j;omega,Y0a [0,3] rfl ?_ ?_ rfl⟩
         · refine Y01 (Y05 rfl) ?_
           refine Y01 (Y06 rfl rfl) ?_
           refine Y01 (Y05 rfl) ?_
           refine Y01 (Y02 rfl) ?_
           exact⟨Y02 rfl,trivial⟩
         · refine⟨⟨rfl,rfl,rfl,rfl,Y0k ⟨Y06 rfl rfl,Y0h rfl rfl ?_ (Y07 _) ?_ rfl,trivial⟩⟩,⟨rfl,rfl,rfl,rfl,Y0i (rest:=[]) ?_ ?_⟩,trivial⟩
           ·show acc.length+1+x.length=(acc++32::x).length;simp;omega
           ·show (acc++32::x).length<=acc.length+1+x.length;simp;omega
           ·show byt acc++byt [32]++byt x=byt (acc++32::x)++[];rw[Z3Z];simp[byt]
           ·exact byt_refs _
     · have f1:decide ((j:Int)<((l.length-1:Nat):Int))=false:=by simp;omega
       have hdj:(u::ts).drop j=[]:=Y0B (by rw[hlen];omega)
       rw[hdj,Z4p,Y0M]at j2
       have hne:acc≠[]:=j3 (by omega)
       rw[j2]at hjl⊢
       obtain⟨c,r,rfl⟩:∃c r,acc=c::r:=by cases acc with|nil=>exact absurd rfl hne|cons c r=>exact⟨c,r,rfl⟩
       repeat' ((conv=>whnf);first|refine exI (us2 (c::r) hne (by omega)) ?_|refine stp ?_|with_reducible apply Z01<;>intro h)
       all_goals rfl
theorem ZlA:ValOK Y00 gl 60 [.rs 0 1 [],.str [32]] (.str []):=by
 refine Z0u (λg=>false) 3 follows Z0a Z05 Y0L rfl ?_
 repeat' ((conv=>whnf);first|refine stp ?_|with_reducible apply Z01<;>intro h)
 all_goals rfl
theorem Zlz(t:List UInt8):ValOK Y00 gl 60 [.rs 1 1 [.str t],.str [32]] (.str t):=by
 refine Z0u (λg=>false) 3 follows Z0a Z05 Y0L rfl ?_
 repeat' ((conv=>whnf);first|refine stp ?_|with_reducible apply Z01<;>intro h)
 all_goals rfl
theorem ZmY(l:List (List UInt8))(hb:Z2u l<=1048576):ValOK Y00 gl 60 [.rs l.length 1 (l.map AV.str),.str [32]] (.str (Z4H l)):=by
 match l with
 |[]=>exact ZlA
 |[t]=>exact Zlz t
 |t::u::ts=>exact ZhO t u ts hb
theorem ZbL:∀l:List (List UInt8),Z4H l=Z0P l
 |[]=>rfl
 |[t]=>rfl
 |t::u::l=>by rw[Z4H,Z0P,ZbL (u::l)];simp
end
end Go.Proofs.YtpcpdlfhcahjgaaGreatDoor.lex
section
namespace Go.Abs
open Go.RowKit
open Classical in
theorem fz_addI {P : Program} {gl : Z0w} {I : Type} {f0 : Nat} {G : I -> Prop} {A : I -> List AV} {R : I -> AV} (hr : ∀ i, G i -> plain (R i) = true) (hi : ∀ i j, G i -> G j -> A i = A j -> R i = R j) (hv : ∀ i, G i -> ValOK P gl f0 (A i) (R i)) (hb : Z0E P f0 = true) {O : Orc} (hO : OrcSound P gl O) :
  ∃O',OrcSound P gl O'/\(∀i,G i->∀H args,Z1n (frz H 30) args=some (A i)->Z02 P O' H f0 args=some (R i,H))/\∀g,g≠f0->∀args H,Z02 P O' H g args=Z02 P O H g args:=by
 have hz:OrcSound P gl (ZhW λf args=>if h:∃i,f=f0/\G i/\A i=args then some (R (Classical.choose h)) else none):=Zeh λf args r h=>by
  split at h
  · rename_i e
    have hsp:=Classical.choose_spec e
    cases h
    generalize Classical.choose e=i at *
    obtain⟨e1,e2,e3⟩:=hsp
    have:=hv _ e2
    rw[e3]at this
    exact⟨hr _ e2,by rw[e1];exact this⟩
  ·cases h
 refine⟨Z4q (ZhW λf args=>if h:∃i,f=f0/\G i/\A i=args then some (R (Classical.choose h)) else none) O,Z4F hz hO,λi gi H args ha=>Zc4 hb (Zmw hb ha ?_),λg hg args H=>?_⟩
 · have h:∃j,f0=f0/\G j/\A j=A i:=⟨i,rfl,gi,rfl⟩
   rw[dif_pos h]
   obtain⟨e1,e2,e3⟩:=Classical.choose_spec h
   rw[hi _ _ e2 gi e3]
 · unfold Z02
   have h1:Z4q (ZhW λf args=>if h:∃i,f=f0/\G i/\A i=args then some (R (Classical.choose h)) else none) O g=O g:=by
    funext args H
    unfold Z4q ZhW
    cases Z1n (frz H 30) args with
    |none=>rfl
    |some fa=>simp only;rw[dif_neg (λ⟨_,h,_⟩=>hg h)]
   have hy:yl (Z4q (ZhW λf args=>if h:∃i,f=f0/\G i/\A i=args then some (R (Classical.choose h)) else none) O) H g args=yl O H g args:=by unfold yl;simp only[h1]
   rw[h1,hy]
end Go.Abs
end
namespace Go.Proofs.YtpcpdlfhcahjgaaGreatDoor.lex
open Go.Abs Go.RowKit
section
def Z7G(l:List (List UInt8)):List (List UInt8):=l.filter λw=>w != []
def thV:List (List UInt8)->AV
 |[]=>.nslice
 |c::r=>.slice 0 0 (r.length+1) (r.length+1) 1
def thB:List (List UInt8)->Z00
 |[]=>[]
 |c::r=>[⟨true,0,0,.cells ((c::r).map AV.str) 9⟩]
theorem Z1U:∀l:List (List UInt8),refsL (l.map AV.str) []=[]
 |[]=>rfl
 |c::r=>Z1U r
theorem ZfH(l:List (List UInt8))(i:Nat)(h:i<l.length):Z7G (l.take (i+1))=Z7G (l.take i)++(if l[i] != [] then [l[i]] else []):=by
 unfold Z7G
 rw[Y0q h,List.filter_append,List.filter_cons,List.filter_nil]
theorem bTs:ZeI Y00 85 85=some (9,1,16):=by kernel_rfl
theorem Z6y:∀l:List (List UInt8),(l.map AV.str).all lit=true
 |[]=>rfl
 |c::r=>Z6y r
theorem Z7h:∀l:List (List UInt8),Z2u (Z7G l)<=Z2u l
 |[]=>Y07 _
 |c::r=>by
  have ih:=Z7h r
  unfold Z7G at ih⊢
  rw[List.filter_cons]
  split<;>simp only[Z2u]<;>omega
section
variable {gl:Z0w}
theorem ZiT:ValOK Y00 gl 60 [.nslice,.str [32]] (.str []):=by
 refine Z0u (λg=>false) 3 follows Z0a Z05 Y0L rfl ?_
 repeat' ((conv=>whnf);first|refine stp ?_|with_reducible apply Z01<;>intro h)
 all_goals rfl
theorem Zcs(l:List (List UInt8))(hl:l.length<=1000)(hb:Z2u l<=1048576):ValOK Y00 gl 44 [.rs l.length 1 (l.map AV.str)] (.str (Z0v l)):=by
 have hat:=λi (hi:i<l.length)=>Z6T AV.str l i hi (off:=i*1) (by omega)
 obtain⟨O,hO,pq,-⟩:=fz_addI (P:=Y00) (gl:=gl) (I:=Bool) (f0:=60) (G:=λ_=>True) (A:=λb=>[if b then .rs (Z7G l).length 1 ((Z7G l).map AV.str) else .nslice,.str [32]]) (R:=λb=>.str (if b then Z4H (Z7G l) else [])) (λ_ _=>rfl) (λi j _ _ h=>by cases i<;>cases j<;>simp at h⊢) (λb _=>by cases b;exact ZiT;exact ZmY (Z7G l) (Y0j (Z7h l) hb)) (by kernel_rfl) Z05
 have q:Z02 Y00 O (thB (Z7G l)) 60 [thV (Z7G l),.str [32]]=some (.str (Z0v l),thB (Z7G l)):=by
  have e0:Z0v l=Z0P (Z7G l):=rfl
  rw[e0,<- ZbL]
  cases hn:Z7G l with
  |nil=>exact pq false trivial _ _ rfl
  |cons c r =>
   have:=pq true trivial (thB (c::r)) [thV (c::r),.str [32]] (by
    simp only[if_true,hn]
    have h1:frz (thB (c::r)) 30 (thV (c::r))=some (.rs (c::r).length 1 ((c::r).map AV.str)):=Z3U (n:=28) (b:=0) rfl (by simp) (Z6y (c::r))
    simp only[Z1n,h1]
    rfl)
   simpa only[if_true,hn]using this
 clear pq
 generalize Z0v l=RR at *
 generalize hA:l.map AV.str=A at *
 refine Z09 follows Z0a hO Tryz.func44 rfl ?_
 repeat' ((conv=>whnf);first|refine stp ?_|with_reducible apply Z01<;>intro h)
 conv=>whnf
 refine⟨Nat,(λi=>i<=l.length),(λi=>[(0,.rs l.length 1 A),(2,.str []),(3,thV (Z7G (l.take i))),(6,.rs l.length 1 A),(7,.int .i64 l.length),(8,.int .i64 i)]),(λi=>thB (Z7G (l.take i))),(λi=>l.length-i),⟨0,Y0d _,Y0g rfl ?_⟩,?_⟩
 ·exact wks
 intro i hi
 dsimp only
 have hlen:(Z7G (l.take i)).length<=1000:=by
  unfold Z7G
  have h1:=List.length_filter_le (λw:List UInt8=>w != []) (l.take i)
  have h2:(l.take i).length<=l.length:=by rw[Y09];omega
  omega
 by_cases hlt:i<l.length
 · have e1:decide ((i:Int)<(l.length:Int))=true:=decide_eq_true (by omega)
   have hx:=hat i hlt
   have hs:=ZfH l i hlt
   generalize l[i]=w at *
   generalize hT:Z7G (l.take i)=T at *
   cases hw:(w != []) with
   |false =>
    rw[hw]at hs
    simp only[Y11,if_false,Y0M]at hs
    have hw2:(!(w==({ data:=#[] }:ByteArray).data.toList))=false:=hw
    cases T with
    |nil =>
     simp only[thV,thB]
     repeat' ((conv=>whnf);first|(with_reducible refine ixJ i rfl ?_ ?_;focus omega)|refine exI hx ?_|refine stp ?_|with_reducible apply Z01<;>intro h)
     conv=>whnf
     refine⟨i+1,hlt,by show l.length-(i+1)<l.length-i;omega,?_⟩
     (try dsimp only)
     rw[hs]
     simp only[thV,thB]
     refine Y0g rfl ?_
     exact wks
    |cons c r =>
     simp only[thV,thB]
     repeat' ((conv=>whnf);first|(with_reducible refine ixJ i rfl ?_ ?_;focus omega)|refine exI hx ?_|refine stp ?_|with_reducible apply Z01<;>intro h)
     conv=>whnf
     refine⟨i+1,hlt,by show l.length-(i+1)<l.length-i;omega,?_⟩
     (try dsimp only)
     rw[hs]
     simp only[thV,thB]
     refine Y0a [0] rfl ?_ ⟨⟨rfl,rfl,rfl,rfl,Y0i (rest:=[]) (by simp) (Z1U (c::r))⟩,trivial⟩ rfl
     iterate 2 refine stw ?_
     refine Y01 (Y0h rfl rfl (by simp) (Y07 _) (by simp) rfl) ?_
     exact wks
   |true =>
    rw[hw]at hs
    simp only[if_true]at hs
    have hw2:(!(w==({ data:=#[] }:ByteArray).data.toList))=true:=hw
    cases T with
    |nil =>
     simp only[thV,thB]
     repeat' ((conv=>whnf);first|(with_reducible refine ixJ i rfl ?_ ?_;focus omega)|refine exI hx ?_|refine stp ?_|with_reducible apply Z01<;>intro h)
     conv=>whnf
     refine⟨i+1,hlt,by show l.length-(i+1)<l.length-i;omega,?_⟩
     (try dsimp only)
     rw[hs]
     simp only[List.nil_append,thV,thB]
     refine Y0a [1] rfl ?_ ⟨⟨rfl,rfl,rfl,rfl,Y0i (rest:=[]) (by simp) (Z1U [w])⟩,trivial⟩ rfl
     iterate 2 refine stw ?_
     refine Y01 (Y0h rfl rfl (by simp) (Y07 _) (by simp) rfl) ?_
     exact wks
    |cons c r =>
     simp only[thV,thB]
     repeat' ((conv=>whnf);first|(with_reducible refine ixJ i rfl ?_ ?_;focus omega)|refine exI hx ?_|refine exI (ZdJ bTs (x:=.slice 1 0 1 1 1) (n:=1) (xs:=[.str w]) (cs:=(c::r).map AV.str) (len:=r.length+1) rfl rfl rfl (by simp) rfl (by decide) (by simp only[Y03]at hlen;omega)) ?_|refine stp ?_|with_reducible apply Z01<;>intro h)
     conv=>whnf
     refine⟨i+1,hlt,by show l.length-(i+1)<l.length-i;omega,?_⟩
     (try dsimp only)
     rw[hs]
     simp only[Y0l,thV,thB]
     refine Y0a [2] rfl ?_ ⟨⟨rfl,rfl,rfl,rfl,Y0i (rest:=[]) (by simp) (Z1U (c::(r++[w])))⟩,trivial⟩ rfl
     iterate 2 refine stw ?_
     refine Y01 (Y0h rfl rfl (by simp) (Y07 _) (by simp) rfl) ?_
     exact wks
 · have ei:i=l.length:=by omega
   subst ei
   have e1:decide (((l.length:Nat):Int)<(l.length:Int))=false:=decide_eq_false (by omega)
   rw[Y12]at hlen⊢
   generalize Z7G l=T at *
   cases T with
   |nil =>
    simp only[thV,thB]at q⊢
    repeat' ((conv=>whnf);first|(refine Z0c q ?_)|refine stp ?_|with_reducible apply Z01<;>intro h)
    all_goals rfl
   |cons c r =>
    simp only[thV,thB]at q⊢
    repeat' ((conv=>whnf);first|(refine Z0c q ?_)|refine stp ?_|with_reducible apply Z01<;>intro h)
    all_goals rfl
end
end
section
def lgF(b:Nat):Nat->List Nat->Nat
 |n,[]=>n
 |n,x::l=>if n<=b then lgF b (n+min 61 x) l else n
theorem ZbJ{b n:Nat}(h:¬n<=b)(l:List Nat):lgF b n l=n:=by
 cases l with
 |nil=>rfl
 |cons x l=>simp only[lgF,if_neg h]
def lgN(g:DGr):Nat:=lgF 180 (lgF 120 (lgF 60 (min 61 g.ini.length+min 61 g.thr.length+min 61 g.frm.length+min 61 g.ord.length) (g.thr.map List.length)) (g.frm.map List.length)) (g.ord.map List.length)
def Z1G(g:DGr):Bool:=decide (lgN g<=180)
def mI(x:Nat):Int:=if (x:Int)<60+1 then (x:Int) else 60+1
theorem ZlX(x:Nat):mI x=((min 61 x:Nat):Int):=by unfold mI;split<;>omega
theorem wM(n x:Nat)(h:n<=1000):IntKind.i64.wrap ((n:Int)+(if (x:Int)<60+1 then (x:Int) else 60+1))=((n+min 61 x:Nat):Int):=by
 have:=ZlX x
 unfold mI at this
 rw[this,show (n:Int)+((min 61 x:Nat):Int)=((n+min 61 x:Nat):Int) by omega]
 exact Z1i (by omega) (by omega)
theorem wM0(y x:Nat):IntKind.i64.wrap ((if (y:Int)<60+1 then (y:Int) else 60+1)+(if (x:Int)<60+1 then (x:Int) else 60+1))=((min 61 y+min 61 x:Nat):Int):=by
 have:=ZlX y
 unfold mI at this
 rw[this]
 exact wM _ _ (by omega)
theorem Z3q{α : Type}{f : α -> List AV}{k:Nat}(hk:∀a,(f a).length=k)(hf:∀a b,f a=f b->a=b):∀{a b:List α},a.length=b.length->Z07 f a=Z07 f b->a=b
 |[],[],_,_=>rfl
 |x::a,y::b,hl,h=>by
  simp only[Z07]at h
  have h1:=List.append_inj h (by rw[hk,hk])
  rw[hf _ _ h1.1,Z3q hk hf (by simpa using hl) h1.2]
theorem Zin(a b:Int)(h:Z2b a=Z2b b):a=b:=by simpa[Z2b]using h
theorem Z3S(a b:DId)(h:idC a=idC b):a=b:=by
 obtain⟨a1,a2⟩:=a;obtain⟨b1,b2⟩:=b
 simp only[idC,List.cons.injEq,AV.int.injEq,true_and,and_true]at h
 rw[h.1,h.2]
theorem Z1N(a b:DEv)(h:evC a=evC b):a=b:=by
 obtain⟨a1,a2,a3,a4,a5⟩:=a;obtain⟨b1,b2,b3,b4,b5⟩:=b
 simp only[evC,List.cons.injEq,AV.int.injEq,true_and,and_true]at h
 rw[h.1,h.2.1,h.2.2.1,h.2.2.2.1,h.2.2.2.2]
theorem ZjK(a b:List Int)(h:rsI a=rsI b):a=b:=by
 simp only[rsI,AV.rs.injEq]at h
 exact Z3q (k:=1) (λ_=>rfl) Zin h.1 h.2.2
theorem ZjL(a b:List DId)(h:rsD a=rsD b):a=b:=by
 simp only[rsD,AV.rs.injEq]at h
 exact Z3q (k:=2) (λ_=>rfl) Z3S h.1 h.2.2
theorem Zft(a b:List DEv)(h:rsE a=rsE b):a=b:=by
 simp only[rsE,AV.rs.injEq]at h
 exact Z3q (k:=5) (λ_=>rfl) Z1N h.1 h.2.2
theorem ZcK(a b:List (List DId))(h:Z58 a=Z58 b):a=b:=by
 simp only[Z58,AV.rs.injEq]at h
 exact Z3q (k:=1) (λ_=>rfl) (λx y h=>ZjL x y (by simpa using h)) h.1 h.2.2
theorem ZhQ(a b:List (List DEv))(h:Z4T a=Z4T b):a=b:=by
 simp only[Z4T,AV.rs.injEq]at h
 exact Z3q (k:=1) (λ_=>rfl) (λx y h=>Zft x y (by simpa using h)) h.1 h.2.2
theorem Zge(a b:DGr)(h:grC a=grC b):a=b:=by
 obtain⟨a1,a2,a3,a4⟩:=a;obtain⟨b1,b2,b3,b4⟩:=b
 simp only[grC,List.cons.injEq,and_true]at h
 rw[ZjK _ _ h.1,ZhQ _ _ h.2.1,ZcK _ _ h.2.2.1,ZcK _ _ h.2.2.2]
theorem Zdg{a b:DGr}(h:a.av=b.av):a=b:=by
 simp only[DGr.av,AV.agg.injEq]at h
 exact Zge _ _ h
section
variable {gl:Z0w}
theorem Zag(g:DGr)(hg:okG g):ValOK Y00 gl 14 [g.av,.int .i64 60] (.bool (Z1G g)):=by
 obtain⟨ini,thr,frm,ord⟩:=g
 obtain⟨⟨i1,i2⟩,⟨t1,t2⟩,⟨f1,f2⟩,⟨o1,o2⟩⟩:=hg
 dsimp only at i1 i2 t1 t2 f1 f2 o1 o2
 have ha:=λi (hi:i<thr.length)=>Z0f (f:=λx=>[rsE x]) (k:=1) (λ_=>rfl) thr i hi
 have hb:=λi (hi:i<frm.length)=>Z0f (f:=λx=>[rsD x]) (k:=1) (λ_=>rfl) frm i hi
 have hc:=λi (hi:i<ord.length)=>Z0f (f:=λx=>[rsD x]) (k:=1) (λ_=>rfl) ord i hi
 simp only[DGr.av,grC,rsI,Z4T,Z58]
 have t1':thr.length<=9223372036854775807:=t1
 have f1':frm.length<=9223372036854775807:=f1
 have o1':ord.length<=9223372036854775807:=o1
 have i1':ini.length<=9223372036854775807:=i1
 generalize Z07 Z2b ini=X at *
 generalize Z07 (λx=>[rsE x]) thr=A at *
 generalize Z07 (λx=>[rsD x]) frm=B at *
 generalize Z07 (λx=>[rsD x]) ord=C at *
 refine Z09 follows Z0a Z05 Tryz.func14 rfl ?_
 have w1:=wM0 ini.length thr.length
 have w2:=wM (min 61 ini.length+min 61 thr.length) frm.length (by omega)
 have w3:=wM (min 61 ini.length+min 61 thr.length+min 61 frm.length) ord.length (by omega)
 repeat' ((conv=>whnf);first|(with_reducible refine exW w1 ?_)|(with_reducible refine exW w2 ?_)|(with_reducible refine exW w3 ?_)|refine stp ?_|with_reducible apply Z01<;>intro h)
 conv=>whnf
 have hn0:min 61 ini.length+min 61 thr.length+min 61 frm.length+min 61 ord.length<=244:=by omega
 unfold Z1G lgN
 dsimp only
 generalize min 61 ini.length+min 61 thr.length+min 61 frm.length+min 61 ord.length=n0 at *
 clear w1 w2 w3
 obtain⟨n1,hq1⟩:∃m,m=lgF 60 n0 (thr.map List.length):=⟨_,rfl⟩
 rw[<- hq1]
 obtain⟨n2,hq2⟩:∃m,m=lgF 120 n1 (frm.map List.length):=⟨_,rfl⟩
 rw[<- hq2]
 obtain⟨n3,hq3⟩:∃m,m=lgF 180 n2 (ord.map List.length):=⟨_,rfl⟩
 rw[<- hq3]
 all_goals (
  conv=>whnf
  refine⟨Nat×Nat,(λp=>p.1<=thr.length/\p.2<=244/\lgF 60 p.2 ((thr.map List.length).drop p.1)=n1),(λp=>[(1,.int .i64 60),(2,.ptr 0 0),(5,.int .i64 p.2),(6,.int .i64 p.1)]),(λ_=>[⟨true,0,0,.cells [.rs ini.length 1 X,.rs thr.length 1 A,.rs frm.length 1 B,.rs ord.length 1 C] 33⟩]),(λp=>thr.length-p.1),⟨(0,n0),⟨Y0d _,hn0,hq1.symm⟩,Y0a [0] rfl ⟨Y02 rfl,Y06 rfl rfl,Y02 rfl,Y02 rfl,trivial⟩ ⟨hbp,trivial⟩ rfl⟩,?_⟩
  rintro⟨i,m⟩ ⟨hi,hm,hf⟩
  dsimp only at hi hm hf⊢
  by_cases hcc:i<thr.length/\m<=60
  · obtain⟨hlt,hb'⟩:=hcc
    have e1:decide ((i:Int)<(thr.length:Int))=true:=decide_eq_true (by omega)
    have e2:decide ((m:Int)<=60)=true:=by simp;omega
    have hx:=ha i hlt
    have hf2:lgF 60 (m+min 61 thr[i].length) ((thr.map List.length).drop (i+1))=n1:=by
     rw[<- hf,Y0n (l:=thr.map List.length) (i:=i) (by rw[Y0p];exact hlt),lgF,if_pos hb',Y13]
    have hl:thr[i].length<=9223372036854775807:=(t2 _ (Y0N hlt)).1
    generalize thr[i]=l at *
    simp only[rsE]at hx
    have w:=wM m l.length (by omega)
    repeat' ((conv=>whnf);first|(with_reducible refine exW w ?_)|(with_reducible refine ixJ i rfl ?_ ?_;focus omega)|refine exI hx ?_|refine stp ?_|with_reducible apply Z01<;>intro h)
    conv=>whnf
    refine⟨(i+1,m+min 61 l.length),⟨hlt,by show m+min 61 l.length<=244;omega,hf2⟩,by show thr.length-(i+1)<thr.length-i;omega,Y0a [0] rfl ⟨Y02 rfl,Y06 rfl rfl,Y02 rfl,Y02 rfl,trivial⟩ ⟨hbp,trivial⟩ rfl⟩
  have hk:n1=m:=by
   by_cases hlt:i<thr.length
   ·rw[<- hf,ZbJ (λh=>hcc ⟨hlt,h⟩)]
   ·rw[<- hf,Y0B (by rw[Y0p];omega)];rfl
  subst hk
  have hn1:=hm
  have e12:(decide ((i:Int)<(thr.length:Int))=true/\decide ((n1:Int)<=60)=false)\/decide ((i:Int)<(thr.length:Int))=false:=by
   by_cases hlt:i<thr.length
   · have:¬n1<=60:=λh=>hcc ⟨hlt,h⟩
     exact .inl ⟨decide_eq_true (by omega),decide_eq_false (by omega)⟩
   ·exact .inr (decide_eq_false (by omega))
  clear hf hcc hm hi
  rcases e12 with ⟨e1,e2⟩|e1
  all_goals repeat' ((conv=>whnf);first|refine stp ?_|with_reducible apply Z01<;>intro h))
 all_goals (
  conv=>whnf
  refine⟨Nat×Nat,(λp=>p.1<=frm.length/\p.2<=244/\lgF 120 p.2 ((frm.map List.length).drop p.1)=n2),(λp=>[(1,.int .i64 60),(2,.ptr 0 0),(5,.int .i64 p.2),(7,.int .i64 p.1)]),(λ_=>[⟨true,0,0,.cells [.rs ini.length 1 X,.rs thr.length 1 A,.rs frm.length 1 B,.rs ord.length 1 C] 33⟩]),(λp=>frm.length-p.1),⟨(0,n1),⟨Y0d _,hn1,hq2.symm⟩,Y0a [0] rfl ⟨Y02 rfl,Y06 rfl rfl,Y02 rfl,Y02 rfl,trivial⟩ ⟨hbp,trivial⟩ rfl⟩,?_⟩
  rintro⟨i,m⟩ ⟨hi,hm,hf⟩
  dsimp only at hi hm hf⊢
  by_cases hcc:i<frm.length/\m<=120
  · obtain⟨hlt,hb'⟩:=hcc
    have e1:decide ((i:Int)<(frm.length:Int))=true:=decide_eq_true (by omega)
    have e2:decide ((m:Int)<=2*60)=true:=by simp;omega
    have hx:=hb i hlt
    have hf2:lgF 120 (m+min 61 frm[i].length) ((frm.map List.length).drop (i+1))=n2:=by
     rw[<- hf,Y0n (l:=frm.map List.length) (i:=i) (by rw[Y0p];exact hlt),lgF,if_pos hb',Y13]
    have hl:frm[i].length<=9223372036854775807:=(f2 _ (Y0N hlt)).1
    generalize frm[i]=l at *
    simp only[rsD]at hx
    have w:=wM m l.length (by omega)
    repeat' ((conv=>whnf);first|(with_reducible refine exW w ?_)|(with_reducible refine ixJ i rfl ?_ ?_;focus omega)|refine exI hx ?_|refine stp ?_|with_reducible apply Z01<;>intro h)
    conv=>whnf
    refine⟨(i+1,m+min 61 l.length),⟨hlt,by show m+min 61 l.length<=244;omega,hf2⟩,by show frm.length-(i+1)<frm.length-i;omega,Y0a [0] rfl ⟨Y02 rfl,Y06 rfl rfl,Y02 rfl,Y02 rfl,trivial⟩ ⟨hbp,trivial⟩ rfl⟩
  have hk:n2=m:=by
   by_cases hlt:i<frm.length
   ·rw[<- hf,ZbJ (λh=>hcc ⟨hlt,h⟩)]
   ·rw[<- hf,Y0B (by rw[Y0p];omega)];rfl
  subst hk
  have hn2:=hm
  have e12:(decide ((i:Int)<(frm.length:Int))=true/\decide ((n2:Int)<=2*60)=false)\/decide ((i:Int)<(frm.length:Int))=false:=by
   by_cases hlt:i<frm.length
   · have:¬n2<=120:=λh=>hcc ⟨hlt,h⟩
     exact .inl ⟨decide_eq_true (by omega),decide_eq_false (by omega)⟩
   ·exact .inr (decide_eq_false (by omega))
  clear hf hcc hm hi
  rcases e12 with ⟨e1,e2⟩|e1
  all_goals repeat' ((conv=>whnf);first|refine stp ?_|with_reducible apply Z01<;>intro h))
 all_goals (
  conv=>whnf
  refine⟨Nat×Nat,(λp=>p.1<=ord.length/\p.2<=244/\lgF 180 p.2 ((ord.map List.length).drop p.1)=n3),(λp=>[(1,.int .i64 60),(2,.ptr 0 0),(5,.int .i64 p.2),(8,.int .i64 p.1)]),(λ_=>[⟨true,0,0,.cells [.rs ini.length 1 X,.rs thr.length 1 A,.rs frm.length 1 B,.rs ord.length 1 C] 33⟩]),(λp=>ord.length-p.1),⟨(0,n2),⟨Y0d _,hn2,hq3.symm⟩,Y0a [0] rfl ⟨Y02 rfl,Y06 rfl rfl,Y02 rfl,Y02 rfl,trivial⟩ ⟨hbp,trivial⟩ rfl⟩,?_⟩
  rintro⟨i,m⟩ ⟨hi,hm,hf⟩
  dsimp only at hi hm hf⊢
  by_cases hcc:i<ord.length/\m<=180
  · obtain⟨hlt,hb'⟩:=hcc
    have e1:decide ((i:Int)<(ord.length:Int))=true:=decide_eq_true (by omega)
    have e2:decide ((m:Int)<=3*60)=true:=by simp;omega
    have hx:=hc i hlt
    have hf2:lgF 180 (m+min 61 ord[i].length) ((ord.map List.length).drop (i+1))=n3:=by
     rw[<- hf,Y0n (l:=ord.map List.length) (i:=i) (by rw[Y0p];exact hlt),lgF,if_pos hb',Y13]
    have hl:ord[i].length<=9223372036854775807:=(o2 _ (Y0N hlt)).1
    generalize ord[i]=l at *
    simp only[rsD]at hx
    have w:=wM m l.length (by omega)
    repeat' ((conv=>whnf);first|(with_reducible refine exW w ?_)|(with_reducible refine ixJ i rfl ?_ ?_;focus omega)|refine exI hx ?_|refine stp ?_|with_reducible apply Z01<;>intro h)
    conv=>whnf
    refine⟨(i+1,m+min 61 l.length),⟨hlt,by show m+min 61 l.length<=244;omega,hf2⟩,by show ord.length-(i+1)<ord.length-i;omega,Y0a [0] rfl ⟨Y02 rfl,Y06 rfl rfl,Y02 rfl,Y02 rfl,trivial⟩ ⟨hbp,trivial⟩ rfl⟩
  have hk:n3=m:=by
   by_cases hlt:i<ord.length
   ·rw[<- hf,ZbJ (λh=>hcc ⟨hlt,h⟩)]
   ·rw[<- hf,Y0B (by rw[Y0p];omega)];rfl
  subst hk
  have hn3:=hm
  have e12:(decide ((i:Int)<(ord.length:Int))=true/\decide ((n3:Int)<=3*60)=false)\/decide ((i:Int)<(ord.length:Int))=false:=by
   by_cases hlt:i<ord.length
   · have:¬n3<=180:=λh=>hcc ⟨hlt,h⟩
     exact .inl ⟨decide_eq_true (by omega),decide_eq_false (by omega)⟩
   ·exact .inr (decide_eq_false (by omega))
  clear hf hcc hm hi
  rcases e12 with ⟨e1,e2⟩|e1
  all_goals repeat' ((conv=>whnf);first|refine stp ?_|with_reducible apply Z01<;>intro h))
 all_goals show AV.bool _=AV.bool _
 all_goals refine congrArg AV.bool (decide_eq_decide.2 ?_)
 all_goals omega
end
end
section
def ZnO(o:Option DEv):AV:=match o with
 |some e=>.tuple [.agg (evC e),.bool true]
 |none=>.tuple [.agg (evC evD),.bool false]
def DGr.evR(g:DGr)(d:DId):AV:=ZnO (g.ev d)
section
variable {gl:Z0w}
theorem Zm8(g:DGr)(hg:okG g)(d:DId)(hd:okD d):ValOK Y00 gl 59 [g.av,.agg (idC d)] (g.evR d):=by
 obtain⟨ini,thr,frm,ord⟩:=g
 obtain⟨⟨i1,i2⟩,⟨t1,t2⟩,⟨f1,f2⟩,⟨o1,o2⟩⟩:=hg
 obtain⟨t,i⟩:=d
 obtain⟨⟨ht1,ht2⟩,⟨hi1,hi2⟩⟩:=hd
 dsimp only at i1 i2 t1 t2 f1 f2 o1 o2 ht1 ht2 hi1 hi2
 have ha:=λi (hi:i<thr.length)=>Z0f (f:=λx=>[rsE x]) (k:=1) (λ_=>rfl) thr i hi
 have hc:=λi (hi:i<ini.length)=>Z0f (f:=Z2b) (k:=1) (λ_=>rfl) ini i hi
 have t1':thr.length<=9223372036854775807:=t1
 have i1':ini.length<=9223372036854775807:=i1
 unfold DGr.evR
 simp only[DGr.av,grC,rsI,Z4T,Z58,idC]
 by_cases c1:t<0
 · have e1:decide (t<0)=true:=decide_eq_true c1
   have e2:(t==0)=false:=by simp;omega
   have hr:(⟨ini,thr,frm,ord⟩:DGr).ev ⟨t,i⟩=none:=by unfold DGr.ev;rw[if_pos (.inl c1)]
   rw[hr]
   refine Z09 follows Z0a Z05 Y0r rfl ?_
   repeat' ((conv=>whnf);first|refine stp ?_|with_reducible apply Z01<;>intro h)
   all_goals rfl
 have e1:decide (t<0)=false:=decide_eq_false c1
 by_cases c3:i<0
 · have e3:decide (i<0)=true:=decide_eq_true c3
   have hr:(⟨ini,thr,frm,ord⟩:DGr).ev ⟨t,i⟩=none:=by unfold DGr.ev;rw[if_pos (.inr c3)]
   rw[hr]
   refine Z09 follows Z0a Z05 Y0r rfl ?_
   repeat' ((conv=>whnf);first|refine stp ?_|with_reducible apply Z01<;>intro h)
   all_goals rfl
 have e3:decide (i<0)=false:=decide_eq_false c3
 obtain⟨tn,rfl⟩:∃n:Nat,t=n:=⟨t.toNat,by omega⟩
 obtain⟨k,rfl⟩:∃n:Nat,i=n:=⟨i.toNat,by omega⟩
 by_cases c0:tn=0
 · subst c0
   have e0:(((0:Nat):Int)==0)=true:=by simp
   have e2:decide (((0:Nat):Int)>(thr.length:Int))=false:=decide_eq_false (by omega)
   have hr:(⟨ini,thr,frm,ord⟩:DGr).ev ⟨((0:Nat):Int),k⟩=(ini[k]?).map λv=>⟨2,k,1,0,v⟩:=by
    unfold DGr.ev
    rw[if_neg (by simp),if_pos (by simp)];simp
   rw[hr]
   by_cases c4:k<ini.length
   · have e4:decide ((k:Int) >= (ini.length:Int))=false:=decide_eq_false (by omega)
     have hx:=hc k c4
     rw[Y0c c4]
     generalize ini[k]=v at *
     generalize Z07 Z2b ini=X at *
     simp only[Z2b]at hx
     refine Z09 follows Z0a Z05 Y0r rfl ?_
     repeat' ((conv=>whnf);first|(with_reducible refine ixJ k rfl ?_ ?_;focus omega)|refine exI hx ?_|refine stp ?_|with_reducible apply Z01<;>intro h)
     all_goals rfl
   · have e4:decide ((k:Int) >= (ini.length:Int))=true:=decide_eq_true (by omega)
     rw[Y14 (by omega)]
     refine Z09 follows Z0a Z05 Y0r rfl ?_
     repeat' ((conv=>whnf);first|refine stp ?_|with_reducible apply Z01<;>intro h)
     all_goals rfl
 obtain⟨u,rfl⟩:∃u:Nat,tn=u+1:=⟨tn-1,by omega⟩
 have e0:(((u+1:Nat):Int)==0)=false:=by simp;omega
 have hr:(⟨ini,thr,frm,ord⟩:DGr).ev ⟨((u+1:Nat):Int),k⟩=(match thr[u]? with|none=>none|some l=>l[k]?):=by
  unfold DGr.ev
  rw[if_neg (by simp;omega),if_neg (by simp;omega)];simp<;>(cases thr[u]?<;>rfl)
 rw[hr]
 by_cases c2:u<thr.length
 · have e2:decide (((u+1:Nat):Int)>(thr.length:Int))=false:=decide_eq_false (by omega)
   have w:IntKind.i64.wrap (((u+1:Nat):Int)-1)=(u:Int):=by
    rw[show ((u+1:Nat):Int)-1=(u:Int) by omega];exact Z1i (by omega) (by omega)
   have hx:=ha u c2
   have hl:thr[u].length<=9223372036854775807:=(t2 _ (Y0N c2)).1
   rw[Y0c c2]
   dsimp only
   generalize thr[u]=l at *
   generalize Z07 (λx=>[rsE x]) thr=A at *
   have hy:=λi (hi:i<l.length)=>Z0f (f:=evC) (k:=5) (λ_=>rfl) l i hi
   simp only[rsE]at hx
   by_cases c5:k<l.length
   · have e5:decide ((k:Int) >= (l.length:Int))=false:=decide_eq_false (by omega)
     have hz:=hy k c5
     rw[Y0c c5]
     generalize l[k]=x at *
     generalize Z07 evC l=Y at *
     simp only[evC]at hz
     refine Z09 follows Z0a Z05 Y0r rfl ?_
     repeat' ((conv=>whnf);first|(with_reducible refine exW w ?_)|(with_reducible refine ixJ u rfl ?_ ?_;focus omega)|(with_reducible refine ixJ k rfl ?_ ?_;focus omega)|refine exI hx ?_|refine exI hz ?_|refine stp ?_|with_reducible apply Z01<;>intro h)
     all_goals rfl
   · have e5:decide ((k:Int) >= (l.length:Int))=true:=decide_eq_true (by omega)
     rw[Y14 (by omega)]
     generalize Z07 evC l=Y at *
     refine Z09 follows Z0a Z05 Y0r rfl ?_
     repeat' ((conv=>whnf);first|(with_reducible refine exW w ?_)|(with_reducible refine ixJ u rfl ?_ ?_;focus omega)|refine exI hx ?_|refine stp ?_|with_reducible apply Z01<;>intro h)
     all_goals rfl
 · have e2:decide (((u+1:Nat):Int)>(thr.length:Int))=true:=decide_eq_true (by omega)
   rw[Y14 (by omega)]
   refine Z09 follows Z0a Z05 Y0r rfl ?_
   repeat' ((conv=>whnf);first|refine stp ?_|with_reducible apply Z01<;>intro h)
   all_goals rfl
end
end
section
theorem Zf9:Z4u Y00 3=some false:=by kernel_rfl
theorem Zlu:Z4u Y00 2=some false:=by kernel_rfl
theorem Znj:Y00.eqGuardType Y00.depth 63=false:=by kernel_rfl
theorem Znf:Z2w Y00 63=some [(3,0),(3,1)]:=by kernel_rfl
theorem Zni:Y00.eqGuardType Y00.depth 60=false:=by kernel_rfl
theorem Zne:Z2w Y00 60=some [(3,0),(3,1),(3,2),(2,3),(2,4)]:=by kernel_rfl
theorem Zll(a b:DId):ZaW Y00 63 (idC a) (idC b)=some (a.t==b.t&&(a.i==b.i&&true)) :=
 ZdM Znj Znf (Z3m Zf9 rfl rfl (Z4M Y0b _ _) (Z3m Zf9 rfl rfl (Z4M Y0b _ _) rfl))
theorem Zo7(a b:DEv):ZaW Y00 60 (evC a) (evC b)=some (a.k==b.k&&(a.l==b.l&&(a.o==b.o&&(a.r==b.r&&(a.w==b.w&&true))))) :=
 ZdM Zni Zne (Z3m Zf9 rfl rfl (Z4M Y0b _ _) (Z3m Zf9 rfl rfl (Z4M Y0b _ _) (Z3m Zf9 rfl rfl (Z4M Y0b _ _) (Z3m Zlu rfl rfl (Z4M Y0y _ _) (Z3m Zlu rfl rfl (Z4M Y0y _ _) rfl)))))
section
variable {gl:Z0w}
theorem Zg5(l:List Int)(h:l.length<=Z5A):ValOK Y00 gl 29 [rsI l,rsI l] (.bool true):=by
 have h':l.length<=9223372036854775807:=h
 have hat:=λi (hi:i<l.length)=>Z0f (f:=Z2b) (k:=1) (λ_=>rfl) l i hi
 show ValOK _ _ _ [.rs l.length 1 (Z07 Z2b l),.rs l.length 1 (Z07 Z2b l)] _
 generalize Z07 Z2b l=L at *
 refine Z09 follows Z0a Z05 Tryz.func29 rfl ?_
 have e0:((l.length:Int) != (l.length:Int))=false:=Z3B (b:=true) (by simp)
 repeat' ((conv=>whnf);first|refine stp ?_|with_reducible apply Z01<;>intro h)
 conv=>whnf
 refine⟨Nat,(λi=>i<=l.length),(λi=>[(0,.rs l.length 1 L),(1,.rs l.length 1 L),(5,.int .i64 i)]),(λ_=>[]),(λi=>l.length-i),⟨0,Y0d _,Y0g rfl ?_⟩,?_⟩
 ·exact wks
 intro i hi
 dsimp only
 by_cases hlt:i<l.length
 · have e1:decide ((i:Int)<(l.length:Int))=true:=by simpa using hlt
   have hx:=hat i hlt
   generalize l[i]=x at *
   have e2:(x != x)=false:=Z3B (b:=true) (by simp)
   repeat' ((conv=>whnf);first|(with_reducible refine ixJ i rfl ?_ ?_;focus omega)|refine exI hx ?_|refine stp ?_|with_reducible apply Z01<;>intro h)
   conv=>whnf
   refine⟨i+1,hlt,by show l.length-(i+1)<l.length-i;omega,Y0g rfl ?_⟩
   exact wks
 · have e1:decide ((i:Int)<(l.length:Int))=false:=by simpa using hlt
   repeat' ((conv=>whnf);first|refine stp ?_|with_reducible apply Z01<;>intro h)
   all_goals rfl
theorem Zkh(l:List DId)(h:l.length<=Z5A):ValOK Y00 gl 31 [rsD l,rsD l] (.bool true):=by
 have h':l.length<=9223372036854775807:=h
 have hat:=λi (hi:i<l.length)=>Z0f (f:=idC) (k:=2) (λ_=>rfl) l i hi
 show ValOK _ _ _ [.rs l.length 2 (Z07 idC l),.rs l.length 2 (Z07 idC l)] _
 generalize Z07 idC l=L at *
 refine Z09 follows Z0a Z05 Tryz.func31 rfl ?_
 have e0:((l.length:Int) != (l.length:Int))=false:=Z3B (b:=true) (by simp)
 repeat' ((conv=>whnf);first|refine stp ?_|with_reducible apply Z01<;>intro h)
 conv=>whnf
 refine⟨Nat,(λi=>i<=l.length),(λi=>[(0,.rs l.length 2 L),(1,.rs l.length 2 L),(5,.int .i64 i)]),(λ_=>[]),(λi=>l.length-i),⟨0,Y0d _,Y0g rfl ?_⟩,?_⟩
 ·exact wks
 intro i hi
 dsimp only
 by_cases hlt:i<l.length
 · have e1:decide ((i:Int)<(l.length:Int))=true:=by simpa using hlt
   have hx:=hat i hlt
   generalize l[i]=x at *
   have hg:=Zll x x
   simp only[idC]at hx hg
   have e2:(x.t==x.t&&(x.i==x.i&&true))=true:=by simp
   rw[e2]at hg
   repeat' ((conv=>whnf);first|(with_reducible refine ixJ i rfl ?_ ?_;focus omega)|refine exI hx ?_|refine exI hg ?_|refine stp ?_|with_reducible apply Z01<;>intro h)
   conv=>whnf
   refine⟨i+1,hlt,by show l.length-(i+1)<l.length-i;omega,Y0g rfl ?_⟩
   exact wks
 · have e1:decide ((i:Int)<(l.length:Int))=false:=by simpa using hlt
   repeat' ((conv=>whnf);first|refine stp ?_|with_reducible apply Z01<;>intro h)
   all_goals rfl
theorem Zev(l:List DEv)(h:l.length<=Z5A):ValOK Y00 gl 30 [rsE l,rsE l] (.bool true):=by
 have h':l.length<=9223372036854775807:=h
 have hat:=λi (hi:i<l.length)=>Z0f (f:=evC) (k:=5) (λ_=>rfl) l i hi
 show ValOK _ _ _ [.rs l.length 5 (Z07 evC l),.rs l.length 5 (Z07 evC l)] _
 generalize Z07 evC l=L at *
 refine Z09 follows Z0a Z05 Tryz.func30 rfl ?_
 have e0:((l.length:Int) != (l.length:Int))=false:=Z3B (b:=true) (by simp)
 repeat' ((conv=>whnf);first|refine stp ?_|with_reducible apply Z01<;>intro h)
 conv=>whnf
 refine⟨Nat,(λi=>i<=l.length),(λi=>[(0,.rs l.length 5 L),(1,.rs l.length 5 L),(5,.int .i64 i)]),(λ_=>[]),(λi=>l.length-i),⟨0,Y0d _,Y0g rfl ?_⟩,?_⟩
 ·exact wks
 intro i hi
 dsimp only
 by_cases hlt:i<l.length
 · have e1:decide ((i:Int)<(l.length:Int))=true:=by simpa using hlt
   have hx:=hat i hlt
   generalize l[i]=x at *
   have hg:=Zo7 x x
   simp only[evC]at hx hg
   have e2:(x.k==x.k&&(x.l==x.l&&(x.o==x.o&&(x.r==x.r&&(x.w==x.w&&true)))))=true:=by simp
   rw[e2]at hg
   repeat' ((conv=>whnf);first|(with_reducible refine ixJ i rfl ?_ ?_;focus omega)|refine exI hx ?_|refine exI hg ?_|refine stp ?_|with_reducible apply Z01<;>intro h)
   conv=>whnf
   refine⟨i+1,hlt,by show l.length-(i+1)<l.length-i;omega,Y0g rfl ?_⟩
   exact wks
 · have e1:decide ((i:Int)<(l.length:Int))=false:=by simpa using hlt
   repeat' ((conv=>whnf);first|refine stp ?_|with_reducible apply Z01<;>intro h)
   all_goals rfl
end
end
section
section
variable {gl:Z0w}
theorem Zjf(e:DEv):ValOK Y00 gl 57 [.agg (evC e)] (.bool e.rd):=by
 obtain⟨k,l,o,r,w⟩:=e
 simp only[evC,DEv.rd]
 refine Z09 follows Z0a Z05 Tryz.func57 rfl ?_
 cases h1:(k==1)<;>cases h3:(k==3)
 all_goals repeat' ((conv=>whnf);first|refine stp ?_|with_reducible apply Z01<;>intro h)
 all_goals first|rfl|(show AV.bool _=AV.bool _;rw[h3];rfl)
theorem Zgc(e:DEv):ValOK Y00 gl 58 [.agg (evC e)] (.bool e.wr):=by
 obtain⟨k,l,o,r,w⟩:=e
 simp only[evC,DEv.wr]
 refine Z09 follows Z0a Z05 Tryz.func58 rfl ?_
 cases h1:(k==2)<;>cases h3:(k==3)
 all_goals repeat' ((conv=>whnf);first|refine stp ?_|with_reducible apply Z01<;>intro h)
 all_goals first|rfl|(show AV.bool _=AV.bool _;rw[h3];rfl)
theorem ZgG(e:DEv):ValOK Y00 gl 47 [.agg (evC e)] (.bool e.rd):=by
 obtain⟨k,l,o,r,w⟩:=e
 simp only[evC,DEv.rd]
 refine Z09 follows Z0a Z05 Tryz.func47 rfl ?_
 cases h1:(k==1)<;>cases h3:(k==3)
 all_goals repeat' ((conv=>whnf);first|refine stp ?_|with_reducible apply Z01<;>intro h)
 all_goals first|rfl|(show AV.bool _=AV.bool _;rw[h3];rfl)
theorem Zjl(e:DEv):ValOK Y00 gl 63 [.agg (evC e)] (.bool e.wr):=by
 obtain⟨k,l,o,r,w⟩:=e
 simp only[evC,DEv.wr]
 refine Z09 follows Z0a Z05 Tryz.func63 rfl ?_
 cases h1:(k==2)<;>cases h3:(k==3)
 all_goals repeat' ((conv=>whnf);first|refine stp ?_|with_reducible apply Z01<;>intro h)
 all_goals first|rfl|(show AV.bool _=AV.bool _;rw[h3];rfl)
theorem Zip(e:DEv)(n:Nat)(hn:n<=9223372036854775807):ValOK Y00 gl 40 [.agg (evC e),.int .i64 n] (.bool (Z3l n e)):=by
 obtain⟨O,hO,p1,p2,-⟩:=fams (P:=Y00) (gl:=gl) [
  { I:=DEv,f:=57,G:=λ_=>True,A:=λe=>[.agg (evC e)],R:=λe=>.bool e.rd,body:=(by kernel_rfl),inj:=(λi j _ _ h=>by rw[Z1N i j (by simpa using h)]),ok:=(λe _=>⟨rfl,Zjf e⟩) },
  { I:=DEv,f:=58,G:=λ_=>True,A:=λe=>[.agg (evC e)],R:=λe=>.bool e.wr,body:=(by kernel_rfl),inj:=(λi j _ _ h=>by rw[Z1N i j (by simpa using h)]),ok:=(λe _=>⟨rfl,Zgc e⟩) }] rfl
 have q1:∀H,Z02 Y00 O H 57 [.agg (evC e)]=some (.bool e.rd,H):=p1 e trivial
 have q2:∀H,Z02 Y00 O H 58 [.agg (evC e)]=some (.bool e.wr,H):=p2 e trivial
 clear p1 p2
 unfold Z3l
 obtain⟨rd,hrd⟩:∃b,b=e.rd:=⟨_,rfl⟩
 obtain⟨wr,hwr⟩:∃b,b=e.wr:=⟨_,rfl⟩
 rw[<- hrd]at q1⊢
 rw[<- hwr]at q2⊢
 clear hrd hwr
 obtain⟨k,l,o,r,w⟩:=e
 simp only[evC]at q1 q2⊢
 have fin:∀b c:Bool,(b=c)->AV.bool b=AV.bool c:=λb c h=>by rw[h]
 by_cases c1:k<1
 · have e1:decide (k<1)=true:=decide_eq_true c1
   have f1:decide (1<=k)=false:=decide_eq_false (by omega)
   rw[f1];simp only[Y0t]
   refine Z09 follows Z0a hO Y0C rfl ?_
   repeat' ((conv=>whnf);first|refine stp ?_|with_reducible apply Z01<;>intro h)
   all_goals rfl
 have e1:decide (k<1)=false:=decide_eq_false c1
 have f1:decide (1<=k)=true:=decide_eq_true (by omega)
 by_cases c2:k>4
 · have e2:decide (k>4)=true:=decide_eq_true c2
   have f2:decide (k<=4)=false:=decide_eq_false (by omega)
   rw[f1,f2];simp only[Y0t,Y0O]
   refine Z09 follows Z0a hO Y0C rfl ?_
   repeat' ((conv=>whnf);first|refine stp ?_|with_reducible apply Z01<;>intro h)
   all_goals rfl
 have e2:decide (k>4)=false:=decide_eq_false c2
 have f2:decide (k<=4)=true:=decide_eq_true (by omega)
 by_cases c3:o<1
 · have e3:decide (o<1)=true:=decide_eq_true c3
   have f3:decide (1<=o)=false:=decide_eq_false (by omega)
   rw[f1,f2,f3];simp only[Y0t,Y0O]
   refine Z09 follows Z0a hO Y0C rfl ?_
   repeat' ((conv=>whnf);first|refine stp ?_|with_reducible apply Z01<;>intro h)
   all_goals rfl
 have e3:decide (o<1)=false:=decide_eq_false c3
 have f3:decide (1<=o)=true:=decide_eq_true (by omega)
 by_cases c4:o>6
 · have e4:decide (o>6)=true:=decide_eq_true c4
   have f4:decide (o<=6)=false:=decide_eq_false (by omega)
   rw[f1,f2,f3,f4];simp only[Y0t,Y0O]
   refine Z09 follows Z0a hO Y0C rfl ?_
   repeat' ((conv=>whnf);first|refine stp ?_|with_reducible apply Z01<;>intro h)
   all_goals rfl
 have e4:decide (o>6)=false:=decide_eq_false c4
 have f4:decide (o<=6)=true:=decide_eq_true (by omega)
 rw[f1,f2,f3,f4]
 simp only[Bool.true_and]
 have hw:(w != 0) = !(w==0):=rfl
 have hr:(r != 0) = !(r==0):=rfl
 have c8:((k==4)=true/\k=4)\/((k==4)=false/\((decide (l >= 0)=false/\decide (0<=l)=false)\/(decide (l >= 0)=true/\decide (0<=l)=true))):=by
  by_cases c6:0<=l
  · by_cases c7:k=4
    ·exact .inl ⟨by simpa using c7,c7⟩
    ·exact .inr ⟨by simpa using c7,.inr ⟨decide_eq_true c6,decide_eq_true c6⟩⟩
  · by_cases c7:k=4
    ·exact .inl ⟨by simpa using c7,c7⟩
    ·exact .inr ⟨by simpa using c7,.inl ⟨decide_eq_false c6,decide_eq_false c6⟩⟩
 cases hb1:(r==0)<;>cases hb2:(w==0)<;>cases rd<;>cases wr
 all_goals rw[hb2]at hw
 all_goals rw[hb1]at hr
 all_goals simp only[Bool.not_true,Bool.not_false]at hw hr
 all_goals simp only[Bool.true_or,Bool.false_or,Bool.or_true,Bool.or_false,Bool.true_and,Y0t,Y0O,Bool.and_true]
 all_goals by_cases c5:k=4
 all_goals first|rw[if_pos c5]|rw[if_neg c5]|skip
 all_goals rcases c8 with ⟨e5,c9⟩|⟨e5,⟨e6,f6⟩|⟨e6,f6⟩⟩
 all_goals first|(exfalso;exact c5 c9)|(exfalso;rw[c5]at e5;exact absurd e5 (by decide))|skip
 all_goals try rw[f6]
 all_goals try simp only[Bool.true_and,Y0t]
 all_goals refine Z09 follows Z0a hO Y0C rfl ?_
 all_goals repeat' ((conv=>whnf);first|with_reducible refine exI (q1 _) ?_|with_reducible refine exI (q2 _) ?_|refine stp ?_|with_reducible apply Z01<;>intro h)
 all_goals rfl
end
end
section
theorem Z3L:∀{a b:List (List UInt8)},a.map AV.str=b.map AV.str->a=b
 |[],[],_=>rfl
 |x::a,y::b,h=>by
  simp only[Y0v,List.cons.injEq,AV.str.injEq]at h
  rw[h.1,Z3L h.2]
theorem Zii(k:Int):(Z1E k).length<=6:=by
 unfold Z1E
 repeat' split
 all_goals decide
section
variable {gl:Z0w}
theorem Zlp:ValOK Y00 gl 44 [.nslice] (.str []):=by
 obtain⟨O,hO,p1,-⟩:=fams (P:=Y00) (gl:=gl) [
  { I:=Unit,f:=60,G:=(λ_=>True),A:=(λ_=>[.nslice,.str [32]]),R:=(λ_=>.str []),body:=(by kernel_rfl),inj:=(λ_ _ _ _ _=>rfl),ok:=(λ_ h=>⟨rfl,ZiT⟩) }] rfl
 have q:∀H,Z02 Y00 O H 60 [.nslice,.str [32]]=some (.str [],H):=p1 () trivial
 refine Z09 follows Z0a hO Tryz.func44 rfl ?_
 repeat' ((conv=>whnf);first|refine stp ?_|with_reducible apply Z01<;>intro h)
 conv=>whnf
 refine⟨Unit,(λ_=>True),(λ_=>[(0,.nslice),(2,.str []),(3,.nslice),(6,.nslice),(7,.int .i64 0),(8,.int .i64 0)]),(λ_=>[]),(λ_=>0),⟨(),trivial,Y0g rfl ?_⟩,?_⟩
 ·exact wks
 intro i hi
 dsimp only
 repeat' ((conv=>whnf);first|(refine Z0c (q _) ?_)|refine stp ?_|with_reducible apply Z01<;>intro h)
 all_goals rfl
def Zl5:Option (List (List UInt8))->List AV
 |none=>[.nslice]
 |some l=>[.rs l.length 1 (l.map AV.str)]
def Zlq:Option (List (List UInt8))->AV
 |none=>.str []
 |some l=>.str (Z0v l)
def ZmE:Option (List (List UInt8))->Prop
 |none=>True
 |some l=>l.length<=1000/\Z2u l<=1048576
theorem Z9x {O : Orc} (hO : OrcSound Y00 gl O) : ∃ O', OrcSound Y00 gl O' /\ (∀ i, ZmE i -> ∀ H args, Z1n (frz H 30) args = some (Zl5 i) -> Z02 Y00 O' H 44 args = some (Zlq i, H)) /\
  ∀g,g≠44->∀args H,Z02 Y00 O' H g args=Z02 Y00 O H g args :=
 fz_addI (P:=Y00) (gl:=gl) (I:=Option (List (List UInt8))) (f0:=44) (G:=ZmE) (A:=Zl5) (R:=Zlq) (λi _=>by cases i<;>rfl) (λi j _ _ h=>by
  cases i<;>cases j<;>simp only[Zl5,List.cons.injEq,and_true,AV.rs.injEq,reduceCtorEq]at h⊢
  rw[Z3L h.2.2]) (λi g=>by
  cases i with
  |none=>exact Zlp
  |some l=>exact Zcs l g.1 g.2) (by kernel_rfl) hO
end
theorem ZgA(e:DEv)(he:okV e):Z2u [Z1E e.k,if e.k=4 then [] else 120::Z0g e.l,Z3D e.o,if e.rd then Z0g e.r else [],if e.wr then Z0g e.w else []]<=100:=by
 have l1:=Zii e.k
 have l2:=Z0N he.2.1
 have l3:=ZjW e.o
 have l4:=Z0N he.2.2.2.1
 have l5:=Z0N he.2.2.2.2
 simp only[Z2u]
 repeat' split
 all_goals simp only[Y03,Y0J];omega
theorem Zmr(e:DEv)(he:okV e):ValOK Y00 runLives.gl 49 [.agg (evC e)] (.str (evT e)):=by
 obtain⟨O1,hO1,p1,p2,p3,p4,p5,p6,-⟩:=fams (P:=Y00) (gl:=runLives.gl) [
  { I:=Int,f:=45,G:=rgI,A:=(λn=>[.int .i64 n]),R:=(λn=>.str (Z0g n)),body:=(by kernel_rfl),inj:=(λi j _ _ h=>by rw[show i=j by simpa using h]),ok:=(λn h=>⟨rfl,Z6I n h⟩) },
  { I:=Int,f:=46,G:=rgI,A:=(λn=>[.int .i64 n]),R:=(λn=>.str (Z0g n)),body:=(by kernel_rfl),inj:=(λi j _ _ h=>by rw[show i=j by simpa using h]),ok:=(λn h=>⟨rfl,ZbZ n h⟩) },
  { I:=Int,f:=64,G:=(λ_=>True),A:=(λn=>[.int .i64 n]),R:=(λn=>.str (Z1E n)),body:=(by kernel_rfl),inj:=(λi j _ _ h=>by rw[show i=j by simpa using h]),ok:=(λn h=>⟨rfl,ZiB n⟩) },
  { I:=Int,f:=65,G:=(λ_=>True),A:=(λn=>[.int .i64 n]),R:=(λn=>.str (Z3D n)),body:=(by kernel_rfl),inj:=(λi j _ _ h=>by rw[show i=j by simpa using h]),ok:=(λn h=>⟨rfl,ZjZ n⟩) },
  { I:=Unit,f:=47,G:=(λ_=>True),A:=(λ_=>[.agg (evC e)]),R:=(λ_=>.bool e.rd),body:=(by kernel_rfl),inj:=(λ_ _ _ _ _=>rfl),ok:=(λ_ h=>⟨rfl,ZgG e⟩) },
  { I:=Unit,f:=63,G:=(λ_=>True),A:=(λ_=>[.agg (evC e)]),R:=(λ_=>.bool e.wr),body:=(by kernel_rfl),inj:=(λ_ _ _ _ _=>rfl),ok:=(λ_ h=>⟨rfl,Zjl e⟩) }] rfl
 obtain⟨O,hO,qw,hk⟩:=Z9x hO1
 have hl:=ZgA e he
 have hT:evT e=Z0v [Z1E e.k,if e.k=4 then [] else 120::Z0g e.l,Z3D e.o,if e.rd then Z0g e.r else [],if e.wr then Z0g e.w else []]:=rfl
 rw[hT]
 have l2:=Z0N he.2.1
 obtain⟨k,l,o,r,w⟩:=e
 have q1:∀H,Z02 Y00 O H 45 [.int .i64 l]=some (.str (Z0g l),H):=λH=>by rw[hk _ (by decide)];exact p1 l he.2.1 H
 have q2:∀H,Z02 Y00 O H 46 [.int .i64 r]=some (.str (Z0g r),H):=λH=>by rw[hk _ (by decide)];exact p2 r he.2.2.2.1 H
 have q3:∀H,Z02 Y00 O H 46 [.int .i64 w]=some (.str (Z0g w),H):=λH=>by rw[hk _ (by decide)];exact p2 w he.2.2.2.2 H
 have q4:∀H,Z02 Y00 O H 64 [.int .i64 k]=some (.str (Z1E k),H):=λH=>by rw[hk _ (by decide)];exact p3 k trivial H
 have q5:∀H,Z02 Y00 O H 65 [.int .i64 o]=some (.str (Z3D o),H):=λH=>by rw[hk _ (by decide)];exact p4 o trivial H
 have q6:=λH=>(hk 47 (by decide) _ H).trans (p5 () trivial H)
 have q7:=λH=>(hk 63 (by decide) _ H).trans (p6 () trivial H)
 clear p1 p2 p3 p4 p5 p6 hk hT
 dsimp only at *
 generalize (DEv.mk k l o r w).rd=b1 at *
 generalize (DEv.mk k l o r w).wr=b2 at *
 simp only[evC]at *
 generalize Z0g l=L at *
 generalize Z0g r=R at *
 generalize Z0g w=W at *
 generalize Z1E k=K at *
 generalize Z3D o=D at *
 refine Z0u (λg=>true) 1 follows Z0a hO Tryz.func49 rfl ?_
 by_cases k4:k=4
 · have e0:(k==4)=true:=by rw[k4];rfl
   have e0:=Z3B e0
   simp only[if_pos k4]at hl⊢
   clear he
   cases b1<;>cases b2
   all_goals simp only[Y11,if_true,if_false]at hl⊢
   all_goals repeat' ((conv=>whnf);first|with_reducible refine exI (q1 _) ?_|with_reducible refine exI (q2 _) ?_|with_reducible refine exI (q3 _) ?_|with_reducible refine exI (q4 _) ?_|with_reducible refine exI (q5 _) ?_|with_reducible refine exI (q6 _) ?_|with_reducible refine exI (q7 _) ?_|refine exI (qw (some [K,[],D,[],[]]) ⟨by simp,Y0j hl (by decide)⟩ _ _ rfl) ?_|refine exI (qw (some [K,[],D,[],W]) ⟨by simp,Y0j hl (by decide)⟩ _ _ rfl) ?_|refine exI (qw (some [K,[],D,R,[]]) ⟨by simp,Y0j hl (by decide)⟩ _ _ rfl) ?_|refine exI (qw (some [K,[],D,R,W]) ⟨by simp,Y0j hl (by decide)⟩ _ _ rfl) ?_|refine stp ?_|with_reducible apply Z01<;>intro h)
   all_goals rfl
 · have e0:(k==4)=false:=by simpa using k4
   have e0:=Z3B e0
   simp only[if_neg k4]at hl⊢
   clear he
   cases b1<;>cases b2
   all_goals simp only[Y11,if_true,if_false]at hl⊢
   all_goals repeat' ((conv=>whnf);first|with_reducible refine exI (q1 _) ?_|with_reducible refine exI (q2 _) ?_|with_reducible refine exI (q3 _) ?_|with_reducible refine exI (q4 _) ?_|with_reducible refine exI (q5 _) ?_|with_reducible refine exI (q6 _) ?_|with_reducible refine exI (q7 _) ?_|refine exI (qw (some [K,120::L,D,[],[]]) ⟨by simp,Y0j hl (by decide)⟩ _ _ rfl) ?_|refine exI (qw (some [K,120::L,D,[],W]) ⟨by simp,Y0j hl (by decide)⟩ _ _ rfl) ?_|refine exI (qw (some [K,120::L,D,R,[]]) ⟨by simp,Y0j hl (by decide)⟩ _ _ rfl) ?_|refine exI (qw (some [K,120::L,D,R,W]) ⟨by simp,Y0j hl (by decide)⟩ _ _ rfl) ?_|(refine Y01 (show 1+L.length<=9223372036854775807 by omega) ?_)|refine stp ?_|with_reducible apply Z01<;>intro h)
   all_goals rfl
end
end Go.Proofs.YtpcpdlfhcahjgaaGreatDoor.lex
section
namespace Go.Abs
open Go.RowKit
def BH(tW tB:TypeId):List UInt8->Z00
 |[]=>[⟨true,0,0,.cells [.nptr,.nslice] tW⟩]
 |x::s=>[⟨true,0,0,.cells [.ptr 0 0,.slice 1 0 (x::s).length (x::s).length 1] tW⟩,⟨true,1,0,.cells (byt (x::s)) tB⟩]
def Zc7(tW tB:TypeId)(Hc:Z00)(b fb:Nat)(s':List UInt8):Z00:=Hc.set b ⟨true,fb,0,.cells [.ptr b 0,.slice Hc.length 0 s'.length s'.length 1] tW⟩++[⟨true,Hc.length,0,.cells (byt s') tB⟩]
def Zc6(tW tB:TypeId)(Hc:Z00)(b c fb fc:Nat)(s':List UInt8):Z00 :=
 (Hc.set b ⟨true,fb,0,.cells [.ptr b 0,.slice Hc.length 0 s'.length s'.length 1] tW⟩).set c ⟨false,fc,0,.cells [] 0⟩++[⟨true,fc,0,.cells (byt s') tB⟩]
def Zmy(tW tB:TypeId)(Hc:Z00)(b fb n:Nat)(s':List UInt8):Z00:=Hc.set b ⟨true,fb,0,.cells [.ptr b 0,.slice n 0 s'.length s'.length 1] tW⟩++[⟨true,n,0,.cells (byt s') tB⟩]
def Zmx(tW tB:TypeId)(Hc:Z00)(b c fb fc n:Nat)(s':List UInt8):Z00 :=
 (Hc.set b ⟨true,fb,0,.cells [.ptr b 0,.slice n 0 s'.length s'.length 1] tW⟩).set c ⟨false,fc,0,.cells [] 0⟩++[⟨true,fc,0,.cells (byt s') tB⟩]
theorem Znt{tW tB:TypeId}{H:Z00}{b fb:Nat}{s':List UInt8}{o:Option (AV×Z00)}{K:AV×Z00->Prop}(h:o=some (.tuple [],Zc7 tW tB H b fb s'))(k:frcNP H.length λn=>K (.tuple [],Zmy tW tB H b fb n s')):∃r,o=some r/\K r:=by
 rw[Z2g]at k;exact⟨_,h,k⟩
theorem ZeG{tW tB:TypeId}{H:Z00}{b c fb fc:Nat}{s':List UInt8}{o:Option (AV×Z00)}{K:AV×Z00->Prop}(h:o=some (.tuple [],Zc6 tW tB H b c fb fc s'))(k:frcNP H.length λn=>K (.tuple [],Zmx tW tB H b c fb fc n s')):∃r,o=some r/\K r:=by
 rw[Z2g]at k;exact⟨_,h,k⟩
section
variable {P:Program} {gl:Z0w} {tW tB:TypeId}
theorem Z6h{s:List UInt8}{i:Nat}{o:AObj}(h:(BH tW tB s)[i]? = some o):o.sh=0/\o.fam=i/\ZfI o.body=true/\Z0h 2 (Z6m o.body [])=true/\o.alive=true:=by
 cases s with
 |nil =>
  simp only[BH]at h
  match i,h with
  |0,h=>simp at h;subst h;exact⟨rfl,rfl,rfl,rfl,rfl⟩
  |i+1,h=>simp at h
 |cons x s =>
  simp only[BH]at h
  match i,h with
  |0,h=>simp at h;subst h;exact⟨rfl,rfl,rfl,rfl,rfl⟩
  |1,h =>
   simp at h;subst h
   refine⟨rfl,rfl,?_,?_,rfl⟩
   ·exact Z9c (x::s)
   · show Z0h 2 (refsL (byt (x::s)) [])=true
     rw[byt_refs];rfl
  |i+2,h=>simp at h
theorem Zh6(s:List UInt8):Zem (BH tW tB s)=true:=by
 cases s with
 |nil=>rfl
 |cons x s =>
  show (ZfI (.cells [.ptr 0 0,.slice 1 0 (x::s).length (x::s).length 1] tW)&&(noROL (byt (x::s))&&true))=true
  rw[Z9c];rfl
theorem Zh0 {f b fb : Nat} {Hc : Z00} {fargs cargs : List AV} {s' : List UInt8} (hM : Z7R P gl 1 f fargs (BH tW tB []) (.tuple []) (BH tW tB s')) (hs' : s' ≠ []) (e1 : Hc[b]? = some ⟨true, fb, 0, .cells [.nptr, .nslice] tW⟩)
  (hl:Z0O [b] [fb] 0 Hc=true) (hF:Z0X Hc.length Hc=true) (ha:Z1n (Zbj [b] (ZeV [b] Hc) 30) cargs=some fargs) :
  Z3F P gl f cargs Hc (.tuple []) (Zc7 tW tB Hc b fb s'):=by
 obtain⟨x,t,rfl⟩:∃x t,s'=x::t:=by cases s' with|nil=>exact absurd rfl hs'|cons x t=>exact⟨x,t,rfl⟩
 have hfam:Z0m Hc b=fb:=by simp only[Z0m,e1]
 have hp:Z3H [b] b 0=some 0:=by simp[Z3H]
 have h:=Z8d (m:=[b]) (n:=30) (F:=Hc.length) (Hc:=Hc) (cargs:=cargs) (bL:=.cells (byt (x::t)) tB) hM ha ?_ rfl ?_ rfl rfl (λi o ho=>⟨(Z6h ho).2.1,(Z6h ho).2.2.2.2,(Z6h ho).2.2.2.1⟩) (λi o ho=>(Z6h ho).1) (Zh6 _) rfl rfl (.inl ⟨rfl,Z5o hF⟩)
 · have hu : Zbf [b] (sig [b] 1 Hc.length) 1 (BH tW tB (x :: t)) 0 Hc ++ [⟨true, Hc.length, 0, Z6A (sig [b] 1 Hc.length) (.cells (byt (x :: t)) tB)⟩] = Zc7 tW tB Hc b fb (x :: t) := by
    unfold Zc7
    congr 1
    · apply Y0S
      intro i
      rw[Z6w]
      simp only[Y0e]
      by_cases hi:i=b
      · subst hi
        rw[hp,Y15 (Y0m.1 e1).1,e1]
        rfl
      · have : Z3H [b] i 0 = none := by
         have:Y04 b i=false:=Y0x.2 λe=>hi (Y0f e).symm
         simp only[Z3H,this];rfl
        rw[this,Y0P (λe=>hi e.symm)]
        cases Hc[i]?<;>rfl
    ·simp only[Z6A,Zc5]
   rw[hu]at h
   exact h
 ·exact⟨by rw[e1];exact⟨rfl,rfl,rfl,rfl,Y0k ⟨Y05 rfl,Y05 rfl,trivial⟩⟩,trivial⟩
 ·simp only[List.map,hfam];exact hl
theorem ZgZ {f b c fb fc : Nat} {Hc : Z00} {fargs cargs : List AV} {s s' : List UInt8} (hM : Z7R P gl 1 f fargs (BH tW tB s) (.tuple []) (BH tW tB s')) (hs : s ≠ []) (hs' : s' ≠ []) (e2 : Hc[c]? = some ⟨true, fc, 0, .cells (byt s) tB⟩)
  (e1:Hc[b]? = some ⟨true,fb,0,.cells [.ptr b 0,.slice c 0 s.length s.length 1] tW⟩) (hn:Y04 fb fc=false) (hl:Z0O [b,c] [fb,fc] 0 Hc=true) (ha:Z1n (Zbj [b,c] (ZeV [b,c] Hc) 30) cargs=some fargs) :
  Z3F P gl f cargs Hc (.tuple []) (Zc6 tW tB Hc b c fb fc s'):=by
 obtain⟨x,t,rfl⟩:∃x t,s'=x::t:=by cases s' with|nil=>exact absurd rfl hs'|cons x t=>exact⟨x,t,rfl⟩
 obtain⟨y,u,rfl⟩:∃x t,s=x::t:=by cases s with|nil=>exact absurd rfl hs|cons x t=>exact⟨x,t,rfl⟩
 have hfb:Z0m Hc b=fb:=by simp only[Z0m,e1]
 have hfc:Z0m Hc c=fc:=by simp only[Z0m,e2]
 have hne:fb≠fc:=λe=>by rw[e]at hn;simp at hn
 have hbc:b≠c:=λe=>by subst e;rw[hfb]at hfc;exact hne hfc
 have hb1:Y04 b c=false:=Y0x.2 λe=>hbc (Y0f e)
 have hp:Z3H [b,c] b 0=some 0:=by simp[Z3H]
 have hpc:Z3H [b,c] c 0=some 1:=by simp only[Z3H,hb1];simp
 have h:=Z8d (m:=[b,c]) (n:=30) (F:=fc) (Hc:=Hc) (cargs:=cargs) (bL:=.cells (byt (x::t)) tB) hM ha ?_ ?_ ?_ rfl rfl (λi o ho=>⟨(Z6h ho).2.1,(Z6h ho).2.2.2.2,(Z6h ho).2.2.2.1⟩) (λi o ho=>(Z6h ho).1) (Zh6 _) rfl rfl (.inr ⟨rfl,hfc.symm⟩)
 · have hu : Zbf [b, c] (sig [b, c] 1 Hc.length) 1 (BH tW tB (x :: t)) 0 Hc ++ [⟨true, fc, 0, Z6A (sig [b, c] 1 Hc.length) (.cells (byt (x :: t)) tB)⟩] = Zc6 tW tB Hc b c fb fc (x :: t) := by
    unfold Zc6
    congr 1
    · apply Y0S
      intro i
      rw[Z6w]
      simp only[Y0e]
      have lb:=(Y0m.1 e1).1
      have lc:=(Y0m.1 e2).1
      by_cases hi:i=b
      · subst hi
        rw[hp,Y0P hbc.symm,Y15 lb,e1]
        rfl
      · by_cases hj:i=c
        · subst hj
          rw[hpc,Y15 (by simpa using lc),e2]
          rfl
        · have : Z3H [b, c] i 0 = none := by
           have h1:Y04 b i=false:=Y0x.2 λe=>hi (Y0f e).symm
           have h2:Y04 c i=false:=Y0x.2 λe=>hj (Y0f e).symm
           simp only[Z3H,h1,h2];rfl
          rw[this,Y0P (λe=>hj e.symm),Y0P (λe=>hi e.symm)]
          cases Hc[i]?<;>rfl
    ·simp only[Z6A,Zc5]
   rw[hu]at h
   exact h
 ·refine⟨by rw[e1];exact⟨rfl,rfl,rfl,rfl,Y0k ⟨Y06 rfl rfl,Y0h rfl rfl rfl (Y07 _) (Y07 _) rfl,trivial⟩⟩,by rw[e2];exact⟨rfl,rfl,rfl,rfl,Y0i (rest:=[]) (by simp) (byt_refs _ _)⟩,trivial⟩
 · simp only[List.map,hfb,hfc,Z0S,mem]
   have:(fb==fc)=false:=by simpa using hne
   simp only[this,Bool.or_false,Bool.not_false,Bool.and_true]
   first|rfl|(simp;exact hne)|(simp[hn])
 ·simp only[List.map,hfb,hfc];exact hl
theorem Zmz {H T : Z00} {m rest : List Nat} {b f0 f1 n : Nat} {cs : List AV} {s : List UInt8} (hs : s ≠ []) (h0 : H[0]? = some ⟨true, f0, 0, .cells [.ptr 0 0, .slice b 0 n n 1] tW⟩) (h1 : H[b]? = some ⟨true, f1, 0, .cells cs tB⟩) (m0 : m[0]? = some 0) (m1 : m[1]? = some b)
  (hn:n=s.length) (hc:cs=byt s) (hr:HpGe H m rest T 2):HpGe H m (0::b::rest) (BH tW tB s++T) 0:=by
 subst hn;subst hc
 cases s with
 |nil=>exact absurd rfl hs
 |cons x s =>
  exact⟨by rw[h0];exact⟨rfl,rfl,rfl,rfl,Y0k ⟨Y06 m0 rfl,Y0h m1 rfl rfl (Y07 _) (Y07 _) rfl,trivial⟩⟩,by rw[h1];exact⟨rfl,rfl,rfl,rfl,Y0i (rest:=[]) (by simp) (byt_refs _ _)⟩,hr⟩
theorem ZmA {H : Z00} {b f0 f1 n : Nat} {cs : List AV} {s : List UInt8} (hs : s ≠ []) (h0 : H[0]? = some ⟨true, f0, 0, .cells [.ptr 0 0, .slice b 0 n n 1] tW⟩) (h1 : H[b]? = some ⟨true, f1, 0, .cells cs tB⟩)
  (hn:n=s.length) (hc:cs=byt s):HpGe H [0,b] [0,b] (BH tW tB s) 0:=by
 have h:=Zmz (m:=[0,b]) (T:=[]) (rest:=[]) hs h0 h1 rfl rfl hn hc trivial
 rwa [Y0M]at h
structure BM (P:Program) (gl:Z0w) (tW tB:TypeId) where
 f:Nat
 X:Type
 G:X->Prop
 G0:X->Prop
 A:X->List AV
 T:X->List UInt8
 L:Nat
 body:Z0E P f=true
 inj:∀x y,G x->G y->A x=A y->T x=T y
 ne:∀x,G x->G0 x->T x≠[]
 ok:∀x,G x->∀s,(s=[]->G0 x)->(s++T x).length<=L->Z7R P gl 1 f (A x) (BH tW tB s) (.tuple []) (BH tW tB (s++T x))
structure BI (X:Type) where
 x:X
 s:List UInt8
 b:Nat
 c:Nat
 fb:Nat
 fc:Nat
 H:Z00
 rest:List AV
def BM.Gd(W:BM P gl tW tB)(i:BI W.X):Prop:=W.G i.x/\(i.s++W.T i.x).length<=W.L/\i.rest.getLast? = some (.ptr i.b 0)/\match i.s with
 |[]=>W.G0 i.x/\i.c=0/\i.fc=0/\i.H[i.b]? = some ⟨true,i.fb,0,.cells [.nptr,.nslice] tW⟩/\Z0O [i.b] [i.fb] 0 i.H=true/\Z0X i.H.length i.H=true/\Z1n (Zbj [i.b] (ZeV [i.b] i.H) 30) i.rest=some (W.A i.x)
 |y::u=>i.H[i.c]? = some ⟨true,i.fc,0,.cells (byt (y::u)) tB⟩/\i.H[i.b]? = some ⟨true,i.fb,0,.cells [.ptr i.b 0,.slice i.c 0 (y::u).length (y::u).length 1] tW⟩ /\
  Y04 i.fb i.fc=false/\Z0O [i.b,i.c] [i.fb,i.fc] 0 i.H=true/\Z1n (Zbj [i.b,i.c] (ZeV [i.b,i.c] i.H) 30) i.rest=some (W.A i.x)
def BM.Out(W:BM P gl tW tB)(i:BI W.X):Z00:=match i.s with
 |[]=>Zc7 tW tB i.H i.b i.fb (i.s++W.T i.x)
 |_::_=>Zc6 tW tB i.H i.b i.c i.fb i.fc (i.s++W.T i.x)
def BM.fam(W:BM P gl tW tB):FamM P gl where
 I:=BI W.X
 f:=W.f
 G:=W.Gd
 A:=λi=>i.rest
 H:=λi=>i.H
 R:=λ_=>.tuple []
 O:=W.Out
 body:=W.body
 inj:=by
  rintro⟨x,s,b,c,fb,fc,H,rest⟩ ⟨x',s',b',c',fb',fc',H',rest'⟩ h h' e1 e2
  simp only at e1 e2;subst e1;subst e2
  refine⟨rfl,?_⟩
  simp only[BM.Gd]at h h'
  obtain⟨g,_,hb,h⟩:=h
  obtain⟨g',_,hb',h'⟩:=h'
  rw[hb]at hb'
  simp only[Option.some.injEq,AV.ptr.injEq,and_true]at hb'
  subst hb'
  cases s with
  |nil =>
   cases s' with
   |nil =>
    obtain⟨_,rfl,rfl,a1,a2,a3,a4⟩:=h
    obtain⟨_,rfl,rfl,b1,b2,b3,b4⟩:=h'
    rw[a1]at b1
    simp only[Option.some.injEq,AObj.mk.injEq,true_and,and_true]at b1
    subst b1
    rw[a4]at b4
    have ht:=W.inj x x' g g' (Option.some.inj b4)
    simp only[BM.Out,ht]
   |cons y u =>
    obtain⟨_,_,_,a1,a2,a3,a4⟩:=h
    obtain⟨b1,b2,b3,b4,b5⟩:=h'
    rw[a1]at b2
    simp at b2
  |cons y u =>
   cases s' with
   |nil =>
    obtain⟨a1,a2,a3,a4,a5⟩:=h
    obtain⟨_,_,_,b1,b2,b3,b4⟩:=h'
    rw[a2]at b1
    simp at b1
   |cons y' u' =>
    obtain⟨a1,a2,a3,a4,a5⟩:=h
    obtain⟨b1,b2,b3,b4,b5⟩:=h'
    rw[a2]at b2
    simp only[Option.some.injEq,AObj.mk.injEq,ABody.cells.injEq,List.cons.injEq,AV.slice.injEq,true_and,and_true]at b2
    obtain⟨rfl,rfl,_⟩:=b2
    rw[a1]at b1
    simp only[Option.some.injEq,AObj.mk.injEq,ABody.cells.injEq,true_and,and_true]at b1
    obtain⟨rfl,hb⟩:=b1
    have hs:=ZgX hb
    simp only[List.cons.injEq]at hs
    obtain⟨rfl,rfl⟩:=hs
    rw[a5]at b5
    have ht:=W.inj x x' g g' (Option.some.inj b5)
    simp only[BM.Out,ht]
 ok:=by
  rintro⟨x,s,b,c,fb,fc,H,rest⟩ h
  simp only[BM.Gd]at h
  obtain⟨g,hl,_,h⟩:=h
  cases s with
  |nil =>
   obtain⟨g0,rfl,rfl,a1,a2,a3,a4⟩:=h
   exact Zh0 (W.ok x g [] (λ_=>g0) hl) (by simpa using W.ne x g g0) a1 a2 a3 a4
  |cons y u =>
   obtain⟨a1,a2,a3,a4,a5⟩:=h
   exact ZgZ (W.ok x g (y::u) (λe=>by cases e) hl) (by simp) (by simp) a1 a2 a3 a4 a5
theorem BM.ask0 {W : BM P gl tW tB} {O : Orc} (h : W.fam.Ask O) (x : W.X) {b fb : Nat} {H : Z00} {rest : List AV} (g : W.G x) (g0 : W.G0 x) (hl : (W.T x).length <= W.L) (hb : rest.getLast? = some (.ptr b 0)) (e1 : H[b]? = some ⟨true, fb, 0, .cells [.nptr, .nslice] tW⟩) (e2 : Z0O [b] [fb] 0 H = true) (e3 : Z0X H.length H = true)
  (e4:Z1n (Zbj [b] (ZeV [b] H) 30) rest=some (W.A x)):Z02 P O H W.f rest=some (.tuple [],Zc7 tW tB H b fb (W.T x)) :=
 h ⟨x,[],b,0,fb,0,H,rest⟩ ⟨g,hl,hb,g0,rfl,rfl,e1,e2,e3,e4⟩
theorem BM.ask1 {W : BM P gl tW tB} {O : Orc} (h : W.fam.Ask O) (x : W.X) {s : List UInt8} {b c fb fc : Nat} {H : Z00} {rest : List AV} (g : W.G x) (hs : s ≠ []) (hl : (s ++ W.T x).length <= W.L) (hb : rest.getLast? = some (.ptr b 0)) (e1 : H[c]? = some ⟨true, fc, 0, .cells (byt s) tB⟩)
  (e2:H[b]? = some ⟨true,fb,0,.cells [.ptr b 0,.slice c 0 s.length s.length 1] tW⟩) (e3:Y04 fb fc=false) (e4:Z0O [b,c] [fb,fc] 0 H=true)
  (e5:Z1n (Zbj [b,c] (ZeV [b,c] H) 30) rest=some (W.A x)):Z02 P O H W.f rest=some (.tuple [],Zc6 tW tB H b c fb fc (s++W.T x)):=by
 cases s with
 |nil=>exact absurd rfl hs
 |cons y u=>exact h ⟨x,y::u,b,c,fb,fc,H,rest⟩ ⟨g,hl,hb,e1,e2,e3,e4,e5⟩
end
end Go.Abs
end
namespace Go.Proofs.YtpcpdlfhcahjgaaGreatDoor.lex
open Go.Abs Go.RowKit
section
abbrev tS:TypeId:=50
abbrev tB:TypeId:=5
theorem apB:ZeI Y00 38 9=some (5,1,1):=by kernel_rfl
theorem Z2k(l:List (List UInt8)):(Z0v l).length<=Z2u l:=by
 have e0:Z0v l=Z0P (Z7G l):=rfl
 rw[e0,<- ZbL]
 refine Y0j ?_ (Z7h l)
 generalize Z7G l=m
 cases m with
 |nil=>exact Y0d _
 |cons t r=>rw[Z5M,Y08];have:=Z6W r;simp only[Z2u];omega
theorem Zid(l:List (List UInt8)):Z0s l≠[]:=by simp[Z0s]
theorem ZhG (l : List (List UInt8)) (s : List UInt8) (hl : l.length <= 1000) (hf : Z2u l <= 1048576) (hb : (s ++ Z0s l).length <= 1073741824) :
  Z7R Y00 runLives.gl 1 43 [.rs l.length 1 (l.map AV.str),.ptr 0 0] (BH tS tB s) (.tuple []) (BH tS tB (s++Z0s l)):=by
 obtain⟨O,hO,p1,-⟩:=fams (P:=Y00) (gl:=runLives.gl) [{ I:=Unit,f:=44,G:=λ_=>True,A:=λ_=>[.rs l.length 1 (l.map AV.str)],R:=λ_=>.str (Z0v l),body:=(by kernel_rfl),inj:=(λ_ _ _ _ _=>rfl),ok:=(λ_ _=>⟨rfl,Zcs l hl hf⟩) }] rfl
 have q1:∀H,Z02 Y00 O H 44 [.rs l.length 1 (l.map AV.str)]=some (.str (Z0v l),H):=p1 () trivial
 clear p1
 have h2:=Z2k l
 unfold Z0s at *
 generalize Z0v l=w at *
 generalize l.map AV.str=ls at *
 have hne:w++[10]≠[]:=by simp
 have hlen:(w++[10]).length=w.length+1:=by simp
 refine Z1v (λg=>Y04 g 44) 3 follows Z0a hO Tryz.func43 rfl ?_
 cases s with
 |nil =>
  simp only[BH,List.nil_append]at hb⊢
  repeat' ((conv=>whnf);first|with_reducible refine exI (q1 _) ?_|(refine Y01 (show w.length+1<=9223372036854775807 by omega) ?_)|refine exI (Zc9 apB (xs:=byt (w++[10])) (n:=(w++[10]).length) rfl (by rw[hlen];omega) ⟨by rw[hlen];omega,by rw[hlen];omega⟩) ?_|refine stp ?_|with_reducible apply Z01<;>intro h)
  conv=>whnf
  exact⟨[0,1],rfl,ZmA (s:=w++[10]) hne rfl rfl rfl rfl,rfl,Y05 rfl⟩
 |cons c t =>
  simp only[BH,Y0l]at hb⊢
  simp only[Y08,Y03,Y0J]at hb
  repeat' ((conv=>whnf);first|with_reducible refine exI (q1 _) ?_|(refine Y01 (show w.length+1<=9223372036854775807 by omega) ?_)|refine exI (Z1C apB (xs:=byt (w++[10])) (n:=(w++[10]).length) (cs:=byt (c::t)) rfl rfl (Z1z (by simp[ABody.len])) ((Z1A _).trans (Y0z _).symm) (Z2I _) (by rw[hlen];omega) ⟨by rw[hlen];simp only[Y03];omega,by rw[hlen];simp only[Y03];omega⟩) ?_|refine stp ?_|with_reducible apply Z01<;>intro h)
  conv=>whnf
  exact⟨[0,2],rfl,ZmA (s:=c::(t++(w++[10]))) (List.cons_ne_nil _ _) rfl rfl (by simp;omega) (by rw[<- Z3Z];rfl),rfl,Y05 rfl⟩
def bmLine:BM Y00 runLives.gl tS tB where
 f:=43
 X:=List (List UInt8)
 G:=λx=>x.length<=1000/\Z2u x<=1048576
 G0:=λ_=>True
 A:=λx=>[.rs x.length 1 (x.map AV.str),.ptr 0 0]
 T:=λx=>Z0s x
 L:=1073741824
 body:=by kernel_rfl
 inj:=by
  rintro x y _ _ h
  simp only[List.cons.injEq,AV.rs.injEq,and_true,true_and]at h
  rw[Z3L h.2]
 ne:=λx _ _=>Zid x
 ok:=λx g s _ hb=>ZhG x s g.1 g.2 hb
theorem ZdZ{O:Orc}(h:bmLine.fam.Ask O)(l:List (List UInt8))(g:l.length<=1000/\Z2u l<=1048576){s:List UInt8}{b c fb fc:Nat}{H:Z00}{rest:List AV}(hs:s≠[])(hb:(s++Z0s l).length<=1073741824)(hl:rest.getLast? = some (.ptr b 0))
 (e2:H[b]? = some ⟨true,fb,0,.cells [.ptr b 0,.slice c 0 s.length s.length 1] tS⟩) (e1:H[c]? = some ⟨true,fc,0,.cells (byt s) tB⟩) (e3:Y04 fb fc=false) (e4:Z0O [b,c] [fb,fc] 0 H=true) (e5:Z1n (Zbj [b,c] (ZeV [b,c] H) 30) rest=some [.rs l.length 1 (l.map AV.str),.ptr 0 0]) :
 Z02 Y00 O H 43 rest=some (.tuple [],Zc6 tS tB H b c fb fc (s++Z0s l)):=BM.ask1 (W:=bmLine) h l g hs hb hl e1 e2 e3 e4 e5
theorem ZmU{O:Orc}(h:bmLine.fam.Ask O)(l:List (List UInt8))(g:l.length<=1000/\Z2u l<=1048576){b fb:Nat}{H:Z00}{rest:List AV}(hb:(Z0s l).length<=1073741824)(hl:rest.getLast? = some (.ptr b 0))
 (e1:H[b]? = some ⟨true,fb,0,.cells [.nptr,.nslice] tS⟩) (e2:Z0O [b] [fb] 0 H=true) (e3:Z0X H.length H=true) (e4:Z1n (Zbj [b] (ZeV [b] H) 30) rest=some [.rs l.length 1 (l.map AV.str),.ptr 0 0]) :
 Z02 Y00 O H 43 rest=some (.tuple [],Zc7 tS tB H b fb (Z0s l)):=BM.ask0 (W:=bmLine) h l g trivial hb hl e1 e2 e3 e4
end
section
theorem Z7e:∀(a b:List Int)(x:Nat),Z2o x (a++b)=Z2o x a++Z2o (x+a.length) b
 |[],b,x=>by simp[Z2o]
 |v::a,b,x=>by simp only[Y0l,Z2o,Z7e a b (x+1),Y03,Y0o];rw[show x+1+a.length=x+(a.length+1) by omega]
theorem Zep(l:List Int)(k:Nat)(h:k<l.length):Z2o 0 (l.take (k+1))=Z2o 0 (l.take k)++Z0s [Z23,Z0g k,Z0g l[k]]:=by
 rw[Y0q h,Z7e,Y09,Y0Q (by omega),Y0e]
 simp[Z2o]
theorem Zi9(l:List Int)(k:Nat):(Z2o 0 (l.take k)).length<=(Z2o 0 l).length:=by
 have h:=Z7e (l.take k) (l.drop k) 0
 rw[Y0u]at h
 rw[h,Y08];omega
theorem Z96(t:Nat):∀(a b:List DEv)(c d:List DId)(i:Nat),a.length=c.length->Z3I t i (a++b) (c++d)=Z3I t i a c++Z3I t (i+a.length) b d
 |[],b,c,d,i,h=>by
  have:c=[]:=Y0A h.symm
  subst this;simp[Z3I]
 |e::a,b,[],d,i,h=>by simp at h
 |e::a,b,f::c,d,i,h=>by
  simp only[Y0l,Z3I,Z96 t a b c d (i+1) (by simpa using h),Y03,Y0o];rw[show i+1+a.length=i+(a.length+1) by omega]
theorem Zgz(t:Nat)(l:List DEv)(f:List DId)(k:Nat)(h:k<l.length)(hf:k<f.length):Z3I t 0 (l.take (k+1)) (f.take (k+1))=Z3I t 0 (l.take k) (f.take k)++Z0s [Z0k,idT ⟨(t:Int)+1,k⟩,evT l[k],Z2f l[k] f[k]]:=by
 rw[Y0q h,Y0q hf,Z96 _ _ _ _ _ _ (by rw[Y09,Y09];omega),Y09,Y0Q (by omega),Y0e]
 simp[Z3I]
theorem ZkE(t:Nat)(l:List DEv)(f:List DId)(k:Nat)(h:l.length=f.length):(Z3I t 0 (l.take k) (f.take k)).length<=(Z3I t 0 l f).length:=by
 have h:=Z96 t (l.take k) (l.drop k) (f.take k) (f.drop k) 0 (by rw[Y09,Y09,h])
 rw[Y0u,Y0u]at h
 rw[h,Y08];omega
theorem Z6U:∀(a b:List (List DEv))(c d:List (List DId))(i:Nat),a.length=c.length->Z1q i (a++b) (c++d)=Z1q i a c++Z1q (i+a.length) b d
 |[],b,c,d,i,h=>by
  have:c=[]:=Y0A h.symm
  subst this;simp[Z1q]
 |e::a,b,[],d,i,h=>by simp at h
 |e::a,b,f::c,d,i,h=>by
  simp only[Y0l,Z1q,Z6U a b c d (i+1) (by simpa using h),Y03,Y0o];rw[show i+1+a.length=i+(a.length+1) by omega]
theorem Ze0(l:List (List DEv))(f:List (List DId))(k:Nat)(h:k<l.length)(hf:k<f.length):Z1q 0 (l.take (k+1)) (f.take (k+1))=Z1q 0 (l.take k) (f.take k)++Z3I k 0 l[k] f[k]:=by
 rw[Y0q h,Y0q hf,Z6U _ _ _ _ _ (by rw[Y09,Y09];omega),Y09,Y0Q (by omega),Y0e]
 simp[Z1q]
theorem ZhH(l:List (List DEv))(f:List (List DId))(k:Nat)(h:l.length=f.length):(Z1q 0 (l.take k) (f.take k)).length<=(Z1q 0 l f).length:=by
 have h:=Z6U (l.take k) (l.drop k) (f.take k) (f.drop k) 0 (by rw[Y09,Y09,h])
 rw[Y0u,Y0u]at h
 rw[h,Y08];omega
theorem Z78:∀(a b:List (List DId))(x:Nat),Z1Y x (a++b)=Z1Y x a++Z1Y (x+a.length) b
 |[],b,x=>by simp[Z1Y]
 |v::a,b,x=>by simp only[Y0l,Z1Y,Z78 a b (x+1),Y03,Y0o];rw[show x+1+a.length=x+(a.length+1) by omega]
theorem Zef(l:List (List DId))(k:Nat)(h:k<l.length):Z1Y 0 (l.take (k+1))=Z1Y 0 (l.take k)++Z0s [Z0d,Z0g k,Z0v (l[k].map idT)]:=by
 rw[Y0q h,Z78,Y09,Y0Q (by omega),Y0e]
 simp[Z1Y]
theorem ZhV(l:List (List DId))(k:Nat):(Z1Y 0 (l.take k)).length<=(Z1Y 0 l).length:=by
 have h:=Z78 (l.take k) (l.drop k) 0
 rw[Y0u]at h
 rw[h,Y08];omega
def hdT(g:DGr):List UInt8:=Z0s [Z0j,Z0g g.thr.length]
def t1(g:DGr)(k:Nat):List UInt8:=hdT g++Z2o 0 (g.ini.take k)
def t2(g:DGr)(k:Nat):List UInt8:=t1 g g.ini.length++Z1q 0 (g.thr.take k) (g.frm.take k)
def t3(g:DGr)(k:Nat):List UInt8:=t2 g g.thr.length++Z1Y 0 (g.ord.take k)
theorem ZhJ(g:DGr)(h:g.frm.length=g.thr.length):Z0y g=t3 g g.ord.length++Z0s [Z16]:=by
 unfold Z0y t3 t2 t1 hdT
 have:g.frm.take g.thr.length=g.frm:=by rw[<- h,Y12]
 simp only[Y12,Y0o,this]
end
end Go.Proofs.YtpcpdlfhcahjgaaGreatDoor.lex

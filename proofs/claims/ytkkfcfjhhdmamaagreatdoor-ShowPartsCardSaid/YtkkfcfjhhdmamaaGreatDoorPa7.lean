/-
  Texts of this proof, one behind the other (part 7).
-/
import Derived.Test.YtkkfcfjhhdmamaaGreatDoorPa6
set_option linter.unusedVariables false
set_option linter.unusedSimpArgs false
set_option maxRecDepth 100000
set_option maxHeartbeats 4000000
open Go.Proofs.Tryz renaming prog → Y00,func111 → Y0f,func92 → Y0q,underlying9 → Y0s,underlying28 → Y0x,underlying3 → Y0y,underlying49 → Y0z,underlying61 → Y0A,underlying25 → Y0B
open Nat renaming beq → Y01,le_trans → Y05,le_refl → Y07,zero_le → Y0h,lt_succ_self → Y0t
open Go.Abs.Wk renaming noref → Y02,int → Y0c
open Go.Abs.BodyGe renaming pre → Y03
open Bool renaming and_eq_true → Y04,false_eq_true → Y0j,not_eq_true' → Y0k,and_true → Y0n,or_eq_false_iff → Y0v,or_eq_true → Y0F
open List renaming cons_append → Y06,getElem?_eq_getElem → Y08,getElem?_eq_some_iff → Y09,nil_append → Y0a,getElem?_append_left → Y0b,length_cons → Y0e,length_append → Y0g,getElem?_append_right → Y0i,append_nil → Y0l,length_nil → Y0m,flatten_cons → Y0o,mem_of_getElem? → Y0p,flatten_nil → Y0r,drop_zero → Y0u,mem_cons_self → Y0w,all_eq_true → Y0C,append_assoc → Y0D,all_append → Y0E,eq_nil_of_length_eq_zero → Y0H
open Int renaming le_refl → Y0d
open Option renaming map_some → Y0G
namespace Go.Proofs.YtkkfcfjhhdmamaaGreatDoor.lex
open Go.Abs Go.RowKit
section
open Classical in
theorem ZdI {P : Program} {gl : Z0l} {O : Orc} (hO : Z06 P gl O) {f0 : Nat} {A0 : List AV} {r0 : AV} (hr : plain r0 = true) (hv : ValOK P gl f0 A0 r0) (hb : Z09 P f0 = true) : ∃ O', Z06 P gl O' /\ (∀ H args, Z22 (frz H 30) args = some A0 -> Z03 P O' H f0 args = some (r0, H)) /\
  ∀g,g≠f0->∀args H,Z03 P O' H g args=Z03 P O H g args:=by
 have hz:Z06 P gl (Z9r λf args=>if f=f0/\args=A0 then some r0 else none):=Z1w λf args r h=>by
  split at h
  · rename_i e
    obtain⟨rfl,rfl⟩:=e
    cases h
    exact⟨hr,hv⟩
  ·cases h
 refine⟨Z4f (Z9r λf args=>if f=f0/\args=A0 then some r0 else none) O,Z1T hz hO,λH args ha=>callOr1 hb (Z2u hb ha (if_pos ⟨rfl,rfl⟩)),λg hg args H=>?_⟩
 unfold Z03
 have h1:Z4f (Z9r λf args=>if f=f0/\args=A0 then some r0 else none) O g=O g:=by
  funext args H
  unfold Z4f Z9r
  cases Z22 (frz H 30) args with
  |none=>rfl
  |some fa=>simp only;rw[if_neg (λh=>hg h.1)]
 have hy:yl (Z4f (Z9r λf args=>if f=f0/\args=A0 then some r0 else none) O) H g args=yl O H g args:=by unfold yl;simp only[h1]
 rw[h1,hy]
theorem Z3d{p:Pr}(h:Z0y p=0):Z0x p.threads<=2000/\Z11 p.threads<=32/\p.decls.all dcB=true/\Z17 p.threads=true:=by
 unfold Z0y at h
 split at h
 ·cases h
 · rename_i h1
   split at h
   · rename_i h2
     simp only[Y04]at h2
     exact⟨by omega,by omega,h2.1,h2.2⟩
   ·cases h
end
end Go.Proofs.YtkkfcfjhhdmamaaGreatDoor.lex
section
namespace Go.Proofs.YtkkfcfjhhdmamaaGreatDoor.runLives
open Go.RowKit Go.Abs
theorem Zur:ZbY (ZoV Y00 gl [] 100000 100 6 [] TH.empty)=true:=by kernel_rfl
theorem knownLives:Z06 Y00 gl (Zgh [(6,[])]):=Zi4 follows Z05 Zgg rfl Zur
end Go.Proofs.YtkkfcfjhhdmamaaGreatDoor.runLives
end
section
namespace Go.Abs
open Go.RowKit Go.ChangeShapes Go.WideShapes Go.ChangeAt
def OpensB(P:Program)(N:Nat)(t:TypeId)(Q:List AV->Prop):Prop :=
 ∀(H:Type)(enc:TypeId×Value->H)(W:World)(fuel:Nat)(cs:List Value)(x:DataW H×List MemPlace),fuel<=N->DataW.trod enc P W 0 (λ_=>true) true fuel t cs=some x->∃us,Q us/\LR (Z2Z W) noI us cs
section opens
variable {P:Program}
theorem OpensB.mono{N:Nat}{t:TypeId}{Q Q':List AV->Prop}(h:OpensB P N t Q)(hq:∀u,Q u->Q' u):OpensB P N t Q':=λH enc W fuel cs x hN hx=>let ⟨u,h1,h2⟩:=h H enc W fuel cs x hN hx;⟨u,hq _ h1,h2⟩
theorem OpensB.of{N:Nat}{t:TypeId}{Q:List AV->Prop}(h:Z84 P t Q):OpensB P N t Q:=λH enc W fuel cs x _ hx=>h H enc W fuel cs x hx
theorem OpensB.all{t:TypeId}{Q:List AV->Prop}(h:∀N,OpensB P N t Q):Z84 P t Q:=λH enc W fuel cs x hx=>h fuel H enc W fuel cs x (Y07 _) hx
theorem Z4g{t:TypeId}{Q:List AV->Prop}:OpensB P 0 t Q:=λH enc W fuel cs x hN hx=>by
 obtain rfl:fuel=0:=by omega
 simp[DataW.trod]at hx
theorem Z8d {N : Nat} {t e : TypeId} {z : Nat} {Q : List AV -> Prop} (ht : P.underlying t = some (.slice e)) (hz : P.cellsOf e = z) (hz0 : z ≠ 0) (he : OpensB P N e Q) :
  OpensB P (N+1) t λus=>∃l:List (List AV),(∀u∈l,Q u/\u.length=z)/\us=[.rs l.length z l.flatten]/\l.length<=maxLen:=by
 intro H enc W fuel cs x hN h
 rcases DataW.trod_slice ht h with ⟨rfl,_⟩|⟨a,len,cap,els,rest,n,hfu,rfl,_,_,hlc,hcm,hl,hel,hrest⟩
 ·exact⟨_,⟨[],by simp,rfl,by simp⟩,by simp[LR,VR]⟩
 · rw[hz]at hel
   have each:∀i,i<len->∃ (vs:List Value) (u:List AV),W.cells? 0 (a.add (i*z)) z=some vs/\Q u/\LR (Z2Z W) noI u vs:=by
    intro i hi
    have h1:=hel i hi
    have h2:els[i]? = some els[i]:=Y08 (by omega)
    rw[h2]at h1
    simp only[Option.bind_eq_some_iff]at h1
    obtain⟨vs,h3,h4⟩:=h1
    obtain⟨u,h5,h6⟩:=he H enc W n vs _ (by omega) h4
    exact⟨vs,u,h3,h5,h6⟩
   have hex:∃ (l:List (List AV)) (vss:List (List Value)),l.length=len/\vss.length=len/\∀i,i<len->∃vs u,l[i]? = some u/\vss[i]? = some vs/\W.cells? 0 (a.add (i*z)) z=some vs/\Q u/\LR (Z2Z W) noI u vs:=by
    clear hel hl h hlc hcm hrest
    induction len with
    |zero=>exact⟨[],[],rfl,rfl,λi hi=>by omega⟩
    |succ m ih =>
     obtain⟨l,vss,h1,h2,h3⟩:=ih λi hi=>each i (by omega)
     obtain⟨vs,u,g1,g2,g3⟩:=each m (by omega)
     refine⟨l++[u],vss++[vs],by simp[h1],by simp[h2],λi hi=>?_⟩
     by_cases e:i=m
     · subst e
       exact⟨vs,u,by simp[<- h1],by simp[<- h2],g1,g2,g3⟩
     · obtain⟨vs',u',k1,k2,k3⟩:=h3 i (by omega)
       exact⟨vs',u',by rw[Y0b (by omega)];exact k1,by rw[Y0b (by omega)];exact k2,k3⟩
   obtain⟨l,vss,h1,h2,h3⟩:=hex
   have hll:∀u∈l,Q u/\u.length=z:=by
    intro u hu
    obtain⟨i,hi,rfl⟩:=List.mem_iff_getElem.1 hu
    obtain⟨vs,u',k1,k2,k3,k4,k5⟩:=h3 i (by omega)
    rw[Y08 hi]at k1;simp at k1
    rw[k1]
    exact⟨k4,by rw[<- k5.length,(cells?_get k3).1]⟩
   refine⟨_,⟨l,hll,rfl,by omega⟩,?_⟩
   simp only[LR]
   refine⟨_,_,rfl,?_,rfl⟩
   simp only[VR]
   have hfl:l.flatten.length=l.length*z:=by
    clear h1 h3
    induction l with
    |nil=>simp
    |cons u l ih=>simp only[Y0o,Y0g,Y0e,(hll u (by simp)).2,ih λv hv=>hll v (by simp[hv])];rw[Nat.add_mul];omega
   have hspot:len≠0->a.spot=none:=by
    intro h0
    obtain⟨vs,u,k1,k2,k3,k4,k5⟩:=h3 0 (by omega)
    obtain⟨g1,g2⟩:=cells?_get k3
    have:W.cell? ((a.add (0*z)).add 0)=some vs[0]:=g2 0 _ (Y08 (by omega))
    rw[Nat.zero_mul]at this
    simpa[Addr.add]using World.cell?_spot this
   refine .inr ⟨a,cap,by rw[h1],by omega,hfl,Z37 λk u hu=>?_,λh0=>hspot (by rw[<- h1];exact h0)⟩
   obtain⟨x',g1,g2⟩:=Z7P hz0 (λu hu=>(hll u hu).2) hu
   have hklt:k / z<len:=by rw[<- h1];exact (Y09.1 g1).1
   obtain⟨vs,u',k1,k2,k3,k4,k5⟩:=h3 (k / z) hklt
   rw[g1]at k1;simp at k1;subst k1
   obtain⟨v,e1,e2⟩:=k5.get g2
   refine⟨v,?_,e2⟩
   have hc:=(cells?_get k3).2 _ _ e1
   rw[Zap a (hspot (Nat.ne_of_gt (Nat.lt_of_le_of_lt (Y0h _) hklt)))]at hc
   have hk:a.off+k / z*z+k % z=a.off+k:=by rw[Nat.add_assoc,Nat.mul_comm,Nat.div_add_mod]
   rw[hk]at hc
   unfold Z2Z
   have hlt:a.block<W.heap.size:=by
    cases hq:W.heap[a.block]? with
    |none=>unfold World.cell? at hc;simp only[hq]at hc;cases hc
    |some ob=>exact (Array.getElem?_eq_some_iff.1 hq).1
   rw[if_pos (by exact hlt)];exact hc
def Z3C(P:Program)(N:Nat):List Field->List (List AV->Prop)->Nat->Nat->Prop
 |[],[],off,tot=>off=tot
 |f::fs,Q::Qs,off,tot=>f.offset=off/\OpensB P N f.type Q/\Z3C P N fs Qs (off+P.cellsOf f.type) tot
 |_,_,_,_=>False
theorem Zds {N : Nat} {H : Type} {enc : TypeId × Value -> H} {W : World} {n tot : Nat} {cs : List Value} (hcs : cs.length = tot) (hN : n <= N) : ∀ {fs : List Field} {Qs : List (List AV -> Prop)} {xs : List (DataW H × List MemPlace)} {off : Nat}, Z3C P N fs Qs off tot -> xs.length = fs.length -> off <= tot ->
  (∀(i:Nat)(f:Field),fs[i]? = some f->DataW.trod enc P W 0 (λ_=>true) true n f.type ((cs.drop f.offset).take (P.cellsOf f.type))=xs[i]?)->∃us,FsQ Qs us/\LR (Z2Z W) noI us (cs.drop off)
 |[],[],xs,off,h,hl,ho,hx=>by
  have:off=tot:=h
  subst this
  exact⟨[],rfl,by simp[LR,<- hcs]⟩
 |f::fs,Q::Qs,xs,off,h,hl,ho,hx=>by
  obtain⟨h1,h2,h3⟩:=h
  cases xs with
  |nil=>simp at hl
  |cons x xs =>
   have h0:=hx 0 f rfl
   simp only[List.getElem?_cons_zero]at h0
   obtain⟨u,q1,q2⟩:=h2 H enc W n _ _ hN h0
   have hle:∀(fs:List Field)(Qs:List (List AV->Prop))(o:Nat),Z3C P N fs Qs o tot->o<=tot:=by
    intro fs
    induction fs with
    |nil=>intro Qs o h;cases Qs with|nil=>exact Nat.le_of_eq h|cons _ _=>exact h.elim
    |cons g gs ih=>intro Qs o h;cases Qs with|nil=>exact h.elim|cons _ _=>have:=ih _ _ h.2.2;omega
   obtain⟨us,q3,q4⟩:=Zds hcs hN h3 (by simpa using hl) (hle _ _ _ h3) λi g hg=>by simpa using hx (i+1) g (by simpa using hg)
   refine⟨u++us,⟨u,us,rfl,q1,q3⟩,?_⟩
   rw[h1]at q2
   have:=q2.append q4
   rwa [<- List.drop_drop,List.take_append_drop]at this
 |[],_::_,xs,off,h,hl,ho,hx=>h.elim
 |_::_,[],xs,off,h,hl,ho,hx=>h.elim
theorem Z6R{N:Nat}{t:TypeId}{fs:Array Field}{Qs:List (List AV->Prop)}(ht:P.underlying t=some (.struct fs))(h:Z3C P N fs.toList Qs 0 (P.cellsOf t)):OpensB P (N+1) t (FsQ Qs):=by
 intro H enc W fuel cs x hN hx
 obtain⟨xs,n,hfu,_,hl,hlen,hf⟩:=DataW.trod_struct ht hx
 obtain⟨us,h1,h2⟩:=Zds hl (by omega) h (by simpa using hlen) (Y0h _) λi f hi=>hf i f (by simpa using hi)
 exact⟨us,h1,by simpa using h2⟩
end opens
end Go.Abs
end
namespace Go.Proofs.YtkkfcfjhhdmamaaGreatDoor.lex
open Go.Abs Go.RowKit
section
def QE(us:List AV):Prop:=∃e:Ex,us=e.cells/\okE e/\rgE e
def QEL(us:List AV):Prop:=∃l:List Ex,us=[exA l]/\(okL l/\rgL l)/\l.length<=maxLen
def QI(us:List AV):Prop:=∃n,us=[.int .i64 n]/\(Lit.int .i64 n).wf=true
def QB(us:List AV):Prop:=∃b,us=[.bool b]
def QT(us:List AV):Prop:=∃s:List UInt8,us=[.str s]/\s.length<=maxLen
def QS(us:List AV):Prop:=∃e:St,us=e.cells/\okS e/\rgS e
def QSL(us:List AV):Prop:=∃l:List St,us=[stA l]/\(okSL l/\rgSL l)/\l.length<=maxLen
def QTL(us:List AV):Prop:=∃l:List (List St),us=[.rs l.length 1 (l.map stA)]/\(ZlX l/\ZmF l)/\l.length<=maxLen
def QD(us:List AV):Prop:=∃d:Dc,us=d.cells/\d.name.length<=9223372036854775807/\rgI d.val
def QDL(us:List AV):Prop:=∃l:List Dc,us=[.rs l.length 3 (dcC l)]/\okD l/\∀d∈l,rgI d.val
theorem Zsv{n:Int}(h:(Lit.int .i64 n).wf=true):rgI n:=by
 have h':IntKind.i64.min<=n/\n<=9223372036854775807:=by simpa[Lit.wf]using h
 have h2:IntKind.i64.min = -9223372036854775808:=rfl
 unfold rgI;omega
theorem Zkp:∀l:List (List AV),(∀u∈l,QE u/\u.length=4)->∃m:List Ex,l.flatten=exC m/\l.length=m.length/\okL m/\rgL m
 |[],_=>⟨[],by simp only[exC,Y0r],rfl,trivial,trivial⟩
 |u::l,h=>by
  obtain⟨m,h1,h2,h3,h5⟩:=Zkp l λv hv=>h v (by simp[hv])
  obtain⟨⟨e,rfl,h4⟩,_⟩:=h u (by simp)
  exact⟨e::m,by simp only[Y0o,exC,h1],by simp[h2],by simp only[okL];exact⟨h4.1,h3⟩,by simp only[rgL];exact⟨h4.2,h5⟩⟩
theorem Zj8:∀l:List (List AV),(∀u∈l,QS u/\u.length=7)->∃m:List St,l.flatten=stC m/\l.length=m.length/\okSL m/\rgSL m
 |[],_=>⟨[],by simp only[stC,Y0r],rfl,trivial,trivial⟩
 |u::l,h=>by
  obtain⟨m,h1,h2,h3,h5⟩:=Zj8 l λv hv=>h v (by simp[hv])
  obtain⟨⟨e,rfl,h4⟩,_⟩:=h u (by simp)
  exact⟨e::m,by simp only[Y0o,stC,h1],by simp[h2],by simp only[okSL];exact⟨h4.1,h3⟩,by simp only[rgSL];exact⟨h4.2,h5⟩⟩
theorem ZkM:∀l:List (List AV),(∀u∈l,QD u/\u.length=3)->∃m:List Dc,l.flatten=dcC m/\l.length=m.length/\∀d∈m,d.name.length<=9223372036854775807/\rgI d.val
 |[],_=>⟨[],by simp only[dcC,Y0r],rfl,by simp⟩
 |u::l,h=>by
  obtain⟨m,h1,h2,h3⟩:=ZkM l λv hv=>h v (by simp[hv])
  obtain⟨⟨e,rfl,h4⟩,_⟩:=h u (by simp)
  exact⟨e::m,by simp only[Y0o,dcC,h1],by simp[h2],λd hd=>by rcases List.mem_cons.1 hd with rfl|hd;exact h4;exact h3 d hd⟩
theorem ZiX:∀l:List (List AV),(∀u∈l,QSL u/\u.length=1)->∃m:List (List St),l.flatten=m.map stA/\l.length=m.length/\ZlX m/\ZmF m
 |[],_=>⟨[],by simp only[List.map_nil,Y0r],rfl,trivial,trivial⟩
 |u::l,h=>by
  obtain⟨m,h1,h2,h3,h6⟩:=ZiX l λv hv=>h v (by simp[hv])
  obtain⟨⟨e,rfl,h4,h5⟩,_⟩:=h u (by simp)
  exact⟨e::m,by simp only[Y0o,List.map_cons,h1];rfl,by simp[h2],by simp only[ZlX];exact⟨h4.1,h5,h3⟩,by simp only[ZmF];exact⟨h4.2,h6⟩⟩
theorem fsE(N:Nat)(h:OpensB Y00 N 26 QEL):Z3C Y00 N (match Y00.underlying 28 with|some (.struct fs)=>fs.toList|_=>[]) [QI,QI,QT,QEL] 0 (Y00.cellsOf 28):=by
 rw[Y0x]
 refine⟨rfl,.of (Z33 Y0y),?_⟩
 refine⟨by kernel_rfl,.of (Z33 Tryz.underlying2),?_⟩
 refine⟨by kernel_rfl,.of (Z4V Y0s),?_⟩
 refine⟨by kernel_rfl,h,?_⟩
 unfold Z3C;kernel_rfl
theorem q_e{us:List AV}(h:FsQ [QI,QI,QT,QEL] us):QE us:=by
 obtain⟨a,u1,rfl,⟨n1,rfl,_⟩,b,u2,rfl,⟨n2,rfl,hw⟩,c,u3,rfl,⟨s,rfl,hs⟩,d,u4,rfl,⟨k,rfl,⟨hk,hr⟩,hkl⟩,h3⟩:=h
 have h3:u4=[]:=h3
 subst h3
 exact⟨.mk n1 n2 s k,by simp only[Ex.cells];rfl,by simp only[okE,okN];exact⟨⟨hs,hkl⟩,hk⟩,by simp only[rgE];exact⟨Zsv hw,hr⟩⟩
theorem Zjr:∀N,OpensB Y00 N 28 QE/\OpensB Y00 N 26 QEL
 |0=>⟨Z4g,Z4g⟩
 |N+1=>by
  obtain⟨h1,h2⟩:=Zjr N
  have h3:=fsE N h2
  rw[Y0x]at h3
  refine⟨(Z6R Y0x h3).mono λu hu=>q_e hu,(Z8d Tryz.underlying26 (by kernel_rfl) (show (4:Nat)≠0 by decide) h1).mono ?_⟩
  rintro u ⟨l,hl,rfl,hll⟩
  obtain⟨m,e1,e2,e3,e4⟩:=Zkp l hl
  exact⟨m,by rw[e1,e2];rfl,⟨e3,e4⟩,by rw[<- e2];exact hll⟩
theorem fsS(N:Nat)(h:OpensB Y00 N 47 QSL):Z3C Y00 N (match Y00.underlying 49 with|some (.struct fs)=>fs.toList|_=>[]) [QI,QT,QT,QI,QEL,QSL,QSL] 0 (Y00.cellsOf 49):=by
 rw[Y0z]
 refine⟨rfl,.of (Z33 Y0y),?_⟩
 refine⟨by kernel_rfl,.of (Z4V Y0s),?_⟩
 refine⟨by kernel_rfl,.of (Z4V Y0s),?_⟩
 refine⟨by kernel_rfl,.of (Z33 Y0y),?_⟩
 refine⟨by kernel_rfl,(Zjr N).2,?_⟩
 refine⟨by kernel_rfl,h,?_⟩
 refine⟨by kernel_rfl,h,?_⟩
 unfold Z3C;kernel_rfl
theorem q_s{us:List AV}(h:FsQ [QI,QT,QT,QI,QEL,QSL,QSL] us):QS us:=by
 obtain⟨a,u1,rfl,⟨n1,rfl,_⟩,b,u2,rfl,⟨s1,rfl,hs1⟩,c,u3,rfl,⟨s2,rfl,hs2⟩,d,u4,rfl,⟨n2,rfl,_⟩,e,u5,rfl,⟨x,rfl,⟨hx,hx2⟩,hxl⟩,f,u6,rfl,⟨t,rfl,⟨ht,ht2⟩,htl⟩,g,u7,rfl,⟨k,rfl,⟨hk,hk2⟩,hkl⟩,h3⟩:=h
 have h3:u7=[]:=h3
 subst h3
 exact⟨.mk n1 s1 s2 n2 x t k,by simp only[St.cells,stA];rfl,by simp only[okS,okN];exact⟨⟨hs1,hxl⟩,⟨hs2,htl⟩,hkl,hx,ht,hk⟩,by simp only[rgS];exact⟨hx2,ht2,hk2⟩⟩
theorem ZoA:∀N,OpensB Y00 N 49 QS/\OpensB Y00 N 47 QSL
 |0=>⟨Z4g,Z4g⟩
 |N+1=>by
  obtain⟨h1,h2⟩:=ZoA N
  have h3:=fsS N h2
  rw[Y0z]at h3
  refine⟨(Z6R Y0z h3).mono λu hu=>q_s hu,(Z8d Tryz.underlying47 (by kernel_rfl) (show (7:Nat)≠0 by decide) h1).mono ?_⟩
  rintro u ⟨l,hl,rfl,hll⟩
  obtain⟨m,e1,e2,e3,e4⟩:=Zj8 l hl
  exact⟨m,by rw[e1,e2];rfl,⟨e3,e4⟩,by rw[<- e2];exact hll⟩
theorem fsD:Z3g Y00 (match Y00.underlying 61 with|some (.struct fs)=>fs.toList|_=>[]) [QT,QB,QI] 0 (Y00.cellsOf 61):=by
 rw[Y0A]
 refine⟨rfl,Z4V Y0s,?_⟩
 refine⟨by kernel_rfl,ZhV Tryz.underlying4,?_⟩
 refine⟨by kernel_rfl,Z33 Tryz.underlying2,?_⟩
 unfold Z3g;kernel_rfl
theorem q_d{us:List AV}(h:FsQ [QT,QB,QI] us):QD us:=by
 obtain⟨a,u1,rfl,⟨s,rfl,hs⟩,b,u2,rfl,⟨n1,rfl⟩,c,u3,rfl,⟨n2,rfl,hw⟩,h3⟩:=h
 have h3:u3=[]:=h3
 subst h3
 exact⟨⟨s,n1,n2⟩,rfl,hs,Zsv hw⟩
theorem Zqm:Z84 Y00 22 QDL:=by
 have h3:=fsD
 rw[Y0A]at h3
 refine Z7D (Z9s Tryz.underlying22 (by kernel_rfl) (show (3:Nat)≠0 by decide) (Z7D (Z8c Y0A h3) λu hu=>q_d hu)) ?_
 rintro u ⟨l,hl,rfl,hll⟩
 obtain⟨m,e1,e2,e3⟩:=ZkM l hl
 exact⟨m,by rw[e1,e2],⟨by rw[<- e2];exact hll,λd hd=>(e3 d hd).1⟩,λd hd=>(e3 d hd).2⟩
theorem Zql:Z84 Y00 23 QTL:=by
 refine Z7D (Z9s Tryz.underlying23 (by kernel_rfl) (show (1:Nat)≠0 by decide) (OpensB.all λN=>(ZoA N).2)) ?_
 rintro u ⟨l,hl,rfl,hll⟩
 obtain⟨m,e1,e2,e3,e4⟩:=ZiX l hl
 exact⟨m,by rw[e1,e2],⟨e3,e4⟩,by rw[<- e2];exact hll⟩
theorem fsP:Z3g Y00 (match Y00.underlying 25 with|some (.struct fs)=>fs.toList|_=>[]) [QDL,QTL] 0 (Y00.cellsOf 25):=by
 rw[Y0B]
 refine⟨rfl,Zqm,?_⟩
 refine⟨by kernel_rfl,Zql,?_⟩
 unfold Z3g;kernel_rfl
theorem opensP:ZbD Y00 25 λu=>∃p:Pr,u=p.av/\okP p/\rgP p:=by
 have h3:=fsP
 rw[Y0B]at h3
 refine Z9t (Z6Q Y0B h3) ?_
 rintro u ⟨us,rfl,a,u1,rfl,⟨ds,rfl,hd,hd2⟩,b,u2,rfl,⟨ts,rfl,⟨ht,ht2⟩,htl⟩,h4⟩
 have h4:u2=[]:=h4
 subst h4
 exact⟨⟨ds,ts⟩,rfl,⟨hd,ht,htl⟩,hd2,ht2⟩
end
section
theorem ZoL:ValOK Y00 runLives.gl 6 [] (.bool true):=by
 intro sn W cargs hg hR ha
 refine ((runLives.knownLives 6 [] [] (.bool true) [] (by kernel_rfl) sn noI W cargs hg hR ha).calls Tryz.func6).mono ?_
 rintro e W' ⟨v,sn',ι',rfl,hv,hs⟩
 cases hv.bool
 exact⟨_,rfl,Stq.ext (Stp.q (k:=0) hR hs),by simp[VR]⟩
def one0{gl:Z0l}{f:Nat}{A:List AV}{R:AV}(G:Prop)(hb:Z09 Y00 f=true)(hr:refsL A []=[])(h:G->ValOK Y00 gl f A R):Fam Y00 gl:={ I:=Unit,f:=f,G:=λ_=>G,A:=λ_=>A,R:=λ_=>R,body:=hb,inj:=(λ_ _ _ _ _=>rfl),ok:=(λ_ hG=>⟨hr,h hG⟩) }
end
section
variable {gl:Z0l}
def ZcI(n:Int):Bool:=n==32 || n==9 || n==10 || n==13
theorem Zs1(n:Int):ValOK Y00 gl 106 [.int .u8 n] (.bool (ZcI n)):=by
 refine Z0d follows Z05 Z0h Tryz.func106 rfl ?_
 repeat' ((conv=>whnf);first|refine stp ?_|with_reducible apply Z01<;>intro h)
 all_goals (try simp_all[Z1n,ZcI])
def skip:Bool->List UInt8->Nat
 |_,[]=>0
 |true,c::s=>if c=10 then skip false s+1 else skip true s+1
 |false,c::s=>if ZcI c.toNat then skip false s+1 else if c=47/\s.head? = some 47 then skip true s+1 else 0
theorem Zs0:ZcI ((10:UInt8).toNat:Int)=true:=by decide
theorem Zgm:∀s,skip true s=Z0t (· != 10) s+skip false (s.drop (Z0t (· != 10) s))
 |[]=>by simp[skip,Z0t]
 |c::s=>by
  by_cases hc:c=10
  · subst hc
    rw[Z2m s (by decide)];have:=Zs0;simp[skip]at *;simp[this]
  · have h1 : ((c.toNat : Int) != 10) = true := by
     have:c.toNat≠10:=λe=>hc (by apply UInt8.toNat_inj.1;rw[e];rfl)
     simp;omega
    rw[Z3M s h1];simp only[skip,hc,if_false,List.drop_succ_cons];rw[Zgm s];omega
def Z6u(l:List UInt8):Nat:=l.foldl (λn c=>n*10+(c.toNat-48)) 0
theorem Z98(l:List UInt8)(k:Nat)(h:k<l.length):Z6u (l.take (k+1))=Z6u (l.take k)*10+(l[k].toNat-48):=by
 unfold Z6u
 rw[List.take_succ_eq_append_getElem h,List.foldl_append];rfl
theorem ZvI(n:Int):IntKind.u64.wrap n=n % 18446744073709551616:=by rw[show (18446744073709551616:Int)=2 ^ 64 from rfl];simp[IntKind.wrap,IntKind.signed,IntKind.bits]
def Z12:List UInt8->Nat
 |[]=>0
 |[c]=>if [124,38,61,33,60,43,45,42,94,40,41,123,125,44,59].contains c then 1 else 0
 |c::d::_=>if (d=c/\(c=124\/c=38\/c=61))\/(d=61/\(c=33\/c=60)) then 2 else if [124,38,61,33,60,43,45,42,94,40,41,123,125,44,59].contains c then 1 else 0
def Ztv(l:List UInt8):Bool:=!l.isEmpty&&decide (l.length<=9223372036854775807)&&l.all λc=>Z2d c.toNat
theorem ZkD{l:List UInt8}(h:Ztv l=true):l≠[]/\l.length<=9223372036854775807/\∀c∈l,Z2d c.toNat=true:=by
 simp only[Ztv,Y04,decide_eq_true_eq,Y0C]at h
 exact⟨λe=>by subst e;simp at h,h.1.2,h.2⟩
def Zfc(s:List UInt8):Nat×Nat :=
 let n:=Z0t Z2d s
 if n=0\/(1<n/\s.head? = some 48)\/(match s[n]? with|some c=>Z7m c.toNat || c==95|none=>false)=true\/¬Z6u (s.take n)<9223372036854775808 then (0,0) else (n,Z6u (s.take n))
theorem ZkC{s:List UInt8}(hs:s.length<=9223372036854775807)(h:0<Z0t Z2d s):Ztv (s.take (Z0t Z2d s))=true:=by
 have hl:=Z8N Z2d s
 have ht:s.take (Z0t Z2d s)=s.takeWhile λc=>Z2d c.toNat:=by
  unfold Z0t;exact (List.prefix_iff_eq_take.1 (List.takeWhile_prefix _)).symm
 simp only[Ztv,Y04,decide_eq_true_eq]
 refine⟨⟨?_,?_⟩,?_⟩
 · cases e:s.take (Z0t Z2d s) with
   |nil =>
    have:=congrArg List.length e
    rw[List.length_take]at this;simp only[Y0m]at this;omega
   |cons a b=>rfl
 ·simp;omega
 ·rw[ht];simp[List.all_takeWhile]
structure Tk where
 kind:Nat
 text:List UInt8
 num:Nat
 pos:Nat
def Tk.cells(t:Tk):List AV:=[.int .i64 t.kind,.str t.text,.int .i64 t.num,.int .i64 t.pos]
def Zez:List Tk->List AV
 |[]=>[]
 |t::l=>t.cells++Zez l
def Zaz(s:List UInt8):Option (Nat×Nat×Nat) :=
 if 0<Z1d s then some (if keysL.contains (s.take (Z1d s)) then 2 else 1,Z1d s,0)
 else if 0<(Zfc s).1 then some (3,(Zfc s).1,(Zfc s).2)
 else if 0<Z12 s then some (4,Z12 s,0) else none
def ZlZ:Nat->Nat->List UInt8->Nat ⊕ List Tk
 |0,_,_=>.inr []
 |n+1,pos,s=>if s=[] then .inr [] else match Zaz s with
  |none=>.inl pos
  |some (kind,len,num)=>match ZlZ n (pos+len+skip false (s.drop len)) (s.drop (len+skip false (s.drop len))) with
   | .inl e=>.inl e
   | .inr l=>.inr (⟨kind,s.take len,num,pos⟩::l)
def ZlY(s:List UInt8):Nat ⊕ List Tk:=ZlZ (s.length+1) (skip false s) (s.drop (skip false s))
def Zfi(acc:List Tk):Nat ⊕ List Tk->Nat ⊕ List Tk
 | .inl e=>.inl e
 | .inr l=>.inr (acc++l)
def Zp9(s:List UInt8):AV:=if 65536<s.length then .tuple [.nslice,.agg [.int .i64 3,.int .i64 0]] else match ZlY s with
 | .inl e=>.tuple [.nslice,.agg [.int .i64 4,.int .i64 e]]
 | .inr l=>.tuple [.rs (l.length+1) 4 (Zez (l++[⟨5,[],0,s.length⟩])),.agg [.int .i64 0,.int .i64 0]]
theorem ZjW(x:Nat ⊕ List Tk):Zfi [] x=x:=by cases x<;>rfl
theorem Zm5(s:List UInt8):Z1d s<=s.length:=by
 cases s with
 |nil=>simp[Z1d]
 |cons c s=>simp only[Z1d];split;exact Z8N _ _;omega
theorem Zi7{p:Prop}[Decidable p]{a b:Nat×Nat}{m:Nat}(h1:a.1<=m)(h2:b.1<=m):(if p then a else b).1<=m:=by split<;>assumption
theorem Zqs(s:List UInt8):(Zfc s).1<=s.length:=by
 unfold Zfc;exact Zi7 (Y0h _) (Z8N _ _)
theorem ZmC(s:List UInt8):Z12 s<=s.length:=by
 match s with
 |[]=>simp[Z12]
 |[c]=>simp only[Z12];split<;>simp
 |c::d::t=>simp only[Z12,Y0e];split;omega;split<;>omega
theorem Zi6(acc:List Tk)(t:Tk)(x:Nat ⊕ List Tk):Zfi acc (match x with | .inl e=>.inl e | .inr l=>.inr (t::l))=Zfi (acc++[t]) x:=by
 cases x with
 |inl e=>rfl
 |inr l=>simp[Zfi]
theorem aT:Zhl Y00 78 78=some (82,4,40):=by kernel_rfl
theorem Z5p:∀l:List Tk,(Zez l).length=l.length*4
 |[]=>rfl
 |t::l=>by simp only[Zez,Y0g,Z5p l,Y0e];simp[Tk.cells];omega
theorem Z1P:∀(l:List Tk)(t:Tk),Zez (l++[t])=Zez l++t.cells
 |[],t=>by simp[Zez]
 |a::l,t=>by simp only[Y06,Zez,Z1P l t,Y0D]
theorem Z2P{α : Type}(l:List α)(t : α):(l++[t]).length=l.length+1:=by simp
theorem Z27:∀l:List Tk,refsL (Zez l) []=[]
 |[]=>rfl
 |t::l=>Z27 l
theorem Zgb:∀l:List Tk,(Zez l).all lit=true
 |[]=>rfl
 |t::l=>by simp only[Zez,Y0E,Zgb l,Y0n];rfl
theorem ZiN(l:List UInt8)(hd:∀c∈l,Z2d c.toNat=true):∀k,k<=l.length->Z6u (l.take k)<10 ^ k
 |0,_=>by simp[Z6u]
 |k+1,h=>by
  have h1:=ZiN l hd k (by omega)
  have h2:=Z98 l k (by omega)
  have h3:=hd l[k] (List.getElem_mem _)
  simp only[Z2d,Y04,decide_eq_true_eq]at h3
  rw[h2,Nat.pow_succ];omega
def ZeD(l:List UInt8):AV:=if (1<l.length/\l.head? = some 48)\/19<l.length then .tuple [.int .i64 0,.bool false] else .tuple [.int .i64 (IntKind.i64.wrap (Z6u l)),.bool (decide ((Z6u l:Int)<9223372036854775808))]
theorem ZmS(l:List UInt8)(h0:l≠[])(hl:l.length<=65536)(hd:∀c∈l,Z2d c.toNat=true):ValOK Y00 gl 125 [.str l] (ZeD l):=by
 obtain⟨c,t,rfl⟩:∃c t,l=c::t:=by cases l with|nil=>exact absurd rfl h0|cons c t=>exact⟨c,t,rfl⟩
 have hc0:(c::t)[0]? = some c:=rfl
 have u0:=Zpw c 48 (by decide)
 have d1:decide (((c::t).length:Int)>1)=decide (1<(c::t).length):=by simp;omega
 have d2:decide (((c::t).length:Int)>19)=decide (19<(c::t).length):=by simp;omega
 refine Z0d follows Z05 Zhw Tryz.func125 rfl ?_
 generalize hl':c::t=l at *
 have hh:l.head? = some c:=by rw[<- hl'];rfl
 by_cases hbad:(1<l.length/\c=48)\/19<l.length
 · have e:ZeD l = .tuple [.int .i64 0,.bool false]:=by unfold ZeD;rw[hh];rw[if_pos];simpa using hbad
   rw[e]
   clear e
   repeat' ((conv=>whnf);first|with_reducible refine ixS 0 rfl hc0 ?_|refine stp ?_|with_reducible apply Z01<;>intro h)
   all_goals (first|rfl|(exfalso;simp_all;done)|(exfalso;simp_all;omega))
 · have e:ZeD l = .tuple [.int .i64 (IntKind.i64.wrap (Z6u l)),.bool (decide ((Z6u l:Int)<9223372036854775808))]:=by unfold ZeD;rw[hh];rw[if_neg];simpa using hbad
   rw[e]
   have hl19:¬19<l.length:=λh=>hbad (.inr h)
   have d2':decide ((l.length:Int)>19)=false:=by rw[d2];simpa using hl19
   repeat' ((conv=>whnf);first|with_reducible refine ixS 0 rfl hc0 ?_|refine stp ?_|with_reducible apply Z01<;>intro h)
   all_goals (first|(exfalso;simp_all;done)|(exfalso;simp_all;omega)|skip)
   all_goals (conv=>whnf)
   all_goals (
    refine⟨Nat,(λk=>k<=l.length),(λk=>[(0,.str l),(4,.int .u64 (Z6u (l.take k))),(5,.int .i64 k)]),(λ_=>[]),(λk=>l.length-k),⟨0,Y0h _,FgL.mk0 rfl ⟨Y02 rfl,Y0c rfl,Y0c rfl,trivial⟩⟩,?_⟩
    intro k hk
    by_cases hlt:k<l.length
    · have e1:decide ((k:Int)<(l.length:Int))=true:=by simpa using hlt
      have hx:l[k]? = some l[k]:=by simp[hlt]
      have hdk:48<=l[k].toNat/\l[k].toNat<=57:=by have:=hd l[k] (List.getElem_mem hlt);simp[Z2d]at this;omega
      have hm1:=Z98 l k hlt
      have hm2:=ZiN l hd (k+1) hlt
      have hm3:10 ^ (k+1)<=10 ^ 19:=Nat.pow_le_pow_right (by decide) (by omega)
      repeat' ((conv=>whnf);first|with_reducible refine ixS _ rfl hx ?_|refine stp ?_|with_reducible apply Z01<;>intro h)
      conv=>whnf
      have e:IntKind.u64.wrap (IntKind.u64.wrap (↑(Z6u (List.take k l))*10)+IntKind.u64.wrap (IntKind.u8.wrap (↑l[k].toNat-48)))=(Z6u (l.take (k+1)):Int):=by
       simp only[ZvI,IntKind.wrap_u8];omega
      first|rw[e]|skip
      exact⟨k+1,hlt,by show l.length-(k+1)<l.length-k;omega,FgL.mk0 rfl ⟨Y02 rfl,Y0c rfl,Y0c rfl,trivial⟩⟩
    · have e1:decide ((k:Int)<(l.length:Int))=false:=by simpa using hlt
      have hk':k=l.length:=by omega
      repeat' ((conv=>whnf);first|refine stp ?_|with_reducible apply Z01<;>intro h)
      rw[hk',List.take_length];try rfl)
end
section
structure Wt where
 kind:Int
 text:List UInt8
 num:Int
def Tk.w(t:Tk):Wt:=⟨(t.kind:Nat),t.text,(t.num:Nat)⟩
def ZsZ(n pos:Nat)(s:List UInt8):Nat ⊕ List Tk:=ZlZ n (pos+skip false s) (s.drop (skip false s))
def Lx(s:List UInt8)(l:List Wt):Prop:=∀n pos,s.length<n->∃l',l'.map Tk.w=l/\ZsZ n pos s = .inr l'
theorem Lx.all{s:List UInt8}{l:List Wt}(h:Lx s l):∃l',l'.map Tk.w=l/\ZlY s = .inr l':=by
 obtain⟨l',h1,h2⟩:=h (s.length+1) 0 (Y0t _)
 refine⟨l',h1,?_⟩
 unfold ZsZ at h2
 rw[Nat.zero_add]at h2
 exact h2
theorem ZjG:Lx [] []:=by
 intro n pos hn
 obtain⟨n,rfl⟩:∃m,n=m+1:=⟨n-1,by simp at hn;omega⟩
 refine⟨[],rfl,?_⟩
 unfold ZsZ
 simp only[List.drop_nil,ZlZ,if_true]
theorem lx_bl{c:UInt8}{r:List UInt8}{l:List Wt}(hc:ZcI c.toNat=true)(h:Lx r l):Lx (c::r) l:=by
 intro n pos hn
 obtain⟨l',h1,h2⟩:=h n (pos+1) (by simp at hn;omega)
 refine⟨l',h1,?_⟩
 unfold ZsZ at h2⊢
 have e:skip false (c::r)=skip false r+1:=by simp only[skip];rw[if_pos hc]
 rw[e,List.drop_succ_cons,<- h2]
 congr 1
 omega
theorem ZjD:∀(n:Nat){r:List UInt8}{l:List Wt},Lx r l->Lx (List.replicate n 32++r) l
 |0,r,l,h=>h
 |n+1,r,l,h=>by
  rw[List.replicate_succ,Y06]
  exact lx_bl (by decide) (ZjD n h)
theorem Zgw{t r:List UInt8}{k num:Nat}{l:List Wt}(ht:∃c t',t=c::t'/\ZcI c.toNat=false/\c≠47)(h1:Zaz (t++r)=some (k,t.length,num))(hr:Lx r l):Lx (t++r) (⟨(k:Nat),t,(num:Nat)⟩::l):=by
 intro n pos hn
 obtain⟨c,t',rfl,hb,h47⟩:=ht
 obtain⟨n,rfl⟩:∃m,n=m+1:=⟨n-1,by omega⟩
 obtain⟨l',e1,e2⟩:=hr n (pos+(c::t').length) (by simp at hn⊢;omega)
 have h0:skip false ((c::t')++r)=0:=by
  simp only[Y06,skip]
  rw[hb,if_neg (by decide),if_neg (λh=>h47 h.1)]
 have hd:((c::t')++r).drop (c::t').length=r:=List.drop_left
 refine⟨⟨k,((c::t')++r).take (c::t').length,num,pos⟩::l',by rw[List.map_cons,e1,List.take_left];rfl,?_⟩
 unfold ZsZ at e2⊢
 rw[h0,Y0u,show pos+0=pos from rfl]
 simp only[ZlZ]
 rw[if_neg (by simp),h1]
 simp only[hd]
 rw[show ((c::t')++r).drop ((c::t').length+skip false r)=r.drop (skip false r) by rw[<- List.drop_drop,hd],e2]
def clB(b:UInt8):Bool:=!Z4G b.toNat && !(b==124 || (b==38 || b==61))
def cl(r:List UInt8):Prop:=∀b,r.head? = some b->clB b=true
theorem Zad{c:UInt8}{r:List UInt8}(h:clB c=true):cl (c::r):=λb hb=>by cases hb;exact h
theorem Zh9{b:UInt8}(h:clB b=true):Z4G b.toNat=false/\b≠124/\b≠38/\b≠61:=by
 unfold clB at h
 simp only[Y04,Y0k,Y0v,beq_eq_false_iff_ne]at h
 exact⟨h.1,h.2.1,h.2.2.1,h.2.2.2⟩
theorem Z9g{p:Int->Bool}:∀{t:List UInt8}{r:List UInt8},(∀c∈t,p c.toNat=true)->(∀b,r.head? = some b->p b.toNat=false)->Z0t p (t++r)=t.length
 |[],[],h1,h2=>rfl
 |[],b::r,h1,h2=>by rw[Y0a,Z2m _ (h2 b rfl)];rfl
 |c::t,r,h1,h2=>by
  rw[Y06,Z3M _ (h1 c (Y0w ..)),Z9g (λx hx=>h1 x (List.mem_cons_of_mem _ hx)) h2];rfl
theorem ZaS{p:Int->Bool}:∀{t:List UInt8},Z0t p t=t.length->∀c∈t,p c.toNat=true
 |[],h,c,hc=>by cases hc
 |a::t,h,c,hc=>by
  cases ha:p a.toNat with
  |false=>rw[Z2m _ ha]at h;simp at h
  |true =>
   rw[Z3M _ ha]at h
   rcases List.mem_cons.1 hc with rfl|hc
   ·exact ha
   ·exact ZaS (by simpa using h) c hc
theorem ZjS{n:Int}(h:Z7m n=true):ZcI n=false/\n≠47:=by
 unfold Z7m at h
 unfold ZcI
 simp only[Y0F,Y04,decide_eq_true_eq]at h
 simp only[Y0v,beq_eq_false_iff_ne]
 omega
theorem ZkF{n:Int}(h:Z2d n=true):ZcI n=false/\n≠47/\Z7m n=false/\Z4G n=true:=by
 have h0:=h
 unfold Z2d at h
 unfold ZcI Z7m Z4G
 rw[h0]
 simp only[Y04,decide_eq_true_eq]at h
 simp only[Y0v,beq_eq_false_iff_ne,Bool.and_eq_false_iff,decide_eq_false_iff_not,Bool.or_true,Bool.true_or,and_true]
 omega
def wdW(t:List UInt8):Wt:=⟨1,t,0⟩
def kwW(t:List UInt8):Wt:=⟨2,t,0⟩
def sgW(t:List UInt8):Wt:=⟨4,t,0⟩
def nmW(n:Nat):Wt:=⟨3,Z4r n,(n:Nat)⟩
theorem Zg0{t r:List UInt8}(h0:t≠[])(h:Z1d t=t.length)(hr:cl r):Zaz (t++r)=some (if keysL.contains t then 2 else 1,t.length,0)/\∃c t',t=c::t'/\ZcI c.toNat=false/\c≠47:=by
 obtain⟨c,t',rfl⟩:∃c t',t=c::t':=by cases t with|nil=>exact absurd rfl h0|cons c t=>exact⟨c,t,rfl⟩
 simp only[Z1d]at h
 split at h
 · rename_i hl
   have h1:=ZaS h
   have h2:=Z9g (r:=r) h1 (λb hb=>(Zh9 (hr b hb)).1)
   have h3:Z1d ((c::t')++r)=(c::t').length:=by
    rw[Y06]at h2⊢
    simp only[Z1d]
    rw[if_pos hl,h2]
   refine⟨?_,c,t',rfl,(ZjS hl).1,λe=>(ZjS hl).2 (by rw[e];rfl)⟩
   unfold Zaz
   rw[h3,if_pos (by simp),List.take_left]
 ·simp at h
theorem Zcg{t r:List UInt8}{l:List Wt}(h:Z0Z t=true)(hc:cl r)(hr:Lx r l):Lx (t++r) (wdW t::l):=by
 unfold Z0Z at h
 simp only[Y04,Y0k,beq_iff_eq]at h
 have h0:t≠[]:=λe=>by rw[e]at h;simp at h
 obtain⟨h1,h2⟩:=Zg0 h0 h.2.1 hc
 rw[h.2.2]at h1
 exact Zgw h2 h1 hr
theorem Z7I{t r:List UInt8}{l:List Wt}(h:keysL.contains t=true)(hc:cl r)(hr:Lx r l):Lx (t++r) (kwW t::l):=by
 have h3:∀t∈keysL,t≠[]/\Z1d t=t.length:=by decide
 obtain⟨h0,h4⟩:=h3 t (by simpa using h)
 obtain⟨h1,h2⟩:=Zg0 h0 h4 hc
 rw[h]at h1
 exact Zgw h2 h1 hr
theorem ZtZ(n:Nat)(h:n<10):(UInt8.ofNat (48+n)).toNat=48+n:=by simp;omega
theorem ZkH:∀(n:Nat),∀c∈Z4r n,Z2d c.toNat=true:=by
 intro n
 induction n using Nat.strongRecOn with
 |_ n ih =>
  intro c hc
  rw[Z4r]at hc
  have hd:∀m,m<10->Z2d ((UInt8.ofNat (48+m)).toNat:Int)=true:=λm hm=>by
   rw[ZtZ m hm];unfold Z2d;simp;omega
  split at hc
  ·rw[List.mem_singleton.1 hc];exact hd n (by assumption)
  · rcases List.mem_append.1 hc with hc|hc
    ·exact ih (n / 10) (by omega) c hc
    ·rw[List.mem_singleton.1 hc];exact hd _ (Nat.mod_lt _ (by decide))
theorem ZiP(l:List UInt8)(c:UInt8):Z6u (l++[c])=Z6u l*10+(c.toNat-48):=by
 unfold Z6u;rw[List.foldl_append];rfl
theorem Zry:∀(n:Nat),Z6u (Z4r n)=n:=by
 intro n
 induction n using Nat.strongRecOn with
 |_ n ih =>
  rw[Z4r]
  split
  · rename_i h
    have:=ZtZ n h
    simp only[Z6u,List.foldl_cons,List.foldl_nil]
    omega
  · rw[ZiP,ih (n / 10) (by omega),ZtZ _ (Nat.mod_lt _ (by decide))]
    omega
theorem ZnN:∀(n:Nat),1<=n->(Z4r n).head? ≠ some 48:=by
 intro n
 induction n using Nat.strongRecOn with
 |_ n ih =>
  intro h1
  rw[Z4r]
  split
  · rename_i h
    intro e
    simp only[List.head?_cons,Option.some.injEq]at e
    have:=ZtZ n h
    rw[e]at this
    have h3:(48:UInt8).toNat=48:=rfl
    omega
  · have h2:=ih (n / 10) (by omega) (by omega)
    have h3:=Za7 (n / 10)
    cases e:Z4r (n / 10) with
    |nil=>exact absurd e h3
    |cons a l=>rw[e]at h2;exact h2
theorem Zm2{n:Nat}(h:1<(Z4r n).length):1<=n:=by
 refine Nat.pos_of_ne_zero λe=>?_
 subst e
 rw[Z4r,if_pos (by decide)]at h
 simp at h
theorem ZoG{n:Nat}{r:List UInt8}{l:List Wt}(h:n<9223372036854775808)(hc:cl r)(hr:Lx r l):Lx (Z4r n++r) (nmW n::l):=by
 have hd:=ZkH n
 have hp:=Za7 n
 have hv:=Zry n
 have h1:¬(1<(Z4r n).length/\(Z4r n).head? = some 48):=λh=>ZnN n (Zm2 h.1) h.2
 unfold nmW
 generalize Z4r n=t at *
 obtain⟨c,t',rfl⟩:∃c t',t=c::t':=by cases t with|nil=>exact absurd rfl hp|cons c t=>exact⟨c,t,rfl⟩
 obtain⟨g1,g2,g3,g4⟩:=ZkF (hd c (Y0w ..))
 have hw:∀n:Int,Z2d n=true->Z4G n=true:=λn h=>(ZkF h).2.2.2
 have hs:Z0t Z2d ((c::t')++r)=(c::t').length:=Z9g hd λb hb=>by
  cases hx:Z2d b.toNat with
  |false=>rfl
  |true=>have:=(Zh9 (hc b hb)).1;rw[hw _ hx]at this;cases this
 have h3:Z1d ((c::t')++r)=0:=by
  rw[Y06]
  simp only[Z1d]
  rw[if_neg (by rw[g3];decide)]
 have hg:((c::t')++r)[(c::t').length]? = r.head?:=by rw[Y0i (Y07 _),Nat.sub_self];cases r<;>rfl
 have h4:Zfc ((c::t')++r)=((c::t').length,n):=by
  unfold Zfc
  simp only[hs]
  rw[List.take_left,hv,if_neg]
  rintro (h|h|h|h)
  ·simp at h
  ·exact h1 ⟨h.1,by simpa using h.2⟩
  · rw[hg]at h
    cases r with
    |nil=>cases h
    |cons b r =>
     have h6:(Z7m b.toNat || b==95)=true:=h
     have:=(Zh9 (hc b rfl)).1
     unfold Z4G at this
     simp only[Y0v]at this
     rw[this.1.1,Bool.false_or,beq_iff_eq]at h6
     have h7:=this.2
     rw[h6]at h7
     exact absurd h7 (by decide)
  ·exact h (by omega)
 refine Zgw ⟨c,t',rfl,g1,λe=>g2 (by rw[e];rfl)⟩ ?_ hr
 unfold Zaz
 rw[h3,h4,if_neg (by decide),if_pos (by simp)]
def Zor:List (List UInt8):=[[124],[38],[61],[33],[60],[43],[45],[42],[94],[40],[41],[123],[125],[44],[59],[124,124],[38,38],[61,61],[33,61],[60,61]]
theorem ZmB:∀t∈Zor,∃c t',t=c::t'/\Z7m c.toNat=false/\Z2d c.toNat=false/\ZcI c.toNat=false/\c≠47:=by
 intro t ht
 have h:∀t∈Zor,t≠[]/\Z7m (t.headD 0).toNat=false/\Z2d (t.headD 0).toNat=false/\ZcI (t.headD 0).toNat=false/\t.headD 0≠47:=by decide
 obtain⟨h0,h1⟩:=h t ht
 cases t with
 |nil=>exact absurd rfl h0
 |cons c t'=>exact⟨c,t',rfl,h1⟩
theorem ZjE{t r:List UInt8}{l:List Wt}(ht:t∈Zor)(hs:Z12 (t++r)=t.length)(hr:Lx r l):Lx (t++r) (sgW t::l):=by
 obtain⟨c,t',rfl,g1,g2,g3,g4⟩:=ZmB t ht
 refine Zgw ⟨c,t',rfl,g3,g4⟩ ?_ hr
 have h3:Z1d ((c::t')++r)=0:=by
  rw[Y06]
  simp only[Z1d]
  rw[if_neg (by rw[g1];decide)]
 have h4:(Zfc ((c::t')++r)).1=0:=by
  unfold Zfc
  simp only[Y06,Z2m _ g2]
  simp
 unfold Zaz
 rw[h3,h4,hs,if_neg (by decide),if_neg (by decide),if_pos (by simp)]
theorem ZsW{t r:List UInt8}{l:List Wt}(ht:t∈Zor)(hc:∀b,r.head? = some b->b≠124/\b≠38/\b≠61)(hr:Lx r l):Lx (t++r) (sgW t::l):=by
 refine ZjE ht ?_ hr
 cases r with
 |nil=>rw[Y0l];revert ht;revert t;decide
 |cons b r =>
  obtain⟨h1,h2,h3⟩:=hc b rfl
  have h:∀t∈Zor,(t.length=2/\Z12 t=2)\/(t.length=1/\[124,38,61,33,60,43,45,42,94,40,41,123,125,44,59].contains (t.headD 0)=true):=by decide
  rcases h t ht with ⟨e1,e2⟩|⟨e1,e2⟩
  · match t,e1,e2 with
    |[c,d],_,e2=>exact e2
  · match t,e1,e2 with
    |[c],_,e2 =>
     show Z12 (c::b::r)=1
     simp only[Z12]
     have e2:[124,38,61,33,60,43,45,42,94,40,41,123,125,44,59].contains c=true:=e2
     rw[if_neg,if_pos e2]
     rintro (⟨h4,h5⟩|⟨h4,_⟩)
     · subst h4
       rcases h5 with h5|h5|h5
       ·exact h1 h5
       ·exact h2 h5
       ·exact h3 h5
     ·exact h3 h4
theorem ZjF{t r:List UInt8}{l:List Wt}(ht:t∈Zor)(hc:cl r)(hr:Lx r l):Lx (t++r) (sgW t::l):=ZsW ht (λb hb=>(Zh9 (hc b hb)).2) hr
theorem lx_s1{c:UInt8}{r:List UInt8}{l:List Wt}(ht:c=40\/c=41\/c=123\/c=125\/c=44\/c=59\/c=45\/c=43)(hr:Lx r l):Lx (c::r) (sgW [c]::l):=by
 have h:[c]∈Zor/\¬(c=124\/c=38\/c=61\/c=33\/c=60)/\[124,38,61,33,60,43,45,42,94,40,41,123,125,44,59].contains c=true:=by
  rcases ht with rfl|rfl|rfl|rfl|rfl|rfl|rfl|rfl<;>decide
 refine ZjE (t:=[c]) h.1 ?_ hr
 cases r with
 |nil=>show Z12 [c]=1;simp only[Z12];rw[if_pos h.2.2]
 |cons b r =>
  show Z12 (c::b::r)=1
  simp only[Z12]
  rw[if_neg,if_pos h.2.2]
  rintro (⟨h4,h5⟩|⟨_,h5⟩)
  ·exact h.2.1 (by rcases h5 with h5|h5|h5<;>simp[h5])
  ·exact h.2.1 (by rcases h5 with h5|h5<;>simp[h5])
end
section
def Z8Z(p:Int×List Wt)(n:Int):List Wt:=if lev p.1<n then sgW [40]::(p.2++[sgW [41]]) else p.2
def tkC(op num:Int)(name:List UInt8)(ks:List (Int×List Wt)):List Wt :=
 if op=1 then [nmW num.toNat] else if op=2 then [wdW name] else match ks with
  |[]=>[]
  |[a]=>sgW (Z46 op)::Z8Z a 10
  |a::b::_=>Z8Z a (lev op)++(sgW (Z46 op)::Z8Z b (lev op+1))
mutual
def tkE:Ex->List Wt
 | .mk op num name kids=>tkC op num name (tkL kids)
def tkL:List Ex->List (Int×List Wt)
 |[]=>[]
 |e::l=>(e.op,tkE e)::tkL l
end
inductive XRt:Ex->Prop
 |num (n:Nat) (h:n<9223372036854775808):XRt (.mk 1 (n:Nat) [] [])
 |reg (w:List UInt8) (h:Z0Z w=true):XRt (.mk 2 0 w [])
 |un (op:Int) (h:op=3\/op=4) (a:Ex) (ha:XRt a):XRt (.mk op 0 [] [a])
 |bin (op:Int) (h1:5<=op) (h2:op<=16) (a b:Ex) (ha:XRt a) (hb:XRt b):XRt (.mk op 0 [] [a,b])
theorem ZiG:∀(n:Nat)(e:Ex),Z0C e<=n->Z0p e=true->rgE e->XRt e
 |0,.mk _ _ _ _,hn,_,_=>by simp only[Z0C]at hn;omega
 |n+1,.mk op num name kids,hn,hr,hg=>by
  simp only[Z0C]at hn
  simp only[Z0p,ZeC,Y04,beq_iff_eq,Y0F,decide_eq_true_eq]at hr
  obtain⟨⟨h1,h2,h3,h4,h5⟩,h6⟩:=hr
  simp only[rgE]at hg
  unfold Z69 at h1
  split at h1
  · have hk:kids=[]:=Y0H (by omega)
    subst hk
    rename_i ho
    rcases ho with rfl|rfl
    · have h3:name=[]:=by simpa using h3
      subst h3
      have hg1:=hg.1.2
      obtain⟨m,rfl⟩:=Int.eq_ofNat_of_zero_le h4
      exact XRt.num m (by omega)
    · have h5:num=0:=by simpa using h5
      subst h5
      exact XRt.reg name (by simpa using h2.symm)
  split at h1
  · rename_i ho
    match kids,h1 with
    |[a],_ =>
     have h5:num=0:=by rcases h5 with h5|h5<;>omega
     have h3:name=[]:=by rcases h3 with h3|h3;omega;exact h3
     subst h3 h5
     simp only[rightL,Y0n]at h6
     simp only[rgL]at hg
     simp only[sizeL]at hn
     exact XRt.un op ho a (ZiG n a (by omega) h6 hg.2.1)
    |[],h1=>simp at h1
    |a::b::l,h1=>simp at h1;omega
  split at h1
  · rename_i ho
    match kids,h1 with
    |[a,b],_ =>
     have h5:num=0:=by rcases h5 with h5|h5<;>omega
     have h3:name=[]:=by rcases h3 with h3|h3;omega;exact h3
     subst h3 h5
     simp only[rightL,Y0n,Y04]at h6
     simp only[rgL]at hg
     simp only[sizeL]at hn
     exact XRt.bin op ho.1 ho.2 a b (ZiG n a (by omega) h6.1 hg.2.1) (ZiG n b (by omega) h6.2 hg.2.2.1)
    |[],h1=>simp at h1
    |[a],h1=>simp at h1
    |a::b::c::l,h1=>simp at h1;omega
  ·omega
def hd3(t:List UInt8):Prop:=∃c t',t=c::t'/\(c≠124/\c≠38/\c≠61)
theorem hd3.app{t:List UInt8}(h:hd3 t)(r:List UInt8):hd3 (t++r):=by
 obtain⟨c,t',rfl,h⟩:=h
 exact⟨c,t'++r,rfl,h⟩
theorem hd3.at{t:List UInt8}(h:hd3 t):∀b,t.head? = some b->b≠124/\b≠38/\b≠61:=by
 obtain⟨c,t',rfl,h⟩:=h
 intro b hb
 cases hb
 exact h
theorem Znk{t:List UInt8}(h:Z0Z t=true):hd3 t:=by
 unfold Z0Z at h
 simp only[Y04,Y0k,beq_iff_eq]at h
 cases t with
 |nil=>simp at h
 |cons c t =>
  have h1:=h.2.1
  simp only[Z1d]at h1
  split at h1
  · rename_i hl
    exact⟨c,t,rfl,λe=>by subst e;exact absurd hl (by decide),λe=>by subst e;exact absurd hl (by decide),λe=>by subst e;exact absurd hl (by decide)⟩
  ·simp at h1
theorem ZqS(n:Nat):hd3 (Z4r n):=by
 have h:=ZkH n
 have h0:=Za7 n
 cases e:Z4r n with
 |nil=>exact absurd e h0
 |cons c t =>
  rw[e]at h
  have hl:=h c (Y0w ..)
  exact⟨c,t,rfl,λe=>by subst e;exact absurd hl (by decide),λe=>by subst e;exact absurd hl (by decide),λe=>by subst e;exact absurd hl (by decide)⟩
theorem ZjZ{op n:Int}{t:List UInt8}(h:hd3 t):hd3 (brk (op,t) n):=by
 unfold brk;split
 ·exact⟨40,_,rfl,by decide,by decide,by decide⟩
 ·exact h
theorem Zii(r:List UInt8):cl (32::r):=Zad (by decide)
theorem ZrI(r:List UInt8):cl (41::r):=Zad (by decide)
theorem Zvv(r:List UInt8):cl (44::r):=Zad (by decide)
theorem Zvu(r:List UInt8):cl (59::r):=Zad (by decide)
theorem Zu2(r:List UInt8):cl (40::r):=Zad (by decide)
theorem ZsD{op:Int}(h1:5<=op)(h2:op<=16):Z46 op∈Zor:=by
 have:op=5\/op=6\/op=7\/op=8\/op=9\/op=10\/op=11\/op=12\/op=13\/op=14\/op=15\/op=16:=by omega
 rcases this with rfl|rfl|rfl|rfl|rfl|rfl|rfl|rfl|rfl|rfl|rfl|rfl<;>decide
theorem Zgy{op n:Int}{t:List UInt8}{k:List Wt}(h:∀r l,cl r->Lx r l->Lx (t++r) (k++l)){r:List UInt8}{l:List Wt}(hr:cl r)(hl:Lx r l):Lx (brk (op,t) n++r) (Z8Z (op,k) n++l):=by
 unfold brk Z8Z
 simp only
 split
 · simp only[Y06,Y0D,Y0a]
   exact lx_s1 (.inl rfl) (h _ _ (ZrI _) (lx_s1 (.inr (.inl rfl)) hl))
 ·exact h _ _ hr hl
theorem Zfe{e:Ex}(he:XRt e):hd3 (wrE e)/\∀r l,cl r->Lx r l->Lx (wrE e++r) (tkE e++l):=by
 induction he with
 |num n h =>
  simp only[wrE,tkE,wrC,tkC,if_true,Zd2,Int.toNat_natCast]
  exact⟨ZqS n,λr l hr hl=>ZoG h hr hl⟩
 |reg w h =>
  simp only[wrE,tkE,wrC,tkC,if_true]
  rw[if_neg (by decide),if_neg (by decide)]
  exact⟨Znk h,λr l hr hl=>Zcg h hr hl⟩
 |un op h a ha ih =>
  have e1:wrE (.mk op 0 [] [a])=Z46 op++brk (a.op,wrE a) 10:=by
   simp only[wrE,wrC,wrL]
   rw[if_neg (by omega),if_neg (by omega)]
  have e2:tkE (.mk op 0 [] [a])=sgW (Z46 op)::Z8Z (a.op,tkE a) 10:=by
   simp only[tkE,tkC,tkL]
   rw[if_neg (by omega),if_neg (by omega)]
  rw[e1,e2]
  have hb:hd3 (brk (a.op,wrE a) 10):=ZjZ ih.1
  rcases h with rfl|rfl
  · refine⟨⟨45,_,rfl,by decide,by decide,by decide⟩,λr l hr hl=>?_⟩
    show Lx (45::(brk (a.op,wrE a) 10++r)) (sgW [45]::(Z8Z (a.op,tkE a) 10++l))
    exact lx_s1 (by decide) (Zgy ih.2 hr hl)
  · refine⟨⟨33,_,rfl,by decide,by decide,by decide⟩,λr l hr hl=>?_⟩
    show Lx ([33]++(brk (a.op,wrE a) 10++r)) (sgW [33]::(Z8Z (a.op,tkE a) 10++l))
    exact ZsW (by decide) (hb.app r).at (Zgy ih.2 hr hl)
 |bin op h1 h2 a b ha hb iha ihb =>
  have e1:wrE (.mk op 0 [] [a,b])=brk (a.op,wrE a) (lev op)++(32::(Z46 op++(32::brk (b.op,wrE b) (lev op+1)))):=by
   simp only[wrE,wrC,wrL]
   rw[if_neg (by omega),if_neg (by omega)]
  have e2:tkE (.mk op 0 [] [a,b])=Z8Z (a.op,tkE a) (lev op)++(sgW (Z46 op)::Z8Z (b.op,tkE b) (lev op+1)):=by
   simp only[tkE,tkC,tkL]
   rw[if_neg (by omega),if_neg (by omega)]
  rw[e1,e2]
  refine⟨(ZjZ iha.1).app _,λr l hr hl=>?_⟩
  simp only[Y0D,Y06]
  exact Zgy iha.2 (Zii _) (lx_bl (by decide) (ZjF (ZsD h1 h2) (Zii _) (lx_bl (by decide) (Zgy ihb.2 hr hl))))
end
end Go.Proofs.YtkkfcfjhhdmamaaGreatDoor.lex
section
namespace Go.Abs
open Go.RowKit
def Zqn(fs:List Nat)(H:Z00):Z00:=kil (λ_ o=>!mem o.fam fs) 0 H
def WkZ(fs:List Nat)(H:Z00)(m:List Nat)(u u2:AV):Prop:=Wk m u u2\/frz (Zqn fs H) 30 u=some u2
def SlotsGeZ(fs:List Nat)(H:Z00)(m:List Nat)(t:Tr):List (Nat×AV)->Prop
 |[]=>True
 |(n,u2)::l=>(onO (Z1r t n) λu=>WkZ fs H m u u2)/\SlotsGeZ fs H m t l
theorem SlotsGeZ.get{fs:List Nat}{H:Z00}{m:List Nat}{t:Tr}:∀{l:List (Nat×AV)},SlotsGeZ fs H m t l->∀n u2,Z25 n l=some u2->∃u,Z1r t n=some u/\WkZ fs H m u u2
 |[],h,n,u2,e=>by simp[Z25]at e
 |(k,v)::l,h,n,u2,e=>by
  simp only[Z25]at e
  split at e
  · rename_i hk
    have:=Nat.eq_of_beq_eq_true hk;subst this
    simp at e;subst e
    exact Z02 h.1
  ·exact h.2.get n u2 e
def BodyGeZ(fs:List Nat)(H:Z00)(m:List Nat):ABody->ABody->Prop
 | .cells cs ty,.cells cs2 ty2=>ty=ty2/\cs2.length<=cs.length/\∀(i:Nat)(c2:AV),cs2[i]? = some c2->∃c,cs[i]? = some c/\WkZ fs H m c c2
 |b,b2=>BodyGe m b b2
def HpGeZ(fs:List Nat)(H:Z00)(m:List Nat):List Nat->Z00->Nat->Prop
 |[],[],_=>True
 |j::l,o2::H2,i=>(onO H[j]? λo=>o.alive=true/\o2.alive=true/\o2.fam=i/\o2.sh=o.sh/\BodyGeZ fs H m o.body o2.body)/\HpGeZ fs H m l H2 (i+1)
 |_,_,_=>False
theorem HpGeZ.get{fs:List Nat}{H:Z00}{m:List Nat}:∀{l:List Nat}{H2:Z00}{i:Nat},HpGeZ fs H m l H2 i->H2.length=l.length/\∀b,b<l.length->∃j o o2,l[b]? = some j/\H[j]? = some o/\H2[b]? = some o2/\o.alive=true/\o2.alive=true/\o2.fam=i+b/\o2.sh=o.sh/\BodyGeZ fs H m o.body o2.body
 |[],[],i,h=>⟨rfl,λb hb=>by simp at hb⟩
 |j::l,o2::H2,i,h=>by
  obtain⟨h1,h2⟩:=h
  obtain⟨o,ho,e1,e2,e3,e4,e5⟩:=Z02 h1
  obtain⟨k1,k2⟩:=h2.get
  refine⟨by simp[k1],λb hb=>?_⟩
  cases b with
  |zero=>exact⟨j,o,o2,rfl,ho,rfl,e1,e2,e3,e4,e5⟩
  |succ b =>
   obtain⟨j',o',o2',x1,x2,x3,x4,x5,x6,x7,x8⟩:=k2 b (by simpa using hb)
   exact⟨j',o',o2',by simpa using x1,x2,by simpa using x3,x4,x5,by omega,x7,x8⟩
 |[],_::_,i,h=>h.elim
 |_::_,[],i,h=>h.elim
theorem FgS.giveup {k : Nat} {fs m : List Nat} {tm tm2 : Tr} {H H2 : Z00} (htr : ∀ n u2, Z1r tm2 n = some u2 -> ∃ u, Z1r tm n = some u /\ WkZ fs H m u u2) (htx : ∀ n, tex tm2 n = true -> tex tm n = true)
  (hp:HpGeZ fs H m m H2 0) (hfams:Z0F (m.map (Z0O H))=true) (hkp:ZeB k 0 m=true) (hd:(m.map (Z0O H)).all (λf=>!mem f fs)=true):FgS k tm H tm2 H2:=by
 intro sn ι W a hR ht
 obtain⟨hl,hg⟩:=hp.get
 generalize hHQ:Zqn fs H=HQ
 have inQ:∀(b:Nat)(o:AObj),HQ[b]? = some o->o.alive=true->H[b]? = some o/\mem o.fam fs=true:=λb o hb hal=>by
  rw[<- hHQ]at hb
  obtain⟨o0,g1,_,_,g4⟩:=Z2Q hb
  obtain⟨rfl,g5⟩:=g4 hal
  exact⟨g1,by simpa using g5⟩
 have hle:∀a v,sn a=some v->snO sn ι HQ W a=some v:=λa v hv=>by
  unfold snO
  split
  ·exact (hR.snap a v hv).2.1
  ·exact hv
 have hcell:∀a v,snO sn ι HQ W a=some v->W.cell? a=some v:=λa v hv=>by
  unfold snO at hv
  split at hv
  ·exact hv
  ·exact (hR.snap a v hv).2.1
 have hobjQ:∀(b:Nat)(o:AObj) p,HQ[b]? = some o->o.alive=true -> ι b=some p->OR sn ι W o.body p:=λb o p hb hal hp=>hR.obj b o p (inQ b o hb hal).1 hal hp
 have hz:∀(u u2:AV)(v:Value),WkZ fs H m u u2->VR sn ι u v->VR (snO sn ι HQ W) (iot m ι) u2 v:=λu u2 v h hv=>by
  rcases h with h|h
  ·exact Z1k ⟨hle,λ_ _ h=>h⟩ _ _ (h _ _ _ hv)
  · rw[hHQ]at h
    exact Zhq (Z5E hobjQ ⟨hle,λ_ _ h=>h⟩ (λb o p hb hal hp off v hv=>by
     unfold snO;rw[if_pos ⟨b,o,p,hb,hal,hp,rfl⟩];exact hv) 30 u u2 v h hv)
 have at2:∀{b:Nat}{o2:AObj}{p:Place},H2[b]? = some o2->iot m ι b=some p->∃j o,m[b]? = some j/\H[j]? = some o /\ ι j=some p/\o.alive=true/\o2.alive=true/\o2.fam=b/\o2.sh=o.sh/\BodyGeZ fs H m o.body o2.body:=by
  intro b o2 p hb hp
  obtain⟨j,o,o2',x1,x2,x3,x4,x5,x6,x7,x8⟩:=hg b (by rw[<- hl];exact (Y09.1 hb).1)
  rw[hb]at x3;simp at x3;subst x3
  simp only[iot,x1]at hp
  exact⟨j,o,x1,x2,hp,x4,x5,by omega,x7,x8⟩
 have hout:∀{b j:Nat}{o:AObj},m[b]? = some j->H[j]? = some o->mem o.fam fs=false:=λ{b j o} x1 x2=>by
  have hm:o.fam∈m.map (Z0O H):=List.mem_map.2 ⟨j,Y0p x1,by simp[Z0O,x2]⟩
  have:=Y0C.1 hd _ hm
  simpa using this
 have hR2:R (snO sn ι HQ W) (iot m ι) H2 W:=by
  refine⟨λb=>⟨λhb=>?_,λ⟨p,hp⟩=>?_⟩,λb p hp=>?_,λb o2 p hb ha hp=>?_,λb b' o o' p p' hb hb' ha ha' hp hp' e=>?_,λad v hv=>?_,λb o2 p hb hp e=>?_⟩
  · obtain⟨j,o,o2,x1,x2,_⟩:=hg b (by omega)
    obtain⟨p,hp⟩:=hR.place x2
    exact⟨p,by simp only[iot,x1];exact hp⟩
  · unfold iot at hp
    split at hp
    ·rename_i j hj;rw[hl];exact (Y09.1 hj).1
    ·cases hp
  · unfold iot at hp
    split at hp
    ·exact hR.blk _ p hp
    ·cases hp
  · obtain⟨j,o,x1,x2,x3,x4,x5,x6,x7,x8⟩:=at2 hb hp
    have hor:=hR.obj j o p x2 x4 x3
    generalize o.body=b1 at x8 hor
    generalize o2.body=b2 at x8
    unfold BodyGeZ at x8
    split at x8
    · obtain⟨rfl,h1,h2⟩:=x8
      simp only[OR]at hor⊢
      obtain⟨arr,g1,g2,g3,g4⟩:=hor
      refine⟨arr,g1,g2,by omega,λi c2 hc=>?_⟩
      obtain⟨c,e1,e2⟩:=h2 i c2 hc
      obtain⟨v,e3,e4⟩:=g4 i c e1
      exact⟨v,e3,hz _ _ _ e2 e4⟩
    ·exact Z0W ⟨hle,λ_ _ h=>h⟩ rfl (x8.or hor)
  · obtain⟨j,q,x1,x2,x3,x4,x5,x6,x7,x8⟩:=at2 hb hp
    obtain⟨j',q',y1,y2,y3,y4,y5,y6,y7,y8⟩:=at2 hb' hp'
    have hs:=hR.sep j j' q q' p p' x2 y2 x4 y4 x3 y3 e
    have:b=b':=Z5z (l:=m.map (Z0O H)) (x:=q.fam) hfams (by simp[x1,Z0O,x2]) (by simp[y1,Z0O,y2,hs.1])
    subst this
    exact⟨by rw[x6,y6],by rw[x7,y7];exact hs.2⟩
  · refine⟨ZrN (hcell ad v hv),hcell ad v hv,λb o2 p hb ha hp hne=>?_⟩
    obtain⟨j,o,x1,x2,x3,x4,_⟩:=at2 hb hp
    unfold snO at hv
    split at hv
    · rename_i hex
      obtain⟨b',o',p',z1,z2,z3,z4⟩:=hex
      obtain⟨y1,y2⟩:=inQ b' o' z1 z2
      have:=(hR.sep j b' o o' p p' x2 y1 x4 z2 x3 z3 (hne.trans z4.symm)).1
      have h5:=hout x1 x2
      rw[this,y2]at h5;cases h5
    ·exact (hR.snap ad v hv).2.2 j o p x2 x4 x3 hne
  · obtain⟨j,o,x1,x2,x3,x4,x5,x6,x7,x8⟩:=at2 hb hp
    exact hR.shz j o p x2 x3 (by omega)
 refine⟨snO sn ι HQ W,iot m ι,⟨hR2,hle,λb o2 p hb ha hp=>?_,λ_ _ _=>rfl,Y07 _,rfl,rfl,rfl,λad v hv=>?_,λb p hb hp=>by have:=Zc8 hkp b hb;simp only[Nat.zero_add]at this;simp only[iot,this];exact hp⟩,λt u2 hu=>?_,λt hx=>ht.2 t (htx t hx)⟩
 · obtain⟨j,o,x1,x2,x3,x4,_⟩:=at2 hb hp
   exact .inr ⟨j,o,p,x2,x4,x3,rfl⟩
 · unfold snO at hv
   split at hv
   · rename_i hex
     obtain⟨b,o,p,x1,x2,x3,x4⟩:=hex
     exact .inr (.inr ⟨b,o,p,(inQ b o x1 x2).1,x2,x3,x4⟩)
   ·exact .inl hv
 · obtain⟨u,h1,h2⟩:=htr t u2 hu
   obtain⟨v,h3,h4⟩:=ht.1 t u h1
   exact⟨v,h3,hz _ _ _ h2 h4⟩
theorem FgLK.mkZ{k:Nat}{t0 tm:Tr}{H:Z00}{l:List (Nat×AV)}{H2:Z00}(fs m:List Nat)(hk:ZeB k 0 m=true)(h:ZeS t0 tm=true)(h1:SlotsGeZ fs H m tm l)(h2:HpGeZ fs H m m H2 0)(h3:Z0F (m.map (Z0O H))=true)(h4:(m.map (Z0O H)).all (λf=>!mem f fs)=true):FgLK k t0 tm H l H2:=by
 unfold FgLK;rw[h]
 exact .inr (FgS.giveup (fs:=fs) (m:=m) (λn u2 e=>h1.get n u2 (Z6U _ _ _ _ e)) (λn e=>Z8K h n (by rwa [Z8Q]at e)) h2 h3 hk h4)
theorem BodyGe.z{fs:List Nat}{H:Z00}{m:List Nat}{b b2:ABody}(h:BodyGe m b b2):BodyGeZ fs H m b b2:=by
 unfold BodyGeZ
 split
 · obtain⟨h1,h2,h3⟩:=h
   exact⟨h1,h2,λi c2 hc=>let ⟨c,e1,e2⟩:=h3 i c2 hc;⟨c,e1,.inl e2⟩⟩
 ·exact h
end Go.Abs
end
section
namespace Go.Abs
open Go.RowKit
theorem Zdy {P : Program} {gl : Z0l} {f k : Nat} {Hs Hs' : Z00} {args : List AV} {r : AV} (hM : MemQ P gl k f args Hs r Hs') (hl : Hs.length = k) (hl' : Hs'.length = k)
  (hev:∀(b:Nat)(o o':AObj),Hs[b]? = some o->Hs'[b]? = some o'->o'.fam=o.fam/\o'.sh=o.sh/\(o'.alive=true->o.alive=true)):Z1b P gl f args Hs r Hs':=by
 intro sn ι W vargs hg hR ha
 refine (hM sn ι W vargs hg hR ha).mono ?_
 rintro e W' ⟨v,sn',ι',rfl,hv,hst⟩
 have hι : ∀b p,ι b=some p -> ι' b=some p:=λb p hp=>hst.keep b p (by have:=(hR.dom b).2 ⟨p,hp⟩;omega) hp
 have hι2:∀b p,ι' b=some p -> ι b=some p:=λb p hp=>by
  obtain⟨q,hq⟩:=(hR.dom b).1 (by have:=(hst.rel.dom b).2 ⟨p,hp⟩;omega)
  have:=hι b q hq
  rw[hp]at this;cases this;exact hq
 refine⟨v,sn',ι',rfl,hv,hst.rel,⟨hst.le,hι⟩,λb p hp=>.inl (hι2 b p hp),hst.frame,hst.size,hst.os,hst.tape,hst.output,hst.sfresh,λb o hb=>?_⟩
 have hb':b<Hs'.length:=by have:=(Y09.1 hb).1;omega
 obtain⟨e1,e2,e3⟩:=hev b o _ hb (Y08 hb')
 exact⟨_,Y08 hb',e1,e2,e3⟩
end Go.Abs
end
namespace Go.Proofs.YtkkfcfjhhdmamaaGreatDoor.lex
open Go.Abs Go.RowKit
section
variable {gl:Z0l}
structure Tq where
 kind:Int
 text:List UInt8
 num:Int
 pos:Int
def Tq.cells(t:Tq):List AV:=[.int .i64 t.kind,.str t.text,.int .i64 t.num,.int .i64 t.pos]
def tqC:List Tq->List AV
 |[]=>[]
 |t::l=>t.cells++tqC l
theorem tq4:∀(l:List Tq)(i:Nat)(h:i<l.length),tk 4 ((tqC l).drop (i*4))=some l[i].cells
 |t::l,0,h=>by simp only[Nat.zero_mul,Y0u,tqC];rfl
 |t::l,i+1,h=>by
  have e:(i+1)*4=4+i*4:=by omega
  have e2:(tqC (t::l)).drop ((i+1)*4)=(tqC l).drop (i*4):=by rw[e,<- List.drop_drop];rfl
  rw[e2,tq4 l i (by simpa using h)];rfl
structure Ps where
 i:Nat
 err:Int
 at_:Int
 op:Int
def psH(T:List Tq)(s:Ps):Z00:=[⟨true,0,0,.cells [.rs T.length 4 (tqC T),.int .i64 (s.i:Nat),.int .i64 s.err,.int .i64 s.at_,.int .i64 s.op] 80⟩]
structure PsOK (T:List Tq) (s:Ps):Prop where
 lt:s.i<T.length
 few:T.length<=1000000
 last:∀i,(h:i<T.length)->T[i].kind≠5->i+1<T.length
 lo : -(s.i:Int)<=s.op
 hi:s.op<=200
def Z15(T:List Tq)(s:Ps):Tq:=T[s.i]?.getD ⟨5,[],0,0⟩
def Z1t(s:Ps)(e a:Int):Ps:=if s.err=0 then { s with err:=e,at_:=a } else s
def isF(T:List Tq)(s:Ps)(w:List UInt8):Bool:=s.err==0&&(((Z15 T s).kind==4 || (Z15 T s).kind==2)&&(Z15 T s).text==w)
def upB(w:List UInt8):Bool:=w==[40] || w==[123]
def dnB(w:List UInt8):Bool:=w==[41] || w==[125]
def Z1l(T:List Tq)(s:Ps)(w:List UInt8):Bool:=isF T s w && !(upB w&&s.op==200)
def Z0s(T:List Tq)(s:Ps)(w:List UInt8):Ps:=if isF T s w=true then (if upB w=true/\s.op=200 then Z1t s 3 (Z15 T s).pos else { s with i:=s.i+1,op:=if upB w=true then s.op+1 else if dnB w=true then s.op-1 else s.op }) else s
theorem Z0X{T:List Tq}{s:Ps}(h:s.i<T.length):Z15 T s=T[s.i]:=by unfold Z15;rw[Y08 h];rfl
def isQ(f:Nat):Bool:=false
theorem Zt3{T:List Tq}{s:Ps}(hs:PsOK T s)(w:List UInt8):MemQ Y00 gl 1 78 [.ptr 0 0,.str w] (psH T s) (.bool (isF T s w)) (psH T s):=by
 have hx:=tq4 T s.i hs.lt
 rw[<- Z0X hs.lt]at hx
 have hlt:=hs.lt
 have hfew:=hs.few
 unfold isF
 generalize Z15 T s=t at *
 obtain⟨k,tx,nm,ps⟩:=t
 obtain⟨i,err,at_,op⟩:=s
 simp only[Tq.cells]at hx hlt⊢
 simp only[psH]
 refine Z1J isQ 3 follows Z05 Z0h Tryz.func78 rfl ?_
 cases e1:err==0<;>cases e2:k==4<;>cases e3:k==2
 all_goals repeat' ((conv=>whnf);first|refine exI hx ?_|(with_reducible refine ixJ i rfl ?_ ?_;focus omega)|refine stp ?_|with_reducible apply Z01<;>intro h)
 all_goals (try (conv=>whnf))
 all_goals exact⟨[0],rfl,⟨hbp,trivial⟩,rfl,Wk.bool (by first|rfl|(simp;done))⟩
theorem Z4T{f:Nat}{T:List Tq}{s s':Ps}{args:List AV}{r:AV}(h:MemQ Y00 gl 1 f args (psH T s) r (psH T s')):Z1b Y00 gl f args (psH T s) r (psH T s'):=Zdy h rfl rfl λb o o' h h'=>by
 match b,h,h' with
 |0,h,h'=>cases h;cases h';exact⟨rfl,rfl,λ_=>rfl⟩
 |b+1,h,h'=>cases h
def isT(f:Nat):Bool:=Y01 f 78
theorem ZeP{T:List Tq}{s:Ps}(hs:PsOK T s)(w:List UInt8):MemQ Y00 gl 1 43 [.ptr 0 0,.str w] (psH T s) (.bool (Z1l T s w)) (psH T (Z0s T s w)):=by
 have hx:=tq4 T s.i hs.lt
 rw[<- Z0X hs.lt]at hx
 have hlt:=hs.lt
 have hfew:=hs.few
 have hlo:=hs.lo
 have hhi:=hs.hi
 obtain⟨O,hO,⟨p1,-⟩,-⟩:=Z13 (P:=Y00) (gl:=gl) [{ I:=Unit,f:=78,G:=λ_=>True,A:=λ_=>[.ptr 0 0,.str w],H:=λ_=>psH T s,R:=λ_=>.bool (isF T s w),O:=λ_=>psH T s,body:=(by kernel_rfl),inj:=(λ_ _ _ _ _ _=>⟨rfl,rfl⟩),ok:=λ_ _=>Z4T (Zt3 hs w) }] [] rfl
 have q1:=p1 () trivial
 simp only at q1
 clear p1
 have herr:isF T s w=true->s.err=0:=λh=>by unfold isF at h;simp at h;exact h.1
 unfold Z1l Z0s upB dnB Z1t
 generalize isF T s w=b at *
 generalize Z15 T s=t at *
 obtain⟨k,tx,nm,ps⟩:=t
 obtain⟨i,err,at_,op⟩:=s
 simp only[Tq.cells]at hx hlt hlo hhi herr⊢
 simp only[psH]at q1⊢
 have wa:IntKind.i64.wrap ((i:Int)+1)=((i+1:Nat):Int):=Z4B (by omega)
 have wb:IntKind.i64.wrap (op+1)=op+1:=Z2M (by omega) (by omega)
 have wc:IntKind.i64.wrap (op-1)=op-1:=Z2M (by omega) (by omega)
 refine Z1J isT 3 follows Z05 hO Tryz.func43 rfl ?_
 cases b with
 |false =>
  repeat' ((conv=>whnf);first|refine exI q1 ?_|refine stp ?_|with_reducible apply Z01<;>intro h)
  all_goals (try (conv=>whnf))
  all_goals exact⟨[0],rfl,⟨hbp,trivial⟩,rfl,Wk.bool rfl⟩
 |true =>
  have herr:=herr rfl
  subst herr
  have hw:(w=[40]\/w=[123])\/(w=[41]\/w=[125])\/((w==[40])=false/\(w==[123])=false/\(w==[41])=false/\(w==[125])=false):=by
   by_cases h1:w=[40]
   ·exact .inl (.inl h1)
   by_cases h2:w=[123]
   ·exact .inl (.inr h2)
   by_cases h3:w=[41]
   ·exact .inr (.inl (.inl h3))
   by_cases h4:w=[125]
   ·exact .inr (.inl (.inr h4))
   exact .inr (.inr ⟨by simpa using h1,by simpa using h2,by simpa using h3,by simpa using h4⟩)
  rcases hw with hw|hw|⟨g1,g2,g3,g4⟩
  · by_cases h5:op=200
    · subst h5
      rcases hw with rfl|rfl
      all_goals repeat' ((conv=>whnf);first|refine exI q1 ?_|refine exI hx ?_|(with_reducible refine exW wa ?_)|(with_reducible refine exW wb ?_)|(with_reducible refine exW wc ?_)|(with_reducible refine ixJ i rfl ?_ ?_;focus omega)|refine stp ?_|with_reducible apply Z01<;>intro h)
      all_goals (try (conv=>whnf))
      all_goals exact⟨[0],rfl,⟨hbp,trivial⟩,rfl,Wk.bool rfl⟩
    · have e5:(op==200)=false:=by simpa using h5
      simp only[h5,and_false,if_false,e5,Bool.and_false]
      rcases hw with rfl|rfl
      all_goals repeat' ((conv=>whnf);first|refine exI q1 ?_|refine exI hx ?_|(with_reducible refine exW wa ?_)|(with_reducible refine exW wb ?_)|(with_reducible refine exW wc ?_)|(with_reducible refine ixJ i rfl ?_ ?_;focus omega)|refine stp ?_|with_reducible apply Z01<;>intro h)
      all_goals (try (conv=>whnf))
      all_goals exact⟨[0],rfl,⟨hbp,trivial⟩,rfl,Wk.bool rfl⟩
  · rcases hw with rfl|rfl
    all_goals repeat' ((conv=>whnf);first|refine exI q1 ?_|refine exI hx ?_|(with_reducible refine exW wa ?_)|(with_reducible refine exW wb ?_)|(with_reducible refine exW wc ?_)|(with_reducible refine ixJ i rfl ?_ ?_;focus omega)|refine stp ?_|with_reducible apply Z01<;>intro h)
    all_goals (try (conv=>whnf))
    all_goals exact⟨[0],rfl,⟨hbp,trivial⟩,rfl,Wk.bool rfl⟩
  · simp only[g1,g2,g3,g4,Bool.or_self,Y0j,false_and,if_false,if_true,Bool.false_and,Bool.not_false,Y0n]
    repeat' ((conv=>whnf);first|refine exI q1 ?_|refine exI hx ?_|(with_reducible refine exW wa ?_)|(with_reducible refine exW wb ?_)|(with_reducible refine exW wc ?_)|(with_reducible refine ixJ i rfl ?_ ?_;focus omega)|refine stp ?_|with_reducible apply Z01<;>intro h)
    all_goals (try (conv=>whnf))
    all_goals exact⟨[0],rfl,⟨hbp,trivial⟩,rfl,Wk.bool rfl⟩
theorem Z6C{T:List Tq}{s:Ps}(hs:PsOK T s){w:List UInt8}(hk:isF T s w=true->(Z15 T s).kind≠5):PsOK T (Z0s T s w):=by
 unfold Z0s
 split
 · rename_i h
   split
   · unfold Z1t;split
     ·exact⟨hs.lt,hs.few,hs.last,hs.lo,hs.hi⟩
     ·exact hs
   · rename_i h2
     have h3:=hk h
     rw[Z0X hs.lt]at h3
     have hlo:=hs.lo
     have hhi:=hs.hi
     refine⟨hs.last _ hs.lt h3,hs.few,hs.last,?_,?_⟩
     · show -((s.i+1:Nat):Int)<=_
       simp only
       split
       ·omega
       ·split<;>omega
     · simp only
       split
       · rename_i h4
         have:s.op≠200:=λe=>h2 ⟨h4,e⟩
         omega
       ·split<;>omega
 ·exact hs
theorem Z52{T:List Tq}{s:Ps}{w:List UInt8}(h:isF T s w=true):(Z15 T s).kind≠5:=by
 unfold isF at h
 simp only[Y04,Y0F,beq_iff_eq]at h
 omega
def Z0z(T:List Tq)(s:Ps)(w:List UInt8):Ps:=if Z1l T s w=true then Z0s T s w else Z1t (Z0s T s w) 5 (Z15 T (Z0s T s w)).pos
def Z96(T:List Tq)(s:Ps):Bool:=s.err==0&&(Z15 T s).kind==1
def Z4J(T:List Tq)(s:Ps):List UInt8:=if Z96 T s=true then (Z15 T s).text else []
def Z23(T:List Tq)(s:Ps):Ps:=if Z96 T s=true then { s with i:=s.i+1 } else Z1t s 5 (Z15 T s).pos
end
section
variable {gl:Z0l}
theorem Z8W{T:List Tq}{s:Ps}(hs:PsOK T s)(e a:Int):PsOK T (Z1t s e a):=by
 unfold Z1t;split
 ·exact⟨hs.lt,hs.few,hs.last,hs.lo,hs.hi⟩
 ·exact hs
theorem Z5B{T:List Tq}{s:Ps}(hs:PsOK T s)(w:List UInt8):PsOK T (Z0z T s w):=by
 have h:=Z6C hs (w:=w) Z52
 unfold Z0z;split
 ·exact h
 ·exact Z8W h _ _
theorem Z8E{T:List Tq}{s:Ps}(hs:PsOK T s):PsOK T (Z23 T s):=by
 unfold Z23;split
 · rename_i h
   unfold Z96 at h
   simp only[Y04,beq_iff_eq]at h
   have h3:(Z15 T s).kind≠5:=by omega
   rw[Z0X hs.lt]at h3
   have hlo:=hs.lo
   exact⟨hs.last _ hs.lt h3,hs.few,hs.last,by show -((s.i+1:Nat):Int)<=s.op;omega,hs.hi⟩
 ·exact Z8W hs _ _
def isN(f:Nat):Bool:=Y01 f 43
theorem Zqx{T:List Tq}{s:Ps}(hs:PsOK T s)(w:List UInt8):MemQ Y00 gl 1 80 [.ptr 0 0,.str w] (psH T s) (.tuple []) (psH T (Z0z T s w)):=by
 have hs2:=Z6C hs (w:=w) Z52
 obtain⟨O,hO,⟨p1,-⟩,-⟩:=Z13 (P:=Y00) (gl:=gl) [{ I:=Unit,f:=43,G:=λ_=>True,A:=λ_=>[.ptr 0 0,.str w],H:=λ_=>psH T s,R:=λ_=>.bool (Z1l T s w),O:=λ_=>psH T (Z0s T s w),body:=(by kernel_rfl),inj:=(λ_ _ _ _ _ _=>⟨rfl,rfl⟩),ok:=λ_ _=>Z4T (ZeP hs w) }] [] rfl
 have q1:=p1 () trivial
 simp only at q1
 clear p1
 unfold Z0z
 generalize Z0s T s w=s2 at *
 generalize Z1l T s w=b at *
 have hx:=tq4 T s2.i hs2.lt
 rw[<- Z0X hs2.lt]at hx
 have hlt:=hs2.lt
 unfold Z1t
 generalize Z15 T s2=t at *
 obtain⟨k,tx,nm,ps⟩:=t
 obtain⟨i,err,at_,op⟩:=s2
 simp only[Tq.cells]at hx hlt⊢
 simp only[psH]at q1⊢
 refine Z1J isN 3 follows Z05 hO Tryz.func80 rfl ?_
 cases b
 · by_cases he:err=0
   · subst he
     repeat' ((conv=>whnf);first|refine exI q1 ?_|refine exI hx ?_|(with_reducible refine ixJ i rfl ?_ ?_;focus omega)|refine stp ?_|with_reducible apply Z01<;>intro h)
     all_goals (try (conv=>whnf))
     all_goals exact⟨[0],rfl,⟨hbp,trivial⟩,rfl,Y02 rfl⟩
   · have e1:(err==0)=false:=by simpa using he
     simp only[he,if_false,Y0j]
     repeat' ((conv=>whnf);first|refine exI q1 ?_|refine exI hx ?_|(with_reducible refine ixJ i rfl ?_ ?_;focus omega)|refine stp ?_|with_reducible apply Z01<;>intro h)
     all_goals (try (conv=>whnf))
     all_goals exact⟨[0],rfl,⟨hbp,trivial⟩,rfl,Y02 rfl⟩
 · repeat' ((conv=>whnf);first|refine exI q1 ?_|refine stp ?_|with_reducible apply Z01<;>intro h)
   all_goals (try (conv=>whnf))
   all_goals exact⟨[0],rfl,⟨hbp,trivial⟩,rfl,Y02 rfl⟩
theorem ZmG{T:List Tq}{s:Ps}(hs:PsOK T s):MemQ Y00 gl 1 79 [.ptr 0 0] (psH T s) (.str (Z4J T s)) (psH T (Z23 T s)):=by
 have hx:=tq4 T s.i hs.lt
 rw[<- Z0X hs.lt]at hx
 have hlt:=hs.lt
 have hfew:=hs.few
 unfold Z4J Z23 Z96 Z1t
 generalize Z15 T s=t at *
 obtain⟨k,tx,nm,ps⟩:=t
 obtain⟨i,err,at_,op⟩:=s
 simp only[Tq.cells]at hx hlt⊢
 simp only[psH]
 have wa:IntKind.i64.wrap ((i:Int)+1)=((i+1:Nat):Int):=Z4B (by omega)
 refine Z1J isQ 3 follows Z05 Z0h Tryz.func79 rfl ?_
 by_cases he:err=0
 · subst he
   by_cases hk:k=1
   · subst hk
     repeat' ((conv=>whnf);first|refine exI hx ?_|(with_reducible refine exW wa ?_)|(with_reducible refine ixJ i rfl ?_ ?_;focus omega)|refine stp ?_|with_reducible apply Z01<;>intro h)
     all_goals (try (conv=>whnf))
     all_goals exact⟨[0],rfl,⟨hbp,trivial⟩,rfl,Y02 rfl⟩
   · have e1:(k != 1)=true:=by simpa using hk
     have e2:(k==1)=false:=by simpa using hk
     simp only[e2,Bool.and_false,Y0j,if_false,if_true]
     repeat' ((conv=>whnf);first|refine exI hx ?_|(with_reducible refine exW wa ?_)|(with_reducible refine ixJ i rfl ?_ ?_;focus omega)|refine stp ?_|with_reducible apply Z01<;>intro h)
     all_goals (try (conv=>whnf))
     all_goals exact⟨[0],rfl,⟨hbp,trivial⟩,rfl,Y02 rfl⟩
 · have e1:(err != 0)=true:=by simpa using he
   have e2:(err==0)=false:=by simpa using he
   simp only[e2,he,Bool.false_and,Y0j,if_false]
   repeat' ((conv=>whnf);first|refine exI hx ?_|(with_reducible refine exW wa ?_)|(with_reducible refine ixJ i rfl ?_ ?_;focus omega)|refine stp ?_|with_reducible apply Z01<;>intro h)
   all_goals (try (conv=>whnf))
   all_goals exact⟨[0],rfl,⟨hbp,trivial⟩,rfl,Y02 rfl⟩
end
end Go.Proofs.YtkkfcfjhhdmamaaGreatDoor.lex
section
namespace Go.Abs
open Go.RowKit
def Zfk(tm:Tr):Nat->Bool
 |0=>true
 |n+1=>tex tm n
def Zkd(k:Nat):Z00->Bool
 |[]=>true
 |o::H=>Z1a k (Z4d o.body [])&&Zkd k H
theorem ZdO{k:Nat}:∀{H:Z00}{b:Nat}{o:AObj},Zkd k H=true->H[b]? = some o->Z1a k (Z4d o.body [])=true
 |[],b,o,h,e=>by simp at e
 |x::H,0,o,h,e=>by simp only[Zkd,Y04]at h;simp at e;subst e;exact h.1
 |x::H,b+1,o,h,e=>by simp only[Zkd,Y04]at h;exact ZdO h.2 (by simpa using e)
def Z0m(fs:List Nat):Z00->Bool
 |[]=>true
 |o::H=>!mem o.fam fs&&Z0m fs H
theorem Zb2{fs:List Nat}:∀{X:Z00}{b:Nat}{o:AObj},Z0m fs X=true->X[b]? = some o->o.fam ∉ fs
 |[],b,o,h,e=>by simp at e
 |x::X,0,o,h,e=>by
  simp only[Z0m,Y04,Y0k]at h
  simp at e;subst e
  intro hm;rw[Z1q.2 hm]at h;cases h.1
 |x::X,b+1,o,h,e=>by simp only[Z0m,Y04]at h;exact Zb2 h.2 (by simpa using e)
theorem ZjA{P:Program}{gl:Z0l}{f:Nat}{args:List AV}{H H':Z00}{r:AV}(hM:Z1b P gl f args H r H')(X:Z00)(hl:H'.length=H.length)(ha:Z1a H.length (refsL args [])=true)(hb:Zkd H.length H=true)(hX:Z0m (H.map (·.fam)) X=true):Z1b P gl f args (H++X) r (H'++X):=by
 intro sn ι W cargs hg hR hargs
 let ι0:Z0j:=λb=>if b<H.length then ι b else none
 have i0:∀b,b<H.length -> ι0 b = ι b:=λb h=>if_pos h
 have i0':∀b p,ι0 b=some p->b<H.length /\ ι b=some p:=λb p h=>by
  have h:(if b<H.length then ι b else none)=some p:=h
  split at h
  ·exact⟨by assumption,h⟩
  ·cases h
 have gH:∀(b:Nat)(o:AObj),H[b]? = some o->(H++X)[b]? = some o:=λb o h=>by
  rw[Y0b (Y09.1 h).1];exact h
 have hfam:∀(b c:Nat)(o x:AObj)(p q:Place),H[b]? = some o->(H++X)[c]? = some x->o.alive=true->x.alive=true->H.length<=c -> ι b=some p -> ι c=some q->p.blk=q.blk->False:=by
  intro b c o x p q hb hc ha ha' hk hp hq e
  have hf:=(hR.sep b c o x p q (gH b o hb) hc ha ha' hp hq e).1
  rw[Y0i hk]at hc
  exact Zb2 hX hc (by rw[<- hf];exact List.mem_map.2 ⟨o,Y0p hb,rfl⟩)
 have hR0:R sn ι0 H W:=by
  refine⟨λb=>⟨λhb=>?_,λ⟨p,hp⟩=>(i0' b p hp).1⟩,λb p hp=>hR.blk b p (i0' b p hp).2,λb o p ho hal hp=>?_,λb b' o o' p p' ho ho' ha ha' hp hp' e=>hR.sep b b' o o' p p' (gH _ _ ho) (gH _ _ ho') ha ha' (i0' _ _ hp).2 (i0' _ _ hp').2 e,λa v hv=>?_,λb o p ho hp e=>hR.shz b o p (gH _ _ ho) (i0' _ _ hp).2 e⟩
  · obtain⟨p,hp⟩:=(hR.dom b).1 (by rw[Y0g];omega)
    exact⟨p,by rw[i0 b hb];exact hp⟩
  · obtain⟨hbl,hp⟩:=i0' b p hp
    exact Z5m o.body p (λx hx q hq=>by rw[i0 x (Z1i (ZdO hb ho) x hx)];exact hq) (hR.obj b o p (gH _ _ ho) hal hp)
  · obtain⟨h1,h2,h3⟩:=hR.snap a v hv
    exact⟨h1,h2,λb o p ho hal hp=>h3 b o p (gH _ _ ho) hal (i0' _ _ hp).2⟩
 have hl0:LR sn ι0 args cargs:=LR_refs args [] cargs (λb hb' p hp=>by rw[i0 b (Z1i ha b hb')];exact hp) hargs
 refine (hM sn ι0 W cargs hg hR0 hl0).mono ?_
 rintro e W1 ⟨v,sn1,ι1,rfl,hv,hs⟩
 let ι2:Z0j:=λb=>match ι1 b with|some p=>some p|none=>ι b
 have a1:∀b p,ι1 b=some p -> ι2 b=some p:=λb p h=>by show (match ι1 b with|some p=>some p|none=>ι b)=some p;rw[h]
 have a2:∀b,H.length<=b -> ι2 b = ι b:=λb h=>by
  show (match ι1 b with|some p=>some p|none=>ι b) = ι b
  cases hq : ι1 b with
  |none=>rfl
  |some p=>have:=(hs.rel.dom b).2 ⟨p,hq⟩;omega
 have a3:∀b p,ι b=some p -> ι2 b=some p:=λb p h=>by
  by_cases hb':b<H.length
  ·exact a1 b p (hs.le.ι b p (by rw[i0 b hb'];exact h))
  ·rw[a2 b (by omega)];exact h
 have a4:∀b p,b<H.length -> ι2 b=some p -> ι1 b=some p /\ ι b=some p:=λb p hb' h=>by
  obtain⟨q,hq⟩:=(hR.dom b).1 (by rw[Y0g];omega)
  have h1:=hs.le.ι b q (by rw[i0 b hb'];exact hq)
  have h2:=a1 b q h1
  rw[h]at h2;cases h2
  exact⟨h1,hq⟩
 have hle:Le sn sn1 ι ι2:=⟨hs.le.sn,a3⟩
 have g1:∀(b:Nat)(o:AObj),(H'++X)[b]? = some o->(b<H.length/\H'[b]? = some o)\/(H.length<=b/\(H++X)[b]? = some o):=λb o h=>by
  by_cases hb':b<H.length
  ·rw[Y0b (by omega)]at h;exact .inl ⟨hb',h⟩
  · rw[Y0i (by omega),hl]at h
    exact .inr ⟨by omega,by rw[Y0i (by omega)];exact h⟩
 have old:∀(b:Nat)(o:AObj)(p:Place),(H'++X)[b]? = some o -> ι2 b=some p->∃o0,(H++X)[b]? = some o0 /\ ι b=some p/\o.fam=o0.fam/\o.sh=o0.sh/\(o.alive=true->o0.alive=true):=by
  intro b o p ho hp
  rcases g1 b o ho with ⟨h1,h2⟩|⟨h1,h2⟩
  · obtain⟨_,hq⟩:=a4 b p h1 hp
    obtain⟨o',k1,k2,k3,k4⟩:=hs.evo b _ (Y08 h1)
    rw[h2]at k1;cases k1
    exact⟨_,gH _ _ (Y08 h1),hq,k2,k3,k4⟩
  · rw[a2 b h1]at hp
    exact⟨o,h2,hp,rfl,rfl,id⟩
 have same:∀(b:Nat)(o:AObj)(p:Place),(H++X)[b]? = some o->o.alive=true->H.length<=b -> ι b=some p->W1.heap[p.blk]? = W.heap[p.blk]?:=λb o p ho ha hk hp =>
  hs.frame p.blk (hR.blk b p hp) λb' o' p' ho' ha' hp' e=>hfam b' b o' o p' p ho' ho ha' ha hk (i0' _ _ hp').2 hp e
 refine⟨v,sn1,ι2,rfl,Z1k ⟨λ_ _ h=>h,a1⟩ _ _ hv,⟨?_,hle,λb p hp=>?_,λc hc hno=>hs.frame c hc λb o p ho hal hp=>hno b o p (gH _ _ ho) hal (i0' _ _ hp).2,hs.size,hs.os,hs.tape,hs.output,λa v hv=>?_,λb o ho=>?_⟩⟩
 · refine⟨λb=>?_,λb p hp=>?_,λb o p ho hal hp=>?_,λb b' o o' p p' ho ho' ha ha' hp hp' e=>?_,λa u hu=>?_,λb o p ho hp e=>?_⟩
   · have:=hR.dom b
     rw[Y0g,hl,<- Y0g,this]
     constructor
     ·rintro⟨p,hp⟩;exact⟨p,a3 b p hp⟩
     · rintro⟨p,hp⟩
       by_cases hb':b<H.length
       ·exact⟨p,(a4 b p hb' hp).2⟩
       ·exact⟨p,by rw[<- a2 b (by omega)];exact hp⟩
   · by_cases hb':b<H.length
     ·exact hs.rel.blk b p (a4 b p hb' hp).1
     · rw[a2 b (by omega)]at hp
       have:=hR.blk b p hp;have:=hs.size;omega
   · rcases g1 b o ho with ⟨h1,h2⟩|⟨h1,h2⟩
     · obtain⟨hp1,_⟩:=a4 b p h1 hp
       exact Z0W ⟨λ_ _ h=>h,a1⟩ rfl (hs.rel.obj b o p h2 hal hp1)
     · rw[a2 b h1]at hp
       exact Z0W hle (same b o p h2 hal h1 hp) (hR.obj b o p h2 hal hp)
   · obtain⟨o0,k1,k2,k3,k4,k5⟩:=old b o p ho hp
     obtain⟨o0',k1',k2',k3',k4',k5'⟩:=old b' o' p' ho' hp'
     rw[k3,k3',k4,k4']
     exact hR.sep b b' o0 o0' p p' k1 k1' (k5 ha) (k5' ha') k2 k2' e
   · obtain⟨h1,h2,h3⟩:=hs.rel.snap a u hu
     refine⟨h1,h2,λb o p ho hal hp e=>?_⟩
     rcases g1 b o ho with ⟨k1,k2⟩|⟨k1,k2⟩
     ·exact h3 b o p k2 hal (a4 b p k1 hp).1 e
     · rw[a2 b k1]at hp
       rcases hs.sfresh a u hu with f1|f1|⟨b0,o0,p0,f1,f2,f3,f4⟩
       ·exact (hR.snap a u f1).2.2 b o p k2 hal hp e
       ·have:=hR.blk b p hp;omega
       ·exact hfam b0 b o0 o p0 p f1 k2 f2 hal k1 (i0' _ _ f3).2 hp (f4.trans e.symm)
   · obtain⟨o0,k1,k2,_,k4,_⟩:=old b o p ho hp
     exact hR.shz b o0 p k1 k2 (by rw[<- k4];exact e)
 · by_cases hb':b<H.length
   ·exact .inl (a4 b p hb' hp).2
   ·rw[a2 b (by omega)]at hp;exact .inl hp
 · rcases hs.sfresh a v hv with f1|f1|⟨b0,o0,p0,f1,f2,f3,f4⟩
   ·exact .inl f1
   ·exact .inr (.inl f1)
   ·exact .inr (.inr ⟨b0,o0,p0,gH _ _ f1,f2,(i0' _ _ f3).2,f4⟩)
 · by_cases hb':b<H.length
   · rw[Y0b hb']at ho
     obtain⟨o',k1,k2,k3,k4⟩:=hs.evo b o ho
     exact⟨o',by rw[Y0b (by omega)];exact k1,k2,k3,k4⟩
   · rw[Y0i (by omega)]at ho
     exact⟨o,by rw[Y0i (by omega),hl];exact ho,rfl,rfl,id⟩
end Go.Abs
end
namespace Go.Proofs.YtkkfcfjhhdmamaaGreatDoor.lex
open Go.Abs Go.RowKit
section
variable {gl:Z0l}
def ordL:List (List UInt8):=[[110,97],[114,108,120],[97,99,113],[114,101,108],[97,114],[115,99]]
def Z0A(T:List Tq)(s:Ps):List (List UInt8)->Int->Int×Ps
 |[],_=>(0,Z1t s 5 (Z15 T s).pos)
 |w::l,k=>if Z1l T s w=true then (k,Z0s T s w) else Z0A T (Z0s T s w) l (k+1)
theorem ZsP(i:Nat)(h:i<6):∀off,off=i->tk 1 ((ordL.map AV.str).drop off)=some [.str (ordL[i]'h)]:=by
 intro off e
 subst e
 match off,h with
 |0,h=>rfl
 |1,h=>rfl
 |2,h=>rfl
 |3,h=>rfl
 |4,h=>rfl
 |5,h=>rfl
def Ziz:Z00:=[⟨true,1,0,.cells (ordL.map AV.str) 9⟩]
theorem ZmP{T:List Tq}{s0:Ps}(hs0:PsOK T s0):MemQ Y00 gl 1 128 [.ptr 0 0] (psH T s0) (.int .i64 (Z0A T s0 ordL 1).1) (psH T (Z0A T s0 ordL 1).2):=by
 have hinj:∀i j:Ps×List UInt8,PsOK T i.1->PsOK T j.1->[AV.ptr 0 0,.str i.2]=[AV.ptr 0 0,.str j.2]->psH T i.1++Ziz=psH T j.1++Ziz->AV.bool (Z1l T i.1 i.2)=AV.bool (Z1l T j.1 j.2)/\psH T (Z0s T i.1 i.2)++Ziz=psH T (Z0s T j.1 j.2)++Ziz:=λi j _ _ h h2=>by
  obtain⟨⟨a,b,c,d⟩,w⟩:=i
  obtain⟨⟨a',b',c',d'⟩,w'⟩:=j
  simp only[psH,Y06,Y0a,List.cons.injEq,AV.str.injEq,AV.int.injEq,AObj.mk.injEq,ABody.cells.injEq,true_and,and_true]at h h2
  obtain⟨h3,rfl,rfl,rfl⟩:=h2
  have h4:a=a':=by omega
  subst h4 h
  exact⟨rfl,rfl⟩
 obtain⟨O,hO,⟨p1,-⟩,-⟩:=Z13 (P:=Y00) (gl:=gl) [{ I:=Ps×List UInt8,f:=43,G:=λi=>PsOK T i.1,A:=λi=>[.ptr 0 0,.str i.2],H:=λi=>psH T i.1++Ziz,R:=λi=>.bool (Z1l T i.1 i.2),O:=λi=>psH T (Z0s T i.1 i.2)++Ziz,body:=(by kernel_rfl),inj:=hinj,ok:=λi h=>ZjA (Z4T (ZeP h i.2)) Ziz rfl rfl rfl rfl }] [] rfl
 have q1:∀s w,PsOK T s->Z03 Y00 O (psH T s++Ziz) 43 [.ptr 0 0,.str w]=some (.bool (Z1l T s w),psH T (Z0s T s w)++Ziz):=λs w h=>p1 (s,w) h
 clear p1
 generalize hR:Z0A T s0 ordL 1=R
 refine Z1J isN 3 follows Z05 hO Tryz.func128 rfl ?_
 simp only[psH]
 repeat' ((conv=>whnf);first|refine stp ?_|with_reducible apply Z01<;>intro h)
 conv=>whnf
 refine⟨Nat×Ps,(λx=>x.1<=6/\PsOK T x.2/\Z0A T x.2 (ordL.drop x.1) ((x.1:Int)+1)=R),(λx=>[(0,.ptr 0 0),(3,.slice 1 0 6 6 1),(4,.int .i64 (x.1:Nat))]),(λx=>psH T x.2++Ziz),(λx=>6-x.1),⟨(0,s0),⟨Y0h _,hs0,hR⟩,?_⟩,?_⟩
 · refine FgLK.mk [0,1] rfl rfl ?_ ⟨hbp,hbp,trivial⟩ rfl
   exact wks
 clear hR
 rintro⟨i,s⟩ ⟨hi,hs,hf⟩
 dsimp only at hi hs hf
 (try dsimp only)
 have hx:=tq4 T s.i hs.lt
 rw[<- Z0X hs.lt]at hx
 have hlt:=hs.lt
 by_cases h6:i<6
 · have e1:decide ((i:Int)<6)=true:=by simp;omega
   have hw:=ZsP i h6
   have wa:IntKind.i64.wrap ((i:Int)+1)=((i+1:Nat):Int):=Z4B (by omega)
   have wb:IntKind.i64.wrap (1+(i:Int))=(i:Int)+1:=by rw[Int.add_comm];exact Z2M (by omega) (by omega)
   rw[List.drop_eq_getElem_cons (l:=ordL) h6]at hf
   simp only[Z0A]at hf
   have q:=q1 s (ordL[i]'h6) hs
   have hs2:=Z6C hs (w:=ordL[i]'h6) Z52
   clear q1
   generalize ordL[i]'h6=w at *
   generalize Z0s T s w=s2 at *
   generalize Z1l T s w=b at *
   obtain⟨a2,b2,c2,d2⟩:=s2
   obtain⟨a1,b1,c1,d1⟩:=s
   have hlt2:=hs2.lt
   simp only[psH,Ziz,Y06,Y0a]at q hlt2⊢
   cases b
   · rw[if_neg (by decide)]at hf
     repeat' ((conv=>whnf);first|refine exI q ?_|refine exI (hw _ (by omega)) ?_|(with_reducible refine exW wa ?_)|(with_reducible refine ixJ i rfl ?_ ?_;focus omega)|refine stp ?_|with_reducible apply Z01<;>intro h)
     conv=>whnf
     refine⟨(i+1,⟨a2,b2,c2,d2⟩),⟨h6,hs2,hf⟩,by show 6-(i+1)<6-i;omega,?_⟩
     refine FgLK.mk [0,1] rfl rfl ?_ ⟨hbp,hbp,trivial⟩ rfl
     exact wks
   · rw[if_pos rfl]at hf
     subst hf
     repeat' ((conv=>whnf);first|refine exI q ?_|refine exI (hw _ (by omega)) ?_|(with_reducible refine exW wb ?_)|(with_reducible refine ixJ i rfl ?_ ?_;focus omega)|refine stp ?_|with_reducible apply Z01<;>intro h)
     all_goals (conv=>whnf)
     all_goals exact⟨[0],rfl,⟨hbp,trivial⟩,rfl,Y02 rfl⟩
 · have e1:decide ((i:Int)<6)=false:=by simp;omega
   rw[List.drop_eq_nil_of_le (by show 6<=i;omega)]at hf
   simp only[Z0A]at hf
   subst hf
   clear q1
   unfold Z1t
   generalize Z15 T s=t at *
   obtain⟨k,tx,nm,ps⟩:=t
   obtain⟨j,err,at_,op⟩:=s
   simp only[Tq.cells,psH,Ziz,Y06,Y0a]at hx hlt⊢
   by_cases he:err=0
   · subst he
     repeat' ((conv=>whnf);first|refine exI hx ?_|(with_reducible refine ixJ j rfl ?_ ?_;focus omega)|refine stp ?_|with_reducible apply Z01<;>intro h)
     all_goals (try (conv=>whnf))
     all_goals exact⟨[0],rfl,⟨hbp,trivial⟩,rfl,Y02 rfl⟩
   · have e2:(err==0)=false:=by simpa using he
     simp only[he,if_false]
     repeat' ((conv=>whnf);first|refine exI hx ?_|(with_reducible refine ixJ j rfl ?_ ?_;focus omega)|refine stp ?_|with_reducible apply Z01<;>intro h)
     all_goals (try (conv=>whnf))
     all_goals exact⟨[0],rfl,⟨hbp,trivial⟩,rfl,Y02 rfl⟩
end
section
variable {gl:Z0l}
theorem Zqc{T:List Tq}{s s':Ps}{X X':Z00}(h:psH T s++X=psH T s'++X'):s=s'/\X=X':=by
 obtain⟨a,b,c,d⟩:=s
 obtain⟨a',b',c',d'⟩:=s'
 simp only[psH,Y06,Y0a,List.cons.injEq,AV.int.injEq,AObj.mk.injEq,ABody.cells.injEq,true_and,and_true]at h
 obtain⟨⟨h3,rfl,rfl,rfl⟩,rfl⟩:=h
 have h4:a=a':=by omega
 subst h4
 exact⟨rfl,rfl⟩
def Z3j(T:List Tq)(f:Nat)(hb:Z09 Y00 f=true){I:Type}(G:I->Ps->Prop)(A:I->List AV)(R:I->Ps->AV)(N:I->Ps->Ps)(hA:∀i,Z1a 1 (refsL (A i) [])=true)(hinj:∀i j,A i=A j->i=j)(ok:∀i s,G i s->MemQ Y00 gl 1 f (A i) (psH T s) (R i s) (psH T (N i s))):FamM Y00 gl :=
 have h1:∀x y:I×Ps×Z00,(G x.1 x.2.1/\Z0m [0] x.2.2=true)->(G y.1 y.2.1/\Z0m [0] y.2.2=true)->A x.1=A y.1->psH T x.2.1++x.2.2=psH T y.2.1++y.2.2->R x.1 x.2.1=R y.1 y.2.1/\psH T (N x.1 x.2.1)++x.2.2=psH T (N y.1 y.2.1)++y.2.2:=λx y _ _ h h2=>by
  obtain⟨i,s,X⟩:=x
  obtain⟨j,s',X'⟩:=y
  obtain⟨e1,e2⟩:=Zqc h2
  have e3:=hinj _ _ h
  simp only at e1 e2 e3
  subst e1 e2 e3
  exact⟨rfl,rfl⟩
 { I:=I×Ps×Z00,f:=f,G:=λx=>G x.1 x.2.1/\Z0m [0] x.2.2=true,A:=λx=>A x.1,H:=λx=>psH T x.2.1++x.2.2,R:=λx=>R x.1 x.2.1,O:=λx=>psH T (N x.1 x.2.1)++x.2.2,body:=hb,inj:=h1,ok:=λx h=>ZjA (Z4T (ok x.1 x.2.1 h.1)) x.2.2 rfl (hA x.1) rfl h.2 }
def ex0:Ex:=.mk 0 0 [] []
def lvS:Nat->List (List UInt8×Int)
 |0=>[([124,124],5)]
 |1=>[([38,38],6)]
 |2=>[([61,61],7),([33,61],8)]
 |3=>[([60],9),([60,61],10)]
 |4=>[([124],11)]
 |5=>[([94],12)]
 |6=>[([38],13)]
 |7=>[([43],14),([45],15)]
 |_=>[([42],16)]
def Z2n(T:List Tq)(rec1:Ps->Ex×Ps):List (List UInt8×Int)->Ex->Ps->Bool->Ex×Ps×Bool
 |[],x,s,a=>(x,s,a)
 |(w,o)::l,x,s,a=>if Z1l T s w=true then Z2n T rec1 l (.mk o 0 [] [x,(rec1 (Z0s T s w)).1]) (rec1 (Z0s T s w)).2 true else Z2n T rec1 l x (Z0s T s w) a
def Z6V(T:List Tq)(rec1:Ps->Ex×Ps)(l:List (List UInt8×Int)):Nat->Ex->Ps->Ex×Ps
 |0,x,s=>(x,s)
 |k+1,x,s=>if (Z2n T rec1 l x s false).2.2=true then Z6V T rec1 l k (Z2n T rec1 l x s false).1 (Z2n T rec1 l x s false).2.1 else ((Z2n T rec1 l x s false).1,(Z2n T rec1 l x s false).2.1)
def Z4F(T:List Tq)(un:Ps->Ex×Ps):Nat->Ps->Ex×Ps
 |0,s=>un s
 |m+1,s=>Z6V T (Z4F T un m) (lvS (8-m)) (T.length+1) (Z4F T un m s).1 (Z4F T un m s).2
def Z3Z(T:List Tq)(ex:Ps->Ex×Ps)(s:Ps):Ex×Ps :=
 if s.err≠0 then (ex0,s)
 else if (Z15 T s).kind=3 then (.mk 1 (Z15 T s).num [] [],{ s with i:=s.i+1 })
 else if (Z15 T s).kind=1 then (.mk 2 0 (Z15 T s).text [],{ s with i:=s.i+1 })
 else if Z1l T s [40]=true then ((ex (Z0s T s [40])).1,Z0z T (ex (Z0s T s [40])).2 [41])
 else (ex0,Z1t (Z0s T s [40]) 5 (Z15 T s).pos)
def unF(T:List Tq):Nat->Ps->Ex×Ps
 |0,s=>(ex0,s)
 |d+1,s=>if isF T s [45]=false/\isF T s [33]=false then Z3Z T (Z4F T (unF T d) 9) s
  else if s.op=200 then (ex0,Z1t s 3 (Z15 T s).pos)
  else (.mk (if isF T s [33]=true then 4 else 3) 0 [] [(unF T d { s with i:=s.i+1,op:=s.op+1 }).1],{ (unF T d { s with i:=s.i+1,op:=s.op+1 }).2 with op:=(unF T d { s with i:=s.i+1,op:=s.op+1 }).2.op-1 })
structure PsGo (T:List Tq) (s s':Ps):Prop where
 ok:PsOK T s'
 on:s.i<=s'.i
 lo:s.op+s.i<=s'.op+s'.i
theorem PsGo.trans{T:List Tq}{a b c:Ps}(h:PsGo T a b)(k:PsGo T b c):PsGo T a c:=⟨k.ok,Y05 h.on k.on,Int.le_trans h.lo k.lo⟩
theorem Z72{T:List Tq}{s:Ps}(hs:PsOK T s)(e a:Int):PsGo T s (Z1t s e a):=⟨Z8W hs e a,by unfold Z1t;split<;>exact Y07 _,by unfold Z1t;split<;>exact Y0d _⟩
theorem Z5s{T:List Tq}{s:Ps}(hs:PsOK T s)(w:List UInt8):PsGo T s (Z0s T s w):=by
 refine⟨Z6C hs Z52,?_,?_⟩
 · unfold Z0s Z1t
   repeat' split
   all_goals (try exact Y07 _)
   all_goals exact Nat.le_succ _
 · unfold Z0s Z1t
   repeat' split
   all_goals (try exact Y0d _)
   all_goals (simp only;omega)
theorem Z1o{T:List Tq}{s:Ps}(hs:PsOK T s)(w:List UInt8):PsGo T s (Z0z T s w):=by
 have h:=Z5s hs w
 unfold Z0z;split
 ·exact h
 ·exact h.trans (Z72 h.ok _ _)
end
section
variable {gl:Z0l}
def Z7t(T:List Tq):FamM Y00 gl:=Z3j T 43 (by kernel_rfl) (I:=List UInt8) (λ_ s=>PsOK T s) (λw=>[.ptr 0 0,.str w]) (λw s=>.bool (Z1l T s w)) (λw s=>Z0s T s w) (λ_=>rfl) (λi j h=>by simpa using h) (λw s h=>ZeP h w)
def Z68(T:List Tq):FamM Y00 gl:=Z3j T 80 (by kernel_rfl) (I:=List UInt8) (λ_ s=>PsOK T s) (λw=>[.ptr 0 0,.str w]) (λw s=>.tuple []) (λw s=>Z0z T s w) (λ_=>rfl) (λi j h=>by simpa using h) (λw s h=>Zqx h w)
theorem Z61{m:List Nat}{o n:Int}{nm:List UInt8}:Wk m (.agg [.int .i64 o,.int .i64 n,.str nm,.nslice]) (.agg (Ex.mk o n nm []).cells):=Wk.agg ⟨Y0c rfl,Y0c rfl,Y02 rfl,Wk.nil,trivial⟩
def ZvU(f:Nat):Bool:=Y01 f 43 || (Y01 f 80 || Y01 f 53)
theorem Zs4 {T : List Tq} {s : Ps} (hs : PsOK T s) {ex : Ps -> Ex × Ps} (hex : Z1l T s [40] = true -> PsOK T (ex (Z0s T s [40])).2 /\ MemQ Y00 gl 1 53 [.ptr 0 0, .int .i64 0] (psH T (Z0s T s [40])) (.agg (ex (Z0s T s [40])).1.cells) (psH T (ex (Z0s T s [40])).2)) :
  MemQ Y00 gl 1 108 [.ptr 0 0] (psH T s) (.agg (Z3Z T ex s).1.cells) (psH T (Z3Z T ex s).2):=by
 obtain⟨O,hO,⟨p1,p2,p3,-⟩,-⟩:=Z13 (P:=Y00) (gl:=gl) [Z7t T,Z68 T,Z3j T 53 (by kernel_rfl) (I:=Unit) (λ_ s'=>s'=Z0s T s [40]/\Z1l T s [40]=true) (λ_=>[.ptr 0 0,.int .i64 0]) (λ_ s'=>.agg (ex s').1.cells) (λ_ s'=>(ex s').2) (λ_=>rfl) (λ_ _ _=>rfl) (λ_ s' h=>by rw[h.1];exact (hex h.2).2)] [] rfl
 have q1:∀X,Z0m [0] X=true->Z03 Y00 O (psH T s++X) 43 [.ptr 0 0,.str [40]]=some (.bool (Z1l T s [40]),psH T (Z0s T s [40])++X):=λX hX=>p1 ([40],s,X) ⟨hs,hX⟩
 have q2:∀s2 X,PsOK T s2->Z0m [0] X=true->Z03 Y00 O (psH T s2++X) 80 [.ptr 0 0,.str [41]]=some (.tuple [],psH T (Z0z T s2 [41])++X):=λs2 X h hX=>p2 ([41],s2,X) ⟨h,hX⟩
 have q3:Z1l T s [40]=true->∀X,Z0m [0] X=true->Z03 Y00 O (psH T (Z0s T s [40])++X) 53 [.ptr 0 0,.int .i64 0]=some (.agg (ex (Z0s T s [40])).1.cells,psH T (ex (Z0s T s [40])).2++X):=λh X hX=>p3 ((),Z0s T s [40],X) ⟨⟨rfl,h⟩,hX⟩
 clear p1 p2 p3
 have hx:=tq4 T s.i hs.lt
 rw[<- Z0X hs.lt]at hx
 have hlt:=hs.lt
 have hfew:=hs.few
 have hex2:=λh=>(hex h).1
 have hs2:=Z6C hs (w:=[40]) Z52
 clear hex
 unfold Z3Z
 generalize Z0s T s [40]=s2 at *
 generalize Z1l T s [40]=b at *
 generalize ex s2=r at *
 generalize Z15 T s=t at *
 obtain⟨k,tx,nm,ps⟩:=t
 obtain⟨⟨o,n,nn,ks⟩,s3⟩:=r
 have wa:IntKind.i64.wrap ((s.i:Int)+1)=((s.i+1:Nat):Int):=Z4B (by omega)
 obtain⟨i,err,at_,op⟩:=s
 simp only[Tq.cells,Ex.cells]at hx hlt hex2 q3 wa⊢
 refine Z1J ZvU 3 follows Z05 hO Tryz.func108 rfl ?_
 by_cases he:err=0
 case' neg =>
  have e1:(err != 0)=true:=by simpa using he
  simp only[he,ne_eq,not_false_eq_true,if_true]
  simp only[psH]
  repeat' ((conv=>whnf);first|refine exI hx ?_|(with_reducible refine ixJ i rfl ?_ ?_;focus omega)|refine stp ?_|with_reducible apply Z01<;>intro h)
  all_goals (try (conv=>whnf))
  all_goals exact⟨[0],rfl,⟨hbp,trivial⟩,rfl,Z61⟩
 subst he
 simp only[ne_eq,not_true_eq_false,if_false]
 by_cases hk3:k=3
 · subst hk3
   simp only[if_true,psH]
   repeat' ((conv=>whnf);first|refine exI hx ?_|(with_reducible refine exW wa ?_)|(with_reducible refine ixJ i rfl ?_ ?_;focus omega)|refine stp ?_|with_reducible apply Z01<;>intro h)
   all_goals (try (conv=>whnf))
   all_goals exact⟨[0],rfl,⟨hbp,trivial⟩,rfl,Z61⟩
 have g3:(k==3)=false:=by simpa using hk3
 by_cases hk1:k=1
 · subst hk1
   simp only[hk3,if_true,if_false,psH]
   repeat' ((conv=>whnf);first|refine exI hx ?_|(with_reducible refine exW wa ?_)|(with_reducible refine ixJ i rfl ?_ ?_;focus omega)|refine stp ?_|with_reducible apply Z01<;>intro h)
   all_goals (try (conv=>whnf))
   all_goals exact⟨[0],rfl,⟨hbp,trivial⟩,rfl,Z61⟩
 have g1:(k==1)=false:=by simpa using hk1
 simp only[hk3,hk1,if_false]
 cases b with
 |false =>
  simp only[Y0j,if_false]
  unfold Z1t
  obtain⟨i2,e2,a2,o2⟩:=s2
  by_cases he2:e2=0
  · subst he2
    simp only[psH,if_true]at q1⊢
    repeat' ((conv=>whnf);first|refine exI hx ?_|refine exI (q1 _ rfl) ?_|(with_reducible refine ixJ i rfl ?_ ?_;focus omega)|refine stp ?_|with_reducible apply Z01<;>intro h)
    all_goals (try (conv=>whnf))
    all_goals exact⟨[0],rfl,⟨hbp,trivial⟩,rfl,Z61⟩
  · have g2:(e2==0)=false:=by simpa using he2
    simp only[psH,he2,if_false]at q1⊢
    repeat' ((conv=>whnf);first|refine exI hx ?_|refine exI (q1 _ rfl) ?_|(with_reducible refine ixJ i rfl ?_ ?_;focus omega)|refine stp ?_|with_reducible apply Z01<;>intro h)
    all_goals (try (conv=>whnf))
    all_goals exact⟨[0],rfl,⟨hbp,trivial⟩,rfl,Z61⟩
 |true =>
  simp only[if_true]
  have q3:=q3 rfl
  have q2:=λX=>q2 s3 X (hex2 rfl)
  generalize Z0z T s3 [41]=s4 at *
  simp only[psH]at q1 q2 q3⊢
  repeat' ((conv=>whnf);first|refine exI hx ?_|refine exI (q1 _ rfl) ?_|refine exI (q3 _ rfl) ?_|refine exI (q2 _ rfl) ?_|(with_reducible refine ixJ i rfl ?_ ?_;focus omega)|refine stp ?_|with_reducible apply Z01<;>intro h)
  all_goals (try (conv=>whnf))
  all_goals exact⟨[0],rfl,⟨hbp,trivial⟩,rfl,Y02 rfl⟩
end
end Go.Proofs.YtkkfcfjhhdmamaaGreatDoor.lex
section
namespace Go.Abs
open Go.RowKit
def sgS(m:List Nat)(d:Nat)(b:Nat):Nat:=if b<m.length then m.getD b 0 else d+(b-m.length)
def Ziy(m:List Nat)(σ : Nat->Nat)(Hs:Z00):Nat->Z00->Z00
 |_,[]=>[]
 |i,o::H=>(match Z4D m i 0 with
  |some j=>match Hs[j]? with
   |some o'=>{ o with alive:=o'.alive,body:=Z7A σ o'.body }
   |none=>o
  |none=>o)::Ziy m σ Hs (i+1) H
theorem Zg5 (m : List Nat) (σ : Nat -> Nat) (Hs : Z00) : ∀ (H : Z00) (i b : Nat), (Ziy m σ Hs i H)[b]? = (H[b]?).map fun o => match Z4D m (i + b) 0 with
  |some j=>match Hs[j]? with
   |some o'=>{ o with alive:=o'.alive,body:=Z7A σ o'.body }
   |none=>o
  |none=>o
 |[],i,b=>by simp[Ziy]
 |o::H,i,0=>by
  simp only[Ziy,List.getElem?_cons_zero,Y0G,Nat.add_zero]<;>rfl
 |o::H,i,b+1=>by
  simp only[Ziy,List.getElem?_cons_succ]
  rw[Zg5 m σ Hs H (i+1) b,show i+1+b=i+(b+1) by omega]
theorem Zg4(m:List Nat)(σ : Nat->Nat)(Hs:Z00):∀(H:Z00)(i:Nat),(Ziy m σ Hs i H).length=H.length
 |[],i=>rfl
 |o::H,i=>by simp only[Ziy,Y0e,Zg4 m σ Hs H (i+1)]
def shS(σ : Nat->Nat):Nat->Z00->Z00
 |_,[]=>[]
 |n,o::H=>⟨o.alive,n,o.sh,Z7A σ o.body⟩::shS σ (n+1) H
theorem Zjj(σ : Nat->Nat):∀(H:Z00)(n b:Nat),(shS σ n H)[b]? = (H[b]?).map λo=>⟨o.alive,n+b,o.sh,Z7A σ o.body⟩
 |[],n,b=>by simp[shS]
 |o::H,n,0=>rfl
 |o::H,n,b+1=>by
  simp only[shS,List.getElem?_cons_succ]
  rw[Zjj σ H (n+1) b,show n+1+b=n+(b+1) by omega]
theorem ZeY(σ : Nat->Nat):∀(H:Z00)(n:Nat),(shS σ n H).length=H.length
 |[],n=>rfl
 |o::H,n=>by simp only[shS,Y0e,ZeY σ H (n+1)]
def Za1:Z00->List Nat
 |[]=>[]
 |o::H=>cond o.alive (o.fam::Za1 H) (Za1 H)
theorem Za0:∀{H:Z00}{i:Nat}{o:AObj},H[i]? = some o->o.alive=true->mem o.fam (Za1 H)=true
 |[],i,o,h,_=>by simp at h
 |x::H,0,o,h,ha=>by
  simp at h;subst h
  simp only[Za1,ha,cond_true]
  exact Z1q.2 (Y0w ..)
 |x::H,i+1,o,h,ha=>by
  have:=Z1q.1 (Za0 (H:=H) (by simpa using h) ha)
  unfold Za1
  cases x.alive
  ·exact Z1q.2 this
  ·exact Z1q.2 (List.mem_cons_of_mem _ this)
theorem Z71:∀{H:Z00}{i j:Nat}{o o':AObj},Z0F (Za1 H)=true->H[i]? = some o->H[j]? = some o'->o.alive=true->o'.alive=true->o.fam=o'.fam->i=j
 |[],i,j,o,o',h,e,_,_,_,_=>by simp at e
 |x::H,i,j,o,o',h,e,e',ha,ha',hf=>by
  have hn:Z0F (Za1 H)=true:=by
   unfold Za1 at h
   cases hx:x.alive
   ·rw[hx]at h;exact h
   · rw[hx]at h
     simp only[cond_true,Z0F,Y04]at h
     exact h.2
  have hx:x.alive=true->mem x.fam (Za1 H)=false:=λhx=>by
   unfold Za1 at h
   rw[hx]at h
   simp only[cond_true,Z0F,Y04,Y0k]at h
   exact h.1
  cases i with
  |zero =>
   cases j with
   |zero=>rfl
   |succ j =>
    simp at e e';subst e
    have:=Za0 e' ha'
    rw[<- hf,hx ha]at this;cases this
  |succ i =>
   cases j with
   |zero =>
    simp at e e';subst e'
    have:=Za0 e ha
    rw[hf,hx ha']at this;cases this
   |succ j =>
    simp at e e'
    rw[Z71 hn e e' ha ha' hf]
theorem Z9B {P : Program} {gl : Z0l} {f : Nat} {Hs Hs' Hc : Z00} {fargs cargs : List AV} {r : AV} {m : List Nat} (hM : Z1b P gl f fargs Hs r Hs') (hargs : Wk m (.tuple cargs) (.tuple fargs)) (hsub : HpGe Hc m m Hs 0)
  (hnd:Z0F (m.map (Z0O Hc))=true) (hlone:Z3T m (m.map (Z0O Hc)) 0 Hc=true) (hnA:Z0F (Za1 Hs')=true) (hF:∀o∈Hc,o.fam<Hc.length)
  (hg2:∀(i:Nat)(o:AObj),Hs'[i]? = some o->Z1a Hs'.length (Z4d o.body [])=true) (hrk:Z1a Hs'.length (Z1m r [])=true) :
  Z1b P gl f cargs Hc (ren (sgS m Hc.length) r) (Ziy m (sgS m Hc.length) Hs' 0 Hc++shS (sgS m Hc.length) Hc.length (Hs'.drop m.length)):=by
 intro sn ι W vargs hg hR hl
 obtain⟨hl1,hg1⟩:=hsub.get
 have inm:∀b,b∈m->∃ (i:Nat) (o o2:AObj) (p:Place),m[i]? = some b/\Hc[b]? = some o/\Hs[i]? = some o2/\o.alive=true/\o2.alive=true /\ ι b=some p/\o2.sh=o.sh:=by
  intro b hb
  obtain⟨i,hi,rfl⟩:=List.mem_iff_getElem.1 hb
  obtain⟨j,o,o2,x1,x2,x3,x4,x5,_,x7,_⟩:=hg1 i hi
  rw[Y08 hi]at x1
  cases x1
  obtain⟨p,hp⟩:=hR.place x2
  exact⟨i,o,o2,p,Y08 hi,x2,x3,x4,x5,hp,x7⟩
 have apart_:∀(b:Nat)(o:AObj)(p:Place),Hc[b]? = some o->o.alive=true->b ∉ m -> ι b=some p->∀b' p',b'∈m -> ι b'=some p'->p'.blk≠p.blk:=by
  intro b o p ho hoa hb hp b' p' hb' hp' e
  obtain⟨i,o',o2,q,y1,y2,y3,y4,y5,y6,_⟩:=inm b' hb'
  have hs:=hR.sep b b' o o' p p' ho y2 hoa y4 hp hp' e.symm
  rcases Z9E hlone ho hoa with h|h
  ·exact hb (by simpa using h)
  · refine h ?_
    rw[List.mem_map]
    exact⟨b',hb',by simp only[Z0O,y2];exact hs.1.symm⟩
 have hRs:R sn (iot m ι) Hs W:=ZpA hsub hnd hR
 have atm:∀{i:Nat}{p:Place},iot m ι i=some p->∃b,m[i]? = some b/\b∈m /\ ι b=some p:=λ{i p} hp=>by
  unfold iot at hp
  split at hp
  ·rename_i b hb;exact⟨b,hb,Y0p hb,hp⟩
  ·cases hp
 have hla:LR sn (iot m ι) fargs vargs:=by
  have h1:VR sn ι (.tuple cargs) (.tuple vargs.toArray):=by simp only[VR];exact⟨_,rfl,by simpa using hl⟩
  have h2:=hargs _ _ _ h1
  simp only[VR]at h2
  obtain⟨d,e1,e2⟩:=h2
  simp at e1;subst e1;simpa using e2
 refine (hM sn (iot m ι) W vargs hg hRs hla).mono ?_
 rintro e W' ⟨v,sn',ι',rfl,hv,hst⟩
 generalize hd:Hc.length=d at *
 generalize hk:m.length=k at *
 have hk':k<=Hs'.length:=by
  rcases Nat.eq_zero_or_pos k with h|h
  ·omega
  · have:=(Y09.1 (hst.evo (k-1) _ (Y08 (by omega))).choose_spec.1).1
    omega
 let κ : Z0j:=λb=>if b<d then ι b else ι' (k+(b-d))
 have k1:∀b,b<d -> κ b = ι b:=λb hb=>if_pos hb
 have k2:∀b,d<=b -> κ b = ι' (k+(b-d)):=λb hb=>by show (if b<d then ι b else ι' (k+(b-d)))=_;rw[if_neg (by omega)]
 have mLt:∀{i b:Nat},m[i]? = some b->b<d:=λ{i b} h=>by
  obtain⟨_,o,_,p,_,y2,_⟩:=inm b (Y0p h)
  rw[<- hd];exact (Y09.1 y2).1
 have hfwd:∀(i b:Nat)(p:Place),m[i]? = some b -> ι b=some p -> ι' i=some p:=λi b p hb hp=>hst.le.ι i p (by simp only[iot,hb];exact hp)
 have hback:∀i,i<Hs'.length->∀p,ι' i=some p -> κ (sgS m d i)=some p:=λi hi p hp=>by
  unfold sgS
  rw[hk]
  by_cases hik:i<k
  · obtain⟨b,hb⟩:∃b,m[i]? = some b:=⟨m[i],Y08 (by omega)⟩
    obtain⟨q,hq⟩:=(hR.dom b).1 (by rw[hd];exact mLt hb)
    have:=hfwd i b q hb hq
    rw[hp]at this;cases this
    rw[if_pos hik,List.getD_eq_getElem?_getD,hb]
    show κ b=some p
    rw[k1 b (mLt hb)];exact hq
  ·rw[if_neg hik,k2 _ (by omega),show k+(d+(i-k)-d)=i by omega];exact hp
 have pos_:∀b,b∈m->∃i,Z4D m b 0=some i/\m[i]? = some b:=λb hb=>by
  cases hx:Z4D m b 0 with
  |none=>exact (Z6N hx hb).elim
  |some i=>exact⟨i,rfl,by simpa using (Z2F hx).2⟩
 have hlen:(Ziy m (sgS m d) Hs' 0 Hc).length=d:=by rw[Zg4,hd]
 have hnr:∀c,c<W.heap.size->(∀(b:Nat)(o:AObj) p,Hc[b]? = some o->o.alive=true -> ι b=some p->p.blk≠c)->W'.heap[c]? = W.heap[c]?:=λc hc hno=>by
  refine hst.frame c hc λi o2 p2 hi ha hp2 e=>?_
  obtain⟨b,_,hb,hp3⟩:=atm hp2
  obtain⟨_,o,_,_,_,y2,_,y4,_⟩:=inm b hb
  exact hno b o p2 y2 y4 hp3 e
 have old:∀(b:Nat)(o:AObj)(p:Place),Hc[b]? = some o->o.alive=true->b ∉ m -> ι b=some p->W'.heap[p.blk]? = W.heap[p.blk]?:=λb o p ho hoa hb hp=>by
  refine hst.frame _ (hR.blk b p hp) λi o2 p2 hi ha hp2 e=>?_
  obtain⟨c,_,hc,hp3⟩:=atm hp2
  exact apart_ b o p ho hoa hb hp c p2 hc hp3 e
 have new_:∀(j:Nat)(x:AObj)(p:Place),Hs'[j]? = some x->x.alive=true->k<=j -> ι' j=some p->∀(b:Nat)(o:AObj)(q:Place),Hc[b]? = some o->o.alive=true->b ∉ m -> ι b=some q->q.blk≠p.blk:=by
  intro j x p hj hja hkj hp b o q ho hoa hb hq e
  rcases hst.fresh j p hp with h|h|⟨b0,o0,p0,e1,e2,e3,e4⟩
  · obtain⟨c,hc,_⟩:=atm h
    have:=(Y09.1 hc).1;omega
  ·have:=hR.blk b q hq;omega
  · obtain⟨c,_,hc,hp3⟩:=atm e3
    exact apart_ b o q ho hoa hb hq c p0 hc hp3 (e4.trans e.symm)
 have hget : ∀ (b : Nat) (o' : AObj) (p : Place), (Ziy m (sgS m d) Hs' 0 Hc ++ shS (sgS m d) d (Hs'.drop k))[b]? = some o' -> κ b = some p ->
   (b<d /\ ι b=some p/\∃o,Hc[b]? = some o/\o'.fam=o.fam/\o'.sh=o.sh/\((b ∉ m/\o'=o)\/∃i x,m[i]? = some b/\i<k/\Hs'[i]? = some x/\o'.alive=x.alive/\o'.body=Z7A (sgS m d) x.body/\o.alive=true /\ ι' i=some p)) \/
   (d<=b /\ ι' (k+(b-d))=some p/\∃x,Hs'[k+(b-d)]? = some x/\o'=⟨x.alive,b,x.sh,Z7A (sgS m d) x.body⟩):=by
  intro b o' p hb hp
  by_cases hlt:b<d
  · rw[Y0b (by omega)]at hb
    rw[k1 b hlt]at hp
    refine .inl ⟨hlt,hp,?_⟩
    rw[Zg5]at hb
    simp only[Nat.zero_add]at hb
    cases hx:Hc[b]? with
    |none=>rw[hx]at hb;cases hb
    |some o =>
     rw[hx]at hb
     simp only[Y0G,Option.some.injEq]at hb
     refine⟨o,rfl,?_⟩
     by_cases hbm:b∈m
     · obtain⟨i,h1,h2⟩:=pos_ b hbm
       have hi:i<k:=by rw[<- hk];exact (Y09.1 h2).1
       have hi':i<Hs'.length:=by omega
       rw[h1]at hb
       simp only[Y08 hi']at hb
       subst hb
       obtain⟨_,y,_,_,_,y2,_,y4,_⟩:=inm b hbm
       rw[hx]at y2;cases y2
       exact⟨rfl,rfl,.inr ⟨i,Hs'[i],h2,hi,Y08 hi',rfl,rfl,y4,hfwd i b p h2 hp⟩⟩
     · have hn : Z4D m b 0 = none := by
        cases hx:Z4D m b 0 with
        |none=>rfl
        |some i=>exact (hbm (Y0p (Z2F hx).2)).elim
       rw[hn]at hb
       subst hb
       exact⟨rfl,rfl,.inl ⟨hbm,rfl⟩⟩
  · rw[Y0i (by omega),hlen,Zjj,List.getElem?_drop]at hb
    rw[k2 b (by omega)]at hp
    cases hx:Hs'[k+(b-d)]? with
    |none=>rw[hx]at hb;cases hb
    |some x =>
     rw[hx]at hb
     simp only[Y0G,Option.some.injEq]at hb
     exact .inr ⟨by omega,hp,x,rfl,by rw[<- hb,show d+(b-d)=b by omega]⟩
 have hal:∀{b:Nat}{o o':AObj}{p:Place},((b ∉ m/\o'=o)\/∃i x,m[i]? = some b/\i<k/\Hs'[i]? = some x/\o'.alive=x.alive/\o'.body=Z7A (sgS m d) x.body/\o.alive=true /\ ι' i=some p)->o'.alive=true->o.alive=true:=λ{b o o' p} h ha=>by
  rcases h with ⟨_,rfl⟩|⟨_,_,_,_,_,_,_,h,_⟩
  ·exact ha
  ·exact h
 have hR':R sn' κ (Ziy m (sgS m d) Hs' 0 Hc++shS (sgS m d) d (Hs'.drop k)) W':=by
  refine⟨λb=>⟨λhb=>?_,λ⟨p,hp⟩=>?_⟩,λb p hp=>?_,λb o' p hb ha hp=>?_,λb b' o o' p p' hb hb' ha ha' hp hp' e=>?_,λa v hv=>?_,λb o' p hb hp e=>?_⟩
  · simp only[Y0g,hlen,ZeY,List.length_drop]at hb
    by_cases hlt:b<d
    ·rw[k1 b hlt];exact (hR.dom b).1 (by omega)
    ·rw[k2 b (by omega)];exact (hst.rel.dom _).1 (by omega)
  · simp only[Y0g,hlen,ZeY,List.length_drop]
    by_cases hlt:b<d
    ·omega
    · rw[k2 b (by omega)]at hp
      have:=(hst.rel.dom _).2 ⟨p,hp⟩;omega
  · by_cases hlt:b<d
    ·rw[k1 b hlt]at hp;exact Nat.lt_of_lt_of_le (hR.blk b p hp) hst.size
    ·rw[k2 b (by omega)]at hp;exact hst.rel.blk _ p hp
  · rcases hget b o' p hb hp with ⟨b1,b2,o,b3,b4,b5,⟨b6,rfl⟩|⟨i,x,c1,c2,c3,c4,c5,c6,c7⟩⟩|⟨b1,b2,x,b3,rfl⟩
    · refine Z0W ⟨hst.le.sn,λc p hc=>?_⟩ (old b _ p b3 ha b6 b2) (hR.obj b _ p b3 ha b2)
      rw[k1 c (by have:=(hR.dom c).2 ⟨p,hc⟩;omega)];exact hc
    · rw[c5]
      exact Zet x.body (Z5m x.body p (λy hy=>hback y (Z1i (hg2 i x c3) y hy)) (hst.rel.obj i x p c3 (by rw[<- c4];exact ha) c7))
    ·exact Zet x.body (Z5m x.body p (λy hy=>hback y (Z1i (hg2 _ x b3) y hy)) (hst.rel.obj _ x p b3 ha b2))
  · rcases hget b o p hb hp with ⟨b1,b2,x,b3,b4,b5,b6⟩|⟨b1,b2,x,b3,rfl⟩<;>rcases hget b' o' p' hb' hp' with ⟨c1,c2,y,c3,c4,c5,c6⟩|⟨c1,c2,y,c3,rfl⟩
    · rw[b4,b5,c4,c5]
      exact hR.sep b b' x y p p' b3 c3 (hal b6 ha) (hal c6 ha') b2 c2 e
    · exfalso
      rcases b6 with ⟨b6,rfl⟩|⟨i,z,d1,d2,d3,d4,d5,d6,d7⟩
      ·exact new_ _ y p' c3 ha' (by omega) c2 b _ p b3 ha b6 b2 e
      · have hs:=(hst.rel.sep i _ z y p p' d3 c3 (by rw[<- d4];exact ha) ha' d7 c2 e).1
        have:=Z71 hnA d3 c3 (by rw[<- d4];exact ha) ha' hs
        omega
    · exfalso
      rcases c6 with ⟨c6,rfl⟩|⟨i,z,d1,d2,d3,d4,d5,d6,d7⟩
      ·exact new_ _ x p b3 ha (by omega) b2 b' _ p' c3 ha' c6 c2 e.symm
      · have hs:=(hst.rel.sep _ i x z p p' b3 d3 ha (by rw[<- d4];exact ha') b2 d7 e).1
        have:=Z71 hnA b3 d3 ha (by rw[<- d4];exact ha') hs
        omega
    · have hs:=hst.rel.sep _ _ x y p p' b3 c3 ha ha' b2 c2 e
      have:=Z71 hnA b3 c3 ha ha' hs.1
      have hbb:b=b':=by omega
      exact⟨hbb,hs.2⟩
  · obtain⟨h1,h2,h3⟩:=hst.rel.snap a v hv
    refine⟨h1,h2,λb o' p hb ha hp he=>?_⟩
    rcases hget b o' p hb hp with ⟨b1,b2,o,b3,b4,b5,⟨b6,rfl⟩|⟨i,x,c1,c2,c3,c4,c5,c6,c7⟩⟩|⟨b1,b2,x,b3,rfl⟩
    · rcases hst.sfresh a v hv with f1|f1|⟨b0,o0,p0,f1,f2,f3,f4⟩
      ·exact (hR.snap a v f1).2.2 b _ p b3 ha b2 he
      ·have:=hR.blk b p b2;omega
      · obtain⟨c,_,hc,hp3⟩:=atm f3
        exact apart_ b _ p b3 ha b6 b2 c p0 hc hp3 (f4.trans he.symm)
    ·exact h3 i x p c3 (by rw[<- c4];exact ha) c7 he
    ·exact h3 _ x p b3 ha b2 he
  · rcases hget b o' p hb hp with ⟨b1,b2,o,b3,b4,b5,b6⟩|⟨b1,b2,x,b3,rfl⟩
    ·exact hR.shz b o p b3 b2 (by rw[<- b5];exact e)
    ·exact hst.rel.shz _ x p b3 b2 e
 have oldp:∀(b0:Nat)(o0:AObj)(p0:Place),Hs[b0]? = some o0->o0.alive=true->iot m ι b0=some p0->∃ (b1:Nat) (o1:AObj) (p1:Place),Hc[b1]? = some o1/\o1.alive=true /\ ι b1=some p1/\p1.blk=p0.blk:=λb0 o0 p0 e1 e2 e3=>by
  obtain⟨c,_,hc,hp3⟩:=atm e3
  obtain⟨_,o,_,_,_,y2,_,y4,_⟩:=inm c hc
  exact⟨c,o,p0,y2,y4,hp3,rfl⟩
 refine⟨v,sn',κ,rfl,?_,hR',⟨hst.le.sn,λb p hb=>?_⟩,λb p hp=>?_,hnr,hst.size,hst.os,hst.tape,hst.output,λa v hv=>?_,λb o hb=>?_⟩
 ·exact (Z7j r v).2 (Z1X r [] v (λy hy=>hback y (Z1i hrk y hy)) hv)
 ·rw[k1 b (by have:=(hR.dom b).2 ⟨p,hb⟩;omega)];exact hb
 · by_cases hlt:b<d
   ·rw[k1 b hlt]at hp;exact .inl hp
   · rw[k2 b (by omega)]at hp
     rcases hst.fresh _ p hp with h|h|⟨b0,o0,p0,e1,e2,e3,e4⟩
     · obtain⟨c,hc,_⟩:=atm h
       have:=(Y09.1 hc).1;omega
     ·exact .inr (.inl h)
     · obtain⟨b1,o1,p1,g1,g2,g3,g4⟩:=oldp b0 o0 p0 e1 e2 e3
       exact .inr (.inr ⟨b1,o1,p1,g1,g2,g3,g4.trans e4⟩)
 · rcases hst.sfresh a v hv with f1|f1|⟨b0,o0,p0,f1,f2,f3,f4⟩
   ·exact .inl f1
   ·exact .inr (.inl f1)
   · obtain⟨b1,o1,p1,g1,g2,g3,g4⟩:=oldp b0 o0 p0 f1 f2 f3
     exact .inr (.inr ⟨b1,o1,p1,g1,g2,g3,g4.trans f4⟩)
 · have hbd:b<d:=by rw[<- hd];exact (Y09.1 hb).1
   have hb':b<(Ziy m (sgS m d) Hs' 0 Hc).length:=by omega
   have hx:=Y08 hb'
   obtain⟨p,hp⟩:=hR.place hb
   rcases hget b _ p (by rw[Y0b hb'];exact hx) (by rw[k1 b hbd];exact hp)with ⟨b1,b2,o2,b3,b4,b5,b6⟩|⟨b1,_⟩
   · rw[hb]at b3;cases b3
     exact⟨_,by rw[Y0b hb'];exact hx,b4,b5,λha=>hal b6 ha⟩
   ·omega
end Go.Abs
end
section
namespace Go.Abs
open Go.RowKit
def Zw0(fs:List Nat)(H:Z00):List AV->List AV->Prop
 |[],[]=>True
 |u::l,u2::l2=>(u=u2\/frz (Zqn fs H) 30 u=some u2)/\Zw0 fs H l l2
 |_,_=>False
def WkZL(fs:List Nat)(H:Z00)(m:List Nat):List AV->List AV->Prop
 |[],[]=>True
 |u::l,u2::l2=>WkZ fs H m u u2/\WkZL fs H m l l2
 |_,_=>False
theorem WkZL.get{fs:List Nat}{H:Z00}{m:List Nat}:∀{l l2:List AV},WkZL fs H m l l2->l2.length=l.length/\∀(i:Nat)(c2:AV),l2[i]? = some c2->∃c,l[i]? = some c/\WkZ fs H m c c2
 |[],[],_=>⟨rfl,λi c2 h=>by simp at h⟩
 |u::l,u2::l2,h=>by
  obtain⟨h1,h2⟩:=h
  obtain⟨k1,k2⟩:=h2.get
  refine⟨by simp[k1],λi c2 hc=>?_⟩
  cases i with
  |zero=>simp at hc;subst hc;exact⟨u,rfl,h1⟩
  |succ i=>simpa using k2 i c2 (by simpa using hc)
 |[],_::_,h=>h.elim
 |_::_,[],h=>h.elim
theorem BodyGeZ.app{fs:List Nat}{H:Z00}{m:List Nat}{cs l l2:List AV}{ty:TypeId}(h:refsL cs []=[])(hu:WkZL fs H m l l2):BodyGeZ fs H m (.cells (cs++l) ty) (.cells (cs++l2) ty):=by
 obtain⟨k1,k2⟩:=hu.get
 refine⟨rfl,by simp[k1],λi c2 hc=>?_⟩
 by_cases hi:i<cs.length
 · rw[Y0b hi]at hc⊢
   obtain⟨_,_,h3⟩:=Y03 (m:=m) (cs:=cs) (rest:=[]) (ty:=ty) (by simp) h
   obtain⟨c,e1,e2⟩:=h3 i c2 hc
   exact⟨c,e1,.inl e2⟩
 · rw[Y0i (by omega)]at hc⊢
   exact k2 _ _ hc
end Go.Abs
end
section
namespace Go.Abs
open Go.RowKit
theorem FgS.value {k : Nat} {fs m : List Nat} {H H2 : Z00} (hp : HpGeZ fs H m m H2 0) (hfams : Z0F (m.map (Z0O H)) = true) (hkp : ZeB k 0 m = true) (hd : (m.map (Z0O H)).all (fun f => !mem f fs) = true) {sn : Z0n} {ι : Z0j} {W : World} (a : Act) (hR : R sn ι H W) {u u2 : AV} {v : Value} (hv : VR sn ι u v) (hu : WkZ fs H m u u2) :
  ∃sn' ι',Stq k sn ι H W sn' ι' H2 W/\VR sn' ι' u2 v:=by
 have h1:∀(x:AV)(n:Nat)(y:AV),Z1r (.node (some (some x)) .leaf .leaf) n=some y->n=0/\y=x:=λx n y e=>by
  cases n with
  |zero=>cases e;exact⟨rfl,rfl⟩
  |succ n=>simp only[Z1r]at e;split at e<;>cases e
 have h2:∀(x:AV)(n:Nat),tex (.node (some (some x)) .leaf .leaf) n=true->n=0:=λx n e=>by
  cases n with
  |zero=>rfl
  |succ n=>simp only[tex]at e;split at e<;>cases e
 obtain⟨sn',ι',hS,hT⟩:=FgS.giveup (k:=k) (fs:=fs) (m:=m) (tm:=.node (some (some u)) .leaf .leaf) (tm2:=.node (some (some u2)) .leaf .leaf) (λn x e=>by
  obtain⟨rfl,rfl⟩:=h1 _ _ _ e
  exact⟨u,rfl,hu⟩) (λn e=>by rw[h2 _ _ e];rfl) hp hfams hkp hd sn ι W { a with tmps:=#[v] } hR ⟨λt x e=>by
  obtain⟨rfl,rfl⟩:=h1 _ _ _ e
  exact⟨v,rfl,hv⟩,λt e=>by rw[h2 _ _ e];exact Nat.zero_lt_one⟩
 obtain⟨v',h3,h4⟩:=hT.1 0 u2 rfl
 have h5:v'=v:=by simpa using h3.symm
 exact⟨sn',ι',hS,h5 ▸ h4⟩
def ZuF(P:Program)(l:List ResultVar)(k:Nat)(r:AV)(N:Z00)(tm:Tr)(H:Z00):Prop :=
 onO (Z2T P tm H l) λvs=>∃fs m,ZeB k 0 m=true/\HpGeZ fs H m m N 0/\Z0F (m.map (Z0O H))=true/\(m.map (Z0O H)).all (λf=>!mem f fs)=true/\WkZ fs H m (Z1n vs) r
theorem Z0J {P : Program} {gl : Z0l} {orc : Orc} {k : Nat} (hm : P.follows .mixedOrders = true) (hn : NoNum P) (hO : Z06 P gl orc) {f : Nat} {fn : Func} {c : Code} {args : List AV} {H0 N : Z00} {r : AV}
  (hf:P.funcs[f]? = some fn) (hc:fn.body=some c) {cw:CW} (hcw:Zex P orc cw)
  (h:Z4l (tmk (Z9b args fn.ntmps args.length) (Z8J 20 fn.ntmps)) λtm=>Z2f P gl orc cw (ZaK k) c (ZuF P fn.results.toList k r N) (λ_ _ _=>False) (ZuF P fn.results.toList k r N) tm H0):MemQ P gl k f args H0 r N:=by
 intro sn ι W cargs hg hR ha
 rw[Z3r]at h
 refine .inl (Z3y hf hc (Z1N (rd:=none) (λ_ _ _ _ _ _ _ _ _ _ _ h=>h.elim) hm hn hO hcw c h) hg hR ha (λ_ _ _ h=>h) λx tm1 H a1 W1 sn1 ι1 hx s1 t1=>?_)
 have key:ZuF P fn.results.toList k r N tm1 H->∃v,(results fn a1.tmps).run P W1 = .ok v W1/\∃sn' ι',VR sn' ι' r v/\Stq k sn ι H0 W sn' ι' N W1:=by
  intro h
  obtain⟨us,h1,fs,m,h0,h2,h3,h4,h5⟩:=Z02 h
  obtain⟨vs,k1,k2⟩:=Z1H s1.rel t1 _ _ h1
  obtain⟨sn',ι',hS,hv⟩:=FgS.value (k:=k) h2 h3 h0 h4 a1 s1.rel (Z9l (fn:=fn) k1) h5
  exact⟨_,Z20 k2,sn',ι',hv,s1.trans hS⟩
 cases x with
 |normal =>
  obtain⟨v,k1,sn',ι',k2,k3⟩:=key hx
  exact⟨v,k1,v,sn',ι',rfl,k2,k3⟩
 |exit id=>exact hx.elim
 |ret =>
  obtain⟨v,k1,sn',ι',k2,k3⟩:=key hx
  exact⟨v,k1,v,sn',ι',rfl,k2,k3⟩
end Go.Abs
end
namespace Go.Proofs.YtkkfcfjhhdmamaaGreatDoor.lex
open Go.Abs Go.RowKit
section
variable {gl:Z0l}
def ZqO(T:List Tq):FamM Y00 gl:=Z3j T 78 (by kernel_rfl) (I:=List UInt8) (λ_ s=>PsOK T s) (λw=>[.ptr 0 0,.str w]) (λw s=>.bool (isF T s w)) (λw s=>s) (λ_=>rfl) (λi j h=>by simpa using h) (λw s h=>Zt3 h w)
def ZvO(f:Nat):Bool:=Y01 f 78 || (Y01 f 108 || Y01 f 85)
def upF(s:Ps):Ps:={ s with i:=s.i+1,op:=s.op+1 }
theorem Zpv {T : List Tq} {s : Ps} {d : Nat} (hs : PsOK T s) (hat : isF T s [45] = false /\ isF T s [33] = false -> MemQ Y00 gl 1 108 [.ptr 0 0] (psH T s) (.agg (Z3Z T (Z4F T (unF T d) 9) s).1.cells) (psH T (Z3Z T (Z4F T (unF T d) 9) s).2))
  (hrec:¬(isF T s [45]=false/\isF T s [33]=false)->s.op≠200->(unF T d (upF s)).2.op<=1000000000 /\ -1000000000<=(unF T d (upF s)).2.op/\MemQ Y00 gl 1 85 [.ptr 0 0] (psH T (upF s)) (.agg (unF T d (upF s)).1.cells) (psH T (unF T d (upF s)).2)) :
  MemQ Y00 gl 1 85 [.ptr 0 0] (psH T s) (.agg (unF T (d+1) s).1.cells) (psH T (unF T (d+1) s).2):=by
 obtain⟨O,hO,⟨p1,p2,p3,-⟩,-⟩:=Z13 (P:=Y00) (gl:=gl) [ZqO T,Z3j T 108 (by kernel_rfl) (I:=Unit) (λ_ s'=>s'=s/\(isF T s [45]=false/\isF T s [33]=false)) (λ_=>[.ptr 0 0]) (λ_ s'=>.agg (Z3Z T (Z4F T (unF T d) 9) s').1.cells) (λ_ s'=>(Z3Z T (Z4F T (unF T d) 9) s').2) (λ_=>rfl) (λ_ _ _=>rfl) (λ_ s' h=>by rw[h.1];exact hat h.2),Z3j T 85 (by kernel_rfl) (I:=Unit) (λ_ s'=>s'=upF s/\¬(isF T s [45]=false/\isF T s [33]=false)/\s.op≠200) (λ_=>[.ptr 0 0]) (λ_ s'=>.agg (unF T d s').1.cells) (λ_ s'=>(unF T d s').2) (λ_=>rfl) (λ_ _ _=>rfl) (λ_ s' h=>by rw[h.1];exact (hrec h.2.1 h.2.2).2.2)] [] rfl
 have q1:∀w X,Z0m [0] X=true->Z03 Y00 O (psH T s++X) 78 [.ptr 0 0,.str w]=some (.bool (isF T s w),psH T s++X):=λw X hX=>p1 (w,s,X) ⟨hs,hX⟩
 have q2:isF T s [45]=false/\isF T s [33]=false->∀X,Z0m [0] X=true->Z03 Y00 O (psH T s++X) 108 [.ptr 0 0]=some (.agg (Z3Z T (Z4F T (unF T d) 9) s).1.cells,psH T (Z3Z T (Z4F T (unF T d) 9) s).2++X):=λh X hX=>p2 ((),s,X) ⟨⟨rfl,h⟩,hX⟩
 have q3:¬(isF T s [45]=false/\isF T s [33]=false)->s.op≠200->∀X,Z0m [0] X=true->Z03 Y00 O (psH T (upF s)++X) 85 [.ptr 0 0]=some (.agg (unF T d (upF s)).1.cells,psH T (unF T d (upF s)).2++X):=λh h2 X hX=>p3 ((),upF s,X) ⟨⟨rfl,h,h2⟩,hX⟩
 clear p1 p2 p3
 have hx:=tq4 T s.i hs.lt
 rw[<- Z0X hs.lt]at hx
 have hlt:=hs.lt
 have hfew:=hs.few
 have hlo:=hs.lo
 have hhi:=hs.hi
 have hb:=λh h2=>(hrec h h2).1
 have hb2:=λh h2=>(hrec h h2).2.1
 have g1:=q1 [45]
 have g2:=q1 [33]
 clear hat hrec q1
 have e0:unF T (d+1) s=if isF T s [45]=false/\isF T s [33]=false then Z3Z T (Z4F T (unF T d) 9) s else if s.op=200 then (ex0,Z1t s 3 (Z15 T s).pos) else (.mk (if isF T s [33]=true then 4 else 3) 0 [] [(unF T d (upF s)).1],{ (unF T d (upF s)).2 with op:=(unF T d (upF s)).2.op-1 }):=rfl
 rw[e0]
 clear e0
 generalize isF T s [45]=b1 at *
 generalize isF T s [33]=b2 at *
 generalize Z3Z T (Z4F T (unF T d) 9) s=r1 at *
 generalize unF T d (upF s)=r2 at *
 generalize Z15 T s=t at *
 obtain⟨k,tx,nm,ps⟩:=t
 obtain⟨⟨o1,n1,nn1,ks1⟩,s1⟩:=r1
 obtain⟨⟨o2,n2,nn2,ks2⟩,⟨i2,e2,a2,p2⟩⟩:=r2
 have wa:IntKind.i64.wrap ((s.i:Int)+1)=((s.i+1:Nat):Int):=Z4B (by omega)
 have wb:IntKind.i64.wrap (s.op+1)=s.op+1:=Z2M (by omega) (by omega)
 obtain⟨i,err,at_,op⟩:=s
 simp only[Tq.cells,Ex.cells,upF]at hx hlt q2 q3 wa wb hb hb2⊢
 refine Z0J follows Z05 (Z0a follows Z05 hO 3) Tryz.func85 rfl (Z0r (isC:=ZvO) 3) ?_
 by_cases hn:b1=false/\b2=false
 · have q2b:=q2 hn
   clear q2 q3 hb hb2
   rw[if_pos hn]
   obtain⟨rfl,rfl⟩:=hn
   simp only[psH]at g1 g2 q2b⊢
   repeat' ((conv=>whnf);first|refine exI (g1 _ rfl) ?_|refine exI (g2 _ rfl) ?_|refine exI (q2b _ rfl) ?_|refine stp ?_|with_reducible apply Z01<;>intro h)
   all_goals (try (conv=>whnf))
   all_goals exact⟨[],[0],rfl,⟨⟨rfl,rfl,rfl,rfl,BodyGe.z (Y03 (rest:=[]) rfl rfl)⟩,trivial⟩,rfl,rfl,.inl (Y02 rfl)⟩
 · rw[if_neg hn]
   clear q2
   by_cases h200:op=200
   · subst h200
     rw[if_pos rfl]
     clear q3 hb hb2
     unfold Z1t
     by_cases he:err=0
     · subst he
       simp only[psH,if_true]at g1 g2⊢
       cases b1<;>cases b2<;>(try (exact absurd ⟨rfl,rfl⟩ hn))
       all_goals repeat' ((conv=>whnf);first|refine exI (g1 _ rfl) ?_|refine exI (g2 _ rfl) ?_|refine exI hx ?_|(with_reducible refine exW wa ?_)|(with_reducible refine exW wb ?_)|(with_reducible refine ixJ i rfl ?_ ?_;focus omega)|refine stp ?_|with_reducible apply Z01<;>intro h)
       all_goals (try (conv=>whnf))
       all_goals exact⟨[],[0],rfl,⟨⟨rfl,rfl,rfl,rfl,BodyGe.z (Y03 (rest:=[]) rfl rfl)⟩,trivial⟩,rfl,rfl,.inl Z61⟩
     · have g3:(err==0)=false:=by simpa using he
       simp only[psH,he,if_false]at g1 g2⊢
       cases b1<;>cases b2<;>(try (exact absurd ⟨rfl,rfl⟩ hn))
       all_goals repeat' ((conv=>whnf);first|refine exI (g1 _ rfl) ?_|refine exI (g2 _ rfl) ?_|refine exI hx ?_|(with_reducible refine exW wa ?_)|(with_reducible refine exW wb ?_)|(with_reducible refine ixJ i rfl ?_ ?_;focus omega)|refine stp ?_|with_reducible apply Z01<;>intro h)
       all_goals (try (conv=>whnf))
       all_goals exact⟨[],[0],rfl,⟨⟨rfl,rfl,rfl,rfl,BodyGe.z (Y03 (rest:=[]) rfl rfl)⟩,trivial⟩,rfl,rfl,.inl Z61⟩
   · have g5:(op==200)=false:=by simpa using h200
     have q3b:=q3 hn h200
     have hb:=hb hn h200
     have hb2:=hb2 hn h200
     rw[if_neg h200]
     clear q3
     have wc:IntKind.i64.wrap (p2-1)=p2-1:=Z2M (by omega) (by omega)
     simp only[psH]at g1 g2 q3b⊢
     cases b1<;>cases b2<;>(try (exact absurd ⟨rfl,rfl⟩ hn))
     all_goals repeat' ((conv=>whnf);first|refine exI (g1 _ rfl) ?_|refine exI (g2 _ rfl) ?_|refine exI (q3b _ rfl) ?_|refine exI hx ?_|(with_reducible refine exW wa ?_)|(with_reducible refine exW wb ?_)|(with_reducible refine exW wc ?_)|(with_reducible refine ixJ i rfl ?_ ?_;focus omega)|refine stp ?_|with_reducible apply Z01<;>intro h)
     all_goals (try (conv=>whnf))
     all_goals exact⟨[3],[0],rfl,⟨⟨rfl,rfl,rfl,rfl,BodyGe.z (Y03 (rest:=[]) rfl rfl)⟩,trivial⟩,rfl,rfl,.inr rfl⟩
end
section
variable {gl:Z0l}
def lvR(n:Nat):AV:=.tuple [.rs (lvS n).length 1 ((lvS n).map λp=>.str p.1),.rs (lvS n).length 1 ((lvS n).map λp=>.int .i64 p.2)]
theorem Zn8(n:Nat)(hn:n<=8):ValOK Y00 gl 86 [.int .i64 n] (lvR n):=by
 have hΦ : ∀r':AV,(∀sn v,VR sn noI r' v->VR sn noI (lvR n) v)->∀sn v,VR sn noI r' v->VR sn noI (lvR n) v:=λr' h=>h
 have hc:n=0\/n=1\/n=2\/n=3\/n=4\/n=5\/n=6\/n=7\/n=8:=by omega
 refine fn_valX follows Z05 Z0h hΦ Tryz.func86 rfl (Zab _ _) ?_
 clear hΦ
 rcases hc with rfl|rfl|rfl|rfl|rfl|rfl|rfl|rfl|rfl
 all_goals repeat' ((conv=>whnf);first|refine stp ?_|with_reducible apply Z01<;>intro h)
 all_goals (try (conv=>whnf))
 all_goals exact λsn v h=>h
end
section
variable {gl:Z0l}
def Zvi(f:Nat):Bool:=Y01 f 43 || (Y01 f 53 || (Y01 f 85 || Y01 f 86))
theorem Zj1{T:List Tq}{s:Ps}{w:List UInt8}(h:Z1l T s w=true):(Z0s T s w).i=s.i+1:=by
 unfold Z1l at h
 simp only[Y04,Y0k,Bool.and_eq_false_iff,beq_eq_false_iff_ne]at h
 unfold Z0s
 rw [if_pos h.1, if_neg (fun h2 => by rcases h.2 with h3 | h3
                                      ·rw[h2.1]at h3;cases h3
                                      ·exact h3 h2.2)]
theorem Zcb{T:List Tq}{i0:Nat}{rec1:Ps->Ex×Ps}(hrec:∀s,PsOK T s->i0<=s.i->PsGo T s (rec1 s).2):∀(l:List (List UInt8×Int))(x:Ex)(s:Ps)(a:Bool),PsOK T s->i0<=s.i->PsGo T s (Z2n T rec1 l x s a).2.1/\((Z2n T rec1 l x s a).2.2=true->a=true\/s.i<(Z2n T rec1 l x s a).2.1.i)
 |[],x,s,a,h,hi=>⟨⟨h,Y07 _,Y0d _⟩,λh=>.inl h⟩
 |(w,o)::l,x,s,a,h,hi=>by
  have ht:=Z5s h w
  unfold Z2n
  split
  · rename_i hb
    have h1:=Zj1 hb
    have h2:=hrec _ ht.ok (Y05 hi ht.on)
    have h3:=(Zcb hrec l (.mk o 0 [] [x,(rec1 (Z0s T s w)).1]) (rec1 (Z0s T s w)).2 true h2.ok (Y05 (Y05 hi ht.on) h2.on)).1
    refine⟨ht.trans (h2.trans h3),λ_=>.inr ?_⟩
    have:=h2.on
    have:=h3.on
    omega
  · have h3:=Zcb hrec l x (Z0s T s w) a ht.ok (Y05 hi ht.on)
    refine⟨ht.trans h3.1,λh=>?_⟩
    rcases h3.2 h with h4|h4
    ·exact .inl h4
    · have:=ht.on
      exact .inr (by omega)
structure Jo where
 k:Nat
 x:Ex
 s:Ps
 a:Bool
def zE:List AV:=[.int .i64 0,.int .i64 0,.str [],.nslice]
theorem Zo2 {T : List Tq} {n : Nat} (hn : n <= 8) {rec1 : Ps -> Ex × Ps} {s0 : Ps} (hs0 : PsOK T s0) (hrec : ∀ s, PsOK T s -> s0.i <= s.i -> PsGo T s (rec1 s).2 /\ MemQ Y00 gl 1 53 [.ptr 0 0, .int .i64 ((n + 1 : Nat) : Int)] (psH T s) (.agg (rec1 s).1.cells) (psH T (rec1 s).2)) :
  MemQ Y00 gl 1 53 [.ptr 0 0,.int .i64 (n:Nat)] (psH T s0) (.agg (Z6V T rec1 (lvS n) (T.length+1) (rec1 s0).1 (rec1 s0).2).1.cells) (psH T (Z6V T rec1 (lvS n) (T.length+1) (rec1 s0).1 (rec1 s0).2).2):=by
 obtain⟨O,hO,⟨p1,p2,-⟩,p3,-⟩:=Z13 (P:=Y00) (gl:=gl) [Z7t T,Z3j T 53 (by kernel_rfl) (I:=Unit) (λ_ s=>PsOK T s/\s0.i<=s.i) (λ_=>[.ptr 0 0,.int .i64 ((n+1:Nat):Int)]) (λ_ s=>.agg (rec1 s).1.cells) (λ_ s=>(rec1 s).2) (λ_=>rfl) (λ_ _ _=>rfl) (λ_ s h=>(hrec s h.1 h.2).2)]
  [{ I:=Unit,f:=86,G:=λ_=>True,A:=λ_=>[.int .i64 (n:Nat)],R:=λ_=>lvR n,body:=(by kernel_rfl),inj:=(λ_ _ _ _ _=>rfl),ok:=λ_ _=>⟨rfl,Zn8 n hn⟩ }] rfl
 have q1:∀w s X,PsOK T s->Z0m [0] X=true->Z03 Y00 O (psH T s++X) 43 [.ptr 0 0,.str w]=some (.bool (Z1l T s w),psH T (Z0s T s w)++X):=λw s X h hX=>p1 (w,s,X) ⟨h,hX⟩
 have q2:∀s X,PsOK T s->s0.i<=s.i->Z0m [0] X=true->Z03 Y00 O (psH T s++X) 53 [.ptr 0 0,.int .i64 ((n+1:Nat):Int)]=some (.agg (rec1 s).1.cells,psH T (rec1 s).2++X):=λs X h h2 hX=>p2 ((),s,X) ⟨⟨h,h2⟩,hX⟩
 have q3:∀H,Z03 Y00 O H 86 [.int .i64 (n:Nat)]=some (lvR n,H):=p3 () trivial
 clear p1 p2 p3
 have hgo:=λs h h2=>(hrec s h h2).1
 have hpass:=λx s a h h2=>Zcb hgo (lvS n) x s a h h2
 have h00:=hgo s0 hs0 (Y07 _)
 have hr0:=q2 s0
 have hll:(lvS n).length<=2:=by
  have hc:n=0\/n=1\/n=2\/n=3\/n=4\/n=5\/n=6\/n=7\/n=8:=by omega
  rcases hc with rfl|rfl|rfl|rfl|rfl|rfl|rfl|rfl|rfl<;>decide
 generalize hR:Z6V T rec1 (lvS n) (T.length+1) (rec1 s0).1 (rec1 s0).2=R
 obtain⟨⟨Ro,Rn,Rt,Rk⟩,Rs⟩:=R
 have wn:IntKind.i64.wrap ((n:Int)+1)=((n+1:Nat):Int):=Z4B (by omega)
 have en:((n:Int)==9)=false:=by simp;omega
 have hr0:=hr0 [⟨true,1,0,.cells zE 28⟩] hs0 (Y07 _) rfl
 have hlv:lvR n = .tuple [.rs (lvS n).length 1 ((lvS n).map λp=>.str p.1),.rs (lvS n).length 1 ((lvS n).map λp=>.int .i64 p.2)]:=rfl
 rw[hlv]at q3
 generalize hr1:rec1 s0=r1 at *
 obtain⟨⟨xo,xn,xt,xk⟩,⟨ri,re,ra,rp⟩⟩:=r1
 simp only[psH,zE,Y06,Y0a,Ex.cells]at hr0⊢
 refine Z0J follows Z05 (Z0a follows Z05 hO 3) Tryz.func53 rfl (Z0r (isC:=Zvi) 3) ?_
 repeat' ((conv=>whnf);first|(with_reducible refine exW wn ?_)|refine exI hr0 ?_|refine exI (q3 _) ?_|refine stp ?_|with_reducible apply Z01<;>intro h)
 conv=>whnf
 clear q3 hr0 hlv
 have hpass:=hpass
 generalize lvS n=l at *
 refine⟨Jo,(λy=>PsOK T y.s/\s0.i<=y.s.i/\(y.a=true->T.length-y.s.i<y.k/\Z6V T rec1 l y.k y.x y.s=(.mk Ro Rn Rt Rk,Rs))/\(y.a=false->(y.x,y.s)=(.mk Ro Rn Rt Rk,Rs))),
  (λy=>[(0,.ptr 0 0),(1,.int .i64 (n:Nat)),(4,.ptr 1 0),(5,.ptr 2 0),(6,.rs l.length 1 (l.map λp=>.str p.1)),(7,.rs l.length 1 (l.map λp=>.int .i64 p.2)),(8,.bool y.a)]),
  (λy=>psH T y.s++[⟨true,1,0,.cells zE 28⟩,⟨true,2,0,.cells y.x.cells 28⟩]),(λy=>cond y.a (y.k+1) 0),⟨⟨T.length+1,.mk xo xn xt xk,⟨ri,re,ra,rp⟩,true⟩,⟨h00.ok,h00.on,λ_=>⟨by show T.length-ri<T.length+1;omega,hR⟩,λh=>by cases h⟩,?_⟩,?_⟩
 · refine FgLK.mk [0,1,2] rfl rfl ?_ ⟨hbp,hbp,hbp,trivial⟩ rfl
   exact wks
 clear hR h00 hr1
 rintro⟨k,⟨xo,xn,xt,xk⟩,s,a⟩ ⟨hs,hi,ht,hf⟩
 dsimp only at hs hi ht hf
 (try dsimp only)
 cases a with
 |false =>
  have hf:=hf rfl
  simp only[Prod.mk.injEq,Ex.mk.injEq]at hf
  obtain⟨⟨rfl,rfl,rfl,rfl⟩,rfl⟩:=hf
  obtain⟨ri,re,ra,rp⟩:=s
  simp only[psH,Y06,Y0a,Ex.cells]
  repeat' ((conv=>whnf);first|refine stp ?_|with_reducible apply Z01<;>intro h)
  all_goals (try (conv=>whnf))
  all_goals exact⟨[],[0],rfl,⟨⟨rfl,rfl,rfl,rfl,BodyGe.z (Y03 (rest:=[]) rfl rfl)⟩,trivial⟩,rfl,rfl,.inl (Y02 rfl)⟩
 |true =>
  obtain⟨hk,hloop⟩:=ht rfl
  obtain⟨k,rfl⟩:∃k',k=k'+1:=⟨k-1,by omega⟩
  have hp:=hpass (.mk xo xn xt xk) s false hs hi
  unfold Z6V at hloop
  generalize hP:Z2n T rec1 l (.mk xo xn xt xk) s false=P at *
  obtain⟨Px,Ps',Pa⟩:=P
  simp only at hloop hp
  clear hf ht
  have hs1:=hs
  have hi1:=hi
  obtain⟨ri,re,ra,rp⟩:=s
  simp only[psH,Y06,Y0a,Ex.cells]
  repeat' ((conv=>whnf);first|refine stp ?_|with_reducible apply Z01<;>intro h)
  conv=>whnf
  refine⟨Jo,(λy=>y.k<=l.length/\PsOK T y.s/\s0.i<=y.s.i/\Z2n T rec1 (l.drop y.k) y.x y.s y.a=(Px,Ps',Pa)),
   (λy=>[(0,.ptr 0 0),(1,.int .i64 (n:Nat)),(4,.ptr 1 0),(5,.ptr 2 0),(6,.rs l.length 1 (l.map λp=>.str p.1)),(7,.rs l.length 1 (l.map λp=>.int .i64 p.2)),(8,.bool y.a),(9,.int .i64 (y.k:Nat))]),
   (λy=>psH T y.s++[⟨true,1,0,.cells zE 28⟩,⟨true,2,0,.cells y.x.cells 28⟩]),(λy=>l.length-y.k),⟨⟨0,.mk xo xn xt xk,⟨ri,re,ra,rp⟩,false⟩,⟨Y0h _,hs,hi,by rw[Y0u];exact hP⟩,?_⟩,?_⟩
  · refine FgLK.mk [0,1,2] rfl rfl ?_ ⟨hbp,hbp,hbp,trivial⟩ rfl
    exact wks
  clear hP
  rintro⟨j,⟨yo,yn,yt,yk⟩,t,b⟩ ⟨hj,ht,hti,hpf⟩
  dsimp only at hj ht hti hpf
  (try dsimp only)
  by_cases hjl:j<l.length
  · have e1:decide ((j:Int)<(l.length:Int))=true:=by simpa using hjl
    have hx6:∀off,off=j->tk 1 ((l.map λp=>AV.str p.1).drop off)=some [.str l[j].1]:=λoff e=>Z7s _ l j hjl e
    have hx7:∀off,off=j->tk 1 ((l.map λp=>AV.int .i64 p.2).drop off)=some [.int .i64 l[j].2]:=λoff e=>Z7s _ l j hjl e
    have wa:IntKind.i64.wrap ((j:Int)+1)=((j+1:Nat):Int):=Z4B (by omega)
    rw[List.drop_eq_getElem_cons hjl]at hpf
    have hg1:=Z5s ht l[j].1
    have hg2:=hgo _ hg1.ok (Y05 hti hg1.on)
    have g1:=q1 l[j].1 t [⟨true,1,0,.cells zE 28⟩,⟨true,2,0,.cells [.int .i64 yo,.int .i64 yn,.str yt,.rs yk.length 4 (exC yk)] 28⟩] ht rfl
    have g2:=q2 _ [⟨true,1,0,.cells zE 28⟩,⟨true,2,0,.cells [.int .i64 yo,.int .i64 yn,.str yt,.rs yk.length 4 (exC yk)] 28⟩] hg1.ok (Y05 hti hg1.on) rfl
    have hti2:=Y05 hti hg1.on
    have hti3:=Y05 hti2 hg2.on
    have hok1:=hg1.ok
    have hok2:=hg2.ok
    generalize hw:l[j]=w at *
    obtain⟨w,o⟩:=w
    simp only[Z2n]at hpf hx6 hx7 g1 g2 hok1 hok2 hti2 hti3
    clear q1 q2 hg1 hg2 hw hgo hrec hpass
    generalize Z1l T t w=tb at *
    generalize rec1 (Z0s T t w)=r2 at *
    generalize Z0s T t w=t2 at *
    obtain⟨⟨zo,zn,zt,zk⟩,⟨i3,e3,a3,p3⟩⟩:=r2
    obtain⟨i2,e2,a2,p2⟩:=t2
    obtain⟨i1,e1',a1,p1⟩:=t
    simp only[psH,Y06,Y0a,Ex.cells]at g1 g2⊢
    cases tb with
    |false =>
     rw[if_neg (by decide)]at hpf
     repeat' ((conv=>whnf);first|refine exI g1 ?_|refine exI (hx6 _ (by omega)) ?_|(with_reducible refine exW wa ?_)|(with_reducible refine ixJ j rfl ?_ ?_;focus omega)|refine stp ?_|with_reducible apply Z01<;>intro h)
     conv=>whnf
     refine⟨⟨j+1,.mk yo yn yt yk,⟨i2,e2,a2,p2⟩,b⟩,⟨hjl,hok1,hti2,hpf⟩,by show l.length-(j+1)<l.length-j;omega,?_⟩
     refine FgLK.mk [0,1,2] rfl rfl ?_ ⟨hbp,hbp,hbp,trivial⟩ rfl
     exact wks
    |true =>
     rw[if_pos rfl]at hpf
     repeat' ((conv=>whnf);first|refine exI g1 ?_|refine exI g2 ?_|refine exI (hx6 _ (by omega)) ?_|refine exI (hx7 _ (by omega)) ?_|(with_reducible refine exW wn ?_)|(with_reducible refine exW wa ?_)|(with_reducible refine ixJ j rfl ?_ ?_;focus omega)|refine stp ?_|with_reducible apply Z01<;>intro h)
     conv=>whnf
     refine⟨⟨j+1,.mk o 0 [] [.mk yo yn yt yk,.mk zo zn zt zk],⟨i3,e3,a3,p3⟩,true⟩,⟨hjl,hok2,hti3,hpf⟩,by show l.length-(j+1)<l.length-j;omega,?_⟩
     refine FgLK.mkZ [3] [0,1,2] rfl rfl ?_ ⟨⟨rfl,rfl,rfl,rfl,BodyGe.z (Y03 (rest:=[]) rfl rfl)⟩,⟨rfl,rfl,rfl,rfl,BodyGe.z (Y03 (rest:=[]) rfl rfl)⟩,⟨rfl,rfl,rfl,rfl,BodyGeZ.app (cs:=[]) rfl ⟨.inl (Y0c rfl),.inl (Y0c rfl),.inl (Y02 rfl),.inr rfl,trivial⟩⟩,trivial⟩ rfl rfl
     exact⟨.inl (Wk.ptr rfl rfl),.inl (Y0c rfl),.inl (Wk.ptr rfl rfl),.inl (Wk.ptr rfl rfl),.inl (Y02 rfl),.inl (Y02 rfl),.inl (Wk.bool rfl),.inl (Y0c rfl),trivial⟩
  · have e1:decide ((j:Int)<(l.length:Int))=false:=by simpa using hjl
    rw[List.drop_eq_nil_of_le (by omega)]at hpf
    simp only[Z2n,Prod.mk.injEq]at hpf
    obtain⟨rfl,rfl,rfl⟩:=hpf
    obtain⟨i1,e1',a1,p1⟩:=t
    simp only[psH,Y06,Y0a,Ex.cells]
    repeat' ((conv=>whnf);first|refine stp ?_|with_reducible apply Z01<;>intro h)
    all_goals (conv=>whnf)
    all_goals refine⟨⟨k,.mk yo yn yt yk,⟨i1,e1',a1,p1⟩,b⟩,⟨ht,hti,λhb=>?_,λhb=>?_⟩,?_,?_⟩
    · have hlt:=ht.lt
      rw[if_pos hb]at hloop
      refine⟨?_,hloop⟩
      rcases hp.2 hb with h|h
      ·cases h
      ·simp only at h hlt hk⊢;omega
    · have hb:b=false:=hb
      subst hb
      rw[if_neg (by decide)]at hloop
      exact hloop
    · cases b
      ·exact Nat.succ_pos _
      ·exact Y0t _
    · refine FgLK.mk [0,1,2] rfl rfl ?_ ⟨hbp,hbp,hbp,trivial⟩ rfl
      exact wks
end
section
variable {gl:Z0l}
theorem ZvX{T:List Tq}{s s':Ps}{e:Ex}(h:MemQ Y00 gl 1 85 [.ptr 0 0] (psH T s) (.agg e.cells) (psH T s')):MemQ Y00 gl 1 53 [.ptr 0 0,.int .i64 9] (psH T s) (.agg e.cells) (psH T s'):=by
 obtain⟨O,hO,⟨p1,-⟩,-⟩:=Z13 (P:=Y00) (gl:=gl) [Z3j T 85 (by kernel_rfl) (I:=Unit) (λ_ t=>t=s) (λ_=>[.ptr 0 0]) (λ_ t=>.agg e.cells) (λ_ t=>s') (λ_=>rfl) (λ_ _ _=>rfl) (λ_ t ht=>by rw[ht];exact h)] [] rfl
 have q1:∀X,Z0m [0] X=true->Z03 Y00 O (psH T s++X) 85 [.ptr 0 0]=some (.agg e.cells,psH T s'++X):=λX hX=>p1 ((),s,X) ⟨rfl,hX⟩
 clear p1
 obtain⟨o,n,t,ks⟩:=e
 obtain⟨a,b,c,d⟩:=s
 obtain⟨a',b',c',d'⟩:=s'
 simp only[psH,Ex.cells]at q1⊢
 refine Z0J follows Z05 (Z0a follows Z05 hO 3) Tryz.func53 rfl (Z0r (isC:=Zvi) 3) ?_
 repeat' ((conv=>whnf);first|refine exI (q1 _ rfl) ?_|refine stp ?_|with_reducible apply Z01<;>intro h)
 all_goals (try (conv=>whnf))
 all_goals exact⟨[],[0],rfl,⟨⟨rfl,rfl,rfl,rfl,BodyGe.z (Y03 (rest:=[]) rfl rfl)⟩,trivial⟩,rfl,rfl,.inl (Y02 rfl)⟩
theorem ZjJ{T:List Tq}{i0:Nat}{rec1:Ps->Ex×Ps}(hrec:∀s,PsOK T s->i0<=s.i->PsGo T s (rec1 s).2)(l:List (List UInt8×Int)):∀(k:Nat)(x:Ex)(s:Ps),PsOK T s->i0<=s.i->PsGo T s (Z6V T rec1 l k x s).2
 |0,x,s,h,hi=>⟨h,Y07 _,Y0d _⟩
 |k+1,x,s,h,hi=>by
  have hp:=(Zcb hrec l x s false h hi).1
  unfold Z6V
  split
  ·exact hp.trans (ZjJ hrec l k _ _ hp.ok (Y05 hi hp.on))
  ·exact hp
theorem lev_ok {T : List Tq} {i0 : Nat} {un : Ps -> Ex × Ps} (hun : ∀ s, PsOK T s -> i0 <= s.i -> PsGo T s (un s).2 /\ MemQ Y00 gl 1 85 [.ptr 0 0] (psH T s) (.agg (un s).1.cells) (psH T (un s).2)) : ∀ (m : Nat), m <= 9 -> ∀ s, PsOK T s -> i0 <= s.i ->
  PsGo T s (Z4F T un m s).2/\MemQ Y00 gl 1 53 [.ptr 0 0,.int .i64 ((9-m:Nat):Int)] (psH T s) (.agg (Z4F T un m s).1.cells) (psH T (Z4F T un m s).2)
 |0,_,s,hs,hi=>⟨(hun s hs hi).1,ZvX (hun s hs hi).2⟩
 |m+1,hm,s,hs,hi=>by
  have ih:=lev_ok hun m (by omega)
  have h1:=(ih s hs hi).1
  refine⟨h1.trans (ZjJ (λt h h2=>(ih t h h2).1) _ _ _ _ h1.ok (Y05 hi h1.on)),?_⟩
  have e:9-m=(8-m)+1:=by omega
  have e2:9-(m+1)=8-m:=by omega
  rw[e]at ih
  rw[e2]
  exact Zo2 (n:=8-m) (by omega) hs (λt h h2=>ih t h (Y05 hi h2))
theorem Zo4{T:List Tq}{ex:Ps->Ex×Ps}{s:Ps}(hs:PsOK T s)(hex:Z1l T s [40]=true->PsGo T (Z0s T s [40]) (ex (Z0s T s [40])).2):PsGo T s (Z3Z T ex s).2:=by
 have hup:(Z15 T s).kind≠5->PsGo T s { s with i:=s.i+1 }:=λh=>by
  rw[Z0X hs.lt]at h
  have hlo:=hs.lo
  exact⟨⟨hs.last _ hs.lt h,hs.few,hs.last,by show -((s.i+1:Nat):Int)<=s.op;omega,hs.hi⟩,Nat.le_succ _,by show s.op+(s.i:Int)<=s.op+((s.i+1:Nat):Int);omega⟩
 have ht:=Z5s hs [40]
 unfold Z3Z
 split
 ·exact⟨hs,Y07 _,Y0d _⟩
 split
 ·exact hup (by omega)
 split
 ·exact hup (by omega)
 split
 · rename_i h
   have h2:=hex h
   exact ht.trans (h2.trans (Z1o h2.ok _))
 ·exact ht.trans (Z72 ht.ok _ _)
theorem Zsx{T:List Tq}:∀(d:Nat)(s:Ps),PsOK T s->T.length-s.i<=d->PsGo T s (unF T d s).2/\MemQ Y00 gl 1 85 [.ptr 0 0] (psH T s) (.agg (unF T d s).1.cells) (psH T (unF T d s).2)
 |0,s,hs,hd=>by have:=hs.lt;omega
 |d+1,s,hs,hd=>by
  have hlt:=hs.lt
  have hlo:=hs.lo
  have hhi:=hs.hi
  have hun:∀t,PsOK T t->s.i+1<=t.i->PsGo T t (unF T d t).2/\MemQ Y00 gl 1 85 [.ptr 0 0] (psH T t) (.agg (unF T d t).1.cells) (psH T (unF T d t).2):=λt h h2=>Zsx d t h (by omega)
  have hat:Z1l T s [40]=true->PsGo T (Z0s T s [40]) (Z4F T (unF T d) 9 (Z0s T s [40])).2/\MemQ Y00 gl 1 53 [.ptr 0 0,.int .i64 0] (psH T (Z0s T s [40])) (.agg (Z4F T (unF T d) 9 (Z0s T s [40])).1.cells) (psH T (Z4F T (unF T d) 9 (Z0s T s [40])).2):=λh=>by
   have h1:=Zj1 h
   exact lev_ok hun 9 (by omega) _ (Z5s hs [40]).ok (by omega)
  have hup:¬(isF T s [45]=false/\isF T s [33]=false)->s.op≠200->PsOK T (upF s):=λh h2=>by
   have hk:(Z15 T s).kind≠5:=by
    cases h1:isF T s [45] with
    |true=>exact Z52 h1
    |false =>
     cases h3:isF T s [33] with
     |true=>exact Z52 h3
     |false=>exact absurd ⟨h1,h3⟩ h
   rw[Z0X hlt]at hk
   exact⟨hs.last _ hlt hk,hs.few,hs.last,by show -((s.i+1:Nat):Int)<=s.op+1;omega,by show s.op+1<=200;omega⟩
  refine⟨?_,Zpv hs (λ_=>Zs4 hs (λh=>⟨(hat h).1.ok,(hat h).2⟩)) (λh h2=>?_)⟩
  · have e0:unF T (d+1) s=if isF T s [45]=false/\isF T s [33]=false then Z3Z T (Z4F T (unF T d) 9) s else if s.op=200 then (ex0,Z1t s 3 (Z15 T s).pos) else (.mk (if isF T s [33]=true then 4 else 3) 0 [] [(unF T d (upF s)).1],{ (unF T d (upF s)).2 with op:=(unF T d (upF s)).2.op-1 }):=rfl
    rw[e0]
    split
    ·exact Zo4 hs (λh=>(hat h).1)
    · rename_i h
      split
      ·exact Z72 hs _ _
      · rename_i h2
        have h3:=hun (upF s) (hup h h2) (Y07 _)
        obtain⟨hok,hon,hlo2⟩:=h3.1
        have h4:s.i+1<=(unF T d (upF s)).2.i:=hon
        have h5:s.op+1+((s.i+1:Nat):Int)<=(unF T d (upF s)).2.op+(unF T d (upF s)).2.i:=hlo2
        have h6:=hok.hi
        exact⟨⟨hok.lt,hok.few,hok.last,by show -((unF T d (upF s)).2.i:Int)<=(unF T d (upF s)).2.op-1;omega,by show (unF T d (upF s)).2.op-1<=200;omega⟩,by show s.i<=(unF T d (upF s)).2.i;omega,by show s.op+(s.i:Int)<=(unF T d (upF s)).2.op-1+((unF T d (upF s)).2.i:Int);omega⟩
  · have h3:=hun (upF s) (hup h h2) (Y07 _)
    have h6:=h3.1.ok.hi
    have h7:=h3.1.ok.lo
    have h8:=h3.1.ok.lt
    have h9:=hs.few
    exact⟨by omega,by omega,h3.2⟩
def Z2q(T:List Tq)(s:Ps):Ex×Ps:=Z4F T (unF T T.length) 9 s
theorem Zfr{T:List Tq}{s:Ps}(hs:PsOK T s):PsGo T s (Z2q T s).2/\MemQ Y00 gl 1 53 [.ptr 0 0,.int .i64 0] (psH T s) (.agg (Z2q T s).1.cells) (psH T (Z2q T s).2) :=
 lev_ok (i0:=0) (λt h _=>Zsx T.length t h (by omega)) 9 (by omega) s hs (Y0h _)
end
section
variable {gl:Z0l}
def Kp(s s':Ps):Prop:=s.err≠0->s'.err≠0
theorem Kp.rfl'{s:Ps}:Kp s s:=λh=>h
theorem Kp.trans{a b c:Ps}(h:Kp a b)(k:Kp b c):Kp a c:=λe=>k (h e)
theorem Zcs(s:Ps)(e a:Int):Kp s (Z1t s e a):=λh=>by unfold Z1t;rw[if_neg h];exact h
theorem ZdS(s:Ps){e:Int}(a:Int)(he:e≠0):(Z1t s e a).err≠0:=by
 unfold Z1t;split
 ·exact he
 ·assumption
theorem Z9M{T:List Tq}{s:Ps}{w:List UInt8}(h:s.err≠0):isF T s w=false:=by
 unfold isF;simp[h]
theorem Z5r(T:List Tq)(s:Ps)(w:List UInt8):Kp s (Z0s T s w):=λh=>by
 unfold Z0s;rw[Z9M h];simpa using h
theorem Z5C(T:List Tq)(s:Ps)(w:List UInt8):Kp s (Z0z T s w):=λh=>by
 unfold Z0z;split
 ·exact Z5r T s w h
 ·exact Zcs _ _ _ (Z5r T s w h)
theorem Zm7(T:List Tq)(s:Ps):Kp s (Z23 T s):=λh=>by
 unfold Z23 Z96
 simp only[show (s.err==0)=false by simpa using h,Bool.false_and,Y0j,if_false]
 exact Zcs _ _ _ h
theorem Zm6(T:List Tq)(s:Ps):(Z23 T s).err≠0\/(Z23 T s).i=s.i+1:=by
 unfold Z23;split
 ·exact .inr rfl
 ·exact .inl (ZdS _ _ (by decide))
theorem Zb3(T:List Tq):∀(l:List (List UInt8))(s:Ps)(k:Int),Kp s (Z0A T s l k).2
 |[],s,k=>Zcs _ _ _
 |w::l,s,k=>by
  unfold Z0A;split
  ·exact Z5r T s w
  ·exact (Z5r T s w).trans (Zb3 T l _ _)
theorem Z3P{T:List Tq}:∀(l:List (List UInt8))(s:Ps)(k:Int),PsOK T s->PsGo T s (Z0A T s l k).2
 |[],s,k,h=>Z72 h _ _
 |w::l,s,k,h=>by
  have h1:=Z5s h w
  unfold Z0A;split
  ·exact h1
  ·exact h1.trans (Z3P l _ _ h1.ok)
theorem ZbF{T:List Tq}{s:Ps}(hs:PsOK T s):PsGo T s (Z23 T s):=by
 refine⟨Z8E hs,?_,?_⟩
 · unfold Z23 Z1t
   repeat' split
   all_goals (try exact Y07 _)
   all_goals exact Nat.le_succ _
 · unfold Z23 Z1t
   repeat' split
   all_goals (try exact Y0d _)
   all_goals (simp only;omega)
theorem Zca{T:List Tq}{rec1:Ps->Ex×Ps}(hrec:∀s,Kp s (rec1 s).2):∀(l:List (List UInt8×Int))(x:Ex)(s:Ps)(a:Bool),Kp s (Z2n T rec1 l x s a).2.1
 |[],x,s,a=>Kp.rfl'
 |(w,o)::l,x,s,a=>by
  unfold Z2n;split
  ·exact (Z5r T s w).trans ((hrec _).trans (Zca hrec l _ _ _))
  ·exact (Z5r T s w).trans (Zca hrec l _ _ _)
theorem ZjI{T:List Tq}{rec1:Ps->Ex×Ps}(hrec:∀s,Kp s (rec1 s).2)(l:List (List UInt8×Int)):∀(k:Nat)(x:Ex)(s:Ps),Kp s (Z6V T rec1 l k x s).2
 |0,x,s=>Kp.rfl'
 |k+1,x,s=>by
  unfold Z6V;split
  ·exact (Zca hrec l _ _ _).trans (ZjI hrec l k _ _)
  ·exact Zca hrec l _ _ _
theorem Zlu{T:List Tq}{un:Ps->Ex×Ps}(hun:∀s,Kp s (un s).2):∀(m:Nat)(s:Ps),Kp s (Z4F T un m s).2
 |0,s=>hun s
 |m+1,s=>by
  unfold Z4F
  exact (Zlu hun m s).trans (ZjI (Zlu hun m) _ _ _ _)
theorem Zs5{T:List Tq}{ex:Ps->Ex×Ps}(s:Ps):Kp s (Z3Z T ex s).2:=λh=>by
 unfold Z3Z;rw[if_pos h];exact h
theorem Zu9(T:List Tq):∀(d:Nat)(s:Ps),Kp s (unF T d s).2
 |0,s=>Kp.rfl'
 |d+1,s=>λh=>by
  unfold unF
  rw[if_pos ⟨Z9M h,Z9M h⟩]
  exact Zs5 s h
theorem ZgU(T:List Tq)(s:Ps):Kp s (Z2q T s).2:=Zlu (Zu9 T _) 9 s
theorem Z73{T:List Tq}{s:Ps}(hs:PsOK T s):PsGo T s (Z2q T s).2:=(Zfr (gl:=λ_=>none) hs).1
def Z0g(s:Ps):Ps:={ s with i:=s.i+1 }
theorem Z0b{T:List Tq}{s:Ps}(hs:PsOK T s){w:List UInt8}(h:isF T s w=true):PsGo T s (Z0g s):=by
 have hk:=Z52 h
 rw[Z0X hs.lt]at hk
 have hlo:=hs.lo
 exact⟨⟨hs.last _ hs.lt hk,hs.few,hs.last,by show -((s.i+1:Nat):Int)<=s.op;omega,hs.hi⟩,Nat.le_succ _,by show s.op+(s.i:Int)<=s.op+((s.i+1:Nat):Int);omega⟩
def kwB(w:List UInt8):Bool:=!upB w && !dnB w
theorem Z1f{T:List Tq}{s:Ps}{w:List UInt8}(hw:kwB w=true):Z1l T s w=isF T s w/\Z0s T s w=if isF T s w=true then Z0g s else s:=by
 unfold kwB at hw
 simp only[Y04,Y0k]at hw
 unfold Z1l Z0s Z0g
 rw[hw.1,hw.2]
 simp
def ZeI(T:List Tq):FamM Y00 gl:=Z3j T 79 (by kernel_rfl) (I:=Unit) (λ_ s=>PsOK T s) (λ_=>[.ptr 0 0]) (λ_ s=>.str (Z4J T s)) (λ_ s=>Z23 T s) (λ_=>rfl) (λ_ _ _=>rfl) (λ_ s h=>ZmG h)
def Zoy(T:List Tq):FamM Y00 gl:=Z3j T 128 (by kernel_rfl) (I:=Unit) (λ_ s=>PsOK T s) (λ_=>[.ptr 0 0]) (λ_ s=>.int .i64 (Z0A T s ordL 1).1) (λ_ s=>(Z0A T s ordL 1).2) (λ_=>rfl) (λ_ _ _=>rfl) (λ_ s h=>ZmP h)
def Zfs(T:List Tq):FamM Y00 gl:=Z3j T 53 (by kernel_rfl) (I:=Unit) (λ_ s=>PsOK T s) (λ_=>[.ptr 0 0,.int .i64 0]) (λ_ s=>.agg (Z2q T s).1.cells) (λ_ s=>(Z2q T s).2) (λ_=>rfl) (λ_ _ _=>rfl) (λ_ s h=>(Zfr h).2)
def Z7X(T:List Tq)(s:Ps):Ex×Ps:=((Z2q T (Z0z T s [40])).1,Z0z T (Z2q T (Z0z T s [40])).2 [41])
theorem Z7W{T:List Tq}{s:Ps}(hs:PsOK T s):PsGo T s (Z7X T s).2:=by
 have h1:=Z1o hs [40]
 have h2:=Z73 h1.ok
 exact h1.trans (h2.trans (Z1o h2.ok _))
def ZvS(f:Nat):Bool:=Y01 f 80 || Y01 f 53
theorem ZtI{T:List Tq}{s:Ps}(hs:PsOK T s):MemQ Y00 gl 1 110 [.ptr 0 0] (psH T s) (.agg (Z7X T s).1.cells) (psH T (Z7X T s).2):=by
 obtain⟨O,hO,⟨p1,p2,-⟩,-⟩:=Z13 (P:=Y00) (gl:=gl) [Z68 T,Zfs T] [] rfl
 have qn:∀w s X,PsOK T s->Z0m [0] X=true->Z03 Y00 O (psH T s++X) 80 [.ptr 0 0,.str w]=some (.tuple [],psH T (Z0z T s w)++X):=λw s X h hX=>p1 (w,s,X) ⟨h,hX⟩
 have qe:∀s X,PsOK T s->Z0m [0] X=true->Z03 Y00 O (psH T s++X) 53 [.ptr 0 0,.int .i64 0]=some (.agg (Z2q T s).1.cells,psH T (Z2q T s).2++X):=λs X h hX=>p2 ((),s,X) ⟨h,hX⟩
 clear p1 p2
 have h1:=Z5B hs [40]
 have h2:=(Z73 h1).ok
 have g1:=λX=>qn [40] s X hs
 have g2:=λX=>qe _ X h1
 have g3:=λX=>qn [41] _ X h2
 clear qn qe
 unfold Z7X
 generalize Z0z T s [40]=s1 at *
 generalize Z2q T s1=r at *
 obtain⟨⟨o,n,nn,ks⟩,s2⟩:=r
 simp only at g3 h2⊢
 generalize Z0z T s2 [41]=s3 at *
 simp only[psH,Ex.cells]at g1 g2 g3⊢
 refine Z1J ZvS 3 follows Z05 hO Tryz.func110 rfl ?_
 repeat' ((conv=>whnf);first|refine exI (g1 _ rfl) ?_|refine exI (g2 _ rfl) ?_|refine exI (g3 _ rfl) ?_|refine stp ?_|with_reducible apply Z01<;>intro h)
 all_goals (try (conv=>whnf))
 all_goals exact⟨[0],rfl,⟨hbp,trivial⟩,rfl,Y02 rfl⟩
end
section
variable {gl:Z0l}
def Z9X:AV->Bool
 | .bool _=>true
 | .int _ _=>true
 | .str _=>true
 | .rs _ _ _=>true
 |_=>false
theorem Znm{H:Z00}{n:Nat}:∀{u:AV},Z9X u=true->frz H (n+1) u=some u
 | .bool _,_=>rfl
 | .int _ _,_=>rfl
 | .str _,_=>rfl
 | .rs _ _ _,_=>rfl
theorem ZdL{H:Z00}{n:Nat}:∀{cs:List AV},cs.all Z9X=true->Z22 (frz H (n+1)) cs=some cs
 |[],_=>rfl
 |c::cs,h=>by
  simp only[List.all_cons,Y04]at h
  simp only[Z22,Znm h.1,ZdL h.2]
theorem Z1g{H:Z00}{n b f sh len cap z:Nat}{cs:List AV}{ty:TypeId}(hH:H[b]? = some ⟨true,f,sh,.cells cs ty⟩)(hc:cs.length=len*z)(hl:cs.all Z9X=true):frz H (n+2) (.slice b 0 len cap z)=some (.rs len z cs):=by
 cases len with
 |zero =>
  have:cs=[]:=Y0H (by omega)
  subst this;rfl
 |succ m =>
  have h2:Z22 (frz H (n+1)) cs=some cs:=ZdL hl
  unfold frz
  simp only[hH,Y0u,Zgd hc]
  rw[h2]
def Zns:AV->Bool
 | .bool _=>true
 | .int _ _=>true
 | .str _=>true
 | .rs _ _ _=>true
 | .nslice=>true
 |_=>false
theorem Zjo:∀{u:AV}{acc:List Nat},Zns u=true->Z1m u acc=acc
 | .bool _,_,_=>by simp only[Z1m]
 | .int _ _,_,_=>by simp only[Z1m]
 | .str _,_,_=>by simp only[Z1m]
 | .rs _ _ _,_,_=>by simp only[Z1m]
 | .nslice,_,_=>by simp only[Z1m]
theorem ZaX:∀{l:List AV}{acc:List Nat},l.all Zns=true->refsL l acc=acc
 |[],_,_=>by simp only[refsL]
 |c::l,acc,h=>by
  simp only[List.all_cons,Y04]at h
  simp only[refsL,Zjo h.1,ZaX h.2]
theorem Ztg:∀{l:List AV},l.all Z9X=true->l.all Zns=true:=by
 intro l h
 rw[Y0C]at h⊢
 intro u hu
 have:=h u hu
 cases u<;>simp_all[Z9X,Zns]
end
section
variable {gl:Z0l}
def Zfq(T:List Tq):Nat->Ps->List Ex×Ps
 |0,s=>([],s)
 |n+1,s=>((Z2q T (Z0z T s [44])).1::(Zfq T n (Z2q T (Z0z T s [44])).2).1,(Zfq T n (Z2q T (Z0z T s [44])).2).2)
theorem Zkm{T:List Tq}:∀(n:Nat){s:Ps},PsOK T s->PsGo T s (Zfq T n s).2
 |0,s,h=>⟨h,Y07 _,Y0d _⟩
 |n+1,s,h=>by
  have h1:=Z1o h [44]
  have h2:=Z73 h1.ok
  exact h1.trans (h2.trans (Zkm n h2.ok))
theorem Zkl(T:List Tq):∀(n:Nat)(s:Ps),Kp s (Zfq T n s).2
 |0,s=>Kp.rfl'
 |n+1,s=>(Z5C T s [44]).trans ((ZgU T _).trans (Zkl T n _))
def Zax(T:List Tq)(name:List UInt8)(kind:Int)(n:Nat)(s:Ps):St×Ps :=
 let s1:=Z0z T s [40]
 let r:=Zfq T n (Z23 T s1)
 let o:=Z0A T (Z0z T r.2 [44]) ordL 1
 (.mk kind name (Z4J T s1) o.1 r.1 [] [],Z0z T o.2 [41])
theorem Zaq{T:List Tq}{s:Ps}(hs:PsOK T s)(name:List UInt8)(kind:Int)(n:Nat):PsGo T s (Zax T name kind n s).2:=by
 have h1:=Z1o hs [40]
 have h2:=ZbF h1.ok
 have h3:=Zkm n h2.ok
 have h4:=Z1o h3.ok [44]
 have h5:=Z3P ordL _ 1 h4.ok
 exact h1.trans (h2.trans (h3.trans (h4.trans (h5.trans (Z1o h5.ok _)))))
theorem ZcQ(T:List Tq)(s:Ps)(name:List UInt8)(kind:Int)(n:Nat):Kp s (Zax T name kind n s).2 :=
 (Z5C T s [40]).trans ((Zm7 T _).trans ((Zkl T n _).trans ((Z5C T _ _).trans ((Zb3 T ordL _ 1).trans (Z5C T _ _)))))
theorem Zc4:∀l:List Ex,(exC l).all Z9X=true
 |[]=>by simp only[exC];rfl
 | .mk _ _ _ _::l=>by simp only[exC,Ex.cells,Y0E,Zc4 l,Y0n];rfl
theorem Zc5:∀l:List St,(stC l).all Z9X=true
 |[]=>by simp only[stC];rfl
 | .mk _ _ _ _ _ _ _::l=>by simp only[stC,St.cells,Y0E,Zc5 l,Y0n];rfl
theorem Zkc{cs:List AV}(h:cs.all Z9X=true):refsL cs []=[]:=ZaX (Ztg h)
theorem Z0c{m:List Nat}{cs cs2:List AV}{ty:TypeId}(e:cs=cs2)(h:cs2.all Z9X=true):BodyGe m (.cells cs ty) (.cells cs2 ty):=Y03 (rest:=[]) (by rw[e,Y0l]) (Zkc h)
theorem Zq8(l:List Ex)(o n:Int)(t:List UInt8)(ks:List Ex):exC l++[.int .i64 o,.int .i64 n,.str t,.rs ks.length 4 (exC ks)]=exC (l++[.mk o n t ks]):=by rw[Zkq];simp only[exC,Ex.cells,Y0l]
def exS:List Ex->AV
 |[]=>.nslice
 |e::l=>.slice 3 0 (l.length+1) (l.length+1) 4
def exB:List Ex->Z00
 |[]=>[]
 |e::l=>[⟨true,3,0,.cells (exC (e::l)) 28⟩]
def zS:List AV:=[.int .i64 0,.str [],.str [],.int .i64 0,.nslice,.nslice,.nslice]
def exN:List Ex->AV
 |[]=>.nslice
 |e::l=>exA (e::l)
theorem Zr2{H:Z00}{n:Nat}{k o:Int}{a b:List UInt8}{x x':AV}(h:frz H (n+1) x=some x'):frz H (n+2) (.agg [.int .i64 k,.str a,.str b,.int .i64 o,x,.nslice,.nslice])=some (.agg [.int .i64 k,.str a,.str b,.int .i64 o,x',.nslice,.nslice]):=by
 have e:∀u,frz H (n+2) (.agg u)=match Z22 (frz H (n+1)) u with|some l=>some (.agg l)|none=>none:=λu=>rfl
 rw[e]
 have e2:∀u:AV,lit u=true->frz H (n+1) u=some u:=λu hu=>Zk5 hu
 clear e
 simp only[Z22,h,e2 (.int .i64 k) rfl,e2 (.str a) rfl,e2 (.str b) rfl,e2 (.int .i64 o) rfl,show frz H (n+1) .nslice=some .nslice from rfl]
def stN:List St->AV
 |[]=>.nslice
 |e::l=>stA (e::l)
theorem Ztq{sn:Z0n}{ι : Z0j}{v:Value}:∀{l:List Ex},VR sn ι (exN l) v->VR sn ι (exA l) v
 |[],h=>Z9x h
 |_::_,h=>h
theorem Zj9{sn:Z0n}{ι : Z0j}{v:Value}:∀{l:List St},VR sn ι (stN l) v->VR sn ι (stA l) v
 |[],h=>Z9x h
 |_::_,h=>h
theorem Zoo{sn:Z0n}{ι : Z0j}{v:Value}{k o:Int}{a b:List UInt8}{x:List Ex}{t e:List St}(h:VR sn ι (.agg [.int .i64 k,.str a,.str b,.int .i64 o,exN x,stN t,stN e]) v):VR sn ι (.agg (St.mk k a b o x t e).cells) v:=by
 obtain⟨d,rfl,d1,l1,f1,a1,d2,l2,rfl,a2,d3,l3,rfl,a3,d4,l4,rfl,a4,d5,l5,rfl,a5,d6,l6,rfl,a6,d7,l7,rfl,a7,h1⟩:=h.agg
 exact Z2Y ⟨_,_,f1,a1,_,_,rfl,a2,_,_,rfl,a3,_,_,rfl,a4,_,_,rfl,Ztq a5,_,_,rfl,Zj9 a6,_,_,rfl,Zj9 a7,h1⟩
theorem MemQ.conv{k f:Nat}{args:List AV}{H H':Z00}{r r':AV}(h:MemQ Y00 gl k f args H r H')(hr:∀sn ι v,VR sn ι r v->VR sn ι r' v):MemQ Y00 gl k f args H r' H':=λsn ι W cargs hg hR ha =>
 (h sn ι W cargs hg hR ha).mono λe W' ⟨v,sn',ι',e1,e2,e3⟩=>⟨v,sn',ι',e1,hr _ _ _ e2,e3⟩
def ZvV(f:Nat):Bool:=Y01 f 80 || (Y01 f 53 || (Y01 f 79 || Y01 f 128))
structure As where
 l:List Ex
 s:Ps
theorem ZhM{T:List Tq}{s:Ps}(hs:PsOK T s)(name:List UInt8)(kind:Int)(n:Nat)(hn:n<=2):MemQ Y00 gl 1 127 [.ptr 0 0,.str name,.int .i64 kind,.int .i64 n] (psH T s) (.agg (Zax T name kind n s).1.cells) (psH T (Zax T name kind n s).2):=by
 obtain⟨O,hO,⟨p1,p2,p3,p4,-⟩,-⟩:=Z13 (P:=Y00) (gl:=gl) [Z68 T,Zfs T,ZeI T,Zoy T] [] rfl
 have qn:∀w s X,PsOK T s->Z0m [0] X=true->Z03 Y00 O (psH T s++X) 80 [.ptr 0 0,.str w]=some (.tuple [],psH T (Z0z T s w)++X):=λw s X h hX=>p1 (w,s,X) ⟨h,hX⟩
 have qe:∀s X,PsOK T s->Z0m [0] X=true->Z03 Y00 O (psH T s++X) 53 [.ptr 0 0,.int .i64 0]=some (.agg (Z2q T s).1.cells,psH T (Z2q T s).2++X):=λs X h hX=>p2 ((),s,X) ⟨h,hX⟩
 have qw:∀s X,PsOK T s->Z0m [0] X=true->Z03 Y00 O (psH T s++X) 79 [.ptr 0 0]=some (.str (Z4J T s),psH T (Z23 T s)++X):=λs X h hX=>p3 ((),s,X) ⟨h,hX⟩
 have qo:∀s X,PsOK T s->Z0m [0] X=true->Z03 Y00 O (psH T s++X) 128 [.ptr 0 0]=some (.int .i64 (Z0A T s ordL 1).1,psH T (Z0A T s ordL 1).2++X):=λs X h hX=>p4 ((),s,X) ⟨h,hX⟩
 clear p1 p2 p3 p4
 have hT:Zhl Y00 26 26=some (28,4,56):=by kernel_rfl
 have h1:=Z5B hs [40]
 have h2:=Z8E h1
 have g1:=λX=>qn [40] s X hs
 have g2:=λX=>qw _ X h1
 clear qw
 unfold Zax
 simp only
 generalize Z0z T s [40]=s1 at *
 generalize Z4J T s1=loc at *
 generalize Z23 T s1=s2 at *
 generalize hR:Zfq T n s2=R
 obtain⟨RL,RS⟩:=R
 have hI:([]:List Ex).length<=n/\PsOK T s2/\[]++(Zfq T (n-([]:List Ex).length) s2).1=RL/\(Zfq T (n-([]:List Ex).length) s2).2=RS:=⟨Y0h _,h2,by rw[Y0m,Nat.sub_zero,hR];rfl,by rw[Y0m,Nat.sub_zero,hR]⟩
 clear hR
 simp only
 refine MemQ.conv (r:=.agg [.int .i64 kind,.str name,.str loc,.int .i64 (Z0A T (Z0z T RS [44]) ordL 1).1,exN RL,.nslice,.nslice]) ?_ ?_
 · simp only[psH]at g1 g2⊢
   refine Z0J follows Z05 (Z0a follows Z05 hO 3) Tryz.func127 rfl (Z0r (isC:=ZvV) 3) ?_
   repeat' ((conv=>whnf);first|refine exI (g1 _ rfl) ?_|refine exI (g2 _ rfl) ?_|refine stp ?_|with_reducible apply Z01<;>intro h)
   conv=>whnf
   refine⟨As,(λx=>x.l.length<=n/\PsOK T x.s/\x.l++(Zfq T (n-x.l.length) x.s).1=RL/\(Zfq T (n-x.l.length) x.s).2=RS),(λx=>[(0,.ptr 0 0),(1,.str name),(2,.int .i64 kind),(3,.int .i64 n),(8,.ptr 1 0),(9,.ptr 2 0),(10,.int .i64 (x.l.length:Nat))]),
    (λx=>psH T x.s++[⟨true,1,0,.cells zS 49⟩,⟨true,2,0,.cells [.int .i64 kind,.str name,.str loc,.int .i64 0,exS x.l,.nslice,.nslice] 49⟩]++exB x.l),(λx=>n-x.l.length),⟨⟨[],s2⟩,hI,?_⟩,?_⟩
   · refine FgLK.mk [0,1,2] rfl rfl ?_ ⟨hbp,hbp,hbp,trivial⟩ rfl
     exact wks
   clear hI g1 g2
   rintro⟨l,s⟩ ⟨hl,hsk,hL,hS⟩
   dsimp only at hl hsk hL hS
   (try dsimp only)
   by_cases hlt:l.length<n
   · have e1:decide ((l.length:Int)<(n:Int))=true:=by simpa using hlt
     have wa:IntKind.i64.wrap ((l.length:Int)+1)=((l.length+1:Nat):Int):=Z4B (by omega)
     obtain⟨m,hm⟩:∃m,n-l.length=m+1:=⟨n-l.length-1,by omega⟩
     rw[hm]at hL hS
     simp only[Zfq]at hL hS
     have k1:=Z5B hsk [44]
     have k2:=(Z73 k1).ok
     have g1:=λX=>qn [44] s X hsk
     have g2:=λX=>qe _ X k1
     clear qn qe qo
     generalize Z0z T s [44]=s3 at *
     generalize Z2q T s3=r at *
     obtain⟨⟨o,nu,nn,ks⟩,s4⟩:=r
     simp only[psH,Ex.cells]at g1 g2 k2 hL hS⊢
     rcases l with _|⟨a,l⟩
     · simp only[exS,exB]
       repeat' ((conv=>whnf);first|refine exI (g1 _ rfl) ?_|refine exI (g2 _ rfl) ?_|(with_reducible refine exW wa ?_)|(refine apS ?_)|refine stp ?_|with_reducible apply Z01<;>intro h)
       conv=>whnf
       refine⟨⟨[.mk o nu nn ks],s4⟩,⟨hlt,k2,?_,?_⟩,?_,?_⟩
       · show _::_=_
         have e3:n-[Ex.mk o nu nn ks].length=m:=by simp at hm⊢;omega
         rw[e3];exact hL
       · have e3:n-[Ex.mk o nu nn ks].length=m:=by simp at hm⊢;omega
         simp only
         rw[e3];exact hS
       ·simp at hlt⊢;omega
       · refine FgLK.mk [0,1,2,4] rfl rfl ?_ ⟨hbp,hbp,⟨rfl,rfl,rfl,rfl,BodyGe.cellsL ?_⟩,⟨rfl,rfl,rfl,rfl,Z0c rfl (Zc4 [.mk o nu nn ks])⟩,trivial⟩ rfl
         ·exact wks
         · dsimp only[exS,Y0m]
           exact wks
     · have hcl:(exC (a::l)).length=(l.length+1)*4:=Zcx _
       have hsn:=Zq8 (a::l) o nu nn ks
       simp only[Y0e]at hl hlt wa hm e1
       simp only[exS,exB,Y0e]
       repeat' ((conv=>whnf);first|refine exI (g1 _ rfl) ?_|refine exI (g2 _ rfl) ?_|(with_reducible refine exW wa ?_)|(refine apS ?_)|refine stp ?_|with_reducible apply Z01<;>intro h)
       conv=>whnf
       have e3:n-((a::l)++[Ex.mk o nu nn ks]).length=m:=by simp;omega
       refine⟨⟨(a::l)++[.mk o nu nn ks],s4⟩,⟨by simp;omega,k2,?_,?_⟩,?_,?_⟩
       · simp only
         rw[e3,<- hL];simp
       · simp only
         rw[e3];exact hS
       ·simp;omega
       · refine FgLK.mk [0,1,2,5] rfl rfl ?_ ⟨hbp,hbp,⟨rfl,rfl,rfl,rfl,BodyGe.cellsL ?_⟩,⟨rfl,rfl,rfl,rfl,Z0c hsn (Zc4 _)⟩,trivial⟩ rfl
         ·exact wks
         · show WkL _ _ [_,_,_,_,exS ((a::l)++[Ex.mk o nu nn ks]),_,_]
           rw[show exS ((a::l)++[Ex.mk o nu nn ks]) = .slice 3 0 (l.length+1+1) (l.length+1+1) 4 by simp[exS]]
           exact wks
   · have e1:decide ((l.length:Int)<(n:Int))=false:=by simpa using hlt
     have e3:n-l.length=0:=by omega
     rw[e3]at hL hS
     simp only[Zfq,Y0l]at hL hS
     subst hL hS
     have k1:=Z5B hsk [44]
     have k2:=(Z3P ordL _ 1 k1).ok
     have g1:=λX=>qn [44] s X hsk
     have g2:=λX=>qo _ X k1
     have g3:=λX=>qn [41] _ X k2
     clear qn qe qo
     generalize Z0z T s [44]=s3 at *
     generalize Z0A T s3 ordL 1=r at *
     obtain⟨o,s4⟩:=r
     simp only at g3 k2⊢
     generalize Z0z T s4 [41]=s5 at *
     simp only[psH]at g1 g2 g3⊢
     rcases l with _|⟨a,l⟩
     · simp only[exS,exB,exN]
       repeat' ((conv=>whnf);first|refine exI (g1 _ rfl) ?_|refine exI (g2 _ rfl) ?_|refine exI (g3 _ rfl) ?_|refine stp ?_|with_reducible apply Z01<;>intro h)
       conv=>whnf
       exact⟨[],[0],rfl,⟨⟨rfl,rfl,rfl,rfl,BodyGe.z (Y03 (rest:=[]) rfl rfl)⟩,trivial⟩,rfl,rfl,.inl (Y02 rfl)⟩
     · have hcl:(exC (a::l)).length=(l.length+1)*4:=Zcx _
       simp only[exS,exB,exN]
       repeat' ((conv=>whnf);first|refine exI (g1 _ rfl) ?_|refine exI (g2 _ rfl) ?_|refine exI (g3 _ rfl) ?_|refine stp ?_|with_reducible apply Z01<;>intro h)
       conv=>whnf
       exact⟨[3],[0],rfl,⟨⟨rfl,rfl,rfl,rfl,BodyGe.z (Y03 (rest:=[]) rfl rfl)⟩,trivial⟩,rfl,rfl,.inr (Zr2 (Z1g (n:=27) rfl hcl (Zc4 _)))⟩
 · intro sn ι v h
   exact Zoo h
end
section
variable {gl:Z0l}
def Z5T:List UInt8:=[115,116,111,114,101]
def Z5U:List UInt8:=[102,101,110,99,101]
def Z50:List UInt8:=[97,115,115,117,109,101]
def Z51:List UInt8:=[97,115,115,101,114,116]
def Z6b:List UInt8:=[108,111,97,100]
def Zfg:List UInt8:=[99,97,115]
def Zfh:List UInt8:=[97,100,100]
def Z6a:List UInt8:=[115,119,97,112]
def ZtX(T:List Tq)(s:Ps):St×Ps :=
 let o:=Z0A T (Z0z T s [40]) ordL 1
 (.mk 7 [] [] o.1 [] [] [],Z0z T o.2 [41])
def Zsr(T:List Tq)(k:Int)(s:Ps):St×Ps:=(.mk k [] [] 0 [(Z7X T s).1] [] [],(Z7X T s).2)
def Zoi(T:List Tq)(nm:List UInt8)(s:Ps):St×Ps :=
 if isF T s Z6b=true then Zax T nm 2 0 (Z0g s)
 else if isF T s Zfg=true then Zax T nm 4 2 (Z0g s)
 else if isF T s Zfh=true then Zax T nm 5 1 (Z0g s)
 else if isF T s Z6a=true then Zax T nm 6 1 (Z0g s)
 else (.mk 1 nm [] 0 [(Z2q T s).1] [] [],(Z2q T s).2)
def Z2J(T:List Tq)(s:Ps):St×Ps :=
 if isF T s Z5T=true then Zax T [] 3 1 (Z0g s)
 else if isF T s Z5U=true then ZtX T (Z0g s)
 else if isF T s Z50=true then Zsr T 8 (Z0g s)
 else if isF T s Z51=true then Zsr T 9 (Z0g s)
 else Zoi T (Z4J T s) (Z0z T (Z23 T s) [61])
theorem Zrb{T:List Tq}{s:Ps}(hs:PsOK T s):PsGo T s (ZtX T s).2:=by
 have h1:=Z1o hs [40]
 have h2:=Z3P ordL _ 1 h1.ok
 exact h1.trans (h2.trans (Z1o h2.ok _))
theorem Zps{T:List Tq}{s:Ps}(hs:PsOK T s)(nm:List UInt8):PsGo T s (Zoi T nm s).2:=by
 unfold Zoi
 split
 ·rename_i h;exact (Z0b hs h).trans (Zaq (Z0b hs h).ok _ _ _)
 split
 ·rename_i h;exact (Z0b hs h).trans (Zaq (Z0b hs h).ok _ _ _)
 split
 ·rename_i h;exact (Z0b hs h).trans (Zaq (Z0b hs h).ok _ _ _)
 split
 ·rename_i h;exact (Z0b hs h).trans (Zaq (Z0b hs h).ok _ _ _)
 ·exact Z73 hs
theorem Z8L(s:Ps):Kp s (Z0g s):=λh=>h
theorem Zpr(T:List Tq)(nm:List UInt8)(s:Ps):Kp s (Zoi T nm s).2:=by
 unfold Zoi
 split
 ·exact (Z8L s).trans (ZcQ T _ _ _ _)
 split
 ·exact (Z8L s).trans (ZcQ T _ _ _ _)
 split
 ·exact (Z8L s).trans (ZcQ T _ _ _ _)
 split
 ·exact (Z8L s).trans (ZcQ T _ _ _ _)
 ·exact ZgU T s
theorem Zgn{T:List Tq}{s:Ps}(hs:PsOK T s):PsGo T s (Z2J T s).2/\((Z2J T s).2.err=0->s.i<(Z2J T s).2.i):=by
 have up:∀{w:List UInt8}{s':Ps},isF T s w=true->PsGo T (Z0g s) s'->PsGo T s s'/\(s'.err=0->s.i<s'.i):=λh h2=>⟨(Z0b hs h).trans h2,λ_=>by have:s.i+1<=_:=h2.on;omega⟩
 unfold Z2J
 split
 ·rename_i h;exact up h (Zaq (Z0b hs h).ok _ _ _)
 split
 ·rename_i h;exact up h (Zrb (Z0b hs h).ok)
 split
 ·rename_i h;exact up h (Z7W (Z0b hs h).ok)
 split
 ·rename_i h;exact up h (Z7W (Z0b hs h).ok)
 · have h1:=ZbF hs
   have h2:=Z1o h1.ok [61]
   have h3:=Zps h2.ok (Z4J T s)
   refine⟨h1.trans (h2.trans h3),λhe=>?_⟩
   rcases Zm6 T s with h|h
   ·exact absurd he ((Z5C T _ [61]).trans (Zpr T _ _) h)
   · have h4:=h2.on
     have h5:=h3.on
     omega
def Zp8(T:List Tq):FamM Y00 gl:=Z3j T 110 (by kernel_rfl) (I:=Unit) (λ_ s=>PsOK T s) (λ_=>[.ptr 0 0]) (λ_ s=>.agg (Z7X T s).1.cells) (λ_ s=>(Z7X T s).2) (λ_=>rfl) (λ_ _ _=>rfl) (λ_ s h=>ZtI h)
def ZtL(T:List Tq):FamM Y00 gl:=Z3j T 127 (by kernel_rfl) (I:=List UInt8×Int×Nat) (λi s=>i.2.2<=2/\PsOK T s) (λi=>[.ptr 0 0,.str i.1,.int .i64 i.2.1,.int .i64 i.2.2]) (λi s=>.agg (Zax T i.1 i.2.1 i.2.2 s).1.cells) (λi s=>(Zax T i.1 i.2.1 i.2.2 s).2) (λ_=>rfl) (λi j h=>by
 obtain⟨a,b,c⟩:=i
 obtain⟨a',b',c'⟩:=j
 simp only[List.cons.injEq,AV.str.injEq,AV.int.injEq,true_and,and_true]at h
 obtain⟨rfl,rfl,h⟩:=h
 have:c=c':=by omega
 rw[this]) (λi s h=>ZhM h.2 i.1 i.2.1 i.2.2 h.1)
def stR:St->AV
 | .mk k a b o x t e=>.agg [.int .i64 k,.str a,.str b,.int .i64 o,exN x,stN t,stN e]
theorem Z8M{k f:Nat}{args:List AV}{H H':Z00}{x:St}(h:MemQ Y00 gl k f args H (stR x) H'):MemQ Y00 gl k f args H (.agg x.cells) H':=MemQ.conv h λsn ι v h=>by
 obtain⟨k,a,b,o,x,t,e⟩:=x
 exact Zoo h
theorem Z5u(x:St):∃a b c d e f g m n p,AV.agg x.cells = .agg [.int .i64 a,.str b,.str c,.int .i64 d,.rs e 4 f,.rs g 7 m,.rs n 7 p]:=by
 obtain⟨k,a,b,o,x,t,e⟩:=x
 exact⟨_,_,_,_,_,_,_,_,_,_,rfl⟩
def Zng(f:Nat):Bool:=Y01 f 43 || (Y01 f 80 || (Y01 f 53 || (Y01 f 79 || (Y01 f 128 || (Y01 f 110 || Y01 f 127)))))
theorem Zji{T:List Tq}{s:Ps}(hs:PsOK T s):MemQ Y00 gl 1 111 [.ptr 0 0] (psH T s) (.agg (Z2J T s).1.cells) (psH T (Z2J T s).2):=by
 obtain⟨O,hO,⟨p1,p2,p3,p4,p5,p6,p7,-⟩,-⟩:=Z13 (P:=Y00) (gl:=gl) [Z7t T,Z68 T,Zfs T,ZeI T,Zoy T,Zp8 T,ZtL T] [] rfl
 have tk:∀w s X,kwB w=true->isF T s w=true->PsOK T s->Z0m [0] X=true->Z03 Y00 O (psH T s++X) 43 [.ptr 0 0,.str w]=some (.bool true,psH T (Z0g s)++X):=λw s X hw hi h hX=>by
  have this:Z03 Y00 O (psH T s++X) 43 [.ptr 0 0,.str w]=some (.bool (Z1l T s w),psH T (Z0s T s w)++X):=p1 (w,s,X) ⟨h,hX⟩
  rw[(Z1f hw).1,(Z1f hw).2,hi,if_pos rfl]at this
  exact this
 have tn:∀w s X,kwB w=true->isF T s w=false->PsOK T s->Z0m [0] X=true->Z03 Y00 O (psH T s++X) 43 [.ptr 0 0,.str w]=some (.bool false,psH T s++X):=λw s X hw hi h hX=>by
  have this:Z03 Y00 O (psH T s++X) 43 [.ptr 0 0,.str w]=some (.bool (Z1l T s w),psH T (Z0s T s w)++X):=p1 (w,s,X) ⟨h,hX⟩
  rw[(Z1f hw).1,(Z1f hw).2,hi,if_neg (by decide)]at this
  exact this
 have qn:∀w s X,PsOK T s->Z0m [0] X=true->Z03 Y00 O (psH T s++X) 80 [.ptr 0 0,.str w]=some (.tuple [],psH T (Z0z T s w)++X):=λw s X h hX=>p2 (w,s,X) ⟨h,hX⟩
 have qe:∀s X,PsOK T s->Z0m [0] X=true->Z03 Y00 O (psH T s++X) 53 [.ptr 0 0,.int .i64 0]=some (.agg (Z2q T s).1.cells,psH T (Z2q T s).2++X):=λs X h hX=>p3 ((),s,X) ⟨h,hX⟩
 have qw:∀s X,PsOK T s->Z0m [0] X=true->Z03 Y00 O (psH T s++X) 79 [.ptr 0 0]=some (.str (Z4J T s),psH T (Z23 T s)++X):=λs X h hX=>p4 ((),s,X) ⟨h,hX⟩
 have qo:∀s X,PsOK T s->Z0m [0] X=true->Z03 Y00 O (psH T s++X) 128 [.ptr 0 0]=some (.int .i64 (Z0A T s ordL 1).1,psH T (Z0A T s ordL 1).2++X):=λs X h hX=>p5 ((),s,X) ⟨h,hX⟩
 have qb:∀s X,PsOK T s->Z0m [0] X=true->Z03 Y00 O (psH T s++X) 110 [.ptr 0 0]=some (.agg (Z7X T s).1.cells,psH T (Z7X T s).2++X):=λs X h hX=>p6 ((),s,X) ⟨h,hX⟩
 have qa:∀nm k n s X,n<=2->PsOK T s->Z0m [0] X=true->Z03 Y00 O (psH T s++X) 127 [.ptr 0 0,.str nm,.int .i64 k,.int .i64 (n:Nat)]=some (.agg (Zax T nm k n s).1.cells,psH T (Zax T nm k n s).2++X):=λnm k n s X hn h hX=>p7 ((nm,k,n),s,X) ⟨⟨hn,h⟩,hX⟩
 clear p1 p2 p3 p4 p5 p6 p7
 unfold Z2J
 cases h1:isF T s Z5T with
 |true =>
  rw[if_pos rfl]
  have f0:=λX=>tk Z5T s X rfl h1 hs
  have ok:=(Z0b hs h1).ok
  have ga:=λX=>qa [] 3 1 _ X (by decide) ok
  clear tk tn qn qe qw qo qb qa
  generalize Z0g s=u1 at *
  generalize Zax T _ _ _ u1=r at *
  obtain⟨x,u2⟩:=r
  simp only at ga⊢
  obtain⟨y1,y2,y3,y4,y5,y6,y7,y8,y9,y10,hy⟩:=Z5u x
  rw[hy]at ga⊢
  simp only[psH]at f0 ga⊢
  refine Z0J follows Z05 (Z0a follows Z05 hO 3) Y0f rfl (Z0r (isC:=Zng) 3) ?_
  repeat' ((conv=>whnf);first|refine exI (f0 _ rfl) ?_|refine exI (ga _ rfl) ?_|refine stp ?_|with_reducible apply Z01<;>intro h)
  all_goals (try (conv=>whnf))
  all_goals exact⟨[],[0],rfl,⟨⟨rfl,rfl,rfl,rfl,BodyGe.z (Y03 (rest:=[]) rfl rfl)⟩,trivial⟩,rfl,rfl,.inl (Y02 rfl)⟩
 |false =>
  rw[if_neg (by decide)]
  have f0:=λX=>tn Z5T s X rfl h1 hs
  cases h2:isF T s Z5U with
  |true =>
   rw[if_pos rfl]
   have f1:=λX=>tk Z5U s X rfl h2 hs
   have ok:=(Z0b hs h2).ok
   have ok2:=Z5B ok [40]
   have ok3:=(Z3P ordL _ 1 ok2).ok
   have g1:=λX=>qn [40] _ X ok
   have g2:=λX=>qo _ X ok2
   have g3:=λX=>qn [41] _ X ok3
   clear tk tn qn qe qw qo qb qa
   unfold ZtX
   simp only
   generalize Z0g s=u1 at *
   generalize Z0z T u1 [40]=u2 at *
   generalize Z0A T u2 ordL 1=r at *
   obtain⟨o,u3⟩:=r
   simp only at g2 g3 ok3⊢
   generalize Z0z T u3 [41]=u4 at *
   refine Z8M ?_
   simp only[psH]at f0 f1 g1 g2 g3⊢
   refine Z0J follows Z05 (Z0a follows Z05 hO 3) Y0f rfl (Z0r (isC:=Zng) 3) ?_
   repeat' ((conv=>whnf);first|refine exI (f0 _ rfl) ?_|refine exI (f1 _ rfl) ?_|refine exI (g1 _ rfl) ?_|refine exI (g2 _ rfl) ?_|refine exI (g3 _ rfl) ?_|refine stp ?_|with_reducible apply Z01<;>intro h)
   all_goals (try (conv=>whnf))
   all_goals exact⟨[],[0],rfl,⟨⟨rfl,rfl,rfl,rfl,BodyGe.z (Y03 (rest:=[]) rfl rfl)⟩,trivial⟩,rfl,rfl,.inl (Y02 rfl)⟩
  |false =>
   rw[if_neg (by decide)]
   have f1:=λX=>tn Z5U s X rfl h2 hs
   cases h3:isF T s Z50 with
   |true =>
    rw[if_pos rfl]
    have f2:=λX=>tk Z50 s X rfl h3 hs
    have ok:=(Z0b hs h3).ok
    have g1:=λX=>qb _ X ok
    clear tk tn qn qe qw qo qb qa
    unfold Zsr
    generalize Z0g s=u1 at *
    generalize Z7X T u1=r at *
    obtain⟨⟨eo,en,et,ek⟩,u2⟩:=r
    simp only at g1⊢
    refine Z8M ?_
    simp only[psH,Ex.cells]at f0 f1 f2 g1⊢
    refine Z0J follows Z05 (Z0a follows Z05 hO 3) Y0f rfl (Z0r (isC:=Zng) 3) ?_
    repeat' ((conv=>whnf);first|refine exI (f0 _ rfl) ?_|refine exI (f1 _ rfl) ?_|refine exI (f2 _ rfl) ?_|refine exI (g1 _ rfl) ?_|refine stp ?_|with_reducible apply Z01<;>intro h)
    all_goals (try (conv=>whnf))
    all_goals exact⟨[1,2,3,4],[0],rfl,⟨⟨rfl,rfl,rfl,rfl,BodyGe.z (Y03 (rest:=[]) rfl rfl)⟩,trivial⟩,rfl,rfl,.inr rfl⟩
   |false =>
    rw[if_neg (by decide)]
    have f2:=λX=>tn Z50 s X rfl h3 hs
    cases h4:isF T s Z51 with
    |true =>
     rw[if_pos rfl]
     have f3:=λX=>tk Z51 s X rfl h4 hs
     have ok:=(Z0b hs h4).ok
     have g1:=λX=>qb _ X ok
     clear tk tn qn qe qw qo qb qa
     unfold Zsr
     generalize Z0g s=u1 at *
     generalize Z7X T u1=r at *
     obtain⟨⟨eo,en,et,ek⟩,u2⟩:=r
     simp only at g1⊢
     refine Z8M ?_
     simp only[psH,Ex.cells]at f0 f1 f2 f3 g1⊢
     refine Z0J follows Z05 (Z0a follows Z05 hO 3) Y0f rfl (Z0r (isC:=Zng) 3) ?_
     repeat' ((conv=>whnf);first|refine exI (f0 _ rfl) ?_|refine exI (f1 _ rfl) ?_|refine exI (f2 _ rfl) ?_|refine exI (f3 _ rfl) ?_|refine exI (g1 _ rfl) ?_|refine stp ?_|with_reducible apply Z01<;>intro h)
     all_goals (try (conv=>whnf))
     all_goals exact⟨[1,2,3,4],[0],rfl,⟨⟨rfl,rfl,rfl,rfl,BodyGe.z (Y03 (rest:=[]) rfl rfl)⟩,trivial⟩,rfl,rfl,.inr rfl⟩
    |false =>
     rw[if_neg (by decide)]
     have f3:=λX=>tn Z51 s X rfl h4 hs
     have ok1:=Z8E hs
     have ok2:=Z5B ok1 [61]
     have g1:=λX=>qw s X hs
     have g2:=λX=>qn [61] _ X ok1
     generalize Z4J T s=nm at *
     generalize Z23 T s=v1 at *
     generalize Z0z T v1 [61]=v2 at *
     unfold Zoi
     cases k1:isF T v2 Z6b with
     |true =>
      rw[if_pos rfl]
      have e0:=λX=>tk Z6b v2 X rfl k1 ok2
      have ok:=(Z0b ok2 k1).ok
      have ga:=λX=>qa nm 2 0 _ X (by decide) ok
      clear tk tn qn qe qw qo qb qa
      generalize Z0g v2=u1 at *
      generalize Zax T _ _ _ u1=r at *
      obtain⟨x,u2⟩:=r
      simp only at ga⊢
      obtain⟨y1,y2,y3,y4,y5,y6,y7,y8,y9,y10,hy⟩:=Z5u x
      rw[hy]at ga⊢
      simp only[psH]at f0 f1 f2 f3 g1 g2 e0 ga⊢
      refine Z0J follows Z05 (Z0a follows Z05 hO 3) Y0f rfl (Z0r (isC:=Zng) 3) ?_
      repeat' ((conv=>whnf);first|refine exI (f0 _ rfl) ?_|refine exI (f1 _ rfl) ?_|refine exI (f2 _ rfl) ?_|refine exI (f3 _ rfl) ?_|refine exI (g1 _ rfl) ?_|refine exI (g2 _ rfl) ?_|refine exI (e0 _ rfl) ?_|refine exI (ga _ rfl) ?_|refine stp ?_|with_reducible apply Z01<;>intro h)
      all_goals (try (conv=>whnf))
      all_goals exact⟨[],[0],rfl,⟨⟨rfl,rfl,rfl,rfl,BodyGe.z (Y03 (rest:=[]) rfl rfl)⟩,trivial⟩,rfl,rfl,.inl (Y02 rfl)⟩
     |false =>
      rw[if_neg (by decide)]
      have e0:=λX=>tn Z6b v2 X rfl k1 ok2
      cases k2:isF T v2 Zfg with
      |true =>
       rw[if_pos rfl]
       have e1:=λX=>tk Zfg v2 X rfl k2 ok2
       have ok:=(Z0b ok2 k2).ok
       have ga:=λX=>qa nm 4 2 _ X (by decide) ok
       clear tk tn qn qe qw qo qb qa
       generalize Z0g v2=u1 at *
       generalize Zax T _ _ _ u1=r at *
       obtain⟨x,u2⟩:=r
       simp only at ga⊢
       obtain⟨y1,y2,y3,y4,y5,y6,y7,y8,y9,y10,hy⟩:=Z5u x
       rw[hy]at ga⊢
       simp only[psH]at f0 f1 f2 f3 g1 g2 e0 e1 ga⊢
       refine Z0J follows Z05 (Z0a follows Z05 hO 3) Y0f rfl (Z0r (isC:=Zng) 3) ?_
       repeat' ((conv=>whnf);first|refine exI (f0 _ rfl) ?_|refine exI (f1 _ rfl) ?_|refine exI (f2 _ rfl) ?_|refine exI (f3 _ rfl) ?_|refine exI (g1 _ rfl) ?_|refine exI (g2 _ rfl) ?_|refine exI (e0 _ rfl) ?_|refine exI (e1 _ rfl) ?_|refine exI (ga _ rfl) ?_|refine stp ?_|with_reducible apply Z01<;>intro h)
       all_goals (try (conv=>whnf))
       all_goals exact⟨[],[0],rfl,⟨⟨rfl,rfl,rfl,rfl,BodyGe.z (Y03 (rest:=[]) rfl rfl)⟩,trivial⟩,rfl,rfl,.inl (Y02 rfl)⟩
      |false =>
       rw[if_neg (by decide)]
       have e1:=λX=>tn Zfg v2 X rfl k2 ok2
       cases k3:isF T v2 Zfh with
       |true =>
        rw[if_pos rfl]
        have e2:=λX=>tk Zfh v2 X rfl k3 ok2
        have ok:=(Z0b ok2 k3).ok
        have ga:=λX=>qa nm 5 1 _ X (by decide) ok
        clear tk tn qn qe qw qo qb qa
        generalize Z0g v2=u1 at *
        generalize Zax T _ _ _ u1=r at *
        obtain⟨x,u2⟩:=r
        simp only at ga⊢
        obtain⟨y1,y2,y3,y4,y5,y6,y7,y8,y9,y10,hy⟩:=Z5u x
        rw[hy]at ga⊢
        simp only[psH]at f0 f1 f2 f3 g1 g2 e0 e1 e2 ga⊢
        refine Z0J follows Z05 (Z0a follows Z05 hO 3) Y0f rfl (Z0r (isC:=Zng) 3) ?_
        repeat' ((conv=>whnf);first|refine exI (f0 _ rfl) ?_|refine exI (f1 _ rfl) ?_|refine exI (f2 _ rfl) ?_|refine exI (f3 _ rfl) ?_|refine exI (g1 _ rfl) ?_|refine exI (g2 _ rfl) ?_|refine exI (e0 _ rfl) ?_|refine exI (e1 _ rfl) ?_|refine exI (e2 _ rfl) ?_|refine exI (ga _ rfl) ?_|refine stp ?_|with_reducible apply Z01<;>intro h)
        all_goals (try (conv=>whnf))
        all_goals exact⟨[],[0],rfl,⟨⟨rfl,rfl,rfl,rfl,BodyGe.z (Y03 (rest:=[]) rfl rfl)⟩,trivial⟩,rfl,rfl,.inl (Y02 rfl)⟩
       |false =>
        rw[if_neg (by decide)]
        have e2:=λX=>tn Zfh v2 X rfl k3 ok2
        cases k4:isF T v2 Z6a with
        |true =>
         rw[if_pos rfl]
         have e3:=λX=>tk Z6a v2 X rfl k4 ok2
         have ok:=(Z0b ok2 k4).ok
         have ga:=λX=>qa nm 6 1 _ X (by decide) ok
         clear tk tn qn qe qw qo qb qa
         generalize Z0g v2=u1 at *
         generalize Zax T _ _ _ u1=r at *
         obtain⟨x,u2⟩:=r
         simp only at ga⊢
         obtain⟨y1,y2,y3,y4,y5,y6,y7,y8,y9,y10,hy⟩:=Z5u x
         rw[hy]at ga⊢
         simp only[psH]at f0 f1 f2 f3 g1 g2 e0 e1 e2 e3 ga⊢
         refine Z0J follows Z05 (Z0a follows Z05 hO 3) Y0f rfl (Z0r (isC:=Zng) 3) ?_
         repeat' ((conv=>whnf);first|refine exI (f0 _ rfl) ?_|refine exI (f1 _ rfl) ?_|refine exI (f2 _ rfl) ?_|refine exI (f3 _ rfl) ?_|refine exI (g1 _ rfl) ?_|refine exI (g2 _ rfl) ?_|refine exI (e0 _ rfl) ?_|refine exI (e1 _ rfl) ?_|refine exI (e2 _ rfl) ?_|refine exI (e3 _ rfl) ?_|refine exI (ga _ rfl) ?_|refine stp ?_|with_reducible apply Z01<;>intro h)
         all_goals (try (conv=>whnf))
         all_goals exact⟨[],[0],rfl,⟨⟨rfl,rfl,rfl,rfl,BodyGe.z (Y03 (rest:=[]) rfl rfl)⟩,trivial⟩,rfl,rfl,.inl (Y02 rfl)⟩
        |false =>
         rw[if_neg (by decide)]
         have e3:=λX=>tn Z6a v2 X rfl k4 ok2
         have g3:=λX=>qe _ X ok2
         clear tk tn qn qe qw qo qb qa
         generalize Z2q T v2=r at *
         obtain⟨⟨eo,en,et,ek⟩,u2⟩:=r
         simp only at g3⊢
         refine Z8M ?_
         simp only[psH,Ex.cells]at f0 f1 f2 f3 g1 g2 e0 e1 e2 e3 g3⊢
         refine Z0J follows Z05 (Z0a follows Z05 hO 3) Y0f rfl (Z0r (isC:=Zng) 3) ?_
         repeat' ((conv=>whnf);first|refine exI (f0 _ rfl) ?_|refine exI (f1 _ rfl) ?_|refine exI (f2 _ rfl) ?_|refine exI (f3 _ rfl) ?_|refine exI (g1 _ rfl) ?_|refine exI (g2 _ rfl) ?_|refine exI (e0 _ rfl) ?_|refine exI (e1 _ rfl) ?_|refine exI (e2 _ rfl) ?_|refine exI (e3 _ rfl) ?_|refine exI (g3 _ rfl) ?_|refine stp ?_|with_reducible apply Z01<;>intro h)
         all_goals (try (conv=>whnf))
         all_goals exact⟨[1,2,3,4],[0],rfl,⟨⟨rfl,rfl,rfl,rfl,BodyGe.z (Y03 (rest:=[]) rfl rfl)⟩,trivial⟩,rfl,rfl,.inr rfl⟩
end
section
variable {gl:Z0l}
def Z8s(T:List Tq)(stm:Ps->St×Ps)(w:List UInt8):Nat->Ps->List St×Ps
 |0,s=>([],s)
 |k+1,s=>if s.err=0/\isF T s w=false/\(Z15 T s).kind≠5 then ((stm s).1::(Z8s T stm w k (stm s).2).1,(Z8s T stm w k (stm s).2).2) else ([],s)
def ZrY(T:List Tq)(stm:Ps->St×Ps)(s:Ps):List St×Ps :=
 ((Z8s T stm [125] (T.length+1) (Z0z T s [123])).1,Z0z T (Z8s T stm [125] (T.length+1) (Z0z T s [123])).2 [125])
def Zss(gl:Z0l)(T:List Tq)(i0:Nat)(stm:Ps->St×Ps):Prop:=∀s,PsOK T s->i0<=s.i->(PsGo T s (stm s).2/\((stm s).2.err=0->s.i<(stm s).2.i))/\MemQ Y00 gl 1 92 [.ptr 0 0] (psH T s) (.agg (stm s).1.cells) (psH T (stm s).2)
theorem ZbP{T:List Tq}{i0:Nat}{stm:Ps->St×Ps}(hstm:∀s,PsOK T s->i0<=s.i->PsGo T s (stm s).2)(w:List UInt8):∀(k:Nat)(s:Ps),PsOK T s->i0<=s.i->PsGo T s (Z8s T stm w k s).2
 |0,s,h,hi=>⟨h,Y07 _,Y0d _⟩
 |k+1,s,h,hi=>by
  unfold Z8s
  split
  · have h1:=hstm s h hi
    exact h1.trans (ZbP hstm w k _ h1.ok (Y05 hi h1.on))
  ·exact⟨h,Y07 _,Y0d _⟩
theorem Zgi{T:List Tq}{stm:Ps->St×Ps}{w:List UInt8}{s:Ps}(h:¬(s.err=0/\isF T s w=false/\(Z15 T s).kind≠5)):∀k,Z8s T stm w k s=([],s)
 |0=>rfl
 |k+1=>by unfold Z8s;rw[if_neg h]
theorem Zq9(l:List St)(k o:Int)(a b:List UInt8)(x:List Ex)(t e:List St):stC l++[.int .i64 k,.str a,.str b,.int .i64 o,.rs x.length 4 (exC x),.rs t.length 7 (stC t),.rs e.length 7 (stC e)]=stC (l++[.mk k a b o x t e]):=by rw[Zjb];simp only[stC,St.cells,exA,Y0l]
def stS:List St->AV
 |[]=>.nslice
 |e::l=>.slice 1 0 (l.length+1) (l.length+1) 7
def ZtQ:List St->Z00
 |[]=>[]
 |e::l=>[⟨true,1,0,.cells (stC (e::l)) 49⟩]
def ZvP(f:Nat):Bool:=Y01 f 78 || Y01 f 92
structure Bs4 where
 l:List St
 s:Ps
 k:Nat
theorem Zgk {T : List Tq} {i0 : Nat} {stm : Ps -> St × Ps} (hstm : Zss gl T i0 stm) {s0 : Ps} (hs0 : PsOK T s0) (hi0 : i0 <= s0.i) (w : List UInt8) :
  MemQ Y00 gl 1 59 [.ptr 0 0,.str w] (psH T s0) (stA (Z8s T stm w (T.length+1) s0).1) (psH T (Z8s T stm w (T.length+1) s0).2):=by
 obtain⟨O,hO,⟨p1,p2,-⟩,-⟩:=Z13 (P:=Y00) (gl:=gl) [ZqO T,Z3j T 92 (by kernel_rfl) (I:=Unit) (λ_ s=>PsOK T s/\i0<=s.i) (λ_=>[.ptr 0 0]) (λ_ s=>.agg (stm s).1.cells) (λ_ s=>(stm s).2) (λ_=>rfl) (λ_ _ _=>rfl) (λ_ s h=>(hstm s h.1 h.2).2)] [] rfl
 have q1:∀w s X,PsOK T s->Z0m [0] X=true->Z03 Y00 O (psH T s++X) 78 [.ptr 0 0,.str w]=some (.bool (isF T s w),psH T s++X):=λw s X h hX=>p1 (w,s,X) ⟨h,hX⟩
 have q2:∀s X,PsOK T s->i0<=s.i->Z0m [0] X=true->Z03 Y00 O (psH T s++X) 92 [.ptr 0 0]=some (.agg (stm s).1.cells,psH T (stm s).2++X):=λs X h hi hX=>p2 ((),s,X) ⟨⟨h,hi⟩,hX⟩
 clear p1 p2
 have hT:Zhl Y00 47 47=some (49,7,120):=by kernel_rfl
 have hgo:∀s,PsOK T s->i0<=s.i->PsGo T s (stm s).2/\((stm s).2.err=0->s.i<(stm s).2.i):=λs h hi=>(hstm s h hi).1
 clear hstm
 generalize hR:Z8s T stm w (T.length+1) s0=R
 obtain⟨RL,RS⟩:=R
 have hfew:=hs0.few
 have hI:PsOK T s0/\i0<=s0.i/\([]:List St).length+(T.length+1)<=T.length+1/\(s0.err=0->T.length-s0.i<T.length+1)/\[]++(Z8s T stm w (T.length+1) s0).1=RL/\(Z8s T stm w (T.length+1) s0).2=RS:=⟨hs0,hi0,by simp,λ_=>by omega,by rw[hR];rfl,by rw[hR]⟩
 clear hR
 simp only
 refine MemQ.conv (r:=stN RL) ?_ (λ_ _ _ h=>Zj9 h)
 simp only[psH]
 refine Z0J follows Z05 (Z0a follows Z05 hO 3) Tryz.func59 rfl (Z0r (isC:=ZvP) 3) ?_
 repeat' ((conv=>whnf);first|refine stp ?_|with_reducible apply Z01<;>intro h)
 conv=>whnf
 refine⟨Bs4,(λy=>PsOK T y.s/\i0<=y.s.i/\y.l.length+y.k<=T.length+1/\(y.s.err=0->T.length-y.s.i<y.k)/\y.l++(Z8s T stm w y.k y.s).1=RL/\(Z8s T stm w y.k y.s).2=RS),(λy=>[(0,.ptr 0 0),(1,.str w),(5,stS y.l)]),
  (λy=>psH T y.s++ZtQ y.l),(λy=>y.k),⟨⟨[],s0,T.length+1⟩,hI,?_⟩,?_⟩
 · refine FgLK.mk [0] rfl rfl ?_ ⟨hbp,trivial⟩ rfl
   exact wks
 clear hI hs0 hi0
 rintro⟨l,s,k⟩ ⟨hs,hi,hlk,hk,hL,hS⟩
 dsimp only at hs hi hlk hk hL hS
 (try dsimp only)
 have hx:=tq4 T s.i hs.lt
 rw[<- Z0X hs.lt]at hx
 have hlt:=hs.lt
 have gi:=λX=>q1 w s X hs
 have gs:=λX=>q2 s X hs hi
 clear q1 q2
 by_cases hc:s.err=0/\isF T s w=false/\(Z15 T s).kind≠5
 · obtain⟨k,rfl⟩:∃k',k=k'+1:=⟨k-1,by have:=hk hc.1;omega⟩
   have hg:=hgo s hs hi
   unfold Z8s at hL hS
   rw[if_pos hc]at hL hS
   obtain⟨c1,c2,c3⟩:=hc
   have e3:((Z15 T s).kind != 5)=true:=by simpa using c3
   rw[c2]at gi
   have hk:=hk c1
   generalize Z15 T s=t at *
   obtain⟨tk_,tx,tn_,tp⟩:=t
   generalize stm s=r at *
   obtain⟨⟨y1,y2,y3,y4,y5,y6,y7⟩,⟨i2,er2,a2,p2⟩⟩:=r
   obtain⟨i,err,at_,op⟩:=s
   simp only at c1
   subst c1
   simp only[psH,Tq.cells,St.cells,exA]at gi gs hx hlt hg hL hS e3 hk⊢
   clear c2 c3 hgo
   rcases l with _|⟨a,l⟩
   · simp only[stS,ZtQ,Y0l]
     repeat' ((conv=>whnf);first|refine exI hx ?_|refine exI (gi [] rfl) ?_|refine exI (gs _ rfl) ?_|(with_reducible refine ixJ i rfl ?_ ?_;focus omega)|(refine apS ?_)|refine stp ?_|with_reducible apply Z01<;>intro h)
     conv=>whnf
     refine⟨⟨[.mk y1 y2 y3 y4 y5 y6 y7],⟨i2,er2,a2,p2⟩,k⟩,⟨hg.1.ok,Y05 hi hg.1.on,by simp at hlk⊢;omega,λhe=>by have:=hg.2 he;simp only at this⊢;omega,by simpa using hL,hS⟩,Y0t _,?_⟩
     (refine FgLK.mk [0,3] rfl rfl ?_ ⟨hbp,⟨rfl,rfl,rfl,rfl,Z0c rfl (Zc5 [.mk y1 y2 y3 y4 y5 y6 y7])⟩,trivial⟩ rfl;(focus (dsimp only[stS,Y0m];(repeat (first|exact trivial|refine stw ?_));done)))
   · have hcl:(stC (a::l)).length=(l.length+1)*7:=ZbT _
     have hsn:=Zq9 (a::l) y1 y4 y2 y3 y5 y6 y7
     simp only[Y0e]at hlk
     simp only[stS,ZtQ]
     repeat' ((conv=>whnf);first|refine exI hx ?_|refine exI (gi [_] rfl) ?_|refine exI (gs _ rfl) ?_|(with_reducible refine ixJ i rfl ?_ ?_;focus omega)|(refine apS ?_)|refine stp ?_|with_reducible apply Z01<;>intro h)
     conv=>whnf
     have hl1:(l++[St.mk y1 y2 y3 y4 y5 y6 y7]).length=l.length+1:=by simp
     refine⟨⟨a::(l++[.mk y1 y2 y3 y4 y5 y6 y7]),⟨i2,er2,a2,p2⟩,k⟩,⟨hg.1.ok,Y05 hi hg.1.on,by simp only[Y0e,hl1];omega,λhe=>by have:=hg.2 he;simp only at this⊢;omega,by rw[<- hL];simp,hS⟩,Y0t _,?_⟩
     (refine FgLK.mk [0,4] rfl rfl ?_ ⟨hbp,⟨rfl,rfl,rfl,rfl,Z0c hsn (Zc5 _)⟩,trivial⟩ rfl;(focus (dsimp only[stS,Y0m];(repeat (first|exact trivial|refine stw ?_));done)))
 · have hE:=Zgi (stm:=stm) hc k
   rw[hE]at hL hS
   simp only[Y0l]at hL hS
   subst hL hS
   clear hE hgo gs hk
   generalize isF T s w=b at *
   generalize Z15 T s=t at *
   obtain⟨tk_,tx,tn_,tp⟩:=t
   obtain⟨i,err,at_,op⟩:=s
   simp only[psH,Tq.cells]at gi hx hlt hc⊢
   have hcl:(stC l).length=l.length*7:=ZbT _
   by_cases he:err=0
   case' neg=>have e1:(err==0)=false:=by simpa using he
   case' pos =>
    subst he
    cases b
    case' false=>have e3:(tk_ != 5)=false:=by simp at hc⊢;exact hc
   all_goals rcases l with _|⟨a,l⟩
   all_goals simp only[stS,ZtQ,stN]
   all_goals repeat' ((conv=>whnf);first|refine exI hx ?_|refine exI (gi [] rfl) ?_|refine exI (gi [_] rfl) ?_|(with_reducible refine ixJ i rfl ?_ ?_;focus omega)|refine stp ?_|with_reducible apply Z01<;>intro h)
   all_goals (conv=>whnf)
   all_goals first
    |exact⟨[],[0],rfl,⟨⟨rfl,rfl,rfl,rfl,BodyGe.z (Y03 (rest:=[]) rfl rfl)⟩,trivial⟩,rfl,rfl,.inl (Y02 rfl)⟩
    |exact⟨[1],[0],rfl,⟨⟨rfl,rfl,rfl,rfl,BodyGe.z (Y03 (rest:=[]) rfl rfl)⟩,trivial⟩,rfl,rfl,.inr (Z1g (n:=28) rfl hcl (Zc5 _))⟩
end
section
variable {gl:Z0l}
theorem ZrX{T:List Tq}{i0:Nat}{stm:Ps->St×Ps}(hstm:∀s,PsOK T s->i0<=s.i->PsGo T s (stm s).2){s:Ps}(hs:PsOK T s)(hi:i0<=s.i):PsGo T s (ZrY T stm s).2:=by
 have h1:=Z1o hs [123]
 have h2:=ZbP hstm [125] (T.length+1) _ h1.ok (Y05 hi h1.on)
 exact h1.trans (h2.trans (Z1o h2.ok _))
def ZvT(f:Nat):Bool:=Y01 f 80 || Y01 f 59
def ZuW(gl:Z0l)(T:List Tq)(i0:Nat)(blk:Ps->List St×Ps):Prop:=∀s,PsOK T s->i0<=s.i->PsGo T s (blk s).2/\MemQ Y00 gl 1 45 [.ptr 0 0] (psH T s) (stA (blk s).1) (psH T (blk s).2)
theorem Zdq{T:List Tq}{i0:Nat}{stm:Ps->St×Ps}(hstm:Zss gl T i0 stm):ZuW gl T i0 (ZrY T stm):=by
 intro s hs hi
 refine⟨ZrX (λs h h2=>(hstm s h h2).1.1) hs hi,?_⟩
 obtain⟨O,hO,⟨p1,p2,-⟩,-⟩:=Z13 (P:=Y00) (gl:=gl) [Z68 T,Z3j T 59 (by kernel_rfl) (I:=List UInt8) (λ_ s=>PsOK T s/\i0<=s.i) (λw=>[.ptr 0 0,.str w]) (λw s=>stA (Z8s T stm w (T.length+1) s).1) (λw s=>(Z8s T stm w (T.length+1) s).2) (λ_=>rfl) (λi j h=>by simpa using h) (λw s h=>Zgk hstm h.1 h.2 w)] [] rfl
 have qn:∀w s X,PsOK T s->Z0m [0] X=true->Z03 Y00 O (psH T s++X) 80 [.ptr 0 0,.str w]=some (.tuple [],psH T (Z0z T s w)++X):=λw s X h hX=>p1 (w,s,X) ⟨h,hX⟩
 have qs:∀w s X,PsOK T s->i0<=s.i->Z0m [0] X=true->Z03 Y00 O (psH T s++X) 59 [.ptr 0 0,.str w]=some (stA (Z8s T stm w (T.length+1) s).1,psH T (Z8s T stm w (T.length+1) s).2++X):=λw s X h hi hX=>p2 (w,s,X) ⟨⟨h,hi⟩,hX⟩
 clear p1 p2
 have h1:=Z1o hs [123]
 have hi1:=Y05 hi h1.on
 have h2:=(ZbP (λs h h2=>(hstm s h h2).1.1) [125] (T.length+1) _ h1.ok hi1).ok
 have h1:=h1.ok
 have g1:=λX=>qn [123] s X hs
 have g2:=λX=>qs [125] _ X h1 hi1
 have g3:=λX=>qn [125] _ X h2
 clear qn qs hstm
 unfold ZrY
 generalize Z0z T s [123]=s1 at *
 generalize Z8s T stm [125] (T.length+1) s1=r at *
 obtain⟨l,s2⟩:=r
 simp only at g3 h2⊢
 generalize Z0z T s2 [125]=s3 at *
 simp only[psH,stA]at g1 g2 g3⊢
 refine Z1J ZvT 3 follows Z05 hO Tryz.func45 rfl ?_
 repeat' ((conv=>whnf);first|refine exI (g1 _ rfl) ?_|refine exI (g2 _ rfl) ?_|refine exI (g3 _ rfl) ?_|refine stp ?_|with_reducible apply Z01<;>intro h)
 all_goals (try (conv=>whnf))
 all_goals exact⟨[0],rfl,⟨hbp,trivial⟩,rfl,Y02 rfl⟩
def kIf:List UInt8:=[105,102]
def Z8w:List UInt8:=[101,108,115,101]
def Z8i:List UInt8:=[119,104,105,108,101]
def Zru(T:List Tq)(blk:Ps->List St×Ps)(stm:Ps->St×Ps)(s:Ps):List St×Ps :=
 if isF T s Z8w=true then (if isF T (Z0g s) kIf=true then ([(stm (Z0g s)).1],(stm (Z0g s)).2) else blk (Z0g s)) else ([],s)
def Zuy(T:List Tq)(blk:Ps->List St×Ps)(stm:Ps->St×Ps)(s:Ps):St×Ps :=
 (.mk 10 [] [] 0 [(Z7X T s).1] (blk (Z7X T s).2).1 (Zru T blk stm (blk (Z7X T s).2).2).1,(Zru T blk stm (blk (Z7X T s).2).2).2)
def Zu7(T:List Tq)(blk:Ps->List St×Ps)(s:Ps):St×Ps :=
 (.mk 11 [] [] 0 [(Z7X T s).1] (blk (Z7X T s).2).1 [],(blk (Z7X T s).2).2)
def Zat(T:List Tq)(blk:Ps->List St×Ps)(stm:Ps->St×Ps)(s:Ps):St×Ps :=
 if isF T s kIf=true then Zuy T blk stm (Z0g s)
 else if isF T s Z8i=true then Zu7 T blk (Z0g s)
 else ((Z2J T s).1,Z0z T (Z2J T s).2 [59])
theorem Zrt{T:List Tq}{i0:Nat}{blk:Ps->List St×Ps}{stm:Ps->St×Ps}(hblk:∀s,PsOK T s->i0<=s.i->PsGo T s (blk s).2)(hstm:∀s,PsOK T s->i0<=s.i->PsGo T s (stm s).2){s:Ps}(hs:PsOK T s)(hi:i0<=s.i):PsGo T s (Zru T blk stm s).2:=by
 unfold Zru
 split
 · rename_i h
   have h1:=Z0b hs h
   have h2:=Y05 hi h1.on
   split
   ·exact h1.trans (hstm _ h1.ok h2)
   ·exact h1.trans (hblk _ h1.ok h2)
 ·exact⟨hs,Y07 _,Y0d _⟩
theorem ZpP{T:List Tq}{blk:Ps->List St×Ps}{stm:Ps->St×Ps}{s:Ps}(hblk:∀t,PsOK T t->s.i+1<=t.i->PsGo T t (blk t).2)(hstm:∀t,PsOK T t->s.i+1<=t.i->PsGo T t (stm t).2)(hs:PsOK T s):PsGo T s (Zat T blk stm s).2/\((Zat T blk stm s).2.err=0->s.i<(Zat T blk stm s).2.i):=by
 have up:∀{w:List UInt8}{s':Ps},isF T s w=true->PsGo T (Z0g s) s'->PsGo T s s'/\(s'.err=0->s.i<s'.i):=λh h2=>⟨(Z0b hs h).trans h2,λ_=>by have:s.i+1<=_:=h2.on;omega⟩
 unfold Zat
 split
 · rename_i h
   have h0:=(Z0b hs h).ok
   have h1:=Z7W h0
   have i1:s.i+1<=_:=h1.on
   have h2:=hblk _ h1.ok i1
   have i2:=Y05 i1 h2.on
   exact up h (h1.trans (h2.trans (Zrt hblk hstm h2.ok i2)))
 split
 · rename_i h
   have h0:=(Z0b hs h).ok
   have h1:=Z7W h0
   have i1:s.i+1<=_:=h1.on
   exact up h (h1.trans (hblk _ h1.ok i1))
 · have h1:=Zgn hs
   have h2:=Z1o h1.1.ok [59]
   refine⟨h1.1.trans h2,λhe=>?_⟩
   by_cases h3:(Z2J T s).2.err=0
   ·exact Nat.lt_of_lt_of_le (h1.2 h3) h2.on
   ·exact absurd he (Z5C T _ _ h3)
theorem Zon{sn:Z0n}{ι : Z0j}{v:Value}{k o:Int}{a b:List UInt8}{x:List Ex}{t e:List St}{xa ta ea:AV}(hx:∀v,VR sn ι xa v->VR sn ι (exA x) v)(ht:∀v,VR sn ι ta v->VR sn ι (stA t) v)(he:∀v,VR sn ι ea v->VR sn ι (stA e) v)(h:VR sn ι (.agg [.int .i64 k,.str a,.str b,.int .i64 o,xa,ta,ea]) v):VR sn ι (.agg (St.mk k a b o x t e).cells) v:=by
 obtain⟨d,rfl,d1,l1,f1,a1,d2,l2,rfl,a2,d3,l3,rfl,a3,d4,l4,rfl,a4,d5,l5,rfl,a5,d6,l6,rfl,a6,d7,l7,rfl,a7,h1⟩:=h.agg
 exact Z2Y ⟨_,_,f1,a1,_,_,rfl,a2,_,_,rfl,a3,_,_,rfl,a4,_,_,rfl,hx _ a5,_,_,rfl,ht _ a6,_,_,rfl,he _ a7,h1⟩
def Zt4(f:Nat):Bool:=Y01 f 43 || (Y01 f 78 || (Y01 f 80 || (Y01 f 110 || (Y01 f 111 || (Y01 f 45 || Y01 f 92)))))
theorem Zj4{T:List Tq}{blk:Ps->List St×Ps}{stm:Ps->St×Ps}{s:Ps}(hblk:ZuW gl T (s.i+1) blk)(hstm:Zss gl T (s.i+1) stm)(hs:PsOK T s):MemQ Y00 gl 1 92 [.ptr 0 0] (psH T s) (.agg (Zat T blk stm s).1.cells) (psH T (Zat T blk stm s).2):=by
 obtain⟨O,hO,⟨p1,p2,p3,p4,p5,p6,p7,-⟩,-⟩:=Z13 (P:=Y00) (gl:=gl) [Z7t T,Z68 T,ZqO T,Zp8 T,
  Z3j T 111 (by kernel_rfl) (I:=Unit) (λ_ s=>PsOK T s) (λ_=>[.ptr 0 0]) (λ_ s=>.agg (Z2J T s).1.cells) (λ_ s=>(Z2J T s).2) (λ_=>rfl) (λ_ _ _=>rfl) (λ_ s h=>Zji h),
  Z3j T 45 (by kernel_rfl) (I:=Unit) (λ_ t=>PsOK T t/\s.i+1<=t.i) (λ_=>[.ptr 0 0]) (λ_ t=>stA (blk t).1) (λ_ t=>(blk t).2) (λ_=>rfl) (λ_ _ _=>rfl) (λ_ t h=>(hblk t h.1 h.2).2),
  Z3j T 92 (by kernel_rfl) (I:=Unit) (λ_ t=>PsOK T t/\s.i+1<=t.i) (λ_=>[.ptr 0 0]) (λ_ t=>.agg (stm t).1.cells) (λ_ t=>(stm t).2) (λ_=>rfl) (λ_ _ _=>rfl) (λ_ t h=>(hstm t h.1 h.2).2)] [] rfl
 have tk:∀w s X,kwB w=true->isF T s w=true->PsOK T s->Z0m [0] X=true->Z03 Y00 O (psH T s++X) 43 [.ptr 0 0,.str w]=some (.bool true,psH T (Z0g s)++X):=λw s X hw hi h hX=>by
  have this:Z03 Y00 O (psH T s++X) 43 [.ptr 0 0,.str w]=some (.bool (Z1l T s w),psH T (Z0s T s w)++X):=p1 (w,s,X) ⟨h,hX⟩
  rw[(Z1f hw).1,(Z1f hw).2,hi,if_pos rfl]at this
  exact this
 have tn:∀w s X,kwB w=true->isF T s w=false->PsOK T s->Z0m [0] X=true->Z03 Y00 O (psH T s++X) 43 [.ptr 0 0,.str w]=some (.bool false,psH T s++X):=λw s X hw hi h hX=>by
  have this:Z03 Y00 O (psH T s++X) 43 [.ptr 0 0,.str w]=some (.bool (Z1l T s w),psH T (Z0s T s w)++X):=p1 (w,s,X) ⟨h,hX⟩
  rw[(Z1f hw).1,(Z1f hw).2,hi,if_neg (by decide)]at this
  exact this
 have qn:∀w s X,PsOK T s->Z0m [0] X=true->Z03 Y00 O (psH T s++X) 80 [.ptr 0 0,.str w]=some (.tuple [],psH T (Z0z T s w)++X):=λw s X h hX=>p2 (w,s,X) ⟨h,hX⟩
 have qi:∀w s X,PsOK T s->Z0m [0] X=true->Z03 Y00 O (psH T s++X) 78 [.ptr 0 0,.str w]=some (.bool (isF T s w),psH T s++X):=λw s X h hX=>p3 (w,s,X) ⟨h,hX⟩
 have qb:∀s X,PsOK T s->Z0m [0] X=true->Z03 Y00 O (psH T s++X) 110 [.ptr 0 0]=some (.agg (Z7X T s).1.cells,psH T (Z7X T s).2++X):=λs X h hX=>p4 ((),s,X) ⟨h,hX⟩
 have qs:∀s X,PsOK T s->Z0m [0] X=true->Z03 Y00 O (psH T s++X) 111 [.ptr 0 0]=some (.agg (Z2J T s).1.cells,psH T (Z2J T s).2++X):=λs X h hX=>p5 ((),s,X) ⟨h,hX⟩
 have qk:∀t X,PsOK T t->s.i+1<=t.i->Z0m [0] X=true->Z03 Y00 O (psH T t++X) 45 [.ptr 0 0]=some (stA (blk t).1,psH T (blk t).2++X):=λt X h hi hX=>p6 ((),t,X) ⟨⟨h,hi⟩,hX⟩
 have qt:∀t X,PsOK T t->s.i+1<=t.i->Z0m [0] X=true->Z03 Y00 O (psH T t++X) 92 [.ptr 0 0]=some (.agg (stm t).1.cells,psH T (stm t).2++X):=λt X h hi hX=>p7 ((),t,X) ⟨⟨h,hi⟩,hX⟩
 clear p1 p2 p3 p4 p5 p6 p7
 have bgo:∀t,PsOK T t->s.i+1<=t.i->PsGo T t (blk t).2:=λt h h2=>(hblk t h h2).1
 clear hblk hstm
 unfold Zat
 cases h1:isF T s kIf with
 |true =>
  rw[if_pos rfl]
  have f0:=λX=>tk kIf s X rfl h1 hs
  have ok0:=(Z0b hs h1).ok
  have b0:=Z7W ok0
  have i1:s.i+1<=(Z7X T (Z0g s)).2.i:=b0.on
  have b1:=bgo _ b0.ok i1
  have i2:=Y05 i1 b1.on
  have f1:=λX=>qb _ X ok0
  have f2:=λX=>qk _ X b0.ok i1
  have ok1:=b0.ok
  have ok2:=b1.ok
  clear b0 b1 bgo
  unfold Zuy
  generalize Z0g s=u0 at *
  generalize Z7X T u0=r0 at *
  obtain⟨⟨eo,en,et,ek⟩,u1⟩:=r0
  simp only at f1 f2 ok1 ok2 i1 i2⊢
  generalize blk u1=r1 at *
  obtain⟨tl,u2⟩:=r1
  simp only at f1 f2 ok2 i2⊢
  unfold Zru
  cases h2:isF T u2 Z8w with
  |true =>
   simp only[if_true]
   have f3:=λX=>tk Z8w u2 X rfl h2 ok2
   have ok3:=(Z0b ok2 h2).ok
   have i3:s.i+1<=(Z0g u2).i:=Y05 i2 (Z0b ok2 h2).on
   have f4:=λX=>qi kIf _ X ok3
   cases h3:isF T (Z0g u2) kIf with
   |true =>
    simp only[if_true]
    rw[h3]at f4
    have f5:=λX=>qt _ X ok3 i3
    clear tk tn qn qi qb qs qk qt
    generalize Z0g u2=u3 at *
    generalize stm u3=r3 at *
    obtain⟨⟨y1,y2,y3,y4,y5,y6,y7⟩,u4⟩:=r3
    simp only[psH,Ex.cells,St.cells,stA,exA]at f0 f1 f2 f3 f4 f5⊢
    refine Z0J follows Z05 (Z0a follows Z05 hO 3) Y0q rfl (Z0r (isC:=Zt4) 3) ?_
    repeat' ((conv=>whnf);first|refine exI (f0 _ rfl) ?_|refine exI (f1 _ rfl) ?_|refine exI (f2 _ rfl) ?_|refine exI (f3 _ rfl) ?_|refine exI (f4 _ rfl) ?_|refine exI (f5 _ rfl) ?_|refine stp ?_|with_reducible apply Z01<;>intro h)
    all_goals (try (conv=>whnf))
    all_goals exact⟨[1,2,3,4,5],[0],rfl,⟨⟨rfl,rfl,rfl,rfl,BodyGe.z (Y03 (rest:=[]) rfl rfl)⟩,trivial⟩,rfl,rfl,.inr rfl⟩
   |false =>
    simp only[Y0j,if_false]
    rw[h3]at f4
    have f5:=λX=>qk _ X ok3 i3
    clear tk tn qn qi qb qs qk qt
    generalize Z0g u2=u3 at *
    generalize blk u3=r3 at *
    obtain⟨el,u4⟩:=r3
    simp only[psH,Ex.cells,St.cells,stA,exA]at f0 f1 f2 f3 f4 f5⊢
    refine Z0J follows Z05 (Z0a follows Z05 hO 3) Y0q rfl (Z0r (isC:=Zt4) 3) ?_
    repeat' ((conv=>whnf);first|refine exI (f0 _ rfl) ?_|refine exI (f1 _ rfl) ?_|refine exI (f2 _ rfl) ?_|refine exI (f3 _ rfl) ?_|refine exI (f4 _ rfl) ?_|refine exI (f5 _ rfl) ?_|refine stp ?_|with_reducible apply Z01<;>intro h)
    all_goals (try (conv=>whnf))
    all_goals exact⟨[1,2,3,4,5],[0],rfl,⟨⟨rfl,rfl,rfl,rfl,BodyGe.z (Y03 (rest:=[]) rfl rfl)⟩,trivial⟩,rfl,rfl,.inr rfl⟩
  |false =>
   simp only[Y0j,if_false]
   have f3:=λX=>tn Z8w u2 X rfl h2 ok2
   clear tk tn qn qi qb qs qk qt
   refine MemQ.conv (r:=.agg [.int .i64 10,.str [],.str [],.int .i64 0,exA [.mk eo en et ek],stA tl,.nslice]) ?_ (λ_ _ _ h=>Zon (λ_ h=>h) (λ_ h=>h) (λ_ h=>Z9x h) h)
   simp only[psH,Ex.cells,St.cells,stA,exA]at f0 f1 f2 f3⊢
   refine Z0J follows Z05 (Z0a follows Z05 hO 3) Y0q rfl (Z0r (isC:=Zt4) 3) ?_
   repeat' ((conv=>whnf);first|refine exI (f0 _ rfl) ?_|refine exI (f1 _ rfl) ?_|refine exI (f2 _ rfl) ?_|refine exI (f3 _ rfl) ?_|refine stp ?_|with_reducible apply Z01<;>intro h)
   all_goals (try (conv=>whnf))
   all_goals exact⟨[1,2,3,4,5],[0],rfl,⟨⟨rfl,rfl,rfl,rfl,BodyGe.z (Y03 (rest:=[]) rfl rfl)⟩,trivial⟩,rfl,rfl,.inr rfl⟩
 |false =>
  rw[if_neg (by decide)]
  have f0:=λX=>tn kIf s X rfl h1 hs
  cases h2:isF T s Z8i with
  |true =>
   rw[if_pos rfl]
   have f1:=λX=>tk Z8i s X rfl h2 hs
   have ok0:=(Z0b hs h2).ok
   have b0:=Z7W ok0
   have i1:s.i+1<=(Z7X T (Z0g s)).2.i:=b0.on
   have f2:=λX=>qb _ X ok0
   have f3:=λX=>qk _ X b0.ok i1
   clear b0 bgo tk tn qn qi qb qs qk qt
   unfold Zu7
   generalize Z0g s=u0 at *
   generalize Z7X T u0=r0 at *
   obtain⟨⟨eo,en,et,ek⟩,u1⟩:=r0
   simp only at f2 f3 i1⊢
   generalize blk u1=r1 at *
   obtain⟨tl,u2⟩:=r1
   refine MemQ.conv (r:=.agg [.int .i64 11,.str [],.str [],.int .i64 0,exA [.mk eo en et ek],stA tl,.nslice]) ?_ (λ_ _ _ h=>Zon (λ_ h=>h) (λ_ h=>h) (λ_ h=>Z9x h) h)
   simp only[psH,Ex.cells,St.cells,stA,exA]at f0 f1 f2 f3⊢
   refine Z0J follows Z05 (Z0a follows Z05 hO 3) Y0q rfl (Z0r (isC:=Zt4) 3) ?_
   repeat' ((conv=>whnf);first|refine exI (f0 _ rfl) ?_|refine exI (f1 _ rfl) ?_|refine exI (f2 _ rfl) ?_|refine exI (f3 _ rfl) ?_|refine stp ?_|with_reducible apply Z01<;>intro h)
   all_goals (try (conv=>whnf))
   all_goals exact⟨[1,2,3,4,5],[0],rfl,⟨⟨rfl,rfl,rfl,rfl,BodyGe.z (Y03 (rest:=[]) rfl rfl)⟩,trivial⟩,rfl,rfl,.inr rfl⟩
  |false =>
   rw[if_neg (by decide)]
   have f1:=λX=>tn Z8i s X rfl h2 hs
   have f2:=λX=>qs s X hs
   have ok1:=(Zgn hs).1.ok
   have f3:=λX=>qn [59] _ X ok1
   clear bgo tk tn qn qi qb qs qk qt
   generalize Z2J T s=r at *
   obtain⟨x,u⟩:=r
   obtain⟨y1,y2,y3,y4,y5,y6,y7,y8,y9,y10,hy⟩:=Z5u x
   rw[hy]at f2⊢
   simp only at f2 f3 ok1⊢
   generalize Z0z T u [59]=u2 at *
   simp only[psH]at f0 f1 f2 f3⊢
   refine Z0J follows Z05 (Z0a follows Z05 hO 3) Y0q rfl (Z0r (isC:=Zt4) 3) ?_
   repeat' ((conv=>whnf);first|refine exI (f0 _ rfl) ?_|refine exI (f1 _ rfl) ?_|refine exI (f2 _ rfl) ?_|refine exI (f3 _ rfl) ?_|refine stp ?_|with_reducible apply Z01<;>intro h)
   all_goals (try (conv=>whnf))
   all_goals exact⟨[],[0],rfl,⟨⟨rfl,rfl,rfl,rfl,BodyGe.z (Y03 (rest:=[]) rfl rfl)⟩,trivial⟩,rfl,rfl,.inl (Y02 rfl)⟩
def Zom(T:List Tq):Nat->Ps->St×Ps
 |0,s=>(.mk 0 [] [] 0 [] [] [],s)
 |d+1,s=>Zat T (ZrY T (Zom T d)) (Zom T d) s
theorem Zj6{T:List Tq}:∀(d i0:Nat),T.length<=i0+d->Zss gl T i0 (Zom T d)
 |0,i0,hd=>λs hs hi=>by have:=hs.lt;omega
 |d+1,i0,hd=>λs hs hi=>by
  have ih:Zss gl T (s.i+1) (Zom T d):=Zj6 d (s.i+1) (by omega)
  have ib:=Zdq ih
  exact⟨ZpP (λt h h2=>(ib t h h2).1) (λt h h2=>(ih t h h2).1.1) hs,Zj4 ib ih hs⟩
def Zj5(T:List Tq)(s:Ps):St×Ps:=Zom T T.length s
theorem ZbR(T:List Tq):Zss gl T 0 (Zj5 T):=Zj6 T.length 0 (by omega)
end
end Go.Proofs.YtkkfcfjhhdmamaaGreatDoor.lex

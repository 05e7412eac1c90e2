/-
  Texts of this proof, one behind the other (part 10).
-/
import Derived.Test.YtpcpdlfhcahjgaaGreatDoorXd7
set_option linter.unusedVariables false
set_option linter.unusedSimpArgs false
set_option maxRecDepth 100000
set_option maxHeartbeats 4000000
open And renaming intro → Y00
open Bool renaming and_eq_true → Y01
open Nat renaming blt_eq → Y02
open Go.Proofs.Tryz renaming prog → Y03
namespace Go.Proofs.YtpcpdlfhcahjgaaGreatDoor.lex
open Go.Abs Go.RowKit
section
set_option maxHeartbeats 40000000
attribute [local irreducible] Go.Abs.frcHW Go.Abs.frcNP lg.sec
theorem ZhZ{s:List UInt8}{RR:Option (DGr×Bool×List UInt8)}{O:Orc}(hs:s.length<=1048576)(hRR:RR=Z2m gr0 false s)(hO:OrcSound Y03 runLives.gl O)(q1:∀s,s.length<=1048576->∀H,Z02 Y03 O H 36 [.str s]=some (Z1r s,H))(q2:∀s,s.length<=1048576->∀H,Z02 Y03 O H 25 [.str s,.str [10]]=some (Z6q 10 s,H)):∀t,(∃c,OnI s RR t c)->(t.ended=false/\∃l r,Z1b 10 t.rest=some (l,r)/\(Z06 l).2=true/\(Z06 l).1.kind=Z0k)->(Zj3 s RR O hs hRR hO).1 t:=by
 rintro⟨g,told,rest,ended⟩ ⟨c,hwf,hfew,hon,hen⟩ hk
 show Z10 _ _
 dsimp only at hwf hfew hon hen hk
 clear hRR
 cases ended with
 |true=>cases hk.1
 |false =>
  have hon:=hon rfl
  clear hen
  have q2r:=q2 rest (by omega)
  unfold Z6q at q2r
  have hTl:=Z3T g
  have hTf:=Z8h g
  obtain⟨N,hN⟩:∃N,N=gN g:=⟨_,rfl⟩
  rw[<- hN]at hTl hTf
  have hN2:2<=N:=by rw[hN];unfold gN;omega
  have hT4:∀o∈gT g,4<=o.fam:=λo ho=>(hTf o ho).1
  obtain⟨b0,hb0⟩:∃b,4+N+0=b:=⟨_,rfl⟩
  obtain⟨b1,hb1⟩:∃b,4+N+1=b:=⟨_,rfl⟩
  obtain⟨b2,hb2⟩:∃b,4+N+2=b:=⟨_,rfl⟩
  obtain⟨b3,hb3⟩:∃b,4+N+3=b:=⟨_,rfl⟩
  obtain⟨b4,hb4⟩:∃b,4+N+4=b:=⟨_,rfl⟩
  obtain⟨b5,hb5⟩:∃b,4+N+5=b:=⟨_,rfl⟩
  have hTb:∀o∈gT g,o.fam<b0:=λo ho=>by have:=(hTf o ho).2;omega
  have e0:gB ⟨g,told,rest,false⟩=lg.sec (gA g told) (gT g) []:=rfl
  rw[e0]
  cases hcut:Z1b 10 rest with
  |none =>
   obtain⟨_,l,r,h,_⟩:=hk;rw[hcut]at h;cases h
  |some p =>
   obtain⟨l,r⟩:=p
   rw[hcut]at q2r
   have hlen:=Z27 hcut
   have q1l:=q1 l (by omega)
   obtain⟨hx,hkd⟩:=Z1X l
   have hRno:(Z06 l).2=false->RR=none:=λh=>by rw[<- hon,Z5K hcut h]
   have hRput:(Z06 l).2=true->Z1I g told (Z06 l).1=none->RR=none:=λ_ h=>by rw[<- hon,Z4g hcut h]
   have hRend:∀g' t',(Z06 l).2=true->Z1I g told (Z06 l).1=some (g',t')->(Z06 l).1.kind=Z16->RR=some (g',t',r):=λg' t' h1 h2 h3=>by rw[<- hon,Z3i hcut h1 h2 h3]
   have hRon:∀g' t',(Z06 l).2=true->Z1I g told (Z06 l).1=some (g',t')->(Z06 l).1.kind≠Z16->Z2m g' t' r=RR:=λg' t' h1 h2 h3=>by rw[<- hon,Z2E hcut h1 h2 h3]
   have hwp:∀g' t',Z1I g told (Z06 l).1=some (g',t')->Wf g' t' (c+1):=λg' t' h=>Z6P hwf hx (by omega) h
   unfold Z1r lnV Z2r at q1l
   have hV:=Z1L (Z06 l).1.ids
   have hk2:(Z06 l).2=true/\(Z06 l).1.kind=Z0k:=by obtain⟨_,l',r',h,h2⟩:=hk;rw[hcut]at h;simp only[Option.some.injEq,Prod.mk.injEq]at h;rw[h.1];exact h2
   clear hk
   clear hon hcut q1 q2
   generalize (Z06 l).1=x at *
   generalize (Z06 l).2=b at *
   obtain⟨kk,xn,xv,⟨it,ii⟩,⟨ek,el,eo,er,ew⟩,⟨ft,fi⟩,xi⟩:=x
   dsimp only at q1l hV hkd hRend hRon hk2
   cases b with
   |false =>
    cases hk2.1
   |true =>
    have hTg:∀i,i<gN g->(gT g)[i]? = some (lg.inb (4+i) (gty g.thr.length i) (Z0J g i)):=λi hi=>lg.inn_get _ _ _ hi
    clear hRno
    have hk3:=hk2.2
    clear hk2
    rcases hkd rfl with rfl|rfl|rfl|rfl|rfl
    ·exact absurd hk3 (by decide)
    ·exact absurd hk3 (by decide)
    ·
     clear hk3
     obtain rfl:xi=[]:=hx.none (show ¬Z0k=Z0d by decide)
     have hV0:Z3E []=AV.nslice:=rfl
     rw[hV0]at q1l
     clear hV hV0 hkd hRend
     have hid:=hx.id0
     have hii:=hx.id1
     dsimp only at hid hii
     by_cases hgood:1<=it/\(it-1).toNat<g.thr.length/\ii=(thL g (it-1).toNat:Nat)
     rotate_left
     · have hR:=hRput rfl (Zfz rfl hgood)
       subst hR
       clear hRput hRon hwp
       unfold Z0k at q1l
       generalize hT:gT g=T0 at *
       by_cases hit:1<=it
       · obtain⟨j,hj⟩:∃j:Nat,it=(j:Int)+1:=⟨(it-1).toNat,by omega⟩
         subst hj
         have wj:IntKind.i64.wrap ((j:Int)+1-1)=j:=by rw[Z1i (by omega) (by omega)];omega
         have e0:decide ((j:Int)<0)=false:=by simp
         have htn:((j:Int)+1-1).toNat=j:=by omega
         rw[htn]at hgood
         by_cases hjn:j<g.thr.length
         · cases told with
           |false=>rw[hwf.no rfl]at hjn;cases hjn
           |true =>
            have e1:decide ((j:Int) >= (g.thr.length:Int))=false:=by simpa using hjn
            have hne:ii≠(thL g j:Nat):=λh=>hgood ⟨by omega,hjn,h⟩
            have hld2:∀off,off=j->tk 1 ((lg.outc 6 5 (thL g) g.thr.length).drop off)=some [lg.grn (6+j) 5 (thL g j)]:=λoff h=>by subst h;have:=lg.outc_at 6 5 (thL g) hjn;rwa [Nat.mul_one]at this
            have hld3:=hld2
            generalize hJ:(j:Int)=jv at *
            generalize thL g j=tl at *
            show Z10 _ _
            rw[Z0x]
            conv in (Z5J _ _)=>reduce
            subst hJ
            unfold gA
            cases tl with
            |zero =>
             have e2:(ii != (0:Int))=true:=by simpa using hne
             repeat' ((conv=>whnf);first|(refine Z0c (q2r _) ?_)|(with_reducible refine exW wj ?_)|(with_reducible refine ixJ j rfl ?_ ?_;focus omega)|refine exI (hld2 _ (by show 0+j*1=j;omega)) ?_|refine exI (hld3 _ (by show 0+j*1=j;omega)) ?_|(refine Z0c (q1l _) ?_)|(refine Z11 (Z9d rfl rfl) ?_)|(refine Z11 (Z0Z rfl (by first|(rw[slG hTl rfl (j:=3) rfl hb3];simp only[Z08,Z0z,refsL,Z0h,Y01,Y02,and_true];omega)|(rw[slG hTl rfl (j:=4) rfl hb4];simp only[Z08,Z0z,refsL,Z0h,Y01,Y02,and_true];omega)|(rw[slG hTl rfl (j:=5) rfl hb5];simp only[Z08,Z0z,refsL,Z0h,Y01,Y02,and_true];omega))) ?_)|(refine Z0p rfl (Z8G hT4 rfl rfl (by repeat' (first|exact trivial|refine Y00 ?_ ?_|((try dsimp only);omega)|((try dsimp only);split<;>omega))) rfl) ?_)|(refine Z0p rfl (Z6Y hT4 rfl rfl (by repeat' (first|exact trivial|refine Y00 ?_ ?_|((try dsimp only);omega)|((try dsimp only);split<;>omega))) rfl) ?_)|(refine Z0p rfl (Z7F hTl hTb hb0 rfl rfl rfl) ?_)|(refine Z04 (nwG hTl (j:=0) hb0 rfl rfl) ?_)|(refine Z04 (nwG hTl (j:=1) hb1 rfl rfl) ?_)|(refine Z04 (nwG hTl (j:=2) hb2 rfl rfl) ?_)|(refine Z04 (nwG hTl (j:=3) hb3 rfl rfl) ?_)|(refine Z04 (nwG hTl (j:=4) hb4 rfl rfl) ?_)|(refine Z04 (nwG hTl (j:=5) hb5 rfl rfl) ?_)|(refine lg.frcNPS (slG hTl rfl (j:=0) rfl hb0) ?_)|(refine lg.frcNPS (slG hTl rfl (j:=1) rfl hb1) ?_)|(refine lg.frcNPS (slG hTl rfl (j:=2) rfl hb2) ?_)|(refine lg.frcNPS (slG hTl rfl (j:=3) rfl hb3) ?_)|(refine lg.frcNPS (slG hTl rfl (j:=4) rfl hb4) ?_)|(refine lg.frcNPS (slG hTl rfl (j:=5) rfl hb5) ?_)|(refine onOI (lg.sec_lo rfl) ?_)|(refine onOI (atG hTl hb0 rfl (j:=0) rfl) ?_)|(refine onOI (atG hTl hb1 rfl (j:=1) rfl) ?_)|(refine onOI (atG hTl hb2 rfl (j:=2) rfl) ?_)|(refine onOI (atG hTl hb3 rfl (j:=3) rfl) ?_)|(refine onOI (atG hTl hb4 rfl (j:=4) rfl) ?_)|(refine onOI (atG hTl hb5 rfl (j:=5) rfl) ?_)|(with_reducible refine Z0B ?_)|(with_reducible refine Z0A ?_)|refine stp ?_|with_reducible apply Z01<;>intro h)
             conv=>whnf
             exact onOI (Z18 rfl rfl rfl rfl) ⟨_,rfl,rfl⟩
            |succ tl =>
             have e2:(ii != ((tl+1:Nat):Int))=true:=by simpa using hne
             repeat' ((conv=>whnf);first|(refine Z0c (q2r _) ?_)|(with_reducible refine exW wj ?_)|(with_reducible refine ixJ j rfl ?_ ?_;focus omega)|refine exI (hld2 _ (by show 0+j*1=j;omega)) ?_|refine exI (hld3 _ (by show 0+j*1=j;omega)) ?_|(refine Z0c (q1l _) ?_)|(refine Z11 (Z9d rfl rfl) ?_)|(refine Z11 (Z0Z rfl (by first|(rw[slG hTl rfl (j:=3) rfl hb3];simp only[Z08,Z0z,refsL,Z0h,Y01,Y02,and_true];omega)|(rw[slG hTl rfl (j:=4) rfl hb4];simp only[Z08,Z0z,refsL,Z0h,Y01,Y02,and_true];omega)|(rw[slG hTl rfl (j:=5) rfl hb5];simp only[Z08,Z0z,refsL,Z0h,Y01,Y02,and_true];omega))) ?_)|(refine Z0p rfl (Z8G hT4 rfl rfl (by repeat' (first|exact trivial|refine Y00 ?_ ?_|((try dsimp only);omega)|((try dsimp only);split<;>omega))) rfl) ?_)|(refine Z0p rfl (Z6Y hT4 rfl rfl (by repeat' (first|exact trivial|refine Y00 ?_ ?_|((try dsimp only);omega)|((try dsimp only);split<;>omega))) rfl) ?_)|(refine Z0p rfl (Z7F hTl hTb hb0 rfl rfl rfl) ?_)|(refine Z04 (nwG hTl (j:=0) hb0 rfl rfl) ?_)|(refine Z04 (nwG hTl (j:=1) hb1 rfl rfl) ?_)|(refine Z04 (nwG hTl (j:=2) hb2 rfl rfl) ?_)|(refine Z04 (nwG hTl (j:=3) hb3 rfl rfl) ?_)|(refine Z04 (nwG hTl (j:=4) hb4 rfl rfl) ?_)|(refine Z04 (nwG hTl (j:=5) hb5 rfl rfl) ?_)|(refine lg.frcNPS (slG hTl rfl (j:=0) rfl hb0) ?_)|(refine lg.frcNPS (slG hTl rfl (j:=1) rfl hb1) ?_)|(refine lg.frcNPS (slG hTl rfl (j:=2) rfl hb2) ?_)|(refine lg.frcNPS (slG hTl rfl (j:=3) rfl hb3) ?_)|(refine lg.frcNPS (slG hTl rfl (j:=4) rfl hb4) ?_)|(refine lg.frcNPS (slG hTl rfl (j:=5) rfl hb5) ?_)|(refine onOI (lg.sec_lo rfl) ?_)|(refine onOI (atG hTl hb0 rfl (j:=0) rfl) ?_)|(refine onOI (atG hTl hb1 rfl (j:=1) rfl) ?_)|(refine onOI (atG hTl hb2 rfl (j:=2) rfl) ?_)|(refine onOI (atG hTl hb3 rfl (j:=3) rfl) ?_)|(refine onOI (atG hTl hb4 rfl (j:=4) rfl) ?_)|(refine onOI (atG hTl hb5 rfl (j:=5) rfl) ?_)|(with_reducible refine Z0B ?_)|(with_reducible refine Z0A ?_)|refine stp ?_|with_reducible apply Z01<;>intro h)
             conv=>whnf
             exact onOI (Z18 rfl rfl rfl rfl) ⟨_,rfl,rfl⟩
         · have hld2:True:=trivial
           have e1:decide ((j:Int) >= (g.thr.length:Int))=true:=by simpa using hjn
           generalize hJ:(j:Int)=jv at *
           show Z10 _ _
           rw[Z0x]
           conv in (Z5J _ _)=>reduce
           subst hJ
           cases told
           · have hg0:=hwf.no rfl
             rw[hg0]at e1
             have e1':decide ((j:Int) >= 0)=true:=by simp
             unfold gA
             repeat' ((conv=>whnf);first|(refine Z0c (q2r _) ?_)|(with_reducible refine exW wj ?_)|(refine Z0c (q1l _) ?_)|(refine Z11 (Z9d rfl rfl) ?_)|(refine Z11 (Z0Z rfl (by first|(rw[slG hTl rfl (j:=3) rfl hb3];simp only[Z08,Z0z,refsL,Z0h,Y01,Y02,and_true];omega)|(rw[slG hTl rfl (j:=4) rfl hb4];simp only[Z08,Z0z,refsL,Z0h,Y01,Y02,and_true];omega)|(rw[slG hTl rfl (j:=5) rfl hb5];simp only[Z08,Z0z,refsL,Z0h,Y01,Y02,and_true];omega))) ?_)|(refine Z0p rfl (Z8G hT4 rfl rfl (by repeat' (first|exact trivial|refine Y00 ?_ ?_|((try dsimp only);omega)|((try dsimp only);split<;>omega))) rfl) ?_)|(refine Z0p rfl (Z6Y hT4 rfl rfl (by repeat' (first|exact trivial|refine Y00 ?_ ?_|((try dsimp only);omega)|((try dsimp only);split<;>omega))) rfl) ?_)|(refine Z0p rfl (Z7F hTl hTb hb0 rfl rfl rfl) ?_)|(refine Z04 (nwG hTl (j:=0) hb0 rfl rfl) ?_)|(refine Z04 (nwG hTl (j:=1) hb1 rfl rfl) ?_)|(refine Z04 (nwG hTl (j:=2) hb2 rfl rfl) ?_)|(refine Z04 (nwG hTl (j:=3) hb3 rfl rfl) ?_)|(refine Z04 (nwG hTl (j:=4) hb4 rfl rfl) ?_)|(refine Z04 (nwG hTl (j:=5) hb5 rfl rfl) ?_)|(refine lg.frcNPS (slG hTl rfl (j:=0) rfl hb0) ?_)|(refine lg.frcNPS (slG hTl rfl (j:=1) rfl hb1) ?_)|(refine lg.frcNPS (slG hTl rfl (j:=2) rfl hb2) ?_)|(refine lg.frcNPS (slG hTl rfl (j:=3) rfl hb3) ?_)|(refine lg.frcNPS (slG hTl rfl (j:=4) rfl hb4) ?_)|(refine lg.frcNPS (slG hTl rfl (j:=5) rfl hb5) ?_)|(refine onOI (lg.sec_lo rfl) ?_)|(refine onOI (atG hTl hb0 rfl (j:=0) rfl) ?_)|(refine onOI (atG hTl hb1 rfl (j:=1) rfl) ?_)|(refine onOI (atG hTl hb2 rfl (j:=2) rfl) ?_)|(refine onOI (atG hTl hb3 rfl (j:=3) rfl) ?_)|(refine onOI (atG hTl hb4 rfl (j:=4) rfl) ?_)|(refine onOI (atG hTl hb5 rfl (j:=5) rfl) ?_)|(with_reducible refine Z0B ?_)|(with_reducible refine Z0A ?_)|refine stp ?_|with_reducible apply Z01<;>intro h)
             conv=>whnf
             exact onOI (Z18 rfl rfl rfl rfl) ⟨_,rfl,rfl⟩
           · unfold gA
             repeat' ((conv=>whnf);first|(refine Z0c (q2r _) ?_)|(with_reducible refine exW wj ?_)|(refine Z0c (q1l _) ?_)|(refine Z11 (Z9d rfl rfl) ?_)|(refine Z11 (Z0Z rfl (by first|(rw[slG hTl rfl (j:=3) rfl hb3];simp only[Z08,Z0z,refsL,Z0h,Y01,Y02,and_true];omega)|(rw[slG hTl rfl (j:=4) rfl hb4];simp only[Z08,Z0z,refsL,Z0h,Y01,Y02,and_true];omega)|(rw[slG hTl rfl (j:=5) rfl hb5];simp only[Z08,Z0z,refsL,Z0h,Y01,Y02,and_true];omega))) ?_)|(refine Z0p rfl (Z8G hT4 rfl rfl (by repeat' (first|exact trivial|refine Y00 ?_ ?_|((try dsimp only);omega)|((try dsimp only);split<;>omega))) rfl) ?_)|(refine Z0p rfl (Z6Y hT4 rfl rfl (by repeat' (first|exact trivial|refine Y00 ?_ ?_|((try dsimp only);omega)|((try dsimp only);split<;>omega))) rfl) ?_)|(refine Z0p rfl (Z7F hTl hTb hb0 rfl rfl rfl) ?_)|(refine Z04 (nwG hTl (j:=0) hb0 rfl rfl) ?_)|(refine Z04 (nwG hTl (j:=1) hb1 rfl rfl) ?_)|(refine Z04 (nwG hTl (j:=2) hb2 rfl rfl) ?_)|(refine Z04 (nwG hTl (j:=3) hb3 rfl rfl) ?_)|(refine Z04 (nwG hTl (j:=4) hb4 rfl rfl) ?_)|(refine Z04 (nwG hTl (j:=5) hb5 rfl rfl) ?_)|(refine lg.frcNPS (slG hTl rfl (j:=0) rfl hb0) ?_)|(refine lg.frcNPS (slG hTl rfl (j:=1) rfl hb1) ?_)|(refine lg.frcNPS (slG hTl rfl (j:=2) rfl hb2) ?_)|(refine lg.frcNPS (slG hTl rfl (j:=3) rfl hb3) ?_)|(refine lg.frcNPS (slG hTl rfl (j:=4) rfl hb4) ?_)|(refine lg.frcNPS (slG hTl rfl (j:=5) rfl hb5) ?_)|(refine onOI (lg.sec_lo rfl) ?_)|(refine onOI (atG hTl hb0 rfl (j:=0) rfl) ?_)|(refine onOI (atG hTl hb1 rfl (j:=1) rfl) ?_)|(refine onOI (atG hTl hb2 rfl (j:=2) rfl) ?_)|(refine onOI (atG hTl hb3 rfl (j:=3) rfl) ?_)|(refine onOI (atG hTl hb4 rfl (j:=4) rfl) ?_)|(refine onOI (atG hTl hb5 rfl (j:=5) rfl) ?_)|(with_reducible refine Z0B ?_)|(with_reducible refine Z0A ?_)|refine stp ?_|with_reducible apply Z01<;>intro h)
             conv=>whnf
             exact onOI (Z18 rfl rfl rfl rfl) ⟨_,rfl,rfl⟩
       · have hit0:it=0:=by omega
         subst hit0
         have wj:IntKind.i64.wrap ((0:Int)-1) = -1:=by decide
         show Z10 _ _
         rw[Z0x]
         conv in (Z5J _ _)=>reduce
         cases told
         all_goals unfold gA
         all_goals repeat' ((conv=>whnf);first|(refine Z0c (q2r _) ?_)|(with_reducible refine exW wj ?_)|(refine Z0c (q1l _) ?_)|(refine Z11 (Z9d rfl rfl) ?_)|(refine Z11 (Z0Z rfl (by first|(rw[slG hTl rfl (j:=3) rfl hb3];simp only[Z08,Z0z,refsL,Z0h,Y01,Y02,and_true];omega)|(rw[slG hTl rfl (j:=4) rfl hb4];simp only[Z08,Z0z,refsL,Z0h,Y01,Y02,and_true];omega)|(rw[slG hTl rfl (j:=5) rfl hb5];simp only[Z08,Z0z,refsL,Z0h,Y01,Y02,and_true];omega))) ?_)|(refine Z0p rfl (Z8G hT4 rfl rfl (by repeat' (first|exact trivial|refine Y00 ?_ ?_|((try dsimp only);omega)|((try dsimp only);split<;>omega))) rfl) ?_)|(refine Z0p rfl (Z6Y hT4 rfl rfl (by repeat' (first|exact trivial|refine Y00 ?_ ?_|((try dsimp only);omega)|((try dsimp only);split<;>omega))) rfl) ?_)|(refine Z0p rfl (Z7F hTl hTb hb0 rfl rfl rfl) ?_)|(refine Z04 (nwG hTl (j:=0) hb0 rfl rfl) ?_)|(refine Z04 (nwG hTl (j:=1) hb1 rfl rfl) ?_)|(refine Z04 (nwG hTl (j:=2) hb2 rfl rfl) ?_)|(refine Z04 (nwG hTl (j:=3) hb3 rfl rfl) ?_)|(refine Z04 (nwG hTl (j:=4) hb4 rfl rfl) ?_)|(refine Z04 (nwG hTl (j:=5) hb5 rfl rfl) ?_)|(refine lg.frcNPS (slG hTl rfl (j:=0) rfl hb0) ?_)|(refine lg.frcNPS (slG hTl rfl (j:=1) rfl hb1) ?_)|(refine lg.frcNPS (slG hTl rfl (j:=2) rfl hb2) ?_)|(refine lg.frcNPS (slG hTl rfl (j:=3) rfl hb3) ?_)|(refine lg.frcNPS (slG hTl rfl (j:=4) rfl hb4) ?_)|(refine lg.frcNPS (slG hTl rfl (j:=5) rfl hb5) ?_)|(refine onOI (lg.sec_lo rfl) ?_)|(refine onOI (atG hTl hb0 rfl (j:=0) rfl) ?_)|(refine onOI (atG hTl hb1 rfl (j:=1) rfl) ?_)|(refine onOI (atG hTl hb2 rfl (j:=2) rfl) ?_)|(refine onOI (atG hTl hb3 rfl (j:=3) rfl) ?_)|(refine onOI (atG hTl hb4 rfl (j:=4) rfl) ?_)|(refine onOI (atG hTl hb5 rfl (j:=5) rfl) ?_)|(with_reducible refine Z0B ?_)|(with_reducible refine Z0A ?_)|refine stp ?_|with_reducible apply Z01<;>intro h)
         all_goals conv=>whnf
         all_goals exact onOI (Z18 rfl rfl rfl rfl) ⟨_,rfl,rfl⟩
     · obtain⟨hit,hjn,hie⟩:=hgood
       obtain⟨j,hj⟩:∃j:Nat,it=(j:Int)+1:=⟨(it-1).toNat,by omega⟩
       subst hj
       have wj:IntKind.i64.wrap ((j:Int)+1-1)=j:=by rw[Z1i (by omega) (by omega)];omega
       have e0:decide ((j:Int)<0)=false:=by simp
       have htn:((j:Int)+1-1).toNat=j:=by omega
       rw[htn]at hjn hie
       subst hie
       have hput:=ZjQ (g:=g) (told:=told) (x:=⟨Z0k,xn,xv,⟨(j:Int)+1,(thL g j:Nat)⟩,⟨ek,el,eo,er,ew⟩,⟨ft,fi⟩,[]⟩) rfl hwf.fl (by simp) hjn rfl
       have hR:=hRon _ _ rfl hput (show ¬Z0k=Z16 by decide)
       have hw2:=hwp _ _ hput
       clear hRput hRon hwp hput
       unfold Z0k at q1l
       cases told with
       |false=>rw[hwf.no rfl]at hjn;cases hjn
       |true =>
        have hjf:j<g.frm.length:=by rw[hwf.fl];exact hjn
        have e1:decide ((j:Int) >= (g.thr.length:Int))=false:=by simpa using hjn
        have hld2:∀off,off=j->tk 1 ((lg.outc 6 5 (thL g) g.thr.length).drop off)=some [lg.grn (6+j) 5 (thL g j)]:=λoff h=>by subst h;have:=lg.outc_at 6 5 (thL g) hjn;rwa [Nat.mul_one]at this
        have hld3:∀off,off=j->tk 1 ((lg.outc (6+g.thr.length) 2 (frL g) g.thr.length).drop off)=some [lg.grn (6+g.thr.length+j) 2 (frL g j)]:=λoff h=>by subst h;have:=lg.outc_at (6+g.thr.length) 2 (frL g) hjn;rwa [Nat.mul_one]at this
        have ht1:thL g j<=c:=by
         unfold thL
         have:=(hwf.t g.thr[j] (List.getElem_mem hjn)).1
         simpa[List.getD,hjn]using this
        have hf1:frL g j<=c:=by
         unfold frL
         have:=(hwf.f g.frm[j] (List.getElem_mem hjf)).1
         simpa[List.getD,hjf]using this
        have hi1:2+j<gN g:=by unfold gN;omega
        have hi2:2+g.thr.length+j<gN g:=by unfold gN;omega
        have hc1:(Z0J g (2+j)).length=thL g j*5:=by
         unfold Z0J
         rw[if_neg (by omega),if_neg (by omega),if_pos (by omega),show 2+j-2=j by omega]
         exact Z0Y (k:=5) (λ_=>rfl) _
        have hc2:(Z0J g (2+g.thr.length+j)).length=frL g j*2:=by
         unfold Z0J
         rw[if_neg (by omega),if_neg (by omega),if_neg (by omega),show 2+g.thr.length+j-2-g.thr.length=j by omega]
         exact Z0Y (k:=2) (λ_=>rfl) _
        have hg1:gty g.thr.length (2+j)=60:=by unfold gty;rw[if_neg (by omega),if_neg (by omega),if_pos (by omega)]
        have hg2:gty g.thr.length (2+g.thr.length+j)=63:=by unfold gty;rw[if_neg (by omega),if_neg (by omega),if_neg (by omega)]
        have hap1:∀{A E:Z00}{fx:Nat}{tx:TypeId},A.length=4->lg.famB 4 A=true->Z94 b0 E->E[2]? = some ⟨true,fx,0,.cells [.int .i64 ek,.int .i64 el,.int .i64 eo,.int .i64 er,.int .i64 ew] tx⟩->E.length=3->Z0U Y03 56 56 (lg.grn (6+j) 5 (thL g j)) (.slice b2 0 1 1 5) (lg.sec A (gT g) E)=some (.slice b3 0 (thL g j+1) (thL g j+1) 5,lg.sec A (gT g) (E++[⟨true,if thL g j=0 then b3 else 6+j,0,.cells (Z0J g (2+j)++[.int .i64 ek,.int .i64 el,.int .i64 eo,.int .i64 er,.int .i64 ew]) 60⟩])):=λhA hf hE hx hl=>by
         have:=appG (t:=56) (i:=2+j) (b:=b2) (z:=5) (by_:=40) (len:=thL g j) (by rw[hg1];kernel_rfl) hi1 (by rw[<- hN];exact hb2) (b':=b3) (by omega) hc1 (by decide) rfl rfl (by omega) (by decide) hA hf (λo ho=>by have:=Z1Z hE o ho;omega) hx hl
         rw[hg1,show 4+(2+j)=6+j by omega]at this
         exact this
        have hap2:∀{A E:Z00}{fx:Nat}{tx:TypeId},A.length=4->lg.famB 4 A=true->ZkD (6+g.thr.length+j) E->E[4]? = some ⟨true,fx,0,.cells [.int .i64 ft,.int .i64 fi] tx⟩->E.length=5->Z0U Y03 57 57 (lg.grn (6+g.thr.length+j) 2 (frL g j)) (.slice b4 0 1 1 2) (lg.sec A (gT g) E)=some (.slice b5 0 (frL g j+1) (frL g j+1) 2,lg.sec A (gT g) (E++[⟨true,if frL g j=0 then b5 else 6+g.thr.length+j,0,.cells (Z0J g (2+g.thr.length+j)++[.int .i64 ft,.int .i64 fi]) 63⟩])):=λhA hf hE hx hl=>by
         have:=appG (t:=57) (i:=2+g.thr.length+j) (b:=b4) (z:=2) (by_:=16) (len:=frL g j) (by rw[hg2];kernel_rfl) hi2 (by rw[<- hN];exact hb4) (b':=b5) (by omega) hc2 (by decide) rfl rfl (by omega) (by decide) hA hf (λo ho=>by have:=Zax hE o ho;omega) hx hl
         rw[hg2,show 4+(2+g.thr.length+j)=6+g.thr.length+j by omega]at this
         exact this
        have hos2:∀off v,off=j->spl (lg.outc 6 5 (thL g) g.thr.length) off [v]=some ((lg.outc 6 5 (thL g) g.thr.length).set j v):=λoff v h=>by subst h;have:=lg.outc_set 6 5 (thL g) hjn v;rwa [show 0+off*1=off by omega]at this
        have hos3:∀off v,off=j->spl (lg.outc (6+g.thr.length) 2 (frL g) g.thr.length) off [v]=some ((lg.outc (6+g.thr.length) 2 (frL g) g.thr.length).set j v):=λoff v h=>by subst h;have:=lg.outc_set (6+g.thr.length) 2 (frL g) hjn v;rwa [show 0+off*1=off by omega]at this
        obtain⟨b6,hb6⟩:∃b,4+N+6=b:=⟨_,rfl⟩
        generalize hT:gT g=T0 at *
        generalize hJ:(j:Int)=jv at *
        generalize htl:thL g j=tl at *
        generalize hfl:frL g j=fl at *
        show Z10 _ _
        rw[Z0x]
        conv in (Z5J _ _)=>reduce
        subst hJ
        unfold gA
        cases tl with
        |zero =>
         cases fl with
         |zero =>
          repeat' ((conv=>whnf);first|(refine Z0c (q2r _) ?_)|(with_reducible refine exW wj ?_)|(with_reducible refine ixJ j rfl ?_ ?_;focus omega)|refine exI (hld2 _ (by show 0+j*1=j;omega)) ?_|refine exI (hld3 _ (by show 0+j*1=j;omega)) ?_|(refine Z0c (q1l _) ?_)|(refine Z11 (Z9d rfl rfl) ?_)|(refine Z11 (Z0Z rfl (by first|(rw[slG hTl rfl (j:=3) rfl hb3];simp only[Z08,Z0z,refsL,Z0h,Y01,Y02,and_true];omega)|(rw[slG hTl rfl (j:=4) rfl hb4];simp only[Z08,Z0z,refsL,Z0h,Y01,Y02,and_true];omega)|(rw[slG hTl rfl (j:=6) rfl hb6];simp only[Z08,Z0z,refsL,Z0h,Y01,Y02,and_true];omega)|(rw[slG hTl rfl (j:=5) rfl hb5];simp only[Z08,Z0z,refsL,Z0h,Y01,Y02,and_true];omega))) ?_)|(refine Z0c (hap1 rfl rfl (by repeat' (first|exact trivial|refine Y00 ?_ ?_|((try dsimp only);omega)|((try dsimp only);split<;>omega))) rfl rfl) ?_)|(refine Z0c (hap2 rfl rfl (by repeat' (first|exact trivial|refine Y00 ?_ ?_|((try dsimp only);omega)|((try dsimp only);split<;>omega))) rfl rfl) ?_)|(refine Z0p (hos2 _ _ (by show 0+j*1=j;omega)) (ZmG hT4 rfl rfl (by repeat' (first|exact trivial|refine Y00 ?_ ?_|((try dsimp only);omega)|((try dsimp only);split<;>omega))) rfl) ?_)|(refine Z0p (hos3 _ _ (by show 0+j*1=j;omega)) (ZmF hT4 rfl rfl (by repeat' (first|exact trivial|refine Y00 ?_ ?_|((try dsimp only);omega)|((try dsimp only);split<;>omega))) rfl) ?_)|(refine Z0p rfl (Z8G hT4 rfl rfl (by repeat' (first|exact trivial|refine Y00 ?_ ?_|((try dsimp only);omega)|((try dsimp only);split<;>omega))) rfl) ?_)|(refine Z0p rfl (Z6Y hT4 rfl rfl (by repeat' (first|exact trivial|refine Y00 ?_ ?_|((try dsimp only);omega)|((try dsimp only);split<;>omega))) rfl) ?_)|(refine Z0p rfl (Z7F hTl hTb hb0 rfl rfl rfl) ?_)|(refine Z04 (nwG hTl (j:=0) hb0 rfl rfl) ?_)|(refine Z04 (nwG hTl (j:=1) hb1 rfl rfl) ?_)|(refine Z04 (nwG hTl (j:=2) hb2 rfl rfl) ?_)|(refine Z04 (nwG hTl (j:=3) hb3 rfl rfl) ?_)|(refine Z04 (nwG hTl (j:=4) hb4 rfl rfl) ?_)|(refine Z04 (nwG hTl (j:=5) hb5 rfl rfl) ?_)|(refine lg.frcNPS (slG hTl rfl (j:=0) rfl hb0) ?_)|(refine lg.frcNPS (slG hTl rfl (j:=1) rfl hb1) ?_)|(refine lg.frcNPS (slG hTl rfl (j:=2) rfl hb2) ?_)|(refine lg.frcNPS (slG hTl rfl (j:=3) rfl hb3) ?_)|(refine lg.frcNPS (slG hTl rfl (j:=4) rfl hb4) ?_)|(refine lg.frcNPS (slG hTl rfl (j:=5) rfl hb5) ?_)|(refine lg.frcNPS (slG hTl rfl (j:=6) rfl hb6) ?_)|(refine onOI (lg.sec_lo rfl) ?_)|(refine onOI (atG hTl hb0 rfl (j:=0) rfl) ?_)|(refine onOI (atG hTl hb1 rfl (j:=1) rfl) ?_)|(refine onOI (atG hTl hb2 rfl (j:=2) rfl) ?_)|(refine onOI (atG hTl hb3 rfl (j:=3) rfl) ?_)|(refine onOI (atG hTl hb4 rfl (j:=4) rfl) ?_)|(refine onOI (atG hTl hb5 rfl (j:=5) rfl) ?_)|(with_reducible refine Z0B ?_)|(with_reducible refine Z0A ?_)|refine stp ?_|with_reducible apply Z01<;>intro h)
          conv=>whnf
          conv=>whnf
          refine⟨⟨Z4L g j ⟨ek,el,eo,er,ew⟩ ⟨ft,fi⟩,true,r,false⟩,⟨c+1,hw2,by show c+1+r.length<=s.length;omega,λ_=>hR,λh=>(by cases h)⟩,by show r.length<rest.length;omega,?_⟩
          (try dsimp only)
          subst hT
          refine ZdG (g:=g) (j:=j) (b3:=b3) (b5:=b5) hjn hwf.fl (by rw[<- hN];exact hb3) (by rw[<- hN];exact hb5) htl hfl rfl ?_ rfl ?_ rfl ?_
          · refine stw ?_
            refine Y00 (Wk.ptr rfl rfl) ?_
            iterate 2 refine stw ?_
            refine Y00 (Wk.ptr rfl rfl) ?_
            exact wks
          ·first|exact .inl rfl|exact .inr rfl
          ·first|exact .inl rfl|exact .inr rfl
         |succ fl =>
          repeat' ((conv=>whnf);first|(refine Z0c (q2r _) ?_)|(with_reducible refine exW wj ?_)|(with_reducible refine ixJ j rfl ?_ ?_;focus omega)|refine exI (hld2 _ (by show 0+j*1=j;omega)) ?_|refine exI (hld3 _ (by show 0+j*1=j;omega)) ?_|(refine Z0c (q1l _) ?_)|(refine Z11 (Z9d rfl rfl) ?_)|(refine Z11 (Z0Z rfl (by first|(rw[slG hTl rfl (j:=3) rfl hb3];simp only[Z08,Z0z,refsL,Z0h,Y01,Y02,and_true];omega)|(rw[slG hTl rfl (j:=4) rfl hb4];simp only[Z08,Z0z,refsL,Z0h,Y01,Y02,and_true];omega)|(rw[slG hTl rfl (j:=6) rfl hb6];simp only[Z08,Z0z,refsL,Z0h,Y01,Y02,and_true];omega)|(rw[slG hTl rfl (j:=5) rfl hb5];simp only[Z08,Z0z,refsL,Z0h,Y01,Y02,and_true];omega))) ?_)|(refine Z0c (hap1 rfl rfl (by repeat' (first|exact trivial|refine Y00 ?_ ?_|((try dsimp only);omega)|((try dsimp only);split<;>omega))) rfl rfl) ?_)|(refine Z0c (hap2 rfl rfl (by repeat' (first|exact trivial|refine Y00 ?_ ?_|((try dsimp only);omega)|((try dsimp only);split<;>omega))) rfl rfl) ?_)|(refine Z0p (hos2 _ _ (by show 0+j*1=j;omega)) (ZmG hT4 rfl rfl (by repeat' (first|exact trivial|refine Y00 ?_ ?_|((try dsimp only);omega)|((try dsimp only);split<;>omega))) rfl) ?_)|(refine Z0p (hos3 _ _ (by show 0+j*1=j;omega)) (ZmF hT4 rfl rfl (by repeat' (first|exact trivial|refine Y00 ?_ ?_|((try dsimp only);omega)|((try dsimp only);split<;>omega))) rfl) ?_)|(refine Z0p rfl (Z8G hT4 rfl rfl (by repeat' (first|exact trivial|refine Y00 ?_ ?_|((try dsimp only);omega)|((try dsimp only);split<;>omega))) rfl) ?_)|(refine Z0p rfl (Z6Y hT4 rfl rfl (by repeat' (first|exact trivial|refine Y00 ?_ ?_|((try dsimp only);omega)|((try dsimp only);split<;>omega))) rfl) ?_)|(refine Z0p rfl (Z7F hTl hTb hb0 rfl rfl rfl) ?_)|(refine Z04 (nwG hTl (j:=0) hb0 rfl rfl) ?_)|(refine Z04 (nwG hTl (j:=1) hb1 rfl rfl) ?_)|(refine Z04 (nwG hTl (j:=2) hb2 rfl rfl) ?_)|(refine Z04 (nwG hTl (j:=3) hb3 rfl rfl) ?_)|(refine Z04 (nwG hTl (j:=4) hb4 rfl rfl) ?_)|(refine Z04 (nwG hTl (j:=5) hb5 rfl rfl) ?_)|(refine lg.frcNPS (slG hTl rfl (j:=0) rfl hb0) ?_)|(refine lg.frcNPS (slG hTl rfl (j:=1) rfl hb1) ?_)|(refine lg.frcNPS (slG hTl rfl (j:=2) rfl hb2) ?_)|(refine lg.frcNPS (slG hTl rfl (j:=3) rfl hb3) ?_)|(refine lg.frcNPS (slG hTl rfl (j:=4) rfl hb4) ?_)|(refine lg.frcNPS (slG hTl rfl (j:=5) rfl hb5) ?_)|(refine lg.frcNPS (slG hTl rfl (j:=6) rfl hb6) ?_)|(refine onOI (lg.sec_lo rfl) ?_)|(refine onOI (atG hTl hb0 rfl (j:=0) rfl) ?_)|(refine onOI (atG hTl hb1 rfl (j:=1) rfl) ?_)|(refine onOI (atG hTl hb2 rfl (j:=2) rfl) ?_)|(refine onOI (atG hTl hb3 rfl (j:=3) rfl) ?_)|(refine onOI (atG hTl hb4 rfl (j:=4) rfl) ?_)|(refine onOI (atG hTl hb5 rfl (j:=5) rfl) ?_)|(with_reducible refine Z0B ?_)|(with_reducible refine Z0A ?_)|refine stp ?_|with_reducible apply Z01<;>intro h)
          conv=>whnf
          conv=>whnf
          refine⟨⟨Z4L g j ⟨ek,el,eo,er,ew⟩ ⟨ft,fi⟩,true,r,false⟩,⟨c+1,hw2,by show c+1+r.length<=s.length;omega,λ_=>hR,λh=>(by cases h)⟩,by show r.length<rest.length;omega,?_⟩
          (try dsimp only)
          subst hT
          refine ZdG (g:=g) (j:=j) (b3:=b3) (b5:=b5) hjn hwf.fl (by rw[<- hN];exact hb3) (by rw[<- hN];exact hb5) htl hfl rfl ?_ rfl ?_ rfl ?_
          · refine stw ?_
            refine Y00 (Wk.ptr rfl rfl) ?_
            iterate 2 refine stw ?_
            refine Y00 (Wk.ptr rfl rfl) ?_
            exact wks
          ·first|exact .inl rfl|exact .inr rfl
          ·first|exact .inl rfl|exact .inr rfl
        |succ tl =>
         cases fl with
         |zero =>
          repeat' ((conv=>whnf);first|(refine Z0c (q2r _) ?_)|(with_reducible refine exW wj ?_)|(with_reducible refine ixJ j rfl ?_ ?_;focus omega)|refine exI (hld2 _ (by show 0+j*1=j;omega)) ?_|refine exI (hld3 _ (by show 0+j*1=j;omega)) ?_|(refine Z0c (q1l _) ?_)|(refine Z11 (Z9d rfl rfl) ?_)|(refine Z11 (Z0Z rfl (by first|(rw[slG hTl rfl (j:=3) rfl hb3];simp only[Z08,Z0z,refsL,Z0h,Y01,Y02,and_true];omega)|(rw[slG hTl rfl (j:=4) rfl hb4];simp only[Z08,Z0z,refsL,Z0h,Y01,Y02,and_true];omega)|(rw[slG hTl rfl (j:=6) rfl hb6];simp only[Z08,Z0z,refsL,Z0h,Y01,Y02,and_true];omega)|(rw[slG hTl rfl (j:=5) rfl hb5];simp only[Z08,Z0z,refsL,Z0h,Y01,Y02,and_true];omega))) ?_)|(refine Z0c (hap1 rfl rfl (by repeat' (first|exact trivial|refine Y00 ?_ ?_|((try dsimp only);omega)|((try dsimp only);split<;>omega))) rfl rfl) ?_)|(refine Z0c (hap2 rfl rfl (by repeat' (first|exact trivial|refine Y00 ?_ ?_|((try dsimp only);omega)|((try dsimp only);split<;>omega))) rfl rfl) ?_)|(refine Z0p (hos2 _ _ (by show 0+j*1=j;omega)) (ZmG hT4 rfl rfl (by repeat' (first|exact trivial|refine Y00 ?_ ?_|((try dsimp only);omega)|((try dsimp only);split<;>omega))) rfl) ?_)|(refine Z0p (hos3 _ _ (by show 0+j*1=j;omega)) (ZmF hT4 rfl rfl (by repeat' (first|exact trivial|refine Y00 ?_ ?_|((try dsimp only);omega)|((try dsimp only);split<;>omega))) rfl) ?_)|(refine Z0p rfl (Z8G hT4 rfl rfl (by repeat' (first|exact trivial|refine Y00 ?_ ?_|((try dsimp only);omega)|((try dsimp only);split<;>omega))) rfl) ?_)|(refine Z0p rfl (Z6Y hT4 rfl rfl (by repeat' (first|exact trivial|refine Y00 ?_ ?_|((try dsimp only);omega)|((try dsimp only);split<;>omega))) rfl) ?_)|(refine Z0p rfl (Z7F hTl hTb hb0 rfl rfl rfl) ?_)|(refine Z04 (nwG hTl (j:=0) hb0 rfl rfl) ?_)|(refine Z04 (nwG hTl (j:=1) hb1 rfl rfl) ?_)|(refine Z04 (nwG hTl (j:=2) hb2 rfl rfl) ?_)|(refine Z04 (nwG hTl (j:=3) hb3 rfl rfl) ?_)|(refine Z04 (nwG hTl (j:=4) hb4 rfl rfl) ?_)|(refine Z04 (nwG hTl (j:=5) hb5 rfl rfl) ?_)|(refine lg.frcNPS (slG hTl rfl (j:=0) rfl hb0) ?_)|(refine lg.frcNPS (slG hTl rfl (j:=1) rfl hb1) ?_)|(refine lg.frcNPS (slG hTl rfl (j:=2) rfl hb2) ?_)|(refine lg.frcNPS (slG hTl rfl (j:=3) rfl hb3) ?_)|(refine lg.frcNPS (slG hTl rfl (j:=4) rfl hb4) ?_)|(refine lg.frcNPS (slG hTl rfl (j:=5) rfl hb5) ?_)|(refine lg.frcNPS (slG hTl rfl (j:=6) rfl hb6) ?_)|(refine onOI (lg.sec_lo rfl) ?_)|(refine onOI (atG hTl hb0 rfl (j:=0) rfl) ?_)|(refine onOI (atG hTl hb1 rfl (j:=1) rfl) ?_)|(refine onOI (atG hTl hb2 rfl (j:=2) rfl) ?_)|(refine onOI (atG hTl hb3 rfl (j:=3) rfl) ?_)|(refine onOI (atG hTl hb4 rfl (j:=4) rfl) ?_)|(refine onOI (atG hTl hb5 rfl (j:=5) rfl) ?_)|(with_reducible refine Z0B ?_)|(with_reducible refine Z0A ?_)|refine stp ?_|with_reducible apply Z01<;>intro h)
          conv=>whnf
          conv=>whnf
          refine⟨⟨Z4L g j ⟨ek,el,eo,er,ew⟩ ⟨ft,fi⟩,true,r,false⟩,⟨c+1,hw2,by show c+1+r.length<=s.length;omega,λ_=>hR,λh=>(by cases h)⟩,by show r.length<rest.length;omega,?_⟩
          (try dsimp only)
          subst hT
          refine ZdG (g:=g) (j:=j) (b3:=b3) (b5:=b5) hjn hwf.fl (by rw[<- hN];exact hb3) (by rw[<- hN];exact hb5) htl hfl rfl ?_ rfl ?_ rfl ?_
          · refine stw ?_
            refine Y00 (Wk.ptr rfl rfl) ?_
            iterate 2 refine stw ?_
            refine Y00 (Wk.ptr rfl rfl) ?_
            exact wks
          ·first|exact .inl rfl|exact .inr rfl
          ·first|exact .inl rfl|exact .inr rfl
         |succ fl =>
          repeat' ((conv=>whnf);first|(refine Z0c (q2r _) ?_)|(with_reducible refine exW wj ?_)|(with_reducible refine ixJ j rfl ?_ ?_;focus omega)|refine exI (hld2 _ (by show 0+j*1=j;omega)) ?_|refine exI (hld3 _ (by show 0+j*1=j;omega)) ?_|(refine Z0c (q1l _) ?_)|(refine Z11 (Z9d rfl rfl) ?_)|(refine Z11 (Z0Z rfl (by first|(rw[slG hTl rfl (j:=3) rfl hb3];simp only[Z08,Z0z,refsL,Z0h,Y01,Y02,and_true];omega)|(rw[slG hTl rfl (j:=4) rfl hb4];simp only[Z08,Z0z,refsL,Z0h,Y01,Y02,and_true];omega)|(rw[slG hTl rfl (j:=6) rfl hb6];simp only[Z08,Z0z,refsL,Z0h,Y01,Y02,and_true];omega)|(rw[slG hTl rfl (j:=5) rfl hb5];simp only[Z08,Z0z,refsL,Z0h,Y01,Y02,and_true];omega))) ?_)|(refine Z0c (hap1 rfl rfl (by repeat' (first|exact trivial|refine Y00 ?_ ?_|((try dsimp only);omega)|((try dsimp only);split<;>omega))) rfl rfl) ?_)|(refine Z0c (hap2 rfl rfl (by repeat' (first|exact trivial|refine Y00 ?_ ?_|((try dsimp only);omega)|((try dsimp only);split<;>omega))) rfl rfl) ?_)|(refine Z0p (hos2 _ _ (by show 0+j*1=j;omega)) (ZmG hT4 rfl rfl (by repeat' (first|exact trivial|refine Y00 ?_ ?_|((try dsimp only);omega)|((try dsimp only);split<;>omega))) rfl) ?_)|(refine Z0p (hos3 _ _ (by show 0+j*1=j;omega)) (ZmF hT4 rfl rfl (by repeat' (first|exact trivial|refine Y00 ?_ ?_|((try dsimp only);omega)|((try dsimp only);split<;>omega))) rfl) ?_)|(refine Z0p rfl (Z8G hT4 rfl rfl (by repeat' (first|exact trivial|refine Y00 ?_ ?_|((try dsimp only);omega)|((try dsimp only);split<;>omega))) rfl) ?_)|(refine Z0p rfl (Z6Y hT4 rfl rfl (by repeat' (first|exact trivial|refine Y00 ?_ ?_|((try dsimp only);omega)|((try dsimp only);split<;>omega))) rfl) ?_)|(refine Z0p rfl (Z7F hTl hTb hb0 rfl rfl rfl) ?_)|(refine Z04 (nwG hTl (j:=0) hb0 rfl rfl) ?_)|(refine Z04 (nwG hTl (j:=1) hb1 rfl rfl) ?_)|(refine Z04 (nwG hTl (j:=2) hb2 rfl rfl) ?_)|(refine Z04 (nwG hTl (j:=3) hb3 rfl rfl) ?_)|(refine Z04 (nwG hTl (j:=4) hb4 rfl rfl) ?_)|(refine Z04 (nwG hTl (j:=5) hb5 rfl rfl) ?_)|(refine lg.frcNPS (slG hTl rfl (j:=0) rfl hb0) ?_)|(refine lg.frcNPS (slG hTl rfl (j:=1) rfl hb1) ?_)|(refine lg.frcNPS (slG hTl rfl (j:=2) rfl hb2) ?_)|(refine lg.frcNPS (slG hTl rfl (j:=3) rfl hb3) ?_)|(refine lg.frcNPS (slG hTl rfl (j:=4) rfl hb4) ?_)|(refine lg.frcNPS (slG hTl rfl (j:=5) rfl hb5) ?_)|(refine lg.frcNPS (slG hTl rfl (j:=6) rfl hb6) ?_)|(refine onOI (lg.sec_lo rfl) ?_)|(refine onOI (atG hTl hb0 rfl (j:=0) rfl) ?_)|(refine onOI (atG hTl hb1 rfl (j:=1) rfl) ?_)|(refine onOI (atG hTl hb2 rfl (j:=2) rfl) ?_)|(refine onOI (atG hTl hb3 rfl (j:=3) rfl) ?_)|(refine onOI (atG hTl hb4 rfl (j:=4) rfl) ?_)|(refine onOI (atG hTl hb5 rfl (j:=5) rfl) ?_)|(with_reducible refine Z0B ?_)|(with_reducible refine Z0A ?_)|refine stp ?_|with_reducible apply Z01<;>intro h)
          conv=>whnf
          conv=>whnf
          refine⟨⟨Z4L g j ⟨ek,el,eo,er,ew⟩ ⟨ft,fi⟩,true,r,false⟩,⟨c+1,hw2,by show c+1+r.length<=s.length;omega,λ_=>hR,λh=>(by cases h)⟩,by show r.length<rest.length;omega,?_⟩
          (try dsimp only)
          subst hT
          refine ZdG (g:=g) (j:=j) (b3:=b3) (b5:=b5) hjn hwf.fl (by rw[<- hN];exact hb3) (by rw[<- hN];exact hb5) htl hfl rfl ?_ rfl ?_ rfl ?_
          · refine stw ?_
            refine Y00 (Wk.ptr rfl rfl) ?_
            iterate 2 refine stw ?_
            refine Y00 (Wk.ptr rfl rfl) ?_
            exact wks
          ·first|exact .inl rfl|exact .inr rfl
          ·first|exact .inl rfl|exact .inr rfl
    ·exact absurd hk3 (by decide)
    ·exact absurd hk3 (by decide)
end
end Go.Proofs.YtpcpdlfhcahjgaaGreatDoor.lex

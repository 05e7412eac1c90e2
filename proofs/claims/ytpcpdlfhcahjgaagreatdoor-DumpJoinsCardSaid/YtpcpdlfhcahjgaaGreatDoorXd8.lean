/-
  Texts of this proof, one behind the other (part 8).
-/
import Derived.Test.YtpcpdlfhcahjgaaGreatDoorXd7
set_option linter.unusedVariables false
set_option linter.unusedSimpArgs false
set_option maxRecDepth 100000
set_option maxHeartbeats 4000000
open And renaming intro → Y00
open Bool renaming and_eq_true → Y01
open Nat renaming blt_eq → Y02
open Go.Abs.Wk renaming ptr → Y03
namespace Go.Proofs.YtpcpdlfhcahjgaaGreatDoor.lex
open Go.Abs Go.RowKit
section
set_option maxHeartbeats 40000000
attribute [local irreducible] Go.Abs.frcHW Go.Abs.frcNP lg.sec
theorem ZhY{s:List UInt8}{RR:Option (DGr×Bool×List UInt8)}{O:Orc}(hs:s.length<=1048576)(hRR:RR=Z2m gr0 false s)(hO:OrcSound Tryz.prog runLives.gl O)(q1:∀s,s.length<=1048576->∀H,Z02 Tryz.prog O H 36 [.str s]=some (Z1r s,H))(q2:∀s,s.length<=1048576->∀H,Z02 Tryz.prog O H 25 [.str s,.str [10]]=some (Z6q 10 s,H)):∀t,(∃c,OnI s RR t c)->(t.ended=false/\∃l r,Z1b 10 t.rest=some (l,r)/\(Z06 l).2=true/\(Z06 l).1.kind=Z0j)->(Zj3 s RR O hs hRR hO).1 t:=by
 rintro⟨g,told,rest,ended⟩ ⟨c,hwf,hfew,hon,hen⟩ hk
 show Z10 _ _
 dsimp only at hwf hfew hon hen hk
 clear hRR
 cases ended with
 |true=>cases hk.1
 |false =>
  have hon:=hon rfl
  clear hen
  have q2r:=q2 rest (by omega)
  unfold Z6q at q2r
  have hTl:=Z3T g
  have hTf:=Z8h g
  obtain⟨N,hN⟩:∃N,N=gN g:=⟨_,rfl⟩
  rw[<- hN]at hTl hTf
  have hN2:2<=N:=by rw[hN];unfold gN;omega
  have hT4:∀o∈gT g,4<=o.fam:=λo ho=>(hTf o ho).1
  obtain⟨b0,hb0⟩:∃b,4+N+0=b:=⟨_,rfl⟩
  obtain⟨b1,hb1⟩:∃b,4+N+1=b:=⟨_,rfl⟩
  obtain⟨b2,hb2⟩:∃b,4+N+2=b:=⟨_,rfl⟩
  obtain⟨b3,hb3⟩:∃b,4+N+3=b:=⟨_,rfl⟩
  obtain⟨b4,hb4⟩:∃b,4+N+4=b:=⟨_,rfl⟩
  obtain⟨b5,hb5⟩:∃b,4+N+5=b:=⟨_,rfl⟩
  have hTb:∀o∈gT g,o.fam<b0:=λo ho=>by have:=(hTf o ho).2;omega
  have e0:gB ⟨g,told,rest,false⟩=lg.sec (gA g told) (gT g) []:=rfl
  rw[e0]
  cases hcut:Z1b 10 rest with
  |none =>
   obtain⟨_,l,r,h,_⟩:=hk;rw[hcut]at h;cases h
  |some p =>
   obtain⟨l,r⟩:=p
   rw[hcut]at q2r
   have hlen:=Z27 hcut
   have q1l:=q1 l (by omega)
   obtain⟨hx,hkd⟩:=Z1X l
   have hRno:(Z06 l).2=false->RR=none:=λh=>by rw[<- hon,Z5K hcut h]
   have hRput:(Z06 l).2=true->Z1I g told (Z06 l).1=none->RR=none:=λ_ h=>by rw[<- hon,Z4g hcut h]
   have hRend:∀g' t',(Z06 l).2=true->Z1I g told (Z06 l).1=some (g',t')->(Z06 l).1.kind=Z16->RR=some (g',t',r):=λg' t' h1 h2 h3=>by rw[<- hon,Z3i hcut h1 h2 h3]
   have hRon:∀g' t',(Z06 l).2=true->Z1I g told (Z06 l).1=some (g',t')->(Z06 l).1.kind≠Z16->Z2m g' t' r=RR:=λg' t' h1 h2 h3=>by rw[<- hon,Z2E hcut h1 h2 h3]
   have hwp:∀g' t',Z1I g told (Z06 l).1=some (g',t')->Wf g' t' (c+1):=λg' t' h=>Z6P hwf hx (by omega) h
   unfold Z1r lnV Z2r at q1l
   have hV:=Z1L (Z06 l).1.ids
   have hk2:(Z06 l).2=true/\(Z06 l).1.kind=Z0j:=by obtain⟨_,l',r',h,h2⟩:=hk;rw[hcut]at h;simp only[Option.some.injEq,Prod.mk.injEq]at h;rw[h.1];exact h2
   clear hk
   clear hon hcut q1 q2
   generalize (Z06 l).1=x at *
   generalize (Z06 l).2=b at *
   obtain⟨kk,xn,xv,⟨it,ii⟩,⟨ek,el,eo,er,ew⟩,⟨ft,fi⟩,xi⟩:=x
   dsimp only at q1l hV hkd hRend hRon hk2
   cases b with
   |false =>
    cases hk2.1
   |true =>
    have hTg:∀i,i<gN g->(gT g)[i]? = some (lg.inb (4+i) (gty g.thr.length i) (Z0J g i)):=λi hi=>lg.inn_get _ _ _ hi
    clear hRno
    have hk3:=hk2.2
    clear hk2
    rcases hkd rfl with rfl|rfl|rfl|rfl|rfl
    ·
     clear hk3
     obtain rfl:xi=[]:=hx.none (show ¬Z0j=Z0d by decide)
     have hV0:Z3E []=AV.nslice:=rfl
     rw[hV0]at q1l
     clear hV hV0 hkd hRend
     have hput:Z1I g told ⟨Z0j,xn,xv,⟨it,ii⟩,⟨ek,el,eo,er,ew⟩,⟨ft,fi⟩,[]⟩=if told=true\/4<xn then none else some ({ g with thr:=List.replicate xn.toNat [],frm:=List.replicate xn.toNat [] },true):=by
      unfold Z1I
      rw[if_pos rfl]
     rw[hput]at hRput hRon hwp
     clear hput
     have hn0:0<=xn:=hx.n0
     unfold Z0j at q1l
     by_cases hxn:told=true\/4<xn
     · have hR:=hRput rfl (if_pos hxn)
       subst hR
       clear hRput hRon hwp
       generalize hT:gT g=T0 at *
       generalize hlen2:g.ini.length=L at *
       show Z10 _ _
       rw[Z0x]
       conv in (Z5J _ _)=>reduce
       cases told
       · have hgt:decide (xn>4)=true:=by rcases hxn with h|h;cases h;simpa using h
         unfold gA
         rw[hlen2]
         repeat' ((conv=>whnf);first|(refine Z0c (q2r _) ?_)|(refine Z0c (q1l _) ?_)|(refine Z11 (Z9d rfl rfl) ?_)|(refine Z11 (Z0Z rfl (by first|(rw[slG hTl rfl (j:=3) rfl hb3];simp only[Z08,Z0z,refsL,Z0h,Y01,Y02,and_true];omega)|(rw[slG hTl rfl (j:=4) rfl hb4];simp only[Z08,Z0z,refsL,Z0h,Y01,Y02,and_true];omega)|(rw[slG hTl rfl (j:=5) rfl hb5];simp only[Z08,Z0z,refsL,Z0h,Y01,Y02,and_true];omega))) ?_)|(refine Z0p rfl (Z8G hT4 rfl rfl (by repeat' (first|exact trivial|refine Y00 ?_ ?_|((try dsimp only);omega)|((try dsimp only);split<;>omega))) rfl) ?_)|(refine Z0p rfl (Z6Y hT4 rfl rfl (by repeat' (first|exact trivial|refine Y00 ?_ ?_|((try dsimp only);omega)|((try dsimp only);split<;>omega))) rfl) ?_)|(refine Z0p rfl (Z7F hTl hTb hb0 rfl rfl rfl) ?_)|(refine Z04 (nwG hTl (j:=0) hb0 rfl rfl) ?_)|(refine Z04 (nwG hTl (j:=1) hb1 rfl rfl) ?_)|(refine Z04 (nwG hTl (j:=2) hb2 rfl rfl) ?_)|(refine Z04 (nwG hTl (j:=3) hb3 rfl rfl) ?_)|(refine Z04 (nwG hTl (j:=4) hb4 rfl rfl) ?_)|(refine Z04 (nwG hTl (j:=5) hb5 rfl rfl) ?_)|(refine lg.frcNPS (slG hTl rfl (j:=0) rfl hb0) ?_)|(refine lg.frcNPS (slG hTl rfl (j:=1) rfl hb1) ?_)|(refine lg.frcNPS (slG hTl rfl (j:=2) rfl hb2) ?_)|(refine lg.frcNPS (slG hTl rfl (j:=3) rfl hb3) ?_)|(refine lg.frcNPS (slG hTl rfl (j:=4) rfl hb4) ?_)|(refine lg.frcNPS (slG hTl rfl (j:=5) rfl hb5) ?_)|(refine onOI (lg.sec_lo rfl) ?_)|(refine onOI (atG hTl hb0 rfl (j:=0) rfl) ?_)|(refine onOI (atG hTl hb1 rfl (j:=1) rfl) ?_)|(refine onOI (atG hTl hb2 rfl (j:=2) rfl) ?_)|(refine onOI (atG hTl hb3 rfl (j:=3) rfl) ?_)|(refine onOI (atG hTl hb4 rfl (j:=4) rfl) ?_)|(refine onOI (atG hTl hb5 rfl (j:=5) rfl) ?_)|(with_reducible refine Z0B ?_)|(with_reducible refine Z0A ?_)|refine stp ?_|with_reducible apply Z01<;>intro h)
         all_goals conv=>whnf
         all_goals exact onOI (Z18 rfl rfl rfl rfl) ⟨_,rfl,rfl⟩
       · unfold gA
         rw[hlen2]
         repeat' ((conv=>whnf);first|(refine Z0c (q2r _) ?_)|(refine Z0c (q1l _) ?_)|(refine Z11 (Z9d rfl rfl) ?_)|(refine Z11 (Z0Z rfl (by first|(rw[slG hTl rfl (j:=3) rfl hb3];simp only[Z08,Z0z,refsL,Z0h,Y01,Y02,and_true];omega)|(rw[slG hTl rfl (j:=4) rfl hb4];simp only[Z08,Z0z,refsL,Z0h,Y01,Y02,and_true];omega)|(rw[slG hTl rfl (j:=5) rfl hb5];simp only[Z08,Z0z,refsL,Z0h,Y01,Y02,and_true];omega))) ?_)|(refine Z0p rfl (Z8G hT4 rfl rfl (by repeat' (first|exact trivial|refine Y00 ?_ ?_|((try dsimp only);omega)|((try dsimp only);split<;>omega))) rfl) ?_)|(refine Z0p rfl (Z6Y hT4 rfl rfl (by repeat' (first|exact trivial|refine Y00 ?_ ?_|((try dsimp only);omega)|((try dsimp only);split<;>omega))) rfl) ?_)|(refine Z0p rfl (Z7F hTl hTb hb0 rfl rfl rfl) ?_)|(refine Z04 (nwG hTl (j:=0) hb0 rfl rfl) ?_)|(refine Z04 (nwG hTl (j:=1) hb1 rfl rfl) ?_)|(refine Z04 (nwG hTl (j:=2) hb2 rfl rfl) ?_)|(refine Z04 (nwG hTl (j:=3) hb3 rfl rfl) ?_)|(refine Z04 (nwG hTl (j:=4) hb4 rfl rfl) ?_)|(refine Z04 (nwG hTl (j:=5) hb5 rfl rfl) ?_)|(refine lg.frcNPS (slG hTl rfl (j:=0) rfl hb0) ?_)|(refine lg.frcNPS (slG hTl rfl (j:=1) rfl hb1) ?_)|(refine lg.frcNPS (slG hTl rfl (j:=2) rfl hb2) ?_)|(refine lg.frcNPS (slG hTl rfl (j:=3) rfl hb3) ?_)|(refine lg.frcNPS (slG hTl rfl (j:=4) rfl hb4) ?_)|(refine lg.frcNPS (slG hTl rfl (j:=5) rfl hb5) ?_)|(refine onOI (lg.sec_lo rfl) ?_)|(refine onOI (atG hTl hb0 rfl (j:=0) rfl) ?_)|(refine onOI (atG hTl hb1 rfl (j:=1) rfl) ?_)|(refine onOI (atG hTl hb2 rfl (j:=2) rfl) ?_)|(refine onOI (atG hTl hb3 rfl (j:=3) rfl) ?_)|(refine onOI (atG hTl hb4 rfl (j:=4) rfl) ?_)|(refine onOI (atG hTl hb5 rfl (j:=5) rfl) ?_)|(with_reducible refine Z0B ?_)|(with_reducible refine Z0A ?_)|refine stp ?_|with_reducible apply Z01<;>intro h)
         all_goals conv=>whnf
         all_goals exact onOI (Z18 rfl rfl rfl rfl) ⟨_,rfl,rfl⟩
     · obtain⟨ht,hx4⟩:=not_or.1 hxn
       have hR:=hRon _ _ rfl (if_neg hxn) (show ¬Z0j=Z16 by decide)
       have hw2:=hwp _ _ (if_neg hxn)
       clear hRput hRon hwp
       cases told with
       |true=>exact absurd rfl ht
       |false =>
        have hg0:=hwf.no rfl
        obtain⟨n,hn⟩:∃n:Nat,xn=n:=⟨xn.toNat,by omega⟩
        subst hn
        generalize hT:gT g=T0 at *
        generalize hlen2:g.ini.length=L at *
        show Z10 _ _
        rw[Z0x]
        conv in (Z5J _ _)=>reduce
        unfold gA
        rw[hlen2]
        have hn4:n<=4:=by omega
        match n,hn4 with
        |0,_ =>
         repeat' ((conv=>whnf);first|(refine Z0c (q2r _) ?_)|(refine Z0c (q1l _) ?_)|(refine Z11 (Z9d rfl rfl) ?_)|(refine Z11 (Z0Z rfl (by first|(rw[slG hTl rfl (j:=3) rfl hb3];simp only[Z08,Z0z,refsL,Z0h,Y01,Y02,and_true];omega)|(rw[slG hTl rfl (j:=4) rfl hb4];simp only[Z08,Z0z,refsL,Z0h,Y01,Y02,and_true];omega)|(rw[slG hTl rfl (j:=5) rfl hb5];simp only[Z08,Z0z,refsL,Z0h,Y01,Y02,and_true];omega))) ?_)|(refine Z0p rfl (Z8G hT4 rfl rfl (by repeat' (first|exact trivial|refine Y00 ?_ ?_|((try dsimp only);omega)|((try dsimp only);split<;>omega))) rfl) ?_)|(refine Z0p rfl (Z6Y hT4 rfl rfl (by repeat' (first|exact trivial|refine Y00 ?_ ?_|((try dsimp only);omega)|((try dsimp only);split<;>omega))) rfl) ?_)|(refine Z0p rfl (Z7F hTl hTb hb0 rfl rfl rfl) ?_)|(refine Z04 (nwG hTl (j:=0) hb0 rfl rfl) ?_)|(refine Z04 (nwG hTl (j:=1) hb1 rfl rfl) ?_)|(refine Z04 (nwG hTl (j:=2) hb2 rfl rfl) ?_)|(refine Z04 (nwG hTl (j:=3) hb3 rfl rfl) ?_)|(refine Z04 (nwG hTl (j:=4) hb4 rfl rfl) ?_)|(refine Z04 (nwG hTl (j:=5) hb5 rfl rfl) ?_)|(refine lg.frcNPS (slG hTl rfl (j:=0) rfl hb0) ?_)|(refine lg.frcNPS (slG hTl rfl (j:=1) rfl hb1) ?_)|(refine lg.frcNPS (slG hTl rfl (j:=2) rfl hb2) ?_)|(refine lg.frcNPS (slG hTl rfl (j:=3) rfl hb3) ?_)|(refine lg.frcNPS (slG hTl rfl (j:=4) rfl hb4) ?_)|(refine lg.frcNPS (slG hTl rfl (j:=5) rfl hb5) ?_)|(refine onOI (lg.sec_lo rfl) ?_)|(refine onOI (atG hTl hb0 rfl (j:=0) rfl) ?_)|(refine onOI (atG hTl hb1 rfl (j:=1) rfl) ?_)|(refine onOI (atG hTl hb2 rfl (j:=2) rfl) ?_)|(refine onOI (atG hTl hb3 rfl (j:=3) rfl) ?_)|(refine onOI (atG hTl hb4 rfl (j:=4) rfl) ?_)|(refine onOI (atG hTl hb5 rfl (j:=5) rfl) ?_)|(with_reducible refine Z0B ?_)|(with_reducible refine Z0A ?_)|refine stp ?_|with_reducible apply Z01<;>intro h)
         conv=>whnf
         conv=>whnf
         refine⟨⟨{ g with thr:=List.replicate 0 [],frm:=List.replicate 0 [] },true,r,false⟩,⟨c+1,hw2,by show c+1+r.length<=s.length;omega,λ_=>hR,λh=>(by cases h)⟩,by show r.length<rest.length;omega,?_⟩
         (try dsimp only)
         subst hT
         subst hlen2
         refine ZaO (n:=0) hg0 (by rw[<- hN];exact hb2) (by rw[<- hN];exact hb3) rfl ?_ rfl rfl
         refine stw ?_
         refine Y00 (Y03 rfl rfl) ?_
         iterate 2 refine stw ?_
         refine Y00 (Y03 rfl rfl) ?_
         exact wks
        |1,_ =>
         repeat' ((conv=>whnf);first|(refine Z0c (q2r _) ?_)|(refine Z0c (q1l _) ?_)|(refine Z11 (Z9d rfl rfl) ?_)|(refine Z11 (Z0Z rfl (by first|(rw[slG hTl rfl (j:=3) rfl hb3];simp only[Z08,Z0z,refsL,Z0h,Y01,Y02,and_true];omega)|(rw[slG hTl rfl (j:=4) rfl hb4];simp only[Z08,Z0z,refsL,Z0h,Y01,Y02,and_true];omega)|(rw[slG hTl rfl (j:=5) rfl hb5];simp only[Z08,Z0z,refsL,Z0h,Y01,Y02,and_true];omega))) ?_)|(refine Z0p rfl (Z8G hT4 rfl rfl (by repeat' (first|exact trivial|refine Y00 ?_ ?_|((try dsimp only);omega)|((try dsimp only);split<;>omega))) rfl) ?_)|(refine Z0p rfl (Z6Y hT4 rfl rfl (by repeat' (first|exact trivial|refine Y00 ?_ ?_|((try dsimp only);omega)|((try dsimp only);split<;>omega))) rfl) ?_)|(refine Z0p rfl (Z7F hTl hTb hb0 rfl rfl rfl) ?_)|(refine Z04 (nwG hTl (j:=0) hb0 rfl rfl) ?_)|(refine Z04 (nwG hTl (j:=1) hb1 rfl rfl) ?_)|(refine Z04 (nwG hTl (j:=2) hb2 rfl rfl) ?_)|(refine Z04 (nwG hTl (j:=3) hb3 rfl rfl) ?_)|(refine Z04 (nwG hTl (j:=4) hb4 rfl rfl) ?_)|(refine Z04 (nwG hTl (j:=5) hb5 rfl rfl) ?_)|(refine lg.frcNPS (slG hTl rfl (j:=0) rfl hb0) ?_)|(refine lg.frcNPS (slG hTl rfl (j:=1) rfl hb1) ?_)|(refine lg.frcNPS (slG hTl rfl (j:=2) rfl hb2) ?_)|(refine lg.frcNPS (slG hTl rfl (j:=3) rfl hb3) ?_)|(refine lg.frcNPS (slG hTl rfl (j:=4) rfl hb4) ?_)|(refine lg.frcNPS (slG hTl rfl (j:=5) rfl hb5) ?_)|(refine onOI (lg.sec_lo rfl) ?_)|(refine onOI (atG hTl hb0 rfl (j:=0) rfl) ?_)|(refine onOI (atG hTl hb1 rfl (j:=1) rfl) ?_)|(refine onOI (atG hTl hb2 rfl (j:=2) rfl) ?_)|(refine onOI (atG hTl hb3 rfl (j:=3) rfl) ?_)|(refine onOI (atG hTl hb4 rfl (j:=4) rfl) ?_)|(refine onOI (atG hTl hb5 rfl (j:=5) rfl) ?_)|(with_reducible refine Z0B ?_)|(with_reducible refine Z0A ?_)|refine stp ?_|with_reducible apply Z01<;>intro h)
         conv=>whnf
         conv=>whnf
         refine⟨⟨{ g with thr:=List.replicate 1 [],frm:=List.replicate 1 [] },true,r,false⟩,⟨c+1,hw2,by show c+1+r.length<=s.length;omega,λ_=>hR,λh=>(by cases h)⟩,by show r.length<rest.length;omega,?_⟩
         (try dsimp only)
         subst hT
         subst hlen2
         refine ZaO (n:=1) hg0 (by rw[<- hN];exact hb2) (by rw[<- hN];exact hb3) rfl ?_ rfl rfl
         refine stw ?_
         refine Y00 (Y03 rfl rfl) ?_
         iterate 2 refine stw ?_
         refine Y00 (Y03 rfl rfl) ?_
         exact wks
        |2,_ =>
         repeat' ((conv=>whnf);first|(refine Z0c (q2r _) ?_)|(refine Z0c (q1l _) ?_)|(refine Z11 (Z9d rfl rfl) ?_)|(refine Z11 (Z0Z rfl (by first|(rw[slG hTl rfl (j:=3) rfl hb3];simp only[Z08,Z0z,refsL,Z0h,Y01,Y02,and_true];omega)|(rw[slG hTl rfl (j:=4) rfl hb4];simp only[Z08,Z0z,refsL,Z0h,Y01,Y02,and_true];omega)|(rw[slG hTl rfl (j:=5) rfl hb5];simp only[Z08,Z0z,refsL,Z0h,Y01,Y02,and_true];omega))) ?_)|(refine Z0p rfl (Z8G hT4 rfl rfl (by repeat' (first|exact trivial|refine Y00 ?_ ?_|((try dsimp only);omega)|((try dsimp only);split<;>omega))) rfl) ?_)|(refine Z0p rfl (Z6Y hT4 rfl rfl (by repeat' (first|exact trivial|refine Y00 ?_ ?_|((try dsimp only);omega)|((try dsimp only);split<;>omega))) rfl) ?_)|(refine Z0p rfl (Z7F hTl hTb hb0 rfl rfl rfl) ?_)|(refine Z04 (nwG hTl (j:=0) hb0 rfl rfl) ?_)|(refine Z04 (nwG hTl (j:=1) hb1 rfl rfl) ?_)|(refine Z04 (nwG hTl (j:=2) hb2 rfl rfl) ?_)|(refine Z04 (nwG hTl (j:=3) hb3 rfl rfl) ?_)|(refine Z04 (nwG hTl (j:=4) hb4 rfl rfl) ?_)|(refine Z04 (nwG hTl (j:=5) hb5 rfl rfl) ?_)|(refine lg.frcNPS (slG hTl rfl (j:=0) rfl hb0) ?_)|(refine lg.frcNPS (slG hTl rfl (j:=1) rfl hb1) ?_)|(refine lg.frcNPS (slG hTl rfl (j:=2) rfl hb2) ?_)|(refine lg.frcNPS (slG hTl rfl (j:=3) rfl hb3) ?_)|(refine lg.frcNPS (slG hTl rfl (j:=4) rfl hb4) ?_)|(refine lg.frcNPS (slG hTl rfl (j:=5) rfl hb5) ?_)|(refine onOI (lg.sec_lo rfl) ?_)|(refine onOI (atG hTl hb0 rfl (j:=0) rfl) ?_)|(refine onOI (atG hTl hb1 rfl (j:=1) rfl) ?_)|(refine onOI (atG hTl hb2 rfl (j:=2) rfl) ?_)|(refine onOI (atG hTl hb3 rfl (j:=3) rfl) ?_)|(refine onOI (atG hTl hb4 rfl (j:=4) rfl) ?_)|(refine onOI (atG hTl hb5 rfl (j:=5) rfl) ?_)|(with_reducible refine Z0B ?_)|(with_reducible refine Z0A ?_)|refine stp ?_|with_reducible apply Z01<;>intro h)
         conv=>whnf
         conv=>whnf
         refine⟨⟨{ g with thr:=List.replicate 2 [],frm:=List.replicate 2 [] },true,r,false⟩,⟨c+1,hw2,by show c+1+r.length<=s.length;omega,λ_=>hR,λh=>(by cases h)⟩,by show r.length<rest.length;omega,?_⟩
         (try dsimp only)
         subst hT
         subst hlen2
         refine ZaO (n:=2) hg0 (by rw[<- hN];exact hb2) (by rw[<- hN];exact hb3) rfl ?_ rfl rfl
         refine stw ?_
         refine Y00 (Y03 rfl rfl) ?_
         iterate 2 refine stw ?_
         refine Y00 (Y03 rfl rfl) ?_
         exact wks
        |3,_ =>
         repeat' ((conv=>whnf);first|(refine Z0c (q2r _) ?_)|(refine Z0c (q1l _) ?_)|(refine Z11 (Z9d rfl rfl) ?_)|(refine Z11 (Z0Z rfl (by first|(rw[slG hTl rfl (j:=3) rfl hb3];simp only[Z08,Z0z,refsL,Z0h,Y01,Y02,and_true];omega)|(rw[slG hTl rfl (j:=4) rfl hb4];simp only[Z08,Z0z,refsL,Z0h,Y01,Y02,and_true];omega)|(rw[slG hTl rfl (j:=5) rfl hb5];simp only[Z08,Z0z,refsL,Z0h,Y01,Y02,and_true];omega))) ?_)|(refine Z0p rfl (Z8G hT4 rfl rfl (by repeat' (first|exact trivial|refine Y00 ?_ ?_|((try dsimp only);omega)|((try dsimp only);split<;>omega))) rfl) ?_)|(refine Z0p rfl (Z6Y hT4 rfl rfl (by repeat' (first|exact trivial|refine Y00 ?_ ?_|((try dsimp only);omega)|((try dsimp only);split<;>omega))) rfl) ?_)|(refine Z0p rfl (Z7F hTl hTb hb0 rfl rfl rfl) ?_)|(refine Z04 (nwG hTl (j:=0) hb0 rfl rfl) ?_)|(refine Z04 (nwG hTl (j:=1) hb1 rfl rfl) ?_)|(refine Z04 (nwG hTl (j:=2) hb2 rfl rfl) ?_)|(refine Z04 (nwG hTl (j:=3) hb3 rfl rfl) ?_)|(refine Z04 (nwG hTl (j:=4) hb4 rfl rfl) ?_)|(refine Z04 (nwG hTl (j:=5) hb5 rfl rfl) ?_)|(refine lg.frcNPS (slG hTl rfl (j:=0) rfl hb0) ?_)|(refine lg.frcNPS (slG hTl rfl (j:=1) rfl hb1) ?_)|(refine lg.frcNPS (slG hTl rfl (j:=2) rfl hb2) ?_)|(refine lg.frcNPS (slG hTl rfl (j:=3) rfl hb3) ?_)|(refine lg.frcNPS (slG hTl rfl (j:=4) rfl hb4) ?_)|(refine lg.frcNPS (slG hTl rfl (j:=5) rfl hb5) ?_)|(refine onOI (lg.sec_lo rfl) ?_)|(refine onOI (atG hTl hb0 rfl (j:=0) rfl) ?_)|(refine onOI (atG hTl hb1 rfl (j:=1) rfl) ?_)|(refine onOI (atG hTl hb2 rfl (j:=2) rfl) ?_)|(refine onOI (atG hTl hb3 rfl (j:=3) rfl) ?_)|(refine onOI (atG hTl hb4 rfl (j:=4) rfl) ?_)|(refine onOI (atG hTl hb5 rfl (j:=5) rfl) ?_)|(with_reducible refine Z0B ?_)|(with_reducible refine Z0A ?_)|refine stp ?_|with_reducible apply Z01<;>intro h)
         conv=>whnf
         conv=>whnf
         refine⟨⟨{ g with thr:=List.replicate 3 [],frm:=List.replicate 3 [] },true,r,false⟩,⟨c+1,hw2,by show c+1+r.length<=s.length;omega,λ_=>hR,λh=>(by cases h)⟩,by show r.length<rest.length;omega,?_⟩
         (try dsimp only)
         subst hT
         subst hlen2
         refine ZaO (n:=3) hg0 (by rw[<- hN];exact hb2) (by rw[<- hN];exact hb3) rfl ?_ rfl rfl
         refine stw ?_
         refine Y00 (Y03 rfl rfl) ?_
         iterate 2 refine stw ?_
         refine Y00 (Y03 rfl rfl) ?_
         exact wks
        |4,_ =>
         repeat' ((conv=>whnf);first|(refine Z0c (q2r _) ?_)|(refine Z0c (q1l _) ?_)|(refine Z11 (Z9d rfl rfl) ?_)|(refine Z11 (Z0Z rfl (by first|(rw[slG hTl rfl (j:=3) rfl hb3];simp only[Z08,Z0z,refsL,Z0h,Y01,Y02,and_true];omega)|(rw[slG hTl rfl (j:=4) rfl hb4];simp only[Z08,Z0z,refsL,Z0h,Y01,Y02,and_true];omega)|(rw[slG hTl rfl (j:=5) rfl hb5];simp only[Z08,Z0z,refsL,Z0h,Y01,Y02,and_true];omega))) ?_)|(refine Z0p rfl (Z8G hT4 rfl rfl (by repeat' (first|exact trivial|refine Y00 ?_ ?_|((try dsimp only);omega)|((try dsimp only);split<;>omega))) rfl) ?_)|(refine Z0p rfl (Z6Y hT4 rfl rfl (by repeat' (first|exact trivial|refine Y00 ?_ ?_|((try dsimp only);omega)|((try dsimp only);split<;>omega))) rfl) ?_)|(refine Z0p rfl (Z7F hTl hTb hb0 rfl rfl rfl) ?_)|(refine Z04 (nwG hTl (j:=0) hb0 rfl rfl) ?_)|(refine Z04 (nwG hTl (j:=1) hb1 rfl rfl) ?_)|(refine Z04 (nwG hTl (j:=2) hb2 rfl rfl) ?_)|(refine Z04 (nwG hTl (j:=3) hb3 rfl rfl) ?_)|(refine Z04 (nwG hTl (j:=4) hb4 rfl rfl) ?_)|(refine Z04 (nwG hTl (j:=5) hb5 rfl rfl) ?_)|(refine lg.frcNPS (slG hTl rfl (j:=0) rfl hb0) ?_)|(refine lg.frcNPS (slG hTl rfl (j:=1) rfl hb1) ?_)|(refine lg.frcNPS (slG hTl rfl (j:=2) rfl hb2) ?_)|(refine lg.frcNPS (slG hTl rfl (j:=3) rfl hb3) ?_)|(refine lg.frcNPS (slG hTl rfl (j:=4) rfl hb4) ?_)|(refine lg.frcNPS (slG hTl rfl (j:=5) rfl hb5) ?_)|(refine onOI (lg.sec_lo rfl) ?_)|(refine onOI (atG hTl hb0 rfl (j:=0) rfl) ?_)|(refine onOI (atG hTl hb1 rfl (j:=1) rfl) ?_)|(refine onOI (atG hTl hb2 rfl (j:=2) rfl) ?_)|(refine onOI (atG hTl hb3 rfl (j:=3) rfl) ?_)|(refine onOI (atG hTl hb4 rfl (j:=4) rfl) ?_)|(refine onOI (atG hTl hb5 rfl (j:=5) rfl) ?_)|(with_reducible refine Z0B ?_)|(with_reducible refine Z0A ?_)|refine stp ?_|with_reducible apply Z01<;>intro h)
         conv=>whnf
         conv=>whnf
         refine⟨⟨{ g with thr:=List.replicate 4 [],frm:=List.replicate 4 [] },true,r,false⟩,⟨c+1,hw2,by show c+1+r.length<=s.length;omega,λ_=>hR,λh=>(by cases h)⟩,by show r.length<rest.length;omega,?_⟩
         (try dsimp only)
         subst hT
         subst hlen2
         refine ZaO (n:=4) hg0 (by rw[<- hN];exact hb2) (by rw[<- hN];exact hb3) rfl ?_ rfl rfl
         refine stw ?_
         refine Y00 (Y03 rfl rfl) ?_
         iterate 2 refine stw ?_
         refine Y00 (Y03 rfl rfl) ?_
         exact wks
    ·exact absurd hk3 (by decide)
    ·exact absurd hk3 (by decide)
    ·exact absurd hk3 (by decide)
    ·exact absurd hk3 (by decide)
end
end Go.Proofs.YtpcpdlfhcahjgaaGreatDoor.lex

/-
  Texts of this proof, one behind the other (part 12).
-/
import Derived.Test.YtpcpdlfhcahjgaaGreatDoorXd10
import Derived.Test.YtpcpdlfhcahjgaaGreatDoorXd11
import Derived.Test.YtpcpdlfhcahjgaaGreatDoorXd8
import Derived.Test.YtpcpdlfhcahjgaaGreatDoorXd9
set_option linter.unusedVariables false
set_option linter.unusedSimpArgs false
set_option maxRecDepth 100000
set_option maxHeartbeats 4000000
open Go.Proofs.Tryz renaming prog → Y00
open List renaming mem_cons → Y01,length_cons → Y02,length_nil → Y03,length_append → Y05,not_mem_nil → Y06,mem_append → Y07,nil_append → Y0a,cons_append → Y0b,append_assoc → Y0c,append_nil → Y0d,getElem?_eq_some_iff → Y0e,mem_singleton → Y0f,getElem_mem → Y0g,replicate_succ → Y0i,filter_cons → Y0j,length_pos_iff → Y0l,count_eq_zero_of_not_mem → Y0m
open Go.Abs.Wk renaming ptr → Y04
open Bool renaming and_eq_true → Y08
open And renaming intro → Y09
open Nat renaming zero_add → Y0h
open Option renaming map_some → Y0k
namespace Go.Proofs.YtpcpdlfhcahjgaaGreatDoor.lex
open Go.Abs Go.RowKit
section
set_option maxHeartbeats 40000000
attribute [local irreducible] Go.Abs.frcHW Go.Abs.frcNP lg.sec
theorem ZlN{s:List UInt8}{RR:Option (DGr×Bool×List UInt8)}{O:Orc}(hs:s.length<=1048576)(hRR:RR=Z2m gr0 false s)(hO:OrcSound Y00 runLives.gl O)(q1:∀s,s.length<=1048576->∀H,Z02 Y00 O H 36 [.str s]=some (Z1r s,H))(q2:∀s,s.length<=1048576->∀H,Z02 Y00 O H 25 [.str s,.str [10]]=some (Z6q 10 s,H)):∀t,(∃c,OnI s RR t c)->(t.ended=false/\∃l r,Z1b 10 t.rest=some (l,r)/\(Z06 l).2=true/\(Z06 l).1.kind=Z16)->(Zj3 s RR O hs hRR hO).1 t:=by
 rintro⟨g,told,rest,ended⟩ ⟨c,hwf,hfew,hon,hen⟩ hk
 show Z10 _ _
 dsimp only at hwf hfew hon hen hk
 clear hRR
 cases ended with
 |true=>cases hk.1
 |false =>
  have hon:=hon rfl
  clear hen
  have q2r:=q2 rest (by omega)
  unfold Z6q at q2r
  have hTl:=Z3T g
  have hTf:=Z8h g
  obtain⟨N,hN⟩:∃N,N=gN g:=⟨_,rfl⟩
  rw[<- hN]at hTl hTf
  have hN2:2<=N:=by rw[hN];unfold gN;omega
  have hT4:∀o∈gT g,4<=o.fam:=λo ho=>(hTf o ho).1
  obtain⟨b0,hb0⟩:∃b,4+N+0=b:=⟨_,rfl⟩
  obtain⟨b1,hb1⟩:∃b,4+N+1=b:=⟨_,rfl⟩
  obtain⟨b2,hb2⟩:∃b,4+N+2=b:=⟨_,rfl⟩
  obtain⟨b3,hb3⟩:∃b,4+N+3=b:=⟨_,rfl⟩
  obtain⟨b4,hb4⟩:∃b,4+N+4=b:=⟨_,rfl⟩
  obtain⟨b5,hb5⟩:∃b,4+N+5=b:=⟨_,rfl⟩
  have hTb:∀o∈gT g,o.fam<b0:=λo ho=>by have:=(hTf o ho).2;omega
  have e0:gB ⟨g,told,rest,false⟩=lg.sec (gA g told) (gT g) []:=rfl
  rw[e0]
  cases hcut:Z1b 10 rest with
  |none =>
   obtain⟨_,l,r,h,_⟩:=hk;rw[hcut]at h;cases h
  |some p =>
   obtain⟨l,r⟩:=p
   rw[hcut]at q2r
   have hlen:=Z27 hcut
   have q1l:=q1 l (by omega)
   obtain⟨hx,hkd⟩:=Z1X l
   have hRno:(Z06 l).2=false->RR=none:=λh=>by rw[<- hon,Z5K hcut h]
   have hRput:(Z06 l).2=true->Z1I g told (Z06 l).1=none->RR=none:=λ_ h=>by rw[<- hon,Z4g hcut h]
   have hRend:∀g' t',(Z06 l).2=true->Z1I g told (Z06 l).1=some (g',t')->(Z06 l).1.kind=Z16->RR=some (g',t',r):=λg' t' h1 h2 h3=>by rw[<- hon,Z3i hcut h1 h2 h3]
   have hRon:∀g' t',(Z06 l).2=true->Z1I g told (Z06 l).1=some (g',t')->(Z06 l).1.kind≠Z16->Z2m g' t' r=RR:=λg' t' h1 h2 h3=>by rw[<- hon,Z2E hcut h1 h2 h3]
   have hwp:∀g' t',Z1I g told (Z06 l).1=some (g',t')->Wf g' t' (c+1):=λg' t' h=>Z6P hwf hx (by omega) h
   unfold Z1r lnV Z2r at q1l
   have hV:=Z1L (Z06 l).1.ids
   have hk2:(Z06 l).2=true/\(Z06 l).1.kind=Z16:=by obtain⟨_,l',r',h,h2⟩:=hk;rw[hcut]at h;simp only[Option.some.injEq,Prod.mk.injEq]at h;rw[h.1];exact h2
   clear hk
   clear hon hcut q1 q2
   generalize (Z06 l).1=x at *
   generalize (Z06 l).2=b at *
   obtain⟨kk,xn,xv,⟨it,ii⟩,⟨ek,el,eo,er,ew⟩,⟨ft,fi⟩,xi⟩:=x
   dsimp only at q1l hV hkd hRend hRon hk2
   cases b with
   |false =>
    cases hk2.1
   |true =>
    have hTg:∀i,i<gN g->(gT g)[i]? = some (lg.inb (4+i) (gty g.thr.length i) (Z0J g i)):=λi hi=>lg.inn_get _ _ _ hi
    clear hRno
    have hk3:=hk2.2
    clear hk2
    rcases hkd rfl with rfl|rfl|rfl|rfl|rfl
    ·exact absurd hk3 (by decide)
    ·exact absurd hk3 (by decide)
    ·exact absurd hk3 (by decide)
    ·exact absurd hk3 (by decide)
    ·
     clear hk3
     obtain rfl:xi=[]:=hx.none (show ¬Z16=Z0d by decide)
     have hV0:Z3E []=AV.nslice:=rfl
     rw[hV0]at q1l
     clear hV hV0 hkd hRput hRon
     have hput:Z1I g told ⟨Z16,xn,xv,⟨it,ii⟩,⟨ek,el,eo,er,ew⟩,⟨ft,fi⟩,[]⟩=some (g,told):=by
      unfold Z1I
      rw[if_neg (show ¬Z16=Z0j by decide),if_neg (show ¬Z16=Z23 by decide),if_neg (show ¬Z16=Z0k by decide),if_neg (show ¬Z16=Z0d by decide)]
     have hR:=hRend _ _ rfl hput rfl
     have hw2:=hwp _ _ hput
     clear hput hRend hwp
     unfold Z16 at q1l
     generalize hT:gT g=T0 at *
     show Z10 _ _
     rw[Z0x]
     conv in (Z5J _ _)=>reduce
     cases told
     all_goals unfold gA
     all_goals repeat' ((conv=>whnf);first|(refine Z0c (q2r _) ?_)|(refine Z0c (q1l _) ?_)|(refine Z11 (Z9d rfl rfl) ?_)|(refine Z11 (Z0Z rfl (by first|(rw[slG hTl rfl (j:=3) rfl hb3];simp only[Z08,Z0z,refsL,Z0h,Y08,Nat.blt_eq,and_true];omega)|(rw[slG hTl rfl (j:=4) rfl hb4];simp only[Z08,Z0z,refsL,Z0h,Y08,Nat.blt_eq,and_true];omega)|(rw[slG hTl rfl (j:=5) rfl hb5];simp only[Z08,Z0z,refsL,Z0h,Y08,Nat.blt_eq,and_true];omega))) ?_)|(refine Z0p rfl (Z8G hT4 rfl rfl (by repeat' (first|exact trivial|refine Y09 ?_ ?_|((try dsimp only);omega)|((try dsimp only);split<;>omega))) rfl) ?_)|(refine Z0p rfl (Z6Y hT4 rfl rfl (by repeat' (first|exact trivial|refine Y09 ?_ ?_|((try dsimp only);omega)|((try dsimp only);split<;>omega))) rfl) ?_)|(refine Z0p rfl (Z7F hTl hTb hb0 rfl rfl rfl) ?_)|(refine Z04 (nwG hTl (j:=0) hb0 rfl rfl) ?_)|(refine Z04 (nwG hTl (j:=1) hb1 rfl rfl) ?_)|(refine Z04 (nwG hTl (j:=2) hb2 rfl rfl) ?_)|(refine Z04 (nwG hTl (j:=3) hb3 rfl rfl) ?_)|(refine Z04 (nwG hTl (j:=4) hb4 rfl rfl) ?_)|(refine Z04 (nwG hTl (j:=5) hb5 rfl rfl) ?_)|(refine lg.frcNPS (slG hTl rfl (j:=0) rfl hb0) ?_)|(refine lg.frcNPS (slG hTl rfl (j:=1) rfl hb1) ?_)|(refine lg.frcNPS (slG hTl rfl (j:=2) rfl hb2) ?_)|(refine lg.frcNPS (slG hTl rfl (j:=3) rfl hb3) ?_)|(refine lg.frcNPS (slG hTl rfl (j:=4) rfl hb4) ?_)|(refine lg.frcNPS (slG hTl rfl (j:=5) rfl hb5) ?_)|(refine onOI (lg.sec_lo rfl) ?_)|(refine onOI (atG hTl hb0 rfl (j:=0) rfl) ?_)|(refine onOI (atG hTl hb1 rfl (j:=1) rfl) ?_)|(refine onOI (atG hTl hb2 rfl (j:=2) rfl) ?_)|(refine onOI (atG hTl hb3 rfl (j:=3) rfl) ?_)|(refine onOI (atG hTl hb4 rfl (j:=4) rfl) ?_)|(refine onOI (atG hTl hb5 rfl (j:=5) rfl) ?_)|(with_reducible refine Z0B ?_)|(with_reducible refine Z0A ?_)|refine stp ?_|with_reducible apply Z01<;>intro h)
     all_goals conv=>whnf
     all_goals conv=>whnf
     · refine⟨⟨g,false,r,true⟩,⟨c+1,hw2,by show c+1+r.length<=s.length;omega,λh=>(by cases h),λ_=>hR⟩,by show r.length<rest.length;omega,?_⟩
       (try dsimp only)
       subst hT
       refine Zju (g:=g) (told:=false) rfl rfl ?_ hw2.fl
       refine stw ?_
       refine Y09 (Y04 rfl rfl) ?_
       iterate 2 refine stw ?_
       refine Y09 (Y04 rfl rfl) ?_
       exact wks
     · refine⟨⟨g,true,r,true⟩,⟨c+1,hw2,by show c+1+r.length<=s.length;omega,λh=>(by cases h),λ_=>hR⟩,by show r.length<rest.length;omega,?_⟩
       (try dsimp only)
       subst hT
       refine Zju (g:=g) (told:=true) rfl rfl ?_ hw2.fl
       refine stw ?_
       refine Y09 (Y04 rfl rfl) ?_
       iterate 2 refine stw ?_
       refine Y09 (Y04 rfl rfl) ?_
       exact wks
end
section
set_option maxHeartbeats 40000000
attribute [local irreducible] Go.Abs.frcHW Go.Abs.frcNP lg.sec
theorem Zk2{s:List UInt8}{RR:Option (DGr×Bool×List UInt8)}{O:Orc}(hs:s.length<=1048576)(hRR:RR=Z2m gr0 false s)(hO:OrcSound Y00 runLives.gl O)(q3:∀g told r,RR=some (g,told,r)->∀H,Z02 Y00 O H 27 [.agg (frC g told)]=some (.int .i64 (Z0e g),H))(q4:∀g told r,RR=some (g,told,r)->Z0e g=0->∀H,Z02 Y00 O H 28 [.agg (frC g told)]=some (.str (Z0y g),H)):∀t,(∃c,OnI s RR t c)->(t.ended=true)->(Zj3 s RR O hs hRR hO).1 t:=by
 rintro⟨g,told,rest,ended⟩ ⟨c,hwf,hfew,hon,hen⟩ hk
 show Z10 _ _
 dsimp only at hwf hfew hon hen hk
 clear hRR
 cases ended with
 |true =>
  have hR:=hen rfl
  have q3g:=q3 g told rest hR
  have q4g:=q4 g told rest hR
  subst hR
  have hle:rest.length<=s.length:=by omega
  show Z10 _ _
  rw[Z0x]
  conv in (Z5J _ _)=>reduce
  have e0:gB ⟨g,told,rest,true⟩=[Z7I,⟨true,1,0,.cells (frC g told) tG⟩]:=rfl
  rw[e0]
  obtain⟨b,hb⟩:∃b,(Z0e g != 0)=b:=⟨_,rfl⟩
  unfold onV
  unfold frC at *
  have hc1:=Z5l 1 g.ini.length (Z07 Z2b g.ini)
  have hc4:=Z5l 1 g.ord.length (Z6o g.ord)
  have q5:b=false->∀H,_:=λh=>q4g (by rw[h]at hb;simpa using hb)
  obtain⟨b2,hb2⟩:∃b,(Z0y g==s.take (s.length-rest.length))=b:=⟨_,rfl⟩
  have hb3:(!(Z0y g==s.take (s.length-rest.length))) = !b2:=by rw[hb2]
  have hcase:(Z0e g=0/\Z0y g=s.take (s.length-rest.length)) ↔ (b=false/\b2=true):=by
   rw[<- hb,<- hb2];simp
  simp only[hcase]
  clear hcase q4g hwf hfew hon hen
  generalize frN 1 g.ini.length (Z07 Z2b g.ini)=C1 at *
  generalize frN 1 g.ord.length (Z6o g.ord)=C4 at *
  generalize Z0e g=ck at *
  generalize Z0y g=tx at *
  have q5b:b=false->∀H,_:=q5
  have wsub:IntKind.i64.wrap ((s.length:Int)-(rest.length:Int))=((s.length-rest.length:Nat):Int):=by rw[Z1i (by omega) (by omega)];omega
  cases b with
  |true =>
   clear q5 q5b
   rcases hc1 with rfl|⟨m1,rfl⟩<;>rcases hc4 with rfl|⟨m4,rfl⟩<;>cases told
   all_goals repeat' ((conv=>whnf);first|(refine Z0c (q3g _) ?_)|(with_reducible refine frcHW_x ?_)|(with_reducible refine frcNP_x ?_)|(with_reducible refine Z0B ?_)|(with_reducible refine Z0A ?_)|refine stp ?_|with_reducible apply Z01<;>intro h)
   all_goals conv=>whnf
   all_goals (rw[if_neg (by rintro⟨h,_⟩;cases h)];rfl)
  |false =>
   have q5c:=q5 rfl
   clear q5 q5b
   cases b2 with
   |false =>
    simp only[Bool.not_false]at hb3
    rcases hc1 with rfl|⟨m1,rfl⟩<;>rcases hc4 with rfl|⟨m4,rfl⟩<;>cases told
    all_goals repeat' ((conv=>whnf);first|(refine Z0c (q3g _) ?_)|(refine Z0c (q5c _) ?_)|(with_reducible refine exW wsub ?_)|(with_reducible refine frcHW_x ?_)|(with_reducible refine frcNP_x ?_)|(with_reducible refine Z0B ?_)|(with_reducible refine Z0A ?_)|refine stp ?_|with_reducible apply Z01<;>intro h)
    all_goals conv=>whnf
    all_goals (rw[if_neg (by rintro⟨_,h⟩;cases h)];rfl)
   |true =>
    simp only[Bool.not_true]at hb3
    rcases hc1 with rfl|⟨m1,rfl⟩<;>rcases hc4 with rfl|⟨m4,rfl⟩<;>cases told
    all_goals repeat' ((conv=>whnf);first|(refine Z0c (q3g _) ?_)|(refine Z0c (q5c _) ?_)|(with_reducible refine exW wsub ?_)|(with_reducible refine frcHW_x ?_)|(with_reducible refine frcNP_x ?_)|(with_reducible refine Z0B ?_)|(with_reducible refine Z0A ?_)|refine stp ?_|with_reducible apply Z01<;>intro h)
    all_goals conv=>whnf
    all_goals (rw[if_pos (show (false=false/\true=true) from ⟨rfl,rfl⟩)])
 |false=>cases hk
end
section
set_option maxHeartbeats 40000000
attribute [local irreducible] Go.Abs.frcHW Go.Abs.frcNP lg.sec
theorem ZlL{s:List UInt8}{RR:Option (DGr×Bool×List UInt8)}{O:Orc}(hs:s.length<=1048576)(hRR:RR=Z2m gr0 false s)(hO:OrcSound Y00 runLives.gl O)(q1:∀s,s.length<=1048576->∀H,Z02 Y00 O H 36 [.str s]=some (Z1r s,H))(q2:∀s,s.length<=1048576->∀H,Z02 Y00 O H 25 [.str s,.str [10]]=some (Z6q 10 s,H)):∀t,(∃c,OnI s RR t c)->(t.ended=false/\∀l r,Z1b 10 t.rest=some (l,r)->(Z06 l).2=false)->(Zj3 s RR O hs hRR hO).1 t:=by
 rintro⟨g,told,rest,ended⟩ ⟨c,hwf,hfew,hon,hen⟩ hk
 show Z10 _ _
 dsimp only at hwf hfew hon hen hk
 clear hRR
 cases ended with
 |true=>cases hk.1
 |false =>
  have hon:=hon rfl
  clear hen
  have q2r:=q2 rest (by omega)
  unfold Z6q at q2r
  have hTl:=Z3T g
  have hTf:=Z8h g
  obtain⟨N,hN⟩:∃N,N=gN g:=⟨_,rfl⟩
  rw[<- hN]at hTl hTf
  have hN2:2<=N:=by rw[hN];unfold gN;omega
  have hT4:∀o∈gT g,4<=o.fam:=λo ho=>(hTf o ho).1
  obtain⟨b0,hb0⟩:∃b,4+N+0=b:=⟨_,rfl⟩
  obtain⟨b1,hb1⟩:∃b,4+N+1=b:=⟨_,rfl⟩
  obtain⟨b2,hb2⟩:∃b,4+N+2=b:=⟨_,rfl⟩
  obtain⟨b3,hb3⟩:∃b,4+N+3=b:=⟨_,rfl⟩
  obtain⟨b4,hb4⟩:∃b,4+N+4=b:=⟨_,rfl⟩
  obtain⟨b5,hb5⟩:∃b,4+N+5=b:=⟨_,rfl⟩
  have hTb:∀o∈gT g,o.fam<b0:=λo ho=>by have:=(hTf o ho).2;omega
  have e0:gB ⟨g,told,rest,false⟩=lg.sec (gA g told) (gT g) []:=rfl
  rw[e0]
  cases hcut:Z1b 10 rest with
  |none =>
   rw[hcut]at q2r
   have hR:RR=none:=by rw[<- hon,Zg3 hcut]
   subst hR
   generalize hT:gT g=T0 at *
   show Z10 _ _
   rw[Z0x]
   conv in (Z5J _ _)=>reduce
   cases told
   all_goals unfold gA
   all_goals repeat' ((conv=>whnf);first|(refine Z0c (q2r _) ?_)|(refine Z0p rfl (Z6Y hT4 rfl rfl trivial rfl) ?_)|(refine Z04 (nwG hTl (j:=0) hb0 rfl rfl) ?_)|(refine Z04 (nwG hTl (j:=1) hb1 rfl rfl) ?_)|(refine Z04 (nwG hTl (j:=2) hb2 rfl rfl) ?_)|(refine lg.frcNPS (slG hTl rfl (j:=0) rfl hb0) ?_)|(refine lg.frcNPS (slG hTl rfl (j:=1) rfl hb1) ?_)|(refine lg.frcNPS (slG hTl rfl (j:=2) rfl hb2) ?_)|(refine onOI (lg.sec_lo rfl) ?_)|(with_reducible refine Z0B ?_)|(with_reducible refine Z0A ?_)|refine stp ?_|with_reducible apply Z01<;>intro h)
   all_goals conv=>whnf
   all_goals exact onOI (Z18 rfl rfl rfl rfl) ⟨_,rfl,rfl⟩
  |some p =>
   obtain⟨l,r⟩:=p
   rw[hcut]at q2r
   have hlen:=Z27 hcut
   have q1l:=q1 l (by omega)
   obtain⟨hx,hkd⟩:=Z1X l
   have hRno:(Z06 l).2=false->RR=none:=λh=>by rw[<- hon,Z5K hcut h]
   have hRput:(Z06 l).2=true->Z1I g told (Z06 l).1=none->RR=none:=λ_ h=>by rw[<- hon,Z4g hcut h]
   have hRend:∀g' t',(Z06 l).2=true->Z1I g told (Z06 l).1=some (g',t')->(Z06 l).1.kind=Z16->RR=some (g',t',r):=λg' t' h1 h2 h3=>by rw[<- hon,Z3i hcut h1 h2 h3]
   have hRon:∀g' t',(Z06 l).2=true->Z1I g told (Z06 l).1=some (g',t')->(Z06 l).1.kind≠Z16->Z2m g' t' r=RR:=λg' t' h1 h2 h3=>by rw[<- hon,Z2E hcut h1 h2 h3]
   have hwp:∀g' t',Z1I g told (Z06 l).1=some (g',t')->Wf g' t' (c+1):=λg' t' h=>Z6P hwf hx (by omega) h
   unfold Z1r lnV Z2r at q1l
   have hV:=Z1L (Z06 l).1.ids
   have hk2:=hk.2 l r hcut
   clear hk
   clear hon hcut q1 q2
   generalize (Z06 l).1=x at *
   generalize (Z06 l).2=b at *
   obtain⟨kk,xn,xv,⟨it,ii⟩,⟨ek,el,eo,er,ew⟩,⟨ft,fi⟩,xi⟩:=x
   dsimp only at q1l hV hkd hRend hRon hk2
   cases b with
   |false =>
    clear hk2
    have hR:=hRno rfl
    subst hR
    clear hRno hRput hRend hRon hwp hkd hx
    generalize hT:gT g=T0 at *
    generalize Z3E xi=V at *
    show Z10 _ _
    rw[Z0x]
    conv in (Z5J _ _)=>reduce
    rcases hV with rfl|⟨m,C,rfl⟩<;>cases told
    all_goals unfold gA
    all_goals repeat' ((conv=>whnf);first|(refine Z0c (q2r _) ?_)|(refine Z0c (q1l _) ?_)|(refine Z0p rfl (Z6Y hT4 rfl rfl (by repeat' (first|exact trivial|refine Y09 ?_ ?_|((try dsimp only);omega)|((try dsimp only);split<;>omega))) rfl) ?_)|(refine Z0p rfl (Z7F hTl hTb hb0 rfl rfl rfl) ?_)|(refine Z04 (nwG hTl (j:=0) hb0 rfl rfl) ?_)|(refine Z04 (nwG hTl (j:=1) hb1 rfl rfl) ?_)|(refine Z04 (nwG hTl (j:=2) hb2 rfl rfl) ?_)|(refine Z04 (nwG hTl (j:=3) hb3 rfl rfl) ?_)|(refine Z04 (nwG hTl (j:=4) hb4 rfl rfl) ?_)|(refine Z04 (nwG hTl (j:=5) hb5 rfl rfl) ?_)|(refine lg.frcNPS (slG hTl rfl (j:=0) rfl hb0) ?_)|(refine lg.frcNPS (slG hTl rfl (j:=1) rfl hb1) ?_)|(refine lg.frcNPS (slG hTl rfl (j:=2) rfl hb2) ?_)|(refine lg.frcNPS (slG hTl rfl (j:=3) rfl hb3) ?_)|(refine lg.frcNPS (slG hTl rfl (j:=4) rfl hb4) ?_)|(refine lg.frcNPS (slG hTl rfl (j:=5) rfl hb5) ?_)|(refine onOI (lg.sec_lo rfl) ?_)|(refine onOI (atG hTl hb0 rfl (j:=0) rfl) ?_)|(refine onOI (atG hTl hb1 rfl (j:=1) rfl) ?_)|(refine onOI (atG hTl hb2 rfl (j:=2) rfl) ?_)|(refine onOI (atG hTl hb3 rfl (j:=3) rfl) ?_)|(refine onOI (atG hTl hb4 rfl (j:=4) rfl) ?_)|(refine onOI (atG hTl hb5 rfl (j:=5) rfl) ?_)|(with_reducible refine Z0B ?_)|(with_reducible refine Z0A ?_)|refine stp ?_|with_reducible apply Z01<;>intro h)
    all_goals conv=>whnf
    all_goals exact onOI (Z18 rfl rfl rfl rfl) ⟨_,rfl,rfl⟩
   |true=>cases hk2
end
section
theorem Zk1(s:List UInt8)(hs:s.length<=1048576):ValOK Y00 runLives.gl 24 [.str s] (onV s (Z2m gr0 false s)):=by
 obtain⟨RR,hRR⟩:∃R,R=Z2m gr0 false s:=⟨_,rfl⟩
 rw[<- hRR]
 have hW:∀g told r,RR=some (g,told,r)->okG g/\g.frm.length=g.thr.length/\(told=false->g.thr=[]):=λg told r h=>by
  rw[hRR]at h
  obtain⟨c',h1,h2⟩:=Zd4 _ gr0 false s 0 s.length g told r ZmD (by omega) hs h
  exact⟨h1.okG (by omega),h1.fl,h1.no⟩
 obtain⟨O,hO,p1,p2,p3,p4,-⟩:=fams (P:=Y00) (gl:=runLives.gl) [Zfw,Zjt,
  { I:=DGr×Bool,f:=27,G:=λx=>∃r,RR=some (x.1,x.2,r),A:=λx=>[.agg (frC x.1 x.2)],R:=λx=>.int .i64 (Z0e x.1),body:=(by kernel_rfl),inj:=(λi j hi hj _=>by obtain⟨r,hi⟩:=hi;obtain⟨r',hj⟩:=hj;rw[hi]at hj;simp only[Option.some.injEq,Prod.mk.injEq]at hj;rw[hj.1]),ok:=(λx hx=>by obtain⟨r,hx⟩:=hx;obtain⟨a,b,c⟩:=hW _ _ _ hx;exact⟨Zdm _ _,ZiG a b c⟩) },
  { I:=DGr×Bool,f:=28,G:=λx=>(∃r,RR=some (x.1,x.2,r))/\Z0e x.1=0,A:=λx=>[.agg (frC x.1 x.2)],R:=λx=>.str (Z0y x.1),body:=(by kernel_rfl),inj:=(λi j hi hj _=>by obtain⟨⟨r,hi⟩,_⟩:=hi;obtain⟨⟨r',hj⟩,_⟩:=hj;rw[hi]at hj;simp only[Option.some.injEq,Prod.mk.injEq]at hj;rw[hj.1]),ok:=(λx hx=>by obtain⟨⟨r,hx⟩,h0⟩:=hx;obtain⟨a,b,c⟩:=hW _ _ _ hx;exact⟨Zdm _ _,ZjE a b c h0⟩) }] rfl
 have q1:∀s,s.length<=1048576->∀H,Z02 Y00 O H 36 [.str s]=some (Z1r s,H):=p1
 have q2:∀s,s.length<=1048576->∀H,Z02 Y00 O H 25 [.str s,.str [10]]=some (Z6q 10 s,H):=p2
 have q3:∀g told r,RR=some (g,told,r)->∀H,Z02 Y00 O H 27 [.agg (frC g told)]=some (.int .i64 (Z0e g),H):=λg told r h H=>p3 (g,told) ⟨r,h⟩ H
 have q4:∀g told r,RR=some (g,told,r)->Z0e g=0->∀H,Z02 Y00 O H 28 [.agg (frC g told)]=some (.str (Z0y g),H):=λg told r h h0 H=>p4 (g,told) ⟨⟨r,h⟩,h0⟩ H
 clear p1 p2 p3 p4
 refine (Zj3 s RR O hs hRR hO).2 λt ht=>?_
 cases he:t.ended with
 |true=>exact Zk2 hs hRR hO q3 q4 t ht he
 |false =>
  cases hc:Z1b 10 t.rest with
  |none=>exact ZlL hs hRR hO q1 q2 t ht ⟨he,λl r h=>by rw[hc]at h;cases h⟩
  |some p =>
   obtain⟨l,r⟩:=p
   cases hr:(Z06 l).2 with
   |false=>exact ZlL hs hRR hO q1 q2 t ht ⟨he,λl' r' h=>by rw[hc]at h;simp only[Option.some.injEq,Prod.mk.injEq]at h;rw[<- h.1];exact hr⟩
   |true =>
    rcases (Z1X l).2 hr with h|h|h|h|h
    ·exact ZhY hs hRR hO q1 q2 t ht ⟨he,l,r,hc,hr,h⟩
    ·exact ZlM hs hRR hO q1 q2 t ht ⟨he,l,r,hc,hr,h⟩
    ·exact ZhZ hs hRR hO q1 q2 t ht ⟨he,l,r,hc,hr,h⟩
    ·exact ZhX hs hRR hO q1 q2 t ht ⟨he,l,r,hc,hr,h⟩
    ·exact ZlN hs hRR hO q1 q2 t ht ⟨he,l,r,hc,hr,h⟩
end
section
structure Wd (w:List UInt8):Prop where
 ne:w≠[]
 b:(32:UInt8) ∉ w
 l:(10:UInt8) ∉ w
def Z3f:List (List UInt8)->List UInt8
 |[]=>[]
 |w::l=>32::(w++Z3f l)
theorem Z0M(w:List UInt8):∀l:List (List UInt8),Z0P (w::l)=w++Z3f l
 |[]=>by simp[Z0P,Z3f]
 |v::l=>by simp only[Z0P,Z3f];rw[Z0M v l]
theorem Z1f:∀a b:List (List UInt8),Z3f (a++b)=Z3f a++Z3f b
 |[],b=>rfl
 |w::a,b=>by simp only[Y0b,Z3f,Z1f a b,Y0c]
theorem Z50{b:List (List UInt8)}(h:b≠[]):Z3f [Z0P b]=Z3f b:=by
 cases b with
 |nil=>exact absurd rfl h
 |cons w l=>simp only[Z3f,Z0M,Y0d]
theorem Z5j{w:List UInt8}{l:List (List UInt8)}(h:w≠[]):Z0P (w::l)≠[]:=by rw[Z0M];simp[h]
theorem Z6Z:∀(w s:List UInt8),(32:UInt8) ∉ w->Z0C (w++s)=match Z0C s with|[]=>[w]|v::l=>(w++v)::l
 |[],s,_=>by
  simp only[Y0a]
  cases h:Z0C s with
  |nil =>
   cases s with
   |nil=>simp[Z0C]at h
   |cons b s =>
    simp only[Z0C]at h
    split at h
    ·cases h
    ·split at h<;>cases h
  |cons v l=>rfl
 |b::w,s,h=>by
  have hb:¬b=32:=λe=>h (by simp[e])
  have hw:(32:UInt8) ∉ w:=λe=>h (by simp[e])
  simp only[Y0b,Z0C]
  rw[if_neg hb,Z6Z w s hw]
  cases Z0C s<;>rfl
theorem Z9M:∀(l:List (List UInt8)),(∀w∈l,(32:UInt8) ∉ w)->Z0C (Z3f l)=[]::l
 |[],_=>rfl
 |w::l,h=>by
  simp only[Z3f,Z0C,if_true]
  rw[Z6Z w _ (h w (by simp)),Z9M l λv hv=>h v (by simp[hv])]
  simp
theorem Zfh(w:List UInt8)(l:List (List UInt8))(h:∀v∈w::l,(32:UInt8) ∉ v):Z0C (Z0P (w::l))=w::l:=by
 rw[Z0M,Z6Z w _ (h w (by simp)),Z9M l λv hv=>h v (by simp[hv])]
 simp
theorem Z8T:∀(l:List (List UInt8)),(∀w∈l,(10:UInt8) ∉ w)->(10:UInt8) ∉ Z0P l
 |[],_=>by simp[Z0P]
 |w::l,h=>by
  rw[Z0M]
  have ht:∀l:List (List UInt8),(∀w∈l,(10:UInt8) ∉ w)->(10:UInt8) ∉ Z3f l:=by
   intro l
   induction l with
   |nil=>intro _;simp[Z3f]
   |cons v l ih =>
    intro h
    simp only[Z3f,Y01,Y07,not_or]
    exact⟨by decide,h v (by simp),ih λw hw=>h w (by simp[hw])⟩
  rw[Y07,not_or]
  exact⟨h w (by simp),ht l λv hv=>h v (by simp[hv])⟩
theorem ZgN:∀(l r:List UInt8),(10:UInt8) ∉ l->Z1b 10 (l++10::r)=some (l,r)
 |[],r,_=>by simp[Z1b]
 |b::l,r,h=>by
  have hb:¬b=10:=λe=>h (by simp[e])
  simp only[Y0b,Z1b]
  rw[if_neg hb,ZgN l r λe=>h (by simp[e])]
theorem Zmu(c:UInt8):∀(l r:List UInt8),c ∉ l->Z1b c (l++c::r)=some (l,r)
 |[],r,_=>by simp[Z1b]
 |b::l,r,h=>by
  have hb:¬b=c:=λe=>h (by simp[e])
  simp only[Y0b,Z1b]
  rw[if_neg hb,Zmu c l r λe=>h (by simp[e])]
theorem Zjs(c:UInt8):∀(l:List UInt8),c ∉ l->Z1b c l=none
 |[],_=>rfl
 |b::l,h=>by
  have hb:¬b=c:=λe=>h (by simp[e])
  simp only[Z1b]
  rw[if_neg hb,Zjs c l λe=>h (by simp[e])]
theorem ZlP{n:Int}{b:UInt8}(h:b∈Z0g n):Zak b\/b=45:=by
 unfold Z0g at h
 split at h
 · rcases Y01.1 h with h|h
   ·exact .inr h
   ·exact .inl (Zc3 _ _ h)
 ·exact .inl (Zc3 _ _ h)
theorem Z5b(n:Int):Z0g n≠[]:=by
 unfold Z0g
 split
 ·simp
 ·exact Zc1 _
theorem Z4y{n:Int}{b:UInt8}(h:¬Zak b)(h':b≠45):b ∉ Z0g n:=λe=>by
 rcases ZlP e with e|e
 ·exact h e
 ·exact h' e
theorem ZmN:¬Zak 32:=by unfold Zak;decide
theorem ZmO:¬Zak 10:=by unfold Zak;decide
theorem Zo6:¬Zak 46:=by unfold Zak;decide
theorem Z7T(n:Int):Wd (Z0g n):=⟨Z5b n,Z4y ZmN (by decide),Z4y ZmO (by decide)⟩
theorem Z8B(d:DId):Wd (idT d):=by
 refine⟨by unfold idT;simp,?_,?_⟩
 ·unfold idT;simp only[Y07,Y01,not_or];exact⟨Z4y ZmN (by decide),by decide,Z4y ZmN (by decide)⟩
 ·unfold idT;simp only[Y07,Y01,not_or];exact⟨Z4y ZmO (by decide),by decide,Z4y ZmO (by decide)⟩
theorem ZnP(n:Int):Wd (120::Z0g n):=by
 refine⟨by simp,?_,?_⟩
 ·simp only[Y01,not_or];exact⟨by decide,Z4y ZmN (by decide)⟩
 ·simp only[Y01,not_or];exact⟨by decide,Z4y ZmO (by decide)⟩
theorem Zbp{k:Int}(h:1<=k)(h':k<=4):Wd (Z1E k):=by
 have:k=1\/k=2\/k=3\/k=4:=by omega
 rcases this with rfl|rfl|rfl|rfl<;>exact⟨by decide,by decide,by decide⟩
theorem ZiN{k:Int}(h:1<=k)(h':k<=6):Wd (Z3D k):=by
 have:k=1\/k=2\/k=3\/k=4\/k=5\/k=6:=by omega
 rcases this with rfl|rfl|rfl|rfl|rfl|rfl<;>exact⟨by decide,by decide,by decide⟩
theorem Z2S{n:Int}(h:0<=n)(h':n<=999):Z81 (Z0g n)=some n:=by
 unfold Z81
 rw[Z5c n ⟨by omega,by omega⟩]
 simp only
 rw[if_pos ⟨h,h'⟩]
theorem Zkg{k:Int}(h:1<=k)(h':k<=4):Z2Z (Z1E k)=some k:=by
 have:k=1\/k=2\/k=3\/k=4:=by omega
 rcases this with rfl|rfl|rfl|rfl<;>decide
theorem ZlI{k:Int}(h:1<=k)(h':k<=6):Z9u (Z3D k)=some k:=by
 have:k=1\/k=2\/k=3\/k=4\/k=5\/k=6:=by omega
 rcases this with rfl|rfl|rfl|rfl|rfl|rfl<;>decide
def smD(d:DId):Prop:=(0<=d.t/\d.t<=999)/\(0<=d.i/\d.i<=999)
theorem ZkR{d:DId}(h:smD d)(l:List (List UInt8)):(DLf.mk (idT d::l) true).did=(d,⟨l,true⟩):=by
 have hp:Z4x (idT d)=(Z0g d.t,Z0g d.i):=by
  unfold Z4x idT
  rw[Zmu 46 _ _ (Z4y Zo6 (by decide))]
 unfold DLf.did DLf.next DLf.small
 simp only[hp,Z2S h.1.1 h.1.2,Z2S h.2.1 h.2.2]
theorem Zn4{n:Int}(h:rgI n)(l:List (List UInt8)):(DLf.mk (Z0g n::l) true).number=(n,⟨l,true⟩):=by
 unfold DLf.number DLf.next
 simp only[Z5c n h]
end
section
theorem Z12{l:List (List UInt8)}(h:∀w∈l,w≠[]):Z0v l=Z0P l:=by
 unfold Z0v
 rw[List.filter_eq_self.2 λw hw=>by simpa using h w hw]
def lnJ(l:List (List UInt8)):List UInt8:=Z0P l++[10]
def evW(e:DEv):List (List UInt8):=Z1E e.k::((if e.k=4 then [] else [120::Z0g e.l])++(Z3D e.o::((if e.rd then [Z0g e.r] else [])++if e.wr then [Z0g e.w] else [])))
def frW(e:DEv)(f:DId):List (List UInt8):=if e.rd then [Z31,idT f] else []
structure FnE (e:DEv) (f:DId):Prop where
 k:1<=e.k/\e.k<=4
 o:1<=e.o/\e.o<=6
 r:e.rd=false->e.r=0
 w:e.wr=false->e.w=0
 l:0<=e.l/\e.l<=999
 l4:e.k=4->e.l=0
 src:e.rd=true->smD f
 src0:e.rd=false->f=idD
 gr:rgI e.r
 gw:rgI e.w
theorem ZkG{e:DEv}(h:1<=e.k/\e.k<=4)(ho:1<=e.o/\e.o<=6):evT e=Z0P (evW e):=by
 have hk:=(Zbp h.1 h.2).ne
 have hoo:=(ZiN ho.1 ho.2).ne
 unfold evT Z0v evW
 congr 1
 have n1:=Z5b e.r
 have n2:=Z5b e.w
 have n3:=Z5b e.l
 have f1:(Z1E e.k != [])=true:=by simpa using hk
 have f2:(Z3D e.o != [])=true:=by simpa using hoo
 have f3:(Z0g e.r != [])=true:=by simpa using n1
 have f4:(Z0g e.w != [])=true:=by simpa using n2
 have f0:(([]:List UInt8) != [])=false:=rfl
 have f5:((120::Z0g e.l) != [])=true:=rfl
 by_cases h4:e.k=4<;>by_cases hr:e.rd=true<;>by_cases hw:e.wr=true<;>simp only[h4,hr,hw,if_true,if_false,Y0j,List.filter_nil,f0,f1,f2,f3,f4,f5,Y0a,Y0b,Y0d,reduceIte,Bool.false_eq_true]<;>(try rw[h4]at f1)<;>simp_all
theorem Zmj{e:DEv}(h:1<=e.k/\e.k<=4)(ho:1<=e.o/\e.o<=6):∀w∈evW e,Wd w:=λw hw=>by
 unfold evW at hw
 rcases Y01.1 hw with rfl|hw
 ·exact Zbp h.1 h.2
 rcases Y07.1 hw with hw|hw
 · split at hw
   ·cases hw
   ·simp only[Y0f]at hw;subst hw;exact ZnP _
 rcases Y01.1 hw with rfl|hw
 ·exact ZiN ho.1 ho.2
 rcases Y07.1 hw with hw|hw
 · split at hw
   ·simp only[Y0f]at hw;subst hw;exact Z7T _
   ·cases hw
 · split at hw
   ·simp only[Y0f]at hw;subst hw;exact Z7T _
   ·cases hw
theorem wd_from:Wd Z31:=⟨by decide,by decide,by decide⟩
theorem Zmc(e:DEv)(f:DId):∀w∈frW e f,Wd w:=λw hw=>by
 unfold frW at hw
 split at hw
 · simp only[Y01,Y06,or_false]at hw
   rcases hw with rfl|rfl
   ·exact wd_from
   ·exact Z8B f
 ·cases hw
theorem Zkt(e:DEv)(f:DId):Z2f e f=Z0P (frW e f):=by
 unfold Z2f frW
 split
 · exact Z12 fun w hw => by
    simp only[Y01,Y06,or_false]at hw
    rcases hw with rfl|rfl
    ·exact wd_from.ne
    ·exact (Z8B f).ne
 ·rfl
def evL(d:DId)(e:DEv)(f:DId):List (List UInt8):=Z0k::idT d::(evW e++frW e f)
theorem Zd3{d:DId}{e:DEv}{f:DId}(h:1<=e.k/\e.k<=4)(ho:1<=e.o/\e.o<=6):Z0s [Z0k,idT d,evT e,Z2f e f]=lnJ (evL d e f):=by
 unfold Z0s lnJ
 congr 1
 have hev:evW e≠[]:=by unfold evW;simp
 have hne:evT e≠[]:=by
  rw[ZkG h ho];unfold evW;exact Z5j (Zbp h.1 h.2).ne
 unfold evL
 by_cases hr:e.rd=true
 · have hf:frW e f≠[]:=by unfold frW;rw[if_pos hr];simp
   have hfn:Z2f e f≠[]:=by unfold Z2f;rw[if_pos hr];rw[Z12 (by intro w hw;simp only[Y01,Y06,or_false]at hw;rcases hw with rfl|rfl;exact wd_from.ne;exact (Z8B f).ne)];exact Z5j wd_from.ne
   rw[Z12 (by intro w hw;simp only[Y01,Y06,or_false]at hw;rcases hw with rfl|rfl|rfl|rfl;exact (by decide);exact (Z8B d).ne;exact hne;exact hfn)]
   rw[Z0M,Z0M,show [idT d,evT e,Z2f e f]=[idT d]++([evT e]++[Z2f e f]) from rfl,Z1f,Z1f,ZkG h ho,Zkt,Z50 hev,Z50 hf,<- Z1f,<- Z1f]
   rfl
 · have hr':e.rd=false:=by simpa using hr
   have hf:frW e f=[]:=by unfold frW;rw[if_neg hr]
   have hfn:Z2f e f=[]:=by unfold Z2f;rw[if_neg hr]
   have e1:Z0v [Z0k,idT d,evT e,Z2f e f]=Z0v [Z0k,idT d,evT e]:=by
    rw[hfn];unfold Z0v
    simp[Y0j]
   rw[e1,Z12 (by intro w hw;simp only[Y01,Y06,or_false]at hw;rcases hw with rfl|rfl|rfl;exact (by decide);exact (Z8B d).ne;exact hne)]
   rw[Z0M,Z0M,hf,Y0d,show [idT d,evT e]=[idT d]++[evT e] from rfl,Z1f,ZkG h ho,Z50 hev,<- Z1f]
   rfl
theorem Zm6(o:List DId):∀w∈o.map idT,w≠[]:=λw hw=>by
 obtain⟨d,_,rfl⟩:=List.mem_map.1 hw
 exact (Z8B d).ne
theorem Zad(x:Int)(o:List DId):Z0s [Z0d,Z0g x,Z0v (o.map idT)]=lnJ (Z0d::Z0g x::o.map idT):=by
 unfold Z0s lnJ
 congr 1
 rw[Z12 (Zm6 o)]
 cases o with
 |nil =>
  have e1:Z0v [Z0d,Z0g x,Z0P (([]:List DId).map idT)]=Z0v [Z0d,Z0g x]:=by
   unfold Z0v;simp[Y0j,Z0P]
  rw[e1,Z12 (by intro w hw;simp only[Y01,Y06,or_false]at hw;rcases hw with rfl|rfl;exact (by decide);exact Z5b _)]
  rfl
 |cons d o =>
  have hne:Z0P ((d::o).map idT)≠[]:=Z5j (Z8B d).ne
  rw[Z12 (by intro w hw;simp only[Y01,Y06,or_false]at hw;rcases hw with rfl|rfl|rfl;exact (by decide);exact Z5b _;exact hne)]
  rw[Z0M,Z0M,show [Z0g x,Z0P ((d::o).map idT)]=[Z0g x]++[Z0P ((d::o).map idT)] from rfl,Z1f,Z50 (by simp),<- Z1f]
  rfl
theorem Zd2(n:Int):Z0s [Z0j,Z0g n]=lnJ [Z0j,Z0g n]:=by
 unfold Z0s lnJ
 rw[Z12 (by intro w hw;simp only[Y01,Y06,or_false]at hw;rcases hw with rfl|rfl;exact (by decide);exact Z5b _)]
theorem Zae(x v:Int):Z0s [Z23,Z0g x,Z0g v]=lnJ [Z23,Z0g x,Z0g v]:=by
 unfold Z0s lnJ
 rw[Z12 (by intro w hw;simp only[Y01,Y06,or_false]at hw;rcases hw with rfl|rfl|rfl;exact (by decide);exact Z5b _;exact Z5b _)]
theorem Zaf:Z0s [Z16]=lnJ [Z16]:=rfl
theorem Z9L(w:List UInt8)(l:List (List UInt8))(h:∀v∈w::l,Wd v):Z0C (Z0P (w::l))=w::l:=Zfh w l λv hv=>(h v hv).b
theorem ZaI(w:List UInt8)(l:List (List UInt8))(h:∀v∈w::l,Wd v)(r:List UInt8):Z1b 10 (lnJ (w::l)++r)=some (Z0P (w::l),r):=by
 unfold lnJ
 rw[Y0c]
 exact ZgN _ _ (Z8T _ λv hv=>(h v hv).l)
theorem Zhz:Wd Z0j:=⟨by decide,by decide,by decide⟩
theorem Zlr:Wd Z23:=⟨by decide,by decide,by decide⟩
theorem ZhA:Wd Z0k:=⟨by decide,by decide,by decide⟩
theorem Zhy:Wd Z0d:=⟨by decide,by decide,by decide⟩
theorem Zls:Wd Z16:=⟨by decide,by decide,by decide⟩
theorem Zcv(n:Int):∀v∈[Z0j,Z0g n],Wd v:=λw hw=>by
 simp only[Y01,Y06,or_false]at hw
 rcases hw with rfl|rfl
 ·exact Zhz
 ·exact Z7T n
theorem Zbn(n v:Int):∀w∈[Z23,Z0g n,Z0g v],Wd w:=λw hw=>by
 simp only[Y01,Y06,or_false]at hw
 rcases hw with rfl|rfl|rfl
 ·exact Zlr
 ·exact Z7T n
 ·exact Z7T v
theorem Zbm(n:Int)(o:List DId):∀w∈Z0d::Z0g n::o.map idT,Wd w:=λw hw=>by
 simp only[Y01]at hw
 rcases hw with rfl|rfl|hw
 ·exact Zhy
 ·exact Z7T n
 · obtain⟨d,_,rfl⟩:=List.mem_map.1 hw
   exact Z8B d
theorem Zbo:∀w∈[Z16],Wd w:=λw hw=>by
 simp only[Y01,Y06,or_false]at hw
 subst hw;exact Zls
theorem Zf5{d:DId}{e:DEv}{f:DId}(h:1<=e.k/\e.k<=4)(ho:1<=e.o/\e.o<=6):∀w∈evL d e f,Wd w:=λw hw=>by
 unfold evL at hw
 simp only[Y01,Y07]at hw
 rcases hw with rfl|rfl|hw|hw
 ·exact ZhA
 ·exact Z8B d
 ·exact Zmj h ho w hw
 ·exact Zmc e f w hw
theorem ZcN{n:Int}(h:0<=n)(h':n<=999):Z06 (Z0P [Z0j,Z0g n])=({ ln0 Z0j with n:=n },true):=by
 unfold Z06
 rw[Z9L _ _ (Zcv n)]
 simp only[DLf.next,DLf.small,Z2S h h',if_true,true_or]
 rfl
theorem Z87{n v:Int}(h:0<=n)(h':n<=999)(hv:rgI v):Z06 (Z0P [Z23,Z0g n,Z0g v])=({ ln0 Z23 with n:=n,v:=v },true):=by
 unfold Z06
 rw[Z9L _ _ (Zbn n v)]
 simp only[DLf.next,DLf.small,Z2S h h',DLf.number,Z5c v hv]
 rw[if_neg (show ¬Z23=Z0j by decide)]
 simp only[if_true,true_or,or_true]
 rfl
theorem Z4a:Z06 (Z0P [Z16])=(ln0 Z16,true):=by
 unfold Z06
 rw[Z9L _ _ Zbo]
 rfl
theorem Zjb:∀(o a:List DId),(∀d∈o,smD d)->Z7j o.length ⟨o.map idT,true⟩ a=(a++o,⟨[],true⟩)
 |[],a,_=>by simp[Z7j]
 |d::o,a,h=>by
  simp only[Y02,Z7j,List.map_cons]
  rw[ZkR (h d (by simp)),Zjb o (a++[d]) λx hx=>h x (by simp[hx])]
  simp
theorem Z9V{n:Int}{o:List DId}(h:0<=n)(h':n<=999)(ho:∀d∈o,smD d):Z06 (Z0P (Z0d::Z0g n::o.map idT))=({ ln0 Z0d with n:=n,ids:=o },true):=by
 unfold Z06
 rw[Z9L _ _ (Zbm n o)]
 simp only[DLf.next,DLf.small,Z2S h h']
 rw[if_neg (show ¬Z0d=Z0j by decide),if_neg (show ¬Z0d=Z23 by decide),if_neg (show ¬Z0d=Z0k by decide)]
 simp only[if_true,true_or,or_true]
 rw[List.length_map,Zjb o [] ho]
 rfl
theorem Z5f{k:Int}(h:1<=k)(h':k<=4)(L:List (List UInt8)):(DLf.mk (Z1E k::L) true).look Z2Z=(k,⟨L,true⟩):=by
 unfold DLf.look DLf.next
 simp only[Zkg h h']
theorem Z6F{k:Int}(h:1<=k)(h':k<=6)(L:List (List UInt8)):(DLf.mk (Z3D k::L) true).look Z9u=(k,⟨L,true⟩):=by
 unfold DLf.look DLf.next
 simp only[ZlI h h']
theorem ZbT{k l:Int}(hk:k≠4)(h:0<=l)(h':l<=999)(L:List (List UInt8)):(DLf.mk ((120::Z0g l)::L) true).evLoc k=(l,⟨L,true⟩):=by
 unfold DLf.evLoc
 rw[if_neg hk]
 simp only[DLf.next,xOf,DLf.small,Z2S h h',Bool.and_self]
theorem ZkH(w:DLf):w.evLoc 4=(0,w):=rfl
theorem num?_T{n:Int}(h:rgI n)(L:List (List UInt8)):(DLf.mk (Z0g n::L) true).num? true=(n,⟨L,true⟩):=Zn4 h L
theorem num?_F(w:DLf):w.num? false=(0,w):=rfl
theorem from?_T{f:DId}(h:smD f)(L:List (List UInt8)):(DLf.mk (Z31::idT f::L) true).from? true=(f,⟨L,true⟩):=ZkR h L
theorem from?_F(w:DLf):w.from? false=(idD,w):=rfl
theorem ZkF{e:DEv}{f:DId}(h:FnE e f):(DLf.mk (evW e++frW e f) true).event=(e,f,⟨[],true⟩):=by
 obtain⟨hk,ho,hr,hw,hl,hl4,hf,hf0,gr,gw⟩:=h
 obtain⟨k,l,o,r,w⟩:=e
 dsimp only at *
 have hc:k=1\/k=2\/k=3\/k=4:=by omega
 unfold DLf.event
 rcases hc with rfl|rfl|rfl|rfl
 · have h1:=hw rfl
   subst h1
   rw[show evW ⟨1,l,o,r,0⟩++frW ⟨1,l,o,r,0⟩ f=[Z1E 1,120::Z0g l,Z3D o,Z0g r,Z31,idT f] from rfl,Z5f hk.1 hk.2]
   dsimp only
   rw[ZbT (by decide) hl.1 hl.2]
   dsimp only
   rw[Z6F ho.1 ho.2,show ((1:Int)==1 || (1:Int)==3)=true from rfl,show ((1:Int)==2 || (1:Int)==3)=false from rfl]
   dsimp only
   rw[num?_T gr]
   dsimp only
   rw[num?_F]
   dsimp only
   rw[from?_T (hf rfl)]
 · have h1:=hr rfl
   have h2:=hf0 rfl
   subst h1 h2
   rw[show evW ⟨2,l,o,0,w⟩++frW ⟨2,l,o,0,w⟩ idD=[Z1E 2,120::Z0g l,Z3D o,Z0g w] from rfl,Z5f hk.1 hk.2]
   dsimp only
   rw[ZbT (by decide) hl.1 hl.2]
   dsimp only
   rw[Z6F ho.1 ho.2,show ((2:Int)==1 || (2:Int)==3)=false from rfl,show ((2:Int)==2 || (2:Int)==3)=true from rfl]
   dsimp only
   rw[num?_F]
   dsimp only
   rw[num?_T gw]
   dsimp only
   rw[from?_F]
 · rw[show evW ⟨3,l,o,r,w⟩++frW ⟨3,l,o,r,w⟩ f=[Z1E 3,120::Z0g l,Z3D o,Z0g r,Z0g w,Z31,idT f] from rfl,Z5f hk.1 hk.2]
   dsimp only
   rw[ZbT (by decide) hl.1 hl.2]
   dsimp only
   rw[Z6F ho.1 ho.2,show ((3:Int)==1 || (3:Int)==3)=true from rfl,show ((3:Int)==2 || (3:Int)==3)=true from rfl]
   dsimp only
   rw[num?_T gr]
   dsimp only
   rw[num?_T gw]
   dsimp only
   rw[from?_T (hf rfl)]
 · have h1:=hr rfl
   have h2:=hf0 rfl
   have h3:=hw rfl
   have h4:=hl4 rfl
   subst h1 h2 h3 h4
   rw[show evW ⟨4,0,o,0,0⟩++frW ⟨4,0,o,0,0⟩ idD=[Z1E 4,Z3D o] from rfl,Z5f hk.1 hk.2]
   dsimp only
   rw[ZkH]
   dsimp only
   rw[Z6F ho.1 ho.2,show ((4:Int)==1 || (4:Int)==3)=false from rfl,show ((4:Int)==2 || (4:Int)==3)=false from rfl]
   dsimp only
   rw[num?_F]
   dsimp only
   rw[num?_F]
   dsimp only
   rw[from?_F]
theorem ZcO{d:DId}{e:DEv}{f:DId}(hd:smD d)(h:FnE e f):Z06 (Z0P (evL d e f))=({ ln0 Z0k with id:=d,ev:=e,frm:=f },true):=by
 unfold Z06
 have hs:Z0C (Z0P (evL d e f))=evL d e f:=Z9L _ _ (Zf5 h.k h.o)
 rw[hs]
 unfold evL
 have hdd:=ZkR hd (evW e++frW e f)
 have hee:=ZkF h
 generalize evW e++frW e f=W at *
 simp only[DLf.next,hdd,hee]
 rw[if_neg (show ¬Z0k=Z0j by decide),if_neg (show ¬Z0k=Z23 by decide)]
 simp only[if_true,true_or,or_true]
 rfl
end
section
theorem Zjh{g:DGr}(h6:g.ini.length<=6)(h4:g.thr.length<=4)(h14:∀l∈g.thr,l.length<=14){d:DId}{e:DEv}{f:DId}(he:okV e)(h1:Z3l g.ini.length e=true)(h2:ZeS g d e f=true):FnE e f:=by
 unfold Z3l at h1
 simp only[Y08,decide_eq_true_eq,Bool.or_eq_true,beq_iff_eq]at h1
 obtain⟨⟨⟨⟨⟨⟨k1,k2⟩,o1⟩,o2⟩,hr⟩,hw⟩,hl⟩:=h1
 have hl':(0<=e.l/\e.l<=999)/\(e.k=4->e.l=0):=by
  split at hl
  · have:=beq_iff_eq.1 hl
    exact⟨by omega,λ_=>this⟩
  · rename_i h4
    simp only[Y08,decide_eq_true_eq]at hl
    exact⟨by omega,λe=>absurd e h4⟩
 unfold ZeS at h2
 refine⟨⟨k1,k2⟩,⟨o1,o2⟩,λe=>?_,λe=>?_,hl'.1,hl'.2,λe=>?_,λe=>?_,he.2.2.2.1,he.2.2.2.2⟩
 · rcases hr with hr|hr
   ·rw[e]at hr;cases hr
   ·exact hr
 · rcases hw with hw|hw
   ·rw[e]at hw;cases hw
   ·exact hw
 · rw[if_pos e]at h2
   cases hf:g.ev f with
   |none=>rw[hf]at h2;cases h2
   |some w =>
    unfold DGr.ev at hf
    split at hf
    ·cases hf
    · rename_i hn
      split at hf
      · rename_i ht
        cases hi:g.ini[f.i.toNat]? with
        |none=>rw[hi]at hf;cases hf
        |some v =>
         have:=(Y0e.1 hi).1
         exact⟨by omega,by omega⟩
      · cases ht:g.thr[f.t.toNat-1]? with
        |none=>rw[ht]at hf;cases hf
        |some l =>
         rw[ht]at hf
         obtain⟨a1,a2⟩:=Y0e.1 ht
         have a3:=(Y0e.1 hf).1
         have a4:=h14 l (by rw[<- a2];exact Y0g a1)
         exact⟨by omega,by omega⟩
 ·rw[e]at h2;simpa using h2
theorem Zf2(t:Nat):∀(l:List DEv)(i:Nat)(p:DId×Int),p∈Z4W t i l->p.1.t=(t:Int)+1/\(i:Int)<=p.1.i/\p.1.i<(i:Int)+l.length
 |[],i,p,h=>by simp[Z4W]at h
 |e::l,i,p,h=>by
  have key:p∈Z4W t (i+1) l->p.1.t=(t:Int)+1/\(i:Int)<=p.1.i/\p.1.i<(i:Int)+(l.length+1:Nat):=λh=>by
   have:=Zf2 t l (i+1) p h
   exact⟨this.1,by omega,by omega⟩
  simp only[Z4W]at h
  split at h
  · rcases Y01.1 h with rfl|h
    ·exact⟨rfl,Int.le_refl _,by simp only[Y02];omega⟩
    ·exact key h
  ·exact key h
theorem Zco:∀(ls:List (List DEv))(t:Nat)(p:DId×Int),(∀l∈ls,l.length<=14)->p∈Z14 t ls->1<=p.1.t/\p.1.t<=(t:Int)+ls.length/\0<=p.1.i/\p.1.i<=14
 |[],t,p,_,h=>by simp[Z14]at h
 |l::ls,t,p,hl,h=>by
  simp only[Z14]at h
  rcases Y07.1 h with h|h
  · have:=Zf2 t l 0 p h
    have:=hl l (by simp)
    simp only[Y02]
    omega
  · have:=Zco ls (t+1) p (λm hm=>hl m (by simp[hm])) h
    simp only[Y02]
    omega
theorem Zfc{left l:List (DId×Int)}{x:Nat}{d:DId}(h:Z4B left x d=some l):(∃p∈left,p.1=d)/\∀p∈l,p∈left:=by
 unfold Z4B at h
 split at h
 · rename_i j hj
   split at h
   · cases h
     obtain⟨hj',hj2,_⟩:=List.findIdx?_eq_some_iff_getElem.1 hj
     exact⟨⟨left[j],Y0g hj',by simpa using hj2⟩,λp hp=>List.mem_of_mem_eraseIdx hp⟩
   ·cases h
 ·cases h
theorem Z7X(x:Nat):∀(ds:List DId)(left l:List (DId×Int)),Z2Q x ds left=some l->(∀d∈ds,∃p∈left,p.1=d)/\∀p∈l,p∈left
 |[],left,l,h=>by simp only[Z2Q,Option.some.injEq]at h;subst h;exact⟨by simp,λp hp=>hp⟩
 |d::ds,left,l,h=>by
  simp only[Z2Q]at h
  split at h
  · rename_i m hm
    have h1:=Zfc hm
    have h2:=Z7X x ds m l h
    refine⟨λe he=>?_,λp hp=>h1.2 p (h2.2 p hp)⟩
    rcases Y01.1 he with rfl|he
    ·exact h1.1
    · obtain⟨p,hp,hq⟩:=h2.1 e he
      exact⟨p,h1.2 p hp,hq⟩
  ·cases h
theorem Z9H:∀(os:List (List DId))(x:Nat)(left l:List (DId×Int)),Z2c x os left=some l->∀o∈os,∀d∈o,∃p∈left,p.1=d
 |[],x,left,l,h=>by simp
 |o::os,x,left,l,h=>by
  simp only[Z2c]at h
  split at h
  · rename_i m hm
    have h1:=Z7X x o left m hm
    have h2:=Z9H os (x+1) m l h
    intro q hq d hd
    rcases Y01.1 hq with rfl|hq
    ·exact h1.1 d hd
    · obtain⟨p,hp,he⟩:=h2 q hq d hd
      exact⟨p,h1.2 p hp,he⟩
  ·cases h
theorem Rt.smO{g:DGr}(h:Rt g):∀o∈g.ord,∀d∈o,smD d:=λo ho d hd=>by
 obtain⟨p,hp,rfl⟩:=Z9H _ _ _ _ h.tk o ho d hd
 have:=Zco g.thr 0 p h.s4 hp
 have:=h.s2
 exact⟨by omega,by omega⟩
theorem ZlD{g:DGr}{told:Bool}{x:DLn}(h:x.kind=Z0j):Z1I g told x=if told\/4<x.n then none else some ({ g with thr:=List.replicate x.n.toNat [],frm:=List.replicate x.n.toNat [] },true):=by
 unfold Z1I;rw[if_pos h]
theorem ZjP{g:DGr}{told:Bool}{x:DLn}(h:x.kind=Z23):Z1I g told x=if x.n=g.ini.length then some ({ g with ini:=g.ini++[x.v] },told) else none:=by
 unfold Z1I;rw[if_neg (by rw[h];decide),if_pos h]
theorem ZlE {g : DGr} {told : Bool} {x : DLn} (h : x.kind = Z0k) : Z1I g told x = if x.id.t < 1 then none else match g.thr[(x.id.t - 1).toNat]?, g.frm[(x.id.t - 1).toNat]? with
  |some l,some f=>if x.id.i=l.length then some ({ g with thr:=g.thr.set (x.id.t-1).toNat (l++[x.ev]),frm:=g.frm.set (x.id.t-1).toNat (f++[x.frm]) },told) else none
  |_,_=>none:=by
 unfold Z1I;rw[if_neg (by rw[h];decide),if_neg (by rw[h];decide),if_pos h];rfl
theorem ZjO{g:DGr}{told:Bool}{x:DLn}(h:x.kind=Z0d):Z1I g told x=if x.n=g.ord.length then some ({ g with ord:=g.ord++[x.ids] },told) else none:=by
 unfold Z1I;rw[if_neg (by rw[h];decide),if_neg (by rw[h];decide),if_neg (by rw[h];decide),if_pos h]
theorem Zkc{g:DGr}{told:Bool}{v:Int}(r:List UInt8)(hx:g.ini.length<=999)(hv:rgI v):Z2m g told (Z0s [Z23,Z0g g.ini.length,Z0g v]++r)=Z2m { g with ini:=g.ini++[v] } told r:=by
 rw[Zae]
 have hr:=Z87 (n:=g.ini.length) (by omega) (by omega) hv
 refine Z2E (l:=Z0P [Z23,Z0g g.ini.length,Z0g v]) (ZaI _ _ (Zbn _ _) r) (by rw[hr]) ?_ (by rw[hr];show Z23≠Z16;decide)
 rw[hr]
 exact (ZjP rfl).trans (if_pos rfl)
theorem Zd7:∀(vs:List Int)(g:DGr)(told:Bool)(r:List UInt8),g.ini.length+vs.length<=1000->(∀v∈vs,rgI v)->Z2m g told (Z2o g.ini.length vs++r)=Z2m { g with ini:=g.ini++vs } told r
 |[],g,told,r,_,_=>by simp[Z2o]
 |v::vs,g,told,r,h,hv=>by
  rw[Y02]at h
  simp only[Z2o,Y0c]
  rw[Zkc _ (by omega) (hv v (by simp))]
  have:=Zd7 vs { g with ini:=g.ini++[v] } told r (by simp only[Y05,Y02,Y03];omega) (λw hw=>hv w (by simp[hw]))
  simp only[Y05,Y02,Y03,Y0h]at this
  rw[this]
  simp
theorem Zm1(r:List UInt8){n:Nat}(h:n<=4):Z2m gr0 false (Z0s [Z0j,Z0g n]++r)=Z2m ⟨[],List.replicate n [],List.replicate n [],[]⟩ true r:=by
 rw[Zd2]
 have hr:=ZcN (n:=(n:Int)) (by omega) (by omega)
 refine Z2E (l:=Z0P [Z0j,Z0g n]) (ZaI _ _ (Zcv _) r) (by rw[hr]) ?_ (by rw[hr];show Z0j≠Z16;decide)
 rw[hr]
 refine (ZlD rfl).trans ((if_neg ?_).trans ?_)
 · show ¬((false:Bool)=true\/4<(n:Int))
   simp;omega
 · show some (_,_)=some (_,_)
   rfl
theorem Zkd(g:DGr)(told:Bool)(r:List UInt8):Z2m g told (Z0s [Z16]++r)=some (g,told,r):=by
 rw[Zaf]
 refine Z3i (l:=Z0P [Z16]) (ZaI _ _ Zbo r) (by rw[Z4a]) ?_ (by rw[Z4a];rfl)
 rw[Z4a]
 rfl
theorem Zkb{g:DGr}{told:Bool}{o:List DId}(r:List UInt8)(hx:g.ord.length<=999)(ho:∀d∈o,smD d):Z2m g told (Z0s [Z0d,Z0g g.ord.length,Z0v (o.map idT)]++r)=Z2m { g with ord:=g.ord++[o] } told r:=by
 rw[Zad]
 have hr:=Z9V (n:=g.ord.length) (by omega) (by omega) ho
 refine Z2E (l:=Z0P (Z0d::Z0g g.ord.length::o.map idT)) (ZaI _ _ (Zbm _ _) r) (by rw[hr]) ?_ (by rw[hr];show Z0d≠Z16;decide)
 rw[hr]
 exact (ZjO rfl).trans (if_pos rfl)
theorem Zd6:∀(os:List (List DId))(g:DGr)(told:Bool)(r:List UInt8),g.ord.length+os.length<=1000->(∀o∈os,∀d∈o,smD d)->Z2m g told (Z1Y g.ord.length os++r)=Z2m { g with ord:=g.ord++os } told r
 |[],g,told,r,_,_=>by simp[Z1Y]
 |o::os,g,told,r,h,hv=>by
  rw[Y02]at h
  simp only[Z1Y,Y0c]
  rw[Zkb _ (by omega) (hv o (by simp))]
  have:=Zd6 os { g with ord:=g.ord++[o] } told r (by simp only[Y05,Y02,Y03];omega) (λw hw=>hv w (by simp[hw]))
  simp only[Y05,Y02,Y03,Y0h]at this
  rw[this]
  simp
theorem Zm2 {g : DGr} {told : Bool} {t : Nat} {l : List DEv} {f : List DId} {e : DEv} {d : DId} (r : List UInt8) (ht : t <= 900) (hl : g.thr[t]? = some l) (hf : g.frm[t]? = some f) (hi : l.length <= 999) (he : FnE e d) :
  Z2m g told (Z0s [Z0k,idT ⟨(t:Int)+1,l.length⟩,evT e,Z2f e d]++r)=Z2m { g with thr:=g.thr.set t (l++[e]),frm:=g.frm.set t (f++[d]) } told r:=by
 rw[Zd3 he.k he.o]
 have hr:=ZcO (d:=⟨(t:Int)+1,l.length⟩) ⟨⟨by show (0:Int)<=(t:Int)+1;omega,by show (t:Int)+1<=999;omega⟩,⟨by show (0:Int)<=(l.length:Int);omega,by show (l.length:Int)<=999;omega⟩⟩ he
 refine Z2E (l:=Z0P (evL ⟨(t:Int)+1,l.length⟩ e d)) (ZaI _ _ (Zf5 he.k he.o) r) (by rw[hr]) ?_ (by rw[hr];show Z0k≠Z16;decide)
 rw[hr]
 refine (ZlE rfl).trans ?_
 simp only
 rw[if_neg (by omega),show ((t:Int)+1-1).toNat=t by omega,hl,hf]
 simp only[if_true]
theorem Zg2 {G : DGr} (h6 : G.ini.length <= 6) (h4 : G.thr.length <= 4) (h14 : ∀ l ∈ G.thr, l.length <= 14) : ∀ (es : List DEv) (fs : List DId) (g : DGr) (told : Bool) (r : List UInt8) (t : Nat) (l : List DEv) (f : List DId), t <= 900 -> g.thr[t]? = some l -> g.frm[t]? = some f -> l.length + es.length <= 1000 -> (∀ e ∈ es, okV e) -> Z1F G t l.length es fs = true ->
  Z2m g told (Z3I t l.length es fs++r)=Z2m { g with thr:=g.thr.set t (l++es),frm:=g.frm.set t (f++fs) } told r
 |[],[],g,told,r,t,l,f,_,hl,hf,_,_,_=>by
  have e1:g.thr.set t l=g.thr:=by
   obtain⟨a1,a2⟩:=Y0e.1 hl
   subst a2;exact List.set_getElem_self a1
  have e2:g.frm.set t f=g.frm:=by
   obtain⟨a1,a2⟩:=Y0e.1 hf
   subst a2;exact List.set_getElem_self a1
  simp only[Z3I,Y0d,Y0a,e1,e2]
 |[],d::fs,g,told,r,t,l,f,_,_,_,_,_,h=>by simp[Z1F]at h
 |e::es,[],g,told,r,t,l,f,_,_,_,_,_,h=>by simp[Z1F]at h
 |e::es,d::fs,g,told,r,t,l,f,ht,hl,hf,hn,ho,h=>by
  rw[Y02]at hn
  simp only[Z1F,Y08]at h
  simp only[Z3I,Y0c]
  rw[Zm2 _ ht hl hf (by omega) (Zjh h6 h4 h14 (ho e (by simp)) h.1.1 h.1.2)]
  have a1:=(Y0e.1 hl).1
  have a2:=(Y0e.1 hf).1
  have:=Zg2 h6 h4 h14 es fs { g with thr:=g.thr.set t (l++[e]),frm:=g.frm.set t (f++[d]) } told r t (l++[e]) (f++[d]) ht (by simp[a1]) (by simp[a2]) (by simp only[Y05,Y02,Y03];omega) (λx hx=>ho x (by simp[hx])) (by simpa using h.2)
  simp only[Y05,Y02,Y03,Y0h]at this
  rw[this]
  simp
theorem Zd5 {G : DGr} (h6 : G.ini.length <= 6) (h4 : G.thr.length <= 4) (h14 : ∀ l ∈ G.thr, l.length <= 14) : ∀ (ls : List (List DEv)) (fs : List (List DId)) (A : List (List DEv)) (B : List (List DId)) (g : DGr) (told : Bool) (r : List UInt8), A.length = B.length -> A.length + ls.length <= 900 -> (∀ l ∈ ls, l.length <= 14 /\ ∀ e ∈ l, okV e) -> Z0V G A.length ls fs = true -> g.thr = A ++ List.replicate ls.length [] -> g.frm = B ++ List.replicate ls.length [] ->
  Z2m g told (Z1q A.length ls fs++r)=Z2m { g with thr:=A++ls,frm:=B++fs } told r
 |[],[],A,B,g,told,r,_,_,_,_,h1,h2=>by
  have e1:g.thr=A++[]:=h1
  have e2:g.frm=B++[]:=h2
  simp only[Z1q,Y0a]
  rw[<- e1,<- e2]
 |[],d::fs,A,B,g,told,r,_,_,_,h,_,_=>by simp[Z0V]at h
 |e::es,[],A,B,g,told,r,_,_,_,h,_,_=>by simp[Z0V]at h
 |l::ls,f::fs,A,B,g,told,r,hAB,hn,ho,h,h1,h2=>by
  rw[Y02]at hn
  simp only[Z0V,Y08]at h
  simp only[Z1q,Y0c]
  have h0:=ho l (by simp)
  have g1:g.thr[A.length]? = some []:=by rw[h1];simp[Y0i]
  have g2:g.frm[A.length]? = some []:=by rw[h2,hAB];simp[Y0i]
  have e1:=Zg2 h6 h4 h14 l f g told (Z1q (A.length+1) ls fs++r) A.length [] [] (by omega) g1 g2 (by simp only[Y03];omega) h0.2 h.1
  simp only[Y03,Y0a]at e1
  rw[e1]
  have s1:g.thr.set A.length l=(A++[l])++List.replicate ls.length []:=by
   rw[h1,List.set_append_right _ _ (Nat.le_refl _)];simp[Y0i]
  have s2:g.frm.set A.length f=(B++[f])++List.replicate ls.length []:=by
   rw[h2,List.set_append_right _ _ (by omega)];simp[Y0i,hAB]
  have:=Zd5 h6 h4 h14 ls fs (A++[l]) (B++[f]) { g with thr:=g.thr.set A.length l,frm:=g.frm.set A.length f } told r (by simp[hAB]) (by simp only[Y05,Y02,Y03];omega) (λx hx=>ho x (by simp[hx])) (by simpa using h.2) s1 s2
  simp only[Y05,Y02,Y03,Y0h]at this
  rw[this]
  simp
theorem Zie{g:DGr}(h:Rt g)(r:List UInt8):Z2m gr0 false (Z0y g++r)=some (g,true,r):=by
 obtain⟨ini,thr,frm,ord⟩:=g
 unfold Z0y
 simp only[Y0c]
 have a1:=h.s1
 have a2:=h.s2
 have a3:=h.ol
 have a4:=h.fl
 dsimp only at a1 a2 a3 a4
 rw[Zm1 _ a2]
 have e1:=Zd7 ini ⟨[],List.replicate thr.length [],List.replicate thr.length [],[]⟩ true (Z1q 0 thr frm++(Z1Y 0 ord++(Z0s [Z16]++r))) (by simp only[Y03];omega) h.ok.1.2
 simp only[Y03,Y0a]at e1
 rw[e1]
 have e2:=Zd5 (G:=⟨ini,thr,frm,ord⟩) a1 a2 h.s4 thr frm [] [] ⟨ini,List.replicate thr.length [],List.replicate thr.length [],[]⟩ true (Z1Y 0 ord++(Z0s [Z16]++r)) rfl (by simp only[Y03];omega) (λl hl=>⟨h.s4 l hl,(h.ok.2.1.2 l hl).2⟩) h.rt rfl rfl
 simp only[Y03,Y0a]at e2
 rw[e2]
 have e3:=Zd6 ord ⟨ini,thr,frm,[]⟩ true (Z0s [Z16]++r) (by simp only[Y03];omega) h.smO
 simp only[Y03,Y0a]at e3
 rw[e3,Zkd]
theorem ZcX{g:DGr}(hg:okG g)(h:Z0e g=0)(r:List UInt8):Zel (Z0y g++r)=some (g,r):=by
 unfold Zel
 rw[Z6G]
 have e:=Zie (Z9P hg h) r
 unfold Z2m at e
 rw[e]
 simp only[Y0k]
 rw[if_pos ⟨h,by rw[Y05,Nat.add_sub_cancel];simp⟩]
theorem Z9g:∀(l a:List DGr)(n:Nat),(∀g∈l,okG g/\Z0e g=0)->(Z0b l).length<n->Z9i n (Z0b l) a=some (a++l)
 |[],a,n+1,_,_=>by simp[Z9i,Z0b]
 |g::l,a,n+1,h,hn=>by
  have hp:0<(Z0y g).length:=Y0l.2 (Z46 g)
  have e:Z0b (g::l)=Z0y g++Z0b l:=rfl
  rw[e,Y05]at hn
  rw[e,Z9i,if_neg (by simp[Z46])]
  rw[ZcX (h g (by simp)).1 (h g (by simp)).2]
  simp only
  rw[Z9g l (a++[g]) n (λx hx=>h x (by simp[hx])) (by omega)]
  simp
 |_,_,0,_,h=>by omega
theorem Zg1:∀(n:Nat)(g:DGr)(told:Bool)(s:List UInt8)(g':DGr)(t':Bool)(r:List UInt8),Z1g n g told s=some (g',t',r)->∃p,s=p++r
 |0,_,_,_,_,_,_,h=>by cases h
 |n+1,g,told,s,g',t',r,h=>by
  simp only[Z1g]at h
  cases hcut:Z1b 10 s with
  |none=>rw[hcut]at h;cases h
  |some q =>
   obtain⟨l,rest⟩:=q
   have hs:=(Z4j 0 hcut).2
   simp only[hcut]at h
   split at h
   · cases hp:Z1I g told (Z06 l).1 with
     |none=>simp only[hp]at h;cases h
     |some q2 =>
      obtain⟨g2,t2⟩:=q2
      simp only[hp]at h
      split at h
      · simp only[Option.some.injEq,Prod.mk.injEq]at h
        obtain⟨rfl,rfl,rfl⟩:=h
        exact⟨l++[10],by rw[hs];simp⟩
      · obtain⟨p,e⟩:=Zg1 n g2 t2 rest g' t' r h
        exact⟨l++10::p,by rw[hs,e];simp⟩
   ·cases h
theorem Z8O{s r:List UInt8}{g:DGr}(hs:s.length<=1048576)(h:Zel s=some (g,r)):okG g/\Z0e g=0/\s=Z0y g++r:=by
 unfold Zel at h
 rw[Z6G]at h
 cases hl:Z1g (s.length+1) gr0 false s with
 |none=>rw[hl]at h;cases h
 |some p =>
  obtain⟨g1,told,r1⟩:=p
  rw[hl]at h
  simp only[Y0k]at h
  split at h
  · rename_i hc
    simp only[Option.some.injEq,Prod.mk.injEq]at h
    obtain⟨rfl,rfl⟩:=h
    obtain⟨c,hw,hcl⟩:=Zd4 _ _ _ _ 0 s.length _ _ _ ZmD (by omega) hs hl
    refine⟨hw.okG (by omega),hc.1,?_⟩
    obtain⟨p,hp⟩:=Zg1 _ _ _ _ _ _ _ hl
    have h2:=hc.2
    rw[hp,Y05,Nat.add_sub_cancel,List.take_left' rfl]at h2
    rw[h2,hp]
  ·cases h
end
section
def ZnJ:AV:=.agg [.nslice,.nslice,.nslice,.nslice]
def Zht(s:List UInt8):AV:=match Zel s with
 |none=>Zgy
 |some (g,r)=>.tuple [g.av,.str r,.bool true]
theorem Zj2(s:List UInt8)(hs:s.length<=1048576):ValOK Y00 runLives.gl 24 [.str s] (Zht s):=by
 refine (Zk1 s hs).less λsn v e=>?_
 unfold Zht Zel
 rw[Z6G]
 have e1:Z2m gr0 false s=Z1g (s.length+1) gr0 false s:=rfl
 rw[e1]at e
 cases h:Z1g (s.length+1) gr0 false s with
 |none=>rw[h]at e;exact e
 |some p =>
  obtain⟨g,told,r⟩:=p
  rw[h]at e
  obtain⟨c,hw,_⟩:=Zd4 _ _ _ _ 0 s.length _ _ _ ZmD (by omega) hs h
  simp only[Y0k]
  simp only[onV]at e
  by_cases hc:Z0e g=0/\Z0y g=s.take (s.length-r.length)
  · rw[if_pos hc]at e⊢
    simp only
    simp only[VR]at e⊢
    obtain⟨d,rfl,e⟩:=e
    refine⟨d,rfl,wkVL_LR [.agg (frC g told),.str r,.bool true] _ _ ?_ e⟩
    show (wkV _ _&&(wkV _ _&&(wkV _ _&&true)))=true
    rw[Zko hw.fl hw.no,show wkV (.str r) (.str r)=true by simp[wkV,veq]]
    rfl
  · rw[if_neg hc]at e⊢
    exact e
def ZcT(s:List UInt8):AV:=match Zel s with
 |none=>.tuple [ZnJ,.int .i64 11]
 |some (g,r)=>match r with
  |[]=>.tuple [g.av,.int .i64 0]
  |_::_=>.tuple [ZnJ,.int .i64 11]
theorem ZhU(s:List UInt8)(hs:s.length<=1048576):ValOK Y00 runLives.gl 17 [.str s] (ZcT s):=by
 obtain⟨O,hO,p1,-⟩:=fams (P:=Y00) (gl:=runLives.gl) [{ I:=List UInt8,f:=24,G:=λx=>x.length<=1048576,A:=λx=>[.str x],R:=λx=>Zht x,body:=(by kernel_rfl),inj:=(λi j _ _ h=>congrArg Zht (by simpa using h)),ok:=(λx hx=>⟨rfl,Zj2 x hx⟩) }] rfl
 have q1:∀H,Z02 Y00 O H 24 [.str s]=some (Zht s,H):=λH=>p1 s hs H
 clear p1
 have e0:decide ((1048576:Int)<(s.length:Int))=false:=decide_eq_false (by omega)
 have e1:decide ((s.length:Int)>1048576)=false:=decide_eq_false (by omega)
 unfold Zht at q1
 unfold ZcT
 cases h:Zel s with
 |none =>
  rw[h]at q1
  simp only[Zgy]at q1
  refine Z09 follows Z0a hO Tryz.func17 rfl ?_
  repeat' ((conv=>whnf);first|with_reducible refine exI (q1 _) ?_|refine stp ?_|with_reducible apply Z01<;>intro h)
  all_goals rfl
 |some p =>
  obtain⟨⟨ini,thr,frm,ord⟩,r⟩:=p
  rw[h]at q1
  simp only at q1
  cases r with
  |nil =>
   simp only
   refine Z09 follows Z0a hO Tryz.func17 rfl ?_
   repeat' ((conv=>whnf);first|with_reducible refine exI (q1 _) ?_|refine stp ?_|with_reducible apply Z01<;>intro h)
   all_goals rfl
  |cons c r =>
   simp only
   refine Z09 follows Z0a hO Tryz.func17 rfl ?_
   repeat' ((conv=>whnf);first|with_reducible refine exI (q1 _) ?_|refine stp ?_|with_reducible apply Z01<;>intro h)
   all_goals rfl
end
section
def grV:List DGr->AV
 |[]=>.nslice
 |g::l=>.slice 0 0 (l.length+1) (l.length+1) 4
def grB:List DGr->Z00
 |[]=>[]
 |g::l=>[⟨true,0,0,.cells (Z07 grC (g::l)) 33⟩]
def grF:List DGr->AV
 |[]=>.nslice
 |g::l=>.rs (l.length+1) 4 (Z07 grC (g::l))
def Zbk(s:List UInt8):AV:=match Z9i (s.length+1) s [] with
 |none=>.tuple [.nslice,.int .i64 11]
 |some l=>.tuple [rsG l,.int .i64 0]
def ZkW:Option (List DGr)->AV
 |none=>.tuple [.nslice,.int .i64 11]
 |some l=>.tuple [grF l,.int .i64 0]
theorem apG:ZeI Y00 22 22=some (33,4,96):=by kernel_rfl
theorem Z5N:∀l:List DGr,(Z07 grC l).all one=true
 |[]=>rfl
 |g::l=>by
  rw[Z07,List.all_append,Z5N l];rfl
theorem Z6J:∀l:List DGr,refsL (Z07 grC l) []=[]
 |[]=>rfl
 |g::l=>Z6J l
theorem Z4I(l:List DGr):(Z07 grC l).length=l.length*4:=Z0Y (k:=4) (λ_=>rfl) l
structure AlI (RR:Option (List DGr)) (t:List DGr×List UInt8):Prop where
 on:Z9i (t.2.length+1) t.2 t.1=RR
 few:t.1.length+t.2.length<=1048576
theorem ZaV:∀(n m:Nat)(s:List UInt8)(a:List DGr),s.length<=1048576->s.length<n->s.length<m->Z9i n s a=Z9i m s a
 |n+1,m+1,s,a,hs,h1,h2=>by
  simp only[Z9i]
  split
  ·rfl
  · cases h:Zel s with
    |none=>rfl
    |some p =>
     obtain⟨g,r⟩:=p
     obtain⟨b1,b2,b3⟩:=Z8O hs h
     have hp:0<(Z0y g).length:=Y0l.2 (Z46 g)
     have hlen:s.length=(Z0y g).length+r.length:=by rw[b3,Y05]
     simp only
     exact ZaV n m r (a++[g]) (by omega) (by omega) (by omega)
 |0,_,s,_,_,h1,_=>by omega
 |_+1,0,s,_,_,_,h2=>by omega
theorem Z8Y:∀l:List DGr,(Z07 grC l).all Ziu=true
 |[]=>rfl
 |g::l=>by
  rw[Z07,List.all_append,Z8Y l];rfl
theorem ZmB(s:List UInt8)(hs:s.length<=1048576):ValOK Y00 runLives.gl 10 [.str s] (Zbk s):=by
 refine ValOK.less (r:=ZkW (Z9i (s.length+1) s [])) ?_ λsn v e=>?_
 rotate_left
 · unfold Zbk
   cases h:Z9i (s.length+1) s [] with
   |none=>rw[h]at e;exact e
   |some l =>
    rw[h]at e
    cases l with
    |nil =>
     simp only[ZkW,grF,VR]at e⊢
     obtain⟨d,rfl,e⟩:=e
     exact⟨d,rfl,wkVL_LR [.nslice,.int .i64 0] [rsG [],.int .i64 0] _ (by simp[wkVL,wkV,veq,rsG,Z07]) e⟩
    |cons g l=>exact e
 obtain⟨RR,hRR⟩:∃R,R=Z9i (s.length+1) s []:=⟨_,rfl⟩
 rw[<- hRR]
 obtain⟨O,hO,p1,-⟩:=fams (P:=Y00) (gl:=runLives.gl) [{ I:=List UInt8,f:=24,G:=λx=>x.length<=1048576,A:=λx=>[.str x],R:=λx=>Zht x,body:=(by kernel_rfl),inj:=(λi j _ _ h=>congrArg Zht (by simpa using h)),ok:=(λx hx=>⟨rfl,Zj2 x hx⟩) }] rfl
 have q1:∀s,s.length<=1048576->∀H,Z02 Y00 O H 24 [.str s]=some (Zht s,H):=p1
 clear p1
 have e0:decide ((1048576:Int)<(s.length:Int))=false:=decide_eq_false (by omega)
 have e1:decide ((s.length:Int)>1048576)=false:=decide_eq_false (by omega)
 refine Z09 follows Z0a hO Tryz.func10 rfl ?_
 repeat' ((conv=>whnf);first|refine stp ?_|with_reducible apply Z01<;>intro h)
 conv=>whnf
 refine⟨List DGr×List UInt8,(λt=>AlI RR t),(λt=>[(0,.str t.2),(4,grV t.1)]),(λt=>grB t.1),(λt=>t.2.length),⟨([],s),⟨hRR.symm,by simpa using hs⟩,FgL.mk0 rfl ?_⟩,?_⟩
 ·exact wks
 clear hRR e0 e1 hs
 rintro⟨a,r⟩ ⟨hon,hfew⟩
 dsimp only at hon hfew⊢
 cases r with
 |nil =>
  have hR:RR=some a:=by rw[<- hon];simp[Z9i]
  rw[hR]
  have b0:(!(([]:List UInt8)==({ data:=#[] }:ByteArray).data.toList))=false:=rfl
  cases a with
  |nil =>
   simp only[grV,grB]
   repeat' ((conv=>whnf);first|refine stp ?_|with_reducible apply Z01<;>intro h)
   all_goals rfl
  |cons g l =>
   simp only[grV,grB]
   have hY:=Z4I (g::l)
   have hYf:=Z8Y (g::l)
   have eR:ZkW (some (g::l)) = .tuple [.rs (l.length+1) 4 (Z07 grC (g::l)),.int .i64 0]:=rfl
   rw[eR]
   generalize Z07 grC (g::l)=Y at *
   repeat' ((conv=>whnf);first|refine stp ?_|with_reducible apply Z01<;>intro h)
   all_goals conv=>whnf
   have hz:frz [⟨true,0,0,.cells Y 33⟩] 29 (.slice 0 0 (l.length+1) (l.length+1) 4)=some (.rs (l.length+1) 4 Y):=Z8j (n:=27) (b:=0) rfl hY hYf
   refine⟨_,?_,rfl⟩
   show (match Z1n (frz _ 29) [_,_] with|some l=>some (AV.tuple l)|none=>none)=_
   simp only[Z1n,hz]
   rfl
 |cons c r =>
  have b0:(!((c::r)==({ data:=#[] }:ByteArray).data.toList))=true:=rfl
  have q:=q1 (c::r) (by omega)
  unfold Zht at q
  have hon':=hon
  simp only[Z9i]at hon'
  rw[if_neg (by simp)]at hon'
  cases h:Zel (c::r) with
  |none =>
   rw[h]at q hon'
   simp only at hon'
   rw[<- hon']
   simp only[Zgy]at q
   cases a with
   |nil =>
    simp only[grV,grB]
    repeat' ((conv=>whnf);first|with_reducible refine exI (q _) ?_|refine stp ?_|with_reducible apply Z01<;>intro h)
    all_goals rfl
   |cons g l =>
    simp only[grV,grB]
    generalize Z07 grC (g::l)=Y at *
    repeat' ((conv=>whnf);first|with_reducible refine exI (q _) ?_|refine stp ?_|with_reducible apply Z01<;>intro h)
    all_goals rfl
  |some p =>
   obtain⟨g1,r1⟩:=p
   rw[h]at q hon'
   simp only at q hon'
   obtain⟨b1,b2,b3⟩:=Z8O (by omega) h
   have hp:0<(Z0y g1).length:=Y0l.2 (Z46 g1)
   have hlen:(c::r).length=(Z0y g1).length+r1.length:=by rw[b3,Y05]
   have hI:AlI RR (a++[g1],r1):=⟨by rw[<- hon'];exact ZaV _ _ _ _ (show r1.length<=_ by omega) (show r1.length<r1.length+1 by omega) (show r1.length<(c::r).length by omega),by show (a++[g1]).length+r1.length<=_;simp only[Y05,Y02,Y03]at hfew⊢;simp only[Y02]at hlen;omega⟩
   have hmu:r1.length<(c::r).length:=by omega
   have hal:a.length<=1048576:=by simp only[Y02]at hfew;omega
   clear hon hon' hfew b3
   obtain⟨i1,t1,f1,o1⟩:=g1
   cases a with
   |nil =>
    simp only[grV,grB]
    repeat' ((conv=>whnf);first|with_reducible refine exI (q _) ?_|refine stp ?_|with_reducible apply Z01<;>intro h)
    conv=>whnf
    refine⟨([]++[⟨i1,t1,f1,o1⟩],r1),hI,hmu,?_⟩
    (try dsimp only)
    simp only[Y0a,grV,grB]
    refine FgL.mk [2] rfl ?_ ⟨⟨rfl,rfl,rfl,rfl,BodyGe.pre (rest:=[]) rfl (Z6J [_])⟩,trivial⟩ rfl
    refine stw ?_
    refine Y09 (Wk.slice rfl rfl (by simp) (Nat.le_refl _) (by simp) rfl) ?_
    exact wks
   |cons g l =>
    simp only[grV,grB]
    have hY:=Z4I (g::l)
    have hY1:=Z5N (g::l)
    have hYa:=Z3r grC (g::l) [⟨i1,t1,f1,o1⟩]
    simp only[Y0b]at hYa
    generalize Z07 grC (g::l)=Y at *
    repeat' ((conv=>whnf);first|with_reducible refine exI (q _) ?_|refine exI (ZdJ apG (x:=.slice 2 0 1 1 4) (n:=1) (xs:=grC ⟨i1,t1,f1,o1⟩) (cs:=Y) (len:=l.length+1) rfl rfl rfl hY rfl (by decide) (by simp only[Y02]at hal;omega)) ?_|refine stp ?_|with_reducible apply Z01<;>intro h)
    conv=>whnf
    refine⟨(g::l++[⟨i1,t1,f1,o1⟩],r1),hI,hmu,?_⟩
    (try dsimp only)
    simp only[Y0b,grV,grB]
    refine FgL.mk [3] rfl ?_ ⟨⟨rfl,rfl,rfl,rfl,BodyGe.pre (rest:=[]) (by rw[hYa,Y0d];rfl) (Z6J (g::(l++[_])))⟩,trivial⟩ rfl
    refine stw ?_
    refine Y09 (Wk.slice rfl rfl (by simp) (Nat.le_refl _) (by simp) rfl) ?_
    exact wks
end
section
def lns:List (List UInt8)->List UInt8
 |[]=>[]
 |x::L=>x++10::lns L
theorem ZbH:∀a b:List (List UInt8),lns (a++b)=lns a++lns b
 |[],b=>rfl
 |x::a,b=>by simp only[Y0b,lns,ZbH a b,Y0c]
structure LnE (x:List UInt8):Prop where
 l:(10:UInt8) ∉ x
 ne:x≠[]
 rd:(Z06 x).2=true
structure LnW (x:List UInt8):Prop extends LnE x where
 d:x.getLast? ≠ some 100
def LnsE(s:List UInt8):Prop:=∃L,s=lns L/\∀x∈L,LnE x
def LnsW(s:List UInt8):Prop:=∃L,s=lns L/\∀x∈L,LnW x
theorem LnsW.e{s:List UInt8}(h:LnsW s):LnsE s:=by
 obtain⟨L,rfl,h⟩:=h
 exact⟨L,rfl,λx hx=>(h x hx).toLnE⟩
theorem LnsE.nil:LnsE []:=⟨[],rfl,by simp⟩
theorem LnsW.nil:LnsW []:=⟨[],rfl,by simp⟩
theorem LnsE.app{s t:List UInt8}(h:LnsE s)(h':LnsE t):LnsE (s++t):=by
 obtain⟨L,rfl,h⟩:=h
 obtain⟨M,rfl,h'⟩:=h'
 refine⟨L++M,(ZbH L M).symm,λx hx=>?_⟩
 rcases Y07.1 hx with hx|hx
 ·exact h x hx
 ·exact h' x hx
theorem LnsW.app{s t:List UInt8}(h:LnsW s)(h':LnsW t):LnsW (s++t):=by
 obtain⟨L,rfl,h⟩:=h
 obtain⟨M,rfl,h'⟩:=h'
 refine⟨L++M,(ZbH L M).symm,λx hx=>?_⟩
 rcases Y07.1 hx with hx|hx
 ·exact h x hx
 ·exact h' x hx
theorem Zg0(ws:List (List UInt8)):lnJ ws=lns [Z0P ws]:=rfl
theorem LnsE.one{w:List UInt8}{l:List (List UInt8)}(h:∀v∈w::l,Wd v)(hr:(Z06 (Z0P (w::l))).2=true):LnsE (lnJ (w::l)):=by
 refine⟨[Z0P (w::l)],Zg0 _,λx hx=>?_⟩
 rw[Y0f.1 hx]
 exact⟨Z8T _ λv hv=>(h v hv).l,Z5j (h w (by simp)).ne,hr⟩
theorem Zg7(w:List UInt8)(l:List (List UInt8))(v:List UInt8)(hv:v≠[]):(Z0P (w::(l++[v]))).getLast? = v.getLast?:=by
 rw[Z0M,Z1f]
 simp only[Z3f,Y0d]
 rw[show w++(Z3f l++32::v)=(w++(Z3f l++[32]))++v by simp]
 rw[List.getLast?_append]
 cases h:v.getLast? with
 |none=>exact absurd (List.getLast?_eq_none_iff.1 h) hv
 |some b=>rfl
theorem LnsW.one{w v:List UInt8}{l:List (List UInt8)}(h:∀u∈w::(l++[v]),Wd u)(hd:(100:UInt8) ∉ v)(hr:(Z06 (Z0P (w::(l++[v])))).2=true):LnsW (lnJ (w::(l++[v]))):=by
 refine⟨[Z0P (w::(l++[v]))],Zg0 _,λx hx=>?_⟩
 rw[Y0f.1 hx]
 refine⟨⟨Z8T _ λv hv=>(h v hv).l,Z5j (h w (by simp)).ne,hr⟩,?_⟩
 rw[Zg7 _ _ _ (h v (by simp)).ne]
 intro e
 exact hd (List.mem_of_getLast? e)
theorem Znm:¬Zak 100:=by unfold Zak;decide
theorem Z5I(n:Int):(100:UInt8) ∉ Z0g n:=Z4y Znm (by decide)
theorem Zjc(d:DId):(100:UInt8) ∉ idT d:=by
 unfold idT;simp only[Y07,Y01,not_or];exact⟨Z5I _,by decide,Z5I _⟩
theorem ZjY{k:Int}(h:1<=k)(h':k<=6):(100:UInt8) ∉ Z3D k:=by
 have:k=1\/k=2\/k=3\/k=4\/k=5\/k=6:=by omega
 rcases this with rfl|rfl|rfl|rfl|rfl|rfl<;>decide
theorem Zn5{n:Nat}(h:n<=999):LnsW (Z0s [Z0j,Z0g n]):=by
 rw[Zd2]
 exact LnsW.one (l:=[]) (Zcv _) (Z5I _) (by show (Z06 (Z0P [Z0j,Z0g n])).2=true;rw[ZcN (by omega) (by omega)])
theorem ZfY:∀(vs:List Int)(x:Nat),x+vs.length<=1000->(∀v∈vs,rgI v)->LnsW (Z2o x vs)
 |[],x,_,_=>LnsW.nil
 |v::vs,x,h,hv=>by
  rw[Y02]at h
  simp only[Z2o]
  refine LnsW.app ?_ (ZfY vs (x+1) (by omega) λw hw=>hv w (by simp[hw]))
  rw[Zae]
  exact LnsW.one (l:=[Z0g x]) (Zbn _ _) (Z5I _) (by show (Z06 (Z0P [Z23,Z0g x,Z0g v])).2=true;rw[Z87 (by omega) (by omega) (hv v (by simp))])
theorem ZfX:∀(os:List (List DId))(x:Nat),x+os.length<=1000->(∀o∈os,∀d∈o,smD d)->LnsW (Z1Y x os)
 |[],x,_,_=>LnsW.nil
 |o::os,x,h,hv=>by
  rw[Y02]at h
  simp only[Z1Y]
  refine LnsW.app ?_ (ZfX os (x+1) (by omega) λw hw=>hv w (by simp[hw]))
  rw[Zad]
  have hr:=Z9V (n:=(x:Int)) (by omega) (by omega) (hv o (by simp))
  have hw:=Zbm x o
  rcases List.eq_nil_or_concat o with rfl|⟨o',d,rfl⟩
  ·exact LnsW.one (l:=[]) hw (Z5I _) (by rw[show Z0d::([]++[Z0g (x:Int)])=Z0d::Z0g x::([]:List DId).map idT from rfl,hr])
  · have e:Z0d::Z0g x::(o'++[d]).map idT=Z0d::((Z0g x::o'.map idT)++[idT d]):=by simp
    rw[List.concat_eq_append]at *
    rw[e]at hr hw⊢
    exact LnsW.one hw (Zjc _) (by rw[hr])
theorem Ziy(d:DId){e:DEv}{f:DId}(ho:1<=e.o/\e.o<=6):∃l v,evL d e f=Z0k::(l++[v])/\(100:UInt8) ∉ v:=by
 unfold evL evW frW
 by_cases hr:e.rd=true
 · rw[if_pos hr,if_pos hr]
   refine⟨idT d::(Z1E e.k::((if e.k=4 then [] else [120::Z0g e.l])++(Z3D e.o::([Z0g e.r]++if e.wr then [Z0g e.w] else []))))++[Z31],idT f,by simp,Zjc f⟩
 · rw[if_neg hr,if_neg hr]
   by_cases hw:e.wr=true
   · rw[if_pos hw]
     exact⟨idT d::(Z1E e.k::((if e.k=4 then [] else [120::Z0g e.l])++[Z3D e.o])),Z0g e.w,by simp,Z5I _⟩
   · rw[if_neg hw]
     exact⟨idT d::(Z1E e.k::(if e.k=4 then [] else [120::Z0g e.l])),Z3D e.o,by simp,ZjY ho.1 ho.2⟩
theorem Zj7{G:DGr}(h6:G.ini.length<=6)(h4:G.thr.length<=4)(h14:∀l∈G.thr,l.length<=14){t:Nat}(ht:t<=900):∀(es:List DEv)(fs:List DId)(i:Nat),i+es.length<=1000->(∀e∈es,okV e)->Z1F G t i es fs=true->LnsW (Z3I t i es fs)
 |[],fs,i,_,_,_=>by simp only[Z3I];exact LnsW.nil
 |e::es,[],i,_,_,h=>by simp only[Z3I];exact LnsW.nil
 |e::es,d::fs,i,hn,ho,h=>by
  rw[Y02]at hn
  simp only[Z1F,Y08]at h
  simp only[Z3I]
  refine LnsW.app ?_ (Zj7 h6 h4 h14 ht es fs (i+1) (by omega) (λw hw=>ho w (by simp[hw])) h.2)
  have he:=Zjh h6 h4 h14 (ho e (by simp)) h.1.1 h.1.2
  rw[Zd3 he.k he.o]
  have hr:=ZcO (d:=⟨(t:Int)+1,i⟩) ⟨⟨by show (0:Int)<=(t:Int)+1;omega,by show (t:Int)+1<=999;omega⟩,⟨by show (0:Int)<=(i:Int);omega,by show (i:Int)<=999;omega⟩⟩ he
  have hw:=Zf5 (d:=⟨(t:Int)+1,i⟩) (f:=d) he.k he.o
  obtain⟨l,v,e1,e2⟩:=Ziy ⟨(t:Int)+1,i⟩ (f:=d) he.o
  rw[e1]at hr hw⊢
  exact LnsW.one hw e2 (by rw[hr])
theorem ZfW{G:DGr}(h6:G.ini.length<=6)(h4:G.thr.length<=4)(h14:∀l∈G.thr,l.length<=14):∀(ls:List (List DEv))(fs:List (List DId))(t:Nat),t+ls.length<=900->(∀l∈ls,l.length<=14/\∀e∈l,okV e)->Z0V G t ls fs=true->LnsW (Z1q t ls fs)
 |[],fs,t,_,_,_=>by simp only[Z1q];exact LnsW.nil
 |l::ls,[],t,_,_,_=>by simp only[Z1q];exact LnsW.nil
 |l::ls,f::fs,t,hn,ho,h=>by
  rw[Y02]at hn
  simp only[Z0V,Y08]at h
  simp only[Z1q]
  have h0:=ho l (by simp)
  exact LnsW.app (Zj7 h6 h4 h14 (by omega) l f 0 (by omega) h0.2 h.1) (ZfW h6 h4 h14 ls fs (t+1) (by omega) (λw hw=>ho w (by simp[hw])) h.2)
theorem ZlZ:LnsE (Z0s [Z16]):=by
 rw[Zaf]
 exact LnsE.one Zbo (by rw[Z4a])
theorem ZbI{g:DGr}(h:Rt g):∃A,Z0y g=A++Z0s [Z16]/\LnsW A:=by
 have a1:=h.s1
 have a2:=h.s2
 have a3:=h.ol
 refine⟨Z0s [Z0j,Z0g g.thr.length]++(Z2o 0 g.ini++(Z1q 0 g.thr g.frm++Z1Y 0 g.ord)),by unfold Z0y;simp,?_⟩
 exact LnsW.app (Zn5 (by omega)) (LnsW.app (ZfY _ _ (by omega) h.ok.1.2) (LnsW.app (ZfW a1 a2 h.s4 _ _ _ (by omega) (λl hl=>⟨h.s4 l hl,(h.ok.2.1.2 l hl).2⟩) h.rt) (ZfX _ _ (by omega) h.smO)))
theorem ZfZ:∀l:List DGr,(∀g∈l,okG g/\Z0e g=0)->LnsE (Z0b l)
 |[],_=>LnsE.nil
 |g::l,h=>by
  obtain⟨A,e,hA⟩:=ZbI (Z9P (h g (by simp)).1 (h g (by simp)).2)
  have e2:Z0b (g::l)=Z0y g++Z0b l:=rfl
  rw[e2,e]
  exact LnsE.app (LnsE.app hA.e ZlZ) (ZfZ l λx hx=>h x (by simp[hx]))
theorem Zac:∀(L:List (List UInt8))(n k:Nat),(∀x∈L,LnE x)->((lns L).take k).length<n->Z2a n ((lns L).take k)=((lns L).take k).count 10
 |[],n,k,_,h=>by
  simp only[lns,List.take_nil]
  cases n with
  |zero=>rfl
  |succ n=>rfl
 |x::L,0,k,_,h=>by omega
 |x::L,n+1,k,hL,h=>by
  have hx:=hL x (by simp)
  simp only[lns]at h⊢
  by_cases hk:k<=x.length
  · have e:(x++10::lns L).take k=x.take k:=List.take_append_of_le_length hk
    have h10:(10:UInt8) ∉ x.take k:=λhm=>hx.l (List.mem_of_mem_take hm)
    rw[e,Z2a,Zjs _ _ h10]
    simp only
    rw[Y0m h10]
  · obtain⟨j,rfl⟩:∃j,k=x.length+(j+1):=⟨k-x.length-1,by omega⟩
    have e:(x++10::lns L).take (x.length+(j+1))=x++10::(lns L).take j:=by
     rw[List.take_append]
     rw[List.take_of_length_le (by omega),show x.length+(j+1)-x.length=j+1 by omega,List.take_succ_cons]
    rw[e]at h⊢
    rw[Y05,Y02]at h
    rw[Z2a,ZgN _ _ hx.l]
    simp only
    rw[if_pos hx.rd,Zac L n j (λy hy=>hL y (by simp[hy])) (by omega),List.count_append,List.count_cons_self,Y0m hx.l]
    omega
theorem Z2l{l:List DGr}(h:∀g∈l,okG g/\Z0e g=0)(k n:Nat)(hn:((Z0b l).take k).length<n):Z2a n ((Z0b l).take k)=((Z0b l).take k).count 10:=by
 obtain⟨L,e,hL⟩:=ZfZ l h
 rw[e]at hn⊢
 exact Zac L n k hL hn
end
section
section
variable {gl:Z0w}
theorem Zaj(g:DGr)(hg:okG g):ValOK Y00 gl 18 [g.av,g.av] (.bool true):=by
 obtain⟨O,hO,p1,p2,p3,-⟩:=fams (P:=Y00) (gl:=gl) [
  { I:=List Int,f:=29,G:=λl=>l.length<=Z5A,A:=λl=>[rsI l,rsI l],R:=λ_=>.bool true,body:=(by kernel_rfl),inj:=(λ_ _ _ _ _=>rfl),ok:=(λl hl=>⟨rfl,Zg5 l hl⟩) },
  { I:=List DEv,f:=30,G:=λl=>l.length<=Z5A,A:=λl=>[rsE l,rsE l],R:=λ_=>.bool true,body:=(by kernel_rfl),inj:=(λ_ _ _ _ _=>rfl),ok:=(λl hl=>⟨rfl,Zev l hl⟩) },
  { I:=List DId,f:=31,G:=λl=>l.length<=Z5A,A:=λl=>[rsD l,rsD l],R:=λ_=>.bool true,body:=(by kernel_rfl),inj:=(λ_ _ _ _ _=>rfl),ok:=(λl hl=>⟨rfl,Zkh l hl⟩) }] rfl
 obtain⟨ini,thr,frm,ord⟩:=g
 obtain⟨⟨i1,i2⟩,⟨t1,t2⟩,⟨f1,f2⟩,⟨o1,o2⟩⟩:=hg
 dsimp only at i1 i2 t1 t2 f1 f2 o1 o2
 have q1:∀H,Z02 Y00 O H 29 [rsI ini,rsI ini]=some (.bool true,H):=p1 ini i1
 have q2:∀i (hi:i<thr.length),∀H,Z02 Y00 O H 30 [rsE thr[i],rsE thr[i]]=some (.bool true,H):=λi hi=>p2 _ (t2 _ (Y0g hi)).1
 have q3:∀i (hi:i<frm.length),∀H,Z02 Y00 O H 31 [rsD frm[i],rsD frm[i]]=some (.bool true,H):=λi hi=>p3 _ (f2 _ (Y0g hi)).1
 have q4:∀i (hi:i<ord.length),∀H,Z02 Y00 O H 31 [rsD ord[i],rsD ord[i]]=some (.bool true,H):=λi hi=>p3 _ (o2 _ (Y0g hi)).1
 have ha:=λi (hi:i<thr.length)=>Z0f (f:=λx=>[rsE x]) (k:=1) (λ_=>rfl) thr i hi
 have hb:=λi (hi:i<frm.length)=>Z0f (f:=λx=>[rsD x]) (k:=1) (λ_=>rfl) frm i hi
 have hc:=λi (hi:i<ord.length)=>Z0f (f:=λx=>[rsD x]) (k:=1) (λ_=>rfl) ord i hi
 clear p1 p2 p3
 simp only[DGr.av,grC,rsI,Z4T,Z58]at q1⊢
 have t1':thr.length<=9223372036854775807:=t1
 have f1':frm.length<=9223372036854775807:=f1
 have o1':ord.length<=9223372036854775807:=o1
 generalize Z07 Z2b ini=X at *
 generalize Z07 (λx=>[rsE x]) thr=A at *
 generalize Z07 (λx=>[rsD x]) frm=B at *
 generalize Z07 (λx=>[rsD x]) ord=C at *
 refine Z09 follows Z0a hO Tryz.func18 rfl ?_
 have e1:((thr.length:Int) != (thr.length:Int))=false:=Z3B (b:=true) (by simp)
 have e2:((frm.length:Int) != (frm.length:Int))=false:=Z3B (b:=true) (by simp)
 have e3:((ord.length:Int) != (ord.length:Int))=false:=Z3B (b:=true) (by simp)
 repeat' ((conv=>whnf);first|with_reducible refine exI (q1 _) ?_|refine stp ?_|with_reducible apply Z01<;>intro h)
 conv=>whnf
 refine⟨Nat,(λi=>i<=thr.length),(λi=>[(2,.ptr 0 0),(3,.ptr 1 0),(5,.int .i64 i)]),(λ_=>[⟨true,0,0,.cells [.rs ini.length 1 X,.rs thr.length 1 A,.rs frm.length 1 B,.rs ord.length 1 C] 33⟩,⟨true,1,0,.cells [.rs ini.length 1 X,.rs thr.length 1 A,.rs frm.length 1 B,.rs ord.length 1 C] 33⟩]),(λi=>thr.length-i),⟨0,Nat.zero_le _,FgL.mk [0,1] rfl ?_ ⟨hbp,hbp,trivial⟩ rfl⟩,?_⟩
 ·exact⟨Y04 rfl rfl,Y04 rfl rfl,Wk.int rfl,trivial⟩
 intro i hi
 dsimp only
 by_cases hlt:i<thr.length
 · have e4:decide ((i:Int)<(thr.length:Int))=true:=by simpa using hlt
   have hx:=ha i hlt
   have q:=q2 i hlt
   generalize thr[i]=b at *
   simp only[rsE]at hx q
   repeat' ((conv=>whnf);first|with_reducible refine exI (q _) ?_|(refine Z0c (q _) ?_)|(with_reducible refine ixJ i rfl ?_ ?_;focus omega)|refine exI hx ?_|refine stp ?_|with_reducible apply Z01<;>intro h)
   conv=>whnf
   refine⟨i+1,hlt,by show thr.length-(i+1)<thr.length-i;omega,FgL.mk [0,1] rfl ?_ ⟨hbp,hbp,trivial⟩ rfl⟩
   exact⟨Y04 rfl rfl,Y04 rfl rfl,Wk.int rfl,trivial⟩
 have e4:decide ((i:Int)<(thr.length:Int))=false:=by simpa using hlt
 repeat' ((conv=>whnf);first|refine stp ?_|with_reducible apply Z01<;>intro h)
 conv=>whnf
 refine⟨Nat,(λi=>i<=frm.length),(λi=>[(2,.ptr 0 0),(3,.ptr 1 0),(6,.int .i64 i)]),(λ_=>[⟨true,0,0,.cells [.rs ini.length 1 X,.rs thr.length 1 A,.rs frm.length 1 B,.rs ord.length 1 C] 33⟩,⟨true,1,0,.cells [.rs ini.length 1 X,.rs thr.length 1 A,.rs frm.length 1 B,.rs ord.length 1 C] 33⟩]),(λi=>frm.length-i),⟨0,Nat.zero_le _,FgL.mk [0,1] rfl ?_ ⟨hbp,hbp,trivial⟩ rfl⟩,?_⟩
 ·exact⟨Y04 rfl rfl,Y04 rfl rfl,Wk.int rfl,trivial⟩
 intro i hi
 dsimp only
 by_cases hlt:i<frm.length
 · have e4:decide ((i:Int)<(frm.length:Int))=true:=by simpa using hlt
   have hx:=hb i hlt
   have q:=q3 i hlt
   generalize frm[i]=b at *
   simp only[rsD]at hx q
   repeat' ((conv=>whnf);first|with_reducible refine exI (q _) ?_|(refine Z0c (q _) ?_)|(with_reducible refine ixJ i rfl ?_ ?_;focus omega)|refine exI hx ?_|refine stp ?_|with_reducible apply Z01<;>intro h)
   conv=>whnf
   refine⟨i+1,hlt,by show frm.length-(i+1)<frm.length-i;omega,FgL.mk [0,1] rfl ?_ ⟨hbp,hbp,trivial⟩ rfl⟩
   exact⟨Y04 rfl rfl,Y04 rfl rfl,Wk.int rfl,trivial⟩
 have e4:decide ((i:Int)<(frm.length:Int))=false:=by simpa using hlt
 repeat' ((conv=>whnf);first|refine stp ?_|with_reducible apply Z01<;>intro h)
 conv=>whnf
 refine⟨Nat,(λi=>i<=ord.length),(λi=>[(2,.ptr 0 0),(3,.ptr 1 0),(7,.int .i64 i)]),(λ_=>[⟨true,0,0,.cells [.rs ini.length 1 X,.rs thr.length 1 A,.rs frm.length 1 B,.rs ord.length 1 C] 33⟩,⟨true,1,0,.cells [.rs ini.length 1 X,.rs thr.length 1 A,.rs frm.length 1 B,.rs ord.length 1 C] 33⟩]),(λi=>ord.length-i),⟨0,Nat.zero_le _,FgL.mk [0,1] rfl ?_ ⟨hbp,hbp,trivial⟩ rfl⟩,?_⟩
 ·exact⟨Y04 rfl rfl,Y04 rfl rfl,Wk.int rfl,trivial⟩
 intro i hi
 dsimp only
 by_cases hlt:i<ord.length
 · have e4:decide ((i:Int)<(ord.length:Int))=true:=by simpa using hlt
   have hx:=hc i hlt
   have q:=q4 i hlt
   generalize ord[i]=b at *
   simp only[rsD]at hx q
   repeat' ((conv=>whnf);first|with_reducible refine exI (q _) ?_|(refine Z0c (q _) ?_)|(with_reducible refine ixJ i rfl ?_ ?_;focus omega)|refine exI hx ?_|refine stp ?_|with_reducible apply Z01<;>intro h)
   conv=>whnf
   refine⟨i+1,hlt,by show ord.length-(i+1)<ord.length-i;omega,FgL.mk [0,1] rfl ?_ ⟨hbp,hbp,trivial⟩ rfl⟩
   exact⟨Y04 rfl rfl,Y04 rfl rfl,Wk.int rfl,trivial⟩
 have e4:decide ((i:Int)<(ord.length:Int))=false:=by simpa using hlt
 repeat' ((conv=>whnf);first|refine stp ?_|with_reducible apply Z01<;>intro h)
 all_goals rfl
end
end
section
def smG:DGr:=⟨[0],[[⟨2,0,2,0,1⟩],[⟨1,0,3,1,0⟩]],[[⟨0,0⟩],[⟨1,0⟩]],[[⟨1,0⟩]]⟩
theorem ZcI:Z0e smG=0:=by decide
theorem dgS:Z4s 0=[48]/\Z4s 1=[49]/\Z4s 2=[50]:=⟨Z7v (by decide),Z7v (by decide),Z7v (by decide)⟩
def pageT:List UInt8:=[103,114,97,112,104,32,50,10,108,111,99,32,48,32,48,10,101,118,101,110,116,32,49,46,48,32,119,114,105,116,101,32,120,48,32,114,108,120,32,49,10,101,118,101,110,116,32,50,46,48,32,114,101,97,100,32,120,48,32,97,99,113,32,49,32,102,114,111,109,32,49,46,48,10,111,114,100,101,114,32,48,32,49,46,48,10,101,110,100,10]
theorem Zbx:Z0y smG=pageT:=by
 obtain⟨d0,d1,d2⟩:=dgS
 simp[Z0y,smG,Z2o,Z1q,Z3I,Z1Y,Z0s,Z0v,Z0P,idT,evT,Z2f,Z0g,d0,d1,d2,Z1E,Z3D,DEv.rd,DEv.wr,Z0j,Z23,Z0k,Z0d,Z16,Z31,pageT]
theorem ZcJ:okG smG:=by
 simp[okG,smG,Zn3,Zl8,Zl9,okD,okV,Z5A,rgI]
theorem Zlx:Zel pageT=some (smG,[]):=by
 have:=ZcX ZcJ ZcI []
 rw[Y0d,Zbx]at this
 exact this
theorem ZhN:Z17 pageT=6:=by
 have h:=Z2l (l:=[smG]) (by intro g hg;rw[Y0f.1 hg];exact⟨ZcJ,ZcI⟩) 90 (pageT.length+1)
 have e:Z0b [smG]=pageT:=by
  show Z0y smG++[]=_
  rw[Y0d,Zbx]
 rw[e]at h
 have e2:pageT.take 90=pageT:=by decide
 rw[e2]at h
 unfold Z17
 rw[h (by omega)]
 decide
theorem Zfi{gl:Z0w}:ValOK Y00 gl 16 [.int .i64 2] smG.av:=by
 refine Z09 follows Z0a Z05 Tryz.func16 rfl ?_
 repeat' ((conv=>whnf);first|refine stp ?_|with_reducible apply Z01<;>intro h)
 all_goals rfl
theorem ZhM:Z5B smG = .tuple [.str pageT,.int .i64 0]:=by
 unfold Z5B Ze2 Ze3
 rw[if_pos ZcI,if_pos ZcI,Zbx]
theorem Zfj:ZcT pageT = .tuple [smG.av,.int .i64 0]:=by
 unfold ZcT
 rw[Zlx]
theorem Zm0:ValOK Y00 runLives.gl 6 [] (.bool true):=by
 obtain⟨O,hO,p1,p2,p3,p4,p5,-⟩:=fams (P:=Y00) (gl:=runLives.gl) [
  { I:=Unit,f:=16,G:=λ_=>True,A:=λ_=>[.int .i64 2],R:=λ_=>smG.av,body:=(by kernel_rfl),inj:=(λ_ _ _ _ _=>rfl),ok:=(λ_ _=>⟨rfl,Zfi⟩) },
  { I:=Unit,f:=15,G:=λ_=>True,A:=λ_=>[smG.av],R:=λ_=>.tuple [.str pageT,.int .i64 0],body:=(by kernel_rfl),inj:=(λ_ _ _ _ _=>rfl),ok:=(λ_ _=>⟨rfl,by rw[<- ZhM];exact Zhg smG ZcJ⟩) },
  { I:=Unit,f:=17,G:=λ_=>True,A:=λ_=>[.str pageT],R:=λ_=>.tuple [smG.av,.int .i64 0],body:=(by kernel_rfl),inj:=(λ_ _ _ _ _=>rfl),ok:=(λ_ _=>⟨rfl,by rw[<- Zfj];exact ZhU pageT (by decide)⟩) },
  { I:=Unit,f:=18,G:=λ_=>True,A:=λ_=>[smG.av,smG.av],R:=λ_=>.bool true,body:=(by kernel_rfl),inj:=(λ_ _ _ _ _=>rfl),ok:=(λ_ _=>⟨rfl,Zaj smG ZcJ⟩) },
  { I:=Unit,f:=13,G:=λ_=>True,A:=λ_=>[.str pageT],R:=λ_=>.int .i64 6,body:=(by kernel_rfl),inj:=(λ_ _ _ _ _=>rfl),ok:=(λ_ _=>⟨rfl,by have:=Zab pageT (by decide);rw[ZhN]at this;exact this⟩) }] rfl
 have q1:∀H,Z02 Y00 O H 16 [.int .i64 2]=some (smG.av,H):=p1 () trivial
 have q2:∀H,Z02 Y00 O H 15 [smG.av]=some (.tuple [.str pageT,.int .i64 0],H):=p2 () trivial
 have q3:∀H,Z02 Y00 O H 17 [.str pageT]=some (.tuple [smG.av,.int .i64 0],H):=p3 () trivial
 have q4:∀H,Z02 Y00 O H 18 [smG.av,smG.av]=some (.bool true,H):=p4 () trivial
 have q5:∀H,Z02 Y00 O H 13 [.str pageT]=some (.int .i64 6,H):=p5 () trivial
 clear p1 p2 p3 p4 p5
 refine Z09 follows Z0a hO Tryz.func6 rfl ?_
 repeat' ((conv=>whnf);first|with_reducible refine exI (q1 _) ?_|refine exI (q2 _) ?_|refine exI (q3 _) ?_|refine exI (q4 _) ?_|refine exI (q5 _) ?_|refine stp ?_|with_reducible apply Z01<;>intro h)
 all_goals rfl
end
section
def KN(l:List (DId×Int)):Prop:=(l.map (·.1)).Nodup
end
section
theorem ZbD{a b:List DGr}(h:rsG a=rsG b):a=b:=by
 simp only[rsG,AV.rs.injEq]at h
 exact Z3q (k:=4) (λ_=>rfl) Zge h.1 h.2.2
theorem Z2j(l:List DGr):Z28 l=true ↔ ∀g∈l,Z0e g=0:=by
 unfold Z28
 simp[List.all_eq_true]
theorem Z2p:∀l:List DGr,(∀g∈l,okG g/\Z0e g=0)->(Z0b l).length<=20000*l.length
 |[],_=>Nat.le_refl _
 |g::l,h=>by
  have h1:=Z2p l λx hx=>h x (by simp[hx])
  have h2:=Z6V (Z9P (h g (by simp)).1 (h g (by simp)).2)
  have e:Z0b (g::l)=Z0y g++Z0b l:=rfl
  rw[e,Y05,Y02]
  omega
theorem Z0G{l:List DGr}(h:Z28 l=true):Z4r l = .tuple [.str (Z0b l),.int .i64 0]:=by
 unfold Z4r;rw[if_pos h]
theorem Z0H{l:List DGr}(h:Z28 l=false):Z4r l = .tuple [.str [],.int .i64 2]:=by
 unfold Z4r;rw[if_neg (by rw[h];simp)]
section
abbrev fmL:Fam Y00 runLives.gl:={ I:=Unit,f:=6,G:=λ_=>True,A:=λ_=>[],R:=λ_=>.bool true,body:=(by kernel_rfl),inj:=(λ_ _ _ _ _=>rfl),ok:=(λ_ _=>⟨rfl,Zm0⟩) }
abbrev fmA:Fam Y00 runLives.gl:={ I:=List UInt8,f:=10,G:=λs=>s.length<=1048576,A:=λs=>[.str s],R:=λs=>Zbk s,body:=(by kernel_rfl),inj:=(λi j _ _ h=>congrArg Zbk (by simpa using h)),ok:=(λs h=>⟨rfl,ZmB s h⟩) }
end
end
end Go.Proofs.YtpcpdlfhcahjgaaGreatDoor.lex

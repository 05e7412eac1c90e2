/-
  Texts of this proof, one behind the other (part 16).
-/
import Derived.Test.YtpcpdlfhcahjgaaGreatDoorXd13
import Derived.Test.YtpcpdlfhcahjgaaGreatDoorXd14
set_option linter.unusedVariables false
set_option linter.unusedSimpArgs false
set_option maxRecDepth 100000
set_option maxHeartbeats 4000000
open Go.Proofs.Tryz renaming prog → Y00,func3 → Y08,func35 → Y09,func21 → Y0h
open And renaming intro → Y01
open Bool renaming and_eq_true → Y02,true_and → Y04,false_and → Y06,and_false → Y0a,not_false → Y0k
open List renaming getElem_mem → Y03,drop_eq_getElem_cons → Y07,length_cons → Y0b,length_take → Y0c,getElem?_eq_getElem → Y0d,mem_cons → Y0e,length_append → Y0f,drop_length → Y0g,mem_map → Y0i,length_drop → Y0j,map_cons → Y0l,nodup_cons → Y0m,getElem_of_mem → Y0n,filter_cons → Y0o,length_nil → Y0p,getElem?_eq_none → Y0q,contains_iff_mem → Y0r,take_succ_eq_append_getElem → Y0s,take_length → Y0t,mem_eraseIdx_iff_getElem → Y0u
open Nat renaming zero_le → Y05
namespace Go.Proofs.YtpcpdlfhcahjgaaGreatDoor.lex
open Go.Abs Go.RowKit
section
section
variable {gl:Z0w}
theorem ZiW(g:DGr)(hg:okG g)(d:DId)(hd:okD d):ValOK Y00 gl 35 [g.av,.agg (idC d)] (g.evR d):=by
 obtain⟨ini,thr,frm,ord⟩:=g
 obtain⟨⟨i1,i2⟩,⟨t1,t2⟩,⟨f1,f2⟩,⟨o1,o2⟩⟩:=hg
 obtain⟨t,i⟩:=d
 obtain⟨⟨ht1,ht2⟩,⟨hi1,hi2⟩⟩:=hd
 dsimp only at i1 i2 t1 t2 f1 f2 o1 o2 ht1 ht2 hi1 hi2
 have ha:=λi (hi:i<thr.length)=>Z0f (f:=λx=>[rsE x]) (k:=1) (λ_=>rfl) thr i hi
 have hc:=λi (hi:i<ini.length)=>Z0f (f:=Z2b) (k:=1) (λ_=>rfl) ini i hi
 have t1':thr.length<=9223372036854775807:=t1
 have i1':ini.length<=9223372036854775807:=i1
 unfold DGr.evR
 simp only[DGr.av,grC,rsI,Z4T,Z58,idC]
 by_cases c1:t<0
 · have e1:decide (t<0)=true:=decide_eq_true c1
   have e2:(t==0)=false:=by simp;omega
   have hr:(⟨ini,thr,frm,ord⟩:DGr).ev ⟨t,i⟩=none:=by unfold DGr.ev;rw[if_pos (.inl c1)]
   rw[hr]
   refine Z09 follows Z0a Z05 Y09 rfl ?_
   repeat' ((conv=>whnf);first|refine stp ?_|with_reducible apply Z01<;>intro h)
   all_goals rfl
 have e1:decide (t<0)=false:=decide_eq_false c1
 by_cases c3:i<0
 · have e3:decide (i<0)=true:=decide_eq_true c3
   have hr:(⟨ini,thr,frm,ord⟩:DGr).ev ⟨t,i⟩=none:=by unfold DGr.ev;rw[if_pos (.inr c3)]
   rw[hr]
   refine Z09 follows Z0a Z05 Y09 rfl ?_
   repeat' ((conv=>whnf);first|refine stp ?_|with_reducible apply Z01<;>intro h)
   all_goals rfl
 have e3:decide (i<0)=false:=decide_eq_false c3
 obtain⟨tn,rfl⟩:∃n:Nat,t=n:=⟨t.toNat,by omega⟩
 obtain⟨k,rfl⟩:∃n:Nat,i=n:=⟨i.toNat,by omega⟩
 by_cases c0:tn=0
 · subst c0
   have e0:(((0:Nat):Int)==0)=true:=by simp
   have e2:decide (((0:Nat):Int)>(thr.length:Int))=false:=decide_eq_false (by omega)
   have hr:(⟨ini,thr,frm,ord⟩:DGr).ev ⟨((0:Nat):Int),k⟩=(ini[k]?).map λv=>⟨2,k,1,0,v⟩:=by
    unfold DGr.ev
    rw[if_neg (by simp),if_pos (by simp)];simp
   rw[hr]
   by_cases c4:k<ini.length
   · have e4:decide ((k:Int) >= (ini.length:Int))=false:=decide_eq_false (by omega)
     have hx:=hc k c4
     rw[Y0d c4]
     generalize ini[k]=v at *
     generalize Z07 Z2b ini=X at *
     simp only[Z2b]at hx
     refine Z09 follows Z0a Z05 Y09 rfl ?_
     repeat' ((conv=>whnf);first|(with_reducible refine ixJ k rfl ?_ ?_;focus omega)|refine exI hx ?_|refine stp ?_|with_reducible apply Z01<;>intro h)
     all_goals rfl
   · have e4:decide ((k:Int) >= (ini.length:Int))=true:=decide_eq_true (by omega)
     rw[Y0q (by omega)]
     refine Z09 follows Z0a Z05 Y09 rfl ?_
     repeat' ((conv=>whnf);first|refine stp ?_|with_reducible apply Z01<;>intro h)
     all_goals rfl
 obtain⟨u,rfl⟩:∃u:Nat,tn=u+1:=⟨tn-1,by omega⟩
 have e0:(((u+1:Nat):Int)==0)=false:=by simp;omega
 have hr:(⟨ini,thr,frm,ord⟩:DGr).ev ⟨((u+1:Nat):Int),k⟩=(match thr[u]? with|none=>none|some l=>l[k]?):=by
  unfold DGr.ev
  rw[if_neg (by simp;omega),if_neg (by simp;omega)];simp<;>(cases thr[u]?<;>rfl)
 rw[hr]
 by_cases c2:u<thr.length
 · have e2:decide (((u+1:Nat):Int)>(thr.length:Int))=false:=decide_eq_false (by omega)
   have w:IntKind.i64.wrap (((u+1:Nat):Int)-1)=(u:Int):=by
    rw[show ((u+1:Nat):Int)-1=(u:Int) by omega];exact Z1i (by omega) (by omega)
   have hx:=ha u c2
   have hl:thr[u].length<=9223372036854775807:=(t2 _ (Y03 c2)).1
   rw[Y0d c2]
   dsimp only
   generalize thr[u]=l at *
   generalize Z07 (λx=>[rsE x]) thr=A at *
   have hy:=λi (hi:i<l.length)=>Z0f (f:=evC) (k:=5) (λ_=>rfl) l i hi
   simp only[rsE]at hx
   by_cases c5:k<l.length
   · have e5:decide ((k:Int) >= (l.length:Int))=false:=decide_eq_false (by omega)
     have hz:=hy k c5
     rw[Y0d c5]
     generalize l[k]=x at *
     generalize Z07 evC l=Y at *
     simp only[evC]at hz
     refine Z09 follows Z0a Z05 Y09 rfl ?_
     repeat' ((conv=>whnf);first|(with_reducible refine exW w ?_)|(with_reducible refine ixJ u rfl ?_ ?_;focus omega)|(with_reducible refine ixJ k rfl ?_ ?_;focus omega)|refine exI hx ?_|refine exI hz ?_|refine stp ?_|with_reducible apply Z01<;>intro h)
     all_goals rfl
   · have e5:decide ((k:Int) >= (l.length:Int))=true:=decide_eq_true (by omega)
     rw[Y0q (by omega)]
     generalize Z07 evC l=Y at *
     refine Z09 follows Z0a Z05 Y09 rfl ?_
     repeat' ((conv=>whnf);first|(with_reducible refine exW w ?_)|(with_reducible refine ixJ u rfl ?_ ?_;focus omega)|refine exI hx ?_|refine stp ?_|with_reducible apply Z01<;>intro h)
     all_goals rfl
 · have e2:decide (((u+1:Nat):Int)>(thr.length:Int))=true:=decide_eq_true (by omega)
   rw[Y0q (by omega)]
   refine Z09 follows Z0a Z05 Y09 rfl ?_
   repeat' ((conv=>whnf);first|refine stp ?_|with_reducible apply Z01<;>intro h)
   all_goals rfl
end
end
section
section
variable {gl:Z0w}
theorem ZiV(e:DEv):ValOK Y00 gl 33 [.agg (evC e)] (.bool e.rd):=by
 obtain⟨k,l,o,r,w⟩:=e
 simp only[evC,DEv.rd]
 refine Z09 follows Z0a Z05 Tryz.func33 rfl ?_
 cases h1:(k==1)<;>cases h3:(k==3)
 all_goals repeat' ((conv=>whnf);first|refine stp ?_|with_reducible apply Z01<;>intro h)
 all_goals first|rfl|(show AV.bool _=AV.bool _;rw[h3];rfl)
theorem Zfs(e:DEv):ValOK Y00 gl 34 [.agg (evC e)] (.bool e.wr):=by
 obtain⟨k,l,o,r,w⟩:=e
 simp only[evC,DEv.wr]
 refine Z09 follows Z0a Z05 Tryz.func34 rfl ?_
 cases h1:(k==2)<;>cases h3:(k==3)
 all_goals repeat' ((conv=>whnf);first|refine stp ?_|with_reducible apply Z01<;>intro h)
 all_goals first|rfl|(show AV.bool _=AV.bool _;rw[h3];rfl)
theorem ZhR(g:DGr)(e:DEv):ValOK Y00 gl 21 [g.av,.agg (evC e)] (.bool (Z3l g.ini.length e)):=by
 obtain⟨O,hO,p1,p2,-⟩:=fams (P:=Y00) (gl:=gl) [
  { I:=DEv,f:=33,G:=λ_=>True,A:=λe=>[.agg (evC e)],R:=λe=>.bool e.rd,body:=(by kernel_rfl),inj:=(λi j _ _ h=>by rw[Z1N i j (by simpa using h)]),ok:=(λe _=>⟨rfl,ZiV e⟩) },
  { I:=DEv,f:=34,G:=λ_=>True,A:=λe=>[.agg (evC e)],R:=λe=>.bool e.wr,body:=(by kernel_rfl),inj:=(λi j _ _ h=>by rw[Z1N i j (by simpa using h)]),ok:=(λe _=>⟨rfl,Zfs e⟩) }] rfl
 have q1:∀H,Z02 Y00 O H 33 [.agg (evC e)]=some (.bool e.rd,H):=p1 e trivial
 have q2:∀H,Z02 Y00 O H 34 [.agg (evC e)]=some (.bool e.wr,H):=p2 e trivial
 clear p1 p2
 unfold Z3l
 simp only[DGr.av,grC,rsI,Z4T,Z58]
 generalize Z07 Z2b g.ini=X
 generalize Z07 (λx=>[rsE x]) g.thr=A
 generalize Z07 (λx=>[rsD x]) g.frm=B
 generalize Z07 (λx=>[rsD x]) g.ord=C
 generalize g.ini.length=n
 obtain⟨rd,hrd⟩:∃b,b=e.rd:=⟨_,rfl⟩
 obtain⟨wr,hwr⟩:∃b,b=e.wr:=⟨_,rfl⟩
 rw[<- hrd]at q1⊢
 rw[<- hwr]at q2⊢
 clear hrd hwr
 obtain⟨k,l,o,r,w⟩:=e
 simp only[evC]at q1 q2⊢
 have fin:∀b c:Bool,(b=c)->AV.bool b=AV.bool c:=λb c h=>by rw[h]
 by_cases c1:k<1
 · have e1:decide (k<1)=true:=decide_eq_true c1
   have f1:decide (1<=k)=false:=decide_eq_false (by omega)
   rw[f1];simp only[Y06]
   refine Z09 follows Z0a hO Y0h rfl ?_
   repeat' ((conv=>whnf);first|refine stp ?_|with_reducible apply Z01<;>intro h)
   all_goals rfl
 have e1:decide (k<1)=false:=decide_eq_false c1
 have f1:decide (1<=k)=true:=decide_eq_true (by omega)
 by_cases c2:k>4
 · have e2:decide (k>4)=true:=decide_eq_true c2
   have f2:decide (k<=4)=false:=decide_eq_false (by omega)
   rw[f1,f2];simp only[Y06,Y0a]
   refine Z09 follows Z0a hO Y0h rfl ?_
   repeat' ((conv=>whnf);first|refine stp ?_|with_reducible apply Z01<;>intro h)
   all_goals rfl
 have e2:decide (k>4)=false:=decide_eq_false c2
 have f2:decide (k<=4)=true:=decide_eq_true (by omega)
 by_cases c3:o<1
 · have e3:decide (o<1)=true:=decide_eq_true c3
   have f3:decide (1<=o)=false:=decide_eq_false (by omega)
   rw[f1,f2,f3];simp only[Y06,Y0a]
   refine Z09 follows Z0a hO Y0h rfl ?_
   repeat' ((conv=>whnf);first|refine stp ?_|with_reducible apply Z01<;>intro h)
   all_goals rfl
 have e3:decide (o<1)=false:=decide_eq_false c3
 have f3:decide (1<=o)=true:=decide_eq_true (by omega)
 by_cases c4:o>6
 · have e4:decide (o>6)=true:=decide_eq_true c4
   have f4:decide (o<=6)=false:=decide_eq_false (by omega)
   rw[f1,f2,f3,f4];simp only[Y06,Y0a]
   refine Z09 follows Z0a hO Y0h rfl ?_
   repeat' ((conv=>whnf);first|refine stp ?_|with_reducible apply Z01<;>intro h)
   all_goals rfl
 have e4:decide (o>6)=false:=decide_eq_false c4
 have f4:decide (o<=6)=true:=decide_eq_true (by omega)
 rw[f1,f2,f3,f4]
 simp only[Y04]
 have hw:(w != 0) = !(w==0):=rfl
 have hr:(r != 0) = !(r==0):=rfl
 have c8:((k==4)=true/\k=4)\/((k==4)=false/\((decide (l >= 0)=false/\decide (0<=l)=false)\/(decide (l >= 0)=true/\decide (0<=l)=true))):=by
  by_cases c6:0<=l
  · by_cases c7:k=4
    ·exact .inl ⟨by simpa using c7,c7⟩
    ·exact .inr ⟨by simpa using c7,.inr ⟨decide_eq_true c6,decide_eq_true c6⟩⟩
  · by_cases c7:k=4
    ·exact .inl ⟨by simpa using c7,c7⟩
    ·exact .inr ⟨by simpa using c7,.inl ⟨decide_eq_false c6,decide_eq_false c6⟩⟩
 cases hb1:(r==0)<;>cases hb2:(w==0)<;>cases rd<;>cases wr
 all_goals rw[hb2]at hw
 all_goals rw[hb1]at hr
 all_goals simp only[Bool.not_true,Y0k]at hw hr
 all_goals simp only[Bool.true_or,Bool.false_or,Bool.or_true,Bool.or_false,Y04,Y06,Y0a,Bool.and_true]
 all_goals by_cases c5:k=4
 all_goals first|rw[if_pos c5]|rw[if_neg c5]|skip
 all_goals rcases c8 with ⟨e5,c9⟩|⟨e5,⟨e6,f6⟩|⟨e6,f6⟩⟩
 all_goals first|(exfalso;exact c5 c9)|(exfalso;rw[c5]at e5;exact absurd e5 (by decide))|skip
 all_goals try rw[f6]
 all_goals try simp only[Y04,Y06]
 all_goals refine Z09 follows Z0a hO Y0h rfl ?_
 all_goals repeat' ((conv=>whnf);first|with_reducible refine exI (q1 _) ?_|with_reducible refine exI (q2 _) ?_|refine stp ?_|with_reducible apply Z01<;>intro h)
 all_goals rfl
end
end
section
section
variable {gl:Z0w}
theorem ZjJ(g:DGr)(hg:okG g)(d f:DId)(hd:okD d)(hf:okD f):ValOK Y00 gl 22 [g.av,.agg (idC d),.agg (idC f)] (.bool (ZcH g d f)):=by
 obtain⟨O,hO,p1,p2,p3,-⟩:=fams (P:=Y00) (gl:=gl) [
  { I:=DEv,f:=33,G:=λ_=>True,A:=λe=>[.agg (evC e)],R:=λe=>.bool e.rd,body:=(by kernel_rfl),inj:=(λi j _ _ h=>by rw[Z1N i j (by simpa using h)]),ok:=(λe _=>⟨rfl,ZiV e⟩) },
  { I:=DEv,f:=34,G:=λ_=>True,A:=λe=>[.agg (evC e)],R:=λe=>.bool e.wr,body:=(by kernel_rfl),inj:=(λi j _ _ h=>by rw[Z1N i j (by simpa using h)]),ok:=(λe _=>⟨rfl,Zfs e⟩) },
  { I:=DId,f:=35,G:=okD,A:=λd=>[g.av,.agg (idC d)],R:=λd=>.tuple [.agg (evC ((g.ev d).getD evD)),.bool (g.ev d).isSome],body:=(by kernel_rfl),inj:=(λi j _ _ h=>by rw[Z3S i j (by simpa using h)]),ok:=(λd hd=>⟨rfl,by have:=ZiW (gl:=gl) g hg d hd;unfold DGr.evR at this;rw[Z97]at this;exact this⟩) }] rfl
 have q1:∀e:DEv,∀H,Z02 Y00 O H 33 [.agg (evC e)]=some (.bool e.rd,H):=λe=>p1 e trivial
 have q2:∀e:DEv,∀H,Z02 Y00 O H 34 [.agg (evC e)]=some (.bool e.wr,H):=λe=>p2 e trivial
 have q3:=p3 d hd
 have q4:=p3 f hf
 dsimp only at q3 q4
 clear p1 p2 p3
 have hs:ZcH g d f=(let e:=(g.ev d).getD evD;let w:=(g.ev f).getD evD;if e.rd then (g.ev f).isSome&&(!decide (f=d))&&w.wr&&w.l==e.l&&w.w==e.r else decide (f=idD)):=by
  unfold ZcH ZeS
  dsimp only
  cases g.ev f with
  |none=>rfl
  |some w=>simp only[Option.isSome_some,Y04,Option.getD_some,decide_not]
 rw[hs]
 dsimp only
 generalize (g.ev d).getD evD=e at *
 generalize (g.ev f).getD evD=w at *
 generalize (g.ev f).isSome=b at *
 generalize (g.ev d).isSome=b' at *
 have q1e:=q1 e
 have q2w:=q2 w
 have a1:=Zll f d
 have a2:=Zll f idD
 rw[ZgL]at a1 a2
 clear q1 q2 hs
 simp only[DGr.av,grC,rsI,Z4T,Z58]at q3 q4⊢
 generalize Z07 Z2b g.ini=X at *
 generalize Z07 (λx=>[rsE x]) g.thr=A at *
 generalize Z07 (λx=>[rsD x]) g.frm=B at *
 generalize Z07 (λx=>[rsD x]) g.ord=C at *
 obtain⟨rd,hrd⟩:∃b,b=e.rd:=⟨_,rfl⟩
 obtain⟨wr,hwr⟩:∃b,b=w.wr:=⟨_,rfl⟩
 rw[<- hrd]at q1e⊢
 rw[<- hwr]at q2w⊢
 obtain⟨c1,hc1⟩:∃b,b=decide (f=d):=⟨_,rfl⟩
 obtain⟨c2,hc2⟩:∃b,b=decide (f=idD):=⟨_,rfl⟩
 rw[<- hc1]at a1⊢
 rw[<- hc2]at a2⊢
 clear hrd hwr hc1 hc2
 obtain⟨k1,l1,o1,r1,w1⟩:=e
 obtain⟨k2,l2,o2,r2,w2⟩:=w
 obtain⟨dt,di⟩:=d
 obtain⟨ft,fi⟩:=f
 simp only[evC,idC,idD]at *
 obtain⟨m1,hm1⟩:∃b,b=(l2==l1):=⟨_,rfl⟩
 obtain⟨m2,hm2⟩:∃b,b=(w2==r1):=⟨_,rfl⟩
 rw[<- hm1,<- hm2]
 replace hm1:=hm1.symm
 replace hm2:=hm2.symm
 cases rd
 · refine Z09 follows Z0a hO Tryz.func22 rfl ?_
   repeat' ((conv=>whnf);first|with_reducible refine exI (q3 _) ?_|with_reducible refine exI (q1e _) ?_|refine exI a2 ?_|refine stp ?_|with_reducible apply Z01<;>intro h)
   all_goals rfl
 cases b
 · refine Z09 follows Z0a hO Tryz.func22 rfl ?_
   repeat' ((conv=>whnf);first|with_reducible refine exI (q3 _) ?_|with_reducible refine exI (q4 _) ?_|with_reducible refine exI (q1e _) ?_|refine stp ?_|with_reducible apply Z01<;>intro h)
   all_goals rfl
 cases c1<;>cases wr<;>cases m1
 all_goals refine Z09 follows Z0a hO Tryz.func22 rfl ?_
 all_goals repeat' ((conv=>whnf);first|with_reducible refine exI (q3 _) ?_|with_reducible refine exI (q4 _) ?_|with_reducible refine exI (q1e _) ?_|with_reducible refine exI (q2w _) ?_|with_reducible refine exI a1 ?_|refine stp ?_|with_reducible apply Z01<;>intro h)
 all_goals first|rfl|(show AV.bool _=AV.bool _;rw[hm2];rfl)
end
end
section
def Zgt(n:Nat):List (List DEv)->List (List DId)->Bool
 |l::ls,f::fs=>f.length==l.length&&(l.all (Z3l n)&&Zgt n ls fs)
 |_,_=>true
def ZjH(g:DGr)(t:Nat):Nat->List DEv->List DId->Bool
 |i,e::es,f::fs=>ZeS g ⟨(t:Int)+1,i⟩ e f&&ZjH g t (i+1) es fs
 |_,_,_=>true
def Z6l(g:DGr):Nat->List (List DEv)->List (List DId)->Bool
 |t,l::ls,f::fs=>ZjH g t 0 l f&&Z6l g (t+1) ls fs
 |_,_,_=>true
def ZdF(x:Int)(l:List DEv):Nat:=(l.filter λe=>e.wr&&e.l==x).length
def ZdE(x:Int):List (List DEv)->Nat
 |[]=>0
 |l::ls=>ZdF x l+ZdE x ls
def Zl4(g:DGr)(x:Int)(d:DId):Bool:=match g.ev d with
 |none=>false
 |some e=>d.t != 0&&(e.wr&&e.l==x)
def Z7J(g:DGr)(x:Int)(pre:List DId):List DId->Bool
 |[]=>true
 |d::ds=>Zl4 g x d&&(!(pre.contains d)&&Z7J g x (pre++[d]) ds)
def Z1t(g:DGr)(x:Int)(o:List DId):Bool:=Z7J g x [] o&&o.length==ZdE x g.thr
def Z4E(g:DGr):Nat->List (List DId)->Bool
 |_,[]=>true
 |x,o::os=>Z1t g x o&&Z4E g (x+1) os
def Z7K(g:DGr):Bool:=g.frm.length==g.thr.length&&g.ord.length==g.ini.length&&(Zgt g.ini.length g.thr g.frm&&(Z6l g 0 g.thr g.frm&&Z4E g 0 g.ord))
def Z2n(g:DGr):Int:=if Z2X g then 3 else if Z7K g then 0 else 2
theorem Z9Q(g:DGr)(t:Nat):∀(l:List DEv)(f:List DId)(i:Nat),f.length=l.length->l.all (Z3l g.ini.length)=true->ZjH g t i l f=true->Z1F g t i l f=true
 |[],[],_,_,_,_=>rfl
 |[],_::_,_,h,_,_=>by simp at h
 |_::_,[],_,h,_,_=>by simp at h
 |e::l,d::f,i,h,h1,h2=>by
  simp only[List.all_cons,Y02]at h1
  simp only[ZjH,Y02]at h2
  simp only[Z1F,Y02]
  exact⟨⟨h1.1,h2.1⟩,Z9Q g t l f (i+1) (by simpa using h) h1.2 h2.2⟩
theorem Z84(g:DGr):∀(ls:List (List DEv))(fs:List (List DId))(t:Nat),fs.length=ls.length->Zgt g.ini.length ls fs=true->Z6l g t ls fs=true->Z0V g t ls fs=true
 |[],[],_,_,_,_=>rfl
 |[],_::_,_,h,_,_=>by simp at h
 |_::_,[],_,h,_,_=>by simp at h
 |l::ls,f::fs,t,h,h1,h2=>by
  simp only[Zgt,Y02,beq_iff_eq]at h1
  simp only[Z6l,Y02]at h2
  simp only[Z0V,Y02]
  exact⟨Z9Q g t l f 0 h1.1 h1.2.1 h2.1,Z84 g ls fs (t+1) (by simpa using h) h1.2.2 h2.2⟩
theorem KN.eq{l:List (DId×Int)}(h:KN l){p q:DId×Int}(hp:p∈l)(hq:q∈l)(e:p.1=q.1):p=q:=by
 induction l with
 |nil=>cases hp
 |cons a l ih =>
  unfold KN at h ih
  rw[Y0l,Y0m]at h
  rcases Y0e.1 hp with rfl|hp2<;>rcases Y0e.1 hq with rfl|hq2
  ·rfl
  ·exact absurd (show p.1∈l.map (·.1) from Y0i.2 ⟨q,hq2,e.symm⟩) h.1
  ·exact absurd (show q.1∈l.map (·.1) from Y0i.2 ⟨p,hp2,e⟩) h.1
  ·exact ih h.2 hp2 hq2
theorem ZhL{left:List (DId×Int)}{x:Nat}{d:DId}(hk:KN left)(h:(d,(x:Int))∈left):∃l,Z4B left x d=some l/\l.length+1=left.length/\KN l/\∀p,p∈l ↔ p∈left/\p.1≠d:=by
 cases hf:left.findIdx? (λp=>p.1==d) with
 |none =>
  have:=List.findIdx?_eq_none_iff.1 hf _ h
  simp at this
 |some j =>
  obtain⟨hj,h1,_⟩:=List.findIdx?_eq_some_iff_getElem.1 hf
  have h1:left[j].1=d:=by simpa using h1
  have h2:=hk.eq (Y03 hj) h h1
  refine⟨left.eraseIdx j,?_,?_,?_,?_⟩
  · unfold Z4B
    simp only[hf]
    rw[if_pos (by rw[Y0d hj,h2];rfl)]
  ·rw[List.length_eraseIdx_of_lt hj];omega
  ·exact List.Sublist.nodup ((List.eraseIdx_sublist left j).map _) hk
  · intro p
    constructor
    · intro hp
      refine⟨List.mem_of_mem_eraseIdx hp,λe=>?_⟩
      obtain⟨i,hi,hij,rfl⟩:=Y0u.1 hp
      have hn:(left.map (·.1)).Nodup:=hk
      have h3:=List.pairwise_iff_getElem.1 hn
      rcases Nat.lt_or_gt_of_ne hij with hlt|hlt
      ·exact h3 i j (by simpa using hi) (by simpa using hj) hlt (by simp[h1,e])
      ·exact h3 j i (by simpa using hj) (by simpa using hi) hlt (by simp[h1,e])
    · rintro⟨hp,hne⟩
      obtain⟨i,hi,rfl⟩:=Y0n hp
      refine Y0u.2 ⟨i,hi,λe=>hne ?_,rfl⟩
      subst e;exact h1
theorem Z9G(x:Nat):∀(ds:List DId)(left:List (DId×Int)),KN left->ds.Nodup->(∀d∈ds,(d,(x:Int))∈left)->∃l,Z2Q x ds left=some l/\l.length+ds.length=left.length/\KN l/\∀p,p∈l ↔ p∈left/\p.1 ∉ ds
 |[],left,hk,_,_=>⟨left,rfl,rfl,hk,λp=>by simp⟩
 |d::ds,left,hk,hn,h=>by
  obtain⟨l,h1,h2,h3,h4⟩:=ZhL hk (h d (by simp))
  rw[Y0m]at hn
  obtain⟨l2,g1,g2,g3,g4⟩:=Z9G x ds l h3 hn.2 λe he=>(h4 _).2 ⟨h e (by simp[he]),λhed=>hn.1 (hed ▸ he)⟩
  refine⟨l2,?_,?_,g3,λp=>?_⟩
  ·simp only[Z2Q,h1];exact g1
  ·rw[Y0b];omega
  ·rw[g4,h4,Y0e,not_or,and_assoc]
theorem ZcD:∀(os:List (List DId))(x:Nat)(left:List (DId×Int)),KN left->(∀j (hj:j<os.length),os[j].Nodup/\∀d∈os[j],(d,((x+j:Nat):Int))∈left)->∃l,Z2c x os left=some l/\l.length+(os.map List.length).sum=left.length
 |[],x,left,hk,h=>⟨left,rfl,rfl⟩
 |o::os,x,left,hk,h=>by
  have h0:=h 0 (by simp)
  simp only[List.getElem_cons_zero,Nat.add_zero]at h0
  obtain⟨l,g1,g2,g3,g4⟩:=Z9G x o left hk h0.1 h0.2
  obtain⟨l2,f1,f2⟩:=ZcD os (x+1) l g3 λj hj=>by
   have hj1:=h (j+1) (by simpa using hj)
   simp only[List.getElem_cons_succ]at hj1
   refine⟨hj1.1,λd hd=>?_⟩
   have hm:=hj1.2 d hd
   rw[show x+1+j=x+(j+1) by omega]
   refine (g4 _).2 ⟨hm,λhdo=>?_⟩
   have hc:=hk.eq hm (h0.2 d hdo) rfl
   simp at hc
   omega
  refine⟨l2,?_,?_⟩
  ·simp only[Z2c,g1];exact f1
  ·rw[Y0l,List.sum_cons];omega
def ZgR(x:Int)(W:List (DId×Int)):Nat:=(W.filter λp=>p.2==x).length
theorem ZiE(x:Int)(a b:List (DId×Int)):ZgR x (a++b)=ZgR x a+ZgR x b:=by
 unfold ZgR;rw[List.filter_append,Y0f]
theorem ZdC(x:Int)(t:Nat):∀(l:List DEv)(i:Nat),ZgR x (Z4W t i l)=ZdF x l
 |[],i=>rfl
 |e::l,i=>by
  have ih:=ZdC x t l (i+1)
  unfold ZgR ZdF at ih⊢
  simp only[Z4W,Y0o]
  cases hw:e.wr with
  |false=>simp[ih]
  |true =>
   simp only[if_true,Y0o,Y04]
   cases hx:(e.l==x) with
   |false=>simp[ih]
   |true=>simp[ih]
theorem ZaN(x:Int):∀(ls:List (List DEv))(t:Nat),ZgR x (Z14 t ls)=ZdE x ls
 |[],t=>rfl
 |l::ls,t=>by simp only[Z14,ZiE,ZdE,ZdC,ZaN x ls (t+1)]
def Zhs(W:List (DId×Int)):Nat->Nat->Nat
 |_,0=>0
 |x,n+1=>ZgR x W+Zhs W (x+1) n
theorem ZcE:∀(n x:Nat),Zhs [] x n=0
 |0,x=>rfl
 |n+1,x=>by simp only[Zhs,ZcE n];rfl
theorem Z9K(p:DId×Int)(W:List (DId×Int)):∀(n x:Nat),Zhs (p::W) x n=(if (x:Int)<=p.2/\p.2<((x+n:Nat):Int) then 1 else 0)+Zhs W x n
 |0,x=>by rw[if_neg (by omega)];simp[Zhs]
 |n+1,x=>by
  simp only[Zhs,Z9K p W n (x+1)]
  have hc:ZgR x (p::W)=(if p.2=(x:Int) then 1 else 0)+ZgR x W:=by
   unfold ZgR
   rw[Y0o]
   by_cases h:p.2=(x:Int)
   ·simp[h];omega
   ·simp[h]
  rw[hc]
  by_cases h1:p.2=(x:Int)
  ·rw[if_pos h1,if_neg (by omega),if_pos (by omega)];omega
  · rw[if_neg h1]
    by_cases h2:((x+1:Nat):Int)<=p.2/\p.2<((x+1+n:Nat):Int)
    ·rw[if_pos h2,if_pos (by omega)];omega
    ·rw[if_neg h2,if_neg (by omega)];omega
theorem ZcF(n:Nat):∀W:List (DId×Int),(∀p∈W,0<=p.2/\p.2<(n:Int))->Zhs W 0 n=W.length
 |[],_=>ZcE n 0
 |p::W,h=>by
  rw[Z9K,ZcF n W λq hq=>h q (by simp[hq]),if_pos (by have:=h p (by simp);omega),Y0b];omega
theorem Z44(t:Nat)(d:DId)(x:Int):∀(l:List DEv)(i:Nat),(d,x)∈Z4W t i l ↔ ∃j,∃h:j<l.length,d=⟨(t:Int)+1,((i+j:Nat):Int)⟩/\l[j].wr=true/\l[j].l=x
 |[],i=>by simp[Z4W]
 |e::l,i=>by
  have ih:=Z44 t d x l (i+1)
  have hsplit:(∃j,∃h:j<(e::l).length,d=⟨(t:Int)+1,((i+j:Nat):Int)⟩/\(e::l)[j].wr=true/\(e::l)[j].l=x) ↔ (d=⟨(t:Int)+1,(i:Int)⟩/\e.wr=true/\e.l=x)\/(d,x)∈Z4W t (i+1) l:=by
   rw[ih]
   constructor
   · rintro⟨j,h,h1,h2⟩
     cases j with
     |zero=>exact .inl ⟨h1,h2⟩
     |succ j=>exact .inr ⟨j,by simpa using h,by rw[h1,show i+(j+1)=i+1+j by omega],by simpa using h2⟩
   · rintro (⟨h1,h2⟩|⟨j,h,h1,h2⟩)
     ·exact⟨0,by simp,h1,h2⟩
     ·exact⟨j+1,by simpa using h,by rw[h1,show i+(j+1)=i+1+j by omega],by simpa using h2⟩
  rw[hsplit]
  simp only[Z4W]
  cases hw:e.wr with
  |false=>simp
  |true=>simp only[if_true,Y0e,Prod.mk.injEq,true_and];constructor<;>(rintro (⟨h1,h2⟩|h)<;>first|exact .inl ⟨h1,h2.symm⟩|exact .inr h)
theorem Z4V(d:DId)(x:Int):∀(ls:List (List DEv))(t:Nat),(d,x)∈Z14 t ls ↔ ∃k,∃h:k<ls.length,(d,x)∈Z4W (t+k) 0 ls[k]
 |[],t=>by simp[Z14]
 |l::ls,t=>by
  have ih:=Z4V d x ls (t+1)
  simp only[Z14,List.mem_append,ih]
  constructor
  · rintro (h|⟨k,h,h1⟩)
    ·exact⟨0,by simp,h⟩
    ·exact⟨k+1,by simpa using h,by rw[show t+(k+1)=t+1+k by omega];exact h1⟩
  · rintro⟨k,h,h1⟩
    cases k with
    |zero=>exact .inl h1
    |succ k=>exact .inr ⟨k,by simpa using h,by rw[show t+1+k=t+(k+1) by omega];exact h1⟩
theorem Zf3(t:Nat):∀(l:List DEv)(i:Nat),KN (Z4W t i l)
 |[],i=>List.nodup_nil
 |e::l,i=>by
  have ih:=Zf3 t l (i+1)
  simp only[Z4W]
  split
  · unfold KN at ih⊢
    rw[Y0l,Y0m]
    refine⟨λhm=>?_,ih⟩
    obtain⟨⟨d,x⟩,hp,hd⟩:=Y0i.1 hm
    obtain⟨j,hj,h1,_⟩:=(Z44 t d x l (i+1)).1 hp
    simp only at hd
    rw[h1]at hd
    simp at hd
    omega
  ·exact ih
theorem Zcp:∀(ls:List (List DEv))(t:Nat),KN (Z14 t ls)
 |[],t=>List.nodup_nil
 |l::ls,t=>by
  have ih:=Zcp ls (t+1)
  have h0:=Zf3 t l 0
  unfold KN at ih h0⊢
  simp only[Z14,List.map_append]
  refine List.nodup_append.2 ⟨h0,ih,λa ha b hb hab=>?_⟩
  obtain⟨⟨d,x⟩,hp,rfl⟩:=Y0i.1 ha
  obtain⟨⟨d',x'⟩,hq,rfl⟩:=Y0i.1 hb
  obtain⟨j,hj,h1,_⟩:=(Z44 t d x l 0).1 hp
  obtain⟨k,hk,hm⟩:=(Z4V d' x' ls (t+1)).1 hq
  obtain⟨j',hj',h1',_⟩:=(Z44 _ d' x' _ 0).1 hm
  simp only at hab
  rw[h1,h1']at hab
  simp at hab
  omega
theorem Zmi{g:DGr}{x:Int}{d:DId}(h:Zl4 g x d=true):(d,x)∈Z14 0 g.thr:=by
 unfold Zl4 DGr.ev at h
 by_cases hneg:d.t<0\/d.i<0
 ·rw[if_pos hneg]at h;cases h
 rw[if_neg hneg]at h
 by_cases h0:d.t=0
 · rw[if_pos h0]at h
   split at h
   ·cases h
   ·simp[h0]at h
 rw[if_neg h0]at h
 cases hl:g.thr[d.t.toNat-1]? with
 |none=>rw[hl]at h;cases h
 |some l =>
  rw[hl]at h
  cases he:l[d.i.toNat]? with
  |none=>simp only[he]at h;cases h
  |some e =>
   simp only[he,Y02,beq_iff_eq]at h
   obtain⟨hk,rfl⟩:=List.getElem?_eq_some_iff.1 hl
   obtain⟨hi,rfl⟩:=List.getElem?_eq_some_iff.1 he
   refine (Z4V d x g.thr 0).2 ⟨d.t.toNat-1,hk,(Z44 _ d x _ 0).2 ⟨d.i.toNat,hi,?_,h.2.1,h.2.2⟩⟩
   obtain⟨t,i⟩:=d
   simp only[DId.mk.injEq]at *
   omega
theorem Za1{g:DGr}{x:Int}:∀(ds pre:List DId),Z7J g x pre ds=true->∀d∈ds,Zl4 g x d=true
 |[],_,_,_,h=>by cases h
 |d::ds,pre,h,e,he=>by
  simp only[Z7J,Y02]at h
  rcases Y0e.1 he with rfl|he
  ·exact h.1
  ·exact Za1 ds _ h.2.2 e he
theorem Z79{g:DGr}{x:Int}:∀(ds pre:List DId),Z7J g x pre ds=true->ds.Nodup/\∀d∈ds,d ∉ pre
 |[],_,_=>⟨List.nodup_nil,by simp⟩
 |d::ds,pre,h=>by
  simp only[Z7J,Y02,Bool.not_eq_true']at h
  obtain⟨h1,h2⟩:=Z79 ds _ h.2.2
  have h3:d ∉ pre:=λhm=>by
   have:pre.contains d=true:=Y0r.2 hm
   rw[h.2.1]at this;cases this
  refine⟨Y0m.2 ⟨λhm=>(h2 d hm) (by simp),h1⟩,λe he=>?_⟩
  rcases Y0e.1 he with rfl|he
  ·exact h3
  ·exact λhm=>h2 e he (by simp[hm])
theorem ZcU{g:DGr}:∀(os:List (List DId))(x:Nat),Z4E g x os=true->∀j (hj:j<os.length),Z1t g ((x+j:Nat):Int) os[j]=true
 |[],x,_,j,hj=>by simp at hj
 |o::os,x,h,j,hj=>by
  simp only[Z4E,Y02]at h
  cases j with
  |zero=>exact h.1
  |succ j =>
   rw[show x+(j+1)=x+1+j by omega]
   exact ZcU os (x+1) h.2 j (by simpa using hj)
theorem Za0{g:DGr}:∀(os:List (List DId))(x:Nat),Z4E g x os=true->(os.map List.length).sum=Zhs (Z14 0 g.thr) x os.length
 |[],x,_=>rfl
 |o::os,x,h=>by
  simp only[Z4E,Y02]at h
  have h1:=h.1
  unfold Z1t at h1
  simp only[Y02,beq_iff_eq]at h1
  rw[Y0l,List.sum_cons,Y0b,Zhs,Za0 os (x+1) h.2,ZaN,h1.2]
theorem Zgs{n:Nat}:∀(ls:List (List DEv))(fs:List (List DId)),fs.length=ls.length->Zgt n ls fs=true->∀k (h:k<ls.length),ls[k].all (Z3l n)=true
 |[],_,_,_,k,h=>by simp at h
 |l::ls,[],hl,_,_,_=>by simp at hl
 |l::ls,f::fs,hl,h,k,hk=>by
  simp only[Zgt,Y02]at h
  cases k with
  |zero=>exact h.2.1
  |succ k=>exact Zgs ls fs (by simpa using hl) h.2.2 k (by simpa using hk)
theorem Zgr{n:Nat}{e:DEv}(h:Z3l n e=true)(hw:e.wr=true):0<=e.l/\e.l<(n:Int):=by
 unfold Z3l at h
 simp only[Y02]at h
 have h1:=h.2
 have:¬e.k=4:=λhk=>by unfold DEv.wr at hw;rw[hk]at hw;exact absurd hw (by decide)
 rw[if_neg this]at h1
 simp only[Y02,decide_eq_true_eq]at h1
 exact h1
theorem Zex{g:DGr}(h:Z7K g=true):Zan g=true:=by
 unfold Z7K at h
 simp only[Y02,beq_iff_eq]at h
 obtain⟨⟨h1,h2⟩,h3,h4,h5⟩:=h
 unfold Zan
 simp only[Y02,beq_iff_eq,decide_eq_true_eq]
 refine⟨⟨⟨h1,h2⟩,Z84 g _ _ 0 h1 h3 h4⟩,?_⟩
 have hall:=ZcU g.ord 0 h5
 obtain⟨l,e1,e2⟩:=ZcD g.ord 0 (Z14 0 g.thr) (Zcp _ 0) λj hj=>by
  have:=hall j hj
  unfold Z1t at this
  simp only[Y02]at this
  exact⟨(Z79 _ _ this.1).1,λd hd=>Zmi (Za1 _ _ this.1 d hd)⟩
 rw[Za0 _ 0 h5,h2,ZcF g.ini.length _ (λp hp=>?_)]at e2
 ·rw[e1,List.eq_nil_of_length_eq_zero (show l.length=0 by omega)]
 · obtain⟨d,x⟩:=p
   obtain⟨k,hk,hm⟩:=(Z4V d x g.thr 0).1 hp
   obtain⟨j,hj,_,hw,hx⟩:=(Z44 _ d x _ 0).1 hm
   have h6:=Zgs _ _ h1 h3 k hk
   have h7:=List.all_eq_true.1 h6 _ (Y03 hj)
   have:=Zgr h7 hw
   rw[hx]at this
   exact this
theorem Zfy{g:DGr}(h:Z2n g=0):Z0e g=0:=by
 unfold Z2n at h
 unfold Z0e
 split at h
 ·cases h
 · rename_i h1
   rw[if_neg h1]
   split at h
   ·rename_i h2;rw[if_pos (Zex h2)]
   ·cases h
end
section
theorem ZjB(g:DGr)(x:Int)(d:DId):Zl4 g x d=((g.ev d).isSome&&(d.t != 0&&(((g.ev d).getD evD).wr&&((g.ev d).getD evD).l==x))):=by
 unfold Zl4
 cases g.ev d<;>rfl
theorem ZiF(x:Int)(a b:List DEv):ZdF x (a++b)=ZdF x a+ZdF x b:=by
 unfold ZdF;rw[List.filter_append,Y0f]
theorem ZdD(x:Int):∀a b:List (List DEv),ZdE x (a++b)=ZdE x a+ZdE x b
 |[],b=>by simp[ZdE]
 |l::a,b=>by simp only[List.cons_append,ZdE,ZdD x a b];omega
theorem ZgQ(x:Int)(l:List (List DEv))(k:Nat)(h:k<l.length):ZdE x (l.take (k+1))=ZdE x (l.take k)+ZdF x l[k]:=by
 rw[Y0s h,ZdD];simp[ZdE]
theorem ZgS(x:Int)(l:List DEv)(k:Nat)(h:k<l.length):ZdF x (l.take (k+1))=ZdF x (l.take k)+(if (l[k].wr&&l[k].l==x)=true then 1 else 0):=by
 rw[Y0s h,ZiF]
 congr 1
 unfold ZdF
 rw[Y0o,List.filter_nil]
 split<;>simp_all
theorem Zk7(a b:Nat):((a:Int)==(b:Int))=(a==b):=by
 rw[Bool.eq_iff_iff,beq_iff_eq,beq_iff_eq];omega
theorem ZiQ{n j:Nat}{l r:List AV}{v:AV}(h:tk n l=some r)(hv:r[j]? = some v):tk 1 (l.drop j)=some [v]:=Go.Abs.tk_one (by
 obtain⟨rfl,h2⟩:=Zbu h
 rw[List.getElem?_take]at hv
 split at hv
 ·exact hv
 ·cases hv)
section
variable {gl:Z0w}
theorem Zeg(g:DGr)(hg:okG g)(s1:g.thr.length<=4)(s3:∀l∈g.thr,l.length<=14)(x:Nat)(hx:x<g.ord.length):ValOK Y00 gl 23 [g.av,.int .i64 x] (.bool (Z1t g x g.ord[x])):=by
 have hxl:x<=9223372036854775807:=by have:=hg.2.2.2.1;unfold Z5A at this;omega
 obtain⟨O,hO,p1,p2,-⟩:=fams (P:=Y00) (gl:=gl) [
  { I:=DEv,f:=34,G:=λ_=>True,A:=λe=>[.agg (evC e)],R:=λe=>.bool e.wr,body:=(by kernel_rfl),inj:=(λi j _ _ h=>by rw[Z1N i j (by simpa using h)]),ok:=(λe _=>⟨rfl,Zfs e⟩) },
  { I:=DId,f:=35,G:=okD,A:=λd=>[g.av,.agg (idC d)],R:=λd=>.tuple [.agg (evC ((g.ev d).getD evD)),.bool (g.ev d).isSome],body:=(by kernel_rfl),inj:=(λi j _ _ h=>by rw[Z3S i j (by simpa using h)]),ok:=(λd hd=>⟨rfl,by have:=ZiW (gl:=gl) g hg d hd;unfold DGr.evR at this;rw[Z97]at this;exact this⟩) }] rfl
 have q1:∀e:DEv,∀H,Z02 Y00 O H 34 [.agg (evC e)]=some (.bool e.wr,H):=λe=>p1 e trivial
 have q2:∀d:DId,okD d->∀H,Z02 Y00 O H 35 [g.av,.agg (idC d)]=some (.tuple [.agg (evC ((g.ev d).getD evD)),.bool (g.ev d).isSome],H):=p2
 clear p1 p2
 have hT:=λi (hi:i<g.thr.length)=>Z0f (f:=λx=>[rsE x]) (k:=1) (λ_=>rfl) g.thr i hi
 have hR:=Z0f (f:=λx=>[rsD x]) (k:=1) (λ_=>rfl) g.ord x hx
 have okf:=(hg.2.2.2.2 _ (Y03 hx)).2
 have okl:g.ord[x].length<=9223372036854775807:=(hg.2.2.2.2 _ (Y03 hx)).1
 simp only[DGr.av,grC,rsI,Z4T,Z58]at q2⊢
 generalize Z07 Z2b g.ini=XI at *
 generalize Z07 (λx=>[rsE x]) g.thr=XT at *
 generalize Z07 (λx=>[rsD x]) g.frm=XF at *
 generalize Z07 (λx=>[rsD x]) g.ord=XO at *
 have hgr:refsL [AV.rs g.ini.length 1 XI,.rs g.thr.length 1 XT,.rs g.frm.length 1 XF,.rs g.ord.length 1 XO] []=[]:=rfl
 refine Z09 follows Z0a hO Tryz.func23 rfl ?_
 repeat' ((conv=>whnf);first|refine stp ?_|with_reducible apply Z01<;>intro h)
 conv=>whnf
 refine⟨Nat×Nat,(λs=>s.1<=g.thr.length/\s.2=ZdE x (g.thr.take s.1)/\s.2<=100*s.1),(λs=>[(1,.int .i64 (x:Nat)),(2,.ptr 0 0),(4,.bool false),(5,.int .i64 (s.2:Nat)),(6,.int .i64 (s.1:Nat))]),(λs=>HG [AV.rs g.ini.length 1 XI,.rs g.thr.length 1 XT,.rs g.frm.length 1 XF,.rs g.ord.length 1 XO]),(λs=>g.thr.length-s.1),⟨(0,0),⟨Y05 _,by simp[ZdE],Nat.le_refl _⟩,?_⟩,?_⟩
 · refine Z65 rfl hgr rfl ?_
   exact wks
 rintro⟨k,n⟩ ⟨hk,hn,hb⟩
 dsimp only at hk hn hb⊢
 by_cases hlt:k<g.thr.length
 · have e1:decide ((k:Int)<(g.thr.length:Int))=true:=by simpa using hlt
   have hx1:=hT k hlt
   have hs3:=s3 _ (Y03 hlt)
   have hnext:=ZgQ x g.thr k hlt
   generalize g.thr[k]=l at *
   rw[<- hn]at hnext
   have hx1':tk 1 (List.drop (k*1) XT)=some [.rs l.length 5 (Z07 evC l)]:=hx1
   have hL:=λi (hi:i<l.length)=>Z0f (f:=evC) (k:=5) (λ_=>rfl) l i hi
   generalize Z07 evC l=XL at *
   clear hx1 hT hR
   simp only[HG]
   repeat' ((conv=>whnf);first|(with_reducible refine ixJ k rfl ?_ ?_;focus omega)|(refine exI hx1' ?_)|refine stp ?_|with_reducible apply Z01<;>intro h)
   conv=>whnf
   refine⟨Nat×Nat,(λs=>s.1<=l.length/\s.2=n+ZdF x (l.take s.1)/\s.2<=100*k+s.1),(λs=>[(1,.int .i64 (x:Nat)),(2,.ptr 0 0),(4,.bool false),(5,.int .i64 (s.2:Nat)),(6,.int .i64 (k:Nat)),(7,.int .i64 (s.1:Nat))]),(λs=>HG [AV.rs g.ini.length 1 XI,.rs g.thr.length 1 XT,.rs g.frm.length 1 XF,.rs g.ord.length 1 XO]),(λs=>l.length-s.1),⟨(0,n),⟨Y05 _,by simp[ZdF],by omega⟩,?_⟩,?_⟩
   · refine Z65 rfl hgr rfl ?_
     exact wks
   rintro⟨i,m⟩ ⟨hi,hm,hbm⟩
   dsimp only at hi hm hbm⊢
   by_cases hit:i<l.length
   · have e2:decide ((i:Int)<(l.length:Int))=true:=by simpa using hit
     have hx2:=hL i hit
     have hnx:=ZgS x l i hit
     have qe:=q1 l[i]
     generalize l[i]=e at *
     have hm2:m+(if (e.wr&&e.l==x)=true then 1 else 0)=n+ZdF x (l.take (i+1)):=by rw[hnx];omega
     generalize e.wr=b1 at *
     obtain⟨ek,el,eo,er,ew⟩:=e
     dsimp only at hm2
     obtain⟨b2,hb2⟩:∃b,(el==(x:Int))=b:=⟨_,rfl⟩
     rw[hb2]at hm2
     have hx3:=ZiQ (j:=1) (v:=.int .i64 el) hx2 rfl
     simp only[evC]at hx2 qe
     simp only[HG]
     cases b1
     · repeat' ((conv=>whnf);first|with_reducible refine exI (qe _) ?_|(with_reducible refine ixJ i rfl ?_ ?_;focus omega)|(with_reducible refine ixJ k rfl ?_ ?_;focus omega)|(refine exI hx1' ?_)|refine exI hx2 ?_|refine exI hx3 ?_|refine stp ?_|with_reducible apply Z01<;>intro h)
       conv=>whnf
       refine⟨(i+1,m),⟨hit,hm2,by show m<=_;omega⟩,by show l.length-(i+1)<l.length-i;omega,?_⟩
       (try dsimp only)
       refine Z65 rfl hgr rfl ?_
       exact wks
     cases b2
     · repeat' ((conv=>whnf);first|with_reducible refine exI (qe _) ?_|(with_reducible refine ixJ i rfl ?_ ?_;focus omega)|(with_reducible refine ixJ k rfl ?_ ?_;focus omega)|(refine exI hx1' ?_)|refine exI hx2 ?_|refine exI hx3 ?_|refine stp ?_|with_reducible apply Z01<;>intro h)
       conv=>whnf
       refine⟨(i+1,m),⟨hit,hm2,by show m<=_;omega⟩,by show l.length-(i+1)<l.length-i;omega,?_⟩
       (try dsimp only)
       refine Z65 rfl hgr rfl ?_
       exact wks
     · repeat' ((conv=>whnf);first|with_reducible refine exI (qe _) ?_|(with_reducible refine ixJ i rfl ?_ ?_;focus omega)|(with_reducible refine ixJ k rfl ?_ ?_;focus omega)|(refine exI hx1' ?_)|refine exI hx2 ?_|refine exI hx3 ?_|refine stp ?_|with_reducible apply Z01<;>intro h)
       conv=>whnf
       refine⟨(i+1,m+1),⟨hit,hm2,by show m+1<=_;omega⟩,by show l.length-(i+1)<l.length-i;omega,?_⟩
       (try dsimp only)
       refine Z65 rfl hgr rfl ?_
       exact wks
   have ei:i=l.length:=by omega
   subst ei
   have e2:decide (((l.length:Nat):Int)<(l.length:Int))=false:=decide_eq_false (by omega)
   rw[Y0t]at hm
   simp only[HG]
   repeat' ((conv=>whnf);first|(with_reducible refine ixJ k rfl ?_ ?_;focus omega)|(refine exI hx1' ?_)|refine stp ?_|with_reducible apply Z01<;>intro h)
   conv=>whnf
   refine⟨(k+1,m),⟨hlt,hm.trans hnext.symm,by show m<=_;omega⟩,by show g.thr.length-(k+1)<g.thr.length-k;omega,?_⟩
   (try dsimp only)
   refine Z65 rfl hgr rfl ?_
   exact wks
 have ek:k=g.thr.length:=by omega
 subst ek
 have e1:decide (((g.thr.length:Nat):Int)<(g.thr.length:Int))=false:=decide_eq_false (by omega)
 rw[Y0t]at hn
 have hres:Z1t g x g.ord[x]=(Z7J g x (g.ord[x].take 0) (g.ord[x].drop 0)&&(g.ord[x].length==n)):=by unfold Z1t;rw[hn];rfl
 obtain⟨RR,hRR⟩:∃R,R=Z1t g x g.ord[x]:=⟨_,rfl⟩
 rw[<- hRR]at hres⊢
 clear hRR hT hk hlt
 generalize g.ord[x]=f at *
 have hR':tk 1 (List.drop (x*1) XO)=some [.rs f.length 2 (Z07 idC f)]:=hR
 clear hR
 have hD:=λi (hi:i<f.length)=>Z0f (f:=idC) (k:=2) (λ_=>rfl) f i hi
 generalize Z07 idC f=XD at *
 simp only[HG]
 repeat' ((conv=>whnf);first|(with_reducible refine ixJ x rfl ?_ ?_;focus omega)|(refine exI hR' ?_)|refine stp ?_|with_reducible apply Z01<;>intro h)
 conv=>whnf
 refine⟨Nat,(λi=>i<=f.length/\(Z7J g x (f.take i) (f.drop i)&&(f.length==n))=RR),(λi=>[(1,.int .i64 (x:Nat)),(2,.ptr 0 0),(4,.bool false),(5,.int .i64 (n:Nat)),(8,.rs f.length 2 XD),(9,.int .i64 (i:Nat))]),(λi=>HG [AV.rs g.ini.length 1 XI,.rs g.thr.length 1 XT,.rs g.frm.length 1 XF,.rs g.ord.length 1 XO]),(λi=>f.length-i),⟨0,⟨Y05 _,hres.symm⟩,?_⟩,?_⟩
 · refine Z65 rfl hgr rfl ?_
   exact wks
 clear hres
 rintro i ⟨hi,hr⟩
 dsimp only at hi hr⊢
 by_cases hit:i<f.length
 · have e2:decide ((i:Int)<(f.length:Int))=true:=by simpa using hit
   have hx1:=hD i hit
   have okd:=okf _ (Y03 hit)
   rw[Y07 hit]at hr
   simp only[Z7J,ZjB]at hr
   have q2d:=q2 f[i] okd
   have q1d:=q1 ((g.ev f[i]).getD evD)
   have hcont:∀b,(∀k (hk:k<i),(f[k]'(by omega))≠f[i])->(f.take i).contains f[i]=b->b=false:=λb h hb=>by
    rw[<- hb,Bool.eq_false_iff]
    intro hc
    have hm:=Y0r.1 hc
    obtain⟨j,hj,he⟩:=Y0n hm
    rw[Y0c]at hj
    rw[List.getElem_take]at he
    exact h j (by omega) he
   have htrue:∀k (hk:k<i),(f[k]'(by omega))=f[i]->(f.take i).contains f[i]=true:=λk hk he=>by
    refine Y0r.2 ?_
    rw[<- he]
    exact List.mem_take_iff_getElem.2 ⟨k,by omega,rfl⟩
   have hstep:f.take i++[f[i]]=f.take (i+1):=(Y0s hit).symm
   rw[hstep]at hr
   obtain⟨b5,hb5⟩:∃b,(f.take i).contains f[i]=b:=⟨_,rfl⟩
   rw[hb5]at hr
   have hx3:=ZiQ (j:=0) (v:=.int .i64 f[i].t) hx1 rfl
   have hx1':tk 2 (List.drop (i*2) XD)=some [.int .i64 f[i].t,.int .i64 f[i].i]:=hx1
   generalize (g.ev f[i]).getD evD=e at *
   generalize (g.ev f[i]).isSome=b1 at *
   generalize e.wr=b3 at *
   obtain⟨ek,el,eo,er,ew⟩:=e
   dsimp only at hr
   obtain⟨b4,hb4⟩:∃b,(el==(x:Int))=b:=⟨_,rfl⟩
   rw[hb4]at hr
   obtain⟨b2,hb2⟩:∃b,(f[i].t==0)=b:=⟨_,rfl⟩
   rw[Z3B hb2]at hr
   have hb6:=Z3B hb4
   simp only[idC,evC]at q1d q2d
   simp only[HG]
   cases b1
   · simp only[Y06]at hr
     have hr2:RR=false:=hr.symm
     subst hr2
     repeat' ((conv=>whnf);first|with_reducible refine exI (q1d _) ?_|with_reducible refine exI (q2d _) ?_|(with_reducible refine ixJ i rfl ?_ ?_;focus omega)|(refine exI hx1' ?_)|refine exI hx3 ?_|refine stp ?_|with_reducible apply Z01<;>intro h)
     all_goals rfl
   cases b2
   rotate_left
   · simp only[Bool.not_true,Y06,Y0a]at hr
     have hr2:RR=false:=hr.symm
     subst hr2
     repeat' ((conv=>whnf);first|with_reducible refine exI (q1d _) ?_|with_reducible refine exI (q2d _) ?_|(with_reducible refine ixJ i rfl ?_ ?_;focus omega)|(refine exI hx1' ?_)|refine exI hx3 ?_|refine stp ?_|with_reducible apply Z01<;>intro h)
     all_goals rfl
   cases b3
   · simp only[Y06,Y0a]at hr
     have hr2:RR=false:=hr.symm
     subst hr2
     repeat' ((conv=>whnf);first|with_reducible refine exI (q1d _) ?_|with_reducible refine exI (q2d _) ?_|(with_reducible refine ixJ i rfl ?_ ?_;focus omega)|(refine exI hx1' ?_)|refine exI hx3 ?_|refine stp ?_|with_reducible apply Z01<;>intro h)
     all_goals rfl
   cases b4
   · simp only[Y06,Y0a]at hr
     simp only[Y0k]at hb6
     have hr2:RR=false:=hr.symm
     subst hr2
     repeat' ((conv=>whnf);first|with_reducible refine exI (q1d _) ?_|with_reducible refine exI (q2d _) ?_|(with_reducible refine ixJ i rfl ?_ ?_;focus omega)|(refine exI hx1' ?_)|refine exI hx3 ?_|refine stp ?_|with_reducible apply Z01<;>intro h)
     all_goals rfl
   simp only[Y04,Bool.and_true,Y0k]at hr
   simp only[Bool.not_true]at hb6
   repeat' ((conv=>whnf);first|with_reducible refine exI (q1d _) ?_|with_reducible refine exI (q2d _) ?_|(with_reducible refine ixJ i rfl ?_ ?_;focus omega)|(refine exI hx1' ?_)|refine exI hx3 ?_|refine stp ?_|with_reducible apply Z01<;>intro h)
   conv=>whnf
   clear q1d q2d hb4 hb6 hb2 hx3 okd
   refine⟨Nat,(λk=>k<=i/\∀j (hj:j<f.length),j<k->f[j]≠f[i]),(λk=>[(1,.int .i64 (x:Nat)),(2,.ptr 0 0),(4,.bool false),(5,.int .i64 (n:Nat)),(8,.rs f.length 2 XD),(9,.int .i64 (i:Nat)),(12,.int .i64 (k:Nat))]),(λk=>HG [AV.rs g.ini.length 1 XI,.rs g.thr.length 1 XT,.rs g.frm.length 1 XF,.rs g.ord.length 1 XO]),(λk=>i-k),⟨0,⟨Y05 _,λj _ h=>absurd h (Nat.not_lt_zero _)⟩,?_⟩,?_⟩
   · refine Z65 rfl hgr rfl ?_
     exact wks
   rintro k ⟨hki,hno⟩
   dsimp only at hki hno⊢
   by_cases hkt:k<i
   · have e3:decide ((k:Int)<(i:Int))=true:=by simpa using hkt
     have hkf:k<f.length:=by omega
     have hy1:=hD k hkf
     have hy1':tk 2 (List.drop (k*2) XD)=some [.int .i64 f[k].t,.int .i64 f[k].i]:=hy1
     have ha:=Zll f[k] f[i]
     rw[ZgL]at ha
     simp only[idC]at ha
     by_cases heq:f[k]=f[i]
     · rw[decide_eq_true heq]at ha
       have:b5=true:=by rw[<- hb5];exact htrue k hkt heq
       subst this
       have hr2:RR=false:=hr.symm
       subst hr2
       simp only[HG]
       repeat' ((conv=>whnf);first|(with_reducible refine ixJ i rfl ?_ ?_;focus omega)|(with_reducible refine ixJ k rfl ?_ ?_;focus omega)|(refine exI hx1' ?_)|(refine exI hy1' ?_)|refine exI ha ?_|refine stp ?_|with_reducible apply Z01<;>intro h)
       all_goals rfl
     · rw[decide_eq_false heq]at ha
       simp only[HG]
       repeat' ((conv=>whnf);first|(with_reducible refine ixJ i rfl ?_ ?_;focus omega)|(with_reducible refine ixJ k rfl ?_ ?_;focus omega)|(refine exI hx1' ?_)|(refine exI hy1' ?_)|refine exI ha ?_|refine stp ?_|with_reducible apply Z01<;>intro h)
       conv=>whnf
       refine⟨k+1,⟨hkt,λj hj hjk=>?_⟩,by show i-(k+1)<i-k;omega,?_⟩
       · by_cases hjk2:j=k
         ·subst hjk2;exact heq
         ·exact hno j hj (by omega)
       (try dsimp only)
       refine Z65 rfl hgr rfl ?_
       exact wks
   have ekk:k=i:=by omega
   subst ekk
   have e3:decide ((k:Int)<(k:Int))=false:=decide_eq_false (by omega)
   have:b5=false:=hcont b5 (λj hj=>hno j (by omega) hj) hb5
   subst this
   simp only[Y0k,Y04]at hr
   simp only[HG]
   repeat' ((conv=>whnf);first|refine stp ?_|with_reducible apply Z01<;>intro h)
   conv=>whnf
   refine⟨k+1,⟨hit,hr⟩,by show f.length-(k+1)<f.length-k;omega,?_⟩
   (try dsimp only)
   refine Z65 rfl hgr rfl ?_
   exact wks
 have ei:i=f.length:=by omega
 subst ei
 have e2:decide (((f.length:Nat):Int)<(f.length:Int))=false:=decide_eq_false (by omega)
 rw[Y0t,Y0g]at hr
 simp only[Z7J,Y04]at hr
 subst hr
 simp only[HG]
 repeat' ((conv=>whnf);first|refine stp ?_|with_reducible apply Z01<;>intro h)
 all_goals conv=>whnf
 all_goals show AV.bool _=AV.bool _
 all_goals rw[Zk7]
end
end
section
def Zm7(b:Bool):Int:=if b=true then 0 else 2
section
variable {gl:Z0w}
theorem Zfx(g:DGr)(hg:okG g):ValOK Y00 gl 9 [g.av] (.int .i64 (Z2n g)):=by
 have hT:=λi (hi:i<g.thr.length)=>Z0f (f:=λx=>[rsE x]) (k:=1) (λ_=>rfl) g.thr i hi
 have hF:=λi (hi:i<g.frm.length)=>Z0f (f:=λx=>[rsD x]) (k:=1) (λ_=>rfl) g.frm i hi
 have hav:g.av = .agg [.rs g.ini.length 1 (Z07 Z2b g.ini),.rs g.thr.length 1 (Z07 (λx=>[rsE x]) g.thr),.rs g.frm.length 1 (Z07 (λx=>[rsD x]) g.frm),.rs g.ord.length 1 (Z07 (λx=>[rsD x]) g.ord)]:=rfl
 have kt:g.thr.length<=9223372036854775807:=hg.2.1.1
 have ki:g.ini.length<=9223372036854775807:=hg.1.1
 have kf:g.frm.length<=9223372036854775807:=hg.2.2.1.1
 have ko:g.ord.length<=9223372036854775807:=hg.2.2.2.1
 by_cases c1:4<g.thr.length
 · have e1:decide ((g.thr.length:Int)>4)=true:=decide_eq_true (by omega)
   have e0:Z2n g=3:=by unfold Z2n Z2X;rw[decide_eq_true c1];rfl
   rw[e0,hav]
   generalize Z07 Z2b g.ini=XI at *
   generalize Z07 (λx=>[rsE x]) g.thr=XT at *
   generalize Z07 (λx=>[rsD x]) g.frm=XF at *
   generalize Z07 (λx=>[rsD x]) g.ord=XO at *
   refine Z09 follows Z0a Z05 Tryz.func9 rfl ?_
   repeat' ((conv=>whnf);first|refine stp ?_|with_reducible apply Z01<;>intro h)
   all_goals rfl
 have e1:decide ((g.thr.length:Int)>4)=false:=decide_eq_false (by omega)
 by_cases c2:6<g.ini.length
 · have e2:decide ((g.ini.length:Int)>6)=true:=decide_eq_true (by omega)
   have e0:Z2n g=3:=by unfold Z2n Z2X;rw[decide_eq_true c2];simp
   rw[e0,hav]
   generalize Z07 Z2b g.ini=XI at *
   generalize Z07 (λx=>[rsE x]) g.thr=XT at *
   generalize Z07 (λx=>[rsD x]) g.frm=XF at *
   generalize Z07 (λx=>[rsD x]) g.ord=XO at *
   refine Z09 follows Z0a Z05 Tryz.func9 rfl ?_
   repeat' ((conv=>whnf);first|refine stp ?_|with_reducible apply Z01<;>intro h)
   all_goals rfl
 have e2:decide ((g.ini.length:Int)>6)=false:=decide_eq_false (by omega)
 have hlongT:∀k (h:k<g.thr.length),14<g.thr[k].length->Z2n g=3:=λk h h2=>by
  unfold Z2n Z2X
  have:(g.thr.any λl=>decide (14<l.length))=true:=List.any_eq_true.2 ⟨_,Y03 h,decide_eq_true h2⟩
  rw[this];simp
 have hlongF:(∀k (h:k<g.thr.length),¬14<g.thr[k].length)->Z2X g=false:=λh=>by
  unfold Z2X
  rw[decide_eq_false c1,decide_eq_false c2]
  simp only[Bool.false_or]
  rw[Bool.eq_false_iff]
  intro hc
  obtain⟨l,hl,h2⟩:=List.any_eq_true.1 hc
  obtain⟨k,hk,rfl⟩:=Y0n hl
  exact h k hk (of_decide_eq_true h2)
 obtain⟨O,hO,p1,p2,p3,-⟩:=fams (P:=Y00) (gl:=gl) [
  { I:=DEv,f:=21,G:=λ_=>True,A:=λe=>[g.av,.agg (evC e)],R:=λe=>.bool (Z3l g.ini.length e),body:=(by kernel_rfl),inj:=(λi j _ _ h=>by rw[Z1N i j (by simpa using h)]),ok:=(λe _=>⟨rfl,ZhR g e⟩) },
  { I:=DId×DId,f:=22,G:=λx=>okD x.1/\okD x.2,A:=λx=>[g.av,.agg (idC x.1),.agg (idC x.2)],R:=λx=>.bool (ZcH g x.1 x.2),body:=(by kernel_rfl),inj:=(λi j _ _ h=>by obtain⟨a,b⟩:=i;obtain⟨a',b'⟩:=j;simp only[List.cons.injEq,AV.agg.injEq,and_true,true_and]at h;rw[Z3S a a' h.1,Z3S b b' h.2]),ok:=(λx h=>⟨rfl,ZjJ g hg _ _ h.1 h.2⟩) },
  { I:=Nat,f:=23,G:=λx=>x<g.ord.length/\∀l∈g.thr,l.length<=14,A:=λx=>[g.av,.int .i64 x],R:=λx=>.bool (Z1t g x ((g.ord[x]?).getD [])),body:=(by kernel_rfl),inj:=(λi j _ _ h=>by simp only[List.cons.injEq,AV.int.injEq,and_true,true_and]at h;rw[Int.ofNat.inj h]),ok:=(λx h=>⟨rfl,by have:=Zeg (gl:=gl) g hg (by omega) h.2 x h.1;rw[Y0d h.1];exact this⟩) }] rfl
 have q1:∀e H,Z02 Y00 O H 21 [g.av,.agg (evC e)]=some (.bool (Z3l g.ini.length e),H):=λe H=>p1 e trivial H
 have q2:∀d f,okD d->okD f->∀H,Z02 Y00 O H 22 [g.av,.agg (idC d),.agg (idC f)]=some (.bool (ZcH g d f),H):=λd f h1 h2 H=>p2 (d,f) ⟨h1,h2⟩ H
 have q3:∀x,(hx:x<g.ord.length)->(∀l∈g.thr,l.length<=14)->∀H,Z02 Y00 O H 23 [g.av,.int .i64 x]=some (.bool (Z1t g x g.ord[x]),H):=λx hx h H=>by
  have:=p3 x ⟨hx,h⟩ H
  dsimp only at this
  rw[Y0d hx]at this
  exact this
 clear p1 p2 p3
 rw[hav]at q1 q2 q3⊢
 clear hav
 generalize Z07 Z2b g.ini=XI at *
 generalize Z07 (λx=>[rsE x]) g.thr=XT at *
 generalize Z07 (λx=>[rsD x]) g.frm=XF at *
 generalize Z07 (λx=>[rsD x]) g.ord=XO at *
 have hgr:refsL [AV.rs g.ini.length 1 XI,.rs g.thr.length 1 XT,.rs g.frm.length 1 XF,.rs g.ord.length 1 XO] []=[]:=rfl
 refine Z09 follows Z0a hO Tryz.func9 rfl ?_
 repeat' ((conv=>whnf);first|refine stp ?_|with_reducible apply Z01<;>intro h)
 conv=>whnf
 refine⟨Nat,(λs=>s<=g.thr.length/\∀j (hj:j<g.thr.length),j<s->¬14<g.thr[j].length),(λs=>[(1,.ptr 0 0),(2,.int .i64 0),(3,.int .i64 (s:Nat))]),(λs=>HG [AV.rs g.ini.length 1 XI,.rs g.thr.length 1 XT,.rs g.frm.length 1 XF,.rs g.ord.length 1 XO]),(λs=>g.thr.length-s),⟨0,⟨Y05 _,λj _ h=>absurd h (Nat.not_lt_zero _)⟩,?_⟩,?_⟩
 · refine Z65 rfl hgr rfl ?_
   exact wks
 rintro k ⟨hk,hno⟩
 dsimp only at *
 by_cases hlt:k<g.thr.length
 · have e3:decide ((k:Int)<(g.thr.length:Int))=true:=by simpa using hlt
   have hx1:=hT k hlt
   have h3:=hlongT k hlt
   have hl:g.thr[k].length<=9223372036854775807:=(hg.2.1.2 _ (Y03 hlt)).1
   have hnn:¬14<g.thr[k].length->∀j (hj:j<g.thr.length),j<k+1->¬14<g.thr[j].length:=λh j hj hjk=>by
    by_cases hj2:j=k
    ·subst hj2;exact h
    ·exact hno j hj (by omega)
   generalize g.thr[k]=l at *
   have hx1':tk 1 (List.drop (k*1) XT)=some [.rs l.length 5 (Z07 evC l)]:=hx1
   simp only[HG]
   by_cases hbig:14<l.length
   · have e4:decide ((l.length:Int)>14)=true:=decide_eq_true (by omega)
     rw[h3 hbig]
     repeat' ((conv=>whnf);first|(with_reducible refine ixJ k rfl ?_ ?_;focus omega)|(refine exI hx1' ?_)|refine stp ?_|with_reducible apply Z01<;>intro h)
     all_goals rfl
   · have e4:decide ((l.length:Int)>14)=false:=decide_eq_false (by omega)
     repeat' ((conv=>whnf);first|(with_reducible refine ixJ k rfl ?_ ?_;focus omega)|(refine exI hx1' ?_)|refine stp ?_|with_reducible apply Z01<;>intro h)
     conv=>whnf
     refine⟨k+1,⟨hlt,hnn hbig⟩,by show g.thr.length-(k+1)<g.thr.length-k;omega,?_⟩
     (try dsimp only)
     refine Z65 rfl hgr rfl ?_
     exact wks
 have ek:k=g.thr.length:=by omega
 subst ek
 have e3:decide (((g.thr.length:Nat):Int)<(g.thr.length:Int))=false:=decide_eq_false (by omega)
 have hlong:=hlongF λj hj=>hno j hj hj
 obtain⟨s1,s2,s3⟩:=Z8S hlong
 have e0:Z2n g=Zm7 (Z7K g):=by unfold Z2n Zm7;rw[hlong];rfl
 rw[e0]
 clear hlongT hlongF hno e0
 by_cases hl1:g.frm.length=g.thr.length
 rotate_left
 · have n1:((g.frm.length:Int) != (g.thr.length:Int))=true:=by simp;omega
   have e0:Z7K g=false:=by
    unfold Z7K
    have:(g.frm.length==g.thr.length)=false:=by simpa using hl1
    rw[this];rfl
   rw[e0]
   simp only[HG]
   repeat' ((conv=>whnf);first|refine stp ?_|with_reducible apply Z01<;>intro h)
   all_goals rfl
 have n1:((g.frm.length:Int) != (g.thr.length:Int))=false:=by rw[hl1];simp
 by_cases hl2:g.ord.length=g.ini.length
 rotate_left
 · have n2:((g.ord.length:Int) != (g.ini.length:Int))=true:=by simp;omega
   have e0:Z7K g=false:=by
    unfold Z7K
    have:(g.ord.length==g.ini.length)=false:=by simpa using hl2
    rw[this];simp
   rw[e0]
   simp only[HG]
   repeat' ((conv=>whnf);first|refine stp ?_|with_reducible apply Z01<;>intro h)
   all_goals rfl
 have n2:((g.ord.length:Int) != (g.ini.length:Int))=false:=by rw[hl2];simp
 obtain⟨RR,hRR⟩:∃R,R=Z7K g:=⟨_,rfl⟩
 rw[<- hRR]
 have h0:(Zgt g.ini.length (g.thr.drop 0) (g.frm.drop 0)&&(Z6l g 0 g.thr g.frm&&Z4E g 0 g.ord))=RR:=by
  rw[hRR];unfold Z7K;simp[hl1,hl2]
 clear hRR
 simp only[HG]
 repeat' ((conv=>whnf);first|refine stp ?_|with_reducible apply Z01<;>intro h)
 conv=>whnf
 refine⟨Nat,(λs=>s<=g.thr.length/\(Zgt g.ini.length (g.thr.drop s) (g.frm.drop s)&&(Z6l g 0 g.thr g.frm&&Z4E g 0 g.ord))=RR/\∀j (hj:j<g.thr.length) (hj':j<g.frm.length),j<s->g.frm[j].length=g.thr[j].length),(λs=>[(1,.ptr 0 0),(2,.int .i64 0),(4,.int .i64 (s:Nat))]),(λs=>HG [AV.rs g.ini.length 1 XI,.rs g.thr.length 1 XT,.rs g.frm.length 1 XF,.rs g.ord.length 1 XO]),(λs=>g.thr.length-s),⟨0,⟨Y05 _,h0,λj _ _ h=>absurd h (Nat.not_lt_zero _)⟩,?_⟩,?_⟩
 · refine Z65 rfl hgr rfl ?_
   exact wks
 rintro k ⟨hk,hr,hsame⟩
 dsimp only at *
 clear h0
 by_cases hlt:k<g.thr.length
 · have e4:decide ((k:Int)<(g.thr.length:Int))=true:=by simpa using hlt
   have hlf:k<g.frm.length:=by omega
   have hx1:=hT k hlt
   have hx2:=hF k hlf
   have hl14:=s3 _ (Y03 hlt)
   rw[Y07 hlt,Y07 hlf]at hr
   simp only[Zgt]at hr
   have hl:g.frm[k].length<=9223372036854775807:=(hg.2.2.1.2 _ (Y03 hlf)).1
   have hnn:g.frm[k].length=g.thr[k].length->∀j (hj:j<g.thr.length) (hj':j<g.frm.length),j<k+1->g.frm[j].length=g.thr[j].length:=λh j hj hj' hjk=>by
    by_cases hj2:j=k
    ·subst hj2;exact h
    ·exact hsame j hj hj' (by omega)
   generalize g.thr[k]=l at *
   generalize g.frm[k]=f at *
   have hx1':tk 1 (List.drop (k*1) XT)=some [.rs l.length 5 (Z07 evC l)]:=hx1
   have hx2':tk 1 (List.drop (k*1) XF)=some [.rs f.length 2 (Z07 idC f)]:=hx2
   have hL:=λi (hi:i<l.length)=>Z0f (f:=evC) (k:=5) (λ_=>rfl) l i hi
   generalize Z07 evC l=XL at *
   generalize Z07 idC f=XD at *
   clear hx1 hx2
   simp only[HG]
   by_cases hlen:f.length=l.length
   rotate_left
   · have n3:((f.length:Int) != (l.length:Int))=true:=by simp;omega
     have hr2:RR=false:=by
      rw[<- hr]
      have:(f.length==l.length)=false:=by simpa using hlen
      rw[this];rfl
     subst hr2
     repeat' ((conv=>whnf);first|(with_reducible refine ixJ k rfl ?_ ?_;focus omega)|(refine exI hx1' ?_)|(refine exI hx2' ?_)|refine stp ?_|with_reducible apply Z01<;>intro h)
     all_goals rfl
   have n3:((f.length:Int) != (l.length:Int))=false:=by rw[hlen];simp
   have hbe:(f.length==l.length)=true:=by simpa using hlen
   rw[hbe]at hr
   simp only[Y04]at hr
   generalize hF3:Zgt g.ini.length (g.thr.drop (k+1)) (g.frm.drop (k+1))=F3 at *
   generalize hREST:(Z6l g 0 g.thr g.frm&&Z4E g 0 g.ord)=REST at *
   repeat' ((conv=>whnf);first|(with_reducible refine ixJ k rfl ?_ ?_;focus omega)|(refine exI hx1' ?_)|(refine exI hx2' ?_)|refine stp ?_|with_reducible apply Z01<;>intro h)
   conv=>whnf
   refine⟨Nat,(λs=>s<=l.length/\((l.drop s).all (Z3l g.ini.length)&&F3&&REST)=RR),(λs=>[(1,.ptr 0 0),(2,.int .i64 0),(4,.int .i64 (k:Nat)),(5,.int .i64 (s:Nat))]),(λs=>HG [AV.rs g.ini.length 1 XI,.rs g.thr.length 1 XT,.rs g.frm.length 1 XF,.rs g.ord.length 1 XO]),(λs=>l.length-s),⟨0,⟨Y05 _,hr⟩,?_⟩,?_⟩
   · refine Z65 rfl hgr rfl ?_
     exact wks
   rintro i ⟨hi,hri⟩
   dsimp only at *
   by_cases hit:i<l.length
   · have e5:decide ((i:Int)<(l.length:Int))=true:=by simpa using hit
     have hy1:=hL i hit
     rw[Y07 hit]at hri
     simp only[List.all_cons]at hri
     have q1e:=q1 l[i]
     generalize l[i]=e at *
     generalize Z3l g.ini.length e=b1 at *
     simp only[evC]at hy1 q1e
     simp only[HG]
     cases b1
     · have hr2:RR=false:=by rw[<- hri];rfl
       subst hr2
       repeat' ((conv=>whnf);first|with_reducible refine exI (q1e _) ?_|(with_reducible refine ixJ k rfl ?_ ?_;focus omega)|(with_reducible refine ixJ i rfl ?_ ?_;focus omega)|(refine exI hx1' ?_)|refine exI hy1 ?_|refine stp ?_|with_reducible apply Z01<;>intro h)
       all_goals rfl
     · simp only[Y04]at hri
       repeat' ((conv=>whnf);first|with_reducible refine exI (q1e _) ?_|(with_reducible refine ixJ k rfl ?_ ?_;focus omega)|(with_reducible refine ixJ i rfl ?_ ?_;focus omega)|(refine exI hx1' ?_)|refine exI hy1 ?_|refine stp ?_|with_reducible apply Z01<;>intro h)
       conv=>whnf
       refine⟨i+1,⟨hit,hri⟩,by show l.length-(i+1)<l.length-i;omega,?_⟩
       (try dsimp only)
       refine Z65 rfl hgr rfl ?_
       exact wks
   have ei:i=l.length:=by omega
   subst ei
   have e5:decide (((l.length:Nat):Int)<(l.length:Int))=false:=decide_eq_false (by omega)
   rw[Y0g]at hri
   simp only[List.all_nil,Y04]at hri
   simp only[HG]
   repeat' ((conv=>whnf);first|(with_reducible refine ixJ k rfl ?_ ?_;focus omega)|(refine exI hx1' ?_)|refine stp ?_|with_reducible apply Z01<;>intro h)
   conv=>whnf
   refine⟨k+1,⟨hlt,by rw[hF3];exact hri,hnn hlen⟩,by show g.thr.length-(k+1)<g.thr.length-k;omega,?_⟩
   (try dsimp only)
   refine Z65 rfl hgr rfl ?_
   exact wks
 have ek:k=g.thr.length:=by omega
 subst ek
 have e4:decide (((g.thr.length:Nat):Int)<(g.thr.length:Int))=false:=decide_eq_false (by omega)
 rw[Y0g]at hr
 have h0:(Z6l g 0 (g.thr.drop 0) (g.frm.drop 0)&&Z4E g 0 g.ord)=RR:=by
  rw[<- hr];simp[Zgt]
 have hsame2:∀j (hj:j<g.thr.length) (hj':j<g.frm.length),g.frm[j].length=g.thr[j].length:=λj hj hj'=>hsame j hj hj' hj
 clear hr hsame hk
 simp only[HG]
 repeat' ((conv=>whnf);first|refine stp ?_|with_reducible apply Z01<;>intro h)
 conv=>whnf
 refine⟨Nat,(λs=>s<=g.thr.length/\(Z6l g s (g.thr.drop s) (g.frm.drop s)&&Z4E g 0 g.ord)=RR),(λs=>[(1,.ptr 0 0),(2,.int .i64 0),(6,.int .i64 (s:Nat))]),(λs=>HG [AV.rs g.ini.length 1 XI,.rs g.thr.length 1 XT,.rs g.frm.length 1 XF,.rs g.ord.length 1 XO]),(λs=>g.thr.length-s),⟨0,⟨Y05 _,h0⟩,?_⟩,?_⟩
 · refine Z65 rfl hgr rfl ?_
   exact wks
 rintro k ⟨hk,hr⟩
 dsimp only at *
 clear h0
 by_cases hlt:k<g.thr.length
 · have e5:decide ((k:Int)<(g.thr.length:Int))=true:=by simpa using hlt
   have hlf:k<g.frm.length:=by omega
   have hx1:=hT k hlt
   have hx2:=hF k hlf
   have hl14:=s3 _ (Y03 hlt)
   rw[Y07 hlt,Y07 hlf]at hr
   simp only[Z6l]at hr
   have okf:=(hg.2.2.1.2 _ (Y03 hlf)).2
   have hsm:=hsame2 k hlt hlf
   have hsrc:∀(i:Nat)(hi:i<g.thr[k].length)(f:DId),ZcH g ⟨(k:Int)+1,i⟩ f=ZeS g ⟨(k:Int)+1,i⟩ g.thr[k][i] f:=λi hi f=>Zfg g k i hlt hi f
   generalize g.thr[k]=l at *
   generalize g.frm[k]=f at *
   have hx1':tk 1 (List.drop (k*1) XT)=some [.rs l.length 5 (Z07 evC l)]:=hx1
   have hx2':tk 1 (List.drop (k*1) XF)=some [.rs f.length 2 (Z07 idC f)]:=hx2
   have hD:=λi (hi:i<f.length)=>Z0f (f:=idC) (k:=2) (λ_=>rfl) f i hi
   generalize Z07 evC l=XL at *
   generalize Z07 idC f=XD at *
   clear hx1 hx2
   generalize hF3:Z6l g (k+1) (g.thr.drop (k+1)) (g.frm.drop (k+1))=F3 at *
   generalize hREST:Z4E g 0 g.ord=REST at *
   simp only[HG]
   repeat' ((conv=>whnf);first|(with_reducible refine ixJ k rfl ?_ ?_;focus omega)|(refine exI hx1' ?_)|(refine exI hx2' ?_)|refine stp ?_|with_reducible apply Z01<;>intro h)
   conv=>whnf
   refine⟨Nat,(λs=>s<=l.length/\(ZjH g k s (l.drop s) (f.drop s)&&F3&&REST)=RR),(λs=>[(1,.ptr 0 0),(2,.int .i64 0),(6,.int .i64 (k:Nat)),(7,.int .i64 (s:Nat))]),(λs=>HG [AV.rs g.ini.length 1 XI,.rs g.thr.length 1 XT,.rs g.frm.length 1 XF,.rs g.ord.length 1 XO]),(λs=>l.length-s),⟨0,⟨Y05 _,hr⟩,?_⟩,?_⟩
   · refine Z65 rfl hgr rfl ?_
     exact wks
   rintro i ⟨hi,hri⟩
   dsimp only at *
   by_cases hit:i<l.length
   · have e6:decide ((i:Int)<(l.length:Int))=true:=by simpa using hit
     have hif:i<f.length:=by omega
     have hy2:=hD i hif
     rw[Y07 hit,Y07 hif]at hri
     simp only[ZjH]at hri
     have okd:=okf _ (Y03 hif)
     have w1:IntKind.i64.wrap ((k:Int)+1)=(k:Int)+1:=Z1i (by omega) (by omega)
     have okid:okD ⟨(k:Int)+1,i⟩:=⟨⟨by show -9223372036854775808<=(k:Int)+1;omega,by show (k:Int)+1<=_;omega⟩,⟨by show -9223372036854775808<=(i:Int);omega,by show (i:Int)<=_;omega⟩⟩
     have q2e:=q2 ⟨(k:Int)+1,i⟩ f[i] okid okd
     rw[hsrc i hit]at q2e
     generalize l[i]=e at *
     generalize f[i]=d at *
     generalize ZeS g ⟨(k:Int)+1,i⟩ e d=b1 at *
     simp only[idC]at hy2 q2e
     simp only[HG]
     cases b1
     · have hr2:RR=false:=by rw[<- hri];rfl
       subst hr2
       repeat' ((conv=>whnf);first|with_reducible refine exI (q2e _) ?_|(with_reducible refine exW w1 ?_)|(with_reducible refine ixJ k rfl ?_ ?_;focus omega)|(with_reducible refine ixJ i rfl ?_ ?_;focus omega)|(refine exI hx1' ?_)|(refine exI hx2' ?_)|refine exI hy2 ?_|refine stp ?_|with_reducible apply Z01<;>intro h)
       all_goals rfl
     · simp only[Y04]at hri
       repeat' ((conv=>whnf);first|with_reducible refine exI (q2e _) ?_|(with_reducible refine exW w1 ?_)|(with_reducible refine ixJ k rfl ?_ ?_;focus omega)|(with_reducible refine ixJ i rfl ?_ ?_;focus omega)|(refine exI hx1' ?_)|(refine exI hx2' ?_)|refine exI hy2 ?_|refine stp ?_|with_reducible apply Z01<;>intro h)
       conv=>whnf
       refine⟨i+1,⟨hit,hri⟩,by show l.length-(i+1)<l.length-i;omega,?_⟩
       (try dsimp only)
       refine Z65 rfl hgr rfl ?_
       exact wks
   have ei:i=l.length:=by omega
   subst ei
   have e6:decide (((l.length:Nat):Int)<(l.length:Int))=false:=decide_eq_false (by omega)
   rw[Y0g]at hri
   simp only[ZjH,Y04]at hri
   simp only[HG]
   repeat' ((conv=>whnf);first|(with_reducible refine ixJ k rfl ?_ ?_;focus omega)|(refine exI hx1' ?_)|refine stp ?_|with_reducible apply Z01<;>intro h)
   conv=>whnf
   refine⟨k+1,⟨hlt,by rw[hF3];exact hri⟩,by show g.thr.length-(k+1)<g.thr.length-k;omega,?_⟩
   (try dsimp only)
   refine Z65 rfl hgr rfl ?_
   exact wks
 have ek:k=g.thr.length:=by omega
 subst ek
 have e5:decide (((g.thr.length:Nat):Int)<(g.thr.length:Int))=false:=decide_eq_false (by omega)
 rw[Y0g]at hr
 have h0:Z4E g 0 (g.ord.drop 0)=RR:=by
  rw[<- hr];simp[Z6l]
 clear hr hk hT hF
 simp only[HG]
 repeat' ((conv=>whnf);first|refine stp ?_|with_reducible apply Z01<;>intro h)
 conv=>whnf
 refine⟨Nat,(λs=>s<=g.ini.length/\Z4E g s (g.ord.drop s)=RR),(λs=>[(1,.ptr 0 0),(2,.int .i64 0),(8,.int .i64 (s:Nat))]),(λs=>HG [AV.rs g.ini.length 1 XI,.rs g.thr.length 1 XT,.rs g.frm.length 1 XF,.rs g.ord.length 1 XO]),(λs=>g.ini.length-s),⟨0,⟨Y05 _,h0⟩,?_⟩,?_⟩
 · refine Z65 rfl hgr rfl ?_
   exact wks
 rintro k ⟨hk,hr⟩
 dsimp only at *
 clear h0
 by_cases hlt:k<g.ini.length
 · have e6:decide ((k:Int)<(g.ini.length:Int))=true:=by simpa using hlt
   have hlo:k<g.ord.length:=by omega
   rw[Y07 hlo]at hr
   simp only[Z4E]at hr
   have q3e:=q3 k hlo s3
   generalize Z1t g k g.ord[k]=b1 at *
   simp only[HG]
   cases b1
   · have hr2:RR=false:=by rw[<- hr];rfl
     subst hr2
     repeat' ((conv=>whnf);first|with_reducible refine exI (q3e _) ?_|refine stp ?_|with_reducible apply Z01<;>intro h)
     all_goals rfl
   · simp only[Y04]at hr
     repeat' ((conv=>whnf);first|with_reducible refine exI (q3e _) ?_|refine stp ?_|with_reducible apply Z01<;>intro h)
     conv=>whnf
     refine⟨k+1,⟨hlt,hr⟩,by show g.ini.length-(k+1)<g.ini.length-k;omega,?_⟩
     (try dsimp only)
     refine Z65 rfl hgr rfl ?_
     exact wks
 have ek:k=g.ini.length:=by omega
 subst ek
 have e6:decide (((g.ini.length:Nat):Int)<(g.ini.length:Int))=false:=decide_eq_false (by omega)
 rw[<- hl2,Y0g]at hr
 have hr2:RR=true:=hr.symm
 subst hr2
 simp only[HG]
 repeat' ((conv=>whnf);first|refine stp ?_|with_reducible apply Z01<;>intro h)
 all_goals rfl
end
end
section
section
abbrev fmG:Fam Y00 runLives.gl:={ I:=List DGr,f:=11,G:=λl=>okGs l,A:=λl=>[rsG l,rsG l],R:=λl=>.bool true,body:=(by kernel_rfl),inj:=(λi j _ _ h=>rfl),ok:=(λl h=>⟨rfl,Z8g l h⟩) }
abbrev fmC:Fam Y00 runLives.gl:={ I:=DGr,f:=9,G:=λg=>okG g,A:=λg=>[g.av],R:=λg=>.int .i64 (Z2n g),body:=(by kernel_rfl),inj:=(λi j _ _ h=>by rw[Zdg (List.cons.inj h).1]),ok:=(λg h=>⟨rfl,Zfx g h⟩) }
end
end
end Go.Proofs.YtpcpdlfhcahjgaaGreatDoor.lex
section
namespace Go.Proofs.YtpcpdlfhcahjgaaGreatDoor.lex
open Go.Abs Go.RowKit
theorem Zmt(l:List DGr)(x y z:Int)(hl:okGs l)(hf:Zav l=false):ValOK Y00 runLives.gl 3 [rsG l,.int .i64 x,.int .u8 y,.int .i64 z] (.bool true):=by
 obtain⟨O,hO,p1,p2,-⟩:=fams (P:=Y00) (gl:=runLives.gl) [fmL,fmF] rfl
 have q1:∀H,Z02 Y00 O H 6 []=some (.bool true,H):=p1 () trivial
 have q2:∀H,Z02 Y00 O H 7 [.rs l.length 4 (Z07 grC l),.int .i64 8,.int .i64 60]=some (.bool false,H):=by rw[<- hf];exact p2 l hl
 clear p1 p2
 refine Z09 follows Z0a hO Y08 rfl ?_
 repeat' ((conv=>whnf);first|with_reducible refine exI (q1 _) ?_|with_reducible refine exI (q2 _) ?_|refine stp ?_|with_reducible apply Z01<;>intro h)
 all_goals rfl
theorem Znn(l:List DGr)(x y z:Int)(hl:okGs l)(hf:Zav l=true)(ha:Z28 l=false):ValOK Y00 runLives.gl 3 [rsG l,.int .i64 x,.int .u8 y,.int .i64 z] (.bool true):=by
 obtain⟨O,hO,p1,p2,p3,p4,-⟩:=fams (P:=Y00) (gl:=runLives.gl) [fmL,fmF,fmT,fmC] rfl
 have q1:∀H,Z02 Y00 O H 6 []=some (.bool true,H):=p1 () trivial
 have q2:∀H,Z02 Y00 O H 7 [.rs l.length 4 (Z07 grC l),.int .i64 8,.int .i64 60]=some (.bool true,H):=by rw[<- hf];exact p2 l hl
 have q3:∀H,Z02 Y00 O H 8 [.rs l.length 4 (Z07 grC l)]=some (.tuple [.str [],.int .i64 2],H):=by rw[<- Z0H ha];exact p3 l ⟨hl.2,by have:=Z4i hf;omega⟩
 have q4:∀i (hi:i<l.length),∀H,Z02 Y00 O H 9 [.agg (grC l[i])]=some (.int .i64 (Z2n l[i]),H):=λi hi=>p4 l[i] (hl.2 _ (Y03 hi))
 have hat:=λi (hi:i<l.length)=>Z0f (f:=grC) (k:=4) (λ_=>rfl) l i hi
 have hln:l.length<=8:=Z4i hf
 clear p1 p2 p3 p4
 show ValOK _ _ _ [.rs l.length 4 (Z07 grC l),.int .i64 x,.int .u8 y,.int .i64 z] _
 generalize hY:Z07 grC l=Y at *
 refine Z09 follows Z0a hO Y08 rfl ?_
 repeat' ((conv=>whnf);first|with_reducible refine exI (q1 _) ?_|with_reducible refine exI (q2 _) ?_|with_reducible refine exI (q3 _) ?_|refine stp ?_|with_reducible apply Z01<;>intro h)
 conv=>whnf
 refine⟨Nat,(λi=>i<=l.length/\∀j (hj:j<l.length),j<i->Z2n l[j]=0),(λi=>[(0,.rs l.length 4 Y),(10,.int .i64 2),(11,.int .i64 i)]),(λi=>[]),(λi=>l.length-i),⟨0,⟨Y05 _,λj _ h=>by omega⟩,FgL.mk0 rfl ?_⟩,?_⟩
 ·exact wks
 rintro i ⟨hi,hall⟩
 dsimp only
 by_cases hlt:i<l.length
 · have e1:decide ((i:Int)<(l.length:Int))=true:=decide_eq_true (by omega)
   have hx:=hat i hlt
   have qx:=q4 i hlt
   obtain⟨c,hc⟩:∃c,Z2n l[i]=c:=⟨_,rfl⟩
   rw[hc]at qx
   generalize hg:l[i]=g at *
   obtain⟨gi,gt,gf,go⟩:=g
   by_cases h0:c=0
   · subst h0
     repeat' ((conv=>whnf);first|(with_reducible refine ixJ i rfl ?_ ?_;focus omega)|refine exI hx ?_|with_reducible refine exI (qx _) ?_|refine stp ?_|with_reducible apply Z01<;>intro h)
     conv=>whnf
     refine⟨i+1,⟨hlt,λj hj h=>?_⟩,by show l.length-(i+1)<l.length-i;omega,FgL.mk0 rfl ?_⟩
     · by_cases hji:j=i
       ·subst hji;rw[hg];exact hc
       ·exact hall j hj (by omega)
     ·exact wks
   · have e2:(c != 0)=true:=by simpa using h0
     repeat' ((conv=>whnf);first|(with_reducible refine ixJ i rfl ?_ ?_;focus omega)|refine exI hx ?_|with_reducible refine exI (qx _) ?_|refine stp ?_|with_reducible apply Z01<;>intro h)
     all_goals rfl
 · exfalso
   have:Z28 l=true:=(Z2j l).2 λg hg=>by
    obtain⟨j,hj,rfl⟩:=Y0n hg
    exact Zfy (hall j hj (by omega))
   rw[ha]at this;cases this
theorem cvS:Z5y Y00 38 9=true:=by kernel_rfl
theorem ZkT (l : List DGr) (x z : Int) (b : UInt8) (k : Nat) (c : Int) (T t : List UInt8) (hl : okGs l) (hf : Zav l = true) (ha : Z28 l = true) (hT : Z0b l = T) (hk : k < T.length) (hx : Z4D x T.length = k) (hz : Z4D z 3 = c)
  (ht:t=if c=1 then T.take k++T.drop (k+1) else if c=2 then T.take k++[b]++T.drop (k+1) else T.take k++[b]++T.drop k) (hc:c=0\/c=1\/c=2):ValOK Y00 runLives.gl 3 [rsG l,.int .i64 x,.int .u8 b.toNat,.int .i64 z] (.bool true):=by
 have hg:∀g∈l,okG g/\Z0e g=0:=λg h=>⟨hl.2 g h,(Z2j l).1 ha g h⟩
 have hln:l.length<=8:=Z4i hf
 have hTl:T.length<=160000:=by rw[<- hT];have:=Z2p l hg;omega
 have htl:t.length<=160001:=by
  rw[ht]
  split
  ·simp only[Y0f,Y0c,Y0j];omega
  ·split<;>simp only[Y0f,Y0c,Y0j,Y0b,Y0p]<;>omega
 obtain⟨O,hO,p1,p2,p3,p4,p5,p6,-⟩:=fams (P:=Y00) (gl:=runLives.gl) [fmL,fmF,fmT,fmA,fmG,fmP] rfl
 have q1:∀H,Z02 Y00 O H 6 []=some (.bool true,H):=p1 () trivial
 have q2:∀H,Z02 Y00 O H 7 [.rs l.length 4 (Z07 grC l),.int .i64 8,.int .i64 60]=some (.bool true,H):=by rw[<- hf];exact p2 l hl
 have q3:∀H,Z02 Y00 O H 8 [.rs l.length 4 (Z07 grC l)]=some (.tuple [.str T,.int .i64 0],H):=by rw[<- hT,<- Z0G ha];exact p3 l ⟨hl.2,by omega⟩
 have q4:∀H,Z02 Y00 O H 10 [.str T]=some (.tuple [.rs l.length 4 (Z07 grC l),.int .i64 0],H):=by
  have:=p4 T (by show T.length<=_;omega)
  rw[<- hT]at this⊢
  have e:=Z39 hg
  simp only[e]at this
  exact this
 have q5:∀H,Z02 Y00 O H 11 [.rs l.length 4 (Z07 grC l),.rs l.length 4 (Z07 grC l)]=some (.bool true,H):=p5 l hl
 have q6:∀H,Z02 Y00 O H 12 [.int .i64 x,.int .i64 T.length]=some (.int .i64 k,H):=by rw[<- hx];exact p6 (x,T.length) ⟨by show 0<T.length;omega,by show T.length<=_;omega⟩
 have q7:∀H,Z02 Y00 O H 12 [.int .i64 z,.int .i64 3]=some (.int .i64 c,H):=by rw[<- hz];exact p6 (z,3) ⟨show 0<3 by decide,show 3<=9223372036854775807 by decide⟩
 have hcs:=Z8t t (by omega)
 have q8:∀H,Z02 Y00 O H 10 [.str t]=some (Zbk t,H):=p4 t (by show t.length<=_;omega)
 have q9:∀m:List DGr,(∀g∈m,okG g/\Z0e g=0)->m.length<=1048576->∀H,Z02 Y00 O H 8 [.rs m.length 4 (Z07 grC m)]=some (.tuple [.str (Z0b m),.int .i64 0],H):=λm h hm=>by
  rw[<- Z0G ((Z2j m).2 λg hg=>(h g hg).2)]
  exact p3 m ⟨λg hg=>(h g hg).1,hm⟩
 clear p1 p2 p3 p4 p5 p6
 have w0:(T.length:Int)≠0:=by omega
 have w1:((T.length:Int)==0)=false:=by simpa using w0
 have w2:IntKind.i64.wrap ((k:Int)+1)=((k+1:Nat):Int):=by rw[Z1i (by omega) (by omega)];omega
 show ValOK _ _ _ [.rs l.length 4 (Z07 grC l),.int .i64 x,.int .u8 b.toNat,.int .i64 z] _
 generalize Z07 grC l=Y at *
 have l1:(T.take k).length+[b].length<=9223372036854775807:=by rw[Y0c,Y0b,Y0p];omega
 have l2:(T.take k++[b]).length+(T.drop k).length<=9223372036854775807:=by rw[Y0f,Y0c,Y0j,Y0b,Y0p];omega
 have l3:(T.take k).length+(T.drop (k+1)).length<=9223372036854775807:=by rw[Y0c,Y0j];omega
 have l4:(T.take k++[b]).length+(T.drop (k+1)).length<=9223372036854775807:=by rw[Y0f,Y0c,Y0j,Y0b,Y0p];omega
 rcases hc with rfl|rfl|rfl
 · rw[if_neg (by decide),if_neg (by decide)]at ht
   subst ht
   rcases hcs with h|⟨m,h,hm,hmg,hml⟩
   · rw[h]at q8
     have qm:True:=trivial
     refine Z09 follows Z0a hO Y08 rfl ?_
     repeat' ((conv=>whnf);first|with_reducible refine exI (q1 _) ?_|with_reducible refine exI (q2 _) ?_|with_reducible refine exI (q3 _) ?_|with_reducible refine exI (q4 _) ?_|with_reducible refine exI (q5 _) ?_|with_reducible refine exI (q6 _) ?_|with_reducible refine exI (q7 _) ?_|with_reducible refine exI (q8 _) ?_|with_reducible refine exI (qm _) ?_|(with_reducible refine exW w2 ?_)|refine exI (Z3n [b] rfl rfl cvS rfl rfl) ?_|(with_reducible refine Y01 l1 ?_)|(with_reducible refine Y01 l2 ?_)|(with_reducible refine Y01 l3 ?_)|(with_reducible refine Y01 l4 ?_)|refine stp ?_|with_reducible apply Z01<;>intro h)
     all_goals rfl
   · have qm:=q9 m hmg hml
     rw[hm]at qm
     rw[h]at q8
     unfold rsG at q8
     have e3:((T.take k++[b]++T.drop k)==(T.take k++[b]++T.drop k))=true:=by simp
     have e4:((T.take k++T.drop (k+1))==(T.take k++T.drop (k+1)))=true:=by simp
     have e5:((T.take k++[b]++T.drop (k+1))==(T.take k++[b]++T.drop (k+1)))=true:=by simp
     generalize Z07 grC m=Z at *
     refine Z09 follows Z0a hO Y08 rfl ?_
     repeat' ((conv=>whnf);first|with_reducible refine exI (q1 _) ?_|with_reducible refine exI (q2 _) ?_|with_reducible refine exI (q3 _) ?_|with_reducible refine exI (q4 _) ?_|with_reducible refine exI (q5 _) ?_|with_reducible refine exI (q6 _) ?_|with_reducible refine exI (q7 _) ?_|with_reducible refine exI (q8 _) ?_|with_reducible refine exI (qm _) ?_|(with_reducible refine exW w2 ?_)|refine exI (Z3n [b] rfl rfl cvS rfl rfl) ?_|(with_reducible refine Y01 l1 ?_)|(with_reducible refine Y01 l2 ?_)|(with_reducible refine Y01 l3 ?_)|(with_reducible refine Y01 l4 ?_)|refine stp ?_|with_reducible apply Z01<;>intro h)
     all_goals (show AV.bool _=AV.bool true;first|rw[e3]|rw[e4]|rw[e5])
 · rw[if_pos rfl]at ht
   subst ht
   rcases hcs with h|⟨m,h,hm,hmg,hml⟩
   · rw[h]at q8
     have qm:True:=trivial
     refine Z09 follows Z0a hO Y08 rfl ?_
     repeat' ((conv=>whnf);first|with_reducible refine exI (q1 _) ?_|with_reducible refine exI (q2 _) ?_|with_reducible refine exI (q3 _) ?_|with_reducible refine exI (q4 _) ?_|with_reducible refine exI (q5 _) ?_|with_reducible refine exI (q6 _) ?_|with_reducible refine exI (q7 _) ?_|with_reducible refine exI (q8 _) ?_|with_reducible refine exI (qm _) ?_|(with_reducible refine exW w2 ?_)|refine exI (Z3n [b] rfl rfl cvS rfl rfl) ?_|(with_reducible refine Y01 l1 ?_)|(with_reducible refine Y01 l2 ?_)|(with_reducible refine Y01 l3 ?_)|(with_reducible refine Y01 l4 ?_)|refine stp ?_|with_reducible apply Z01<;>intro h)
     all_goals rfl
   · have qm:=q9 m hmg hml
     rw[hm]at qm
     rw[h]at q8
     unfold rsG at q8
     have e3:((T.take k++[b]++T.drop k)==(T.take k++[b]++T.drop k))=true:=by simp
     have e4:((T.take k++T.drop (k+1))==(T.take k++T.drop (k+1)))=true:=by simp
     have e5:((T.take k++[b]++T.drop (k+1))==(T.take k++[b]++T.drop (k+1)))=true:=by simp
     generalize Z07 grC m=Z at *
     refine Z09 follows Z0a hO Y08 rfl ?_
     repeat' ((conv=>whnf);first|with_reducible refine exI (q1 _) ?_|with_reducible refine exI (q2 _) ?_|with_reducible refine exI (q3 _) ?_|with_reducible refine exI (q4 _) ?_|with_reducible refine exI (q5 _) ?_|with_reducible refine exI (q6 _) ?_|with_reducible refine exI (q7 _) ?_|with_reducible refine exI (q8 _) ?_|with_reducible refine exI (qm _) ?_|(with_reducible refine exW w2 ?_)|refine exI (Z3n [b] rfl rfl cvS rfl rfl) ?_|(with_reducible refine Y01 l1 ?_)|(with_reducible refine Y01 l2 ?_)|(with_reducible refine Y01 l3 ?_)|(with_reducible refine Y01 l4 ?_)|refine stp ?_|with_reducible apply Z01<;>intro h)
     all_goals (show AV.bool _=AV.bool true;first|rw[e3]|rw[e4]|rw[e5])
 · rw[if_neg (by decide),if_pos rfl]at ht
   subst ht
   rcases hcs with h|⟨m,h,hm,hmg,hml⟩
   · rw[h]at q8
     have qm:True:=trivial
     refine Z09 follows Z0a hO Y08 rfl ?_
     repeat' ((conv=>whnf);first|with_reducible refine exI (q1 _) ?_|with_reducible refine exI (q2 _) ?_|with_reducible refine exI (q3 _) ?_|with_reducible refine exI (q4 _) ?_|with_reducible refine exI (q5 _) ?_|with_reducible refine exI (q6 _) ?_|with_reducible refine exI (q7 _) ?_|with_reducible refine exI (q8 _) ?_|with_reducible refine exI (qm _) ?_|(with_reducible refine exW w2 ?_)|refine exI (Z3n [b] rfl rfl cvS rfl rfl) ?_|(with_reducible refine Y01 l1 ?_)|(with_reducible refine Y01 l2 ?_)|(with_reducible refine Y01 l3 ?_)|(with_reducible refine Y01 l4 ?_)|refine stp ?_|with_reducible apply Z01<;>intro h)
     all_goals rfl
   · have qm:=q9 m hmg hml
     rw[hm]at qm
     rw[h]at q8
     unfold rsG at q8
     have e3:((T.take k++[b]++T.drop k)==(T.take k++[b]++T.drop k))=true:=by simp
     have e4:((T.take k++T.drop (k+1))==(T.take k++T.drop (k+1)))=true:=by simp
     have e5:((T.take k++[b]++T.drop (k+1))==(T.take k++[b]++T.drop (k+1)))=true:=by simp
     generalize Z07 grC m=Z at *
     refine Z09 follows Z0a hO Y08 rfl ?_
     repeat' ((conv=>whnf);first|with_reducible refine exI (q1 _) ?_|with_reducible refine exI (q2 _) ?_|with_reducible refine exI (q3 _) ?_|with_reducible refine exI (q4 _) ?_|with_reducible refine exI (q5 _) ?_|with_reducible refine exI (q6 _) ?_|with_reducible refine exI (q7 _) ?_|with_reducible refine exI (q8 _) ?_|with_reducible refine exI (qm _) ?_|(with_reducible refine exW w2 ?_)|refine exI (Z3n [b] rfl rfl cvS rfl rfl) ?_|(with_reducible refine Y01 l1 ?_)|(with_reducible refine Y01 l2 ?_)|(with_reducible refine Y01 l3 ?_)|(with_reducible refine Y01 l4 ?_)|refine stp ?_|with_reducible apply Z01<;>intro h)
     all_goals (show AV.bool _=AV.bool true;first|rw[e3]|rw[e4]|rw[e5])
theorem Zms(l:List DGr)(x y z:Int)(hl:okGs l)(hf:Zav l=true)(ha:Z28 l=true)(hT:Z0b l=[]):ValOK Y00 runLives.gl 3 [rsG l,.int .i64 x,.int .u8 y,.int .i64 z] (.bool true):=by
 have hg:∀g∈l,okG g/\Z0e g=0:=λg h=>⟨hl.2 g h,(Z2j l).1 ha g h⟩
 have hln:l.length<=8:=Z4i hf
 obtain⟨O,hO,p1,p2,p3,p4,p5,-⟩:=fams (P:=Y00) (gl:=runLives.gl) [fmL,fmF,fmT,fmA,fmG] rfl
 have q1:∀H,Z02 Y00 O H 6 []=some (.bool true,H):=p1 () trivial
 have q2:∀H,Z02 Y00 O H 7 [.rs l.length 4 (Z07 grC l),.int .i64 8,.int .i64 60]=some (.bool true,H):=by rw[<- hf];exact p2 l hl
 have q3:∀H,Z02 Y00 O H 8 [.rs l.length 4 (Z07 grC l)]=some (.tuple [.str [],.int .i64 0],H):=by rw[<- hT,<- Z0G ha];exact p3 l ⟨hl.2,by omega⟩
 have q4:∀H,Z02 Y00 O H 10 [.str []]=some (.tuple [.rs l.length 4 (Z07 grC l),.int .i64 0],H):=by
  have:=p4 [] (by show 0<=_;omega)
  rw[<- hT]at this⊢
  have e:=Z39 hg
  simp only[e]at this
  exact this
 have q5:∀H,Z02 Y00 O H 11 [.rs l.length 4 (Z07 grC l),.rs l.length 4 (Z07 grC l)]=some (.bool true,H):=p5 l hl
 clear p1 p2 p3 p4 p5
 show ValOK _ _ _ [.rs l.length 4 (Z07 grC l),.int .i64 x,.int .u8 y,.int .i64 z] _
 generalize Z07 grC l=Y at *
 refine Z09 follows Z0a hO Y08 rfl ?_
 repeat' ((conv=>whnf);first|with_reducible refine exI (q1 _) ?_|with_reducible refine exI (q2 _) ?_|with_reducible refine exI (q3 _) ?_|with_reducible refine exI (q4 _) ?_|with_reducible refine exI (q5 _) ?_|refine stp ?_|with_reducible apply Z01<;>intro h)
 all_goals rfl
theorem db_law(l:List DGr)(x z:Int)(b:UInt8)(hl:okGs l):ValOK Y00 runLives.gl 3 [rsG l,.int .i64 x,.int .u8 b.toNat,.int .i64 z] (.bool true):=by
 cases hf:Zav l with
 |false=>exact Zmt l x _ z hl hf
 |true =>
  cases ha:Z28 l with
  |false=>exact Znn l x _ z hl hf ha
  |true =>
   by_cases hT:Z0b l=[]
   ·exact Zms l x _ z hl hf ha hT
   · have h0:0<(Z0b l).length:=List.length_pos_iff.2 hT
     obtain⟨k1,k2⟩:=Z6C x h0
     obtain⟨c1,c2⟩:=Z6C z (m:=3) (by decide)
     exact ZkT l x z b (Z4D x (Z0b l).length).toNat (Z4D z 3) (Z0b l) _ hl hf ha rfl (by omega) (by omega) rfl rfl (by omega)
end Go.Proofs.YtpcpdlfhcahjgaaGreatDoor.lex
namespace Go.Proofs.YtpcpdlfhcahjgaaGreatDoor.dbLaw
open Go.Abs Go.RowKit
def QG(u:AV):Prop:=∃l:List lex.DGr,u=lex.rsG l/\lex.okGs l
def QI(u:AV):Prop:=∃n,u = .int .i64 n/\(Lit.int .i64 n).wf=true
def QB(u:AV):Prop:=∃n,u = .int .u8 n/\(Lit.int .u8 n).wf=true
def Qs:List (AV->Prop):=[QG,QI,QB,QI]
theorem opens:Z4o Y00 Tryz.f3.params.toList Qs:=by
 rw[Tryz.params3]
 exact⟨lex.oc.opGs,Z4d Tryz.underlying3,Z4d Tryz.underlying5,Z4d Tryz.underlying3,trivial⟩
theorem Znr{n:Int}(h:(Lit.int .u8 n).wf=true):∃b:UInt8,n=(b.toNat:Int):=by
 have h':IntKind.u8.min<=n/\n<=IntKind.u8.max:=by simpa[Lit.wf]using h
 have h2:IntKind.u8.min=0:=rfl
 have h3:IntKind.u8.max=255:=rfl
 rw[h2,h3]at h'
 refine⟨UInt8.ofNat n.toNat,?_⟩
 rw[UInt8.toNat_ofNat']
 omega
theorem law(us:List AV)(h:ZiL Qs us):ValOK Y00 runLives.gl 3 us (.bool true):=by
 obtain⟨_,_,rfl,⟨l,rfl,hl⟩,h1⟩:=Z22 h
 obtain⟨_,_,rfl,⟨x,rfl,_⟩,h2⟩:=Z22 h1
 obtain⟨_,_,rfl,⟨b,rfl,hb⟩,h3⟩:=Z22 h2
 obtain⟨_,_,rfl,⟨z,rfl,_⟩,h4⟩:=Z22 h3
 cases Z9j h4
 obtain⟨b',rfl⟩:=Znr hb
 exact lex.db_law l x z b' hl
theorem solid:Solid Y00:=by unfold Solid;kernel_rfl
end Go.Proofs.YtpcpdlfhcahjgaaGreatDoor.dbLaw
end

/-
  Texts of this proof, one behind the other (part 7).
-/
import Derived.Test.YtajhailaofchlaaDoorXc6
set_option linter.unusedVariables false
set_option linter.unusedSimpArgs false
set_option maxRecDepth 100000
set_option maxHeartbeats 4000000
open Go.Proofs.Tryd renaming prog → Y00
open Go.Abs.FgLK renaming keep → Y01
open Nat renaming zero_le → Y02,ble_eq_true_of_le → Y03,le_refl → Y04
namespace Go.Proofs.YtajhailaofchlaaDoor.lex
open Go.Abs Go.RowKit
section
variable {gl:Glob}
theorem ZjF:Z0k Y00 runLives.gl 8 [] (.bool true):=by
 intro sn W cargs hg hR ha
 refine ((runLives.knownLives 8 [] [] (.bool true) [] (by kernel_rfl) sn noI W cargs hg hR ha).calls Tryd.func8).mono ?_
 rintro e W' ⟨v,sn',ι',rfl,hv,hs⟩
 cases hv.bool
 exact⟨_,rfl,Stq.ext (Stp.q (k:=0) hR hs),by simp[VR]⟩
def ZhB{gl:Glob}{f:Nat}{A:List AV}{R:AV}(hb:Z0b Y00 f=true)(hr:refsL A []=[])(h:Z0k Y00 gl f A R):Fam Y00 gl:={ I:=Unit,f:=f,G:=λ_=>True,A:=λ_=>A,R:=λ_=>R,body:=hb,inj:=(λ_ _ _ _ _=>rfl),ok:=(λ_ _=>⟨hr,h⟩) }
theorem Zcg(p:Pr)(m:Nat)(h:lightP p m=true):p.decls.length<=m/\p.threads.length<=m:=by
 simp only[lightP,decide_eq_true_eq]at h
 have h1:=Z7E p.threads (Z1Y p.decls ((m:Int)-min ((m:Int)+1) (p.decls.length:Int)-min ((m:Int)+1) (p.threads.length:Int)))
 have h2:=Z6T p.decls ((m:Int)-min ((m:Int)+1) (p.decls.length:Int)-min ((m:Int)+1) (p.threads.length:Int))
 omega
def Zo1(ds:List Dc)(ts:List (List St))(hok:okP ⟨ds,ts⟩)(h1:Z0j ts<=1048576)(h2:ds.length<=1048576)(h3:ts.length<=1048576):FamN Y00 gl:={ I:=Unit,f:=25,G:=λ_=>True,A:=λ_=>[.agg [.rs ds.length 3 (dcC ds),.rs ts.length 1 (ts.map stA)]],R:=λ_=>.agg [.slice 0 0 ds.length ds.length 3,.slice 1 0 ts.length ts.length 1],N:=λ_=>ZjT ⟨ds,ts⟩,body:=(by kernel_rfl),inj:=(λ_ _ _ _ _=>⟨rfl,rfl⟩),ok:=(λ_ _=>⟨rfl,(ZlK _).alive,ZgE ⟨ds,ts⟩ hok h1 h2 h3⟩) }
section
attribute [local irreducible] Go.Abs.frcHW Go.Abs.frcNP
theorem ay_law(ds:List Dc)(ts:List (List St))(hok:okP ⟨ds,ts⟩)(hl:lightP ⟨ds,ts⟩ 3000=true):Z0k Y00 runLives.gl 6 [(Pr.mk ds ts).av] (.bool true):=by
 have hsz:Z0j ts<=3000:=Zcf ⟨ds,ts⟩ 3000 hl
 obtain⟨hd,ht⟩:=Zcg ⟨ds,ts⟩ 3000 hl
 simp only at hd ht
 have a2:=ZaS (gl:=runLives.gl) ⟨ds,ts⟩ 3000 hok (by omega) (by omega)
 have a3:=Zfq ⟨ds,ts⟩ hok (by show Z0j ts<=_;omega)
 have a4:=Zgv ⟨ds,ts⟩ hok (by show Z0j ts<=_;omega)
 have a5:=ZiZ (gl:=runLives.gl) ⟨ds,ts⟩ hok (by show Z0j ts<=_;omega) (by show ds.length<=_;omega) (by show ts.length<=_;omega)
 have a7:=Zfu (gl:=runLives.gl) ⟨ds,ts⟩ ⟨ds,ts⟩ hok
 rw[Z8C]at a7
 have a6:=Zip (gl:=runLives.gl) ⟨ds,ts⟩ ⟨ds,ts⟩ hok
 rw[show lightP ⟨ds,ts⟩ 3000=true from hl]at a2
 have hdz:=Z7Z ts
 rw[Z8C]at a6
 simp only[Pr.av]at a2 a3 a4 a5 a6 a7⊢
 obtain⟨O1,hO1,p1,p2,p3,p4,p5,p6,-⟩:=fams (P:=Y00) (gl:=runLives.gl) [ZhB (by kernel_rfl) rfl ZjF,ZhB (by kernel_rfl) rfl a2,ZhB (by kernel_rfl) rfl a3,ZhB (by kernel_rfl) rfl a4,ZhB (by kernel_rfl) rfl a5,ZhB (by kernel_rfl) rfl a6] rfl
 have q1:=λH=>p1 () trivial H
 have q2:=λH=>p2 () trivial H
 have q3:=λH=>p3 () trivial H
 have q4:=λH=>p4 () trivial H
 have q5:=λH=>p5 () trivial H
 have q6:=λH=>p6 () trivial H
 clear p1 p2 p3 p4 p5 p6
 simp only[ZhB]at q1 q2 q3 q4 q5 q6
 obtain⟨O2,hO2,q7,k2⟩:=Zl6 4000 hO1 rfl a7 (by kernel_rfl)
 obtain⟨O,hO,q8,k⟩:=Zlm (Zo1 ds ts hok (by omega) (by omega) (by omega)) [⟨true,0,0,.cells [.rs ds.length 3 (dcC ds),.rs ts.length 1 (ts.map stA)] 25⟩] hO2
 have r1:∀H,Z08 Y00 O H 8 []=some (.bool true,H):=λH=>(k _ _ _ (.inr (show 8≠25 by decide))).trans ((k2 _ (by decide) _ _).trans (q1 H))
 have r2:=λH=>(k _ _ H (.inr (show 13≠25 by decide))).trans ((k2 _ (by decide) _ _).trans (q2 H))
 have r3:=λH=>(k _ _ H (.inr (show 17≠25 by decide))).trans ((k2 _ (by decide) _ _).trans (q3 H))
 have r4:=λH=>(k _ _ H (.inr (show 12≠25 by decide))).trans ((k2 _ (by decide) _ _).trans (q4 H))
 have r5:=λH hH=>(k 25 _ H (.inl hH)).trans ((k2 _ (by decide) _ _).trans (q5 H))
 have r6:=λH=>(k _ _ H (.inr (show 24≠25 by decide))).trans ((k2 _ (by decide) _ _).trans (q6 H))
 have r7:=λH args h=>(k _ _ H (.inr (show 20≠25 by decide))).trans (q7 H args h)
 have r8:Z08 Y00 O [⟨true,0,0,.cells [.rs ds.length 3 (dcC ds),.rs ts.length 1 (ts.map stA)] 25⟩] 25 [.agg [.rs ds.length 3 (dcC ds),.rs ts.length 1 (ts.map stA)]]=some (.agg [.slice 1 0 ds.length ds.length 3,.slice 2 0 ts.length ts.length 1],⟨true,0,0,.cells [.rs ds.length 3 (dcC ds),.rs ts.length 1 (ts.map stA)] 25⟩::⟨true,1,0,.cells (dcC ds) 53⟩::⟨true,2,0,.cells (renL (· + 3) (Z1r ts [] []).1) 28⟩::shA 3 (Z1r ts [] []).2):=(q8 () trivial).trans (congrArg (λH=>some (_,H)) (ZlJ _ ds ts))
 clear k k2 q1 q2 q3 q4 q5 q6 q7 q8
 have hE:=λ(L R:Z00) (hL:L.length=3)=>(Emb.sh1 3 L (Z1r ts [] []).2 hL).more (R:=R)
 have hcl:=(Z5X ts [] [] Gd.nil).1
 have hcT:=(Z5X ts [] [] Gd.nil).2
 have hfz:=Ziv ds ts hsz
 have hT:=ZmY ts
 generalize hX0:(Z1r ts [] []).2=X0 at *
 generalize hC:(Z1r ts [] []).1=C at *
 generalize hn1:X0.length+3=n1
 generalize hn2:X0.length+4=n2
 have l0:([]:Z00).length=0:=rfl
 have w0:∀cs ty,Z14 [] cs ty=[⟨true,0,0,.cells cs ty⟩]:=λ_ _=>rfl
 have l1:=λa b c=>(Zfa a b c X0).trans hn1
 have l2:=λa b c e=>(Z3N a b c X0 [e]).trans (show X0.length+3+1=n2 by omega)
 have w1:=λa b c cs ty=>Zmo a b c X0 cs ty hn1
 have w2:=λa b c e cs ty=>Zki a b c e X0 cs ty hn2
 have t1:=λ(a b c e f:AObj)=>(lt3 (by rw[Z3N];simp;omega) (by rw[Z3N];simp) (by rw[Z3N];simp):Z0e (a::b::c::(shA 3 X0++[e,f])).length [n1,1,2]=true)
 have t2:=λ(a b c e f:AObj)=>(ZaI (by rw[Z3N];simp;omega):Z0e (a::b::c::(shA 3 X0++[e,f])).length [n2]=true)
 have t3:=λ(a b c e f:AObj)=>(ZaI (by rw[Z3N];simp;omega):Z0e (a::b::c::(shA 3 X0++[e,f])).length [n1]=true)
 have g1:=λ(a b c e:AObj) (R:Z00)=>Zmp (a:=a) (b:=b) (c:=c) (e:=e) (X:=X0) (R:=R) hn1
 have g2:=λ(a b c e f:AObj) (R:Z00)=>Zjn (a:=a) (b:=b) (c:=c) (e:=e) (f:=f) (X:=X0) (R:=R) hn2
 have s1:=λx x' y ty ty2=>Zmn (a:=⟨true,0,0,.cells [.rs ds.length 3 (dcC ds),.rs ts.length 1 (ts.map stA)] 25⟩) (b:=⟨true,1,0,.cells (dcC ds) 53⟩) (c:=⟨true,2,0,.cells (renL (· + 3) C) 28⟩) (e:=⟨true,n1,0,.cells x ty⟩) (e':=⟨true,n1,0,.cells x' ty⟩) (f:=⟨true,n2,0,.cells y ty2⟩) hcl hn1 rfl rfl rfl rfl hn2.symm
 have s2:=λx y y' ty ty2=>Zkh (a:=⟨true,0,0,.cells [.rs ds.length 3 (dcC ds),.rs ts.length 1 (ts.map stA)] 25⟩) (b:=⟨true,1,0,.cells (dcC ds) 53⟩) (c:=⟨true,2,0,.cells (renL (· + 3) C) 28⟩) (e:=⟨true,n1,0,.cells x ty⟩) (f:=⟨true,n2,0,.cells y ty2⟩) (f':=⟨true,n2,0,.cells y' ty2⟩) hcl hn2 rfl rfl rfl hn1.symm rfl
 have ez:decide ((Z0j ts:Int)<(Z27 ts:Int))=false:=by simp;omega
 refine Z0C follows Z0x hO Tryd.func6 rfl ?_
 show Z1p _ _
 rw[Z0m]
 generalize hA:AV.agg [.rs ds.length 3 (dcC ds),.rs ts.length 1 (ts.map stA)]=A0
 conv in (tmk _ _)=>reduce
 subst hA
 repeat' ((conv=>whnf);first|(refine Zal (Z6u rfl (t1 _ _ _ _ _)) ?_)|(refine Zal (Z6u rfl (t2 _ _ _ _ _)) ?_)|(refine Zal (Z6u rfl (t3 _ _ _ _ _)) ?_)|(refine Z41 rfl (s1 _ _ _ _ _) ?_)|(refine Z41 rfl (s2 _ _ _ _ _) ?_)|(refine Zak (g1 _ _ _ _ _) ?_)|(refine Zak (g2 _ _ _ _ _ _) ?_)|(refine Zal (Y03 (by first|exact Y04 _|(simp only[List.length_cons,List.length_append,Z0a];omega))) ?_)|(refine Z8X (l1 _ _ _) ?_)|(refine Z8X (l0) ?_)|(refine Z8Y (w0 _ _) ?_)|(refine Z8Y (w1 _ _ _ _ _) ?_)|(refine Z8X (l2 _ _ _ _) ?_)|(refine Z8Y (w2 _ _ _ _ _ _) ?_)|(refine Z2r (r1 _) ?_)|(refine Z2r (r2 _) ?_)|(refine Z2r r8 ?_)|(refine Z2r (r7 _ _ (hfz _ rfl rfl (hE [_,_,_] _ rfl))) ?_)|(with_reducible refine Zal (Y03 (Y04 _)) ?_)|(refine Z2r (r3 _) ?_)|(refine Z2r (r4 _) ?_)|(refine Z2r (r6 _) ?_)|(refine Z2r (r5 _ (λe=>by have:=congrArg List.length e;simp at this)) ?_)|(refine Z0y ?_)|refine stp ?_|with_reducible apply Z03<;>intro h)
 conv=>whnf
 have hflat:([.rs ds.length 3 (dcC ds),.rs ts.length 1 (ts.map stA)]:List AV).all Zcn=true:=rfl
 refine⟨Nat×List AV,(λs=>s.1<=ds.length/\s.2.length=ds.length*3/\s.2.all Z6C=true),(λs=>[(1,.ptr 0 0),(3,.ptr 1 0),(4,.ptr 2 0),(5,.int .i64 s.1)]),(λs=>mF [.rs ds.length 3 (dcC ds),.rs ts.length 1 (ts.map stA)] s.2 C ds.length ts.length X0 []),(λs=>ds.length-s.1),⟨(0,dcC ds),⟨Y02 _,Z60 ds,Z1S ds⟩,ZmE hcl hcT (Z06 rfl) (Z06 (Z26 (Z1S ds))) hn1 hn2 rfl ?_⟩,?_⟩
 ·exact wks
 rintro⟨i,cs⟩ ⟨hi,hcs,hfl⟩
 dsimp only at hi hcs hfl⊢
 by_cases hlt:i<ds.length
 · have e1:decide ((i:Int)<(ds.length:Int))=true:=by simpa using hlt
   have hsp:=Zfl cs (0+i*3+2) (.int .i64 (-7)) (by omega)
   have hw3:=λcs'=>ZkP (pc:=[.rs ds.length 3 (dcC ds),.rs ts.length 1 (ts.map stA)]) (dc:=cs) (dc':=cs') (C:=C) (d:=ds.length) (t:=ts.length) (X:=X0) hcl hcT (Z06 rfl) (Z06 (Z26 hfl))
   have hfl2:=ZiI hfl (0+i*3+2) (-7)
   have hlen2:(cs.set (0+i*3+2) (.int .i64 (-7))).length=ds.length*3:=by rw[List.length_set];exact hcs
   have hcl2:=ZkQ (pc:=[.rs ds.length 3 (dcC ds),.rs ts.length 1 (ts.map stA)]) (dc:=cs.set (0+i*3+2) (.int .i64 (-7))) (C:=C) (d:=ds.length) (t:=ts.length) hcl hcT (Z06 rfl) (Z06 (Z26 hfl2))
   generalize cs.set (0+i*3+2) (.int .i64 (-7))=cs2 at *
   unfold mF at hw3 hcl2⊢
   show Z1p _ _
   rw[Z0m]
   generalize hI:((i:Nat):Int)=iv at *
   conv in (Z5N _ _)=>reduce
   subst hI
   repeat' ((conv=>whnf);first|(refine Z41 hsp (hw3 _) ?_)|(with_reducible refine ixJ i rfl ?_ ?_;focus omega)|(refine Z0y ?_)|(refine Z0K ?_)|refine stp ?_|with_reducible apply Z03<;>intro h)
   conv=>whnf
   refine⟨(i+1,cs2),⟨hlt,hlen2,hfl2⟩,by show ds.length-(i+1)<ds.length-i;omega,?_⟩
   (try dsimp only)
   refine Y01 hcl2 rfl rfl ?_
   exact wks
 · have e1:decide ((i:Int)<(ds.length:Int))=false:=by simpa using hlt
   have hi2:i=ds.length:=by omega
   clear hi e1 hlt
   unfold mF
   show Z1p _ _
   rw[Z0m]
   generalize hI:((i:Nat):Int)=iv at *
   conv in (Z5N _ _)=>reduce
   subst hI
   repeat' ((conv=>whnf);first|(refine Z0y ?_)|(refine Z0K ?_)|refine stp ?_|with_reducible apply Z03<;>intro h)
   conv=>whnf
   have hG0:GX ts C X0:=⟨hcl,hcT,hT⟩
   have hclD:=λ(Y:Z00) (h:GX ts C Y)=>ZkQ (pc:=[.rs ds.length 3 (dcC ds),.rs ts.length 1 (ts.map stA)]) (dc:=cs) (C:=C) (d:=ds.length) (t:=ts.length) h.1 h.2.1 (Z06 rfl) (Z06 (Z26 hfl))
   refine⟨Nat×Z00,(λs=>s.1<=ts.length/\GX ts C s.2),(λs=>[(1,.ptr 0 0),(3,.ptr 1 0),(4,.ptr 2 0),(6,.int .i64 s.1)]),(λs=>mF [.rs ds.length 3 (dcC ds),.rs ts.length 1 (ts.map stA)] cs C ds.length ts.length s.2 []),(λs=>ts.length-s.1),⟨(0,X0),⟨Y02 _,hG0⟩,Y01 (hclD X0 hG0) rfl rfl ?_⟩,?_⟩
   ·exact wks
   rintro⟨t,X⟩ ⟨hi,hG⟩
   dsimp only at hi hG⊢
   clear hT hcl hcT hfz hE l1 l2 w1 w2 l0 w0 t1 t2 t3 g1 g2 s1 s2 r1 r2 r3 r4 r5 r7 r8
   by_cases hlt:t<ts.length
   · have e1:decide ((t:Int)<(ts.length:Int))=true:=by simpa using hlt
     have hL0:=ZkX hsz hlt
     have hcX:=hclD X hG
     unfold mF at hcX⊢
     show Z1p _ _
     rw[Z0m]
     generalize hI:((t:Nat):Int)=iv at *
     conv in (Z5N _ _)=>reduce
     subst hI
     repeat' ((conv=>whnf);first|(refine Z0y ?_)|(refine Z0K ?_)|refine stp ?_|with_reducible apply Z03<;>intro h)
     conv=>whnf
     refine⟨Nat×Z00,(λs=>s.1<=ts[t].length/\GX ts C s.2),(λs=>[(1,.ptr 0 0),(3,.ptr 1 0),(4,.ptr 2 0),(6,.int .i64 t),(7,.int .i64 s.1)]),(λs=>mF [.rs ds.length 3 (dcC ds),.rs ts.length 1 (ts.map stA)] cs C ds.length ts.length s.2 []),(λs=>ts[t].length-s.1),⟨(0,X),⟨Y02 _,hG⟩,Y01 hcX rfl rfl ?_⟩,?_⟩
     ·exact wks
     rintro⟨i,Y⟩ ⟨hi2,hG2⟩
     clear hcX hG
     dsimp only at hi2 hG2⊢
     obtain⟨hx,hS⟩:=hG2.2.2 t hlt
     have hx5:(renL (· + 5) C)[t]? = some (.slice ((tlT ts t).length+5) 0 ts[t].length ts[t].length 7):=by rw[Z0p,hx];rfl
     have hcY:=hclD Y hG2
     have htk:tk 1 ((renL (· + 5) C).drop (0+t*1))=some [.slice ((tlT ts t).length+5) 0 ts[t].length ts[t].length 7]:=by
      rw[show 0+t*1=t from by omega]
      exact Z8q hx5
     generalize hb:(tlT ts t).length=b at *
     generalize hb5:b+5=b5 at *
     by_cases hl2:i<ts[t].length
     · have e2:decide ((i:Int)<(ts[t].length:Int))=true:=by simpa using hl2
       obtain⟨bc,hbk,kd,od,xa,xb,xc,hrd,hxa,hxb,hxc,hci⟩:=hS.read i hl2
       have hrd5:tk 7 ((renL (· + 5) bc).drop (0+i*7))=some (renL (· + 5) (stv kd od ts[t][i].name ts[t][i].loc xa xb xc (sX ts[t][i]) (sT ts[t][i]) (sE ts[t][i]))):=by
        rw[show 0+i*7=i*7 from by omega,<- ZaC]
        exact Zjl (· + 5) 7 _ _ hrd
       simp only[stv,renL,ren]at hrd5
       have hat:=ZnP (pc:=[.rs ds.length 3 (dcC ds),.rs ts.length 1 (ts.map stA)]) (dc:=cs) (C:=C) (d:=ds.length) (t:=ts.length) (R:=[]) hbk.1 hb5
       generalize hn5:Y.length+5=n5
       have f1:=(ZfM [.rs ds.length 3 (dcC ds),.rs ts.length 1 (ts.map stA)] cs C ds.length ts.length Y).trans hn5
       have f2:=λx ty=>ZmA (pc:=[.rs ds.length 3 (dcC ds),.rs ts.length 1 (ts.map stA)]) (dc:=cs) (C:=C) (d:=ds.length) (t:=ts.length) (X:=Y) x ty hn5
       have f3:=λe R=>ZmB (pc:=[.rs ds.length 3 (dcC ds),.rs ts.length 1 (ts.map stA)]) (dc:=cs) (C:=C) (d:=ds.length) (t:=ts.length) (X:=Y) (e:=e) (R:=R) hn5
       have f4:=λx x' ty=>ZkO (pc:=[.rs ds.length 3 (dcC ds),.rs ts.length 1 (ts.map stA)]) (dc:=cs) (C:=C) (d:=ds.length) (t:=ts.length) (X:=Y) (e:=⟨true,n5,0,.cells x ty⟩) (e':=⟨true,n5,0,.cells x' ty⟩) hG2.1 hn5 rfl
       unfold mF at hat f1 f2 f3 f4
       unfold mF at hcY⊢
       show Z1p _ _
       rw[Z0m]
       generalize hI:((i:Nat):Int)=iv at *
       generalize hJ:((t:Nat):Int)=jv at *
       conv in (Z5N _ _)=>reduce
       subst hI hJ
       repeat' ((conv=>whnf);first|(refine Z8X f1 ?_)|(refine Z8Y (f2 _ _) ?_)|(refine Z41 rfl (f4 _ _ _) ?_)|(refine Zak hat ?_)|(refine Zak (f3 _ _) ?_)|refine exI htk ?_|refine exI hrd5 ?_|(with_reducible refine ixJ t rfl ?_ ?_;focus omega)|(with_reducible refine ixJ i rfl ?_ ?_;focus omega)|(refine Zal (Y03 (by first|exact Y04 _|(simp only[List.length_cons,List.length_append,Z0a];omega))) ?_)|(refine Z0y ?_)|(refine Z0K ?_)|refine stp ?_|with_reducible apply Z03<;>intro h)
       conv=>whnf
       have hGS:GS ts C ts[t][i] xa xb xc Y:=⟨hG2,hxa,hxb,hxc⟩
       obtain⟨hL1,hL2,hL3,hL4⟩:=Zio hsz hlt hl2
       generalize hxx:ts[t][i]=x at *
       have hclG:=λ(Z:Z00) (h:GS ts C x xa xb xc Z)=>ZnO (pc:=[.rs ds.length 3 (dcC ds),.rs ts.length 1 (ts.map stA)]) (dc:=cs) (C:=C) (sc:=stv kd od x.name x.loc xa xb xc (sX x) (sT x) (sE x)) (d:=ds.length) (t:=ts.length) h.1.1 h.1.2.1 (Z06 rfl) (Z06 (Z26 hfl)) (h.refs kd od x.name x.loc)
       refine⟨Nat×Z00,(λs=>s.1<=(sX x).length/\GS ts C x xa xb xc s.2),(λs=>[(1,.ptr 0 0),(3,.ptr 1 0),(4,.ptr 2 0),(6,.int .i64 t),(7,.int .i64 i),(8,.ptr 5 0),(9,.int .i64 s.1)]),(λs=>mG [.rs ds.length 3 (dcC ds),.rs ts.length 1 (ts.map stA)] cs C (stv kd od x.name x.loc xa xb xc (sX x) (sT x) (sE x)) ds.length ts.length s.2),(λs=>(sX x).length-s.1),⟨(0,Y),⟨Y02 _,hGS⟩,ZkY hG2.1 hG2.2.1 (Z06 rfl) (Z06 (Z26 hfl)) (hGS.refs kd od x.name x.loc) hn5 rfl ?_⟩,?_⟩
       ·exact wks
       rintro⟨k,Z⟩ ⟨hk,hGZ⟩
       dsimp only at hk hGZ⊢
       clear hcY f1 f2 f3 f4 hat hrd5 htk hx5 hbk hrd hxa hxb hxc hci hS hx
       by_cases hl3:k<(sX x).length
       · have e3:decide ((k:Int)<((sX x).length:Int))=true:=by simpa using hl3
         have hL5:=hL4 k hl3
         obtain⟨ce,hce,hci⟩:=hGZ.2.1
         obtain⟨hc0,hc1,hc2,kk,hkk,hkb⟩:=hci k hl3
         generalize hq:xa+6=q
         have hatq:=Zel (pc:=[.rs ds.length 3 (dcC ds),.rs ts.length 1 (ts.map stA)]) (dc:=cs) (C:=C) (sc:=stv kd od x.name x.loc xa xb xc (sX x) (sT x) (sE x)) (d:=ds.length) (t:=ts.length) hce.1 hq
         have hcZ:=hclG Z hGZ
         unfold mG at hcZ hatq⊢
         simp only[stv,renL,ren,hq]at hcZ hatq⊢
         show Z1p _ _
         rw[Z0m]
         generalize hI:((i:Nat):Int)=iv at *
         generalize hJ:((t:Nat):Int)=jv at *
         generalize hK:((k:Nat):Int)=kv at *
         conv in (Z5N _ _)=>reduce
         subst hI hJ hK
         repeat' ((conv=>whnf);first|(refine Zak hatq ?_)|(with_reducible refine ixJ k rfl ?_ ?_;focus omega)|(refine Z0y ?_)|(refine Z0K ?_)|refine stp ?_|with_reducible apply Z03<;>intro h)
         conv=>whnf
         have hKX:KX xa k kk (sX x)[k].kids.length (sX x).length Z:=⟨ce,hce,hc0,hkk,hkb⟩
         refine⟨Nat×Z00,(λs=>s.1<=(sX x)[k].kids.length/\GS ts C x xa xb xc s.2/\KX xa k kk (sX x)[k].kids.length (sX x).length s.2),(λs=>[(1,.ptr 0 0),(3,.ptr 1 0),(4,.ptr 2 0),(6,.int .i64 t),(7,.int .i64 i),(8,.ptr 5 0),(9,.int .i64 k),(10,.int .i64 s.1)]),(λs=>mG [.rs ds.length 3 (dcC ds),.rs ts.length 1 (ts.map stA)] cs C (stv kd od x.name x.loc xa xb xc (sX x) (sT x) (sE x)) ds.length ts.length s.2),(λs=>(sX x)[k].kids.length-s.1),⟨(0,Z),⟨Y02 _,hGZ,hKX⟩,?_⟩,?_⟩
         · unfold mG
           simp only[stv,renL,ren,hq]
           refine Y01 hcZ rfl rfl ?_
           exact wks
         clear hcZ hatq hKX hce hc0 hc1 hc2 hkk hkb hci hGZ
         rintro⟨m,W⟩ ⟨hm,hGW,hKW⟩
         dsimp only at hm hGW hKW⊢
         have hKW2:=hKW
         obtain⟨ce,hce,hc0,hkk,ck,hck,hci⟩:=hKW
         have hcW:=hclG W hGW
         generalize hkq:kk+6=kq
         have htk:tk 1 ((renL (· + 6) ce).drop (0+k*4+3))=some [.slice (kk+6) 0 (sX x)[k].kids.length (sX x)[k].kids.length 4]:=Zf6 hkk (by omega)
         rw[hkq]at htk
         have hatq:=Zel (pc:=[.rs ds.length 3 (dcC ds),.rs ts.length 1 (ts.map stA)]) (dc:=cs) (C:=C) (sc:=stv kd od x.name x.loc xa xb xc (sX x) (sT x) (sE x)) (d:=ds.length) (t:=ts.length) hce.1 hq
         by_cases hl4:m<(sX x)[k].kids.length
         · have e4:decide ((m:Int)<((sX x)[k].kids.length:Int))=true:=by simpa using hl4
           have hatk:=Zel (pc:=[.rs ds.length 3 (dcC ds),.rs ts.length 1 (ts.map stA)]) (dc:=cs) (C:=C) (sc:=stv kd od x.name x.loc xa xb xc (sX x) (sT x) (sE x)) (d:=ds.length) (t:=ts.length) hck.1 hkq
           have hsp:=Z5C ck (· + 6) (0+m*4+0) (-7) (by rw[hck.2];omega)
           have hst:=ZaQ (pc:=[.rs ds.length 3 (dcC ds),.rs ts.length 1 (ts.map stA)]) (dc:=cs) (C:=C) (sc:=stv kd od x.name x.loc xa xb xc (sX x) (sT x) (sE x)) (d:=ds.length) (t:=ts.length) (cs':=ck.set (0+m*4+0) (.int .i64 (-7))) hGW.1.1 hck.1 hkq
           have hwr:=BlkI.wr hck hci m hl4 (-7)
           rw[show m*4=0+m*4+0 from by omega]at hwr
           generalize ck.set (0+m*4+0) (.int .i64 (-7))=ck2 at *
           generalize hW2:W.set kk ⟨true,kk,0,.cells ck2 36⟩=W2 at *
           have hGW2:=hGW.wr hwr
           have hKW3:=hKW2.wr hwr
           have hcW2:=hclG W2 hGW2
           unfold mG at hcW2 hatq hatk hst⊢
           simp only[stv,renL,ren,hq]at hcW2 hatq hatk hst⊢
           show Z1p _ _
           rw[Z0m]
           generalize hI:((i:Nat):Int)=iv at *
           generalize hJ:((t:Nat):Int)=jv at *
           generalize hK:((k:Nat):Int)=kv at *
           generalize hM:((m:Nat):Int)=mv at *
           conv in (Z5N _ _)=>reduce
           subst hI hJ hK hM
           repeat' ((conv=>whnf);first|(refine Z41 hsp hst ?_)|(refine Zak hatq ?_)|(refine Zak hatk ?_)|refine exI htk ?_|(with_reducible refine ixJ k rfl ?_ ?_;focus omega)|(with_reducible refine ixJ m rfl ?_ ?_;focus omega)|(refine Z0y ?_)|(refine Z0K ?_)|refine stp ?_|with_reducible apply Z03<;>intro h)
           conv=>whnf
           refine⟨(m+1,W2),⟨hl4,hGW2,hKW3⟩,by show (sX x)[k].kids.length-(m+1)<(sX x)[k].kids.length-m;omega,?_⟩
           (try dsimp only)
           refine Y01 hcW2 rfl rfl ?_
           exact wks
         · have e4:decide ((m:Int)<((sX x)[k].kids.length:Int))=false:=by simpa using hl4
           have hsp:=Z5C ce (· + 6) (0+k*4+0) (-7) (by rw[hce.2];omega)
           have hst:=ZaQ (pc:=[.rs ds.length 3 (dcC ds),.rs ts.length 1 (ts.map stA)]) (dc:=cs) (C:=C) (sc:=stv kd od x.name x.loc xa xb xc (sX x) (sT x) (sE x)) (d:=ds.length) (t:=ts.length) (cs':=ce.set (0+k*4+0) (.int .i64 (-7))) hGW.1.1 hce.1 hq
           obtain⟨u0,hu0⟩:=hc0
           have hwr:Wr W (W.set xa ⟨true,xa,0,.cells (ce.set (0+k*4+0) (.int .i64 (-7))) 36⟩):=⟨xa,ce,_,0+k*4+0,u0,-7,hce.1,by rw[show 0+k*4+0=k*4 from by omega];exact hu0,rfl⟩
           generalize ce.set (0+k*4+0) (.int .i64 (-7))=ce2 at *
           generalize hW2:W.set xa ⟨true,xa,0,.cells ce2 36⟩=W2 at *
           have hGW2:=hGW.wr hwr
           have hcW2:=hclG W2 hGW2
           unfold mG at hcW2 hatq hst⊢
           simp only[stv,renL,ren,hq]at hcW2 hatq hst⊢
           show Z1p _ _
           rw[Z0m]
           generalize hI:((i:Nat):Int)=iv at *
           generalize hJ:((t:Nat):Int)=jv at *
           generalize hK:((k:Nat):Int)=kv at *
           generalize hM:((m:Nat):Int)=mv at *
           conv in (Z5N _ _)=>reduce
           subst hI hJ hK hM
           repeat' ((conv=>whnf);first|(refine Z41 hsp hst ?_)|(refine Zak hatq ?_)|refine exI htk ?_|(with_reducible refine ixJ k rfl ?_ ?_;focus omega)|(refine Z0y ?_)|(refine Z0K ?_)|refine stp ?_|with_reducible apply Z03<;>intro h)
           conv=>whnf
           refine⟨(k+1,W2),⟨hl3,hGW2⟩,by show (sX x).length-(k+1)<(sX x).length-k;omega,?_⟩
           (try dsimp only)
           refine Y01 hcW2 rfl rfl ?_
           exact wks
       · have e3:decide ((k:Int)<((sX x).length:Int))=false:=by simpa using hl3
         have hcZ:=hclG Z hGZ
         unfold mG at hcZ⊢
         simp only[stv,renL,ren]at hcZ⊢
         show Z1p _ _
         rw[Z0m]
         generalize hI:((i:Nat):Int)=iv at *
         generalize hJ:((t:Nat):Int)=jv at *
         generalize hK:((k:Nat):Int)=kv at *
         conv in (Z5N _ _)=>reduce
         subst hI hJ hK
         repeat' ((conv=>whnf);first|(refine Z0y ?_)|(refine Z0K ?_)|refine stp ?_|with_reducible apply Z03<;>intro h)
         conv=>whnf
         refine⟨Nat×Z00,(λs=>s.1<=(sT x).length/\GS ts C x xa xb xc s.2),(λs=>[(1,.ptr 0 0),(3,.ptr 1 0),(4,.ptr 2 0),(6,.int .i64 t),(7,.int .i64 i),(8,.ptr 5 0),(11,.int .i64 s.1)]),(λs=>mG [.rs ds.length 3 (dcC ds),.rs ts.length 1 (ts.map stA)] cs C (stv kd od x.name x.loc xa xb xc (sX x) (sT x) (sE x)) ds.length ts.length s.2),(λs=>(sT x).length-s.1),⟨(0,Z),⟨Y02 _,hGZ⟩,?_⟩,?_⟩
         · unfold mG
           simp only[stv,renL,ren]
           refine Y01 hcZ rfl rfl ?_
           exact wks
         clear hcZ hGZ
         rintro⟨j,V⟩ ⟨hj,hGV⟩
         dsimp only at hj hGV⊢
         have hcV:=hclG V hGV
         by_cases hlj:j<(sT x).length
         · have ej:decide ((j:Int)<((sT x).length:Int))=true:=by simpa using hlj
           obtain⟨ct,hct,hci⟩:=hGV.2.2.1
           generalize hq:xb+6=q
           have hatq:=Zel (pc:=[.rs ds.length 3 (dcC ds),.rs ts.length 1 (ts.map stA)]) (dc:=cs) (C:=C) (sc:=stv kd od x.name x.loc xa xb xc (sX x) (sT x) (sE x)) (d:=ds.length) (t:=ts.length) hct.1 hq
           have hsp:=Z5C ct (· + 6) (0+j*7+0) (-7) (by rw[hct.2];omega)
           have hst:=ZaQ (pc:=[.rs ds.length 3 (dcC ds),.rs ts.length 1 (ts.map stA)]) (dc:=cs) (C:=C) (sc:=stv kd od x.name x.loc xa xb xc (sX x) (sT x) (sE x)) (d:=ds.length) (t:=ts.length) (cs':=ct.set (0+j*7+0) (.int .i64 (-7))) hGV.1.1 hct.1 hq
           have hwr:=BlkI.wr hct hci j hlj (-7)
           rw[show j*7=0+j*7+0 from by omega]at hwr
           generalize ct.set (0+j*7+0) (.int .i64 (-7))=ct2 at *
           generalize hWq:V.set xb ⟨true,xb,0,.cells ct2 30⟩=V2 at *
           have hGQ:=hGV.wr hwr
           have hcQ:=hclG V2 hGQ
           unfold mG at hcQ hatq hst⊢
           simp only[stv,renL,ren,hq]at hcQ hatq hst⊢
           show Z1p _ _
           rw[Z0m]
           generalize hI:((i:Nat):Int)=iv at *
           generalize hJ:((t:Nat):Int)=jv at *
           generalize hK:((j:Nat):Int)=kv at *
           conv in (Z5N _ _)=>reduce
           subst hI hJ hK
           repeat' ((conv=>whnf);first|(refine Z41 hsp hst ?_)|(refine Zak hatq ?_)|(with_reducible refine ixJ j rfl ?_ ?_;focus omega)|(refine Z0y ?_)|(refine Z0K ?_)|refine stp ?_|with_reducible apply Z03<;>intro h)
           conv=>whnf
           refine⟨(j+1,V2),⟨hlj,hGQ⟩,by show (sT x).length-(j+1)<(sT x).length-j;omega,?_⟩
           (try dsimp only)
           refine Y01 hcQ rfl rfl ?_
           exact wks
         have ej:decide ((j:Int)<((sT x).length:Int))=false:=by simpa using hlj
         unfold mG at hcV⊢
         simp only[stv,renL,ren]at hcV⊢
         show Z1p _ _
         rw[Z0m]
         generalize hI:((i:Nat):Int)=iv at *
         generalize hJ:((t:Nat):Int)=jv at *
         generalize hK:((j:Nat):Int)=kv at *
         conv in (Z5N _ _)=>reduce
         subst hI hJ hK
         repeat' ((conv=>whnf);first|(refine Z0y ?_)|(refine Z0K ?_)|refine stp ?_|with_reducible apply Z03<;>intro h)
         conv=>whnf
         refine⟨Nat×Z00,(λs=>s.1<=(sE x).length/\GS ts C x xa xb xc s.2),(λs=>[(1,.ptr 0 0),(3,.ptr 1 0),(4,.ptr 2 0),(6,.int .i64 t),(7,.int .i64 i),(8,.ptr 5 0),(12,.int .i64 s.1)]),(λs=>mG [.rs ds.length 3 (dcC ds),.rs ts.length 1 (ts.map stA)] cs C (stv kd od x.name x.loc xa xb xc (sX x) (sT x) (sE x)) ds.length ts.length s.2),(λs=>(sE x).length-s.1),⟨(0,V),⟨Y02 _,hGV⟩,?_⟩,?_⟩
         · unfold mG
           simp only[stv,renL,ren]
           refine Y01 hcV rfl rfl ?_
           exact wks
         clear hcV hGV
         rintro⟨n,U⟩ ⟨hn,hGU⟩
         dsimp only at hn hGU⊢
         have hcU:=hclG U hGU
         by_cases hln:n<(sE x).length
         · have en:decide ((n:Int)<((sE x).length:Int))=true:=by simpa using hln
           obtain⟨ct,hct,hci⟩:=hGU.2.2.2
           generalize hq:xc+6=q
           have hatq:=Zel (pc:=[.rs ds.length 3 (dcC ds),.rs ts.length 1 (ts.map stA)]) (dc:=cs) (C:=C) (sc:=stv kd od x.name x.loc xa xb xc (sX x) (sT x) (sE x)) (d:=ds.length) (t:=ts.length) hct.1 hq
           have hsp:=Z5C ct (· + 6) (0+n*7+0) (-7) (by rw[hct.2];omega)
           have hst:=ZaQ (pc:=[.rs ds.length 3 (dcC ds),.rs ts.length 1 (ts.map stA)]) (dc:=cs) (C:=C) (sc:=stv kd od x.name x.loc xa xb xc (sX x) (sT x) (sE x)) (d:=ds.length) (t:=ts.length) (cs':=ct.set (0+n*7+0) (.int .i64 (-7))) hGU.1.1 hct.1 hq
           have hwr:=BlkI.wr hct hci n hln (-7)
           rw[show n*7=0+n*7+0 from by omega]at hwr
           generalize ct.set (0+n*7+0) (.int .i64 (-7))=ct2 at *
           generalize hWq:U.set xc ⟨true,xc,0,.cells ct2 30⟩=U2 at *
           have hGQ:=hGU.wr hwr
           have hcQ:=hclG U2 hGQ
           unfold mG at hcQ hatq hst⊢
           simp only[stv,renL,ren,hq]at hcQ hatq hst⊢
           show Z1p _ _
           rw[Z0m]
           generalize hI:((i:Nat):Int)=iv at *
           generalize hJ:((t:Nat):Int)=jv at *
           generalize hK:((n:Nat):Int)=kv at *
           conv in (Z5N _ _)=>reduce
           subst hI hJ hK
           repeat' ((conv=>whnf);first|(refine Z41 hsp hst ?_)|(refine Zak hatq ?_)|(with_reducible refine ixJ n rfl ?_ ?_;focus omega)|(refine Z0y ?_)|(refine Z0K ?_)|refine stp ?_|with_reducible apply Z03<;>intro h)
           conv=>whnf
           refine⟨(n+1,U2),⟨hln,hGQ⟩,by show (sE x).length-(n+1)<(sE x).length-n;omega,?_⟩
           (try dsimp only)
           refine Y01 hcQ rfl rfl ?_
           exact wks
         have en:decide ((n:Int)<((sE x).length:Int))=false:=by simpa using hln
         obtain⟨hxC,hSU⟩:=hGU.1.2.2 t hlt
         rw[hb]at hxC hSU
         have htk6:tk 1 ((renL (· + 6) C).drop (0+t*1))=some [.slice (b+6) 0 ts[t].length ts[t].length 7]:=Zf6 hxC (by omega)
         generalize hq:b+6=q at *
         obtain⟨cu,hcu,hsu⟩:=hSU
         have hciu:=(hsu i hl2).1
         have hatq:=Zel (pc:=[.rs ds.length 3 (dcC ds),.rs ts.length 1 (ts.map stA)]) (dc:=cs) (C:=C) (sc:=stv kd od x.name x.loc xa xb xc (sX x) (sT x) (sE x)) (d:=ds.length) (t:=ts.length) hcu.1 hq
         have hsp:=Z5C cu (· + 6) (0+i*7+0) (-7) (by rw[hcu.2];omega)
         have hst:=ZaQ (pc:=[.rs ds.length 3 (dcC ds),.rs ts.length 1 (ts.map stA)]) (dc:=cs) (C:=C) (sc:=stv kd od x.name x.loc xa xb xc (sX x) (sT x) (sE x)) (d:=ds.length) (t:=ts.length) (cs':=cu.set (0+i*7+0) (.int .i64 (-7))) hGU.1.1 hcu.1 hq
         obtain⟨u0,hu0⟩:=hciu
         have hwr:Wr U (U.set b ⟨true,b,0,.cells (cu.set (0+i*7+0) (.int .i64 (-7))) 30⟩):=⟨b,cu,_,0+i*7+0,u0,-7,hcu.1,by rw[show 0+i*7+0=i*7 from by omega];exact hu0,rfl⟩
         generalize cu.set (0+i*7+0) (.int .i64 (-7))=cu2 at *
         generalize hU9:U.set b ⟨true,b,0,.cells cu2 30⟩=U9 at *
         have hG9:=hGU.1.wr hwr
         unfold mG at hatq hst
         simp only[stv,renL,ren]at hatq hst
         unfold mG at hcU⊢
         simp only[stv,renL,ren]at hcU⊢
         show Z1p _ _
         rw[Z0m]
         generalize hI:((i:Nat):Int)=iv at *
         generalize hJ:((t:Nat):Int)=jv at *
         generalize hK:((n:Nat):Int)=kv at *
         conv in (Z5N _ _)=>reduce
         subst hI hJ hK
         repeat' ((conv=>whnf);first|(refine Z41 hsp hst ?_)|(refine Zak hatq ?_)|refine exI htk6 ?_|(with_reducible refine ixJ t rfl ?_ ?_;focus omega)|(with_reducible refine ixJ i rfl ?_ ?_;focus omega)|(refine Z0y ?_)|(refine Z0K ?_)|refine stp ?_|with_reducible apply Z03<;>intro h)
         conv=>whnf
         refine⟨(i+1,U9),⟨hl2,hG9⟩,by show ts[t].length-(i+1)<ts[t].length-i;omega,?_⟩
         (try dsimp only)
         refine ZkW (sc:=stv kd od x.name x.loc xa xb xc (sX x) (sT x) (sE x)) hG9.1 hG9.2.1 (Z06 rfl) (Z06 (Z26 hfl)) rfl ?_
         exact wks
     · have e2:decide ((i:Int)<(ts[t].length:Int))=false:=by simpa using hl2
       unfold mF at hcY⊢
       show Z1p _ _
       rw[Z0m]
       generalize hI:((i:Nat):Int)=iv at *
       generalize hJ:((t:Nat):Int)=jv at *
       conv in (Z5N _ _)=>reduce
       subst hI hJ
       repeat' ((conv=>whnf);first|refine exI htk ?_|(with_reducible refine ixJ t rfl ?_ ?_;focus omega)|(refine Z0y ?_)|(refine Z0K ?_)|refine stp ?_|with_reducible apply Z03<;>intro h)
       conv=>whnf
       refine⟨(t+1,Y),⟨hlt,hG2⟩,by show ts.length-(t+1)<ts.length-t;omega,?_⟩
       (try dsimp only)
       refine Y01 hcY rfl rfl ?_
       exact wks
   · have e1:decide ((t:Int)<(ts.length:Int))=false:=by simpa using hlt
     have hcX:=hclD X hG
     unfold mF at hcX⊢
     show Z1p _ _
     rw[Z0m]
     generalize hI:((t:Nat):Int)=iv at *
     conv in (Z5N _ _)=>reduce
     subst hI
     cases ds with
     |nil =>
      have e5:(((([]:List Dc).length:Nat):Int)==0)=true:=rfl
      repeat' ((conv=>whnf);first|(refine Z2r (r6 _) ?_)|(refine Zal (Y03 (Y04 _)) ?_)|(refine Z0y ?_)|(refine Z0K ?_)|refine stp ?_|with_reducible apply Z03<;>intro h)
      all_goals rfl
     |cons d ds =>
      have e5:((((d::ds).length:Nat):Int)==0)=false:=by simp;omega
      have e6:(d.val==d.val)=true:=by simp
      repeat' ((conv=>whnf);first|(refine Z2r (r6 _) ?_)|(refine Zal (Y03 (Y04 _)) ?_)|(with_reducible refine ixJ 0 rfl ?_ ?_;(focus (simp)))|(refine Z0y ?_)|(refine Z0K ?_)|refine stp ?_|with_reducible apply Z03<;>intro h)
      all_goals (show AV.bool (d.val==d.val)=AV.bool true;rw[e6])
end
end
end Go.Proofs.YtajhailaofchlaaDoor.lex
section
namespace Go.Proofs.YtajhailaofchlaaDoor.lex
open Go.Abs Go.RowKit
theorem ay_dark(ds:List Dc)(ts:List (List St))(hok:okP ⟨ds,ts⟩)(hl:lightP ⟨ds,ts⟩ 3000=false):Z0k Y00 runLives.gl 6 [(Pr.mk ds ts).av] (.bool true):=by
 have a2:=ZaS (gl:=runLives.gl) ⟨ds,ts⟩ 3000 hok (by omega) (by omega)
 rw[hl]at a2
 simp only[Pr.av]at a2⊢
 obtain⟨O,hO,p1,p2,-⟩:=fams (P:=Y00) (gl:=runLives.gl) [ZhB (by kernel_rfl) rfl ZjF,ZhB (by kernel_rfl) rfl a2] rfl
 have q1:=λH=>p1 () trivial H
 have q2:=λH=>p2 () trivial H
 simp only[ZhB]at q1 q2
 refine Z0C follows Z0x hO Tryd.func6 rfl ?_
 repeat' ((conv=>whnf);first|with_reducible refine exI (q1 _) ?_|with_reducible refine exI (q2 _) ?_|refine stp ?_|with_reducible apply Z03<;>intro h)
 all_goals rfl
end Go.Proofs.YtajhailaofchlaaDoor.lex
namespace Go.Proofs.YtajhailaofchlaaDoor.ayLaw
open Go.Abs Go.RowKit
def Qs:List (AV->Prop):=[λu=>∃p:lex.Pr,u=p.av/\lex.okP p]
theorem opens:Z75 Y00 Tryd.f6.params.toList Qs:=by
 rw[Tryd.params6]
 exact⟨lex.opensP,trivial⟩
theorem law(us:List AV)(h:Zm6 Qs us):Z0k Y00 runLives.gl 6 us (.bool true):=by
 obtain⟨_,_,rfl,⟨p,rfl,hp⟩,h1⟩:=Zhk h
 cases Zjb h1
 obtain⟨ds,ts⟩:=p
 cases hl:lex.lightP ⟨ds,ts⟩ 3000 with
 |true=>exact lex.ay_law ds ts hp hl
 |false=>exact lex.ay_dark ds ts hp hl
theorem solid:Solid Y00:=by unfold Solid;kernel_rfl
end Go.Proofs.YtajhailaofchlaaDoor.ayLaw
end

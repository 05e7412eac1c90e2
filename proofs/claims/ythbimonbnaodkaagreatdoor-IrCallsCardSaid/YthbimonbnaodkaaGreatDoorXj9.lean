/-
  Texts of this proof, one behind the other (part 9).
-/
import Derived.Test.YthbimonbnaodkaaGreatDoorXj8
set_option linter.unusedVariables false
set_option linter.unusedSimpArgs false
set_option linter.unusedSectionVars false
set_option maxRecDepth 100000
set_option maxHeartbeats 4000000
open Go.Proofs.Tryz renaming prog → Y00
open Bool renaming and_eq_true → Y01
section
namespace Go.Proofs.YthbimonbnaodkaaGreatDoor.lex
open Go.Abs Go.RowKit Go.Flat
theorem ZeC{i:Ins}(h:ltI i=true):sizeL i.ex<=800000/\∀e∈i.ex,Z0a e<=800000:=by
 unfold ltI at h
 simp only[Y01,decide_eq_true_eq]at h
 have key:∀l:List Ex,(l.all λe=>decide (0<=Z0X e 60))=true->sizeL l<=l.length*60:=by
  intro l
  induction l with
  |nil=>intro _;simp[sizeL]
  |cons e l ih =>
   intro h
   simp only[List.all_cons,Y01,decide_eq_true_eq]at h
   have h1:=ih h.2
   have h2:=Z65 e 60 h.1
   simp only[sizeL,List.length_cons]
   omega
 have h1:=key _ h.2
 exact⟨by omega,λe he=>by have:=Z0h _ _ he;omega⟩
mutual
theorem Zjz:∀e:Ex,Z0O e e=true
 | .mk o n s k=>by simp only[Z0O,sameL_rf k,beq_self_eq_true,Bool.and_true]
theorem sameL_rf:∀l:List Ex,sameL l l=true
 |[]=>by simp only[sameL]
 |e::l=>by simp only[sameL,Zjz e,sameL_rf l,Bool.and_true]
end
theorem Zjy(i:Ins):Z11 i i=true:=by simp only[Z11,sameL_rf,beq_self_eq_true,Bool.and_true]
theorem Zkg(c:Cd)(hok:okC c):ValOK Y00 runLives.gl 22 [c.av,c.av] (.bool true):=by
 have hk:=Zmx (gl:=runLives.gl) c.ins c.ins hok.2 hok.1
 rw[ZbX Z11 (λx _=>Zjy x)]at hk
 obtain⟨O,hO,p1,-⟩:=fams (P:=Y00) (gl:=runLives.gl) [Z3U (by kernel_rfl) rfl hk] rfl
 have q1:∀H,Z02 Y00 O H 72 [.rs c.ins.length 6 (inC c.ins),.rs c.ins.length 6 (inC c.ins)]=some (.bool true,H):=p1 () trivial
 clear p1 hk
 obtain⟨regs,l⟩:=c
 simp only[Cd.av]at *
 have e1:(regs==regs)=true:=by simp
 refine Z05 follows Z07 hO Tryz.func22 rfl ?_
 repeat' ((conv=>whnf);first|refine exI (q1 _) ?_|refine stp ?_|with_reducible apply Z01<;>intro h)
 all_goals rfl
section both
variable {c:Cd} (hok:okC c) (hs:∀i∈c.ins,∀e∈i.ex,Z0a e<=800000) (hl:∀i∈c.ins,sizeL i.ex<=800000)
include hok hs hl
theorem ZfE:∃n cs,ValOK Y00 runLives.gl 35 [c.av] (.rs n 1 cs)/\ValOK Y00 runLives.gl 14 [c.av] (.rs n 1 cs)/\ValOK Y00 runLives.gl 34 [.rs n 1 cs,.rs n 1 cs] (.bool true):=by
 by_cases h:Z2o c=0
 ·exact⟨_,_,ZcP c hok h,ZfD c hok hs h,Z92 _ _ (by have:=(Z2j h).good.few;omega)⟩
 ·exact⟨0,[],ValOK.res (Zh7 hok h) rfl,ValOK.res (Zh8 hs hok h) rfl,Z92 (λ_=>true) 0 (by omega)⟩
theorem ZhF:∃n cs,ValOK Y00 runLives.gl 41 [c.av] (.rs n 1 cs)/\ValOK Y00 runLives.gl 42 [c.av] (.rs n 1 cs)/\ValOK Y00 runLives.gl 40 [.rs n 1 cs,.rs n 1 cs] (.bool true):=by
 by_cases h:Z2o c=0
 · refine⟨_,_,ZeD c hok h hl,Zk5 c hok h hs,Zbn _ _ (by have:=(Z2j h).good.few;omega) λv _=>?_⟩
   unfold Go.Live.liveL
   exact Nat.le_trans (List.length_filter_le _ _) (by simp)
 ·exact⟨0,[],ValOK.res (Zk6 hok h) rfl,ValOK.res (Zk7 hs hok h) rfl,Zbn (λ_=>[]) 0 (by omega) (by intro v hv;omega)⟩
theorem ZgB(hg:∀i∈c.ins,rgL i.ex)(hlt:ltC c 80=true):∃T e,ValOK Y00 runLives.gl 29 [c.av] (.tuple [.str T,.int .i64 e])/\ValOK Y00 runLives.gl 30 [c.av] (.tuple [.str T,.int .i64 e]):=by
 by_cases h:Z2o c=0
 · have ht:=ZnD hok hg h hlt
   exact⟨_,_,Zbq c ht h,ZfC c ht h⟩
 ·exact⟨_,_,Zjm hok h,Zjn hs hok h⟩
end both
theorem Zmd(c:Cd)(a:Int):(nxA c a).length<=1048576:=by
 unfold nxA
 split
 ·have:=Z61 c.ins a.toNat;omega
 ·simp
theorem ZeL:∀{a b:List Ins},inC a=inC b->a=b
 |[],[],_=>rfl
 |[],i::b,h=>by simp[inC,icells]at h
 |i::a,[],h=>by simp[inC,icells]at h
 |i::a,j::b,h=>by
  simp only[inC]at h
  have h1:=List.append_inj h rfl
  rw[Z1g h1.1,ZeL h1.2]
theorem ZiB{a b:Cd}(h:a.av=b.av):a=b:=by
 obtain⟨r,l⟩:=a
 obtain⟨r',l'⟩:=b
 simp only[Cd.av,AV.agg.injEq,List.cons.injEq,AV.int.injEq,AV.rs.injEq,and_true,true_and]at h
 rw[h.1,ZeL h.2.2]
def ZmN:Fam Y00 runLives.gl:={ I:=List Nat,f:=23,G:=λl=>l.length<=1048576,A:=λl=>[Z1a l,Z1a l],R:=λl=>.bool true,body:=(by kernel_rfl),inj:=(λx y _ _ h=>rfl),ok:=(λl h=>⟨rfl,Z7L l h⟩) }
theorem exL{P:Program}{O:Orc}{H:Z00}{args:List AV}{K:AV×Z00->Prop}(b:Bool)(h:Z02 P O H 9 args=some (.bool b,H))(k:K (.bool b,H)):∃y,Z02 P O H 9 args=some y/\K y:=⟨_,h,k⟩
set_option maxHeartbeats 80000000 in
theorem ic_law(c o:Cd)(a:Int)(i:Ins)(hc:okC c)(hcg:∀i∈c.ins,rgL i.ex)(ho:okC o)(hi:i.ex.length<=9223372036854775807)(hik:okL i.ex):ValOK Y00 runLives.gl 7 [c.av,o.av,.int .i64 a,.agg (icells i)] (.bool true):=by
 have a1:=ZnZ
 have hoki:okC ⟨0,[i]⟩:=⟨by simp,λj hj=>by rw[List.mem_singleton.1 hj];exact⟨hi,hik⟩⟩
 by_cases hlt:ltC c 80=true/\ltC o 80=true/\ltC ⟨0,[i]⟩ 80=true
 · obtain⟨h1,h2,h3⟩:=hlt
   have hs:=(Z9T h1).2
   have hl:∀j∈c.ins,sizeL j.ex<=800000:=λj hj=>by
    unfold ltC at h1
    simp only[Y01,decide_eq_true_eq]at h1
    exact (ZeC (List.all_eq_true.1 h1.2 j hj)).1
   have hl80:(c.ins.length:Int)<=80:=(Z9T h1).1
   have hii:ltI i=true:=by
    unfold ltC at h3
    simp only[Y01,decide_eq_true_eq]at h3
    exact List.all_eq_true.1 h3.2 i (by simp)
   obtain⟨hi1,hi2⟩:=ZeC hii
   have b1:=Z14 c hc
   have b2:=Z1d (gl:=runLives.gl) c hc hs
   have b3:=Zhs hc a
   have b4:=Zht hc hs a
   have b5:=Zmd c a
   obtain⟨rn,rc,b6,b7,b8⟩:=ZfE hc hs hl
   have b9:=ZdO (gl:=runLives.gl) i hik hi hi1
   have b10:=ZdN (gl:=runLives.gl) i hi hik hi2
   have b11:(Z1w i).length<=1048576:=by have:=Z58 i;have:=ursL_len i.ex;omega
   have b12:=Ze9 (gl:=runLives.gl) i
   have b13:=Ze8 (gl:=runLives.gl) i
   obtain⟨ln,lc,b14,b15,b16⟩:=ZhF hc hs hl
   obtain⟨T,e,b17,b18⟩:=ZgB hc hs hl hcg h1
   have b19:=ZhR (gl:=runLives.gl) c o hc
   have b20:=ZjA (gl:=runLives.gl) c o hc hs
   have b21:=ZhS (gl:=runLives.gl) c hc (by omega) (λj hj=>by have:=hl j hj;omega)
   have b22:=Zkg c hc
   obtain⟨O1,hO1,pa1,pi,pb1,pb2,pb3,pb4,pb6,pb7,pb8,pb9,pb10,pb12,pb13,pb14,pb15,pb16,pb17,pb18,pb19,pb20,pb21,pb22,-⟩:=fams (P:=Y00) (gl:=runLives.gl) [Z3U (by kernel_rfl) rfl a1,ZmN,Z3U (by kernel_rfl) rfl b1,Z3U (by kernel_rfl) rfl b2,Z3U (by kernel_rfl) rfl b3,Z3U (by kernel_rfl) rfl b4,Z3U (by kernel_rfl) rfl b6,Z3U (by kernel_rfl) rfl b7,Z3U (by kernel_rfl) rfl b8,Z3U (by kernel_rfl) rfl b9,Z3U (by kernel_rfl) rfl b10,Z3U (by kernel_rfl) rfl b12,Z3U (by kernel_rfl) rfl b13,Z3U (by kernel_rfl) rfl b14,Z3U (by kernel_rfl) rfl b15,Z3U (by kernel_rfl) rfl b16,Z3U (by kernel_rfl) rfl b17,Z3U (by kernel_rfl) rfl b18,Z3U (by kernel_rfl) rfl b19,Z3U (by kernel_rfl) rfl b20,Z3U (by kernel_rfl) rfl b21,Z3U (by kernel_rfl) rfl b22] rfl
   obtain⟨O,hO,pl,kq⟩:=Zd1 (P:=Y00) (gl:=runLives.gl) (I:=Cd) (f0:=9) (G:=λc=>okC c) (A:=λc=>[c.av,.int .i64 80]) (R:=λc=>.bool (ltC c 80)) (λ_ _=>rfl) (λx y _ _ h=>by simp only[List.cons.injEq,and_true]at h;rw[ZiB h]) (λc h=>Zbl c h 80) (by kernel_rfl) hO1
   have ra1:∀H,Z02 Y00 O1 H 28 []=some (.bool true,H):=pa1 () trivial
   have ra2:∀H args,Z0T (frz H 30) args=some [c.av,.int .i64 80]->Z02 Y00 O H 9 args=some (.bool (ltC c 80),H):=pl c hc
   have ra3:∀H args,Z0T (frz H 30) args=some [o.av,.int .i64 80]->Z02 Y00 O H 9 args=some (.bool (ltC o 80),H):=pl o ho
   have ra4:∀H args,Z0T (frz H 30) args=some [Cd.av ⟨0,[i]⟩,.int .i64 80]->Z02 Y00 O H 9 args=some (.bool (ltC ⟨0,[i]⟩ 80),H):=pl ⟨0,[i]⟩ hoki
   rw[h1]at ra2
   rw[h2]at ra3
   rw[h3]at ra4
   have rb5:∀H,Z02 Y00 O1 H 23 [Z1a (nxA c a),Z1a (nxA c a)]=some (.bool true,H):=pi _ b5
   have rb11:∀H,Z02 Y00 O1 H 23 [Z1a (Z1w i),Z1a (Z1w i)]=some (.bool true,H):=pi _ b11
   have rb1:∀H,Z02 Y00 O1 H 31 [c.av]=some (.int .i64 (Z2o c),H):=pb1 () trivial
   have rb2:∀H,Z02 Y00 O1 H 10 [c.av]=some (.int .i64 (Z2o c),H):=pb2 () trivial
   have rb3:∀H,Z02 Y00 O1 H 32 [c.av,.int .i64 a]=some (Z1a (nxA c a),H):=pb3 () trivial
   have rb4:∀H,Z02 Y00 O1 H 33 [c.av,.int .i64 a]=some (Z1a (nxA c a),H):=pb4 () trivial
   have rb6:∀H,Z02 Y00 O1 H 35 [c.av]=some (.rs rn 1 rc,H):=pb6 () trivial
   have rb7:∀H,Z02 Y00 O1 H 14 [c.av]=some (.rs rn 1 rc,H):=pb7 () trivial
   have rb8:∀H,Z02 Y00 O1 H 34 [.rs rn 1 rc,.rs rn 1 rc]=some (.bool true,H):=pb8 () trivial
   have rb9:∀H,Z02 Y00 O1 H 36 [.agg (icells i)]=some (Z1a (Z1w i),H):=pb9 () trivial
   have rb10:∀H,Z02 Y00 O1 H 37 [.agg (icells i)]=some (Z1a (Z1w i),H):=pb10 () trivial
   have rb12:∀H,Z02 Y00 O1 H 38 [.agg (icells i)]=some (.int .i64 (Z2g i),H):=pb12 () trivial
   have rb13:∀H,Z02 Y00 O1 H 39 [.agg (icells i)]=some (.int .i64 (Z2g i),H):=pb13 () trivial
   have rb14:∀H,Z02 Y00 O1 H 41 [c.av]=some (.rs ln 1 lc,H):=pb14 () trivial
   have rb15:∀H,Z02 Y00 O1 H 42 [c.av]=some (.rs ln 1 lc,H):=pb15 () trivial
   have rb16:∀H,Z02 Y00 O1 H 40 [.rs ln 1 lc,.rs ln 1 lc]=some (.bool true,H):=pb16 () trivial
   have rb17:∀H,Z02 Y00 O1 H 29 [c.av]=some (.tuple [.str T,.int .i64 e],H):=pb17 () trivial
   have rb18:∀H,Z02 Y00 O1 H 30 [c.av]=some (.tuple [.str T,.int .i64 e],H):=pb18 () trivial
   have rb19:∀H,Z02 Y00 O1 H 43 [c.av,o.av]=some (.bool (ZcI c o),H):=pb19 () trivial
   have rb20:∀H,Z02 Y00 O1 H 44 [c.av,o.av]=some (.bool (ZcI c o),H):=pb20 () trivial
   have rb21:∀H,Z02 Y00 O1 H 45 [c.av]=some (c.av,H):=pb21 () trivial
   have rb22:∀H,Z02 Y00 O1 H 22 [c.av,c.av]=some (.bool true,H):=pb22 () trivial
   clear pa1 pl pi pb1 pb2 pb3 pb4 pb6 pb7 pb8 pb9 pb10 pb12 pb13 pb14 pb15 pb16 pb17 pb18 pb19 pb20 pb21 pb22
   clear a1 b1 b2 b3 b4 b5 b6 b7 b8 b9 b10 b11 b12 b13 b14 b15 b16 b17 b18 b19 b20 b21 b22
   clear h1 h2 h3 hs hl hii
   generalize Z2o c=ck at *
   generalize nxA c a=N at *
   generalize Z1w i=U at *
   generalize Z2g i=st at *
   generalize ZcI c o=w at *
   obtain⟨regs,l⟩:=c
   obtain⟨rego,lo⟩:=o
   obtain⟨yk,yr,yl,yo,yt,ex⟩:=i
   have qa1:∀H,Z02 Y00 O H 28 []=some (.bool true,H):=λH=>(kq _ (by decide) _ H).trans (ra1 H)
   have qa2:∀H,Z02 Y00 O H 9 [.agg [.int .i64 regs,.rs l.length 6 (inC l)],.int .i64 80]=some (.bool true,H):=λH=>ra2 H _ rfl
   have qa3:∀H,Z02 Y00 O H 9 [.agg [.int .i64 rego,.rs lo.length 6 (inC lo)],.int .i64 80]=some (.bool true,H):=λH=>ra3 H _ rfl
   have qa4:∀H args,Z0T (frz H 30) args=some [.agg [.int .i64 0,.rs 1 6 [.int .i64 yk,.int .i64 yr,.int .i64 yl,.int .i64 yo,.int .i64 yt,.rs ex.length 4 (exC ex)]],.int .i64 80]->Z02 Y00 O H 9 args=some (.bool true,H):=ra4
   have qb1:∀H,Z02 Y00 O H 31 [.agg [.int .i64 regs,.rs l.length 6 (inC l)]]=some (.int .i64 ck,H):=λH=>(kq _ (by decide) _ H).trans (rb1 H)
   have qb2:∀H,Z02 Y00 O H 10 [.agg [.int .i64 regs,.rs l.length 6 (inC l)]]=some (.int .i64 ck,H):=λH=>(kq _ (by decide) _ H).trans (rb2 H)
   have qb3:∀H,Z02 Y00 O H 32 [.agg [.int .i64 regs,.rs l.length 6 (inC l)],.int .i64 a]=some (.rs N.length 1 (nis N),H):=λH=>(kq _ (by decide) _ H).trans (rb3 H)
   have qb4:∀H,Z02 Y00 O H 33 [.agg [.int .i64 regs,.rs l.length 6 (inC l)],.int .i64 a]=some (.rs N.length 1 (nis N),H):=λH=>(kq _ (by decide) _ H).trans (rb4 H)
   have qb5:∀H,Z02 Y00 O H 23 [.rs N.length 1 (nis N),.rs N.length 1 (nis N)]=some (.bool true,H):=λH=>(kq _ (by decide) _ H).trans (rb5 H)
   have qb6:∀H,Z02 Y00 O H 35 [.agg [.int .i64 regs,.rs l.length 6 (inC l)]]=some (.rs rn 1 rc,H):=λH=>(kq _ (by decide) _ H).trans (rb6 H)
   have qb7:∀H,Z02 Y00 O H 14 [.agg [.int .i64 regs,.rs l.length 6 (inC l)]]=some (.rs rn 1 rc,H):=λH=>(kq _ (by decide) _ H).trans (rb7 H)
   have qb8:∀H,Z02 Y00 O H 34 [.rs rn 1 rc,.rs rn 1 rc]=some (.bool true,H):=λH=>(kq _ (by decide) _ H).trans (rb8 H)
   have qb9:∀H,Z02 Y00 O H 36 [.agg [.int .i64 yk,.int .i64 yr,.int .i64 yl,.int .i64 yo,.int .i64 yt,.rs ex.length 4 (exC ex)]]=some (.rs U.length 1 (nis U),H):=λH=>(kq _ (by decide) _ H).trans (rb9 H)
   have qb10:∀H,Z02 Y00 O H 37 [.agg [.int .i64 yk,.int .i64 yr,.int .i64 yl,.int .i64 yo,.int .i64 yt,.rs ex.length 4 (exC ex)]]=some (.rs U.length 1 (nis U),H):=λH=>(kq _ (by decide) _ H).trans (rb10 H)
   have qb11:∀H,Z02 Y00 O H 23 [.rs U.length 1 (nis U),.rs U.length 1 (nis U)]=some (.bool true,H):=λH=>(kq _ (by decide) _ H).trans (rb11 H)
   have qb12:∀H,Z02 Y00 O H 38 [.agg [.int .i64 yk,.int .i64 yr,.int .i64 yl,.int .i64 yo,.int .i64 yt,.rs ex.length 4 (exC ex)]]=some (.int .i64 st,H):=λH=>(kq _ (by decide) _ H).trans (rb12 H)
   have qb13:∀H,Z02 Y00 O H 39 [.agg [.int .i64 yk,.int .i64 yr,.int .i64 yl,.int .i64 yo,.int .i64 yt,.rs ex.length 4 (exC ex)]]=some (.int .i64 st,H):=λH=>(kq _ (by decide) _ H).trans (rb13 H)
   have qb14:∀H,Z02 Y00 O H 41 [.agg [.int .i64 regs,.rs l.length 6 (inC l)]]=some (.rs ln 1 lc,H):=λH=>(kq _ (by decide) _ H).trans (rb14 H)
   have qb15:∀H,Z02 Y00 O H 42 [.agg [.int .i64 regs,.rs l.length 6 (inC l)]]=some (.rs ln 1 lc,H):=λH=>(kq _ (by decide) _ H).trans (rb15 H)
   have qb16:∀H,Z02 Y00 O H 40 [.rs ln 1 lc,.rs ln 1 lc]=some (.bool true,H):=λH=>(kq _ (by decide) _ H).trans (rb16 H)
   have qb17:∀H,Z02 Y00 O H 29 [.agg [.int .i64 regs,.rs l.length 6 (inC l)]]=some (.tuple [.str T,.int .i64 e],H):=λH=>(kq _ (by decide) _ H).trans (rb17 H)
   have qb18:∀H,Z02 Y00 O H 30 [.agg [.int .i64 regs,.rs l.length 6 (inC l)]]=some (.tuple [.str T,.int .i64 e],H):=λH=>(kq _ (by decide) _ H).trans (rb18 H)
   have qb19:∀H,Z02 Y00 O H 43 [.agg [.int .i64 regs,.rs l.length 6 (inC l)],.agg [.int .i64 rego,.rs lo.length 6 (inC lo)]]=some (.bool w,H):=λH=>(kq _ (by decide) _ H).trans (rb19 H)
   have qb20:∀H,Z02 Y00 O H 44 [.agg [.int .i64 regs,.rs l.length 6 (inC l)],.agg [.int .i64 rego,.rs lo.length 6 (inC lo)]]=some (.bool w,H):=λH=>(kq _ (by decide) _ H).trans (rb20 H)
   have qb21:∀H,Z02 Y00 O H 45 [.agg [.int .i64 regs,.rs l.length 6 (inC l)]]=some (.agg [.int .i64 regs,.rs l.length 6 (inC l)],H):=λH=>(kq _ (by decide) _ H).trans (rb21 H)
   have qb22:∀H,Z02 Y00 O H 22 [.agg [.int .i64 regs,.rs l.length 6 (inC l)],.agg [.int .i64 regs,.rs l.length 6 (inC l)]]=some (.bool true,H):=λH=>(kq _ (by decide) _ H).trans (rb22 H)
   clear kq ra1 ra2 ra3 ra4 rb1 rb2 rb3 rb4 rb5 rb6 rb7 rb8 rb9 rb10 rb11 rb12 rb13 rb14 rb15 rb16 rb17 rb18 rb19 rb20 rb21 rb22
   have e1:(ck==ck)=true:=by simp
   have e2:(st==st)=true:=by simp
   have e3:(T==T)=true:=by simp
   have e4:(e==e)=true:=by simp
   have e5:(w==w)=true:=by simp
   simp only[Cd.av,icells,exA]at *
   refine Z05 follows Z07 hO Tryz.func7 rfl ?_
   repeat' ((conv=>whnf);first|with_reducible refine exI (qa1 _) ?_|with_reducible refine exI (qa2 _) ?_|with_reducible refine exI (qa3 _) ?_|(with_reducible refine exL true ?_ ?_;(focus (exact qa4 _ _ rfl)))|with_reducible refine exI (qb1 _) ?_|with_reducible refine exI (qb2 _) ?_|with_reducible refine exI (qb3 _) ?_|with_reducible refine exI (qb4 _) ?_|with_reducible refine exI (qb5 _) ?_|with_reducible refine exI (qb6 _) ?_|with_reducible refine exI (qb7 _) ?_|with_reducible refine exI (qb8 _) ?_|with_reducible refine exI (qb9 _) ?_|with_reducible refine exI (qb10 _) ?_|with_reducible refine exI (qb11 _) ?_|with_reducible refine exI (qb12 _) ?_|with_reducible refine exI (qb13 _) ?_|with_reducible refine exI (qb14 _) ?_|with_reducible refine exI (qb15 _) ?_|with_reducible refine exI (qb16 _) ?_|with_reducible refine exI (qb17 _) ?_|with_reducible refine exI (qb18 _) ?_|with_reducible refine exI (qb19 _) ?_|with_reducible refine exI (qb20 _) ?_|with_reducible refine exI (qb21 _) ?_|with_reducible refine exI (qb22 _) ?_|refine stp ?_|with_reducible apply Z01<;>intro h)
   all_goals rfl
 · obtain⟨b2,hb2⟩:∃b,ltC c 80=b:=⟨_,rfl⟩
   obtain⟨b3,hb3⟩:∃b,ltC o 80=b:=⟨_,rfl⟩
   obtain⟨b4,hb4⟩:∃b,ltC ⟨0,[i]⟩ 80=b:=⟨_,rfl⟩
   obtain⟨O1,hO1,pa1,-⟩:=fams (P:=Y00) (gl:=runLives.gl) [Z3U (by kernel_rfl) rfl a1] rfl
   obtain⟨O,hO,pl,kq⟩:=Zd1 (P:=Y00) (gl:=runLives.gl) (I:=Cd) (f0:=9) (G:=λc=>okC c) (A:=λc=>[c.av,.int .i64 80]) (R:=λc=>.bool (ltC c 80)) (λ_ _=>rfl) (λx y _ _ h=>by simp only[List.cons.injEq,and_true]at h;rw[ZiB h]) (λc h=>Zbl c h 80) (by kernel_rfl) hO1
   have ra1:∀H,Z02 Y00 O1 H 28 []=some (.bool true,H):=pa1 () trivial
   have ra2:∀H args,Z0T (frz H 30) args=some [c.av,.int .i64 80]->Z02 Y00 O H 9 args=some (.bool (ltC c 80),H):=pl c hc
   have ra3:∀H args,Z0T (frz H 30) args=some [o.av,.int .i64 80]->Z02 Y00 O H 9 args=some (.bool (ltC o 80),H):=pl o ho
   have ra4:∀H args,Z0T (frz H 30) args=some [Cd.av ⟨0,[i]⟩,.int .i64 80]->Z02 Y00 O H 9 args=some (.bool (ltC ⟨0,[i]⟩ 80),H):=pl ⟨0,[i]⟩ hoki
   rw[hb2,hb3,hb4]at hlt
   rw[hb2]at ra2
   rw[hb3]at ra3
   rw[hb4]at ra4
   clear hb2 hb3 hb4 pa1 pl a1
   obtain⟨regs,l⟩:=c
   obtain⟨rego,lo⟩:=o
   obtain⟨yk,yr,yl,yo,yt,ex⟩:=i
   have qa1:∀H,Z02 Y00 O H 28 []=some (.bool true,H):=λH=>(kq _ (by decide) _ H).trans (ra1 H)
   have qa2:∀H,Z02 Y00 O H 9 [.agg [.int .i64 regs,.rs l.length 6 (inC l)],.int .i64 80]=some (.bool b2,H):=λH=>ra2 H _ rfl
   have qa3:∀H,Z02 Y00 O H 9 [.agg [.int .i64 rego,.rs lo.length 6 (inC lo)],.int .i64 80]=some (.bool b3,H):=λH=>ra3 H _ rfl
   have qa4:∀H args,Z0T (frz H 30) args=some [.agg [.int .i64 0,.rs 1 6 [.int .i64 yk,.int .i64 yr,.int .i64 yl,.int .i64 yo,.int .i64 yt,.rs ex.length 4 (exC ex)]],.int .i64 80]->Z02 Y00 O H 9 args=some (.bool b4,H):=ra4
   clear kq ra1 ra2 ra3 ra4
   simp only[Cd.av,icells,exA]at *
   refine Z05 follows Z07 hO Tryz.func7 rfl ?_
   cases b2
   case' true=>cases b3
   case' true.true=>cases b4
   case' true.true.true=>exact absurd ⟨rfl,rfl,rfl⟩ hlt
   all_goals clear hlt
   all_goals repeat' ((conv=>whnf);first|with_reducible refine exI (qa1 _) ?_|with_reducible refine exI (qa2 _) ?_|with_reducible refine exI (qa3 _) ?_|(with_reducible refine exL true ?_ ?_;(focus (exact qa4 _ _ rfl)))|(with_reducible refine exL false ?_ ?_;(focus (exact qa4 _ _ rfl)))|refine stp ?_|with_reducible apply Z01<;>intro h)
   all_goals rfl
end Go.Proofs.YthbimonbnaodkaaGreatDoor.lex
namespace Go.Proofs.YthbimonbnaodkaaGreatDoor.icaLaw
open Go.Abs Go.RowKit
def Qs:List (AV->Prop):=[λu=>∃c:lex.Cd,u=c.av/\lex.okC c/\∀i∈c.ins,lex.rgL i.ex,λu=>∃c:lex.Cd,u=c.av/\lex.okC c/\∀i∈c.ins,lex.rgL i.ex,λu=>∃n,u = .int .i64 n/\(Lit.int .i64 n).wf=true,λu=>∃i:lex.Ins,u = .agg (lex.icells i)/\i.ex.length<=9223372036854775807/\lex.okL i.ex/\lex.rgL i.ex]
theorem opens:Z7f Y00 Tryz.f7.params.toList Qs:=by
 rw[Tryz.params7]
 exact⟨lex.oc.opensC,lex.oc.opensC,ZfK Tryz.underlying3,lex.oc.opensI,trivial⟩
theorem law(us:List AV)(h:Znh Qs us):ValOK Y00 runLives.gl 7 us (.bool true):=by
 obtain⟨_,_,rfl,⟨c,rfl,hc,hcg⟩,h1⟩:=Z5O h
 obtain⟨_,_,rfl,⟨o,rfl,ho,_⟩,h2⟩:=Z5O h1
 obtain⟨_,_,rfl,⟨a,rfl,_⟩,h3⟩:=Z5O h2
 obtain⟨_,_,rfl,⟨i,rfl,hi,hik,_⟩,h4⟩:=Z5O h3
 cases ZkO h4
 exact lex.ic_law c o a i hc hcg ho hi hik
theorem solid:Solid Y00:=by unfold Solid;kernel_rfl
end Go.Proofs.YthbimonbnaodkaaGreatDoor.icaLaw
end

/-
  Texts of this proof, one behind the other (part 6).
-/
import Derived.Test.YtpcpdlfhcahjgaaGreatDoorXd5
set_option linter.unusedVariables false
set_option linter.unusedSimpArgs false
set_option maxRecDepth 100000
set_option maxHeartbeats 4000000
open Go.Proofs.Tryz renaming prog → Y00
namespace Go.Proofs.YtpcpdlfhcahjgaaGreatDoor.lex
open Go.Abs Go.RowKit
section
def ZnL(f:Nat):Bool:=Nat.beq f 52 || (Nat.beq f 68 || (Nat.beq f 70 || (Nat.beq f 72 || (Nat.beq f 47 || (Nat.beq f 63 || Nat.beq f 90)))))
def DLf.fromG(v:DLf):DId×DLf:=if v.ok then (⟨v.next.2.l,v.next.1==Z31⟩:DLf).did else v.did
def DLf.tail(v:DLf)(rd wr:Bool):Int×Int×DId×DLf:=((v.num? rd).1,((v.num? rd).2.num? wr).1,(((v.num? rd).2.num? wr).2.from? rd).1,(((v.num? rd).2.num? wr).2.from? rd).2)
def Zdk(v:DLf)(rd wr:Bool):DId×DLf:=if rd then (if wr then v.number.2.number.2.fromG else v.number.2.fromG) else (idD,if wr then v.number.2 else v)
theorem Zfe(v:DLf)(rd wr:Bool):v.tail rd wr=(if rd then v.number.1 else 0,if wr then (if rd then v.number.2.number.1 else v.number.1) else 0,(Zdk v rd wr).1,(Zdk v rd wr).2):=by
 cases rd<;>cases wr<;>rfl
def DLf.ev2(w:DLf)(k n:Int)(rd wr:Bool):DEv×DId×DLf:=(⟨k,n,(w.look Z9u).1,((w.look Z9u).2.tail rd wr).1,((w.look Z9u).2.tail rd wr).2.1⟩,((w.look Z9u).2.tail rd wr).2.2.1,((w.look Z9u).2.tail rd wr).2.2.2)
theorem Ziw(w:DLf):w.event=((w.look Z2Z).2.evLoc (w.look Z2Z).1).2.ev2 (w.look Z2Z).1 ((w.look Z2Z).2.evLoc (w.look Z2Z).1).1 ((w.look Z2Z).1==1 || (w.look Z2Z).1==3) ((w.look Z2Z).1==2 || (w.look Z2Z).1==3):=rfl
theorem Zm4(w:DLf)(hw:LfOK w):Z7R Y00 runLives.gl 1 73 [.ptr 0 0] (lfH w) (.tuple [.agg (evC w.event.1),.agg (idC w.event.2.1)]) (lfH w.event.2.2):=by
 obtain⟨O,hO,⟨p1,p2,p3,p4,-⟩,p5,p6,p7,-⟩:=Z5m (P:=Y00) (gl:=runLives.gl) [Z8Q,Z8I,ZlQ,Zjp] [
  { I:=DEv,f:=47,G:=(λ_=>True),A:=(λn=>[.agg (evC n)]),R:=(λn=>.bool n.rd),body:=(by kernel_rfl),inj:=(λi j _ _ h=>by simp[evC]at h;cases i;cases j;simp_all),ok:=(λn h=>⟨rfl,ZgG n⟩) },
  { I:=DEv,f:=63,G:=(λ_=>True),A:=(λn=>[.agg (evC n)]),R:=(λn=>.bool n.wr),body:=(by kernel_rfl),inj:=(λi j _ _ h=>by simp[evC]at h;cases i;cases j;simp_all),ok:=(λn h=>⟨rfl,Zjl n⟩) },
  { I:=List UInt8,f:=90,G:=(λs=>s.length<=1048576),A:=(λs=>[.str s,.str [120]]),R:=(λs=>.tuple [.str (xOf s).1,.bool (xOf s).2]),body:=(by kernel_rfl),inj:=(λi j _ _ h=>by simp only[List.cons.injEq,AV.str.injEq,and_true]at h;rw[h]),ok:=(λs hs=>⟨rfl,ZjA s (by omega)⟩) }] rfl
 have qn:∀w,LfOK w->∀X,Z1s [0] X=true->Z02 Y00 O (lfH w++X) 52 [.ptr 0 0]=some (.str w.next.1,lfH w.next.2++X):=λw hw X hX=>p1 ((),w,X) ⟨hw,hX⟩
 have qs:∀w s,s.length<=1048576->∀X,Z1s [0] X=true->Z02 Y00 O (lfH w++X) 68 [.ptr 0 0,.str s]=some (.int .i64 (w.small s).1,lfH (w.small s).2++X):=λw s hs X hX=>p2 (s,w,X) ⟨hs,hX⟩
 have qm:∀w,LfOK w->∀X,Z1s [0] X=true->Z02 Y00 O (lfH w++X) 70 [.ptr 0 0]=some (.int .i64 w.number.1,lfH w.number.2++X):=λw hw X hX=>p3 ((),w,X) ⟨hw,hX⟩
 have qd:∀w,LfOK w->∀X,Z1s [0] X=true->Z02 Y00 O (lfH w++X) 72 [.ptr 0 0]=some (.agg (idC w.did.1),lfH w.did.2++X):=λw hw X hX=>p4 ((),w,X) ⟨hw,hX⟩
 have qr0:∀e H,Z02 Y00 O H 47 [.agg (evC e)]=some (.bool e.rd,H):=λe H=>p5 e trivial H
 have qw0:∀e H,Z02 Y00 O H 63 [.agg (evC e)]=some (.bool e.wr,H):=λe H=>p6 e trivial H
 have qx:∀s,s.length<=1048576->∀H,Z02 Y00 O H 90 [.str s,.str [120]]=some (.tuple [.str (xOf s).1,.bool (xOf s).2],H):=λs hs H=>p7 s hs H
 clear p1 p2 p3 p4 p5 p6 p7
 have f1:=Z0r hw
 have g1:=qn w hw
 have hkl:=λH b f c h=>Zg6 (H:=H) (b:=b) (f:=f) (c:=c) w.next.1 h
 rw[Ziw w]
 simp only[Z8R w Z2Z]
 generalize w.next.1=s1 at *
 generalize w.next.2=w1 at *
 generalize hkr:Z2Z s1=kr at *
 obtain⟨l1,ok1⟩:=w1
 have F2:LfOK ⟨l1,ok1&&kr.isSome⟩:=ZeU f1.1 rfl
 generalize kr.getD 0=k at *
 generalize kr.isSome=kb at *
 obtain⟨l0,ok0⟩:=w
 (try dsimp only at *)
 obtain⟨rd,hrd0⟩:∃rd,(k==1 || k==3)=rd:=⟨_,rfl⟩
 obtain⟨wr,hwr0⟩:∃wr,(k==2 || k==3)=wr:=⟨_,rfl⟩
 have qr:∀a b c d H,Z02 Y00 O H 47 [.agg [.int .i64 k,.int .i64 a,.int .i64 b,.int .i64 c,.int .i64 d]]=some (.bool rd,H):=λa b c d H=>by rw[<- hrd0];exact qr0 ⟨k,a,b,c,d⟩ H
 have qw:∀a b c d H,Z02 Y00 O H 63 [.agg [.int .i64 k,.int .i64 a,.int .i64 b,.int .i64 c,.int .i64 d]]=some (.bool wr,H):=λa b c d H=>by rw[<- hwr0];exact qw0 ⟨k,a,b,c,d⟩ H
 rw[hrd0,hwr0]
 clear qr0 qw0 hw f1 hkr
 by_cases h4:k=4
 · have hk4:(k != 4)=false:=by simpa using h4
   have hrd:false=rd:=by rw[<- hrd0,h4];rfl
   have hwr:false=wr:=by rw[<- hwr0,h4];rfl
   clear hrd0 hwr0
   subst hrd hwr
   have e5:∀v:DLf,v.evLoc k=(0,v):=λv=>by unfold DLf.evLoc;rw[if_pos h4]
   simp only[e5]
   have qx3:True:=trivial
   clear e5 h4
   have F5:=F2
   have f6:=Z0r F5
   have g6:=qn (DLf.mk l1 (ok1&&kb)) F5
   have hol:=λH b f c h=>ZcV (H:=H) (b:=b) (f:=f) (c:=c) (DLf.mk l1 (ok1&&kb)).next.1 h
   unfold DLf.ev2
   simp only[Z8R (DLf.mk l1 (ok1&&kb)) Z9u]
   generalize (DLf.mk l1 (ok1&&kb)).next.1=s6 at *
   generalize (DLf.mk l1 (ok1&&kb)).next.2=w6 at *
   generalize Z9u s6=ore at *
   obtain⟨l6,ok6⟩:=w6
   have F7:LfOK ⟨l6,ok6&&ore.isSome⟩:=ZeU f6.1 rfl
   generalize ore.getD 0=od at *
   generalize ore.isSome=ob at *
   (try dsimp only at *)
   simp only[Zfe,Zdk]
   clear qn qs qm qd qx f6 F7 F2 F5
   simp only[lfH,Z5C,idC,idD]at *
   refine Z1v ZnL 3 follows Z0a hO Tryz.func73 rfl ?_
   repeat' ((conv=>whnf);first|refine exI (g1 _ rfl) ?_|refine exI (g6 _ rfl) ?_|refine exI (hkl _ _ _ _ rfl) ?_|refine exI (hol _ _ _ _ rfl) ?_|with_reducible refine exI (qr _ _ _ _ _) ?_|with_reducible refine exI (qw _ _ _ _ _) ?_|with_reducible refine exI (qx3 _) ?_|(refine ZaL ?_ ?_;(focus (assumption)))|(refine ZaM ?_ ?_;(focus (assumption)))|((with_reducible apply Z01<;>intro h)<;>subst h)|refine stp ?_|with_reducible apply Z01<;>intro h)
   all_goals conv=>whnf
   all_goals exact⟨[0],rfl,⟨hbp,trivial⟩,rfl,Wk.noref rfl⟩
 · have hk4:(k != 4)=true:=by simpa using h4
   clear hrd0 hwr0
   have e5:∀v:DLf,v.evLoc k=(⟨v.next.2.l,v.next.2.ok&&(xOf v.next.1).2⟩:DLf).small (xOf v.next.1).1:=λv=>by unfold DLf.evLoc;rw[if_neg h4]
   simp only[e5]
   clear e5 h4
   have f3:=Z0r F2
   have g3:=qn ⟨l1,ok1&&kb⟩ F2
   have qx3:=qx (DLf.mk l1 (ok1&&kb)).next.1 f3.2
   have hxl:=ZmS (DLf.mk l1 (ok1&&kb)).next.1
   generalize (DLf.mk l1 (ok1&&kb)).next.1=s3 at *
   generalize (DLf.mk l1 (ok1&&kb)).next.2=w3 at *
   generalize xOf s3=xr at *
   obtain⟨r3,x3⟩:=xr
   obtain⟨l3,ok3⟩:=w3
   (try dsimp only at *)
   have g5:=qs ⟨l3,ok3&&x3⟩ r3 (by omega)
   have F5:LfOK ((DLf.mk l3 (ok3&&x3)).small r3).2:=ZeU f3.1 (Z5E _ _)
   generalize (DLf.mk l3 (ok3&&x3)).small r3=sm at *
   obtain⟨n5,⟨l5,ok5⟩⟩:=sm
   (try dsimp only at *)
   clear f3 hxl
   have f6:=Z0r F5
   have g6:=qn (DLf.mk l5 ok5) F5
   have hol:=λH b f c h=>ZcV (H:=H) (b:=b) (f:=f) (c:=c) (DLf.mk l5 ok5).next.1 h
   unfold DLf.ev2
   simp only[Z8R (DLf.mk l5 ok5) Z9u]
   generalize (DLf.mk l5 ok5).next.1=s6 at *
   generalize (DLf.mk l5 ok5).next.2=w6 at *
   generalize Z9u s6=ore at *
   obtain⟨l6,ok6⟩:=w6
   have F7:LfOK ⟨l6,ok6&&ore.isSome⟩:=ZeU f6.1 rfl
   generalize ore.getD 0=od at *
   generalize ore.isSome=ob at *
   (try dsimp only at *)
   simp only[Zfe,Zdk]
   have gm:=qm ⟨l6,ok6&&ob⟩ F7
   have F8:LfOK (DLf.mk l6 (ok6&&ob)).number.2:=ZeU (Z0r F7).1 (ZlO _)
   generalize (DLf.mk l6 (ok6&&ob)).number=n8 at *
   obtain⟨r8,⟨l8,ok8⟩⟩:=n8
   (try dsimp only at *)
   have gm2:=qm ⟨l8,ok8⟩ F8
   have F9:LfOK (DLf.mk l8 ok8).number.2:=ZeU (Z0r F8).1 (ZlO _)
   generalize (DLf.mk l8 ok8).number=n9 at *
   obtain⟨r9,⟨l9,ok9⟩⟩:=n9
   (try dsimp only at *)
   simp only[DLf.fromG]
   have fa8:=Z0r F8
   have ga8:=qn ⟨l8,ok8⟩ F8
   have gb8:=qd ⟨l8,ok8⟩ F8
   generalize (DLf.mk l8 ok8).next.1=t8 at *
   generalize (DLf.mk l8 ok8).next.2=u8 at *
   obtain⟨m8,om8⟩:=u8
   (try dsimp only at *)
   have gc8:=qd ⟨m8,t8==Z31⟩ (ZeU fa8.1 rfl)
   generalize (DLf.mk l8 ok8).did=da8 at *
   generalize (DLf.mk m8 (t8==Z31)).did=db8 at *
   obtain⟨⟨da81,da82⟩,⟨da83,da84⟩⟩:=da8
   obtain⟨⟨db81,db82⟩,⟨db83,db84⟩⟩:=db8
   have fa9:=Z0r F9
   have ga9:=qn ⟨l9,ok9⟩ F9
   have gb9:=qd ⟨l9,ok9⟩ F9
   generalize (DLf.mk l9 ok9).next.1=t9 at *
   generalize (DLf.mk l9 ok9).next.2=u9 at *
   obtain⟨m9,om9⟩:=u9
   (try dsimp only at *)
   have gc9:=qd ⟨m9,t9==Z31⟩ (ZeU fa9.1 rfl)
   generalize (DLf.mk l9 ok9).did=da9 at *
   generalize (DLf.mk m9 (t9==Z31)).did=db9 at *
   obtain⟨⟨da91,da92⟩,⟨da93,da94⟩⟩:=da9
   obtain⟨⟨db91,db92⟩,⟨db93,db94⟩⟩:=db9
   clear qn qs qm qd qx f6 fa8 fa9 F5 F7 F8 F9 F2
   unfold Z31 at gc8 gc9
   simp only[lfH,Z5C,idC,idD]at *
   refine Z1v ZnL 3 follows Z0a hO Tryz.func73 rfl ?_
   repeat' ((conv=>whnf);first|refine exI (g1 _ rfl) ?_|refine exI (g3 _ rfl) ?_|refine exI (g5 _ rfl) ?_|refine exI (g6 _ rfl) ?_|refine exI (gm _ rfl) ?_|refine exI (gm2 _ rfl) ?_|refine exI (ga8 _ rfl) ?_|refine exI (ga9 _ rfl) ?_|refine exI (gb8 _ rfl) ?_|refine exI (gb9 _ rfl) ?_|refine exI (gc8 _ rfl) ?_|refine exI (gc9 _ rfl) ?_|refine exI (hkl _ _ _ _ rfl) ?_|refine exI (hol _ _ _ _ rfl) ?_|with_reducible refine exI (qr _ _ _ _ _) ?_|with_reducible refine exI (qw _ _ _ _ _) ?_|with_reducible refine exI (qx3 _) ?_|(refine ZaL ?_ ?_;(focus (assumption)))|(refine ZaM ?_ ?_;(focus (assumption)))|((with_reducible apply Z01<;>intro h)<;>subst h)|refine stp ?_|with_reducible apply Z01<;>intro h)
   all_goals conv=>whnf
   all_goals exact⟨[0],rfl,⟨hbp,trivial⟩,rfl,Wk.noref rfl⟩
end
end Go.Proofs.YtpcpdlfhcahjgaaGreatDoor.lex

/-
  Texts of this proof, one behind the other (part 8).
-/
import Derived.Test.YtneoiadnbikciaaGreatDoorXr7
set_option linter.unusedVariables false
set_option linter.unusedSimpArgs false
set_option maxRecDepth 100000
set_option maxHeartbeats 4000000
open Go.Proofs.Tryz renaming prog → Y00
open List renaming take_length → Y01
open Bool renaming true_and → Y02
namespace Go.Proofs.YtneoiadnbikciaaGreatDoor.lex
open Go.Abs Go.RowKit
section
variable {gl:Z0k}
theorem ZmU{b c:Bool}(h:b=c):(!b) = !c:=by rw[h]
def Zoz{g:Nat}(hb:Z0m Y00 g=true)(G:List Ex×List Ex->Prop)(h:∀p,G p->ValOK Y00 gl g [exA p.1,exA p.2] (.bool (sameL p.1 p.2))):Fam Y00 gl:={ I:=List Ex×List Ex,f:=g,G:=G,A:=λp=>[exA p.1,exA p.2],R:=λp=>.bool (sameL p.1 p.2),body:=hb,inj:=(λi j _ _ h=>by simp only[List.cons.injEq,and_true]at h;rw[Z9F h.1,Z9F h.2]),ok:=(λp hp=>⟨rfl,h p hp⟩) }
theorem Zo8(n:Nat)(a b:List St)(h:sizeSL a<=n)(hok:okSL a)(ha:a.length<=9223372036854775807)(O:Orc)(hO:OrcSound Y00 gl O)(r1:∀x y,sizeSL x<n->okSL x->x.length<=9223372036854775807->∀H,Z06 Y00 O H 24 [stA x,stA y]=some (.bool (sameSL x y),H))(r2:∀x y:List Ex,okL x->x.length<=9223372036854775807->∀H,Z06 Y00 O H 42 [exA x,exA y]=some (.bool (sameL x y),H)):ValOK Y00 gl 24 [.rs a.length 7 (stC a),.rs b.length 7 (stC b)] (.bool (Z5K Z8e a b)):=by
 refine Z0v follows Z05 hO Tryz.func24 rfl ?_
 by_cases hl:a.length=b.length
 · have e0:((a.length:Int) != (b.length:Int))=false:=Z5N (b:=true) (by rw[hl];simp)
   repeat' ((conv=>whnf);first|refine stp ?_|with_reducible apply Z01<;>intro h)
   conv=>whnf
   refine⟨Nat,(λi=>i<=a.length/\Z5K Z8e (a.take i) (b.take i)=true),(λi=>[(0,.rs a.length 7 (stC a)),(1,.rs b.length 7 (stC b)),(5,.int .i64 i)]),(λ_=>[]),(λi=>a.length-i),⟨0,⟨Nat.zero_le _,rfl⟩,FgL.mk0 rfl ?_⟩,?_⟩
   ·exact wks
   rintro i ⟨hi,hall⟩
   dsimp only
   by_cases hlt:i<a.length
   · have e1:decide ((i:Int)<(a.length:Int))=true:=by simpa using hlt
     have hlt':i<b.length:=by omega
     have hat:=Z57 Z8e a b i hlt hlt'
     rw[hall,Y02]at hat
     have hfalse:Z8e a[i] b[i]=false->Z5K Z8e a b=false:=Z6X Z8e hlt hlt'
     have hx:=st7 a i hlt
     have hy:=st7 b i hlt'
     have hsz:=Z5l _ _ (Z0N hlt)
     have hse:=Z5k a[i]
     obtain⟨k1,k2,k3,k4,k5,k6,k7,k8⟩:=Z6w (Z6x hok _ (Z0N hlt))
     have q2:=r1 a[i].thn b[i].thn (by omega) k7 k4
     have q3:=r1 a[i].els b[i].els (by omega) k8 k5
     have q1:=r2 a[i].exprs b[i].exprs k6 k3
     clear hsz hse
     generalize a[i]=u at *
     generalize b[i]=v at *
     obtain⟨k,n,l,o,x,t,e⟩:=u
     obtain⟨k',n',l',o',x',t',e'⟩:=v
     simp only[St.cells,exA,stA,St.thn,St.els,St.exprs]at hx hy q1 q2 q3
     generalize hw1:sameL x x'=w1 at *
     generalize hw2:sameSL t t'=w2 at *
     generalize hw3:sameSL e e'=w3 at *
     have hs:Z8e (.mk k n l o x t e) (.mk k' n' l' o' x' t' e')=((k==k')&&((n==n')&&((l==l')&&((o==o')&&(w1&&(w2&&w3)))))):=by simp only[Z8e,hw1,hw2,hw3]
     rw[hs]at hat hfalse
     clear hs
     generalize hb1:(k==k')=b1 at *
     generalize hb2:(n==n')=b2 at *
     generalize hb3:(l==l')=b3 at *
     generalize hb4:(o==o')=b4 at *
     have n1:=Z5N hb1
     have n2:=ZmU hb2
     have n3:=ZmU hb3
     have n4:=Z5N hb4
     cases b1 with
     |false =>
      have n1:(k != k')=true:=n1
      rw[hfalse (by simp)]
      repeat' ((conv=>whnf);first|with_reducible refine exI (q1 _) ?_|with_reducible refine exI (q2 _) ?_|with_reducible refine exI (q3 _) ?_|(with_reducible refine ixJ i rfl ?_ ?_;focus omega)|refine exI hx ?_|refine exI hy ?_|refine stp ?_|with_reducible apply Z01<;>intro h)
      all_goals (first|rfl|(simp[Z0Y];done))
     |true =>
      have n1:(k != k')=false:=n1
      cases b2 with
      |false =>
       have n2:(!(n==n'))=true:=n2
       rw[hfalse (by simp)]
       repeat' ((conv=>whnf);first|with_reducible refine exI (q1 _) ?_|with_reducible refine exI (q2 _) ?_|with_reducible refine exI (q3 _) ?_|(with_reducible refine ixJ i rfl ?_ ?_;focus omega)|refine exI hx ?_|refine exI hy ?_|refine stp ?_|with_reducible apply Z01<;>intro h)
       all_goals (first|rfl|(simp[Z0Y];done))
      |true =>
       have n2:(!(n==n'))=false:=n2
       cases b3 with
       |false =>
        have n3:(!(l==l'))=true:=n3
        rw[hfalse (by simp)]
        repeat' ((conv=>whnf);first|with_reducible refine exI (q1 _) ?_|with_reducible refine exI (q2 _) ?_|with_reducible refine exI (q3 _) ?_|(with_reducible refine ixJ i rfl ?_ ?_;focus omega)|refine exI hx ?_|refine exI hy ?_|refine stp ?_|with_reducible apply Z01<;>intro h)
        all_goals (first|rfl|(simp[Z0Y];done))
       |true =>
        have n3:(!(l==l'))=false:=n3
        cases b4 with
        |false =>
         have n4:(o != o')=true:=n4
         rw[hfalse (by simp)]
         repeat' ((conv=>whnf);first|with_reducible refine exI (q1 _) ?_|with_reducible refine exI (q2 _) ?_|with_reducible refine exI (q3 _) ?_|(with_reducible refine ixJ i rfl ?_ ?_;focus omega)|refine exI hx ?_|refine exI hy ?_|refine stp ?_|with_reducible apply Z01<;>intro h)
         all_goals (first|rfl|(simp[Z0Y];done))
        |true =>
         have n4:(o != o')=false:=n4
         cases w1 with
         |false =>
          rw[hfalse (by simp)]
          repeat' ((conv=>whnf);first|with_reducible refine exI (q1 _) ?_|with_reducible refine exI (q2 _) ?_|with_reducible refine exI (q3 _) ?_|(with_reducible refine ixJ i rfl ?_ ?_;focus omega)|refine exI hx ?_|refine exI hy ?_|refine stp ?_|with_reducible apply Z01<;>intro h)
          all_goals (first|rfl|(simp[Z0Y];done))
         |true =>
          cases w2 with
          |false =>
           rw[hfalse (by simp)]
           repeat' ((conv=>whnf);first|with_reducible refine exI (q1 _) ?_|with_reducible refine exI (q2 _) ?_|with_reducible refine exI (q3 _) ?_|(with_reducible refine ixJ i rfl ?_ ?_;focus omega)|refine exI hx ?_|refine exI hy ?_|refine stp ?_|with_reducible apply Z01<;>intro h)
           all_goals (first|rfl|(simp[Z0Y];done))
          |true =>
           cases w3 with
           |false =>
            rw[hfalse (by simp)]
            repeat' ((conv=>whnf);first|with_reducible refine exI (q1 _) ?_|with_reducible refine exI (q2 _) ?_|with_reducible refine exI (q3 _) ?_|(with_reducible refine ixJ i rfl ?_ ?_;focus omega)|refine exI hx ?_|refine exI hy ?_|refine stp ?_|with_reducible apply Z01<;>intro h)
            all_goals (first|rfl|(simp[Z0Y];done))
           |true =>
            simp only[Y02]at hat
            repeat' ((conv=>whnf);first|with_reducible refine exI (q1 _) ?_|with_reducible refine exI (q2 _) ?_|with_reducible refine exI (q3 _) ?_|(with_reducible refine ixJ i rfl ?_ ?_;focus omega)|refine exI hx ?_|refine exI hy ?_|refine stp ?_|with_reducible apply Z01<;>intro h)
            conv=>whnf
            refine⟨i+1,⟨hlt,hat⟩,by show a.length-(i+1)<a.length-i;omega,FgL.mk0 rfl ?_⟩
            exact wks
   · have e1:decide ((i:Int)<(a.length:Int))=false:=by simpa using hlt
     have hi2:i=a.length:=by have:=hi;omega
     subst hi2
     rw[Y01,hl,Y01]at hall
     rw[hall]
     repeat' ((conv=>whnf);first|refine stp ?_|with_reducible apply Z01<;>intro h)
     all_goals rfl
 · rw[Z6W _ _ _ hl]
   have e0:((a.length:Int) != (b.length:Int))=true:=Z5N (b:=false) (by simpa using (λh=>hl (by omega)))
   repeat' ((conv=>whnf);first|refine stp ?_|with_reducible apply Z01<;>intro h)
   all_goals rfl
theorem Z9n:∀(n:Nat)(a b:List St),sizeSL a<=n->okSL a->a.length<=9223372036854775807->ValOK Y00 gl 24 [stA a,stA b] (.bool (sameSL a b))
 |n,a,b,h,hok,ha=>by
  obtain⟨O,hO,p1,p2,-⟩:=fams (P:=Y00) (gl:=gl) [ZjG (g:=24) (by kernel_rfl) (λp=>sizeSL p.1<n/\okSL p.1/\p.1.length<=9223372036854775807) (λp hp=>match n,(show 1<=n by have:=hp.1;omega),hp.1 with|n+1,_,h=>Z9n n p.1 p.2 (by omega) hp.2.1 hp.2.2),Zoz (g:=42) (by kernel_rfl) (λp=>okL p.1/\p.1.length<=9223372036854775807) (λp hp=>ZcY p.1 p.2 hp.2 λy hy z _=>Z8B _ y z (Nat.le_refl _) (Z5Y hp.1 _ hy))] rfl
  have r1:∀x y,sizeSL x<n->okSL x->x.length<=9223372036854775807->∀H,Z06 Y00 O H 24 [stA x,stA y]=some (.bool (sameSL x y),H):=λx y h1 h2 h3=>p1 (x,y) ⟨h1,h2,h3⟩
  have r2:∀x y:List Ex,okL x->x.length<=9223372036854775807->∀H,Z06 Y00 O H 42 [exA x,exA y]=some (.bool (sameL x y),H):=λx y h1 h2=>p2 (x,y) ⟨h1,h2⟩
  clear p1 p2
  rw[ZcE]
  unfold stA
  exact Zo8 n a b h hok ha O hO r1 r2
end
section
def Z4L(d e:Dc):Bool:=d.name==e.name&&(d.plain==e.plain&&(d.val==e.val&&true))
theorem tgT:Z5j Y00 9=some false:=by kernel_rfl
theorem tgB:Z5j Y00 4=some false:=by kernel_rfl
theorem tgI:Z5j Y00 2=some false:=by kernel_rfl
theorem feD:Z3t Y00 66=some [(9,0),(4,1),(2,2)]:=by kernel_rfl
theorem egD:Y00.eqGuardType Y00.depth 66=false:=by kernel_rfl
theorem ZsH(d e:Dc):ZdA Y00 66 [.str d.name,.bool d.plain,.int .i64 d.val] [.str e.name,.bool e.plain,.int .i64 e.val]=some (Z4L d e) :=
 ZgE egD feD (Z6P tgT rfl rfl (ZoF Tryz.underlying9 _ _) (Z6P tgB rfl rfl (Zmg Tryz.underlying4 _ _) (Z6P tgI rfl rfl (ZeR Tryz.underlying2 _ _) rfl)))
theorem Zek(d:Dc):Z4L d d=true:=by simp[Z4L]
end
section
variable {gl:Z0k}
mutual
theorem Z7d:∀e:Ex,Z5H e e=true
 | .mk _ _ _ k=>by simp[Z5H,sameL_self k]
theorem sameL_self:∀l:List Ex,sameL l l=true
 |[]=>by simp[sameL]
 |e::l=>by simp[sameL,Z7d e,sameL_self l]
end
mutual
theorem ZgU:∀x:St,Z8e x x=true
 | .mk _ _ _ _ x t e=>by simp[Z8e,sameL_self x,sameSL_self t,sameSL_self e]
theorem sameSL_self:∀l:List St,sameSL l l=true
 |[]=>by simp[sameSL]
 |e::l=>by simp[sameSL,ZgU e,sameSL_self l]
end
def Zlk(p q:Pr):Bool:=Z5K Z4L p.decls q.decls&&Z5K sameSL p.threads q.threads
theorem Zai(p:Pr):Zlk p p=true:=by
 unfold Zlk
 rw[Z9R Z4L (λd _=>Zek d),Z9R sameSL (λt _=>sameSL_self t)]
 rfl
theorem ZfW(p q:Pr)(hp:okP p):ValOK Y00 gl 9 [p.av,q.av] (.bool (Zlk p q)):=by
 obtain⟨O,hO,p1,-⟩:=fams (P:=Y00) (gl:=gl) [ZjG (g:=24) (by kernel_rfl) (λp=>okSL p.1/\p.1.length<=9223372036854775807) (λp hp=>Z9n _ p.1 p.2 (Nat.le_refl _) hp.1 hp.2)] rfl
 have q1:∀x y,okSL x->x.length<=9223372036854775807->∀H,Z06 Y00 O H 24 [stA x,stA y]=some (.bool (sameSL x y),H):=λx y h1 h2=>p1 (x,y) ⟨h1,h2⟩
 clear p1
 unfold Zlk
 obtain⟨ds,ts⟩:=p
 obtain⟨ds',ts'⟩:=q
 obtain⟨⟨hd1,hd2⟩,ht1,ht2⟩:=hp
 simp only[Pr.av]at *
 refine Z0v follows Z05 hO Tryz.func9 rfl ?_
 by_cases hl1:ds.length=ds'.length
 case neg =>
  rw[Z6W _ _ _ hl1,Bool.false_and]
  have e0:((ds.length:Int) != (ds'.length:Int))=true:=Z5N (b:=false) (by simpa using (λh=>hl1 (by omega)))
  repeat' ((conv=>whnf);first|refine stp ?_|with_reducible apply Z01<;>intro h)
  all_goals rfl
 have e0:((ds.length:Int) != (ds'.length:Int))=false:=Z5N (b:=true) (by rw[hl1];simp)
 by_cases hl2:ts.length=ts'.length
 case neg =>
  rw[Z6W _ ts ts' hl2,Bool.and_false]
  have e1:((ts.length:Int) != (ts'.length:Int))=true:=Z5N (b:=false) (by simpa using (λh=>hl2 (by omega)))
  repeat' ((conv=>whnf);first|refine stp ?_|with_reducible apply Z01<;>intro h)
  all_goals rfl
 have e1:((ts.length:Int) != (ts'.length:Int))=false:=Z5N (b:=true) (by rw[hl2];simp)
 repeat' ((conv=>whnf);first|refine stp ?_|with_reducible apply Z01<;>intro h)
 conv=>whnf
 refine⟨Nat,(λi=>i<=ds.length/\Z5K Z4L (ds.take i) (ds'.take i)=true),(λi=>[(2,.ptr 0 0),(3,.ptr 1 0),(5,.int .i64 i)]),(λ_=>[⟨true,0,0,.cells [.rs ds.length 3 (dcC ds),.rs ts.length 1 (ts.map stA)] 26⟩,⟨true,1,0,.cells [.rs ds'.length 3 (dcC ds'),.rs ts'.length 1 (ts'.map stA)] 26⟩]),(λi=>ds.length-i),⟨0,⟨Nat.zero_le _,rfl⟩,FgL.mk [0,1] rfl ?_ ⟨hbp,hbp,trivial⟩ rfl⟩,?_⟩
 ·exact wks
 rintro i ⟨hi,hall⟩
 dsimp only
 by_cases hlt:i<ds.length
 · have e2:decide ((i:Int)<(ds.length:Int))=true:=by simpa using hlt
   have hlt':i<ds'.length:=by omega
   have hat:=Z57 Z4L ds ds' i hlt hlt'
   rw[hall,Y02]at hat
   have hfalse:Z4L ds[i] ds'[i]=false->Z5K Z4L ds ds'=false:=Z6X Z4L hlt hlt'
   have hx:=dc3 ds i hlt
   have hy:=dc3 ds' i hlt'
   have hc:=ZsH ds[i] ds'[i]
   generalize ds[i]=x at *
   generalize ds'[i]=y at *
   generalize Z4L x y=w at *
   obtain⟨xn,xp,xv⟩:=x
   obtain⟨yn,yp,yv⟩:=y
   simp only[Dc.cells]at hx hy hc
   cases w with
   |true =>
    repeat' ((conv=>whnf);first|(with_reducible refine ixJ i rfl ?_ ?_;focus omega)|refine exI hx ?_|refine exI hy ?_|refine exI hc ?_|refine stp ?_|with_reducible apply Z01<;>intro h)
    conv=>whnf
    refine⟨i+1,⟨hlt,hat⟩,by show ds.length-(i+1)<ds.length-i;omega,FgL.mk [0,1] rfl ?_ ⟨hbp,hbp,trivial⟩ rfl⟩
    exact wks
   |false =>
    rw[hfalse rfl,Bool.false_and]
    repeat' ((conv=>whnf);first|(with_reducible refine ixJ i rfl ?_ ?_;focus omega)|refine exI hx ?_|refine exI hy ?_|refine exI hc ?_|refine stp ?_|with_reducible apply Z01<;>intro h)
    all_goals rfl
 · have e2:decide ((i:Int)<(ds.length:Int))=false:=by simpa using hlt
   have hi2:i=ds.length:=by have:=hi;omega
   subst hi2
   rw[Y01,hl1,Y01]at hall
   rw[hall,Y02]
   repeat' ((conv=>whnf);first|refine stp ?_|with_reducible apply Z01<;>intro h)
   conv=>whnf
   refine⟨Nat,(λi=>i<=ts.length/\Z5K sameSL (ts.take i) (ts'.take i)=true),(λi=>[(2,.ptr 0 0),(3,.ptr 1 0),(6,.int .i64 i)]),(λ_=>[⟨true,0,0,.cells [.rs ds.length 3 (dcC ds),.rs ts.length 1 (ts.map stA)] 26⟩,⟨true,1,0,.cells [.rs ds'.length 3 (dcC ds'),.rs ts'.length 1 (ts'.map stA)] 26⟩]),(λi=>ts.length-i),⟨0,⟨Nat.zero_le _,rfl⟩,FgL.mk [0,1] rfl ?_ ⟨hbp,hbp,trivial⟩ rfl⟩,?_⟩
   ·exact wks
   clear hall hi
   rintro i ⟨hi,hall⟩
   dsimp only
   by_cases hlt:i<ts.length
   · have e3:decide ((i:Int)<(ts.length:Int))=true:=by simpa using hlt
     have hlt':i<ts'.length:=by omega
     have hat:=Z57 sameSL ts ts' i hlt hlt'
     rw[hall,Y02]at hat
     have hfalse:sameSL ts[i] ts'[i]=false->Z5K sameSL ts ts'=false:=Z6X sameSL hlt hlt'
     have hx:=th1 ts i hlt
     have hy:=th1 ts' i hlt'
     have hk:=Z5q ht1 _ (Z0N hlt)
     have q2:=q1 ts[i] ts'[i] hk.1 hk.2
     generalize ts[i]=x at *
     generalize ts'[i]=y at *
     generalize sameSL x y=w at *
     simp only[stA]at hx hy q2
     cases w with
     |true =>
      repeat' ((conv=>whnf);first|with_reducible refine exI (q2 _) ?_|(with_reducible refine ixJ i rfl ?_ ?_;focus omega)|refine exI hx ?_|refine exI hy ?_|refine stp ?_|with_reducible apply Z01<;>intro h)
      conv=>whnf
      refine⟨i+1,⟨hlt,hat⟩,by show ts.length-(i+1)<ts.length-i;omega,FgL.mk [0,1] rfl ?_ ⟨hbp,hbp,trivial⟩ rfl⟩
      exact wks
     |false =>
      rw[hfalse rfl]
      repeat' ((conv=>whnf);first|with_reducible refine exI (q2 _) ?_|(with_reducible refine ixJ i rfl ?_ ?_;focus omega)|refine exI hx ?_|refine exI hy ?_|refine stp ?_|with_reducible apply Z01<;>intro h)
      all_goals rfl
   · have e3:decide ((i:Int)<(ts.length:Int))=false:=by simpa using hlt
     have hi2:i=ts.length:=by have:=hi;omega
     subst hi2
     rw[Y01,hl2,Y01]at hall
     rw[hall]
     repeat' ((conv=>whnf);first|refine stp ?_|with_reducible apply Z01<;>intro h)
     all_goals rfl
end
section
variable {gl:Z0k}
theorem Zs7:Z5j Y00 27=some false:=by kernel_rfl
theorem Zs8:Z5j Y00 3=some false:=by kernel_rfl
theorem ZsD:Z3t Y00 29=some [(27,0),(3,1)]:=by kernel_rfl
theorem ZsE:Y00.eqGuardType Y00.depth 29=false:=by kernel_rfl
theorem Zpc(a b a' b':Int):ZdA Y00 29 [.int .i64 a,.int .i64 b] [.int .i64 a',.int .i64 b']=some (a==a'&&(b==b'&&true)) :=
 ZgE ZsE ZsD (Z6P Zs7 rfl rfl (ZeR Tryz.underlying27 _ _) (Z6P Zs8 rfl rfl (ZeR Tryz.underlying3 _ _) rfl))
theorem Zlv:ValOK Y00 gl 25 [] pgP.av:=by
 have hΦ : ∀r':AV,Nv r' pgP.av->∀sn v,VR sn noI r' v->VR sn noI pgP.av v:=λr' h=>h
 refine fn_valX follows Z05 (Z09 follows Z05 Z0g 3) hΦ Tryz.func25 rfl (Z0f (isC:=λ_=>false) 3) ?_
 repeat' ((conv=>whnf);first|refine stp ?_|with_reducible apply Z01<;>intro h)
 all_goals (conv=>whnf)
 all_goals (repeat' first|exact trivial|exact Nv.same|exact Nv.nil|refine Nv.agg ?_|refine Nv.rs ?_ rfl|refine And.intro ?_ ?_)
def ZiD(s:List UInt8):AV:=.tuple [(Z0S s).2.av,.agg [.int .i64 (Z0S s).1.1,.int .i64 (Z0S s).1.2]]
def Zbs:Fam Y00 runLives.gl:={ I:=List UInt8,f:=8,G:=λs=>s.length<=65536,A:=λs=>[.str s],R:=λs=>ZiD s,body:=(by kernel_rfl),inj:=(λi j _ _ h=>by simp only[List.cons.injEq,AV.str.injEq,and_true]at h;rw[h]),ok:=(λs h=>⟨rfl,Z9d h⟩) }
theorem Zre:okP pgP:=by simp[okP,okD,ZhI,okSL,okS,okL,okE,okN,pgP,exR,Zrw]
def Zsr(f:Nat):Bool:=Nat.beq f 8 || (Nat.beq f 9 || Nat.beq f 25)
theorem ZiU:ValOK Y00 runLives.gl 7 [] (.bool true):=by
 obtain⟨O,hO,p1,p2,p3,-⟩:=fams (P:=Y00) (gl:=runLives.gl) [Zbs,Z2X (by kernel_rfl) rfl (Zlv (gl:=runLives.gl)),Z2X (by kernel_rfl) rfl (ZfW (gl:=runLives.gl) pgP pgP Zre)] rfl
 have q1:∀H,Z06 Y00 O H 8 [.str txA]=some (.tuple [pgP.av,.agg [.int .i64 0,.int .i64 0]],H):=by
  have h:=p1 txA (show txA.length<=65536 by decide)
  simp only[Zbs,ZiD,pxA]at h
  exact h
 have q2:∀H,Z06 Y00 O H 8 [.str txB]=some (.tuple [.agg [.rs 0 3 [],.rs 0 1 []],.agg [.int .i64 5,.int .i64 13]],H):=by
  have h:=p1 txB (show txB.length<=65536 by decide)
  simp only[Zbs,ZiD,pxB]at h
  exact h
 have q3:∀H,Z06 Y00 O H 25 []=some (pgP.av,H):=p2 () trivial
 have q4:∀H,Z06 Y00 O H 9 [pgP.av,pgP.av]=some (.bool true,H):=by
  have h:=p3 () trivial
  simp only[Z2X,Zai]at h
  exact h
 clear p1 p2 p3
 refine Z2f Zsr 3 follows Z05 hO Tryz.func7 rfl ?_
 repeat' ((conv=>whnf);first|refine exI (Zpc _ _ _ _) ?_|refine exI (q1 _) ?_|refine exI (q2 _) ?_|refine exI (q3 _) ?_|refine exI (q4 _) ?_|refine stp ?_|with_reducible apply Z01<;>intro h)
 all_goals (try (conv=>whnf))
 all_goals rfl
end
end Go.Proofs.YtneoiadnbikciaaGreatDoor.lex

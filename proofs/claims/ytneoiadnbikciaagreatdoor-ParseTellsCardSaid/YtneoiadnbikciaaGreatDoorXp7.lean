/-
  Texts of this proof, one behind the other (part 7).
-/
import Derived.Test.YtneoiadnbikciaaGreatDoorXp6
import Derived.Recover
import Derived.Tactics2
set_option linter.unusedVariables false
set_option linter.unusedSimpArgs false
set_option maxRecDepth 100000
set_option maxHeartbeats 4000000
open Go.Proofs.Tryz renaming prog → Y00,f26 → Y0j
open Go.Abs.Wk renaming noref → Y01,ptr → Y02,int → Y03,map → Y05,func → Y0f,slice → Y0l
open List renaming cons_append → Y04,nil_append → Y08,length_cons → Y09,append_nil → Y0c,length_nil → Y0d,take_length → Y0m,drop_drop → Y0n,length_take → Y0o,take_succ_cons → Y0p,length_append → Y0q,take_zero → Y0t,mem_cons → Y0z,getElem_cons_succ → Y0A,getElem?_cons_zero → Y0C,getElem_mem → Y0G,length_drop → Y0H,contains_iff_mem → Y0I,take_append_of_le_length → Y0J,drop_append_of_le_length → Y0K,not_mem_nil → Y0L,getElem_cons_zero → Y0M
open Go.Abs.BodyGe renaming cellsL → Y06,pre → Y0k
open Nat renaming beq → Y07,le_refl → Y0a,zero_le → Y0e,lt_succ_self → Y0r,add_zero → Y0u,lt_of_lt_of_le → Y0v,min_self → Y0x,le_of_eq → Y0y,eq_of_beq_eq_true → Y0E
open Go.Abs.FgLK renaming mk → Y0b
open And renaming intro → Y0g
open Go.Abs.FgL renaming mk → Y0h,mk0 → Y0i
open Bool renaming and_eq_true → Y0s,true_and → Y0B,or_eq_true → Y0F
open Array renaming getElem?_setIfInBounds → Y0w,toList_inj → Y0D
namespace Go.Proofs.YtneoiadnbikciaaGreatDoor.lex
open Go.Abs Go.RowKit
section
variable {gl:Z0g}
theorem Zia:∀{l l':List Dc},dcC l=dcC l'->l=l'
 |[],[],_=>rfl
 |[],d::l,h=>by cases h
 |d::l,[],h=>by cases h
 |⟨a,b,c⟩::l,⟨a',b',c'⟩::l',h=>by
  simp only[dcC,Dc.cells,Y04,Y08,List.cons.injEq,AV.str.injEq,AV.bool.injEq,AV.int.injEq,true_and]at h
  obtain⟨rfl,rfl,rfl,h⟩:=h
  rw[Zia h]
structure Gpi where
 pl:Bool
 s:Ps
 ds:List Dc
 ts:List (List St)
def gpO(T:List Tq)(x:Gpi):Z00:=(cond ((Z0N T x.pl x.s).2.err==0) (gL T (Z0N T x.pl x.s).2.i (Z0N T x.pl x.s).2.op) (gD (Z0N T x.pl x.s).2))++ZkG x.ds x.ts (Z0N T x.pl x.s).1
def gpR(T:List Tq)(x:Gpi):AV:=.slice (pgD x.ds x.ts) 0 (x.ds++(Z0N T x.pl x.s).1).length (x.ds++(Z0N T x.pl x.s).1).length 3
theorem ZnI {T : List Tq} (x y : Gpi) (hx : GOK T x.s /\ x.ds.length + T.length + 1 <= 1000002000001) (hy : GOK T y.s /\ y.ds.length + T.length + 1 <= 1000002000001) (ha : [AV.ptr 0 0, Z18 13 x.ds, .bool x.pl] = [AV.ptr 0 0, Z18 13 y.ds, .bool y.pl])
  (hh:gL T x.s.i x.s.op++pgY x.ds x.ts=gL T y.s.i y.s.op++pgY y.ds y.ts):gpR T x=gpR T y/\gpO T x=gpO T y:=by
 obtain⟨pl,s,ds,ts⟩:=x
 obtain⟨pl',s',ds',ts'⟩:=y
 obtain⟨⟨_,e1,e2⟩,_⟩:=hx
 obtain⟨⟨_,e3,e4⟩,_⟩:=hy
 obtain⟨i,er,at_,op⟩:=s
 obtain⟨i',er',at',op'⟩:=s'
 simp only at e1 e2 e3 e4
 subst e1 e2 e3 e4
 have h1:i=i'/\op=op'/\pgY ds ts=pgY ds' ts':=by
  simp only[gL,LV,Y04,Y08,List.cons.injEq,AObj.mk.injEq,ABody.cells.injEq,AV.int.injEq,true_and,and_true]at hh
  exact⟨by omega,hh.1.2,hh.2⟩
 obtain⟨rfl,rfl,hY⟩:=h1
 simp only[List.cons.injEq,AV.bool.injEq,true_and,and_true]at ha
 obtain⟨hd,rfl⟩:=ha
 have h2:ds=ds'/\ZcY ts (Z9x ds)=ZcY ts' (Z9x ds)/\Zaj ts (Z9x ds)=Zaj ts' (Z9x ds):=by
  rcases ds with _|⟨a,ds⟩<;>rcases ds' with _|⟨b,ds'⟩
  · simp only[pgY,Z18,Z2f,Y08,Y04,List.cons.injEq,AObj.mk.injEq,ABody.cells.injEq,true_and,and_true]at hY
    exact⟨rfl,hY.2,hY.1⟩
  ·cases hd
  ·cases hd
  · simp only[pgY,Z18,Z2f,Y08,Y04,List.cons.injEq,AObj.mk.injEq,ABody.cells.injEq,true_and,and_true]at hY
    have:=Zia hY.2.1
    rw[this]
    exact⟨rfl,hY.2.2,hY.1.2⟩
 obtain⟨rfl,h3,h4⟩:=h2
 have h5:pgD ds ts=pgD ds ts':=by
  rcases ts with _|⟨a,ts⟩<;>rcases ts' with _|⟨b,ts'⟩
  ·rfl
  ·cases h4
  ·cases h4
  ·rfl
 unfold gpR gpO ZkG
 simp only[h3,h4,h5]
 exact⟨trivial,trivial⟩
def Zm6(T:List Tq)(hT:TqOK T):FamX Y00 gl :=
 have h1:=ZnI (T:=T)
 { I:=Gpi,f:=58,X:=λx=>XF (Z0N T x.pl x.s).2,G:=λx=>GOK T x.s/\x.ds.length+T.length+1<=1000002000001,A:=λx=>[.ptr 0 0,Z18 13 x.ds,.bool x.pl],H:=λx=>gL T x.s.i x.s.op++pgY x.ds x.ts,R:=gpR T,O:=gpO T,body:=(by kernel_rfl),inj:=h1,ok:=λx h=>Zhs hT h.1 x.pl x.ds x.ts h.2 }
theorem Z3Q(T:List Tq):∀(k:Nat)(ds:List Dc)(ts:List (List St))(s:Ps),Kr s (Z1o T k ds ts s).2
 |0,_,_,s=>Kr.rfl'
 |k+1,ds,ts,s=>by
  unfold Z1o
  split
  · split
    ·exact (Z0k s).trans ((ZaG T false _).trans (Z3Q T k _ _ _))
    split
    ·exact (Z0k s).trans ((ZaG T true _).trans (Z3Q T k _ _ _))
    split
    ·exact (Z0k s).trans ((Z8P (Z3K T _) _).trans (Z3Q T k _ _ _))
    ·exact (Z2p _ _ (by decide)).trans (Z3Q T k _ _ _)
  ·exact Kr.rfl'
def Zq3(f:Nat):Bool:=Y07 f 40 || (Y07 f 57 || (Y07 f 58 || (Y07 f 59 || Y07 f 56)))
theorem Zm3{T:List Tq}{s:Ps}(hs:PsOK T s):GX gl T 40 [.ptr 0 0] s (.agg (Z0o T s).cells) s:=by
 refine GX.of λh0=>?_
 have hx:=tq4 T s.i hs.lt
 rw[<- Z0s hs.lt]at hx
 have hlt:=hs.lt
 generalize Z0o T s=t at *
 obtain⟨kd,tx,nm,ps⟩:=t
 obtain⟨i,err,at_,op⟩:=s
 simp only at h0
 subst h0
 simp only[Tq.cells]at hx hlt⊢
 refine Z1v isQ 3 follows Z06 (Z0u (gl:=gl)).x Tryz.func40 rfl ?_
 rw (occs:=.pos [1]) [Z09 (s:=⟨i,0,at_,op⟩) rfl]
 simp only[gL,LV]
 all_goals repeat' ((conv=>whnf);first|(refine Or.inr ?_)|refine exI hx ?_|(with_reducible refine ixJ i rfl ?_ ?_;focus omega)|refine stp ?_|with_reducible apply Z01<;>intro h)
 all_goals (try (conv=>whnf))
 all_goals exact⟨M11,rfl,(by refine Z66 ?_ ?_ ?_<;>rfl),rfl,Y01 rfl⟩
def Zho(T:List Tq):FamX Y00 gl:=Z8y T 40 (by kernel_rfl) (I:=Unit) (λ_ s=>PsOK T s) (λ_=>[.ptr 0 0]) (λ_ s=>.agg (Z0o T s).cells) (λ_ s=>s) (λ_=>rfl) (λ_ _ _=>rfl) (λ_ s h=>Zm3 h)
theorem Zqj {Y : AV -> Prop} {O : Orc} {T : List Tq} (p : (Zho (gl := gl) T).Ask Y O) {s : Ps} (hs : GOK T s) {X : Z00} (hX : Z07 Z0z X = true) :
  Z05 Y00 O (gL T s.i s.op++X) 40 [.ptr 0 0]=some (.agg (Z0o T s).cells,gL T s.i s.op++X):=by
 have:=Z4U p () s X hs hs.ok (λu hu=>(Z8Y hs.er u hu).elim) hX
 rw[Z09 hs.er]at this
 exact this
theorem Z1T:∀l:List (List St),(l.map stA).all Z6J=true
 |[]=>rfl
 |e::l=>by simp only[List.map_cons,List.all_cons,Z1T l,Bool.and_true];rfl
theorem ZhG{H:Z00}{n:Nat}{a b a' b':AV}(h1:frz H n a=some a')(h2:frz H n b=some b'):frz H (n+1) (.agg [a,b])=some (.agg [a',b']):=by
 show (match Z2E (frz H n) [a,b] with|some l=>some (AV.agg l)|none=>none)=_
 simp only[Z2E,h1,h2]
structure Bg7 where
 ds:List Dc
 ts:List (List St)
 s:Ps
 k:Nat
def Z3t:List (List St)->AV
 |[]=>.nslice
 |e::l=>.rs (l.length+1) 1 ((e::l).map stA)
theorem ZjV {T : List Tq} (hT : TqOK T) {s0 : Ps} (hg0 : GOK T s0) {D : List Dc} {S : List (List St)} {E : Ps} (hP : Z1o T (T.length + 1) [] [] s0 = ((D, S), E)) :
  MemXQ Y00 gl (XF E) 11 28 [.ptr 0 0] (gB T s0) (.agg [dcN D,Z3t S]) (gB T E):=by
 have hT2:Zcm Y00 24 24=some (53,1,24):=by kernel_rfl
 obtain⟨O,hO,⟨p0,p1,p2,p3,p4,-⟩,-⟩:=Z2l (P:=Y00) (gl:=gl) (XF E) [Zho T,Z60 T,Zm6 T hT,Zd2 T 0 (Z7d T) (ZjZ hT),Z2n T] [] rfl
 have hfew0:=hg0.ok.few
 refine Z0t Zq3 3 follows Z06 hO Tryz.func28 rfl ?_
 rw (occs:=.pos [1]) [Z09 hg0.er]
 simp only[gL,LV,Y04,Y08]
 repeat' ((conv=>whnf);first|(exact Or.inl rfl)|(refine Or.inr ?_)|refine stp ?_|with_reducible apply Z01<;>intro h)
 conv=>whnf
 refine⟨Bg7,(λy=>GOK T y.s/\T.length-y.s.i<y.k/\y.ds.length+1000001*y.k<=1000002000001/\y.ts.length+y.k<=1000001/\Z1o T y.k y.ds y.ts y.s=((D,S),E)),(λy=>[(0,.ptr 0 0),(2,.ptr 11 0),(3,.ptr 12 0)]),
  (λy=>gL T y.s.i y.s.op++pgY y.ds y.ts),(λy=>y.k),⟨⟨[],[],s0,T.length+1⟩,⟨hg0,by show T.length-s0.i<T.length+1;omega,by show 0+1000001*(T.length+1)<=1000002000001;omega,by show 0+(T.length+1)<=1000001;omega,hP⟩,?_⟩,?_⟩
 · refine Y0b [0,1,2,3,4,5,6,7,8,9,10,11,12] rfl rfl ?_ ?_ rfl
   ·exact wks
   ·refine Z1h (l:=[11,12]) ?_ ?_ ⟨hbp,hbp,trivial⟩<;>rfl
 clear hP hfew0 hg0
 rintro⟨ds,ts,s,k⟩ ⟨hs,hk,hd,ht,hF⟩
 dsimp only at hs hk hd ht hF
 (try dsimp only)
 have hlt:=hs.ok.lt
 have hfew:=hs.ok.few
 have qn:=λX hX=>Zqj p0 hs (X:=X) hX
 by_cases h5:(Z0o T s).kind=5
 · have hE:=Zbk (T:=T) (s:=s) (λh=>h.2 h5) k ds ts
   rw[hE]at hF
   simp only[Prod.mk.injEq]at hF
   obtain⟨⟨rfl,rfl⟩,rfl⟩:=hF
   have her:=hs.er
   have hcd:(dcC ds).length=ds.length*3:=Z6M _
   have hct:(ts.map stA).length=ts.length*1:=by simp
   clear p0 p1 p2 p3 p4 hE
   generalize Z0o T s=t at *
   obtain⟨kd,tx,nm,ps⟩:=t
   simp only at h5
   subst h5
   simp only[gL,LV,Tq.cells,Y04,Y08]at qn⊢
   rcases ds with _|⟨a,ds⟩<;>rcases ts with _|⟨c,ts⟩
   all_goals simp only[pgY,Z18,Z2f,Zaj,ZcY,Z9x,dcN,Z3t,Y04,Y08]
   all_goals repeat' ((conv=>whnf);first|(refine Or.inr ?_)|refine exI (qn _ rfl) ?_|refine stp ?_|with_reducible apply Z01<;>intro h)
   all_goals (conv=>whnf)
   ·exact⟨[],M11,rfl,(by refine Z0D ?_ ?_ ?_<;>first|rfl|exact her),rfl,rfl,.inl (Y01 rfl)⟩
   ·exact⟨[13],M11,rfl,(by refine Z0D ?_ ?_ ?_<;>first|rfl|exact her),rfl,rfl,.inr (ZhG rfl (Z1t (n:=27) rfl hct (Z1T _)))⟩
   ·exact⟨[13],M11,rfl,(by refine Z0D ?_ ?_ ?_<;>first|rfl|exact her),rfl,rfl,.inr (ZhG (Z1t (n:=27) rfl hcd (Z0H _)) rfl)⟩
   ·exact⟨[13,14],M11,rfl,(by refine Z0D ?_ ?_ ?_<;>first|rfl|exact her),rfl,rfl,.inr (ZhG (Z1t (n:=27) rfl hcd (Z0H _)) (Z1t (n:=27) rfl hct (Z1T _)))⟩
 obtain⟨k,rfl⟩:∃k',k=k'+1:=⟨k-1,by omega⟩
 unfold Z1o at hF
 rw[if_pos ⟨hs.er,h5⟩]at hF
 have e5:((Z0o T s).kind != 5)=true:=by simpa using h5
 have fk:=λw hw=>Z4q hT hs.ok hs.er (w:=w) hw
 have qt:=λw (h:gis T s 2 w=true) X hX=>Zld p1 hs h (λu hu=>(Z8Y (s:=Z02 s) hs.er u hu).elim) (X:=X) hX
 have qf:=λw (h:gis T s 2 w=false) X hX=>Zga p1 hs h (X:=X) hX
 have dec : ∀ (pl : Bool), GOK T (Z02 s) -> Z1o T k (ds ++ (Z0N T pl (Z02 s)).1) ts (Z0N T pl (Z02 s)).2 = ((D, S), E) ->
   (Z05 Y00 O (gL T (s.i+1) s.op++pgY ds ts) 58 [.ptr 0 0,Z18 13 ds,.bool pl]=some (gpR T ⟨pl,Z02 s,ds,ts⟩,gpO T ⟨pl,Z02 s,ds,ts⟩)) /\
   ((Z0N T pl (Z02 s)).2.err=0->GOK T (Z0N T pl (Z02 s)).2/\T.length-(Z0N T pl (Z02 s)).2.i<k):=by
  intro pl hg h
  have kr:=Z3Q T k (ds++(Z0N T pl (Z02 s)).1) ts (Z0N T pl (Z02 s)).2
  rw[h]at kr
  have g2:=ZaH pl hg.ok
  have hon:s.i+1<=(Z0N T pl (Z02 s)).2.i:=g2.on
  refine⟨p2 ⟨pl,Z02 s,ds,ts⟩ ⟨hg,by show ds.length+T.length+1<=1000002000001;omega⟩ kr.x,λhe=>⟨hg.go g2 (ZaG T pl _) he,by omega⟩⟩
 cases h1:isF T s Z6G with
 |true =>
  rw[h1,if_pos rfl]at hF
  have hgs:GOK T (Z02 s):=hs.go (Z0b hs.ok h1) (Z0k s) hs.er
  have m1:=qt _ ((fk _ rfl).trans h1)
  obtain⟨qd,hg2⟩:=dec false hgs hF
  obtain⟨d1,dl,hd1,hd2⟩:=Z8M T false (Z02 s)
  clear p0 p1 p2 p3 p4 dec qt qf fk
  unfold gpR gpO at qd
  simp only at qd
  rw[hd1]at qd hF
  generalize Z0N T false (Z02 s)=r at *
  obtain⟨rd,s2⟩:=r
  generalize Z0o T s=t at *
  obtain⟨kd,tx,nm,ps⟩:=t
  simp only[Tq.cells]at qd hF hg2 e5 qn
  by_cases e2:s2.err=0
  · have e3:(s2.err==0)=true:=by simpa using e2
    rw[e3]at qd
    obtain⟨hg3,hk3⟩:=hg2 e2
    simp only[gL,LV,cond_true,Y04,Y08]at qd qn m1⊢
    rcases ds with _|⟨a,ds⟩<;>rcases ts with _|⟨c,ts⟩
    all_goals simp only[pgY,ZkG,pgD,Z18,Z2f,Zaj,ZcY,Z9x,Y04,Y08,Y0c,Y0u]at qd⊢
    all_goals repeat' ((conv=>whnf);first|(refine Or.inr ?_)|refine exI (qn _ rfl) ?_|refine exI (m1 _ rfl) ?_|refine exI qd ?_|refine stp ?_|with_reducible apply Z01<;>intro h)
    all_goals (conv=>whnf)
    all_goals refine⟨⟨_++d1::dl,_,s2,k⟩,⟨hg3,hk3,by simp only[Y0q,Y09,Y0d]at hd⊢;omega,by simp only[Y09,Y0d]at ht⊢;omega,hF⟩,Y0r _,?_⟩
    · refine Y0b [0,1,2,3,4,5,6,7,8,9,10,11,12,13] rfl rfl ?_ ?_ rfl
      ·exact wks
      ·exact Z1h (l:=[11,12,13]) rfl rfl ⟨hbp,⟨rfl,rfl,rfl,rfl,Y06 ⟨Z1b rfl,Y01 rfl,trivial⟩⟩,⟨rfl,rfl,rfl,rfl,Z0f rfl (Z0H _)⟩,trivial⟩
    · refine Y0b [0,1,2,3,4,5,6,7,8,9,10,11,12,14,13] rfl rfl ?_ ?_ rfl
      ·exact wks
      ·exact Z1h (l:=[11,12,14,13]) rfl rfl ⟨hbp,⟨rfl,rfl,rfl,rfl,Y06 ⟨Z1b rfl,Z1b rfl,trivial⟩⟩,⟨rfl,rfl,rfl,rfl,Z0f rfl (Z0H _)⟩,⟨rfl,rfl,rfl,rfl,Z0f rfl (Z1T _)⟩,trivial⟩
    · refine Y0b [0,1,2,3,4,5,6,7,8,9,10,11,12,14] rfl rfl ?_ ?_ rfl
      ·exact wks
      ·exact Z1h (l:=[11,12,14]) rfl rfl ⟨hbp,⟨rfl,rfl,rfl,rfl,Y06 ⟨Z1b rfl,Y01 rfl,trivial⟩⟩,⟨rfl,rfl,rfl,rfl,Z0f rfl (Z0H _)⟩,trivial⟩
    · refine Y0b [0,1,2,3,4,5,6,7,8,9,10,11,12,15,14] rfl rfl ?_ ?_ rfl
      ·exact wks
      ·exact Z1h (l:=[11,12,15,14]) rfl rfl ⟨hbp,⟨rfl,rfl,rfl,rfl,Y06 ⟨Z1b rfl,Z1b rfl,trivial⟩⟩,⟨rfl,rfl,rfl,rfl,Z0f rfl (Z0H _)⟩,⟨rfl,rfl,rfl,rfl,Z0f rfl (Z1T _)⟩,trivial⟩
  · have e3:(s2.err==0)=false:=by simpa using e2
    rw[e3]at qd
    simp only[gL,LV,gD,cond_false,Y04,Y08]at qd qn m1⊢
    rcases ds with _|⟨a,ds⟩<;>rcases ts with _|⟨c,ts⟩
    all_goals simp only[pgY,ZkG,pgD,Z18,Z2f,Zaj,ZcY,Z9x,Y04,Y08,Y0c,Y0u]at qd⊢
    all_goals repeat' ((conv=>whnf);first|(exact Or.inl rfl)|(refine Or.inr ?_)|refine exI (qn _ rfl) ?_|refine exI (m1 _ rfl) ?_|refine exI qd ?_|refine stp ?_|with_reducible apply Z01<;>intro h)
 |false =>
 rw[h1,if_neg (by decide)]at hF
 have m1:=qf _ ((fk _ rfl).trans h1)
 cases h2:isF T s Z8v with
 |true =>
  rw[h2,if_pos rfl]at hF
  have hgs:GOK T (Z02 s):=hs.go (Z0b hs.ok h2) (Z0k s) hs.er
  have m2:=qt _ ((fk _ rfl).trans h2)
  obtain⟨qd,hg2⟩:=dec true hgs hF
  obtain⟨d1,dl,hd1,hd2⟩:=Z8M T true (Z02 s)
  clear p0 p1 p2 p3 p4 dec qt qf fk
  unfold gpR gpO at qd
  simp only at qd
  rw[hd1]at qd hF
  generalize Z0N T true (Z02 s)=r at *
  obtain⟨rd,s2⟩:=r
  generalize Z0o T s=t at *
  obtain⟨kd,tx,nm,ps⟩:=t
  simp only[Tq.cells]at qd hF hg2 e5 qn
  by_cases e2:s2.err=0
  · have e3:(s2.err==0)=true:=by simpa using e2
    rw[e3]at qd
    obtain⟨hg3,hk3⟩:=hg2 e2
    simp only[gL,LV,cond_true,Y04,Y08]at qd qn m1 m2⊢
    rcases ds with _|⟨a,ds⟩<;>rcases ts with _|⟨c,ts⟩
    all_goals simp only[pgY,ZkG,pgD,Z18,Z2f,Zaj,ZcY,Z9x,Y04,Y08,Y0c,Y0u]at qd⊢
    all_goals repeat' ((conv=>whnf);first|(refine Or.inr ?_)|refine exI (qn _ rfl) ?_|refine exI (m1 _ rfl) ?_|refine exI (m2 _ rfl) ?_|refine exI qd ?_|refine stp ?_|with_reducible apply Z01<;>intro h)
    all_goals (conv=>whnf)
    all_goals refine⟨⟨_++d1::dl,_,s2,k⟩,⟨hg3,hk3,by simp only[Y0q,Y09,Y0d]at hd⊢;omega,by simp only[Y09,Y0d]at ht⊢;omega,hF⟩,Y0r _,?_⟩
    · refine Y0b [0,1,2,3,4,5,6,7,8,9,10,11,12,13] rfl rfl ?_ ?_ rfl
      ·exact wks
      ·exact Z1h (l:=[11,12,13]) rfl rfl ⟨hbp,⟨rfl,rfl,rfl,rfl,Y06 ⟨Z1b rfl,Y01 rfl,trivial⟩⟩,⟨rfl,rfl,rfl,rfl,Z0f rfl (Z0H _)⟩,trivial⟩
    · refine Y0b [0,1,2,3,4,5,6,7,8,9,10,11,12,14,13] rfl rfl ?_ ?_ rfl
      ·exact wks
      ·exact Z1h (l:=[11,12,14,13]) rfl rfl ⟨hbp,⟨rfl,rfl,rfl,rfl,Y06 ⟨Z1b rfl,Z1b rfl,trivial⟩⟩,⟨rfl,rfl,rfl,rfl,Z0f rfl (Z0H _)⟩,⟨rfl,rfl,rfl,rfl,Z0f rfl (Z1T _)⟩,trivial⟩
    · refine Y0b [0,1,2,3,4,5,6,7,8,9,10,11,12,14] rfl rfl ?_ ?_ rfl
      ·exact wks
      ·exact Z1h (l:=[11,12,14]) rfl rfl ⟨hbp,⟨rfl,rfl,rfl,rfl,Y06 ⟨Z1b rfl,Y01 rfl,trivial⟩⟩,⟨rfl,rfl,rfl,rfl,Z0f rfl (Z0H _)⟩,trivial⟩
    · refine Y0b [0,1,2,3,4,5,6,7,8,9,10,11,12,15,14] rfl rfl ?_ ?_ rfl
      ·exact wks
      ·exact Z1h (l:=[11,12,15,14]) rfl rfl ⟨hbp,⟨rfl,rfl,rfl,rfl,Y06 ⟨Z1b rfl,Z1b rfl,trivial⟩⟩,⟨rfl,rfl,rfl,rfl,Z0f rfl (Z0H _)⟩,⟨rfl,rfl,rfl,rfl,Z0f rfl (Z1T _)⟩,trivial⟩
  · have e3:(s2.err==0)=false:=by simpa using e2
    rw[e3]at qd
    simp only[gL,LV,gD,cond_false,Y04,Y08]at qd qn m1 m2⊢
    rcases ds with _|⟨a,ds⟩<;>rcases ts with _|⟨c,ts⟩
    all_goals simp only[pgY,ZkG,pgD,Z18,Z2f,Zaj,ZcY,Z9x,Y04,Y08,Y0c,Y0u]at qd⊢
    all_goals repeat' ((conv=>whnf);first|(exact Or.inl rfl)|(refine Or.inr ?_)|refine exI (qn _ rfl) ?_|refine exI (m1 _ rfl) ?_|refine exI (m2 _ rfl) ?_|refine exI qd ?_|refine stp ?_|with_reducible apply Z01<;>intro h)
 |false =>
 rw[h2,if_neg (by decide)]at hF
 have m2:=qf _ ((fk _ rfl).trans h2)
 cases h3:isF T s Z8u with
 |true =>
  rw[h3,if_pos rfl]at hF
  have hgs:GOK T (Z02 s):=hs.go (Z0b hs.ok h3) (Z0k s) hs.er
  have m3:=qt _ ((fk _ rfl).trans h3)
  have kb:=Z8P (T:=T) (Z3K T T.length) (Z02 s)
  have kr:=Z3Q T k ds (ts++[(Z7d T (Z02 s)).1]) (Z7d T (Z02 s)).2
  rw[hF]at kr
  have gb:=(Zij (gl:=gl) T (Z02 s) hgs.ok (Y0e _)).1
  have hon:s.i+1<=(Z7d T (Z02 s)).2.i:=gb.on
  have hg3:(Z7d T (Z02 s)).2.err=0->GOK T (Z7d T (Z02 s)).2:=λhe=>hgs.go gb kb he
  have hk3:(Z7d T (Z02 s)).2.err=0->T.length-(Z7d T (Z02 s)).2.i<k:=λhe=>by omega
  have qb:∀X,Z07 Z0z X=true->Z05 Y00 O (gL T (s.i+1) s.op++X) 59 [.ptr 0 0]=some (stA (Z7d T (Z02 s)).1,gB T (Z7d T (Z02 s)).2++X):=λX hX=>Z4U p3 () (Z02 s) X hgs ⟨hgs,Y0e _⟩ kr.x hX
  clear p0 p1 p2 p3 p4 dec qt qf fk kb gb kr hon
  generalize Z7d T (Z02 s)=r at *
  obtain⟨tl,s2⟩:=r
  generalize Z0o T s=t at *
  obtain⟨kd,tx,nm,ps⟩:=t
  have hct:(ts.map stA).length=ts.length*1:=by simp
  have hsn:ts.map stA++[stA tl]=(ts++[tl]).map stA:=by simp
  simp only[gL,LV,Tq.cells,stA,Y04,Y08]at qn m1 m2 m3 qb hF hg3 hk3 e5⊢
  rcases ds with _|⟨a,ds⟩<;>rcases ts with _|⟨c,ts⟩
  all_goals simp only[pgY,Z18,Z2f,Zaj,ZcY,Z9x,Y04,Y08,Y0c]
  all_goals (try simp only[Y09]at ht hct)
  all_goals repeat' ((conv=>whnf);first|(exact Or.inl rfl)|(refine Or.inr ?_)|refine exI (qn _ rfl) ?_|refine exI (m1 _ rfl) ?_|refine exI (m2 _ rfl) ?_|refine exI (m3 _ rfl) ?_|(refine exG (qb _ rfl) (λhd=>?_) (λe1=>?_))|(refine apS ?_)|refine stp ?_|with_reducible apply Z01<;>intro h)
  all_goals (conv=>whnf)
  · refine⟨⟨[],[tl],s2,k⟩,⟨hg3 e1,hk3 e1,(by simp only[Y0d,Y09]at hd⊢;omega),(by simp only[Y09,Y0d]at ht⊢;omega),hF⟩,Y0r _,?_⟩
    refine Y0b [0,1,2,3,4,5,6,7,8,9,10,11,12,14] rfl rfl ?_ ?_ rfl
    ·exact wks
    ·exact Z1h (l:=[11,12,14]) rfl rfl ⟨hbp,⟨rfl,rfl,rfl,rfl,Y06 ⟨Y01 rfl,Z1b rfl,trivial⟩⟩,⟨rfl,rfl,rfl,rfl,Z0f rfl (Z1T [tl])⟩,trivial⟩
  · have hl1:(ts++[tl]).length=ts.length+1:=by simp
    refine⟨⟨[],c::(ts++[tl]),s2,k⟩,⟨hg3 e1,hk3 e1,(by simp only[Y0d,Y09]at hd⊢;omega),(by simp only[Y09,hl1]at ht⊢;omega),hF⟩,Y0r _,?_⟩
    refine Y0b [0,1,2,3,4,5,6,7,8,9,10,11,12,15] rfl rfl ?_ ?_ rfl
    ·exact wks
    ·exact Z1h (l:=[11,12,15]) rfl rfl ⟨hbp,⟨rfl,rfl,rfl,rfl,Y06 ⟨Y01 rfl,(by show Wk _ _ (Zaj (c::(ts++[tl])) _);dsimp only[Zaj];rw[hl1];exact Z1b rfl),trivial⟩⟩,⟨rfl,rfl,rfl,rfl,Z0f hsn (Z1T _)⟩,trivial⟩
  · refine⟨⟨(a::ds),[tl],s2,k⟩,⟨hg3 e1,hk3 e1,(by simp only[Y0d,Y09]at hd⊢;omega),(by simp only[Y09,Y0d]at ht⊢;omega),hF⟩,Y0r _,?_⟩
    refine Y0b [0,1,2,3,4,5,6,7,8,9,10,11,12,13,15] rfl rfl ?_ ?_ rfl
    ·exact wks
    ·exact Z1h (l:=[11,12,13,15]) rfl rfl ⟨hbp,⟨rfl,rfl,rfl,rfl,Y06 ⟨Z1b rfl,Z1b rfl,trivial⟩⟩,⟨rfl,rfl,rfl,rfl,Z0f rfl (Z0H _)⟩,⟨rfl,rfl,rfl,rfl,Z0f rfl (Z1T [tl])⟩,trivial⟩
  · have hl1:(ts++[tl]).length=ts.length+1:=by simp
    refine⟨⟨(a::ds),c::(ts++[tl]),s2,k⟩,⟨hg3 e1,hk3 e1,(by simp only[Y0d,Y09]at hd⊢;omega),(by simp only[Y09,hl1]at ht⊢;omega),hF⟩,Y0r _,?_⟩
    refine Y0b [0,1,2,3,4,5,6,7,8,9,10,11,12,13,16] rfl rfl ?_ ?_ rfl
    ·exact wks
    ·exact Z1h (l:=[11,12,13,16]) rfl rfl ⟨hbp,⟨rfl,rfl,rfl,rfl,Y06 ⟨Z1b rfl,(by show Wk _ _ (Zaj (c::(ts++[tl])) _);dsimp only[Zaj];rw[hl1];exact Z1b rfl),trivial⟩⟩,⟨rfl,rfl,rfl,rfl,Z0f rfl (Z0H _)⟩,⟨rfl,rfl,rfl,rfl,Z0f hsn (Z1T _)⟩,trivial⟩
 |false =>
  rw[h3,if_neg (by decide)]at hF
  have m3:=qf _ ((fk _ rfl).trans h3)
  have kr:=Z3Q T k ds ts (Z0r s 5 (Z0o T s).pos)
  rw[hF]at kr
  have qx:=λX K hX=>Z6c p4 (i:=s.i) (op:=s.op) (X:=X) (K:=K) (e:=5) hs (by decide) kr.x rfl rfl hX
  clear p0 p1 p2 p3 p4 dec qt qf fk kr hF
  generalize Z0o T s=t at *
  obtain⟨kd,tx,nm,ps⟩:=t
  simp only[gL,LV,gD,Tq.cells,Y04,Y08]at qn m1 m2 m3 qx e5⊢
  rcases ds with _|⟨a,ds⟩<;>rcases ts with _|⟨c,ts⟩
  all_goals simp only[pgY,Z18,Z2f,Zaj,ZcY,Z9x,Y04,Y08,Y0c]
  all_goals repeat' ((conv=>whnf);first|(exact Or.inl rfl)|(refine Or.inr ?_)|refine exI (qn _ rfl) ?_|refine exI (m1 _ rfl) ?_|refine exI (m2 _ rfl) ?_|refine exI (m3 _ rfl) ?_|(refine qx _ _ rfl ?_)|refine stp ?_|with_reducible apply Z01<;>intro h)
end
end Go.Proofs.YtneoiadnbikciaaGreatDoor.lex
section
namespace Go.Abs
open Go.RowKit
theorem Zbj(a:Act){d:Option Tmp}{t:Nat}(v:Value)(h:d≠some t):(a.put d v).tmps[t]? = a.tmps[t]?:=by
 cases d with
 |none=>rfl
 |some d =>
  have:d≠t:=λe=>h (by rw[e])
  simp[Act.put,this]
theorem Zec(a:Act)(d:Option Tmp)(v:Value):(a.put d v).tmps.size=a.tmps.size:=by
 cases d with
 |none=>rfl
 |some d=>simp[Act.put]
theorem Z3X {X : AV -> Prop} {P : Program} {gl : Z0g} {orc : Orc} {rd : Option Nat} {t : Nat} (hn : NoNum P) (hO : OrcSoundX X P gl orc) (ops : Array Oper) : ∀ (l : List Oper) (tm : Tr) (H : Z00) (tm' : Tr) (H' : Z00) (a : Act) (W : World) (sn : Z0m) (ι : Z0i),
  (∀o∈l,o.dst≠some t)->ZfT P gl orc ops.toList l tm H=some (tm',H')->GlOK gl sn->R sn ι H W->TRel sn ι tm a->∀{Q:Exit->Act->World->Prop},
  (∀a' W' sn' ι',Stp sn ι H W sn' ι' H' W'->TRel sn' ι' tm' a'->a'.defers=a.defers->Q .normal a' W')->(∀a' ch W',a'.defers=a.defers->a'.tmps[t]? = a.tmps[t]?->a'.tmps.size=a.tmps.size->PanR X sn ι H W ch W'->Q (.panic ch) a' W')->wpListIn (Fq rd) 0 P ops Q l a W
 |[],tm,H,tm',H',a,W,sn,ι,hd,h,hg,hR,ht,Q,hQ,hP=>by
  simp[ZfT]at h;obtain⟨rfl,rfl⟩:=h
  exact wpListIn_nil (hQ a W sn ι (Stp.refl hR) ht rfl)
 |o::l,tm,H,tm',H',a,W,sn,ι,hd,h,hg,hR,ht,Q,hQ,hP=>by
  have hd0:=hd o (List.mem_cons_self ..)
  have hd1:∀o∈l,o.dst≠some t:=λo ho=>hd o (List.mem_cons_of_mem _ ho)
  refine wpListIn_step λK hK=>?_
  simp only[ZfT]at h
  split at h
  · rename_i hw
    rw[if_pos (Z2s ht ops o hw)]
    split at h<;>try (simp at h;done)
    rename_i r H1 hop
    simp only[Z2G]at h
    split at h<;>try (simp at h;done)
    rename_i tm1 hp
    refine Z3A hn hO hg hR (Z15 hg ht) hop (λv W' sn' ι' hv hst=>hK _ _ ?_) (λch W' p=>hP a ch W' rfl rfl rfl p)
    refine Z3X hn hO ops l _ _ _ _ _ _ sn' ι' hd1 h (hg.mono hst.le) hst.rel (Z21 (ht.mono hst.le) hv hp) (λa' W'' sn'' ι'' hst' ht' hd=>?_) (λa' ch W'' hd ht hz p=>hP a' ch W'' (hd.trans (Act.put_defers' _ _ _)) (ht.trans (Zbj _ _ hd0)) (hz.trans (Zec _ _ _)) (p.back hR hst))
    exact hQ a' W'' sn'' ι'' (hst.trans hR hst') ht' (hd.trans (Act.put_defers' _ _ _))
  · rename_i hw
    rw[if_neg (by rw[Z2s ht ops o hw];simp)]
    split at h<;>try (simp at h;done)
    rename_i tm1 hp
    refine⟨λf _=>trivial,hK _ _ (Z3X hn hO ops l _ _ _ _ _ _ sn ι hd1 h hg hR (Z21 ht Z3H hp) (λa' W'' sn'' ι'' hst' ht' hd=>?_) (λa' ch W'' hd ht hz p=>hP a' ch W'' (hd.trans (Act.put_defers' _ _ _)) (ht.trans (Zbj _ _ hd0)) (hz.trans (Zec _ _ _)) p))⟩
    exact hQ a' W'' sn'' ι'' hst' ht' (hd.trans (Act.put_defers' _ _ _))
  ·simp at h
def Znp(b:Nat)(H:Z00):Z00:=kil (λi _=>Y07 i b) 0 H
theorem Z4M{b:Nat}{H:Z00}{i:Nat}{o:AObj}(h:(Znp b H)[i]? = some o)(ha:o.alive=true):H[i]? = some o/\i≠b:=by
 obtain⟨o1,e1,_,_,e4⟩:=Z2b h
 obtain⟨rfl,h2⟩:=e4 ha
 exact⟨e1,λe=>by rw[e,Nat.beq_refl]at h2;cases h2⟩
section
variable {sn:Z0m} {ι : Z0i} {H:Z00} {W:World} {b:Nat} {o:AObj} {p:Place}
theorem Zer(hR:R sn ι H W)(hb:H[b]? = some o)(ha:o.alive=true)(hp : ι b=some p)(hl:∀(i:Nat)(x:AObj),H[i]? = some x->x.alive=true->i≠b->x.fam≠o.fam):∀(i:Nat)(x:AObj)(q:Place),(Znp b H)[i]? = some x->x.alive=true -> ι i=some q->q.blk≠p.blk:=λi x q hi hx hq e=>by
 obtain⟨h1,h2⟩:=Z4M hi hx
 exact hl i x h1 hx h2 (hR.sep i b x o q p h1 hb hx ha hq hp e).1
theorem Znk {k : Nat} {sn1 : Z0m} {ι1 : Z0i} {H1 : Z00} {W1 : World} {x : AObj} (hR : R sn ι H W) (hb : H[b]? = some o) (ha : o.alive = true) (hbk : b < k) (hnr : Z3O o.body [] = []) (hl : ∀ (i : Nat) (x : AObj), H[i]? = some x -> x.alive = true -> i ≠ b -> x.fam ≠ o.fam)
  (s:Stq k sn ι (Znp b H) W sn1 ι1 H1 W1) (hx:H1[b]? = some x) (hd:x.alive=false) (hfam:∀(i:Nat)(y:AObj),H1[i]? = some y->y.alive=true->y.fam≠o.fam):Stq k sn ι H W sn1 ι1 (H1.set b o) W1:=by
 obtain⟨p,hp⟩:=hR.place hb
 have hlone:=Zer hR hb ha hp hl
 have hp1:=s.keep b p hbk hp
 have hW:W1.heap[p.blk]? = W.heap[p.blk]?:=s.frame p.blk (hR.blk b p hp) hlone
 have hbl:b<H1.length:=(List.getElem?_eq_some_iff.1 hx).1
 have get:∀(i:Nat)(y:AObj),(H1.set b o)[i]? = some y->(i=b/\y=o)\/(i≠b/\H1[i]? = some y):=λi y h=>by
  rw[List.getElem?_set]at h
  split at h
  · rename_i e
    subst e
    simp only[hbl,if_true,Option.some.injEq]at h
    exact .inl ⟨rfl,h.symm⟩
  · rename_i e
    exact .inr ⟨λh=>e h.symm,h⟩
 have far:∀(i:Nat)(y:AObj)(q:Place),H1[i]? = some y->y.alive=true -> ι1 i=some q->q.blk≠p.blk:=λi y q hi hy hq e=>by
  rcases s.fresh i y q hi hy hq with h|⟨b0,o0,p0,h1,h2,h3,h4⟩
  ·have:=hR.blk b p hp;omega
  ·exact hlone b0 o0 p0 h1 h2 h3 (h4.trans e)
 refine⟨⟨λi=>by rw[List.length_set];exact s.rel.dom i,s.rel.blk,λi y q hi hy hq=>?_,λi j y z q q' hi hj hy hz hq hq' e=>?_,λa v hv=>?_,λi y q hi hq e=>?_⟩,s.le,λi y q hi hy hq=>?_,λc hc hno=>s.frame c hc λi y q hi hy hq=>hno i y q (Z4M hi hy).1 hy hq,s.size,s.os,s.tape,s.output,λa v hv=>?_,s.keep⟩
 · rcases get i y hi with ⟨rfl,rfl⟩|⟨hne,hi⟩
   · rw[hp1]at hq;cases hq
     refine Z27 _ _ (λz hz=>by rw[hnr]at hz;cases hz) (Z0M (ι:=ι) ⟨s.le,λ_ _ h=>h⟩ hW (hR.obj i y p hb ha hp))
   ·exact s.rel.obj i y q hi hy hq
 · rcases get i y hi with ⟨e1,e2⟩|⟨hne,hi2⟩<;>rcases get j z hj with ⟨e3,e4⟩|⟨hne',hj2⟩
   · rw[e1]at hq
     rw[e3,hq]at hq';cases hq';rw[e2,e4];exact⟨rfl,rfl⟩
   · rw[e1,hp1]at hq;cases hq
     exact (far j z q' hj2 hz hq' e.symm).elim
   · rw[e3,hp1]at hq';cases hq'
     exact (far i y q hi2 hy hq e).elim
   ·exact s.rel.sep i j y z q q' hi2 hj2 hy hz hq hq' e
 · obtain⟨h1,h2,h3⟩:=s.rel.snap a v hv
   refine⟨h1,h2,λi y q hi hy hq=>?_⟩
   rcases get i y hi with ⟨rfl,rfl⟩|⟨hne,hi⟩
   · rw[hp1]at hq;cases hq
     intro e
     rcases s.sfresh a v hv with h|h|⟨b0,o0,p0,g1,g2,g3,g4⟩
     ·exact (hR.snap a v h).2.2 i y p hb ha hp e
     ·have:=hR.blk i p hp;omega
     ·exact hlone b0 o0 p0 g1 g2 g3 (g4.trans e.symm)
   ·exact h3 i y q hi hy hq
 · rcases get i y hi with ⟨rfl,rfl⟩|⟨hne,hi⟩
   · rw[hp1]at hq;cases hq
     exact hR.shz i y p hb hp e
   ·exact s.rel.shz i y q hi hq e
 · rcases get i y hi with ⟨rfl,rfl⟩|⟨hne,hi⟩
   · rw[hp1]at hq;cases hq
     exact .inr ⟨i,y,p,hb,ha,hp,rfl⟩
   · rcases s.fresh i y q hi hy hq with h|⟨b0,o0,p0,h1,h2,h3,h4⟩
     ·exact .inl h
     ·exact .inr ⟨b0,o0,p0,(Z4M h1 h2).1,h2,h3,h4⟩
 · rcases s.sfresh a v hv with h|h|⟨b0,o0,p0,h1,h2,h3,h4⟩
   ·exact .inl h
   ·exact .inr (.inl h)
   ·exact .inr (.inr ⟨b0,o0,p0,(Z4M h1 h2).1,h2,h3,h4⟩)
theorem Zju {X : AV -> Prop} {o1 : AObj} {ch : List PanicEntry} {W1 : World} (hR : R sn ι H W) (h0 : H[0]? = some o1) (hb : H[1]? = some o) (ha : o.alive = true) (hnr : Z3O o.body [] = []) (hl : ∀ (i : Nat) (x : AObj), H[i]? = some x -> x.alive = true -> i ≠ 1 -> x.fam ≠ o.fam)
  (s:PanR X sn ι (Znp 1 H) W ch W1):Stq 2 sn ι H W sn (λi=>if i<2 then ι i else none) [o1.dead,o] W1:=by
 obtain⟨u,v,_,_,_,hf,hsz,hos,htp,hout⟩:=s
 obtain⟨p,hp⟩:=hR.place hb
 obtain⟨p0,hp0⟩:=hR.place h0
 have hlone:=Zer hR hb ha hp hl
 have hW:W1.heap[p.blk]? = W.heap[p.blk]?:=hf p.blk (hR.blk 1 p hp) hlone
 have get:∀(i:Nat)(y:AObj),[o1.dead,o][i]? = some y->(i=0/\y=o1.dead)\/(i=1/\y=o):=λi y h=>by
  match i,h with
  |0,h=>cases h;exact .inl ⟨rfl,rfl⟩
  |1,h=>cases h;exact .inr ⟨rfl,rfl⟩
  |i+2,h=>cases h
 have hι : ∀(i:Nat)(q:Place),(if i<2 then ι i else none)=some q->i<2 /\ ι i=some q:=λi q h=>by
  split at h
  ·exact⟨by assumption,h⟩
  ·cases h
 have hdd:o1.dead.alive=true->False:=λh=>by cases h
 refine⟨⟨λi=>⟨λhi=>?_,λ⟨q,hq⟩=>(hι i q hq).1⟩,λi q hq=>Y0v (hR.blk i q (hι i q hq).2) hsz,λi y q hi hy hq=>?_,λi j y z q q' hi hj hy hz hq hq' e=>?_,λa v hv=>?_,λi y q hi hq e=>?_⟩,λ_ _ h=>h,λi y q hi hy hq=>?_,λc hc hno=>hf c hc λi y q hi hy hq=>hno i y q (Z4M hi hy).1 hy hq,hsz,hos,htp,hout,λa v hv=>.inl hv,λi q hi hq=>by rw[if_pos hi];exact hq⟩
 · have:i<2:=hi
   rw[if_pos this]
   exact (hR.dom i).1 (by have:=(List.getElem?_eq_some_iff.1 hb).1;omega)
 · rcases get i y hi with ⟨rfl,rfl⟩|⟨rfl,rfl⟩
   ·exact (hdd hy).elim
   · have hq : ι 1=some q:=(hι 1 q hq).2
     rw[hp]at hq;cases hq
     exact Z27 _ _ (λz hz=>by rw[hnr]at hz;cases hz) (Z0M (ι:=ι) ⟨λ_ _ h=>h,λ_ _ h=>h⟩ hW (hR.obj 1 y p hb ha hp))
 · rcases get i y hi with ⟨rfl,rfl⟩|⟨rfl,rfl⟩
   ·exact (hdd hy).elim
   rcases get j z hj with ⟨rfl,rfl⟩|⟨rfl,rfl⟩
   ·exact (hdd hz).elim
   rw[hq]at hq';cases hq';exact⟨rfl,rfl⟩
 · obtain⟨h1,h2,h3⟩:=hR.snap a v hv
   refine⟨Y0v h1 hsz,?_,λi y q hi hy hq=>?_⟩
   · have e:=hf a.block h1 λi y q hi hy hq=>h3 i y q (Z4M hi hy).1 hy hq
     rw[<- h2]
     unfold World.cell?
     rw[e]
   · rcases get i y hi with ⟨rfl,rfl⟩|⟨rfl,rfl⟩
     ·exact (hdd hy).elim
     ·exact h3 1 y q hb hy (hι 1 q hq).2
 · rcases get i y hi with ⟨rfl,rfl⟩|⟨rfl,rfl⟩
   ·exact hR.shz 0 o1 q h0 (hι 0 q hq).2 e
   ·exact hR.shz 1 y q hb (hι 1 q hq).2 e
 · rcases get i y hi with ⟨rfl,rfl⟩|⟨rfl,rfl⟩
   ·exact (hdd hy).elim
   ·exact .inr ⟨1,y,q,hb,hy,(hι 1 q hq).2,rfl⟩
end
theorem ZpS {sn : Z0m} {ι : Z0i} {W W' : World} {d0 : AObj} {fm : Nat} {cs : List AV} {ty : TypeId} {p : Place} (hR : R sn ι [d0, ⟨true, fm, 0, .cells cs ty⟩] W) (hd : d0.alive = false) (hp : ι 1 = some p) {arr' : Array Value} {cs' : List AV} (hl : cs'.length <= cs.length) (hsz : arr'.size = p.n)
  (hb:W'.heap[p.blk]? = some (.cells arr' ty (0,0))) (hc:∀(i:Nat)(c:AV),cs'[i]? = some c->∃v,arr'[p.sh+i]? = some v/\VR sn ι c v) (ho:∀c,c≠p.blk->c<W.heap.size->W'.heap[c]? = W.heap[c]?) (hs:W.heap.size<=W'.heap.size) (hos:W'.os=W.os) (htp:W'.tape=W.tape) (hout:W'.output=W.output) :
  Stq 2 sn ι [d0,⟨true,fm,0,.cells cs ty⟩] W sn ι [d0,⟨true,fm,0,.cells cs' ty⟩] W':=by
 have get:∀{x:ABody}(i:Nat)(y:AObj),[d0,⟨true,fm,0,x⟩][i]? = some y->y.alive=true->i=1/\y=⟨true,fm,0,x⟩:=λi y h hy=>by
  match i,h with
  |0,h=>cases h;rw[hd]at hy;cases hy
  |1,h=>cases h;exact⟨rfl,rfl⟩
  |i+2,h=>cases h
 have hob:=hR.obj 1 _ p rfl rfl hp
 simp only[OR]at hob
 obtain⟨arr,h1,h2,h3,h4⟩:=hob
 refine⟨⟨λi=>hR.dom i,λi q hq=>Y0v (hR.blk i q hq) hs,λi y q hi hy hq=>?_,λi j y z q q' hi hj hy hz hq hq' e=>?_,λa v hv=>?_,λi y q hi hq e=>?_⟩,λ_ _ h=>h,λi y q hi hy hq=>?_,λc hc' hno=>ho c (λe=>hno 1 _ p rfl rfl hp e.symm) hc',hs,hos,htp,hout,λa v hv=>.inl hv,λi q hi hq=>hq⟩
 · obtain⟨rfl,rfl⟩:=get i y hi hy
   rw[hp]at hq;cases hq
   simp only[OR]
   exact⟨arr',hb,hsz,by omega,hc⟩
 · obtain⟨rfl,rfl⟩:=get i y hi hy
   obtain⟨rfl,rfl⟩:=get j z hj hz
   rw[hq]at hq';cases hq';exact⟨rfl,rfl⟩
 · obtain⟨g1,g2,g3⟩:=hR.snap a v hv
   have hne:a.block≠p.blk:=λe=>g3 1 _ p rfl rfl hp e.symm
   refine⟨Y0v g1 hs,?_,λi y q hi hy hq=>?_⟩
   · rw[<- g2]
     unfold World.cell?
     rw[ho a.block hne g1]
   · obtain⟨rfl,rfl⟩:=get i y hi hy
     exact g3 1 _ q rfl rfl hq
 · match i,hi with
   |0,hi=>exact hR.shz 0 y q hi hq e
   |1,hi=>cases hi;exact hR.shz 1 _ q rfl hq rfl
   |i+2,hi=>cases hi
 · obtain⟨rfl,rfl⟩:=get i y hi hy
   exact .inr ⟨1,_,q,rfl,rfl,hq,rfl⟩
theorem Stq.lost{k:Nat}{sn sn1:Z0m}{ι ι1:Z0i}{H X:Z00}{W W1:World}{d0:AObj}(hd:d0.alive=false)(s:Stq k sn ι H W sn1 ι1 (d0::X) W1)(hk:1<=k):Stq 1 sn ι H W sn1 (λi=>if i<1 then ι1 i else none) [d0] W1:=by
 have get:∀(i:Nat)(y:AObj),[d0][i]? = some y->y.alive=true->False:=λi y h hy=>by
  match i,h with
  |0,h=>cases h;rw[hd]at hy;cases hy
  |i+1,h=>cases h
 have hι : ∀(i:Nat)(q:Place),(if i<1 then ι1 i else none)=some q->i<1 /\ ι1 i=some q:=λi q h=>by
  split at h
  ·exact⟨by assumption,h⟩
  ·cases h
 refine⟨⟨λi=>⟨λhi=>?_,λ⟨q,hq⟩=>(hι i q hq).1⟩,λi q hq=>s.rel.blk i q (hι i q hq).2,λi y q hi hy hq=>(get i y hi hy).elim,λi j y z q q' hi hj hy hz hq hq' e=>(get i y hi hy).elim,λa v hv=>⟨(s.rel.snap a v hv).1,(s.rel.snap a v hv).2.1,λi y q hi hy hq=>(get i y hi hy).elim⟩,λi y q hi hq e=>?_⟩,s.le,λi y q hi hy hq=>(get i y hi hy).elim,s.frame,s.size,s.os,s.tape,s.output,s.sfresh,λi q hi hq=>?_⟩
 · have:i<1:=hi
   rw[if_pos this]
   exact (s.rel.dom i).1 (by simp;omega)
 · obtain⟨h1,h2⟩:=hι i q hq
   have h3:i=0:=by omega
   subst h3
   cases hi
   exact s.rel.shz 0 _ q rfl h2 e
 · rw[if_pos hi]
   exact s.keep i q (by omega) hq
end Go.Abs
end
namespace Go.Proofs.YtneoiadnbikciaaGreatDoor.lex
open Go.Abs Go.RowKit
section
variable {gl:Z0g}
theorem Zhl{T:List Tq}(hT:TqOK T){s0:Ps}(hg0:GOK T s0){D:List Dc}{S:List (List St)}{E:Ps}(hP:Z1o T (T.length+1) [] [] s0=((D,S),E)):GX gl T 28 [.ptr 0 0] s0 (.agg [dcN D,Z3t S]) E :=
 memx_same (ZjV hT hg0 hP) rfl rfl ZhB
def Zq0(f:Nat):Bool:=Y07 f 28
theorem ZnS{T:List Tq}{E:Ps}{i:Nat}{op:Int}{o2:AObj}{fs:List Nat}{X:Z00}(he:E.err=0)(hi:i=E.i)(ho:op=E.op)(h:HpGeZ fs (gL T i op++X) [0,1,2,3,4,5,6,7,8,9,10,11] [11] [o2] 11):HpGeZ fs (gL T i op++X) [0,1,2,3,4,5,6,7,8,9,10,11] [0,1,2,3,4,5,6,7,8,9,10,11] (gB T E++[o2]) 0:=by
 rw[Z09 he]
 exact Z9y hi ho h
theorem Zob{T:List Tq}{s s':Ps}{b b':ABody}:∀(i:Nat)(o o':AObj),(gB T s++[⟨true,11,0,b⟩])[i]? = some o->(gB T s'++[⟨true,11,0,b'⟩])[i]? = some o'->o'.fam=o.fam/\o'.sh=o.sh/\(o'.alive=true->o.alive=true):=λi o o' h h'=>by
 by_cases hi:i<11
 · rw[List.getElem?_append_left (by rw[ZhA];exact hi)]at h h'
   exact ZhB i o o' h h'
 · rw[List.getElem?_append_right (by rw[ZhA];omega),ZhA]at h h'
   obtain⟨k,hk⟩:∃k,i-11=k:=⟨_,rfl⟩
   rw[hk]at h h'
   match k,h,h' with
   |0,h,h'=>cases h;cases h';exact⟨rfl,rfl,id⟩
   |k+1,h,h'=>cases h
theorem Zie {T : List Tq} (hT : TqOK T) {s0 : Ps} (hg0 : GOK T s0) {D : List Dc} {S : List (List St)} {E : Ps} (hP : Z1o T (T.length + 1) [] [] s0 = ((D, S), E)) {c : List AV} (hc : c.length = 2) :
  MemX Y00 gl (XF E) 27 [.ptr 0 0,.ptr 11 0] (gB T s0++[⟨true,11,0,.cells c 26⟩]) (.tuple []) (gB T E++[⟨true,11,0,.cells [dcN D,Z3t S] 26⟩]):=by
 obtain⟨x,y,rfl⟩:∃x y,c=[x,y]:=by
  rcases c with _|⟨x,_|⟨y,_|⟨z,c⟩⟩⟩<;>simp at hc
  exact⟨x,y,rfl⟩
 refine memx_same (k:=12) ?_ rfl rfl Zob
 obtain⟨O,hO,⟨p1,-⟩,-⟩:=Z2l (P:=Y00) (gl:=gl) (XF E) [Z8y T 28 (by kernel_rfl) (I:=Unit) (λ_ s=>s=s0) (λ_=>[.ptr 0 0]) (λ_ s=>.agg [dcN D,Z3t S]) (λ_ s=>E) (λ_=>rfl) (λ_ _ _=>rfl) (λ_ s h=>by rw[h];exact Zhl hT hg0 hP)] [] rfl
 have q1:∀X,Z07 Z0z X=true->Z05 Y00 O (gL T s0.i s0.op++X) 28 [.ptr 0 0]=some (.agg [dcN D,Z3t S],gB T E++X):=λX hX=>Z4U p1 () s0 X hg0 rfl (λu hu=>hu) hX
 clear p1
 have hd:dcN D = .nslice\/dcN D=dcA D:=by cases D<;>simp[dcN]
 refine Z0t Zq0 3 follows Z06 hO Tryz.func27 rfl ?_
 rw (occs:=.pos [1]) [Z09 hg0.er]
 simp only[gL,LV,Y04,Y08]at q1⊢
 rcases D with _|⟨d,D⟩<;>rcases S with _|⟨l,S⟩
 all_goals simp only[dcN,Z3t,dcA]at q1⊢
 all_goals repeat' ((conv=>whnf);first|(exact Or.inl rfl)|(refine Or.inr ?_)|(refine exG (q1 _ rfl) (λhd=>?_) (λe1=>?_))|refine stp ?_|with_reducible apply Z01<;>intro h)
 all_goals (conv=>whnf)
 all_goals exact⟨[],[0,1,2,3,4,5,6,7,8,9,10,11],rfl,(ZnS e1 rfl rfl ⟨⟨rfl,rfl,rfl,rfl,BodyGe.z (Y0k (rest:=[]) rfl rfl)⟩,trivial⟩),rfl,rfl,.inl (Y01 rfl)⟩
end
section
variable {gl:Z0g}
theorem Zjp(p:Value)(w:World):CallsD Y00 54 #[p] .returning w λe u' w'=>e = .returned (.tuple #[])/\u' = .returning/\w'=w:=by
 refine callsD_of_wpS Tryz.func54 rfl λc₀ cs hu=>?_
 apply wpS_seq
 apply wpS_region
 simp[wpOpsS,go_sem,recoverD,hu,Tryz.ntmps54,Exit.thenS]
 refine wpS_of_wp ?_
 go_wp2
 cases c₀
 simp_all[bodyPostS,results,Tryz.results54]
theorem ZmN(v:Value)(w:World):(Instr.typeAssert (.iface 88 v) 20 88 true).run Y00 w = .ok (.tuple #[v,.bool true]) w:=by kernel_rfl
theorem ZdJ (b o : Nat) (arr : Array Value) (x y : Value) (w : World) (ob : Obj) {ty : TypeId} (hb : w.heap[b]? = some (.cells arr ty (0, 0))) (ho : o + 2 <= arr.size) :
  ((w.alloc ob).cell? ⟨b,o,none⟩).isSome=true/\(w.alloc ob).frozen? ⟨b,o,none⟩=false/\(((w.alloc ob).setCell ⟨b,o,none⟩ x).cell? ⟨b,o+1,none⟩).isSome=true/\((w.alloc ob).setCell ⟨b,o,none⟩ x).frozen? ⟨b,o+1,none⟩=false /\
  (((w.alloc ob).setCell ⟨b,o,none⟩ x).setCell ⟨b,o+1,none⟩ y).heap[b]? = some (.cells ((arr.setIfInBounds o x).setIfInBounds (o+1) y) ty (0,0))/\(∀c,c≠b->c<w.heap.size->(((w.alloc ob).setCell ⟨b,o,none⟩ x).setCell ⟨b,o+1,none⟩ y).heap[c]? = w.heap[c]?) /\
  w.heap.size<=(((w.alloc ob).setCell ⟨b,o,none⟩ x).setCell ⟨b,o+1,none⟩ y).heap.size:=by
 have hlt:b<w.heap.size:=(Array.getElem?_eq_some_iff.1 hb).1
 have h0:∀c,c<w.heap.size->(w.alloc ob).heap[c]? = w.heap[c]?:=λc hc=>by
  show (w.heap.push ob)[c]? = _
  rw[Array.getElem?_push,if_neg (Nat.ne_of_lt hc)]
 have h1:=(h0 b hlt).trans hb
 have hm:∀(w1:World)(a1:Array Value)(o1:Nat)(z:Value),w1.heap[b]? = some (.cells a1 ty (0,0))->(w1.setCell ⟨b,o1,none⟩ z).heap[b]? = some (.cells (a1.setIfInBounds o1 z) ty (0,0))/\∀c,c≠b->(w1.setCell ⟨b,o1,none⟩ z).heap[c]? = w1.heap[c]?:=λw1 a1 o1 z h=>by
  refine⟨?_,λc hc=>?_⟩
  · show (w1.heap.modify b _)[b]? = _
    rw[Array.getElem?_modify,if_pos rfl,h]
    rfl
  · show (w1.heap.modify b _)[c]? = _
    rw[Array.getElem?_modify,if_neg (λh=>hc h.symm)]
 obtain⟨h2,h3⟩:=hm (w.alloc ob) arr o x h1
 obtain⟨h4,h5⟩:=hm _ _ (o+1) y h2
 refine⟨?_,?_,?_,?_,h4,λc hc hl=>(h5 c hc).trans ((h3 c hc).trans (h0 c hl)),?_⟩
 · unfold World.cell?
   rw[h1]
   have:o<arr.size:=by omega
   simp[this]
 · unfold World.frozen?
   rw[h1]
   simp
 · unfold World.cell?
   rw[h2]
   have:o+1<arr.size:=by omega
   simp[this]
 · unfold World.frozen?
   rw[h2]
   simp
 · have hs:∀(w1:World)(a:Addr)(z:Value),(w1.setCell a z).heap.size=w1.heap.size:=λw1 a z=>Array.size_modify
   rw[hs,hs]
   show _<=(w.heap.push ob).size
   rw[Array.size_push]
   exact Nat.le_succ _
theorem Zjo (b o : Nat) (arr : Array Value) (e a : Int) (w : World) (hb : w.heap[b]? = some (.cells arr 29 (0, 0))) (ho : o + 2 <= arr.size) :
  CallsD Y00 54 #[.pointer (some ⟨b,o,none⟩)] (.panicking [{ v:=.iface 88 (.agg #[.int .i64 e,.int .i64 a]),recovered:=false }]) w λe' u' w' =>
   e' = .returned (.tuple #[])/\u' = .panicking [{ v:=.iface 88 (.agg #[.int .i64 e,.int .i64 a]),recovered:=true }] /\
   w'=((w.alloc (.cells #[.int .i64 e,.int .i64 a] 88)).setCell ⟨b,o,none⟩ (.int .i64 e)).setCell ⟨b,o+1,none⟩ (.int .i64 a):=by
 obtain⟨k1,k2,k3,k4,-⟩:=ZdJ b o arr (.int .i64 e) (.int .i64 a) w (.cells #[.int .i64 e,.int .i64 a] 88) hb ho
 obtain⟨c1,k1⟩:=Option.isSome_iff_exists.1 k1
 obtain⟨c3,k3⟩:=Option.isSome_iff_exists.1 k3
 refine callsD_of_wpS Tryz.func54 rfl λc₀ cs hu=>?_
 apply wpS_seq
 apply wpS_region
 simp[wpOpsS,go_sem,recoverD,hu,Tryz.ntmps54,Exit.thenS]
 refine wpS_of_wp ?_
 have has:=ZmN (.agg #[.int .i64 e,.int .i64 a])
 go_wp2
 simp[bodyPostS,results,Tryz.results54]
noncomputable def sqL:Code->Code
 | .seq a _=>a
 |c=>c
noncomputable def sqR:Code->Code
 | .seq _ b=>b
 |c=>c
end
section
variable {gl:Z0g}
noncomputable def rdT:Nat->Code
 |0=>(Y0j.body).getD .skip
 |n+1=>sqR (rdT n)
noncomputable def rgO:Code->Array Oper
 | .region _ ops _=>ops
 |_=>#[]
def Z49(T:List Tq)(E:Ps):Ps:=if E.err=0/\(Z0o T E).kind≠5 then Z0r E 5 (Z0o T E).pos else E
def KX:Nat->Tr->Z00->Prop:=λ_ _ _=>False
def KF:Tr->Z00->Prop:=λ_ _=>False
theorem Zb2 {orc : Orc} {cw : CW} {c d : Code} {k : Nat} {tm : Tr} {H : Z00} {kn : Tr -> Z00 -> Prop} {Q : Exit -> Act -> World -> Prop} (hO : OrcSoundX (fun _ => False) Y00 gl orc) (hcw : Z6W Y00 orc cw) (h : Z1R Y00 gl orc cw k c kn KX KF tm H) {a : Act} {W : World} {sn : Z0m} {ι : Z0i} (hg : GlOK gl sn) (hR : R sn ι H W) (ht : TRel sn ι tm a)
  (hQ:∀tm' H' a' W' sn' ι',kn tm' H'->Stq k sn ι H W sn' ι' H' W'->TRel sn' ι' tm' a'->a'.defers=a.defers->d.wpIn (Fq none) 0 Y00 Q a' W'):(Code.seq c d).wpIn (Fq none) 0 Y00 Q a W:=by
 refine wpIn_seq (Z1Q (X:=λ_=>False) (rd:=none) follows Z06 hO hcw c h a W sn ι _ hg hR ht (λx tm' H' a' W' sn' ι' hx s t hd=>?_) (λa' ch W' hd p=>p.no.elim))
 cases x with
 |normal=>exact hQ tm' H' a' W' sn' ι' hx s t hd
 |exit id=>exact hx.elim
 |ret=>exact hx.elim
def fO:AObj:=⟨true,1,0,.cells [.int .i64 0,.int .i64 0] 29⟩
def rdH(p0 f0:AObj)(T:List Tq)(i:Nat)(op:Int):Z00:=[p0,f0,⟨true,2,0,.map [(.str [124,124],.int .i64 5,0)] 1⟩,⟨true,3,0,.map [(.str [38,38],.int .i64 6,0)] 1⟩,⟨true,4,0,.map [(.str [61,61],.int .i64 7,0),(.str [33,61],.int .i64 8,1)] 2⟩,
 ⟨true,5,0,.map [(.str [60],.int .i64 9,0),(.str [60,61],.int .i64 10,1)] 2⟩,⟨true,6,0,.map [(.str [124],.int .i64 11,0)] 1⟩,⟨true,7,0,.map [(.str [94],.int .i64 12,0)] 1⟩,⟨true,8,0,.map [(.str [38],.int .i64 13,0)] 1⟩,
 ⟨true,9,0,.map [(.str [43],.int .i64 14,0),(.str [45],.int .i64 15,1)] 2⟩,⟨true,10,0,.map [(.str [42],.int .i64 16,0)] 1⟩,⟨true,11,0,.cells [.map 2,.map 3,.map 4,.map 5,.map 6,.map 7,.map 8,.map 9,.map 10] 128⟩,
 ⟨true,12,0,.cells [.rs T.length 4 (tqC T),.int .i64 i,.int .i64 op,.slice 11 0 9 9 1] 92⟩]
def ZiW(f:Nat):Bool:=Y07 f 53
def fD:AObj:=⟨false,1,0,.cells [] 0⟩
def ZnF(f:Nat):Bool:=true
def Zpw(f:Nat):Bool:=false
noncomputable abbrev oN0(gl:Z0g):Orc:=Z7I Y00 gl (ZiT λ_ _=>none) Zpw 3
noncomputable abbrev cN0(gl:Z0g):CW:=Z7i Y00 gl (ZiT λ_ _=>none) Zpw 3
noncomputable abbrev oR(gl:Z0g)(O:Orc):Orc:=Z7I Y00 gl O ZnF 3
noncomputable abbrev cR(gl:Z0g)(O:Orc):CW:=Z7i Y00 gl O ZnF 3
def Zhb:Nat->Z00->Bool
 |_,[]=>true
 |i,o::H=>(Y07 i 1 || (!o.alive || !Y07 o.fam 1))&&Zhb (i+1) H
noncomputable def K9(gl:Z0g)(kr:Tr->Z00->Prop)(tm:Tr)(H:Z00):Prop:=(H[1]? = some fD/\Zhb 0 H=true)/\Z1u (H.set 1 fO) λH'=>Z1R Y00 gl (oN0 gl) (cN0 gl) 2 (rdT 7) KF KX kr tm H'
noncomputable def K8(gl:Z0g)(O:Orc)(tm:Tr)(H:Z00):Prop:=Z1a tm 4=some (.ptr 1 0)/\ZgH Y00 gl (oR gl O) (cR gl O) (rgO (match sqR (sqL (rdT 6))with | .cond _ a _=>a|c=>c)).toList (rgO (match sqR (sqL (rdT 6))with | .cond _ a _=>a|c=>c)).toList tm H λ_ H=>Z7q H=true
noncomputable def K7(gl:Z0g)(O:Orc)(kr:Tr->Z00->Prop)(tm:Tr)(H:Z00):Prop:=onO (Z2K gl tm (.tmp 27)) λv=>match v with
 | .bool t=>(t=true->K8 gl O tm H)/\(t=false->K9 gl kr tm H)
 |_=>False
noncomputable def K6(gl:Z0g)(O:Orc)(kr:Tr->Z00->Prop)(tm:Tr)(H:Z00):Prop:=Z1R Y00 gl (oN0 gl) (cN0 gl) 2 (sqL (sqL (rdT 6))) (K7 gl O kr) KX KF tm H
noncomputable def K5(gl:Z0g)(O:Orc)(T:List Tq)(p0:AObj)(kr:Tr->Z00->Prop)(tm:Tr)(H:Z00):Prop:=(H=rdH p0 fO T 0 0/\Z1a tm 4=some (.ptr 1 0))/\ZgH Y00 gl (oR gl O) (cR gl O) (rgO (sqL (rdT 5))).toList (rgO (sqL (rdT 5))).toList tm (rdH p0 fD T 0 0) λtm H=>dK H (K6 gl O kr tm H)
noncomputable def K4(gl:Z0g)(O:Orc)(T:List Tq)(p0:AObj)(kr:Tr->Z00->Prop)(tm:Tr)(H:Z00):Prop:=Z1R Y00 gl (oN0 gl) (cN0 gl) 2 (sqL (rdT 4)) (K5 gl O T p0 kr) KX KF tm H
noncomputable def K3(gl:Z0g)(O:Orc)(T:List Tq)(p0:AObj)(kr:Tr->Z00->Prop)(tm:Tr)(H:Z00):Prop:=opW Y00 (oN0 gl) (cN0 gl) (Z2K gl tm) ((rgO (sqL (rdT 3))).toList.headD default) H λr H'=>onO (Z4i (some 16) r tm) λtm'=>r = .func (.func 54) [] [.ptr 1 0]/\K4 gl O T p0 kr tm' H'
theorem Znm {orc O : Orc} {T : List Tq} {txt : List UInt8} {c : Nat} {pc pc' : List AV} {ty : TypeId} {E : Ps} (h0 : 0 < T.length) (qA : ∀ H, Z05 Y00 orc H 53 [.str txt] = some (.tuple [.rs T.length 4 (tqC T), .agg [.int .i64 0, .int .i64 0]], H))
  (qd:E.err≠0->Z05 Y00 O (rdH ⟨true,0,0,.cells pc ty⟩ fD T 0 0) c [.ptr 12 0,.ptr 0 0]=some (.tuple [],gD E))
  (ql:E.err=0->PsOK T E/\Z05 Y00 O (rdH ⟨true,0,0,.cells pc ty⟩ fD T 0 0) c [.ptr 12 0,.ptr 0 0]=some (.tuple [],rdH ⟨true,0,0,.cells pc' ty⟩ fD T E.i E.op))
  (qx:E.err=0->(Z0o T E).kind≠5->Z05 Y00 O (rdH ⟨true,0,0,.cells pc' ty⟩ fD T E.i E.op++[⟨true,13,0,.cells (Z0o T E).cells 38⟩]) 56 [.ptr 12 0,.int .i64 5]=some (.tuple [],gD E)) :
  frcTr (tmk (Z7j [.str txt,.func (.func c) [] [.ptr 0 0]] 31 2) (Z83 20 31)) λtm=>Z1R Y00 gl (Z7I Y00 gl orc ZiW 3) (Z7i Y00 gl orc ZiW 3) 2 (sqL (rdT 0)) (λtm H=>Z1R Y00 gl (Z7I Y00 gl orc ZiW 3) (Z7i Y00 gl orc ZiW 3) 2 (sqL (rdT 1)) (λtm H=>Z1R Y00 gl (Z7I Y00 gl orc ZiW 3) (Z7i Y00 gl orc ZiW 3) 2 (sqL (rdT 2)) (K3 gl O T ⟨true,0,0,.cells pc ty⟩ (λtm H=>(E.err=0/\(Z0o T E).kind=5)/\Z1a tm 4=some (.ptr 1 0)/\∃X,H=⟨true,0,0,.cells pc' ty⟩::fO::X)) KX KF tm H) KX KF tm H) KX KF tm [⟨true,0,0,.cells pc ty⟩]:=by
 repeat' ((conv=>whnf);first|(refine Or.inr ?_)|refine exI (qA _) ?_|refine stp ?_|with_reducible apply Z01<;>intro h)
 conv=>whnf
 refine⟨⟨rfl,rfl⟩,?_⟩
 by_cases he:E.err=0
 case neg =>
  have q:=qd he
  clear qd ql qx qA
  simp only[rdH,fD,gD,LV]at q⊢
  repeat' ((conv=>whnf);first|(exact Or.inl rfl)|(refine Or.inr ?_)|refine exI q ?_|refine stp ?_|with_reducible apply Z01<;>intro h)
 obtain⟨hE,q⟩:=ql he
 have hx:=tq4 T E.i hE.lt
 rw[<- Z0s hE.lt]at hx
 have hlt:=hE.lt
 replace qx:=qx he
 clear qd ql qA
 generalize Z0o T E=t at *
 obtain⟨kd,tx,nm,ps⟩:=t
 simp only[rdH,fD,gD,LV,Tq.cells,Y04,Y08]at q hx qx⊢
 repeat' ((conv=>whnf);first|(exact Or.inl rfl)|(refine Or.inr ?_)|refine exI q ?_|refine exI hx ?_|(with_reducible refine ixJ E.i rfl ?_ ?_;focus omega)|refine stp ?_|with_reducible apply Z01<;>intro h)
 · have hk5:kd≠5:=by simpa using h
   replace qx:=qx hk5
   refine⟨rfl,?_⟩
   repeat' ((conv=>whnf);first|(exact rfl)|refine exI qx ?_|refine stp ?_|with_reducible apply Z01<;>intro h)
 · have hk5:kd=5:=by simpa using h
   refine⟨⟨rfl,rfl⟩,?_⟩
   clear qx q
   unfold fO
   repeat' ((conv=>whnf);first|(refine Or.inr ?_)|refine stp ?_|with_reducible apply Z01<;>intro h)
   conv=>whnf
   exact⟨⟨he,hk5⟩,rfl,_,rfl⟩
end
section
variable {gl:Z0g}
theorem Ze8{tm:Tr}{H:Z00}{fm:Nat}{e a:Int}(ht:Z1a tm 4=some (.ptr 1 0))(hH:H[1]? = some ⟨true,fm,0,.cells [.int .i64 e,.int .i64 a] 29⟩):Z3g Y00 tm H [.cell 4 29]=some [.agg [.int .i64 e,.int .i64 a]]:=by
 rcases H with _|⟨h0,_|⟨x,H⟩⟩
 ·cases hH
 ·cases hH
 simp only[List.getElem?_cons_succ,Y0C,Option.some.injEq]at hH
 subst hH
 simp only[Z3g,ht]
 rfl
theorem ZeQ:∀{H:Z00}{b:Nat}{o:AObj},H[b]? = some o->o.alive=true->Zot o.body=true->Z7q H=true
 |[],b,o,h,_,_=>by cases h
 |⟨al,f,s,bd⟩::H,0,o,h,h1,h2=>by
  cases h
  simp only at h1 h2
  unfold Z7q
  rw[h1,h2];rfl
 |⟨al,f,s,bd⟩::H,b+1,o,h,h1,h2=>by
  have:=ZeQ (H:=H) (by simpa using h) h1 h2
  unfold Z7q
  rw[this,Bool.or_true]
theorem ZkF{T:List Tq}{pc:List AV}{ty:TypeId}{fD':AObj}(hpr:refsL pc []=[]):HpGe (rdH ⟨true,0,0,.cells pc ty⟩ fD' T 0 0) [12,2,3,4,5,6,7,8,9,10,11,0] [12,2,3,4,5,6,7,8,9,10,11,0] (gL T 0 0++[⟨true,11,0,.cells pc ty⟩]) 0:=by
 refine⟨⟨rfl,rfl,rfl,rfl,Y06 ⟨Y01 rfl,Y03 rfl,Y03 rfl,Y0l rfl rfl rfl (Y0a _) (Y0a _) rfl,trivial⟩⟩,⟨rfl,rfl,rfl,rfl,rfl,eG trivial⟩,⟨rfl,rfl,rfl,rfl,rfl,eG trivial⟩,⟨rfl,rfl,rfl,rfl,rfl,eG (eG trivial)⟩,⟨rfl,rfl,rfl,rfl,rfl,eG (eG trivial)⟩,⟨rfl,rfl,rfl,rfl,rfl,eG trivial⟩,⟨rfl,rfl,rfl,rfl,rfl,eG trivial⟩,⟨rfl,rfl,rfl,rfl,rfl,eG trivial⟩,⟨rfl,rfl,rfl,rfl,rfl,eG (eG trivial)⟩,⟨rfl,rfl,rfl,rfl,rfl,eG trivial⟩,⟨rfl,rfl,rfl,rfl,Y06 ?_⟩,⟨rfl,rfl,rfl,rfl,Y0k (rest:=[]) (by rw[Y0c]) hpr⟩,trivial⟩
 exact⟨Y05 rfl,Y05 rfl,Y05 rfl,Y05 rfl,Y05 rfl,Y05 rfl,Y05 rfl,Y05 rfl,Y05 rfl,trivial⟩
theorem ZlF{T:List Tq}{pc:List AV}{ty:TypeId}{fD':AObj}{i:Nat}{op:Int}{X:Z00}:HpGe (rdH ⟨true,0,0,.cells pc ty⟩ fD' T i op++X) [12,2,3,4,5,6,7,8,9,10,11] [12,2,3,4,5,6,7,8,9,10,11] (gL T i op) 0:=by
 refine⟨⟨rfl,rfl,rfl,rfl,Y06 ⟨Y01 rfl,Y03 rfl,Y03 rfl,Y0l rfl rfl rfl (Y0a _) (Y0a _) rfl,trivial⟩⟩,⟨rfl,rfl,rfl,rfl,rfl,eG trivial⟩,⟨rfl,rfl,rfl,rfl,rfl,eG trivial⟩,⟨rfl,rfl,rfl,rfl,rfl,eG (eG trivial)⟩,⟨rfl,rfl,rfl,rfl,rfl,eG (eG trivial)⟩,⟨rfl,rfl,rfl,rfl,rfl,eG trivial⟩,⟨rfl,rfl,rfl,rfl,rfl,eG trivial⟩,⟨rfl,rfl,rfl,rfl,rfl,eG trivial⟩,⟨rfl,rfl,rfl,rfl,rfl,eG (eG trivial)⟩,⟨rfl,rfl,rfl,rfl,rfl,eG trivial⟩,⟨rfl,rfl,rfl,rfl,Y06 ?_⟩,trivial⟩
 exact⟨Y05 rfl,Y05 rfl,Y05 rfl,Y05 rfl,Y05 rfl,Y05 rfl,Y05 rfl,Y05 rfl,Y05 rfl,trivial⟩
theorem Zmt{T:List Tq}{E:Ps}:∀u,XF E u->XF (Z49 T E) u:=λu h=>by
 have:Z49 T E=E:=by unfold Z49;rw[if_neg (λk=>h.1 k.1)]
 rw[this];exact h
theorem ZmC {T : List Tq} {c : Nat} {pc pc' : List AV} {ty : TypeId} {E : Ps} (hpr : refsL pc [] = []) (hpr' : refsL pc' [] = []) (hren : ∀ g, renL g pc' = pc')
  (hC:MemX Y00 gl (XF E) c [.ptr 0 0,.ptr 11 0] (gB T ⟨0,0,0,0⟩++[⟨true,11,0,.cells pc ty⟩]) (.tuple []) (gB T E++[⟨true,11,0,.cells pc' ty⟩])) :
  MemX Y00 gl (XF (Z49 T E)) c [.ptr 12 0,.ptr 0 0] (rdH ⟨true,0,0,.cells pc ty⟩ fD T 0 0) (.tuple []) (cond (E.err==0) (rdH ⟨true,0,0,.cells pc' ty⟩ fD T E.i E.op) (gD E)):=by
 refine MemX.less ?_ Zmt
 rw[Z09 (s:=⟨0,0,0,0⟩) rfl]at hC
 simp only at hC
 have hM:MemX Y00 gl (XF E) c [.ptr 0 0,.ptr 11 0] (gL T 0 0++[⟨true,11,0,.cells pc ty⟩]) (.tuple []) (gB T E++[⟨true,11,0,.cells pc' ty⟩]):=hC
 by_cases he:E.err=0
 · have e1:(E.err==0)=true:=by simpa using he
   rw[e1]
   rw[Z09 he]at hM
   have h2:=Z1S (m:=[12,2,3,4,5,6,7,8,9,10,11,0]) (Hc:=rdH ⟨true,0,0,.cells pc ty⟩ fD T 0 0) (cargs:=[.ptr 12 0,.ptr 0 0]) hM (Wk.tuple ⟨Y02 rfl rfl,Y02 rfl rfl,trivial⟩) (ZkF hpr) rfl rfl rfl (Z1e rfl) (λi o h=>by
    match i,h with
    |0,h=>cases h;rfl
    |1,h=>cases h;rfl
    |2,h=>cases h;rfl
    |3,h=>cases h;rfl
    |4,h=>cases h;rfl
    |5,h=>cases h;rfl
    |6,h=>cases h;rfl
    |7,h=>cases h;rfl
    |8,h=>cases h;rfl
    |9,h=>cases h;rfl
    |10,h=>cases h;rfl
    |11,h=>cases h;(show Z12 _ (refsL pc' [])=true;rw[hpr'];rfl)
    |k+12,h=>cases h) rfl
   simp[mem,Z90,Z5a,shS,sgS,Z59,renL,Zg5,ren,AObj.dead,gL,LV,rdH,fD,hren]at h2
   exact h2
 · have e1:(E.err==0)=false:=by simpa using he
   rw[e1]
   rw[Z5r he]at hM
   have h1:=Z1M (H2:=gD E++[⟨true,11,0,.cells [] 0⟩]) (r2:=.tuple []) hM rfl
   exact Z1M (Z1S (m:=[12,2,3,4,5,6,7,8,9,10,11,0]) (Hc:=rdH ⟨true,0,0,.cells pc ty⟩ fD T 0 0) (cargs:=[.ptr 12 0,.ptr 0 0]) h1 (Wk.tuple ⟨Y02 rfl rfl,Y02 rfl rfl,trivial⟩) (ZkF hpr) rfl rfl rfl (Z1e rfl) Zd4 rfl) rfl
theorem Zk7 {T : List Tq} {pc' : List AV} {ty : TypeId} {E : Ps} (hE : PsOK T E) (he : E.err = 0) (hk : (Z0o T E).kind ≠ 5) :
  MemX Y00 gl (XF (Z49 T E)) 56 [.ptr 12 0,.int .i64 5] (rdH ⟨true,0,0,.cells pc' ty⟩ fD T E.i E.op++[⟨true,13,0,.cells (Z0o T E).cells 38⟩]) (.tuple []) (gD E):=by
 have hM:=ZeC (gl:=gl) hE (e:=5) (by decide)
 unfold GX at hM
 rw[Z09 he,Z5r (Z1J (by decide))]at hM
 have hX:Z49 T E=Z0r E 5 (Z0o T E).pos:=by unfold Z49;rw[if_pos ⟨he,hk⟩]
 rw[hX]
 have h1:=Z1M (H2:=gD E) (r2:=.tuple []) hM rfl
 generalize Z0o T E=t at *
 obtain⟨kd,tx,nm,ps⟩:=t
 exact Z1M (Z1S (m:=[12,2,3,4,5,6,7,8,9,10,11]) (Hc:=rdH ⟨true,0,0,.cells pc' ty⟩ fD T E.i E.op++[⟨true,13,0,.cells (Tq.mk kd tx nm ps).cells 38⟩]) (cargs:=[.ptr 12 0,.int .i64 5]) h1 (Wk.tuple ⟨Y02 rfl rfl,Y03 rfl,trivial⟩) ZlF rfl rfl rfl (Z1e rfl) Zhy rfl) (ZeQ (b:=12) rfl rfl rfl)
end
section
variable {gl:Z0g}
theorem Zad:∀(t:Tr)(g:Nat->Option AV)(n:Nat)(u v:AV),Z1a t n=some u->g n=some v->Z1a (Z9v g t) n=some v
 | .leaf,g,n,u,v,h,k=>by simp[Z1a]at h
 | .node x l r,g,0,u,v,h,k=>by cases x<;>simp[Z9v,Z1a]at h⊢;exact k
 | .node x l r,g,n+1,u,v,h,k=>by
  simp only[Z9v,Z1a]at h⊢
  split
  · rename_i hn
    rw[hn]at h
    have hn':n % 2=0:=hn
    have e:Nat.add (Nat.mul 2 (Nat.div n 2)) 1=n+1:=by show 2*(n / 2)+1=n+1;omega
    exact Zad l _ _ u v h (by rw[e];exact k)
  · rename_i hn
    split at h
    ·rename_i h2;exact absurd h2 hn
    have hn':¬n % 2=0:=hn
    have e:Nat.add (Nat.mul 2 (Nat.div n 2)) 2=n+1:=by show 2*(n / 2)+2=n+1;omega
    exact Zad r _ _ u v h (by rw[e];exact k)
theorem Stq.one{k:Nat}{sn sn1:Z0m}{ι ι1:Z0i}{H H1:Z00}{W W1:World}(s:Stq k sn ι H W sn1 ι1 H1 W1)(hk:1<=k):Stq 1 sn ι H W sn1 ι1 H1 W1:=⟨s.rel,s.le,s.fresh,s.frame,s.size,s.os,s.tape,s.output,s.sfresh,λb p hb hp=>s.keep b p (by omega) hp⟩
def rdR(T:List Tq)(E:Ps):AV:=.agg [.int .i64 (Z49 T E).err,.int .i64 (Z49 T E).at_]
def rdE(T:List Tq)(E:Ps)(pc':List AV)(ty:TypeId):AObj:=cond ((Z49 T E).err==0) ⟨true,0,0,.cells pc' ty⟩ ⟨false,0,0,.cells [] 0⟩
theorem ZkD {T : List Tq} {pc pc' : List AV} {ty : TypeId} {E : Ps} {sn sn5 : Z0m} {ι ι5 : Z0i} {W W5 W' : World} {a' : Act} {tm5 : Tr} {ch : List PanicEntry} {fp : Value}
  (s5:Stq 2 sn ι [⟨true,0,0,.cells pc ty⟩] W sn5 ι5 (rdH ⟨true,0,0,.cells pc ty⟩ fO T 0 0) W5) (t5:∀n,tex tm5 n=true->n<a'.tmps.size) (h4:Z1a tm5 4=some (.ptr 1 0)) (hfp:VR sn5 ι5 (.ptr 1 0) fp)
  (hd:a'.defers=[{ target:=.fn (.func 54) #[fp],args:=#[] }]) (ht:∃y,a'.tmps[4]? = some y/\VR sn5 ι5 (.ptr 1 0) y) (p:PanR (XF (Z49 T E)) sn5 ι5 (rdH ⟨true,0,0,.cells pc ty⟩ fD T 0 0) W5 ch W') :
  Leaves Y00 Y0j a'.tmps (λe W1=>∃v sn' ι',e = .returned v/\VR sn' ι' (rdR T E) v/\Stq 1 sn ι [⟨true,0,0,.cells pc ty⟩] W sn' ι' [rdE T E pc' ty] W1) a'.defers (.panicking ch) W':=by
 have hp:=Zju (o1:=⟨true,0,0,.cells pc ty⟩) (o:=fO) s5.rel rfl rfl rfl rfl (λi x hx hal hi=>by
  match i,hx with
  |0,hx=>cases hx;exact (show (0:Nat)≠1 by decide)
  |1,hx=>exact absurd rfl hi
  |2,hx=>cases hx;exact (show (2:Nat)≠1 by decide)
  |3,hx=>cases hx;exact (show (3:Nat)≠1 by decide)
  |4,hx=>cases hx;exact (show (4:Nat)≠1 by decide)
  |5,hx=>cases hx;exact (show (5:Nat)≠1 by decide)
  |6,hx=>cases hx;exact (show (6:Nat)≠1 by decide)
  |7,hx=>cases hx;exact (show (7:Nat)≠1 by decide)
  |8,hx=>cases hx;exact (show (8:Nat)≠1 by decide)
  |9,hx=>cases hx;exact (show (9:Nat)≠1 by decide)
  |10,hx=>cases hx;exact (show (10:Nat)≠1 by decide)
  |11,hx=>cases hx;exact (show (11:Nat)≠1 by decide)
  |12,hx=>cases hx;exact (show (12:Nat)≠1 by decide)
  |k+13,hx=>cases hx) p
 obtain⟨u,v,⟨he,rfl⟩,rfl,hv,-⟩:=p
 have he1:((Z49 T E).err==0)=false:=by simpa using he
 obtain⟨pf,hpf,rfl⟩:∃pf,ι5 1=some pf/\fp = .pointer (some ⟨pf.blk,pf.sh+0,none⟩):=by simpa only[VR]using hfp
 have hob:=hp.rel.obj 1 fO pf rfl rfl (by show (if 1<2 then ι5 1 else none)=_;rw[if_pos (by decide)];exact hpf)
 unfold fO at hob
 simp only[OR]at hob
 obtain⟨arr,k1,k2,k3,-⟩:=hob
 have hsz:pf.sh+2<=arr.size:=by rw[k2];exact k3
 have hv2:v = .iface 88 (.agg #[.int .i64 (Z49 T E).err,.int .i64 (Z49 T E).at_]):=by
  unfold Znh at hv
  simp only[VR,LR]at hv
  obtain⟨x,rfl,d,rfl,d1,l1,e1,rfl,d2,l2,rfl,rfl,rfl⟩:=hv
  congr 2
  exact Y0D.1 e1
 subst hv2
 rw[hd]
 refine leaves_cons (f:=54) (args:=#[.pointer (some ⟨pf.blk,pf.sh+0,none⟩)]) (by simp) (by simp[go_sem]) ?_
 refine (Zjo pf.blk (pf.sh+0) arr _ _ W' k1 hsz).mono ?_
 rintro e' u' w'' ⟨rfl,rfl,rfl⟩
 obtain⟨-,-,-,-,g5,g6,g7⟩:=ZdJ pf.blk (pf.sh+0) arr (.int .i64 (Z49 T E).err) (.int .i64 (Z49 T E).at_) W' (.cells #[.int .i64 (Z49 T E).err,.int .i64 (Z49 T E).at_] 88) k1 hsz
 have hpw:=ZpS (cs':=[.int .i64 (Z49 T E).err,.int .i64 (Z49 T E).at_]) hp.rel rfl (by show (if 1<2 then ι5 1 else none)=_;rw[if_pos (by decide)];exact hpf) (Y0a _) (by simpa using k2) g5 (λi c hc=>by
  match i,hc with
  |0,hc =>
   cases hc
   refine⟨_,?_,rfl⟩
   rw[Y0w,if_neg (by omega),Y0w,if_pos rfl,if_pos (by omega)]
  |1,hc =>
   cases hc
   refine⟨_,?_,rfl⟩
   rw[Y0w,if_pos (by omega),if_pos (by simp;omega)]
  |i+2,hc=>cases hc) (λc h1 h2=>g6 c h1 h2) g7 rfl rfl rfl
 have tP:TRel sn5 (λi=>if i<2 then ι5 i else none) (Z9v (λn=>Z1L n [(4,.ptr 1 0)]) tm5) a':=by
  refine⟨λn x hx=>?_,λn hx=>by rw[Z3R]at hx;exact t5 n hx⟩
  have hg:=Z2V _ _ _ _ hx
  have hn:n=4/\x = .ptr 1 0:=by
   simp only[Z1L]at hg
   split at hg
   · rename_i hb
     have:=Y0E hb
     exact⟨this.symm,by simpa using hg.symm⟩
   ·cases hg
  obtain⟨rfl,rfl⟩:=hn
  obtain⟨y,y1,y2⟩:=ht
  refine⟨y,y1,?_⟩
  simp only[VR]at y2⊢
  obtain⟨q,q1,q2⟩:=y2
  exact⟨q,by rw[if_pos (by decide)];exact q1,q2⟩
 have h1:=Ze8 (H:=[(⟨true,0,0,.cells pc ty⟩:AObj).dead,⟨true,1,0,.cells [.int .i64 (Z49 T E).err,.int .i64 (Z49 T E).at_] 29⟩]) (Zad tm5 (λn=>Z1L n [(4,.ptr 1 0)]) 4 _ (.ptr 1 0) h4 rfl) rfl
 obtain⟨vs,k1',k2'⟩:=Z0P hpw.rel tP _ _ h1
 have hall:=Stq.lost (d0:=(⟨true,0,0,.cells pc ty⟩:AObj).dead) rfl ((s5.trans hp).trans hpw) (by decide)
 have hE:rdE T E pc' ty=(⟨true,0,0,.cells pc ty⟩:AObj).dead:=by
  unfold rdE
  rw[he1]
  rfl
 rw[hE]
 show ∃v,(results Y0j a'.tmps).run Y00 _ = .ok v _/\_
 exact⟨_,Z0T (fn:=Y0j) k2',_,_,_,rfl,Z1c (rdR T E) [] _ (λb hb=>by cases hb) (Z2y (fn:=Y0j) k1'),hall⟩
theorem Znl {T : List Tq} {pc pc' : List AV} {ty : TypeId} {E : Ps} {sn sn9 : Z0m} {ι ι9 : Z0i} {W W9 : World} {a9 : Act} {tm9 : Tr} {fp : Value} {X : Z00} (hpr' : refsL pc' [] = []) (he : E.err = 0) (hk : (Z0o T E).kind = 5) (hat : E.at_ = 0)
  (s9:Stq 1 sn ι [⟨true,0,0,.cells pc ty⟩] W sn9 ι9 (⟨true,0,0,.cells pc' ty⟩::fO::X) W9) (t9:TRel sn9 ι9 tm9 a9) (h4:Z1a tm9 4=some (.ptr 1 0)) (hd:a9.defers=[{ target:=.fn (.func 54) #[fp],args:=#[] }]) :
  Leaves Y00 Y0j a9.tmps (λe W1=>∃v sn' ι',e = .returned v/\VR sn' ι' (rdR T E) v/\Stq 1 sn ι [⟨true,0,0,.cells pc ty⟩] W sn' ι' [rdE T E pc' ty] W1) a9.defers .returning W9:=by
 rw[hd]
 refine leaves_cons (f:=54) (args:=#[fp]) (by simp) (by simp[go_sem]) ?_
 refine (Zjp fp W9).mono ?_
 rintro e' u' w'' ⟨rfl,rfl,rfl⟩
 have hS:Z49 T E=E:=by unfold Z49;rw[if_neg (λh=>h.2 hk)]
 have h1:=Ze8 (H:=⟨true,0,0,.cells pc' ty⟩::fO::X) (e:=0) (a:=0) h4 rfl
 obtain⟨vs,k1,k2⟩:=Z0P s9.rel t9 _ _ h1
 obtain⟨hF,_⟩:=Fg.sound (k:=1) (m:=[0]) (H:=⟨true,0,0,.cells pc' ty⟩::fO::X) (tm:=tm9) (tm2:=Z9v (λ_=>none) tm9) (H2:=[⟨true,0,0,.cells pc' ty⟩]) ⟨⟨λn u2 e=>(by have:=Z2V _ _ _ _ e;cases this),λn e=>(by rw[Z3R]at e;exact e)⟩,⟨⟨rfl,rfl,rfl,rfl,Y0k (rest:=[]) (by rw[Y0c]) hpr'⟩,trivial⟩,rfl,rfl⟩ s9.rel t9
 have hE:rdE T E pc' ty=⟨true,0,0,.cells pc' ty⟩:=by
  unfold rdE
  rw[hS,he]
  rfl
 have hr:rdR T E = .agg [.int .i64 0,.int .i64 0]:=by
  unfold rdR
  rw[hS,he,hat]
 rw[hE,hr]
 show ∃v,(results Y0j a9.tmps).run Y00 _ = .ok v _/\_
 exact⟨_,Z0T (fn:=Y0j) k2,_,_,_,rfl,Z1c (.agg [.int .i64 0,.int .i64 0]) [] _ (λb hb=>by cases hb) (Z2y (fn:=Y0j) k1),s9.trans hF⟩
theorem Zjs{T:List Tq}{pc:List AV}{ty:TypeId}:∀(i:Nat)(x:AObj),(rdH ⟨true,0,0,.cells pc ty⟩ fO T 0 0)[i]? = some x->x.alive=true->i≠1->x.fam≠fO.fam:=λi x hx hal hi=>by
 match i,hx with
 |0,hx=>cases hx;exact (show (0:Nat)≠1 by decide)
 |1,hx=>exact absurd rfl hi
 |2,hx=>cases hx;exact (show (2:Nat)≠1 by decide)
 |3,hx=>cases hx;exact (show (3:Nat)≠1 by decide)
 |4,hx=>cases hx;exact (show (4:Nat)≠1 by decide)
 |5,hx=>cases hx;exact (show (5:Nat)≠1 by decide)
 |6,hx=>cases hx;exact (show (6:Nat)≠1 by decide)
 |7,hx=>cases hx;exact (show (7:Nat)≠1 by decide)
 |8,hx=>cases hx;exact (show (8:Nat)≠1 by decide)
 |9,hx=>cases hx;exact (show (9:Nat)≠1 by decide)
 |10,hx=>cases hx;exact (show (10:Nat)≠1 by decide)
 |11,hx=>cases hx;exact (show (11:Nat)≠1 by decide)
 |12,hx=>cases hx;exact (show (12:Nat)≠1 by decide)
 |k+13,hx=>cases hx
theorem Zbu:∀{H:Z00}{k i:Nat}{x:AObj},Zhb k H=true->H[i]? = some x->x.alive=true->k+i≠1->x.fam≠1
 |[],k,i,x,h,e,_,_=>by cases e
 |o::H,k,0,x,h,e,ha,hi=>by
  cases e
  simp only[Zhb,Y0s,Y0F]at h
  rcases h.1 with h1|h1|h1
  ·exact absurd (Y0E h1) hi
  ·rw[ha]at h1;cases h1
  ·intro e;rw[e]at h1;cases h1
 |o::H,k,i+1,x,h,e,ha,hi=>by
  simp only[Zhb,Y0s]at h
  exact Zbu h.2 (by simpa using e) ha (by omega)
end
section
variable {gl:Z0g}
def Zbn{f:Nat}{A:List AV}{R:AV}(hb:Z0h Y00 f=true)(hr:refsL A []=[])(h:ValOK Y00 gl f A R):Fam Y00 gl:={ I:=Unit,f:=f,G:=λ_=>True,A:=λ_=>A,R:=λ_=>R,body:=hb,inj:=(λ_ _ _ _ _=>rfl),ok:=(λ_ hG=>⟨hr,h⟩) }
theorem ZlE {T : List Tq} {txt : List UInt8} {c : Nat} {pc pc' : List AV} {ty : TypeId} {E : Ps} (h0 : 0 < T.length) (hcb : Z0h Y00 c = true) (hcn : Z0Q [c, 56] = true) (hpr : refsL pc [] = []) (hpr' : refsL pc' [] = []) (hren : ∀ g, renL g pc' = pc')
  (hA:ValOK Y00 gl 53 [.str txt] (.tuple [.rs T.length 4 (tqC T),.agg [.int .i64 0,.int .i64 0]]))
  (hC:MemX Y00 gl (XF E) c [.ptr 0 0,.ptr 11 0] (gB T ⟨0,0,0,0⟩++[⟨true,11,0,.cells pc ty⟩]) (.tuple []) (gB T E++[⟨true,11,0,.cells pc' ty⟩])) (hE:E.err=0->PsOK T E/\E.at_=0) :
  MemQ Y00 gl 1 26 [.str txt,.func (.func c) [] [.ptr 0 0]] [⟨true,0,0,.cells pc ty⟩] (rdR T E) [rdE T E pc' ty]:=by
 intro sn ι W cargs hg hR ha
 obtain⟨OA,hOA,-,⟨pA,-⟩⟩:=Z3v (P:=Y00) (gl:=gl) [] [Zbn (by kernel_rfl) rfl hA] rfl
 have qA:∀H,Z05 Y00 OA H 53 [.str txt]=some (.tuple [.rs T.length 4 (tqC T),.agg [.int .i64 0,.int .i64 0]],H):=λH=>pA () trivial H
 obtain⟨O,hO,⟨p1,p2,-⟩,-⟩:=Z2l (P:=Y00) (gl:=gl) (XF (Z49 T E)) [
  { I:=Unit,f:=c,X:=λ_=>XF (Z49 T E),G:=λ_=>True,A:=λ_=>[.ptr 12 0,.ptr 0 0],H:=λ_=>rdH ⟨true,0,0,.cells pc ty⟩ fD T 0 0,R:=λ_=>.tuple [],O:=λ_=>cond (E.err==0) (rdH ⟨true,0,0,.cells pc' ty⟩ fD T E.i E.op) (gD E),body:=hcb,inj:=(λ_ _ _ _ _ _=>⟨rfl,rfl⟩),ok:=λ_ _=>ZmC hpr hpr' hren hC },
  { I:=Unit,f:=56,X:=λ_=>XF (Z49 T E),G:=λ_=>E.err=0/\(Z0o T E).kind≠5,A:=λ_=>[.ptr 12 0,.int .i64 5],H:=λ_=>rdH ⟨true,0,0,.cells pc' ty⟩ fD T E.i E.op++[⟨true,13,0,.cells (Z0o T E).cells 38⟩],R:=λ_=>.tuple [],O:=λ_=>gD E,body:=(by kernel_rfl),inj:=(λ_ _ _ _ _ _=>⟨rfl,rfl⟩),ok:=λ_ h=>Zk7 (hE h.1).1 h.1 h.2 }] [] hcn
 have q1:Z05 Y00 O (rdH ⟨true,0,0,.cells pc ty⟩ fD T 0 0) c [.ptr 12 0,.ptr 0 0]=some (.tuple [],cond (E.err==0) (rdH ⟨true,0,0,.cells pc' ty⟩ fD T E.i E.op) (gD E)):=p1 () trivial (λu h=>h)
 have hrd:=Znm (gl:=gl) (orc:=OA) (O:=O) (txt:=txt) (c:=c) (pc:=pc) (pc':=pc') (ty:=ty) (E:=E) h0 qA (λhe=>by rw[show (E.err==0)=false by simpa using he]at q1;exact q1) (λhe=>⟨(hE he).1,by rw[show (E.err==0)=true by simpa using he]at q1;exact q1⟩) (λhe hk=>p2 () ⟨he,hk⟩ (λu h=>h))
 clear q1 p1 p2 qA pA
 rw[Z1H]at hrd
 have hOA':OrcSoundX (λ_=>False) Y00 gl (Z7I Y00 gl OA ZiW 3):=Z1K follows Z06 hOA.x 3
 have hcA:Z6W Y00 (Z7I Y00 gl OA ZiW 3) (Z7i Y00 gl OA ZiW 3):=Z0p 3
 have hON:OrcSoundX (λ_=>False) Y00 gl (oN0 gl):=Z1K follows Z06 (Z0u (gl:=gl)).x 3
 have hcN:Z6W Y00 (oN0 gl) (cN0 gl):=Z0p 3
 have hOR:OrcSoundX (XF (Z49 T E)) Y00 gl (oR gl O):=Z1K follows Z06 hO 3
 have hcR:Z6W Y00 (oR gl O) (cR gl O):=Z0p 3
 refine .inl (calls_of_wp_defers Tryz.func26 rfl ((wpIn_wide (n:=0)).1 ?_))
 show Code.wpIn (Fq none) 0 Y00 (Code.seq (sqL (rdT 0)) (rdT 1)) _ _ _
 refine Zb2 hOA' hcA hrd hg hR (Z3l ha _ _ _) (λtm1 H1 a1 W1 sn1 ι1 h1 s1 t1 d1=>?_)
 show Code.wpIn (Fq none) 0 Y00 (Code.seq (sqL (rdT 1)) (rdT 2)) _ _ _
 refine Zb2 hOA' hcA h1 (hg.mono (Z3b s1.le)) s1.rel t1 (λtm2 H2 a2 W2 sn2 ι2 h2 s2 t2 d2=>?_)
 replace s2:=s1.trans s2
 show Code.wpIn (Fq none) 0 Y00 (Code.seq (sqL (rdT 2)) (rdT 3)) _ _ _
 refine Zb2 hOA' hcA h2 (hg.mono (Z3b s2.le)) s2.rel t2 (λtm3 H3 a3 W3 sn3 ι3 h3 s3 t3 d3=>?_)
 replace s3:=s2.trans s3
 have e3:a3.defers=[]:=d3.trans (d2.trans d1)
 clear hrd h1 h2 s1 s2 t1 t2 d1 d2 d3
 show Code.wpIn (Fq none) 0 Y00 (Code.seq (sqL (rdT 3)) (rdT 4)) _ _ _
 refine wpIn_seq ?_
 refine (wpIn_region_list (id:=4) (ops:=rgO (sqL (rdT 3))) ?_:Code.wpIn (Fq none) 0 Y00 (sqL (rdT 3)) _ _ _)
 unfold K3 at h3
 obtain⟨r,H4,hop,h3⟩:=Zei _ hcN h3
 obtain⟨tm4,hp4,rfl,h4⟩:=Z04 h3
 show wpListIn (Fq none) 0 Y00 _ _ ((rgO (sqL (rdT 3))).toList.headD default::[(rgO (sqL (rdT 3))).toList.getD 1 default]) _ _
 refine wpListIn_plain rfl λK hK=>?_
 refine Z3A (X:=λ_=>False) Z06 hON (hg.mono (Z3b s3.le)) s3.rel (Z15 (hg.mono (Z3b s3.le)) t3) hop (λv W4 sn4 ι4 hv s4=>hK _ _ ?_) (λch W' p=>p.no.elim)
 have t4:TRel sn4 ι4 tm4 (a3.put (some 16) v):=Z21 (t3.mono s4.le) hv hp4
 replace s4:=s3.trans (s4.q s3.rel)
 obtain⟨fp,rfl,hfp⟩:∃fp,v = .func (.func 54) #[] #[fp]/\VR sn4 ι4 (.ptr 1 0) fp:=by
  simp only[VR,LR]at hv⊢
  obtain⟨f,cc,rfl,h1,fp,l,h2,h3,rfl⟩:=hv
  have e1:f = #[]:=Y0D.1 h1
  have e2:cc = #[fp]:=Y0D.1 h2
  exact⟨fp,by rw[e1,e2],h3⟩
 have h16:(a3.put (some 16) (.func (.func 54) #[] #[fp])).tmps[16]? = some (.func (.func 54) #[] #[fp]):=by
  have:(a3.put (some 16) (.func (.func 54) #[] #[fp])).tmps[16]? = (a3.tmps.setIfInBounds 16 (.func (.func 54) #[] #[fp]))[16]?:=rfl
  obtain⟨g1,-,-⟩:=Z2Q _ _ _ _ hp4
  rw[this,Y0w,if_pos rfl,if_pos (t3.2 16 g1)]
 have hdst:((rgO (sqL (rdT 3))).toList.headD default).dst=some 16:=rfl
 rw[hdst]
 have ho:((rgO (sqL (rdT 3))).toList.getD 1 default).op = .defer { callee:=.value (.tmp 16),args:=#[],argTypes:=#[] }:=rfl
 have hod:((rgO (sqL (rdT 3))).toList.getD 1 default).dst=none:=rfl
 refine wpListIn_plain rfl λK2 hK2=>?_
 generalize (rgO (sqL (rdT 3))).toList.getD 1 default=o2 at *
 refine⟨λf _=>trivial,?_⟩
 have hrun:(Oper.semAt (Fq none).round (a3.put (some 16) (.func (.func 54) #[] #[fp])).eval o2).run Y00 W4 = .ok (.defer { target:=.fn (.func 54) #[fp],args:=#[] }) W4:=by
  have he:(a3.put (some 16) (.func (.func 54) #[] #[fp])).eval (.tmp 16) = .func (.func 54) #[] #[fp]:=by
   show (a3.put (some 16) (.func (.func 54) #[] #[fp])).tmps.getD 16 undef=_
   rw[Array.getD_eq_getD_getElem?,h16];rfl
  show (execOp (a3.put (some 16) (.func (.func 54) #[] #[fp])).eval o2).run Y00 W4=_
  simp only[execOp,ho,resolve,he,Array.map_empty,Deferred.ofValue]
  rfl
 rw[hrun,Oper.uponIn_defer]
 refine hK2 _ _ (wpListIn_nil ?_)
 generalize ha5:Act.put { a3.put (some 16) (.func (.func 54) #[] #[fp])with defers:={ target:=.fn (.func 54) #[fp],args:=#[] }::(a3.put (some 16) (.func (.func 54) #[] #[fp])).defers } o2.dst undef=a5
 have t5:TRel sn4 ι4 tm4 a5:=by rw[<- ha5,hod];exact⟨t4.1,t4.2⟩
 have e5:a5.defers=[{ target:=.fn (.func 54) #[fp],args:=#[] }]:=by
  rw[<- ha5,hod]
  show _::a3.defers=_
  rw[e3]
 show Code.wpIn (Fq none) 0 Y00 (Code.seq (sqL (rdT 4)) (rdT 5)) _ a5 W4
 refine Zb2 hON hcN h4 (hg.mono (Z3b s4.le)) s4.rel t5 (λtm5 H5 a6 W5 sn5 ι5 h5 s5 t6 d6=>?_)
 have e6:=d6.trans e5
 have hfp5:VR sn5 ι5 (.ptr 1 0) fp:=by
  simp only[VR]at hfp⊢
  obtain⟨q,q1,q2⟩:=hfp
  exact⟨q,s5.keep 1 q (by decide) q1,q2⟩
 replace s5:=s4.trans s5
 obtain⟨⟨rfl,h54⟩,h5⟩:=h5
 have hg5:=hg.mono (Z3b s5.le)
 have hkil:=Stp.kil s5.rel (λi _=>Y07 i 1)
 obtain⟨tm6,H6,hseq,h6⟩:=Z5j _ _ _ _ hcR h5
 have hnt:∀o∈(rgO (sqL (rdT 5))).toList,o.dst≠some 4:=by decide
 have pan : ∀ (a' : Act) (ch : List PanicEntry) (W' : World), a'.defers = a6.defers -> a'.tmps[4]? = a6.tmps[4]? -> a'.tmps.size = a6.tmps.size -> PanR (XF (Z49 T E)) sn5 ι5 (rdH ⟨true, 0, 0, .cells pc ty⟩ fD T 0 0) W5 ch W' ->
   bodyPostD Y00 Y0j (λe W1=>∃v sn' ι',e = .returned v/\VR sn' ι' (rdR T E) v/\Stq 1 sn ι [⟨true,0,0,.cells pc ty⟩] W sn' ι' [rdE T E pc' ty] W1) (.panic ch) a' W':=λa' ch W' k1 k2 k3 p =>
  ZkD s5 (λn hx=>by rw[k3];exact t6.2 n hx) h54 hfp5 (k1.trans e6) (by rw[k2];exact t6.1 4 _ h54) p
 show Code.wpIn (Fq none) 0 Y00 (Code.seq (sqL (rdT 5)) (rdT 6)) _ a6 W5
 refine wpIn_seq ?_
 refine (wpIn_region_list (id:=6) (ops:=rgO (sqL (rdT 5))) ?_:Code.wpIn (Fq none) 0 Y00 (sqL (rdT 5)) _ _ _)
 refine Z3X (t:=4) Z06 hOR (rgO (sqL (rdT 5))) _ _ _ _ _ a6 W5 sn5 ι5 hnt hseq hg5 hkil.rel t6 (λa7 W6 sn6 ι6 s6 t7 d7=>?_) pan
 rcases h6 with h6|h6
 ·exact (Z3U s6.rel h6).elim
 have e7:=d7.trans e6
 replace s6:Stq 2 sn5 ι5 (Znp 1 (rdH ⟨true,0,0,.cells pc ty⟩ fO T 0 0)) W5 sn6 ι6 H6 W6:=s6.q hkil.rel
 show Code.wpIn (Fq none) 0 Y00 (Code.seq (sqL (rdT 6)) (rdT 7)) _ a7 W6
 refine wpIn_seq ?_
 show Code.wpIn (Fq none) 0 Y00 (Code.seq (sqL (sqL (rdT 6))) (sqR (sqL (rdT 6)))) _ a7 W6
 unfold K6 at h6
 refine Zb2 hON hcN h6 (hg5.mono (Z3b s6.le)) s6.rel t7 (λtm7 H7 a8 W7 sn7 ι7 h7 s7 t8 d8=>?_)
 have e8:=d8.trans e7
 replace s7:=s6.trans s7
 unfold K7 at h7
 obtain⟨v,hv,h7⟩:=Z04 h7
 split at h7
 case h_2=>exact h7.elim
 rename_i t
 have hc:=(Z15 (hg5.mono (Z3b s7.le)) t8 _ _ hv).bool
 cases t with
 |true =>
  obtain⟨h74,h8⟩:=h7.1 rfl
  obtain⟨tm8,H8,hseq8,hd8⟩:=Z5j _ _ _ _ hcR h8
  refine wpIn_cond_true hc ?_
  refine (wpIn_region_list (id:=8) (ops:=rgO (match sqR (sqL (rdT 6))with | .cond _ a _=>a|c=>c)) ?_:Code.wpIn (Fq none) 0 Y00 (match sqR (sqL (rdT 6))with | .cond _ a _=>a|c=>c) _ _ _)
  refine Z3X (t:=4) Z06 hOR (rgO (match sqR (sqL (rdT 6))with | .cond _ a _=>a|c=>c)) _ _ _ _ _ a8 W7 sn7 ι7 (by decide) hseq8 (hg5.mono (Z3b s7.le)) s7.rel t8 (λa9 W8 sn8 ι8 s8 t9 d9=>(Z3U s8.rel hd8).elim) (λa' ch W' k1 k2 k3 p=>?_)
  refine ZkD s5 (λn hx=>by rw[k3];exact t8.2 n hx) h74 hfp5 (k1.trans e8) ?_ (p.backQ s7)
  rw[k2]
  obtain⟨y,y1,y2⟩:=t8.1 4 _ h74
  refine⟨y,y1,?_⟩
  simp only[VR]at y2 hfp5⊢
  obtain⟨q,q1,q2⟩:=y2
  obtain⟨q',q1',-⟩:=hfp5
  have:=s7.keep 1 q' (by decide) q1'
  rw[q1]at this
  cases this
  exact⟨q,q1',q2⟩
 |false =>
  obtain⟨⟨hx1,hx2⟩,h9⟩:=h7.2 rfl
  refine wpIn_cond_false hc (wpIn_skip ?_)
  show Code.wpIn (Fq none) 0 Y00 (rdT 7) _ a8 W7
  have s9:=Znk (k:=2) (b:=1) (o:=fO) s5.rel rfl rfl (by decide) rfl Zjs s7 hx1 rfl (λi y hi hy=>by
   by_cases h:i=1
   · subst h
     rw[hx1]at hi
     cases hi
     cases hy
   ·exact Zbu (k:=0) hx2 hi hy (by omega))
  rw[Z0n]at h9
  refine Z1Q (X:=λ_=>False) (rd:=none) follows Z06 hON hcN (rdT 7) h9 a8 W7 sn7 ι7 _ (hg5.mono (Z3b s7.le)) s9.rel t8 (λx tm9 H9 a9 W9 sn9 ι9 hx s10 t9 d9=>?_) (λa' ch W' hd p=>p.no.elim)
  cases x with
  |normal=>exact hx.elim
  |exit id=>exact hx.elim
  |ret =>
   obtain⟨⟨he,hk5⟩,h94,X,rfl⟩:=hx
   show Leaves Y00 Y0j a9.tmps _ a9.defers .returning W9
   exact Znl hpr' he hk5 (hE he).2 (Stq.one (s5.trans (s9.trans s10)) (by decide)) t9 h94 (d9.trans e8)
end
end Go.Proofs.YtneoiadnbikciaaGreatDoor.lex
namespace Go.Proofs.YtneoiadnbikciaaGreatDoor.lex.pg
open Go.Abs Go.RowKit
section
variable {gl:Z0g}
theorem Zet(n:Int):ValOK Y00 gl 123 [.int .u8 n] (.bool (Z7m n)):=by
 refine Z0B follows Z06 Z0u Tryz.func123 rfl ?_
 repeat' ((conv=>whnf);first|refine stp ?_|with_reducible apply Z01<;>intro h)
 all_goals (try simp_all[Z0Z,Z7m])
 all_goals omega
theorem ZeO(n:Int):ValOK Y00 gl 125 [.int .u8 n] (.bool (Z1d n)):=by
 refine Z0B follows Z06 Z0u Tryz.func125 rfl ?_
 repeat' ((conv=>whnf);first|refine stp ?_|with_reducible apply Z01<;>intro h)
 all_goals (try simp_all[Z0Z,Z1d])
 all_goals omega
theorem Zl9(n:Int):ValOK Y00 gl 113 [.int .u8 n] (.bool (Z4u n)):=by
 refine Z0B follows Z06 Z0u Tryz.func113 rfl ?_
 repeat' ((conv=>whnf);first|refine stp ?_|with_reducible apply Z01<;>intro h)
 all_goals (try simp_all[Z0Z,Z4u])
theorem Zaf(n:Int):ValOK Y00 gl 67 [.int .u8 n] (.bool (Z7m n)):=by
 refine Z0B follows Z06 Z0u Tryz.func67 rfl ?_
 repeat' ((conv=>whnf);first|refine stp ?_|with_reducible apply Z01<;>intro h)
 all_goals (try simp_all[Z0Z,Z7m])
 all_goals omega
theorem ZaF(n:Int):ValOK Y00 gl 68 [.int .u8 n] (.bool (Z1d n)):=by
 refine Z0B follows Z06 Z0u Tryz.func68 rfl ?_
 repeat' ((conv=>whnf);first|refine stp ?_|with_reducible apply Z01<;>intro h)
 all_goals (try simp_all[Z0Z,Z1d])
 all_goals omega
theorem Zdp(n:Int):ValOK Y00 gl 30 [.int .u8 n] (.bool (Z4u n)):=by
 refine Z0B follows Z06 Z0u Tryz.func30 rfl ?_
 repeat' ((conv=>whnf);first|refine stp ?_|with_reducible apply Z01<;>intro h)
 all_goals (try simp_all[Z0Z,Z4u])
theorem Zhx(n:Int):ValOK Y00 gl 115 [.int .u8 n] (.bool (n != 10)):=by
 refine Z0B follows Z06 Z0u Tryz.func115 rfl ?_
 repeat' ((conv=>whnf);first|refine stp ?_|with_reducible apply Z01<;>intro h)
 all_goals (try simp_all[Z0Z])
def F1(f:Nat)(xs:List AV):Option AV:=match f with
 |123=>match xs with|[.int .u8 n]=>some (.bool (Z7m n))|_=>none
 |125=>match xs with|[.int .u8 n]=>some (.bool (Z1d n))|_=>none
 |113=>match xs with|[.int .u8 n]=>some (.bool (Z4u n))|_=>none
 |67=>match xs with|[.int .u8 n]=>some (.bool (Z7m n))|_=>none
 |68=>match xs with|[.int .u8 n]=>some (.bool (Z1d n))|_=>none
 |30=>match xs with|[.int .u8 n]=>some (.bool (Z4u n))|_=>none
 |115=>match xs with|[.int .u8 n]=>some (.bool (n != 10))|_=>none
 |_=>none
theorem Z7S:OrcSound Y00 gl (Z7H F1):=Z0V λf xs r h=>by
 unfold F1 at h
 split at h<;>try (cases h;done)
 all_goals (split at h<;>cases h)
 ·exact⟨rfl,Zet _⟩
 ·exact⟨rfl,ZeO _⟩
 ·exact⟨rfl,Zl9 _⟩
 ·exact⟨rfl,Zaf _⟩
 ·exact⟨rfl,ZaF _⟩
 ·exact⟨rfl,Zdp _⟩
 ·exact⟨rfl,Zhx _⟩
theorem Z9R(n:Int):ValOK Y00 gl 124 [.int .u8 n] (.bool (Zcq n)):=by
 refine Z0B follows Z06 Z7S Tryz.func124 rfl ?_
 repeat' ((conv=>whnf);first|refine stp ?_|with_reducible apply Z01<;>intro h)
 all_goals (try simp_all[Z0Z,Zcq])
def F2(f:Nat)(xs:List AV):Option AV:=match f with
 |124=>match xs with|[.int .u8 n]=>some (.bool (Zcq n))|_=>none
 |f=>F1 f xs
theorem Z9M{f:Nat}{xs:List AV}{r:AV}(h:F2 f xs=some r):plain r=true/\ValOK Y00 gl f xs r:=by
 unfold F2 at h
 split at h
 · split at h<;>cases h
   exact⟨rfl,Z9R _⟩
 · have:=h
   unfold F1 at h
   split at h<;>try (cases h;done)
   all_goals (split at h<;>cases h)
   ·exact⟨rfl,Zet _⟩
   ·exact⟨rfl,ZeO _⟩
   ·exact⟨rfl,Zl9 _⟩
   ·exact⟨rfl,Zaf _⟩
   ·exact⟨rfl,ZaF _⟩
   ·exact⟨rfl,Zdp _⟩
   ·exact⟨rfl,Zhx _⟩
theorem ZaZ:OrcSound Y00 gl (Z7H F2):=Z0V λf xs r h=>Z9M h
theorem Z39 (g : Nat) (p : Int -> Bool) (hF : ∀ n, F2 g [.int .u8 n] = some (.bool (p n))) (hb : Z0h Y00 g = true) (s : List UInt8) (hs : s.length <= 9223372036854775807) :
  ValOK Y00 gl 112 [.str s,.func (.func g) [] []] (.int .i64 (Z0j p s)):=by
 refine Z0B follows Z06 ZaZ Tryz.func112 rfl ?_
 conv=>whnf
 refine⟨Nat,(λk=>k<=s.length/\Z0j p s=k+Z0j p (s.drop k)),(λk=>[(0,.str s),(1,.func (.func g) [] []),(5,.int .i64 k)]),(λ_=>[]),(λk=>s.length-k),⟨0,⟨Y0e _,by simp⟩,?_⟩,?_⟩
 · refine Y0i rfl ?_
   refine Y0g (Y01 rfl) ?_
   refine Y0g (Y01 rfl) ?_
   refine Y0g (Y01 rfl) ?_
   trivial
 · intro k ⟨hk,hsp⟩
   by_cases hlt:k<s.length
   · have e1:decide ((k:Int)<(s.length:Int))=true:=by simpa using hlt
     have hc:s[k]? = some s[k]:=by simp[hlt]
     have hd:s.drop k=s[k]::s.drop (k+1):=List.drop_eq_getElem_cons hlt
     cases hp:p s[k].toNat with
     |true =>
      repeat' ((conv=>whnf);first|with_reducible refine ixS _ rfl hc ?_|with_reducible refine exI (Z25 hb rfl (hF _)) ?_|refine stp ?_|with_reducible apply Z01<;>intro h)
      (conv=>whnf)
      have hn:=Z13 (s.drop (k+1)) hp
      rw[<- hd]at hn
      exact⟨k+1,⟨hlt,by omega⟩,by show s.length-(k+1)<s.length-k;omega,Y0i rfl ⟨Y01 rfl,Y01 rfl,Y03 rfl,trivial⟩⟩
     |false =>
      repeat' ((conv=>whnf);first|with_reducible refine ixS _ rfl hc ?_|with_reducible refine exI (Z25 hb rfl (hF _)) ?_|refine stp ?_|with_reducible apply Z01<;>intro h)
      have hn:=Z0Y (s.drop (k+1)) hp
      rw[<- hd]at hn
      rw[hsp,hn];rfl
   · have e1:decide ((k:Int)<(s.length:Int))=false:=by simpa using hlt
     have hk':k=s.length:=by omega
     repeat' ((conv=>whnf);first|refine stp ?_|with_reducible apply Z01<;>intro h)
     rw[hsp,hk'];simp[Z0Z,Z0j]
def Zlz(g:Nat)(s:List UInt8):Option AV:=match g with
 |124=>some (.int .i64 (Z0j Zcq s))
 |125=>some (.int .i64 (Z0j Z1d s))
 |113=>some (.int .i64 (Z0j Z4u s))
 |115=>some (.int .i64 (Z0j (· != 10) s))
 |_=>none
def F3(f:Nat)(xs:List AV):Option AV:=match f with
 |112=>match xs with
  |[.str s,.func (.func g) [] []]=>if s.length<=9223372036854775807 then Zlz g s else none
  |_=>none
 |f=>F2 f xs
theorem Z1Y:OrcSound Y00 gl (Z7H F3):=Z0V λf xs r h=>by
 unfold F3 at h
 split at h
 · split at h<;>try (cases h;done)
   split at h<;>try (cases h;done)
   rename_i hs
   unfold Zlz at h
   split at h<;>cases h
   ·exact⟨rfl,Z39 124 Zcq (λ_=>rfl) (by kernel_rfl) _ hs⟩
   ·exact⟨rfl,Z39 125 Z1d (λ_=>rfl) (by kernel_rfl) _ hs⟩
   ·exact⟨rfl,Z39 113 Z4u (λ_=>rfl) (by kernel_rfl) _ hs⟩
   ·exact⟨rfl,Z39 115 (· != 10) (λ_=>rfl) (by kernel_rfl) _ hs⟩
 · have hk:plain r=true/\ValOK Y00 gl f xs r:=Z9M h
   exact hk
theorem Zcp(s:List UInt8)(hs:s.length<=9223372036854775807):ValOK Y00 gl 116 [.str s] (.int .i64 (Z0d s)):=by
 match s with
 |[] =>
  refine Z0B follows Z06 Z1Y Tryz.func116 rfl ?_
  repeat' ((conv=>whnf);first|refine stp ?_|with_reducible apply Z01<;>intro h)
  all_goals (try simp_all[Z0Z,Z0d])
 |c::s =>
  have h1:((c::s)==[])=false:=by simp
  have h2:(c::s)[0]? = some c:=rfl
  refine Z0B follows Z06 Z1Y Tryz.func116 rfl ?_
  repeat' ((conv=>whnf);first|with_reducible refine ixS 0 rfl h2 ?_|refine stp ?_|with_reducible apply Z01<;>intro h)
  all_goals (try (simp_all[Z0Z,Z0d];done))
theorem Ze2:∀s,skip false s=Z0j Z4u s+skip false (s.drop (Z0j Z4u s))
 |[]=>by simp[skip,Z0j]
 |c::s=>by
  cases hc:Z4u c.toNat with
  |true=>rw[Z13 s hc];simp[skip,hc,-Y0n];rw[Ze2 s];omega
  |false=>rw[Z0Y s hc];simp
theorem Zje{s:List UInt8}(h:s.take 2=[47,47]):skip false s=skip true s/\0<Z0j (· != 10) s:=by
 match s with
 |[]=>simp at h
 |[a]=>simp at h
 |a::b::s =>
  simp at h
  obtain⟨rfl,rfl⟩:=h
  refine⟨?_,?_⟩
  · have:Z4u ((47:UInt8).toNat:Int)=false:=by decide
    simp at this;simp[skip,this]
  ·rw[Z13 _ (by decide)];omega
theorem Ze1{s:List UInt8}(hb:Z0j Z4u s=0)(h:¬s.take 2=[47,47]):skip false s=0:=by
 match s with
 |[]=>simp[skip]
 |c::s =>
  cases hc:Z4u c.toNat with
  |true=>rw[Z13 s hc]at hb;omega
  |false =>
   have:¬(c=47/\s.head? = some 47):=by
    rintro⟨rfl,h2⟩
    match s with
    |[]=>simp at h2
    |a::s=>simp at h2;subst h2;simp at h
   simp[skip,hc,this]
theorem ZnR(s:List UInt8)(hs:s.length<=9223372036854775807):ValOK Y00 gl 98 [.str s] (.int .i64 (skip false s)):=by
 refine Z1z (λg=>g != 114&&g != 122) 2 follows Z06 Z1Y Tryz.func98 rfl ?_
 conv=>whnf
 refine⟨Nat,(λk=>k<=s.length/\skip false s=k+skip false (s.drop k)),(λk=>[(0,.str s),(3,.int .i64 k)]),(λ_=>[]),(λk=>s.length-k),⟨0,⟨Y0e _,by simp⟩,?_⟩,?_⟩
 · refine Y0i rfl ?_
   refine Y0g (Y01 rfl) ?_
   refine Y0g (Y01 rfl) ?_
   trivial
 · intro k ⟨hk,hsk⟩
   have h1:Z0j Z4u (s.drop k)<=s.length-k:=by have:=Z2S Z4u (s.drop k);simpa using this
   have h1':(s.drop k).length<=9223372036854775807:=by simp;omega
   have h2:=Ze2 (s.drop k)
   have h3:=Z9g Z4u (s.drop k)
   rw[Y0n]at h2 h3
   have h5:Z0j (· != 10) (s.drop (k+Z0j Z4u (s.drop k)))<=s.length-(k+Z0j Z4u (s.drop k)):=by have:=Z2S (· != 10) (s.drop (k+Z0j Z4u (s.drop k)));simpa using this
   have h6:=Ze0 (s.drop (k+Z0j Z4u (s.drop k)))
   rw[Y0n]at h6
   repeat' ((conv=>whnf);first|(with_reducible refine Zpu 2 ?_ ?_ ?_;(focus (decide));(focus (simp at h⊢;omega)))|refine stp ?_|with_reducible apply Z01<;>intro h)
   · have:=Ze1 h3 (by simpa using h)
     show AV.int .i64 _=_
     rw[hsk,h2,this];rfl
   · conv=>whnf
     obtain⟨h7,h8⟩:=Zje (s:=s.drop (k+Z0j Z4u (s.drop k))) (by simpa using h)
     refine⟨k+Z0j Z4u (s.drop k)+Z0j (· != 10) (s.drop (k+Z0j Z4u (s.drop k))),⟨by omega,by omega⟩,by show s.length-(_)<s.length-k;omega,Y0i rfl ⟨Y01 rfl,Y03 rfl,trivial⟩⟩
   · have := Ze1 h3 (by
      simp at h
      intro he
      have:=congrArg List.length he
      simp at this;omega)
     show AV.int .i64 _=_
     rw[hsk,h2,this];rfl
def sgnL:List UInt8:=[124,38,61,33,60,43,45,42,94,40,41,123,125,44,59]
theorem ZkL(b:UInt8):∀(l:List UInt8)(k:Nat),decide (ixB b l k >= (0:Int))=l.contains b
 |[],k=>by simp[ixB]
 |c::l,k=>by
  have ih:=ZkL b l (k+1)
  by_cases h:c=b
  ·subst h;simp[ixB]
  · have h':¬b=c:=λe=>h e.symm
    have h2:(c.toNat.beq b.toNat)=false:=by
     cases e:c.toNat.beq b.toNat with
     |false=>rfl
     |true=>exact absurd (UInt8.toNat_inj.1 (Y0E e)) h
    unfold ixB
    rw[h2]
    simp[h']at ih⊢
    exact ih
theorem Zni(c:UInt8):decide (ixB (UInt8.ofNat c.toNat) { data:=#[124,38,61,33,60,43,45,42,94,40,41,123,125,44,59]:ByteArray }.data.toList 0 >= (0:Int))=sgnL.contains c:=by
 rw[ZkL];simp[sgnL]
theorem Zjj(c:UInt8):ValOK Y00 gl 118 [.str [c]] (.int .i64 (Z0q [c])):=by
 have h2:([c])[0]? = some c:=rfl
 have s0:=Zni c
 have e1:=Z6r c 124 (by decide)
 have e2:=Z6r c 38 (by decide)
 have e3:=Z6r c 61 (by decide)
 have e4:=Z6r c 33 (by decide)
 have e5:=Z6r c 60 (by decide)
 refine Z1z (λg=>g != 127&&g != 130) 2 follows Z06 Z1Y Tryz.func118 rfl ?_
 repeat' ((conv=>whnf);first|with_reducible refine ixS 0 rfl h2 ?_|refine stp ?_|with_reducible apply Z01<;>intro h)
 all_goals show AV.int .i64 _=AV.int .i64 _
 all_goals congr 1
 all_goals (first|(exfalso;simp at *;omega)|(simp_all[Z0q,sgnL];done)|(have h0:c=0:=(by apply UInt8.toNat_inj.1;simp at *;omega);subst h0;first|(exfalso;revert h;decide)|decide))
theorem Zji(c d:UInt8)(t:List UInt8)(hs:(c::d::t).length<=9223372036854775807):ValOK Y00 gl 118 [.str (c::d::t)] (.int .i64 (Z0q (c::d::t))):=by
 have h2:(c::d::t)[0]? = some c:=rfl
 have h3:(c::d::t)[1]? = some d:=rfl
 have h4:decide (((c::d::t).length:Int)>1)=true:=by simp;omega
 have s0:=Zni c
 have e1:=Z6r c 124 (by decide)
 have e2:=Z6r c 38 (by decide)
 have e3:=Z6r c 61 (by decide)
 have e4:=Z6r c 33 (by decide)
 have e5:=Z6r c 60 (by decide)
 have e6:=Z6r d 61 (by decide)
 have e7:((d.toNat:Int)==(c.toNat:Int))=(d==c):=by
  by_cases e:d=c
  ·subst e;simp
  · have:d.toNat≠c.toNat:=λe'=>e (UInt8.toNat_inj.1 e')
    rw[beq_eq_false_iff_ne.2 e,beq_eq_false_iff_ne];omega
 refine Z1z (λg=>g != 127&&g != 130) 2 follows Z06 Z1Y Tryz.func118 rfl ?_
 repeat' ((conv=>whnf);first|with_reducible refine ixS 0 rfl h2 ?_|with_reducible refine ixS 1 rfl h3 ?_|refine stp ?_|with_reducible apply Z01<;>intro h)
 all_goals show AV.int .i64 _=AV.int .i64 _
 all_goals congr 1
 all_goals (first|(exfalso;simp at *;omega)|(simp_all[Z0q,sgnL];done))
theorem ZlB(s:List UInt8)(hs:s.length<=9223372036854775807)(h0:s≠[]):ValOK Y00 gl 118 [.str s] (.int .i64 (Z0q s)):=by
 match s with
 |[]=>exact absurd rfl h0
 |[c]=>exact Zjj c
 |c::d::t=>exact Zji c d t hs
end
section
variable {gl:Z0g}
def puR(n:Nat):AV:=if n<18446744073709551616 then .tuple [.int .u64 n,.niface] else .tuple [.int .u64 18446744073709551615,.iface 154 (.int .i64 1)]
theorem ZgQ{n:Nat}(h:18446744073709551616<=n):AV.tuple [AV.int IntKind.u64 18446744073709551615,AV.iface 154 (AV.int IntKind.i64 1)]=puR n:=by
 unfold puR;rw[if_neg (by omega)]
theorem ZoF(l:List UInt8)(h0:l≠[])(hl:l.length<=9223372036854775807)(hd:∀c∈l,Z1d c.toNat=true):ValOK Y00 gl 131 [.str l,.int .i64 10,.int .i64 64] (puR (Z56 l)):=by
 have h1:(l==[])=false:=by simpa using h0
 refine Z0B follows Z06 Z1Y Tryz.func131 rfl ?_
 repeat' ((conv=>whnf);first|refine stp ?_|with_reducible apply Z01<;>intro h)
 conv=>whnf
 refine⟨Nat,(λk=>k<=l.length/\Z56 (l.take k)<18446744073709551616),(λk=>[(1,.int .i64 10),(8,.bool false),(10,.int .u64 1844674407370955162),(11,.int .u64 18446744073709551615),(12,.bool false),(13,.int .u64 (Z56 (l.take k))),(99,.rs l.length 1 (l.map λb=>.int .u8 b.toNat)),(100,.int .i64 l.length),(101,.int .i64 k)]),(λ_=>[]),(λk=>l.length-k),⟨0,⟨Y0e _,by simp[Z56]⟩,?_⟩,?_⟩
 ·exact Y0i rfl ⟨Y03 rfl,Y01 rfl,Y03 rfl,Y03 rfl,Y01 rfl,Y03 rfl,Y01 rfl,Y03 rfl,Y03 rfl,trivial⟩
 · intro k ⟨hk,hv⟩
   by_cases hlt:k<l.length
   · have e1:decide ((k:Int)<(l.length:Int))=true:=by simpa using hlt
     have hc:tk 1 (List.drop (k*1) (l.map λb=>AV.int .u8 b.toNat))=some [AV.int .u8 l[k].toNat]:=by
      rw[Nat.mul_one,List.drop_eq_getElem_cons (by simpa using hlt)];simp[tk]
     have hdk:48<=l[k].toNat/\l[k].toNat<=57:=by have:=hd l[k] (Y0G hlt);simp[Z1d]at this;omega
     have hm1:=Zb7 l k hlt
     have hm2:=Zb8 l l.length (Y0a _) (k+1) hlt
     rw[Y0m]at hm2
     generalize hcc:l[k].toNat=c at *
     repeat' ((conv=>whnf);first|with_reducible refine exI hc ?_|refine stp ?_|with_reducible apply Z01<;>intro h)
     ·exfalso;simp only[IntKind.wrap_u8,decide_eq_true_eq]at h;omega
     ·refine ZgQ ?_;simp only[decide_eq_true_eq]at h;omega
     ·rename_i g;refine ZgQ ?_;simp only[decide_eq_true_eq,decide_eq_false_iff_not,Zoi,IntKind.wrap_u8]at h g;omega
     ·rename_i g _;simp only[decide_eq_true_eq,decide_eq_false_iff_not,Zoi,IntKind.wrap_u8]at h g;omega
     · rename_i g1 g2 g3
       conv=>whnf
       have e:IntKind.u64.wrap (IntKind.u64.wrap (↑(Z56 (List.take k l))*IntKind.u64.wrap 10)+IntKind.u64.wrap (IntKind.u8.wrap (↑c-48)))=(Z56 (l.take (k+1)):Int):=by
        simp only[decide_eq_true_eq,decide_eq_false_iff_not,Zoi,IntKind.wrap_u8]at g2 g3 h⊢;omega
       have e':Z56 (l.take (k+1))<18446744073709551616:=by
        simp only[decide_eq_true_eq,decide_eq_false_iff_not,Zoi,IntKind.wrap_u8]at g2 g3 h e;omega
       rw[e]
       exact⟨k+1,⟨hlt,e'⟩,by show l.length-(k+1)<l.length-k;omega,Y0i rfl ⟨Y03 rfl,Y01 rfl,Y03 rfl,Y03 rfl,Y01 rfl,Y03 rfl,Y01 rfl,Y03 rfl,Y03 rfl,trivial⟩⟩
   · have e1:decide ((k:Int)<(l.length:Int))=false:=by simpa using hlt
     have hk':k=l.length:=by omega
     repeat' ((conv=>whnf);first|refine stp ?_|with_reducible apply Z01<;>intro h)
     rw[hk',Y0m]at hv⊢
     unfold puR;rw[if_pos hv]
theorem u60:Y00.underlying 162=some (.slice 5):=by kernel_rfl
theorem z5:tsz Y00 5=some 1:=by kernel_rfl
theorem ze5:Z47 Y00 5=some (.int .u8 0):=by kernel_rfl
theorem i5:(Y00.info? 5).map (·.bytes)=some 1:=by kernel_rfl
theorem ZoK(n:Nat)(h0:n≠0)(h:n<=1099511627776):Z2t Y00 162 (.int .i64 n) (.int .i64 n) []=some (.slice 0 0 n n 1,[⟨true,0,0,.cells (Zck n [.int .u8 0]) 5⟩]):=by
 have i5:=i5
 cases hi:Y00.info? 5 with
 |none=>rw[hi]at i5;cases i5
 |some i =>
  rw[hi]at i5
  simp only[Option.map_some,Option.some.injEq]at i5
  simp only[Z2t,Zbq,u60,z5,hi,i5,ze5]
  rw[if_pos ⟨by omega,by omega,by omega,by omega⟩,if_neg (by simp;omega)]
  simp[AV.cells,Z73]
theorem Zjn(n:Nat)(v:AV):(Zck n [v]).length=n:=by
 induction n with
 |zero=>rfl
 |succ n ih=>simp[Zck,ih]
theorem Zgw:∀{cs vs:List AV},cs.length=vs.length->spl cs 0 vs=some vs
 |[],[],_=>rfl
 |c::cs,v::vs,h=>by simp only[spl];rw[Zgw (by simpa using h)]
 |[],_::_,h=>by simp at h
 |_::_,[],h=>by simp at h
theorem Z81:∀(l:List AV),tk l.length l=some l
 |[]=>rfl
 |c::l=>by simp only[Y09,tk];rw[Z81 l]
theorem Zp4(s:List UInt8)(h0:s≠[]):ZiB Y00 162 (.slice 0 0 s.length s.length 1) (.str s) [⟨true,0,0,.cells (Zck s.length [.int .u8 0]) 5⟩]=some (.int .i64 s.length,[⟨true,0,0,.cells (s.map λb=>.int .u8 b.toNat) 5⟩]):=by
 have hl:s.length≠0:=λe=>h0 (by simpa using e)
 simp only[ZiB,u60,z5,Z43,if_true]
 have hm:Nat.min s.length s.length=s.length:=Y0x _
 have ht:tk (s.length*1) (s.map λb=>AV.int .u8 b.toNat)=some (s.map λb=>AV.int .u8 b.toNat):=by
  have:=Z81 (s.map λb=>AV.int .u8 b.toNat)
  simpa using this
 rw[hm,if_neg hl,ht]
 have ho:(s.map λb=>AV.int .u8 b.toNat).all one=true:=by simp[List.all_eq_true,one]
 simp only[wr,Y0C,ho,if_true]
 rw[Zgw (by rw[Zjn];simp)]
 rfl
theorem ZeU:∀(s:List UInt8),Z34 (s.map λb=>AV.int .u8 b.toNat)=some s
 |[]=>rfl
 |b::s=>by
  have h:Nat.blt b.toNat 256=true:=by have:=b.toNat_lt;simp[Nat.blt];omega
  show (if Nat.blt b.toNat 256 then (match Z34 (s.map λb=>AV.int .u8 b.toNat) with|some r=>some (UInt8.ofNat b.toNat::r)|none=>none) else none)=_
  rw[if_pos h,ZeU s];simp
theorem Zoy(t:TypeId)(ht:Y00.underlying t=some (.pointer 5))(s:List UInt8)(h0:s≠[])(h:s.length<=1099511627776):Ziz Y00 t (.ptr 0 0) s.length [⟨true,0,0,.cells (s.map λb=>.int .u8 b.toNat) 5⟩]=some (.str s,[AObj.dead ⟨true,0,0,.cells (s.map λb=>.int .u8 b.toNat) 5⟩]):=by
 have hc:Y00.cellsOf 5=1:=by kernel_rfl
 cases s with
 |nil=>exact absurd rfl h0
 |cons b s =>
  have ht':=Z81 ((b::s).map λb=>AV.int .u8 b.toNat)
  rw[List.length_map]at ht'
  have hb:=ZeU (b::s)
  have hle:Nat.ble (s.length+1) 9223372036854775807=true:=by simp at h⊢;omega
  simp only[Y09,Ziz,Y0C,ht,hc,hle]
  simp only[Y09]at ht'
  rw[ht',if_pos (by decide)]
  generalize ((b::s).map λb=>AV.int .u8 b.toNat)=m at *
  simp only[hb]
  rfl
theorem u72:Y00.underlying 168=some (.pointer 5):=by kernel_rfl
theorem Zki(s:List UInt8)(hs:s.length<=1099511627776):ValOK Y00 gl 139 [.str s] (.str s):=by
 by_cases h0:s=[]
 · subst h0
   refine Z0B follows Z06 Z1Y Tryz.func139 rfl ?_
   repeat' ((conv=>whnf);first|refine stp ?_|with_reducible apply Z01<;>intro h)
   rfl
 · have hl:s.length≠0:=λe=>h0 (by simpa using e)
   have e1:((s.length:Int)==0)=false:=by simp;exact h0
   refine Z0B follows Z06 Z1Y Tryz.func139 rfl ?_
   repeat' ((conv=>whnf);first|refine exI (ZoK s.length hl hs) ?_|refine exI (Zp4 s h0) ?_|refine exI (Zoy 168 u72 s h0 hs) ?_|refine stp ?_|with_reducible apply Z01<;>intro h)
   rfl
end
section
variable {gl:Z0g}
theorem Zch{f:Nat}{xs:List AV}{r:AV}(h:F3 f xs=some r):plain r=true/\ValOK Y00 gl f xs r:=by
 unfold F3 at h
 split at h
 · split at h<;>try (cases h;done)
   split at h<;>try (cases h;done)
   rename_i hs
   unfold Zlz at h
   split at h<;>cases h
   ·exact⟨rfl,Z39 124 Zcq (λ_=>rfl) (by kernel_rfl) _ hs⟩
   ·exact⟨rfl,Z39 125 Z1d (λ_=>rfl) (by kernel_rfl) _ hs⟩
   ·exact⟨rfl,Z39 113 Z4u (λ_=>rfl) (by kernel_rfl) _ hs⟩
   ·exact⟨rfl,Z39 115 (· != 10) (λ_=>rfl) (by kernel_rfl) _ hs⟩
 ·exact Z9M h
theorem ZgS(n:Nat):plain (puR n)=true:=by unfold puR;split<;>rfl
def F4(f:Nat)(xs:List AV):Option AV:=match f with
 |131=>match xs with
  |[.str s,.int .i64 10,.int .i64 64]=>if Zmy s then some (puR (Z56 s)) else none
  |_=>none
 |f=>F3 f xs
theorem Zfb{f:Nat}{xs:List AV}{r:AV}(h:F4 f xs=some r):plain r=true/\ValOK Y00 gl f xs r:=by
 unfold F4 at h
 split at h
 · split at h<;>try (cases h;done)
   split at h<;>cases h
   rename_i hd
   obtain⟨h1,h2,h3⟩:=Zi6 hd
   exact⟨ZgS _,ZoF _ h1 h2 h3⟩
 ·exact Zch h
theorem Z6p:OrcSound Y00 gl (Z7H F4):=Z0V λf xs r h=>Zfb h
def piR(n:Nat):AV:=if n<9223372036854775808 then .tuple [.int .i64 n,.niface] else .tuple [.int .i64 9223372036854775807,.iface 154 (.int .i64 1)]
theorem ZgU{n:Nat}(h:n<9223372036854775808):piR n = .tuple [.int .i64 n,.niface]:=by unfold piR;rw[if_pos h]
theorem ZgV{n:Nat}(h:¬n<9223372036854775808):piR n = .tuple [.int .i64 9223372036854775807,.iface 154 (.int .i64 1)]:=by unfold piR;rw[if_neg h]
theorem w63:IntKind.u64.wrap (1*2 ^ min (IntKind.u64.wrap (64-1)).toNat IntKind.u64.bits)=9223372036854775808:=by decide
theorem Zpj:IntKind.i64.wrap (IntKind.u64.wrap (9223372036854775808-1))=9223372036854775807:=by decide
theorem ZoG(l:List UInt8)(hd:Zmy l=true):ValOK Y00 gl 128 [.str l,.int .i64 10,.int .i64 64] (piR (Z56 l)):=by
 obtain⟨h1,h2,h3⟩:=Zi6 hd
 have hb:Z0h Y00 131=true:=by kernel_rfl
 have e0:F4 131 [.str l,.int .i64 10,.int .i64 64]=some (puR (Z56 l)):=by simp only[F4];rw[if_pos hd]
 have e1:(l==[])=false:=by simpa using h1
 obtain⟨c,t,rfl⟩:∃c t,l=c::t:=by cases l with|nil=>exact absurd rfl h1|cons c t=>exact⟨c,t,rfl⟩
 have hc:=h3 c (by simp)
 simp only[Z1d,Y0s,decide_eq_true_eq]at hc
 have hc0:(c::t)[0]? = some c:=rfl
 have n1:((c.toNat:Int)==43)=false:=by simp;omega
 have n2:((c.toNat:Int)==45)=false:=by simp;omega
 by_cases h63:Z56 (c::t)<9223372036854775808
 · rw[ZgU h63]
   have e2:F4 131 [.str (c::t),.int .i64 10,.int .i64 64]=some (.tuple [.int .u64 (Z56 (c::t)),.niface]):=by rw[e0];unfold puR;rw[if_pos (by omega)]
   generalize Z56 (c::t)=v at *
   refine Z0B follows Z06 Z6p Tryz.func128 rfl ?_
   repeat' ((conv=>whnf);first|with_reducible refine ixS 0 rfl hc0 ?_|with_reducible refine exI (Z25 hb rfl e2) ?_|refine stp ?_|with_reducible apply Z01<;>intro h)
   ·exfalso;rw[w63]at h;simp only[decide_eq_true_eq]at h;omega
   ·rw[IntWalk.i64_in _ ⟨by omega,by omega⟩]
 · rw[ZgV h63]
   by_cases h64:Z56 (c::t)<18446744073709551616
   · have e2:F4 131 [.str (c::t),.int .i64 10,.int .i64 64]=some (.tuple [.int .u64 (Z56 (c::t)),.niface]):=by rw[e0];unfold puR;rw[if_pos (by omega)]
     generalize Z56 (c::t)=v at *
     refine Z0B follows Z06 Z6p Tryz.func128 rfl ?_
     repeat' ((conv=>whnf);first|with_reducible refine ixS 0 rfl hc0 ?_|with_reducible refine exI (Z25 hb rfl e2) ?_|refine stp ?_|with_reducible apply Z01<;>intro h)
     ·rw[w63,Zpj]
     ·exfalso;rw[w63]at h;simp only[decide_eq_false_iff_not]at h;omega
   · have e2:F4 131 [.str (c::t),.int .i64 10,.int .i64 64]=some (.tuple [.int .u64 18446744073709551615,.iface 154 (.int .i64 1)]):=by rw[e0];unfold puR;rw[if_neg (by omega)]
     refine Z0B follows Z06 Z6p Tryz.func128 rfl ?_
     repeat' ((conv=>whnf);first|with_reducible refine ixS 0 rfl hc0 ?_|with_reducible refine exI (Z25 hb rfl e2) ?_|refine stp ?_|with_reducible apply Z01<;>intro h)
     ·rw[w63,Zpj]
theorem ZgT(n:Nat):plain (piR n)=true:=by unfold piR;split<;>rfl
def F5(f:Nat)(xs:List AV):Option AV:=match f with
 |128=>match xs with
  |[.str s,.int .i64 10,.int .i64 64]=>if Zmy s then some (piR (Z56 s)) else none
  |_=>none
 |139=>match xs with
  |[.str s]=>if s.length<=1099511627776 then some (.str s) else none
  |_=>none
 |f=>F4 f xs
theorem ZiL{f:Nat}{xs:List AV}{r:AV}(h:F5 f xs=some r):plain r=true/\ValOK Y00 gl f xs r:=by
 unfold F5 at h
 split at h
 · split at h<;>try (cases h;done)
   split at h<;>cases h
   rename_i hd
   exact⟨ZgT _,ZoG _ hd⟩
 · split at h<;>try (cases h;done)
   split at h<;>cases h
   rename_i hd
   exact⟨rfl,Zki _ hd⟩
 ·exact Zfb h
theorem Zfa:OrcSound Y00 gl (Z7H F5):=Z0V λf xs r h=>ZiL h
theorem Znu(s:List UInt8)(hs:s.length<=1099511627776):ValOK Y00 runLives.gl 117 [.str s] (.tuple [.int .i64 (Z1B s).1,.int .i64 (Z1B s).2]):=by
 refine Z1z (λg=>Y07 g 112 || Y07 g 123 || Y07 g 128 || Y07 g 139) 4 follows Z06 Zfa Tryz.func117 rfl ?_
 have h1:=Z2S Z1d s
 by_cases hz:Z0j Z1d s=0
 · have e1:((Z0j Z1d s:Int)==0)=true:=by simp[hz]
   repeat' ((conv=>whnf);first|refine stp ?_|with_reducible apply Z01<;>intro h)
   unfold Z1B;simp[hz]
 · have hdg:=Zi5 (s:=s) (by omega) (by omega)
   have e0:F5 128 [.str (s.take (Z0j Z1d s)),.int .i64 10,.int .i64 64]=some (piR (Z56 (s.take (Z0j Z1d s)))):=by simp only[F5];rw[if_pos hdg]
   have hb:Z0h Y00 128=true:=by kernel_rfl
   have e1:((Z0j Z1d s:Int)==0)=false:=by simp[hz]
   obtain⟨c,hc⟩:∃c,s[0]? = some c:=by cases s with|nil=>simp[Z0j]at hz|cons c t=>exact⟨c,rfl⟩
   have hh:s.head? = some c:=by rw[<- hc];cases s<;>rfl
   have u0:=Z6r c 48 (by decide)
   have u2:∀n:Nat,decide ((n:Int)>1)=decide (1<n):=λn=>by simp;omega
   have hb2:Z0h Y00 139=true:=by kernel_rfl
   have e3:F5 139 [.str (s.take (Z0j Z1d s))]=some (.str (s.take (Z0j Z1d s))):=by simp only[F5];rw[if_pos (by rw[Y0o];omega)]
   by_cases hn:Z0j Z1d s<s.length
   · have e2:decide ((Z0j Z1d s:Int)<(s.length:Int))=true:=by simpa using hn
     have hx:s[Z0j Z1d s]? = some s[Z0j Z1d s]:=by simp[hn]
     have u1:=Z6r s[Z0j Z1d s] 95 (by decide)
     by_cases hv:Z56 (s.take (Z0j Z1d s))<9223372036854775808
     · rw[ZgU hv]at e0
       repeat' ((conv=>whnf);first|with_reducible refine ixS 0 rfl hc ?_|with_reducible refine ixS _ rfl hx ?_|with_reducible refine exI (Z25 hb rfl e0) ?_|with_reducible refine exI (Z25 hb2 rfl e3) ?_|refine stp ?_|with_reducible apply Z01<;>intro h)
       all_goals (first|(show AV.tuple _=AV.tuple _;clear e0 hdg;simp only[Z1B,hx,hh];simp only[u2]at *;simp_all;done)|(show AV.tuple _=AV.tuple _;have hg:¬(1<Z0j Z1d s):=(by intro hg;have hg':decide ((Z0j Z1d s:Int)>1)=true:=(by simp;omega);simp_all;done);clear e0 hdg u2;simp only[Z1B,hx,hh];simp_all;rw[if_neg (λhq=>by have:=hq.1;omega)];exact⟨rfl,rfl⟩))
     · rw[ZgV hv]at e0
       repeat' ((conv=>whnf);first|with_reducible refine ixS 0 rfl hc ?_|with_reducible refine ixS _ rfl hx ?_|with_reducible refine exI (Z25 hb rfl e0) ?_|with_reducible refine exI (Z25 hb2 rfl e3) ?_|refine stp ?_|with_reducible apply Z01<;>intro h)
       all_goals (first|(show AV.tuple _=AV.tuple _;clear e0 hdg;simp only[Z1B,hx,hh];simp only[u2]at *;simp_all;done)|(show AV.tuple _=AV.tuple _;have hg:¬(1<Z0j Z1d s):=(by intro hg;have hg':decide ((Z0j Z1d s:Int)>1)=true:=(by simp;omega);simp_all;done);clear e0 hdg u2;simp only[Z1B,hx,hh];simp_all;rw[if_neg (λhq=>by have:=hq.1;omega)];exact⟨rfl,rfl⟩))
   · have e2:decide ((Z0j Z1d s:Int)<(s.length:Int))=false:=by simpa using hn
     have hx:s[Z0j Z1d s]? = none:=by simp;omega
     by_cases hv:Z56 (s.take (Z0j Z1d s))<9223372036854775808
     · rw[ZgU hv]at e0
       repeat' ((conv=>whnf);first|with_reducible refine ixS 0 rfl hc ?_|with_reducible refine exI (Z25 hb rfl e0) ?_|with_reducible refine exI (Z25 hb2 rfl e3) ?_|refine stp ?_|with_reducible apply Z01<;>intro h)
       all_goals (first|(show AV.tuple _=AV.tuple _;clear e0 hdg;simp only[Z1B,hx,hh];simp only[u2]at *;simp_all;done)|(show AV.tuple _=AV.tuple _;have hg:¬(1<Z0j Z1d s):=(by intro hg;have hg':decide ((Z0j Z1d s:Int)>1)=true:=(by simp;omega);simp_all;done);clear e0 hdg u2;simp only[Z1B,hx,hh];simp_all;rw[if_neg (λhq=>by have:=hq.1;omega)];exact⟨rfl,rfl⟩))
     · rw[ZgV hv]at e0
       repeat' ((conv=>whnf);first|with_reducible refine ixS 0 rfl hc ?_|with_reducible refine exI (Z25 hb rfl e0) ?_|with_reducible refine exI (Z25 hb2 rfl e3) ?_|refine stp ?_|with_reducible apply Z01<;>intro h)
       all_goals (first|(show AV.tuple _=AV.tuple _;clear e0 hdg;simp only[Z1B,hx,hh];simp only[u2]at *;simp_all;done)|(show AV.tuple _=AV.tuple _;have hg:¬(1<Z0j Z1d s):=(by intro hg;have hg':decide ((Z0j Z1d s:Int)>1)=true:=(by simp;omega);simp_all;done);clear e0 hdg u2;simp only[Z1B,hx,hh];simp_all;rw[if_neg (λhq=>by have:=hq.1;omega)];exact⟨rfl,rfl⟩))
end
section
variable {gl:Z0g}
def F6(f:Nat)(xs:List AV):Option AV:=match f with
 |98=>match xs with|[.str s]=>if s.length<=9223372036854775807 then some (.int .i64 (skip false s)) else none|_=>none
 |116=>match xs with|[.str s]=>if s.length<=9223372036854775807 then some (.int .i64 (Z0d s)) else none|_=>none
 |117=>match xs with|[.str s]=>if s.length<=1099511627776 then some (.tuple [.int .i64 (Z1B s).1,.int .i64 (Z1B s).2]) else none|_=>none
 |118=>match xs with|[.str (c::s)]=>if (c::s).length<=9223372036854775807 then some (.int .i64 (Z0q (c::s))) else none|_=>none
 |f=>F3 f xs
theorem Zoh{f:Nat}{xs:List AV}{r:AV}(h:F6 f xs=some r):plain r=true/\ValOK Y00 runLives.gl f xs r:=by
 unfold F6 at h
 split at h<;>try (exact Zch h)
 all_goals (split at h<;>try (cases h;done))
 all_goals (split at h<;>cases h)
 ·rename_i hs;exact⟨rfl,ZnR _ hs⟩
 ·rename_i hs;exact⟨rfl,Zcp _ hs⟩
 ·rename_i hs;exact⟨rfl,Znu _ hs⟩
 ·rename_i hs;exact⟨rfl,ZlB _ hs (by simp)⟩
theorem Zkw:OrcSound Y00 runLives.gl (Z7H F6):=Z0V λf xs r h=>Zoh h
theorem Z2c{m:List Nat}:∀(n:Nat)(l:List (List UInt8)),EGe m (ZaD n l) (ZaD n l)
 |_,[]=>trivial
 |n,k::l=>⟨Y01 rfl,Y01 rfl,rfl,Z2c (n+1) l⟩
theorem Z4k{H:Z00}(x:List UInt8)(h:ZfB H (.map 1)=some (ZaD 0 keysL)):Z2m Y00 125 (.map 1) (.str x) true H=some (.tuple [.agg [],.bool (keysL.contains x)]):=by
 obtain⟨o,h1,h2,h3⟩:=Zd9 x keysL 0 0
 have hz:Z47 Y00 142=some (.agg []):=by kernel_rfl
 simp only[Z2m,kdK,h,h1,<- h2]
 cases o with
 |none=>simp[hz]
 |some p=>have:=h3 p rfl;obtain⟨j,v⟩:=p;subst this;simp
theorem Z2W {s : List UInt8} {k n : Nat} {acc : List Tk} {kind len num : Nat} (hk : k < s.length) (h2 : s.length < k + n) (ht : Z50 (s.drop k) = some (kind, len, num)) (h3 : Z6q s = Z95 acc (Z4R n k (s.drop k))) :
  Z6q s=Z95 (acc++[⟨kind,(s.drop k).take len,num,k⟩]) (Z4R (n-1) (k+len+skip false (s.drop (k+len))) (s.drop (k+len+skip false (s.drop (k+len))))):=by
 obtain⟨n,rfl⟩:∃m,n=m+1:=⟨n-1,by omega⟩
 have hne:¬s.drop k=[]:=by intro e;have:=congrArg List.length e;simp at this;omega
 rw[h3,Z4R,if_neg hne,ht]
 simp only[Y0n,Nat.add_sub_cancel]
 rw[<- Nat.add_assoc,ZfH]
theorem Zes{s:List UInt8}{k n:Nat}{acc:List Tk}(hk:k<s.length)(h2:s.length<k+n)(ht:Z50 (s.drop k)=none)(h3:Z6q s=Z95 acc (Z4R n k (s.drop k))):Z6q s = .inl k:=by
 obtain⟨n,rfl⟩:∃m,n=m+1:=⟨n-1,by omega⟩
 have hne:¬s.drop k=[]:=by intro e;have:=congrArg List.length e;simp at this;omega
 rw[h3,Z4R,if_neg hne,ht];rfl
theorem ZlR{s:List UInt8}{k n:Nat}{acc:List Tk}(h1:k<=s.length)(hk:¬k<s.length)(h2:s.length<k+n)(h3:Z6q s=Z95 acc (Z4R n k (s.drop k))):Z6q s = .inr acc:=by
 obtain⟨n,rfl⟩:∃m,n=m+1:=⟨n-1,by omega⟩
 have he:s.drop k=[]:=List.drop_eq_nil_of_le (by omega)
 rw[h3,Z4R,if_pos he];simp[Z95]
attribute [local irreducible] Z1B Z0d Z0q skip Z0j
theorem all_ok(s:List UInt8)(hs:s.length<=65536):ValOK Y00 runLives.gl 53 [.str s] (ZiZ s):=by
 have e0:decide ((s.length:Int)>65536)=false:=by simp;omega
 refine Z1z (λg=>Y07 g 98 || Y07 g 116 || Y07 g 117 || Y07 g 118) 2 follows Z06 Zkw Tryz.func53 rfl ?_
 repeat' ((conv=>whnf);first|refine stp ?_|with_reducible apply Z01<;>intro h)
 conv=>whnf
 refine⟨Nat×Nat×List Tk,(λp=>p.1<=s.length/\s.length<p.1+p.2.1/\Z6q s=Z95 p.2.2 (Z4R p.2.1 p.1 (s.drop p.1))/\p.2.2.length<=p.1),(λp=>[(0,.str s),(3,.ptr 0 0),(4,.map 1),(5,match p.2.2 with|[]=>.nslice|_::_=>.slice 2 0 p.2.2.length p.2.2.length 4),(6,.int .i64 p.1)]),
  (λp=>⟨true,0,0,.cells [.int .i64 0,.int .i64 0] 29⟩::⟨true,1,0,ZoL⟩::match p.2.2 with|[]=>[]|_::_=>[⟨true,2,0,.cells (Zcw p.2.2) 38⟩]),(λp=>s.length-p.1),⟨(skip false s,s.length+1,[]),?_,?_⟩,?_⟩
 ·exact⟨Z3N _ _,by show s.length<skip false s+(s.length+1);omega,(Zhg _).symm,Y0e _⟩
 · refine Y0h [0,1] rfl ?_ ?_ rfl
   ·exact⟨Y01 rfl,Y02 rfl rfl,Y05 rfl,Y01 rfl,Y03 rfl,trivial⟩
   ·exact⟨hbp,⟨rfl,rfl,rfl,rfl,⟨rfl,Z2c 0 keysL⟩⟩,trivial⟩
 · rintro⟨k,n,acc⟩ ⟨h1,h2,h3,h4⟩
   dsimp only at h1 h2 h3 h4
   have w1:=Z9P (s.drop k)
   have w2:=Zh5 (s.drop k)
   have w3:=Ze6 (s.drop k)
   have w4:(s.drop k).length=s.length-k:=Y0H
   have g1:skip false (s.drop (k+Z0d (s.drop k)))<=s.length-(k+Z0d (s.drop k)):=by have:=Z3N false (s.drop (k+Z0d (s.drop k)));simpa using this
   have g2:skip false (s.drop (k+(Z1B (s.drop k)).1))<=s.length-(k+(Z1B (s.drop k)).1):=by have:=Z3N false (s.drop (k+(Z1B (s.drop k)).1));simpa using this
   have g3:skip false (s.drop (k+Z0q (s.drop k)))<=s.length-(k+Z0q (s.drop k)):=by have:=Z3N false (s.drop (k+Z0q (s.drop k)));simpa using this
   have hb:Z0h Y00 118=true:=by kernel_rfl
   have t1:(List.take (Z0d (s.drop k)) (s.drop k)).length=Z0d (s.drop k):=by rw[Y0o];omega
   have t2:(List.take (Z1B (s.drop k)).1 (s.drop k)).length=(Z1B (s.drop k)).1:=by rw[Y0o];omega
   have t3:(List.take (Z0q (s.drop k)) (s.drop k)).length=Z0q (s.drop k):=by rw[Y0o];omega
   by_cases hk:k<s.length
   · have e1:decide ((k:Int)<(s.length:Int))=true:=by simpa using hk
     obtain⟨c,t,hr⟩:∃c t,s.drop k=c::t:=by
      cases e:s.drop k with
      |nil=>rw[e]at w4;simp at w4;omega
      |cons c t=>exact⟨c,t,rfl⟩
     have e2:F6 118 [.str (s.drop k)]=some (.int .i64 (Z0q (s.drop k))):=by
      rw[hr]at w4⊢;simp only[F6];rw[if_pos (by omega)]
     cases acc with
     |nil =>
      dsimp only
      by_cases hw:0<Z0d (s.drop k)
      · have d1:decide ((Z0d (s.drop k):Int)>0)=true:=by simpa using hw
        cases hc:keysL.contains ((s.drop k).take (Z0d (s.drop k))) with
        |true =>
         clear w2 w3 t2 t3 e2
         repeat' ((conv=>whnf);first|(with_reducible refine exI (Z4k _ ?_) ?_;(focus rfl))|refine stp ?_|with_reducible apply Z01<;>intro h)
         conv=>whnf
         refine exI (Z4k _ ?_) ?_
         ·rfl
         rw[hc]
         repeat' ((conv=>whnf);(first|refine stp ?_|with_reducible apply Z01<;>intro h))
         conv=>whnf
         refine⟨(k+Z0d (s.drop k)+skip false (s.drop (k+Z0d (s.drop k))),n-1,[⟨2,(s.drop k).take (Z0d (s.drop k)),0,k⟩]),⟨?_,?_,?_,?_⟩,?_,Y0h [0,1,6] rfl ?_ ?_ rfl⟩
         ·show k+Z0d (s.drop k)+skip false (s.drop (k+Z0d (s.drop k)))<=s.length;omega
         ·show s.length<k+Z0d (s.drop k)+skip false (s.drop (k+Z0d (s.drop k)))+(n-1);omega
         ·exact Z2W (acc:=[]) hk h2 (by unfold Z50;rw[if_pos hw,if_pos hc]) h3
         ·show 1<=k+Z0d (s.drop k)+skip false (s.drop (k+Z0d (s.drop k)));omega
         ·show s.length-(k+Z0d (s.drop k)+skip false (s.drop (k+Z0d (s.drop k))))<s.length-k;omega
         · refine⟨Y01 rfl,Y02 rfl rfl,Y05 rfl,Y0l rfl rfl rfl ?_ ?_ rfl,Y03 ?_,trivial⟩
           ·exact Y0a _
           ·exact Y0a _
           ·rw[t1];exact Z7U (by omega)
         ·exact⟨hbp,⟨rfl,rfl,rfl,rfl,⟨rfl,Z2c 0 keysL⟩⟩,hbp,trivial⟩
        |false =>
         clear w2 w3 t2 t3 e2
         repeat' ((conv=>whnf);first|(with_reducible refine exI (Z4k _ ?_) ?_;(focus rfl))|refine stp ?_|with_reducible apply Z01<;>intro h)
         conv=>whnf
         refine exI (Z4k _ ?_) ?_
         ·rfl
         rw[hc]
         repeat' ((conv=>whnf);(first|refine stp ?_|with_reducible apply Z01<;>intro h))
         conv=>whnf
         refine⟨(k+Z0d (s.drop k)+skip false (s.drop (k+Z0d (s.drop k))),n-1,[⟨1,(s.drop k).take (Z0d (s.drop k)),0,k⟩]),⟨?_,?_,?_,?_⟩,?_,Y0h [0,1,6] rfl ?_ ?_ rfl⟩
         ·show k+Z0d (s.drop k)+skip false (s.drop (k+Z0d (s.drop k)))<=s.length;omega
         ·show s.length<k+Z0d (s.drop k)+skip false (s.drop (k+Z0d (s.drop k)))+(n-1);omega
         ·exact Z2W (acc:=[]) hk h2 (by unfold Z50;rw[if_pos hw,if_neg (by rw[hc];decide)]) h3
         ·show 1<=k+Z0d (s.drop k)+skip false (s.drop (k+Z0d (s.drop k)));omega
         ·show s.length-(k+Z0d (s.drop k)+skip false (s.drop (k+Z0d (s.drop k))))<s.length-k;omega
         · refine⟨Y01 rfl,Y02 rfl rfl,Y05 rfl,Y0l rfl rfl rfl ?_ ?_ rfl,Y03 ?_,trivial⟩
           ·exact Y0a _
           ·exact Y0a _
           ·rw[t1];exact Z7U (by omega)
         ·exact⟨hbp,⟨rfl,rfl,rfl,rfl,⟨rfl,Z2c 0 keysL⟩⟩,hbp,trivial⟩
      · have d1:decide ((Z0d (s.drop k):Int)>0)=false:=by simpa using hw
        by_cases hn:0<(Z1B (s.drop k)).1
        · have d2:decide (((Z1B (s.drop k)).1:Int)>0)=true:=by simpa using hn
          clear w1 w3 t1 t3 e2
          repeat' ((conv=>whnf);(first|refine stp ?_|with_reducible apply Z01<;>intro h))
          conv=>whnf
          refine⟨(k+(Z1B (s.drop k)).1+skip false (s.drop (k+(Z1B (s.drop k)).1)),n-1,[⟨3,(s.drop k).take ((Z1B (s.drop k)).1),(Z1B (s.drop k)).2,k⟩]),⟨?_,?_,?_,?_⟩,?_,Y0h [0,1,5] rfl ?_ ?_ rfl⟩
          ·show k+(Z1B (s.drop k)).1+skip false (s.drop (k+(Z1B (s.drop k)).1))<=s.length;omega
          ·show s.length<k+(Z1B (s.drop k)).1+skip false (s.drop (k+(Z1B (s.drop k)).1))+(n-1);omega
          ·exact Z2W (acc:=[]) hk h2 (by unfold Z50;rw[if_neg hw,if_pos hn]) h3
          ·show 1<=k+(Z1B (s.drop k)).1+skip false (s.drop (k+(Z1B (s.drop k)).1));omega
          ·show s.length-(k+(Z1B (s.drop k)).1+skip false (s.drop (k+(Z1B (s.drop k)).1)))<s.length-k;omega
          · refine⟨Y01 rfl,Y02 rfl rfl,Y05 rfl,Y0l rfl rfl rfl ?_ ?_ rfl,Y03 ?_,trivial⟩
            ·exact Y0a _
            ·exact Y0a _
            ·rw[t2];exact Z7U (by omega)
          ·exact⟨hbp,⟨rfl,rfl,rfl,rfl,⟨rfl,Z2c 0 keysL⟩⟩,hbp,trivial⟩
        · have d2:decide (((Z1B (s.drop k)).1:Int)>0)=false:=by simpa using hn
          by_cases hg:0<Z0q (s.drop k)
          · have d3:decide ((Z0q (s.drop k):Int)>0)=true:=by simpa using hg
            clear w1 w2 t1 t2
            repeat' ((conv=>whnf);first|with_reducible refine exI (Z25 hb rfl e2) ?_|refine stp ?_|with_reducible apply Z01<;>intro h)
            conv=>whnf
            refine⟨(k+Z0q (s.drop k)+skip false (s.drop (k+Z0q (s.drop k))),n-1,[⟨4,(s.drop k).take (Z0q (s.drop k)),0,k⟩]),⟨?_,?_,?_,?_⟩,?_,Y0h [0,1,5] rfl ?_ ?_ rfl⟩
            ·show k+Z0q (s.drop k)+skip false (s.drop (k+Z0q (s.drop k)))<=s.length;omega
            ·show s.length<k+Z0q (s.drop k)+skip false (s.drop (k+Z0q (s.drop k)))+(n-1);omega
            ·exact Z2W (acc:=[]) hk h2 (by unfold Z50;rw[if_neg hw,if_neg hn,if_pos hg]) h3
            ·show 1<=k+Z0q (s.drop k)+skip false (s.drop (k+Z0q (s.drop k)));omega
            ·show s.length-(k+Z0q (s.drop k)+skip false (s.drop (k+Z0q (s.drop k))))<s.length-k;omega
            · refine⟨Y01 rfl,Y02 rfl rfl,Y05 rfl,Y0l rfl rfl rfl ?_ ?_ rfl,Y03 ?_,trivial⟩
              ·exact Y0a _
              ·exact Y0a _
              ·rw[t3];exact Z7U (by omega)
            ·exact⟨hbp,⟨rfl,rfl,rfl,rfl,⟨rfl,Z2c 0 keysL⟩⟩,hbp,trivial⟩
          · have d3:decide ((Z0q (s.drop k):Int)>0)=false:=by simpa using hg
            clear w1 w2 t1 t2 g1 g2 g3
            repeat' ((conv=>whnf);first|with_reducible refine exI (Z25 hb rfl e2) ?_|refine stp ?_|with_reducible apply Z01<;>intro h)
            have e9:=Zes hk h2 (by unfold Z50;rw[if_neg hw,if_neg hn,if_neg hg]) h3
            unfold ZiZ;rw[if_neg (by omega),e9]
     |cons a acc =>
      dsimp only
      by_cases hw:0<Z0d (s.drop k)
      · have d1:decide ((Z0d (s.drop k):Int)>0)=true:=by simpa using hw
        cases hc:keysL.contains ((s.drop k).take (Z0d (s.drop k))) with
        |true =>
         clear w2 w3 t2 t3 e2
         repeat' ((conv=>whnf);first|(with_reducible refine exI (Z4k _ ?_) ?_;(focus rfl))|refine stp ?_|with_reducible apply Z01<;>intro h)
         conv=>whnf
         refine exI (Z4k _ ?_) ?_
         ·rfl
         rw[hc]
         repeat' ((conv=>whnf);(first|refine stp ?_|with_reducible apply Z01<;>intro h))
         conv=>whnf
         refine exI (Zc0 aT (xs:=[.int .i64 2,.str ((s.drop k).take (Z0d (s.drop k))),.int .i64 0,.int .i64 k]) rfl rfl rfl (Z3J _) rfl (by decide) ⟨by simp at h4⊢;omega,by simp at h4⊢;omega⟩) ?_
         repeat' ((conv=>whnf);(first|refine stp ?_|with_reducible apply Z01<;>intro h))
         conv=>whnf
         refine⟨(k+Z0d (s.drop k)+skip false (s.drop (k+Z0d (s.drop k))),n-1,(a::acc)++[⟨2,(s.drop k).take (Z0d (s.drop k)),0,k⟩]),⟨?_,?_,?_,?_⟩,?_,Y0h [0,1,7] rfl ?_ ?_ rfl⟩
         ·show k+Z0d (s.drop k)+skip false (s.drop (k+Z0d (s.drop k)))<=s.length;omega
         ·show s.length<k+Z0d (s.drop k)+skip false (s.drop (k+Z0d (s.drop k)))+(n-1);omega
         ·exact Z2W hk h2 (by unfold Z50;rw[if_pos hw,if_pos hc]) h3
         ·show ((a::acc)++[_]).length<=k+Z0d (s.drop k)+skip false (s.drop (k+Z0d (s.drop k)));rw[Y0q];simp only[Y09,Y0d]at h4⊢;omega
         ·show s.length-(k+Z0d (s.drop k)+skip false (s.drop (k+Z0d (s.drop k))))<s.length-k;omega
         · refine⟨Y01 rfl,Y02 rfl rfl,Y05 rfl,Y0l rfl rfl ?_ ?_ ?_ rfl,Y03 ?_,trivial⟩
           ·exact (Z2X (a::acc) _).symm
           ·exact Y0a _
           ·exact Y0y (Z2X (a::acc) _)
           ·rw[t1];exact Z7U (by omega)
         ·exact⟨hbp,⟨rfl,rfl,rfl,rfl,⟨rfl,Z2c 0 keysL⟩⟩,⟨rfl,rfl,rfl,rfl,Y0k (rest:=[]) ((Z1k (a::acc) ⟨2,(s.drop k).take (Z0d (s.drop k)),0,k⟩).symm.trans (Y0c _).symm) (Z4b _)⟩,trivial⟩
        |false =>
         clear w2 w3 t2 t3 e2
         repeat' ((conv=>whnf);first|(with_reducible refine exI (Z4k _ ?_) ?_;(focus rfl))|refine stp ?_|with_reducible apply Z01<;>intro h)
         conv=>whnf
         refine exI (Z4k _ ?_) ?_
         ·rfl
         rw[hc]
         repeat' ((conv=>whnf);(first|refine stp ?_|with_reducible apply Z01<;>intro h))
         conv=>whnf
         refine exI (Zc0 aT (xs:=[.int .i64 1,.str ((s.drop k).take (Z0d (s.drop k))),.int .i64 0,.int .i64 k]) rfl rfl rfl (Z3J _) rfl (by decide) ⟨by simp at h4⊢;omega,by simp at h4⊢;omega⟩) ?_
         repeat' ((conv=>whnf);(first|refine stp ?_|with_reducible apply Z01<;>intro h))
         conv=>whnf
         refine⟨(k+Z0d (s.drop k)+skip false (s.drop (k+Z0d (s.drop k))),n-1,(a::acc)++[⟨1,(s.drop k).take (Z0d (s.drop k)),0,k⟩]),⟨?_,?_,?_,?_⟩,?_,Y0h [0,1,7] rfl ?_ ?_ rfl⟩
         ·show k+Z0d (s.drop k)+skip false (s.drop (k+Z0d (s.drop k)))<=s.length;omega
         ·show s.length<k+Z0d (s.drop k)+skip false (s.drop (k+Z0d (s.drop k)))+(n-1);omega
         ·exact Z2W hk h2 (by unfold Z50;rw[if_pos hw,if_neg (by rw[hc];decide)]) h3
         ·show ((a::acc)++[_]).length<=k+Z0d (s.drop k)+skip false (s.drop (k+Z0d (s.drop k)));rw[Y0q];simp only[Y09,Y0d]at h4⊢;omega
         ·show s.length-(k+Z0d (s.drop k)+skip false (s.drop (k+Z0d (s.drop k))))<s.length-k;omega
         · refine⟨Y01 rfl,Y02 rfl rfl,Y05 rfl,Y0l rfl rfl ?_ ?_ ?_ rfl,Y03 ?_,trivial⟩
           ·exact (Z2X (a::acc) _).symm
           ·exact Y0a _
           ·exact Y0y (Z2X (a::acc) _)
           ·rw[t1];exact Z7U (by omega)
         ·exact⟨hbp,⟨rfl,rfl,rfl,rfl,⟨rfl,Z2c 0 keysL⟩⟩,⟨rfl,rfl,rfl,rfl,Y0k (rest:=[]) ((Z1k (a::acc) ⟨1,(s.drop k).take (Z0d (s.drop k)),0,k⟩).symm.trans (Y0c _).symm) (Z4b _)⟩,trivial⟩
      · have d1:decide ((Z0d (s.drop k):Int)>0)=false:=by simpa using hw
        by_cases hn:0<(Z1B (s.drop k)).1
        · have d2:decide (((Z1B (s.drop k)).1:Int)>0)=true:=by simpa using hn
          clear w1 w3 t1 t3 e2
          repeat' ((conv=>whnf);(first|refine stp ?_|with_reducible apply Z01<;>intro h))
          conv=>whnf
          refine exI (Zc0 aT (xs:=[.int .i64 3,.str ((s.drop k).take ((Z1B (s.drop k)).1)),.int .i64 ((Z1B (s.drop k)).2:Nat),.int .i64 k]) rfl rfl rfl (Z3J _) rfl (by decide) ⟨by simp at h4⊢;omega,by simp at h4⊢;omega⟩) ?_
          repeat' ((conv=>whnf);(first|refine stp ?_|with_reducible apply Z01<;>intro h))
          conv=>whnf
          refine⟨(k+(Z1B (s.drop k)).1+skip false (s.drop (k+(Z1B (s.drop k)).1)),n-1,(a::acc)++[⟨3,(s.drop k).take ((Z1B (s.drop k)).1),(Z1B (s.drop k)).2,k⟩]),⟨?_,?_,?_,?_⟩,?_,Y0h [0,1,6] rfl ?_ ?_ rfl⟩
          ·show k+(Z1B (s.drop k)).1+skip false (s.drop (k+(Z1B (s.drop k)).1))<=s.length;omega
          ·show s.length<k+(Z1B (s.drop k)).1+skip false (s.drop (k+(Z1B (s.drop k)).1))+(n-1);omega
          ·exact Z2W hk h2 (by unfold Z50;rw[if_neg hw,if_pos hn]) h3
          ·show ((a::acc)++[_]).length<=k+(Z1B (s.drop k)).1+skip false (s.drop (k+(Z1B (s.drop k)).1));rw[Y0q];simp only[Y09,Y0d]at h4⊢;omega
          ·show s.length-(k+(Z1B (s.drop k)).1+skip false (s.drop (k+(Z1B (s.drop k)).1)))<s.length-k;omega
          · refine⟨Y01 rfl,Y02 rfl rfl,Y05 rfl,Y0l rfl rfl ?_ ?_ ?_ rfl,Y03 ?_,trivial⟩
            ·exact (Z2X (a::acc) _).symm
            ·exact Y0a _
            ·exact Y0y (Z2X (a::acc) _)
            ·rw[t2];exact Z7U (by omega)
          ·exact⟨hbp,⟨rfl,rfl,rfl,rfl,⟨rfl,Z2c 0 keysL⟩⟩,⟨rfl,rfl,rfl,rfl,Y0k (rest:=[]) ((Z1k (a::acc) ⟨3,(s.drop k).take ((Z1B (s.drop k)).1),(Z1B (s.drop k)).2,k⟩).symm.trans (Y0c _).symm) (Z4b _)⟩,trivial⟩
        · have d2:decide (((Z1B (s.drop k)).1:Int)>0)=false:=by simpa using hn
          by_cases hg:0<Z0q (s.drop k)
          · have d3:decide ((Z0q (s.drop k):Int)>0)=true:=by simpa using hg
            clear w1 w2 t1 t2
            repeat' ((conv=>whnf);first|with_reducible refine exI (Z25 hb rfl e2) ?_|refine stp ?_|with_reducible apply Z01<;>intro h)
            conv=>whnf
            refine exI (Zc0 aT (xs:=[.int .i64 4,.str ((s.drop k).take (Z0q (s.drop k))),.int .i64 0,.int .i64 k]) rfl rfl rfl (Z3J _) rfl (by decide) ⟨by simp at h4⊢;omega,by simp at h4⊢;omega⟩) ?_
            repeat' ((conv=>whnf);(first|refine stp ?_|with_reducible apply Z01<;>intro h))
            conv=>whnf
            refine⟨(k+Z0q (s.drop k)+skip false (s.drop (k+Z0q (s.drop k))),n-1,(a::acc)++[⟨4,(s.drop k).take (Z0q (s.drop k)),0,k⟩]),⟨?_,?_,?_,?_⟩,?_,Y0h [0,1,6] rfl ?_ ?_ rfl⟩
            ·show k+Z0q (s.drop k)+skip false (s.drop (k+Z0q (s.drop k)))<=s.length;omega
            ·show s.length<k+Z0q (s.drop k)+skip false (s.drop (k+Z0q (s.drop k)))+(n-1);omega
            ·exact Z2W hk h2 (by unfold Z50;rw[if_neg hw,if_neg hn,if_pos hg]) h3
            ·show ((a::acc)++[_]).length<=k+Z0q (s.drop k)+skip false (s.drop (k+Z0q (s.drop k)));rw[Y0q];simp only[Y09,Y0d]at h4⊢;omega
            ·show s.length-(k+Z0q (s.drop k)+skip false (s.drop (k+Z0q (s.drop k))))<s.length-k;omega
            · refine⟨Y01 rfl,Y02 rfl rfl,Y05 rfl,Y0l rfl rfl ?_ ?_ ?_ rfl,Y03 ?_,trivial⟩
              ·exact (Z2X (a::acc) _).symm
              ·exact Y0a _
              ·exact Y0y (Z2X (a::acc) _)
              ·rw[t3];exact Z7U (by omega)
            ·exact⟨hbp,⟨rfl,rfl,rfl,rfl,⟨rfl,Z2c 0 keysL⟩⟩,⟨rfl,rfl,rfl,rfl,Y0k (rest:=[]) ((Z1k (a::acc) ⟨4,(s.drop k).take (Z0q (s.drop k)),0,k⟩).symm.trans (Y0c _).symm) (Z4b _)⟩,trivial⟩
          · have d3:decide ((Z0q (s.drop k):Int)>0)=false:=by simpa using hg
            clear w1 w2 t1 t2 g1 g2 g3
            repeat' ((conv=>whnf);first|with_reducible refine exI (Z25 hb rfl e2) ?_|refine stp ?_|with_reducible apply Z01<;>intro h)
            have e9:=Zes hk h2 (by unfold Z50;rw[if_neg hw,if_neg hn,if_neg hg]) h3
            unfold ZiZ;rw[if_neg (by omega),e9]
   · have e1:decide ((k:Int)<(s.length:Int))=false:=by simpa using hk
     have e9:=ZlR h1 hk h2 h3
     clear g1 g2 g3 w1 w2 w3 w4 t1 t2 t3
     cases acc with
     |nil =>
      dsimp only
      repeat' ((conv=>whnf);first|refine stp ?_|with_reducible apply Z01<;>intro h)
      unfold ZiZ;rw[if_neg (by omega),e9];rfl
     |cons a acc =>
      dsimp only
      repeat' ((conv=>whnf);(first|refine stp ?_|with_reducible apply Z01<;>intro h))
      conv=>whnf
      refine exI (Zc0 aT (xs:=[.int .i64 5,.str [],.int .i64 0,.int .i64 s.length]) rfl rfl rfl (Z3J _) rfl (by decide) ⟨by simp at h4⊢;omega,by simp at h4⊢;omega⟩) ?_
      repeat' ((conv=>whnf);(first|refine stp ?_|with_reducible apply Z01<;>intro h))
      conv=>whnf
      refine⟨.tuple [.rs (acc.length+1+1) 4 (Zcw (a::acc)++Tk.cells ⟨5,[],0,s.length⟩),.agg [.int .i64 0,.int .i64 0]],Zmc (ZhD (b:=4) rfl ?_ ?_) (Zk1 rfl),?_⟩
      ·exact (congrArg List.length (Z1k (a::acc) ⟨5,[],0,s.length⟩)).symm.trans ((Z3J _).trans (by simp))
      ·exact (congrArg (List.all · lit) (Z1k (a::acc) ⟨5,[],0,s.length⟩)).symm.trans (ZdR _)
      · show _=ZiZ s
        unfold ZiZ;rw[if_neg (by omega),e9,<- Z1k];rfl
end
end Go.Proofs.YtneoiadnbikciaaGreatDoor.lex.pg
namespace Go.Proofs.YtneoiadnbikciaaGreatDoor.lex
open Go.Abs Go.RowKit
section
def Tk.q(t:Tk):Tq:=⟨(t.kind:Nat),t.text,(t.num:Nat),(t.pos:Nat)⟩
theorem Zgg:∀l:List Tk,tqC (l.map Tk.q)=Zcw l
 |[]=>rfl
 |t::l=>by simp only[List.map_cons,tqC,Zcw,Zgg l];rfl
def Z1q(l:List Tk)(n:Nat):List Tq:=(l++[(⟨5,[],0,n⟩:Tk)]).map Tk.q
theorem Z2u(l:List Tk)(n:Nat):(Z1q l n).length=l.length+1:=by unfold Z1q;simp
theorem Zae:∀(n pos:Nat)(s:List UInt8)(l:List Tk),Z4R n pos s = .inr l->l.length<=n
 |0,pos,s,l,h=>by cases h;exact Y0a _
 |n+1,pos,s,l,h=>by
  unfold Z4R at h
  split at h
  ·cases h;exact Y0e _
  · split at h
    ·cases h
    · split at h
      ·cases h
      · rename_i l2 h2
        cases h
        have:=Zae n _ _ _ h2
        simp;omega
def s0:Ps:=⟨0,0,0,0⟩
theorem ZkA{s:List UInt8}{l:List Tk}(h:Z6q s = .inr l)(hs:s.length<=65536):PsOK (Z1q l s.length) s0:=by
 have h1:=Zae _ _ _ _ h
 have h2:=Z2u l s.length
 refine⟨by show 0<_;omega,by omega,λi hi hk=>?_,by show -((0:Nat):Int)<=0;decide,by show (0:Int)<=200;decide⟩
 by_cases h3:i<l.length
 ·omega
 · exfalso
   have h4:i=l.length:=by omega
   subst h4
   apply hk
   simp[Z1q,Tk.q]
theorem Zlo{s:List UInt8}{l:List Tk}(h:Z6q s = .inr l)(hs:s.length<=65536):ZiZ s = .tuple [.rs (Z1q l s.length).length 4 (tqC (Z1q l s.length)),.agg [.int .i64 0,.int .i64 0]]:=by
 unfold ZiZ
 rw[if_neg (by omega),h,Z2u]
 unfold Z1q
 rw[Zgg]
end
section
theorem ZlU:(keysL.all kyB)=true:=by decide
theorem ZlC{s:List UInt8}(h:0<Z0q s):kyB (s.take (Z0q s))=false/\s.take (Z0q s)≠[]:=by
 match s with
 |[]=>exact absurd h (by simp[Z0q])
 |[c] =>
  have e:Z0q [c]=if ([124,38,61,33,60,43,45,42,94,40,41,123,125,44,59]:List UInt8).contains c then 1 else 0:=rfl
  rw[e]at h⊢
  split at h
  · rename_i hc
    rw[if_pos hc]
    refine⟨?_,by simp⟩
    have:∀c∈([124,38,61,33,60,43,45,42,94,40,41,123,125,44,59]:List UInt8),kyB [c]=false:=by decide
    exact this c (by simpa using hc)
  ·omega
 |c::d::t =>
  have k1:∀c∈([124,38,61,33,60,43,45,42,94,40,41,123,125,44,59]:List UInt8),(decide (97<=c)&&decide (c<=122))=false:=by decide
  have hc:0<Z0q (c::d::t)->c∈([124,38,61,33,60,43,45,42,94,40,41,123,125,44,59]:List UInt8):=by
   intro h
   have e:Z0q (c::d::t)=if (d=c/\(c=124\/c=38\/c=61))\/(d=61/\(c=33\/c=60)) then 2 else if ([124,38,61,33,60,43,45,42,94,40,41,123,125,44,59]:List UInt8).contains c then 1 else 0:=rfl
   rw[e]at h
   split at h
   · rename_i hc
     rcases hc with ⟨-,hc|hc|hc⟩|⟨-,hc|hc⟩<;>subst hc<;>decide
   · split at h
     ·rename_i hc;simpa using hc
     ·omega
  have h2:=k1 c (hc h)
  obtain⟨n,hn⟩:∃n,Z0q (c::d::t)=n+1:=⟨Z0q (c::d::t)-1,by omega⟩
  rw[hn]
  exact⟨h2,by simp⟩
theorem Zlq{s:List UInt8}{kd len num:Nat}(h:Z50 s=some (kd,len,num)):(kd=4->kyB (s.take len)=false/\s.take len≠[])/\(kd=2->kyB (s.take len)=true):=by
 unfold Z50 at h
 split at h
 · cases h
   refine⟨λe=>?_,λe=>?_⟩
   ·exfalso;split at e<;>omega
   · split at e
     · rename_i hk
       exact List.all_eq_true.1 ZlU _ (Y0I.1 hk)
     ·omega
 · split at h
   · cases h
     exact⟨λe=>by omega,λe=>by omega⟩
   · split at h
     · rename_i hk
       cases h
       exact⟨λ_=>ZlC hk,λe=>by omega⟩
     ·cases h
theorem Zhd:∀(n pos:Nat)(s:List UInt8)(l:List Tk),Z4R n pos s = .inr l->∀t∈l,(t.kind=4->kyB t.text=false/\t.text≠[])/\(t.kind=2->kyB t.text=true)
 |0,pos,s,l,h=>by cases h;intro t ht;cases ht
 |n+1,pos,s,l,h=>by
  unfold Z4R at h
  split at h
  ·cases h;intro t ht;cases ht
  · split at h
    ·cases h
    · rename_i kd len num hk
      split at h
      ·cases h
      · rename_i l2 h2
        cases h
        intro t ht
        cases ht with
        |head=>exact Zlq hk
        |tail _ ht=>exact Zhd n _ _ _ h2 t ht
theorem Zkz{s:List UInt8}{l:List Tk}(h:Z6q s = .inr l)(n:Nat):TqOK (Z1q l n):=by
 have h1:=Zhd _ _ _ _ h
 have h2:∀t∈l++[(⟨5,[],0,n⟩:Tk)],(t.kind=4->kyB t.text=false/\t.text≠[])/\(t.kind=2->kyB t.text=true):=by
  intro t ht
  rcases List.mem_append.1 ht with ht|ht
  ·exact h1 t ht
  ·have e:=List.mem_singleton.1 ht;rw[e];exact⟨λe=>absurd e (show ¬(5:Nat)=4 by decide),λe=>absurd e (show ¬(5:Nat)=2 by decide)⟩
 have h3:∀i (h:i<(Z1q l n).length),∃t∈l++[(⟨5,[],0,n⟩:Tk)],(Z1q l n)[i]=t.q:=by
  intro i h
  unfold Z1q at h⊢
  refine⟨(l++[(⟨5,[],0,n⟩:Tk)])[i]'(by simpa using h),Y0G _,List.getElem_map ..⟩
 refine⟨λi h hk=>?_,λi h hk=>?_⟩
 · obtain⟨t,ht,e⟩:=h3 i h
   rw[e]at hk⊢
   exact (h2 t ht).1 (by have:((t.kind:Nat):Int)=4:=hk;omega)
 · obtain⟨t,ht,e⟩:=h3 i h
   rw[e]at hk⊢
   exact (h2 t ht).2 (by have:((t.kind:Nat):Int)=2:=hk;omega)
end
section
variable {gl:Z0g}
def Zfj(s:List UInt8)(n:Nat):Bool:=match s[n]? with|some c=>Z7m c.toNat || c==95|none=>false
theorem Z6C(s:List UInt8):Z1B s=if Z0j Z1d s=0\/(1<Z0j Z1d s/\s.head? = some 48)\/Zfj s (Z0j Z1d s)=true\/¬Z56 (s.take (Z0j Z1d s))<9223372036854775808 then (0,0) else (Z0j Z1d s,Z56 (s.take (Z0j Z1d s))):=rfl
end
section
variable {gl:Z0g}
theorem Z7w{t:List UInt8}{kd len num:Nat}(h:Z50 t=some (kd,len,num)):0<len/\len<=t.length:=by
 unfold Z50 at h
 split at h
 ·cases h;rename_i h0;exact⟨h0,Z9P _⟩
 · split at h
   ·cases h;rename_i h0;exact⟨h0,Zh5 _⟩
   · split at h
     ·cases h;rename_i h0;exact⟨h0,Ze6 _⟩
     ·cases h
attribute [local irreducible] Z1B Z0d Z0q skip Z0j
end
section
theorem Z87{p:Int->Bool}:∀(u:List UInt8){d:UInt8}(r:List UInt8),p d.toNat=false->Z0j p (u++d::r)=Z0j p u
 |[],d,r,h=>by rw[Y08,Z0Y _ h];rfl
 |c::u,d,r,h=>by
  rw[Y04]
  cases hc:p c.toNat with
  |true=>rw[Z13 _ hc,Z13 _ hc,Z87 u r h]
  |false=>rw[Z0Y _ hc,Z0Y _ hc]
structure Ends (d:UInt8):Prop where
 hw:Zcq d.toNat=false
 hd:Z1d d.toNat=false
 ht:(Z7m d.toNat || d==95)=false
 hs:¬(d=124\/d=38\/d=61)
 hb:Z4u d.toNat=true
theorem Zo3:Ends 10:=⟨by decide,by decide,by decide,by decide,by decide⟩
theorem Zgc{u:List UInt8}{d:UInt8}(r:List UInt8)(h:Ends d)(hu:u≠[]):Z0d (u++d::r)=Z0d u:=by
 cases u with
 |nil=>exact absurd rfl hu
 |cons c u =>
  have:=Z87 (c::u) r h.hw
  simp only[Y04]at this
  simp only[Y04,Z0d,this]
theorem Zm5{u:List UInt8}{d:UInt8}{r:List UInt8}{n:Nat}(h:n<=u.length):(u++d::r)[n]? = if n=u.length then some d else u[n]?:=by
 split
 ·rename_i e;subst e;simp
 ·rw[List.getElem?_append_left (by omega)]
theorem Zgo{u:List UInt8}{d:UInt8}{r:List UInt8}{n:Nat}(h:Ends d)(hn:n<=u.length):Zfj (u++d::r) n=Zfj u n:=by
 unfold Zfj
 rw[Zm5 hn]
 by_cases e:n=u.length
 ·rw[if_pos e,List.getElem?_eq_none (by omega)];exact h.ht
 ·rw[if_neg e]
theorem ZjQ{u w:List UInt8}(hu:u≠[]):(u++w).head? = u.head?:=by cases u with|nil=>exact absurd rfl hu|cons c u=>rfl
theorem ZjA{u:List UInt8}{d:UInt8}(r:List UInt8)(h:Ends d)(hu:u≠[]):Z1B (u++d::r)=Z1B u:=by
 rw[Z6C,Z6C,Z87 u r h.hd,ZjQ hu,Zgo h (Z2S _ _),Y0J (Z2S _ _)]
theorem ZgE{u:List UInt8}{d:UInt8}(r:List UInt8)(h:Ends d)(hu:u≠[]):Z0q (u++d::r)=Z0q u:=by
 match u with
 |[]=>exact absurd rfl hu
 |[c] =>
  simp only[Y04,Y08,Z0q]
  rw[if_neg]
  rintro (⟨rfl,h1⟩|⟨rfl,_⟩)
  ·exact h.hs h1
  ·exact h.hs (.inr (.inr rfl))
 |c::e::u=>rfl
theorem Zj9{u:List UInt8}{d:UInt8}(r:List UInt8)(h:Ends d)(hu:u≠[]):Z50 (u++d::r)=Z50 u:=by
 unfold Z50
 rw[Zgc r h hu,ZjA r h hu,ZgE r h hu,Y0J (Z9P _)]
theorem Z4J:∀(b:Bool)(u r:List UInt8),skip b (u++10::r)=if skip b u<u.length then skip b u else u.length+1+skip false r
 |true,[],r=>by simp[skip];omega
 |false,[],r=>by simp[skip,show Z4u 10=true by decide];omega
 |true,c::u,r=>by
  have h1:=Z4J false u r
  have h2:=Z4J true u r
  simp only[Y04,skip,Y09]
  split
  · rw[h1];split
    ·rw[if_pos (by omega)]
    ·rw[if_neg (by omega)];omega
  · rw[h2];split
    ·rw[if_pos (by omega)]
    ·rw[if_neg (by omega)];omega
 |false,c::u,r=>by
  have h1:=Z4J false u r
  have h2:=Z4J true u r
  simp only[Y04,skip,Y09]
  have hh:(u++10::r).head? = some 47 ↔ u.head? = some 47:=by
   cases u with
   |nil=>simp
   |cons a u=>simp
  simp only[hh]
  split
  · rw[h1];split
    ·rw[if_pos (by omega)]
    ·rw[if_neg (by omega)];omega
  · split
    · rw[h2];split
      ·rw[if_pos (by omega)]
      ·rw[if_neg (by omega)];omega
    ·rw[if_pos (by omega)]
theorem Zbv:∀(n m pos:Nat)(s:List UInt8),s.length<n->s.length<m->Z4R n pos s=Z4R m pos s
 |0,_,_,_,h,_=>by omega
 |_,0,_,_,_,h=>by omega
 |n+1,m+1,pos,s,h1,h2=>by
  rw[Z4R,Z4R]
  split
  ·rfl
  · rename_i hs
    cases ht:Z50 s with
    |none=>rfl
    |some p =>
     obtain⟨kd,len,num⟩:=p
     have hl:=Z7w ht
     simp only
     rw[Zbv n m _ _ (by simp;omega) (by simp;omega)]
def Tk.up(d:Nat)(t:Tk):Tk:={ t with pos:=t.pos+d }
def upR(d:Nat):Nat ⊕ List Tk->Nat ⊕ List Tk
 | .inl e=>.inl (e+d)
 | .inr l=>.inr (l.map (Tk.up d))
theorem Zhc(d:Nat):∀(n pos:Nat)(s:List UInt8),Z4R n (pos+d) s=upR d (Z4R n pos s)
 |0,_,_=>rfl
 |n+1,pos,s=>by
  rw[Z4R,Z4R]
  split
  ·rfl
  · cases ht:Z50 s with
    |none=>rfl
    |some p =>
     obtain⟨kd,len,num⟩:=p
     simp only
     have e:pos+d+len+skip false (s.drop len)=pos+len+skip false (s.drop len)+d:=by omega
     rw[e,Zhc d n]
     cases Z4R n (pos+len+skip false (s.drop len)) (s.drop (len+skip false (s.drop len)))<;>rfl
def ZpA(A:Nat)(x y:Nat ⊕ List Tk):Nat ⊕ List Tk:=match x with
 | .inl e=>.inl e
 | .inr l=>match y with
  | .inl e=>.inl (e+(A+1))
  | .inr m=>.inr (l++m.map (Tk.up (A+1)))
theorem ZnP (b : List UInt8) (A : Nat) : ∀ (n N pos : Nat) (u : List UInt8), pos + u.length = A -> u.length < n -> (u ++ 10 :: b).length < N ->
  Z4R N (pos+skip false (u++10::b)) ((u++10::b).drop (skip false (u++10::b)))=ZpA A (Z4R n (pos+skip false u) (u.drop (skip false u))) (Z6q b)
 |0,_,_,_,_,h,_=>by omega
 |n+1,N,pos,u,hA,hn,hN=>by
  have hle:=Z3N false u
  by_cases hs:skip false u<u.length
  · rw[Z4J false u b,if_pos hs,Y0K (by omega)]
    have hne:u.drop (skip false u)≠[]:=by intro e;have:=congrArg List.length e;simp at this;omega
    have hlv:(u.drop (skip false u)).length=u.length-skip false u:=by simp
    generalize hv:u.drop (skip false u)=v at *
    generalize hk:skip false u=k at *
    obtain⟨N,rfl⟩:∃M,N=M+1:=⟨N-1,by omega⟩
    rw[Z4R,Z4R,if_neg (by simp),if_neg hne,Zj9 b Zo3 hne]
    cases ht:Z50 v with
    |none=>rfl
    |some p =>
     obtain⟨kd,len,num⟩:=p
     have hl:=Z7w ht
     simp only
     rw[Y0J hl.2,Y0K hl.2]
     have ih:=ZnP b A n N (pos+k+len) (v.drop len) (by simp;omega) (by simp;omega) (by simp at hN⊢;omega)
     have e1:(v++10::b).drop (len+skip false (v.drop len++10::b))=(v.drop len++10::b).drop (skip false (v.drop len++10::b)):=by
      rw[<- Y0n,Y0K hl.2]
     rw[e1,ih,Y0n]
     cases Z4R n (pos+k+len+skip false (v.drop len)) (v.drop (len+skip false (v.drop len))) with
     |inl e=>rfl
     |inr l=>cases Z6q b<;>rfl
  · have he:skip false u=u.length:=by omega
    rw[Z4J false u b,if_neg hs,he,List.drop_length]
    have e1:(u++10::b).drop (u.length+1+skip false b)=b.drop (skip false b):=by
     rw[Nat.add_assoc,<- Y0n,List.drop_left,Nat.add_comm 1,List.drop_succ_cons]
    have e2:pos+(u.length+1+skip false b)=skip false b+(A+1):=by omega
    have e3:Z4R (n+1) (pos+u.length) ([]:List UInt8) = .inr []:=rfl
    rw[e1,e2,e3,Zhc,Zbv N (b.length+1) _ _ (by simp at hN⊢;omega) (by simp;omega)]
    show upR (A+1) (Z6q b)=_
    cases Z6q b<;>rfl
theorem Zpz(a b:List UInt8):Z6q (a++10::b)=ZpA a.length (Z6q a) (Z6q b):=by
 have h:=ZnP b a.length (a.length+1) ((a++10::b).length+1) 0 a (by omega) (by omega) (by omega)
 simp only[Nat.zero_add]at h
 exact h
end
section
theorem Z6v{p:Int->Bool}:∀(u:List UInt8),Z0j p (u.take (Z0j p u))=Z0j p u
 |[]=>rfl
 |c::u=>by
  cases hc:p c.toNat with
  |true=>rw[Z13 _ hc,Y0p,Z13 _ hc,Z6v u]
  |false=>rw[Z0Y _ hc];rfl
theorem Zlr{u:List UInt8}{n:Nat}(h:0<n)(hn:n<=u.length):∃c v,u.take n=c::v/\∃w,u=c::w:=by
 cases u with
 |nil=>simp at hn;omega
 |cons c u=>cases n with|zero=>omega|succ n=>exact⟨c,u.take n,rfl,u,rfl⟩
theorem ZpU(n:Int):Z7m n=true->Z1d n=false:=by
 intro h
 simp only[Z7m,Z1d,Y0F,Y0s,decide_eq_true_eq,Bool.and_eq_false_iff,decide_eq_false_iff_not]at *;omega
theorem Zqg{c:UInt8}(h:Z1d c.toNat=true)(t:List UInt8):Z0q (c::t)=0:=by
 have hc:48<=c.toNat/\c.toNat<=57:=by simp[Z1d]at h;omega
 have ne:∀d:UInt8,(d.toNat<48\/57<d.toNat)->c≠d:=λd hd e=>by subst e;omega
 have hm:[124,38,61,33,60,43,45,42,94,40,41,123,125,44,59].contains c=false:=by
  rw[Bool.eq_false_iff]
  intro hc
  rw[Y0I]at hc
  simp only[Y0z,Y0L,or_false]at hc
  rcases hc with h|h|h|h|h|h|h|h|h|h|h|h|h|h|h<;>exact ne _ (by decide) h
 match t with
 |[]=>simp only[Z0q];rw[hm];rfl
 |d::t =>
  simp only[Z0q]
  rw[if_neg (by
   rintro (⟨_,h|h|h⟩|⟨_,h|h⟩)<;>exact ne _ (by decide) h),hm];rfl
theorem Z8d{c:UInt8}{t:List UInt8}(h:0<Z0q (c::t)):[124,38,61,33,60,43,45,42,94,40,41,123,125,44,59].contains c=true:=by
 match t with
 |[]=>simp only[Z0q]at h;split at h;assumption;omega
 |d::t =>
  simp only[Z0q]at h
  split at h
  · rename_i h1
    rcases h1 with ⟨_,rfl|rfl|rfl⟩|⟨_,rfl|rfl⟩<;>decide
  ·split at h;assumption;omega
theorem ZgD{u:List UInt8}(h:0<Z0q u):Z0q (u.take (Z0q u))=Z0q u:=by
 match u with
 |[]=>simp[Z0q]at h
 |[c] =>
  have hc:=Z8d h
  have e:Z0q [c]=1:=by simp only[Z0q];rw[if_pos hc]
  rw[e];exact e
 |c::d::t =>
  by_cases h1:(d=c/\(c=124\/c=38\/c=61))\/(d=61/\(c=33\/c=60))
  · have e:Z0q (c::d::t)=2:=by simp only[Z0q];rw[if_pos h1]
    rw[e];show Z0q [c,d]=2;simp only[Z0q];rw[if_pos h1]
  · have hc:=Z8d h
    have e:Z0q (c::d::t)=1:=by simp only[Z0q];rw[if_neg h1,if_pos hc]
    rw[e];show Z0q [c]=1;simp only[Z0q];rw[if_pos hc]
theorem Zbo{c:UInt8}{t:List UInt8}(h:Z1d c.toNat=false):(Z1B (c::t)).1=0:=by
 rw[Z6C,if_pos];exact .inl (Z0Y _ h)
theorem Zjz{c:UInt8}{t:List UInt8}(h:0<(Z1B (c::t)).1):Z1d c.toNat=true:=by
 cases hd:Z1d c.toNat with
 |true=>rfl
 |false=>rw[Zbo hd]at h;omega
theorem Zgh{u:List UInt8}{kd len num:Nat}(h:Z50 u=some (kd,len,num)):Z50 (u.take len)=some (kd,len,num)/\∃c v,u.take len=c::v/\Z4u c.toNat=false/\c≠47:=by
 have hl:=Z7w h
 obtain⟨c,v,e1,w,rfl⟩:=Zlr hl.1 hl.2
 unfold Z50 at h
 split at h
 · rename_i hw
   cases h
   have hlet:Z7m c.toNat=true:=by
    simp only[Z0d]at hw;split at hw;assumption;omega
   have hwn:Z0d (c::w)=Z0j Zcq (c::w):=by simp only[Z0d];rw[if_pos hlet]
   have e2:Z0d ((c::w).take (Z0d (c::w)))=Z0d (c::w):=by
    rw[e1];simp only[Z0d];rw[if_pos hlet,<- e1,hwn,Z6v];simp only[hlet,if_true]
   refine⟨?_,c,v,e1,?_,?_⟩
   ·unfold Z50;rw[e2,if_pos hw,List.take_take,Y0x]
   ·simp only[Z7m,Z4u,Y0F,Y0s,decide_eq_true_eq,Bool.or_eq_false_iff,beq_eq_false_iff_ne]at *;omega
   ·rintro rfl;revert hlet;decide
 · rename_i hw
   split at h
   · rename_i hn
     cases h
     have hd:=Zjz hn
     have hnl:Z7m c.toNat=false:=by cases e:Z7m c.toNat with|false=>rfl|true=>have:=ZpU _ e;rw[hd]at this;cases this
     have e0:Z1B (c::w)=(Z0j Z1d (c::w),Z56 ((c::w).take (Z0j Z1d (c::w)))):=by
      rw[Z6C]at hn⊢;split at hn;simp at hn;rename_i hq;rw[if_neg hq]
     have hq:¬(Z0j Z1d (c::w)=0\/(1<Z0j Z1d (c::w)/\(c::w).head? = some 48)\/Zfj (c::w) (Z0j Z1d (c::w))=true\/¬Z56 ((c::w).take (Z0j Z1d (c::w)))<9223372036854775808):=by
      intro hq;rw[Z6C,if_pos hq]at hn;simp at hn
     rw[e0]at hn e1 hl⊢
     simp only at hn e1 hl⊢
     generalize hm:Z0j Z1d (c::w)=m at *
     have hlen:((c::w).take m).length=m:=by rw[Y0o];omega
     have hsp:Z0j Z1d ((c::w).take m)=m:=by rw[<- hm];exact Z6v _
     have e2:Z1B ((c::w).take m)=(m,Z56 ((c::w).take m)):=by
      rw[Z6C,hsp,if_neg,List.take_take,Y0x]
      rintro (h|h|h|h)
      ·omega
      ·refine hq (.inr (.inl ⟨h.1,?_⟩));rw[e1]at h;exact h.2
      ·unfold Zfj at h;rw[List.getElem?_eq_none (by omega)]at h;cases h
      ·rw[List.take_take,Y0x]at h;exact hq (.inr (.inr (.inr h)))
     refine⟨?_,c,v,e1,?_,?_⟩
     · unfold Z50
       rw[if_neg (by rw[e1];simp only[Z0d,hnl];simp),e2,if_pos hn]
     ·simp only[Z1d,Z4u,Y0s,decide_eq_true_eq,Bool.or_eq_false_iff,beq_eq_false_iff_ne]at *;omega
     ·rintro rfl;revert hd;decide
   · rename_i hn
     split at h
     · rename_i hs
       cases h
       have hc:=Z8d hs
       have hnd:Z1d c.toNat=false:=by
        cases e:Z1d c.toNat with
        |false=>rfl
        |true=>have:=Zqg e w;omega
       have hnl:Z7m c.toNat=false:=by
        cases e:Z7m c.toNat with
        |false=>rfl
        |true =>
         exfalso
         have:0<Z0d (c::w):=by simp only[Z0d];rw[if_pos e,Z13 _ (by simp[Zcq,e])];omega
         exact hw this
       refine⟨?_,c,v,e1,?_,?_⟩
       · unfold Z50
         rw[if_neg (by rw[e1];simp only[Z0d,hnl];simp),if_neg (by rw[e1,Zbo hnd];omega),ZgD hs,if_pos hs]
       · rw[Y0I]at hc
         simp only[Y0z,Y0L,or_false]at hc
         rcases hc with h|h|h|h|h|h|h|h|h|h|h|h|h|h|h<;>(subst h;decide)
       ·rintro rfl;revert hc;decide
     ·cases h
def Zpf(t:Tk):Prop:=Z50 t.text=some (t.kind,t.text.length,t.num)/\∃c v,t.text=c::v/\Z4u c.toNat=false/\c≠47
theorem ZcV:∀(n pos:Nat)(s:List UInt8)(l:List Tk),Z4R n pos s = .inr l->∀t∈l,Zpf t
 |0,_,_,l,h,t,ht=>by cases h;cases ht
 |n+1,pos,s,l,h,t,ht=>by
  rw[Z4R]at h
  split at h
  ·cases h;cases ht
  · cases hk:Z50 s with
    |none=>rw[hk]at h;cases h
    |some p =>
     obtain⟨kd,len,num⟩:=p
     rw[hk]at h
     simp only at h
     cases hr:Z4R n (pos+len+skip false (s.drop len)) (s.drop (len+skip false (s.drop len))) with
     |inl e=>rw[hr]at h;cases h
     |inr m =>
      rw[hr]at h;cases h
      rcases Y0z.1 ht with rfl|ht
      · have hl:=Z7w hk
        have h2:=Zgh hk
        have e:(s.take len).length=len:=by rw[Y0o];omega
        exact⟨by rw[e];exact h2.1,h2.2⟩
      ·exact ZcV _ _ _ _ hr t ht
end
section
theorem Zgk{t:Tk}(h:Zpf t)(hk:t.kind=1):Z38 t.text=true:=by
 obtain⟨h1,c,v,h2,-⟩:=h
 rw[hk]at h1
 unfold Z50 at h1
 split at h1
 · rename_i hw
   simp only[Option.some.injEq,Prod.mk.injEq]at h1
   obtain⟨e1,e2,-⟩:=h1
   have h3:t.text.take (Z0d t.text)=t.text:=by rw[e2,Y0m]
   rw[h3]at e1
   have h4:keysL.contains t.text=false:=by
    cases hq:keysL.contains t.text with
    |false=>rfl
    |true=>rw[hq]at e1;simp at e1
   unfold Z38
   rw[h4,e2,h2]
   simp
 · split at h1
   ·simp at h1
   ·split at h1<;>simp at h1
theorem ZdQ{l:List Tk}{n i:Nat}(h:i<(Z1q l n).length):∃t∈l++[(⟨5,[],0,n⟩:Tk)],(Z1q l n)[i]=t.q:=by
 unfold Z1q at h⊢
 exact⟨(l++[(⟨5,[],0,n⟩:Tk)])[i]'(by simpa using h),Y0G _,List.getElem_map ..⟩
theorem Zhe:∀(n pos:Nat)(s:List UInt8)(l:List Tk),Z4R n pos s = .inr l->∀t∈l,t.text.length<=s.length
 |0,pos,s,l,h=>by cases h;intro t ht;cases ht
 |n+1,pos,s,l,h=>by
  unfold Z4R at h
  split at h
  ·cases h;intro t ht;cases ht
  · split at h
    ·cases h
    · rename_i kd len num hk
      split at h
      ·cases h
      · rename_i l2 h2
        cases h
        intro t ht
        cases ht with
        |head=>simp only[Y0o];omega
        |tail _ ht=>have:=Zhe n _ _ _ h2 t ht;simp only[Y0H]at this;omega
theorem Z7Z{s:List UInt8}{l:List Tk}(h:Z6q s = .inr l)(hs:s.length<=65536)(n:Nat):TqW (Z1q l n):=by
 have h1:=ZcV _ _ _ _ h
 have h0:=Zhe _ _ _ _ h
 have h2:∀t∈l++[(⟨5,[],0,n⟩:Tk)],t.kind=1->Z38 t.text=true/\t.text.length<=9223372036854775807:=by
  intro t ht hk
  rcases List.mem_append.1 ht with ht|ht
  · have:=h0 t ht
    simp only[Y0H]at this
    exact⟨Zgk (h1 t ht) hk,by omega⟩
  · have e:=List.mem_singleton.1 ht
    rw[e]at hk
    exact absurd hk (show ¬(5:Nat)=1 by decide)
 refine⟨λi h hk=>?_,λi h hk=>?_,?_⟩
 · obtain⟨t,ht,e⟩:=ZdQ h
   rw[e]at hk⊢
   exact h2 t ht (by have:((t.kind:Nat):Int)=1:=hk;omega)
 · obtain⟨t,ht,e⟩:=ZdQ h
   rw[e]
   show (0:Int)<=((t.num:Nat):Int)
   omega
 · have:=Zae _ _ _ _ h
   have:=Z2u l n
   omega
end
section
variable {gl:Z0g}
theorem Z2U{T:List Tq}:∀(k:Nat)(ds:List Dc)(ts:List (List St))(s:Ps),PsOK T s->PsOK T (Z1o T k ds ts s).2
 |0,ds,ts,s,h=>h
 |k+1,ds,ts,s,h=>by
  unfold Z1o
  split
  · split
    ·rename_i h1;exact Z2U k _ _ _ (ZaH false (Z0b h h1).ok).ok
    split
    ·rename_i h1;exact Z2U k _ _ _ (ZaH true (Z0b h h1).ok).ok
    split
    ·rename_i h1;exact Z2U k _ _ _ (Zij (gl:=λ_=>none) T _ (Z0b h h1).ok (Y0e _)).1.ok
    ·exact Z2U k _ _ _ (Z4W h _ _).ok
  ·exact h
theorem Zjq {txt : List UInt8} {c : Nat} {pc : List AV} {ty : TypeId} {e a : Int} (he : e ≠ 0) (hpr : refsL pc [] = []) (hA : ValOK Y00 gl 53 [.str txt] (.tuple [.nslice, .agg [.int .i64 e, .int .i64 a]])) :
  MemQ Y00 gl 1 26 [.str txt,.func (.func c) [] [.ptr 0 0]] [⟨true,0,0,.cells pc ty⟩] (.agg [.int .i64 e,.int .i64 a]) [⟨true,0,0,.cells pc ty⟩]:=by
 obtain⟨OA,hOA,-,⟨pA,-⟩⟩:=Z3v (P:=Y00) (gl:=gl) [] [Zbn (by kernel_rfl) rfl hA] rfl
 have qA:∀H,Z05 Y00 OA H 53 [.str txt]=some (.tuple [.nslice,.agg [.int .i64 e,.int .i64 a]],H):=λH=>pA () trivial H
 have e1:(e==0)=false:=by simpa using he
 have e2:(e != 0)=true:=by simpa using he
 refine Z2o ZiW 3 follows Z06 hOA Tryz.func26 rfl ?_
 repeat' ((conv=>whnf);first|refine exI (qA _) ?_|refine stp ?_|with_reducible apply Z01<;>intro h)
 all_goals (try (conv=>whnf))
 all_goals exact⟨[0],rfl,⟨⟨rfl,rfl,rfl,rfl,Y0k (rest:=[]) (Y0c pc).symm hpr⟩,trivial⟩,rfl,Y01 rfl⟩
def Z2z(s:List UInt8)(run:List Tq->Ps):Int×Int:=match Z6q s with
 | .inl e=>(4,(e:Nat))
 | .inr l=>((Z49 (Z1q l s.length) (run (Z1q l s.length))).err,(Z49 (Z1q l s.length) (run (Z1q l s.length))).at_)
def Z2v(s:List UInt8):List Tq:=match Z6q s with
 | .inl _=>[]
 | .inr l=>Z1q l s.length
theorem Zjr {s : List UInt8} (hs : s.length <= 65536) {run : List Tq -> Ps} {c : Nat} {pc : List AV} {pcF : List Tq -> List AV} {ty : TypeId} (hcb : Z0h Y00 c = true) (hcn : Z0Q [c, 56] = true) (hpr : refsL pc [] = []) (hpn : ∀ g, renL g pc = pc) (hpr' : ∀ T, refsL (pcF T) [] = []) (hren : ∀ T g, renL g (pcF T) = pcF T)
  (hC:∀T,TqOK T->TqW T->PsOK T s0->MemX Y00 runLives.gl (XF (run T)) c [.ptr 0 0,.ptr 11 0] (gB T s0++[⟨true,11,0,.cells pc ty⟩]) (.tuple []) (gB T (run T)++[⟨true,11,0,.cells (pcF T) ty⟩])) (hE:∀T,TqW T->PsOK T s0->(run T).err=0->PsOK T (run T)/\(run T).at_=0) :
  ∃al cs ty',MemQ Y00 runLives.gl 1 26 [.str s,.func (.func c) [] [.ptr 0 0]] [⟨true,0,0,.cells pc ty⟩] (.agg [.int .i64 (Z2z s run).1,.int .i64 (Z2z s run).2]) [⟨al,0,0,.cells cs ty'⟩]/\(refsL cs []=[]/\∀g,renL g cs=cs)/\((Z2z s run).1=0->al=true/\cs=pcF (Z2v s)/\ty'=ty):=by
 have hA:=pg.all_ok s hs
 unfold Z2z Z2v
 cases hl:Z6q s with
 |inl e =>
  have h1:ZiZ s = .tuple [.nslice,.agg [.int .i64 4,.int .i64 (e:Nat)]]:=by unfold ZiZ;rw[if_neg (by omega),hl]
  rw[h1]at hA
  exact⟨_,_,_,Zjq (show (4:Int)≠0 by decide) hpr hA,⟨hpr,hpn⟩,λh=>absurd h (show ¬(4:Int)=0 by decide)⟩
 |inr l =>
  rw[Zlo hl hs]at hA
  have hT:=Zkz hl s.length
  have hW:=Z7Z hl hs s.length
  have hP:=ZkA hl hs
  have hR:=ZlE (by rw[Z2u];omega) hcb hcn hpr (hpr' _) (hren _) hA (hC _ hT hW hP) (hE _ hW hP)
  unfold rdE rdR at hR
  cases hz:(Z49 (Z1q l s.length) (run (Z1q l s.length))).err==0 with
  |true =>
   rw[hz]at hR
   exact⟨true,pcF (Z1q l s.length),ty,hR,⟨hpr' _,hren _⟩,λ_=>⟨rfl,rfl,rfl⟩⟩
  |false =>
   rw[hz]at hR
   exact⟨false,[],0,hR,⟨rfl,λ_=>rfl⟩,λh=>absurd h (by simpa using hz)⟩
theorem Zeb {s : List UInt8} {c : Nat} {pc cs z : List AV} {ty ty' t0 t1 : TypeId} {al : Bool} {e a : Int} (h : MemQ Y00 gl 1 26 [.str s, .func (.func c) [] [.ptr 0 0]] [⟨true, 0, 0, .cells pc ty⟩] (.agg [.int .i64 e, .int .i64 a]) [⟨al, 0, 0, .cells cs ty'⟩])
  (hpr:refsL pc []=[]) (hcs:refsL cs []=[]/\∀g,renL g cs=cs) :
  Z2i Y00 gl 26 [.str s,.func (.func c) [] [.ptr 2 0]] [⟨true,0,0,.cells z t0⟩,⟨true,1,0,.cells [.int .i64 0,.int .i64 0] t1⟩,⟨true,2,0,.cells pc ty⟩] (.agg [.int .i64 e,.int .i64 a]) [⟨true,0,0,.cells z t0⟩,⟨true,1,0,.cells [.int .i64 0,.int .i64 0] t1⟩,⟨al,2,0,.cells cs ty'⟩]:=by
 have h1:=Zbr h rfl rfl (λb o1 o2 e1 e2=>by
  match b,e1,e2 with
  |0,e1,e2=>cases e1;cases e2;exact⟨rfl,rfl,λ_=>rfl⟩
  |b+1,e1,e2=>cases e1)
 have h2:=ZlO (m:=[2]) (Hc:=[⟨true,0,0,.cells z t0⟩,⟨true,1,0,.cells [.int .i64 0,.int .i64 0] t1⟩,⟨true,2,0,.cells pc ty⟩]) (cargs:=[.str s,.func (.func c) [] [.ptr 2 0]]) h1 (Wk.tuple ⟨Y01 rfl,Y0f trivial ⟨Y02 rfl rfl,trivial⟩,trivial⟩) ⟨⟨rfl,rfl,rfl,rfl,Y0k (rest:=[]) (Y0c pc).symm hpr⟩,trivial⟩ rfl rfl (by cases al<;>rfl) (λo ho=>by
  simp only[Y0z,Y0L,or_false]at ho
  rcases ho with rfl|rfl|rfl
  ·exact (show 0<3 by decide)
  ·exact (show 1<3 by decide)
  ·exact (show 2<3 by decide)) (λi o hi=>by
  match i,hi with
  |0,hi=>cases hi;show Z12 1 (refsL cs [])=true;rw[hcs.1];rfl
  |i+1,hi=>cases hi) rfl
 have e:renL (sgS [2] 3) cs=cs:=hcs.2 _
 rw[<- e]
 exact h2
end
section
def Z3x:List (List St)->Nat
 |[]=>0
 |l::t=>max (deepSL l) (Z3x t)
end
section
def ckB(n:Nat)(g:Bool):Z00:=[⟨true,0,0,.cells [.int .i64 n] 3⟩,⟨true,1,0,.cells [.bool g] 4⟩,⟨true,2,0,.cells [.func (.func 102) [] [.ptr 0 0]] 96⟩]
def ckH(s:Nat×Bool):Z00:=[⟨true,0,0,.cells [.int .i64 s.1] 3⟩,⟨true,1,0,.cells [.bool s.2] 4⟩,⟨true,2,0,.cells [.func (.func 102) [] [.ptr 0 0]] 96⟩,⟨true,3,0,.cells [.func (.func 62) [] [.ptr 2 0,.ptr 1 0]] 96⟩]
def lim(n:Nat)(d:Int):Bool:=decide (((n+1:Nat):Int)<=2000)&&decide (d<=32)
def ckE(_:Ex)(d:Int)(s:Nat×Bool):Bool×(Nat×Bool):=(lim s.1 d,(s.1+1,lim s.1 d))
def ckS(_:St)(d:Int)(s:Nat×Bool):Bool×(Nat×Bool):=(lim s.1 d,(s.1+1,lim s.1 d))
theorem Zoa(cs:List AV)(d:Int)(n:Nat)(g:Bool)(hn:n<=2000):Z2i Y00 runLives.gl 103 [.rp cs,.int .i64 d,.ptr 3 0] (ckH (n,g)) (.bool (lim n d)) (ckH (n+1,lim n d)):=by
 refine ZbK (k:=4) follows Z06 (Z0e follows Z06 Z14 4) rfl Tryz.func103 rfl (Z0p (isC:=λ_=>false) 4) ?_
 repeat' ((conv=>whnf);first|refine stp ?_|with_reducible apply Z01<;>intro h)
 all_goals (conv=>whnf)
 all_goals (exact⟨by unfold lim;rw[h];rfl,by unfold lim;rw[h];rfl,rfl⟩)
theorem Zo9(cs:List AV)(d:Int)(n:Nat)(g:Bool)(hn:n<=2000):Z2i Y00 runLives.gl 104 [.rp cs,.int .i64 d,.ptr 3 0] (ckH (n,g)) (.bool (lim n d)) (ckH (n+1,lim n d)):=by
 refine ZbK (k:=4) follows Z06 (Z0e follows Z06 Z14 4) rfl Tryz.func104 rfl (Z0p (isC:=λ_=>false) 4) ?_
 repeat' ((conv=>whnf);first|refine stp ?_|with_reducible apply Z01<;>intro h)
 all_goals (conv=>whnf)
 all_goals (exact⟨by unfold lim;rw[h];rfl,by unfold lim;rw[h];rfl,rfl⟩)
theorem ZmG{a b:Nat×Bool}(h:ckH a=ckH b):a=b:=by
 simp only[ckH,List.cons.injEq,AObj.mk.injEq,ABody.cells.injEq,AV.int.injEq,AV.bool.injEq,and_true,true_and]at h
 obtain⟨x,y⟩:=a
 obtain⟨z,w⟩:=b
 simp only at h
 rw[show x=z by omega,h.2]
def tw(r:Bool×Nat):Bool×(Nat×Bool):=(r.1,(r.2,r.1))
theorem Z6s{r:Bool×Nat}{f:Nat->Bool×Nat}{f':Nat×Bool->Bool×(Nat×Bool)}(h:∀n,f' (n,true)=tw (f n)):Z1l (tw r) f'=tw (Z1l r f):=by
 obtain⟨b,n⟩:=r
 cases b with
 |true=>exact h n
 |false=>rfl
mutual
theorem ZnM:∀(e:Ex)(d:Int)(n:Nat),goE ckE e d (n,true)=tw (goE cE e d n)
 | .mk o num s k,d,n=>by
  have e1:goE ckE (.mk o num s k) d (n,true)=Z1l (tw (cE (.mk o num s k) d n)) λs=>goL ckE k (d+1) s:=by simp only[goE];rfl
  have e2:goE cE (.mk o num s k) d n=Z1l (cE (.mk o num s k) d n) λs=>goL cE k (d+1) s:=by simp only[goE,Z1l]
  rw[e1,e2]
  exact Z6s λn=>goL_ck k (d+1) n
theorem goL_ck:∀(l:List Ex)(d:Int)(n:Nat),goL ckE l d (n,true)=tw (goL cE l d n)
 |[],d,n=>by simp only[goL,tw]
 |e::l,d,n=>by
  have e1:goL ckE (e::l) d (n,true)=Z1l (goE ckE e d (n,true)) λs=>goL ckE l d s:=by simp only[goL,Z1l]
  have e2:goL cE (e::l) d n=Z1l (goE cE e d n) λs=>goL cE l d s:=by simp only[goL,Z1l]
  rw[e1,e2,ZnM e d n]
  exact Z6s λn=>goL_ck l d n
end
mutual
theorem ZnK:∀(x:St)(d:Int)(n:Nat),goS ckE ckS x d (n,true)=tw (goS cE cS x d n)
 | .mk k nm lc o x t e,d,n=>by
  simp only[goS]
  rw[show ckS (.mk k nm lc o x t e) d (n,true)=tw (cS (.mk k nm lc o x t e) d n) from rfl]
  exact Z6s λn=>by
   rw[goL_ck x (d+1) n]
   exact Z6s λn=>by
    rw[goSL_ck t (d+1) n]
    exact Z6s λn=>goSL_ck e (d+1) n
theorem goSL_ck:∀(l:List St)(d:Int)(n:Nat),goSL ckE ckS l d (n,true)=tw (goSL cE cS l d n)
 |[],d,n=>by simp only[goSL,tw]
 |e::l,d,n=>by
  simp only[goSL]
  rw[ZnK e d n]
  exact Z6s λn=>goSL_ck l d n
end
theorem ZeT(d:Int)(s:Nat×Bool)(h:0<=d/\d<=33/\s.1<=2000)(ht:lim s.1 d=true):0<=d+1/\d+1<=33/\s.1+1<=2000 :=
 have h2:s.1+1<=2000/\d+1<=33:=(Zdl d s.1).1.1 ht
 have h3:0<=d:=h.1
 ⟨by clear h ht h2;omega,h2.2,h2.1⟩
theorem Zo8(d:Int)(s:Nat×Bool)(h0:0<=d)(h:0<=d+1/\d+1<=33/\s.1<=2000):0<=d/\d<=33/\s.1<=2000:=⟨h0,by have:=h.2.1;clear h;omega,h.2.2⟩
theorem ZmF(d:Int)(s:Nat×Bool)(h:0<=d/\d<=33/\s.1<=2000):0<=d/\d<=1152921504606846976:=⟨h.1,by have:=h.2.1;clear h;omega⟩
def ckV:TvS runLives.gl where
 σ:=Nat×Bool
 Mem:=ckH
 k:=4
 len:=λ_=>rfl
 same:=λs=>⟨⟨hbp,hbp,⟨rfl,rfl,rfl,rfl,Y06 ⟨Y0f trivial ⟨Y02 rfl rfl,trivial⟩,trivial⟩⟩,⟨rfl,rfl,rfl,rfl,Y06 ⟨Y0f trivial ⟨Y02 rfl rfl,Y02 rfl rfl,trivial⟩,trivial⟩⟩,trivial⟩,rfl,rfl⟩
 evo:=λ_ _=>rfl
 inj:=λ_ _ h=>ZmG h
 I:=λd s m=>0<=d/\d<=33/\s.1<=2000
 up:=λd s m h0 h=>Zo8 d s h0 h
 less:=λd s m h=>h
 bnd:=λd s m h=>ZmF d s h
 gE:=103
 cE:=[.ptr 3 0]
 hE:=ckE
 bodyE:=by kernel_rfl
 wkE:=⟨Y02 rfl rfl,trivial⟩
 okE:=λe rest d s m _ h=>Zoa (e.cells++rest) d s.1 s.2 h.2.2
 downE:=λe d s m h ht=>ZeT d s h ht
 gS:=104
 cS:=[.ptr 3 0]
 hS:=ckS
 bodyS:=by kernel_rfl
 wkS:=⟨Y02 rfl rfl,trivial⟩
 okS:=λx rest d s m _ h=>Zo9 (x.cells++rest) d s.1 s.2 h.2.2
 downS:=λe d s m h ht=>ZeT d s h ht
def ckF:AV:=.func (.func 103) [] [.ptr 3 0]
def ckG:AV:=.func (.func 104) [] [.ptr 3 0]
theorem Zkk(l:List St)(n:Nat)(hok:okSL l)(hl:l.length<=9223372036854775807)(hn:n<=2000):Z2i Y00 runLives.gl 64 [stA l,.int .i64 1,ckF,ckG] (ckH (n,true)) (.bool (goSL cE cS l 1 n).1) (ckH ((goSL cE cS l 1 n).2,(goSL cE cS l 1 n).1)):=by
 have:=TvS.stmts ckV (sizeSL l) l 1 (n,true) 0 (Y0a _) hok hl ⟨by decide,by decide,hn⟩
 have e:goSL ckV.hE ckV.hS l 1 (n,true)=tw (goSL cE cS l 1 n):=goSL_ck l 1 n
 rw[e]at this
 exact this
def cnH(n:Nat)(g:Bool)(nd nt:Nat)(cd ct:List AV):Z00:=[⟨true,0,0,.cells [.int .i64 n] 3⟩,⟨true,1,0,.cells [.bool g] 4⟩,⟨true,2,0,.cells [.func (.func 102) [] [.ptr 0 0]] 96⟩,⟨true,3,0,.cells [.rs nd 3 cd,.rs nt 1 ct] 26⟩,⟨true,4,0,.cells [.func (.func 62) [] [.ptr 2 0,.ptr 1 0]] 96⟩]
def cnF:AV:=.func (.func 103) [] [.ptr 4 0]
def cnG:AV:=.func (.func 104) [] [.ptr 4 0]
theorem Zp8(nd nt:Nat)(cd ct:List AV)(l:List St)(n:Nat)(hok:okSL l)(hl:l.length<=9223372036854775807)(hn:n<=2000):Z2i Y00 runLives.gl 64 [stA l,.int .i64 1,cnF,cnG] (cnH n true nd nt cd ct) (.bool (goSL cE cS l 1 n).1) (cnH (goSL cE cS l 1 n).2 (goSL cE cS l 1 n).1 nd nt cd ct):=by
 have hM:=Zkk l n hok hl hn
 generalize goSL cE cS l 1 n=r at *
 have h:=Zbs (m:=[0,1,2,4]) (n:=5) (Hc:=cnH n true nd nt cd ct) (cargs:=[stA l,.int .i64 1,cnF,cnG]) hM ?_ ?_ rfl rfl rfl rfl rfl rfl
 · have e1:Zff [0,1,2,4] (ckH (r.2,r.1)) 0 (cnH n true nd nt cd ct)=cnH r.2 r.1 nd nt cd ct:=rfl
   rw[e1]at h
   exact h
 ·rfl
 ·exact⟨hbp,hbp,⟨rfl,rfl,rfl,rfl,Y06 ⟨Y0f trivial ⟨Y02 rfl rfl,trivial⟩,trivial⟩⟩,⟨rfl,rfl,rfl,rfl,Y06 ⟨Y0f trivial ⟨Y02 rfl rfl,Y02 rfl rfl,trivial⟩,trivial⟩⟩,trivial⟩
def goT(g:List St->Nat->Bool×Nat):List (List St)->Nat->Bool×Nat
 |[],n=>(true,n)
 |l::t,n=>Z1l (g l n) λn=>goT g t n
theorem ZkT{g:List St->Nat->Bool×Nat}:∀(t:List (List St))(n i:Nat)(hi:i<t.length),(goT g (t.take i) n).1=true->goT g (t.take (i+1)) n=g t[i] (goT g (t.take i) n).2
 |e::l,n,0,_,_=>by
  simp only[Y0t,Y0p,goT,Y0M,Z1l]
  split
  ·rename_i h2;rw[<- h2]
  ·rename_i h2;rw[<- Bool.eq_false_iff.2 h2]
 |e::l,n,i+1,hi,ht=>by
  simp only[Y0p,goT,Y0A,Z1l]at ht⊢
  split
  · rename_i h2
    rw[if_pos h2]at ht
    exact ZkT l _ i (by simpa using hi) ht
  ·rename_i h2;rw[if_neg h2]at ht;cases ht
theorem Zez{g:List St->Nat->Bool×Nat}:∀(t:List (List St))(n i:Nat),(goT g (t.take i) n).1=false->goT g t n=goT g (t.take i) n
 |[],n,i,hf=>by simp
 |e::l,n,0,hf=>by simp only[Y0t,goT]at hf;cases hf
 |e::l,n,i+1,hf=>by
  simp only[Y0p,goT,Z1l]at hf⊢
  split
  · rename_i h2
    rw[if_pos h2]at hf
    exact Zez l _ i hf
  ·rfl
def cT(ts:List (List St))(n:Nat):Bool×Nat:=goT (λl n=>goSL cE cS l 1 n) ts n
theorem Zih:∀(ts:List (List St))(n:Nat),n<=2000->Cnt (cT ts n) n (Z0v ts) (1+Z3x ts)
 |[],n,h=>by
  simp only[cT,goT,Z0v,Z3x]
  exact⟨⟨λ_=>by omega,λ_=>rfl⟩,λ_=>rfl⟩
 |l::t,n,h=>by
  have:=Z3V (f:=λn=>cT t n) (goSL_c l 1 n h (by omega)) λh1 _=>Zih t _ h1
  refine Cnt.to this (by simp only[Z0v]) ?_
  simp only[Z3x];omega
theorem ZjB (ts : List (List St)) (nd : Nat) (cd : List AV) (hok : Zg7 ts) (hl : ts.length <= 9223372036854775807) :
  Z2i Y00 runLives.gl 61 [.agg [.rs nd 3 cd,.rs ts.length 1 (ts.map stA)],.func (.func 62) [] [.ptr 2 0,.ptr 1 0]] (ckB 0 true) (.tuple []) (ckB (cT ts 0).2 (cT ts 0).1):=by
 obtain⟨O,hO,⟨p1,-⟩,-⟩:=Z3v (P:=Y00) (gl:=runLives.gl) [{ I:=List St×Nat,f:=64,G:=(λp=>okSL p.1/\p.1.length<=9223372036854775807/\p.2<=2000),A:=(λp=>[stA p.1,.int .i64 1,cnF,cnG]),H:=(λp=>cnH p.2 true nd ts.length cd (ts.map stA)),R:=(λp=>.bool (goSL cE cS p.1 1 p.2).1),O:=(λp=>cnH (goSL cE cS p.1 1 p.2).2 (goSL cE cS p.1 1 p.2).1 nd ts.length cd (ts.map stA)),body:=(by kernel_rfl),inj:=(λp q _ _ ha hh=>by simp only[List.cons.injEq,and_true]at ha;simp only[cnH,List.cons.injEq,AObj.mk.injEq,ABody.cells.injEq,AV.int.injEq,and_true,true_and]at hh;rw[Z5i ha,show p.2=q.2 by omega];exact⟨rfl,rfl⟩),ok:=(λp hp=>Zp8 _ _ _ _ p.1 p.2 hp.1 hp.2.1 hp.2.2) }] [] rfl
 have q1:∀l n,okSL l->l.length<=9223372036854775807->n<=2000->Z05 Y00 O (cnH n true nd ts.length cd (ts.map stA)) 64 [stA l,.int .i64 1,cnF,cnG]=some (.bool (goSL cE cS l 1 n).1,cnH (goSL cE cS l 1 n).2 (goSL cE cS l 1 n).1 nd ts.length cd (ts.map stA)):=λl n h1 h2 h3=>p1 (l,n) ⟨h1,h2,h3⟩
 clear p1
 refine ZbK (k:=3) follows Z06 hO rfl Tryz.func61 rfl (Z9G _ _) ?_
 repeat' ((conv=>whnf);first|refine stp ?_|with_reducible apply Z01<;>intro h)
 conv=>whnf
 refine⟨Nat,(λi=>i<=ts.length/\(cT (ts.take i) 0).1=true),(λi=>[(4,cnF),(5,cnG),(11,.rs ts.length 1 (ts.map stA)),(12,.int .i64 ts.length),(13,.int .i64 i)]),(λi=>cnH (cT (ts.take i) 0).2 true nd ts.length cd (ts.map stA)),(λi=>ts.length-i),⟨0,⟨Y0e _,rfl⟩,Y0b [0,1,2,3,4] rfl rfl ?_ ⟨hbp,hbp,⟨rfl,rfl,rfl,rfl,Y06 ⟨Y0f trivial ⟨Y02 rfl rfl,trivial⟩,trivial⟩⟩,hbp,⟨rfl,rfl,rfl,rfl,Y06 ⟨Y0f trivial ⟨Y02 rfl rfl,Y02 rfl rfl,trivial⟩,trivial⟩⟩,trivial⟩ rfl⟩,?_⟩
 · refine Y0g (Y0f trivial ⟨Y02 rfl rfl,trivial⟩) ?_
   refine Y0g (Y0f trivial ⟨Y02 rfl rfl,trivial⟩) ?_
   refine Y0g (Y01 rfl) ?_
   refine Y0g (Y03 rfl) ?_
   exact⟨Y03 rfl,trivial⟩
 rintro i ⟨hi,hall⟩
 dsimp only
 have hb:(cT (ts.take i) 0).2<=2000:=by
  have h1:=Zih (ts.take i) 0 (by decide)
  rw[h1.2 hall];exact (h1.1.1 hall).1
 by_cases hlt:i<ts.length
 · have e1:decide ((i:Int)<(ts.length:Int))=true:=by simpa using hlt
   have hat:cT (ts.take (i+1)) 0=goSL cE cS ts[i] 1 (cT (ts.take i) 0).2:=ZkT ts 0 i hlt hall
   have hst:(cT (ts.take (i+1)) 0).1=false->cT ts 0=cT (ts.take (i+1)) 0:=Zez ts 0 (i+1)
   have hx:=th1 ts i hlt
   obtain⟨k1,k2⟩:=Z5Y hok _ (Z1g hlt)
   have q2:=q1 ts[i] (cT (ts.take i) 0).2 k1 k2 hb
   generalize (cT (ts.take i) 0).2=n at *
   generalize ts[i]=l at *
   generalize goSL cE cS l 1 n=r at *
   obtain⟨b,n2⟩:=r
   simp only[stA]at hx
   simp only[stA,cnF,cnG,cnH]at q2
   cases b with
   |true =>
    repeat' ((conv=>whnf);first|refine exI hx ?_|refine exI q2 ?_|(with_reducible refine ixJ i rfl ?_ ?_;focus omega)|refine stp ?_|with_reducible apply Z01<;>intro h)
    conv=>whnf
    refine⟨i+1,⟨hlt,by rw[hat]⟩,by show ts.length-(i+1)<ts.length-i;omega,Y0b [0,1,2,3,4] rfl rfl ?_ ⟨⟨rfl,rfl,rfl,rfl,?_⟩,hbp,⟨rfl,rfl,rfl,rfl,Y06 ⟨Y0f trivial ⟨Y02 rfl rfl,trivial⟩,trivial⟩⟩,hbp,⟨rfl,rfl,rfl,rfl,Y06 ⟨Y0f trivial ⟨Y02 rfl rfl,Y02 rfl rfl,trivial⟩,trivial⟩⟩,trivial⟩ rfl⟩
    · refine Y0g (Y0f trivial ⟨Y02 rfl rfl,trivial⟩) ?_
      refine Y0g (Y0f trivial ⟨Y02 rfl rfl,trivial⟩) ?_
      refine Y0g (Y01 rfl) ?_
      refine Y0g (Y03 rfl) ?_
      exact⟨Y03 rfl,trivial⟩
    · rw[hat]
      exact Y0k (rest:=[]) rfl rfl
   |false =>
    rw[hst (by rw[hat]),hat]
    repeat' ((conv=>whnf);first|refine exI hx ?_|refine exI q2 ?_|(with_reducible refine ixJ i rfl ?_ ?_;focus omega)|refine stp ?_|with_reducible apply Z01<;>intro h)
    all_goals (conv=>whnf)
    all_goals (exact⟨rfl,rfl⟩)
 · have e1:decide ((i:Int)<(ts.length:Int))=false:=by simpa using hlt
   have hi2:i=ts.length:=by have:=hi;omega
   subst hi2
   rw[Y0m]at hall⊢
   rw[hall]
   generalize (cT ts 0).2=n at *
   repeat' ((conv=>whnf);first|refine stp ?_|with_reducible apply Z01<;>intro h)
   all_goals (conv=>whnf)
   all_goals (exact⟨rfl,rfl⟩)
end
section
variable {gl:Z0g}
def ZnZ{g:Nat}(hb:Z0h Y00 g=true)(r:List St->AV)(G:List St->Prop)(each:∀x,G x->ValOK Y00 gl g [stA x] (r x)):Fam Y00 gl where
 I:=List St
 f:=g
 G:=G
 A:=λx=>[stA x]
 R:=r
 body:=hb
 inj:=λi j _ _ h=>by simp only[List.cons.injEq,and_true]at h;rw[Z5i h]
 ok:=λx hx=>⟨rfl,each x hx⟩
def famX{g:Nat}(hb:Z0h Y00 g=true)(r:Ex->AV)(G:Ex->Prop)(each:∀k,G k->ValOK Y00 gl g [.agg k.cells] (r k)):Fam Y00 gl where
 I:=Ex
 f:=g
 G:=G
 A:=λk=>[.agg k.cells]
 R:=r
 body:=hb
 inj:=λi j _ _ h=>by rw[Zix h]
 ok:=λk hk=>⟨ZhV k,each k hk⟩
theorem Zbd:∀(n:Nat)(l:List St),sizeSL l<=n->sizeSL l<=1048576->ValOK Y00 gl 35 [stA l] (.int .i64 (sizeSL l))
 |n,l,h,hb=>by
  obtain⟨O,hO,p1,p2,-⟩:=fams (P:=Y00) (gl:=gl) [ZnZ (g:=35) (by kernel_rfl) (λx=>.int .i64 (sizeSL x)) (λx=>sizeSL x<n/\sizeSL x<=1048576) (λx hx=>match n,hx with|n+1,hx=>Zbd n x (by omega) hx.2),
   famX (g:=76) (by kernel_rfl) (λk=>.int .i64 (Z1x k)) (λk=>Z1x k<=1048576) (λk hk=>Ze3 _ k (Y0a _) hk)] rfl
  have q1:∀x,sizeSL x<n/\sizeSL x<=1048576->∀H,Z05 Y00 O H 35 [stA x]=some (.int .i64 (sizeSL x),H):=p1
  have q2:∀k,Z1x k<=1048576->∀H,Z05 Y00 O H 76 [.agg k.cells]=some (.int .i64 (Z1x k),H):=p2
  clear p1 p2
  have hlen:=Z9h l
  simp only[stA]at q1⊢
  refine Z0B follows Z06 hO Tryz.func35 rfl ?_
  repeat' ((conv=>whnf);first|refine stp ?_|with_reducible apply Z01<;>intro h)
  conv=>whnf
  refine⟨Nat,(λi=>i<=l.length),(λi=>[(0,.rs l.length 7 (stC l)),(3,.int .i64 (sizeSL (l.take i):Nat)),(4,.int .i64 i)]),(λ_=>[]),(λi=>l.length-i),⟨0,Y0e _,Y0i rfl ?_⟩,?_⟩
  ·simp only[Y0t,sizeSL];exact wks
  intro i hi
  dsimp only
  by_cases hlt:i<l.length
  · have e1:decide ((i:Int)<(l.length:Int))=true:=by simpa using hlt
    have hs:=Z8a l i hlt
    have hg:=Z6y l i hlt
    have hse:=Z7B l[i]
    have hx4:tk 1 (((stC l).drop (i*7)).drop 4)=some [exA l[i].exprs]:=by rw[Z5N l i hlt];exact Zl4 _ _
    have hx5:tk 1 (((stC l).drop (i*7)).drop 5)=some [stA l[i].thn]:=by rw[Z5N l i hlt];exact Zl5 _ _
    have hx6:tk 1 (((stC l).drop (i*7)).drop 6)=some [stA l[i].els]:=by rw[Z5N l i hlt];exact Zl6 _ _
    have qt:=q1 l[i].thn ⟨by omega,by omega⟩
    have qe:=q1 l[i].els ⟨by omega,by omega⟩
    generalize l[i]=x at *
    simp only[exA,stA]at hx4 hx5 hx6
    have hxl:=Z8b x.exprs
    generalize hT:sizeSL x.thn=zt at *
    generalize hE:sizeSL x.els=ze at *
    repeat' ((conv=>whnf);first|refine exI hx4 ?_|refine exI hx5 ?_|refine exI hx6 ?_|refine exI (qt _) ?_|refine exI (qe _) ?_|(with_reducible refine ixJ i rfl ?_ ?_;focus omega)|refine stp ?_|with_reducible apply Z01<;>intro h)
    conv=>whnf
    refine⟨Nat,(λk=>k<=x.exprs.length),(λk=>[(0,.rs l.length 7 (stC l)),(3,.int .i64 (sizeSL (l.take i)+1+zt+ze+sizeL (x.exprs.take k):Nat)),(4,.int .i64 i),(5,.int .i64 k)]),(λ_=>[]),(λk=>x.exprs.length-k),⟨0,Y0e _,Y0i rfl ?_⟩,?_⟩
    ·simp only[Y0t,sizeL];exact wks
    intro k hk
    dsimp only
    by_cases hkt:k<x.exprs.length
    · have e2:decide ((k:Int)<(x.exprs.length:Int))=true:=by simpa using hkt
      have hy:=ex4 x.exprs k hkt
      have ht:=Z6z x.exprs k hkt
      have hgk:=Z5P x.exprs k hkt
      have qk:=q2 x.exprs[k] (by omega)
      generalize x.exprs[k]=y at *
      repeat' ((conv=>whnf);first|refine exI hx4 ?_|refine exI hy ?_|refine exI (qk _) ?_|(with_reducible refine ixJ i rfl ?_ ?_;focus omega)|(with_reducible refine ixJ k rfl ?_ ?_;focus omega)|refine stp ?_|with_reducible apply Z01<;>intro h)
      conv=>whnf
      refine⟨k+1,hkt,by show x.exprs.length-(k+1)<x.exprs.length-k;omega,Y0i rfl ?_⟩
      rw[ht];exact wks
    · have e2:decide ((k:Int)<(x.exprs.length:Int))=false:=by simpa using hkt
      have hk2:k=x.exprs.length:=by have:=hk;omega
      subst hk2
      repeat' ((conv=>whnf);first|refine exI hx4 ?_|(with_reducible refine ixJ i rfl ?_ ?_;focus omega)|refine stp ?_|with_reducible apply Z01<;>intro h)
      conv=>whnf
      refine⟨i+1,hlt,by show l.length-(i+1)<l.length-i;omega,Y0i rfl ?_⟩
      rw[hs,Y0m,hse];exact wks
  · have e1:decide ((i:Int)<(l.length:Int))=false:=by simpa using hlt
    have hi2:i=l.length:=by have:=hi;omega
    subst hi2
    rw[Y0m]
    repeat' ((conv=>whnf);first|refine stp ?_|with_reducible apply Z01<;>intro h)
    all_goals rfl
end
section
set_option maxHeartbeats 8000000
variable {gl:Z0g}
def isK(k:Int):Bool:=decide (1<=k/\k<=11)
def hX(k:Int):Int:=if isK k then ZnG k else 0
def hT(k:Int):Bool:=isK k&&Zom k
end
section
variable {gl:Z0g}
def dcB(d:Dc):Bool:=Z38 d.name&&decide (0<=d.val)
def Z1n:List (List St)->Bool
 |[]=>true
 |l::t=>rightSL l&&Z1n t
def Z1N(p:Pr):Int:=if 2000<Z0v p.threads\/32<Z3x p.threads then 3 else if p.decls.all dcB&&Z1n p.threads then 0 else 2
theorem Z70:∀(l:List (List St))(i:Nat)(h:i<l.length),Z1n (l.take (i+1))=(Z1n (l.take i)&&rightSL l[i])
 |e::l,0,h=>by simp only[Y0p,Y0t,Z1n,Y0M,Bool.and_true,Y0B]
 |e::l,i+1,h=>by
  have:=Z70 l i (by simpa using h)
  simp only[Y0p,Z1n,Y0A]at this⊢;rw[this,Bool.and_assoc]
theorem Z8f:∀{l:List (List St)}{i:Nat}(h:i<l.length),rightSL l[i]=false->Z1n l=false
 |e::l,0,h,h2=>by simp only[Y0M]at h2;simp only[Z1n,h2,Bool.false_and]
 |e::l,i+1,h,h2=>by simp only[Y0A]at h2;simp only[Z1n,Z8f (l:=l) (by simpa using h) h2,Bool.and_false]
theorem Zf0{α : Type}(f : α -> Bool):∀(l:List α)(i:Nat)(h:i<l.length),(l.take (i+1)).all f=((l.take i).all f&&f l[i])
 |e::l,0,h=>by simp
 |e::l,i+1,h=>by
  have:=Zf0 f l i (by simpa using h)
  simp only[Y0p,List.all_cons,Y0A]at this⊢;rw[this,Bool.and_assoc]
theorem ZmP{α : Type}(f : α -> Bool){l:List α}{i:Nat}(h:i<l.length)(h2:f l[i]=false):l.all f=false:=by
 rw[List.all_eq_false];exact⟨_,Z1g h,by simp[h2]⟩
def Zp1{g:Nat}(hb:Z0h Y00 g=true)(r:List St->AV)(ts:List (List St))(each:∀x∈ts,ValOK Y00 gl g [stA x] (r x)):Fam Y00 gl:=ZnZ hb r (λx=>x∈ts) each
theorem ZgA(p:Pr)(hl:p.threads.length<=9223372036854775807)(hs:Z0v p.threads<=1048576):ValOK Y00 gl 14 [p.av] (.int .i64 (Z0v p.threads)):=by
 obtain⟨ds,ts⟩:=p
 simp only[Pr.av]at *
 obtain⟨O,hO,p1,-⟩:=fams (P:=Y00) (gl:=gl) [Zp1 (g:=35) (by kernel_rfl) (λx=>.int .i64 (sizeSL x)) ts (λx hx=>Zbd _ x (Y0a _) (by have:=Z6w _ _ hx;omega))] rfl
 have q1:∀x∈ts,∀H,Z05 Y00 O H 35 [stA x]=some (.int .i64 (sizeSL x),H):=p1
 clear p1
 refine Z0B follows Z06 hO Tryz.func14 rfl ?_
 repeat' ((conv=>whnf);first|refine stp ?_|with_reducible apply Z01<;>intro h)
 conv=>whnf
 refine⟨Nat,(λi=>i<=ts.length),(λi=>[(1,.ptr 0 0),(3,.int .i64 (Z0v (ts.take i):Nat)),(4,.int .i64 i)]),(λ_=>[⟨true,0,0,.cells [.rs ds.length 3 (dcC ds),.rs ts.length 1 (ts.map stA)] 26⟩]),(λi=>ts.length-i),⟨0,Y0e _,Y0h [0] rfl ?_ ⟨hbp,trivial⟩ rfl⟩,?_⟩
 ·simp only[Y0t,Z0v];exact wks
 intro i hi
 dsimp only
 by_cases hlt:i<ts.length
 · have e1:decide ((i:Int)<(ts.length:Int))=true:=by simpa using hlt
   have hst:=Z88 ts i hlt
   have hle:=Zbe ts i hlt
   have hx:=th1 ts i hlt
   have q2:=q1 ts[i] (Z1g hlt)
   generalize ts[i]=l at *
   simp only[stA]at hx q2
   repeat' ((conv=>whnf);first|with_reducible refine exI (q2 _) ?_|(with_reducible refine ixJ i rfl ?_ ?_;focus omega)|refine exI hx ?_|refine stp ?_|with_reducible apply Z01<;>intro h)
   conv=>whnf
   refine⟨i+1,hlt,by show ts.length-(i+1)<ts.length-i;omega,Y0h [0] rfl ?_ ⟨hbp,trivial⟩ rfl⟩
   rw[hst];exact wks
 · have e1:decide ((i:Int)<(ts.length:Int))=false:=by simpa using hlt
   have hi2:i=ts.length:=by have:=hi;omega
   subst hi2
   rw[Y0m]
   repeat' ((conv=>whnf);first|refine stp ?_|with_reducible apply Z01<;>intro h)
   all_goals rfl
end
section
def chC(ds:List Dc)(ts:List (List St))(n:Nat)(g:Bool):Z00:=[⟨true,0,0,.cells [.rs ds.length 3 (dcC ds),.rs ts.length 1 (ts.map stA)] 26⟩,⟨true,1,0,.cells [.int .i64 n] 3⟩,⟨true,2,0,.cells [.bool g] 4⟩,⟨true,3,0,.cells [.func (.func 102) [] [.ptr 1 0]] 96⟩]
theorem ZmE (ds : List Dc) (ts : List (List St)) (hok : Zg7 ts) (hl : ts.length <= 9223372036854775807) :
  Z2i Y00 runLives.gl 61 [.agg [.rs ds.length 3 (dcC ds),.rs ts.length 1 (ts.map stA)],.func (.func 62) [] [.ptr 3 0,.ptr 2 0]] (chC ds ts 0 true) (.tuple []) (chC ds ts (cT ts 0).2 (cT ts 0).1):=by
 have hM:=ZjB ts ds.length (dcC ds) hok hl
 have h:=Zbs (m:=[1,2,3]) (n:=4) (Hc:=chC ds ts 0 true) (cargs:=[.agg [.rs ds.length 3 (dcC ds),.rs ts.length 1 (ts.map stA)],.func (.func 62) [] [.ptr 3 0,.ptr 2 0]]) hM ?_ ?_ rfl rfl rfl rfl rfl rfl
 ·exact h
 ·rfl
 ·exact⟨hbp,hbp,⟨rfl,rfl,rfl,rfl,Y06 ⟨Y0f trivial ⟨Y02 rfl rfl,trivial⟩,trivial⟩⟩,trivial⟩
theorem ZmD(ts:List (List St)):(cT ts 0).1=true ↔ ¬(2000<Z0v ts\/32<Z3x ts):=by
 rw[(Zih ts 0 (by decide)).1];omega
theorem ZfQ(p:Pr)(hok:okP p)(hs:Z0v p.threads<=1000000):ValOK Y00 runLives.gl 29 [p.av] (.int .i64 (Z1N p)):=by
 obtain⟨⟨hd1,hd2⟩,ht1,ht2⟩:=hok
 obtain⟨ds,ts⟩:=p
 have hsay:=ZmD ts
 simp only[Pr.av,Z1N]at *
 obtain⟨O,hO,⟨p1,-⟩,⟨p2,p3,-⟩⟩:=Z3v (P:=Y00) (gl:=runLives.gl) [{ I:=Unit,f:=61,G:=(λ_=>True),A:=(λ_=>[.agg [.rs ds.length 3 (dcC ds),.rs ts.length 1 (ts.map stA)],.func (.func 62) [] [.ptr 3 0,.ptr 2 0]]),H:=(λ_=>chC ds ts 0 true),R:=(λ_=>.tuple []),O:=(λ_=>chC ds ts (cT ts 0).2 (cT ts 0).1),body:=(by kernel_rfl),inj:=(λ_ _ _ _ _ _=>⟨rfl,rfl⟩),ok:=(λ_ _=>ZmE ds ts ht1 ht2) }]
  [{ I:=List St,f:=64,G:=(λx=>x∈ts),A:=(λx=>[stA x,.int .i64 1,.func (.func 65) [] [],.func (.func 66) [] []]),R:=(λx=>.bool (rightSL x)),body:=(by kernel_rfl),inj:=(λi j _ _ h=>by simp only[List.cons.injEq,and_true]at h;rw[Z5i h]),ok:=(λx hx=>⟨rfl,Zlu x 1 (Z5Y ht1 _ hx).1 (Z5Y ht1 _ hx).2 (by decide) (by have:=Z6w _ _ hx;omega)⟩) },
   { I:=List UInt8,f:=63,G:=(λs=>s.length<=9223372036854775807),A:=(λs=>[.str s,.bool true]),R:=(λs=>.bool (Z38 s)),body:=(by kernel_rfl),inj:=(λi j _ _ h=>by simp only[List.cons.injEq,AV.str.injEq,and_true]at h;rw[h]),ok:=(λs hs=>⟨rfl,ZbB s hs true⟩) }] rfl
 have q1:Z05 Y00 O (chC ds ts 0 true) 61 [.agg [.rs ds.length 3 (dcC ds),.rs ts.length 1 (ts.map stA)],.func (.func 62) [] [.ptr 3 0,.ptr 2 0]]=some (.tuple [],chC ds ts (cT ts 0).2 (cT ts 0).1):=p1 () trivial
 have q2:∀x∈ts,∀H,Z05 Y00 O H 64 [stA x,.int .i64 1,.func (.func 65) [] [],.func (.func 66) [] []]=some (.bool (rightSL x),H):=p2
 have q3:∀s,s.length<=9223372036854775807->∀H,Z05 Y00 O H 63 [.str s,.bool true]=some (.bool (Z38 s),H):=p3
 clear p1 p2 p3
 generalize (cT ts 0).2=n at *
 generalize (cT ts 0).1=b at *
 refine Z1z (λg=>Y07 g 61 || (Y07 g 64 || Y07 g 63)) 1 follows Z06 hO Tryz.func29 rfl ?_
 cases b with
 |false =>
  rw[if_pos (Classical.not_not.1 λh=>by have:=hsay.2 h;cases this)]
  repeat' ((conv=>whnf);first|refine exI q1 ?_|refine stp ?_|with_reducible apply Z01<;>intro h)
  all_goals (conv=>whnf)
  all_goals rfl
 |true =>
  rw[if_neg (hsay.1 rfl)]
  repeat' ((conv=>whnf);first|refine exI q1 ?_|refine stp ?_|with_reducible apply Z01<;>intro h)
  conv=>whnf
  refine⟨Nat,(λi=>i<=ds.length/\(ds.take i).all dcB=true),(λi=>[(1,.ptr 0 0),(16,.rs ds.length 3 (dcC ds)),(17,.int .i64 ds.length),(18,.int .i64 i)]),(λ_=>[⟨true,0,0,.cells [.rs ds.length 3 (dcC ds),.rs ts.length 1 (ts.map stA)] 26⟩]),(λi=>ds.length-i),⟨0,⟨Y0e _,rfl⟩,Y0h [0] rfl ?_ ⟨hbp,trivial⟩ rfl⟩,?_⟩
  ·exact wks
  rintro i ⟨hi,hall⟩
  dsimp only
  by_cases hlt:i<ds.length
  · have e1:decide ((i:Int)<(ds.length:Int))=true:=by simpa using hlt
    have hat:=Zf0 dcB ds i hlt
    rw[hall,Y0B]at hat
    have hfalse:dcB ds[i]=false->ds.all dcB=false:=ZmP dcB hlt
    have hx3:=dc3 ds i hlt
    have qn:=q3 ds[i].name (hd2 _ (Z1g hlt))
    generalize hd:ds[i]=d at *
    obtain⟨nm,pl,vl⟩:=d
    simp only[dcB,Dc.cells]at hat hfalse hx3 qn
    generalize Z38 nm=w at *
    by_cases hv:0<=vl
    · have e3:decide (vl<0)=false:=by simpa using hv
      rw[show decide (0<=vl)=true from by simpa using hv,Bool.and_true]at hat hfalse
      cases w with
      |true =>
       repeat' ((conv=>whnf);first|with_reducible refine exI (qn _) ?_|(with_reducible refine ixJ i rfl ?_ ?_;focus omega)|refine exI hx3 ?_|refine stp ?_|with_reducible apply Z01<;>intro h)
       conv=>whnf
       refine⟨i+1,⟨hlt,hat⟩,by show ds.length-(i+1)<ds.length-i;omega,Y0h [0] rfl ?_ ⟨hbp,trivial⟩ rfl⟩
       exact wks
      |false =>
       rw[hfalse rfl]
       repeat' ((conv=>whnf);first|with_reducible refine exI (qn _) ?_|(with_reducible refine ixJ i rfl ?_ ?_;focus omega)|refine exI hx3 ?_|refine stp ?_|with_reducible apply Z01<;>intro h)
       all_goals rfl
    · have e3:decide (vl<0)=true:=by simp only[decide_eq_true_eq];omega
      rw[show decide (0<=vl)=false from by simpa using hv,Bool.and_false]at hat hfalse
      rw[hfalse rfl]
      cases w
      all_goals (repeat' ((conv=>whnf);first|with_reducible refine exI (qn _) ?_|(with_reducible refine ixJ i rfl ?_ ?_;focus omega)|refine exI hx3 ?_|refine stp ?_|with_reducible apply Z01<;>intro h))
      all_goals rfl
  · have e1:decide ((i:Int)<(ds.length:Int))=false:=by simpa using hlt
    have hi2:i=ds.length:=by have:=hi;omega
    subst hi2
    rw[Y0m]at hall
    rw[hall,Y0B]
    repeat' ((conv=>whnf);first|refine stp ?_|with_reducible apply Z01<;>intro h)
    conv=>whnf
    refine⟨Nat,(λi=>i<=ts.length/\Z1n (ts.take i)=true),(λi=>[(33,.rs ts.length 1 (ts.map stA)),(34,.int .i64 ts.length),(35,.int .i64 i)]),(λ_=>[]),(λi=>ts.length-i),⟨0,⟨Y0e _,rfl⟩,Y0i rfl ?_⟩,?_⟩
    ·exact wks
    rintro i ⟨hi,hrl⟩
    dsimp only
    by_cases hlt:i<ts.length
    · have e1:decide ((i:Int)<(ts.length:Int))=true:=by simpa using hlt
      have hat:=Z70 ts i hlt
      rw[hrl,Y0B]at hat
      have hfalse:rightSL ts[i]=false->Z1n ts=false:=Z8f hlt
      have hx:=th1 ts i hlt
      have qr:=q2 ts[i] (Z1g hlt)
      generalize ts[i]=l at *
      simp only[stA]at hx qr
      cases hr:rightSL l with
      |true =>
       rw[hr]at hat qr
       repeat' ((conv=>whnf);first|with_reducible refine exI (qr _) ?_|(with_reducible refine ixJ i rfl ?_ ?_;focus omega)|refine exI hx ?_|refine exI (qr _) ?_|refine stp ?_|with_reducible apply Z01<;>intro h)
       conv=>whnf
       refine⟨i+1,⟨hlt,hat⟩,by show ts.length-(i+1)<ts.length-i;omega,Y0i rfl ?_⟩
       exact wks
      |false =>
       rw[hr]at qr
       rw[hfalse hr]
       repeat' ((conv=>whnf);first|with_reducible refine exI (qr _) ?_|(with_reducible refine ixJ i rfl ?_ ?_;focus omega)|refine exI hx ?_|refine exI (qr _) ?_|refine stp ?_|with_reducible apply Z01<;>intro h)
       all_goals rfl
    · have e1:decide ((i:Int)<(ts.length:Int))=false:=by simpa using hlt
      have hi2:i=ts.length:=by have:=hi;omega
      subst hi2
      rw[Y0m]at hrl
      rw[hrl]
      repeat' ((conv=>whnf);first|refine stp ?_|with_reducible apply Z01<;>intro h)
      all_goals rfl
end
section
variable {gl:Z0g}
def Z2A(T:List Tq):(List Dc×List (List St))×Ps:=Z1o T (T.length+1) [] [] s0
def Z53(T:List Tq):Ps:=(Z2A T).2
theorem ZjT{sn:Z0m}{ι : Z0i}{v:Value}:∀{l:List (List St)},VR sn ι (Z3t l) v->VR sn ι (.rs l.length 1 (l.map stA)) v
 |[],h=>Z2B h
 |_::_,h=>h
theorem ZkS{sn:Z0m}{ι : Z0i}{v:Value}{D:List Dc}{S:List (List St)}(h:VR sn ι (.agg [dcN D,Z3t S]) v):VR sn ι (Pr.mk D S).av v:=by
 obtain⟨d,rfl,d1,l1,f1,a1,d2,l2,rfl,a2,h1⟩:=h.agg
 exact Z44 ⟨_,_,f1,Zo7 a1,_,_,rfl,ZjT a2,h1⟩
theorem Zhk{sn:Z0m}{v:Value}{D:List Dc}{S:List (List St)}{x:AV}(h:VR sn noI (.tuple [.agg [dcN D,Z3t S],x]) v):VR sn noI (.tuple [(Pr.mk D S).av,x]) v:=by
 simp only[VR,LR]at h⊢
 obtain⟨ds,e,d,l,e1,h1,h2⟩:=h
 exact⟨ds,e,d,l,e1,ZkS h1,h2⟩
theorem Zmz(D:List Dc)(S:List (List St)):refsL [dcN D,Z3t S] []=[]:=by cases D<;>cases S<;>rfl
theorem Zkf(D:List Dc)(S:List (List St)):refsL [.agg [dcN D,Z3t S]] []=[]:=by cases D<;>cases S<;>rfl
theorem Zo6(D:List Dc)(S:List (List St))(g:Nat->Nat):renL g [dcN D,Z3t S]=[dcN D,Z3t S]:=by cases D<;>cases S<;>rfl
theorem ZhZ{T:List Tq}{E:Ps}(h:(Z49 T E).err=0):E.err=0/\(Z0o T E).kind=5/\Z49 T E=E:=by
 unfold Z49 at h⊢
 split at h
 ·exact absurd h (Z0E (by decide))
 · rename_i h1
   refine⟨h,Classical.byContradiction λhk=>h1 ⟨h,hk⟩,if_neg h1⟩
theorem Zbh{s:List UInt8}(hs:s.length<=65536){run:List Tq->Ps}(h:(Z2z s run).1=0):∃l,Z6q s = .inr l/\Z2v s=Z1q l s.length/\(TqOK (Z2v s)/\TqW (Z2v s)/\PsOK (Z2v s) s0)/\(run (Z2v s)).err=0/\(Z0o (Z2v s) (run (Z2v s))).kind=5/\(Z2z s run).2=(run (Z2v s)).at_:=by
 unfold Z2z at h⊢
 have ht:Z2v s=(match Z6q s with | .inl _=>[] | .inr l=>Z1q l s.length):=rfl
 cases hl:Z6q s with
 |inl e=>rw[hl]at h;exact absurd h (show ¬(4:Int)=0 by decide)
 |inr l =>
  rw[hl]at h ht
  simp only at h ht⊢
  rw[ht]
  obtain⟨a,b,c⟩:=ZhZ h
  refine⟨l,rfl,rfl,⟨Zkz hl _,Z7Z hl hs _,ZkA hl hs⟩,a,b,by rw[c]⟩
def Zps{f:Nat}{A:List AV}{R:AV}{H H':Z00}(hb:Z0h Y00 f=true)(h:Z2i Y00 gl f A H R H'):FamM Y00 gl:={ I:=Unit,f:=f,G:=λ_=>True,A:=λ_=>A,H:=λ_=>H,R:=λ_=>R,O:=λ_=>H',body:=hb,inj:=(λ_ _ _ _ _ _=>⟨rfl,rfl⟩),ok:=(λ_ _=>h) }
def Z0J(s:List UInt8):Pr:=⟨(Z2A (Z2v s)).1.1,(Z2A (Z2v s)).1.2⟩
def Z0A(s:List UInt8):(Int×Int)×Pr :=
 if (Z2z s Z53).1≠0 then (Z2z s Z53,⟨[],[]⟩) else if Z1N (Z0J s)≠0 then ((Z1N (Z0J s),0),⟨[],[]⟩) else ((0,0),Z0J s)
def ZoO(f:Nat):Bool:=Y07 f 26 || Y07 f 29
theorem Zh4{T:List Tq}(hT:T.length<=1000000):∀{ts:List (List St)},(∀t∈ts,tOK T t)->Zg7 ts
 |[],_=>trivial
 |t::l,h=>by
  have h1:=h t (by simp)
  simp only[Zg7]
  exact⟨h1.1.1,by have:=h1.2;omega,Zh4 hT (λx hx=>h x (by simp[hx]))⟩
theorem Z8l{s:List UInt8}(hs:s.length<=65536)(h:(Z2z s Z53).1=0):PrF (Z2v s) (Z2A (Z2v s)).1.1 (Z2A (Z2v s)).1.2 (Z53 (Z2v s))/\(Z2z s Z53).2=0/\PsOK (Z2v s) (Z53 (Z2v s))/\(Z0o (Z2v s) (Z53 (Z2v s))).kind=5:=by
 obtain⟨l,h1,h2,⟨h3,h4,h5⟩,h6,h7,h8⟩:=Zbh hs h
 have hg:PsOK (Z2v s) (Z53 (Z2v s)):=Z2U _ _ _ _ h5
 have hp:=Zeg h4 ((Z2v s).length+1) h6 hg.lt
 exact⟨hp,h8.trans hp.at0,hg,h7⟩
theorem Zd8{T:List Tq}{D:List Dc}{S:List (List St)}{E:Ps}(h:PrF T D S E)(hg:PsOK T E):okP ⟨D,S⟩/\Z0v S<=1000000:=by
 have h1:=hg.few
 have h2:=hg.lt
 have h3:=h.size
 exact⟨⟨⟨by show D.length<=_;omega,λd hd=>(h.dok d hd).1.2⟩,Zh4 h1 h.tok,by show S.length<=_;omega⟩,by omega⟩
theorem ZgW{s:List UInt8}(hs:s.length<=65536):ValOK Y00 runLives.gl 8 [.str s] (.tuple [(Z0A s).2.av,.agg [.int .i64 (Z0A s).1.1,.int .i64 (Z0A s).1.2]]):=by
 obtain⟨al,cs,ty',hM,hcs,o3⟩:=Zjr (c:=27) (pc:=[.nslice,.nslice]) (pcF:=λT=>[dcN (Z2A T).1.1,Z3t (Z2A T).1.2]) (ty:=26) (run:=Z53) hs (by kernel_rfl) (by decide) rfl (λg=>rfl) (λT=>Zmz _ _) (λT g=>Zo6 _ _ g)
  (λT hT hW hP=>Zie hT ⟨hP,rfl,rfl⟩ (c:=[.nslice,.nslice]) rfl rfl) (λT hW hP he=>⟨Z2U _ _ _ _ hP,(Zeg hW (T.length+1) he (Z2U _ _ _ _ hP).lt).at0⟩)
 have hΦ : ∀r':AV,(∀sn v,VR sn noI r' v->VR sn noI (.tuple [(Z0A s).2.av,.agg [.int .i64 (Z0A s).1.1,.int .i64 (Z0A s).1.2]]) v)->∀sn v,VR sn noI r' v->VR sn noI (.tuple [(Z0A s).2.av,.agg [.int .i64 (Z0A s).1.1,.int .i64 (Z0A s).1.2]]) v:=λr' h=>h
 by_cases h0:(Z2z s Z53).1=0
 · obtain⟨rfl,rfl,rfl⟩:=o3 h0
   obtain⟨hF,h2,hg,-⟩:=Z8l hs h0
   have hC:ValOK Y00 runLives.gl 29 [.agg [dcN (Z2A (Z2v s)).1.1,Z3t (Z2A (Z2v s)).1.2]] (.int .i64 (Z1N (Z0J s))):=(ZfQ (Z0J s) (Zd8 hF hg).1 (Zd8 hF hg).2).weak λsn vs h=>by
    simp only[LR]at h⊢
    obtain⟨d,ds,e,h1,r⟩:=h
    exact⟨d,ds,e,ZkS h1,r⟩
   have hS:=Zeb (z:=[.nslice,.nslice]) (t0:=26) (t1:=29) hM rfl hcs
   rw[h0,h2]at hS
   obtain⟨O,hO,⟨p1,-⟩,⟨p2,-⟩⟩:=Z3v (P:=Y00) (gl:=runLives.gl) [Zps (by kernel_rfl) hS] [Zbn (by kernel_rfl) (Zkf (Z2A (Z2v s)).1.1 (Z2A (Z2v s)).1.2) hC] rfl
   have hX:Z0A s=if Z1N (Z0J s)≠0 then ((Z1N (Z0J s),0),⟨[],[]⟩) else ((0,0),Z0J s):=by unfold Z0A;rw[if_neg (by simpa using h0)]
   have q1:Z05 Y00 O [⟨true,0,0,.cells [.nslice,.nslice] 26⟩,⟨true,1,0,.cells [.int .i64 0,.int .i64 0] 29⟩,⟨true,2,0,.cells [.nslice,.nslice] 26⟩] 26 [.str s,.func (.func 27) [] [.ptr 2 0]]=some (.agg [.int .i64 0,.int .i64 0],[⟨true,0,0,.cells [.nslice,.nslice] 26⟩,⟨true,1,0,.cells [.int .i64 0,.int .i64 0] 29⟩,⟨true,2,0,.cells [dcN (Z2A (Z2v s)).1.1,Z3t (Z2A (Z2v s)).1.2] 26⟩]):=p1 () trivial
   have q2:∀H,Z05 Y00 O H 29 [.agg [dcN (Z2A (Z2v s)).1.1,Z3t (Z2A (Z2v s)).1.2]]=some (.int .i64 (Z1N (Z0J s)),H):=p2 () trivial
   rw[hX]at hΦ⊢
   clear p1 p2 hX hS hC hM hF hcs o3
   have hpp:Z0J s=⟨(Z2A (Z2v s)).1.1,(Z2A (Z2v s)).1.2⟩:=rfl
   rw[hpp]at hΦ q2⊢
   generalize (Z2A (Z2v s)).1.1=D at *
   generalize (Z2A (Z2v s)).1.2=S at *
   have hc:Z1N ⟨D,S⟩=0\/Z1N ⟨D,S⟩ ≠ 0:=Classical.em _
   generalize Z1N ⟨D,S⟩=c at *
   rcases hc with rfl|hc
   · rw[if_neg (by simp)]at hΦ⊢
     cases D<;>cases S
     all_goals simp only[dcN,Z3t,dcA]at q1 q2
     all_goals refine fn_valX follows Z06 (Z0e follows Z06 hO 3) hΦ Tryz.func8 rfl (Z0p (isC:=ZoO) 3) ?_
     all_goals repeat' ((conv=>whnf);first|refine exI q1 ?_|refine exI (q2 _) ?_|refine stp ?_|with_reducible apply Z01<;>intro h)
     all_goals exact λsn v h=>Zhk h
   · rw[if_pos hc]at hΦ⊢
     have e1:(c==0)=false:=by simpa using hc
     have e2:(c != 0)=true:=by simpa using hc
     cases D<;>cases S
     all_goals simp only[dcN,Z3t,dcA]at q1 q2
     all_goals refine fn_valX follows Z06 (Z0e follows Z06 hO 3) hΦ Tryz.func8 rfl (Z0p (isC:=ZoO) 3) ?_
     all_goals repeat' ((conv=>whnf);first|refine exI q1 ?_|refine exI (q2 _) ?_|refine stp ?_|with_reducible apply Z01<;>intro h)
     all_goals exact λsn v h=>Zhk (D:=[]) (S:=[]) h
 · have hX:Z0A s=(Z2z s Z53,⟨[],[]⟩):=by unfold Z0A;rw[if_pos h0]
   rw[hX]at hΦ⊢
   have hS:=Zeb (z:=[.nslice,.nslice]) (t0:=26) (t1:=29) hM rfl hcs
   obtain⟨O,hO,⟨p1,-⟩,-⟩:=Z3v (P:=Y00) (gl:=runLives.gl) [Zps (by kernel_rfl) hS] [] rfl
   have q1:Z05 Y00 O [⟨true,0,0,.cells [.nslice,.nslice] 26⟩,⟨true,1,0,.cells [.int .i64 0,.int .i64 0] 29⟩,⟨true,2,0,.cells [.nslice,.nslice] 26⟩] 26 [.str s,.func (.func 27) [] [.ptr 2 0]]=some (.agg [.int .i64 (Z2z s Z53).1,.int .i64 (Z2z s Z53).2],[⟨true,0,0,.cells [.nslice,.nslice] 26⟩,⟨true,1,0,.cells [.int .i64 0,.int .i64 0] 29⟩,⟨al,2,0,.cells cs ty'⟩]):=p1 () trivial
   clear p1 o3 hM hS
   generalize Z2z s Z53=F at *
   obtain⟨e,a⟩:=F
   simp only at h0 q1⊢
   have e1:(e==0)=false:=by simpa using h0
   have e2:(e != 0)=true:=by simpa using h0
   cases al<;>refine fn_valX follows Z06 (Z0e follows Z06 hO 3) hΦ Tryz.func8 rfl (Z0p (isC:=ZoO) 3) ?_
   all_goals repeat' ((conv=>whnf);first|refine exI q1 ?_|refine stp ?_|with_reducible apply Z01<;>intro h)
   all_goals exact λsn v h=>Zhk (D:=[]) (S:=[]) h
end
end Go.Proofs.YtneoiadnbikciaaGreatDoor.lex

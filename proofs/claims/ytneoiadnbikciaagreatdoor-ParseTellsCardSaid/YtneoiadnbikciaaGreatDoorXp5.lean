/-
  Texts of this proof, one behind the other (part 5).
-/
import Derived.Test.YtneoiadnbikciaaGreatDoorXp4
set_option linter.unusedVariables false
set_option linter.unusedSimpArgs false
set_option linter.unusedSectionVars false
set_option maxRecDepth 100000
set_option maxHeartbeats 4000000
open Go.Proofs.Tryz renaming prog → Y00,func110 → Y0d,func93 → Y0o
open Nat renaming le_trans → Y01,le_refl → Y02,beq → Y03,zero_le → Y05,eq_of_beq_eq_true → Y0c,le_succ → Y0f,lt_succ_self → Y0w,lt_of_lt_of_le → Y0y,lt_of_le_of_lt → Y0C
open Bool renaming and_eq_true → Y04,and_true → Y0g,not_eq_true' → Y0l,false_eq_true → Y0p,eq_iff_iff → Y0B
open Go.Abs.BodyGe renaming z → Y06,pre → Y07
open Go.Abs.Wk renaming noref → Y08
open List renaming append_assoc → Y09,length_cons → Y0a,length_append → Y0e,take_zero → Y0i,take_succ_cons → Y0j,cons_append → Y0k,getElem?_eq_getElem → Y0m,append_nil → Y0n,getElem?_append_right → Y0r,getElem_cons_zero → Y0s,getElem_cons_succ → Y0t,mem_append → Y0u,getElem?_append_left → Y0v,length_nil → Y0x,drop_succ_cons → Y0z,all_append → Y0A
open And renaming intro → Y0b
open Int renaming le_refl → Y0h,add_zero → Y0q
namespace Go.Proofs.YtneoiadnbikciaaGreatDoor.lex
open Go.Abs Go.RowKit
section
variable {gl:Z0g}
def Zbz:List UInt8:=[115,116,111,114,101]
def ZbA:List UInt8:=[102,101,110,99,101]
def Z8w:List UInt8:=[97,115,115,117,109,101]
def Z8x:List UInt8:=[97,115,115,101,114,116]
def Z7n:List UInt8:=[108,111,97,100]
def ZiU:List UInt8:=[99,97,115]
def ZiV:List UInt8:=[97,100,100]
def Z93:List UInt8:=[115,119,97,112]
def Zb1(T:List Tq)(s:Ps):St×Ps :=
 let o:=Z08 T (Z03 T s [40]) ordL 1
 (.mk 7 [] [] o.1 [] [] [],Z03 T o.2 [41])
def ZaJ(T:List Tq)(k:Int)(s:Ps):St×Ps:=(.mk k [] [] 0 [(Z1p T s).1] [] [],(Z1p T s).2)
def Z3j(T:List Tq)(nm:List UInt8)(s:Ps):St×Ps :=
 if isF T s Z7n=true then Z2j T nm 2 0 (Z02 s)
 else if isF T s ZiU=true then Z2j T nm 4 2 (Z02 s)
 else if isF T s ZiV=true then Z2j T nm 5 1 (Z02 s)
 else if isF T s Z93=true then Z2j T nm 6 1 (Z02 s)
 else (.mk 1 nm [] 0 [(Z0X T s).1] [] [],(Z0X T s).2)
def Z1m(T:List Tq)(s:Ps):St×Ps :=
 if isF T s Zbz=true then Z2j T [] 3 1 (Z02 s)
 else if isF T s ZbA=true then Zb1 T (Z02 s)
 else if isF T s Z8w=true then ZaJ T 8 (Z02 s)
 else if isF T s Z8x=true then ZaJ T 9 (Z02 s)
 else Z3j T (Z0R T s) (Z03 T (Z0a T s) [61])
theorem Zmm{T:List Tq}{s:Ps}(hs:PsOK T s):PsGo T s (Zb1 T s).2:=by
 have h1:=Z0C hs [40]
 have h2:=Z22 ordL _ 1 h1.ok
 exact h1.trans (h2.trans (Z0C h2.ok _))
theorem Zgf{T:List Tq}{s:Ps}(hs:PsOK T s)(nm:List UInt8):PsGo T s (Z3j T nm s).2:=by
 unfold Z3j
 split
 ·rename_i h;exact (Z0b hs h).trans (Z6R (Z0b hs h).ok _ _ _)
 split
 ·rename_i h;exact (Z0b hs h).trans (Z6R (Z0b hs h).ok _ _ _)
 split
 ·rename_i h;exact (Z0b hs h).trans (Z6R (Z0b hs h).ok _ _ _)
 split
 ·rename_i h;exact (Z0b hs h).trans (Z6R (Z0b hs h).ok _ _ _)
 ·exact Z3T hs
theorem Z7z(s:Ps):Kp s (Z02 s):=λh=>h
theorem Zlm(T:List Tq)(nm:List UInt8)(s:Ps):Kp s (Z3j T nm s).2:=by
 unfold Z3j
 split
 ·exact (Z7z s).trans (ZaO T _ _ _ _)
 split
 ·exact (Z7z s).trans (ZaO T _ _ _ _)
 split
 ·exact (Z7z s).trans (ZaO T _ _ _ _)
 split
 ·exact (Z7z s).trans (ZaO T _ _ _ _)
 ·exact ZeG T s
theorem Ze5{T:List Tq}{s:Ps}(hs:PsOK T s):PsGo T s (Z1m T s).2/\((Z1m T s).2.err=0->s.i<(Z1m T s).2.i):=by
 have up:∀{w:List UInt8}{s':Ps},isF T s w=true->PsGo T (Z02 s) s'->PsGo T s s'/\(s'.err=0->s.i<s'.i):=λh h2=>⟨(Z0b hs h).trans h2,λ_=>by have:s.i+1<=_:=h2.on;omega⟩
 unfold Z1m
 split
 ·rename_i h;exact up h (Z6R (Z0b hs h).ok _ _ _)
 split
 ·rename_i h;exact up h (Zmm (Z0b hs h).ok)
 split
 ·rename_i h;exact up h (Z3e (Z0b hs h).ok)
 split
 ·rename_i h;exact up h (Z3e (Z0b hs h).ok)
 · have h1:=Z4B hs
   have h2:=Z0C h1.ok [61]
   have h3:=Zgf h2.ok (Z0R T s)
   refine⟨h1.trans (h2.trans h3),λhe=>?_⟩
   rcases Zj2 T s with h|h
   ·exact absurd he ((Z4Q T _ [61]).trans (Zlm T _ _) h)
   · have h4:=h2.on
     have h5:=h3.on
     omega
def Zl7(T:List Tq):FamM Y00 gl:=Z48 T 109 (by kernel_rfl) (I:=Unit) (λ_ s=>PsOK T s) (λ_=>[.ptr 0 0]) (λ_ s=>.agg (Z1p T s).1.cells) (λ_ s=>(Z1p T s).2) (λ_=>rfl) (λ_ _ _=>rfl) (λ_ s h=>Zoc h)
def Zog(T:List Tq):FamM Y00 gl:=Z48 T 120 (by kernel_rfl) (I:=List UInt8×Int×Nat) (λi s=>i.2.2<=2/\PsOK T s) (λi=>[.ptr 0 0,.str i.1,.int .i64 i.2.1,.int .i64 i.2.2]) (λi s=>.agg (Z2j T i.1 i.2.1 i.2.2 s).1.cells) (λi s=>(Z2j T i.1 i.2.1 i.2.2 s).2) (λ_=>rfl) (λi j h=>by
 obtain⟨a,b,c⟩:=i
 obtain⟨a',b',c'⟩:=j
 simp only[List.cons.injEq,AV.str.injEq,AV.int.injEq,true_and,and_true]at h
 obtain⟨rfl,rfl,h⟩:=h
 have:c=c':=by omega
 rw[this]) (λi s h=>Zfw h.2 i.1 i.2.1 i.2.2 h.1)
def stR:St->AV
 | .mk k a b o x t e=>.agg [.int .i64 k,.str a,.str b,.int .i64 o,exN x,stN t,stN e]
theorem Z7A{k f:Nat}{args:List AV}{H H':Z00}{x:St}(h:MemQ Y00 gl k f args H (stR x) H'):MemQ Y00 gl k f args H (.agg x.cells) H':=MemQ.conv h λsn ι v h=>by
 obtain⟨k,a,b,o,x,t,e⟩:=x
 exact Zgv h
theorem Z3M(x:St):∃a b c d e f g m n p,AV.agg x.cells = .agg [.int .i64 a,.str b,.str c,.int .i64 d,.rs e 4 f,.rs g 7 m,.rs n 7 p]:=by
 obtain⟨k,a,b,o,x,t,e⟩:=x
 exact⟨_,_,_,_,_,_,_,_,_,_,rfl⟩
def ZjO(f:Nat):Bool:=Y03 f 45 || (Y03 f 92 || (Y03 f 51 || (Y03 f 91 || (Y03 f 121 || (Y03 f 109 || Y03 f 120)))))
theorem ZgB{T:List Tq}{s:Ps}(hs:PsOK T s):MemQ Y00 gl 1 110 [.ptr 0 0] (psH T s) (.agg (Z1m T s).1.cells) (psH T (Z1m T s).2):=by
 obtain⟨O,hO,⟨p1,p2,p3,p4,p5,p6,p7,-⟩,-⟩:=Z3v (P:=Y00) (gl:=gl) [Z9Z T,Z6D T,Zda T,Zgd T,ZkH T,Zl7 T,Zog T] [] rfl
 have tk:∀w s X,kwB w=true->isF T s w=true->PsOK T s->Z07 [0] X=true->Z05 Y00 O (psH T s++X) 45 [.ptr 0 0,.str w]=some (.bool true,psH T (Z02 s)++X):=λw s X hw hi h hX=>by
  have this:Z05 Y00 O (psH T s++X) 45 [.ptr 0 0,.str w]=some (.bool (Z0F T s w),psH T (Z0c T s w)++X):=p1 (w,s,X) ⟨h,hX⟩
  rw[(Z2C hw).1,(Z2C hw).2,hi,if_pos rfl]at this
  exact this
 have tn:∀w s X,kwB w=true->isF T s w=false->PsOK T s->Z07 [0] X=true->Z05 Y00 O (psH T s++X) 45 [.ptr 0 0,.str w]=some (.bool false,psH T s++X):=λw s X hw hi h hX=>by
  have this:Z05 Y00 O (psH T s++X) 45 [.ptr 0 0,.str w]=some (.bool (Z0F T s w),psH T (Z0c T s w)++X):=p1 (w,s,X) ⟨h,hX⟩
  rw[(Z2C hw).1,(Z2C hw).2,hi,if_neg (by decide)]at this
  exact this
 have qn:∀w s X,PsOK T s->Z07 [0] X=true->Z05 Y00 O (psH T s++X) 92 [.ptr 0 0,.str w]=some (.tuple [],psH T (Z03 T s w)++X):=λw s X h hX=>p2 (w,s,X) ⟨h,hX⟩
 have qe:∀s X,PsOK T s->Z07 [0] X=true->Z05 Y00 O (psH T s++X) 51 [.ptr 0 0,.int .i64 0]=some (.agg (Z0X T s).1.cells,psH T (Z0X T s).2++X):=λs X h hX=>p3 ((),s,X) ⟨h,hX⟩
 have qw:∀s X,PsOK T s->Z07 [0] X=true->Z05 Y00 O (psH T s++X) 91 [.ptr 0 0]=some (.str (Z0R T s),psH T (Z0a T s)++X):=λs X h hX=>p4 ((),s,X) ⟨h,hX⟩
 have qo:∀s X,PsOK T s->Z07 [0] X=true->Z05 Y00 O (psH T s++X) 121 [.ptr 0 0]=some (.int .i64 (Z08 T s ordL 1).1,psH T (Z08 T s ordL 1).2++X):=λs X h hX=>p5 ((),s,X) ⟨h,hX⟩
 have qb:∀s X,PsOK T s->Z07 [0] X=true->Z05 Y00 O (psH T s++X) 109 [.ptr 0 0]=some (.agg (Z1p T s).1.cells,psH T (Z1p T s).2++X):=λs X h hX=>p6 ((),s,X) ⟨h,hX⟩
 have qa:∀nm k n s X,n<=2->PsOK T s->Z07 [0] X=true->Z05 Y00 O (psH T s++X) 120 [.ptr 0 0,.str nm,.int .i64 k,.int .i64 (n:Nat)]=some (.agg (Z2j T nm k n s).1.cells,psH T (Z2j T nm k n s).2++X):=λnm k n s X hn h hX=>p7 ((nm,k,n),s,X) ⟨⟨hn,h⟩,hX⟩
 clear p1 p2 p3 p4 p5 p6 p7
 unfold Z1m
 cases h1:isF T s Zbz with
 |true =>
  rw[if_pos rfl]
  have f0:=λX=>tk Zbz s X rfl h1 hs
  have ok:=(Z0b hs h1).ok
  have ga:=λX=>qa [] 3 1 _ X (by decide) ok
  clear tk tn qn qe qw qo qb qa
  generalize Z02 s=u1 at *
  generalize Z2j T _ _ _ u1=r at *
  obtain⟨x,u2⟩:=r
  simp only at ga⊢
  obtain⟨y1,y2,y3,y4,y5,y6,y7,y8,y9,y10,hy⟩:=Z3M x
  rw[hy]at ga⊢
  simp only[psH]at f0 ga⊢
  refine Z0S follows Z06 (Z0e follows Z06 hO 3) Y0d rfl (Z0p (isC:=ZjO) 3) ?_
  repeat' ((conv=>whnf);first|refine exI (f0 _ rfl) ?_|refine exI (ga _ rfl) ?_|refine stp ?_|with_reducible apply Z01<;>intro h)
  all_goals (try (conv=>whnf))
  all_goals exact⟨[],[0],rfl,⟨⟨rfl,rfl,rfl,rfl,Y06 (Y07 (rest:=[]) rfl rfl)⟩,trivial⟩,rfl,rfl,.inl (Y08 rfl)⟩
 |false =>
  rw[if_neg (by decide)]
  have f0:=λX=>tn Zbz s X rfl h1 hs
  cases h2:isF T s ZbA with
  |true =>
   rw[if_pos rfl]
   have f1:=λX=>tk ZbA s X rfl h2 hs
   have ok:=(Z0b hs h2).ok
   have ok2:=Z4P ok [40]
   have ok3:=(Z22 ordL _ 1 ok2).ok
   have g1:=λX=>qn [40] _ X ok
   have g2:=λX=>qo _ X ok2
   have g3:=λX=>qn [41] _ X ok3
   clear tk tn qn qe qw qo qb qa
   unfold Zb1
   simp only
   generalize Z02 s=u1 at *
   generalize Z03 T u1 [40]=u2 at *
   generalize Z08 T u2 ordL 1=r at *
   obtain⟨o,u3⟩:=r
   simp only at g2 g3 ok3⊢
   generalize Z03 T u3 [41]=u4 at *
   refine Z7A ?_
   simp only[psH]at f0 f1 g1 g2 g3⊢
   refine Z0S follows Z06 (Z0e follows Z06 hO 3) Y0d rfl (Z0p (isC:=ZjO) 3) ?_
   repeat' ((conv=>whnf);first|refine exI (f0 _ rfl) ?_|refine exI (f1 _ rfl) ?_|refine exI (g1 _ rfl) ?_|refine exI (g2 _ rfl) ?_|refine exI (g3 _ rfl) ?_|refine stp ?_|with_reducible apply Z01<;>intro h)
   all_goals (try (conv=>whnf))
   all_goals exact⟨[],[0],rfl,⟨⟨rfl,rfl,rfl,rfl,Y06 (Y07 (rest:=[]) rfl rfl)⟩,trivial⟩,rfl,rfl,.inl (Y08 rfl)⟩
  |false =>
   rw[if_neg (by decide)]
   have f1:=λX=>tn ZbA s X rfl h2 hs
   cases h3:isF T s Z8w with
   |true =>
    rw[if_pos rfl]
    have f2:=λX=>tk Z8w s X rfl h3 hs
    have ok:=(Z0b hs h3).ok
    have g1:=λX=>qb _ X ok
    clear tk tn qn qe qw qo qb qa
    unfold ZaJ
    generalize Z02 s=u1 at *
    generalize Z1p T u1=r at *
    obtain⟨⟨eo,en,et,ek⟩,u2⟩:=r
    simp only at g1⊢
    refine Z7A ?_
    simp only[psH,Ex.cells]at f0 f1 f2 g1⊢
    refine Z0S follows Z06 (Z0e follows Z06 hO 3) Y0d rfl (Z0p (isC:=ZjO) 3) ?_
    repeat' ((conv=>whnf);first|refine exI (f0 _ rfl) ?_|refine exI (f1 _ rfl) ?_|refine exI (f2 _ rfl) ?_|refine exI (g1 _ rfl) ?_|refine stp ?_|with_reducible apply Z01<;>intro h)
    all_goals (try (conv=>whnf))
    all_goals exact⟨[1,2,3,4],[0],rfl,⟨⟨rfl,rfl,rfl,rfl,Y06 (Y07 (rest:=[]) rfl rfl)⟩,trivial⟩,rfl,rfl,.inr rfl⟩
   |false =>
    rw[if_neg (by decide)]
    have f2:=λX=>tn Z8w s X rfl h3 hs
    cases h4:isF T s Z8x with
    |true =>
     rw[if_pos rfl]
     have f3:=λX=>tk Z8x s X rfl h4 hs
     have ok:=(Z0b hs h4).ok
     have g1:=λX=>qb _ X ok
     clear tk tn qn qe qw qo qb qa
     unfold ZaJ
     generalize Z02 s=u1 at *
     generalize Z1p T u1=r at *
     obtain⟨⟨eo,en,et,ek⟩,u2⟩:=r
     simp only at g1⊢
     refine Z7A ?_
     simp only[psH,Ex.cells]at f0 f1 f2 f3 g1⊢
     refine Z0S follows Z06 (Z0e follows Z06 hO 3) Y0d rfl (Z0p (isC:=ZjO) 3) ?_
     repeat' ((conv=>whnf);first|refine exI (f0 _ rfl) ?_|refine exI (f1 _ rfl) ?_|refine exI (f2 _ rfl) ?_|refine exI (f3 _ rfl) ?_|refine exI (g1 _ rfl) ?_|refine stp ?_|with_reducible apply Z01<;>intro h)
     all_goals (try (conv=>whnf))
     all_goals exact⟨[1,2,3,4],[0],rfl,⟨⟨rfl,rfl,rfl,rfl,Y06 (Y07 (rest:=[]) rfl rfl)⟩,trivial⟩,rfl,rfl,.inr rfl⟩
    |false =>
     rw[if_neg (by decide)]
     have f3:=λX=>tn Z8x s X rfl h4 hs
     have ok1:=Z9Q hs
     have ok2:=Z4P ok1 [61]
     have g1:=λX=>qw s X hs
     have g2:=λX=>qn [61] _ X ok1
     generalize Z0R T s=nm at *
     generalize Z0a T s=v1 at *
     generalize Z03 T v1 [61]=v2 at *
     unfold Z3j
     cases k1:isF T v2 Z7n with
     |true =>
      rw[if_pos rfl]
      have e0:=λX=>tk Z7n v2 X rfl k1 ok2
      have ok:=(Z0b ok2 k1).ok
      have ga:=λX=>qa nm 2 0 _ X (by decide) ok
      clear tk tn qn qe qw qo qb qa
      generalize Z02 v2=u1 at *
      generalize Z2j T _ _ _ u1=r at *
      obtain⟨x,u2⟩:=r
      simp only at ga⊢
      obtain⟨y1,y2,y3,y4,y5,y6,y7,y8,y9,y10,hy⟩:=Z3M x
      rw[hy]at ga⊢
      simp only[psH]at f0 f1 f2 f3 g1 g2 e0 ga⊢
      refine Z0S follows Z06 (Z0e follows Z06 hO 3) Y0d rfl (Z0p (isC:=ZjO) 3) ?_
      repeat' ((conv=>whnf);first|refine exI (f0 _ rfl) ?_|refine exI (f1 _ rfl) ?_|refine exI (f2 _ rfl) ?_|refine exI (f3 _ rfl) ?_|refine exI (g1 _ rfl) ?_|refine exI (g2 _ rfl) ?_|refine exI (e0 _ rfl) ?_|refine exI (ga _ rfl) ?_|refine stp ?_|with_reducible apply Z01<;>intro h)
      all_goals (try (conv=>whnf))
      all_goals exact⟨[],[0],rfl,⟨⟨rfl,rfl,rfl,rfl,Y06 (Y07 (rest:=[]) rfl rfl)⟩,trivial⟩,rfl,rfl,.inl (Y08 rfl)⟩
     |false =>
      rw[if_neg (by decide)]
      have e0:=λX=>tn Z7n v2 X rfl k1 ok2
      cases k2:isF T v2 ZiU with
      |true =>
       rw[if_pos rfl]
       have e1:=λX=>tk ZiU v2 X rfl k2 ok2
       have ok:=(Z0b ok2 k2).ok
       have ga:=λX=>qa nm 4 2 _ X (by decide) ok
       clear tk tn qn qe qw qo qb qa
       generalize Z02 v2=u1 at *
       generalize Z2j T _ _ _ u1=r at *
       obtain⟨x,u2⟩:=r
       simp only at ga⊢
       obtain⟨y1,y2,y3,y4,y5,y6,y7,y8,y9,y10,hy⟩:=Z3M x
       rw[hy]at ga⊢
       simp only[psH]at f0 f1 f2 f3 g1 g2 e0 e1 ga⊢
       refine Z0S follows Z06 (Z0e follows Z06 hO 3) Y0d rfl (Z0p (isC:=ZjO) 3) ?_
       repeat' ((conv=>whnf);first|refine exI (f0 _ rfl) ?_|refine exI (f1 _ rfl) ?_|refine exI (f2 _ rfl) ?_|refine exI (f3 _ rfl) ?_|refine exI (g1 _ rfl) ?_|refine exI (g2 _ rfl) ?_|refine exI (e0 _ rfl) ?_|refine exI (e1 _ rfl) ?_|refine exI (ga _ rfl) ?_|refine stp ?_|with_reducible apply Z01<;>intro h)
       all_goals (try (conv=>whnf))
       all_goals exact⟨[],[0],rfl,⟨⟨rfl,rfl,rfl,rfl,Y06 (Y07 (rest:=[]) rfl rfl)⟩,trivial⟩,rfl,rfl,.inl (Y08 rfl)⟩
      |false =>
       rw[if_neg (by decide)]
       have e1:=λX=>tn ZiU v2 X rfl k2 ok2
       cases k3:isF T v2 ZiV with
       |true =>
        rw[if_pos rfl]
        have e2:=λX=>tk ZiV v2 X rfl k3 ok2
        have ok:=(Z0b ok2 k3).ok
        have ga:=λX=>qa nm 5 1 _ X (by decide) ok
        clear tk tn qn qe qw qo qb qa
        generalize Z02 v2=u1 at *
        generalize Z2j T _ _ _ u1=r at *
        obtain⟨x,u2⟩:=r
        simp only at ga⊢
        obtain⟨y1,y2,y3,y4,y5,y6,y7,y8,y9,y10,hy⟩:=Z3M x
        rw[hy]at ga⊢
        simp only[psH]at f0 f1 f2 f3 g1 g2 e0 e1 e2 ga⊢
        refine Z0S follows Z06 (Z0e follows Z06 hO 3) Y0d rfl (Z0p (isC:=ZjO) 3) ?_
        repeat' ((conv=>whnf);first|refine exI (f0 _ rfl) ?_|refine exI (f1 _ rfl) ?_|refine exI (f2 _ rfl) ?_|refine exI (f3 _ rfl) ?_|refine exI (g1 _ rfl) ?_|refine exI (g2 _ rfl) ?_|refine exI (e0 _ rfl) ?_|refine exI (e1 _ rfl) ?_|refine exI (e2 _ rfl) ?_|refine exI (ga _ rfl) ?_|refine stp ?_|with_reducible apply Z01<;>intro h)
        all_goals (try (conv=>whnf))
        all_goals exact⟨[],[0],rfl,⟨⟨rfl,rfl,rfl,rfl,Y06 (Y07 (rest:=[]) rfl rfl)⟩,trivial⟩,rfl,rfl,.inl (Y08 rfl)⟩
       |false =>
        rw[if_neg (by decide)]
        have e2:=λX=>tn ZiV v2 X rfl k3 ok2
        cases k4:isF T v2 Z93 with
        |true =>
         rw[if_pos rfl]
         have e3:=λX=>tk Z93 v2 X rfl k4 ok2
         have ok:=(Z0b ok2 k4).ok
         have ga:=λX=>qa nm 6 1 _ X (by decide) ok
         clear tk tn qn qe qw qo qb qa
         generalize Z02 v2=u1 at *
         generalize Z2j T _ _ _ u1=r at *
         obtain⟨x,u2⟩:=r
         simp only at ga⊢
         obtain⟨y1,y2,y3,y4,y5,y6,y7,y8,y9,y10,hy⟩:=Z3M x
         rw[hy]at ga⊢
         simp only[psH]at f0 f1 f2 f3 g1 g2 e0 e1 e2 e3 ga⊢
         refine Z0S follows Z06 (Z0e follows Z06 hO 3) Y0d rfl (Z0p (isC:=ZjO) 3) ?_
         repeat' ((conv=>whnf);first|refine exI (f0 _ rfl) ?_|refine exI (f1 _ rfl) ?_|refine exI (f2 _ rfl) ?_|refine exI (f3 _ rfl) ?_|refine exI (g1 _ rfl) ?_|refine exI (g2 _ rfl) ?_|refine exI (e0 _ rfl) ?_|refine exI (e1 _ rfl) ?_|refine exI (e2 _ rfl) ?_|refine exI (e3 _ rfl) ?_|refine exI (ga _ rfl) ?_|refine stp ?_|with_reducible apply Z01<;>intro h)
         all_goals (try (conv=>whnf))
         all_goals exact⟨[],[0],rfl,⟨⟨rfl,rfl,rfl,rfl,Y06 (Y07 (rest:=[]) rfl rfl)⟩,trivial⟩,rfl,rfl,.inl (Y08 rfl)⟩
        |false =>
         rw[if_neg (by decide)]
         have e3:=λX=>tn Z93 v2 X rfl k4 ok2
         have g3:=λX=>qe _ X ok2
         clear tk tn qn qe qw qo qb qa
         generalize Z0X T v2=r at *
         obtain⟨⟨eo,en,et,ek⟩,u2⟩:=r
         simp only at g3⊢
         refine Z7A ?_
         simp only[psH,Ex.cells]at f0 f1 f2 f3 g1 g2 e0 e1 e2 e3 g3⊢
         refine Z0S follows Z06 (Z0e follows Z06 hO 3) Y0d rfl (Z0p (isC:=ZjO) 3) ?_
         repeat' ((conv=>whnf);first|refine exI (f0 _ rfl) ?_|refine exI (f1 _ rfl) ?_|refine exI (f2 _ rfl) ?_|refine exI (f3 _ rfl) ?_|refine exI (g1 _ rfl) ?_|refine exI (g2 _ rfl) ?_|refine exI (e0 _ rfl) ?_|refine exI (e1 _ rfl) ?_|refine exI (e2 _ rfl) ?_|refine exI (e3 _ rfl) ?_|refine exI (g3 _ rfl) ?_|refine stp ?_|with_reducible apply Z01<;>intro h)
         all_goals (try (conv=>whnf))
         all_goals exact⟨[1,2,3,4],[0],rfl,⟨⟨rfl,rfl,rfl,rfl,Y06 (Y07 (rest:=[]) rfl rfl)⟩,trivial⟩,rfl,rfl,.inr rfl⟩
end
section
variable {gl:Z0g}
def Z2L(T:List Tq)(stm:Ps->St×Ps)(w:List UInt8):Nat->Ps->List St×Ps
 |0,s=>([],s)
 |k+1,s=>if s.err=0/\isF T s w=false/\(Z0o T s).kind≠5 then ((stm s).1::(Z2L T stm w k (stm s).2).1,(Z2L T stm w k (stm s).2).2) else ([],s)
def Z7P(T:List Tq)(stm:Ps->St×Ps)(s:Ps):List St×Ps :=
 ((Z2L T stm [125] (T.length+1) (Z03 T s [123])).1,Z03 T (Z2L T stm [125] (T.length+1) (Z03 T s [123])).2 [125])
def Znc(gl:Z0g)(T:List Tq)(i0:Nat)(stm:Ps->St×Ps):Prop:=∀s,PsOK T s->i0<=s.i->(PsGo T s (stm s).2/\((stm s).2.err=0->s.i<(stm s).2.i))/\MemQ Y00 gl 1 93 [.ptr 0 0] (psH T s) (.agg (stm s).1.cells) (psH T (stm s).2)
theorem ZcC{T:List Tq}{i0:Nat}{stm:Ps->St×Ps}(hstm:∀s,PsOK T s->i0<=s.i->PsGo T s (stm s).2)(w:List UInt8):∀(k:Nat)(s:Ps),PsOK T s->i0<=s.i->PsGo T s (Z2L T stm w k s).2
 |0,s,h,hi=>⟨h,Y02 _,Y0h _⟩
 |k+1,s,h,hi=>by
  unfold Z2L
  split
  · have h1:=hstm s h hi
    exact h1.trans (ZcC hstm w k _ h1.ok (Y01 hi h1.on))
  ·exact⟨h,Y02 _,Y0h _⟩
theorem Za1{T:List Tq}{stm:Ps->St×Ps}{w:List UInt8}{s:Ps}(h:¬(s.err=0/\isF T s w=false/\(Z0o T s).kind≠5)):∀k,Z2L T stm w k s=([],s)
 |0=>rfl
 |k+1=>by unfold Z2L;rw[if_neg h]
theorem ZgP(l:List St)(k o:Int)(a b:List UInt8)(x:List Ex)(t e:List St):stC l++[.int .i64 k,.str a,.str b,.int .i64 o,.rs x.length 4 (exC x),.rs t.length 7 (stC t),.rs e.length 7 (stC e)]=stC (l++[.mk k a b o x t e]):=by rw[Zgt];simp only[stC,St.cells,exA,Y0n]
def stS:List St->AV
 |[]=>.nslice
 |e::l=>.slice 1 0 (l.length+1) (l.length+1) 7
def Zoj:List St->Z00
 |[]=>[]
 |e::l=>[⟨true,1,0,.cells (stC (e::l)) 58⟩]
def ZpY(f:Nat):Bool:=Y03 f 90 || Y03 f 93
structure Bs4 where
 l:List St
 s:Ps
 k:Nat
theorem Zja {T : List Tq} {i0 : Nat} {stm : Ps -> St × Ps} (hstm : Znc gl T i0 stm) {s0 : Ps} (hs0 : PsOK T s0) (hi0 : i0 <= s0.i) (w : List UInt8) :
  MemQ Y00 gl 1 50 [.ptr 0 0,.str w] (psH T s0) (stA (Z2L T stm w (T.length+1) s0).1) (psH T (Z2L T stm w (T.length+1) s0).2):=by
 obtain⟨O,hO,⟨p1,p2,-⟩,-⟩:=Z3v (P:=Y00) (gl:=gl) [ZlZ T,Z48 T 93 (by kernel_rfl) (I:=Unit) (λ_ s=>PsOK T s/\i0<=s.i) (λ_=>[.ptr 0 0]) (λ_ s=>.agg (stm s).1.cells) (λ_ s=>(stm s).2) (λ_=>rfl) (λ_ _ _=>rfl) (λ_ s h=>(hstm s h.1 h.2).2)] [] rfl
 have q1:∀w s X,PsOK T s->Z07 [0] X=true->Z05 Y00 O (psH T s++X) 90 [.ptr 0 0,.str w]=some (.bool (isF T s w),psH T s++X):=λw s X h hX=>p1 (w,s,X) ⟨h,hX⟩
 have q2:∀s X,PsOK T s->i0<=s.i->Z07 [0] X=true->Z05 Y00 O (psH T s++X) 93 [.ptr 0 0]=some (.agg (stm s).1.cells,psH T (stm s).2++X):=λs X h hi hX=>p2 ((),s,X) ⟨⟨h,hi⟩,hX⟩
 clear p1 p2
 have hT:Zcm Y00 53 53=some (58,7,120):=by kernel_rfl
 have hgo:∀s,PsOK T s->i0<=s.i->PsGo T s (stm s).2/\((stm s).2.err=0->s.i<(stm s).2.i):=λs h hi=>(hstm s h hi).1
 clear hstm
 generalize hR:Z2L T stm w (T.length+1) s0=R
 obtain⟨RL,RS⟩:=R
 have hfew:=hs0.few
 have hI:PsOK T s0/\i0<=s0.i/\([]:List St).length+(T.length+1)<=T.length+1/\(s0.err=0->T.length-s0.i<T.length+1)/\[]++(Z2L T stm w (T.length+1) s0).1=RL/\(Z2L T stm w (T.length+1) s0).2=RS:=⟨hs0,hi0,by simp,λ_=>by omega,by rw[hR];rfl,by rw[hR]⟩
 clear hR
 simp only
 refine MemQ.conv (r:=stN RL) ?_ (λ_ _ _ h=>ZdZ h)
 simp only[psH]
 refine Z0S follows Z06 (Z0e follows Z06 hO 3) Tryz.func50 rfl (Z0p (isC:=ZpY) 3) ?_
 repeat' ((conv=>whnf);first|refine stp ?_|with_reducible apply Z01<;>intro h)
 conv=>whnf
 refine⟨Bs4,(λy=>PsOK T y.s/\i0<=y.s.i/\y.l.length+y.k<=T.length+1/\(y.s.err=0->T.length-y.s.i<y.k)/\y.l++(Z2L T stm w y.k y.s).1=RL/\(Z2L T stm w y.k y.s).2=RS),(λy=>[(0,.ptr 0 0),(1,.str w),(5,stS y.l)]),
  (λy=>psH T y.s++Zoj y.l),(λy=>y.k),⟨⟨[],s0,T.length+1⟩,hI,?_⟩,?_⟩
 · refine FgLK.mk [0] rfl rfl ?_ ⟨hbp,trivial⟩ rfl
   exact wks
 clear hI hs0 hi0
 rintro⟨l,s,k⟩ ⟨hs,hi,hlk,hk,hL,hS⟩
 dsimp only at hs hi hlk hk hL hS
 (try dsimp only)
 have hx:=tq4 T s.i hs.lt
 rw[<- Z0s hs.lt]at hx
 have hlt:=hs.lt
 have gi:=λX=>q1 w s X hs
 have gs:=λX=>q2 s X hs hi
 clear q1 q2
 by_cases hc:s.err=0/\isF T s w=false/\(Z0o T s).kind≠5
 · obtain⟨k,rfl⟩:∃k',k=k'+1:=⟨k-1,by have:=hk hc.1;omega⟩
   have hg:=hgo s hs hi
   unfold Z2L at hL hS
   rw[if_pos hc]at hL hS
   obtain⟨c1,c2,c3⟩:=hc
   have e3:((Z0o T s).kind != 5)=true:=by simpa using c3
   rw[c2]at gi
   have hk:=hk c1
   generalize Z0o T s=t at *
   obtain⟨tk_,tx,tn_,tp⟩:=t
   generalize stm s=r at *
   obtain⟨⟨y1,y2,y3,y4,y5,y6,y7⟩,⟨i2,er2,a2,p2⟩⟩:=r
   obtain⟨i,err,at_,op⟩:=s
   simp only at c1
   subst c1
   simp only[psH,Tq.cells,St.cells,exA]at gi gs hx hlt hg hL hS e3 hk⊢
   clear c2 c3 hgo
   rcases l with _|⟨a,l⟩
   · simp only[stS,Zoj,Y0n]
     repeat' ((conv=>whnf);first|refine exI hx ?_|refine exI (gi [] rfl) ?_|refine exI (gs _ rfl) ?_|(with_reducible refine ixJ i rfl ?_ ?_;focus omega)|(refine apS ?_)|refine stp ?_|with_reducible apply Z01<;>intro h)
     conv=>whnf
     refine⟨⟨[.mk y1 y2 y3 y4 y5 y6 y7],⟨i2,er2,a2,p2⟩,k⟩,⟨hg.1.ok,Y01 hi hg.1.on,by simp at hlk⊢;omega,λhe=>by have:=hg.2 he;simp only at this⊢;omega,by simpa using hL,hS⟩,Y0w _,?_⟩
     (refine FgLK.mk [0,3] rfl rfl ?_ ⟨hbp,⟨rfl,rfl,rfl,rfl,Z0f rfl (Z5m [.mk y1 y2 y3 y4 y5 y6 y7])⟩,trivial⟩ rfl;(focus (dsimp only[stS,Y0x];(repeat (first|exact trivial|refine stw ?_));done)))
   · have hcl:(stC (a::l)).length=(l.length+1)*7:=Z5h _
     have hsn:=ZgP (a::l) y1 y4 y2 y3 y5 y6 y7
     simp only[Y0a]at hlk
     simp only[stS,Zoj]
     repeat' ((conv=>whnf);first|refine exI hx ?_|refine exI (gi [_] rfl) ?_|refine exI (gs _ rfl) ?_|(with_reducible refine ixJ i rfl ?_ ?_;focus omega)|(refine apS ?_)|refine stp ?_|with_reducible apply Z01<;>intro h)
     conv=>whnf
     have hl1:(l++[St.mk y1 y2 y3 y4 y5 y6 y7]).length=l.length+1:=by simp
     refine⟨⟨a::(l++[.mk y1 y2 y3 y4 y5 y6 y7]),⟨i2,er2,a2,p2⟩,k⟩,⟨hg.1.ok,Y01 hi hg.1.on,by simp only[Y0a,hl1];omega,λhe=>by have:=hg.2 he;simp only at this⊢;omega,by rw[<- hL];simp,hS⟩,Y0w _,?_⟩
     (refine FgLK.mk [0,4] rfl rfl ?_ ⟨hbp,⟨rfl,rfl,rfl,rfl,Z0f hsn (Z5m _)⟩,trivial⟩ rfl;(focus (dsimp only[stS,Y0x];(repeat (first|exact trivial|refine stw ?_));done)))
 · have hE:=Za1 (stm:=stm) hc k
   rw[hE]at hL hS
   simp only[Y0n]at hL hS
   subst hL hS
   clear hE hgo gs hk
   generalize isF T s w=b at *
   generalize Z0o T s=t at *
   obtain⟨tk_,tx,tn_,tp⟩:=t
   obtain⟨i,err,at_,op⟩:=s
   simp only[psH,Tq.cells]at gi hx hlt hc⊢
   have hcl:(stC l).length=l.length*7:=Z5h _
   by_cases he:err=0
   case' neg=>have e1:(err==0)=false:=by simpa using he
   case' pos =>
    subst he
    cases b
    case' false=>have e3:(tk_ != 5)=false:=by simp at hc⊢;exact hc
   all_goals rcases l with _|⟨a,l⟩
   all_goals simp only[stS,Zoj,stN]
   all_goals repeat' ((conv=>whnf);first|refine exI hx ?_|refine exI (gi [] rfl) ?_|refine exI (gi [_] rfl) ?_|(with_reducible refine ixJ i rfl ?_ ?_;focus omega)|refine stp ?_|with_reducible apply Z01<;>intro h)
   all_goals (conv=>whnf)
   all_goals first
    |exact⟨[],[0],rfl,⟨⟨rfl,rfl,rfl,rfl,Y06 (Y07 (rest:=[]) rfl rfl)⟩,trivial⟩,rfl,rfl,.inl (Y08 rfl)⟩
    |exact⟨[1],[0],rfl,⟨⟨rfl,rfl,rfl,rfl,Y06 (Y07 (rest:=[]) rfl rfl)⟩,trivial⟩,rfl,rfl,.inr (Z1t (n:=28) rfl hcl (Z5m _))⟩
end
section
variable {gl:Z0g}
theorem Zik{T:List Tq}{i0:Nat}{stm:Ps->St×Ps}(hstm:∀s,PsOK T s->i0<=s.i->PsGo T s (stm s).2){s:Ps}(hs:PsOK T s)(hi:i0<=s.i):PsGo T s (Z7P T stm s).2:=by
 have h1:=Z0C hs [123]
 have h2:=ZcC hstm [125] (T.length+1) _ h1.ok (Y01 hi h1.on)
 exact h1.trans (h2.trans (Z0C h2.ok _))
def Zq9(f:Nat):Bool:=Y03 f 92 || Y03 f 50
def Zpi(gl:Z0g)(T:List Tq)(i0:Nat)(blk:Ps->List St×Ps):Prop:=∀s,PsOK T s->i0<=s.i->PsGo T s (blk s).2/\MemQ Y00 gl 1 47 [.ptr 0 0] (psH T s) (stA (blk s).1) (psH T (blk s).2)
theorem Zbi{T:List Tq}{i0:Nat}{stm:Ps->St×Ps}(hstm:Znc gl T i0 stm):Zpi gl T i0 (Z7P T stm):=by
 intro s hs hi
 refine⟨Zik (λs h h2=>(hstm s h h2).1.1) hs hi,?_⟩
 obtain⟨O,hO,⟨p1,p2,-⟩,-⟩:=Z3v (P:=Y00) (gl:=gl) [Z6D T,Z48 T 50 (by kernel_rfl) (I:=List UInt8) (λ_ s=>PsOK T s/\i0<=s.i) (λw=>[.ptr 0 0,.str w]) (λw s=>stA (Z2L T stm w (T.length+1) s).1) (λw s=>(Z2L T stm w (T.length+1) s).2) (λ_=>rfl) (λi j h=>by simpa using h) (λw s h=>Zja hstm h.1 h.2 w)] [] rfl
 have qn:∀w s X,PsOK T s->Z07 [0] X=true->Z05 Y00 O (psH T s++X) 92 [.ptr 0 0,.str w]=some (.tuple [],psH T (Z03 T s w)++X):=λw s X h hX=>p1 (w,s,X) ⟨h,hX⟩
 have qs:∀w s X,PsOK T s->i0<=s.i->Z07 [0] X=true->Z05 Y00 O (psH T s++X) 50 [.ptr 0 0,.str w]=some (stA (Z2L T stm w (T.length+1) s).1,psH T (Z2L T stm w (T.length+1) s).2++X):=λw s X h hi hX=>p2 (w,s,X) ⟨⟨h,hi⟩,hX⟩
 clear p1 p2
 have h1:=Z0C hs [123]
 have hi1:=Y01 hi h1.on
 have h2:=(ZcC (λs h h2=>(hstm s h h2).1.1) [125] (T.length+1) _ h1.ok hi1).ok
 have h1:=h1.ok
 have g1:=λX=>qn [123] s X hs
 have g2:=λX=>qs [125] _ X h1 hi1
 have g3:=λX=>qn [125] _ X h2
 clear qn qs hstm
 unfold Z7P
 generalize Z03 T s [123]=s1 at *
 generalize Z2L T stm [125] (T.length+1) s1=r at *
 obtain⟨l,s2⟩:=r
 simp only at g3 h2⊢
 generalize Z03 T s2 [125]=s3 at *
 simp only[psH,stA]at g1 g2 g3⊢
 refine Z2o Zq9 3 follows Z06 hO Tryz.func47 rfl ?_
 repeat' ((conv=>whnf);first|refine exI (g1 _ rfl) ?_|refine exI (g2 _ rfl) ?_|refine exI (g3 _ rfl) ?_|refine stp ?_|with_reducible apply Z01<;>intro h)
 all_goals (try (conv=>whnf))
 all_goals exact⟨[0],rfl,⟨hbp,trivial⟩,rfl,Y08 rfl⟩
def kIf:List UInt8:=[105,102]
def Z94:List UInt8:=[101,108,115,101]
def Z62:List UInt8:=[119,104,105,108,101]
def Z7p(T:List Tq)(blk:Ps->List St×Ps)(stm:Ps->St×Ps)(s:Ps):List St×Ps :=
 if isF T s Z94=true then (if isF T (Z02 s) kIf=true then ([(stm (Z02 s)).1],(stm (Z02 s)).2) else blk (Z02 s)) else ([],s)
def ZbD(T:List Tq)(blk:Ps->List St×Ps)(stm:Ps->St×Ps)(s:Ps):St×Ps :=
 (.mk 10 [] [] 0 [(Z1p T s).1] (blk (Z1p T s).2).1 (Z7p T blk stm (blk (Z1p T s).2).2).1,(Z7p T blk stm (blk (Z1p T s).2).2).2)
def Zj5(T:List Tq)(blk:Ps->List St×Ps)(s:Ps):St×Ps :=
 (.mk 11 [] [] 0 [(Z1p T s).1] (blk (Z1p T s).2).1 [],(blk (Z1p T s).2).2)
def Z2M(T:List Tq)(blk:Ps->List St×Ps)(stm:Ps->St×Ps)(s:Ps):St×Ps :=
 if isF T s kIf=true then ZbD T blk stm (Z02 s)
 else if isF T s Z62=true then Zj5 T blk (Z02 s)
 else ((Z1m T s).1,Z03 T (Z1m T s).2 [59])
theorem Zmv{T:List Tq}{i0:Nat}{blk:Ps->List St×Ps}{stm:Ps->St×Ps}(hblk:∀s,PsOK T s->i0<=s.i->PsGo T s (blk s).2)(hstm:∀s,PsOK T s->i0<=s.i->PsGo T s (stm s).2){s:Ps}(hs:PsOK T s)(hi:i0<=s.i):PsGo T s (Z7p T blk stm s).2:=by
 unfold Z7p
 split
 · rename_i h
   have h1:=Z0b hs h
   have h2:=Y01 hi h1.on
   split
   ·exact h1.trans (hstm _ h1.ok h2)
   ·exact h1.trans (hblk _ h1.ok h2)
 ·exact⟨hs,Y02 _,Y0h _⟩
theorem Zlx{T:List Tq}{blk:Ps->List St×Ps}{stm:Ps->St×Ps}{s:Ps}(hblk:∀t,PsOK T t->s.i+1<=t.i->PsGo T t (blk t).2)(hstm:∀t,PsOK T t->s.i+1<=t.i->PsGo T t (stm t).2)(hs:PsOK T s):PsGo T s (Z2M T blk stm s).2/\((Z2M T blk stm s).2.err=0->s.i<(Z2M T blk stm s).2.i):=by
 have up:∀{w:List UInt8}{s':Ps},isF T s w=true->PsGo T (Z02 s) s'->PsGo T s s'/\(s'.err=0->s.i<s'.i):=λh h2=>⟨(Z0b hs h).trans h2,λ_=>by have:s.i+1<=_:=h2.on;omega⟩
 unfold Z2M
 split
 · rename_i h
   have h0:=(Z0b hs h).ok
   have h1:=Z3e h0
   have i1:s.i+1<=_:=h1.on
   have h2:=hblk _ h1.ok i1
   have i2:=Y01 i1 h2.on
   exact up h (h1.trans (h2.trans (Zmv hblk hstm h2.ok i2)))
 split
 · rename_i h
   have h0:=(Z0b hs h).ok
   have h1:=Z3e h0
   have i1:s.i+1<=_:=h1.on
   exact up h (h1.trans (hblk _ h1.ok i1))
 · have h1:=Ze5 hs
   have h2:=Z0C h1.1.ok [59]
   refine⟨h1.1.trans h2,λhe=>?_⟩
   by_cases h3:(Z1m T s).2.err=0
   ·exact Y0y (h1.2 h3) h2.on
   ·exact absurd he (Z4Q T _ _ h3)
theorem Z86{sn:Z0m}{ι : Z0i}{v:Value}{k o:Int}{a b:List UInt8}{x:List Ex}{t e:List St}{xa ta ea:AV}(hx:∀v,VR sn ι xa v->VR sn ι (exA x) v)(ht:∀v,VR sn ι ta v->VR sn ι (stA t) v)(he:∀v,VR sn ι ea v->VR sn ι (stA e) v)(h:VR sn ι (.agg [.int .i64 k,.str a,.str b,.int .i64 o,xa,ta,ea]) v):VR sn ι (.agg (St.mk k a b o x t e).cells) v:=by
 obtain⟨d,rfl,d1,l1,f1,a1,d2,l2,rfl,a2,d3,l3,rfl,a3,d4,l4,rfl,a4,d5,l5,rfl,a5,d6,l6,rfl,a6,d7,l7,rfl,a7,h1⟩:=h.agg
 exact Z44 ⟨_,_,f1,a1,_,_,rfl,a2,_,_,rfl,a3,_,_,rfl,a4,_,_,rfl,hx _ a5,_,_,rfl,ht _ a6,_,_,rfl,he _ a7,h1⟩
def ZnE(f:Nat):Bool:=Y03 f 45 || (Y03 f 90 || (Y03 f 92 || (Y03 f 109 || (Y03 f 110 || (Y03 f 47 || Y03 f 93)))))
theorem Zgq{T:List Tq}{blk:Ps->List St×Ps}{stm:Ps->St×Ps}{s:Ps}(hblk:Zpi gl T (s.i+1) blk)(hstm:Znc gl T (s.i+1) stm)(hs:PsOK T s):MemQ Y00 gl 1 93 [.ptr 0 0] (psH T s) (.agg (Z2M T blk stm s).1.cells) (psH T (Z2M T blk stm s).2):=by
 obtain⟨O,hO,⟨p1,p2,p3,p4,p5,p6,p7,-⟩,-⟩:=Z3v (P:=Y00) (gl:=gl) [Z9Z T,Z6D T,ZlZ T,Zl7 T,
  Z48 T 110 (by kernel_rfl) (I:=Unit) (λ_ s=>PsOK T s) (λ_=>[.ptr 0 0]) (λ_ s=>.agg (Z1m T s).1.cells) (λ_ s=>(Z1m T s).2) (λ_=>rfl) (λ_ _ _=>rfl) (λ_ s h=>ZgB h),
  Z48 T 47 (by kernel_rfl) (I:=Unit) (λ_ t=>PsOK T t/\s.i+1<=t.i) (λ_=>[.ptr 0 0]) (λ_ t=>stA (blk t).1) (λ_ t=>(blk t).2) (λ_=>rfl) (λ_ _ _=>rfl) (λ_ t h=>(hblk t h.1 h.2).2),
  Z48 T 93 (by kernel_rfl) (I:=Unit) (λ_ t=>PsOK T t/\s.i+1<=t.i) (λ_=>[.ptr 0 0]) (λ_ t=>.agg (stm t).1.cells) (λ_ t=>(stm t).2) (λ_=>rfl) (λ_ _ _=>rfl) (λ_ t h=>(hstm t h.1 h.2).2)] [] rfl
 have tk:∀w s X,kwB w=true->isF T s w=true->PsOK T s->Z07 [0] X=true->Z05 Y00 O (psH T s++X) 45 [.ptr 0 0,.str w]=some (.bool true,psH T (Z02 s)++X):=λw s X hw hi h hX=>by
  have this:Z05 Y00 O (psH T s++X) 45 [.ptr 0 0,.str w]=some (.bool (Z0F T s w),psH T (Z0c T s w)++X):=p1 (w,s,X) ⟨h,hX⟩
  rw[(Z2C hw).1,(Z2C hw).2,hi,if_pos rfl]at this
  exact this
 have tn:∀w s X,kwB w=true->isF T s w=false->PsOK T s->Z07 [0] X=true->Z05 Y00 O (psH T s++X) 45 [.ptr 0 0,.str w]=some (.bool false,psH T s++X):=λw s X hw hi h hX=>by
  have this:Z05 Y00 O (psH T s++X) 45 [.ptr 0 0,.str w]=some (.bool (Z0F T s w),psH T (Z0c T s w)++X):=p1 (w,s,X) ⟨h,hX⟩
  rw[(Z2C hw).1,(Z2C hw).2,hi,if_neg (by decide)]at this
  exact this
 have qn:∀w s X,PsOK T s->Z07 [0] X=true->Z05 Y00 O (psH T s++X) 92 [.ptr 0 0,.str w]=some (.tuple [],psH T (Z03 T s w)++X):=λw s X h hX=>p2 (w,s,X) ⟨h,hX⟩
 have qi:∀w s X,PsOK T s->Z07 [0] X=true->Z05 Y00 O (psH T s++X) 90 [.ptr 0 0,.str w]=some (.bool (isF T s w),psH T s++X):=λw s X h hX=>p3 (w,s,X) ⟨h,hX⟩
 have qb:∀s X,PsOK T s->Z07 [0] X=true->Z05 Y00 O (psH T s++X) 109 [.ptr 0 0]=some (.agg (Z1p T s).1.cells,psH T (Z1p T s).2++X):=λs X h hX=>p4 ((),s,X) ⟨h,hX⟩
 have qs:∀s X,PsOK T s->Z07 [0] X=true->Z05 Y00 O (psH T s++X) 110 [.ptr 0 0]=some (.agg (Z1m T s).1.cells,psH T (Z1m T s).2++X):=λs X h hX=>p5 ((),s,X) ⟨h,hX⟩
 have qk:∀t X,PsOK T t->s.i+1<=t.i->Z07 [0] X=true->Z05 Y00 O (psH T t++X) 47 [.ptr 0 0]=some (stA (blk t).1,psH T (blk t).2++X):=λt X h hi hX=>p6 ((),t,X) ⟨⟨h,hi⟩,hX⟩
 have qt:∀t X,PsOK T t->s.i+1<=t.i->Z07 [0] X=true->Z05 Y00 O (psH T t++X) 93 [.ptr 0 0]=some (.agg (stm t).1.cells,psH T (stm t).2++X):=λt X h hi hX=>p7 ((),t,X) ⟨⟨h,hi⟩,hX⟩
 clear p1 p2 p3 p4 p5 p6 p7
 have bgo:∀t,PsOK T t->s.i+1<=t.i->PsGo T t (blk t).2:=λt h h2=>(hblk t h h2).1
 clear hblk hstm
 unfold Z2M
 cases h1:isF T s kIf with
 |true =>
  rw[if_pos rfl]
  have f0:=λX=>tk kIf s X rfl h1 hs
  have ok0:=(Z0b hs h1).ok
  have b0:=Z3e ok0
  have i1:s.i+1<=(Z1p T (Z02 s)).2.i:=b0.on
  have b1:=bgo _ b0.ok i1
  have i2:=Y01 i1 b1.on
  have f1:=λX=>qb _ X ok0
  have f2:=λX=>qk _ X b0.ok i1
  have ok1:=b0.ok
  have ok2:=b1.ok
  clear b0 b1 bgo
  unfold ZbD
  generalize Z02 s=u0 at *
  generalize Z1p T u0=r0 at *
  obtain⟨⟨eo,en,et,ek⟩,u1⟩:=r0
  simp only at f1 f2 ok1 ok2 i1 i2⊢
  generalize blk u1=r1 at *
  obtain⟨tl,u2⟩:=r1
  simp only at f1 f2 ok2 i2⊢
  unfold Z7p
  cases h2:isF T u2 Z94 with
  |true =>
   simp only[if_true]
   have f3:=λX=>tk Z94 u2 X rfl h2 ok2
   have ok3:=(Z0b ok2 h2).ok
   have i3:s.i+1<=(Z02 u2).i:=Y01 i2 (Z0b ok2 h2).on
   have f4:=λX=>qi kIf _ X ok3
   cases h3:isF T (Z02 u2) kIf with
   |true =>
    simp only[if_true]
    rw[h3]at f4
    have f5:=λX=>qt _ X ok3 i3
    clear tk tn qn qi qb qs qk qt
    generalize Z02 u2=u3 at *
    generalize stm u3=r3 at *
    obtain⟨⟨y1,y2,y3,y4,y5,y6,y7⟩,u4⟩:=r3
    simp only[psH,Ex.cells,St.cells,stA,exA]at f0 f1 f2 f3 f4 f5⊢
    refine Z0S follows Z06 (Z0e follows Z06 hO 3) Y0o rfl (Z0p (isC:=ZnE) 3) ?_
    repeat' ((conv=>whnf);first|refine exI (f0 _ rfl) ?_|refine exI (f1 _ rfl) ?_|refine exI (f2 _ rfl) ?_|refine exI (f3 _ rfl) ?_|refine exI (f4 _ rfl) ?_|refine exI (f5 _ rfl) ?_|refine stp ?_|with_reducible apply Z01<;>intro h)
    all_goals (try (conv=>whnf))
    all_goals exact⟨[1,2,3,4,5],[0],rfl,⟨⟨rfl,rfl,rfl,rfl,Y06 (Y07 (rest:=[]) rfl rfl)⟩,trivial⟩,rfl,rfl,.inr rfl⟩
   |false =>
    simp only[Y0p,if_false]
    rw[h3]at f4
    have f5:=λX=>qk _ X ok3 i3
    clear tk tn qn qi qb qs qk qt
    generalize Z02 u2=u3 at *
    generalize blk u3=r3 at *
    obtain⟨el,u4⟩:=r3
    simp only[psH,Ex.cells,St.cells,stA,exA]at f0 f1 f2 f3 f4 f5⊢
    refine Z0S follows Z06 (Z0e follows Z06 hO 3) Y0o rfl (Z0p (isC:=ZnE) 3) ?_
    repeat' ((conv=>whnf);first|refine exI (f0 _ rfl) ?_|refine exI (f1 _ rfl) ?_|refine exI (f2 _ rfl) ?_|refine exI (f3 _ rfl) ?_|refine exI (f4 _ rfl) ?_|refine exI (f5 _ rfl) ?_|refine stp ?_|with_reducible apply Z01<;>intro h)
    all_goals (try (conv=>whnf))
    all_goals exact⟨[1,2,3,4,5],[0],rfl,⟨⟨rfl,rfl,rfl,rfl,Y06 (Y07 (rest:=[]) rfl rfl)⟩,trivial⟩,rfl,rfl,.inr rfl⟩
  |false =>
   simp only[Y0p,if_false]
   have f3:=λX=>tn Z94 u2 X rfl h2 ok2
   clear tk tn qn qi qb qs qk qt
   refine MemQ.conv (r:=.agg [.int .i64 10,.str [],.str [],.int .i64 0,exA [.mk eo en et ek],stA tl,.nslice]) ?_ (λ_ _ _ h=>Z86 (λ_ h=>h) (λ_ h=>h) (λ_ h=>Z2B h) h)
   simp only[psH,Ex.cells,St.cells,stA,exA]at f0 f1 f2 f3⊢
   refine Z0S follows Z06 (Z0e follows Z06 hO 3) Y0o rfl (Z0p (isC:=ZnE) 3) ?_
   repeat' ((conv=>whnf);first|refine exI (f0 _ rfl) ?_|refine exI (f1 _ rfl) ?_|refine exI (f2 _ rfl) ?_|refine exI (f3 _ rfl) ?_|refine stp ?_|with_reducible apply Z01<;>intro h)
   all_goals (try (conv=>whnf))
   all_goals exact⟨[1,2,3,4,5],[0],rfl,⟨⟨rfl,rfl,rfl,rfl,Y06 (Y07 (rest:=[]) rfl rfl)⟩,trivial⟩,rfl,rfl,.inr rfl⟩
 |false =>
  rw[if_neg (by decide)]
  have f0:=λX=>tn kIf s X rfl h1 hs
  cases h2:isF T s Z62 with
  |true =>
   rw[if_pos rfl]
   have f1:=λX=>tk Z62 s X rfl h2 hs
   have ok0:=(Z0b hs h2).ok
   have b0:=Z3e ok0
   have i1:s.i+1<=(Z1p T (Z02 s)).2.i:=b0.on
   have f2:=λX=>qb _ X ok0
   have f3:=λX=>qk _ X b0.ok i1
   clear b0 bgo tk tn qn qi qb qs qk qt
   unfold Zj5
   generalize Z02 s=u0 at *
   generalize Z1p T u0=r0 at *
   obtain⟨⟨eo,en,et,ek⟩,u1⟩:=r0
   simp only at f2 f3 i1⊢
   generalize blk u1=r1 at *
   obtain⟨tl,u2⟩:=r1
   refine MemQ.conv (r:=.agg [.int .i64 11,.str [],.str [],.int .i64 0,exA [.mk eo en et ek],stA tl,.nslice]) ?_ (λ_ _ _ h=>Z86 (λ_ h=>h) (λ_ h=>h) (λ_ h=>Z2B h) h)
   simp only[psH,Ex.cells,St.cells,stA,exA]at f0 f1 f2 f3⊢
   refine Z0S follows Z06 (Z0e follows Z06 hO 3) Y0o rfl (Z0p (isC:=ZnE) 3) ?_
   repeat' ((conv=>whnf);first|refine exI (f0 _ rfl) ?_|refine exI (f1 _ rfl) ?_|refine exI (f2 _ rfl) ?_|refine exI (f3 _ rfl) ?_|refine stp ?_|with_reducible apply Z01<;>intro h)
   all_goals (try (conv=>whnf))
   all_goals exact⟨[1,2,3,4,5],[0],rfl,⟨⟨rfl,rfl,rfl,rfl,Y06 (Y07 (rest:=[]) rfl rfl)⟩,trivial⟩,rfl,rfl,.inr rfl⟩
  |false =>
   rw[if_neg (by decide)]
   have f1:=λX=>tn Z62 s X rfl h2 hs
   have f2:=λX=>qs s X hs
   have ok1:=(Ze5 hs).1.ok
   have f3:=λX=>qn [59] _ X ok1
   clear bgo tk tn qn qi qb qs qk qt
   generalize Z1m T s=r at *
   obtain⟨x,u⟩:=r
   obtain⟨y1,y2,y3,y4,y5,y6,y7,y8,y9,y10,hy⟩:=Z3M x
   rw[hy]at f2⊢
   simp only at f2 f3 ok1⊢
   generalize Z03 T u [59]=u2 at *
   simp only[psH]at f0 f1 f2 f3⊢
   refine Z0S follows Z06 (Z0e follows Z06 hO 3) Y0o rfl (Z0p (isC:=ZnE) 3) ?_
   repeat' ((conv=>whnf);first|refine exI (f0 _ rfl) ?_|refine exI (f1 _ rfl) ?_|refine exI (f2 _ rfl) ?_|refine exI (f3 _ rfl) ?_|refine stp ?_|with_reducible apply Z01<;>intro h)
   all_goals (try (conv=>whnf))
   all_goals exact⟨[],[0],rfl,⟨⟨rfl,rfl,rfl,rfl,Y06 (Y07 (rest:=[]) rfl rfl)⟩,trivial⟩,rfl,rfl,.inl (Y08 rfl)⟩
def Z57(T:List Tq):Nat->Ps->St×Ps
 |0,s=>(.mk 0 [] [] 0 [] [] [],s)
 |d+1,s=>Z2M T (Z7P T (Z57 T d)) (Z57 T d) s
theorem ZcD{T:List Tq}:∀(d i0:Nat),T.length<=i0+d->Znc gl T i0 (Z57 T d)
 |0,i0,hd=>λs hs hi=>by have:=hs.lt;omega
 |d+1,i0,hd=>λs hs hi=>by
  have ih:Znc gl T (s.i+1) (Z57 T d):=ZcD d (s.i+1) (by omega)
  have ib:=Zbi ih
  exact⟨Zlx (λt h h2=>(ib t h h2).1) (λt h h2=>(ih t h h2).1.1) hs,Zgq ib ih hs⟩
def Zgr(T:List Tq)(s:Ps):St×Ps:=Z57 T T.length s
def Z7d(T:List Tq)(s:Ps):List St×Ps:=Z7P T (Zgr T) s
theorem Zjb(T:List Tq):Znc gl T 0 (Zgr T):=ZcD T.length 0 (by omega)
theorem Zij(T:List Tq):Zpi gl T 0 (Z7d T):=Zbi (Zjb T)
end
section
structure TvS (gl:Z0g) extends TvE gl where
 gS:Nat
 cS:List AV
 hS:St->Int -> σ -> Bool×σ
 bodyS:Z0h Y00 gS=true
 wkS:WkL (List.range k) cS cS
 okS:∀x rest d s m,lex.okS x->I d s (m+1)->Z2i Y00 gl gS ([.rp (x.cells++rest),.int .i64 d]++cS) (Mem s) (.bool (hS x d s).1) (Mem (hS x d s).2)
 downS:∀x d s m,I d s (m+1)->(hS x d s).1=true->I (d+1) (hS x d s).2 m
section
variable {σ : Type}
def Z1l(r:Bool×σ)(f : σ -> Bool×σ):Bool×σ:=if r.1=true then f r.2 else (false,r.2)
mutual
def goS(hE:Ex->Int -> σ -> Bool×σ)(hS:St->Int -> σ -> Bool×σ):St->Int -> σ -> Bool×σ
 | .mk k n l o x t e,d,s=>Z1l (hS (.mk k n l o x t e) d s) λs1=>Z1l (goL hE x (d+1) s1) λs2=>Z1l (goSL hE hS t (d+1) s2) λs3=>goSL hE hS e (d+1) s3
def goSL(hE:Ex->Int -> σ -> Bool×σ)(hS:St->Int -> σ -> Bool×σ):List St->Int -> σ -> Bool×σ
 |[],d,s=>(true,s)
 |x::l,d,s=>Z1l (goS hE hS x d s) λs1=>goSL hE hS l d s1
end
variable {hE:Ex->Int -> σ -> Bool×σ} {hS:St->Int -> σ -> Bool×σ}
theorem ZnJ(x:St)(d:Int)(s : σ):goS hE hS x d s=Z1l (hS x d s) λs1=>Z1l (goL hE x.exprs (d+1) s1) λs2=>Z1l (goSL hE hS x.thn (d+1) s2) λs3=>goSL hE hS x.els (d+1) s3:=by
 obtain⟨k,n,l,o,x,t,e⟩:=x
 simp only[goS,St.exprs,St.thn,St.els]
theorem Zhn:∀(l:List St)(d:Int)(t : σ)(i:Nat)(hi:i<l.length),(goSL hE hS (l.take i) d t).1=true->goSL hE hS (l.take (i+1)) d t=goS hE hS l[i] d (goSL hE hS (l.take i) d t).2
 |e::l,d,t,0,_,_=>by
  simp only[Y0i,Y0j,goSL,Y0s,Z1l]
  split
  ·rename_i h2;rw[<- h2]
  ·rename_i h2;rw[<- Bool.eq_false_iff.2 h2]
 |e::l,d,t,i+1,hi,ht=>by
  simp only[Y0j,goSL,Y0t,Z1l]at ht⊢
  split
  · rename_i h2
    rw[if_pos h2]at ht
    exact Zhn l d _ i (by simpa using hi) ht
  ·rename_i h2;rw[if_neg h2]at ht;cases ht
theorem ZbE:∀(l:List St)(d:Int)(t : σ)(i:Nat),(goSL hE hS (l.take i) d t).1=false->goSL hE hS l d t=goSL hE hS (l.take i) d t
 |[],d,t,i,hf=>by simp
 |e::l,d,t,0,hf=>by simp only[Y0i,goSL]at hf;cases hf
 |e::l,d,t,i+1,hf=>by
  simp only[Y0j,goSL,Z1l]at hf⊢
  split
  · rename_i h2
    rw[if_pos h2]at hf
    exact ZbE l d _ i hf
  ·rfl
theorem Z4D{r:Bool×σ}{f : σ -> Bool×σ}(h:(Z1l r f).1=true):r.1=true/\Z1l r f=f r.2:=by
 unfold Z1l at h⊢
 split at h
 ·rename_i h2;exact⟨h2,by rw[if_pos h2]⟩
 ·cases h
end
section
variable {gl:Z0g} (V:TvS gl)
def TvS.G:AV:=.func (.func V.gS) [] V.cS
mutual
theorem TvS.keepS:∀(x:St)(d:Int)(s:V.σ)(m:Nat),V.I d s (Z1O x+m)->(goS V.hE V.hS x d s).1=true->V.I d (goS V.hE V.hS x d s).2 m
 | .mk k n l o x t e,d,s,m,hI,ht=>by
  simp only[goS,Z1O]at hI ht⊢
  obtain⟨h1,e1⟩:=Z4D ht
  rw[e1]at ht⊢
  obtain⟨h2,e2⟩:=Z4D ht
  rw[e2]at ht⊢
  obtain⟨h3,e3⟩:=Z4D ht
  rw[e3]at ht⊢
  have i1:=V.downS _ d s (sizeL x+(sizeSL t+(sizeSL e+m))) (by rw[show 1+sizeL x+sizeSL t+sizeSL e+m=sizeL x+(sizeSL t+(sizeSL e+m))+1 from by omega]at hI;exact hI) h1
  have i2:=V.toTvE.keepL x (d+1) _ _ i1 h2
  have i3:=TvS.keepSL t (d+1) _ _ i2 h3
  exact V.up _ _ _ (V.bnd _ _ _ hI).1 (TvS.keepSL e (d+1) _ m i3 ht)
theorem TvS.keepSL:∀(l:List St)(d:Int)(s:V.σ)(m:Nat),V.I d s (sizeSL l+m)->(goSL V.hE V.hS l d s).1=true->V.I d (goSL V.hE V.hS l d s).2 m
 |[],d,s,m,hI,ht=>by simp only[goSL,sizeSL,Nat.zero_add]at hI⊢;exact hI
 |x::l,d,s,m,hI,ht=>by
  simp only[goSL,sizeSL]at hI ht⊢
  obtain⟨h1,e1⟩:=Z4D ht
  rw[e1]at ht⊢
  exact TvS.keepSL l d _ m (TvS.keepS x d s (sizeSL l+m) (by rw[<- Nat.add_assoc];exact hI) h1) ht
end
theorem TvS.stmts : ∀ (n : Nat) (l : List St) (d : Int) (s : V.σ) (m : Nat), sizeSL l <= n -> okSL l -> l.length <= 9223372036854775807 -> V.I d s (sizeSL l + m) ->
  Z2i Y00 gl 64 [stA l,.int .i64 d,V.toTvE.F,V.G] (V.Mem s) (.bool (goSL V.hE V.hS l d s).1) (V.Mem (goSL V.hE V.hS l d s).2)
 |n,l,d,s,m,hn,hok,hl,hI=>by
  have hF : ∃ O, OrcSound Y00 gl O /\
    (∀(x:List St)(t:V.σ)(q:Nat),sizeSL x<n->okSL x->x.length<=9223372036854775807->V.I (d+1) t (sizeSL x+q)->Z05 Y00 O (V.Mem t) 64 [stA x,.int .i64 (d+1),V.toTvE.F,V.G]=some (.bool (goSL V.hE V.hS x (d+1) t).1,V.Mem (goSL V.hE V.hS x (d+1) t).2)) /\
    (∀(x:List Ex)(t:V.σ)(q:Nat),okL x->x.length<=9223372036854775807->V.I (d+1) t (sizeL x+q)->Z05 Y00 O (V.Mem t) 78 [exA x,.int .i64 (d+1),V.toTvE.F]=some (.bool (goL V.hE x (d+1) t).1,V.Mem (goL V.hE x (d+1) t).2)) /\
    (∀(i:Nat)(hi:i<l.length)(t:V.σ)(q:Nat),V.I d t (q+1)->Z05 Y00 O (V.Mem t) V.gS ([.rp ((stC l).drop (i*7)),.int .i64 d]++V.cS)=some (.bool (V.hS l[i] d t).1,V.Mem (V.hS l[i] d t).2)):=by
   have s1:=Z2r (P:=Y00) (gl:=gl) (I:=List St×V.σ×Nat) (G:=λp=>sizeSL p.1<n/\okSL p.1/\p.1.length<=9223372036854775807/\V.I (d+1) p.2.1 (sizeSL p.1+p.2.2)) (fF:=λ_=>64) (fA:=λp=>[stA p.1,.int .i64 (d+1),V.toTvE.F,V.G]) (fH:=λp=>V.Mem p.2.1) (fR:=λp=>.bool (goSL V.hE V.hS p.1 (d+1) p.2.1).1) (fO:=λp=>V.Mem (goSL V.hE V.hS p.1 (d+1) p.2.1).2) λp hp=>by
    obtain⟨h0,h1,h2,h3⟩:=hp
    match n,hn,h0 with
    |n+1,hn,h0=>exact TvS.stmts n _ (d+1) p.2.1 p.2.2 (by omega) h1 h2 h3
   have s2:=Z2r (P:=Y00) (gl:=gl) (I:=List Ex×V.σ×Nat) (G:=λp=>okL p.1/\p.1.length<=9223372036854775807/\V.I (d+1) p.2.1 (sizeL p.1+p.2.2)) (fF:=λ_=>78) (fA:=λp=>[exA p.1,.int .i64 (d+1),V.toTvE.F]) (fH:=λp=>V.Mem p.2.1) (fR:=λp=>.bool (goL V.hE p.1 (d+1) p.2.1).1) (fO:=λp=>V.Mem (goL V.hE p.1 (d+1) p.2.1).2) λp hp =>
    V.toTvE.exprs follows _ p.1 (d+1) p.2.1 p.2.2 (Y02 _) hp.1 hp.2.1 hp.2.2
   have s3:=Z2r (P:=Y00) (gl:=gl) (I:=Nat×V.σ×Nat) (G:=λp=>p.1<l.length/\V.I d p.2.1 (p.2.2+1)) (fF:=λ_=>V.gS) (fA:=λp=>[.rp ((stC l).drop (p.1*7)),.int .i64 d]++V.cS) (fH:=λp=>V.Mem p.2.1) (fR:=λp=>.bool (V.hS (l.getD p.1 default) d p.2.1).1) (fO:=λp=>V.Mem (V.hS (l.getD p.1 default) d p.2.1).2) λp hp=>by
    obtain⟨hp,h1⟩:=hp
    have hg:l.getD p.1 default=l[p.1]:=by simp[List.getD_eq_getElem?_getD,hp]
    have hke:=Z7J hok _ (Z1g hp)
    simp only[hg]
    rw[Z5N l p.1 hp]
    exact V.okS _ _ _ _ _ hke h1
   refine⟨_,Z23 s1 (Z23 s2 s3),λx t q h0 h1 h2 h3=>?_,λx t q h0 h1 h2=>?_,λi hi t q h1=>?_⟩
   · exact Z5w (by kernel_rfl) (Zdm (P := Y00) (fun p q _ _ _ ha hh => by
      have e2:=V.inj _ _ hh
      simp only[List.cons.injEq,and_true,true_and]at ha
      rw[Z5i ha,e2];exact⟨rfl,rfl⟩) (by kernel_rfl) (x,t,q) ⟨h0,h1,h2,h3⟩ rfl rfl rfl)
   · refine Z5v (by kernel_rfl) (Z3r λp _ e _=>absurd e (by decide)) ?_
     exact Z5w (by kernel_rfl) (Zdm (P:=Y00) (λp q _ _ _ ha hh=>by
      have e2:=V.inj _ _ hh
      simp only[List.cons.injEq,and_true,true_and]at ha
      rw[Z8K ha,e2];exact⟨rfl,rfl⟩) (by kernel_rfl) (x,t,q) ⟨h0,h1,h2⟩ rfl rfl rfl)
   · have hg:l.getD i default=l[i]:=by simp[List.getD_eq_getElem?_getD,hi]
     refine Z5v V.bodyS (Z3r λp _ _ ha=>?_) ?_
     · have:=congrArg (λa=>a.head?) ha
       simp[stA]at this
     refine Z5v V.bodyS (Z3r λp _ _ ha=>?_) ?_
     · have:=congrArg (λa=>a.head?) ha
       simp[exA]at this
     · have := Zdm (P := Y00) (I := Nat × V.σ × Nat) (G := fun p => p.1 < l.length /\ V.I d p.2.1 (p.2.2 + 1)) (fF := fun _ => V.gS) (fA := fun p => [.rp ((stC l).drop (p.1 * 7)), .int .i64 d] ++ V.cS) (fH := fun p => V.Mem p.2.1) (fR := fun p => .bool (V.hS (l.getD p.1 default) d p.2.1).1) (fO := fun p => V.Mem (V.hS (l.getD p.1 default) d p.2.1).2)
        (fun p q hp hq _ ha hh => by
          have e2:=V.inj _ _ hh
          simp only[Y0k,List.nil_append,List.cons.injEq,AV.rp.injEq,true_and,and_true]at ha
          have:=congrArg List.length ha
          simp only[List.length_drop,Z5h]at this
          have e:p.1=q.1:=by have:=hp.1;have:=hq.1;omega
          rw[e,e2];exact⟨rfl,rfl⟩) (g:=V.gS) (args:=[.rp ((stC l).drop (i*7)),.int .i64 d]++V.cS) (H:=V.Mem t) V.bodyS (i,t,q) ⟨hi,h1⟩ rfl rfl rfl
       simp only[hg]at this
       exact this
  obtain⟨O,hO,q3,q2,q1⟩:=hF
  have hbd:=V.bnd _ _ _ hI
  have w1:IntKind.i64.wrap (d+1)=d+1:=Z7h (by omega) (by omega)
  simp only[stA,exA,TvE.F,TvS.G]at q2 q3⊢
  refine ZbK (k:=V.k) follows Z06 hO (V.len s) Tryz.func64 rfl (Z9G _ _) ?_
  repeat' ((conv=>whnf);(first|refine stp ?_|with_reducible apply Z01<;>intro h))
  conv=>whnf
  refine⟨Nat,(λi=>i<=l.length/\(goSL V.hE V.hS (l.take i) d s).1=true),(λi=>[(0,.rs l.length 7 (stC l)),(1,.int .i64 d),(2,.func (.func V.gE) [] V.cE),(3,.func (.func V.gS) [] V.cS),(12,.int .i64 l.length),(13,.int .i64 i)]),(λi=>V.Mem (goSL V.hE V.hS (l.take i) d s).2),(λi=>l.length-i),⟨0,⟨Y05 _,by simp only[Y0i,goSL]⟩,?_⟩,?_⟩
  · simp only[Y0i,goSL]
    refine FgLK.same rfl ?_ (V.same _)
    refine Y0b (Y08 rfl) ?_
    refine Y0b (Y08 rfl) ?_
    refine Y0b (Wk.func trivial V.wkE) ?_
    refine Y0b (Wk.func trivial V.wkS) ?_
    refine Y0b (Wk.int rfl) ?_
    exact⟨Wk.int rfl,trivial⟩
  rintro i ⟨hi,hall⟩
  dsimp only
  conv=>whnf
  rw[Z0n]
  by_cases hlt:i<l.length
  · have e1:decide ((i:Int)<(l.length:Int))=true:=by simpa using hlt
    have hat:=Zhn (hE:=V.hE) (hS:=V.hS) l d s i hlt hall
    have hI2:V.I d (goSL V.hE V.hS (l.take i) d s).2 (sizeSL (l.drop i)+m):=V.keepSL (l.take i) d s (sizeSL (l.drop i)+m) (by
     have:=Z6y l i hlt
     have e:sizeSL (l.drop i)=Z1O l[i]+sizeSL (l.drop (i+1)):=by rw[List.drop_eq_getElem_cons hlt];simp only[sizeSL]
     have e2:sizeSL (l.take i)+(sizeSL (l.drop i)+m)=sizeSL l+m:=by omega
     rw[e2];exact hI) hall
    generalize (goSL V.hE V.hS (l.take i) d s).2=t at *
    have esz:sizeSL (l.drop i)+m=(sizeL l[i].exprs+(sizeSL l[i].thn+(sizeSL l[i].els+(sizeSL (l.drop (i+1))+m))))+1:=by
     rw[List.drop_eq_getElem_cons hlt];simp only[sizeSL];have:=Z7B l[i];omega
    rw[esz]at hI2
    have q1':=q1 i hlt t _ hI2
    have hd2:=V.downS l[i] d t _ hI2
    have hx4:tk 1 (((stC l).drop (i*7)).drop 4)=some [exA l[i].exprs]:=by rw[Z5N l i hlt];exact Zl4 _ _
    have hx5:tk 1 (((stC l).drop (i*7)).drop 5)=some [stA l[i].thn]:=by rw[Z5N l i hlt];exact Zl5 _ _
    have hx6:tk 1 (((stC l).drop (i*7)).drop 6)=some [stA l[i].els]:=by rw[Z5N l i hlt];exact Zl6 _ _
    obtain⟨_,_,k1,k2,k3,k4,k5,k6⟩:=Z8m (Z7J hok _ (Z1g hlt))
    have hsz:=Z6x _ _ (Z1g hlt)
    have hse:=Z7B l[i]
    have qx:=λt q=>q2 l[i].exprs t q k4 k1
    have qt:=λt q=>q3 l[i].thn t q (by omega) k5 k2
    have qe:=λt q=>q3 l[i].els t q (by omega) k6 k3
    have kx:=λs m=>V.toTvE.keepL l[i].exprs (d+1) s m
    have kt:=λs m=>V.keepSL l[i].thn (d+1) s m
    rw[ZnJ]at hat
    have hst:=ZbE (hE:=V.hE) (hS:=V.hS) l d s (i+1)
    clear q1 q2 q3 hse hsz k1 k2 k3 k4 k5 k6
    generalize l[i]=e at *
    generalize hr:V.hS e d t=r at *
    obtain⟨b,t1⟩:=r
    simp only[exA,stA]at hx4 hx5 hx6 qx qt qe
    dsimp only[Z1l]at *
    cases b with
    |false =>
     simp only[Y0p,if_false]at hat
     rw[hat]at hst
     rw[hst rfl]
     repeat' ((conv=>whnf);first|(refine exI q1' ?_)|(rw[Z0n])|(with_reducible refine ixJ i rfl ?_ ?_;focus omega)|refine stp ?_|with_reducible apply Z01<;>intro h)
     all_goals (conv=>whnf)
     all_goals (exact V.toTvE.fin s t1 false)
    |true =>
     simp only[if_true]at hat
     have i1:=hd2 rfl
     have qx':=qx t1 _ i1
     have kx':=kx t1 _ i1
     generalize hg:goL V.hE e.exprs (d+1) t1=g at *
     obtain⟨b2,t2⟩:=g
     dsimp only at *
     cases b2 with
     |false =>
      simp only[Y0p,if_false]at hat
      rw[hat]at hst
      rw[hst rfl]
      repeat' ((conv=>whnf);first|(refine exI q1' ?_)|(refine exI qx' ?_)|refine exI hx4 ?_|(rw[Z0n])|(with_reducible refine exW w1 ?_)|(with_reducible refine ixJ i rfl ?_ ?_;focus omega)|refine stp ?_|with_reducible apply Z01<;>intro h)
      all_goals (conv=>whnf)
      all_goals (exact V.toTvE.fin s t2 false)
     |true =>
      simp only[if_true]at hat
      have i2:=kx' rfl
      have qt':=qt t2 _ i2
      have kt':=kt t2 _ i2
      generalize hg2:goSL V.hE V.hS e.thn (d+1) t2=g2 at *
      obtain⟨b3,t3⟩:=g2
      dsimp only at *
      cases b3 with
      |false =>
       simp only[Y0p,if_false]at hat
       rw[hat]at hst
       rw[hst rfl]
       repeat' ((conv=>whnf);first|(refine exI q1' ?_)|(refine exI qx' ?_)|(refine exI qt' ?_)|refine exI hx4 ?_|refine exI hx5 ?_|(rw[Z0n])|(with_reducible refine exW w1 ?_)|(with_reducible refine ixJ i rfl ?_ ?_;focus omega)|refine stp ?_|with_reducible apply Z01<;>intro h)
       all_goals (conv=>whnf)
       all_goals (exact V.toTvE.fin s t3 false)
      |true =>
       simp only[if_true]at hat
       have i3:=kt' rfl
       have qe':=qe t3 _ i3
       generalize hg3:goSL V.hE V.hS e.els (d+1) t3=g3 at *
       obtain⟨b4,t4⟩:=g3
       dsimp only at *
       cases b4 with
       |false =>
        rw[hat]at hst
        rw[hst rfl]
        repeat' ((conv=>whnf);first|(refine exI q1' ?_)|(refine exI qx' ?_)|(refine exI qt' ?_)|(refine exI qe' ?_)|refine exI hx4 ?_|refine exI hx5 ?_|refine exI hx6 ?_|(rw[Z0n])|(with_reducible refine exW w1 ?_)|(with_reducible refine ixJ i rfl ?_ ?_;focus omega)|refine stp ?_|with_reducible apply Z01<;>intro h)
        all_goals (conv=>whnf)
        all_goals (exact V.toTvE.fin s t4 false)
       |true =>
        repeat' ((conv=>whnf);first|(refine exI q1' ?_)|(refine exI qx' ?_)|(refine exI qt' ?_)|(refine exI qe' ?_)|refine exI hx4 ?_|refine exI hx5 ?_|refine exI hx6 ?_|(rw[Z0n])|(with_reducible refine exW w1 ?_)|(with_reducible refine ixJ i rfl ?_ ?_;focus omega)|refine stp ?_|with_reducible apply Z01<;>intro h)
        all_goals (conv=>whnf)
        refine⟨i+1,⟨hlt,by rw[hat]⟩,by show l.length-(i+1)<l.length-i;omega,?_⟩
        rw[hat]
        refine FgLK.same rfl ?_ (V.same _)
        refine Y0b (Y08 rfl) ?_
        refine Y0b (Y08 rfl) ?_
        refine Y0b (Wk.func trivial V.wkE) ?_
        refine Y0b (Wk.func trivial V.wkS) ?_
        refine Y0b (Wk.int rfl) ?_
        exact⟨Wk.int rfl,trivial⟩
  · have e1:decide ((i:Int)<(l.length:Int))=false:=by simpa using hlt
    have hi2:i=l.length:=by have:=hi;omega
    subst hi2
    rw[List.take_length]at hall⊢
    rw[hall]
    generalize (goSL V.hE V.hS l d s).2=t at *
    repeat' ((conv=>whnf);first|(rw[Z0n])|refine stp ?_|with_reducible apply Z01<;>intro h)
    all_goals (conv=>whnf)
    all_goals (exact V.toTvE.fin s t true)
end
end
section
variable {gl:Z0g}
def Z0v:List (List St)->Nat
 |[]=>0
 |l::t=>sizeSL l+Z0v t
def Zg7:List (List St)->Prop
 |[]=>True
 |l::t=>okSL l/\l.length<=9223372036854775807/\Zg7 t
theorem Z5Y:∀{t:List (List St)},Zg7 t->∀l∈t,okSL l/\l.length<=9223372036854775807
 |x::t,h,l,hl=>by
  rcases List.mem_cons.1 hl with rfl|hl
  ·exact⟨h.1,h.2.1⟩
  ·exact Z5Y h.2.2 l hl
theorem Z88:∀(t:List (List St))(i:Nat)(h:i<t.length),Z0v (t.take (i+1))=Z0v (t.take i)+sizeSL t[i]
 |e::l,0,h=>by simp only[Y0j,Y0i,Z0v,Y0s];omega
 |e::l,i+1,h=>by
  have:=Z88 l i (by simpa using h)
  simp only[Y0j,Z0v,Y0t]at this⊢;omega
theorem Zbe:∀(t:List (List St))(i:Nat)(h:i<t.length),Z0v (t.take i)+sizeSL t[i]<=Z0v t
 |e::l,0,h=>by simp only[Y0i,Z0v,Y0s];omega
 |e::l,i+1,h=>by
  have:=Zbe l i (by simpa using h)
  simp only[Y0j,Z0v,Y0t]at this⊢;omega
theorem th1(t:List (List St))(i:Nat)(h:i<t.length):tk 1 ((t.map stA).drop (i*1))=some [stA t[i]]:=Z9Y stA t i h (by omega)
structure Dc where
 name:List UInt8
 plain:Bool
 val:Int
def Dc.cells(d:Dc):List AV:=[.str d.name,.bool d.plain,.int .i64 d.val]
def dcC:List Dc->List AV
 |[]=>[]
 |d::l=>d.cells++dcC l
theorem Zkh(d:Dc)(l:List Dc)(i:Nat):(dcC (d::l)).drop ((i+1)*3)=(dcC l).drop (i*3):=by
 have h:(i+1)*3=3+i*3:=by omega
 rw[h,<- List.drop_drop]
 have h2:(dcC (d::l)).drop 3=dcC l:=rfl
 rw[h2]
theorem Zl1:∀(l:List Dc)(i:Nat)(h:i<l.length),(dcC l).drop (i*3)=l[i].cells++dcC (l.drop (i+1))
 |d::l,0,h=>by simp only[Nat.zero_mul,List.drop_zero,dcC,Y0s,Y0z]
 |d::l,i+1,h=>by rw[Zkh,Zl1 l i (by simpa using h)];simp only[Y0t,Y0z]
theorem dc3(l:List Dc)(i:Nat)(h:i<l.length):tk 3 ((dcC l).drop (i*3))=some l[i].cells:=by
 rw[Zl1 l i h];rfl
structure Pr where
 decls:List Dc
 threads:List (List St)
def Pr.av(p:Pr):AV:=.agg [.rs p.decls.length 3 (dcC p.decls),.rs p.threads.length 1 (p.threads.map stA)]
def okD(l:List Dc):Prop:=l.length<=9223372036854775807/\∀d∈l,d.name.length<=9223372036854775807
def okP(p:Pr):Prop:=okD p.decls/\Zg7 p.threads/\p.threads.length<=9223372036854775807
theorem Z6w:∀(t:List (List St))(l:List St),l∈t->sizeSL l<=Z0v t
 |e::t,l,h=>by
  simp only[Z0v]
  rcases List.mem_cons.1 h with rfl|h
  ·omega
  ·have:=Z6w t l h;omega
end
section
variable {gl:Z0g}
def Z4a(T:List Tq)(pl:Bool)(s:Ps):Dc×Ps :=
 if isF T (Z0a T s) [61]=true then
  (if (Z0o T (Z02 (Z0a T s))).kind=3 then (⟨Z0R T s,pl,(Z0o T (Z02 (Z0a T s))).num⟩,Z02 (Z02 (Z0a T s)))
   else (⟨Z0R T s,pl,0⟩,Z0r (Z02 (Z0a T s)) 5 (Z0o T (Z02 (Z0a T s))).pos))
 else (⟨Z0R T s,pl,0⟩,Z0a T s)
def Z3E(T:List Tq)(pl:Bool):Nat->Ps->List Dc×Ps
 |0,s=>([],s)
 |k+1,s=>if isF T (Z4a T pl s).2 [44]=true then ((Z4a T pl s).1::(Z3E T pl k (Z02 (Z4a T pl s).2)).1,(Z3E T pl k (Z02 (Z4a T pl s).2)).2) else ([(Z4a T pl s).1],(Z4a T pl s).2)
def Z0N(T:List Tq)(pl:Bool)(s:Ps):List Dc×Ps:=((Z3E T pl (T.length+1) s).1,Z03 T (Z3E T pl (T.length+1) s).2 [59])
theorem ZkI{T:List Tq}{s:Ps}(hs:PsOK T s)(h:(Z0o T s).kind=3):PsGo T s (Z02 s):=by
 have hk:(Z0o T s).kind≠5:=by omega
 rw[Z0s hs.lt]at hk
 have hlo:=hs.lo
 exact⟨⟨hs.last _ hs.lt hk,hs.few,hs.last,by show -((s.i+1:Nat):Int)<=s.op;omega,hs.hi⟩,Y0f _,by show s.op+(s.i:Int)<=s.op+((s.i+1:Nat):Int);omega⟩
theorem Zid{T:List Tq}(pl:Bool){s:Ps}(hs:PsOK T s):PsGo T s (Z4a T pl s).2:=by
 have h1:=Z4B hs
 unfold Z4a
 split
 · rename_i h
   have h2:=Z0b h1.ok h
   split
   · rename_i h3
     exact h1.trans (h2.trans (ZkI h2.ok h3))
   ·exact h1.trans (h2.trans (Z4W h2.ok _ _))
 ·exact h1
theorem Zi8{T:List Tq}(pl:Bool):∀(k:Nat){s:Ps},PsOK T s->PsGo T s (Z3E T pl k s).2
 |0,s,h=>⟨h,Y02 _,Y0h _⟩
 |k+1,s,h=>by
  have h1:=Zid pl h
  unfold Z3E
  split
  · rename_i h2
    have h3:=Z0b h1.ok h2
    exact h1.trans (h3.trans (Zi8 pl k h3.ok))
  ·exact h1
theorem ZaH{T:List Tq}(pl:Bool){s:Ps}(hs:PsOK T s):PsGo T s (Z0N T pl s).2:=by
 have h1:=Zi8 pl (T.length+1) hs
 exact h1.trans (Z0C h1.ok _)
theorem Z0H:∀l:List Dc,(dcC l).all Z6J=true
 |[]=>rfl
 |d::l=>by simp only[dcC,Dc.cells,Y0A,Z0H l,Y0g];rfl
theorem Z6M:∀l:List Dc,(dcC l).length=l.length*3
 |[]=>rfl
 |d::l=>by simp only[dcC,Y0e,Z6M l,Y0a];simp[Dc.cells];omega
theorem Zdj:∀a b:List Dc,dcC (a++b)=dcC a++dcC b
 |[],b=>rfl
 |e::a,b=>by simp only[dcC,Y0k,Zdj a b,Y09]
theorem Zi9(l:List Dc)(n:List UInt8)(p:Bool)(v:Int):dcC l++[.str n,.bool p,.int .i64 v]=dcC (l++[⟨n,p,v⟩]):=by rw[Zdj];rfl
def dcA(l:List Dc):AV:=.rs l.length 3 (dcC l)
def dcN:List Dc->AV
 |[]=>.nslice
 |e::l=>dcA (e::l)
theorem Zo7{sn:Z0m}{ι : Z0i}{v:Value}:∀{l:List Dc},VR sn ι (dcN l) v->VR sn ι (dcA l) v
 |[],h=>Z2B h
 |_::_,h=>h
end
section
variable {gl:Z0g}
def Z4u(n:Int):Bool:=n==32 || n==9 || n==10 || n==13
theorem Zdp(n:Int):ValOK Y00 gl 30 [.int .u8 n] (.bool (Z4u n)):=by
 refine Z0B follows Z06 Z0u Tryz.func30 rfl ?_
 repeat' ((conv=>whnf);first|refine stp ?_|with_reducible apply Z01<;>intro h)
 all_goals (try simp_all[Z0Z,Z4u])
def skip:Bool->List UInt8->Nat
 |_,[]=>0
 |true,c::s=>if c=10 then skip false s+1 else skip true s+1
 |false,c::s=>if Z4u c.toNat then skip false s+1 else if c=47/\s.head? = some 47 then skip true s+1 else 0
theorem ZmI:Z4u ((10:UInt8).toNat:Int)=true:=by decide
theorem Ze0:∀s,skip true s=Z0j (· != 10) s+skip false (s.drop (Z0j (· != 10) s))
 |[]=>by simp[skip,Z0j]
 |c::s=>by
  by_cases hc:c=10
  · subst hc
    rw[Z0Y s (by decide)];have:=ZmI;simp[skip]at *;simp[this]
  · have h1 : ((c.toNat : Int) != 10) = true := by
     have:c.toNat≠10:=λe=>hc (by apply UInt8.toNat_inj.1;rw[e];rfl)
     simp;omega
    rw[Z13 s h1];simp only[skip,hc,if_false,Y0z];rw[Ze0 s];omega
theorem Z9g(p:Int->Bool):∀s:List UInt8,Z0j p (s.drop (Z0j p s))=0
 |[]=>by simp[Z0j]
 |c::s=>by
  cases hc:p c.toNat with
  |true=>rw[Z13 s hc];simpa using Z9g p s
  |false=>rw[Z0Y s hc];simp[Z0Y s hc]
def Z56(l:List UInt8):Nat:=l.foldl (λn c=>n*10+(c.toNat-48)) 0
theorem Zb7(l:List UInt8)(k:Nat)(h:k<l.length):Z56 (l.take (k+1))=Z56 (l.take k)*10+(l[k].toNat-48):=by
 unfold Z56
 rw[List.take_succ_eq_append_getElem h,List.foldl_append];rfl
theorem Zb8(l:List UInt8):∀k,k<=l.length->∀j,j<=k->Z56 (l.take j)<=Z56 (l.take k)
 | 0, _, j, hj => by have : j = 0 := by omega
                     subst this;exact Y02 _
 |k+1,hk,j,hj=>by
  by_cases e:j=k+1
  ·subst e;exact Y02 _
  · have h1:=Zb8 l k (by omega) j (by omega)
    have h2:=Zb7 l k (by omega)
    omega
theorem Zoi(n:Int):IntKind.u64.wrap n=n % 18446744073709551616:=by rw[show (18446744073709551616:Int)=2 ^ 64 from rfl];simp[IntKind.wrap,IntKind.signed,IntKind.bits]
def Z0q:List UInt8->Nat
 |[]=>0
 |[c]=>if [124,38,61,33,60,43,45,42,94,40,41,123,125,44,59].contains c then 1 else 0
 |c::d::_=>if (d=c/\(c=124\/c=38\/c=61))\/(d=61/\(c=33\/c=60)) then 2 else if [124,38,61,33,60,43,45,42,94,40,41,123,125,44,59].contains c then 1 else 0
def Zmy(l:List UInt8):Bool:=!l.isEmpty&&decide (l.length<=9223372036854775807)&&l.all λc=>Z1d c.toNat
theorem Zi6{l:List UInt8}(h:Zmy l=true):l≠[]/\l.length<=9223372036854775807/\∀c∈l,Z1d c.toNat=true:=by
 simp only[Zmy,Y04,decide_eq_true_eq,List.all_eq_true]at h
 exact⟨λe=>by subst e;simp at h,h.1.2,h.2⟩
def Z1B(s:List UInt8):Nat×Nat :=
 let n:=Z0j Z1d s
 if n=0\/(1<n/\s.head? = some 48)\/(match s[n]? with|some c=>Z7m c.toNat || c==95|none=>false)=true\/¬Z56 (s.take n)<9223372036854775808 then (0,0) else (n,Z56 (s.take n))
theorem Zi5{s:List UInt8}(hs:s.length<=9223372036854775807)(h:0<Z0j Z1d s):Zmy (s.take (Z0j Z1d s))=true:=by
 have hl:=Z2S Z1d s
 have ht:s.take (Z0j Z1d s)=s.takeWhile λc=>Z1d c.toNat:=by
  unfold Z0j;exact (List.prefix_iff_eq_take.1 (List.takeWhile_prefix _)).symm
 simp only[Zmy,Y04,decide_eq_true_eq]
 refine⟨⟨?_,?_⟩,?_⟩
 · cases e:s.take (Z0j Z1d s) with
   |nil =>
    have:=congrArg List.length e
    rw[List.length_take]at this;simp only[Y0x]at this;omega
   |cons a b=>rfl
 ·simp;omega
 ·rw[ht];simp[List.all_takeWhile]
structure Tk where
 kind:Nat
 text:List UInt8
 num:Nat
 pos:Nat
def Tk.cells(t:Tk):List AV:=[.int .i64 t.kind,.str t.text,.int .i64 t.num,.int .i64 t.pos]
def Zcw:List Tk->List AV
 |[]=>[]
 |t::l=>t.cells++Zcw l
def Z50(s:List UInt8):Option (Nat×Nat×Nat) :=
 if 0<Z0d s then some (if keysL.contains (s.take (Z0d s)) then 2 else 1,Z0d s,0)
 else if 0<(Z1B s).1 then some (3,(Z1B s).1,(Z1B s).2)
 else if 0<Z0q s then some (4,Z0q s,0) else none
def Z4R:Nat->Nat->List UInt8->Nat ⊕ List Tk
 |0,_,_=>.inr []
 |n+1,pos,s=>if s=[] then .inr [] else match Z50 s with
  |none=>.inl pos
  |some (kind,len,num)=>match Z4R n (pos+len+skip false (s.drop len)) (s.drop (len+skip false (s.drop len))) with
   | .inl e=>.inl e
   | .inr l=>.inr (⟨kind,s.take len,num,pos⟩::l)
def Z6q(s:List UInt8):Nat ⊕ List Tk:=Z4R (s.length+1) (skip false s) (s.drop (skip false s))
def Z95(acc:List Tk):Nat ⊕ List Tk->Nat ⊕ List Tk
 | .inl e=>.inl e
 | .inr l=>.inr (acc++l)
def ZiZ(s:List UInt8):AV:=if 65536<s.length then .tuple [.nslice,.agg [.int .i64 3,.int .i64 0]] else match Z6q s with
 | .inl e=>.tuple [.nslice,.agg [.int .i64 4,.int .i64 e]]
 | .inr l=>.tuple [.rs (l.length+1) 4 (Zcw (l++[⟨5,[],0,s.length⟩])),.agg [.int .i64 0,.int .i64 0]]
theorem Z3N:∀(b:Bool)(s:List UInt8),skip b s<=s.length
 |_,[]=>by simp[skip]
 |true,c::s=>by
  have h1:=Z3N false s
  have h2:=Z3N true s
  simp only[skip,Y0a];split<;>omega
 |false,c::s=>by
  have h1:=Z3N false s
  have h2:=Z3N true s
  simp only[skip,Y0a];split
  ·omega
  ·split<;>omega
theorem Zhg(x:Nat ⊕ List Tk):Z95 [] x=x:=by cases x<;>rfl
theorem Z9P(s:List UInt8):Z0d s<=s.length:=by
 cases s with
 |nil=>simp[Z0d]
 |cons c s=>simp only[Z0d];split;exact Z2S _ _;omega
theorem ZfI{p:Prop}[Decidable p]{a b:Nat×Nat}{m:Nat}(h1:a.1<=m)(h2:b.1<=m):(if p then a else b).1<=m:=by split<;>assumption
theorem Zh5(s:List UInt8):(Z1B s).1<=s.length:=by
 unfold Z1B;exact ZfI (Y05 _) (Z2S _ _)
theorem Ze6(s:List UInt8):Z0q s<=s.length:=by
 match s with
 |[]=>simp[Z0q]
 |[c]=>simp only[Z0q];split<;>simp
 |c::d::t=>simp only[Z0q,Y0a];split;omega;split<;>omega
theorem ZfH(acc:List Tk)(t:Tk)(x:Nat ⊕ List Tk):Z95 acc (match x with | .inl e=>.inl e | .inr l=>.inr (t::l))=Z95 (acc++[t]) x:=by
 cases x with
 |inl e=>rfl
 |inr l=>simp[Z95]
theorem aT:Zcm Y00 33 33=some (38,4,40):=by kernel_rfl
theorem Z3J:∀l:List Tk,(Zcw l).length=l.length*4
 |[]=>rfl
 |t::l=>by simp only[Zcw,Y0e,Z3J l,Y0a];simp[Tk.cells];omega
theorem Z1k:∀(l:List Tk)(t:Tk),Zcw (l++[t])=Zcw l++t.cells
 |[],t=>by simp[Zcw]
 |a::l,t=>by simp only[Y0k,Zcw,Z1k l t,Y09]
theorem Z2X{α : Type}(l:List α)(t : α):(l++[t]).length=l.length+1:=by simp
theorem Z4b:∀l:List Tk,refsL (Zcw l) []=[]
 |[]=>rfl
 |t::l=>Z4b l
theorem ZdR:∀l:List Tk,(Zcw l).all lit=true
 |[]=>rfl
 |t::l=>by simp only[Zcw,Y0A,ZdR l,Y0g];rfl
end
section
variable {gl:Z0g}
def Z6G:List UInt8:=[115,104,97,114,101,100]
def Z8v:List UInt8:=[112,108,97,105,110]
def Z8u:List UInt8:=[116,104,114,101,97,100]
def Z1o(T:List Tq):Nat->List Dc->List (List St)->Ps->(List Dc×List (List St))×Ps
 |0,ds,ts,s=>((ds,ts),s)
 | k + 1, ds, ts, s => if s.err = 0 /\ (Z0o T s).kind ≠ 5 then
   (if isF T s Z6G=true then Z1o T k (ds++(Z0N T false (Z02 s)).1) ts (Z0N T false (Z02 s)).2
    else if isF T s Z8v=true then Z1o T k (ds++(Z0N T true (Z02 s)).1) ts (Z0N T true (Z02 s)).2
    else if isF T s Z8u=true then Z1o T k ds (ts++[(Z7d T (Z02 s)).1]) (Z7d T (Z02 s)).2
    else Z1o T k ds ts (Z0r s 5 (Z0o T s).pos))
  else ((ds,ts),s)
theorem Zbk{T:List Tq}{s:Ps}(h:¬(s.err=0/\(Z0o T s).kind≠5)):∀k ds ts,Z1o T k ds ts s=((ds,ts),s)
 |0,_,_=>rfl
 |k+1,_,_=>by unfold Z1o;rw[if_neg h]
theorem ZeR(T:List Tq)(pl:Bool):∀(k:Nat)(s:Ps),(Z3E T pl k s).1.length<=k
 |0,s=>Y02 _
 |k+1,s=>by
  unfold Z3E;split
  · have:=ZeR T pl k (Z02 (Z4a T pl s).2)
    simp;omega
  ·simp
theorem Z8M(T:List Tq)(pl:Bool)(s:Ps):∃d l,(Z0N T pl s).1=d::l/\l.length<=T.length:=by
 have h:=ZeR T pl (T.length+1) s
 have h2:∃d l,(Z3E T pl (T.length+1) s).1=d::l:=by
  unfold Z3E;split
  ·exact⟨_,_,rfl⟩
  ·exact⟨_,_,rfl⟩
 obtain⟨d,l,e⟩:=h2
 rw[e]at h
 exact⟨d,l,e,by simpa using h⟩
theorem Zl0:∀l:List Dc,(dcC l).all one=true
 |[]=>rfl
 |d::l=>by simp only[dcC,Dc.cells,Y0A,Zl0 l,Y0g];rfl
end
end Go.Proofs.YtneoiadnbikciaaGreatDoor.lex
section
namespace Go.Proofs.YtneoiadnbikciaaGreatDoor.runLives
open Go.RowKit Go.Abs
def Zpp:List AV:=[.int .u8 (.ofNat 0),.int .u8 (.ofNat 1),.int .u8 (.ofNat 28),.int .u8 (.ofNat 2),.int .u8 (.ofNat 29),.int .u8 (.ofNat 14),.int .u8 (.ofNat 24),
 .int .u8 (.ofNat 3),.int .u8 (.ofNat 30),.int .u8 (.ofNat 22),.int .u8 (.ofNat 20),.int .u8 (.ofNat 15),.int .u8 (.ofNat 25),
 .int .u8 (.ofNat 17),.int .u8 (.ofNat 4),.int .u8 (.ofNat 8),.int .u8 (.ofNat 31),.int .u8 (.ofNat 27),.int .u8 (.ofNat 13),.int .u8 (.ofNat 23),
 .int .u8 (.ofNat 21),.int .u8 (.ofNat 19),.int .u8 (.ofNat 16),.int .u8 (.ofNat 7),.int .u8 (.ofNat 26),.int .u8 (.ofNat 12),
 .int .u8 (.ofNat 18),.int .u8 (.ofNat 6),.int .u8 (.ofNat 11),.int .u8 (.ofNat 5),.int .u8 (.ofNat 10),.int .u8 (.ofNat 9)]
def Zpo:List AV:=[.int .u8 (.ofNat 0),.int .u8 (.ofNat 1),.int .u8 (.ofNat 56),.int .u8 (.ofNat 2),.int .u8 (.ofNat 57),.int .u8 (.ofNat 49),.int .u8 (.ofNat 28),
 .int .u8 (.ofNat 3),.int .u8 (.ofNat 61),.int .u8 (.ofNat 58),.int .u8 (.ofNat 42),.int .u8 (.ofNat 50),.int .u8 (.ofNat 38),
 .int .u8 (.ofNat 29),.int .u8 (.ofNat 17),.int .u8 (.ofNat 4),.int .u8 (.ofNat 62),.int .u8 (.ofNat 47),.int .u8 (.ofNat 59),
 .int .u8 (.ofNat 36),.int .u8 (.ofNat 45),.int .u8 (.ofNat 43),.int .u8 (.ofNat 51),.int .u8 (.ofNat 22),.int .u8 (.ofNat 53),
 .int .u8 (.ofNat 39),.int .u8 (.ofNat 33),.int .u8 (.ofNat 30),.int .u8 (.ofNat 24),.int .u8 (.ofNat 18),.int .u8 (.ofNat 12),
 .int .u8 (.ofNat 5),.int .u8 (.ofNat 63),.int .u8 (.ofNat 55),.int .u8 (.ofNat 48),.int .u8 (.ofNat 27),.int .u8 (.ofNat 60),
 .int .u8 (.ofNat 41),.int .u8 (.ofNat 37),.int .u8 (.ofNat 16),.int .u8 (.ofNat 46),.int .u8 (.ofNat 35),.int .u8 (.ofNat 44),
 .int .u8 (.ofNat 21),.int .u8 (.ofNat 52),.int .u8 (.ofNat 32),.int .u8 (.ofNat 23),.int .u8 (.ofNat 11),.int .u8 (.ofNat 54),
 .int .u8 (.ofNat 26),.int .u8 (.ofNat 40),.int .u8 (.ofNat 15),.int .u8 (.ofNat 34),.int .u8 (.ofNat 20),.int .u8 (.ofNat 31),
 .int .u8 (.ofNat 10),.int .u8 (.ofNat 25),.int .u8 (.ofNat 14),.int .u8 (.ofNat 19),.int .u8 (.ofNat 9),.int .u8 (.ofNat 13),.int .u8 (.ofNat 8),
 .int .u8 (.ofNat 7),.int .u8 (.ofNat 6)]
def Zpn:List AV:=[.int .u64 (.ofNat 1),.int .u64 (.ofNat 10),.int .u64 (.ofNat 100),.int .u64 (.ofNat 1000),.int .u64 (.ofNat 10000),.int .u64 (.ofNat 100000),
 .int .u64 (.ofNat 1000000),.int .u64 (.ofNat 10000000),.int .u64 (.ofNat 100000000),.int .u64 (.ofNat 1000000000),.int .u64 (.ofNat 10000000000),
 .int .u64 (.ofNat 100000000000),.int .u64 (.ofNat 1000000000000),.int .u64 (.ofNat 10000000000000),.int .u64 (.ofNat 100000000000000),
 .int .u64 (.ofNat 1000000000000000),.int .u64 (.ofNat 10000000000000000),.int .u64 (.ofNat 100000000000000000),
 .int .u64 (.ofNat 1000000000000000000),.int .u64 (.ofNat 10000000000000000000)]
def Zpm:List AV:=[.bool false,.bool false,.int .i64 (.ofNat 0),.bool true,.bool false,.int .i64 (.ofNat 0),.bool false,.bool true,.int .i64 (.ofNat 0),
 .bool false,.bool false,.int .i64 (.ofNat 1),.bool false,.bool false,.int .i64 (.ofNat 1),.bool false,.bool false,.int .i64 (.ofNat 2),
 .bool false,.bool false,.int .i64 (.ofNat 2),.bool false,.bool false,.int .i64 (.ofNat 2),.bool false,.bool false,.int .i64 (.ofNat 2),
 .bool false,.bool false,.int .i64 (.ofNat 2),.bool false,.bool false,.int .i64 (.ofNat 2),.bool false,.bool false,.int .i64 (.ofNat 2),
 .bool false,.bool false,.int .i64 (.ofNat 2),.bool false,.bool false,.int .i64 (.ofNat 2),.bool false,.bool false,.int .i64 (.ofNat 2),
 .bool false,.bool false,.int .i64 (.ofNat 2),.bool false,.bool false,.int .i64 (.ofNat 2)]
def Zpl:List AV:=[.bool false,.bool false,.bool false,.int .i64 (.ofNat 0),.bool false,.bool false,.bool true,.bool false,.bool false,.int .i64 (.ofNat 1),
 .bool false,.bool false,.bool true,.bool true,.bool true,.int .i64 (.ofNat 0),.bool false,.bool false,.bool false,.bool true,.bool true,
 .int .i64 (.ofNat 1),.bool false,.bool false,.bool true,.bool true,.bool true,.int .i64 (.ofNat 2),.bool false,.bool false,.bool true,
 .bool true,.bool true,.int .i64 (.ofNat 1),.bool false,.bool false,.bool true,.bool true,.bool true,.int .i64 (.ofNat 1),.bool false,
 .bool false,.bool false,.bool false,.bool true,.int .i64 (.ofNat 0),.bool false,.bool false,.bool false,.bool false,.bool false,
 .int .i64 (.ofNat 1),.bool false,.bool false,.bool false,.bool false,.bool false,.int .i64 (.ofNat 1),.bool false,.bool false,.bool false,
 .bool false,.bool false,.int .i64 (.ofNat 1),.bool true,.bool true,.bool false,.bool false,.bool false,.int .i64 (.ofNat 1),.bool true,
 .bool false]
def ZpQ:List AV:=[.iface 169 (.rp [.str [118,97,108,117,101,32,111,117,116,32,111,102,32,114,97,110,103,101]])]
def ZpP:List AV:=[.iface 169 (.rp [.str [105,110,118,97,108,105,100,32,115,121,110,116,97,120]])]
def gl:Z0g:=λg=>if Y03 g 6 then some Zpp else if Y03 g 7 then some Zpo else if Y03 g 5 then some Zpn else if Y03 g 0 then some Zpm else if Y03 g 1 then some Zpl else if Y03 g 3 then some ZpQ else if Y03 g 2 then some ZpP else none
theorem follows:Y00.follows .mixedOrders=true:=by kernel_rfl
theorem Zab:(Y00.funcs.toList.all λfn=>!(fn.name == "runtime.NumGoroutine"))=true:=by kernel_rfl
theorem Z06:NoNum Y00:=⟨λg fn h=>by
 have h1:=List.all_eq_true.1 Zab fn (Array.mem_toList_iff.2 (Array.mem_of_getElem? h))
 simpa using h1,of_decide_eq_true (by kernel_rfl)⟩
theorem n0:Y00.globalNamed "math/bits.deBruijn32tab" = some 6:=by kernel_rfl
theorem ty0:(Y00.globals[6]?).map (·.type)=some 184:=by kernel_rfl
theorem av0:Zir Y00 6 184 (Rows.laid_math_bits_deBruijn32tab (H:=Unit))=some Zpp:=by kernel_rfl
theorem n1:Y00.globalNamed "math/bits.deBruijn64tab" = some 7:=by kernel_rfl
theorem ty1:(Y00.globals[7]?).map (·.type)=some 185:=by kernel_rfl
theorem av1:Zir Y00 6 185 (Rows.laid_math_bits_deBruijn64tab (H:=Unit))=some Zpo:=by kernel_rfl
theorem n2:Y00.globalNamed "internal/strconv.uint64pow10" = some 5:=by kernel_rfl
theorem ty2:(Y00.globals[5]?).map (·.type)=some 179:=by kernel_rfl
theorem av2:Zir Y00 6 179 (Rows.laid_internal_strconv_uint64pow10 (H:=Unit))=some Zpn:=by kernel_rfl
theorem n3:Y00.globalNamed "cantilever/ast.shapes" = some 0:=by kernel_rfl
theorem ty3:(Y00.globals[0]?).map (·.type)=some 135:=by kernel_rfl
theorem av3:Zir Y00 6 135 (Rows.laid_cantilever_ast_shapes (H:=Unit))=some Zpm:=by kernel_rfl
theorem n4:Y00.globalNamed "cantilever/ast.forms" = some 1:=by kernel_rfl
theorem ty4:(Y00.globals[1]?).map (·.type)=some 138:=by kernel_rfl
theorem av4:Zir Y00 6 138 (Rows.laid_cantilever_ast_forms (H:=Unit))=some Zpl:=by kernel_rfl
theorem Zpq : "*" ++ "errors.errorString" = "*errors.errorString" := by decide
theorem Znw(u:TypeId)(h:Y00.typeName? 3 u=some "*errors.errorString"):u=169 :=
 typeName_ptr_named (nm := "errors.errorString") (by rw[Zpq];kernel_rfl) (by kernel_rfl) (by decide) u (by rw[Zpq];exact h)
noncomputable def fld:Field:=match Y00.underlying 171 with|some (.struct fs)=>(fs.toList.head?).getD default|_=>default
theorem unE:Y00.underlying 171=some (.struct #[fld]):=by kernel_rfl
theorem unP:Y00.underlying 169=some (.pointer 171):=by kernel_rfl
theorem unS:Y00.underlying 9=some .string:=by kernel_rfl
theorem ZpC:fld.type=9:=by kernel_rfl
theorem ZpD:fld.offset=0:=by kernel_rfl
theorem Zl3:Y00.cellsOf 171=1:=by kernel_rfl
theorem Zl2:Y00.cellsOf 9=1:=by kernel_rfl
theorem sn0:Y00.globalNamed "strconv.ErrRange" = some 3:=by kernel_rfl
theorem ZpN:(Y00.globals[3]?).map (·.type)=some 149:=by kernel_rfl
noncomputable def ZpW:Array (String×TypeId):=match Y00.underlying 149 with|some (.interface ms)=>ms|_=>#[]
theorem ZpJ:Y00.underlying 149=some (.interface ZpW):=by kernel_rfl
theorem sn1:Y00.globalNamed "strconv.ErrSyntax" = some 2:=by kernel_rfl
theorem ZpM:(Y00.globals[2]?).map (·.type)=some 149:=by kernel_rfl
noncomputable def ZpV:Array (String×TypeId):=match Y00.underlying 149 with|some (.interface ms)=>ms|_=>#[]
theorem ZpI:Y00.underlying 149=some (.interface ZpV):=by kernel_rfl
theorem globs{W:World}(h:laidMetH Y00 [("math/bits.deBruijn32tab", Rows.laid_math_bits_deBruijn32tab), ("math/bits.deBruijn64tab", Rows.laid_math_bits_deBruijn64tab), ("internal/strconv.uint64pow10", Rows.laid_internal_strconv_uint64pow10), ("strconv.ErrRange", Rows.laid_strconv_ErrRange), ("strconv.ErrSyntax", Rows.laid_strconv_ErrSyntax), ("cantilever/ast.shapes", Rows.laid_cantilever_ast_shapes), ("cantilever/ast.forms", Rows.laid_cantilever_ast_forms)] W):GlOK gl (Z4f W):=by
 have h':laidMet Y00 [("math/bits.deBruijn32tab", Rows.laid_math_bits_deBruijn32tab), ("math/bits.deBruijn64tab", Rows.laid_math_bits_deBruijn64tab), ("internal/strconv.uint64pow10", Rows.laid_internal_strconv_uint64pow10), ("strconv.ErrRange", Rows.laid_strconv_ErrRange), ("strconv.ErrSyntax", Rows.laid_strconv_ErrSyntax), ("cantilever/ast.shapes", Rows.laid_cantilever_ast_shapes), ("cantilever/ast.forms", Rows.laid_cantilever_ast_forms)] W:=h
 obtain⟨_,hv,_⟩:=id h'
 obtain⟨m0,_⟩:=Z4l n0 ty0 av0 hv
 have h':=laidMet.tail h'
 obtain⟨_,hv,_⟩:=id h'
 obtain⟨m1,_⟩:=Z4l n1 ty1 av1 hv
 have h':=laidMet.tail h'
 obtain⟨_,hv,_⟩:=id h'
 obtain⟨m2,_⟩:=Z4l n2 ty2 av2 hv
 have h':=laidMet.tail h'
 have s0:=Zbw h' sn0 ZpN ZpJ Znw unP unE ZpC ZpD unS Zl3 Zl2
 have h':=laidMet.tail h'
 have s1:=Zbw h' sn1 ZpM ZpI Znw unP unE ZpC ZpD unS Zl3 Zl2
 have h':=laidMet.tail h'
 obtain⟨_,hv,_⟩:=id h'
 obtain⟨m3,_⟩:=Z4l n3 ty3 av3 hv
 have h':=laidMet.tail h'
 obtain⟨_,hv,_⟩:=id h'
 obtain⟨m4,_⟩:=Z4l n4 ty4 av4 hv
 intro g cs hg
 unfold gl at hg
 split at hg
 ·rename_i e;have:=Y0c e;subst this;simp at hg;subst hg;exact m0
 split at hg
 ·rename_i e;have:=Y0c e;subst this;simp at hg;subst hg;exact m1
 split at hg
 ·rename_i e;have:=Y0c e;subst this;simp at hg;subst hg;exact m2
 split at hg
 ·rename_i e;have:=Y0c e;subst this;simp at hg;subst hg;exact m3
 split at hg
 ·rename_i e;have:=Y0c e;subst this;simp at hg;subst hg;exact m4
 split at hg
 ·rename_i e;have:=Y0c e;subst this;simp at hg;subst hg;exact s0
 split at hg
 ·rename_i e;have:=Y0c e;subst this;simp at hg;subst hg;exact s1
 cases hg
end Go.Proofs.YtneoiadnbikciaaGreatDoor.runLives
end
namespace Go.Proofs.YtneoiadnbikciaaGreatDoor.lex
open Go.Abs Go.RowKit
section
def Z4n(f:Nat)(xs:List AV):Option AV:=match f with
 |63=>match xs with|[.str s,.bool m]=>if s.length<=9223372036854775807 then some (.bool (if m then Z38 s else s==[])) else none|_=>none
 |_=>none
theorem Z14{gl:Z0g}:OrcSound Y00 gl (Z7H Z4n):=Z0V λf xs r h=>by
 unfold Z4n at h
 split at h
 · split at h<;>try (cases h;done)
   split at h<;>cases h
   rename_i hs
   exact⟨rfl,ZbB _ hs _⟩
 ·cases h
theorem Zb3:Z38 []=false:=rfl
theorem ZgL(e:Ex)(rest:List AV)(d:Int)(hok:okE e):ValOK Y00 runLives.gl 65 [.rp (e.cells++rest),.int .i64 d] (.bool (ZoI e)):=by
 obtain⟨⟨hn1,hn2⟩,_⟩:=Z7K hok
 have hb:Z0h Y00 63=true:=by kernel_rfl
 have key:∀(op num:Int)(name:List UInt8)(v:AV)(n:Nat),(∃cs,v = .rs n 4 cs)->name.length<=9223372036854775807->ValOK Y00 runLives.gl 65 [.rp (.int .i64 op::.int .i64 num::.str name::v::rest),.int .i64 d] (.bool (ZcP op num name n)):=by
  intro op num name v n hv hname
  have q:∀(m:Bool)(H:Z00),Z05 Y00 (Z7H Z4n) H 63 [.str name,.bool m]=some (.bool (if m then Z38 name else name==[]),H):=λm H=>Z25 hb rfl (by simp only[Z4n];rw[if_pos hname])
  by_cases h1:op<1
  · have e1:decide (op<1)=true:=by simpa using h1
    have hk:Zag op = -1:=by unfold Zag;rw[if_neg (by omega),if_neg (by omega),if_neg (by omega)]
    obtain⟨cs,rfl⟩:=hv
    all_goals
     refine Z0B follows Z06 Z14 Tryz.func65 rfl ?_
     repeat' ((conv=>whnf);first|refine exI (q _ _) ?_|refine stp ?_|with_reducible apply Z01<;>intro h)
    all_goals (show AV.bool _=AV.bool _;congr 1;unfold ZcP;rw[hk])
    all_goals (first|rfl|(symm;simp;intros;omega))
  · have e1:decide (op<1)=false:=by simpa using h1
    by_cases h2:16<op
    · have e2:decide (op>16)=true:=by simpa using h2
      have hk:Zag op = -1:=by unfold Zag;rw[if_neg (by omega),if_neg (by omega),if_neg (by omega)]
      obtain⟨cs,rfl⟩:=hv
      all_goals
       refine Z0B follows Z06 Z14 Tryz.func65 rfl ?_
       repeat' ((conv=>whnf);first|refine exI (q _ _) ?_|refine stp ?_|with_reducible apply Z01<;>intro h)
      all_goals (show AV.bool _=AV.bool _;congr 1;unfold ZcP;rw[hk])
      all_goals (first|rfl|(symm;simp;intros;omega))
    · clear e1
      have hop:op=1\/op=2\/op=3\/op=4\/op=5\/op=6\/op=7\/op=8\/op=9\/op=10\/op=11\/op=12\/op=13\/op=14\/op=15\/op=16:=by omega
      clear h1 h2
      rcases hop with rfl|rfl|rfl|rfl|rfl|rfl|rfl|rfl|rfl|rfl|rfl|rfl|rfl|rfl|rfl|rfl
      all_goals (obtain⟨cs,rfl⟩:=hv)
      all_goals (refine Z0B follows Z06 Z14 Tryz.func65 rfl ?_)
      all_goals (repeat' ((conv=>whnf);first|refine exI (q _ _) ?_|refine stp ?_|with_reducible apply Z01<;>intro h))
      all_goals (first|rfl|(show AV.bool _=AV.bool _;clear q hb hok hn1 hn2;simp_all[ZcP,Zag];done)|(show AV.bool _=AV.bool _;clear q hb hok hn1 hn2;simp_all[ZcP,Zag];omega)|skip)
      all_goals (clear q hb hok hn1 hn2)
      all_goals (show AV.bool _=AV.bool _;rw[AV.bool.injEq,Y0B])
      all_goals (first|(simp_all[ZcP,Zag,Zb3];done)|(simp_all[ZcP,Zag,Zb3];omega))
 obtain⟨op,num,name,kids⟩:=e
 simp only[Ex.cells];exact key op num name _ kids.length ⟨_,rfl⟩ hn1
end
section
set_option maxHeartbeats 8000000
def isW(m:Bool)(s:List UInt8):Bool:=if m then Z38 s else s==[]
def Zn5(k:Int):Bool:=k==1 || (k==2 || (k==4 || (k==5 || k==6)))
def Zon(k:Int):Bool:=decide (2<=k/\k<=6)
def ZnH(k:Int):Bool:=decide (2<=k/\k<=7)
def ZnG(k:Int):Nat:=if k=2\/k=7 then 0 else if k=4 then 2 else 1
def Zom(k:Int):Bool:=k==10 || k==11
def ZoQ(k:Int):Bool:=k==10
def Z92(kind:Int)(name loc:List UInt8)(order:Int)(nx nt ne:Nat):Bool :=
 decide (1<=kind/\kind<=11)&&(isW (Zn5 kind) name&&(isW (Zon kind) loc&&((if ZnH kind then decide (1<=order/\order<=6) else order==0)&&(decide (nx=ZnG kind)&&((Zom kind || decide (nt=0))&&(ZoQ kind || decide (ne=0)))))))
def Zno(x:St):Bool:=Z92 x.kind x.name x.loc x.order x.exprs.length x.thn.length x.els.length
theorem Zft (kind : Int) (name loc : List UInt8) (order : Int) (nx nt ne : Nat) (cx ct ce rest : List AV) (d : Int) (hn : name.length <= 9223372036854775807) (hl : loc.length <= 9223372036854775807) :
  ValOK Y00 runLives.gl 66 [.rp (.int .i64 kind::.str name::.str loc::.int .i64 order::.rs nx 4 cx::.rs nt 7 ct::.rs ne 7 ce::rest),.int .i64 d] (.bool (Z92 kind name loc order nx nt ne)):=by
 have hb:Z0h Y00 63=true:=by kernel_rfl
 have q1:∀(m:Bool)(H:Z00),Z05 Y00 (Z7H Z4n) H 63 [.str name,.bool m]=some (.bool (isW m name),H):=λm H=>Z25 hb rfl (by simp only[Z4n,isW];rw[if_pos hn])
 have q2:∀(m:Bool)(H:Z00),Z05 Y00 (Z7H Z4n) H 63 [.str loc,.bool m]=some (.bool (isW m loc),H):=λm H=>Z25 hb rfl (by simp only[Z4n,isW];rw[if_pos hl])
 by_cases h1:kind<1
 · have e1:decide (kind<1)=true:=by simpa using h1
   refine Z0B follows Z06 Z14 Tryz.func66 rfl ?_
   repeat' ((conv=>whnf);(first|refine stp ?_|with_reducible apply Z01<;>intro h))
   all_goals (show AV.bool _=AV.bool _;congr 1;unfold Z92;symm;rw[Bool.and_eq_false_iff];left;simpa using λh=>absurd h (by omega))
 · have e1:decide (kind<1)=false:=by simpa using h1
   by_cases h2:11<kind
   · have e2:decide (kind>11)=true:=by simpa using h2
     refine Z0B follows Z06 Z14 Tryz.func66 rfl ?_
     repeat' ((conv=>whnf);(first|refine stp ?_|with_reducible apply Z01<;>intro h))
     all_goals (show AV.bool _=AV.bool _;congr 1;unfold Z92;symm;rw[Bool.and_eq_false_iff];left;simpa using λ_=>h2)
   · clear e1
     have hop:kind=1\/kind=2\/kind=3\/kind=4\/kind=5\/kind=6\/kind=7\/kind=8\/kind=9\/kind=10\/kind=11:=by omega
     clear h1 h2
     have b1:∀m,isW m name=true\/isW m name=false:=λm=>by cases isW m name<;>simp
     have b2:∀m,isW m loc=true\/isW m loc=false:=λm=>by cases isW m loc<;>simp
     rcases hop with rfl|rfl|rfl|rfl|rfl|rfl|rfl|rfl|rfl|rfl|rfl
     all_goals (refine Z0B follows Z06 Z14 Tryz.func66 rfl ?_)
     all_goals (repeat' ((conv=>whnf);first|refine exI (q1 _ _) ?_|refine exI (q2 _ _) ?_|refine stp ?_|with_reducible apply Z01<;>intro h))
     all_goals (clear q1 q2 hb b1 b2)
     all_goals (first|rfl|(show AV.bool _=AV.bool _;rw[AV.bool.injEq,Y0B];simp_all[Z92,Zn5,Zon,ZnH,ZnG,Zom,ZoQ];done)|(show AV.bool _=AV.bool _;rw[AV.bool.injEq,Y0B];simp_all[Z92,Zn5,Zon,ZnH,ZnG,Zom,ZoQ];omega)|skip)
     all_goals trace_state
end
section
structure TqW (T:List Tq):Prop where
 wd:∀i (h:i<T.length),T[i].kind=1->Z38 T[i].text=true/\T[i].text.length<=9223372036854775807
 nm:∀i (h:i<T.length),T[i].kind=3->0<=T[i].num
 few:T.length<=1000000
def Z51(T:List Tq)(i:Nat):Tq:=T[i]?.getD ⟨5,[],0,0⟩
def Zfm(T:List Tq)(i:Nat):Bool:=(Z51 T i).kind==4 || (Z51 T i).kind==2
def ZgI(w:List UInt8):Nat:=if w==[59] then 1 else 0
def ZeW(w:List UInt8):Int:=if upB w=true then 1 else if dnB w=true then -1 else 0
def Zfi(w:List UInt8):Nat:=if w==Z6G || (w==Z8v || w==Z8u) then 1 else 0
def mU(T:List Tq):Nat->Nat
 |0=>0
 |i+1=>mU T i+if Zfm T i then ZgI (Z51 T i).text else 0
def bU(T:List Tq):Nat->Int
 |0=>0
 |i+1=>bU T i+if Zfm T i then ZeW (Z51 T i).text else 0
def tU(T:List Tq):Nat->Nat
 |0=>0
 |i+1=>tU T i+if Zfm T i then Zfi (Z51 T i).text else 0
def Fit(T:List Tq)(s:Ps)(z c:Nat)(b:Int)(s':Ps):Prop :=
 s.i<=s'.i/\(s'.err=0->s'.i<T.length->s.err=0/\s.i+z<=s'.i/\mU T s'.i=mU T s.i+c/\bU T s'.i=bU T s.i+b/\tU T s'.i=tU T s.i/\s'.at_=s.at_/\s'.op=s.op+b)
theorem Fit.refl{T:List Tq}(s:Ps):Fit T s 0 0 0 s:=⟨Y02 _,λh1 _=>⟨h1,Y02 _,rfl,by omega,rfl,rfl,by omega⟩⟩
theorem Fit.trans{T:List Tq}{s s1 s2:Ps}{z1 z2 c1 c2:Nat}{b1 b2:Int}(h:Fit T s z1 c1 b1 s1)(k:Fit T s1 z2 c2 b2 s2):Fit T s (z1+z2) (c1+c2) (b1+b2) s2:=by
 refine⟨Y01 h.1 k.1,λh1 h2=>?_⟩
 obtain⟨a1,a2,a3,a4,a5⟩:=k.2 h1 h2
 have:=k.1
 obtain⟨d1,d2,d3,d4,d5⟩:=h.2 a1 (by omega)
 exact⟨d1,by omega,by omega,by omega,by omega,by omega,by omega⟩
theorem Fit.to{T:List Tq}{s s':Ps}{z z' c c':Nat}{b b':Int}(h:Fit T s z c b s')(hz:z'<=z)(hc:c=c')(hb:b=b'):Fit T s z' c' b' s':=by
 subst hc hb
 refine⟨h.1,λh1 h2=>?_⟩
 obtain⟨a1,a2,a3,a4,a5⟩:=h.2 h1 h2
 exact⟨a1,by omega,a3,a4,a5⟩
theorem Z5b{T:List Tq}{s:Ps}:Z0o T s=Z51 T s.i:=rfl
theorem Z0E{s:Ps}{e a:Int}(he:e≠0):(Z0r s e a).err≠0:=by
 unfold Z0r
 split
 ·exact he
 ·assumption
theorem Zav(s:Ps)(e a:Int):(Z0r s e a).i=s.i:=by unfold Z0r;split<;>rfl
theorem Fit.fail{T:List Tq}{s s1:Ps}{e a:Int}{z c:Nat}{b:Int}(h:s.i<=s1.i)(he:e≠0):Fit T s z c b (Z0r s1 e a):=⟨by rw[Zav];exact h,λh1=>absurd h1 (Z0E he)⟩
theorem Fit.one{T:List Tq}{s s':Ps}{w:List UInt8}(hi:isF T s w=true)(h1:s'.i=s.i+1)(hw:Zfi w=0)(ho:s'.op=s.op+ZeW w)(ha:s'.at_=s.at_:=by rfl):Fit T s 1 (ZgI w) (ZeW w) s':=by
 unfold isF at hi
 simp only[Bool.and_eq_true,beq_iff_eq]at hi
 obtain⟨h2,h3,h4⟩:=hi
 rw[Z5b]at h3 h4
 have h5:Zfm T s.i=true:=h3
 refine⟨by omega,λ_ _=>⟨h2,by omega,?_,?_,?_,ha,ho⟩⟩
 ·rw[h1];simp only[mU,h5,if_true,h4]
 ·rw[h1];simp only[bU,h5,if_true,h4]
 ·rw[h1];simp only[tU,h5,if_true,h4,hw];rfl
theorem Fit.atom{T:List Tq}{s s':Ps}(he:s.err=0)(hk:(Z0o T s).kind=1\/(Z0o T s).kind=3)(h1:s'.i=s.i+1)(ho:s'.op=s.op:=by rfl)(ha:s'.at_=s.at_:=by rfl):Fit T s 1 0 0 s':=by
 rw[Z5b]at hk
 have h5:Zfm T s.i=false:=by unfold Zfm;rcases hk with h|h<;>rw[h]<;>rfl
 refine⟨by omega,λ_ _=>⟨he,by omega,?_,?_,?_,ha,by omega⟩⟩
 ·rw[h1];simp only[mU,h5];rfl
 ·rw[h1];simp only[bU,h5];simp
 ·rw[h1];simp only[tU,h5];rfl
theorem Fit.op1{T:List Tq}{s s1:Ps}{z c:Nat}(h:Fit T { s with op:=s.op+1 } z c 0 s1):Fit T s z c 0 { s1 with op:=s1.op-1 }:=by
 refine⟨h.1,λh1 h2=>?_⟩
 obtain⟨a1,a2,a3,a4,a5,a6,a7⟩:=h.2 h1 h2
 refine⟨a1,a2,a3,a4,a5,a6,?_⟩
 replace a7:s1.op=s.op+1+0:=a7
 show s1.op-1=s.op+0
 omega
theorem Z4E{T:List Tq}{s:Ps}{w:List UInt8}:s.i<=(Z0c T s w).i:=by
 unfold Z0c
 split
 · split
   ·rw[Zav];exact Y02 _
   ·exact Y0f _
 ·exact Y02 _
theorem Z7x{T:List Tq}{s:Ps}{w:List UInt8}(h:Z0F T s w=true)(hw:Zfi w=0):Fit T s 1 (ZgI w) (ZeW w) (Z0c T s w):=by
 unfold Z0F at h
 simp only[Y04,Y0l]at h
 have e:Z0c T s w={ s with i:=s.i+1,op:=if upB w=true then s.op+1 else if dnB w=true then s.op-1 else s.op }:=by
  unfold Z0c
  rw[if_pos h.1,if_neg (by rintro⟨a,b⟩;have:=h.2;simp[a,b]at this)]
 rw[e]
 refine Fit.one h.1 rfl hw ?_
 show (if upB w=true then s.op+1 else if dnB w=true then s.op-1 else s.op)=s.op+ZeW w
 unfold ZeW
 split
 ·rfl
 ·split<;>omega
theorem Z84{T:List Tq}{s:Ps}{w:List UInt8}(h:Z0F T s w=false):Fit T s 0 0 0 (Z0c T s w):=by
 unfold Z0c
 split
 · rename_i hi
   split
   ·exact Fit.fail (Y02 _) (by decide)
   · rename_i h2
     exfalso
     unfold Z0F at h
     rw[hi]at h
     simp at h
     exact h2 h
 ·exact Fit.refl s
theorem Z0w{T:List Tq}(s:Ps){w:List UInt8}(hw:Zfi w=0):Fit T s 1 (ZgI w) (ZeW w) (Z03 T s w):=by
 unfold Z03
 split
 ·rename_i h;exact Z7x h hw
 ·exact Fit.fail Z4E (by decide)
theorem Z5D{T:List Tq}(s:Ps):Fit T s 1 0 0 (Z0a T s):=by
 unfold Z0a
 split
 · rename_i h
   unfold Z1j at h
   simp only[Y04,beq_iff_eq]at h
   exact Fit.atom h.1 (.inl h.2) rfl
 ·exact Fit.fail (Y02 _) (by decide)
theorem Zcx{T:List Tq}(hT:TqW T){i:Nat}(h:(Z51 T i).kind=1):Z38 (Z51 T i).text=true/\(Z51 T i).text.length<=9223372036854775807:=by
 unfold Z51 at h⊢
 by_cases hi:i<T.length
 · rw[Y0m hi]at h⊢
   exact hT.wd i hi h
 ·rw[List.getElem?_eq_none (by omega)]at h;exact absurd h (by decide)
theorem Zgm{T:List Tq}(hT:TqW T){i:Nat}(h:(Z51 T i).kind=3):0<=(Z51 T i).num:=by
 unfold Z51 at h⊢
 by_cases hi:i<T.length
 · rw[Y0m hi]at h⊢
   exact hT.nm i hi h
 ·rw[List.getElem?_eq_none (by omega)]at h;exact absurd h (by decide)
theorem Z9O{T:List Tq}(hT:TqW T){s:Ps}(h:(Z0a T s).err=0):Z38 (Z0R T s)=true/\(Z0R T s).length<=9223372036854775807:=by
 unfold Z0a at h
 split at h
 · rename_i h1
   unfold Z0R
   rw[if_pos h1]
   unfold Z1j at h1
   simp only[Y04,beq_iff_eq]at h1
   exact Zcx hT h1.2
 ·exact absurd h (Z0E (by decide))
theorem ZgY{T:List Tq}:∀(l:List (List UInt8))(s:Ps)(k:Int),(∀w∈l,Zfi w=0/\ZgI w=0/\ZeW w=0)->Fit T s 1 0 0 (Z08 T s l k).2/\((Z08 T s l k).2.err=0->k<=(Z08 T s l k).1/\(Z08 T s l k).1<k+l.length)
 |[],s,k,_=>⟨Fit.fail (Y02 _) (by decide),λh=>absurd h (Z0E (by decide))⟩
 |w::l,s,k,hl=>by
  obtain⟨h1,h2,h3⟩:=hl w (by simp)
  unfold Z08
  split
  · rename_i ht
    refine⟨(Z7x ht h1).to (Y02 _) h2 h3,λ_=>⟨Y0h _,?_⟩⟩
    show k<k+((l.length+1:Nat):Int);omega
  · rename_i ht
    obtain⟨h4,h5⟩:=ZgY l (Z0c T s w) (k+1) (λx hx=>hl x (by simp[hx]))
    refine⟨((Z84 (by simpa using ht)).trans h4).to (by omega) (by omega) (by omega),λh=>?_⟩
    obtain⟨a,b⟩:=h5 h
    refine⟨by omega,?_⟩
    show _<k+((l.length+1:Nat):Int);omega
theorem ZlI:∀w∈ordL,Zfi w=0/\ZgI w=0/\ZeW w=0:=by decide
theorem Z5X{T:List Tq}(s:Ps):Fit T s 1 0 0 (Z08 T s ordL 1).2/\((Z08 T s ordL 1).2.err=0->1<=(Z08 T s ordL 1).1/\(Z08 T s ordL 1).1<=6):=by
 obtain⟨h1,h2⟩:=ZgY (T:=T) ordL s 1 ZlI
 refine⟨h1,λh=>?_⟩
 obtain⟨a,b⟩:=h2 h
 have:((ordL.length:Nat):Int)=6:=by decide
 omega
def VE(e:Ex):Prop:=okE e/\Z5R e=true
def Zg2(T:List Tq)(s:Ps)(x:Ex)(s':Ps):Prop:=Fit T s (Z1x x) 0 0 s'/\(s'.err=0->s'.i<T.length->VE x)
theorem Znf{o:Int}{x y:Ex}(ho:ZcP o 0 [] 2=true)(hx:VE x)(hy:VE y):VE (.mk o 0 [] [x,y]):=by
 unfold VE at *
 refine⟨by simp only[okE,okL,okN];exact⟨⟨by decide,by show 2<=_;decide⟩,hx.1,hy.1,trivial⟩,?_⟩
 simp only[Z5R,rightL,hx.2,hy.2,Y0g]
 exact ho
theorem Zng{o:Int}{x:Ex}(ho:ZcP o 0 [] 1=true)(hx:VE x):VE (.mk o 0 [] [x]):=by
 unfold VE at *
 refine⟨by simp only[okE,okL,okN];exact⟨⟨by decide,by show 1<=_;decide⟩,hx.1,trivial⟩,?_⟩
 simp only[Z5R,rightL,hx.2,Y0g]
 exact ho
def ZfC(l:List (List UInt8×Int)):Prop:=∀p∈l,ZcP p.2 0 [] 2=true/\Zfi p.1=0/\ZgI p.1=0/\ZeW p.1=0
theorem Zaa {T : List Tq} {i0 : Nat} {rec1 : Ps -> Ex × Ps} (hrec : ∀ s, i0 <= s.i -> Zg2 T s (rec1 s).1 (rec1 s).2) {s0 : Ps} (hi : i0 <= s0.i) :
  ∀(l:List (List UInt8×Int)),ZfC l->∀(x:Ex)(s:Ps)(a:Bool),Zg2 T s0 x s->Zg2 T s0 (Z10 T rec1 l x s a).1 (Z10 T rec1 l x s a).2.1
 |[],_,x,s,a,h=>h
 |(w,o)::l,hl,x,s,a,h=>by
  obtain⟨k1,k2,k3,k4⟩:=hl (w,o) (by simp)
  have hl':ZfC l:=λp hp=>hl p (by simp[hp])
  unfold Z10
  split
  · rename_i ht
    have t1:=Z7x (T:=T) ht k2
    have t2:=hrec (Z0c T s w) (Y01 hi (Y01 h.1.1 t1.1))
    refine Zaa hrec hi l hl' _ _ _ ⟨((h.1.trans t1).trans t2.1).to (by simp only[Z1x,sizeL];omega) (by rw[k3]) (by rw[k4];rfl),λe1 e2=>?_⟩
    obtain⟨a1,a2,-⟩:=t2.1.2 e1 e2
    have b1:(Z0c T s w).i<T.length:=by omega
    obtain⟨a3,a4,-⟩:=t1.2 a1 b1
    exact Znf k1 (h.2 a3 (by omega)) (t2.2 e1 e2)
  · rename_i ht
    have t1:=Z84 (T:=T) (s:=s) (w:=w) (by simpa using ht)
    refine Zaa hrec hi l hl' _ _ _ ⟨(h.1.trans t1).to (by omega) (by omega) (by omega),λe1 e2=>?_⟩
    obtain⟨a3,a4,-⟩:=t1.2 e1 e2
    exact h.2 a3 (by omega)
theorem Zep {T : List Tq} {i0 : Nat} {rec1 : Ps -> Ex × Ps} (hrec : ∀ s, i0 <= s.i -> Zg2 T s (rec1 s).1 (rec1 s).2) {s0 : Ps} (hi : i0 <= s0.i) {l : List (List UInt8 × Int)} (hl : ZfC l) :
  ∀(k:Nat)(x:Ex)(s:Ps),Zg2 T s0 x s->Zg2 T s0 (Z1F T rec1 l k x s).1 (Z1F T rec1 l k x s).2
 |0,x,s,h=>h
 |k+1,x,s,h=>by
  unfold Z1F
  have h1:=Zaa hrec hi l hl x s false h
  split
  ·exact Zep hrec hi hl k _ _ h1
  ·exact h1
theorem Znz:∀n,ZfC (lvS n)
 |0=>by unfold ZfC lvS;decide
 |1=>by unfold ZfC lvS;decide
 |2=>by unfold ZfC lvS;decide
 |3=>by unfold ZfC lvS;decide
 |4=>by unfold ZfC lvS;decide
 |5=>by unfold ZfC lvS;decide
 |6=>by unfold ZfC lvS;decide
 |7=>by unfold ZfC lvS;decide
 |n+8=>by rw[show lvS (n+8)=[([42],16)] from rfl];unfold ZfC;decide
theorem ZaM{T:List Tq}{i0:Nat}{un:Ps->Ex×Ps}(hun:∀s,i0<=s.i->Zg2 T s (un s).1 (un s).2):∀(m:Nat)(s:Ps),i0<=s.i->Zg2 T s (Z2P T un m s).1 (Z2P T un m s).2
 |0,s,h=>hun s h
 |m+1,s,h=>by
  unfold Z2P
  exact Zep (λt ht=>ZaM hun m t ht) h (Znz _) _ _ _ (ZaM hun m s h)
theorem Zkr{T:List Tq}(hT:TqW T){ex:Ps->Ex×Ps}{s:Ps}(hex:∀t,s.i+1<=t.i->Zg2 T t (ex t).1 (ex t).2):Zg2 T s (Z19 T ex s).1 (Z19 T ex s).2:=by
 unfold Z19
 split
 · rename_i he
   exact⟨⟨Y02 _,λh=>absurd h he⟩,λh=>absurd h he⟩
 rename_i he
 replace he:s.err=0:=Classical.not_not.1 he
 split
 · rename_i hk
   refine⟨(Fit.atom he (.inr hk) rfl).to (by simp only[Z1x,sizeL];omega) rfl rfl,λ_ _=>⟨by simp only[okE,okL,okN];exact⟨⟨by decide,by decide⟩,trivial⟩,?_⟩⟩
   have:=Zgm hT (Z5b ▸ hk)
   simp only[Z5R,rightL,ZcP,Z5b,this,decide_true]
   rfl
 split
 · rename_i hk
   obtain⟨w1,w2⟩:=Zcx hT (Z5b ▸ hk)
   refine⟨(Fit.atom he (.inl hk) rfl).to (by simp only[Z1x,sizeL];omega) rfl rfl,λ_ _=>⟨by simp only[okE,okL,okN];exact⟨⟨w2,by decide⟩,trivial⟩,?_⟩⟩
   simp only[Z5R,rightL,ZcP,Z5b,w1]
   rfl
 split
 · rename_i ht
   have t1:=Z7x (T:=T) ht rfl
   have t0:s.i+1<=(Z0c T s [40]).i:=by
    have h1:=ht
    unfold Z0F at h1
    simp only[Y04,Y0l]at h1
    unfold Z0c
    rw[if_pos h1.1,if_neg (by rintro⟨a,b⟩;have:=h1.2;simp[a,b]at this)]
    exact Y02 _
   have t2:=hex _ t0
   have t3:=Z0w (T:=T) (ex (Z0c T s [40])).2 (w:=[41]) rfl
   refine⟨Fit.to (z':=Z1x (ex (Z0c T s [40])).1) ((t1.trans t2.1).trans t3) (by omega) rfl rfl,λe1 e2=>?_⟩
   obtain⟨a1,a2,-⟩:=t3.2 e1 e2
   replace e2:(Z03 T (ex (Z0c T s [40])).2 [41]).i<T.length:=e2
   exact t2.2 a1 (by omega)
 ·exact⟨Fit.fail Z4E (by decide),λh=>absurd h (Z0E (by decide))⟩
theorem Z7W{T:List Tq}(hT:TqW T):∀(d:Nat)(s:Ps),T.length<=s.i+d->Zg2 T s (unF T d s).1 (unF T d s).2
 |0,s,h=>⟨⟨Y02 _,λ_ h2=>absurd h2 (by show ¬s.i<_;omega)⟩,λ_ h2=>absurd h2 (by show ¬s.i<_;omega)⟩
 |d+1,s,h=>by
  unfold unF
  split
  ·exact Zkr hT (λt ht=>ZaM (i0:=t.i) (λu hu=>Z7W hT d u (by omega)) 9 t (Y02 _))
  rename_i h2
  split
  ·exact⟨Fit.fail (Y02 _) (by decide),λh=>absurd h (Z0E (by decide))⟩
  · have hs : Fit T s 1 0 0 { s with i := s.i + 1 } := by
     by_cases h3:isF T s [45]=true
     ·exact Fit.one (w:=[45]) h3 rfl rfl (Y0q _).symm
     · by_cases h4:isF T s [33]=true
       ·exact Fit.one (w:=[33]) h4 rfl rfl (Y0q _).symm
       ·exact absurd ⟨by simpa using h3,by simpa using h4⟩ h2
    have t2:=Z7W hT d { s with i:=s.i+1,op:=s.op+1 } (by show _<=s.i+1+d;omega)
    refine⟨(hs.trans (Fit.op1 (s:={ s with i:=s.i+1 }) t2.1)).to (by simp only[Z1x,sizeL];omega) rfl rfl,λe1 e2=>Zng ?_ (t2.2 e1 e2)⟩
    split<;>decide
theorem Z6a{T:List Tq}(hT:TqW T)(s:Ps):Zg2 T s (Z0X T s).1 (Z0X T s).2:=ZaM (i0:=0) (λu hu=>Z7W hT T.length u (by omega)) 9 s (Y05 _)
theorem Z8O{T:List Tq}(hT:TqW T)(s:Ps):Zg2 T s (Z1p T s).1 (Z1p T s).2:=by
 have t1:=Z0w (T:=T) s (w:=[40]) rfl
 have t2:=Z6a hT (Z03 T s [40])
 have t3:=Z0w (T:=T) (Z0X T (Z03 T s [40])).2 (w:=[41]) rfl
 refine⟨((t1.trans t2.1).trans t3).to (by show Z1x (Z0X T (Z03 T s [40])).1<=1+Z1x (Z0X T (Z03 T s [40])).1+1;omega) rfl rfl,λe1 e2=>?_⟩
 obtain⟨a1,a2,-⟩:=t3.2 e1 e2
 replace e2:(Z03 T (Z0X T (Z03 T s [40])).2 [41]).i<T.length:=e2
 exact t2.2 a1 (by omega)
end
section
theorem Znv{sn:Z0m}{ι : Z0i}{W:World}(h:R sn ι [] W) : ι = noI:=by
 funext b
 cases hb : ι b with
 |none=>rfl
 |some p=>have:=(h.dom b).2 ⟨p,hb⟩;simp at this
theorem Z9u{P:Program}{gl:Z0g}{f:Nat}{args:List AV}{r:AV}(h:ValOK P gl f args r)(hp:plain r=true):Z2i P gl f args [] r []:=by
 intro sn ι W cargs hg hR ha
 have:=Znv hR;subst this
 refine (h sn W cargs hg hR ha).monoY ?_
 rintro e W' ⟨v,rfl,hx,hv⟩
 exact⟨v,sn,noI,rfl,Z5V hp hv,Stp.ext hR hx⟩
theorem Zfe{P:Program}{gl:Z0g}{f:Nat}{args:List AV}{r:AV}(h:Z2i P gl f args [] r [])(hp:plain r=true)(hb:(P.funcs[f]?).isSome=true:=by kernel_rfl):ValOK P gl f args r:=by
 intro sn W cargs hg hR ha
 obtain⟨fn,hfn⟩:=Option.isSome_iff_exists.1 hb
 refine ((h sn noI W cargs hg hR ha).calls hfn).mono ?_
 rintro e W' ⟨v,sn',ι',rfl,hv,hs⟩
 exact⟨v,rfl,⟨λc hc=>hs.frame c hc λb o p hb=>by simp at hb,hs.size,hs.os,hs.tape,hs.output⟩,Z5V hp hv⟩
def rE(e:Ex)(_:Int)(s:Unit):Bool×Unit:=(ZoI e,s)
mutual
theorem ZoT:∀(e:Ex)(d:Int)(s:Unit),goE rE e d s=(Z5R e,())
 | .mk o n s k,d,t=>by
  have:=goL_r k (d+1) ()
  simp only[goE,rE,ZoI,Ex.op,Ex.num,Ex.name,Ex.kids,Z5R,this]
  cases ZcP o n s k.length<;>rfl
theorem goL_r:∀(l:List Ex)(d:Int)(s:Unit),goL rE l d s=(rightL l,())
 |[],d,s=>by simp only[goL,rightL]
 |e::l,d,s=>by
  simp only[goL,ZoT e d s,goL_r l d (),rightL]
  cases Z5R e<;>rfl
end
def cE(_:Ex)(d:Int)(n:Nat):Bool×Nat:=(decide (((n+1:Nat):Int)<=2000)&&decide (d<=32),n+1)
def Cnt(r:Bool×Nat)(n a:Nat)(D:Int):Prop:=(r.1=true ↔ n+a<=2000/\D<=33)/\(r.1=true->r.2=n+a)
theorem Z3V{r:Bool×Nat}{f:Nat->Bool×Nat}{n a b:Nat}{D1 D2:Int}(h1:Cnt r n a D1)(h2:n+a<=2000->D1<=33->Cnt (f (n+a)) (n+a) b D2):Cnt (Z1l r f) n (a+b) (max D1 D2):=by
 obtain⟨g1,g2⟩:=h1
 unfold Z1l
 by_cases h:r.1=true
 · rw[if_pos h,g2 h]
   have h3:=g1.1 h
   obtain⟨k1,k2⟩:=h2 h3.1 h3.2
   refine⟨?_,λh4=>by rw[k2 h4];omega⟩
   rw[k1]
   constructor<;>(intro h;omega)
 · rw[if_neg h]
   refine⟨⟨λh=>(by cases h),λh3=>absurd (g1.2 (by omega)) h⟩,λh=>(by cases h)⟩
theorem Zdl(d:Int)(n:Nat):Cnt (decide (((n+1:Nat):Int)<=2000)&&decide (d<=32),n+1) n 1 (d+1):=by
 refine⟨?_,λ_=>rfl⟩
 simp only[Y04,decide_eq_true_eq]
 constructor<;>(intro h;omega)
theorem Cnt.to{r:Bool×Nat}{n a b:Nat}{D E:Int}(h:Cnt r n a D)(e1:a=b)(e2:D=E):Cnt r n b E:=by subst e1;subst e2;exact h
mutual
theorem ZoU:∀(e:Ex)(d:Int)(n:Nat),Cnt (goE cE e d n) n (Z1x e) (d+ZmB e)
 | .mk o num s k,d,n=>by
  have:goE cE (.mk o num s k) d n=Z1l (cE (.mk o num s k) d n) λn=>goL cE k (d+1) n:=by simp only[goE,Z1l]
  rw[this]
  exact (Z3V (Zdl d n) λh1 h2=>goL_c k (d+1) (n+1) h1 h2).to (by simp only[Z1x]) (by simp only[ZmB];omega)
theorem goL_c:∀(l:List Ex)(d:Int)(n:Nat),n<=2000->d<=33->Cnt (goL cE l d n) n (sizeL l) (d+deepL l)
 |[],d,n,h1,h2=>by simp only[goL,sizeL,deepL];exact⟨⟨λ_=>by omega,λ_=>rfl⟩,λ_=>rfl⟩
 |e::l,d,n,h1,h2=>by
  have:goL cE (e::l) d n=Z1l (goE cE e d n) λn=>goL cE l d n:=by simp only[goL,Z1l]
  rw[this]
  exact (Z3V (ZoU e d n) λh1 _=>goL_c l d _ h1 h2).to (by simp only[sizeL]) (by simp only[deepL];omega)
end
end
section
def rS(x:St)(_:Int)(s:Unit):Bool×Unit:=(Zno x,s)
mutual
def Z8g:St->Bool
 | .mk k n l o x t e=>Zno (.mk k n l o x t e)&&(rightL x&&(rightSL t&&rightSL e))
def rightSL:List St->Bool
 |[]=>true
 |x::l=>Z8g x&&rightSL l
end
mutual
theorem ZoR:∀(x:St)(d:Int)(s:Unit),goS rE rS x d s=(Z8g x,())
 | .mk k n l o x t e,d,s=>by
  simp only[goS,rS,Z8g,goL_r x (d+1) (),goSL_r t (d+1) (),goSL_r e (d+1) (),Z1l]
  cases Zno (.mk k n l o x t e)<;>cases rightL x<;>cases rightSL t<;>rfl
theorem goSL_r:∀(l:List St)(d:Int)(s:Unit),goSL rE rS l d s=(rightSL l,())
 |[],d,s=>by simp only[goSL,rightSL]
 |x::l,d,s=>by
  simp only[goSL,ZoR x d s,goSL_r l d (),rightSL,Z1l]
  cases Z8g x<;>rfl
end
def rV:TvS runLives.gl where
 σ:=Unit
 Mem:=λ_=>[]
 k:=0
 len:=λ_=>rfl
 same:=λ_=>⟨trivial,rfl,rfl⟩
 evo:=λ_ _=>rfl
 inj:=λ_ _ _=>rfl
 I:=λd s m=>0<=d/\d+m<=1152921504606846976
 up:=λd s m h0 h=>⟨h0,by have:=h.2;omega⟩
 less:=λd s m h=>⟨h.1,by have:=h.2;omega⟩
 bnd:=λd s m h=>⟨h.1,by have:=h.2;omega⟩
 gE:=65
 cE:=[]
 hE:=rE
 bodyE:=by kernel_rfl
 wkE:=trivial
 okE:=λe rest d s m ho _=>Z9u (ZgL e rest d ho) rfl
 downE:=λe d s m h _=>⟨by have:=h.1;omega,by have:=h.2;omega⟩
 gS:=66
 cS:=[]
 hS:=rS
 bodyS:=by kernel_rfl
 wkS:=trivial
 okS:=λx rest d s m ho _=>by
  refine Z9u ?_ rfl
  obtain⟨k1,k2,_⟩:=Z8m ho
  obtain⟨k,n,l,o,x,t,e⟩:=x
  simp only[St.cells,exA]
  exact Zft k n l o x.length t.length e.length _ _ _ rest d k1 k2
 downS:=λe d s m h _=>⟨by have:=h.1;omega,by have:=h.2;omega⟩
theorem Zlu(l:List St)(d:Int)(hok:okSL l)(hl:l.length<=9223372036854775807)(h0:0<=d)(h1:d+sizeSL l<=1152921504606846976):ValOK Y00 runLives.gl 64 [stA l,.int .i64 d,.func (.func 65) [] [],.func (.func 66) [] []] (.bool (rightSL l)):=by
 have:=TvS.stmts rV (sizeSL l) l d () 0 (Y02 _) hok hl ⟨h0,h1⟩
 have e:(goSL rV.hE rV.hS l d ()).1=rightSL l:=by
  have:=goSL_r l d ()
  show (goSL rE rS l d ()).1=_
  rw[this]
 rw[e]at this
 exact Zfe this rfl
def cS(_:St)(d:Int)(n:Nat):Bool×Nat:=(decide (((n+1:Nat):Int)<=2000)&&decide (d<=32),n+1)
mutual
theorem ZoS:∀(x:St)(d:Int)(n:Nat),Cnt (goS cE cS x d n) n (Z1O x) (d+ZmA x)
 | .mk k nm lc o x t e,d,n=>by
  simp only[goS]
  refine Cnt.to (Z3V (Zdl d n) λh1 h2=>Z3V (goL_c x (d+1) (n+1) h1 h2) λh1 _=>Z3V (goSL_c t (d+1) _ h1 h2) λh1 _=>goSL_c e (d+1) _ h1 h2) ?_ ?_
  ·simp only[Z1O];omega
  ·simp only[ZmA];omega
theorem goSL_c:∀(l:List St)(d:Int)(n:Nat),n<=2000->d<=33->Cnt (goSL cE cS l d n) n (sizeSL l) (d+deepSL l)
 |[],d,n,h1,h2=>by simp only[goSL,sizeSL,deepSL];exact⟨⟨λ_=>by omega,λ_=>rfl⟩,λ_=>rfl⟩
 |e::l,d,n,h1,h2=>by
  simp only[goSL]
  exact (Z3V (ZoS e d n) λh1 _=>goSL_c l d _ h1 h2).to (by simp only[sizeSL]) (by simp only[deepSL];omega)
end
end
section
theorem Fit.need{T:List Tq}{s s1:Ps}{z c:Nat}{b:Int}(h:Fit T s z c b s1){w:List UInt8}(hw:Zfi w=0):Fit T s (z+1) (c+ZgI w) (b+ZeW w) (Z03 T s1 w):=h.trans (Z0w s1 hw)
theorem Fit.back{T:List Tq}{s s1:Ps}{z c:Nat}{b:Int}(h:Fit T s z c b s1)(e1:s1.err=0)(e2:s1.i<T.length):s.err=0/\s.i<T.length:=⟨(h.2 e1 e2).1,Y0C h.1 e2⟩
theorem Z1s{T:List Tq}{s:Ps}{w:List UInt8}(h:isF T s w=true)(hw:Zfi w=0)(h1:ZgI w=0)(h2:ZeW w=0):Fit T s 1 0 0 (Z02 s):=(Fit.one h rfl hw (by rw[h2];exact (Y0q _).symm)).to (Y02 _) h1 h2
def Zqn(T:List Tq)(s:Ps)(n:Nat)(l:List Ex)(s':Ps):Prop:=Fit T s (sizeL l) 0 0 s'/\(s'.err=0->s'.i<T.length->okL l/\rightL l=true/\l.length=n)
theorem Zax{T:List Tq}(hT:TqW T):∀(n:Nat)(s:Ps),Zqn T s n (Z3D T n s).1 (Z3D T n s).2
 |0,s=>⟨Fit.refl s,λ_ _=>⟨trivial,rfl,rfl⟩⟩
 |n+1,s=>by
  have t1:=Z0w (T:=T) s (w:=[44]) rfl
  have t2:=Z6a hT (Z03 T s [44])
  have t3:=Zax hT n (Z0X T (Z03 T s [44])).2
  refine⟨Fit.to ((t1.trans t2.1).trans t3.1) (by simp only[Z3D,sizeL];omega) rfl rfl,λe1 e2=>?_⟩
  obtain⟨b1,b2,b3⟩:=t3.2 e1 e2
  obtain⟨a1,a2⟩:=t3.1.back e1 e2
  obtain⟨c1,c2⟩:=t2.2 a1 a2
  refine⟨?_,?_,?_⟩
  ·simp only[Z3D,okL];exact⟨c1,b1⟩
  ·simp only[Z3D,rightL,c2,b2];rfl
  ·simp only[Z3D,Y0a,b3]
mutual
def Zn0:St->Nat
 | .mk k _ _ _ _ t e=>if k==10 || k==11 then semSL t+semSL e else 1
def semSL:List St->Nat
 |[]=>0
 |s::l=>Zn0 s+semSL l
end
def VS(x:St):Prop:=okS x/\Z8g x=true
def FitA(T:List Tq)(s:Ps)(x:St)(s':Ps):Prop:=Fit T s (Z1O x) 0 0 s'/\(x.kind≠10/\x.kind≠11)/\(s'.err=0->s'.i<T.length->VS x)
def ZiK(T:List Tq)(s:Ps)(x:St)(s':Ps):Prop:=Fit T s (Z1O x) (Zn0 x) 0 s'/\(s'.err=0->s'.i<T.length->VS x)
def ZdI(T:List Tq)(s:Ps)(l:List St)(s':Ps):Prop:=Fit T s (sizeSL l) (semSL l) 0 s'/\(s'.err=0->s'.i<T.length->okSL l/\rightSL l=true)
theorem Z4S:∀l:List St,l.length<=sizeSL l
 |[]=>Y02 _
 | .mk _ _ _ _ _ _ _::l=>by have:=Z4S l;simp only[sizeSL,Z1O,Y0a];omega
theorem ZdL{k:Int}{nm lc:List UInt8}{o:Int}{x:List Ex}(hn:nm.length<=9223372036854775807)(hl:lc.length<=9223372036854775807)(hx:okL x)(hx2:rightL x=true)(hlen:x.length<=2)(ho:Z92 k nm lc o x.length 0 0=true):VS (.mk k nm lc o x [] []):=by
 refine⟨?_,?_⟩
 ·simp only[okS,okN,okSL];exact⟨⟨hn,by omega⟩,⟨hl,by decide⟩,by decide,hx,trivial,trivial⟩
 · simp only[Z8g,rightSL,hx2,Y0g,Zno,St.kind,St.name,St.loc,St.order,St.exprs,St.thn,St.els]
   exact ho
theorem Z8V {T : List Tq} (hT : TqW T) (s : Ps) {nm : List UInt8} {k : Int} {n : Nat} (hn : n <= 2) (hk : k = 2 /\ n = 0 \/ k = 3 /\ n = 1 \/ k = 4 /\ n = 2 \/ k = 5 /\ n = 1 \/ k = 6 /\ n = 1) (hnm : nm.length <= 9223372036854775807) :
  Fit T s (Z1O (Z2j T nm k n s).1-1) 0 0 (Z2j T nm k n s).2/\((Z2j T nm k n s).1.kind≠10/\(Z2j T nm k n s).1.kind≠11)/\((Z2j T nm k n s).2.err=0->(Z2j T nm k n s).2.i<T.length->isW (Zn5 k) nm=true->VS (Z2j T nm k n s).1):=by
 have t1:=Z0w (T:=T) s (w:=[40]) rfl
 have t2:=Z5D (T:=T) (Z03 T s [40])
 have t3:=Zax hT n (Z0a T (Z03 T s [40]))
 have t4:=Z0w (T:=T) (Z3D T n (Z0a T (Z03 T s [40]))).2 (w:=[44]) rfl
 have t5:=Z5X (T:=T) (Z03 T (Z3D T n (Z0a T (Z03 T s [40]))).2 [44])
 have t6:=Z0w (T:=T) (Z08 T (Z03 T (Z3D T n (Z0a T (Z03 T s [40]))).2 [44]) ordL 1).2 (w:=[41]) rfl
 refine⟨Fit.to (((((t1.trans t2).trans t3.1).trans t4).trans t5.1).trans t6) (by simp only[Z2j,Z1O,sizeSL];omega) rfl rfl,by simp only[Z2j,St.kind];omega,λe1 e2 hw=>?_⟩
 obtain⟨a1,a2⟩:=t6.back e1 e2
 obtain⟨o1,o2⟩:=t5.2 a1
 obtain⟨b1,b2⟩:=t5.1.back a1 a2
 obtain⟨c1,c2⟩:=t4.back b1 b2
 obtain⟨x1,x2,x3⟩:=t3.2 c1 c2
 obtain⟨d1,d2⟩:=t3.1.back c1 c2
 obtain⟨w1,w2⟩:=Z9O hT d1
 simp only[Z2j]
 refine ZdL hnm w2 x1 x2 (by omega) ?_
 rw[x3]
 have hl:isW true (Z0R T (Z03 T s [40]))=true:=w1
 have ho:decide (1<=(Z08 T (Z03 T (Z3D T n (Z0a T (Z03 T s [40]))).2 [44]) ordL 1).1/\(Z08 T (Z03 T (Z3D T n (Z0a T (Z03 T s [40]))).2 [44]) ordL 1).1<=6)=true:=by simpa using ⟨o1,o2⟩
 have e1:decide (1<=k/\k<=11)=true:=by rcases hk with ⟨rfl,-⟩|⟨rfl,-⟩|⟨rfl,-⟩|⟨rfl,-⟩|⟨rfl,-⟩<;>rfl
 have e2:Zon k=true:=by rcases hk with ⟨rfl,-⟩|⟨rfl,-⟩|⟨rfl,-⟩|⟨rfl,-⟩|⟨rfl,-⟩<;>rfl
 have e3:ZnH k=true:=by rcases hk with ⟨rfl,-⟩|⟨rfl,-⟩|⟨rfl,-⟩|⟨rfl,-⟩|⟨rfl,-⟩<;>rfl
 have e4:decide (n=ZnG k)=true:=by rcases hk with ⟨rfl,rfl⟩|⟨rfl,rfl⟩|⟨rfl,rfl⟩|⟨rfl,rfl⟩|⟨rfl,rfl⟩<;>rfl
 unfold Z92
 rw[e1,hw,e2,hl,e3,if_pos rfl,ho,e4]
 simp
theorem FitA.of{T:List Tq}{s s1 s2:Ps}{x:St}(h1:Fit T s 1 0 0 s1)(h2:Fit T s1 (Z1O x-1) 0 0 s2)(hk:x.kind≠10/\x.kind≠11)(h3:s2.err=0->s2.i<T.length->VS x):FitA T s x s2 :=
 ⟨(h1.trans h2).to (by omega) rfl rfl,hk,h3⟩
theorem Zmk{T:List Tq}(s:Ps):Fit T s (Z1O (Zb1 T s).1-1) 0 0 (Zb1 T s).2/\((Zb1 T s).2.err=0->(Zb1 T s).2.i<T.length->VS (Zb1 T s).1):=by
 have t1:=Z0w (T:=T) s (w:=[40]) rfl
 have t2:=Z5X (T:=T) (Z03 T s [40])
 have t3:=Z0w (T:=T) (Z08 T (Z03 T s [40]) ordL 1).2 (w:=[41]) rfl
 refine⟨Fit.to ((t1.trans t2.1).trans t3) (by simp only[Zb1,Z1O,sizeSL,sizeL];omega) rfl rfl,λe1 e2=>?_⟩
 obtain⟨a1,a2⟩:=t3.back e1 e2
 obtain⟨o1,o2⟩:=t2.2 a1
 have ho:decide (1<=(Z08 T (Z03 T s [40]) ordL 1).1/\(Z08 T (Z03 T s [40]) ordL 1).1<=6)=true:=by simpa using ⟨o1,o2⟩
 simp only[Zb1]
 refine ZdL (by decide) (by decide) trivial rfl (by decide) ?_
 unfold Z92
 rw[show ZnH 7=true from rfl,if_pos rfl,ho];rfl
theorem Zim{T:List Tq}(hT:TqW T)(s:Ps){k:Int}(hk:k=8\/k=9):Fit T s (Z1O (ZaJ T k s).1-1) 0 0 (ZaJ T k s).2/\((ZaJ T k s).2.err=0->(ZaJ T k s).2.i<T.length->VS (ZaJ T k s).1):=by
 have t1:=Z8O hT s
 refine⟨Fit.to t1.1 (by simp only[ZaJ,Z1O,sizeSL,sizeL];omega) rfl rfl,λe1 e2=>?_⟩
 obtain⟨a1,a2⟩:=t1.2 e1 e2
 simp only[ZaJ]
 refine ZdL (by decide) (by decide) (by simp only[okL];exact⟨a1,trivial⟩) (by simp only[rightL,a2];rfl) (by show 1<=2;decide) ?_
 rcases hk with rfl|rfl<;>rfl
theorem Z9T{T:List Tq}(hT:TqW T)(s:Ps){nm:List UInt8}(hn:nm.length<=9223372036854775807):Fit T s (Z1O (Z3j T nm s).1-1) 0 0 (Z3j T nm s).2/\((Z3j T nm s).1.kind≠10/\(Z3j T nm s).1.kind≠11)/\((Z3j T nm s).2.err=0->(Z3j T nm s).2.i<T.length->Z38 nm=true->VS (Z3j T nm s).1):=by
 unfold Z3j
 split
 · rename_i h
   obtain⟨a1,a2,a3⟩:=Z8V hT (Z02 s) (nm:=nm) (k:=2) (n:=0) (by decide) (by decide) hn
   exact⟨((Z1s h (by decide) (by decide) (by decide)).trans a1).to (by omega) rfl rfl,a2,λe1 e2 hw=>a3 e1 e2 hw⟩
 split
 · rename_i h
   obtain⟨a1,a2,a3⟩:=Z8V hT (Z02 s) (nm:=nm) (k:=4) (n:=2) (by decide) (by decide) hn
   exact⟨((Z1s h (by decide) (by decide) (by decide)).trans a1).to (by omega) rfl rfl,a2,λe1 e2 hw=>a3 e1 e2 hw⟩
 split
 · rename_i h
   obtain⟨a1,a2,a3⟩:=Z8V hT (Z02 s) (nm:=nm) (k:=5) (n:=1) (by decide) (by decide) hn
   exact⟨((Z1s h (by decide) (by decide) (by decide)).trans a1).to (by omega) rfl rfl,a2,λe1 e2 hw=>a3 e1 e2 hw⟩
 split
 · rename_i h
   obtain⟨a1,a2,a3⟩:=Z8V hT (Z02 s) (nm:=nm) (k:=6) (n:=1) (by decide) (by decide) hn
   exact⟨((Z1s h (by decide) (by decide) (by decide)).trans a1).to (by omega) rfl rfl,a2,λe1 e2 hw=>a3 e1 e2 hw⟩
 · have t1:=Z6a hT s
   refine⟨Fit.to t1.1 (by simp only[Z1O,sizeSL,sizeL];omega) rfl rfl,by simp only[St.kind];decide,λe1 e2 hw=>?_⟩
   obtain⟨a1,a2⟩:=t1.2 e1 e2
   refine ZdL hn (by decide) (by simp only[okL];exact⟨a1,trivial⟩) (by simp only[rightL,a2];rfl) (by show 1<=2;decide) ?_
   unfold Z92
   rw[show isW (Zn5 1) nm=true from hw]
   rfl
theorem Ze4{T:List Tq}(hT:TqW T)(s:Ps):FitA T s (Z1m T s).1 (Z1m T s).2:=by
 unfold Z1m
 split
 · rename_i h
   obtain⟨a1,a2,a3⟩:=Z8V hT (Z02 s) (nm:=[]) (k:=3) (n:=1) (by decide) (by decide) (by decide)
   exact FitA.of (Z1s h (by decide) (by decide) (by decide)) a1 a2 λe1 e2=>a3 e1 e2 rfl
 split
 · rename_i h
   obtain⟨a1,a3⟩:=Zmk (T:=T) (Z02 s)
   exact FitA.of (Z1s h (by decide) (by decide) (by decide)) a1 (by simp only[Zb1,St.kind];decide) a3
 split
 · rename_i h
   obtain⟨a1,a3⟩:=Zim hT (Z02 s) (.inl rfl)
   exact FitA.of (Z1s h (by decide) (by decide) (by decide)) a1 (by simp only[ZaJ,St.kind];decide) a3
 split
 · rename_i h
   obtain⟨a1,a3⟩:=Zim hT (Z02 s) (.inr rfl)
   exact FitA.of (Z1s h (by decide) (by decide) (by decide)) a1 (by simp only[ZaJ,St.kind];decide) a3
 · have t1:=Z5D (T:=T) s
   have t2:=t1.need (w:=[61]) rfl
   by_cases he:(Z0a T s).err=0
   · obtain⟨w1,w2⟩:=Z9O hT he
     obtain⟨a1,a2,a3⟩:=Z9T hT (Z03 T (Z0a T s) [61]) w2
     exact⟨(t2.trans a1).to (by omega) rfl rfl,a2,λe1 e2=>a3 e1 e2 w1⟩
   · have hw : Z0R T s = [] := by
      unfold Z0R
      rw[if_neg]
      intro hh
      apply he
      unfold Z0a
      rw[if_pos hh]
      unfold Z1j at hh
      simp only[Y04,beq_iff_eq]at hh
      exact hh.1
     rw[hw]
     obtain⟨a1,a2,a3⟩:=Z9T hT (Z03 T (Z0a T s) [61]) (nm:=[]) (by decide)
     refine⟨(t2.trans a1).to (by omega) rfl rfl,a2,λe1 e2=>?_⟩
     obtain⟨b1,b2⟩:=a1.back e1 e2
     obtain⟨c1,c2⟩:=(Z0w (T:=T) (Z0a T s) (w:=[61]) rfl).back b1 b2
     exact absurd c1 he
theorem Z6t{T:List Tq}{i0:Nat}{stm:Ps->St×Ps}(hstm:∀s,i0<=s.i->ZiK T s (stm s).1 (stm s).2)(w:List UInt8):∀(k:Nat)(s:Ps),i0<=s.i->ZdI T s (Z2L T stm w k s).1 (Z2L T stm w k s).2
 |0,s,h=>⟨Fit.refl s,λ_ _=>⟨trivial,rfl⟩⟩
 |k+1,s,h=>by
  unfold Z2L
  split
  · have t1:=hstm s h
    have t2:=Z6t hstm w k (stm s).2 (Y01 h t1.1.1)
    refine⟨Fit.to (t1.1.trans t2.1) (by simp only[sizeSL];omega) (by simp only[semSL]) (by omega),λe1 e2=>?_⟩
    obtain⟨a1,a2⟩:=t2.2 e1 e2
    obtain⟨b1,b2⟩:=t2.1.back e1 e2
    obtain⟨c1,c2⟩:=t1.2 b1 b2
    refine⟨?_,?_⟩
    ·simp only[okSL];exact⟨c1,a1⟩
    ·simp only[rightSL,c2,a2];rfl
  ·exact⟨Fit.refl s,λ_ _=>⟨trivial,rfl⟩⟩
theorem Zdo{T:List Tq}{i0:Nat}{stm:Ps->St×Ps}(hstm:∀s,i0<=s.i->ZiK T s (stm s).1 (stm s).2)(s:Ps)(h:i0<=s.i):ZdI T s (Z7P T stm s).1 (Z7P T stm s).2:=by
 have t1:=Z0w (T:=T) s (w:=[123]) rfl
 have t2:=Z6t hstm [125] (T.length+1) (Z03 T s [123]) (Y01 h t1.1)
 have t3:=Z0w (T:=T) (Z2L T stm [125] (T.length+1) (Z03 T s [123])).2 (w:=[125]) rfl
 refine⟨Fit.to ((t1.trans t2.1).trans t3) (by simp only[Z7P];omega) (by simp only[Z7P];show 0+_+0=_;omega) rfl,λe1 e2=>?_⟩
 obtain⟨a1,a2⟩:=t3.back e1 e2
 exact t2.2 a1 a2
theorem Zkx{T:List Tq}(hT:TqW T){k:Int}{x:Ex}{t e:List St}{j:Nat}(hx:VE x)(ht:okSL t/\rightSL t=true)(he:okSL e/\rightSL e=true)(hk:k=10\/k=11/\e=[])(h1:sizeSL t+sizeSL e<=j)(hj:j<T.length):VS (.mk k [] [] 0 [x] t e):=by
 have l1:=Z4S t
 have l2:=Z4S e
 have l3:=hT.few
 refine⟨?_,?_⟩
 ·simp only[okS,okN,okL];exact⟨⟨by decide,by show 1<=_;decide⟩,⟨by decide,by omega⟩,by omega,⟨hx.1,trivial⟩,ht.1,he.1⟩
 · simp only[Z8g,rightL,hx.2,ht.2,he.2,Y0g,Zno,St.kind,St.name,St.loc,St.order,St.exprs,St.thn,St.els]
   rcases hk with rfl|⟨rfl,rfl⟩
   ·rfl
   ·rfl
theorem Zi0{T:List Tq}{i0:Nat}{blk:Ps->List St×Ps}{stm:Ps->St×Ps}(hblk:∀s,i0<=s.i->ZdI T s (blk s).1 (blk s).2)(hstm:∀s,i0<=s.i->ZiK T s (stm s).1 (stm s).2)(s:Ps)(h:i0<=s.i):ZdI T s (Z7p T blk stm s).1 (Z7p T blk stm s).2:=by
 unfold Z7p
 split
 · rename_i h1
   have t1:=Z1s h1 (by decide) (by decide) (by decide)
   have h2:i0<=(Z02 s).i:=Y01 h t1.1
   split
   · have t2:=hstm (Z02 s) h2
     refine⟨Fit.to (t1.trans t2.1) (by simp only[sizeSL];omega) (by simp only[semSL];omega) rfl,λe1 e2=>?_⟩
     obtain⟨a1,a2⟩:=t2.2 e1 e2
     refine⟨?_,?_⟩
     ·simp only[okSL];exact⟨a1,trivial⟩
     ·simp only[rightSL,a2];rfl
   · have t2:=hblk (Z02 s) h2
     exact⟨(t1.trans t2.1).to (by omega) (by omega) rfl,t2.2⟩
 ·exact⟨Fit.refl s,λ_ _=>⟨trivial,rfl⟩⟩
theorem ZdY{T:List Tq}(hT:TqW T){blk:Ps->List St×Ps}{stm:Ps->St×Ps}(s:Ps)(hblk:∀t,s.i+1<=t.i->ZdI T t (blk t).1 (blk t).2)(hstm:∀t,s.i+1<=t.i->ZiK T t (stm t).1 (stm t).2):ZiK T s (Z2M T blk stm s).1 (Z2M T blk stm s).2:=by
 unfold Z2M
 split
 · rename_i h
   have t1:=Z1s h (by decide) (by decide) (by decide)
   have t2:=Z8O hT (Z02 s)
   have h2:s.i+1<=(Z1p T (Z02 s)).2.i:=t2.1.1
   have t3:=hblk _ h2
   have t4:=Zi0 hblk hstm _ (Y01 h2 t3.1.1)
   have t5:=((t1.trans t2.1).trans t3.1).trans t4.1
   refine⟨Fit.to t5 (by simp only[ZbD,Z1O,sizeL];omega) (by simp only[ZbD,Zn0];show 0+0+_+_=_+_;omega) rfl,λe1 e2=>?_⟩
   obtain⟨a1,a2⟩:=t4.1.back e1 e2
   obtain⟨b1,b2⟩:=t3.1.back a1 a2
   have hz:=(t5.2 e1 e2).2.1
   simp only[ZbD]at e2 hz⊢
   exact Zkx hT (t2.2 b1 b2) (t3.2 a1 a2) (t4.2 e1 e2) (.inl rfl) (j:=(Z7p T blk stm (blk (Z1p T (Z02 s)).2).2).2.i) (by omega) e2
 split
 · rename_i h
   have t1:=Z1s h (by decide) (by decide) (by decide)
   have t2:=Z8O hT (Z02 s)
   have h2:s.i+1<=(Z1p T (Z02 s)).2.i:=t2.1.1
   have t3:=hblk _ h2
   have t5:=(t1.trans t2.1).trans t3.1
   refine⟨Fit.to t5 (by simp only[Zj5,Z1O,sizeL,sizeSL];omega) (by simp only[Zj5,Zn0,semSL];show 0+0+_=_+0;omega) rfl,λe1 e2=>?_⟩
   obtain⟨b1,b2⟩:=t3.1.back e1 e2
   have hz:=(t5.2 e1 e2).2.1
   simp only[Zj5]at e2 hz⊢
   exact Zkx hT (t2.2 b1 b2) (t3.2 e1 e2) ⟨trivial,rfl⟩ (.inr ⟨rfl,rfl⟩) (j:=(blk (Z1p T (Z02 s)).2).2.i) (by simp only[sizeSL];omega) e2
 · have t1:=Ze4 hT s
   have t2:=t1.1.need (w:=[59]) rfl
   refine⟨Fit.to (z':=Z1O (Z1m T s).1) t2 (by omega) ?_ rfl,λe1 e2=>?_⟩
   · show 0+1=Zn0 (Z1m T s).1
     obtain⟨h1,h2⟩:=t1.2.1
     generalize (Z1m T s).1=x at h1 h2
     obtain⟨k,n,l,o,x,t,e⟩:=x
     simp only[St.kind]at h1 h2
     simp only[Zn0]
     rw[if_neg (by simp[h1,h2])]
   · obtain⟨a1,a2⟩:=(Z0w (T:=T) (Z1m T s).2 (w:=[59]) rfl).back e1 e2
     exact t1.2.2 a1 a2
theorem Z5I{T:List Tq}(hT:TqW T):∀(d:Nat)(s:Ps),T.length<=s.i+d->ZiK T s (Z57 T d s).1 (Z57 T d s).2
 |0,s,h=>⟨⟨Y02 _,λ_ h2=>absurd h2 (by show ¬s.i<_;omega)⟩,λ_ h2=>absurd h2 (by show ¬s.i<_;omega)⟩
 |d+1,s,h=>ZdY hT s (λt ht=>Zdo (i0:=s.i+1) (λu hu=>Z5I hT d u (by omega)) t ht) (λt ht=>Z5I hT d t (by omega))
theorem ZdW{T:List Tq}(hT:TqW T)(s:Ps):ZiK T s (Zgr T s).1 (Zgr T s).2:=Z5I hT T.length s (by omega)
theorem ZeX{T:List Tq}(hT:TqW T)(s:Ps):ZdI T s (Z7d T s).1 (Z7d T s).2:=Zdo (i0:=0) (λu _=>ZdW hT u) s (Y05 _)
end
section
def dOK(d:Dc):Prop:=(Z38 d.name=true/\d.name.length<=9223372036854775807)/\0<=d.val
theorem Zdk{T:List Tq}(hT:TqW T)(pl:Bool)(s:Ps):Fit T s 1 0 0 (Z4a T pl s).2/\((Z4a T pl s).2.err=0->(Z4a T pl s).2.i<T.length->dOK (Z4a T pl s).1):=by
 have t1:=Z5D (T:=T) s
 unfold Z4a
 split
 · rename_i h1
   have t2:=Z1s h1 (by decide) (by decide) (by decide)
   have he:(Z0a T s).err=0:=by
    unfold isF at h1
    simp only[Y04,beq_iff_eq]at h1
    exact h1.1
   split
   · rename_i h2
     have t3:Fit T (Z02 (Z0a T s)) 1 0 0 (Z02 (Z02 (Z0a T s))):=Fit.atom he (.inr h2) rfl
     exact⟨((t1.trans t2).trans t3).to (by omega) rfl rfl,λ_ _=>⟨Z9O hT he,Zgm hT (Z5b ▸ h2)⟩⟩
   ·exact⟨Fit.fail (Y01 t1.1 t2.1) (by decide),λh=>absurd h (Z0E (by decide))⟩
 ·exact⟨t1,λe1 _=>⟨Z9O hT e1,Y0h _⟩⟩
theorem ZaI{T:List Tq}(hT:TqW T)(pl:Bool):∀(k:Nat)(s:Ps),Fit T s (Z3E T pl k s).1.length 0 0 (Z3E T pl k s).2/\((Z3E T pl k s).2.err=0->(Z3E T pl k s).2.i<T.length->∀d∈(Z3E T pl k s).1,dOK d)
 |0,s=>⟨Fit.refl s,λ_ _ d hd=>by cases hd⟩
 |k+1,s=>by
  obtain⟨t1,v1⟩:=Zdk hT pl s
  unfold Z3E
  split
  · rename_i h1
    have t2:=Z1s h1 (by decide) (by decide) (by decide)
    obtain⟨t3,v3⟩:=ZaI hT pl k (Z02 (Z4a T pl s).2)
    refine⟨Fit.to ((t1.trans t2).trans t3) (by simp only[Y0a];omega) rfl rfl,λe1 e2 d hd=>?_⟩
    obtain⟨a1,a2⟩:=t3.back e1 e2
    obtain⟨b1,b2⟩:=t2.back a1 a2
    rcases List.mem_cons.1 hd with rfl|hd
    ·exact v1 b1 b2
    ·exact v3 e1 e2 d hd
  ·exact⟨t1,λe1 e2 d hd=>by rw[List.mem_singleton.1 hd];exact v1 e1 e2⟩
theorem ZeP{T:List Tq}(hT:TqW T)(pl:Bool)(s:Ps):Fit T s (Z0N T pl s).1.length 1 0 (Z0N T pl s).2/\((Z0N T pl s).2.err=0->(Z0N T pl s).2.i<T.length->∀d∈(Z0N T pl s).1,dOK d):=by
 obtain⟨t1,v1⟩:=ZaI hT pl (T.length+1) s
 have t2:=Z0w (T:=T) (Z3E T pl (T.length+1) s).2 (w:=[59]) rfl
 refine⟨Fit.to (z':=(Z3E T pl (T.length+1) s).1.length) (t1.trans t2) (by omega) rfl rfl,λe1 e2=>?_⟩
 obtain⟨a1,a2⟩:=t2.back e1 e2
 exact v1 a1 a2
theorem Z7v{T:List Tq}{s:Ps}{w:List UInt8}(h:isF T s w=true)(hw:Zfi w=1/\ZgI w=0/\ZeW w=0):mU T (s.i+1)=mU T s.i/\bU T (s.i+1)=bU T s.i/\tU T (s.i+1)=tU T s.i+1:=by
 unfold isF at h
 simp only[Y04,beq_iff_eq]at h
 obtain⟨h2,h3,h4⟩:=h
 rw[Z5b]at h3 h4
 have h5:Zfm T s.i=true:=h3
 simp only[mU,bU,tU,h5,if_true,h4,hw.1,hw.2.1,hw.2.2]
 simp
def Zo4(T:List Tq)(i:Nat):Prop:=Zfm T i=true/\((Z51 T i).text=[59]\/(Z51 T i).text=[125])
theorem Zac{T:List Tq}{s:Ps}{w:List UInt8}(h:(Z03 T s w).err=0):isF T s w=true/\(Z03 T s w).i=s.i+1:=by
 unfold Z03 at h⊢
 split at h
 · rename_i h1
   rw[if_pos h1]
   unfold Z0F at h1
   simp only[Y04,Y0l]at h1
   refine⟨h1.1,?_⟩
   unfold Z0c
   rw[if_pos h1.1,if_neg (by rintro⟨a,b⟩;have:=h1.2;simp[a,b]at this)]
 ·exact absurd h (Z0E (by decide))
theorem Z9r{T:List Tq}{s:Ps}{w:List UInt8}(h:(Z03 T s w).err=0)(hw:w=[59]\/w=[125]):0<(Z03 T s w).i/\Zo4 T ((Z03 T s w).i-1):=by
 obtain⟨h1,h2⟩:=Zac h
 unfold isF at h1
 simp only[Y04,beq_iff_eq]at h1
 obtain⟨-,h3,h4⟩:=h1
 rw[Z5b]at h3 h4
 rw[h2]
 exact⟨Nat.succ_pos _,h3,by rw[Nat.add_sub_cancel,h4];exact hw⟩
def Zfn:List (List St)->Nat
 |[]=>0
 |t::l=>semSL t+Zfn l
theorem Z9j:∀(l:List (List St))(t:List St),Zfn (l++[t])=Zfn l+semSL t
 |[],t=>by simp[Zfn]
 |a::l,t=>by simp only[Y0k,Zfn,Z9j l t];omega
theorem Z89:∀(l:List (List St))(t:List St),Z0v (l++[t])=Z0v l+sizeSL t
 |[],t=>by simp[Z0v]
 |a::l,t=>by simp only[Y0k,Z0v,Z89 l t];omega
def tOK(T:List Tq)(t:List St):Prop:=(okSL t/\rightSL t=true)/\t.length<=T.length
structure PrF (T:List Tq) (ds:List Dc) (ts:List (List St)) (s:Ps):Prop where
 size:Z0v ts+(ds.length+ts.length)<=s.i
 dok:∀d∈ds,dOK d
 tok:∀t∈ts,tOK T t
 sem:mU T s.i+ts.length=Zfn ts+tU T s.i
 brc:bU T s.i=0
 last:0<s.i->Zo4 T (s.i-1)
 at0:s.at_=0
 op0:s.op=0
def PrW(T:List Tq)(ds:List Dc)(ts:List (List St))(s:Ps):Prop:=s.err=0->s.i<T.length->PrF T ds ts s
theorem Z5T{T:List Tq}(hT:TqW T):∀(k:Nat)(ds:List Dc)(ts:List (List St))(s:Ps),PrW T ds ts s->PrW T (Z1o T k ds ts s).1.1 (Z1o T k ds ts s).1.2 (Z1o T k ds ts s).2
 |0,ds,ts,s,h=>h
 |k+1,ds,ts,s,h=>by
  unfold Z1o
  split
  · rename_i hs
    have decl:∀(pl:Bool)(w:List UInt8),isF T s w=true->Zfi w=1/\ZgI w=0/\ZeW w=0->PrW T (ds++(Z0N T pl (Z02 s)).1) ts (Z0N T pl (Z02 s)).2:=by
     intro pl w hw hw2 e1 e2
     obtain⟨u1,u2,u3⟩:=Z7v hw hw2
     obtain⟨t1,v1⟩:=ZeP hT pl (Z02 s)
     obtain⟨-,a2,a3,a4,a5,a6,a7⟩:=t1.2 e1 e2
     have hi:(Z02 s).i=s.i+1:=rfl
     rw[hi]at a2 a3 a4 a5
     have p:=h hs.1 (by omega)
     have hl:=Z9r (T:=T) (s:=(Z3E T pl (T.length+1) (Z02 s)).2) (w:=[59]) e1 (.inl rfl)
     refine⟨?_,?_,p.tok,?_,?_,λ_=>hl.2,a6.trans p.at0,a7.trans (by show s.op+0=0;rw[p.op0];rfl)⟩
     ·have:=p.size;rw[Y0e];omega
     · intro d hd
       rcases Y0u.1 hd with hd|hd
       ·exact p.dok d hd
       ·exact v1 e1 e2 d hd
     ·have:=p.sem;omega
     ·have:=p.brc;omega
    split
    · rename_i h1
      exact Z5T hT k _ _ _ (decl false _ h1 (by decide))
    split
    · rename_i h1
      exact Z5T hT k _ _ _ (decl true _ h1 (by decide))
    split
    · rename_i h1
      refine Z5T hT k _ _ _ λe1 e2=>?_
      obtain⟨u1,u2,u3⟩:=Z7v h1 (by decide)
      obtain⟨t1,v1⟩:=ZeX hT (Z02 s)
      obtain⟨-,a2,a3,a4,a5,a6,a7⟩:=t1.2 e1 e2
      have hi:(Z02 s).i=s.i+1:=rfl
      rw[hi]at a2 a3 a4 a5
      have p:=h hs.1 (by omega)
      have hl:=Z9r (T:=T) (s:=(Z2L T (Zgr T) [125] (T.length+1) (Z03 T (Z02 s) [123])).2) (w:=[125]) e1 (.inr rfl)
      have l1:=Z4S (Z7d T (Z02 s)).1
      refine⟨?_,p.dok,?_,?_,?_,λ_=>hl.2,a6.trans p.at0,a7.trans (by show s.op+0=0;rw[p.op0];rfl)⟩
      ·have:=p.size;rw[Z89,Y0e];simp only[List.length_singleton];omega
      · intro t ht
        rcases Y0u.1 ht with ht|ht
        ·exact p.tok t ht
        ·rw[List.mem_singleton.1 ht];exact⟨v1 e1 e2,by omega⟩
      ·have:=p.sem;rw[Z9j,Y0e];simp only[List.length_singleton];omega
      ·have:=p.brc;omega
    ·exact Z5T hT k _ _ _ λe1=>absurd e1 (Z0E (by decide))
  ·exact h
theorem Zeg{T:List Tq}(hT:TqW T)(k:Nat):PrW T (Z1o T k [] [] ⟨0,0,0,0⟩).1.1 (Z1o T k [] [] ⟨0,0,0,0⟩).1.2 (Z1o T k [] [] ⟨0,0,0,0⟩).2 :=
 Z5T hT k [] [] ⟨0,0,0,0⟩ λ_ _=>⟨Y02 _,(λd hd=>by cases hd),(λt ht=>by cases ht),rfl,rfl,λh=>absurd h (Nat.lt_irrefl _),rfl,rfl⟩
end
section
structure Agr (T T':List Tq) (k j:Nat):Prop where
 at_:∀i,i<=j->(Z51 T' (i+k)).kind=(Z51 T i).kind/\(Z51 T' (i+k)).text=(Z51 T i).text/\(Z51 T' (i+k)).num=(Z51 T i).num
 lt:j+1<T.length
 lt':j+1+k<T'.length
def sh(k:Nat)(s:Ps):Ps:={ s with i:=s.i+k }
theorem Zfl(k:Nat)(s:Ps)(op:Int):sh k { s with i:=s.i+1,op:=op }={ sh k s with i:=(sh k s).i+1,op:=op }:=by
 unfold sh
 simp only[Nat.add_right_comm s.i k 1]
def Bk(T:List Tq)(s s':Ps):Prop:=s.i<=s'.i/\(s'.err=0->s'.i<T.length->s.err=0)
theorem Fit.bk{T:List Tq}{s s':Ps}{z c:Nat}{b:Int}(h:Fit T s z c b s'):Bk T s s':=⟨h.1,λh1 h2=>(h.2 h1 h2).1⟩
theorem Bk.refl{T:List Tq}(s:Ps):Bk T s s:=⟨Y02 _,λh _=>h⟩
theorem Bk.trans{T:List Tq}{a b c:Ps}(h:Bk T a b)(g:Bk T b c):Bk T a c:=⟨Y01 h.1 g.1,λh1 h2=>h.2 (g.2 h1 h2) (Y0C g.1 h2)⟩
section
variable {T T':List Tq} {k j:Nat} (hA:Agr T T' k j)
include hA
theorem Agr.now{s:Ps}(h:s.i<=j):(Z0o T' (sh k s)).kind=(Z0o T s).kind/\(Z0o T' (sh k s)).text=(Z0o T s).text/\(Z0o T' (sh k s)).num=(Z0o T s).num:=hA.at_ s.i h
theorem Agr.is{s:Ps}(h:s.i<=j)(w:List UInt8):isF T' (sh k s) w=isF T s w:=by
 obtain⟨h1,h2,h3⟩:=hA.now h
 unfold isF
 rw[h1,h2]
 rfl
theorem Agr.tb{s:Ps}(h:s.i<=j)(w:List UInt8):Z0F T' (sh k s) w=Z0F T s w:=by
 unfold Z0F
 rw[hA.is h]
 rfl
theorem Agr.tf{s:Ps}(h:s.i<=j){w:List UInt8}(he:(Z0c T s w).err=0):Z0c T' (sh k s) w=sh k (Z0c T s w):=by
 unfold Z0c at he⊢
 rw[hA.is h]
 split
 · rename_i h1
   rw[if_pos h1]at he
   split at he
   ·exact absurd he (Z0E (by decide))
   · rename_i h2
     rw[if_neg h2,if_neg (show ¬(upB w=true/\(sh k s).op=200) from h2)]
     exact (Zfl k s _).symm
 ·rfl
theorem Agr.need{s:Ps}(h:s.i<=j){w:List UInt8}(he:(Z03 T s w).err=0):Z03 T' (sh k s) w=sh k (Z03 T s w):=by
 unfold Z03 at he⊢
 rw[hA.tb h]
 split
 · rename_i h1
   rw[if_pos h1]at he
   exact hA.tf h he
 · rename_i h1
   rw[if_neg h1]at he
   exact absurd he (Z0E (by decide))
theorem Agr.wb{s:Ps}(h:s.i<=j):Z1j T' (sh k s)=Z1j T s:=by
 unfold Z1j
 rw[(hA.now h).1]
 rfl
theorem Agr.word{s:Ps}(h:s.i<=j)(he:(Z0a T s).err=0):Z0a T' (sh k s)=sh k (Z0a T s)/\Z0R T' (sh k s)=Z0R T s:=by
 unfold Z0a at he⊢
 unfold Z0R
 rw[hA.wb h]
 split
 ·exact⟨(Zfl k s s.op).symm,(hA.now h).2.1⟩
 · rename_i h1
   rw[if_neg h1]at he
   exact absurd he (Z0E (by decide))
theorem Agr.ord:∀(l:List (List UInt8))(s:Ps)(n:Int),(Z08 T s l n).2.err=0->(Z08 T s l n).2.i<=j->Z08 T' (sh k s) l n=((Z08 T s l n).1,sh k (Z08 T s l n).2)
 |[],s,n,he,hi=>absurd he (Z0E (by decide))
 |w::l,s,n,he,hi=>by
  have hb:Bk T s (Z08 T s (w::l) n).2:=by
   have:∀(l:List (List UInt8))(s:Ps)(n:Int),Bk T s (Z08 T s l n).2:=by
    intro l
    induction l with
    |nil=>exact λs n=>⟨by show s.i<=(Z0r s 5 _).i;rw[Zav];exact Y02 _,λh=>absurd h (Z0E (by decide))⟩
    |cons w l ih =>
     intro s n
     unfold Z08
     split
     · rename_i h1
       refine⟨Z4E,λ_ _=>?_⟩
       unfold Z0F isF at h1
       simp only[Y04,beq_iff_eq]at h1
       exact h1.1.1
     · rename_i h1
       exact (Z84 (T:=T) (by simpa using h1)).bk.trans (ih _ _)
   exact this _ _ _
  have hj:s.i<=j:=Y01 hb.1 hi
  unfold Z08 at he hi⊢
  rw[hA.tb hj]
  split
  · rename_i h1
    rw[if_pos h1]at he
    rw[hA.tf hj he]
  · rename_i h1
    rw[if_neg h1]at he hi
    have ht:(Z0c T s w).err=0:=by
     obtain⟨e1,e2⟩:Bk T (Z0c T s w) (Z08 T (Z0c T s w) l (n+1)).2:=by
      have:∀(l:List (List UInt8))(s:Ps)(n:Int),Bk T s (Z08 T s l n).2:=by
       intro l
       induction l with
       |nil=>exact λs n=>⟨by show s.i<=(Z0r s 5 _).i;rw[Zav];exact Y02 _,λh=>absurd h (Z0E (by decide))⟩
       |cons w l ih =>
        intro s n
        unfold Z08
        split
        · rename_i h1
          refine⟨Z4E,λ_ _=>?_⟩
          unfold Z0F isF at h1
          simp only[Y04,beq_iff_eq]at h1
          exact h1.1.1
        · rename_i h1
          exact (Z84 (T:=T) (by simpa using h1)).bk.trans (ih _ _)
      exact this _ _ _
     exact e2 he (by have:=hA.lt;omega)
    rw[hA.tf hj ht]
    exact Agr.ord l _ _ he hi
end
theorem Z5n{T:List Tq}{i0:Nat}{rec1:Ps->Ex×Ps}(hrec:∀s,i0<=s.i->Bk T s (rec1 s).2):∀(l:List (List UInt8×Int))(x:Ex)(s:Ps)(a:Bool),i0<=s.i->Bk T s (Z10 T rec1 l x s a).2.1/\(a=false->(Z10 T rec1 l x s a).2.2=true->s.i<(Z10 T rec1 l x s a).2.1.i)
 |[],x,s,a,h=>⟨Bk.refl s,λh1 h2=>by rw[show (Z10 T rec1 [] x s a).2.2=a from rfl,h1]at h2;cases h2⟩
 |(w,o)::l,x,s,a,h=>by
  unfold Z10
  split
  · rename_i ht
    have h0:s.i<(Z0c T s w).i:=by
     have h1:=ht
     unfold Z0F at h1
     simp only[Y04,Y0l]at h1
     unfold Z0c
     rw[if_pos h1.1,if_neg (by rintro⟨a,b⟩;have:=h1.2;simp[a,b]at this)]
     exact Y0w _
    have hb:Bk T s (Z0c T s w):=⟨Nat.le_of_lt h0,λ_ _=>by
     unfold Z0F isF at ht
     simp only[Y04,beq_iff_eq]at ht
     exact ht.1.1⟩
    have h2:=hrec (Z0c T s w) (by omega)
    have h3:=(Z5n hrec l (.mk o 0 [] [x,(rec1 (Z0c T s w)).1]) (rec1 (Z0c T s w)).2 true (by have:=h2.1;omega)).1
    exact⟨(hb.trans h2).trans h3,λ_ _=>Y0y h0 (h2.trans h3).1⟩
  · rename_i ht
    have hb:=(Z84 (T:=T) (s:=s) (w:=w) (by simpa using ht)).bk
    have h3:=Z5n hrec l x (Z0c T s w) a (Y01 h hb.1)
    exact⟨hb.trans h3.1,λh1 h2=>Y0C hb.1 (h3.2 h1 h2)⟩
theorem Z8q{T:List Tq}{i0:Nat}{rec1:Ps->Ex×Ps}(hrec:∀s,i0<=s.i->Bk T s (rec1 s).2)(l:List (List UInt8×Int)):∀(n:Nat)(x:Ex)(s:Ps),i0<=s.i->Bk T s (Z1F T rec1 l n x s).2
 |0,x,s,h=>Bk.refl s
 |n+1,x,s,h=>by
  unfold Z1F
  have h1:=(Z5n hrec l x s false h).1
  split
  ·exact h1.trans (Z8q hrec l n _ _ (Y01 h h1.1))
  ·exact h1
def ZmV(k j i0:Nat)(F F':Ps->Ex×Ps):Prop:=∀s,i0<=s.i->(F s).2.err=0->(F s).2.i<=j->F' (sh k s)=((F s).1,sh k (F s).2)
section
variable {T T':List Tq} {k j:Nat} (hA:Agr T T' k j)
include hA
theorem Z7F {i0 : Nat} {rec1 rec2 : Ps -> Ex × Ps} (hrec : ZmV k j i0 rec1 rec2) (hbk : ∀ s, i0 <= s.i -> Bk T s (rec1 s).2) : ∀ (l : List (List UInt8 × Int)) (x : Ex) (s : Ps) (a : Bool), i0 <= s.i ->
  (Z10 T rec1 l x s a).2.1.err=0->(Z10 T rec1 l x s a).2.1.i<=j->Z10 T' rec2 l x (sh k s) a=((Z10 T rec1 l x s a).1,sh k (Z10 T rec1 l x s a).2.1,(Z10 T rec1 l x s a).2.2)
 |[],x,s,a,h,he,hi=>rfl
 |(w,o)::l,x,s,a,h,he,hi=>by
  have hlt:=hA.lt
  have hj:s.i<=j:=Y01 (Z5n hbk ((w,o)::l) x s a h).1.1 hi
  unfold Z10 at he hi⊢
  rw[hA.tb hj]
  split
  · rename_i ht
    rw[if_pos ht]at he hi
    have h1:i0<=(Z0c T s w).i:=Y01 h Z4E
    have h2:=hbk (Z0c T s w) h1
    have h3:=(Z5n hbk l (.mk o 0 [] [x,(rec1 (Z0c T s w)).1]) (rec1 (Z0c T s w)).2 true (Y01 h1 h2.1)).1
    have e1:=h3.2 he (by omega)
    have i1:=Y01 h3.1 hi
    have e2:=h2.2 e1 (by omega)
    rw[hA.tf hj e2,hrec _ h1 e1 i1]
    exact Z7F hrec hbk l _ _ _ (Y01 h1 h2.1) he hi
  · rename_i ht
    rw[if_neg ht]at he hi
    have h1:i0<=(Z0c T s w).i:=Y01 h Z4E
    have h3:=(Z5n hbk l x (Z0c T s w) a h1).1
    rw[hA.tf hj (h3.2 he (by omega))]
    exact Z7F hrec hbk l _ _ _ h1 he hi
theorem Zeo {i0 : Nat} {rec1 rec2 : Ps -> Ex × Ps} (hrec : ZmV k j i0 rec1 rec2) (hbk : ∀ s, i0 <= s.i -> Bk T s (rec1 s).2) (l : List (List UInt8 × Int)) : ∀ (n m : Nat) (x : Ex) (s : Ps), i0 <= s.i -> T.length <= s.i + n -> T'.length <= s.i + k + m ->
  (Z1F T rec1 l n x s).2.err=0->(Z1F T rec1 l n x s).2.i<=j->Z1F T' rec2 l m x (sh k s)=((Z1F T rec1 l n x s).1,sh k (Z1F T rec1 l n x s).2)
 |0,m,x,s,h,hn,hm,he,hi=>by
  have:s.i<=j:=hi
  have:=hA.lt
  omega
 |n+1,0,x,s,h,hn,hm,he,hi=>by
  have:=Y01 (Z8q hbk l (n+1) x s h).1 hi
  have:=hA.lt'
  omega
 |n+1,m+1,x,s,h,hn,hm,he,hi=>by
  have hlt:=hA.lt
  have hb:=Z5n hbk l x s false h
  unfold Z1F at he hi⊢
  by_cases hf:(Z10 T rec1 l x s false).2.2=true
  · rw[if_pos hf]at he hi⊢
    have h2:=Z8q hbk l n (Z10 T rec1 l x s false).1 (Z10 T rec1 l x s false).2.1 (Y01 h hb.1.1)
    have h3:=hb.2 rfl hf
    rw[Z7F hA hrec hbk l x s false h (h2.2 he (by omega)) (Y01 h2.1 hi)]
    rw[if_pos hf]
    exact Zeo hrec hbk l n m _ _ (Y01 h hb.1.1) (by omega) (by omega) he hi
  · rw[if_neg hf]at he hi⊢
    rw[Z7F hA hrec hbk l x s false h he hi]
    rw[if_neg hf]
theorem Z9I{T:List Tq}{i0:Nat}{un:Ps->Ex×Ps}(hun:∀s,i0<=s.i->Bk T s (un s).2):∀(m:Nat)(s:Ps),i0<=s.i->Bk T s (Z2P T un m s).2
 |0,s,h=>hun s h
 |m+1,s,h=>by
  unfold Z2P
  have h1:=Z9I hun m s h
  exact h1.trans (Z8q (λt ht=>Z9I hun m t ht) _ _ _ _ (Y01 h h1.1))
theorem ZaL{i0:Nat}{un un2:Ps->Ex×Ps}(hun:ZmV k j i0 un un2)(hbk:∀s,i0<=s.i->Bk T s (un s).2):∀(m:Nat),ZmV k j i0 (Z2P T un m) (Z2P T' un2 m)
 |0=>hun
 |m+1=>λs h he hi=>by
  have hlt:=hA.lt
  unfold Z2P at he hi⊢
  have h1:=Z9I hA hbk m s h
  have h2:=Z8q (λt ht=>Z9I hA hbk m t ht) (lvS (8-m)) (T.length+1) (Z2P T un m s).1 (Z2P T un m s).2 (Y01 h h1.1)
  rw[ZaL hun hbk m s h (h2.2 he (by omega)) (Y01 h2.1 hi)]
  exact Zeo hA (ZaL hun hbk m) (λt ht=>Z9I hA hbk m t ht) _ _ _ _ _ (Y01 h h1.1) (by omega) (by omega) he hi
theorem Zkq{ex ex2:Ps->Ex×Ps}{s:Ps}(hex:Z0F T s [40]=true->ZmV k j (s.i+1) ex ex2)(hbk:Z0F T s [40]=true->∀t,s.i+1<=t.i->Bk T t (ex t).2)(he:(Z19 T ex s).2.err=0)(hi:(Z19 T ex s).2.i<=j)(hj:s.i<=j):Z19 T' ex2 (sh k s)=((Z19 T ex s).1,sh k (Z19 T ex s).2):=by
 have hlt:=hA.lt
 obtain⟨n1,n2,n3⟩:=hA.now hj
 unfold Z19 at he hi⊢
 rw[n1,n2,n3,hA.tb hj]
 by_cases c1:s.err≠0
 ·rw[if_pos c1]at he;exact absurd he c1
 rw[if_neg c1]at he hi⊢
 rw[if_neg (show ¬(sh k s).err≠0 from c1)]
 split
 ·exact congrArg (Prod.mk _) (Zfl k s s.op).symm
 rename_i c2
 rw[if_neg c2]at he hi
 split
 ·exact congrArg (Prod.mk _) (Zfl k s s.op).symm
 rename_i c3
 rw[if_neg c3]at he hi
 split
 · rename_i c4
   rw[if_pos c4]at he hi
   have ht:s.i+1=(Z0c T s [40]).i:=by
    have h1:=c4
    unfold Z0F at h1
    simp only[Y04,Y0l]at h1
    unfold Z0c
    rw[if_pos h1.1,if_neg (by rintro⟨a,b⟩;have:=h1.2;simp[a,b]at this)]
   have h2:=hbk c4 (Z0c T s [40]) (by omega)
   have h3:=(Z0w (T:=T) (ex (Z0c T s [40])).2 (w:=[41]) rfl).bk
   simp only at he hi
   have e1:=h3.2 he (by omega)
   have i1:=Y01 h3.1 hi
   rw[hA.tf hj (h2.2 e1 (by omega)),hex c4 _ (by omega) e1 i1]
   exact congrArg (Prod.mk _) (hA.need i1 he)
 · rename_i c4
   rw[if_neg c4]at he
   exact absurd he (Z0E (by decide))
theorem Zky(hT:TqW T):∀(d d':Nat)(s:Ps),T.length<=s.i+d->T'.length<=s.i+k+d'->(unF T d s).2.err=0->(unF T d s).2.i<=j->unF T' d' (sh k s)=((unF T d s).1,sh k (unF T d s).2)
 |0,d',s,h,h',he,hi=>by
  have:s.i<=j:=hi
  have:=hA.lt
  omega
 |d+1,0,s,h,h',he,hi=>by
  have:=Y01 (Z7W hT (d+1) s h).1.1 hi
  have:=hA.lt'
  omega
 |d+1,d'+1,s,h,h',he,hi=>by
  have hj:s.i<=j:=Y01 (Z7W hT (d+1) s h).1.1 hi
  have hbk:∀t,s.i+1<=t.i->Bk T t (unF T d t).2:=λt ht=>(Z7W hT d t (by omega)).1.bk
  have hsim:ZmV k j (s.i+1) (unF T d) (unF T' d'):=λt ht e1 e2=>Zky hT d d' t (by omega) (by omega) e1 e2
  unfold unF at he hi⊢
  rw[hA.is hj,hA.is hj]
  split
  · rename_i c1
    rw[if_pos c1]at he hi
    exact Zkq hA (λ_=>ZaL hA hsim hbk 9) (λ_ t ht=>Z9I hA hbk 9 t ht) he hi hj
  rename_i c1
  rw[if_neg c1]at he hi
  by_cases c2:s.op=200
  ·rw[if_pos c2]at he;exact absurd he (Z0E (by decide))
  rw[if_neg c2]at he hi⊢
  rw[if_neg (show ¬(sh k s).op=200 from c2)]
  have e:=hsim { s with i:=s.i+1,op:=s.op+1 } (Y02 _) he hi
  rw[Zfl]at e
  have e':unF T' d' { sh k s with i:=(sh k s).i+1,op:=(sh k s).op+1 }=_:=e
  rw[e']
  rfl
theorem Zaz(hT:TqW T):ZmV k j 0 (Z0X T) (Z0X T'):=ZaL hA (λt _ e1 e2=>Zky hA hT T.length T'.length t (by omega) (by omega) e1 e2) (λt _=>(Z7W hT T.length t (by omega)).1.bk) 9
end
end
section
def Zf8{α : Type}(k j i0:Nat)(F F':Ps -> α×Ps):Prop:=∀s,i0<=s.i->(F s).2.err=0->(F s).2.i<=j->F' (sh k s)=((F s).1,sh k (F s).2)
theorem Z2w(k:Nat)(s:Ps):Z02 (sh k s)=sh k (Z02 s):=(Zfl k s s.op).symm
section
variable {T T':List Tq} {k j:Nat} (hA:Agr T T' k j) (hT:TqW T)
include hA hT
theorem Zdn{s:Ps}(he:(Z1p T s).2.err=0)(hi:(Z1p T s).2.i<=j):Z1p T' (sh k s)=((Z1p T s).1,sh k (Z1p T s).2):=by
 have hlt:=hA.lt
 have t1:=(Z0w (T:=T) s (w:=[40]) rfl).bk
 have t2:=(Z6a hT (Z03 T s [40])).1.bk
 have t3:=(Z0w (T:=T) (Z0X T (Z03 T s [40])).2 (w:=[41]) rfl).bk
 unfold Z1p at he hi⊢
 simp only at he hi
 have e1:=t3.2 he (by omega)
 have i1:=Y01 t3.1 hi
 have e2:=t2.2 e1 (by omega)
 have i2:=Y01 t2.1 i1
 have i3:=Y01 t1.1 i2
 rw[hA.need i3 e2,Zaz hA hT _ (Y05 _) e1 i1]
 exact congrArg (Prod.mk _) (hA.need i1 he)
theorem ZhR:∀(n:Nat),Zf8 k j 0 (Z3D T n) (Z3D T' n)
 |0=>λs _ _ _=>rfl
 |n+1=>λs _ he hi=>by
  have hlt:=hA.lt
  have t1:=(Z0w (T:=T) s (w:=[44]) rfl).bk
  have t2:=(Z6a hT (Z03 T s [44])).1.bk
  have t3:=(Zax hT n (Z0X T (Z03 T s [44])).2).1.bk
  unfold Z3D at he hi⊢
  simp only at he hi
  have e1:=t3.2 he (by omega)
  have i1:=Y01 t3.1 hi
  have e2:=t2.2 e1 (by omega)
  have i2:=Y01 t2.1 i1
  have i3:=Y01 t1.1 i2
  rw[hA.need i3 e2,Zaz hA hT _ (Y05 _) e1 i1]
  simp only
  rw[ZhR n _ (Y05 _) he hi]
theorem Z8U(nm:List UInt8)(kd:Int)(n:Nat):Zf8 k j 0 (Z2j T nm kd n) (Z2j T' nm kd n):=λs _ he hi=>by
 have hlt:=hA.lt
 have t1:=(Z0w (T:=T) s (w:=[40]) rfl).bk
 have t2:=(Z5D (T:=T) (Z03 T s [40])).bk
 have t3:=(Zax hT n (Z0a T (Z03 T s [40]))).1.bk
 have t4:=(Z0w (T:=T) (Z3D T n (Z0a T (Z03 T s [40]))).2 (w:=[44]) rfl).bk
 have t5:=(Z5X (T:=T) (Z03 T (Z3D T n (Z0a T (Z03 T s [40]))).2 [44])).1.bk
 have t6:=(Z0w (T:=T) (Z08 T (Z03 T (Z3D T n (Z0a T (Z03 T s [40]))).2 [44]) ordL 1).2 (w:=[41]) rfl).bk
 simp only[Z2j]at he hi⊢
 have e1:=t6.2 he (by omega)
 have i1:=Y01 t6.1 hi
 have e2:=t5.2 e1 (by omega)
 have i2:=Y01 t5.1 i1
 have e3:=t4.2 e2 (by omega)
 have i3:=Y01 t4.1 i2
 have e4:=t3.2 e3 (by omega)
 have i4:=Y01 t3.1 i3
 have e5:=t2.2 e4 (by omega)
 have i5:=Y01 t2.1 i4
 have i6:=Y01 t1.1 i5
 rw[hA.need i6 e5]
 obtain⟨w1,w2⟩:=hA.word i5 e4
 rw[w1,w2,ZhR hA hT n _ (Y05 _) e3 i3]
 simp only
 rw[hA.need i3 e2,hA.ord _ _ _ e1 i1]
 simp only
 rw[hA.need i1 he]
theorem Zmj:Zf8 k j 0 (Zb1 T) (Zb1 T'):=λs _ he hi=>by
 have hlt:=hA.lt
 have t1:=(Z0w (T:=T) s (w:=[40]) rfl).bk
 have t2:=(Z5X (T:=T) (Z03 T s [40])).1.bk
 have t3:=(Z0w (T:=T) (Z08 T (Z03 T s [40]) ordL 1).2 (w:=[41]) rfl).bk
 simp only[Zb1]at he hi⊢
 have e1:=t3.2 he (by omega)
 have i1:=Y01 t3.1 hi
 have e2:=t2.2 e1 (by omega)
 have i2:=Y01 t2.1 i1
 have i3:=Y01 t1.1 i2
 rw[hA.need i3 e2,hA.ord _ _ _ e1 i1]
 simp only
 rw[hA.need i1 he]
theorem Zil(kd:Int):Zf8 k j 0 (ZaJ T kd) (ZaJ T' kd):=λs _ he hi=>by
 simp only[ZaJ]at he hi⊢
 rw[Zdn hA hT he hi]
theorem Zlk(nm:List UInt8)(hn:nm.length<=9223372036854775807):Zf8 k j 0 (Z3j T nm) (Z3j T' nm):=λs _ he hi=>by
 have hj:s.i<=j:=Y01 (Z9T hT s hn).1.1 hi
 unfold Z3j at he hi⊢
 simp only[hA.is hj,Z2w]
 split
 ·rename_i c;rw[if_pos c]at he hi;exact Z8U hA hT _ _ _ _ (Y05 _) he hi
 rename_i c;rw[if_neg c]at he hi
 split
 ·rename_i c;rw[if_pos c]at he hi;exact Z8U hA hT _ _ _ _ (Y05 _) he hi
 rename_i c;rw[if_neg c]at he hi
 split
 ·rename_i c;rw[if_pos c]at he hi;exact Z8U hA hT _ _ _ _ (Y05 _) he hi
 rename_i c;rw[if_neg c]at he hi
 split
 ·rename_i c;rw[if_pos c]at he hi;exact Z8U hA hT _ _ _ _ (Y05 _) he hi
 rename_i c;rw[if_neg c]at he hi
 simp only at he hi
 rw[Zaz hA hT _ (Y05 _) he hi]
theorem Zjf:Zf8 k j 0 (Z1m T) (Z1m T'):=λs _ he hi=>by
 have hlt:=hA.lt
 have hj:s.i<=j:=Y01 (Ze4 hT s).1.1 hi
 unfold Z1m at he hi⊢
 simp only[hA.is hj,Z2w]
 split
 ·rename_i c;rw[if_pos c]at he hi;exact Z8U hA hT _ _ _ _ (Y05 _) he hi
 rename_i c;rw[if_neg c]at he hi
 split
 ·rename_i c;rw[if_pos c]at he hi;exact Zmj hA hT _ (Y05 _) he hi
 rename_i c;rw[if_neg c]at he hi
 split
 ·rename_i c;rw[if_pos c]at he hi;exact Zil hA hT _ _ (Y05 _) he hi
 rename_i c;rw[if_neg c]at he hi
 split
 ·rename_i c;rw[if_pos c]at he hi;exact Zil hA hT _ _ (Y05 _) he hi
 rename_i c;rw[if_neg c]at he hi
 have hw:(Z0R T s).length<=9223372036854775807:=by
  unfold Z0R
  split
  · rename_i h
    unfold Z1j at h
    simp only[Y04,beq_iff_eq]at h
    exact (Zcx hT h.2).2
  ·exact Y05 _
 have t1:=(Z5D (T:=T) s).bk
 have t2:=(Z0w (T:=T) (Z0a T s) (w:=[61]) rfl).bk
 have t3:=(Z9T hT (Z03 T (Z0a T s) [61]) hw).1.bk
 have e1:=t3.2 he (by omega)
 have i1:=Y01 t3.1 hi
 have e2:=t2.2 e1 (by omega)
 have i2:=Y01 t2.1 i1
 obtain⟨w1,w2⟩:=hA.word hj e2
 rw[w1,w2,hA.need i2 e1]
 exact Zlk hA hT _ hw _ (Y05 _) he hi
theorem Zgp {i0 : Nat} {stm stm2 : Ps -> St × Ps} (hs : Zf8 k j i0 stm stm2) (hf : ∀ s, i0 <= s.i -> ZiK T s (stm s).1 (stm s).2) (w : List UInt8) : ∀ (n m : Nat) (s : Ps), i0 <= s.i -> T.length <= s.i + n -> T'.length <= s.i + k + m ->
  (Z2L T stm w n s).2.err=0->(Z2L T stm w n s).2.i<=j->Z2L T' stm2 w m (sh k s)=((Z2L T stm w n s).1,sh k (Z2L T stm w n s).2)
 |0,m,s,h,hn,hm,he,hi=>by
  have:s.i<=j:=hi
  have:=hA.lt
  omega
 |n+1,0,s,h,hn,hm,he,hi=>by
  have:=Y01 (Z6t hf w (n+1) s h).1.1 hi
  have:=hA.lt'
  omega
 |n+1,m+1,s,h,hn,hm,he,hi=>by
  have hlt:=hA.lt
  have hj:s.i<=j:=Y01 (Z6t hf w (n+1) s h).1.1 hi
  obtain⟨n1,n2,n3⟩:=hA.now hj
  unfold Z2L at he hi⊢
  rw[hA.is hj,n1]
  have hx:(sh k s).err=s.err:=rfl
  rw[hx]
  split
  · rename_i c
    rw[if_pos c]at he hi
    simp only at he hi
    have f1:=hf s h
    have t1:=f1.1.bk
    have h2:=Y01 h t1.1
    have t2:=(Z6t hf w n (stm s).2 h2).1.bk
    have e1:=t2.2 he (by omega)
    have i1:=Y01 t2.1 hi
    have hz:1<=Z1O (stm s).1:=by cases (stm s).1;simp only[Z1O];omega
    have hp:=(f1.1.2 e1 (by omega)).2.1
    rw[hs s h e1 i1]
    simp only
    rw[Zgp hs hf w n m (stm s).2 h2 (by omega) (by omega) he hi]
  ·rfl
theorem Zii{i0:Nat}{stm stm2:Ps->St×Ps}(hs:Zf8 k j i0 stm stm2)(hf:∀s,i0<=s.i->ZiK T s (stm s).1 (stm s).2)(s:Ps)(h:i0<=s.i)(he:(Z7P T stm s).2.err=0)(hi:(Z7P T stm s).2.i<=j+1):Z7P T' stm2 (sh k s)=((Z7P T stm s).1,sh k (Z7P T stm s).2):=by
 have hlt:=hA.lt
 have t1:=(Z0w (T:=T) s (w:=[123]) rfl).bk
 have h1:=Y01 h t1.1
 have t2:=(Z6t hf [125] (T.length+1) (Z03 T s [123]) h1).1.bk
 have t3:=(Z0w (T:=T) (Z2L T stm [125] (T.length+1) (Z03 T s [123])).2 (w:=[125]) rfl).bk
 unfold Z7P at he hi⊢
 simp only at he hi
 obtain⟨-,g2⟩:=Zac he
 have e1:=t3.2 he (by omega)
 have i1:(Z2L T stm [125] (T.length+1) (Z03 T s [123])).2.i<=j:=by omega
 have e2:=t2.2 e1 (by omega)
 have i2:=Y01 t2.1 i1
 have i3:=Y01 t1.1 i2
 rw[hA.need i3 e2,Zgp hA hT hs hf [125] (T.length+1) (T'.length+1) _ h1 (by omega) (by omega) e1 i1]
 simp only
 rw[hA.need i1 he]
theorem Zmu{i0:Nat}{blk blk2:Ps->List St×Ps}{stm stm2:Ps->St×Ps}(hb:Zf8 k j i0 blk blk2)(hs:Zf8 k j i0 stm stm2){s:Ps}(h:i0<=s.i)(hj:(Z02 s).i<=j\/isF T s Z94=false/\s.i<=j)(he:(Z7p T blk stm s).2.err=0)(hi:(Z7p T blk stm s).2.i<=j):Z7p T' blk2 stm2 (sh k s)=((Z7p T blk stm s).1,sh k (Z7p T blk stm s).2):=by
 have hj0:s.i<=j:=by
  rcases hj with hj|⟨-,hj⟩
  ·exact Y01 (Y0f _) hj
  ·exact hj
 unfold Z7p at he hi⊢
 rw[hA.is hj0,Z2w]
 split
 · rename_i c
   rw[if_pos c]at he hi
   have hj1:(Z02 s).i<=j:=by
    rcases hj with hj|⟨hj,-⟩
    ·exact hj
    ·rw[hj]at c;cases c
   rw[hA.is hj1]
   have h1:i0<=(Z02 s).i:=Y01 h (Y0f _)
   split
   · rename_i c2
     rw[if_pos c2]at he hi
     simp only at he hi
     rw[hs _ h1 he hi]
   · rename_i c2
     rw[if_neg c2]at he hi
     exact hb _ h1 he hi
 ·rfl
theorem Zjc {blk blk2 : Ps -> List St × Ps} {stm stm2 : Ps -> St × Ps} (s : Ps) (hb : Zf8 k j (s.i + 1) blk blk2) (hs : Zf8 k j (s.i + 1) stm stm2) (fb : ∀ t, s.i + 1 <= t.i -> ZdI T t (blk t).1 (blk t).2) (fs : ∀ t, s.i + 1 <= t.i -> ZiK T t (stm t).1 (stm t).2)
  (he:(Z2M T blk stm s).2.err=0) (hi:(Z2M T blk stm s).2.i<=j):Z2M T' blk2 stm2 (sh k s)=((Z2M T blk stm s).1,sh k (Z2M T blk stm s).2):=by
 have hlt:=hA.lt
 have hj:s.i<=j:=Y01 (ZdY hT s fb fs).1.1 hi
 unfold Z2M at he hi⊢
 simp only[hA.is hj,Z2w]
 split
 · rename_i c
   rw[if_pos c]at he hi
   have t1:=(Z8O hT (Z02 s)).1.bk
   have h1:s.i+1<=(Z1p T (Z02 s)).2.i:=t1.1
   have t2:=(fb _ h1).1.bk
   have h2:=Y01 h1 t2.1
   have t3:=(Zi0 fb fs (blk (Z1p T (Z02 s)).2).2 h2).1.bk
   simp only[ZbD]at he hi⊢
   have e1:=t3.2 he (by omega)
   have i1:=Y01 t3.1 hi
   have e2:=t2.2 e1 (by omega)
   have i2:=Y01 t2.1 i1
   have hx:(Z02 (blk (Z1p T (Z02 s)).2).2).i<=j\/isF T (blk (Z1p T (Z02 s)).2).2 Z94=false/\(blk (Z1p T (Z02 s)).2).2.i<=j:=by
    cases hq:isF T (blk (Z1p T (Z02 s)).2).2 Z94 with
    |false=>exact .inr ⟨rfl,i1⟩
    |true =>
     left
     have h3:s.i+1<=(Z02 (blk (Z1p T (Z02 s)).2).2).i:=Y01 h2 (Y0f _)
     unfold Z7p at hi
     rw[if_pos hq]at hi
     split at hi
     ·exact Y01 (fs _ h3).1.1 hi
     ·exact Y01 (fb _ h3).1.1 hi
   rw[Zdn hA hT e2 i2]
   simp only
   rw[hb _ h1 e1 i1]
   simp only
   rw[Zmu hA hT hb hs h2 hx he hi]
 rename_i c
 rw[if_neg c]at he hi
 split
 · rename_i c
   rw[if_pos c]at he hi
   have t1:=(Z8O hT (Z02 s)).1.bk
   have h1:s.i+1<=(Z1p T (Z02 s)).2.i:=t1.1
   have t2:=(fb _ h1).1.bk
   simp only[Zj5]at he hi⊢
   have e2:=t2.2 he (by omega)
   have i2:=Y01 t2.1 hi
   rw[Zdn hA hT e2 i2]
   simp only
   rw[hb _ h1 he hi]
 rename_i c
 rw[if_neg c]at he hi
 have t1:=(Z0w (T:=T) (Z1m T s).2 (w:=[59]) rfl).bk
 simp only at he hi
 have e1:=t1.2 he (by omega)
 have i1:=Y01 t1.1 hi
 rw[Zjf hA hT s (Y05 _) e1 i1]
 simp only
 rw[hA.need i1 he]
theorem ZdX:∀(d d':Nat)(s:Ps),T.length<=s.i+d->T'.length<=s.i+k+d'->(Z57 T d s).2.err=0->(Z57 T d s).2.i<=j->Z57 T' d' (sh k s)=((Z57 T d s).1,sh k (Z57 T d s).2)
 |0,d',s,h,h',he,hi=>by
  have:s.i<=j:=hi
  have:=hA.lt
  omega
 |d+1,0,s,h,h',he,hi=>by
  have:=Y01 (Z5I hT (d+1) s h).1.1 hi
  have:=hA.lt'
  omega
 |d+1,d'+1,s,h,h',he,hi=>by
  have fs:∀t,s.i+1<=t.i->ZiK T t (Z57 T d t).1 (Z57 T d t).2:=λt ht=>Z5I hT d t (by omega)
  have hs:Zf8 k j (s.i+1) (Z57 T d) (Z57 T' d'):=λt ht e1 e2=>ZdX d d' t (by omega) (by omega) e1 e2
  exact Zjc hA hT s (λt ht e1 e2=>Zii hA hT hs fs t ht e1 (by omega)) hs (λt ht=>Zdo fs t ht) fs he hi
theorem Zkn(s:Ps)(he:(Z7d T s).2.err=0)(hi:(Z7d T s).2.i<=j+1):Z7d T' (sh k s)=((Z7d T s).1,sh k (Z7d T s).2) :=
 Zii hA hT (i0:=0) (λt _ e1 e2=>ZdX hA hT T.length T'.length t (by omega) (by omega) e1 e2) (λt _=>ZdW hT t) s (Y05 _) he hi
theorem Zib(pl:Bool):Zf8 k j 0 (Z4a T pl) (Z4a T' pl):=λs _ he hi=>by
 have hlt:=hA.lt
 have hj:s.i<=j:=Y01 (Zdk hT pl s).1.1 hi
 unfold Z4a at he hi⊢
 by_cases c1:isF T (Z0a T s) [61]=true
 · rw[if_pos c1]at he hi⊢
   by_cases c2:(Z0o T (Z02 (Z0a T s))).kind=3
   · rw[if_pos c2]at he hi⊢
     simp only at he hi
     have i1:(Z02 (Z0a T s)).i<=j:=Y01 (Y0f _) hi
     have i2:(Z0a T s).i<=j:=Y01 (Y0f _) i1
     obtain⟨w1,w2⟩:=hA.word hj he
     obtain⟨n1,n2,n3⟩:=hA.now i1
     rw[w1,w2,hA.is i2,if_pos c1,Z2w,n1,if_pos c2,n3,Z2w]
   ·rw[if_neg c2]at he;exact absurd he (Z0E (by decide))
 · rw[if_neg c1]at he hi⊢
   obtain⟨w1,w2⟩:=hA.word hj he
   rw[w1,w2,hA.is hi,if_neg c1]
theorem Zi7(pl:Bool):∀(n m:Nat)(s:Ps),T.length<=s.i+n->T'.length<=s.i+k+m->(Z3E T pl n s).2.err=0->(Z3E T pl n s).2.i<=j->Z3E T' pl m (sh k s)=((Z3E T pl n s).1,sh k (Z3E T pl n s).2)
 |0,m,s,hn,hm,he,hi=>by
  have:s.i<=j:=hi
  have:=hA.lt
  omega
 |n+1,0,s,hn,hm,he,hi=>by
  have:=Y01 (ZaI hT pl (n+1) s).1.1 hi
  have:=hA.lt'
  omega
 |n+1,m+1,s,hn,hm,he,hi=>by
  have hlt:=hA.lt
  have f1:=(Zdk hT pl s).1
  unfold Z3E at he hi⊢
  by_cases c:isF T (Z4a T pl s).2 [44]=true
  · rw[if_pos c]at he hi⊢
    simp only at he hi
    have t2:=(ZaI hT pl n (Z02 (Z4a T pl s).2)).1.bk
    have i1:=Y01 t2.1 hi
    have i2:(Z4a T pl s).2.i<=j:=Y01 (Y0f _) i1
    have e1:(Z4a T pl s).2.err=0:=t2.2 he (by omega)
    have hp:=f1.1
    have hq:(Z02 (Z4a T pl s).2).i=(Z4a T pl s).2.i+1:=rfl
    rw[Zib hA hT pl s (Y05 _) e1 i2]
    simp only
    rw[hA.is i2,if_pos c,Z2w,Zi7 pl n m _ (by omega) (by omega) he hi]
  · rw[if_neg c]at he hi⊢
    simp only at he hi
    rw[Zib hA hT pl s (Y05 _) he hi]
    simp only
    rw[hA.is hi,if_neg c]
theorem Zkg(pl:Bool)(s:Ps)(he:(Z0N T pl s).2.err=0)(hi:(Z0N T pl s).2.i<=j+1):Z0N T' pl (sh k s)=((Z0N T pl s).1,sh k (Z0N T pl s).2):=by
 have hlt:=hA.lt
 have t2:=(Z0w (T:=T) (Z3E T pl (T.length+1) s).2 (w:=[59]) rfl).bk
 unfold Z0N at he hi⊢
 simp only at he hi
 obtain⟨-,g2⟩:=Zac he
 have e1:=t2.2 he (by omega)
 have i1:(Z3E T pl (T.length+1) s).2.i<=j:=by omega
 rw[Zi7 hA hT pl (T.length+1) (T'.length+1) s (by omega) (by omega) e1 i1]
 simp only
 rw[hA.need i1 he]
end
end
section
inductive Item (T:List Tq):Ps->List Dc->List (List St)->Ps->Prop
 |decl {s:Ps} (pl:Bool) (hw:isF T s (if pl then Z8v else Z6G)=true) (he:(Z0N T pl (Z02 s)).2.err=0):Item T s (Z0N T pl (Z02 s)).1 [] (Z0N T pl (Z02 s)).2
 |thr {s:Ps} (hw:isF T s Z8u=true) (he:(Z7d T (Z02 s)).2.err=0):Item T s [] [(Z7d T (Z02 s)).1] (Z7d T (Z02 s)).2
inductive Run (T:List Tq):Ps->List Dc->List (List St)->Ps->Prop
 |nil (s:Ps):Run T s [] [] s
 |cons {s s1 s2:Ps} {d1 d2:List Dc} {t1 t2:List (List St)} (h:Item T s d1 t1 s1) (r:Run T s1 d2 t2 s2):Run T s (d1++d2) (t1++t2) s2
theorem Zhi{T:List Tq}{s:Ps}{w:List UInt8}(h:isF T s w=true):s.err=0:=by
 unfold isF at h
 simp only[Y04,beq_iff_eq]at h
 exact h.1
theorem ZcW{T:List Tq}{s:Ps}{w w':List UInt8}(h:isF T s w=true)(hw:w≠w'):isF T s w'=false:=by
 cases h':isF T s w' with
 |false=>rfl
 |true =>
  unfold isF at h h'
  simp only[Y04,beq_iff_eq]at h h'
  exact absurd (h.2.2.symm.trans h'.2.2) hw
theorem ZkM{T:List Tq}{s:Ps}{w:List UInt8}(h:isF T s w=true):(Z0o T s).kind≠5:=by
 unfold isF at h
 simp only[Y04,Bool.or_eq_true,beq_iff_eq]at h
 rcases h.2.1 with h|h<;>rw[h]<;>decide
theorem Item.facts{T:List Tq}(hT:TqW T){s s1:Ps}{d:List Dc}{t:List (List St)}(h:Item T s d t s1):s.err=0/\s1.err=0/\s.i<s1.i/\(s1.i<T.length->tU T (s.i+1)=tU T s.i+1/\tU T s1.i=tU T (s.i+1)/\s1.op=s.op/\s1.at_=s.at_)/\(Z0o T s).kind≠5:=by
 cases h with
 |decl pl hw he =>
  have f:=(ZeP hT pl (Z02 s)).1
  refine⟨Zhi hw,he,f.1,λh2=>?_,ZkM hw⟩
  obtain⟨a1,a2,a3,a4,a5,a6,a7⟩:=f.2 he h2
  exact⟨(Z7v hw (by cases pl<;>decide)).2.2,a5,a7.trans (Y0q _),a6⟩
 |thr hw he =>
  have f:=(ZeX hT (Z02 s)).1
  refine⟨Zhi hw,he,f.1,λh2=>?_,ZkM hw⟩
  obtain⟨a1,a2,a3,a4,a5,a6,a7⟩:=f.2 he h2
  exact⟨(Z7v hw (by decide)).2.2,a5,a7.trans (Y0q _),a6⟩
theorem Run.facts{T:List Tq}(hT:TqW T){s s1:Ps}{d:List Dc}{t:List (List St)}(h:Run T s d t s1):s.i<=s1.i/\(s1.err=0->s.err=0)/\(s.err=0->s1.err=0)/\(s1.i<T.length->s1.op=s.op/\s1.at_=s.at_):=by
 induction h with
 |nil s=>exact⟨Y02 _,id,id,λ_=>⟨rfl,rfl⟩⟩
 |cons h r ih =>
  obtain⟨a1,a2,a3,a4,-⟩:=h.facts hT
  obtain⟨b1,b2,b3,b4⟩:=ih
  refine⟨by omega,λ_=>a1,λ_=>b3 a2,λh2=>?_⟩
  obtain⟨c1,c2⟩:=b4 h2
  obtain⟨-,-,c3,c4⟩:=a4 (by omega)
  exact⟨c1.trans c3,c2.trans c4⟩
theorem Run.app{T:List Tq}{s s1 s2:Ps}{d1 d2:List Dc}{t1 t2:List (List St)}(h:Run T s d1 t1 s1)(r:Run T s1 d2 t2 s2):Run T s (d1++d2) (t1++t2) s2:=by
 induction h with
 |nil s=>exact r
 |cons h h2 ih=>rw[Y09,Y09];exact Run.cons h (ih r)
theorem Z7D {T : List Tq} (hT : TqW T) : ∀ (k : Nat) (ds : List Dc) (ts : List (List St)) (s : Ps), (Z1o T k ds ts s).2.err = 0 -> (Z1o T k ds ts s).2.i < T.length ->
  ∃d t,Run T s d t (Z1o T k ds ts s).2/\(Z1o T k ds ts s).1=(ds++d,ts++t)
 |0,ds,ts,s,he,hi=>⟨[],[],Run.nil s,by simp[Z1o]⟩
 |k+1,ds,ts,s,he,hi=>by
  have back:∀(k:Nat)(ds:List Dc)(ts:List (List St))(s:Ps),(Z1o T k ds ts s).2.err=0->(Z1o T k ds ts s).2.i<T.length->s.err=0:=by
   intro k
   induction k with
   |zero=>exact λ_ _ _ h _=>h
   |succ k ih =>
    intro ds ts s h h2
    unfold Z1o at h h2
    split at h
    ·rename_i c;exact c.1
    ·exact h
  unfold Z1o at he hi⊢
  split
  · rename_i c
    rw[if_pos c]at he hi
    by_cases c1:isF T s Z6G=true
    · rw[if_pos c1]at he hi⊢
      obtain⟨d,t,h1,h2⟩:=Z7D hT k _ _ _ he hi
      exact⟨_,_,Run.cons (Item.decl false c1 (back _ _ _ _ he hi)) h1,by rw[h2,Y09];rfl⟩
    rw[if_neg c1]at he hi⊢
    by_cases c2:isF T s Z8v=true
    · rw[if_pos c2]at he hi⊢
      obtain⟨d,t,h1,h2⟩:=Z7D hT k _ _ _ he hi
      exact⟨_,_,Run.cons (Item.decl true c2 (back _ _ _ _ he hi)) h1,by rw[h2,Y09];rfl⟩
    rw[if_neg c2]at he hi⊢
    by_cases c3:isF T s Z8u=true
    · rw[if_pos c3]at he hi⊢
      obtain⟨d,t,h1,h2⟩:=Z7D hT k _ _ _ he hi
      exact⟨_,_,Run.cons (Item.thr c3 (back _ _ _ _ he hi)) h1,by rw[h2,Y09];rfl⟩
    rw[if_neg c3]at he hi⊢
    exact absurd (back _ _ _ _ he hi) (Z0E (by decide))
  ·exact⟨[],[],Run.nil s,by simp⟩
theorem Zjm{T:List Tq}(hT:TqW T){s E:Ps}{d:List Dc}{t:List (List St)}(h:Run T s d t E)(hE:E.err=0)(hi:E.i<T.length)(hk:(Z0o T E).kind=5):∀(k:Nat)(ds:List Dc)(ts:List (List St)),T.length<=s.i+k->Z1o T k ds ts s=((ds++d,ts++t),E):=by
 induction h with
 |nil s =>
  intro k ds ts hl
  rw[Zbk (λc=>c.2 hk),Y0n,Y0n]
 |cons h r ih =>
  intro k ds ts hl
  obtain⟨a1,a2,a3,a4,a5⟩:=h.facts hT
  have b1:=(r.facts hT).1
  obtain⟨k,rfl⟩:∃n,k=n+1:=⟨k-1,by omega⟩
  have ih':=ih hE hi hk k
  unfold Z1o
  rw[if_pos ⟨a1,a5⟩]
  cases h with
  |decl pl hw he =>
   cases pl with
   |false =>
    rw[if_pos (show isF T _ Z6G=true from hw),ih' _ _ (by omega),Y09];rfl
   |true =>
    rw[if_neg (by rw[ZcW (show isF T _ Z8v=true from hw) (by decide)];decide),if_pos (show isF T _ Z8v=true from hw),ih' _ _ (by omega),Y09];rfl
  |thr hw he =>
   rw[if_neg (by rw[ZcW hw (by decide)];decide),if_neg (by rw[ZcW hw (by decide)];decide),if_pos hw,ih' _ _ (by omega),Y09];rfl
theorem ZcN{T T':List Tq}{k j:Nat}(hA:Agr T T' k j)(hT:TqW T){s E:Ps}{d:List Dc}{t:List (List St)}(h:Run T s d t E)(hi:E.i<=j+1):Run T' (sh k s) d t (sh k E):=by
 induction h with
 |nil s=>exact Run.nil _
 |cons h r ih =>
  rename_i s s1 s2 d1 d2 t1 t2
  obtain⟨a1,a2,a3,a4,a5⟩:=h.facts hT
  have b1:=(r.facts hT).1
  refine Run.cons ?_ (ih hi)
  cases h with
  |decl pl hw he =>
   have e:=Zkg hA hT pl _ he (by omega)
   have:=Item.decl (T:=T') (s:=sh k s) pl (by rw[hA.is (by omega)];exact hw) (by rw[Z2w,e];exact he)
   rw[Z2w,e]at this
   exact this
  |thr hw he =>
   have e:=Zkn hA hT _ he (by omega)
   have:=Item.thr (T:=T') (s:=sh k s) (by rw[hA.is (by omega)];exact hw) (by rw[Z2w,e];exact he)
   rw[Z2w,e]at this
   exact this
theorem ZcB{T:List Tq}:∀(b a:Nat),a<=b->tU T a<=tU T b
 |0,a,h=>by rw[Nat.le_zero.1 h];exact Y02 _
 |b+1,a,h=>by
  rcases Nat.lt_or_ge a (b+1)with h1|h1
  ·exact Y01 (ZcB b a (by omega)) (by simp only[tU];omega)
  ·rw[Nat.le_antisymm h h1];exact Y02 _
theorem ZgJ {T : List Tq} (hT : TqW T) {p : Nat} (hp : tU T (p + 1) = tU T p + 1) {s E : Ps} {d : List Dc} {t : List (List St)} (h : Run T s d t E) (hl : E.i < T.length) (h1 : s.i <= p) (h2 : p < E.i \/ p = E.i) :
  ∃s1 d1 d2 t1 t2,s1.i=p/\Run T s d1 t1 s1/\Run T s1 d2 t2 E/\d=d1++d2/\t=t1++t2:=by
 induction h with
 |nil s=>exact⟨s,[],[],[],[],by omega,Run.nil s,Run.nil s,rfl,rfl⟩
 |cons h r ih =>
  rename_i s s1 s2 d1 d2 t1 t2
  obtain⟨a1,a2,a3,a4,a5⟩:=h.facts hT
  have b1:=(r.facts hT).1
  rcases Nat.lt_or_ge s.i p with h3|h3
  · have h4 : s1.i <= p := by
     rcases Nat.lt_or_ge p s1.i with h5|h5
     · exfalso
       obtain⟨c1,c2,-⟩:=a4 (by omega)
       have:=ZcB (T:=T) s1.i (p+1) (by omega)
       have:=ZcB (T:=T) p (s.i+1) (by omega)
       omega
     ·exact h5
    obtain⟨q,e1,e2,f1,f2,g1,g2,g3,g4,g5⟩:=ih hl h4 h2
    exact⟨q,d1++e1,e2,t1++f1,f2,g1,Run.cons h g2,g3,by rw[g4,Y09],by rw[g5,Y09]⟩
  ·exact⟨s,[],d1++d2,[],t1++t2,by omega,Run.nil s,Run.cons h r,rfl,rfl⟩
end
end Go.Proofs.YtneoiadnbikciaaGreatDoor.lex
section
namespace Go.Abs
open Go.RowKit
theorem PanR.backQ{X:AV->Prop}{k:Nat}{sn sn1:Z0m}{ι ι1:Z0i}{H H1:Z00}{W W1 W':World}{ch:List PanicEntry}(h:Stq k sn ι H W sn1 ι1 H1 W1)(p:PanR X sn1 ι1 H1 W1 ch W'):PanR X sn ι H W ch W':=by
 obtain⟨u,v,h1,h2,h3,h4,h5,h6,h7,h8⟩:=p
 refine⟨u,v,h1,h2,h3,λc hc hno=>?_,Y01 h.size h5,h6.trans h.os,h7.trans h.tape,h8.trans h.output⟩
 rw[h4 c (Y0y hc h.size) λb o p hb ha hp e=>?_,h.frame c hc hno]
 rcases h.fresh b o p hb ha hp with g|⟨b0,o0,p0,g1,g2,g3,g4⟩
 ·omega
 ·exact hno b0 o0 p0 g1 g2 g3 (g4.trans e)
theorem PanR.less{X Y:AV->Prop}{sn:Z0m}{ι : Z0i}{H:Z00}{W W':World}{ch:List PanicEntry}(h:∀u,X u->Y u)(p:PanR X sn ι H W ch W'):PanR Y sn ι H W ch W':=by
 obtain⟨u,v,h1,h2⟩:=p
 exact⟨u,v,h _ h1,h2⟩
def Zot:ABody->Bool
 | .cells (.rs n z cs::_) _=>Y03 z 1&&(Y03 n 1&&(match cs with|[]=>true|_=>false))
 |_=>false
def Z7q:Z00->Bool
 |[]=>false
 |⟨al,_,_,b⟩::l=>(al&&Zot b) || Z7q l
theorem Z3U{sn:Z0m}{ι : Z0i}{H:Z00}{W:World}(hR:R sn ι H W)(h:Z7q H=true):False:=by
 have key:∀(l:Z00),Z7q l=true->∃ (b:Nat) (o:AObj),l[b]? = some o/\o.alive=true/\Zot o.body=true:=by
  intro l
  induction l with
  |nil=>intro h;cases h
  |cons o l ih =>
   intro h
   obtain⟨al,f,s,b⟩:=o
   simp only[Z7q,Bool.or_eq_true,Y04]at h
   rcases h with h|h
   ·exact⟨0,_,rfl,h.1,h.2⟩
   · obtain⟨b,o,h1,h2⟩:=ih h
     exact⟨b+1,o,by simpa using h1,h2⟩
 obtain⟨b,o,h1,h2,h3⟩:=key H h
 obtain⟨p,hp⟩:=hR.place h1
 have ho:=hR.obj b o p h1 h2 hp
 unfold Zot at h3
 split at h3
 · rename_i n z cs l ty e
   simp only[Y04]at h3
   obtain⟨e1,e2,e3⟩:=h3
   have e1:=Y0c e1
   have e2:=Y0c e2
   subst e1 e2
   split at e3
   · rw[e]at ho
     simp only[OR]at ho
     obtain⟨arr,k1,k2,k3,k4⟩:=ho
     obtain⟨v,g1,g2⟩:=k4 0 _ rfl
     exact Zkm g2
   ·cases e3
 ·cases h3
def dK(H:Z00)(p:Prop):Prop:=Z7q H=true\/p
def TriX(X:AV->Prop)(P:Program)(gl:Z0g)(rd:Option Nat)(k:Nat)(c:Code)(tm:Tr)(H:Z00)(Φ : AEx->Tr->Z00->Prop):Prop :=
 ∀(a:Act)(W:World)(sn:Z0m)(ι : Z0i)(Q:Exit->Act->World->Prop),GlOK gl sn->R sn ι H W->TRel sn ι tm a ->
  (∀x tm' H' a' W' sn' ι',Φ x tm' H'->Stq k sn ι H W sn' ι' H' W'->TRel sn' ι' tm' a'->a'.defers=a.defers->Q (Zna x) a' W') ->
  (∀a' ch W',a'.defers=a.defers->PanR X sn ι H W ch W'->Q (.panic ch) a' W')->c.wpIn (Fq rd) 0 P Q a W
noncomputable def Z1R(P:Program)(gl:Z0g)(orc:Orc)(cw:CW)(k:Nat)(c:Code):KN->KX->KN->Tr->Z00->Prop :=
 Code.rec (motive:=λ_=>KN->KX->KN->Tr->Z00->Prop)
  (λkn _ _ tm H=>kn tm H)
  (fun _ ops draw kn _ _ tm H => match draw with
    |true=>Zdh P gl orc cw ops.toList tm H λtm H=>dK H (kn tm H)
    |false=>ZgH P gl orc cw ops.toList ops.toList tm H λtm H=>dK H (kn tm H))
  (λ_ _ iha ihb kn kx kr tm H=>iha (λtm H=>ihb kn kx kr tm H) kx kr tm H)
  (fun c _ _ iha ihb kn kx kr tm H => onO (Z2K gl tm c) fun v => match v with
    | .bool t=>(t=true->iha kn kx kr tm H)/\(t=false->ihb kn kx kr tm H)
    |_=>False)
  (λid _ ih kn kx kr tm H=>ih kn (λid' tm H=>match Y03 id' id with|true=>kn tm H|false=>kx id' tm H) kr tm H)
  (λ_ ih _ kx kr tm H=>Z54 k (λkn tm H=>ih kn kx kr tm H) tm H)
  (λ_ _ _ _ _ _ _ _ _ _ _=>False)
  (λid _ kx _ tm H=>kx id tm H)
  (λ_ _ _ _ _ _ _=>False)
  (λ_ _ _ _ _ _=>False)
  (λ_ _ _ _ _ _=>False)
  (λ_ _ kr tm H=>kr tm H)
  (λ_ _ _ _ _ _=>False) c
section code
variable {X:AV->Prop} {P:Program} {gl:Z0g} {orc:Orc} {k:Nat} {rd:Option Nat}
theorem TriX.mono{c:Code}{tm:Tr}{H:Z00}{Φ Ψ : AEx->Tr->Z00->Prop}(h:TriX X P gl rd k c tm H Φ)(hk:∀x tm' H',Φ x tm' H' -> Ψ x tm' H'):TriX X P gl rd k c tm H Ψ :=
 λa W sn ι Q hg hR ht hQ hP=>h a W sn ι Q hg hR ht (λx tm' H' a' W' sn' ι' hx=>hQ x tm' H' a' W' sn' ι' (hk _ _ _ hx)) hP
theorem TriX.seq{c d:Code}{tm:Tr}{H:Z00}{Φ : AEx->Tr->Z00->Prop}(h:TriX X P gl rd k c tm H λx tm1 H1=>match x with | .normal=>TriX X P gl rd k d tm1 H1 Φ | x=>Φ x tm1 H1):TriX X P gl rd k (.seq c d) tm H Φ:=by
 intro a W sn ι Q hg hR ht hQ hP
 refine wpIn_seq (h a W sn ι _ hg hR ht (λx tm1 H1 a1 W1 sn1 ι1 hx s1 t1 d1=>?_) hP)
 cases x with
 |normal =>
  show Code.wpIn (Fq rd) 0 P d Q a1 W1
  refine hx a1 W1 sn1 ι1 Q (hg.mono (Z3b s1.le)) s1.rel t1 (λx tm2 H2 a2 W2 sn2 ι2 hx2 s2 t2 d2=>?_) λa' ch W' hd p=>hP a' ch W' (hd.trans d1) (p.backQ s1)
  exact hQ _ _ _ _ _ _ _ hx2 (s1.trans s2) t2 (d2.trans d1)
 |exit id=>exact hQ (.exit id) tm1 H1 _ _ _ _ hx s1 t1 d1
 |ret=>exact hQ .ret tm1 H1 _ _ _ _ hx s1 t1 d1
theorem TriX.forget{c:Code}{tm:Tr}{H:Z00}{Φ : AEx->Tr->Z00->Prop}{tm2:Tr}{H2:Z00}(hf:FgS k tm H tm2 H2)(h:TriX X P gl rd k c tm2 H2 Φ):TriX X P gl rd k c tm H Φ:=by
 intro a W sn ι Q hg hR ht hQ hP
 obtain⟨sn1,ι1,s1,t1⟩:=hf sn ι W a hR ht
 exact h a W sn1 ι1 Q (hg.mono (Z3b s1.le)) s1.rel t1 (λx tm' H' a' W' sn' ι' hx s2 t2 d2=>hQ x tm' H' a' W' sn' ι' hx (s1.trans s2) t2 d2) λa' ch W' hd p=>hP a' ch W' hd (p.backQ s1)
theorem TriX.loop {b : Code} {S : Type} {I : S -> Prop} {T : S -> Tr} {B : S -> Z00} {μ : S -> Nat} {Φ : AEx -> Tr -> Z00 -> Prop}
  (h:∀s,I s->TriX X P gl rd k b (T s) (B s) λx tm' H'=>match x with | .normal=>∃s',I s' /\ μ s'<μ s/\FgS k tm' H' (T s') (B s')|x=>Φ x tm' H') {s:S} (h0:I s):TriX X P gl rd k (.loop b) (T s) (B s) Φ:=by
 have key : ∀ (n : Nat) (s : S), μ s < n -> I s -> ∀ (a : Act) (W : World) (sn : Z0m) (ι : Z0i) (Q : Exit -> Act -> World -> Prop), GlOK gl sn -> R sn ι (B s) W -> TRel sn ι (T s) a ->
   (∀x tm' H' a' W' sn' ι',Φ x tm' H'->Stq k sn ι (B s) W sn' ι' H' W'->TRel sn' ι' tm' a'->a'.defers=a.defers->Q (Zna x) a' W')->(∀a' ch W',a'.defers=a.defers->PanR X sn ι (B s) W ch W'->Q (.panic ch) a' W')->Code.roundsIn (Fq rd) 0 P b Q n a W:=by
  intro n
  induction n with
  |zero=>intro s hs;omega
  |succ n ih =>
   intro s hs hI a W sn ι Q hg hR ht hQ hP
   rw[roundsIn_succ]
   refine h s hI a W sn ι _ hg hR ht (λx tm1 H1 a1 W1 sn1 ι1 hx s1 t1 d1=>?_) hP
   cases x with
   |normal =>
    show Code.roundsIn (Fq rd) 0 P b Q n a1 W1
    obtain⟨s',hI',hs',hf⟩:=hx
    obtain⟨sn2,ι2,s2,t2⟩:=hf sn1 ι1 W1 a1 s1.rel t1
    refine ih s' (by omega) hI' a1 W1 sn2 ι2 Q ((hg.mono (Z3b s1.le)).mono (Z3b s2.le)) s2.rel t2 (λx tm3 H3 a3 W3 sn3 ι3 hx3 s3 t3 d3=>?_) λa' ch W' hd p=>hP a' ch W' (hd.trans d1) ((p.backQ s2).backQ s1)
    exact hQ _ _ _ _ _ _ _ hx3 ((s1.trans s2).trans s3) t3 (d3.trans d1)
   |exit id=>exact hQ (.exit id) tm1 H1 _ _ _ _ hx s1 t1 d1
   |ret=>exact hQ .ret tm1 H1 _ _ _ _ hx s1 t1 d1
 intro a W sn ι Q hg hR ht hQ hP
 exact wpIn_loop_rounds (μ s+1) (key (μ s+1) s (by omega) h0 a W sn ι Q hg hR ht hQ hP)
theorem Z1Q (hm : P.follows .mixedOrders = true) (hn : NoNum P) (hO : OrcSoundX X P gl orc) {cw : CW} (hcw : Z6W P orc cw) : ∀ (c : Code) {kn : Tr -> Z00 -> Prop} {kx : Nat -> Tr -> Z00 -> Prop} {kr : Tr -> Z00 -> Prop} {tm : Tr} {H : Z00},
  Z1R P gl orc cw k c kn kx kr tm H->TriX X P gl rd k c tm H (Zoq kn kx kr)
 | .skip,kn,kx,kr,tm,H,h=>λa W sn ι Q hg hR ht hQ hP=>by
  exact wpIn_skip (hQ .normal tm H a W sn ι h (Stq.refl hR) ht rfl)
 | .region id ops draw,kn,kx,kr,tm,H,h=>λa W sn ι Q hg hR ht hQ hP=>by
  cases draw with
  |true =>
   replace h:Zdh P gl orc cw ops.toList tm H (λtm H=>dK H (kn tm H)):=h
   obtain⟨tm',H',h1,h⟩:=ZaE P gl orc cw hcw h
   refine Z4y hm hn hO hg hR ht h1 (λa' W' sn' ι' s1 t1 d1=>?_) hP id
   rcases h with h|h
   ·exact (Z3U s1.rel h).elim
   ·exact hQ .normal tm' H' a' W' sn' ι' h (s1.q hR) t1 d1
  |false =>
   replace h:ZgH P gl orc cw ops.toList ops.toList tm H (λtm H=>dK H (kn tm H)):=h
   obtain⟨tm',H',h1,h⟩:=Z5j P gl orc cw hcw h
   refine wpIn_region_list (Z2J hn hO ops _ _ _ _ _ _ _ _ _ h1 hg hR ht (λa' W' sn' ι' s1 t1 d1=>?_) hP)
   rcases h with h|h
   ·exact (Z3U s1.rel h).elim
   ·exact hQ .normal tm' H' a' W' sn' ι' h (s1.q hR) t1 d1
 | .seq c d,kn,kx,kr,tm,H,h=>by
  replace h:Z1R P gl orc cw k c (λtm H=>Z1R P gl orc cw k d kn kx kr tm H) kx kr tm H:=h
  refine TriX.seq ((Z1Q hm hn hO hcw c h).mono λx tm1 H1 hx=>?_)
  cases x with
  |normal=>exact Z1Q hm hn hO hcw d hx
  |exit id=>exact hx
  |ret=>exact hx
 | .cond e c d,kn,kx,kr,tm,H,h=>λa W sn ι Q hg hR ht hQ hP=>by
  replace h:(onO (Z2K gl tm e) λv=>match v with
   | .bool t=>(t=true->Z1R P gl orc cw k c kn kx kr tm H)/\(t=false->Z1R P gl orc cw k d kn kx kr tm H)
   |_=>False):=h
  obtain⟨v,hv,h⟩:=Z04 h
  split at h
  · rename_i t
    have he:=(Z15 hg ht _ _ hv).bool
    cases t with
    |true=>exact wpIn_cond_true he (Z1Q hm hn hO hcw c (h.1 rfl) a W sn ι Q hg hR ht hQ hP)
    |false=>exact wpIn_cond_false he (Z1Q hm hn hO hcw d (h.2 rfl) a W sn ι Q hg hR ht hQ hP)
  ·exact h.elim
 | .block id b,kn,kx,kr,tm,H,h=>λa W sn ι Q hg hR ht hQ hP=>by
  replace h:Z1R P gl orc cw k b kn (λid' tm H=>match Y03 id' id with|true=>kn tm H|false=>kx id' tm H) kr tm H:=h
  refine wpIn_block (Z1Q hm hn hO hcw b h a W sn ι _ hg hR ht (λx tm1 H1 a1 W1 sn1 ι1 hx s1 t1 d1=>?_) hP)
  cases x with
  |normal=>exact hQ .normal tm1 H1 _ _ _ _ hx s1 t1 d1
  |ret=>exact hQ .ret tm1 H1 _ _ _ _ hx s1 t1 d1
  |exit id' =>
   show (if id'=id then Q .normal a1 W1 else Q (.exit id') a1 W1)
   have hx:(match Y03 id' id with|true=>kn tm1 H1|false=>kx id' tm1 H1):=hx
   by_cases e:id'=id
   · rw[if_pos e]
     subst e
     have:Y03 id' id'=true:=by simp
     rw[this]at hx
     exact hQ .normal tm1 H1 _ _ _ _ hx s1 t1 d1
   · rw[if_neg e]
     have:Y03 id' id=false:=by cases hb:Y03 id' id with|false=>rfl|true=>exact (e (Y0c hb)).elim
     rw[this]at hx
     exact hQ (.exit id') tm1 H1 _ _ _ _ hx s1 t1 d1
 | .loop b,kn,kx,kr,tm,H,h=>by
  replace h:Z54 k (λkn tm H=>Z1R P gl orc cw k b kn kx kr tm H) tm H:=h
  unfold Z54 at h
  obtain⟨S,I,L,B,μ,⟨s,h0,hf⟩,h⟩:=h
  refine TriX.forget hf.fg (TriX.loop (I:=I) (T:=λs=>Z9v (λn=>Z1L n (L s)) tm) (B:=B) (μ:=μ) (λs hI=>?_) h0)
  have h:=h s hI
  rw[Z1H,Z0n]at h
  refine (Z1Q hm hn hO hcw b h).mono λx tm' H' hx=>?_
  cases x with
  |normal =>
   obtain⟨s',k1,k2,k3⟩:=hx
   exact⟨s',k1,k2,k3.fg⟩
  |exit id=>exact hx
  |ret=>exact hx
 | .exit id,kn,kx,kr,tm,H,h=>λa W sn ι Q hg hR ht hQ hP=>by
  exact wpIn_exit (hQ (.exit id) tm H a W sn ι h (Stq.refl hR) ht rfl)
 | .ret,kn,kx,kr,tm,H,h=>λa W sn ι Q hg hR ht hQ hP=>by
  exact wpIn_ret (hQ .ret tm H a W sn ι h (Stq.refl hR) ht rfl)
 | .rangeFunc ..,kn,kx,kr,tm,H,h=>(h:False).elim
 | .scope ..,kn,kx,kr,tm,H,h=>(h:False).elim
 | .label ..,kn,kx,kr,tm,H,h=>(h:False).elim
 | .goto ..,kn,kx,kr,tm,H,h=>(h:False).elim
 | .refuse ..,kn,kx,kr,tm,H,h=>(h:False).elim
end code
def MemX(P:Program)(gl:Z0g)(X:AV->Prop)(f:Nat)(args:List AV)(H:Z00)(r:AV)(H':Z00):Prop :=
 ∀(sn:Z0m)(ι : Z0i)(W:World)(cargs:List Value),GlOK gl sn->R sn ι H W->LR sn ι args cargs ->
  CallsY P f cargs.toArray W λe W'=>(∃v sn' ι',e = .returned v/\VR sn' ι' r v/\Stp sn ι H W sn' ι' H' W')\/((∃fn,P.funcs[f]? = some fn)/\∃ch,e = .panicked ch/\PanR X sn ι H W ch W')
def MemXQ(P:Program)(gl:Z0g)(X:AV->Prop)(k f:Nat)(args:List AV)(H:Z00)(r:AV)(H':Z00):Prop :=
 ∀(sn:Z0m)(ι : Z0i)(W:World)(cargs:List Value),GlOK gl sn->R sn ι H W->LR sn ι args cargs ->
  CallsY P f cargs.toArray W λe W'=>(∃v sn' ι',e = .returned v/\VR sn' ι' r v/\Stq k sn ι H W sn' ι' H' W')\/((∃fn,P.funcs[f]? = some fn)/\∃ch,e = .panicked ch/\PanR X sn ι H W ch W')
theorem MemX.less{P:Program}{gl:Z0g}{X Y:AV->Prop}{f:Nat}{args:List AV}{H H':Z00}{r:AV}(h:MemX P gl X f args H r H')(hl:∀u,X u->Y u):MemX P gl Y f args H r H':=λsn ι W cargs hg hR ha =>
 (h sn ι W cargs hg hR ha).mono λe W' h=>h.imp id λ⟨a,ch,b,c⟩=>⟨a,ch,b,c.less hl⟩
theorem MemX.dead{P:Program}{gl:Z0g}{X:AV->Prop}{f:Nat}{args:List AV}{H H':Z00}{r:AV}(h:Z7q H=true):MemX P gl X f args H r H':=λsn ι W cargs hg hR ha=>(Z3U hR h).elim
theorem memx_same {P : Program} {gl : Z0g} {X : AV -> Prop} {f k : Nat} {Hs Hs' : Z00} {args : List AV} {r : AV} (hM : MemXQ P gl X k f args Hs r Hs') (hl : Hs.length = k) (hl' : Hs'.length = k)
  (hev:∀(b:Nat)(o o':AObj),Hs[b]? = some o->Hs'[b]? = some o'->o'.fam=o.fam/\o'.sh=o.sh/\(o'.alive=true->o.alive=true)):MemX P gl X f args Hs r Hs':=by
 intro sn ι W vargs hg hR ha
 refine (hM sn ι W vargs hg hR ha).mono ?_
 rintro e W' (⟨v,sn',ι',rfl,hv,hst⟩|h)
 · have hι : ∀b p,ι b=some p -> ι' b=some p:=λb p hp=>hst.keep b p (by have:=(hR.dom b).2 ⟨p,hp⟩;omega) hp
   have hι2:∀b p,ι' b=some p -> ι b=some p:=λb p hp=>by
    obtain⟨q,hq⟩:=(hR.dom b).1 (by have:=(hst.rel.dom b).2 ⟨p,hp⟩;omega)
    have:=hι b q hq
    rw[hp]at this;cases this;exact hq
   refine .inl ⟨v,sn',ι',rfl,hv,hst.rel,⟨hst.le,hι⟩,λb p hp=>.inl (hι2 b p hp),hst.frame,hst.size,hst.os,hst.tape,hst.output,hst.sfresh,λb o hb=>?_⟩
   have hb':b<Hs'.length:=by have:=(List.getElem?_eq_some_iff.1 hb).1;omega
   obtain⟨e1,e2,e3⟩:=hev b o _ hb (Y0m hb')
   exact⟨_,Y0m hb',e1,e2,e3⟩
 ·exact .inr h
section fn
variable {X:AV->Prop} {P:Program} {gl:Z0g} {orc:Orc} {k:Nat}
theorem ZeF (hm : P.follows .mixedOrders = true) (hn : NoNum P) (hO : OrcSoundX X P gl orc) {f : Nat} {fn : Func} {c : Code} {args : List AV} {H0 N : Z00} {r : AV} {Φ : Tr -> Z00 -> Prop}
  (hf:P.funcs[f]? = some fn) (hc:fn.body=some c) {cw:CW} (hcw:Z6W P orc cw)
  (hfin:∀{tm1:Tr}{H:Z00}{a1:Act}{W W1:World}{sn sn1:Z0m}{ι ι1:Z0i},Φ tm1 H->Stq k sn ι H0 W sn1 ι1 H W1->TRel sn1 ι1 tm1 a1->∃v,(results fn a1.tmps).run P W1 = .ok v W1/\∃sn' ι',VR sn' ι' r v/\Stq k sn ι H0 W sn' ι' N W1)
  (h:frcTr (tmk (Z7j args fn.ntmps args.length) (Z83 20 fn.ntmps)) λtm=>Z1R P gl orc cw k c Φ (λ_ _ _=>False) Φ tm H0):MemXQ P gl X k f args H0 r N:=by
 intro sn ι W cargs hg hR ha
 rw[Z1H]at h
 refine .inl (calls_of_wp hf hc (wpIn_wide.1 (Z1Q (rd:=none) hm hn hO hcw c h _ W sn ι _ hg hR (Z3l ha _ _ _) (λx tm1 H a1 W1 sn1 ι1 hx s1 t1 d1=>?_) (λa' ch W' hd p=>⟨hd,.inr ⟨⟨fn,hf⟩,ch,rfl,p⟩⟩))))
 cases x with
 |normal =>
  obtain⟨v,k1,sn',ι',k2,k3⟩:=hfin hx s1 t1
  exact bodyPost_end k1 d1 (.inl ⟨v,sn',ι',rfl,k2,k3⟩)
 |exit id=>exact hx.elim
 |ret =>
  obtain⟨v,k1,sn',ι',k2,k3⟩:=hfin hx s1 t1
  exact bodyPost_ret k1 d1 (.inl ⟨v,sn',ι',rfl,k2,k3⟩)
theorem Zk5 (hm : P.follows .mixedOrders = true) (hn : NoNum P) (hO : OrcSoundX X P gl orc) {f : Nat} {fn : Func} {c : Code} {args : List AV} {H0 N : Z00} {r : AV}
  (hf:P.funcs[f]? = some fn) (hc:fn.body=some c) {cw:CW} (hcw:Z6W P orc cw)
  (h:frcTr (tmk (Z7j args fn.ntmps args.length) (Z83 20 fn.ntmps)) λtm=>Z1R P gl orc cw k c (ZhO P fn.results.toList k r N) (λ_ _ _=>False) (ZhO P fn.results.toList k r N) tm H0):MemXQ P gl X k f args H0 r N:=by
 refine ZeF hm hn hO hf hc hcw (λ{tm1 H a1 W W1 sn sn1 ι ι1} hx s1 t1=>?_) h
 obtain⟨us,h1,m,h0,h2,h3,h4⟩:=Z04 hx
 obtain⟨vs,k1,k2⟩:=Z0P s1.rel t1 _ _ h1
 obtain⟨hS,_⟩:=Fg.sound (k:=k) (m:=m) (tm:=tm1) (tm2:=Z9v (λ_=>none) tm1) ⟨⟨λn u2 e=>(by have:=Z2V _ _ _ _ e;cases this),λn e=>(by rw[Z3R]at e;exact e)⟩,h2,h3,h0⟩ s1.rel t1
 exact⟨_,Z0T k2,sn1,iot m ι1,h4 _ _ _ (Z2y (fn:=fn) k1),s1.trans hS⟩
theorem Zk4 (hm : P.follows .mixedOrders = true) (hn : NoNum P) (hO : OrcSoundX X P gl orc) {f : Nat} {fn : Func} {c : Code} {args : List AV} {H0 N : Z00} {r : AV}
  (hf:P.funcs[f]? = some fn) (hc:fn.body=some c) {cw:CW} (hcw:Z6W P orc cw)
  (h:frcTr (tmk (Z7j args fn.ntmps args.length) (Z83 20 fn.ntmps)) λtm=>Z1R P gl orc cw k c (Zmi P fn.results.toList k r N) (λ_ _ _=>False) (Zmi P fn.results.toList k r N) tm H0):MemXQ P gl X k f args H0 r N:=by
 refine ZeF hm hn hO hf hc hcw (λ{tm1 H a1 W W1 sn sn1 ι ι1} hx s1 t1=>?_) h
 obtain⟨us,h1,fs,m,h0,h2,h3,h4,h5⟩:=Z04 hx
 obtain⟨vs,k1,k2⟩:=Z0P s1.rel t1 _ _ h1
 obtain⟨sn',ι',hS,hv⟩:=FgS.value (k:=k) h2 h3 h0 h4 a1 s1.rel (Z2y (fn:=fn) k1) h5
 exact⟨_,Z0T k2,sn',ι',hv,s1.trans hS⟩
theorem Z1K{isC:Nat->Bool}(hm:P.follows .mixedOrders=true)(hn:NoNum P)(hO:OrcSoundX X P gl orc):∀n,OrcSoundX X P gl (Z7I P gl orc isC n)
 |0=>hO
 |n+1=>by
  intro f args H r H' hf
  simp only[Z7I]at hf
  split at hf
  ·exact hO f args H r H' hf
  ·exact Z7f (fuel:=0) hm hn (Z1K hm hn hO n) f args H r H' hf
theorem Z1v (isC : Nat -> Bool) (n : Nat) (hm : P.follows .mixedOrders = true) (hn : NoNum P) (hO : OrcSoundX X P gl orc) {f : Nat} {fn : Func} {c : Code} {args : List AV} {H0 N : Z00} {r : AV}
  (hf:P.funcs[f]? = some fn) (hc:fn.body=some c)
  (h:frcTr (tmk (Z7j args fn.ntmps args.length) (Z83 20 fn.ntmps)) λtm=>Z1R P gl (Z7I P gl orc isC n) (Z7i P gl orc isC n) k c (ZhO P fn.results.toList k r N) (λ_ _ _=>False) (ZhO P fn.results.toList k r N) tm H0):MemXQ P gl X k f args H0 r N :=
 Zk5 hm hn (Z1K hm hn hO n) hf hc (Z0p n) h
theorem Z0t (isC : Nat -> Bool) (n : Nat) (hm : P.follows .mixedOrders = true) (hn : NoNum P) (hO : OrcSoundX X P gl orc) {f : Nat} {fn : Func} {c : Code} {args : List AV} {H0 N : Z00} {r : AV}
  (hf:P.funcs[f]? = some fn) (hc:fn.body=some c)
  (h:frcTr (tmk (Z7j args fn.ntmps args.length) (Z83 20 fn.ntmps)) λtm=>Z1R P gl (Z7I P gl orc isC n) (Z7i P gl orc isC n) k c (Zmi P fn.results.toList k r N) (λ_ _ _=>False) (Zmi P fn.results.toList k r N) tm H0):MemXQ P gl X k f args H0 r N :=
 Zk4 hm hn (Z1K hm hn hO n) hf hc (Z0p n) h
theorem Zbl{o1 o2:Orc}(h1:OrcSoundX X P gl o1)(h2:OrcSoundX X P gl o2):OrcSoundX X P gl (Z3q o1 o2):=by
 intro f args H r H' hf
 unfold Z3q at hf
 split at hf
 · rename_i x hx
   simp at hf;subst hf
   exact h1 f args H r H' hx
 ·exact h2 f args H r H' hf
theorem ZcQ{I:Type}{G:I->Prop}{fF:I->Nat}{fA:I->List AV}{fH:I->Z00}{fR:I->AV}{fO:I->Z00}(h:∀i,G i->MemX P gl X (fF i) (fA i) (fH i) (fR i) (fO i)):OrcSoundX X P gl (orcI G fF fA fH fR fO):=by
 intro f args H r H' e
 unfold orcI at e
 split at e
 · rename_i hx
   simp only[Option.some.injEq,Prod.mk.injEq]at e
   obtain⟨rfl,rfl⟩:=e
   obtain⟨g1,e1,e2,e3⟩:=Classical.choose_spec hx
   have:=h _ g1
   rw[e1,e2,e3]at this;exact this
 ·cases e
end fn
structure FamX (P:Program) (gl:Z0g) where
 I:Type
 f:Nat
 X:I->AV->Prop
 G:I->Prop
 A:I->List AV
 H:I->Z00
 R:I->AV
 O:I->Z00
 body:Z0h P f=true
 inj:∀i j,G i->G j->A i=A j->H i=H j->R i=R j/\O i=O j
 ok:∀i,G i->MemX P gl (X i) f (A i) (H i) (R i) (O i)
section
variable {P:Program} {gl:Z0g} {X:AV->Prop}
def FamX.Ask(X:AV->Prop)(F:FamX P gl)(O:Orc):Prop:=∀i,F.G i->(∀u,F.X i u->X u)->Z05 P O (F.H i) F.f (F.A i)=some (F.R i,F.O i)
def AllAskX(X:AV->Prop)(O:Orc):List (FamX P gl)->Prop
 |[]=>True
 |F::l=>F.Ask X O/\AllAskX X O l
theorem AllAskX.add{o O:Orc}{f:Nat}(ho:∀g args H,g≠f->o g args H=none):∀{l:List (FamX P gl)},mem f (l.map (·.f))=false->AllAskX X O l->AllAskX X (Z3q o O) l
 |[],_,_=>trivial
 |F::l,h,ha=>by
  simp only[List.map_cons,mem,Bool.or_eq_false_iff]at h
  have hf:F.f≠f:=λe=>by rw[e]at h;simp at h
  exact⟨λi hi hx=>Z5v F.body (ho _ _ _ hf) (ha.1 i hi hx),AllAskX.add ho h.2 ha.2⟩
theorem Z2l(X:AV->Prop):∀(m:List (FamX P gl))(l:List (Fam P gl)),Z0Q (m.map (·.f)++l.map (·.f))=true->∃O,OrcSoundX X P gl O/\AllAskX X O m/\AllAsk O l
 |[],l,h=>by
  obtain⟨O,h1,h2⟩:=Z7O l h
  exact⟨O,h1.x,trivial,h2⟩
 |F::m,l,h=>by
  simp only[List.map_cons,Y0k,Z0Q,Y04,Y0l]at h
  obtain⟨O,hO,ha,hb⟩:=Z2l X m l h.2
  have ho:∀g args H,g≠F.f->orcI (λi=>F.G i/\∀u,F.X i u->X u) (λ_=>F.f) F.A F.H F.R F.O g args H=none:=λg args H hg=>Z3r λi _ e=>absurd e.symm hg
  have hmem:∀{a b:List Nat},mem F.f (a++b)=false->mem F.f a=false/\mem F.f b=false:=by
   intro a b h
   constructor
   · cases hx:mem F.f a with
     |false=>rfl
     |true=>rw[Z11.2 (Y0u.2 (.inl (Z11.1 hx)))]at h;cases h
   · cases hx:mem F.f b with
     |false=>rfl
     |true=>rw[Z11.2 (Y0u.2 (.inr (Z11.1 hx)))]at h;cases h
  obtain⟨n1,n2⟩:=hmem h.1
  refine⟨Z3q (orcI (λi=>F.G i/\∀u,F.X i u->X u) (λ_=>F.f) F.A F.H F.R F.O) O,Zbl (ZcQ λi hi=>(F.ok i hi.1).less hi.2) hO,
   ⟨λi hi hx=>Z5w F.body (Zdm (λi j hi hj _ ha hh=>F.inj i j hi.1 hj.1 ha hh) F.body i ⟨hi,hx⟩ rfl rfl rfl),AllAskX.add ho n1 ha⟩,AllAsk.add ho n2 hb⟩
end
end Go.Abs
end
section
namespace Go.Abs
open Go.RowKit
noncomputable def Zn1(P:Program)(gl:Z0g)(orc:Orc)(cw:CW)(ops:List Oper)(l:List Oper):Tr->Z00->(AV->Prop)->Prop :=
 List.rec (motive:=λ_=>Tr->Z00->(AV->Prop)->Prop) (λ_ _ _=>False)
  (fun o _ ih tm H K => match o.op with
    | .panic x=>match o.guard with
     |none=>onO (Z2K gl tm x) K
     |some _=>False
    |_=>Zcr ops o tm (opW P orc cw (Z2K gl tm) o H λr H'=>onO (Z4i o.dst r tm) λtm'=>ih tm' H' K) (onO (Z4i o.dst (.tuple []) tm) λtm'=>ih tm' H K)) l
def ZlH(u:AV):Prop:=(∃t x,u = .iface t x)/\Z2a u []=[]/\ZcS u=true
theorem ZcO {X : AV -> Prop} {P : Program} {gl : Z0g} {orc : Orc} {cw : CW} {rd : Option Nat} (hn : NoNum P) (hO : OrcSoundX X P gl orc) (hcw : Z6W P orc cw) (ops : Array Oper) : ∀ (l : List Oper) (tm : Tr) (H : Z00) (a : Act) (W : World) (sn : Z0m) (ι : Z0i),
  Zn1 P gl orc cw ops.toList l tm H (λu=>X u/\ZlH u)->GlOK gl sn->R sn ι H W->TRel sn ι tm a->∀{Q:Exit->Act->World->Prop},
  (∀a' ch W',a'.defers=a.defers->PanR X sn ι H W ch W'->Q (.panic ch) a' W')->wpListIn (Fq rd) 0 P ops Q l a W
 |[],tm,H,a,W,sn,ι,h,hg,hR,ht,Q,hP=>(h:False).elim
 |o::l,tm,H,a,W,sn,ι,h,hg,hR,ht,Q,hP=>by
  have key:Zcr ops.toList o tm (opW P orc cw (Z2K gl tm) o H λr H'=>onO (Z4i o.dst r tm) λtm'=>Zn1 P gl orc cw ops.toList l tm' H' (λu=>X u/\ZlH u)) (onO (Z4i o.dst (.tuple []) tm) λtm'=>Zn1 P gl orc cw ops.toList l tm' H (λu=>X u/\ZlH u))->wpListIn (Fq rd) 0 P ops Q (o::l) a W:=λh=>by
   refine wpListIn_step λK hK=>?_
   rcases ZdK h with ⟨hw,h⟩|⟨hw,h⟩
   · rw[if_pos (Z2s ht ops o hw)]
     obtain⟨r,H1,hop,h⟩:=Zei P hcw h
     obtain⟨tm1,hp,h⟩:=Z04 h
     refine Z3A hn hO hg hR (Z15 hg ht) hop (λv W' sn' ι' hv hst=>hK _ _ ?_) (λch W' p=>hP a ch W' rfl p)
     exact ZcO hn hO hcw ops l _ _ _ _ sn' ι' h (hg.mono hst.le) hst.rel (Z21 (ht.mono hst.le) hv hp) (λa' ch W'' hd p=>hP a' ch W'' (hd.trans (Act.put_defers' _ _ _)) (p.back hR hst))
   · rw[if_neg (by rw[Z2s ht ops o hw];simp)]
     obtain⟨tm1,hp,h⟩:=Z04 h
     exact⟨λf _=>trivial,hK _ _ (ZcO hn hO hcw ops l _ _ _ _ sn ι h hg hR (Z21 ht Z3H hp) (λa' ch W'' hd p=>hP a' ch W'' (hd.trans (Act.put_defers' _ _ _)) p))⟩
  replace h:(match o.op with
   | .panic x=>match o.guard with
    |none=>onO (Z2K gl tm x) (λu=>X u/\ZlH u)
    |some _=>False
   |_=>Zcr ops.toList o tm (opW P orc cw (Z2K gl tm) o H λr H'=>onO (Z4i o.dst r tm) λtm'=>Zn1 P gl orc cw ops.toList l tm' H' (λu=>X u/\ZlH u)) (onO (Z4i o.dst (.tuple []) tm) λtm'=>Zn1 P gl orc cw ops.toList l tm' H (λu=>X u/\ZlH u))):=h
  split at h
  · rename_i x hop
    split at h
    · rename_i hgd
      obtain⟨u,hu,hX,⟨t,y,rfl⟩,h1,h2⟩:=Z04 h
      have hv:=Z15 hg ht _ _ hu
      refine wpListIn_plain hgd λK hK=>?_
      refine Zgb (λc e=>by rw[hop]at e;cases e) ?_
      have hrun:(execOp a.eval o).run P W = .halt (.panic (a.eval x)) W:=by
       have hv':=hv
       simp only[VR]at hv'
       obtain⟨z,hz,_⟩:=hv'
       simp only[execOp,hop,hz]
       rfl
      unfold Oper.wp
      rw[hrun,Oper.upon_panic]
      refine hP a _ W rfl ⟨_,_,hX,rfl,Z4A _ _ h2 (Z1c _ [] _ (λb hb=>by rw[h1]at hb;cases hb) hv),λ_ _ _=>rfl,Y02 _,rfl,rfl,rfl⟩
    ·exact h.elim
  ·exact key h
theorem Zk3 {X : AV -> Prop} {P : Program} {gl : Z0g} {orc : Orc} {cw : CW} {id : Nat} {ops : Array Oper} (hn : NoNum P) (hO : OrcSoundX X P gl orc) {f : Nat} {fn : Func} {args : List AV} {H0 H1 : Z00} {r : AV}
  (hf:P.funcs[f]? = some fn) (hc:fn.body=some (.region id ops false)) (hcw:Z6W P orc cw)
  (h:frcTr (tmk (Z7j args fn.ntmps args.length) (Z83 20 fn.ntmps)) λtm=>Zn1 P gl orc cw ops.toList ops.toList tm H0 (λu=>X u/\ZlH u)):MemX P gl X f args H0 r H1:=by
 intro sn ι W cargs hg hR ha
 rw[Z1H]at h
 exact .inl (calls_of_wp hf hc (wpIn_wide.1 (wpIn_region_list (ZcO (rd:=none) hn hO hcw ops _ _ _ _ W sn ι h hg hR (Z3l ha _ _ _) λa' ch W' hd p=>⟨hd,.inr ⟨⟨fn,hf⟩,ch,rfl,p⟩⟩))))
theorem ZjG{P:Program}{gl:Z0g}{Y:AV->Prop}{f:Nat}{args:List AV}{H H':Z00}{r:AV}(hM:MemX P gl Y f args H r H')(X:Z00)(hl:H'.length=H.length)(ha:Z12 H.length (refsL args [])=true)(hb:Zd7 H.length H=true)(hX:Z07 (H.map (·.fam)) X=true):MemX P gl Y f args (H++X) r (H'++X):=by
 intro sn ι W cargs hg hR hargs
 let ι0:Z0i:=λb=>if b<H.length then ι b else none
 have i0:∀b,b<H.length -> ι0 b = ι b:=λb h=>if_pos h
 have i0':∀b p,ι0 b=some p->b<H.length /\ ι b=some p:=λb p h=>by
  have h:(if b<H.length then ι b else none)=some p:=h
  split at h
  ·exact⟨by assumption,h⟩
  ·cases h
 have gH:∀(b:Nat)(o:AObj),H[b]? = some o->(H++X)[b]? = some o:=λb o h=>by
  rw[Y0v (List.getElem?_eq_some_iff.1 h).1];exact h
 have hfam:∀(b c:Nat)(o x:AObj)(p q:Place),H[b]? = some o->(H++X)[c]? = some x->o.alive=true->x.alive=true->H.length<=c -> ι b=some p -> ι c=some q->p.blk=q.blk->False:=by
  intro b c o x p q hb hc ha ha' hk hp hq e
  have hf:=(hR.sep b c o x p q (gH b o hb) hc ha ha' hp hq e).1
  rw[Y0r hk]at hc
  exact Z6A hX hc (by rw[<- hf];exact List.mem_map.2 ⟨o,List.mem_of_getElem? hb,rfl⟩)
 have hR0:R sn ι0 H W:=by
  refine⟨λb=>⟨λhb=>?_,λ⟨p,hp⟩=>(i0' b p hp).1⟩,λb p hp=>hR.blk b p (i0' b p hp).2,λb o p ho hal hp=>?_,λb b' o o' p p' ho ho' ha ha' hp hp' e=>hR.sep b b' o o' p p' (gH _ _ ho) (gH _ _ ho') ha ha' (i0' _ _ hp).2 (i0' _ _ hp').2 e,λa v hv=>?_,λb o p ho hp e=>hR.shz b o p (gH _ _ ho) (i0' _ _ hp).2 e⟩
  · obtain⟨p,hp⟩:=(hR.dom b).1 (by rw[Y0e];omega)
    exact⟨p,by rw[i0 b hb];exact hp⟩
  · obtain⟨hbl,hp⟩:=i0' b p hp
    exact Z27 o.body p (λx hx q hq=>by rw[i0 x (Z0I (Z8E hb ho) x hx)];exact hq) (hR.obj b o p (gH _ _ ho) hal hp)
  · obtain⟨h1,h2,h3⟩:=hR.snap a v hv
    exact⟨h1,h2,λb o p ho hal hp=>h3 b o p (gH _ _ ho) hal (i0' _ _ hp).2⟩
 have hl0:LR sn ι0 args cargs:=LR_refs args [] cargs (λb hb' p hp=>by rw[i0 b (Z0I ha b hb')];exact hp) hargs
 refine (hM sn ι0 W cargs hg hR0 hl0).mono ?_
 rintro e W1 (⟨v,sn1,ι1,rfl,hv,hs⟩|⟨hfn,ch,rfl,u,v,p1,p2,p3,p4,p5⟩)
 case inr =>
  exact .inr ⟨hfn,ch,rfl,u,v,p1,p2,p3,λc hc hno=>p4 c hc λb o p ho hal hp=>hno b o p (gH _ _ ho) hal (i0' _ _ hp).2,p5⟩
 let ι2:Z0i:=λb=>match ι1 b with|some p=>some p|none=>ι b
 have a1:∀b p,ι1 b=some p -> ι2 b=some p:=λb p h=>by show (match ι1 b with|some p=>some p|none=>ι b)=some p;rw[h]
 have a2:∀b,H.length<=b -> ι2 b = ι b:=λb h=>by
  show (match ι1 b with|some p=>some p|none=>ι b) = ι b
  cases hq : ι1 b with
  |none=>rfl
  |some p=>have:=(hs.rel.dom b).2 ⟨p,hq⟩;omega
 have a3:∀b p,ι b=some p -> ι2 b=some p:=λb p h=>by
  by_cases hb':b<H.length
  ·exact a1 b p (hs.le.ι b p (by rw[i0 b hb'];exact h))
  ·rw[a2 b (by omega)];exact h
 have a4:∀b p,b<H.length -> ι2 b=some p -> ι1 b=some p /\ ι b=some p:=λb p hb' h=>by
  obtain⟨q,hq⟩:=(hR.dom b).1 (by rw[Y0e];omega)
  have h1:=hs.le.ι b q (by rw[i0 b hb'];exact hq)
  have h2:=a1 b q h1
  rw[h]at h2;cases h2
  exact⟨h1,hq⟩
 have hle:Le sn sn1 ι ι2:=⟨hs.le.sn,a3⟩
 have g1:∀(b:Nat)(o:AObj),(H'++X)[b]? = some o->(b<H.length/\H'[b]? = some o)\/(H.length<=b/\(H++X)[b]? = some o):=λb o h=>by
  by_cases hb':b<H.length
  ·rw[Y0v (by omega)]at h;exact .inl ⟨hb',h⟩
  · rw[Y0r (by omega),hl]at h
    exact .inr ⟨by omega,by rw[Y0r (by omega)];exact h⟩
 have old:∀(b:Nat)(o:AObj)(p:Place),(H'++X)[b]? = some o -> ι2 b=some p->∃o0,(H++X)[b]? = some o0 /\ ι b=some p/\o.fam=o0.fam/\o.sh=o0.sh/\(o.alive=true->o0.alive=true):=by
  intro b o p ho hp
  rcases g1 b o ho with ⟨h1,h2⟩|⟨h1,h2⟩
  · obtain⟨_,hq⟩:=a4 b p h1 hp
    obtain⟨o',k1,k2,k3,k4⟩:=hs.evo b _ (Y0m h1)
    rw[h2]at k1;cases k1
    exact⟨_,gH _ _ (Y0m h1),hq,k2,k3,k4⟩
  · rw[a2 b h1]at hp
    exact⟨o,h2,hp,rfl,rfl,id⟩
 have same:∀(b:Nat)(o:AObj)(p:Place),(H++X)[b]? = some o->o.alive=true->H.length<=b -> ι b=some p->W1.heap[p.blk]? = W.heap[p.blk]?:=λb o p ho ha hk hp =>
  hs.frame p.blk (hR.blk b p hp) λb' o' p' ho' ha' hp' e=>hfam b' b o' o p' p ho' ho ha' ha hk (i0' _ _ hp').2 hp e
 refine .inl ⟨v,sn1,ι2,rfl,Z16 ⟨λ_ _ h=>h,a1⟩ _ _ hv,⟨?_,hle,λb p hp=>?_,λc hc hno=>hs.frame c hc λb o p ho hal hp=>hno b o p (gH _ _ ho) hal (i0' _ _ hp).2,hs.size,hs.os,hs.tape,hs.output,λa v hv=>?_,λb o ho=>?_⟩⟩
 · refine⟨λb=>?_,λb p hp=>?_,λb o p ho hal hp=>?_,λb b' o o' p p' ho ho' ha ha' hp hp' e=>?_,λa u hu=>?_,λb o p ho hp e=>?_⟩
   · have:=hR.dom b
     rw[Y0e,hl,<- Y0e,this]
     constructor
     ·rintro⟨p,hp⟩;exact⟨p,a3 b p hp⟩
     · rintro⟨p,hp⟩
       by_cases hb':b<H.length
       ·exact⟨p,(a4 b p hb' hp).2⟩
       ·exact⟨p,by rw[<- a2 b (by omega)];exact hp⟩
   · by_cases hb':b<H.length
     ·exact hs.rel.blk b p (a4 b p hb' hp).1
     · rw[a2 b (by omega)]at hp
       have:=hR.blk b p hp;have:=hs.size;omega
   · rcases g1 b o ho with ⟨h1,h2⟩|⟨h1,h2⟩
     · obtain⟨hp1,_⟩:=a4 b p h1 hp
       exact Z0M ⟨λ_ _ h=>h,a1⟩ rfl (hs.rel.obj b o p h2 hal hp1)
     · rw[a2 b h1]at hp
       exact Z0M hle (same b o p h2 hal h1 hp) (hR.obj b o p h2 hal hp)
   · obtain⟨o0,k1,k2,k3,k4,k5⟩:=old b o p ho hp
     obtain⟨o0',k1',k2',k3',k4',k5'⟩:=old b' o' p' ho' hp'
     rw[k3,k3',k4,k4']
     exact hR.sep b b' o0 o0' p p' k1 k1' (k5 ha) (k5' ha') k2 k2' e
   · obtain⟨h1,h2,h3⟩:=hs.rel.snap a u hu
     refine⟨h1,h2,λb o p ho hal hp e=>?_⟩
     rcases g1 b o ho with ⟨k1,k2⟩|⟨k1,k2⟩
     ·exact h3 b o p k2 hal (a4 b p k1 hp).1 e
     · rw[a2 b k1]at hp
       rcases hs.sfresh a u hu with f1|f1|⟨b0,o0,p0,f1,f2,f3,f4⟩
       ·exact (hR.snap a u f1).2.2 b o p k2 hal hp e
       ·have:=hR.blk b p hp;omega
       ·exact hfam b0 b o0 o p0 p f1 k2 f2 hal k1 (i0' _ _ f3).2 hp (f4.trans e.symm)
   · obtain⟨o0,k1,k2,_,k4,_⟩:=old b o p ho hp
     exact hR.shz b o0 p k1 k2 (by rw[<- k4];exact e)
 · by_cases hb':b<H.length
   ·exact .inl (a4 b p hb' hp).2
   ·rw[a2 b (by omega)]at hp;exact .inl hp
 · rcases hs.sfresh a v hv with f1|f1|⟨b0,o0,p0,f1,f2,f3,f4⟩
   ·exact .inl f1
   ·exact .inr (.inl f1)
   ·exact .inr (.inr ⟨b0,o0,p0,gH _ _ f1,f2,(i0' _ _ f3).2,f4⟩)
 · by_cases hb':b<H.length
   · rw[Y0v hb']at ho
     obtain⟨o',k1,k2,k3,k4⟩:=hs.evo b o ho
     exact⟨o',by rw[Y0v (by omega)];exact k1,k2,k3,k4⟩
   · rw[Y0r (by omega)]at ho
     exact⟨o,by rw[Y0r (by omega),hl];exact ho,rfl,rfl,id⟩
end Go.Abs
end

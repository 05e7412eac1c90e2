/-
  Texts of this proof, one behind the other (part 6).
-/
import Derived.Test.YtneoiadnbikciaaGreatDoorXp5
set_option linter.unusedVariables false
set_option linter.unusedSimpArgs false
set_option maxRecDepth 100000
set_option maxHeartbeats 4000000
open Go.Proofs.Tryz renaming prog → Y00,func41 → Y0f,func108 → Y0m
open Nat renaming beq → Y01,le_refl → Y07,le_trans → Y09,lt_succ_self → Y0h
open List renaming cons_append → Y02,nil_append → Y03,length_cons → Y0b,getElem?_eq_getElem → Y0c,length_nil → Y0i,getElem?_eq_some_iff → Y0j,getElem?_append_left → Y0n,append_nil → Y0p,length_append → Y0v,length_drop → Y0w,mem_of_getElem? → Y0x
open Go.Abs.Wk renaming noref → Y04,map → Y05,ptr → Y0a,bool → Y0d,tuple → Y0g
open Go.Abs.BodyGe renaming z → Y06,cellsL → Y0k
open Go.Abs.FgLK renaming mk → Y08
open Bool renaming eq_false_iff → Y0e,and_self → Y0l,and_eq_true → Y0o,and_false → Y0q,false_eq_true → Y0r,not_true → Y0s,not_false → Y0t
open Option renaming map_some → Y0u
namespace Go.Proofs.YtneoiadnbikciaaGreatDoor.lex
open Go.Abs Go.RowKit
section
variable {gl:Z0g}
def LV:Z00:=[⟨true,1,0,.map [(.str [124,124],.int .i64 5,0)] 1⟩,⟨true,2,0,.map [(.str [38,38],.int .i64 6,0)] 1⟩,⟨true,3,0,.map [(.str [61,61],.int .i64 7,0),(.str [33,61],.int .i64 8,1)] 2⟩,
 ⟨true,4,0,.map [(.str [60],.int .i64 9,0),(.str [60,61],.int .i64 10,1)] 2⟩,⟨true,5,0,.map [(.str [124],.int .i64 11,0)] 1⟩,⟨true,6,0,.map [(.str [94],.int .i64 12,0)] 1⟩,⟨true,7,0,.map [(.str [38],.int .i64 13,0)] 1⟩,
 ⟨true,8,0,.map [(.str [43],.int .i64 14,0),(.str [45],.int .i64 15,1)] 2⟩,⟨true,9,0,.map [(.str [42],.int .i64 16,0)] 1⟩,⟨true,10,0,.cells [.map 1,.map 2,.map 3,.map 4,.map 5,.map 6,.map 7,.map 8,.map 9] 128⟩]
def Zlp(T:List Tq)(e:Int):AV:=cond (e==0) (.rs T.length 4 (tqC T)) bot
def gO(T:List Tq)(s:Ps):AObj:=⟨true,0,0,.cells [Zlp T s.err,.int .i64 (s.i:Nat),.int .i64 s.op,.slice 10 0 9 9 1] 92⟩
def gB(T:List Tq)(s:Ps):Z00:=gO T s::LV
def gD(s:Ps):Z00:=⟨true,0,0,.cells [bot,.int .i64 (s.i:Nat),.int .i64 s.op,.slice 10 0 9 9 1] 92⟩::LV
theorem Z5r{T:List Tq}{s:Ps}(h:s.err≠0):gB T s=gD s:=by
 have e:(s.err==0)=false:=by simpa using h
 unfold gB gD gO Zlp
 rw[e]
 rfl
def Znh(e a:Int):AV:=.iface 88 (.agg [.int .i64 e,.int .i64 a])
def XF(s:Ps):AV->Prop:=λu=>s.err≠0/\u=Znh s.err s.at_
def M11:List Nat:=[0,1,2,3,4,5,6,7,8,9,10]
theorem eG{m:List Nat}:∀{k:List UInt8}{v:Int}{n:Nat}{l l2:List (AV×AV×Nat)},EGe m l l2->EGe m ((.str k,.int .i64 v,n)::l) ((.str k,.int .i64 v,n)::l2):=λh=>⟨Wk.str rfl,Wk.int rfl,rfl,h⟩
theorem ZhA(T:List Tq)(s:Ps):(gB T s).length=11:=rfl
theorem ZhB{T:List Tq}{s s':Ps}:∀(b:Nat)(o o':AObj),(gB T s)[b]? = some o->(gB T s')[b]? = some o'->o'.fam=o.fam/\o'.sh=o.sh/\(o'.alive=true->o.alive=true)
 |0,o,o',h,h'=>by cases h;cases h';exact⟨rfl,rfl,λ_=>rfl⟩
 |b+1,o,o',h,h'=>by
  have h:LV[b]? = some o:=h
  have h':LV[b]? = some o':=h'
  rw[h]at h';cases h'
  exact⟨rfl,rfl,id⟩
theorem Zm9(T:List Tq)(s:Ps):Zd7 (gB T s).length (gB T s)=true:=by
 unfold gB gO Zlp
 cases s.err==0<;>rfl
theorem ZnT{T:List Tq}{s s':Ps}{X X':Z00}(h:gB T s++X=gB T s'++X'):(Zlp T s.err=Zlp T s'.err/\s.i=s'.i/\s.op=s'.op)/\X=X':=by
 simp only[gB,gO,Y02,List.cons.injEq,AV.int.injEq,AObj.mk.injEq,ABody.cells.injEq,true_and,and_true]at h
 obtain⟨⟨h1,h2,h3⟩,h4⟩:=h
 exact⟨⟨h1,by omega,h3⟩,List.append_cancel_left h4⟩
def GX(gl:Z0g)(T:List Tq)(f:Nat)(A:List AV)(s:Ps)(r:AV)(s':Ps):Prop:=MemX Y00 gl (XF s') f A (gB T s) r (gB T s')
theorem GX.of{T:List Tq}{f:Nat}{A:List AV}{s s':Ps}{r:AV}(h:s.err=0->MemXQ Y00 gl (XF s') 11 f A (gB T s) r (gB T s')):GX gl T f A s r s':=by
 by_cases he:s.err=0
 ·exact memx_same (h he) rfl rfl ZhB
 · unfold GX
   exact MemX.dead (by rw[Z5r he];rfl)
theorem GX.dead{T:List Tq}{f:Nat}{A:List AV}{s s':Ps}{r:AV}(h:s.err≠0):GX gl T f A s r s':=GX.of λe=>absurd e h
def Z0z:List Nat:=[0,1,2,3,4,5,6,7,8,9,10]
def Z8y(T:List Tq)(f:Nat)(hb:Z0h Y00 f=true){I:Type}(G:I->Ps->Prop)(A:I->List AV)(R:I->Ps->AV)(N:I->Ps->Ps)(hA:∀i,Z12 11 (refsL (A i) [])=true)(hinj:∀i j,A i=A j->i=j)(ok:∀i s,G i s->GX gl T f (A i) s (R i s) (N i s)):FamX Y00 gl :=
 have h1:∀x y:I×Ps×Z00,(G x.1 x.2.1/\(x.2.1.err=0/\x.2.1.at_=0)/\Z07 Z0z x.2.2=true)->(G y.1 y.2.1/\(y.2.1.err=0/\y.2.1.at_=0)/\Z07 Z0z y.2.2=true)->A x.1=A y.1->gB T x.2.1++x.2.2=gB T y.2.1++y.2.2->R x.1 x.2.1=R y.1 y.2.1/\gB T (N x.1 x.2.1)++x.2.2=gB T (N y.1 y.2.1)++y.2.2:=λx y hx hy h h2=>by
  obtain⟨i,s,X⟩:=x
  obtain⟨j,s',X'⟩:=y
  obtain⟨⟨_,e1,e2⟩,e3⟩:=ZnT h2
  have e4:=hinj _ _ h
  simp only at e1 e2 e3 e4
  subst e3 e4
  obtain⟨a,b,c,d⟩:=s
  obtain⟨a',b',c',d'⟩:=s'
  obtain⟨-,⟨f1,f2⟩,-⟩:=hx
  obtain⟨-,⟨f3,f4⟩,-⟩:=hy
  simp only at e1 e2 f1 f2 f3 f4
  subst e1 e2 f1 f2 f3 f4
  exact⟨rfl,rfl⟩
 { I:=I×Ps×Z00,f:=f,X:=λx=>XF (N x.1 x.2.1),G:=λx=>G x.1 x.2.1/\(x.2.1.err=0/\x.2.1.at_=0)/\Z07 Z0z x.2.2=true,A:=λx=>A x.1,H:=λx=>gB T x.2.1++x.2.2,R:=λx=>R x.1 x.2.1,O:=λx=>gB T (N x.1 x.2.1)++x.2.2,body:=hb,inj:=h1,ok:=λx h=>ZjG (ok x.1 x.2.1 h.1) x.2.2 rfl (hA x.1) (Zm9 T x.2.1) h.2.2 }
theorem XF.less{s s':Ps}(h:s.err≠0->s'.err=s.err/\s'.at_=s.at_):∀u,XF s u->XF s' u:=λu ⟨h1,h2⟩=>by
 obtain⟨h3,h4⟩:=h h1
 exact⟨by rw[h3];exact h1,by rw[h3,h4];exact h2⟩
def ZpZ(f:Nat):Bool:=false
theorem ZeC{T:List Tq}{s:Ps}(hs:PsOK T s){e:Int}(he:e≠0):GX gl T 56 [.ptr 0 0,.int .i64 e] s (.tuple []) (Z0r s e (Z0o T s).pos):=by
 by_cases h0:s.err=0
 case neg=>exact GX.dead h0
 have hx:=tq4 T s.i hs.lt
 rw[<- Z0s hs.lt]at hx
 have hlt:=hs.lt
 have hfew:=hs.few
 unfold GX
 unfold Z0r
 generalize Z0o T s=t at *
 obtain⟨k,tx,nm,ps⟩:=t
 obtain⟨i,err,at_,op⟩:=s
 simp only at h0
 subst h0
 simp only[Tq.cells]at hx hlt⊢
 refine Zk3 Z06 (Z1K follows Z06 (Z0u (gl:=gl)).x 2) Tryz.func56 rfl (Z0p (isC:=ZpZ) 2) ?_
 simp only[gB,gO,Zlp,LV]
 repeat' ((conv=>whnf);first|refine exI hx ?_|(with_reducible refine ixJ i rfl ?_ ?_;focus omega)|refine stp ?_|with_reducible apply Z01<;>intro h)
 exact⟨⟨he,rfl⟩,⟨_,_,rfl⟩,rfl,rfl⟩
end
section
structure Kr (s s':Ps):Prop where
 st:s.err≠0->s'.err=s.err/\s'.at_=s.at_
 no:s'.err=0->s'.at_=s.at_
theorem Kr.rfl'{s:Ps}:Kr s s:=⟨λ_=>⟨rfl,rfl⟩,λ_=>rfl⟩
theorem Kr.eq{s s':Ps}(h:s'.err=s.err)(h2:s'.at_=s.at_):Kr s s':=⟨λ_=>⟨h,h2⟩,λ_=>h2⟩
theorem Kr.trans{a b c:Ps}(h:Kr a b)(k:Kr b c):Kr a c:=by
 refine⟨λe=>?_,λe=>?_⟩
 · obtain⟨h1,h2⟩:=h.st e
   obtain⟨h3,h4⟩:=k.st (by rw[h1];exact e)
   exact⟨h3.trans h1,h4.trans h2⟩
 · by_cases hb:b.err=0
   ·exact (k.no e).trans (h.no hb)
   ·exact absurd ((k.st hb).1.symm.trans e) hb
theorem Kr.live{s s':Ps}(h:Kr s s')(e:s'.err=0):s.err=0:=by
 by_cases hb:s.err=0
 ·exact hb
 ·exact absurd ((h.st hb).1.symm.trans e) hb
theorem Kr.x{s s':Ps}(h:Kr s s'):∀u,XF s u->XF s' u:=XF.less h.st
theorem Z2p(s:Ps){e:Int}(a:Int)(he:e≠0):Kr s (Z0r s e a):=by
 unfold Z0r;split
 ·rename_i h;exact⟨λe=>absurd h e,λh=>absurd h he⟩
 ·exact Kr.rfl'
theorem Z0k(s:Ps):Kr s (Z02 s):=Kr.eq rfl rfl
theorem Z2R(T:List Tq)(s:Ps)(w:List UInt8):Kr s (Z0c T s w):=by
 unfold Z0c;split
 · split
   ·exact Z2p _ _ (by decide)
   ·exact Kr.eq rfl rfl
 ·exact Kr.rfl'
theorem Z0l(T:List Tq)(s:Ps)(w:List UInt8):Kr s (Z03 T s w):=by
 unfold Z03;split
 ·exact Z2R T s w
 ·exact (Z2R T s w).trans (Z2p _ _ (by decide))
theorem Z3F(T:List Tq)(s:Ps):Kr s (Z0a T s):=by
 unfold Z0a;split
 ·exact Kr.eq rfl rfl
 ·exact Z2p _ _ (by decide)
theorem Z3p(T:List Tq):∀(l:List (List UInt8))(s:Ps)(k:Int),Kr s (Z08 T s l k).2
 |[],s,k=>Z2p _ _ (by decide)
 |w::l,s,k=>by
  unfold Z08;split
  ·exact Z2R T s w
  ·exact (Z2R T s w).trans (Z3p T l _ _)
theorem Za7{T:List Tq}{rec1:Ps->Ex×Ps}(hrec:∀s,Kr s (rec1 s).2):∀(l:List (List UInt8×Int))(x:Ex)(s:Ps)(a:Bool),Kr s (Z10 T rec1 l x s a).2.1
 |[],x,s,a=>Kr.rfl'
 |(w,o)::l,x,s,a=>by
  unfold Z10;split
  ·exact (Z2R T s w).trans ((hrec _).trans (Za7 hrec l _ _ _))
  ·exact (Z2R T s w).trans (Za7 hrec l _ _ _)
theorem ZcT{T:List Tq}{rec1:Ps->Ex×Ps}(hrec:∀s,Kr s (rec1 s).2)(l:List (List UInt8×Int)):∀(k:Nat)(x:Ex)(s:Ps),Kr s (Z1F T rec1 l k x s).2
 |0,x,s=>Kr.rfl'
 |k+1,x,s=>by
  unfold Z1F;split
  ·exact (Za7 hrec l _ _ _).trans (ZcT hrec l k _ _)
  ·exact Za7 hrec l _ _ _
theorem Z9H{T:List Tq}{un:Ps->Ex×Ps}(hun:∀s,Kr s (un s).2):∀(m:Nat)(s:Ps),Kr s (Z2P T un m s).2
 |0,s=>hun s
 |m+1,s=>by
  unfold Z2P
  exact (Z9H hun m s).trans (ZcT (Z9H hun m) _ _ _ _)
theorem ZmL{T:List Tq}{ex:Ps->Ex×Ps}(hex:∀s,Kr s (ex s).2)(s:Ps):Kr s (Z19 T ex s).2:=by
 unfold Z19
 repeat' split
 ·exact Kr.rfl'
 ·exact Kr.eq rfl rfl
 ·exact Kr.eq rfl rfl
 ·exact (Z2R T s _).trans ((hex _).trans (Z0l T _ _))
 ·exact (Z2R T s _).trans (Z2p _ _ (by decide))
theorem Zcs(T:List Tq):∀(d:Nat)(s:Ps),Kr s (unF T d s).2
 |0,s=>Kr.rfl'
 |d+1,s=>by
  unfold unF
  have h1:∀x:Int,Kr s { (unF T d { s with i:=s.i+1,op:=s.op+1 }).2 with op:=x }:=λx=>(Kr.eq (s:=s) (s':={ s with i:=s.i+1,op:=s.op+1 }) rfl rfl).trans ((Zcs T d _).trans (Kr.eq rfl rfl))
  split
  ·exact ZmL (λs=>Z9H (Zcs T d) 9 s) s
  · split
    ·exact Z2p _ _ (by decide)
    ·exact h1 _
theorem Z6b(T:List Tq)(s:Ps):Kr s (Z0X T s).2:=Z9H (Zcs T _) 9 s
theorem Z5x(T:List Tq)(s:Ps):Kr s (Z1p T s).2:=(Z0l T s [40]).trans ((Z6b T _).trans (Z0l T _ _))
def kyB(w:List UInt8):Bool:=match w with
 |b::_=>decide (97<=b)&&decide (b<=122)
 |[]=>false
structure TqOK (T:List Tq):Prop where
 sg:∀i (h:i<T.length),T[i].kind=4->kyB T[i].text=false/\T[i].text≠[]
 ky:∀i (h:i<T.length),T[i].kind=2->kyB T[i].text=true
def gis(T:List Tq)(s:Ps)(k:Int)(w:List UInt8):Bool:=(Z0o T s).kind==k&&(Z0o T s).text==w
theorem Z4p{T:List Tq}{s:Ps}(hT:TqOK T)(hs:PsOK T s)(he:s.err=0){w:List UInt8}(hw:kyB w=false):gis T s 4 w=isF T s w:=by
 unfold gis isF
 have h1:=hT.ky s.i hs.lt
 rw[<- Z0s hs.lt]at h1
 rw[he]
 by_cases h2:(Z0o T s).kind=2
 · have h3:=h1 h2
   have h4:((Z0o T s).text==w)=false:=by
    cases hq:(Z0o T s).text==w with
    |false=>rfl
    |true=>rw[eq_of_beq hq,hw]at h3;cases h3
   rw[h4];simp
 · have h3:((Z0o T s).kind==2)=false:=by simpa using h2
   rw[h3];simp
theorem Z4q{T:List Tq}{s:Ps}(hT:TqOK T)(hs:PsOK T s)(he:s.err=0){w:List UInt8}(hw:kyB w=true):gis T s 2 w=isF T s w:=by
 unfold gis isF
 have h1:=hT.sg s.i hs.lt
 rw[<- Z0s hs.lt]at h1
 rw[he]
 by_cases h2:(Z0o T s).kind=4
 · have h3:=(h1 h2).1
   have h4:((Z0o T s).text==w)=false:=by
    cases hq:(Z0o T s).text==w with
    |false=>rfl
    |true=>rw[eq_of_beq hq,hw]at h3;cases h3
   rw[h4];simp
 · have h3:((Z0o T s).kind==4)=false:=by simpa using h2
   rw[h3];simp
theorem Z65{T:List Tq}{s:Ps}{k:Int}{w:List UInt8}(h:gis T s k w=true):(Z0o T s).kind=k:=by
 unfold gis at h
 simp only[Y0o,beq_iff_eq]at h
 exact h.1
def sgF(T:List Tq)(s:Ps)(w:List UInt8):Ps:=if gis T s 4 w=true then Z02 s else Z0r s 5 (Z0o T s).pos
def enF(T:List Tq)(s:Ps)(w:List UInt8):Ps:=if gis T s 4 w=true then (if s.op=200 then Z0r s 3 (Z0o T s).pos else { s with i:=s.i+1,op:=s.op+1 }) else Z0r s 5 (Z0o T s).pos
def lvF(T:List Tq)(s:Ps)(w:List UInt8):Ps:=if gis T s 4 w=true then { s with i:=s.i+1,op:=s.op-1 } else Z0r s 5 (Z0o T s).pos
theorem Zjk{T:List Tq}{s:Ps}(hT:TqOK T)(hs:PsOK T s)(he:s.err=0){w:List UInt8}(hw:kyB w=false)(hk:kwB w=true):sgF T s w=Z03 T s w:=by
 obtain⟨h1,h2⟩:=Z2C (T:=T) (s:=s) hk
 unfold sgF Z03
 rw[Z4p hT hs he hw,h1,h2]
 split
 ·rfl
 ·rfl
theorem ZeJ{T:List Tq}{s:Ps}(hT:TqOK T)(hs:PsOK T s)(he:s.err=0){w:List UInt8}(hw:kyB w=false)(hk:upB w=true):enF T s w=Z03 T s w:=by
 unfold enF Z03 Z0F Z0c
 rw[Z4p hT hs he hw,hk]
 by_cases h1:isF T s w=true
 · by_cases h2:s.op=200
   ·simp[h1,h2,Z0r,he]
   · have h3:(s.op==200)=false:=by simpa using h2
     simp[h1,h2,h3]
 · have h3:isF T s w=false:=by simpa using h1
   simp[h3]
theorem Zen{T:List Tq}{s:Ps}(hT:TqOK T)(hs:PsOK T s)(he:s.err=0){w:List UInt8}(hw:kyB w=false)(hk:upB w=false)(hd:dnB w=true):lvF T s w=Z03 T s w:=by
 unfold lvF Z03 Z0F Z0c
 rw[Z4p hT hs he hw,hk,hd]
 by_cases h1:isF T s w=true
 ·simp[h1]
 · have h3:isF T s w=false:=by simpa using h1
   simp[h3]
end
section
variable {gl:Z0g}
theorem HpGe.toZ{fs:List Nat}{H:Z00}{m:List Nat}:∀{l:List Nat}{H2:Z00}{i:Nat},HpGe H m l H2 i->HpGeZ fs H m l H2 i
 |[],[],_,_=>trivial
 |j::l,o2::H2,i,h=>by
  obtain⟨h1,h2⟩:=h
  obtain⟨o,ho,e1,e2,e3,e4,e5⟩:=Z04 h1
  refine⟨?_,HpGe.toZ h2⟩
  rw[ho]
  exact⟨e1,e2,e3,e4,Y06 e5⟩
 |[],_::_,_,h=>h.elim
 |_::_,[],_,h=>h.elim
def gL(T:List Tq)(i:Nat)(op:Int):Z00:=⟨true,0,0,.cells [.rs T.length 4 (tqC T),.int .i64 i,.int .i64 op,.slice 10 0 9 9 1] 92⟩::LV
theorem Z09{T:List Tq}{s:Ps}(h:s.err=0):gB T s=gL T s.i s.op:=by
 unfold gB gO gL Zlp
 rw[h]
 rfl
theorem Z1h {T : List Tq} {i : Nat} {op : Int} {X X' : Z00} {ms l : List Nat} {i' : Nat} {op' : Int} (hi : i = i') (ho : op = op') (h : HpGe (gL T i op ++ X) (0 :: 1 :: 2 :: 3 :: 4 :: 5 :: 6 :: 7 :: 8 :: 9 :: 10 :: ms) l X' 11) :
  HpGe (gL T i op++X) (0::1::2::3::4::5::6::7::8::9::10::ms) (0::1::2::3::4::5::6::7::8::9::10::l) (gL T i' op'++X') 0:=by
 subst hi ho
 refine⟨⟨rfl,rfl,rfl,rfl,Y0k ⟨Y04 rfl,Wk.int rfl,Wk.int rfl,Wk.slice rfl rfl rfl (Y07 _) (Y07 _) rfl,trivial⟩⟩,⟨rfl,rfl,rfl,rfl,rfl,eG trivial⟩,⟨rfl,rfl,rfl,rfl,rfl,eG trivial⟩,⟨rfl,rfl,rfl,rfl,rfl,eG (eG trivial)⟩,⟨rfl,rfl,rfl,rfl,rfl,eG (eG trivial)⟩,⟨rfl,rfl,rfl,rfl,rfl,eG trivial⟩,⟨rfl,rfl,rfl,rfl,rfl,eG trivial⟩,⟨rfl,rfl,rfl,rfl,rfl,eG trivial⟩,⟨rfl,rfl,rfl,rfl,rfl,eG (eG trivial)⟩,⟨rfl,rfl,rfl,rfl,rfl,eG trivial⟩,⟨rfl,rfl,rfl,rfl,Y0k ?_⟩,h⟩
 exact⟨Y05 rfl,Y05 rfl,Y05 rfl,Y05 rfl,Y05 rfl,Y05 rfl,Y05 rfl,Y05 rfl,Y05 rfl,trivial⟩
theorem Z9y {T : List Tq} {fs : List Nat} {i : Nat} {op : Int} {X X' : Z00} {ms l : List Nat} {i' : Nat} {op' : Int} (hi : i = i') (ho : op = op') (h : HpGeZ fs (gL T i op ++ X) (0 :: 1 :: 2 :: 3 :: 4 :: 5 :: 6 :: 7 :: 8 :: 9 :: 10 :: ms) l X' 11) :
  HpGeZ fs (gL T i op++X) (0::1::2::3::4::5::6::7::8::9::10::ms) (0::1::2::3::4::5::6::7::8::9::10::l) (gL T i' op'++X') 0:=by
 subst hi ho
 refine⟨⟨rfl,rfl,rfl,rfl,Y06 (Y0k ⟨Y04 rfl,Wk.int rfl,Wk.int rfl,Wk.slice rfl rfl rfl (Y07 _) (Y07 _) rfl,trivial⟩)⟩,⟨rfl,rfl,rfl,rfl,Y06 ⟨rfl,eG trivial⟩⟩,⟨rfl,rfl,rfl,rfl,Y06 ⟨rfl,eG trivial⟩⟩,⟨rfl,rfl,rfl,rfl,Y06 ⟨rfl,eG (eG trivial)⟩⟩,⟨rfl,rfl,rfl,rfl,Y06 ⟨rfl,eG (eG trivial)⟩⟩,⟨rfl,rfl,rfl,rfl,Y06 ⟨rfl,eG trivial⟩⟩,⟨rfl,rfl,rfl,rfl,Y06 ⟨rfl,eG trivial⟩⟩,⟨rfl,rfl,rfl,rfl,Y06 ⟨rfl,eG trivial⟩⟩,⟨rfl,rfl,rfl,rfl,Y06 ⟨rfl,eG (eG trivial)⟩⟩,⟨rfl,rfl,rfl,rfl,Y06 ⟨rfl,eG trivial⟩⟩,⟨rfl,rfl,rfl,rfl,Y06 (Y0k ?_)⟩,h⟩
 exact⟨Y05 rfl,Y05 rfl,Y05 rfl,Y05 rfl,Y05 rfl,Y05 rfl,Y05 rfl,Y05 rfl,Y05 rfl,trivial⟩
theorem Z66{T:List Tq}{s:Ps}{i:Nat}{op:Int}{X:Z00}(he:s.err=0)(hi:i=s.i)(ho:op=s.op):HpGe (gL T i op++X) M11 M11 (gB T s) 0:=by
 rw[Z09 he,<- Y0p (gL T s.i s.op)]
 exact Z1h (X':=[]) hi ho trivial
theorem Z0D{T:List Tq}{fs:List Nat}{s:Ps}{i:Nat}{op:Int}{X:Z00}(he:s.err=0)(hi:i=s.i)(ho:op=s.op):HpGeZ fs (gL T i op++X) M11 M11 (gB T s) 0:=HpGe.toZ (Z66 he hi ho)
structure GOK (T:List Tq) (s:Ps):Prop where
 ok:PsOK T s
 er:s.err=0
 at0:s.at_=0
theorem GOK.go{T:List Tq}{s s':Ps}(h:GOK T s)(hg:PsGo T s s')(hk:Kr s s')(he:s'.err=0):GOK T s':=⟨hg.ok,he,(hk.no he).trans h.at0⟩
theorem Z4U {Y : AV -> Prop} {O : Orc} {T : List Tq} {f : Nat} {hb : Z0h Y00 f = true} {I : Type} {G : I -> Ps -> Prop} {A : I -> List AV} {R : I -> Ps -> AV} {N : I -> Ps -> Ps} {hA : ∀ i, Z12 11 (refsL (A i) []) = true} {hinj : ∀ i j, A i = A j -> i = j} {ok : ∀ i s, G i s -> GX gl T f (A i) s (R i s) (N i s)}
  (p:(Z8y T f hb G A R N hA hinj ok).Ask Y O) (i:I) (s:Ps) (X:Z00) (hs:GOK T s) (hG:G i s) (hY:∀u,XF (N i s) u->Y u) (hX:Z07 Z0z X=true):Z05 Y00 O (gL T s.i s.op++X) f (A i)=some (R i s,gB T (N i s)++X):=by
 have:=p (i,s,X) ⟨hG,⟨hs.er,hs.at0⟩,hX⟩ hY
 rw[<- Z09 hs.er]
 exact this
theorem exG{P:Program}{O:Orc}{T:List Tq}{H X:Z00}{f:Nat}{A:List AV}{R:AV}{s':Ps}{K:AV×Z00->Prop}(h:Z05 P O H f A=some (R,gB T s'++X))(hd:s'.err≠0->K (R,gD s'++X))(hl:s'.err=0->K (R,gL T s'.i s'.op++X)):∃r,Z05 P O H f A=some r/\K r:=by
 refine⟨_,h,?_⟩
 by_cases he:s'.err=0
 ·rw[Z09 he];exact hl he
 ·rw[Z5r he];exact hd he
end
section
variable {gl:Z0g}
def gmF(T:List Tq)(s:Ps)(k:Int)(w:List UInt8):Ps:=if gis T s k w=true then Z02 s else s
theorem Znx{T:List Tq}{s:Ps}(hs:PsOK T s)(k:Int)(w:List UInt8):GX gl T 57 [.ptr 0 0,.int .i64 k,.str w] s (.bool (gis T s k w)) (gmF T s k w):=by
 refine GX.of λh0=>?_
 have hx:=tq4 T s.i hs.lt
 rw[<- Z0s hs.lt]at hx
 have hlt:=hs.lt
 have hfew:=hs.few
 unfold gmF gis Z02
 generalize Z0o T s=t at *
 obtain⟨kd,tx,nm,ps⟩:=t
 obtain⟨i,err,at_,op⟩:=s
 simp only at h0
 subst h0
 simp only[Tq.cells]at hx hlt⊢
 have wa:IntKind.i64.wrap ((i:Int)+1)=((i+1:Nat):Int):=Z1D (by omega)
 refine Z1v isQ 3 follows Z06 (Z0u (gl:=gl)).x Tryz.func57 rfl ?_
 rw (occs:=.pos [1]) [Z09 (s:=⟨i,0,at_,op⟩) rfl]
 simp only[gL,LV]
 cases e2:kd==k<;>cases e3:tx==w
 all_goals simp only[Y0q,Bool.false_and,Y0l,Y0r,if_false,if_true]
 all_goals have e4:=congrArg not e3
 all_goals simp only[Y0s,Y0t]at e4
 all_goals repeat' ((conv=>whnf);first|(refine Or.inr ?_)|refine exI hx ?_|(with_reducible refine exW wa ?_)|(with_reducible refine ixJ i rfl ?_ ?_;focus omega)|refine stp ?_|with_reducible apply Z01<;>intro h)
 all_goals (try (conv=>whnf))
 all_goals exact⟨M11,rfl,(by refine Z66 ?_ ?_ ?_<;>rfl),rfl,Y0d (by first|rfl|assumption)⟩
theorem Zm4{T:List Tq}{s:Ps}(hs:PsOK T s)(k:Int)(w:List UInt8):GX gl T 100 [.ptr 0 0,.int .i64 k,.str w] s (.bool (gis T s k w)) s:=by
 refine GX.of λh0=>?_
 have hx:=tq4 T s.i hs.lt
 rw[<- Z0s hs.lt]at hx
 have hlt:=hs.lt
 have hfew:=hs.few
 unfold gis
 generalize Z0o T s=t at *
 obtain⟨kd,tx,nm,ps⟩:=t
 obtain⟨i,err,at_,op⟩:=s
 simp only at h0
 subst h0
 simp only[Tq.cells]at hx hlt⊢
 refine Z1v isQ 3 follows Z06 (Z0u (gl:=gl)).x Tryz.func100 rfl ?_
 rw (occs:=.pos [1]) [Z09 (s:=⟨i,0,at_,op⟩) rfl]
 simp only[gL,LV]
 cases e2:kd==k<;>cases e3:tx==w
 all_goals simp only[Y0q,Bool.false_and,Y0l]
 all_goals repeat' ((conv=>whnf);first|(refine Or.inr ?_)|refine exI hx ?_|(with_reducible refine ixJ i rfl ?_ ?_;focus omega)|refine stp ?_|with_reducible apply Z01<;>intro h)
 all_goals (try (conv=>whnf))
 all_goals exact⟨M11,rfl,(by refine Z66 ?_ ?_ ?_<;>rfl),rfl,Y0d (by first|rfl|assumption)⟩
def Z60(T:List Tq):FamX Y00 gl:=Z8y T 57 (by kernel_rfl) (I:=Int×List UInt8) (λ_ s=>PsOK T s) (λi=>[.ptr 0 0,.int .i64 i.1,.str i.2]) (λi s=>.bool (gis T s i.1 i.2)) (λi s=>gmF T s i.1 i.2) (λ_=>rfl) (λi j h=>by
 obtain⟨a,b⟩:=i
 obtain⟨c,d⟩:=j
 simp only[List.cons.injEq,AV.int.injEq,AV.str.injEq,true_and,and_true]at h
 rw[h.1,h.2]) (λi s h=>Znx h i.1 i.2)
def ZbF(T:List Tq):FamX Y00 gl:=Z8y T 100 (by kernel_rfl) (I:=Int×List UInt8) (λ_ s=>PsOK T s) (λi=>[.ptr 0 0,.int .i64 i.1,.str i.2]) (λi s=>.bool (gis T s i.1 i.2)) (λi s=>s) (λ_=>rfl) (λi j h=>by
 obtain⟨a,b⟩:=i
 obtain⟨c,d⟩:=j
 simp only[List.cons.injEq,AV.int.injEq,AV.str.injEq,true_and,and_true]at h
 rw[h.1,h.2]) (λi s h=>Zm4 h i.1 i.2)
def Z2n(T:List Tq):FamX Y00 gl:=Z8y T 56 (by kernel_rfl) (I:=Int) (λe s=>PsOK T s/\e≠0) (λe=>[.ptr 0 0,.int .i64 e]) (λe s=>.tuple []) (λe s=>Z0r s e (Z0o T s).pos) (λ_=>rfl) (λi j h=>by simpa using h) (λe s h=>ZeC h.1 h.2)
theorem Z1J{s:Ps}{e a:Int}(he:e≠0):(Z0r s e a).err≠0:=by
 unfold Z0r;split
 ·exact he
 ·assumption
def ZjP(f:Nat):Bool:=Y01 f 56
theorem Z6c {T : List Tq} {Y : AV -> Prop} {O : Orc} {e : Int} {i : Nat} {op : Int} {X : Z00} {K : AV × Z00 -> Prop} (p : (Z2n (gl := gl) T).Ask Y O) {s : Ps} (hs : GOK T s) (he : e ≠ 0) (hY : ∀ u, XF (Z0r s e (Z0o T s).pos) u -> Y u) (hi : i = s.i) (ho : op = s.op) (hX : Z07 Z0z X = true) (hd : K (.tuple [], gD s ++ X)) :
  ∃r,Z05 Y00 O (gL T i op++X) 56 [.ptr 0 0,.int .i64 e]=some r/\K r:=by
 subst hi ho
 have h:=Z4U p e s X hs ⟨hs.ok,he⟩ hY hX
 refine⟨_,h,?_⟩
 rw[Z5r (Z1J he)]
 have e2:gD (Z0r s e (Z0o T s).pos)=gD s:=by unfold gD Z0r;split<;>rfl
 rw[e2]
 exact hd
theorem ZjU{T:List Tq}{s:Ps}(hs:PsOK T s)(ha:s.at_=0)(w:List UInt8)(hw:w≠[]):GX gl T 81 [.ptr 0 0,.str w] s (.tuple []) (sgF T s w):=by
 refine GX.of λh0=>?_
 have hg:GOK T s:=⟨hs,h0,ha⟩
 obtain⟨O,hO,⟨p1,-⟩,-⟩:=Z2l (P:=Y00) (gl:=gl) (XF (sgF T s w)) [Z2n T] [] rfl
 have hf:=λ(hn:gis T s 4 w=false) (X:Z00) (K:AV×Z00->Prop) (hX:Z07 Z0z X=true)=>Z6c p1 (i:=s.i) (op:=s.op) (X:=X) (K:=K) (e:=5) hg (by decide) (λu hu=>by unfold sgF;rw[hn];exact hu) rfl rfl hX
 clear p1
 have hx:=tq4 T s.i hs.lt
 rw[<- Z0s hs.lt]at hx
 have hlt:=hs.lt
 have hfew:=hs.few
 have hw2:(w==[])=false:=by simpa using hw
 revert hO
 generalize hY:XF (sgF T s w)=Y
 intro hO
 clear hY
 unfold sgF gis Z02 at *
 generalize Z0o T s=t at *
 obtain⟨kd,tx,nm,ps⟩:=t
 obtain⟨i,err,at_,op⟩:=s
 simp only at h0 ha
 subst h0 ha
 simp only[Tq.cells]at hx hlt⊢
 have wa:IntKind.i64.wrap ((i:Int)+1)=((i+1:Nat):Int):=Z1D (by omega)
 by_cases hb:(kd==4&&tx==w)=true
 · simp only[Y0o,beq_iff_eq]at hb
   obtain⟨rfl,rfl⟩:=hb
   have e3:(!(tx==tx))=false:=by simp
   have e5:(!(tx==[]))=true:=by rw[hw2];rfl
   simp only[BEq.rfl,Y0l,if_true]
   refine Z1v ZjP 3 follows Z06 hO Tryz.func81 rfl ?_
   rw (occs:=.pos [1]) [Z09 (s:=⟨i,0,0,op⟩) rfl]
   simp only[gL,LV]
   clear hf
   repeat' ((conv=>whnf);first|(refine Or.inr ?_)|refine exI hx ?_|(with_reducible refine exW wa ?_)|(with_reducible refine ixJ i rfl ?_ ?_;focus omega)|refine stp ?_|with_reducible apply Z01<;>intro h)
   all_goals (try (conv=>whnf))
   all_goals exact⟨M11,rfl,(by refine Z66 ?_ ?_ ?_<;>rfl),rfl,Y04 rfl⟩
 · have hb:=Y0e.2 hb
   have hf:=hf hb
   refine Z1v ZjP 3 follows Z06 hO Tryz.func81 rfl ?_
   rw (occs:=.pos [1]) [Z09 (s:=⟨i,0,0,op⟩) rfl]
   simp only[gL,LV]at hf⊢
   cases e2:kd==4<;>cases e3:tx==w
   all_goals (try (rw[e2,e3]at hb;cases hb))
   all_goals have e4:=congrArg not e3
   all_goals have e5:=congrArg not hw2
   all_goals have e6:(kd != 4) = !(kd==4):=rfl
   all_goals rw[e2]at e6
   all_goals simp only[Y0s,Y0t]at e4 e5 e6
   all_goals repeat' ((conv=>whnf);first|(exact Or.inl rfl)|(refine Or.inr ?_)|refine exI hx ?_|(refine hf _ _ rfl ?_)|(with_reducible refine exW wa ?_)|(with_reducible refine ixJ i rfl ?_ ?_;focus omega)|refine stp ?_|with_reducible apply Z01<;>intro h)
end
section
variable {gl:Z0g}
theorem ZjR{T:List Tq}{s:Ps}(hs:PsOK T s)(ha:s.at_=0):GX gl T 80 [.ptr 0 0] s (.str (Z0R T s)) (Z0a T s):=by
 refine GX.of λh0=>?_
 have hg:GOK T s:=⟨hs,h0,ha⟩
 obtain⟨O,hO,⟨p1,-⟩,-⟩:=Z2l (P:=Y00) (gl:=gl) (XF (Z0a T s)) [Z2n T] [] rfl
 have hf:=λ(hn:Z1j T s=false) (X:Z00) (K:AV×Z00->Prop) (hX:Z07 Z0z X=true)=>Z6c p1 (i:=s.i) (op:=s.op) (X:=X) (K:=K) (e:=5) hg (by decide) (λu hu=>by unfold Z0a;rw[hn];exact hu) rfl rfl hX
 clear p1
 have hx:=tq4 T s.i hs.lt
 rw[<- Z0s hs.lt]at hx
 have hlt:=hs.lt
 have hfew:=hs.few
 revert hO
 generalize hY:XF (Z0a T s)=Y
 intro hO
 clear hY
 unfold Z0R Z0a Z1j at *
 generalize Z0o T s=t at *
 obtain⟨kd,tx,nm,ps⟩:=t
 obtain⟨i,err,at_,op⟩:=s
 simp only at h0 ha
 subst h0 ha
 simp only[Tq.cells]at hx hlt⊢
 have wa:IntKind.i64.wrap ((i:Int)+1)=((i+1:Nat):Int):=Z1D (by omega)
 by_cases hb:kd=1
 · subst hb
   simp only[BEq.rfl,Y0l,if_true]
   refine Z1v ZjP 3 follows Z06 hO Tryz.func80 rfl ?_
   rw (occs:=.pos [1]) [Z09 (s:=⟨i,0,0,op⟩) rfl]
   simp only[gL,LV]
   clear hf
   repeat' ((conv=>whnf);first|(refine Or.inr ?_)|refine exI hx ?_|(with_reducible refine exW wa ?_)|(with_reducible refine ixJ i rfl ?_ ?_;focus omega)|refine stp ?_|with_reducible apply Z01<;>intro h)
   all_goals (try (conv=>whnf))
   all_goals exact⟨M11,rfl,(by refine Z66 ?_ ?_ ?_<;>rfl),rfl,Y04 rfl⟩
 · have e1:(kd != 1)=true:=by simpa using hb
   have e2:(kd==1)=false:=by simpa using hb
   have hf:=hf (by rw[e2];rfl)
   refine Z1v ZjP 3 follows Z06 hO Tryz.func80 rfl ?_
   rw (occs:=.pos [1]) [Z09 (s:=⟨i,0,0,op⟩) rfl]
   simp only[gL,LV]at hf⊢
   all_goals repeat' ((conv=>whnf);first|(exact Or.inl rfl)|(refine Or.inr ?_)|refine exI hx ?_|(refine hf _ _ rfl ?_)|(with_reducible refine exW wa ?_)|(with_reducible refine ixJ i rfl ?_ ?_;focus omega)|refine stp ?_|with_reducible apply Z01<;>intro h)
theorem Zhr{T:List Tq}{s:Ps}(hs:PsOK T s)(ha:s.at_=0)(w:List UInt8):GX gl T 84 [.ptr 0 0,.str w] s (.tuple []) (enF T s w):=by
 refine GX.of λh0=>?_
 have hg:GOK T s:=⟨hs,h0,ha⟩
 obtain⟨O,hO,⟨p1,-⟩,-⟩:=Z2l (P:=Y00) (gl:=gl) (XF (enF T s w)) [Z2n T] [] rfl
 have hf:=λ(hn:gis T s 4 w=false) (X:Z00) (K:AV×Z00->Prop) (hX:Z07 Z0z X=true)=>Z6c p1 (i:=s.i) (op:=s.op) (X:=X) (K:=K) (e:=5) hg (by decide) (λu hu=>by unfold enF;rw[hn];exact hu) rfl rfl hX
 have hf2:=λ(hn:gis T s 4 w=true) (h2:s.op=200) (X:Z00) (K:AV×Z00->Prop) (hX:Z07 Z0z X=true)=>Z6c p1 (i:=s.i) (op:=s.op) (X:=X) (K:=K) (e:=3) hg (by decide) (λu hu=>by unfold enF;rw[hn,if_pos rfl,if_pos h2];exact hu) rfl rfl hX
 clear p1
 have hx:=tq4 T s.i hs.lt
 rw[<- Z0s hs.lt]at hx
 have hlt:=hs.lt
 have hfew:=hs.few
 have hlo:=hs.lo
 have hhi:=hs.hi
 revert hO
 generalize hY:XF (enF T s w)=Y
 intro hO
 clear hY
 unfold enF gis at *
 generalize Z0o T s=t at *
 obtain⟨kd,tx,nm,ps⟩:=t
 obtain⟨i,err,at_,op⟩:=s
 simp only at h0 ha
 subst h0 ha
 simp only[Tq.cells]at hx hlt hlo hhi⊢
 have wa:IntKind.i64.wrap ((i:Int)+1)=((i+1:Nat):Int):=Z1D (by omega)
 have wb:IntKind.i64.wrap (op+1)=op+1:=Z7h (by omega) (by omega)
 by_cases hb:(kd==4&&tx==w)=true
 · replace hf2:=hf2 hb
   clear hf
   simp only[Y0o,beq_iff_eq]at hb
   obtain⟨rfl,rfl⟩:=hb
   have e3:(!(tx==tx))=false:=by simp
   simp only[BEq.rfl,Y0l,if_true]
   by_cases h2:op=200
   · subst h2
     replace hf2:=hf2 rfl
     refine Z1v ZjP 3 follows Z06 hO Tryz.func84 rfl ?_
     rw (occs:=.pos [1]) [Z09 (s:=⟨i,0,0,200⟩) rfl]
     simp only[gL,LV]at hf2⊢
     repeat' ((conv=>whnf);first|(exact Or.inl rfl)|(refine Or.inr ?_)|refine exI hx ?_|(refine hf2 _ _ rfl ?_)|(with_reducible refine exW wa ?_)|(with_reducible refine exW wb ?_)|(with_reducible refine ixJ i rfl ?_ ?_;focus omega)|refine stp ?_|with_reducible apply Z01<;>intro h)
   · clear hf2
     have e4:decide (200<=op)=false:=by simp;omega
     rw[if_neg h2]
     refine Z1v ZjP 3 follows Z06 hO Tryz.func84 rfl ?_
     rw (occs:=.pos [1]) [Z09 (s:=⟨i,0,0,op⟩) rfl]
     simp only[gL,LV]
     repeat' ((conv=>whnf);first|(refine Or.inr ?_)|refine exI hx ?_|(with_reducible refine exW wa ?_)|(with_reducible refine exW wb ?_)|(with_reducible refine ixJ i rfl ?_ ?_;focus omega)|refine stp ?_|with_reducible apply Z01<;>intro h)
     all_goals (try (conv=>whnf))
     all_goals exact⟨M11,rfl,(by refine Z66 ?_ ?_ ?_<;>rfl),rfl,Y04 rfl⟩
 · have hb:=Y0e.2 hb
   have hf:=hf hb
   clear hf2
   refine Z1v ZjP 3 follows Z06 hO Tryz.func84 rfl ?_
   rw (occs:=.pos [1]) [Z09 (s:=⟨i,0,0,op⟩) rfl]
   simp only[gL,LV]at hf⊢
   cases e2:kd==4<;>cases e3:tx==w
   all_goals (try (rw[e2,e3]at hb;cases hb))
   all_goals have e4:=congrArg not e3
   all_goals simp only[Y0s,Y0t]at e4
   all_goals repeat' ((conv=>whnf);first|(exact Or.inl rfl)|(refine Or.inr ?_)|refine exI hx ?_|(refine hf _ _ rfl ?_)|(with_reducible refine exW wa ?_)|(with_reducible refine ixJ i rfl ?_ ?_;focus omega)|refine stp ?_|with_reducible apply Z01<;>intro h)
theorem Zhq{T:List Tq}{s:Ps}(hs:PsOK T s)(ha:s.at_=0)(w:List UInt8)(hw:w≠[]):GX gl T 86 [.ptr 0 0,.str w] s (.tuple []) (lvF T s w):=by
 refine GX.of λh0=>?_
 have hg:GOK T s:=⟨hs,h0,ha⟩
 obtain⟨O,hO,⟨p1,-⟩,-⟩:=Z2l (P:=Y00) (gl:=gl) (XF (lvF T s w)) [Z2n T] [] rfl
 have hf:=λ(hn:gis T s 4 w=false) (X:Z00) (K:AV×Z00->Prop) (hX:Z07 Z0z X=true)=>Z6c p1 (i:=s.i) (op:=s.op) (X:=X) (K:=K) (e:=5) hg (by decide) (λu hu=>by unfold lvF;rw[hn];exact hu) rfl rfl hX
 clear p1
 have hx:=tq4 T s.i hs.lt
 rw[<- Z0s hs.lt]at hx
 have hlt:=hs.lt
 have hfew:=hs.few
 have hlo:=hs.lo
 have hhi:=hs.hi
 have hw2:(w==[])=false:=by simpa using hw
 revert hO
 generalize hY:XF (lvF T s w)=Y
 intro hO
 clear hY
 unfold lvF gis at *
 generalize Z0o T s=t at *
 obtain⟨kd,tx,nm,ps⟩:=t
 obtain⟨i,err,at_,op⟩:=s
 simp only at h0 ha
 subst h0 ha
 simp only[Tq.cells]at hx hlt hlo hhi⊢
 have wa:IntKind.i64.wrap ((i:Int)+1)=((i+1:Nat):Int):=Z1D (by omega)
 have wb:IntKind.i64.wrap (op-1)=op-1:=Z7h (by omega) (by omega)
 by_cases hb:(kd==4&&tx==w)=true
 · simp only[Y0o,beq_iff_eq]at hb
   obtain⟨rfl,rfl⟩:=hb
   have e3:(!(tx==tx))=false:=by simp
   have e5:(!(tx==[]))=true:=by rw[hw2];rfl
   simp only[BEq.rfl,Y0l,if_true]
   refine Z1v ZjP 4 follows Z06 hO Tryz.func86 rfl ?_
   rw (occs:=.pos [1]) [Z09 (s:=⟨i,0,0,op⟩) rfl]
   simp only[gL,LV]
   clear hf
   repeat' ((conv=>whnf);first|(refine Or.inr ?_)|refine exI hx ?_|(with_reducible refine exW wa ?_)|(with_reducible refine exW wb ?_)|(with_reducible refine ixJ i rfl ?_ ?_;focus omega)|refine stp ?_|with_reducible apply Z01<;>intro h)
   all_goals (try (conv=>whnf))
   all_goals exact⟨M11,rfl,(by refine Z66 ?_ ?_ ?_<;>rfl),rfl,Y04 rfl⟩
 · have hb:=Y0e.2 hb
   have hf:=hf hb
   refine Z1v ZjP 4 follows Z06 hO Tryz.func86 rfl ?_
   rw (occs:=.pos [1]) [Z09 (s:=⟨i,0,0,op⟩) rfl]
   simp only[gL,LV]at hf⊢
   cases e2:kd==4<;>cases e3:tx==w
   all_goals (try (rw[e2,e3]at hb;cases hb))
   all_goals have e4:=congrArg not e3
   all_goals have e5:=congrArg not hw2
   all_goals have e6:(kd != 4) = !(kd==4):=rfl
   all_goals rw[e2]at e6
   all_goals simp only[Y0s,Y0t]at e4 e5 e6
   all_goals repeat' ((conv=>whnf);first|(exact Or.inl rfl)|(refine Or.inr ?_)|refine exI hx ?_|(refine hf _ _ rfl ?_)|(with_reducible refine exW wa ?_)|(with_reducible refine ixJ i rfl ?_ ?_;focus omega)|refine stp ?_|with_reducible apply Z01<;>intro h)
end
section
variable {gl:Z0g}
def Z64(T:List Tq):FamX Y00 gl:=Z8y T 81 (by kernel_rfl) (I:=List UInt8) (λw s=>PsOK T s/\s.at_=0/\w≠[]) (λw=>[.ptr 0 0,.str w]) (λw s=>.tuple []) (λw s=>sgF T s w) (λ_=>rfl) (λi j h=>by simpa using h) (λw s h=>ZjU h.1 h.2.1 w h.2.2)
def Z4o(T:List Tq):FamX Y00 gl:=Z8y T 86 (by kernel_rfl) (I:=List UInt8) (λw s=>PsOK T s/\s.at_=0/\w≠[]) (λw=>[.ptr 0 0,.str w]) (λw s=>.tuple []) (λw s=>lvF T s w) (λ_=>rfl) (λi j h=>by simpa using h) (λw s h=>Zhq h.1 h.2.1 w h.2.2)
def Z2D(T:List Tq):FamX Y00 gl:=Z8y T 84 (by kernel_rfl) (I:=List UInt8) (λw s=>PsOK T s/\s.at_=0) (λw=>[.ptr 0 0,.str w]) (λw s=>.tuple []) (λw s=>enF T s w) (λ_=>rfl) (λi j h=>by simpa using h) (λw s h=>Zhr h.1 h.2 w)
def Z63(T:List Tq):FamX Y00 gl:=Z8y T 80 (by kernel_rfl) (I:=Unit) (λ_ s=>PsOK T s/\s.at_=0) (λ_=>[.ptr 0 0]) (λ_ s=>.str (Z0R T s)) (λ_ s=>Z0a T s) (λ_=>rfl) (λ_ _ _=>rfl) (λ_ s h=>ZjR h.1 h.2)
theorem ZnN{T:List Tq}{s:Ps}{k:Int}{w:List UInt8}(h:gis T s k w=true):gmF T s k w=Z02 s:=by unfold gmF;rw[if_pos h]
theorem ZnO{T:List Tq}{s:Ps}{k:Int}{w:List UInt8}(h:gis T s k w=false):gmF T s k w=s:=by unfold gmF;rw[h];rfl
section
variable {Y:AV->Prop} {O:Orc} {T:List Tq}
theorem Zld (p : (Z60 (gl := gl) T).Ask Y O) {s : Ps} (hs : GOK T s) {k : Int} {w : List UInt8} (h : gis T s k w = true) (hY : ∀ u, XF (Z02 s) u -> Y u) {X : Z00} (hX : Z07 Z0z X = true) :
  Z05 Y00 O (gL T s.i s.op++X) 57 [.ptr 0 0,.int .i64 k,.str w]=some (.bool true,gL T (s.i+1) s.op++X):=by
 have:=Z4U p (k,w) s X hs hs.ok (λu hu=>hY u (by simpa only[ZnN h]using hu)) hX
 simp only[ZnN h,h]at this
 rw[Z09 (s:=Z02 s) hs.er]at this
 exact this
theorem Z8Y{s:Ps}(h:s.err=0)(u:AV):¬XF s u:=λk=>k.1 h
theorem Zga (p : (Z60 (gl := gl) T).Ask Y O) {s : Ps} (hs : GOK T s) {k : Int} {w : List UInt8} (h : gis T s k w = false) {X : Z00} (hX : Z07 Z0z X = true) :
  Z05 Y00 O (gL T s.i s.op++X) 57 [.ptr 0 0,.int .i64 k,.str w]=some (.bool false,gL T s.i s.op++X):=by
 have:=Z4U p (k,w) s X hs hs.ok (λu hu=>(Z8Y hs.er u (by simpa only[ZnO h]using hu)).elim) hX
 simp only[ZnO h,h]at this
 rw[Z09 hs.er]at this
 exact this
theorem Zkt (p : (ZbF (gl := gl) T).Ask Y O) {s : Ps} (hs : GOK T s) {k : Int} {w : List UInt8} {b : Bool} (h : gis T s k w = b) {X : Z00} (hX : Z07 Z0z X = true) :
  Z05 Y00 O (gL T s.i s.op++X) 100 [.ptr 0 0,.int .i64 k,.str w]=some (.bool b,gL T s.i s.op++X):=by
 have:=Z4U p (k,w) s X hs hs.ok (λu hu=>(Z8Y hs.er u hu).elim) hX
 rw[Z09 hs.er]at this
 subst h
 exact this
end
theorem Znr:∀w∈ordL,kyB w=true/\kwB w=true:=by decide
theorem Zns(i:Nat)(h:i<6):Z6j Y00 9 (ordL.map AV.str) ((i:Int).toNat*1)=some (.str (ordL[i]'h)):=by
 match i,h with
 |0,h=>rfl
 |1,h=>rfl
 |2,h=>rfl
 |3,h=>rfl
 |4,h=>rfl
 |5,h=>rfl
theorem ZpG{A B:Prop}(a:A)(b:B):A/\B:=⟨a,b⟩
def Zq1(f:Nat):Bool:=Y01 f 57 || Y01 f 56
theorem Zhm{T:List Tq}(hT:TqOK T){s:Ps}(hs:PsOK T s)(ha:s.at_=0):GX gl T 85 [.ptr 0 0] s (.int .i64 (Z08 T s ordL 1).1) (Z08 T s ordL 1).2:=by
 refine GX.of λh0=>?_
 have hg:GOK T s:=⟨hs,h0,ha⟩
 generalize hR:Z08 T s ordL 1=R
 obtain⟨Ro,Rs⟩:=R
 simp only
 obtain⟨O,hO,⟨p1,p2,-⟩,-⟩:=Z2l (P:=Y00) (gl:=gl) (XF Rs) [Z60 T,Z2n T] [] rfl
 have hlt:=hs.lt
 have hfew:=hs.few
 refine Z1v Zq1 3 follows Z06 hO Tryz.func85 rfl ?_
 rw (occs:=.pos [1]) [Z09 h0]
 simp only[gL,LV]
 repeat' ((conv=>whnf);first|(refine Or.inr ?_)|refine stp ?_|with_reducible apply Z01<;>intro h)
 conv=>whnf
 refine⟨Nat,(λx=>x<=6/\Z08 T s (ordL.drop x) ((x:Int)+1)=(Ro,Rs)),(λx=>[(0,.ptr 0 0),(5,.agg (ordL.map AV.str)),(6,.int .i64 (x:Nat))]),(λx=>gL T s.i s.op),(λx=>6-x),⟨0,⟨Nat.zero_le _,hR⟩,?_⟩,?_⟩
 · refine Y08 M11 rfl rfl ?_ ?_ rfl
   ·exact wks
   · have h:=Z1h (T:=T) (i:=s.i) (op:=s.op) (X:=[]) (X':=[]) (ms:=[]) (l:=[]) rfl rfl trivial
     exact h
 clear hR
 rintro i ⟨hi,hf⟩
 (try dsimp only at hi hf)
 (try dsimp only)
 by_cases h6:i<6
 · have e1:decide ((i:Int)<6)=true:=by simp;omega
   have hw:=Zns i h6
   have h7:(0:Int)<=(i:Int)/\(i:Int)<((6:Nat):Int):=by omega
   have wa:IntKind.i64.wrap ((i:Int)+1)=((i+1:Nat):Int):=Z1D (by omega)
   have wb:IntKind.i64.wrap (1+(i:Int))=(i:Int)+1:=by rw[Int.add_comm];exact Z7h (by omega) (by omega)
   have hk:=Znr (ordL[i]'h6) (List.getElem_mem _)
   rw[List.drop_eq_getElem_cons (l:=ordL) h6]at hf
   simp only[Z08]at hf
   generalize ordL[i]'h6=w at *
   have hgi:=Z4q hT hs h0 hk.1
   obtain⟨k1,k2⟩:=Z2C (T:=T) (s:=s) hk.2
   rw[k1,k2]at hf
   rw[<- hgi]at hf
   cases hb:gis T s 2 w with
   |true =>
    rw[hb,if_pos rfl,if_pos rfl]at hf
    simp only[Prod.mk.injEq]at hf
    obtain⟨rfl,rfl⟩:=hf
    have q:=λX hX=>Zld p1 hg hb (λu hu=>hu) (X:=X) hX
    clear p1 p2
    simp only[gL,LV]at q⊢
    repeat' ((conv=>whnf);first|(refine Or.inr ?_)|refine exI (q _ rfl) ?_|(with_reducible refine ZpG h7 ?_)|refine exI hw ?_|(with_reducible refine exW wb ?_)|(with_reducible refine ixJ i rfl ?_ ?_;focus omega)|refine stp ?_|with_reducible apply Z01<;>intro h)
    all_goals (conv=>whnf)
    all_goals exact⟨M11,rfl,(by refine Z66 ?_ ?_ ?_<;>first|rfl|exact h0),rfl,Y04 rfl⟩
   |false =>
    rw[hb,if_neg (by decide),if_neg (by decide)]at hf
    have q:=λX hX=>Zga p1 hg hb (X:=X) hX
    clear p1 p2
    simp only[gL,LV]at q⊢
    repeat' ((conv=>whnf);first|(refine Or.inr ?_)|refine exI (q _ rfl) ?_|(with_reducible refine ZpG h7 ?_)|refine exI hw ?_|(with_reducible refine exW wa ?_)|(with_reducible refine ixJ i rfl ?_ ?_;focus omega)|refine stp ?_|with_reducible apply Z01<;>intro h)
    conv=>whnf
    refine⟨i+1,⟨h6,hf⟩,by show 6-(i+1)<6-i;omega,?_⟩
    refine Y08 M11 rfl rfl ?_ ?_ rfl
    ·exact wks
    ·refine Z1h (l:=[]) (ms:=[]) (X':=[]) ?_ ?_ trivial<;>rfl
 · have e1:decide ((i:Int)<6)=false:=by simp;omega
   rw[List.drop_eq_nil_of_le (by show 6<=i;omega)]at hf
   simp only[Z08,Prod.mk.injEq]at hf
   obtain⟨rfl,rfl⟩:=hf
   have q:=λX K hX=>Z6c p2 (i:=s.i) (op:=s.op) (X:=X) (K:=K) (e:=5) hg (by decide) (λu hu=>hu) rfl rfl hX
   clear p1 p2
   simp only[gL,LV]at q⊢
   repeat' ((conv=>whnf);first|(exact Or.inl rfl)|(refine Or.inr ?_)|(refine q _ _ rfl ?_)|refine stp ?_|with_reducible apply Z01<;>intro h)
end
section
variable {gl:Z0g}
inductive GCh (T:List Tq) (rec1:Ps->Ex×Ps) (l:List (List UInt8×Int)):Nat->Ex->Ps->Ex->Ps->Prop
 |stop (x:Ex) (s:Ps) (h:∀p∈l,isF T s p.1=false):GCh T rec1 l 0 x s x s
 |go (j:Nat) (x:Ex) (s:Ps) (p:List UInt8×Int) (x':Ex) (s':Ps) (hp:p∈l) (hi:isF T s p.1=true) (h:GCh T rec1 l j (.mk p.2 0 [] [x,(rec1 (Z02 s)).1]) (rec1 (Z02 s)).2 x' s'):GCh T rec1 l (j+1) x s x' s'
theorem Z1G{T:List Tq}{s:Ps}{w:List UInt8}(h:isF T s w=true):(Z0o T s).text=w:=by
 unfold isF at h
 simp only[Y0o,beq_iff_eq]at h
 exact h.2.2
theorem Zal {T : List Tq} {rec1 : Ps -> Ex × Ps} {l : List (List UInt8 × Int)} (hk : ∀ p ∈ l, kwB p.1 = true) (hu : ∀ p ∈ l, ∀ q ∈ l, p.1 = q.1 -> p = q) : ∀ (l2 : List (List UInt8 × Int)), (∀ p ∈ l2, p ∈ l) -> ∀ (j : Nat) (x : Ex) (s : Ps) (x' : Ex) (s' : Ps) (a : Bool), GCh T rec1 l j x s x' s' ->
  ∃j',GCh T rec1 l j' (Z10 T rec1 l2 x s a).1 (Z10 T rec1 l2 x s a).2.1 x' s'/\((j'<j/\(Z10 T rec1 l2 x s a).2.2=true)\/(j'=j/\Z10 T rec1 l2 x s a=(x,s,a)/\∀p∈l2,isF T s p.1=false))
 |[],hl,j,x,s,x',s',a,h=>⟨j,h,.inr ⟨rfl,rfl,λp hp=>by cases hp⟩⟩
 |(w,o)::l2,hl,j,x,s,x',s',a,h=>by
  have hm:=hl _ (List.mem_cons_self ..)
  obtain⟨t1,t2⟩:=Z2C (T:=T) (s:=s) (hk _ hm)
  simp only at t1 t2
  have hl2:∀p∈l2,p∈l:=λp hp=>hl p (List.mem_cons_of_mem _ hp)
  cases hw:isF T s w with
  |true =>
   rw[hw]at t1 t2
   rw[if_pos rfl]at t2
   have e:Z10 T rec1 ((w,o)::l2) x s a=Z10 T rec1 l2 (.mk o 0 [] [x,(rec1 (Z02 s)).1]) (rec1 (Z02 s)).2 true:=by
    rw[Z10,t1,t2,if_pos rfl]
   rw[e]
   cases h with
   |stop _ _ h=>have:=h _ hm;simp only at this;rw[hw]at this;cases this
   |go j _ _ p _ _ hp hi h =>
    have h1:p=(w,o):=hu p hp (w,o) hm ((Z1G hi).symm.trans (Z1G hw))
    subst h1
    obtain⟨j',h2,h3⟩:=Zal hk hu l2 hl2 j _ _ x' s' true h
    refine⟨j',h2,.inl ?_⟩
    rcases h3 with h3|⟨h3,h4,_⟩
    ·exact⟨by omega,h3.2⟩
    ·exact⟨by omega,by rw[h4]⟩
  |false =>
   rw[hw]at t1 t2
   rw[if_neg (by decide)]at t2
   have e:Z10 T rec1 ((w,o)::l2) x s a=Z10 T rec1 l2 x s a:=by
    rw[Z10,t1,t2,if_neg (by decide)]
   rw[e]
   obtain⟨j',h2,h3⟩:=Zal hk hu l2 hl2 j x s x' s' a h
   refine⟨j',h2,?_⟩
   rcases h3 with h3|⟨h3,h4,h5⟩
   ·exact .inl h3
   · refine .inr ⟨h3,h4,λp hp=>?_⟩
     rcases List.mem_cons.1 hp with rfl|hp
     ·exact hw
     ·exact h5 p hp
theorem ZeB{T:List Tq}{rec1:Ps->Ex×Ps}{l:List (List UInt8×Int)}(hk:∀p∈l,kwB p.1=true)(hu:∀p∈l,∀q∈l,p.1=q.1->p=q):∀(k j:Nat)(x:Ex)(s:Ps)(x':Ex)(s':Ps),j<k->GCh T rec1 l j x s x' s'->Z1F T rec1 l k x s=(x',s')
 |0,j,x,s,x',s',hj,h=>by omega
 |k+1,j,x,s,x',s',hj,h=>by
  obtain⟨j',h2,h3⟩:=Zal hk hu l (λ_ h=>h) j x s x' s' false h
  unfold Z1F
  rcases h3 with ⟨h3,h4⟩|⟨h3,h4,h5⟩
  · rw[if_pos h4]
    exact ZeB hk hu k j' _ _ x' s' (by omega) h2
  · rw[h4]
    simp only[Y0r,if_false]
    rw[h4,h3]at h2
    simp only at h2
    cases h with
    |stop=>rfl
    |go j _ _ p _ _ hp hi h=>have:=h5 p hp;rw[hi]at this;cases this
theorem ZkV:∀j,j<=8->(∀p∈lvS j,kwB p.1=true/\kyB p.1=false)/\(∀p∈lvS j,∀q∈lvS j,p.1=q.1->p=q):=by
 intro j hj
 have:j=0\/j=1\/j=2\/j=3\/j=4\/j=5\/j=6\/j=7\/j=8:=by omega
 rcases this with rfl|rfl|rfl|rfl|rfl|rfl|rfl|rfl|rfl<;>decide
theorem ZkW{T:List Tq}{i0:Nat}{rec1:Ps->Ex×Ps}(hrec:∀s,PsOK T s->i0<=s.i->PsGo T s (rec1 s).2)(l:List (List UInt8×Int)):∀(k:Nat)(x:Ex)(s:Ps),PsOK T s->i0<=s.i->T.length-s.i<k->∃j x' s',j<k/\GCh T rec1 l j x s x' s'
 |0,x,s,hs,hi,hk=>by omega
 |k+1,x,s,hs,hi,hk=>by
  by_cases h:∀p∈l,isF T s p.1=false
  ·exact⟨0,x,s,by omega,.stop x s h⟩
  · obtain ⟨p, hp, h2⟩ : ∃ p, p ∈ l /\ isF T s p.1 = true := by
     refine Classical.byContradiction λhn=>h λp hp=>?_
     cases hw:isF T s p.1 with
     |false=>rfl
     |true=>exact absurd ⟨p,hp,hw⟩ hn
    have h3:=Z0b hs h2
    have h4:=hrec _ h3.ok (Y09 hi h3.on)
    have h5:s.i+1<=(rec1 (Z02 s)).2.i:=h4.on
    have h6:=hs.lt
    obtain⟨j,x',s',hj,hc⟩:=ZkW hrec l k (.mk p.2 0 [] [x,(rec1 (Z02 s)).1]) (rec1 (Z02 s)).2 h4.ok (Y09 (Y09 hi h3.on) h4.on) (by omega)
    exact⟨j+1,x',s',by omega,.go j x s p x' s' hp h2 hc⟩
theorem ZjX{T:List Tq}{i0:Nat}{rec1:Ps->Ex×Ps}(hrec:∀s,PsOK T s->i0<=s.i->PsGo T s (rec1 s).2){n:Nat}(hn:n<=8){x:Ex}{s:Ps}(hs:PsOK T s)(hi:i0<=s.i):∃j,GCh T rec1 (lvS n) j x s (Z1F T rec1 (lvS n) (T.length+1) x s).1 (Z1F T rec1 (lvS n) (T.length+1) x s).2:=by
 obtain⟨j,x',s',hj,hc⟩:=ZkW hrec (lvS n) (T.length+1) x s hs hi (by omega)
 obtain⟨h1,h2⟩:=ZkV n hn
 have:=ZeB (λp hp=>(h1 p hp).1) h2 _ _ _ _ _ _ hj hc
 rw[this]
 exact⟨j,hc⟩
def Z6E(tx:List UInt8):List (AV×AV×Nat)->Prop
 |[]=>True
 |(.str w,_,_)::l=>(tx==w)=false/\Z6E tx l
 |_::_=>False
theorem Z9s{tx:List UInt8}:∀{es:List (AV×AV×Nat)}(i:Nat),Z6E tx es->Z6T .string (.str tx) es i=some none
 |[],i,_=>rfl
 |(.str w,v,n)::l,i,h=>by
  have h1:ZaS .string (.str tx) (.str w)=some false:=by show some (tx==w)=some false;rw[h.1]
  simp only[Z6T,h1]
  exact Z9s (i+1) h.2
theorem ZlQ{P:Program}{t e:TypeId}{m z:AV}{tx:List UInt8}{H:Z00}{es:List (AV×AV×Nat)}(hd:Z5q P t=some (.string,e))(hz:Z47 P e=some z)(hm:ZfB H m=some es)(hs:Z6E tx es):Z2m P t m (.str tx) true H=some (.tuple [z,.bool false]):=by
 simp only[Z2m,hd,hm,Z9s 0 hs,hz]
 rfl
theorem ZnB{P:Program}{t e:TypeId}{m k v:AV}{d:TypeDesc}{i:Nat}{H:Z00}{es:List (AV×AV×Nat)}(hd:Z5q P t=some (d,e))(hm:ZfB H m=some es)(hs:Z6T d k es 0=some (some (i,v))):Z2m P t m k true H=some (.tuple [v,.bool true]):=by
 simp only[Z2m,hd,hm,hs]
 rfl
theorem ZnQ{T:List Tq}{rec1:Ps->Ex×Ps}{l:List (List UInt8×Int)}(hkr:∀s,Kr s (rec1 s).2){j:Nat}{x x':Ex}{s s':Ps}(h:GCh T rec1 l j x s x' s'):Kr s s':=by
 induction h with
 |stop=>exact Kr.rfl'
 |go j x s p x' s' hp hi h ih=>exact (Z0k s).trans ((hkr _).trans ih)
theorem Zny{n:Nat}(hn:n<=8){p:List UInt8×Int}(hp:p∈lvS n):(n=0/\p=([124,124],5))\/(n=1/\p=([38,38],6))\/(n=2/\p=([61,61],7))\/(n=2/\p=([33,61],8))\/(n=3/\p=([60],9))\/(n=3/\p=([60,61],10))\/(n=4/\p=([124],11))\/(n=5/\p=([94],12))\/(n=6/\p=([38],13))\/(n=7/\p=([43],14))\/(n=7/\p=([45],15))\/(n=8/\p=([42],16)):=by
 have:n=0\/n=1\/n=2\/n=3\/n=4\/n=5\/n=6\/n=7\/n=8:=by omega
 rcases this with rfl|rfl|rfl|rfl|rfl|rfl|rfl|rfl|rfl
 all_goals (simp only[lvS,List.mem_cons,List.not_mem_nil,or_false]at hp)
 all_goals (first|(rcases hp with rfl|rfl)|subst hp)
 all_goals simp
theorem ZjF{n:Nat}(hn:n<=8){tx:List UInt8}(h:∀p∈lvS n,(tx==p.1)=false):(n=0/\Z6E tx [(.str [124,124],.int .i64 5,0)])\/(n=1/\Z6E tx [(.str [38,38],.int .i64 6,0)])\/(n=2/\Z6E tx [(.str [61,61],.int .i64 7,0),(.str [33,61],.int .i64 8,1)])\/(n=3/\Z6E tx [(.str [60],.int .i64 9,0),(.str [60,61],.int .i64 10,1)])\/(n=4/\Z6E tx [(.str [124],.int .i64 11,0)])\/(n=5/\Z6E tx [(.str [94],.int .i64 12,0)])\/(n=6/\Z6E tx [(.str [38],.int .i64 13,0)])\/(n=7/\Z6E tx [(.str [43],.int .i64 14,0),(.str [45],.int .i64 15,1)])\/(n=8/\Z6E tx [(.str [42],.int .i64 16,0)]):=by
 have:n=0\/n=1\/n=2\/n=3\/n=4\/n=5\/n=6\/n=7\/n=8:=by omega
 rcases this with rfl|rfl|rfl|rfl|rfl|rfl|rfl|rfl|rfl
 all_goals (simp only[lvS,List.forall_mem_cons]at h)
 all_goals simp[Z6E,h]
structure Jg where
 j:Nat
 x:Ex
 s:Ps
def Zhp(T:List Tq)(n:Nat)(rec1:Ps->Ex×Ps)(G:Ps->Prop)(ok:∀s,G s->GX gl T 77 [.ptr 0 0,.int .i64 (n:Nat)] s (.agg (rec1 s).1.cells) (rec1 s).2):FamX Y00 gl:=Z8y T 77 (by kernel_rfl) (I:=Unit) (λ_ s=>G s) (λ_=>[.ptr 0 0,.int .i64 (n:Nat)]) (λ_ s=>.agg (rec1 s).1.cells) (λ_ s=>(rec1 s).2) (λ_=>rfl) (λ_ _ _=>rfl) (λ_ s h=>ok s h)
def Zpx(f:Nat):Bool:=Y01 f 77 || Y01 f 108
theorem Zd0 {T : List Tq} (hT : TqOK T) {n : Nat} (hn : n <= 8) {rec1 : Ps -> Ex × Ps} {s0 : Ps} (hs0 : PsOK T s0) (ha0 : s0.at_ = 0) (hrec : ∀ s, PsOK T s -> s0.i <= s.i -> PsGo T s (rec1 s).2) (hkr : ∀ s, Kr s (rec1 s).2)
  (hq:∀s,GOK T s->s0.i<=s.i->GX gl T 77 [.ptr 0 0,.int .i64 ((n+1:Nat):Int)] s (.agg (rec1 s).1.cells) (rec1 s).2) :
  GX gl T 77 [.ptr 0 0,.int .i64 (n:Nat)] s0 (.agg (Z1F T rec1 (lvS n) (T.length+1) (rec1 s0).1 (rec1 s0).2).1.cells) (Z1F T rec1 (lvS n) (T.length+1) (rec1 s0).1 (rec1 s0).2).2:=by
 refine GX.of λh0=>?_
 have hg0:GOK T s0:=⟨hs0,h0,ha0⟩
 have h00:=hrec s0 hs0 (Y07 _)
 have hkrL:Kr (rec1 s0).2 (Z1F T rec1 (lvS n) (T.length+1) (rec1 s0).1 (rec1 s0).2).2:=ZcT hkr _ _ _ _
 obtain⟨j0,hch⟩:=ZjX hrec hn (x:=(rec1 s0).1) h00.ok h00.on
 generalize Z1F T rec1 (lvS n) (T.length+1) (rec1 s0).1 (rec1 s0).2=R at *
 obtain⟨⟨Ro,Rn,Rt,Rk⟩,Rs⟩:=R
 simp only at hch hkrL⊢
 obtain⟨O,hO,⟨p1,-⟩,-⟩:=Z2l (P:=Y00) (gl:=gl) (XF Rs) [Zhp T (n+1) rec1 (λs=>GOK T s/\s0.i<=s.i) (λs h=>hq s h.1 h.2)] [] rfl
 have q:=λs X (h:GOK T s) (hi:s0.i<=s.i) (hk:Kr (rec1 s).2 Rs) (hX:Z07 Z0z X=true)=>Z4U p1 () s X h ⟨h,hi⟩ hk.x hX
 clear p1
 have hr0:=λX hX=>q s0 X hg0 (Y07 _) hkrL hX
 have hgo0:=λhe=>hg0.go h00 (hkr s0) he
 have hi0:=h00.on
 have wn:IntKind.i64.wrap ((n:Int)+1)=((n+1:Nat):Int):=Z1D (by omega)
 have en:((n:Int)==9)=false:=by simp;omega
 generalize rec1 s0=r0 at *
 obtain⟨⟨xo,xn,xt,xk⟩,s1⟩:=r0
 refine Z0t Zpx 3 follows Z06 hO Tryz.func77 rfl ?_
 rw (occs:=.pos [1]) [Z09 h0]
 simp only[gL,LV,Ex.cells]at hr0⊢
 repeat' ((conv=>whnf);first|(exact Or.inl rfl)|(refine Or.inr ?_)|(with_reducible refine exW wn ?_)|(refine exG (hr0 _ rfl) (λhd=>?_) (λe1=>?_))|refine stp ?_|with_reducible apply Z01<;>intro h)
 conv=>whnf
 have hg1:=hgo0 e1
 refine⟨Jg,(λy=>GOK T y.s/\s0.i<=y.s.i/\GCh T rec1 (lvS n) y.j y.x y.s (.mk Ro Rn Rt Rk) Rs),(λy=>[(0,.ptr 0 0),(1,.int .i64 (n:Nat)),(4,.ptr 11 0),(5,.ptr 12 0)]),
  (λy=>gL T y.s.i y.s.op++[⟨true,11,0,.cells zE 47⟩,⟨true,12,0,.cells y.x.cells 47⟩]),(λy=>y.j),⟨⟨j0,.mk xo xn xt xk,s1⟩,⟨hg1,hi0,hch⟩,?_⟩,?_⟩
 · refine Y08 [0,1,2,3,4,5,6,7,8,9,10,11,12] rfl rfl ?_ ?_ rfl
   ·exact wks
   ·refine Z1h (l:=[11,12]) ?_ ?_ ⟨hbp,hbp,trivial⟩<;>rfl
 clear hr0 hgo0 hi0 hg1 hch hkrL h00 e1
 rintro⟨j,⟨xo,xn,xt,xk⟩,s⟩ ⟨hs,hi,hch⟩
 dsimp only at hs hi hch
 (try dsimp only)
 have hx:=tq4 T s.i hs.ok.lt
 rw[<- Z0s hs.ok.lt]at hx
 have hlt:=hs.ok.lt
 have hfew:=hs.ok.few
 have wa:IntKind.i64.wrap ((s.i:Int)+1)=((s.i+1:Nat):Int):=Z1D (by omega)
 cases hch with
 |stop _ _ h =>
  clear q
  have hm:(Z0o T Rs).kind=4->∀p∈lvS n,((Z0o T Rs).text==p.1)=false:=λhk p hp=>by
   have h1:=h p hp
   unfold isF at h1
   rw[hs.er,hk]at h1
   simpa using h1
  clear h
  have her:=hs.er
  generalize Z0o T Rs=t at *
  obtain⟨kd,tx,nm,ps⟩:=t
  obtain⟨i,err,at_,op⟩:=Rs
  simp only[Tq.cells,Ex.cells,zE]at hx hm hlt wa her⊢
  by_cases hk:kd=4
  · subst hk
    have hm:=hm rfl
    rcases ZjF hn hm with ⟨rfl,hms⟩|⟨rfl,hms⟩|⟨rfl,hms⟩|⟨rfl,hms⟩|⟨rfl,hms⟩|⟨rfl,hms⟩|⟨rfl,hms⟩|⟨rfl,hms⟩|⟨rfl,hms⟩
    all_goals simp only[gL,LV,Y02,Y03]
    all_goals repeat' ((conv=>whnf);first|(refine Or.inr ?_)|refine exI hx ?_|refine exI (ZlQ rfl rfl rfl hms) ?_|(with_reducible refine ixJ i rfl ?_ ?_;focus omega)|refine stp ?_|with_reducible apply Z01<;>intro h)
    all_goals (try (conv=>whnf))
    all_goals exact⟨[],M11,rfl,(by refine Z0D ?_ ?_ ?_<;>first|rfl|exact her),rfl,rfl,.inl (Y04 rfl)⟩
  · have e4:(kd==4)=false:=by simpa using hk
    simp only[gL,LV,Y02,Y03]
    repeat' ((conv=>whnf);first|(refine Or.inr ?_)|refine exI hx ?_|(with_reducible refine ixJ i rfl ?_ ?_;focus omega)|refine stp ?_|with_reducible apply Z01<;>intro h)
    all_goals (try (conv=>whnf))
    all_goals exact⟨[],M11,rfl,(by refine Z0D ?_ ?_ ?_<;>first|rfl|exact her),rfl,rfl,.inl (Y04 rfl)⟩
 |go j _ _ p _ _ hp hb hc =>
  have hst:=Z0b hs.ok hb
  have hgs:GOK T (Z02 s):=hs.go hst (Z0k s) hs.er
  have hrs:=hrec _ hst.ok (Y09 hi hst.on)
  have hq1:=λX hX=>q (Z02 s) X hgs (Y09 hi hst.on) (ZnQ hkr hc) hX
  have hgo:=λhe=>hgs.go hrs (hkr _) he
  have hon:=Y09 (Y09 hi hst.on) hrs.on
  have hk4:(Z0o T s).kind=4:=Z65 ((Z4p hT hs.ok hs.er ((ZkV n hn).1 p hp).2).trans hb)
  have htx:=Z1G hb
  clear hq q hst hrs hkr hrec hgs
  generalize Z0o T s=t at *
  obtain⟨kd,tx,nm,ps⟩:=t
  simp only at hk4 htx
  subst hk4 htx
  obtain⟨i,err,at_,op⟩:=s
  simp only[Z02]at hq1 hgo hon hc
  generalize rec1 ⟨i+1,err,at_,op⟩=r1 at *
  obtain⟨⟨yo,yn,yt,yk⟩,s1⟩:=r1
  simp only[Tq.cells,Ex.cells,zE,gL,LV,Y02,Y03]at hx hq1 hgo hon hlt wa⊢
  rcases Zny hn hp with ⟨rfl,rfl⟩|⟨rfl,rfl⟩|⟨rfl,rfl⟩|⟨rfl,rfl⟩|⟨rfl,rfl⟩|⟨rfl,rfl⟩|⟨rfl,rfl⟩|⟨rfl,rfl⟩|⟨rfl,rfl⟩|⟨rfl,rfl⟩|⟨rfl,rfl⟩|⟨rfl,rfl⟩
  all_goals repeat' ((conv=>whnf);first|(exact Or.inl rfl)|(refine Or.inr ?_)|refine exI hx ?_|refine exI (ZnB rfl rfl rfl) ?_|(refine exG (hq1 _ rfl) (λhd=>?_) (λe1=>?_))|(with_reducible refine exW wa ?_)|(with_reducible refine exW wn ?_)|(with_reducible refine ixJ i rfl ?_ ?_;focus omega)|refine stp ?_|with_reducible apply Z01<;>intro h)
  all_goals (conv=>whnf)
  all_goals refine⟨⟨j,.mk _ 0 [] [.mk xo xn xt xk,.mk yo yn yt yk],s1⟩,⟨hgo e1,hon,hc⟩,Y0h _,?_⟩
  all_goals refine FgLK.mkZ [15] [0,1,2,3,4,5,6,7,8,9,10,11,12] rfl rfl ?_ (by refine Z9y (l:=[11,12]) ?_ ?_ ⟨⟨rfl,rfl,rfl,rfl,Y06 (BodyGe.pre (rest:=[]) rfl rfl)⟩,⟨rfl,rfl,rfl,rfl,BodyGeZ.app (cs:=[]) rfl ⟨.inl (Wk.int rfl),.inl (Wk.int rfl),.inl (Y04 rfl),.inr rfl,trivial⟩⟩,trivial⟩<;>rfl) rfl rfl
  all_goals exact⟨.inl (Y0a rfl rfl),.inl (Wk.int rfl),.inl (Y0a rfl rfl),.inl (Y0a rfl rfl),trivial⟩
end
section
variable {gl:Z0g}
section
variable {Y:AV->Prop} {O:Orc} {T:List Tq}
theorem Zoe {f : Nat} {hb : Z0h Y00 f = true} {I : Type} {G : I -> Ps -> Prop} {A : I -> List AV} {R : I -> Ps -> AV} {N : I -> Ps -> Ps} {hA : ∀ i, Z12 11 (refsL (A i) []) = true} {hinj : ∀ i j, A i = A j -> i = j} {ok : ∀ i s, G i s -> GX gl T f (A i) s (R i s) (N i s)}
  (p:(Z8y T f hb G A R N hA hinj ok).Ask Y O) (i:I) (s:Ps) (X:Z00) (hs:GOK T s) (hG:G i s) (hY:∀u,XF (N i s) u->Y u) (hX:Z07 Z0z X=true) (he:(N i s).err≠0):Z05 Y00 O (gL T s.i s.op++X) f (A i)=some (R i s,gD (N i s)++X):=by
 have h:=Z4U p i s X hs hG hY hX
 rwa [Z5r he]at h
theorem Zou {f : Nat} {hb : Z0h Y00 f = true} {I : Type} {G : I -> Ps -> Prop} {A : I -> List AV} {R : I -> Ps -> AV} {N : I -> Ps -> Ps} {hA : ∀ i, Z12 11 (refsL (A i) []) = true} {hinj : ∀ i j, A i = A j -> i = j} {ok : ∀ i s, G i s -> GX gl T f (A i) s (R i s) (N i s)}
  (p:(Z8y T f hb G A R N hA hinj ok).Ask Y O) (i:I) (s:Ps) (X:Z00) (hs:GOK T s) (hG:G i s) (hX:Z07 Z0z X=true) {s':Ps} (hN:N i s=s') (he:s'.err=0):Z05 Y00 O (gL T s.i s.op++X) f (A i)=some (R i s,gL T s'.i s'.op++X):=by
 subst hN
 have h:=Z4U p i s X hs hG (λu hu=>(Z8Y he u hu).elim) hX
 rwa [Z09 he]at h
end
theorem Zhz{s:Ps}{e a:Int}:gD (Z0r s e a)=gD s:=by unfold gD Z0r;split<;>rfl
def ZkR(T:List Tq)(F:Ps->Ex×Ps)(G:Ps->Prop)(ok:∀s,G s->GX gl T 108 [.ptr 0 0] s (.agg (F s).1.cells) (F s).2):FamX Y00 gl:=Z8y T 108 (by kernel_rfl) (I:=Unit) (λ_ s=>G s) (λ_=>[.ptr 0 0]) (λ_ s=>.agg (F s).1.cells) (λ_ s=>(F s).2) (λ_=>rfl) (λ_ _ _=>rfl) (λ_ s h=>ok s h)
def ZoN(f:Nat):Bool:=Y01 f 77 || (Y01 f 108 || (Y01 f 100 || (Y01 f 84 || (Y01 f 86 || (Y01 f 80 || (Y01 f 119 || Y01 f 89))))))
theorem ZbG {T : List Tq} {s : Ps} {d : Nat} (hT : TqOK T) (hg : GOK T s) (op : Int) (w : List UInt8) (hw : (w = [45] /\ op = 3) \/ (w = [33] /\ op = 4)) (hb : gis T s 4 w = true)
  (hun:s.op≠200->GOK T (upF s)/\PsGo T (upF s) (unF T d (upF s)).2/\GX gl T 108 [.ptr 0 0] (upF s) (.agg (unF T d (upF s)).1.cells) (unF T d (upF s)).2) :
  GX gl T 119 [.ptr 0 0,.int .i64 op] s (.agg (unF T (d+1) s).1.cells) (unF T (d+1) s).2:=by
 refine GX.of λh0=>?_
 have hw1:kyB w=false:=by rcases hw with ⟨rfl,_⟩|⟨rfl,_⟩<;>rfl
 have hF:isF T s w=true:=(Z4p hT hg.ok hg.er hw1).symm.trans hb
 have htx:=Z1G hF
 have hk4:=Z65 hb
 have hne:¬(isF T s [45]=false/\isF T s [33]=false):=by
  rcases hw with ⟨rfl,_⟩|⟨rfl,_⟩
  ·rw[hF];exact λh=>by cases h.1
  ·rw[hF];exact λh=>by cases h.2
 have hop:(if isF T s [33]=true then (4:Int) else 3)=op:=by
  rcases hw with ⟨rfl,rfl⟩|⟨rfl,rfl⟩
  · have : isF T s [33] = false := by
     cases h:isF T s [33] with
     |false=>rfl
     |true=>have:=(Z1G h).symm.trans htx;cases this
    rw[this];rfl
  ·rw[hF];rfl
 have e0:unF T (d+1) s=if s.op=200 then (ex0,Z0r s 3 (Z0o T s).pos) else (.mk op 0 [] [(unF T d (upF s)).1],{ (unF T d (upF s)).2 with op:=(unF T d (upF s)).2.op-1 }):=by
  have e1:unF T (d+1) s=if isF T s [45]=false/\isF T s [33]=false then Z19 T (Z2P T (unF T d) 9) s else if s.op=200 then (ex0,Z0r s 3 (Z0o T s).pos) else (.mk (if isF T s [33]=true then 4 else 3) 0 [] [(unF T d (upF s)).1],{ (unF T d (upF s)).2 with op:=(unF T d (upF s)).2.op-1 }):=rfl
  rw[e1,if_neg hne,hop]
 rw[e0]
 clear e0 hop hne
 have hx:=tq4 T s.i hg.ok.lt
 rw[<- Z0s hg.ok.lt]at hx
 have hlt:=hg.ok.lt
 have hfew:=hg.ok.few
 by_cases h5:s.op=200
 · rw[if_pos h5]
   clear hun
   obtain⟨O,hO,⟨p2,-⟩,-⟩:=Z2l (P:=Y00) (gl:=gl) (XF (Z0r s 3 (Z0o T s).pos)) [Z2D T] [] rfl
   have hN:enF T s w=Z0r s 3 (Z0o T s).pos:=by unfold enF;rw[hb,if_pos rfl,if_pos h5]
   have qe:∀X,Z07 Z0z X=true->Z05 Y00 O (gL T s.i s.op++X) 84 [.ptr 0 0,.str w]=some (.tuple [],gD s++X):=λX hX=>by
    have h:=Zoe p2 w s X hg ⟨hg.ok,hg.at0⟩ (λu hu=>by simpa only[hN]using hu) hX (by simp only[hN];exact Z1J (by decide))
    simpa only[hN,Zhz]using h
   clear p2 hN
   generalize Z0o T s=t at *
   obtain⟨kd,tx,nm,ps⟩:=t
   simp only at hk4 htx
   subst hk4 htx
   refine Z0t ZoN 3 follows Z06 hO Tryz.func119 rfl ?_
   rw (occs:=.pos [1]) [Z09 h0]
   simp only[Tq.cells]at hx
   simp only[gL,LV,gD,Y02,Y03]at qe⊢
   all_goals repeat' ((conv=>whnf);first|(exact Or.inl rfl)|(refine Or.inr ?_)|refine exI hx ?_|refine exI (qe _ rfl) ?_|(with_reducible refine ixJ s.i rfl ?_ ?_;focus omega)|refine stp ?_|with_reducible apply Z01<;>intro h)
 · rw[if_neg h5]
   obtain⟨hup,hgo,hq⟩:=hun h5
   have hkr:=Zcs T d (upF s)
   generalize hR:({ (unF T d (upF s)).2 with op:=(unF T d (upF s)).2.op-1 }:Ps)=R
   obtain⟨O,hO,⟨p2,p3,-⟩,-⟩:=Z2l (P:=Y00) (gl:=gl) (XF R) [Z2D T,ZkR T (λt=>unF T d t) (λt=>t=upF s) (λt h=>by rw[h];exact hq)] [] rfl
   have hN:enF T s w=upF s:=by unfold enF;rw[hb,if_pos rfl,if_neg h5];rfl
   have qe:=λX hX=>Zou p2 w s X hg ⟨hg.ok,hg.at0⟩ hX hN hg.er
   have qu:∀X,Z07 Z0z X=true->Z05 Y00 O (gL T (upF s).i (upF s).op++X) 108 [.ptr 0 0]=some (.agg (unF T d (upF s)).1.cells,gB T (unF T d (upF s)).2++X):=λX hX=>Z4U p3 () (upF s) X hup rfl (λu hu=>by subst hR;exact hu) hX
   have her:=λhe=>(hup.go hgo hkr he).ok
   clear p2 p3 hN hq hgo hkr hup hun
   generalize unF T d (upF s)=r at *
   obtain⟨⟨yo,yn,yt,yk⟩,⟨i2,er2,a2,op2⟩⟩:=r
   generalize Z0o T s=t at *
   obtain⟨kd,tx,nm,ps⟩:=t
   simp only at hk4 htx
   subst hk4 htx
   simp only at hR her
   have wc:er2=0->IntKind.i64.wrap (op2-1)=op2-1:=λhe=>by
    have h1:=(her he).lo
    have h2:=(her he).hi
    have h3:=(her he).lt
    simp only at h1 h2 h3
    exact Z7h (by omega) (by omega)
   refine Z0t ZoN 3 follows Z06 hO Tryz.func119 rfl ?_
   rw (occs:=.pos [1]) [Z09 h0]
   simp only[Tq.cells]at hx
   simp only[gL,LV,Y02,Y03,upF,Ex.cells]at qe qu⊢
   all_goals repeat' ((conv=>whnf);first|(exact Or.inl rfl)|(refine Or.inr ?_)|refine exI hx ?_|refine exI (qe _ rfl) ?_|(refine exG (qu _ rfl) (λhd=>?_) (λe1=>?_))|(with_reducible refine ixJ s.i rfl ?_ ?_;focus omega)|(with_reducible refine exW (wc e1) ?_)|refine stp ?_|with_reducible apply Z01<;>intro h)
   all_goals (conv=>whnf)
   all_goals (subst hR;exact⟨[13],M11,rfl,(by refine Z0D ?_ ?_ ?_<;>first|rfl|exact e1),rfl,rfl,.inr rfl⟩)
theorem Zhv {T : List Tq} {s : Ps} (hT : TqOK T) (hg : GOK T s) {ex : Ps -> Ex × Ps} (hkr : ∀ s, Kr s (ex s).2) (hex : GOK T (Z03 T s [40]) -> PsGo T (Z03 T s [40]) (ex (Z03 T s [40])).2 /\ GX gl T 77 [.ptr 0 0, .int .i64 0] (Z03 T s [40]) (.agg (ex (Z03 T s [40])).1.cells) (ex (Z03 T s [40])).2) :
  GX gl T 89 [.ptr 0 0] s (.agg (ex (Z03 T s [40])).1.cells) (Z03 T (ex (Z03 T s [40])).2 [41]):=by
 refine GX.of λh0=>?_
 obtain⟨O,hO,⟨p1,p2,p3,-⟩,-⟩:=Z2l (P:=Y00) (gl:=gl) (XF (Z03 T (ex (Z03 T s [40])).2 [41])) [Z2D T,Zhp T 0 ex (λt=>t=Z03 T s [40]/\GOK T t) (λt h=>by rw[h.1];exact (hex (h.1 ▸ h.2)).2),Z4o T] [] rfl
 have n1:enF T s [40]=Z03 T s [40]:=ZeJ hT hg.ok hg.er rfl rfl
 have k1:=Z0l T s [40]
 have k2:=hkr (Z03 T s [40])
 have k3:=Z0l T (ex (Z03 T s [40])).2 [41]
 have g1:=λhe=>hg.go (Z0C hg.ok [40]) k1 he
 have q1:∀X,Z07 Z0z X=true->Z05 Y00 O (gL T s.i s.op++X) 84 [.ptr 0 0,.str [40]]=some (.tuple [],gB T (Z03 T s [40])++X):=λX hX=>by
  have h:=Z4U p1 [40] s X hg ⟨hg.ok,hg.at0⟩ (λu hu=>(k2.trans k3).x u (by simpa only[n1]using hu)) hX
  simpa only[n1]using h
 have q2:GOK T (Z03 T s [40])->∀X,Z07 Z0z X=true->Z05 Y00 O (gL T (Z03 T s [40]).i (Z03 T s [40]).op++X) 77 [.ptr 0 0,.int .i64 0]=some (.agg (ex (Z03 T s [40])).1.cells,gB T (ex (Z03 T s [40])).2++X):=λh X hX=>Z4U p2 () _ X h ⟨rfl,h⟩ k3.x hX
 have g2:=λ(h:GOK T (Z03 T s [40])) he=>h.go (hex h).1 k2 he
 have q3:GOK T (ex (Z03 T s [40])).2->∀X,Z07 Z0z X=true->Z05 Y00 O (gL T (ex (Z03 T s [40])).2.i (ex (Z03 T s [40])).2.op++X) 86 [.ptr 0 0,.str [41]]=some (.tuple [],gB T (Z03 T (ex (Z03 T s [40])).2 [41])++X):=λh X hX=>by
  have n3:lvF T (ex (Z03 T s [40])).2 [41]=Z03 T (ex (Z03 T s [40])).2 [41]:=Zen hT h.ok h.er rfl rfl rfl
  have h:=Z4U p3 [41] _ X h ⟨h.ok,h.at0,by decide⟩ (λu hu=>by simpa only[n3]using hu) hX
  simpa only[n3]using h
 clear p1 p2 p3 n1 k1 k2 k3 hex hkr
 generalize Z03 T s [40]=s1 at *
 generalize ex s1=r at *
 obtain⟨⟨yo,yn,yt,yk⟩,s2⟩:=r
 simp only at q2 q3 g2 hO⊢
 generalize Z03 T s2 [41]=s3 at *
 refine Z0t ZoN 3 follows Z06 hO Tryz.func89 rfl ?_
 rw (occs:=.pos [1]) [Z09 h0]
 simp only[gL,LV,Y02,Y03,Ex.cells]at q1 q2 q3⊢
 repeat' ((conv=>whnf);first|(exact Or.inl rfl)|(refine Or.inr ?_)|(refine exG (q1 _ rfl) (λhd=>?_) (λe1=>?_))|(refine exG (q2 (g1 e1) _ rfl) (λhd=>?_) (λe2=>?_))|(refine exG (q3 (g2 (g1 e1) e2) _ rfl) (λhd=>?_) (λe3=>?_))|refine stp ?_|with_reducible apply Z01<;>intro h)
 all_goals (conv=>whnf)
 all_goals exact⟨[],M11,rfl,(by refine Z0D ?_ ?_ ?_<;>first|rfl|exact e3),rfl,rfl,.inl (Y04 rfl)⟩
end
section
variable {gl:Z0g}
def ZkP(T:List Tq)(E:Ps->Ex)(N:Ps->Ps)(G:Ps->Prop)(ok:∀s,G s->GX gl T 89 [.ptr 0 0] s (.agg (E s).cells) (N s)):FamX Y00 gl:=Z8y T 89 (by kernel_rfl) (I:=Unit) (λ_ s=>G s) (λ_=>[.ptr 0 0]) (λ_ s=>.agg (E s).cells) (λ_ s=>N s) (λ_=>rfl) (λ_ _ _=>rfl) (λ_ s h=>ok s h)
def Zn4(f:Nat):Bool:=Y01 f 100 || (Y01 f 80 || (Y01 f 119 || Y01 f 89))
theorem ZjS {T : List Tq} {s : Ps} {d : Nat} (hT : TqOK T) (hg : GOK T s)
  (hun:gis T s 4 [45]=true\/gis T s 4 [33]=true->s.op≠200->GOK T (upF s)/\PsGo T (upF s) (unF T d (upF s)).2/\GX gl T 108 [.ptr 0 0] (upF s) (.agg (unF T d (upF s)).1.cells) (unF T d (upF s)).2)
  (hlv:gis T s 4 [40]=true->GOK T (Z03 T s [40])->PsGo T (Z03 T s [40]) (Z2P T (unF T d) 9 (Z03 T s [40])).2/\GX gl T 77 [.ptr 0 0,.int .i64 0] (Z03 T s [40]) (.agg (Z2P T (unF T d) 9 (Z03 T s [40])).1.cells) (Z2P T (unF T d) 9 (Z03 T s [40])).2) :
  GX gl T 108 [.ptr 0 0] s (.agg (unF T (d+1) s).1.cells) (unF T (d+1) s).2:=by
 refine GX.of λh0=>?_
 have hx:=tq4 T s.i hg.ok.lt
 rw[<- Z0s hg.ok.lt]at hx
 have hlt:=hg.ok.lt
 have hfew:=hg.ok.few
 have wa:IntKind.i64.wrap ((s.i:Int)+1)=((s.i+1:Nat):Int):=Z1D (by omega)
 have f45:=Z4p hT hg.ok hg.er (w:=[45]) rfl
 have f33:=Z4p hT hg.ok hg.er (w:=[33]) rfl
 have f40:=Z4p hT hg.ok hg.er (w:=[40]) rfl
 by_cases hs:gis T s 4 [45]=true\/gis T s 4 [33]=true
 · obtain ⟨O, hO, ⟨p1, p2, -⟩, -⟩ := Z2l (P := Y00) (gl := gl) (XF (unF T (d + 1) s).2) [ZbF T, Z8y T 119 (by kernel_rfl) (I := Int) (fun op t => t = s /\ ((gis T s 4 [45] = true /\ op = 3) \/ (gis T s 4 [33] = true /\ op = 4))) (fun op => [.ptr 0 0, .int .i64 op]) (fun _ t => .agg (unF T (d + 1) t).1.cells) (fun _ t => (unF T (d + 1) t).2) (fun _ => rfl) (fun i j h => by simpa using h) (fun op t h => by
    rw[h.1]
    rcases h.2 with ⟨h1,rfl⟩|⟨h1,rfl⟩
    ·exact ZbG hT hg 3 [45] (.inl ⟨rfl,rfl⟩) h1 (hun (.inl h1))
    ·exact ZbG hT hg 4 [33] (.inr ⟨rfl,rfl⟩) h1 (hun (.inr h1)))] [] rfl
   have i1:=λX hX=>Zkt p1 hg (k:=4) (w:=[45]) rfl (X:=X) hX
   have i2:=λX hX=>Zkt p1 hg (k:=4) (w:=[33]) rfl (X:=X) hX
   have qa:∀op,((gis T s 4 [45]=true/\op=3)\/(gis T s 4 [33]=true/\op=4))->∀X,Z07 Z0z X=true->Z05 Y00 O (gL T s.i s.op++X) 119 [.ptr 0 0,.int .i64 op]=some (.agg (unF T (d+1) s).1.cells,gB T (unF T (d+1) s).2++X):=λop h X hX=>Z4U p2 op s X hg ⟨rfl,h⟩ (λu hu=>hu) hX
   clear p1 p2 hun hlv f45 f33 f40
   generalize Z0o T s=t at *
   obtain⟨kd,tx,nm,ps⟩:=t
   generalize unF T (d+1) s=r at *
   obtain⟨⟨yo,yn,yt,yk⟩,s1⟩:=r
   have hs2:gis T s 4 [45]=true\/(gis T s 4 [45]=false/\gis T s 4 [33]=true):=by
    cases h:gis T s 4 [45] with
    |true=>exact .inl rfl
    |false=>rw[h]at hs;exact .inr ⟨rfl,hs.resolve_left (by decide)⟩
   refine Z0t Zn4 3 follows Z06 hO Y0m rfl ?_
   rw (occs:=.pos [1]) [Z09 h0]
   simp only[gL,LV,Tq.cells,Ex.cells,Y02,Y03]at i1 i2 qa hx⊢
   rcases hs2 with h1|⟨h1,h2⟩
   case' inl=>have qb:=qa 3 (.inl ⟨h1,rfl⟩)
   case' inr =>
    have qb:=qa 4 (.inr ⟨h2,rfl⟩)
    rw[h2]at i2
   all_goals rw[h1]at i1
   all_goals clear qa
   all_goals repeat' ((conv=>whnf);first|(exact Or.inl rfl)|(refine Or.inr ?_)|refine exI hx ?_|refine exI (i1 _ rfl) ?_|refine exI (i2 _ rfl) ?_|(refine exG (qb _ rfl) (λhd=>?_) (λe1=>?_))|(with_reducible refine ixJ s.i rfl ?_ ?_;focus omega)|refine stp ?_|with_reducible apply Z01<;>intro h)
   all_goals (conv=>whnf)
   all_goals exact⟨[],M11,rfl,(by refine Z0D ?_ ?_ ?_<;>first|rfl|exact e1),rfl,rfl,.inl (Y04 rfl)⟩
 have b45:gis T s 4 [45]=false:=by
  cases h:gis T s 4 [45] with
  |false=>rfl
  |true=>exact absurd (.inl h) hs
 have b33:gis T s 4 [33]=false:=by
  cases h:gis T s 4 [33] with
  |false=>rfl
  |true=>exact absurd (.inr h) hs
 have e0:unF T (d+1) s=Z19 T (Z2P T (unF T d) 9) s:=by
  have e1:unF T (d+1) s=if isF T s [45]=false/\isF T s [33]=false then Z19 T (Z2P T (unF T d) 9) s else if s.op=200 then (ex0,Z0r s 3 (Z0o T s).pos) else (.mk (if isF T s [33]=true then 4 else 3) 0 [] [(unF T d (upF s)).1],{ (unF T d (upF s)).2 with op:=(unF T d (upF s)).2.op-1 }):=rfl
  rw[e1,if_pos ⟨f45.symm.trans b45,f33.symm.trans b33⟩]
 rw[e0]
 clear e0 hun hs
 have hkr:=Z9H (T:=T) (Zcs T d) 9
 generalize Z2P T (unF T d) 9=ex at *
 by_cases hb:gis T s 4 [40]=true
 · have hk4:=Z65 hb
   have htb:Z0F T s [40] = !(s.op==200):=by
    unfold Z0F
    rw[<- f40,hb];rfl
   have e0:Z19 T ex s=if Z0F T s [40]=true then ((ex (Z0c T s [40])).1,Z03 T (ex (Z0c T s [40])).2 [41]) else (ex0,Z0r (Z0c T s [40]) 5 (Z0o T s).pos):=by
    unfold Z19
    rw[if_neg (by simpa using hg.er),if_neg (by omega),if_neg (by omega)]
   have hno:(Z03 T s [40])=if Z0F T s [40]=true then Z0c T s [40] else Z0r (Z0c T s [40]) 5 (Z0o T (Z0c T s [40])).pos:=rfl
   have k1:=Z0l T s [40]
   have k23:Kr (Z03 T s [40]) (Z03 T (ex (Z03 T s [40])).2 [41]):=(hkr _).trans (Z0l T _ _)
   obtain⟨O,hO,⟨p1,p2,-⟩,-⟩:=Z2l (P:=Y00) (gl:=gl) (XF (Z19 T ex s).2) [ZbF T,ZkP T (λt=>(ex (Z03 T t [40])).1) (λt=>Z03 T (ex (Z03 T t [40])).2 [41]) (λt=>t=s) (λt h=>by rw[h];exact Zhv hT hg hkr (hlv hb))] [] rfl
   have i1:=λX hX=>Zkt p1 hg b45 (X:=X) hX
   have i2:=λX hX=>Zkt p1 hg b33 (X:=X) hX
   have i3:=λX hX=>Zkt p1 hg hb (X:=X) hX
   by_cases h5:s.op=200
   · have htb2:Z0F T s [40]=false:=by rw[htb,h5];rfl
     have ht:Z0c T s [40]=Z0r s 3 (Z0o T s).pos:=by
      unfold Z0c
      rw[if_pos (f40.symm.trans hb),if_pos ⟨rfl,h5⟩]
     have hf2:∀e a,Z0r (Z0r s 3 (Z0o T s).pos) e a=Z0r s 3 (Z0o T s).pos:=λe a=>by
      rw[Z0r,if_neg (Z1J (by decide))]
     rw[e0,htb2,if_neg (by decide),ht,hf2]at hO⊢
     rw[htb2,if_neg (by decide),ht,hf2]at hno
     have her:=(k23.st (by rw[hno];exact Z1J (by decide)))
     have hN:(Z03 T (ex (Z03 T s [40])).2 [41]).err≠0:=by rw[her.1,hno];exact Z1J (by decide)
     have qb:∀X,Z07 Z0z X=true->Z05 Y00 O (gL T s.i s.op++X) 89 [.ptr 0 0]=some (.agg (ex (Z03 T s [40])).1.cells,gD (Z03 T (ex (Z03 T s [40])).2 [41])++X):=λX hX=>Zoe p2 () s X hg rfl (λu hu=>by
      rw[e0,htb2,if_neg (by decide),ht,hf2]
      obtain⟨g1,g2⟩:=hu
      refine⟨Z1J (by decide),?_⟩
      rw[g2]
      simp only
      rw[her.1,her.2,hno]) hX hN
     clear p1 p2 hno her hN k1 k23 hlv e0
     generalize Z03 T (ex (Z03 T s [40])).2 [41]=s3 at *
     generalize ex (Z03 T s [40])=r at *
     obtain⟨⟨yo,yn,yt,yk⟩,s2⟩:=r
     generalize hF:Z0r s 3 (Z0o T s).pos=sF at *
     clear hF ht
     generalize Z0o T s=t at *
     obtain⟨kd,tx,nm,ps⟩:=t
     simp only at hk4
     subst hk4
     refine Z0t Zn4 3 follows Z06 hO Y0m rfl ?_
     rw (occs:=.pos [1]) [Z09 h0]
     simp only[gL,LV,gD,Tq.cells,Ex.cells,Y02,Y03]at i1 i2 i3 qb hx⊢
     all_goals repeat' ((conv=>whnf);first|(exact Or.inl rfl)|(refine Or.inr ?_)|refine exI hx ?_|refine exI (i1 _ rfl) ?_|refine exI (i2 _ rfl) ?_|refine exI (i3 _ rfl) ?_|refine exI (qb _ rfl) ?_|(with_reducible refine ixJ s.i rfl ?_ ?_;focus omega)|refine stp ?_|with_reducible apply Z01<;>intro h)
   · have h5b:(s.op==200)=false:=by simpa using h5
     have htb2:Z0F T s [40]=true:=by rw[htb,h5b];rfl
     rw[htb2,if_pos rfl]at hno
     rw[e0,htb2,if_pos rfl,<- hno]at hO⊢
     have qb:∀X,Z07 Z0z X=true->Z05 Y00 O (gL T s.i s.op++X) 89 [.ptr 0 0]=some (.agg (ex (Z03 T s [40])).1.cells,gB T (Z03 T (ex (Z03 T s [40])).2 [41])++X):=λX hX=>Z4U p2 () s X hg rfl (λu hu=>by
      rw[e0,htb2,if_pos rfl,<- hno]
      exact hu) hX
     clear p1 p2 hno k1 k23 hlv e0
     simp only at hO⊢
     generalize Z03 T (ex (Z03 T s [40])).2 [41]=s3 at *
     generalize ex (Z03 T s [40])=r at *
     obtain⟨⟨yo,yn,yt,yk⟩,s2⟩:=r
     generalize Z0o T s=t at *
     obtain⟨kd,tx,nm,ps⟩:=t
     simp only at hk4
     subst hk4
     refine Z0t Zn4 3 follows Z06 hO Y0m rfl ?_
     rw (occs:=.pos [1]) [Z09 h0]
     simp only[gL,LV,Tq.cells,Ex.cells,Y02,Y03]at i1 i2 i3 qb hx⊢
     all_goals repeat' ((conv=>whnf);first|(exact Or.inl rfl)|(refine Or.inr ?_)|refine exI hx ?_|refine exI (i1 _ rfl) ?_|refine exI (i2 _ rfl) ?_|refine exI (i3 _ rfl) ?_|(refine exG (qb _ rfl) (λhd=>?_) (λe1=>?_))|(with_reducible refine ixJ s.i rfl ?_ ?_;focus omega)|refine stp ?_|with_reducible apply Z01<;>intro h)
     all_goals (conv=>whnf)
     all_goals exact⟨[],M11,rfl,(by refine Z0D ?_ ?_ ?_<;>first|rfl|exact e1),rfl,rfl,.inl (Y04 rfl)⟩
 · have hb:=Y0e.2 hb
   have hF40:=f40.symm.trans hb
   have htb2:Z0F T s [40]=false:=by unfold Z0F;rw[hF40];rfl
   have ht:Z0c T s [40]=s:=by unfold Z0c;rw[hF40];rfl
   obtain⟨O,hO,⟨p1,p2,-⟩,-⟩:=Z2l (P:=Y00) (gl:=gl) (XF (Z19 T ex s).2) [ZbF T,Z63 T] [] rfl
   have i1:=λX hX=>Zkt p1 hg b45 (X:=X) hX
   have i2:=λX hX=>Zkt p1 hg b33 (X:=X) hX
   have i3:=λX hX=>Zkt p1 hg hb (X:=X) hX
   by_cases h3:(Z0o T s).kind=3
   · have e0 : Z19 T ex s = (.mk 1 (Z0o T s).num [] [], { s with i := s.i + 1 }) := by
      unfold Z19
      rw[if_neg (by simpa using hg.er),if_pos h3]
     rw[e0]at hO⊢
     clear p1 p2 e0 hlv
     generalize Z0o T s=t at *
     obtain⟨kd,tx,nm,ps⟩:=t
     simp only at h3
     subst h3
     refine Z0t Zn4 3 follows Z06 hO Y0m rfl ?_
     rw (occs:=.pos [1]) [Z09 h0]
     simp only[gL,LV,Tq.cells,Ex.cells,Y02,Y03]at i1 i2 i3 hx⊢
     all_goals repeat' ((conv=>whnf);first|(refine Or.inr ?_)|refine exI hx ?_|refine exI (i1 _ rfl) ?_|refine exI (i2 _ rfl) ?_|refine exI (i3 _ rfl) ?_|(with_reducible refine exW wa ?_)|(with_reducible refine ixJ s.i rfl ?_ ?_;focus omega)|refine stp ?_|with_reducible apply Z01<;>intro h)
     all_goals (conv=>whnf)
     all_goals exact⟨[],M11,rfl,(by refine Z0D ?_ ?_ ?_<;>first|rfl|exact h0),rfl,rfl,.inl Z3G⟩
   · have e3:((Z0o T s).kind==3)=false:=by simpa using h3
     by_cases h1:(Z0o T s).kind=1
     · have hwb:Z1j T s=true:=by unfold Z1j;rw[hg.er,h1];rfl
       have hwF:Z0a T s={ s with i:=s.i+1 }:=by unfold Z0a;rw[if_pos hwb]
       have hwT:Z0R T s=(Z0o T s).text:=by unfold Z0R;rw[if_pos hwb]
       have e0:Z19 T ex s=(.mk 2 0 (Z0o T s).text [],{ s with i:=s.i+1 }):=by
        unfold Z19
        rw[if_neg (by simpa using hg.er),if_neg h3,if_pos h1]
       rw[e0]at hO⊢
       have qw:∀X,Z07 Z0z X=true->Z05 Y00 O (gL T s.i s.op++X) 80 [.ptr 0 0]=some (.str (Z0o T s).text,gL T (s.i+1) s.op++X):=λX hX=>by
        have h:=Zou p2 () s X hg ⟨hg.ok,hg.at0⟩ hX hwF hg.er
        simpa only[hwT]using h
       clear p1 p2 e0 hlv hwT hwF hwb
       generalize Z0o T s=t at *
       obtain⟨kd,tx,nm,ps⟩:=t
       simp only at h1
       subst h1
       refine Z0t Zn4 3 follows Z06 hO Y0m rfl ?_
       rw (occs:=.pos [1]) [Z09 h0]
       simp only[gL,LV,Tq.cells,Ex.cells,Y02,Y03]at i1 i2 i3 hx qw⊢
       all_goals repeat' ((conv=>whnf);first|(refine Or.inr ?_)|refine exI hx ?_|refine exI (i1 _ rfl) ?_|refine exI (i2 _ rfl) ?_|refine exI (i3 _ rfl) ?_|refine exI (qw _ rfl) ?_|(with_reducible refine ixJ s.i rfl ?_ ?_;focus omega)|refine stp ?_|with_reducible apply Z01<;>intro h)
       all_goals (conv=>whnf)
       all_goals exact⟨[],M11,rfl,(by refine Z0D ?_ ?_ ?_<;>first|rfl|exact h0),rfl,rfl,.inl Z3G⟩
     · have hwb : Z1j T s = false := by
        unfold Z1j
        rw[show ((Z0o T s).kind==1)=false by simpa using h1,Y0q]
       have hwF:Z0a T s=Z0r s 5 (Z0o T s).pos:=by unfold Z0a;rw[hwb];rfl
       have e0:Z19 T ex s=(ex0,Z0r s 5 (Z0o T s).pos):=by
        unfold Z19
        rw[if_neg (by simpa using hg.er),if_neg h3,if_neg h1,htb2,if_neg (by decide),ht]
       rw[e0]at hO⊢
       have qw:∀X,Z07 Z0z X=true->Z05 Y00 O (gL T s.i s.op++X) 80 [.ptr 0 0]=some (.str (Z0R T s),gD s++X):=λX hX=>by
        have h:=Zoe p2 () s X hg ⟨hg.ok,hg.at0⟩ (λu hu=>by rw[e0];rw[hwF]at hu;exact hu) hX (by simp only[hwF];exact Z1J (by decide))
        simpa only[hwF,Zhz]using h
       clear p1 p2 e0 hlv hwF hwb
       generalize Z0R T s=wt at *
       generalize hF:Z0r s 5 (Z0o T s).pos=sF at *
       clear hF
       generalize Z0o T s=t at *
       obtain⟨kd,tx,nm,ps⟩:=t
       refine Z0t Zn4 3 follows Z06 hO Y0m rfl ?_
       rw (occs:=.pos [1]) [Z09 h0]
       simp only[gL,LV,gD,Tq.cells,Ex.cells,Y02,Y03]at i1 i2 i3 hx qw⊢
       all_goals repeat' ((conv=>whnf);first|(exact Or.inl rfl)|(refine Or.inr ?_)|refine exI hx ?_|refine exI (i1 _ rfl) ?_|refine exI (i2 _ rfl) ?_|refine exI (i3 _ rfl) ?_|refine exI (qw _ rfl) ?_|(with_reducible refine ixJ s.i rfl ?_ ?_;focus omega)|refine stp ?_|with_reducible apply Z01<;>intro h)
end
section
variable {gl:Z0g}
theorem ZoV{T:List Tq}{s:Ps}(hg:GOK T s){un:Ps->Ex×Ps}(hq:GX gl T 108 [.ptr 0 0] s (.agg (un s).1.cells) (un s).2):GX gl T 77 [.ptr 0 0,.int .i64 9] s (.agg (un s).1.cells) (un s).2:=by
 refine GX.of λh0=>?_
 obtain⟨O,hO,⟨p1,-⟩,-⟩:=Z2l (P:=Y00) (gl:=gl) (XF (un s).2) [ZkR T un (λt=>t=s) (λt h=>by rw[h];exact hq)] [] rfl
 have q1:∀X,Z07 Z0z X=true->Z05 Y00 O (gL T s.i s.op++X) 108 [.ptr 0 0]=some (.agg (un s).1.cells,gB T (un s).2++X):=λX hX=>Z4U p1 () s X hg rfl (λu hu=>hu) hX
 clear p1 hq
 generalize un s=r at *
 obtain⟨⟨yo,yn,yt,yk⟩,s1⟩:=r
 refine Z0t Zpx 3 follows Z06 hO Tryz.func77 rfl ?_
 rw (occs:=.pos [1]) [Z09 h0]
 simp only[gL,LV,Ex.cells,Y02,Y03]at q1⊢
 repeat' ((conv=>whnf);first|(exact Or.inl rfl)|(refine Or.inr ?_)|(refine exG (q1 _ rfl) (λhd=>?_) (λe1=>?_))|refine stp ?_|with_reducible apply Z01<;>intro h)
 all_goals (conv=>whnf)
 all_goals exact⟨[],M11,rfl,(by refine Z0D ?_ ?_ ?_<;>first|rfl|exact e1),rfl,rfl,.inl (Y04 rfl)⟩
theorem Zd1 {T : List Tq} (hT : TqOK T) {i0 : Nat} {un : Ps -> Ex × Ps} (hkr : ∀ s, Kr s (un s).2) (hgo : ∀ s, PsOK T s -> i0 <= s.i -> PsGo T s (un s).2) (hun : ∀ s, GOK T s -> i0 <= s.i -> GX gl T 108 [.ptr 0 0] s (.agg (un s).1.cells) (un s).2) : ∀ (m : Nat), m <= 9 ->
  (∀s,PsOK T s->i0<=s.i->PsGo T s (Z2P T un m s).2)/\∀s,GOK T s->i0<=s.i->GX gl T 77 [.ptr 0 0,.int .i64 ((9-m:Nat):Int)] s (.agg (Z2P T un m s).1.cells) (Z2P T un m s).2
 |0,_=>⟨hgo,λs hs hi=>ZoV hs (hun s hs hi)⟩
 |m+1,hm=>by
  obtain⟨ih1,ih2⟩:=Zd1 hT hkr hgo hun m (by omega)
  refine⟨λs hs hi=>?_,λs hs hi=>?_⟩
  · have h1:=ih1 s hs hi
    exact h1.trans (ZcU (λt h h2=>ih1 t h h2) _ _ _ _ h1.ok (Y09 hi h1.on))
  have e:9-m=(8-m)+1:=by omega
  have e2:9-(m+1)=8-m:=by omega
  rw[e]at ih2
  rw[e2]
  exact Zd0 hT (n:=8-m) (by omega) hs.ok hs.at0 (λt h h2=>ih1 t h (Y09 hi h2)) (λt=>Z9H hkr m t) (λt h h2=>ih2 t h (Y09 hi h2))
theorem ZlN{T:List Tq}{s:Ps}{w:List UInt8}(he:(Z03 T s w).err=0):(Z03 T s w).i=s.i+1:=by
 have h0:=(Z0l T s w).live he
 unfold Z03 at he⊢
 split
 ·rename_i h;exact Zcz h
 · rename_i h
   rw[if_neg h]at he
   exact absurd he (Z1J (by decide))
theorem ZkQ{T:List Tq}(hT:TqOK T):∀(d:Nat)(s:Ps),GOK T s->T.length-s.i<=d->GX gl T 108 [.ptr 0 0] s (.agg (unF T d s).1.cells) (unF T d s).2
 |0,s,hs,hd=>by have:=hs.ok.lt;omega
 |d+1,s,hs,hd=>by
  have hlt:=hs.ok.lt
  have hlo:=hs.ok.lo
  have hhi:=hs.ok.hi
  have hun:∀t,GOK T t->s.i+1<=t.i->GX gl T 108 [.ptr 0 0] t (.agg (unF T d t).1.cells) (unF T d t).2:=λt h h2=>ZkQ hT d t h (by omega)
  have hgo:∀t,PsOK T t->s.i+1<=t.i->PsGo T t (unF T d t).2:=λt h h2=>(Zj6 (gl:=gl) d t h (by omega)).1
  obtain⟨h1,h2⟩:=Zd1 hT (Zcs T d) hgo hun 9 (Y07 _)
  refine ZjS hT hs (λhb h5=>?_) (λhb hn=>?_)
  · have hk : (Z0o T s).kind ≠ 5 := by
     rcases hb with hb|hb
     ·rw[Z65 hb];decide
     ·rw[Z65 hb];decide
    rw[Z0s hlt]at hk
    have hup:PsOK T (upF s):=⟨hs.ok.last _ hlt hk,hs.ok.few,hs.ok.last,by show -((s.i+1:Nat):Int)<=s.op+1;omega,by show s.op+1<=200;omega⟩
    have hgu:GOK T (upF s):=⟨hup,hs.er,hs.at0⟩
    exact⟨hgu,hgo _ hup (Y07 _),hun _ hgu (Y07 _)⟩
  · have hi:s.i+1<=(Z03 T s [40]).i:=by rw[ZlN hn.er];exact Y07 _
    exact⟨h1 _ hn.ok hi,h2 _ hn hi⟩
theorem ZeD{T:List Tq}(hT:TqOK T){s:Ps}(hs:GOK T s):GX gl T 77 [.ptr 0 0,.int .i64 0] s (.agg (Z0X T s).1.cells) (Z0X T s).2 :=
 (Zd1 (i0:=0) hT (Zcs T T.length) (λs h _=>(Zj6 (gl:=gl) T.length s h (by omega)).1) (λs h _=>ZkQ hT T.length s h (by omega)) 9 (Y07 _)).2 s hs (Nat.zero_le _)
def Zam(T:List Tq)(hT:TqOK T):FamX Y00 gl:=Zhp T 0 (Z0X T) (λt=>GOK T t) (λt h=>ZeD hT h)
theorem ZjY{T:List Tq}(hT:TqOK T){s:Ps}(hs:GOK T s):GX gl T 89 [.ptr 0 0] s (.agg (Z1p T s).1.cells) (Z1p T s).2 :=
 Zhv hT hs (Z6b T) (λh=>⟨Z3T h.ok,ZeD hT h⟩)
def Zan(T:List Tq)(hT:TqOK T):FamX Y00 gl:=ZkP T (λt=>(Z1p T t).1) (λt=>(Z1p T t).2) (λt=>GOK T t) (λt h=>ZjY hT h)
def ZcZ(T:List Tq)(hT:TqOK T):FamX Y00 gl:=Z8y T 85 (by kernel_rfl) (I:=Unit) (λ_ s=>GOK T s) (λ_=>[.ptr 0 0]) (λ_ s=>.int .i64 (Z08 T s ordL 1).1) (λ_ s=>(Z08 T s ordL 1).2) (λ_=>rfl) (λ_ _ _=>rfl) (λ_ s h=>Zhm hT h.ok h.at0)
end
section
variable {gl:Z0g}
theorem GX.conv{T:List Tq}{f:Nat}{A:List AV}{s s':Ps}{r r':AV}(h:GX gl T f A s r s')(hr:∀sn ι v,VR sn ι r v->VR sn ι r' v):GX gl T f A s r' s':=λsn ι W cargs hg hR ha =>
 (h sn ι W cargs hg hR ha).mono λe W' h=>h.imp (λ⟨v,sn',ι',e1,e2,e3⟩=>⟨v,sn',ι',e1,hr _ _ _ e2,e3⟩) id
theorem MemXQ.conv{X:AV->Prop}{k f:Nat}{args:List AV}{H H':Z00}{r r':AV}(h:MemXQ Y00 gl X k f args H r H')(hr:∀sn ι v,VR sn ι r v->VR sn ι r' v):MemXQ Y00 gl X k f args H r' H':=λsn ι W cargs hg hR ha =>
 (h sn ι W cargs hg hR ha).mono λe W' h=>h.imp (λ⟨v,sn',ι',e1,e2,e3⟩=>⟨v,sn',ι',e1,hr _ _ _ e2,e3⟩) id
theorem Zay(T:List Tq):∀(n:Nat)(s:Ps),Kr s (Z3D T n s).2
 |0,s=>Kr.rfl'
 |n+1,s=>(Z0l T s [44]).trans ((Z6b T _).trans (Zay T n _))
theorem Z6Q(T:List Tq)(name:List UInt8)(kind:Int)(n:Nat)(s:Ps):Kr s (Z2j T name kind n s).2 :=
 (Z0l T s [40]).trans ((Z3F T _).trans ((Zay T n _).trans ((Z0l T _ _).trans ((Z3p T ordL _ 1).trans (Z0l T _ _)))))
section
variable {Y:AV->Prop} {O:Orc} {T:List Tq}
theorem Z7e (p : (Z64 (gl := gl) T).Ask Y O) (hT : TqOK T) {s : Ps} (hs : GOK T s) (w : List UInt8) (hw : kyB w = false) (hk : kwB w = true) (hne : w ≠ []) (hX : ∀ u, XF (Z03 T s w) u -> Y u) {X : Z00} (h : Z07 Z0z X = true) :
  Z05 Y00 O (gL T s.i s.op++X) 81 [.ptr 0 0,.str w]=some (.tuple [],gB T (Z03 T s w)++X):=by
 have e:=Zjk hT hs.ok hs.er hw hk
 have h:=Z4U p w s X hs ⟨hs.ok,hs.at0,hne⟩ (λu hu=>hX u (by simpa only[e]using hu)) h
 simpa only[e]using h
theorem Zit (p : (Z2D (gl := gl) T).Ask Y O) (hT : TqOK T) {s : Ps} (hs : GOK T s) (w : List UInt8) (hw : kyB w = false) (hk : upB w = true) (hX : ∀ u, XF (Z03 T s w) u -> Y u) {X : Z00} (h : Z07 Z0z X = true) :
  Z05 Y00 O (gL T s.i s.op++X) 84 [.ptr 0 0,.str w]=some (.tuple [],gB T (Z03 T s w)++X):=by
 have e:=ZeJ hT hs.ok hs.er hw hk
 have h:=Z4U p w s X hs ⟨hs.ok,hs.at0⟩ (λu hu=>hX u (by simpa only[e]using hu)) h
 simpa only[e]using h
theorem Zis (p : (Z4o (gl := gl) T).Ask Y O) (hT : TqOK T) {s : Ps} (hs : GOK T s) (w : List UInt8) (hw : kyB w = false) (hk : upB w = false) (hd : dnB w = true) (hne : w ≠ []) (hX : ∀ u, XF (Z03 T s w) u -> Y u) {X : Z00} (h : Z07 Z0z X = true) :
  Z05 Y00 O (gL T s.i s.op++X) 86 [.ptr 0 0,.str w]=some (.tuple [],gB T (Z03 T s w)++X):=by
 have e:=Zen hT hs.ok hs.er hw hk hd
 have h:=Z4U p w s X hs ⟨hs.ok,hs.at0,hne⟩ (λu hu=>hX u (by simpa only[e]using hu)) h
 simpa only[e]using h
theorem Zod(p:(Z63 (gl:=gl) T).Ask Y O){s:Ps}(hs:GOK T s)(hX:∀u,XF (Z0a T s) u->Y u){X:Z00}(h:Z07 Z0z X=true) :
 Z05 Y00 O (gL T s.i s.op++X) 80 [.ptr 0 0]=some (.str (Z0R T s),gB T (Z0a T s)++X):=Z4U p () s X hs ⟨hs.ok,hs.at0⟩ hX h
theorem Zlb{hT:TqOK T}(p:(Zam (gl:=gl) T hT).Ask Y O){s:Ps}(hs:GOK T s)(hX:∀u,XF (Z0X T s).2 u->Y u){X:Z00}(h:Z07 Z0z X=true) :
 Z05 Y00 O (gL T s.i s.op++X) 77 [.ptr 0 0,.int .i64 0]=some (.agg (Z0X T s).1.cells,gB T (Z0X T s).2++X):=Z4U p () s X hs hs hX h
theorem Ziu{hT:TqOK T}(p:(Zan (gl:=gl) T hT).Ask Y O){s:Ps}(hs:GOK T s)(hX:∀u,XF (Z1p T s).2 u->Y u){X:Z00}(h:Z07 Z0z X=true) :
 Z05 Y00 O (gL T s.i s.op++X) 89 [.ptr 0 0]=some (.agg (Z1p T s).1.cells,gB T (Z1p T s).2++X):=Z4U p () s X hs hs hX h
theorem Zla{hT:TqOK T}(p:(ZcZ (gl:=gl) T hT).Ask Y O){s:Ps}(hs:GOK T s)(hX:∀u,XF (Z08 T s ordL 1).2 u->Y u){X:Z00}(h:Z07 Z0z X=true) :
 Z05 Y00 O (gL T s.i s.op++X) 85 [.ptr 0 0]=some (.int .i64 (Z08 T s ordL 1).1,gB T (Z08 T s ordL 1).2++X):=Z4U p () s X hs hs hX h
end
def ZaA:List Ex->AV
 |[]=>.nslice
 |e::l=>.slice 13 0 (l.length+1) (l.length+1) 4
def ZhX:List Ex->Z00
 |[]=>[]
 |e::l=>[⟨true,13,0,.cells (exC (e::l)) 47⟩]
def Zq6(f:Nat):Bool:=Y01 f 81 || (Y01 f 77 || (Y01 f 84 || (Y01 f 86 || (Y01 f 80 || Y01 f 85))))
theorem ZfL{T:List Tq}(hT:TqOK T){s:Ps}(hg:GOK T s)(kind:Int)(n:Nat)(hn:n<=2):GX gl T 83 [.ptr 0 0,.int .i64 kind,.int .i64 n] s (.agg (Z2j T [] kind n s).1.cells) (Z2j T [] kind n s).2:=by
 have hTy:Zcm Y00 45 45=some (47,4,56):=by kernel_rfl
 unfold Z2j
 simp only
 have k1:=Z0l T s [40]
 have k2:=Z3F T (Z03 T s [40])
 have k3:=Zay T n (Z0a T (Z03 T s [40]))
 have k4:=Z0l T (Z3D T n (Z0a T (Z03 T s [40]))).2 [44]
 have k5:=Z3p T ordL (Z03 T (Z3D T n (Z0a T (Z03 T s [40]))).2 [44]) 1
 have k6:=Z0l T (Z08 T (Z03 T (Z3D T n (Z0a T (Z03 T s [40]))).2 [44]) ordL 1).2 [41]
 have o1:=λhe=>hg.go (Z0C hg.ok [40]) k1 he
 generalize hs1:Z03 T s [40]=s1 at *
 generalize hloc:Z0R T s1=loc at *
 generalize hs2:Z0a T s1=s2 at *
 generalize hR:Z3D T n s2=R at *
 obtain⟨RL,RS⟩:=R
 simp only at k3 k4 k5 k6⊢
 have kE:=k4.trans (k5.trans k6)
 have o2:=λhe1 he=>(o1 he1).go (hs2 ▸ Z4B (o1 he1).ok) k2 he
 refine GX.conv (r:=.agg [.int .i64 kind,.str [],.str loc,.int .i64 (Z08 T (Z03 T RS [44]) ordL 1).1,exN RL,.nslice,.nslice]) ?_ (λ_ _ _ h=>Zgv h)
 refine GX.of λh0=>?_
 generalize hE:Z03 T (Z08 T (Z03 T RS [44]) ordL 1).2 [41]=E at *
 obtain⟨O,hO,⟨p1,p2,p3,p4,p5,p6,-⟩,-⟩:=Z2l (P:=Y00) (gl:=gl) (XF E) [Z64 T,Zam T hT,Z2D T,Z4o T,Z63 T,ZcZ T hT] [] rfl
 have q1:∀X,Z07 Z0z X=true->Z05 Y00 O (gL T s.i s.op++X) 84 [.ptr 0 0,.str [40]]=some (.tuple [],gB T s1++X):=λX hX=>by
  have h:=Zit p3 hT hg [40] rfl rfl (X:=X) (by rw[hs1];exact (k2.trans (k3.trans kE)).x) hX
  rwa [hs1]at h
 have q2:GOK T s1->∀X,Z07 Z0z X=true->Z05 Y00 O (gL T s1.i s1.op++X) 80 [.ptr 0 0]=some (.str loc,gB T s2++X):=λh X hX=>by
  have h:=Zod p5 (s:=s1) h (X:=X) (by rw[hs2];exact (k3.trans kE).x) hX
  rwa [hs2,hloc]at h
 refine Z0t Zq6 3 follows Z06 hO Tryz.func83 rfl ?_
 rw (occs:=.pos [1]) [Z09 h0]
 simp only[gL,LV,Y02,Y03]at q1 q2⊢
 repeat' ((conv=>whnf);first|(exact Or.inl rfl)|(refine Or.inr ?_)|(refine exG (q1 _ rfl) (λhd=>?_) (λe1=>?_))|(refine exG (q2 (o1 e1) _ rfl) (λhd=>?_) (λe2=>?_))|refine stp ?_|with_reducible apply Z01<;>intro h)
 conv=>whnf
 have hI:([]:List Ex).length<=n/\GOK T s2/\[]++(Z3D T (n-([]:List Ex).length) s2).1=RL/\(Z3D T (n-([]:List Ex).length) s2).2=RS:=⟨Nat.zero_le _,o2 e1 e2,by rw[Y0i,Nat.sub_zero,hR];rfl,by rw[Y0i,Nat.sub_zero,hR]⟩
 refine⟨As,(λx=>x.l.length<=n/\GOK T x.s/\x.l++(Z3D T (n-x.l.length) x.s).1=RL/\(Z3D T (n-x.l.length) x.s).2=RS),(λx=>[(0,.ptr 0 0),(2,.int .i64 n),(6,.ptr 11 0),(7,.ptr 12 0),(15,.int .i64 n),(16,.int .i64 (x.l.length:Nat))]),
  (λx=>gL T x.s.i x.s.op++([⟨true,11,0,.cells zS 58⟩,⟨true,12,0,.cells [.int .i64 kind,.str [],.str loc,.int .i64 0,ZaA x.l,.nslice,.nslice] 58⟩]++ZhX x.l)),(λx=>n-x.l.length),⟨⟨[],s2⟩,hI,?_⟩,?_⟩
 · refine Y08 [0,1,2,3,4,5,6,7,8,9,10,11,12] rfl rfl ?_ ?_ rfl
   ·exact wks
   ·refine Z1h (l:=[11,12]) ?_ ?_ ⟨hbp,hbp,trivial⟩<;>rfl
 clear hI q1 q2 o1 o2 k1 k2 k3 hR hs2 hs1 hloc hg e1 e2
 rintro⟨l,s⟩ ⟨hl,hsk,hL,hS⟩
 dsimp only at hl hsk hL hS
 (try dsimp only)
 by_cases hlt:l.length<n
 · have e1:decide ((l.length:Int)<(n:Int))=true:=by simpa using hlt
   have wa:IntKind.i64.wrap ((l.length:Int)+1)=((l.length+1:Nat):Int):=Z1D (by omega)
   obtain⟨m,hm⟩:∃m,n-l.length=m+1:=⟨n-l.length-1,by omega⟩
   rw[hm]at hL hS
   simp only[Z3D]at hL hS
   have j1:=Z0l T s [44]
   have j2:=Z6b T (Z03 T s [44])
   have j3:=Zay T m (Z0X T (Z03 T s [44])).2
   rw[hS]at j3
   have g1:=λX hX=>Z7e p1 hT hsk [44] rfl rfl (by decide) ((j2.trans (j3.trans kE)).x) (X:=X) hX
   have g2:=λh X hX=>Zlb p2 (s:=Z03 T s [44]) h ((j3.trans kE).x) (X:=X) hX
   have o1:=λhe=>hsk.go (Z0C hsk.ok [44]) j1 he
   have o2:=λhe1 he=>(o1 he1).go (Z3T (o1 he1).ok) j2 he
   clear p1 p2 p3 p4 p5 p6 j1 j2 j3 kE k4 k5 k6 hE
   generalize Z03 T s [44]=s3 at *
   generalize Z0X T s3=r at *
   obtain⟨⟨o,nu,nn,ks⟩,s4⟩:=r
   simp only[gL,LV,Ex.cells,Y02,Y03]at g1 g2 hL hS o2⊢
   rcases l with _|⟨a,l⟩
   · simp only[ZaA,ZhX]
     repeat' ((conv=>whnf);first|(exact Or.inl rfl)|(refine Or.inr ?_)|(refine exG (g1 _ rfl) (λhd=>?_) (λe1=>?_))|(refine exG (g2 (o1 e1) _ rfl) (λhd=>?_) (λe2=>?_))|(with_reducible refine exW wa ?_)|(refine apS ?_)|refine stp ?_|with_reducible apply Z01<;>intro h)
     conv=>whnf
     refine⟨⟨[.mk o nu nn ks],s4⟩,⟨hlt,o2 e1 e2,?_,?_⟩,?_,?_⟩
     · show _::_=_
       have e3:n-[Ex.mk o nu nn ks].length=m:=by simp at hm⊢;omega
       rw[e3];exact hL
     · have e3:n-[Ex.mk o nu nn ks].length=m:=by simp at hm⊢;omega
       simp only
       rw[e3];exact hS
     ·simp at hlt⊢;omega
     · refine Y08 [0,1,2,3,4,5,6,7,8,9,10,11,12,15] rfl rfl ?_ ?_ rfl
       ·exact wks
       · refine Z1h (l:=[11,12,15]) (X':=[_,_,_]) ?_ ?_ ⟨hbp,⟨rfl,rfl,rfl,rfl,Y0k ?_⟩,⟨rfl,rfl,rfl,rfl,Z0f rfl (Z5l [.mk o nu nn ks])⟩,trivial⟩
         ·rfl
         ·rfl
         · dsimp only[ZaA,Y0i]
           exact wks
   · have hcl:(exC (a::l)).length=(l.length+1)*4:=Z6K _
     have hsn:=ZgO (a::l) o nu nn ks
     simp only[Y0b]at hl hlt wa hm e1
     simp only[ZaA,ZhX,Y0b]
     repeat' ((conv=>whnf);first|(exact Or.inl rfl)|(refine Or.inr ?_)|(refine exG (g1 _ rfl) (λhd=>?_) (λe1=>?_))|(refine exG (g2 (o1 e1) _ rfl) (λhd=>?_) (λe2=>?_))|(with_reducible refine exW wa ?_)|(refine apS ?_)|refine stp ?_|with_reducible apply Z01<;>intro h)
     conv=>whnf
     have e3:n-((a::l)++[Ex.mk o nu nn ks]).length=m:=by simp;omega
     refine⟨⟨(a::l)++[.mk o nu nn ks],s4⟩,⟨by simp;omega,o2 e1 e2,?_,?_⟩,?_,?_⟩
     · simp only
       rw[e3,<- hL];simp
     · simp only
       rw[e3];exact hS
     ·simp;omega
     · refine Y08 [0,1,2,3,4,5,6,7,8,9,10,11,12,16] rfl rfl ?_ ?_ rfl
       ·exact wks
       · refine Z1h (l:=[11,12,16]) (X':=[_,_,_]) ?_ ?_ ⟨hbp,⟨rfl,rfl,rfl,rfl,Y0k ?_⟩,⟨rfl,rfl,rfl,rfl,Z0f hsn (Z5l _)⟩,trivial⟩
         ·rfl
         ·rfl
         · show WkL _ _ [_,_,_,_,ZaA ((a::l)++[Ex.mk o nu nn ks]),_,_]
           rw[show ZaA ((a::l)++[Ex.mk o nu nn ks]) = .slice 13 0 (l.length+1+1) (l.length+1+1) 4 by simp[ZaA]]
           exact wks
 · have e1:decide ((l.length:Int)<(n:Int))=false:=by simpa using hlt
   have e3:n-l.length=0:=by omega
   rw[e3]at hL hS
   simp only[Z3D,Y0p]at hL hS
   subst hL hS
   have g1:=λX hX=>Z7e p1 hT hsk [44] rfl rfl (by decide) ((k5.trans k6).x) (X:=X) hX
   have g2:=λh X hX=>Zla p6 (s:=Z03 T s [44]) h (k6.x) (X:=X) hX
   have g3:GOK T (Z08 T (Z03 T s [44]) ordL 1).2->∀X,Z07 Z0z X=true->Z05 Y00 O (gL T (Z08 T (Z03 T s [44]) ordL 1).2.i (Z08 T (Z03 T s [44]) ordL 1).2.op++X) 86 [.ptr 0 0,.str [41]]=some (.tuple [],gB T E++X):=λh X hX=>by
    have h:=Zis p4 hT (s:=(Z08 T (Z03 T s [44]) ordL 1).2) h [41] rfl rfl rfl (by decide) (by rw[hE];exact λu hu=>hu) (X:=X) hX
    rwa [hE]at h
   have o1:=λhe=>hsk.go (Z0C hsk.ok [44]) k4 he
   have o2:=λhe1 he=>(o1 he1).go (Z22 ordL _ 1 (o1 he1).ok) k5 he
   clear p1 p2 p3 p4 p5 p6 k4 k5 k6 kE hE
   generalize Z03 T s [44]=s3 at *
   generalize Z08 T s3 ordL 1=r at *
   obtain⟨o,s4⟩:=r
   simp only[gL,LV,Y02,Y03]at g1 g2 g3 o2⊢
   rcases l with _|⟨a,l⟩
   · simp only[ZaA,ZhX,exN]
     repeat' ((conv=>whnf);first|(exact Or.inl rfl)|(refine Or.inr ?_)|(refine exG (g1 _ rfl) (λhd=>?_) (λe1=>?_))|(refine exG (g2 (o1 e1) _ rfl) (λhd=>?_) (λe2=>?_))|(refine exG (g3 (o2 e1 e2) _ rfl) (λhd=>?_) (λe4=>?_))|refine stp ?_|with_reducible apply Z01<;>intro h)
     all_goals (conv=>whnf)
     all_goals exact⟨[],M11,rfl,(by refine Z0D ?_ ?_ ?_<;>first|rfl|exact e4),rfl,rfl,.inl (Y04 rfl)⟩
   · have hcl:(exC (a::l)).length=(l.length+1)*4:=Z6K _
     simp only[ZaA,ZhX,exN]
     repeat' ((conv=>whnf);first|(exact Or.inl rfl)|(refine Or.inr ?_)|(refine exG (g1 _ rfl) (λhd=>?_) (λe1=>?_))|(refine exG (g2 (o1 e1) _ rfl) (λhd=>?_) (λe2=>?_))|(refine exG (g3 (o2 e1 e2) _ rfl) (λhd=>?_) (λe4=>?_))|refine stp ?_|with_reducible apply Z01<;>intro h)
     all_goals (conv=>whnf)
     all_goals exact⟨[13],M11,rfl,(by refine Z0D ?_ ?_ ?_<;>first|rfl|exact e4),rfl,rfl,.inr (ZhC (Z1t (n:=27) rfl hcl (Z5l _)))⟩
end
section
variable {gl:Z0g}
theorem Zml(T:List Tq)(s:Ps):Kr s (Zb1 T s).2:=(Z0l T s [40]).trans ((Z3p T ordL _ 1).trans (Z0l T _ _))
theorem Z9U(T:List Tq)(nm:List UInt8)(s:Ps):Kr s (Z3j T nm s).2:=by
 unfold Z3j
 split
 ·exact (Z0k s).trans (Z6Q T _ _ _ _)
 split
 ·exact (Z0k s).trans (Z6Q T _ _ _ _)
 split
 ·exact (Z0k s).trans (Z6Q T _ _ _ _)
 split
 ·exact (Z0k s).trans (Z6Q T _ _ _ _)
 ·exact Z6b T s
theorem Zjg(T:List Tq)(s:Ps):Kr s (Z1m T s).2:=by
 unfold Z1m
 split
 ·exact (Z0k s).trans (Z6Q T _ _ _ _)
 split
 ·exact (Z0k s).trans (Zml T _)
 split
 ·exact (Z0k s).trans (Z5x T _)
 split
 ·exact (Z0k s).trans (Z5x T _)
 ·exact (Z3F T s).trans ((Z0l T _ _).trans (Z9U T _ _))
theorem Za0{T:List Tq}{stm:Ps->St×Ps}(hk:∀s,Kr s (stm s).2)(w:List UInt8):∀(k:Nat)(s:Ps),Kr s (Z2L T stm w k s).2
 |0,s=>Kr.rfl'
 |k+1,s=>by
  unfold Z2L;split
  ·exact (hk s).trans (Za0 hk w k _)
  ·exact Kr.rfl'
theorem Z8P{T:List Tq}{stm:Ps->St×Ps}(hk:∀s,Kr s (stm s).2)(s:Ps):Kr s (Z7P T stm s).2:=(Z0l T s _).trans ((Za0 hk _ _ _).trans (Z0l T _ _))
theorem Zi1{T:List Tq}{blk:Ps->List St×Ps}{stm:Ps->St×Ps}(hb:∀s,Kr s (blk s).2)(hk:∀s,Kr s (stm s).2)(s:Ps):Kr s (Z7p T blk stm s).2:=by
 unfold Z7p
 split
 · split
   ·exact (Z0k s).trans (hk _)
   ·exact (Z0k s).trans (hb _)
 ·exact Kr.rfl'
theorem Zm0{T:List Tq}{blk:Ps->List St×Ps}{stm:Ps->St×Ps}(hb:∀s,Kr s (blk s).2)(hk:∀s,Kr s (stm s).2)(s:Ps):Kr s (ZbD T blk stm s).2:=(Z5x T s).trans ((hb _).trans (Zi1 hb hk _))
theorem Zlj{T:List Tq}{blk:Ps->List St×Ps}(hb:∀s,Kr s (blk s).2)(s:Ps):Kr s (Zj5 T blk s).2:=(Z5x T s).trans (hb _)
theorem Zlw{T:List Tq}{blk:Ps->List St×Ps}{stm:Ps->St×Ps}(hb:∀s,Kr s (blk s).2)(hk:∀s,Kr s (stm s).2)(s:Ps):Kr s (Z2M T blk stm s).2:=by
 unfold Z2M
 split
 ·exact (Z0k s).trans (Zm0 hb hk _)
 split
 ·exact (Z0k s).trans (Zlj hb _)
 ·exact (Zjg T s).trans (Z0l T _ _)
theorem Z3K(T:List Tq):∀(d:Nat)(s:Ps),Kr s (Z57 T d s).2
 |0,s=>Kr.rfl'
 |d+1,s=>Zlw (λt=>Z8P (Z3K T d) t) (Z3K T d) s
def ZoB(nm:List UInt8):St->St
 | .mk k _ l o x t e=>.mk k nm l o x t e
theorem Zll(T:List Tq)(nm:List UInt8)(s:Ps):Z3j T nm s=(ZoB nm (Z3j T [] s).1,(Z3j T [] s).2):=by
 unfold Z3j
 repeat' split
 all_goals rfl
def Zd3(T:List Tq)(hT:TqOK T):FamX Y00 gl:=Z8y T 83 (by kernel_rfl) (I:=Int×Nat) (λi s=>GOK T s/\i.2<=2) (λi=>[.ptr 0 0,.int .i64 i.1,.int .i64 i.2]) (λi s=>.agg (Z2j T [] i.1 i.2 s).1.cells) (λi s=>(Z2j T [] i.1 i.2 s).2) (λ_=>rfl) (λi j h=>by
 obtain⟨a,b⟩:=i
 obtain⟨c,d⟩:=j
 simp only[List.cons.injEq,AV.int.injEq,true_and,and_true]at h
 obtain⟨h1,h2⟩:=h
 have:b=d:=by omega
 subst h1 this
 rfl) (λi s h=>ZfL hT h.1 i.1 i.2 h.2)
theorem Zlc{Y:AV->Prop}{O:Orc}{T:List Tq}{hT:TqOK T}(p:(Zd3 (gl:=gl) T hT).Ask Y O){s:Ps}(hs:GOK T s)(k:Int)(n:Nat)(hn:n<=2)(hX:∀u,XF (Z2j T [] k n s).2 u->Y u){X:Z00}(h:Z07 Z0z X=true) :
 Z05 Y00 O (gL T s.i s.op++X) 83 [.ptr 0 0,.int .i64 k,.int .i64 n]=some (.agg (Z2j T [] k n s).1.cells,gB T (Z2j T [] k n s).2++X):=Z4U p (k,n) s X hs ⟨hs,hn⟩ hX h
def Zq7(f:Nat):Bool:=Y01 f 81 || Y01 f 89
def Zkj(T:List Tq)(k:Int)(s:Ps):St×Ps:=((ZaJ T k s).1,Z03 T (ZaJ T k s).2 [59])
theorem Zht{T:List Tq}(hT:TqOK T){s:Ps}(hg:GOK T s)(kind:Int):GX gl T 87 [.ptr 0 0,.int .i64 kind] s (.agg (Zkj T kind s).1.cells) (Zkj T kind s).2:=by
 unfold Zkj ZaJ
 refine GX.conv (r:=.agg [.int .i64 kind,.str [],.str [],.int .i64 0,exA [(Z1p T s).1],.nslice,.nslice]) ?_ (λ_ _ _ h=>Z86 (λ_ h=>h) (λ_ h=>Z2B h) (λ_ h=>Z2B h) h)
 refine GX.of λh0=>?_
 simp only
 obtain⟨O,hO,⟨p1,p2,-⟩,-⟩:=Z2l (P:=Y00) (gl:=gl) (XF (Z03 T (Z1p T s).2 [59])) [Z64 T,Zan T hT] [] rfl
 have k2:=Z0l T (Z1p T s).2 [59]
 have q1:=λX hX=>Ziu p2 hg k2.x (X:=X) hX
 have q2:=λh X hX=>Z7e p1 hT (s:=(Z1p T s).2) h [59] rfl rfl (by decide) (λu hu=>hu) (X:=X) hX
 have o1:=λhe=>hg.go (Z3e hg.ok) (Z5x T s) he
 clear p1 p2 k2
 generalize Z1p T s=r at *
 obtain⟨⟨yo,yn,yt,yk⟩,s1⟩:=r
 simp only at q2 o1 hO⊢
 generalize Z03 T s1 [59]=s2 at *
 refine Z0t Zq7 3 follows Z06 hO Tryz.func87 rfl ?_
 rw (occs:=.pos [1]) [Z09 h0]
 simp only[gL,LV,Ex.cells,Y02,Y03]at q1 q2⊢
 repeat' ((conv=>whnf);first|(exact Or.inl rfl)|(refine Or.inr ?_)|(refine exG (q1 _ rfl) (λhd=>?_) (λe1=>?_))|(refine exG (q2 (o1 e1) _ rfl) (λhd=>?_) (λe2=>?_))|refine stp ?_|with_reducible apply Z01<;>intro h)
 all_goals (conv=>whnf)
 all_goals exact⟨[11,12,13,14],M11,rfl,(by refine Z0D ?_ ?_ ?_<;>first|rfl|exact e2),rfl,rfl,.inr rfl⟩
def Zpv(f:Nat):Bool:=Y01 f 57 || (Y01 f 83 || Y01 f 77)
theorem Zhj{T:List Tq}(hT:TqOK T){s:Ps}(hg:GOK T s):GX gl T 82 [.ptr 0 0] s (.agg (Z3j T [] s).1.cells) (Z3j T [] s).2:=by
 have f1:=Z4q hT hg.ok hg.er (w:=Z7n) rfl
 have f2:=Z4q hT hg.ok hg.er (w:=ZiU) rfl
 have f3:=Z4q hT hg.ok hg.er (w:=ZiV) rfl
 have f4:=Z4q hT hg.ok hg.er (w:=Z93) rfl
 by_cases hb:isF T s Z7n=true\/isF T s ZiU=true\/isF T s ZiV=true\/isF T s Z93=true
 · obtain ⟨w, k, n, hn, hw, hv⟩ : ∃ w k n, n <= 2 /\ isF T s w = true /\ Z3j T [] s = Z2j T [] k n (Z02 s) /\ ((w = Z7n /\ k = 2 /\ n = 0) \/ (w = ZiU /\ k = 4 /\ n = 2) \/ (w = ZiV /\ k = 5 /\ n = 1) \/ (w = Z93 /\ k = 6 /\ n = 1)) := by
    unfold Z3j
    cases h1:isF T s Z7n with
    |true=>exact⟨Z7n,2,0,by decide,h1,by simp,.inl ⟨rfl,rfl,rfl⟩⟩
    |false =>
     cases h2:isF T s ZiU with
     |true=>exact⟨ZiU,4,2,by decide,h2,by simp,.inr (.inl ⟨rfl,rfl,rfl⟩)⟩
     |false =>
      cases h3:isF T s ZiV with
      |true=>exact⟨ZiV,5,1,by decide,h3,by simp,.inr (.inr (.inl ⟨rfl,rfl,rfl⟩))⟩
      |false =>
       cases h4:isF T s Z93 with
       |true=>exact⟨Z93,6,1,by decide,h4,by simp,.inr (.inr (.inr ⟨rfl,rfl,rfl⟩))⟩
       |false=>rw[h1,h2,h3,h4]at hb;simp at hb
   obtain⟨hv,hc⟩:=hv
   rw[hv]
   refine GX.of λh0=>?_
   obtain⟨O,hO,⟨p1,p2,-⟩,-⟩:=Z2l (P:=Y00) (gl:=gl) (XF (Z2j T [] k n (Z02 s)).2) [Z60 T,Zd3 T hT] [] rfl
   have hgs:GOK T (Z02 s):=hg.go (Z0b hg.ok hw) (Z0k s) hg.er
   have qt:=λw (h:gis T s 2 w=true) X hX=>Zld p1 hg h (λu hu=>(Z8Y (s:=Z02 s) hg.er u hu).elim) (X:=X) hX
   have qf:=λw (h:gis T s 2 w=false) X hX=>Zga p1 hg h (X:=X) hX
   have qa:=λX hX=>Zlc p2 hgs k n hn (λu hu=>hu) (X:=X) hX
   clear p1 p2
   have htx:=Z1G hw
   have hno:∀v,v≠w->isF T s v=false:=λv hv=>by
    cases h:isF T s v with
    |false=>rfl
    |true=>exact absurd ((Z1G h).symm.trans htx) hv
   have t1:isF T s Z7n=true->w=Z7n:=λh=>htx.symm.trans (Z1G h)
   clear hv
   have hst:(Z02 s).i=s.i+1/\(Z02 s).op=s.op:=⟨rfl,rfl⟩
   generalize Z02 s=s' at *
   obtain⟨i',er',at',op'⟩:=s'
   simp only at hst
   obtain⟨rfl,rfl⟩:=hst
   generalize Z2j T [] k n ⟨s.i+1,er',at',s.op⟩=r at *
   obtain⟨y,s1⟩:=r
   obtain⟨y1,y2,y3,y4,y5,y6,y7,y8,y9,y10,hy⟩:=Z3M y
   rw[hy]at qa⊢
   rcases hc with ⟨rfl,rfl,rfl⟩|⟨rfl,rfl,rfl⟩|⟨rfl,rfl,rfl⟩|⟨rfl,rfl,rfl⟩
   case' inl =>
    have g1:=qt _ (f1.trans hw)
    have g2:=g1
    have g3:=g1
    have g4:=g1
   case' inr.inl =>
    have g1:=qf _ (f1.trans (hno _ (by decide)))
    have g2:=qt _ (f2.trans hw)
    have g3:=g1
    have g4:=g1
   case' inr.inr.inl =>
    have g1:=qf _ (f1.trans (hno _ (by decide)))
    have g2:=qf _ (f2.trans (hno _ (by decide)))
    have g3:=qt _ (f3.trans hw)
    have g4:=g1
   case' inr.inr.inr =>
    have g1:=qf _ (f1.trans (hno _ (by decide)))
    have g2:=qf _ (f2.trans (hno _ (by decide)))
    have g3:=qf _ (f3.trans (hno _ (by decide)))
    have g4:=qt _ (f4.trans hw)
   all_goals clear qt qf
   all_goals refine Z0t Zpv 3 follows Z06 hO Tryz.func82 rfl ?_
   all_goals rw (occs:=.pos [1]) [Z09 h0]
   all_goals simp only[gL,LV,Y02,Y03]at g1 g2 g3 g4 qa⊢
   all_goals repeat' ((conv=>whnf);first|(exact Or.inl rfl)|(refine Or.inr ?_)|refine exI (g1 _ rfl) ?_|refine exI (g2 _ rfl) ?_|refine exI (g3 _ rfl) ?_|refine exI (g4 _ rfl) ?_|(refine exG (qa _ rfl) (λhd=>?_) (λe1=>?_))|refine stp ?_|with_reducible apply Z01<;>intro h)
   all_goals (conv=>whnf)
   all_goals exact⟨[],M11,rfl,(by refine Z0D ?_ ?_ ?_<;>first|rfl|exact e1),rfl,rfl,.inl (Y04 rfl)⟩
 · have b1:isF T s Z7n=false:=Y0e.2 λh=>hb (.inl h)
   have b2:isF T s ZiU=false:=Y0e.2 λh=>hb (.inr (.inl h))
   have b3:isF T s ZiV=false:=Y0e.2 λh=>hb (.inr (.inr (.inl h)))
   have b4:isF T s Z93=false:=Y0e.2 λh=>hb (.inr (.inr (.inr h)))
   have hv:Z3j T [] s=(.mk 1 [] [] 0 [(Z0X T s).1] [] [],(Z0X T s).2):=by
    unfold Z3j
    rw[b1,b2,b3,b4]
    simp
   rw[hv]
   refine GX.conv (r:=.agg [.int .i64 1,.str [],.str [],.int .i64 0,exA [(Z0X T s).1],.nslice,.nslice]) ?_ (λ_ _ _ h=>Z86 (λ_ h=>h) (λ_ h=>Z2B h) (λ_ h=>Z2B h) h)
   refine GX.of λh0=>?_
   simp only
   obtain⟨O,hO,⟨p1,p2,-⟩,-⟩:=Z2l (P:=Y00) (gl:=gl) (XF (Z0X T s).2) [Z60 T,Zam T hT] [] rfl
   have g1:=λX hX=>Zga p1 hg (f1.trans b1) (X:=X) hX
   have g2:=λX hX=>Zga p1 hg (f2.trans b2) (X:=X) hX
   have g3:=λX hX=>Zga p1 hg (f3.trans b3) (X:=X) hX
   have g4:=λX hX=>Zga p1 hg (f4.trans b4) (X:=X) hX
   have qa:=λX hX=>Zlb p2 hg (λu hu=>hu) (X:=X) hX
   clear p1 p2 hv
   generalize Z0X T s=r at *
   obtain⟨⟨yo,yn,yt,yk⟩,s1⟩:=r
   simp only at hO⊢
   refine Z0t Zpv 3 follows Z06 hO Tryz.func82 rfl ?_
   rw (occs:=.pos [1]) [Z09 h0]
   simp only[gL,LV,Ex.cells,Y02,Y03]at g1 g2 g3 g4 qa⊢
   repeat' ((conv=>whnf);first|(exact Or.inl rfl)|(refine Or.inr ?_)|refine exI (g1 _ rfl) ?_|refine exI (g2 _ rfl) ?_|refine exI (g3 _ rfl) ?_|refine exI (g4 _ rfl) ?_|(refine exG (qa _ rfl) (λhd=>?_) (λe1=>?_))|refine stp ?_|with_reducible apply Z01<;>intro h)
   all_goals (conv=>whnf)
   all_goals exact⟨[11,12,13,14],M11,rfl,(by refine Z0D ?_ ?_ ?_<;>first|rfl|exact e1),rfl,rfl,.inr rfl⟩
end
section
variable {gl:Z0g}
def Zow(gl:Z0g)(T:List Tq)(i0:Nat)(stm:Ps->St×Ps):Prop:=∀s,GOK T s->i0<=s.i->GX gl T 41 [.ptr 0 0] s (.agg (stm s).1.cells) (stm s).2
def ZmX(gl:Z0g)(T:List Tq)(i0:Nat)(blk:Ps->List St×Ps):Prop:=∀s,GOK T s->i0<=s.i->GX gl T 59 [.ptr 0 0] s (stA (blk s).1) (blk s).2
def ZcF(b:Nat):List St->AV
 |[]=>.nslice
 |e::l=>.slice b 0 (l.length+1) (l.length+1) 7
def Zgu(b:Nat):List St->Z00
 |[]=>[]
 |e::l=>[⟨true,b,0,.cells (stC (e::l)) 58⟩]
def Zq5(f:Nat):Bool:=Y01 f 100 || (Y01 f 41 || (Y01 f 84 || Y01 f 86))
def Zm2(T:List Tq)(i0:Nat)(stm:Ps->St×Ps)(h:Zow gl T i0 stm):FamX Y00 gl:=Z8y T 41 (by kernel_rfl) (I:=Unit) (λ_ s=>GOK T s/\i0<=s.i) (λ_=>[.ptr 0 0]) (λ_ s=>.agg (stm s).1.cells) (λ_ s=>(stm s).2) (λ_=>rfl) (λ_ _ _=>rfl) (λ_ s hs=>h s hs.1 hs.2)
theorem Zhw {T : List Tq} (hT : TqOK T) {i0 : Nat} {stm : Ps -> St × Ps} (hkr : ∀ s, Kr s (stm s).2) (hgo : ∀ s, PsOK T s -> i0 <= s.i -> PsGo T s (stm s).2 /\ ((stm s).2.err = 0 -> s.i < (stm s).2.i))
  (hend:∀s,GOK T s->i0<=s.i->(Z0o T s).kind=5->(stm s).2.err=5/\(stm s).2.at_=(Z0o T s).pos) (hq:Zow gl T i0 stm):ZmX gl T i0 (Z7P T stm):=by
 intro s hg hi
 have hTy:Zcm Y00 53 53=some (58,7,120):=by kernel_rfl
 unfold Z7P
 have k1:=Z0l T s [123]
 have k2:=Za0 (T:=T) hkr [125] (T.length+1) (Z03 T s [123])
 have k3:=Z0l T (Z2L T stm [125] (T.length+1) (Z03 T s [123])).2 [125]
 have o1:=λhe=>hg.go (Z0C hg.ok [123]) k1 he
 have hi1:=Y09 hi (Z0C hg.ok [123]).on
 generalize hs1:Z03 T s [123]=s1 at *
 generalize hR:Z2L T stm [125] (T.length+1) s1=R at *
 obtain⟨RL,RS⟩:=R
 simp only at k2 k3⊢
 refine GX.conv (r:=stN RL) ?_ (λ_ _ _ h=>ZdZ h)
 refine GX.of λh0=>?_
 generalize hE:Z03 T RS [125]=E at *
 obtain⟨O,hO,⟨p1,p2,p3,p4,-⟩,-⟩:=Z2l (P:=Y00) (gl:=gl) (XF E) [ZbF T,Zm2 T i0 stm hq,Z2D T,Z4o T] [] rfl
 have q1:∀X,Z07 Z0z X=true->Z05 Y00 O (gL T s.i s.op++X) 84 [.ptr 0 0,.str [123]]=some (.tuple [],gB T s1++X):=λX hX=>by
  have h:=Zit p3 hT hg [123] rfl rfl (X:=X) (by rw[hs1];exact (k2.trans k3).x) hX
  rwa [hs1]at h
 have hfew:=hg.ok.few
 refine Z0t Zq5 3 follows Z06 hO Tryz.func59 rfl ?_
 rw (occs:=.pos [1]) [Z09 h0]
 simp only[gL,LV,Y02,Y03]at q1⊢
 repeat' ((conv=>whnf);first|(exact Or.inl rfl)|(refine Or.inr ?_)|(refine exG (q1 _ rfl) (λhd=>?_) (λe1=>?_))|refine stp ?_|with_reducible apply Z01<;>intro h)
 conv=>whnf
 have hg1:=o1 e1
 have hI:GOK T s1/\i0<=s1.i/\([]:List St).length+(T.length+1)<=T.length+1/\T.length-s1.i<T.length+1/\[]++(Z2L T stm [125] (T.length+1) s1).1=RL/\(Z2L T stm [125] (T.length+1) s1).2=RS:=⟨hg1,hi1,by simp,by omega,by rw[hR];rfl,by rw[hR]⟩
 refine⟨Bs4,(λy=>GOK T y.s/\i0<=y.s.i/\y.l.length+y.k<=T.length+1/\T.length-y.s.i<y.k/\y.l++(Z2L T stm [125] y.k y.s).1=RL/\(Z2L T stm [125] y.k y.s).2=RS),(λy=>[(0,.ptr 0 0),(3,ZcF 11 y.l)]),
  (λy=>gL T y.s.i y.s.op++Zgu 11 y.l),(λy=>y.k),⟨⟨[],s1,T.length+1⟩,hI,?_⟩,?_⟩
 · refine Y08 M11 rfl rfl ?_ ?_ rfl
   ·exact wks
   ·refine Z1h (l:=[]) (ms:=[]) (X':=[]) ?_ ?_ trivial<;>rfl
 clear hI hg1 o1 q1 k1 k2 hR hs1 hi1 hg hi e1
 rintro⟨l,s,k⟩ ⟨hs,hi,hlk,hk,hL,hS⟩
 dsimp only at hs hi hlk hk hL hS
 (try dsimp only)
 obtain⟨k,rfl⟩:∃k',k=k'+1:=⟨k-1,by omega⟩
 have hsg:=Z4p hT hs.ok hs.er (w:=[125]) rfl
 have qi:=λX hX=>Zkt p1 hs (k:=4) (w:=[125]) rfl (X:=X) hX
 have hlt:=hs.ok.lt
 rw[hsg]at qi
 cases hc:isF T s [125] with
 |true =>
  rw[hc]at qi
  have hst:=Za1 (T:=T) (stm:=stm) (w:=[125]) (s:=s) (λh=>by rw[hc]at h;cases h.2.1) (k+1)
  rw[hst]at hL hS
  simp only[Y0p]at hL hS
  subst hL hS
  have ql:∀X,Z07 Z0z X=true->Z05 Y00 O (gL T s.i s.op++X) 86 [.ptr 0 0,.str [125]]=some (.tuple [],gB T E++X):=λX hX=>by
   have h:=Zis p4 hT (s:=s) hs [125] rfl rfl rfl (by decide) (by rw[hE];exact λu hu=>hu) (X:=X) hX
   rwa [hE]at h
  have hcl:(stC l).length=l.length*7:=Z5h _
  clear p1 p2 p3 p4 hst hE k3 hgo hkr hend hq
  simp only[gL,LV,Y02,Y03]at qi ql⊢
  rcases l with _|⟨a,l⟩
  all_goals simp only[ZcF,Zgu,stN]
  all_goals repeat' ((conv=>whnf);first|(exact Or.inl rfl)|(refine Or.inr ?_)|refine exI (qi _ rfl) ?_|(refine exG (ql _ rfl) (λhd=>?_) (λe1=>?_))|refine stp ?_|with_reducible apply Z01<;>intro h)
  all_goals (conv=>whnf)
  ·exact⟨[],M11,rfl,(by refine Z0D ?_ ?_ ?_<;>first|rfl|exact e1),rfl,rfl,.inl (Y04 rfl)⟩
  ·exact⟨[11],M11,rfl,(by refine Z0D ?_ ?_ ?_<;>first|rfl|exact e1),rfl,rfl,.inr (Z1t (n:=28) rfl hcl (Z5m _))⟩
 |false =>
  rw[hc]at qi
  by_cases h5:(Z0o T s).kind=5
  · have hst:=Za1 (T:=T) (stm:=stm) (w:=[125]) (s:=s) (λh=>h.2.2 h5) (k+1)
    rw[hst]at hL hS
    simp only[Y0p]at hL hS
    subst hL hS
    obtain⟨d1,d2⟩:=hend s hs hi h5
    have hEf:E=Z0r s 5 (Z0o T s).pos:=by
     rw[<- hE]
     unfold Z03 Z0F Z0c
     rw[hc]
     simp
    have qs:∀X,Z07 Z0z X=true->Z05 Y00 O (gL T s.i s.op++X) 41 [.ptr 0 0]=some (.agg (stm s).1.cells,gD (stm s).2++X):=λX hX=>Zoe p2 () s X hs ⟨hs,hi⟩ (λu hu=>by
     rw[hEf]
     obtain⟨g1,g2⟩:=hu
     refine⟨Z1J (by decide),?_⟩
     rw[g2]
     (try simp only)
     rw[d1,d2]
     unfold Z0r
     rw[if_pos hs.er]) hX (by simp only[d1];decide)
    clear p1 p2 p3 p4 hst hE k3 hgo hkr hend hq hEf d1 d2
    generalize stm s=r at *
    obtain⟨⟨y1,y2,y3,y4,y5,y6,y7⟩,s2⟩:=r
    simp only[gL,LV,gD,St.cells,exA,Y02,Y03]at qi qs⊢
    rcases l with _|⟨a,l⟩
    all_goals simp only[ZcF,Zgu,stN]
    case' cons =>
     have hcl:(stC (a::l)).length=(l.length+1)*7:=Z5h _
     simp only[Y0b]at hlk
     have hfew2:l.length+1<=1000001:=by omega
    all_goals repeat' ((conv=>whnf);first|(exact Or.inl rfl)|(refine Or.inr ?_)|refine exI (qi _ rfl) ?_|refine exI (qs _ rfl) ?_|(refine apS ?_)|refine stp ?_|with_reducible apply Z01<;>intro h)
  · have hg:=hgo s hs.ok hi
    have hst:Z2L T stm [125] (k+1) s=((stm s).1::(Z2L T stm [125] k (stm s).2).1,(Z2L T stm [125] k (stm s).2).2):=by
     rw[Z2L,if_pos ⟨hs.er,hc,h5⟩]
    rw[hst]at hL hS
    simp only at hL hS
    have kr2:=hkr s
    have kr3:=Za0 (T:=T) hkr [125] k (stm s).2
    rw[hS]at kr3
    have qs:∀X,Z07 Z0z X=true->Z05 Y00 O (gL T s.i s.op++X) 41 [.ptr 0 0]=some (.agg (stm s).1.cells,gB T (stm s).2++X):=λX hX=>Z4U p2 () s X hs ⟨hs,hi⟩ ((kr3.trans k3).x) hX
    have ho:=λhe=>hs.go hg.1 kr2 he
    have hon:=Y09 hi hg.1.on
    have hlt2:=hg.2
    clear p1 p2 p3 p4 hst hE k3 hgo hkr hend hq kr2 kr3 hg
    generalize stm s=r at *
    obtain⟨⟨y1,y2,y3,y4,y5,y6,y7⟩,s2⟩:=r
    simp only[gL,LV,St.cells,exA,Y02,Y03]at qi qs ho hon hlt2 hL hS⊢
    rcases l with _|⟨a,l⟩
    · simp only[ZcF,Zgu]
      repeat' ((conv=>whnf);first|(exact Or.inl rfl)|(refine Or.inr ?_)|refine exI (qi _ rfl) ?_|(refine exG (qs _ rfl) (λhd=>?_) (λe1=>?_))|(refine apS ?_)|refine stp ?_|with_reducible apply Z01<;>intro h)
      conv=>whnf
      refine⟨⟨[.mk y1 y2 y3 y4 y5 y6 y7],s2,k⟩,⟨ho e1,hon,by simp at hlk⊢;omega,by have:=hlt2 e1;simp only at this⊢;omega,by simpa using hL,hS⟩,Y0h _,?_⟩
      refine Y08 [0,1,2,3,4,5,6,7,8,9,10,12] rfl rfl ?_ ?_ rfl
      · dsimp only[ZcF,Y0i]
        exact wks
      ·refine Z1h (l:=[12]) (X':=[_]) ?_ ?_ ⟨⟨rfl,rfl,rfl,rfl,Z0f rfl (Z5m [.mk y1 y2 y3 y4 y5 y6 y7])⟩,trivial⟩<;>rfl
    · have hcl:(stC (a::l)).length=(l.length+1)*7:=Z5h _
      have hsn:=ZgP (a::l) y1 y4 y2 y3 y5 y6 y7
      simp only[Y0b]at hlk
      simp only[ZcF,Zgu]
      repeat' ((conv=>whnf);first|(exact Or.inl rfl)|(refine Or.inr ?_)|refine exI (qi _ rfl) ?_|(refine exG (qs _ rfl) (λhd=>?_) (λe1=>?_))|(refine apS ?_)|refine stp ?_|with_reducible apply Z01<;>intro h)
      conv=>whnf
      have hl1:(l++[St.mk y1 y2 y3 y4 y5 y6 y7]).length=l.length+1:=by simp
      refine⟨⟨a::(l++[.mk y1 y2 y3 y4 y5 y6 y7]),s2,k⟩,⟨ho e1,hon,by simp only[Y0b,hl1];omega,by have:=hlt2 e1;simp only at this⊢;omega,by rw[<- hL];simp,hS⟩,Y0h _,?_⟩
      refine Y08 [0,1,2,3,4,5,6,7,8,9,10,13] rfl rfl ?_ ?_ rfl
      · dsimp only[ZcF,Y0i]
        exact wks
      ·refine Z1h (l:=[13]) (X':=[_]) ?_ ?_ ⟨⟨rfl,rfl,rfl,rfl,Z0f hsn (Z5m _)⟩,trivial⟩<;>rfl
end
section
variable {gl:Z0g}
def Zd2(T:List Tq)(i0:Nat)(blk:Ps->List St×Ps)(h:ZmX gl T i0 blk):FamX Y00 gl:=Z8y T 59 (by kernel_rfl) (I:=Unit) (λ_ s=>GOK T s/\i0<=s.i) (λ_=>[.ptr 0 0]) (λ_ s=>stA (blk s).1) (λ_ s=>(blk s).2) (λ_=>rfl) (λ_ _ _=>rfl) (λ_ s hs=>h s hs.1 hs.2)
def Zhu(T:List Tq)(F:Ps->St×Ps)(G:Ps->Prop)(ok:∀s,G s->GX gl T 88 [.ptr 0 0] s (.agg (F s).1.cells) (F s).2):FamX Y00 gl:=Z8y T 88 (by kernel_rfl) (I:=Unit) (λ_ s=>G s) (λ_=>[.ptr 0 0]) (λ_ s=>.agg (F s).1.cells) (λ_ s=>(F s).2) (λ_=>rfl) (λ_ _ _=>rfl) (λ_ s h=>ok s h)
def ZoP(f:Nat):Bool:=Y01 f 57 || (Y01 f 89 || (Y01 f 59 || Y01 f 88))
theorem ZfK {T : List Tq} (hT : TqOK T) {i0 : Nat} {blk : Ps -> List St × Ps} {stm : Ps -> St × Ps} (hkb : ∀ s, Kr s (blk s).2) (hks : ∀ s, Kr s (stm s).2) (hgb : ∀ s, PsOK T s -> i0 <= s.i -> PsGo T s (blk s).2)
  (hb:ZmX gl T i0 blk) (hc:∀t,GOK T t->i0<=t.i->isF T t kIf=true->GX gl T 88 [.ptr 0 0] (Z02 t) (.agg (stm t).1.cells) (stm t).2) {s:Ps} (hg:GOK T s) (hi:i0<=s.i) :
  GX gl T 88 [.ptr 0 0] s (.agg (ZbD T blk stm s).1.cells) (ZbD T blk stm s).2:=by
 by_cases h0:s.err=0
 case neg=>exact GX.dead h0
 unfold ZbD
 have k1:=Z5x T s
 have k2:=hkb (Z1p T s).2
 have k3:=Zi1 (T:=T) hkb hks (blk (Z1p T s).2).2
 have o1:=λhe=>hg.go (Z3e hg.ok) k1 he
 have i1:=Y09 hi (Z3e hg.ok).on
 generalize hr0:Z1p T s=r0 at *
 obtain⟨⟨eo,en,et,ek⟩,u1⟩:=r0
 simp only at k1 k2 k3 o1 i1⊢
 have o2:=λhe1 he=>(o1 he1).go (hgb u1 (o1 he1).ok i1) k2 he
 have i2:u1.err=0->i0<=(blk u1).2.i:=λhe=>Y09 i1 (hgb u1 (o1 he).ok i1).on
 have q3:u1.err=0->GX gl T 59 [.ptr 0 0] u1 (stA (blk u1).1) (blk u1).2:=λhe=>hb u1 (o1 he) i1
 generalize hr1:blk u1=r1 at *
 obtain⟨tl,u2⟩:=r1
 simp only at k2 k3 o2 i2⊢
 have main:∀(els:List St)(E:Ps),Z7p T blk stm u2=(els,E)->MemXQ Y00 gl (XF E) 11 88 [.ptr 0 0] (gB T s) (.agg (St.mk 10 [] [] 0 [.mk eo en et ek] tl els).cells) (gB T E):=by
  intro els E hE
  rw[hE]at k3
  simp only at k3
  obtain⟨O,hO,⟨p1,p2,p3,p4,-⟩,-⟩:=Z2l (P:=Y00) (gl:=gl) (XF E) [Z60 T,Zan T hT,Zd2 T i0 blk hb,Zhu T (λt=>stm { t with i:=t.i-1 }) (λt=>∃t',t=Z02 t'/\GOK T t'/\i0<=t'.i/\isF T t' kIf=true) (λt ⟨t',e,h1,h2,h3⟩=>by
   subst e
   have:({ Z02 t' with i:=(Z02 t').i-1 }:Ps)=t':=by obtain⟨a,b,c,d⟩:=t';rfl
   rw[this]
   exact hc t' h1 h2 h3)] [] rfl
  have qb:∀X,Z07 Z0z X=true->Z05 Y00 O (gL T s.i s.op++X) 89 [.ptr 0 0]=some (.agg (Ex.mk eo en et ek).cells,gB T u1++X):=λX hX=>by
   have h:=Ziu p2 hg (X:=X) (by rw[hr0];exact (k2.trans k3).x) hX
   rwa [hr0]at h
  have qk:u1.err=0->∀X,Z07 Z0z X=true->Z05 Y00 O (gL T u1.i u1.op++X) 59 [.ptr 0 0]=some (stA tl,gB T u2++X):=λhe X hX=>by
   have h:=Z4U p3 () u1 X (o1 he) ⟨o1 he,i1⟩ (by simp only[hr1];exact k3.x) hX
   simpa only[hr1]using h
  cases h2:isF T u2 Z94 with
  |false =>
   have hE2:Z7p T blk stm u2=([],u2):=by unfold Z7p;rw[h2];rfl
   rw[hE2]at hE
   cases hE
   have qm:u1.err=0->u2.err=0->∀X,Z07 Z0z X=true->Z05 Y00 O (gL T u2.i u2.op++X) 57 [.ptr 0 0,.int .i64 2,.str Z94]=some (.bool false,gL T u2.i u2.op++X):=λhe1 he2 X hX=>Zga p1 (o2 he1 he2) ((Z4q hT (o2 he1 he2).ok he2 rfl).trans h2) hX
   clear p1 p2 p3 p4 k1 k2 k3 hb hc hgb hkb hks hr0 hr1
   refine MemXQ.conv (r:=.agg [.int .i64 10,.str [],.str [],.int .i64 0,exA [.mk eo en et ek],stA tl,.nslice]) ?_ (λ_ _ _ h=>Z86 (λ_ h=>h) (λ_ h=>h) (λ_ h=>Z2B h) h)
   refine Z0t ZoP 3 follows Z06 hO Tryz.func88 rfl ?_
   rw (occs:=.pos [1]) [Z09 h0]
   simp only[gL,LV,Ex.cells,stA,Y02,Y03]at qb qk qm⊢
   repeat' ((conv=>whnf);first|(exact Or.inl rfl)|(refine Or.inr ?_)|(refine exG (qb _ rfl) (λhd=>?_) (λe1=>?_))|(refine exG (qk e1 _ rfl) (λhd=>?_) (λe2=>?_))|refine exI (qm e1 e2 _ rfl) ?_|refine stp ?_|with_reducible apply Z01<;>intro h)
   all_goals (conv=>whnf)
   all_goals exact⟨[11,12,13,14,15],M11,rfl,(by refine Z0D ?_ ?_ ?_<;>first|rfl|exact e2),rfl,rfl,.inr rfl⟩
  |true =>
   have o3:u1.err=0->u2.err=0->GOK T (Z02 u2):=λhe1 he2=>(o2 he1 he2).go (Z0b (o2 he1 he2).ok h2) (Z0k u2) he2
   have i3:u1.err=0->i0<=(Z02 u2).i:=λhe=>Y09 (i2 he) (Nat.le_succ _)
   have qm:u1.err=0->u2.err=0->∀X,Z07 Z0z X=true->Z05 Y00 O (gL T u2.i u2.op++X) 57 [.ptr 0 0,.int .i64 2,.str Z94]=some (.bool true,gL T (u2.i+1) u2.op++X):=λhe1 he2 X hX=>Zld p1 (o2 he1 he2) ((Z4q hT (o2 he1 he2).ok he2 rfl).trans h2) (λu hu=>(Z8Y (s:=Z02 u2) he2 u hu).elim) hX
   cases h3:isF T (Z02 u2) kIf with
   |true =>
    have hE2:Z7p T blk stm u2=([(stm (Z02 u2)).1],(stm (Z02 u2)).2):=by unfold Z7p;rw[h2,if_pos rfl,h3,if_pos rfl]
    rw[hE2]at hE
    cases hE
    have qn:u1.err=0->u2.err=0->∀X,Z07 Z0z X=true->Z05 Y00 O (gL T (u2.i+1) u2.op++X) 57 [.ptr 0 0,.int .i64 2,.str kIf]=some (.bool true,gL T (u2.i+1+1) u2.op++X):=λhe1 he2 X hX=>Zld p1 (o3 he1 he2) ((Z4q hT (o3 he1 he2).ok he2 rfl).trans h3) (λu hu=>(Z8Y (s:=Z02 (Z02 u2)) he2 u hu).elim) hX
    have qc:u1.err=0->u2.err=0->∀X,Z07 Z0z X=true->Z05 Y00 O (gL T (u2.i+1+1) u2.op++X) 88 [.ptr 0 0]=some (.agg (stm (Z02 u2)).1.cells,gB T (stm (Z02 u2)).2++X):=λhe1 he2 X hX =>
     Z4U p4 () (Z02 (Z02 u2)) X ((o3 he1 he2).go (Z0b (o3 he1 he2).ok h3) (Z0k _) he2) ⟨Z02 u2,rfl,o3 he1 he2,i3 he1,h3⟩ (λu hu=>hu) hX
    clear p1 p2 p3 p4 k1 k2 k3 hb hc hgb hkb hks hr0 hr1 hE2
    generalize stm (Z02 u2)=r3 at *
    obtain⟨⟨y1,y2,y3,y4,y5,y6,y7⟩,u4⟩:=r3
    refine Z0t ZoP 3 follows Z06 hO Tryz.func88 rfl ?_
    rw (occs:=.pos [1]) [Z09 h0]
    simp only[gL,LV,Ex.cells,St.cells,exA,stA,Y02,Y03]at qb qk qm qn qc⊢
    repeat' ((conv=>whnf);first|(exact Or.inl rfl)|(refine Or.inr ?_)|(refine exG (qb _ rfl) (λhd=>?_) (λe1=>?_))|(refine exG (qk e1 _ rfl) (λhd=>?_) (λe2=>?_))|refine exI (qm e1 e2 _ rfl) ?_|refine exI (qn e1 e2 _ rfl) ?_|(refine exG (qc e1 e2 _ rfl) (λhd=>?_) (λe3=>?_))|refine stp ?_|with_reducible apply Z01<;>intro h)
    all_goals (conv=>whnf)
    all_goals exact⟨[11,12,13,14,15],M11,rfl,(by refine Z0D ?_ ?_ ?_<;>first|rfl|exact e3),rfl,rfl,.inr rfl⟩
   |false =>
    have hE2:Z7p T blk stm u2=blk (Z02 u2):=by unfold Z7p;rw[h2,if_pos rfl,h3];rfl
    rw[hE2]at hE
    have qn:u1.err=0->u2.err=0->∀X,Z07 Z0z X=true->Z05 Y00 O (gL T (u2.i+1) u2.op++X) 57 [.ptr 0 0,.int .i64 2,.str kIf]=some (.bool false,gL T (u2.i+1) u2.op++X):=λhe1 he2 X hX=>Zga p1 (o3 he1 he2) ((Z4q hT (o3 he1 he2).ok he2 rfl).trans h3) hX
    have qc:u1.err=0->u2.err=0->∀X,Z07 Z0z X=true->Z05 Y00 O (gL T (u2.i+1) u2.op++X) 59 [.ptr 0 0]=some (stA els,gB T E++X):=λhe1 he2 X hX=>by
     have h:=Z4U p3 () (Z02 u2) X (o3 he1 he2) ⟨o3 he1 he2,i3 he1⟩ (by simp only[hE];exact λu hu=>hu) hX
     simp only[hE]at h
     exact h
    clear p1 p2 p3 p4 k1 k2 k3 hb hc hgb hkb hks hr0 hr1 hE2 hE
    refine Z0t ZoP 3 follows Z06 hO Tryz.func88 rfl ?_
    rw (occs:=.pos [1]) [Z09 h0]
    simp only[gL,LV,Ex.cells,St.cells,exA,stA,Y02,Y03]at qb qk qm qn qc⊢
    repeat' ((conv=>whnf);first|(exact Or.inl rfl)|(refine Or.inr ?_)|(refine exG (qb _ rfl) (λhd=>?_) (λe1=>?_))|(refine exG (qk e1 _ rfl) (λhd=>?_) (λe2=>?_))|refine exI (qm e1 e2 _ rfl) ?_|refine exI (qn e1 e2 _ rfl) ?_|(refine exG (qc e1 e2 _ rfl) (λhd=>?_) (λe3=>?_))|refine stp ?_|with_reducible apply Z01<;>intro h)
    all_goals (conv=>whnf)
    all_goals exact⟨[11,12,13,14,15],M11,rfl,(by refine Z0D ?_ ?_ ?_<;>first|rfl|exact e3),rfl,rfl,.inr rfl⟩
 exact GX.of λ_=>main _ _ rfl
end
section
variable {gl:Z0g}
def Zm7(T:List Tq)(hT:TqOK T):FamX Y00 gl:=Z8y T 87 (by kernel_rfl) (I:=Int) (λ_ s=>GOK T s) (λk=>[.ptr 0 0,.int .i64 k]) (λk s=>.agg (Zkj T k s).1.cells) (λk s=>(Zkj T k s).2) (λ_=>rfl) (λi j h=>by simpa using h) (λk s h=>Zht hT h k)
def Zm1(T:List Tq)(hT:TqOK T):FamX Y00 gl:=Z8y T 82 (by kernel_rfl) (I:=Unit) (λ_ s=>GOK T s) (λ_=>[.ptr 0 0]) (λ_ s=>.agg (Z3j T [] s).1.cells) (λ_ s=>(Z3j T [] s).2) (λ_=>rfl) (λ_ _ _=>rfl) (λ_ s h=>Zhj hT h)
def ZbC(f:Nat):Bool:=Y01 f 57 || (Y01 f 81 || (Y01 f 80 || (Y01 f 83 || (Y01 f 84 || (Y01 f 86 || (Y01 f 85 || (Y01 f 87 || (Y01 f 89 || (Y01 f 59 || (Y01 f 88 || (Y01 f 82 || Y01 f 56)))))))))))
theorem Zah{T:List Tq}{s:Ps}{w:List UInt8}(hw:isF T s w=true):∀v,(v==w)=false->isF T s v=false:=λv hv=>by
 cases h:isF T s v with
 |false=>rfl
 |true =>
  have:=(Z1G h).symm.trans (Z1G hw)
  subst this
  simp at hv
theorem ZfJ {T : List Tq} (hT : TqOK T) {blk : Ps -> List St × Ps} {stm : Ps -> St × Ps} {s : Ps} (hg : GOK T s) (hkb : ∀ s, Kr s (blk s).2) (hks : ∀ s, Kr s (stm s).2) (hgb : ∀ t, PsOK T t -> s.i + 1 <= t.i -> PsGo T t (blk t).2)
  (hb:ZmX gl T (s.i+1) blk) (hc:isF T s kIf=true->GOK T (Z02 s)->GX gl T 88 [.ptr 0 0] (Z02 s) (.agg (ZbD T blk stm (Z02 s)).1.cells) (ZbD T blk stm (Z02 s)).2) :
  GX gl T 41 [.ptr 0 0] s (.agg (Z2M T blk stm s).1.cells) (Z2M T blk stm s).2:=by
 by_cases h0:s.err=0
 case neg=>exact GX.dead h0
 have hx:=tq4 T s.i hg.ok.lt
 rw[<- Z0s hg.ok.lt]at hx
 have hlt:=hg.ok.lt
 have hfew:=hg.ok.few
 have fk:=λw hw=>Z4q hT hg.ok hg.er (w:=w) hw
 generalize hE:(Z2M T blk stm s).2=E
 have main:∀(V:St),(Z2M T blk stm s).1=V->MemXQ Y00 gl (XF E) 11 41 [.ptr 0 0] (gB T s) (.agg V.cells) (gB T E):=by
  intro V hV
  obtain⟨O,hO,⟨p1,p2,p3,p4,p5,p6,p7,p8,p9,p10,p11,p12,p13,-⟩,-⟩:=Z2l (P:=Y00) (gl:=gl) (XF E) [Z60 T,Z64 T,Z63 T,Zd3 T hT,Z2D T,Z4o T,ZcZ T hT,Zm7 T hT,Zan T hT,Zd2 T (s.i+1) blk hb,Zhu T (ZbD T blk stm) (λt=>t=Z02 s/\isF T s kIf=true/\GOK T t) (λt h=>by obtain⟨rfl,h1,h2⟩:=h;exact hc h1 h2),Zm1 T hT,Z2n T] [] rfl
  have qt:=λw (h:gis T s 2 w=true) X hX=>Zld p1 hg h (λu hu=>(Z8Y (s:=Z02 s) hg.er u hu).elim) (X:=X) hX
  have qf:=λw (h:gis T s 2 w=false) X hX=>Zga p1 hg h (X:=X) hX
  have hgs:=λ{w} (h:isF T s w=true)=>hg.go (Z0b hg.ok h) (Z0k s) hg.er
  by_cases hk1:(Z0o T s).kind=1
  ·
   have hno:∀w,isF T s w=false:=λw=>by
    unfold isF
    rw[hk1];simp
   have hwb:Z1j T s=true:=by unfold Z1j;rw[hg.er,hk1];rfl
   have hwF:Z0a T s=Z02 s:=by unfold Z0a;rw[if_pos hwb];rfl
   have hwT:Z0R T s=(Z0o T s).text:=by unfold Z0R;rw[if_pos hwb]
   have hB:Z2M T blk stm s=(ZoB (Z0o T s).text (Z3j T [] (Z03 T (Z02 s) [61])).1,Z03 T (Z3j T [] (Z03 T (Z02 s) [61])).2 [59]):=by
    unfold Z2M Z1m
    simp only[hno,Y0r,if_false]
    rw[hwF,hwT,Zll]
   rw[hB]at hE hV
   simp only at hE hV
   have hgw:GOK T (Z02 s):=hg.go (by rw[<- hwF];exact Z4B hg.ok) (Z0k s) hg.er
   have k1:=Z0l T (Z02 s) [61]
   have k2:=Z9U T [] (Z03 T (Z02 s) [61])
   have k3:=Z0l T (Z3j T [] (Z03 T (Z02 s) [61])).2 [59]
   rw[hE]at k3
   have o1:=λhe=>hgw.go (Z0C hgw.ok [61]) k1 he
   have o2:=λhe1 he=>(o1 he1).go (Zgf (o1 he1).ok []) k2 he
   have g1:∀X,Z07 Z0z X=true->Z05 Y00 O (gL T s.i s.op++X) 80 [.ptr 0 0]=some (.str (Z0o T s).text,gL T (s.i+1) s.op++X):=λX hX=>by
    have h:=Zou p3 () s X hg ⟨hg.ok,hg.at0⟩ hX hwF hg.er
    simp only[hwT]at h
    exact h
   have g2:∀X,Z07 Z0z X=true->Z05 Y00 O (gL T (s.i+1) s.op++X) 81 [.ptr 0 0,.str [61]]=some (.tuple [],gB T (Z03 T (Z02 s) [61])++X):=λX hX=>Z7e p2 hT hgw [61] rfl rfl (by decide) (k2.trans k3).x (X:=X) hX
   have g3:=λhe X hX=>Z4U p12 () (Z03 T (Z02 s) [61]) X (o1 he) (o1 he) k3.x hX
   have g4:GOK T (Z3j T [] (Z03 T (Z02 s) [61])).2->∀X,Z07 Z0z X=true->Z05 Y00 O (gL T (Z3j T [] (Z03 T (Z02 s) [61])).2.i (Z3j T [] (Z03 T (Z02 s) [61])).2.op++X) 81 [.ptr 0 0,.str [59]]=some (.tuple [],gB T E++X):=λh X hX=>by
    have h:=Z7e p2 hT (s:=(Z3j T [] (Z03 T (Z02 s) [61])).2) h [59] rfl rfl (by decide) (by rw[hE];exact λu hu=>hu) (X:=X) hX
    rwa [hE]at h
   clear p1 p2 p3 p4 p5 p6 p7 p8 p9 p10 p11 p12 p13 qt qf hgs hno hwb hwF hwT hB k1 k2 k3 hgw hb hc hgb hkb hks fk hE
   generalize Z03 T (Z02 s) [61]=s1 at *
   generalize Z3j T [] s1=r at *
   obtain⟨⟨y1,y2,y3,y4,y5,y6,y7⟩,s2⟩:=r
   subst hV
   generalize Z0o T s=t at *
   obtain⟨kd,tx,nm,ps⟩:=t
   simp only at hk1
   subst hk1
   refine Z0t ZbC 3 follows Z06 hO Y0f rfl ?_
   rw (occs:=.pos [1]) [Z09 h0]
   simp only[gL,LV,Tq.cells,St.cells,ZoB,exA,Y02,Y03]at g1 g2 g3 g4 hx o2⊢
   repeat' ((conv=>whnf);first|(exact Or.inl rfl)|(refine Or.inr ?_)|refine exI hx ?_|refine exI (g1 _ rfl) ?_|(refine exG (g2 _ rfl) (λhd=>?_) (λe1=>?_))|(refine exG (g3 e1 _ rfl) (λhd=>?_) (λe2=>?_))|(refine exG (g4 (o2 e1 e2) _ rfl) (λhd=>?_) (λe3=>?_))|(with_reducible refine ixJ s.i rfl ?_ ?_;focus omega)|refine stp ?_|with_reducible apply Z01<;>intro h)
   all_goals (conv=>whnf)
   all_goals exact⟨[],M11,rfl,(by refine Z0D ?_ ?_ ?_<;>first|rfl|exact e3),rfl,rfl,.inl (Y04 rfl)⟩
  have e1k:((Z0o T s).kind==1)=false:=by simpa using hk1
  cases hS:isF T s Zbz with
  |true =>
   have hno:=Zah hS
   have hB:Z2M T blk stm s=((Z2j T [] 3 1 (Z02 s)).1,Z03 T (Z2j T [] 3 1 (Z02 s)).2 [59]):=by
    unfold Z2M Z1m
    rw[hno kIf rfl,hno Z62 rfl,hS]
    simp
   rw[hB]at hE hV
   simp only at hE hV
   have k3:=Z0l T (Z2j T [] 3 1 (Z02 s)).2 [59]
   rw[hE]at k3
   have gm:=qt _ ((fk _ rfl).trans hS)
   have g1:=λX hX=>Zlc p4 (hgs hS) 3 1 (by decide) k3.x (X:=X) hX
   have o1:=λhe=>(hgs hS).go (Z6R (hgs hS).ok [] 3 1) (Z6Q T [] 3 1 (Z02 s)) he
   have g2:GOK T (Z2j T [] 3 1 (Z02 s)).2->∀X,Z07 Z0z X=true->Z05 Y00 O (gL T (Z2j T [] 3 1 (Z02 s)).2.i (Z2j T [] 3 1 (Z02 s)).2.op++X) 81 [.ptr 0 0,.str [59]]=some (.tuple [],gB T E++X):=λh X hX=>by
    have h:=Z7e p2 hT (s:=(Z2j T [] 3 1 (Z02 s)).2) h [59] rfl rfl (by decide) (by rw[hE];exact λu hu=>hu) (X:=X) hX
    rwa [hE]at h
   clear p1 p2 p3 p4 p5 p6 p7 p8 p9 p10 p11 p12 p13 qt qf hgs hno hB k3 hb hc hgb hkb hks fk hE
   generalize Z2j T [] 3 1 (Z02 s)=r at *
   obtain⟨⟨y1,y2,y3,y4,y5,y6,y7⟩,s2⟩:=r
   simp only at hV
   subst hV
   generalize Z0o T s=t at *
   obtain⟨kd,tx,nm,ps⟩:=t
   refine Z0t ZbC 3 follows Z06 hO Y0f rfl ?_
   rw (occs:=.pos [1]) [Z09 h0]
   simp only[gL,LV,Tq.cells,St.cells,exA,Y02,Y03]at gm g1 g2 hx o1⊢
   repeat' ((conv=>whnf);first|(exact Or.inl rfl)|(refine Or.inr ?_)|refine exI hx ?_|refine exI (gm _ rfl) ?_|(refine exG (g1 _ rfl) (λhd=>?_) (λe1=>?_))|(refine exG (g2 (o1 e1) _ rfl) (λhd=>?_) (λe3=>?_))|(with_reducible refine ixJ s.i rfl ?_ ?_;focus omega)|refine stp ?_|with_reducible apply Z01<;>intro h)
   all_goals (conv=>whnf)
   all_goals exact⟨[],M11,rfl,(by refine Z0D ?_ ?_ ?_<;>first|rfl|exact e3),rfl,rfl,.inl (Y04 rfl)⟩
  |false =>
  have m1:=qf _ ((fk _ rfl).trans hS)
  cases hF:isF T s ZbA with
  |true =>
   have hno:=Zah hF
   have hB:Z2M T blk stm s=((Zb1 T (Z02 s)).1,Z03 T (Zb1 T (Z02 s)).2 [59]):=by
    unfold Z2M Z1m
    rw[hno kIf rfl,hno Z62 rfl,hS,hF]
    simp
   rw[hB]at hE hV
   unfold Zb1 at hE hV
   simp only at hE hV
   have k1:=Z0l T (Z02 s) [40]
   have k2:=Z3p T ordL (Z03 T (Z02 s) [40]) 1
   have k3:=Z0l T (Z08 T (Z03 T (Z02 s) [40]) ordL 1).2 [41]
   have k4:=Z0l T (Z03 T (Z08 T (Z03 T (Z02 s) [40]) ordL 1).2 [41]) [59]
   rw[hE]at k4
   have gm:=qt _ ((fk _ rfl).trans hF)
   have hgw:=hgs hF
   have o1:=λhe=>hgw.go (Z0C hgw.ok [40]) k1 he
   have o2:=λhe1 he=>(o1 he1).go (Z22 ordL _ 1 (o1 he1).ok) k2 he
   have o3:=λhe1 he2 he=>(o2 he1 he2).go (Z0C (o2 he1 he2).ok [41]) k3 he
   have g1:∀X,Z07 Z0z X=true->Z05 Y00 O (gL T (s.i+1) s.op++X) 84 [.ptr 0 0,.str [40]]=some (.tuple [],gB T (Z03 T (Z02 s) [40])++X):=λX hX=>Zit p5 hT hgw [40] rfl rfl (k2.trans (k3.trans k4)).x (X:=X) hX
   have g2:=λh X hX=>Zla p7 (s:=Z03 T (Z02 s) [40]) h (k3.trans k4).x (X:=X) hX
   have g3:=λh X hX=>Zis p6 hT (s:=(Z08 T (Z03 T (Z02 s) [40]) ordL 1).2) h [41] rfl rfl rfl (by decide) k4.x (X:=X) hX
   have g4:GOK T (Z03 T (Z08 T (Z03 T (Z02 s) [40]) ordL 1).2 [41])->∀X,Z07 Z0z X=true->Z05 Y00 O (gL T (Z03 T (Z08 T (Z03 T (Z02 s) [40]) ordL 1).2 [41]).i (Z03 T (Z08 T (Z03 T (Z02 s) [40]) ordL 1).2 [41]).op++X) 81 [.ptr 0 0,.str [59]]=some (.tuple [],gB T E++X):=λh X hX=>by
    have h:=Z7e p2 hT (s:=Z03 T (Z08 T (Z03 T (Z02 s) [40]) ordL 1).2 [41]) h [59] rfl rfl (by decide) (by rw[hE];exact λu hu=>hu) (X:=X) hX
    rwa [hE]at h
   clear p1 p2 p3 p4 p5 p6 p7 p8 p9 p10 p11 p12 p13 qt qf hgs hno hB k1 k2 k3 k4 hb hc hgb hkb hks fk hE hgw
   generalize Z03 T (Z02 s) [40]=s1 at *
   generalize Z08 T s1 ordL 1=r at *
   obtain⟨o,s2⟩:=r
   simp only at hV g2 g3 g4 o2 o3
   generalize Z03 T s2 [41]=s3 at *
   subst hV
   refine MemXQ.conv (r:=.agg [.int .i64 7,.str [],.str [],.int .i64 o,.nslice,.nslice,.nslice]) ?_ (λ_ _ _ h=>Z86 (λ_ h=>Z2B h) (λ_ h=>Z2B h) (λ_ h=>Z2B h) h)
   generalize Z0o T s=t at *
   obtain⟨kd,tx,nm,ps⟩:=t
   refine Z0t ZbC 3 follows Z06 hO Y0f rfl ?_
   rw (occs:=.pos [1]) [Z09 h0]
   simp only[gL,LV,Tq.cells,Y02,Y03]at m1 gm g1 g2 g3 g4 hx⊢
   repeat' ((conv=>whnf);first|(exact Or.inl rfl)|(refine Or.inr ?_)|refine exI hx ?_|refine exI (m1 _ rfl) ?_|refine exI (gm _ rfl) ?_|(refine exG (g1 _ rfl) (λhd=>?_) (λe1=>?_))|(refine exG (g2 (o1 e1) _ rfl) (λhd=>?_) (λe2=>?_))|(refine exG (g3 (o2 e1 e2) _ rfl) (λhd=>?_) (λe3=>?_))|(refine exG (g4 (o3 e1 e2 e3) _ rfl) (λhd=>?_) (λe4=>?_))|(with_reducible refine ixJ s.i rfl ?_ ?_;focus omega)|refine stp ?_|with_reducible apply Z01<;>intro h)
   all_goals (conv=>whnf)
   all_goals exact⟨[],M11,rfl,(by refine Z0D ?_ ?_ ?_<;>first|rfl|exact e4),rfl,rfl,.inl (Y04 rfl)⟩
  |false =>
  have m2:=qf _ ((fk _ rfl).trans hF)
  cases hA:isF T s Z8w with
  |true =>
   have hno:=Zah hA
   have hB:Z2M T blk stm s=Zkj T 8 (Z02 s):=by
    unfold Z2M Z1m Zkj
    rw[hno kIf rfl,hno Z62 rfl,hS,hF,hA]
    simp
   rw[hB]at hE hV
   have gm:=qt _ ((fk _ rfl).trans hA)
   have g1:∀X,Z07 Z0z X=true->Z05 Y00 O (gL T (s.i+1) s.op++X) 87 [.ptr 0 0,.int .i64 8]=some (.agg V.cells,gB T E++X):=λX hX=>by
    have h:=Z4U p8 8 (Z02 s) X (hgs hA) (hgs hA) (by simp only[hE];exact λu hu=>hu) hX
    simp only[hE,hV]at h
    exact h
   clear p1 p2 p3 p4 p5 p6 p7 p8 p9 p10 p11 p12 p13 qt qf hgs hno hB hb hc hgb hkb hks fk hE hV
   obtain⟨y1,y2,y3,y4,y5,y6,y7⟩:=V
   generalize Z0o T s=t at *
   obtain⟨kd,tx,nm,ps⟩:=t
   refine Z0t ZbC 3 follows Z06 hO Y0f rfl ?_
   rw (occs:=.pos [1]) [Z09 h0]
   simp only[gL,LV,Tq.cells,St.cells,exA,Y02,Y03]at m1 m2 gm g1 hx⊢
   repeat' ((conv=>whnf);first|(exact Or.inl rfl)|(refine Or.inr ?_)|refine exI hx ?_|refine exI (m1 _ rfl) ?_|refine exI (m2 _ rfl) ?_|refine exI (gm _ rfl) ?_|(refine exG (g1 _ rfl) (λhd=>?_) (λe1=>?_))|(with_reducible refine ixJ s.i rfl ?_ ?_;focus omega)|refine stp ?_|with_reducible apply Z01<;>intro h)
   all_goals (conv=>whnf)
   all_goals exact⟨[],M11,rfl,(by refine Z0D ?_ ?_ ?_<;>first|rfl|exact e1),rfl,rfl,.inl (Y04 rfl)⟩
  |false =>
  have m3:=qf _ ((fk _ rfl).trans hA)
  cases hR:isF T s Z8x with
  |true =>
   have hno:=Zah hR
   have hB:Z2M T blk stm s=Zkj T 9 (Z02 s):=by
    unfold Z2M Z1m Zkj
    rw[hno kIf rfl,hno Z62 rfl,hS,hF,hA,hR]
    simp
   rw[hB]at hE hV
   have gm:=qt _ ((fk _ rfl).trans hR)
   have g1:∀X,Z07 Z0z X=true->Z05 Y00 O (gL T (s.i+1) s.op++X) 87 [.ptr 0 0,.int .i64 9]=some (.agg V.cells,gB T E++X):=λX hX=>by
    have h:=Z4U p8 9 (Z02 s) X (hgs hR) (hgs hR) (by simp only[hE];exact λu hu=>hu) hX
    simp only[hE,hV]at h
    exact h
   clear p1 p2 p3 p4 p5 p6 p7 p8 p9 p10 p11 p12 p13 qt qf hgs hno hB hb hc hgb hkb hks fk hE hV
   obtain⟨y1,y2,y3,y4,y5,y6,y7⟩:=V
   generalize Z0o T s=t at *
   obtain⟨kd,tx,nm,ps⟩:=t
   refine Z0t ZbC 3 follows Z06 hO Y0f rfl ?_
   rw (occs:=.pos [1]) [Z09 h0]
   simp only[gL,LV,Tq.cells,St.cells,exA,Y02,Y03]at m1 m2 m3 gm g1 hx⊢
   repeat' ((conv=>whnf);first|(exact Or.inl rfl)|(refine Or.inr ?_)|refine exI hx ?_|refine exI (m1 _ rfl) ?_|refine exI (m2 _ rfl) ?_|refine exI (m3 _ rfl) ?_|refine exI (gm _ rfl) ?_|(refine exG (g1 _ rfl) (λhd=>?_) (λe1=>?_))|(with_reducible refine ixJ s.i rfl ?_ ?_;focus omega)|refine stp ?_|with_reducible apply Z01<;>intro h)
   all_goals (conv=>whnf)
   all_goals exact⟨[],M11,rfl,(by refine Z0D ?_ ?_ ?_<;>first|rfl|exact e1),rfl,rfl,.inl (Y04 rfl)⟩
  |false =>
  have m4:=qf _ ((fk _ rfl).trans hR)
  cases hI:isF T s kIf with
  |true =>
   have hB:Z2M T blk stm s=ZbD T blk stm (Z02 s):=by
    unfold Z2M
    rw[hI,if_pos rfl]
   rw[hB]at hE hV
   have gm:=qt _ ((fk _ rfl).trans hI)
   have g1:∀X,Z07 Z0z X=true->Z05 Y00 O (gL T (s.i+1) s.op++X) 88 [.ptr 0 0]=some (.agg V.cells,gB T E++X):=λX hX=>by
    have h:=Z4U p11 () (Z02 s) X (hgs hI) ⟨rfl,hI,hgs hI⟩ (by simp only[hE];exact λu hu=>hu) hX
    simp only[hE,hV]at h
    exact h
   clear p1 p2 p3 p4 p5 p6 p7 p8 p9 p10 p11 p12 p13 qt qf hgs hB hb hc hgb hkb hks fk hE hV
   obtain⟨y1,y2,y3,y4,y5,y6,y7⟩:=V
   generalize Z0o T s=t at *
   obtain⟨kd,tx,nm,ps⟩:=t
   refine Z0t ZbC 3 follows Z06 hO Y0f rfl ?_
   rw (occs:=.pos [1]) [Z09 h0]
   simp only[gL,LV,Tq.cells,St.cells,exA,Y02,Y03]at m1 m2 m3 m4 gm g1 hx⊢
   repeat' ((conv=>whnf);first|(exact Or.inl rfl)|(refine Or.inr ?_)|refine exI hx ?_|refine exI (m1 _ rfl) ?_|refine exI (m2 _ rfl) ?_|refine exI (m3 _ rfl) ?_|refine exI (m4 _ rfl) ?_|refine exI (gm _ rfl) ?_|(refine exG (g1 _ rfl) (λhd=>?_) (λe1=>?_))|(with_reducible refine ixJ s.i rfl ?_ ?_;focus omega)|refine stp ?_|with_reducible apply Z01<;>intro h)
   all_goals (conv=>whnf)
   all_goals exact⟨[],M11,rfl,(by refine Z0D ?_ ?_ ?_<;>first|rfl|exact e1),rfl,rfl,.inl (Y04 rfl)⟩
  |false =>
  have m5:=qf _ ((fk _ rfl).trans hI)
  cases hW:isF T s Z62 with
  |true =>
   have hB:Z2M T blk stm s=Zj5 T blk (Z02 s):=by
    unfold Z2M
    rw[hI,hW]
    simp
   rw[hB]at hE hV
   unfold Zj5 at hE hV
   simp only at hE hV
   have k1:=Z5x T (Z02 s)
   have k2:=hkb (Z1p T (Z02 s)).2
   rw[hE]at k2
   have hgw:=hgs hW
   have b0:=Z3e hgw.ok
   have i1:s.i+1<=(Z1p T (Z02 s)).2.i:=b0.on
   have o1:=λhe=>hgw.go b0 k1 he
   have gm:=qt _ ((fk _ rfl).trans hW)
   have g1:∀X,Z07 Z0z X=true->Z05 Y00 O (gL T (s.i+1) s.op++X) 89 [.ptr 0 0]=some (.agg (Z1p T (Z02 s)).1.cells,gB T (Z1p T (Z02 s)).2++X):=λX hX=>Ziu p9 hgw k2.x (X:=X) hX
   have g2:GOK T (Z1p T (Z02 s)).2->∀X,Z07 Z0z X=true->Z05 Y00 O (gL T (Z1p T (Z02 s)).2.i (Z1p T (Z02 s)).2.op++X) 59 [.ptr 0 0]=some (stA (blk (Z1p T (Z02 s)).2).1,gB T E++X):=λh X hX=>by
    have h:=Z4U p10 () (Z1p T (Z02 s)).2 X h ⟨h,i1⟩ (by simp only[hE];exact λu hu=>hu) hX
    simp only[hE]at h
    exact h
   clear p1 p2 p3 p4 p5 p6 p7 p8 p9 p10 p11 p12 p13 qt qf hgs hB hb hc hgb hkb hks fk hE k1 k2 hgw b0 i1
   generalize Z1p T (Z02 s)=r at *
   obtain⟨⟨yo,yn,yt,yk⟩,s1⟩:=r
   simp only at hV g2 o1
   generalize (blk s1).1=tl at *
   subst hV
   refine MemXQ.conv (r:=.agg [.int .i64 11,.str [],.str [],.int .i64 0,exA [.mk yo yn yt yk],stA tl,.nslice]) ?_ (λ_ _ _ h=>Z86 (λ_ h=>h) (λ_ h=>h) (λ_ h=>Z2B h) h)
   generalize Z0o T s=t at *
   obtain⟨kd,tx,nm,ps⟩:=t
   refine Z0t ZbC 3 follows Z06 hO Y0f rfl ?_
   rw (occs:=.pos [1]) [Z09 h0]
   simp only[gL,LV,Tq.cells,Ex.cells,stA,Y02,Y03]at m1 m2 m3 m4 m5 gm g1 g2 hx⊢
   repeat' ((conv=>whnf);first|(exact Or.inl rfl)|(refine Or.inr ?_)|refine exI hx ?_|refine exI (m1 _ rfl) ?_|refine exI (m2 _ rfl) ?_|refine exI (m3 _ rfl) ?_|refine exI (m4 _ rfl) ?_|refine exI (m5 _ rfl) ?_|refine exI (gm _ rfl) ?_|(refine exG (g1 _ rfl) (λhd=>?_) (λe1=>?_))|(refine exG (g2 (o1 e1) _ rfl) (λhd=>?_) (λe2=>?_))|(with_reducible refine ixJ s.i rfl ?_ ?_;focus omega)|refine stp ?_|with_reducible apply Z01<;>intro h)
   all_goals (conv=>whnf)
   all_goals exact⟨[11,12,13,14,15,16],M11,rfl,(by refine Z0D ?_ ?_ ?_<;>first|rfl|exact e2),rfl,rfl,.inr rfl⟩
  |false =>
  have m6:=qf _ ((fk _ rfl).trans hW)
  have hwb:Z1j T s=false:=by
   unfold Z1j
   rw[e1k,Y0q]
  have hwF:Z0a T s=Z0r s 5 (Z0o T s).pos:=by unfold Z0a;rw[hwb];rfl
  have hEf:E.err=5/\E.at_=(Z0o T s).pos:=by
   have hB:(Z2M T blk stm s).2=Z03 T (Z3j T (Z0R T s) (Z03 T (Z0a T s) [61])).2 [59]:=by
    unfold Z2M Z1m
    rw[hI,hW,hS,hF,hA,hR]
    simp
   have hk:Kr (Z0a T s) E:=by
    rw[<- hE,hB]
    exact (Z0l T _ _).trans ((Z9U T _ _).trans (Z0l T _ _))
   have:=hk.st (by rw[hwF];exact Z1J (by decide))
   rw[hwF]at this
   unfold Z0r at this
   rw[if_pos hg.er]at this
   exact this
  have qx:=λX K hX=>Z6c p13 (i:=s.i) (op:=s.op) (X:=X) (K:=K) (e:=5) hg (by decide) (λu hu=>by
   obtain⟨g1,g2⟩:=hu
   refine⟨by rw[hEf.1];decide,?_⟩
   rw[g2,hEf.1,hEf.2]
   unfold Z0r
   rw[if_pos hg.er]) rfl rfl hX
  clear p1 p2 p3 p4 p5 p6 p7 p8 p9 p10 p11 p12 p13 qt qf hgs hb hc hgb hkb hks fk hE hwF hwb hEf hV
  obtain⟨y1,y2,y3,y4,y5,y6,y7⟩:=V
  generalize Z0o T s=t at *
  obtain⟨kd,tx,nm,ps⟩:=t
  refine Z0t ZbC 3 follows Z06 hO Y0f rfl ?_
  rw (occs:=.pos [1]) [Z09 h0]
  simp only[gL,LV,gD,Tq.cells,Y02,Y03]at m1 m2 m3 m4 m5 m6 qx hx⊢
  repeat' ((conv=>whnf);first|(exact Or.inl rfl)|(refine Or.inr ?_)|refine exI hx ?_|refine exI (m1 _ rfl) ?_|refine exI (m2 _ rfl) ?_|refine exI (m3 _ rfl) ?_|refine exI (m4 _ rfl) ?_|refine exI (m5 _ rfl) ?_|refine exI (m6 _ rfl) ?_|(refine qx _ _ rfl ?_)|(with_reducible refine ixJ s.i rfl ?_ ?_;focus omega)|refine stp ?_|with_reducible apply Z01<;>intro h)
 have:=main _ rfl
 exact GX.of λ_=>this
end
section
variable {gl:Z0g}
theorem Zlv{T:List Tq}{blk:Ps->List St×Ps}{stm:Ps->St×Ps}{s:Ps}(he:s.err=0)(h5:(Z0o T s).kind=5):(Z2M T blk stm s).2.err=5/\(Z2M T blk stm s).2.at_=(Z0o T s).pos:=by
 have hno:∀w,isF T s w=false:=λw=>by
  unfold isF
  rw[h5];simp
 have hwF:Z0a T s=Z0r s 5 (Z0o T s).pos:=by
  unfold Z0a Z1j
  rw[h5];simp
 have hB:(Z2M T blk stm s).2=Z03 T (Z3j T (Z0R T s) (Z03 T (Z0a T s) [61])).2 [59]:=by
  unfold Z2M Z1m
  simp only[hno,Y0r,if_false]
 have hk:Kr (Z0a T s) (Z2M T blk stm s).2:=by
  rw[hB]
  exact (Z0l T _ _).trans ((Z9U T _ _).trans (Z0l T _ _))
 have:=hk.st (by rw[hwF];exact Z1J (by decide))
 rw[hwF]at this
 unfold Z0r at this
 rw[if_pos he]at this
 exact this
def Zqm(gl:Z0g)(T:List Tq)(i0:Nat)(d:Nat):Prop:=∀s,GOK T s->i0<=s.i->GX gl T 88 [.ptr 0 0] s (.agg (ZbD T (Z7P T (Z57 T d)) (Z57 T d) s).1.cells) (ZbD T (Z7P T (Z57 T d)) (Z57 T d) s).2
theorem Zak{T:List Tq}(hT:TqOK T):∀(d i0:Nat),T.length<=i0+d->Zow gl T i0 (Z57 T d)/\ZmX gl T i0 (Z7P T (Z57 T d))/\Zqm gl T i0 d
 |0,i0,hd=>⟨λs hs hi=>by have:=hs.ok.lt;omega,λs hs hi=>by have:=hs.ok.lt;omega,λs hs hi=>by have:=hs.ok.lt;omega⟩
 |d+1,i0,hd=>by
  have hgo:∀(d i0:Nat),T.length<=i0+d->∀s,PsOK T s->i0<=s.i->PsGo T s (Z57 T d s).2/\((Z57 T d s).2.err=0->s.i<(Z57 T d s).2.i):=λd i0 hd s hs hi=>((ZcD (gl:=gl) d i0 hd) s hs hi).1
  have hgb:∀(d i0:Nat),T.length<=i0+d->∀s,PsOK T s->i0<=s.i->PsGo T s (Z7P T (Z57 T d) s).2:=λd i0 hd s hs hi=>Zik (λs h h2=>(hgo d i0 hd s h h2).1) hs hi
  have hS:Zow gl T i0 (Z57 T (d+1)):=λs hs hi=>by
   obtain⟨h1,h2,h3⟩:=Zak hT d (s.i+1) (by omega)
   exact ZfJ hT hs (λt=>Z8P (Z3K T d) t) (Z3K T d) (hgb d (s.i+1) (by omega)) h2 (λhb hg=>h3 _ hg (Y07 _))
  have hB:ZmX gl T i0 (Z7P T (Z57 T (d+1))):=Zhw hT (Z3K T (d+1)) (hgo (d+1) i0 hd) (λs hs hi h5=>Zlv hs.er h5) hS
  refine⟨hS,hB,λs hs hi=>?_⟩
  refine ZfK hT (λt=>Z8P (Z3K T (d+1)) t) (Z3K T (d+1)) (hgb (d+1) i0 hd) hB (λt ht hti hb=>?_) hs hi
  have hgt:GOK T (Z02 t):=ht.go (Z0b ht.ok hb) (Z0k t) ht.er
  have e:Z57 T (d+1) t=ZbD T (Z7P T (Z57 T d)) (Z57 T d) (Z02 t):=by
   show Z2M T _ _ t=_
   unfold Z2M
   rw[hb,if_pos rfl]
  rw[e]
  have h0:i0+1<=(Z02 t).i:=Nat.succ_le_succ hti
  exact (Zak hT d (i0+1) (by omega)).2.2 _ hgt h0
theorem ZjZ{T:List Tq}(hT:TqOK T):ZmX gl T 0 (Z7d T):=(Zak hT T.length 0 (by omega)).2.1
end
end Go.Proofs.YtneoiadnbikciaaGreatDoor.lex
section
namespace Go.Abs
open Go.RowKit
theorem Z8p {X : AV -> Prop} {P : Program} {gl : Z0g} {f k : Nat} {Hs Hs' : Z00} {args : List AV} {r : AV} (hM : MemXQ P gl X k f args Hs r Hs') (hk : k <= Hs.length) (hk' : k <= Hs'.length)
  (hg2:∀(i:Nat)(o:AObj),Hs'[i]? = some o->o.fam=i/\o.alive=true/\Z12 Hs'.length (Z3O o.body [])=true) (hs0:∀(i:Nat)(o:AObj),Hs[i]? = some o->o.alive=true/\o.fam=i)
  (hrk:Z12 Hs'.length (Z2a r [])=true) :
  MemX P gl X f args Hs (ren (sgE k Hs.length) r) (Zb0 k (sgE k Hs.length) Hs' 0 Hs++shE (sgE k Hs.length) (Hs'.drop k)):=by
 intro sn ι W vargs hg hR hla
 refine (hM sn ι W vargs hg hR hla).mono ?_
 rintro e W' (⟨v,sn',ι',rfl,hv,hst⟩|h)
 case inr=>exact .inr h
 generalize hd:Hs.length=d at *
 let κ : Z0i:=λb=>if b<d then ι b else ι' (k+(b-d))
 have k1:∀b,b<d -> κ b = ι b:=λb hb=>if_pos hb
 have k2:∀b,d<=b -> κ b = ι' (k+(b-d)):=λb hb=>by show (if b<d then ι b else ι' (k+(b-d)))=_;rw[if_neg (by omega)]
 have hkeep:∀b p,b<k -> ι' b=some p -> ι b=some p:=λb p hb hp=>by
  obtain⟨q,hq⟩:=(hR.dom b).1 (by omega)
  have:=hst.keep b q hb hq
  rw[hp]at this;cases this;exact hq
 have hback:∀i,i<Hs'.length->∀p,ι' i=some p -> κ (sgE k d i)=some p:=λi hi p hp=>by
  unfold sgE
  by_cases hik:i<k
  ·rw[if_pos hik,k1 i (by omega)];exact hkeep i p hik hp
  ·rw[if_neg hik,k2 _ (by omega),show k+(d+(i-k)-d)=i by omega];exact hp
 have hlen:(Zb0 k (sgE k d) Hs' 0 Hs).length=d:=by rw[ZdO,hd]
 have hget : ∀ (b : Nat) (o' : AObj) (p : Place), (Zb0 k (sgE k d) Hs' 0 Hs ++ shE (sgE k d) (Hs'.drop k))[b]? = some o' -> κ b = some p ->
   (b<d /\ ι b=some p/\∃o,Hs[b]? = some o/\o'.fam=o.fam/\o'.sh=o.sh/\(o'.alive=true->∃x,b<k/\Hs'[b]? = some x/\o'.body=Z59 (sgE k d) x.body/\x.alive=true /\ ι' b=some p)) \/
   (d<=b /\ ι' (k+(b-d))=some p/\∃x,Hs'[k+(b-d)]? = some x/\o'={ x with body:=Z59 (sgE k d) x.body }):=by
  intro b o' p hb hp
  by_cases hlt:b<d
  · rw[Y0n (by omega)]at hb
    rw[k1 b hlt]at hp
    refine .inl ⟨hlt,hp,?_⟩
    rw[ZdP]at hb
    simp only[Nat.zero_add]at hb
    cases hx:Hs[b]? with
    |none=>rw[hx]at hb;cases hb
    |some o =>
     rw[hx]at hb
     simp only[Y0u,Option.some.injEq]at hb
     refine⟨o,rfl,?_⟩
     by_cases hbk:b<k
     · have hi':b<Hs'.length:=by omega
       simp only[Nat.blt_eq,hbk,Y0c hi',if_true]at hb
       subst hb
       exact⟨rfl,rfl,λh=>⟨Hs'[b],hbk,Y0c hi',rfl,h,hst.keep b p hbk hp⟩⟩
     · simp only[Nat.blt_eq,hbk,if_false]at hb
       subst hb
       exact⟨rfl,rfl,λh=>by simp[AObj.dead]at h⟩
  · rw[List.getElem?_append_right (by omega),hlen,ZgF,List.getElem?_drop]at hb
    rw[k2 b (by omega)]at hp
    cases hx:Hs'[k+(b-d)]? with
    |none=>rw[hx]at hb;cases hb
    |some x =>
     rw[hx]at hb
     simp only[Y0u,Option.some.injEq]at hb
     exact .inr ⟨by omega,hp,x,rfl,hb.symm⟩
 have hR':R sn' κ (Zb0 k (sgE k d) Hs' 0 Hs++shE (sgE k d) (Hs'.drop k)) W':=by
  refine⟨λb=>⟨λhb=>?_,λ⟨p,hp⟩=>?_⟩,λb p hp=>?_,λb o' p hb ha hp=>?_,λb b' o o' p p' hb hb' ha ha' hp hp' e=>?_,λa v hv=>?_,λb o' p hb hp e=>?_⟩
  · simp only[Y0v,hlen,ZcI,Y0w]at hb
    by_cases hlt:b<d
    ·rw[k1 b hlt];exact (hR.dom b).1 (by omega)
    ·rw[k2 b (by omega)];exact (hst.rel.dom _).1 (by omega)
  · simp only[Y0v,hlen,ZcI,Y0w]
    by_cases hlt:b<d
    ·omega
    · rw[k2 b (by omega)]at hp
      have:=(hst.rel.dom _).2 ⟨p,hp⟩;omega
  · by_cases hlt:b<d
    ·rw[k1 b hlt]at hp;exact Nat.lt_of_lt_of_le (hR.blk b p hp) hst.size
    ·rw[k2 b (by omega)]at hp;exact hst.rel.blk _ p hp
  · rcases hget b o' p hb hp with ⟨b1,b2,o,b3,b4,b5,b6⟩|⟨b1,b2,x,b3,rfl⟩
    · obtain⟨x,c1,c2,c3,c4,c5⟩:=b6 ha
      rw[c3]
      exact Z8Z x.body (Z27 x.body p (λy hy=>hback y (Z0I (hg2 b x c2).2.2 y hy)) (hst.rel.obj b x p c2 c4 c5))
    ·exact Z8Z x.body (Z27 x.body p (λy hy=>hback y (Z0I (hg2 _ x b3).2.2 y hy)) (hst.rel.obj _ x p b3 (hg2 _ x b3).2.1 b2))
  · rcases hget b o p hb hp with ⟨b1,b2,x,b3,b4,b5,b6⟩|⟨b1,b2,x,b3,rfl⟩<;>rcases hget b' o' p' hb' hp' with ⟨c1,c2,y,c3,c4,c5,c6⟩|⟨c1,c2,y,c3,rfl⟩
    · rw[b4,b5,c4,c5]
      exact hR.sep b b' x y p p' b3 c3 (hs0 b x b3).1 (hs0 b' y c3).1 b2 c2 e
    · exfalso
      obtain⟨z,d1,d2,d3,d4,d5⟩:=b6 ha
      have:=(hst.rel.sep b _ z y p p' d2 c3 d4 (hg2 _ y c3).2.1 d5 c2 e).1
      rw[(hg2 b z d2).1,(hg2 _ y c3).1]at this;omega
    · exfalso
      obtain⟨z,d1,d2,d3,d4,d5⟩:=c6 ha'
      have:=(hst.rel.sep _ b' x z p p' b3 d2 (hg2 _ x b3).2.1 d4 b2 d5 e).1
      rw[(hg2 b' z d2).1,(hg2 _ x b3).1]at this;omega
    ·exact hst.rel.sep _ _ x y p p' b3 c3 (hg2 _ x b3).2.1 (hg2 _ y c3).2.1 b2 c2 e
  · obtain⟨h1,h2,h3⟩:=hst.rel.snap a v hv
    refine⟨h1,h2,λb o' p hb ha hp=>?_⟩
    rcases hget b o' p hb hp with ⟨b1,b2,o,b3,b4,b5,b6⟩|⟨b1,b2,x,b3,rfl⟩
    · obtain⟨x,c1,c2,c3,c4,c5⟩:=b6 ha
      exact h3 b x p c2 c4 c5
    ·exact h3 _ x p b3 (hg2 _ x b3).2.1 b2
  · rcases hget b o' p hb hp with ⟨b1,b2,o,b3,b4,b5,b6⟩|⟨b1,b2,x,b3,rfl⟩
    ·exact hR.shz b o p b3 b2 (by rw[<- b5];exact e)
    ·exact hst.rel.shz _ x p b3 b2 e
 refine .inl ⟨v,sn',κ,rfl,?_,hR',⟨hst.le,λb p hb=>?_⟩,λb p hp=>?_,hst.frame,hst.size,hst.os,hst.tape,hst.output,hst.sfresh,λb o hb=>?_⟩
 ·exact (Z5d r v).2 (Z1c r [] v (λy hy=>hback y (Z0I hrk y hy)) hv)
 ·rw[k1 b (by have:=(hR.dom b).2 ⟨p,hb⟩;omega)];exact hb
 · by_cases hlt:b<d
   ·rw[k1 b hlt]at hp;exact .inl hp
   · rw[k2 b (by omega)]at hp
     obtain⟨x,hx⟩:∃x,Hs'[k+(b-d)]? = some x:=⟨_,Y0c ((hst.rel.dom _).2 ⟨p,hp⟩)⟩
     rcases hst.fresh _ _ p hx (hg2 _ _ hx).2.1 hp with h|h
     ·exact .inr (.inl h)
     ·exact .inr (.inr h)
 · have hb':b<(Zb0 k (sgE k d) Hs' 0 Hs).length:=by rw[hlen,<- hd];exact (Y0j.1 hb).1
   have hx:=Y0c hb'
   obtain⟨p,hp⟩:=hR.place hb
   have hbd:b<d:=by omega
   rcases hget b _ p (by rw[Y0n hb'];exact hx) (by rw[k1 b hbd];exact hp)with ⟨b1,b2,o2,b3,b4,b5,b6⟩|⟨b1,_⟩
   · rw[hb]at b3;cases b3
     exact⟨_,by rw[Y0n hb'];exact hx,b4,b5,λ_=>(hs0 b o hb).1⟩
   ·omega
theorem Z1S {X : AV -> Prop} {P : Program} {gl : Z0g} {f : Nat} {Hs Hs' Hc : Z00} {fargs cargs : List AV} {r : AV} {m : List Nat} (hM : MemX P gl X f fargs Hs r Hs') (hargs : Wk m (.tuple cargs) (.tuple fargs)) (hsub : HpGe Hc m m Hs 0)
  (hnd:Z0Q (m.map (Z1i Hc))=true) (hlone:ZfD m (m.map (Z1i Hc)) 0 Hc=true) (hnA:Z0Q (Z7o Hs')=true) (hF:∀o∈Hc,o.fam<Hc.length)
  (hg2:∀(i:Nat)(o:AObj),Hs'[i]? = some o->Z12 Hs'.length (Z3O o.body [])=true) (hrk:Z12 Hs'.length (Z2a r [])=true) :
  MemX P gl X f cargs Hc (ren (sgS m Hc.length) r) (Z90 m (sgS m Hc.length) Hs' 0 Hc++shS (sgS m Hc.length) Hc.length (Hs'.drop m.length)):=by
 intro sn ι W vargs hg hR hl
 obtain⟨hl1,hg1⟩:=hsub.get
 have inm:∀b,b∈m->∃ (i:Nat) (o o2:AObj) (p:Place),m[i]? = some b/\Hc[b]? = some o/\Hs[i]? = some o2/\o.alive=true/\o2.alive=true /\ ι b=some p/\o2.sh=o.sh:=by
  intro b hb
  obtain⟨i,hi,rfl⟩:=List.mem_iff_getElem.1 hb
  obtain⟨j,o,o2,x1,x2,x3,x4,x5,_,x7,_⟩:=hg1 i hi
  rw[Y0c hi]at x1
  cases x1
  obtain⟨p,hp⟩:=hR.place x2
  exact⟨i,o,o2,p,Y0c hi,x2,x3,x4,x5,hp,x7⟩
 have apart_:∀(b:Nat)(o:AObj)(p:Place),Hc[b]? = some o->o.alive=true->b ∉ m -> ι b=some p->∀b' p',b'∈m -> ι b'=some p'->p'.blk≠p.blk:=by
  intro b o p ho hoa hb hp b' p' hb' hp' e
  obtain⟨i,o',o2,q,y1,y2,y3,y4,y5,y6,_⟩:=inm b' hb'
  have hs:=hR.sep b b' o o' p p' ho y2 hoa y4 hp hp' e.symm
  rcases Z8r hlone ho hoa with h|h
  ·exact hb (by simpa using h)
  · refine h ?_
    rw[List.mem_map]
    exact⟨b',hb',by simp only[Z1i,y2];exact hs.1.symm⟩
 have hRs:R sn (iot m ι) Hs W:=Zls hsub hnd hR
 have atm:∀{i:Nat}{p:Place},iot m ι i=some p->∃b,m[i]? = some b/\b∈m /\ ι b=some p:=λ{i p} hp=>by
  unfold iot at hp
  split at hp
  ·rename_i b hb;exact⟨b,hb,Y0x hb,hp⟩
  ·cases hp
 have hla:LR sn (iot m ι) fargs vargs:=by
  have h1:VR sn ι (.tuple cargs) (.tuple vargs.toArray):=by simp only[VR];exact⟨_,rfl,by simpa using hl⟩
  have h2:=hargs _ _ _ h1
  simp only[VR]at h2
  obtain⟨d,e1,e2⟩:=h2
  simp at e1;subst e1;simpa using e2
 refine (hM sn (iot m ι) W vargs hg hRs hla).mono ?_
 rintro e W' (⟨v,sn',ι',rfl,hv,hst⟩|⟨hfn,ch,rfl,u,v,p1,p2,p3,p4,p5⟩)
 case inr =>
  refine .inr ⟨hfn,ch,rfl,u,v,p1,p2,p3,λc hc hno=>p4 c hc λi o2 q2 hi ha hq2 e=>?_,p5⟩
  obtain⟨b,_,hb,hp3⟩:=atm hq2
  obtain⟨_,o,_,_,_,y2,_,y4,_⟩:=inm b hb
  exact hno b o q2 y2 y4 hp3 e
 generalize hd:Hc.length=d at *
 generalize hk:m.length=k at *
 have hk':k<=Hs'.length:=by
  rcases Nat.eq_zero_or_pos k with h|h
  ·omega
  · have:=(Y0j.1 (hst.evo (k-1) _ (Y0c (by omega))).choose_spec.1).1
    omega
 let κ : Z0i:=λb=>if b<d then ι b else ι' (k+(b-d))
 have k1:∀b,b<d -> κ b = ι b:=λb hb=>if_pos hb
 have k2:∀b,d<=b -> κ b = ι' (k+(b-d)):=λb hb=>by show (if b<d then ι b else ι' (k+(b-d)))=_;rw[if_neg (by omega)]
 have mLt:∀{i b:Nat},m[i]? = some b->b<d:=λ{i b} h=>by
  obtain⟨_,o,_,p,_,y2,_⟩:=inm b (Y0x h)
  rw[<- hd];exact (Y0j.1 y2).1
 have hfwd:∀(i b:Nat)(p:Place),m[i]? = some b -> ι b=some p -> ι' i=some p:=λi b p hb hp=>hst.le.ι i p (by simp only[iot,hb];exact hp)
 have hback:∀i,i<Hs'.length->∀p,ι' i=some p -> κ (sgS m d i)=some p:=λi hi p hp=>by
  unfold sgS
  rw[hk]
  by_cases hik:i<k
  · obtain⟨b,hb⟩:∃b,m[i]? = some b:=⟨m[i],Y0c (by omega)⟩
    obtain⟨q,hq⟩:=(hR.dom b).1 (by rw[hd];exact mLt hb)
    have:=hfwd i b q hb hq
    rw[hp]at this;cases this
    rw[if_pos hik,List.getD_eq_getElem?_getD,hb]
    show κ b=some p
    rw[k1 b (mLt hb)];exact hq
  ·rw[if_neg hik,k2 _ (by omega),show k+(d+(i-k)-d)=i by omega];exact hp
 have pos_:∀b,b∈m->∃i,Z5a m b 0=some i/\m[i]? = some b:=λb hb=>by
  cases hx:Z5a m b 0 with
  |none=>exact (Z5U hx hb).elim
  |some i=>exact⟨i,rfl,by simpa using (Z2e hx).2⟩
 have hlen:(Z90 m (sgS m d) Hs' 0 Hc).length=d:=by rw[Z9V,hd]
 have hnr:∀c,c<W.heap.size->(∀(b:Nat)(o:AObj) p,Hc[b]? = some o->o.alive=true -> ι b=some p->p.blk≠c)->W'.heap[c]? = W.heap[c]?:=λc hc hno=>by
  refine hst.frame c hc λi o2 p2 hi ha hp2 e=>?_
  obtain⟨b,_,hb,hp3⟩:=atm hp2
  obtain⟨_,o,_,_,_,y2,_,y4,_⟩:=inm b hb
  exact hno b o p2 y2 y4 hp3 e
 have old:∀(b:Nat)(o:AObj)(p:Place),Hc[b]? = some o->o.alive=true->b ∉ m -> ι b=some p->W'.heap[p.blk]? = W.heap[p.blk]?:=λb o p ho hoa hb hp=>by
  refine hst.frame _ (hR.blk b p hp) λi o2 p2 hi ha hp2 e=>?_
  obtain⟨c,_,hc,hp3⟩:=atm hp2
  exact apart_ b o p ho hoa hb hp c p2 hc hp3 e
 have new_:∀(j:Nat)(x:AObj)(p:Place),Hs'[j]? = some x->x.alive=true->k<=j -> ι' j=some p->∀(b:Nat)(o:AObj)(q:Place),Hc[b]? = some o->o.alive=true->b ∉ m -> ι b=some q->q.blk≠p.blk:=by
  intro j x p hj hja hkj hp b o q ho hoa hb hq e
  rcases hst.fresh j p hp with h|h|⟨b0,o0,p0,e1,e2,e3,e4⟩
  · obtain⟨c,hc,_⟩:=atm h
    have:=(Y0j.1 hc).1;omega
  ·have:=hR.blk b q hq;omega
  · obtain⟨c,_,hc,hp3⟩:=atm e3
    exact apart_ b o q ho hoa hb hq c p0 hc hp3 (e4.trans e.symm)
 have hget : ∀ (b : Nat) (o' : AObj) (p : Place), (Z90 m (sgS m d) Hs' 0 Hc ++ shS (sgS m d) d (Hs'.drop k))[b]? = some o' -> κ b = some p ->
   (b<d /\ ι b=some p/\∃o,Hc[b]? = some o/\o'.fam=o.fam/\o'.sh=o.sh/\((b ∉ m/\o'=o)\/∃i x,m[i]? = some b/\i<k/\Hs'[i]? = some x/\o'.alive=x.alive/\o'.body=Z59 (sgS m d) x.body/\o.alive=true /\ ι' i=some p)) \/
   (d<=b /\ ι' (k+(b-d))=some p/\∃x,Hs'[k+(b-d)]? = some x/\o'=⟨x.alive,b,x.sh,Z59 (sgS m d) x.body⟩):=by
  intro b o' p hb hp
  by_cases hlt:b<d
  · rw[Y0n (by omega)]at hb
    rw[k1 b hlt]at hp
    refine .inl ⟨hlt,hp,?_⟩
    rw[Z9W]at hb
    simp only[Nat.zero_add]at hb
    cases hx:Hc[b]? with
    |none=>rw[hx]at hb;cases hb
    |some o =>
     rw[hx]at hb
     simp only[Y0u,Option.some.injEq]at hb
     refine⟨o,rfl,?_⟩
     by_cases hbm:b∈m
     · obtain⟨i,h1,h2⟩:=pos_ b hbm
       have hi:i<k:=by rw[<- hk];exact (Y0j.1 h2).1
       have hi':i<Hs'.length:=by omega
       rw[h1]at hb
       simp only[Y0c hi']at hb
       subst hb
       obtain⟨_,y,_,_,_,y2,_,y4,_⟩:=inm b hbm
       rw[hx]at y2;cases y2
       exact⟨rfl,rfl,.inr ⟨i,Hs'[i],h2,hi,Y0c hi',rfl,rfl,y4,hfwd i b p h2 hp⟩⟩
     · have hn : Z5a m b 0 = none := by
        cases hx:Z5a m b 0 with
        |none=>rfl
        |some i=>exact (hbm (Y0x (Z2e hx).2)).elim
       rw[hn]at hb
       subst hb
       exact⟨rfl,rfl,.inl ⟨hbm,rfl⟩⟩
  · rw[List.getElem?_append_right (by omega),hlen,ZcH,List.getElem?_drop]at hb
    rw[k2 b (by omega)]at hp
    cases hx:Hs'[k+(b-d)]? with
    |none=>rw[hx]at hb;cases hb
    |some x =>
     rw[hx]at hb
     simp only[Y0u,Option.some.injEq]at hb
     exact .inr ⟨by omega,hp,x,rfl,by rw[<- hb,show d+(b-d)=b by omega]⟩
 have hal:∀{b:Nat}{o o':AObj}{p:Place},((b ∉ m/\o'=o)\/∃i x,m[i]? = some b/\i<k/\Hs'[i]? = some x/\o'.alive=x.alive/\o'.body=Z59 (sgS m d) x.body/\o.alive=true /\ ι' i=some p)->o'.alive=true->o.alive=true:=λ{b o o' p} h ha=>by
  rcases h with ⟨_,rfl⟩|⟨_,_,_,_,_,_,_,h,_⟩
  ·exact ha
  ·exact h
 have hR':R sn' κ (Z90 m (sgS m d) Hs' 0 Hc++shS (sgS m d) d (Hs'.drop k)) W':=by
  refine⟨λb=>⟨λhb=>?_,λ⟨p,hp⟩=>?_⟩,λb p hp=>?_,λb o' p hb ha hp=>?_,λb b' o o' p p' hb hb' ha ha' hp hp' e=>?_,λa v hv=>?_,λb o' p hb hp e=>?_⟩
  · simp only[Y0v,hlen,Z8e,Y0w]at hb
    by_cases hlt:b<d
    ·rw[k1 b hlt];exact (hR.dom b).1 (by omega)
    ·rw[k2 b (by omega)];exact (hst.rel.dom _).1 (by omega)
  · simp only[Y0v,hlen,Z8e,Y0w]
    by_cases hlt:b<d
    ·omega
    · rw[k2 b (by omega)]at hp
      have:=(hst.rel.dom _).2 ⟨p,hp⟩;omega
  · by_cases hlt:b<d
    ·rw[k1 b hlt]at hp;exact Nat.lt_of_lt_of_le (hR.blk b p hp) hst.size
    ·rw[k2 b (by omega)]at hp;exact hst.rel.blk _ p hp
  · rcases hget b o' p hb hp with ⟨b1,b2,o,b3,b4,b5,⟨b6,rfl⟩|⟨i,x,c1,c2,c3,c4,c5,c6,c7⟩⟩|⟨b1,b2,x,b3,rfl⟩
    · refine Z0M ⟨hst.le.sn,λc p hc=>?_⟩ (old b _ p b3 ha b6 b2) (hR.obj b _ p b3 ha b2)
      rw[k1 c (by have:=(hR.dom c).2 ⟨p,hc⟩;omega)];exact hc
    · rw[c5]
      exact Z8Z x.body (Z27 x.body p (λy hy=>hback y (Z0I (hg2 i x c3) y hy)) (hst.rel.obj i x p c3 (by rw[<- c4];exact ha) c7))
    ·exact Z8Z x.body (Z27 x.body p (λy hy=>hback y (Z0I (hg2 _ x b3) y hy)) (hst.rel.obj _ x p b3 ha b2))
  · rcases hget b o p hb hp with ⟨b1,b2,x,b3,b4,b5,b6⟩|⟨b1,b2,x,b3,rfl⟩<;>rcases hget b' o' p' hb' hp' with ⟨c1,c2,y,c3,c4,c5,c6⟩|⟨c1,c2,y,c3,rfl⟩
    · rw[b4,b5,c4,c5]
      exact hR.sep b b' x y p p' b3 c3 (hal b6 ha) (hal c6 ha') b2 c2 e
    · exfalso
      rcases b6 with ⟨b6,rfl⟩|⟨i,z,d1,d2,d3,d4,d5,d6,d7⟩
      ·exact new_ _ y p' c3 ha' (by omega) c2 b _ p b3 ha b6 b2 e
      · have hs:=(hst.rel.sep i _ z y p p' d3 c3 (by rw[<- d4];exact ha) ha' d7 c2 e).1
        have:=Z2H hnA d3 c3 (by rw[<- d4];exact ha) ha' hs
        omega
    · exfalso
      rcases c6 with ⟨c6,rfl⟩|⟨i,z,d1,d2,d3,d4,d5,d6,d7⟩
      ·exact new_ _ x p b3 ha (by omega) b2 b' _ p' c3 ha' c6 c2 e.symm
      · have hs:=(hst.rel.sep _ i x z p p' b3 d3 ha (by rw[<- d4];exact ha') b2 d7 e).1
        have:=Z2H hnA b3 d3 ha (by rw[<- d4];exact ha') hs
        omega
    · have hs:=hst.rel.sep _ _ x y p p' b3 c3 ha ha' b2 c2 e
      have:=Z2H hnA b3 c3 ha ha' hs.1
      have hbb:b=b':=by omega
      exact⟨hbb,hs.2⟩
  · obtain⟨h1,h2,h3⟩:=hst.rel.snap a v hv
    refine⟨h1,h2,λb o' p hb ha hp he=>?_⟩
    rcases hget b o' p hb hp with ⟨b1,b2,o,b3,b4,b5,⟨b6,rfl⟩|⟨i,x,c1,c2,c3,c4,c5,c6,c7⟩⟩|⟨b1,b2,x,b3,rfl⟩
    · rcases hst.sfresh a v hv with f1|f1|⟨b0,o0,p0,f1,f2,f3,f4⟩
      ·exact (hR.snap a v f1).2.2 b _ p b3 ha b2 he
      ·have:=hR.blk b p b2;omega
      · obtain⟨c,_,hc,hp3⟩:=atm f3
        exact apart_ b _ p b3 ha b6 b2 c p0 hc hp3 (f4.trans he.symm)
    ·exact h3 i x p c3 (by rw[<- c4];exact ha) c7 he
    ·exact h3 _ x p b3 ha b2 he
  · rcases hget b o' p hb hp with ⟨b1,b2,o,b3,b4,b5,b6⟩|⟨b1,b2,x,b3,rfl⟩
    ·exact hR.shz b o p b3 b2 (by rw[<- b5];exact e)
    ·exact hst.rel.shz _ x p b3 b2 e
 have oldp:∀(b0:Nat)(o0:AObj)(p0:Place),Hs[b0]? = some o0->o0.alive=true->iot m ι b0=some p0->∃ (b1:Nat) (o1:AObj) (p1:Place),Hc[b1]? = some o1/\o1.alive=true /\ ι b1=some p1/\p1.blk=p0.blk:=λb0 o0 p0 e1 e2 e3=>by
  obtain⟨c,_,hc,hp3⟩:=atm e3
  obtain⟨_,o,_,_,_,y2,_,y4,_⟩:=inm c hc
  exact⟨c,o,p0,y2,y4,hp3,rfl⟩
 refine .inl ⟨v,sn',κ,rfl,?_,hR',⟨hst.le.sn,λb p hb=>?_⟩,λb p hp=>?_,hnr,hst.size,hst.os,hst.tape,hst.output,λa v hv=>?_,λb o hb=>?_⟩
 ·exact (Z5d r v).2 (Z1c r [] v (λy hy=>hback y (Z0I hrk y hy)) hv)
 ·rw[k1 b (by have:=(hR.dom b).2 ⟨p,hb⟩;omega)];exact hb
 · by_cases hlt:b<d
   ·rw[k1 b hlt]at hp;exact .inl hp
   · rw[k2 b (by omega)]at hp
     rcases hst.fresh _ p hp with h|h|⟨b0,o0,p0,e1,e2,e3,e4⟩
     · obtain⟨c,hc,_⟩:=atm h
       have:=(Y0j.1 hc).1;omega
     ·exact .inr (.inl h)
     · obtain⟨b1,o1,p1,g1,g2,g3,g4⟩:=oldp b0 o0 p0 e1 e2 e3
       exact .inr (.inr ⟨b1,o1,p1,g1,g2,g3,g4.trans e4⟩)
 · rcases hst.sfresh a v hv with f1|f1|⟨b0,o0,p0,f1,f2,f3,f4⟩
   ·exact .inl f1
   ·exact .inr (.inl f1)
   · obtain⟨b1,o1,p1,g1,g2,g3,g4⟩:=oldp b0 o0 p0 f1 f2 f3
     exact .inr (.inr ⟨b1,o1,p1,g1,g2,g3,g4.trans f4⟩)
 · have hbd:b<d:=by rw[<- hd];exact (Y0j.1 hb).1
   have hb':b<(Z90 m (sgS m d) Hs' 0 Hc).length:=by omega
   have hx:=Y0c hb'
   obtain⟨p,hp⟩:=hR.place hb
   rcases hget b _ p (by rw[Y0n hb'];exact hx) (by rw[k1 b hbd];exact hp)with ⟨b1,b2,o2,b3,b4,b5,b6⟩|⟨b1,_⟩
   · rw[hb]at b3;cases b3
     exact⟨_,by rw[Y0n hb'];exact hx,b4,b5,λha=>hal b6 ha⟩
   ·omega
end Go.Abs
end
namespace Go.Proofs.YtneoiadnbikciaaGreatDoor.lex
open Go.Abs Go.RowKit
section
variable {gl:Z0g}
theorem Zic(T:List Tq)(pl:Bool)(s:Ps):Kr s (Z4a T pl s).2:=by
 unfold Z4a
 split
 · split
   ·exact (Z3F T s).trans ((Z0k _).trans (Z0k _))
   ·exact (Z3F T s).trans ((Z0k _).trans (Z2p _ _ (by decide)))
 ·exact Z3F T s
theorem Zdi(T:List Tq)(pl:Bool):∀(k:Nat)(s:Ps),Kr s (Z3E T pl k s).2
 |0,s=>Kr.rfl'
 |k+1,s=>by
  unfold Z3E
  split
  ·exact (Zic T pl s).trans ((Z0k _).trans (Zdi T pl k _))
  ·exact Zic T pl s
theorem ZaG(T:List Tq)(pl:Bool)(s:Ps):Kr s (Z0N T pl s).2:=(Zdi T pl _ s).trans (Z0l T _ _)
def Z18(b:Nat):List Dc->AV
 |[]=>.nslice
 |e::l=>.slice b 0 (l.length+1) (l.length+1) 3
def Z2f(b:Nat):List Dc->Z00
 |[]=>[]
 |e::l=>[⟨true,b,0,.cells (dcC (e::l)) 66⟩]
structure Bg6 where
 l:List Dc
 s:Ps
 k:Nat
theorem Z1b{m:List Nat}{b b2 len z:Nat}(h:m[b2]? = some b):Wk m (.slice b 0 len len z) (.slice b2 0 len len z):=Wk.slice h rfl rfl (Y07 _) (Y07 _) rfl
def Zq4(f:Nat):Bool:=Y01 f 57 || (Y01 f 80 || (Y01 f 81 || Y01 f 56))
theorem ZjW {T : List Tq} (hT : TqOK T) {s0 : Ps} (hg0 : GOK T s0) (pl : Bool) (l0 : List Dc) (hl0 : l0.length + T.length + 1 <= 1000002000001) {R : List Dc × Ps} (hR0 : Z0N T pl s0 = R) :
  MemXQ Y00 gl (XF R.2) 11 58 [.ptr 0 0,Z18 11 l0,.bool pl] (gB T s0++Z2f 11 l0) (Z18 11 (l0++R.1)) (gB T R.2++Z2f 11 (l0++R.1)):=by
 have hTy:Zcm Y00 23 23=some (66,3,32):=by kernel_rfl
 unfold Z0N at hR0
 generalize hR:Z3E T pl (T.length+1) s0=Q at *
 obtain⟨RL,RS⟩:=Q
 subst hR0
 simp only
 generalize hE:Z03 T RS [59]=E at *
 obtain⟨O,hO,⟨p1,p2,p3,p4,-⟩,-⟩:=Z2l (P:=Y00) (gl:=gl) (XF E) [Z60 T,Z63 T,Z64 T,Z2n T] [] rfl
 have kE:=Z0l T RS [59]
 rw[hE]at kE
 have hI:GOK T s0/\l0.length+(T.length+1)<=l0.length+T.length+1/\T.length-s0.i<T.length+1/\l0++(Z3E T pl (T.length+1) s0).1=l0++RL/\(Z3E T pl (T.length+1) s0).2=RS:=⟨hg0,by omega,by omega,by rw[hR],by rw[hR]⟩
 clear hR
 generalize l0++RL=RT at *
 refine Z0t Zq4 3 follows Z06 hO Tryz.func58 rfl ?_
 rw (occs:=.pos [1]) [Z09 hg0.er]
 simp only[gL,LV,Y02,Y03]
 rcases l0 with _|⟨a0,l0⟩
 all_goals simp only[Z18,Z2f]
 all_goals repeat' ((conv=>whnf);first|(exact Or.inl rfl)|(refine Or.inr ?_)|refine stp ?_|with_reducible apply Z01<;>intro h)
 all_goals (conv=>whnf)
 case' nil=>refine⟨Bg6,(λy=>GOK T y.s/\y.l.length+y.k<=1000002000001/\T.length-y.s.i<y.k/\y.l++(Z3E T pl y.k y.s).1=RT/\(Z3E T pl y.k y.s).2=RS),(λy=>[(0,.ptr 0 0),(1,Z18 11 y.l),(2,.bool pl)]),
  (λy=>gL T y.s.i y.s.op++Z2f 11 y.l),(λy=>y.k),⟨⟨[],s0,T.length+1⟩,⟨hI.1,by simpa using hl0,hI.2.2⟩,?_⟩,?_⟩
 case' cons=>refine⟨Bg6,(λy=>GOK T y.s/\y.l.length+y.k<=1000002000001/\T.length-y.s.i<y.k/\y.l++(Z3E T pl y.k y.s).1=RT/\(Z3E T pl y.k y.s).2=RS),(λy=>[(0,.ptr 0 0),(1,Z18 11 y.l),(2,.bool pl)]),
  (λy=>gL T y.s.i y.s.op++Z2f 11 y.l),(λy=>y.k),⟨⟨a0::l0,s0,T.length+1⟩,⟨hI.1,by simpa[Nat.add_assoc]using hl0,hI.2.2⟩,?_⟩,?_⟩
 case' nil.refine_1 =>
  refine Y08 M11 rfl rfl ?_ ?_ rfl
  ·exact wks
  ·refine Z1h (l:=[]) (ms:=[]) (X':=[]) ?_ ?_ trivial<;>rfl
 case' cons.refine_1 =>
  refine Y08 [0,1,2,3,4,5,6,7,8,9,10,11] rfl rfl ?_ ?_ rfl
  · dsimp only[Z18]
    exact wks
  ·refine Z1h (l:=[11]) (X':=[_]) ?_ ?_ ⟨⟨rfl,rfl,rfl,rfl,Z0f rfl (Z0H _)⟩,trivial⟩<;>rfl
 all_goals
  clear hI hg0 hl0
  rintro⟨l,s,k⟩ ⟨hs,hlk,hk,hL,hS⟩
  dsimp only at hs hlk hk hL hS
  (try dsimp only)
  obtain⟨k,rfl⟩:∃k',k=k'+1:=⟨k-1,by omega⟩
  have kD:Kr (Z4a T pl s).2 RS:=by
   unfold Z3E at hS
   split at hS
   ·rw[<- hS];exact (Z0k _).trans (Zdi T pl k _)
   ·rw[<- hS];exact Kr.rfl'
  have hkw:=Z3F T s
  have hgw:=Z4B hs.ok
  have hfew:=hs.ok.few
  by_cases e1:(Z0a T s).err=0
  case neg =>
   have hN:Kr (Z0a T s) (Z4a T pl s).2:=by
    unfold Z4a
    split
    · split
      ·exact (Z0k _).trans (Z0k _)
      ·exact (Z0k _).trans (Z2p _ _ (by decide))
    ·exact Kr.rfl'
   have q1:∀X,Z07 Z0z X=true->Z05 Y00 O (gL T s.i s.op++X) 80 [.ptr 0 0]=some (.str (Z0R T s),gD (Z0a T s)++X):=λX hX=>Zoe p2 () s X hs ⟨hs.ok,hs.at0⟩ (hN.trans (kD.trans kE)).x hX e1
   clear p1 p2 p3 p4 hN kD hkw hgw hL hS
   generalize Z0a T s=s1 at *
   generalize Z0R T s=w at *
   simp only[gL,LV,gD,Y02,Y03]at q1⊢
   rcases l with _|⟨a,l⟩
   all_goals simp only[Z18,Z2f]
   all_goals repeat' ((conv=>whnf);first|(exact Or.inl rfl)|(refine Or.inr ?_)|refine exI (q1 _ rfl) ?_|refine stp ?_|with_reducible apply Z01<;>intro h)
  have hg1:=hs.go hgw hkw e1
  have q1:∀X,Z07 Z0z X=true->Z05 Y00 O (gL T s.i s.op++X) 80 [.ptr 0 0]=some (.str (Z0R T s),gL T (Z0a T s).i (Z0a T s).op++X):=λX hX=>Zou p2 () s X hs ⟨hs.ok,hs.at0⟩ hX rfl e1
  have f2:=Z4p hT hg1.ok hg1.er (w:=[61]) rfl
  have rest : ∀ (v : Int) (s3 : Ps), Z4a T pl s = (⟨Z0R T s, pl, v⟩, s3) -> GOK T s3 ->
    (isF T s3 [44]=true/\(∀X,Z07 Z0z X=true->Z05 Y00 O (gL T s3.i s3.op++X) 57 [.ptr 0 0,.int .i64 4,.str [44]]=some (.bool true,gL T (s3.i+1) s3.op++X))/\GOK T (Z02 s3)/\l++(⟨Z0R T s,pl,v⟩::(Z3E T pl k (Z02 s3)).1)=RT/\(Z3E T pl k (Z02 s3)).2=RS/\T.length-(Z02 s3).i<k) \/
    ((∀X,Z07 Z0z X=true->Z05 Y00 O (gL T s3.i s3.op++X) 57 [.ptr 0 0,.int .i64 4,.str [44]]=some (.bool false,gL T s3.i s3.op++X))/\(∀X,Z07 Z0z X=true->Z05 Y00 O (gL T s3.i s3.op++X) 81 [.ptr 0 0,.str [59]]=some (.tuple [],gB T E++X))/\l++[⟨Z0R T s,pl,v⟩]=RT):=by
   intro v s3 h3 hg3
   have f3:=Z4p hT hg3.ok hg3.er (w:=[44]) rfl
   have hon:=(Zid pl hs.ok).on
   rw[h3]at hon
   have hlt3:=hg3.ok.lt
   unfold Z3E at hL hS
   rw[h3]at hL hS
   simp only at hL hS hon
   cases hc:isF T s3 [44] with
   |true =>
    rw[hc,if_pos rfl]at hL hS
    refine .inl ⟨rfl,λX hX=>Zld p1 hg3 (f3.trans hc) (λu hu=>(Z8Y (s:=Z02 s3) hg3.er u hu).elim) hX,hg3.go (Z0b hg3.ok hc) (Z0k _) hg3.er,hL,hS,?_⟩
    show T.length-(s3.i+1)<k
    omega
   |false =>
    rw[hc,if_neg (by decide)]at hL hS
    simp only at hL hS
    refine .inr ⟨λX hX=>Zga p1 hg3 (f3.trans hc) hX,λX hX=>?_,hL⟩
    have h:=Z7e p3 hT hg3 [59] rfl rfl (by decide) (by rw[hS,hE];exact λu hu=>hu) (X:=X) hX
    subst hS
    rwa [hE]at h
  cases hb:isF T (Z0a T s) [61] with
  |false =>
   have q2:=λX hX=>Zga p1 hg1 (f2.trans hb) (X:=X) hX
   have hd:Z4a T pl s=(⟨Z0R T s,pl,0⟩,Z0a T s):=by unfold Z4a;rw[hb];rfl
   have hr:=rest 0 (Z0a T s) hd hg1
   clear p1 p2 p3 p4 rest kD hkw hgw hL hS kE hE hd f2 hb
   generalize Z0a T s=s1 at *
   generalize Z0R T s=w at *
   have hcl:(dcC l).length=l.length*3:=Z6M l
   have hsn:=Zi9 l w pl 0
   rcases hr with ⟨h1,h2,h3,h4,h5,h6⟩|⟨h1,h2,h3⟩
   · clear h1
     simp only[gL,LV,Y02,Y03]at q1 q2 h2⊢
     rcases l with _|⟨a,l⟩
     all_goals (try simp only[Y0b]at hlk hcl)
     all_goals simp only[Z18,Z2f]
     all_goals repeat' ((conv=>whnf);first|(refine Or.inr ?_)|refine exI (q1 _ rfl) ?_|refine exI (q2 _ rfl) ?_|refine exI (h2 _ rfl) ?_|(refine apS ?_)|refine stp ?_|with_reducible apply Z01<;>intro h)
     all_goals (conv=>whnf)
     · refine⟨⟨[⟨w,pl,0⟩],_,k⟩,⟨h3,by simp at hlk⊢;omega,h6,h4,h5⟩,Y0h _,?_⟩
       refine Y08 [0,1,2,3,4,5,6,7,8,9,10,13] rfl rfl ?_ ?_ rfl
       · dsimp only[Z18,Y0i]
         exact wks
       ·refine Z1h (l:=[13]) (X':=[_]) ?_ ?_ ⟨⟨rfl,rfl,rfl,rfl,Z0f rfl (Z0H [⟨w,pl,0⟩])⟩,trivial⟩<;>rfl
     · have hl1:(l++[(⟨w,pl,0⟩:Dc)]).length=l.length+1:=by simp
       refine⟨⟨a::(l++[⟨w,pl,0⟩]),_,k⟩,⟨h3,by simp only[Y0b,hl1];omega,h6,(by simp only[Y02,List.append_assoc,Y03]at h4⊢;exact h4),h5⟩,Y0h _,?_⟩
       refine Y08 [0,1,2,3,4,5,6,7,8,9,10,14] rfl rfl ?_ ?_ rfl
       · dsimp only[Z18]
         rw[hl1]
         exact wks
       ·refine Z1h (l:=[14]) (X':=[_]) ?_ ?_ ⟨⟨rfl,rfl,rfl,rfl,Z0f hsn (Z0H _)⟩,trivial⟩<;>rfl
   · subst h3
     simp only[gL,LV,Y02,Y03]at q1 q2 h1 h2⊢
     rcases l with _|⟨a,l⟩
     all_goals (try simp only[Y0b]at hlk hcl)
     all_goals simp only[Z18,Z2f]
     all_goals repeat' ((conv=>whnf);first|(exact Or.inl rfl)|(refine Or.inr ?_)|refine exI (q1 _ rfl) ?_|refine exI (q2 _ rfl) ?_|refine exI (h1 _ rfl) ?_|(refine exG (h2 _ rfl) (λhd=>?_) (λe3=>?_))|(refine apS ?_)|refine stp ?_|with_reducible apply Z01<;>intro h)
     all_goals (conv=>whnf)
     · refine⟨[],[0,1,2,3,4,5,6,7,8,9,10,13],rfl,?_,rfl,rfl,.inl (Z1b rfl)⟩
       rw[Z09 e3]
       refine Z9y (l:=[13]) (X':=[_]) ?_ ?_ ⟨⟨rfl,rfl,rfl,rfl,Y06 (Z0f rfl (Z0H [⟨w,pl,0⟩]))⟩,trivial⟩<;>rfl
     · have hl1:(l++[(⟨w,pl,0⟩:Dc)]).length=l.length+1:=by simp
       refine⟨[],[0,1,2,3,4,5,6,7,8,9,10,14],rfl,?_,rfl,rfl,.inl ?_⟩
       · rw[Z09 e3]
         refine Z9y (l:=[14]) (X':=[_]) ?_ ?_ ⟨⟨rfl,rfl,rfl,rfl,Y06 (Z0f hsn (Z0H _))⟩,trivial⟩<;>rfl
       · show Wk _ _ (Z18 11 (a::(l++[⟨w,pl,0⟩])))
         dsimp only[Z18]
         rw[hl1]
         exact Z1b rfl
  |true =>
   have q2:=λX hX=>Zld p1 hg1 (f2.trans hb) (λu hu=>(Z8Y (s:=Z02 (Z0a T s)) e1 u hu).elim) (X:=X) hX
   have hg2:GOK T (Z02 (Z0a T s)):=hg1.go (Z0b hg1.ok hb) (Z0k _) e1
   have hx:=tq4 T (Z02 (Z0a T s)).i hg2.ok.lt
   rw[<- Z0s hg2.ok.lt]at hx
   have hlt:(Z0a T s).i+1<T.length:=hg2.ok.lt
   by_cases h3:(Z0o T (Z02 (Z0a T s))).kind=3
   · have hd:Z4a T pl s=(⟨Z0R T s,pl,(Z0o T (Z02 (Z0a T s))).num⟩,Z02 (Z02 (Z0a T s))):=by unfold Z4a;rw[hb,if_pos rfl,if_pos h3]
     have hg3:GOK T (Z02 (Z02 (Z0a T s))):=hg2.go (ZkI hg2.ok h3) (Z0k _) e1
     have hr:=rest _ _ hd hg3
     have wa:IntKind.i64.wrap ((((Z0a T s).i+1:Nat):Int)+1)=(((Z0a T s).i+1+1:Nat):Int):=Z1D (by omega)
     clear p1 p2 p3 p4 rest kD hkw hgw hL hS kE hE hd f2 hb
     simp only[Z02]at hx hlt h3 hg3 hr wa q2
     generalize Z0o T { Z0a T s with i:=(Z0a T s).i+1 }=t at *
     obtain⟨kd,tx,nm,ps⟩:=t
     simp only at h3
     subst h3
     generalize Z0a T s=s1 at *
     generalize Z0R T s=w at *
     simp only[Tq.cells]at hx
     have hcl:(dcC l).length=l.length*3:=Z6M l
     have hsn:=Zi9 l w pl nm
     rcases hr with ⟨h1,h2,h3,h4,h5,h6⟩|⟨h1,h2,h3⟩
     · clear h1
       simp only[gL,LV,Y02,Y03]at q1 q2 h2⊢
       rcases l with _|⟨a,l⟩
       all_goals (try simp only[Y0b]at hlk hcl)
       all_goals simp only[Z18,Z2f]
       all_goals repeat' ((conv=>whnf);first|(refine Or.inr ?_)|refine exI hx ?_|refine exI (q1 _ rfl) ?_|refine exI (q2 _ rfl) ?_|refine exI (h2 _ rfl) ?_|(with_reducible refine exW wa ?_)|(with_reducible refine ixJ (s1.i+1) rfl ?_ ?_;focus omega)|(refine apS ?_)|refine stp ?_|with_reducible apply Z01<;>intro h)
       all_goals (conv=>whnf)
       · refine⟨⟨[⟨w,pl,nm⟩],_,k⟩,⟨h3,by simp at hlk⊢;omega,h6,h4,h5⟩,Y0h _,?_⟩
         refine Y08 [0,1,2,3,4,5,6,7,8,9,10,16] rfl rfl ?_ ?_ rfl
         · dsimp only[Z18,Y0i]
           exact wks
         ·refine Z1h (l:=[16]) (X':=[_]) ?_ ?_ ⟨⟨rfl,rfl,rfl,rfl,Z0f rfl (Z0H [⟨w,pl,nm⟩])⟩,trivial⟩<;>rfl
       · have hl1:(l++[(⟨w,pl,nm⟩:Dc)]).length=l.length+1:=by simp
         refine⟨⟨a::(l++[⟨w,pl,nm⟩]),_,k⟩,⟨h3,by simp only[Y0b,hl1];omega,h6,(by simp only[Y02,List.append_assoc,Y03]at h4⊢;exact h4),h5⟩,Y0h _,?_⟩
         refine Y08 [0,1,2,3,4,5,6,7,8,9,10,17] rfl rfl ?_ ?_ rfl
         · dsimp only[Z18]
           rw[hl1]
           exact wks
         ·refine Z1h (l:=[17]) (X':=[_]) ?_ ?_ ⟨⟨rfl,rfl,rfl,rfl,Z0f hsn (Z0H _)⟩,trivial⟩<;>rfl
     · subst h3
       simp only[gL,LV,Y02,Y03]at q1 q2 h1 h2⊢
       rcases l with _|⟨a,l⟩
       all_goals (try simp only[Y0b]at hlk hcl)
       all_goals simp only[Z18,Z2f]
       all_goals repeat' ((conv=>whnf);first|(exact Or.inl rfl)|(refine Or.inr ?_)|refine exI hx ?_|refine exI (q1 _ rfl) ?_|refine exI (q2 _ rfl) ?_|refine exI (h1 _ rfl) ?_|(refine exG (h2 _ rfl) (λhd=>?_) (λe3=>?_))|(with_reducible refine exW wa ?_)|(with_reducible refine ixJ (s1.i+1) rfl ?_ ?_;focus omega)|(refine apS ?_)|refine stp ?_|with_reducible apply Z01<;>intro h)
       all_goals (conv=>whnf)
       · refine⟨[],[0,1,2,3,4,5,6,7,8,9,10,16],rfl,?_,rfl,rfl,.inl (Z1b rfl)⟩
         rw[Z09 e3]
         refine Z9y (l:=[16]) (X':=[_]) ?_ ?_ ⟨⟨rfl,rfl,rfl,rfl,Y06 (Z0f rfl (Z0H [⟨w,pl,nm⟩]))⟩,trivial⟩<;>rfl
       · have hl1:(l++[(⟨w,pl,nm⟩:Dc)]).length=l.length+1:=by simp
         refine⟨[],[0,1,2,3,4,5,6,7,8,9,10,17],rfl,?_,rfl,rfl,.inl ?_⟩
         · rw[Z09 e3]
           refine Z9y (l:=[17]) (X':=[_]) ?_ ?_ ⟨⟨rfl,rfl,rfl,rfl,Y06 (Z0f hsn (Z0H _))⟩,trivial⟩<;>rfl
         · show Wk _ _ (Z18 11 (a::(l++[⟨w,pl,nm⟩])))
           dsimp only[Z18]
           rw[hl1]
           exact Z1b rfl
   · have hd:Z4a T pl s=(⟨Z0R T s,pl,0⟩,Z0r (Z02 (Z0a T s)) 5 (Z0o T (Z02 (Z0a T s))).pos):=by unfold Z4a;rw[hb,if_pos rfl,if_neg h3]
     rw[hd]at kD
     have e3:((Z0o T (Z02 (Z0a T s))).kind != 3)=true:=by simpa using h3
     have qx:=λX K hX=>Z6c p4 (i:=(Z02 (Z0a T s)).i) (op:=(Z02 (Z0a T s)).op) (X:=X) (K:=K) (e:=5) hg2 (by decide) (kD.trans kE).x rfl rfl hX
     clear p1 p2 p3 p4 rest kD hkw hgw hL hS kE hE hd f2 hb hg2
     simp only[Z02]at hx hlt h3 q2 qx e3
     generalize Z0o T { Z0a T s with i:=(Z0a T s).i+1 }=t at *
     obtain⟨kd,tx,nm,ps⟩:=t
     generalize Z0a T s=s1 at *
     generalize Z0R T s=w at *
     simp only[gL,LV,gD,Tq.cells,Y02,Y03]at q1 q2 qx hx e3⊢
     have wa:IntKind.i64.wrap (((s1.i+1:Nat):Int)+1)=((s1.i+1+1:Nat):Int):=Z1D (by omega)
     rcases l with _|⟨a,l⟩
     all_goals simp only[Z18,Z2f]
     all_goals repeat' ((conv=>whnf);first|(exact Or.inl rfl)|(refine Or.inr ?_)|refine exI hx ?_|refine exI (q1 _ rfl) ?_|refine exI (q2 _ rfl) ?_|(refine qx _ _ rfl ?_)|(with_reducible refine exW wa ?_)|(with_reducible refine ixJ (s1.i+1) rfl ?_ ?_;focus omega)|refine stp ?_|with_reducible apply Z01<;>intro h)
end
section
variable {gl:Z0g}
def Zaj:List (List St)->Nat->AV
 |[],_=>.nslice
 |e::l,n=>.slice n 0 (l.length+1) (l.length+1) 1
def ZcY:List (List St)->Nat->Z00
 |[],_=>[]
 |e::l,n=>[⟨true,n,0,.cells ((e::l).map stA) 53⟩]
def Z9x:List Dc->Nat
 |[]=>13
 |_::_=>14
def pgY(ds:List Dc)(ts:List (List St)):Z00:=[⟨true,11,0,.cells [.nslice,.nslice] 26⟩,⟨true,12,0,.cells [Z18 13 ds,Zaj ts (Z9x ds)] 26⟩]++(Z2f 13 ds++ZcY ts (Z9x ds))
def pgD(ds:List Dc)(ts:List (List St)):Nat:=Z9x ds+(match ts with|[]=>0|_::_=>1)
def ZkG(ds:List Dc)(ts:List (List St))(D:List Dc):Z00:=[⟨true,11,0,.cells [.nslice,.nslice] 26⟩,⟨true,12,0,.cells [Z18 13 ds,Zaj ts (Z9x ds)] 26⟩]++((match ds with|[]=>[]|_::_=>[⟨false,13,0,.cells [] 0⟩])++(ZcY ts (Z9x ds)++[⟨true,pgD ds ts,0,.cells (dcC (ds++D)) 66⟩]))
theorem Z1M{P:Program}{gl:Z0g}{X:AV->Prop}{f:Nat}{args:List AV}{H H' H2:Z00}{r r2:AV}(h:MemX P gl X f args H r H')(hd:Z7q H'=true):MemX P gl X f args H r2 H2:=λsn ι W cargs hg hR ha =>
 (h sn ι W cargs hg hR ha).mono λe W' h=>h.elim (λ⟨v,sn',ι',e1,e2,e3⟩=>(Z3U e3.rel hd).elim) .inr
theorem Z8N(g:Nat->Nat):∀l:List Dc,renL g (dcC l)=dcC l
 |[]=>rfl
 |d::l=>by
  show _::_::_::renL g (dcC l)=_
  rw[Z8N g l];rfl
theorem ZbU(l:List Dc):refsL (dcC l) []=[]:=ZbL (Z0H l)
theorem Zba(g:Nat->Nat):∀l:List (List St),renL g (l.map stA)=l.map stA
 |[]=>rfl
 |e::l=>by
  show _::renL g (l.map stA)=_
  rw[Zba g l];rfl
theorem Zao{T:List Tq}{i:Nat}{op:Int}{l:List Dc}:∀(b:Nat)(o:AObj),(gL T i op++[⟨true,11,0,.cells (dcC l) 66⟩])[b]? = some o->o.fam=b/\o.alive=true/\Z12 12 (Z3O o.body [])=true:=λb o h=>by
 match b,h with
 |0,h=>cases h;exact⟨rfl,rfl,rfl⟩
 |1,h=>cases h;exact⟨rfl,rfl,rfl⟩
 |2,h=>cases h;exact⟨rfl,rfl,rfl⟩
 |3,h=>cases h;exact⟨rfl,rfl,rfl⟩
 |4,h=>cases h;exact⟨rfl,rfl,rfl⟩
 |5,h=>cases h;exact⟨rfl,rfl,rfl⟩
 |6,h=>cases h;exact⟨rfl,rfl,rfl⟩
 |7,h=>cases h;exact⟨rfl,rfl,rfl⟩
 |8,h=>cases h;exact⟨rfl,rfl,rfl⟩
 |9,h=>cases h;exact⟨rfl,rfl,rfl⟩
 |10,h=>cases h;exact⟨rfl,rfl,rfl⟩
 |11,h=>cases h;exact⟨rfl,rfl,by show Z12 12 (refsL (dcC l) [])=true;rw[ZbU];rfl⟩
 |k+12,h=>cases h
theorem Zm8{T:List Tq}{i:Nat}{op:Int}:∀(b:Nat)(o:AObj),(gL T i op++[])[b]? = some o->o.alive=true/\o.fam=b:=λb o h=>by
 match b,h with
 |0,h=>cases h;exact⟨rfl,rfl⟩
 |1,h=>cases h;exact⟨rfl,rfl⟩
 |2,h=>cases h;exact⟨rfl,rfl⟩
 |3,h=>cases h;exact⟨rfl,rfl⟩
 |4,h=>cases h;exact⟨rfl,rfl⟩
 |5,h=>cases h;exact⟨rfl,rfl⟩
 |6,h=>cases h;exact⟨rfl,rfl⟩
 |7,h=>cases h;exact⟨rfl,rfl⟩
 |8,h=>cases h;exact⟨rfl,rfl⟩
 |9,h=>cases h;exact⟨rfl,rfl⟩
 |10,h=>cases h;exact⟨rfl,rfl⟩
 |k+11,h=>cases h
theorem Z9t{P:Program}{gl:Z0g}{X:AV->Prop}{k f:Nat}{args:List AV}{H H' H2:Z00}{r r2:AV}(h:MemXQ P gl X k f args H r H')(hd:Z7q H'=true):MemX P gl X f args H r2 H2:=λsn ι W cargs hg hR ha =>
 (h sn ι W cargs hg hR ha).mono λe W' h=>h.elim (λ⟨v,sn',ι',e1,e2,e3⟩=>(Z3U e3.rel hd).elim) .inr
theorem Zhy{E:Ps}:∀(b:Nat)(o:AObj),(gD E)[b]? = some o->Z12 11 (Z3O o.body [])=true:=λb o h=>by
 match b,h with
 |0,h=>cases h;rfl
 |1,h=>cases h;rfl
 |2,h=>cases h;rfl
 |3,h=>cases h;rfl
 |4,h=>cases h;rfl
 |5,h=>cases h;rfl
 |6,h=>cases h;rfl
 |7,h=>cases h;rfl
 |8,h=>cases h;rfl
 |9,h=>cases h;rfl
 |10,h=>cases h;rfl
 |k+11,h=>cases h
theorem Zd4{E:Ps}{ty:TypeId}:∀(b:Nat)(o:AObj),(gD E++[⟨true,11,0,.cells [] ty⟩])[b]? = some o->Z12 12 (Z3O o.body [])=true:=λb o h=>by
 match b,h with
 |0,h=>cases h;rfl
 |1,h=>cases h;rfl
 |2,h=>cases h;rfl
 |3,h=>cases h;rfl
 |4,h=>cases h;rfl
 |5,h=>cases h;rfl
 |6,h=>cases h;rfl
 |7,h=>cases h;rfl
 |8,h=>cases h;rfl
 |9,h=>cases h;rfl
 |10,h=>cases h;rfl
 |11,h=>cases h;rfl
 |k+12,h=>cases h
theorem Zhs {T : List Tq} (hT : TqOK T) {s : Ps} (hg : GOK T s) (pl : Bool) (ds : List Dc) (ts : List (List St)) (hl : ds.length + T.length + 1 <= 1000002000001) :
  MemX Y00 gl (XF (Z0N T pl s).2) 58 [.ptr 0 0,Z18 13 ds,.bool pl] (gL T s.i s.op++pgY ds ts) (.slice (pgD ds ts) 0 (ds++(Z0N T pl s).1).length (ds++(Z0N T pl s).1).length 3) ((cond ((Z0N T pl s).2.err==0) (gL T (Z0N T pl s).2.i (Z0N T pl s).2.op) (gD (Z0N T pl s).2))++ZkG ds ts (Z0N T pl s).1):=by
 obtain⟨d1,dl,hd,-⟩:=Z8M T pl s
 have hM:=ZjW (gl:=gl) hT hg pl ds hl rfl
 rw[hd]at hM⊢
 generalize (Z0N T pl s).2=E at *
 rw[Z09 hg.er]at hM
 have ht:∃d0 d2,ds++d1::dl=d0::d2:=by
  cases ds with
  |nil=>exact⟨_,_,rfl⟩
  |cons a ds=>exact⟨_,_,rfl⟩
 obtain⟨d0,d2,ht⟩:=ht
 have hlen:(ds++d1::dl).length=d2.length+1:=by rw[ht];rfl
 unfold ZkG
 simp only[hlen,ht]at hM⊢
 simp only[Z18,Z2f]at hM
 clear hlen ht hd hl
 by_cases he:E.err=0
 · have e1:(E.err==0)=true:=by simpa using he
   rw[Z09 he]at hM
   rw[e1]
   rcases ds with _|⟨a,ds⟩
   · have h1:=Z8p hM (Y07 _) (by show 11<=12;decide) Zao Zm8 rfl
     simp[Zb0,sgE,shE,Z59,renL,Zg5,ren,Z8N,AObj.dead,gL,LV]at h1
     rcases ts with _|⟨c,ts⟩
     · have h2:=Z1S (m:=M11) (Hc:=gL T s.i s.op++pgY [] []) (cargs:=[.ptr 0 0,.nslice,.bool pl]) h1 (Y0g ⟨Y0a rfl rfl,Y04 rfl,Y0d rfl,trivial⟩) (Z1h (X':=[]) rfl rfl trivial) rfl rfl rfl (Z1e rfl) (λi o h=>by
       match i,h with
       |0,h=>cases h;rfl
       |1,h=>cases h;rfl
       |2,h=>cases h;rfl
       |3,h=>cases h;rfl
       |4,h=>cases h;rfl
       |5,h=>cases h;rfl
       |6,h=>cases h;rfl
       |7,h=>cases h;rfl
       |8,h=>cases h;rfl
       |9,h=>cases h;rfl
       |10,h=>cases h;rfl
       |11,h=>cases h;exact (by show Z12 _ (refsL (dcC _) [])=true;rw[ZbU];rfl)
       |k+12,h=>cases h) rfl
       simp[kil,mem,Z90,Z5a,shS,sgS,Zb0,sgE,shE,Z59,renL,Zg5,ren,Z8N,Zba,AObj.dead,gL,gD,bot,LV,M11,pgY,ZcY,Zaj,Z9x,Z18,Z2f]at h2
       exact h2
     · have h2:=Z1S (m:=M11) (Hc:=gL T s.i s.op++pgY [] (c::ts)) (cargs:=[.ptr 0 0,.nslice,.bool pl]) h1 (Y0g ⟨Y0a rfl rfl,Y04 rfl,Y0d rfl,trivial⟩) (Z1h (X':=[]) rfl rfl trivial) rfl rfl rfl (Z1e rfl) (λi o h=>by
       match i,h with
       |0,h=>cases h;rfl
       |1,h=>cases h;rfl
       |2,h=>cases h;rfl
       |3,h=>cases h;rfl
       |4,h=>cases h;rfl
       |5,h=>cases h;rfl
       |6,h=>cases h;rfl
       |7,h=>cases h;rfl
       |8,h=>cases h;rfl
       |9,h=>cases h;rfl
       |10,h=>cases h;rfl
       |11,h=>cases h;exact (by show Z12 _ (refsL (dcC _) [])=true;rw[ZbU];rfl)
       |k+12,h=>cases h) rfl
       simp[kil,mem,Z90,Z5a,shS,sgS,Zb0,sgE,shE,Z59,renL,Zg5,ren,Z8N,Zba,AObj.dead,gL,gD,bot,LV,M11,pgY,ZcY,Zaj,Z9x,Z18,Z2f]at h2
       exact h2
   · have h1:=Z8p hM (by show 11<=12;decide) (by show 11<=12;decide) Zao (λi o h=>⟨(Zao i o h).2.1,(Zao i o h).1⟩) rfl
     simp[Zb0,sgE,shE,Z59,renL,Zg5,ren,Z8N,AObj.dead,gL,LV]at h1
     rcases ts with _|⟨c,ts⟩
     · have h2:=Z1S (m:=[0,1,2,3,4,5,6,7,8,9,10,13]) (Hc:=gL T s.i s.op++pgY (a::ds) []) (cargs:=[.ptr 0 0,.slice 13 0 (ds.length+1) (ds.length+1) 3,.bool pl]) h1 (Y0g ⟨Y0a rfl rfl,Z1b rfl,Y0d rfl,trivial⟩) (Z1h (X':=[_]) (l:=[13]) rfl rfl ⟨⟨rfl,rfl,rfl,rfl,Z0f rfl (Z0H _)⟩,trivial⟩) rfl rfl rfl (Z1e rfl) (λi o h=>by
       match i,h with
       |0,h=>cases h;rfl
       |1,h=>cases h;rfl
       |2,h=>cases h;rfl
       |3,h=>cases h;rfl
       |4,h=>cases h;rfl
       |5,h=>cases h;rfl
       |6,h=>cases h;rfl
       |7,h=>cases h;rfl
       |8,h=>cases h;rfl
       |9,h=>cases h;rfl
       |10,h=>cases h;rfl
       |11,h=>cases h;exact rfl
       |12,h=>cases h;exact (by show Z12 _ (refsL (dcC _) [])=true;rw[ZbU];rfl)
       |k+13,h=>cases h) rfl
       simp[kil,mem,Z90,Z5a,shS,sgS,Zb0,sgE,shE,Z59,renL,Zg5,ren,Z8N,Zba,AObj.dead,gL,gD,bot,LV,M11,pgY,ZcY,Zaj,Z9x,Z18,Z2f]at h2
       exact h2
     · have h2:=Z1S (m:=[0,1,2,3,4,5,6,7,8,9,10,13]) (Hc:=gL T s.i s.op++pgY (a::ds) (c::ts)) (cargs:=[.ptr 0 0,.slice 13 0 (ds.length+1) (ds.length+1) 3,.bool pl]) h1 (Y0g ⟨Y0a rfl rfl,Z1b rfl,Y0d rfl,trivial⟩) (Z1h (X':=[_]) (l:=[13]) rfl rfl ⟨⟨rfl,rfl,rfl,rfl,Z0f rfl (Z0H _)⟩,trivial⟩) rfl rfl rfl (Z1e rfl) (λi o h=>by
       match i,h with
       |0,h=>cases h;rfl
       |1,h=>cases h;rfl
       |2,h=>cases h;rfl
       |3,h=>cases h;rfl
       |4,h=>cases h;rfl
       |5,h=>cases h;rfl
       |6,h=>cases h;rfl
       |7,h=>cases h;rfl
       |8,h=>cases h;rfl
       |9,h=>cases h;rfl
       |10,h=>cases h;rfl
       |11,h=>cases h;exact rfl
       |12,h=>cases h;exact (by show Z12 _ (refsL (dcC _) [])=true;rw[ZbU];rfl)
       |k+13,h=>cases h) rfl
       simp[kil,mem,Z90,Z5a,shS,sgS,Zb0,sgE,shE,Z59,renL,Zg5,ren,Z8N,Zba,AObj.dead,gL,gD,bot,LV,M11,pgY,ZcY,Zaj,Z9x,Z18,Z2f]at h2
       exact h2
 · have e1:(E.err==0)=false:=by simpa using he
   rw[Z5r he]at hM
   rcases ds with _|⟨a,ds⟩
   · have h1:=Z9t (H2:=gD E) (r2:=.tuple []) hM rfl
     rcases ts with _|⟨c,ts⟩
     ·exact Z1M (Z1S (m:=M11) (Hc:=gL T s.i s.op++pgY [] []) (cargs:=[.ptr 0 0,.nslice,.bool pl]) h1 (Y0g ⟨Y0a rfl rfl,Y04 rfl,Y0d rfl,trivial⟩) (Z1h (X':=[]) rfl rfl trivial) rfl rfl rfl (Z1e rfl) Zhy rfl) rfl
     ·exact Z1M (Z1S (m:=M11) (Hc:=gL T s.i s.op++pgY [] (c::ts)) (cargs:=[.ptr 0 0,.nslice,.bool pl]) h1 (Y0g ⟨Y0a rfl rfl,Y04 rfl,Y0d rfl,trivial⟩) (Z1h (X':=[]) rfl rfl trivial) rfl rfl rfl (Z1e rfl) Zhy rfl) rfl
   · have h1:=Z9t (H2:=gD E++[⟨true,11,0,.cells [] 66⟩]) (r2:=.tuple []) hM rfl
     rcases ts with _|⟨c,ts⟩
     ·exact Z1M (Z1S (m:=[0,1,2,3,4,5,6,7,8,9,10,13]) (Hc:=gL T s.i s.op++pgY (a::ds) []) (cargs:=[.ptr 0 0,.slice 13 0 (ds.length+1) (ds.length+1) 3,.bool pl]) h1 (Y0g ⟨Y0a rfl rfl,Z1b rfl,Y0d rfl,trivial⟩) (Z1h (X':=[_]) (l:=[13]) rfl rfl ⟨⟨rfl,rfl,rfl,rfl,Z0f rfl (Z0H _)⟩,trivial⟩) rfl rfl rfl (Z1e rfl) Zd4 rfl) rfl
     ·exact Z1M (Z1S (m:=[0,1,2,3,4,5,6,7,8,9,10,13]) (Hc:=gL T s.i s.op++pgY (a::ds) (c::ts)) (cargs:=[.ptr 0 0,.slice 13 0 (ds.length+1) (ds.length+1) 3,.bool pl]) h1 (Y0g ⟨Y0a rfl rfl,Z1b rfl,Y0d rfl,trivial⟩) (Z1h (X':=[_]) (l:=[13]) rfl rfl ⟨⟨rfl,rfl,rfl,rfl,Z0f rfl (Z0H _)⟩,trivial⟩) rfl rfl rfl (Z1e rfl) Zd4 rfl) rfl
end
end Go.Proofs.YtneoiadnbikciaaGreatDoor.lex

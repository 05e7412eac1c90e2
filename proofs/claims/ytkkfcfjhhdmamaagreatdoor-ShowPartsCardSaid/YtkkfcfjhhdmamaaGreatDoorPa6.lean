/-
  Texts of this proof, one behind the other (part 6).
-/
import Derived.Test.YtkkfcfjhhdmamaaGreatDoorPa5
import Derived.Shelf.Strconv.Itoa1
import Derived.Shelf.Strconv.Itoa0
set_option linter.unusedVariables false
set_option linter.unusedSimpArgs false
set_option maxRecDepth 100000
set_option maxHeartbeats 4000000
open Go.Proofs.Tryz renaming prog → Y00,func57 → Y0k,func49 → Y0t
open And renaming intro → Y01
open List renaming length_append → Y02,length_cons → Y03,length_nil → Y04,cons_ne_nil → Y07,ne_nil_of_length_pos → Y08,take_zero → Y09,take_succ_cons → Y0d,take_length → Y0e,getElem_cons_zero → Y0g,getElem_cons_succ → Y0l,append_nil → Y0p,mem_cons → Y0s,eq_nil_of_length_eq_zero → Y0v,drop_eq_getElem_cons → Y0y,drop_length → Y0z,nil_append → Y0A
open Go.Abs.Wk renaming ptr → Y05,int → Y06,noref → Y0a,func → Y0h
open Nat renaming zero_le → Y0b,le_refl → Y0i,beq → Y0q
open Go.Abs.FgL renaming mk0 → Y0c,mk → Y0f
open Bool renaming true_and → Y0j,and_eq_true → Y0n,and_true → Y0o,and_false → Y0u,or_eq_true → Y0w
open Go.Abs.BodyGe renaming cellsL → Y0m
open Int renaming ofNat_inj → Y0r,toNat_natCast → Y0x
namespace Go.Proofs.YtkkfcfjhhdmamaaGreatDoor.lex
open Go.Abs Go.RowKit
section
def ckB(n:Nat)(g:Bool):Z00:=[⟨true,0,0,.cells [.int .i64 n] 3⟩,⟨true,1,0,.cells [.bool g] 4⟩,⟨true,2,0,.cells [.func (.func 93) [] [.ptr 0 0]] 102⟩]
def ckH(s:Nat×Bool):Z00:=[⟨true,0,0,.cells [.int .i64 s.1] 3⟩,⟨true,1,0,.cells [.bool s.2] 4⟩,⟨true,2,0,.cells [.func (.func 93) [] [.ptr 0 0]] 102⟩,⟨true,3,0,.cells [.func (.func 65) [] [.ptr 2 0,.ptr 1 0]] 102⟩]
def lim(n:Nat)(d:Int):Bool:=decide (((n+1:Nat):Int)<=2000)&&decide (d<=32)
def ckE(_:Ex)(d:Int)(s:Nat×Bool):Bool×(Nat×Bool):=(lim s.1 d,(s.1+1,lim s.1 d))
def ckS(_:St)(d:Int)(s:Nat×Bool):Bool×(Nat×Bool):=(lim s.1 d,(s.1+1,lim s.1 d))
theorem ZtD(cs:List AV)(d:Int)(n:Nat)(g:Bool)(hn:n<=2000):Z1b Y00 runLives.gl 94 [.rp cs,.int .i64 d,.ptr 3 0] (ckH (n,g)) (.bool (lim n d)) (ckH (n+1,lim n d)):=by
 refine Zbk (k:=4) follows Z05 (Z0a follows Z05 Z0Q 4) rfl Tryz.func94 rfl (Z0r (isC:=λ_=>false) 4) ?_
 repeat' ((conv=>whnf);first|refine stp ?_|with_reducible apply Z01<;>intro h)
 all_goals (conv=>whnf)
 all_goals (exact⟨by unfold lim;rw[h];rfl,by unfold lim;rw[h];rfl,rfl⟩)
theorem ZtC(cs:List AV)(d:Int)(n:Nat)(g:Bool)(hn:n<=2000):Z1b Y00 runLives.gl 95 [.rp cs,.int .i64 d,.ptr 3 0] (ckH (n,g)) (.bool (lim n d)) (ckH (n+1,lim n d)):=by
 refine Zbk (k:=4) follows Z05 (Z0a follows Z05 Z0Q 4) rfl Tryz.func95 rfl (Z0r (isC:=λ_=>false) 4) ?_
 repeat' ((conv=>whnf);first|refine stp ?_|with_reducible apply Z01<;>intro h)
 all_goals (conv=>whnf)
 all_goals (exact⟨by unfold lim;rw[h];rfl,by unfold lim;rw[h];rfl,rfl⟩)
theorem ZrM{a b:Nat×Bool}(h:ckH a=ckH b):a=b:=by
 simp only[ckH,List.cons.injEq,AObj.mk.injEq,ABody.cells.injEq,AV.int.injEq,AV.bool.injEq,and_true,true_and]at h
 obtain⟨x,y⟩:=a
 obtain⟨z,w⟩:=b
 simp only at h
 rw[show x=z by omega,h.2]
def tw(r:Bool×Nat):Bool×(Nat×Bool):=(r.1,(r.2,r.1))
theorem Z7r{r:Bool×Nat}{f:Nat->Bool×Nat}{f':Nat×Bool->Bool×(Nat×Bool)}(h:∀n,f' (n,true)=tw (f n)):Z1D (tw r) f'=tw (Z1D r f):=by
 obtain⟨b,n⟩:=r
 cases b with
 |true=>exact h n
 |false=>rfl
mutual
theorem Zt9:∀(e:Ex)(d:Int)(n:Nat),goE ckE e d (n,true)=tw (goE cE e d n)
 | .mk o num s k,d,n=>by
  have e1:goE ckE (.mk o num s k) d (n,true)=Z1D (tw (cE (.mk o num s k) d n)) λs=>goL ckE k (d+1) s:=by simp only[goE];rfl
  have e2:goE cE (.mk o num s k) d n=Z1D (cE (.mk o num s k) d n) λs=>goL cE k (d+1) s:=by simp only[goE,Z1D]
  rw[e1,e2]
  exact Z7r λn=>goL_ck k (d+1) n
theorem goL_ck:∀(l:List Ex)(d:Int)(n:Nat),goL ckE l d (n,true)=tw (goL cE l d n)
 |[],d,n=>by simp only[goL,tw]
 |e::l,d,n=>by
  have e1:goL ckE (e::l) d (n,true)=Z1D (goE ckE e d (n,true)) λs=>goL ckE l d s:=by simp only[goL,Z1D]
  have e2:goL cE (e::l) d n=Z1D (goE cE e d n) λs=>goL cE l d s:=by simp only[goL,Z1D]
  rw[e1,e2,Zt9 e d n]
  exact Z7r λn=>goL_ck l d n
end
mutual
theorem Zt7:∀(x:St)(d:Int)(n:Nat),goS ckE ckS x d (n,true)=tw (goS cE cS x d n)
 | .mk k nm lc o x t e,d,n=>by
  simp only[goS]
  rw[show ckS (.mk k nm lc o x t e) d (n,true)=tw (cS (.mk k nm lc o x t e) d n) from rfl]
  exact Z7r λn=>by
   rw[goL_ck x (d+1) n]
   exact Z7r λn=>by
    rw[goSL_ck t (d+1) n]
    exact Z7r λn=>goSL_ck e (d+1) n
theorem goSL_ck:∀(l:List St)(d:Int)(n:Nat),goSL ckE ckS l d (n,true)=tw (goSL cE cS l d n)
 |[],d,n=>by simp only[goSL,tw]
 |e::l,d,n=>by
  simp only[goSL]
  rw[Zt7 e d n]
  exact Z7r λn=>goSL_ck l d n
end
theorem Zha(d:Int)(s:Nat×Bool)(h:0<=d/\d<=33/\s.1<=2000)(ht:lim s.1 d=true):0<=d+1/\d+1<=33/\s.1+1<=2000 :=
 have h2:s.1+1<=2000/\d+1<=33:=(ZcG d s.1).1.1 ht
 have h3:0<=d:=h.1
 ⟨by clear h ht h2;omega,h2.2,h2.1⟩
theorem ZtB(d:Int)(s:Nat×Bool)(h0:0<=d)(h:0<=d+1/\d+1<=33/\s.1<=2000):0<=d/\d<=33/\s.1<=2000:=⟨h0,by have:=h.2.1;clear h;omega,h.2.2⟩
theorem ZrL(d:Int)(s:Nat×Bool)(h:0<=d/\d<=33/\s.1<=2000):0<=d/\d<=1152921504606846976:=⟨h.1,by have:=h.2.1;clear h;omega⟩
def ckV:TvS runLives.gl where
 σ:=Nat×Bool
 Mem:=ckH
 k:=4
 len:=λ_=>rfl
 same:=λs=>⟨⟨hbp,hbp,⟨rfl,rfl,rfl,rfl,Y0m ⟨Y0h trivial ⟨Y05 rfl rfl,trivial⟩,trivial⟩⟩,⟨rfl,rfl,rfl,rfl,Y0m ⟨Y0h trivial ⟨Y05 rfl rfl,Y05 rfl rfl,trivial⟩,trivial⟩⟩,trivial⟩,rfl,rfl⟩
 evo:=λ_ _=>rfl
 inj:=λ_ _ h=>ZrM h
 I:=λd s m=>0<=d/\d<=33/\s.1<=2000
 up:=λd s m h0 h=>ZtB d s h0 h
 less:=λd s m h=>h
 bnd:=λd s m h=>ZrL d s h
 gE:=94
 cE:=[.ptr 3 0]
 hE:=ckE
 bodyE:=by kernel_rfl
 wkE:=⟨Y05 rfl rfl,trivial⟩
 okE:=λe rest d s m _ h=>ZtD (e.cells++rest) d s.1 s.2 h.2.2
 downE:=λe d s m h ht=>Zha d s h ht
 gS:=95
 cS:=[.ptr 3 0]
 hS:=ckS
 bodyS:=by kernel_rfl
 wkS:=⟨Y05 rfl rfl,trivial⟩
 okS:=λx rest d s m _ h=>ZtC (x.cells++rest) d s.1 s.2 h.2.2
 downS:=λe d s m h ht=>Zha d s h ht
def ckF:AV:=.func (.func 94) [] [.ptr 3 0]
def ckG:AV:=.func (.func 95) [] [.ptr 3 0]
theorem ZnT(l:List St)(n:Nat)(hok:okSL l)(hl:l.length<=9223372036854775807)(hn:n<=2000):Z1b Y00 runLives.gl 67 [stA l,.int .i64 1,ckF,ckG] (ckH (n,true)) (.bool (goSL cE cS l 1 n).1) (ckH ((goSL cE cS l 1 n).2,(goSL cE cS l 1 n).1)):=by
 have:=TvS.stmts ckV (sizeSL l) l 1 (n,true) 0 (Y0i _) hok hl ⟨by decide,by decide,hn⟩
 have e:goSL ckV.hE ckV.hS l 1 (n,true)=tw (goSL cE cS l 1 n):=goSL_ck l 1 n
 rw[e]at this
 exact this
def cnH(n:Nat)(g:Bool)(nd nt:Nat)(cd ct:List AV):Z00:=[⟨true,0,0,.cells [.int .i64 n] 3⟩,⟨true,1,0,.cells [.bool g] 4⟩,⟨true,2,0,.cells [.func (.func 93) [] [.ptr 0 0]] 102⟩,⟨true,3,0,.cells [.rs nd 3 cd,.rs nt 1 ct] 25⟩,⟨true,4,0,.cells [.func (.func 65) [] [.ptr 2 0,.ptr 1 0]] 102⟩]
def cnF:AV:=.func (.func 94) [] [.ptr 4 0]
def cnG:AV:=.func (.func 95) [] [.ptr 4 0]
theorem ZuO(nd nt:Nat)(cd ct:List AV)(l:List St)(n:Nat)(hok:okSL l)(hl:l.length<=9223372036854775807)(hn:n<=2000):Z1b Y00 runLives.gl 67 [stA l,.int .i64 1,cnF,cnG] (cnH n true nd nt cd ct) (.bool (goSL cE cS l 1 n).1) (cnH (goSL cE cS l 1 n).2 (goSL cE cS l 1 n).1 nd nt cd ct):=by
 have hM:=ZnT l n hok hl hn
 generalize goSL cE cS l 1 n=r at *
 have h:=Z9C (m:=[0,1,2,4]) (n:=5) (Hc:=cnH n true nd nt cd ct) (cargs:=[stA l,.int .i64 1,cnF,cnG]) hM ?_ ?_ rfl rfl rfl rfl rfl rfl
 · have e1:Zg8 [0,1,2,4] (ckH (r.2,r.1)) 0 (cnH n true nd nt cd ct)=cnH r.2 r.1 nd nt cd ct:=rfl
   rw[e1]at h
   exact h
 ·rfl
 ·exact⟨hbp,hbp,⟨rfl,rfl,rfl,rfl,Y0m ⟨Y0h trivial ⟨Y05 rfl rfl,trivial⟩,trivial⟩⟩,⟨rfl,rfl,rfl,rfl,Y0m ⟨Y0h trivial ⟨Y05 rfl rfl,Y05 rfl rfl,trivial⟩,trivial⟩⟩,trivial⟩
def goT(g:List St->Nat->Bool×Nat):List (List St)->Nat->Bool×Nat
 |[],n=>(true,n)
 |l::t,n=>Z1D (g l n) λn=>goT g t n
theorem ZoS{g:List St->Nat->Bool×Nat}:∀(t:List (List St))(n i:Nat)(hi:i<t.length),(goT g (t.take i) n).1=true->goT g (t.take (i+1)) n=g t[i] (goT g (t.take i) n).2
 |e::l,n,0,_,_=>by
  simp only[Y09,Y0d,goT,Y0g,Z1D]
  split
  ·rename_i h2;rw[<- h2]
  ·rename_i h2;rw[<- Bool.eq_false_iff.2 h2]
 |e::l,n,i+1,hi,ht=>by
  simp only[Y0d,goT,Y0l,Z1D]at ht⊢
  split
  · rename_i h2
    rw[if_pos h2]at ht
    exact ZoS l _ i (by simpa using hi) ht
  ·rename_i h2;rw[if_neg h2]at ht;cases ht
theorem ZgM{g:List St->Nat->Bool×Nat}:∀(t:List (List St))(n i:Nat),(goT g (t.take i) n).1=false->goT g t n=goT g (t.take i) n
 |[],n,i,hf=>by simp
 |e::l,n,0,hf=>by simp only[Y09,goT]at hf;cases hf
 |e::l,n,i+1,hf=>by
  simp only[Y0d,goT,Z1D]at hf⊢
  split
  · rename_i h2
    rw[if_pos h2]at hf
    exact ZgM l _ i hf
  ·rfl
def cT(ts:List (List St))(n:Nat):Bool×Nat:=goT (λl n=>goSL cE cS l 1 n) ts n
theorem Zlk:∀(ts:List (List St))(n:Nat),n<=2000->Cnt (cT ts n) n (Z0x ts) (1+Z11 ts)
 |[],n,h=>by
  simp only[cT,goT,Z0x,Z11]
  exact⟨⟨λ_=>by omega,λ_=>rfl⟩,λ_=>rfl⟩
 |l::t,n,h=>by
  have:=Z4u (f:=λn=>cT t n) (goSL_c l 1 n h (by omega)) λh1 _=>Zlk t _ h1
  refine Cnt.to this (by simp only[Z0x]) ?_
  simp only[Z11];omega
theorem ZmT (ts : List (List St)) (nd : Nat) (cd : List AV) (hok : ZlX ts) (hl : ts.length <= 9223372036854775807) :
  Z1b Y00 runLives.gl 64 [.agg [.rs nd 3 cd,.rs ts.length 1 (ts.map stA)],.func (.func 65) [] [.ptr 2 0,.ptr 1 0]] (ckB 0 true) (.tuple []) (ckB (cT ts 0).2 (cT ts 0).1):=by
 obtain⟨O,hO,⟨p1,-⟩,-⟩:=Z13 (P:=Y00) (gl:=runLives.gl) [{ I:=List St×Nat,f:=67,G:=(λp=>okSL p.1/\p.1.length<=9223372036854775807/\p.2<=2000),A:=(λp=>[stA p.1,.int .i64 1,cnF,cnG]),H:=(λp=>cnH p.2 true nd ts.length cd (ts.map stA)),R:=(λp=>.bool (goSL cE cS p.1 1 p.2).1),O:=(λp=>cnH (goSL cE cS p.1 1 p.2).2 (goSL cE cS p.1 1 p.2).1 nd ts.length cd (ts.map stA)),body:=(by kernel_rfl),inj:=(λp q _ _ ha hh=>by simp only[List.cons.injEq,and_true]at ha;simp only[cnH,List.cons.injEq,AObj.mk.injEq,ABody.cells.injEq,AV.int.injEq,and_true,true_and]at hh;rw[Z4a ha,show p.2=q.2 by omega];exact⟨rfl,rfl⟩),ok:=(λp hp=>ZuO _ _ _ _ p.1 p.2 hp.1 hp.2.1 hp.2.2) }] [] rfl
 have q1:∀l n,okSL l->l.length<=9223372036854775807->n<=2000->Z03 Y00 O (cnH n true nd ts.length cd (ts.map stA)) 67 [stA l,.int .i64 1,cnF,cnG]=some (.bool (goSL cE cS l 1 n).1,cnH (goSL cE cS l 1 n).2 (goSL cE cS l 1 n).1 nd ts.length cd (ts.map stA)):=λl n h1 h2 h3=>p1 (l,n) ⟨h1,h2,h3⟩
 clear p1
 refine Zbk (k:=3) follows Z05 hO rfl Tryz.func64 rfl (Zab _ _) ?_
 repeat' ((conv=>whnf);first|refine stp ?_|with_reducible apply Z01<;>intro h)
 conv=>whnf
 refine⟨Nat,(λi=>i<=ts.length/\(cT (ts.take i) 0).1=true),(λi=>[(4,cnF),(5,cnG),(11,.rs ts.length 1 (ts.map stA)),(12,.int .i64 ts.length),(13,.int .i64 i)]),(λi=>cnH (cT (ts.take i) 0).2 true nd ts.length cd (ts.map stA)),(λi=>ts.length-i),⟨0,⟨Y0b _,rfl⟩,FgLK.mk [0,1,2,3,4] rfl rfl ?_ ⟨hbp,hbp,⟨rfl,rfl,rfl,rfl,Y0m ⟨Y0h trivial ⟨Y05 rfl rfl,trivial⟩,trivial⟩⟩,hbp,⟨rfl,rfl,rfl,rfl,Y0m ⟨Y0h trivial ⟨Y05 rfl rfl,Y05 rfl rfl,trivial⟩,trivial⟩⟩,trivial⟩ rfl⟩,?_⟩
 · refine Y01 (Y0h trivial ⟨Y05 rfl rfl,trivial⟩) ?_
   refine Y01 (Y0h trivial ⟨Y05 rfl rfl,trivial⟩) ?_
   refine Y01 (Y0a rfl) ?_
   refine Y01 (Y06 rfl) ?_
   exact⟨Y06 rfl,trivial⟩
 rintro i ⟨hi,hall⟩
 dsimp only
 have hb:(cT (ts.take i) 0).2<=2000:=by
  have h1:=Zlk (ts.take i) 0 (by decide)
  rw[h1.2 hall];exact (h1.1.1 hall).1
 by_cases hlt:i<ts.length
 · have e1:decide ((i:Int)<(ts.length:Int))=true:=by simpa using hlt
   have hat:cT (ts.take (i+1)) 0=goSL cE cS ts[i] 1 (cT (ts.take i) 0).2:=ZoS ts 0 i hlt hall
   have hst:(cT (ts.take (i+1)) 0).1=false->cT ts 0=cT (ts.take (i+1)) 0:=ZgM ts 0 (i+1)
   have hx:=th1 ts i hlt
   obtain⟨k1,k2⟩:=Z2N hok _ (Z0i hlt)
   have q2:=q1 ts[i] (cT (ts.take i) 0).2 k1 k2 hb
   generalize (cT (ts.take i) 0).2=n at *
   generalize ts[i]=l at *
   generalize goSL cE cS l 1 n=r at *
   obtain⟨b,n2⟩:=r
   simp only[stA]at hx
   simp only[stA,cnF,cnG,cnH]at q2
   cases b with
   |true =>
    repeat' ((conv=>whnf);first|refine exI hx ?_|refine exI q2 ?_|(with_reducible refine ixJ i rfl ?_ ?_;focus omega)|refine stp ?_|with_reducible apply Z01<;>intro h)
    conv=>whnf
    refine⟨i+1,⟨hlt,by rw[hat]⟩,by show ts.length-(i+1)<ts.length-i;omega,FgLK.mk [0,1,2,3,4] rfl rfl ?_ ⟨⟨rfl,rfl,rfl,rfl,?_⟩,hbp,⟨rfl,rfl,rfl,rfl,Y0m ⟨Y0h trivial ⟨Y05 rfl rfl,trivial⟩,trivial⟩⟩,hbp,⟨rfl,rfl,rfl,rfl,Y0m ⟨Y0h trivial ⟨Y05 rfl rfl,Y05 rfl rfl,trivial⟩,trivial⟩⟩,trivial⟩ rfl⟩
    · refine Y01 (Y0h trivial ⟨Y05 rfl rfl,trivial⟩) ?_
      refine Y01 (Y0h trivial ⟨Y05 rfl rfl,trivial⟩) ?_
      refine Y01 (Y0a rfl) ?_
      refine Y01 (Y06 rfl) ?_
      exact⟨Y06 rfl,trivial⟩
    · rw[hat]
      exact BodyGe.pre (rest:=[]) rfl rfl
   |false =>
    rw[hst (by rw[hat]),hat]
    repeat' ((conv=>whnf);first|refine exI hx ?_|refine exI q2 ?_|(with_reducible refine ixJ i rfl ?_ ?_;focus omega)|refine stp ?_|with_reducible apply Z01<;>intro h)
    all_goals (conv=>whnf)
    all_goals (exact⟨rfl,rfl⟩)
 · have e1:decide ((i:Int)<(ts.length:Int))=false:=by simpa using hlt
   have hi2:i=ts.length:=by have:=hi;omega
   subst hi2
   rw[Y0e]at hall⊢
   rw[hall]
   generalize (cT ts 0).2=n at *
   repeat' ((conv=>whnf);first|refine stp ?_|with_reducible apply Z01<;>intro h)
   all_goals (conv=>whnf)
   all_goals (exact⟨rfl,rfl⟩)
end
section
variable {gl:Z0l}
def Zny{g:Nat}(hb:Z09 Y00 g=true)(r:List St->AV)(G:List St->Prop)(each:∀x,G x->ValOK Y00 gl g [stA x] (r x)):Fam Y00 gl where
 I:=List St
 f:=g
 G:=G
 A:=λx=>[stA x]
 R:=r
 body:=hb
 inj:=λi j _ _ h=>by simp only[List.cons.injEq,and_true]at h;rw[Z4a h]
 ok:=λx hx=>⟨rfl,each x hx⟩
def famX{g:Nat}(hb:Z09 Y00 g=true)(r:Ex->AV)(G:Ex->Prop)(each:∀k,G k->ValOK Y00 gl g [.agg k.cells] (r k)):Fam Y00 gl where
 I:=Ex
 f:=g
 G:=G
 A:=λk=>[.agg k.cells]
 R:=r
 body:=hb
 inj:=λi j _ _ h=>by rw[ZcO h]
 ok:=λk hk=>⟨Z4q k,each k hk⟩
theorem Zdj:∀(n:Nat)(l:List St),sizeSL l<=n->sizeSL l<=1048576->ValOK Y00 gl 73 [stA l] (.int .i64 (sizeSL l))
 |n,l,h,hb=>by
  obtain⟨O,hO,p1,p2,-⟩:=fams (P:=Y00) (gl:=gl) [Zny (g:=73) (by kernel_rfl) (λx=>.int .i64 (sizeSL x)) (λx=>sizeSL x<n/\sizeSL x<=1048576) (λx hx=>match n,hx with|n+1,hx=>Zdj n x (by omega) hx.2),
   famX (g:=50) (by kernel_rfl) (λk=>.int .i64 (Z0C k)) (λk=>Z0C k<=1048576) (λk hk=>ZbV _ k (Y0i _) hk)] rfl
  have q1:∀x,sizeSL x<n/\sizeSL x<=1048576->∀H,Z03 Y00 O H 73 [stA x]=some (.int .i64 (sizeSL x),H):=p1
  have q2:∀k,Z0C k<=1048576->∀H,Z03 Y00 O H 50 [.agg k.cells]=some (.int .i64 (Z0C k),H):=p2
  clear p1 p2
  have hlen:=Z5v l
  simp only[stA]at q1⊢
  refine Z0d follows Z05 hO Tryz.func73 rfl ?_
  repeat' ((conv=>whnf);first|refine stp ?_|with_reducible apply Z01<;>intro h)
  conv=>whnf
  refine⟨Nat,(λi=>i<=l.length),(λi=>[(0,.rs l.length 7 (stC l)),(3,.int .i64 (sizeSL (l.take i):Nat)),(4,.int .i64 i)]),(λ_=>[]),(λi=>l.length-i),⟨0,Y0b _,Y0c rfl ?_⟩,?_⟩
  ·simp only[Y09,sizeSL];exact wks
  intro i hi
  dsimp only
  by_cases hlt:i<l.length
  · have e1:decide ((i:Int)<(l.length:Int))=true:=by simpa using hlt
    have hs:=Z9i l i hlt
    have hg:=Z5w l i hlt
    have hse:=Z3o l[i]
    have hx4:tk 1 (((stC l).drop (i*7)).drop 4)=some [exA l[i].exprs]:=by rw[Z2h l i hlt];exact Zhb _ _
    have hx5:tk 1 (((stC l).drop (i*7)).drop 5)=some [stA l[i].thn]:=by rw[Z2h l i hlt];exact Zhc _ _
    have hx6:tk 1 (((stC l).drop (i*7)).drop 6)=some [stA l[i].els]:=by rw[Z2h l i hlt];exact Zhd _ _
    have qt:=q1 l[i].thn ⟨by omega,by omega⟩
    have qe:=q1 l[i].els ⟨by omega,by omega⟩
    generalize l[i]=x at *
    simp only[exA,stA]at hx4 hx5 hx6
    have hxl:=Z30 x.exprs
    generalize hT:sizeSL x.thn=zt at *
    generalize hE:sizeSL x.els=ze at *
    repeat' ((conv=>whnf);first|refine exI hx4 ?_|refine exI hx5 ?_|refine exI hx6 ?_|refine exI (qt _) ?_|refine exI (qe _) ?_|(with_reducible refine ixJ i rfl ?_ ?_;focus omega)|refine stp ?_|with_reducible apply Z01<;>intro h)
    conv=>whnf
    refine⟨Nat,(λk=>k<=x.exprs.length),(λk=>[(0,.rs l.length 7 (stC l)),(3,.int .i64 (sizeSL (l.take i)+1+zt+ze+sizeL (x.exprs.take k):Nat)),(4,.int .i64 i),(5,.int .i64 k)]),(λ_=>[]),(λk=>x.exprs.length-k),⟨0,Y0b _,Y0c rfl ?_⟩,?_⟩
    ·simp only[Y09,sizeL];exact wks
    intro k hk
    dsimp only
    by_cases hkt:k<x.exprs.length
    · have e2:decide ((k:Int)<(x.exprs.length:Int))=true:=by simpa using hkt
      have hy:=ex4 x.exprs k hkt
      have ht:=Z7w x.exprs k hkt
      have hgk:=Z6I x.exprs k hkt
      have qk:=q2 x.exprs[k] (by omega)
      generalize x.exprs[k]=y at *
      repeat' ((conv=>whnf);first|refine exI hx4 ?_|refine exI hy ?_|refine exI (qk _) ?_|(with_reducible refine ixJ i rfl ?_ ?_;focus omega)|(with_reducible refine ixJ k rfl ?_ ?_;focus omega)|refine stp ?_|with_reducible apply Z01<;>intro h)
      conv=>whnf
      refine⟨k+1,hkt,by show x.exprs.length-(k+1)<x.exprs.length-k;omega,Y0c rfl ?_⟩
      rw[ht];exact wks
    · have e2:decide ((k:Int)<(x.exprs.length:Int))=false:=by simpa using hkt
      have hk2:k=x.exprs.length:=by have:=hk;omega
      subst hk2
      repeat' ((conv=>whnf);first|refine exI hx4 ?_|(with_reducible refine ixJ i rfl ?_ ?_;focus omega)|refine stp ?_|with_reducible apply Z01<;>intro h)
      conv=>whnf
      refine⟨i+1,hlt,by show l.length-(i+1)<l.length-i;omega,Y0c rfl ?_⟩
      rw[hs,Y0e,hse];exact wks
  · have e1:decide ((i:Int)<(l.length:Int))=false:=by simpa using hlt
    have hi2:i=l.length:=by have:=hi;omega
    subst hi2
    rw[Y0e]
    repeat' ((conv=>whnf);first|refine stp ?_|with_reducible apply Z01<;>intro h)
    all_goals rfl
theorem Ze1:∀(n:Nat)(l:List St),sizeSL l<=n->sizeSL l<=1048576->ValOK Y00 gl 74 [stA l] (.int .i64 (deepSL l))
 |n,l,h,hb=>by
  obtain⟨O,hO,p1,p2,-⟩:=fams (P:=Y00) (gl:=gl) [Zny (g:=74) (by kernel_rfl) (λx=>.int .i64 (deepSL x)) (λx=>sizeSL x<n/\sizeSL x<=1048576) (λx hx=>match n,hx with|n+1,hx=>Ze1 n x (by omega) hx.2),
   famX (g:=51) (by kernel_rfl) (λk=>.int .i64 (Z0P k)) (λk=>Z0C k<=1048576) (λk hk=>ZcC _ k (Y0i _) hk)] rfl
  have q1:∀x,sizeSL x<n/\sizeSL x<=1048576->∀H,Z03 Y00 O H 74 [stA x]=some (.int .i64 (deepSL x),H):=p1
  have q2:∀k,Z0C k<=1048576->∀H,Z03 Y00 O H 51 [.agg k.cells]=some (.int .i64 (Z0P k),H):=p2
  clear p1 p2
  have hlen:=Z5v l
  have hds:=deepSL_size l
  simp only[stA]at q1⊢
  refine Z0d follows Z05 hO Tryz.func74 rfl ?_
  repeat' ((conv=>whnf);first|refine stp ?_|with_reducible apply Z01<;>intro h)
  conv=>whnf
  refine⟨Nat,(λi=>i<=l.length),(λi=>[(0,.rs l.length 7 (stC l)),(3,.int .i64 (deepSL (l.take i):Nat)),(4,.int .i64 i)]),(λ_=>[]),(λi=>l.length-i),⟨0,Y0b _,Y0c rfl ?_⟩,?_⟩
  ·simp only[Y09,deepSL];exact wks
  intro i hi
  dsimp only
  by_cases hlt:i<l.length
  · have e1:decide ((i:Int)<(l.length:Int))=true:=by simpa using hlt
    have hs:=Zaa l i hlt
    have hle:=Ze2 l i
    have hsz:=Z2V _ _ (Z0i hlt)
    have hse:=Z3o l[i]
    have hde:=ZnO l[i]
    have hx4:tk 1 (((stC l).drop (i*7)).drop 4)=some [exA l[i].exprs]:=by rw[Z2h l i hlt];exact Zhb _ _
    have hx5:tk 1 (((stC l).drop (i*7)).drop 5)=some [stA l[i].thn]:=by rw[Z2h l i hlt];exact Zhc _ _
    have hx6:tk 1 (((stC l).drop (i*7)).drop 6)=some [stA l[i].els]:=by rw[Z2h l i hlt];exact Zhd _ _
    have qt:=q1 l[i].thn ⟨by omega,by omega⟩
    have qe:=q1 l[i].els ⟨by omega,by omega⟩
    generalize l[i]=x at *
    simp only[exA,stA]at hx4 hx5 hx6
    have hxl:=Z30 x.exprs
    have h1:=deepSL_size x.thn
    have h2:=deepSL_size x.els
    have h3:=deepL_size x.exprs
    generalize hT:deepSL x.thn=zt at *
    generalize hE:deepSL x.els=ze at *
    repeat' ((conv=>whnf);first|refine exI hx4 ?_|refine exI hx5 ?_|refine exI hx6 ?_|refine exI (qt _) ?_|refine exI (qe _) ?_|(with_reducible refine ixJ i rfl ?_ ?_;focus omega)|refine stp ?_|with_reducible apply Z01<;>intro h)
    conv=>whnf
    refine⟨Nat,(λk=>k<=x.exprs.length),(λk=>[(0,.rs l.length 7 (stC l)),(3,.int .i64 (deepSL (l.take i):Nat)),(4,.int .i64 i),(5,.int .i64 (max (max zt ze) (deepL (x.exprs.take k)):Nat)),(6,.int .i64 k)]),(λ_=>[]),(λk=>x.exprs.length-k),⟨0,Y0b _,Y0c rfl ?_⟩,?_⟩
    · refine Y01 (Y0a rfl) ?_
      refine Y01 (Y0a rfl) ?_
      refine Y01 (Y0a rfl) ?_
      refine Y01 (Y06 ?_) ?_
      ·simp only[Y09,deepL];first|omega|(split<;>omega)
      exact⟨Y06 rfl,trivial⟩
    intro k hk
    dsimp only
    by_cases hkt:k<x.exprs.length
    · have e2:decide ((k:Int)<(x.exprs.length:Int))=true:=by simpa using hkt
      have hy:=ex4 x.exprs k hkt
      have ht:=Z7U x.exprs k hkt
      have hmk:=Z1E _ _ (Z0i hkt)
      have qk:=q2 x.exprs[k] (by omega)
      generalize x.exprs[k]=y at *
      repeat' ((conv=>whnf);first|refine exI hx4 ?_|refine exI hy ?_|refine exI (qk _) ?_|(with_reducible refine ixJ i rfl ?_ ?_;focus omega)|(with_reducible refine ixJ k rfl ?_ ?_;focus omega)|refine stp ?_|with_reducible apply Z01<;>intro h)
      conv=>whnf
      refine⟨k+1,hkt,by show x.exprs.length-(k+1)<x.exprs.length-k;omega,Y0c rfl ?_⟩
      refine Y01 (Y0a rfl) ?_
      refine Y01 (Y0a rfl) ?_
      refine Y01 (Y0a rfl) ?_
      refine Y01 (Y06 ?_) ?_
      ·rw[ht];first|omega|(split<;>omega)
      exact⟨Y06 rfl,trivial⟩
    · have e2:decide ((k:Int)<(x.exprs.length:Int))=false:=by simpa using hkt
      have hk2:k=x.exprs.length:=by have:=hk;omega
      subst hk2
      rw[Y0e]
      repeat' ((conv=>whnf);first|refine exI hx4 ?_|(with_reducible refine ixJ i rfl ?_ ?_;focus omega)|refine stp ?_|with_reducible apply Z01<;>intro h)
      conv=>whnf
      refine⟨i+1,hlt,by show l.length-(i+1)<l.length-i;omega,Y0c rfl ?_⟩
      refine Y01 (Y0a rfl) ?_
      refine Y01 (Y06 ?_) ?_
      ·rw[hs,hde];first|omega|(split<;>omega)
      exact⟨Y06 rfl,trivial⟩
  · have e1:decide ((i:Int)<(l.length:Int))=false:=by simpa using hlt
    have hi2:i=l.length:=by have:=hi;omega
    subst hi2
    rw[Y0e]
    repeat' ((conv=>whnf);first|refine stp ?_|with_reducible apply Z01<;>intro h)
    all_goals rfl
end
section
set_option maxHeartbeats 8000000
variable {gl:Z0l}
def isK(k:Int):Bool:=decide (1<=k/\k<=11)
def hX(k:Int):Int:=if isK k then Znl k else 0
def hT(k:Int):Bool:=isK k&&ZqT k
def Zb1(k:Int):AV:=.tuple [.agg [.bool (Zfk k),.bool (ZiB k),.bool (ZiA k),.int .i64 (hX k),.bool (hT k),.bool (ZiC k)],.bool (isK k)]
theorem ZmN(k:Int):ValOK Y00 gl 76 [.int .i64 k] (Zb1 k):=by
 by_cases hk:1<=k/\k<=11
 · have hop:k=1\/k=2\/k=3\/k=4\/k=5\/k=6\/k=7\/k=8\/k=9\/k=10\/k=11:=by omega
   rcases hop with rfl|rfl|rfl|rfl|rfl|rfl|rfl|rfl|rfl|rfl|rfl
   all_goals (refine Z0d follows Z05 Z0h Tryz.func76 rfl ?_)
   all_goals (repeat' ((conv=>whnf);first|refine stp ?_|with_reducible apply Z01<;>intro h))
   all_goals rfl
 · have e : Zb1 k = .tuple [.agg [.bool false, .bool false, .bool false, .int .i64 0, .bool false, .bool false], .bool false] := by
    have h1:isK k=false:=by unfold isK;simpa using λh=>by omega
    simp only[Zb1,hX,hT,h1,Bool.false_and,Bool.false_eq_true,if_false]
    unfold Zfk ZiB ZiA ZiC
    have:(k==1)=false/\(k==2)=false/\(k==4)=false/\(k==5)=false/\(k==6)=false/\(k==10)=false:=by simp only[beq_eq_false_iff_ne];omega
    obtain⟨a,b,c,d,e,f⟩:=this
    simp only[a,b,c,d,e,f,Bool.false_or]
    have g1:decide (2<=k/\k<=6)=false:=by simpa using λh=>by omega
    have g2:decide (2<=k/\k<=7)=false:=by simpa using λh=>by omega
    rw[g1,g2]
   rw[e]
   have n1:(k==1)=false:=by simp only[beq_eq_false_iff_ne];omega
   have n2:(k==2)=false:=by simp only[beq_eq_false_iff_ne];omega
   have n3:(k==3)=false:=by simp only[beq_eq_false_iff_ne];omega
   have n4:(k==4)=false:=by simp only[beq_eq_false_iff_ne];omega
   have n5:(k==5)=false:=by simp only[beq_eq_false_iff_ne];omega
   have n6:(k==6)=false:=by simp only[beq_eq_false_iff_ne];omega
   have n7:(k==7)=false:=by simp only[beq_eq_false_iff_ne];omega
   have n8:(k==8)=false:=by simp only[beq_eq_false_iff_ne];omega
   have n9:(k==9)=false:=by simp only[beq_eq_false_iff_ne];omega
   have n10:(k==10)=false:=by simp only[beq_eq_false_iff_ne];omega
   have n11:(k==11)=false:=by simp only[beq_eq_false_iff_ne];omega
   refine Z0d follows Z05 Z0h Tryz.func76 rfl ?_
   repeat' ((conv=>whnf);first|(with_reducible refine Zty ?_ ?_;(focus (assumption)))|refine stp ?_|with_reducible apply Z01<;>intro h)
   all_goals rfl
def ZsO(n lo o t e is:Bool)(x:Int)(name loc:List UInt8)(order:Int)(nx nt ne:Nat):Bool :=
 is&&((n==Z0Z name)&&((n || name==[])&&((lo==Z0Z loc)&&((lo || loc==[])&&(decide ((nx:Int)=x)&&((t || decide (nt=0))&&((e || decide (ne=0))&&(if o then decide (1<=order/\order<=6) else order==0))))))))
theorem ZoM(m:Bool)(s:List UInt8):isW m s=((m==Z0Z s)&&(m || s==[])):=by
 unfold isW
 cases m with
 |true=>simp
 |false =>
  by_cases h:s=[]
  ·subst h;rfl
  ·simp[h]
theorem Zqh(k:Int)(name loc:List UInt8)(order:Int)(nx nt ne:Nat):ZsO (Zfk k) (ZiB k) (ZiA k) (hT k) (ZiC k) (isK k) (hX k) name loc order nx nt ne=ZaA k name loc order nx nt ne:=by
 unfold ZsO ZaA
 rw[ZoM,ZoM]
 cases hk:isK k with
 |false=>unfold isK at hk;rw[hk];simp
 |true =>
  have h2:decide (1<=k/\k<=11)=true:=hk
  have h3:decide ((nx:Int)=(Znl k:Int))=decide (nx=Znl k):=by rw[decide_eq_decide];omega
  simp only[h2,hX,hT,hk,if_true,Y0j,h3]
  rw[Bool.eq_iff_iff]
  simp only[Y0n]
  constructor
  ·rintro⟨a,b,c,d,e,f,g,h⟩;exact⟨⟨a,b⟩,⟨c,d⟩,h,e,f,g⟩
  ·rintro⟨⟨a,b⟩,⟨c,d⟩,h,e,f,g⟩;exact⟨a,b,c,d,e,f,g,h⟩
theorem Z89:∀(l:List St)(i:Nat)(h:i<l.length),rightSL (l.take (i+1))=(rightSL (l.take i)&&Z2E l[i])
 |e::l,0,h=>by simp only[Y0d,Y09,rightSL,Y0g,Y0o,Y0j]
 |e::l,i+1,h=>by
  have:=Z89 l i (by simpa using h)
  simp only[Y0d,rightSL,Y0l]at this⊢;rw[this,Bool.and_assoc]
theorem Z9j:∀{l:List St}{i:Nat}(h:i<l.length),Z2E l[i]=false->rightSL l=false
 |e::l,0,h,h2=>by simp only[Y0g]at h2;simp only[rightSL,h2,Bool.false_and]
 |e::l,i+1,h,h2=>by simp only[Y0l]at h2;simp only[rightSL,Z9j (l:=l) (by simpa using h) h2,Y0u]
end
section
set_option maxHeartbeats 8000000
variable {gl:Z0l}
theorem Zdm:∀(n:Nat)(l:List St),sizeSL l<=n->okSL l->sizeSL l<=1048576->ValOK Y00 gl 40 [stA l] (.bool (rightSL l))
 |n,l,h,hok,hb=>by
  obtain⟨O,hO,p1,p2,p3,p4,-⟩:=fams (P:=Y00) (gl:=gl) [Zny (g:=40) (by kernel_rfl) (λx=>.bool (rightSL x)) (λx=>sizeSL x<n/\okSL x/\sizeSL x<=1048576) (λx hx=>match n,hx with|n+1,hx=>Zdm n x (by omega) hx.2.1 hx.2.2),
   famX (g:=52) (by kernel_rfl) (λk=>.bool (Z0p k)) okE (λk hk=>Zc0 _ k (Y0i _) hk),
   { I:=Int,f:=76,G:=λ_=>True,A:=λk=>[.int .i64 k],R:=Zb1,body:=(by kernel_rfl),inj:=(λi j _ _ h=>by simp only[List.cons.injEq,AV.int.injEq,true_and,and_true]at h;rw[h]),ok:=(λk _=>⟨rfl,ZmN k⟩) },
   { I:=List UInt8,f:=39,G:=λs=>s.length<=9223372036854775807,A:=λs=>[.str s],R:=λs=>.bool (Z0Z s),body:=(by kernel_rfl),inj:=(λi j _ _ h=>by simp only[List.cons.injEq,AV.str.injEq,and_true]at h;rw[h]),ok:=(λs hs=>⟨rfl,Z7q s hs⟩) }] rfl
  have q1:∀x,sizeSL x<n/\okSL x/\sizeSL x<=1048576->∀H,Z03 Y00 O H 40 [stA x]=some (.bool (rightSL x),H):=p1
  have q2:∀k,okE k->∀H,Z03 Y00 O H 52 [.agg k.cells]=some (.bool (Z0p k),H):=p2
  have q3:∀k H,Z03 Y00 O H 76 [.int .i64 k]=some (Zb1 k,H):=λk=>p3 k trivial
  have q4:∀s,s.length<=9223372036854775807->∀H,Z03 Y00 O H 39 [.str s]=some (.bool (Z0Z s),H):=p4
  clear p1 p2 p3 p4
  have hlen:=Z5v l
  simp only[stA]at q1⊢
  refine Z0d follows Z05 hO Tryz.func40 rfl ?_
  repeat' ((conv=>whnf);first|refine stp ?_|with_reducible apply Z01<;>intro h)
  conv=>whnf
  refine⟨Nat,(λi=>i<=l.length/\rightSL (l.take i)=true),(λi=>[(0,.rs l.length 7 (stC l)),(3,.int .i64 i)]),(λ_=>[]),(λi=>l.length-i),⟨0,⟨Y0b _,by simp only[Y09,rightSL]⟩,Y0c rfl ?_⟩,?_⟩
  ·exact wks
  rintro i ⟨hi,hall⟩
  dsimp only
  by_cases hlt:i<l.length
  · have e1:decide ((i:Int)<(l.length:Int))=true:=by simpa using hlt
    have hg:=Z5w l i hlt
    have hse:=Z3o l[i]
    have hat:=Z89 l i hlt
    have hfalse:Z2E l[i]=false->rightSL l=false:=Z9j hlt
    have hx:=st7 l i hlt
    obtain⟨k1,k2,k3,k4,k5,k6,k7,k8⟩:=Z3R (Z2O hok _ (Z0i hlt))
    have qt:=q1 l[i].thn ⟨by omega,k7,by omega⟩
    have qe:=q1 l[i].els ⟨by omega,k8,by omega⟩
    have hr:=Zjn l[i]
    have ho:Zov l[i]=ZsO (Zfk l[i].kind) (ZiB l[i].kind) (ZiA l[i].kind) (hT l[i].kind) (ZiC l[i].kind) (isK l[i].kind) (hX l[i].kind) l[i].name l[i].loc l[i].order l[i].exprs.length l[i].thn.length l[i].els.length:=by
     rw[Zqh];rfl
    rw[hall,Y0j]at hat
    have hxs:=Z30 l[i].exprs
    have hbx:sizeL l[i].exprs<=1048576:=by omega
    generalize l[i]=x at *
    obtain⟨kind,name,loc,order,exprs,thn,els⟩:=x
    simp only[St.kind,St.name,St.loc,St.order,St.exprs,St.thn,St.els,St.cells,exA]at *
    have qn:=q4 name k1
    have ql:=q4 loc k2
    have qp:=q3 kind
    simp only[Zb1]at qp
    clear q1 q3 q4 hse hg
    obtain⟨w1,hw1⟩:∃w,Z0Z name=w:=⟨_,rfl⟩
    obtain⟨w2,hw2⟩:∃w,Z0Z loc=w:=⟨_,rfl⟩
    rw[hw1]at qn
    rw[hw2]at ql
    cases hk:isK kind with
    |false =>
     have ho2:Zov (.mk kind name loc order exprs thn els)=false:=by rw[ho];simp[ZsO,hk]
     rw[hfalse (by rw[hr,ho2];rfl)]
     rw[hk]at qp
     clear hr ho hat hfalse
     repeat' ((conv=>whnf);first|refine exI hx ?_|refine exI (qp _) ?_|(with_reducible refine ixJ i rfl ?_ ?_;focus omega)|refine stp ?_|with_reducible apply Z01<;>intro h)
     all_goals rfl
    |true =>
     have hop:kind=1\/kind=2\/kind=3\/kind=4\/kind=5\/kind=6\/kind=7\/kind=8\/kind=9\/kind=10\/kind=11:=by
      unfold isK at hk;simp only[decide_eq_true_eq]at hk;omega
     rw[hk]at qp ho
     clear hk
     simp only[ZsO,hw1,hw2,Y0j]at ho
     cases hown:((Zfk kind==w1)&&((Zfk kind || name==[])&&((ZiB kind==w2)&&((ZiB kind || loc==[])&&(decide ((exprs.length:Int)=hX kind)&&((hT kind || decide (thn.length=0))&&((ZiC kind || decide (els.length=0))&&(if ZiA kind then decide (1<=order/\order<=6) else order==0)))))))) with
     |false =>
      rw[hown]at ho
      rw[hfalse (by rw[hr,ho];rfl)]
      clear hr ho hat hfalse hw1 hw2
      rcases hop with rfl|rfl|rfl|rfl|rfl|rfl|rfl|rfl|rfl|rfl|rfl
      all_goals (as_aux_lemma=>(
       repeat' ((conv=>whnf);first|with_reducible refine exI (qp _) ?_|with_reducible refine exI (qn _) ?_|with_reducible refine exI (ql _) ?_|(with_reducible refine ixJ i rfl ?_ ?_;focus omega)|refine exI hx ?_|refine stp ?_|with_reducible apply Z01<;>intro h)
       all_goals (first|rfl|(exfalso;clear qp qn ql qt qe q2 hO hx;simp_all[Zfk,ZiB,ZiA,hX,Znl,hT,ZqT,ZiC,isK];done)|(exfalso;clear qp qn ql qt qe q2 hO hx;simp_all[Zfk,ZiB,ZiA,hX,Znl,hT,ZqT,ZiC,isK];omega))))
     |true =>
      rw[hown]at ho
      rw[ho,Y0j]at hr
      simp only[Y0n,beq_iff_eq,Y0w,decide_eq_true_eq]at hown
      obtain⟨f1,f2,f3,f4,f5,f6,f7,f8⟩:=hown
      have g5:((exprs.length:Int) != hX kind)=false:=by rw[f5];simp
      have g6:hT kind=false->decide ((thn.length:Int)>0)=false:=λh=>by rw[h]at f6;simpa using f6
      have g7:ZiC kind=false->decide ((els.length:Int)>0)=false:=λh=>by rw[h]at f7;simpa using f7
      have g8:ZiA kind=true->decide (order<1)=false/\decide (order>6)=false:=λh=>by rw[h]at f8;simp at f8⊢;omega
      have g9:ZiA kind=false->(order != 0)=false:=λh=>by rw[h]at f8;simpa using f8
      have f2':Zfk kind=false->name=[]:=λh=>by rw[h]at f2;simpa using f2
      have f4':ZiB kind=false->loc=[]:=λh=>by rw[h]at f4;simpa using f4
      subst f1;subst f3
      have hle:=Z30 exprs
      have hf2:=hfalse
      clear f2 f4 f5 f6 f7 f8 hw1 hw2 ho hfalse
      rcases hop with rfl|rfl|rfl|rfl|rfl|rfl|rfl|rfl|rfl|rfl|rfl
      all_goals (try (obtain rfl:=f2' rfl))
      all_goals (try (obtain rfl:=f4' rfl))
      all_goals (try (replace g6:=g6 rfl))
      all_goals (try (replace g7:=g7 rfl))
      all_goals (try (obtain⟨g81,g82⟩:=g8 rfl))
      all_goals (try (replace g9:=g9 rfl))
      all_goals (generalize rightSL thn=rt at *;generalize rightSL els=re at *)
      all_goals (as_aux_lemma=>(
       repeat' ((conv=>whnf);first|with_reducible refine exI (qp _) ?_|with_reducible refine exI (qn _) ?_|with_reducible refine exI (ql _) ?_|with_reducible refine exI (qt _) ?_|with_reducible refine exI (qe _) ?_|(with_reducible refine ixJ i rfl ?_ ?_;focus omega)|refine exI hx ?_|refine stp ?_|with_reducible apply Z01<;>intro h)
       all_goals (first|(rw[hf2 (by rw[hr,show rt=false from by simpa using ‹(!rt)=true›];simp)];rfl)|(rw[hf2 (by rw[hr,show re=false from by simpa using ‹(!re)=true›];simp)];rfl)|skip)
       all_goals (rw[show rt=true from by simpa using ‹(!rt)=false›,show re=true from by simpa using ‹(!re)=false›,Y0o,Y0o]at hr)
       all_goals (conv=>whnf)
       all_goals (refine⟨Nat,(λk=>k<=exprs.length/\rightL (exprs.take k)=true),(λk=>[(0,.rs l.length 7 (stC l)),(3,.int .i64 i),(4,.ptr 0 0),(7,.int .i64 k)]),(λ_=>[⟨true,0,0,.cells [.int .i64 _,.str _,.str _,.int .i64 order,.rs exprs.length 4 (exC exprs),.rs thn.length 7 (stC thn),.rs els.length 7 (stC els)] 49⟩]),(λk=>exprs.length-k),⟨0,⟨Y0b _,by simp only[Y09,rightL]⟩,Y0f [0] rfl ?_ ⟨hbp,trivial⟩ rfl⟩,?_⟩)
       all_goals (first|((repeat (first|exact trivial|refine stw ?_));done)|skip)
       all_goals (
        rintro k ⟨hk,hkall⟩
        dsimp only
        by_cases hkt:k<exprs.length
        · have e2:decide ((k:Int)<(exprs.length:Int))=true:=by simpa using hkt
          have hy:=ex4 exprs k hkt
          have htk:=Z67 exprs k hkt
          have hgf:=λh=>Z7z (l:=exprs) hkt h
          rw[hkall,Y0j]at htk
          have qk:=q2 exprs[k] (Z4i k6 _ (Z0i hkt))
          cases hrk:Z0p exprs[k] with
          |true =>
           rw[hrk]at qk htk
           generalize exprs[k]=y at *
           repeat' ((conv=>whnf);first|with_reducible refine exI (qk _) ?_|(with_reducible refine ixJ k rfl ?_ ?_;focus omega)|refine exI hy ?_|refine stp ?_|with_reducible apply Z01<;>intro h)
           conv=>whnf
           refine⟨k+1,⟨hkt,htk⟩,by show exprs.length-(k+1)<exprs.length-k;omega,Y0f [0] rfl ?_ ⟨hbp,trivial⟩ rfl⟩
           exact wks
          |false =>
           have hfx:=hgf hrk
           rw[hrk]at qk
           rw[hf2 (by rw[hr,hfx])]
           generalize exprs[k]=y at *
           repeat' ((conv=>whnf);first|with_reducible refine exI (qk _) ?_|(with_reducible refine ixJ k rfl ?_ ?_;focus omega)|refine exI hy ?_|refine stp ?_|with_reducible apply Z01<;>intro h)
           all_goals rfl
        · have e2:decide ((k:Int)<(exprs.length:Int))=false:=by simpa using hkt
          have hk2:k=exprs.length:=by have:=hk;omega
          subst hk2
          rw[Y0e]at hkall
          rw[hkall]at hr
          repeat' ((conv=>whnf);first|(with_reducible refine ixJ i rfl ?_ ?_;focus omega)|refine stp ?_|with_reducible apply Z01<;>intro h)
          conv=>whnf
          refine⟨i+1,⟨hlt,by rw[hat,hr]⟩,by show l.length-(i+1)<l.length-i;omega,Y0c rfl ?_⟩
          exact wks)))
  · have e1:decide ((i:Int)<(l.length:Int))=false:=by simpa using hlt
    have hi2:i=l.length:=by have:=hi;omega
    subst hi2
    rw[Y0e]at hall
    rw[hall]
    repeat' ((conv=>whnf);first|refine stp ?_|with_reducible apply Z01<;>intro h)
    all_goals rfl
end
section
variable {gl:Z0l}
def dcB(d:Dc):Bool:=Z0Z d.name&&decide (0<=d.val)
def Z17:List (List St)->Bool
 |[]=>true
 |l::t=>rightSL l&&Z17 t
def Z0y(p:Pr):Int:=if 2000<Z0x p.threads\/32<Z11 p.threads then 3 else if p.decls.all dcB&&Z17 p.threads then 0 else 2
theorem Z4R:∀(l:List (List St))(i:Nat)(h:i<l.length),Z17 (l.take (i+1))=(Z17 (l.take i)&&rightSL l[i])
 |e::l,0,h=>by simp only[Y0d,Y09,Z17,Y0g,Y0o,Y0j]
 |e::l,i+1,h=>by
  have:=Z4R l i (by simpa using h)
  simp only[Y0d,Z17,Y0l]at this⊢;rw[this,Bool.and_assoc]
theorem Z66:∀{l:List (List St)}{i:Nat}(h:i<l.length),rightSL l[i]=false->Z17 l=false
 |e::l,0,h,h2=>by simp only[Y0g]at h2;simp only[Z17,h2,Bool.false_and]
 |e::l,i+1,h,h2=>by simp only[Y0l]at h2;simp only[Z17,Z66 (l:=l) (by simpa using h) h2,Y0u]
theorem ZcM{α : Type}(f : α -> Bool):∀(l:List α)(i:Nat)(h:i<l.length),(l.take (i+1)).all f=((l.take i).all f&&f l[i])
 |e::l,0,h=>by simp
 |e::l,i+1,h=>by
  have:=ZcM f l i (by simpa using h)
  simp only[Y0d,List.all_cons,Y0l]at this⊢;rw[this,Bool.and_assoc]
theorem ZlG{α : Type}(f : α -> Bool){l:List α}{i:Nat}(h:i<l.length)(h2:f l[i]=false):l.all f=false:=by
 rw[List.all_eq_false];exact⟨_,Z0i h,by simp[h2]⟩
def famTL{g:Nat}(hb:Z09 Y00 g=true)(r:List St->AV)(ts:List (List St))(each:∀x∈ts,ValOK Y00 gl g [stA x] (r x)):Fam Y00 gl:=Zny hb r (λx=>x∈ts) each
theorem Za9:∀(t:List (List St)),Z11 t<=Z0x t
 |[]=>Y0i _
 |e::t=>by have:=deepSL_size e;have:=Za9 t;simp only[Z11,Z0x];omega
theorem Zjh(p:Pr)(hl:p.threads.length<=9223372036854775807)(hs:Z0x p.threads<=1048576):ValOK Y00 gl 37 [p.av] (.int .i64 (Z0x p.threads)):=by
 obtain⟨ds,ts⟩:=p
 simp only[Pr.av]at *
 obtain⟨O,hO,p1,-⟩:=fams (P:=Y00) (gl:=gl) [famTL (g:=73) (by kernel_rfl) (λx=>.int .i64 (sizeSL x)) ts (λx hx=>Zdj _ x (Y0i _) (by have:=Z2U _ _ hx;omega))] rfl
 have q1:∀x∈ts,∀H,Z03 Y00 O H 73 [stA x]=some (.int .i64 (sizeSL x),H):=p1
 clear p1
 refine Z0d follows Z05 hO Tryz.func37 rfl ?_
 repeat' ((conv=>whnf);first|refine stp ?_|with_reducible apply Z01<;>intro h)
 conv=>whnf
 refine⟨Nat,(λi=>i<=ts.length),(λi=>[(1,.ptr 0 0),(3,.int .i64 (Z0x (ts.take i):Nat)),(4,.int .i64 i)]),(λ_=>[⟨true,0,0,.cells [.rs ds.length 3 (dcC ds),.rs ts.length 1 (ts.map stA)] 25⟩]),(λi=>ts.length-i),⟨0,Y0b _,Y0f [0] rfl ?_ ⟨hbp,trivial⟩ rfl⟩,?_⟩
 ·simp only[Y09,Z0x];exact wks
 intro i hi
 dsimp only
 by_cases hlt:i<ts.length
 · have e1:decide ((i:Int)<(ts.length:Int))=true:=by simpa using hlt
   have hst:=Z9h ts i hlt
   have hle:=Zdk ts i hlt
   have hx:=th1 ts i hlt
   have q2:=q1 ts[i] (Z0i hlt)
   generalize ts[i]=l at *
   simp only[stA]at hx q2
   repeat' ((conv=>whnf);first|with_reducible refine exI (q2 _) ?_|(with_reducible refine ixJ i rfl ?_ ?_;focus omega)|refine exI hx ?_|refine stp ?_|with_reducible apply Z01<;>intro h)
   conv=>whnf
   refine⟨i+1,hlt,by show ts.length-(i+1)<ts.length-i;omega,Y0f [0] rfl ?_ ⟨hbp,trivial⟩ rfl⟩
   rw[hst];exact wks
 · have e1:decide ((i:Int)<(ts.length:Int))=false:=by simpa using hlt
   have hi2:i=ts.length:=by have:=hi;omega
   subst hi2
   rw[Y0e]
   repeat' ((conv=>whnf);first|refine stp ?_|with_reducible apply Z01<;>intro h)
   all_goals rfl
theorem ZkI(p:Pr)(hl:p.threads.length<=9223372036854775807)(hs:Z0x p.threads<=1048576):ValOK Y00 gl 38 [p.av] (.int .i64 (Z11 p.threads)):=by
 obtain⟨ds,ts⟩:=p
 simp only[Pr.av]at *
 obtain⟨O,hO,p1,-⟩:=fams (P:=Y00) (gl:=gl) [famTL (g:=74) (by kernel_rfl) (λx=>.int .i64 (deepSL x)) ts (λx hx=>Ze1 _ x (Y0i _) (by have:=Z2U _ _ hx;omega))] rfl
 have q1:∀x∈ts,∀H,Z03 Y00 O H 74 [stA x]=some (.int .i64 (deepSL x),H):=p1
 clear p1
 refine Z0d follows Z05 hO Tryz.func38 rfl ?_
 repeat' ((conv=>whnf);first|refine stp ?_|with_reducible apply Z01<;>intro h)
 conv=>whnf
 refine⟨Nat,(λi=>i<=ts.length),(λi=>[(1,.ptr 0 0),(3,.int .i64 (Z11 (ts.take i):Nat)),(4,.int .i64 i)]),(λ_=>[⟨true,0,0,.cells [.rs ds.length 3 (dcC ds),.rs ts.length 1 (ts.map stA)] 25⟩]),(λi=>ts.length-i),⟨0,Y0b _,Y0f [0] rfl ?_ ⟨hbp,trivial⟩ rfl⟩,?_⟩
 ·simp only[Y09,Z11];exact wks
 intro i hi
 dsimp only
 by_cases hlt:i<ts.length
 · have e1:decide ((i:Int)<(ts.length:Int))=true:=by simpa using hlt
   have hst:=Za8 ts i hlt
   have hx:=th1 ts i hlt
   have q2:=q1 ts[i] (Z0i hlt)
   generalize ts[i]=l at *
   simp only[stA]at hx q2
   repeat' ((conv=>whnf);first|with_reducible refine exI (q2 _) ?_|(with_reducible refine ixJ i rfl ?_ ?_;focus omega)|refine exI hx ?_|refine stp ?_|with_reducible apply Z01<;>intro h)
   conv=>whnf
   refine⟨i+1,hlt,by show ts.length-(i+1)<ts.length-i;omega,Y0f [0] rfl ?_ ⟨hbp,trivial⟩ rfl⟩
   refine Y01 (Y05 rfl rfl) ?_
   refine Y01 (Y06 ?_) ?_
   ·rw[hst];split<;>omega
   exact⟨Y06 rfl,trivial⟩
 · have e1:decide ((i:Int)<(ts.length:Int))=false:=by simpa using hlt
   have hi2:i=ts.length:=by have:=hi;omega
   subst hi2
   rw[Y0e]
   repeat' ((conv=>whnf);first|refine stp ?_|with_reducible apply Z01<;>intro h)
   all_goals rfl
theorem Z5F(p:Pr)(hok:okP p)(hs:Z0x p.threads<=1048576):ValOK Y00 gl 10 [p.av] (.int .i64 (Z0y p)):=by
 obtain⟨⟨hd1,hd2⟩,ht1,ht2⟩:=hok
 have hdp:=Za9 p.threads
 obtain⟨O,hO,p1,p2,p3,p4,-⟩:=fams (P:=Y00) (gl:=gl) [{ I:=Unit,f:=37,G:=λ_=>True,A:=λ_=>[p.av],R:=λ_=>.int .i64 (Z0x p.threads),body:=(by kernel_rfl),inj:=(λ_ _ _ _ _=>rfl),ok:=(λ_ _=>⟨rfl,Zjh p ht2 hs⟩) },
  { I:=Unit,f:=38,G:=λ_=>True,A:=λ_=>[p.av],R:=λ_=>.int .i64 (Z11 p.threads),body:=(by kernel_rfl),inj:=(λ_ _ _ _ _=>rfl),ok:=(λ_ _=>⟨rfl,ZkI p ht2 hs⟩) },
  famTL (g:=40) (by kernel_rfl) (λx=>.bool (rightSL x)) p.threads (λx hx=>Zdm _ x (Y0i _) (Z2N ht1 _ hx).1 (by have:=Z2U _ _ hx;omega)),
  { I:=List UInt8,f:=39,G:=λs=>s.length<=9223372036854775807,A:=λs=>[.str s],R:=λs=>.bool (Z0Z s),body:=(by kernel_rfl),inj:=(λi j _ _ h=>by simp only[List.cons.injEq,AV.str.injEq,and_true]at h;rw[h]),ok:=(λs hs=>⟨rfl,Z7q s hs⟩) }] rfl
 have q1:∀H,Z03 Y00 O H 37 [p.av]=some (.int .i64 (Z0x p.threads),H):=p1 () trivial
 have q2:∀H,Z03 Y00 O H 38 [p.av]=some (.int .i64 (Z11 p.threads),H):=p2 () trivial
 have q3:∀x∈p.threads,∀H,Z03 Y00 O H 40 [stA x]=some (.bool (rightSL x),H):=p3
 have q4:∀s,s.length<=9223372036854775807->∀H,Z03 Y00 O H 39 [.str s]=some (.bool (Z0Z s),H):=p4
 clear p1 p2 p3 p4
 unfold Z0y
 obtain⟨ds,ts⟩:=p
 simp only[Pr.av]at *
 generalize Z0x ts=sz at *
 generalize Z11 ts=dp at *
 refine Z0d follows Z05 hO Tryz.func10 rfl ?_
 by_cases hlong:2000<sz\/32<dp
 · rw[if_pos hlong]
   by_cases h1:2000<sz
   · have e1:decide ((sz:Int)>2000)=true:=by simp only[decide_eq_true_eq];omega
     repeat' ((conv=>whnf);first|with_reducible refine exI (q1 _) ?_|with_reducible refine exI (q2 _) ?_|refine stp ?_|with_reducible apply Z01<;>intro h)
     all_goals rfl
   · have e1:decide ((sz:Int)>2000)=false:=by simp only[decide_eq_false_iff_not];omega
     have e2:decide ((dp:Int)>32)=true:=by simp only[decide_eq_true_eq];omega
     repeat' ((conv=>whnf);first|with_reducible refine exI (q1 _) ?_|with_reducible refine exI (q2 _) ?_|refine stp ?_|with_reducible apply Z01<;>intro h)
     all_goals rfl
 rw[if_neg hlong]
 have e1:decide ((sz:Int)>2000)=false:=by simp only[decide_eq_false_iff_not];omega
 have e2:decide ((dp:Int)>32)=false:=by simp only[decide_eq_false_iff_not];omega
 repeat' ((conv=>whnf);first|with_reducible refine exI (q1 _) ?_|with_reducible refine exI (q2 _) ?_|refine stp ?_|with_reducible apply Z01<;>intro h)
 conv=>whnf
 refine⟨Nat,(λi=>i<=ds.length/\(ds.take i).all dcB=true),(λi=>[(1,.ptr 0 0),(3,.int .i64 i)]),(λ_=>[⟨true,0,0,.cells [.rs ds.length 3 (dcC ds),.rs ts.length 1 (ts.map stA)] 25⟩]),(λi=>ds.length-i),⟨0,⟨Y0b _,rfl⟩,Y0f [0] rfl ?_ ⟨hbp,trivial⟩ rfl⟩,?_⟩
 ·exact wks
 rintro i ⟨hi,hall⟩
 dsimp only
 by_cases hlt:i<ds.length
 · have e1:decide ((i:Int)<(ds.length:Int))=true:=by simpa using hlt
   have hat:=ZcM dcB ds i hlt
   rw[hall,Y0j]at hat
   have hfalse:dcB ds[i]=false->ds.all dcB=false:=ZlG dcB hlt
   have hxn:=dcn ds i hlt
   have hxv:=dcv ds i hlt
   have qn:=q4 ds[i].name (hd2 _ (Z0i hlt))
   generalize hd:ds[i]=d at *
   obtain⟨nm,pl,vl⟩:=d
   simp only[dcB]at hat hfalse hxn hxv qn
   generalize Z0Z nm=w at *
   by_cases hv:0<=vl
   · have e3:decide (vl<0)=false:=by simpa using hv
     rw[show decide (0<=vl)=true from by simpa using hv,Y0o]at hat hfalse
     cases w with
     |true =>
      repeat' ((conv=>whnf);first|with_reducible refine exI (qn _) ?_|(with_reducible refine ixJ i rfl ?_ ?_;focus omega)|refine exI hxn ?_|refine exI hxv ?_|refine stp ?_|with_reducible apply Z01<;>intro h)
      conv=>whnf
      refine⟨i+1,⟨hlt,hat⟩,by show ds.length-(i+1)<ds.length-i;omega,Y0f [0] rfl ?_ ⟨hbp,trivial⟩ rfl⟩
      exact wks
     |false =>
      rw[hfalse rfl]
      repeat' ((conv=>whnf);first|with_reducible refine exI (qn _) ?_|(with_reducible refine ixJ i rfl ?_ ?_;focus omega)|refine exI hxn ?_|refine exI hxv ?_|refine stp ?_|with_reducible apply Z01<;>intro h)
      all_goals rfl
   · have e3:decide (vl<0)=true:=by simp only[decide_eq_true_eq];omega
     rw[show decide (0<=vl)=false from by simpa using hv,Y0u]at hat hfalse
     rw[hfalse rfl]
     cases w
     all_goals (repeat' ((conv=>whnf);first|with_reducible refine exI (qn _) ?_|(with_reducible refine ixJ i rfl ?_ ?_;focus omega)|refine exI hxn ?_|refine exI hxv ?_|refine stp ?_|with_reducible apply Z01<;>intro h))
     all_goals rfl
 · have e1:decide ((i:Int)<(ds.length:Int))=false:=by simpa using hlt
   have hi2:i=ds.length:=by have:=hi;omega
   subst hi2
   rw[Y0e]at hall
   rw[hall,Y0j]
   repeat' ((conv=>whnf);first|refine stp ?_|with_reducible apply Z01<;>intro h)
   conv=>whnf
   refine⟨Nat,(λi=>i<=ts.length/\Z17 (ts.take i)=true),(λi=>[(1,.ptr 0 0),(4,.int .i64 i)]),(λ_=>[⟨true,0,0,.cells [.rs ds.length 3 (dcC ds),.rs ts.length 1 (ts.map stA)] 25⟩]),(λi=>ts.length-i),⟨0,⟨Y0b _,rfl⟩,Y0f [0] rfl ?_ ⟨hbp,trivial⟩ rfl⟩,?_⟩
   ·exact wks
   rintro i ⟨hi,hrl⟩
   dsimp only
   by_cases hlt:i<ts.length
   · have e1:decide ((i:Int)<(ts.length:Int))=true:=by simpa using hlt
     have hat:=Z4R ts i hlt
     rw[hrl,Y0j]at hat
     have hfalse:rightSL ts[i]=false->Z17 ts=false:=Z66 hlt
     have hx:=th1 ts i hlt
     have qr:=q3 ts[i] (Z0i hlt)
     generalize ts[i]=l at *
     simp only[stA]at hx qr
     cases hr:rightSL l with
     |true =>
      rw[hr]at hat qr
      repeat' ((conv=>whnf);first|with_reducible refine exI (qr _) ?_|(with_reducible refine ixJ i rfl ?_ ?_;focus omega)|refine exI hx ?_|refine stp ?_|with_reducible apply Z01<;>intro h)
      conv=>whnf
      refine⟨i+1,⟨hlt,hat⟩,by show ts.length-(i+1)<ts.length-i;omega,Y0f [0] rfl ?_ ⟨hbp,trivial⟩ rfl⟩
      exact wks
     |false =>
      rw[hr]at qr
      rw[hfalse hr]
      repeat' ((conv=>whnf);first|with_reducible refine exI (qr _) ?_|(with_reducible refine ixJ i rfl ?_ ?_;focus omega)|refine exI hx ?_|refine stp ?_|with_reducible apply Z01<;>intro h)
      all_goals rfl
   · have e1:decide ((i:Int)<(ts.length:Int))=false:=by simpa using hlt
     have hi2:i=ts.length:=by have:=hi;omega
     subst hi2
     rw[Y0e]at hrl
     rw[hrl]
     repeat' ((conv=>whnf);first|refine stp ?_|with_reducible apply Z01<;>intro h)
     all_goals rfl
end
section
variable {gl:Z0l}
def ifp(l:Int)(f:Int->Int):Int:=if 0<=l then f l else l
mutual
def Z55:St->Int->Int
 | .mk _ n lc _ x t e,l=>ifp (ifp (heftL x (l-1-(n.length / 20:Nat)-(lc.length / 20:Nat))) (heftSL t)) (heftSL e)
def heftSL:List St->Int->Int
 |[],l=>l
 |x::k,l=>if 0<=l then heftSL k (Z55 x l) else l
end
theorem Zni:∀(x:St)(l:Int),Z55 x l=ifp (ifp (heftL x.exprs (l-1-(x.name.length / 20:Nat)-(x.loc.length / 20:Nat))) (heftSL x.thn)) (heftSL x.els)
 | .mk _ _ _ _ _ _ _,l=>by simp only[Z55,St.exprs,St.name,St.loc,St.thn,St.els]
mutual
theorem Zi8:∀(x:St)(l:Int),0<=Z55 x l->(Z2g x:Int)+Z55 x l<=l
 | .mk _ n lc _ x t e,l,h=>by
  simp only[Z55,Z2g,ifp]at *
  generalize hl1:l-1-((n.length / 20:Nat):Int)-((lc.length / 20:Nat):Int)=l1 at *
  have hx:=heftL_size x l1
  have ht:=heftSL_size t (heftL x l1)
  by_cases h1:0<=heftL x l1
  · simp only[if_pos h1]at *
    have he:=heftSL_size e (heftSL t (heftL x l1))
    by_cases h2:0<=heftSL t (heftL x l1)
    · simp only[if_pos h2]at *
      have:=hx h1;have:=ht h2;have:=he h;omega
    ·simp only[if_neg h2]at *;omega
  ·simp only[if_neg h1]at *;omega
theorem heftSL_size:∀(k:List St)(l:Int),0<=heftSL k l->(sizeSL k:Int)+heftSL k l<=l
 |[],l,h=>by simp only[heftSL,sizeSL]at *;omega
 |x::k,l,h=>by
  simp only[heftSL,sizeSL]at *
  split at h
  · rename_i hl
    rw[if_pos hl]
    have h1:=heftSL_size k _ h
    have h2:0<=Z55 x l:=by omega
    have h3:=Zi8 x l h2
    omega
  ·omega
end
theorem ZoP{l:Int}{f:Int->Int}(h:∀m,f m<=m):ifp l f<=l:=by
 unfold ifp;split
 ·exact h l
 ·exact Int.le_refl _
mutual
theorem Znh:∀(x:St)(l:Int),Z55 x l<=l
 | .mk _ n lc _ x t e,l=>by
  simp only[Z55]
  have h1:=heftL_le x (l-1-((n.length / 20:Nat):Int)-((lc.length / 20:Nat):Int))
  have h2:=ZoP (l:=heftL x (l-1-((n.length / 20:Nat):Int)-((lc.length / 20:Nat):Int))) (heftSL_le t)
  have h3:=ZoP (l:=ifp (heftL x (l-1-((n.length / 20:Nat):Int)-((lc.length / 20:Nat):Int))) (heftSL t)) (heftSL_le e)
  omega
theorem heftSL_le:∀(k:List St)(l:Int),heftSL k l<=l
 |[],l=>by simp only[heftSL];omega
 |x::k,l=>by
  simp only[heftSL]
  split
  ·have:=heftSL_le k (Z55 x l);have:=Znh x l;omega
  ·omega
end
theorem ZdG:∀(k:List St)(l:Int)(i:Nat)(h:i<k.length),heftSL (k.take (i+1)) l=if 0<=heftSL (k.take i) l then Z55 k[i] (heftSL (k.take i) l) else heftSL (k.take i) l
 |e::k,l,0,h=>by simp only[Y0d,Y09,heftSL,Y0g]
 |e::k,l,i+1,h=>by
  have ih:=λl=>ZdG k l i (by simpa using h)
  simp only[Y0d,heftSL,Y0l]at ih⊢
  split
  ·exact ih _
  ·rename_i h2;simp[h2]
theorem Z9P:∀(k:List St)(l:Int)(i:Nat),heftSL (k.take i) l<0->heftSL k l=heftSL (k.take i) l
 |[],l,i,h=>by simp[heftSL]
 |e::k,l,0,h=>by
  simp only[Y09,heftSL]at *
  rw[if_neg (by omega)]
 |e::k,l,i+1,h=>by
  simp only[Y0d,heftSL]at *
  split
  · rename_i hl
    rw[if_pos hl]at h
    exact Z9P k _ i h
  ·rfl
theorem ZtF(s:St)(rest:List AV):tk 1 ((s.cells++rest).drop 2)=some [.str s.loc]:=by
 obtain⟨k,n,l,o,x,t,e⟩:=s
 simp only[St.cells,St.loc];rfl
theorem ZgJ:∀(n:Nat)(l:List St)(a:Int),sizeSL l<=n->okSL l->l.length<=9223372036854775807->0<=a->a<=1048576->ValOK Y00 gl 30 [stA l,.int .i64 a] (.int .i64 (heftSL l a))
 |n,l,a,h,hok,hl,ha0,ha1=>by
  obtain⟨O,hO,p1,p2,-⟩:=fams (P:=Y00) (gl:=gl) [{ I:=List St×Int,f:=30,G:=λp=>sizeSL p.1<n/\okSL p.1/\p.1.length<=9223372036854775807/\0<=p.2/\p.2<=1048576,A:=λp=>[stA p.1,.int .i64 p.2],R:=λp=>.int .i64 (heftSL p.1 p.2),body:=(by kernel_rfl),inj:=(λi j _ _ h=>by simp only[List.cons.injEq,AV.int.injEq,and_true,true_and]at h;rw[Z4a h.1,h.2]),ok:=(λp hp=>⟨rfl,match n,hp.1 with|n+1,h=>ZgJ n p.1 p.2 (by omega) hp.2.1 hp.2.2.1 hp.2.2.2.1 hp.2.2.2.2⟩) },
   { I:=Ex×Int,f:=31,G:=λp=>okE p.1/\0<=p.2/\p.2<=1048576,A:=λp=>[.agg p.1.cells,.int .i64 p.2],R:=λp=>.int .i64 (Z1y p.1 p.2),body:=(by kernel_rfl),inj:=(λi j _ _ h=>by simp only[List.cons.injEq,AV.agg.injEq,AV.int.injEq,and_true,true_and]at h;rw[Z3W _ _ h.1,h.2]),ok:=(λp hp=>⟨by have:=Z4q p.1;simpa[refsL,Z1m]using this,Zfj _ p.1 p.2 (Y0i _) hp.1 hp.2.1 hp.2.2⟩) }] rfl
  have q1:∀x a,sizeSL x<n->okSL x->x.length<=9223372036854775807->0<=a->a<=1048576->∀H,Z03 Y00 O H 30 [stA x,.int .i64 a]=some (.int .i64 (heftSL x a),H):=λx a h1 h2 h3 h4 h5=>p1 (x,a) ⟨h1,h2,h3,h4,h5⟩
  have q2:∀k a,okE k->0<=a->a<=1048576->∀H,Z03 Y00 O H 31 [.agg k.cells,.int .i64 a]=some (.int .i64 (Z1y k a),H):=λk a h1 h2 h3=>p2 (k,a) ⟨h1,h2,h3⟩
  clear p1 p2
  simp only[stA]at q1⊢
  refine Z0d follows Z05 hO Tryz.func30 rfl ?_
  repeat' ((conv=>whnf);first|refine stp ?_|with_reducible apply Z01<;>intro h)
  conv=>whnf
  refine⟨Nat,(λi=>i<=l.length),(λi=>[(0,.rs l.length 7 (stC l)),(1,.int .i64 (heftSL (l.take i) a)),(5,.int .i64 i)]),(λ_=>[]),(λi=>l.length-i),⟨0,Y0b _,Y0c rfl ?_⟩,?_⟩
  ·simp only[Y09,heftSL];exact wks
  intro i hi
  dsimp only
  have hle:=heftSL_le (l.take i) a
  by_cases hlt:i<l.length
  · have e1:decide ((i:Int)<(l.length:Int))=true:=by simpa using hlt
    by_cases hpos:0<=heftSL (l.take i) a
    · have e2:decide (heftSL (l.take i) a >= 0)=true:=by simpa using hpos
      have hs:=ZdG l a i hlt
      rw[if_pos hpos,Zni]at hs
      have hsz:=Z2V _ _ (Z0i hlt)
      have hse:=Z3o l[i]
      have hx1:tk 1 (((stC l).drop (i*7)).drop 1)=some [.str l[i].name]:=by rw[Z2h l i hlt];exact ZtE _ _
      have hx2:tk 1 (((stC l).drop (i*7)).drop 2)=some [.str l[i].loc]:=by rw[Z2h l i hlt];exact ZtF _ _
      have hx4:tk 1 (((stC l).drop (i*7)).drop 4)=some [exA l[i].exprs]:=by rw[Z2h l i hlt];exact Zhb _ _
      have hx5:tk 1 (((stC l).drop (i*7)).drop 5)=some [stA l[i].thn]:=by rw[Z2h l i hlt];exact Zhc _ _
      have hx6:tk 1 (((stC l).drop (i*7)).drop 6)=some [stA l[i].els]:=by rw[Z2h l i hlt];exact Zhd _ _
      obtain⟨k1,k2,k3,k4,k5,k6,k7,k8⟩:=Z3R (Z2O hok _ (Z0i hlt))
      have qt:=λa=>q1 l[i].thn a (by omega) k7 k4
      have qe:=λa=>q1 l[i].els a (by omega) k8 k5
      clear q1
      generalize (heftSL (l.take i) a)=b at *
      generalize l[i]=x at *
      obtain⟨kind,name,loc,order,exprs,thn,els⟩:=x
      simp only[St.name,St.loc,St.exprs,St.thn,St.els,exA,stA]at *
      clear hsz hse
      have q20:Int.tdiv (name.length:Int) 20=((name.length / 20:Nat):Int):=rfl
      have q21:Int.tdiv (loc.length:Int) 20=((loc.length / 20:Nat):Int):=rfl
      have w1:IntKind.i64.wrap (b-1)=b-1:=Z2M (by omega) (by omega)
      have w2:IntKind.i64.wrap (Int.tdiv (name.length:Int) 20)=((name.length / 20:Nat):Int):=by rw[q20];exact Z2M (by omega) (by omega)
      have w2':IntKind.i64.wrap (Int.tdiv (loc.length:Int) 20)=((loc.length / 20:Nat):Int):=by rw[q21];exact Z2M (by omega) (by omega)
      have w3:IntKind.i64.wrap (b-1-((name.length / 20:Nat):Int))=b-1-((name.length / 20:Nat):Int):=Z2M (by omega) (by omega)
      have w4:IntKind.i64.wrap (b-1-((name.length / 20:Nat):Int)-((loc.length / 20:Nat):Int))=b-1-((name.length / 20:Nat):Int)-((loc.length / 20:Nat):Int):=Z2M (by omega) (by omega)
      repeat' ((conv=>whnf);first|(with_reducible refine exW w1 ?_)|(refine Y01 (show (20:Int)≠0 by decide) ?_)|(rw[w2])|(rw[w2'])|(with_reducible refine exW w3 ?_)|(with_reducible refine exW w4 ?_)|(with_reducible refine ixJ i rfl ?_ ?_;focus omega)|refine exI hx1 ?_|refine exI hx2 ?_|refine stp ?_|with_reducible apply Z01<;>intro h)
      conv=>whnf
      have hb0:b-1-((name.length / 20:Nat):Int)-((loc.length / 20:Nat):Int)<=1048576:=by omega
      clear w1 w2 w2' w3 w4
      generalize hl0:b-1-((name.length / 20:Nat):Int)-((loc.length / 20:Nat):Int)=l0 at *
      refine⟨Nat,(λk=>k<=exprs.length),(λk=>[(0,.rs l.length 7 (stC l)),(1,.int .i64 (heftL (exprs.take k) l0)),(5,.int .i64 i),(6,.int .i64 k)]),(λ_=>[]),(λk=>exprs.length-k),⟨0,Y0b _,Y0c rfl ?_⟩,?_⟩
      ·simp only[Y09,heftL];exact wks
      intro k hk
      dsimp only
      have hke:=heftL_le (exprs.take k) l0
      have fin:∀v,heftL exprs l0=v->∃w,True:=λ_ _=>⟨(),trivial⟩
      by_cases hkt:k<exprs.length
      · have e3:decide ((k:Int)<(exprs.length:Int))=true:=by simpa using hkt
        by_cases hp2:0<=heftL (exprs.take k) l0
        · have e4:decide (heftL (exprs.take k) l0 >= 0)=true:=by simpa using hp2
          have hy:=ex4 exprs k hkt
          have hat:=Zcm exprs l0 k hkt
          rw[if_pos hp2]at hat
          have qk:=q2 exprs[k] (heftL (exprs.take k) l0) (Z4i k6 _ (Z0i hkt)) hp2 (by omega)
          generalize exprs[k]=y at *
          repeat' ((conv=>whnf);first|with_reducible refine exI (qk _) ?_|(with_reducible refine ixJ i rfl ?_ ?_;focus omega)|(with_reducible refine ixJ k rfl ?_ ?_;focus omega)|refine exI hx4 ?_|refine exI hy ?_|refine exI (qk _) ?_|refine stp ?_|with_reducible apply Z01<;>intro h)
          conv=>whnf
          refine⟨k+1,hkt,by show exprs.length-(k+1)<exprs.length-k;omega,Y0c rfl ?_⟩
          rw[hat];exact wks
        · have e4:decide (heftL (exprs.take k) l0 >= 0)=false:=by simpa using hp2
          have hst:=Z7M exprs l0 k (by omega)
          rw[hst]at hs
          simp only[ifp,if_neg hp2]at hs
          repeat' ((conv=>whnf);first|(with_reducible refine ixJ i rfl ?_ ?_;focus omega)|refine exI hx4 ?_|refine stp ?_|with_reducible apply Z01<;>intro h)
          conv=>whnf
          refine⟨i+1,hlt,by show l.length-(i+1)<l.length-i;omega,Y0c rfl ?_⟩
          rw[hs];exact wks
      · have e3:decide ((k:Int)<(exprs.length:Int))=false:=by simpa using hkt
        have hk2:k=exprs.length:=by have:=hk;omega
        subst hk2
        rw[Y0e]at hke⊢
        generalize heftL exprs l0=l1 at *
        by_cases hp2:0<=l1
        · have e4:decide (l1 >= 0)=true:=by simpa using hp2
          simp only[ifp,if_pos hp2]at hs
          have qt1:=qt l1 hp2 (by omega)
          have ht1:=heftSL_le thn l1
          generalize heftSL thn l1=l2 at *
          by_cases hp3:0<=l2
          · have e5:decide (l2 >= 0)=true:=by simpa using hp3
            simp only[if_pos hp3]at hs
            have qe1:=qe l2 hp3 (by omega)
            generalize heftSL els l2=l3 at *
            repeat' ((conv=>whnf);first|(with_reducible refine ixJ i rfl ?_ ?_;focus omega)|refine exI hx4 ?_|refine exI hx5 ?_|refine exI hx6 ?_|refine exI (qt1 _) ?_|refine exI (qe1 _) ?_|refine stp ?_|with_reducible apply Z01<;>intro h)
            conv=>whnf
            refine⟨i+1,hlt,by show l.length-(i+1)<l.length-i;omega,Y0c rfl ?_⟩
            rw[hs];exact wks
          · have e5:decide (l2 >= 0)=false:=by simpa using hp3
            simp only[if_neg hp3]at hs
            repeat' ((conv=>whnf);first|(with_reducible refine ixJ i rfl ?_ ?_;focus omega)|refine exI hx4 ?_|refine exI hx5 ?_|refine exI hx6 ?_|refine exI (qt1 _) ?_|refine stp ?_|with_reducible apply Z01<;>intro h)
            conv=>whnf
            refine⟨i+1,hlt,by show l.length-(i+1)<l.length-i;omega,Y0c rfl ?_⟩
            rw[hs];exact wks
        · have e4:decide (l1 >= 0)=false:=by simpa using hp2
          simp only[ifp,if_neg hp2]at hs
          repeat' ((conv=>whnf);first|(with_reducible refine ixJ i rfl ?_ ?_;focus omega)|refine exI hx4 ?_|refine stp ?_|with_reducible apply Z01<;>intro h)
          conv=>whnf
          refine⟨i+1,hlt,by show l.length-(i+1)<l.length-i;omega,Y0c rfl ?_⟩
          rw[hs];exact wks
    · have e2:decide (heftSL (l.take i) a >= 0)=false:=by simpa using hpos
      have hst:=Z9P l a i (by omega)
      rw[hst]
      repeat' ((conv=>whnf);first|refine stp ?_|with_reducible apply Z01<;>intro h)
      all_goals rfl
  · have e1:decide ((i:Int)<(l.length:Int))=false:=by simpa using hlt
    have hi2:i=l.length:=by have:=hi;omega
    subst hi2
    rw[Y0e]
    repeat' ((conv=>whnf);first|refine stp ?_|with_reducible apply Z01<;>intro h)
    all_goals rfl
end
section
variable {gl:Z0l}
def Z1W:List Dc->Int->Int
 |[],l=>l
 |x::k,l=>if 0<=l then Z1W k (l-(x.name.length / 20:Nat)) else l
def Z0I:List (List St)->Int->Int
 |[],l=>l
 |x::k,l=>if 0<=l then Z0I k (heftSL x l) else l
def Z1z(p:Pr)(m:Int):Bool:=decide (0<=Z0I p.threads (Z1W p.decls (m-min (m+1) (p.decls.length:Int)-min (m+1) (p.threads.length:Int))))
theorem Z6X:∀(k:List Dc)(l:Int),Z1W k l<=l
 |[],l=>by simp only[Z1W];omega
 |x::k,l=>by
  simp only[Z1W]
  split
  ·have:=Z6X k (l-(x.name.length / 20:Nat));omega
  ·omega
theorem Z54:∀(k:List (List St))(l:Int),Z0I k l<=l
 |[],l=>by simp only[Z0I];omega
 |x::k,l=>by
  simp only[Z0I]
  split
  ·have:=Z54 k (heftSL x l);have:=heftSL_le x l;omega
  ·omega
theorem Z9O:∀(k:List (List St))(l:Int),0<=Z0I k l->(Z0x k:Int)+Z0I k l<=l
 |[],l,h=>by simp only[Z0I,Z0x]at *;omega
 |x::k,l,h=>by
  simp only[Z0I,Z0x]at *
  split at h
  · rename_i hl
    rw[if_pos hl]
    have h1:=Z9O k _ h
    have h2:0<=heftSL x l:=by omega
    have h3:=heftSL_size x l h2
    omega
  ·omega
theorem Z9G(p:Pr)(m:Nat)(h:Z1z p m=true):Z0x p.threads<=m:=by
 simp only[Z1z,decide_eq_true_eq]at h
 have h1:=Z9O _ _ h
 have h2:=Z6X p.decls ((m:Int)-min ((m:Int)+1) (p.decls.length:Int)-min ((m:Int)+1) (p.threads.length:Int))
 omega
theorem ZgK:∀(k:List Dc)(l:Int)(i:Nat)(h:i<k.length),Z1W (k.take (i+1)) l=if 0<=Z1W (k.take i) l then Z1W (k.take i) l-(k[i].name.length / 20:Nat) else Z1W (k.take i) l
 |e::k,l,0,h=>by simp only[Y0d,Y09,Z1W,Y0g]
 |e::k,l,i+1,h=>by
  have ih:=λl=>ZgK k l i (by simpa using h)
  simp only[Y0d,Z1W,Y0l]at ih⊢
  split
  ·exact ih _
  ·rename_i h2;simp[h2]
theorem Zbg:∀(k:List Dc)(l:Int)(i:Nat),Z1W (k.take i) l<0->Z1W k l=Z1W (k.take i) l
 |[],l,i,h=>by simp[Z1W]
 |e::k,l,0,h=>by
  simp only[Y09,Z1W]at *
  rw[if_neg (by omega)]
 |e::k,l,i+1,h=>by
  simp only[Y0d,Z1W]at *
  split
  · rename_i hl
    rw[if_pos hl]at h
    exact Zbg k _ i h
  ·rfl
theorem ZdF:∀(k:List (List St))(l:Int)(i:Nat)(h:i<k.length),Z0I (k.take (i+1)) l=if 0<=Z0I (k.take i) l then heftSL k[i] (Z0I (k.take i) l) else Z0I (k.take i) l
 |e::k,l,0,h=>by simp only[Y0d,Y09,Z0I,Y0g]
 |e::k,l,i+1,h=>by
  have ih:=λl=>ZdF k l i (by simpa using h)
  simp only[Y0d,Z0I,Y0l]at ih⊢
  split
  ·exact ih _
  ·rename_i h2;simp[h2]
theorem Z9N:∀(k:List (List St))(l:Int)(i:Nat),Z0I (k.take i) l<0->Z0I k l=Z0I (k.take i) l
 |[],l,i,h=>by simp[Z0I]
 |e::k,l,0,h=>by
  simp only[Y09,Z0I]at *
  rw[if_neg (by omega)]
 |e::k,l,i+1,h=>by
  simp only[Y0d,Z0I]at *
  split
  · rename_i hl
    rw[if_pos hl]at h
    exact Z9N k _ i h
  ·rfl
theorem ZdC(p:Pr)(m:Int)(hok:okP p)(hm0:0<=m)(hm1:m<=1048576):ValOK Y00 gl 7 [p.av,.int .i64 m] (.bool (Z1z p m)):=by
 obtain⟨⟨hd1,hd2⟩,ht1,ht2⟩:=hok
 obtain⟨O,hO,p1,-⟩:=fams (P:=Y00) (gl:=gl) [{ I:=List St×Int,f:=30,G:=λq=>okSL q.1/\q.1.length<=9223372036854775807/\0<=q.2/\q.2<=1048576,A:=λq=>[stA q.1,.int .i64 q.2],R:=λq=>.int .i64 (heftSL q.1 q.2),body:=(by kernel_rfl),inj:=(λi j _ _ h=>by simp only[List.cons.injEq,AV.int.injEq,and_true,true_and]at h;rw[Z4a h.1,h.2]),ok:=(λq hq=>⟨rfl,ZgJ _ q.1 q.2 (Y0i _) hq.1 hq.2.1 hq.2.2.1 hq.2.2.2⟩) }] rfl
 have q1:∀x a,okSL x->x.length<=9223372036854775807->0<=a->a<=1048576->∀H,Z03 Y00 O H 30 [stA x,.int .i64 a]=some (.int .i64 (heftSL x a),H):=λx a h1 h2 h3 h4=>p1 (x,a) ⟨h1,h2,h3,h4⟩
 clear p1
 obtain⟨ds,ts⟩:=p
 simp only[Pr.av,Z1z]at *
 have w1:IntKind.i64.wrap (m+1)=m+1:=Z2M (by omega) (by omega)
 have hl0:m-(if (ds.length:Int)<m+1 then (ds.length:Int) else m+1)-(if (ts.length:Int)<m+1 then (ts.length:Int) else m+1)=m-min (m+1) (ds.length:Int)-min (m+1) (ts.length:Int):=by
  rw[Int.min_def,Int.min_def];split<;>split<;>split<;>split<;>omega
 generalize m-min (m+1) (ds.length:Int)-min (m+1) (ts.length:Int)=l0 at *
 have hlm:l0<=1048576:=by omega
 have hlm2 : -9000000000000000000<=l0:=by omega
 refine Z0d follows Z05 hO Tryz.func7 rfl ?_
 repeat' ((conv=>whnf);first|(with_reducible refine exW w1 ?_)|refine stp ?_|with_reducible apply Z01<;>intro h)
 conv=>whnf
 rw[hl0]
 refine⟨Nat,(λi=>i<=ds.length),(λi=>[(2,.ptr 0 0),(5,.int .i64 (Z1W (ds.take i) l0)),(6,.int .i64 i)]),(λ_=>[⟨true,0,0,.cells [.rs ds.length 3 (dcC ds),.rs ts.length 1 (ts.map stA)] 25⟩]),(λi=>ds.length-i),⟨0,Y0b _,Y0f [0] rfl ?_ ⟨hbp,trivial⟩ rfl⟩,?_⟩
 ·simp only[Y09,Z1W];exact wks
 intro i hi
 dsimp only
 have hle:=Z6X (ds.take i) l0
 by_cases hc:i<ds.length/\0<=Z1W (ds.take i) l0
 · obtain⟨hlt,hpos⟩:=hc
   have e1:decide ((i:Int)<(ds.length:Int))=true:=by simpa using hlt
   have e2:decide (Z1W (ds.take i) l0 >= 0)=true:=by simpa using hpos
   have hs:=ZgK ds l0 i hlt
   rw[if_pos hpos]at hs
   have hxn:=dcn ds i hlt
   have hln:=hd2 _ (Z0i hlt)
   generalize Z1W (ds.take i) l0=b at *
   generalize ds[i]=d at *
   obtain⟨name,pl,vl⟩:=d
   simp only at *
   have q20:Int.tdiv (name.length:Int) 20=((name.length / 20:Nat):Int):=rfl
   have w2:IntKind.i64.wrap (Int.tdiv (name.length:Int) 20)=((name.length / 20:Nat):Int):=by rw[q20];exact Z2M (by omega) (by omega)
   have w3:IntKind.i64.wrap (b-((name.length / 20:Nat):Int))=b-((name.length / 20:Nat):Int):=Z2M (by omega) (by omega)
   repeat' ((conv=>whnf);first|(refine Y01 (show (20:Int)≠0 by decide) ?_)|(rw[w2])|(with_reducible refine exW w3 ?_)|(with_reducible refine ixJ i rfl ?_ ?_;focus omega)|refine exI hxn ?_|refine stp ?_|with_reducible apply Z01<;>intro h)
   conv=>whnf
   refine⟨i+1,hlt,by show ds.length-(i+1)<ds.length-i;omega,Y0f [0] rfl ?_ ⟨hbp,trivial⟩ rfl⟩
   rw[hs];exact wks
 · have hfin : Z1W (ds.take i) l0 = Z1W ds l0 := by
    by_cases hlt:i<ds.length
    ·exact (Zbg ds l0 i (by omega)).symm
    ·rw[List.take_of_length_le (by omega)]
   rw[hfin]at hc hle⊢
   generalize Z1W ds l0=l1 at *
   obtain⟨b1,e1,hb⟩:∃b1,decide ((i:Int)<(ds.length:Int))=b1/\(b1=true->decide (l1 >= 0)=false):=⟨_,rfl,λh=>by simp only[decide_eq_true_eq,decide_eq_false_iff_not]at *;omega⟩
   have hb2:b1=false\/b1=true/\decide (l1 >= 0)=false:=by cases b1<;>simp_all
   clear hb
   rcases hb2 with rfl|⟨rfl,e2⟩
   all_goals
    repeat' ((conv=>whnf);first|refine stp ?_|with_reducible apply Z01<;>intro h)
    conv=>whnf
    refine⟨Nat,(λi=>i<=ts.length),(λi=>[(2,.ptr 0 0),(5,.int .i64 (Z0I (ts.take i) l1)),(7,.int .i64 i)]),(λ_=>[⟨true,0,0,.cells [.rs ds.length 3 (dcC ds),.rs ts.length 1 (ts.map stA)] 25⟩]),(λi=>ts.length-i),⟨0,Y0b _,Y0f [0] rfl ?_ ⟨hbp,trivial⟩ rfl⟩,?_⟩
    ·simp only[Y09,Z0I];exact wks
    clear e1
    try clear e2
    intro k hk
    dsimp only
    have hlk:=Z54 (ts.take k) l1
    by_cases hkt:k<ts.length
    · have e1:decide ((k:Int)<(ts.length:Int))=true:=by simpa using hkt
      by_cases hpos:0<=Z0I (ts.take k) l1
      · have e2:decide (Z0I (ts.take k) l1 >= 0)=true:=by simpa using hpos
        have hs:=ZdF ts l1 k hkt
        rw[if_pos hpos]at hs
        have hx:=th1 ts k hkt
        have hok:=Z2N ht1 _ (Z0i hkt)
        have q2:=q1 ts[k] (Z0I (ts.take k) l1) hok.1 hok.2 hpos (by omega)
        generalize Z0I (ts.take k) l1=b at *
        generalize ts[k]=t at *
        simp only[stA]at hx q2
        repeat' ((conv=>whnf);first|with_reducible refine exI (q2 _) ?_|(with_reducible refine ixJ k rfl ?_ ?_;focus omega)|refine exI hx ?_|refine stp ?_|with_reducible apply Z01<;>intro h)
        conv=>whnf
        refine⟨k+1,hkt,by show ts.length-(k+1)<ts.length-k;omega,Y0f [0] rfl ?_ ⟨hbp,trivial⟩ rfl⟩
        rw[hs];exact wks
      · have e2:decide (Z0I (ts.take k) l1 >= 0)=false:=by simpa using hpos
        have hst:=Z9N ts l1 k (by omega)
        rw[hst]
        repeat' ((conv=>whnf);first|refine stp ?_|with_reducible apply Z01<;>intro h)
        all_goals rfl
    · have e1:decide ((k:Int)<(ts.length:Int))=false:=by simpa using hkt
      have hk2:k=ts.length:=by have:=hk;omega
      subst hk2
      rw[Y0e]
      repeat' ((conv=>whnf);first|refine stp ?_|with_reducible apply Z01<;>intro h)
      all_goals rfl
end
section
def lev(op:Int):Int :=
 if op=5 then 1 else if op=6 then 2 else if op=7\/op=8 then 3 else if op=9\/op=10 then 4 else if op=11 then 5 else if op=12 then 6 else if op=13 then 7 else if op=14\/op=15 then 8 else if op=16 then 9 else if op=3\/op=4 then 10 else 11
def Z46(op:Int):List UInt8 :=
 if op=3\/op=15 then [45] else if op=4 then [33] else if op=5 then [124,124] else if op=6 then [38,38] else if op=7 then [61,61] else if op=8 then [33,61] else if op=9 then [60] else if op=10 then [60,61] else if op=11 then [124]
 else if op=12 then [94] else if op=13 then [38] else if op=14 then [43] else if op=16 then [42] else []
def Z5S(o:Int):List UInt8 :=
 if o=1 then [110,97] else if o=2 then [114,108,120] else if o=3 then [97,99,113] else if o=4 then [114,101,108] else if o=5 then [97,114] else if o=6 then [115,99] else []
def Z4r(n:Nat):List UInt8:=if n<10 then [UInt8.ofNat (48+n)] else Z4r (n / 10)++[UInt8.ofNat (48+n % 10)]
def Zd2(n:Int):List UInt8:=Z4r n.toNat
def spc(n:Nat):List UInt8:=List.replicate (2*n) 32
def brk(p:Int×List UInt8)(n:Int):List UInt8:=if lev p.1<n then 40::(p.2++[41]) else p.2
def wrC(op num:Int)(name:List UInt8)(ks:List (Int×List UInt8)):List UInt8 :=
 if op=1 then Zd2 num else if op=2 then name else match ks with
  |[]=>[]
  |[a]=>Z46 op++brk a 10
  |a::b::_=>brk a (lev op)++(32::(Z46 op++(32::brk b (lev op+1))))
mutual
def wrE:Ex->List UInt8
 | .mk op num name kids=>wrC op num name (wrL kids)
def wrL:List Ex->List (Int×List UInt8)
 |[]=>[]
 |e::l=>(e.op,wrE e)::wrL l
end
def ZcL:List Ex->List UInt8
 |[]=>[]
 |e::l=>44::32::(wrE e++ZcL l)
def Z7p(word loc:List UInt8)(x:List Ex)(o:Int):List UInt8:=word++(40::(loc++(ZcL x++(44::32::(Z5S o++[41])))))
def hdT:List Ex->List UInt8
 |[]=>[]
 |e::_=>wrE e
def Zau(n:List UInt8):List UInt8:=if n=[] then [] else n++[32,61,32]
def Zc9(k:Int)(lc:List UInt8)(o:Int)(x:List Ex):List UInt8 :=
 if k=1 then hdT x else if k=2 then Z7p [108,111,97,100] lc x o else if k=3 then Z7p [115,116,111,114,101] lc x o else if k=4 then Z7p [99,97,115] lc x o else if k=5 then Z7p [97,100,100] lc x o
 else if k=6 then Z7p [115,119,97,112] lc x o else if k=7 then [102,101,110,99,101,40]++(Z5S o++[41]) else if k=8 then [97,115,115,117,109,101,40]++(hdT x++[41]) else if k=9 then [97,115,115,101,114,116,40]++(hdT x++[41]) else []
mutual
def stT:St->Nat->List UInt8
 | .mk k n lc o x t e,i=>Zau n ++
  (if k=10 then [105,102,32,40]++(hdT x++([41,32]++((123::10::(lnT t (i+1)++(spc i++[125])))++(if e.length=0 then [] else [32,101,108,115,101,32]++(123::10::(lnT e (i+1)++(spc i++[125])))))))
   else if k=11 then [119,104,105,108,101,32,40]++(hdT x++([41,32]++(123::10::(lnT t (i+1)++(spc i++[125])))))
   else Zc9 k lc o x++[59])
def lnT:List St->Nat->List UInt8
 |[],_=>[]
 |s::l,i=>spc i++(stT s i++(10::lnT l i))
end
def Z7n(l:List St)(i:Nat):List UInt8:=123::10::(lnT l (i+1)++(spc i++[125]))
def thT(l:List St):List UInt8:=[116,104,114,101,97,100,32]++(Z7n l 0++[10])
def Zdd:List (List St)->List UInt8
 |[]=>[]
 |l::t=>thT l++Zdd t
def rgI(n:Int):Prop:=-9223372036854775808<=n/\n<=9223372036854775807
mutual
def rgE:Ex->Prop
 | .mk _ n _ k=>rgI n/\rgL k
def rgL:List Ex->Prop
 |[]=>True
 |e::l=>rgE e/\rgL l
end
mutual
def rgS:St->Prop
 | .mk _ _ _ _ x t e=>rgL x/\rgSL t/\rgSL e
def rgSL:List St->Prop
 |[]=>True
 |s::l=>rgS s/\rgSL l
end
def ZmF:List (List St)->Prop
 |[]=>True
 |l::t=>rgSL l/\ZmF t
def rgP(p:Pr):Prop:=(∀d∈p.decls,rgI d.val)/\ZmF p.threads
theorem Zf4:∀{l:List Ex},rgL l->∀e∈l,rgE e
 |x::l,h,e,he=>by
  simp only[rgL]at h
  rcases Y0s.1 he with rfl|he
  ·exact h.1
  ·exact Zf4 h.2 e he
theorem Z4c:∀{l:List St},rgSL l->∀e∈l,rgS e
 |x::l,h,e,he=>by
  simp only[rgSL]at h
  rcases Y0s.1 he with rfl|he
  ·exact h.1
  ·exact Z4c h.2 e he
theorem Z6K:∀{l:List (List St)},ZmF l->∀e∈l,rgSL e
 |x::l,h,e,he=>by
  simp only[ZmF]at h
  rcases Y0s.1 he with rfl|he
  ·exact h.1
  ·exact Z6K h.2 e he
theorem ZkG:∀(k n:Nat),n<10 ^ (k+1)->(Z4r n).length<=k+1
 |0,n,h=>by rw[Z4r,if_pos (by omega)];simp
 |k+1,n,h=>by
  rw[Z4r]
  split
  ·simp
  · have:=ZkG k (n / 10) (by rw[Nat.pow_succ]at h;omega)
    simp;omega
theorem Za7(n:Nat):Z4r n≠[]:=by
 rw[Z4r];split<;>simp
theorem Zh2{n:Int}(h:rgI n):(Zd2 n).length<=20:=ZkG 19 n.toNat (by have:=h.2;omega)
theorem Zjk(op:Int):(Z46 op).length<=2:=by
 have hi:∀(c:Prop)[Decidable c](a b:List UInt8),a.length<=2->b.length<=2->(if c then a else b).length<=2:=λc _ a b h1 h2=>by split<;>assumption
 unfold Z46
 repeat' (first|exact hi _ _ _ (by decide) (by decide)|refine hi _ _ _ (by decide) ?_)
theorem Zqj(o:Int):(Z5S o).length<=3:=by
 unfold Z5S;repeat' split
 all_goals simp
theorem ZfH(p:Int×List UInt8)(n:Int):(brk p n).length<=p.2.length+2:=by
 unfold brk;split
 ·simp only[Y03,Y02,Y04];omega
 ·omega
def Zpz:List (Int×List UInt8)->Nat
 |[]=>0
 |p::l=>p.2.length+2+Zpz l
theorem Zpo(op num:Int)(name:List UInt8)(ks:List (Int×List UInt8))(h:rgI num):(wrC op num name ks).length<=24+name.length+Zpz ks:=by
 have h1:=Zh2 h
 have h2:=Zjk op
 unfold wrC
 split
 ·omega
 · split
   ·omega
   · match ks with
     |[]=>simp
     |[a] =>
      have:=ZfH a 10
      simp only[Y02,Zpz];omega
     |a::b::l =>
      have:=ZfH a (lev op)
      have:=ZfH b (lev op+1)
      simp only[Y02,Y03,Zpz];omega
mutual
theorem ZeH:∀(e:Ex)(l:Int),rgE e->0<=Z1y e l->((wrE e).length:Int)+2<=64*(l-Z1y e l)
 | .mk op num name kids,l,hr,h=>by
  simp only[rgE]at hr
  simp only[Z1y,wrE]at h⊢
  have h1:=Zpo op num name (wrL kids) hr.1
  have h2:=wrL_len kids (l-1-(name.length / 20:Nat)) hr.2 h
  have:=heftL_le kids (l-1-(name.length / 20:Nat))
  omega
theorem wrL_len:∀(k:List Ex)(l:Int),rgL k->0<=heftL k l->(Zpz (wrL k):Int)<=64*(l-heftL k l)
 |[],l,_,h=>by simp only[wrL,Zpz,heftL];omega
 |e::k,l,hr,h=>by
  simp only[rgL]at hr
  simp only[heftL,wrL,Zpz]at h⊢
  split at h
  · rename_i h0
    rw[if_pos h0]
    have h3:0<=Z1y e l:=by have:=heftL_le k (Z1y e l);omega
    have h1:=ZeH e l hr.1 h3
    have h2:=wrL_len k (Z1y e l) hr.2 h
    omega
  ·omega
end
theorem ZcK:∀(k:List Ex)(l:Int),rgL k->0<=heftL k l->((ZcL k).length:Int)<=64*(l-heftL k l)
 |[],l,_,h=>by simp only[ZcL,heftL,Y04];omega
 |e::k,l,hr,h=>by
  simp only[rgL]at hr
  simp only[heftL,ZcL,Y03,Y02]at h⊢
  split at h
  · rename_i h0
    rw[if_pos h0]
    have h3:0<=Z1y e l:=by have:=heftL_le k (Z1y e l);omega
    have h1:=ZeH e l hr.1 h3
    have h2:=ZcK k (Z1y e l) hr.2 h
    omega
  ·omega
theorem ZqR(k:List Ex)(l:Int)(hr:rgL k)(h:0<=heftL k l):((hdT k).length:Int)<=64*(l-heftL k l):=by
 have h1:=ZcK k l hr h
 cases k with
 |nil=>simp only[hdT,Y04];simp only[ZcL,Y04]at h1;exact h1
 |cons e k=>simp only[hdT];simp only[ZcL,Y03,Y02]at h1;omega
theorem ZmK(k:Int)(lc:List UInt8)(o:Int)(x:List Ex):(Zc9 k lc o x).length<=30+lc.length+(ZcL x).length+(hdT x).length:=by
 have h1:=Zqj o
 unfold Zc9 Z7p
 repeat' split
 all_goals (try simp only[Y02,Y03,Y04])
 all_goals omega
theorem Zjc(n:Nat):(spc n).length=2*n:=by simp[spc]
mutual
theorem ZpS:∀(s:St)(i:Nat)(l:Int),rgS s->i+Z1K s<=41->0<=Z55 s l->((stT s i).length:Int)+84<=512*(l-Z55 s l)
 | .mk k n lc o x t e,i,l,hr,hd,h=>by
  simp only[rgS]at hr
  simp only[Z1K]at hd
  simp only[Z55]at h⊢
  generalize hl0:l-1-(n.length / 20:Nat)-(lc.length / 20:Nat)=l0 at *
  have a1:=heftL_le x l0
  generalize hl1:heftL x l0=l1 at *
  have b1:0<=l1:=by
   simp only[ifp]at h
   split at h
   ·assumption
   ·exact absurd (by simpa[ifp]using h) ‹¬0<=l1›
  simp only[ifp,if_pos b1]at h⊢
  have a2:=heftSL_le t l1
  have b2:0<=heftSL t l1:=by
   split at h
   ·assumption
   ·exact h
  simp only[if_pos b2]at h⊢
  have a3:=heftSL_le e (heftSL t l1)
  have c1:=ZcK x l0 hr.1 (by omega)
  have c2:=ZqR x l0 hr.1 (by omega)
  have c3:=lnT_len t (i+1) l1 hr.2.1 (by omega) b2
  have c4:=lnT_len e (i+1) (heftSL t l1) hr.2.2 (by omega) h
  have c5:=ZmK k lc o x
  have hi:i<=41:=by omega
  have c6:=Zjc i
  have c7:(Zau n).length<=n.length+3:=by unfold Zau;split<;>simp
  simp only[stT]
  generalize heftSL e (heftSL t l1)=l3 at *
  generalize heftSL t l1=l2 at *
  generalize ZcL x=A at *
  generalize hdT x=D at *
  generalize Zc9 k lc o x=P at *
  generalize lnT t (i+1)=T at *
  generalize lnT e (i+1)=E at *
  split
  · split
    all_goals simp only[Y02,Y03,Y04]
    all_goals omega
  · split
    all_goals simp only[Y02,Y03,Y04]
    all_goals omega
theorem lnT_len:∀(k:List St)(i:Nat)(l:Int),rgSL k->i+deepSL k<=41->0<=heftSL k l->((lnT k i).length:Int)<=512*(l-heftSL k l)
 |[],i,l,_,_,h=>by simp only[lnT,heftSL,Y04];omega
 |s::k,i,l,hr,hd,h=>by
  simp only[rgSL]at hr
  simp only[deepSL]at hd
  simp only[heftSL,lnT,Y02,Y03]at h⊢
  split at h
  · rename_i h0
    rw[if_pos h0]
    have h3:0<=Z55 s l:=by have:=heftSL_le k (Z55 s l);omega
    have hds:0<Z1K s:=by cases s;simp only[Z1K];omega
    have h1:=ZpS s i l hr.1 (by omega) h3
    have h2:=lnT_len k i (Z55 s l) hr.2 (by omega) h
    have:=Zjc i
    omega
  ·omega
end
end
section
variable {gl:Z0l}
theorem Z4U(op:Int):(op<1\/16<op)\/op=1\/op=2\/op=3\/op=4\/op=5\/op=6\/op=7\/op=8\/op=9\/op=10\/op=11\/op=12\/op=13\/op=14\/op=15\/op=16:=by omega
theorem ZhS(o:Int):(o<1\/6<o)\/o=1\/o=2\/o=3\/o=4\/o=5\/o=6:=by omega
theorem ZqE{op:Int}(h:op<1\/16<op):lev op=11:=by
 unfold lev;repeat rw[if_neg (by omega)]
theorem Zq1{op:Int}(h:op<1\/16<op):Z46 op=[]:=by
 unfold Z46;repeat rw[if_neg (by omega)]
theorem Zqi{o:Int}(h:o<1\/6<o):Z5S o=[]:=by
 unfold Z5S;repeat rw[if_neg (by omega)]
theorem ZqG(op:Int):ValOK Y00 gl 83 [.int .i64 op] (.int .i64 (lev op)):=by
 rcases Z4U op with hout|rfl|rfl|rfl|rfl|rfl|rfl|rfl|rfl|rfl|rfl|rfl|rfl|rfl|rfl|rfl|rfl
 · rw[ZqE hout]
   refine Z0d follows Z05 Z0h Tryz.func83 rfl ?_
   repeat' ((conv=>whnf);first|refine stp ?_|with_reducible apply Z01<;>intro h)
   all_goals first|rfl|(exfalso;simp only[beq_iff_eq]at *;omega)
 all_goals
  refine Z0d follows Z05 Z0h Tryz.func83 rfl ?_
  repeat' ((conv=>whnf);first|refine stp ?_|with_reducible apply Z01<;>intro h)
  rfl
theorem Zq3(op:Int):ValOK Y00 gl 24 [.int .i64 op] (.str (Z46 op)):=by
 rcases Z4U op with hout|rfl|rfl|rfl|rfl|rfl|rfl|rfl|rfl|rfl|rfl|rfl|rfl|rfl|rfl|rfl|rfl
 · rw[Zq1 hout]
   refine Z0d follows Z05 Z0h Tryz.func24 rfl ?_
   repeat' ((conv=>whnf);first|refine stp ?_|with_reducible apply Z01<;>intro h)
   all_goals first|rfl|(exfalso;simp only[beq_iff_eq]at *;omega)
 all_goals
  refine Z0d follows Z05 Z0h Tryz.func24 rfl ?_
  repeat' ((conv=>whnf);first|refine stp ?_|with_reducible apply Z01<;>intro h)
  rfl
theorem Zqk(o:Int):ValOK Y00 gl 22 [.int .i64 o] (.str (Z5S o)):=by
 rcases ZhS o with hout|rfl|rfl|rfl|rfl|rfl|rfl
 · rw[Zqi hout]
   refine Z0d follows Z05 Z0h Tryz.func22 rfl ?_
   repeat' ((conv=>whnf);first|refine stp ?_|with_reducible apply Z01<;>intro h)
   all_goals first|rfl|(exfalso;simp only[beq_iff_eq]at *;omega)
 all_goals
  refine Z0d follows Z05 Z0h Tryz.func22 rfl ?_
  repeat' ((conv=>whnf);first|refine stp ?_|with_reducible apply Z01<;>intro h)
  rfl
theorem ZkE{n:Nat}(h:n<10):Z4r n=[UInt8.ofNat (48+n)]:=by rw[Z4r,if_pos h]
theorem ZnM{n:Nat}(h:¬n<10):Z4r n=Z4r (n / 10)++[UInt8.ofNat (48+n % 10)]:=by rw[Z4r,if_neg h]
def ZgH(s:List UInt8)(r:Res):Bool:=match r with
 |some (.str t,_)=>t==s
 |_=>false
theorem ZiM{f m fuel:Nat}{az:List AV}{s:List UInt8}{fn:Func}(hf:Y00.funcs[f]? = some fn)(h:ZgH s (ZoV Y00 gl [] fuel m f az TH.empty)=true):ValOK Y00 gl f az (.str s):=by
 unfold ZgH at h
 split at h
 · rename_i t T e
   have ht:t=s:=by simpa using h
   subst ht
   obtain⟨H',h1,_⟩:=Zfm (P:=Y00) (gl:=gl) (tbl:=[]) m f az TH.empty _ T e [] Rep.empty
   intro sn W cargs hg hR ha
   refine ((Z64 follows Z05 Zgg m f az [] _ _ h1 sn noI W cargs hg hR ha).calls hf).mono ?_
   rintro e W' ⟨v,sn',ι',rfl,hv,hs⟩
   exact⟨_,rfl,Stq.ext (Stp.q (k:=0) hR hs),by simpa only[VR]using hv⟩
 ·cases h
theorem Zq7:((List.range 40).all λn=>ZgH (spc n) (ZoV Y00 (λ_=>none) [] 100000 100 102 [.str [32,32],.int .i64 (Int.ofNat n)] TH.empty))=true:=by kernel_rfl
theorem Zq6(n:Nat)(hn:n<40):ValOK Y00 (λ_=>none) 102 [.str [32,32],.int .i64 n] (.str (spc n)):=ZiM Tryz.func102 (List.all_eq_true.1 Zq7 n (List.mem_range.2 hn))
theorem ZsH(n:Nat)(hn:n<40):ValOK Y00 gl 102 [.str [32,32],.int .i64 n] (.str (spc n)):=λsn W cargs hg hR ha=>Zq6 n hn sn W cargs (λg cs h=>by cases h) hR ha
end
end Go.Proofs.YtkkfcfjhhdmamaaGreatDoor.lex
section
namespace Go.Proofs.YtkkfcfjhhdmamaaGreatDoor.lex
open Go.Abs Go.RowKit Go.Sort
theorem Zct(W:World):Ext W W:=⟨λ_ _=>rfl,Y0i _,rfl,rfl,rfl⟩
theorem ZrA:∀n:Nat,Z4r n=Lib.decDigits n:=by
 intro n
 induction n using Nat.strongRecOn with
 |_ n ih =>
  rw[Z4r,Lib.decDigits]
  by_cases h:n<10
  ·rw[if_pos h,dif_pos h]
  ·rw[if_neg h,dif_neg h,ih (n / 10) (by omega)]
section
variable {gl:Z0l}
theorem Znc(u:Nat)(h:u<18446744073709551616):ValOK Y00 gl 116 [.int .u64 u] (.int .i64 (Lib.bitLen u)):=by
 intro sn W cargs hg hR ha
 simp only[LR]at ha
 obtain⟨v1,_,rfl,h1,rfl⟩:=ha
 cases h1.int
 refine (Any.bits_Len64 shelf.fblen u W (by omega) (by omega)).mono ?_
 rintro e W' ⟨rfl,rfl⟩
 exact⟨_,rfl,Zct _,by simp[VR]⟩
theorem Zn4(x:Nat)(h:x<=64):ValOK Y00 gl 115 [.int .i64 x] (.int .i64 (Lib.l10 x)):=by
 intro sn W cargs hg hR ha
 simp only[LR]at ha
 obtain⟨v1,_,rfl,h1,rfl⟩:=ha
 cases h1.int
 refine (Any.internal_strconv_log10Pow2 shelf.fblog x h W).mono ?_
 rintro e W' ⟨rfl,rfl⟩
 exact⟨_,rfl,Zct _,by simp[VR]⟩
theorem Zo1(b:Bool):ValOK Y00 gl 117 [.bool b] (.int .i64 (if b then 1 else 0)):=by
 intro sn W cargs hg hR ha
 simp only[LR]at ha
 obtain⟨v1,_,rfl,h1,rfl⟩:=ha
 cases h1.bool
 refine (Any.internal_strconv_bool2_int shelf.fbbool b W).mono ?_
 rintro e W' ⟨rfl,rfl⟩
 exact⟨_,rfl,Zct _,by simp[VR]⟩
end
theorem Zls(u:Nat)(h:u<18446744073709551616):Lib.bitLen u<=64:=Lib.bitLen_le u 64 (Y0i _) h
def Zot:List AV:=(List.range 20).map λi=>AV.int .u64 ((10 ^ i:Nat):Int)
theorem p10:runLives.tbl2=Zot:=by kernel_rfl
theorem ZsN(j:Nat)(h:j<20):tk 1 (runLives.tbl2.drop (j*1))=some [.int .u64 ((10 ^ j:Nat):Int)]:=by
 have:=Z7s (λi:Nat=>AV.int .u64 ((10 ^ i:Nat):Int)) (List.range 20) j (by simpa using h) (off:=j*1) (by omega)
 rw[p10];simpa[Zot]using this
theorem Zul(u:Nat)(h1:1<=u)(h2:u<18446744073709551616):ValOK Y00 runLives.gl 99 [.int .u64 u] (.int .i64 (Lib.nDigits u)):=by
 obtain⟨O,hO,q1,q2,q3,-⟩:=fams (P:=Y00) (gl:=runLives.gl) [
  { I:=Nat,f:=116,G:=(λu=>u<18446744073709551616),A:=(λu=>[.int .u64 u]),R:=(λu=>.int .i64 (Lib.bitLen u)),body:=(by kernel_rfl),inj:=(λi j _ _ h=>by simp only[List.cons.injEq,AV.int.injEq,true_and,and_true]at h;rw[Y0r.1 h]),ok:=(λu h=>⟨rfl,Znc u h⟩) },
  { I:=Nat,f:=115,G:=(λu=>u<=64),A:=(λu=>[.int .i64 u]),R:=(λu=>.int .i64 (Lib.l10 u)),body:=(by kernel_rfl),inj:=(λi j _ _ h=>by simp only[List.cons.injEq,AV.int.injEq,true_and,and_true]at h;rw[Y0r.1 h]),ok:=(λu h=>⟨rfl,Zn4 u h⟩) },
  { I:=Bool,f:=117,G:=(λ_=>True),A:=(λb=>[.bool b]),R:=(λb=>.int .i64 (if b then 1 else 0)),body:=(by kernel_rfl),inj:=(λi j _ _ h=>by simp only[List.cons.injEq,AV.bool.injEq,and_true]at h;rw[h]),ok:=(λb _=>⟨rfl,Zo1 b⟩) }] rfl
 have r1:∀H,Z03 Y00 O H 116 [.int .u64 u]=some (.int .i64 (Lib.bitLen u),H):=q1 u h2
 have r2:∀H,Z03 Y00 O H 115 [.int .i64 (Lib.bitLen u)]=some (.int .i64 (Lib.l10 (Lib.bitLen u)),H):=q2 _ (Zls u h2)
 have r3:∀b H,Z03 Y00 O H 117 [.bool b]=some (.int .i64 (if b then 1 else 0),H):=λb=>q3 b trivial
 clear q1 q2 q3
 obtain⟨e1,e2⟩:=Lib.numDigits_eq u h1 h2
 generalize Lib.nDigits u=nd at *
 generalize Lib.l10 (Lib.bitLen u)=l at *
 generalize Lib.bitLen u=bl at *
 have hp:=ZsN l (by omega)
 have hd:decide ((u:Int) >= ((10 ^ l:Nat):Int))=decide (10 ^ l<=u):=by
  have:((u:Int) >= ((10 ^ l:Nat):Int)) ↔ 10 ^ l<=u:=by omega
  simp only[this]
 have hw:IntKind.i64.wrap ((l:Int)+(if decide (10 ^ l<=u) then 1 else 0))=(nd:Int):=by
  have:((l:Int)+(if decide (10 ^ l<=u)=true then 1 else 0))=(nd:Int):=by
   rw[<- e1];by_cases h:10 ^ l<=u<;>simp[h]
  rw[this];exact Z2M (by omega) (by split at e1<;>omega)
 refine Z0d follows Z05 hO Tryz.func99 rfl ?_
 repeat' ((conv=>whnf);first|with_reducible refine exI (r1 _) ?_|with_reducible refine exI (r2 _) ?_|(rw[hd];with_reducible refine exI (r3 _ _) ?_)|refine exI hp ?_|(with_reducible refine ixJ l rfl ?_ ?_;focus omega)|(with_reducible refine exW hw ?_)|refine stp ?_|with_reducible apply Z01<;>intro h)
 all_goals rfl
def Zu0(n:Nat):List UInt8:=if n<10 then [UInt8.ofNat (48+n)] else [UInt8.ofNat (48+n / 10),UInt8.ofNat (48+n % 10)]
theorem ZrB(n:Nat)(h:n<100):Zu0 n=Z4r n:=by
 unfold Zu0
 by_cases h1:n<10
 ·rw[if_pos h1,ZkE h1]
 ·rw[if_neg h1,ZnM h1,ZkE (by omega)];rfl
theorem Ztj:((List.range 100).all λn=>ZgH (Zu0 n) (ZoV Y00 (λ_=>none) [] 100000 100 34 [.int .i64 (Int.ofNat n),.int .i64 10] TH.empty))=true:=by kernel_rfl
theorem Znu{gl:Z0l}(n:Nat)(hn:n<100):ValOK Y00 gl 34 [.int .i64 n,.int .i64 10] (.str (Z4r n)):=by
 have h:ValOK Y00 (λ_=>none) 34 [.int .i64 n,.int .i64 10] (.str (Zu0 n)):=ZiM Tryz.func34 (List.all_eq_true.1 Ztj n (List.mem_range.2 hn))
 rw[ZrB n hn]at h
 exact λsn W cargs hg hR ha=>h sn W cargs (λg cs h=>by cases h) hR ha
theorem ZvJ:Z5W Y00 65 9=true:=by kernel_rfl
theorem Zop {P : Program} {orc : Orc} {ρ : Operand -> Option AV} {o : Oper} {H : Z00} {t e : TypeId} {x lo hi : Operand} {b off f sh n z : Nat} {cs : List AV} {ty : TypeId} (l h off' len' cap' : Nat) (ho : o.op = .slice t x (some lo) (some hi) none) (hx : ρ x = some (.ptr b off)) (hlo : ρ lo = some (.int .i64 (l : Int))) (hhi : ρ hi = some (.int .i64 (h : Int)))
  (ht:P.underlying t=some (.array n e)/\tsz P e=some z) (hH:H[b]? = some ⟨true,f,sh,.cells cs ty⟩) (hc:Nat.ble (off+n*z) cs.length=true) (h1:l<=h) (h2:h<=n) (e1:off+l*z=off') (e2:h-l=len') (e3:n-l=cap'):aop P orc ρ o H=some (.slice b off' len' cap' z,H):=by
 subst e1;subst e2;subst e3
 have c1:bnd (some (.int .i64 (h:Int))) n n=some h:=by simp only[bnd];rw[if_pos (by omega),Y0x]
 have c2:bnd (some (.int .i64 (l:Int))) 0 h=some l:=by simp only[bnd];rw[if_pos (by omega),Y0x]
 simp only[aop,Z04,Z0u,Z3l,ho,hx,hlo,hhi,Z7o,Z5i,Z3e,ht.1,ht.2,hH,hc,c1,c2,if_true]
theorem ZvB:Y00.underlying 146=some (.array 24 5)/\tsz Y00 5=some 1:=⟨by kernel_rfl,by kernel_rfl⟩
theorem ZsU(u:Nat)(h1:1<=u)(h2:u<18446744073709551616):Lib.nDigits u<=20:=by
 obtain⟨e1,e2⟩:=Lib.numDigits_eq u h1 h2
 split at e1<;>omega
theorem Zti(u:Nat)(h1:100<=u)(h2:u<=9223372036854775807):ValOK Y00 runLives.gl 71 [.int .i64 u,.int .i64 10] (.str (Z4r u)):=by
 obtain⟨O,hO,⟨q2,-⟩,⟨q1,-⟩⟩:=Z13 (P:=Y00) (gl:=runLives.gl) [
  { I := Unit, f := 100, G := (fun _ => True), A := (fun _ => [.slice 0 1 (Lib.nDigits u) 23 1, .int .u64 u]), H := (fun _ => [⟨true, 0, 0, .cells (byt (List.replicate 24 0)) 146⟩]), R := (fun _ => .tuple []), O := (fun _ => [⟨true, 0, 0, .cells (byt ((List.replicate 24 0).take 1 ++ (Lib.decDigits u ++ (List.replicate 24 0).drop (1 + Lib.nDigits u)))) 146⟩]), body := (by kernel_rfl), inj := (fun _ _ _ _ _ _ => ⟨rfl, rfl⟩),
    ok:=(λ_ _=>ZuH u (by omega) (List.replicate 24 0) (by simp) (by have:=ZsU u (by omega) (by omega);omega) 23 _) }] [
  { I:=Unit,f:=99,G:=(λ_=>True),A:=(λ_=>[.int .u64 u]),R:=(λ_=>.int .i64 (Lib.nDigits u)),body:=(by kernel_rfl),inj:=(λ_ _ _ _ _=>rfl),ok:=(λ_ _=>⟨rfl,Zul u (by omega) (by omega)⟩) }] rfl
 have r1:∀H,Z03 Y00 O H 99 [.int .u64 u]=some (.int .i64 (Lib.nDigits u),H):=q1 () trivial
 have r2:=q2 () trivial
 dsimp only at r2
 clear q1 q2
 have hlen:=Lib.decDigits_length u
 rw[ZrA]
 have hnd:Lib.nDigits u<=20:=ZsU u (by omega) (by omega)
 generalize Lib.decDigits u=D at *
 generalize Lib.nDigits u=nd at *
 have hlenB:(byt ((List.replicate 24 (0:UInt8)).take 1++(D++(List.replicate 24 0).drop (1+nd)))).length=24:=by rw[Zaf];simp only[Y02,List.length_take,List.length_drop,List.length_replicate];omega
 have hble:Nat.ble (0+24*1) (byt ((List.replicate 24 (0:UInt8)).take 1++(D++(List.replicate 24 0).drop (1+nd)))).length=true:=by rw[hlenB];rfl
 have hcv:tk nd ((byt ((List.replicate 24 (0:UInt8)).take 1++(D++(List.replicate 24 0).drop (1+nd)))).drop 1)=some (byt D):=by
  have h:(byt ((List.replicate 24 (0:UInt8)).take 1++(D++(List.replicate 24 0).drop (1+nd)))).drop 1=byt D++byt ((List.replicate 24 (0:UInt8)).drop (1+nd)):=by rw[<- Zln];rfl
  rw[h,<- hlen,<- Zaf D];exact Zgc _ _
 have e1:decide ((0:Int)<=(u:Int))=true:=by simp
 have e2:decide ((u:Int)<100)=false:=by simp;omega
 have e3:decide ((u:Int)<0)=false:=by simp
 have w1:IntKind.u64.wrap (u:Int)=(u:Int):=by simp[IntKind.wrap,IntKind.bits,IntKind.signed];omega
 have w2:IntKind.i64.wrap (1+(nd:Int))=((1+nd:Nat):Int):=by
  have:1+(nd:Int)=((1+nd:Nat):Int):=by omega
  rw[this];exact Z2M (by omega) (by omega)
 refine Z0d follows Z05 hO Tryz.func71 rfl ?_
 repeat' ((conv=>whnf);first|(rw[w1];with_reducible refine exI (r1 _) ?_)|refine exI r2 ?_|refine exI (Zop 1 (1+nd) 1 nd 23 rfl rfl rfl rfl ZvB rfl rfl (by omega) (by omega) rfl (by omega) rfl) ?_|refine exI (Zop 1 (1+nd) 1 nd 23 rfl rfl rfl rfl ZvB rfl hble (by omega) (by omega) rfl (by omega) rfl) ?_|refine exI (ZrC D rfl rfl ZvJ rfl hcv) ?_|(with_reducible refine exW w1 ?_)|(with_reducible refine exW w2 ?_)|refine stp ?_|with_reducible apply Z01<;>intro h)
 all_goals rfl
theorem Ztf(n:Int)(h0:0<=n)(h1:rgI n):ValOK Y00 runLives.gl 34 [.int .i64 n,.int .i64 10] (.str (Zd2 n)):=by
 obtain⟨u,rfl⟩:∃u:Nat,n=u:=⟨n.toNat,by omega⟩
 have h2:u<=9223372036854775807:=by have:=h1.2;omega
 show ValOK Y00 runLives.gl 34 [.int .i64 u,.int .i64 10] (.str (Z4r (u:Int).toNat))
 rw[Y0x]
 by_cases hs:u<100
 ·exact Znu u hs
 · obtain⟨O,hO,q1,-⟩:=fams (P:=Y00) (gl:=runLives.gl) [{ I:=Unit,f:=71,G:=(λ_=>True),A:=(λ_=>[.int .i64 u,.int .i64 10]),R:=(λ_=>.str (Z4r u)),body:=(by kernel_rfl),inj:=(λ_ _ _ _ _=>rfl),ok:=(λ_ _=>⟨rfl,Zti u (by omega) h2⟩) }] rfl
   have r1:∀H,Z03 Y00 O H 71 [.int .i64 u,.int .i64 10]=some (.str (Z4r u),H):=q1 () trivial
   clear q1
   refine Z0d follows Z05 hO Tryz.func34 rfl ?_
   repeat' ((conv=>whnf);first|with_reducible refine exI (r1 _) ?_|refine stp ?_|with_reducible apply Z01<;>intro h)
   all_goals rfl
end Go.Proofs.YtkkfcfjhhdmamaaGreatDoor.lex
end
namespace Go.Proofs.YtkkfcfjhhdmamaaGreatDoor.lex
open Go.Abs Go.RowKit
section
variable {gl:Z0l}
abbrev tW:TypeId:=69
abbrev tB:TypeId:=5
theorem apB:Zhl Y00 65 9=some (5,1,1):=by kernel_rfl
theorem ZuZ:Y00.underlying 162=some .unsafePointer:=by kernel_rfl
theorem Zv0:Y00.underlying 64=some (.pointer 67):=by kernel_rfl
theorem ZvG:liesAt Y00 Y00.depth 69 1 0 67 1=true:=by kernel_rfl
theorem ZvH:Y00.cellsOf 69=3:=by kernel_rfl
theorem ZvF:tsz Y00 67=some 2:=by kernel_rfl
theorem ZvW{H:Z00}{b f:Nat}{c1 c2 c3:AV}(h:H[b]? = some ⟨true,f,0,.cells [c1,c2,c3] tW⟩):Z5Y Y00 162 64 b 0 H=true:=by
 unfold Z5Y
 simp only[h,ZuZ,Zv0,ZvF,ZvH,ZvG]
 rfl
theorem Ztz{orc:Orc}{ρ : Operand->Option AV}{o:Oper}{x:Operand}{H:Z00}{b f:Nat}{c1 c2 c3:AV}(ho:o.op = .convert 162 64 x)(hx : ρ x=some (.ptr b 0))(h:H[b]? = some ⟨true,f,0,.cells [c1,c2,c3] tW⟩):aop Y00 orc ρ o H=some (.ptr b 0,H):=by
 have hc:=ZvW h
 simp[aop,Z04,Z0u,Z3l,ho,hx,ZfV,ZuZ,Zv0,Z8q,hc]
theorem ZdN(l:List (List UInt8))(i:Nat)(h:i<l.length):(l.take (i+1)).flatten=(l.take i).flatten++l[i]:=by
 rw[List.take_succ_eq_append_getElem h,List.flatten_append];simp only[List.flatten_cons,List.flatten_nil,Y0p]
theorem Zra(l:List (List UInt8))(i:Nat)(h:i<l.length):(l.take i).flatten.length+l[i].length<=l.flatten.length:=by
 have h1:l=l.take (i+1)++l.drop (i+1):=(List.take_append_drop _ _).symm
 have h2:=congrArg (λm=>m.flatten.length) h1
 simp only[List.flatten_append,Y02,ZdN l i h]at h2
 omega
theorem ZsJ (l : List (List UInt8)) (s : List UInt8) (d : Int) (hl : l.length <= 100) (h0 : s = [] -> ∃ x t, l = x :: t /\ x ≠ []) (hb : (s ++ l.flatten).length <= 1073741824) :
  MemQ Y00 gl 1 33 [.ptr 0 0,.rs l.length 1 (l.map AV.str)] (WH tW tB s d) (.tuple []) (WH tW tB (s++l.flatten) d):=by
 refine Z1J (λg=>false) 3 follows Z05 Z0h Tryz.func33 rfl ?_
 repeat' ((conv=>whnf);first|refine stp ?_|with_reducible apply Z01<;>intro h)
 conv=>whnf
 have hz:∀s:List UInt8,∃m,ZeB 1 0 m=true/\HpGe (WH tW tB s d) m m (WH tW tB s d) 0/\Z0F (m.map (Z0O (WH tW tB s d)))=true/\m[0]? = some 0:=by
  intro s
  cases s with
  |nil=>exact⟨[0],rfl,Zoh rfl rfl,rfl,rfl⟩
  |cons x s=>exact⟨[0,1],rfl,ZeJ (s:=x::s) (Y07 _ _) rfl rfl rfl rfl rfl,rfl,rfl⟩
 refine⟨Nat×List UInt8,(λp=>p.1<=l.length/\p.2=s++(l.take p.1).flatten/\(p.2=[]->p.1=0)),(λp=>[(0,.ptr 0 0),(6,.rs l.length 1 (l.map AV.str)),(7,.int .i64 l.length),(8,.int .i64 p.1)]),(λp=>WH tW tB p.2 d),(λp=>l.length-p.1),⟨(0,s),⟨Y0b _,by simp,λ_=>rfl⟩,?_⟩,?_⟩
 · obtain⟨m,m1,m2,m3,m4⟩:=hz s
   refine FgLK.mk m m1 rfl ?_ m2 m3
   refine Y01 (Y05 m4 rfl) ?_
   refine Y01 (Y0a rfl) ?_
   refine Y01 (Y06 rfl) ?_
   exact⟨Y06 rfl,trivial⟩
 rintro⟨i,acc⟩ ⟨h1,h2,h3⟩
 dsimp only at h1 h2 h3
 dsimp only
 clear hz
 by_cases hlt:i<l.length
 · have e1:decide ((i:Int)<(l.length:Int))=true:=by simpa using hlt
   have hx:=Z7s AV.str l i hlt (off:=i*1) (by omega)
   have hft:=ZdN l i hlt
   have hfl:=Zra l i hlt
   have hh:acc=[]->l[i]≠[]:=by
    intro e
    have hi:=h3 e
    subst hi
    rw[e]at h2
    have hs:s=[]:=by
     have:=h2.symm
     simp at this;exact this
    obtain⟨x',t',rfl,hx'⟩:=h0 hs
    simpa using hx'
   generalize l[i]=x at *
   have hab:acc.length+x.length<=1073741824:=by
    rw[h2,Y02]
    rw[Y02]at hb;omega
   have h4:acc++x=s++(l.take (i+1)).flatten:=by rw[hft,h2,List.append_assoc]
   clear hft hfl hb h0 h2
   cases acc with
   |nil =>
    have hne:=hh rfl
    obtain⟨c,t,rfl⟩:∃c t,x=c::t:=by cases x with|nil=>exact absurd rfl hne|cons c t=>exact⟨c,t,rfl⟩
    simp only[WH]
    repeat' ((conv=>whnf);first|refine exI (Ztz rfl rfl rfl) ?_|refine exI hx ?_|refine exI (ZlA apB (xs:=byt (c::t)) (n:=(c::t).length) rfl (by simp) ⟨by simp at hab⊢;omega,by simp at hab⊢;omega⟩) ?_|(with_reducible refine ixJ i rfl ?_ ?_;focus omega)|refine stp ?_|with_reducible apply Z01<;>intro h)
    conv=>whnf
    refine⟨(i+1,c::t),⟨hlt,h4,λe=>by cases e⟩,by show l.length-(i+1)<l.length-i;omega,FgLK.mk [0,1] rfl rfl ?_ (ZeJ (s:=c::t) (Y07 _ _) rfl rfl rfl rfl rfl) rfl⟩
    refine Y01 (Y05 rfl rfl) ?_
    refine Y01 (Y0a rfl) ?_
    refine Y01 (Y06 rfl) ?_
    exact⟨Y06 rfl,trivial⟩
   |cons y u =>
    simp only[WH]
    by_cases hxe:x=[]
    · subst hxe
      repeat' ((conv=>whnf);first|refine exI hx ?_|refine exI (Zhj apB rfl) ?_|(with_reducible refine ixJ i rfl ?_ ?_;focus omega)|refine stp ?_|with_reducible apply Z01<;>intro h)
      conv=>whnf
      refine⟨(i+1,y::u),⟨hlt,by rw[<- h4];simp,λe=>by cases e⟩,by show l.length-(i+1)<l.length-i;omega,FgLK.mk [0,1] rfl rfl ?_ (ZeJ (s:=y::u) (Y07 _ _) rfl rfl rfl rfl rfl) rfl⟩
      refine Y01 (Y05 rfl rfl) ?_
      refine Y01 (Y0a rfl) ?_
      refine Y01 (Y06 rfl) ?_
      exact⟨Y06 rfl,trivial⟩
    · have hxl:x.length≠0:=λe=>hxe (Y0v e)
      repeat' ((conv=>whnf);first|refine exI hx ?_|refine exI (Zlz apB (xs:=byt x) (n:=x.length) (cs:=byt (y::u)) rfl rfl (Zky (by simp[ABody.len])) ((Zaf _).trans (Nat.mul_one _).symm) (ZrT x) hxl ⟨by simp at hab⊢;omega,by simp at hab⊢;omega⟩) ?_|(with_reducible refine ixJ i rfl ?_ ?_;focus omega)|refine stp ?_|with_reducible apply Z01<;>intro h)
      conv=>whnf
      refine⟨(i+1,y::(u++x)),⟨hlt,h4,λe=>by cases e⟩,by show l.length-(i+1)<l.length-i;omega,FgLK.mk [0,2] rfl rfl ?_ (ZeJ (s:=y::(u++x)) (Y07 _ _) rfl rfl (show (y::u).length+x.length=(y::(u++x)).length by simp;omega) rfl (show byt (y::u)++byt x=byt (y::(u++x)) by rw[<- Zln];rfl)) rfl⟩
      refine Y01 (Y05 rfl rfl) ?_
      refine Y01 (Y0a rfl) ?_
      refine Y01 (Y06 rfl) ?_
      exact⟨Y06 rfl,trivial⟩
 · have e1:decide ((i:Int)<(l.length:Int))=false:=by simpa using hlt
   have hi2:i=l.length:=by omega
   subst hi2
   rw[Y0e]at h2
   subst h2
   cases hc:s++l.flatten with
   |nil =>
    have:=h3 hc
    simp only[WH]
    repeat' ((conv=>whnf);first|refine stp ?_|with_reducible apply Z01<;>intro h)
    conv=>whnf
    exact⟨[0],rfl,Zoh (tB:=tB) rfl rfl,rfl,Y0a rfl⟩
   |cons y u =>
    simp only[WH]
    repeat' ((conv=>whnf);first|refine stp ?_|with_reducible apply Z01<;>intro h)
    conv=>whnf
    exact⟨[0,1],rfl,ZeJ (s:=y::u) (Y07 _ _) rfl rfl rfl rfl rfl,rfl,Y0a rfl⟩
end
section
abbrev rgl:Z0l:=runLives.gl
theorem Zgj:∀{a b:List (List UInt8)},a.map AV.str=b.map AV.str->a=b
 |[],[],_=>rfl
 |[],_::_,h=>by simp at h
 |_::_,[],h=>by simp at h
 |x::a,y::b,h=>by
  simp only[List.map_cons,List.cons.injEq,AV.str.injEq]at h
  rw[h.1,Zgj h.2]
def wmPut:WM Y00 rgl tW tB where
 f:=33
 X:=List (List UInt8)×Int
 G:=λx=>x.1.length<=100
 G0:=λx=>∃a t,x.1=a::t/\a≠[]
 A:=λx=>[.rs x.1.length 1 (x.1.map AV.str)]
 D:=λx=>x.2
 T:=λx=>x.1.flatten
 L:=1073741824
 body:=by kernel_rfl
 inj:=by
  rintro x y _ _ h _
  simp only[List.cons.injEq,AV.rs.injEq,and_true,true_and]at h
  rw[Zgj h.2]
 ne:=by
  rintro x _ ⟨a,t,e,ha⟩
  rw[e];simp[ha]
 ok:=λx g s h0 hb=>ZsJ x.1 s x.2 g h0 hb
theorem Z1S {O : Orc} (h : wmPut.fam.Ask O) (l : List (List UInt8)) (t : List UInt8) (ht : l.flatten = t) (hl : Nat.ble l.length 100 = true) {s : List UInt8} {b c fb fc : Nat} {H : Z00} {rest : List AV} {d : Int} (hs : s ≠ []) (hb : (s ++ t).length <= 1073741824) (e2 : H[b]? = some ⟨true, fb, 0, .cells [.ptr b 0, .slice c 0 s.length s.length 1, .int .i64 d] tW⟩)
  (e1:H[c]? = some ⟨true,fc,0,.cells (byt s) tB⟩) (e3:Y0q fb fc=false) (e4:Z3T [b,c] [fb,fc] 0 H=true) (e5:Z22 (Z7O [b,c] (Zav [b,c] H) 30) rest=some [.rs l.length 1 (l.map AV.str)]) :
  Z03 Y00 O H 33 (.ptr b 0::rest)=some (.tuple [],ZlV tW tB H b c fb fc (s++t) d):=by
 subst ht;exact WM.ask1 (W:=wmPut) h (l,d) (Nat.le_of_ble_eq_true hl) hs hb e1 e2 e3 e4 e5
theorem ZeA {O : Orc} (h : wmPut.fam.Ask O) (a : List UInt8) (l : List (List UInt8)) (t : List UInt8) (ht : (a :: l).flatten = t) (hl : Nat.ble (a :: l).length 100 = true) (ha : a ≠ []) {b fb : Nat} {H : Z00} {rest : List AV} {d : Int} (hb : t.length <= 1073741824) (e1 : H[b]? = some ⟨true, fb, 0, .cells [.nptr, .nslice, .int .i64 d] tW⟩)
  (e2:Z3T [b] [fb] 0 H=true) (e3:ZaD H.length H=true) (e4:Z22 (Z7O [b] (Zav [b] H) 30) rest=some [.rs (a::l).length 1 ((a::l).map AV.str)]) :
  Z03 Y00 O H 33 (.ptr b 0::rest)=some (.tuple [],ZlW tW tB H b fb t d):=by
 subst ht;exact WM.ask0 (W:=wmPut) h (a::l,d) (Nat.le_of_ble_eq_true hl) ⟨a,l,rfl,ha⟩ hb e1 e2 e3 e4
def Ztn:Fam Y00 rgl:={ I:=Nat,f:=102,G:=(λn=>n<40),A:=(λn=>[.str [32,32],.int .i64 n]),R:=(λn=>.str (spc n)),body:=(by kernel_rfl),inj:=(λi j _ _ h=>by simp only[List.cons.injEq,AV.int.injEq,true_and,and_true]at h;rw[Y0r.1 h]),ok:=(λn h=>⟨rfl,ZsH n h⟩) }
theorem Zo3(n:Nat)(hn:n<40)(s:List UInt8)(hs:s≠[])(hb:(s++spc n).length<=1073741824):MemQ Y00 rgl 1 72 [.ptr 0 0] (WH tW tB s n) (.tuple []) (WH tW tB (s++spc n) n):=by
 obtain⟨O,hO,⟨p1,-⟩,⟨p2,-⟩⟩:=Z13 (P:=Y00) (gl:=rgl) [wmPut.fam] [Ztn] rfl
 have q2:∀H,Z03 Y00 O H 102 [.str [32,32],.int .i64 n]=some (.str (spc n),H):=p2 n hn
 obtain⟨c,t,rfl⟩:∃c t,s=c::t:=by cases s with|nil=>exact absurd rfl hs|cons c t=>exact⟨c,t,rfl⟩
 generalize spc n=sp at *
 refine Z0K follows Z05 hO Tryz.func72 rfl ?_
 simp only[WH]
 repeat' ((conv=>whnf);first|with_reducible refine exI (q2 _) ?_|(refine Z0G (Z1S p1 [sp] sp (Y0p _) rfl (s:=c::t) ?_ ?_ rfl rfl rfl rfl rfl) ?_;(exact neS);(exact leS))|refine stp ?_|with_reducible apply Z01<;>intro h)
 conv=>whnf
 exact⟨[0,3],rfl,ZeJ (s:=c::t++sp) (Y07 _ _) rfl rfl rfl rfl rfl,rfl,Y0a rfl⟩
end
section
theorem Z65 {e : Ex} (h : Z0p e = true) : (∃ n, e = .mk 1 n [] [] /\ 0 <= n) \/ (∃ s, e = .mk 2 0 s [] /\ Z0Z s = true) \/ (∃ op a, (op = 3 \/ op = 4) /\ e = .mk op 0 [] [a] /\ Z0p a = true) \/
  (∃op a b,(5<=op/\op<=16)/\e = .mk op 0 [] [a,b]/\Z0p a=true/\Z0p b=true):=by
 obtain⟨op,num,name,kids⟩:=e
 simp only[Z0p,ZeC,Y0n,beq_iff_eq,Y0w,decide_eq_true_eq]at h
 obtain⟨⟨h1,h2,h3,h4,h5⟩,h6⟩:=h
 unfold Z69 at h1
 split at h1
 · rename_i hop
   have hk:kids=[]:=Y0v (by omega)
   subst hk
   rcases hop with rfl|rfl
   · have hn:name=[]:=by rcases h3 with h|h;exact absurd h (by decide);exact h
     subst hn
     exact .inl ⟨num,rfl,h4⟩
   · have hm:num=0:=by rcases h5 with h|h;exact absurd h (by decide);exact h
     subst hm
     exact .inr (.inl ⟨name,rfl,by simpa using h2.symm⟩)
 · rename_i ho1
   have hn:name=[]:=by rcases h3 with h|h;omega;exact h
   have hm:num=0:=by rcases h5 with h|h;omega;exact h
   subst hn;subst hm
   split at h1
   · rename_i hop
     match kids,h1,h6 with
     |[a],_,h6 =>
      simp only[rightL,Y0o]at h6
      exact .inr (.inr (.inl ⟨op,a,hop,rfl,h6⟩))
     |[],h1,_=>simp at h1
     |_::_::_,h1,_=>simp only[Y03]at h1;omega
   · split at h1
     · rename_i hop
       match kids,h1,h6 with
       |[a,b],_,h6 =>
        simp only[rightL,Y0o,Y0n]at h6
        exact .inr (.inr (.inr ⟨op,a,b,hop,rfl,h6.1,h6.2⟩))
       |[],h1,_=>simp at h1
       |[_],h1,_=>simp at h1
       |_::_::_::_,h1,_=>simp only[Y03]at h1;omega
     ·omega
theorem Z8F{s:List UInt8}(h:Z0Z s=true):s≠[]:=by rintro rfl;cases h
theorem Zoq{op:Int}(h:op=3\/op=4):Z46 op≠[]:=by rcases h with rfl|rfl<;>decide
theorem ZfZ{e:Ex}(h:Z0p e=true):wrE e≠[]:=by
 rcases Z65 h with ⟨n,rfl,_⟩|⟨s,rfl,hs⟩|⟨op,a,hop,rfl,_⟩|⟨op,a,b,hop,rfl,_⟩
 ·simp only[wrE,wrL,wrC];exact Za7 _
 ·simp only[wrE,wrL,wrC];exact Z8F hs
 · simp only[wrE,wrL,wrC]
   rw[if_neg (by omega),if_neg (by omega)]
   simp[Zoq hop]
 · simp only[wrE,wrL,wrC]
   rw[if_neg (by omega),if_neg (by omega)]
   simp
theorem Zp7{p:Int×List UInt8}{n:Int}(h:p.2≠[]):brk p n≠[]:=by
 unfold brk;split
 ·simp
 ·exact h
def Z3D(e:Ex)(least:Int):Prop:=∀(s:List UInt8)(d:Int),(s++brk (e.op,wrE e) least).length<=1073741824->MemQ Y00 rgl 1 49 [.ptr 0 0,.agg e.cells,.int .i64 least] (WH tW tB s d) (.tuple []) (WH tW tB (s++brk (e.op,wrE e) least) d)
def Z86(K:Ex->Int->Prop)(hne:∀e l,K e l->Z0p e=true)(hok:∀e l,K e l->Z3D e l):WM Y00 rgl tW tB where
 f:=49
 X:=Ex×Int×Int
 G:=λx=>K x.1 x.2.1
 G0:=λ_=>True
 A:=λx=>[.agg x.1.cells,.int .i64 x.2.1]
 D:=λx=>x.2.2
 T:=λx=>brk (x.1.op,wrE x.1) x.2.1
 L:=1073741824
 body:=by kernel_rfl
 inj:=by
  rintro x y _ _ h _
  simp only[List.cons.injEq,AV.int.injEq,and_true,true_and]at h
  have:=ZcO (a:=x.1) (b:=y.1) (by rw[h.1])
  rw[this,h.2]
 ne:=λx g _=>Zp7 (ZfZ (hne _ _ g))
 ok:=λx g s _ hb=>hok x.1 x.2.1 g s x.2.2 hb
theorem Zko{K:Ex->Int->Prop}{hne:∀e l,K e l->Z0p e=true}{hok:∀e l,K e l->Z3D e l}{O:Orc}(h:(Z86 K hne hok).fam.Ask O)(e:Ex)(l:Int)(g:K e l){s:List UInt8}{b c fb fc:Nat}{H:Z00}{rest:List AV}{d:Int}(hs:s≠[])(hb:(s++brk (e.op,wrE e) l).length<=1073741824)
 (e2:H[b]? = some ⟨true,fb,0,.cells [.ptr b 0,.slice c 0 s.length s.length 1,.int .i64 d] tW⟩) (e1:H[c]? = some ⟨true,fc,0,.cells (byt s) tB⟩) (e3:Y0q fb fc=false) (e4:Z3T [b,c] [fb,fc] 0 H=true) (e5:Z22 (Z7O [b,c] (Zav [b,c] H) 30) rest=some [.agg e.cells,.int .i64 l]) :
 Z03 Y00 O H 49 (.ptr b 0::rest)=some (.tuple [],ZlV tW tB H b c fb fc (s++brk (e.op,wrE e) l) d):=WM.ask1 (W:=Z86 K hne hok) h (e,l,d) g hs hb e1 e2 e3 e4 e5
theorem Ztp{K:Ex->Int->Prop}{hne:∀e l,K e l->Z0p e=true}{hok:∀e l,K e l->Z3D e l}{O:Orc}(h:(Z86 K hne hok).fam.Ask O)(e:Ex)(l:Int)(g:K e l){b fb:Nat}{H:Z00}{rest:List AV}{d:Int}(hb:(brk (e.op,wrE e) l).length<=1073741824)
 (e1:H[b]? = some ⟨true,fb,0,.cells [.nptr,.nslice,.int .i64 d] tW⟩) (e2:Z3T [b] [fb] 0 H=true) (e3:ZaD H.length H=true) (e4:Z22 (Z7O [b] (Zav [b] H) 30) rest=some [.agg e.cells,.int .i64 l]) :
 Z03 Y00 O H 49 (.ptr b 0::rest)=some (.tuple [],ZlW tW tB H b fb (brk (e.op,wrE e) l) d):=WM.ask0 (W:=Z86 K hne hok) h (e,l,d) g trivial hb e1 e2 e3 e4
def ZdR:Fam Y00 rgl:={ I:=Int,f:=83,G:=(λ_=>True),A:=(λn=>[.int .i64 n]),R:=(λn=>.int .i64 (lev n)),body:=(by kernel_rfl),inj:=(λi j _ _ h=>by simp only[List.cons.injEq,AV.int.injEq,true_and,and_true]at h;rw[h]),ok:=(λn _=>⟨rfl,ZqG n⟩) }
def ZoX:Fam Y00 rgl:={ I:=Int,f:=24,G:=(λ_=>True),A:=(λn=>[.int .i64 n]),R:=(λn=>.str (Z46 n)),body:=(by kernel_rfl),inj:=(λi j _ _ h=>by simp only[List.cons.injEq,AV.int.injEq,true_and,and_true]at h;rw[h]),ok:=(λn _=>⟨rfl,Zq3 n⟩) }
def ZoY:Fam Y00 rgl:={ I:=Int,f:=22,G:=(λ_=>True),A:=(λn=>[.int .i64 n]),R:=(λn=>.str (Z5S n)),body:=(by kernel_rfl),inj:=(λi j _ _ h=>by simp only[List.cons.injEq,AV.int.injEq,true_and,and_true]at h;rw[h]),ok:=(λn _=>⟨rfl,Zqk n⟩) }
def ZoZ:Fam Y00 rgl:={ I:=Int,f:=34,G:=(λn=>0<=n/\rgI n),A:=(λn=>[.int .i64 n,.int .i64 10]),R:=(λn=>.str (Zd2 n)),body:=(by kernel_rfl),inj:=(λi j _ _ h=>by simp only[List.cons.injEq,AV.int.injEq,true_and,and_true]at h;rw[h]),ok:=(λn h=>⟨rfl,Ztf n h.1 h.2⟩) }
theorem ZnD{e:Ex}{least:Int}(hr:Z0p e=true)(hlt:lev e.op<least)(h0:Z3D e 0)(hl0:¬lev e.op<0):Z3D e least:=by
 intro s d hb
 have hne:=ZfZ hr
 obtain⟨O,hO,⟨p1,p2,-⟩,⟨p3,-⟩⟩:=Z13 (P:=Y00) (gl:=rgl) [wmPut.fam,(Z86 (λe' l=>e'=e/\l=0) (λe' l h=>by rw[h.1];exact hr) (λe' l h=>by rw[h.1,h.2];exact h0)).fam] [ZdR] rfl
 have q3:∀H,Z03 Y00 O H 83 [.int .i64 e.op]=some (.int .i64 (lev e.op),H):=p3 e.op trivial
 have ht:brk (e.op,wrE e) least=40::(wrE e++[41]):=if_pos hlt
 have ht0:brk (e.op,wrE e) 0=wrE e:=if_neg hl0
 rw[ht]at hb⊢
 have q1:=λ{s:List UInt8} {b c fb fc:Nat} {H:Z00} {rest:List AV} {d:Int} hs hb e2 e1 e3 e4 e5=>Zko p2 e 0 ⟨rfl,rfl⟩ (s:=s) (b:=b) (c:=c) (fb:=fb) (fc:=fc) (H:=H) (rest:=rest) (d:=d) hs hb e2 e1 e3 e4 e5
 rw[ht0]at q1
 obtain⟨lv,hlv⟩:∃lv,lev e.op=lv:=⟨_,rfl⟩
 rw[hlv]at q3 hlt
 have e1:decide (lv<least)=true:=by simpa using hlt
 clear ht ht0 h0 p2 p3 hl0 hlt hlv hr
 simp only[Y02,Y03,Y04]at hb
 generalize wrE e=w at *
 obtain⟨op,num,name,kids⟩:=e
 simp only[Ex.op,Ex.cells]at *
 generalize hN:WH tW tB (s++40::(w++[41])) d=N
 refine Z0K follows Z05 hO Y0t rfl ?_
 cases s with
 |nil =>
  simp only[WH]
  repeat' ((conv=>whnf);first|with_reducible refine exI (q3 _) ?_|(refine Z8y (ZeA p1  [40] [] [40]  rfl rfl (Y07 _ _) ?_ rfl rfl rfl rfl) ?_;(exact leS))|(refine Z0G (Z1S p1  [[41]] [41]  rfl rfl ?_ ?_ rfl rfl rfl rfl rfl) ?_;(exact neS);(exact leS))|(refine Z0G (q1 ?_ ?_ rfl rfl rfl rfl rfl) ?_;(exact neS);(exact leS))|refine stp ?_|with_reducible apply Z01<;>intro h)
  conv=>whnf
  (apply Z4o hN;rotate_left;rotate_left;(focus (exact rfl));(focus (exact rfl));(focus (exact rfl));(focus (exact rfl));(focus (simp;done));(exact neS))
 |cons c t =>
  simp only[WH]
  repeat' ((conv=>whnf);first|with_reducible refine exI (q3 _) ?_|(refine Z0G (Z1S p1  [[40]] [40]  rfl rfl ?_ ?_ rfl rfl rfl rfl rfl) ?_;(exact neS);(exact leS))|(refine Z0G (Z1S p1  [[41]] [41]  rfl rfl ?_ ?_ rfl rfl rfl rfl rfl) ?_;(exact neS);(exact leS))|(refine Z0G (q1 ?_ ?_ rfl rfl rfl rfl rfl) ?_;(exact neS);(exact leS))|refine stp ?_|with_reducible apply Z01<;>intro h)
  conv=>whnf
  (apply Z4o hN;rotate_left;rotate_left;(focus (exact rfl));(focus (exact rfl));(focus (exact rfl));(focus (exact rfl));(focus (simp;done));(exact neS))
theorem Zff{op:Int}(h:1<=op/\op<=16):1<=lev op/\lev op<=11:=by
 rcases Z4U op with hout|rfl|rfl|rfl|rfl|rfl|rfl|rfl|rfl|rfl|rfl|rfl|rfl|rfl|rfl|rfl|rfl
 ·omega
 all_goals decide
theorem ZbZ{e:Ex}(h:Z0p e=true):1<=e.op/\e.op<=16:=by
 rcases Z65 h with ⟨n,rfl,_⟩|⟨s,rfl,hs⟩|⟨op,a,hop,rfl,_⟩|⟨op,a,b,hop,rfl,_⟩
 all_goals (simp only[Ex.op];omega)
theorem ZnC{n:Int}(h0:0<=n)(h1:rgI n)(least:Int)(hl:least<=11):Z3D (.mk 1 n [] []) least:=by
 intro s d hb
 have ht:brk (Ex.op (.mk 1 n [] []),wrE (.mk 1 n [] [])) least=Zd2 n:=if_neg (show ¬(11:Int)<least by omega)
 rw[ht]at hb⊢
 obtain⟨O,hO,⟨p1,-⟩,⟨p3,p4,-⟩⟩:=Z13 (P:=Y00) (gl:=rgl) [wmPut.fam] [ZdR,ZoZ] rfl
 have q3:∀H,Z03 Y00 O H 83 [.int .i64 1]=some (.int .i64 11,H):=p3 (1:Int) trivial
 have q4:∀H,Z03 Y00 O H 34 [.int .i64 n,.int .i64 10]=some (.str (Zd2 n),H):=p4 n ⟨h0,h1⟩
 have e1:decide ((11:Int)<least)=false:=by simp only[decide_eq_false_iff_not];omega
 have hne:Zd2 n≠[]:=Za7 _
 clear p3 p4 ht
 simp only[Y02]at hb
 generalize Zd2 n=w at *
 simp only[Ex.cells]
 generalize hN:WH tW tB (s++w) d=N
 refine Z0K follows Z05 hO Y0t rfl ?_
 cases s with
 |nil =>
  simp only[WH]
  repeat' ((conv=>whnf);first|with_reducible refine exI (q3 _) ?_|with_reducible refine exI (q4 _) ?_|(refine Z8y (ZeA p1 w [] w (Y0p _) rfl hne ?_ rfl rfl rfl rfl) ?_;(exact leS))|refine stp ?_|with_reducible apply Z01<;>intro h)
  conv=>whnf
  (apply Z4o hN;rotate_left;rotate_left;(focus (exact rfl));(focus (exact rfl));(focus (exact rfl));(focus (exact rfl));(focus (simp;done));(exact neS))
 |cons c t =>
  simp only[WH]
  repeat' ((conv=>whnf);first|with_reducible refine exI (q3 _) ?_|with_reducible refine exI (q4 _) ?_|(refine Z0G (Z1S p1 [w] w (Y0p _) rfl ?_ ?_ rfl rfl rfl rfl rfl) ?_;(exact neS);(exact leS))|refine stp ?_|with_reducible apply Z01<;>intro h)
  conv=>whnf
  (apply Z4o hN;rotate_left;rotate_left;(focus (exact rfl));(focus (exact rfl));(focus (exact rfl));(focus (exact rfl));(focus (simp;done));(exact neS))
theorem ZnB{w:List UInt8}(hw:Z0Z w=true)(least:Int)(hl:least<=11):Z3D (.mk 2 0 w []) least:=by
 intro s d hb
 have ht:brk (Ex.op (.mk 2 0 w []),wrE (.mk 2 0 w [])) least=w:=if_neg (show ¬(11:Int)<least by omega)
 rw[ht]at hb⊢
 obtain⟨O,hO,⟨p1,-⟩,⟨p3,-⟩⟩:=Z13 (P:=Y00) (gl:=rgl) [wmPut.fam] [ZdR] rfl
 have q3:∀H,Z03 Y00 O H 83 [.int .i64 2]=some (.int .i64 11,H):=p3 (2:Int) trivial
 have e1:decide ((11:Int)<least)=false:=by simp only[decide_eq_false_iff_not];omega
 have hne:w≠[]:=Z8F hw
 clear p3 ht
 simp only[Y02]at hb
 simp only[Ex.cells]
 generalize hN:WH tW tB (s++w) d=N
 refine Z0K follows Z05 hO Y0t rfl ?_
 cases s with
 |nil =>
  simp only[WH]
  repeat' ((conv=>whnf);first|with_reducible refine exI (q3 _) ?_|(refine Z8y (ZeA p1 w [] w (Y0p _) rfl hne ?_ rfl rfl rfl rfl) ?_;(exact leS))|refine stp ?_|with_reducible apply Z01<;>intro h)
  conv=>whnf
  (apply Z4o hN;rotate_left;rotate_left;(focus (exact rfl));(focus (exact rfl));(focus (exact rfl));(focus (exact rfl));(focus (simp;done));(exact neS))
 |cons c t =>
  simp only[WH]
  repeat' ((conv=>whnf);first|with_reducible refine exI (q3 _) ?_|(refine Z0G (Z1S p1 [w] w (Y0p _) rfl ?_ ?_ rfl rfl rfl rfl rfl) ?_;(exact neS);(exact leS))|refine stp ?_|with_reducible apply Z01<;>intro h)
  conv=>whnf
  (apply Z4o hN;rotate_left;rotate_left;(focus (exact rfl));(focus (exact rfl));(focus (exact rfl));(focus (exact rfl));(focus (simp;done));(exact neS))
theorem Zrk{op:Int}(hop:op=3\/op=4){a:Ex}(hr:Z0p a=true)(ha:Z3D a 10)(least:Int)(hl:least<=10):Z3D (.mk op 0 [] [a]) least:=by
 intro s d hb
 have ht:brk (Ex.op (.mk op 0 [] [a]),wrE (.mk op 0 [] [a])) least=Z46 op++brk (a.op,wrE a) 10:=by
  have h1:lev op=10:=by rcases hop with rfl|rfl<;>rfl
  have h2:wrE (.mk op 0 [] [a])=Z46 op++brk (a.op,wrE a) 10:=by
   simp only[wrE,wrL,wrC]
   rw[if_neg (by omega),if_neg (by omega)]
  rw[<- h2]
  exact if_neg (show ¬lev op<least by omega)
 rw[ht]at hb⊢
 obtain⟨O,hO,⟨p1,p2,-⟩,⟨p3,p4,-⟩⟩:=Z13 (P:=Y00) (gl:=rgl) [wmPut.fam,(Z86 (λe' l=>e'=a/\l=10) (λe' l h=>by rw[h.1];exact hr) (λe' l h=>by rw[h.1,h.2];exact ha)).fam] [ZdR,ZoX] rfl
 have h10:lev op=10:=by rcases hop with rfl|rfl<;>rfl
 have q3:∀H,Z03 Y00 O H 83 [.int .i64 op]=some (.int .i64 (lev op),H):=p3 op trivial
 rw[h10]at q3
 have q4:∀H,Z03 Y00 O H 24 [.int .i64 op]=some (.str (Z46 op),H):=p4 op trivial
 have q1:=λ{s:List UInt8} {b c fb fc:Nat} {H:Z00} {rest:List AV} {d:Int} hs hb e2 e1 e3 e4 e5=>Zko p2 a 10 ⟨rfl,rfl⟩ (s:=s) (b:=b) (c:=c) (fb:=fb) (fc:=fc) (H:=H) (rest:=rest) (d:=d) hs hb e2 e1 e3 e4 e5
 have hx:=ex4 [a] 0 (by simp)
 simp only[Y0g]at hx
 have e1:decide ((10:Int)<least)=false:=by simp only[decide_eq_false_iff_not];omega
 have e2:(op==1)=false:=by simp;omega
 have e3:(op==2)=false:=by simp;omega
 have hne:=Zoq hop
 clear p2 p3 p4 ht ha hr hop
 simp only[Y02]at hb
 generalize Z46 op=w at *
 generalize brk (a.op,wrE a) 10=v at *
 simp only[Ex.cells]
 generalize exC [a]=ks at *
 obtain⟨ao,an,as_,ak⟩:=a
 simp only[Ex.cells]at *
 generalize hN:WH tW tB (s++(w++v)) d=N
 refine Z0K follows Z05 hO Y0t rfl ?_
 cases s with
 |nil =>
  simp only[WH]
  repeat' ((conv=>whnf);first|with_reducible refine exI (q3 _) ?_|with_reducible refine exI (q4 _) ?_|refine exI hx ?_|(refine Z8y (ZeA p1 w [] w (Y0p _) rfl hne ?_ rfl rfl rfl rfl) ?_;(exact leS))|(refine Z0G (q1 ?_ ?_ rfl rfl rfl rfl rfl) ?_;(exact neS);(exact leS))|refine stp ?_|with_reducible apply Z01<;>intro h)
  conv=>whnf
  (apply Z4o hN;rotate_left;rotate_left;(focus (exact rfl));(focus (exact rfl));(focus (exact rfl));(focus (exact rfl));(focus (simp;done));(exact neS))
 |cons c t =>
  simp only[WH]
  repeat' ((conv=>whnf);first|with_reducible refine exI (q3 _) ?_|with_reducible refine exI (q4 _) ?_|refine exI hx ?_|(refine Z0G (Z1S p1 [w] w (Y0p _) rfl ?_ ?_ rfl rfl rfl rfl rfl) ?_;(exact neS);(exact leS))|(refine Z0G (q1 ?_ ?_ rfl rfl rfl rfl rfl) ?_;(exact neS);(exact leS))|refine stp ?_|with_reducible apply Z01<;>intro h)
  conv=>whnf
  (apply Z4o hN;rotate_left;rotate_left;(focus (exact rfl));(focus (exact rfl));(focus (exact rfl));(focus (exact rfl));(focus (simp;done));(exact neS))
theorem ZnE{op:Int}(hop:5<=op/\op<=16){a b:Ex}(hra:Z0p a=true)(hrb:Z0p b=true)(ha:Z3D a (lev op))(hb':Z3D b (lev op+1))(least:Int)(hl:least<=lev op):Z3D (.mk op 0 [] [a,b]) least:=by
 intro s d hb
 have hl1:1<=lev op/\lev op<=9:=by
  rcases Z4U op with hout|rfl|rfl|rfl|rfl|rfl|rfl|rfl|rfl|rfl|rfl|rfl|rfl|rfl|rfl|rfl|rfl
  any_goals omega
  all_goals decide
 have ht:brk (Ex.op (.mk op 0 [] [a,b]),wrE (.mk op 0 [] [a,b])) least=brk (a.op,wrE a) (lev op)++(32::(Z46 op++(32::brk (b.op,wrE b) (lev op+1)))):=by
  have h2:wrE (.mk op 0 [] [a,b])=brk (a.op,wrE a) (lev op)++(32::(Z46 op++(32::brk (b.op,wrE b) (lev op+1)))):=by
   simp only[wrE,wrL,wrC]
   rw[if_neg (by omega),if_neg (by omega)]
  rw[<- h2]
  exact if_neg (show ¬lev op<least by omega)
 rw[ht]at hb⊢
 obtain⟨O,hO,⟨p1,p2,-⟩,⟨p3,p4,-⟩⟩:=Z13 (P:=Y00) (gl:=rgl) [wmPut.fam,(Z86 (λe' l=>(e'=a/\l=lev op)\/(e'=b/\l=lev op+1)) (λe' l h=>by rcases h with h|h;rw[h.1];exact hra;rw[h.1];exact hrb) (λe' l h=>by rcases h with h|h;rw[h.1,h.2];exact ha;rw[h.1,h.2];exact hb')).fam] [ZdR,ZoX] rfl
 have q3:∀H,Z03 Y00 O H 83 [.int .i64 op]=some (.int .i64 (lev op),H):=p3 op trivial
 have q4:∀H,Z03 Y00 O H 24 [.int .i64 op]=some (.str (Z46 op),H):=p4 op trivial
 have q0:=λ{b' fb:Nat} {H:Z00} {rest:List AV} {d:Int} hb e1 e2 e3 e4=>Ztp p2 a (lev op) (.inl ⟨rfl,rfl⟩) (b:=b') (fb:=fb) (H:=H) (rest:=rest) (d:=d) hb e1 e2 e3 e4
 have q1:=λ{s:List UInt8} {b' c fb fc:Nat} {H:Z00} {rest:List AV} {d:Int} hs hb e2 e1 e3 e4 e5=>Zko p2 a (lev op) (.inl ⟨rfl,rfl⟩) (s:=s) (b:=b') (c:=c) (fb:=fb) (fc:=fc) (H:=H) (rest:=rest) (d:=d) hs hb e2 e1 e3 e4 e5
 have q2:=λ{s:List UInt8} {b' c fb fc:Nat} {H:Z00} {rest:List AV} {d:Int} hs hb e2 e1 e3 e4 e5=>Zko p2 b (lev op+1) (.inr ⟨rfl,rfl⟩) (s:=s) (b:=b') (c:=c) (fb:=fb) (fc:=fc) (H:=H) (rest:=rest) (d:=d) hs hb e2 e1 e3 e4 e5
 have hx:=ex4 [a,b] 0 (by simp)
 have hy:=ex4 [a,b] 1 (by simp)
 simp only[Y0g,Y0l]at hx hy
 have hva:brk (a.op,wrE a) (lev op)≠[]:=Zp7 (ZfZ hra)
 have e2:(op==1)=false:=by simp;omega
 have e3:(op==2)=false:=by simp;omega
 generalize brk (a.op,wrE a) (lev op)=va at *
 generalize brk (b.op,wrE b) (lev op+1)=vb at *
 obtain⟨lv,hlv⟩:∃lv,lev op=lv:=⟨_,rfl⟩
 rw[hlv]at q3 q0 q1 q2 hl hl1
 have e1:decide (lv<least)=false:=by simp only[decide_eq_false_iff_not];omega
 have e4:(lv==10)=false:=by simp;omega
 have w1:IntKind.i64.wrap (lv+1)=lv+1:=Z2M (by omega) (by omega)
 clear p2 p3 p4 ht ha hb' hra hrb hop hlv hl hl1
 simp only[Y02,Y03]at hb
 generalize Z46 op=w at *
 simp only[Ex.cells]
 generalize exC [a,b]=ks at *
 obtain⟨ao,an,as_,ak⟩:=a
 obtain⟨bo,bn,bs_,bk⟩:=b
 simp only[Ex.cells]at *
 generalize hN:WH tW tB (s++(va++32::(w++32::vb))) d=N
 refine Z0K follows Z05 hO Y0t rfl ?_
 cases s with
 |nil =>
  simp only[WH]
  repeat' ((conv=>whnf);first|with_reducible refine exI (q3 _) ?_|with_reducible refine exI (q4 _) ?_|(with_reducible refine exW w1 ?_)|refine exI hx ?_|refine exI hy ?_|(refine Z8y (q0 ?_ rfl rfl rfl rfl) ?_;(exact leS))|(refine Z0G (Z1S p1 [[32],w,[32]] (32::(w++[32])) rfl rfl ?_ ?_ rfl rfl rfl rfl rfl) ?_;(exact neS);(exact leS))|(refine Z0G (q2 ?_ ?_ rfl rfl rfl rfl rfl) ?_;(exact neS);(exact leS))|refine stp ?_|with_reducible apply Z01<;>intro h)
  conv=>whnf
  (apply Z4o hN;rotate_left;rotate_left;(focus (exact rfl));(focus (exact rfl));(focus (exact rfl));(focus (exact rfl));(focus (simp;done));(exact neS))
 |cons c t =>
  simp only[WH]
  repeat' ((conv=>whnf);first|with_reducible refine exI (q3 _) ?_|with_reducible refine exI (q4 _) ?_|(with_reducible refine exW w1 ?_)|refine exI hx ?_|refine exI hy ?_|(refine Z0G (q1 ?_ ?_ rfl rfl rfl rfl rfl) ?_;(exact neS);(exact leS))|(refine Z0G (Z1S p1 [[32],w,[32]] (32::(w++[32])) rfl rfl ?_ ?_ rfl rfl rfl rfl rfl) ?_;(exact neS);(exact leS))|(refine Z0G (q2 ?_ ?_ rfl rfl rfl rfl rfl) ?_;(exact neS);(exact leS))|refine stp ?_|with_reducible apply Z01<;>intro h)
  conv=>whnf
  (apply Z4o hN;rotate_left;rotate_left;(focus (exact rfl));(focus (exact rfl));(focus (exact rfl));(focus (exact rfl));(focus (simp;done));(exact neS))
theorem Z8X:∀(n:Nat)(e:Ex),Z0C e<=n->Z0p e=true->rgE e->∀least:Int,least<=11->Z3D e least
 |0,e,h,_,_,_,_=>by have:=Z31 e;omega
 |n+1,e,h,hr,hg,least,hl=>by
  have hlow:∀l:Int,l<=lev e.op->Z3D e l:=by
   intro l hle
   have hp:=Zff (ZbZ hr)
   rcases Z65 hr with ⟨m,rfl,hm⟩|⟨w,rfl,hw⟩|⟨op,a,hop,rfl,h1⟩|⟨op,a,b,hop,rfl,h1,h2⟩
   · simp only[rgE]at hg
     exact ZnC hm hg.1 l (by omega)
   ·exact ZnB hw l (by omega)
   · simp only[rgE,rgL]at hg
     simp only[Z0C,sizeL]at h
     have:lev op=10:=by rcases hop with rfl|rfl<;>rfl
     simp only[Ex.op]at hle
     exact Zrk hop h1 (Z8X n a (by omega) h1 hg.2.1 10 (by omega)) l (by omega)
   · simp only[rgE,rgL]at hg
     simp only[Z0C,sizeL]at h
     simp only[Ex.op]at hle hp
     have h9:lev op<=9:=by
      rcases Z4U op with hout|rfl|rfl|rfl|rfl|rfl|rfl|rfl|rfl|rfl|rfl|rfl|rfl|rfl|rfl|rfl|rfl
      any_goals omega
      all_goals decide
     exact ZnE hop h1 h2 (Z8X n a (by omega) h1 hg.2.1 _ (by omega)) (Z8X n b (by omega) h2 hg.2.2.1 _ (by omega)) l hle
  by_cases hlt:lev e.op<least
  · have hp:=Zff (ZbZ hr)
    exact ZnD hr hlt (hlow 0 (by omega)) (by omega)
  ·exact hlow least (by omega)
end
section
def Z3F(e:Ex):Prop:=Z0p e=true/\rgE e
theorem Zvy{e:Ex}(h:Z0p e=true):brk (e.op,wrE e) 0=wrE e:=by
 have:=Zff (ZbZ h)
 exact if_neg (show ¬lev e.op<0 by omega)
abbrev wmE:WM Y00 rgl tW tB:=Z86 (λe l=>Z3F e/\l=0) (λe l h=>h.1.1) (λe l h=>by rw[h.2];exact Z8X _ e (Y0i _) h.1.1 h.1.2 0 (by omega))
theorem e1 {O : Orc} (h : wmE.fam.Ask O) {e : Ex} (g : Z3F e) {w : List UInt8} (hw : wrE e = w) {s : List UInt8} {b c fb fc : Nat} {H : Z00} {rest : List AV} {d : Int} (hs : s ≠ []) (hb : (s ++ w).length <= 1073741824)
  (e2:H[b]? = some ⟨true,fb,0,.cells [.ptr b 0,.slice c 0 s.length s.length 1,.int .i64 d] tW⟩) (e1:H[c]? = some ⟨true,fc,0,.cells (byt s) tB⟩) (e3:Y0q fb fc=false) (e4:Z3T [b,c] [fb,fc] 0 H=true) (e5:Z22 (Z7O [b,c] (Zav [b,c] H) 30) rest=some [.agg e.cells,.int .i64 0]) :
  Z03 Y00 O H 49 (.ptr b 0::rest)=some (.tuple [],ZlV tW tB H b c fb fc (s++w) d):=by
 have h1:=Zko h e 0 ⟨g,rfl⟩ (s:=s) (b:=b) (c:=c) (fb:=fb) (fc:=fc) (H:=H) (rest:=rest) (d:=d) hs
 rw[Zvy g.1,hw]at h1
 exact h1 hb e2 e1 e3 e4 e5
theorem e0 {O : Orc} (h : wmE.fam.Ask O) {e : Ex} (g : Z3F e) {w : List UInt8} (hw : wrE e = w) {b fb : Nat} {H : Z00} {rest : List AV} {d : Int} (hb : w.length <= 1073741824)
  (e1:H[b]? = some ⟨true,fb,0,.cells [.nptr,.nslice,.int .i64 d] tW⟩) (e2:Z3T [b] [fb] 0 H=true) (e3:ZaD H.length H=true) (e4:Z22 (Z7O [b] (Zav [b] H) 30) rest=some [.agg e.cells,.int .i64 0]) :
  Z03 Y00 O H 49 (.ptr b 0::rest)=some (.tuple [],ZlW tW tB H b fb w d):=by
 have h1:=Ztp h e 0 ⟨g,rfl⟩ (b:=b) (fb:=fb) (H:=H) (rest:=rest) (d:=d)
 rw[Zvy g.1,hw]at h1
 exact h1 hb e1 e2 e3 e4
def brT(word:List UInt8)(e:Ex):List UInt8:=word++(40::(wrE e++[41]))
theorem Zim (word : List UInt8) (hw : word ≠ []) (e : Ex) (g : Z3F e) (s : List UInt8) (d : Int) (hb : (s ++ brT word e).length <= 1073741824) :
  MemQ Y00 rgl 1 88 [.ptr 0 0,.str word,.agg e.cells] (WH tW tB s d) (.tuple []) (WH tW tB (s++brT word e) d):=by
 obtain⟨O,hO,⟨p1,p2,-⟩,-⟩:=Z13 (P:=Y00) (gl:=rgl) [wmPut.fam,wmE.fam] [] rfl
 obtain⟨w,hwe⟩:∃w,wrE e=w:=⟨_,rfl⟩
 have q1:=λ{s:List UInt8} {b c fb fc:Nat} {H:Z00} {rest:List AV} {d:Int} hs hb x2 x1 x3 x4 x5=>e1 p2 g hwe (s:=s) (b:=b) (c:=c) (fb:=fb) (fc:=fc) (H:=H) (rest:=rest) (d:=d) hs hb x2 x1 x3 x4 x5
 simp only[brT,hwe]at hb⊢
 clear p2 g hwe
 simp only[Y02,Y03,Y04]at hb
 obtain⟨eo,en,es_,ek⟩:=e
 simp only[Ex.cells]at *
 generalize hN:WH tW tB (s++(word++40::(w++[41]))) d=N
 refine Z0K follows Z05 hO Tryz.func88 rfl ?_
 cases s with
 |nil =>
  repeat' ((conv=>whnf);first|(refine Z8y (ZeA p1 word [[40]] (word++[40]) rfl rfl hw ?_ rfl rfl rfl rfl) ?_;(exact leS))|(refine Z0G (Z1S p1  [[41]] [41]  rfl rfl ?_ ?_ rfl rfl rfl rfl rfl) ?_;(exact neS);(exact leS))|(refine Z0G (q1 ?_ ?_ rfl rfl rfl rfl rfl) ?_;(exact neS);(exact leS))|refine stp ?_|with_reducible apply Z01<;>intro h)
  conv=>whnf
  (apply Z4o hN;rotate_left;rotate_left;(focus (exact rfl));(focus (exact rfl));(focus (exact rfl));(focus (exact rfl));(focus (simp;done));(exact neS))
 |cons c t =>
  repeat' ((conv=>whnf);first|(refine Z0G (Z1S p1 [word,[40]] (word++[40]) rfl rfl ?_ ?_ rfl rfl rfl rfl rfl) ?_;(exact neS);(exact leS))|(refine Z0G (Z1S p1  [[41]] [41]  rfl rfl ?_ ?_ rfl rfl rfl rfl rfl) ?_;(exact neS);(exact leS))|(refine Z0G (q1 ?_ ?_ rfl rfl rfl rfl rfl) ?_;(exact neS);(exact leS))|refine stp ?_|with_reducible apply Z01<;>intro h)
  conv=>whnf
  (apply Z4o hN;rotate_left;rotate_left;(focus (exact rfl));(focus (exact rfl));(focus (exact rfl));(focus (exact rfl));(focus (simp;done));(exact neS))
theorem ZlH (word : List UInt8) (hw : word ≠ []) (x : St) (hg : ∀ e ∈ x.exprs, Z3F e) (hle : x.exprs.length <= 9223372036854775807) (s : List UInt8) (d : Int) (hb : (s ++ Z7p word x.loc x.exprs x.order).length <= 1073741824) :
  MemQ Y00 rgl 1 89 [.ptr 0 0,.str word,.agg x.cells] (WH tW tB s d) (.tuple []) (WH tW tB (s++Z7p word x.loc x.exprs x.order) d):=by
 obtain⟨O,hO,⟨p1,p2,-⟩,⟨p3,-⟩⟩:=Z13 (P:=Y00) (gl:=rgl) [wmPut.fam,wmE.fam] [ZoY] rfl
 have q3:∀H,Z03 Y00 O H 22 [.int .i64 x.order]=some (.str (Z5S x.order),H):=p3 x.order trivial
 clear p3
 obtain⟨k,nm,lc,o,xs,th,el⟩:=x
 simp only[St.exprs,St.loc,St.order,St.cells,exA,Z7p]at *
 generalize Z5S o=od at *
 obtain⟨tot,htot⟩:∃tot,s++(word++40::(lc++(ZcL xs++44::32::(od++[41]))))=tot:=⟨_,rfl⟩
 rw[htot]at hb⊢
 generalize hN:WH tW tB tot d=N
 have hf1:List.flatten [word,[40],lc]=word++40::lc:=by simp
 have hf2:List.flatten [[44,32],od,[41]]=44::32::(od++[41]):=by simp
 have hpre:(s++(word++40::lc)).length<=1073741824:=by
  rw[<- htot]at hb
  simp only[Y02,Y03]at hb⊢
  omega
 have q1:=λ{e:Ex} (g:Z3F e) {w:List UInt8} (hw:wrE e=w) {s:List UInt8} {b c fb fc:Nat} {H:Z00} {rest:List AV} {d:Int} hs hb x2 x1 x3 x4 x5=>e1 p2 g hw (s:=s) (b:=b) (c:=c) (fb:=fb) (fc:=fc) (H:=H) (rest:=rest) (d:=d) hs hb x2 x1 x3 x4 x5
 refine Z0K follows Z05 hO Tryz.func89 rfl ?_
 cases s with
 |nil =>
  repeat' ((conv=>whnf);first|(refine Z8y (ZeA p1 word [[40],lc] (word++(40::lc)) hf1 rfl hw ?_ rfl rfl rfl rfl) ?_;(exact leS))|refine stp ?_|with_reducible apply Z01<;>intro h)
  conv=>whnf
  refine⟨Nat×List UInt8,(λp=>p.1<=xs.length/\p.2≠[]/\p.2++(ZcL (xs.drop p.1)++44::32::(od++[41]))=tot),(λp=>[(0,.ptr 0 0),(5,.ptr 2 0),(15,.rs xs.length 4 (exC xs)),(16,.int .i64 xs.length),(17,.int .i64 p.1)]),(λp=>WH tW tB p.2 d++[⟨true,2,0,.cells [.int .i64 k,.str nm,.str lc,.int .i64 o,.rs xs.length 4 (exC xs),.rs th.length 7 (stC th),.rs el.length 7 (stC el)] 49⟩]),(λp=>xs.length-p.1),⟨(0,word++40::lc),⟨Y0b _,by simp,by rw[<- htot];simp⟩,?_⟩,?_⟩
  · dsimp only
    apply fgE (rest:=[1])
    rotate_left;rotate_left;rotate_left
    (focus (exact rfl));(focus (exact rfl));(focus (exact rfl))
    (focus (exact⟨hbp,trivial⟩))
    (focus (exact rfl))
    (focus (refine Y01 (Y05 rfl rfl) ?_;refine Y01 (Y05 rfl rfl) ?_;refine Y01 (Y0a rfl) ?_;refine Y01 (Y06 rfl) ?_;exact⟨Y06 rfl,trivial⟩))
    (focus (exact rfl));(focus (simp;done));(focus (simp;done))
  rintro⟨i,acc⟩ ⟨h1,h2,h3⟩
  dsimp only at h1 h2 h3
  dsimp only
  clear htot hpre
  have htl:=congrArg List.length h3
  obtain⟨ac,at_,rfl⟩:∃c t,acc=c::t:=by cases acc with|nil=>exact absurd rfl h2|cons c t=>exact⟨c,t,rfl⟩
  by_cases hlt:i<xs.length
  · have c1:decide ((i:Int)<(xs.length:Int))=true:=by simpa using hlt
    have hx:=ex4 xs i hlt
    have hgx:=hg xs[i] (Z0i hlt)
    rw[Y0y hlt]at h3 htl
    simp only[ZcL,Y02,Y03,Y04]at h3 htl
    obtain⟨w,hwe⟩:∃w,wrE xs[i]=w:=⟨_,rfl⟩
    have qe:=λ{s:List UInt8} {b c fb fc:Nat} {H:Z00} {rest:List AV} {d:Int} hs hb x2 x1 x3 x4 x5=>q1 hgx hwe (s:=s) (b:=b) (c:=c) (fb:=fb) (fc:=fc) (H:=H) (rest:=rest) (d:=d) hs hb x2 x1 x3 x4 x5
    rw[hwe]at h3 htl
    clear q1 hgx hwe
    generalize xs[i]=x at *
    obtain⟨xo,xn,xm,xk⟩:=x
    simp only[Ex.cells]at *
    repeat' ((conv=>whnf);first|refine exI hx ?_|(refine Z0G (Z1S p1  [[44,32]] [44,32]  rfl rfl ?_ ?_ rfl rfl rfl rfl rfl) ?_;(exact neS);(exact leS))|(refine Z0G (qe ?_ ?_ rfl rfl rfl rfl rfl) ?_;(exact neS);(exact leS))|(with_reducible refine ixJ i rfl ?_ ?_;focus omega)|refine stp ?_|with_reducible apply Z01<;>intro h)
    conv=>whnf
    refine⟨(i+1,ac::at_++[44,32]++w),⟨hlt,by simp,by rw[<- h3];simp⟩,by show xs.length-(i+1)<xs.length-i;omega,?_⟩
    dsimp only
    apply fgE (rest:=[2])
    rotate_left;rotate_left;rotate_left
    (focus (exact rfl));(focus (exact rfl));(focus (exact rfl))
    (focus (exact⟨hbp,trivial⟩))
    (focus (exact rfl))
    (focus (refine Y01 (Y05 rfl rfl) ?_;refine Y01 (Y05 rfl rfl) ?_;refine Y01 (Y0a rfl) ?_;refine Y01 (Y06 rfl) ?_;exact⟨Y06 rfl,trivial⟩))
    (focus (exact rfl));(focus (simp;done));(focus (simp;done))
  · have c1:decide ((i:Int)<(xs.length:Int))=false:=by simpa using hlt
    have hi2:i=xs.length:=by omega
    subst hi2
    rw[Y0z]at h3 htl
    simp only[ZcL,Y0A,Y02,Y03,Y04]at h3 htl
    repeat' ((conv=>whnf);first|with_reducible refine exI (q3 _) ?_|(refine Z0G (Z1S p1 [[44,32],od,[41]] (44::32::(od++[41])) hf2 rfl ?_ ?_ rfl rfl rfl rfl rfl) ?_;(exact neS);(exact leS))|refine stp ?_|with_reducible apply Z01<;>intro h)
    conv=>whnf
    (apply Z4o hN;rotate_left;rotate_left;(focus (exact rfl));(focus (exact rfl));(focus (exact rfl));(focus (exact rfl));(focus (exact h3));(focus (rw[<- h3];simp;done)))
 |cons c t =>
  repeat' ((conv=>whnf);first|(refine Z0G (Z1S p1 [word,[40],lc] (word++(40::lc)) hf1 rfl ?_ ?_ rfl rfl rfl rfl rfl) ?_;(exact neS);(exact leS))|refine stp ?_|with_reducible apply Z01<;>intro h)
  conv=>whnf
  refine⟨Nat×List UInt8,(λp=>p.1<=xs.length/\p.2≠[]/\p.2++(ZcL (xs.drop p.1)++44::32::(od++[41]))=tot),(λp=>[(0,.ptr 0 0),(5,.ptr 2 0),(15,.rs xs.length 4 (exC xs)),(16,.int .i64 xs.length),(17,.int .i64 p.1)]),(λp=>WH tW tB p.2 d++[⟨true,2,0,.cells [.int .i64 k,.str nm,.str lc,.int .i64 o,.rs xs.length 4 (exC xs),.rs th.length 7 (stC th),.rs el.length 7 (stC el)] 49⟩]),(λp=>xs.length-p.1),⟨(0,c::t++(word++40::lc)),⟨Y0b _,by simp,by rw[<- htot];simp⟩,?_⟩,?_⟩
  · dsimp only
    apply fgE (rest:=[2])
    rotate_left;rotate_left;rotate_left
    (focus (exact rfl));(focus (exact rfl));(focus (exact rfl))
    (focus (exact⟨hbp,trivial⟩))
    (focus (exact rfl))
    (focus (refine Y01 (Y05 rfl rfl) ?_;refine Y01 (Y05 rfl rfl) ?_;refine Y01 (Y0a rfl) ?_;refine Y01 (Y06 rfl) ?_;exact⟨Y06 rfl,trivial⟩))
    (focus (exact rfl));(focus (simp;done));(focus (simp;done))
  rintro⟨i,acc⟩ ⟨h1,h2,h3⟩
  dsimp only at h1 h2 h3
  dsimp only
  clear htot hpre
  have htl:=congrArg List.length h3
  obtain⟨ac,at_,rfl⟩:∃c t,acc=c::t:=by cases acc with|nil=>exact absurd rfl h2|cons c t=>exact⟨c,t,rfl⟩
  by_cases hlt:i<xs.length
  · have c1:decide ((i:Int)<(xs.length:Int))=true:=by simpa using hlt
    have hx:=ex4 xs i hlt
    have hgx:=hg xs[i] (Z0i hlt)
    rw[Y0y hlt]at h3 htl
    simp only[ZcL,Y02,Y03,Y04]at h3 htl
    obtain⟨w,hwe⟩:∃w,wrE xs[i]=w:=⟨_,rfl⟩
    have qe:=λ{s:List UInt8} {b c fb fc:Nat} {H:Z00} {rest:List AV} {d:Int} hs hb x2 x1 x3 x4 x5=>q1 hgx hwe (s:=s) (b:=b) (c:=c) (fb:=fb) (fc:=fc) (H:=H) (rest:=rest) (d:=d) hs hb x2 x1 x3 x4 x5
    rw[hwe]at h3 htl
    clear q1 hgx hwe
    generalize xs[i]=x at *
    obtain⟨xo,xn,xm,xk⟩:=x
    simp only[Ex.cells]at *
    repeat' ((conv=>whnf);first|refine exI hx ?_|(refine Z0G (Z1S p1  [[44,32]] [44,32]  rfl rfl ?_ ?_ rfl rfl rfl rfl rfl) ?_;(exact neS);(exact leS))|(refine Z0G (qe ?_ ?_ rfl rfl rfl rfl rfl) ?_;(exact neS);(exact leS))|(with_reducible refine ixJ i rfl ?_ ?_;focus omega)|refine stp ?_|with_reducible apply Z01<;>intro h)
    conv=>whnf
    refine⟨(i+1,ac::at_++[44,32]++w),⟨hlt,by simp,by rw[<- h3];simp⟩,by show xs.length-(i+1)<xs.length-i;omega,?_⟩
    dsimp only
    apply fgE (rest:=[2])
    rotate_left;rotate_left;rotate_left
    (focus (exact rfl));(focus (exact rfl));(focus (exact rfl))
    (focus (exact⟨hbp,trivial⟩))
    (focus (exact rfl))
    (focus (refine Y01 (Y05 rfl rfl) ?_;refine Y01 (Y05 rfl rfl) ?_;refine Y01 (Y0a rfl) ?_;refine Y01 (Y06 rfl) ?_;exact⟨Y06 rfl,trivial⟩))
    (focus (exact rfl));(focus (simp;done));(focus (simp;done))
  · have c1:decide ((i:Int)<(xs.length:Int))=false:=by simpa using hlt
    have hi2:i=xs.length:=by omega
    subst hi2
    rw[Y0z]at h3 htl
    simp only[ZcL,Y0A,Y02,Y03,Y04]at h3 htl
    repeat' ((conv=>whnf);first|with_reducible refine exI (q3 _) ?_|(refine Z0G (Z1S p1 [[44,32],od,[41]] (44::32::(od++[41])) hf2 rfl ?_ ?_ rfl rfl rfl rfl rfl) ?_;(exact neS);(exact leS))|refine stp ?_|with_reducible apply Z01<;>intro h)
    conv=>whnf
    (apply Z4o hN;rotate_left;rotate_left;(focus (exact rfl));(focus (exact rfl));(focus (exact rfl));(focus (exact rfl));(focus (exact h3));(focus (rw[<- h3];simp;done)))
end
section
def Z2j(x:St)(i:Nat):Prop:=∀(s:List UInt8),(s++stT x i).length<=1073741824->MemQ Y00 rgl 1 57 [.ptr 0 0,.agg x.cells] (WH tW tB s i) (.tuple []) (WH tW tB (s++stT x i) i)
def Z5n(l:List St)(i:Nat):Prop:=∀(s:List UInt8),s≠[]->(s++Z7n l i).length<=1073741824->MemQ Y00 rgl 1 35 [.ptr 0 0,stA l] (WH tW tB s i) (.tuple []) (WH tW tB (s++Z7n l i) i)
def wmBr:WM Y00 rgl tW tB where
 f:=88
 X:=List UInt8×Ex×Int
 G:=λx=>x.1≠[]/\Z3F x.2.1
 G0:=λ_=>True
 A:=λx=>[.str x.1,.agg x.2.1.cells]
 D:=λx=>x.2.2
 T:=λx=>brT x.1 x.2.1
 L:=1073741824
 body:=by kernel_rfl
 inj:=by
  rintro x y _ _ h _
  simp only[List.cons.injEq,AV.str.injEq,and_true]at h
  have:=ZcO (a:=x.2.1) (b:=y.2.1) (by rw[h.2])
  rw[this,h.1]
 ne:=λx g _=>by simp[brT]
 ok:=λx g s _ hb=>Zim x.1 g.1 x.2.1 g.2 s x.2.2 hb
theorem Zj7{a b:St}(h:AV.agg a.cells=AV.agg b.cells):a=b:=Z7x a b (by simpa using h)
def wmAc:WM Y00 rgl tW tB where
 f:=89
 X:=List UInt8×St×Int
 G:=λx=>x.1≠[]/\(∀e∈x.2.1.exprs,Z3F e)/\x.2.1.exprs.length<=9223372036854775807
 G0:=λ_=>True
 A:=λx=>[.str x.1,.agg x.2.1.cells]
 D:=λx=>x.2.2
 T:=λx=>Z7p x.1 x.2.1.loc x.2.1.exprs x.2.1.order
 L:=1073741824
 body:=by kernel_rfl
 inj:=by
  rintro x y _ _ h _
  simp only[List.cons.injEq,AV.str.injEq,and_true]at h
  have:=Zj7 h.2
  rw[this,h.1]
 ne:=λx g _=>by simp[Z7p]
 ok:=λx g s _ hb=>ZlH x.1 g.1 x.2.1 g.2.1 g.2.2 s x.2.2 hb
def Zu6(K:List St->Nat->Prop)(hok:∀l i,K l i->Z5n l i):WM Y00 rgl tW tB where
 f:=35
 X:=List St×Nat
 G:=λx=>K x.1 x.2
 G0:=λ_=>False
 A:=λx=>[stA x.1]
 D:=λx=>(x.2:Int)
 T:=λx=>Z7n x.1 x.2
 L:=1073741824
 body:=by kernel_rfl
 inj:=by
  rintro x y _ _ h hd
  simp only[List.cons.injEq,and_true]at h
  rw[Z4a h,Y0r.1 hd]
 ne:=λx _ h=>h.elim
 ok:=λx g s h0 hb=>hok x.1 x.2 g s h0 hb
def ZuX(K:St->Nat->Prop)(hne:∀x i,K x i->stT x i≠[])(hok:∀x i,K x i->Z2j x i):WM Y00 rgl tW tB where
 f:=57
 X:=St×Nat
 G:=λx=>K x.1 x.2
 G0:=λ_=>True
 A:=λx=>[.agg x.1.cells]
 D:=λx=>(x.2:Int)
 T:=λx=>stT x.1 x.2
 L:=1073741824
 body:=by kernel_rfl
 inj:=by
  rintro x y _ _ h hd
  simp only[List.cons.injEq,and_true]at h
  rw[Zj7 h,Y0r.1 hd]
 ne:=λx g _=>hne _ _ g
 ok:=λx g s _ hb=>hok x.1 x.2 g s hb
theorem Z62 {W : WM Y00 rgl tW tB} {O : Orc} (h : W.fam.Ask O) (x : W.X) (g : W.G x) {T : List UInt8} (hT : W.T x = T) {A : List AV} (hA : W.A x = A) {s : List UInt8} {b c fb fc : Nat} {H : Z00} {rest : List AV} {d : Int} (hd : W.D x = d) (hL : W.L = 1073741824) (hs : s ≠ []) (hb : (s ++ T).length <= 1073741824)
  (e2:H[b]? = some ⟨true,fb,0,.cells [.ptr b 0,.slice c 0 s.length s.length 1,.int .i64 d] tW⟩) (e1:H[c]? = some ⟨true,fc,0,.cells (byt s) tB⟩) (e3:Y0q fb fc=false) (e4:Z3T [b,c] [fb,fc] 0 H=true) (e5:Z22 (Z7O [b,c] (Zav [b,c] H) 30) rest=some A) :
  Z03 Y00 O H W.f (.ptr b 0::rest)=some (.tuple [],ZlV tW tB H b c fb fc (s++T) d):=by
 subst hT;subst hA;subst hd
 exact WM.ask1 h x g hs (by rw[hL];exact hb) e1 e2 e3 e4 e5
theorem Zay {W : WM Y00 rgl tW tB} {O : Orc} (h : W.fam.Ask O) (x : W.X) (g : W.G x) (g0 : W.G0 x) {T : List UInt8} (hT : W.T x = T) {A : List AV} (hA : W.A x = A) {b fb : Nat} {H : Z00} {rest : List AV} {d : Int} (hd : W.D x = d) (hL : W.L = 1073741824) (hb : T.length <= 1073741824)
  (e1:H[b]? = some ⟨true,fb,0,.cells [.nptr,.nslice,.int .i64 d] tW⟩) (e2:Z3T [b] [fb] 0 H=true) (e3:ZaD H.length H=true) (e4:Z22 (Z7O [b] (Zav [b] H) 30) rest=some A) :
  Z03 Y00 O H W.f (.ptr b 0::rest)=some (.tuple [],ZlW tW tB H b fb T d):=by
 subst hT;subst hA;subst hd
 exact WM.ask0 h x g g0 (by rw[hL];exact hb) e1 e2 e3 e4
theorem ZpM{nm lc:List UInt8}{o:Int}{e:Ex}{th el:List St}{i:Nat}(hn:nm≠[])(g:Z3F e):Z2j (.mk 1 nm lc o [e] th el:St) i:=by
 intro s hb
 have hst:stT (.mk 1 nm lc o [e] th el:St) i=nm++([32,61,32]++((wrE e)++[59])):=by
  simp[stT,Zau,Zc9,hdT,brT,Z7n,hn]
 rw[hst]at hb⊢
 obtain⟨O,hO,⟨p1,p2,-⟩,-⟩:=Z13 (P:=Y00) (gl:=rgl) [wmPut.fam,wmE.fam] [] rfl
 obtain⟨w,hwe⟩:∃w,wrE e=w:=⟨_,rfl⟩
 have q1:=λ{s:List UInt8} {b c fb fc:Nat} {H:Z00} {rest:List AV} {d:Int} hs hb y2 y1 y3 y4 y5=>e1 p2 g hwe (s:=s) (b:=b) (c:=c) (fb:=fb) (fc:=fc) (H:=H) (rest:=rest) (d:=d) hs hb y2 y1 y3 y4 y5
 rw[hwe]at hb⊢
 clear p2 g hwe hst
 obtain⟨tot,htot⟩:∃tot,s++(nm++([32,61,32]++(w++[59])))=tot:=⟨_,rfl⟩
 rw[htot]at hb⊢
 generalize hN:WH tW tB tot i=N
 have hx:=ex4 [e] 0 (by simp)
 simp only[Y0g]at hx
 simp only[St.cells,exA]
 generalize exC [e]=ks at *
 obtain⟨eo,en,es_,ek⟩:=e
 simp only[Ex.cells]at *
 have hf:List.flatten [nm,[32,61,32]]=nm++[32,61,32]:=by simp
 have hnn:(!(nm==([]:List UInt8)))=true:=by simp[hn]
 refine Z0K follows Z05 hO Y0k rfl ?_
 cases s with
 |nil =>
  have htl:=congrArg List.length htot
  simp only[Y02,Y03,Y04]at htl
  repeat' ((conv=>whnf);first|(refine Z8y (ZeA p1 nm [[32,61,32]] (nm++[32,61,32]) hf rfl hn ?_ rfl rfl rfl rfl) ?_;(exact leS))|refine exI hx ?_|(refine Z0G (q1 ?_ ?_ rfl rfl rfl rfl rfl) ?_;(exact neS);(exact leS))|(refine Z0G (Z1S p1  [[59]] [59]  rfl rfl ?_ ?_ rfl rfl rfl rfl rfl) ?_;(exact neS);(exact leS))|refine stp ?_|with_reducible apply Z01<;>intro h)
  conv=>whnf
  (apply Z4o hN;rotate_left;rotate_left;(focus (exact rfl));(focus (exact rfl));(focus (exact rfl));(focus (exact rfl));(focus (rw[<- htot];simp;done));(focus (refine Y08 ?_;omega)))
 |cons c t =>
  have htl:=congrArg List.length htot
  simp only[Y02,Y03,Y04]at htl
  repeat' ((conv=>whnf);first|(refine Z0G (Z1S p1 [nm,[32,61,32]] (nm++[32,61,32]) hf rfl ?_ ?_ rfl rfl rfl rfl rfl) ?_;(exact neS);(exact leS))|refine exI hx ?_|(refine Z0G (q1 ?_ ?_ rfl rfl rfl rfl rfl) ?_;(exact neS);(exact leS))|(refine Z0G (Z1S p1  [[59]] [59]  rfl rfl ?_ ?_ rfl rfl rfl rfl rfl) ?_;(exact neS);(exact leS))|refine stp ?_|with_reducible apply Z01<;>intro h)
  conv=>whnf
  (apply Z4o hN;rotate_left;rotate_left;(focus (exact rfl));(focus (exact rfl));(focus (exact rfl));(focus (exact rfl));(focus (rw[<- htot];simp;done));(focus (refine Y08 ?_;omega)))
theorem ZpL{nm lc:List UInt8}{o:Int}{xs:List Ex}{th el:List St}{i:Nat}(hn:nm≠[])(g:∀e∈xs,Z3F e)(hl:xs.length<=9223372036854775807):Z2j (.mk 2 nm lc o xs th el:St) i:=by
 intro s hb
 have hst:stT (.mk 2 nm lc o xs th el:St) i=nm++([32,61,32]++((Z7p [108,111,97,100] lc xs o)++[59])):=by
  simp[stT,Zau,Zc9,hdT,brT,Z7n,hn]
 rw[hst]at hb⊢
 obtain⟨O,hO,⟨p1,p2,-⟩,-⟩:=Z13 (P:=Y00) (gl:=rgl) [wmPut.fam,wmAc.fam] [] rfl
 obtain⟨A,hA⟩:∃A,Z7p [108,111,97,100] lc xs o=A:=⟨_,rfl⟩
 have hAn:A≠[]:=by rw[<- hA];simp[Z7p]
 have q1:=λ{s:List UInt8} {b c fb fc:Nat} {H:Z00} {rest:List AV} hs hb y2 y1 y3 y4 y5=>Z62 p2 ([108,111,97,100],(.mk 2 nm lc o xs th el:St),(i:Int)) ⟨Y07 _ _,g,hl⟩ hA (A:=[.str [108,111,97,100],.agg (St.cells (.mk 2 nm lc o xs th el:St))]) rfl (s:=s) (b:=b) (c:=c) (fb:=fb) (fc:=fc) (H:=H) (rest:=rest) (d:=(i:Int)) rfl rfl hs hb y2 y1 y3 y4 y5
 have q0:=λ{b fb:Nat} {H:Z00} {rest:List AV} hb y1 y2 y3 y4=>Zay p2 ([108,111,97,100],(.mk 2 nm lc o xs th el:St),(i:Int)) ⟨Y07 _ _,g,hl⟩ trivial hA (A:=[.str [108,111,97,100],.agg (St.cells (.mk 2 nm lc o xs th el:St))]) rfl (b:=b) (fb:=fb) (H:=H) (rest:=rest) (d:=(i:Int)) rfl rfl hb y1 y2 y3 y4
 rw[hA]at hb⊢
 clear p2 g hA hst hl
 simp only[St.cells]at q1 q0
 obtain⟨tot,htot⟩:∃tot,s++(nm++([32,61,32]++(A++[59])))=tot:=⟨_,rfl⟩
 rw[htot]at hb⊢
 generalize hN:WH tW tB tot i=N
 simp only[St.cells,exA]
 have hf:List.flatten [nm,[32,61,32]]=nm++[32,61,32]:=by simp
 have hnn:(!(nm==([]:List UInt8)))=true:=by simp[hn]
 refine Z0K follows Z05 hO Y0k rfl ?_
 cases s with
 |nil =>
  have htl:=congrArg List.length htot
  simp only[Y02,Y03,Y04]at htl
  repeat' ((conv=>whnf);first|(refine Z8y (ZeA p1 nm [[32,61,32]] (nm++[32,61,32]) hf rfl hn ?_ rfl rfl rfl rfl) ?_;(exact leS))|(refine Z0G (q1 ?_ ?_ rfl rfl rfl rfl rfl) ?_;(exact neS);(exact leS))|(refine Z0G (Z1S p1  [[59]] [59]  rfl rfl ?_ ?_ rfl rfl rfl rfl rfl) ?_;(exact neS);(exact leS))|refine stp ?_|with_reducible apply Z01<;>intro h)
  conv=>whnf
  (apply Z4o hN;rotate_left;rotate_left;(focus (exact rfl));(focus (exact rfl));(focus (exact rfl));(focus (exact rfl));(focus (rw[<- htot];simp;done));(focus (refine Y08 ?_;omega)))
 |cons c t =>
  have htl:=congrArg List.length htot
  simp only[Y02,Y03,Y04]at htl
  repeat' ((conv=>whnf);first|(refine Z0G (Z1S p1 [nm,[32,61,32]] (nm++[32,61,32]) hf rfl ?_ ?_ rfl rfl rfl rfl rfl) ?_;(exact neS);(exact leS))|(refine Z0G (q1 ?_ ?_ rfl rfl rfl rfl rfl) ?_;(exact neS);(exact leS))|(refine Z0G (Z1S p1  [[59]] [59]  rfl rfl ?_ ?_ rfl rfl rfl rfl rfl) ?_;(exact neS);(exact leS))|refine stp ?_|with_reducible apply Z01<;>intro h)
  conv=>whnf
  (apply Z4o hN;rotate_left;rotate_left;(focus (exact rfl));(focus (exact rfl));(focus (exact rfl));(focus (exact rfl));(focus (rw[<- htot];simp;done));(focus (refine Y08 ?_;omega)))
theorem ZpK{lc:List UInt8}{o:Int}{xs:List Ex}{th el:List St}{i:Nat}(g:∀e∈xs,Z3F e)(hl:xs.length<=9223372036854775807):Z2j (.mk 3 [] lc o xs th el:St) i:=by
 intro s hb
 have hst:stT (.mk 3 [] lc o xs th el:St) i=(Z7p [115,116,111,114,101] lc xs o)++[59]:=by
  simp[stT,Zau,Zc9,hdT,brT,Z7n]
 rw[hst]at hb⊢
 obtain⟨O,hO,⟨p1,p2,-⟩,-⟩:=Z13 (P:=Y00) (gl:=rgl) [wmPut.fam,wmAc.fam] [] rfl
 obtain⟨A,hA⟩:∃A,Z7p [115,116,111,114,101] lc xs o=A:=⟨_,rfl⟩
 have hAn:A≠[]:=by rw[<- hA];simp[Z7p]
 have q1:=λ{s:List UInt8} {b c fb fc:Nat} {H:Z00} {rest:List AV} hs hb y2 y1 y3 y4 y5=>Z62 p2 ([115,116,111,114,101],(.mk 3 [] lc o xs th el:St),(i:Int)) ⟨Y07 _ _,g,hl⟩ hA (A:=[.str [115,116,111,114,101],.agg (St.cells (.mk 3 [] lc o xs th el:St))]) rfl (s:=s) (b:=b) (c:=c) (fb:=fb) (fc:=fc) (H:=H) (rest:=rest) (d:=(i:Int)) rfl rfl hs hb y2 y1 y3 y4 y5
 have q0:=λ{b fb:Nat} {H:Z00} {rest:List AV} hb y1 y2 y3 y4=>Zay p2 ([115,116,111,114,101],(.mk 3 [] lc o xs th el:St),(i:Int)) ⟨Y07 _ _,g,hl⟩ trivial hA (A:=[.str [115,116,111,114,101],.agg (St.cells (.mk 3 [] lc o xs th el:St))]) rfl (b:=b) (fb:=fb) (H:=H) (rest:=rest) (d:=(i:Int)) rfl rfl hb y1 y2 y3 y4
 rw[hA]at hb⊢
 clear p2 g hA hst hl
 simp only[St.cells]at q1 q0
 obtain⟨tot,htot⟩:∃tot,s++(A++[59])=tot:=⟨_,rfl⟩
 rw[htot]at hb⊢
 generalize hN:WH tW tB tot i=N
 simp only[St.cells,exA]
 refine Z0K follows Z05 hO Y0k rfl ?_
 cases s with
 |nil =>
  have htl:=congrArg List.length htot
  simp only[Y02,Y03,Y04]at htl
  repeat' ((conv=>whnf);first|(refine Z8y (q0 ?_ rfl rfl rfl rfl) ?_;(exact leS))|(refine Z0G (Z1S p1  [[59]] [59]  rfl rfl ?_ ?_ rfl rfl rfl rfl rfl) ?_;(exact neS);(exact leS))|refine stp ?_|with_reducible apply Z01<;>intro h)
  conv=>whnf
  (apply Z4o hN;rotate_left;rotate_left;(focus (exact rfl));(focus (exact rfl));(focus (exact rfl));(focus (exact rfl));(focus (rw[<- htot];simp;done));(focus (refine Y08 ?_;omega)))
 |cons c t =>
  have htl:=congrArg List.length htot
  simp only[Y02,Y03,Y04]at htl
  repeat' ((conv=>whnf);first|(refine Z0G (q1 ?_ ?_ rfl rfl rfl rfl rfl) ?_;(exact neS);(exact leS))|(refine Z0G (Z1S p1  [[59]] [59]  rfl rfl ?_ ?_ rfl rfl rfl rfl rfl) ?_;(exact neS);(exact leS))|refine stp ?_|with_reducible apply Z01<;>intro h)
  conv=>whnf
  (apply Z4o hN;rotate_left;rotate_left;(focus (exact rfl));(focus (exact rfl));(focus (exact rfl));(focus (exact rfl));(focus (rw[<- htot];simp;done));(focus (refine Y08 ?_;omega)))
theorem ZpJ{nm lc:List UInt8}{o:Int}{xs:List Ex}{th el:List St}{i:Nat}(hn:nm≠[])(g:∀e∈xs,Z3F e)(hl:xs.length<=9223372036854775807):Z2j (.mk 4 nm lc o xs th el:St) i:=by
 intro s hb
 have hst:stT (.mk 4 nm lc o xs th el:St) i=nm++([32,61,32]++((Z7p [99,97,115] lc xs o)++[59])):=by
  simp[stT,Zau,Zc9,hdT,brT,Z7n,hn]
 rw[hst]at hb⊢
 obtain⟨O,hO,⟨p1,p2,-⟩,-⟩:=Z13 (P:=Y00) (gl:=rgl) [wmPut.fam,wmAc.fam] [] rfl
 obtain⟨A,hA⟩:∃A,Z7p [99,97,115] lc xs o=A:=⟨_,rfl⟩
 have hAn:A≠[]:=by rw[<- hA];simp[Z7p]
 have q1:=λ{s:List UInt8} {b c fb fc:Nat} {H:Z00} {rest:List AV} hs hb y2 y1 y3 y4 y5=>Z62 p2 ([99,97,115],(.mk 4 nm lc o xs th el:St),(i:Int)) ⟨Y07 _ _,g,hl⟩ hA (A:=[.str [99,97,115],.agg (St.cells (.mk 4 nm lc o xs th el:St))]) rfl (s:=s) (b:=b) (c:=c) (fb:=fb) (fc:=fc) (H:=H) (rest:=rest) (d:=(i:Int)) rfl rfl hs hb y2 y1 y3 y4 y5
 have q0:=λ{b fb:Nat} {H:Z00} {rest:List AV} hb y1 y2 y3 y4=>Zay p2 ([99,97,115],(.mk 4 nm lc o xs th el:St),(i:Int)) ⟨Y07 _ _,g,hl⟩ trivial hA (A:=[.str [99,97,115],.agg (St.cells (.mk 4 nm lc o xs th el:St))]) rfl (b:=b) (fb:=fb) (H:=H) (rest:=rest) (d:=(i:Int)) rfl rfl hb y1 y2 y3 y4
 rw[hA]at hb⊢
 clear p2 g hA hst hl
 simp only[St.cells]at q1 q0
 obtain⟨tot,htot⟩:∃tot,s++(nm++([32,61,32]++(A++[59])))=tot:=⟨_,rfl⟩
 rw[htot]at hb⊢
 generalize hN:WH tW tB tot i=N
 simp only[St.cells,exA]
 have hf:List.flatten [nm,[32,61,32]]=nm++[32,61,32]:=by simp
 have hnn:(!(nm==([]:List UInt8)))=true:=by simp[hn]
 refine Z0K follows Z05 hO Y0k rfl ?_
 cases s with
 |nil =>
  have htl:=congrArg List.length htot
  simp only[Y02,Y03,Y04]at htl
  repeat' ((conv=>whnf);first|(refine Z8y (ZeA p1 nm [[32,61,32]] (nm++[32,61,32]) hf rfl hn ?_ rfl rfl rfl rfl) ?_;(exact leS))|(refine Z0G (q1 ?_ ?_ rfl rfl rfl rfl rfl) ?_;(exact neS);(exact leS))|(refine Z0G (Z1S p1  [[59]] [59]  rfl rfl ?_ ?_ rfl rfl rfl rfl rfl) ?_;(exact neS);(exact leS))|refine stp ?_|with_reducible apply Z01<;>intro h)
  conv=>whnf
  (apply Z4o hN;rotate_left;rotate_left;(focus (exact rfl));(focus (exact rfl));(focus (exact rfl));(focus (exact rfl));(focus (rw[<- htot];simp;done));(focus (refine Y08 ?_;omega)))
 |cons c t =>
  have htl:=congrArg List.length htot
  simp only[Y02,Y03,Y04]at htl
  repeat' ((conv=>whnf);first|(refine Z0G (Z1S p1 [nm,[32,61,32]] (nm++[32,61,32]) hf rfl ?_ ?_ rfl rfl rfl rfl rfl) ?_;(exact neS);(exact leS))|(refine Z0G (q1 ?_ ?_ rfl rfl rfl rfl rfl) ?_;(exact neS);(exact leS))|(refine Z0G (Z1S p1  [[59]] [59]  rfl rfl ?_ ?_ rfl rfl rfl rfl rfl) ?_;(exact neS);(exact leS))|refine stp ?_|with_reducible apply Z01<;>intro h)
  conv=>whnf
  (apply Z4o hN;rotate_left;rotate_left;(focus (exact rfl));(focus (exact rfl));(focus (exact rfl));(focus (exact rfl));(focus (rw[<- htot];simp;done));(focus (refine Y08 ?_;omega)))
theorem ZpI{nm lc:List UInt8}{o:Int}{xs:List Ex}{th el:List St}{i:Nat}(hn:nm≠[])(g:∀e∈xs,Z3F e)(hl:xs.length<=9223372036854775807):Z2j (.mk 5 nm lc o xs th el:St) i:=by
 intro s hb
 have hst:stT (.mk 5 nm lc o xs th el:St) i=nm++([32,61,32]++((Z7p [97,100,100] lc xs o)++[59])):=by
  simp[stT,Zau,Zc9,hdT,brT,Z7n,hn]
 rw[hst]at hb⊢
 obtain⟨O,hO,⟨p1,p2,-⟩,-⟩:=Z13 (P:=Y00) (gl:=rgl) [wmPut.fam,wmAc.fam] [] rfl
 obtain⟨A,hA⟩:∃A,Z7p [97,100,100] lc xs o=A:=⟨_,rfl⟩
 have hAn:A≠[]:=by rw[<- hA];simp[Z7p]
 have q1:=λ{s:List UInt8} {b c fb fc:Nat} {H:Z00} {rest:List AV} hs hb y2 y1 y3 y4 y5=>Z62 p2 ([97,100,100],(.mk 5 nm lc o xs th el:St),(i:Int)) ⟨Y07 _ _,g,hl⟩ hA (A:=[.str [97,100,100],.agg (St.cells (.mk 5 nm lc o xs th el:St))]) rfl (s:=s) (b:=b) (c:=c) (fb:=fb) (fc:=fc) (H:=H) (rest:=rest) (d:=(i:Int)) rfl rfl hs hb y2 y1 y3 y4 y5
 have q0:=λ{b fb:Nat} {H:Z00} {rest:List AV} hb y1 y2 y3 y4=>Zay p2 ([97,100,100],(.mk 5 nm lc o xs th el:St),(i:Int)) ⟨Y07 _ _,g,hl⟩ trivial hA (A:=[.str [97,100,100],.agg (St.cells (.mk 5 nm lc o xs th el:St))]) rfl (b:=b) (fb:=fb) (H:=H) (rest:=rest) (d:=(i:Int)) rfl rfl hb y1 y2 y3 y4
 rw[hA]at hb⊢
 clear p2 g hA hst hl
 simp only[St.cells]at q1 q0
 obtain⟨tot,htot⟩:∃tot,s++(nm++([32,61,32]++(A++[59])))=tot:=⟨_,rfl⟩
 rw[htot]at hb⊢
 generalize hN:WH tW tB tot i=N
 simp only[St.cells,exA]
 have hf:List.flatten [nm,[32,61,32]]=nm++[32,61,32]:=by simp
 have hnn:(!(nm==([]:List UInt8)))=true:=by simp[hn]
 refine Z0K follows Z05 hO Y0k rfl ?_
 cases s with
 |nil =>
  have htl:=congrArg List.length htot
  simp only[Y02,Y03,Y04]at htl
  repeat' ((conv=>whnf);first|(refine Z8y (ZeA p1 nm [[32,61,32]] (nm++[32,61,32]) hf rfl hn ?_ rfl rfl rfl rfl) ?_;(exact leS))|(refine Z0G (q1 ?_ ?_ rfl rfl rfl rfl rfl) ?_;(exact neS);(exact leS))|(refine Z0G (Z1S p1  [[59]] [59]  rfl rfl ?_ ?_ rfl rfl rfl rfl rfl) ?_;(exact neS);(exact leS))|refine stp ?_|with_reducible apply Z01<;>intro h)
  conv=>whnf
  (apply Z4o hN;rotate_left;rotate_left;(focus (exact rfl));(focus (exact rfl));(focus (exact rfl));(focus (exact rfl));(focus (rw[<- htot];simp;done));(focus (refine Y08 ?_;omega)))
 |cons c t =>
  have htl:=congrArg List.length htot
  simp only[Y02,Y03,Y04]at htl
  repeat' ((conv=>whnf);first|(refine Z0G (Z1S p1 [nm,[32,61,32]] (nm++[32,61,32]) hf rfl ?_ ?_ rfl rfl rfl rfl rfl) ?_;(exact neS);(exact leS))|(refine Z0G (q1 ?_ ?_ rfl rfl rfl rfl rfl) ?_;(exact neS);(exact leS))|(refine Z0G (Z1S p1  [[59]] [59]  rfl rfl ?_ ?_ rfl rfl rfl rfl rfl) ?_;(exact neS);(exact leS))|refine stp ?_|with_reducible apply Z01<;>intro h)
  conv=>whnf
  (apply Z4o hN;rotate_left;rotate_left;(focus (exact rfl));(focus (exact rfl));(focus (exact rfl));(focus (exact rfl));(focus (rw[<- htot];simp;done));(focus (refine Y08 ?_;omega)))
theorem ZpH{nm lc:List UInt8}{o:Int}{xs:List Ex}{th el:List St}{i:Nat}(hn:nm≠[])(g:∀e∈xs,Z3F e)(hl:xs.length<=9223372036854775807):Z2j (.mk 6 nm lc o xs th el:St) i:=by
 intro s hb
 have hst:stT (.mk 6 nm lc o xs th el:St) i=nm++([32,61,32]++((Z7p [115,119,97,112] lc xs o)++[59])):=by
  simp[stT,Zau,Zc9,hdT,brT,Z7n,hn]
 rw[hst]at hb⊢
 obtain⟨O,hO,⟨p1,p2,-⟩,-⟩:=Z13 (P:=Y00) (gl:=rgl) [wmPut.fam,wmAc.fam] [] rfl
 obtain⟨A,hA⟩:∃A,Z7p [115,119,97,112] lc xs o=A:=⟨_,rfl⟩
 have hAn:A≠[]:=by rw[<- hA];simp[Z7p]
 have q1:=λ{s:List UInt8} {b c fb fc:Nat} {H:Z00} {rest:List AV} hs hb y2 y1 y3 y4 y5=>Z62 p2 ([115,119,97,112],(.mk 6 nm lc o xs th el:St),(i:Int)) ⟨Y07 _ _,g,hl⟩ hA (A:=[.str [115,119,97,112],.agg (St.cells (.mk 6 nm lc o xs th el:St))]) rfl (s:=s) (b:=b) (c:=c) (fb:=fb) (fc:=fc) (H:=H) (rest:=rest) (d:=(i:Int)) rfl rfl hs hb y2 y1 y3 y4 y5
 have q0:=λ{b fb:Nat} {H:Z00} {rest:List AV} hb y1 y2 y3 y4=>Zay p2 ([115,119,97,112],(.mk 6 nm lc o xs th el:St),(i:Int)) ⟨Y07 _ _,g,hl⟩ trivial hA (A:=[.str [115,119,97,112],.agg (St.cells (.mk 6 nm lc o xs th el:St))]) rfl (b:=b) (fb:=fb) (H:=H) (rest:=rest) (d:=(i:Int)) rfl rfl hb y1 y2 y3 y4
 rw[hA]at hb⊢
 clear p2 g hA hst hl
 simp only[St.cells]at q1 q0
 obtain⟨tot,htot⟩:∃tot,s++(nm++([32,61,32]++(A++[59])))=tot:=⟨_,rfl⟩
 rw[htot]at hb⊢
 generalize hN:WH tW tB tot i=N
 simp only[St.cells,exA]
 have hf:List.flatten [nm,[32,61,32]]=nm++[32,61,32]:=by simp
 have hnn:(!(nm==([]:List UInt8)))=true:=by simp[hn]
 refine Z0K follows Z05 hO Y0k rfl ?_
 cases s with
 |nil =>
  have htl:=congrArg List.length htot
  simp only[Y02,Y03,Y04]at htl
  repeat' ((conv=>whnf);first|(refine Z8y (ZeA p1 nm [[32,61,32]] (nm++[32,61,32]) hf rfl hn ?_ rfl rfl rfl rfl) ?_;(exact leS))|(refine Z0G (q1 ?_ ?_ rfl rfl rfl rfl rfl) ?_;(exact neS);(exact leS))|(refine Z0G (Z1S p1  [[59]] [59]  rfl rfl ?_ ?_ rfl rfl rfl rfl rfl) ?_;(exact neS);(exact leS))|refine stp ?_|with_reducible apply Z01<;>intro h)
  conv=>whnf
  (apply Z4o hN;rotate_left;rotate_left;(focus (exact rfl));(focus (exact rfl));(focus (exact rfl));(focus (exact rfl));(focus (rw[<- htot];simp;done));(focus (refine Y08 ?_;omega)))
 |cons c t =>
  have htl:=congrArg List.length htot
  simp only[Y02,Y03,Y04]at htl
  repeat' ((conv=>whnf);first|(refine Z0G (Z1S p1 [nm,[32,61,32]] (nm++[32,61,32]) hf rfl ?_ ?_ rfl rfl rfl rfl rfl) ?_;(exact neS);(exact leS))|(refine Z0G (q1 ?_ ?_ rfl rfl rfl rfl rfl) ?_;(exact neS);(exact leS))|(refine Z0G (Z1S p1  [[59]] [59]  rfl rfl ?_ ?_ rfl rfl rfl rfl rfl) ?_;(exact neS);(exact leS))|refine stp ?_|with_reducible apply Z01<;>intro h)
  conv=>whnf
  (apply Z4o hN;rotate_left;rotate_left;(focus (exact rfl));(focus (exact rfl));(focus (exact rfl));(focus (exact rfl));(focus (rw[<- htot];simp;done));(focus (refine Y08 ?_;omega)))
theorem ZpG{lc:List UInt8}{o:Int}{xs:List Ex}{th el:List St}{i:Nat}  : Z2j (.mk 7 [] lc o xs th el:St) i:=by
 intro s hb
 have hst:stT (.mk 7 [] lc o xs th el:St) i=[102,101,110,99,101,40]++((Z5S o)++[41,59]):=by
  simp[stT,Zau,Zc9,hdT,brT,Z7n]
 rw[hst]at hb⊢
 obtain⟨O,hO,⟨p1,-⟩,⟨r1,-⟩⟩:=Z13 (P:=Y00) (gl:=rgl) [wmPut.fam] [ZoY] rfl
 have q3:∀H,Z03 Y00 O H 22 [.int .i64 o]=some (.str (Z5S o),H):=r1 o trivial
 clear r1
 generalize Z5S o=od at *
 obtain⟨tot,htot⟩:∃tot,s++([102,101,110,99,101,40]++(od++[41,59]))=tot:=⟨_,rfl⟩
 rw[htot]at hb⊢
 generalize hN:WH tW tB tot i=N
 simp only[St.cells,exA]
 have hf:List.flatten [[102,101,110,99,101,40],od,[41]]=[102,101,110,99,101,40]++(od++[41]):=by simp
 refine Z0K follows Z05 hO Y0k rfl ?_
 cases s with
 |nil =>
  have htl:=congrArg List.length htot
  simp only[Y02,Y03,Y04]at htl
  repeat' ((conv=>whnf);first|(refine Z8y (ZeA p1 [102,101,110,99,101,40] [od,[41]] ([102,101,110,99,101,40]++(od++[41])) hf rfl (Y07 _ _) ?_ rfl rfl rfl rfl) ?_;(exact leS))|with_reducible refine exI (q3 _) ?_|(refine Z0G (Z1S p1  [[59]] [59]  rfl rfl ?_ ?_ rfl rfl rfl rfl rfl) ?_;(exact neS);(exact leS))|refine stp ?_|with_reducible apply Z01<;>intro h)
  conv=>whnf
  (apply Z4o hN;rotate_left;rotate_left;(focus (exact rfl));(focus (exact rfl));(focus (exact rfl));(focus (exact rfl));(focus (rw[<- htot];simp;done));(focus (refine Y08 ?_;omega)))
 |cons c t =>
  have htl:=congrArg List.length htot
  simp only[Y02,Y03,Y04]at htl
  repeat' ((conv=>whnf);first|(refine Z0G (Z1S p1 [[102,101,110,99,101,40],od,[41]] ([102,101,110,99,101,40]++(od++[41])) hf rfl ?_ ?_ rfl rfl rfl rfl rfl) ?_;(exact neS);(exact leS))|with_reducible refine exI (q3 _) ?_|(refine Z0G (Z1S p1  [[59]] [59]  rfl rfl ?_ ?_ rfl rfl rfl rfl rfl) ?_;(exact neS);(exact leS))|refine stp ?_|with_reducible apply Z01<;>intro h)
  conv=>whnf
  (apply Z4o hN;rotate_left;rotate_left;(focus (exact rfl));(focus (exact rfl));(focus (exact rfl));(focus (exact rfl));(focus (rw[<- htot];simp;done));(focus (refine Y08 ?_;omega)))
theorem ZpF{lc:List UInt8}{o:Int}{e:Ex}{th el:List St}{i:Nat}(g:Z3F e):Z2j (.mk 8 [] lc o [e] th el:St) i:=by
 intro s hb
 have hst:stT (.mk 8 [] lc o [e] th el:St) i=(brT [97,115,115,117,109,101] e)++[59]:=by
  simp[stT,Zau,Zc9,hdT,brT,Z7n]
 rw[hst]at hb⊢
 obtain⟨O,hO,⟨p1,p2,-⟩,-⟩:=Z13 (P:=Y00) (gl:=rgl) [wmPut.fam,wmBr.fam] [] rfl
 obtain⟨B,hB⟩:∃B,brT [97,115,115,117,109,101] e=B:=⟨_,rfl⟩
 have hBn:B≠[]:=by rw[<- hB];simp[brT]
 have q1:=λ{s:List UInt8} {b c fb fc:Nat} {H:Z00} {rest:List AV} hs hb y2 y1 y3 y4 y5=>Z62 p2 ([97,115,115,117,109,101],e,(i:Int)) ⟨Y07 _ _,g⟩ hB (A:=[.str [97,115,115,117,109,101],.agg e.cells]) rfl (s:=s) (b:=b) (c:=c) (fb:=fb) (fc:=fc) (H:=H) (rest:=rest) (d:=(i:Int)) rfl rfl hs hb y2 y1 y3 y4 y5
 have q0:=λ{b fb:Nat} {H:Z00} {rest:List AV} hb y1 y2 y3 y4=>Zay p2 ([97,115,115,117,109,101],e,(i:Int)) ⟨Y07 _ _,g⟩ trivial hB (A:=[.str [97,115,115,117,109,101],.agg e.cells]) rfl (b:=b) (fb:=fb) (H:=H) (rest:=rest) (d:=(i:Int)) rfl rfl hb y1 y2 y3 y4
 rw[hB]at hb⊢
 clear p2 g hB hst
 obtain⟨tot,htot⟩:∃tot,s++(B++[59])=tot:=⟨_,rfl⟩
 rw[htot]at hb⊢
 generalize hN:WH tW tB tot i=N
 have hx:=ex4 [e] 0 (by simp)
 simp only[Y0g]at hx
 simp only[St.cells,exA]
 generalize exC [e]=ks at *
 obtain⟨eo,en,es_,ek⟩:=e
 simp only[Ex.cells]at *
 refine Z0K follows Z05 hO Y0k rfl ?_
 cases s with
 |nil =>
  have htl:=congrArg List.length htot
  simp only[Y02,Y03,Y04]at htl
  repeat' ((conv=>whnf);first|(refine Z8y (q0 ?_ rfl rfl rfl rfl) ?_;(exact leS))|refine exI hx ?_|(refine Z0G (Z1S p1  [[59]] [59]  rfl rfl ?_ ?_ rfl rfl rfl rfl rfl) ?_;(exact neS);(exact leS))|refine stp ?_|with_reducible apply Z01<;>intro h)
  conv=>whnf
  (apply Z4o hN;rotate_left;rotate_left;(focus (exact rfl));(focus (exact rfl));(focus (exact rfl));(focus (exact rfl));(focus (rw[<- htot];simp;done));(focus (refine Y08 ?_;omega)))
 |cons c t =>
  have htl:=congrArg List.length htot
  simp only[Y02,Y03,Y04]at htl
  repeat' ((conv=>whnf);first|(refine Z0G (q1 ?_ ?_ rfl rfl rfl rfl rfl) ?_;(exact neS);(exact leS))|refine exI hx ?_|(refine Z0G (Z1S p1  [[59]] [59]  rfl rfl ?_ ?_ rfl rfl rfl rfl rfl) ?_;(exact neS);(exact leS))|refine stp ?_|with_reducible apply Z01<;>intro h)
  conv=>whnf
  (apply Z4o hN;rotate_left;rotate_left;(focus (exact rfl));(focus (exact rfl));(focus (exact rfl));(focus (exact rfl));(focus (rw[<- htot];simp;done));(focus (refine Y08 ?_;omega)))
theorem ZpE{lc:List UInt8}{o:Int}{e:Ex}{th el:List St}{i:Nat}(g:Z3F e):Z2j (.mk 9 [] lc o [e] th el:St) i:=by
 intro s hb
 have hst:stT (.mk 9 [] lc o [e] th el:St) i=(brT [97,115,115,101,114,116] e)++[59]:=by
  simp[stT,Zau,Zc9,hdT,brT,Z7n]
 rw[hst]at hb⊢
 obtain⟨O,hO,⟨p1,p2,-⟩,-⟩:=Z13 (P:=Y00) (gl:=rgl) [wmPut.fam,wmBr.fam] [] rfl
 obtain⟨B,hB⟩:∃B,brT [97,115,115,101,114,116] e=B:=⟨_,rfl⟩
 have hBn:B≠[]:=by rw[<- hB];simp[brT]
 have q1:=λ{s:List UInt8} {b c fb fc:Nat} {H:Z00} {rest:List AV} hs hb y2 y1 y3 y4 y5=>Z62 p2 ([97,115,115,101,114,116],e,(i:Int)) ⟨Y07 _ _,g⟩ hB (A:=[.str [97,115,115,101,114,116],.agg e.cells]) rfl (s:=s) (b:=b) (c:=c) (fb:=fb) (fc:=fc) (H:=H) (rest:=rest) (d:=(i:Int)) rfl rfl hs hb y2 y1 y3 y4 y5
 have q0:=λ{b fb:Nat} {H:Z00} {rest:List AV} hb y1 y2 y3 y4=>Zay p2 ([97,115,115,101,114,116],e,(i:Int)) ⟨Y07 _ _,g⟩ trivial hB (A:=[.str [97,115,115,101,114,116],.agg e.cells]) rfl (b:=b) (fb:=fb) (H:=H) (rest:=rest) (d:=(i:Int)) rfl rfl hb y1 y2 y3 y4
 rw[hB]at hb⊢
 clear p2 g hB hst
 obtain⟨tot,htot⟩:∃tot,s++(B++[59])=tot:=⟨_,rfl⟩
 rw[htot]at hb⊢
 generalize hN:WH tW tB tot i=N
 have hx:=ex4 [e] 0 (by simp)
 simp only[Y0g]at hx
 simp only[St.cells,exA]
 generalize exC [e]=ks at *
 obtain⟨eo,en,es_,ek⟩:=e
 simp only[Ex.cells]at *
 refine Z0K follows Z05 hO Y0k rfl ?_
 cases s with
 |nil =>
  have htl:=congrArg List.length htot
  simp only[Y02,Y03,Y04]at htl
  repeat' ((conv=>whnf);first|(refine Z8y (q0 ?_ rfl rfl rfl rfl) ?_;(exact leS))|refine exI hx ?_|(refine Z0G (Z1S p1  [[59]] [59]  rfl rfl ?_ ?_ rfl rfl rfl rfl rfl) ?_;(exact neS);(exact leS))|refine stp ?_|with_reducible apply Z01<;>intro h)
  conv=>whnf
  (apply Z4o hN;rotate_left;rotate_left;(focus (exact rfl));(focus (exact rfl));(focus (exact rfl));(focus (exact rfl));(focus (rw[<- htot];simp;done));(focus (refine Y08 ?_;omega)))
 |cons c t =>
  have htl:=congrArg List.length htot
  simp only[Y02,Y03,Y04]at htl
  repeat' ((conv=>whnf);first|(refine Z0G (q1 ?_ ?_ rfl rfl rfl rfl rfl) ?_;(exact neS);(exact leS))|refine exI hx ?_|(refine Z0G (Z1S p1  [[59]] [59]  rfl rfl ?_ ?_ rfl rfl rfl rfl rfl) ?_;(exact neS);(exact leS))|refine stp ?_|with_reducible apply Z01<;>intro h)
  conv=>whnf
  (apply Z4o hN;rotate_left;rotate_left;(focus (exact rfl));(focus (exact rfl));(focus (exact rfl));(focus (exact rfl));(focus (rw[<- htot];simp;done));(focus (refine Y08 ?_;omega)))
theorem Zmo{lc:List UInt8}{o:Int}{e:Ex}{th el:List St}{i:Nat}(g:Z3F e)(ht:Z5n th i)(he:Z5n el i):Z2j (.mk 10 [] lc o [e] th el:St) i:=by
 intro s hb
 have hst:stT (.mk 10 [] lc o [e] th el:St) i=(brT [105,102,32] e)++(32::((Z7n th i)++((if el.length=0 then [] else [32,101,108,115,101,32]++Z7n el i)))):=by
  simp[stT,Zau,Zc9,hdT,brT,Z7n]
 rw[hst]at hb⊢
 obtain⟨O,hO,⟨p1,p2,p3,-⟩,-⟩:=Z13 (P:=Y00) (gl:=rgl) [wmPut.fam,wmBr.fam,(Zu6 (λl j=>(l=th\/l=el)/\j=i) (λl j h=>by rcases h with ⟨h|h,rfl⟩;rw[h];exact ht;rw[h];exact he)).fam] [] rfl
 obtain⟨B,hB⟩:∃B,brT [105,102,32] e=B:=⟨_,rfl⟩
 have hBn:B≠[]:=by rw[<- hB];simp[brT]
 have q1:=λ{s:List UInt8} {b c fb fc:Nat} {H:Z00} {rest:List AV} hs hb y2 y1 y3 y4 y5=>Z62 p2 ([105,102,32],e,(i:Int)) ⟨Y07 _ _,g⟩ hB (A:=[.str [105,102,32],.agg e.cells]) rfl (s:=s) (b:=b) (c:=c) (fb:=fb) (fc:=fc) (H:=H) (rest:=rest) (d:=(i:Int)) rfl rfl hs hb y2 y1 y3 y4 y5
 have q0:=λ{b fb:Nat} {H:Z00} {rest:List AV} hb y1 y2 y3 y4=>Zay p2 ([105,102,32],e,(i:Int)) ⟨Y07 _ _,g⟩ trivial hB (A:=[.str [105,102,32],.agg e.cells]) rfl (b:=b) (fb:=fb) (H:=H) (rest:=rest) (d:=(i:Int)) rfl rfl hb y1 y2 y3 y4
 rw[hB]at hb⊢
 obtain⟨Bt,hBt⟩:∃B,Z7n th i=B:=⟨_,rfl⟩
 have q5:=λ{s:List UInt8} {b c fb fc:Nat} {H:Z00} {rest:List AV} hs hb y2 y1 y3 y4 y5=>Z62 p3 (th,i) ⟨.inl rfl,rfl⟩ hBt (A:=[stA th]) rfl (s:=s) (b:=b) (c:=c) (fb:=fb) (fc:=fc) (H:=H) (rest:=rest) (d:=(i:Int)) rfl rfl hs hb y2 y1 y3 y4 y5
 obtain⟨Be,hBe⟩:∃B,Z7n el i=B:=⟨_,rfl⟩
 have q6:=λ{s:List UInt8} {b c fb fc:Nat} {H:Z00} {rest:List AV} hs hb y2 y1 y3 y4 y5=>Z62 p3 (el,i) ⟨.inr rfl,rfl⟩ hBe (A:=[stA el]) rfl (s:=s) (b:=b) (c:=c) (fb:=fb) (fc:=fc) (H:=H) (rest:=rest) (d:=(i:Int)) rfl rfl hs hb y2 y1 y3 y4 y5
 rw[hBt,hBe]at hb⊢
 simp only[stA]at q5 q6
 obtain⟨tot,htot⟩:∃tot,s++(B++(32::(Bt++(if el.length=0 then [] else [32,101,108,115,101,32]++Be))))=tot:=⟨_,rfl⟩
 rw[htot]at hb⊢
 generalize hN:WH tW tB tot i=N
 have hx:=ex4 [e] 0 (by simp)
 simp only[Y0g]at hx
 simp only[St.cells,exA]
 generalize exC [e]=ks at *
 obtain⟨eo,en,es_,ek⟩:=e
 simp only[Ex.cells]at *
 refine Z0K follows Z05 hO Y0k rfl ?_
 cases s with
 |nil =>
  by_cases hel:el.length=0
  · have c1:decide ((el.length:Int)>0)=false:=by simp only[gt_iff_lt,decide_eq_false_iff_not];omega
    rw[if_pos hel]at htot
    have htl:=congrArg List.length htot
    simp only[Y02,Y03,Y04]at htl
    repeat' ((conv=>whnf);first|(refine Z8y (q0 ?_ rfl rfl rfl rfl) ?_;(exact leS))|refine exI hx ?_|(refine Z0G (Z1S p1  [[32]] [32]  rfl rfl ?_ ?_ rfl rfl rfl rfl rfl) ?_;(exact neS);(exact leS))|(refine Z0G (q5 ?_ ?_ rfl rfl rfl rfl rfl) ?_;(exact neS);(exact leS))|(refine Z0G (Z1S p1  [[32,101,108,115,101,32]] [32,101,108,115,101,32]  rfl rfl ?_ ?_ rfl rfl rfl rfl rfl) ?_;(exact neS);(exact leS))|(refine Z0G (q6 ?_ ?_ rfl rfl rfl rfl rfl) ?_;(exact neS);(exact leS))|refine stp ?_|with_reducible apply Z01<;>intro h)
    conv=>whnf
    (apply Z4o hN;rotate_left;rotate_left;(focus (exact rfl));(focus (exact rfl));(focus (exact rfl));(focus (exact rfl));(focus (rw[<- htot];simp;done));(focus (refine Y08 ?_;omega)))
  · have c1:decide ((el.length:Int)>0)=true:=by simp only[gt_iff_lt,decide_eq_true_eq];omega
    rw[if_neg hel]at htot
    have htl:=congrArg List.length htot
    simp only[Y02,Y03,Y04]at htl
    repeat' ((conv=>whnf);first|(refine Z8y (q0 ?_ rfl rfl rfl rfl) ?_;(exact leS))|refine exI hx ?_|(refine Z0G (Z1S p1  [[32]] [32]  rfl rfl ?_ ?_ rfl rfl rfl rfl rfl) ?_;(exact neS);(exact leS))|(refine Z0G (q5 ?_ ?_ rfl rfl rfl rfl rfl) ?_;(exact neS);(exact leS))|(refine Z0G (Z1S p1  [[32,101,108,115,101,32]] [32,101,108,115,101,32]  rfl rfl ?_ ?_ rfl rfl rfl rfl rfl) ?_;(exact neS);(exact leS))|(refine Z0G (q6 ?_ ?_ rfl rfl rfl rfl rfl) ?_;(exact neS);(exact leS))|refine stp ?_|with_reducible apply Z01<;>intro h)
    conv=>whnf
    (apply Z4o hN;rotate_left;rotate_left;(focus (exact rfl));(focus (exact rfl));(focus (exact rfl));(focus (exact rfl));(focus (rw[<- htot];simp;done));(focus (refine Y08 ?_;omega)))
 |cons c t =>
  by_cases hel:el.length=0
  · have c1:decide ((el.length:Int)>0)=false:=by simp only[gt_iff_lt,decide_eq_false_iff_not];omega
    rw[if_pos hel]at htot
    have htl:=congrArg List.length htot
    simp only[Y02,Y03,Y04]at htl
    repeat' ((conv=>whnf);first|(refine Z0G (q1 ?_ ?_ rfl rfl rfl rfl rfl) ?_;(exact neS);(exact leS))|refine exI hx ?_|(refine Z0G (Z1S p1  [[32]] [32]  rfl rfl ?_ ?_ rfl rfl rfl rfl rfl) ?_;(exact neS);(exact leS))|(refine Z0G (q5 ?_ ?_ rfl rfl rfl rfl rfl) ?_;(exact neS);(exact leS))|(refine Z0G (Z1S p1  [[32,101,108,115,101,32]] [32,101,108,115,101,32]  rfl rfl ?_ ?_ rfl rfl rfl rfl rfl) ?_;(exact neS);(exact leS))|(refine Z0G (q6 ?_ ?_ rfl rfl rfl rfl rfl) ?_;(exact neS);(exact leS))|refine stp ?_|with_reducible apply Z01<;>intro h)
    conv=>whnf
    (apply Z4o hN;rotate_left;rotate_left;(focus (exact rfl));(focus (exact rfl));(focus (exact rfl));(focus (exact rfl));(focus (rw[<- htot];simp;done));(focus (refine Y08 ?_;omega)))
  · have c1:decide ((el.length:Int)>0)=true:=by simp only[gt_iff_lt,decide_eq_true_eq];omega
    rw[if_neg hel]at htot
    have htl:=congrArg List.length htot
    simp only[Y02,Y03,Y04]at htl
    repeat' ((conv=>whnf);first|(refine Z0G (q1 ?_ ?_ rfl rfl rfl rfl rfl) ?_;(exact neS);(exact leS))|refine exI hx ?_|(refine Z0G (Z1S p1  [[32]] [32]  rfl rfl ?_ ?_ rfl rfl rfl rfl rfl) ?_;(exact neS);(exact leS))|(refine Z0G (q5 ?_ ?_ rfl rfl rfl rfl rfl) ?_;(exact neS);(exact leS))|(refine Z0G (Z1S p1  [[32,101,108,115,101,32]] [32,101,108,115,101,32]  rfl rfl ?_ ?_ rfl rfl rfl rfl rfl) ?_;(exact neS);(exact leS))|(refine Z0G (q6 ?_ ?_ rfl rfl rfl rfl rfl) ?_;(exact neS);(exact leS))|refine stp ?_|with_reducible apply Z01<;>intro h)
    conv=>whnf
    (apply Z4o hN;rotate_left;rotate_left;(focus (exact rfl));(focus (exact rfl));(focus (exact rfl));(focus (exact rfl));(focus (rw[<- htot];simp;done));(focus (refine Y08 ?_;omega)))
theorem Zmn{lc:List UInt8}{o:Int}{e:Ex}{th el:List St}{i:Nat}(g:Z3F e)(ht:Z5n th i):Z2j (.mk 11 [] lc o [e] th el:St) i:=by
 intro s hb
 have hst:stT (.mk 11 [] lc o [e] th el:St) i=(brT [119,104,105,108,101,32] e)++(32::(Z7n th i)):=by
  simp[stT,Zau,Zc9,hdT,brT,Z7n]
 rw[hst]at hb⊢
 obtain⟨O,hO,⟨p1,p2,p3,-⟩,-⟩:=Z13 (P:=Y00) (gl:=rgl) [wmPut.fam,wmBr.fam,(Zu6 (λl j=>l=th/\j=i) (λl j h=>by rw[h.1,h.2];exact ht)).fam] [] rfl
 obtain⟨B,hB⟩:∃B,brT [119,104,105,108,101,32] e=B:=⟨_,rfl⟩
 have hBn:B≠[]:=by rw[<- hB];simp[brT]
 have q1:=λ{s:List UInt8} {b c fb fc:Nat} {H:Z00} {rest:List AV} hs hb y2 y1 y3 y4 y5=>Z62 p2 ([119,104,105,108,101,32],e,(i:Int)) ⟨Y07 _ _,g⟩ hB (A:=[.str [119,104,105,108,101,32],.agg e.cells]) rfl (s:=s) (b:=b) (c:=c) (fb:=fb) (fc:=fc) (H:=H) (rest:=rest) (d:=(i:Int)) rfl rfl hs hb y2 y1 y3 y4 y5
 have q0:=λ{b fb:Nat} {H:Z00} {rest:List AV} hb y1 y2 y3 y4=>Zay p2 ([119,104,105,108,101,32],e,(i:Int)) ⟨Y07 _ _,g⟩ trivial hB (A:=[.str [119,104,105,108,101,32],.agg e.cells]) rfl (b:=b) (fb:=fb) (H:=H) (rest:=rest) (d:=(i:Int)) rfl rfl hb y1 y2 y3 y4
 rw[hB]at hb⊢
 obtain⟨Bt,hBt⟩:∃B,Z7n th i=B:=⟨_,rfl⟩
 have q5:=λ{s:List UInt8} {b c fb fc:Nat} {H:Z00} {rest:List AV} hs hb y2 y1 y3 y4 y5=>Z62 p3 (th,i) ⟨rfl,rfl⟩ hBt (A:=[stA th]) rfl (s:=s) (b:=b) (c:=c) (fb:=fb) (fc:=fc) (H:=H) (rest:=rest) (d:=(i:Int)) rfl rfl hs hb y2 y1 y3 y4 y5
 rw[hBt]at hb⊢
 simp only[stA]at q5
 obtain⟨tot,htot⟩:∃tot,s++(B++(32::Bt))=tot:=⟨_,rfl⟩
 rw[htot]at hb⊢
 generalize hN:WH tW tB tot i=N
 have hx:=ex4 [e] 0 (by simp)
 simp only[Y0g]at hx
 simp only[St.cells,exA]
 generalize exC [e]=ks at *
 obtain⟨eo,en,es_,ek⟩:=e
 simp only[Ex.cells]at *
 refine Z0K follows Z05 hO Y0k rfl ?_
 cases s with
 |nil =>
  have htl:=congrArg List.length htot
  simp only[Y02,Y03,Y04]at htl
  repeat' ((conv=>whnf);first|(refine Z8y (q0 ?_ rfl rfl rfl rfl) ?_;(exact leS))|refine exI hx ?_|(refine Z0G (Z1S p1  [[32]] [32]  rfl rfl ?_ ?_ rfl rfl rfl rfl rfl) ?_;(exact neS);(exact leS))|(refine Z0G (q5 ?_ ?_ rfl rfl rfl rfl rfl) ?_;(exact neS);(exact leS))|refine stp ?_|with_reducible apply Z01<;>intro h)
  conv=>whnf
  (apply Z4o hN;rotate_left;rotate_left;(focus (exact rfl));(focus (exact rfl));(focus (exact rfl));(focus (exact rfl));(focus (rw[<- htot];simp;done));(focus (refine Y08 ?_;omega)))
 |cons c t =>
  have htl:=congrArg List.length htot
  simp only[Y02,Y03,Y04]at htl
  repeat' ((conv=>whnf);first|(refine Z0G (q1 ?_ ?_ rfl rfl rfl rfl rfl) ?_;(exact neS);(exact leS))|refine exI hx ?_|(refine Z0G (Z1S p1  [[32]] [32]  rfl rfl ?_ ?_ rfl rfl rfl rfl rfl) ?_;(exact neS);(exact leS))|(refine Z0G (q5 ?_ ?_ rfl rfl rfl rfl rfl) ?_;(exact neS);(exact leS))|refine stp ?_|with_reducible apply Z01<;>intro h)
  conv=>whnf
  (apply Z4o hN;rotate_left;rotate_left;(focus (exact rfl));(focus (exact rfl));(focus (exact rfl));(focus (exact rfl));(focus (rw[<- htot];simp;done));(focus (refine Y08 ?_;omega)))
end
section
def wmBeg:WM Y00 rgl tW tB where
 f:=72
 X:=Nat
 G:=λx=>x<40
 G0:=λ_=>False
 A:=λ_=>[]
 D:=λx=>(x:Int)
 T:=λx=>spc x
 L:=1073741824
 body:=by kernel_rfl
 inj:=by
  rintro x y _ _ _ hd
  rw[Y0r.1 hd]
 ne:=λx _ h=>h.elim
 ok:=λx g s h0 hb=>Zo3 x g s h0 hb
theorem Zn6(x:St)(l:List St)(i:Nat):lnT (x::l) i=spc i++(stT x i++(10::lnT l i)):=by simp only[lnT]
theorem Zhe(l:List St)(i:Nat)(hi:i<38)(hl:l.length<=9223372036854775807)(hk:∀x∈l,Z2j x (i+1)/\stT x (i+1)≠[]):Z5n l i:=by
 intro s hs hb
 obtain⟨O,hO,⟨p1,p2,p3,-⟩,-⟩:=Z13 (P:=Y00) (gl:=rgl) [wmPut.fam,wmBeg.fam,(ZuX (λx j=>(Z2j x j/\stT x j≠[])) (λx j h=>h.2) (λx j h=>h.1)).fam] [] rfl
 have qb:=λ(n:Nat) (hn:n<40) {s:List UInt8} {b c fb fc:Nat} {H:Z00} {rest:List AV} hs hb y2 y1 y3 y4 y5=>Z62 p2 n hn (T:=spc n) rfl (A:=[]) rfl (s:=s) (b:=b) (c:=c) (fb:=fb) (fc:=fc) (H:=H) (rest:=rest) (d:=(n:Int)) rfl rfl hs hb y2 y1 y3 y4 y5
 have qs:=λ(x:St) (h:Z2j x (i+1)/\stT x (i+1)≠[]) {T:List UInt8} (hT:stT x (i+1)=T) {s:List UInt8} {b c fb fc:Nat} {H:Z00} {rest:List AV} hs hb y2 y1 y3 y4 y5=>Z62 p3 (x,i+1) h hT (A:=[.agg x.cells]) rfl (s:=s) (b:=b) (c:=c) (fb:=fb) (fc:=fc) (H:=H) (rest:=rest) (d:=((i+1:Nat):Int)) rfl rfl hs hb y2 y1 y3 y4 y5
 have qb1:=λ{s:List UInt8} {b c fb fc:Nat} {H:Z00} {rest:List AV} hs hb y2 y1 y3 y4 y5=>qb (i+1) (by omega) (s:=s) (b:=b) (c:=c) (fb:=fb) (fc:=fc) (H:=H) (rest:=rest) hs hb y2 y1 y3 y4 y5
 have qb0:=λ{s:List UInt8} {b c fb fc:Nat} {H:Z00} {rest:List AV} hs hb y2 y1 y3 y4 y5=>qb i (by omega) (s:=s) (b:=b) (c:=c) (fb:=fb) (fc:=fc) (H:=H) (rest:=rest) hs hb y2 y1 y3 y4 y5
 clear qb
 obtain⟨tot,htot⟩:∃tot,s++Z7n l i=tot:=⟨_,rfl⟩
 rw[htot]at hb⊢
 simp only[Z7n]at htot
 generalize spc i=sp0 at *
 generalize hsp1:spc (i+1)=sp1 at *
 generalize hN:WH tW tB tot i=N
 have w1:IntKind.i64.wrap ((i:Int)+1)=((i+1:Nat):Int):=by
  have:(i:Int)+1=((i+1:Nat):Int):=by omega
  rw[this];exact Z2M (by omega) (by omega)
 have w2:IntKind.i64.wrap (((i+1:Nat):Int)-1)=(i:Int):=by
  have:((i+1:Nat):Int)-1=(i:Int):=by omega
  rw[this];exact Z2M (by omega) (by omega)
 obtain⟨c,t,rfl⟩:∃c t,s=c::t:=by cases s with|nil=>exact absurd rfl hs|cons c t=>exact⟨c,t,rfl⟩
 have htl:=congrArg List.length htot
 simp only[Y02,Y03,Y04]at htl
 simp only[stA]
 refine Z0K follows Z05 hO Tryz.func35 rfl ?_
 repeat' ((conv=>whnf);first|(refine Z0G (Z1S p1  [[123,10]] [123,10]  rfl rfl ?_ ?_ rfl rfl rfl rfl rfl) ?_;(exact neS);(exact leS))|(with_reducible refine exW w1 ?_)|refine stp ?_|with_reducible apply Z01<;>intro h)
 conv=>whnf
 refine⟨Nat×List UInt8,(λp=>p.1<=l.length/\p.2≠[]/\p.2++(lnT (l.drop p.1) (i+1)++(sp0++[125]))=tot),(λp=>[(0,.ptr 0 0),(16,.rs l.length 7 (stC l)),(17,.int .i64 l.length),(18,.int .i64 p.1)]),(λp=>WH tW tB p.2 ((i+1:Nat):Int)++[]),(λp=>l.length-p.1),⟨(0,c::t++[123,10]),⟨Y0b _,by simp,by rw[<- htot];simp⟩,?_⟩,?_⟩
 · apply fgE (rest:=[])
   rotate_left;rotate_left;rotate_left
   (focus (exact rfl));(focus (exact rfl));(focus (exact rfl))
   (focus (exact trivial))
   (focus (exact rfl))
   (focus (refine Y01 (Y05 rfl rfl) ?_;refine Y01 (Y0a rfl) ?_;refine Y01 (Y06 rfl) ?_;exact⟨Y06 rfl,trivial⟩))
   (focus (exact rfl));(focus (simp;done));(focus (simp;done))
 rintro⟨j,acc⟩ ⟨h1,h2,h3⟩
 dsimp only at h1 h2 h3
 dsimp only
 clear htot htl hs
 have htl:=congrArg List.length h3
 obtain⟨ac,at_,rfl⟩:∃c t,acc=c::t:=by cases acc with|nil=>exact absurd rfl h2|cons c t=>exact⟨c,t,rfl⟩
 by_cases hlt:j<l.length
 · have c1:decide ((j:Int)<(l.length:Int))=true:=by simpa using hlt
   have hx:=st7 l j hlt
   have hkx:=hk l[j] (Z0i hlt)
   rw[Y0y hlt,Zn6,hsp1]at h3 htl
   obtain⟨w,hwe⟩:∃w,stT l[j] (i+1)=w:=⟨_,rfl⟩
   have qe:=@qs l[j] hkx w hwe
   rw[hwe]at h3 htl
   simp only[Y02,Y03,Y04]at htl
   clear qs hkx hwe hk
   generalize l[j]=x at *
   obtain⟨xk,xn,xl,xo,xx,xt,xe⟩:=x
   simp only[St.cells,exA]at *
   repeat' ((conv=>whnf);first|refine exI hx ?_|(refine Z0G (qb1 ?_ ?_ rfl rfl rfl rfl rfl) ?_;(exact neS);(exact leS))|(refine Z0G (qe ?_ ?_ rfl rfl rfl rfl rfl) ?_;(exact neS);(exact leS))|(refine Z0G (Z1S p1  [[10]] [10]  rfl rfl ?_ ?_ rfl rfl rfl rfl rfl) ?_;(exact neS);(exact leS))|(with_reducible refine ixJ j rfl ?_ ?_;focus omega)|refine stp ?_|with_reducible apply Z01<;>intro h)
   conv=>whnf
   refine⟨(j+1,ac::at_++sp1++w++[10]),⟨hlt,by simp,by rw[<- h3];simp⟩,by show l.length-(j+1)<l.length-j;omega,?_⟩
   apply fgE (rest:=[])
   rotate_left;rotate_left;rotate_left
   (focus (exact rfl));(focus (exact rfl));(focus (exact rfl))
   (focus (exact trivial))
   (focus (exact rfl))
   (focus (refine Y01 (Y05 rfl rfl) ?_;refine Y01 (Y0a rfl) ?_;refine Y01 (Y06 rfl) ?_;exact⟨Y06 rfl,trivial⟩))
   (focus (exact rfl));(focus (simp;done));(focus (simp;done))
 · have c1:decide ((j:Int)<(l.length:Int))=false:=by simpa using hlt
   have hi2:j=l.length:=by omega
   subst hi2
   rw[Y0z]at h3 htl
   simp only[lnT,Y0A,Y02,Y03,Y04]at h3 htl
   repeat' ((conv=>whnf);first|(with_reducible refine exW w2 ?_)|(refine Z0G (qb0 ?_ ?_ rfl rfl rfl rfl rfl) ?_;(exact neS);(exact leS))|(refine Z0G (Z1S p1  [[125]] [125]  rfl rfl ?_ ?_ rfl rfl rfl rfl rfl) ?_;(exact neS);(exact leS))|refine stp ?_|with_reducible apply Z01<;>intro h)
   conv=>whnf
   (apply Z4o hN;rotate_left;rotate_left;(focus (exact rfl));(focus (exact rfl));(focus (exact rfl));(focus (exact rfl));(focus (rw[<- h3];simp;done));(focus (refine Y08 ?_;omega)))
end
section
theorem Zgl(x:St)(i:Nat):stT x i≠[]:=by
 obtain⟨k,n,lc,o,xs,t,e⟩:=x
 simp only[stT]
 intro h
 have h2:=(List.append_eq_nil_iff.1 h).2
 split at h2
 ·simp at h2
 · split at h2
   ·simp at h2
   ·simp at h2
theorem Zdn:∀{l:List Ex},rightL l=true->∀e∈l,Z0p e=true
 |x::l,h,e,he=>by
  simp only[rightL,Y0n]at h
  rcases Y0s.1 he with rfl|he
  ·exact h.1
  ·exact Zdn h.2 e he
theorem Z7y:∀{l:List St},rightSL l=true->∀e∈l,Z2E e=true
 |x::l,h,e,he=>by
  simp only[rightSL,Y0n]at h
  rcases Y0s.1 he with rfl|he
  ·exact h.1
  ·exact Z7y h.2 e he
theorem Zdp {k : Int} {n lc : List UInt8} {o : Int} {xs : List Ex} {t e : List St} (h : Z2E (.mk k n lc o xs t e) = true) :
  (1<=k/\k<=11)/\(Zfk k=true->n≠[])/\(Zfk k=false->n=[])/\xs.length=Znl k/\(ZqT k=false->t=[])/\(ZiC k=false->e=[])/\rightL xs=true/\rightSL t=true/\rightSL e=true:=by
 simp only[Z2E,Y0n]at h
 obtain⟨h1,h2,h3,h4⟩:=h
 simp only[Zov,ZaA,St.kind,St.name,St.loc,St.order,St.exprs,St.thn,St.els,Y0n,decide_eq_true_eq,Y0w]at h1
 obtain⟨a1,a2,a3,a4,a5,a6,a7⟩:=h1
 refine⟨of_decide_eq_true a1,λhk=>?_,λhk=>?_,of_decide_eq_true a5,λhk=>?_,λhk=>?_,h2,h3,h4⟩
 ·rw[hk]at a2;exact Z8F (by simpa[isW]using a2)
 ·rw[hk]at a2;simpa[isW]using a2
 ·rcases a6 with a|a;rw[hk]at a;cases a;exact Y0v (of_decide_eq_true a)
 ·rcases a7 with a|a;rw[hk]at a;cases a;exact Y0v (of_decide_eq_true a)
theorem ZbQ:∀(n:Nat)(x:St),Z2g x<=n->Z2E x=true->rgS x->okS x->∀i:Nat,i+Z1K x<=37->Z2j x i
 | 0, x, h, _, _, _, _, _ => by have : 0 < Z2g x := by rw [Z3o]; omega
                                omega
 |n+1,.mk k nm lc o xs t e,h,hr,hg,hok,i,hd=>by
  obtain⟨f1,f2,f3,f4,f5,f6,f7,f8,f9⟩:=Zdp hr
  simp only[rgS]at hg
  obtain⟨g1,g2,g3⟩:=hg
  obtain⟨k1,k2,k3,k4,k5,k6,k7,k8⟩:=Z3R hok
  simp only[St.name,St.loc,St.exprs,St.thn,St.els]at k1 k2 k3 k4 k5 k6 k7 k8
  simp only[Z2g]at h
  simp only[Z1K]at hd
  have blk:∀l:List St,sizeSL l<=n->rightSL l=true->rgSL l->okSL l->l.length<=9223372036854775807->i+1+deepSL l<=37->Z5n l i:=by
   intro l b1 b2 b3 b4 b5 b6
   refine Zhe l i (by omega) b5 λx hx=>⟨?_,Zgl x _⟩
   have c1:=Z2V l x hx
   have c2:=Z7T l x hx
   exact ZbQ n x (by omega) (Z7y b2 x hx) (Z4c b3 x hx) (Z2O b4 x hx) (i+1) (by omega)
  have bt:=blk t (by omega) f8 g2 k7 k4 (by omega)
  have be:=blk e (by omega) f9 g3 k8 k5 (by omega)
  have gx:∀e∈xs,Z3F e:=λe he=>⟨Zdn f7 e he,Zf4 g1 e he⟩
  have one:xs.length=1->∃e,xs=[e]/\Z3F e:=λhl=>by
   match xs,hl,gx with
   |[e],_,gx=>exact⟨e,rfl,gx e (by simp)⟩
  have hk:k=1\/k=2\/k=3\/k=4\/k=5\/k=6\/k=7\/k=8\/k=9\/k=10\/k=11:=by omega
  clear blk f1 f5 f6 f7 f8 f9 g1 g2 g3 k1 k2 k4 k5 k6 k7 k8 h hd hr hok
  rcases hk with rfl|rfl|rfl|rfl|rfl|rfl|rfl|rfl|rfl|rfl|rfl
  · obtain⟨e',rfl,ge⟩:=one f4
    exact ZpM (f2 rfl) ge
  ·exact ZpL (f2 rfl) gx k3
  · obtain rfl:=f3 rfl
    exact ZpK gx k3
  ·exact ZpJ (f2 rfl) gx k3
  ·exact ZpI (f2 rfl) gx k3
  ·exact ZpH (f2 rfl) gx k3
  · obtain rfl:=f3 rfl
    exact ZpG
  · obtain rfl:=f3 rfl
    obtain⟨e',rfl,ge⟩:=one f4
    exact ZpF ge
  · obtain rfl:=f3 rfl
    obtain⟨e',rfl,ge⟩:=one f4
    exact ZpE ge
  · obtain rfl:=f3 rfl
    obtain⟨e',rfl,ge⟩:=one f4
    exact Zmo ge bt be
  · obtain rfl:=f3 rfl
    obtain⟨e',rfl,ge⟩:=one f4
    exact Zmn ge bt
theorem uB:Y00.underlying 114=some (.pointer 5):=by kernel_rfl
theorem cB:Y00.cellsOf 5=1:=by kernel_rfl
theorem Zu8{H:Z00}{b f:Nat}{s:List UInt8}(h0:s≠[])(hs:s.length<=1099511627776)(hH:H[b]? = some ⟨true,f,0,.cells (byt s) tB⟩):Z6q Y00 114 (.ptr b 0) s.length H=some (.str s,(Z60 b f H).set b ⟨false,f,0,.cells [] 0⟩):=Zpt uB cB hH h0 hs
theorem Zg3 {orc : Orc} {ρ : Operand -> Option AV} {o : Oper} {H : Z00} {x y : Operand} {b f : Nat} {s : List UInt8} (ho : o.op = .call { callee := .builtin .unsafeString, args := #[x, y], argTypes := #[114, 3] }) (hx : ρ x = some (.ptr b 0)) (hy : ρ y = some (.int .i64 (s.length : Int)))
  (h0:s≠[]) (hs:s.length<=1099511627776) (hH:H[b]? = some ⟨true,f,0,.cells (byt s) tB⟩):aop Y00 orc ρ o H=some (.str s,(Z60 b f H).set b ⟨false,f,0,.cells [] 0⟩):=by
 have h1:=Zu8 h0 hs hH
 have h2:Z04 Y00 ρ H o=none:=by simp[Z04,Z0u,ho]
 have h3:Z3l Y00 ρ H o=Z6q Y00 114 (.ptr b 0) s.length H:=by
  simp only[Z3l,ho,hx,hy]
 unfold aop
 simp only[ho,callee,h2,h3,h1]
def isX(g:Nat):Bool:=!(Y0q g 36)
end
section
def chC(ds:List Dc)(ts:List (List St))(n:Nat)(g:Bool):Z00:=[⟨true,0,0,.cells [.rs ds.length 3 (dcC ds),.rs ts.length 1 (ts.map stA)] 25⟩,⟨true,1,0,.cells [.int .i64 n] 3⟩,⟨true,2,0,.cells [.bool g] 4⟩,⟨true,3,0,.cells [.func (.func 93) [] [.ptr 1 0]] 102⟩]
theorem ZrK (ds : List Dc) (ts : List (List St)) (hok : ZlX ts) (hl : ts.length <= 9223372036854775807) :
  Z1b Y00 runLives.gl 64 [.agg [.rs ds.length 3 (dcC ds),.rs ts.length 1 (ts.map stA)],.func (.func 65) [] [.ptr 3 0,.ptr 2 0]] (chC ds ts 0 true) (.tuple []) (chC ds ts (cT ts 0).2 (cT ts 0).1):=by
 have hM:=ZmT ts ds.length (dcC ds) hok hl
 have h:=Z9C (m:=[1,2,3]) (n:=4) (Hc:=chC ds ts 0 true) (cargs:=[.agg [.rs ds.length 3 (dcC ds),.rs ts.length 1 (ts.map stA)],.func (.func 65) [] [.ptr 3 0,.ptr 2 0]]) hM ?_ ?_ rfl rfl rfl rfl rfl rfl
 ·exact h
 ·rfl
 ·exact⟨hbp,hbp,⟨rfl,rfl,rfl,rfl,Y0m ⟨Y0h trivial ⟨Y05 rfl rfl,trivial⟩,trivial⟩⟩,trivial⟩
theorem ZrJ(ts:List (List St)):(cT ts 0).1=true ↔ ¬(2000<Z0x ts\/32<Z11 ts):=by
 rw[(Zlk ts 0 (by decide)).1];omega
theorem Zbu(p:Pr)(hok:okP p)(hs:Z0x p.threads<=1000000):ValOK Y00 runLives.gl 32 [p.av] (.int .i64 (Z0y p)):=by
 obtain⟨⟨hd1,hd2⟩,ht1,ht2⟩:=hok
 obtain⟨ds,ts⟩:=p
 have hsay:=ZrJ ts
 simp only[Pr.av,Z0y]at *
 obtain⟨O,hO,⟨p1,-⟩,⟨p2,p3,-⟩⟩:=Z13 (P:=Y00) (gl:=runLives.gl) [{ I:=Unit,f:=64,G:=(λ_=>True),A:=(λ_=>[.agg [.rs ds.length 3 (dcC ds),.rs ts.length 1 (ts.map stA)],.func (.func 65) [] [.ptr 3 0,.ptr 2 0]]),H:=(λ_=>chC ds ts 0 true),R:=(λ_=>.tuple []),O:=(λ_=>chC ds ts (cT ts 0).2 (cT ts 0).1),body:=(by kernel_rfl),inj:=(λ_ _ _ _ _ _=>⟨rfl,rfl⟩),ok:=(λ_ _=>ZrK ds ts ht1 ht2) }]
  [{ I:=List St,f:=67,G:=(λx=>x∈ts),A:=(λx=>[stA x,.int .i64 1,.func (.func 68) [] [],.func (.func 69) [] []]),R:=(λx=>.bool (rightSL x)),body:=(by kernel_rfl),inj:=(λi j _ _ h=>by simp only[List.cons.injEq,and_true]at h;rw[Z4a h]),ok:=(λx hx=>⟨rfl,ZpD x 1 (Z2N ht1 _ hx).1 (Z2N ht1 _ hx).2 (by decide) (by have:=Z2U _ _ hx;omega)⟩) },
   { I:=List UInt8,f:=66,G:=(λs=>s.length<=9223372036854775807),A:=(λs=>[.str s,.bool true]),R:=(λs=>.bool (Z0Z s)),body:=(by kernel_rfl),inj:=(λi j _ _ h=>by simp only[List.cons.injEq,AV.str.injEq,and_true]at h;rw[h]),ok:=(λs hs=>⟨rfl,ZdE s hs true⟩) }] rfl
 have q1:Z03 Y00 O (chC ds ts 0 true) 64 [.agg [.rs ds.length 3 (dcC ds),.rs ts.length 1 (ts.map stA)],.func (.func 65) [] [.ptr 3 0,.ptr 2 0]]=some (.tuple [],chC ds ts (cT ts 0).2 (cT ts 0).1):=p1 () trivial
 have q2:∀x∈ts,∀H,Z03 Y00 O H 67 [stA x,.int .i64 1,.func (.func 68) [] [],.func (.func 69) [] []]=some (.bool (rightSL x),H):=p2
 have q3:∀s,s.length<=9223372036854775807->∀H,Z03 Y00 O H 66 [.str s,.bool true]=some (.bool (Z0Z s),H):=p3
 clear p1 p2 p3
 generalize (cT ts 0).2=n at *
 generalize (cT ts 0).1=b at *
 refine Z3a (λg=>Y0q g 64 || (Y0q g 67 || Y0q g 66)) 1 follows Z05 hO Tryz.func32 rfl ?_
 cases b with
 |false =>
  rw[if_pos (Classical.not_not.1 λh=>by have:=hsay.2 h;cases this)]
  repeat' ((conv=>whnf);first|refine exI q1 ?_|refine stp ?_|with_reducible apply Z01<;>intro h)
  all_goals (conv=>whnf)
  all_goals rfl
 |true =>
  rw[if_neg (hsay.1 rfl)]
  repeat' ((conv=>whnf);first|refine exI q1 ?_|refine stp ?_|with_reducible apply Z01<;>intro h)
  conv=>whnf
  refine⟨Nat,(λi=>i<=ds.length/\(ds.take i).all dcB=true),(λi=>[(1,.ptr 0 0),(16,.rs ds.length 3 (dcC ds)),(17,.int .i64 ds.length),(18,.int .i64 i)]),(λ_=>[⟨true,0,0,.cells [.rs ds.length 3 (dcC ds),.rs ts.length 1 (ts.map stA)] 25⟩]),(λi=>ds.length-i),⟨0,⟨Y0b _,rfl⟩,Y0f [0] rfl ?_ ⟨hbp,trivial⟩ rfl⟩,?_⟩
  ·exact wks
  rintro i ⟨hi,hall⟩
  dsimp only
  by_cases hlt:i<ds.length
  · have e1:decide ((i:Int)<(ds.length:Int))=true:=by simpa using hlt
    have hat:=ZcM dcB ds i hlt
    rw[hall,Y0j]at hat
    have hfalse:dcB ds[i]=false->ds.all dcB=false:=ZlG dcB hlt
    have hx3:=dc3 ds i hlt
    have qn:=q3 ds[i].name (hd2 _ (Z0i hlt))
    generalize hd:ds[i]=d at *
    obtain⟨nm,pl,vl⟩:=d
    simp only[dcB,Dc.cells]at hat hfalse hx3 qn
    generalize Z0Z nm=w at *
    by_cases hv:0<=vl
    · have e3:decide (vl<0)=false:=by simpa using hv
      rw[show decide (0<=vl)=true from by simpa using hv,Y0o]at hat hfalse
      cases w with
      |true =>
       repeat' ((conv=>whnf);first|with_reducible refine exI (qn _) ?_|(with_reducible refine ixJ i rfl ?_ ?_;focus omega)|refine exI hx3 ?_|refine stp ?_|with_reducible apply Z01<;>intro h)
       conv=>whnf
       refine⟨i+1,⟨hlt,hat⟩,by show ds.length-(i+1)<ds.length-i;omega,Y0f [0] rfl ?_ ⟨hbp,trivial⟩ rfl⟩
       exact wks
      |false =>
       rw[hfalse rfl]
       repeat' ((conv=>whnf);first|with_reducible refine exI (qn _) ?_|(with_reducible refine ixJ i rfl ?_ ?_;focus omega)|refine exI hx3 ?_|refine stp ?_|with_reducible apply Z01<;>intro h)
       all_goals rfl
    · have e3:decide (vl<0)=true:=by simp only[decide_eq_true_eq];omega
      rw[show decide (0<=vl)=false from by simpa using hv,Y0u]at hat hfalse
      rw[hfalse rfl]
      cases w
      all_goals (repeat' ((conv=>whnf);first|with_reducible refine exI (qn _) ?_|(with_reducible refine ixJ i rfl ?_ ?_;focus omega)|refine exI hx3 ?_|refine stp ?_|with_reducible apply Z01<;>intro h))
      all_goals rfl
  · have e1:decide ((i:Int)<(ds.length:Int))=false:=by simpa using hlt
    have hi2:i=ds.length:=by have:=hi;omega
    subst hi2
    rw[Y0e]at hall
    rw[hall,Y0j]
    repeat' ((conv=>whnf);first|refine stp ?_|with_reducible apply Z01<;>intro h)
    conv=>whnf
    refine⟨Nat,(λi=>i<=ts.length/\Z17 (ts.take i)=true),(λi=>[(33,.rs ts.length 1 (ts.map stA)),(34,.int .i64 ts.length),(35,.int .i64 i)]),(λ_=>[]),(λi=>ts.length-i),⟨0,⟨Y0b _,rfl⟩,Y0c rfl ?_⟩,?_⟩
    ·exact wks
    rintro i ⟨hi,hrl⟩
    dsimp only
    by_cases hlt:i<ts.length
    · have e1:decide ((i:Int)<(ts.length:Int))=true:=by simpa using hlt
      have hat:=Z4R ts i hlt
      rw[hrl,Y0j]at hat
      have hfalse:rightSL ts[i]=false->Z17 ts=false:=Z66 hlt
      have hx:=th1 ts i hlt
      have qr:=q2 ts[i] (Z0i hlt)
      generalize ts[i]=l at *
      simp only[stA]at hx qr
      cases hr:rightSL l with
      |true =>
       rw[hr]at hat qr
       repeat' ((conv=>whnf);first|with_reducible refine exI (qr _) ?_|(with_reducible refine ixJ i rfl ?_ ?_;focus omega)|refine exI hx ?_|refine exI (qr _) ?_|refine stp ?_|with_reducible apply Z01<;>intro h)
       conv=>whnf
       refine⟨i+1,⟨hlt,hat⟩,by show ts.length-(i+1)<ts.length-i;omega,Y0c rfl ?_⟩
       exact wks
      |false =>
       rw[hr]at qr
       rw[hfalse hr]
       repeat' ((conv=>whnf);first|with_reducible refine exI (qr _) ?_|(with_reducible refine ixJ i rfl ?_ ?_;focus omega)|refine exI hx ?_|refine exI (qr _) ?_|refine stp ?_|with_reducible apply Z01<;>intro h)
       all_goals rfl
    · have e1:decide ((i:Int)<(ts.length:Int))=false:=by simpa using hlt
      have hi2:i=ts.length:=by have:=hi;omega
      subst hi2
      rw[Y0e]at hrl
      rw[hrl]
      repeat' ((conv=>whnf);first|refine stp ?_|with_reducible apply Z01<;>intro h)
      all_goals rfl
end
end Go.Proofs.YtkkfcfjhhdmamaaGreatDoor.lex

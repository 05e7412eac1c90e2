/-
  Texts of this proof, one behind the other (part 10).
-/
import Derived.Test.YtkkfcfjhhdmamaaGreatDoorPa8
set_option linter.unusedVariables false
set_option linter.unusedSimpArgs false
set_option maxRecDepth 100000
set_option maxHeartbeats 4000000
open Go.Proofs.Tryz renaming prog → Y00
open Nat renaming beq → Y01,zero_le → Y06,eq_of_beq_eq_true → Y07
open List renaming length_cons → Y02,length_nil → Y03,append_nil → Y04,length_append → Y08
open Bool renaming and_eq_true → Y05
namespace Go.Proofs.YtkkfcfjhhdmamaaGreatDoor.lex
open Go.Abs Go.RowKit
section
theorem Zhi{P:Program}{gl:Z0l}{O O':Orc}{f0:Nat}{F:FamM P gl}(h:F.Ask O)(he:∀g,g≠f0->∀args H,Z03 P O' H g args=Z03 P O H g args)(hf:F.f≠f0):F.Ask O':=λi hi=>(he _ hf _ _).trans (h i hi)
def Z3N(x:St):Pr:=⟨[],[[x]]⟩
theorem Zms{x:St}(h:okS x):okP (Z3N x):=by
 refine⟨⟨by simp[Z3N],by simp[Z3N]⟩,?_,by simp[Z3N]⟩
 simp only[Z3N,ZlX,okSL]
 exact⟨⟨h,trivial⟩,by simp,trivial⟩
theorem Zdg(x:St):Z0x (Z3N x).threads=Z2g x:=by simp only[Z3N,Z0x,sizeSL];omega
theorem Zdh(x:St):Z11 (Z3N x).threads=Z1K x:=by simp only[Z3N,Z11,deepSL];omega
theorem Zmr(x:St)(hok:okS x)(hs:Z2g x<=1000000):ValOK Y00 rgl 32 [.agg [.nslice,.rs 1 1 [stA [x]]]] (.int .i64 (Z0y (Z3N x))):=by
 have h:=Zbu (Z3N x) (Zms hok) (by rw[Zdg];exact hs)
 refine h.weak λsn vs h=>?_
 simp only[Pr.av,Z3N,LR,VR]at h⊢
 obtain⟨d,ds,e,⟨d',h1,d1,l1,e1,g1,d2,l2,e2,g2,g3⟩,r⟩:=h
 exact⟨d,ds,e,⟨d',h1,d1,l1,e1,.inl ⟨rfl,rfl,g1⟩,d2,l2,e2,g2,g3⟩,r⟩
theorem Zmp(x:St)(hok:okS x)(hg:rgS x)(hs:Z2g x<=1000000)(hb:Z0y (Z3N x)=0->(stT x 0).length+1<=1073741824):ValOK Y00 rgl 19 [.agg x.cells] (.tuple [.str (if Z0y (Z3N x)=0 then stT x 0++[10] else []),.int .i64 (Z0y (Z3N x))]):=by
 have hch:=Zmr x hok hs
 by_cases hc:Z0y (Z3N x)=0
 · obtain⟨c1,c2,c3,c4⟩:=Z3d hc
   have hr:Z2E x=true:=by simpa only[Z3N,Z17,rightSL,Bool.and_true]using c4
   have hsx:Z2j x 0:=ZbQ _ x (Nat.le_refl _) hr hg hok 0 (by rw[Zdh]at c2;omega)
   have hb:=hb hc
   rw[if_pos hc]
   rw[hc]at hch⊢
   obtain⟨O,hO,⟨p1,p3,-⟩,-⟩:=Z13 (P:=Y00) (gl:=rgl) [wmPut.fam,(ZuX (λx j=>(Z2j x j/\stT x j≠[])) (λx j h=>h.2) (λx j h=>h.1)).fam] [] rfl
   obtain⟨O',hO',q2,he⟩:=ZdI hO (f0:=32) rfl hch (by kernel_rfl)
   replace p1:=Zhi p1 he (by decide)
   replace p3:=Zhi p3 he (by decide)
   obtain⟨w,hwe⟩:∃w,stT x 0=w:=⟨_,rfl⟩
   have hwn:w≠[]:=by rw[<- hwe];exact Zgl x 0
   have q1:=λ{b fb:Nat} {H:Z00} {rest:List AV} hb y1 y2 y3 y4=>Zay p3 (x,0) ⟨hsx,Zgl x 0⟩ trivial hwe (A:=[.agg x.cells]) rfl (b:=b) (fb:=fb) (H:=H) (rest:=rest) (d:=0) rfl rfl hb y1 y2 y3 y4
   rw[hwe]at hb⊢
   have hlw:(w++[10]).length<=1099511627776:=by simp only[Y08,Y02,Y03];omega
   clear he hO hch hc hwe hok hg hs c1 c2 c3 c4
   simp only[stA,stC,Y02,Y03]at q2
   obtain⟨w0,w1,rfl⟩:∃c t,w=c::t:=by cases w with|nil=>exact absurd rfl hwn|cons c t=>exact⟨c,t,rfl⟩
   obtain⟨k,nm,lc,o,xs,th,el⟩:=x
   simp only[St.cells,exA,Y04]at q1 q2⊢
   refine Z3a isX 1 follows Z05 hO' Tryz.func19 rfl ?_
   repeat' ((conv=>whnf);first|refine exI (q2 _ _ rfl) ?_|(refine Z8y (q1 ?_ rfl rfl rfl rfl) ?_;(exact leS))|(refine Z0G (Z1S p1  [[10]] [10]  rfl rfl ?_ ?_ rfl rfl rfl rfl rfl) ?_;(exact neS);(exact leS))|refine exI (Zg3 (s:=w0::w1++[10]) rfl rfl rfl (List.cons_ne_nil _ _) hlw rfl) ?_|refine stp ?_|with_reducible apply Z01<;>intro h)
   all_goals rfl
 · rw[if_neg hc]
   obtain⟨O',hO',q2,-⟩:=ZdI (Z0h (gl:=rgl)) (f0:=32) rfl hch (by kernel_rfl)
   clear hch
   generalize Z0y (Z3N x)=c at *
   have e1:(c != 0)=true:=by simpa using hc
   simp only[stA,stC,Y02,Y03]at q2
   obtain⟨k,nm,lc,o,xs,th,el⟩:=x
   simp only[St.cells,exA,Y04]at q2⊢
   refine Z0d follows Z05 hO' Tryz.func19 rfl ?_
   repeat' ((conv=>whnf);first|refine exI (q2 _ _ rfl) ?_|refine stp ?_|with_reducible apply Z01<;>intro h)
   all_goals rfl
end
section
theorem ZsF(x:St):refsL [.agg x.cells] []=[]:=by obtain⟨k,n,l,o,xs,t,e⟩:=x;rfl
end
section
theorem Zkw:Zjw [Zie]:=λx hx=>by cases hx;rfl
theorem ZnJ(w:List UInt8):ZsC w [Zie]:=λx hx=>by cases hx;exact .inl rfl
theorem ZbO{t:List St}(hx:∀x∈t,XSt x)(hd:deepSL t<=100){l:List Tk}(n:Nat)(hl:l.map Tk.w=tkSL t):Z8s (Z8H l n) (Zj5 (Z8H l n)) [] ((Z8H l n).length+1) s0=(t,mv s0 (tkSL t).length 0)/\(Z15 (Z8H l n) (mv s0 (tkSL t).length 0)).kind=5:=by
 have hU:(upT (Z8H l n)).drop s0.i=tkSL t++[Zie]:=by rw[ZiR,hl];rfl
 have h2:=Z76 hU
 have h3:=ZbK t hx
 have h1:=Zj2 (T:=Z8H l n) (w:=[]) (.inr rfl) t (λx h=>⟨hx x h,Zou (hx x h)⟩) (k:=(Z8H l n).length+1) (d:=(Z8H l n).length) (s:=s0) (r:=[Zie]) (by omega) h2 rfl (by show (0:Int)+_<=201;omega) hU (ZnJ _) Zkw
 exact⟨h1,ZcB (s:=mv s0 (tkSL t).length 0) (Z14 hU)⟩
end
end Go.Proofs.YtkkfcfjhhdmamaaGreatDoor.lex
section
namespace Go.Abs
open Go.RowKit
mutual
def wkV:AV->AV->Bool
 | .nslice,.rs 0 _ []=>true
 | .agg a,.agg b=>wkVL a b
 | .rs n z a,.rs n' z' b=>Y01 n n'&&(Y01 z z'&&wkVL a b)
 | .rp a,.rp b=>wkVL a b
 |u,u2=>veq u u2
def wkVL:List AV->List AV->Bool
 |[],[]=>true
 |u::l,u2::l2=>wkV u u2&&wkVL l l2
 |_,_=>false
end
theorem ZbG:∀{l l2:List AV},wkVL l l2=true->l.length=l2.length
 |[],[],_=>rfl
 |u::l,u2::l2,h=>by simp only[wkVL,Y05]at h;simp[ZbG h.2]
 |[],_::_,h=>by simp[wkVL]at h
 |_::_,[],h=>by simp[wkVL]at h
mutual
theorem Zof{sn:Z0n}{ι : Z0j}:∀(u u2:AV)(v:Value),wkV u u2=true->VR sn ι u v->VR sn ι u2 v
 | .agg a,.agg b,v,h,e=>by
  simp only[wkV]at h
  obtain⟨d,rfl,h1⟩:=e.agg
  exact Z2Y (wkVL_LR a b _ h h1)
 | .rs n z a,.rs n' z' b,v,h,e=>by
  simp only[wkV,Y05]at h
  obtain⟨h1,h2,h3⟩:=h
  have:=Y07 h1;subst this
  have:=Y07 h2;subst this
  have hl:=ZbG h3
  simp only[VR]at e⊢
  rcases e with ⟨e1,rfl,e3⟩|⟨ad,cap,e1,e2,e3,e4,e5⟩
  ·exact .inl ⟨e1,by cases b with|nil=>rfl|cons _ _=>simp at hl,e3⟩
  ·exact .inr ⟨ad,cap,e1,e2,by rw[<- hl];exact e3,wkVL_MR a b _ _ h3 e4,e5⟩
 | .rp a,.rp b,v,h,e=>by
  simp only[wkV]at h
  simp only[VR]at e⊢
  obtain⟨bl,o,e1,e2⟩:=e
  exact⟨bl,o,e1,wkVL_MR a b _ _ h e2⟩
 |u,u2,v,h,e=>by
  by_cases hn:u = .nslice/\∃z,u2 = .rs 0 z []
  · obtain⟨rfl,z,rfl⟩:=hn
    exact Z9x e
  · have : veq u u2 = true \/ ((∃ a b, u = .agg a /\ u2 = .agg b) \/ (∃ n z a n' z' b, u = .rs n z a /\ u2 = .rs n' z' b) \/ (∃ a b, u = .rp a /\ u2 = .rp b)) := by
     unfold wkV at h
     split at h
     ·exact (hn ⟨rfl,_,rfl⟩).elim
     ·exact .inr (.inl ⟨_,_,rfl,rfl⟩)
     ·exact .inr (.inr (.inl ⟨_,_,_,_,_,_,rfl,rfl⟩))
     ·exact .inr (.inr (.inr ⟨_,_,rfl,rfl⟩))
     ·exact .inl h
    rcases this with h|⟨a,b,rfl,rfl⟩|⟨n,z,a,n',z',b,rfl,rfl⟩|⟨a,b,rfl,rfl⟩
    ·have:=ZaN _ _ h;subst this;exact e
    · simp only[wkV]at h
      obtain⟨d,rfl,h1⟩:=e.agg
      exact Z2Y (wkVL_LR a b _ h h1)
    · simp only[wkV,Y05]at h
      obtain⟨h1,h2,h3⟩:=h
      have:=Y07 h1;subst this
      have:=Y07 h2;subst this
      have hl:=ZbG h3
      simp only[VR]at e⊢
      rcases e with ⟨e1,rfl,e3⟩|⟨ad,cap,e1,e2,e3,e4,e5⟩
      ·exact .inl ⟨e1,by cases b with|nil=>rfl|cons _ _=>simp at hl,e3⟩
      ·exact .inr ⟨ad,cap,e1,e2,by rw[<- hl];exact e3,wkVL_MR a b _ _ h3 e4,e5⟩
    · simp only[wkV]at h
      simp only[VR]at e⊢
      obtain⟨bl,o,e1,e2⟩:=e
      exact⟨bl,o,e1,wkVL_MR a b _ _ h e2⟩
theorem wkVL_LR{sn:Z0n}{ι : Z0j}:∀(l l2:List AV)(vs:List Value),wkVL l l2=true->LR sn ι l vs->LR sn ι l2 vs
 |[],[],vs,h,e=>e
 |u::l,u2::l2,vs,h,e=>by
  simp only[wkVL,Y05]at h
  simp only[LR]at e⊢
  obtain⟨d,ds,e1,e2,e3⟩:=e
  exact⟨d,ds,e1,Zof u u2 d h.1 e2,wkVL_LR l l2 ds h.2 e3⟩
 |[],_::_,_,h,_=>by simp[wkVL]at h
 |_::_,[],_,h,_=>by simp[wkVL]at h
theorem wkVL_MR{sn:Z0n}:∀(l l2:List AV)(b o:Nat),wkVL l l2=true->MR sn l b o->MR sn l2 b o
 |[],[],b,o,h,e=>e
 |u::l,u2::l2,b,o,h,e=>by
  simp only[wkVL,Y05]at h
  simp only[MR]at e⊢
  obtain⟨⟨v,e1,e2⟩,e3⟩:=e
  exact⟨⟨v,e1,Zof u u2 v h.1 e2⟩,wkVL_MR l l2 b (o+1) h.2 e3⟩
 |[],_::_,_,_,h,_=>by simp[wkVL]at h
 |_::_,[],_,_,h,_=>by simp[wkVL]at h
end
theorem ValOK.nils{P:Program}{gl:Z0l}{f:Nat}{args args2:List AV}{r:AV}(h:ValOK P gl f args2 r)(hw:wkVL args args2=true):ValOK P gl f args r :=
 h.weak λsn vs e=>wkVL_LR args args2 vs hw e
end Go.Abs
end
namespace Go.Proofs.YtkkfcfjhhdmamaaGreatDoor.lex
open Go.Abs Go.RowKit
section
variable {gl:Z0l}
def hSx(T:List Tq)(s:Ps):Z00:=[⟨true,0,0,.cells [.int .i64 0,.int .i64 0] 37⟩,⟨true,1,0,.cells [.int .i64 0,.int .i64 0] 37⟩,
 ⟨true,2,0,.cells [.rs T.length 4 (tqC T),.int .i64 (s.i:Nat),.int .i64 s.err,.int .i64 s.at_,.int .i64 s.op] 80⟩]
theorem ZqV{T:List Tq}{f:Nat}{s s':Ps}{w:List UInt8}{r:AV}(h:Z1b Y00 gl f [.ptr 0 0,.str w] (psH T s) r (psH T s'))(hr:Z1a 1 (Z1m r [])=true)(hren:ren (sgS [2] 3) r=r):Z1b Y00 gl f [.ptr 2 0,.str w] (hSx T s) r (hSx T s'):=by
 have h2:=Z9B (m:=[2]) (Hc:=hSx T s) (cargs:=[.ptr 2 0,.str w]) h (Wk.tuple ⟨Wk.ptr rfl rfl,Wk.noref rfl,trivial⟩) ⟨hbp,trivial⟩ rfl rfl rfl (Z3b rfl) ZmH hr
 refine cast ?_ h2
 have e:ren (sgS [2] (hSx T s).length) r=r:=hren
 rw[e]
 rfl
def hSy(T:List Tq)(s:Ps)(n:Nat)(c:List AV):Z00:=hSx T s++[⟨true,3,0,.cells [.rs n 7 c] 47⟩]
theorem ZqU{T:List Tq}{f:Nat}{s s':Ps}{n:Nat}{cc:List AV}{k:Int}{r:AV}(h:Z1b Y00 gl f [.ptr 0 0,.int .i64 k] (psH T s) r (psH T s'))(hr:Z1a 1 (Z1m r [])=true)(hren:ren (sgS [2] 4) r=r):Z1b Y00 gl f [.ptr 2 0,.int .i64 k] (hSy T s n cc) r (hSy T s' n cc):=by
 have h2:=Z9B (m:=[2]) (Hc:=hSy T s n cc) (cargs:=[.ptr 2 0,.int .i64 k]) h (Wk.tuple ⟨Wk.ptr rfl rfl,Wk.int rfl,trivial⟩) ⟨hbp,trivial⟩ rfl rfl rfl (Z3b rfl) ZmH hr
 refine cast ?_ h2
 have e:ren (sgS [2] (hSy T s n cc).length) r=r:=hren
 rw[e]
 rfl
def Zuw(f:Nat):Bool:=Y01 f 77 || (Y01 f 10 || (Y01 f 59 || Y01 f 47))
theorem Zjq {T : List Tq} (h0 : PsOK T ⟨0, 0, 0, 0⟩) {txt : List UInt8} {l : List St} {E : Ps} (hA : ValOK Y00 gl 77 [.str txt] (.tuple [.rs T.length 4 (tqC T), .agg [.int .i64 0, .int .i64 0]]))
  (hP:Z8s T (Zj5 T) [] (T.length+1) ⟨0,0,0,0⟩=(l,E)) (hE:E.err=0) (hat:E.at_=0) (hK:(Z15 T E).kind=5) {c:Int} (hC:ValOK Y00 gl 10 [.agg [.nslice,.rs 1 1 [stA l]]] (.int .i64 c)) (h3:c≠3) :
  ValOK Y00 gl 26 [.str txt] (.tuple [stA l,.agg [.int .i64 0,.int .i64 0]]):=by
 have hg:=ZbP (T:=T) (i0:=0) (stm:=Zj5 T) (λs h _=>(ZbR (gl:=gl) T s h (Y06 _)).1.1) [] (T.length+1) ⟨0,0,0,0⟩ h0 (Y06 _)
 have hx:=Zgk (ZbR (gl:=gl) T) h0 (Y06 _) []
 rw[hP]at hx hg
 have hE1:=Zkv (gl:=gl) hg.ok hE hK c h3
 rw[hat]at hE1
 simp only[stA]at hx hC⊢
 have m1:=ZqV (Z4T hx) rfl rfl
 have m2:=ZqU (k:=c) (n:=l.length) (cc:=stC l) (Z4T hE1) rfl rfl
 obtain⟨O1,hO1,⟨p1,p2,-⟩,⟨p3,-⟩⟩:=Z13 (P:=Y00) (gl:=gl) [{ I:=Unit,f:=59,G:=λ_=>True,A:=λ_=>[.ptr 2 0,.str []],H:=λ_=>hSx T ⟨0,0,0,0⟩,R:=λ_=>.rs l.length 7 (stC l),O:=λ_=>hSx T E,body:=(by kernel_rfl),inj:=(λ_ _ _ _ _ _=>⟨rfl,rfl⟩),ok:=(λ_ _=>m1) },
  { I:=Unit,f:=47,G:=λ_=>True,A:=λ_=>[.ptr 2 0,.int .i64 c],H:=λ_=>hSy T E l.length (stC l),R:=λ_=>.agg [.int .i64 0,.int .i64 0],O:=λ_=>hSy T E l.length (stC l),body:=(by kernel_rfl),inj:=(λ_ _ _ _ _ _=>⟨rfl,rfl⟩),ok:=(λ_ _=>m2) }] [ZoC (by kernel_rfl) rfl hA] rfl
 obtain⟨O,hO,q4,ho⟩:=ZdI hO1 (f0:=10) rfl hC (by kernel_rfl)
 have q1:=(ho 59 (by decide) _ _).trans (p1 () trivial)
 have q2:=(ho 47 (by decide) _ _).trans (p2 () trivial)
 have q3:=λH=>(ho 77 (by decide) _ _).trans (p3 () trivial H)
 simp only[ZoC]at q1 q2 q3 q4
 clear p1 p2 p3 m1 m2 hE1 hg hx hC hA ho hO1
 obtain⟨i,er,a,op⟩:=E
 simp only at hE hat
 subst hE hat
 simp only[hSx,hSy,List.cons_append,List.nil_append]at q1 q2
 refine Z3a Zuw 3 follows Z05 hO Tryz.func26 rfl ?_
 repeat' ((conv=>whnf);first|refine exI (q3 _) ?_|refine exI q1 ?_|refine exI (q4 _ _ rfl) ?_|refine exI q2 ?_|refine stp ?_|with_reducible apply Z01<;>intro h)
 all_goals (try (conv=>whnf))
 all_goals rfl
def hLg:Z00:=[⟨true,0,0,.cells [.int .i64 5,.str [],.int .i64 0,.int .i64 0] 82⟩,⟨true,1,0,.cells [.slice 0 0 1 1 4,.int .i64 0,.int .i64 3,.int .i64 0,.int .i64 0] 80⟩]
def hLx:Z00:=[⟨true,0,0,.cells [.int .i64 0,.int .i64 0] 37⟩,⟨true,1,0,.cells [.int .i64 3,.int .i64 0] 37⟩,⟨true,2,0,.cells [.int .i64 5,.str [],.int .i64 0,.int .i64 0] 82⟩,
 ⟨true,3,0,.cells [.slice 2 0 1 1 4,.int .i64 0,.int .i64 3,.int .i64 0,.int .i64 0] 80⟩]
theorem Zmm:MemQ Y00 gl 2 59 [.ptr 1 0,.str []] hLg .nslice hLg:=by
 refine Z1J (λ_=>false) 3 follows Z05 Z0h Tryz.func59 rfl ?_
 unfold hLg
 repeat' ((conv=>whnf);first|refine stp ?_|with_reducible apply Z01<;>intro h)
 conv=>whnf
 refine⟨Unit,(λ_=>True),(λ_=>[(0,.ptr 1 0),(1,.str []),(5,.nslice)]),(λ_=>hLg),(λ_=>0),⟨(),trivial,?_⟩,?_⟩
 · refine FgLK.mk [0,1] rfl rfl ?_ ⟨hbp,⟨rfl,rfl,rfl,rfl,BodyGe.cellsL ?_⟩,trivial⟩ rfl
   ·exact wks
   ·exact wks
 rintro⟨⟩ -
 unfold hLg
 (try dsimp only)
 repeat' ((conv=>whnf);first|refine stp ?_|with_reducible apply Z01<;>intro h)
 all_goals (try (conv=>whnf))
 all_goals refine⟨[0,1],rfl,⟨hbp,⟨rfl,rfl,rfl,rfl,BodyGe.cellsL ?_⟩,trivial⟩,rfl,Wk.noref rfl⟩
 all_goals exact wks
theorem Zus(i:Nat)(o:AObj)(h:hLg[i]? = some o):Z1a hLg.length (Z4d o.body [])=true:=by
 match i,h with
 |0,h=>cases h;rfl
 |1,h=>cases h;rfl
 |i+2,h=>cases h
theorem Zml:Z1b Y00 gl 59 [.ptr 3 0,.str []] hLx .nslice hLx:=by
 have h:Z1b Y00 gl 59 [.ptr 1 0,.str []] hLg .nslice hLg:=Zdy Zmm rfl rfl λb o o' h h'=>by
  rw[h]at h'
  cases h'
  exact⟨rfl,rfl,λh=>h⟩
 have h2:=Z9B (m:=[2,3]) (Hc:=hLx) (cargs:=[.ptr 3 0,.str []]) h (Wk.tuple ⟨Wk.ptr rfl rfl,Wk.noref rfl,trivial⟩) ⟨hbp,⟨rfl,rfl,rfl,rfl,BodyGe.cellsL (by exact wks)⟩,trivial⟩ rfl rfl rfl (Z3b rfl) Zus rfl
 exact h2
def Zuv(f:Nat):Bool:=Y01 f 77 || (Y01 f 10 || Y01 f 59)
theorem Zf6 {txt : List UInt8} (hA : ValOK Y00 gl 77 [.str txt] (.tuple [.nslice, .agg [.int .i64 3, .int .i64 0]])) (hC : ValOK Y00 gl 10 [.agg [.nslice, .rs 1 1 [.nslice]]] (.int .i64 0)) :
  ValOK Y00 gl 26 [.str txt] (.tuple [.nslice,.agg [.int .i64 3,.int .i64 0]]):=by
 obtain⟨O1,hO1,⟨p1,-⟩,⟨p3,-⟩⟩:=Z13 (P:=Y00) (gl:=gl) [{ I:=Unit,f:=59,G:=λ_=>True,A:=λ_=>[.ptr 3 0,.str []],H:=λ_=>hLx,R:=λ_=>.nslice,O:=λ_=>hLx,body:=(by kernel_rfl),inj:=(λ_ _ _ _ _ _=>⟨rfl,rfl⟩),ok:=(λ_ _=>Zml) }] [ZoC (by kernel_rfl) rfl hA] rfl
 obtain⟨O,hO,q4,ho⟩:=ZdI hO1 (f0:=10) rfl hC (by kernel_rfl)
 have q3:=λH=>(ho 77 (by decide) _ _).trans (p3 () trivial H)
 have q1:=(ho 59 (by decide) _ _).trans (p1 () trivial)
 simp only[ZoC,hLx]at q1 q3 q4
 clear p1 p3 hC hA ho hO1
 refine Z3a Zuv 3 follows Z05 hO Tryz.func26 rfl ?_
 repeat' ((conv=>whnf);first|refine exI (q3 _) ?_|refine exI q1 ?_|refine exI (q4 _ _ rfl) ?_|refine stp ?_|with_reducible apply Z01<;>intro h)
 all_goals (try (conv=>whnf))
 all_goals rfl
end
section
variable {gl:Z0l}
theorem Zio(s:List UInt8)(hs:65536<s.length):ValOK Y00 gl 77 [.str s] (.tuple [.nslice,.agg [.int .i64 3,.int .i64 0]]):=by
 have e0:decide ((s.length:Int)>65536)=true:=by simp;omega
 refine Z0d follows Z05 Zhv Tryz.func77 rfl ?_
 repeat' ((conv=>whnf);first|refine stp ?_|with_reducible apply Z01<;>intro h)
 all_goals rfl
theorem Zjs(t:List St)(hok:okSL t)(ht:t.length<=9223372036854775807)(hs:sizeSL t<=1000000):ValOK Y00 gl 10 [.agg [.nslice,.rs 1 1 [stA t]]] (.int .i64 (Z0y ⟨[],[t]⟩)):=by
 have h:=Z5F (gl:=gl) ⟨[],[t]⟩ ⟨⟨by simp,by simp⟩,by simp only[ZlX];exact⟨hok,ht,trivial⟩,by simp⟩ (by simp only[Z0x];omega)
 refine h.weak λsn vs h=>?_
 simp only[Pr.av,LR,VR]at h⊢
 obtain⟨d,ds,e,⟨d',h1,d1,l1,e1,g1,d2,l2,e2,g2,g3⟩,r⟩:=h
 exact⟨d,ds,e,⟨d',h1,d1,l1,e1,.inl ⟨rfl,rfl,g1⟩,d2,l2,e2,g2,g3⟩,r⟩
theorem ZhE(t:List St)(txt:List UInt8)(hok:okSL t)(ht:t.length<=9223372036854775807)(hg:rgSL t)(hs:sizeSL t<=2000)(hd:deepSL t<=32)(hr:rightSL t=true)(hL:Lx txt (tkSL t))(hl:txt.length<=65536):ValOK Y00 gl 26 [.str txt] (.tuple [stA t,.agg [.int .i64 0,.int .i64 0]]):=by
 have hX:=Zd3 hr hg
 obtain⟨l,h1,h2⟩:=hL.all
 have hA:=Zaj (gl:=gl) txt hl
 rw[ZeM h2 hl]at hA
 obtain⟨b1,b2⟩:=ZbO hX (by omega) txt.length h1
 have hC:=Zjs (gl:=gl) t hok ht (by omega)
 have hc:Z0y ⟨[],[t]⟩=0:=by
  unfold Z0y
  simp only[Z0x,Z11,Z17,hr]
  rw[if_neg (by omega)]
  rfl
 rw[hc]at hC
 exact Zjq (ZiS h2 hl) hA b1 rfl rfl b2 hC (by decide)
theorem Zj3(txt:List UInt8)(hl:65536<txt.length):ValOK Y00 gl 26 [.str txt] (.tuple [.nslice,.agg [.int .i64 3,.int .i64 0]]):=by
 refine Zf6 (Zio txt hl) ?_
 have hC:=Zjs (gl:=gl) [] trivial (by simp) (by simp[sizeSL])
 exact hC.nils rfl
end
end Go.Proofs.YtkkfcfjhhdmamaaGreatDoor.lex
section
namespace Go.Proofs.YtkkfcfjhhdmamaaGreatDoor.lex
open Go.Abs Go.RowKit
theorem Zbe:∀(k:List (List St))(l:Int),0<=Z0I k l->∀t∈k,∃l',l'<=l/\0<=heftSL t l'
 |x::k,l,h,t,ht=>by
  simp only[Z0I]at h
  split at h
  · rcases List.mem_cons.1 ht with rfl|ht
    ·exact⟨l,Int.le_refl _,by have:=Z54 k (heftSL t l);omega⟩
    · obtain⟨l',h1,h2⟩:=Zbe k _ h t ht
      exact⟨l',by have:=heftSL_le x l;omega,h2⟩
  ·omega
theorem Z9F:∀(a b:List St)(i:Nat),lnT (a++b) i=lnT a i++lnT b i
 |[],b,i=>by simp only[List.nil_append,lnT]
 |x::a,b,i=>by simp only[List.cons_append,lnT,Z9F a b i,List.append_assoc]
theorem Zci(x:St):lnT [x] 0=stT x 0++[10]:=by simp only[lnT,spc];rfl
theorem ZsY(t:List St)(i:Nat)(h:i<t.length):lnT (t.take (i+1)) 0=lnT (t.take i) 0++(stT t[i] 0++[10]):=by
 rw[List.take_succ_eq_append_getElem h,Z9F,Zci]
structure GdT (t:List St):Prop where
 ok:okSL t
 few:t.length<=9223372036854775807
 rg:rgSL t
 size:sizeSL t<=2000
 deep:deepSL t<=32
 right:rightSL t=true
 len:(lnT t 0).length<=2000000
theorem Ztb{p:Pr}(hok:okP p)(hg:rgP p)(hl:Z1z p 3000=true)(hc:Z0y p=0):∀t∈p.threads,GdT t:=by
 intro t ht
 obtain⟨c1,c2,c3,c4⟩:=Z3d hc
 simp only[Z1z,decide_eq_true_eq]at hl
 obtain⟨l',h1,h2⟩:=Zbe _ _ hl t ht
 have h3:=Z6X p.decls ((3000:Int)-min ((3000:Int)+1) (p.decls.length:Int)-min ((3000:Int)+1) (p.threads.length:Int))
 have h4:=Z6k t ht
 have h5:=lnT_len t 0 l' (Z6K hg.2 t ht) (by omega) h2
 have h6:=Z2U p.threads t ht
 have h7:=Z2N hok.2.1 _ ht
 refine⟨h7.1,h7.2,Z6K hg.2 t ht,by omega,by omega,Z4S c4 t ht,by omega⟩
theorem Zr0{t:List St}(h:GdT t):∀x∈t,GdT [x]:=by
 intro x hx
 have h1:=Z2O h.ok x hx
 have h2:=Z4c h.rg x hx
 have h3:=Z4b x hx
 have h4:Z1K x<=deepSL t:=by
  have:∀(t:List St),x∈t->Z1K x<=deepSL t:=λt=>by
   induction t with
   |nil=>intro h;cases h
   |cons y t ih =>
    intro h
    simp only[deepSL]
    rcases List.mem_cons.1 h with rfl|h
    ·omega
    ·have:=ih h;omega
  exact this t hx
 have h5:=Z2D h.right x hx
 have h6:(lnT [x] 0).length<=(lnT t 0).length:=by
  obtain⟨a,b,rfl⟩:=List.append_of_mem hx
  rw[show a++x::b=a++([x]++b) from rfl,Z9F,Z9F]
  simp only[Y08];omega
 refine⟨by simp only[okSL];exact⟨h1,trivial⟩,by simp,by simp only[rgSL];exact⟨h2,trivial⟩,?_,?_,by simp only[rightSL,h5];rfl,by have:=h.len;omega⟩
 ·simp only[sizeSL];have:=h.size;omega
 ·simp only[deepSL];have:=h.deep;omega
theorem ZqZ{t:List St}(h:GdT t):Lx (lnT t 0) (tkSL t):=by
 have hX:=Zd3 h.right h.rg
 have:=Zgx (λs hs=>ZsV (hX s hs)) 0 ZjG
 rw[Y04,Y04]at this
 exact this
def Zol(t:List St):AV:=if (lnT t 0).length<=65536 then .tuple [stA t,.agg [.int .i64 0,.int .i64 0]] else .tuple [.nslice,.agg [.int .i64 3,.int .i64 0]]
theorem ZpO{gl:Z0l}{t:List St}(h:GdT t):ValOK Y00 gl 26 [.str (lnT t 0)] (Zol t):=by
 unfold Zol
 split
 · rename_i hl
   exact ZhE t _ h.ok h.few h.rg h.size h.deep h.right (ZqZ h) hl
 · rename_i hl
   exact Zj3 _ (by omega)
theorem Zta{t u:List St}(h:GdT t)(k:GdT u)(e:lnT t 0=lnT u 0):t=u:=by
 obtain⟨l,h1,h2⟩:=(ZqZ h).all
 obtain⟨m,k1,k2⟩:=(ZqZ k).all
 rw[e,k2]at h2
 cases h2
 have a:=(ZbO (Zd3 h.right h.rg) (by have:=h.deep;omega) 0 h1).1
 have b:=(ZbO (Zd3 k.right k.rg) (by have:=k.deep;omega) 0 k1).1
 rw[a]at b
 exact (Prod.mk.inj b).1
theorem ZqY{x:St}(h:GdT [x]):ValOK Y00 runLives.gl 19 [.agg x.cells] (.tuple [.str (lnT [x] 0),.int .i64 0]):=by
 have hok:okS x:=by have:=h.ok;simp only[okSL]at this;exact this.1
 have hg:rgS x:=by have:=h.rg;simp only[rgSL]at this;exact this.1
 have hsz:Z2g x<=2000:=by have:=h.size;simp only[sizeSL]at this;omega
 have hdp:Z1K x<=32:=by have:=h.deep;simp only[deepSL]at this;omega
 have hc:Z0y (Z3N x)=0:=by
  unfold Z0y
  rw[Zdg,Zdh,if_neg (by omega)]
  have:=h.right
  simp only[Z3N,Z17,this]
  rfl
 have hlen:=h.len
 rw[Zci]at hlen
 simp only[Y08,Y02,Y03]at hlen
 have:=Zmp x hok hg (by omega) (λ_=>by omega)
 rw[if_pos hc,hc,<- Zci]at this
 exact this
theorem ZmD(x y:St)(h:[AV.agg x.cells]=[AV.agg y.cells]):AV.tuple [.str (lnT [x] 0),.int .i64 0]=AV.tuple [.str (lnT [y] 0),.int .i64 0]:=by
 simp only[List.cons.injEq,AV.agg.injEq,and_true]at h
 rw[Z7x x y h]
theorem ZpN(t u:List St)(h:GdT t)(k:GdT u)(e:[AV.str (lnT t 0)]=[AV.str (lnT u 0)]):Zol t=Zol u:=by
 simp only[List.cons.injEq,AV.str.injEq,and_true]at e
 rw[Zta h k e]
def Zre:Fam Y00 runLives.gl:={ I:=St,f:=19,G:=λx=>GdT [x],A:=λx=>[.agg x.cells],R:=λx=>.tuple [.str (lnT [x] 0),.int .i64 0],body:=(by kernel_rfl),inj:=(λx y _ _ h=>ZmD x y h),ok:=(λx h=>⟨ZsF x,ZqY h⟩) }
def Ztm:Fam Y00 runLives.gl:={ I:=List St,f:=26,G:=λt=>GdT t,A:=λt=>[.str (lnT t 0)],R:=Zol,body:=(by kernel_rfl),inj:=(λt u h k e=>ZpN t u h k e),ok:=(λt h=>⟨rfl,ZpO h⟩) }
theorem ziLaw(p:Pr)(hp:okP p/\rgP p):ValOK Y00 runLives.gl 5 [p.av] (.bool true):=by
 have lp:Z1z p 3000=true->Z0x p.threads<=1000000:=λh=>by have:=Z9G p 3000 h;omega
 have hG:Z1z p 3000=true->Z0y p=0->∀t∈p.threads,GdT t:=λh hc=>Ztb hp.1 hp.2 h hc
 obtain⟨O,hO,p1,p2,p3,p4,p5,p6,-⟩:=fams (P:=Y00) (gl:=runLives.gl) [
  one0 (f:=6) (A:=[]) (R:=.bool true) True (by kernel_rfl) rfl (λ_=>ZoL),
  one0 (f:=7) (A:=[p.av,.int .i64 3000]) (R:=.bool (Z1z p 3000)) True (by kernel_rfl) rfl (λ_=>ZdC p 3000 hp.1 (by omega) (by omega)),
  one0 (f:=10) (A:=[p.av]) (R:=.int .i64 (Z0y p)) (Z1z p 3000=true) (by kernel_rfl) rfl (λh=>Z5F p hp.1 (by have:=lp h;omega)),
  Zre,Ztm,
  famTwoL (g:=27) (by kernel_rfl) (λq=>q.1=q.2/\okSL q.1/\q.1.length<=9223372036854775807) (λq h=>Z9J _ q.1 q.2 (Nat.le_refl _) h.2.1 h.2.2)] rfl
 have q1:∀H,Z03 Y00 O H 6 []=some (.bool true,H):=λH=>p1 () trivial H
 have q2:∀H,Z03 Y00 O H 7 [p.av,.int .i64 3000]=some (.bool (Z1z p 3000),H):=λH=>p2 () trivial H
 have q3:Z1z p 3000=true->∀H,Z03 Y00 O H 10 [p.av]=some (.int .i64 (Z0y p),H):=λh H=>p3 () h H
 have q4:∀x,GdT [x]->∀H,Z03 Y00 O H 19 [.agg x.cells]=some (.tuple [.str (lnT [x] 0),.int .i64 0],H):=λx h H=>p4 x h H
 have q5:∀t,GdT t->∀H,Z03 Y00 O H 26 [.str (lnT t 0)]=some (Zol t,H):=λt h H=>p5 t h H
 have q6:∀t,GdT t->∀H,Z03 Y00 O H 27 [stA t,stA t]=some (.bool true,H):=λt h H=>by
  have:=p6 (t,t) ⟨rfl,h.ok,h.few⟩ H
  simp only[famTwoL,sameSL_self]at this
  exact this
 clear p1 p2 p3 p4 p5 p6 lp
 have hts:=hp.1.2.2
 have qF:ZcP Y00 37 [.int .i64 0,.int .i64 0] [.int .i64 0,.int .i64 0]=some true:=by kernel_rfl
 generalize Z0y p=c1 at *
 generalize Z1z p 3000=l1 at *
 obtain⟨ds,ts⟩:=p
 simp only[Pr.av]at *
 refine Z0d follows Z05 hO Tryz.func5 rfl ?_
 clear hO
 cases l1 with
 |false =>
  repeat' ((conv=>whnf);first|with_reducible refine exI (q1 _) ?_|with_reducible refine exI (q2 _) ?_|refine stp ?_|with_reducible apply Z01<;>intro h)
  all_goals rfl
 |true =>
  have q3:=q3 rfl
  by_cases hc:c1=0
  case neg =>
   have g1:(c1 != 0)=true:=by simpa using hc
   repeat' ((conv=>whnf);first|with_reducible refine exI (q1 _) ?_|with_reducible refine exI (q2 _) ?_|with_reducible refine exI (q3 _) ?_|refine stp ?_|with_reducible apply Z01<;>intro h)
   all_goals rfl
  subst hc
  have hG:=hG rfl rfl
  repeat' ((conv=>whnf);first|with_reducible refine exI (q1 _) ?_|with_reducible refine exI (q2 _) ?_|with_reducible refine exI (q3 _) ?_|refine stp ?_|with_reducible apply Z01<;>intro h)
  conv=>whnf
  refine⟨Nat,(λt=>t<=ts.length),(λt=>[(1,.ptr 0 0),(3,.int .i64 t)]),(λ_=>[⟨true,0,0,.cells [.rs ds.length 3 (dcC ds),.rs ts.length 1 (ts.map stA)] 25⟩]),(λt=>ts.length-t),⟨0,Y06 _,?_⟩,?_⟩
  · refine FgL.mk [0] rfl ?_ ⟨hbp,trivial⟩ rfl
    exact wks
  intro t ht
  (try dsimp only)
  by_cases hlt:t<ts.length
  · have e1:decide ((t:Int)<(ts.length:Int))=true:=by simpa using hlt
    have hx:=th1 ts t hlt
    have hgt:=hG ts[t] (Z0i hlt)
    generalize ts[t]=th at *
    simp only[stA]at hx
    repeat' ((conv=>whnf);first|refine exI hx ?_|(with_reducible refine ixJ t rfl ?_ ?_;focus omega)|refine stp ?_|with_reducible apply Z01<;>intro h)
    conv=>whnf
    refine⟨Nat,(λi=>i<=th.length),(λi=>[(1,.ptr 0 0),(3,.int .i64 t),(4,.str (lnT (th.take i) 0)),(5,.int .i64 i)]),(λ_=>[⟨true,0,0,.cells [.rs ds.length 3 (dcC ds),.rs ts.length 1 (ts.map stA)] 25⟩]),(λi=>th.length-i),⟨0,Y06 _,?_⟩,?_⟩
    · refine FgL.mk [0] rfl ?_ ⟨hbp,trivial⟩ rfl
      have e0:lnT (th.take 0) 0=[]:=by simp only[List.take_zero,lnT]
      dsimp only
      rw[e0]
      exact wks
    intro i hi
    (try dsimp only)
    by_cases hli:i<th.length
    · have e2:decide ((i:Int)<(th.length:Int))=true:=by simpa using hli
      have hy:=st7 th i hli
      have gx:=Zr0 hgt th[i] (Z0i hli)
      have hup:=ZsY th i hli
      rw[<- Zci]at hup
      have r4:=q4 _ gx
      have r5:=q5 _ gx
      have r6:=q6 _ gx
      have hlen:=gx.len
      have hfew:=hgt.few
      have wa:IntKind.i64.wrap ((i:Int)+1)=((i+1:Nat):Int):=Z4B (by omega)
      have hpre:(lnT (th.take i) 0).length<=(lnT th 0).length:=by
       have h1:=Z9F (th.take i) (th.drop i) 0
       rw[List.take_append_drop]at h1
       rw[h1];simp
      have hcat:(lnT (th.take i) 0).length+(lnT [th[i]] 0).length<=9223372036854775807:=by have:=hgt.len;omega
      have hsl:(stC th).drop (i*7)=th[i].cells++stC (th.drop (i+1)):=Z2h th i hli
      generalize th[i]=x at *
      unfold Zol at r5
      by_cases hl:(lnT [x] 0).length<=65536
      · have d1:decide (((lnT [x] 0).length:Int)<=65536)=true:=by simp;omega
        rw[if_pos hl]at r5
        simp only[stA,stC,Y04,Y02,Y03]at r5 r6
        generalize lnT [x] 0=tx at *
        obtain⟨k,nm,lc,o,xs,tt,el⟩:=x
        simp only[St.cells]at r4 r5 r6 hy hsl
        have r7:∀H,Z03 Y00 O H 27 [.rs (0+1) 7 [.int .i64 k,.str nm,.str lc,.int .i64 o,exA xs,.rs tt.length 7 (stC tt),.rs el.length 7 (stC el)],.rs (i+1-i) 7 (List.take ((i+1-i)*7) (List.drop (i*7) (stC th)))]=some (.bool true,H):=λH=>by
         rw[show i+1-i=1 by omega,hsl];exact r6 H
        repeat' ((conv=>whnf);first|refine exI hx ?_|refine exI hy ?_|(refine And.intro hcat ?_)|with_reducible refine exI (r4 _) ?_|with_reducible refine exI (r5 _) ?_|refine exI (r7 _) ?_|refine exI qF ?_|(with_reducible refine ixJ t rfl ?_ ?_;focus omega)|(with_reducible refine ixJ i rfl ?_ ?_;focus omega)|(with_reducible refine exW wa ?_)|refine stp ?_|with_reducible apply Z01<;>intro h)
        all_goals (try (conv=>whnf))
        all_goals (refine⟨i+1,hli,by show th.length-(i+1)<th.length-i;omega,?_⟩;refine FgL.mk [0] rfl ?_ ⟨hbp,trivial⟩ rfl;(try dsimp only);rw[hup];exact wks)
      · have d1:decide (((lnT [x] 0).length:Int)<=65536)=false:=by simp;omega
        rw[if_neg hl]at r5
        generalize lnT [x] 0=tx at *
        obtain⟨k,nm,lc,o,xs,tt,el⟩:=x
        simp only[St.cells]at r4 r5 r6 hy hsl
        repeat' ((conv=>whnf);first|refine exI hx ?_|refine exI hy ?_|(refine And.intro hcat ?_)|with_reducible refine exI (r4 _) ?_|with_reducible refine exI (r5 _) ?_|refine exI (r7 _) ?_|refine exI qF ?_|(with_reducible refine ixJ t rfl ?_ ?_;focus omega)|(with_reducible refine ixJ i rfl ?_ ?_;focus omega)|(with_reducible refine exW wa ?_)|refine stp ?_|with_reducible apply Z01<;>intro h)
        all_goals (try (conv=>whnf))
        all_goals (refine⟨i+1,hli,by show th.length-(i+1)<th.length-i;omega,?_⟩;refine FgL.mk [0] rfl ?_ ⟨hbp,trivial⟩ rfl;(try dsimp only);rw[hup];exact wks)
    · have e2:decide ((i:Int)<(th.length:Int))=false:=by simpa using hli
      have hi2:i=th.length:=by have:=hi;omega
      subst hi2
      rw[List.take_length]
      have r5:=q5 _ hgt
      have r6:=q6 _ hgt
      have hlen:=hgt.len
      have wt:IntKind.i64.wrap ((t:Int)+1)=((t+1:Nat):Int):=Z4B (by omega)
      unfold Zol at r5
      by_cases hl:(lnT th 0).length<=65536
      · have d1:decide (((lnT th 0).length:Int)<=65536)=true:=by simp;omega
        rw[if_pos hl]at r5
        simp only[stA]at r5 r6
        generalize lnT th 0=tx at *
        repeat' ((conv=>whnf);first|refine exI hx ?_|with_reducible refine exI (r5 _) ?_|refine exI (r6 _) ?_|refine exI qF ?_|(with_reducible refine ixJ t rfl ?_ ?_;focus omega)|(with_reducible refine exW wt ?_)|refine stp ?_|with_reducible apply Z01<;>intro h)
        all_goals (try (conv=>whnf))
        all_goals (refine⟨t+1,hlt,by show ts.length-(t+1)<ts.length-t;omega,?_⟩;refine FgL.mk [0] rfl ?_ ⟨hbp,trivial⟩ rfl;exact wks)
      · have d1:decide (((lnT th 0).length:Int)<=65536)=false:=by simp;omega
        rw[if_neg hl]at r5
        generalize lnT th 0=tx at *
        repeat' ((conv=>whnf);first|refine exI hx ?_|with_reducible refine exI (r5 _) ?_|refine exI (r6 _) ?_|refine exI qF ?_|(with_reducible refine ixJ t rfl ?_ ?_;focus omega)|(with_reducible refine exW wt ?_)|refine stp ?_|with_reducible apply Z01<;>intro h)
        all_goals (try (conv=>whnf))
        all_goals (refine⟨t+1,hlt,by show ts.length-(t+1)<ts.length-t;omega,?_⟩;refine FgL.mk [0] rfl ?_ ⟨hbp,trivial⟩ rfl;exact wks)
  · have e1:decide ((t:Int)<(ts.length:Int))=false:=by simpa using hlt
    repeat' ((conv=>whnf);first|refine stp ?_|with_reducible apply Z01<;>intro h)
    all_goals rfl
end Go.Proofs.YtkkfcfjhhdmamaaGreatDoor.lex
namespace Go.Proofs.YtkkfcfjhhdmamaaGreatDoor.ziLaw
open Go.Abs Go.RowKit
def Qs:List (AV->Prop):=[λu=>∃p:lex.Pr,u=p.av/\lex.okP p/\lex.rgP p]
theorem opens:Z7k Y00 Tryz.f5.params.toList Qs:=by
 rw[Tryz.params5]
 exact⟨lex.opensP,trivial⟩
theorem law(us:List AV)(h:Zpk Qs us):ValOK Y00 runLives.gl 5 us (.bool true):=by
 obtain⟨_,_,rfl,⟨p,rfl,hp⟩,h1⟩:=Zak h
 cases Zhn h1
 exact lex.ziLaw p hp
theorem solid:Solid Y00:=by unfold Solid;kernel_rfl
end Go.Proofs.YtkkfcfjhhdmamaaGreatDoor.ziLaw
end

/-
  Texts of this proof, one behind the other (part 8).
-/
import Derived.Test.YtkkfcfjhhdmamaaGreatDoorPa7
set_option linter.unusedVariables false
set_option linter.unusedSimpArgs false
set_option maxRecDepth 100000
set_option maxHeartbeats 4000000
open Go.Proofs.Tryz renaming prog → Y00
open Nat renaming le_refl → Y01,zero_le → Y0c
open Go.Abs.Wk renaming noref → Y02,int → Y03,ptr → Y05,slice → Y0b
open Go.Abs.FgL renaming mk → Y04
open List renaming append_assoc → Y06,cons_append → Y07,length_append → Y08,length_cons → Y09,nil_append → Y0a,length_nil → Y0d,drop_eq_getElem_cons → Y0e,mem_cons → Y0f,mem_singleton → Y0g,append_nil → Y0i,mem_cons_self → Y0k,mem_cons_of_mem → Y0l,length_drop → Y0m,take_length → Y0n,drop_eq_nil_of_le → Y0p,getElem?_eq_none → Y0q,length_take → Y0s
open Go.Abs.BodyGe renaming pre → Y0h
open Bool renaming and_eq_true → Y0j,true_and → Y0o,false_eq_true → Y0r
namespace Go.Proofs.YtkkfcfjhhdmamaaGreatDoor.lex
open Go.Abs Go.RowKit
section
def Tq.w(t:Tq):Wt:=⟨t.kind,t.text,t.num⟩
def upT(T:List Tq):List Wt:=T.map Tq.w
theorem Z14{α : Type}{U:List α}{i:Nat}{l r:List α}(h:U.drop i=l++r):U.drop (i+l.length)=r:=by
 rw[<- List.drop_drop,h,List.drop_left]
theorem Z76{T:List Tq}{i:Nat}{l r:List Wt}(h:(upT T).drop i=l++r):l.length<=T.length:=by
 have h1:=congrArg List.length h
 unfold upT at h1
 simp only[Y0m,List.length_map,Y08]at h1
 omega
theorem Z4X{T:List Tq}{s:Ps}{x:Wt}{r:List Wt}(h:(upT T).drop s.i=x::r):(Z15 T s).w=x:=by
 unfold upT at h
 have hl:s.i<T.length:=by
  refine Classical.byContradiction λhn=>?_
  rw[Y0p (by simp;omega)]at h;cases h
 rw[Z0X hl]
 rw[Y0e (by simpa using hl)]at h
 have:=(List.cons.inj h).1
 simpa using this
theorem Zju{T:List Tq}{s:Ps}(h:(upT T).drop s.i=[]):(Z15 T s).kind=5:=by
 unfold upT at h
 have hl:T.length<=s.i:=by simpa using h
 unfold Z15
 rw[Y0q hl];rfl
def eqW(x:Wt)(w:List UInt8):Bool:=(x.kind==4 || x.kind==2)&&x.text==w
theorem Z0N{T:List Tq}{s:Ps}{x:Wt}{r:List Wt}(he:s.err=0)(h:(upT T).drop s.i=x::r)(w:List UInt8):isF T s w=eqW x w:=by
 have h1:=Z4X h
 subst h1
 unfold isF eqW
 rw[he]
 rfl
theorem ZoN{T:List Tq}{s:Ps}{r:List Wt}{w:List UInt8}(hr:∀x,r.head? = some x->eqW x w=false)(h:(upT T).drop s.i=r):isF T s w=false:=by
 by_cases he:s.err=0
 · cases r with
   |nil =>
    have:=Zju h
    unfold isF
    rw[this];simp
   |cons x r=>rw[Z0N he h];exact hr x rfl
 ·exact Z9M he
def adv(s:Ps)(n:Nat):Ps:={ s with i:=s.i+n }
def zstp(n:Nat)(r:List Wt):Prop:=∀j,n<=j->j<=8->∀p∈lvS j,∀x,r.head? = some x->eqW x p.1=false
theorem zstp.mono{n:Nat}{r:List Wt}(h:zstp n r):zstp (n+1) r:=λj h1 h2=>h j (by omega) h2
inductive Ch (T:List Tq) (rec1:Ps->Ex×Ps) (l:List (List UInt8×Int)):Nat->Ex->Ps->Ex->Ps->Prop
 |stop (x:Ex) (s:Ps) (h:∀p∈l,isF T s p.1=false):Ch T rec1 l 0 x s x s
 |go (j:Nat) (x:Ex) (s:Ps) (p:List UInt8×Int) (x':Ex) (s':Ps) (hp:p∈l) (hi:isF T s p.1=true) (h:Ch T rec1 l j (.mk p.2 0 [] [x,(rec1 (Z0g s)).1]) (rec1 (Z0g s)).2 x' s'):Ch T rec1 l (j+1) x s x' s'
theorem ZgI{T:List Tq}{s:Ps}{w:List UInt8}(h:isF T s w=true):(Z15 T s).text=w:=by
 unfold isF at h
 simp only[Y0j,beq_iff_eq]at h
 exact h.2.2
theorem Zf7 {T : List Tq} {rec1 : Ps -> Ex × Ps} {l : List (List UInt8 × Int)} (hk : ∀ p ∈ l, kwB p.1 = true) (hu : ∀ p ∈ l, ∀ q ∈ l, p.1 = q.1 -> p = q) : ∀ (l2 : List (List UInt8 × Int)), (∀ p ∈ l2, p ∈ l) -> ∀ (j : Nat) (x : Ex) (s : Ps) (x' : Ex) (s' : Ps) (a : Bool), Ch T rec1 l j x s x' s' ->
  ∃j',Ch T rec1 l j' (Z2n T rec1 l2 x s a).1 (Z2n T rec1 l2 x s a).2.1 x' s'/\((j'<j/\(Z2n T rec1 l2 x s a).2.2=true)\/(j'=j/\Z2n T rec1 l2 x s a=(x,s,a)/\∀p∈l2,isF T s p.1=false))
 |[],hl,j,x,s,x',s',a,h=>⟨j,h,.inr ⟨rfl,rfl,λp hp=>by cases hp⟩⟩
 |(w,o)::l2,hl,j,x,s,x',s',a,h=>by
  have hm:=hl _ (Y0k ..)
  obtain⟨t1,t2⟩:=Z1f (T:=T) (s:=s) (hk _ hm)
  simp only at t1 t2
  have hl2:∀p∈l2,p∈l:=λp hp=>hl p (Y0l _ hp)
  cases hw:isF T s w with
  |true =>
   rw[hw]at t1 t2
   rw[if_pos rfl]at t2
   have e:Z2n T rec1 ((w,o)::l2) x s a=Z2n T rec1 l2 (.mk o 0 [] [x,(rec1 (Z0g s)).1]) (rec1 (Z0g s)).2 true:=by
    rw[Z2n,t1,t2,if_pos rfl]
   rw[e]
   cases h with
   |stop _ _ h=>have:=h _ hm;simp only at this;rw[hw]at this;cases this
   |go j _ _ p _ _ hp hi h =>
    have h1:p=(w,o):=hu p hp (w,o) hm ((ZgI hi).symm.trans (ZgI hw))
    subst h1
    obtain⟨j',h2,h3⟩:=Zf7 hk hu l2 hl2 j _ _ x' s' true h
    refine⟨j',h2,.inl ?_⟩
    rcases h3 with h3|⟨h3,h4,_⟩
    ·exact⟨by omega,h3.2⟩
    ·exact⟨by omega,by rw[h4]⟩
  |false =>
   rw[hw]at t1 t2
   rw[if_neg (by decide)]at t2
   have e:Z2n T rec1 ((w,o)::l2) x s a=Z2n T rec1 l2 x s a:=by
    rw[Z2n,t1,t2,if_neg (by decide)]
   rw[e]
   obtain⟨j',h2,h3⟩:=Zf7 hk hu l2 hl2 j x s x' s' a h
   refine⟨j',h2,?_⟩
   rcases h3 with h3|⟨h3,h4,h5⟩
   ·exact .inl h3
   · refine .inr ⟨h3,h4,λp hp=>?_⟩
     rcases Y0f.1 hp with rfl|hp
     ·exact hw
     ·exact h5 p hp
theorem ZjK{T:List Tq}{rec1:Ps->Ex×Ps}{l:List (List UInt8×Int)}(hk:∀p∈l,kwB p.1=true)(hu:∀p∈l,∀q∈l,p.1=q.1->p=q):∀(k j:Nat)(x:Ex)(s:Ps)(x':Ex)(s':Ps),j<k->Ch T rec1 l j x s x' s'->Z6V T rec1 l k x s=(x',s')
 |0,j,x,s,x',s',hj,h=>by omega
 |k+1,j,x,s,x',s',hj,h=>by
  obtain⟨j',h2,h3⟩:=Zf7 hk hu l (λ_ h=>h) j x s x' s' false h
  unfold Z6V
  rcases h3 with ⟨h3,h4⟩|⟨h3,h4,h5⟩
  · rw[if_pos h4]
    exact ZjK hk hu k j' _ _ x' s' (by omega) h2
  · rw[h4]
    simp only[Y0r,if_false]
    rw[h4,h3]at h2
    simp only at h2
    cases h with
    |stop=>rfl
    |go j _ _ p _ _ hp hi h=>have:=h5 p hp;rw[hi]at this;cases this
theorem Zup:∀j,j<=8->(∀p∈lvS j,kwB p.1=true)/\(∀p∈lvS j,∀q∈lvS j,p.1=q.1->p=q):=by
 intro j hj
 have:j=0\/j=1\/j=2\/j=3\/j=4\/j=5\/j=6\/j=7\/j=8:=by omega
 rcases this with rfl|rfl|rfl|rfl|rfl|rfl|rfl|rfl|rfl<;>decide
theorem ZsX{op:Int}(h1:5<=op)(h2:op<=16):∃L:Nat,L<=8/\lev op=(L:Int)+1/\(Z46 op,op)∈lvS L/\∀j,j<=8->j≠L->∀p∈lvS j,Z46 op≠p.1:=by
 have hop:op=5\/op=6\/op=7\/op=8\/op=9\/op=10\/op=11\/op=12\/op=13\/op=14\/op=15\/op=16:=by omega
 have hj:∀(P:Nat->Prop),P 0->P 1->P 2->P 3->P 4->P 5->P 6->P 7->P 8->∀j,j<=8->P j:=λP p0 p1 p2 p3 p4 p5 p6 p7 p8 j h=>by
  have:j=0\/j=1\/j=2\/j=3\/j=4\/j=5\/j=6\/j=7\/j=8:=by omega
  rcases this with rfl|rfl|rfl|rfl|rfl|rfl|rfl|rfl|rfl<;>assumption
 rcases hop with rfl|rfl|rfl|rfl|rfl|rfl|rfl|rfl|rfl|rfl|rfl|rfl
 ·exact⟨0,by decide,by decide,by decide,hj _ (by decide) (by decide) (by decide) (by decide) (by decide) (by decide) (by decide) (by decide) (by decide)⟩
 ·exact⟨1,by decide,by decide,by decide,hj _ (by decide) (by decide) (by decide) (by decide) (by decide) (by decide) (by decide) (by decide) (by decide)⟩
 ·exact⟨2,by decide,by decide,by decide,hj _ (by decide) (by decide) (by decide) (by decide) (by decide) (by decide) (by decide) (by decide) (by decide)⟩
 ·exact⟨2,by decide,by decide,by decide,hj _ (by decide) (by decide) (by decide) (by decide) (by decide) (by decide) (by decide) (by decide) (by decide)⟩
 ·exact⟨3,by decide,by decide,by decide,hj _ (by decide) (by decide) (by decide) (by decide) (by decide) (by decide) (by decide) (by decide) (by decide)⟩
 ·exact⟨3,by decide,by decide,by decide,hj _ (by decide) (by decide) (by decide) (by decide) (by decide) (by decide) (by decide) (by decide) (by decide)⟩
 ·exact⟨4,by decide,by decide,by decide,hj _ (by decide) (by decide) (by decide) (by decide) (by decide) (by decide) (by decide) (by decide) (by decide)⟩
 ·exact⟨5,by decide,by decide,by decide,hj _ (by decide) (by decide) (by decide) (by decide) (by decide) (by decide) (by decide) (by decide) (by decide)⟩
 ·exact⟨6,by decide,by decide,by decide,hj _ (by decide) (by decide) (by decide) (by decide) (by decide) (by decide) (by decide) (by decide) (by decide)⟩
 ·exact⟨7,by decide,by decide,by decide,hj _ (by decide) (by decide) (by decide) (by decide) (by decide) (by decide) (by decide) (by decide) (by decide)⟩
 ·exact⟨7,by decide,by decide,by decide,hj _ (by decide) (by decide) (by decide) (by decide) (by decide) (by decide) (by decide) (by decide) (by decide)⟩
 ·exact⟨8,by decide,by decide,by decide,hj _ (by decide) (by decide) (by decide) (by decide) (by decide) (by decide) (by decide) (by decide) (by decide)⟩
def tkB(e:Ex)(n:Nat):List Wt:=Z8Z (e.op,tkE e) (n:Nat)
def bkN(e:Ex)(n:Nat):Int:=if lev e.op<(n:Nat) then 1 else 0
def PP(T:List Tq)(n:Nat)(e:Ex):Prop:=∀(d:Nat)(s:Ps)(r:List Wt),(tkB e (n+1)).length<=d->s.err=0->s.op+2*(Z0P e:Nat)+bkN e (n+1)<=201->(upT T).drop s.i=tkB e (n+1)++r->zstp n r->Z4F T (unF T d) (9-n) s=(e,adv s (tkB e (n+1)).length)
def CC(T:List Tq)(n:Nat)(e:Ex):Prop:=∀(d:Nat)(s:Ps)(r:List Wt),(tkB e (n+1)).length<=d->s.err=0->s.op+2*(Z0P e:Nat)+bkN e (n+1)<=201->(upT T).drop s.i=tkB e (n+1)++r->zstp (n+1) r ->
 ∀(j:Nat)(x':Ex)(s':Ps),Ch T (Z4F T (unF T d) (8-n)) (lvS n) j e (adv s (tkB e (n+1)).length) x' s'->∃j2,j2+1<=j+(tkB e (n+1)).length/\Ch T (Z4F T (unF T d) (8-n)) (lvS n) j2 (Z4F T (unF T d) (8-n) s).1 (Z4F T (unF T d) (8-n) s).2 x' s'
theorem PP.of{T:List Tq}{n:Nat}(hn:n<=8){e:Ex}(h:CC T n e):PP T n e:=by
 intro d s r hd he hop hU hst
 have hU2:=Z14 hU
 obtain⟨j2,hj,hc⟩:=h d s r hd he hop hU hst.mono 0 e (adv s _) (Ch.stop _ _ (λp hp=>ZoN (λx hx=>hst n (Y01 _) hn p hp x hx) hU2))
 have hlen:=Z76 hU
 rw[show 9-n=(8-n)+1 by omega]
 have e2:Z4F T (unF T d) (8-n+1) s=Z6V T (Z4F T (unF T d) (8-n)) (lvS (8-(8-n))) (T.length+1) (Z4F T (unF T d) (8-n) s).1 (Z4F T (unF T d) (8-n) s).2:=rfl
 rw[e2,show 8-(8-n)=n by omega]
 obtain⟨k1,k2⟩:=Zup n hn
 exact ZjK k1 k2 _ j2 _ _ _ _ (by omega) hc
theorem Zmk{e:Ex}{n:Nat}(hne:lev e.op≠(n:Int)+1):tkB e (n+2)=tkB e (n+1)/\bkN e (n+2)=bkN e (n+1):=by
 unfold tkB Z8Z bkN
 simp only
 by_cases h:lev e.op<((n+1:Nat):Int)
 · have h2:lev e.op<((n+2:Nat):Int):=by omega
   rw[if_pos h,if_pos h2,if_pos h,if_pos h2];exact⟨rfl,rfl⟩
 · have h2:¬lev e.op<((n+2:Nat):Int):=by omega
   rw[if_neg h,if_neg h2,if_neg h,if_neg h2];exact⟨rfl,rfl⟩
theorem Zpx{e:Ex}(hpos:0<(tkE e).length)(n:Nat):0<(tkB e n).length:=by
 unfold tkB Z8Z
 split
 ·simp
 ·exact hpos
theorem CC.of{T:List Tq}{n:Nat}(hn:n<=8){e:Ex}(h:PP T (n+1) e)(hne:lev e.op≠(n:Int)+1)(hpos:0<(tkE e).length):CC T n e:=by
 intro d s r hd he hop hU hst j x' s' hc
 obtain⟨t1,t2⟩:=Zmk hne
 have h1:=h d s r (by rw[t1];exact hd) he (by rw[t2];exact hop) (by rw[t1];exact hU) hst
 rw[show 9-(n+1)=8-n by omega,t1]at h1
 rw[h1]
 have:=Zpx hpos (n+1)
 exact⟨j,by omega,hc⟩
theorem ZeO{op:Int}(h1:5<=op)(a b:Ex):tkE (.mk op 0 [] [a,b])=Z8Z (a.op,tkE a) (lev op)++(sgW (Z46 op)::Z8Z (b.op,tkE b) (lev op+1)):=by
 simp only[tkE,tkC,tkL]
 rw[if_neg (by omega),if_neg (by omega)]
theorem ZiV{op:Int}(h:op=3\/op=4)(a:Ex):tkE (.mk op 0 [] [a])=sgW (Z46 op)::Z8Z (a.op,tkE a) 10:=by
 simp only[tkE,tkC,tkL]
 rw[if_neg (by omega),if_neg (by omega)]
theorem CC.bin{T:List Tq}{op:Int}(h1:5<=op)(h2:op<=16){L:Nat}(hL:L<=8)(hlev:lev op=(L:Int)+1)(hm:(Z46 op,op)∈lvS L)(hn:∀j,j<=8->j≠L->∀p∈lvS j,Z46 op≠p.1){a b:Ex}(ha:CC T L a)(hb:PP T (L+1) b):CC T L (.mk op 0 [] [a,b]):=by
 intro d s r hd he hop hU hst j x' s' hc
 have e1:tkB (.mk op 0 [] [a,b]) (L+1)=tkB a (L+1)++(sgW (Z46 op)::tkB b (L+2)):=by
  unfold tkB
  show Z8Z (op,_) _=_
  unfold Z8Z
  simp only
  rw[if_neg (by omega),ZeO h1,hlev]
  rfl
 have e2:bkN (.mk op 0 [] [a,b]) (L+1)=0:=by
  unfold bkN
  show (if lev op<_ then (1:Int) else 0)=0
  rw[if_neg (by omega)]
 have dp:Z0P (.mk op 0 [] [a,b])=max (Z0P a) (max (Z0P b) 0)+1:=by simp only[Z0P,deepL]
 have bk1:∀(x:Ex)(m:Nat),bkN x m<=1:=λx m=>by unfold bkN;split<;>omega
 have bka:=bk1 a (L+1)
 have bkb:=bk1 b (L+2)
 rw[e1]at hd hU hc
 rw[e2,dp]at hop
 simp only[Y08,Y09,Y06,Y07]at hd hU hc
 have hU2:=Z14 hU
 have hU3:(upT T).drop (s.i+(tkB a (L+1)).length+1)=tkB b (L+2)++r:=Z14 (l:=[sgW (Z46 op)]) hU2
 have hi:isF T (adv s (tkB a (L+1)).length) (Z46 op)=true:=by
  rw[Z0N (s:=adv s (tkB a (L+1)).length) he hU2];unfold eqW sgW;simp
 have hb':=hb d (Z0g (adv s (tkB a (L+1)).length)) r (by show (tkB b (L+2)).length<=d;omega) he (by show s.op+_+bkN b (L+2)<=201;omega) hU3 hst
 rw[show 9-(L+1)=8-L by omega]at hb'
 have st2:zstp (L+1) (sgW (Z46 op)::(tkB b (L+2)++r)):=by
  intro j h3 h4 p hp x hx
  cases hx
  unfold eqW sgW
  have:=hn j h4 (by omega) p hp
  simpa using this
 have hc2:Ch T (Z4F T (unF T d) (8-L)) (lvS L) (j+1) a (adv s (tkB a (L+1)).length) x' s':=by
  refine Ch.go j _ _ (Z46 op,op) x' s' hm hi ?_
  rw[hb']
  have e3:adv (Z0g (adv s (tkB a (L+1)).length)) (tkB b (L+1+1)).length=adv s ((tkB a (L+1)).length+((tkB b (L+2)).length+1)):=by
   unfold adv Z0g
   simp only[Ps.mk.injEq,and_self,and_true]
   show _+(tkB b (L+2)).length=_
   omega
  rw[e3]
  exact hc
 obtain⟨j2,h3,h4⟩:=ha d s _ (by omega) he (by omega) hU st2 (j+1) x' s' hc2
 refine⟨j2,?_,h4⟩
 rw[e1]
 simp only[Y08,Y09]
 omega
theorem Zj0{T:List Tq}{s:Ps}{w:List UInt8}(hw:w=[40]\/w=[123])(hi:isF T s w=true)(ho:s.op<200):Z1l T s w=true/\Z0s T s w={ s with i:=s.i+1,op:=s.op+1 }:=by
 have h1:upB w=true:=by rcases hw with rfl|rfl<;>rfl
 have h2:(s.op==200)=false:=by simp;omega
 unfold Z1l Z0s
 rw[hi,h1,h2,if_pos rfl,if_neg (by omega),if_pos rfl]
 exact⟨rfl,rfl⟩
theorem Zqw{T:List Tq}{s:Ps}{w:List UInt8}(hw:w=[40]\/w=[123])(hi:isF T s w=true)(ho:s.op<200):Z0z T s w={ s with i:=s.i+1,op:=s.op+1 }:=by
 obtain⟨h1,h2⟩:=Zj0 hw hi ho
 unfold Z0z
 rw[h1,h2,if_pos rfl]
theorem Zjx{T:List Tq}{s:Ps}{w:List UInt8}(hw:w=[41]\/w=[125])(hi:isF T s w=true):Z0z T s w={ s with i:=s.i+1,op:=s.op-1 }:=by
 have h1:upB w=false:=by rcases hw with rfl|rfl<;>rfl
 have h2:dnB w=true:=by rcases hw with rfl|rfl<;>rfl
 unfold Z0z Z1l Z0s
 rw[hi,h1,h2]
 simp
theorem Zqy{T:List Tq}{s:Ps}{w:List UInt8}(hw:kwB w=true)(hi:isF T s w=true):Z0z T s w=Z0g s:=by
 obtain⟨h1,h2⟩:=Z1f (T:=T) (s:=s) hw
 unfold Z0z
 rw[h1,h2,hi,if_pos rfl,if_pos rfl]
theorem Z74(w v:List UInt8):eqW (sgW w) v=(w==v):=by unfold eqW sgW;simp
theorem PP.brk{T:List Tq}{e:Ex}(h:PP T 0 e)(hl:lev e.op<10)(h1:1<=lev e.op):PP T 9 e:=by
 intro d s r hd he hop hU hst
 have e1:tkB e (9+1)=sgW [40]::(tkE e++[sgW [41]]):=by unfold tkB Z8Z;rw[if_pos (by simpa using hl)]
 have e2:bkN e (9+1)=1:=by unfold bkN;rw[if_pos (by simpa using hl)]
 have e3:tkB e (0+1)=tkE e:=by unfold tkB Z8Z;simp only;rw[if_neg (by omega)]
 have e4:bkN e (0+1)=0:=by unfold bkN;rw[if_neg (by omega)]
 rw[e1]at hd hU⊢
 rw[e2]at hop
 have hdp:1<=Z0P e:=by cases e;simp only[Z0P];omega
 obtain⟨d,rfl⟩:∃d',d=d'+1:=⟨d-1,by simp at hd;omega⟩
 simp only[Y09,Y08,Y0d]at hd
 simp only[Y07,Y06,Y0a]at hU
 have hU2:(upT T).drop (s.i+1)=tkE e++(sgW [41]::r):=Z14 (l:=[sgW [40]]) hU
 have hi:∀w,isF T s w=([40]==w):=λw=>by rw[Z0N he hU,Z74]
 obtain⟨k1,k2⟩:=Zj0 (T:=T) (s:=s) (.inl rfl) (by rw[hi];rfl) (by omega)
 have hst2:zstp 0 (sgW [41]::r):=by
  intro j h3 h4 p hp x hx
  cases hx
  rw[Z74]
  have hj:j=0\/j=1\/j=2\/j=3\/j=4\/j=5\/j=6\/j=7\/j=8:=by omega
  revert p
  rcases hj with rfl|rfl|rfl|rfl|rfl|rfl|rfl|rfl|rfl<;>decide
 have hP:=h d { s with i:=s.i+1,op:=s.op+1 } (sgW [41]::r) (by rw[e3];omega) he (by rw[e4];show s.op+1+_+_<=_;omega) (by rw[e3];exact hU2) hst2
 rw[e3]at hP
 have hU3:(upT T).drop (s.i+1+(tkE e).length)=sgW [41]::r:=Z14 hU2
 have hk:(Z15 T s).kind=4:=congrArg Wt.kind (Z4X hU)
 show unF T (d+1) s=_
 rw[unF,if_pos ⟨by rw[hi];rfl,by rw[hi];rfl⟩]
 unfold Z3Z
 rw[if_neg (by rw[he];simp),if_neg (by rw[hk];decide),if_neg (by rw[hk];decide),k1,if_pos rfl,k2,hP]
 simp only
 rw[Zjx (.inl rfl) (by rw[Z0N (s:=adv { s with i:=s.i+1,op:=s.op+1 } (tkE e).length) (r:=r) he hU3,Z74];rfl)]
 unfold adv
 simp only[Prod.mk.injEq,Ps.mk.injEq,true_and,and_true,Y09,Y08,Y0d]
 constructor<;>omega
theorem PP.down{T:List Tq}{e:Ex}{lo:Nat}(hpos:0<(tkE e).length):∀(k hi:Nat),hi<=9->PP T hi e->(∀n,lo<=n->n<hi->lev e.op≠(n:Int)+1)->∀n,lo<=n->n+k=hi->PP T n e
 |0,hi,h9,h,hne,n,hlo,hk=>by
  have:n=hi:=by omega
  subst this;exact h
 |k+1,hi,h9,h,hne,n,hlo,hk=>by
  have h1:=PP.down hpos k hi h9 h hne (n+1) (by omega) (by omega)
  exact PP.of (by omega) (CC.of (by omega) h1 (hne n hlo (by omega)) hpos)
theorem Z4L{e:Ex}(he:XRt e):0<(tkE e).length:=by
 cases he with
 |num n h=>simp only[tkE,tkC,if_true,List.length_singleton];omega
 |reg w h=>simp only[tkE,tkC];rw[if_neg (by decide),if_pos trivial];simp
 |un op h a ha=>rw[ZiV h];simp
 |bin op h1 h2 a b ha hb=>rw[ZeO h1];simp;omega
theorem ZqF{e:Ex}(he:XRt e):1<=lev e.op:=by
 cases he with
 |num n h=>show 1<=lev 1;decide
 |reg w h=>show 1<=lev 2;decide
 |un op h a ha=>show 1<=lev op;rcases h with rfl|rfl<;>decide
 |bin op h1 h2 a b ha hb=>obtain⟨L,_,h,_⟩:=ZsX h1 h2;show 1<=lev op;omega
theorem ZiW{e:Ex}(h:10<=lev e.op):tkB e (9+1)=tkE e/\bkN e (9+1)=0:=by
 unfold tkB Z8Z bkN
 simp only
 rw[if_neg (by omega),if_neg (by omega)]
 exact⟨rfl,rfl⟩
theorem Zqg{T:List Tq}{e:Ex}(he:XRt e):(∀n,n<=9->PP T n e)/\(∀n,n<=8->CC T n e):=by
 have hpos:=Z4L he
 have hi:10<=lev e.op->PP T 9 e->(∀n,n<=9->PP T n e)/\(∀n,n<=8->CC T n e):=λhl h9=>by
  have hP:∀n,n<=9->PP T n e:=λn hn=>PP.down (lo:=0) hpos (9-n) 9 (Y01 _) h9 (λn _ h=>by omega) n (Y0c _) (by omega)
  exact⟨hP,λn hn=>CC.of hn (hP (n+1) (by omega)) (by omega) hpos⟩
 induction he with
 |num m hm =>
  have hl:lev (Ex.mk 1 (m:Nat) [] []).op=11:=rfl
  refine hi (by rw[hl];decide) ?_
  intro d s r hd hr hop hU hst
  obtain⟨e1,e2⟩:=ZiW (e:=.mk 1 (m:Nat) [] []) (by rw[hl];decide)
  have e3:tkE (.mk 1 (m:Nat) [] [])=[nmW m]:=by simp only[tkE,tkC,if_true,Int.toNat_natCast]
  rw[e1,e3]at hd hU⊢
  obtain⟨d,rfl⟩:∃d',d=d'+1:=⟨d-1,by simp at hd;omega⟩
  have hn:=Z4X hU
  have hk:(Z15 T s).kind=3:=congrArg Wt.kind hn
  have hv:(Z15 T s).num=(m:Nat):=congrArg Wt.num hn
  have hi:∀w,isF T s w=false:=λw=>by rw[Z0N hr hU];rfl
  show unF T (d+1) s=_
  rw[unF,if_pos ⟨hi _,hi _⟩]
  unfold Z3Z
  rw[if_neg (by rw[hr];simp),if_pos hk,hv]
  rfl
 |reg w hw =>
  have hl:lev (Ex.mk 2 0 w []).op=11:=rfl
  refine hi (by rw[hl];decide) ?_
  intro d s r hd hr hop hU hst
  obtain⟨e1,e2⟩:=ZiW (e:=.mk 2 0 w []) (by rw[hl];decide)
  have e3:tkE (.mk 2 0 w [])=[wdW w]:=by simp only[tkE,tkC];rw[if_neg (by decide),if_pos trivial]
  rw[e1,e3]at hd hU⊢
  obtain⟨d,rfl⟩:∃d',d=d'+1:=⟨d-1,by simp at hd;omega⟩
  have hn:=Z4X hU
  have hk:(Z15 T s).kind=1:=congrArg Wt.kind hn
  have hv:(Z15 T s).text=w:=congrArg Wt.text hn
  have hi:∀w,isF T s w=false:=λw=>by rw[Z0N hr hU];rfl
  show unF T (d+1) s=_
  rw[unF,if_pos ⟨hi _,hi _⟩]
  unfold Z3Z
  rw[if_neg (by rw[hr];simp),if_neg (by rw[hk];decide),if_pos hk,hv]
  rfl
 |un op h a ha ih =>
  have hpa:=Z4L ha
  have ih:=ih hpa (λhl h9=>by
   have hP:∀n,n<=9->PP T n a:=λn hn=>PP.down (lo:=0) hpa (9-n) 9 (Y01 _) h9 (λn _ h=>by omega) n (Y0c _) (by omega)
   exact⟨hP,λn hn=>CC.of hn (hP (n+1) (by omega)) (by omega) hpa⟩)
  have hl:lev (Ex.mk op 0 [] [a]).op=10:=by show lev op=10;rcases h with rfl|rfl<;>rfl
  refine hi (by rw[hl];decide) ?_
  intro d s r hd hr hop hU hst
  obtain⟨e1,e2⟩:=ZiW (e:=.mk op 0 [] [a]) (by rw[hl];decide)
  have e3:tkE (.mk op 0 [] [a])=sgW (Z46 op)::tkB a (9+1):=ZiV h a
  have dp:Z0P (.mk op 0 [] [a])=max (Z0P a) 0+1:=by simp only[Z0P,deepL]
  have bka:bkN a (9+1)<=1:=by unfold bkN;split<;>omega
  have hda:1<=Z0P a:=by cases a;simp only[Z0P];omega
  rw[e1,e3]at hd hU⊢
  rw[e2,dp]at hop
  obtain⟨d,rfl⟩:∃d',d=d'+1:=⟨d-1,by simp at hd;omega⟩
  simp only[Y09]at hd
  have hU2:(upT T).drop (s.i+1)=tkB a (9+1)++r:=Z14 (l:=[sgW (Z46 op)]) hU
  have hi:∀w,isF T s w=(Z46 op==w):=λw=>by rw[Z0N hr hU,Z74]
  have hP:=ih.1 9 (Y01 _) d { s with i:=s.i+1,op:=s.op+1 } r (by omega) hr (by show s.op+1+_+_<=_;omega) hU2 (λj h1 h2=>by omega)
  have hP:unF T d { s with i:=s.i+1,op:=s.op+1 }=_:=hP
  show unF T (d+1) s=_
  rw[unF,if_neg (by rw[hi,hi];rcases h with rfl|rfl<;>simp[Z46]),if_neg (by omega),hP,hi]
  have e4:(if (Z46 op==[33])=true then (4:Int) else 3)=op:=by rcases h with rfl|rfl<;>rfl
  rw[e4]
  unfold adv
  simp only[Prod.mk.injEq,Ps.mk.injEq,true_and,and_true,Y09]
  constructor<;>omega
 |bin op h1 h2 a b ha hb iha ihb =>
  have up:∀x,XRt x->0<(tkE x).length->(10<=lev x.op->PP T 9 x->(∀n,n<=9->PP T n x)/\(∀n,n<=8->CC T n x)):=λx hx hpx hl h9=>by
   have hP:∀n,n<=9->PP T n x:=λn hn=>PP.down (lo:=0) hpx (9-n) 9 (Y01 _) h9 (λn _ h=>by omega) n (Y0c _) (by omega)
   exact⟨hP,λn hn=>CC.of hn (hP (n+1) (by omega)) (by omega) hpx⟩
  have iha:=iha (Z4L ha) (up a ha (Z4L ha))
  have ihb:=ihb (Z4L hb) (up b hb (Z4L hb))
  obtain⟨L,hL,hlev,hm,hn⟩:=ZsX h1 h2
  have hlev2:lev (Ex.mk op 0 [] [a,b]).op=(L:Int)+1:=hlev
  have hC:CC T L (.mk op 0 [] [a,b]):=CC.bin h1 h2 hL hlev hm hn (iha.2 L hL) (ihb.1 (L+1) (by omega))
  have hPL:=PP.of hL hC
  have lo:∀n,n<=L->PP T n (.mk op 0 [] [a,b]):=λn hn=>PP.down (lo:=0) hpos (L-n) L (by omega) hPL (λm _ h=>by rw[hlev2];omega) n (Y0c _) (by omega)
  have h9:PP T 9 (.mk op 0 [] [a,b]):=PP.brk (lo 0 (Y0c _)) (by rw[hlev2];omega) (by rw[hlev2];omega)
  have hP:∀n,n<=9->PP T n (.mk op 0 [] [a,b]):=λn hn=>by
   by_cases h:n<=L
   ·exact lo n h
   ·exact PP.down (lo:=L+1) hpos (9-n) 9 (Y01 _) h9 (λm h3 h4=>by rw[hlev2];omega) n (by omega) (by omega)
  refine⟨hP,λn hn=>?_⟩
  by_cases h:n=L
  ·subst h;exact hC
  ·exact CC.of hn (hP (n+1) (by omega)) (by rw[hlev2];omega) hpos
theorem ZgT{T:List Tq}{e:Ex}(hx:XRt e){s:Ps}{r:List Wt}(he:s.err=0)(hop:s.op+2*(Z0P e:Nat)<=201)(hU:(upT T).drop s.i=tkE e++r)(hst:zstp 0 r):Z2q T s=(e,adv s (tkE e).length):=by
 have h1:=ZqF hx
 have e3:tkB e (0+1)=tkE e:=by unfold tkB Z8Z;simp only;rw[if_neg (by omega)]
 have e4:bkN e (0+1)=0:=by unfold bkN;rw[if_neg (by omega)]
 have:=(Zqg (T:=T) hx).1 0 (by omega) T.length s r (by rw[e3];exact Z76 hU) he (by rw[e4];omega) (by rw[e3];exact hU) hst
 rw[e3]at this
 exact this
end
section
def Z7d:List Ex->List Wt
 |[]=>[]
 |e::l=>sgW [44]::(tkE e++Z7d l)
def Zo8(word loc:List UInt8)(x:List Ex)(o:Int):List Wt:=kwW word::sgW [40]::wdW loc::(Z7d x++[sgW [44],kwW (Z5S o),sgW [41]])
def hdW:List Ex->List Wt
 |[]=>[]
 |e::_=>tkE e
def Z8P(n:List UInt8):List Wt:=if n=[] then [] else [wdW n,sgW [61]]
def ZmJ(k:Int)(lc:List UInt8)(o:Int)(x:List Ex):List Wt :=
 if k=1 then hdW x else if k=2 then Zo8 [108,111,97,100] lc x o else if k=3 then Zo8 [115,116,111,114,101] lc x o else if k=4 then Zo8 [99,97,115] lc x o else if k=5 then Zo8 [97,100,100] lc x o
 else if k=6 then Zo8 [115,119,97,112] lc x o else if k=7 then [kwW [102,101,110,99,101],sgW [40],kwW (Z5S o),sgW [41]] else if k=8 then kwW [97,115,115,117,109,101]::sgW [40]::(hdW x++[sgW [41]])
 else if k=9 then kwW [97,115,115,101,114,116]::sgW [40]::(hdW x++[sgW [41]]) else []
mutual
def tkS:St->List Wt
 | .mk k n lc o x t e=>Z8P n ++
  (if k=10 then kwW [105,102]::sgW [40]::(hdW x++(sgW [41]::sgW [123]::(tkSL t++(sgW [125]::(if e.length=0 then [] else kwW [101,108,115,101]::sgW [123]::(tkSL e++[sgW [125]]))))))
   else if k=11 then kwW [119,104,105,108,101]::sgW [40]::(hdW x++(sgW [41]::sgW [123]::(tkSL t++[sgW [125]])))
   else ZmJ k lc o x++[sgW [59]])
def tkSL:List St->List Wt
 |[]=>[]
 |s::l=>tkS s++tkSL l
end
inductive XSt:St->Prop
 |set (n:List UInt8) (e:Ex) (hn:Z0Z n=true) (he:XRt e):XSt (.mk 1 n [] 0 [e] [] [])
 |acc (k:Int) (n lc:List UInt8) (o:Int) (x:List Ex) (hk:k=2/\x.length=0\/k=4/\x.length=2\/(k=5\/k=6)/\x.length=1) (hn:Z0Z n=true) (hl:Z0Z lc=true) (ho:1<=o/\o<=6) (hx:∀e∈x,XRt e):XSt (.mk k n lc o x [] [])
 |sto (lc:List UInt8) (o:Int) (e:Ex) (hl:Z0Z lc=true) (ho:1<=o/\o<=6) (he:XRt e):XSt (.mk 3 [] lc o [e] [] [])
 |fen (o:Int) (ho:1<=o/\o<=6):XSt (.mk 7 [] [] o [] [] [])
 |bkt (k:Int) (hk:k=8\/k=9) (e:Ex) (he:XRt e):XSt (.mk k [] [] 0 [e] [] [])
 |iff (e:Ex) (t l:List St) (he:XRt e) (ht:∀s∈t,XSt s) (hl:∀s∈l,XSt s):XSt (.mk 10 [] [] 0 [e] t l)
 |whl (e:Ex) (t:List St) (he:XRt e) (ht:∀s∈t,XSt s):XSt (.mk 11 [] [] 0 [e] t [])
theorem Z9k:∀{l:List Ex},rightL l=true->∀e∈l,Z0p e=true
 |x::l,h,e,he=>by
  simp only[rightL,Y0j]at h
  rcases Y0f.1 he with rfl|he
  ·exact h.1
  ·exact Z9k h.2 e he
theorem Z2D:∀{l:List St},rightSL l=true->∀e∈l,Z2E e=true
 |x::l,h,e,he=>by
  simp only[rightSL,Y0j]at h
  rcases Y0f.1 he with rfl|he
  ·exact h.1
  ·exact Z2D h.2 e he
theorem Z4b:∀{l:List St},∀e∈l,Z2g e<=sizeSL l
 |x::l,e,he=>by
  simp only[sizeSL]
  rcases Y0f.1 he with rfl|he
  ·omega
  ·have:=Z4b e he;omega
theorem ZaB{α : Type}{l:List α}(h:l.length=0):l=[]:=List.eq_nil_of_length_eq_zero h
theorem Zsk{α : Type}{l:List α}(h:l.length=1):∃a,l=[a]:=by
 match l,h with
 |[a],_=>exact⟨a,rfl⟩
theorem Zpn:∀(n:Nat)(s:St),Z2g s<=n->Z2E s=true->rgS s->XSt s
 |0,.mk _ _ _ _ _ _ _,hn,_,_=>by simp only[Z2g]at hn;omega
 |n+1,.mk k nm lc o x t e,hn,hr,hg=>by
  simp only[Z2g]at hn
  simp only[Z2E,Zov,St.kind,St.name,St.loc,St.order,St.exprs,St.thn,St.els,ZaA,Y0j,decide_eq_true_eq,Bool.or_eq_true]at hr
  obtain⟨⟨h1,h2,h3,h4,h5,h6,h7⟩,hx,ht,he⟩:=hr
  replace h1:=of_decide_eq_true h1
  replace h5:=of_decide_eq_true h5
  simp only[rgS]at hg
  have X:∀e∈x,XRt e:=λa ha=>ZiG _ a (Y01 _) (Z9k hx a ha) (Zf4 hg.1 a ha)
  have TT:∀e∈t,XSt e:=λa ha=>Zpn n a (by have:=Z4b a ha;omega) (Z2D ht a ha) (Z4c hg.2.1 a ha)
  have EE:∀y∈e,XSt y:=λa ha=>Zpn n a (by have:=Z4b a ha;omega) (Z2D he a ha) (Z4c hg.2.2 a ha)
  have hk:k=1\/k=2\/k=3\/k=4\/k=5\/k=6\/k=7\/k=8\/k=9\/k=10\/k=11:=by omega
  have nl:∀{w:List UInt8},isW false w=true->w=[]:=λh=>by simpa[isW]using h
  have wl:∀{w:List UInt8},isW true w=true->Z0Z w=true:=λh=>by simpa[isW]using h
  have z:∀{o:Int},(if false=true then decide (1<=o/\o<=6) else o==0)=true->o=0:=λh=>by simpa using h
  have q:∀{o:Int},(if true=true then decide (1<=o/\o<=6) else o==0)=true->1<=o/\o<=6:=λh=>by simpa using h
  have f:∀{a:Nat},(false=true\/decide (a=0)=true)->a=0:=λh=>by rcases h with h|h;cases h;exact of_decide_eq_true h
  rcases hk with rfl|rfl|rfl|rfl|rfl|rfl|rfl|rfl|rfl|rfl|rfl
  · obtain⟨a,rfl⟩:=Zsk h5
    obtain rfl:=ZaB (f h6)
    obtain rfl:=ZaB (f h7)
    obtain rfl:=nl h3
    obtain rfl:=z h4
    exact XSt.set nm a (wl h2) (X a (Y0g.2 rfl))
  · obtain rfl:=ZaB (f h6)
    obtain rfl:=ZaB (f h7)
    exact XSt.acc 2 nm lc o x (.inl ⟨rfl,h5⟩) (wl h2) (wl h3) (q h4) X
  · obtain⟨a,rfl⟩:=Zsk h5
    obtain rfl:=ZaB (f h6)
    obtain rfl:=ZaB (f h7)
    obtain rfl:=nl h2
    exact XSt.sto lc o a (wl h3) (q h4) (X a (Y0g.2 rfl))
  · obtain rfl:=ZaB (f h6)
    obtain rfl:=ZaB (f h7)
    exact XSt.acc 4 nm lc o x (.inr (.inl ⟨rfl,h5⟩)) (wl h2) (wl h3) (q h4) X
  · obtain rfl:=ZaB (f h6)
    obtain rfl:=ZaB (f h7)
    exact XSt.acc 5 nm lc o x (.inr (.inr ⟨.inl rfl,h5⟩)) (wl h2) (wl h3) (q h4) X
  · obtain rfl:=ZaB (f h6)
    obtain rfl:=ZaB (f h7)
    exact XSt.acc 6 nm lc o x (.inr (.inr ⟨.inr rfl,h5⟩)) (wl h2) (wl h3) (q h4) X
  · obtain rfl:=ZaB h5
    obtain rfl:=ZaB (f h6)
    obtain rfl:=ZaB (f h7)
    obtain rfl:=nl h2
    obtain rfl:=nl h3
    exact XSt.fen o (q h4)
  · obtain⟨a,rfl⟩:=Zsk h5
    obtain rfl:=ZaB (f h6)
    obtain rfl:=ZaB (f h7)
    obtain rfl:=nl h2
    obtain rfl:=nl h3
    obtain rfl:=z h4
    exact XSt.bkt 8 (.inl rfl) a (X a (Y0g.2 rfl))
  · obtain⟨a,rfl⟩:=Zsk h5
    obtain rfl:=ZaB (f h6)
    obtain rfl:=ZaB (f h7)
    obtain rfl:=nl h2
    obtain rfl:=nl h3
    obtain rfl:=z h4
    exact XSt.bkt 9 (.inr rfl) a (X a (Y0g.2 rfl))
  · obtain⟨a,rfl⟩:=Zsk h5
    obtain rfl:=nl h2
    obtain rfl:=nl h3
    obtain rfl:=z h4
    exact XSt.iff a t e (X a (Y0g.2 rfl)) TT EE
  · obtain⟨a,rfl⟩:=Zsk h5
    obtain rfl:=ZaB (f h7)
    obtain rfl:=nl h2
    obtain rfl:=nl h3
    obtain rfl:=z h4
    exact XSt.whl a t (X a (Y0g.2 rfl)) TT
theorem Zow{o:Int}(ho:1<=o/\o<=6):keysL.contains (Z5S o)=true:=by
 have:o=1\/o=2\/o=3\/o=4\/o=5\/o=6:=by omega
 rcases this with rfl|rfl|rfl|rfl|rfl|rfl<;>decide
theorem ZoI:∀(x:List Ex),(∀e∈x,XRt e)->∀{r:List UInt8}{l:List Wt},cl r->Lx r l->cl (ZcL x++r)/\Lx (ZcL x++r) (Z7d x++l)
 |[],hx,r,l,hr,hl=>⟨hr,hl⟩
 |e::x,hx,r,l,hr,hl=>by
  obtain⟨h1,h2⟩:=ZoI x (λa ha=>hx a (Y0l _ ha)) hr hl
  simp only[ZcL,Z7d,Y07,Y06]
  exact⟨Zvv _,lx_s1 (by decide) (lx_bl (by decide) ((Zfe (hx e (Y0k ..))).2 _ _ h1 h2))⟩
theorem ZdA{w lc:List UInt8}{x:List Ex}{o:Int}(hw:keysL.contains w=true)(hl:Z0Z lc=true)(hx:∀e∈x,XRt e)(ho:1<=o/\o<=6){r:List UInt8}{l:List Wt}(h:Lx r l):Lx (Z7p w lc x o++r) (Zo8 w lc x o++l):=by
 simp only[Z7p,Zo8,Y07,Y06,Y0a]
 obtain⟨h1,h2⟩:=ZoI x hx (Zvv (32::(Z5S o++41::r))) (lx_s1 (by decide) (lx_bl (by decide) (Z7I (Zow ho) (ZrI _) (lx_s1 (by decide) h))))
 exact Z7I hw (Zu2 _) (lx_s1 (by decide) (Zcg hl h1 h2))
theorem Z3H{w:List UInt8}(h:Z0Z w=true):w≠[]:=λe=>by subst e;exact absurd h (by decide)
theorem ZoF{n:List UInt8}(hn:Z0Z n=true){r:List UInt8}{l:List Wt}(h:Lx r l):Lx (Zau n++r) (Z8P n++l):=by
 unfold Zau Z8P
 rw[if_neg (Z3H hn),if_neg (Z3H hn)]
 simp only[Y07,Y06,Y0a]
 exact Zcg hn (Zii _) (lx_bl (by decide) (ZjF (t:=[61]) (by decide) (Zii _) (lx_bl (by decide) h)))
theorem Zgx{t:List St}(h:∀s∈t,∀(i:Nat)(r:List UInt8)(l:List Wt),Lx r l->Lx (stT s i++r) (tkS s++l))(i:Nat){r:List UInt8}{l:List Wt}(hl:Lx r l):Lx (lnT t i++r) (tkSL t++l):=by
 induction t with
 |nil=>simp only[lnT,tkSL,Y0a];exact hl
 |cons s t ih =>
  simp only[lnT,tkSL,Y06,Y07]
  exact ZjD _ (h s (Y0k ..) i _ _ (lx_bl (by decide) (ih (λa ha=>h a (Y0l _ ha)))))
theorem Zdz{t:List St}(h:∀s∈t,∀(i:Nat)(r:List UInt8)(l:List Wt),Lx r l->Lx (stT s i++r) (tkS s++l))(i:Nat){r:List UInt8}{l:List Wt}(hl:Lx r l):Lx (123::10::(lnT t (i+1)++(spc i++125::r))) (sgW [123]::(tkSL t++(sgW [125]::l))) :=
 lx_s1 (by decide) (lx_bl (by decide) (Zgx h (i+1) (ZjD _ (lx_s1 (by decide) hl))))
theorem ZsV{s:St}(hs:XSt s):∀(i:Nat)(r:List UInt8)(l:List Wt),Lx r l->Lx (stT s i++r) (tkS s++l):=by
 induction hs with
 |set n e hn he =>
  intro i r l h
  simp only[stT,tkS]
  rw[if_neg (by decide),if_neg (by decide),if_neg (by decide),if_neg (by decide)]
  simp only[Zc9,ZmJ,if_true,hdT,hdW,Y06,Y07,Y0a]
  exact ZoF hn ((Zfe he).2 _ _ (Zvu _) (lx_s1 (by decide) h))
 |acc k n lc o x hk hn hl ho hx =>
  intro i r l h
  simp only[stT,tkS]
  rw[if_neg (by omega),if_neg (by omega),if_neg (by omega),if_neg (by omega)]
  simp only[Y06]
  refine ZoF hn ?_
  have hk:k=2\/k=4\/k=5\/k=6:=by omega
  have h2:Lx ([59]++r) ([sgW [59]]++l):=lx_s1 (by decide) h
  rcases hk with rfl|rfl|rfl|rfl
  ·exact ZdA (w:=[108,111,97,100]) (by decide) hl hx ho h2
  ·exact ZdA (w:=[99,97,115]) (by decide) hl hx ho h2
  ·exact ZdA (w:=[97,100,100]) (by decide) hl hx ho h2
  ·exact ZdA (w:=[115,119,97,112]) (by decide) hl hx ho h2
 |sto lc o e hl ho he =>
  intro i r l h
  simp only[stT,tkS]
  rw[if_neg (by decide),if_neg (by decide),if_neg (by decide),if_neg (by decide)]
  simp only[Y06]
  have h2:Lx ([59]++r) ([sgW [59]]++l):=lx_s1 (by decide) h
  exact ZdA (w:=[115,116,111,114,101]) (x:=[e]) (by decide) hl (λa ha=>by rw[Y0g.1 ha];exact he) ho h2
 |fen o ho =>
  intro i r l h
  have e1:stT (.mk 7 [] [] o [] [] []) i++r=[102,101,110,99,101]++(40::(Z5S o++(41::59::r))):=by
   simp only[stT]
   rw[if_neg (by decide),if_neg (by decide)]
   simp[Zc9,Zau]
  have e2:tkS (.mk 7 [] [] o [] [] [])++l=kwW [102,101,110,99,101]::sgW [40]::kwW (Z5S o)::sgW [41]::sgW [59]::l:=by
   simp only[tkS]
   rw[if_neg (by decide),if_neg (by decide)]
   simp[ZmJ,Z8P]
  rw[e1,e2]
  exact Z7I (by decide) (Zu2 _) (lx_s1 (by decide) (Z7I (Zow ho) (ZrI _) (lx_s1 (by decide) (lx_s1 (by decide) h))))
 |bkt k hk e he =>
  intro i r l h
  have h2:=(Zfe he).2 _ _ (ZrI _) (lx_s1 (c:=41) (by decide) (lx_s1 (c:=59) (by decide) h))
  rcases hk with rfl|rfl
  · have e1 : stT (.mk 8 [] [] 0 [e] [] []) i ++ r = [97, 115, 115, 117, 109, 101] ++ (40 :: (wrE e ++ (41 :: 59 :: r))) := by
     simp only[stT]
     rw[if_neg (by decide),if_neg (by decide)]
     simp[Zc9,Zau,hdT]
    have e2:tkS (.mk 8 [] [] 0 [e] [] [])++l=kwW [97,115,115,117,109,101]::sgW [40]::(tkE e++(sgW [41]::sgW [59]::l)):=by
     simp only[tkS]
     rw[if_neg (by decide),if_neg (by decide)]
     simp[ZmJ,Z8P,hdW]
    rw[e1,e2]
    exact Z7I (by decide) (Zu2 _) (lx_s1 (by decide) h2)
  · have e1 : stT (.mk 9 [] [] 0 [e] [] []) i ++ r = [97, 115, 115, 101, 114, 116] ++ (40 :: (wrE e ++ (41 :: 59 :: r))) := by
     simp only[stT]
     rw[if_neg (by decide),if_neg (by decide)]
     simp[Zc9,Zau,hdT]
    have e2:tkS (.mk 9 [] [] 0 [e] [] [])++l=kwW [97,115,115,101,114,116]::sgW [40]::(tkE e++(sgW [41]::sgW [59]::l)):=by
     simp only[tkS]
     rw[if_neg (by decide),if_neg (by decide)]
     simp[ZmJ,Z8P,hdW]
    rw[e1,e2]
    exact Z7I (by decide) (Zu2 _) (lx_s1 (by decide) h2)
 |iff e t els he ht hl iht ihl =>
  intro i r l h
  by_cases h0:els.length=0
  · have e1 : stT (.mk 10 [] [] 0 [e] t els) i ++ r = [105, 102] ++ (32 :: 40 :: (wrE e ++ (41 :: 32 :: (123 :: 10 :: (lnT t (i + 1) ++ (spc i ++ 125 :: r)))))) := by
     simp only[stT]
     rw[if_pos trivial,if_pos h0]
     simp[Zau,hdT]
    have e2:tkS (.mk 10 [] [] 0 [e] t els)++l=kwW [105,102]::sgW [40]::(tkE e++(sgW [41]::(sgW [123]::(tkSL t++(sgW [125]::l))))):=by
     simp only[tkS]
     rw[if_pos trivial,if_pos h0]
     simp[Z8P,hdW]
    rw[e1,e2]
    exact Z7I (by decide) (Zii _) (lx_bl (by decide) (lx_s1 (by decide) ((Zfe he).2 _ _ (ZrI _) (lx_s1 (by decide) (lx_bl (by decide) (Zdz iht i h))))))
  · have e1 : stT (.mk 10 [] [] 0 [e] t els) i ++ r = [105, 102] ++ (32 :: 40 :: (wrE e ++ (41 :: 32 :: (123 :: 10 :: (lnT t (i + 1) ++ (spc i ++ 125 :: (32 :: ([101, 108, 115, 101] ++ (32 :: (123 :: 10 :: (lnT els (i + 1) ++ (spc i ++ 125 :: r)))))))))))) := by
     simp only[stT]
     rw[if_pos trivial,if_neg h0]
     simp[Zau,hdT]
    have e2:tkS (.mk 10 [] [] 0 [e] t els)++l=kwW [105,102]::sgW [40]::(tkE e++(sgW [41]::(sgW [123]::(tkSL t++(sgW [125]::(kwW [101,108,115,101]::(sgW [123]::(tkSL els++(sgW [125]::l))))))))):=by
     simp only[tkS]
     rw[if_pos trivial,if_neg h0]
     simp[Z8P,hdW]
    rw[e1,e2]
    exact Z7I (by decide) (Zii _) (lx_bl (by decide) (lx_s1 (by decide) ((Zfe he).2 _ _ (ZrI _) (lx_s1 (by decide) (lx_bl (by decide) (Zdz iht i (lx_bl (by decide) (Z7I (by decide) (Zii _) (lx_bl (by decide) (Zdz ihl i h))))))))))
 |whl e t he ht iht =>
  intro i r l h
  have e1:stT (.mk 11 [] [] 0 [e] t []) i++r=[119,104,105,108,101]++(32::40::(wrE e++(41::32::(123::10::(lnT t (i+1)++(spc i++125::r)))))):=by
   simp only[stT]
   rw[if_neg (by decide),if_pos trivial]
   simp[Zau,hdT]
  have e2:tkS (.mk 11 [] [] 0 [e] t [])++l=kwW [119,104,105,108,101]::sgW [40]::(tkE e++(sgW [41]::(sgW [123]::(tkSL t++(sgW [125]::l))))):=by
   simp only[tkS]
   rw[if_neg (by decide),if_pos trivial]
   simp[Z8P,hdW]
  rw[e1,e2]
  exact Z7I (by decide) (Zii _) (lx_bl (by decide) (lx_s1 (by decide) ((Zfe he).2 _ _ (ZrI _) (lx_s1 (by decide) (lx_bl (by decide) (Zdz iht i h))))))
end
section
def mv(s:Ps)(n:Nat)(k:Int):Ps:=⟨s.i+n,s.err,s.at_,s.op+k⟩
theorem Z36{s:Ps}{n m:Nat}{k l:Int}(h1:n=m)(h2:k=l):mv s n k=mv s m l:=by rw[h1,h2]
theorem Z1p(s:Ps)(a b:Nat)(k l:Int):mv (mv s a k) b l=mv s (a+b) (k+l):=by
 unfold mv
 simp only[Ps.mk.injEq,true_and]
 constructor<;>omega
theorem Zpa(s:Ps)(n:Nat):adv s n=mv s n 0:=by unfold adv mv;simp
theorem Z1L(s:Ps):Z0g s=mv s 1 0:=by unfold Z0g mv;simp
variable {T:List Tq}
theorem Z0v{i:Nat}{x:Wt}{r:List Wt}(h:(upT T).drop i=x::r):(upT T).drop (i+1)=r:=Z14 (l:=[x]) h
theorem nu{s:Ps}{w:List UInt8}{r:List Wt}(hw:w=[40]\/w=[123])(he:s.err=0)(ho:s.op<200)(hU:(upT T).drop s.i=sgW w::r):Z0z T s w=mv s 1 1 :=
 Zqw hw (by rw[Z0N he hU,Z74];simp) ho
theorem nd{s:Ps}{w:List UInt8}{r:List Wt}(hw:w=[41]\/w=[125])(he:s.err=0)(hU:(upT T).drop s.i=sgW w::r):Z0z T s w=mv s 1 (-1) :=
 (Zjx hw (by rw[Z0N he hU,Z74];simp)).trans (by unfold mv;simp only[Ps.mk.injEq,true_and];omega)
theorem nk{s:Ps}{w:List UInt8}{r:List Wt}(hw:kwB w=true)(he:s.err=0)(hU:(upT T).drop s.i=sgW w::r):Z0z T s w=mv s 1 0 :=
 (Zqy hw (by rw[Z0N he hU,Z74];simp)).trans (Z1L s)
theorem ZsB{w:List UInt8}(hw:w=[41]\/w=[44]\/w=[59])(r:List Wt):zstp 0 (sgW w::r):=by
 intro j h3 h4 p hp x hx
 cases hx
 rw[Z74]
 have hj:j=0\/j=1\/j=2\/j=3\/j=4\/j=5\/j=6\/j=7\/j=8:=by omega
 revert p
 rcases hw with rfl|rfl|rfl
 all_goals rcases hj with rfl|rfl|rfl|rfl|rfl|rfl|rfl|rfl|rfl<;>decide
theorem Zrm{e:Ex}(hx:XRt e){s:Ps}{w:List UInt8}{r:List Wt}(hw:w=[41]\/w=[44]\/w=[59])(he:s.err=0)(hop:s.op+2*(Z0P e:Nat)<=201)(hU:(upT T).drop s.i=tkE e++(sgW w::r)):Z2q T s=(e,mv s (tkE e).length 0):=by
 rw[ZgT hx he hop hU (ZsB hw r),Zpa]
theorem Zlo{e:Ex}(hx:XRt e){s:Ps}{r:List Wt}(he:s.err=0)(hop:s.op+2*(Z0P e:Nat)<=200)(hU:(upT T).drop s.i=sgW [40]::(tkE e++(sgW [41]::r))):Z7X T s=(e,mv s ((tkE e).length+2) 0):=by
 have hd:1<=Z0P e:=by cases e;simp only[Z0P];omega
 have h1:=nu (.inl rfl) he (by omega) hU
 have hU1:=Z0v hU
 have h2:=Zrm (T:=T) (s:=mv s 1 1) hx (.inl rfl) he (by show s.op+1+_<=_;omega) hU1
 have hU2:=Z14 hU1
 have h3:=nd (T:=T) (s:=mv (mv s 1 1) (tkE e).length 0) (.inl rfl) he hU2
 unfold Z7X
 rw[h1,h2]
 simp only
 rw[h3,Z1p,Z1p]
 exact congrArg _ (Z36 (by omega) (by omega))
theorem Z5P(w v:List UInt8):eqW (kwW w) v=(w==v):=by unfold eqW kwW;simp
theorem ZdZ(w v:List UInt8):eqW (wdW w) v=false:=by unfold eqW wdW;simp
theorem ZbE{s:Ps}{w:List UInt8}{r:List Wt}(he:s.err=0)(hU:(upT T).drop s.i=wdW w::r):Z4J T s=w/\Z23 T s=mv s 1 0:=by
 have hn:=Z4X hU
 have hk:(Z15 T s).kind=1:=congrArg Wt.kind hn
 have hv:(Z15 T s).text=w:=congrArg Wt.text hn
 have hb:Z96 T s=true:=by unfold Z96;rw[he,hk];rfl
 unfold Z4J Z23
 rw[hb,hv,if_pos rfl,if_pos rfl]
 exact⟨rfl,Z1L s⟩
theorem Zox{s:Ps}{o:Int}{r:List Wt}(ho:1<=o/\o<=6)(he:s.err=0)(hU:(upT T).drop s.i=kwW (Z5S o)::r):Z0A T s ordL 1=(o,mv s 1 0):=by
 have hi:∀w,isF T s w=(Z5S o==w):=λw=>by rw[Z0N he hU,Z5P]
 have tt:∀w,kwB w=true->(Z5S o==w)=true->Z1l T s w=true/\Z0s T s w=mv s 1 0:=λw hw h=>by
  obtain⟨h1,h2⟩:=Z1f (T:=T) (s:=s) hw
  rw[h1,h2,hi,h,if_pos rfl];exact⟨rfl,Z1L s⟩
 have tf:∀w,kwB w=true->(Z5S o==w)=false->Z1l T s w=false/\Z0s T s w=s:=λw hw h=>by
  obtain⟨h1,h2⟩:=Z1f (T:=T) (s:=s) hw
  rw[h1,h2,hi,h,if_neg (by decide)];exact⟨rfl,rfl⟩
 have st:∀w l k,kwB w=true->(Z5S o==w)=true->Z0A T s (w::l) k=(k,mv s 1 0):=λw l k hw h=>by
  obtain⟨h1,h2⟩:=tt w hw h
  rw[Z0A,h1,h2,if_pos rfl]
 have sf:∀w l k,kwB w=true->(Z5S o==w)=false->Z0A T s (w::l) k=Z0A T s l (k+1):=λw l k hw h=>by
  obtain⟨h1,h2⟩:=tf w hw h
  rw[Z0A,h1,h2,if_neg (by decide)]
 have:o=1\/o=2\/o=3\/o=4\/o=5\/o=6:=by omega
 unfold ordL
 rcases this with rfl|rfl|rfl|rfl|rfl|rfl
 ·rw[st _ _ _ (by decide) (by decide)]
 ·rw[sf _ _ _ (by decide) (by decide),st _ _ _ (by decide) (by decide)];rfl
 ·rw[sf _ _ _ (by decide) (by decide),sf _ _ _ (by decide) (by decide),st _ _ _ (by decide) (by decide)];rfl
 ·rw[sf _ _ _ (by decide) (by decide),sf _ _ _ (by decide) (by decide),sf _ _ _ (by decide) (by decide),st _ _ _ (by decide) (by decide)];rfl
 ·rw[sf _ _ _ (by decide) (by decide),sf _ _ _ (by decide) (by decide),sf _ _ _ (by decide) (by decide),sf _ _ _ (by decide) (by decide),st _ _ _ (by decide) (by decide)];rfl
 ·rw[sf _ _ _ (by decide) (by decide),sf _ _ _ (by decide) (by decide),sf _ _ _ (by decide) (by decide),sf _ _ _ (by decide) (by decide),sf _ _ _ (by decide) (by decide),st _ _ _ (by decide) (by decide)];rfl
theorem Zo5(x:List Ex)(r:List Wt):∃r',Z7d x++(sgW [44]::r)=sgW [44]::r':=by
 cases x with
 |nil=>exact⟨r,rfl⟩
 |cons e x=>exact⟨_,rfl⟩
theorem Zlx:∀(x:List Ex),(∀e∈x,XRt e)->∀{s:Ps}{r:List Wt},s.err=0->s.op+2*(deepL x:Nat)<=201->(upT T).drop s.i=Z7d x++(sgW [44]::r)->Zfq T x.length s=(x,mv s (Z7d x).length 0)
 |[],hx,s,r,he,hop,hU=>by simp only[Zfq,Y0d,Z7d];exact congrArg _ (by unfold mv;simp)
 |e::x,hx,s,r,he,hop,hU=>by
  simp only[deepL]at hop
  simp only[Z7d,Y07,Y06]at hU
  have h1:=nk (by decide) he hU
  have hU1:=Z0v hU
  obtain⟨r',hr'⟩:=Zo5 x r
  have hU1':=hU1
  rw[hr']at hU1'
  have h2:=Zrm (T:=T) (s:=mv s 1 0) (hx e (Y0k ..)) (.inr (.inl rfl)) he (by show s.op+0+_<=_;omega) hU1'
  have h3:=Zlx x (λa ha=>hx a (Y0l _ ha)) (s:=mv (mv s 1 0) (tkE e).length 0) he (by show s.op+0+0+_<=_;omega) (Z14 hU1)
  simp only[Y09,Zfq]
  rw[h1,h2]
  simp only
  rw[h3]
  simp only[Z7d,Y09,Y08]
  rw[Z1p,Z1p]
  exact congrArg _ (Z36 (by omega) (by omega))
theorem Zpb{name loc:List UInt8}{kind o:Int}{x:List Ex}(hx:∀e∈x,XRt e)(ho:1<=o/\o<=6){s:Ps}{r:List Wt}(he:s.err=0)(h199:s.op<200)(hop:s.op+2*(deepL x:Nat)<=200)(hU:(upT T).drop s.i=sgW [40]::wdW loc::(Z7d x++(sgW [44]::kwW (Z5S o)::sgW [41]::r))):Zax T name kind x.length s=(.mk kind name loc o x [] [],mv s ((Z7d x).length+5) 0):=by
 have h1:=nu (.inl rfl) he h199 hU
 have hU1:=Z0v hU
 obtain⟨w1,w2⟩:=ZbE (T:=T) (s:=mv s 1 1) he hU1
 have hU2:=Z0v hU1
 have h3:=Zlx (T:=T) x hx (s:=mv (mv s 1 1) 1 0) he (by show s.op+1+0+_<=_;omega) hU2
 have hU3:=Z14 hU2
 have h4:=nk (T:=T) (s:=mv (mv (mv s 1 1) 1 0) (Z7d x).length 0) (w:=[44]) (by decide) he hU3
 have hU4:=Z0v hU3
 have h5:=Zox (T:=T) (s:=mv (mv (mv (mv s 1 1) 1 0) (Z7d x).length 0) 1 0) ho he hU4
 have hU5:=Z0v hU4
 have h6:=nd (T:=T) (s:=mv (mv (mv (mv (mv s 1 1) 1 0) (Z7d x).length 0) 1 0) 1 0) (w:=[41]) (.inl rfl) he hU5
 unfold Zax
 simp only[h1,w1,w2,h3,h4,h5,h6]
 simp only[Z1p]
 exact congrArg _ (Z36 (by omega) (by omega))
theorem Zmw{n:List UInt8}{e:Ex}(hx:XRt e){s:Ps}{r:List Wt}(he:s.err=0)(hop:s.op+2*(Z0P e:Nat)<=201)(hne:∀w,w∈[Z6b,Zfg,Zfh,Z6a]->∀x,(tkE e).head? = some x->eqW x w=false)(hU:(upT T).drop s.i=wdW n::sgW [61]::(tkE e++(sgW [59]::r))):Z2J T s=(.mk 1 n [] 0 [e] [] [],mv s ((tkE e).length+2) 0):=by
 have hi:∀w,isF T s w=false:=λw=>by rw[Z0N he hU,ZdZ]
 obtain⟨w1,w2⟩:=ZbE (T:=T) he hU
 have hU1:=Z0v hU
 have h2:=nk (T:=T) (s:=mv s 1 0) (w:=[61]) (by decide) he hU1
 have hU2:=Z0v hU1
 have h3:=Zrm (T:=T) (s:=mv (mv s 1 0) 1 0) hx (.inr (.inr rfl)) he (by show s.op+0+0+_<=_;omega) hU2
 have hv:∀w,w∈[Z6b,Zfg,Zfh,Z6a]->isF T (mv (mv s 1 0) 1 0) w=false:=λw hw=>by
  obtain⟨y,l,hy⟩:∃y l,tkE e=y::l:=by
   have:=Z4L hx
   cases ht:tkE e with
   |nil=>rw[ht]at this;simp at this
   |cons y l=>exact⟨y,l,rfl⟩
  have hU3:=hU2
  rw[hy]at hU3
  rw[Z0N (s:=mv (mv s 1 0) 1 0) he hU3]
  exact hne w hw y (by rw[hy];rfl)
 unfold Z2J Zoi
 simp only[hi,Y0r,if_false,w1,w2,h2,hv Z6b (by simp),hv Zfg (by simp),hv Zfh (by simp),hv Z6a (by simp),h3]
 simp only[Z1p]
 exact congrArg _ (Z36 (by omega) (by omega))
theorem Zmz {k o : Int} {n lc : List UInt8} {x : List Ex} (hk : k = 2 /\ x.length = 0 \/ k = 4 /\ x.length = 2 \/ (k = 5 \/ k = 6) /\ x.length = 1) (hx : ∀ e ∈ x, XRt e) (ho : 1 <= o /\ o <= 6) {s : Ps} {r : List Wt} {w : List UInt8} (hw : w = if k = 2 then Z6b else if k = 4 then Zfg else if k = 5 then Zfh else Z6a) (he : s.err = 0) (h199 : s.op < 200) (hop : s.op + 2 * (deepL x : Nat) <= 200)
  (hU:(upT T).drop s.i=wdW n::sgW [61]::kwW w::sgW [40]::wdW lc::(Z7d x++(sgW [44]::kwW (Z5S o)::sgW [41]::r))):Z2J T s=(.mk k n lc o x [] [],mv s ((Z7d x).length+8) 0):=by
 have hi:∀w,isF T s w=false:=λw=>by rw[Z0N he hU,ZdZ]
 obtain⟨w1,w2⟩:=ZbE (T:=T) he hU
 have hU1:=Z0v hU
 have h2:=nk (T:=T) (s:=mv s 1 0) (w:=[61]) (by decide) he hU1
 have hU2:=Z0v hU1
 have hv:∀v,isF T (mv (mv s 1 0) 1 0) v=(w==v):=λv=>by rw[Z0N (s:=mv (mv s 1 0) 1 0) he hU2,Z5P]
 have h3:=Zpb (T:=T) (name:=n) (loc:=lc) (kind:=k) (o:=o) hx ho (s:=mv (mv (mv s 1 0) 1 0) 1 0) (r:=r) he (by show s.op+0+0+0<_;omega) (by show s.op+0+0+0+_<=_;omega) (Z0v hU2)
 unfold Z2J Zoi
 simp only[hi,Y0r,if_false,w1,w2,h2,hv,Z1L]
 rcases hk with ⟨rfl,hl⟩|⟨rfl,hl⟩|⟨rfl|rfl,hl⟩
 all_goals rw[hl]at h3
 · subst hw
   rw[if_pos (by decide),h3,Z1p,Z1p,Z1p]
   exact congrArg _ (Z36 (by omega) (by omega))
 · subst hw
   rw[if_neg (by decide),if_pos (by decide),h3,Z1p,Z1p,Z1p]
   exact congrArg _ (Z36 (by omega) (by omega))
 · subst hw
   rw[if_neg (by decide),if_neg (by decide),if_pos (by decide),h3,Z1p,Z1p,Z1p]
   exact congrArg _ (Z36 (by omega) (by omega))
 · subst hw
   rw[if_neg (by decide),if_neg (by decide),if_neg (by decide),if_pos (by decide),h3,Z1p,Z1p,Z1p]
   exact congrArg _ (Z36 (by omega) (by omega))
theorem Zmv {o : Int} {lc : List UInt8} {e : Ex} (hx : XRt e) (ho : 1 <= o /\ o <= 6) {s : Ps} {r : List Wt} (he : s.err = 0) (h199 : s.op < 200) (hop : s.op + 2 * (Z0P e : Nat) <= 200)
  (hU:(upT T).drop s.i=kwW Z5T::sgW [40]::wdW lc::(Z7d [e]++(sgW [44]::kwW (Z5S o)::sgW [41]::r))):Z2J T s=(.mk 3 [] lc o [e] [] [],mv s ((Z7d [e]).length+6) 0):=by
 have hi:∀v,isF T s v=(Z5T==v):=λv=>by rw[Z0N he hU,Z5P]
 have h3:=Zpb (T:=T) (name:=[]) (loc:=lc) (kind:=3) (o:=o) (x:=[e]) (λa ha=>by rw[Y0g.1 ha];exact hx) ho (s:=mv s 1 0) (r:=r) he (by show s.op+0<200;omega) (by simp only[deepL];show s.op+0+_<=_;omega) (Z0v hU)
 unfold Z2J
 rw[hi,if_pos (by decide),Z1L]
 have h3:Zax T [] 3 1 (mv s 1 0)=_:=h3
 rw[h3,Z1p]
 exact congrArg _ (Z36 (by omega) (by omega))
theorem Zmx{o:Int}(ho:1<=o/\o<=6){s:Ps}{r:List Wt}(he:s.err=0)(h199:s.op<200)(hU:(upT T).drop s.i=kwW Z5U::sgW [40]::kwW (Z5S o)::sgW [41]::r):Z2J T s=(.mk 7 [] [] o [] [] [],mv s 4 0):=by
 have hi:∀v,isF T s v=(Z5U==v):=λv=>by rw[Z0N he hU,Z5P]
 have hU1:=Z0v hU
 have h1:=nu (T:=T) (s:=mv s 1 0) (w:=[40]) (.inl rfl) he (by show s.op+0<200;omega) hU1
 have hU2:=Z0v hU1
 have h2:=Zox (T:=T) (s:=mv (mv s 1 0) 1 1) ho he hU2
 have h3:=nd (T:=T) (s:=mv (mv (mv s 1 0) 1 1) 1 0) (w:=[41]) (.inl rfl) he (Z0v hU2)
 unfold Z2J
 rw[hi,hi,if_neg (by decide),if_pos (by decide),Z1L]
 unfold ZtX
 simp only[h1,h2,h3]
 simp only[Z1p]
 rfl
theorem Zmy{k:Int}(hk:k=8\/k=9){e:Ex}(hx:XRt e){s:Ps}{r:List Wt}{w:List UInt8}(hw:w=if k=8 then Z50 else Z51)(he:s.err=0)(hop:s.op+2*(Z0P e:Nat)<=200)(hU:(upT T).drop s.i=kwW w::sgW [40]::(tkE e++(sgW [41]::r))):Z2J T s=(.mk k [] [] 0 [e] [] [],mv s ((tkE e).length+3) 0):=by
 have hi:∀v,isF T s v=(w==v):=λv=>by rw[Z0N he hU,Z5P]
 have h1:=Zlo (T:=T) (s:=mv s 1 0) hx he (by show s.op+0+_<=_;omega) (Z0v hU)
 unfold Z2J
 rcases hk with rfl|rfl
 · subst hw
   rw[hi,hi,hi,if_neg (by decide),if_neg (by decide),if_pos (by decide),Z1L]
   unfold Zsr
   simp only[h1,Z1p]
   exact congrArg _ (Z36 (by omega) (by omega))
 · subst hw
   rw[hi,hi,hi,hi,if_neg (by decide),if_neg (by decide),if_neg (by decide),if_pos (by decide),Z1L]
   unfold Zsr
   simp only[h1,Z1p]
   exact congrArg _ (Z36 (by omega) (by omega))
structure HdS (y:Wt):Prop where
 kind:y.kind≠5
 brc:eqW y [125]=false
 nil:eqW y []=false
 els:eqW y Z8w=false
theorem ZoR(w:List UInt8):HdS (wdW w):=⟨by show (1:Int)≠5;decide,ZdZ _ _,ZdZ _ _,ZdZ _ _⟩
theorem Zbh{w:List UInt8}(h:(w==[125])=false/\(w==[])=false/\(w==Z8w)=false):HdS (kwW w):=⟨by show (2:Int)≠5;decide,by rw[Z5P];exact h.1,by rw[Z5P];exact h.2.1,by rw[Z5P];exact h.2.2⟩
theorem ZeU{x:St}(hx:XSt x):∃y l,tkS x=y::l/\HdS y:=by
 cases hx with
 |set n e hn he=>exact⟨wdW n,_,by simp only[tkS,Z8P];rw[if_neg (Z3H hn)];rfl,ZoR n⟩
 |acc k n lc o x hk hn hl ho hx=>exact⟨wdW n,_,by simp only[tkS,Z8P];rw[if_neg (Z3H hn)];rfl,ZoR n⟩
 |sto lc o e hl ho he=>exact⟨kwW Z5T,_,by simp only[tkS,Z8P];rw[if_pos trivial,if_neg (by decide),if_neg (by decide)];rfl,Zbh (by decide)⟩
 |fen o ho=>exact⟨kwW Z5U,_,by simp only[tkS,Z8P];rw[if_pos trivial,if_neg (by decide),if_neg (by decide)];rfl,Zbh (by decide)⟩
 |bkt k hk e he =>
  rcases hk with rfl|rfl
  ·exact⟨kwW Z50,_,by simp only[tkS,Z8P];rw[if_pos trivial,if_neg (by decide),if_neg (by decide)];rfl,Zbh (by decide)⟩
  ·exact⟨kwW Z51,_,by simp only[tkS,Z8P];rw[if_pos trivial,if_neg (by decide),if_neg (by decide)];rfl,Zbh (by decide)⟩
 |iff e t l he ht hl=>exact⟨kwW kIf,_,by simp only[tkS,Z8P];rw[if_pos trivial,if_pos trivial];rfl,Zbh (by decide)⟩
 |whl e t he ht=>exact⟨kwW Z8i,_,by simp only[tkS,Z8P];rw[if_pos trivial,if_neg (by decide),if_pos trivial];rfl,Zbh (by decide)⟩
def Zjw(r:List Wt):Prop:=∀x,r.head? = some x->eqW x Z8w=false
def ZsC(w:List UInt8)(r:List Wt):Prop:=∀x,r.head? = some x->x.kind=5\/eqW x w=true
def PS(T:List Tq)(x:St):Prop:=∀(d:Nat)(s:Ps)(r:List Wt),(tkS x).length<=d->s.err=0->s.op+2*(Z1K x:Nat)<=201->(upT T).drop s.i=tkS x++r->Zjw r->Zom T d s=(x,mv s (tkS x).length 0)
theorem ZmW(w:List UInt8)(r:List Wt)(h:(w==Z8w)=false):Zjw (sgW w::r):=λx hx=>by cases hx;rw[Z74];exact h
theorem Zj2{w:List UInt8}(hw:w=[125]\/w=[]):∀(t:List St),(∀x∈t,XSt x/\PS T x)->∀{k d:Nat}{s:Ps}{r:List Wt},t.length<k->(tkSL t).length<=d->s.err=0->s.op+2*(deepSL t:Nat)<=201->(upT T).drop s.i=tkSL t++r->ZsC w r->Zjw r->Z8s T (Zom T d) w k s=(t,mv s (tkSL t).length 0)
 |[],hx,k,d,s,r,hk,hd,he,hop,hU,hst,hno=>by
  have e0:mv s (tkSL []).length 0=s:=by simp only[tkSL];unfold mv;simp
  rw[e0]
  simp only[tkSL,Y0a]at hU
  refine Zgi ?_ k
  rintro⟨h1,h2,h3⟩
  cases r with
  |nil=>exact h3 (Zju hU)
  |cons x r =>
   rcases hst x rfl with h|h
   · have:=Z4X hU
     exact h3 (by rw[<- this]at h;exact h)
   ·rw[Z0N h1 hU,h]at h2;cases h2
 |x::t,hx,k,d,s,r,hk,hd,he,hop,hU,hst,hno=>by
  obtain⟨hx1,hx2⟩:=hx x (Y0k ..)
  obtain⟨y,l,hy,h5,hb,hn,hel⟩:=ZeU hx1
  simp only[tkSL,Y08]at hd
  simp only[tkSL,Y06]at hU
  simp only[deepSL]at hop
  have hno2:Zjw (tkSL t++r):=by
   cases t with
   |nil=>simp only[tkSL,Y0a];exact hno
   |cons z t =>
    obtain⟨y2,l2,hy2,_,_,_,hel2⟩:=ZeU (hx z (Y0l _ (Y0k ..))).1
    simp only[tkSL,hy2,Y07]
    intro x hx
    cases hx
    exact hel2
  have h1:=hx2 d s _ (by omega) he (by omega) hU hno2
  have hU0:=hU
  rw[hy]at hU0
  have hc:s.err=0/\isF T s w=false/\(Z15 T s).kind≠5:=by
   refine⟨he,?_,?_⟩
   · rw[Z0N he hU0]
     rcases hw with rfl|rfl
     ·exact hb
     ·exact hn
   · have hn0:(Z15 T s).w=y:=Z4X hU0
     rw[<- hn0]at h5
     exact h5
  obtain⟨k,rfl⟩:∃k',k=k'+1:=⟨k-1,by omega⟩
  have h2:=Zj2 hw t (λz hz=>hx z (Y0l _ hz)) (k:=k) (d:=d) (s:=mv s (tkS x).length 0) (r:=r) (by simp at hk;omega) (by omega) he (by show s.op+0+_<=_;omega) (Z14 hU) hst hno
  unfold Z8s
  rw[if_pos hc,h1]
  simp only
  rw[h2]
  simp only[tkSL,Y08,Z1p]
  exact congrArg _ (Z36 (by omega) (by omega))
theorem ZbK:∀(t:List St),(∀x∈t,XSt x)->t.length<=(tkSL t).length
 |[],h=>Y0c _
 |x::t,h=>by
  obtain⟨y,l,hy,_⟩:=ZeU (h x (Y0k ..))
  have:=ZbK t (λz hz=>h z (Y0l _ hz))
  simp only[tkSL,hy,Y08,Y09]
  omega
theorem Zhf{t:List St}(hx:∀x∈t,XSt x/\PS T x){d:Nat}{s:Ps}{r:List Wt}(hd:(tkSL t).length<=d)(he:s.err=0)(h199:s.op<200)(hop:s.op+2*(deepSL t:Nat)<=200)(hU:(upT T).drop s.i=sgW [123]::(tkSL t++(sgW [125]::r))):ZrY T (Zom T d) s=(t,mv s ((tkSL t).length+2) 0):=by
 have h1:=nu (.inr rfl) he h199 hU
 have hU1:=Z0v hU
 have hl:=ZbK t (λx h=>(hx x h).1)
 have hl2:=Z76 hU1
 have h2:=Zj2 (T:=T) (w:=[125]) (.inl rfl) t hx (k:=T.length+1) (d:=d) (s:=mv s 1 1) (r:=sgW [125]::r) (by omega) hd he (by show s.op+1+_<=_;omega) hU1 (λx hx=>by cases hx;right;rw[Z74];rfl) (ZmW _ _ (by decide))
 have h3:=nd (T:=T) (s:=mv (mv s 1 1) (tkSL t).length 0) (w:=[125]) (.inr rfl) he (Z14 hU1)
 unfold ZrY
 rw[h1,h2]
 simp only
 rw[h3,Z1p,Z1p]
 exact congrArg _ (Z36 (by omega) (by omega))
theorem Zua(e:Ex)(t els:List St):tkS (.mk 10 [] [] 0 [e] t els)=kwW kIf::sgW [40]::(tkE e++(sgW [41]::sgW [123]::(tkSL t++(sgW [125]::(if els.length=0 then [] else kwW Z8w::sgW [123]::(tkSL els++[sgW [125]])))))):=by
 simp only[tkS,Z8P];rw[if_pos trivial,if_pos trivial];rfl
theorem Zsy(e:Ex)(t:List St):tkS (.mk 11 [] [] 0 [e] t [])=kwW Z8i::sgW [40]::(tkE e++(sgW [41]::sgW [123]::(tkSL t++[sgW [125]]))):=by
 simp only[tkS,Z8P];rw[if_pos trivial,if_neg (by decide),if_pos trivial];rfl
theorem Zmj{e:Ex}(he:XRt e):∀w,w∈[Z6b,Zfg,Zfh,Z6a]->∀x,(tkE e).head? = some x->eqW x w=false:=by
 have sg:∀v w,w∈[Z6b,Zfg,Zfh,Z6a]->v.length<=2->eqW (sgW v) w=false:=λv w hw hv=>by
  rw[Z74,beq_eq_false_iff_ne]
  rintro rfl
  simp only[Y0f,List.mem_nil_iff,or_false]at hw
  rcases hw with rfl|rfl|rfl|rfl<;>simp[Z6b,Zfg,Zfh,Z6a]at hv
 have br:∀(a:Ex)(n:Int),(∀w,w∈[Z6b,Zfg,Zfh,Z6a]->∀x,(tkE a).head? = some x->eqW x w=false)->0<(tkE a).length->∀w,w∈[Z6b,Zfg,Zfh,Z6a]->∀l x,(Z8Z (a.op,tkE a) n++l).head? = some x->eqW x w=false:=λa n h hp w hw l x hx=>by
  unfold Z8Z at hx
  split at hx
  ·cases hx;exact sg _ w hw (by decide)
  · refine h w hw x ?_
    simp only at hx
    cases ht:tkE a with
    |nil=>rw[ht]at hp;simp at hp
    |cons y l=>rw[ht]at hx;exact hx
 induction he with
 |num n h =>
  intro w hw x hx
  simp only[tkE,tkC,if_true]at hx
  cases hx
  rfl
 |reg v h =>
  intro w hw x hx
  simp only[tkE,tkC]at hx
  rw[if_neg (by decide),if_pos trivial]at hx
  cases hx
  exact ZdZ _ _
 |un op h a ha ih =>
  intro w hw x hx
  rw[ZiV h]at hx
  cases hx
  exact sg _ w hw (Zjk op)
 |bin op h1 h2 a b ha hb iha ihb =>
  intro w hw x hx
  rw[ZeO h1]at hx
  exact br a _ iha (Z4L ha) w hw _ x hx
theorem Zou{x:St}(hx:XSt x):PS T x:=by
 induction hx with
 |set n e hn he =>
  intro d s r hd hr hop hU hno
  have dp:Z1K (.mk 1 n [] 0 [e] [] [])=Z0P e+1:=by simp only[Z1K,deepL,deepSL];omega
  have et:tkS (.mk 1 n [] 0 [e] [] [])=wdW n::sgW [61]::(tkE e++[sgW [59]]):=by
   simp only[tkS,Z8P]
   rw[if_neg (Z3H hn),if_neg (by decide),if_neg (by decide)]
   rfl
  rw[dp]at hop
  rw[et]at hd hU⊢
  obtain⟨d,rfl⟩:∃d',d=d'+1:=⟨d-1,by simp at hd;omega⟩
  simp only[Y07,Y06,Y0a]at hU
  have h1:=Zmw he (s:=s) (r:=r) hr (by omega) (Zmj he) hU
  have hU2:(upT T).drop (s.i+((tkE e).length+2))=sgW [59]::r:=by
   have:=Z14 (Z0v (Z0v hU))
   rw[show s.i+((tkE e).length+2)=s.i+1+1+(tkE e).length by omega];exact this
  have h2:=nk (T:=T) (s:=mv s ((tkE e).length+2) 0) (w:=[59]) (by decide) hr hU2
  have hi:∀w,isF T s w=false:=λw=>by rw[Z0N hr hU,ZdZ]
  show Zat T _ _ s=_
  unfold Zat
  rw[hi,hi,if_neg (by decide),if_neg (by decide),h1]
  simp only
  rw[h2,Z1p]
  simp only[Y09,Y08,Y0d]
  exact congrArg _ (Z36 (by omega) (by omega))
 |acc k n lc o x hk hn hl ho hx =>
  intro d s r hd hr hop hU hno
  have dp:Z1K (.mk k n lc o x [] [])=deepL x+1:=by simp only[Z1K,deepSL];omega
  obtain⟨w,hw⟩:∃w,w=if k=2 then Z6b else if k=4 then Zfg else if k=5 then Zfh else Z6a:=⟨_,rfl⟩
  have et:tkS (.mk k n lc o x [] [])=wdW n::sgW [61]::kwW w::sgW [40]::wdW lc::(Z7d x++[sgW [44],kwW (Z5S o),sgW [41],sgW [59]]):=by
   simp only[tkS,Z8P]
   rw[if_neg (Z3H hn),if_neg (by omega),if_neg (by omega),hw]
   have hk:k=2\/k=4\/k=5\/k=6:=by omega
   rcases hk with rfl|rfl|rfl|rfl
   all_goals simp[ZmJ,Zo8,Z6b,Zfg,Zfh,Z6a]
  rw[dp]at hop
  rw[et]at hd hU⊢
  obtain⟨d,rfl⟩:∃d',d=d'+1:=⟨d-1,by simp at hd;omega⟩
  simp only[Y07,Y06,Y0a]at hU
  have h1:=Zmz hk hx ho (s:=s) (r:=sgW [59]::r) hw hr (by omega) (by omega) hU
  have hU2:(upT T).drop (s.i+((Z7d x).length+8))=sgW [59]::r:=by
   have:=Z0v (Z0v (Z0v (Z14 (Z0v (Z0v (Z0v (Z0v (Z0v hU))))))))
   rw[show s.i+((Z7d x).length+8)=s.i+1+1+1+1+1+(Z7d x).length+1+1+1 by omega];exact this
  have h2:=nk (T:=T) (s:=mv s ((Z7d x).length+8) 0) (w:=[59]) (by decide) hr hU2
  have hi:∀w,isF T s w=false:=λw=>by rw[Z0N hr hU,ZdZ]
  show Zat T _ _ s=_
  unfold Zat
  rw[hi,hi,if_neg (by decide),if_neg (by decide),h1]
  simp only
  rw[h2,Z1p]
  simp only[Y09,Y08,Y0d]
  exact congrArg _ (Z36 (by omega) (by omega))
 |sto lc o e hl ho he =>
  intro d s r hd hr hop hU hno
  have dp:Z1K (.mk 3 [] lc o [e] [] [])=Z0P e+1:=by simp only[Z1K,deepL,deepSL];omega
  have et:tkS (.mk 3 [] lc o [e] [] [])=kwW Z5T::sgW [40]::wdW lc::(Z7d [e]++[sgW [44],kwW (Z5S o),sgW [41],sgW [59]]):=by
   simp only[tkS,Z8P]
   rw[if_pos trivial,if_neg (by decide),if_neg (by decide)]
   simp[ZmJ,Zo8,Z5T]
  rw[dp]at hop
  rw[et]at hd hU⊢
  obtain⟨d,rfl⟩:∃d',d=d'+1:=⟨d-1,by simp at hd;omega⟩
  simp only[Y07,Y06,Y0a]at hU
  have h1:=Zmv he ho (s:=s) (lc:=lc) (r:=sgW [59]::r) hr (by omega) (by omega) hU
  have hU2:(upT T).drop (s.i+((Z7d [e]).length+6))=sgW [59]::r:=by
   have:=Z0v (Z0v (Z0v (Z14 (Z0v (Z0v (Z0v hU))))))
   rw[show s.i+((Z7d [e]).length+6)=s.i+1+1+1+(Z7d [e]).length+1+1+1 by omega];exact this
  have h2:=nk (T:=T) (s:=mv s ((Z7d [e]).length+6) 0) (w:=[59]) (by decide) hr hU2
  have hi:∀w,isF T s w=(Z5T==w):=λw=>by rw[Z0N hr hU,Z5P]
  show Zat T _ _ s=_
  unfold Zat
  rw[hi,hi,if_neg (by decide),if_neg (by decide),h1]
  simp only
  rw[h2,Z1p]
  simp only[Y09,Y08,Y0d]
  exact congrArg _ (Z36 (by omega) (by omega))
 |fen o ho =>
  intro d s r hd hr hop hU hno
  have dp:Z1K (.mk 7 [] [] o [] [] [])=1:=by simp only[Z1K,deepL,deepSL];omega
  have et:tkS (.mk 7 [] [] o [] [] [])=[kwW Z5U,sgW [40],kwW (Z5S o),sgW [41],sgW [59]]:=by
   simp only[tkS,Z8P]
   rw[if_pos trivial,if_neg (by decide),if_neg (by decide)]
   simp[ZmJ,Z5U]
  rw[dp]at hop
  rw[et]at hd hU⊢
  obtain⟨d,rfl⟩:∃d',d=d'+1:=⟨d-1,by simp at hd;omega⟩
  simp only[Y07,Y06,Y0a]at hU
  have h1:=Zmx ho (s:=s) (r:=sgW [59]::r) hr (by omega) hU
  have h2:=nk (T:=T) (s:=mv s 4 0) (w:=[59]) (by decide) hr (Z0v (Z0v (Z0v (Z0v hU))))
  have hi:∀w,isF T s w=(Z5U==w):=λw=>by rw[Z0N hr hU,Z5P]
  show Zat T _ _ s=_
  unfold Zat
  rw[hi,hi,if_neg (by decide),if_neg (by decide),h1]
  simp only
  rw[h2,Z1p]
  rfl
 |bkt k hk e he =>
  intro d s r hd hr hop hU hno
  have dp:Z1K (.mk k [] [] 0 [e] [] [])=Z0P e+1:=by simp only[Z1K,deepL,deepSL];omega
  obtain⟨w,hw⟩:∃w,w=if k=8 then Z50 else Z51:=⟨_,rfl⟩
  have et:tkS (.mk k [] [] 0 [e] [] [])=kwW w::sgW [40]::(tkE e++[sgW [41],sgW [59]]):=by
   simp only[tkS,Z8P]
   rw[if_pos trivial,if_neg (by omega),if_neg (by omega),hw]
   rcases hk with rfl|rfl
   all_goals simp[ZmJ,hdW,Z50,Z51]
  have hwn:(w==kIf)=false/\(w==Z8i)=false:=by rcases hk with rfl|rfl<;>subst hw<;>decide
  rw[dp]at hop
  rw[et]at hd hU⊢
  obtain⟨d,rfl⟩:∃d',d=d'+1:=⟨d-1,by simp at hd;omega⟩
  simp only[Y07,Y06,Y0a]at hU
  have h1:=Zmy hk he (s:=s) (r:=sgW [59]::r) hw hr (by omega) hU
  have hU2:(upT T).drop (s.i+((tkE e).length+3))=sgW [59]::r:=by
   have:=Z0v (Z14 (Z0v (Z0v hU)))
   rw[show s.i+((tkE e).length+3)=s.i+1+1+(tkE e).length+1 by omega];exact this
  have h2:=nk (T:=T) (s:=mv s ((tkE e).length+3) 0) (w:=[59]) (by decide) hr hU2
  have hi:∀v,isF T s v=(w==v):=λv=>by rw[Z0N hr hU,Z5P]
  show Zat T _ _ s=_
  unfold Zat
  rw[hi,hi,hwn.1,hwn.2,if_neg (by decide),if_neg (by decide),h1]
  simp only
  rw[h2,Z1p]
  simp only[Y09,Y08,Y0d]
  exact congrArg _ (Z36 (by omega) (by omega))
 |iff e t els he ht hl iht ihl =>
  intro d s r hd hr hop hU hno
  have dp:Z1K (.mk 10 [] [] 0 [e] t els)=max (max (deepSL t) (deepSL els)) (max (Z0P e) 0)+1:=by simp only[Z1K,deepL]
  have hdE:1<=Z0P e:=by cases e;simp only[Z0P];omega
  rw[dp]at hop
  rw[Zua]at hd hU⊢
  obtain⟨d,rfl⟩:∃d',d=d'+1:=⟨d-1,by simp at hd;omega⟩
  simp only[Y07,Y06]at hU
  simp only[Y09,Y08]at hd⊢
  have hi:∀v,isF T s v=(kIf==v):=λv=>by rw[Z0N hr hU,Z5P]
  have hU1:=Z0v hU
  have h1:=Zlo (T:=T) (s:=mv s 1 0) he hr (by show s.op+0+_<=_;omega) hU1
  have hU2:=Z0v (Z14 (Z0v hU1))
  rw[show s.i+1+1+(tkE e).length+1=s.i+1+((tkE e).length+2) by omega]at hU2
  have h2:=Zhf (T:=T) (d:=d) (s:=mv (mv s 1 0) ((tkE e).length+2) 0) (λx h=>⟨ht x h,iht x h⟩) (by omega) hr (by show s.op+0+0<_;omega) (by show s.op+0+0+_<=_;omega) hU2
  have hU3:(upT T).drop (s.i+1+((tkE e).length+2)+((tkSL t).length+2))=(if els.length=0 then [] else kwW Z8w::sgW [123]::(tkSL els++[sgW [125]]))++r:=by
   have:=Z0v (Z14 (Z0v hU2))
   rw[show s.i+1+((tkE e).length+2)+((tkSL t).length+2)=s.i+1+((tkE e).length+2)+1+(tkSL t).length+1 by omega];exact this
  show Zat T _ _ s=_
  unfold Zat
  rw[hi,if_pos (by decide),Z1L]
  unfold Zuy
  rw[h1]
  simp only
  rw[h2]
  simp only
  by_cases h0:els.length=0
  · obtain rfl:=ZaB h0
    rw[if_pos h0]at hU3⊢
    have h3:isF T (mv (mv (mv s 1 0) ((tkE e).length+2) 0) ((tkSL t).length+2) 0) Z8w=false:=ZoN (s:=mv (mv (mv s 1 0) ((tkE e).length+2) 0) ((tkSL t).length+2) 0) hno hU3
    unfold Zru
    rw[h3,if_neg (by decide)]
    simp only[Z1p,Y0d]
    exact congrArg _ (Z36 (by omega) (by omega))
  · rw[if_neg h0]at hU3 hd⊢
    simp only[Y07,Y06,Y0a]at hU3
    simp only[Y09,Y08,Y0d]at hd⊢
    have h3:isF T (mv (mv (mv s 1 0) ((tkE e).length+2) 0) ((tkSL t).length+2) 0) Z8w=true:=by rw[Z0N (s:=mv (mv (mv s 1 0) ((tkE e).length+2) 0) ((tkSL t).length+2) 0) hr hU3,Z5P];rfl
    have hU4:=Z0v hU3
    have h4:isF T (mv (mv (mv (mv s 1 0) ((tkE e).length+2) 0) ((tkSL t).length+2) 0) 1 0) kIf=false:=by rw[Z0N (s:=mv (mv (mv (mv s 1 0) ((tkE e).length+2) 0) ((tkSL t).length+2) 0) 1 0) hr hU4,Z74];rfl
    have h5:=Zhf (T:=T) (d:=d) (s:=mv (mv (mv (mv s 1 0) ((tkE e).length+2) 0) ((tkSL t).length+2) 0) 1 0) (λx h=>⟨hl x h,ihl x h⟩) (by omega) hr (by show s.op+0+0+0+0<_;omega) (by show s.op+0+0+0+0+_<=_;omega) hU4
    unfold Zru
    rw[h3,if_pos rfl,Z1L,h4,if_neg (by decide),h5]
    simp only[Z1p]
    exact congrArg _ (Z36 (by omega) (by omega))
 |whl e t he ht iht =>
  intro d s r hd hr hop hU hno
  have dp:Z1K (.mk 11 [] [] 0 [e] t [])=max (max (deepSL t) 0) (max (Z0P e) 0)+1:=by simp only[Z1K,deepL,deepSL]
  have hdE:1<=Z0P e:=by cases e;simp only[Z0P];omega
  rw[dp]at hop
  rw[Zsy]at hd hU⊢
  obtain⟨d,rfl⟩:∃d',d=d'+1:=⟨d-1,by simp at hd;omega⟩
  simp only[Y07,Y06,Y0a]at hU
  simp only[Y09,Y08,Y0d]at hd⊢
  have hi:∀v,isF T s v=(Z8i==v):=λv=>by rw[Z0N hr hU,Z5P]
  have hU1:=Z0v hU
  have h1:=Zlo (T:=T) (s:=mv s 1 0) he hr (by show s.op+0+_<=_;omega) hU1
  have hU2:=Z0v (Z14 (Z0v hU1))
  rw[show s.i+1+1+(tkE e).length+1=s.i+1+((tkE e).length+2) by omega]at hU2
  have h2:=Zhf (T:=T) (d:=d) (s:=mv (mv s 1 0) ((tkE e).length+2) 0) (λx h=>⟨ht x h,iht x h⟩) (by omega) hr (by show s.op+0+0<_;omega) (by show s.op+0+0+_<=_;omega) hU2
  show Zat T _ _ s=_
  unfold Zat
  rw[hi,hi,if_neg (by decide),if_pos (by decide),Z1L]
  unfold Zu7
  rw[h1]
  simp only
  rw[h2]
  simp only[Z1p]
  exact congrArg _ (Z36 (by omega) (by omega))
end
section
variable {gl:Z0l}
theorem Zkv{T:List Tq}{s:Ps}(hs:PsOK T s)(he:s.err=0)(hk:(Z15 T s).kind=5)(e:Int)(h3:e≠3):MemQ Y00 gl 1 47 [.ptr 0 0,.int .i64 e] (psH T s) (.agg [.int .i64 0,.int .i64 s.at_]) (psH T s):=by
 have hx:=tq4 T s.i hs.lt
 rw[<- Z0X hs.lt]at hx
 have hlt:=hs.lt
 have e3:(e==3)=false:=by simpa using h3
 generalize Z15 T s=t at *
 obtain⟨k,tx,nm,ps⟩:=t
 obtain⟨i,err,at_,op⟩:=s
 simp only at he hk
 subst he hk
 simp only[Tq.cells]at hx hlt⊢
 simp only[psH]
 refine Z1J isQ 3 follows Z05 Z0h Tryz.func47 rfl ?_
 repeat' ((conv=>whnf);first|refine exI hx ?_|(with_reducible refine ixJ i rfl ?_ ?_;focus omega)|refine stp ?_|with_reducible apply Z01<;>intro h)
 all_goals (try (conv=>whnf))
 all_goals exact⟨[0],rfl,⟨hbp,trivial⟩,rfl,Y02 rfl⟩
end
section
def Tk.q(t:Tk):Tq:=⟨(t.kind:Nat),t.text,(t.num:Nat),(t.pos:Nat)⟩
theorem ZiQ:∀l:List Tk,tqC (l.map Tk.q)=Zez l
 |[]=>rfl
 |t::l=>by simp only[List.map_cons,tqC,Zez,ZiQ l];rfl
def Z8H(l:List Tk)(n:Nat):List Tq:=(l++[(⟨5,[],0,n⟩:Tk)]).map Tk.q
def Zie:Wt:=⟨5,[],0⟩
theorem ZiR(l:List Tk)(n:Nat):upT (Z8H l n)=l.map Tk.w++[Zie]:=by
 unfold upT Z8H
 rw[List.map_map,List.map_append]
 rfl
theorem ZeL(l:List Tk)(n:Nat):(Z8H l n).length=l.length+1:=by unfold Z8H;simp
theorem ZgC:∀(n pos:Nat)(s:List UInt8)(l:List Tk),ZlZ n pos s = .inr l->l.length<=n
 |0,pos,s,l,h=>by cases h;exact Y01 _
 |n+1,pos,s,l,h=>by
  unfold ZlZ at h
  split at h
  ·cases h;exact Y0c _
  · split at h
    ·cases h
    · split at h
      ·cases h
      · rename_i l2 h2
        cases h
        have:=ZgC n _ _ _ h2
        simp;omega
def s0:Ps:=⟨0,0,0,0⟩
theorem ZiS{s:List UInt8}{l:List Tk}(h:ZlY s = .inr l)(hs:s.length<=65536):PsOK (Z8H l s.length) s0:=by
 have h1:=ZgC _ _ _ _ h
 have h2:=ZeL l s.length
 refine⟨by show 0<_;omega,by omega,λi hi hk=>?_,by show -((0:Nat):Int)<=0;decide,by show (0:Int)<=200;decide⟩
 by_cases h3:i<l.length
 ·omega
 · exfalso
   have h4:i=l.length:=by omega
   subst h4
   apply hk
   simp[Z8H,Tk.q]
theorem ZeM{s:List UInt8}{l:List Tk}(h:ZlY s = .inr l)(hs:s.length<=65536):Zp9 s = .tuple [.rs (Z8H l s.length).length 4 (tqC (Z8H l s.length)),.agg [.int .i64 0,.int .i64 0]]:=by
 unfold Zp9
 rw[if_neg (by omega),h,ZeL]
 unfold Z8H
 rw[ZiQ]
theorem ZcB{T:List Tq}{s:Ps}(h:(upT T).drop s.i=[Zie]):(Z15 T s).kind=5:=congrArg Wt.kind (Z4X h)
end
section
variable {gl:Z0l}
def ZoC{f:Nat}{A:List AV}{R:AV}(hb:Z09 Y00 f=true)(hr:refsL A []=[])(h:ValOK Y00 gl f A R):Fam Y00 gl:={ I:=Unit,f:=f,G:=λ_=>True,A:=λ_=>A,R:=λ_=>R,body:=hb,inj:=(λ_ _ _ _ _=>rfl),ok:=(λ_ hG=>⟨hr,h⟩) }
end
section
variable {gl:Z0l}
theorem ZmH{T:List Tq}{s:Ps}(i:Nat)(o:AObj)(h:(psH T s)[i]? = some o):Z1a (psH T s).length (Z4d o.body [])=true:=by
 match i,h with
 |0,h=>cases h;rfl
 |i+1,h=>cases h
end
section
variable {gl:Z0l}
theorem ZhQ(l:List UInt8):plain (ZeD l)=true:=by unfold ZeD;split<;>rfl
def G7(f:Nat)(xs:List AV):Option AV:=match f with
 |105=>match xs with|[.str x]=>some (.int .i64 (if keysL.contains x then 2 else 1))|_=>none
 |125=>match xs with|[.str l]=>if Ztv l&&decide (l.length<=65536) then some (ZeD l) else none|_=>none
 |106=>match xs with|[.int .u8 n]=>some (.bool (ZcI n))|_=>none
 |f=>F5 f xs
theorem Zpd{f:Nat}{xs:List AV}{r:AV}(h:G7 f xs=some r):plain r=true/\ValOK Y00 gl f xs r:=by
 unfold G7 at h
 split at h
 · split at h<;>cases h
   exact⟨rfl,ZjT _⟩
 · split at h<;>try (cases h;done)
   split at h<;>cases h
   rename_i hd
   simp only[Y0j,decide_eq_true_eq]at hd
   obtain⟨h1,h2,h3⟩:=ZkD hd.1
   exact⟨ZhQ _,ZmS _ h1 hd.2 h3⟩
 · split at h<;>cases h
   exact⟨rfl,Zs1 _⟩
 ·exact Zpe h
theorem Zd0:Z06 Y00 gl (Z9r G7):=Z1w λf xs r h=>Zpd h
def sgnsL:List (List UInt8):=[[124,124],[38,38],[61,61],[33,61],[60,61],[60],[43],[45],[42],[38],[124],[94],[33],[61],[40],[41],[123],[125],[44],[59]]
def Zbl(t p:List UInt8):Bool:=t.take p.length==p
def Z8t(t:List UInt8)(l:List (List UInt8)):Nat:=match l.find? (Zbl t) with|some p=>p.length|none=>0
theorem Zq2(c:UInt8):Z8t [c] sgnsL=Z12 [c]:=by
 by_cases h1:c=124;· subst h1;decide
 by_cases h2:c=38;· subst h2;decide
 by_cases h3:c=61;· subst h3;decide
 by_cases h4:c=33;· subst h4;decide
 by_cases h5:c=60;· subst h5;decide
 by_cases h6:c=43;· subst h6;decide
 by_cases h7:c=45;· subst h7;decide
 by_cases h8:c=42;· subst h8;decide
 by_cases h9:c=94;· subst h9;decide
 by_cases h10:c=40;· subst h10;decide
 by_cases h11:c=41;· subst h11;decide
 by_cases h12:c=123;· subst h12;decide
 by_cases h13:c=125;· subst h13;decide
 by_cases h14:c=44;· subst h14;decide
 by_cases h15:c=59;· subst h15;decide
 have e:Z8t [c] sgnsL=0:=by simp[Z8t,sgnsL,Zbl, *]
 rw[e];simp[Z12, *]
theorem Zq0(c d:UInt8)(t:List UInt8):Z8t (c::d::t) sgnsL=Z12 (c::d::t):=by
 by_cases k1:d=124<;>by_cases k2:d=38<;>by_cases k3:d=61
 all_goals (try (subst k1);try (subst k2);try (subst k3))
 all_goals (try (exfalso;revert k1;decide))
 all_goals (try (exfalso;revert k2;decide))
 all_goals (try (exfalso;revert k3;decide))
 all_goals (try have b1:(d==124)=false:=beq_eq_false_iff_ne.2 k1)
 all_goals (try have b2:(d==38)=false:=beq_eq_false_iff_ne.2 k2)
 all_goals (try have b3:(d==61)=false:=beq_eq_false_iff_ne.2 k3)
 all_goals (
  by_cases h1:c=124;· subst h1;simp[Z8t,sgnsL,Zbl,Z12,List.find?, *]
  by_cases h2:c=38;· subst h2;simp[Z8t,sgnsL,Zbl,Z12,List.find?, *]
  by_cases h3:c=61;· subst h3;simp[Z8t,sgnsL,Zbl,Z12,List.find?, *]
  by_cases h4:c=33;· subst h4;simp[Z8t,sgnsL,Zbl,Z12,List.find?, *]
  by_cases h5:c=60;· subst h5;simp[Z8t,sgnsL,Zbl,Z12,List.find?, *]
  by_cases h6:c=43;· subst h6;simp[Z8t,sgnsL,Zbl,Z12,List.find?, *]
  by_cases h7:c=45;· subst h7;simp[Z8t,sgnsL,Zbl,Z12,List.find?, *]
  by_cases h8:c=42;· subst h8;simp[Z8t,sgnsL,Zbl,Z12,List.find?, *]
  by_cases h9:c=94;· subst h9;simp[Z8t,sgnsL,Zbl,Z12,List.find?, *]
  by_cases h10:c=40;· subst h10;simp[Z8t,sgnsL,Zbl,Z12,List.find?, *]
  by_cases h11:c=41;· subst h11;simp[Z8t,sgnsL,Zbl,Z12,List.find?, *]
  by_cases h12:c=123;· subst h12;simp[Z8t,sgnsL,Zbl,Z12,List.find?, *]
  by_cases h13:c=125;· subst h13;simp[Z8t,sgnsL,Zbl,Z12,List.find?, *]
  by_cases h14:c=44;· subst h14;simp[Z8t,sgnsL,Zbl,Z12,List.find?, *]
  by_cases h15:c=59;· subst h15;simp[Z8t,sgnsL,Zbl,Z12,List.find?, *]
  simp[Z8t,sgnsL,Zbl,Z12,List.find?, *,beq_eq_false_iff_ne.2 h1,beq_eq_false_iff_ne.2 h2,beq_eq_false_iff_ne.2 h3,beq_eq_false_iff_ne.2 h4,beq_eq_false_iff_ne.2 h5,beq_eq_false_iff_ne.2 h6,beq_eq_false_iff_ne.2 h7,beq_eq_false_iff_ne.2 h8,beq_eq_false_iff_ne.2 h9,beq_eq_false_iff_ne.2 h10,beq_eq_false_iff_ne.2 h11,beq_eq_false_iff_ne.2 h12,beq_eq_false_iff_ne.2 h13,beq_eq_false_iff_ne.2 h14,beq_eq_false_iff_ne.2 h15])
theorem ZsE(t:List UInt8):Z8t t sgnsL=Z12 t:=by
 match t with
 |[]=>decide
 |[c]=>exact Zq2 c
 |c::d::t=>exact Zq0 c d t
def Zvb:Z00:=[⟨true,0,0,.cells [.int .i64 0,.str [],.int .i64 0,.int .i64 0] 82⟩]
def ZsS:AV:=.tuple [.agg [.int .i64 0,.str [],.int .i64 0,.int .i64 0],.bool false]
def Z7E(s:List UInt8)(k:Nat):AV:=match Zaz (s.drop k) with
 |none=>ZsS
 |some (kind,len,num)=>.tuple [.agg [.int .i64 kind,.str ((s.drop k).take len),.int .i64 num,.int .i64 k],.bool true]
theorem Z95{s:List UInt8}{k:Nat}(hk:k<s.length):Z1d (s.drop k)=if Z7m s[k].toNat then Z0t Z4G (s.drop k) else 0:=by
 rw[Y0e hk];rfl
theorem ZmQ{s:List UInt8}{k:Nat}(hs:s.length<=65536)(hk:k<s.length)(hl:Z7m s[k].toNat=true):ValOK Y00 gl 107 [.str s,.int .i64 k] (Z7E s k):=by
 have hx:s[k]? = some s[k]:=by simp[hk]
 have hw:Z1d (s.drop k)=Z0t Z4G (s.drop k):=by rw[Z95 hk,if_pos hl]
 have hw0:0<Z1d (s.drop k):=by rw[hw,Z2x hk];simp[Z4G,hl]
 have ht:Zaz (s.drop k)=some (if keysL.contains ((s.drop k).take (Z1d (s.drop k))) then 2 else 1,Z1d (s.drop k),0):=by unfold Zaz;rw[if_pos hw0]
 refine Z0d follows Z05 Zd0 Tryz.func107 rfl ?_
 repeat' ((conv=>whnf);first|with_reducible refine ixS _ rfl hx ?_|refine stp ?_|with_reducible apply Z01<;>intro h)
 conv=>whnf
 refine⟨Nat,(λe=>e<=s.length/\k<=e/\Z0t Z4G (s.drop k)=(e-k)+Z0t Z4G (s.drop e)),(λe=>[(0,.str s),(1,.int .i64 k),(4,.ptr 0 0),(6,.int .i64 e)]),(λ_=>Zvb),(λe=>s.length-e),⟨k,⟨by omega,by omega,by omega⟩,Y04 [0] rfl ⟨Y02 rfl,Y03 rfl,Y05 rfl rfl,Y03 rfl,trivial⟩ ⟨hbp,trivial⟩ rfl⟩,?_⟩
 intro e ⟨he,hke,hsp⟩
 by_cases hlt:e<s.length
 · have e1:decide ((e:Int)<(s.length:Int))=true:=by simpa using hlt
   have hy:s[e]? = some s[e]:=by simp[hlt]
   have hat:=Z2x (p:=Z4G) hlt
   cases hp:Z4G s[e].toNat with
   |true =>
    rw[hp,if_pos rfl]at hat
    repeat' ((conv=>whnf);first|with_reducible refine ixS _ rfl hy ?_|refine stp ?_|with_reducible apply Z01<;>intro h)
    all_goals (first|(exfalso;simp_all[Z4G];done)|skip)
    all_goals (conv=>whnf)
    all_goals exact⟨e+1,⟨hlt,by omega,by omega⟩,by show s.length-(e+1)<s.length-e;omega,Y04 [0] rfl ⟨Y02 rfl,Y03 rfl,Y05 rfl rfl,Y03 rfl,trivial⟩ ⟨hbp,trivial⟩ rfl⟩
   |false =>
    rw[hp,if_neg (by decide)]at hat
    have hn:e-k=Z1d (s.drop k):=by omega
    repeat' ((conv=>whnf);first|with_reducible refine ixS _ rfl hy ?_|refine stp ?_|with_reducible apply Z01<;>intro h)
    all_goals (first|(exfalso;simp_all[Z4G];done)|skip)
    all_goals (unfold Z7E;rw[ht];simp only[hn];try rfl)
    all_goals (split<;>rfl)
 · have e1:decide ((e:Int)<(s.length:Int))=false:=by simpa using hlt
   have hat:=Z4O (p:=Z4G) hlt
   have hn:e-k=Z1d (s.drop k):=by omega
   repeat' ((conv=>whnf);first|refine stp ?_|with_reducible apply Z01<;>intro h)
   unfold Z7E;rw[ht];simp only[hn];split<;>rfl
def ZvL:Z00:=[⟨true,0,0,.cells [.int .i64 0,.str [],.int .i64 0,.int .i64 0] 82⟩,⟨true,1,0,.cells (sgnsL.map AV.str) 9⟩]
theorem Zfy{c:UInt8}(h:Z2d c.toNat=true)(t:List UInt8):Z12 (c::t)=0:=by
 have hc:48<=c.toNat/\c.toNat<=57:=by simp[Z2d]at h;omega
 have ne:∀d:UInt8,(d.toNat<48\/57<d.toNat)->c≠d:=λd hd e=>by subst e;omega
 have hm:[124,38,61,33,60,43,45,42,94,40,41,123,125,44,59].contains c=false:=by
  rw[Bool.eq_false_iff]
  intro hc
  rw[List.contains_iff_mem]at hc
  simp only[Y0f,List.not_mem_nil,or_false]at hc
  rcases hc with h|h|h|h|h|h|h|h|h|h|h|h|h|h|h<;>exact ne _ (by decide) h
 match t with
 |[]=>simp only[Z12];rw[hm];rfl
 |d::t =>
  simp only[Z12]
  rw[if_neg (by
   rintro (⟨_,h|h|h⟩|⟨_,h|h⟩)<;>exact ne _ (by decide) h),hm];rfl
theorem ZiO(l:List UInt8)(h0:l.head? ≠ some 48)(hd:∀c∈l,Z2d c.toNat=true):∀k,k+1<=l.length->10 ^ k<=Z6u (l.take (k+1))
 |0,h=>by
  cases l with
  |nil=>simp at h
  |cons c t =>
   have h3:=hd c (by simp)
   simp only[Z2d,Y0j,decide_eq_true_eq]at h3
   have h4:c.toNat≠48:=λe=>h0 (by
    have:c=48:=UInt8.toNat_inj.1 e
    subst this;rfl)
   simp[Z6u];omega
 |k+1,h=>by
  have h1:=ZiO l h0 hd k (by omega)
  have h2:=Z98 l (k+1) h
  rw[h2,Nat.pow_succ];omega
theorem Zmg{l:List UInt8}(h0:l.head? ≠ some 48)(hd:∀c∈l,Z2d c.toNat=true)(h:19<l.length):¬Z6u l<9223372036854775808:=by
 have h1:=ZiO l h0 hd (l.length-1) (by omega)
 have e:l.length-1+1=l.length:=by omega
 rw[e,Y0n]at h1
 have h2:10 ^ 19<=10 ^ (l.length-1):=Nat.pow_le_pow_right (by decide) (by omega)
 omega
theorem ZjY{s:List UInt8}{n:Nat}(h:0<n):(s.take n).head? = s.head?:=by
 cases s with
 |nil=>simp
 |cons c t=>cases n with|zero=>omega|succ n=>rfl
def ZeR(s:List UInt8)(n:Nat):Bool:=match s[n]? with|some c=>Z7m c.toNat || c==95|none=>false
theorem Zqt(s:List UInt8):Zfc s=if Z0t Z2d s=0\/(1<Z0t Z2d s/\s.head? = some 48)\/ZeR s (Z0t Z2d s)=true\/¬Z6u (s.take (Z0t Z2d s))<9223372036854775808 then (0,0) else (Z0t Z2d s,Z6u (s.take (Z0t Z2d s))):=rfl
theorem Zqp{s:List UInt8}{k:Nat}(hs:s.length<=65536)(hk:k<s.length)(hl:Z7m s[k].toNat=false)(hd:Z2d s[k].toNat=true):ValOK Y00 gl 107 [.str s,.int .i64 k] (Z7E s k):=by
 have hx:s[k]? = some s[k]:=by simp[hk]
 have hdr:=Y0e hk
 have hw:Z1d (s.drop k)=0:=by rw[Z95 hk,hl];rfl
 have hsg:Z12 (s.drop k)=0:=by rw[hdr];exact Zfy hd _
 have hn0:0<Z0t Z2d (s.drop k):=by rw[Z2x hk,hd,if_pos rfl];omega
 have hle:=Z8N Z2d (s.drop k)
 have hdl:(s.drop k).length=s.length-k:=Y0m
 have hdg:=ZkC (s:=s.drop k) (by omega) hn0
 have htl:((s.drop k).take (Z0t Z2d (s.drop k))).length=Z0t Z2d (s.drop k):=by rw[Y0s];omega
 have hhd:((s.drop k).take (Z0t Z2d (s.drop k))).head? = (s.drop k).head?:=ZjY hn0
 have hne:=Zqt (s.drop k)
 have hy:(s.drop k)[Z0t Z2d (s.drop k)]? = s[k+Z0t Z2d (s.drop k)]?:=by simp
 have e0:G7 125 [.str ((s.drop k).take (Z0t Z2d (s.drop k)))]=some (ZeD ((s.drop k).take (Z0t Z2d (s.drop k)))):=by
  simp only[G7];rw[if_pos];simp only[hdg,Y0o,decide_eq_true_eq];omega
 have hb:Z09 Y00 125=true:=by kernel_rfl
 refine Z0d follows Z05 Zd0 Tryz.func107 rfl ?_
 repeat' ((conv=>whnf);first|with_reducible refine ixS _ rfl hx ?_|refine stp ?_|with_reducible apply Z01<;>intro h)
 conv=>whnf
 refine⟨Nat,(λe=>e<=s.length/\k<=e/\Z0t Z2d (s.drop k)=(e-k)+Z0t Z2d (s.drop e)),(λe=>[(0,.str s),(1,.int .i64 k),(4,.ptr 0 0),(6,.int .i64 e)]),(λ_=>Zvb),(λe=>s.length-e),⟨k,⟨by omega,by omega,by omega⟩,Y04 [0] rfl ⟨Y02 rfl,Y03 rfl,Y05 rfl rfl,Y03 rfl,trivial⟩ ⟨hbp,trivial⟩ rfl⟩,?_⟩
 intro e ⟨he,hke,hsp⟩
 generalize hnn:Z0t Z2d (s.drop k)=n at *
 generalize hxx:(s.drop k).take n=x at *
 have hdx:=ZkD hdg
 have hcs:(∃w,ZeD x = .tuple [.int .i64 w,.bool false]/\Zaz (s.drop k)=none)\/(∃v:Nat,ZeD x = .tuple [.int .i64 v,.bool true]/\Zaz (s.drop k)=if ZeR (s.drop k) n then none else some (3,n,v)):=by
  have t1:(Zfc (s.drop k)).1=0->Zaz (s.drop k)=none:=λh=>by unfold Zaz;rw[if_neg (by omega),if_neg (by omega),if_neg (by omega)]
  by_cases hbad:(1<x.length/\x.head? = some 48)\/19<x.length
  · refine .inl ⟨0,by unfold ZeD;rw[if_pos hbad],t1 ?_⟩
    rw[hne,if_pos]
    by_cases hz:1<x.length/\x.head? = some 48
    ·exact .inr (.inl (by rw[<- htl,<- hhd];exact hz))
    · have h19:19<x.length:=by rcases hbad with h|h;exact absurd h hz;exact h
      exact .inr (.inr (.inr (Zmg (λh=>hz ⟨by omega,h⟩) hdx.2.2 h19)))
  · by_cases hv:Z6u x<9223372036854775808
    · have dv:decide ((Z6u x:Int)<9223372036854775808)=true:=by simp;omega
      refine .inr ⟨Z6u x,by unfold ZeD;rw[if_neg hbad,IntWalk.i64_in _ ⟨by omega,by omega⟩,dv],?_⟩
      by_cases htB:ZeR (s.drop k) n=true
      ·rw[if_pos htB];exact t1 (by rw[hne,if_pos (.inr (.inr (.inl htB)))])
      · rw[if_neg htB]
        have e2:Zfc (s.drop k)=(n,Z6u x):=by
         rw[hne,if_neg]
         rintro (h|h|h|h)
         ·omega
         ·rw[<- htl,<- hhd]at h;exact hbad (.inl h)
         ·exact htB h
         ·exact h hv
        unfold Zaz;rw[if_neg (by omega),e2,if_pos hn0]
    · have dv:decide ((Z6u x:Int)<9223372036854775808)=false:=by simp;omega
      refine .inl ⟨IntKind.i64.wrap (Z6u x),by unfold ZeD;rw[if_neg hbad,dv],t1 (by rw[hne,if_pos (.inr (.inr (.inr hv)))])⟩
 by_cases hlt:e<s.length
 · have e1:decide ((e:Int)<(s.length:Int))=true:=by simpa using hlt
   have hye:s[e]? = some s[e]:=by simp[hlt]
   have hat:=Z2x (p:=Z2d) hlt
   cases hp:Z2d s[e].toNat with
   |true =>
    rw[hp,if_pos rfl]at hat
    clear hcs hy hne hdg e0 hdx hxx htl
    repeat' ((conv=>whnf);first|with_reducible refine ixS _ rfl hye ?_|refine stp ?_|with_reducible apply Z01<;>intro h)
    conv=>whnf
    exact⟨e+1,⟨hlt,by omega,by omega⟩,by show s.length-(e+1)<s.length-e;omega,Y04 [0] rfl ⟨Y02 rfl,Y03 rfl,Y05 rfl rfl,Y03 rfl,trivial⟩ ⟨hbp,trivial⟩ rfl⟩
   |false =>
    rw[hp,if_neg (by decide)]at hat
    have hn:n=e-k:=by omega
    have hke':k+n=e:=by omega
    have hxe:(s.drop k).take (e-k)=x:=by rw[<- hn];exact hxx
    have htl2:ZeR (s.drop k) n=(Z7m s[e].toNat || s[e]==95):=by unfold ZeR;rw[hy,hke',hye]
    have u1:=Zpw s[e] 95 (by decide)
    have e0':G7 125 [.str ((s.drop k).take (e-k))]=some (ZeD x):=by rw[hxe];exact e0
    rcases hcs with ⟨w,h1,h2⟩|⟨v,h1,h2⟩
    · rw[h1]at e0'
      clear hy hne hdg e0 hdx htl htl2 u1 hx
      repeat' ((conv=>whnf);first|with_reducible refine ixS _ rfl hye ?_|with_reducible refine exI (Z2u hb rfl e0') ?_|refine stp ?_|with_reducible apply Z01<;>intro h)
      unfold Z7E;rw[h2];rfl
    · rw[h1]at e0'
      rw[htl2]at h2
      clear hy hne hdg e0 hdx htl htl2 hx
      repeat' ((conv=>whnf);first|with_reducible refine ixS _ rfl hye ?_|with_reducible refine exI (Z2u hb rfl e0') ?_|refine stp ?_|with_reducible apply Z01<;>intro h)
      ·unfold Z7E;rw[h2,if_pos (by simp_all)];rfl
      ·unfold Z7E;rw[h2,if_pos (by simp_all)];rfl
      ·unfold Z7E;rw[h2,if_neg (by simp_all)];simp only[hn];rfl
 · have e1:decide ((e:Int)<(s.length:Int))=false:=by simpa using hlt
   have hat:=Z4O (p:=Z2d) hlt
   have hn:n=e-k:=by omega
   have hxe:(s.drop k).take (e-k)=x:=by rw[<- hn];exact hxx
   have htl2:ZeR (s.drop k) n=false:=by unfold ZeR;rw[hy,Y0q (by omega)]
   have e0':G7 125 [.str ((s.drop k).take (e-k))]=some (ZeD x):=by rw[hxe];exact e0
   rcases hcs with ⟨w,h1,h2⟩|⟨v,h1,h2⟩
   · rw[h1]at e0'
     clear hy hne hdg e0 hdx htl htl2 hx
     repeat' ((conv=>whnf);first|with_reducible refine exI (Z2u hb rfl e0') ?_|refine stp ?_|with_reducible apply Z01<;>intro h)
     unfold Z7E;rw[h2];rfl
   · rw[h1]at e0'
     rw[htl2]at h2
     clear hy hne hdg e0 hdx htl htl2 hx
     repeat' ((conv=>whnf);first|with_reducible refine exI (Z2u hb rfl e0') ?_|refine stp ?_|with_reducible apply Z01<;>intro h)
     unfold Z7E;rw[h2];simp only[hn];rfl
theorem ZmR{s:List UInt8}{k:Nat}(hs:s.length<=65536)(hk:k<s.length)(hl:Z7m s[k].toNat=false)(hd:Z2d s[k].toNat=false):ValOK Y00 gl 107 [.str s,.int .i64 k] (Z7E s k):=by
 have hx:s[k]? = some s[k]:=by simp[hk]
 have hw:Z1d (s.drop k)=0:=by rw[Z95 hk,hl];rfl
 have hn:(Zfc (s.drop k)).1=0:=by unfold Zfc;rw[if_pos];exact .inl (by rw[Z2x hk,hd];rfl)
 have ht:Zaz (s.drop k)=if 0<Z12 (s.drop k) then some (4,Z12 (s.drop k),0) else none:=by unfold Zaz;rw[if_neg (by omega),if_neg (by omega)]
 refine Z3a (λg=>!Nat.beq g 126) 2 follows Z05 Zd0 Tryz.func107 rfl ?_
 repeat' ((conv=>whnf);first|with_reducible refine ixS _ rfl hx ?_|refine stp ?_|with_reducible apply Z01<;>intro h)
 conv=>whnf
 refine⟨Nat,(λi=>i<=20/\Z12 (s.drop k)=Z8t (s.drop k) (sgnsL.drop i)),(λi=>[(0,.str s),(1,.int .i64 k),(4,.ptr 0 0),(9,.slice 1 0 20 20 1),(10,.int .i64 i)]),(λ_=>ZvL),(λi=>20-i),⟨0,⟨by omega,(ZsE _).symm⟩,?_⟩,?_⟩
 · refine Y04 [0,1] rfl ?_ ?_ rfl
   ·exact⟨Y02 rfl,Y03 rfl,Y05 rfl rfl,Y0b rfl rfl rfl (Y01 _) (Y01 _) rfl,Y03 rfl,trivial⟩
   ·exact⟨hbp,hbp,trivial⟩
 intro i ⟨hi,hsg⟩
 by_cases hlt:i<20
 · have e1:decide ((i:Int)<20)=true:=by simp;omega
   have hlk:i<sgnsL.length:=hlt
   have hdr:sgnsL.drop i=sgnsL[i]::sgnsL.drop (i+1):=Y0e hlk
   have hl2:sgnsL[i].length<=2/\0<sgnsL[i].length:=by
    have h:(sgnsL.all λp=>decide (p.length<=2/\0<p.length))=true:=by decide
    simpa using List.all_eq_true.1 h _ (List.getElem_mem hlk)
   have hdl:(s.drop k).length=s.length-k:=Y0m
   have hcell:(sgnsL.map AV.str)[i]? = some (.str sgnsL[i]):=by simp[hlk]
   generalize sgnsL[i]=p at *
   by_cases hfit:Zbl (s.drop k) p=true
   · have hpl : p.length <= s.length - k := by
      have:=congrArg List.length (eq_of_beq hfit)
      rw[Y0s]at this;omega
     have d1:decide ((s.length:Int)-(k:Int) >= (p.length:Int))=true:=by simp;omega
     have d2:(List.take (k+p.length-k) (List.drop k s)==p)=true:=by rw[Nat.add_sub_cancel_left];exact hfit
     have hsn:Z12 (s.drop k)=p.length:=by rw[hsg,hdr,Z8t,List.find?,hfit]
     have htk:(s.drop k).take p.length=p:=eq_of_beq hfit
     repeat' ((conv=>whnf);first|with_reducible refine exI (ZbL (c:=.str p) hcell) ?_|refine exI (ZbL (c:=.str p) (by simpa using hcell)) ?_|refine stp ?_|with_reducible apply Z01<;>intro h)
     unfold Z7E;rw[ht,if_pos (by omega)];simp only[hsn,htk];rfl
   · have d2:(List.take (k+p.length-k) (List.drop k s)==p)=false:=by rw[Nat.add_sub_cancel_left];simpa[Zbl]using hfit
     have hsn:Z12 (s.drop k)=Z8t (s.drop k) (sgnsL.drop (i+1)):=by rw[hsg,hdr,Z8t,List.find?,Bool.eq_false_iff.2 hfit];rfl
     by_cases hpl:p.length<=s.length-k
     · have d1:decide ((s.length:Int)-(k:Int) >= (p.length:Int))=true:=by simp;omega
       repeat' ((conv=>whnf);first|refine exI (ZbL (c:=.str p) (by simpa using hcell)) ?_|refine stp ?_|with_reducible apply Z01<;>intro h)
       conv=>whnf
       exact⟨i+1,⟨hlt,hsn⟩,by show 20-(i+1)<20-i;omega,Y04 [0,1] rfl ⟨Y02 rfl,Y03 rfl,Y05 rfl rfl,Y0b rfl rfl rfl (Y01 _) (Y01 _) rfl,Y03 rfl,trivial⟩ ⟨hbp,hbp,trivial⟩ rfl⟩
     · have d1:decide ((s.length:Int)-(k:Int) >= (p.length:Int))=false:=by simp;omega
       repeat' ((conv=>whnf);first|refine exI (ZbL (c:=.str p) (by simpa using hcell)) ?_|refine stp ?_|with_reducible apply Z01<;>intro h)
       conv=>whnf
       exact⟨i+1,⟨hlt,hsn⟩,by show 20-(i+1)<20-i;omega,Y04 [0,1] rfl ⟨Y02 rfl,Y03 rfl,Y05 rfl rfl,Y0b rfl rfl rfl (Y01 _) (Y01 _) rfl,Y03 rfl,trivial⟩ ⟨hbp,hbp,trivial⟩ rfl⟩
 · have e1:decide ((i:Int)<20)=false:=by simp;omega
   have hi':i=20:=by omega
   subst hi'
   have h0:Z12 (s.drop k)=0:=hsg
   repeat' ((conv=>whnf);first|refine stp ?_|with_reducible apply Z01<;>intro h)
   unfold Z7E;rw[ht,if_neg (by omega)];rfl
end
section
variable {gl:Z0l}
theorem ZhP(s:List UInt8)(k:Nat):plain (Z7E s k)=true:=by unfold Z7E;split<;>rfl
theorem ZsQ{s:List UInt8}{k:Nat}(hs:s.length<=65536)(hk:k<s.length):ValOK Y00 gl 107 [.str s,.int .i64 k] (Z7E s k):=by
 cases hl:Z7m s[k].toNat with
 |true=>exact ZmQ hs hk hl
 |false=>cases hd:Z2d s[k].toNat with
  |true=>exact Zqp hs hk hl hd
  |false=>exact ZmR hs hk hl hd
def G8(f:Nat)(xs:List AV):Option AV:=match f with
 |107=>match xs with|[.str s,.int .i64 (.ofNat k)]=>if s.length<=65536/\k<s.length then some (Z7E s k) else none|_=>none
 |f=>G7 f xs
theorem ZtN{f:Nat}{xs:List AV}{r:AV}(h:G8 f xs=some r):plain r=true/\ValOK Y00 gl f xs r:=by
 unfold G8 at h
 split at h<;>try (exact Zpd h)
 split at h<;>try (cases h;done)
 split at h<;>cases h
 rename_i hd
 exact⟨ZhP _ _,ZsQ hd.1 hd.2⟩
theorem Zhv:Z06 Y00 gl (Z9r G8):=Z1w λf xs r h=>ZtN h
def lexAt(n k:Nat)(s:List UInt8):Nat ⊕ List Tk:=ZlZ n (k+skip false (s.drop k)) (s.drop (k+skip false (s.drop k)))
theorem ZjR{n k:Nat}{s:List UInt8}(hk:k<s.length)(h:ZcI s[k].toNat=true):lexAt n k s=lexAt n (k+1) s:=by
 have:skip false (s.drop k)=skip false (s.drop (k+1))+1:=by rw[Y0e hk];simp only[skip];rw[if_pos h]
 unfold lexAt;rw[this]
 have e:k+(skip false (s.drop (k+1))+1)=k+1+skip false (s.drop (k+1)):=by omega
 rw[e]
theorem ZeW{k:Nat}{s:List UInt8}(hk:k+1<s.length)(h1:s[k]=47)(h2:s[k+1]=47):skip false (s.drop k)=skip true (s.drop k):=by
 rw[Y0e (by omega:k<s.length)]
 have hb:ZcI ((47:UInt8).toNat:Int)=false:=by decide
 have hh:(s.drop (k+1)).head? = some 47:=by rw[Y0e hk,h2];rfl
 simp only[skip,h1,hb,hh]
 rw[if_neg (by decide),if_pos (by simp),if_neg (by decide)]
theorem ZjP{n k:Nat}{s:List UInt8}(hk:k+1<s.length)(h1:s[k]=47)(h2:s[k+1]=47):lexAt n k s=lexAt n (k+Z0t (· != 10) (s.drop k)) s:=by
 have e1:=ZeW hk h1 h2
 have e2:=Zgm (s.drop k)
 rw[List.drop_drop]at e2
 unfold lexAt;rw[e1,e2,<- Nat.add_assoc]
theorem Zjf{k:Nat}{s:List UInt8}(hk:k<s.length)(hb:ZcI s[k].toNat=false)(h:¬(s[k]=47/\s[k+1]? = some 47)):skip false (s.drop k)=0:=by
 rw[Y0e hk]
 have hh:(s.drop (k+1)).head? = s[k+1]?:=by simp[List.head?_drop]
 simp only[skip,hb,hh]
 rw[if_neg (by decide),if_neg h]
theorem ZjO {n k : Nat} {s : List UInt8} (hk : k < s.length) (hb : ZcI s[k].toNat = false) (h : ¬ (s[k] = 47 /\ s[k + 1]? = some 47)) :
  lexAt (n+1) k s=match Zaz (s.drop k) with
   |none=>.inl k
   |some (kind,len,num)=>match lexAt n (k+len) s with
    | .inl e=>.inl e
    | .inr l=>.inr (⟨kind,(s.drop k).take len,num,k⟩::l):=by
 have h0:=Zjf hk hb h
 have hne:¬s.drop k=[]:=by intro e;have:=congrArg List.length e;simp at this;omega
 unfold lexAt
 rw[h0]
 simp only[Nat.add_zero]
 rw[ZlZ,if_neg hne]
 cases Zaz (s.drop k) with
 |none=>rfl
 |some p=>obtain⟨a,b,c⟩:=p;simp only[List.drop_drop];rw[<- Nat.add_assoc];rfl
theorem ZjQ{n k:Nat}{s:List UInt8}(hk:s.length<=k):lexAt (n+1) k s = .inr []:=by
 have:s.drop k=[]:=Y0p hk
 have h2:s.drop (k+skip false (s.drop k))=[]:=Y0p (by omega)
 unfold lexAt;rw[ZlZ,if_pos h2]
theorem Zi2(s:List UInt8):ZlY s=lexAt (s.length+1) 0 s:=by unfold ZlY lexAt;simp only[List.drop_zero,Nat.zero_add]
theorem Zmi{t:List UInt8}{kd len num:Nat}(h:Zaz t=some (kd,len,num)):0<len/\len<=t.length:=by
 unfold Zaz at h
 split at h
 ·cases h;rename_i h0;exact⟨h0,Zm5 _⟩
 · split at h
   ·cases h;rename_i h0;exact⟨h0,Zqs _⟩
   · split at h
     ·cases h;rename_i h0;exact⟨h0,ZmC _⟩
     ·cases h
attribute [local irreducible] Zfc Z1d Z12 skip Z0t
theorem Zaj(s:List UInt8)(hs:s.length<=65536):ValOK Y00 gl 77 [.str s] (Zp9 s):=by
 have e0:decide ((s.length:Int)>65536)=false:=by simp;omega
 refine Z0d follows Z05 Zhv Tryz.func77 rfl ?_
 repeat' ((conv=>whnf);first|refine stp ?_|with_reducible apply Z01<;>intro h)
 conv=>whnf
 refine⟨Nat×Nat×List Tk,(λp=>p.1<=s.length/\s.length<p.1+p.2.1/\ZlY s=Zfi p.2.2 (lexAt p.2.1 p.1 s)/\p.2.2.length<=p.1),(λp=>[(0,.str s),(3,.ptr 0 0),(4,match p.2.2 with|[]=>.nslice|_::_=>.slice 1 0 p.2.2.length p.2.2.length 4),(5,.int .i64 p.1)]),
  (λp=>⟨true,0,0,.cells [.int .i64 0,.int .i64 0] 37⟩::match p.2.2 with|[]=>[]|_::_=>[⟨true,1,0,.cells (Zez p.2.2) 82⟩]),(λp=>s.length-p.1),⟨(0,s.length+1,[]),?_,?_⟩,?_⟩
 ·exact⟨Y0c _,by show s.length<0+(s.length+1);omega,((ZjW _).trans (Zi2 s).symm).symm,Y0c _⟩
 · refine Y04 [0] rfl ?_ ?_ rfl
   ·exact⟨Y02 rfl,Y05 rfl rfl,Y02 rfl,Y03 rfl,trivial⟩
   ·exact⟨hbp,trivial⟩
 · rintro⟨k,n,acc⟩ ⟨h1,h2,h3,h4⟩
   dsimp only at h1 h2 h3 h4
   by_cases hk:k<s.length
   · have e1:decide ((k:Int)<(s.length:Int))=true:=by simpa using hk
     have hx:s[k]? = some s[k]:=by simp[hk]
     cases hb:ZcI s[k].toNat with
     |true =>
      have h5:=ZjR (n:=n) hk hb
      cases acc with
      |nil =>
       dsimp only
       repeat' ((conv=>whnf);first|with_reducible refine ixS _ rfl hx ?_|refine stp ?_|with_reducible apply Z01<;>intro h)
       conv=>whnf
       refine⟨(k+1,n,[]),⟨hk,by show s.length<k+1+n;omega,h3.trans (by rw[h5]),Y0c _⟩,by show s.length-(k+1)<s.length-k;omega,Y04 [0] rfl ⟨Y02 rfl,Y05 rfl rfl,Y02 rfl,Y03 rfl,trivial⟩ ⟨hbp,trivial⟩ rfl⟩
      |cons a acc =>
       dsimp only
       repeat' ((conv=>whnf);first|with_reducible refine ixS _ rfl hx ?_|refine stp ?_|with_reducible apply Z01<;>intro h)
       conv=>whnf
       refine⟨(k+1,n,a::acc),⟨hk,by show s.length<k+1+n;omega,h3.trans (by rw[h5]),by show (a::acc).length<=k+1;omega⟩,by show s.length-(k+1)<s.length-k;omega,Y04 [0,1] rfl ⟨Y02 rfl,Y05 rfl rfl,Y0b rfl rfl rfl (Y01 _) (Y01 _) rfl,Y03 rfl,trivial⟩ ⟨hbp,⟨rfl,rfl,rfl,rfl,Y0h (rest:=[]) (Y0i _).symm (Z27 _)⟩,trivial⟩ rfl⟩
     |false =>
      by_cases hr:s[k]=47/\s[k+1]? = some 47
      ·
       obtain⟨r1,r2⟩:=hr
       have hk1:k+1<s.length:=by
        refine Classical.byContradiction λh=>?_
        rw[Y0q (by omega)]at r2;cases r2
       have r3:s[k+1]=47:=by have:=List.getElem?_eq_getElem hk1;rw[this]at r2;exact Option.some.inj r2
       have e2:decide (((k+1:Nat):Int)<(s.length:Int))=true:=by simp;omega
       have hx1:s[k+1]? = some s[k+1]:=by simp[hk1]
       have h5:=ZjP (n:=n) hk1 r1 r3
       have q1:((s[k].toNat:Int)==47)=true:=by rw[r1];rfl
       have q2:((s[k+1].toNat:Int)==47)=true:=by rw[r3];rfl
       have hpos:0<Z0t (· != 10) (s.drop k):=by rw[Z2x hk,r1,if_pos (by decide)];omega
       cases acc with
       |nil =>
        dsimp only
        repeat' ((conv=>whnf);first|with_reducible refine ixS _ rfl hx ?_|with_reducible refine ixS _ rfl hx1 ?_|refine stp ?_|with_reducible apply Z01<;>intro h)
        conv=>whnf
        refine⟨Nat,(λe=>e<=s.length/\k<=e/\Z0t (· != 10) (s.drop k)=(e-k)+Z0t (· != 10) (s.drop e)),(λe=>[(0,.str s),(3,.ptr 0 0),(4,.nslice),(5,.int .i64 e)]),(λ_=>[⟨true,0,0,.cells [.int .i64 0,.int .i64 0] 37⟩]),(λe=>s.length-e),⟨k,⟨by omega,by omega,by omega⟩,Y04 [0] rfl ⟨Y02 rfl,Y05 rfl rfl,Y02 rfl,Y03 rfl,trivial⟩ ⟨hbp,trivial⟩ rfl⟩,?_⟩
        intro e ⟨he,hke,hsp⟩
        by_cases hlt:e<s.length
        · have f1:decide ((e:Int)<(s.length:Int))=true:=by simpa using hlt
          have hye:s[e]? = some s[e]:=by simp[hlt]
          have hat:=Z2x (p:=(· != 10)) hlt
          cases hp:((s[e].toNat:Int) != 10) with
          |true =>
           rw[hp,if_pos rfl]at hat
           repeat' ((conv=>whnf);first|with_reducible refine ixS _ rfl hye ?_|refine stp ?_|with_reducible apply Z01<;>intro h)
           conv=>whnf
           exact⟨e+1,⟨hlt,by omega,by omega⟩,by show s.length-(e+1)<s.length-e;omega,Y04 [0] rfl ⟨Y02 rfl,Y05 rfl rfl,Y02 rfl,Y03 rfl,trivial⟩ ⟨hbp,trivial⟩ rfl⟩
          |false =>
           rw[hp,if_neg (by decide)]at hat
           have h6:k+Z0t (· != 10) (s.drop k)=e:=by omega
           rw[h6]at h5
           repeat' ((conv=>whnf);first|with_reducible refine ixS _ rfl hye ?_|refine stp ?_|with_reducible apply Z01<;>intro h)
           conv=>whnf
           exact⟨(e,n,[]),⟨he,by show s.length<e+n;omega,h3.trans (by rw[h5]),by show List.length []<=e;omega⟩,by show s.length-e<s.length-k;omega,Y04 [0] rfl ⟨Y02 rfl,Y05 rfl rfl,Y02 rfl,Y03 rfl,trivial⟩ ⟨hbp,trivial⟩ rfl⟩
        · have f1:decide ((e:Int)<(s.length:Int))=false:=by simpa using hlt
          have hat:=Z4O (p:=(· != 10)) hlt
          have h6:k+Z0t (· != 10) (s.drop k)=e:=by omega
          rw[h6]at h5
          repeat' ((conv=>whnf);(first|refine stp ?_|with_reducible apply Z01<;>intro h))
          conv=>whnf
          exact⟨(e,n,[]),⟨he,by show s.length<e+n;omega,h3.trans (by rw[h5]),by show List.length []<=e;omega⟩,by show s.length-e<s.length-k;omega,Y04 [0] rfl ⟨Y02 rfl,Y05 rfl rfl,Y02 rfl,Y03 rfl,trivial⟩ ⟨hbp,trivial⟩ rfl⟩
       |cons a acc =>
        dsimp only
        repeat' ((conv=>whnf);first|with_reducible refine ixS _ rfl hx ?_|with_reducible refine ixS _ rfl hx1 ?_|refine stp ?_|with_reducible apply Z01<;>intro h)
        conv=>whnf
        refine⟨Nat,(λe=>e<=s.length/\k<=e/\Z0t (· != 10) (s.drop k)=(e-k)+Z0t (· != 10) (s.drop e)),(λe=>[(0,.str s),(3,.ptr 0 0),(4,.slice 1 0 (a::acc).length (a::acc).length 4),(5,.int .i64 e)]),(λ_=>[⟨true,0,0,.cells [.int .i64 0,.int .i64 0] 37⟩,⟨true,1,0,.cells (Zez (a::acc)) 82⟩]),(λe=>s.length-e),⟨k,⟨by omega,by omega,by omega⟩,Y04 [0,1] rfl ⟨Y02 rfl,Y05 rfl rfl,Y0b rfl rfl rfl (Y01 _) (Y01 _) rfl,Y03 rfl,trivial⟩ ⟨hbp,⟨rfl,rfl,rfl,rfl,Y0h (rest:=[]) (Y0i _).symm (Z27 _)⟩,trivial⟩ rfl⟩,?_⟩
        intro e ⟨he,hke,hsp⟩
        by_cases hlt:e<s.length
        · have f1:decide ((e:Int)<(s.length:Int))=true:=by simpa using hlt
          have hye:s[e]? = some s[e]:=by simp[hlt]
          have hat:=Z2x (p:=(· != 10)) hlt
          cases hp:((s[e].toNat:Int) != 10) with
          |true =>
           rw[hp,if_pos rfl]at hat
           repeat' ((conv=>whnf);first|with_reducible refine ixS _ rfl hye ?_|refine stp ?_|with_reducible apply Z01<;>intro h)
           conv=>whnf
           exact⟨e+1,⟨hlt,by omega,by omega⟩,by show s.length-(e+1)<s.length-e;omega,Y04 [0,1] rfl ⟨Y02 rfl,Y05 rfl rfl,Y0b rfl rfl rfl (Y01 _) (Y01 _) rfl,Y03 rfl,trivial⟩ ⟨hbp,⟨rfl,rfl,rfl,rfl,Y0h (rest:=[]) (Y0i _).symm (Z27 _)⟩,trivial⟩ rfl⟩
          |false =>
           rw[hp,if_neg (by decide)]at hat
           have h6:k+Z0t (· != 10) (s.drop k)=e:=by omega
           rw[h6]at h5
           repeat' ((conv=>whnf);first|with_reducible refine ixS _ rfl hye ?_|refine stp ?_|with_reducible apply Z01<;>intro h)
           conv=>whnf
           exact⟨(e,n,(a::acc)),⟨he,by show s.length<e+n;omega,h3.trans (by rw[h5]),by show List.length (a::acc)<=e;omega⟩,by show s.length-e<s.length-k;omega,Y04 [0,1] rfl ⟨Y02 rfl,Y05 rfl rfl,Y0b rfl rfl rfl (Y01 _) (Y01 _) rfl,Y03 rfl,trivial⟩ ⟨hbp,⟨rfl,rfl,rfl,rfl,Y0h (rest:=[]) (Y0i _).symm (Z27 _)⟩,trivial⟩ rfl⟩
        · have f1:decide ((e:Int)<(s.length:Int))=false:=by simpa using hlt
          have hat:=Z4O (p:=(· != 10)) hlt
          have h6:k+Z0t (· != 10) (s.drop k)=e:=by omega
          rw[h6]at h5
          repeat' ((conv=>whnf);(first|refine stp ?_|with_reducible apply Z01<;>intro h))
          conv=>whnf
          exact⟨(e,n,(a::acc)),⟨he,by show s.length<e+n;omega,h3.trans (by rw[h5]),by show List.length (a::acc)<=e;omega⟩,by show s.length-e<s.length-k;omega,Y04 [0,1] rfl ⟨Y02 rfl,Y05 rfl rfl,Y0b rfl rfl rfl (Y01 _) (Y01 _) rfl,Y03 rfl,trivial⟩ ⟨hbp,⟨rfl,rfl,rfl,rfl,Y0h (rest:=[]) (Y0i _).symm (Z27 _)⟩,trivial⟩ rfl⟩
      · have e2 : G8 107 [.str s, .int .i64 k] = some (Z7E s k) := by
         show (if s.length<=65536/\k<s.length then some (Z7E s k) else none)=_
         rw[if_pos ⟨hs,hk⟩]
        have hb21:Z09 Y00 107=true:=by kernel_rfl
        obtain⟨n,rfl⟩:∃m,n=m+1:=⟨n-1,by omega⟩
        have h5:=ZjO (n:=n) hk hb hr
        cases htk:Zaz (s.drop k) with
        |none =>
         rw[htk]at h5
         have e3:Z7E s k=ZsS:=by unfold Z7E;rw[htk]
         rw[e3]at e2
         have e9:ZlY s = .inl k:=by rw[h3,h5];rfl
         have eR:Zp9 s = .tuple [.nslice,.agg [.int .i64 4,.int .i64 k]]:=by unfold Zp9;rw[if_neg (by omega),e9]
         rw[eR]
         clear h3 h5 htk e9 eR
         by_cases h47:s[k]=47
         · have q1:((s[k].toNat:Int)==47)=true:=by rw[h47];rfl
           by_cases hk1:k+1<s.length
           · have f2:decide (((k+1:Nat):Int)<(s.length:Int))=true:=by simp;omega
             have hx1:s[k+1]? = some s[k+1]:=by simp[hk1]
             have q2:((s[k+1].toNat:Int)==47)=false:=by
              refine beq_eq_false_iff_ne.2 λe=>hr ⟨h47,by rw[hx1];congr 1;apply UInt8.toNat_inj.1;simp;omega⟩
             cases acc with
             |nil =>
              dsimp only
              repeat' ((conv=>whnf);first|with_reducible refine ixS _ rfl hx ?_|with_reducible refine ixS _ rfl hx1 ?_|with_reducible refine exI (Z2u hb21 rfl e2) ?_|refine stp ?_|with_reducible apply Z01<;>intro h)
              rfl
             |cons a acc =>
              dsimp only
              repeat' ((conv=>whnf);first|with_reducible refine ixS _ rfl hx ?_|with_reducible refine ixS _ rfl hx1 ?_|with_reducible refine exI (Z2u hb21 rfl e2) ?_|refine stp ?_|with_reducible apply Z01<;>intro h)
              rfl
           · have f2:decide (((k+1:Nat):Int)<(s.length:Int))=false:=by simp;omega
             cases acc with
             |nil =>
              dsimp only
              repeat' ((conv=>whnf);first|with_reducible refine ixS _ rfl hx ?_|with_reducible refine exI (Z2u hb21 rfl e2) ?_|refine stp ?_|with_reducible apply Z01<;>intro h)
              rfl
             |cons a acc =>
              dsimp only
              repeat' ((conv=>whnf);first|with_reducible refine ixS _ rfl hx ?_|with_reducible refine exI (Z2u hb21 rfl e2) ?_|refine stp ?_|with_reducible apply Z01<;>intro h)
              rfl
         · have q1:((s[k].toNat:Int)==47)=false:=beq_eq_false_iff_ne.2 λe=>h47 (by apply UInt8.toNat_inj.1;simp;omega)
           cases acc with
           |nil =>
            dsimp only
            repeat' ((conv=>whnf);first|with_reducible refine ixS _ rfl hx ?_|with_reducible refine exI (Z2u hb21 rfl e2) ?_|refine stp ?_|with_reducible apply Z01<;>intro h)
            rfl
           |cons a acc =>
            dsimp only
            repeat' ((conv=>whnf);first|with_reducible refine ixS _ rfl hx ?_|with_reducible refine exI (Z2u hb21 rfl e2) ?_|refine stp ?_|with_reducible apply Z01<;>intro h)
            rfl
        |some tk =>
         obtain⟨kd,len,num⟩:=tk
         rw[htk]at h5
         have e3:Z7E s k = .tuple [.agg [.int .i64 kd,.str ((s.drop k).take len),.int .i64 num,.int .i64 k],.bool true]:=by unfold Z7E;rw[htk]
         rw[e3]at e2
         have hl:=Zmi htk
         rw[Y0m]at hl
         have tl:((s.drop k).take len).length=len:=by rw[Y0s,Y0m];omega
         have h6:ZlY s=Zfi (acc++[⟨kd,(s.drop k).take len,num,k⟩]) (lexAt n (k+len) s):=by rw[h3,h5];exact Zi6 _ _ _
         clear h3 h5 htk
         by_cases h47:s[k]=47
         · have q1:((s[k].toNat:Int)==47)=true:=by rw[h47];rfl
           by_cases hk1:k+1<s.length
           · have f2:decide (((k+1:Nat):Int)<(s.length:Int))=true:=by simp;omega
             have hx1:s[k+1]? = some s[k+1]:=by simp[hk1]
             have q2:((s[k+1].toNat:Int)==47)=false:=by
              refine beq_eq_false_iff_ne.2 λe=>hr ⟨h47,by rw[hx1];congr 1;apply UInt8.toNat_inj.1;simp;omega⟩
             cases acc with
             |nil =>
              dsimp only
              repeat' ((conv=>whnf);first|with_reducible refine ixS _ rfl hx ?_|with_reducible refine ixS _ rfl hx1 ?_|with_reducible refine exI (Z2u hb21 rfl e2) ?_|refine stp ?_|with_reducible apply Z01<;>intro h)
              conv=>whnf
              exact⟨(k+len,n,[⟨kd,(s.drop k).take len,num,k⟩]),⟨by show k+len<=s.length;omega,by show s.length<k+len+n;omega,h6,by show 1<=k+len;omega⟩,by show s.length-(k+len)<s.length-k;omega,Y04 [0,3] rfl ⟨Y02 rfl,Y05 rfl rfl,Y0b rfl rfl rfl (Y01 _) (Y01 _) rfl,Y03 (by rw[tl]),trivial⟩ ⟨hbp,hbp,trivial⟩ rfl⟩
             |cons a acc =>
              dsimp only
              repeat' ((conv=>whnf);first|with_reducible refine ixS _ rfl hx ?_|with_reducible refine ixS _ rfl hx1 ?_|with_reducible refine exI (Z2u hb21 rfl e2) ?_|refine stp ?_|with_reducible apply Z01<;>intro h)
              conv=>whnf
              refine exI (Zhk aT (xs:=[.int .i64 kd,.str ((s.drop k).take len),.int .i64 num,.int .i64 k]) rfl rfl rfl (Z5p _) rfl (by decide) ⟨by simp at h4⊢;omega,by simp at h4⊢;omega⟩) ?_
              repeat' ((conv=>whnf);(first|refine stp ?_|with_reducible apply Z01<;>intro h))
              conv=>whnf
              refine⟨(k+len,n,(a::acc)++[⟨kd,(s.drop k).take len,num,k⟩]),⟨by show k+len<=s.length;omega,by show s.length<k+len+n;omega,h6,by show ((a::acc)++[_]).length<=k+len;rw[Z2P];omega⟩,by show s.length-(k+len)<s.length-k;omega,Y04 [0,4] rfl ?_ ?_ rfl⟩
              · refine⟨Y02 rfl,Y05 rfl rfl,Y0b rfl rfl ?_ ?_ ?_ rfl,Y03 ?_,trivial⟩
                ·exact (Z2P (a::acc) _).symm
                ·exact Y01 _
                ·exact Nat.le_of_eq (Z2P (a::acc) _)
                ·rw[tl]
              ·exact⟨hbp,⟨rfl,rfl,rfl,rfl,Y0h (rest:=[]) ((Z1P (a::acc) ⟨kd,(s.drop k).take len,num,k⟩).symm.trans (Y0i _).symm) (Z27 _)⟩,trivial⟩
           · have f2:decide (((k+1:Nat):Int)<(s.length:Int))=false:=by simp;omega
             cases acc with
             |nil =>
              dsimp only
              repeat' ((conv=>whnf);first|with_reducible refine ixS _ rfl hx ?_|with_reducible refine exI (Z2u hb21 rfl e2) ?_|refine stp ?_|with_reducible apply Z01<;>intro h)
              conv=>whnf
              exact⟨(k+len,n,[⟨kd,(s.drop k).take len,num,k⟩]),⟨by show k+len<=s.length;omega,by show s.length<k+len+n;omega,h6,by show 1<=k+len;omega⟩,by show s.length-(k+len)<s.length-k;omega,Y04 [0,3] rfl ⟨Y02 rfl,Y05 rfl rfl,Y0b rfl rfl rfl (Y01 _) (Y01 _) rfl,Y03 (by rw[tl]),trivial⟩ ⟨hbp,hbp,trivial⟩ rfl⟩
             |cons a acc =>
              dsimp only
              repeat' ((conv=>whnf);first|with_reducible refine ixS _ rfl hx ?_|with_reducible refine exI (Z2u hb21 rfl e2) ?_|refine stp ?_|with_reducible apply Z01<;>intro h)
              conv=>whnf
              refine exI (Zhk aT (xs:=[.int .i64 kd,.str ((s.drop k).take len),.int .i64 num,.int .i64 k]) rfl rfl rfl (Z5p _) rfl (by decide) ⟨by simp at h4⊢;omega,by simp at h4⊢;omega⟩) ?_
              repeat' ((conv=>whnf);(first|refine stp ?_|with_reducible apply Z01<;>intro h))
              conv=>whnf
              refine⟨(k+len,n,(a::acc)++[⟨kd,(s.drop k).take len,num,k⟩]),⟨by show k+len<=s.length;omega,by show s.length<k+len+n;omega,h6,by show ((a::acc)++[_]).length<=k+len;rw[Z2P];omega⟩,by show s.length-(k+len)<s.length-k;omega,Y04 [0,4] rfl ?_ ?_ rfl⟩
              · refine⟨Y02 rfl,Y05 rfl rfl,Y0b rfl rfl ?_ ?_ ?_ rfl,Y03 ?_,trivial⟩
                ·exact (Z2P (a::acc) _).symm
                ·exact Y01 _
                ·exact Nat.le_of_eq (Z2P (a::acc) _)
                ·rw[tl]
              ·exact⟨hbp,⟨rfl,rfl,rfl,rfl,Y0h (rest:=[]) ((Z1P (a::acc) ⟨kd,(s.drop k).take len,num,k⟩).symm.trans (Y0i _).symm) (Z27 _)⟩,trivial⟩
         · have q1:((s[k].toNat:Int)==47)=false:=beq_eq_false_iff_ne.2 λe=>h47 (by apply UInt8.toNat_inj.1;simp;omega)
           cases acc with
           |nil =>
            dsimp only
            repeat' ((conv=>whnf);first|with_reducible refine ixS _ rfl hx ?_|with_reducible refine exI (Z2u hb21 rfl e2) ?_|refine stp ?_|with_reducible apply Z01<;>intro h)
            conv=>whnf
            exact⟨(k+len,n,[⟨kd,(s.drop k).take len,num,k⟩]),⟨by show k+len<=s.length;omega,by show s.length<k+len+n;omega,h6,by show 1<=k+len;omega⟩,by show s.length-(k+len)<s.length-k;omega,Y04 [0,3] rfl ⟨Y02 rfl,Y05 rfl rfl,Y0b rfl rfl rfl (Y01 _) (Y01 _) rfl,Y03 (by rw[tl]),trivial⟩ ⟨hbp,hbp,trivial⟩ rfl⟩
           |cons a acc =>
            dsimp only
            repeat' ((conv=>whnf);first|with_reducible refine ixS _ rfl hx ?_|with_reducible refine exI (Z2u hb21 rfl e2) ?_|refine stp ?_|with_reducible apply Z01<;>intro h)
            conv=>whnf
            refine exI (Zhk aT (xs:=[.int .i64 kd,.str ((s.drop k).take len),.int .i64 num,.int .i64 k]) rfl rfl rfl (Z5p _) rfl (by decide) ⟨by simp at h4⊢;omega,by simp at h4⊢;omega⟩) ?_
            repeat' ((conv=>whnf);(first|refine stp ?_|with_reducible apply Z01<;>intro h))
            conv=>whnf
            refine⟨(k+len,n,(a::acc)++[⟨kd,(s.drop k).take len,num,k⟩]),⟨by show k+len<=s.length;omega,by show s.length<k+len+n;omega,h6,by show ((a::acc)++[_]).length<=k+len;rw[Z2P];omega⟩,by show s.length-(k+len)<s.length-k;omega,Y04 [0,4] rfl ?_ ?_ rfl⟩
            · refine⟨Y02 rfl,Y05 rfl rfl,Y0b rfl rfl ?_ ?_ ?_ rfl,Y03 ?_,trivial⟩
              ·exact (Z2P (a::acc) _).symm
              ·exact Y01 _
              ·exact Nat.le_of_eq (Z2P (a::acc) _)
              ·rw[tl]
            ·exact⟨hbp,⟨rfl,rfl,rfl,rfl,Y0h (rest:=[]) ((Z1P (a::acc) ⟨kd,(s.drop k).take len,num,k⟩).symm.trans (Y0i _).symm) (Z27 _)⟩,trivial⟩
   · have e1:decide ((k:Int)<(s.length:Int))=false:=by simpa using hk
     have e9:ZlY s = .inr acc:=by
      obtain⟨n,rfl⟩:∃m,n=m+1:=⟨n-1,by omega⟩
      rw[h3,ZjQ (by omega)];simp[Zfi]
     cases acc with
     |nil =>
      dsimp only
      repeat' ((conv=>whnf);first|refine stp ?_|with_reducible apply Z01<;>intro h)
      unfold Zp9;rw[if_neg (by omega),e9];rfl
     |cons a acc =>
      dsimp only
      repeat' ((conv=>whnf);(first|refine stp ?_|with_reducible apply Z01<;>intro h))
      conv=>whnf
      refine exI (Zhk aT (xs:=[.int .i64 5,.str [],.int .i64 0,.int .i64 s.length]) rfl rfl rfl (Z5p _) rfl (by decide) ⟨by simp at h4⊢;omega,by simp at h4⊢;omega⟩) ?_
      repeat' ((conv=>whnf);(first|refine stp ?_|with_reducible apply Z01<;>intro h))
      conv=>whnf
      refine⟨.tuple [.rs (acc.length+1+1) 4 (Zez (a::acc)++Tk.cells ⟨5,[],0,s.length⟩),.agg [.int .i64 0,.int .i64 0]],Z9R (Zk4 (b:=3) rfl ?_ ?_) (Z6Y rfl),?_⟩
      ·exact (congrArg List.length (Z1P (a::acc) ⟨5,[],0,s.length⟩)).symm.trans ((Z5p _).trans (by simp))
      ·exact (congrArg (List.all · lit) (Z1P (a::acc) ⟨5,[],0,s.length⟩)).symm.trans (Zgb _)
      · show _=Zp9 s
        unfold Zp9;rw[if_neg (by omega),e9,<- Z1P];rfl
end
section
variable {gl:Z0l}
theorem Z4S:∀{l:List (List St)},Z17 l=true->∀e∈l,rightSL e=true
 |x::l,h,e,he=>by
  simp only[Z17,Y0j]at h
  rcases Y0f.1 he with rfl|he
  ·exact h.1
  ·exact Z4S h.2 e he
theorem Z6k:∀{l:List (List St)},∀e∈l,deepSL e<=Z11 l
 |x::l,e,he=>by
  simp only[Z11]
  rcases Y0f.1 he with rfl|he
  ·omega
  ·have:=Z6k e he;omega
theorem Zd3{t:List St}(hr:rightSL t=true)(hg:rgSL t):∀x∈t,XSt x:=λx hx=>Zpn _ x (Y01 _) (Z2D hr x hx) (Z4c hg x hx)
end
section
variable {gl:Z0l}
def Z5Q{α β : Type}(f : α -> β -> Bool):List α -> List β -> Bool
 |[],[]=>true
 |x::a,y::b=>f x y&&Z5Q f a b
 |_,_=>false
theorem Z7g{α β : Type}(f : α -> β -> Bool):∀(a:List α)(b:List β),a.length≠b.length->Z5Q f a b=false
 |[],[],h=>by simp at h
 |[],_::_,_=>rfl
 |_::_,[],_=>rfl
 |x::a,y::b,h=>by simp only[Z5Q,Z7g f a b (by simpa using h),Bool.and_false]
theorem Z5h{α β : Type}(f : α -> β -> Bool):∀(a:List α)(b:List β)(i:Nat)(h:i<a.length)(h':i<b.length),Z5Q f (a.take (i+1)) (b.take (i+1))=(Z5Q f (a.take i) (b.take i)&&f a[i] b[i])
 |x::a,y::b,0,h,h'=>by simp[Z5Q]
 |x::a,y::b,i+1,h,h'=>by
  have:=Z5h f a b i (by simpa using h) (by simpa using h')
  simp only[List.take_succ_cons,Z5Q,List.getElem_cons_succ]at this⊢;rw[this,Bool.and_assoc]
theorem Z7h{α β : Type}(f : α -> β -> Bool):∀{a:List α}{b:List β}{i:Nat}(h:i<a.length)(h':i<b.length),f a[i] b[i]=false->Z5Q f a b=false
 |x::a,y::b,0,h,h',e=>by simp only[List.getElem_cons_zero]at e;simp only[Z5Q,e,Bool.false_and]
 |x::a,y::b,i+1,h,h',e=>by simp only[List.getElem_cons_succ]at e;simp only[Z5Q,Z7h f (a:=a) (b:=b) (by simpa using h) (by simpa using h') e,Bool.and_false]
mutual
def Z5M:Ex->Ex->Bool
 | .mk o n s k,.mk o' n' s' k'=>(o==o')&&((n==n')&&((s==s')&&sameL k k'))
def sameL:List Ex->List Ex->Bool
 |[],[]=>true
 |x::a,y::b=>Z5M x y&&sameL a b
 |_,_=>false
end
theorem Zgo:∀(a b:List Ex),sameL a b=Z5Q Z5M a b
 |[],[]=>by simp only[sameL,Z5Q]
 |[],_::_=>by simp only[sameL,Z5Q]
 |_::_,[]=>by simp only[sameL,Z5Q]
 |x::a,y::b=>by simp only[sameL,Z5Q,Zgo a b]
theorem Zg9(a b:Ex):refsL [.agg a.cells,.agg b.cells] []=[]:=by
 obtain⟨o,n,s,k⟩:=a
 obtain⟨o',n',s',k'⟩:=b
 simp only[Ex.cells];rfl
def Ztl{g:Nat}(hb:Z09 Y00 g=true)(G:Ex×Ex->Prop)(h:∀p,G p->ValOK Y00 gl g [.agg p.1.cells,.agg p.2.cells] (.bool (Z5M p.1 p.2))):Fam Y00 gl:={ I:=Ex×Ex,f:=g,G:=G,A:=λp=>[.agg p.1.cells,.agg p.2.cells],R:=λp=>.bool (Z5M p.1 p.2),body:=hb,inj:=(λi j _ _ h=>by simp only[List.cons.injEq,AV.agg.injEq,and_true]at h;rw[Z3W _ _ h.1,Z3W _ _ h.2]),ok:=(λp hp=>⟨Zg9 p.1 p.2,h p hp⟩) }
theorem ZdD(a b:List Ex)(ha:a.length<=9223372036854775807)(each:∀x∈a,∀y∈b,ValOK Y00 gl 16 [.agg x.cells,.agg y.cells] (.bool (Z5M x y))):ValOK Y00 gl 54 [exA a,exA b] (.bool (sameL a b)):=by
 obtain⟨O,hO,p1,-⟩:=fams (P:=Y00) (gl:=gl) [Ztl (g:=16) (by kernel_rfl) (λp=>p.1∈a/\p.2∈b) (λp hp=>each _ hp.1 _ hp.2)] rfl
 have q1:∀x∈a,∀y∈b,∀H,Z03 Y00 O H 16 [.agg x.cells,.agg y.cells]=some (.bool (Z5M x y),H):=λx hx y hy=>p1 (x,y) ⟨hx,hy⟩
 clear p1
 rw[Zgo]
 unfold exA
 refine Z0d follows Z05 hO Tryz.func54 rfl ?_
 by_cases hl:a.length=b.length
 · have e0:((a.length:Int) != (b.length:Int))=false:=Z5V (b:=true) (by rw[hl];simp)
   repeat' ((conv=>whnf);first|refine stp ?_|with_reducible apply Z01<;>intro h)
   conv=>whnf
   refine⟨Nat,(λi=>i<=a.length/\Z5Q Z5M (a.take i) (b.take i)=true),(λi=>[(0,.rs a.length 4 (exC a)),(1,.rs b.length 4 (exC b)),(5,.int .i64 i)]),(λ_=>[]),(λi=>a.length-i),⟨0,⟨Y0c _,rfl⟩,FgL.mk0 rfl ?_⟩,?_⟩
   ·exact wks
   rintro i ⟨hi,hall⟩
   dsimp only
   by_cases hlt:i<a.length
   · have e1:decide ((i:Int)<(a.length:Int))=true:=by simpa using hlt
     have hlt':i<b.length:=by omega
     have hat:=Z5h Z5M a b i hlt hlt'
     rw[hall,Y0o]at hat
     have hfalse:Z5M a[i] b[i]=false->Z5Q Z5M a b=false:=Z7h Z5M hlt hlt'
     have hx:=ex4 a i hlt
     have hy:=ex4 b i hlt'
     have q2:=q1 a[i] (Z0i hlt) b[i] (Z0i hlt')
     generalize a[i]=x at *
     generalize b[i]=y at *
     generalize Z5M x y=w at *
     obtain⟨o,n,s,k⟩:=x
     obtain⟨o',n',s',k'⟩:=y
     simp only[Ex.cells]at hx hy q2
     cases w with
     |true =>
      repeat' ((conv=>whnf);first|with_reducible refine exI (q2 _) ?_|(with_reducible refine ixJ i rfl ?_ ?_;focus omega)|refine exI hx ?_|refine exI hy ?_|refine stp ?_|with_reducible apply Z01<;>intro h)
      conv=>whnf
      refine⟨i+1,⟨hlt,hat⟩,by show a.length-(i+1)<a.length-i;omega,FgL.mk0 rfl ?_⟩
      exact wks
     |false =>
      rw[hfalse rfl]
      repeat' ((conv=>whnf);first|with_reducible refine exI (q2 _) ?_|(with_reducible refine ixJ i rfl ?_ ?_;focus omega)|refine exI hx ?_|refine exI hy ?_|refine stp ?_|with_reducible apply Z01<;>intro h)
      all_goals rfl
   · have e1:decide ((i:Int)<(a.length:Int))=false:=by simpa using hlt
     have hi2:i=a.length:=by have:=hi;omega
     subst hi2
     rw[Y0n,hl,Y0n]at hall
     rw[hall]
     repeat' ((conv=>whnf);first|refine stp ?_|with_reducible apply Z01<;>intro h)
     all_goals rfl
 · rw[Z7g _ _ _ hl]
   have e0:((a.length:Int) != (b.length:Int))=true:=Z5V (b:=false) (by simpa using (λh=>hl (by omega)))
   repeat' ((conv=>whnf);first|refine stp ?_|with_reducible apply Z01<;>intro h)
   all_goals rfl
theorem Zcj:∀(n:Nat)(a b:Ex),Z0C a<=n->okE a->ValOK Y00 gl 16 [.agg a.cells,.agg b.cells] (.bool (Z5M a b))
 |n,.mk o m s k,.mk o' m' s' k',h,hok=>by
  have hk:=Z5y hok
  simp only[Ex.kids,Ex.name,okN]at hk
  simp only[Z0C]at h
  obtain⟨O,hO,p1,-⟩:=fams (P:=Y00) (gl:=gl) [{ I:=Unit,f:=54,G:=λ_=>True,A:=λ_=>[exA k,exA k'],R:=λ_=>.bool (sameL k k'),body:=(by kernel_rfl),inj:=(λ_ _ _ _ _=>rfl),ok:=(λ_ _=>⟨rfl,ZdD k k' hk.1.2 λx hx y _=>match n,(show 1<=n by omega),h with|n+1,_,h=>Zcj n x y (by have:=Z1E _ _ hx;omega) (Z4i hk.2 _ hx)⟩) }] rfl
  have q1:∀H,Z03 Y00 O H 54 [exA k,exA k']=some (.bool (sameL k k'),H):=p1 () trivial
  clear p1
  simp only[Ex.cells,exA,Z5M]at q1⊢
  generalize sameL k k'=w at *
  refine Z0d follows Z05 hO Tryz.func16 rfl ?_
  generalize hb1:(o==o')=b1
  generalize hb2:(m==m')=b2
  generalize hb3:(s==s')=b3
  cases b1<;>cases b2<;>cases b3<;>cases w
  all_goals (repeat' ((conv=>whnf);first|with_reducible refine exI (q1 _) ?_|refine stp ?_|with_reducible apply Z01<;>intro h))
  all_goals (first|rfl|(simp_all[Z1n];done))
end
section
variable {gl:Z0l}
mutual
def Z8u:St->St->Bool
 | .mk k n l o x t e,.mk k' n' l' o' x' t' e'=>(k==k')&&((n==n')&&((l==l')&&((o==o')&&(sameL x x'&&(sameSL t t'&&sameSL e e')))))
def sameSL:List St->List St->Bool
 |[],[]=>true
 |x::a,y::b=>Z8u x y&&sameSL a b
 |_,_=>false
end
theorem Zdl:∀(a b:List St),sameSL a b=Z5Q Z8u a b
 |[],[]=>by simp only[sameSL,Z5Q]
 |[],_::_=>by simp only[sameSL,Z5Q]
 |_::_,[]=>by simp only[sameSL,Z5Q]
 |x::a,y::b=>by simp only[sameSL,Z5Q,Zdl a b]
def famTwoL{g:Nat}(hb:Z09 Y00 g=true)(G:List St×List St->Prop)(h:∀p,G p->ValOK Y00 gl g [stA p.1,stA p.2] (.bool (sameSL p.1 p.2))):Fam Y00 gl:={ I:=List St×List St,f:=g,G:=G,A:=λp=>[stA p.1,stA p.2],R:=λp=>.bool (sameSL p.1 p.2),body:=hb,inj:=(λi j _ _ h=>by simp only[List.cons.injEq,and_true]at h;rw[Z4a h.1,Z4a h.2]),ok:=(λp hp=>⟨rfl,h p hp⟩) }
end
section
variable {gl:Z0l}
theorem ZoD{b c:Bool}(h:b=c):(!b) = !c:=by rw[h]
def Zrd{g:Nat}(hb:Z09 Y00 g=true)(G:List Ex×List Ex->Prop)(h:∀p,G p->ValOK Y00 gl g [exA p.1,exA p.2] (.bool (sameL p.1 p.2))):Fam Y00 gl:={ I:=List Ex×List Ex,f:=g,G:=G,A:=λp=>[exA p.1,exA p.2],R:=λp=>.bool (sameL p.1 p.2),body:=hb,inj:=(λi j _ _ h=>by simp only[List.cons.injEq,and_true]at h;rw[Za4 h.1,Za4 h.2]),ok:=(λp hp=>⟨rfl,h p hp⟩) }
theorem ZqK(n:Nat)(a b:List St)(h:sizeSL a<=n)(hok:okSL a)(ha:a.length<=9223372036854775807)(O:Orc)(hO:Z06 Y00 gl O)(r1:∀x y,sizeSL x<n->okSL x->x.length<=9223372036854775807->∀H,Z03 Y00 O H 27 [stA x,stA y]=some (.bool (sameSL x y),H))(r2:∀x y:List Ex,okL x->x.length<=9223372036854775807->∀H,Z03 Y00 O H 54 [exA x,exA y]=some (.bool (sameL x y),H)):ValOK Y00 gl 27 [.rs a.length 7 (stC a),.rs b.length 7 (stC b)] (.bool (Z5Q Z8u a b)):=by
 refine Z0d follows Z05 hO Tryz.func27 rfl ?_
 by_cases hl:a.length=b.length
 · have e0:((a.length:Int) != (b.length:Int))=false:=Z5V (b:=true) (by rw[hl];simp)
   repeat' ((conv=>whnf);first|refine stp ?_|with_reducible apply Z01<;>intro h)
   conv=>whnf
   refine⟨Nat,(λi=>i<=a.length/\Z5Q Z8u (a.take i) (b.take i)=true),(λi=>[(0,.rs a.length 7 (stC a)),(1,.rs b.length 7 (stC b)),(5,.int .i64 i)]),(λ_=>[]),(λi=>a.length-i),⟨0,⟨Y0c _,rfl⟩,FgL.mk0 rfl ?_⟩,?_⟩
   ·exact wks
   rintro i ⟨hi,hall⟩
   dsimp only
   by_cases hlt:i<a.length
   · have e1:decide ((i:Int)<(a.length:Int))=true:=by simpa using hlt
     have hlt':i<b.length:=by omega
     have hat:=Z5h Z8u a b i hlt hlt'
     rw[hall,Y0o]at hat
     have hfalse:Z8u a[i] b[i]=false->Z5Q Z8u a b=false:=Z7h Z8u hlt hlt'
     have hx:=st7 a i hlt
     have hy:=st7 b i hlt'
     have hsz:=Z2V _ _ (Z0i hlt)
     have hse:=Z3o a[i]
     obtain⟨k1,k2,k3,k4,k5,k6,k7,k8⟩:=Z3R (Z2O hok _ (Z0i hlt))
     have q2:=r1 a[i].thn b[i].thn (by omega) k7 k4
     have q3:=r1 a[i].els b[i].els (by omega) k8 k5
     have q1:=r2 a[i].exprs b[i].exprs k6 k3
     clear hsz hse
     generalize a[i]=u at *
     generalize b[i]=v at *
     obtain⟨k,n,l,o,x,t,e⟩:=u
     obtain⟨k',n',l',o',x',t',e'⟩:=v
     simp only[St.cells,exA,stA,St.thn,St.els,St.exprs]at hx hy q1 q2 q3
     generalize hw1:sameL x x'=w1 at *
     generalize hw2:sameSL t t'=w2 at *
     generalize hw3:sameSL e e'=w3 at *
     have hs:Z8u (.mk k n l o x t e) (.mk k' n' l' o' x' t' e')=((k==k')&&((n==n')&&((l==l')&&((o==o')&&(w1&&(w2&&w3)))))):=by simp only[Z8u,hw1,hw2,hw3]
     rw[hs]at hat hfalse
     clear hs
     generalize hb1:(k==k')=b1 at *
     generalize hb2:(n==n')=b2 at *
     generalize hb3:(l==l')=b3 at *
     generalize hb4:(o==o')=b4 at *
     have n1:=Z5V hb1
     have n2:=ZoD hb2
     have n3:=ZoD hb3
     have n4:=Z5V hb4
     cases b1 with
     |false =>
      have n1:(k != k')=true:=n1
      rw[hfalse (by simp)]
      repeat' ((conv=>whnf);first|with_reducible refine exI (q1 _) ?_|with_reducible refine exI (q2 _) ?_|with_reducible refine exI (q3 _) ?_|(with_reducible refine ixJ i rfl ?_ ?_;focus omega)|refine exI hx ?_|refine exI hy ?_|refine stp ?_|with_reducible apply Z01<;>intro h)
      all_goals (first|rfl|(simp[Z1n];done))
     |true =>
      have n1:(k != k')=false:=n1
      cases b2 with
      |false =>
       have n2:(!(n==n'))=true:=n2
       rw[hfalse (by simp)]
       repeat' ((conv=>whnf);first|with_reducible refine exI (q1 _) ?_|with_reducible refine exI (q2 _) ?_|with_reducible refine exI (q3 _) ?_|(with_reducible refine ixJ i rfl ?_ ?_;focus omega)|refine exI hx ?_|refine exI hy ?_|refine stp ?_|with_reducible apply Z01<;>intro h)
       all_goals (first|rfl|(simp[Z1n];done))
      |true =>
       have n2:(!(n==n'))=false:=n2
       cases b3 with
       |false =>
        have n3:(!(l==l'))=true:=n3
        rw[hfalse (by simp)]
        repeat' ((conv=>whnf);first|with_reducible refine exI (q1 _) ?_|with_reducible refine exI (q2 _) ?_|with_reducible refine exI (q3 _) ?_|(with_reducible refine ixJ i rfl ?_ ?_;focus omega)|refine exI hx ?_|refine exI hy ?_|refine stp ?_|with_reducible apply Z01<;>intro h)
        all_goals (first|rfl|(simp[Z1n];done))
       |true =>
        have n3:(!(l==l'))=false:=n3
        cases b4 with
        |false =>
         have n4:(o != o')=true:=n4
         rw[hfalse (by simp)]
         repeat' ((conv=>whnf);first|with_reducible refine exI (q1 _) ?_|with_reducible refine exI (q2 _) ?_|with_reducible refine exI (q3 _) ?_|(with_reducible refine ixJ i rfl ?_ ?_;focus omega)|refine exI hx ?_|refine exI hy ?_|refine stp ?_|with_reducible apply Z01<;>intro h)
         all_goals (first|rfl|(simp[Z1n];done))
        |true =>
         have n4:(o != o')=false:=n4
         cases w1 with
         |false =>
          rw[hfalse (by simp)]
          repeat' ((conv=>whnf);first|with_reducible refine exI (q1 _) ?_|with_reducible refine exI (q2 _) ?_|with_reducible refine exI (q3 _) ?_|(with_reducible refine ixJ i rfl ?_ ?_;focus omega)|refine exI hx ?_|refine exI hy ?_|refine stp ?_|with_reducible apply Z01<;>intro h)
          all_goals (first|rfl|(simp[Z1n];done))
         |true =>
          cases w2 with
          |false =>
           rw[hfalse (by simp)]
           repeat' ((conv=>whnf);first|with_reducible refine exI (q1 _) ?_|with_reducible refine exI (q2 _) ?_|with_reducible refine exI (q3 _) ?_|(with_reducible refine ixJ i rfl ?_ ?_;focus omega)|refine exI hx ?_|refine exI hy ?_|refine stp ?_|with_reducible apply Z01<;>intro h)
           all_goals (first|rfl|(simp[Z1n];done))
          |true =>
           cases w3 with
           |false =>
            rw[hfalse (by simp)]
            repeat' ((conv=>whnf);first|with_reducible refine exI (q1 _) ?_|with_reducible refine exI (q2 _) ?_|with_reducible refine exI (q3 _) ?_|(with_reducible refine ixJ i rfl ?_ ?_;focus omega)|refine exI hx ?_|refine exI hy ?_|refine stp ?_|with_reducible apply Z01<;>intro h)
            all_goals (first|rfl|(simp[Z1n];done))
           |true =>
            simp only[Y0o]at hat
            repeat' ((conv=>whnf);first|with_reducible refine exI (q1 _) ?_|with_reducible refine exI (q2 _) ?_|with_reducible refine exI (q3 _) ?_|(with_reducible refine ixJ i rfl ?_ ?_;focus omega)|refine exI hx ?_|refine exI hy ?_|refine stp ?_|with_reducible apply Z01<;>intro h)
            conv=>whnf
            refine⟨i+1,⟨hlt,hat⟩,by show a.length-(i+1)<a.length-i;omega,FgL.mk0 rfl ?_⟩
            exact wks
   · have e1:decide ((i:Int)<(a.length:Int))=false:=by simpa using hlt
     have hi2:i=a.length:=by have:=hi;omega
     subst hi2
     rw[Y0n,hl,Y0n]at hall
     rw[hall]
     repeat' ((conv=>whnf);first|refine stp ?_|with_reducible apply Z01<;>intro h)
     all_goals rfl
 · rw[Z7g _ _ _ hl]
   have e0:((a.length:Int) != (b.length:Int))=true:=Z5V (b:=false) (by simpa using (λh=>hl (by omega)))
   repeat' ((conv=>whnf);first|refine stp ?_|with_reducible apply Z01<;>intro h)
   all_goals rfl
theorem Z9J:∀(n:Nat)(a b:List St),sizeSL a<=n->okSL a->a.length<=9223372036854775807->ValOK Y00 gl 27 [stA a,stA b] (.bool (sameSL a b))
 |n,a,b,h,hok,ha=>by
  obtain⟨O,hO,p1,p2,-⟩:=fams (P:=Y00) (gl:=gl) [famTwoL (g:=27) (by kernel_rfl) (λp=>sizeSL p.1<n/\okSL p.1/\p.1.length<=9223372036854775807) (λp hp=>match n,(show 1<=n by have:=hp.1;omega),hp.1 with|n+1,_,h=>Z9J n p.1 p.2 (by omega) hp.2.1 hp.2.2),Zrd (g:=54) (by kernel_rfl) (λp=>okL p.1/\p.1.length<=9223372036854775807) (λp hp=>ZdD p.1 p.2 hp.2 λy hy z _=>Zcj _ y z (Y01 _) (Z4i hp.1 _ hy))] rfl
  have r1:∀x y,sizeSL x<n->okSL x->x.length<=9223372036854775807->∀H,Z03 Y00 O H 27 [stA x,stA y]=some (.bool (sameSL x y),H):=λx y h1 h2 h3=>p1 (x,y) ⟨h1,h2,h3⟩
  have r2:∀x y:List Ex,okL x->x.length<=9223372036854775807->∀H,Z03 Y00 O H 54 [exA x,exA y]=some (.bool (sameL x y),H):=λx y h1 h2=>p2 (x,y) ⟨h1,h2⟩
  clear p1 p2
  rw[Zdl]
  unfold stA
  exact ZqK n a b h hok ha O hO r1 r2
end
section
variable {gl:Z0l}
mutual
theorem ZaW:∀e:Ex,Z5M e e=true
 | .mk _ _ _ k=>by simp[Z5M,sameL_self k]
theorem sameL_self:∀l:List Ex,sameL l l=true
 |[]=>by simp[sameL]
 |e::l=>by simp[sameL,ZaW e,sameL_self l]
end
mutual
theorem ZhF:∀x:St,Z8u x x=true
 | .mk _ _ _ _ x t e=>by simp[Z8u,sameL_self x,sameSL_self t,sameSL_self e]
theorem sameSL_self:∀l:List St,sameSL l l=true
 |[]=>by simp[sameSL]
 |e::l=>by simp[sameSL,ZhF e,sameSL_self l]
end
end
end Go.Proofs.YtkkfcfjhhdmamaaGreatDoor.lex

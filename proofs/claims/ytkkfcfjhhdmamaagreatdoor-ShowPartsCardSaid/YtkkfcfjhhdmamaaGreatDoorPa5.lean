/-
  Texts of this proof, one behind the other (part 5).
-/
import Derived.Test.YtkkfcfjhhdmamaaGreatDoorPa4
import Derived.Lib.ItoaMem
import Derived.Test.YtkkfcfjhhdmamaaGreatDoorRows
import Derived.KernelRfl
import Derived.Sort.KeysCollected
import Derived.Maps.OwnSet
set_option linter.unusedVariables false
set_option linter.unusedSimpArgs false
set_option maxRecDepth 100000
set_option maxHeartbeats 4000000
open Go.Proofs.Tryz renaming prog → Y00
open List renaming take_succ_cons → Y01,take_zero → Y04,getElem?_eq_getElem → Y05,getElem_cons_zero → Y08,getElem_cons_succ → Y09,getElem?_eq_some_iff → Y0b,mem_cons → Y0e,drop_succ_cons → Y0h,length_cons → Y0i,getD_eq_getElem?_getD → Y0k,drop_eq_getElem_cons → Y0l,cons_append → Y0n,getElem?_append_left → Y0o,length_append → Y0p,drop_zero → Y0r,take_length → Y0s,length_take → Y0t,mem_of_getElem? → Y0u,map_cons → Y0x,getElem?_append_right → Y0y,getElem?_set_ne → Y0z,length_drop → Y0C,nil_append → Y0D,getElem?_drop → Y0F,all_eq_true → Y0G,getElem?_set_self → Y0H
open And renaming intro → Y02
open Go.Abs.Wk renaming noref → Y03,int → Y06
open Nat renaming beq → Y07,le_refl → Y0c,eq_of_beq_eq_true → Y0d,zero_le → Y0f,zero_add → Y0j,lt_of_lt_of_le → Y0w
open Bool renaming and_eq_true → Y0a,eq_false_iff → Y0q,not_eq_true' → Y0v,and_true → Y0B,false_eq_true → Y0E,eq_iff_iff → Y0I
open Go.Abs.FgL renaming mk → Y0g
open Option renaming map_some → Y0m
open Go.Abs.BodyGe renaming cellsL → Y0A
section
namespace Go.Abs
open Go.RowKit
def Z1b(P:Program)(gl:Z0l)(f:Nat)(args:List AV)(H:Z00)(r:AV)(H':Z00):Prop :=
 ∀(sn:Z0n)(ι : Z0j)(W:World)(cargs:List Value),GlOK gl sn->R sn ι H W->LR sn ι args cargs ->
  CallsY P f cargs.toArray W λe W'=>∃v sn' ι',e = .returned v/\VR sn' ι' r v/\Stp sn ι H W sn' ι' H' W'
def Zm0(k:Nat):Z00->Z00->Bool
 |[],[]=>true
 |o::H,o'::H'=>Y07 o'.fam o.fam&&(Y07 o'.sh o.sh&&((!o'.alive || o.alive)&&(Z1a k (Z4d o'.body [])&&Zm0 k H H')))
 |_,_=>false
theorem Zcy{k:Nat}:∀{H H':Z00},Zm0 k H H'=true->H'.length=H.length/\∀(b:Nat)(o o':AObj),H[b]? = some o->H'[b]? = some o'->o'.fam=o.fam/\o'.sh=o.sh/\(o'.alive=true->o.alive=true)/\Z1a k (Z4d o'.body [])=true
 |[],[],h=>⟨rfl,λb o o' e=>by simp at e⟩
 |x::H,y::H',h=>by
  simp only[Zm0,Y0a]at h
  obtain⟨h1,h2,h3,h4,h5⟩:=h
  obtain⟨k1,k2⟩:=Zcy h5
  refine⟨by simp[k1],λb o o' e e'=>?_⟩
  cases b with
  |zero =>
   simp at e e';subst e;subst e'
   exact⟨Y0d h1,Y0d h2,λha=>by simpa[ha]using h3,h4⟩
  |succ b=>exact k2 b o o' (by simpa using e) (by simpa using e')
 |[],_::_,h=>by simp[Zm0]at h
 |_::_,[],h=>by simp[Zm0]at h
theorem Z1i{k:Nat}:∀{l:List Nat},Z1a k l=true->∀b∈l,b<k
 |[],h,b,hb=>by cases hb
 |n::l,h,b,hb=>by
  simp only[Z1a,Y0a]at h
  rcases Y0e.1 hb with rfl|hb
  ·exact Z8o h.1
  ·exact Z1i h.2 b hb
def Zth(P:Program)(l:List ResultVar)(k:Nat)(H0:Z00)(r:AV)(H1:Z00)(tm:Tr)(H:Z00):Prop :=
 onO (Z2T P tm H l) λvs=>Z1n vs=r/\H.take k=H1/\(Z1a k (Z1m r [])&&Zm0 k H0 H1)=true
theorem Z9l{sn:Z0n}{ι : Z0j}{us:List AV}{vs:List Value}{fn:Func}(h4:LR sn ι us vs):VR sn ι (Z1n us) (if h:vs.toArray.size=1 then vs.toArray[0] else .tuple vs.toArray):=by
 match us,h4 with
 |[],h4=>simp only[LR]at h4;subst h4;simp[Z1n,VR,LR]
 |[u],h4 =>
  simp only[LR]at h4
  obtain⟨d,ds,rfl,hd,rfl⟩:=h4
  simpa[Z1n]using hd
 |u::u'::l,h4 =>
  have hl:=h4.length
  simp only[Y0i]at hl
  have:vs.toArray.size≠1:=by simp[hl]
  rw[dif_neg this]
  simp only[Z1n,VR]
  exact⟨_,rfl,h4⟩
theorem ZhD {sn sn1 : Z0n} {ι ι1 : Z0j} {H0 H H1 : Z00} {W W1 : World} {k : Nat} (hk : H0.length = k) (hR : R sn ι H0 W) (s1 : Stq k sn ι H0 W sn1 ι1 H W1) (h3 : H.take k = H1) (h5 : Zm0 k H0 H1 = true) :
  ∃ι',Stp sn ι H0 W sn1 ι' H1 W1/\∀u v,Z1a k (Z1m u [])=true->VR sn1 ι1 u v->VR sn1 ι' u v:=by
 obtain⟨e1,e2⟩:=Zcy h5
 have hpl:∀b,b<k->∃p,ι b=some p /\ ι1 b=some p:=λb hb=>by
  obtain⟨p,hp⟩:=(hR.dom b).1 (by omega)
  exact⟨p,hp,s1.keep b p hb hp⟩
 let ι':Z0j:=λb=>if b<k then ι1 b else none
 have hi:∀b,b<k->∀p,ι1 b=some p -> ι' b=some p:=λb hb p hp=>by show (if b<k then ι1 b else none)=some p;rw[if_pos hb];exact hp
 have hi2:∀b p,ι' b=some p->b<k /\ ι1 b=some p:=λb p hp=>by
  have hp:(if b<k then ι1 b else none)=some p:=hp
  split at hp
  ·exact⟨by assumption,hp⟩
  ·cases hp
 have hH:∀(b:Nat)(o:AObj),H1[b]? = some o->b<k/\H[b]? = some o:=λb o hb=>by
  have hb':b<H1.length:=(Y0b.1 hb).1
  rw[e1,hk]at hb'
  rw[<- h3,List.getElem?_take_of_lt hb']at hb
  exact⟨hb',hb⟩
 have hR1:R sn1 ι' H1 W1:=by
  refine⟨λb=>⟨λhb=>?_,λ⟨p,hp⟩=>?_⟩,λb p hp=>s1.rel.blk b p (hi2 b p hp).2,λb o p hb hal hp=>?_,λb b' o o' p p' hb hb' ha ha' hp hp' e=>?_,λad v hv=>?_,λb o p hb hp e=>?_⟩
  · rw[e1,hk]at hb
    obtain⟨p,_,hp⟩:=hpl b hb
    exact⟨p,hi b hb p hp⟩
  ·rw[e1,hk];exact (hi2 b p hp).1
  · obtain⟨hb1,hb2⟩:=hH b o hb
    obtain⟨_,hp⟩:=hi2 b p hp
    have h0:b<H0.length:=by omega
    have h6:=(e2 b _ o (Y05 h0) hb).2.2.2
    exact Z5m o.body p (λx hx q hq=>hi x (Z1i h6 x hx) q hq) (s1.rel.obj b o p hb2 hal hp)
  · obtain⟨_,hb2⟩:=hH b o hb
    obtain⟨_,hb2'⟩:=hH b' o' hb'
    exact s1.rel.sep b b' o o' p p' hb2 hb2' ha ha' (hi2 _ _ hp).2 (hi2 _ _ hp').2 e
  · obtain⟨g1,g2,g3⟩:=s1.rel.snap ad v hv
    refine⟨g1,g2,λb o p hb hal hp=>?_⟩
    obtain⟨_,hb2⟩:=hH b o hb
    exact g3 b o p hb2 hal (hi2 _ _ hp).2
  · obtain⟨_,hb2⟩:=hH b o hb
    exact s1.rel.shz b o p hb2 (hi2 _ _ hp).2 e
 refine⟨ι',⟨hR1,⟨s1.le,λb p hb=>?_⟩,λb p hp=>.inl ?_,s1.frame,s1.size,s1.os,s1.tape,s1.output,s1.sfresh,λb o hb=>?_⟩,λu v hu hv=>?_⟩
 · have hbk:b<k:=by have:=(hR.dom b).2 ⟨p,hb⟩;omega
   exact hi b hbk p (s1.keep b p hbk hb)
 · obtain⟨hbk,hp1⟩:=hi2 b p hp
   obtain⟨q,hq,hq1⟩:=hpl b hbk
   rw[hq1]at hp1;cases hp1;exact hq
 · have hb0:=(Y0b.1 hb).1
   have hb1:b<H1.length:=by omega
   obtain⟨g1,g2,g3,_⟩:=e2 b o _ hb (Y05 hb1)
   exact⟨_,Y05 hb1,g1,g2,g3⟩
 ·exact Z1X (ι:=ι1) u [] _ (λx hx q hq=>hi x (Z1i hu x hx) q hq) hv
theorem fn_memR {rf : AV -> Array Tmp -> Code -> Code -> KN -> KX -> KN -> Tr -> Z00 -> Prop} {P : Program} {gl : Z0l} {orc : Orc} {k : Nat} (hrf : Zu4 P gl none k rf) (hm : P.follows .mixedOrders = true) (hn : NoNum P) (hO : Z06 P gl orc) {f : Nat} {fn : Func} {c : Code} {args : List AV} {H0 H1 : Z00} {r : AV} (hk : H0.length = k)
  (hf:P.funcs[f]? = some fn) (hc:fn.body=some c) {cw:CW} (hcw:Zex P orc cw)
  (h:Z4l (tmk (Z9b args fn.ntmps args.length) (Z8J 20 fn.ntmps)) λtm=>Z2f P gl orc cw ⟨Z7J k,rf⟩ c (Zth P fn.results.toList k H0 r H1) (λ_ _ _=>False) (Zth P fn.results.toList k H0 r H1) tm H0):Z1b P gl f args H0 r H1:=by
 intro sn ι W cargs hg hR ha
 rw[Z3r]at h
 refine .inl (Z3y hf hc (Z1N (rd:=none) hrf hm hn hO hcw c h) hg hR ha (λ_ _ _ h=>h) λx tm1 H a1 W1 sn1 ι1 hx s1 t1=>?_)
 have key:Zth P fn.results.toList k H0 r H1 tm1 H->∃v,(results fn a1.tmps).run P W1 = .ok v W1/\∃sn' ι',VR sn' ι' r v/\Stp sn ι H0 W sn' ι' H1 W1:=by
  intro h
  obtain⟨us,h1,h2,h3,h4⟩:=Z02 h
  simp only[Y0a]at h4
  obtain⟨h4,h5⟩:=h4
  obtain⟨vs,k1,k2⟩:=Z1H s1.rel t1 _ _ h1
  obtain⟨ι',g1,g2⟩:=ZhD hk hR s1 h3 h5
  refine⟨_,Z20 k2,sn1,ι',?_,g1⟩
  rw[<- h2]at h4⊢
  exact g2 _ _ h4 (Z9l (fn:=fn) k1)
 cases x with
 |normal =>
  obtain⟨v,k1,sn',ι',k2,k3⟩:=key hx
  exact⟨v,k1,v,sn',ι',rfl,k2,k3⟩
 |exit id=>exact hx.elim
 |ret =>
  obtain⟨v,k1,sn',ι',k2,k3⟩:=key hx
  exact⟨v,k1,v,sn',ι',rfl,k2,k3⟩
theorem Zbk {P : Program} {gl : Z0l} {orc : Orc} (hm : P.follows .mixedOrders = true) (hn : NoNum P) (hO : Z06 P gl orc) {f k : Nat} {fn : Func} {c : Code} {args : List AV} {H0 H1 : Z00} {r : AV} (hk : H0.length = k)
  (hf:P.funcs[f]? = some fn) (hc:fn.body=some c) {cw:CW} (hcw:Zex P orc cw)
  (h:Z4l (tmk (Z9b args fn.ntmps args.length) (Z8J 20 fn.ntmps)) λtm=>Z2f P gl orc cw (ZaK k) c (Zth P fn.results.toList k H0 r H1) (λ_ _ _=>False) (Zth P fn.results.toList k H0 r H1) tm H0):Z1b P gl f args H0 r H1 :=
 fn_memR (λ_ _ _ _ _ _ _ _ _ _ _ h=>h.elim) hm hn hO hk hf hc hcw h
section orcI
open Classical
noncomputable def orcI{I:Type}(G:I->Prop)(fF:I->Nat)(fA:I->List AV)(fH:I->Z00)(fR:I->AV)(fO:I->Z00):Orc:=λf args H =>
 if h:∃i,G i/\fF i=f/\fA i=args/\fH i=H then some (fR (Classical.choose h),fO (Classical.choose h)) else none
theorem Z2o{P:Program}{gl:Z0l}{I:Type}{G:I->Prop}{fF:I->Nat}{fA:I->List AV}{fH:I->Z00}{fR:I->AV}{fO:I->Z00}(h:∀i,G i->Z1b P gl (fF i) (fA i) (fH i) (fR i) (fO i)):Z06 P gl (orcI G fF fA fH fR fO):=by
 intro f args H r H' e
 unfold orcI at e
 split at e
 · rename_i hx
   simp only[Option.some.injEq,Prod.mk.injEq]at e
   obtain⟨rfl,rfl⟩:=e
   obtain⟨g1,e1,e2,e3⟩:=Classical.choose_spec hx
   have:=h _ g1
   rw[e1,e2,e3]at this;exact this
 ·cases e
theorem ZfD {P : Program} {I : Type} {G : I -> Prop} {fF : I -> Nat} {fA : I -> List AV} {fH : I -> Z00} {fR : I -> AV} {fO : I -> Z00} (hinj : ∀ i j, G i -> G j -> fF i = fF j -> fA i = fA j -> fH i = fH j -> fR i = fR j /\ fO i = fO j) {g : Nat} {args : List AV} {H : Z00} (hb : Z09 P g = true) (i : I) (hi : G i) (h1 : fF i = g) (h2 : fA i = args) (h3 : fH i = H) :
  Z03 P (orcI G fF fA fH fR fO) H g args=some (fR i,fO i):=by
 have hx:∃i,G i/\fF i=g/\fA i=args/\fH i=H:=⟨i,hi,h1,h2,h3⟩
 unfold Z03
 rw[if_pos hb]
 unfold orcI
 rw[dif_pos hx]
 obtain⟨g1,g2,g3,g4⟩:=Classical.choose_spec hx
 obtain⟨e1,e2⟩:=hinj _ i g1 hi (g2.trans h1.symm) (g3.trans h2.symm) (g4.trans h3.symm)
 rw[e1,e2]
end orcI
end Go.Abs
end
section
namespace Go.Abs
open Go.RowKit
mutual
def ZeE:AV->Bool
 | .rp _=>false
 | .rs _ _ _=>false
 | .func _ f c=>noROL f&&noROL c
 | .iface _ v=>ZeE v
 | .agg cs=>noROL cs
 | .tuple cs=>noROL cs
 | .bool _=>true
 | .int _ _=>true
 | .str _=>true
 | .nptr=>true
 | .ptr _ _=>true
 | .nslice=>true
 | .slice _ _ _ _ _=>true
 | .nmap=>true
 | .map _=>true
 | .nfunc=>true
 | .niface=>true
def noROL:List AV->Bool
 |[]=>true
 |c::l=>ZeE c&&noROL l
end
def ZmV:List (AV×AV×Nat)->Bool
 |[]=>true
 |(k,v,_)::l=>ZeE k&&(ZeE v&&ZmV l)
def ZmU:List (Nat×AV)->Bool
 |[]=>true
 |x::l=>ZeE x.2&&ZmU l
def Zjv:ABody->Bool
 | .cells cs _=>noROL cs
 | .map es _=>ZmV es
 | .siter _ _=>true
 | .loop _ ts=>ZmU ts
def Zfd:Z00->Bool
 |[]=>true
 |o::l=>Zjv o.body&&Zfd l
mutual
theorem Z5k{sn sn':Z0n}{ι : Z0j}:∀(u:AV)(v:Value),ZeE u=true->VR sn ι u v->VR sn' ι u v
 | .rp _,v,h,e=>by simp[ZeE]at h
 | .rs _ _ _,v,h,e=>by simp[ZeE]at h
 | .func fn f c,v,h,e=>by
  simp only[ZeE,Y0a]at h
  simp only[VR]at *;obtain⟨x,y,h1,h2,h3⟩:=e
  exact⟨x,y,h1,LR_snap f _ h.1 h2,LR_snap c _ h.2 h3⟩
 | .iface t u,v,h,e=>by
  simp only[ZeE]at h
  simp only[VR]at *;obtain⟨x,h1,h2⟩:=e
  exact⟨x,h1,Z5k u _ h h2⟩
 | .agg cs,v,h,e=>by
  simp only[ZeE]at h
  simp only[VR]at *;obtain⟨x,h1,h2⟩:=e
  exact⟨x,h1,LR_snap cs _ h h2⟩
 | .tuple cs,v,h,e=>by
  simp only[ZeE]at h
  simp only[VR]at *;obtain⟨x,h1,h2⟩:=e
  exact⟨x,h1,LR_snap cs _ h h2⟩
 | .bool _,v,h,e=>by simpa[VR]using e
 | .int _ _,v,h,e=>by simpa[VR]using e
 | .str _,v,h,e=>by simpa[VR]using e
 | .nptr,v,h,e=>by simpa[VR]using e
 | .ptr _ _,v,h,e=>by simpa[VR]using e
 | .nslice,v,h,e=>by simpa[VR]using e
 | .slice _ _ _ _ _,v,h,e=>by simpa[VR]using e
 | .nmap,v,h,e=>by simpa[VR]using e
 | .map _,v,h,e=>by simpa[VR]using e
 | .nfunc,v,h,e=>by simpa[VR]using e
 | .niface,v,h,e=>by simpa[VR]using e
theorem LR_snap{sn sn':Z0n}{ι : Z0j}:∀(us:List AV)(vs:List Value),noROL us=true->LR sn ι us vs->LR sn' ι us vs
 |[],vs,h,e=>by simpa[LR]using e
 |u::us,vs,h,e=>by
  simp only[noROL,Y0a]at h
  simp only[LR]at *;obtain⟨d,ds,h1,h2,h3⟩:=e
  exact⟨d,ds,h1,Z5k u _ h.1 h2,LR_snap us _ h.2 h3⟩
end
theorem ZlP{sn sn':Z0n}{ι : Z0j}:∀(es:List (AV×AV×Nat))(l:List MapEntry),ZmV es=true->ER sn ι es l->ER sn' ι es l
 |[],l,h,e=>by simpa[ER]using e
 |(k,v,n)::es,l,h,e=>by
  simp only[ZmV,Y0a]at h
  simp only[ER]at *
  obtain⟨x,l',h1,h2,h3,h4,h5⟩:=e
  exact⟨x,l',h1,Z5k k _ h.1 h2,Z5k v _ h.2.1 h3,h4,ZlP es _ h.2.2 h5⟩
theorem Zhr{sn sn':Z0n}{ι : Z0j}{a:Array Value}:∀(ts:List (Nat×AV)),ZmU ts=true->TSR sn ι ts a->TSR sn' ι ts a
 |[],h,e=>trivial
 |x::l,h,⟨⟨v,h1,h2⟩,h3⟩=>by
  simp only[ZmU,Y0a]at h
  exact⟨⟨v,h1,Z5k x.2 v h.1 h2⟩,Zhr l h.2 h3⟩
theorem ZfY{sn sn':Z0n}{ι : Z0j}{W:World}{p:Place}:∀(b:ABody),Zjv b=true->OR sn ι W b p->OR sn' ι W b p
 | .cells cs ty,h,e=>by
  simp only[OR]at e⊢
  obtain⟨arr,h1,h2,h3,h4⟩:=e
  refine⟨arr,h1,h2,h3,λi c hc=>?_⟩
  obtain⟨v,k1,k2⟩:=h4 i c hc
  have hn:∀(l:List AV)(i:Nat),noROL l=true->l[i]? = some c->ZeE c=true:=by
   intro l
   induction l with
   |nil=>intro i h hc;simp at hc
   |cons x l ih =>
    intro i h hc
    simp only[noROL,Y0a]at h
    cases i with
    |zero=>simp at hc;subst hc;exact h.1
    |succ i=>exact ih i h.2 (by simpa using hc)
  exact⟨v,k1,Z5k c v (hn cs i h hc) k2⟩
 | .map es c,h,e=>by
  simp only[OR]at e⊢
  obtain⟨mes,h1,h2⟩:=e
  exact⟨mes,h1,ZlP es _ h h2⟩
 | .siter s q,h,e=>by simpa only[OR]using e
 | .loop g ts,h,e=>by
  simp only[OR]at e⊢
  obtain⟨r,h1,h2,h3,h4⟩:=e
  exact⟨r,h1,h2,h3,Zhr ts h h4⟩
def ZsI(f:Nat->Nat):List (AV×AV×Nat)->List (AV×AV×Nat)
 |[]=>[]
 |(k,v,n)::l=>(ren f k,ren f v,n)::ZsI f l
def Zue(f:Nat->Nat):List (Nat×AV)->List (Nat×AV)
 |[]=>[]
 |x::l=>(x.1,ren f x.2)::Zue f l
def Z7A(f:Nat->Nat):ABody->ABody
 | .cells cs ty=>.cells (renL f cs) ty
 | .map es c=>.map (ZsI f es) c
 | .siter s p=>.siter s p
 | .loop g ts=>.loop g (Zue f ts)
theorem Zgq(f:Nat->Nat):∀(l:List AV)(i:Nat),(renL f l)[i]? = (l[i]?).map (ren f)
 |[],i=>by simp[renL]
 |c::l,0=>by simp[renL]
 |c::l,i+1=>by simpa[renL]using Zgq f l i
theorem Zgp(f:Nat->Nat):∀(l:List AV),(renL f l).length=l.length
 |[]=>rfl
 |c::l=>by simp[renL,Zgp f l]
theorem Zpi{sn:Z0n}{ι : Z0j}{f:Nat->Nat}:∀(es:List (AV×AV×Nat))(l:List MapEntry),ER sn (λb=>ι (f b)) es l->ER sn ι (ZsI f es) l
 |[],l,e=>by simpa[ER,ZsI]using e
 |(k,v,n)::es,l,e=>by
  simp only[ER,ZsI]at *
  obtain⟨x,l',h1,h2,h3,h4,h5⟩:=e
  exact⟨x,l',h1,(Z7j k _).2 h2,(Z7j v _).2 h3,h4,Zpi es _ h5⟩
theorem ZlL{sn:Z0n}{ι : Z0j}{f:Nat->Nat}{a:Array Value}:∀(ts:List (Nat×AV)),TSR sn (λb=>ι (f b)) ts a->TSR sn ι (Zue f ts) a
 |[],e=>trivial
 |x::l,⟨⟨v,h1,h2⟩,h3⟩=>⟨⟨v,h1,(Z7j x.2 _).2 h2⟩,ZlL l h3⟩
theorem Zet{sn:Z0n}{ι : Z0j}{f:Nat->Nat}{W:World}{p:Place}:∀(b:ABody),OR sn (λb=>ι (f b)) W b p->OR sn ι W (Z7A f b) p
 | .cells cs ty,e=>by
  simp only[OR,Z7A]at *
  obtain⟨arr,h1,h2,h3,h4⟩:=e
  refine⟨arr,h1,h2,by rw[Zgp];exact h3,λi c hc=>?_⟩
  rw[Zgq]at hc
  cases hx:cs[i]? with
  |none=>rw[hx]at hc;cases hc
  |some x =>
   rw[hx]at hc;simp at hc;subst hc
   obtain⟨v,k1,k2⟩:=h4 i x hx
   exact⟨v,k1,(Z7j x _).2 k2⟩
 | .map es c,e=>by
  simp only[OR,Z7A]at *
  obtain⟨mes,h1,h2⟩:=e
  exact⟨mes,h1,Zpi es _ h2⟩
 | .siter s q,e=>by simpa only[OR,Z7A]using e
 | .loop g ts,e=>by
  simp only[OR,Z7A]at *
  obtain⟨r,h1,h2,h3,h4⟩:=e
  exact⟨r,h1,h2,h3,ZlL ts h4⟩
def Z4D:List Nat->Nat->Nat->Option Nat
 |[],_,_=>none
 |j::l,b,i=>if Y07 j b then some i else Z4D l b (i+1)
theorem Z2F:∀{m:List Nat}{b i j:Nat},Z4D m b i=some j->i<=j/\m[j-i]? = some b
 |[],b,i,j,h=>by simp[Z4D]at h
 |x::m,b,i,j,h=>by
  simp only[Z4D]at h
  split at h
  · rename_i e
    cases h
    exact⟨Y0c _,by simp[Y0d e]⟩
  · obtain⟨h1,h2⟩:=Z2F h
    refine⟨by omega,?_⟩
    rw[show j-i=(j-(i+1))+1 by omega];simpa using h2
theorem Z6N:∀{m:List Nat}{b i:Nat},Z4D m b i=none->b ∉ m
 |[],b,i,h=>by simp
 |x::m,b,i,h=>by
  simp only[Z4D]at h
  split at h
  ·cases h
  · rename_i e
    intro hm
    rcases Y0e.1 hm with rfl|hm
    ·exact e (by simp)
    ·exact Z6N h hm
def Z7O(m:List Nat)(Hk:Z00):Nat->AV->Option AV
 |0,_=>none
 |n+1,u=>match u with
  | .ptr b off=>match Z4D m b 0 with|some i=>some (.ptr i off)|none=>frz Hk 30 (.ptr b off)
  | .slice b off len cap z=>match Z4D m b 0 with|some i=>some (.slice i off len cap z)|none=>frz Hk 30 (.slice b off len cap z)
  | .map b=>match Z4D m b 0 with|some i=>some (.map i)|none=>none
  | .func fn f c=>match Z22 (Z7O m Hk n) f,Z22 (Z7O m Hk n) c with|some f,some c=>some (.func fn f c)|_,_=>none
  |u=>frz Hk 30 u
def ZjL(m fs:List Nat):Nat->Z00->Bool
 |_,[]=>true
 |i,o::H=>(mem i m || !mem o.fam fs)&&ZjL m fs (i+1) H
theorem ZdB{m fs:List Nat}:∀{H:Z00}{i j:Nat}{o:AObj},ZjL m fs i H=true->H[j]? = some o->i+j∈m\/o.fam ∉ fs
 |[],i,j,o,h,e=>by simp at e
 |x::H,i,0,o,h,e=>by
  simp only[ZjL,Y0a,Bool.or_eq_true,Y0v]at h
  simp at e;subst e
  rcases h.1 with h1|h1
  ·exact .inl (Z1q.1 h1)
  ·exact .inr λe=>by rw[Z1q.2 e]at h1;cases h1
 |x::H,i,j+1,o,h,e=>by
  simp only[ZjL,Y0a]at h
  have:=ZdB h.2 (by simpa using e)
  rcases this with h1|h1
  ·exact .inl (by rw[show i+(j+1)=i+1+j by omega];exact h1)
  ·exact .inr h1
def Zg8(m:List Nat)(Hs:Z00):Nat->Z00->Z00
 |_,[]=>[]
 |i,o::H=>(match Z4D m i 0 with
  |some j=>match Hs[j]? with
   |some o'=>{ o with alive:=o'.alive,body:=Z7A (λb=>m.getD b 0) o'.body }
   |none=>o
  |none=>o)::Zg8 m Hs (i+1) H
end Go.Abs
end
section
namespace Go.Abs
open Go.RowKit
theorem Z5E {sn sn2 : Z0n} {ι : Z0j} {H : Z00} {W : World} (hobj : ∀ (b : Nat) (o : AObj) p, H[b]? = some o -> o.alive = true -> ι b = some p -> OR sn ι W o.body p) (hle : Le sn sn2 noI noI)
  (hcell:∀(b:Nat)(o:AObj) p,H[b]? = some o->o.alive=true -> ι b=some p->∀(off:Nat)(v:Value),W.cell? ⟨p.blk,off,none⟩=some v->sn2 ⟨p.blk,off,none⟩=some v) :
  ∀(n:Nat)(u r:AV)(v:Value),frz H n u=some r->VR sn ι u v->VR sn2 noI r v:=by
 intro n
 induction n with
 |zero=>intro u r v h;simp[frz]at h
 |succ n ih =>
  have cells:∀{b:Nat}{o:AObj}{p:Place}{cs l:List AV}{ty:TypeId}{off:Nat},H[b]? = some o->o.alive=true->o.body = .cells cs ty -> ι b=some p->Z22 (frz H n) (cs.drop off)=some l->MR sn2 l p.blk (p.sh+off):=by
   intro b o p cs l ty off ho ha hb hp hl
   obtain⟨_,h2⟩:=Z6Z hl
   have hor:=hobj b o p ho ha hp
   rw[hb]at hor
   simp only[OR]at hor
   obtain⟨arr,k1,k2,k3,k4⟩:=hor
   refine Z37 λi x hx=>?_
   obtain⟨c,hc,hcx⟩:=h2 i x hx
   rw[Y0F]at hc
   obtain⟨v,e1,e2⟩:=k4 (off+i) c hc
   refine⟨v,?_,ih c x v hcx e2⟩
   refine hcell b o p ho ha hp _ _ ?_
   rw[Z2G k1]
   rw[<- e1];congr 1;omega
  intro u r v h hv
  unfold frz at h
  split at h
  · rename_i b off
    split at h<;>try (simp at h;done)
    rename_i o ho
    split at h<;>try (simp at h;done)
    rename_i cs ty ha hb
    split at h<;>simp at h
    rename_i l hl
    subst h
    obtain⟨p,hp,rfl⟩:=hv.ptr
    simp only[VR]
    exact⟨_,_,rfl,cells ho ha hb hp hl⟩
  · rename_i b off len cap z
    obtain⟨p,a,cap',hp,rfl,h1,h2,h3⟩:=hv.slice
    split at h
    · simp at h;subst h
      simp only[VR]
      exact .inr ⟨a,cap',rfl,by omega,by simp,by simp[MR],λh=>absurd rfl h⟩
    · rename_i len
      split at h<;>try (simp at h;done)
      rename_i o ho
      split at h<;>try (simp at h;done)
      rename_i cs ty ha hb
      split at h<;>try (simp at h;done)
      rename_i cs' hcs
      split at h<;>simp at h
      rename_i l hl
      subst h
      obtain⟨ha',_⟩:=h3 (by omega)
      subst ha'
      obtain⟨e1,rfl⟩:=Z4K hcs
      obtain⟨f1,f2⟩:=Z6Z hl
      simp only[VR]
      refine .inr ⟨_,cap',rfl,by omega,?_,?_,λ_=>rfl⟩
      ·rw[f1,Y0t];exact Nat.min_eq_left e1
      · have hor:=hobj b o p ho ha hp
        rw[hb]at hor
        simp only[OR]at hor
        obtain⟨arr,k1,k2,k3,k4⟩:=hor
        refine Z37 λi x hx=>?_
        obtain⟨c,hc,hcx⟩:=f2 i x hx
        rw[List.getElem?_take]at hc
        split at hc<;>try (simp at hc;done)
        rw[Y0F]at hc
        obtain⟨v,g1,g2⟩:=k4 (off+i) c hc
        refine⟨v,?_,ih c x v hcx g2⟩
        refine hcell b o p ho ha hp _ _ ?_
        rw[Z2G k1]
        rw[<- g1];congr 1;simp only;omega
  · split at h<;>simp at h
    rename_i l hl;subst h
    obtain⟨d,rfl,h1⟩:=hv.agg
    exact Z2Y (Z1x ih hl h1)
  · split at h<;>simp at h
    rename_i l hl;subst h
    obtain⟨d,rfl,h1⟩:=hv.tuple
    exact Z5o (Z1x ih hl h1)
  · split at h<;>simp at h
    rename_i x hx;subst h
    obtain⟨y,rfl,h1⟩:=hv.iface
    simp only[VR];exact⟨y,rfl,ih _ _ _ hx h1⟩
  · split at h<;>simp at h
    rename_i f c hf hc;subst h
    obtain⟨x,y,rfl,h1,h2⟩:=hv.func
    simp only[VR];exact⟨x,y,rfl,Z1x ih hf h1,Z1x ih hc h2⟩
  ·simp at h
  · rename_i e1 e2 e3 e4 e5 e6 e7
    simp at h;subst h
    cases u with
    |ptr b o=>exact (e1 _ _ rfl).elim
    |slice b o l c z=>exact (e2 _ _ _ _ _ rfl).elim
    |agg cs=>exact (e3 _ rfl).elim
    |tuple cs=>exact (e4 _ rfl).elim
    |iface t v=>exact (e5 _ _ rfl).elim
    |func fn f c=>exact (e6 _ _ _ rfl).elim
    |map b=>exact (e7 _ rfl).elim
    |_=>exact Z1k (ι:=noI) hle _ _ (Z1X (ι:=ι) _ [] _ (λb hb=>by simp[Z1m]at hb) hv)
theorem ZpA{m:List Nat}{H H2:Z00}(hp:HpGe H m m H2 0)(hfam:Z0F (m.map (Z0O H))=true){sn:Z0n}{ι : Z0j}{W:World}(hR:R sn ι H W):R sn (iot m ι) H2 W:=by
 obtain⟨hl,hg⟩:=hp.get
 have at2:∀{b:Nat}{o2:AObj}{p:Place},H2[b]? = some o2->iot m ι b=some p->∃j o,m[b]? = some j/\H[j]? = some o /\ ι j=some p/\o.alive=true/\o2.alive=true/\o2.fam=b/\o2.sh=o.sh/\BodyGe m o.body o2.body:=by
  intro b o2 p hb hp
  obtain⟨j,o,o2',x1,x2,x3,x4,x5,x6,x7,x8⟩:=hg b (by rw[<- hl];exact (Y0b.1 hb).1)
  rw[hb]at x3;simp at x3;subst x3
  simp only[iot,x1]at hp
  exact⟨j,o,x1,x2,hp,x4,x5,by omega,x7,x8⟩
 have hR2:R sn (iot m ι) H2 W:=by
  refine⟨λb=>⟨λhb=>?_,λ⟨p,hp⟩=>?_⟩,λb p hp=>?_,λb o2 p hb ha hp=>?_,λb b' o o' p p' hb hb' ha ha' hp hp' e=>?_,λad v hv=>?_,λb o2 p hb hp e=>?_⟩
  · obtain⟨j,o,o2,x1,x2,_⟩:=hg b (by omega)
    obtain⟨p,hp⟩:=hR.place x2
    exact⟨p,by simp only[iot,x1];exact hp⟩
  · unfold iot at hp
    split at hp
    ·rename_i j hj;rw[hl];exact (Y0b.1 hj).1
    ·cases hp
  · unfold iot at hp
    split at hp
    ·exact hR.blk _ p hp
    ·cases hp
  · obtain⟨j,o,x1,x2,x3,x4,x5,x6,x7,x8⟩:=at2 hb hp
    exact x8.or (hR.obj j o p x2 x4 x3)
  · obtain⟨j,q,x1,x2,x3,x4,x5,x6,x7,x8⟩:=at2 hb hp
    obtain⟨j',q',y1,y2,y3,y4,y5,y6,y7,y8⟩:=at2 hb' hp'
    have hs:=hR.sep j j' q q' p p' x2 y2 x4 y4 x3 y3 e
    have:b=b':=Z5z (l:=m.map (Z0O H)) (x:=q.fam) hfam (by simp[x1,Z0O,x2]) (by simp[y1,Z0O,y2,hs.1])
    subst this
    exact⟨by rw[x6,y6],by rw[x7,y7];exact hs.2⟩
  · obtain⟨h1,h2,h3⟩:=hR.snap ad v hv
    refine⟨h1,h2,λb o2 p hb ha hp=>?_⟩
    obtain⟨j,o,x1,x2,x3,x4,_⟩:=at2 hb hp
    exact h3 j o p x2 x4 x3
  · obtain⟨j,o,x1,x2,x3,x4,x5,x6,x7,x8⟩:=at2 hb hp
    exact hR.shz j o p x2 x3 (by omega)
 exact hR2
def Zav(m:List Nat)(H:Z00):Z00:=kil (λi _=>mem i m) 0 H
theorem Z8U{m:List Nat}{H:Z00}{b:Nat}{o:AObj}(h:(Zav m H)[b]? = some o)(ha:o.alive=true):H[b]? = some o/\b ∉ m:=by
 unfold Zav at h
 rw[Z3E]at h
 cases hx:H[b]? with
 |none=>rw[hx]at h;cases h
 |some x =>
  rw[hx]at h
  simp only[Y0m,Option.some.injEq,Y0j]at h
  split at h
  ·subst h;simp[AObj.dead]at ha
  · rename_i hm
    subst h
    exact⟨rfl,λhb=>hm (Z1q.2 hb)⟩
theorem Zg7 (m : List Nat) (Hs : Z00) : ∀ (H : Z00) (i b : Nat), (Zg8 m Hs i H)[b]? = (H[b]?).map fun o => match Z4D m (i + b) 0 with
  |some j=>match Hs[j]? with
   |some o'=>{ o with alive:=o'.alive,body:=Z7A (λb=>m.getD b 0) o'.body }
   |none=>o
  |none=>o
 |[],i,b=>by simp[Zg8]
 |o::H,i,0=>by
  simp only[Zg8,List.getElem?_cons_zero,Y0m,Nat.add_zero]<;>rfl
 |o::H,i,b+1=>by
  simp only[Zg8,List.getElem?_cons_succ]
  rw[Zg7 m Hs H (i+1) b,show i+1+b=i+(b+1) by omega]
theorem Zi9 {sn sn2 : Z0n} {ι : Z0j} {H : Z00} {W : World} {m : List Nat} (hobj : ∀ (b : Nat) (o : AObj) p, H[b]? = some o -> o.alive = true -> ι b = some p -> OR sn ι W o.body p) (hle : Le sn sn2 noI noI)
  (hcell:∀(b:Nat)(o:AObj) p,H[b]? = some o->o.alive=true -> ι b=some p->∀(off:Nat)(v:Value),W.cell? ⟨p.blk,off,none⟩=some v->sn2 ⟨p.blk,off,none⟩=some v) :
  ∀(n:Nat)(u r:AV)(v:Value),Z7O m H n u=some r->VR sn ι u v->VR sn2 (iot m ι) r v:=by
 have lift:∀{r:AV}{v:Value},VR sn2 noI r v->VR sn2 (iot m ι) r v:=λh=>Z1k ⟨λ_ _ h=>h,λb p h=>by simp[noI]at h⟩ _ _ h
 have at_:∀{b i:Nat},Z4D m b 0=some i->∀p,ι b=some p->iot m ι i=some p:=λh p hp=>by
  have:=(Z2F h).2
  simp only[Nat.sub_zero]at this
  simp only[iot,this];exact hp
 intro n
 induction n with
 |zero=>intro u r v h;simp[Z7O]at h
 |succ n ih =>
  intro u r v h hv
  unfold Z7O at h
  split at h
  · split at h
    · rename_i b off i hi
      simp at h;subst h
      obtain⟨p,hp,rfl⟩:=hv.ptr
      simp only[VR];exact⟨p,at_ hi p hp,rfl⟩
    ·exact lift (Z5E hobj hle hcell 30 _ _ _ h hv)
  · split at h
    · rename_i b off len cap z i hi
      simp at h;subst h
      obtain⟨p,a,cap',hp,h1⟩:=hv.slice
      simp only[VR];exact⟨p,a,cap',at_ hi p hp,h1⟩
    ·exact lift (Z5E hobj hle hcell 30 _ _ _ h hv)
  · split at h
    · rename_i b i hi
      simp at h;subst h
      simp only[VR]at hv⊢
      obtain⟨p,hp,h1⟩:=hv
      exact⟨p,at_ hi p hp,h1⟩
    ·cases h
  · split at h<;>simp at h
    rename_i f c hf hc;subst h
    obtain⟨x,y,rfl,h1,h2⟩:=hv.func
    have each:∀{l l':List AV}{vs:List Value},Z22 (Z7O m H n) l=some l'->LR sn ι l vs->LR sn2 (iot m ι) l' vs:=by
     intro l
     induction l with
     |nil=>intro l' vs h e;simp[Z22]at h;subst h;simpa[LR]using e
     |cons c l ih2 =>
      intro l' vs h e
      simp only[Z22]at h
      split at h<;>simp at h
      rename_i x y hx hy
      subst h
      simp only[LR]at e⊢
      obtain⟨d,ds,rfl,h1,h2⟩:=e
      exact⟨d,ds,rfl,ih _ _ _ hx h1,ih2 hy h2⟩
    simp only[VR];exact⟨x,y,rfl,each hf h1,each hc h2⟩
  ·exact lift (Z5E hobj hle hcell 30 _ _ _ h hv)
theorem Z6d {sn sn2 : Z0n} {ι : Z0j} {H : Z00} {W : World} {m : List Nat} (hobj : ∀ (b : Nat) (o : AObj) p, H[b]? = some o -> o.alive = true -> ι b = some p -> OR sn ι W o.body p) (hle : Le sn sn2 noI noI)
  (hcell:∀(b:Nat)(o:AObj) p,H[b]? = some o->o.alive=true -> ι b=some p->∀(off:Nat)(v:Value),W.cell? ⟨p.blk,off,none⟩=some v->sn2 ⟨p.blk,off,none⟩=some v) (n:Nat) :
  ∀(us rs:List AV)(vs:List Value),Z22 (Z7O m H n) us=some rs->LR sn ι us vs->LR sn2 (iot m ι) rs vs
 |[],rs,vs,h,e=>by simp[Z22]at h;subst h;simpa[LR]using e
 |u::us,rs,vs,h,e=>by
  simp only[Z22]at h
  split at h<;>simp at h
  rename_i x y hx hy
  subst h
  simp only[LR]at e⊢
  obtain⟨d,ds,rfl,h1,h2⟩:=e
  exact⟨d,ds,rfl,Zi9 hobj hle hcell n _ _ _ hx h1,Z6d hobj hle hcell n us y ds hy h2⟩
theorem Z6S:∀{H:Z00}{i:Nat}{o:AObj},Zfd H=true->H[i]? = some o->Zjv o.body=true
 |[],i,o,h,e=>by simp at e
 |x::H,0,o,h,e=>by simp[Zfd]at h e;subst e;exact h.1
 |x::H,i+1,o,h,e=>by simp[Zfd]at h e;exact Z6S h.2 e
theorem Z9C {P : Program} {gl : Z0l} {f : Nat} {Hs Hs' Hc : Z00} {fargs cargs : List AV} {r : AV} {m : List Nat} {n : Nat} (hM : Z1b P gl f fargs Hs r Hs') (hargs : Z22 (Z7O m (Zav m Hc) n) cargs = some fargs) (hsub : HpGe Hc m m Hs 0)
  (hnd:Z0F (m.map (Z0O Hc))=true) (hlone:ZjL m (m.map (Z0O Hc)) 0 Hc=true) (hev:Zm0 m.length Hs Hs'=true) (hro:Zfd Hs'=true) (hrr:ZeE r=true) (hrk:Z1a m.length (Z1m r [])=true) :
  Z1b P gl f cargs Hc (ren (λb=>m.getD b 0) r) (Zg8 m Hs' 0 Hc):=by
 intro sn ι W vargs hg hR hl
 obtain⟨hl1,hg1⟩:=hsub.get
 obtain⟨hl2,hg2⟩:=Zcy hev
 have inm:∀b,b∈m->∃ (i:Nat) (o o2:AObj) (p:Place),m[i]? = some b/\Hc[b]? = some o/\Hs[i]? = some o2/\o.alive=true/\o2.alive=true /\ ι b=some p:=by
  intro b hb
  obtain⟨i,hi,rfl⟩:=List.mem_iff_getElem.1 hb
  obtain⟨j,o,o2,x1,x2,x3,x4,x5,_⟩:=hg1 i hi
  rw[Y05 hi]at x1
  cases x1
  obtain⟨p,hp⟩:=hR.place x2
  exact⟨i,o,o2,p,Y05 hi,x2,x3,x4,x5,hp⟩
 have apart_:∀(b:Nat)(o:AObj)(p:Place),Hc[b]? = some o->o.alive=true->b ∉ m -> ι b=some p->∀b' p',b'∈m -> ι b'=some p'->p'.blk≠p.blk:=by
  intro b o p ho hoa hb hp b' p' hb' hp' e
  obtain⟨i,o',o2,q,y1,y2,y3,y4,y5,y6⟩:=inm b' hb'
  have hs:=hR.sep b b' o o' p p' ho y2 hoa y4 hp hp' e.symm
  rcases ZdB hlone ho with h|h
  ·exact hb (by simpa using h)
  · refine h ?_
    rw[List.mem_map]
    exact⟨b',hb',by simp only[Z0O,y2];exact hs.1.symm⟩
 let q:Nat->Prop:=λc=>∃b p,b∈m /\ ι b=some p/\p.blk=c
 let sn2:Z0n:=λa=>open Classical in if q a.block\/¬a.block<W.heap.size then none else W.cell? a
 have hsn2:∀a v,sn2 a=some v->¬q a.block/\a.block<W.heap.size/\W.cell? a=some v:=λa v h=>by
  have h:(open Classical in if q a.block\/¬a.block<W.heap.size then none else W.cell? a)=some v:=h
  split at h
  ·cases h
  · rename_i hx
    simp only[not_or,Classical.not_not]at hx
    exact⟨hx.1,hx.2,h⟩
 have hsn2':∀a v,¬q a.block->a.block<W.heap.size->W.cell? a=some v->sn2 a=some v:=λa v h1 h2 h3=>by
  show (open Classical in if q a.block\/¬a.block<W.heap.size then none else W.cell? a)=some v
  rw[if_neg (by simp only[not_or,Classical.not_not];exact⟨h1,h2⟩)];exact h3
 have hle:∀a v,sn a=some v->sn2 a=some v:=λa v hv=>by
  obtain⟨h1,h2,h3⟩:=hR.snap a v hv
  refine hsn2' a v ?_ h1 h2
  rintro⟨b,p,hb,hp,e⟩
  obtain⟨i,o,o2,p',y1,y2,y3,y4,y5,y6⟩:=inm b hb
  exact h3 b o p y2 y4 hp e
 have hR0:=ZpA hsub hnd hR
 have atm:∀{i:Nat}{p:Place},iot m ι i=some p->∃b,m[i]? = some b/\b∈m /\ ι b=some p:=λ{i p} hp=>by
  unfold iot at hp
  split at hp
  ·rename_i b hb;exact⟨b,hb,Y0u hb,hp⟩
  ·cases hp
 have hRs:R sn2 (iot m ι) Hs W:=by
  refine⟨hR0.dom,hR0.blk,λb o p hb ha hp=>Z0W ⟨hle,λ_ _ h=>h⟩ rfl (hR0.obj b o p hb ha hp),hR0.sep,λa v hv=>?_,hR0.shz⟩
  obtain⟨h1,h2,h3⟩:=hsn2 a v hv
  refine⟨h2,h3,λb o p hb ha hp e=>?_⟩
  obtain⟨c,_,hc,hp'⟩:=atm hp
  exact h1 ⟨c,p,hc,hp',e⟩
 have hla:LR sn2 (iot m ι) fargs vargs:=by
  refine Z6d (H:=Zav m Hc) (W:=W) (λb o p hb ha hp=>?_) (Zcn hle) (λb o p hb ha hp off v hv=>?_) n _ _ _ hargs hl
  ·exact hR.obj b o p (Z8U hb ha).1 ha hp
  · obtain⟨h1,h2⟩:=Z8U hb ha
    refine hsn2' _ v ?_ (hR.blk b p hp) hv
    rintro⟨b',p',hb',hp',e⟩
    exact apart_ b o p h1 ha h2 hp b' p' hb' hp' e
 refine (hM sn2 (iot m ι) W vargs (hg.mono (Zcn hle)) hRs hla).mono ?_
 rintro e W' ⟨v,sn',ι',rfl,hv,hst⟩
 have hback:∀i,i<m.length->∀p,ι' i=some p -> ι (m.getD i 0)=some p:=λi hi p hp=>by
  obtain⟨b,hb⟩:∃b,m[i]? = some b:=⟨m[i],Y05 hi⟩
  obtain⟨p0,hp0⟩:=(hRs.dom i).1 (by omega)
  have h1:=hst.le.ι i p0 hp0
  rw[hp]at h1;cases h1
  obtain⟨c,hc,_,hp1⟩:=atm hp0
  rw[hb]at hc;cases hc
  rw[Y0k,hb];exact hp1
 have hfwd:∀(i b:Nat)(p:Place),m[i]? = some b -> ι b=some p -> ι' i=some p:=λi b p hb hp=>hst.le.ι i p (by simp only[iot,hb];exact hp)
 have pos_:∀b,b∈m->∃i,Z4D m b 0=some i/\m[i]? = some b:=λb hb=>by
  cases hx:Z4D m b 0 with
  |none=>exact (Z6N hx hb).elim
  |some i=>exact⟨i,rfl,by simpa using (Z2F hx).2⟩
 have old:∀(b:Nat)(o:AObj)(p:Place),Hc[b]? = some o->o.alive=true->b ∉ m -> ι b=some p->W'.heap[p.blk]? = W.heap[p.blk]?:=λb o p ho hoa hb hp=>by
  refine hst.frame _ (hR.blk b p hp) λi o2 p2 hi ha hp2 e=>?_
  obtain⟨c,_,hc,hp3⟩:=atm hp2
  exact apart_ b o p ho hoa hb hp c p2 hc hp3 e
 have hup:∀(b:Nat)(o':AObj),(Zg8 m Hs' 0 Hc)[b]? = some o'->∃o,Hc[b]? = some o/\o'.fam=o.fam/\o'.sh=o.sh/\((b ∉ m/\o'=o)\/∃ (i:Nat) (x:AObj),m[i]? = some b/\Hs'[i]? = some x/\o'.alive=x.alive/\o'.body=Z7A (λb=>m.getD b 0) x.body/\o.alive=true):=by
  intro b o' h
  rw[Zg7]at h
  simp only[Y0j]at h
  cases hx:Hc[b]? with
  |none=>rw[hx]at h;cases h
  |some o =>
   rw[hx]at h
   simp only[Y0m,Option.some.injEq]at h
   refine⟨o,rfl,?_⟩
   by_cases hb:b∈m
   · obtain⟨i,h1,h2⟩:=pos_ b hb
     have hi:i<m.length:=(Y0b.1 h2).1
     have hi':i<Hs'.length:=by omega
     rw[h1]at h
     simp only[Y05 hi']at h
     subst h
     obtain⟨_,y,_,_,_,y2,_,y4,_⟩:=inm b hb
     rw[hx]at y2;cases y2
     exact⟨rfl,rfl,.inr ⟨i,Hs'[i],h2,Y05 hi',rfl,rfl,y4⟩⟩
   · have hn : Z4D m b 0 = none := by
      cases hx:Z4D m b 0 with
      |none=>rfl
      |some i=>exact (hb (Y0u (Z2F hx).2)).elim
     rw[hn]at h
     subst h
     exact⟨rfl,rfl,.inl ⟨hb,rfl⟩⟩
 have hlen:(Zg8 m Hs' 0 Hc).length=Hc.length:=by
  have:∀(H:Z00)(i:Nat),(Zg8 m Hs' i H).length=H.length:=by
   intro H
   induction H with
   |nil=>intro i;rfl
   |cons o H ih=>intro i;simp[Zg8,ih]
  exact this _ _
 have hnr:∀c,c<W.heap.size->(∀(b:Nat)(o:AObj) p,Hc[b]? = some o->o.alive=true -> ι b=some p->p.blk≠c)->W'.heap[c]? = W.heap[c]?:=λc hc hno=>by
  refine hst.frame c hc λi o2 p2 hi ha hp2 e=>?_
  obtain⟨b,_,hb,hp3⟩:=atm hp2
  obtain⟨_,o,_,_,_,y2,_,y4,_⟩:=inm b hb
  exact hno b o p2 y2 y4 hp3 e
 have hR':R sn ι (Zg8 m Hs' 0 Hc) W':=by
  refine⟨λb=>by rw[hlen];exact hR.dom b,λb p hp=>Y0w (hR.blk b p hp) hst.size,λb o' p hb ha hp=>?_,λb b' o o' p p' hb hb' ha ha' hp hp' e=>?_,λa v hv=>?_,λb o' p hb hp e=>?_⟩
  · obtain⟨o,ho,_,_,h|⟨i,x,h1,h2,h3,h4,h5⟩⟩:=hup b o' hb
    · obtain⟨h1,rfl⟩:=h
      exact Z0W (Le.refl _ _) (old b _ p ho ha h1 hp) (hR.obj b _ p ho ha hp)
    · rw[h4]
      have hi:i<m.length:=(Y0b.1 h1).1
      have h6:=hst.rel.obj i x p h2 (by rw[<- h3];exact ha) (hfwd i b p h1 hp)
      have h7:=(hg2 i _ x (Y05 (by omega)) h2).2.2.2
      exact Zet x.body (Z5m x.body p (λy hy=>hback y (Z1i h7 y hy)) (ZfY x.body (Z6S hro h2) h6))
  · obtain⟨x,hx,e1,e2,hz⟩:=hup b o hb
    obtain⟨y,hy,e3,e4,hw⟩:=hup b' o' hb'
    have hxa:x.alive=true:=by
     rcases hz with ⟨_,rfl⟩|⟨_,_,_,_,_,_,h⟩
     ·exact ha
     ·exact h
    have hya:y.alive=true:=by
     rcases hw with ⟨_,rfl⟩|⟨_,_,_,_,_,_,h⟩
     ·exact ha'
     ·exact h
    have:=hR.sep b b' x y p p' hx hy hxa hya hp hp' e
    rw[e1,e2,e3,e4];exact this
  · obtain⟨h1,h2,h3⟩:=hR.snap a v hv
    refine⟨Y0w h1 hst.size,?_,λb o' p hb ha hp=>?_⟩
    ·rw[<- h2];exact World.cell?_of_block (hnr _ h1 h3)
    · obtain⟨o,ho,_,_,h|⟨i,x,_,_,_,_,h5⟩⟩:=hup b o' hb
      ·obtain⟨_,rfl⟩:=h;exact h3 b _ p ho ha hp
      ·exact h3 b o p ho h5 hp
  · obtain⟨o,ho,_,e2,_⟩:=hup b o' hb
    exact hR.shz b o p ho hp (by rw[<- e2];exact e)
 refine⟨v,sn,ι,rfl,?_,hR',Le.refl _ _,λ_ _ h=>.inl h,hnr,hst.size,hst.os,hst.tape,hst.output,λ_ _ h=>.inl h,λb o hb=>?_⟩
 ·exact (Z7j r v).2 (Z1X r [] v (λy hy=>hback y (Z1i hrk y hy)) (Z5k r v hrr hv))
 · have hb':b<(Zg8 m Hs' 0 Hc).length:=by rw[hlen];exact (Y0b.1 hb).1
   have hx:=Y05 hb'
   obtain⟨x,hx1,e1,e2,h|⟨i,y,h1,h2,h3,h4,h5⟩⟩:=hup b _ hx
   · rw[hb]at hx1;cases hx1
     exact⟨_,hx,e1,e2,λha=>by rw[h.2]at ha;exact ha⟩
   · rw[hb]at hx1;cases hx1
     exact⟨_,hx,e1,e2,λ_=>h5⟩
end Go.Abs
end
section
namespace Go.Abs
open Go.RowKit
theorem Wk.nil{m:List Nat}{z:Nat}:Wk m .nslice (.rs 0 z []):=λsn ι v h=>by simp only[VR]at h⊢;exact .inl ⟨trivial,trivial,h⟩
theorem swA{A B:Prop}(h:A):Ziw (A/\B) B:=λb=>⟨h,b⟩
theorem stw{P Q:Prop}(q:Q)(h:Ziw P Q:=by
 first
 |(refine swA (Wk.int ?_);(focus (first|rfl|omega|(simp;done)|(simp;omega))))|(refine swA (Wk.bool ?_);(focus (first|rfl|(simp;done))))|exact swA (Wk.noref rfl)
 |exact swA (Wk.ptr rfl rfl)|(refine swA (Wk.slice rfl ?_ ?_ ?_ ?_ ?_);(focus (first|rfl|omega));(focus (first|rfl|omega));(focus (first|rfl|omega));(focus (first|rfl|omega));(focus rfl))|exact swA Wk.nil|exact swA (Wk.func trivial ⟨Wk.ptr rfl rfl,trivial⟩)|exact swA (Wk.map rfl)):P:=h q
theorem ValOK.weak{P:Program}{gl:Z0l}{f:Nat}{args args2:List AV}{r:AV}(h:ValOK P gl f args2 r)(hw:∀sn vs,LR sn noI args vs->LR sn noI args2 vs):ValOK P gl f args r :=
 λsn W cargs hg hR ha=>h sn W cargs hg hR (hw _ _ ha)
theorem Z9x{z:Nat}{sn:Z0n}{ι : Z0j}{v:Value}(h:VR sn ι .nslice v):VR sn ι (.rs 0 z []) v:=by simp only[VR]at h⊢;exact .inl ⟨trivial,trivial,h⟩
section
open Classical
noncomputable def Zsh{I:Type}(G:I->Prop)(fF:I->Nat)(fA:I->List AV)(fR:I->AV):Orc:=Zoz λf args=>if h:∃i,G i/\fF i=f/\fA i=args then some (fR (Classical.choose h)) else none
theorem ZhU{P:Program}{gl:Z0l}{I:Type}{G:I->Prop}{fF:I->Nat}{fA:I->List AV}{fR:I->AV}(h:∀i,G i->refsL (fA i) []=[]/\ValOK P gl (fF i) (fA i) (fR i)):Z06 P gl (Zsh G fF fA fR):=Z7B λf args r e=>by
 split at e
 · rename_i hx
   simp only[Option.some.injEq]at e
   subst e
   obtain⟨g1,e1,e2⟩:=Classical.choose_spec hx
   have:=h _ g1
   rw[e1,e2]at this;exact this
 ·cases e
theorem ZuQ {P : Program} {I : Type} {G : I -> Prop} {fF : I -> Nat} {fA : I -> List AV} {fR : I -> AV} (hinj : ∀ i j, G i -> G j -> fF i = fF j -> fA i = fA j -> fR i = fR j) {H : Z00} (i : I) (hb : Z09 P (fF i) = true) (hi : G i) :
  Z03 P (Zsh G fF fA fR) H (fF i) (fA i)=some (fR i,H):=by
 have hx:∃j,G j/\fF j=fF i/\fA j=fA i:=⟨i,hi,rfl,rfl⟩
 unfold Z03
 rw[if_pos hb]
 unfold Zsh Zoz
 simp only[dif_pos hx]
 obtain⟨g1,g2,g3⟩:=Classical.choose_spec hx
 rw[hinj _ i g1 hi g2 g3]
theorem Z3Q{I:Type}{G:I->Prop}{fF:I->Nat}{fA:I->List AV}{fH:I->Z00}{fR:I->AV}{fO:I->Z00}{g:Nat}{args:List AV}{H:Z00}(h:∀i,G i->fF i=g->fA i≠args):orcI G fF fA fH fR fO g args H=none:=by
 unfold orcI
 rw[dif_neg]
 rintro⟨i,h1,h2,h3,_⟩
 exact h i h1 h2 h3
end
theorem callOr1{P:Program}{o1 o2:Orc}{H:Z00}{g:Nat}{args:List AV}{x:AV×Z00}(hb:Z09 P g=true)(h:Z03 P o1 H g args=some x):Z03 P (Z4f o1 o2) H g args=some x:=by
 unfold Z03 at h⊢
 rw[if_pos hb]at h⊢
 unfold Z4f;rw[h]
theorem Z6l{P:Program}{o1 o2:Orc}{H:Z00}{g:Nat}{args:List AV}{x:AV×Z00}(hb:Z09 P g=true)(h1:o1 g args H=none)(h:Z03 P o2 H g args=some x):Z03 P (Z4f o1 o2) H g args=some x:=by
 unfold Z03 at h⊢
 rw[if_pos hb]at h⊢
 unfold Z4f;rw[h1];exact h
structure Fam (P:Program) (gl:Z0l) where
 I:Type
 f:Nat
 G:I->Prop
 A:I->List AV
 R:I->AV
 body:Z09 P f=true
 inj:∀i j,G i->G j->A i=A j->R i=R j
 ok:∀i,G i->refsL (A i) []=[]/\ValOK P gl f (A i) (R i)
structure FamM (P:Program) (gl:Z0l) where
 I:Type
 f:Nat
 G:I->Prop
 A:I->List AV
 H:I->Z00
 R:I->AV
 O:I->Z00
 body:Z09 P f=true
 inj:∀i j,G i->G j->A i=A j->H i=H j->R i=R j/\O i=O j
 ok:∀i,G i->Z1b P gl f (A i) (H i) (R i) (O i)
section
variable {P:Program} {gl:Z0l}
def Fam.Ask(F:Fam P gl)(O:Orc):Prop:=∀i,F.G i->∀H,Z03 P O H F.f (F.A i)=some (F.R i,H)
def FamM.Ask(F:FamM P gl)(O:Orc):Prop:=∀i,F.G i->Z03 P O (F.H i) F.f (F.A i)=some (F.R i,F.O i)
def AllAsk(O:Orc):List (Fam P gl)->Prop
 |[]=>True
 |F::l=>F.Ask O/\AllAsk O l
def AllAskM(O:Orc):List (FamM P gl)->Prop
 |[]=>True
 |F::l=>F.Ask O/\AllAskM O l
theorem ZfL{o O:Orc}{f:Nat}(ho:∀g args H,g≠f->o g args H=none):(∀F:Fam P gl,F.f≠f->F.Ask O->F.Ask (Z4f o O))/\(∀F:FamM P gl,F.f≠f->F.Ask O->F.Ask (Z4f o O)) :=
 ⟨λF hf h i hi H=>Z6l F.body (ho _ _ _ hf) (h i hi H),λF hf h i hi=>Z6l F.body (ho _ _ _ hf) (h i hi)⟩
theorem Zcr:∀(l:List (Fam P gl)),Z0F (l.map (·.f))=true->∃O,Z06 P gl O/\AllAsk O l
 |[],_=>⟨λ_ _ _=>none,(λf args H r H' h=>by cases h),trivial⟩
 |F::l,h=>by
  simp only[Y0x,Z0F,Y0a,Y0v]at h
  obtain⟨O,hO,ha⟩:=Zcr l h.2
  have ho:∀g args H,g≠F.f->Zsh F.G (λ_=>F.f) F.A F.R g args H=none:=by
   intro g args H hg
   have:¬ ∃i,F.G i/\F.f=g/\F.A i=args:=by
    rintro⟨i,_,h2,_⟩
    exact hg h2.symm
   simp only[Zsh,Zoz,dif_neg this]
  refine⟨Z4f (Zsh F.G (λ_=>F.f) F.A F.R) O,Z1T (ZhU F.ok) hO,λi hi H=>callOr1 F.body (ZuQ (λi j hi hj _ ha=>F.inj i j hi hj ha) i F.body hi),?_⟩
  have hn:∀G∈l,G.f≠F.f:=λG hG e=>by
   have h1:=h.1
   have:mem F.f (l.map (·.f))=true:=Z1q.2 (by rw[<- e];exact List.mem_map_of_mem hG)
   rw[this]at h1;cases h1
  clear h
  induction l with
  |nil=>trivial
  |cons G l ih =>
   exact⟨(ZfL ho).1 G (hn G (by simp)) ha.1,ih ha.2 λK hK=>hn K (by simp[hK])⟩
theorem fams(l:List (Fam P gl))(h:Z0F (l.map (·.f))=true):∃O,Z06 P gl O/\AllAsk O l:=Zcr l h
theorem AllAsk.add{o O:Orc}{f:Nat}(ho:∀g args H,g≠f->o g args H=none):∀{l:List (Fam P gl)},mem f (l.map (·.f))=false->AllAsk O l->AllAsk (Z4f o O) l
 |[],_,_=>trivial
 |F::l,h,ha=>by
  simp only[Y0x,mem,Bool.or_eq_false_iff]at h
  exact⟨(ZfL ho).1 F (λe=>by rw[e]at h;simp at h) ha.1,AllAsk.add ho h.2 ha.2⟩
theorem AllAskM.add{o O:Orc}{f:Nat}(ho:∀g args H,g≠f->o g args H=none):∀{l:List (FamM P gl)},mem f (l.map (·.f))=false->AllAskM O l->AllAskM (Z4f o O) l
 |[],_,_=>trivial
 |F::l,h,ha=>by
  simp only[Y0x,mem,Bool.or_eq_false_iff]at h
  exact⟨(ZfL ho).2 F (λe=>by rw[e]at h;simp at h) ha.1,AllAskM.add ho h.2 ha.2⟩
theorem Z13:∀(m:List (FamM P gl))(l:List (Fam P gl)),Z0F (m.map (·.f)++l.map (·.f))=true->∃O,Z06 P gl O/\AllAskM O m/\AllAsk O l
 |[],l,h=>by
  obtain⟨O,h1,h2⟩:=Zcr l h
  exact⟨O,h1,trivial,h2⟩
 |F::m,l,h=>by
  simp only[Y0x,Y0n,Z0F,Y0a,Y0v]at h
  obtain⟨O,hO,ha,hb⟩:=Z13 m l h.2
  have ho:∀g args H,g≠F.f->orcI F.G (λ_=>F.f) F.A F.H F.R F.O g args H=none:=λg args H hg=>Z3Q λi _ e=>absurd e.symm hg
  have hmem:∀{a b:List Nat},mem F.f (a++b)=false->mem F.f a=false/\mem F.f b=false:=by
   intro a b h
   constructor
   · cases hx:mem F.f a with
     |false=>rfl
     |true=>rw[Z1q.2 (List.mem_append.2 (.inl (Z1q.1 hx)))]at h;cases h
   · cases hx:mem F.f b with
     |false=>rfl
     |true=>rw[Z1q.2 (List.mem_append.2 (.inr (Z1q.1 hx)))]at h;cases h
  obtain⟨n1,n2⟩:=hmem h.1
  refine⟨Z4f (orcI F.G (λ_=>F.f) F.A F.H F.R F.O) O,Z1T (Z2o F.ok) hO,⟨λi hi=>callOr1 F.body (ZfD (λi j hi hj _ ha hh=>F.inj i j hi hj ha hh) F.body i hi rfl rfl rfl),AllAskM.add ho n1 ha⟩,AllAsk.add ho n2 hb⟩
end
theorem hbp{a b:Bool}{f i s s2:Nat}{m:List Nat}{cs cs2:List AV}{ty:TypeId}(h1:a=true:=by rfl)(h2:b=true:=by rfl)(h3:f=i:=by rfl)(h4:s2=s:=by rfl)(h5:cs=cs2++[]:=by rfl)(h6:refsL cs2 []=[]:=by rfl):a=true/\b=true/\f=i/\s2=s/\BodyGe m (.cells cs ty) (.cells cs2 ty):=⟨h1,h2,h3,h4,BodyGe.pre (rest:=[]) h5 h6⟩
theorem wks{P:Prop}(h:P:=by (repeat (first|exact trivial|refine stw ?_));done):P:=h
theorem neS{α : Type}{l:List α}(h:l≠[]:=by first|exact List.cons_ne_nil _ _|assumption|(simp;done)|(intro hz;simp only[List.append_eq_nil_iff]at hz;simp_all;done)):l≠[]:=h
theorem leS{P:Prop}(h:P:=by (try simp only[List.length_append,List.length_cons,List.length_nil]at *);omega):P:=h
end Go.Abs
end
section
namespace Go.Abs
open Go.RowKit
theorem ZtK {P : Program} {t t2 e : TypeId} {z by_ : Nat} (hT : Zhl P t t2 = some (e, z, by_)) {H : Z00} {x : AV} {xs : List AV} (hx : Z2A H z x = some (0, xs)) :
  Z1j P t t2 .nslice x H=some (.nslice,H):=by
 obtain⟨h1,i,u,h2,h3,h4,rfl,rfl⟩:=Z5f hT
 simp only[Z1j,h1,h2,h3]
 rw[if_pos h4]
 simp only[hx,if_true]
def Ztu(f e:Nat):Z00->Prop
 |[]=>True
 |o::H=>(o.fam≠f\/o.sh+o.body.len<=e)/\Ztu f e H
theorem ZgX{f e:Nat}:∀{H:Z00},Ztu f e H->∀o∈H,o.fam=f->o.sh+o.body.len<=e
 |[],_,o,h,_=>by cases h
 |x::H,h,o,ho,hf=>by
  rcases Y0e.1 ho with rfl|ho
  · rcases h.1 with h1|h1
    ·exact absurd hf h1
    ·exact h1
  ·exact ZgX h.2 o ho hf
theorem Zrv{f e:Nat}{H:Z00}(h:Ztu f e H):Zbr f e H=H:=Zky (ZgX h)
theorem apS{P Q:Prop}(q:Q)(h:Ziw P Q:=by
 first
 |(with_reducible apply s1I (ZtK (by assumption) ?_));(any_goals (exact rfl));done
 |(with_reducible apply s1I (Zhj (by assumption) ?_));(any_goals (exact rfl));done
 |(with_reducible apply s1I (ZlA (by assumption) ?_ ?_ ?_));(any_goals (exact rfl));(all_goals first|omega|(simp only[List.length_cons];omega))
 |(with_reducible apply s1I (Zlz (by assumption) ?_ ?_ (Zrv ?_) ?_ ?_ ?_ ?_));(any_goals (exact rfl));(all_goals first
  |assumption
  |omega
  |(simp only[List.length_cons];omega)
  |(simp[Ztu,ABody.len];done)|(simp[Ztu,ABody.len];omega)
  |(simp;done)|(simp;omega))):P:=h q
end Go.Abs
end
section
namespace Go.Abs
open Go.RowKit
section
open Classical
noncomputable def snO(sn:Z0n)(ι : Z0j)(H:Z00)(W:World):Z0n:=λa=>if ∃ (b:Nat) (o:AObj) (p:Place),H[b]? = some o/\o.alive=true /\ ι b=some p/\p.blk=a.block then W.cell? a else sn a
end
theorem ZrN{W:World}{a:Addr}{v:Value}(hv:W.cell? a=some v):a.block<W.heap.size:=by
 cases hq:W.heap[a.block]? with
 |none=>unfold World.cell? at hv;rw[hq]at hv;simp at hv
 |some ob=>exact (Array.getElem?_eq_some_iff.1 hq).1
end Go.Abs
end
section
namespace Go.Abs
open Go.RowKit
def MemQ(P:Program)(gl:Z0l)(k f:Nat)(args:List AV)(H:Z00)(r:AV)(H':Z00):Prop :=
 ∀(sn:Z0n)(ι : Z0j)(W:World)(cargs:List Value),GlOK gl sn->R sn ι H W->LR sn ι args cargs ->
  CallsY P f cargs.toArray W λe W'=>∃v sn' ι',e = .returned v/\VR sn' ι' r v/\Stq k sn ι H W sn' ι' H' W'
def Znt(P:Program)(l:List ResultVar)(k:Nat)(r:AV)(N:Z00)(tm:Tr)(H:Z00):Prop :=
 onO (Z2T P tm H l) λvs=>∃m,ZeB k 0 m=true/\HpGe H m m N 0/\Z0F (m.map (Z0O H))=true/\Wk m (Z1n vs) r
theorem fn_memqR {rf : AV -> Array Tmp -> Code -> Code -> KN -> KX -> KN -> Tr -> Z00 -> Prop} {P : Program} {gl : Z0l} {orc : Orc} {k : Nat} (hrf : Zu4 P gl none k rf) (hm : P.follows .mixedOrders = true) (hn : NoNum P) (hO : Z06 P gl orc) {f : Nat} {fn : Func} {c : Code} {args : List AV} {H0 N : Z00} {r : AV}
  (hf:P.funcs[f]? = some fn) (hc:fn.body=some c) {cw:CW} (hcw:Zex P orc cw)
  (h:Z4l (tmk (Z9b args fn.ntmps args.length) (Z8J 20 fn.ntmps)) λtm=>Z2f P gl orc cw ⟨Z7J k,rf⟩ c (Znt P fn.results.toList k r N) (λ_ _ _=>False) (Znt P fn.results.toList k r N) tm H0):MemQ P gl k f args H0 r N:=by
 intro sn ι W cargs hg hR ha
 rw[Z3r]at h
 refine .inl (Z3y hf hc (Z1N (rd:=none) hrf hm hn hO hcw c h) hg hR ha (λ_ _ _ h=>h) λx tm1 H a1 W1 sn1 ι1 hx s1 t1=>?_)
 have key:Znt P fn.results.toList k r N tm1 H->∃v,(results fn a1.tmps).run P W1 = .ok v W1/\∃sn' ι',VR sn' ι' r v/\Stq k sn ι H0 W sn' ι' N W1:=by
  intro h
  obtain⟨us,h1,m,h0,h2,h3,h4⟩:=Z02 h
  obtain⟨vs,k1,k2⟩:=Z1H s1.rel t1 _ _ h1
  obtain⟨hS,_⟩:=Fg.sound (k:=k) (m:=m) (tm:=tm1) (tm2:=Zi0 (λ_=>none) tm1) ⟨⟨λn u2 e=>(by have:=Z6U _ _ _ _ e;cases this),λn e=>(by rw[Z8Q]at e;exact e)⟩,h2,h3,h0⟩ s1.rel t1
  exact⟨_,Z20 k2,sn1,iot m ι1,h4 _ _ _ (Z9l (fn:=fn) k1),s1.trans hS⟩
 cases x with
 |normal =>
  obtain⟨v,k1,sn',ι',k2,k3⟩:=key hx
  exact⟨v,k1,v,sn',ι',rfl,k2,k3⟩
 |exit id=>exact hx.elim
 |ret =>
  obtain⟨v,k1,sn',ι',k2,k3⟩:=key hx
  exact⟨v,k1,v,sn',ι',rfl,k2,k3⟩
theorem Zka {P : Program} {gl : Z0l} {orc : Orc} (hm : P.follows .mixedOrders = true) (hn : NoNum P) (hO : Z06 P gl orc) {f k : Nat} {fn : Func} {c : Code} {args : List AV} {H0 N : Z00} {r : AV}
  (hf:P.funcs[f]? = some fn) (hc:fn.body=some c) {cw:CW} (hcw:Zex P orc cw)
  (h:Z4l (tmk (Z9b args fn.ntmps args.length) (Z8J 20 fn.ntmps)) λtm=>Z2f P gl orc cw (ZaK k) c (Znt P fn.results.toList k r N) (λ_ _ _=>False) (Znt P fn.results.toList k r N) tm H0):MemQ P gl k f args H0 r N :=
 fn_memqR (λ_ _ _ _ _ _ _ _ _ _ _ h=>h.elim) hm hn hO hf hc hcw h
theorem Z0K {P : Program} {gl : Z0l} {orc : Orc} (hm : P.follows .mixedOrders = true) (hn : NoNum P) (hO : Z06 P gl orc) {f k : Nat} {fn : Func} {c : Code} {args : List AV} {H0 N : Z00} {r : AV}
  (hf:P.funcs[f]? = some fn) (hc:fn.body=some c)
  (h:Z4l (tmk (Z9b args fn.ntmps args.length) (Z8J 20 fn.ntmps)) λtm=>Z2f P gl orc (cw0 P orc) (ZaK k) c (Znt P fn.results.toList k r N) (λ_ _ _=>False) (Znt P fn.results.toList k r N) tm H0):MemQ P gl k f args H0 r N :=
 Zka hm hn hO hf hc (Zab P orc) h
theorem Z1J {P : Program} {gl : Z0l} {orc : Orc} (isC : Nat -> Bool) (n : Nat) (hm : P.follows .mixedOrders = true) (hn : NoNum P) (hO : Z06 P gl orc) {f k : Nat} {fn : Func} {c : Code} {args : List AV} {H0 N : Z00} {r : AV}
  (hf:P.funcs[f]? = some fn) (hc:fn.body=some c)
  (h:Z4l (tmk (Z9b args fn.ntmps args.length) (Z8J 20 fn.ntmps)) λtm=>Z2f P gl (ZhT P gl orc isC n) (Zmc P gl orc isC n) (ZaK k) c (Znt P fn.results.toList k r N) (λ_ _ _=>False) (Znt P fn.results.toList k r N) tm H0):MemQ P gl k f args H0 r N :=
 Zka hm hn (Z0a hm hn hO n) hf hc (Z0r n) h
def Zey(m:List Nat)(σ : Nat->Nat)(k:Nat)(Hs:Z00):Nat->Z00->Z00
 |_,[]=>[]
 |i,o::H=>(match Z4D m i 0 with
  |some j=>if Nat.blt j k then (match Hs[j]? with
   |some o'=>{ o with alive:=o'.alive,body:=Z7A σ o'.body }
   |none=>o) else o.dead
  |none=>o)::Zey m σ k Hs (i+1) H
theorem Z8G (m : List Nat) (σ : Nat -> Nat) (k : Nat) (Hs : Z00) : ∀ (H : Z00) (i b : Nat), (Zey m σ k Hs i H)[b]? = (H[b]?).map fun o => match Z4D m (i + b) 0 with
  |some j=>if Nat.blt j k then (match Hs[j]? with
   |some o'=>{ o with alive:=o'.alive,body:=Z7A σ o'.body }
   |none=>o) else o.dead
  |none=>o
 |[],i,b=>by simp[Zey]
 |o::H,i,0=>by
  simp only[Zey,List.getElem?_cons_zero,Y0m,Nat.add_zero]<;>rfl
 |o::H,i,b+1=>by
  simp only[Zey,List.getElem?_cons_succ]
  rw[Z8G m σ k Hs H (i+1) b,show i+1+b=i+(b+1) by omega]
theorem Zg6(m:List Nat)(σ : Nat->Nat)(k:Nat)(Hs:Z00):∀(H:Z00)(i:Nat),(Zey m σ k Hs i H).length=H.length
 |[],i=>rfl
 |o::H,i=>by simp only[Zey,Y0i,Zg6 m σ k Hs H (i+1)]
def Z3T(m fs:List Nat):Nat->Z00->Bool
 |_,[]=>true
 |i,o::H=>(mem i m || (!o.alive || !mem o.fam fs))&&Z3T m fs (i+1) H
theorem Z9E{m fs:List Nat}:∀{H:Z00}{i j:Nat}{o:AObj},Z3T m fs i H=true->H[j]? = some o->o.alive=true->i+j∈m\/o.fam ∉ fs
 |[],i,j,o,h,e,_=>by simp at e
 |x::H,i,0,o,h,e,ha=>by
  simp only[Z3T,Y0a,Bool.or_eq_true,Y0v]at h
  simp at e;subst e
  rcases h.1 with h1|h1|h1
  ·exact .inl (Z1q.1 h1)
  ·rw[ha]at h1;cases h1
  ·exact .inr λe=>by rw[Z1q.2 e]at h1;cases h1
 |x::H,i,j+1,o,h,e,ha=>by
  simp only[Z3T,Y0a]at h
  have:=Z9E h.2 (by simpa using e) ha
  rcases this with h1|h1
  ·exact .inl (by rw[show i+(j+1)=i+1+j by omega];exact h1)
  ·exact .inr h1
def sig(m:List Nat)(k d:Nat)(b:Nat):Nat:=if b<k then m.getD b 0 else d
theorem Zb8 {P : Program} {gl : Z0l} {f k : Nat} {Hs Hs' Hc : Z00} {fargs cargs : List AV} {r : AV} {m : List Nat} {n F : Nat} {bL : ABody} (hM : MemQ P gl k f fargs Hs r Hs') (hargs : Z22 (Z7O m (Zav m Hc) n) cargs = some fargs) (hsub : HpGe Hc m m Hs 0)
  (hnd:Z0F (m.map (Z0O Hc))=true) (hlone:Z3T m (m.map (Z0O Hc)) 0 Hc=true) (hlen':Hs'.length=k+1) (hL:Hs'[k]? = some ⟨true,k,0,bL⟩)
  (hg2:∀(i:Nat)(o:AObj),Hs'[i]? = some o->o.fam=i/\o.alive=true/\Z1a (k+1) (Z4d o.body [])=true) (hs0:∀(i:Nat)(o:AObj),Hs[i]? = some o->o.sh=0)
  (hro:Zfd Hs'=true) (hrr:ZeE r=true) (hrk:Z1a (k+1) (Z1m r [])=true) (hF:(m.length=k/\∀o∈Hc,o.fam<F)\/(m.length=k+1/\F=Z0O Hc (m.getD k 0))) :
  Z1b P gl f cargs Hc (ren (sig m k Hc.length) r) (Zey m (sig m k Hc.length) k Hs' 0 Hc++[⟨true,F,0,Z7A (sig m k Hc.length) bL⟩]):=by
 intro sn ι W vargs hg hR hl
 obtain⟨hl1,hg1⟩:=hsub.get
 have hmk:k<=m.length/\m.length<=k+1:=by rcases hF with ⟨h,_⟩|⟨h,_⟩<;>omega
 have inm:∀b,b∈m->∃ (i:Nat) (o o2:AObj) (p:Place),m[i]? = some b/\Hc[b]? = some o/\Hs[i]? = some o2/\o.alive=true/\o2.alive=true /\ ι b=some p:=by
  intro b hb
  obtain⟨i,hi,rfl⟩:=List.mem_iff_getElem.1 hb
  obtain⟨j,o,o2,x1,x2,x3,x4,x5,_⟩:=hg1 i hi
  rw[Y05 hi]at x1
  cases x1
  obtain⟨p,hp⟩:=hR.place x2
  exact⟨i,o,o2,p,Y05 hi,x2,x3,x4,x5,hp⟩
 have apart_:∀(b:Nat)(o:AObj)(p:Place),Hc[b]? = some o->o.alive=true->b ∉ m -> ι b=some p->∀b' p',b'∈m -> ι b'=some p'->p'.blk≠p.blk:=by
  intro b o p ho hoa hb hp b' p' hb' hp' e
  obtain⟨i,o',o2,q,y1,y2,y3,y4,y5,y6⟩:=inm b' hb'
  have hs:=hR.sep b b' o o' p p' ho y2 hoa y4 hp hp' e.symm
  rcases Z9E hlone ho hoa with h|h
  ·exact hb (by simpa using h)
  · refine h ?_
    rw[List.mem_map]
    exact⟨b',hb',by simp only[Z0O,y2];exact hs.1.symm⟩
 let q:Nat->Prop:=λc=>∃b p,b∈m /\ ι b=some p/\p.blk=c
 let sn2:Z0n:=λa=>open Classical in if q a.block\/¬a.block<W.heap.size then none else W.cell? a
 have hsn2:∀a v,sn2 a=some v->¬q a.block/\a.block<W.heap.size/\W.cell? a=some v:=λa v h=>by
  have h:(open Classical in if q a.block\/¬a.block<W.heap.size then none else W.cell? a)=some v:=h
  split at h
  ·cases h
  · rename_i hx
    simp only[not_or,Classical.not_not]at hx
    exact⟨hx.1,hx.2,h⟩
 have hsn2':∀a v,¬q a.block->a.block<W.heap.size->W.cell? a=some v->sn2 a=some v:=λa v h1 h2 h3=>by
  show (open Classical in if q a.block\/¬a.block<W.heap.size then none else W.cell? a)=some v
  rw[if_neg (by simp only[not_or,Classical.not_not];exact⟨h1,h2⟩)];exact h3
 have hle:∀a v,sn a=some v->sn2 a=some v:=λa v hv=>by
  obtain⟨h1,h2,h3⟩:=hR.snap a v hv
  refine hsn2' a v ?_ h1 h2
  rintro⟨b,p,hb,hp,e⟩
  obtain⟨i,o,o2,p',y1,y2,y3,y4,y5,y6⟩:=inm b hb
  exact h3 b o p y2 y4 hp e
 have hR0:=ZpA hsub hnd hR
 have atm:∀{i:Nat}{p:Place},iot m ι i=some p->∃b,m[i]? = some b/\b∈m /\ ι b=some p:=λ{i p} hp=>by
  unfold iot at hp
  split at hp
  ·rename_i b hb;exact⟨b,hb,Y0u hb,hp⟩
  ·cases hp
 have hRs:R sn2 (iot m ι) Hs W:=by
  refine⟨hR0.dom,hR0.blk,λb o p hb ha hp=>Z0W ⟨hle,λ_ _ h=>h⟩ rfl (hR0.obj b o p hb ha hp),hR0.sep,λa v hv=>?_,hR0.shz⟩
  obtain⟨h1,h2,h3⟩:=hsn2 a v hv
  refine⟨h2,h3,λb o p hb ha hp e=>?_⟩
  obtain⟨c,_,hc,hp'⟩:=atm hp
  exact h1 ⟨c,p,hc,hp',e⟩
 have hla:LR sn2 (iot m ι) fargs vargs:=by
  refine Z6d (H:=Zav m Hc) (W:=W) (λb o p hb ha hp=>?_) (Zcn hle) (λb o p hb ha hp off v hv=>?_) n _ _ _ hargs hl
  ·exact hR.obj b o p (Z8U hb ha).1 ha hp
  · obtain⟨h1,h2⟩:=Z8U hb ha
    refine hsn2' _ v ?_ (hR.blk b p hp) hv
    rintro⟨b',p',hb',hp',e⟩
    exact apart_ b o p h1 ha h2 hp b' p' hb' hp' e
 refine (hM sn2 (iot m ι) W vargs (hg.mono (Zcn hle)) hRs hla).mono ?_
 rintro e W' ⟨v,sn',ι',rfl,hv,hst⟩
 generalize hd:Hc.length=d at *
 obtain⟨pL,hpL⟩:=(hst.rel.dom k).1 (by omega)
 have hshL:pL.sh=0:=hst.rel.shz k _ pL hL hpL rfl
 have hblkL:=hst.rel.blk k pL hpL
 let κ : Z0j:=λb=>if b<d then ι b else if b=d then some pL else none
 have k1:∀b,b<d -> κ b = ι b:=λb hb=>if_pos hb
 have k2 : κ d=some pL:=by show (if d<d then ι d else if d=d then some pL else none)=some pL;rw[if_neg (by omega),if_pos rfl]
 have kinv:∀b p,κ b=some p->(b<d /\ ι b=some p)\/(b=d/\p=pL):=λb p hp=>by
  by_cases hb:b<d
  ·rw[k1 b hb]at hp;exact .inl ⟨hb,hp⟩
  · have hp:(if b<d then ι b else if b=d then some pL else none)=some p:=hp
    rw[if_neg hb]at hp
    split at hp
    ·cases hp;exact .inr ⟨by assumption,rfl⟩
    ·cases hp
 have whereL:W.heap.size<=pL.blk\/∃ (c:Nat) (oc:AObj) (pc:Place),m.length=k+1/\m[k]? = some c/\Hc[c]? = some oc/\oc.alive=true/\oc.sh=0 /\ ι c=some pc/\pc.blk=pL.blk:=by
  rcases hst.fresh k _ pL hL rfl hpL with h|⟨b0,o0,p0,e1,e2,e3,e4⟩
  ·exact .inl h
  · obtain⟨c,hc,hcm,hpc⟩:=atm e3
    have hb0:b0<m.length:=(Y0b.1 hc).1
    obtain⟨j,o,o2,x1,x2,x3,x4,x5,x6,x7,x8⟩:=hg1 b0 hb0
    rw[hc]at x1;cases x1
    by_cases hlt:b0<k
    · exfalso
      have hkeep:=hst.keep b0 p0 hlt e3
      obtain⟨ob,hob⟩:∃ob,Hs'[b0]? = some ob:=⟨_,Y05 (by omega)⟩
      have hs:=hst.rel.sep b0 k ob _ p0 pL hob hL (hg2 b0 ob hob).2.1 rfl hkeep hpL e4
      have h1:=(hg2 b0 ob hob).1
      rw[h1]at hs
      simp at hs
      omega
    · have hbk:b0=k:=by omega
      subst hbk
      rw[e1]at x3;cases x3
      exact .inr ⟨c,o,p0,by omega,hc,x2,x4,by rw[<- x7];exact hs0 _ _ e1,hpc,e4⟩
 have mLt:∀{i b:Nat},m[i]? = some b->b<d:=λ{i b} h=>by
  obtain⟨_,o,_,p,_,y2,_⟩:=inm b (Y0u h)
  rw[<- hd];exact (Y0b.1 y2).1
 have hback:∀i,i<k+1->∀p,ι' i=some p -> κ (sig m k d i)=some p:=λi hi p hp=>by
  by_cases hik:i<k
  · obtain⟨b,hb⟩:∃b,m[i]? = some b:=⟨m[i],Y05 (by omega)⟩
    obtain⟨p0,hp0⟩:=(hRs.dom i).1 (by omega)
    have h1:=hst.keep i p0 hik hp0
    rw[hp]at h1;cases h1
    obtain⟨c,hc,_,hp1⟩:=atm hp0
    rw[hb]at hc;cases hc
    have:sig m k d i=b:=by unfold sig;rw[if_pos hik,Y0k,hb];rfl
    rw[this,k1 b (mLt hb)];exact hp1
  · have:i=k:=by omega
    subst this
    rw[hpL]at hp;cases hp
    have:sig m i d i=d:=by unfold sig;rw[if_neg (by omega)]
    rw[this];exact k2
 have pos_:∀b,b∈m->∃i,Z4D m b 0=some i/\m[i]? = some b:=λb hb=>by
  cases hx:Z4D m b 0 with
  |none=>exact (Z6N hx hb).elim
  |some i=>exact⟨i,rfl,by simpa using (Z2F hx).2⟩
 have old:∀(b:Nat)(o:AObj)(p:Place),Hc[b]? = some o->o.alive=true->b ∉ m -> ι b=some p->W'.heap[p.blk]? = W.heap[p.blk]?:=λb o p ho hoa hb hp=>by
  refine hst.frame _ (hR.blk b p hp) λi o2 p2 hi ha hp2 e=>?_
  obtain⟨c,_,hc,hp3⟩:=atm hp2
  exact apart_ b o p ho hoa hb hp c p2 hc hp3 e
 have hup:∀(b:Nat)(o':AObj),(Zey m (sig m k d) k Hs' 0 Hc)[b]? = some o'->∃o,Hc[b]? = some o/\o'.fam=o.fam/\o'.sh=o.sh/\((b ∉ m/\o'=o)\/(∃ (i:Nat) (x:AObj),i<k/\m[i]? = some b/\Hs'[i]? = some x/\o'.alive=x.alive/\o'.body=Z7A (sig m k d) x.body/\o.alive=true)\/o'.alive=false):=by
  intro b o' h
  rw[Z8G]at h
  simp only[Y0j]at h
  cases hx:Hc[b]? with
  |none=>rw[hx]at h;cases h
  |some o =>
   rw[hx]at h
   simp only[Y0m,Option.some.injEq]at h
   refine⟨o,rfl,?_⟩
   by_cases hb:b∈m
   · obtain⟨i,h1,h2⟩:=pos_ b hb
     have hi:i<m.length:=(Y0b.1 h2).1
     rw[h1]at h
     by_cases hik:i<k
     · have hi':i<Hs'.length:=by omega
       simp only[Nat.blt_eq,hik,Y05 hi',if_true]at h
       subst h
       obtain⟨_,y,_,_,_,y2,_,y4,_⟩:=inm b hb
       rw[hx]at y2;cases y2
       exact⟨rfl,rfl,.inr (.inl ⟨i,Hs'[i],hik,h2,Y05 hi',rfl,rfl,y4⟩)⟩
     · simp only[Nat.blt_eq,hik,if_false]at h
       subst h
       exact⟨rfl,rfl,.inr (.inr rfl)⟩
   · have hn : Z4D m b 0 = none := by
      cases hx:Z4D m b 0 with
      |none=>rfl
      |some i=>exact (hb (Y0u (Z2F hx).2)).elim
     rw[hn]at h
     subst h
     exact⟨rfl,rfl,.inl ⟨hb,rfl⟩⟩
 have hlen:(Zey m (sig m k d) k Hs' 0 Hc).length=d:=by rw[Zg6,hd]
 have hget : ∀ (b : Nat) (o' : AObj) (p : Place), (Zey m (sig m k d) k Hs' 0 Hc ++ [⟨true, F, 0, Z7A (sig m k d) bL⟩])[b]? = some o' -> κ b = some p ->
   (b<d /\ ι b=some p/\(Zey m (sig m k d) k Hs' 0 Hc)[b]? = some o')\/(b=d/\p=pL/\o'=⟨true,F,0,Z7A (sig m k d) bL⟩):=by
  intro b o' p hb hp
  rcases kinv b p hp with ⟨h1,h2⟩|⟨rfl,rfl⟩
  · rw[Y0o (by omega)]at hb
    exact .inl ⟨h1,h2,hb⟩
  · rw[Y0y (by omega),hlen,Nat.sub_self]at hb
    simp at hb
    exact .inr ⟨rfl,rfl,hb.symm⟩
 have hnr:∀c,c<W.heap.size->(∀(b:Nat)(o:AObj) p,Hc[b]? = some o->o.alive=true -> ι b=some p->p.blk≠c)->W'.heap[c]? = W.heap[c]?:=λc hc hno=>by
  refine hst.frame c hc λi o2 p2 hi ha hp2 e=>?_
  obtain⟨b,_,hb,hp3⟩:=atm hp2
  obtain⟨_,o,_,_,_,y2,_,y4,_⟩:=inm b hb
  exact hno b o p2 y2 y4 hp3 e
 have sepL:∀(b:Nat)(o:AObj)(p:Place),Hc[b]? = some o->o.alive=true -> ι b=some p->p.blk=pL.blk->o.fam=F/\p.sh=o.sh:=by
  intro b o p ho hoa hp e
  rcases whereL with h|⟨c,oc,pc,g1,g2,g3,g4,g5,g6,g7⟩
  ·have:=hR.blk b p hp;omega
  · have hs:=hR.sep c b oc o pc p g3 ho g4 hoa g6 hp (g7.trans e.symm)
    have hpc:=hR.shz c oc pc g3 g6 g5
    rcases hF with ⟨h,_⟩|⟨_,h⟩
    ·omega
    · have:m.getD k 0=c:=by rw[Y0k,g2];rfl
      rw[this]at h
      simp only[Z0O,g3]at h
      exact⟨by rw[h];exact hs.1.symm,by omega⟩
 have halx:∀{b:Nat}{o x:AObj},((b ∉ m/\o=x)\/(∃ (i:Nat) (y:AObj),i<k/\m[i]? = some b/\Hs'[i]? = some y/\o.alive=y.alive/\o.body=Z7A (sig m k d) y.body/\x.alive=true)\/o.alive=false)->o.alive=true->x.alive=true:=by
  intro b o x hz ha
  rcases hz with ⟨_,rfl⟩|⟨_,_,_,_,_,_,_,h⟩|h
  ·exact ha
  ·exact h
  ·rw[h]at ha;cases ha
 have hR':R sn κ (Zey m (sig m k d) k Hs' 0 Hc++[⟨true,F,0,Z7A (sig m k d) bL⟩]) W':=by
  refine⟨λb=>⟨λhb=>?_,λ⟨p,hp⟩=>?_⟩,λb p hp=>?_,λb o' p hb ha hp=>?_,λb b' o o' p p' hb hb' ha ha' hp hp' e=>?_,λa v hv=>?_,λb o' p hb hp e=>?_⟩
  · simp only[Y0p,hlen,Y0i,List.length_nil]at hb
    by_cases hlt:b<d
    ·rw[k1 b hlt];exact (hR.dom b).1 (by omega)
    · have:b=d:=by omega
      subst this;exact⟨pL,k2⟩
  · simp only[Y0p,hlen,Y0i,List.length_nil]
    rcases kinv b p hp with ⟨h1,_⟩|⟨h1,_⟩<;>omega
  · rcases kinv b p hp with ⟨_,h1⟩|⟨_,rfl⟩
    ·exact Y0w (hR.blk b p h1) hst.size
    ·exact hblkL
  · rcases hget b o' p hb hp with ⟨b1,b2,b3⟩|⟨b1,rfl,rfl⟩
    · obtain⟨o,ho,_,_,h|⟨i,x,h0,h1,h2,h3,h4,h5⟩|h⟩:=hup b o' b3
      · obtain⟨h1,rfl⟩:=h
        refine Z0W ⟨λ_ _ h=>h,λc p hc=>?_⟩ (old b _ p ho ha h1 b2) (hR.obj b _ p ho ha b2)
        rw[k1 c (by have:=(hR.dom c).2 ⟨p,hc⟩;omega)];exact hc
      · rw[h4]
        have hi':=hst.rel.obj i x p h2 (by rw[<- h3];exact ha) (hst.keep i p h0 (by simp only[iot,h1];exact b2))
        have h7:=(hg2 i x h2).2.2
        exact Zet x.body (Z5m x.body p (λy hy=>hback y (Z1i h7 y hy)) (ZfY x.body (Z6S hro h2) hi'))
      ·rw[h]at ha;cases ha
    · have hi':=hst.rel.obj k _ p hL rfl hpL
      have h7:=(hg2 k _ hL).2.2
      exact Zet bL (Z5m bL p (λy hy=>hback y (Z1i h7 y hy)) (ZfY bL (Z6S hro hL) hi'))
  · rcases hget b o p hb hp with ⟨b1,b2,b3⟩|⟨b1,rfl,rfl⟩<;>rcases hget b' o' p' hb' hp' with ⟨c1,c2,c3⟩|⟨c1,rfl,rfl⟩
    · obtain⟨x,hx,e1,e2,hz⟩:=hup b o b3
      obtain⟨y,hy,e3,e4,hw⟩:=hup b' o' c3
      have:=hR.sep b b' x y p p' hx hy (halx hz ha) (halx hw ha') b2 c2 e
      rw[e1,e2,e3,e4];exact this
    · obtain⟨x,hx,e1,e2,hz⟩:=hup b o b3
      obtain⟨s1,s2⟩:=sepL b x p hx (halx hz ha) b2 e
      exact⟨by rw[e1];exact s1,by rw[e2,hshL,s2];simp⟩
    · obtain⟨x,hx,e1,e2,hz⟩:=hup b' o' c3
      obtain⟨s1,s2⟩:=sepL b' x p' hx (halx hz ha') c2 e.symm
      exact⟨by rw[e1];exact s1.symm,by rw[e2,hshL,s2];simp⟩
    ·exact⟨rfl,rfl⟩
  · obtain⟨h1,h2,h3⟩:=hR.snap a v hv
    refine⟨Y0w h1 hst.size,?_,λb o' p hb ha hp=>?_⟩
    ·rw[<- h2];exact World.cell?_of_block (hnr _ h1 h3)
    · rcases hget b o' p hb hp with ⟨b1,b2,b3⟩|⟨b1,rfl,rfl⟩
      · obtain⟨o,ho,_,_,h|⟨i,x,_,_,_,_,_,h5⟩|h⟩:=hup b o' b3
        ·obtain⟨_,rfl⟩:=h;exact h3 b _ p ho ha b2
        ·exact h3 b o p ho h5 b2
        ·rw[h]at ha;cases ha
      · rcases whereL with h|⟨c,oc,pc,g1,g2,g3,g4,g5,g6,g7⟩
        ·omega
        ·have:=h3 c oc pc g3 g4 g6;omega
  · rcases hget b o' p hb hp with ⟨b1,b2,b3⟩|⟨b1,rfl,rfl⟩
    · obtain⟨o,ho,_,e2,_⟩:=hup b o' b3
      exact hR.shz b o p ho b2 (by rw[<- e2];exact e)
    ·exact hshL
 refine⟨v,sn,κ,rfl,?_,hR',⟨λ_ _ h=>h,λb p hb=>?_⟩,λb p hp=>?_,hnr,hst.size,hst.os,hst.tape,hst.output,λ_ _ h=>.inl h,λb o hb=>?_⟩
 ·exact (Z7j r v).2 (Z1X r [] v (λy hy=>hback y (Z1i hrk y hy)) (Z5k r v hrr hv))
 ·rw[k1 b (by have:=(hR.dom b).2 ⟨p,hb⟩;omega)];exact hb
 · rcases kinv b p hp with ⟨_,h1⟩|⟨_,rfl⟩
   ·exact .inl h1
   · rcases whereL with h|⟨c,oc,pc,g1,g2,g3,g4,g5,g6,g7⟩
     ·exact .inr (.inl h)
     ·exact .inr (.inr ⟨c,oc,pc,g3,g4,g6,g7⟩)
 · have hb':b<(Zey m (sig m k d) k Hs' 0 Hc).length:=by rw[hlen,<- hd];exact (Y0b.1 hb).1
   have hx:=Y05 hb'
   obtain⟨x,hx1,e1,e2,h|⟨i,y,h0,h1,h2,h3,h4,h5⟩|h⟩:=hup b _ hx
   · rw[hb]at hx1;cases hx1
     exact⟨_,by rw[Y0o hb'];exact hx,e1,e2,λha=>by rw[h.2]at ha;exact ha⟩
   · rw[hb]at hx1;cases hx1
     exact⟨_,by rw[Y0o hb'];exact hx,e1,e2,λ_=>h5⟩
   · rw[hb]at hx1;cases hx1
     exact⟨_,by rw[Y0o hb'];exact hx,e1,e2,λha=>by rw[h]at ha;cases ha⟩
end Go.Abs
end
section
namespace Go.Abs
open Go.RowKit
def byt(s:List UInt8):List AV:=s.map λb=>.int .u8 b.toNat
theorem ZrT(t:List UInt8):(byt t).all one=true:=by simp[byt,Y0G,one]
theorem Z77:∀(t:List UInt8)(acc:List Nat),refsL (byt t) acc=acc
 |[],_=>rfl
 |c::t,acc=>by show refsL (.int .u8 c.toNat::byt t) acc=acc;simp only[refsL,Z1m];exact Z77 t acc
theorem Zln(a b:List UInt8):byt (a++b)=byt a++byt b:=by simp[byt]
theorem Zaf(a:List UInt8):(byt a).length=a.length:=by simp[byt]
theorem ZfE(f:Nat->Nat):∀t:List UInt8,renL f (byt t)=byt t
 |[]=>rfl
 |c::t=>by show ren f (.int .u8 c.toNat)::renL f (byt t)=_;rw[ZfE f t];rfl
theorem ZcH:∀t:List UInt8,noROL (byt t)=true
 |[]=>rfl
 |c::t=>by show (ZeE (.int .u8 c.toNat)&&noROL (byt t))=true;rw[ZcH t];rfl
theorem Zll:∀{a b:List UInt8},byt a=byt b->a=b
 |[],[],_=>rfl
 |[],_::_,h=>by simp[byt]at h
 |_::_,[],h=>by simp[byt]at h
 |x::a,y::b,h=>by
  have h':AV.int .u8 x.toNat::byt a=AV.int .u8 y.toNat::byt b:=h
  simp only[List.cons.injEq,AV.int.injEq,true_and]at h'
  have h2:x.toNat=y.toNat:=by have:=h'.1;omega
  rw[UInt8.toNat_inj.1 h2,Zll h'.2]
theorem ZnS {P : Program} {ρ : Operand -> Option AV} {o : Oper} {x : Operand} {H : Z00} {b f sh off len cap : Nat} {cs : List AV} {ty s d : TypeId} (bs : List UInt8) (ho : o.op = .convert s d x) (hx : ρ x = some (.slice b off len cap 1)) (hT : Z5W P s d = true)
  (hH:H[b]? = some ⟨true,f,sh,.cells cs ty⟩) (hc:tk len (cs.drop off)=some (byt bs)):Z04 P ρ H o=some (.str bs):=by
 have h1:Z2S (byt bs)=some bs:=Z6m bs
 simp[Z04,ho,hx,Z5X,hT,hH,hc,h1]
theorem ZrC {P : Program} {orc : Orc} {ρ : Operand -> Option AV} {o : Oper} {x : Operand} {H : Z00} {b f sh off len cap : Nat} {cs : List AV} {ty s d : TypeId} (bs : List UInt8) (ho : o.op = .convert s d x) (hx : ρ x = some (.slice b off len cap 1)) (hT : Z5W P s d = true)
  (hH:H[b]? = some ⟨true,f,sh,.cells cs ty⟩) (hc:tk len (cs.drop off)=some (byt bs)):aop P orc ρ o H=some (.str bs,H):=by
 have h:=ZnS bs ho hx hT hH hc
 simp[aop,ho,h]
def WH(tW tB:TypeId):List UInt8->Int->Z00
 |[],d=>[⟨true,0,0,.cells [.nptr,.nslice,.int .i64 d] tW⟩]
 |x::s,d=>[⟨true,0,0,.cells [.ptr 0 0,.slice 1 0 (x::s).length (x::s).length 1,.int .i64 d] tW⟩,⟨true,1,0,.cells (byt (x::s)) tB⟩]
def ZaD(d:Nat):Z00->Bool
 |[]=>true
 |o::H=>Nat.blt o.fam d&&ZaD d H
theorem Z3b{d:Nat}:∀{H:Z00},ZaD d H=true->∀o∈H,o.fam<d
 |[],_,o,h=>by cases h
 |x::H,h,o,ho=>by
  simp only[ZaD,Y0a]at h
  rcases Y0e.1 ho with rfl|ho
  ·exact Z8o h.1
  ·exact Z3b h.2 o ho
def ZlW(tW tB:TypeId)(Hc:Z00)(b fb:Nat)(s':List UInt8)(d:Int):Z00:=Hc.set b ⟨true,fb,0,.cells [.ptr b 0,.slice Hc.length 0 s'.length s'.length 1,.int .i64 d] tW⟩++[⟨true,Hc.length,0,.cells (byt s') tB⟩]
def ZlV(tW tB:TypeId)(Hc:Z00)(b c fb fc:Nat)(s':List UInt8)(d:Int):Z00 :=
 (Hc.set b ⟨true,fb,0,.cells [.ptr b 0,.slice Hc.length 0 s'.length s'.length 1,.int .i64 d] tW⟩).set c ⟨false,fc,0,.cells [] 0⟩++[⟨true,fc,0,.cells (byt s') tB⟩]
def Zuj(tW tB:TypeId)(Hc:Z00)(b fb n:Nat)(s':List UInt8)(d:Int):Z00:=Hc.set b ⟨true,fb,0,.cells [.ptr b 0,.slice n 0 s'.length s'.length 1,.int .i64 d] tW⟩++[⟨true,n,0,.cells (byt s') tB⟩]
def Zui(tW tB:TypeId)(Hc:Z00)(b c fb fc n:Nat)(s':List UInt8)(d:Int):Z00 :=
 (Hc.set b ⟨true,fb,0,.cells [.ptr b 0,.slice n 0 s'.length s'.length 1,.int .i64 d] tW⟩).set c ⟨false,fc,0,.cells [] 0⟩++[⟨true,fc,0,.cells (byt s') tB⟩]
theorem Z8y{tW tB:TypeId}{H:Z00}{b fb:Nat}{s':List UInt8}{d:Int}{o:Option (AV×Z00)}{K:AV×Z00->Prop}(h:o=some (.tuple [],ZlW tW tB H b fb s' d))(k:Z6e H.length λn=>K (.tuple [],Zuj tW tB H b fb n s' d)):∃r,o=some r/\K r:=by
 rw[Z4n]at k;exact⟨_,h,k⟩
theorem Z0G{tW tB:TypeId}{H:Z00}{b c fb fc:Nat}{s':List UInt8}{d:Int}{o:Option (AV×Z00)}{K:AV×Z00->Prop}(h:o=some (.tuple [],ZlV tW tB H b c fb fc s' d))(k:Z6e H.length λn=>K (.tuple [],Zui tW tB H b c fb fc n s' d)):∃r,o=some r/\K r:=by
 rw[Z4n]at k;exact⟨_,h,k⟩
section
variable {P:Program} {gl:Z0l} {tW tB:TypeId}
theorem ZaL{s:List UInt8}{d:Int}{i:Nat}{o:AObj}(h:(WH tW tB s d)[i]? = some o):o.sh=0/\o.fam=i/\Zjv o.body=true/\Z1a 2 (Z4d o.body [])=true:=by
 cases s with
 |nil =>
  simp only[WH]at h
  match i,h with
  |0,h=>simp at h;subst h;exact⟨rfl,rfl,rfl,rfl⟩
  |i+1,h=>simp at h
 |cons x s =>
  simp only[WH]at h
  match i,h with
  |0,h=>simp at h;subst h;exact⟨rfl,rfl,rfl,rfl⟩
  |1,h =>
   simp at h;subst h
   refine⟨rfl,rfl,?_,?_⟩
   ·exact ZcH (x::s)
   · show Z1a 2 (refsL (byt (x::s)) [])=true
     rw[Z77];rfl
  |i+2,h=>simp at h
theorem Zg1{s:List UInt8}{d:Int}{i:Nat}{o:AObj}(h:(WH tW tB s d)[i]? = some o):o.alive=true:=by
 cases s with
 |nil =>
  match i,h with
  |0,h=>cases h;rfl
  |i+1,h=>simp[WH]at h
 |cons x s =>
  match i,h with
  |0,h=>cases h;rfl
  |1,h=>cases h;rfl
  |i+2,h=>simp[WH]at h
theorem ZiK(s:List UInt8)(d:Int):Zfd (WH tW tB s d)=true:=by
 cases s with
 |nil=>rfl
 |cons x s =>
  show (Zjv (.cells [.ptr 0 0,.slice 1 0 (x::s).length (x::s).length 1,.int .i64 d] tW)&&(noROL (byt (x::s))&&true))=true
  rw[ZcH];rfl
theorem ZiI {f b fb : Nat} {Hc : Z00} {fa rest : List AV} {d d' : Int} {s' : List UInt8} (hM : MemQ P gl 1 f (.ptr 0 0 :: fa) (WH tW tB [] d) (.tuple []) (WH tW tB s' d')) (hs' : s' ≠ []) (e1 : Hc[b]? = some ⟨true, fb, 0, .cells [.nptr, .nslice, .int .i64 d] tW⟩)
  (hl:Z3T [b] [fb] 0 Hc=true) (hF:ZaD Hc.length Hc=true) (ha:Z22 (Z7O [b] (Zav [b] Hc) 30) rest=some fa) :
  Z1b P gl f (.ptr b 0::rest) Hc (.tuple []) (ZlW tW tB Hc b fb s' d'):=by
 obtain⟨x,t,rfl⟩:∃x t,s'=x::t:=by cases s' with|nil=>exact absurd rfl hs'|cons x t=>exact⟨x,t,rfl⟩
 have hfam:Z0O Hc b=fb:=by simp only[Z0O,e1]
 have hp:Z4D [b] b 0=some 0:=by simp[Z4D]
 have h:=Zb8 (m:=[b]) (n:=30) (F:=Hc.length) (Hc:=Hc) (cargs:=.ptr b 0::rest) (bL:=.cells (byt (x::t)) tB) hM ?_ ?_ rfl ?_ rfl rfl (λi o ho=>⟨(ZaL ho).2.1,Zg1 ho,(ZaL ho).2.2.2⟩) (λi o ho=>(ZaL ho).1) (ZiK _ _) rfl rfl (.inl ⟨rfl,Z3b hF⟩)
 · have hu : Zey [b] (sig [b] 1 Hc.length) 1 (WH tW tB (x :: t) d') 0 Hc ++ [⟨true, Hc.length, 0, Z7A (sig [b] 1 Hc.length) (.cells (byt (x :: t)) tB)⟩] = ZlW tW tB Hc b fb (x :: t) d' := by
    unfold ZlW
    congr 1
    · apply List.ext_getElem?
      intro i
      rw[Z8G]
      simp only[Y0j]
      by_cases hi:i=b
      · subst hi
        rw[hp,Y0H (Y0b.1 e1).1,e1]
        rfl
      · have : Z4D [b] i 0 = none := by
         have:Y07 b i=false:=Y0q.2 λe=>hi (Y0d e).symm
         simp only[Z4D,this];rfl
        rw[this,Y0z (λe=>hi e.symm)]
        cases Hc[i]?<;>rfl
    ·simp only[Z7A,ZfE]
   rw[hu]at h
   exact h
 · have : Z7O [b] (Zav [b] Hc) 30 (.ptr b 0) = some (.ptr 0 0) := by
    unfold Z7O;simp only[hp]
   simp only[Z22,this,ha]
 ·exact⟨by rw[e1];exact⟨rfl,rfl,rfl,rfl,Y0A ⟨Y03 rfl,Y03 rfl,Y06 rfl,trivial⟩⟩,trivial⟩
 ·simp only[List.map,hfam];exact hl
theorem ZiH {f b c fb fc : Nat} {Hc : Z00} {fa rest : List AV} {d d' : Int} {s s' : List UInt8} (hM : MemQ P gl 1 f (.ptr 0 0 :: fa) (WH tW tB s d) (.tuple []) (WH tW tB s' d')) (hs : s ≠ []) (hs' : s' ≠ []) (e2 : Hc[c]? = some ⟨true, fc, 0, .cells (byt s) tB⟩)
  (e1:Hc[b]? = some ⟨true,fb,0,.cells [.ptr b 0,.slice c 0 s.length s.length 1,.int .i64 d] tW⟩) (hn:Y07 fb fc=false) (hl:Z3T [b,c] [fb,fc] 0 Hc=true) (ha:Z22 (Z7O [b,c] (Zav [b,c] Hc) 30) rest=some fa) :
  Z1b P gl f (.ptr b 0::rest) Hc (.tuple []) (ZlV tW tB Hc b c fb fc s' d'):=by
 obtain⟨x,t,rfl⟩:∃x t,s'=x::t:=by cases s' with|nil=>exact absurd rfl hs'|cons x t=>exact⟨x,t,rfl⟩
 obtain⟨y,u,rfl⟩:∃x t,s=x::t:=by cases s with|nil=>exact absurd rfl hs|cons x t=>exact⟨x,t,rfl⟩
 have hfb:Z0O Hc b=fb:=by simp only[Z0O,e1]
 have hfc:Z0O Hc c=fc:=by simp only[Z0O,e2]
 have hne:fb≠fc:=λe=>by rw[e]at hn;simp at hn
 have hbc:b≠c:=λe=>by subst e;rw[hfb]at hfc;exact hne hfc
 have hb1:Y07 b c=false:=Y0q.2 λe=>hbc (Y0d e)
 have hp:Z4D [b,c] b 0=some 0:=by simp[Z4D]
 have hpc:Z4D [b,c] c 0=some 1:=by simp only[Z4D,hb1];simp
 have h:=Zb8 (m:=[b,c]) (n:=30) (F:=fc) (Hc:=Hc) (cargs:=.ptr b 0::rest) (bL:=.cells (byt (x::t)) tB) hM ?_ ?_ ?_ ?_ rfl rfl (λi o ho=>⟨(ZaL ho).2.1,Zg1 ho,(ZaL ho).2.2.2⟩) (λi o ho=>(ZaL ho).1) (ZiK _ _) rfl rfl (.inr ⟨rfl,hfc.symm⟩)
 · have hu : Zey [b, c] (sig [b, c] 1 Hc.length) 1 (WH tW tB (x :: t) d') 0 Hc ++ [⟨true, fc, 0, Z7A (sig [b, c] 1 Hc.length) (.cells (byt (x :: t)) tB)⟩] = ZlV tW tB Hc b c fb fc (x :: t) d' := by
    unfold ZlV
    congr 1
    · apply List.ext_getElem?
      intro i
      rw[Z8G]
      simp only[Y0j]
      have lb:=(Y0b.1 e1).1
      have lc:=(Y0b.1 e2).1
      by_cases hi:i=b
      · subst hi
        rw[hp,Y0z hbc.symm,Y0H lb,e1]
        rfl
      · by_cases hj:i=c
        · subst hj
          rw[hpc,Y0H (by simpa using lc),e2]
          rfl
        · have : Z4D [b, c] i 0 = none := by
           have h1:Y07 b i=false:=Y0q.2 λe=>hi (Y0d e).symm
           have h2:Y07 c i=false:=Y0q.2 λe=>hj (Y0d e).symm
           simp only[Z4D,h1,h2];rfl
          rw[this,Y0z (λe=>hj e.symm),Y0z (λe=>hi e.symm)]
          cases Hc[i]?<;>rfl
    ·simp only[Z7A,ZfE]
   rw[hu]at h
   exact h
 · have : Z7O [b, c] (Zav [b, c] Hc) 30 (.ptr b 0) = some (.ptr 0 0) := by
    unfold Z7O;simp only[hp]
   simp only[Z22,this,ha]
 ·refine⟨by rw[e1];exact⟨rfl,rfl,rfl,rfl,Y0A ⟨Wk.ptr rfl rfl,Wk.slice rfl rfl rfl (Y0c _) (Y0c _) rfl,Y06 rfl,trivial⟩⟩,by rw[e2];exact⟨rfl,rfl,rfl,rfl,BodyGe.pre (rest:=[]) (by simp) (Z77 _ _)⟩,trivial⟩
 · simp only[List.map,hfb,hfc,Z0F,mem]
   have:(fb==fc)=false:=by simpa using hne
   simp only[this,Bool.or_false,Bool.not_false,Y0B]
   first|rfl|(simp;exact hne)|(simp[hn])
 ·simp only[List.map,hfb,hfc];exact hl
theorem Zog {H T : Z00} {m rest : List Nat} {b f0 f1 n : Nat} {cs : List AV} {d d' : Int} {s : List UInt8} (hs : s ≠ []) (h0 : H[0]? = some ⟨true, f0, 0, .cells [.ptr 0 0, .slice b 0 n n 1, .int .i64 d'] tW⟩) (h1 : H[b]? = some ⟨true, f1, 0, .cells cs tB⟩) (m0 : m[0]? = some 0) (m1 : m[1]? = some b)
  (hn:n=s.length) (hd:d'=d) (hc:cs=byt s) (hr:HpGe H m rest T 2):HpGe H m (0::b::rest) (WH tW tB s d++T) 0:=by
 subst hn;subst hd;subst hc
 cases s with
 |nil=>exact absurd rfl hs
 |cons x s =>
  exact⟨by rw[h0];exact⟨rfl,rfl,rfl,rfl,Y0A ⟨Wk.ptr m0 rfl,Wk.slice m1 rfl rfl (Y0c _) (Y0c _) rfl,Y06 rfl,trivial⟩⟩,by rw[h1];exact⟨rfl,rfl,rfl,rfl,BodyGe.pre (rest:=[]) (by simp) (Z77 _ _)⟩,hr⟩
theorem ZeJ {H : Z00} {b f0 f1 n : Nat} {cs : List AV} {d d' : Int} {s : List UInt8} (hs : s ≠ []) (h0 : H[0]? = some ⟨true, f0, 0, .cells [.ptr 0 0, .slice b 0 n n 1, .int .i64 d'] tW⟩) (h1 : H[b]? = some ⟨true, f1, 0, .cells cs tB⟩)
  (hn:n=s.length) (hd:d'=d) (hc:cs=byt s):HpGe H [0,b] [0,b] (WH tW tB s d) 0:=by
 have h:=Zog (m:=[0,b]) (T:=[]) (rest:=[]) hs h0 h1 rfl rfl hn hd hc trivial
 rwa [List.append_nil]at h
theorem Zsu{H:Z00}{b f0 f1:Nat}{d d':Int}{s1 s:List UInt8}(e:s1=s)(hs:s≠[])(h0:H[0]? = some ⟨true,f0,0,.cells [.ptr 0 0,.slice b 0 s1.length s1.length 1,.int .i64 d'] tW⟩)(h1:H[b]? = some ⟨true,f1,0,.cells (byt s1) tB⟩)(hd:d'=d):HpGe H [0,b] [0,b] (WH tW tB s d) 0:=by
 subst e;exact ZeJ hs h0 h1 rfl hd rfl
theorem Z4o {H N : Z00} {b f0 f1 : Nat} {d d' : Int} {s1 s : List UInt8} (hN : WH tW tB s d = N) (e : s1 = s) (hs : s ≠ []) (h0 : H[0]? = some ⟨true, f0, 0, .cells [.ptr 0 0, .slice b 0 s1.length s1.length 1, .int .i64 d'] tW⟩) (h1 : H[b]? = some ⟨true, f1, 0, .cells (byt s1) tB⟩) (hd : d' = d) (hn : Y07 f0 f1 = false) :
  ∃m,ZeB 1 0 m=true/\HpGe H m m N 0/\Z0F (m.map (Z0O H))=true/\Wk m (.tuple []) (.tuple []):=by
 subst hN
 refine⟨[0,b],rfl,Zsu e hs h0 h1 hd,?_,Y03 rfl⟩
 have hne:f0≠f1:=λe=>by rw[e]at hn;simp at hn
 simp only[List.map,Z0O,h0,h1,Z0F,mem]
 have:(f0==f1)=false:=by simpa using hne
 first|(simp only[this,Bool.or_false,Bool.not_false,Y0B];done)|(simp[hn];done)|(simp;exact hne)
theorem fgE {t0 tm : Tr} {H T : Z00} {l : List (Nat × AV)} {rest : List Nat} {b f0 f1 : Nat} {d d' : Int} {s1 s : List UInt8} (h : ZeS t0 tm = true) (e : s1 = s) (hs : s ≠ []) (h0 : H[0]? = some ⟨true, f0, 0, .cells [.ptr 0 0, .slice b 0 s1.length s1.length 1, .int .i64 d'] tW⟩) (h1 : H[b]? = some ⟨true, f1, 0, .cells (byt s1) tB⟩)
  (hd:d'=d) (hr:HpGe H (0::b::rest) rest T 2) (hn:Z0F ((0::b::rest).map (Z0O H))=true) (hsl:SlotsGe (0::b::rest) tm l):FgLK 1 t0 tm H l (WH tW tB s d++T):=by
 subst e
 exact FgLK.mk (0::b::rest) rfl h hsl (Zog hs h0 h1 rfl rfl rfl hd rfl hr) hn
theorem Zoh{H:Z00}{f0:Nat}{d d':Int}(h0:H[0]? = some ⟨true,f0,0,.cells [.nptr,.nslice,.int .i64 d'] tW⟩)(hd:d'=d):HpGe H [0] [0] (WH tW tB [] d) 0:=by
 subst hd
 exact⟨by rw[h0];exact⟨rfl,rfl,rfl,rfl,Y0A ⟨Y03 rfl,Y03 rfl,Y06 rfl,trivial⟩⟩,trivial⟩
structure WM (P:Program) (gl:Z0l) (tW tB:TypeId) where
 f:Nat
 X:Type
 G:X->Prop
 G0:X->Prop
 A:X->List AV
 D:X->Int
 T:X->List UInt8
 L:Nat
 body:Z09 P f=true
 inj:∀x y,G x->G y->A x=A y->D x=D y->T x=T y
 ne:∀x,G x->G0 x->T x≠[]
 ok:∀x,G x->∀s,(s=[]->G0 x)->(s++T x).length<=L->MemQ P gl 1 f (.ptr 0 0::A x) (WH tW tB s (D x)) (.tuple []) (WH tW tB (s++T x) (D x))
structure WI (X:Type) where
 x:X
 s:List UInt8
 b:Nat
 c:Nat
 fb:Nat
 fc:Nat
 H:Z00
 rest:List AV
def WM.Gd(W:WM P gl tW tB)(i:WI W.X):Prop:=W.G i.x/\(i.s++W.T i.x).length<=W.L/\match i.s with
 |[]=>W.G0 i.x/\i.c=0/\i.fc=0/\i.H[i.b]? = some ⟨true,i.fb,0,.cells [.nptr,.nslice,.int .i64 (W.D i.x)] tW⟩/\Z3T [i.b] [i.fb] 0 i.H=true/\ZaD i.H.length i.H=true/\Z22 (Z7O [i.b] (Zav [i.b] i.H) 30) i.rest=some (W.A i.x)
 |y::u=>i.H[i.c]? = some ⟨true,i.fc,0,.cells (byt (y::u)) tB⟩/\i.H[i.b]? = some ⟨true,i.fb,0,.cells [.ptr i.b 0,.slice i.c 0 (y::u).length (y::u).length 1,.int .i64 (W.D i.x)] tW⟩ /\
  Y07 i.fb i.fc=false/\Z3T [i.b,i.c] [i.fb,i.fc] 0 i.H=true/\Z22 (Z7O [i.b,i.c] (Zav [i.b,i.c] i.H) 30) i.rest=some (W.A i.x)
def WM.Out(W:WM P gl tW tB)(i:WI W.X):Z00:=match i.s with
 |[]=>ZlW tW tB i.H i.b i.fb (i.s++W.T i.x) (W.D i.x)
 |_::_=>ZlV tW tB i.H i.b i.c i.fb i.fc (i.s++W.T i.x) (W.D i.x)
def WM.fam(W:WM P gl tW tB):FamM P gl where
 I:=WI W.X
 f:=W.f
 G:=W.Gd
 A:=λi=>.ptr i.b 0::i.rest
 H:=λi=>i.H
 R:=λ_=>.tuple []
 O:=W.Out
 body:=W.body
 inj:=by
  rintro⟨x,s,b,c,fb,fc,H,rest⟩ ⟨x',s',b',c',fb',fc',H',rest'⟩ h h' e1 e2
  simp only[List.cons.injEq,AV.ptr.injEq,and_true]at e1
  obtain⟨rfl,rfl⟩:=e1
  simp only at e2;subst e2
  refine⟨rfl,?_⟩
  simp only[WM.Gd]at h h'
  obtain⟨g,_,h⟩:=h
  obtain⟨g',_,h'⟩:=h'
  cases s with
  |nil =>
   cases s' with
   |nil =>
    obtain⟨_,rfl,rfl,a1,a2,a3,a4⟩:=h
    obtain⟨_,rfl,rfl,b1,b2,b3,b4⟩:=h'
    rw[a1]at b1
    simp only[Option.some.injEq,AObj.mk.injEq,ABody.cells.injEq,List.cons.injEq,AV.int.injEq,true_and,and_true]at b1
    obtain⟨rfl,hd⟩:=b1
    rw[a4]at b4
    have ht:=W.inj x x' g g' (Option.some.inj b4) hd
    simp only[WM.Out,ht,hd]
   |cons y u =>
    obtain⟨_,_,_,a1,a2,a3,a4⟩:=h
    obtain⟨b1,b2,b3,b4,b5⟩:=h'
    rw[a1]at b2
    simp at b2
  |cons y u =>
   cases s' with
   |nil =>
    obtain⟨a1,a2,a3,a4,a5⟩:=h
    obtain⟨_,_,_,b1,b2,b3,b4⟩:=h'
    rw[a2]at b1
    simp at b1
   |cons y' u' =>
    obtain⟨a1,a2,a3,a4,a5⟩:=h
    obtain⟨b1,b2,b3,b4,b5⟩:=h'
    rw[a2]at b2
    simp only[Option.some.injEq,AObj.mk.injEq,ABody.cells.injEq,List.cons.injEq,AV.int.injEq,AV.slice.injEq,true_and,and_true]at b2
    obtain⟨rfl,⟨rfl,_⟩,hd⟩:=b2
    rw[a1]at b1
    simp only[Option.some.injEq,AObj.mk.injEq,ABody.cells.injEq,true_and,and_true]at b1
    obtain⟨rfl,hb⟩:=b1
    have hs:=Zll hb
    simp only[List.cons.injEq]at hs
    obtain⟨rfl,rfl⟩:=hs
    rw[a5]at b5
    have ht:=W.inj x x' g g' (Option.some.inj b5) hd
    simp only[WM.Out,ht,hd]
 ok:=by
  rintro⟨x,s,b,c,fb,fc,H,rest⟩ h
  simp only[WM.Gd]at h
  obtain⟨g,hl,h⟩:=h
  cases s with
  |nil =>
   obtain⟨g0,rfl,rfl,a1,a2,a3,a4⟩:=h
   exact ZiI (W.ok x g [] (λ_=>g0) hl) (by simpa using W.ne x g g0) a1 a2 a3 a4
  |cons y u =>
   obtain⟨a1,a2,a3,a4,a5⟩:=h
   exact ZiH (W.ok x g (y::u) (λe=>by cases e) hl) (by simp) (by simp) a1 a2 a3 a4 a5
theorem WM.ask0 {W : WM P gl tW tB} {O : Orc} (h : W.fam.Ask O) (x : W.X) {b fb : Nat} {H : Z00} {rest : List AV} (g : W.G x) (g0 : W.G0 x) (hl : (W.T x).length <= W.L) (e1 : H[b]? = some ⟨true, fb, 0, .cells [.nptr, .nslice, .int .i64 (W.D x)] tW⟩) (e2 : Z3T [b] [fb] 0 H = true) (e3 : ZaD H.length H = true)
  (e4:Z22 (Z7O [b] (Zav [b] H) 30) rest=some (W.A x)):Z03 P O H W.f (.ptr b 0::rest)=some (.tuple [],ZlW tW tB H b fb (W.T x) (W.D x)) :=
 h ⟨x,[],b,0,fb,0,H,rest⟩ ⟨g,hl,g0,rfl,rfl,e1,e2,e3,e4⟩
theorem WM.ask1 {W : WM P gl tW tB} {O : Orc} (h : W.fam.Ask O) (x : W.X) {s : List UInt8} {b c fb fc : Nat} {H : Z00} {rest : List AV} (g : W.G x) (hs : s ≠ []) (hl : (s ++ W.T x).length <= W.L) (e1 : H[c]? = some ⟨true, fc, 0, .cells (byt s) tB⟩)
  (e2:H[b]? = some ⟨true,fb,0,.cells [.ptr b 0,.slice c 0 s.length s.length 1,.int .i64 (W.D x)] tW⟩) (e3:Y07 fb fc=false) (e4:Z3T [b,c] [fb,fc] 0 H=true)
  (e5:Z22 (Z7O [b,c] (Zav [b,c] H) 30) rest=some (W.A x)):Z03 P O H W.f (.ptr b 0::rest)=some (.tuple [],ZlV tW tB H b c fb fc (s++W.T x) (W.D x)):=by
 cases s with
 |nil=>exact absurd rfl hs
 |cons y u=>exact h ⟨x,y::u,b,c,fb,fc,H,rest⟩ ⟨g,hl,e1,e2,e3,e4,e5⟩
end
end Go.Abs
end
section
namespace Go.Proofs.YtkkfcfjhhdmamaaGreatDoor.lex
open Go.Abs Go.RowKit Go.Sort
variable {gl:Z0l}
abbrev Zfw:UInt8->Value:=λb=>Value.int .u8 (b.toNat:Int)
theorem Zlm(d:List UInt8)(i:Nat):(byt d)[i]? = (d[i]?).map λb=>AV.int .u8 b.toNat:=by simp[byt]
theorem ZuH (u : Nat) (hu : u < 18446744073709551616) (d0 : List UInt8) (hd : d0.length = 24) (hnd : Lib.nDigits u <= 23) (cap : Nat) (ty : TypeId) :
  Z1b Y00 gl 100 [.slice 0 1 (Lib.nDigits u) cap 1,.int .u64 u] [⟨true,0,0,.cells (byt d0) ty⟩] (.tuple []) [⟨true,0,0,.cells (byt (d0.take 1++(Lib.decDigits u++d0.drop (1+Lib.nDigits u)))) ty⟩]:=by
 intro sn ι W cargs hg hR ha
 simp only[LR]at ha
 obtain⟨v1,_,rfl,h1,v2,_,rfl,h2,rfl⟩:=ha
 obtain⟨p,a,cap',hp,rfl,c1,c2,c3⟩:=h1.slice
 cases h2.int
 have hob:=hR.obj 0 _ p rfl rfl hp
 simp only[OR]at hob
 obtain⟨arr,g1,g2,g3,g4⟩:=hob
 have hsh:=hR.shz 0 _ p rfl hp rfl
 have hpos:=Lib.nDigits_pos u
 have hlen:=Lib.decDigits_length u
 generalize hn:Lib.nDigits u=nd at *
 obtain⟨rfl,c4⟩:=c3 (by omega)
 rw[hsh]at g3 g4
 rw[hsh]
 rw[Zaf,hd]at g3
 have hcell:∀i (h:i<24),W.cell? ⟨p.blk,i,none⟩=some (Zfw d0[i]):=λi h=>by
  obtain⟨v,e1,e2⟩:=g4 i (.int .u8 d0[i].toNat) (by rw[Zlm,Y05 (by omega)];rfl)
  cases e2.int
  simp only[World.cell?,g1]
  rw[Y0j]at e1;exact e1
 let d:Array UInt8:=((d0.drop 1).take nd).toArray
 have hds:d.size=nd:=by simp[d];omega
 have hdj:∀j,j<nd->∀(h:1+j<d0.length),d[j]! = d0[1+j]:=λj hj h=>by
  rw[getElem!_pos d j (by omega)]
  simp[d,Nat.add_comm 1 j]
 have hH:Holds Zfw W p.blk 1 d:=λj hj=>by
  rw[hds]at hj
  refine⟨?_,?_⟩
  ·rw[hcell (1+j) (by omega),hdj j hj (by omega)]
  ·simp[World.frozen?,g1]
 have hpow:u<10 ^ d.size:=by rw[hds,<- hn];exact Lib.lt_pow_nDigits u
 have hc:=Any.internal_strconv_formatBase10 shelf.fb10 p.blk 1 cap' u d W hH hpow hu (by rw[hds];omega)
 rw[hds]at hc
 refine hc.monoY ?_
 rintro e W' ⟨rfl,k,v',dk,rfl,hF⟩
 have hks:dk.size=nd:=hF.size
 have hdig:∀j (h:j<nd),Zfw dk[j]! = Zfw ((Lib.decDigits u)[j]'(by omega)):=λj h=>by
  have:=Lib.row_is_numeral (u:=u) (v':=v') (dk:=dk) (by rw[hn];exact hF) j (by omega)
  rw[this]
 have hother:∀c,c≠p.blk->((putRow Zfw W p.blk 1 dk).drewN k).heap[c]? = W.heap[c]?:=λc hc=>by
  show (putRow Zfw W p.blk 1 dk).heap[c]? = _
  simp only[putRow,mapBlock,Array.getElem?_modify]
  rw[if_neg (λe=>hc e.symm)]
 have hthis:((putRow Zfw W p.blk 1 dk).drewN k).heap[p.blk]? = some (.cells (putCells Zfw 1 dk arr) ty (0,0)):=by
  show (putRow Zfw W p.blk 1 dk).heap[p.blk]? = _
  simp only[putRow,mapBlock,Array.getElem?_modify,if_true,g1]
  rfl
 have hsize:((putRow Zfw W p.blk 1 dk).drewN k).heap.size=W.heap.size:=by
  show (putRow Zfw W p.blk 1 dk).heap.size=_
  simp
 have one0:∀{b:Nat}{o o':AObj},[o'][b]? = some o->b=0/\o=o':=λ{b o o'} h=>by
  cases b with
  |zero=>simp at h;exact⟨rfl,h.symm⟩
  |succ b=>simp at h
 refine⟨.tuple #[],sn,ι,rfl,by simp[VR,LR],⟨λb=>?_,λb q hq=>by rw[hsize];exact hR.blk b q hq,λb o q hb hal hq=>?_,λb b' o o' q q' hb hb' hal hal' hq hq' e=>?_,λad v hv=>?_,λb o q hb hq e=>?_⟩,Le.refl _ _,λ_ _ h=>.inl h,λc hc hno=>hother c (λe=>hno 0 _ p rfl rfl hp e.symm),by rw[hsize];exact Y0c _,rfl,rfl,rfl,λ_ _ h=>.inl h,λb o hb=>?_⟩
 ·exact hR.dom b
 · obtain⟨rfl,rfl⟩:=one0 hb
   rw[hp]at hq;cases hq
   simp only[OR]
   refine⟨_,hthis,by simp[putCells,g2],by rw[hsh,Zaf];simp only[Y0p,Y0t,Y0C];omega,λi c hi=>?_⟩
   rw[hsh,Y0j]
   rw[Zlm]at hi
   have hi24:i<24:=by
    have h1:i<(d0.take 1++(Lib.decDigits u++d0.drop (1+nd))).length:=by
     cases hx:(d0.take 1++(Lib.decDigits u++d0.drop (1+nd)))[i]? with
     |none=>rw[hx]at hi;cases hi
     |some b=>exact (Y0b.1 hx).1
    simp only[Y0p,Y0t,Y0C]at h1
    omega
   have ha0:arr[i]? = some (Zfw d0[i]):=by
    have:=hcell i hi24
    simp[World.cell?,g1]at this
    exact this
   have hput:(putCells Zfw 1 dk arr)[i]? = some (if 1<=i/\i<1+nd then Zfw dk[i-1]! else Zfw d0[i]):=by
    simp only[putCells,Array.getElem?_mapIdx,ha0,Y0m,hks]
   rw[hput]
   refine⟨_,rfl,?_⟩
   by_cases h1:1<=i/\i<1+nd
   · rw[if_pos h1,hdig (i-1) (by omega)]
     have:(d0.take 1++(Lib.decDigits u++d0.drop (1+nd)))[i]? = some ((Lib.decDigits u)[i-1]'(by omega)):=by
      rw[Y0y (by simp;omega),Y0o (by simp;omega),Y0t]
      rw[show i-min 1 d0.length=i-1 by omega]
      exact Y05 (by omega)
     rw[this]at hi
     simp at hi;subst hi
     simp[VR]
   · rw[if_neg h1]
     have:(d0.take 1++(Lib.decDigits u++d0.drop (1+nd)))[i]? = some d0[i]:=by
      by_cases h0:i=0
      · subst h0
        rw[Y0o (by simp;omega),List.getElem?_take]
        simp
      · rw[Y0y (by simp;omega),Y0y (by simp;omega),Y0F,Y0t]
        rw[show 1+nd+(i-min 1 d0.length-(Lib.decDigits u).length)=i by omega]
        exact Y05 (by omega)
     rw[this]at hi
     simp at hi;subst hi
     simp[VR]
 · obtain⟨rfl,rfl⟩:=one0 hb
   obtain⟨rfl,rfl⟩:=one0 hb'
   rw[hq]at hq';cases hq'
   exact⟨rfl,rfl⟩
 · obtain⟨s1,s2,s3⟩:=hR.snap ad v hv
   refine⟨by rw[hsize];exact s1,?_,λb o q hb hal hq=>?_⟩
   · rw[<- s2]
     exact World.cell?_of_block (hother _ λe=>s3 0 _ p rfl rfl hp e.symm)
   · obtain⟨rfl,rfl⟩:=one0 hb
     exact s3 0 _ q rfl rfl hq
 · obtain⟨rfl,rfl⟩:=one0 hb
   exact hR.shz 0 _ q rfl hq rfl
 · obtain⟨rfl,rfl⟩:=one0 hb
   exact⟨_,rfl,rfl,rfl,λ_=>rfl⟩
end Go.Proofs.YtkkfcfjhhdmamaaGreatDoor.lex
end
namespace Go.Proofs.YtkkfcfjhhdmamaaGreatDoor.lex
open Go.Abs Go.RowKit
section
theorem follows:Y00.follows .mixedOrders=true:=by kernel_rfl
theorem Zcf:(Y00.funcs.toList.all λfn=>!(fn.name == "runtime.NumGoroutine"))=true:=by kernel_rfl
theorem Z05:NoNum Y00:=⟨λg fn h=>by
 have h1:=Y0G.1 Zcf fn (Array.mem_toList_iff.2 (Array.mem_of_getElem? h))
 simpa using h1,of_decide_eq_true (by kernel_rfl)⟩
variable {gl:Z0l}
theorem Z0h:Z06 Y00 gl (Zoz λ_ _=>none):=Z7B λ_ _ _ h=>by cases h
def Z7m(n:Int):Bool:=decide (97<=n)&&decide (n<=122) || decide (65<=n)&&decide (n<=90)
def Z2d(n:Int):Bool:=decide (48<=n)&&decide (n<=57)
theorem Zt0(n:Int):ValOK Y00 gl 129 [.int .u8 n] (.bool (Z7m n)):=by
 refine Z0d follows Z05 Z0h Tryz.func129 rfl ?_
 repeat' ((conv=>whnf);first|refine stp ?_|with_reducible apply Z01<;>intro h)
 all_goals (try simp_all[Z1n,Z7m])
 all_goals omega
theorem Ztw(n:Int):ValOK Y00 gl 132 [.int .u8 n] (.bool (Z2d n)):=by
 refine Z0d follows Z05 Z0h Tryz.func132 rfl ?_
 repeat' ((conv=>whnf);first|refine stp ?_|with_reducible apply Z01<;>intro h)
 all_goals (try simp_all[Z1n,Z2d])
 all_goals omega
theorem ZqH(n:Int):ValOK Y00 gl 103 [.int .u8 n] (.bool (Z7m n)):=by
 refine Z0d follows Z05 Z0h Tryz.func103 rfl ?_
 repeat' ((conv=>whnf);first|refine stp ?_|with_reducible apply Z01<;>intro h)
 all_goals (try simp_all[Z1n,Z7m])
 all_goals omega
theorem Zrz(n:Int):ValOK Y00 gl 104 [.int .u8 n] (.bool (Z2d n)):=by
 refine Z0d follows Z05 Z0h Tryz.func104 rfl ?_
 repeat' ((conv=>whnf);first|refine stp ?_|with_reducible apply Z01<;>intro h)
 all_goals (try simp_all[Z1n,Z2d])
 all_goals omega
def F1(f:Nat)(xs:List AV):Option AV:=match f with
 |129=>match xs with|[.int .u8 n]=>some (.bool (Z7m n))|_=>none
 |132=>match xs with|[.int .u8 n]=>some (.bool (Z2d n))|_=>none
 |103=>match xs with|[.int .u8 n]=>some (.bool (Z7m n))|_=>none
 |104=>match xs with|[.int .u8 n]=>some (.bool (Z2d n))|_=>none
 |_=>none
theorem ZlN{f:Nat}{xs:List AV}{r:AV}(h:F1 f xs=some r):plain r=true/\ValOK Y00 gl f xs r:=by
 unfold F1 at h
 split at h<;>try (cases h;done)
 all_goals (split at h<;>cases h)
 ·exact⟨rfl,Zt0 _⟩
 ·exact⟨rfl,Ztw _⟩
 ·exact⟨rfl,ZqH _⟩
 ·exact⟨rfl,Zrz _⟩
theorem Zhy:Z06 Y00 gl (Z9r F1):=Z1w λf xs r h=>ZlN h
def Z4G(n:Int):Bool:=Z7m n || Z2d n || n==95
theorem Zm9(n:Int):ValOK Y00 gl 131 [.int .u8 n] (.bool (Z4G n)):=by
 refine Z0d follows Z05 Zhy Tryz.func131 rfl ?_
 repeat' ((conv=>whnf);first|refine stp ?_|with_reducible apply Z01<;>intro h)
 all_goals (try simp_all[Z1n,Z4G])
def F2(f:Nat)(xs:List AV):Option AV:=match f with
 |131=>match xs with|[.int .u8 n]=>some (.bool (Z4G n))|_=>none
 |f=>F1 f xs
theorem Zpg{f:Nat}{xs:List AV}{r:AV}(h:F2 f xs=some r):plain r=true/\ValOK Y00 gl f xs r:=by
 unfold F2 at h
 split at h
 · split at h<;>cases h
   exact⟨rfl,Zm9 _⟩
 ·exact ZlN h
theorem Zoc:Z06 Y00 gl (Z9r F2):=Z1w λf xs r h=>Zpg h
def Z0t(p:Int->Bool)(s:List UInt8):Nat:=(s.takeWhile λc=>p c.toNat).length
theorem Z3M{p:Int->Bool}{c:UInt8}(l:List UInt8)(h:p c.toNat=true):Z0t p (c::l)=Z0t p l+1:=by simp[Z0t,h]
theorem Z2m{p:Int->Bool}{c:UInt8}(l:List UInt8)(h:p c.toNat=false):Z0t p (c::l)=0:=by simp[Z0t,h]
theorem ZpT (g : Nat) (p : Int -> Bool) (hF : ∀ n, F2 g [.int .u8 n] = some (.bool (p n))) (hb : Z09 Y00 g = true) (s : List UInt8) (hs : s.length <= 9223372036854775807) :
  ValOK Y00 gl 130 [.str s,.func (.func g) [] []] (.int .i64 (Z0t p s)):=by
 refine Z0d follows Z05 Zoc Tryz.func130 rfl ?_
 conv=>whnf
 refine⟨Nat,(λk=>k<=s.length/\Z0t p s=k+Z0t p (s.drop k)),(λk=>[(0,.str s),(1,.func (.func g) [] []),(5,.int .i64 k)]),(λ_=>[]),(λk=>s.length-k),⟨0,⟨Y0f _,by simp⟩,?_⟩,?_⟩
 · refine FgL.mk0 rfl ?_
   refine Y02 (Y03 rfl) ?_
   refine Y02 (Y03 rfl) ?_
   refine Y02 (Y03 rfl) ?_
   trivial
 · intro k ⟨hk,hsp⟩
   by_cases hlt:k<s.length
   · have e1:decide ((k:Int)<(s.length:Int))=true:=by simpa using hlt
     have hc:s[k]? = some s[k]:=by simp[hlt]
     have hd:s.drop k=s[k]::s.drop (k+1):=Y0l hlt
     cases hp:p s[k].toNat with
     |true =>
      repeat' ((conv=>whnf);first|with_reducible refine ixS _ rfl hc ?_|with_reducible refine exI (Z2u hb rfl (hF _)) ?_|refine stp ?_|with_reducible apply Z01<;>intro h)
      (conv=>whnf)
      have hn:=Z3M (s.drop (k+1)) hp
      rw[<- hd]at hn
      exact⟨k+1,⟨hlt,by omega⟩,by show s.length-(k+1)<s.length-k;omega,FgL.mk0 rfl ⟨Y03 rfl,Y03 rfl,Y06 rfl,trivial⟩⟩
     |false =>
      repeat' ((conv=>whnf);first|with_reducible refine ixS _ rfl hc ?_|with_reducible refine exI (Z2u hb rfl (hF _)) ?_|refine stp ?_|with_reducible apply Z01<;>intro h)
      have hn:=Z2m (s.drop (k+1)) hp
      rw[<- hd]at hn
      rw[hsp,hn];rfl
   · have e1:decide ((k:Int)<(s.length:Int))=false:=by simpa using hlt
     have hk':k=s.length:=by omega
     repeat' ((conv=>whnf);first|refine stp ?_|with_reducible apply Z01<;>intro h)
     rw[hsp,hk'];simp[Z1n,Z0t]
theorem Z8N(p:Int->Bool)(s:List UInt8):Z0t p s<=s.length:=by
 unfold Z0t;exact (List.takeWhile_prefix _).length_le
theorem Z2x{p:Int->Bool}{s:List UInt8}{e:Nat}(h:e<s.length):Z0t p (s.drop e)=if p s[e].toNat then Z0t p (s.drop (e+1))+1 else 0:=by
 rw[Y0l h]
 cases hp:p s[e].toNat with
 |true=>rw[Z3M _ hp];rfl
 |false=>rw[Z2m _ hp];rfl
theorem Z4O{p:Int->Bool}{s:List UInt8}{e:Nat}(h:¬e<s.length):Z0t p (s.drop e)=0:=by
 rw[List.drop_eq_nil_of_le (by omega)];rfl
theorem Zpw(c:UInt8)(n:Nat)(h:n<256):((c.toNat:Int)==(n:Int))=(c==UInt8.ofNat n):=by
 by_cases e:c=UInt8.ofNat n
 ·subst e;simp;omega
 · have:c.toNat≠n:=λe'=>e (by apply UInt8.toNat_inj.1;rw[e'];simp[Nat.mod_eq_of_lt h])
   rw[beq_eq_false_iff_ne.2 e,beq_eq_false_iff_ne];omega
def F3(f:Nat)(xs:List AV):Option AV:=match f with
 |130=>match xs with
  |[.str s,.func (.func 131) [] []]=>if s.length<=9223372036854775807 then some (.int .i64 (Z0t Z4G s)) else none
  |_=>none
 |f=>F2 f xs
theorem Zpf{f:Nat}{xs:List AV}{r:AV}(h:F3 f xs=some r):plain r=true/\ValOK Y00 gl f xs r:=by
 unfold F3 at h
 split at h
 · split at h<;>try (cases h;done)
   split at h<;>cases h
   rename_i hs
   exact⟨rfl,ZpT 131 Z4G (λ_=>rfl) (by kernel_rfl) _ hs⟩
 ·exact Zpg h
theorem Zhx:Z06 Y00 gl (Z9r F3):=Z1w λf xs r h=>Zpf h
def Z1d:List UInt8->Nat
 |[]=>0
 |c::s=>if Z7m c.toNat then Z0t Z4G (c::s) else 0
theorem Zpp(s:List UInt8)(hs:s.length<=9223372036854775807):ValOK Y00 gl 112 [.str s] (.int .i64 (Z1d s)):=by
 match s with
 |[] =>
  refine Z0d follows Z05 Zhx Tryz.func112 rfl ?_
  repeat' ((conv=>whnf);first|refine stp ?_|with_reducible apply Z01<;>intro h)
  all_goals (try simp_all[Z1n,Z1d])
 |c::s =>
  have h1:((c::s)==[])=false:=by simp
  have h2:(c::s)[0]? = some c:=rfl
  refine Z0d follows Z05 Zhx Tryz.func112 rfl ?_
  repeat' ((conv=>whnf);first|with_reducible refine ixS 0 rfl h2 ?_|refine stp ?_|with_reducible apply Z01<;>intro h)
  all_goals (try (simp_all[Z1n,Z1d];done))
def keysL:List (List UInt8):=[[115,104,97,114,101,100],[112,108,97,105,110],[116,104,114,101,97,100],[105,102],[101,108,115,101],[119,104,105,108,101],[108,111,97,100],[115,116,111,114,101],[99,97,115],[97,100,100],[115,119,97,112],[102,101,110,99,101],[97,115,115,117,109,101],[97,115,115,101,114,116],[110,97],[114,108,120],[97,99,113],[114,101,108],[97,114],[115,99]]
def Zku:Nat->List (List UInt8)->List (AV×AV×Nat)
 |_,[]=>[]
 |n,k::l=>(.str k,.agg [],n)::Zku (n+1) l
theorem Zke(x:List UInt8):∀(l:List (List UInt8))(n i:Nat),∃o,Z8B .string (.str x) (Zku n l) i=some o/\o.isSome=l.contains x/\∀p,o=some p->p.2 = .agg []
 |[],n,i=>⟨none,rfl,by simp,λp h=>by cases h⟩
 |k::l,n,i=>by
  obtain⟨o,h1,h2,h3⟩:=Zke x l (n+1) (i+1)
  by_cases e:x=k
  · subst e
    exact⟨some (i,.agg []),by simp[Zku,Z8B,Zej],by simp,λp h=>by cases h;rfl⟩
  · refine⟨o,?_,by simp[h2,e],h3⟩
    have:(x==k)=false:=by simpa using e
    simp[Zku,Z8B,Zej,this,h1]
theorem kdK:Z4k Y00 160=some (.string,158):=by kernel_rfl
theorem Z8S{H:Z00}{b:Nat}(x:List UInt8)(h:ZjB H (.map b)=some (Zku 0 keysL)):Z5j Y00 160 (.map b) (.str x) true H=some (.tuple [.agg [],.bool (keysL.contains x)]):=by
 obtain⟨o,h1,h2,h3⟩:=Zke x keysL 0 0
 have hz:Z2B Y00 158=some (.agg []):=by kernel_rfl
 simp only[Z5j,kdK,h,h1,<- h2]
 cases o with
 |none=>simp[hz]
 |some p=>have:=h3 p rfl;obtain⟨j,v⟩:=p;subst this;simp
def Z47(s:List UInt8):AV:=if s≠[]/\Z1d s=s.length then .tuple [.int .i64 (if keysL.contains s then 2 else 1),.bool true] else .tuple [.int .i64 0,.bool false]
def F4(f:Nat)(xs:List AV):Option AV:=match f with
 |112=>match xs with|[.str s]=>if s.length<=9223372036854775807 then some (.int .i64 (Z1d s)) else none|_=>none
 |f=>F3 f xs
theorem ZtO{f:Nat}{xs:List AV}{r:AV}(h:F4 f xs=some r):plain r=true/\ValOK Y00 gl f xs r:=by
 unfold F4 at h
 split at h
 · split at h<;>try (cases h;done)
   split at h<;>cases h
   rename_i hs;exact⟨rfl,Zpp _ hs⟩
 ·exact Zpf h
theorem Zob:Z06 Y00 gl (Z9r F4):=Z1w λf xs r h=>ZtO h
section
attribute [local irreducible] Z1d
theorem Zm4(s:List UInt8)(hs:s.length<=9223372036854775807):ValOK Y00 gl 96 [.str s] (Z47 s):=by
 have e2:F4 112 [.str s]=some (.int .i64 (Z1d s)):=by simp only[F4];rw[if_pos (by omega)]
 have hb:Z09 Y00 112=true:=by kernel_rfl
 refine Z3a (λg=>Y07 g 112) 2 follows Z05 Zob Tryz.func96 rfl ?_
 by_cases h0:s=[]
 · have e1:(s==[])=true:=by simpa using h0
   repeat' ((conv=>whnf);(first|refine stp ?_|with_reducible apply Z01<;>intro h))
   unfold Z47;rw[if_neg (by simp[h0])]
 · have e1:(s==[])=false:=by simpa using h0
   by_cases hw:Z1d s=s.length
   · have e3:((Z1d s:Int) != (s.length:Int))=false:=by rw[hw];simp
     have eR:Z47 s = .tuple [.int .i64 (if keysL.contains s then 2 else 1),.bool true]:=by unfold Z47;rw[if_pos ⟨h0,hw⟩]
     rw[eR]
     cases hc:keysL.contains s with
     |true =>
      repeat' ((conv=>whnf);first|with_reducible refine exI (Z2u hb rfl e2) ?_|(with_reducible refine exI (Z8S _ ?_) ?_;(focus rfl))|refine stp ?_|with_reducible apply Z01<;>intro h)
      conv=>whnf
      refine exI (Z8S _ ?_) ?_
      ·rfl
      rw[hc]
      repeat' ((conv=>whnf);(first|refine stp ?_|with_reducible apply Z01<;>intro h))
      rfl
     |false =>
      repeat' ((conv=>whnf);first|with_reducible refine exI (Z2u hb rfl e2) ?_|(with_reducible refine exI (Z8S _ ?_) ?_;(focus rfl))|refine stp ?_|with_reducible apply Z01<;>intro h)
      conv=>whnf
      refine exI (Z8S _ ?_) ?_
      ·rfl
      rw[hc]
      repeat' ((conv=>whnf);(first|refine stp ?_|with_reducible apply Z01<;>intro h))
      rfl
   · have e3:((Z1d s:Int) != (s.length:Int))=true:=by simp;omega
     repeat' ((conv=>whnf);first|with_reducible refine exI (Z2u hb rfl e2) ?_|refine stp ?_|with_reducible apply Z01<;>intro h)
     unfold Z47;rw[if_neg (λh=>hw h.2)]
end
theorem ZjT(x:List UInt8):ValOK Y00 gl 105 [.str x] (.int .i64 (if keysL.contains x then 2 else 1)):=by
 refine Z3a (λ_=>false) 2 follows Z05 Zhy Tryz.func105 rfl ?_
 repeat' ((conv=>whnf);first|refine stp ?_|with_reducible apply Z01<;>intro h)
 conv=>whnf
 refine⟨Nat,(λi=>i<=20/\keysL.contains x=(keysL.drop i).contains x),(λi=>[(0,.str x),(3,.slice 0 0 20 20 1),(4,.int .i64 i)]),(λ_=>[⟨true,0,0,.cells (keysL.map AV.str) 9⟩]),(λi=>20-i),⟨0,⟨by omega,rfl⟩,?_⟩,?_⟩
 · refine Y0g [0] rfl ?_ ?_ rfl
   ·exact⟨Y03 rfl,Wk.slice rfl rfl rfl (Y0c _) (Y0c _) rfl,Y06 rfl,trivial⟩
   ·exact⟨hbp,trivial⟩
 · intro i ⟨hi,hs⟩
   by_cases hlt:i<20
   · have e1:decide ((i:Int)<20)=true:=by simp;omega
     have hlk:i<keysL.length:=hlt
     have hd:keysL.drop i=keysL[i]::keysL.drop (i+1):=Y0l hlk
     repeat' ((conv=>whnf);first|(with_reducible refine exI (Z7s AV.str keysL i hlk ?_) ?_;focus omega)|refine stp ?_|with_reducible apply Z01<;>intro h)
     · have hc:keysL.contains x=true:=by rw[hs,hd,List.contains_cons,eq_of_beq h];simp
       rw[hc];rfl
     · conv=>whnf
       have hx:(x==keysL[i])=false:=beq_eq_false_iff_ne.2 (λe=>by rw[<- e]at h;simp at h)
       exact⟨i+1,⟨hlt,by rw[hs,hd,List.contains_cons,hx,Bool.false_or]⟩,by show 20-(i+1)<20-i;omega,Y0g [0] rfl ⟨Y03 rfl,Wk.slice rfl rfl rfl (Y0c _) (Y0c _) rfl,Y06 rfl,trivial⟩ ⟨hbp,trivial⟩ rfl⟩
   · have e1:decide ((i:Int)<20)=false:=by simp;omega
     have hi':i=20:=by omega
     subst hi'
     repeat' ((conv=>whnf);first|refine stp ?_|with_reducible apply Z01<;>intro h)
     have hc:keysL.contains x=false:=by rw[hs];rfl
     rw[hc];rfl
def F5(f:Nat)(xs:List AV):Option AV:=match f with
 |105=>match xs with|[.str x]=>some (.int .i64 (if keysL.contains x then 2 else 1))|_=>none
 |f=>F1 f xs
theorem Zpe{f:Nat}{xs:List AV}{r:AV}(h:F5 f xs=some r):plain r=true/\ValOK Y00 gl f xs r:=by
 unfold F5 at h
 split at h
 · split at h<;>cases h
   exact⟨rfl,ZjT _⟩
 ·exact ZlN h
theorem Zhw:Z06 Y00 gl (Z9r F5):=Z1w λf xs r h=>Zpe h
theorem Zd5{s:List UInt8}(h:0<s.length):Z1d s=if Z7m s[0].toNat then Z0t Z4G s else 0:=by
 cases s with
 |nil=>simp at h
 |cons c t=>rfl
def Zsw(s:List UInt8)(i:Nat):Prop:=i<=s.length/\(i=0\/(0<i/\Z1d s=Z0t Z4G s/\Z0t Z4G s=i+Z0t Z4G (s.drop i)))
theorem Zd7{s:List UInt8}{i:Nat}(h:Zsw s i)(hlt:i<s.length)(h2:Z7m s[i].toNat=true\/(i≠0/\Z4G s[i].toNat=true)):Zsw s (i+1):=by
 have hat:=Z2x (p:=Z4G) hlt
 have hw:Z4G s[i].toNat=true:=by rcases h2 with h2|h2;simp[Z4G,h2];exact h2.2
 rw[hw,if_pos rfl]at hat
 refine⟨hlt,.inr ⟨by omega,?_,?_⟩⟩
 · rcases h.2 with h0|h0
   · subst h0
     have:Z7m s[0].toNat=true:=by rcases h2 with h2|h2;exact h2;exact absurd rfl h2.1
     rw[Zd5 (by omega),this,if_pos rfl]
   ·exact h0.2.1
 · rcases h.2 with h0|h0
   ·subst h0;rw[Y0r]at hat;omega
   ·omega
theorem Zg2{s:List UInt8}{i:Nat}(h:Zsw s i)(hlt:i<s.length)(h1:Z7m s[i].toNat=false)(h2:i=0\/Z4G s[i].toNat=false):Z47 s = .tuple [.int .i64 0,.bool false]:=by
 unfold Z47
 rw[if_neg]
 rintro⟨_,h4⟩
 rcases h.2 with h0|h0
 · subst h0
   rw[Zd5 (by omega),h1]at h4
   simp at h4;omega
 · have hat:=Z2x (p:=Z4G) hlt
   rcases h2 with h2|h2
   ·omega
   ·rw[h2,if_neg (by decide)]at hat;omega
theorem Zmf{s:List UInt8}(h:Zsw s s.length)(h0:s≠[]):Z47 s = .tuple [.int .i64 (if keysL.contains s then 2 else 1),.bool true]:=by
 have hl:0<s.length:=List.length_pos_iff.2 h0
 unfold Z47
 rw[if_pos]
 refine⟨h0,?_⟩
 rcases h.2 with h1|h1
 ·omega
 ·have:=Z4O (p:=Z4G) (s:=s) (e:=s.length) (by omega);omega
theorem Zm8(s:List UInt8)(hs:s.length<=9223372036854775807):ValOK Y00 gl 75 [.str s] (Z47 s):=by
 refine Z0d follows Z05 Zhw Tryz.func75 rfl ?_
 conv=>whnf
 repeat' ((conv=>whnf);first|refine stp ?_|with_reducible apply Z01<;>intro h)
 conv=>whnf
 refine⟨Nat,Zsw s,(λi=>[(0,.str s),(4,.int .i64 i)]),(λ_=>[]),(λi=>s.length-i),⟨0,⟨Y0f _,.inl rfl⟩,FgL.mk0 rfl ⟨Y03 rfl,Y06 rfl,trivial⟩⟩,?_⟩
 intro i hI
 have hi:=hI.1
 by_cases hlt:i<s.length
 · have e1:decide ((i:Int)<(s.length:Int))=true:=by simpa using hlt
   have hx:s[i]? = some s[i]:=by simp[hlt]
   have u1:=Zpw s[i] 95 (by decide)
   cases hl:Z7m s[i].toNat with
   |true =>
    repeat' ((conv=>whnf);first|with_reducible refine ixS _ rfl hx ?_|refine stp ?_|with_reducible apply Z01<;>intro h)
    conv=>whnf
    exact⟨i+1,Zd7 hI hlt (.inl hl),by show s.length-(i+1)<s.length-i;omega,FgL.mk0 rfl ⟨Y03 rfl,Y06 rfl,trivial⟩⟩
   |false =>
    by_cases h0:i=0
    · have e2:((i:Int)==0)=true:=by simp[h0]
      repeat' ((conv=>whnf);first|with_reducible refine ixS _ rfl hx ?_|refine stp ?_|with_reducible apply Z01<;>intro h)
      exact (Zg2 hI hlt hl (.inl h0)).symm
    · have e2:((i:Int)==0)=false:=by simp[h0]
      cases hw:Z4G s[i].toNat with
      |true =>
       repeat' ((conv=>whnf);first|with_reducible refine ixS _ rfl hx ?_|refine stp ?_|with_reducible apply Z01<;>intro h)
       all_goals (first|(exfalso;simp_all[Z4G];done)|skip)
       all_goals (conv=>whnf)
       all_goals exact⟨i+1,Zd7 hI hlt (.inr ⟨h0,hw⟩),by show s.length-(i+1)<s.length-i;omega,FgL.mk0 rfl ⟨Y03 rfl,Y06 rfl,trivial⟩⟩
      |false =>
       repeat' ((conv=>whnf);first|with_reducible refine ixS _ rfl hx ?_|refine stp ?_|with_reducible apply Z01<;>intro h)
       all_goals (first|(exfalso;simp_all[Z4G];done)|skip)
       all_goals exact (Zg2 hI hlt hl (.inr hw)).symm
 · have e1:decide ((i:Int)<(s.length:Int))=false:=by simpa using hlt
   have hi2:i=s.length:=by omega
   subst hi2
   by_cases h0:s=[]
   · have e2:(s==[])=true:=by simpa using h0
     repeat' ((conv=>whnf);first|refine stp ?_|with_reducible apply Z01<;>intro h)
     unfold Z47;rw[if_neg (λh=>h.1 h0)]
   · have e2:(s==[])=false:=by simpa using h0
     repeat' ((conv=>whnf);first|refine stp ?_|with_reducible apply Z01<;>intro h)
     rw[Zmf hI h0]
end
section
variable {gl:Z0l}
theorem Z5V{α : Type}[BEq α]{x y : α}{b:Bool}(h:(x==y)=b):(x != y) = !b:=by simp only[bne,h]
inductive Ex where
 |mk (op num:Int) (name:List UInt8) (kids:List Ex)
instance:Inhabited Ex:=⟨.mk 0 0 [] []⟩
def Ex.op:Ex->Int
 | .mk o _ _ _=>o
def Ex.num:Ex->Int
 | .mk _ n _ _=>n
def Ex.name:Ex->List UInt8
 | .mk _ _ s _=>s
def Ex.kids:Ex->List Ex
 | .mk _ _ _ k=>k
mutual
def Ex.cells:Ex->List AV
 | .mk op num name kids=>[.int .i64 op,.int .i64 num,.str name,.rs kids.length 4 (exC kids)]
def exC:List Ex->List AV
 |[]=>[]
 |e::l=>e.cells++exC l
end
def exA(l:List Ex):AV:=.rs l.length 4 (exC l)
mutual
def Z0C:Ex->Nat
 | .mk _ _ _ kids=>1+sizeL kids
def sizeL:List Ex->Nat
 |[]=>0
 |e::l=>Z0C e+sizeL l
end
mutual
def Z0P:Ex->Nat
 | .mk _ _ _ kids=>deepL kids+1
def deepL:List Ex->Nat
 |[]=>0
 |e::l=>max (Z0P e) (deepL l)
end
theorem Z5c:∀e:Ex,e.cells.length=4
 | .mk _ _ _ _=>by simp only[Ex.cells];rfl
theorem Zcx:∀l:List Ex,(exC l).length=l.length*4
 |[]=>by simp only[exC];rfl
 |e::l=>by simp only[exC,Y0p,Z5c,Zcx l,Y0i];omega
theorem Zkq:∀a b:List Ex,exC (a++b)=exC a++exC b
 |[],b=>by simp only[exC,Y0D]
 |e::a,b=>by simp only[exC,Y0n,Zkq a b,List.append_assoc]
theorem ZnG(e:Ex)(l:List Ex)(i:Nat):(exC (e::l)).drop ((i+1)*4)=(exC l).drop (i*4):=by
 have h:(i+1)*4=4+i*4:=by omega
 rw[h,<- List.drop_drop,exC,List.drop_left' (Z5c e)]
theorem Zgc:∀(a b:List AV),tk a.length (a++b)=some a
 |[],b=>by cases b<;>rfl
 |c::a,b=>by simp only[Y0i,Y0n,tk,Zgc a b]
theorem ZgV:∀(l:List Ex)(i:Nat)(h:i<l.length),(exC l).drop (i*4)=l[i].cells++exC (l.drop (i+1))
 |e::l,0,h=>by simp only[Nat.zero_mul,Y0r,exC,Y08,Y0h]
 |e::l,i+1,h=>by rw[ZnG,ZgV l i (by simpa using h)];simp only[Y09,Y0h]
theorem ex4(l:List Ex)(i:Nat)(h:i<l.length):tk 4 ((exC l).drop (i*4))=some l[i].cells:=by
 rw[ZgV l i h]
 have:=Zgc l[i].cells (exC (l.drop (i+1)))
 rwa [Z5c]at this
mutual
theorem Z3W:∀(a b:Ex),a.cells=b.cells->a=b
 | .mk o n s k,.mk o' n' s' k',h=>by
  simp only[Ex.cells]at h
  simp at h
  obtain⟨rfl,rfl,rfl,hl,hk⟩:=h
  rw[exC_inj k k' hk hl]
theorem exC_inj:∀(a b:List Ex),exC a=exC b->a.length=b.length->a=b
 |[],[],_,_=>rfl
 |x::a,y::b,h,hl=>by
  simp only[exC]at h
  have h':=List.append_inj h (by rw[Z5c,Z5c])
  rw[Z3W x y h'.1,exC_inj a b h'.2 (by simpa using hl)]
 |[],_::_,_,hl=>by simp at hl
 |_::_,[],_,hl=>by simp at hl
end
theorem Za4{a b:List Ex}(h:exA a=exA b):a=b:=by
 simp only[exA,AV.rs.injEq,true_and]at h
 exact exC_inj _ _ h.2 h.1
theorem Z31:∀e:Ex,0<Z0C e
 | .mk _ _ _ _=>by simp only[Z0C];omega
theorem Z6I:∀(l:List Ex)(i:Nat)(h:i<l.length),sizeL l=sizeL (l.take i)+Z0C l[i]+sizeL (l.drop (i+1))
 |e::l,0,h=>by simp only[Y04,sizeL,Y08,Y0h,Y0r];omega
 |e::l,i+1,h=>by
  have:=Z6I l i (by simpa using h)
  simp only[Y01,sizeL,Y09,Y0h];omega
theorem Z7w:∀(l:List Ex)(i:Nat)(h:i<l.length),sizeL (l.take (i+1))=sizeL (l.take i)+Z0C l[i]
 |e::l,0,h=>by simp only[Y01,Y04,sizeL,Y08];omega
 |e::l,i+1,h=>by
  have:=Z7w l i (by simpa using h)
  simp only[Y01,sizeL,Y09]at this⊢;omega
theorem Z30:∀l:List Ex,l.length<=sizeL l
 |[]=>Y0f _
 |e::l=>by have:=Z30 l;have:=Z31 e;simp only[sizeL,Y0i];omega
theorem ZaU:∀e:Ex,Z0C e=1+sizeL e.kids
 | .mk _ _ _ _=>by simp only[Z0C,Ex.kids]
theorem Z1E:∀(l:List Ex)(e:Ex),e∈l->Z0C e<=sizeL l
 |e::l,f,h=>by
  simp only[sizeL]
  rcases Y0e.1 h with rfl|h
  ·omega
  ·have:=Z1E l f h;omega
theorem Z7U:∀(l:List Ex)(i:Nat)(h:i<l.length),deepL (l.take (i+1))=max (deepL (l.take i)) (Z0P l[i])
 |e::l,0,h=>by simp only[Y01,Y04,deepL,Y08];omega
 |e::l,i+1,h=>by
  have:=Z7U l i (by simpa using h)
  simp only[Y01,deepL,Y09]at this⊢;omega
mutual
theorem Zbt:∀e:Ex,Z0P e<=Z0C e
 | .mk _ _ _ k=>by have:=deepL_size k;simp only[Z0P,Z0C];omega
theorem deepL_size:∀l:List Ex,deepL l<=sizeL l
 |[]=>Y0c _
 |e::l=>by have:=Zbt e;have:=deepL_size l;simp only[deepL,sizeL];omega
end
theorem Z4q(e:Ex):refsL [.agg e.cells] []=[]:=by
 obtain⟨o,n,s,k⟩:=e
 simp only[Ex.cells];rfl
theorem ZcO{a b:Ex}(h:[AV.agg a.cells]=[AV.agg b.cells]):a=b:=by
 simp only[List.cons.injEq,AV.agg.injEq,and_true]at h
 exact Z3W _ _ h
def famE{g:Nat}(hb:Z09 Y00 g=true)(r:Ex->AV)(l:List Ex)(each:∀k∈l,ValOK Y00 gl g [.agg k.cells] (r k)):Fam Y00 gl where
 I:=Ex
 f:=g
 G:=λk=>k∈l
 A:=λk=>[.agg k.cells]
 R:=r
 body:=hb
 inj:=λi j _ _ h=>by rw[ZcO h]
 ok:=λk hk=>⟨Z4q k,each k hk⟩
theorem Z0i{α : Type}{l:List α}{i:Nat}(h:i<l.length):l[i]∈l:=List.getElem_mem h
theorem ZbV:∀(n:Nat)(e:Ex),Z0C e<=n->Z0C e<=1048576->ValOK Y00 gl 50 [.agg e.cells] (.int .i64 (Z0C e))
 |0,e,h,_=>by have:=Z31 e;omega
 |n+1,.mk op num name kids,h,hb=>by
  simp only[Z0C]at h hb⊢
  obtain⟨O,hO,q,-⟩:=fams (P:=Y00) (gl:=gl) [famE (g:=50) (by kernel_rfl) (λk=>.int .i64 (Z0C k)) kids λk hk=>ZbV n k (by have:=Z1E _ _ hk;omega) (by have:=Z1E _ _ hk;omega)] rfl
  have hlen:=Z30 kids
  simp only[Ex.cells]
  refine Z0d follows Z05 hO Tryz.func50 rfl ?_
  repeat' ((conv=>whnf);first|refine stp ?_|with_reducible apply Z01<;>intro h)
  conv=>whnf
  refine⟨Nat,(λi=>i<=kids.length),(λi=>[(1,.ptr 0 0),(3,.int .i64 (1+sizeL (kids.take i):Nat)),(4,.int .i64 i)]),(λ_=>[⟨true,0,0,.cells [.int .i64 op,.int .i64 num,.str name,.rs kids.length 4 (exC kids)] 28⟩]),(λi=>kids.length-i),⟨0,Y0f _,Y0g [0] rfl ?_ ⟨hbp,trivial⟩ rfl⟩,?_⟩
  ·simp only[Y04,sizeL];exact wks
  intro i hi
  dsimp only
  by_cases hlt:i<kids.length
  · have e1:decide ((i:Int)<(kids.length:Int))=true:=by simpa using hlt
    have hx:=ex4 kids i hlt
    have hs:=Z7w kids i hlt
    have hg:=Z6I kids i hlt
    have q1:∀H,Z03 Y00 O H 50 [.agg kids[i].cells]=some (.int .i64 (Z0C kids[i]),H):=q _ (Z0i hlt)
    generalize kids[i]=k at *
    repeat' ((conv=>whnf);first|refine exI hx ?_|refine exI (q1 _) ?_|(with_reducible refine ixJ i rfl ?_ ?_;focus omega)|refine stp ?_|with_reducible apply Z01<;>intro h)
    conv=>whnf
    refine⟨i+1,hlt,by show kids.length-(i+1)<kids.length-i;omega,Y0g [0] rfl ?_ ⟨hbp,trivial⟩ rfl⟩
    rw[hs,<- Nat.add_assoc];exact wks
  · have e1:decide ((i:Int)<(kids.length:Int))=false:=by simpa using hlt
    have hi2:i=kids.length:=by have:=hi;omega
    subst hi2
    repeat' ((conv=>whnf);first|refine stp ?_|with_reducible apply Z01<;>intro h)
    simp only[Y0s];rfl
theorem ZcC:∀(n:Nat)(e:Ex),Z0C e<=n->Z0C e<=1048576->ValOK Y00 gl 51 [.agg e.cells] (.int .i64 (Z0P e))
 |0,e,h,_=>by have:=Z31 e;omega
 |n+1,.mk op num name kids,h,hb=>by
  simp only[Z0C]at h hb
  simp only[Z0P]
  obtain⟨O,hO,q,-⟩:=fams (P:=Y00) (gl:=gl) [famE (g:=51) (by kernel_rfl) (λk=>.int .i64 (Z0P k)) kids λk hk=>ZcC n k (by have:=Z1E _ _ hk;omega) (by have:=Z1E _ _ hk;omega)] rfl
  have hlen:=Z30 kids
  have hds:=deepL_size kids
  simp only[Ex.cells]
  refine Z0d follows Z05 hO Tryz.func51 rfl ?_
  repeat' ((conv=>whnf);first|refine stp ?_|with_reducible apply Z01<;>intro h)
  conv=>whnf
  refine⟨Nat,(λi=>i<=kids.length),(λi=>[(1,.ptr 0 0),(3,.int .i64 (deepL (kids.take i))),(4,.int .i64 i)]),(λ_=>[⟨true,0,0,.cells [.int .i64 op,.int .i64 num,.str name,.rs kids.length 4 (exC kids)] 28⟩]),(λi=>kids.length-i),⟨0,Y0f _,Y0g [0] rfl ?_ ⟨hbp,trivial⟩ rfl⟩,?_⟩
  ·simp only[Y04,deepL];exact wks
  intro i hi
  dsimp only
  by_cases hlt:i<kids.length
  · have e1:decide ((i:Int)<(kids.length:Int))=true:=by simpa using hlt
    have hx:=ex4 kids i hlt
    have hs:=Z7U kids i hlt
    have q1:∀H,Z03 Y00 O H 51 [.agg kids[i].cells]=some (.int .i64 (Z0P kids[i]),H):=q _ (Z0i hlt)
    generalize kids[i]=k at *
    repeat' ((conv=>whnf);first|refine exI hx ?_|refine exI (q1 _) ?_|(with_reducible refine ixJ i rfl ?_ ?_;focus omega)|refine stp ?_|with_reducible apply Z01<;>intro h)
    conv=>whnf
    refine⟨i+1,hlt,by show kids.length-(i+1)<kids.length-i;omega,Y0g [0] rfl ?_ ⟨hbp,trivial⟩ rfl⟩
    refine Y02 (Wk.ptr rfl rfl) ?_
    refine Y02 (Y06 ?_) ?_
    ·rw[hs];split<;>omega
    exact wks
  · have e1:decide ((i:Int)<(kids.length:Int))=false:=by simpa using hlt
    have hi2:i=kids.length:=by have:=hi;omega
    subst hi2
    rw[Y0s]
    repeat' ((conv=>whnf);first|refine stp ?_|with_reducible apply Z01<;>intro h)
    rfl
end
section
variable {gl:Z0l}
def Z0Z(s:List UInt8):Bool:=!s.isEmpty&&(Z1d s==s.length && !keysL.contains s)
theorem ZiJ(s:List UInt8):∃k w,Z47 s = .tuple [.int .i64 k,.bool w]/\(w&&(k==1))=Z0Z s/\(k==1)=Z0Z s:=by
 unfold Z47 Z0Z
 by_cases h0:s=[]
 ·subst h0;exact⟨0,false,by rw[if_neg (λh=>h.1 rfl)],rfl,rfl⟩
 · by_cases hw:Z1d s=s.length
   · rw[if_pos ⟨h0,hw⟩]
     refine⟨_,_,rfl,?_⟩
     have:s.isEmpty=false:=by cases s with|nil=>exact absurd rfl h0|cons _ _=>rfl
     rw[this,hw]
     cases keysL.contains s<;>simp
   · rw[if_neg (λh=>hw h.2)]
     refine⟨_,_,rfl,?_⟩
     have:(Z1d s==s.length)=false:=by simpa using hw
     rw[this];simp
theorem Z7q(s:List UInt8)(hs:s.length<=9223372036854775807):ValOK Y00 gl 39 [.str s] (.bool (Z0Z s)):=by
 obtain⟨k,w,h1,h2,h3⟩:=ZiJ s
 have hO:=Z7C (P:=Y00) (gl:=gl) (l:=[(75,[.str s],Z47 s)]) ⟨rfl,Zm8 s hs,trivial⟩
 have q:∀H,Z03 Y00 (Zsi [(75,[.str s],Z47 s)]) H 75 [.str s]=some (Z47 s,H):=λH=>ZrR (by kernel_rfl) Z7R
 rw[h1]at q hO
 rw[<- h2]
 refine Z0d follows Z05 hO Tryz.func39 rfl ?_
 repeat' ((conv=>whnf);first|refine exI (q _) ?_|refine stp ?_|with_reducible apply Z01<;>intro h)
 all_goals (try (simp_all[Z1n];done))
theorem ZdE(s:List UInt8)(hs:s.length<=9223372036854775807)(m:Bool):ValOK Y00 gl 66 [.str s,.bool m] (.bool (if m then Z0Z s else s==[])):=by
 obtain⟨k,w,h1,h2,h3⟩:=ZiJ s
 have hO:=Z7C (P:=Y00) (gl:=gl) (l:=[(96,[.str s],Z47 s)]) ⟨rfl,Zm4 s hs,trivial⟩
 have q:∀H,Z03 Y00 (Zsi [(96,[.str s],Z47 s)]) H 96 [.str s]=some (Z47 s,H):=λH=>ZrR (by kernel_rfl) Z7R
 rw[h1]at q hO
 rw[<- h3]
 cases m with
 |true =>
  refine Z0d follows Z05 hO Tryz.func66 rfl ?_
  repeat' ((conv=>whnf);first|refine exI (q _) ?_|refine stp ?_|with_reducible apply Z01<;>intro h)
  all_goals rfl
 |false =>
  refine Z0d follows Z05 hO Tryz.func66 rfl ?_
  repeat' ((conv=>whnf);first|refine exI (q _) ?_|refine stp ?_|with_reducible apply Z01<;>intro h)
  all_goals rfl
end
section
variable {gl:Z0l}
def okN(s:List UInt8)(n:Nat):Prop:=s.length<=9223372036854775807/\n<=9223372036854775807
mutual
def okE:Ex->Prop
 | .mk _ _ s k=>okN s k.length/\okL k
def okL:List Ex->Prop
 |[]=>True
 |e::l=>okE e/\okL l
end
theorem Z4i:∀{l:List Ex},okL l->∀e∈l,okE e
 |x::l,h,e,he=>by
  simp only[okL]at h
  rcases Y0e.1 he with rfl|he
  ·exact h.1
  ·exact Z4i h.2 e he
theorem Z5y:∀{e:Ex},okE e->okN e.name e.kids.length/\okL e.kids
 | .mk _ _ s k,h=>by simp only[okE]at h;exact h
def Z69(op:Int):Int:=if op=1\/op=2 then 0 else if op=3\/op=4 then 1 else if 5<=op/\op<=16 then 2 else -1
theorem ZqL(op:Int):ValOK Y00 gl 84 [.int .i64 op] (.int .i64 (Z69 op)):=by
 refine Z0d follows Z05 Z0h Tryz.func84 rfl ?_
 repeat' ((conv=>whnf);first|refine stp ?_|with_reducible apply Z01<;>intro h)
 all_goals (show AV.int _ _=AV.int _ _;congr 1;unfold Z69;simp only[beq_iff_eq,decide_eq_true_eq,beq_eq_false_iff_ne,decide_eq_false_iff_not,ge_iff_le,Int.not_le]at *)
 all_goals (repeat' split)
 all_goals omega
mutual
def Z1y:Ex->Int->Int
 | .mk _ _ s k,l=>heftL k (l-1-(s.length / 20:Nat))
def heftL:List Ex->Int->Int
 |[],l=>l
 |e::k,l=>if 0<=l then heftL k (Z1y e l) else l
end
mutual
theorem Zbf:∀(e:Ex)(l:Int),0<=Z1y e l->(Z0C e:Int)+Z1y e l<=l
 | .mk _ _ s k,l,h=>by
  simp only[Z1y,Z0C]at *
  have:=heftL_size k _ h;omega
theorem heftL_size:∀(k:List Ex)(l:Int),0<=heftL k l->(sizeL k:Int)+heftL k l<=l
 |[],l,h=>by simp only[heftL,sizeL]at *;omega
 |e::k,l,h=>by
  simp only[heftL,sizeL]at *
  split at h
  · rename_i hl
    rw[if_pos hl]
    have h1:=heftL_size k _ h
    have h2:0<=Z1y e l:=by omega
    have h3:=Zbf e l h2
    omega
  ·omega
end
mutual
theorem Znj:∀(e:Ex)(l:Int),Z1y e l<=l
 | .mk _ _ s k,l=>by simp only[Z1y];have:=heftL_le k (l-1-(s.length / 20:Nat));omega
theorem heftL_le:∀(k:List Ex)(l:Int),heftL k l<=l
 |[],l=>by simp only[heftL];omega
 |e::k,l=>by
  simp only[heftL]
  split
  ·have:=heftL_le k (Z1y e l);have:=Znj e l;omega
  ·omega
end
theorem Zcm:∀(k:List Ex)(l:Int)(i:Nat)(h:i<k.length),heftL (k.take (i+1)) l=if 0<=heftL (k.take i) l then Z1y k[i] (heftL (k.take i) l) else heftL (k.take i) l
 |e::k,l,0,h=>by simp only[Y01,Y04,heftL,Y08]
 |e::k,l,i+1,h=>by
  have ih:=λl=>Zcm k l i (by simpa using h)
  simp only[Y01,heftL,Y09]at ih⊢
  split
  ·exact ih _
  ·rename_i h2;simp[h2]
theorem Z7M:∀(k:List Ex)(l:Int)(i:Nat),heftL (k.take i) l<0->heftL k l=heftL (k.take i) l
 |[],l,i,h=>by simp[heftL]
 |e::k,l,0,h=>by
  simp only[Y04,heftL]at *
  rw[if_neg (by omega)]
 |e::k,l,i+1,h=>by
  simp only[Y01,heftL]at *
  split
  · rename_i hl
    rw[if_pos hl]at h
    exact Z7M k _ i h
  ·rfl
theorem Zfj:∀(n:Nat)(e:Ex)(l:Int),Z0C e<=n->okE e->0<=l->l<=1048576->ValOK Y00 gl 31 [.agg e.cells,.int .i64 l] (.int .i64 (Z1y e l))
 |0,e,l,h,_,_,_=>by have:=Z31 e;omega
 |n+1,.mk op num name kids,l,h,hok,hl0,hl1=>by
  simp only[Z0C]at h
  obtain⟨⟨hn1,hn2⟩,hok2⟩:=Z5y hok
  simp only[Ex.name,Ex.kids]at hn1 hn2 hok2
  obtain⟨O,hO,q,-⟩:=fams (P:=Y00) (gl:=gl) [{ I:=Ex×Int,f:=31,G:=λp=>p.1∈kids/\0<=p.2/\p.2<=1048576,A:=λp=>[.agg p.1.cells,.int .i64 p.2],R:=λp=>.int .i64 (Z1y p.1 p.2),body:=(by kernel_rfl),inj:=(λi j _ _ h=>by simp only[List.cons.injEq,AV.agg.injEq,AV.int.injEq,and_true,true_and]at h;rw[Z3W _ _ h.1,h.2]),ok:=(λp hp=>⟨by have:=Z4q p.1;simpa[refsL,Z1m]using this,Zfj n p.1 p.2 (by have:=Z1E _ _ hp.1;omega) (Z4i hok2 _ hp.1) hp.2.1 hp.2.2⟩) }] rfl
  have q20:Int.tdiv (name.length:Int) 20=((name.length / 20:Nat):Int):=rfl
  have w1:IntKind.i64.wrap (l-1)=l-1:=Z2M (by omega) (by omega)
  have w2:IntKind.i64.wrap (Int.tdiv (name.length:Int) 20)=((name.length / 20:Nat):Int):=by rw[q20];exact Z2M (by omega) (by omega)
  have w3:IntKind.i64.wrap (l-1-((name.length / 20:Nat):Int))=l-1-((name.length / 20:Nat):Int):=Z2M (by omega) (by omega)
  simp only[Ex.cells,Z1y]
  refine Z0d follows Z05 hO Tryz.func31 rfl ?_
  repeat' ((conv=>whnf);first|(with_reducible refine exW w1 ?_)|(refine Y02 (show (20:Int)≠0 by decide) ?_)|(rw[w2])|(with_reducible refine exW w3 ?_)|refine stp ?_|with_reducible apply Z01<;>intro h)
  conv=>whnf
  generalize hl00:l-1-((name.length / 20:Nat):Int)=l0 at *
  refine⟨Nat,(λi=>i<=kids.length),(λi=>[(1,.int .i64 (heftL (kids.take i) l0)),(2,.ptr 0 0),(5,.int .i64 i)]),(λ_=>[⟨true,0,0,.cells [.int .i64 op,.int .i64 num,.str name,.rs kids.length 4 (exC kids)] 28⟩]),(λi=>kids.length-i),⟨0,Y0f _,Y0g [0] rfl ?_ ⟨hbp,trivial⟩ rfl⟩,?_⟩
  ·simp only[Y04,heftL];exact wks
  intro i hi
  dsimp only
  have hle:=heftL_le (kids.take i) l0
  by_cases hlt:i<kids.length
  · have e1:decide ((i:Int)<(kids.length:Int))=true:=by simpa using hlt
    by_cases hpos:0<=heftL (kids.take i) l0
    · have e2:decide (heftL (kids.take i) l0 >= 0)=true:=by simpa using hpos
      have hx:=ex4 kids i hlt
      have hs:=Zcm kids l0 i hlt
      rw[if_pos hpos]at hs
      have hc':∀H,Z03 Y00 O H 31 [.agg kids[i].cells,.int .i64 (heftL (kids.take i) l0)]=some (.int .i64 (Z1y kids[i] (heftL (kids.take i) l0)),H):=q (kids[i],_) ⟨Z0i hlt,hpos,by show heftL (kids.take i) l0<=1048576;omega⟩
      generalize kids[i]=k at *
      repeat' ((conv=>whnf);first|refine exI hx ?_|refine exI (hc' _) ?_|(with_reducible refine ixJ i rfl ?_ ?_;focus omega)|refine stp ?_|with_reducible apply Z01<;>intro h)
      conv=>whnf
      refine⟨i+1,hlt,by show kids.length-(i+1)<kids.length-i;omega,Y0g [0] rfl ?_ ⟨hbp,trivial⟩ rfl⟩
      rw[hs];exact wks
    · have e2:decide (heftL (kids.take i) l0 >= 0)=false:=by simpa using hpos
      have hst:=Z7M kids l0 i (by omega)
      rw[hst]
      repeat' ((conv=>whnf);first|refine stp ?_|with_reducible apply Z01<;>intro h)
      rfl
  · have e1:decide ((i:Int)<(kids.length:Int))=false:=by simpa using hlt
    have hi2:i=kids.length:=by have:=hi;omega
    subst hi2
    rw[Y0s]
    repeat' ((conv=>whnf);first|refine stp ?_|with_reducible apply Z01<;>intro h)
    rfl
def ZeC(op num:Int)(name:List UInt8)(n:Nat):Bool:=Z69 op==(n:Int)&&((op==2)==Z0Z name&&((op==2 || name==[])&&(decide (0<=num)&&(op==1 || num==0))))
def Zuh(e:Ex):Bool:=ZeC e.op e.num e.name e.kids.length
mutual
def Z0p:Ex->Bool
 | .mk o n s k=>ZeC o n s k.length&&rightL k
def rightL:List Ex->Bool
 |[]=>true
 |e::l=>Z0p e&&rightL l
end
theorem Z7z:∀{l:List Ex}{i:Nat}(h:i<l.length),Z0p l[i]=false->rightL l=false
 |e::l,0,h,h2=>by simp only[Y08]at h2;simp only[rightL,h2,Bool.false_and]
 |e::l,i+1,h,h2=>by simp only[Y09]at h2;simp only[rightL,Z7z (l:=l) (by simpa using h) h2,Bool.and_false]
theorem Z67:∀(l:List Ex)(i:Nat)(h:i<l.length),rightL (l.take (i+1))=(rightL (l.take i)&&Z0p l[i])
 |e::l,0,h=>by simp only[Y01,Y04,rightL,Y08,Y0B,Bool.true_and]
 |e::l,i+1,h=>by
  have:=Z67 l i (by simpa using h)
  simp only[Y01,rightL,Y09]at this⊢;rw[this,Bool.and_assoc]
theorem Zc0:∀(n:Nat)(e:Ex),Z0C e<=n->okE e->ValOK Y00 gl 52 [.agg e.cells] (.bool (Z0p e))
 |0,e,h,_=>by have:=Z31 e;omega
 |n+1,.mk op num name kids,h,hok=>by
  simp only[Z0C]at h
  obtain⟨⟨hn1,hn2⟩,hok2⟩:=Z5y hok
  simp only[Ex.name,Ex.kids]at hn1 hn2 hok2
  obtain⟨O,hO,p1,p2,p3,-⟩:=fams (P:=Y00) (gl:=gl) [{ I:=Unit,f:=84,G:=λ_=>True,A:=λ_=>[.int .i64 op],R:=λ_=>.int .i64 (Z69 op),body:=by kernel_rfl,inj:=λ_ _ _ _ _=>rfl,ok:=λ_ _=>⟨rfl,ZqL _⟩ },
   { I:=Unit,f:=39,G:=λ_=>True,A:=λ_=>[.str name],R:=λ_=>.bool (Z0Z name),body:=by kernel_rfl,inj:=λ_ _ _ _ _=>rfl,ok:=λ_ _=>⟨rfl,Z7q _ hn1⟩ },
   famE (g:=52) (by kernel_rfl) (λk=>.bool (Z0p k)) kids λk hk=>Zc0 n k (by have:=Z1E _ _ hk;omega) (Z4i hok2 _ hk)] rfl
  have q1:∀H,Z03 Y00 O H 84 [.int .i64 op]=some (.int .i64 (Z69 op),H):=p1 () trivial
  have q2:∀H,Z03 Y00 O H 39 [.str name]=some (.bool (Z0Z name),H):=p2 () trivial
  have q3:∀i (h:i<kids.length) H,Z03 Y00 O H 52 [.agg kids[i].cells]=some (.bool (Z0p kids[i]),H):=λi h=>p3 _ (Z0i h)
  clear p1 p2 p3
  simp only[Ex.cells]
  refine Z0d follows Z05 hO Tryz.func52 rfl ?_
  have hop:(op==2)=true\/(op==2)=false:=by cases (op==2)<;>simp
  obtain⟨w,hw⟩:∃w,Z0Z name=w:=⟨_,rfl⟩
  rw[hw]at q2
  cases w<;>rcases hop with hop|hop
  all_goals (repeat' ((conv=>whnf);first|refine exI (q1 _) ?_|refine exI (q2 _) ?_|refine stp ?_|with_reducible apply Z01<;>intro h))
  all_goals (first|(clear q1 q2 q3 hO;simp only[Z0p];(first|(simp_all[Z1n,ZeC];done)|(simp_all[Z1n,ZeC];intros;omega)))|skip)
  all_goals (have hown:ZeC op num name kids.length=true:=by (clear q1 q2 q3 hO;simp_all[ZeC]))
  all_goals (conv=>whnf)
  all_goals refine⟨Nat,(λi=>i<=kids.length/\rightL (kids.take i)=true),(λi=>[(1,.ptr 0 0),(3,.int .i64 i)]),(λ_=>[⟨true,0,0,.cells [.int .i64 op,.int .i64 num,.str name,.rs kids.length 4 (exC kids)] 28⟩]),(λi=>kids.length-i),⟨0,⟨Y0f _,rfl⟩,Y0g [0] rfl ?_ ⟨hbp,trivial⟩ rfl⟩,?_⟩
  all_goals first|((repeat (first|exact trivial|refine stw ?_));done)|skip
  all_goals (
   rintro i ⟨hi,hall⟩
   dsimp only
   by_cases hlt:i<kids.length
   · have e1:decide ((i:Int)<(kids.length:Int))=true:=by simpa using hlt
     have hx:=ex4 kids i hlt
     have q3':=q3 i hlt
     have ht:=Z67 kids i hlt
     rw[hall,Bool.true_and]at ht
     cases hr:Z0p kids[i] with
     |true =>
      rw[hr]at q3' ht
      generalize kids[i]=k at *
      repeat' ((conv=>whnf);first|refine exI hx ?_|refine exI (q3' _) ?_|(with_reducible refine ixJ i rfl ?_ ?_;focus omega)|refine stp ?_|with_reducible apply Z01<;>intro h)
      conv=>whnf
      refine⟨i+1,⟨hlt,ht⟩,by show kids.length-(i+1)<kids.length-i;omega,Y0g [0] rfl ?_ ⟨hbp,trivial⟩ rfl⟩
      exact wks
     |false =>
      have hf:=Z7z hlt hr
      rw[hr]at q3'
      generalize kids[i]=k at *
      repeat' ((conv=>whnf);first|refine exI hx ?_|refine exI (q3' _) ?_|(with_reducible refine ixJ i rfl ?_ ?_;focus omega)|refine stp ?_|with_reducible apply Z01<;>intro h)
      simp only[Z0p,hf,Bool.and_false];rfl
   · have e1:decide ((i:Int)<(kids.length:Int))=false:=by simpa using hlt
     have hi2:i=kids.length:=by have:=hi;omega
     subst hi2
     rw[Y0s]at hall
     repeat' ((conv=>whnf);(first|refine stp ?_|with_reducible apply Z01<;>intro h))
     simp only[Z0p,hall,hown,Y0B];rfl)
end
section
theorem FgLK.same{k:Nat}{t0 tm:Tr}{H:Z00}{l:List (Nat×AV)}(h1:ZeS t0 tm=true)(hs:SlotsGe (List.range k) tm l)(hH:HpGe H (List.range k) (List.range k) H 0/\Z0F ((List.range k).map (Z0O H))=true/\ZeB k 0 (List.range k)=true):FgLK k t0 tm H l H:=by
 unfold FgLK
 rw[h1]
 exact .inl ⟨List.range k,hH.2.2,hs,hH.1,hH.2.1⟩
structure TvE (gl:Z0l) where
 σ : Type
 Mem : σ -> Z00
 k:Nat
 len:∀s,(Mem s).length=k
 same:∀s,HpGe (Mem s) (List.range k) (List.range k) (Mem s) 0/\Z0F ((List.range k).map (Z0O (Mem s)))=true/\ZeB k 0 (List.range k)=true
 evo:∀s s',Zm0 k (Mem s) (Mem s')=true
 inj:∀s s',Mem s=Mem s'->s=s'
 I:Int -> σ -> Nat->Prop
 up:∀d s m,0<=d->I (d+1) s m->I d s m
 less:∀d s m,I d s (m+1)->I d s m
 bnd:∀d s m,I d s m->0<=d/\d<=1152921504606846976
 gE:Nat
 cE:List AV
 hE:Ex->Int -> σ -> Bool×σ
 bodyE:Z09 Y00 gE=true
 wkE:WkL (List.range k) cE cE
 okE:∀e rest d s m,okE e->I d s (m+1)->Z1b Y00 gl gE ([.rp (e.cells++rest),.int .i64 d]++cE) (Mem s) (.bool (hE e d s).1) (Mem (hE e d s).2)
 downE:∀e d s m,I d s (m+1)->(hE e d s).1=true->I (d+1) (hE e d s).2 m
section
variable {σ : Type}
mutual
def goE(h:Ex->Int -> σ -> Bool×σ):Ex->Int -> σ -> Bool×σ
 | .mk o n s k,d,t=>if (h (.mk o n s k) d t).1=true then goL h k (d+1) (h (.mk o n s k) d t).2 else (false,(h (.mk o n s k) d t).2)
def goL(h:Ex->Int -> σ -> Bool×σ):List Ex->Int -> σ -> Bool×σ
 |[],d,t=>(true,t)
 |e::l,d,t=>if (goE h e d t).1=true then goL h l d (goE h e d t).2 else (false,(goE h e d t).2)
end
variable {h:Ex->Int -> σ -> Bool×σ}
theorem Zt8(e:Ex)(d:Int)(t : σ):goE h e d t=if (h e d t).1=true then goL h e.kids (d+1) (h e d t).2 else (false,(h e d t).2):=by
 obtain⟨o,n,s,k⟩:=e
 simp only[goE,Ex.kids]
theorem ZoT:∀(l:List Ex)(d:Int)(t : σ)(i:Nat)(hi:i<l.length),(goL h (l.take i) d t).1=true->goL h (l.take (i+1)) d t=goE h l[i] d (goL h (l.take i) d t).2
 |e::l,d,t,0,_,_=>by
  simp only[Y04,Y01,goL,Y08]
  split
  ·rename_i h2;rw[<- h2]
  ·rename_i h2;rw[<- Y0q.2 h2]
 |e::l,d,t,i+1,hi,ht=>by
  simp only[Y01,goL,Y09]at ht⊢
  split
  · rename_i h2
    rw[if_pos h2]at ht
    exact ZoT l d _ i (by simpa using hi) ht
  ·rename_i h2;rw[if_neg h2]at ht;cases ht
theorem ZgN:∀(l:List Ex)(d:Int)(t : σ)(i:Nat),(goL h (l.take i) d t).1=false->goL h l d t=goL h (l.take i) d t
 |[],d,t,i,hf=>by simp
 |e::l,d,t,0,hf=>by simp only[Y04,goL]at hf;cases hf
 |e::l,d,t,i+1,hf=>by
  simp only[Y01,goL]at hf⊢
  split
  · rename_i h2
    rw[if_pos h2]at hf
    exact ZgN l d _ i hf
  ·rfl
end
section
variable {gl:Z0l} (V:TvE gl)
def TvE.F:AV:=.func (.func V.gE) [] V.cE
mutual
theorem TvE.keepE:∀(e:Ex)(d:Int)(s:V.σ)(m:Nat),V.I d s (Z0C e+m)->(goE V.hE e d s).1=true->V.I d (goE V.hE e d s).2 m
 | .mk o n t k,d,s,m,hI,ht=>by
  simp only[goE,Z0C]at hI ht⊢
  split
  · rename_i h2
    rw[if_pos h2]at ht
    have h3:=V.downE _ d s (sizeL k+m) (by rw[show 1+sizeL k+m=sizeL k+m+1 from by omega]at hI;exact hI) h2
    exact V.up _ _ _ (V.bnd _ _ _ hI).1 (TvE.keepL k (d+1) _ m h3 ht)
  ·rename_i h2;rw[if_neg h2]at ht;cases ht
theorem TvE.keepL:∀(l:List Ex)(d:Int)(s:V.σ)(m:Nat),V.I d s (sizeL l+m)->(goL V.hE l d s).1=true->V.I d (goL V.hE l d s).2 m
 |[],d,s,m,hI,ht=>by simp only[goL,sizeL,Y0j]at hI⊢;exact hI
 |e::l,d,s,m,hI,ht=>by
  simp only[goL,sizeL]at hI ht⊢
  split
  · rename_i h2
    rw[if_pos h2]at ht
    exact TvE.keepL l d _ m (TvE.keepE e d s (sizeL l+m) (by rw[<- Nat.add_assoc];exact hI) h2) ht
  ·rename_i h2;rw[if_neg h2]at ht;cases ht
end
theorem Zne(e:Ex)(rest:List AV):tk 1 ((e.cells++rest).drop 3)=some [exA e.kids]:=by
 obtain⟨o,n,s,k⟩:=e
 simp only[Ex.cells,exA,Ex.kids];rfl
theorem TvE.fin(s t:V.σ)(b:Bool):List.take V.k (V.Mem t)=V.Mem t/\(Z1a V.k (Z1m (AV.bool b) [])&&Zm0 V.k (V.Mem s) (V.Mem t))=true :=
 ⟨List.take_of_length_le (by rw[V.len];exact Y0c _),by rw[V.evo];rfl⟩
theorem TvE.exprs (hf : Y00.follows .mixedOrders = true) : ∀ (n : Nat) (l : List Ex) (d : Int) (s : V.σ) (m : Nat), sizeL l <= n -> okL l -> l.length <= 9223372036854775807 -> V.I d s (sizeL l + m) ->
  Z1b Y00 gl 81 [exA l,.int .i64 d,V.F] (V.Mem s) (.bool (goL V.hE l d s).1) (V.Mem (goL V.hE l d s).2)
 |n,l,d,s,m,hn,hok,hl,hI=>by
  have hF : ∃ O, Z06 Y00 gl O /\ (∀ (i : Nat) (hi : i < l.length) (t : V.σ) (q : Nat), n ≠ 0 -> V.I (d + 1) t (sizeL l[i].kids + q) -> Z03 Y00 O (V.Mem t) 81 [exA l[i].kids, .int .i64 (d + 1), V.F] = some (.bool (goL V.hE l[i].kids (d + 1) t).1, V.Mem (goL V.hE l[i].kids (d + 1) t).2)) /\
    (∀(i:Nat)(hi:i<l.length)(t:V.σ)(q:Nat),V.I d t (q+1)->Z03 Y00 O (V.Mem t) V.gE ([.rp ((exC l).drop (i*4)),.int .i64 d]++V.cE)=some (.bool (V.hE l[i] d t).1,V.Mem (V.hE l[i] d t).2)):=by
   have s1:=Z2o (P:=Y00) (gl:=gl) (I:=Nat×V.σ×Nat) (G:=λp=>∃hp:p.1<l.length,n≠0/\V.I (d+1) p.2.1 (sizeL l[p.1].kids+p.2.2)) (fF:=λ_=>81) (fA:=λp=>[exA (l.getD p.1 default).kids,.int .i64 (d+1),V.F]) (fH:=λp=>V.Mem p.2.1) (fR:=λp=>.bool (goL V.hE (l.getD p.1 default).kids (d+1) p.2.1).1) (fO:=λp=>V.Mem (goL V.hE (l.getD p.1 default).kids (d+1) p.2.1).2) λp hp=>by
    obtain⟨hp,h0,h1⟩:=hp
    have hg:l.getD p.1 default=l[p.1]:=by simp[Y0k,hp]
    rw[hg]
    have hke:=Z4i hok _ (Z0i hp)
    have hsz:=Z1E _ _ (Z0i hp)
    have hsk:=ZaU l[p.1]
    match n,hn,h0 with
    |n+1,hn,_=>exact TvE.exprs hf n _ (d+1) p.2.1 p.2.2 (by omega) (Z5y hke).2 (Z5y hke).1.2 h1
   have s2:=Z2o (P:=Y00) (gl:=gl) (I:=Nat×V.σ×Nat) (G:=λp=>p.1<l.length/\V.I d p.2.1 (p.2.2+1)) (fF:=λ_=>V.gE) (fA:=λp=>[.rp ((exC l).drop (p.1*4)),.int .i64 d]++V.cE) (fH:=λp=>V.Mem p.2.1) (fR:=λp=>.bool (V.hE (l.getD p.1 default) d p.2.1).1) (fO:=λp=>V.Mem (V.hE (l.getD p.1 default) d p.2.1).2) λp hp=>by
    obtain⟨hp,h1⟩:=hp
    have hg:l.getD p.1 default=l[p.1]:=by simp[Y0k,hp]
    have hke:=Z4i hok _ (Z0i hp)
    simp only[hg]
    rw[ZgV l p.1 hp]
    exact V.okE _ _ _ _ _ hke h1
   refine⟨_,Z1T s1 s2,λi hi t q h0 h1=>?_,λi hi t q h1=>?_⟩
   · have hg:l.getD i default=l[i]:=by simp[Y0k,hi]
     have:=ZfD (P:=Y00) (I:=Nat×V.σ×Nat) (G:=λp=>∃hp:p.1<l.length,n≠0/\V.I (d+1) p.2.1 (sizeL l[p.1].kids+p.2.2)) (fF:=λ_=>81) (fA:=λp=>[exA (l.getD p.1 default).kids,.int .i64 (d+1),V.F]) (fH:=λp=>V.Mem p.2.1) (fR:=λp=>.bool (goL V.hE (l.getD p.1 default).kids (d+1) p.2.1).1) (fO:=λp=>V.Mem (goL V.hE (l.getD p.1 default).kids (d+1) p.2.1).2)
      (fun p q _ _ _ ha hh => by
        have e2:=V.inj _ _ hh
        simp only[List.cons.injEq,and_true,true_and]at ha
        rw[Za4 ha,e2];exact⟨rfl,rfl⟩) (g:=81) (args:=[exA l[i].kids,.int .i64 (d+1),V.F]) (H:=V.Mem t) (by kernel_rfl) (i,t,q) ⟨hi,h0,h1⟩ rfl (by rw[hg]) rfl
     simp only[hg]at this
     exact callOr1 (by kernel_rfl) this
   · have hg:l.getD i default=l[i]:=by simp[Y0k,hi]
     refine Z6l V.bodyE (Z3Q λp _ _ ha=>?_) ?_
     · have:=congrArg (λa=>a.head?) ha
       simp[exA]at this
     · have := ZfD (P := Y00) (I := Nat × V.σ × Nat) (G := fun p => p.1 < l.length /\ V.I d p.2.1 (p.2.2 + 1)) (fF := fun _ => V.gE) (fA := fun p => [.rp ((exC l).drop (p.1 * 4)), .int .i64 d] ++ V.cE) (fH := fun p => V.Mem p.2.1) (fR := fun p => .bool (V.hE (l.getD p.1 default) d p.2.1).1) (fO := fun p => V.Mem (V.hE (l.getD p.1 default) d p.2.1).2)
        (fun p q hp hq _ ha hh => by
          have e2:=V.inj _ _ hh
          simp only[Y0n,Y0D,List.cons.injEq,AV.rp.injEq,true_and,and_true]at ha
          have:=congrArg List.length ha
          simp only[Y0C,Zcx]at this
          have e:p.1=q.1:=by have:=hp.1;have:=hq.1;omega
          rw[e,e2];exact⟨rfl,rfl⟩) (g:=V.gE) (args:=[.rp ((exC l).drop (i*4)),.int .i64 d]++V.cE) (H:=V.Mem t) V.bodyE (i,t,q) ⟨hi,h1⟩ rfl rfl rfl
       simp only[hg]at this
       exact this
  obtain⟨O,hO,q2,q1⟩:=hF
  have hbd:=V.bnd _ _ _ hI
  have w1:IntKind.i64.wrap (d+1)=d+1:=Z2M (by omega) (by omega)
  simp only[exA,TvE.F]at q2⊢
  refine Zbk (k:=V.k) follows Z05 hO (V.len s) Tryz.func81 rfl (Zab _ _) ?_
  repeat' ((conv=>whnf);first|(rw[Z0f])|refine stp ?_|with_reducible apply Z01<;>intro h)
  conv=>whnf
  refine⟨Nat,(λi=>i<=l.length/\(goL V.hE (l.take i) d s).1=true),(λi=>[(0,.rs l.length 4 (exC l)),(1,.int .i64 d),(2,.func (.func V.gE) [] V.cE),(9,.int .i64 l.length),(10,.int .i64 i)]),(λi=>V.Mem (goL V.hE (l.take i) d s).2),(λi=>l.length-i),⟨0,⟨Y0f _,by simp only[Y04,goL]⟩,?_⟩,?_⟩
  · simp only[Y04,goL]
    refine FgLK.same rfl ?_ (V.same _)
    refine Y02 (Y03 rfl) ?_
    refine Y02 (Y03 rfl) ?_
    refine Y02 (Wk.func trivial V.wkE) ?_
    refine Y02 (Y06 rfl) ?_
    exact⟨Y06 rfl,trivial⟩
  rintro i ⟨hi,hall⟩
  dsimp only
  conv=>whnf
  rw[Z0f]
  by_cases hlt:i<l.length
  · have e1:decide ((i:Int)<(l.length:Int))=true:=by simpa using hlt
    have hat:=ZoT (h:=V.hE) l d s i hlt hall
    have hI2:V.I d (goL V.hE (l.take i) d s).2 (sizeL (l.drop i)+m):=V.keepL (l.take i) d s (sizeL (l.drop i)+m) (by
     have:=Z6I l i hlt
     have e:sizeL (l.drop i)=Z0C l[i]+sizeL (l.drop (i+1)):=by rw[Y0l hlt];simp only[sizeL]
     have e2:sizeL (l.take i)+(sizeL (l.drop i)+m)=sizeL l+m:=by omega
     rw[e2];exact hI) hall
    generalize (goL V.hE (l.take i) d s).2=t at *
    have esz:sizeL (l.drop i)+m=(sizeL l[i].kids+(sizeL (l.drop (i+1))+m))+1:=by
     rw[Y0l hlt];simp only[sizeL];have:=ZaU l[i];omega
    rw[esz]at hI2
    have q1':=q1 i hlt t _ hI2
    have hd2:=V.downE l[i] d t _ hI2
    have hx3:tk 1 (((exC l).drop (i*4)).drop 3)=some [exA l[i].kids]:=by rw[ZgV l i hlt];exact Zne _ _
    have hn0:n≠0:=by have:=Z1E _ _ (Z0i hlt);have:=Z31 l[i];omega
    have q2':=λt q=>q2 i hlt t q hn0
    rw[Zt8]at hat
    have hst:=ZgN (h:=V.hE) l d s (i+1)
    generalize l[i]=e at *
    generalize hr:V.hE e d t=r at *
    obtain⟨b,t1⟩:=r
    dsimp only at *
    cases b with
    |false =>
     simp only[Y0E,if_false]at hat
     rw[hat]at hst
     rw[hst rfl]
     clear q2 q2' hx3
     repeat' ((conv=>whnf);first|(refine exI q1' ?_)|(rw[Z0f])|(with_reducible refine ixJ i rfl ?_ ?_;focus omega)|refine stp ?_|with_reducible apply Z01<;>intro h)
     all_goals (conv=>whnf)
     all_goals (exact V.fin s t1 false)
    |true =>
     simp only[if_true]at hat
     have q2'':=q2' t1 _ (hd2 rfl)
     generalize hg:goL V.hE e.kids (d+1) t1=g at *
     obtain⟨b2,t2⟩:=g
     dsimp only at *
     simp only[exA]at hx3 q2''
     cases b2 with
     |true =>
      repeat' ((conv=>whnf);first|(refine exI q1' ?_)|(refine exI q2'' ?_)|refine exI hx3 ?_|(rw[Z0f])|(with_reducible refine exW w1 ?_)|(with_reducible refine ixJ i rfl ?_ ?_;focus omega)|refine stp ?_|with_reducible apply Z01<;>intro h)
      all_goals (conv=>whnf)
      refine⟨i+1,⟨hlt,by rw[hat]⟩,by show l.length-(i+1)<l.length-i;omega,?_⟩
      rw[hat]
      refine FgLK.same rfl ?_ (V.same _)
      refine Y02 (Y03 rfl) ?_
      refine Y02 (Y03 rfl) ?_
      refine Y02 (Wk.func trivial V.wkE) ?_
      refine Y02 (Y06 rfl) ?_
      exact⟨Y06 rfl,trivial⟩
     |false =>
      rw[hat]at hst
      rw[hst rfl]
      repeat' ((conv=>whnf);first|(refine exI q1' ?_)|(refine exI q2'' ?_)|refine exI hx3 ?_|(rw[Z0f])|(with_reducible refine exW w1 ?_)|(with_reducible refine ixJ i rfl ?_ ?_;focus omega)|refine stp ?_|with_reducible apply Z01<;>intro h)
      all_goals (conv=>whnf)
      all_goals (exact V.fin s t2 false)
  · have e1:decide ((i:Int)<(l.length:Int))=false:=by simpa using hlt
    have hi2:i=l.length:=by have:=hi;omega
    subst hi2
    rw[Y0s]at hall⊢
    rw[hall]
    generalize (goL V.hE l d s).2=t at *
    repeat' ((conv=>whnf);first|(rw[Z0f])|refine stp ?_|with_reducible apply Z01<;>intro h)
    all_goals (conv=>whnf)
    all_goals (exact V.fin s t true)
end
end
section
inductive St where
 |mk (kind:Int) (name loc:List UInt8) (order:Int) (exprs:List Ex) (thn els:List St)
instance:Inhabited St:=⟨.mk 0 [] [] 0 [] [] []⟩
def St.kind:St->Int
 | .mk k _ _ _ _ _ _=>k
def St.name:St->List UInt8
 | .mk _ n _ _ _ _ _=>n
def St.loc:St->List UInt8
 | .mk _ _ l _ _ _ _=>l
def St.order:St->Int
 | .mk _ _ _ o _ _ _=>o
def St.exprs:St->List Ex
 | .mk _ _ _ _ x _ _=>x
def St.thn:St->List St
 | .mk _ _ _ _ _ t _=>t
def St.els:St->List St
 | .mk _ _ _ _ _ _ e=>e
mutual
def St.cells:St->List AV
 | .mk k n l o x t e=>[.int .i64 k,.str n,.str l,.int .i64 o,exA x,.rs t.length 7 (stC t),.rs e.length 7 (stC e)]
def stC:List St->List AV
 |[]=>[]
 |s::l=>s.cells++stC l
end
def stA(l:List St):AV:=.rs l.length 7 (stC l)
mutual
def Z2g:St->Nat
 | .mk _ _ _ _ x t e=>1+sizeL x+sizeSL t+sizeSL e
def sizeSL:List St->Nat
 |[]=>0
 |s::l=>Z2g s+sizeSL l
end
mutual
def Z1K:St->Nat
 | .mk _ _ _ _ x t e=>max (max (deepSL t) (deepSL e)) (deepL x)+1
def deepSL:List St->Nat
 |[]=>0
 |s::l=>max (Z1K s) (deepSL l)
end
mutual
def okS:St->Prop
 | .mk _ n l _ x t e=>okN n x.length/\okN l t.length/\e.length<=9223372036854775807/\okL x/\okSL t/\okSL e
def okSL:List St->Prop
 |[]=>True
 |s::l=>okS s/\okSL l
end
theorem Z2O:∀{l:List St},okSL l->∀s∈l,okS s
 |x::l,h,e,he=>by
  simp only[okSL]at h
  rcases Y0e.1 he with rfl|he
  ·exact h.1
  ·exact Z2O h.2 e he
theorem Z3R:∀{s:St},okS s->s.name.length<=9223372036854775807/\s.loc.length<=9223372036854775807/\s.exprs.length<=9223372036854775807/\s.thn.length<=9223372036854775807/\s.els.length<=9223372036854775807/\okL s.exprs/\okSL s.thn/\okSL s.els
 | .mk _ _ _ _ _ _ _,h=>by
  simp only[okS,okN]at h
  simp only[St.name,St.loc,St.exprs,St.thn,St.els]
  exact⟨h.1.1,h.2.1.1,h.1.2,h.2.1.2,h.2.2.1,h.2.2.2⟩
theorem Z3O:∀s:St,s.cells.length=7
 | .mk _ _ _ _ _ _ _=>by simp only[St.cells];rfl
theorem ZbT:∀l:List St,(stC l).length=l.length*7
 |[]=>by simp only[stC];rfl
 |s::l=>by simp only[stC,Y0p,Z3O,ZbT l,Y0i];omega
theorem Zjb:∀a b:List St,stC (a++b)=stC a++stC b
 |[],b=>by simp only[stC,Y0D]
 |e::a,b=>by simp only[stC,Y0n,Zjb a b,List.append_assoc]
theorem Zmq(s:St)(l:List St)(i:Nat):(stC (s::l)).drop ((i+1)*7)=(stC l).drop (i*7):=by
 have h:(i+1)*7=7+i*7:=by omega
 rw[h,<- List.drop_drop,stC,List.drop_left' (Z3O s)]
theorem Z2h:∀(l:List St)(i:Nat)(h:i<l.length),(stC l).drop (i*7)=l[i].cells++stC (l.drop (i+1))
 |s::l,0,h=>by simp only[Nat.zero_mul,Y0r,stC,Y08,Y0h]
 |s::l,i+1,h=>by rw[Zmq,Z2h l i (by simpa using h)];simp only[Y09,Y0h]
theorem st7(l:List St)(i:Nat)(h:i<l.length):tk 7 ((stC l).drop (i*7))=some l[i].cells:=by
 rw[Z2h l i h]
 have:=Zgc l[i].cells (stC (l.drop (i+1)))
 rwa [Z3O]at this
mutual
theorem Z7x:∀(a b:St),a.cells=b.cells->a=b
 | .mk k n l o x t e,.mk k' n' l' o' x' t' e',h=>by
  simp only[St.cells,List.cons.injEq,AV.int.injEq,AV.str.injEq,AV.rs.injEq,true_and,and_true]at h
  obtain⟨rfl,rfl,rfl,rfl,hx,ht,he⟩:=h
  rw[Za4 hx,stC_inj t t' ht.2 ht.1,stC_inj e e' he.2 he.1]
theorem stC_inj:∀(a b:List St),stC a=stC b->a.length=b.length->a=b
 |[],[],_,_=>rfl
 |x::a,y::b,h,hl=>by
  simp only[stC]at h
  have h':=List.append_inj h (by rw[Z3O,Z3O])
  rw[Z7x x y h'.1,stC_inj a b h'.2 (by simpa using hl)]
 |[],_::_,_,hl=>by simp at hl
 |_::_,[],_,hl=>by simp at hl
end
theorem Z4a{a b:List St}(h:stA a=stA b):a=b:=by
 simp only[stA,AV.rs.injEq,true_and]at h
 exact stC_inj _ _ h.2 h.1
theorem Zjg:∀s:St,0<Z2g s
 | .mk _ _ _ _ _ _ _=>by simp only[Z2g];omega
theorem Z3o:∀s:St,Z2g s=1+sizeL s.exprs+sizeSL s.thn+sizeSL s.els
 | .mk _ _ _ _ _ _ _=>by simp only[Z2g,St.exprs,St.thn,St.els]
theorem ZnO:∀s:St,Z1K s=max (max (deepSL s.thn) (deepSL s.els)) (deepL s.exprs)+1
 | .mk _ _ _ _ _ _ _=>by simp only[Z1K,St.exprs,St.thn,St.els]
theorem Z5w:∀(l:List St)(i:Nat)(h:i<l.length),sizeSL l=sizeSL (l.take i)+Z2g l[i]+sizeSL (l.drop (i+1))
 |s::l,0,h=>by simp only[Y04,sizeSL,Y08,Y0h,Y0r];omega
 |s::l,i+1,h=>by
  have:=Z5w l i (by simpa using h)
  simp only[Y01,sizeSL,Y09,Y0h];omega
theorem Z9i:∀(l:List St)(i:Nat)(h:i<l.length),sizeSL (l.take (i+1))=sizeSL (l.take i)+Z2g l[i]
 |s::l,0,h=>by simp only[Y01,Y04,sizeSL,Y08];omega
 |s::l,i+1,h=>by
  have:=Z9i l i (by simpa using h)
  simp only[Y01,sizeSL,Y09]at this⊢;omega
theorem Z5v:∀l:List St,l.length<=sizeSL l
 |[]=>Y0f _
 |s::l=>by have:=Z5v l;have:=Zjg s;simp only[sizeSL,Y0i];omega
theorem Z2V:∀(l:List St)(s:St),s∈l->Z2g s<=sizeSL l
 |e::l,f,h=>by
  simp only[sizeSL]
  rcases Y0e.1 h with rfl|h
  ·omega
  ·have:=Z2V l f h;omega
theorem Zaa:∀(l:List St)(i:Nat)(h:i<l.length),deepSL (l.take (i+1))=max (deepSL (l.take i)) (Z1K l[i])
 |e::l,0,h=>by simp only[Y01,Y04,deepSL,Y08];omega
 |e::l,i+1,h=>by
  have:=Zaa l i (by simpa using h)
  simp only[Y01,deepSL,Y09]at this⊢;omega
mutual
theorem Zif:∀s:St,Z1K s<=Z2g s
 | .mk _ _ _ _ x t e=>by have:=deepSL_size t;have:=deepSL_size e;have:=deepL_size x;simp only[Z1K,Z2g];omega
theorem deepSL_size:∀l:List St,deepSL l<=sizeSL l
 |[]=>Y0c _
 |s::l=>by have:=Zif s;have:=deepSL_size l;simp only[deepSL,sizeSL];omega
end
theorem Ze2:∀(l:List St)(i:Nat),deepSL (l.take i)<=deepSL l
 |[],i=>by simp[deepSL]
 |e::l,0=>by simp[deepSL]
 |e::l,i+1=>by have:=Ze2 l i;simp only[Y01,deepSL];omega
theorem Z7T:∀(l:List St)(s:St),s∈l->Z1K s<=deepSL l
 |e::l,f,h=>by
  simp only[deepSL]
  rcases Y0e.1 h with rfl|h
  ·omega
  ·have:=Z7T l f h;omega
theorem Zhb(s:St)(rest:List AV):tk 1 ((s.cells++rest).drop 4)=some [exA s.exprs]:=by
 obtain⟨k,n,l,o,x,t,e⟩:=s
 simp only[St.cells,exA,St.exprs];rfl
theorem Zhc(s:St)(rest:List AV):tk 1 ((s.cells++rest).drop 5)=some [stA s.thn]:=by
 obtain⟨k,n,l,o,x,t,e⟩:=s
 simp only[St.cells,stA,St.thn];rfl
theorem Zhd(s:St)(rest:List AV):tk 1 ((s.cells++rest).drop 6)=some [stA s.els]:=by
 obtain⟨k,n,l,o,x,t,e⟩:=s
 simp only[St.cells,stA,St.els];rfl
theorem ZtE(s:St)(rest:List AV):tk 1 ((s.cells++rest).drop 1)=some [.str s.name]:=by
 obtain⟨k,n,l,o,x,t,e⟩:=s
 simp only[St.cells,St.name];rfl
end
section
structure TvS (gl:Z0l) extends TvE gl where
 gS:Nat
 cS:List AV
 hS:St->Int -> σ -> Bool×σ
 bodyS:Z09 Y00 gS=true
 wkS:WkL (List.range k) cS cS
 okS:∀x rest d s m,lex.okS x->I d s (m+1)->Z1b Y00 gl gS ([.rp (x.cells++rest),.int .i64 d]++cS) (Mem s) (.bool (hS x d s).1) (Mem (hS x d s).2)
 downS:∀x d s m,I d s (m+1)->(hS x d s).1=true->I (d+1) (hS x d s).2 m
section
variable {σ : Type}
def Z1D(r:Bool×σ)(f : σ -> Bool×σ):Bool×σ:=if r.1=true then f r.2 else (false,r.2)
mutual
def goS(hE:Ex->Int -> σ -> Bool×σ)(hS:St->Int -> σ -> Bool×σ):St->Int -> σ -> Bool×σ
 | .mk k n l o x t e,d,s=>Z1D (hS (.mk k n l o x t e) d s) λs1=>Z1D (goL hE x (d+1) s1) λs2=>Z1D (goSL hE hS t (d+1) s2) λs3=>goSL hE hS e (d+1) s3
def goSL(hE:Ex->Int -> σ -> Bool×σ)(hS:St->Int -> σ -> Bool×σ):List St->Int -> σ -> Bool×σ
 |[],d,s=>(true,s)
 |x::l,d,s=>Z1D (goS hE hS x d s) λs1=>goSL hE hS l d s1
end
variable {hE:Ex->Int -> σ -> Bool×σ} {hS:St->Int -> σ -> Bool×σ}
theorem Zt6(x:St)(d:Int)(s : σ):goS hE hS x d s=Z1D (hS x d s) λs1=>Z1D (goL hE x.exprs (d+1) s1) λs2=>Z1D (goSL hE hS x.thn (d+1) s2) λs3=>goSL hE hS x.els (d+1) s3:=by
 obtain⟨k,n,l,o,x,t,e⟩:=x
 simp only[goS,St.exprs,St.thn,St.els]
theorem Zk1:∀(l:List St)(d:Int)(t : σ)(i:Nat)(hi:i<l.length),(goSL hE hS (l.take i) d t).1=true->goSL hE hS (l.take (i+1)) d t=goS hE hS l[i] d (goSL hE hS (l.take i) d t).2
 |e::l,d,t,0,_,_=>by
  simp only[Y04,Y01,goSL,Y08,Z1D]
  split
  ·rename_i h2;rw[<- h2]
  ·rename_i h2;rw[<- Y0q.2 h2]
 |e::l,d,t,i+1,hi,ht=>by
  simp only[Y01,goSL,Y09,Z1D]at ht⊢
  split
  · rename_i h2
    rw[if_pos h2]at ht
    exact Zk1 l d _ i (by simpa using hi) ht
  ·rename_i h2;rw[if_neg h2]at ht;cases ht
theorem ZdH:∀(l:List St)(d:Int)(t : σ)(i:Nat),(goSL hE hS (l.take i) d t).1=false->goSL hE hS l d t=goSL hE hS (l.take i) d t
 |[],d,t,i,hf=>by simp
 |e::l,d,t,0,hf=>by simp only[Y04,goSL]at hf;cases hf
 |e::l,d,t,i+1,hf=>by
  simp only[Y01,goSL,Z1D]at hf⊢
  split
  · rename_i h2
    rw[if_pos h2]at hf
    exact ZdH l d _ i hf
  ·rfl
theorem Z5q{r:Bool×σ}{f : σ -> Bool×σ}(h:(Z1D r f).1=true):r.1=true/\Z1D r f=f r.2:=by
 unfold Z1D at h⊢
 split at h
 ·rename_i h2;exact⟨h2,by rw[if_pos h2]⟩
 ·cases h
end
section
variable {gl:Z0l} (V:TvS gl)
def TvS.G:AV:=.func (.func V.gS) [] V.cS
mutual
theorem TvS.keepS:∀(x:St)(d:Int)(s:V.σ)(m:Nat),V.I d s (Z2g x+m)->(goS V.hE V.hS x d s).1=true->V.I d (goS V.hE V.hS x d s).2 m
 | .mk k n l o x t e,d,s,m,hI,ht=>by
  simp only[goS,Z2g]at hI ht⊢
  obtain⟨h1,e1⟩:=Z5q ht
  rw[e1]at ht⊢
  obtain⟨h2,e2⟩:=Z5q ht
  rw[e2]at ht⊢
  obtain⟨h3,e3⟩:=Z5q ht
  rw[e3]at ht⊢
  have i1:=V.downS _ d s (sizeL x+(sizeSL t+(sizeSL e+m))) (by rw[show 1+sizeL x+sizeSL t+sizeSL e+m=sizeL x+(sizeSL t+(sizeSL e+m))+1 from by omega]at hI;exact hI) h1
  have i2:=V.toTvE.keepL x (d+1) _ _ i1 h2
  have i3:=TvS.keepSL t (d+1) _ _ i2 h3
  exact V.up _ _ _ (V.bnd _ _ _ hI).1 (TvS.keepSL e (d+1) _ m i3 ht)
theorem TvS.keepSL:∀(l:List St)(d:Int)(s:V.σ)(m:Nat),V.I d s (sizeSL l+m)->(goSL V.hE V.hS l d s).1=true->V.I d (goSL V.hE V.hS l d s).2 m
 |[],d,s,m,hI,ht=>by simp only[goSL,sizeSL,Y0j]at hI⊢;exact hI
 |x::l,d,s,m,hI,ht=>by
  simp only[goSL,sizeSL]at hI ht⊢
  obtain⟨h1,e1⟩:=Z5q ht
  rw[e1]at ht⊢
  exact TvS.keepSL l d _ m (TvS.keepS x d s (sizeSL l+m) (by rw[<- Nat.add_assoc];exact hI) h1) ht
end
theorem TvS.stmts : ∀ (n : Nat) (l : List St) (d : Int) (s : V.σ) (m : Nat), sizeSL l <= n -> okSL l -> l.length <= 9223372036854775807 -> V.I d s (sizeSL l + m) ->
  Z1b Y00 gl 67 [stA l,.int .i64 d,V.toTvE.F,V.G] (V.Mem s) (.bool (goSL V.hE V.hS l d s).1) (V.Mem (goSL V.hE V.hS l d s).2)
 |n,l,d,s,m,hn,hok,hl,hI=>by
  have hF : ∃ O, Z06 Y00 gl O /\
    (∀(x:List St)(t:V.σ)(q:Nat),sizeSL x<n->okSL x->x.length<=9223372036854775807->V.I (d+1) t (sizeSL x+q)->Z03 Y00 O (V.Mem t) 67 [stA x,.int .i64 (d+1),V.toTvE.F,V.G]=some (.bool (goSL V.hE V.hS x (d+1) t).1,V.Mem (goSL V.hE V.hS x (d+1) t).2)) /\
    (∀(x:List Ex)(t:V.σ)(q:Nat),okL x->x.length<=9223372036854775807->V.I (d+1) t (sizeL x+q)->Z03 Y00 O (V.Mem t) 81 [exA x,.int .i64 (d+1),V.toTvE.F]=some (.bool (goL V.hE x (d+1) t).1,V.Mem (goL V.hE x (d+1) t).2)) /\
    (∀(i:Nat)(hi:i<l.length)(t:V.σ)(q:Nat),V.I d t (q+1)->Z03 Y00 O (V.Mem t) V.gS ([.rp ((stC l).drop (i*7)),.int .i64 d]++V.cS)=some (.bool (V.hS l[i] d t).1,V.Mem (V.hS l[i] d t).2)):=by
   have s1:=Z2o (P:=Y00) (gl:=gl) (I:=List St×V.σ×Nat) (G:=λp=>sizeSL p.1<n/\okSL p.1/\p.1.length<=9223372036854775807/\V.I (d+1) p.2.1 (sizeSL p.1+p.2.2)) (fF:=λ_=>67) (fA:=λp=>[stA p.1,.int .i64 (d+1),V.toTvE.F,V.G]) (fH:=λp=>V.Mem p.2.1) (fR:=λp=>.bool (goSL V.hE V.hS p.1 (d+1) p.2.1).1) (fO:=λp=>V.Mem (goSL V.hE V.hS p.1 (d+1) p.2.1).2) λp hp=>by
    obtain⟨h0,h1,h2,h3⟩:=hp
    match n,hn,h0 with
    |n+1,hn,h0=>exact TvS.stmts n _ (d+1) p.2.1 p.2.2 (by omega) h1 h2 h3
   have s2:=Z2o (P:=Y00) (gl:=gl) (I:=List Ex×V.σ×Nat) (G:=λp=>okL p.1/\p.1.length<=9223372036854775807/\V.I (d+1) p.2.1 (sizeL p.1+p.2.2)) (fF:=λ_=>81) (fA:=λp=>[exA p.1,.int .i64 (d+1),V.toTvE.F]) (fH:=λp=>V.Mem p.2.1) (fR:=λp=>.bool (goL V.hE p.1 (d+1) p.2.1).1) (fO:=λp=>V.Mem (goL V.hE p.1 (d+1) p.2.1).2) λp hp =>
    V.toTvE.exprs follows _ p.1 (d+1) p.2.1 p.2.2 (Y0c _) hp.1 hp.2.1 hp.2.2
   have s3:=Z2o (P:=Y00) (gl:=gl) (I:=Nat×V.σ×Nat) (G:=λp=>p.1<l.length/\V.I d p.2.1 (p.2.2+1)) (fF:=λ_=>V.gS) (fA:=λp=>[.rp ((stC l).drop (p.1*7)),.int .i64 d]++V.cS) (fH:=λp=>V.Mem p.2.1) (fR:=λp=>.bool (V.hS (l.getD p.1 default) d p.2.1).1) (fO:=λp=>V.Mem (V.hS (l.getD p.1 default) d p.2.1).2) λp hp=>by
    obtain⟨hp,h1⟩:=hp
    have hg:l.getD p.1 default=l[p.1]:=by simp[Y0k,hp]
    have hke:=Z2O hok _ (Z0i hp)
    simp only[hg]
    rw[Z2h l p.1 hp]
    exact V.okS _ _ _ _ _ hke h1
   refine⟨_,Z1T s1 (Z1T s2 s3),λx t q h0 h1 h2 h3=>?_,λx t q h0 h1 h2=>?_,λi hi t q h1=>?_⟩
   · exact callOr1 (by kernel_rfl) (ZfD (P := Y00) (fun p q _ _ _ ha hh => by
      have e2:=V.inj _ _ hh
      simp only[List.cons.injEq,and_true,true_and]at ha
      rw[Z4a ha,e2];exact⟨rfl,rfl⟩) (by kernel_rfl) (x,t,q) ⟨h0,h1,h2,h3⟩ rfl rfl rfl)
   · refine Z6l (by kernel_rfl) (Z3Q λp _ e _=>absurd e (by decide)) ?_
     exact callOr1 (by kernel_rfl) (ZfD (P:=Y00) (λp q _ _ _ ha hh=>by
      have e2:=V.inj _ _ hh
      simp only[List.cons.injEq,and_true,true_and]at ha
      rw[Za4 ha,e2];exact⟨rfl,rfl⟩) (by kernel_rfl) (x,t,q) ⟨h0,h1,h2⟩ rfl rfl rfl)
   · have hg:l.getD i default=l[i]:=by simp[Y0k,hi]
     refine Z6l V.bodyS (Z3Q λp _ _ ha=>?_) ?_
     · have:=congrArg (λa=>a.head?) ha
       simp[stA]at this
     refine Z6l V.bodyS (Z3Q λp _ _ ha=>?_) ?_
     · have:=congrArg (λa=>a.head?) ha
       simp[exA]at this
     · have := ZfD (P := Y00) (I := Nat × V.σ × Nat) (G := fun p => p.1 < l.length /\ V.I d p.2.1 (p.2.2 + 1)) (fF := fun _ => V.gS) (fA := fun p => [.rp ((stC l).drop (p.1 * 7)), .int .i64 d] ++ V.cS) (fH := fun p => V.Mem p.2.1) (fR := fun p => .bool (V.hS (l.getD p.1 default) d p.2.1).1) (fO := fun p => V.Mem (V.hS (l.getD p.1 default) d p.2.1).2)
        (fun p q hp hq _ ha hh => by
          have e2:=V.inj _ _ hh
          simp only[Y0n,Y0D,List.cons.injEq,AV.rp.injEq,true_and,and_true]at ha
          have:=congrArg List.length ha
          simp only[Y0C,ZbT]at this
          have e:p.1=q.1:=by have:=hp.1;have:=hq.1;omega
          rw[e,e2];exact⟨rfl,rfl⟩) (g:=V.gS) (args:=[.rp ((stC l).drop (i*7)),.int .i64 d]++V.cS) (H:=V.Mem t) V.bodyS (i,t,q) ⟨hi,h1⟩ rfl rfl rfl
       simp only[hg]at this
       exact this
  obtain⟨O,hO,q3,q2,q1⟩:=hF
  have hbd:=V.bnd _ _ _ hI
  have w1:IntKind.i64.wrap (d+1)=d+1:=Z2M (by omega) (by omega)
  simp only[stA,exA,TvE.F,TvS.G]at q2 q3⊢
  refine Zbk (k:=V.k) follows Z05 hO (V.len s) Tryz.func67 rfl (Zab _ _) ?_
  repeat' ((conv=>whnf);(first|refine stp ?_|with_reducible apply Z01<;>intro h))
  conv=>whnf
  refine⟨Nat,(λi=>i<=l.length/\(goSL V.hE V.hS (l.take i) d s).1=true),(λi=>[(0,.rs l.length 7 (stC l)),(1,.int .i64 d),(2,.func (.func V.gE) [] V.cE),(3,.func (.func V.gS) [] V.cS),(12,.int .i64 l.length),(13,.int .i64 i)]),(λi=>V.Mem (goSL V.hE V.hS (l.take i) d s).2),(λi=>l.length-i),⟨0,⟨Y0f _,by simp only[Y04,goSL]⟩,?_⟩,?_⟩
  · simp only[Y04,goSL]
    refine FgLK.same rfl ?_ (V.same _)
    refine Y02 (Y03 rfl) ?_
    refine Y02 (Y03 rfl) ?_
    refine Y02 (Wk.func trivial V.wkE) ?_
    refine Y02 (Wk.func trivial V.wkS) ?_
    refine Y02 (Y06 rfl) ?_
    exact⟨Y06 rfl,trivial⟩
  rintro i ⟨hi,hall⟩
  dsimp only
  conv=>whnf
  rw[Z0f]
  by_cases hlt:i<l.length
  · have e1:decide ((i:Int)<(l.length:Int))=true:=by simpa using hlt
    have hat:=Zk1 (hE:=V.hE) (hS:=V.hS) l d s i hlt hall
    have hI2:V.I d (goSL V.hE V.hS (l.take i) d s).2 (sizeSL (l.drop i)+m):=V.keepSL (l.take i) d s (sizeSL (l.drop i)+m) (by
     have:=Z5w l i hlt
     have e:sizeSL (l.drop i)=Z2g l[i]+sizeSL (l.drop (i+1)):=by rw[Y0l hlt];simp only[sizeSL]
     have e2:sizeSL (l.take i)+(sizeSL (l.drop i)+m)=sizeSL l+m:=by omega
     rw[e2];exact hI) hall
    generalize (goSL V.hE V.hS (l.take i) d s).2=t at *
    have esz:sizeSL (l.drop i)+m=(sizeL l[i].exprs+(sizeSL l[i].thn+(sizeSL l[i].els+(sizeSL (l.drop (i+1))+m))))+1:=by
     rw[Y0l hlt];simp only[sizeSL];have:=Z3o l[i];omega
    rw[esz]at hI2
    have q1':=q1 i hlt t _ hI2
    have hd2:=V.downS l[i] d t _ hI2
    have hx4:tk 1 (((stC l).drop (i*7)).drop 4)=some [exA l[i].exprs]:=by rw[Z2h l i hlt];exact Zhb _ _
    have hx5:tk 1 (((stC l).drop (i*7)).drop 5)=some [stA l[i].thn]:=by rw[Z2h l i hlt];exact Zhc _ _
    have hx6:tk 1 (((stC l).drop (i*7)).drop 6)=some [stA l[i].els]:=by rw[Z2h l i hlt];exact Zhd _ _
    obtain⟨_,_,k1,k2,k3,k4,k5,k6⟩:=Z3R (Z2O hok _ (Z0i hlt))
    have hsz:=Z2V _ _ (Z0i hlt)
    have hse:=Z3o l[i]
    have qx:=λt q=>q2 l[i].exprs t q k4 k1
    have qt:=λt q=>q3 l[i].thn t q (by omega) k5 k2
    have qe:=λt q=>q3 l[i].els t q (by omega) k6 k3
    have kx:=λs m=>V.toTvE.keepL l[i].exprs (d+1) s m
    have kt:=λs m=>V.keepSL l[i].thn (d+1) s m
    rw[Zt6]at hat
    have hst:=ZdH (hE:=V.hE) (hS:=V.hS) l d s (i+1)
    clear q1 q2 q3 hse hsz k1 k2 k3 k4 k5 k6
    generalize l[i]=e at *
    generalize hr:V.hS e d t=r at *
    obtain⟨b,t1⟩:=r
    simp only[exA,stA]at hx4 hx5 hx6 qx qt qe
    dsimp only[Z1D]at *
    cases b with
    |false =>
     simp only[Y0E,if_false]at hat
     rw[hat]at hst
     rw[hst rfl]
     repeat' ((conv=>whnf);first|(refine exI q1' ?_)|(rw[Z0f])|(with_reducible refine ixJ i rfl ?_ ?_;focus omega)|refine stp ?_|with_reducible apply Z01<;>intro h)
     all_goals (conv=>whnf)
     all_goals (exact V.toTvE.fin s t1 false)
    |true =>
     simp only[if_true]at hat
     have i1:=hd2 rfl
     have qx':=qx t1 _ i1
     have kx':=kx t1 _ i1
     generalize hg:goL V.hE e.exprs (d+1) t1=g at *
     obtain⟨b2,t2⟩:=g
     dsimp only at *
     cases b2 with
     |false =>
      simp only[Y0E,if_false]at hat
      rw[hat]at hst
      rw[hst rfl]
      repeat' ((conv=>whnf);first|(refine exI q1' ?_)|(refine exI qx' ?_)|refine exI hx4 ?_|(rw[Z0f])|(with_reducible refine exW w1 ?_)|(with_reducible refine ixJ i rfl ?_ ?_;focus omega)|refine stp ?_|with_reducible apply Z01<;>intro h)
      all_goals (conv=>whnf)
      all_goals (exact V.toTvE.fin s t2 false)
     |true =>
      simp only[if_true]at hat
      have i2:=kx' rfl
      have qt':=qt t2 _ i2
      have kt':=kt t2 _ i2
      generalize hg2:goSL V.hE V.hS e.thn (d+1) t2=g2 at *
      obtain⟨b3,t3⟩:=g2
      dsimp only at *
      cases b3 with
      |false =>
       simp only[Y0E,if_false]at hat
       rw[hat]at hst
       rw[hst rfl]
       repeat' ((conv=>whnf);first|(refine exI q1' ?_)|(refine exI qx' ?_)|(refine exI qt' ?_)|refine exI hx4 ?_|refine exI hx5 ?_|(rw[Z0f])|(with_reducible refine exW w1 ?_)|(with_reducible refine ixJ i rfl ?_ ?_;focus omega)|refine stp ?_|with_reducible apply Z01<;>intro h)
       all_goals (conv=>whnf)
       all_goals (exact V.toTvE.fin s t3 false)
      |true =>
       simp only[if_true]at hat
       have i3:=kt' rfl
       have qe':=qe t3 _ i3
       generalize hg3:goSL V.hE V.hS e.els (d+1) t3=g3 at *
       obtain⟨b4,t4⟩:=g3
       dsimp only at *
       cases b4 with
       |false =>
        rw[hat]at hst
        rw[hst rfl]
        repeat' ((conv=>whnf);first|(refine exI q1' ?_)|(refine exI qx' ?_)|(refine exI qt' ?_)|(refine exI qe' ?_)|refine exI hx4 ?_|refine exI hx5 ?_|refine exI hx6 ?_|(rw[Z0f])|(with_reducible refine exW w1 ?_)|(with_reducible refine ixJ i rfl ?_ ?_;focus omega)|refine stp ?_|with_reducible apply Z01<;>intro h)
        all_goals (conv=>whnf)
        all_goals (exact V.toTvE.fin s t4 false)
       |true =>
        repeat' ((conv=>whnf);first|(refine exI q1' ?_)|(refine exI qx' ?_)|(refine exI qt' ?_)|(refine exI qe' ?_)|refine exI hx4 ?_|refine exI hx5 ?_|refine exI hx6 ?_|(rw[Z0f])|(with_reducible refine exW w1 ?_)|(with_reducible refine ixJ i rfl ?_ ?_;focus omega)|refine stp ?_|with_reducible apply Z01<;>intro h)
        all_goals (conv=>whnf)
        refine⟨i+1,⟨hlt,by rw[hat]⟩,by show l.length-(i+1)<l.length-i;omega,?_⟩
        rw[hat]
        refine FgLK.same rfl ?_ (V.same _)
        refine Y02 (Y03 rfl) ?_
        refine Y02 (Y03 rfl) ?_
        refine Y02 (Wk.func trivial V.wkE) ?_
        refine Y02 (Wk.func trivial V.wkS) ?_
        refine Y02 (Y06 rfl) ?_
        exact⟨Y06 rfl,trivial⟩
  · have e1:decide ((i:Int)<(l.length:Int))=false:=by simpa using hlt
    have hi2:i=l.length:=by have:=hi;omega
    subst hi2
    rw[Y0s]at hall⊢
    rw[hall]
    generalize (goSL V.hE V.hS l d s).2=t at *
    repeat' ((conv=>whnf);first|(rw[Z0f])|refine stp ?_|with_reducible apply Z01<;>intro h)
    all_goals (conv=>whnf)
    all_goals (exact V.toTvE.fin s t true)
end
end
end Go.Proofs.YtkkfcfjhhdmamaaGreatDoor.lex
section
namespace Go.Proofs.YtkkfcfjhhdmamaaGreatDoor.runLives
open Go.RowKit Go.Abs
def Zv4:List AV:=[.int .u8 (.ofNat 0),.int .u8 (.ofNat 1),.int .u8 (.ofNat 28),.int .u8 (.ofNat 2),.int .u8 (.ofNat 29),.int .u8 (.ofNat 14),.int .u8 (.ofNat 24),
 .int .u8 (.ofNat 3),.int .u8 (.ofNat 30),.int .u8 (.ofNat 22),.int .u8 (.ofNat 20),.int .u8 (.ofNat 15),.int .u8 (.ofNat 25),
 .int .u8 (.ofNat 17),.int .u8 (.ofNat 4),.int .u8 (.ofNat 8),.int .u8 (.ofNat 31),.int .u8 (.ofNat 27),.int .u8 (.ofNat 13),.int .u8 (.ofNat 23),
 .int .u8 (.ofNat 21),.int .u8 (.ofNat 19),.int .u8 (.ofNat 16),.int .u8 (.ofNat 7),.int .u8 (.ofNat 26),.int .u8 (.ofNat 12),
 .int .u8 (.ofNat 18),.int .u8 (.ofNat 6),.int .u8 (.ofNat 11),.int .u8 (.ofNat 5),.int .u8 (.ofNat 10),.int .u8 (.ofNat 9)]
def Zv3:List AV:=[.int .u8 (.ofNat 0),.int .u8 (.ofNat 1),.int .u8 (.ofNat 56),.int .u8 (.ofNat 2),.int .u8 (.ofNat 57),.int .u8 (.ofNat 49),.int .u8 (.ofNat 28),
 .int .u8 (.ofNat 3),.int .u8 (.ofNat 61),.int .u8 (.ofNat 58),.int .u8 (.ofNat 42),.int .u8 (.ofNat 50),.int .u8 (.ofNat 38),
 .int .u8 (.ofNat 29),.int .u8 (.ofNat 17),.int .u8 (.ofNat 4),.int .u8 (.ofNat 62),.int .u8 (.ofNat 47),.int .u8 (.ofNat 59),
 .int .u8 (.ofNat 36),.int .u8 (.ofNat 45),.int .u8 (.ofNat 43),.int .u8 (.ofNat 51),.int .u8 (.ofNat 22),.int .u8 (.ofNat 53),
 .int .u8 (.ofNat 39),.int .u8 (.ofNat 33),.int .u8 (.ofNat 30),.int .u8 (.ofNat 24),.int .u8 (.ofNat 18),.int .u8 (.ofNat 12),
 .int .u8 (.ofNat 5),.int .u8 (.ofNat 63),.int .u8 (.ofNat 55),.int .u8 (.ofNat 48),.int .u8 (.ofNat 27),.int .u8 (.ofNat 60),
 .int .u8 (.ofNat 41),.int .u8 (.ofNat 37),.int .u8 (.ofNat 16),.int .u8 (.ofNat 46),.int .u8 (.ofNat 35),.int .u8 (.ofNat 44),
 .int .u8 (.ofNat 21),.int .u8 (.ofNat 52),.int .u8 (.ofNat 32),.int .u8 (.ofNat 23),.int .u8 (.ofNat 11),.int .u8 (.ofNat 54),
 .int .u8 (.ofNat 26),.int .u8 (.ofNat 40),.int .u8 (.ofNat 15),.int .u8 (.ofNat 34),.int .u8 (.ofNat 20),.int .u8 (.ofNat 31),
 .int .u8 (.ofNat 10),.int .u8 (.ofNat 25),.int .u8 (.ofNat 14),.int .u8 (.ofNat 19),.int .u8 (.ofNat 9),.int .u8 (.ofNat 13),.int .u8 (.ofNat 8),
 .int .u8 (.ofNat 7),.int .u8 (.ofNat 6)]
def tbl2:List AV:=[.int .u64 (.ofNat 1),.int .u64 (.ofNat 10),.int .u64 (.ofNat 100),.int .u64 (.ofNat 1000),.int .u64 (.ofNat 10000),.int .u64 (.ofNat 100000),
 .int .u64 (.ofNat 1000000),.int .u64 (.ofNat 10000000),.int .u64 (.ofNat 100000000),.int .u64 (.ofNat 1000000000),.int .u64 (.ofNat 10000000000),
 .int .u64 (.ofNat 100000000000),.int .u64 (.ofNat 1000000000000),.int .u64 (.ofNat 10000000000000),.int .u64 (.ofNat 100000000000000),
 .int .u64 (.ofNat 1000000000000000),.int .u64 (.ofNat 10000000000000000),.int .u64 (.ofNat 100000000000000000),
 .int .u64 (.ofNat 1000000000000000000),.int .u64 (.ofNat 10000000000000000000)]
def Zv2:List AV:=[.bool false,.bool false,.int .i64 (.ofNat 0),.bool true,.bool false,.int .i64 (.ofNat 0),.bool false,.bool true,.int .i64 (.ofNat 0),
 .bool false,.bool false,.int .i64 (.ofNat 1),.bool false,.bool false,.int .i64 (.ofNat 1),.bool false,.bool false,.int .i64 (.ofNat 2),
 .bool false,.bool false,.int .i64 (.ofNat 2),.bool false,.bool false,.int .i64 (.ofNat 2),.bool false,.bool false,.int .i64 (.ofNat 2),
 .bool false,.bool false,.int .i64 (.ofNat 2),.bool false,.bool false,.int .i64 (.ofNat 2),.bool false,.bool false,.int .i64 (.ofNat 2),
 .bool false,.bool false,.int .i64 (.ofNat 2),.bool false,.bool false,.int .i64 (.ofNat 2),.bool false,.bool false,.int .i64 (.ofNat 2),
 .bool false,.bool false,.int .i64 (.ofNat 2),.bool false,.bool false,.int .i64 (.ofNat 2)]
def Zv1:List AV:=[.bool false,.bool false,.bool false,.int .i64 (.ofNat 0),.bool false,.bool false,.bool true,.bool false,.bool false,.int .i64 (.ofNat 1),
 .bool false,.bool false,.bool true,.bool true,.bool true,.int .i64 (.ofNat 0),.bool false,.bool false,.bool false,.bool true,.bool true,
 .int .i64 (.ofNat 1),.bool false,.bool false,.bool true,.bool true,.bool true,.int .i64 (.ofNat 2),.bool false,.bool false,.bool true,
 .bool true,.bool true,.int .i64 (.ofNat 1),.bool false,.bool false,.bool true,.bool true,.bool true,.int .i64 (.ofNat 1),.bool false,
 .bool false,.bool false,.bool false,.bool true,.int .i64 (.ofNat 0),.bool false,.bool false,.bool false,.bool false,.bool false,
 .int .i64 (.ofNat 1),.bool false,.bool false,.bool false,.bool false,.bool false,.int .i64 (.ofNat 1),.bool false,.bool false,.bool false,
 .bool false,.bool false,.int .i64 (.ofNat 1),.bool true,.bool true,.bool false,.bool false,.bool false,.int .i64 (.ofNat 1),.bool true,
 .bool false]
def gl:Z0l:=λg=>if Y07 g 3 then some Zv4 else if Y07 g 4 then some Zv3 else if Y07 g 2 then some tbl2 else if Y07 g 0 then some Zv2 else if Y07 g 1 then some Zv1 else none
theorem follows:Y00.follows .mixedOrders=true:=by kernel_rfl
theorem Zcf:(Y00.funcs.toList.all λfn=>!(fn.name == "runtime.NumGoroutine"))=true:=by kernel_rfl
theorem Z05:NoNum Y00:=⟨λg fn h=>by
 have h1:=Y0G.1 Zcf fn (Array.mem_toList_iff.2 (Array.mem_of_getElem? h))
 simpa using h1,of_decide_eq_true (by kernel_rfl)⟩
theorem n0:Y00.globalNamed "math/bits.deBruijn32tab" = some 3:=by kernel_rfl
theorem ty0:(Y00.globals[3]?).map (·.type)=some 185:=by kernel_rfl
theorem av0:Zlw Y00 6 185 (Rows.laid_math_bits_deBruijn32tab (H:=Unit))=some Zv4:=by kernel_rfl
theorem n1:Y00.globalNamed "math/bits.deBruijn64tab" = some 4:=by kernel_rfl
theorem ty1:(Y00.globals[4]?).map (·.type)=some 186:=by kernel_rfl
theorem av1:Zlw Y00 6 186 (Rows.laid_math_bits_deBruijn64tab (H:=Unit))=some Zv3:=by kernel_rfl
theorem n2:Y00.globalNamed "internal/strconv.uint64pow10" = some 2:=by kernel_rfl
theorem ty2:(Y00.globals[2]?).map (·.type)=some 165:=by kernel_rfl
theorem av2:Zlw Y00 6 165 (Rows.laid_internal_strconv_uint64pow10 (H:=Unit))=some tbl2:=by kernel_rfl
theorem n3:Y00.globalNamed "cantilever/ast.shapes" = some 0:=by kernel_rfl
theorem ty3:(Y00.globals[0]?).map (·.type)=some 142:=by kernel_rfl
theorem av3:Zlw Y00 6 142 (Rows.laid_cantilever_ast_shapes (H:=Unit))=some Zv2:=by kernel_rfl
theorem n4:Y00.globalNamed "cantilever/ast.forms" = some 1:=by kernel_rfl
theorem ty4:(Y00.globals[1]?).map (·.type)=some 145:=by kernel_rfl
theorem av4:Zlw Y00 6 145 (Rows.laid_cantilever_ast_forms (H:=Unit))=some Zv1:=by kernel_rfl
theorem globs{W:World}(h:laidMetH Y00 [("math/bits.deBruijn32tab", Rows.laid_math_bits_deBruijn32tab), ("math/bits.deBruijn64tab", Rows.laid_math_bits_deBruijn64tab), ("internal/strconv.uint64pow10", Rows.laid_internal_strconv_uint64pow10), ("cantilever/ast.shapes", Rows.laid_cantilever_ast_shapes), ("cantilever/ast.forms", Rows.laid_cantilever_ast_forms)] W):GlOK gl (Z2Z W):=by
 have h':laidMet Y00 [("math/bits.deBruijn32tab", Rows.laid_math_bits_deBruijn32tab), ("math/bits.deBruijn64tab", Rows.laid_math_bits_deBruijn64tab), ("internal/strconv.uint64pow10", Rows.laid_internal_strconv_uint64pow10), ("cantilever/ast.shapes", Rows.laid_cantilever_ast_shapes), ("cantilever/ast.forms", Rows.laid_cantilever_ast_forms)] W:=h
 obtain⟨_,hv,_⟩:=id h'
 obtain⟨m0,_⟩:=Z4Z n0 ty0 av0 hv
 have h':=laidMet.tail h'
 obtain⟨_,hv,_⟩:=id h'
 obtain⟨m1,_⟩:=Z4Z n1 ty1 av1 hv
 have h':=laidMet.tail h'
 obtain⟨_,hv,_⟩:=id h'
 obtain⟨m2,_⟩:=Z4Z n2 ty2 av2 hv
 have h':=laidMet.tail h'
 obtain⟨_,hv,_⟩:=id h'
 obtain⟨m3,_⟩:=Z4Z n3 ty3 av3 hv
 have h':=laidMet.tail h'
 obtain⟨_,hv,_⟩:=id h'
 obtain⟨m4,_⟩:=Z4Z n4 ty4 av4 hv
 intro g cs hg
 unfold gl at hg
 split at hg
 ·rename_i e;have:=Y0d e;subst this;simp at hg;subst hg;exact m0
 split at hg
 ·rename_i e;have:=Y0d e;subst this;simp at hg;subst hg;exact m1
 split at hg
 ·rename_i e;have:=Y0d e;subst this;simp at hg;subst hg;exact m2
 split at hg
 ·rename_i e;have:=Y0d e;subst this;simp at hg;subst hg;exact m3
 split at hg
 ·rename_i e;have:=Y0d e;subst this;simp at hg;subst hg;exact m4
 cases hg
end Go.Proofs.YtkkfcfjhhdmamaaGreatDoor.runLives
end
namespace Go.Proofs.YtkkfcfjhhdmamaaGreatDoor.lex
open Go.Abs Go.RowKit
section
def Z53(f:Nat)(xs:List AV):Option AV:=match f with
 |66=>match xs with|[.str s,.bool m]=>if s.length<=9223372036854775807 then some (.bool (if m then Z0Z s else s==[])) else none|_=>none
 |_=>none
theorem Z0Q{gl:Z0l}:Z06 Y00 gl (Z9r Z53):=Z1w λf xs r h=>by
 unfold Z53 at h
 split at h
 · split at h<;>try (cases h;done)
   split at h<;>cases h
   rename_i hs
   exact⟨rfl,ZdE _ hs _⟩
 ·cases h
theorem Zd6:Z0Z []=false:=rfl
theorem Zdo(e:Ex)(rest:List AV)(d:Int)(hok:okE e):ValOK Y00 runLives.gl 68 [.rp (e.cells++rest),.int .i64 d] (.bool (Zuh e)):=by
 obtain⟨⟨hn1,hn2⟩,_⟩:=Z5y hok
 have hb:Z09 Y00 66=true:=by kernel_rfl
 have key:∀(op num:Int)(name:List UInt8)(v:AV)(n:Nat),(∃cs,v = .rs n 4 cs)->name.length<=9223372036854775807->ValOK Y00 runLives.gl 68 [.rp (.int .i64 op::.int .i64 num::.str name::v::rest),.int .i64 d] (.bool (ZeC op num name n)):=by
  intro op num name v n hv hname
  have q:∀(m:Bool)(H:Z00),Z03 Y00 (Z9r Z53) H 66 [.str name,.bool m]=some (.bool (if m then Z0Z name else name==[]),H):=λm H=>Z2u hb rfl (by simp only[Z53];rw[if_pos hname])
  by_cases h1:op<1
  · have e1:decide (op<1)=true:=by simpa using h1
    have hk:Z69 op = -1:=by unfold Z69;rw[if_neg (by omega),if_neg (by omega),if_neg (by omega)]
    obtain⟨cs,rfl⟩:=hv
    all_goals
     refine Z0d follows Z05 Z0Q Tryz.func68 rfl ?_
     repeat' ((conv=>whnf);first|refine exI (q _ _) ?_|refine stp ?_|with_reducible apply Z01<;>intro h)
    all_goals (show AV.bool _=AV.bool _;congr 1;unfold ZeC;rw[hk])
    all_goals (first|rfl|(symm;simp;intros;omega))
  · have e1:decide (op<1)=false:=by simpa using h1
    by_cases h2:16<op
    · have e2:decide (op>16)=true:=by simpa using h2
      have hk:Z69 op = -1:=by unfold Z69;rw[if_neg (by omega),if_neg (by omega),if_neg (by omega)]
      obtain⟨cs,rfl⟩:=hv
      all_goals
       refine Z0d follows Z05 Z0Q Tryz.func68 rfl ?_
       repeat' ((conv=>whnf);first|refine exI (q _ _) ?_|refine stp ?_|with_reducible apply Z01<;>intro h)
      all_goals (show AV.bool _=AV.bool _;congr 1;unfold ZeC;rw[hk])
      all_goals (first|rfl|(symm;simp;intros;omega))
    · clear e1
      have hop:op=1\/op=2\/op=3\/op=4\/op=5\/op=6\/op=7\/op=8\/op=9\/op=10\/op=11\/op=12\/op=13\/op=14\/op=15\/op=16:=by omega
      clear h1 h2
      rcases hop with rfl|rfl|rfl|rfl|rfl|rfl|rfl|rfl|rfl|rfl|rfl|rfl|rfl|rfl|rfl|rfl
      all_goals (obtain⟨cs,rfl⟩:=hv)
      all_goals (refine Z0d follows Z05 Z0Q Tryz.func68 rfl ?_)
      all_goals (repeat' ((conv=>whnf);first|refine exI (q _ _) ?_|refine stp ?_|with_reducible apply Z01<;>intro h))
      all_goals (first|rfl|(show AV.bool _=AV.bool _;clear q hb hok hn1 hn2;simp_all[ZeC,Z69];done)|(show AV.bool _=AV.bool _;clear q hb hok hn1 hn2;simp_all[ZeC,Z69];omega)|skip)
      all_goals (clear q hb hok hn1 hn2)
      all_goals (show AV.bool _=AV.bool _;rw[AV.bool.injEq,Y0I])
      all_goals (first|(simp_all[ZeC,Z69,Zd6];done)|(simp_all[ZeC,Z69,Zd6];omega))
 obtain⟨op,num,name,kids⟩:=e
 simp only[Ex.cells];exact key op num name _ kids.length ⟨_,rfl⟩ hn1
end
section
theorem ZsT{sn:Z0n}{ι : Z0j}{W:World}(h:R sn ι [] W) : ι = noI:=by
 funext b
 cases hb : ι b with
 |none=>rfl
 |some p=>have:=(h.dom b).2 ⟨p,hb⟩;simp at this
theorem Z7H{P:Program}{gl:Z0l}{f:Nat}{args:List AV}{r:AV}(h:ValOK P gl f args r)(hp:plain r=true):Z1b P gl f args [] r []:=by
 intro sn ι W cargs hg hR ha
 have:=ZsT hR;subst this
 refine (h sn W cargs hg hR ha).monoY ?_
 rintro e W' ⟨v,rfl,hx,hv⟩
 exact⟨v,sn,noI,rfl,Z6O hp hv,Stp.ext hR hx⟩
theorem ZaO{P:Program}{gl:Z0l}{f:Nat}{args:List AV}{r:AV}(h:Z1b P gl f args [] r [])(hp:plain r=true)(hb:(P.funcs[f]?).isSome=true:=by kernel_rfl):ValOK P gl f args r:=by
 intro sn W cargs hg hR ha
 obtain⟨fn,hfn⟩:=Option.isSome_iff_exists.1 hb
 refine ((h sn noI W cargs hg hR ha).calls hfn).mono ?_
 rintro e W' ⟨v,sn',ι',rfl,hv,hs⟩
 exact⟨v,rfl,⟨λc hc=>hs.frame c hc λb o p hb=>by simp at hb,hs.size,hs.os,hs.tape,hs.output⟩,Z6O hp hv⟩
def rE(e:Ex)(_:Int)(s:Unit):Bool×Unit:=(Zuh e,s)
mutual
theorem ZuB:∀(e:Ex)(d:Int)(s:Unit),goE rE e d s=(Z0p e,())
 | .mk o n s k,d,t=>by
  have:=goL_r k (d+1) ()
  simp only[goE,rE,Zuh,Ex.op,Ex.num,Ex.name,Ex.kids,Z0p,this]
  cases ZeC o n s k.length<;>rfl
theorem goL_r:∀(l:List Ex)(d:Int)(s:Unit),goL rE l d s=(rightL l,())
 |[],d,s=>by simp only[goL,rightL]
 |e::l,d,s=>by
  simp only[goL,ZuB e d s,goL_r l d (),rightL]
  cases Z0p e<;>rfl
end
def cE(_:Ex)(d:Int)(n:Nat):Bool×Nat:=(decide (((n+1:Nat):Int)<=2000)&&decide (d<=32),n+1)
def Cnt(r:Bool×Nat)(n a:Nat)(D:Int):Prop:=(r.1=true ↔ n+a<=2000/\D<=33)/\(r.1=true->r.2=n+a)
theorem Z4u{r:Bool×Nat}{f:Nat->Bool×Nat}{n a b:Nat}{D1 D2:Int}(h1:Cnt r n a D1)(h2:n+a<=2000->D1<=33->Cnt (f (n+a)) (n+a) b D2):Cnt (Z1D r f) n (a+b) (max D1 D2):=by
 obtain⟨g1,g2⟩:=h1
 unfold Z1D
 by_cases h:r.1=true
 · rw[if_pos h,g2 h]
   have h3:=g1.1 h
   obtain⟨k1,k2⟩:=h2 h3.1 h3.2
   refine⟨?_,λh4=>by rw[k2 h4];omega⟩
   rw[k1]
   constructor<;>(intro h;omega)
 · rw[if_neg h]
   refine⟨⟨λh=>(by cases h),λh3=>absurd (g1.2 (by omega)) h⟩,λh=>(by cases h)⟩
theorem ZcG(d:Int)(n:Nat):Cnt (decide (((n+1:Nat):Int)<=2000)&&decide (d<=32),n+1) n 1 (d+1):=by
 refine⟨?_,λ_=>rfl⟩
 simp only[Y0a,decide_eq_true_eq]
 constructor<;>(intro h;omega)
theorem Cnt.to{r:Bool×Nat}{n a b:Nat}{D E:Int}(h:Cnt r n a D)(e1:a=b)(e2:D=E):Cnt r n b E:=by subst e1;subst e2;exact h
mutual
theorem ZuC:∀(e:Ex)(d:Int)(n:Nat),Cnt (goE cE e d n) n (Z0C e) (d+Z0P e)
 | .mk o num s k,d,n=>by
  have:goE cE (.mk o num s k) d n=Z1D (cE (.mk o num s k) d n) λn=>goL cE k (d+1) n:=by simp only[goE,Z1D]
  rw[this]
  exact (Z4u (ZcG d n) λh1 h2=>goL_c k (d+1) (n+1) h1 h2).to (by simp only[Z0C]) (by simp only[Z0P];omega)
theorem goL_c:∀(l:List Ex)(d:Int)(n:Nat),n<=2000->d<=33->Cnt (goL cE l d n) n (sizeL l) (d+deepL l)
 |[],d,n,h1,h2=>by simp only[goL,sizeL,deepL];exact⟨⟨λ_=>by omega,λ_=>rfl⟩,λ_=>rfl⟩
 |e::l,d,n,h1,h2=>by
  have:goL cE (e::l) d n=Z1D (goE cE e d n) λn=>goL cE l d n:=by simp only[goL,Z1D]
  rw[this]
  exact (Z4u (ZuC e d n) λh1 _=>goL_c l d _ h1 h2).to (by simp only[sizeL]) (by simp only[deepL];omega)
end
end
section
set_option maxHeartbeats 8000000
def isW(m:Bool)(s:List UInt8):Bool:=if m then Z0Z s else s==[]
def Zfk(k:Int):Bool:=k==1 || (k==2 || (k==4 || (k==5 || k==6)))
def ZiB(k:Int):Bool:=decide (2<=k/\k<=6)
def ZiA(k:Int):Bool:=decide (2<=k/\k<=7)
def Znl(k:Int):Nat:=if k=2\/k=7 then 0 else if k=4 then 2 else 1
def ZqT(k:Int):Bool:=k==10 || k==11
def ZiC(k:Int):Bool:=k==10
def ZaA(kind:Int)(name loc:List UInt8)(order:Int)(nx nt ne:Nat):Bool :=
 decide (1<=kind/\kind<=11)&&(isW (Zfk kind) name&&(isW (ZiB kind) loc&&((if ZiA kind then decide (1<=order/\order<=6) else order==0)&&(decide (nx=Znl kind)&&((ZqT kind || decide (nt=0))&&(ZiC kind || decide (ne=0)))))))
def Zov(x:St):Bool:=ZaA x.kind x.name x.loc x.order x.exprs.length x.thn.length x.els.length
theorem ZhJ (kind : Int) (name loc : List UInt8) (order : Int) (nx nt ne : Nat) (cx ct ce rest : List AV) (d : Int) (hn : name.length <= 9223372036854775807) (hl : loc.length <= 9223372036854775807) :
  ValOK Y00 runLives.gl 69 [.rp (.int .i64 kind::.str name::.str loc::.int .i64 order::.rs nx 4 cx::.rs nt 7 ct::.rs ne 7 ce::rest),.int .i64 d] (.bool (ZaA kind name loc order nx nt ne)):=by
 have hb:Z09 Y00 66=true:=by kernel_rfl
 have q1:∀(m:Bool)(H:Z00),Z03 Y00 (Z9r Z53) H 66 [.str name,.bool m]=some (.bool (isW m name),H):=λm H=>Z2u hb rfl (by simp only[Z53,isW];rw[if_pos hn])
 have q2:∀(m:Bool)(H:Z00),Z03 Y00 (Z9r Z53) H 66 [.str loc,.bool m]=some (.bool (isW m loc),H):=λm H=>Z2u hb rfl (by simp only[Z53,isW];rw[if_pos hl])
 by_cases h1:kind<1
 · have e1:decide (kind<1)=true:=by simpa using h1
   refine Z0d follows Z05 Z0Q Tryz.func69 rfl ?_
   repeat' ((conv=>whnf);(first|refine stp ?_|with_reducible apply Z01<;>intro h))
   all_goals (show AV.bool _=AV.bool _;congr 1;unfold ZaA;symm;rw[Bool.and_eq_false_iff];left;simpa using λh=>absurd h (by omega))
 · have e1:decide (kind<1)=false:=by simpa using h1
   by_cases h2:11<kind
   · have e2:decide (kind>11)=true:=by simpa using h2
     refine Z0d follows Z05 Z0Q Tryz.func69 rfl ?_
     repeat' ((conv=>whnf);(first|refine stp ?_|with_reducible apply Z01<;>intro h))
     all_goals (show AV.bool _=AV.bool _;congr 1;unfold ZaA;symm;rw[Bool.and_eq_false_iff];left;simpa using λ_=>h2)
   · clear e1
     have hop:kind=1\/kind=2\/kind=3\/kind=4\/kind=5\/kind=6\/kind=7\/kind=8\/kind=9\/kind=10\/kind=11:=by omega
     clear h1 h2
     have b1:∀m,isW m name=true\/isW m name=false:=λm=>by cases isW m name<;>simp
     have b2:∀m,isW m loc=true\/isW m loc=false:=λm=>by cases isW m loc<;>simp
     rcases hop with rfl|rfl|rfl|rfl|rfl|rfl|rfl|rfl|rfl|rfl|rfl
     all_goals (refine Z0d follows Z05 Z0Q Tryz.func69 rfl ?_)
     all_goals (repeat' ((conv=>whnf);first|refine exI (q1 _ _) ?_|refine exI (q2 _ _) ?_|refine stp ?_|with_reducible apply Z01<;>intro h))
     all_goals (clear q1 q2 hb b1 b2)
     all_goals (first|rfl|(show AV.bool _=AV.bool _;rw[AV.bool.injEq,Y0I];simp_all[ZaA,Zfk,ZiB,ZiA,Znl,ZqT,ZiC];done)|(show AV.bool _=AV.bool _;rw[AV.bool.injEq,Y0I];simp_all[ZaA,Zfk,ZiB,ZiA,Znl,ZqT,ZiC];omega)|skip)
     all_goals trace_state
end
section
def rS(x:St)(_:Int)(s:Unit):Bool×Unit:=(Zov x,s)
mutual
def Z2E:St->Bool
 | .mk k n l o x t e=>Zov (.mk k n l o x t e)&&(rightL x&&(rightSL t&&rightSL e))
def rightSL:List St->Bool
 |[]=>true
 |x::l=>Z2E x&&rightSL l
end
theorem Zjn:∀x:St,Z2E x=(Zov x&&(rightL x.exprs&&(rightSL x.thn&&rightSL x.els)))
 | .mk _ _ _ _ _ _ _=>by simp only[Z2E,St.exprs,St.thn,St.els]
mutual
theorem Zuz:∀(x:St)(d:Int)(s:Unit),goS rE rS x d s=(Z2E x,())
 | .mk k n l o x t e,d,s=>by
  simp only[goS,rS,Z2E,goL_r x (d+1) (),goSL_r t (d+1) (),goSL_r e (d+1) (),Z1D]
  cases Zov (.mk k n l o x t e)<;>cases rightL x<;>cases rightSL t<;>rfl
theorem goSL_r:∀(l:List St)(d:Int)(s:Unit),goSL rE rS l d s=(rightSL l,())
 |[],d,s=>by simp only[goSL,rightSL]
 |x::l,d,s=>by
  simp only[goSL,Zuz x d s,goSL_r l d (),rightSL,Z1D]
  cases Z2E x<;>rfl
end
def rV:TvS runLives.gl where
 σ:=Unit
 Mem:=λ_=>[]
 k:=0
 len:=λ_=>rfl
 same:=λ_=>⟨trivial,rfl,rfl⟩
 evo:=λ_ _=>rfl
 inj:=λ_ _ _=>rfl
 I:=λd s m=>0<=d/\d+m<=1152921504606846976
 up:=λd s m h0 h=>⟨h0,by have:=h.2;omega⟩
 less:=λd s m h=>⟨h.1,by have:=h.2;omega⟩
 bnd:=λd s m h=>⟨h.1,by have:=h.2;omega⟩
 gE:=68
 cE:=[]
 hE:=rE
 bodyE:=by kernel_rfl
 wkE:=trivial
 okE:=λe rest d s m ho _=>Z7H (Zdo e rest d ho) rfl
 downE:=λe d s m h _=>⟨by have:=h.1;omega,by have:=h.2;omega⟩
 gS:=69
 cS:=[]
 hS:=rS
 bodyS:=by kernel_rfl
 wkS:=trivial
 okS:=λx rest d s m ho _=>by
  refine Z7H ?_ rfl
  obtain⟨k1,k2,_⟩:=Z3R ho
  obtain⟨k,n,l,o,x,t,e⟩:=x
  simp only[St.cells,exA]
  exact ZhJ k n l o x.length t.length e.length _ _ _ rest d k1 k2
 downS:=λe d s m h _=>⟨by have:=h.1;omega,by have:=h.2;omega⟩
theorem ZpD(l:List St)(d:Int)(hok:okSL l)(hl:l.length<=9223372036854775807)(h0:0<=d)(h1:d+sizeSL l<=1152921504606846976):ValOK Y00 runLives.gl 67 [stA l,.int .i64 d,.func (.func 68) [] [],.func (.func 69) [] []] (.bool (rightSL l)):=by
 have:=TvS.stmts rV (sizeSL l) l d () 0 (Y0c _) hok hl ⟨h0,h1⟩
 have e:(goSL rV.hE rV.hS l d ()).1=rightSL l:=by
  have:=goSL_r l d ()
  show (goSL rE rS l d ()).1=_
  rw[this]
 rw[e]at this
 exact ZaO this rfl
def cS(_:St)(d:Int)(n:Nat):Bool×Nat:=(decide (((n+1:Nat):Int)<=2000)&&decide (d<=32),n+1)
mutual
theorem ZuA:∀(x:St)(d:Int)(n:Nat),Cnt (goS cE cS x d n) n (Z2g x) (d+Z1K x)
 | .mk k nm lc o x t e,d,n=>by
  simp only[goS]
  refine Cnt.to (Z4u (ZcG d n) λh1 h2=>Z4u (goL_c x (d+1) (n+1) h1 h2) λh1 _=>Z4u (goSL_c t (d+1) _ h1 h2) λh1 _=>goSL_c e (d+1) _ h1 h2) ?_ ?_
  ·simp only[Z2g];omega
  ·simp only[Z1K];omega
theorem goSL_c:∀(l:List St)(d:Int)(n:Nat),n<=2000->d<=33->Cnt (goSL cE cS l d n) n (sizeSL l) (d+deepSL l)
 |[],d,n,h1,h2=>by simp only[goSL,sizeSL,deepSL];exact⟨⟨λ_=>by omega,λ_=>rfl⟩,λ_=>rfl⟩
 |e::l,d,n,h1,h2=>by
  simp only[goSL]
  exact (Z4u (ZuA e d n) λh1 _=>goSL_c l d _ h1 h2).to (by simp only[sizeSL]) (by simp only[deepSL];omega)
end
end
section
variable {gl:Z0l}
def Z0x:List (List St)->Nat
 |[]=>0
 |l::t=>sizeSL l+Z0x t
def ZlX:List (List St)->Prop
 |[]=>True
 |l::t=>okSL l/\l.length<=9223372036854775807/\ZlX t
theorem Z2N:∀{t:List (List St)},ZlX t->∀l∈t,okSL l/\l.length<=9223372036854775807
 |x::t,h,l,hl=>by
  rcases Y0e.1 hl with rfl|hl
  ·exact⟨h.1,h.2.1⟩
  ·exact Z2N h.2.2 l hl
theorem Z9h:∀(t:List (List St))(i:Nat)(h:i<t.length),Z0x (t.take (i+1))=Z0x (t.take i)+sizeSL t[i]
 |e::l,0,h=>by simp only[Y01,Y04,Z0x,Y08];omega
 |e::l,i+1,h=>by
  have:=Z9h l i (by simpa using h)
  simp only[Y01,Z0x,Y09]at this⊢;omega
theorem Zdk:∀(t:List (List St))(i:Nat)(h:i<t.length),Z0x (t.take i)+sizeSL t[i]<=Z0x t
 |e::l,0,h=>by simp only[Y04,Z0x,Y08];omega
 |e::l,i+1,h=>by
  have:=Zdk l i (by simpa using h)
  simp only[Y01,Z0x,Y09]at this⊢;omega
theorem th1(t:List (List St))(i:Nat)(h:i<t.length):tk 1 ((t.map stA).drop (i*1))=some [stA t[i]]:=Z7s stA t i h (by omega)
structure Dc where
 name:List UInt8
 plain:Bool
 val:Int
def Dc.cells(d:Dc):List AV:=[.str d.name,.bool d.plain,.int .i64 d.val]
def dcC:List Dc->List AV
 |[]=>[]
 |d::l=>d.cells++dcC l
theorem ZnQ(d:Dc)(l:List Dc)(i:Nat):(dcC (d::l)).drop ((i+1)*3)=(dcC l).drop (i*3):=by
 have h:(i+1)*3=3+i*3:=by omega
 rw[h,<- List.drop_drop]
 have h2:(dcC (d::l)).drop 3=dcC l:=rfl
 rw[h2]
theorem Zh6:∀(l:List Dc)(i:Nat)(h:i<l.length),(dcC l).drop (i*3)=l[i].cells++dcC (l.drop (i+1))
 |d::l,0,h=>by simp only[Nat.zero_mul,Y0r,dcC,Y08,Y0h]
 |d::l,i+1,h=>by rw[ZnQ,Zh6 l i (by simpa using h)];simp only[Y09,Y0h]
theorem dc3(l:List Dc)(i:Nat)(h:i<l.length):tk 3 ((dcC l).drop (i*3))=some l[i].cells:=by
 rw[Zh6 l i h];rfl
theorem dcn(l:List Dc)(i:Nat)(h:i<l.length):tk 1 (((dcC l).drop (i*3)).drop 0)=some [.str l[i].name]:=by
 rw[Zh6 l i h];rfl
theorem dcv(l:List Dc)(i:Nat)(h:i<l.length):tk 1 (((dcC l).drop (i*3)).drop 2)=some [.int .i64 l[i].val]:=by
 rw[Zh6 l i h];rfl
structure Pr where
 decls:List Dc
 threads:List (List St)
def Pr.av(p:Pr):AV:=.agg [.rs p.decls.length 3 (dcC p.decls),.rs p.threads.length 1 (p.threads.map stA)]
def okD(l:List Dc):Prop:=l.length<=9223372036854775807/\∀d∈l,d.name.length<=9223372036854775807
def okP(p:Pr):Prop:=okD p.decls/\ZlX p.threads/\p.threads.length<=9223372036854775807
theorem Z2U:∀(t:List (List St))(l:List St),l∈t->sizeSL l<=Z0x t
 |e::t,l,h=>by
  simp only[Z0x]
  rcases Y0e.1 h with rfl|h
  ·omega
  ·have:=Z2U t l h;omega
end
section
def Z11:List (List St)->Nat
 |[]=>0
 |l::t=>max (deepSL l) (Z11 t)
theorem Za8:∀(t:List (List St))(i:Nat)(h:i<t.length),Z11 (t.take (i+1))=max (Z11 (t.take i)) (deepSL t[i])
 |e::l,0,h=>by simp only[Y01,Y04,Z11,Y08];omega
 |e::l,i+1,h=>by
  have:=Za8 l i (by simpa using h)
  simp only[Y01,Z11,Y09]at this⊢;omega
end
end Go.Proofs.YtkkfcfjhhdmamaaGreatDoor.lex

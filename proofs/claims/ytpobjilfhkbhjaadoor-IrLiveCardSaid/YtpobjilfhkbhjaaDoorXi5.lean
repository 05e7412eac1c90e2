/-
  Texts of this proof, one behind the other (part 5).
-/
import Derived.Test.YtpobjilfhkbhjaaDoorXi4
import Derived.Test.YtpobjilfhkbhjaaDoorRows
import Derived.KernelRfl
import Derived.Sort.Grow
import Derived.Sort.Row
import Derived.Lib.SlicesCompact
import Derived.Sort.KeysCollected
import Derived.Maps.OwnSet
set_option linter.unusedVariables false
set_option linter.unusedSimpArgs false
set_option maxRecDepth 100000
set_option maxHeartbeats 4000000
open Go.Proofs.Tryd renaming prog → Y00,func40 → Y0F,func23 → Y0L
open Bool renaming and_eq_true → Y01,true_and → Y07,or_eq_true → Y0k,not_eq_true' → Y0l,and_assoc → Y0p,false_eq_true → Y0C,eq_iff_iff → Y0M
open List renaming getElem?_eq_getElem → Y02,mem_cons → Y03,map_cons → Y04,getElem?_eq_some_iff → Y05,length_cons → Y0a,take_zero → Y0b,take_length → Y0d,take_succ_cons → Y0f,getD_eq_getElem?_getD → Y0h,all_eq_true → Y0i,getElem_cons_zero → Y0m,drop_succ_cons → Y0n,getElem_cons_succ → Y0o,mem_of_getElem? → Y0r,length_append → Y0s,sum_cons → Y0t,getElem?_append_left → Y0u,filter_cons → Y0v,getElem?_cons_succ → Y0w,mem_append → Y0y,drop_zero → Y0z,getElem_mem → Y0A,not_mem_nil → Y0B,length_drop → Y0D,take_succ_eq_append_getElem → Y0E,any_eq_true → Y0G,map_append → Y0H,sum_append → Y0I,getElem?_drop → Y0J,getElem?_eq_none → Y0K,foldl_cons → Y0N,getElem?_cons_zero → Y0O,cons_append → Y0P,all_append → Y0Q,range_succ → Y0R
open Option renaming map_some → Y06
open Nat renaming zero_le → Y08,eq_of_beq_eq_true → Y09,le_refl → Y0e,beq → Y0g,zero_add → Y0q,lt_of_lt_of_le → Y0x
open Go.Abs.FgL renaming mk → Y0c,mk0 → Y0j
section
namespace Go.Abs
open Go.RowKit
mutual
def Zcr:AV->Bool
 | .rp _=>false
 | .rs _ _ _=>false
 | .func _ f c=>noROL f&&noROL c
 | .iface _ v=>Zcr v
 | .agg cs=>noROL cs
 | .tuple cs=>noROL cs
 | .bool _=>true
 | .int _ _=>true
 | .str _=>true
 | .nptr=>true
 | .ptr _ _=>true
 | .nslice=>true
 | .slice _ _ _ _ _=>true
 | .nmap=>true
 | .map _=>true
 | .nfunc=>true
 | .niface=>true
def noROL:List AV->Bool
 |[]=>true
 |c::l=>Zcr c&&noROL l
end
def Zhq:List (AV×AV×Nat)->Bool
 |[]=>true
 |(k,v,_)::l=>Zcr k&&(Zcr v&&Zhq l)
def Zhp:List (Nat×AV)->Bool
 |[]=>true
 |x::l=>Zcr x.2&&Zhp l
def ZjE:ABody->Bool
 | .cells cs _=>noROL cs
 | .map es _=>Zhq es
 | .siter _ _=>true
 | .loop _ ts=>Zhp ts
def ZeT:Z00->Bool
 |[]=>true
 |o::l=>ZjE o.body&&ZeT l
mutual
theorem Z4y{sn sn':Z0f}{ι : Z0c}:∀(u:AV)(v:Value),Zcr u=true->VR sn ι u v->VR sn' ι u v
 | .rp _,v,h,e=>by simp[Zcr]at h
 | .rs _ _ _,v,h,e=>by simp[Zcr]at h
 | .func fn f c,v,h,e=>by
  simp only[Zcr,Y01]at h
  simp only[VR]at *;obtain⟨x,y,h1,h2,h3⟩:=e
  exact⟨x,y,h1,LR_snap f _ h.1 h2,LR_snap c _ h.2 h3⟩
 | .iface t u,v,h,e=>by
  simp only[Zcr]at h
  simp only[VR]at *;obtain⟨x,h1,h2⟩:=e
  exact⟨x,h1,Z4y u _ h h2⟩
 | .agg cs,v,h,e=>by
  simp only[Zcr]at h
  simp only[VR]at *;obtain⟨x,h1,h2⟩:=e
  exact⟨x,h1,LR_snap cs _ h h2⟩
 | .tuple cs,v,h,e=>by
  simp only[Zcr]at h
  simp only[VR]at *;obtain⟨x,h1,h2⟩:=e
  exact⟨x,h1,LR_snap cs _ h h2⟩
 | .bool _,v,h,e=>by simpa[VR]using e
 | .int _ _,v,h,e=>by simpa[VR]using e
 | .str _,v,h,e=>by simpa[VR]using e
 | .nptr,v,h,e=>by simpa[VR]using e
 | .ptr _ _,v,h,e=>by simpa[VR]using e
 | .nslice,v,h,e=>by simpa[VR]using e
 | .slice _ _ _ _ _,v,h,e=>by simpa[VR]using e
 | .nmap,v,h,e=>by simpa[VR]using e
 | .map _,v,h,e=>by simpa[VR]using e
 | .nfunc,v,h,e=>by simpa[VR]using e
 | .niface,v,h,e=>by simpa[VR]using e
theorem LR_snap{sn sn':Z0f}{ι : Z0c}:∀(us:List AV)(vs:List Value),noROL us=true->LR sn ι us vs->LR sn' ι us vs
 |[],vs,h,e=>by simpa[LR]using e
 |u::us,vs,h,e=>by
  simp only[noROL,Y01]at h
  simp only[LR]at *;obtain⟨d,ds,h1,h2,h3⟩:=e
  exact⟨d,ds,h1,Z4y u _ h.1 h2,LR_snap us _ h.2 h3⟩
end
theorem ZgN{sn sn':Z0f}{ι : Z0c}:∀(es:List (AV×AV×Nat))(l:List MapEntry),Zhq es=true->ER sn ι es l->ER sn' ι es l
 |[],l,h,e=>by simpa[ER]using e
 |(k,v,n)::es,l,h,e=>by
  simp only[Zhq,Y01]at h
  simp only[ER]at *
  obtain⟨x,l',h1,h2,h3,h4,h5⟩:=e
  exact⟨x,l',h1,Z4y k _ h.1 h2,Z4y v _ h.2.1 h3,h4,ZgN es _ h.2.2 h5⟩
theorem ZcZ{sn sn':Z0f}{ι : Z0c}{a:Array Value}:∀(ts:List (Nat×AV)),Zhp ts=true->TSR sn ι ts a->TSR sn' ι ts a
 |[],h,e=>trivial
 |x::l,h,⟨⟨v,h1,h2⟩,h3⟩=>by
  simp only[Zhp,Y01]at h
  exact⟨⟨v,h1,Z4y x.2 v h.1 h2⟩,ZcZ l h.2 h3⟩
theorem ZkJ{sn sn':Z0f}{ι : Z0c}{W:World}{p:Place}:∀(b:ABody),ZjE b=true->OR sn ι W b p->OR sn' ι W b p
 | .cells cs ty,h,e=>by
  simp only[OR]at e⊢
  obtain⟨arr,h1,h2,h3,h4⟩:=e
  refine⟨arr,h1,h2,h3,λi c hc=>?_⟩
  obtain⟨v,k1,k2⟩:=h4 i c hc
  have hn:∀(l:List AV)(i:Nat),noROL l=true->l[i]? = some c->Zcr c=true:=by
   intro l
   induction l with
   |nil=>intro i h hc;simp at hc
   |cons x l ih =>
    intro i h hc
    simp only[noROL,Y01]at h
    cases i with
    |zero=>simp at hc;subst hc;exact h.1
    |succ i=>exact ih i h.2 (by simpa using hc)
  exact⟨v,k1,Z4y c v (hn cs i h hc) k2⟩
 | .map es c,h,e=>by
  simp only[OR]at e⊢
  obtain⟨mes,h1,h2⟩:=e
  exact⟨mes,h1,ZgN es _ h h2⟩
 | .siter s q,h,e=>by simpa only[OR]using e
 | .loop g ts,h,e=>by
  simp only[OR]at e⊢
  obtain⟨r,h1,h2,h3,h4⟩:=e
  exact⟨r,h1,h2,h3,ZcZ ts h h4⟩
def Zl7(f:Nat->Nat):List (AV×AV×Nat)->List (AV×AV×Nat)
 |[]=>[]
 |(k,v,n)::l=>(ren f k,ren f v,n)::Zl7 f l
def Zmg(f:Nat->Nat):List (Nat×AV)->List (Nat×AV)
 |[]=>[]
 |x::l=>(x.1,ren f x.2)::Zmg f l
def Z5i(f:Nat->Nat):ABody->ABody
 | .cells cs ty=>.cells (renL f cs) ty
 | .map es c=>.map (Zl7 f es) c
 | .siter s p=>.siter s p
 | .loop g ts=>.loop g (Zmg f ts)
theorem Zcl(f:Nat->Nat):∀(l:List AV)(i:Nat),(renL f l)[i]? = (l[i]?).map (ren f)
 |[],i=>by simp[renL]
 |c::l,0=>by simp[renL]
 |c::l,i+1=>by simpa[renL]using Zcl f l i
theorem Zck(f:Nat->Nat):∀(l:List AV),(renL f l).length=l.length
 |[]=>rfl
 |c::l=>by simp[renL,Zck f l]
theorem ZiW{sn:Z0f}{ι : Z0c}{f:Nat->Nat}:∀(es:List (AV×AV×Nat))(l:List MapEntry),ER sn (λb=>ι (f b)) es l->ER sn ι (Zl7 f es) l
 |[],l,e=>by simpa[ER,Zl7]using e
 |(k,v,n)::es,l,e=>by
  simp only[ER,Zl7]at *
  obtain⟨x,l',h1,h2,h3,h4,h5⟩:=e
  exact⟨x,l',h1,(Z5d k _).2 h2,(Z5d v _).2 h3,h4,ZiW es _ h5⟩
theorem ZgK{sn:Z0f}{ι : Z0c}{f:Nat->Nat}{a:Array Value}:∀(ts:List (Nat×AV)),TSR sn (λb=>ι (f b)) ts a->TSR sn ι (Zmg f ts) a
 |[],e=>trivial
 |x::l,⟨⟨v,h1,h2⟩,h3⟩=>⟨⟨v,h1,(Z5d x.2 _).2 h2⟩,ZgK l h3⟩
theorem ZaQ{sn:Z0f}{ι : Z0c}{f:Nat->Nat}{W:World}{p:Place}:∀(b:ABody),OR sn (λb=>ι (f b)) W b p->OR sn ι W (Z5i f b) p
 | .cells cs ty,e=>by
  simp only[OR,Z5i]at *
  obtain⟨arr,h1,h2,h3,h4⟩:=e
  refine⟨arr,h1,h2,by rw[Zck];exact h3,λi c hc=>?_⟩
  rw[Zcl]at hc
  cases hx:cs[i]? with
  |none=>rw[hx]at hc;cases hc
  |some x =>
   rw[hx]at hc;simp at hc;subst hc
   obtain⟨v,k1,k2⟩:=h4 i x hx
   exact⟨v,k1,(Z5d x _).2 k2⟩
 | .map es c,e=>by
  simp only[OR,Z5i]at *
  obtain⟨mes,h1,h2⟩:=e
  exact⟨mes,h1,ZiW es _ h2⟩
 | .siter s q,e=>by simpa only[OR,Z5i]using e
 | .loop g ts,e=>by
  simp only[OR,Z5i]at *
  obtain⟨r,h1,h2,h3,h4⟩:=e
  exact⟨r,h1,h2,h3,ZgK ts h4⟩
def Z5f:List Nat->Nat->Nat->Option Nat
 |[],_,_=>none
 |j::l,b,i=>if Y0g j b then some i else Z5f l b (i+1)
theorem Z2N:∀{m:List Nat}{b i j:Nat},Z5f m b i=some j->i<=j/\m[j-i]? = some b
 |[],b,i,j,h=>by simp[Z5f]at h
 |x::m,b,i,j,h=>by
  simp only[Z5f]at h
  split at h
  · rename_i e
    cases h
    exact⟨Y0e _,by simp[Y09 e]⟩
  · obtain⟨h1,h2⟩:=Z2N h
    refine⟨by omega,?_⟩
    rw[show j-i=(j-(i+1))+1 by omega];simpa using h2
theorem Z6L:∀{m:List Nat}{b i:Nat},Z5f m b i=none->b ∉ m
 |[],b,i,h=>by simp
 |x::m,b,i,h=>by
  simp only[Z5f]at h
  split at h
  ·cases h
  · rename_i e
    intro hm
    rcases Y03.1 hm with rfl|hm
    ·exact e (by simp)
    ·exact Z6L h hm
def ZiL(m:List Nat)(Hk:Z00):Nat->AV->Option AV
 |0,_=>none
 |n+1,u=>match u with
  | .ptr b off=>match Z5f m b 0 with|some i=>some (.ptr i off)|none=>frz Hk 30 (.ptr b off)
  | .slice b off len cap z=>match Z5f m b 0 with|some i=>some (.slice i off len cap z)|none=>frz Hk 30 (.slice b off len cap z)
  | .map b=>match Z5f m b 0 with|some i=>some (.map i)|none=>none
  | .func fn f c=>match Z3o (ZiL m Hk n) f,Z3o (ZiL m Hk n) c with|some f,some c=>some (.func fn f c)|_,_=>none
  |u=>frz Hk 30 u
def Zfc(m fs:List Nat):Nat->Z00->Bool
 |_,[]=>true
 |i,o::H=>(mem i m || !mem o.fam fs)&&Zfc m fs (i+1) H
theorem Za4{m fs:List Nat}:∀{H:Z00}{i j:Nat}{o:AObj},Zfc m fs i H=true->H[j]? = some o->i+j∈m\/o.fam ∉ fs
 |[],i,j,o,h,e=>by simp at e
 |x::H,i,0,o,h,e=>by
  simp only[Zfc,Y01,Y0k,Y0l]at h
  simp at e;subst e
  rcases h.1 with h1|h1
  ·exact .inl (Z0S.1 h1)
  ·exact .inr λe=>by rw[Z0S.2 e]at h1;cases h1
 |x::H,i,j+1,o,h,e=>by
  simp only[Zfc,Y01]at h
  have:=Za4 h.2 (by simpa using e)
  rcases this with h1|h1
  ·exact .inl (by rw[show i+(j+1)=i+1+j by omega];exact h1)
  ·exact .inr h1
def Zd7(m:List Nat)(Hs:Z00):Nat->Z00->Z00
 |_,[]=>[]
 |i,o::H=>(match Z5f m i 0 with
  |some j=>match Hs[j]? with
   |some o'=>{ o with alive:=o'.alive,body:=Z5i (λb=>m.getD b 0) o'.body }
   |none=>o
  |none=>o)::Zd7 m Hs (i+1) H
end Go.Abs
end
section
namespace Go.Abs
open Go.RowKit
theorem Z42 {sn sn2 : Z0f} {ι : Z0c} {H : Z00} {W : World} (hobj : ∀ (b : Nat) (o : AObj) p, H[b]? = some o -> o.alive = true -> ι b = some p -> OR sn ι W o.body p) (hle : Le sn sn2 noI noI)
  (hcell:∀(b:Nat)(o:AObj) p,H[b]? = some o->o.alive=true -> ι b=some p->∀(off:Nat)(v:Value),W.cell? ⟨p.blk,off,none⟩=some v->sn2 ⟨p.blk,off,none⟩=some v) :
  ∀(n:Nat)(u r:AV)(v:Value),frz H n u=some r->VR sn ι u v->VR sn2 noI r v:=by
 intro n
 induction n with
 |zero=>intro u r v h;simp[frz]at h
 |succ n ih =>
  have cells:∀{b:Nat}{o:AObj}{p:Place}{cs l:List AV}{ty:TypeId}{off:Nat},H[b]? = some o->o.alive=true->o.body = .cells cs ty -> ι b=some p->Z3o (frz H n) (cs.drop off)=some l->MR sn2 l p.blk (p.sh+off):=by
   intro b o p cs l ty off ho ha hb hp hl
   obtain⟨_,h2⟩:=Z4W hl
   have hor:=hobj b o p ho ha hp
   rw[hb]at hor
   simp only[OR]at hor
   obtain⟨arr,k1,k2,k3,k4⟩:=hor
   refine Z2d λi x hx=>?_
   obtain⟨c,hc,hcx⟩:=h2 i x hx
   rw[Y0J]at hc
   obtain⟨v,e1,e2⟩:=k4 (off+i) c hc
   refine⟨v,?_,ih c x v hcx e2⟩
   refine hcell b o p ho ha hp _ _ ?_
   rw[Z1q k1]
   rw[<- e1];congr 1;omega
  intro u r v h hv
  unfold frz at h
  split at h
  · rename_i b off
    split at h<;>try (simp at h;done)
    rename_i o ho
    split at h<;>try (simp at h;done)
    rename_i cs ty ha hb
    split at h<;>simp at h
    rename_i l hl
    subst h
    obtain⟨p,hp,rfl⟩:=hv.ptr
    simp only[VR]
    exact⟨_,_,rfl,cells ho ha hb hp hl⟩
  · rename_i b off len cap z
    obtain⟨p,a,cap',hp,rfl,h1,h2,h3⟩:=hv.slice
    split at h
    · simp at h;subst h
      simp only[VR]
      exact .inr ⟨a,cap',rfl,by omega,by simp,by simp[MR],λh=>absurd rfl h⟩
    · rename_i len
      split at h<;>try (simp at h;done)
      rename_i o ho
      split at h<;>try (simp at h;done)
      rename_i cs ty ha hb
      split at h<;>try (simp at h;done)
      rename_i cs' hcs
      split at h<;>simp at h
      rename_i l hl
      subst h
      obtain⟨ha',_⟩:=h3 (by omega)
      subst ha'
      obtain⟨e1,rfl⟩:=Z3s hcs
      obtain⟨f1,f2⟩:=Z4W hl
      simp only[VR]
      refine .inr ⟨_,cap',rfl,by omega,?_,?_,λ_=>rfl⟩
      ·rw[f1,List.length_take];exact Nat.min_eq_left e1
      · have hor:=hobj b o p ho ha hp
        rw[hb]at hor
        simp only[OR]at hor
        obtain⟨arr,k1,k2,k3,k4⟩:=hor
        refine Z2d λi x hx=>?_
        obtain⟨c,hc,hcx⟩:=f2 i x hx
        rw[List.getElem?_take]at hc
        split at hc<;>try (simp at hc;done)
        rw[Y0J]at hc
        obtain⟨v,g1,g2⟩:=k4 (off+i) c hc
        refine⟨v,?_,ih c x v hcx g2⟩
        refine hcell b o p ho ha hp _ _ ?_
        rw[Z1q k1]
        rw[<- g1];congr 1;simp only;omega
  · split at h<;>simp at h
    rename_i l hl;subst h
    obtain⟨d,rfl,h1⟩:=hv.agg
    exact Z4c (Z1c ih hl h1)
  · split at h<;>simp at h
    rename_i l hl;subst h
    obtain⟨d,rfl,h1⟩:=hv.tuple
    exact Z4D (Z1c ih hl h1)
  · split at h<;>simp at h
    rename_i x hx;subst h
    obtain⟨y,rfl,h1⟩:=hv.iface
    simp only[VR];exact⟨y,rfl,ih _ _ _ hx h1⟩
  · split at h<;>simp at h
    rename_i f c hf hc;subst h
    obtain⟨x,y,rfl,h1,h2⟩:=hv.func
    simp only[VR];exact⟨x,y,rfl,Z1c ih hf h1,Z1c ih hc h2⟩
  ·simp at h
  · rename_i e1 e2 e3 e4 e5 e6 e7
    simp at h;subst h
    cases u with
    |ptr b o=>exact (e1 _ _ rfl).elim
    |slice b o l c z=>exact (e2 _ _ _ _ _ rfl).elim
    |agg cs=>exact (e3 _ rfl).elim
    |tuple cs=>exact (e4 _ rfl).elim
    |iface t v=>exact (e5 _ _ rfl).elim
    |func fn f c=>exact (e6 _ _ _ rfl).elim
    |map b=>exact (e7 _ rfl).elim
    |_=>exact Z0U (ι:=noI) hle _ _ (Z1m (ι:=ι) _ [] _ (λb hb=>by simp[Z0W]at hb) hv)
theorem Zl3{m:List Nat}{H H2:Z00}(hp:HpGe H m m H2 0)(hfam:Z1h (m.map (Z0M H))=true){sn:Z0f}{ι : Z0c}{W:World}(hR:R sn ι H W):R sn (iot m ι) H2 W:=by
 obtain⟨hl,hg⟩:=hp.get
 have at2:∀{b:Nat}{o2:AObj}{p:Place},H2[b]? = some o2->iot m ι b=some p->∃j o,m[b]? = some j/\H[j]? = some o /\ ι j=some p/\o.alive=true/\o2.alive=true/\o2.fam=b/\o2.sh=o.sh/\BodyGe m o.body o2.body:=by
  intro b o2 p hb hp
  obtain⟨j,o,o2',x1,x2,x3,x4,x5,x6,x7,x8⟩:=hg b (by rw[<- hl];exact (Y05.1 hb).1)
  rw[hb]at x3;simp at x3;subst x3
  simp only[iot,x1]at hp
  exact⟨j,o,x1,x2,hp,x4,x5,by omega,x7,x8⟩
 have hR2:R sn (iot m ι) H2 W:=by
  refine⟨λb=>⟨λhb=>?_,λ⟨p,hp⟩=>?_⟩,λb p hp=>?_,λb o2 p hb ha hp=>?_,λb b' o o' p p' hb hb' ha ha' hp hp' e=>?_,λad v hv=>?_,λb o2 p hb hp e=>?_⟩
  · obtain⟨j,o,o2,x1,x2,_⟩:=hg b (by omega)
    obtain⟨p,hp⟩:=hR.place x2
    exact⟨p,by simp only[iot,x1];exact hp⟩
  · unfold iot at hp
    split at hp
    ·rename_i j hj;rw[hl];exact (Y05.1 hj).1
    ·cases hp
  · unfold iot at hp
    split at hp
    ·exact hR.blk _ p hp
    ·cases hp
  · obtain⟨j,o,x1,x2,x3,x4,x5,x6,x7,x8⟩:=at2 hb hp
    exact x8.or (hR.obj j o p x2 x4 x3)
  · obtain⟨j,q,x1,x2,x3,x4,x5,x6,x7,x8⟩:=at2 hb hp
    obtain⟨j',q',y1,y2,y3,y4,y5,y6,y7,y8⟩:=at2 hb' hp'
    have hs:=hR.sep j j' q q' p p' x2 y2 x4 y4 x3 y3 e
    have:b=b':=Z5m (l:=m.map (Z0M H)) (x:=q.fam) hfam (by simp[x1,Z0M,x2]) (by simp[y1,Z0M,y2,hs.1])
    subst this
    exact⟨by rw[x6,y6],by rw[x7,y7];exact hs.2⟩
  · obtain⟨h1,h2,h3⟩:=hR.snap ad v hv
    refine⟨h1,h2,λb o2 p hb ha hp=>?_⟩
    obtain⟨j,o,x1,x2,x3,x4,_⟩:=at2 hb hp
    exact h3 j o p x2 x4 x3
  · obtain⟨j,o,x1,x2,x3,x4,x5,x6,x7,x8⟩:=at2 hb hp
    exact hR.shz j o p x2 x3 (by omega)
 exact hR2
def ZlV(m:List Nat)(H:Z00):Z00:=kil (λi _=>mem i m) 0 H
theorem Zcz{m:List Nat}{H:Z00}{b:Nat}{o:AObj}(h:(ZlV m H)[b]? = some o)(ha:o.alive=true):H[b]? = some o/\b ∉ m:=by
 unfold ZlV at h
 rw[Z21]at h
 cases hx:H[b]? with
 |none=>rw[hx]at h;cases h
 |some x =>
  rw[hx]at h
  simp only[Y06,Option.some.injEq,Y0q]at h
  split at h
  ·subst h;simp[AObj.dead]at ha
  · rename_i hm
    subst h
    exact⟨rfl,λhb=>hm (Z0S.2 hb)⟩
theorem Zc3 (m : List Nat) (Hs : Z00) : ∀ (H : Z00) (i b : Nat), (Zd7 m Hs i H)[b]? = (H[b]?).map fun o => match Z5f m (i + b) 0 with
  |some j=>match Hs[j]? with
   |some o'=>{ o with alive:=o'.alive,body:=Z5i (λb=>m.getD b 0) o'.body }
   |none=>o
  |none=>o
 |[],i,b=>by simp[Zd7]
 |o::H,i,0=>by
  simp only[Zd7,Y0O,Y06,Nat.add_zero]<;>rfl
 |o::H,i,b+1=>by
  simp only[Zd7,Y0w]
  rw[Zc3 m Hs H (i+1) b,show i+1+b=i+(b+1) by omega]
theorem ZdA {sn sn2 : Z0f} {ι : Z0c} {H : Z00} {W : World} {m : List Nat} (hobj : ∀ (b : Nat) (o : AObj) p, H[b]? = some o -> o.alive = true -> ι b = some p -> OR sn ι W o.body p) (hle : Le sn sn2 noI noI)
  (hcell:∀(b:Nat)(o:AObj) p,H[b]? = some o->o.alive=true -> ι b=some p->∀(off:Nat)(v:Value),W.cell? ⟨p.blk,off,none⟩=some v->sn2 ⟨p.blk,off,none⟩=some v) :
  ∀(n:Nat)(u r:AV)(v:Value),ZiL m H n u=some r->VR sn ι u v->VR sn2 (iot m ι) r v:=by
 have lift:∀{r:AV}{v:Value},VR sn2 noI r v->VR sn2 (iot m ι) r v:=λh=>Z0U ⟨λ_ _ h=>h,λb p h=>by simp[noI]at h⟩ _ _ h
 have at_:∀{b i:Nat},Z5f m b 0=some i->∀p,ι b=some p->iot m ι i=some p:=λh p hp=>by
  have:=(Z2N h).2
  simp only[Nat.sub_zero]at this
  simp only[iot,this];exact hp
 intro n
 induction n with
 |zero=>intro u r v h;simp[ZiL]at h
 |succ n ih =>
  intro u r v h hv
  unfold ZiL at h
  split at h
  · split at h
    · rename_i b off i hi
      simp at h;subst h
      obtain⟨p,hp,rfl⟩:=hv.ptr
      simp only[VR];exact⟨p,at_ hi p hp,rfl⟩
    ·exact lift (Z42 hobj hle hcell 30 _ _ _ h hv)
  · split at h
    · rename_i b off len cap z i hi
      simp at h;subst h
      obtain⟨p,a,cap',hp,h1⟩:=hv.slice
      simp only[VR];exact⟨p,a,cap',at_ hi p hp,h1⟩
    ·exact lift (Z42 hobj hle hcell 30 _ _ _ h hv)
  · split at h
    · rename_i b i hi
      simp at h;subst h
      simp only[VR]at hv⊢
      obtain⟨p,hp,h1⟩:=hv
      exact⟨p,at_ hi p hp,h1⟩
    ·cases h
  · split at h<;>simp at h
    rename_i f c hf hc;subst h
    obtain⟨x,y,rfl,h1,h2⟩:=hv.func
    have each:∀{l l':List AV}{vs:List Value},Z3o (ZiL m H n) l=some l'->LR sn ι l vs->LR sn2 (iot m ι) l' vs:=by
     intro l
     induction l with
     |nil=>intro l' vs h e;simp[Z3o]at h;subst h;simpa[LR]using e
     |cons c l ih2 =>
      intro l' vs h e
      simp only[Z3o]at h
      split at h<;>simp at h
      rename_i x y hx hy
      subst h
      simp only[LR]at e⊢
      obtain⟨d,ds,rfl,h1,h2⟩:=e
      exact⟨d,ds,rfl,ih _ _ _ hx h1,ih2 hy h2⟩
    simp only[VR];exact⟨x,y,rfl,each hf h1,each hc h2⟩
  ·exact lift (Z42 hobj hle hcell 30 _ _ _ h hv)
theorem Z78 {sn sn2 : Z0f} {ι : Z0c} {H : Z00} {W : World} {m : List Nat} (hobj : ∀ (b : Nat) (o : AObj) p, H[b]? = some o -> o.alive = true -> ι b = some p -> OR sn ι W o.body p) (hle : Le sn sn2 noI noI)
  (hcell:∀(b:Nat)(o:AObj) p,H[b]? = some o->o.alive=true -> ι b=some p->∀(off:Nat)(v:Value),W.cell? ⟨p.blk,off,none⟩=some v->sn2 ⟨p.blk,off,none⟩=some v) (n:Nat) :
  ∀(us rs:List AV)(vs:List Value),Z3o (ZiL m H n) us=some rs->LR sn ι us vs->LR sn2 (iot m ι) rs vs
 |[],rs,vs,h,e=>by simp[Z3o]at h;subst h;simpa[LR]using e
 |u::us,rs,vs,h,e=>by
  simp only[Z3o]at h
  split at h<;>simp at h
  rename_i x y hx hy
  subst h
  simp only[LR]at e⊢
  obtain⟨d,ds,rfl,h1,h2⟩:=e
  exact⟨d,ds,rfl,ZdA hobj hle hcell n _ _ _ hx h1,Z78 hobj hle hcell n us y ds hy h2⟩
theorem Za2:∀{H:Z00}{i:Nat}{o:AObj},ZeT H=true->H[i]? = some o->ZjE o.body=true
 |[],i,o,h,e=>by simp at e
 |x::H,0,o,h,e=>by simp[ZeT]at h e;subst e;exact h.1
 |x::H,i+1,o,h,e=>by simp[ZeT]at h e;exact Za2 h.2 e
theorem Zf1 {P : Program} {gl : Z0n} {f : Nat} {Hs Hs' Hc : Z00} {fargs cargs : List AV} {r : AV} {m : List Nat} {n : Nat} (hM : Z1N P gl f fargs Hs r Hs') (hargs : Z3o (ZiL m (ZlV m Hc) n) cargs = some fargs) (hsub : HpGe Hc m m Hs 0)
  (hnd:Z1h (m.map (Z0M Hc))=true) (hlone:Zfc m (m.map (Z0M Hc)) 0 Hc=true) (hev:ZiN m.length Hs Hs'=true) (hro:ZeT Hs'=true) (hrr:Zcr r=true) (hrk:Z0G m.length (Z0W r [])=true) :
  Z1N P gl f cargs Hc (ren (λb=>m.getD b 0) r) (Zd7 m Hs' 0 Hc):=by
 intro sn ι W vargs hg hR hl
 obtain⟨hl1,hg1⟩:=hsub.get
 obtain⟨hl2,hg2⟩:=Z9k hev
 have inm:∀b,b∈m->∃ (i:Nat) (o o2:AObj) (p:Place),m[i]? = some b/\Hc[b]? = some o/\Hs[i]? = some o2/\o.alive=true/\o2.alive=true /\ ι b=some p:=by
  intro b hb
  obtain⟨i,hi,rfl⟩:=List.mem_iff_getElem.1 hb
  obtain⟨j,o,o2,x1,x2,x3,x4,x5,_⟩:=hg1 i hi
  rw[Y02 hi]at x1
  cases x1
  obtain⟨p,hp⟩:=hR.place x2
  exact⟨i,o,o2,p,Y02 hi,x2,x3,x4,x5,hp⟩
 have apart_:∀(b:Nat)(o:AObj)(p:Place),Hc[b]? = some o->o.alive=true->b ∉ m -> ι b=some p->∀b' p',b'∈m -> ι b'=some p'->p'.blk≠p.blk:=by
  intro b o p ho hoa hb hp b' p' hb' hp' e
  obtain⟨i,o',o2,q,y1,y2,y3,y4,y5,y6⟩:=inm b' hb'
  have hs:=hR.sep b b' o o' p p' ho y2 hoa y4 hp hp' e.symm
  rcases Za4 hlone ho with h|h
  ·exact hb (by simpa using h)
  · refine h ?_
    rw[List.mem_map]
    exact⟨b',hb',by simp only[Z0M,y2];exact hs.1.symm⟩
 let q:Nat->Prop:=λc=>∃b p,b∈m /\ ι b=some p/\p.blk=c
 let sn2:Z0f:=λa=>open Classical in if q a.block\/¬a.block<W.heap.size then none else W.cell? a
 have hsn2:∀a v,sn2 a=some v->¬q a.block/\a.block<W.heap.size/\W.cell? a=some v:=λa v h=>by
  have h:(open Classical in if q a.block\/¬a.block<W.heap.size then none else W.cell? a)=some v:=h
  split at h
  ·cases h
  · rename_i hx
    simp only[not_or,Classical.not_not]at hx
    exact⟨hx.1,hx.2,h⟩
 have hsn2':∀a v,¬q a.block->a.block<W.heap.size->W.cell? a=some v->sn2 a=some v:=λa v h1 h2 h3=>by
  show (open Classical in if q a.block\/¬a.block<W.heap.size then none else W.cell? a)=some v
  rw[if_neg (by simp only[not_or,Classical.not_not];exact⟨h1,h2⟩)];exact h3
 have hle:∀a v,sn a=some v->sn2 a=some v:=λa v hv=>by
  obtain⟨h1,h2,h3⟩:=hR.snap a v hv
  refine hsn2' a v ?_ h1 h2
  rintro⟨b,p,hb,hp,e⟩
  obtain⟨i,o,o2,p',y1,y2,y3,y4,y5,y6⟩:=inm b hb
  exact h3 b o p y2 y4 hp e
 have hR0:=Zl3 hsub hnd hR
 have atm:∀{i:Nat}{p:Place},iot m ι i=some p->∃b,m[i]? = some b/\b∈m /\ ι b=some p:=λ{i p} hp=>by
  unfold iot at hp
  split at hp
  ·rename_i b hb;exact⟨b,hb,Y0r hb,hp⟩
  ·cases hp
 have hRs:R sn2 (iot m ι) Hs W:=by
  refine⟨hR0.dom,hR0.blk,λb o p hb ha hp=>Z0V ⟨hle,λ_ _ h=>h⟩ rfl (hR0.obj b o p hb ha hp),hR0.sep,λa v hv=>?_,hR0.shz⟩
  obtain⟨h1,h2,h3⟩:=hsn2 a v hv
  refine⟨h2,h3,λb o p hb ha hp e=>?_⟩
  obtain⟨c,_,hc,hp'⟩:=atm hp
  exact h1 ⟨c,p,hc,hp',e⟩
 have hla:LR sn2 (iot m ι) fargs vargs:=by
  refine Z78 (H:=ZlV m Hc) (W:=W) (λb o p hb ha hp=>?_) (Zdy hle) (λb o p hb ha hp off v hv=>?_) n _ _ _ hargs hl
  ·exact hR.obj b o p (Zcz hb ha).1 ha hp
  · obtain⟨h1,h2⟩:=Zcz hb ha
    refine hsn2' _ v ?_ (hR.blk b p hp) hv
    rintro⟨b',p',hb',hp',e⟩
    exact apart_ b o p h1 ha h2 hp b' p' hb' hp' e
 refine (hM sn2 (iot m ι) W vargs (hg.mono (Zdy hle)) hRs hla).mono ?_
 rintro e W' ⟨v,sn',ι',rfl,hv,hst⟩
 have hback:∀i,i<m.length->∀p,ι' i=some p -> ι (m.getD i 0)=some p:=λi hi p hp=>by
  obtain⟨b,hb⟩:∃b,m[i]? = some b:=⟨m[i],Y02 hi⟩
  obtain⟨p0,hp0⟩:=(hRs.dom i).1 (by omega)
  have h1:=hst.le.ι i p0 hp0
  rw[hp]at h1;cases h1
  obtain⟨c,hc,_,hp1⟩:=atm hp0
  rw[hb]at hc;cases hc
  rw[Y0h,hb];exact hp1
 have hfwd:∀(i b:Nat)(p:Place),m[i]? = some b -> ι b=some p -> ι' i=some p:=λi b p hb hp=>hst.le.ι i p (by simp only[iot,hb];exact hp)
 have pos_:∀b,b∈m->∃i,Z5f m b 0=some i/\m[i]? = some b:=λb hb=>by
  cases hx:Z5f m b 0 with
  |none=>exact (Z6L hx hb).elim
  |some i=>exact⟨i,rfl,by simpa using (Z2N hx).2⟩
 have old:∀(b:Nat)(o:AObj)(p:Place),Hc[b]? = some o->o.alive=true->b ∉ m -> ι b=some p->W'.heap[p.blk]? = W.heap[p.blk]?:=λb o p ho hoa hb hp=>by
  refine hst.frame _ (hR.blk b p hp) λi o2 p2 hi ha hp2 e=>?_
  obtain⟨c,_,hc,hp3⟩:=atm hp2
  exact apart_ b o p ho hoa hb hp c p2 hc hp3 e
 have hup:∀(b:Nat)(o':AObj),(Zd7 m Hs' 0 Hc)[b]? = some o'->∃o,Hc[b]? = some o/\o'.fam=o.fam/\o'.sh=o.sh/\((b ∉ m/\o'=o)\/∃ (i:Nat) (x:AObj),m[i]? = some b/\Hs'[i]? = some x/\o'.alive=x.alive/\o'.body=Z5i (λb=>m.getD b 0) x.body/\o.alive=true):=by
  intro b o' h
  rw[Zc3]at h
  simp only[Y0q]at h
  cases hx:Hc[b]? with
  |none=>rw[hx]at h;cases h
  |some o =>
   rw[hx]at h
   simp only[Y06,Option.some.injEq]at h
   refine⟨o,rfl,?_⟩
   by_cases hb:b∈m
   · obtain⟨i,h1,h2⟩:=pos_ b hb
     have hi:i<m.length:=(Y05.1 h2).1
     have hi':i<Hs'.length:=by omega
     rw[h1]at h
     simp only[Y02 hi']at h
     subst h
     obtain⟨_,y,_,_,_,y2,_,y4,_⟩:=inm b hb
     rw[hx]at y2;cases y2
     exact⟨rfl,rfl,.inr ⟨i,Hs'[i],h2,Y02 hi',rfl,rfl,y4⟩⟩
   · have hn : Z5f m b 0 = none := by
      cases hx:Z5f m b 0 with
      |none=>rfl
      |some i=>exact (hb (Y0r (Z2N hx).2)).elim
     rw[hn]at h
     subst h
     exact⟨rfl,rfl,.inl ⟨hb,rfl⟩⟩
 have hlen:(Zd7 m Hs' 0 Hc).length=Hc.length:=by
  have:∀(H:Z00)(i:Nat),(Zd7 m Hs' i H).length=H.length:=by
   intro H
   induction H with
   |nil=>intro i;rfl
   |cons o H ih=>intro i;simp[Zd7,ih]
  exact this _ _
 have hnr:∀c,c<W.heap.size->(∀(b:Nat)(o:AObj) p,Hc[b]? = some o->o.alive=true -> ι b=some p->p.blk≠c)->W'.heap[c]? = W.heap[c]?:=λc hc hno=>by
  refine hst.frame c hc λi o2 p2 hi ha hp2 e=>?_
  obtain⟨b,_,hb,hp3⟩:=atm hp2
  obtain⟨_,o,_,_,_,y2,_,y4,_⟩:=inm b hb
  exact hno b o p2 y2 y4 hp3 e
 have hR':R sn ι (Zd7 m Hs' 0 Hc) W':=by
  refine⟨λb=>by rw[hlen];exact hR.dom b,λb p hp=>Y0x (hR.blk b p hp) hst.size,λb o' p hb ha hp=>?_,λb b' o o' p p' hb hb' ha ha' hp hp' e=>?_,λa v hv=>?_,λb o' p hb hp e=>?_⟩
  · obtain⟨o,ho,_,_,h|⟨i,x,h1,h2,h3,h4,h5⟩⟩:=hup b o' hb
    · obtain⟨h1,rfl⟩:=h
      exact Z0V (Le.refl _ _) (old b _ p ho ha h1 hp) (hR.obj b _ p ho ha hp)
    · rw[h4]
      have hi:i<m.length:=(Y05.1 h1).1
      have h6:=hst.rel.obj i x p h2 (by rw[<- h3];exact ha) (hfwd i b p h1 hp)
      have h7:=(hg2 i _ x (Y02 (by omega)) h2).2.2.2
      exact ZaQ x.body (Z4z x.body p (λy hy=>hback y (Z19 h7 y hy)) (ZkJ x.body (Za2 hro h2) h6))
  · obtain⟨x,hx,e1,e2,hz⟩:=hup b o hb
    obtain⟨y,hy,e3,e4,hw⟩:=hup b' o' hb'
    have hxa:x.alive=true:=by
     rcases hz with ⟨_,rfl⟩|⟨_,_,_,_,_,_,h⟩
     ·exact ha
     ·exact h
    have hya:y.alive=true:=by
     rcases hw with ⟨_,rfl⟩|⟨_,_,_,_,_,_,h⟩
     ·exact ha'
     ·exact h
    have:=hR.sep b b' x y p p' hx hy hxa hya hp hp' e
    rw[e1,e2,e3,e4];exact this
  · obtain⟨h1,h2,h3⟩:=hR.snap a v hv
    refine⟨Y0x h1 hst.size,?_,λb o' p hb ha hp=>?_⟩
    ·rw[<- h2];exact World.cell?_of_block (hnr _ h1 h3)
    · obtain⟨o,ho,_,_,h|⟨i,x,_,_,_,_,h5⟩⟩:=hup b o' hb
      ·obtain⟨_,rfl⟩:=h;exact h3 b _ p ho ha hp
      ·exact h3 b o p ho h5 hp
  · obtain⟨o,ho,_,e2,_⟩:=hup b o' hb
    exact hR.shz b o p ho hp (by rw[<- e2];exact e)
 refine⟨v,sn,ι,rfl,?_,hR',Le.refl _ _,λ_ _ h=>.inl h,hnr,hst.size,hst.os,hst.tape,hst.output,λ_ _ h=>.inl h,λb o hb=>?_⟩
 ·exact (Z5d r v).2 (Z1m r [] v (λy hy=>hback y (Z19 hrk y hy)) (Z4y r v hrr hv))
 · have hb':b<(Zd7 m Hs' 0 Hc).length:=by rw[hlen];exact (Y05.1 hb).1
   have hx:=Y02 hb'
   obtain⟨x,hx1,e1,e2,h|⟨i,y,h1,h2,h3,h4,h5⟩⟩:=hup b _ hx
   · rw[hb]at hx1;cases hx1
     exact⟨_,hx,e1,e2,λha=>by rw[h.2]at ha;exact ha⟩
   · rw[hb]at hx1;cases hx1
     exact⟨_,hx,e1,e2,λ_=>h5⟩
end Go.Abs
end
namespace Go.Proofs.YtpobjilfhkbhjaaDoor.lex
open Go.Abs Go.RowKit
section
theorem follows:Y00.follows .mixedOrders=true:=by kernel_rfl
theorem Z95:(Y00.funcs.toList.all λfn=>!(fn.name == "runtime.NumGoroutine"))=true:=by kernel_rfl
theorem Z11:NoNum Y00:=⟨λg fn h=>by
 have h1:=Y0i.1 Z95 fn (Array.mem_toList_iff.2 (Array.mem_of_getElem? h))
 simpa using h1,of_decide_eq_true (by kernel_rfl)⟩
variable {gl:Z0n}
theorem Z1b:OrcSound Y00 gl (ZiB λ_ _=>none):=Z5j λ_ _ _ h=>by cases h
def ZiQ(n:Int):Bool:=decide (48<=n)&&decide (n<=57)
theorem Zl0(c:UInt8)(n:Nat)(h:n<256):((c.toNat:Int)==(n:Int))=(c==UInt8.ofNat n):=by
 by_cases e:c=UInt8.ofNat n
 ·subst e;simp;omega
 · have:c.toNat≠n:=λe'=>e (by apply UInt8.toNat_inj.1;rw[e'];simp[Nat.mod_eq_of_lt h])
   rw[beq_eq_false_iff_ne.2 e,beq_eq_false_iff_ne];omega
end
end Go.Proofs.YtpobjilfhkbhjaaDoor.lex
section
namespace Go.Abs
open Go.RowKit
theorem Wk.nil{m:List Nat}{z:Nat}:Wk m .nslice (.rs 0 z []):=λsn ι v h=>by simp only[VR]at h⊢;exact .inl ⟨trivial,trivial,h⟩
theorem swA{A B:Prop}(h:A):ZdZ (A/\B) B:=λb=>⟨h,b⟩
theorem stw{P Q:Prop}(q:Q)(h:ZdZ P Q:=by
 first
 |(refine swA (Wk.int ?_);(focus (first|rfl|omega|(simp;done)|(simp;omega))))|(refine swA (Wk.bool ?_);(focus (first|rfl|(simp;done))))|exact swA (Wk.noref rfl)
 |exact swA (Wk.ptr rfl rfl)|(refine swA (Wk.slice rfl ?_ ?_ ?_ ?_ ?_);(focus (first|rfl|omega));(focus (first|rfl|omega));(focus (first|rfl|omega));(focus (first|rfl|omega));(focus rfl))|exact swA Wk.nil|exact swA (Wk.func trivial ⟨Wk.ptr rfl rfl,trivial⟩)|exact swA (Wk.map rfl)):P:=h q
theorem Zlc{z:Nat}{sn:Z0f}{ι : Z0c}{v:Value}(h:VR sn ι .nslice v):VR sn ι (.rs 0 z []) v:=by simp only[VR]at h⊢;exact .inl ⟨trivial,trivial,h⟩
section
open Classical
noncomputable def ZkP{I:Type}(G:I->Prop)(fF:I->Nat)(fA:I->List AV)(fR:I->AV):Orc:=ZiB λf args=>if h:∃i,G i/\fF i=f/\fA i=args then some (fR (Classical.choose h)) else none
theorem Zdh{P:Program}{gl:Z0n}{I:Type}{G:I->Prop}{fF:I->Nat}{fA:I->List AV}{fR:I->AV}(h:∀i,G i->refsL (fA i) []=[]/\ValOK P gl (fF i) (fA i) (fR i)):OrcSound P gl (ZkP G fF fA fR):=Z5j λf args r e=>by
 split at e
 · rename_i hx
   simp only[Option.some.injEq]at e
   subst e
   obtain⟨g1,e1,e2⟩:=Classical.choose_spec hx
   have:=h _ g1
   rw[e1,e2]at this;exact this
 ·cases e
theorem ZmK {P : Program} {I : Type} {G : I -> Prop} {fF : I -> Nat} {fA : I -> List AV} {fR : I -> AV} (hinj : ∀ i j, G i -> G j -> fF i = fF j -> fA i = fA j -> fR i = fR j) {H : Z00} (i : I) (hb : Z0k P (fF i) = true) (hi : G i) :
  Z0e P (ZkP G fF fA fR) H (fF i) (fA i)=some (fR i,H):=by
 have hx:∃j,G j/\fF j=fF i/\fA j=fA i:=⟨i,hi,rfl,rfl⟩
 unfold Z0e
 rw[if_pos hb]
 unfold ZkP ZiB
 simp only[dif_pos hx]
 obtain⟨g1,g2,g3⟩:=Classical.choose_spec hx
 rw[hinj _ i g1 hi g2 g3]
theorem ZeK{I:Type}{G:I->Prop}{fF:I->Nat}{fA:I->List AV}{fH:I->Z00}{fR:I->AV}{fO:I->Z00}{g:Nat}{args:List AV}{H:Z00}(h:∀i,G i->fF i=g->fA i≠args):orcI G fF fA fH fR fO g args H=none:=by
 unfold orcI
 rw[dif_neg]
 rintro⟨i,h1,h2,h3,_⟩
 exact h i h1 h2 h3
end
theorem Zgq{P:Program}{o1 o2:Orc}{H:Z00}{g:Nat}{args:List AV}{x:AV×Z00}(hb:Z0k P g=true)(h:Z0e P o1 H g args=some x):Z0e P (Z5Y o1 o2) H g args=some x:=by
 unfold Z0e at h⊢
 rw[if_pos hb]at h⊢
 unfold Z5Y;rw[h]
theorem Zgp{P:Program}{o1 o2:Orc}{H:Z00}{g:Nat}{args:List AV}{x:AV×Z00}(hb:Z0k P g=true)(h1:o1 g args H=none)(h:Z0e P o2 H g args=some x):Z0e P (Z5Y o1 o2) H g args=some x:=by
 unfold Z0e at h⊢
 rw[if_pos hb]at h⊢
 unfold Z5Y;rw[h1];exact h
structure Fam (P:Program) (gl:Z0n) where
 I:Type
 f:Nat
 G:I->Prop
 A:I->List AV
 R:I->AV
 body:Z0k P f=true
 inj:∀i j,G i->G j->A i=A j->R i=R j
 ok:∀i,G i->refsL (A i) []=[]/\ValOK P gl f (A i) (R i)
structure FamM (P:Program) (gl:Z0n) where
 I:Type
 f:Nat
 G:I->Prop
 A:I->List AV
 H:I->Z00
 R:I->AV
 O:I->Z00
 body:Z0k P f=true
 inj:∀i j,G i->G j->A i=A j->H i=H j->R i=R j/\O i=O j
 ok:∀i,G i->Z1N P gl f (A i) (H i) (R i) (O i)
section
variable {P:Program} {gl:Z0n}
def Fam.Ask(F:Fam P gl)(O:Orc):Prop:=∀i,F.G i->∀H,Z0e P O H F.f (F.A i)=some (F.R i,H)
def FamM.Ask(F:FamM P gl)(O:Orc):Prop:=∀i,F.G i->Z0e P O (F.H i) F.f (F.A i)=some (F.R i,F.O i)
def AllAsk(O:Orc):List (Fam P gl)->Prop
 |[]=>True
 |F::l=>F.Ask O/\AllAsk O l
def AllAskM(O:Orc):List (FamM P gl)->Prop
 |[]=>True
 |F::l=>F.Ask O/\AllAskM O l
theorem ZbI{o O:Orc}{f:Nat}(ho:∀g args H,g≠f->o g args H=none):(∀F:Fam P gl,F.f≠f->F.Ask O->F.Ask (Z5Y o O))/\(∀F:FamM P gl,F.f≠f->F.Ask O->F.Ask (Z5Y o O)) :=
 ⟨λF hf h i hi H=>Zgp F.body (ho _ _ _ hf) (h i hi H),λF hf h i hi=>Zgp F.body (ho _ _ _ hf) (h i hi)⟩
theorem Z9g:∀(l:List (Fam P gl)),Z1h (l.map (·.f))=true->∃O,OrcSound P gl O/\AllAsk O l
 |[],_=>⟨λ_ _ _=>none,(λf args H r H' h=>by cases h),trivial⟩
 |F::l,h=>by
  simp only[Y04,Z1h,Y01,Y0l]at h
  obtain⟨O,hO,ha⟩:=Z9g l h.2
  have ho:∀g args H,g≠F.f->ZkP F.G (λ_=>F.f) F.A F.R g args H=none:=by
   intro g args H hg
   have:¬ ∃i,F.G i/\F.f=g/\F.A i=args:=by
    rintro⟨i,_,h2,_⟩
    exact hg h2.symm
   simp only[ZkP,ZiB,dif_neg this]
  refine⟨Z5Y (ZkP F.G (λ_=>F.f) F.A F.R) O,Z6O (Zdh F.ok) hO,λi hi H=>Zgq F.body (ZmK (λi j hi hj _ ha=>F.inj i j hi hj ha) i F.body hi),?_⟩
  have hn:∀G∈l,G.f≠F.f:=λG hG e=>by
   have h1:=h.1
   have:mem F.f (l.map (·.f))=true:=Z0S.2 (by rw[<- e];exact List.mem_map_of_mem hG)
   rw[this]at h1;cases h1
  clear h
  induction l with
  |nil=>trivial
  |cons G l ih =>
   exact⟨(ZbI ho).1 G (hn G (by simp)) ha.1,ih ha.2 λK hK=>hn K (by simp[hK])⟩
theorem fams(l:List (Fam P gl))(h:Z1h (l.map (·.f))=true):∃O,OrcSound P gl O/\AllAsk O l:=Z9g l h
theorem AllAsk.add{o O:Orc}{f:Nat}(ho:∀g args H,g≠f->o g args H=none):∀{l:List (Fam P gl)},mem f (l.map (·.f))=false->AllAsk O l->AllAsk (Z5Y o O) l
 |[],_,_=>trivial
 |F::l,h,ha=>by
  simp only[Y04,mem,Bool.or_eq_false_iff]at h
  exact⟨(ZbI ho).1 F (λe=>by rw[e]at h;simp at h) ha.1,AllAsk.add ho h.2 ha.2⟩
theorem AllAskM.add{o O:Orc}{f:Nat}(ho:∀g args H,g≠f->o g args H=none):∀{l:List (FamM P gl)},mem f (l.map (·.f))=false->AllAskM O l->AllAskM (Z5Y o O) l
 |[],_,_=>trivial
 |F::l,h,ha=>by
  simp only[Y04,mem,Bool.or_eq_false_iff]at h
  exact⟨(ZbI ho).2 F (λe=>by rw[e]at h;simp at h) ha.1,AllAskM.add ho h.2 ha.2⟩
theorem ZdE:∀(m:List (FamM P gl))(l:List (Fam P gl)),Z1h (m.map (·.f)++l.map (·.f))=true->∃O,OrcSound P gl O/\AllAskM O m/\AllAsk O l
 |[],l,h=>by
  obtain⟨O,h1,h2⟩:=Z9g l h
  exact⟨O,h1,trivial,h2⟩
 |F::m,l,h=>by
  simp only[Y04,Y0P,Z1h,Y01,Y0l]at h
  obtain⟨O,hO,ha,hb⟩:=ZdE m l h.2
  have ho:∀g args H,g≠F.f->orcI F.G (λ_=>F.f) F.A F.H F.R F.O g args H=none:=λg args H hg=>ZeK λi _ e=>absurd e.symm hg
  have hmem:∀{a b:List Nat},mem F.f (a++b)=false->mem F.f a=false/\mem F.f b=false:=by
   intro a b h
   constructor
   · cases hx:mem F.f a with
     |false=>rfl
     |true=>rw[Z0S.2 (Y0y.2 (.inl (Z0S.1 hx)))]at h;cases h
   · cases hx:mem F.f b with
     |false=>rfl
     |true=>rw[Z0S.2 (Y0y.2 (.inr (Z0S.1 hx)))]at h;cases h
  obtain⟨n1,n2⟩:=hmem h.1
  refine⟨Z5Y (orcI F.G (λ_=>F.f) F.A F.H F.R F.O) O,Z6O (Zdi F.ok) hO,⟨λi hi=>Zgq F.body (ZmL (λi j hi hj _ ha hh=>F.inj i j hi hj ha hh) F.body i hi rfl rfl rfl),AllAskM.add ho n1 ha⟩,AllAsk.add ho n2 hb⟩
end
theorem hbp{a b:Bool}{f i s s2:Nat}{m:List Nat}{cs cs2:List AV}{ty:TypeId}(h1:a=true:=by rfl)(h2:b=true:=by rfl)(h3:f=i:=by rfl)(h4:s2=s:=by rfl)(h5:cs=cs2++[]:=by rfl)(h6:refsL cs2 []=[]:=by rfl):a=true/\b=true/\f=i/\s2=s/\BodyGe m (.cells cs ty) (.cells cs2 ty):=⟨h1,h2,h3,h4,BodyGe.pre (rest:=[]) h5 h6⟩
theorem wks{P:Prop}(h:P:=by (repeat (first|exact trivial|refine stw ?_));done):P:=h
theorem neS{α : Type}{l:List α}(h:l≠[]:=by first|exact List.cons_ne_nil _ _|assumption|(simp;done)|(intro hz;simp only[List.append_eq_nil_iff]at hz;simp_all;done)):l≠[]:=h
theorem leS{P:Prop}(h:P:=by (try simp only[List.length_append,List.length_cons,List.length_nil]at *);omega):P:=h
end Go.Abs
end
namespace Go.Proofs.YtpobjilfhkbhjaaDoor.lex
open Go.Abs Go.RowKit
section
variable {gl:Z0n}
inductive Ex where
 |mk (op num:Int) (name:List UInt8) (kids:List Ex)
instance:Inhabited Ex:=⟨.mk 0 0 [] []⟩
def Ex.op:Ex->Int
 | .mk o _ _ _=>o
def Ex.name:Ex->List UInt8
 | .mk _ _ s _=>s
def Ex.kids:Ex->List Ex
 | .mk _ _ _ k=>k
mutual
def Ex.cells:Ex->List AV
 | .mk op num name kids=>[.int .i64 op,.int .i64 num,.str name,.rs kids.length 4 (exC kids)]
def exC:List Ex->List AV
 |[]=>[]
 |e::l=>e.cells++exC l
end
def exA(l:List Ex):AV:=.rs l.length 4 (exC l)
mutual
def Z28:Ex->Nat
 | .mk _ _ _ kids=>1+sizeL kids
def sizeL:List Ex->Nat
 |[]=>0
 |e::l=>Z28 e+sizeL l
end
mutual
def Zid:Ex->Nat
 | .mk _ _ _ kids=>deepL kids+1
def deepL:List Ex->Nat
 |[]=>0
 |e::l=>max (Zid e) (deepL l)
end
theorem Z2h:∀e:Ex,e.cells.length=4
 | .mk _ _ _ _=>by simp only[Ex.cells];rfl
theorem ZfI:∀l:List Ex,(exC l).length=l.length*4
 |[]=>by simp only[exC];rfl
 |e::l=>by simp only[exC,Y0s,Z2h,ZfI l,Y0a];omega
theorem Zi8(e:Ex)(l:List Ex)(i:Nat):(exC (e::l)).drop ((i+1)*4)=(exC l).drop (i*4):=by
 have h:(i+1)*4=4+i*4:=by omega
 rw[h,<- List.drop_drop,exC,List.drop_left' (Z2h e)]
theorem Zeg:∀(a b:List AV),tk a.length (a++b)=some a
 |[],b=>by cases b<;>rfl
 |c::a,b=>by simp only[Y0a,Y0P,tk,Zeg a b]
theorem Z8n:∀(l:List Ex)(i:Nat)(h:i<l.length),(exC l).drop (i*4)=l[i].cells++exC (l.drop (i+1))
 |e::l,0,h=>by simp only[Nat.zero_mul,Y0z,exC,Y0m,Y0n]
 |e::l,i+1,h=>by rw[Zi8,Z8n l i (by simpa using h)];simp only[Y0o,Y0n]
theorem ex4(l:List Ex)(i:Nat)(h:i<l.length):tk 4 ((exC l).drop (i*4))=some l[i].cells:=by
 rw[Z8n l i h]
 have:=Zeg l[i].cells (exC (l.drop (i+1)))
 rwa [Z2h]at this
mutual
theorem Z51:∀(a b:Ex),a.cells=b.cells->a=b
 | .mk o n s k,.mk o' n' s' k',h=>by
  simp only[Ex.cells]at h
  simp at h
  obtain⟨rfl,rfl,rfl,hl,hk⟩:=h
  rw[exC_inj k k' hk hl]
theorem exC_inj:∀(a b:List Ex),exC a=exC b->a.length=b.length->a=b
 |[],[],_,_=>rfl
 |x::a,y::b,h,hl=>by
  simp only[exC]at h
  have h':=List.append_inj h (by rw[Z2h,Z2h])
  rw[Z51 x y h'.1,exC_inj a b h'.2 (by simpa using hl)]
 |[],_::_,_,hl=>by simp at hl
 |_::_,[],_,hl=>by simp at hl
end
theorem Zkd{a b:List Ex}(h:exA a=exA b):a=b:=by
 simp only[exA,AV.rs.injEq,true_and]at h
 exact exC_inj _ _ h.2 h.1
theorem Z6C:∀e:Ex,0<Z28 e
 | .mk _ _ _ _=>by simp only[Z28];omega
theorem Z6B:∀(l:List Ex)(i:Nat)(h:i<l.length),sizeL l=sizeL (l.take i)+Z28 l[i]+sizeL (l.drop (i+1))
 |e::l,0,h=>by simp only[Y0b,sizeL,Y0m,Y0n,Y0z];omega
 |e::l,i+1,h=>by
  have:=Z6B l i (by simpa using h)
  simp only[Y0f,sizeL,Y0o,Y0n];omega
theorem Z3w:∀(l:List Ex)(e:Ex),e∈l->Z28 e<=sizeL l
 |e::l,f,h=>by
  simp only[sizeL]
  rcases Y03.1 h with rfl|h
  ·omega
  ·have:=Z3w l f h;omega
theorem ZfF(e:Ex):refsL [.agg e.cells] []=[]:=by
 obtain⟨o,n,s,k⟩:=e
 simp only[Ex.cells];rfl
theorem Z12{α : Type}{l:List α}{i:Nat}(h:i<l.length):l[i]∈l:=Y0A h
end
section
variable {gl:Z0n}
def okN(s:List UInt8)(n:Nat):Prop:=s.length<=9223372036854775807/\n<=9223372036854775807
mutual
def okE:Ex->Prop
 | .mk _ _ s k=>okN s k.length/\okL k
def okL:List Ex->Prop
 |[]=>True
 |e::l=>okE e/\okL l
end
theorem Z3B:∀{l:List Ex},okL l->∀e∈l,okE e
 |x::l,h,e,he=>by
  simp only[okL]at h
  rcases Y03.1 he with rfl|he
  ·exact h.1
  ·exact Z3B h.2 e he
theorem Z6e:∀{e:Ex},okE e->okN e.name e.kids.length/\okL e.kids
 | .mk _ _ s k,h=>by simp only[okE]at h;exact h
mutual
def Z1I:Ex->Int->Int
 | .mk _ _ s k,l=>heftL k (l-1-(s.length / 20:Nat))
def heftL:List Ex->Int->Int
 |[],l=>l
 |e::k,l=>if 0<=l then heftL k (Z1I e l) else l
end
mutual
theorem Z8j:∀(e:Ex)(l:Int),0<=Z1I e l->(Z28 e:Int)+Z1I e l<=l
 | .mk _ _ s k,l,h=>by
  simp only[Z1I,Z28]at *
  have:=heftL_size k _ h;omega
theorem heftL_size:∀(k:List Ex)(l:Int),0<=heftL k l->(sizeL k:Int)+heftL k l<=l
 |[],l,h=>by simp only[heftL,sizeL]at *;omega
 |e::k,l,h=>by
  simp only[heftL,sizeL]at *
  split at h
  · rename_i hl
    rw[if_pos hl]
    have h1:=heftL_size k _ h
    have h2:0<=Z1I e l:=by omega
    have h3:=Z8j e l h2
    omega
  ·omega
end
mutual
theorem ZhU:∀(e:Ex)(l:Int),Z1I e l<=l
 | .mk _ _ s k,l=>by simp only[Z1I];have:=heftL_le k (l-1-(s.length / 20:Nat));omega
theorem heftL_le:∀(k:List Ex)(l:Int),heftL k l<=l
 |[],l=>by simp only[heftL];omega
 |e::k,l=>by
  simp only[heftL]
  split
  ·have:=heftL_le k (Z1I e l);have:=ZhU e l;omega
  ·omega
end
theorem ZcB:∀(k:List Ex)(l:Int)(i:Nat)(h:i<k.length),heftL (k.take (i+1)) l=if 0<=heftL (k.take i) l then Z1I k[i] (heftL (k.take i) l) else heftL (k.take i) l
 |e::k,l,0,h=>by simp only[Y0f,Y0b,heftL,Y0m]
 |e::k,l,i+1,h=>by
  have ih:=λl=>ZcB k l i (by simpa using h)
  simp only[Y0f,heftL,Y0o]at ih⊢
  split
  ·exact ih _
  ·rename_i h2;simp[h2]
theorem Z8i:∀(k:List Ex)(l:Int)(i:Nat),heftL (k.take i) l<0->heftL k l=heftL (k.take i) l
 |[],l,i,h=>by simp[heftL]
 |e::k,l,0,h=>by
  simp only[Y0b,heftL]at *
  rw[if_neg (by omega)]
 |e::k,l,i+1,h=>by
  simp only[Y0f,heftL]at *
  split
  · rename_i hl
    rw[if_pos hl]at h
    exact Z8i k _ i h
  ·rfl
theorem Zfl:∀(n:Nat)(e:Ex)(l:Int),Z28 e<=n->okE e->0<=l->l<=1048576->ValOK Y00 gl 38 [.agg e.cells,.int .i64 l] (.int .i64 (Z1I e l))
 |0,e,l,h,_,_,_=>by have:=Z6C e;omega
 |n+1,.mk op num name kids,l,h,hok,hl0,hl1=>by
  simp only[Z28]at h
  obtain⟨⟨hn1,hn2⟩,hok2⟩:=Z6e hok
  simp only[Ex.name,Ex.kids]at hn1 hn2 hok2
  obtain⟨O,hO,q,-⟩:=fams (P:=Y00) (gl:=gl) [{ I:=Ex×Int,f:=38,G:=λp=>p.1∈kids/\0<=p.2/\p.2<=1048576,A:=λp=>[.agg p.1.cells,.int .i64 p.2],R:=λp=>.int .i64 (Z1I p.1 p.2),body:=(by kernel_rfl),inj:=(λi j _ _ h=>by simp only[List.cons.injEq,AV.agg.injEq,AV.int.injEq,and_true,true_and]at h;rw[Z51 _ _ h.1,h.2]),ok:=(λp hp=>⟨by have:=ZfF p.1;simpa[refsL,Z0W]using this,Zfl n p.1 p.2 (by have:=Z3w _ _ hp.1;omega) (Z3B hok2 _ hp.1) hp.2.1 hp.2.2⟩) }] rfl
  have q20:Int.tdiv (name.length:Int) 20=((name.length / 20:Nat):Int):=rfl
  have w1:IntKind.i64.wrap (l-1)=l-1:=Z7D (by omega) (by omega)
  have w2:IntKind.i64.wrap (Int.tdiv (name.length:Int) 20)=((name.length / 20:Nat):Int):=by rw[q20];exact Z7D (by omega) (by omega)
  have w3:IntKind.i64.wrap (l-1-((name.length / 20:Nat):Int))=l-1-((name.length / 20:Nat):Int):=Z7D (by omega) (by omega)
  simp only[Ex.cells,Z1I]
  refine Z0J follows Z11 hO Tryd.func38 rfl ?_
  repeat' ((conv=>whnf);first|(with_reducible refine exW w1 ?_)|(refine And.intro (show (20:Int)≠0 by decide) ?_)|(rw[w2])|(with_reducible refine exW w3 ?_)|refine stp ?_|with_reducible apply Z04<;>intro h)
  conv=>whnf
  generalize hl00:l-1-((name.length / 20:Nat):Int)=l0 at *
  refine⟨Nat,(λi=>i<=kids.length),(λi=>[(1,.int .i64 (heftL (kids.take i) l0)),(2,.ptr 0 0),(5,.int .i64 i)]),(λ_=>[⟨true,0,0,.cells [.int .i64 op,.int .i64 num,.str name,.rs kids.length 4 (exC kids)] 50⟩]),(λi=>kids.length-i),⟨0,Y08 _,Y0c [0] rfl ?_ ⟨hbp,trivial⟩ rfl⟩,?_⟩
  ·simp only[Y0b,heftL];exact wks
  intro i hi
  dsimp only
  have hle:=heftL_le (kids.take i) l0
  by_cases hlt:i<kids.length
  · have e1:decide ((i:Int)<(kids.length:Int))=true:=by simpa using hlt
    by_cases hpos:0<=heftL (kids.take i) l0
    · have e2:decide (heftL (kids.take i) l0 >= 0)=true:=by simpa using hpos
      have hx:=ex4 kids i hlt
      have hs:=ZcB kids l0 i hlt
      rw[if_pos hpos]at hs
      have hc':∀H,Z0e Y00 O H 38 [.agg kids[i].cells,.int .i64 (heftL (kids.take i) l0)]=some (.int .i64 (Z1I kids[i] (heftL (kids.take i) l0)),H):=q (kids[i],_) ⟨Z12 hlt,hpos,by show heftL (kids.take i) l0<=1048576;omega⟩
      generalize kids[i]=k at *
      repeat' ((conv=>whnf);first|refine exI hx ?_|refine exI (hc' _) ?_|(with_reducible refine ixJ i rfl ?_ ?_;focus omega)|refine stp ?_|with_reducible apply Z04<;>intro h)
      conv=>whnf
      refine⟨i+1,hlt,by show kids.length-(i+1)<kids.length-i;omega,Y0c [0] rfl ?_ ⟨hbp,trivial⟩ rfl⟩
      rw[hs];exact wks
    · have e2:decide (heftL (kids.take i) l0 >= 0)=false:=by simpa using hpos
      have hst:=Z8i kids l0 i (by omega)
      rw[hst]
      repeat' ((conv=>whnf);first|refine stp ?_|with_reducible apply Z04<;>intro h)
      rfl
  · have e1:decide ((i:Int)<(kids.length:Int))=false:=by simpa using hlt
    have hi2:i=kids.length:=by have:=hi;omega
    subst hi2
    rw[Y0d]
    repeat' ((conv=>whnf);first|refine stp ?_|with_reducible apply Z04<;>intro h)
    rfl
theorem ZhM(e:Ex)(l:Int)(hok:okE e)(hl0:0<=l)(hl1:l<=1048576):ValOK Y00 gl 17 [.agg e.cells,.int .i64 l] (.bool (decide (0<=Z1I e l))):=by
 have hO:=Zdj (P:=Y00) (gl:=gl) (l:=[(38,[.agg e.cells,.int .i64 l],.int .i64 (Z1I e l))]) ⟨by have:=ZfF e;simpa[refsL,Z0W]using this,Zfl _ e l (Y0e _) hok hl0 hl1,trivial⟩
 have q:∀H,Z0e Y00 (ZlP [(38,[.agg e.cells,.int .i64 l],.int .i64 (Z1I e l))]) H 38 [.agg e.cells,.int .i64 l]=some (.int .i64 (Z1I e l),H):=λH=>ZmM (by kernel_rfl) ZdD
 obtain⟨op,num,name,kids⟩:=e
 simp only[Ex.cells]at *
 refine Z0J follows Z11 hO Tryd.func17 rfl ?_
 repeat' ((conv=>whnf);first|refine exI (q _) ?_|refine stp ?_|with_reducible apply Z04<;>intro h)
 all_goals rfl
end
end Go.Proofs.YtpobjilfhkbhjaaDoor.lex
section
namespace Go.Flat
inductive Rch (nx:Nat->List Nat):Nat->Prop
 |zero:Rch nx 0
 |next {v w:Nat} (h:Rch nx v) (hw:w∈nx v):Rch nx w
def upd{α : Type}(f:Nat -> α)(v:Nat)(x : α):Nat -> α:=λu=>if u=v then x else f u
theorem Z08{α : Type}(f:Nat -> α)(v:Nat)(x : α):upd f v x v=x:=if_pos rfl
theorem Z07{α : Type}{f:Nat -> α}{v u:Nat}{x : α}(h:u≠v):upd f v x u=f u:=if_neg h
structure Ds where
 st:Nat->Nat
 gone:Nat->Nat
 path:List Nat
 l:List Nat
def Znt(nx:Nat->List Nat)(st:Nat->Nat)(v m:Nat):Prop:=∀j,j<m->∀w,(nx v)[j]? = some w->st w=2
def Up(nx:Nat->List Nat)(st gone:Nat->Nat):Nat->List Nat->Prop
 |v,[]=>v=0
 |v,u::p=>0<gone u/\(nx u)[gone u-1]? = some v/\Znt nx st u (gone u-1)/\Up nx st gone u p
structure Inv (n:Nat) (nx:Nat->List Nat) (s:Ds):Prop where
 opn:∀v,s.st v=1 ↔ v∈s.path
 cls:∀v,s.st v=2 ↔ v∈s.l
 nd:s.path.Nodup
 ndl:s.l.Nodup
 lt:∀v,s.st v≠0->v<n
 new:∀v,s.st v=0->s.gone v=0
 le:∀v,s.gone v<=(nx v).length
 top:∀v p,s.path=v::p->Znt nx s.st v (s.gone v)/\Up nx s.st s.gone v p
 zero:s.path=[]->s.st 0=2
 fall:∀a v b,s.l=a++v::b->∀w∈nx v,w∈b
def start:Ds:=⟨upd (λ_=>0) 0 1,λ_=>0,[0],[]⟩
def shut(s:Ds)(v:Nat)(p:List Nat):Ds:=⟨upd s.st v 2,s.gone,p,v::s.l⟩
def left(n:Nat)(nx:Nat->List Nat)(s:Ds):Nat:=((List.range n).map λv=>((nx v).length-s.gone v)+(if s.st v=2 then 0 else 1)).sum
theorem Zcc{f g:Nat->Nat}:∀{l:List Nat}{v:Nat},v∈l->(∀x∈l,g x<=f x)->g v<f v->(l.map g).sum<(l.map f).sum
 |x::l,v,hv,hle,hlt=>by
  simp only[Y04,Y0t]
  have hx:=hle x (by simp)
  have hls:(l.map g).sum<=(l.map f).sum:=by
   clear hv hlt hx
   induction l with
   |nil=>simp
   |cons y l ih =>
    simp only[Y04,Y0t]
    have:=hle y (by simp)
    have:=ih λz hz=>hle z (by
     rcases Y03.1 hz with rfl|hz
     ·simp
     ·simp[hz])
    omega
  by_cases e:v=x
  ·subst e;omega
  · rcases Y03.1 hv with h|h
    ·exact absurd h e
    · have:=Zcc h (λy hy=>hle y (by simp[hy])) hlt
      omega
end Go.Flat
end
section
namespace Go.Flat
structure In (α : Type) where
 kind:Int
 reg:Int
 loc:Int
 order:Int
 to:Int
 ex:List α
structure Ev where
 kind:Int
 loc:Int
 order:Int
 rd:Int
 wr:Int
structure Th where
 at_:Nat
 regs:List Int
 evs:List Ev
inductive Stp where
 |on (s:Th)
 |ends (e:Int)
 |asks
variable {α : Type} (ev : α -> List Int->Int) (wr:Int->Int)
def val(i:In α)(regs:List Int)(k:Nat):Int:=match i.ex[k]? with|some e=>ev e regs|none=>0
def stp(i:In α)(s:Th):Stp :=
 let v:=val ev i s.regs 0
 let nxt:Th:=⟨s.at_+1,s.regs,s.evs⟩
 if i.kind=1 then .on ⟨s.at_+1,s.regs.set i.reg.toNat v,s.evs⟩
 else if i.kind=3 then .on ⟨s.at_+1,s.regs,s.evs++[⟨2,i.loc,i.order,0,v⟩]⟩
 else if i.kind=7 then .on ⟨s.at_+1,s.regs,s.evs++[⟨4,0,i.order,0,0⟩]⟩
 else if i.kind=8 then (if v=0 then .ends 2 else .on nxt)
 else if i.kind=9 then (if v=0 then .ends 3 else .on nxt)
 else if i.kind=10 then .on ⟨i.to.toNat,s.regs,s.evs⟩
 else if i.kind=11 then (if v=0 then .on ⟨i.to.toNat,s.regs,s.evs⟩ else .on nxt)
 else if i.kind=12 then .ends 4
 else if i.kind=13 then .ends 1
 else .asks
def nxI(i:In α)(at_:Nat):List Nat :=
 if i.kind=10 then [i.to.toNat] else if i.kind=11 then [at_+1,i.to.toNat] else if i.kind=12\/i.kind=13 then [] else [at_+1]
variable (ins:Nat->In α)
end Go.Flat
end
section
namespace Go.Proofs.YtpobjilfhkbhjaaDoor.lex
open Go.Abs Go.RowKit Go.Flat
abbrev Ins:=In Ex
def Z0E(i:Ins):List AV:=[.int .i64 i.kind,.int .i64 i.reg,.int .i64 i.loc,.int .i64 i.order,.int .i64 i.to,exA i.ex]
def inC:List Ins->List AV
 |[]=>[]
 |i::l=>Z0E i++inC l
structure Cd where
 regs:Int
 ins:List Ins
def Cd.av(c:Cd):AV:=.agg [.int .i64 c.regs,.rs c.ins.length 6 (inC c.ins)]
def okC(c:Cd):Prop:=c.ins.length<=9223372036854775807/\∀i∈c.ins,i.ex.length<=9223372036854775807/\okL i.ex
theorem ZhT(i:Ins)(l:List Ins)(k:Nat):(inC (i::l)).drop ((k+1)*6)=(inC l).drop (k*6):=by
 rw[show (k+1)*6=k*6+1+1+1+1+1+1 from by omega]
 simp only[inC,Z0E,Y0P,List.nil_append,Y0n]
theorem Z8g:∀(l:List Ins)(k:Nat)(h:k<l.length),(inC l).drop (k*6)=Z0E l[k]++inC (l.drop (k+1))
 |i::l,0,h=>by simp only[Nat.zero_mul,Y0z,inC,Y0m,Y0n]
 |i::l,k+1,h=>by rw[ZhT,Z8g l k (by simpa using h)];simp only[Y0o,Y0n]
theorem in6(l:List Ins)(k:Nat)(h:k<l.length):tk 6 ((inC l).drop (k*6))=some (Z0E l[k]):=by
 rw[Z8g l k h];rfl
end Go.Proofs.YtpobjilfhkbhjaaDoor.lex
end
section
namespace Go.Abs
open Go.RowKit
def grA{α : Type}(b z:Nat):List α -> AV
 |[]=>.nslice
 |_::r=>.slice b 0 (r.length+1) (r.length+1) z
def grB{α : Type}(b:Nat)(C:List α -> List AV)(ty:TypeId):List α -> Z00
 |[]=>[]
 |x::r=>[⟨true,b,0,.cells (C (x::r)) ty⟩]
theorem ZlG {P : Program} {t t2 e : TypeId} {z by_ : Nat} (hT : ZcU P t t2 = some (e, z, by_)) {H : Z00} {x : AV} {xs : List AV} (hx : Z1f H z x = some (0, xs)) :
  Z0B P t t2 .nslice x H=some (.nslice,H):=by
 obtain⟨h1,i,u,h2,h3,h4,rfl,rfl⟩:=Z58 hT
 simp only[Z0B,h1,h2,h3]
 rw[if_pos h4]
 simp only[hx,if_true]
def Zlz(f e:Nat):Z00->Prop
 |[]=>True
 |o::H=>(o.fam≠f\/o.sh+o.body.len<=e)/\Zlz f e H
theorem ZcJ{f e:Nat}:∀{H:Z00},Zlz f e H->∀o∈H,o.fam=f->o.sh+o.body.len<=e
 |[],_,o,h,_=>by cases h
 |x::H,h,o,ho,hf=>by
  rcases Y03.1 ho with rfl|ho
  · rcases h.1 with h1|h1
    ·exact absurd hf h1
    ·exact h1
  ·exact ZcJ h.2 o ho hf
theorem ZfM{f e:Nat}{H:Z00}(h:Zlz f e H):Z8s f e H=H:=ZfN (ZcJ h)
theorem apS{P Q:Prop}(q:Q)(h:ZdZ P Q:=by
 first
 |(with_reducible apply s1I (ZlG (by assumption) ?_));(any_goals (exact rfl));done
 |(with_reducible apply s1I (Zik (by assumption) ?_));(any_goals (exact rfl));done
 |(with_reducible apply s1I (Zgy (by assumption) ?_ ?_ ?_));(any_goals (exact rfl));(all_goals first|omega|(simp only[List.length_cons];omega))
 |(with_reducible apply s1I (ZbD (by assumption) ?_ ?_ (ZfM ?_) ?_ ?_ ?_ ?_));(any_goals (exact rfl));(all_goals first
  |assumption
  |omega
  |(simp only[List.length_cons];omega)
  |(simp[Zlz,ABody.len];done)|(simp[Zlz,ABody.len];omega)
  |(simp;done)|(simp;omega))):P:=h q
end Go.Abs
end
namespace Go.Proofs.YtpobjilfhkbhjaaDoor.lex
open Go.Abs Go.RowKit
section
variable {gl:Z0n}
theorem Zcs {P : Program} {t e : TypeId} {z b : Nat} {u : AV} {H : Z00} (ht : P.underlying t = some (.slice e)) (hz : tsz P e = some z) (hb : (P.info? e).map (·.bytes) = some b) (hu : Z1j P e = some u) (hul : u.cells.length = z) (hz0 : z ≠ 0) (n : Nat)
  (h:n<=1099511627776) (h2:b*n<=140737488355328):Z1d P t (.int .i64 n) (.int .i64 n) H=some (.slice H.length 0 n n z,Z0X H (Z3W n u.cells) e):=by
 cases hi:P.info? e with
 |none=>rw[hi]at hb;cases hb
 |some i =>
  rw[hi]at hb
  simp only[Y06,Option.some.injEq]at hb
  have h2':(b:Int)*(n:Int)<=140737488355328:=by
   have:((b*n:Nat):Int)<=((140737488355328:Nat):Int):=Int.ofNat_le.2 h2
   simpa using this
  simp only[Z1d,Z4g,ht,hz,hi,hb,hu]
  rw[if_pos ⟨by omega,by omega,by omega,h2'⟩]
  try simp only[Int.toNat_natCast]
  by_cases hn:n=0
  ·subst hn;simp[Z3W,Z0X]
  · have h0:¬(n*z=0):=λe=>by rcases Nat.mul_eq_zero.1 e with e|e;exact hn e;exact hz0 e
    rw[if_neg h0,if_pos hul]
def ZdC:AV->Bool
 | .bool _=>true
 | .int _ _=>true
 | .str _=>true
 | .rs _ _ _=>true
 |_=>false
theorem ZhV{H:Z00}{n:Nat}:∀{u:AV},ZdC u=true->frz H (n+1) u=some u
 | .bool _,_=>rfl
 | .int _ _,_=>rfl
 | .str _,_=>rfl
 | .rs _ _ _,_=>rfl
theorem Zad{H:Z00}{n:Nat}:∀{cs:List AV},cs.all ZdC=true->Z3o (frz H (n+1)) cs=some cs
 |[],_=>rfl
 |c::cs,h=>by
  simp only[List.all_cons,Y01]at h
  simp only[Z3o,ZhV h.1,Zad h.2]
theorem Zdz{H:Z00}{n b f sh len cap z:Nat}{cs:List AV}{ty:TypeId}(hH:H[b]? = some ⟨true,f,sh,.cells cs ty⟩)(hc:cs.length=len*z)(hl:cs.all ZdC=true):frz H (n+2) (.slice b 0 len cap z)=some (.rs len z cs):=by
 cases len with
 |zero =>
  have:cs=[]:=List.eq_nil_of_length_eq_zero (by omega)
  subst this;rfl
 |succ m =>
  have h2:Z3o (frz H (n+1)) cs=some cs:=Zad hl
  unfold frz
  simp only[hH,Y0z,Zc9 hc]
  rw[h2]
def ZdB:AV->Bool
 | .bool _=>true
 | .int _ _=>true
 | .str _=>true
 | .rs _ _ _=>true
 | .nslice=>true
 |_=>false
theorem ZeG:∀{u:AV}{acc:List Nat},ZdB u=true->Z0W u acc=acc
 | .bool _,_,_=>by simp only[Z0W]
 | .int _ _,_,_=>by simp only[Z0W]
 | .str _,_,_=>by simp only[Z0W]
 | .rs _ _ _,_,_=>by simp only[Z0W]
 | .nslice,_,_=>by simp only[Z0W]
theorem Z3X:∀{l:List AV}{acc:List Nat},l.all ZdB=true->refsL l acc=acc
 |[],_,_=>by simp only[refsL]
 |c::l,acc,h=>by
  simp only[List.all_cons,Y01]at h
  simp only[refsL,ZeG h.1,Z3X h.2]
theorem Zlt:∀{l:List AV},l.all ZdC=true->l.all ZdB=true:=by
 intro l h
 rw[Y0i]at h⊢
 intro u hu
 have:=h u hu
 cases u<;>simp_all[ZdC,ZdB]
theorem Z6G(z:List AV)(hz:z.all ZdB=true):∀n,(Z3W n z).all ZdB=true
 |0=>rfl
 |n+1=>by simp only[Z3W,Y0Q,hz,Z6G z hz n,Bool.and_true]
end
section
theorem msC {P : Program} {t e : TypeId} {z b : Nat} {u : AV} (ht : P.underlying t = some (.slice e)) (hz : tsz P e = some z) (hb : (P.info? e).map (·.bytes) = some b) (hu : Z1j P e = some u) (hul : u.cells.length = z) (hz0 : z ≠ 0) (n : Nat)
  (h:n<=1099511627776) (h2:b*n<=140737488355328):Z4g P t (.int .i64 n) (.int .i64 n)=some (Z3W n u.cells,e,z,n,n):=by
 cases hi:P.info? e with
 |none=>rw[hi]at hb;cases hb
 |some i =>
  rw[hi]at hb
  simp only[Y06,Option.some.injEq]at hb
  have h2':(b:Int)*(n:Int)<=140737488355328:=by
   have:((b*n:Nat):Int)<=((140737488355328:Nat):Int):=Int.ofNat_le.2 h2
   simpa using this
  simp only[Z4g,ht,hz,hi,hb,hu]
  rw[if_pos ⟨by omega,by omega,by omega,h2'⟩]
  by_cases hn:n=0
  ·subst hn;simp[Z3W]
  · have h0:¬(n*z=0):=λe=>by rcases Nat.mul_eq_zero.1 e with e|e;exact hn e;exact hz0 e
    simp only[Int.toNat_natCast]
    rw[if_neg h0,if_pos hul]
theorem Zld {P : Program} {ρ : Operand -> Option AV} {t e ty : TypeId} {z n : Nat} {zs : List AV} {d : Option Nat} {l : Operand} {p : String} {af : Array Edge} {gu : Option (Nat × Bool)} (h : Z4g P t (.int .i64 n) (.int .i64 n) = some (zs, e, z, n, n)) (hl : ρ l = some (.int .i64 n)) :
  Z0v P ρ { dst:=d,op:=.makeSlice t l l,type:=ty,pos:=p,after:=af,guard:=gu }=some (λb=>.slice b 0 n n z,.cells zs e):=by
 simp only[Z0v,hl,h]
end
end Go.Proofs.YtpobjilfhkbhjaaDoor.lex
section
namespace Go.Flat
structure Rs (nx:Nat->List Nat) (out:Nat->Bool) (stk:List Nat):Prop where
 zero:out 0=true
 rch:∀v,out v=true->Rch nx v
 mark:∀v∈stk,out v=true
 done:∀v,out v=true->v ∉ stk->∀w∈nx v,out w=true
structure Rm (nx:Nat->List Nat) (v k:Nat) (out:Nat->Bool) (stk:List Nat):Prop where
 zero:out 0=true
 rch:∀v,out v=true->Rch nx v
 mark:∀v∈stk,out v=true
 self:out v=true
 done:∀u,out u=true->u ∉ stk->u≠v->∀w∈nx u,out w=true
 part:∀j,j<k->∀w,(nx v)[j]? = some w->out w=true
theorem Rs.start(nx:Nat->List Nat):Rs nx (upd (λ_=>false) 0 true) [0]:=by
 refine⟨Z08 _ _ _,λv h=>?_,λv h=>?_,λv h hn=>?_⟩
 · by_cases e:v=0
   ·subst e;exact .zero
   ·rw[Z07 e]at h;cases h
 ·simp only[Y03,Y0B,or_false]at h;subst h;exact Z08 _ _ _
 · have e:v≠0:=λe=>hn (by simp[e])
   rw[Z07 e]at h;cases h
theorem Rs.pop{nx:Nat->List Nat}{out:Nat->Bool}{stk:List Nat}{v:Nat}(h:Rs nx out (v::stk)):Rm nx v 0 out stk :=
 ⟨h.zero,h.rch,λu hu=>h.mark u (by simp[hu]),h.mark v (by simp),λu hu hn hne=>h.done u hu (by simp[hne,hn]),λj hj=>absurd hj (Nat.not_lt_zero _)⟩
theorem Rm.old{nx:Nat->List Nat}{out:Nat->Bool}{stk:List Nat}{v k w:Nat}(h:Rm nx v k out stk)(hw:(nx v)[k]? = some w)(ho:out w=true):Rm nx v (k+1) out stk :=
 ⟨h.zero, h.rch, h.mark, h.self, h.done, fun j hj x hx => by
   by_cases e:j=k
   ·subst e;rw[hw]at hx;cases hx;exact ho
   ·exact h.part j (by omega) x hx⟩
theorem Rm.push{nx:Nat->List Nat}{out:Nat->Bool}{stk:List Nat}{v k w:Nat}(h:Rm nx v k out stk)(hw:(nx v)[k]? = some w):Rm nx v (k+1) (upd out w true) (w::stk):=by
 have up:∀x,out x=true->upd out w true x=true:=λx hx=>by
  by_cases e:x=w
  ·subst e;exact Z08 _ _ _
  ·rw[Z07 e];exact hx
 refine⟨up _ h.zero,λx hx=>?_,λx hx=>?_,up _ h.self,λu hu hn hne x hx=>?_,λj hj x hx=>?_⟩
 · by_cases e:x=w
   ·subst e;exact .next (h.rch v h.self) (Y0r hw)
   ·rw[Z07 e]at hx;exact h.rch x hx
 · rcases Y03.1 hx with rfl|hx
   ·exact Z08 _ _ _
   ·exact up _ (h.mark x hx)
 · have e:u≠w:=λe=>hn (by simp[e])
   rw[Z07 e]at hu
   exact up _ (h.done u hu (λhm=>hn (by simp[hm])) hne x hx)
 · by_cases e:j=k
   ·subst e;rw[hw]at hx;cases hx;exact Z08 _ _ _
   ·exact up _ (h.part j (by omega) x hx)
theorem Rm.fin{nx:Nat->List Nat}{out:Nat->Bool}{stk:List Nat}{v:Nat}(h:Rm nx v (nx v).length out stk):Rs nx out stk :=
 ⟨h.zero, h.rch, h.mark, fun u hu hn w hw => by
   by_cases e:u=v
   · subst e
     obtain⟨j,hj,rfl⟩:=List.getElem_of_mem hw
     exact h.part j hj _ (Y02 hj)
   ·exact h.done u hu hn e w hw⟩
theorem Rs.all{nx:Nat->List Nat}{out:Nat->Bool}(h:Rs nx out [])(v:Nat):out v=true ↔ Rch nx v:=by
 refine⟨h.rch v,λhv=>?_⟩
 induction hv with
 |zero=>exact h.zero
 |next hv hw ih=>exact h.done _ ih (by simp) _ hw
def Z39(n:Nat)(out:Nat->Bool)(stk:List Nat):Nat:=((List.range n).map λv=>if out v=true then 0 else 2).sum+stk.length
theorem Zfh{n:Nat}{out:Nat->Bool}{stk:List Nat}{v:Nat}:Z39 n out stk<Z39 n out (v::stk):=by simp only[Z39,Y0a];omega
theorem Zdt{n:Nat}{out:Nat->Bool}{stk:List Nat}{w:Nat}(hw:w<n)(ho:out w=false):Z39 n (upd out w true) (w::stk)<Z39 n out stk:=by
 have key:((List.range n).map λv=>if upd out w true v=true then 0 else 2).sum+1<((List.range n).map λv=>if out v=true then 0 else 2).sum:=by
  have:∀(l:List Nat),w∈l->((l.map λv=>if upd out w true v=true then 0 else 2).sum+1<(l.map λv=>if out v=true then 0 else 2).sum):=by
   have le:∀(l:List Nat),(l.map λv=>if upd out w true v=true then 0 else 2).sum<=(l.map λv=>if out v=true then 0 else 2).sum:=by
    intro l
    induction l with
    |nil=>simp
    |cons x l ih =>
     simp only[Y04,Y0t]
     have:(if upd out w true x=true then 0 else 2)<=(if out x=true then 0 else 2):=by
      by_cases e:x=w
      ·subst e;rw[Z08];simp
      ·rw[Z07 e];exact Y0e _
     omega
   intro l hl
   induction l with
   |nil=>cases hl
   |cons x l ih =>
    simp only[Y04,Y0t]
    by_cases e:x=w
    · subst e
      have:=le l
      rw[Z08,ho]
      simp only[if_true,Y0C,if_false]
      omega
    · have:=ih (by rcases Y03.1 hl with h|h;exact absurd h.symm e;exact h)
      rw[Z07 e]
      omega
  exact this _ (List.mem_range.2 hw)
 simp only[Z39,Y0a];omega
end Go.Flat
end
section
namespace Go.Abs
open Go.RowKit
section
open Classical
noncomputable def snO(sn:Z0f)(ι : Z0c)(H:Z00)(W:World):Z0f:=λa=>if ∃ (b:Nat) (o:AObj) (p:Place),H[b]? = some o/\o.alive=true /\ ι b=some p/\p.blk=a.block then W.cell? a else sn a
end
theorem Zkn{W:World}{a:Addr}{v:Value}(hv:W.cell? a=some v):a.block<W.heap.size:=by
 cases hq:W.heap[a.block]? with
 |none=>unfold World.cell? at hv;rw[hq]at hv;simp at hv
 |some ob=>exact (Array.getElem?_eq_some_iff.1 hq).1
end Go.Abs
end
section
namespace Go.Abs
open Go.RowKit
def ZlL(P:Program)(gl:Z0n)(k f:Nat)(args:List AV)(H:Z00)(r:AV)(H':Z00):Prop :=
 ∀(sn:Z0f)(ι : Z0c)(W:World)(cargs:List Value),GlOK gl sn->R sn ι H W->LR sn ι args cargs ->
  CallsY P f cargs.toArray W λe W'=>∃v sn' ι',e = .returned v/\VR sn' ι' r v/\Stq k sn ι H W sn' ι' H' W'
def Zk8(P:Program)(l:List ResultVar)(k:Nat)(r:AV)(N:Z00)(tm:Tr)(H:Z00):Prop :=
 onO (Z2i P tm H l) λvs=>∃m,ZgT k 0 m=true/\HpGe H m m N 0/\Z1h (m.map (Z0M H))=true/\Wk m (Z3y vs) r
theorem fn_memqR {rf : AV -> Array Tmp -> Code -> Code -> KN -> KX -> KN -> Tr -> Z00 -> Prop} {P : Program} {gl : Z0n} {orc : Orc} {k : Nat} (hrf : Zm4 P gl none k rf) (hm : P.follows .mixedOrders = true) (hn : NoNum P) (hO : OrcSound P gl orc) {f : Nat} {fn : Func} {c : Code} {args : List AV} {H0 N : Z00} {r : AV}
  (hf:P.funcs[f]? = some fn) (hc:fn.body=some c) {cw:CW} (hcw:ZaV P orc cw)
  (h:Z0s (tmk (Z7E args fn.ntmps args.length) (Z7C 20 fn.ntmps)) λtm=>Z1Q P gl orc cw ⟨Z5n k,rf⟩ c (Zk8 P fn.results.toList k r N) (λ_ _ _=>False) (Zk8 P fn.results.toList k r N) tm H0):ZlL P gl k f args H0 r N:=by
 intro sn ι W cargs hg hR ha
 rw[Z09]at h
 refine .inl (Z3P hf hc (Z1t (rd:=none) hrf hm hn hO hcw c h) hg hR ha (λ_ _ _ h=>h) λx tm1 H a1 W1 sn1 ι1 hx s1 t1=>?_)
 have key:Zk8 P fn.results.toList k r N tm1 H->∃v,(results fn a1.tmps).run P W1 = .ok v W1/\∃sn' ι',VR sn' ι' r v/\Stq k sn ι H0 W sn' ι' N W1:=by
  intro h
  obtain⟨us,h1,m,h0,h2,h3,h4⟩:=Z01 h
  obtain⟨vs,k1,k2⟩:=Z1l s1.rel t1 _ _ h1
  obtain⟨hS,_⟩:=Fg.sound (k:=k) (m:=m) (tm:=tm1) (tm2:=Z2k (λ_=>none) tm1) ⟨⟨λn u2 e=>(by have:=Z4T _ _ _ _ e;cases this),λn e=>(by rw[Z6g]at e;exact e)⟩,h2,h3,h0⟩ s1.rel t1
  exact⟨_,Z1U k2,sn1,iot m ι1,h4 _ _ _ (Z9T (fn:=fn) k1),s1.trans hS⟩
 cases x with
 |normal =>
  obtain⟨v,k1,sn',ι',k2,k3⟩:=key hx
  exact⟨v,k1,v,sn',ι',rfl,k2,k3⟩
 |exit id=>exact hx.elim
 |ret =>
  obtain⟨v,k1,sn',ι',k2,k3⟩:=key hx
  exact⟨v,k1,v,sn',ι',rfl,k2,k3⟩
theorem Zk7 {P : Program} {gl : Z0n} {orc : Orc} (hm : P.follows .mixedOrders = true) (hn : NoNum P) (hO : OrcSound P gl orc) {f k : Nat} {fn : Func} {c : Code} {args : List AV} {H0 N : Z00} {r : AV}
  (hf:P.funcs[f]? = some fn) (hc:fn.body=some c) {cw:CW} (hcw:ZaV P orc cw)
  (h:Z0s (tmk (Z7E args fn.ntmps args.length) (Z7C 20 fn.ntmps)) λtm=>Z1Q P gl orc cw (ZbU k) c (Zk8 P fn.results.toList k r N) (λ_ _ _=>False) (Zk8 P fn.results.toList k r N) tm H0):ZlL P gl k f args H0 r N :=
 fn_memqR (λ_ _ _ _ _ _ _ _ _ _ _ h=>h.elim) hm hn hO hf hc hcw h
theorem Zi2 {P : Program} {gl : Z0n} {orc : Orc} (isC : Nat -> Bool) (n : Nat) (hm : P.follows .mixedOrders = true) (hn : NoNum P) (hO : OrcSound P gl orc) {f k : Nat} {fn : Func} {c : Code} {args : List AV} {H0 N : Z00} {r : AV}
  (hf:P.funcs[f]? = some fn) (hc:fn.body=some c)
  (h:Z0s (tmk (Z7E args fn.ntmps args.length) (Z7C 20 fn.ntmps)) λtm=>Z1Q P gl (Ze2 P gl orc isC n) (ZiZ P gl orc isC n) (ZbU k) c (Zk8 P fn.results.toList k r N) (λ_ _ _=>False) (Zk8 P fn.results.toList k r N) tm H0):ZlL P gl k f args H0 r N :=
 Zk7 hm hn (Z84 hm hn hO n) hf hc (ZbX n) h
def Znv(m:List Nat)(σ : Nat->Nat)(k:Nat)(Hs:Z00):Nat->Z00->Z00
 |_,[]=>[]
 |i,o::H=>(match Z5f m i 0 with
  |some j=>if Nat.blt j k then (match Hs[j]? with
   |some o'=>{ o with alive:=o'.alive,body:=Z5i σ o'.body }
   |none=>o) else o.dead
  |none=>o)::Znv m σ k Hs (i+1) H
def Zfd(m fs:List Nat):Nat->Z00->Bool
 |_,[]=>true
 |i,o::H=>(mem i m || (!o.alive || !mem o.fam fs))&&Zfd m fs (i+1) H
theorem Za5{m fs:List Nat}:∀{H:Z00}{i j:Nat}{o:AObj},Zfd m fs i H=true->H[j]? = some o->o.alive=true->i+j∈m\/o.fam ∉ fs
 |[],i,j,o,h,e,_=>by simp at e
 |x::H,i,0,o,h,e,ha=>by
  simp only[Zfd,Y01,Y0k,Y0l]at h
  simp at e;subst e
  rcases h.1 with h1|h1|h1
  ·exact .inl (Z0S.1 h1)
  ·rw[ha]at h1;cases h1
  ·exact .inr λe=>by rw[Z0S.2 e]at h1;cases h1
 |x::H,i,j+1,o,h,e,ha=>by
  simp only[Zfd,Y01]at h
  have:=Za5 h.2 (by simpa using e) ha
  rcases this with h1|h1
  ·exact .inl (by rw[show i+(j+1)=i+1+j by omega];exact h1)
  ·exact .inr h1
end Go.Abs
end
section
namespace Go.Abs
open Go.RowKit
def Zka(d:Nat):Z00->Bool
 |[]=>true
 |o::H=>Nat.blt o.fam d&&Zka d H
theorem Z2T{d:Nat}:∀{H:Z00},Zka d H=true->∀o∈H,o.fam<d
 |[],_,o,h=>by cases h
 |x::H,h,o,ho=>by
  simp only[Zka,Y01]at h
  rcases Y03.1 ho with rfl|ho
  ·exact Z5Q h.1
  ·exact Z2T h.2 o ho
end Go.Abs
end
section
namespace Go.Abs
open Go.RowKit
mutual
def wkV:AV->AV->Bool
 | .nslice,.rs 0 _ []=>true
 | .agg a,.agg b=>wkVL a b
 | .rs n z a,.rs n' z' b=>Y0g n n'&&(Y0g z z'&&wkVL a b)
 | .rp a,.rp b=>wkVL a b
 |u,u2=>veq u u2
def wkVL:List AV->List AV->Bool
 |[],[]=>true
 |u::l,u2::l2=>wkV u u2&&wkVL l l2
 |_,_=>false
end
theorem Z8F:∀{l l2:List AV},wkVL l l2=true->l.length=l2.length
 |[],[],_=>rfl
 |u::l,u2::l2,h=>by simp only[wkVL,Y01]at h;simp[Z8F h.2]
 |[],_::_,h=>by simp[wkVL]at h
 |_::_,[],h=>by simp[wkVL]at h
mutual
theorem ZbW{sn:Z0f}{ι : Z0c}:∀(u u2:AV)(v:Value),wkV u u2=true->VR sn ι u v->VR sn ι u2 v
 | .agg a,.agg b,v,h,e=>by
  simp only[wkV]at h
  obtain⟨d,rfl,h1⟩:=e.agg
  exact Z4c (wkVL_LR a b _ h h1)
 | .rs n z a,.rs n' z' b,v,h,e=>by
  simp only[wkV,Y01]at h
  obtain⟨h1,h2,h3⟩:=h
  have:=Y09 h1;subst this
  have:=Y09 h2;subst this
  have hl:=Z8F h3
  simp only[VR]at e⊢
  rcases e with ⟨e1,rfl,e3⟩|⟨ad,cap,e1,e2,e3,e4,e5⟩
  ·exact .inl ⟨e1,by cases b with|nil=>rfl|cons _ _=>simp at hl,e3⟩
  ·exact .inr ⟨ad,cap,e1,e2,by rw[<- hl];exact e3,wkVL_MR a b _ _ h3 e4,e5⟩
 | .rp a,.rp b,v,h,e=>by
  simp only[wkV]at h
  simp only[VR]at e⊢
  obtain⟨bl,o,e1,e2⟩:=e
  exact⟨bl,o,e1,wkVL_MR a b _ _ h e2⟩
 |u,u2,v,h,e=>by
  by_cases hn:u = .nslice/\∃z,u2 = .rs 0 z []
  · obtain⟨rfl,z,rfl⟩:=hn
    exact Zlc e
  · have : veq u u2 = true \/ ((∃ a b, u = .agg a /\ u2 = .agg b) \/ (∃ n z a n' z' b, u = .rs n z a /\ u2 = .rs n' z' b) \/ (∃ a b, u = .rp a /\ u2 = .rp b)) := by
     unfold wkV at h
     split at h
     ·exact (hn ⟨rfl,_,rfl⟩).elim
     ·exact .inr (.inl ⟨_,_,rfl,rfl⟩)
     ·exact .inr (.inr (.inl ⟨_,_,_,_,_,_,rfl,rfl⟩))
     ·exact .inr (.inr (.inr ⟨_,_,rfl,rfl⟩))
     ·exact .inl h
    rcases this with h|⟨a,b,rfl,rfl⟩|⟨n,z,a,n',z',b,rfl,rfl⟩|⟨a,b,rfl,rfl⟩
    ·have:=Z6u _ _ h;subst this;exact e
    · simp only[wkV]at h
      obtain⟨d,rfl,h1⟩:=e.agg
      exact Z4c (wkVL_LR a b _ h h1)
    · simp only[wkV,Y01]at h
      obtain⟨h1,h2,h3⟩:=h
      have:=Y09 h1;subst this
      have:=Y09 h2;subst this
      have hl:=Z8F h3
      simp only[VR]at e⊢
      rcases e with ⟨e1,rfl,e3⟩|⟨ad,cap,e1,e2,e3,e4,e5⟩
      ·exact .inl ⟨e1,by cases b with|nil=>rfl|cons _ _=>simp at hl,e3⟩
      ·exact .inr ⟨ad,cap,e1,e2,by rw[<- hl];exact e3,wkVL_MR a b _ _ h3 e4,e5⟩
    · simp only[wkV]at h
      simp only[VR]at e⊢
      obtain⟨bl,o,e1,e2⟩:=e
      exact⟨bl,o,e1,wkVL_MR a b _ _ h e2⟩
theorem wkVL_LR{sn:Z0f}{ι : Z0c}:∀(l l2:List AV)(vs:List Value),wkVL l l2=true->LR sn ι l vs->LR sn ι l2 vs
 |[],[],vs,h,e=>e
 |u::l,u2::l2,vs,h,e=>by
  simp only[wkVL,Y01]at h
  simp only[LR]at e⊢
  obtain⟨d,ds,e1,e2,e3⟩:=e
  exact⟨d,ds,e1,ZbW u u2 d h.1 e2,wkVL_LR l l2 ds h.2 e3⟩
 |[],_::_,_,h,_=>by simp[wkVL]at h
 |_::_,[],_,h,_=>by simp[wkVL]at h
theorem wkVL_MR{sn:Z0f}:∀(l l2:List AV)(b o:Nat),wkVL l l2=true->MR sn l b o->MR sn l2 b o
 |[],[],b,o,h,e=>e
 |u::l,u2::l2,b,o,h,e=>by
  simp only[wkVL,Y01]at h
  simp only[MR]at e⊢
  obtain⟨⟨v,e1,e2⟩,e3⟩:=e
  exact⟨⟨v,e1,ZbW u u2 v h.1 e2⟩,wkVL_MR l l2 b (o+1) h.2 e3⟩
 |[],_::_,_,_,h,_=>by simp[wkVL]at h
 |_::_,[],_,_,h,_=>by simp[wkVL]at h
end
end Go.Abs
end
section
namespace Go.Proofs.YtpobjilfhkbhjaaDoor.lex
open Go.Abs Go.RowKit Go.Flat
variable {gl:Z0n}
def arr(f:Nat->AV)(n:Nat):List AV:=(List.range n).map f
theorem Z3R(f:Nat->AV)(n:Nat):(arr f n).length=n:=by simp[arr]
theorem Z7q(f:Nat->AV)(n k:Nat)(h:k<n):(arr f n)[k]? = some (f k):=by simp[arr,h]
theorem Z5R(f:Nat->AV){n k:Nat}(h:k<n){off:Nat}(e:off=k):tk 1 ((arr f n).drop off)=some [f k]:=by
 subst e;exact Zj6 (Z7q f n off h)
theorem ZlN:∀(cs:List AV)(k:Nat)(v:AV),k<cs.length->spl cs k [v]=some (cs.set k v)
 |c::cs,0,v,_=>by simp only[spl,List.set_cons_zero]
 |c::cs,k+1,v,h=>by simp only[spl,ZlN cs k v (by simpa using h),List.set_cons_succ]
theorem Z7p(f:Nat->AV){n k:Nat}(v:AV)(h:k<n){off:Nat}(e:off=k):spl (arr f n) off [v]=some (arr (upd f k v) n):=by
 subst e
 rw[ZlN _ _ _ (by rw[Z3R];exact h)]
 congr 1
 apply List.ext_getElem?
 intro i
 by_cases hi:i<n
 · rw[Z7q _ _ _ hi,List.getElem?_set,Z3R]
   by_cases e:off=i
   ·subst e;rw[if_pos rfl,if_pos hi,Z08]
   ·rw[if_neg e,Z7q _ _ _ hi,Z07 (λh=>e h.symm)]
 ·rw[Y0K (by rw[List.length_set,Z3R];omega),Y0K (by rw[Z3R];omega)]
theorem Z4P(z:AV)(n:Nat):Z3W n [z]=arr (λ_=>z) n:=by
 have h:∀n,Z3W n [z]=List.replicate n z:=by
  intro n
  induction n with
  |zero=>rfl
  |succ n ih=>simp only[Z3W,ih,List.replicate_succ];rfl
 rw[h]
 apply List.ext_getElem?
 intro i
 by_cases hi:i<n
 ·rw[Z7q _ _ _ hi];simp[hi]
 ·rw[Y0K (by simp;omega),Y0K (by rw[Z3R];omega)]
theorem Z57{f:Nat->AV}(h:∀k,Z0W (f k) []=[])(n:Nat):refsL (arr f n) []=[]:=by
 unfold arr
 induction List.range n with
 |nil=>rfl
 |cons k l ih=>simp only[Y04,refsL,h,ih]
theorem Zgw{f:Nat->AV}{p:AV->Bool}(h:∀k,p (f k)=true)(n:Nat):(arr f n).all p=true:=by
 simp[arr,h]
def nis(l:List Nat):List AV:=l.map λv:Nat=>AV.int .i64 v
theorem Z1e(l:List Nat):(nis l).length=l.length:=by simp[nis]
theorem Z3n(l:List Nat){k:Nat}(h:k<l.length){off:Nat}(e:off=k):tk 1 ((nis l).drop off)=some [.int .i64 (l[k]:Nat)]:=Zeh _ l k h e
theorem ZeU(l:List Nat):(nis l).all Go.Abs.one=true:=by simp[nis,Y0i,Go.Abs.one]
theorem Zhr(l:List Nat):(nis l).all ZdC=true:=by
 unfold nis
 induction l with
 |nil=>rfl
 |cons a l ih=>simp only[Y04,List.all_cons,ih,Bool.and_true];rfl
theorem Z0y(l:List Nat):refsL (nis l) []=[]:=Z3X (Zlt (Zhr l))
theorem Z6X(a b:List Nat):nis (a++b)=nis a++nis b:=by simp[nis]
theorem ZeV:∀{a b:List Nat},nis a=nis b->a=b
 |[],[],_=>rfl
 |[],_::_,h=>by simp[nis]at h
 |_::_,[],h=>by simp[nis]at h
 |x::a,y::b,h=>by
  simp only[nis,Y04,List.cons.injEq,AV.int.injEq,true_and]at h
  rw[show x=y by omega,ZeV (a:=a) (b:=b) h.2]
def Z3D(l:List Nat):AV:=.rs l.length 1 (nis l)
def Z75(l:List Ins)(v:Nat):Ins:=match l[v]? with|some i=>i|none=>⟨13,0,0,0,0,[]⟩
theorem Z2e{l:List Ins}{v:Nat}(h:v<l.length):Z75 l v=l[v]:=by simp[Z75,h]
def ZmS(i:Ins):Prop:=i.kind=10\/i.kind=11->0<=i.to/\i.to<=4611686018427387904
def nx8(i:Ins)(a:Nat):List Nat :=
 if i.kind=12\/i.kind=13 then [] else if i.kind=10 then [i.to.toNat] else if i.kind=11 then (if i.to.toNat<a+1 then [i.to.toNat,a+1] else if a+1<i.to.toNat then [a+1,i.to.toNat] else [a+1]) else [a+1]
theorem ZjC(i:Ins)(a w:Nat):w∈nx8 i a ↔ w∈nxI i a:=by
 unfold nx8 nxI
 by_cases h12:i.kind=12\/i.kind=13
 · have h1:¬i.kind=10:=by omega
   have h2:¬i.kind=11:=by omega
   rw[if_pos h12,if_neg h1,if_neg h2,if_pos h12]
 · rw[if_neg h12]
   by_cases h10:i.kind=10
   ·simp[h10]
   · rw[if_neg h10,if_neg h10]
     by_cases h11:i.kind=11
     · rw[if_pos h11,if_pos h11]
       split
       ·simp;omega
       · split
         ·simp
         · have:i.to.toNat=a+1:=by omega
           simp[this]
     ·rw[if_neg h11,if_neg h11,if_neg h12]
def nxL(l:List Ins)(v:Nat):List Nat:=nxI (Z75 l v) v
def Z0D(l:List Ins)(v:Nat):List Nat:=nx8 (Z75 l v) v
theorem ZaP{f g:Nat->List Nat}(h:∀v w,w∈f v->w∈g v){v:Nat}(hv:Rch f v):Rch g v:=by
 induction hv with
 |zero=>exact .zero
 |next hv hw ih=>exact .next ih (h _ _ hw)
theorem ZkI{f g:Nat->List Nat}(h:∀v w,w∈f v ↔ w∈g v)(v:Nat):Rch f v ↔ Rch g v:=⟨ZaP λv w=>(h v w).1,ZaP λv w=>(h v w).2⟩
theorem Zcq(l:List Ins)(v w:Nat):w∈Z0D l v ↔ w∈nxL l v:=ZjC _ _ _
structure Good (l:List Ins):Prop where
 pos:0<l.length
 few:l.length<=4000
 to:∀v,v<l.length->ZmS (Z75 l v)
 nx:∀v,v<l.length->∀w∈nxL l v,w<l.length
theorem Good.lt{l:List Ins}(h:Good l){v:Nat}(hv:Rch (nxL l) v):v<l.length:=by
 induction hv with
 |zero=>exact h.pos
 |next hv hw ih=>exact h.nx _ ih _ hw
end Go.Proofs.YtpobjilfhkbhjaaDoor.lex
end
section
namespace Go.Abs
open Go.RowKit
def ZeM(fs:List Nat)(H:Z00):Z00:=kil (λ_ o=>!mem o.fam fs) 0 H
def WkZ(fs:List Nat)(H:Z00)(m:List Nat)(u u2:AV):Prop:=Wk m u u2\/frz (ZeM fs H) 30 u=some u2
def Z3U(fs:List Nat)(H:Z00)(m:List Nat):ABody->ABody->Prop
 | .cells cs ty,.cells cs2 ty2=>ty=ty2/\cs2.length<=cs.length/\∀(i:Nat)(c2:AV),cs2[i]? = some c2->∃c,cs[i]? = some c/\WkZ fs H m c c2
 |b,b2=>BodyGe m b b2
theorem BodyGe.z{fs:List Nat}{H:Z00}{m:List Nat}{b b2:ABody}(h:BodyGe m b b2):Z3U fs H m b b2:=by
 unfold Z3U
 split
 · obtain⟨h1,h2,h3⟩:=h
   exact⟨h1,h2,λi c2 hc=>let ⟨c,e1,e2⟩:=h3 i c2 hc;⟨c,e1,.inl e2⟩⟩
 ·exact h
end Go.Abs
end
section
namespace Go.Abs
open Go.RowKit
def sgE(k d:Nat)(b:Nat):Nat:=if b<k then b else d+(b-k)
def Z7S(k:Nat)(σ : Nat->Nat)(Hs:Z00):Nat->Z00->Z00
 |_,[]=>[]
 |i,o::H=>(if Nat.blt i k then (match Hs[i]? with
  |some o'=>{ o with alive:=o'.alive,body:=Z5i σ o'.body }
  |none=>o) else o.dead)::Z7S k σ Hs (i+1) H
theorem Zc5 (k : Nat) (σ : Nat -> Nat) (Hs : Z00) : ∀ (H : Z00) (i b : Nat), (Z7S k σ Hs i H)[b]? = (H[b]?).map fun o => if Nat.blt (i + b) k then (match Hs[i + b]? with
  |some o'=>{ o with alive:=o'.alive,body:=Z5i σ o'.body }
  |none=>o) else o.dead
 |[],i,b=>by simp[Z7S]
 |o::H,i,0=>by
  simp only[Z7S,Y0O,Y06,Nat.add_zero]<;>rfl
 |o::H,i,b+1=>by
  simp only[Z7S,Y0w]
  rw[Zc5 k σ Hs H (i+1) b,show i+1+b=i+(b+1) by omega]
theorem Zc4(k:Nat)(σ : Nat->Nat)(Hs:Z00):∀(H:Z00)(i:Nat),(Z7S k σ Hs i H).length=H.length
 |[],i=>rfl
 |o::H,i=>by simp only[Z7S,Y0a,Zc4 k σ Hs H (i+1)]
def shE(σ : Nat->Nat):Z00->Z00
 |[]=>[]
 |o::H=>{ o with body:=Z5i σ o.body }::shE σ H
theorem Zev(σ : Nat->Nat):∀(H:Z00)(b:Nat),(shE σ H)[b]? = (H[b]?).map λo=>{ o with body:=Z5i σ o.body }
 |[],b=>by simp[shE]
 |o::H,0=>rfl
 |o::H,b+1=>by simp only[shE,Y0w];exact Zev σ H b
theorem Zb7(σ : Nat->Nat):∀H:Z00,(shE σ H).length=H.length
 |[]=>rfl
 |o::H=>by simp only[shE,Y0a,Zb7 σ H]
theorem Zdq {P : Program} {gl : Z0n} {f k : Nat} {Hs Hs' : Z00} {args : List AV} {r : AV} (hM : ZlL P gl k f args Hs r Hs') (hk : k <= Hs.length) (hk' : k <= Hs'.length)
  (hg2:∀(i:Nat)(o:AObj),Hs'[i]? = some o->o.fam=i/\o.alive=true/\Z0G Hs'.length (Z2M o.body [])=true) (hs0:∀(i:Nat)(o:AObj),Hs[i]? = some o->o.alive=true/\o.fam=i)
  (hrk:Z0G Hs'.length (Z0W r [])=true) :
  Z1N P gl f args Hs (ren (sgE k Hs.length) r) (Z7S k (sgE k Hs.length) Hs' 0 Hs++shE (sgE k Hs.length) (Hs'.drop k)):=by
 intro sn ι W vargs hg hR hla
 refine (hM sn ι W vargs hg hR hla).mono ?_
 rintro e W' ⟨v,sn',ι',rfl,hv,hst⟩
 generalize hd:Hs.length=d at *
 let κ : Z0c:=λb=>if b<d then ι b else ι' (k+(b-d))
 have k1:∀b,b<d -> κ b = ι b:=λb hb=>if_pos hb
 have k2:∀b,d<=b -> κ b = ι' (k+(b-d)):=λb hb=>by show (if b<d then ι b else ι' (k+(b-d)))=_;rw[if_neg (by omega)]
 have hkeep:∀b p,b<k -> ι' b=some p -> ι b=some p:=λb p hb hp=>by
  obtain⟨q,hq⟩:=(hR.dom b).1 (by omega)
  have:=hst.keep b q hb hq
  rw[hp]at this;cases this;exact hq
 have hback:∀i,i<Hs'.length->∀p,ι' i=some p -> κ (sgE k d i)=some p:=λi hi p hp=>by
  unfold sgE
  by_cases hik:i<k
  ·rw[if_pos hik,k1 i (by omega)];exact hkeep i p hik hp
  ·rw[if_neg hik,k2 _ (by omega),show k+(d+(i-k)-d)=i by omega];exact hp
 have hlen:(Z7S k (sgE k d) Hs' 0 Hs).length=d:=by rw[Zc4,hd]
 have hget : ∀ (b : Nat) (o' : AObj) (p : Place), (Z7S k (sgE k d) Hs' 0 Hs ++ shE (sgE k d) (Hs'.drop k))[b]? = some o' -> κ b = some p ->
   (b<d /\ ι b=some p/\∃o,Hs[b]? = some o/\o'.fam=o.fam/\o'.sh=o.sh/\(o'.alive=true->∃x,b<k/\Hs'[b]? = some x/\o'.body=Z5i (sgE k d) x.body/\x.alive=true /\ ι' b=some p)) \/
   (d<=b /\ ι' (k+(b-d))=some p/\∃x,Hs'[k+(b-d)]? = some x/\o'={ x with body:=Z5i (sgE k d) x.body }):=by
  intro b o' p hb hp
  by_cases hlt:b<d
  · rw[Y0u (by omega)]at hb
    rw[k1 b hlt]at hp
    refine .inl ⟨hlt,hp,?_⟩
    rw[Zc5]at hb
    simp only[Y0q]at hb
    cases hx:Hs[b]? with
    |none=>rw[hx]at hb;cases hb
    |some o =>
     rw[hx]at hb
     simp only[Y06,Option.some.injEq]at hb
     refine⟨o,rfl,?_⟩
     by_cases hbk:b<k
     · have hi':b<Hs'.length:=by omega
       simp only[Nat.blt_eq,hbk,Y02 hi',if_true]at hb
       subst hb
       exact⟨rfl,rfl,λh=>⟨Hs'[b],hbk,Y02 hi',rfl,h,hst.keep b p hbk hp⟩⟩
     · simp only[Nat.blt_eq,hbk,if_false]at hb
       subst hb
       exact⟨rfl,rfl,λh=>by simp[AObj.dead]at h⟩
  · rw[List.getElem?_append_right (by omega),hlen,Zev,Y0J]at hb
    rw[k2 b (by omega)]at hp
    cases hx:Hs'[k+(b-d)]? with
    |none=>rw[hx]at hb;cases hb
    |some x =>
     rw[hx]at hb
     simp only[Y06,Option.some.injEq]at hb
     exact .inr ⟨by omega,hp,x,rfl,hb.symm⟩
 have hR':R sn' κ (Z7S k (sgE k d) Hs' 0 Hs++shE (sgE k d) (Hs'.drop k)) W':=by
  refine⟨λb=>⟨λhb=>?_,λ⟨p,hp⟩=>?_⟩,λb p hp=>?_,λb o' p hb ha hp=>?_,λb b' o o' p p' hb hb' ha ha' hp hp' e=>?_,λa v hv=>?_,λb o' p hb hp e=>?_⟩
  · simp only[Y0s,hlen,Zb7,Y0D]at hb
    by_cases hlt:b<d
    ·rw[k1 b hlt];exact (hR.dom b).1 (by omega)
    ·rw[k2 b (by omega)];exact (hst.rel.dom _).1 (by omega)
  · simp only[Y0s,hlen,Zb7,Y0D]
    by_cases hlt:b<d
    ·omega
    · rw[k2 b (by omega)]at hp
      have:=(hst.rel.dom _).2 ⟨p,hp⟩;omega
  · by_cases hlt:b<d
    ·rw[k1 b hlt]at hp;exact Y0x (hR.blk b p hp) hst.size
    ·rw[k2 b (by omega)]at hp;exact hst.rel.blk _ p hp
  · rcases hget b o' p hb hp with ⟨b1,b2,o,b3,b4,b5,b6⟩|⟨b1,b2,x,b3,rfl⟩
    · obtain⟨x,c1,c2,c3,c4,c5⟩:=b6 ha
      rw[c3]
      exact ZaQ x.body (Z4z x.body p (λy hy=>hback y (Z19 (hg2 b x c2).2.2 y hy)) (hst.rel.obj b x p c2 c4 c5))
    ·exact ZaQ x.body (Z4z x.body p (λy hy=>hback y (Z19 (hg2 _ x b3).2.2 y hy)) (hst.rel.obj _ x p b3 (hg2 _ x b3).2.1 b2))
  · rcases hget b o p hb hp with ⟨b1,b2,x,b3,b4,b5,b6⟩|⟨b1,b2,x,b3,rfl⟩<;>rcases hget b' o' p' hb' hp' with ⟨c1,c2,y,c3,c4,c5,c6⟩|⟨c1,c2,y,c3,rfl⟩
    · rw[b4,b5,c4,c5]
      exact hR.sep b b' x y p p' b3 c3 (hs0 b x b3).1 (hs0 b' y c3).1 b2 c2 e
    · exfalso
      obtain⟨z,d1,d2,d3,d4,d5⟩:=b6 ha
      have:=(hst.rel.sep b _ z y p p' d2 c3 d4 (hg2 _ y c3).2.1 d5 c2 e).1
      rw[(hg2 b z d2).1,(hg2 _ y c3).1]at this;omega
    · exfalso
      obtain⟨z,d1,d2,d3,d4,d5⟩:=c6 ha'
      have:=(hst.rel.sep _ b' x z p p' b3 d2 (hg2 _ x b3).2.1 d4 b2 d5 e).1
      rw[(hg2 b' z d2).1,(hg2 _ x b3).1]at this;omega
    ·exact hst.rel.sep _ _ x y p p' b3 c3 (hg2 _ x b3).2.1 (hg2 _ y c3).2.1 b2 c2 e
  · obtain⟨h1,h2,h3⟩:=hst.rel.snap a v hv
    refine⟨h1,h2,λb o' p hb ha hp=>?_⟩
    rcases hget b o' p hb hp with ⟨b1,b2,o,b3,b4,b5,b6⟩|⟨b1,b2,x,b3,rfl⟩
    · obtain⟨x,c1,c2,c3,c4,c5⟩:=b6 ha
      exact h3 b x p c2 c4 c5
    ·exact h3 _ x p b3 (hg2 _ x b3).2.1 b2
  · rcases hget b o' p hb hp with ⟨b1,b2,o,b3,b4,b5,b6⟩|⟨b1,b2,x,b3,rfl⟩
    ·exact hR.shz b o p b3 b2 (by rw[<- b5];exact e)
    ·exact hst.rel.shz _ x p b3 b2 e
 refine⟨v,sn',κ,rfl,?_,hR',⟨hst.le,λb p hb=>?_⟩,λb p hp=>?_,hst.frame,hst.size,hst.os,hst.tape,hst.output,hst.sfresh,λb o hb=>?_⟩
 ·exact (Z5d r v).2 (Z1m r [] v (λy hy=>hback y (Z19 hrk y hy)) hv)
 ·rw[k1 b (by have:=(hR.dom b).2 ⟨p,hb⟩;omega)];exact hb
 · by_cases hlt:b<d
   ·rw[k1 b hlt]at hp;exact .inl hp
   · rw[k2 b (by omega)]at hp
     obtain⟨x,hx⟩:∃x,Hs'[k+(b-d)]? = some x:=⟨_,Y02 ((hst.rel.dom _).2 ⟨p,hp⟩)⟩
     rcases hst.fresh _ _ p hx (hg2 _ _ hx).2.1 hp with h|h
     ·exact .inr (.inl h)
     ·exact .inr (.inr h)
 · have hb':b<(Z7S k (sgE k d) Hs' 0 Hs).length:=by rw[hlen,<- hd];exact (Y05.1 hb).1
   have hx:=Y02 hb'
   obtain⟨p,hp⟩:=hR.place hb
   have hbd:b<d:=by omega
   rcases hget b _ p (by rw[Y0u hb'];exact hx) (by rw[k1 b hbd];exact hp)with ⟨b1,b2,o2,b3,b4,b5,b6⟩|⟨b1,_⟩
   · rw[hb]at b3;cases b3
     exact⟨_,by rw[Y0u hb'];exact hx,b4,b5,λ_=>(hs0 b o hb).1⟩
   ·omega
end Go.Abs
end
section
namespace Go.Abs
open Go.RowKit
def sgS(m:List Nat)(d:Nat)(b:Nat):Nat:=if b<m.length then m.getD b 0 else d+(b-m.length)
def Z9K(m:List Nat)(σ : Nat->Nat)(Hs:Z00):Nat->Z00->Z00
 |_,[]=>[]
 |i,o::H=>(match Z5f m i 0 with
  |some j=>match Hs[j]? with
   |some o'=>{ o with alive:=o'.alive,body:=Z5i σ o'.body }
   |none=>o
  |none=>o)::Z9K m σ Hs (i+1) H
theorem Zc2 (m : List Nat) (σ : Nat -> Nat) (Hs : Z00) : ∀ (H : Z00) (i b : Nat), (Z9K m σ Hs i H)[b]? = (H[b]?).map fun o => match Z5f m (i + b) 0 with
  |some j=>match Hs[j]? with
   |some o'=>{ o with alive:=o'.alive,body:=Z5i σ o'.body }
   |none=>o
  |none=>o
 |[],i,b=>by simp[Z9K]
 |o::H,i,0=>by
  simp only[Z9K,Y0O,Y06,Nat.add_zero]<;>rfl
 |o::H,i,b+1=>by
  simp only[Z9K,Y0w]
  rw[Zc2 m σ Hs H (i+1) b,show i+1+b=i+(b+1) by omega]
theorem Zc1(m:List Nat)(σ : Nat->Nat)(Hs:Z00):∀(H:Z00)(i:Nat),(Z9K m σ Hs i H).length=H.length
 |[],i=>rfl
 |o::H,i=>by simp only[Z9K,Y0a,Zc1 m σ Hs H (i+1)]
def shS(σ : Nat->Nat):Nat->Z00->Z00
 |_,[]=>[]
 |n,o::H=>⟨o.alive,n,o.sh,Z5i σ o.body⟩::shS σ (n+1) H
theorem Zeu(σ : Nat->Nat):∀(H:Z00)(n b:Nat),(shS σ n H)[b]? = (H[b]?).map λo=>⟨o.alive,n+b,o.sh,Z5i σ o.body⟩
 |[],n,b=>by simp[shS]
 |o::H,n,0=>rfl
 |o::H,n,b+1=>by
  simp only[shS,Y0w]
  rw[Zeu σ H (n+1) b,show n+1+b=n+(b+1) by omega]
theorem Zb6(σ : Nat->Nat):∀(H:Z00)(n:Nat),(shS σ n H).length=H.length
 |[],n=>rfl
 |o::H,n=>by simp only[shS,Y0a,Zb6 σ H (n+1)]
def Z7g:Z00->List Nat
 |[]=>[]
 |o::H=>cond o.alive (o.fam::Z7g H) (Z7g H)
theorem Z7f:∀{H:Z00}{i:Nat}{o:AObj},H[i]? = some o->o.alive=true->mem o.fam (Z7g H)=true
 |[],i,o,h,_=>by simp at h
 |x::H,0,o,h,ha=>by
  simp at h;subst h
  simp only[Z7g,ha,cond_true]
  exact Z0S.2 (List.mem_cons_self ..)
 |x::H,i+1,o,h,ha=>by
  have:=Z0S.1 (Z7f (H:=H) (by simpa using h) ha)
  unfold Z7g
  cases x.alive
  ·exact Z0S.2 this
  ·exact Z0S.2 (List.mem_cons_of_mem _ this)
theorem Z4Z:∀{H:Z00}{i j:Nat}{o o':AObj},Z1h (Z7g H)=true->H[i]? = some o->H[j]? = some o'->o.alive=true->o'.alive=true->o.fam=o'.fam->i=j
 |[],i,j,o,o',h,e,_,_,_,_=>by simp at e
 |x::H,i,j,o,o',h,e,e',ha,ha',hf=>by
  have hn:Z1h (Z7g H)=true:=by
   unfold Z7g at h
   cases hx:x.alive
   ·rw[hx]at h;exact h
   · rw[hx]at h
     simp only[cond_true,Z1h,Y01]at h
     exact h.2
  have hx:x.alive=true->mem x.fam (Z7g H)=false:=λhx=>by
   unfold Z7g at h
   rw[hx]at h
   simp only[cond_true,Z1h,Y01,Y0l]at h
   exact h.1
  cases i with
  |zero =>
   cases j with
   |zero=>rfl
   |succ j =>
    simp at e e';subst e
    have:=Z7f e' ha'
    rw[<- hf,hx ha]at this;cases this
  |succ i =>
   cases j with
   |zero =>
    simp at e e';subst e'
    have:=Z7f e ha
    rw[hf,hx ha']at this;cases this
   |succ j =>
    simp at e e'
    rw[Z4Z hn e e' ha ha' hf]
theorem Z71 {P : Program} {gl : Z0n} {f : Nat} {Hs Hs' Hc : Z00} {fargs cargs : List AV} {r : AV} {m : List Nat} (hM : Z1N P gl f fargs Hs r Hs') (hargs : Wk m (.tuple cargs) (.tuple fargs)) (hsub : HpGe Hc m m Hs 0)
  (hnd:Z1h (m.map (Z0M Hc))=true) (hlone:Zfd m (m.map (Z0M Hc)) 0 Hc=true) (hnA:Z1h (Z7g Hs')=true) (hF:∀o∈Hc,o.fam<Hc.length)
  (hg2:∀(i:Nat)(o:AObj),Hs'[i]? = some o->Z0G Hs'.length (Z2M o.body [])=true) (hrk:Z0G Hs'.length (Z0W r [])=true) :
  Z1N P gl f cargs Hc (ren (sgS m Hc.length) r) (Z9K m (sgS m Hc.length) Hs' 0 Hc++shS (sgS m Hc.length) Hc.length (Hs'.drop m.length)):=by
 intro sn ι W vargs hg hR hl
 obtain⟨hl1,hg1⟩:=hsub.get
 have inm:∀b,b∈m->∃ (i:Nat) (o o2:AObj) (p:Place),m[i]? = some b/\Hc[b]? = some o/\Hs[i]? = some o2/\o.alive=true/\o2.alive=true /\ ι b=some p/\o2.sh=o.sh:=by
  intro b hb
  obtain⟨i,hi,rfl⟩:=List.mem_iff_getElem.1 hb
  obtain⟨j,o,o2,x1,x2,x3,x4,x5,_,x7,_⟩:=hg1 i hi
  rw[Y02 hi]at x1
  cases x1
  obtain⟨p,hp⟩:=hR.place x2
  exact⟨i,o,o2,p,Y02 hi,x2,x3,x4,x5,hp,x7⟩
 have apart_:∀(b:Nat)(o:AObj)(p:Place),Hc[b]? = some o->o.alive=true->b ∉ m -> ι b=some p->∀b' p',b'∈m -> ι b'=some p'->p'.blk≠p.blk:=by
  intro b o p ho hoa hb hp b' p' hb' hp' e
  obtain⟨i,o',o2,q,y1,y2,y3,y4,y5,y6,_⟩:=inm b' hb'
  have hs:=hR.sep b b' o o' p p' ho y2 hoa y4 hp hp' e.symm
  rcases Za5 hlone ho hoa with h|h
  ·exact hb (by simpa using h)
  · refine h ?_
    rw[List.mem_map]
    exact⟨b',hb',by simp only[Z0M,y2];exact hs.1.symm⟩
 have hRs:R sn (iot m ι) Hs W:=Zl3 hsub hnd hR
 have atm:∀{i:Nat}{p:Place},iot m ι i=some p->∃b,m[i]? = some b/\b∈m /\ ι b=some p:=λ{i p} hp=>by
  unfold iot at hp
  split at hp
  ·rename_i b hb;exact⟨b,hb,Y0r hb,hp⟩
  ·cases hp
 have hla:LR sn (iot m ι) fargs vargs:=by
  have h1:VR sn ι (.tuple cargs) (.tuple vargs.toArray):=by simp only[VR];exact⟨_,rfl,by simpa using hl⟩
  have h2:=hargs _ _ _ h1
  simp only[VR]at h2
  obtain⟨d,e1,e2⟩:=h2
  simp at e1;subst e1;simpa using e2
 refine (hM sn (iot m ι) W vargs hg hRs hla).mono ?_
 rintro e W' ⟨v,sn',ι',rfl,hv,hst⟩
 generalize hd:Hc.length=d at *
 generalize hk:m.length=k at *
 have hk':k<=Hs'.length:=by
  rcases Nat.eq_zero_or_pos k with h|h
  ·omega
  · have:=(Y05.1 (hst.evo (k-1) _ (Y02 (by omega))).choose_spec.1).1
    omega
 let κ : Z0c:=λb=>if b<d then ι b else ι' (k+(b-d))
 have k1:∀b,b<d -> κ b = ι b:=λb hb=>if_pos hb
 have k2:∀b,d<=b -> κ b = ι' (k+(b-d)):=λb hb=>by show (if b<d then ι b else ι' (k+(b-d)))=_;rw[if_neg (by omega)]
 have mLt:∀{i b:Nat},m[i]? = some b->b<d:=λ{i b} h=>by
  obtain⟨_,o,_,p,_,y2,_⟩:=inm b (Y0r h)
  rw[<- hd];exact (Y05.1 y2).1
 have hfwd:∀(i b:Nat)(p:Place),m[i]? = some b -> ι b=some p -> ι' i=some p:=λi b p hb hp=>hst.le.ι i p (by simp only[iot,hb];exact hp)
 have hback:∀i,i<Hs'.length->∀p,ι' i=some p -> κ (sgS m d i)=some p:=λi hi p hp=>by
  unfold sgS
  rw[hk]
  by_cases hik:i<k
  · obtain⟨b,hb⟩:∃b,m[i]? = some b:=⟨m[i],Y02 (by omega)⟩
    obtain⟨q,hq⟩:=(hR.dom b).1 (by rw[hd];exact mLt hb)
    have:=hfwd i b q hb hq
    rw[hp]at this;cases this
    rw[if_pos hik,Y0h,hb]
    show κ b=some p
    rw[k1 b (mLt hb)];exact hq
  ·rw[if_neg hik,k2 _ (by omega),show k+(d+(i-k)-d)=i by omega];exact hp
 have pos_:∀b,b∈m->∃i,Z5f m b 0=some i/\m[i]? = some b:=λb hb=>by
  cases hx:Z5f m b 0 with
  |none=>exact (Z6L hx hb).elim
  |some i=>exact⟨i,rfl,by simpa using (Z2N hx).2⟩
 have hlen:(Z9K m (sgS m d) Hs' 0 Hc).length=d:=by rw[Zc1,hd]
 have hnr:∀c,c<W.heap.size->(∀(b:Nat)(o:AObj) p,Hc[b]? = some o->o.alive=true -> ι b=some p->p.blk≠c)->W'.heap[c]? = W.heap[c]?:=λc hc hno=>by
  refine hst.frame c hc λi o2 p2 hi ha hp2 e=>?_
  obtain⟨b,_,hb,hp3⟩:=atm hp2
  obtain⟨_,o,_,_,_,y2,_,y4,_⟩:=inm b hb
  exact hno b o p2 y2 y4 hp3 e
 have old:∀(b:Nat)(o:AObj)(p:Place),Hc[b]? = some o->o.alive=true->b ∉ m -> ι b=some p->W'.heap[p.blk]? = W.heap[p.blk]?:=λb o p ho hoa hb hp=>by
  refine hst.frame _ (hR.blk b p hp) λi o2 p2 hi ha hp2 e=>?_
  obtain⟨c,_,hc,hp3⟩:=atm hp2
  exact apart_ b o p ho hoa hb hp c p2 hc hp3 e
 have new_:∀(j:Nat)(x:AObj)(p:Place),Hs'[j]? = some x->x.alive=true->k<=j -> ι' j=some p->∀(b:Nat)(o:AObj)(q:Place),Hc[b]? = some o->o.alive=true->b ∉ m -> ι b=some q->q.blk≠p.blk:=by
  intro j x p hj hja hkj hp b o q ho hoa hb hq e
  rcases hst.fresh j p hp with h|h|⟨b0,o0,p0,e1,e2,e3,e4⟩
  · obtain⟨c,hc,_⟩:=atm h
    have:=(Y05.1 hc).1;omega
  ·have:=hR.blk b q hq;omega
  · obtain⟨c,_,hc,hp3⟩:=atm e3
    exact apart_ b o q ho hoa hb hq c p0 hc hp3 (e4.trans e.symm)
 have hget : ∀ (b : Nat) (o' : AObj) (p : Place), (Z9K m (sgS m d) Hs' 0 Hc ++ shS (sgS m d) d (Hs'.drop k))[b]? = some o' -> κ b = some p ->
   (b<d /\ ι b=some p/\∃o,Hc[b]? = some o/\o'.fam=o.fam/\o'.sh=o.sh/\((b ∉ m/\o'=o)\/∃i x,m[i]? = some b/\i<k/\Hs'[i]? = some x/\o'.alive=x.alive/\o'.body=Z5i (sgS m d) x.body/\o.alive=true /\ ι' i=some p)) \/
   (d<=b /\ ι' (k+(b-d))=some p/\∃x,Hs'[k+(b-d)]? = some x/\o'=⟨x.alive,b,x.sh,Z5i (sgS m d) x.body⟩):=by
  intro b o' p hb hp
  by_cases hlt:b<d
  · rw[Y0u (by omega)]at hb
    rw[k1 b hlt]at hp
    refine .inl ⟨hlt,hp,?_⟩
    rw[Zc2]at hb
    simp only[Y0q]at hb
    cases hx:Hc[b]? with
    |none=>rw[hx]at hb;cases hb
    |some o =>
     rw[hx]at hb
     simp only[Y06,Option.some.injEq]at hb
     refine⟨o,rfl,?_⟩
     by_cases hbm:b∈m
     · obtain⟨i,h1,h2⟩:=pos_ b hbm
       have hi:i<k:=by rw[<- hk];exact (Y05.1 h2).1
       have hi':i<Hs'.length:=by omega
       rw[h1]at hb
       simp only[Y02 hi']at hb
       subst hb
       obtain⟨_,y,_,_,_,y2,_,y4,_⟩:=inm b hbm
       rw[hx]at y2;cases y2
       exact⟨rfl,rfl,.inr ⟨i,Hs'[i],h2,hi,Y02 hi',rfl,rfl,y4,hfwd i b p h2 hp⟩⟩
     · have hn : Z5f m b 0 = none := by
        cases hx:Z5f m b 0 with
        |none=>rfl
        |some i=>exact (hbm (Y0r (Z2N hx).2)).elim
       rw[hn]at hb
       subst hb
       exact⟨rfl,rfl,.inl ⟨hbm,rfl⟩⟩
  · rw[List.getElem?_append_right (by omega),hlen,Zeu,Y0J]at hb
    rw[k2 b (by omega)]at hp
    cases hx:Hs'[k+(b-d)]? with
    |none=>rw[hx]at hb;cases hb
    |some x =>
     rw[hx]at hb
     simp only[Y06,Option.some.injEq]at hb
     exact .inr ⟨by omega,hp,x,rfl,by rw[<- hb,show d+(b-d)=b by omega]⟩
 have hal:∀{b:Nat}{o o':AObj}{p:Place},((b ∉ m/\o'=o)\/∃i x,m[i]? = some b/\i<k/\Hs'[i]? = some x/\o'.alive=x.alive/\o'.body=Z5i (sgS m d) x.body/\o.alive=true /\ ι' i=some p)->o'.alive=true->o.alive=true:=λ{b o o' p} h ha=>by
  rcases h with ⟨_,rfl⟩|⟨_,_,_,_,_,_,_,h,_⟩
  ·exact ha
  ·exact h
 have hR':R sn' κ (Z9K m (sgS m d) Hs' 0 Hc++shS (sgS m d) d (Hs'.drop k)) W':=by
  refine⟨λb=>⟨λhb=>?_,λ⟨p,hp⟩=>?_⟩,λb p hp=>?_,λb o' p hb ha hp=>?_,λb b' o o' p p' hb hb' ha ha' hp hp' e=>?_,λa v hv=>?_,λb o' p hb hp e=>?_⟩
  · simp only[Y0s,hlen,Zb6,Y0D]at hb
    by_cases hlt:b<d
    ·rw[k1 b hlt];exact (hR.dom b).1 (by omega)
    ·rw[k2 b (by omega)];exact (hst.rel.dom _).1 (by omega)
  · simp only[Y0s,hlen,Zb6,Y0D]
    by_cases hlt:b<d
    ·omega
    · rw[k2 b (by omega)]at hp
      have:=(hst.rel.dom _).2 ⟨p,hp⟩;omega
  · by_cases hlt:b<d
    ·rw[k1 b hlt]at hp;exact Y0x (hR.blk b p hp) hst.size
    ·rw[k2 b (by omega)]at hp;exact hst.rel.blk _ p hp
  · rcases hget b o' p hb hp with ⟨b1,b2,o,b3,b4,b5,⟨b6,rfl⟩|⟨i,x,c1,c2,c3,c4,c5,c6,c7⟩⟩|⟨b1,b2,x,b3,rfl⟩
    · refine Z0V ⟨hst.le.sn,λc p hc=>?_⟩ (old b _ p b3 ha b6 b2) (hR.obj b _ p b3 ha b2)
      rw[k1 c (by have:=(hR.dom c).2 ⟨p,hc⟩;omega)];exact hc
    · rw[c5]
      exact ZaQ x.body (Z4z x.body p (λy hy=>hback y (Z19 (hg2 i x c3) y hy)) (hst.rel.obj i x p c3 (by rw[<- c4];exact ha) c7))
    ·exact ZaQ x.body (Z4z x.body p (λy hy=>hback y (Z19 (hg2 _ x b3) y hy)) (hst.rel.obj _ x p b3 ha b2))
  · rcases hget b o p hb hp with ⟨b1,b2,x,b3,b4,b5,b6⟩|⟨b1,b2,x,b3,rfl⟩<;>rcases hget b' o' p' hb' hp' with ⟨c1,c2,y,c3,c4,c5,c6⟩|⟨c1,c2,y,c3,rfl⟩
    · rw[b4,b5,c4,c5]
      exact hR.sep b b' x y p p' b3 c3 (hal b6 ha) (hal c6 ha') b2 c2 e
    · exfalso
      rcases b6 with ⟨b6,rfl⟩|⟨i,z,d1,d2,d3,d4,d5,d6,d7⟩
      ·exact new_ _ y p' c3 ha' (by omega) c2 b _ p b3 ha b6 b2 e
      · have hs:=(hst.rel.sep i _ z y p p' d3 c3 (by rw[<- d4];exact ha) ha' d7 c2 e).1
        have:=Z4Z hnA d3 c3 (by rw[<- d4];exact ha) ha' hs
        omega
    · exfalso
      rcases c6 with ⟨c6,rfl⟩|⟨i,z,d1,d2,d3,d4,d5,d6,d7⟩
      ·exact new_ _ x p b3 ha (by omega) b2 b' _ p' c3 ha' c6 c2 e.symm
      · have hs:=(hst.rel.sep _ i x z p p' b3 d3 ha (by rw[<- d4];exact ha') b2 d7 e).1
        have:=Z4Z hnA b3 d3 ha (by rw[<- d4];exact ha') hs
        omega
    · have hs:=hst.rel.sep _ _ x y p p' b3 c3 ha ha' b2 c2 e
      have:=Z4Z hnA b3 c3 ha ha' hs.1
      have hbb:b=b':=by omega
      exact⟨hbb,hs.2⟩
  · obtain⟨h1,h2,h3⟩:=hst.rel.snap a v hv
    refine⟨h1,h2,λb o' p hb ha hp he=>?_⟩
    rcases hget b o' p hb hp with ⟨b1,b2,o,b3,b4,b5,⟨b6,rfl⟩|⟨i,x,c1,c2,c3,c4,c5,c6,c7⟩⟩|⟨b1,b2,x,b3,rfl⟩
    · rcases hst.sfresh a v hv with f1|f1|⟨b0,o0,p0,f1,f2,f3,f4⟩
      ·exact (hR.snap a v f1).2.2 b _ p b3 ha b2 he
      ·have:=hR.blk b p b2;omega
      · obtain⟨c,_,hc,hp3⟩:=atm f3
        exact apart_ b _ p b3 ha b6 b2 c p0 hc hp3 (f4.trans he.symm)
    ·exact h3 i x p c3 (by rw[<- c4];exact ha) c7 he
    ·exact h3 _ x p b3 ha b2 he
  · rcases hget b o' p hb hp with ⟨b1,b2,o,b3,b4,b5,b6⟩|⟨b1,b2,x,b3,rfl⟩
    ·exact hR.shz b o p b3 b2 (by rw[<- b5];exact e)
    ·exact hst.rel.shz _ x p b3 b2 e
 have oldp:∀(b0:Nat)(o0:AObj)(p0:Place),Hs[b0]? = some o0->o0.alive=true->iot m ι b0=some p0->∃ (b1:Nat) (o1:AObj) (p1:Place),Hc[b1]? = some o1/\o1.alive=true /\ ι b1=some p1/\p1.blk=p0.blk:=λb0 o0 p0 e1 e2 e3=>by
  obtain⟨c,_,hc,hp3⟩:=atm e3
  obtain⟨_,o,_,_,_,y2,_,y4,_⟩:=inm c hc
  exact⟨c,o,p0,y2,y4,hp3,rfl⟩
 refine⟨v,sn',κ,rfl,?_,hR',⟨hst.le.sn,λb p hb=>?_⟩,λb p hp=>?_,hnr,hst.size,hst.os,hst.tape,hst.output,λa v hv=>?_,λb o hb=>?_⟩
 ·exact (Z5d r v).2 (Z1m r [] v (λy hy=>hback y (Z19 hrk y hy)) hv)
 ·rw[k1 b (by have:=(hR.dom b).2 ⟨p,hb⟩;omega)];exact hb
 · by_cases hlt:b<d
   ·rw[k1 b hlt]at hp;exact .inl hp
   · rw[k2 b (by omega)]at hp
     rcases hst.fresh _ p hp with h|h|⟨b0,o0,p0,e1,e2,e3,e4⟩
     · obtain⟨c,hc,_⟩:=atm h
       have:=(Y05.1 hc).1;omega
     ·exact .inr (.inl h)
     · obtain⟨b1,o1,p1,g1,g2,g3,g4⟩:=oldp b0 o0 p0 e1 e2 e3
       exact .inr (.inr ⟨b1,o1,p1,g1,g2,g3,g4.trans e4⟩)
 · rcases hst.sfresh a v hv with f1|f1|⟨b0,o0,p0,f1,f2,f3,f4⟩
   ·exact .inl f1
   ·exact .inr (.inl f1)
   · obtain⟨b1,o1,p1,g1,g2,g3,g4⟩:=oldp b0 o0 p0 f1 f2 f3
     exact .inr (.inr ⟨b1,o1,p1,g1,g2,g3,g4.trans f4⟩)
 · have hbd:b<d:=by rw[<- hd];exact (Y05.1 hb).1
   have hb':b<(Z9K m (sgS m d) Hs' 0 Hc).length:=by omega
   have hx:=Y02 hb'
   obtain⟨p,hp⟩:=hR.place hb
   rcases hget b _ p (by rw[Y0u hb'];exact hx) (by rw[k1 b hbd];exact hp)with ⟨b1,b2,o2,b3,b4,b5,b6⟩|⟨b1,_⟩
   · rw[hb]at b3;cases b3
     exact⟨_,by rw[Y0u hb'];exact hx,b4,b5,λha=>hal b6 ha⟩
   ·omega
end Go.Abs
end
section
namespace Go.Proofs.YtpobjilfhkbhjaaDoor.lex
open Go.Abs Go.RowKit Go.Sort
variable {gl:Z0n}
def Z0l(l:List Int):List AV:=l.map λn=>.int .i64 n
theorem Z1w(l:List Int):(Z0l l).length=l.length:=by simp[Z0l]
def leI:Int->Int->Bool:=λx y=>decide (x<=y)
def SortsI(P:Program)(f:Nat):Prop:=∀(blk off cap:Nat)(zs:List Int)(w:World),Holds (Value.int .i64) w blk off zs.toArray->blk<w.heap.size->zs.length<4611686018427387904 ->
 Calls P f #[.slice (some ⟨blk,off,none⟩) zs.length cap] w λe w'=>e = .returned (.tuple #[])/\∃n os,w'=grow (putRow (Value.int .i64) (Sort.ahead w n) blk off (zs.mergeSort leI).toArray) os
def CompactsI(P:Program)(f:Nat):Prop:=∀(blk off cap:Nat)(zs:List Int)(w:World),Holds (Value.int .i64) w blk off zs.toArray->zs.length<=9223372036854775807->zs.length<=cap ->
 Calls P f #[.slice (some ⟨blk,off,none⟩) zs.length cap] w λe w'=>e = .returned (.slice (some ⟨blk,off,none⟩) (Lib.compact zs).length cap)/\∃q,w'=putRow (Value.int .i64) (Sort.ahead w q) blk off (Lib.compact zs++List.replicate (zs.length-(Lib.compact zs).length) 0).toArray
theorem Z9R{sn:Z0f}{ι : Z0c}{H:Z00}{W:World}(hR:R sn ι H W){b f:Nat}{zs:List Int}{ty:TypeId}{p:Abs.Place}(hb:H[b]? = some ⟨true,f,0,.cells (Z0l zs) ty⟩)(hp : ι b=some p):p.sh=0/\zs.length<=p.n/\Holds (Value.int .i64) W p.blk 0 zs.toArray:=by
 have h0:=hR.shz b _ p hb hp rfl
 have ho:=hR.obj b _ p hb rfl hp
 simp only[OR]at ho
 obtain⟨arr,h1,h2,h3,h4⟩:=ho
 rw[Z1w]at h3
 refine⟨h0,by omega,λj hj=>?_⟩
 have hj':j<zs.length:=by simpa using hj
 obtain⟨v,e1,e2⟩:=h4 j (.int .i64 zs[j]) (by simp[Z0l,hj'])
 simp only[VR]at e2
 subst e2
 rw[h0,Y0q]at e1
 constructor
 · rw[Z1q h1,Y0q,e1]
   congr 2
   simp[hj']
 · unfold World.frozen?
   rw[h1]
   simp
theorem ZeC {sn : Z0f} {ι : Z0c} {H : Z00} {W : World} (hR : R sn ι H W) {b f n : Nat} {zs zs' : List Int} {ty : TypeId} {p : Abs.Place} (hb : H[b]? = some ⟨true, f, 0, .cells (Z0l zs) ty⟩) (hp : ι b = some p) (hl : zs'.length = zs.length) :
  Stp sn ι H W sn ι ((Z2o b f H).set b ⟨true,f,0,.cells (Z0l zs') ty⟩) (putRow (Value.int .i64) (Sort.ahead W n) p.blk 0 zs'.toArray):=by
 have h0:=hR.shz b _ p hb hp rfl
 have ho:=hR.obj b _ p hb rfl hp
 simp only[OR]at ho
 obtain⟨arr,h1,h2,h3,h4⟩:=ho
 rw[Z1w]at h3
 have hheap:(putRow (Value.int .i64) (Sort.ahead W n) p.blk 0 zs'.toArray).heap[p.blk]? = some (.cells (putCells (Value.int .i64) 0 zs'.toArray arr) ty (0,0)):=by
  show (W.heap.modify p.blk _)[p.blk]? = _
  rw[Array.getElem?_modify,if_pos rfl,h1]
  rfl
 refine Stp.write (W':=putRow (Value.int .i64) (Sort.ahead W n) p.blk 0 zs'.toArray) hR (o:=⟨true,f,0,.cells (Z0l zs) ty⟩) hb rfl hp ⟨λc hc=>?_,by simp,rfl,rfl,rfl⟩ (.cells (Z0l zs') ty) ?_
 · show (W.heap.modify p.blk _)[c]? = _
   rw[Array.getElem?_modify,if_neg (λe=>hc e.symm)]
 · refine⟨_,hheap,by simp[putCells,h2],by rw[Z1w,hl];omega,λi c hc=>?_⟩
   have hi:i<zs'.length:=by have:=(Y05.1 hc).1;rwa [Z1w]at this
   have hc':c = .int .i64 zs'[i]:=by simp only[Z0l,List.getElem?_map,Y02 hi,Y06,Option.some.injEq]at hc;exact hc.symm
   subst hc'
   refine⟨.int .i64 zs'[i],?_,by simp[VR]⟩
   have hlt:p.sh+i<arr.size:=by omega
   simp only[putCells,Array.getElem?_mapIdx,Array.getElem?_eq_getElem hlt,Y06,Option.some.injEq]
   rw[if_pos (by simp;omega)]
   congr 1
   simp[h0,hi]
def SortsNone(P:Program)(f:Nat):Prop:=∀(p:Option Addr)(cap:Nat)(w:World),Calls P f #[.slice p 0 cap] w λe w'=>e = .returned (.tuple #[])/\w'=w
def CompactsNone(P:Program)(f:Nat):Prop:=∀(a:Option Addr)(cap:Nat)(w:World),Calls P f #[.slice a 0 cap] w λe w'=>e = .returned (.slice a 0 cap)/\w'=w
theorem Zh7 {P : Program} {fn : Nat} (hS : SortsI P fn) {H : Z00} {b f : Nat} (zs : List Int) {ty : TypeId} (cap : Nat) (hb : H[b]? = some ⟨true, f, 0, .cells (Z0l zs) ty⟩) (h0 : zs ≠ []) (h1 : zs.length < 4611686018427387904) :
  Z1N P gl fn [.slice b 0 zs.length cap 1] H (.tuple []) ((Z2o b f H).set b ⟨true,f,0,.cells (Z0l (zs.mergeSort leI)) ty⟩):=by
 intro sn ι W cargs hg hR ha
 obtain⟨v,rfl,hv⟩:∃v,cargs=[v]/\VR sn ι (.slice b 0 zs.length cap 1) v:=by
  simp only[LR]at ha;obtain⟨d,ds,rfl,h,rfl⟩:=ha;exact⟨d,rfl,h⟩
 obtain⟨p,a,cap',hp,rfl,g2,g3,g4⟩:=hv.slice
 have hlen:0<zs.length:=List.length_pos_iff.2 h0
 obtain⟨rfl,g5⟩:=g4 (by omega)
 obtain⟨k0,k1,k2⟩:=Z9R hR hb hp
 have e0:p.sh+0=0:=by omega
 rw[e0]
 refine .inl ((hS p.blk 0 cap' zs W k2 (hR.blk b p hp) h1).mono ?_)
 rintro e W' ⟨rfl,n,os,rfl⟩
 have s1:=ZeC (n:=n) (zs':=zs.mergeSort leI) hR hb hp (by simp)
 have s2:=Stp.ext s1.rel (W':=grow (putRow (Value.int .i64) (Sort.ahead W n) p.blk 0 (zs.mergeSort leI).toArray) os) ⟨λc hc=>by
  show (_++os)[c]? = _
  rw[Array.getElem?_append_left hc],by show _<=(_++os).size;simp,rfl,rfl,rfl⟩
 exact⟨_,sn,ι,rfl,by simp[VR,LR],Stp.trans hR s1 s2⟩
def cpt(zs:List Int):List Int:=Lib.compact zs++List.replicate (zs.length-(Lib.compact zs).length) 0
theorem Z7l(zs:List Int):(Lib.compact zs).length<=zs.length:=by
 unfold Lib.compact Lib.compactUpTo
 rw[List.length_map]
 exact Nat.le_trans (List.length_filter_le _ _) (by simp)
theorem Zbx {P : Program} {fn : Nat} (hS : CompactsI P fn) {H : Z00} {b f : Nat} (zs : List Int) {ty : TypeId} (cap : Nat) (hb : H[b]? = some ⟨true, f, 0, .cells (Z0l zs) ty⟩) (h0 : zs ≠ []) (h1 : zs.length < 4611686018427387904) :
  Z1N P gl fn [.slice b 0 zs.length cap 1] H (.slice b 0 (Lib.compact zs).length cap 1) ((Z2o b f H).set b ⟨true,f,0,.cells (Z0l (cpt zs)) ty⟩):=by
 intro sn ι W cargs hg hR ha
 obtain⟨v,rfl,hv⟩:∃v,cargs=[v]/\VR sn ι (.slice b 0 zs.length cap 1) v:=by
  simp only[LR]at ha;obtain⟨d,ds,rfl,h,rfl⟩:=ha;exact⟨d,rfl,h⟩
 obtain⟨p,a,cap',hp,rfl,g2,g3,g4⟩:=hv.slice
 have hlen:0<zs.length:=List.length_pos_iff.2 h0
 obtain⟨rfl,g5⟩:=g4 (by omega)
 obtain⟨k0,k1,k2⟩:=Z9R hR hb hp
 have e0:p.sh+0=0:=by omega
 have hc:=Z7l zs
 rw[e0]
 refine .inl ((hS p.blk 0 cap' zs W k2 (by omega) (by omega)).mono ?_)
 rintro e W' ⟨rfl,q,rfl⟩
 have s1:=ZeC (n:=q) (zs':=cpt zs) hR hb hp (by simp[cpt];omega)
 exact⟨_,sn,ι,rfl,by simp only[VR];exact⟨p,_,cap',hp,rfl,by omega,g3,λh=>⟨by rw[e0],by omega⟩⟩,s1⟩
structure SoI where
 H:Z00
 b:Nat
 f:Nat
 zs:List Int
 cap:Nat
 ty:TypeId
def SoI.A(i:SoI):List AV:=match i.zs with|[]=>[.nslice]|z::r=>[.slice i.b 0 (r.length+1) i.cap 1]
def SoI.G(i:SoI):Prop:=i.zs.length<4611686018427387904/\(i.zs≠[]->i.H[i.b]? = some ⟨true,i.f,0,.cells (Z0l i.zs) i.ty⟩)
def SoI.O(i:SoI)(l:List Int):Z00:=match i.zs with|[]=>i.H|_::_=>(Z2o i.b i.f i.H).set i.b ⟨true,i.f,0,.cells (Z0l l) i.ty⟩
def SoI.R(i:SoI):AV:=match i.zs with|[]=>.nslice|_::_=>.slice i.b 0 (Lib.compact i.zs).length i.cap 1
theorem Za7:∀{a b:List Int},Z0l a=Z0l b->a=b
 |[],[],_=>rfl
 |[],_::_,h=>by simp[Z0l]at h
 |_::_,[],h=>by simp[Z0l]at h
 |x::a,y::b,h=>by
  simp only[Z0l,Y04,List.cons.injEq,AV.int.injEq,true_and]at h
  rw[h.1,Za7 (a:=a) (b:=b) h.2]
theorem SoI.inj{i j:SoI}(hi:i.G)(hj:j.G)(ha:i.A=j.A)(hH:i.H=j.H):i.zs=j.zs/\(i.zs≠[]->i.b=j.b/\i.f=j.f/\i.cap=j.cap/\i.ty=j.ty):=by
 obtain⟨H,b,f,zs,cap,ty⟩:=i
 obtain⟨H',b',f',zs',cap',ty'⟩:=j
 dsimp only at *
 subst hH
 simp only[SoI.A,SoI.G]at *
 cases zs with
 |nil =>
  cases zs' with
  |nil=>exact⟨rfl,λh=>(h rfl).elim⟩
  |cons y r=>simp at ha
 |cons x l =>
  cases zs' with
  |nil=>simp at ha
  |cons y r =>
   simp only[List.cons.injEq,AV.slice.injEq,and_true,true_and]at ha
   obtain⟨rfl,e1,rfl⟩:=ha
   have h1:=hi.2 (by simp)
   have h2:=hj.2 (by simp)
   rw[h1]at h2
   simp only[Option.some.injEq,AObj.mk.injEq,ABody.cells.injEq,true_and]at h2
   obtain⟨rfl,e2,rfl⟩:=h2
   exact⟨Za7 e2,λ_=>⟨rfl,rfl,rfl,rfl⟩⟩
theorem ZeW{P:Program}{fn:Nat}{r:AV}(h:∀W,∃v,VR (λ_=>none) noI r v/\Calls P fn #[.slice none 0 0] W λe W'=>e = .returned v/\W'=W)(H:Z00):Z1N P gl fn [.nslice] H r H:=by
 intro sn ι W cargs hg hR ha
 obtain⟨v,rfl,hv⟩:∃v,cargs=[v]/\VR sn ι .nslice v:=by
  simp only[LR]at ha;obtain⟨d,ds,rfl,h,rfl⟩:=ha;exact⟨d,rfl,h⟩
 simp only[VR]at hv
 subst hv
 obtain⟨v,h1,h2⟩:=h W
 refine .inl (h2.mono ?_)
 rintro e W' ⟨rfl,rfl⟩
 exact⟨_,sn,ι,rfl,Z0U (Le.mk (λ_ _ h=>by simp at h) (λ_ _ h=>by simp[noI]at h)) _ _ h1,Stp.refl hR⟩
def sortFam{P:Program}{fn:Nat}(hb:Z0k P fn=true)(hS:SortsI P fn)(hN:SortsNone P fn):FamM P gl where
 I:=SoI
 f:=fn
 G:=SoI.G
 A:=SoI.A
 H:=SoI.H
 R:=λ_=>.tuple []
 O:=λi=>i.O (i.zs.mergeSort leI)
 body:=hb
 inj:=λi j hi hj ha hH=>by
  obtain⟨e1,e2⟩:=SoI.inj hi hj ha hH
  obtain⟨H,b,f,zs,cap,ty⟩:=i
  obtain⟨H',b',f',zs',cap',ty'⟩:=j
  dsimp only at e1 e2 hH
  subst e1;subst hH
  refine⟨rfl,?_⟩
  cases zs with
  |nil=>rfl
  |cons x l=>obtain⟨rfl,rfl,rfl,rfl⟩:=e2 (by simp);rfl
 ok:=λi hi=>by
  obtain⟨H,b,f,zs,cap,ty⟩:=i
  obtain⟨h1,h2⟩:=hi
  dsimp only at h1 h2⊢
  cases zs with
  |nil=>exact ZeW (λW=>⟨_,by simp[VR,LR],hN none 0 W⟩) H
  |cons x l=>exact Zh7 hS (x::l) cap (h2 (by simp)) (by simp) h1
def Z8v{P:Program}{fn:Nat}(hb:Z0k P fn=true)(hS:CompactsI P fn)(hN:CompactsNone P fn):FamM P gl where
 I:=SoI
 f:=fn
 G:=SoI.G
 A:=SoI.A
 H:=SoI.H
 R:=SoI.R
 O:=λi=>i.O (cpt i.zs)
 body:=hb
 inj:=λi j hi hj ha hH=>by
  obtain⟨e1,e2⟩:=SoI.inj hi hj ha hH
  obtain⟨H,b,f,zs,cap,ty⟩:=i
  obtain⟨H',b',f',zs',cap',ty'⟩:=j
  dsimp only at e1 e2 hH
  subst e1;subst hH
  cases zs with
  |nil=>exact⟨rfl,rfl⟩
  |cons x l=>obtain⟨rfl,rfl,rfl,rfl⟩:=e2 (by simp);exact⟨rfl,rfl⟩
 ok:=λi hi=>by
  obtain⟨H,b,f,zs,cap,ty⟩:=i
  obtain⟨h1,h2⟩:=hi
  dsimp only at h1 h2⊢
  cases zs with
  |nil=>exact ZeW (λW=>⟨_,by simp[VR,SoI.R],hN none 0 W⟩) H
  |cons x l=>exact Zbx hS (x::l) cap (h2 (by simp)) (by simp) h1
theorem Z9a{H:Z00}{n b f sh len cap z:Nat}{cs rest:List AV}{ty:TypeId}(hH:H[b]? = some ⟨true,f,sh,.cells (cs++rest) ty⟩)(hc:cs.length=len*z)(hl:cs.all lit=true):frz H (n+2) (.slice b 0 len cap z)=some (.rs len z cs):=by
 cases len with
 |zero =>
  rw[Nat.zero_mul]at hc
  rw[List.length_eq_zero_iff.1 hc]
  rfl
 |succ m =>
  show (match H[b]? with
   |some o=>match o.alive,o.body with
    |true,.cells cs _=>match tk ((m+1)*z) (cs.drop 0) with
     |some cs=>match Z3o (frz H (n+1)) cs with|some l=>some (AV.rs (m+1) z l)|none=>none
     |none=>none
    |_,_=>none
   |none=>none)=_
  rw[hH]
  have h1:tk ((m+1)*z) (cs++rest)=some cs:=by rw[<- hc];exact Zeg cs rest
  simp only[Y0z,h1,Z9b hl]
theorem Zbu(d:Array Int):∀m,∀x,x∈Lib.compactUpTo d m ↔ ∃j,j<m/\d[j]! = x
 |0,x=>by simp[Lib.compactUpTo]
 |m+1,x=>by
  rw[Lib.compactUpTo_succ,Y0y,Zbu d m x]
  cases hk:Lib.keeps d m with
  |true =>
   simp only[if_true,List.mem_singleton]
   constructor
   · rintro (⟨j,hj,e⟩|e)
     ·exact⟨j,by omega,e⟩
     ·exact⟨m,by omega,e.symm⟩
   · rintro⟨j,hj,e⟩
     by_cases h:j=m
     ·subst h;exact .inr e.symm
     ·exact .inl ⟨j,by omega,e⟩
  |false =>
   have hk':m≠0/\d[m]! = d[m-1]!:=by
    unfold Lib.keeps at hk
    simp only[decide_eq_false_iff_not,not_or,ne_eq,Classical.not_not]at hk
    exact hk
   simp only[Y0C,if_false,Y0B,or_false]
   constructor
   ·rintro⟨j,hj,e⟩;exact⟨j,by omega,e⟩
   · rintro⟨j,hj,e⟩
     by_cases h:j=m
     ·subst h;exact⟨j-1,by omega,by rw[<- hk'.2];exact e⟩
     ·exact⟨j,by omega,e⟩
theorem Z8u(d:Array Int)(h:∀i j,i<=j->j<d.size->d[i]!<=d[j]!):∀m,m<=d.size->(Lib.compactUpTo d m).Pairwise (· < ·)
 |0,_=>by simp[Lib.compactUpTo]
 |m+1,hm=>by
  have ih:=Z8u d h m (by omega)
  rw[Lib.compactUpTo_succ]
  cases hk:Lib.keeps d m with
  |false=>simpa using ih
  |true =>
   simp only[if_true]
   rw[List.pairwise_append]
   refine⟨ih,by simp,λa ha b hb=>?_⟩
   rw[List.mem_singleton]at hb
   subst hb
   obtain⟨j,hj,rfl⟩:=(Zbu d m a).1 ha
   unfold Lib.keeps at hk
   simp only[decide_eq_true_eq]at hk
   have h1:=h j (m-1) (by omega) (by omega)
   have h2:=h (m-1) m (by omega) (by omega)
   rcases hk with hk|hk
   ·omega
   ·omega
theorem Z3M(zs:List Int)(x:Int):x∈Lib.compact zs ↔ x∈zs:=by
 unfold Lib.compact
 rw[Zbu]
 constructor
 · rintro⟨j,hj,rfl⟩
   rw[getElem!_pos zs.toArray j (by simpa using hj)]
   simp
 · intro hx
   obtain⟨j,hj,rfl⟩:=List.getElem_of_mem hx
   exact⟨j,hj,by rw[getElem!_pos zs.toArray j (by simpa using hj)];simp⟩
theorem Z7L(zs:List Int):(Lib.compact (zs.mergeSort leI)).Pairwise (· < ·):=by
 unfold Lib.compact
 have hp:(zs.mergeSort leI).Pairwise (λa b=>leI a b=true):=List.pairwise_mergeSort (λa b c h1 h2=>by simp only[leI,decide_eq_true_eq]at *;omega) (λa b=>by simp only[leI,Y0k,decide_eq_true_eq];omega) zs
 refine Z8u _ (λi j hij hj=>?_) _ (by simp)
 have hj':j<(zs.mergeSort leI).length:=by simpa using hj
 rw[getElem!_pos _ i (by omega),getElem!_pos _ j hj]
 simp only[List.getElem_toArray]
 by_cases e:i=j
 ·subst e;exact Int.le_refl _
 · have:=(List.pairwise_iff_getElem.1 hp) i j (by omega) hj' (by omega)
   simpa[leI]using this
theorem Zix{zs:List Int}{l:List Nat}(hl:l.Pairwise (· < ·))(hm:∀x,x∈zs ↔ ∃n∈l,x=(n:Int)):Lib.compact (zs.mergeSort leI)=l.map λn:Nat=>(n:Int):=by
 have h1:=Z7L zs
 have h2:(l.map λn:Nat=>(n:Int)).Pairwise (· < ·):=by
  rw[List.pairwise_map]
  exact hl.imp λh=>by omega
 refine List.Perm.eq_of_pairwise (le:=(· < ·)) (λa b _ _ h3 h4=>by omega) h1 h2 ?_
 refine (List.perm_ext_iff_of_nodup (h1.imp λh=>by omega) (h2.imp λh=>by omega)).2 λx=>?_
 rw[Z3M,List.mem_mergeSort,hm,List.mem_map]
 constructor
 ·rintro⟨n,hn,rfl⟩;exact⟨n,hn,rfl⟩
 ·rintro⟨n,hn,rfl⟩;exact⟨n,hn,rfl⟩
end Go.Proofs.YtpobjilfhkbhjaaDoor.lex
end
namespace Go.Proofs.YtpobjilfhkbhjaaDoor.lex
open Go.Abs Go.RowKit
section
variable {gl:Z0n}
def Zd6(l:List UInt8):Nat:=l.foldl (λn c=>n*10+(c.toNat-48)) 0
def Ze5(l:List UInt8):Bool:=l.all λc=>ZiQ c.toNat
theorem Z9G(l:List UInt8)(k:Nat)(h:k<l.length):Zd6 (l.take (k+1))=Zd6 (l.take k)*10+(l[k].toNat-48):=by
 unfold Zd6
 rw[Y0E h,List.foldl_append];rfl
theorem ZgG(l:List UInt8)(k:Nat)(h:k<l.length):Ze5 (l.take (k+1))=(Ze5 (l.take k)&&ZiQ l[k].toNat):=by
 unfold Ze5
 rw[Y0E h,Y0Q];simp
theorem ZgF(l:List UInt8)(k:Nat)(h:k<l.length)(hd:ZiQ l[k].toNat=false):Ze5 l=false:=by
 unfold Ze5
 rw[Bool.eq_false_iff];intro h2
 have:=Y0i.1 h2 _ (Y0A h)
 rw[hd]at this;cases this
theorem Zea(l:List UInt8)(ha:Ze5 l=true):∀k,k<=l.length->Zd6 (l.take k)<10 ^ k
 |0,_=>by simp[Zd6]
 |k+1,h=>by
  have h1:=Zea l ha k (by omega)
  have h2:=Z9G l k (by omega)
  have h3:ZiQ l[k].toNat=true:=Y0i.1 ha _ (Y0A (by omega))
  simp only[ZiQ,Y01,decide_eq_true_eq]at h3
  rw[Nat.pow_succ];omega
theorem Zh1(l:List UInt8)(k:Nat)(hk:k<=l.length)(hl:k<=4)(ha:Ze5 (l.take k)=true):Zd6 (l.take k)<10000:=by
 have h:=Zea (l.take k) ha k (by simp;omega)
 rw[List.take_take,Nat.min_self]at h
 have:10 ^ k<=10 ^ 4:=Nat.pow_le_pow_right (by decide) hl
 omega
def Zdn(s:List UInt8):Bool:=s==[] || (decide (4<s.length) || (decide (1<s.length)&&(s[0]? == some 48)))
def Z4k(s:List UInt8):Int:=if Zdn s=true then -1 else if Ze5 s=true then Zd6 s else -1
theorem Z94{s:List UInt8}(h:Zdn s=true):Z4k s = -1:=by unfold Z4k;rw[if_pos h]
theorem Zhn{s:List UInt8}(h:Ze5 s=false):Z4k s = -1:=by unfold Z4k;split;rfl;simp[h]
theorem Zhm{s:List UInt8}(h:Zdn s=false)(ha:Ze5 s=true):Z4k s=Zd6 s:=by unfold Z4k;rw[h,ha];rfl
def Ze1(s:List UInt8):AV:=if Z4k s<0 then .tuple [.int .i64 0,.bool false] else .tuple [.int .i64 (Z4k s),.bool true]
theorem Z6a{s:List UInt8}(h:Z4k s = -1):Ze1 s = .tuple [.int .i64 0,.bool false]:=by unfold Ze1;rw[h];rfl
theorem Zhg{s:List UInt8}(h:Zdn s=false)(ha:Ze5 s=true):Ze1 s = .tuple [.int .i64 (Zd6 s),.bool true]:=by
 unfold Ze1;rw[Zhm h ha,if_neg (by omega)]
theorem Zhl{s:List UInt8}(h:s.length=0):Zdn s=true:=by
 have:s=[]:=List.length_eq_zero_iff.1 h
 subst this;rfl
theorem ZeR{s:List UInt8}(h:4<s.length):Zdn s=true:=by simp[Zdn,h]
theorem ZeQ{s:List UInt8}{c:UInt8}(h:1<s.length)(h2:s[0]? = some c)(h3:((c.toNat:Int)==48)=true):Zdn s=true:=by
 have:c=48:=by rw[show ((c.toNat:Int)==48)=(c==48) from Zl0 c 48 (by decide)]at h3;simpa using h3
 subst this;simp[Zdn,h,h2]
theorem ZjA{s:List UInt8}{c:UInt8}(h0:s.length≠0)(h4:¬4<s.length)(h2:s[0]? = some c)(h3:¬1<s.length\/((c.toNat:Int)==48)=false):Zdn s=false:=by
 have e0:(s==[])=false:=by cases s with|nil=>simp at h0|cons _ _=>rfl
 rcases h3 with h3|h3
 ·simp[Zdn,e0,h4,h3]
 · have:(c==48)=false:=by rw[show ((c.toNat:Int)==48)=(c==48) from Zl0 c 48 (by decide)]at h3;simpa using h3
   have h5:c≠48:=by simpa using this
   simp[Zdn,e0,h4,h2,h5]
theorem Z6H(s:List UInt8)(hs:s.length<=9223372036854775807):ValOK Y00 gl 23 [.str s] (Ze1 s):=by
 by_cases h0:s.length=0
 · have e0:((s.length:Int)==0)=true:=by simp[h0]
   have es:(s==[])=true:=by simpa using h0
   rw[Z6a (Z94 (Zhl h0))]
   refine Z0J follows Z11 Z1b Y0L rfl ?_
   repeat' ((conv=>whnf);first|refine stp ?_|with_reducible apply Z04<;>intro h)
   all_goals rfl
 have e0:((s.length:Int)==0)=false:=by simp[h0]
 have es:(s==[])=false:=by simpa using h0
 by_cases h4:4<s.length
 · have e4:decide ((s.length:Int)>4)=true:=by simp;omega
   rw[Z6a (Z94 (ZeR h4))]
   refine Z0J follows Z11 Z1b Y0L rfl ?_
   repeat' ((conv=>whnf);first|refine stp ?_|with_reducible apply Z04<;>intro h)
   all_goals rfl
 have e4:decide ((s.length:Int)>4)=false:=by simp;omega
 obtain⟨c,hc⟩:∃c,s[0]? = some c:=⟨s[0],by simp⟩
 by_cases hb:1<s.length/\((c.toNat:Int)==48)=true
 · obtain⟨h1,hz⟩:=hb
   have e1:decide ((s.length:Int)>1)=true:=by simp;omega
   rw[Z6a (Z94 (ZeQ h1 hc hz))]
   refine Z0J follows Z11 Z1b Y0L rfl ?_
   repeat' ((conv=>whnf);first|with_reducible refine ixS 0 rfl hc ?_|refine stp ?_|with_reducible apply Z04<;>intro h)
   all_goals rfl
 have ho:Zdn s=false:=ZjA h0 h4 hc (by
  by_cases h1:1<s.length
  ·exact .inr (by simpa using λh=>hb ⟨h1,h⟩)
  ·exact .inl h1)
 have hcase:(decide ((s.length:Int)>1)=false)\/(decide ((s.length:Int)>1)=true/\((c.toNat:Int)==48)=false):=by
  by_cases h1:1<s.length
  ·exact .inr ⟨by simp;omega,by simpa using λh=>hb ⟨h1,h⟩⟩
  ·exact .inl (by simp;omega)
 refine Z0J follows Z11 Z1b Y0L rfl ?_
 clear hb
 rcases hcase with e1|⟨e1,hz⟩
 all_goals (repeat' ((conv=>whnf);first|with_reducible refine ixS 0 rfl hc ?_|refine stp ?_|with_reducible apply Z04<;>intro h))
 all_goals (conv=>whnf)
 all_goals (refine⟨Nat,(λi=>i<=s.length/\Ze5 (s.take i)=true),(λi=>[(0,.str s),(4,.int .i64 (Zd6 (s.take i))),(25,.int .i64 s.length),(26,.int .i64 i)]),(λ_=>[]),(λi=>s.length-i),⟨0,⟨Y08 _,rfl⟩,Y0j rfl ?_⟩,?_⟩)
 all_goals (first|(simp only[Y0b,Zd6,List.foldl_nil];(repeat (first|exact trivial|refine stw ?_));done)|skip)
 all_goals (
  rintro i ⟨hi,hall⟩
  dsimp only
  by_cases hlt:i<s.length
  · have e2:decide ((i:Int)<(s.length:Int))=true:=by simpa using hlt
    have hx:s[i]? = some s[i]:=by simp[hlt]
    have hsn:=Z9G s i hlt
    have hal:=ZgG s i hlt
    have hst:=ZgF s i hlt
    have hv:=Zh1 s i hi (by omega) hall
    rw[hall,Y07]at hal
    cases hd:ZiQ s[i].toNat with
    |true =>
     rw[hd]at hal
     have hd':=hd
     simp only[ZiQ,Y01,decide_eq_true_eq]at hd'
     have d1:decide (((s[i]).toNat:Int)<48)=false:=by simp;omega
     have d2:decide (((s[i]).toNat:Int)>57)=false:=by simp;omega
     clear hst
     generalize Zd6 (s.take i)=v at *
     generalize s[i]=b at *
     repeat' ((conv=>whnf);first|with_reducible refine ixS i rfl hx ?_|refine stp ?_|with_reducible apply Z04<;>intro h)
     conv=>whnf
     refine⟨i+1,⟨hlt,hal⟩,by show s.length-(i+1)<s.length-i;omega,Y0j rfl ?_⟩
     have ew:IntKind.i64.wrap (10*(v:Int)+IntKind.i64.wrap (IntKind.u8.wrap ((b.toNat:Int)-48)))=((Zd6 (s.take (i+1)):Nat):Int):=by
      rw[hsn];simp only[IntKind.wrap_u8,IntKind.wrap_i64];omega
     skip
     exact wks
    |false =>
     rw[Z6a (Zhn (hst hd))]
     have hd':=hd
     simp only[ZiQ,Bool.and_eq_false_iff,decide_eq_false_iff_not]at hd'
     clear hst hal hsn
     generalize s[i]=b at *
     by_cases h48:(b.toNat:Int)<48
     · have d1:decide ((b.toNat:Int)<48)=true:=by simpa using h48
       repeat' ((conv=>whnf);first|with_reducible refine ixS i rfl hx ?_|refine stp ?_|with_reducible apply Z04<;>intro h)
       all_goals rfl
     · have d1:decide ((b.toNat:Int)<48)=false:=by simpa using h48
       have d2:decide ((b.toNat:Int)>57)=true:=by simp only[decide_eq_true_eq];omega
       repeat' ((conv=>whnf);first|with_reducible refine ixS i rfl hx ?_|refine stp ?_|with_reducible apply Z04<;>intro h)
       all_goals rfl
  · have e2:decide ((i:Int)<(s.length:Int))=false:=by simpa using hlt
    have hi2:i=s.length:=by omega
    subst hi2
    rw[Y0d]at hall⊢
    rw[Zhg ho hall]
    repeat' ((conv=>whnf);first|refine stp ?_|with_reducible apply Z04<;>intro h)
    all_goals rfl)
end
section
mutual
def smE:Ex->Int->Nat->Bool×Nat
 | .mk _ _ _ k,d,n=>if n+1<=2000/\d<=32 then smL k (d+1) (n+1) else (false,n+1)
def smL:List Ex->Int->Nat->Bool×Nat
 |[],_,n=>(true,n)
 |e::l,d,n=>if (smE e d n).1=true then smL l d (smE e d n).2 else (false,(smE e d n).2)
end
mutual
theorem Zep:∀(e:Ex)(d:Int)(n:Nat),((smE e d n).1=true ↔ n+Z28 e<=2000/\d+Zid e<=33)/\((smE e d n).1=true->(smE e d n).2=n+Z28 e)
 | .mk o m s k,d,n=>by
  simp only[smE,Z28,Zid]
  by_cases h:n+1<=2000/\d<=32
  · rw[if_pos h]
    obtain⟨h1,h2⟩:=smL_law k (d+1) (n+1) (by omega) (by omega)
    refine⟨?_,λh3=>by rw[h2 h3];omega⟩
    rw[h1];constructor<;>(intro h;omega)
  · rw[if_neg h]
    refine⟨⟨λh=>(by cases h),λh2=>absurd (show n+1<=2000/\d<=32 by omega) h⟩,λh=>(by cases h)⟩
theorem smL_law:∀(l:List Ex)(d:Int)(n:Nat),n<=2000->d<=33->((smL l d n).1=true ↔ n+sizeL l<=2000/\d+deepL l<=33)/\((smL l d n).1=true->(smL l d n).2=n+sizeL l)
 |[],d,n,h1,h2=>by simp only[smL,sizeL,deepL];refine⟨⟨λ_=>by omega,λ_=>by first|rfl|trivial⟩,λ_=>by first|rfl|trivial|omega⟩
 |e::l,d,n,h1,h2=>by
  obtain⟨g1,g2⟩:=Zep e d n
  simp only[smL,sizeL,deepL]
  by_cases h:(smE e d n).1=true
  · rw[if_pos h,g2 h]
    have g3:=g1.1 h
    obtain⟨k1,k2⟩:=smL_law l d (n+Z28 e) g3.1 h2
    refine⟨?_,λh3=>by rw[k2 h3];omega⟩
    rw[k1];constructor<;>(intro h;omega)
  · rw[if_neg h]
    refine⟨⟨λh=>(by cases h),λh2=>absurd (g1.2 (by omega)) h⟩,λh=>(by cases h)⟩
end
theorem Ziy:∀(l:List Ex)(d:Int)(n:Nat)(i:Nat)(h:i<l.length),(smL (l.take i) d n).1=true->smL (l.take (i+1)) d n=(if (smE l[i] d (smL (l.take i) d n).2).1=true then (true,(smE l[i] d (smL (l.take i) d n).2).2) else (false,(smE l[i] d (smL (l.take i) d n).2).2))
 |e::l,d,n,0,h,_=>by
  simp only[Y0f,Y0b,smL,Y0m]
 |e::l,d,n,i+1,h,h2=>by
  simp only[Y0f,smL,Y0o]at h2⊢
  by_cases h3:(smE e d n).1=true
  · rw[if_pos h3]at h2⊢
    rw[if_pos h3]
    exact Ziy l d _ i (by simpa using h) h2
  ·rw[if_neg h3]at h2;cases h2
theorem Zcg:∀(l:List Ex)(d:Int)(n:Nat)(i:Nat),(smL (l.take i) d n).1=false->smL l d n=smL (l.take i) d n
 |[],d,n,i,h=>by simp
 |e::l,d,n,0,h=>by simp only[Y0b,smL]at h;cases h
 |e::l,d,n,i+1,h=>by
  simp only[Y0f,smL]at h⊢
  split
  · rename_i h2
    rw[if_pos h2]at h
    exact Zcg l d _ i h
  ·rfl
def Ze4(e:Ex):Bool:=decide (2000<Z28 e\/32<Zid e)
theorem Zl5(e:Ex):(smE e 1 0).1 = !Ze4 e:=by
 have h:=(Zep e 1 0).1
 unfold Ze4
 rw[Y0M,h,Y0l,decide_eq_false_iff_not]
 constructor<;>(intro h;omega)
def ZkO(regs op num:Int)(name:List UInt8)(n:Nat):Bool :=
 if op=1 then decide (0<=num)&&(name==[]&&decide (n=0))
 else if op=2 then decide (0<=Z4k name)&&(decide (Z4k name<regs)&&(num==0&&decide (n=0)))
 else if op=3\/op=4 then num==0&&(name==[]&&decide (n=1))
 else if 5<=op/\op<=16 then num==0&&(name==[]&&decide (n=2))
 else false
mutual
def Z0I(regs:Int):Ex->Bool
 | .mk op num name kids=>ZkO regs op num name kids.length&&rightPL regs kids
def rightPL(regs:Int):List Ex->Bool
 |[]=>true
 |e::l=>Z0I regs e&&rightPL regs l
end
theorem Z2a{regs:Int}:∀{l:List Ex}{i:Nat}(h:i<l.length),Z0I regs l[i]=false->rightPL regs l=false
 |e::l,0,h,h2=>by simp only[Y0m]at h2;simp only[rightPL,h2,Bool.false_and]
 |e::l,i+1,h,h2=>by simp only[Y0o]at h2;simp only[rightPL,Z2a (l:=l) (by simpa using h) h2,Bool.and_false]
theorem Z1T(regs:Int):∀(l:List Ex)(i:Nat)(h:i<l.length),rightPL regs (l.take (i+1))=(rightPL regs (l.take i)&&Z0I regs l[i])
 |e::l,0,h=>by simp only[Y0f,Y0b,rightPL,Y0m,Bool.and_true,Y07]
 |e::l,i+1,h=>by
  have:=Z1T regs l i (by simpa using h)
  simp only[Y0f,rightPL,Y0o]at this⊢;rw[this,Y0p]
end
end Go.Proofs.YtpobjilfhkbhjaaDoor.lex
section
namespace Go.Proofs.YtpobjilfhkbhjaaDoor.runLives
open Go.RowKit Go.Abs
def tbl0:List AV:=[.int .u8 (.ofNat 0),.int .u8 (.ofNat 1),.int .u8 (.ofNat 28),.int .u8 (.ofNat 2),.int .u8 (.ofNat 29),.int .u8 (.ofNat 14),.int .u8 (.ofNat 24),
 .int .u8 (.ofNat 3),.int .u8 (.ofNat 30),.int .u8 (.ofNat 22),.int .u8 (.ofNat 20),.int .u8 (.ofNat 15),.int .u8 (.ofNat 25),
 .int .u8 (.ofNat 17),.int .u8 (.ofNat 4),.int .u8 (.ofNat 8),.int .u8 (.ofNat 31),.int .u8 (.ofNat 27),.int .u8 (.ofNat 13),.int .u8 (.ofNat 23),
 .int .u8 (.ofNat 21),.int .u8 (.ofNat 19),.int .u8 (.ofNat 16),.int .u8 (.ofNat 7),.int .u8 (.ofNat 26),.int .u8 (.ofNat 12),
 .int .u8 (.ofNat 18),.int .u8 (.ofNat 6),.int .u8 (.ofNat 11),.int .u8 (.ofNat 5),.int .u8 (.ofNat 10),.int .u8 (.ofNat 9)]
def ZmX:List AV:=[.int .u8 (.ofNat 0),.int .u8 (.ofNat 1),.int .u8 (.ofNat 56),.int .u8 (.ofNat 2),.int .u8 (.ofNat 57),.int .u8 (.ofNat 49),.int .u8 (.ofNat 28),
 .int .u8 (.ofNat 3),.int .u8 (.ofNat 61),.int .u8 (.ofNat 58),.int .u8 (.ofNat 42),.int .u8 (.ofNat 50),.int .u8 (.ofNat 38),
 .int .u8 (.ofNat 29),.int .u8 (.ofNat 17),.int .u8 (.ofNat 4),.int .u8 (.ofNat 62),.int .u8 (.ofNat 47),.int .u8 (.ofNat 59),
 .int .u8 (.ofNat 36),.int .u8 (.ofNat 45),.int .u8 (.ofNat 43),.int .u8 (.ofNat 51),.int .u8 (.ofNat 22),.int .u8 (.ofNat 53),
 .int .u8 (.ofNat 39),.int .u8 (.ofNat 33),.int .u8 (.ofNat 30),.int .u8 (.ofNat 24),.int .u8 (.ofNat 18),.int .u8 (.ofNat 12),
 .int .u8 (.ofNat 5),.int .u8 (.ofNat 63),.int .u8 (.ofNat 55),.int .u8 (.ofNat 48),.int .u8 (.ofNat 27),.int .u8 (.ofNat 60),
 .int .u8 (.ofNat 41),.int .u8 (.ofNat 37),.int .u8 (.ofNat 16),.int .u8 (.ofNat 46),.int .u8 (.ofNat 35),.int .u8 (.ofNat 44),
 .int .u8 (.ofNat 21),.int .u8 (.ofNat 52),.int .u8 (.ofNat 32),.int .u8 (.ofNat 23),.int .u8 (.ofNat 11),.int .u8 (.ofNat 54),
 .int .u8 (.ofNat 26),.int .u8 (.ofNat 40),.int .u8 (.ofNat 15),.int .u8 (.ofNat 34),.int .u8 (.ofNat 20),.int .u8 (.ofNat 31),
 .int .u8 (.ofNat 10),.int .u8 (.ofNat 25),.int .u8 (.ofNat 14),.int .u8 (.ofNat 19),.int .u8 (.ofNat 9),.int .u8 (.ofNat 13),.int .u8 (.ofNat 8),
 .int .u8 (.ofNat 7),.int .u8 (.ofNat 6)]
def ZmW:List AV:=[.int .u64 (.ofNat 1),.int .u64 (.ofNat 10),.int .u64 (.ofNat 100),.int .u64 (.ofNat 1000),.int .u64 (.ofNat 10000),.int .u64 (.ofNat 100000),
 .int .u64 (.ofNat 1000000),.int .u64 (.ofNat 10000000),.int .u64 (.ofNat 100000000),.int .u64 (.ofNat 1000000000),.int .u64 (.ofNat 10000000000),
 .int .u64 (.ofNat 100000000000),.int .u64 (.ofNat 1000000000000),.int .u64 (.ofNat 10000000000000),.int .u64 (.ofNat 100000000000000),
 .int .u64 (.ofNat 1000000000000000),.int .u64 (.ofNat 10000000000000000),.int .u64 (.ofNat 100000000000000000),
 .int .u64 (.ofNat 1000000000000000000),.int .u64 (.ofNat 10000000000000000000)]
def ZmV:List AV:=[.bool false,.bool false,.int .i64 (.ofNat 0),.bool true,.bool false,.int .i64 (.ofNat 0),.bool false,.bool true,.int .i64 (.ofNat 0),
 .bool false,.bool false,.int .i64 (.ofNat 1),.bool false,.bool false,.int .i64 (.ofNat 1),.bool false,.bool false,.int .i64 (.ofNat 2),
 .bool false,.bool false,.int .i64 (.ofNat 2),.bool false,.bool false,.int .i64 (.ofNat 2),.bool false,.bool false,.int .i64 (.ofNat 2),
 .bool false,.bool false,.int .i64 (.ofNat 2),.bool false,.bool false,.int .i64 (.ofNat 2),.bool false,.bool false,.int .i64 (.ofNat 2),
 .bool false,.bool false,.int .i64 (.ofNat 2),.bool false,.bool false,.int .i64 (.ofNat 2),.bool false,.bool false,.int .i64 (.ofNat 2),
 .bool false,.bool false,.int .i64 (.ofNat 2),.bool false,.bool false,.int .i64 (.ofNat 2)]
def tbl4:List AV:=[.bool false,.bool false,.bool false,.bool false,.int .i64 (.ofNat 0),.bool true,.bool false,.bool false,.bool false,.int .i64 (.ofNat 1),
 .bool true,.bool true,.bool true,.bool false,.int .i64 (.ofNat 0),.bool false,.bool true,.bool true,.bool false,.int .i64 (.ofNat 1),
 .bool true,.bool true,.bool true,.bool false,.int .i64 (.ofNat 2),.bool true,.bool true,.bool true,.bool false,.int .i64 (.ofNat 1),
 .bool true,.bool true,.bool true,.bool false,.int .i64 (.ofNat 1),.bool false,.bool false,.bool true,.bool false,.int .i64 (.ofNat 0),
 .bool false,.bool false,.bool false,.bool false,.int .i64 (.ofNat 1),.bool false,.bool false,.bool false,.bool false,.int .i64 (.ofNat 1),
 .bool false,.bool false,.bool false,.bool true,.int .i64 (.ofNat 0),.bool false,.bool false,.bool false,.bool true,.int .i64 (.ofNat 1),
 .bool false,.bool false,.bool false,.bool false,.int .i64 (.ofNat 0),.bool false,.bool false,.bool false,.bool false,.int .i64 (.ofNat 0)]
def gl:Z0n:=λg=>if Y0g g 1 then some tbl0 else if Y0g g 5 then some ZmX else if Y0g g 4 then some ZmW else if Y0g g 2 then some ZmV else if Y0g g 0 then some tbl4 else none
theorem follows:Y00.follows .mixedOrders=true:=by kernel_rfl
theorem Z95:(Y00.funcs.toList.all λfn=>!(fn.name == "runtime.NumGoroutine"))=true:=by kernel_rfl
theorem Z11:NoNum Y00:=⟨λg fn h=>by
 have h1:=Y0i.1 Z95 fn (Array.mem_toList_iff.2 (Array.mem_of_getElem? h))
 simpa using h1,of_decide_eq_true (by kernel_rfl)⟩
theorem n0:Y00.globalNamed "math/bits.deBruijn32tab" = some 1:=by kernel_rfl
theorem ty0:(Y00.globals[1]?).map (·.type)=some 89:=by kernel_rfl
theorem av0:Zgv Y00 6 89 (Rows.laid_math_bits_deBruijn32tab (H:=Unit))=some tbl0:=by kernel_rfl
theorem n1:Y00.globalNamed "math/bits.deBruijn64tab" = some 5:=by kernel_rfl
theorem ty1:(Y00.globals[5]?).map (·.type)=some 144:=by kernel_rfl
theorem av1:Zgv Y00 6 144 (Rows.laid_math_bits_deBruijn64tab (H:=Unit))=some ZmX:=by kernel_rfl
theorem n2:Y00.globalNamed "internal/strconv.uint64pow10" = some 4:=by kernel_rfl
theorem ty2:(Y00.globals[4]?).map (·.type)=some 137:=by kernel_rfl
theorem av2:Zgv Y00 6 137 (Rows.laid_internal_strconv_uint64pow10 (H:=Unit))=some ZmW:=by kernel_rfl
theorem n3:Y00.globalNamed "cantilever/ast.shapes" = some 2:=by kernel_rfl
theorem ty3:(Y00.globals[2]?).map (·.type)=some 131:=by kernel_rfl
theorem av3:Zgv Y00 6 131 (Rows.laid_cantilever_ast_shapes (H:=Unit))=some ZmV:=by kernel_rfl
theorem n4:Y00.globalNamed "cantilever/ir.shapes" = some 0:=by kernel_rfl
theorem ty4:(Y00.globals[0]?).map (·.type)=some 81:=by kernel_rfl
theorem av4:Zgv Y00 6 81 (Rows.laid_cantilever_ir_shapes (H:=Unit))=some tbl4:=by kernel_rfl
theorem globs{W:World}(h:laidMetH Y00 [("math/bits.deBruijn32tab", Rows.laid_math_bits_deBruijn32tab), ("math/bits.deBruijn64tab", Rows.laid_math_bits_deBruijn64tab), ("internal/strconv.uint64pow10", Rows.laid_internal_strconv_uint64pow10), ("cantilever/ast.shapes", Rows.laid_cantilever_ast_shapes), ("cantilever/ir.shapes", Rows.laid_cantilever_ir_shapes)] W):GlOK gl (Z27 W):=by
 have h':laidMet Y00 [("math/bits.deBruijn32tab", Rows.laid_math_bits_deBruijn32tab), ("math/bits.deBruijn64tab", Rows.laid_math_bits_deBruijn64tab), ("internal/strconv.uint64pow10", Rows.laid_internal_strconv_uint64pow10), ("cantilever/ast.shapes", Rows.laid_cantilever_ast_shapes), ("cantilever/ir.shapes", Rows.laid_cantilever_ir_shapes)] W:=h
 obtain⟨_,hv,_⟩:=id h'
 obtain⟨m0,_⟩:=Z3E n0 ty0 av0 hv
 have h':=laidMet.tail h'
 obtain⟨_,hv,_⟩:=id h'
 obtain⟨m1,_⟩:=Z3E n1 ty1 av1 hv
 have h':=laidMet.tail h'
 obtain⟨_,hv,_⟩:=id h'
 obtain⟨m2,_⟩:=Z3E n2 ty2 av2 hv
 have h':=laidMet.tail h'
 obtain⟨_,hv,_⟩:=id h'
 obtain⟨m3,_⟩:=Z3E n3 ty3 av3 hv
 have h':=laidMet.tail h'
 obtain⟨_,hv,_⟩:=id h'
 obtain⟨m4,_⟩:=Z3E n4 ty4 av4 hv
 intro g cs hg
 unfold gl at hg
 split at hg
 ·rename_i e;have:=Y09 e;subst this;simp at hg;subst hg;exact m0
 split at hg
 ·rename_i e;have:=Y09 e;subst this;simp at hg;subst hg;exact m1
 split at hg
 ·rename_i e;have:=Y09 e;subst this;simp at hg;subst hg;exact m2
 split at hg
 ·rename_i e;have:=Y09 e;subst this;simp at hg;subst hg;exact m3
 split at hg
 ·rename_i e;have:=Y09 e;subst this;simp at hg;subst hg;exact m4
 cases hg
end Go.Proofs.YtpobjilfhkbhjaaDoor.runLives
end
namespace Go.Proofs.YtpobjilfhkbhjaaDoor.lex
open Go.Abs Go.RowKit
section
variable {gl:Z0n}
def szH(s:Nat):Z00:=[⟨true,0,0,.cells [.int .i64 s] 3⟩]
theorem Zj9{a b:Nat}(h:szH a=szH b):a=b:=by
 simp only[szH,List.cons.injEq,AObj.mk.injEq,ABody.cells.injEq,AV.int.injEq,and_true,true_and]at h
 omega
theorem ZeB{kids:List Ex}{i j:Nat}(hi:i<kids.length)(hj:j<kids.length)(h:(exC kids).drop (i*4)=(exC kids).drop (j*4)):i=j:=by
 have:=congrArg List.length h
 simp only[Y0D,ZfI]at this
 omega
theorem Zcf : ∀ (n : Nat) (e : Ex) (rest : List AV) (d : Int) (s : Nat), Z28 e <= n -> okE e -> s <= 2000 -> 0 <= d -> d <= 33 ->
  Z1N Y00 gl 18 [.rp (e.cells++rest),.int .i64 d,.ptr 0 0] (szH s) (.bool (smE e d s).1) (szH (smE e d s).2)
 |0,e,rest,d,s,h,_,_,_,_=>by have:=Z6C e;omega
 |n+1,.mk op num name kids,rest,d,s,h,hok,hs,h0,h1=>by
  simp only[Z28]at h
  obtain⟨⟨hn1,hn2⟩,hok2⟩:=Z6e hok
  simp only[Ex.name,Ex.kids]at hn1 hn2 hok2
  have hinj : ∀ p q : Nat × Nat, (p.1 < kids.length /\ p.2 <= 2000 /\ d + 1 <= 33) -> (q.1 < kids.length /\ q.2 <= 2000 /\ d + 1 <= 33) -> [AV.rp ((exC kids).drop (p.1 * 4)), .int .i64 (d + 1), .ptr 0 0] = [AV.rp ((exC kids).drop (q.1 * 4)), .int .i64 (d + 1), .ptr 0 0] -> szH p.2 = szH q.2 ->
    AV.bool (smE (kids.getD p.1 default) (d+1) p.2).1 = .bool (smE (kids.getD q.1 default) (d+1) q.2).1/\szH (smE (kids.getD p.1 default) (d+1) p.2).2=szH (smE (kids.getD q.1 default) (d+1) q.2).2:=λp q hp hq ha hh=>by
   simp only[List.cons.injEq,AV.rp.injEq,and_true]at ha
   rw[ZeB hp.1 hq.1 ha,Zj9 hh];exact⟨rfl,rfl⟩
  have hall:∀p:Nat×Nat,(p.1<kids.length/\p.2<=2000/\d+1<=33)->Z1N Y00 gl 18 [.rp ((exC kids).drop (p.1*4)),.int .i64 (d+1),.ptr 0 0] (szH p.2) (.bool (smE (kids.getD p.1 default) (d+1) p.2).1) (szH (smE (kids.getD p.1 default) (d+1) p.2).2):=λp hp=>by
   have hg:kids.getD p.1 default=kids[p.1]'hp.1:=by simp[Y0h,hp.1]
   rw[hg,Z8n kids p.1 hp.1]
   exact Zcf n _ _ (d+1) p.2 (by have:=Z3w _ _ (Z12 hp.1);omega) (Z3B hok2 _ (Z12 hp.1)) hp.2.1 (by omega) hp.2.2
  obtain⟨O,hO,⟨p1,-⟩,-⟩:=ZdE (P:=Y00) (gl:=gl) [{ I:=Nat×Nat,f:=18,G:=λp=>p.1<kids.length/\p.2<=2000/\d+1<=33,A:=λp=>[.rp ((exC kids).drop (p.1*4)),.int .i64 (d+1),.ptr 0 0],H:=λp=>szH p.2,R:=λp=>.bool (smE (kids.getD p.1 default) (d+1) p.2).1,O:=λp=>szH (smE (kids.getD p.1 default) (d+1) p.2).2,body:=(by kernel_rfl),inj:=hinj,ok:=hall }] [] rfl
  have q1:∀i (h:i<kids.length) t,t<=2000->d+1<=33->Z0e Y00 O (szH t) 18 [.rp ((exC kids).drop (i*4)),.int .i64 (d+1),.ptr 0 0]=some (.bool (smE kids[i] (d+1) t).1,szH (smE kids[i] (d+1) t).2):=λi h t h2 h3=>by
   have hg:kids.getD i default=kids[i]'h:=by simp[Y0h,h]
   have:=p1 (i,t) ⟨h,h2,h3⟩
   simpa only[hg]using this
  clear p1 hinj hall
  simp only[Ex.cells]
  have w1:IntKind.i64.wrap (d+1)=d+1:=Z7D (by omega) (by omega)
  have w2:IntKind.i64.wrap ((s:Int)+1)=((s+1:Nat):Int):=Ze6 (by omega)
  simp only[smE]
  refine Zls (k:=1) follows Z11 hO rfl Tryd.func18 rfl (ZcO _ _) ?_
  by_cases hs1:s+1<=2000
  · have e1:decide (((s+1:Nat):Int)>2000)=false:=by simp;omega
    by_cases hd:d<=32
    · have e2:decide (d>32)=false:=by simp;omega
      rw[if_pos ⟨hs1,hd⟩]
      repeat' ((conv=>whnf);first|(with_reducible refine exW w2 ?_)|refine stp ?_|with_reducible apply Z04<;>intro h)
      conv=>whnf
      refine⟨Nat,(λi=>i<=kids.length/\(smL (kids.take i) (d+1) (s+1)).1=true),(λi=>[(0,.rp ([.int .i64 op,.int .i64 num,.str name,.rs kids.length 4 (exC kids)]++rest)),(1,.int .i64 d),(2,.ptr 0 0),(25,.int .i64 kids.length),(26,.int .i64 i)]),(λi=>szH (smL (kids.take i) (d+1) (s+1)).2),(λi=>kids.length-i),⟨0,⟨Y08 _,by simp only[Y0b,smL]⟩,?_⟩,?_⟩
      · simp only[Y0b,smL]
        refine FgLK.mk [0] rfl rfl ?_ ⟨hbp,trivial⟩ rfl
        exact wks
      rintro i ⟨hi,hall⟩
      dsimp only
      have ht:=(smL_law (kids.take i) (d+1) (s+1) hs1 (by omega)).2 hall
      have ht2:=((smL_law (kids.take i) (d+1) (s+1) hs1 (by omega)).1.1 hall).1
      by_cases hlt:i<kids.length
      · have e3:decide ((i:Int)<(kids.length:Int))=true:=by simpa using hlt
        have q2:=q1 i hlt (smL (kids.take i) (d+1) (s+1)).2 (by omega) (by omega)
        have hat:=Ziy kids (d+1) (s+1) i hlt hall
        have hst:=Zcg kids (d+1) (s+1) (i+1)
        clear q1 ht ht2
        generalize (smL (kids.take i) (d+1) (s+1)).2=t at *
        generalize smE kids[i] (d+1) t=r at *
        obtain⟨b,t2⟩:=r
        simp only[szH]at *
        cases b with
        |true =>
         simp only[if_true]at hat
         repeat' ((conv=>whnf);first|refine exI q2 ?_|(with_reducible refine exW w1 ?_)|(with_reducible refine ixJ i rfl ?_ ?_;focus omega)|refine stp ?_|with_reducible apply Z04<;>intro h)
         conv=>whnf
         refine⟨i+1,⟨hlt,by rw[hat]⟩,by show kids.length-(i+1)<kids.length-i;omega,?_⟩
         rw[hat]
         refine FgLK.mk [0] rfl rfl ?_ ⟨hbp,trivial⟩ rfl
         exact wks
        |false =>
         simp only[Y0C,if_false]at hat
         rw[hst (by rw[hat]),hat]
         repeat' ((conv=>whnf);first|refine exI q2 ?_|(with_reducible refine exW w1 ?_)|(with_reducible refine ixJ i rfl ?_ ?_;focus omega)|refine stp ?_|with_reducible apply Z04<;>intro h)
         all_goals (conv=>whnf)
         all_goals exact⟨rfl,rfl⟩
      · have e3:decide ((i:Int)<(kids.length:Int))=false:=by simpa using hlt
        have hi2:i=kids.length:=by omega
        subst hi2
        rw[Y0d]at hall⊢
        generalize smL kids (d+1) (s+1)=r at *
        obtain⟨b,t2⟩:=r
        simp only at hall
        subst hall
        repeat' ((conv=>whnf);first|refine stp ?_|with_reducible apply Z04<;>intro h)
        all_goals (conv=>whnf)
        all_goals exact⟨rfl,rfl⟩
    · have e2:decide (d>32)=true:=by simp;omega
      rw[if_neg (by omega)]
      repeat' ((conv=>whnf);first|(with_reducible refine exW w2 ?_)|refine stp ?_|with_reducible apply Z04<;>intro h)
      all_goals (conv=>whnf)
      all_goals exact⟨rfl,rfl⟩
  · have e1:decide (((s+1:Nat):Int)>2000)=true:=by simp;omega
    rw[if_neg (by omega)]
    repeat' ((conv=>whnf);first|(with_reducible refine exW w2 ?_)|refine stp ?_|with_reducible apply Z04<;>intro h)
    all_goals (conv=>whnf)
    all_goals exact⟨rfl,rfl⟩
theorem Zjo{regs num:Int}{name:List UInt8}{kids:List Ex}:Z0I regs (.mk 1 num name kids)=(decide (num >= 0)&&(name==[]&&((kids.length:Int)==0))):=by
 simp only[Z0I,ZkO,if_true]
 cases kids with
 |nil=>simp[rightPL]
 |cons k l=>simp;intros;omega
theorem ZeF{regs num:Int}{name:List UInt8}{kids:List Ex}:Z0I regs (.mk 2 num name kids)=(decide (0<=Z4k name)&&(decide (Z4k name<regs)&&(num==0&&((kids.length:Int)==0)))):=by
 simp only[Z0I,ZkO]
 rw[if_neg (by decide),if_pos trivial]
 cases kids with
 |nil=>simp[rightPL]
 |cons k l=>simp;intros;omega
theorem Zjn{regs op num:Int}{name:List UInt8}{kids:List Ex}(h:op=3\/op=4):Z0I regs (.mk op num name kids)=(num==0&&(name==[]&&(((kids.length:Int)==1)&&rightPL regs kids))):=by
 simp only[Z0I,ZkO]
 rw[if_neg (by omega),if_neg (by omega),if_pos h]
 rw[Y0M];simp only[Y01,beq_iff_eq,decide_eq_true_eq]
 constructor
 ·rintro⟨⟨a,b,c⟩,d⟩;exact⟨a,b,by omega,d⟩
 ·rintro⟨a,b,c,d⟩;exact⟨⟨a,b,by omega⟩,d⟩
theorem Zjm{regs op num:Int}{name:List UInt8}{kids:List Ex}(h:5<=op/\op<=16):Z0I regs (.mk op num name kids)=(num==0&&(name==[]&&(((kids.length:Int)==2)&&rightPL regs kids))):=by
 simp only[Z0I,ZkO]
 rw[if_neg (by omega),if_neg (by omega),if_neg (by omega),if_pos h]
 rw[Y0M];simp only[Y01,beq_iff_eq,decide_eq_true_eq]
 constructor
 ·rintro⟨⟨a,b,c⟩,d⟩;exact⟨a,b,by omega,d⟩
 ·rintro⟨a,b,c,d⟩;exact⟨⟨a,b,by omega⟩,d⟩
theorem Z9S:∀(n:Nat)(e:Ex)(rest:List AV)(regs:Int),Z28 e<=n->okE e->ValOK Y00 gl 40 [.rp (e.cells++rest),.int .i64 regs] (.bool (Z0I regs e))
 |0,e,rest,regs,h,_=>by have:=Z6C e;omega
 |n+1,.mk op num name kids,rest,regs,h,hok=>by
  simp only[Z28]at h
  obtain⟨⟨hn1,hn2⟩,hok2⟩:=Z6e hok
  simp only[Ex.name,Ex.kids]at hn1 hn2 hok2
  have hinj:∀i j:Nat,i<kids.length->j<kids.length->[AV.rp ((exC kids).drop (i*4)),.int .i64 regs]=[AV.rp ((exC kids).drop (j*4)),.int .i64 regs]->AV.bool (Z0I regs (kids.getD i default)) = .bool (Z0I regs (kids.getD j default)):=λi j hi hj ha=>by
   simp only[List.cons.injEq,AV.rp.injEq,and_true]at ha
   rw[ZeB hi hj ha]
  have hall:∀i:Nat,i<kids.length->refsL [AV.rp ((exC kids).drop (i*4)),.int .i64 regs] []=[]/\ValOK Y00 gl 40 [.rp ((exC kids).drop (i*4)),.int .i64 regs] (.bool (Z0I regs (kids.getD i default))):=λi hi=>by
   have hg:kids.getD i default=kids[i]'hi:=by simp[Y0h,hi]
   rw[hg,Z8n kids i hi]
   exact⟨rfl,Z9S n _ _ regs (by have:=Z3w _ _ (Z12 hi);omega) (Z3B hok2 _ (Z12 hi))⟩
  obtain⟨O,hO,p1,p2,-⟩:=fams (P:=Y00) (gl:=gl) [{ I:=Unit,f:=23,G:=λ_=>True,A:=λ_=>[.str name],R:=λ_=>Ze1 name,body:=(by kernel_rfl),inj:=λ_ _ _ _ _=>rfl,ok:=λ_ _=>⟨rfl,Z6H _ hn1⟩ },
   { I:=Nat,f:=40,G:=λi=>i<kids.length,A:=λi=>[.rp ((exC kids).drop (i*4)),.int .i64 regs],R:=λi=>.bool (Z0I regs (kids.getD i default)),body:=(by kernel_rfl),inj:=hinj,ok:=hall }] rfl
  have q1:∀H,Z0e Y00 O H 23 [.str name]=some (Ze1 name,H):=p1 () trivial
  have q2:∀i (h:i<kids.length) H,Z0e Y00 O H 40 [.rp ((exC kids).drop (i*4)),.int .i64 regs]=some (.bool (Z0I regs kids[i]),H):=λi h H=>by
   have hg:kids.getD i default=kids[i]'h:=by simp[Y0h,h]
   have:=p2 i h H
   simpa only[hg]using this
  clear p1 p2 hinj hall
  simp only[Ex.cells]
  by_cases c1:op=1
  · subst c1
    rw[Zjo]
    refine Z0J follows Z11 hO Y0F rfl ?_
    repeat' ((conv=>whnf);first|refine stp ?_|with_reducible apply Z04<;>intro h)
    all_goals (clear q1 q2 hO;show AV.bool _=AV.bool _;congr 1;(first|(simp_all;done)|(simp_all;omega)|(simp_all;intros;omega)))
  by_cases c2:op=2
  · subst c2
    rw[ZeF]
    unfold Ze1 at q1
    by_cases hr:Z4k name<0
    · rw[if_pos hr]at q1
      have hr2:decide (0<=Z4k name)=false:=by simpa using hr
      rw[hr2]
      refine Z0J follows Z11 hO Y0F rfl ?_
      repeat' ((conv=>whnf);first|refine exI (q1 _) ?_|refine stp ?_|with_reducible apply Z04<;>intro h)
      all_goals rfl
    · rw[if_neg hr]at q1
      have hr2:decide (0<=Z4k name)=true:=by simpa using hr
      rw[hr2]
      clear hr hr2
      generalize Z4k name=nn at *
      refine Z0J follows Z11 hO Y0F rfl ?_
      repeat' ((conv=>whnf);first|refine exI (q1 _) ?_|refine stp ?_|with_reducible apply Z04<;>intro h)
      all_goals (clear q1 q2 hO;show AV.bool _=AV.bool _;congr 1;(first|(simp_all;done)|(simp_all;omega)|(simp_all;intros;omega)))
  have f1:(op==1)=false:=by simpa using c1
  have f2:(op==2)=false:=by simpa using c2
  by_cases cr:3<=op/\op<=16
  · have main : ∃ a : Int, Z0I regs (.mk op num name kids) = (num == 0 && (name == [] && (((kids.length : Int) == a) && rightPL regs kids))) /\ ((op = 3 /\ a = 1) \/ (op = 4 /\ a = 1) \/ (5 <= op /\ a = 2)) := by
     rcases (show (op=3\/op=4)\/5<=op by omega)with c3|c5
     ·exact⟨1,Zjn c3,by omega⟩
     ·exact⟨2,Zjm ⟨c5,cr.2⟩,by omega⟩
    obtain⟨a,hr,hc⟩:=main
    rw[hr]
    clear hr
    refine Z0J follows Z11 hO Y0F rfl ?_
    rcases hc with ⟨rfl,rfl⟩|⟨rfl,rfl⟩|⟨c5,rfl⟩
    case inr.inr =>
     have f3:(op==3)=false:=by simp;omega
     have f4:(op==4)=false:=by simp;omega
     have f5:decide (op<5)=false:=by simp;omega
     have f6:decide (op>16)=false:=by simp;omega
     clear c5 cr
     repeat' ((conv=>whnf);first|refine stp ?_|with_reducible apply Z04<;>intro h)
     all_goals (first|(clear q1 q2 hO;show AV.bool _=AV.bool _;congr 1;(first|(simp_all;done)|(simp_all;omega)|(simp_all;intros;omega)))|(
      have hz:(((num==0)&&(name==[]))&&((kids.length:Int)==2))=true:=by clear q1 q2 hO;simp_all
      have hr3:(num==0&&(name==[]&&(((kids.length:Int)==2)&&rightPL regs kids)))=rightPL regs kids:=by
       rw[<- Y0p,<- Y0p,hz,Y07]
      rw[hr3]
      clear hz hr3
      conv=>whnf
      refine⟨Nat,(λi=>i<=kids.length/\rightPL regs (kids.take i)=true),(λi=>[(0,.rp ([.int .i64 op,.int .i64 num,.str name,.rs kids.length 4 (exC kids)]++rest)),(1,.int .i64 regs),(121,.int .i64 kids.length),(122,.int .i64 i)]),(λi=>[]),(λi=>kids.length-i),⟨0,⟨Y08 _,rfl⟩,Y0j rfl ?_⟩,?_⟩
      ·exact wks
      rintro i ⟨hi,hall⟩
      dsimp only
      by_cases hlt:i<kids.length
      · have e3:decide ((i:Int)<(kids.length:Int))=true:=by simpa using hlt
        have q2':=q2 i hlt
        have hat:=Z1T regs kids i hlt
        rw[hall,Y07]at hat
        have hst:=Z2a (regs:=regs) hlt
        generalize Z0I regs kids[i]=r at *
        cases r with
        |true =>
         repeat' ((conv=>whnf);first|refine exI (q2' _) ?_|(with_reducible refine ixJ i rfl ?_ ?_;focus omega)|refine stp ?_|with_reducible apply Z04<;>intro h)
         conv=>whnf
         refine⟨i+1,⟨hlt,hat⟩,by show kids.length-(i+1)<kids.length-i;omega,Y0j rfl ?_⟩
         exact wks
        |false =>
         rw[hst rfl]
         repeat' ((conv=>whnf);first|refine exI (q2' _) ?_|(with_reducible refine ixJ i rfl ?_ ?_;focus omega)|refine stp ?_|with_reducible apply Z04<;>intro h)
         all_goals rfl
      · have e3:decide ((i:Int)<(kids.length:Int))=false:=by simpa using hlt
        have hi2:i=kids.length:=by omega
        subst hi2
        rw[Y0d]at hall
        rw[hall]
        repeat' ((conv=>whnf);first|refine stp ?_|with_reducible apply Z04<;>intro h)
        all_goals rfl))
    case inl =>
     repeat' ((conv=>whnf);first|refine stp ?_|with_reducible apply Z04<;>intro h)
     all_goals (first|(clear q1 q2 hO;show AV.bool _=AV.bool _;congr 1;(first|(simp_all;done)|(simp_all;omega)|(simp_all;intros;omega)))|(
      have hz:(((num==0)&&(name==[]))&&((kids.length:Int)==1))=true:=by clear q1 q2 hO;simp_all
      have hr3:(num==0&&(name==[]&&(((kids.length:Int)==1)&&rightPL regs kids)))=rightPL regs kids:=by
       rw[<- Y0p,<- Y0p,hz,Y07]
      rw[hr3]
      clear hz hr3
      conv=>whnf
      refine⟨Nat,(λi=>i<=kids.length/\rightPL regs (kids.take i)=true),(λi=>[(0,.rp ([.int .i64 3,.int .i64 num,.str name,.rs kids.length 4 (exC kids)]++rest)),(1,.int .i64 regs),(121,.int .i64 kids.length),(122,.int .i64 i)]),(λi=>[]),(λi=>kids.length-i),⟨0,⟨Y08 _,rfl⟩,Y0j rfl ?_⟩,?_⟩
      ·exact wks
      rintro i ⟨hi,hall⟩
      dsimp only
      by_cases hlt:i<kids.length
      · have e3:decide ((i:Int)<(kids.length:Int))=true:=by simpa using hlt
        have q2':=q2 i hlt
        have hat:=Z1T regs kids i hlt
        rw[hall,Y07]at hat
        have hst:=Z2a (regs:=regs) hlt
        generalize Z0I regs kids[i]=r at *
        cases r with
        |true =>
         repeat' ((conv=>whnf);first|refine exI (q2' _) ?_|(with_reducible refine ixJ i rfl ?_ ?_;focus omega)|refine stp ?_|with_reducible apply Z04<;>intro h)
         conv=>whnf
         refine⟨i+1,⟨hlt,hat⟩,by show kids.length-(i+1)<kids.length-i;omega,Y0j rfl ?_⟩
         exact wks
        |false =>
         rw[hst rfl]
         repeat' ((conv=>whnf);first|refine exI (q2' _) ?_|(with_reducible refine ixJ i rfl ?_ ?_;focus omega)|refine stp ?_|with_reducible apply Z04<;>intro h)
         all_goals rfl
      · have e3:decide ((i:Int)<(kids.length:Int))=false:=by simpa using hlt
        have hi2:i=kids.length:=by omega
        subst hi2
        rw[Y0d]at hall
        rw[hall]
        repeat' ((conv=>whnf);first|refine stp ?_|with_reducible apply Z04<;>intro h)
        all_goals rfl))
    case inr.inl =>
     repeat' ((conv=>whnf);first|refine stp ?_|with_reducible apply Z04<;>intro h)
     all_goals (first|(clear q1 q2 hO;show AV.bool _=AV.bool _;congr 1;(first|(simp_all;done)|(simp_all;omega)|(simp_all;intros;omega)))|(
      have hz:(((num==0)&&(name==[]))&&((kids.length:Int)==1))=true:=by clear q1 q2 hO;simp_all
      have hr3:(num==0&&(name==[]&&(((kids.length:Int)==1)&&rightPL regs kids)))=rightPL regs kids:=by
       rw[<- Y0p,<- Y0p,hz,Y07]
      rw[hr3]
      clear hz hr3
      conv=>whnf
      refine⟨Nat,(λi=>i<=kids.length/\rightPL regs (kids.take i)=true),(λi=>[(0,.rp ([.int .i64 4,.int .i64 num,.str name,.rs kids.length 4 (exC kids)]++rest)),(1,.int .i64 regs),(121,.int .i64 kids.length),(122,.int .i64 i)]),(λi=>[]),(λi=>kids.length-i),⟨0,⟨Y08 _,rfl⟩,Y0j rfl ?_⟩,?_⟩
      ·exact wks
      rintro i ⟨hi,hall⟩
      dsimp only
      by_cases hlt:i<kids.length
      · have e3:decide ((i:Int)<(kids.length:Int))=true:=by simpa using hlt
        have q2':=q2 i hlt
        have hat:=Z1T regs kids i hlt
        rw[hall,Y07]at hat
        have hst:=Z2a (regs:=regs) hlt
        generalize Z0I regs kids[i]=r at *
        cases r with
        |true =>
         repeat' ((conv=>whnf);first|refine exI (q2' _) ?_|(with_reducible refine ixJ i rfl ?_ ?_;focus omega)|refine stp ?_|with_reducible apply Z04<;>intro h)
         conv=>whnf
         refine⟨i+1,⟨hlt,hat⟩,by show kids.length-(i+1)<kids.length-i;omega,Y0j rfl ?_⟩
         exact wks
        |false =>
         rw[hst rfl]
         repeat' ((conv=>whnf);first|refine exI (q2' _) ?_|(with_reducible refine ixJ i rfl ?_ ?_;focus omega)|refine stp ?_|with_reducible apply Z04<;>intro h)
         all_goals rfl
      · have e3:decide ((i:Int)<(kids.length:Int))=false:=by simpa using hlt
        have hi2:i=kids.length:=by omega
        subst hi2
        rw[Y0d]at hall
        rw[hall]
        repeat' ((conv=>whnf);first|refine stp ?_|with_reducible apply Z04<;>intro h)
        all_goals rfl))
  · have hr : Z0I regs (.mk op num name kids) = false := by
     simp only[Z0I,ZkO]
     rw[if_neg c1,if_neg c2,if_neg (by omega),if_neg (by omega)];rfl
    rw[hr]
    have f3:(op==3)=false:=by simp;omega
    have f4:(op==4)=false:=by simp;omega
    refine Z0J follows Z11 hO Y0F rfl ?_
    by_cases c5:op<5
    · have f5:decide (op<5)=true:=by simpa using c5
      repeat' ((conv=>whnf);first|refine stp ?_|with_reducible apply Z04<;>intro h)
      all_goals rfl
    · have f5:decide (op<5)=false:=by simpa using c5
      have f6:decide (op>16)=true:=by simp;omega
      repeat' ((conv=>whnf);first|refine stp ?_|with_reducible apply Z04<;>intro h)
      all_goals rfl
end
end Go.Proofs.YtpobjilfhkbhjaaDoor.lex
section
namespace Go.Proofs.YtpobjilfhkbhjaaDoor.lex
open Go.Abs Go.RowKit Go.Flat
def Zdb(k:Int):Bool:=k==1 || (k==2 || (k==4 || (k==5 || k==6)))
def Zm2(k:Int):Bool:=decide (2<=k/\k<=6)
def ZlO(k:Int):Bool:=decide (2<=k/\k<=7)
def toB(k:Int):Bool:=k==10 || k==11
def ZlR(k:Int):Int:=if k=4 then 2 else if k=1\/k=3\/k=5\/k=6\/k=8\/k=9\/k=11 then 1 else 0
def inW(n lo hi:Int)(must:Bool):Bool:=if must then decide (lo<=n)&&decide (n<hi) else n==0
def Z1g(regs n:Int)(i:Ins):Bool:=decide (1<=i.kind/\i.kind<=13)&&(inW i.reg 0 regs (Zdb i.kind)&&(inW i.loc 0 6 (Zm2 i.kind)&&(inW i.order 1 7 (ZlO i.kind)&&(inW i.to 0 n (toB i.kind)&&(((i.ex.length:Int)==ZlR i.kind)&&rightPL regs i.ex)))))
theorem Ze8{gl:Z0n}(n lo hi:Int)(m:Bool):ValOK Y00 gl 39 [.int .i64 n,.int .i64 lo,.int .i64 hi,.bool m] (.bool (inW n lo hi m)):=by
 refine Z0J follows Z11 Z1b Tryd.func39 rfl ?_
 repeat' ((conv=>whnf);first|refine stp ?_|with_reducible apply Z04<;>intro h)
 all_goals (show AV.bool _=AV.bool _;congr 1;unfold inW;(first|(simp_all;done)|(simp_all;omega)|(simp_all;intros;omega)))
def Ziz(k:Int):List AV:=[.bool (Zdb k),.bool (Zm2 k),.bool (ZlO k),.bool (toB k),.int .i64 (ZlR k)]
theorem Zhe(k:Nat)(h1:1<=k)(h2:k<=13):tk 5 (runLives.tbl4.drop (k*5))=some (Ziz k):=by
 have:k=1\/k=2\/k=3\/k=4\/k=5\/k=6\/k=7\/k=8\/k=9\/k=10\/k=11\/k=12\/k=13:=by omega
 rcases this with rfl|rfl|rfl|rfl|rfl|rfl|rfl|rfl|rfl|rfl|rfl|rfl|rfl<;>rfl
theorem ZeE(regs:Int)(n:Nat)(cs:List AV)(i:Ins)(rest:List AV)(hok:okL i.ex)(hl:i.ex.length<=9223372036854775807):ValOK Y00 runLives.gl 19 [.agg [.int .i64 regs,.rs n 6 cs],.rp (Z0E i++rest)] (.bool (Z1g regs n i)):=by
 obtain⟨kind,reg,loc,order,to,ex⟩:=i
 simp only at hok hl
 have hinj:∀i j:Nat,i<ex.length->j<ex.length->[AV.rp ((exC ex).drop (i*4)),.int .i64 regs]=[AV.rp ((exC ex).drop (j*4)),.int .i64 regs]->AV.bool (Z0I regs (ex.getD i default)) = .bool (Z0I regs (ex.getD j default)):=λi j hi hj ha=>by
  simp only[List.cons.injEq,AV.rp.injEq,and_true]at ha
  rw[ZeB hi hj ha]
 have hall:∀i:Nat,i<ex.length->refsL [AV.rp ((exC ex).drop (i*4)),.int .i64 regs] []=[]/\ValOK Y00 runLives.gl 40 [.rp ((exC ex).drop (i*4)),.int .i64 regs] (.bool (Z0I regs (ex.getD i default))):=λi hi=>by
  have hg:ex.getD i default=ex[i]'hi:=by simp[Y0h,hi]
  rw[hg,Z8n ex i hi]
  exact⟨rfl,Z9S _ _ _ regs (Y0e _) (Z3B hok _ (Z12 hi))⟩
 obtain⟨O,hO,p1,p2,-⟩:=fams (P:=Y00) (gl:=runLives.gl) [{ I:=Int×Int×Int×Bool,f:=39,G:=λ_=>True,A:=λp=>[.int .i64 p.1,.int .i64 p.2.1,.int .i64 p.2.2.1,.bool p.2.2.2],R:=λp=>.bool (inW p.1 p.2.1 p.2.2.1 p.2.2.2),body:=(by kernel_rfl),inj:=(λp q _ _ h=>by simp only[List.cons.injEq,AV.int.injEq,AV.bool.injEq,and_true,true_and]at h;rw[h.1,h.2.1,h.2.2.1,h.2.2.2]),ok:=λp _=>⟨rfl,Ze8 _ _ _ _⟩ },
  { I:=Nat,f:=40,G:=λi=>i<ex.length,A:=λi=>[.rp ((exC ex).drop (i*4)),.int .i64 regs],R:=λi=>.bool (Z0I regs (ex.getD i default)),body:=(by kernel_rfl),inj:=hinj,ok:=hall }] rfl
 have q1:∀a b c d H,Z0e Y00 O H 39 [.int .i64 a,.int .i64 b,.int .i64 c,.bool d]=some (.bool (inW a b c d),H):=λa b c d H=>p1 (a,b,c,d) trivial H
 have q2:∀i (h:i<ex.length) H,Z0e Y00 O H 40 [.rp ((exC ex).drop (i*4)),.int .i64 regs]=some (.bool (Z0I regs ex[i]),H):=λi h H=>by
  have hg:ex.getD i default=ex[i]'h:=by simp[Y0h,h]
  have:=p2 i h H
  simpa only[hg]using this
 clear p1 p2 hinj hall
 simp only[Z0E,exA]
 by_cases hk:1<=kind/\kind<=13
 · obtain⟨k,rfl⟩:∃k:Nat,kind=k:=⟨kind.toNat,by omega⟩
   have e1:decide ((k:Int)<1)=false:=by simp;omega
   have e2:decide ((k:Int)>13)=false:=by simp;omega
   have hx:=Zhe k (by omega) (by omega)
   have hr:Z1g regs n ⟨k,reg,loc,order,to,ex⟩=(inW reg 0 regs (Zdb k)&&(inW loc 0 6 (Zm2 k)&&(inW order 1 7 (ZlO k)&&(inW to 0 n (toB k)&&(((ex.length:Int)==ZlR k)&&rightPL regs ex))))):=by
    unfold Z1g
    rw[show decide (1<=(k:Int)/\(k:Int)<=13)=true by simpa using hk]
    rfl
   rw[hr]
   simp only[Ziz]at hx
   clear hr
   generalize Zdb k=b1 at *
   generalize Zm2 k=b2 at *
   generalize ZlO k=b3 at *
   generalize toB k=b4 at *
   generalize ZlR k=nx at *
   have q11:=q1 reg 0 regs b1
   have q12:=q1 loc 0 6 b2
   have q13:=q1 order 1 7 b3
   have q14:=q1 to 0 n b4
   clear q1
   generalize inW reg 0 regs b1=w1 at *
   generalize inW loc 0 6 b2=w2 at *
   generalize inW order 1 7 b3=w3 at *
   generalize inW to 0 n b4=w4 at *
   refine Z0J follows Z11 hO Tryd.func19 rfl ?_
   have hw:(w1&&(w2&&(w3&&w4)))=true\/(w1&&(w2&&(w3&&w4)))=false:=by cases (w1&&(w2&&(w3&&w4)))<;>simp
   rcases hw with hw|hw
   · simp only[Y01]at hw
     obtain⟨rfl,rfl,rfl,rfl⟩:=hw
     simp only[Y07]
     cases hn:((ex.length:Int)==nx) with
     |false =>
      have e3:((ex.length:Int) != nx)=true:=by simp only[bne,hn];rfl
      repeat' ((conv=>whnf);first|refine exI (q11 _) ?_|refine exI (q12 _) ?_|refine exI (q13 _) ?_|refine exI (q14 _) ?_|refine exI hx ?_|(with_reducible refine ixJ k rfl ?_ ?_;focus omega)|refine stp ?_|with_reducible apply Z04<;>intro h)
      all_goals rfl
     |true =>
      have e3:((ex.length:Int) != nx)=false:=by simp only[bne,hn];rfl
      rw[Y07]
      repeat' ((conv=>whnf);first|refine exI (q11 _) ?_|refine exI (q12 _) ?_|refine exI (q13 _) ?_|refine exI (q14 _) ?_|refine exI hx ?_|(with_reducible refine ixJ k rfl ?_ ?_;focus omega)|refine stp ?_|with_reducible apply Z04<;>intro h)
      conv=>whnf
      clear q11 q12 q13 q14 hx
      refine⟨Nat,(λi=>i<=ex.length/\rightPL regs (ex.take i)=true),(λi=>[(1,.rp ([.int .i64 k,.int .i64 reg,.int .i64 loc,.int .i64 order,.int .i64 to,.rs ex.length 4 (exC ex)]++rest)),(2,.ptr 0 0),(80,.int .i64 ex.length),(81,.int .i64 i)]),(λi=>[⟨true,0,0,.cells [.int .i64 regs,.rs n 6 cs] 24⟩]),(λi=>ex.length-i),⟨0,⟨Y08 _,rfl⟩,?_⟩,?_⟩
      · refine Y0c [0] rfl ?_ ⟨hbp,trivial⟩ rfl
        exact wks
      rintro i ⟨hi,hall⟩
      dsimp only
      by_cases hlt:i<ex.length
      · have e3:decide ((i:Int)<(ex.length:Int))=true:=by simpa using hlt
        have q2':=q2 i hlt
        have hat:=Z1T regs ex i hlt
        rw[hall,Y07]at hat
        have hst:=Z2a (regs:=regs) hlt
        generalize Z0I regs ex[i]=r at *
        cases r with
        |true =>
         repeat' ((conv=>whnf);first|refine exI (q2' _) ?_|(with_reducible refine ixJ i rfl ?_ ?_;focus omega)|refine stp ?_|with_reducible apply Z04<;>intro h)
         conv=>whnf
         refine⟨i+1,⟨hlt,hat⟩,by show ex.length-(i+1)<ex.length-i;omega,?_⟩
         refine Y0c [0] rfl ?_ ⟨hbp,trivial⟩ rfl
         exact wks
        |false =>
         rw[hst rfl]
         repeat' ((conv=>whnf);first|refine exI (q2' _) ?_|(with_reducible refine ixJ i rfl ?_ ?_;focus omega)|refine stp ?_|with_reducible apply Z04<;>intro h)
         all_goals rfl
      · have e3:decide ((i:Int)<(ex.length:Int))=false:=by simpa using hlt
        have hi2:i=ex.length:=by omega
        subst hi2
        rw[Y0d]at hall
        rw[hall]
        repeat' ((conv=>whnf);first|refine stp ?_|with_reducible apply Z04<;>intro h)
        all_goals rfl
   · rw[show (w1&&(w2&&(w3&&(w4&&(((ex.length:Int)==nx)&&rightPL regs ex)))))=false by revert hw;cases w1<;>cases w2<;>cases w3<;>cases w4<;>simp]
     cases w1 with
     |false =>
      repeat' ((conv=>whnf);first|refine exI (q11 _) ?_|refine exI (q12 _) ?_|refine exI (q13 _) ?_|refine exI (q14 _) ?_|refine exI hx ?_|(with_reducible refine ixJ k rfl ?_ ?_;focus omega)|refine stp ?_|with_reducible apply Z04<;>intro h)
      all_goals rfl
     |true =>
      cases w2 with
      |false =>
       repeat' ((conv=>whnf);first|refine exI (q11 _) ?_|refine exI (q12 _) ?_|refine exI (q13 _) ?_|refine exI (q14 _) ?_|refine exI hx ?_|(with_reducible refine ixJ k rfl ?_ ?_;focus omega)|refine stp ?_|with_reducible apply Z04<;>intro h)
       all_goals rfl
      |true =>
       cases w3 with
       |false =>
        repeat' ((conv=>whnf);first|refine exI (q11 _) ?_|refine exI (q12 _) ?_|refine exI (q13 _) ?_|refine exI (q14 _) ?_|refine exI hx ?_|(with_reducible refine ixJ k rfl ?_ ?_;focus omega)|refine stp ?_|with_reducible apply Z04<;>intro h)
        all_goals rfl
       |true =>
        cases w4 with
        |false =>
         repeat' ((conv=>whnf);first|refine exI (q11 _) ?_|refine exI (q12 _) ?_|refine exI (q13 _) ?_|refine exI (q14 _) ?_|refine exI hx ?_|(with_reducible refine ixJ k rfl ?_ ?_;focus omega)|refine stp ?_|with_reducible apply Z04<;>intro h)
         all_goals rfl
        |true=>cases hw
 · have hr : Z1g regs n ⟨kind, reg, loc, order, to, ex⟩ = false := by
    unfold Z1g
    rw[show decide (1<=kind/\kind<=13)=false by simpa using hk];rfl
   rw[hr]
   refine Z0J follows Z11 hO Tryd.func19 rfl ?_
   by_cases h1:kind<1
   · have e1:decide (kind<1)=true:=by simpa using h1
     repeat' ((conv=>whnf);first|refine stp ?_|with_reducible apply Z04<;>intro h)
     all_goals rfl
   · have e1:decide (kind<1)=false:=by simpa using h1
     have e2:decide (kind>13)=true:=by simp;omega
     repeat' ((conv=>whnf);first|refine stp ?_|with_reducible apply Z04<;>intro h)
     all_goals rfl
end Go.Proofs.YtpobjilfhkbhjaaDoor.lex
end
section
namespace Go.Proofs.YtpobjilfhkbhjaaDoor.lex
open Go.Abs Go.RowKit Go.Flat
instance:Inhabited (In Ex):=⟨⟨0,0,0,0,0,[]⟩⟩
def ZlE(c:Cd):Bool:=c.ins.any λi=>i.ex.any Ze4
def ZhR(c:Cd):Bool:=match c.ins[c.ins.length-1]? with
 |some i=>i.kind==10 || (i.kind==12 || i.kind==13)
 |none=>false
def ZgV(c:Cd):Int:=if (16<c.regs\/4000<c.ins.length)\/ZlE c=true then 3 else if c.regs<0\/c.ins.length=0 then 2 else if c.ins.all (Z1g c.regs c.ins.length)=false then 2 else if ZhR c=true then 0 else 2
theorem Znr{α : Type}{p : α -> Bool}(l:List α)(i:Nat)(h:i<l.length):(l.take (i+1)).any p=((l.take i).any p || p l[i]):=by
 rw[Y0E h,List.any_append];simp
theorem ZmR{α : Type}{p : α -> Bool}(l:List α)(i:Nat)(h:i<l.length):(l.take (i+1)).all p=((l.take i).all p&&p l[i]):=by
 rw[Y0E h,Y0Q];simp
theorem ZgE{α : Type}{p : α -> Bool}{l:List α}{i:Nat}(h:i<l.length)(h2:p l[i]=true):l.any p=true:=Y0G.2 ⟨_,Y0A h,h2⟩
theorem ZbG{α : Type}{p : α -> Bool}{l:List α}{i:Nat}(h:i<l.length)(h2:p l[i]=false):l.all p=false:=by
 rw[Bool.eq_false_iff];intro h3
 rw[Y0i.1 h3 _ (Y0A h)]at h2;cases h2
def ckH(regs:Int)(n:Nat)(cs:List AV)(s:Nat):Z00:=[⟨true,0,0,.cells [.int .i64 regs,.rs n 6 cs] 24⟩,⟨true,1,0,.cells [.int .i64 s] 3⟩]
theorem Zh8(regs:Int)(n:Nat)(cs:List AV)(e:Ex)(rest:List AV)(hok:okE e):Z1N Y00 runLives.gl 18 [.rp (e.cells++rest),.int .i64 1,.ptr 1 0] (ckH regs n cs 0) (.bool (smE e 1 0).1) (ckH regs n cs (smE e 1 0).2):=by
 have hM:=Zcf (gl:=runLives.gl) (Z28 e) e rest 1 0 (Y0e _) hok (by omega) (by omega) (by omega)
 generalize (smE e 1 0).1=b at *
 generalize (smE e 1 0).2=t at *
 have h:=Zf1 (m:=[1]) (n:=3) (Hc:=ckH regs n cs 0) (cargs:=[.rp (e.cells++rest),.int .i64 1,.ptr 1 0]) hM rfl ?_ rfl rfl rfl rfl rfl rfl
 · have e1:Zd7 [1] (szH t) 0 (ckH regs n cs 0)=ckH regs n cs t:=rfl
   rw[e1]at h
   exact h
 ·exact⟨hbp,trivial⟩
theorem Z9n{a b:Ex}{r s:List AV}(h:a.cells++r=b.cells++s):a=b:=Z51 _ _ (List.append_inj_left h (by rw[Z2h,Z2h]))
theorem Z2Q{a b:Ins}(h:Z0E a=Z0E b):a=b:=by
 obtain⟨k,r,l,o,t,x⟩:=a
 obtain⟨k',r',l',o',t',x'⟩:=b
 simp only[Z0E,List.cons.injEq,AV.int.injEq,true_and,and_true]at h
 obtain⟨rfl,rfl,rfl,rfl,rfl,h⟩:=h
 rw[Zkd h]
theorem Z7G{a b:Ins}{r s:List AV}(h:Z0E a++r=Z0E b++s):a=b:=Z2Q (List.append_inj_left h rfl)
theorem Zll(l:List Ins)(k:Nat)(h:k<l.length):tk 1 (((inC l).drop (k*6)).drop 5)=some [exA l[k].ex]:=by rw[Z8g l k h];rfl
theorem Zmx(l:List Ins)(k:Nat)(h:k<l.length):tk 1 (((inC l).drop (k*6)).drop 0)=some [.int .i64 l[k].kind]:=by rw[Z8g l k h];rfl
theorem Z41(c:Cd)(hok:okC c):ValOK Y00 runLives.gl 6 [c.av] (.int .i64 (ZgV c)):=by
 obtain⟨regs,ins⟩:=c
 obtain⟨hl,hx⟩:=hok
 simp only at hl hx
 have hinj : ∀ p q : Ex × List AV, okE p.1 -> okE q.1 -> [AV.rp (p.1.cells ++ p.2), .int .i64 1, .ptr 1 0] = [AV.rp (q.1.cells ++ q.2), .int .i64 1, .ptr 1 0] -> ckH regs ins.length (inC ins) 0 = ckH regs ins.length (inC ins) 0 ->
   AV.bool (smE p.1 1 0).1 = .bool (smE q.1 1 0).1/\ckH regs ins.length (inC ins) (smE p.1 1 0).2=ckH regs ins.length (inC ins) (smE q.1 1 0).2:=λp q _ _ ha _=>by
  simp only[List.cons.injEq,AV.rp.injEq,and_true]at ha
  rw[Z9n ha];exact⟨rfl,rfl⟩
 have hinj2 : ∀ p q : Ins × List AV, (okL p.1.ex /\ p.1.ex.length <= 9223372036854775807) -> (okL q.1.ex /\ q.1.ex.length <= 9223372036854775807) -> [AV.agg [.int .i64 regs, .rs ins.length 6 (inC ins)], AV.rp (Z0E p.1 ++ p.2)] = [AV.agg [.int .i64 regs, .rs ins.length 6 (inC ins)], AV.rp (Z0E q.1 ++ q.2)] ->
   AV.bool (Z1g regs ins.length p.1) = .bool (Z1g regs ins.length q.1):=λp q _ _ ha=>by
  simp only[List.cons.injEq,AV.rp.injEq,and_true,true_and]at ha
  rw[Z7G ha]
 obtain⟨O,hO,⟨p1,-⟩,p2,-⟩:=ZdE (P:=Y00) (gl:=runLives.gl) [{ I:=Ex×List AV,f:=18,G:=λp=>okE p.1,A:=λp=>[.rp (p.1.cells++p.2),.int .i64 1,.ptr 1 0],H:=λp=>ckH regs ins.length (inC ins) 0,R:=λp=>.bool (smE p.1 1 0).1,O:=λp=>ckH regs ins.length (inC ins) (smE p.1 1 0).2,body:=(by kernel_rfl),inj:=hinj,ok:=λp hp=>Zh8 regs ins.length (inC ins) p.1 p.2 hp }]
  [{ I:=Ins×List AV,f:=19,G:=λp=>okL p.1.ex/\p.1.ex.length<=9223372036854775807,A:=λp=>[.agg [.int .i64 regs,.rs ins.length 6 (inC ins)],.rp (Z0E p.1++p.2)],R:=λp=>.bool (Z1g regs ins.length p.1),body:=(by kernel_rfl),inj:=hinj2,ok:=λp hp=>⟨rfl,ZeE regs ins.length (inC ins) p.1 p.2 hp.1 hp.2⟩ }] rfl
 have q1:∀(ex:List Ex) m (h:m<ex.length),okL ex->Z0e Y00 O (ckH regs ins.length (inC ins) 0) 18 [.rp ((exC ex).drop (m*4)),.int .i64 1,.ptr 1 0]=some (.bool (!Ze4 ex[m]),ckH regs ins.length (inC ins) (smE ex[m] 1 0).2):=λex m h ho=>by
  rw[Z8n ex m h,<- Zl5]
  exact p1 (ex[m],_) (Z3B ho _ (Z12 h))
 have q2:∀i (h:i<ins.length) H,Z0e Y00 O H 19 [.agg [.int .i64 regs,.rs ins.length 6 (inC ins)],.rp ((inC ins).drop (i*6))]=some (.bool (Z1g regs ins.length ins[i]),H):=λi h H=>by
  rw[Z8g ins i h]
  exact p2 (ins[i],_) ⟨(hx _ (Z12 h)).2,(hx _ (Z12 h)).1⟩ H
 clear p1 p2 hinj hinj2
 unfold ZgV
 simp only[Cd.av,ckH]at q1⊢
 by_cases h1:16<regs\/4000<ins.length
 · rw[if_pos (.inl h1)]
   refine Z0J follows Z11 hO Tryd.func6 rfl ?_
   by_cases h2:16<regs
   · have e1:decide (regs>16)=true:=by simpa using h2
     repeat' ((conv=>whnf);first|refine stp ?_|with_reducible apply Z04<;>intro h)
     all_goals rfl
   · have e1:decide (regs>16)=false:=by simpa using h2
     have e2:decide ((ins.length:Int)>4000)=true:=by simp;omega
     repeat' ((conv=>whnf);first|refine stp ?_|with_reducible apply Z04<;>intro h)
     all_goals rfl
 have e1:decide (regs>16)=false:=by simp;omega
 have e2:decide ((ins.length:Int)>4000)=false:=by simp;omega
 refine Z0J follows Z11 hO Tryd.func6 rfl ?_
 repeat' ((conv=>whnf);first|refine stp ?_|with_reducible apply Z04<;>intro h)
 conv=>whnf
 refine⟨Nat,(λi=>i<=ins.length/\(ins.take i).any (λi=>i.ex.any Ze4)=false),(λi=>[(1,.ptr 0 0),(18,.int .i64 ins.length),(19,.int .i64 i)]),(λi=>[⟨true,0,0,.cells [.int .i64 regs,.rs ins.length 6 (inC ins)] 24⟩]),(λi=>ins.length-i),⟨0,⟨Y08 _,rfl⟩,?_⟩,?_⟩
 · refine Y0c [0] rfl ?_ ⟨hbp,trivial⟩ rfl
   exact wks
 rintro i ⟨hi,hall⟩
 dsimp only
 by_cases hlt:i<ins.length
 · have e3:decide ((i:Int)<(ins.length:Int))=true:=by simpa using hlt
   have hx5:=Zll ins i hlt
   have hat:=Znr (p:=λi:Ins=>i.ex.any Ze4) ins i hlt
   rw[hall,Bool.false_or]at hat
   have hbg:ins[i].ex.any Ze4=true->ZlE ⟨regs,ins⟩=true:=λh=>ZgE (p:=λi:Ins=>i.ex.any Ze4) hlt h
   have hxi:=hx _ (Z12 hlt)
   have q1':=q1 ins[i].ex
   clear q1
   generalize ins[i]=y at *
   obtain⟨k,r,lo,od,to,ex⟩:=y
   simp only[exA]at *
   repeat' ((conv=>whnf);first|refine exI hx5 ?_|(with_reducible refine ixJ i rfl ?_ ?_;focus omega)|refine stp ?_|with_reducible apply Z04<;>intro h)
   conv=>whnf
   refine⟨Nat,(λm=>m<=ex.length/\(ex.take m).any Ze4=false),(λm=>[(1,.ptr 0 0),(3,.int .i64 i),(18,.int .i64 ins.length),(19,.int .i64 i),(28,.int .i64 ex.length),(29,.int .i64 m)]),(λm=>[⟨true,0,0,.cells [.int .i64 regs,.rs ins.length 6 (inC ins)] 24⟩]),(λm=>ex.length-m),⟨0,⟨Y08 _,rfl⟩,?_⟩,?_⟩
   · refine Y0c [0] rfl ?_ ⟨hbp,trivial⟩ rfl
     exact wks
   rintro m ⟨hm,hall2⟩
   dsimp only
   by_cases hmt:m<ex.length
   · have e4:decide ((m:Int)<(ex.length:Int))=true:=by simpa using hmt
     have q3:=q1' m hmt hxi.2
     have ham:=Znr (p:=Ze4) ex m hmt
     rw[hall2,Bool.false_or]at ham
     have hb2:=ZgE (p:=Ze4) (l:=ex) hmt
     generalize (smE ex[m] 1 0).2=t at *
     generalize Ze4 ex[m]=b at *
     cases b with
     |false =>
      simp only[Bool.not_false]at q3
      repeat' ((conv=>whnf);first|refine exI q3 ?_|refine exI hx5 ?_|(with_reducible refine ixJ i rfl ?_ ?_;focus omega)|(with_reducible refine ixJ m rfl ?_ ?_;focus omega)|refine stp ?_|with_reducible apply Z04<;>intro h)
      conv=>whnf
      refine⟨m+1,⟨hmt,ham⟩,by show ex.length-(m+1)<ex.length-m;omega,?_⟩
      refine Y0c [0] rfl ?_ ⟨hbp,trivial⟩ rfl
      exact wks
     |true =>
      simp only[Bool.not_true]at q3
      rw[if_pos (.inr (hbg (hb2 rfl)))]
      repeat' ((conv=>whnf);first|refine exI q3 ?_|refine exI hx5 ?_|(with_reducible refine ixJ i rfl ?_ ?_;focus omega)|(with_reducible refine ixJ m rfl ?_ ?_;focus omega)|refine stp ?_|with_reducible apply Z04<;>intro h)
      all_goals rfl
   · have e4:decide ((m:Int)<(ex.length:Int))=false:=by simpa using hmt
     have hm2:m=ex.length:=by omega
     subst hm2
     rw[Y0d]at hall2
     rw[hall2]at hat
     repeat' ((conv=>whnf);first|refine stp ?_|with_reducible apply Z04<;>intro h)
     conv=>whnf
     refine⟨i+1,⟨hlt,hat⟩,by show ins.length-(i+1)<ins.length-i;omega,?_⟩
     refine Y0c [0] rfl ?_ ⟨hbp,trivial⟩ rfl
     exact wks
 · have e3:decide ((i:Int)<(ins.length:Int))=false:=by simpa using hlt
   have hi2:i=ins.length:=by omega
   subst hi2
   rw[Y0d]at hall
   clear q1
   have hbig:¬((16<regs\/4000<ins.length)\/ZlE ⟨regs,ins⟩=true):=by
    rintro (h|h)
    ·exact h1 h
    ·rw[show ZlE ⟨regs,ins⟩=false from hall]at h;cases h
   rw[if_neg hbig]
   by_cases h2:regs<0\/ins.length=0
   · rw[if_pos h2]
     by_cases h3:regs<0
     · have e4:decide (regs<0)=true:=by simpa using h3
       repeat' ((conv=>whnf);first|refine stp ?_|with_reducible apply Z04<;>intro h)
       all_goals rfl
     · have e4:decide (regs<0)=false:=by simpa using h3
       have e5:((ins.length:Int)==0)=true:=by simp;rcases h2 with h2|h2;exact absurd h2 h3;simpa using h2
       repeat' ((conv=>whnf);first|refine stp ?_|with_reducible apply Z04<;>intro h)
       all_goals rfl
   rw[if_neg h2]
   have e4:decide (regs<0)=false:=by simp;omega
   have h0:ins.length≠0:=λe=>h2 (.inr e)
   have e5:((ins.length:Int)==0)=false:=by simp;intro e;exact h0 (by rw[e];rfl)
   repeat' ((conv=>whnf);first|refine stp ?_|with_reducible apply Z04<;>intro h)
   conv=>whnf
   refine⟨Nat,(λi=>i<=ins.length/\(ins.take i).all (Z1g regs ins.length)=true),(λi=>[(1,.ptr 0 0),(55,.int .i64 ins.length),(56,.int .i64 i)]),(λi=>[⟨true,0,0,.cells [.int .i64 regs,.rs ins.length 6 (inC ins)] 24⟩]),(λi=>ins.length-i),⟨0,⟨Y08 _,rfl⟩,?_⟩,?_⟩
   · refine Y0c [0] rfl ?_ ⟨hbp,trivial⟩ rfl
     exact wks
   rintro i ⟨hi,hall3⟩
   dsimp only
   by_cases hlt:i<ins.length
   · have e6:decide ((i:Int)<(ins.length:Int))=true:=by simpa using hlt
     have q3:=q2 i hlt
     have hat:=ZmR (p:=Z1g regs ins.length) ins i hlt
     rw[hall3,Y07]at hat
     have hst:=ZbG (p:=Z1g regs ins.length) hlt
     generalize Z1g regs ins.length ins[i]=b at *
     cases b with
     |true =>
      repeat' ((conv=>whnf);first|refine exI (q3 _) ?_|(with_reducible refine ixJ i rfl ?_ ?_;focus omega)|refine stp ?_|with_reducible apply Z04<;>intro h)
      conv=>whnf
      refine⟨i+1,⟨hlt,hat⟩,by show ins.length-(i+1)<ins.length-i;omega,?_⟩
      refine Y0c [0] rfl ?_ ⟨hbp,trivial⟩ rfl
      exact wks
     |false =>
      rw[if_pos (hst rfl)]
      repeat' ((conv=>whnf);first|refine exI (q3 _) ?_|(with_reducible refine ixJ i rfl ?_ ?_;focus omega)|refine stp ?_|with_reducible apply Z04<;>intro h)
      all_goals rfl
   · have e6:decide ((i:Int)<(ins.length:Int))=false:=by simpa using hlt
     have hi2:i=ins.length:=by omega
     subst hi2
     rw[Y0d]at hall3
     rw[if_neg (by rw[hall3];decide)]
     have hlast:ins.length-1<ins.length:=by omega
     have hk:=Zmx ins (ins.length-1) hlast
     have hlb:ZhR ⟨regs,ins⟩=(ins[ins.length-1].kind==10 || (ins[ins.length-1].kind==12 || ins[ins.length-1].kind==13)):=by
      simp only[ZhR,Y02 hlast]
     rw[hlb]
     have w1:IntKind.i64.wrap ((ins.length:Int)-1)=((ins.length-1:Nat):Int):=by rw[Z7D (by omega) (by omega)];omega
     generalize ins[ins.length-1].kind=k at *
     cases c1:(k==10)<;>cases c2:(k==12)<;>cases c3:(k==13)
     all_goals (repeat' ((conv=>whnf);first|refine exI hk ?_|(with_reducible refine exW w1 ?_)|(with_reducible refine ixJ (ins.length-1) rfl ?_ ?_;focus omega)|refine stp ?_|with_reducible apply Z04<;>intro h))
     all_goals rfl
end Go.Proofs.YtpobjilfhkbhjaaDoor.lex
end
section
namespace Go.Proofs.YtpobjilfhkbhjaaDoor.lex
open Go.Abs Go.RowKit Go.Flat
variable {gl:Z0n}
structure Fine (c:Cd):Prop where
 good:Good c.ins
 right:∀i∈c.ins,Z1g c.regs c.ins.length i=true
 reg0:0<=c.regs
 reg1:c.regs<=16
 big:ZlE c=false
theorem Z9f{c:Cd}(h:ZgV c=0):Fine c:=by
 unfold ZgV at h
 split at h
 ·cases h
 rename_i h1
 split at h
 ·cases h
 rename_i h2
 split at h
 ·cases h
 rename_i h3
 split at h
 · rename_i h4
   have hr:∀i∈c.ins,Z1g c.regs c.ins.length i=true:=by
    have:c.ins.all (Z1g c.regs c.ins.length)=true:=by simpa using h3
    exact Y0i.1 this
   have hto:∀v,v<c.ins.length->(Z75 c.ins v).kind=10\/(Z75 c.ins v).kind=11->0<=(Z75 c.ins v).to/\(Z75 c.ins v).to<c.ins.length:=λv hv hk=>by
    rw[Z2e hv]at hk⊢
    have:=hr _ (Z12 hv)
    unfold Z1g at this
    simp only[Y01]at this
    have h5:=this.2.2.2.2.1
    have ht:toB c.ins[v].kind=true:=by unfold toB;rcases hk with h|h<;>simp[h]
    rw[ht]at h5
    simp only[inW,if_true,Y01,decide_eq_true_eq]at h5
    exact h5
   refine⟨⟨by omega,by omega,λv hv hk=>?_,λv hv w hw=>?_⟩,hr,by omega,by omega,by rw[<- Bool.not_eq_true];exact λh=>h1 (.inr h)⟩
   ·have:=hto v hv hk;omega
   · unfold nxL nxI at hw
     split at hw
     · rename_i hk
       have:=hto v hv (.inl hk)
       simp only[Y03,Y0B,or_false]at hw
       omega
     · rename_i hk10
       have hlast:¬((Z75 c.ins v).kind=12\/(Z75 c.ins v).kind=13)->v+1<c.ins.length:=λhk=>by
        refine Nat.lt_of_not_le λhle=>?_
        have hv2:v=c.ins.length-1:=by omega
        unfold ZhR at h4
        rw[<- hv2,Y02 hv]at h4
        rw[Z2e hv]at hk hk10
        simp only[Y0k,beq_iff_eq]at h4
        omega
       split at hw
       · rename_i hk
         have:=hto v hv (.inr hk)
         have:=hlast (by omega)
         simp only[Y03,Y0B,or_false]at hw
         omega
       · split at hw
         ·cases hw
         · rename_i hk
           have:=hlast hk
           simp only[Y03,Y0B,or_false]at hw
           omega
 ·cases h
open Classical in
noncomputable def Zhh(nx:Nat->List Nat)(v:Nat):Bool:=decide (Rch nx v)
theorem Z6b{nx:Nat->List Nat}{v:Nat}:Zhh nx v=true ↔ Rch nx v:=by unfold Zhh;simp
theorem Good.nx8{l:List Ins}(h:Good l){v:Nat}(hv:v<l.length){w:Nat}(hw:w∈Z0D l v):w<l.length:=h.nx v hv w ((Zcq l v w).1 hw)
theorem Good.lt8{l:List Ins}(h:Good l){v:Nat}(hv:Rch (Z0D l) v):v<l.length:=h.lt ((ZkI (Zcq l) v).1 hv)
theorem Z6W(l:List Ins)(v:Nat):(Z0D l v).length<=2:=by
 unfold Z0D nx8
 repeat' split
 all_goals simp
theorem Zle(n:Nat)(h:n<=1048576)(H:Z00):Z1d Y00 32 (.int .i64 n) (.int .i64 n) H=some (.slice H.length 0 n n 1,Z0X H (Z3W n [.bool false]) 4):=by
 have hz:tsz Y00 4=some 1:=by kernel_rfl
 have hb:(Y00.info? 4).map (·.bytes)=some 1:=by kernel_rfl
 have hu:Z1j Y00 4=some (.bool false):=by kernel_rfl
 exact Zcs Tryd.underlying32 hz hb hu rfl (by decide) n (by omega) (by omega)
theorem ZhQ(n:Nat)(out:Nat->Bool)(stk:List Nat):Z39 n out stk<=2*n+stk.length:=by
 unfold Z39
 have:∀l:List Nat,(l.map λv=>if out v=true then 0 else 2).sum<=2*l.length:=by
  intro l
  induction l with
  |nil=>simp
  |cons x l ih=>simp only[Y04,Y0t,Y0a];split<;>omega
 have:=this (List.range n)
 simp only[List.length_range]at this
 omega
theorem Zcw(n:Nat)(out:Nat->Bool)(stk:List Nat):stk.length<=Z39 n out stk:=by unfold Z39;omega
def reH(regs:Int)(l:List Ins)(out:Nat->Bool)(stk:List Nat):Z00 :=
 [⟨true,0,0,.cells [.int .i64 regs,.rs l.length 6 (inC l)] 24⟩,⟨true,1,0,.cells (arr (λv=>.bool (out v)) l.length) 4⟩,⟨true,2,0,.cells (nis stk.reverse) 3⟩]
theorem Z1Y(out:Nat->Bool)(n:Nat):refsL (arr (λv=>.bool (out v)) n) []=[]:=Z57 (λ_=>rfl) n
end Go.Proofs.YtpobjilfhkbhjaaDoor.lex
end
section
namespace Go.Live
open Go.Flat
def andN(a b:Nat):Nat:=a &&& (4294967295-b)
theorem Zgs{a i:Nat}(ha:a<4294967296)(hi:32<=i):a.testBit i=false:=Nat.testBit_lt_two_pow (Y0x ha (show 4294967296<=2 ^ i from Nat.pow_le_pow_right (n:=2) (by decide) hi))
theorem Zil{a b:Nat}(ha:a<4294967296)(hb:b<4294967296)(i:Nat):(andN a b).testBit i=(a.testBit i && !b.testBit i):=by
 unfold andN
 rw[Nat.testBit_and,show 4294967295-b=2 ^ 32-(b+1) by omega,Nat.testBit_two_pow_sub_succ (by omega)]
 by_cases hi:i<32
 ·simp[hi]
 ·rw[Zgs ha (by omega)];simp
theorem andN_lt{a b:Nat}(ha:a<4294967296):andN a b<4294967296:=Nat.lt_of_le_of_lt Nat.and_le_left ha
theorem Zla{a b:Nat}(ha:a<4294967296)(hb:b<4294967296):a ||| b<4294967296:=Nat.or_lt_two_pow (n:=32) ha hb
def joinN(live:Nat->Nat)(l:List Nat):Nat:=l.foldl (λm t=>m ||| live t) 0
theorem ZcG(live:Nat->Nat)(i:Nat):∀(l:List Nat)(m:Nat),(l.foldl (λm t=>m ||| live t) m).testBit i=(m.testBit i || l.any λt=>(live t).testBit i)
 |[],m=>by simp
 |t::l,m=>by rw[Y0N,ZcG live i l,Nat.testBit_or,List.any_cons,Bool.or_assoc]
theorem Za6(live:Nat->Nat)(l:List Nat)(i:Nat):(joinN live l).testBit i=l.any λt=>(live t).testBit i:=by
 unfold joinN;rw[ZcG];simp
theorem Z9e{live:Nat->Nat}:∀{l:List Nat}{m:Nat},(∀t∈l,live t<4294967296)->m<4294967296->l.foldl (λm t=>m ||| live t) m<4294967296
 |[],m,_,h=>h
 |t::l,m,h,hm=>by rw[Y0N];exact Z9e (λt ht=>h t (by simp[ht])) (Zla hm (h t (by simp)))
theorem joinN_lt{live:Nat->Nat}{l:List Nat}(h:∀t,live t<4294967296):joinN live l<4294967296:=Z9e (λt _=>h t) (by decide)
theorem joinN_take{live:Nat->Nat}{l:List Nat}{j:Nat}(h:j<l.length):joinN live (l.take (j+1))=joinN live (l.take j) ||| live l[j]:=by
 unfold joinN
 rw[Y0E h,List.foldl_append]
 rfl
def stepF(us st:Nat->Nat)(nx:Nat->List Nat)(live:Nat->Nat)(v:Nat):Nat:=us v ||| andN (joinN live (nx v)) (st v)
inductive Lv (us st:Nat->Nat) (nx:Nat->List Nat) (r:Nat):Nat->Prop
 |use {v:Nat}:(us v).testBit r=true->Lv us st nx r v
 |next {v w:Nat}:w∈nx v->Lv us st nx r w->(st v).testBit r=false->Lv us st nx r v
structure In32 (us st:Nat->Nat):Prop where
 us:∀v,us v<4294967296
 st:∀v,st v<4294967296
variable {us st:Nat->Nat} {nx:Nat->List Nat}
theorem Z3v(h:In32 us st){live:Nat->Nat}(hl:∀v,live v<4294967296)(v i:Nat):(stepF us st nx live v).testBit i=((us v).testBit i || ((nx v).any (λt=>(live t).testBit i) && !(st v).testBit i)):=by
 unfold stepF
 rw[Nat.testBit_or,Zil (joinN_lt hl) (h.st v),Za6]
theorem Zcd(h:In32 us st){live:Nat->Nat}(hl:∀v,live v<4294967296)(v:Nat):stepF us st nx live v<4294967296:=Zla (h.us v) (andN_lt (joinN_lt hl))
theorem Zem{live:Nat->Nat}{v u x:Nat}(h:v ∉ nx u):stepF us st nx (upd live v x) u=stepF us st nx live u:=by
 unfold stepF joinN
 have key:∀(l:List Nat)(m:Nat),v ∉ l->l.foldl (λm t=>m ||| upd live v x t) m=l.foldl (λm t=>m ||| live t) m:=by
  intro l
  induction l with
  |nil=>intro m _;rfl
  |cons t l ih =>
   intro m hm
   simp only[Y03,not_or]at hm
   rw[Y0N,Y0N,ih _ hm.2,Z07 (λe=>hm.1 e.symm)]
 rw[key _ _ h]
structure Inv (us st:Nat->Nat) (nx:Nat->List Nat) (n:Nat) (live:Nat->Nat) (w:List Nat):Prop where
 b32:∀v,live v<4294967296
 done:∀v,v<n->v ∉ w->live v=stepF us st nx live v
 le:∀v,v<n->∀i,(live v).testBit i=true->(stepF us st nx live v).testBit i=true
 snd:∀v i,(live v).testBit i=true->Lv us st nx i v
 wl:∀v∈w,v<n
theorem Inv.start(n:Nat):Inv us st nx n (λ_=>0) (List.range n).reverse:=⟨λ_=>by decide,λv hv hn=>(hn (by simp[hv])).elim,λv _ i h=>by simp at h,λv i h=>by simp at h,λv hv=>by simpa using hv⟩
theorem Inv.same{n v:Nat}{live:Nat->Nat}{w:List Nat}(h:Inv us st nx n live (v::w))(e:stepF us st nx live v=live v):Inv us st nx n live w :=
 ⟨h.b32, fun u hu hn => by
   by_cases hv:u=v
   ·subst hv;exact e.symm
   ·exact h.done u hu (by simp[hv,hn]),h.le,h.snd,λu hu=>h.wl u (by simp[hu])⟩
theorem Inv.new{n v:Nat}{live:Nat->Nat}{w a:List Nat}(h:Inv us st nx n live (v::w))(h3:In32 us st)(ha:∀u,u<n->v∈nx u->u∈a)(ha2:∀u∈a,u<n):Inv us st nx n (upd live v (stepF us st nx live v)) (a++w):=by
 have hv:v<n:=h.wl v (by simp)
 have hlt:∀u,upd live v (stepF us st nx live v) u<4294967296:=λu=>by
  by_cases e:u=v
  ·subst e;rw[Z08];exact Zcd h3 h.b32 _
  ·rw[Z07 e];exact h.b32 u
 have hle:∀u i,(live u).testBit i=true->(upd live v (stepF us st nx live v) u).testBit i=true:=λu i hi=>by
  by_cases e:u=v
  ·subst e;rw[Z08];exact h.le _ hv i hi
  ·rw[Z07 e];exact hi
 have hmono:∀u i,(stepF us st nx live u).testBit i=true->(stepF us st nx (upd live v (stepF us st nx live v)) u).testBit i=true:=λu i hi=>by
  rw[Z3v h3 h.b32]at hi
  rw[Z3v h3 hlt]
  simp only[Y0k,Y01,Y0G]at hi⊢
  rcases hi with hi|⟨⟨t,ht,hi⟩,h2⟩
  ·exact .inl hi
  ·exact .inr ⟨⟨t,ht,hle t i hi⟩,h2⟩
 refine⟨hlt,λu hu hn=>?_,λu hu i hi=>?_,λu i hi=>?_,λu hu=>?_⟩
 · simp only[Y0y,not_or]at hn
   have hnx:v ∉ nx u:=λhm=>hn.1 (ha u hu hm)
   rw[Zem hnx]
   by_cases e:u=v
   ·subst e;rw[Z08]
   ·rw[Z07 e];exact h.done u hu (by simp[e,hn.2])
 · by_cases e:u=v
   · subst e
     rw[Z08]at hi
     exact hmono _ i hi
   · rw[Z07 e]at hi
     exact hmono u i (h.le u hu i hi)
 · by_cases e:u=v
   · subst e
     rw[Z08,Z3v h3 h.b32]at hi
     simp only[Y0k,Y01,Y0G,Y0l]at hi
     rcases hi with hi|⟨⟨t,ht,hi⟩,h2⟩
     ·exact .use hi
     ·exact .next ht (h.snd t i hi) h2
   · rw[Z07 e]at hi
     exact h.snd u i hi
 · rcases Y0y.1 hu with hu|hu
   ·exact ha2 u hu
   ·exact h.wl u (by simp[hu])
theorem Inv.all{n:Nat}{live:Nat->Nat}(h:Inv us st nx n live [])(h3:In32 us st)(hnx:∀v,v<n->∀w∈nx v,w<n){v:Nat}(hv:v<n)(i:Nat):(live v).testBit i=true ↔ Lv us st nx i v:=by
 refine⟨h.snd v i,λhl=>?_⟩
 induction hl with
 |use hu=>rw[h.done _ hv (by simp),Z3v h3 h.b32];simp[hu]
 |next hw hl hs ih =>
  rw[h.done _ hv (by simp),Z3v h3 h.b32]
  have:=ih (hnx _ hv _ hw)
  simp only[Y0k,Y01,Y0G]
  exact .inr ⟨⟨_,hw,this⟩,by simp[hs]⟩
def bitsOf(m:Nat):List Nat:=(List.range 32).filter λi=>m.testBit i
theorem Zai{p q:Nat->Bool}(h:∀i,p i=true->q i=true):∀l:List Nat,(l.filter p).length<=(l.filter q).length
 |[]=>Y0e _
 |x::l=>by
  have:=Zai h l
  rw[Y0v,Y0v]
  cases hp:p x with
  |true=>rw[h x hp];simp;exact this
  |false =>
   cases q x with
   |true=>simp;omega
   |false=>simpa using this
theorem Zah{p q:Nat->Bool}(h:∀i,p i=true->q i=true):∀{l:List Nat}{x:Nat},x∈l->p x=false->q x=true->(l.filter p).length<(l.filter q).length
 |y::l,x,hx,h1,h2=>by
  rw[Y0v,Y0v]
  rcases Y03.1 hx with rfl|hx
  · rw[h1,h2]
    have:=Zai h l
    simp;omega
  · have:=Zah h hx h1 h2
    cases hp:p y with
    |true=>rw[h y hp];simpa using this
    |false =>
     cases q y with
     |true=>simp;omega
     |false=>simpa using this
theorem Zkv{a b:Nat}(ha:a<4294967296)(hb:b<4294967296)(h:∀i,a.testBit i=true->b.testBit i=true)(hne:a≠b):(bitsOf a).length<(bitsOf b).length:=by
 have:∃i,i<32/\a.testBit i=false/\b.testBit i=true:=by
  apply Classical.byContradiction
  intro hn
  apply hne
  apply Nat.eq_of_testBit_eq
  intro i
  by_cases hi:i<32
  · cases ea:a.testBit i with
    |true=>rw[h i ea]
    |false =>
     cases eb:b.testBit i with
     |false=>rfl
     |true=>exact (hn ⟨i,hi,ea,eb⟩).elim
  ·rw[Zgs ha (by omega),Zgs hb (by omega)]
 obtain⟨i,hi,h1,h2⟩:=this
 exact Zah h (List.mem_range.2 hi) h1 h2
theorem bits_le(a:Nat):(bitsOf a).length<=32:=by
 have:=List.length_filter_le (λi=>a.testBit i) (List.range 32)
 simpa[bitsOf]using this
theorem Ziv{f g:Nat->Nat}:∀{n:Nat},(∀u,u<n->f u<=g u)->((List.range n).map f).sum<=((List.range n).map g).sum
 |0,_=>Y0e _
 |n+1,h=>by
  have h1:=Ziv (f:=f) (g:=g) (n:=n) λu hu=>h u (by omega)
  have h2:=h n (by omega)
  rw[Y0R,Y0H,Y0H,Y0I,Y0I]
  simp;omega
theorem Zcc{f g:Nat->Nat}:∀{n v:Nat},(∀u,u<n->f u<=g u)->v<n->f v<g v->((List.range n).map f).sum<((List.range n).map g).sum
 |0,v,_,hv,_=>by omega
 |n+1,v,h,hv,hlt=>by
  rw[Y0R,Y0H,Y0H,Y0I,Y0I]
  have h2:=h n (by omega)
  by_cases e:v=n
  · subst e
    have h1:=Ziv (f:=f) (g:=g) (n:=v) λu hu=>h u (by omega)
    simp;omega
  · have h1:=Zcc (f:=f) (g:=g) (n:=n) (v:=v) (λu hu=>h u (by omega)) (by omega) hlt
    simp;omega
def leftL(n:Nat)(live:Nat->Nat)(w:List Nat):Nat:=(n+1)*((List.range n).map λv=>32-(bitsOf (live v)).length).sum+w.length
theorem leftL_le(n:Nat)(live:Nat->Nat)(w:List Nat):leftL n live w<=(n+1)*(32*n)+w.length:=by
 unfold leftL
 have:∀n,((List.range n).map λv=>32-(bitsOf (live v)).length).sum<=32*n:=by
  intro n
  induction n with
  |zero=>simp
  |succ n ih=>rw[Y0R,Y0H,Y0I];simp only[Y04,List.map_nil,Y0t,List.sum_nil];omega
 exact Nat.add_le_add_right (Nat.mul_le_mul_left _ (this n)) _
theorem leftL_ge(n:Nat)(live:Nat->Nat)(w:List Nat):w.length<=leftL n live w:=by unfold leftL;omega
theorem leftL_pop(n v:Nat)(live:Nat->Nat)(w:List Nat):leftL n live w<leftL n live (v::w):=by unfold leftL;simp
theorem leftL_new{n v:Nat}{live:Nat->Nat}{w a:List Nat}(h:Inv us st nx n live (v::w))(h3:In32 us st)(hne:stepF us st nx live v≠live v)(ha:a.length<=n):leftL n (upd live v (stepF us st nx live v)) (a++w)<leftL n live (v::w):=by
 have hv:v<n:=h.wl v (by simp)
 have hb:=Zkv (h.b32 v) (Zcd h3 h.b32 v) (λi hi=>h.le v hv i hi) (λe=>hne e.symm)
 have hb2:=bits_le (stepF us st nx live v)
 have:=Zcc (f:=λu=>32-(bitsOf (upd live v (stepF us st nx live v) u)).length) (g:=λu=>32-(bitsOf (live u)).length) (n:=n) (v:=v) (λu hu=>by
  by_cases e:u=v
  ·subst e;rw[Z08];omega
  ·rw[Z07 e];exact Y0e _) hv (by simp only[Z08];omega)
 unfold leftL
 generalize ((List.range n).map λv_1=>32-(bitsOf (upd live v (stepF us st nx live v) v_1)).length).sum=x at *
 generalize ((List.range n).map λv=>32-(bitsOf (live v)).length).sum=y at *
 have h4:(n+1)*(x+1)<=(n+1)*y:=Nat.mul_le_mul_left _ this
 rw[Nat.mul_succ]at h4
 simp only[Y0s,Y0a]
 omega
theorem Z5M{p q:Nat->Bool}{k:Nat}(h1:∀i,i<k->p i=false)(h2:p k=true)(h3:∀i,i<=k->q i=false)(h4:∀i,k<i->q i=p i):∀(n a:Nat),a<=k->k<a+n->(List.range' a n).filter p=k::(List.range' a n).filter q
 |0,a,h,h'=>by omega
 |n+1,a,h,h'=>by
  rw[List.range'_succ,Y0v,Y0v]
  by_cases e:a=k
  · subst e
    rw[h2,h3 a (Y0e _)]
    simp only[if_true,Y0C,if_false,List.cons.injEq,true_and]
    refine List.filter_congr λx hx=>?_
    rw[List.mem_range'_1]at hx
    exact (h4 x (by omega)).symm
  · rw[h1 a (by omega),h3 a (by omega)]
    simp only[Y0C,if_false]
    exact Z5M h1 h2 h3 h4 n (a+1) (by omega) (by omega)
theorem bits_first{k q:Nat}(hk:k<32):bitsOf (2 ^ k*(2*q+1))=k::bitsOf (2 ^ k*(2*q+1) &&& (2 ^ k*(2*q+1)-1)):=by
 have hp:0<2 ^ k:=Nat.two_pow_pos k
 have e1:∀i,(2 ^ k*(2*q+1)).testBit i=(decide (k<=i)&&(2*q+1).testBit (i-k)):=λi=>by rw[Nat.mul_comm,Nat.testBit_mul_two_pow]
 have e2:2 ^ k*(2*q+1)-1=2 ^ k*(2*q)+(2 ^ k-1):=by rw[Nat.mul_add];omega
 have e3:∀i,(2 ^ k*(2*q+1)-1).testBit i=if i<k then (2 ^ k-1).testBit i else (2*q).testBit (i-k):=λi=>by rw[e2,Nat.testBit_two_pow_mul_add _ (by omega)]
 unfold bitsOf
 rw[List.range_eq_range']
 refine Z5M (k:=k) (λi hi=>?_) ?_ (λi hi=>?_) (λi hi=>?_) 32 0 (Y08 _) (by omega)
 ·rw[e1];simp;omega
 ·rw[e1];simp
 · rw[Nat.testBit_and,e1,e3]
   by_cases h:i<k
   · have:¬k<=i:=by omega
     simp[this]
   · have:i=k:=by omega
     subst this
     simp
 · rw[Nat.testBit_and,e1,e3,if_neg (by omega)]
   obtain⟨d,rfl⟩:∃d,i=k+(d+1):=⟨i-k-1,by omega⟩
   have:k+(d+1)-k=d+1:=by omega
   rw[this,Nat.testBit_succ,Nat.testBit_succ]
   have d1:(2*q+1) / 2=q:=by omega
   have d2:(2*q) / 2=q:=by omega
   rw[d1,d2]
   have:k<=k+(d+1):=by omega
   simp[this]
def maskL(l:List Nat):Nat:=l.foldl (λm r=>m ||| 2 ^ r) 0
theorem Zhz(l:List Nat):maskL l=joinN (λr=>2 ^ r) l:=rfl
theorem maskL_bit(l:List Nat)(i:Nat):(maskL l).testBit i=true ↔ i∈l:=by
 rw[Zhz,Za6,Y0G]
 constructor
 · rintro⟨t,ht,h⟩
   rw[Nat.testBit_two_pow]at h
   have:t=i:=by simpa using h
   subst this;exact ht
 ·intro h;exact⟨i,h,by rw[Nat.testBit_two_pow];simp⟩
theorem maskL_lt{l:List Nat}(h:∀r∈l,r<32):maskL l<4294967296:=Z9e (λt ht=>Nat.pow_lt_pow_right (by decide) (h t ht)) (by decide)
theorem maskL_take{l:List Nat}{j:Nat}(h:j<l.length):maskL (l.take (j+1))=maskL (l.take j) ||| 2 ^ l[j]:=joinN_take (live:=λr=>2 ^ r) h
noncomputable def lvB(us st:Nat->Nat)(nx:Nat->List Nat)(v:Nat)(r:Nat):Bool:=@decide (Lv us st nx r v) (Classical.propDecidable _)
noncomputable def liveL(us st:Nat->Nat)(nx:Nat->List Nat)(v:Nat):List Nat:=(List.range 32).filter (lvB us st nx v)
theorem lvB_iff{v r:Nat}:lvB us st nx v r=true ↔ Lv us st nx r v:=by unfold lvB;simp
theorem Inv.bits{n:Nat}{live:Nat->Nat}(h:Inv us st nx n live [])(h3:In32 us st)(hnx:∀v,v<n->∀w∈nx v,w<n){v:Nat}(hv:v<n):bitsOf (live v)=liveL us st nx v:=by
 unfold bitsOf liveL
 congr 1
 funext i
 rw[Y0M,lvB_iff]
 exact h.all h3 hnx hv i
end Go.Live
end

/-
  Texts of this proof, one behind the other (part 5).
-/
import Derived.Test.YtajhailaofchlaaDoorXc4
import Derived.Test.YtajhailaofchlaaDoorRows
import Derived.KernelRfl
import Derived.Sort.KeysCollected
import Derived.Maps.OwnSet
set_option linter.unusedVariables false
set_option linter.unusedSimpArgs false
set_option maxRecDepth 100000
set_option maxHeartbeats 4000000
open Go.Proofs.Tryd renaming prog → Y00,underlying9 → Y0r,underlying36 → Y0C,underlying3 → Y0D,underlying2 → Y0E,underlying30 → Y0F,underlying53 → Y0G,underlying25 → Y0H
open And renaming intro → Y01
open List renaming take_zero → Y02,take_succ_cons → Y03,take_length → Y04,getElem_cons_succ → Y08,getElem_cons_zero → Y09,getElem?_eq_getElem → Y0d,mem_cons → Y0f,drop_succ_cons → Y0g,map_cons → Y0h,getD_eq_getElem?_getD → Y0i,cons_append → Y0j,length_cons → Y0k,getElem?_eq_some_iff → Y0l,nil_append → Y0m,drop_zero → Y0n,drop_eq_getElem_cons → Y0p,flatten_cons → Y0q,pairwise_cons → Y0t,drop_drop → Y0u,flatten_nil → Y0x,all_eq_true → Y0z,mem_map_of_mem → Y0A,length_append → Y0B,all_append → Y0I,eq_nil_of_length_eq_zero → Y0J
open Nat renaming zero_le → Y05,le_refl → Y07,zero_add → Y0o,zero_mul → Y0v
open Go.Abs.FgL renaming mk0 → Y06,mk → Y0c
open Go.Abs.Wk renaming noref → Y0a
open Bool renaming and_eq_true → Y0b,true_and → Y0e,false_eq_true → Y0w,not_eq_true' → Y0y
open Option renaming map_some → Y0s
section
namespace Go.Abs
open Go.RowKit
mutual
def Zda:AV->Bool
 | .rp _=>false
 | .rs _ _ _=>false
 | .func _ f c=>noROL f&&noROL c
 | .iface _ v=>Zda v
 | .agg cs=>noROL cs
 | .tuple cs=>noROL cs
 | .bool _=>true
 | .int _ _=>true
 | .str _=>true
 | .nptr=>true
 | .ptr _ _=>true
 | .nslice=>true
 | .slice _ _ _ _ _=>true
 | .nmap=>true
 | .map _=>true
 | .nfunc=>true
 | .niface=>true
def noROL:List AV->Bool
 |[]=>true
 |c::l=>Zda c&&noROL l
end
def Zi8:List (AV×AV×Nat)->Bool
 |[]=>true
 |(k,v,_)::l=>Zda k&&(Zda v&&Zi8 l)
def Zi7:List (Nat×AV)->Bool
 |[]=>true
 |x::l=>Zda x.2&&Zi7 l
def ZkJ:ABody->Bool
 | .cells cs _=>noROL cs
 | .map es _=>Zi8 es
 | .siter _ _=>true
 | .loop _ ts=>Zi7 ts
def ZfF:Z00->Bool
 |[]=>true
 |o::l=>ZkJ o.body&&ZfF l
mutual
theorem Z4O{sn sn':Z0h}{ι : Z0g}:∀(u:AV)(v:Value),Zda u=true->VR sn ι u v->VR sn' ι u v
 | .rp _,v,h,e=>by simp[Zda]at h
 | .rs _ _ _,v,h,e=>by simp[Zda]at h
 | .func fn f c,v,h,e=>by
  simp only[Zda,Y0b]at h
  simp only[VR]at *;obtain⟨x,y,h1,h2,h3⟩:=e
  exact⟨x,y,h1,LR_snap f _ h.1 h2,LR_snap c _ h.2 h3⟩
 | .iface t u,v,h,e=>by
  simp only[Zda]at h
  simp only[VR]at *;obtain⟨x,h1,h2⟩:=e
  exact⟨x,h1,Z4O u _ h h2⟩
 | .agg cs,v,h,e=>by
  simp only[Zda]at h
  simp only[VR]at *;obtain⟨x,h1,h2⟩:=e
  exact⟨x,h1,LR_snap cs _ h h2⟩
 | .tuple cs,v,h,e=>by
  simp only[Zda]at h
  simp only[VR]at *;obtain⟨x,h1,h2⟩:=e
  exact⟨x,h1,LR_snap cs _ h h2⟩
 | .bool _,v,h,e=>by simpa[VR]using e
 | .int _ _,v,h,e=>by simpa[VR]using e
 | .str _,v,h,e=>by simpa[VR]using e
 | .nptr,v,h,e=>by simpa[VR]using e
 | .ptr _ _,v,h,e=>by simpa[VR]using e
 | .nslice,v,h,e=>by simpa[VR]using e
 | .slice _ _ _ _ _,v,h,e=>by simpa[VR]using e
 | .nmap,v,h,e=>by simpa[VR]using e
 | .map _,v,h,e=>by simpa[VR]using e
 | .nfunc,v,h,e=>by simpa[VR]using e
 | .niface,v,h,e=>by simpa[VR]using e
theorem LR_snap{sn sn':Z0h}{ι : Z0g}:∀(us:List AV)(vs:List Value),noROL us=true->LR sn ι us vs->LR sn' ι us vs
 |[],vs,h,e=>by simpa[LR]using e
 |u::us,vs,h,e=>by
  simp only[noROL,Y0b]at h
  simp only[LR]at *;obtain⟨d,ds,h1,h2,h3⟩:=e
  exact⟨d,ds,h1,Z4O u _ h.1 h2,LR_snap us _ h.2 h3⟩
end
theorem Zht{sn sn':Z0h}{ι : Z0g}:∀(es:List (AV×AV×Nat))(l:List MapEntry),Zi8 es=true->ER sn ι es l->ER sn' ι es l
 |[],l,h,e=>by simpa[ER]using e
 |(k,v,n)::es,l,h,e=>by
  simp only[Zi8,Y0b]at h
  simp only[ER]at *
  obtain⟨x,l',h1,h2,h3,h4,h5⟩:=e
  exact⟨x,l',h1,Z4O k _ h.1 h2,Z4O v _ h.2.1 h3,h4,Zht es _ h.2.2 h5⟩
theorem ZdR{sn sn':Z0h}{ι : Z0g}{a:Array Value}:∀(ts:List (Nat×AV)),Zi7 ts=true->TSR sn ι ts a->TSR sn' ι ts a
 |[],h,e=>trivial
 |x::l,h,⟨⟨v,h1,h2⟩,h3⟩=>by
  simp only[Zi7,Y0b]at h
  exact⟨⟨v,h1,Z4O x.2 v h.1 h2⟩,ZdR l h.2 h3⟩
theorem Zm4{sn sn':Z0h}{ι : Z0g}{W:World}{p:Place}:∀(b:ABody),ZkJ b=true->OR sn ι W b p->OR sn' ι W b p
 | .cells cs ty,h,e=>by
  simp only[OR]at e⊢
  obtain⟨arr,h1,h2,h3,h4⟩:=e
  refine⟨arr,h1,h2,h3,λi c hc=>?_⟩
  obtain⟨v,k1,k2⟩:=h4 i c hc
  have hn:∀(l:List AV)(i:Nat),noROL l=true->l[i]? = some c->Zda c=true:=by
   intro l
   induction l with
   |nil=>intro i h hc;simp at hc
   |cons x l ih =>
    intro i h hc
    simp only[noROL,Y0b]at h
    cases i with
    |zero=>simp at hc;subst hc;exact h.1
    |succ i=>exact ih i h.2 (by simpa using hc)
  exact⟨v,k1,Z4O c v (hn cs i h hc) k2⟩
 | .map es c,h,e=>by
  simp only[OR]at e⊢
  obtain⟨mes,h1,h2⟩:=e
  exact⟨mes,h1,Zht es _ h h2⟩
 | .siter s q,h,e=>by simpa only[OR]using e
 | .loop g ts,h,e=>by
  simp only[OR]at e⊢
  obtain⟨r,h1,h2,h3,h4⟩:=e
  exact⟨r,h1,h2,h3,ZdR ts h h4⟩
def Zmv(f:Nat->Nat):List (AV×AV×Nat)->List (AV×AV×Nat)
 |[]=>[]
 |(k,v,n)::l=>(ren f k,ren f v,n)::Zmv f l
def ZnI(f:Nat->Nat):List (Nat×AV)->List (Nat×AV)
 |[]=>[]
 |x::l=>(x.1,ren f x.2)::ZnI f l
def Zaj(f:Nat->Nat):ABody->ABody
 | .cells cs ty=>.cells (renL f cs) ty
 | .map es c=>.map (Zmv f es) c
 | .siter s p=>.siter s p
 | .loop g ts=>.loop g (ZnI f ts)
theorem Z0p(f:Nat->Nat):∀(l:List AV)(i:Nat),(renL f l)[i]? = (l[i]?).map (ren f)
 |[],i=>by simp[renL]
 |c::l,0=>by simp[renL]
 |c::l,i+1=>by simpa[renL]using Z0p f l i
theorem Z0O(f:Nat->Nat):∀(l:List AV),(renL f l).length=l.length
 |[]=>rfl
 |c::l=>by simp[renL,Z0O f l]
theorem Zk7{sn:Z0h}{ι : Z0g}{f:Nat->Nat}:∀(es:List (AV×AV×Nat))(l:List MapEntry),ER sn (λb=>ι (f b)) es l->ER sn ι (Zmv f es) l
 |[],l,e=>by simpa[ER,Zmv]using e
 |(k,v,n)::es,l,e=>by
  simp only[ER,Zmv]at *
  obtain⟨x,l',h1,h2,h3,h4,h5⟩:=e
  exact⟨x,l',h1,(Z5x k _).2 h2,(Z5x v _).2 h3,h4,Zk7 es _ h5⟩
theorem Zhp{sn:Z0h}{ι : Z0g}{f:Nat->Nat}{a:Array Value}:∀(ts:List (Nat×AV)),TSR sn (λb=>ι (f b)) ts a->TSR sn ι (ZnI f ts) a
 |[],e=>trivial
 |x::l,⟨⟨v,h1,h2⟩,h3⟩=>⟨⟨v,h1,(Z5x x.2 _).2 h2⟩,Zhp l h3⟩
theorem Zk2{sn:Z0h}{ι : Z0g}{f:Nat->Nat}{W:World}{p:Place}:∀(b:ABody),OR sn (λb=>ι (f b)) W b p->OR sn ι W (Zaj f b) p
 | .cells cs ty,e=>by
  simp only[OR,Zaj]at *
  obtain⟨arr,h1,h2,h3,h4⟩:=e
  refine⟨arr,h1,h2,by rw[Z0O];exact h3,λi c hc=>?_⟩
  rw[Z0p]at hc
  cases hx:cs[i]? with
  |none=>rw[hx]at hc;cases hc
  |some x =>
   rw[hx]at hc;simp at hc;subst hc
   obtain⟨v,k1,k2⟩:=h4 i x hx
   exact⟨v,k1,(Z5x x _).2 k2⟩
 | .map es c,e=>by
  simp only[OR,Zaj]at *
  obtain⟨mes,h1,h2⟩:=e
  exact⟨mes,h1,Zk7 es _ h2⟩
 | .siter s q,e=>by simpa only[OR,Zaj]using e
 | .loop g ts,e=>by
  simp only[OR,Zaj]at *
  obtain⟨r,h1,h2,h3,h4⟩:=e
  exact⟨r,h1,h2,h3,Zhp ts h4⟩
def ZbJ:List Nat->Nat->Nat->Option Nat
 |[],_,_=>none
 |j::l,b,i=>if Nat.beq j b then some i else ZbJ l b (i+1)
theorem Z57:∀{m:List Nat}{b i j:Nat},ZbJ m b i=some j->i<=j/\m[j-i]? = some b
 |[],b,i,j,h=>by simp[ZbJ]at h
 |x::m,b,i,j,h=>by
  simp only[ZbJ]at h
  split at h
  · rename_i e
    cases h
    exact⟨Y07 _,by simp[Nat.eq_of_beq_eq_true e]⟩
  · obtain⟨h1,h2⟩:=Z57 h
    refine⟨by omega,?_⟩
    rw[show j-i=(j-(i+1))+1 by omega];simpa using h2
theorem ZaE:∀{m:List Nat}{b i:Nat},ZbJ m b i=none->b ∉ m
 |[],b,i,h=>by simp
 |x::m,b,i,h=>by
  simp only[ZbJ]at h
  split at h
  ·cases h
  · rename_i e
    intro hm
    rcases Y0f.1 hm with rfl|hm
    ·exact e (by simp)
    ·exact ZaE h hm
def ZjM(m:List Nat)(Hk:Z00):Nat->AV->Option AV
 |0,_=>none
 |n+1,u=>match u with
  | .ptr b off=>match ZbJ m b 0 with|some i=>some (.ptr i off)|none=>frz Hk 30 (.ptr b off)
  | .slice b off len cap z=>match ZbJ m b 0 with|some i=>some (.slice i off len cap z)|none=>frz Hk 30 (.slice b off len cap z)
  | .map b=>match ZbJ m b 0 with|some i=>some (.map i)|none=>none
  | .func fn f c=>match frzL (ZjM m Hk n) f,frzL (ZjM m Hk n) c with|some f,some c=>some (.func fn f c)|_,_=>none
  |u=>frz Hk 30 u
def ZfO(m fs:List Nat):Nat->Z00->Bool
 |_,[]=>true
 |i,o::H=>(mem i m || !mem o.fam fs)&&ZfO m fs (i+1) H
theorem ZaR{m fs:List Nat}:∀{H:Z00}{i j:Nat}{o:AObj},ZfO m fs i H=true->H[j]? = some o->i+j∈m\/o.fam ∉ fs
 |[],i,j,o,h,e=>by simp at e
 |x::H,i,0,o,h,e=>by
  simp only[ZfO,Y0b,Bool.or_eq_true,Y0y]at h
  simp at e;subst e
  rcases h.1 with h1|h1
  ·exact .inl (mem_iff.1 h1)
  ·exact .inr λe=>by rw[mem_iff.2 e]at h1;cases h1
 |x::H,i,j+1,o,h,e=>by
  simp only[ZfO,Y0b]at h
  have:=ZaR h.2 (by simpa using e)
  rcases this with h1|h1
  ·exact .inl (by rw[show i+(j+1)=i+1+j by omega];exact h1)
  ·exact .inr h1
def ZcQ(m:List Nat)(Hs:Z00):Nat->Z00->Z00
 |_,[]=>[]
 |i,o::H=>(match ZbJ m i 0 with
  |some j=>match Hs[j]? with
   |some o'=>{ o with alive:=o'.alive,body:=Zaj (λb=>m.getD b 0) o'.body }
   |none=>o
  |none=>o)::ZcQ m Hs (i+1) H
end Go.Abs
end
section
namespace Go.Abs
open Go.RowKit
theorem Z5S {sn sn2 : Z0h} {ι : Z0g} {H : Z00} {W : World} (hobj : ∀ (b : Nat) (o : AObj) p, H[b]? = some o -> o.alive = true -> ι b = some p -> OR sn ι W o.body p) (hle : Le sn sn2 noI noI)
  (hcell:∀(b:Nat)(o:AObj) p,H[b]? = some o->o.alive=true -> ι b=some p->∀(off:Nat)(v:Value),W.cell? ⟨p.blk,off,none⟩=some v->sn2 ⟨p.blk,off,none⟩=some v) :
  ∀(n:Nat)(u r:AV)(v:Value),frz H n u=some r->VR sn ι u v->VR sn2 noI r v:=by
 intro n
 induction n with
 |zero=>intro u r v h;simp[frz]at h
 |succ n ih =>
  have cells:∀{b:Nat}{o:AObj}{p:Place}{cs l:List AV}{ty:TypeId}{off:Nat},H[b]? = some o->o.alive=true->o.body = .cells cs ty -> ι b=some p->frzL (frz H n) (cs.drop off)=some l->MR sn2 l p.blk (p.sh+off):=by
   intro b o p cs l ty off ho ha hb hp hl
   obtain⟨_,h2⟩:=Z5f hl
   have hor:=hobj b o p ho ha hp
   rw[hb]at hor
   simp only[OR]at hor
   obtain⟨arr,k1,k2,k3,k4⟩:=hor
   refine Z2o λi x hx=>?_
   obtain⟨c,hc,hcx⟩:=h2 i x hx
   rw[List.getElem?_drop]at hc
   obtain⟨v,e1,e2⟩:=k4 (off+i) c hc
   refine⟨v,?_,ih c x v hcx e2⟩
   refine hcell b o p ho ha hp _ _ ?_
   rw[Z16 k1]
   rw[<- e1];congr 1;omega
  intro u r v h hv
  unfold frz at h
  split at h
  · rename_i b off
    split at h<;>try (simp at h;done)
    rename_i o ho
    split at h<;>try (simp at h;done)
    rename_i cs ty ha hb
    split at h<;>simp at h
    rename_i l hl
    subst h
    obtain⟨p,hp,rfl⟩:=hv.ptr
    simp only[VR]
    exact⟨_,_,rfl,cells ho ha hb hp hl⟩
  · rename_i b off len cap z
    obtain⟨p,a,cap',hp,rfl,h1,h2,h3⟩:=hv.slice
    split at h
    · simp at h;subst h
      simp only[VR]
      exact .inr ⟨a,cap',rfl,by omega,by simp,by simp[MR],λh=>absurd rfl h⟩
    · rename_i len
      split at h<;>try (simp at h;done)
      rename_i o ho
      split at h<;>try (simp at h;done)
      rename_i cs ty ha hb
      split at h<;>try (simp at h;done)
      rename_i cs' hcs
      split at h<;>simp at h
      rename_i l hl
      subst h
      obtain⟨ha',_⟩:=h3 (by omega)
      subst ha'
      obtain⟨e1,rfl⟩:=Z3M hcs
      obtain⟨f1,f2⟩:=Z5f hl
      simp only[VR]
      refine .inr ⟨_,cap',rfl,by omega,?_,?_,λ_=>rfl⟩
      ·rw[f1,List.length_take];exact Nat.min_eq_left e1
      · have hor:=hobj b o p ho ha hp
        rw[hb]at hor
        simp only[OR]at hor
        obtain⟨arr,k1,k2,k3,k4⟩:=hor
        refine Z2o λi x hx=>?_
        obtain⟨c,hc,hcx⟩:=f2 i x hx
        rw[List.getElem?_take]at hc
        split at hc<;>try (simp at hc;done)
        rw[List.getElem?_drop]at hc
        obtain⟨v,g1,g2⟩:=k4 (off+i) c hc
        refine⟨v,?_,ih c x v hcx g2⟩
        refine hcell b o p ho ha hp _ _ ?_
        rw[Z16 k1]
        rw[<- g1];congr 1;simp only;omega
  · split at h<;>simp at h
    rename_i l hl;subst h
    obtain⟨d,rfl,h1⟩:=hv.agg
    exact Z4t (Z0Q ih hl h1)
  · split at h<;>simp at h
    rename_i l hl;subst h
    obtain⟨d,rfl,h1⟩:=hv.tuple
    exact Z4U (Z0Q ih hl h1)
  · split at h<;>simp at h
    rename_i x hx;subst h
    obtain⟨y,rfl,h1⟩:=hv.iface
    simp only[VR];exact⟨y,rfl,ih _ _ _ hx h1⟩
  · split at h<;>simp at h
    rename_i f c hf hc;subst h
    obtain⟨x,y,rfl,h1,h2⟩:=hv.func
    simp only[VR];exact⟨x,y,rfl,Z0Q ih hf h1,Z0Q ih hc h2⟩
  ·simp at h
  · rename_i e1 e2 e3 e4 e5 e6 e7
    simp at h;subst h
    cases u with
    |ptr b o=>exact (e1 _ _ rfl).elim
    |slice b o l c z=>exact (e2 _ _ _ _ _ rfl).elim
    |agg cs=>exact (e3 _ rfl).elim
    |tuple cs=>exact (e4 _ rfl).elim
    |iface t v=>exact (e5 _ _ rfl).elim
    |func fn f c=>exact (e6 _ _ _ rfl).elim
    |map b=>exact (e7 _ rfl).elim
    |_=>exact Z0V (ι:=noI) hle _ _ (Z1h (ι:=ι) _ [] _ (λb hb=>by simp[refs]at hb) hv)
theorem ZnD{m:List Nat}{H H2:Z00}(hp:HpGe H m m H2 0)(hfam:Z0H (m.map (Z1b H))=true){sn:Z0h}{ι : Z0g}{W:World}(hR:R sn ι H W):R sn (iot m ι) H2 W:=by
 obtain⟨hl,hg⟩:=hp.get
 have at2:∀{b:Nat}{o2:AObj}{p:Place},H2[b]? = some o2->iot m ι b=some p->∃j o,m[b]? = some j/\H[j]? = some o /\ ι j=some p/\o.alive=true/\o2.alive=true/\o2.fam=b/\o2.sh=o.sh/\BodyGe m o.body o2.body:=by
  intro b o2 p hb hp
  obtain⟨j,o,o2',x1,x2,x3,x4,x5,x6,x7,x8⟩:=hg b (by rw[<- hl];exact (Y0l.1 hb).1)
  rw[hb]at x3;simp at x3;subst x3
  simp only[iot,x1]at hp
  exact⟨j,o,x1,x2,hp,x4,x5,by omega,x7,x8⟩
 have hR2:R sn (iot m ι) H2 W:=by
  refine⟨λb=>⟨λhb=>?_,λ⟨p,hp⟩=>?_⟩,λb p hp=>?_,λb o2 p hb ha hp=>?_,λb b' o o' p p' hb hb' ha ha' hp hp' e=>?_,λad v hv=>?_,λb o2 p hb hp e=>?_⟩
  · obtain⟨j,o,o2,x1,x2,_⟩:=hg b (by omega)
    obtain⟨p,hp⟩:=hR.place x2
    exact⟨p,by simp only[iot,x1];exact hp⟩
  · unfold iot at hp
    split at hp
    ·rename_i j hj;rw[hl];exact (Y0l.1 hj).1
    ·cases hp
  · unfold iot at hp
    split at hp
    ·exact hR.blk _ p hp
    ·cases hp
  · obtain⟨j,o,x1,x2,x3,x4,x5,x6,x7,x8⟩:=at2 hb hp
    exact x8.or (hR.obj j o p x2 x4 x3)
  · obtain⟨j,q,x1,x2,x3,x4,x5,x6,x7,x8⟩:=at2 hb hp
    obtain⟨j',q',y1,y2,y3,y4,y5,y6,y7,y8⟩:=at2 hb' hp'
    have hs:=hR.sep j j' q q' p p' x2 y2 x4 y4 x3 y3 e
    have:b=b':=Z5K (l:=m.map (Z1b H)) (x:=q.fam) hfam (by simp[x1,Z1b,x2]) (by simp[y1,Z1b,y2,hs.1])
    subst this
    exact⟨by rw[x6,y6],by rw[x7,y7];exact hs.2⟩
  · obtain⟨h1,h2,h3⟩:=hR.snap ad v hv
    refine⟨h1,h2,λb o2 p hb ha hp=>?_⟩
    obtain⟨j,o,x1,x2,x3,x4,_⟩:=at2 hb hp
    exact h3 j o p x2 x4 x3
  · obtain⟨j,o,x1,x2,x3,x4,x5,x6,x7,x8⟩:=at2 hb hp
    exact hR.shz j o p x2 x3 (by omega)
 exact hR2
def Znq(m:List Nat)(H:Z00):Z00:=kil (λi _=>mem i m) 0 H
theorem Zdh{m:List Nat}{H:Z00}{b:Nat}{o:AObj}(h:(Znq m H)[b]? = some o)(ha:o.alive=true):H[b]? = some o/\b ∉ m:=by
 unfold Znq at h
 rw[Z2p]at h
 cases hx:H[b]? with
 |none=>rw[hx]at h;cases h
 |some x =>
  rw[hx]at h
  simp only[Y0s,Option.some.injEq,Y0o]at h
  split at h
  ·subst h;simp[AObj.dead]at ha
  · rename_i hm
    subst h
    exact⟨rfl,λhb=>hm (mem_iff.2 hb)⟩
theorem ZcP (m : List Nat) (Hs : Z00) : ∀ (H : Z00) (i b : Nat), (ZcQ m Hs i H)[b]? = (H[b]?).map fun o => match ZbJ m (i + b) 0 with
  |some j=>match Hs[j]? with
   |some o'=>{ o with alive:=o'.alive,body:=Zaj (λb=>m.getD b 0) o'.body }
   |none=>o
  |none=>o
 |[],i,b=>by simp[ZcQ]
 |o::H,i,0=>by
  simp only[ZcQ,List.getElem?_cons_zero,Y0s,Nat.add_zero]<;>rfl
 |o::H,i,b+1=>by
  simp only[ZcQ,List.getElem?_cons_succ]
  rw[ZcP m Hs H (i+1) b,show i+1+b=i+(b+1) by omega]
theorem Zer {sn sn2 : Z0h} {ι : Z0g} {H : Z00} {W : World} {m : List Nat} (hobj : ∀ (b : Nat) (o : AObj) p, H[b]? = some o -> o.alive = true -> ι b = some p -> OR sn ι W o.body p) (hle : Le sn sn2 noI noI)
  (hcell:∀(b:Nat)(o:AObj) p,H[b]? = some o->o.alive=true -> ι b=some p->∀(off:Nat)(v:Value),W.cell? ⟨p.blk,off,none⟩=some v->sn2 ⟨p.blk,off,none⟩=some v) :
  ∀(n:Nat)(u r:AV)(v:Value),ZjM m H n u=some r->VR sn ι u v->VR sn2 (iot m ι) r v:=by
 have lift:∀{r:AV}{v:Value},VR sn2 noI r v->VR sn2 (iot m ι) r v:=λh=>Z0V ⟨λ_ _ h=>h,λb p h=>by simp[noI]at h⟩ _ _ h
 have at_:∀{b i:Nat},ZbJ m b 0=some i->∀p,ι b=some p->iot m ι i=some p:=λh p hp=>by
  have:=(Z57 h).2
  simp only[Nat.sub_zero]at this
  simp only[iot,this];exact hp
 intro n
 induction n with
 |zero=>intro u r v h;simp[ZjM]at h
 |succ n ih =>
  intro u r v h hv
  unfold ZjM at h
  split at h
  · split at h
    · rename_i b off i hi
      simp at h;subst h
      obtain⟨p,hp,rfl⟩:=hv.ptr
      simp only[VR];exact⟨p,at_ hi p hp,rfl⟩
    ·exact lift (Z5S hobj hle hcell 30 _ _ _ h hv)
  · split at h
    · rename_i b off len cap z i hi
      simp at h;subst h
      obtain⟨p,a,cap',hp,h1⟩:=hv.slice
      simp only[VR];exact⟨p,a,cap',at_ hi p hp,h1⟩
    ·exact lift (Z5S hobj hle hcell 30 _ _ _ h hv)
  · split at h
    · rename_i b i hi
      simp at h;subst h
      simp only[VR]at hv⊢
      obtain⟨p,hp,h1⟩:=hv
      exact⟨p,at_ hi p hp,h1⟩
    ·cases h
  · split at h<;>simp at h
    rename_i f c hf hc;subst h
    obtain⟨x,y,rfl,h1,h2⟩:=hv.func
    have each:∀{l l':List AV}{vs:List Value},frzL (ZjM m H n) l=some l'->LR sn ι l vs->LR sn2 (iot m ι) l' vs:=by
     intro l
     induction l with
     |nil=>intro l' vs h e;simp[frzL]at h;subst h;simpa[LR]using e
     |cons c l ih2 =>
      intro l' vs h e
      simp only[frzL]at h
      split at h<;>simp at h
      rename_i x y hx hy
      subst h
      simp only[LR]at e⊢
      obtain⟨d,ds,rfl,h1,h2⟩:=e
      exact⟨d,ds,rfl,ih _ _ _ hx h1,ih2 hy h2⟩
    simp only[VR];exact⟨x,y,rfl,each hf h1,each hc h2⟩
  ·exact lift (Z5S hobj hle hcell 30 _ _ _ h hv)
theorem Z7J {sn sn2 : Z0h} {ι : Z0g} {H : Z00} {W : World} {m : List Nat} (hobj : ∀ (b : Nat) (o : AObj) p, H[b]? = some o -> o.alive = true -> ι b = some p -> OR sn ι W o.body p) (hle : Le sn sn2 noI noI)
  (hcell:∀(b:Nat)(o:AObj) p,H[b]? = some o->o.alive=true -> ι b=some p->∀(off:Nat)(v:Value),W.cell? ⟨p.blk,off,none⟩=some v->sn2 ⟨p.blk,off,none⟩=some v) (n:Nat) :
  ∀(us rs:List AV)(vs:List Value),frzL (ZjM m H n) us=some rs->LR sn ι us vs->LR sn2 (iot m ι) rs vs
 |[],rs,vs,h,e=>by simp[frzL]at h;subst h;simpa[LR]using e
 |u::us,rs,vs,h,e=>by
  simp only[frzL]at h
  split at h<;>simp at h
  rename_i x y hx hy
  subst h
  simp only[LR]at e⊢
  obtain⟨d,ds,rfl,h1,h2⟩:=e
  exact⟨d,ds,rfl,Zer hobj hle hcell n _ _ _ hx h1,Z7J hobj hle hcell n us y ds hy h2⟩
theorem ZaM:∀{H:Z00}{i:Nat}{o:AObj},ZfF H=true->H[i]? = some o->ZkJ o.body=true
 |[],i,o,h,e=>by simp at e
 |x::H,0,o,h,e=>by simp[ZfF]at h e;subst e;exact h.1
 |x::H,i+1,o,h,e=>by simp[ZfF]at h e;exact ZaM h.2 e
theorem Z5c {P : Program} {gl : Glob} {f : Nat} {Hs Hs' Hc : Z00} {fargs cargs : List AV} {r : AV} {m : List Nat} {n : Nat} (hM : Z2f P gl f fargs Hs r Hs') (hargs : frzL (ZjM m (Znq m Hc) n) cargs = some fargs) (hsub : HpGe Hc m m Hs 0)
  (hnd:Z0H (m.map (Z1b Hc))=true) (hlone:ZfO m (m.map (Z1b Hc)) 0 Hc=true) (hev:ZhC m.length Hs Hs'=true) (hro:ZfF Hs'=true) (hrr:Zda r=true) (hrk:Z0e m.length (refs r [])=true) :
  Z2f P gl f cargs Hc (ren (λb=>m.getD b 0) r) (ZcQ m Hs' 0 Hc):=by
 intro sn ι W vargs hg hR hl
 obtain⟨hl1,hg1⟩:=hsub.get
 obtain⟨hl2,hg2⟩:=Z9Y hev
 have inm:∀b,b∈m->∃ (i:Nat) (o o2:AObj) (p:Place),m[i]? = some b/\Hc[b]? = some o/\Hs[i]? = some o2/\o.alive=true/\o2.alive=true /\ ι b=some p:=by
  intro b hb
  obtain⟨i,hi,rfl⟩:=List.mem_iff_getElem.1 hb
  obtain⟨j,o,o2,x1,x2,x3,x4,x5,_⟩:=hg1 i hi
  rw[Y0d hi]at x1
  cases x1
  obtain⟨p,hp⟩:=hR.place x2
  exact⟨i,o,o2,p,Y0d hi,x2,x3,x4,x5,hp⟩
 have apart_:∀(b:Nat)(o:AObj)(p:Place),Hc[b]? = some o->o.alive=true->b ∉ m -> ι b=some p->∀b' p',b'∈m -> ι b'=some p'->p'.blk≠p.blk:=by
  intro b o p ho hoa hb hp b' p' hb' hp' e
  obtain⟨i,o',o2,q,y1,y2,y3,y4,y5,y6⟩:=inm b' hb'
  have hs:=hR.sep b b' o o' p p' ho y2 hoa y4 hp hp' e.symm
  rcases ZaR hlone ho with h|h
  ·exact hb (by simpa using h)
  · refine h ?_
    rw[List.mem_map]
    exact⟨b',hb',by simp only[Z1b,y2];exact hs.1.symm⟩
 let q:Nat->Prop:=λc=>∃b p,b∈m /\ ι b=some p/\p.blk=c
 let sn2:Z0h:=λa=>open Classical in if q a.block\/¬a.block<W.heap.size then none else W.cell? a
 have hsn2:∀a v,sn2 a=some v->¬q a.block/\a.block<W.heap.size/\W.cell? a=some v:=λa v h=>by
  have h:(open Classical in if q a.block\/¬a.block<W.heap.size then none else W.cell? a)=some v:=h
  split at h
  ·cases h
  · rename_i hx
    simp only[not_or,Classical.not_not]at hx
    exact⟨hx.1,hx.2,h⟩
 have hsn2':∀a v,¬q a.block->a.block<W.heap.size->W.cell? a=some v->sn2 a=some v:=λa v h1 h2 h3=>by
  show (open Classical in if q a.block\/¬a.block<W.heap.size then none else W.cell? a)=some v
  rw[if_neg (by simp only[not_or,Classical.not_not];exact⟨h1,h2⟩)];exact h3
 have hle:∀a v,sn a=some v->sn2 a=some v:=λa v hv=>by
  obtain⟨h1,h2,h3⟩:=hR.snap a v hv
  refine hsn2' a v ?_ h1 h2
  rintro⟨b,p,hb,hp,e⟩
  obtain⟨i,o,o2,p',y1,y2,y3,y4,y5,y6⟩:=inm b hb
  exact h3 b o p y2 y4 hp e
 have hR0:=ZnD hsub hnd hR
 have atm:∀{i:Nat}{p:Place},iot m ι i=some p->∃b,m[i]? = some b/\b∈m /\ ι b=some p:=λ{i p} hp=>by
  unfold iot at hp
  split at hp
  ·rename_i b hb;exact⟨b,hb,List.mem_of_getElem? hb,hp⟩
  ·cases hp
 have hRs:R sn2 (iot m ι) Hs W:=by
  refine⟨hR0.dom,hR0.blk,λb o p hb ha hp=>Z0W ⟨hle,λ_ _ h=>h⟩ rfl (hR0.obj b o p hb ha hp),hR0.sep,λa v hv=>?_,hR0.shz⟩
  obtain⟨h1,h2,h3⟩:=hsn2 a v hv
  refine⟨h2,h3,λb o p hb ha hp e=>?_⟩
  obtain⟨c,_,hc,hp'⟩:=atm hp
  exact h1 ⟨c,p,hc,hp',e⟩
 have hla:LR sn2 (iot m ι) fargs vargs:=by
  refine Z7J (H:=Znq m Hc) (W:=W) (λb o p hb ha hp=>?_) (Zb1 hle) (λb o p hb ha hp off v hv=>?_) n _ _ _ hargs hl
  ·exact hR.obj b o p (Zdh hb ha).1 ha hp
  · obtain⟨h1,h2⟩:=Zdh hb ha
    refine hsn2' _ v ?_ (hR.blk b p hp) hv
    rintro⟨b',p',hb',hp',e⟩
    exact apart_ b o p h1 ha h2 hp b' p' hb' hp' e
 refine (hM sn2 (iot m ι) W vargs (hg.mono (Zb1 hle)) hRs hla).mono ?_
 rintro e W' ⟨v,sn',ι',rfl,hv,hst⟩
 have hback:∀i,i<m.length->∀p,ι' i=some p -> ι (m.getD i 0)=some p:=λi hi p hp=>by
  obtain⟨b,hb⟩:∃b,m[i]? = some b:=⟨m[i],Y0d hi⟩
  obtain⟨p0,hp0⟩:=(hRs.dom i).1 (by omega)
  have h1:=hst.le.ι i p0 hp0
  rw[hp]at h1;cases h1
  obtain⟨c,hc,_,hp1⟩:=atm hp0
  rw[hb]at hc;cases hc
  rw[Y0i,hb];exact hp1
 have hfwd:∀(i b:Nat)(p:Place),m[i]? = some b -> ι b=some p -> ι' i=some p:=λi b p hb hp=>hst.le.ι i p (by simp only[iot,hb];exact hp)
 have pos_:∀b,b∈m->∃i,ZbJ m b 0=some i/\m[i]? = some b:=λb hb=>by
  cases hx:ZbJ m b 0 with
  |none=>exact (ZaE hx hb).elim
  |some i=>exact⟨i,rfl,by simpa using (Z57 hx).2⟩
 have old:∀(b:Nat)(o:AObj)(p:Place),Hc[b]? = some o->o.alive=true->b ∉ m -> ι b=some p->W'.heap[p.blk]? = W.heap[p.blk]?:=λb o p ho hoa hb hp=>by
  refine hst.frame _ (hR.blk b p hp) λi o2 p2 hi ha hp2 e=>?_
  obtain⟨c,_,hc,hp3⟩:=atm hp2
  exact apart_ b o p ho hoa hb hp c p2 hc hp3 e
 have hup:∀(b:Nat)(o':AObj),(ZcQ m Hs' 0 Hc)[b]? = some o'->∃o,Hc[b]? = some o/\o'.fam=o.fam/\o'.sh=o.sh/\((b ∉ m/\o'=o)\/∃ (i:Nat) (x:AObj),m[i]? = some b/\Hs'[i]? = some x/\o'.alive=x.alive/\o'.body=Zaj (λb=>m.getD b 0) x.body/\o.alive=true):=by
  intro b o' h
  rw[ZcP]at h
  simp only[Y0o]at h
  cases hx:Hc[b]? with
  |none=>rw[hx]at h;cases h
  |some o =>
   rw[hx]at h
   simp only[Y0s,Option.some.injEq]at h
   refine⟨o,rfl,?_⟩
   by_cases hb:b∈m
   · obtain⟨i,h1,h2⟩:=pos_ b hb
     have hi:i<m.length:=(Y0l.1 h2).1
     have hi':i<Hs'.length:=by omega
     rw[h1]at h
     simp only[Y0d hi']at h
     subst h
     obtain⟨_,y,_,_,_,y2,_,y4,_⟩:=inm b hb
     rw[hx]at y2;cases y2
     exact⟨rfl,rfl,.inr ⟨i,Hs'[i],h2,Y0d hi',rfl,rfl,y4⟩⟩
   · have hn : ZbJ m b 0 = none := by
      cases hx:ZbJ m b 0 with
      |none=>rfl
      |some i=>exact (hb (List.mem_of_getElem? (Z57 hx).2)).elim
     rw[hn]at h
     subst h
     exact⟨rfl,rfl,.inl ⟨hb,rfl⟩⟩
 have hlen:(ZcQ m Hs' 0 Hc).length=Hc.length:=by
  have:∀(H:Z00)(i:Nat),(ZcQ m Hs' i H).length=H.length:=by
   intro H
   induction H with
   |nil=>intro i;rfl
   |cons o H ih=>intro i;simp[ZcQ,ih]
  exact this _ _
 have hnr:∀c,c<W.heap.size->(∀(b:Nat)(o:AObj) p,Hc[b]? = some o->o.alive=true -> ι b=some p->p.blk≠c)->W'.heap[c]? = W.heap[c]?:=λc hc hno=>by
  refine hst.frame c hc λi o2 p2 hi ha hp2 e=>?_
  obtain⟨b,_,hb,hp3⟩:=atm hp2
  obtain⟨_,o,_,_,_,y2,_,y4,_⟩:=inm b hb
  exact hno b o p2 y2 y4 hp3 e
 have hR':R sn ι (ZcQ m Hs' 0 Hc) W':=by
  refine⟨λb=>by rw[hlen];exact hR.dom b,λb p hp=>Nat.lt_of_lt_of_le (hR.blk b p hp) hst.size,λb o' p hb ha hp=>?_,λb b' o o' p p' hb hb' ha ha' hp hp' e=>?_,λa v hv=>?_,λb o' p hb hp e=>?_⟩
  · obtain⟨o,ho,_,_,h|⟨i,x,h1,h2,h3,h4,h5⟩⟩:=hup b o' hb
    · obtain⟨h1,rfl⟩:=h
      exact Z0W (Le.refl _ _) (old b _ p ho ha h1 hp) (hR.obj b _ p ho ha hp)
    · rw[h4]
      have hi:i<m.length:=(Y0l.1 h1).1
      have h6:=hst.rel.obj i x p h2 (by rw[<- h3];exact ha) (hfwd i b p h1 hp)
      have h7:=(hg2 i _ x (Y0d (by omega)) h2).2.2.2
      exact Zk2 x.body (ZcO x.body p (λy hy=>hback y (Z4b h7 y hy)) (Zm4 x.body (ZaM hro h2) h6))
  · obtain⟨x,hx,e1,e2,hz⟩:=hup b o hb
    obtain⟨y,hy,e3,e4,hw⟩:=hup b' o' hb'
    have hxa:x.alive=true:=by
     rcases hz with ⟨_,rfl⟩|⟨_,_,_,_,_,_,h⟩
     ·exact ha
     ·exact h
    have hya:y.alive=true:=by
     rcases hw with ⟨_,rfl⟩|⟨_,_,_,_,_,_,h⟩
     ·exact ha'
     ·exact h
    have:=hR.sep b b' x y p p' hx hy hxa hya hp hp' e
    rw[e1,e2,e3,e4];exact this
  · obtain⟨h1,h2,h3⟩:=hR.snap a v hv
    refine⟨Nat.lt_of_lt_of_le h1 hst.size,?_,λb o' p hb ha hp=>?_⟩
    ·rw[<- h2];exact World.cell?_of_block (hnr _ h1 h3)
    · obtain⟨o,ho,_,_,h|⟨i,x,_,_,_,_,h5⟩⟩:=hup b o' hb
      ·obtain⟨_,rfl⟩:=h;exact h3 b _ p ho ha hp
      ·exact h3 b o p ho h5 hp
  · obtain⟨o,ho,_,e2,_⟩:=hup b o' hb
    exact hR.shz b o p ho hp (by rw[<- e2];exact e)
 refine⟨v,sn,ι,rfl,?_,hR',Le.refl _ _,λ_ _ h=>.inl h,hnr,hst.size,hst.os,hst.tape,hst.output,λ_ _ h=>.inl h,λb o hb=>?_⟩
 ·exact (Z5x r v).2 (Z1h r [] v (λy hy=>hback y (Z4b hrk y hy)) (Z4O r v hrr hv))
 · have hb':b<(ZcQ m Hs' 0 Hc).length:=by rw[hlen];exact (Y0l.1 hb).1
   have hx:=Y0d hb'
   obtain⟨x,hx1,e1,e2,h|⟨i,y,h1,h2,h3,h4,h5⟩⟩:=hup b _ hx
   · rw[hb]at hx1;cases hx1
     exact⟨_,hx,e1,e2,λha=>by rw[h.2]at ha;exact ha⟩
   · rw[hb]at hx1;cases hx1
     exact⟨_,hx,e1,e2,λ_=>h5⟩
end Go.Abs
end
namespace Go.Proofs.YtajhailaofchlaaDoor.lex
open Go.Abs Go.RowKit
section
theorem follows:Y00.follows .mixedOrders=true:=by kernel_rfl
theorem Z9H:(Y00.funcs.toList.all λfn=>!(fn.name == "runtime.NumGoroutine"))=true:=by kernel_rfl
theorem Z0x:NoNum Y00:=⟨λg fn h=>by
 have h1:=Y0z.1 Z9H fn (Array.mem_toList_iff.2 (Array.mem_of_getElem? h))
 simpa using h1,of_decide_eq_true (by kernel_rfl)⟩
variable {gl:Glob}
theorem Z1K:OrcSound Y00 gl (Zjs λ_ _=>none):=Z5G λ_ _ _ h=>by cases h
def ZjG(n:Int):Bool:=decide (97<=n)&&decide (n<=122) || decide (65<=n)&&decide (n<=90)
def ZlB(n:Int):Bool:=decide (48<=n)&&decide (n<=57)
theorem ZmC(n:Int):Z0k Y00 gl 95 [.int .u8 n] (.bool (ZjG n)):=by
 refine Z0C follows Z0x Z1K Tryd.func95 rfl ?_
 repeat' ((conv=>whnf);first|refine stp ?_|with_reducible apply Z03<;>intro h)
 all_goals (try simp_all[Z0J,ZjG])
 all_goals omega
theorem Zn2(n:Int):Z0k Y00 gl 98 [.int .u8 n] (.bool (ZlB n)):=by
 refine Z0C follows Z0x Z1K Tryd.func98 rfl ?_
 repeat' ((conv=>whnf);first|refine stp ?_|with_reducible apply Z03<;>intro h)
 all_goals (try simp_all[Z0J,ZlB])
 all_goals omega
theorem ZkT(n:Int):Z0k Y00 gl 88 [.int .u8 n] (.bool (ZjG n)):=by
 refine Z0C follows Z0x Z1K Tryd.func88 rfl ?_
 repeat' ((conv=>whnf);first|refine stp ?_|with_reducible apply Z03<;>intro h)
 all_goals (try simp_all[Z0J,ZjG])
 all_goals omega
theorem ZlA(n:Int):Z0k Y00 gl 89 [.int .u8 n] (.bool (ZlB n)):=by
 refine Z0C follows Z0x Z1K Tryd.func89 rfl ?_
 repeat' ((conv=>whnf);first|refine stp ?_|with_reducible apply Z03<;>intro h)
 all_goals (try simp_all[Z0J,ZlB])
 all_goals omega
def F1(f:Nat)(xs:List AV):Option AV:=match f with
 |95=>match xs with|[.int .u8 n]=>some (.bool (ZjG n))|_=>none
 |98=>match xs with|[.int .u8 n]=>some (.bool (ZlB n))|_=>none
 |88=>match xs with|[.int .u8 n]=>some (.bool (ZjG n))|_=>none
 |89=>match xs with|[.int .u8 n]=>some (.bool (ZlB n))|_=>none
 |_=>none
theorem Zk5{f:Nat}{xs:List AV}{r:AV}(h:F1 f xs=some r):plain r=true/\Z0k Y00 gl f xs r:=by
 unfold F1 at h
 split at h<;>try (cases h;done)
 all_goals (split at h<;>cases h)
 ·exact⟨rfl,ZmC _⟩
 ·exact⟨rfl,Zn2 _⟩
 ·exact⟨rfl,ZkT _⟩
 ·exact⟨rfl,ZlA _⟩
theorem Zjh:OrcSound Y00 gl (Zi4 F1):=Z37 λf xs r h=>Zk5 h
def Zm7(n:Int):Bool:=ZjG n || ZlB n || n==95
theorem ZhF(n:Int):Z0k Y00 gl 97 [.int .u8 n] (.bool (Zm7 n)):=by
 refine Z0C follows Z0x Zjh Tryd.func97 rfl ?_
 repeat' ((conv=>whnf);first|refine stp ?_|with_reducible apply Z03<;>intro h)
 all_goals (try simp_all[Z0J,Zm7])
def F2(f:Nat)(xs:List AV):Option AV:=match f with
 |97=>match xs with|[.int .u8 n]=>some (.bool (Zm7 n))|_=>none
 |f=>F1 f xs
theorem Zk4{f:Nat}{xs:List AV}{r:AV}(h:F2 f xs=some r):plain r=true/\Z0k Y00 gl f xs r:=by
 unfold F2 at h
 split at h
 · split at h<;>cases h
   exact⟨rfl,ZhF _⟩
 ·exact Zk5 h
theorem Zjg:OrcSound Y00 gl (Zi4 F2):=Z37 λf xs r h=>Zk4 h
def Z7e(p:Int->Bool)(s:List UInt8):Nat:=(s.takeWhile λc=>p c.toNat).length
theorem Ze3{p:Int->Bool}{c:UInt8}(l:List UInt8)(h:p c.toNat=true):Z7e p (c::l)=Z7e p l+1:=by simp[Z7e,h]
theorem ZbT{p:Int->Bool}{c:UInt8}(l:List UInt8)(h:p c.toNat=false):Z7e p (c::l)=0:=by simp[Z7e,h]
theorem Zks (g : Nat) (p : Int -> Bool) (hF : ∀ n, F2 g [.int .u8 n] = some (.bool (p n))) (hb : Z0b Y00 g = true) (s : List UInt8) (hs : s.length <= 9223372036854775807) :
  Z0k Y00 gl 96 [.str s,.func (.func g) [] []] (.int .i64 (Z7e p s)):=by
 refine Z0C follows Z0x Zjg Tryd.func96 rfl ?_
 conv=>whnf
 refine⟨Nat,(λk=>k<=s.length/\Z7e p s=k+Z7e p (s.drop k)),(λk=>[(0,.str s),(1,.func (.func g) [] []),(5,.int .i64 k)]),(λ_=>[]),(λk=>s.length-k),⟨0,⟨Y05 _,by simp⟩,?_⟩,?_⟩
 · refine Y06 rfl ?_
   refine Y01 (Y0a rfl) ?_
   refine Y01 (Y0a rfl) ?_
   refine Y01 (Y0a rfl) ?_
   trivial
 · intro k ⟨hk,hsp⟩
   by_cases hlt:k<s.length
   · have e1:decide ((k:Int)<(s.length:Int))=true:=by simpa using hlt
     have hc:s[k]? = some s[k]:=by simp[hlt]
     have hd:s.drop k=s[k]::s.drop (k+1):=Y0p hlt
     cases hp:p s[k].toNat with
     |true =>
      repeat' ((conv=>whnf);first|with_reducible refine ixS _ rfl hc ?_|with_reducible refine exI (ZeE hb rfl (hF _)) ?_|refine stp ?_|with_reducible apply Z03<;>intro h)
      (conv=>whnf)
      have hn:=Ze3 (s.drop (k+1)) hp
      rw[<- hd]at hn
      exact⟨k+1,⟨hlt,by omega⟩,by show s.length-(k+1)<s.length-k;omega,Y06 rfl ⟨Y0a rfl,Y0a rfl,Wk.int rfl,trivial⟩⟩
     |false =>
      repeat' ((conv=>whnf);first|with_reducible refine ixS _ rfl hc ?_|with_reducible refine exI (ZeE hb rfl (hF _)) ?_|refine stp ?_|with_reducible apply Z03<;>intro h)
      have hn:=ZbT (s.drop (k+1)) hp
      rw[<- hd]at hn
      rw[hsp,hn];rfl
   · have e1:decide ((k:Int)<(s.length:Int))=false:=by simpa using hlt
     have hk':k=s.length:=by omega
     repeat' ((conv=>whnf);first|refine stp ?_|with_reducible apply Z03<;>intro h)
     rw[hsp,hk'];simp[Z0J,Z7e]
def F3(f:Nat)(xs:List AV):Option AV:=match f with
 |96=>match xs with
  |[.str s,.func (.func 97) [] []]=>if s.length<=9223372036854775807 then some (.int .i64 (Z7e Zm7 s)) else none
  |_=>none
 |f=>F2 f xs
theorem Zk3{f:Nat}{xs:List AV}{r:AV}(h:F3 f xs=some r):plain r=true/\Z0k Y00 gl f xs r:=by
 unfold F3 at h
 split at h
 · split at h<;>try (cases h;done)
   split at h<;>cases h
   rename_i hs
   exact⟨rfl,Zks 97 Zm7 (λ_=>rfl) (by kernel_rfl) _ hs⟩
 ·exact Zk4 h
theorem ZdV:OrcSound Y00 gl (Zi4 F3):=Z37 λf xs r h=>Zk3 h
def Z5A:List UInt8->Nat
 |[]=>0
 |c::s=>if ZjG c.toNat then Z7e Zm7 (c::s) else 0
theorem Zka(s:List UInt8)(hs:s.length<=9223372036854775807):Z0k Y00 gl 86 [.str s] (.int .i64 (Z5A s)):=by
 match s with
 |[] =>
  refine Z0C follows Z0x ZdV Tryd.func86 rfl ?_
  repeat' ((conv=>whnf);first|refine stp ?_|with_reducible apply Z03<;>intro h)
  all_goals (try simp_all[Z0J,Z5A])
 |c::s =>
  have h1:((c::s)==[])=false:=by simp
  have h2:(c::s)[0]? = some c:=rfl
  refine Z0C follows Z0x ZdV Tryd.func86 rfl ?_
  repeat' ((conv=>whnf);first|with_reducible refine ixS 0 rfl h2 ?_|refine stp ?_|with_reducible apply Z03<;>intro h)
  all_goals (try (simp_all[Z0J,Z5A];done))
def keysL:List (List UInt8):=[[115,104,97,114,101,100],[112,108,97,105,110],[116,104,114,101,97,100],[105,102],[101,108,115,101],[119,104,105,108,101],[108,111,97,100],[115,116,111,114,101],[99,97,115],[97,100,100],[115,119,97,112],[102,101,110,99,101],[97,115,115,117,109,101],[97,115,115,101,114,116],[110,97],[114,108,120],[97,99,113],[114,101,108],[97,114],[115,99]]
def Zgp:Nat->List (List UInt8)->List (AV×AV×Nat)
 |_,[]=>[]
 |n,k::l=>(.str k,.agg [],n)::Zgp (n+1) l
theorem Zg9(x:List UInt8):∀(l:List (List UInt8))(n i:Nat),∃o,Z6G .string (.str x) (Zgp n l) i=some o/\o.isSome=l.contains x/\∀p,o=some p->p.2 = .agg []
 |[],n,i=>⟨none,rfl,by simp,λp h=>by cases h⟩
 |k::l,n,i=>by
  obtain⟨o,h1,h2,h3⟩:=Zg9 x l (n+1) (i+1)
  by_cases e:x=k
  · subst e
    exact⟨some (i,.agg []),by simp[Zgp,Z6G,Zbv],by simp,λp h=>by cases h;rfl⟩
  · refine⟨o,?_,by simp[h2,e],h3⟩
    have:(x==k)=false:=by simpa using e
    simp[Zgp,Z6G,Zbv,this,h1]
theorem kdK:Z3t Y00 78=some (.string,79):=by kernel_rfl
theorem Z6Q{H:Z00}{b:Nat}(x:List UInt8)(h:ZfJ H (.map b)=some (Zgp 0 keysL)):Z4d Y00 78 (.map b) (.str x) true H=some (.tuple [.agg [],.bool (keysL.contains x)]):=by
 obtain⟨o,h1,h2,h3⟩:=Zg9 x keysL 0 0
 have hz:Z1o Y00 79=some (.agg []):=by kernel_rfl
 simp only[Z4d,kdK,h,h1,<- h2]
 cases o with
 |none=>simp[hz]
 |some p=>have:=h3 p rfl;obtain⟨j,v⟩:=p;subst this;simp
def Z8h(s:List UInt8):AV:=if s≠[]/\Z5A s=s.length then .tuple [.int .i64 (if keysL.contains s then 2 else 1),.bool true] else .tuple [.int .i64 0,.bool false]
def F4(f:Nat)(xs:List AV):Option AV:=match f with
 |86=>match xs with|[.str s]=>if s.length<=9223372036854775807 then some (.int .i64 (Z5A s)) else none|_=>none
 |f=>F3 f xs
theorem Znj{f:Nat}{xs:List AV}{r:AV}(h:F4 f xs=some r):plain r=true/\Z0k Y00 gl f xs r:=by
 unfold F4 at h
 split at h
 · split at h<;>try (cases h;done)
   split at h<;>cases h
   rename_i hs;exact⟨rfl,Zka _ hs⟩
 ·exact Zk3 h
theorem Zjf:OrcSound Y00 gl (Zi4 F4):=Z37 λf xs r h=>Znj h
section
attribute [local irreducible] Z5A
theorem ZhE(s:List UInt8)(hs:s.length<=9223372036854775807):Z0k Y00 gl 74 [.str s] (Z8h s):=by
 have e2:F4 86 [.str s]=some (.int .i64 (Z5A s)):=by simp only[F4];rw[if_pos (by omega)]
 have hb:Z0b Y00 86=true:=by kernel_rfl
 refine Zli (λg=>Nat.beq g 86) 2 follows Z0x Zjf Tryd.func74 rfl ?_
 by_cases h0:s=[]
 · have e1:(s==[])=true:=by simpa using h0
   repeat' ((conv=>whnf);(first|refine stp ?_|with_reducible apply Z03<;>intro h))
   unfold Z8h;rw[if_neg (by simp[h0])]
 · have e1:(s==[])=false:=by simpa using h0
   by_cases hw:Z5A s=s.length
   · have e3:((Z5A s:Int) != (s.length:Int))=false:=by rw[hw];simp
     have eR:Z8h s = .tuple [.int .i64 (if keysL.contains s then 2 else 1),.bool true]:=by unfold Z8h;rw[if_pos ⟨h0,hw⟩]
     rw[eR]
     cases hc:keysL.contains s with
     |true =>
      repeat' ((conv=>whnf);first|with_reducible refine exI (ZeE hb rfl e2) ?_|(with_reducible refine exI (Z6Q _ ?_) ?_;(focus rfl))|refine stp ?_|with_reducible apply Z03<;>intro h)
      conv=>whnf
      refine exI (Z6Q _ ?_) ?_
      ·rfl
      rw[hc]
      repeat' ((conv=>whnf);(first|refine stp ?_|with_reducible apply Z03<;>intro h))
      rfl
     |false =>
      repeat' ((conv=>whnf);first|with_reducible refine exI (ZeE hb rfl e2) ?_|(with_reducible refine exI (Z6Q _ ?_) ?_;(focus rfl))|refine stp ?_|with_reducible apply Z03<;>intro h)
      conv=>whnf
      refine exI (Z6Q _ ?_) ?_
      ·rfl
      rw[hc]
      repeat' ((conv=>whnf);(first|refine stp ?_|with_reducible apply Z03<;>intro h))
      rfl
   · have e3:((Z5A s:Int) != (s.length:Int))=true:=by simp;omega
     repeat' ((conv=>whnf);first|with_reducible refine exI (ZeE hb rfl e2) ?_|refine stp ?_|with_reducible apply Z03<;>intro h)
     unfold Z8h;rw[if_neg (λh=>hw h.2)]
end
end
end Go.Proofs.YtajhailaofchlaaDoor.lex
section
namespace Go.Abs
open Go.RowKit Go.Maps
open Go.Proofs (encStr)
def Zc1(P:Program)(gl:Glob)(isO:Nat->List AV->Bool)(tbl:Orc)(fuel:Nat):Nat->Orc
 |0=>λ_ _ _=>none
 |n+1=>λf args H=>if isO f args=true then tbl f args H else Za8 P gl (Zc1 P gl isO tbl fuel n) fuel f args H
theorem Z7j{P:Program}{gl:Glob}{isO:Nat->List AV->Bool}{tbl:Orc}{fuel:Nat}(hm:P.follows .mixedOrders=true)(hn:NoNum P)(ht:OrcSound P gl tbl):∀n,OrcSound P gl (Zc1 P gl isO tbl fuel n)
 |0=>by intro f args H r H' h;simp[Zc1]at h
 |n+1=>by
  have:=Z89 (fuel:=fuel) hm hn (Z7j (fuel:=fuel) (isO:=isO) hm hn ht n)
  intro f args H r H' h
  simp only[Zc1]at h
  split at h
  ·exact ht f args H r H' h
  ·exact this f args H r H' h
noncomputable def ZiB(P:Program)(gl:Glob)(isO:Nat->List AV->Bool)(fo:Z5z)(fuel n:Nat):Z5z :=
 Nat.rec (motive:=λ_=>Z5z) (λ_ _ _=>none) (λ_ ih f args T=>iff' (isO f args) (fo f args T) (Option.rec none (λrun=>run ih args T) (Zgc P gl fuel f))) n
section
variable {P:Program} {gl:Glob} {fuel:Nat}
theorem Zds{isO:Nat->List AV->Bool}{fo:Z5z}{tbl:Orc}(hs:Z1F fo tbl):∀m,Z1F (ZiB P gl isO fo fuel m) (Zc1 P gl isO tbl fuel m)
 |0=>by intro f args T r T' h;cases h
 |m+1=>by
  intro f args T r T' h H hR
  rcases Z0I (show iff' (isO f args) (fo f args T) (Option.rec none (λrun=>run (ZiB P gl isO fo fuel m) args T) (Zgc P gl fuel f))=some (r,T') from h)with ⟨h1,h2⟩|⟨h1,h2⟩
  · obtain⟨H',g1,g2⟩:=hs f args T r T' h2 H hR
    exact⟨H',by simp[Zc1,h1,g1],g2⟩
  · cases hf:Zgc P gl fuel f with
    |none=>rw[hf]at h2;cases h2
    |some run =>
     rw[hf]at h2
     obtain⟨H',g1,g2⟩:=ZiK (Zds hs m) hf hR h2
     exact⟨H',by simp[Zc1,h1,g1],g2⟩
theorem Zch (hm : P.follows .mixedOrders = true) (hn : NoNum P) {isO : Nat -> List AV -> Bool} {fo : Z5z} {tbl : Orc} (hs : Z1F fo tbl) (ht : OrcSound P gl tbl)
  {l:List (Nat×List AV)} (hl:OrcSound P gl (ZeV l)) {m f:Nat} {az:List AV} (hrefs:refsL az []=[]) (h:Z9u (ZiB P gl isO fo fuel m f az TH.empty)=true):OrcSound P gl (ZeV ((f,az)::l)):=by
 obtain⟨T',h'⟩:=Z9t h
 obtain⟨H',h1,_⟩:=Zds hs m f az TH.empty _ T' h' [] Rep.empty
 exact Zfd hl hrefs (Z7j hm hn ht m) h1
def Zl7(l:List (Nat×List AV)):Z5z:=λf args T=>if Zmb f args l then some (.bool true,T) else none
theorem ZfY(l:List (Nat×List AV)):Z1F (Zl7 l) (ZeV l):=by
 intro f args T r T' h H hR
 simp only[Zl7]at h
 split at h<;>simp at h
 obtain⟨rfl,rfl⟩:=h
 exact⟨H,by simp[ZeV, *],hR⟩
def Z9O(g:Nat->List AV->Bool)(a b:Z5z):Z5z:=λf args T=>if g f args=true then a f args T else b f args T
def Zee(g:Nat->List AV->Bool)(a b:Orc):Orc:=λf args H=>if g f args=true then a f args H else b f args H
theorem Zc5{g:Nat->List AV->Bool}{a b:Orc}(ha:OrcSound P gl a)(hb:OrcSound P gl b):OrcSound P gl (Zee g a b):=by
 intro f args H r H' h
 simp only[Zee]at h
 split at h
 ·exact ha f args H r H' h
 ·exact hb f args H r H' h
theorem Zb5{g:Nat->List AV->Bool}{fa fb:Z5z}{a b:Orc}(ha:Z1F fa a)(hb:Z1F fb b):Z1F (Z9O g fa fb) (Zee g a b):=by
 intro f args T r T' h H hR
 simp only[Z9O]at h
 split at h
 · obtain⟨H',h1,h2⟩:=ha f args T r T' h H hR
   exact⟨H',by simp[Zee, *],h2⟩
 · obtain⟨H',h1,h2⟩:=hb f args T r T' h H hR
   exact⟨H',by simp[Zee, *],h2⟩
end
def Zl3(x:List UInt8):List (List UInt8)->List (List UInt8)
 |[]=>[x]
 |y::l=>if leB x y=true then x::y::l else y::Zl3 x l
def Z8i:List (List UInt8)->List (List UInt8)
 |[]=>[]
 |x::l=>Zl3 x (Z8i l)
theorem Z7B(x:List UInt8):∀l:List (List UInt8),(Zl3 x l).Perm (x::l)
 |[]=>.refl _
 |y::l=>by
  simp only[Zl3]
  split
  ·exact .refl _
  ·exact ((Z7B x l).cons y).trans (.swap x y l)
theorem Z8w:∀l:List (List UInt8),(Z8i l).Perm l
 |[]=>.refl _
 |x::l=>(Z7B x _).trans ((Z8w l).cons x)
theorem ZaU(a b:List UInt8):leB a b=true\/leB b a=true:=by
 simp only[leB,decide_eq_true_eq]
 exact List.le_total a b
theorem ZaT{a b c:List UInt8}(h:leB a b=true)(h':leB b c=true):leB a c=true:=by
 simp only[leB,decide_eq_true_eq]at *
 exact List.le_trans h h'
theorem Zin{a b:List UInt8}(h:leB a b=true)(h':leB b a=true):a=b:=by
 simp only[leB,decide_eq_true_eq]at *
 exact List.le_antisymm h h'
theorem Z7A(x:List UInt8):∀l:List (List UInt8),l.Pairwise (λa b=>leB a b=true)->(Zl3 x l).Pairwise (λa b=>leB a b=true)
 |[],_=>by simp[Zl3]
 |y::l,h=>by
  rw[Y0t]at h
  simp only[Zl3]
  split
  · rename_i hxy
    rw[Y0t]
    refine⟨λa ha=>?_,by rw[Y0t];exact h⟩
    rcases Y0f.1 ha with rfl|ha
    ·exact hxy
    ·exact ZaT hxy (h.1 a ha)
  · rename_i hxy
    rw[Y0t]
    refine⟨λa ha=>?_,Z7A x l h.2⟩
    rcases Y0f.1 ((Z7B x l).mem_iff.1 ha)with rfl|ha
    ·exact (ZaU a y).resolve_left hxy
    ·exact h.1 a ha
theorem Z6e:∀l:List (List UInt8),(Z8i l).Pairwise (λa b=>leB a b=true)
 |[]=>List.Pairwise.nil
 |x::l=>Z7A x _ (Z6e l)
theorem Zaw{l l':List (List UInt8)}(hp:l'.Perm l)(hs:l'.Pairwise (λa b=>leB a b=true)):l'=Z8i l :=
 List.Perm.eq_of_pairwise (le:=λa b=>leB a b=true) (λa b _ _ h1 h2=>Zin h1 h2) hs (Z6e l) (hp.trans (Z8w l).symm)
theorem Z7w{ss l:List (List UInt8)}(hp:ss.Perm l):ss.mergeSort leB=Z8i l:=by
 refine Zaw ((List.mergeSort_perm ss leB).trans hp) ?_
 exact List.pairwise_mergeSort (le:=leB) (λa b c h1 h2=>ZaT h1 h2) (λa b=>by simp only[Bool.or_eq_true];exact ZaU a b) ss
def SortsKeys(P:Program)(fS fI kt:Nat):Prop:=∀(Bm b nn:Nat)(D0:DataW Unit)(R:Value->Option (DataW Unit×List MemPlace))(W:World),
 W.cell? ⟨Bm,0,none⟩=some (.map (some b))->W.ownsMap P kt R b nn D0->Maps.size D0<=maxLen->Maps.size D0*16<=140737488355328 ->
 Calls P fS #[.func (.func fI) #[] #[.pointer (some ⟨Bm,0,none⟩)]] W λe W'=>∃ (v:Value) (ss:List (List UInt8)),e = .returned v/\ss.Perm (strKeys D0) /\
  W'.ownsRow W.heap.size kt 1 v ss.length ((ss.mergeSort leB).map encStr)/\(v = .slice none 0 0 ↔ ss=[])/\Below W.heap.size W W'
def rsK(l:List (List UInt8)):AV:=.rs l.length 1 (l.map .str)
theorem Zhq{sn:Z0h}{ι : Z0g}:∀{l:List (List UInt8)},LR sn ι (l.map .str) (l.map encStr)
 |[]=>by simp[LR]
 |x::l=>by
  simp only[Y0h,LR]
  exact⟨_,_,rfl,by simp[VR,encStr],Zhq⟩
theorem Zhx{sn:Z0h}{ι : Z0g}:∀{es:List (AV×AV×Nat)}{l:List MapEntry}{keys:List (List UInt8)},ER sn ι es l->es.map (·.1)=keys.map AV.str->l.map (·.key)=keys.map encStr/\l.map (·.born)=es.map (·.2.2)
 |[],l,keys,h,hk=>by
  simp[ER]at h;subst h
  cases keys<;>simp at hk
  simp
 |(k,v,n)::es,l,keys,h,hk=>by
  simp only[ER]at h
  obtain⟨x,l',rfl,h1,h2,h3,h4⟩:=h
  cases keys with
  |nil=>simp at hk
  |cons c keys =>
   simp only[Y0h,List.cons.injEq]at hk
   obtain⟨rfl,hk⟩:=hk
   obtain⟨e1,e2⟩:=Zhx h4 hk
   obtain⟨ba,e3,e4⟩:=h1.str
   simp only[Y0h,e1,e2,h3,and_true,List.cons.injEq]
   rw[e3,<- e4]
theorem Z8g{sn:Z0h}{W:World}{g:Nat}{B:Nat}(hg:B<=g):∀(us:List AV)(vs:List Value)(o:Nat),LR (snx sn B W) noI us vs->(∀(i:Nat)(v:Value),vs[i]? = some v->W.cell? ⟨g,o+i,none⟩=some v)->MR (snx sn B W) us g o
 |[],vs,o,h,hc=>by simp[MR]
 |u::us,vs,o,h,hc=>by
  simp only[LR]at h
  obtain⟨d,ds,rfl,h1,h2⟩:=h
  simp only[MR]
  refine⟨⟨d,?_,h1⟩,Z8g hg us ds (o+1) h2 λi v hv=>?_⟩
  · have:=hc 0 d rfl
    simp only[snx]
    rw[if_neg (show ¬g<B by omega)]
    exact this
  · have:=hc (i+1) v (by simpa using hv)
    rw[show o+1+i=o+(i+1) from by omega];exact this
theorem Zav {P : Program} {fS fI kt : Nat} (hS : SortsKeys P fS fI kt) (hk : P.underlying kt = some .string) {sn : Z0h} {ι : Z0g} {H : Z00} {W : World} (hR : R sn ι H W)
  {c b:Nat} {oc ob:AObj} {cs:List AV} {ty:TypeId} {es:List (AV×AV×Nat)} {clock:Nat} {keys:List (List UInt8)}
  (hc:H[c]? = some oc) (hca:oc.alive=true) (hcs:oc.sh=0) (hcb:oc.body = .cells (.map b::cs) ty) (hb:H[b]? = some ob) (hba:ob.alive=true) (hbb:ob.body = .map es clock)
  (hkeys:es.map (·.1)=keys.map AV.str) (hnd:keys.Nodup) (hlen:∀k∈keys,k.length<=maxLen) (hbn:(es.map (·.2.2)).Nodup) (hbc:∀n∈es.map (·.2.2),n<clock) (hsz:keys.length<=1000000)
  {cargs:List Value} (ha:LR sn ι [.func (.func fI) [] [.ptr c 0]] cargs) :
  Calls P fS cargs.toArray W λe W'=>∃v sn' ι',e = .returned v/\VR sn' ι' (rsK (Z8i keys)) v/\Stp sn ι H W sn' ι' H W':=by
 obtain⟨pc,hpc⟩:=hR.place hc
 obtain⟨pb,hpb⟩:=hR.place hb
 have hoc:=hR.obj c oc pc hc hca hpc
 have hob:=hR.obj b ob pb hb hba hpb
 rw[hcb]at hoc;rw[hbb]at hob
 simp only[OR]at hoc hob
 obtain⟨arr,hw1,hw2,hw3,hw4⟩:=hoc
 obtain⟨mes,hm1,hm2⟩:=hob
 have hz:=hR.shz c oc pc hc hpc hcs
 obtain⟨v0,hv0,hv1⟩:=hw4 0 (.map b) rfl
 obtain⟨p',hp',rfl⟩:=hv1.map
 rw[hpb]at hp';simp at hp';subst hp'
 have hcell:W.cell? ⟨pc.blk,0,none⟩=some (.map (some pb.blk)):=by
  rw[Z16 hw1];rw[hz]at hv0;simpa using hv0
 obtain⟨hk1,hk2⟩:=Zhx hm2 hkeys
 have hlens:mes.size=keys.length:=by
  have:=congrArg List.length hk1
  simpa using this
 have hmx:maxLen=9223372036854775807:=rfl
 let R0:Value->Option (DataW Unit×List MemPlace):=λ_=>some (.nil,[])
 have hkeyOf:∀x∈mes.toList,∃s,x.key=encStr s/\s∈keys/\keyOf P kt x.key=some (.string s):=by
  intro x hx
  have:x.key∈mes.toList.map (·.key):=Y0A hx
  rw[hk1]at this
  obtain⟨s,hs,e⟩:=List.mem_map.1 this
  refine⟨s,e.symm,hs,?_⟩
  rw[<- e]
  have hl:=hlen s hs
  simp only[keyOf,hk,mapKey,encStr]
  have:(⟨⟨s⟩⟩:ByteArray).size<=maxLen:=by simpa[ByteArray.size]using hl
  rw[if_pos this]
 have hF:WideElems.Fit P kt R0 mes clock:=by
  refine⟨by omega,⟨λx hx=>?_,by rw[hk2];exact hbn,?_⟩,λx hx=>?_⟩
  ·exact hbc _ (by rw[<- hk2];exact Y0A hx)
  · rw[hk1]
    exact (List.nodup_iff_pairwise_ne.1 hnd).map _ λa b hab e=>hab (encStr_inj e)
  · obtain⟨s,_,_,h3⟩:=hkeyOf x hx
    exact⟨(.string s,.nil),by simp[WideElems.rd,h3,R0]⟩
 let D0:DataW Unit:=.map ((mes.toList.map (WideElems.rg P kt R0)).foldr DataW.insert [])
 have hown:W.ownsMap P kt R0 pb.blk mes.size D0:=⟨mes,clock,hm1,hF,Y07 _,rfl⟩
 have hsize:Maps.size D0=mes.size:=by simp only[D0,Maps.size];exact length_read mes
 have hperm:(strKeys D0).Perm keys:=by
  have h1:((mes.toList.map (WideElems.rg P kt R0)).foldr DataW.insert []).Perm (mes.toList.map (WideElems.rg P kt R0)):=by
   generalize mes.toList.map (WideElems.rg P kt R0)=l
   induction l with
   |nil=>exact .refl _
   |cons x l ih =>
    have hins:∀(y:Lit×DataW Unit)(m:List (Lit×DataW Unit)),(DataW.insert y m).Perm (y::m):=by
     intro y m
     induction m with
     |nil=>exact .refl _
     |cons z m ih2 =>
      simp only[DataW.insert]
      split
      ·exact .refl _
      ·exact (ih2.cons z).trans (.swap y z m)
    exact (hins x _).trans (ih.cons x)
  have h2:=h1.map (λp=>strOf p.1)
  refine h2.trans ?_
  have:(mes.toList.map (WideElems.rg P kt R0)).map (λp=>strOf p.1)=keys:=by
   have e:(mes.toList.map (WideElems.rg P kt R0)).map (λp=>encStr (strOf p.1))=keys.map encStr:=by
    rw[<- hk1,List.map_map]
    refine List.map_congr_left λx hx=>?_
    obtain⟨s,h1,_,h3⟩:=hkeyOf x hx
    have hr:WideElems.rd P kt R0 x=some (.string s,.nil):=by simp[WideElems.rd,h3,R0]
    simp only[Function.comp,WideElems.rg_of hr,strOf,h1]
   have:(((mes.toList.map (WideElems.rg P kt R0)).map (λp=>strOf p.1)).map encStr)=keys.map encStr:=by rw[List.map_map];exact e
   exact List.map_inj_right (λa b h=>encStr_inj h) |>.1 this
  rw[this]
 have hargs:cargs=[.func (.func fI) #[] #[.pointer (some ⟨pc.blk,0,none⟩)]]:=by
  simp only[LR]at ha
  obtain⟨d,ds,rfl,h1,rfl⟩:=ha
  obtain⟨f',c',rfl,h2,h3⟩:=h1.func
  simp only[LR]at h2 h3
  obtain⟨d2,ds2,h4,h5,h6⟩:=h3
  subst h6
  obtain⟨p,hp,rfl⟩:=h5.ptr
  rw[hpc]at hp;simp at hp;subst hp
  have e1:f' = #[]:=by apply Array.ext';simpa using h2
  have e2:c' = #[.pointer (some ⟨pc.blk,0,none⟩)]:=by apply Array.ext';simp[h4,hz]
  rw[e1,e2]
 rw[hargs]
 refine (hS pc.blk pb.blk mes.size D0 R0 W hcell hown (by omega) (by omega)).mono ?_
 rintro e W' ⟨v,ss,rfl,hss,hrow,hnil,hbel⟩
 have hext:Ext W W':=⟨λc hc=>hbel.block c hc,hbel.size,hbel.os,hbel.tape,hbel.output⟩
 refine⟨v,snx sn W.heap.size W',ι,rfl,?_,Stp.snap hR hext⟩
 have hms:ss.mergeSort leB=Z8i keys:=Z7w (hss.trans hperm)
 rw[hms]at hrow
 have hlen2:(Z8i keys).length=ss.length:=by rw[<- hms,List.length_mergeSort]
 obtain⟨hr0,hr⟩:=hrow
 rcases hr with ⟨rfl,hz0⟩|⟨g,cap,cur,rfl,hg1,hg2,hg3,hg4,hg5,hg6⟩
 · have:Z8i keys=[]:=Y0J (by omega)
   rw[this];simp[rsK,VR]
 · simp only[rsK,VR]
   refine .inr ⟨⟨g,0,none⟩,cap,by rw[hlen2],by omega,by simp,?_,λ_=>rfl⟩
   refine Z8g hg1 _ _ 0 Zhq λi v hv=>?_
   rw[Z16 hg2]
   simp only[Y0o]
   have:(cur.toList.take (ss.length*1))[i]? = some v:=by rw[hg6];exact hv
   rw[List.getElem?_take]at this
   split at this
   ·simpa using this
   ·cases this
def Zfe:List (AV×AV×Nat)->Option (List (List UInt8))
 |[]=>some []
 |(.str s,_,_)::es=>match Zfe es with|some l=>some (s::l)|none=>none
 |_=>none
theorem Z8u:∀{es:List (AV×AV×Nat)}{l:List (List UInt8)},Zfe es=some l->es.map (·.1)=l.map AV.str
 |[],l,h=>by simp[Zfe]at h;subst h;rfl
 |(k,v,n)::es,l,h=>by
  unfold Zfe at h
  split at h
  ·rename_i e;cases e
  · rename_i e
    simp only[List.cons.injEq,Prod.mk.injEq]at e
    obtain⟨⟨rfl,rfl,rfl⟩,rfl⟩:=e
    split at h<;>simp at h
    subst h
    simp[Z8u (by assumption)]
  ·cases h
def Zjw(keys:List (List UInt8))(es:List (AV×AV×Nat))(clock:Nat):Bool :=
 decide keys.Nodup&&(decide (∀k∈keys,k.length<=9223372036854775807)&&(decide (es.map (·.2.2)).Nodup&&((es.map (·.2.2)).all (λn=>decide (n<clock))&&Nat.ble keys.length 1000000)))
def ZbU(es:List (AV×AV×Nat))(clock:Nat):Option AV:=match Zfe es with
 |some keys=>if Zjw keys es clock=true then some (rsK (Z8i keys)) else none
 |none=>none
def Z9p(fI:Nat):List AV->Option Nat
 |[.func (.func g) [] [.ptr c 0]]=>if g=fI then some c else none
 |_=>none
def Zie(oc:AObj):Option Nat:=if oc.alive=true/\oc.sh=0 then (match oc.body with | .cells [.map b] _=>some b|_=>none) else none
def Zid(ob:AObj):Option (List (AV×AV×Nat)×Nat):=if ob.alive=true then (match ob.body with | .map es clock=>some (es,clock)|_=>none) else none
def sortO(fS fI:Nat):Orc:=λf args H =>
 if f=fS then (match Z9p fI args with
  |some c=>match H[c]? with
   |some oc=>match Zie oc with
    |some b=>match H[b]? with
     |some ob=>match Zid ob with
      |some (es,clock)=>match ZbU es clock with
       |some v=>some (v,H)
       |none=>none
      |none=>none
     |none=>none
    |none=>none
   |none=>none
  |none=>none) else none
noncomputable def ZfZ(fS fI:Nat):Z5z:=λf args T =>
 if f=fS then (match Z9p fI args with
  |some c=>match Zie (T.get c) with
   |some b=>match Zid (T.get b) with
    |some (es,clock)=>match ZbU es clock with
     |some v=>some (v,T)
     |none=>none
    |none=>none
   |none=>none
  |none=>none) else none
theorem Z8P{oc:AObj}{b:Nat}(h:Zie oc=some b):oc.alive=true/\oc.sh=0/\∃ty,oc.body = .cells [.map b] ty:=by
 unfold Zie at h
 split at h<;>try (cases h;done)
 rename_i h1
 split at h<;>simp at h
 subst h
 exact⟨h1.1,h1.2,_,by assumption⟩
theorem Z8N{ob:AObj}{x:List (AV×AV×Nat)×Nat}(h:Zid ob=some x):ob.alive=true/\ob.body = .map x.1 x.2:=by
 unfold Zid at h
 split at h<;>try (cases h;done)
 split at h<;>simp at h
 subst h
 exact⟨by assumption,by assumption⟩
theorem Zax{fI c:Nat}{args:List AV}(h:Z9p fI args=some c):args=[.func (.func fI) [] [.ptr c 0]]:=by
 unfold Z9p at h
 split at h<;>try (cases h;done)
 split at h<;>simp at h
 subst h;rename_i e;subst e;rfl
theorem Zeq(fS fI:Nat):Z1F (ZfZ fS fI) (sortO fS fI):=by
 intro f args T r T' h H hR
 simp only[ZfZ]at h
 split at h<;>try (cases h;done)
 rename_i hf
 split at h<;>try (cases h;done)
 rename_i c hc
 split at h<;>try (cases h;done)
 rename_i b hb
 split at h<;>try (cases h;done)
 rename_i es clock hm
 split at h<;>simp at h
 obtain⟨rfl,rfl⟩:=h
 rename_i v hv
 have h1:=hR.obj c (Z8P hb).1
 have h2:=hR.obj b (Z8N hm).1
 exact⟨H,by simp[sortO,hf,hc,h1,hb,h2,hm,hv],hR⟩
theorem sortO_sound{P:Program}{gl:Glob}{fS fI kt:Nat}(hS:SortsKeys P fS fI kt)(hk:P.underlying kt=some .string):OrcSound P gl (sortO fS fI):=by
 intro f args H r H' h sn ι W cargs hg hR ha
 simp only[sortO]at h
 split at h<;>try (cases h;done)
 rename_i hf
 subst hf
 split at h<;>try (cases h;done)
 rename_i c hc
 split at h<;>try (cases h;done)
 rename_i oc hoc
 split at h<;>try (cases h;done)
 rename_i b hb
 split at h<;>try (cases h;done)
 rename_i ob hob
 split at h<;>try (cases h;done)
 rename_i es clock hm
 split at h<;>simp at h
 obtain⟨rfl,rfl⟩:=h
 rename_i v hv
 unfold ZbU at hv
 split at hv<;>try (cases hv;done)
 rename_i keys hks
 split at hv<;>simp at hv
 subst hv
 rename_i hok
 simp only[Zjw,Y0b,decide_eq_true_eq,Y0z]at hok
 obtain⟨o1,o2,o3,o4,o5⟩:=hok
 obtain⟨m1,m2,ty,m3⟩:=Z8P hb
 obtain⟨n1,n2⟩:=Z8N hm
 rw[Zax hc]at ha
 exact .inl (Zav hS hk hR hoc m1 m2 m3 hob n1 n2 (Z8u hks) o1 o2 o3 o4 (Nat.le_of_ble_eq_true o5) ha)
end Go.Abs
end
section
namespace Go.Abs
open Go.RowKit
theorem Wk.nil{m:List Nat}{z:Nat}:Wk m .nslice (.rs 0 z []):=λsn ι v h=>by simp only[VR]at h⊢;exact .inl ⟨trivial,trivial,h⟩
theorem swA{A B:Prop}(h:A):ZeZ (A/\B) B:=λb=>⟨h,b⟩
theorem stw{P Q:Prop}(q:Q)(h:ZeZ P Q:=by
 first
 |(refine swA (Wk.int ?_);(focus (first|rfl|omega|(simp;done)|(simp;omega))))|(refine swA (Wk.bool ?_);(focus (first|rfl|(simp;done))))|exact swA (Wk.noref rfl)
 |exact swA (Wk.ptr rfl rfl)|(refine swA (Wk.slice rfl ?_ ?_ ?_ ?_ ?_);(focus (first|rfl|omega));(focus (first|rfl|omega));(focus (first|rfl|omega));(focus (first|rfl|omega));(focus rfl))|exact swA Wk.nil|exact swA (Wk.func trivial ⟨Wk.ptr rfl rfl,trivial⟩)|exact swA (Wk.map rfl)):P:=h q
section
open Classical
noncomputable def Zma{I:Type}(G:I->Prop)(fF:I->Nat)(fA:I->List AV)(fR:I->AV):Orc:=Zjs λf args=>if h:∃i,G i/\fF i=f/\fA i=args then some (fR (Classical.choose h)) else none
theorem Zed{P:Program}{gl:Glob}{I:Type}{G:I->Prop}{fF:I->Nat}{fA:I->List AV}{fR:I->AV}(h:∀i,G i->refsL (fA i) []=[]/\Z0k P gl (fF i) (fA i) (fR i)):OrcSound P gl (Zma G fF fA fR):=Z5G λf args r e=>by
 split at e
 · rename_i hx
   simp only[Option.some.injEq]at e
   subst e
   obtain⟨g1,e1,e2⟩:=Classical.choose_spec hx
   have:=h _ g1
   rw[e1,e2]at this;exact this
 ·cases e
theorem Zoa {P : Program} {I : Type} {G : I -> Prop} {fF : I -> Nat} {fA : I -> List AV} {fR : I -> AV} (hinj : ∀ i j, G i -> G j -> fF i = fF j -> fA i = fA j -> fR i = fR j) {H : Z00} (i : I) (hb : Z0b P (fF i) = true) (hi : G i) :
  Z08 P (Zma G fF fA fR) H (fF i) (fA i)=some (fR i,H):=by
 have hx:∃j,G j/\fF j=fF i/\fA j=fA i:=⟨i,hi,rfl,rfl⟩
 unfold Z08
 rw[if_pos hb]
 unfold Zma Zjs
 simp only[dif_pos hx]
 obtain⟨g1,g2,g3⟩:=Classical.choose_spec hx
 rw[hinj _ i g1 hi g2 g3]
theorem Z3U{I:Type}{G:I->Prop}{fF:I->Nat}{fA:I->List AV}{fH:I->Z00}{fR:I->AV}{fO:I->Z00}{g:Nat}{args:List AV}{H:Z00}(h:∀i,G i->fF i=g->fA i≠args):orcI G fF fA fH fR fO g args H=none:=by
 unfold orcI
 rw[dif_neg]
 rintro⟨i,h1,h2,h3,_⟩
 exact h i h1 h2 h3
end
theorem Z49{P:Program}{o1 o2:Orc}{H:Z00}{g:Nat}{args:List AV}{x:AV×Z00}(hb:Z0b P g=true)(h:Z08 P o1 H g args=some x):Z08 P (Z29 o1 o2) H g args=some x:=by
 unfold Z08 at h⊢
 rw[if_pos hb]at h⊢
 unfold Z29;rw[h]
theorem Z61{P:Program}{o1 o2:Orc}{H:Z00}{g:Nat}{args:List AV}{x:AV×Z00}(hb:Z0b P g=true)(h1:o1 g args H=none)(h:Z08 P o2 H g args=some x):Z08 P (Z29 o1 o2) H g args=some x:=by
 unfold Z08 at h⊢
 rw[if_pos hb]at h⊢
 unfold Z29;rw[h1];exact h
structure Fam (P:Program) (gl:Glob) where
 I:Type
 f:Nat
 G:I->Prop
 A:I->List AV
 R:I->AV
 body:Z0b P f=true
 inj:∀i j,G i->G j->A i=A j->R i=R j
 ok:∀i,G i->refsL (A i) []=[]/\Z0k P gl f (A i) (R i)
structure FamM (P:Program) (gl:Glob) where
 I:Type
 f:Nat
 G:I->Prop
 A:I->List AV
 H:I->Z00
 R:I->AV
 O:I->Z00
 body:Z0b P f=true
 inj:∀i j,G i->G j->A i=A j->H i=H j->R i=R j/\O i=O j
 ok:∀i,G i->Z2f P gl f (A i) (H i) (R i) (O i)
section
variable {P:Program} {gl:Glob}
def Fam.Ask(F:Fam P gl)(O:Orc):Prop:=∀i,F.G i->∀H,Z08 P O H F.f (F.A i)=some (F.R i,H)
def FamM.Ask(F:FamM P gl)(O:Orc):Prop:=∀i,F.G i->Z08 P O (F.H i) F.f (F.A i)=some (F.R i,F.O i)
def AllAsk(O:Orc):List (Fam P gl)->Prop
 |[]=>True
 |F::l=>F.Ask O/\AllAsk O l
def AllAskM(O:Orc):List (FamM P gl)->Prop
 |[]=>True
 |F::l=>F.Ask O/\AllAskM O l
theorem ZcD{o O:Orc}{f:Nat}(ho:∀g args H,g≠f->o g args H=none):(∀F:Fam P gl,F.f≠f->F.Ask O->F.Ask (Z29 o O))/\(∀F:FamM P gl,F.f≠f->F.Ask O->F.Ask (Z29 o O)) :=
 ⟨λF hf h i hi H=>Z61 F.body (ho _ _ _ hf) (h i hi H),λF hf h i hi=>Z61 F.body (ho _ _ _ hf) (h i hi)⟩
theorem Z9P:∀(l:List (Fam P gl)),Z0H (l.map (·.f))=true->∃O,OrcSound P gl O/\AllAsk O l
 |[],_=>⟨λ_ _ _=>none,(λf args H r H' h=>by cases h),trivial⟩
 |F::l,h=>by
  simp only[Y0h,Z0H,Y0b,Y0y]at h
  obtain⟨O,hO,ha⟩:=Z9P l h.2
  have ho:∀g args H,g≠F.f->Zma F.G (λ_=>F.f) F.A F.R g args H=none:=by
   intro g args H hg
   have:¬ ∃i,F.G i/\F.f=g/\F.A i=args:=by
    rintro⟨i,_,h2,_⟩
    exact hg h2.symm
   simp only[Zma,Zjs,dif_neg this]
  refine⟨Z29 (Zma F.G (λ_=>F.f) F.A F.R) O,Z12 (Zed F.ok) hO,λi hi H=>Z49 F.body (Zoa (λi j hi hj _ ha=>F.inj i j hi hj ha) i F.body hi),?_⟩
  have hn:∀G∈l,G.f≠F.f:=λG hG e=>by
   have h1:=h.1
   have:mem F.f (l.map (·.f))=true:=mem_iff.2 (by rw[<- e];exact Y0A hG)
   rw[this]at h1;cases h1
  clear h
  induction l with
  |nil=>trivial
  |cons G l ih =>
   exact⟨(ZcD ho).1 G (hn G (by simp)) ha.1,ih ha.2 λK hK=>hn K (by simp[hK])⟩
theorem fams(l:List (Fam P gl))(h:Z0H (l.map (·.f))=true):∃O,OrcSound P gl O/\AllAsk O l:=Z9P l h
theorem AllAsk.add{o O:Orc}{f:Nat}(ho:∀g args H,g≠f->o g args H=none):∀{l:List (Fam P gl)},mem f (l.map (·.f))=false->AllAsk O l->AllAsk (Z29 o O) l
 |[],_,_=>trivial
 |F::l,h,ha=>by
  simp only[Y0h,mem,Bool.or_eq_false_iff]at h
  exact⟨(ZcD ho).1 F (λe=>by rw[e]at h;simp at h) ha.1,AllAsk.add ho h.2 ha.2⟩
theorem AllAskM.add{o O:Orc}{f:Nat}(ho:∀g args H,g≠f->o g args H=none):∀{l:List (FamM P gl)},mem f (l.map (·.f))=false->AllAskM O l->AllAskM (Z29 o O) l
 |[],_,_=>trivial
 |F::l,h,ha=>by
  simp only[Y0h,mem,Bool.or_eq_false_iff]at h
  exact⟨(ZcD ho).2 F (λe=>by rw[e]at h;simp at h) ha.1,AllAskM.add ho h.2 ha.2⟩
theorem Zge:∀(m:List (FamM P gl))(l:List (Fam P gl)),Z0H (m.map (·.f)++l.map (·.f))=true->∃O,OrcSound P gl O/\AllAskM O m/\AllAsk O l
 |[],l,h=>by
  obtain⟨O,h1,h2⟩:=Z9P l h
  exact⟨O,h1,trivial,h2⟩
 |F::m,l,h=>by
  simp only[Y0h,Y0j,Z0H,Y0b,Y0y]at h
  obtain⟨O,hO,ha,hb⟩:=Zge m l h.2
  have ho:∀g args H,g≠F.f->orcI F.G (λ_=>F.f) F.A F.H F.R F.O g args H=none:=λg args H hg=>Z3U λi _ e=>absurd e.symm hg
  have hmem:∀{a b:List Nat},mem F.f (a++b)=false->mem F.f a=false/\mem F.f b=false:=by
   intro a b h
   constructor
   · cases hx:mem F.f a with
     |false=>rfl
     |true=>rw[mem_iff.2 (List.mem_append.2 (.inl (mem_iff.1 hx)))]at h;cases h
   · cases hx:mem F.f b with
     |false=>rfl
     |true=>rw[mem_iff.2 (List.mem_append.2 (.inr (mem_iff.1 hx)))]at h;cases h
  obtain⟨n1,n2⟩:=hmem h.1
  refine⟨Z29 (orcI F.G (λ_=>F.f) F.A F.H F.R F.O) O,Z12 (Z2h F.ok) hO,⟨λi hi=>Z49 F.body (ZeG (λi j hi hj _ ha hh=>F.inj i j hi hj ha hh) F.body i hi rfl rfl rfl),AllAskM.add ho n1 ha⟩,AllAsk.add ho n2 hb⟩
end
theorem hbp{a b:Bool}{f i s s2:Nat}{m:List Nat}{cs cs2:List AV}{ty:TypeId}(h1:a=true:=by rfl)(h2:b=true:=by rfl)(h3:f=i:=by rfl)(h4:s2=s:=by rfl)(h5:cs=cs2++[]:=by rfl)(h6:refsL cs2 []=[]:=by rfl):a=true/\b=true/\f=i/\s2=s/\BodyGe m (.cells cs ty) (.cells cs2 ty):=⟨h1,h2,h3,h4,BodyGe.pre (rest:=[]) h5 h6⟩
theorem wks{P:Prop}(h:P:=by (repeat (first|exact trivial|refine stw ?_));done):P:=h
theorem neS{α : Type}{l:List α}(h:l≠[]:=by first|exact List.cons_ne_nil _ _|assumption|(simp;done)|(intro hz;simp only[List.append_eq_nil_iff]at hz;simp_all;done)):l≠[]:=h
theorem leS{P:Prop}(h:P:=by (try simp only[List.length_append,List.length_cons,List.length_nil]at *);omega):P:=h
end Go.Abs
end
namespace Go.Proofs.YtajhailaofchlaaDoor.lex
open Go.Abs Go.RowKit
section
variable {gl:Glob}
theorem Z2P{α : Type}[BEq α]{x y : α}{b:Bool}(h:(x==y)=b):(x != y) = !b:=by simp only[bne,h]
inductive Ex where
 |mk (op num:Int) (name:List UInt8) (kids:List Ex)
instance:Inhabited Ex:=⟨.mk 0 0 [] []⟩
def Ex.op:Ex->Int
 | .mk o _ _ _=>o
def Ex.name:Ex->List UInt8
 | .mk _ _ s _=>s
def Ex.kids:Ex->List Ex
 | .mk _ _ _ k=>k
mutual
def Ex.cells:Ex->List AV
 | .mk op num name kids=>[.int .i64 op,.int .i64 num,.str name,.rs kids.length 4 (exC kids)]
def exC:List Ex->List AV
 |[]=>[]
 |e::l=>e.cells++exC l
end
def exA(l:List Ex):AV:=.rs l.length 4 (exC l)
mutual
def Z1v:Ex->Nat
 | .mk _ _ _ kids=>1+sizeL kids
def sizeL:List Ex->Nat
 |[]=>0
 |e::l=>Z1v e+sizeL l
end
mutual
def ZeA:Ex->Nat
 | .mk _ _ _ kids=>deepL kids+1
def deepL:List Ex->Nat
 |[]=>0
 |e::l=>max (ZeA e) (deepL l)
end
theorem Z3c:∀e:Ex,e.cells.length=4
 | .mk _ _ _ _=>by simp only[Ex.cells];rfl
theorem Z9W:∀l:List Ex,(exC l).length=l.length*4
 |[]=>by simp only[exC];rfl
 |e::l=>by simp only[exC,Y0B,Z3c,Z9W l,Y0k];omega
theorem Zgi:∀a b:List Ex,exC (a++b)=exC a++exC b
 |[],b=>by simp only[exC,Y0m]
 |e::a,b=>by simp only[exC,Y0j,Zgi a b,List.append_assoc]
theorem ZiN(e:Ex)(l:List Ex)(i:Nat):(exC (e::l)).drop ((i+1)*4)=(exC l).drop (i*4):=by
 have h:(i+1)*4=4+i*4:=by omega
 rw[h,<- Y0u,exC,List.drop_left' (Z3c e)]
theorem Zf8:∀(a b:List AV),tk a.length (a++b)=some a
 |[],b=>by cases b<;>rfl
 |c::a,b=>by simp only[Y0k,Y0j,tk,Zf8 a b]
theorem Zdx:∀(l:List Ex)(i:Nat)(h:i<l.length),(exC l).drop (i*4)=l[i].cells++exC (l.drop (i+1))
 |e::l,0,h=>by simp only[Y0v,Y0n,exC,Y09,Y0g]
 |e::l,i+1,h=>by rw[ZiN,Zdx l i (by simpa using h)];simp only[Y08,Y0g]
theorem ex4(l:List Ex)(i:Nat)(h:i<l.length):tk 4 ((exC l).drop (i*4))=some l[i].cells:=by
 rw[Zdx l i h]
 have:=Zf8 l[i].cells (exC (l.drop (i+1)))
 rwa [Z3c]at this
mutual
theorem Z46:∀(a b:Ex),a.cells=b.cells->a=b
 | .mk o n s k,.mk o' n' s' k',h=>by
  simp only[Ex.cells]at h
  simp at h
  obtain⟨rfl,rfl,rfl,hl,hk⟩:=h
  rw[exC_inj k k' hk hl]
theorem exC_inj:∀(a b:List Ex),exC a=exC b->a.length=b.length->a=b
 |[],[],_,_=>rfl
 |x::a,y::b,h,hl=>by
  simp only[exC]at h
  have h':=List.append_inj h (by rw[Z3c,Z3c])
  rw[Z46 x y h'.1,exC_inj a b h'.2 (by simpa using hl)]
 |[],_::_,_,hl=>by simp at hl
 |_::_,[],_,hl=>by simp at hl
end
theorem Z5V{a b:List Ex}(h:exA a=exA b):a=b:=by
 simp only[exA,AV.rs.injEq,true_and]at h
 exact exC_inj _ _ h.2 h.1
theorem Z54:∀e:Ex,0<Z1v e
 | .mk _ _ _ _=>by simp only[Z1v];omega
theorem Zaz:∀(l:List Ex)(i:Nat)(h:i<l.length),sizeL l=sizeL (l.take i)+Z1v l[i]+sizeL (l.drop (i+1))
 |e::l,0,h=>by simp only[Y02,sizeL,Y09,Y0g,Y0n];omega
 |e::l,i+1,h=>by
  have:=Zaz l i (by simpa using h)
  simp only[Y03,sizeL,Y08,Y0g];omega
theorem Z3S:∀l:List Ex,l.length<=sizeL l
 |[]=>Y05 _
 |e::l=>by have:=Z3S l;have:=Z54 e;simp only[sizeL,Y0k];omega
theorem Z8A:∀e:Ex,Z1v e=1+sizeL e.kids
 | .mk _ _ _ _=>by simp only[Z1v,Ex.kids]
theorem Z1u:∀(l:List Ex)(e:Ex),e∈l->Z1v e<=sizeL l
 |e::l,f,h=>by
  simp only[sizeL]
  rcases Y0f.1 h with rfl|h
  ·omega
  ·have:=Z1u l f h;omega
mutual
theorem Zez:∀e:Ex,ZeA e<=Z1v e
 | .mk _ _ _ k=>by have:=deepL_size k;simp only[ZeA,Z1v];omega
theorem deepL_size:∀l:List Ex,deepL l<=sizeL l
 |[]=>Y07 _
 |e::l=>by have:=Zez e;have:=deepL_size l;simp only[deepL,sizeL];omega
end
theorem Zgf(e:Ex):refsL [.agg e.cells] []=[]:=by
 obtain⟨o,n,s,k⟩:=e
 simp only[Ex.cells];rfl
theorem Z0c{α : Type}{l:List α}{i:Nat}(h:i<l.length):l[i]∈l:=List.getElem_mem h
end
section
variable {gl:Glob}
def Zf0(s:List UInt8):Bool:=!s.isEmpty&&(Z5A s==s.length && !keysL.contains s)
theorem Zkb(s:List UInt8):∃k w,Z8h s = .tuple [.int .i64 k,.bool w]/\(w&&(k==1))=Zf0 s/\(k==1)=Zf0 s:=by
 unfold Z8h Zf0
 by_cases h0:s=[]
 ·subst h0;exact⟨0,false,by rw[if_neg (λh=>h.1 rfl)],rfl,rfl⟩
 · by_cases hw:Z5A s=s.length
   · rw[if_pos ⟨h0,hw⟩]
     refine⟨_,_,rfl,?_⟩
     have:s.isEmpty=false:=by cases s with|nil=>exact absurd rfl h0|cons _ _=>rfl
     rw[this,hw]
     cases keysL.contains s<;>simp
   · rw[if_neg (λh=>hw h.2)]
     refine⟨_,_,rfl,?_⟩
     have:(Z5A s==s.length)=false:=by simpa using hw
     rw[this];simp
theorem ZfR(s:List UInt8)(hs:s.length<=9223372036854775807)(m:Bool):Z0k Y00 gl 37 [.str s,.bool m] (.bool (if m then Zf0 s else s==[])):=by
 obtain⟨k,w,h1,h2,h3⟩:=Zkb s
 have hO:=Zef (P:=Y00) (gl:=gl) (l:=[(74,[.str s],Z8h s)]) ⟨rfl,ZhE s hs,trivial⟩
 have q:∀H,Z08 Y00 (Znl [(74,[.str s],Z8h s)]) H 74 [.str s]=some (Z8h s,H):=λH=>Zob (by kernel_rfl) Zes
 rw[h1]at q hO
 rw[<- h3]
 cases m with
 |true =>
  refine Z0C follows Z0x hO Tryd.func37 rfl ?_
  repeat' ((conv=>whnf);first|refine exI (q _) ?_|refine stp ?_|with_reducible apply Z03<;>intro h)
  all_goals rfl
 |false =>
  refine Z0C follows Z0x hO Tryd.func37 rfl ?_
  repeat' ((conv=>whnf);first|refine exI (q _) ?_|refine stp ?_|with_reducible apply Z03<;>intro h)
  all_goals rfl
end
section
variable {gl:Glob}
def okN(s:List UInt8)(n:Nat):Prop:=s.length<=9223372036854775807/\n<=9223372036854775807
mutual
def okE:Ex->Prop
 | .mk _ _ s k=>okN s k.length/\okL k
def okL:List Ex->Prop
 |[]=>True
 |e::l=>okE e/\okL l
end
theorem Z2n:∀{l:List Ex},okL l->∀e∈l,okE e
 |x::l,h,e,he=>by
  simp only[okL]at h
  rcases Y0f.1 he with rfl|he
  ·exact h.1
  ·exact Z2n h.2 e he
theorem Z3r:∀{e:Ex},okE e->okN e.name e.kids.length/\okL e.kids
 | .mk _ _ s k,h=>by simp only[okE]at h;exact h
mutual
def Z4A:Ex->Int->Int
 | .mk _ _ s k,l=>heftL k (l-1-(s.length / 20:Nat))
def heftL:List Ex->Int->Int
 |[],l=>l
 |e::k,l=>if 0<=l then heftL k (Z4A e l) else l
end
mutual
theorem Zep:∀(e:Ex)(l:Int),0<=Z4A e l->(Z1v e:Int)+Z4A e l<=l
 | .mk _ _ s k,l,h=>by
  simp only[Z4A,Z1v]at *
  have:=heftL_size k _ h;omega
theorem heftL_size:∀(k:List Ex)(l:Int),0<=heftL k l->(sizeL k:Int)+heftL k l<=l
 |[],l,h=>by simp only[heftL,sizeL]at *;omega
 |e::k,l,h=>by
  simp only[heftL,sizeL]at *
  split at h
  · rename_i hl
    rw[if_pos hl]
    have h1:=heftL_size k _ h
    have h2:0<=Z4A e l:=by omega
    have h3:=Zep e l h2
    omega
  ·omega
end
mutual
theorem Ziu:∀(e:Ex)(l:Int),Z4A e l<=l
 | .mk _ _ s k,l=>by simp only[Z4A];have:=heftL_le k (l-1-(s.length / 20:Nat));omega
theorem heftL_le:∀(k:List Ex)(l:Int),heftL k l<=l
 |[],l=>by simp only[heftL];omega
 |e::k,l=>by
  simp only[heftL]
  split
  ·have:=heftL_le k (Z4A e l);have:=Ziu e l;omega
  ·omega
end
theorem Z9L:∀(k:List Ex)(l:Int)(i:Nat)(h:i<k.length),heftL (k.take (i+1)) l=if 0<=heftL (k.take i) l then Z4A k[i] (heftL (k.take i) l) else heftL (k.take i) l
 |e::k,l,0,h=>by simp only[Y03,Y02,heftL,Y09]
 |e::k,l,i+1,h=>by
  have ih:=λl=>Z9L k l i (by simpa using h)
  simp only[Y03,heftL,Y08]at ih⊢
  split
  ·exact ih _
  ·rename_i h2;simp[h2]
theorem Z5Q:∀(k:List Ex)(l:Int)(i:Nat),heftL (k.take i) l<0->heftL k l=heftL (k.take i) l
 |[],l,i,h=>by simp[heftL]
 |e::k,l,0,h=>by
  simp only[Y02,heftL]at *
  rw[if_neg (by omega)]
 |e::k,l,i+1,h=>by
  simp only[Y03,heftL]at *
  split
  · rename_i hl
    rw[if_pos hl]at h
    exact Z5Q k _ i h
  ·rfl
theorem ZfU:∀(n:Nat)(e:Ex)(l:Int),Z1v e<=n->okE e->0<=l->l<=1048576->Z0k Y00 gl 45 [.agg e.cells,.int .i64 l] (.int .i64 (Z4A e l))
 |0,e,l,h,_,_,_=>by have:=Z54 e;omega
 |n+1,.mk op num name kids,l,h,hok,hl0,hl1=>by
  simp only[Z1v]at h
  obtain⟨⟨hn1,hn2⟩,hok2⟩:=Z3r hok
  simp only[Ex.name,Ex.kids]at hn1 hn2 hok2
  obtain⟨O,hO,q,-⟩:=fams (P:=Y00) (gl:=gl) [{ I:=Ex×Int,f:=45,G:=λp=>p.1∈kids/\0<=p.2/\p.2<=1048576,A:=λp=>[.agg p.1.cells,.int .i64 p.2],R:=λp=>.int .i64 (Z4A p.1 p.2),body:=(by kernel_rfl),inj:=(λi j _ _ h=>by simp only[List.cons.injEq,AV.agg.injEq,AV.int.injEq,and_true,true_and]at h;rw[Z46 _ _ h.1,h.2]),ok:=(λp hp=>⟨by have:=Zgf p.1;simpa[refsL,refs]using this,ZfU n p.1 p.2 (by have:=Z1u _ _ hp.1;omega) (Z2n hok2 _ hp.1) hp.2.1 hp.2.2⟩) }] rfl
  have q20:Int.tdiv (name.length:Int) 20=((name.length / 20:Nat):Int):=rfl
  have w1:IntKind.i64.wrap (l-1)=l-1:=Z4Q (by omega) (by omega)
  have w2:IntKind.i64.wrap (Int.tdiv (name.length:Int) 20)=((name.length / 20:Nat):Int):=by rw[q20];exact Z4Q (by omega) (by omega)
  have w3:IntKind.i64.wrap (l-1-((name.length / 20:Nat):Int))=l-1-((name.length / 20:Nat):Int):=Z4Q (by omega) (by omega)
  simp only[Ex.cells,Z4A]
  refine Z0C follows Z0x hO Tryd.func45 rfl ?_
  repeat' ((conv=>whnf);first|(with_reducible refine exW w1 ?_)|(refine Y01 (show (20:Int)≠0 by decide) ?_)|(rw[w2])|(with_reducible refine exW w3 ?_)|refine stp ?_|with_reducible apply Z03<;>intro h)
  conv=>whnf
  generalize hl00:l-1-((name.length / 20:Nat):Int)=l0 at *
  refine⟨Nat,(λi=>i<=kids.length),(λi=>[(1,.int .i64 (heftL (kids.take i) l0)),(2,.ptr 0 0),(5,.int .i64 i)]),(λ_=>[⟨true,0,0,.cells [.int .i64 op,.int .i64 num,.str name,.rs kids.length 4 (exC kids)] 36⟩]),(λi=>kids.length-i),⟨0,Y05 _,Y0c [0] rfl ?_ ⟨hbp,trivial⟩ rfl⟩,?_⟩
  ·simp only[Y02,heftL];exact wks
  intro i hi
  dsimp only
  have hle:=heftL_le (kids.take i) l0
  by_cases hlt:i<kids.length
  · have e1:decide ((i:Int)<(kids.length:Int))=true:=by simpa using hlt
    by_cases hpos:0<=heftL (kids.take i) l0
    · have e2:decide (heftL (kids.take i) l0 >= 0)=true:=by simpa using hpos
      have hx:=ex4 kids i hlt
      have hs:=Z9L kids l0 i hlt
      rw[if_pos hpos]at hs
      have hc':∀H,Z08 Y00 O H 45 [.agg kids[i].cells,.int .i64 (heftL (kids.take i) l0)]=some (.int .i64 (Z4A kids[i] (heftL (kids.take i) l0)),H):=q (kids[i],_) ⟨Z0c hlt,hpos,by show heftL (kids.take i) l0<=1048576;omega⟩
      generalize kids[i]=k at *
      repeat' ((conv=>whnf);first|refine exI hx ?_|refine exI (hc' _) ?_|(with_reducible refine ixJ i rfl ?_ ?_;focus omega)|refine stp ?_|with_reducible apply Z03<;>intro h)
      conv=>whnf
      refine⟨i+1,hlt,by show kids.length-(i+1)<kids.length-i;omega,Y0c [0] rfl ?_ ⟨hbp,trivial⟩ rfl⟩
      rw[hs];exact wks
    · have e2:decide (heftL (kids.take i) l0 >= 0)=false:=by simpa using hpos
      have hst:=Z5Q kids l0 i (by omega)
      rw[hst]
      repeat' ((conv=>whnf);first|refine stp ?_|with_reducible apply Z03<;>intro h)
      rfl
  · have e1:decide ((i:Int)<(kids.length:Int))=false:=by simpa using hlt
    have hi2:i=kids.length:=by have:=hi;omega
    subst hi2
    rw[Y04]
    repeat' ((conv=>whnf);first|refine stp ?_|with_reducible apply Z03<;>intro h)
    rfl
end
section
theorem FgLK.same{k:Nat}{t0 tm:Tr}{H:Z00}{l:List (Nat×AV)}(h1:ZbI t0 tm=true)(hs:SlotsGe (List.range k) tm l)(hH:HpGe H (List.range k) (List.range k) H 0/\Z0H ((List.range k).map (Z1b H))=true/\ZhA k 0 (List.range k)=true):FgLK k t0 tm H l H:=by
 unfold FgLK
 rw[h1]
 exact .inl ⟨List.range k,hH.2.2,hs,hH.1,hH.2.1⟩
structure TvE (gl:Glob) where
 σ : Type
 Mem : σ -> Z00
 k:Nat
 len:∀s,(Mem s).length=k
 same:∀s,HpGe (Mem s) (List.range k) (List.range k) (Mem s) 0/\Z0H ((List.range k).map (Z1b (Mem s)))=true/\ZhA k 0 (List.range k)=true
 evo:∀s s',ZhC k (Mem s) (Mem s')=true
 inj:∀s s',Mem s=Mem s'->s=s'
 I:Int -> σ -> Nat->Prop
 up:∀d s m,0<=d->I (d+1) s m->I d s m
 less:∀d s m,I d s (m+1)->I d s m
 bnd:∀d s m,I d s m->0<=d/\d<=1152921504606846976
 gE:Nat
 cE:List AV
 hE:Ex->Int -> σ -> Bool×σ
 bodyE:Z0b Y00 gE=true
 wkE:WkL (List.range k) cE cE
 okE:∀e rest d s m,okE e->I d s (m+1)->Z2f Y00 gl gE ([.rp (e.cells++rest),.int .i64 d]++cE) (Mem s) (.bool (hE e d s).1) (Mem (hE e d s).2)
 downE:∀e d s m,I d s (m+1)->(hE e d s).1=true->I (d+1) (hE e d s).2 m
section
variable {σ : Type}
mutual
def goE(h:Ex->Int -> σ -> Bool×σ):Ex->Int -> σ -> Bool×σ
 | .mk o n s k,d,t=>if (h (.mk o n s k) d t).1=true then goL h k (d+1) (h (.mk o n s k) d t).2 else (false,(h (.mk o n s k) d t).2)
def goL(h:Ex->Int -> σ -> Bool×σ):List Ex->Int -> σ -> Bool×σ
 |[],d,t=>(true,t)
 |e::l,d,t=>if (goE h e d t).1=true then goL h l d (goE h e d t).2 else (false,(goE h e d t).2)
end
variable {h:Ex->Int -> σ -> Bool×σ}
theorem ZmN(e:Ex)(d:Int)(t : σ):goE h e d t=if (h e d t).1=true then goL h e.kids (d+1) (h e d t).2 else (false,(h e d t).2):=by
 obtain⟨o,n,s,k⟩:=e
 simp only[goE,Ex.kids]
theorem ZjK:∀(l:List Ex)(d:Int)(t : σ)(i:Nat)(hi:i<l.length),(goL h (l.take i) d t).1=true->goL h (l.take (i+1)) d t=goE h l[i] d (goL h (l.take i) d t).2
 |e::l,d,t,0,_,_=>by
  simp only[Y02,Y03,goL,Y09]
  split
  ·rename_i h2;rw[<- h2]
  ·rename_i h2;rw[<- Bool.eq_false_iff.2 h2]
 |e::l,d,t,i+1,hi,ht=>by
  simp only[Y03,goL,Y08]at ht⊢
  split
  · rename_i h2
    rw[if_pos h2]at ht
    exact ZjK l d _ i (by simpa using hi) ht
  ·rename_i h2;rw[if_neg h2]at ht;cases ht
theorem Zdo:∀(l:List Ex)(d:Int)(t : σ)(i:Nat),(goL h (l.take i) d t).1=false->goL h l d t=goL h (l.take i) d t
 |[],d,t,i,hf=>by simp
 |e::l,d,t,0,hf=>by simp only[Y02,goL]at hf;cases hf
 |e::l,d,t,i+1,hf=>by
  simp only[Y03,goL]at hf⊢
  split
  · rename_i h2
    rw[if_pos h2]at hf
    exact Zdo l d _ i hf
  ·rfl
end
section
variable {gl:Glob} (V:TvE gl)
def TvE.F:AV:=.func (.func V.gE) [] V.cE
mutual
theorem TvE.keepE:∀(e:Ex)(d:Int)(s:V.σ)(m:Nat),V.I d s (Z1v e+m)->(goE V.hE e d s).1=true->V.I d (goE V.hE e d s).2 m
 | .mk o n t k,d,s,m,hI,ht=>by
  simp only[goE,Z1v]at hI ht⊢
  split
  · rename_i h2
    rw[if_pos h2]at ht
    have h3:=V.downE _ d s (sizeL k+m) (by rw[show 1+sizeL k+m=sizeL k+m+1 from by omega]at hI;exact hI) h2
    exact V.up _ _ _ (V.bnd _ _ _ hI).1 (TvE.keepL k (d+1) _ m h3 ht)
  ·rename_i h2;rw[if_neg h2]at ht;cases ht
theorem TvE.keepL:∀(l:List Ex)(d:Int)(s:V.σ)(m:Nat),V.I d s (sizeL l+m)->(goL V.hE l d s).1=true->V.I d (goL V.hE l d s).2 m
 |[],d,s,m,hI,ht=>by simp only[goL,sizeL,Y0o]at hI⊢;exact hI
 |e::l,d,s,m,hI,ht=>by
  simp only[goL,sizeL]at hI ht⊢
  split
  · rename_i h2
    rw[if_pos h2]at ht
    exact TvE.keepL l d _ m (TvE.keepE e d s (sizeL l+m) (by rw[<- Nat.add_assoc];exact hI) h2) ht
  ·rename_i h2;rw[if_neg h2]at ht;cases ht
end
theorem Ziq(e:Ex)(rest:List AV):tk 1 ((e.cells++rest).drop 3)=some [exA e.kids]:=by
 obtain⟨o,n,s,k⟩:=e
 simp only[Ex.cells,exA,Ex.kids];rfl
theorem TvE.fin(s t:V.σ)(b:Bool):List.take V.k (V.Mem t)=V.Mem t/\(Z0e V.k (refs (AV.bool b) [])&&ZhC V.k (V.Mem s) (V.Mem t))=true :=
 ⟨List.take_of_length_le (by rw[V.len];exact Y07 _),by rw[V.evo];rfl⟩
theorem TvE.exprs (hf : Y00.follows .mixedOrders = true) : ∀ (n : Nat) (l : List Ex) (d : Int) (s : V.σ) (m : Nat), sizeL l <= n -> okL l -> l.length <= 9223372036854775807 -> V.I d s (sizeL l + m) ->
  Z2f Y00 gl 41 [exA l,.int .i64 d,V.F] (V.Mem s) (.bool (goL V.hE l d s).1) (V.Mem (goL V.hE l d s).2)
 |n,l,d,s,m,hn,hok,hl,hI=>by
  have hF : ∃ O, OrcSound Y00 gl O /\ (∀ (i : Nat) (hi : i < l.length) (t : V.σ) (q : Nat), n ≠ 0 -> V.I (d + 1) t (sizeL l[i].kids + q) -> Z08 Y00 O (V.Mem t) 41 [exA l[i].kids, .int .i64 (d + 1), V.F] = some (.bool (goL V.hE l[i].kids (d + 1) t).1, V.Mem (goL V.hE l[i].kids (d + 1) t).2)) /\
    (∀(i:Nat)(hi:i<l.length)(t:V.σ)(q:Nat),V.I d t (q+1)->Z08 Y00 O (V.Mem t) V.gE ([.rp ((exC l).drop (i*4)),.int .i64 d]++V.cE)=some (.bool (V.hE l[i] d t).1,V.Mem (V.hE l[i] d t).2)):=by
   have s1:=Z2h (P:=Y00) (gl:=gl) (I:=Nat×V.σ×Nat) (G:=λp=>∃hp:p.1<l.length,n≠0/\V.I (d+1) p.2.1 (sizeL l[p.1].kids+p.2.2)) (fF:=λ_=>41) (fA:=λp=>[exA (l.getD p.1 default).kids,.int .i64 (d+1),V.F]) (fH:=λp=>V.Mem p.2.1) (fR:=λp=>.bool (goL V.hE (l.getD p.1 default).kids (d+1) p.2.1).1) (fO:=λp=>V.Mem (goL V.hE (l.getD p.1 default).kids (d+1) p.2.1).2) λp hp=>by
    obtain⟨hp,h0,h1⟩:=hp
    have hg:l.getD p.1 default=l[p.1]:=by simp[Y0i,hp]
    rw[hg]
    have hke:=Z2n hok _ (Z0c hp)
    have hsz:=Z1u _ _ (Z0c hp)
    have hsk:=Z8A l[p.1]
    match n,hn,h0 with
    |n+1,hn,_=>exact TvE.exprs hf n _ (d+1) p.2.1 p.2.2 (by omega) (Z3r hke).2 (Z3r hke).1.2 h1
   have s2:=Z2h (P:=Y00) (gl:=gl) (I:=Nat×V.σ×Nat) (G:=λp=>p.1<l.length/\V.I d p.2.1 (p.2.2+1)) (fF:=λ_=>V.gE) (fA:=λp=>[.rp ((exC l).drop (p.1*4)),.int .i64 d]++V.cE) (fH:=λp=>V.Mem p.2.1) (fR:=λp=>.bool (V.hE (l.getD p.1 default) d p.2.1).1) (fO:=λp=>V.Mem (V.hE (l.getD p.1 default) d p.2.1).2) λp hp=>by
    obtain⟨hp,h1⟩:=hp
    have hg:l.getD p.1 default=l[p.1]:=by simp[Y0i,hp]
    have hke:=Z2n hok _ (Z0c hp)
    simp only[hg]
    rw[Zdx l p.1 hp]
    exact V.okE _ _ _ _ _ hke h1
   refine⟨_,Z12 s1 s2,λi hi t q h0 h1=>?_,λi hi t q h1=>?_⟩
   · have hg:l.getD i default=l[i]:=by simp[Y0i,hi]
     have:=ZeG (P:=Y00) (I:=Nat×V.σ×Nat) (G:=λp=>∃hp:p.1<l.length,n≠0/\V.I (d+1) p.2.1 (sizeL l[p.1].kids+p.2.2)) (fF:=λ_=>41) (fA:=λp=>[exA (l.getD p.1 default).kids,.int .i64 (d+1),V.F]) (fH:=λp=>V.Mem p.2.1) (fR:=λp=>.bool (goL V.hE (l.getD p.1 default).kids (d+1) p.2.1).1) (fO:=λp=>V.Mem (goL V.hE (l.getD p.1 default).kids (d+1) p.2.1).2)
      (fun p q _ _ _ ha hh => by
        have e2:=V.inj _ _ hh
        simp only[List.cons.injEq,and_true,true_and]at ha
        rw[Z5V ha,e2];exact⟨rfl,rfl⟩) (g:=41) (args:=[exA l[i].kids,.int .i64 (d+1),V.F]) (H:=V.Mem t) (by kernel_rfl) (i,t,q) ⟨hi,h0,h1⟩ rfl (by rw[hg]) rfl
     simp only[hg]at this
     exact Z49 (by kernel_rfl) this
   · have hg:l.getD i default=l[i]:=by simp[Y0i,hi]
     refine Z61 V.bodyE (Z3U λp _ _ ha=>?_) ?_
     · have:=congrArg (λa=>a.head?) ha
       simp[exA]at this
     · have := ZeG (P := Y00) (I := Nat × V.σ × Nat) (G := fun p => p.1 < l.length /\ V.I d p.2.1 (p.2.2 + 1)) (fF := fun _ => V.gE) (fA := fun p => [.rp ((exC l).drop (p.1 * 4)), .int .i64 d] ++ V.cE) (fH := fun p => V.Mem p.2.1) (fR := fun p => .bool (V.hE (l.getD p.1 default) d p.2.1).1) (fO := fun p => V.Mem (V.hE (l.getD p.1 default) d p.2.1).2)
        (fun p q hp hq _ ha hh => by
          have e2:=V.inj _ _ hh
          simp only[Y0j,Y0m,List.cons.injEq,AV.rp.injEq,true_and,and_true]at ha
          have:=congrArg List.length ha
          simp only[List.length_drop,Z9W]at this
          have e:p.1=q.1:=by have:=hp.1;have:=hq.1;omega
          rw[e,e2];exact⟨rfl,rfl⟩) (g:=V.gE) (args:=[.rp ((exC l).drop (i*4)),.int .i64 d]++V.cE) (H:=V.Mem t) V.bodyE (i,t,q) ⟨hi,h1⟩ rfl rfl rfl
       simp only[hg]at this
       exact this
  obtain⟨O,hO,q2,q1⟩:=hF
  have hbd:=V.bnd _ _ _ hI
  have w1:IntKind.i64.wrap (d+1)=d+1:=Z4Q (by omega) (by omega)
  simp only[exA,TvE.F]at q2⊢
  refine Z6q (k:=V.k) follows Z0x hO (V.len s) Tryd.func41 rfl (Z5k _ _) ?_
  repeat' ((conv=>whnf);first|(rw[Z07])|refine stp ?_|with_reducible apply Z03<;>intro h)
  conv=>whnf
  refine⟨Nat,(λi=>i<=l.length/\(goL V.hE (l.take i) d s).1=true),(λi=>[(0,.rs l.length 4 (exC l)),(1,.int .i64 d),(2,.func (.func V.gE) [] V.cE),(9,.int .i64 l.length),(10,.int .i64 i)]),(λi=>V.Mem (goL V.hE (l.take i) d s).2),(λi=>l.length-i),⟨0,⟨Y05 _,by simp only[Y02,goL]⟩,?_⟩,?_⟩
  · simp only[Y02,goL]
    refine FgLK.same rfl ?_ (V.same _)
    refine Y01 (Y0a rfl) ?_
    refine Y01 (Y0a rfl) ?_
    refine Y01 (Wk.func trivial V.wkE) ?_
    refine Y01 (Wk.int rfl) ?_
    exact⟨Wk.int rfl,trivial⟩
  rintro i ⟨hi,hall⟩
  dsimp only
  conv=>whnf
  rw[Z07]
  by_cases hlt:i<l.length
  · have e1:decide ((i:Int)<(l.length:Int))=true:=by simpa using hlt
    have hat:=ZjK (h:=V.hE) l d s i hlt hall
    have hI2:V.I d (goL V.hE (l.take i) d s).2 (sizeL (l.drop i)+m):=V.keepL (l.take i) d s (sizeL (l.drop i)+m) (by
     have:=Zaz l i hlt
     have e:sizeL (l.drop i)=Z1v l[i]+sizeL (l.drop (i+1)):=by rw[Y0p hlt];simp only[sizeL]
     have e2:sizeL (l.take i)+(sizeL (l.drop i)+m)=sizeL l+m:=by omega
     rw[e2];exact hI) hall
    generalize (goL V.hE (l.take i) d s).2=t at *
    have esz:sizeL (l.drop i)+m=(sizeL l[i].kids+(sizeL (l.drop (i+1))+m))+1:=by
     rw[Y0p hlt];simp only[sizeL];have:=Z8A l[i];omega
    rw[esz]at hI2
    have q1':=q1 i hlt t _ hI2
    have hd2:=V.downE l[i] d t _ hI2
    have hx3:tk 1 (((exC l).drop (i*4)).drop 3)=some [exA l[i].kids]:=by rw[Zdx l i hlt];exact Ziq _ _
    have hn0:n≠0:=by have:=Z1u _ _ (Z0c hlt);have:=Z54 l[i];omega
    have q2':=λt q=>q2 i hlt t q hn0
    rw[ZmN]at hat
    have hst:=Zdo (h:=V.hE) l d s (i+1)
    generalize l[i]=e at *
    generalize hr:V.hE e d t=r at *
    obtain⟨b,t1⟩:=r
    dsimp only at *
    cases b with
    |false =>
     simp only[Y0w,if_false]at hat
     rw[hat]at hst
     rw[hst rfl]
     clear q2 q2' hx3
     repeat' ((conv=>whnf);first|(refine exI q1' ?_)|(rw[Z07])|(with_reducible refine ixJ i rfl ?_ ?_;focus omega)|refine stp ?_|with_reducible apply Z03<;>intro h)
     all_goals (conv=>whnf)
     all_goals (exact V.fin s t1 false)
    |true =>
     simp only[if_true]at hat
     have q2'':=q2' t1 _ (hd2 rfl)
     generalize hg:goL V.hE e.kids (d+1) t1=g at *
     obtain⟨b2,t2⟩:=g
     dsimp only at *
     simp only[exA]at hx3 q2''
     cases b2 with
     |true =>
      repeat' ((conv=>whnf);first|(refine exI q1' ?_)|(refine exI q2'' ?_)|refine exI hx3 ?_|(rw[Z07])|(with_reducible refine exW w1 ?_)|(with_reducible refine ixJ i rfl ?_ ?_;focus omega)|refine stp ?_|with_reducible apply Z03<;>intro h)
      all_goals (conv=>whnf)
      refine⟨i+1,⟨hlt,by rw[hat]⟩,by show l.length-(i+1)<l.length-i;omega,?_⟩
      rw[hat]
      refine FgLK.same rfl ?_ (V.same _)
      refine Y01 (Y0a rfl) ?_
      refine Y01 (Y0a rfl) ?_
      refine Y01 (Wk.func trivial V.wkE) ?_
      refine Y01 (Wk.int rfl) ?_
      exact⟨Wk.int rfl,trivial⟩
     |false =>
      rw[hat]at hst
      rw[hst rfl]
      repeat' ((conv=>whnf);first|(refine exI q1' ?_)|(refine exI q2'' ?_)|refine exI hx3 ?_|(rw[Z07])|(with_reducible refine exW w1 ?_)|(with_reducible refine ixJ i rfl ?_ ?_;focus omega)|refine stp ?_|with_reducible apply Z03<;>intro h)
      all_goals (conv=>whnf)
      all_goals (exact V.fin s t2 false)
  · have e1:decide ((i:Int)<(l.length:Int))=false:=by simpa using hlt
    have hi2:i=l.length:=by have:=hi;omega
    subst hi2
    rw[Y04]at hall⊢
    rw[hall]
    generalize (goL V.hE l d s).2=t at *
    repeat' ((conv=>whnf);first|(rw[Z07])|refine stp ?_|with_reducible apply Z03<;>intro h)
    all_goals (conv=>whnf)
    all_goals (exact V.fin s t true)
end
end
section
inductive St where
 |mk (kind:Int) (name loc:List UInt8) (order:Int) (exprs:List Ex) (thn els:List St)
instance:Inhabited St:=⟨.mk 0 [] [] 0 [] [] []⟩
def St.kind:St->Int
 | .mk k _ _ _ _ _ _=>k
def St.name:St->List UInt8
 | .mk _ n _ _ _ _ _=>n
def St.loc:St->List UInt8
 | .mk _ _ l _ _ _ _=>l
def St.exprs:St->List Ex
 | .mk _ _ _ _ x _ _=>x
def St.thn:St->List St
 | .mk _ _ _ _ _ t _=>t
def St.els:St->List St
 | .mk _ _ _ _ _ _ e=>e
mutual
def St.cells:St->List AV
 | .mk k n l o x t e=>[.int .i64 k,.str n,.str l,.int .i64 o,exA x,.rs t.length 7 (stC t),.rs e.length 7 (stC e)]
def stC:List St->List AV
 |[]=>[]
 |s::l=>s.cells++stC l
end
def stA(l:List St):AV:=.rs l.length 7 (stC l)
mutual
def Z1U:St->Nat
 | .mk _ _ _ _ x t e=>1+sizeL x+sizeSL t+sizeSL e
def sizeSL:List St->Nat
 |[]=>0
 |s::l=>Z1U s+sizeSL l
end
mutual
def Zey:St->Nat
 | .mk _ _ _ _ x t e=>max (max (deepSL t) (deepSL e)) (deepL x)+1
def deepSL:List St->Nat
 |[]=>0
 |s::l=>max (Zey s) (deepSL l)
end
mutual
def okS:St->Prop
 | .mk _ n l _ x t e=>okN n x.length/\okN l t.length/\e.length<=9223372036854775807/\okL x/\okSL t/\okSL e
def okSL:List St->Prop
 |[]=>True
 |s::l=>okS s/\okSL l
end
theorem Z1Q:∀{l:List St},okSL l->∀s∈l,okS s
 |x::l,h,e,he=>by
  simp only[okSL]at h
  rcases Y0f.1 he with rfl|he
  ·exact h.1
  ·exact Z1Q h.2 e he
theorem Z38:∀{s:St},okS s->s.name.length<=9223372036854775807/\s.loc.length<=9223372036854775807/\s.exprs.length<=9223372036854775807/\s.thn.length<=9223372036854775807/\s.els.length<=9223372036854775807/\okL s.exprs/\okSL s.thn/\okSL s.els
 | .mk _ _ _ _ _ _ _,h=>by
  simp only[okS,okN]at h
  simp only[St.name,St.loc,St.exprs,St.thn,St.els]
  exact⟨h.1.1,h.2.1.1,h.1.2,h.2.1.2,h.2.2.1,h.2.2.2⟩
theorem Z35:∀s:St,s.cells.length=7
 | .mk _ _ _ _ _ _ _=>by simp only[St.cells];rfl
theorem Zfi:∀l:List St,(stC l).length=l.length*7
 |[]=>by simp only[stC];rfl
 |s::l=>by simp only[stC,Y0B,Z35,Zfi l,Y0k];omega
theorem ZhU(s:St)(l:List St)(i:Nat):(stC (s::l)).drop ((i+1)*7)=(stC l).drop (i*7):=by
 have h:(i+1)*7=7+i*7:=by omega
 rw[h,<- Y0u,stC,List.drop_left' (Z35 s)]
theorem Z3Q:∀(l:List St)(i:Nat)(h:i<l.length),(stC l).drop (i*7)=l[i].cells++stC (l.drop (i+1))
 |s::l,0,h=>by simp only[Y0v,Y0n,stC,Y09,Y0g]
 |s::l,i+1,h=>by rw[ZhU,Z3Q l i (by simpa using h)];simp only[Y08,Y0g]
theorem st7(l:List St)(i:Nat)(h:i<l.length):tk 7 ((stC l).drop (i*7))=some l[i].cells:=by
 rw[Z3Q l i h]
 have:=Zf8 l[i].cells (stC (l.drop (i+1)))
 rwa [Z35]at this
mutual
theorem Z5E:∀(a b:St),a.cells=b.cells->a=b
 | .mk k n l o x t e,.mk k' n' l' o' x' t' e',h=>by
  simp only[St.cells,List.cons.injEq,AV.int.injEq,AV.str.injEq,AV.rs.injEq,true_and,and_true]at h
  obtain⟨rfl,rfl,rfl,rfl,hx,ht,he⟩:=h
  rw[Z5V hx,stC_inj t t' ht.2 ht.1,stC_inj e e' he.2 he.1]
theorem stC_inj:∀(a b:List St),stC a=stC b->a.length=b.length->a=b
 |[],[],_,_=>rfl
 |x::a,y::b,h,hl=>by
  simp only[stC]at h
  have h':=List.append_inj h (by rw[Z35,Z35])
  rw[Z5E x y h'.1,stC_inj a b h'.2 (by simpa using hl)]
 |[],_::_,_,hl=>by simp at hl
 |_::_,[],_,hl=>by simp at hl
end
theorem Z3R{a b:List St}(h:stA a=stA b):a=b:=by
 simp only[stA,AV.rs.injEq,true_and]at h
 exact stC_inj _ _ h.2 h.1
theorem Zfp:∀s:St,0<Z1U s
 | .mk _ _ _ _ _ _ _=>by simp only[Z1U];omega
theorem Z6K:∀s:St,Z1U s=1+sizeL s.exprs+sizeSL s.thn+sizeSL s.els
 | .mk _ _ _ _ _ _ _=>by simp only[Z1U,St.exprs,St.thn,St.els]
theorem Z8z:∀(l:List St)(i:Nat)(h:i<l.length),sizeSL l=sizeSL (l.take i)+Z1U l[i]+sizeSL (l.drop (i+1))
 |s::l,0,h=>by simp only[Y02,sizeSL,Y09,Y0g,Y0n];omega
 |s::l,i+1,h=>by
  have:=Z8z l i (by simpa using h)
  simp only[Y03,sizeSL,Y08,Y0g];omega
theorem Z4h:∀l:List St,l.length<=sizeSL l
 |[]=>Y05 _
 |s::l=>by have:=Z4h l;have:=Zfp s;simp only[sizeSL,Y0k];omega
theorem Z19:∀(l:List St)(s:St),s∈l->Z1U s<=sizeSL l
 |e::l,f,h=>by
  simp only[sizeSL]
  rcases Y0f.1 h with rfl|h
  ·omega
  ·have:=Z19 l f h;omega
mutual
theorem Zex:∀s:St,Zey s<=Z1U s
 | .mk _ _ _ _ x t e=>by have:=deepSL_size t;have:=deepSL_size e;have:=deepL_size x;simp only[Zey,Z1U];omega
theorem deepSL_size:∀l:List St,deepSL l<=sizeSL l
 |[]=>Y07 _
 |s::l=>by have:=Zex s;have:=deepSL_size l;simp only[deepSL,sizeSL];omega
end
theorem ZjU(s:St)(rest:List AV):tk 1 ((s.cells++rest).drop 4)=some [exA s.exprs]:=by
 obtain⟨k,n,l,o,x,t,e⟩:=s
 simp only[St.cells,exA,St.exprs];rfl
theorem ZjV(s:St)(rest:List AV):tk 1 ((s.cells++rest).drop 5)=some [stA s.thn]:=by
 obtain⟨k,n,l,o,x,t,e⟩:=s
 simp only[St.cells,stA,St.thn];rfl
theorem ZjW(s:St)(rest:List AV):tk 1 ((s.cells++rest).drop 6)=some [stA s.els]:=by
 obtain⟨k,n,l,o,x,t,e⟩:=s
 simp only[St.cells,stA,St.els];rfl
theorem Znd(s:St)(rest:List AV):tk 1 ((s.cells++rest).drop 1)=some [.str s.name]:=by
 obtain⟨k,n,l,o,x,t,e⟩:=s
 simp only[St.cells,St.name];rfl
end
section
structure TvS (gl:Glob) extends TvE gl where
 gS:Nat
 cS:List AV
 hS:St->Int -> σ -> Bool×σ
 bodyS:Z0b Y00 gS=true
 wkS:WkL (List.range k) cS cS
 okS:∀x rest d s m,lex.okS x->I d s (m+1)->Z2f Y00 gl gS ([.rp (x.cells++rest),.int .i64 d]++cS) (Mem s) (.bool (hS x d s).1) (Mem (hS x d s).2)
 downS:∀x d s m,I d s (m+1)->(hS x d s).1=true->I (d+1) (hS x d s).2 m
section
variable {σ : Type}
def Z3J(r:Bool×σ)(f : σ -> Bool×σ):Bool×σ:=if r.1=true then f r.2 else (false,r.2)
mutual
def goS(hE:Ex->Int -> σ -> Bool×σ)(hS:St->Int -> σ -> Bool×σ):St->Int -> σ -> Bool×σ
 | .mk k n l o x t e,d,s=>Z3J (hS (.mk k n l o x t e) d s) λs1=>Z3J (goL hE x (d+1) s1) λs2=>Z3J (goSL hE hS t (d+1) s2) λs3=>goSL hE hS e (d+1) s3
def goSL(hE:Ex->Int -> σ -> Bool×σ)(hS:St->Int -> σ -> Bool×σ):List St->Int -> σ -> Bool×σ
 |[],d,s=>(true,s)
 |x::l,d,s=>Z3J (goS hE hS x d s) λs1=>goSL hE hS l d s1
end
variable {hE:Ex->Int -> σ -> Bool×σ} {hS:St->Int -> σ -> Bool×σ}
theorem ZmK(x:St)(d:Int)(s : σ):goS hE hS x d s=Z3J (hS x d s) λs1=>Z3J (goL hE x.exprs (d+1) s1) λs2=>Z3J (goSL hE hS x.thn (d+1) s2) λs3=>goSL hE hS x.els (d+1) s3:=by
 obtain⟨k,n,l,o,x,t,e⟩:=x
 simp only[goS,St.exprs,St.thn,St.els]
theorem ZfW:∀(l:List St)(d:Int)(t : σ)(i:Nat)(hi:i<l.length),(goSL hE hS (l.take i) d t).1=true->goSL hE hS (l.take (i+1)) d t=goS hE hS l[i] d (goSL hE hS (l.take i) d t).2
 |e::l,d,t,0,_,_=>by
  simp only[Y02,Y03,goSL,Y09,Z3J]
  split
  ·rename_i h2;rw[<- h2]
  ·rename_i h2;rw[<- Bool.eq_false_iff.2 h2]
 |e::l,d,t,i+1,hi,ht=>by
  simp only[Y03,goSL,Y08,Z3J]at ht⊢
  split
  · rename_i h2
    rw[if_pos h2]at ht
    exact ZfW l d _ i (by simpa using hi) ht
  ·rename_i h2;rw[if_neg h2]at ht;cases ht
theorem Zb0:∀(l:List St)(d:Int)(t : σ)(i:Nat),(goSL hE hS (l.take i) d t).1=false->goSL hE hS l d t=goSL hE hS (l.take i) d t
 |[],d,t,i,hf=>by simp
 |e::l,d,t,0,hf=>by simp only[Y02,goSL]at hf;cases hf
 |e::l,d,t,i+1,hf=>by
  simp only[Y03,goSL,Z3J]at hf⊢
  split
  · rename_i h2
    rw[if_pos h2]at hf
    exact Zb0 l d _ i hf
  ·rfl
theorem Z4f{r:Bool×σ}{f : σ -> Bool×σ}(h:(Z3J r f).1=true):r.1=true/\Z3J r f=f r.2:=by
 unfold Z3J at h⊢
 split at h
 ·rename_i h2;exact⟨h2,by rw[if_pos h2]⟩
 ·cases h
end
section
variable {gl:Glob} (V:TvS gl)
def TvS.G:AV:=.func (.func V.gS) [] V.cS
mutual
theorem TvS.keepS:∀(x:St)(d:Int)(s:V.σ)(m:Nat),V.I d s (Z1U x+m)->(goS V.hE V.hS x d s).1=true->V.I d (goS V.hE V.hS x d s).2 m
 | .mk k n l o x t e,d,s,m,hI,ht=>by
  simp only[goS,Z1U]at hI ht⊢
  obtain⟨h1,e1⟩:=Z4f ht
  rw[e1]at ht⊢
  obtain⟨h2,e2⟩:=Z4f ht
  rw[e2]at ht⊢
  obtain⟨h3,e3⟩:=Z4f ht
  rw[e3]at ht⊢
  have i1:=V.downS _ d s (sizeL x+(sizeSL t+(sizeSL e+m))) (by rw[show 1+sizeL x+sizeSL t+sizeSL e+m=sizeL x+(sizeSL t+(sizeSL e+m))+1 from by omega]at hI;exact hI) h1
  have i2:=V.toTvE.keepL x (d+1) _ _ i1 h2
  have i3:=TvS.keepSL t (d+1) _ _ i2 h3
  exact V.up _ _ _ (V.bnd _ _ _ hI).1 (TvS.keepSL e (d+1) _ m i3 ht)
theorem TvS.keepSL:∀(l:List St)(d:Int)(s:V.σ)(m:Nat),V.I d s (sizeSL l+m)->(goSL V.hE V.hS l d s).1=true->V.I d (goSL V.hE V.hS l d s).2 m
 |[],d,s,m,hI,ht=>by simp only[goSL,sizeSL,Y0o]at hI⊢;exact hI
 |x::l,d,s,m,hI,ht=>by
  simp only[goSL,sizeSL]at hI ht⊢
  obtain⟨h1,e1⟩:=Z4f ht
  rw[e1]at ht⊢
  exact TvS.keepSL l d _ m (TvS.keepS x d s (sizeSL l+m) (by rw[<- Nat.add_assoc];exact hI) h1) ht
end
theorem TvS.stmts : ∀ (n : Nat) (l : List St) (d : Int) (s : V.σ) (m : Nat), sizeSL l <= n -> okSL l -> l.length <= 9223372036854775807 -> V.I d s (sizeSL l + m) ->
  Z2f Y00 gl 38 [stA l,.int .i64 d,V.toTvE.F,V.G] (V.Mem s) (.bool (goSL V.hE V.hS l d s).1) (V.Mem (goSL V.hE V.hS l d s).2)
 |n,l,d,s,m,hn,hok,hl,hI=>by
  have hF : ∃ O, OrcSound Y00 gl O /\
    (∀(x:List St)(t:V.σ)(q:Nat),sizeSL x<n->okSL x->x.length<=9223372036854775807->V.I (d+1) t (sizeSL x+q)->Z08 Y00 O (V.Mem t) 38 [stA x,.int .i64 (d+1),V.toTvE.F,V.G]=some (.bool (goSL V.hE V.hS x (d+1) t).1,V.Mem (goSL V.hE V.hS x (d+1) t).2)) /\
    (∀(x:List Ex)(t:V.σ)(q:Nat),okL x->x.length<=9223372036854775807->V.I (d+1) t (sizeL x+q)->Z08 Y00 O (V.Mem t) 41 [exA x,.int .i64 (d+1),V.toTvE.F]=some (.bool (goL V.hE x (d+1) t).1,V.Mem (goL V.hE x (d+1) t).2)) /\
    (∀(i:Nat)(hi:i<l.length)(t:V.σ)(q:Nat),V.I d t (q+1)->Z08 Y00 O (V.Mem t) V.gS ([.rp ((stC l).drop (i*7)),.int .i64 d]++V.cS)=some (.bool (V.hS l[i] d t).1,V.Mem (V.hS l[i] d t).2)):=by
   have s1:=Z2h (P:=Y00) (gl:=gl) (I:=List St×V.σ×Nat) (G:=λp=>sizeSL p.1<n/\okSL p.1/\p.1.length<=9223372036854775807/\V.I (d+1) p.2.1 (sizeSL p.1+p.2.2)) (fF:=λ_=>38) (fA:=λp=>[stA p.1,.int .i64 (d+1),V.toTvE.F,V.G]) (fH:=λp=>V.Mem p.2.1) (fR:=λp=>.bool (goSL V.hE V.hS p.1 (d+1) p.2.1).1) (fO:=λp=>V.Mem (goSL V.hE V.hS p.1 (d+1) p.2.1).2) λp hp=>by
    obtain⟨h0,h1,h2,h3⟩:=hp
    match n,hn,h0 with
    |n+1,hn,h0=>exact TvS.stmts n _ (d+1) p.2.1 p.2.2 (by omega) h1 h2 h3
   have s2:=Z2h (P:=Y00) (gl:=gl) (I:=List Ex×V.σ×Nat) (G:=λp=>okL p.1/\p.1.length<=9223372036854775807/\V.I (d+1) p.2.1 (sizeL p.1+p.2.2)) (fF:=λ_=>41) (fA:=λp=>[exA p.1,.int .i64 (d+1),V.toTvE.F]) (fH:=λp=>V.Mem p.2.1) (fR:=λp=>.bool (goL V.hE p.1 (d+1) p.2.1).1) (fO:=λp=>V.Mem (goL V.hE p.1 (d+1) p.2.1).2) λp hp =>
    V.toTvE.exprs follows _ p.1 (d+1) p.2.1 p.2.2 (Y07 _) hp.1 hp.2.1 hp.2.2
   have s3:=Z2h (P:=Y00) (gl:=gl) (I:=Nat×V.σ×Nat) (G:=λp=>p.1<l.length/\V.I d p.2.1 (p.2.2+1)) (fF:=λ_=>V.gS) (fA:=λp=>[.rp ((stC l).drop (p.1*7)),.int .i64 d]++V.cS) (fH:=λp=>V.Mem p.2.1) (fR:=λp=>.bool (V.hS (l.getD p.1 default) d p.2.1).1) (fO:=λp=>V.Mem (V.hS (l.getD p.1 default) d p.2.1).2) λp hp=>by
    obtain⟨hp,h1⟩:=hp
    have hg:l.getD p.1 default=l[p.1]:=by simp[Y0i,hp]
    have hke:=Z1Q hok _ (Z0c hp)
    simp only[hg]
    rw[Z3Q l p.1 hp]
    exact V.okS _ _ _ _ _ hke h1
   refine⟨_,Z12 s1 (Z12 s2 s3),λx t q h0 h1 h2 h3=>?_,λx t q h0 h1 h2=>?_,λi hi t q h1=>?_⟩
   · exact Z49 (by kernel_rfl) (ZeG (P := Y00) (fun p q _ _ _ ha hh => by
      have e2:=V.inj _ _ hh
      simp only[List.cons.injEq,and_true,true_and]at ha
      rw[Z3R ha,e2];exact⟨rfl,rfl⟩) (by kernel_rfl) (x,t,q) ⟨h0,h1,h2,h3⟩ rfl rfl rfl)
   · refine Z61 (by kernel_rfl) (Z3U λp _ e _=>absurd e (by decide)) ?_
     exact Z49 (by kernel_rfl) (ZeG (P:=Y00) (λp q _ _ _ ha hh=>by
      have e2:=V.inj _ _ hh
      simp only[List.cons.injEq,and_true,true_and]at ha
      rw[Z5V ha,e2];exact⟨rfl,rfl⟩) (by kernel_rfl) (x,t,q) ⟨h0,h1,h2⟩ rfl rfl rfl)
   · have hg:l.getD i default=l[i]:=by simp[Y0i,hi]
     refine Z61 V.bodyS (Z3U λp _ _ ha=>?_) ?_
     · have:=congrArg (λa=>a.head?) ha
       simp[stA]at this
     refine Z61 V.bodyS (Z3U λp _ _ ha=>?_) ?_
     · have:=congrArg (λa=>a.head?) ha
       simp[exA]at this
     · have := ZeG (P := Y00) (I := Nat × V.σ × Nat) (G := fun p => p.1 < l.length /\ V.I d p.2.1 (p.2.2 + 1)) (fF := fun _ => V.gS) (fA := fun p => [.rp ((stC l).drop (p.1 * 7)), .int .i64 d] ++ V.cS) (fH := fun p => V.Mem p.2.1) (fR := fun p => .bool (V.hS (l.getD p.1 default) d p.2.1).1) (fO := fun p => V.Mem (V.hS (l.getD p.1 default) d p.2.1).2)
        (fun p q hp hq _ ha hh => by
          have e2:=V.inj _ _ hh
          simp only[Y0j,Y0m,List.cons.injEq,AV.rp.injEq,true_and,and_true]at ha
          have:=congrArg List.length ha
          simp only[List.length_drop,Zfi]at this
          have e:p.1=q.1:=by have:=hp.1;have:=hq.1;omega
          rw[e,e2];exact⟨rfl,rfl⟩) (g:=V.gS) (args:=[.rp ((stC l).drop (i*7)),.int .i64 d]++V.cS) (H:=V.Mem t) V.bodyS (i,t,q) ⟨hi,h1⟩ rfl rfl rfl
       simp only[hg]at this
       exact this
  obtain⟨O,hO,q3,q2,q1⟩:=hF
  have hbd:=V.bnd _ _ _ hI
  have w1:IntKind.i64.wrap (d+1)=d+1:=Z4Q (by omega) (by omega)
  simp only[stA,exA,TvE.F,TvS.G]at q2 q3⊢
  refine Z6q (k:=V.k) follows Z0x hO (V.len s) Tryd.func38 rfl (Z5k _ _) ?_
  repeat' ((conv=>whnf);(first|refine stp ?_|with_reducible apply Z03<;>intro h))
  conv=>whnf
  refine⟨Nat,(λi=>i<=l.length/\(goSL V.hE V.hS (l.take i) d s).1=true),(λi=>[(0,.rs l.length 7 (stC l)),(1,.int .i64 d),(2,.func (.func V.gE) [] V.cE),(3,.func (.func V.gS) [] V.cS),(12,.int .i64 l.length),(13,.int .i64 i)]),(λi=>V.Mem (goSL V.hE V.hS (l.take i) d s).2),(λi=>l.length-i),⟨0,⟨Y05 _,by simp only[Y02,goSL]⟩,?_⟩,?_⟩
  · simp only[Y02,goSL]
    refine FgLK.same rfl ?_ (V.same _)
    refine Y01 (Y0a rfl) ?_
    refine Y01 (Y0a rfl) ?_
    refine Y01 (Wk.func trivial V.wkE) ?_
    refine Y01 (Wk.func trivial V.wkS) ?_
    refine Y01 (Wk.int rfl) ?_
    exact⟨Wk.int rfl,trivial⟩
  rintro i ⟨hi,hall⟩
  dsimp only
  conv=>whnf
  rw[Z07]
  by_cases hlt:i<l.length
  · have e1:decide ((i:Int)<(l.length:Int))=true:=by simpa using hlt
    have hat:=ZfW (hE:=V.hE) (hS:=V.hS) l d s i hlt hall
    have hI2:V.I d (goSL V.hE V.hS (l.take i) d s).2 (sizeSL (l.drop i)+m):=V.keepSL (l.take i) d s (sizeSL (l.drop i)+m) (by
     have:=Z8z l i hlt
     have e:sizeSL (l.drop i)=Z1U l[i]+sizeSL (l.drop (i+1)):=by rw[Y0p hlt];simp only[sizeSL]
     have e2:sizeSL (l.take i)+(sizeSL (l.drop i)+m)=sizeSL l+m:=by omega
     rw[e2];exact hI) hall
    generalize (goSL V.hE V.hS (l.take i) d s).2=t at *
    have esz:sizeSL (l.drop i)+m=(sizeL l[i].exprs+(sizeSL l[i].thn+(sizeSL l[i].els+(sizeSL (l.drop (i+1))+m))))+1:=by
     rw[Y0p hlt];simp only[sizeSL];have:=Z6K l[i];omega
    rw[esz]at hI2
    have q1':=q1 i hlt t _ hI2
    have hd2:=V.downS l[i] d t _ hI2
    have hx4:tk 1 (((stC l).drop (i*7)).drop 4)=some [exA l[i].exprs]:=by rw[Z3Q l i hlt];exact ZjU _ _
    have hx5:tk 1 (((stC l).drop (i*7)).drop 5)=some [stA l[i].thn]:=by rw[Z3Q l i hlt];exact ZjV _ _
    have hx6:tk 1 (((stC l).drop (i*7)).drop 6)=some [stA l[i].els]:=by rw[Z3Q l i hlt];exact ZjW _ _
    obtain⟨_,_,k1,k2,k3,k4,k5,k6⟩:=Z38 (Z1Q hok _ (Z0c hlt))
    have hsz:=Z19 _ _ (Z0c hlt)
    have hse:=Z6K l[i]
    have qx:=λt q=>q2 l[i].exprs t q k4 k1
    have qt:=λt q=>q3 l[i].thn t q (by omega) k5 k2
    have qe:=λt q=>q3 l[i].els t q (by omega) k6 k3
    have kx:=λs m=>V.toTvE.keepL l[i].exprs (d+1) s m
    have kt:=λs m=>V.keepSL l[i].thn (d+1) s m
    rw[ZmK]at hat
    have hst:=Zb0 (hE:=V.hE) (hS:=V.hS) l d s (i+1)
    clear q1 q2 q3 hse hsz k1 k2 k3 k4 k5 k6
    generalize l[i]=e at *
    generalize hr:V.hS e d t=r at *
    obtain⟨b,t1⟩:=r
    simp only[exA,stA]at hx4 hx5 hx6 qx qt qe
    dsimp only[Z3J]at *
    cases b with
    |false =>
     simp only[Y0w,if_false]at hat
     rw[hat]at hst
     rw[hst rfl]
     repeat' ((conv=>whnf);first|(refine exI q1' ?_)|(rw[Z07])|(with_reducible refine ixJ i rfl ?_ ?_;focus omega)|refine stp ?_|with_reducible apply Z03<;>intro h)
     all_goals (conv=>whnf)
     all_goals (exact V.toTvE.fin s t1 false)
    |true =>
     simp only[if_true]at hat
     have i1:=hd2 rfl
     have qx':=qx t1 _ i1
     have kx':=kx t1 _ i1
     generalize hg:goL V.hE e.exprs (d+1) t1=g at *
     obtain⟨b2,t2⟩:=g
     dsimp only at *
     cases b2 with
     |false =>
      simp only[Y0w,if_false]at hat
      rw[hat]at hst
      rw[hst rfl]
      repeat' ((conv=>whnf);first|(refine exI q1' ?_)|(refine exI qx' ?_)|refine exI hx4 ?_|(rw[Z07])|(with_reducible refine exW w1 ?_)|(with_reducible refine ixJ i rfl ?_ ?_;focus omega)|refine stp ?_|with_reducible apply Z03<;>intro h)
      all_goals (conv=>whnf)
      all_goals (exact V.toTvE.fin s t2 false)
     |true =>
      simp only[if_true]at hat
      have i2:=kx' rfl
      have qt':=qt t2 _ i2
      have kt':=kt t2 _ i2
      generalize hg2:goSL V.hE V.hS e.thn (d+1) t2=g2 at *
      obtain⟨b3,t3⟩:=g2
      dsimp only at *
      cases b3 with
      |false =>
       simp only[Y0w,if_false]at hat
       rw[hat]at hst
       rw[hst rfl]
       repeat' ((conv=>whnf);first|(refine exI q1' ?_)|(refine exI qx' ?_)|(refine exI qt' ?_)|refine exI hx4 ?_|refine exI hx5 ?_|(rw[Z07])|(with_reducible refine exW w1 ?_)|(with_reducible refine ixJ i rfl ?_ ?_;focus omega)|refine stp ?_|with_reducible apply Z03<;>intro h)
       all_goals (conv=>whnf)
       all_goals (exact V.toTvE.fin s t3 false)
      |true =>
       simp only[if_true]at hat
       have i3:=kt' rfl
       have qe':=qe t3 _ i3
       generalize hg3:goSL V.hE V.hS e.els (d+1) t3=g3 at *
       obtain⟨b4,t4⟩:=g3
       dsimp only at *
       cases b4 with
       |false =>
        rw[hat]at hst
        rw[hst rfl]
        repeat' ((conv=>whnf);first|(refine exI q1' ?_)|(refine exI qx' ?_)|(refine exI qt' ?_)|(refine exI qe' ?_)|refine exI hx4 ?_|refine exI hx5 ?_|refine exI hx6 ?_|(rw[Z07])|(with_reducible refine exW w1 ?_)|(with_reducible refine ixJ i rfl ?_ ?_;focus omega)|refine stp ?_|with_reducible apply Z03<;>intro h)
        all_goals (conv=>whnf)
        all_goals (exact V.toTvE.fin s t4 false)
       |true =>
        repeat' ((conv=>whnf);first|(refine exI q1' ?_)|(refine exI qx' ?_)|(refine exI qt' ?_)|(refine exI qe' ?_)|refine exI hx4 ?_|refine exI hx5 ?_|refine exI hx6 ?_|(rw[Z07])|(with_reducible refine exW w1 ?_)|(with_reducible refine ixJ i rfl ?_ ?_;focus omega)|refine stp ?_|with_reducible apply Z03<;>intro h)
        all_goals (conv=>whnf)
        refine⟨i+1,⟨hlt,by rw[hat]⟩,by show l.length-(i+1)<l.length-i;omega,?_⟩
        rw[hat]
        refine FgLK.same rfl ?_ (V.same _)
        refine Y01 (Y0a rfl) ?_
        refine Y01 (Y0a rfl) ?_
        refine Y01 (Wk.func trivial V.wkE) ?_
        refine Y01 (Wk.func trivial V.wkS) ?_
        refine Y01 (Wk.int rfl) ?_
        exact⟨Wk.int rfl,trivial⟩
  · have e1:decide ((i:Int)<(l.length:Int))=false:=by simpa using hlt
    have hi2:i=l.length:=by have:=hi;omega
    subst hi2
    rw[Y04]at hall⊢
    rw[hall]
    generalize (goSL V.hE V.hS l d s).2=t at *
    repeat' ((conv=>whnf);first|(rw[Z07])|refine stp ?_|with_reducible apply Z03<;>intro h)
    all_goals (conv=>whnf)
    all_goals (exact V.toTvE.fin s t true)
end
end
section
variable {gl:Glob}
def Z2e{α β : Type}(f : α -> β -> Bool):List α -> List β -> Bool
 |[],[]=>true
 |x::a,y::b=>f x y&&Z2e f a b
 |_,_=>false
theorem Z2c{α β : Type}(f : α -> β -> Bool):∀(a:List α)(b:List β),a.length≠b.length->Z2e f a b=false
 |[],[],h=>by simp at h
 |[],_::_,_=>rfl
 |_::_,[],_=>rfl
 |x::a,y::b,h=>by simp only[Z2e,Z2c f a b (by simpa using h),Bool.and_false]
theorem Z1D{α β : Type}(f : α -> β -> Bool):∀(a:List α)(b:List β)(i:Nat)(h:i<a.length)(h':i<b.length),Z2e f (a.take (i+1)) (b.take (i+1))=(Z2e f (a.take i) (b.take i)&&f a[i] b[i])
 |x::a,y::b,0,h,h'=>by simp[Z2e]
 |x::a,y::b,i+1,h,h'=>by
  have:=Z1D f a b i (by simpa using h) (by simpa using h')
  simp only[Y03,Z2e,Y08]at this⊢;rw[this,Bool.and_assoc]
theorem Z2d{α β : Type}(f : α -> β -> Bool):∀{a:List α}{b:List β}{i:Nat}(h:i<a.length)(h':i<b.length),f a[i] b[i]=false->Z2e f a b=false
 |x::a,y::b,0,h,h',e=>by simp only[Y09]at e;simp only[Z2e,e,Bool.false_and]
 |x::a,y::b,i+1,h,h',e=>by simp only[Y08]at e;simp only[Z2e,Z2d f (a:=a) (b:=b) (by simpa using h) (by simpa using h') e,Bool.and_false]
theorem Z88{α : Type}(f : α -> α -> Bool):∀{a:List α},(∀x∈a,f x x=true)->Z2e f a a=true
 |[],_=>rfl
 |x::a,h=>by simp only[Z2e,h x (by simp),Z88 f (a:=a) λy hy=>h y (by simp[hy]),Y0e]
mutual
def Z1V:Ex->Ex->Bool
 | .mk o n s k,.mk o' n' s' k'=>(o==o')&&((n==n')&&((s==s')&&sameL k k'))
def sameL:List Ex->List Ex->Bool
 |[],[]=>true
 |x::a,y::b=>Z1V x y&&sameL a b
 |_,_=>false
end
theorem Z9v:∀(a b:List Ex),sameL a b=Z2e Z1V a b
 |[],[]=>by simp only[sameL,Z2e]
 |[],_::_=>by simp only[sameL,Z2e]
 |_::_,[]=>by simp only[sameL,Z2e]
 |x::a,y::b=>by simp only[sameL,Z2e,Z9v a b]
theorem ZhJ(a b:Ex):refsL [.agg a.cells,.agg b.cells] []=[]:=by
 obtain⟨o,n,s,k⟩:=a
 obtain⟨o',n',s',k'⟩:=b
 simp only[Ex.cells];rfl
def ZjO{g:Nat}(hb:Z0b Y00 g=true)(G:Ex×Ex->Prop)(h:∀p,G p->Z0k Y00 gl g [.agg p.1.cells,.agg p.2.cells] (.bool (Z1V p.1 p.2))):Fam Y00 gl:={ I:=Ex×Ex,f:=g,G:=G,A:=λp=>[.agg p.1.cells,.agg p.2.cells],R:=λp=>.bool (Z1V p.1 p.2),body:=hb,inj:=(λi j _ _ h=>by simp only[List.cons.injEq,AV.agg.injEq,and_true]at h;rw[Z46 _ _ h.1,Z46 _ _ h.2]),ok:=(λp hp=>⟨ZhJ p.1 p.2,h p hp⟩) }
theorem Zgl(a b:List Ex)(ha:a.length<=9223372036854775807)(each:∀x∈a,∀y∈b,Z0k Y00 gl 22 [.agg x.cells,.agg y.cells] (.bool (Z1V x y))):Z0k Y00 gl 58 [exA a,exA b,.func (.func 22) [] []] (.bool (sameL a b)):=by
 obtain⟨O,hO,p1,-⟩:=fams (P:=Y00) (gl:=gl) [ZjO (g:=22) (by kernel_rfl) (λp=>p.1∈a/\p.2∈b) (λp hp=>each _ hp.1 _ hp.2)] rfl
 have q1:∀x∈a,∀y∈b,∀H,Z08 Y00 O H 22 [.agg x.cells,.agg y.cells]=some (.bool (Z1V x y),H):=λx hx y hy=>p1 (x,y) ⟨hx,hy⟩
 clear p1
 rw[Z9v]
 unfold exA
 refine Z0C follows Z0x hO Tryd.func58 rfl ?_
 by_cases hl:a.length=b.length
 · have e0:((a.length:Int)==(b.length:Int))=true:=by rw[hl];simp
   repeat' ((conv=>whnf);first|refine stp ?_|with_reducible apply Z03<;>intro h)
   conv=>whnf
   refine⟨Nat,(λi=>i<=a.length/\Z2e Z1V (a.take i) (b.take i)=true),(λi=>[(1,.rs b.length 4 (exC b)),(2,.func (.func 22) [] []),(15,.rs a.length 4 (exC a)),(16,.int .i64 a.length),(17,.int .i64 i)]),(λ_=>[]),(λi=>a.length-i),⟨0,⟨Y05 _,rfl⟩,Y06 rfl ?_⟩,?_⟩
   ·exact wks
   rintro i ⟨hi,hall⟩
   dsimp only
   by_cases hlt:i<a.length
   · have e1:decide ((i:Int)<(a.length:Int))=true:=by simpa using hlt
     have hlt':i<b.length:=by omega
     have hat:=Z1D Z1V a b i hlt hlt'
     rw[hall,Y0e]at hat
     have hfalse:Z1V a[i] b[i]=false->Z2e Z1V a b=false:=Z2d Z1V hlt hlt'
     have hx:=ex4 a i hlt
     have hy:=ex4 b i hlt'
     have q2:=q1 a[i] (Z0c hlt) b[i] (Z0c hlt')
     generalize a[i]=x at *
     generalize b[i]=y at *
     generalize Z1V x y=w at *
     obtain⟨o,n,s,k⟩:=x
     obtain⟨o',n',s',k'⟩:=y
     simp only[Ex.cells]at hx hy q2
     cases w with
     |true =>
      repeat' ((conv=>whnf);first|with_reducible refine exI (q2 _) ?_|(with_reducible refine ixJ i rfl ?_ ?_;focus omega)|refine exI hx ?_|refine exI hy ?_|refine stp ?_|with_reducible apply Z03<;>intro h)
      conv=>whnf
      refine⟨i+1,⟨hlt,hat⟩,by show a.length-(i+1)<a.length-i;omega,Y06 rfl ?_⟩
      exact wks
     |false =>
      rw[hfalse rfl]
      repeat' ((conv=>whnf);first|with_reducible refine exI (q2 _) ?_|(with_reducible refine ixJ i rfl ?_ ?_;focus omega)|refine exI hx ?_|refine exI hy ?_|refine stp ?_|with_reducible apply Z03<;>intro h)
      all_goals rfl
   · have e1:decide ((i:Int)<(a.length:Int))=false:=by simpa using hlt
     have hi2:i=a.length:=by have:=hi;omega
     subst hi2
     rw[Y04,hl,Y04]at hall
     rw[hall]
     repeat' ((conv=>whnf);first|refine stp ?_|with_reducible apply Z03<;>intro h)
     all_goals rfl
 · rw[Z2c _ _ _ hl]
   have e0:((a.length:Int)==(b.length:Int))=false:=by simpa using (λh=>hl (by omega))
   repeat' ((conv=>whnf);first|refine stp ?_|with_reducible apply Z03<;>intro h)
   all_goals rfl
theorem Zd1:∀(n:Nat)(a b:Ex),Z1v a<=n->okE a->Z0k Y00 gl 22 [.agg a.cells,.agg b.cells] (.bool (Z1V a b))
 |n,.mk o m s k,.mk o' m' s' k',h,hok=>by
  have hk:=Z3r hok
  simp only[Ex.kids,Ex.name,okN]at hk
  simp only[Z1v]at h
  obtain⟨O,hO,p1,-⟩:=fams (P:=Y00) (gl:=gl) [{ I:=Unit,f:=58,G:=λ_=>True,A:=λ_=>[exA k,exA k',.func (.func 22) [] []],R:=λ_=>.bool (sameL k k'),body:=(by kernel_rfl),inj:=(λ_ _ _ _ _=>rfl),ok:=(λ_ _=>⟨rfl,Zgl k k' hk.1.2 λx hx y _=>match n,(show 1<=n by omega),h with|n+1,_,h=>Zd1 n x y (by have:=Z1u _ _ hx;omega) (Z2n hk.2 _ hx)⟩) }] rfl
  have q1:∀H,Z08 Y00 O H 58 [exA k,exA k',.func (.func 22) [] []]=some (.bool (sameL k k'),H):=p1 () trivial
  clear p1
  simp only[Ex.cells,exA,Z1V]at q1⊢
  generalize sameL k k'=w at *
  refine Z0C follows Z0x hO Tryd.func22 rfl ?_
  generalize hb1:(o==o')=b1
  generalize hb2:(m==m')=b2
  generalize hb3:(s==s')=b3
  cases b1<;>cases b2<;>cases b3<;>cases w
  all_goals (repeat' ((conv=>whnf);first|with_reducible refine exI (q1 _) ?_|refine stp ?_|with_reducible apply Z03<;>intro h))
  all_goals (first|rfl|(simp_all[Z0J];done))
theorem ZaX(a b:List Ex)(ha:a.length<=9223372036854775807)(each:∀x∈a,∀y∈b,Z0k Y00 gl 91 [.agg x.cells,.agg y.cells] (.bool (Z1V x y))):Z0k Y00 gl 80 [exA a,exA b] (.bool (sameL a b)):=by
 obtain⟨O,hO,p1,-⟩:=fams (P:=Y00) (gl:=gl) [ZjO (g:=91) (by kernel_rfl) (λp=>p.1∈a/\p.2∈b) (λp hp=>each _ hp.1 _ hp.2)] rfl
 have q1:∀x∈a,∀y∈b,∀H,Z08 Y00 O H 91 [.agg x.cells,.agg y.cells]=some (.bool (Z1V x y),H):=λx hx y hy=>p1 (x,y) ⟨hx,hy⟩
 clear p1
 rw[Z9v]
 unfold exA
 refine Z0C follows Z0x hO Tryd.func80 rfl ?_
 by_cases hl:a.length=b.length
 · have e0:((a.length:Int) != (b.length:Int))=false:=Z2P (b:=true) (by rw[hl];simp)
   repeat' ((conv=>whnf);first|refine stp ?_|with_reducible apply Z03<;>intro h)
   conv=>whnf
   refine⟨Nat,(λi=>i<=a.length/\Z2e Z1V (a.take i) (b.take i)=true),(λi=>[(0,.rs a.length 4 (exC a)),(1,.rs b.length 4 (exC b)),(5,.int .i64 i)]),(λ_=>[]),(λi=>a.length-i),⟨0,⟨Y05 _,rfl⟩,Y06 rfl ?_⟩,?_⟩
   ·exact wks
   rintro i ⟨hi,hall⟩
   dsimp only
   by_cases hlt:i<a.length
   · have e1:decide ((i:Int)<(a.length:Int))=true:=by simpa using hlt
     have hlt':i<b.length:=by omega
     have hat:=Z1D Z1V a b i hlt hlt'
     rw[hall,Y0e]at hat
     have hfalse:Z1V a[i] b[i]=false->Z2e Z1V a b=false:=Z2d Z1V hlt hlt'
     have hx:=ex4 a i hlt
     have hy:=ex4 b i hlt'
     have q2:=q1 a[i] (Z0c hlt) b[i] (Z0c hlt')
     generalize a[i]=x at *
     generalize b[i]=y at *
     generalize Z1V x y=w at *
     obtain⟨o,n,s,k⟩:=x
     obtain⟨o',n',s',k'⟩:=y
     simp only[Ex.cells]at hx hy q2
     cases w with
     |true =>
      repeat' ((conv=>whnf);first|with_reducible refine exI (q2 _) ?_|(with_reducible refine ixJ i rfl ?_ ?_;focus omega)|refine exI hx ?_|refine exI hy ?_|refine stp ?_|with_reducible apply Z03<;>intro h)
      conv=>whnf
      refine⟨i+1,⟨hlt,hat⟩,by show a.length-(i+1)<a.length-i;omega,Y06 rfl ?_⟩
      exact wks
     |false =>
      rw[hfalse rfl]
      repeat' ((conv=>whnf);first|with_reducible refine exI (q2 _) ?_|(with_reducible refine ixJ i rfl ?_ ?_;focus omega)|refine exI hx ?_|refine exI hy ?_|refine stp ?_|with_reducible apply Z03<;>intro h)
      all_goals rfl
   · have e1:decide ((i:Int)<(a.length:Int))=false:=by simpa using hlt
     have hi2:i=a.length:=by have:=hi;omega
     subst hi2
     rw[Y04,hl,Y04]at hall
     rw[hall]
     repeat' ((conv=>whnf);first|refine stp ?_|with_reducible apply Z03<;>intro h)
     all_goals rfl
 · rw[Z2c _ _ _ hl]
   have e0:((a.length:Int) != (b.length:Int))=true:=Z2P (b:=false) (by simpa using (λh=>hl (by omega)))
   repeat' ((conv=>whnf);first|refine stp ?_|with_reducible apply Z03<;>intro h)
   all_goals rfl
theorem Zdi:∀(n:Nat)(a b:Ex),Z1v a<=n->okE a->Z0k Y00 gl 91 [.agg a.cells,.agg b.cells] (.bool (Z1V a b))
 |n,.mk o m s k,.mk o' m' s' k',h,hok=>by
  have hk:=Z3r hok
  simp only[Ex.kids,Ex.name,okN]at hk
  simp only[Z1v]at h
  obtain⟨O,hO,p1,-⟩:=fams (P:=Y00) (gl:=gl) [{ I:=Unit,f:=80,G:=λ_=>True,A:=λ_=>[exA k,exA k'],R:=λ_=>.bool (sameL k k'),body:=(by kernel_rfl),inj:=(λ_ _ _ _ _=>rfl),ok:=(λ_ _=>⟨rfl,ZaX k k' hk.1.2 λx hx y _=>match n,(show 1<=n by omega),h with|n+1,_,h=>Zdi n x y (by have:=Z1u _ _ hx;omega) (Z2n hk.2 _ hx)⟩) }] rfl
  have q1:∀H,Z08 Y00 O H 80 [exA k,exA k']=some (.bool (sameL k k'),H):=p1 () trivial
  clear p1
  simp only[Ex.cells,exA,Z1V]at q1⊢
  generalize sameL k k'=w at *
  refine Z0C follows Z0x hO Tryd.func91 rfl ?_
  generalize hb1:(o==o')=b1
  generalize hb2:(m==m')=b2
  generalize hb3:(s==s')=b3
  cases b1<;>cases b2<;>cases b3<;>cases w
  all_goals (repeat' ((conv=>whnf);first|with_reducible refine exI (q1 _) ?_|refine stp ?_|with_reducible apply Z03<;>intro h))
  all_goals (first|rfl|(simp_all[Z0J];done))
end
section
variable {gl:Glob}
mutual
def Z22:St->St->Bool
 | .mk k n l o x t e,.mk k' n' l' o' x' t' e'=>(k==k')&&((n==n')&&((l==l')&&((o==o')&&(sameL x x'&&(sameSL t t'&&sameSL e e')))))
def sameSL:List St->List St->Bool
 |[],[]=>true
 |x::a,y::b=>Z22 x y&&sameSL a b
 |_,_=>false
end
theorem Z7i:∀(a b:List St),sameSL a b=Z2e Z22 a b
 |[],[]=>by simp only[sameSL,Z2e]
 |[],_::_=>by simp only[sameSL,Z2e]
 |_::_,[]=>by simp only[sameSL,Z2e]
 |x::a,y::b=>by simp only[sameSL,Z2e,Z7i a b]
theorem Zf4(a b:St):refsL [.agg a.cells,.agg b.cells] []=[]:=by
 obtain⟨k,n,l,o,x,t,e⟩:=a
 obtain⟨k',n',l',o',x',t',e'⟩:=b
 simp only[St.cells];rfl
def Zll{g:Nat}(hb:Z0b Y00 g=true)(G:St×St->Prop)(h:∀p,G p->Z0k Y00 gl g [.agg p.1.cells,.agg p.2.cells] (.bool (Z22 p.1 p.2))):Fam Y00 gl:={ I:=St×St,f:=g,G:=G,A:=λp=>[.agg p.1.cells,.agg p.2.cells],R:=λp=>.bool (Z22 p.1 p.2),body:=hb,inj:=(λi j _ _ h=>by simp only[List.cons.injEq,AV.agg.injEq,and_true]at h;rw[Z5E _ _ h.1,Z5E _ _ h.2]),ok:=(λp hp=>⟨Zf4 p.1 p.2,h p hp⟩) }
def Znm{f:Nat}{A:List AV}{R:AV}(G:Prop)(hb:Z0b Y00 f=true)(hr:refsL A []=[])(h:G->Z0k Y00 gl f A R):Fam Y00 gl:={ I:=Unit,f:=f,G:=λ_=>G,A:=λ_=>A,R:=λ_=>R,body:=hb,inj:=(λ_ _ _ _ _=>rfl),ok:=(λ_ hG=>⟨hr,h hG⟩) }
def famTwoL{g:Nat}(hb:Z0b Y00 g=true)(G:List St×List St->Prop)(h:∀p,G p->Z0k Y00 gl g [stA p.1,stA p.2] (.bool (sameSL p.1 p.2))):Fam Y00 gl:={ I:=List St×List St,f:=g,G:=G,A:=λp=>[stA p.1,stA p.2],R:=λp=>.bool (sameSL p.1 p.2),body:=hb,inj:=(λi j _ _ h=>by simp only[List.cons.injEq,and_true]at h;rw[Z3R h.1,Z3R h.2]),ok:=(λp hp=>⟨rfl,h p hp⟩) }
theorem Zcr(a b:List St)(ha:a.length<=9223372036854775807)(each:∀x∈a,∀y∈b,Z0k Y00 gl 79 [.agg x.cells,.agg y.cells] (.bool (Z22 x y))):Z0k Y00 gl 78 [stA a,stA b,.func (.func 79) [] []] (.bool (sameSL a b)):=by
 obtain⟨O,hO,p1,-⟩:=fams (P:=Y00) (gl:=gl) [Zll (g:=79) (by kernel_rfl) (λp=>p.1∈a/\p.2∈b) (λp hp=>each _ hp.1 _ hp.2)] rfl
 have q1:∀x∈a,∀y∈b,∀H,Z08 Y00 O H 79 [.agg x.cells,.agg y.cells]=some (.bool (Z22 x y),H):=λx hx y hy=>p1 (x,y) ⟨hx,hy⟩
 clear p1
 rw[Z7i]
 unfold stA
 refine Z0C follows Z0x hO Tryd.func78 rfl ?_
 by_cases hl:a.length=b.length
 · have e0:((a.length:Int)==(b.length:Int))=true:=by rw[hl];simp
   repeat' ((conv=>whnf);first|refine stp ?_|with_reducible apply Z03<;>intro h)
   conv=>whnf
   refine⟨Nat,(λi=>i<=a.length/\Z2e Z22 (a.take i) (b.take i)=true),(λi=>[(1,.rs b.length 7 (stC b)),(2,.func (.func 79) [] []),(15,.rs a.length 7 (stC a)),(16,.int .i64 a.length),(17,.int .i64 i)]),(λ_=>[]),(λi=>a.length-i),⟨0,⟨Y05 _,rfl⟩,Y06 rfl ?_⟩,?_⟩
   ·exact wks
   rintro i ⟨hi,hall⟩
   dsimp only
   by_cases hlt:i<a.length
   · have e1:decide ((i:Int)<(a.length:Int))=true:=by simpa using hlt
     have hlt':i<b.length:=by omega
     have hat:=Z1D Z22 a b i hlt hlt'
     rw[hall,Y0e]at hat
     have hfalse:Z22 a[i] b[i]=false->Z2e Z22 a b=false:=Z2d Z22 hlt hlt'
     have hx:=st7 a i hlt
     have hy:=st7 b i hlt'
     have q2:=q1 a[i] (Z0c hlt) b[i] (Z0c hlt')
     generalize a[i]=x at *
     generalize b[i]=y at *
     generalize Z22 x y=w at *
     obtain⟨k,n,l,o,x,t,e⟩:=x
     obtain⟨k',n',l',o',x',t',e'⟩:=y
     simp only[St.cells,exA]at hx hy q2
     cases w with
     |true =>
      repeat' ((conv=>whnf);first|with_reducible refine exI (q2 _) ?_|(with_reducible refine ixJ i rfl ?_ ?_;focus omega)|refine exI hx ?_|refine exI hy ?_|refine stp ?_|with_reducible apply Z03<;>intro h)
      conv=>whnf
      refine⟨i+1,⟨hlt,hat⟩,by show a.length-(i+1)<a.length-i;omega,Y06 rfl ?_⟩
      exact wks
     |false =>
      rw[hfalse rfl]
      repeat' ((conv=>whnf);first|with_reducible refine exI (q2 _) ?_|(with_reducible refine ixJ i rfl ?_ ?_;focus omega)|refine exI hx ?_|refine exI hy ?_|refine stp ?_|with_reducible apply Z03<;>intro h)
      all_goals rfl
   · have e1:decide ((i:Int)<(a.length:Int))=false:=by simpa using hlt
     have hi2:i=a.length:=by have:=hi;omega
     subst hi2
     rw[Y04,hl,Y04]at hall
     rw[hall]
     repeat' ((conv=>whnf);first|refine stp ?_|with_reducible apply Z03<;>intro h)
     all_goals rfl
 · rw[Z2c _ _ _ hl]
   have e0:((a.length:Int)==(b.length:Int))=false:=by simpa using (λh=>hl (by omega))
   repeat' ((conv=>whnf);first|refine stp ?_|with_reducible apply Z03<;>intro h)
   all_goals rfl
theorem Zkr(a b:List St)(h:Z0k Y00 gl 78 [stA a,stA b,.func (.func 79) [] []] (.bool (sameSL a b))):Z0k Y00 gl 56 [stA a,stA b] (.bool (sameSL a b)):=by
 obtain⟨O,hO,p1,-⟩:=fams (P:=Y00) (gl:=gl) [Znm (f:=78) (A:=[stA a,stA b,.func (.func 79) [] []]) (R:=.bool (sameSL a b)) True (by kernel_rfl) rfl (λ_=>h)] rfl
 have q1:∀H,Z08 Y00 O H 78 [stA a,stA b,.func (.func 79) [] []]=some (.bool (sameSL a b),H):=p1 () trivial
 clear p1
 unfold stA at *
 generalize sameSL a b=w at *
 refine Z0C follows Z0x hO Tryd.func56 rfl ?_
 repeat' ((conv=>whnf);first|with_reducible refine exI (q1 _) ?_|refine stp ?_|with_reducible apply Z03<;>intro h)
 all_goals rfl
theorem Zd2:∀(n:Nat)(a b:St),Z1U a<=n->okS a->Z0k Y00 gl 79 [.agg a.cells,.agg b.cells] (.bool (Z22 a b))
 |n,.mk k m l o x t e,.mk k' m' l' o' x' t' e',h,hok=>by
  have hk:=Z38 hok
  simp only[St.exprs,St.name,St.loc,St.thn,St.els]at hk
  obtain⟨_,_,hx,ht,he,hx2,ht2,he2⟩:=hk
  simp only[Z1U]at h
  have rc:∀y z,Z1U y<n->okS y->Z0k Y00 gl 79 [.agg y.cells,.agg z.cells] (.bool (Z22 y z)):=λy z hy hoy=>match n,(show 1<=n by omega),hy with|n+1,_,hy=>Zd2 n y z (by omega) hoy
  obtain⟨O,hO,p1,p2,-⟩:=fams (P:=Y00) (gl:=gl) [Znm (f:=58) (A:=[exA x,exA x',.func (.func 22) [] []]) (R:=.bool (sameL x x')) True (by kernel_rfl) rfl (λ_=>Zgl x x' hx λy hy z _=>Zd1 _ y z (Y07 _) (Z2n hx2 _ hy)),
   famTwoL (g:=56) (by kernel_rfl) (λp=>p=(t,t')\/p=(e,e')) (λp hp=>by
    rcases hp with rfl|rfl
    ·exact Zkr t t' (Zcr t t' ht λy hy z _=>rc y z (by have:=Z19 _ _ hy;omega) (Z1Q ht2 _ hy))
    ·exact Zkr e e' (Zcr e e' he λy hy z _=>rc y z (by have:=Z19 _ _ hy;omega) (Z1Q he2 _ hy)))] rfl
  have q1:∀H,Z08 Y00 O H 58 [exA x,exA x',.func (.func 22) [] []]=some (.bool (sameL x x'),H):=p1 () trivial
  have q2:∀H,Z08 Y00 O H 56 [stA t,stA t']=some (.bool (sameSL t t'),H):=p2 (t,t') (.inl rfl)
  have q3:∀H,Z08 Y00 O H 56 [stA e,stA e']=some (.bool (sameSL e e'),H):=p2 (e,e') (.inr rfl)
  clear p1 p2 rc
  simp only[St.cells,exA,stA,Z22]at q1 q2 q3⊢
  generalize sameL x x'=w1 at *
  generalize sameSL t t'=w2 at *
  generalize sameSL e e'=w3 at *
  refine Z0C follows Z0x hO Tryd.func79 rfl ?_
  generalize hb1:(k==k')=b1
  generalize hb2:(m==m')=b2
  generalize hb3:(l==l')=b3
  generalize hb4:(o==o')=b4
  cases b1 with
  |false =>
   repeat' ((conv=>whnf);first|with_reducible refine exI (q1 _) ?_|with_reducible refine exI (q2 _) ?_|with_reducible refine exI (q3 _) ?_|refine stp ?_|with_reducible apply Z03<;>intro h)
   all_goals (first|rfl|(simp[Z0J];done))
  |true =>
   cases b2 with
   |false =>
    repeat' ((conv=>whnf);first|with_reducible refine exI (q1 _) ?_|with_reducible refine exI (q2 _) ?_|with_reducible refine exI (q3 _) ?_|refine stp ?_|with_reducible apply Z03<;>intro h)
    all_goals (first|rfl|(simp[Z0J];done))
   |true =>
    cases b3 with
    |false =>
     repeat' ((conv=>whnf);first|with_reducible refine exI (q1 _) ?_|with_reducible refine exI (q2 _) ?_|with_reducible refine exI (q3 _) ?_|refine stp ?_|with_reducible apply Z03<;>intro h)
     all_goals (first|rfl|(simp[Z0J];done))
    |true =>
     cases b4 with
     |false =>
      repeat' ((conv=>whnf);first|with_reducible refine exI (q1 _) ?_|with_reducible refine exI (q2 _) ?_|with_reducible refine exI (q3 _) ?_|refine stp ?_|with_reducible apply Z03<;>intro h)
      all_goals (first|rfl|(simp[Z0J];done))
     |true =>
      cases w1 with
      |false =>
       repeat' ((conv=>whnf);first|with_reducible refine exI (q1 _) ?_|with_reducible refine exI (q2 _) ?_|with_reducible refine exI (q3 _) ?_|refine stp ?_|with_reducible apply Z03<;>intro h)
       all_goals (first|rfl|(simp[Z0J];done))
      |true =>
       cases w2 with
       |false =>
        repeat' ((conv=>whnf);first|with_reducible refine exI (q1 _) ?_|with_reducible refine exI (q2 _) ?_|with_reducible refine exI (q3 _) ?_|refine stp ?_|with_reducible apply Z03<;>intro h)
        all_goals (first|rfl|(simp[Z0J];done))
       |true =>
        cases w3 with
        |false =>
         repeat' ((conv=>whnf);first|with_reducible refine exI (q1 _) ?_|with_reducible refine exI (q2 _) ?_|with_reducible refine exI (q3 _) ?_|refine stp ?_|with_reducible apply Z03<;>intro h)
         all_goals (first|rfl|(simp[Z0J];done))
        |true =>
         repeat' ((conv=>whnf);first|with_reducible refine exI (q1 _) ?_|with_reducible refine exI (q2 _) ?_|with_reducible refine exI (q3 _) ?_|refine stp ?_|with_reducible apply Z03<;>intro h)
         all_goals (first|rfl|(simp[Z0J];done))
end
section
variable {gl:Glob}
theorem Zjx{b c:Bool}(h:b=c):(!b) = !c:=by rw[h]
def Zlk{g:Nat}(hb:Z0b Y00 g=true)(G:List Ex×List Ex->Prop)(h:∀p,G p->Z0k Y00 gl g [exA p.1,exA p.2] (.bool (sameL p.1 p.2))):Fam Y00 gl:={ I:=List Ex×List Ex,f:=g,G:=G,A:=λp=>[exA p.1,exA p.2],R:=λp=>.bool (sameL p.1 p.2),body:=hb,inj:=(λi j _ _ h=>by simp only[List.cons.injEq,and_true]at h;rw[Z5V h.1,Z5V h.2]),ok:=(λp hp=>⟨rfl,h p hp⟩) }
theorem ZkZ(n:Nat)(a b:List St)(h:sizeSL a<=n)(hok:okSL a)(ha:a.length<=9223372036854775807)(O:Orc)(hO:OrcSound Y00 gl O)(r1:∀x y,sizeSL x<n->okSL x->x.length<=9223372036854775807->∀H,Z08 Y00 O H 59 [stA x,stA y]=some (.bool (sameSL x y),H))(r2:∀x y:List Ex,okL x->x.length<=9223372036854775807->∀H,Z08 Y00 O H 80 [exA x,exA y]=some (.bool (sameL x y),H)):Z0k Y00 gl 59 [.rs a.length 7 (stC a),.rs b.length 7 (stC b)] (.bool (Z2e Z22 a b)):=by
 refine Z0C follows Z0x hO Tryd.func59 rfl ?_
 by_cases hl:a.length=b.length
 · have e0:((a.length:Int) != (b.length:Int))=false:=Z2P (b:=true) (by rw[hl];simp)
   repeat' ((conv=>whnf);first|refine stp ?_|with_reducible apply Z03<;>intro h)
   conv=>whnf
   refine⟨Nat,(λi=>i<=a.length/\Z2e Z22 (a.take i) (b.take i)=true),(λi=>[(0,.rs a.length 7 (stC a)),(1,.rs b.length 7 (stC b)),(5,.int .i64 i)]),(λ_=>[]),(λi=>a.length-i),⟨0,⟨Y05 _,rfl⟩,Y06 rfl ?_⟩,?_⟩
   ·exact wks
   rintro i ⟨hi,hall⟩
   dsimp only
   by_cases hlt:i<a.length
   · have e1:decide ((i:Int)<(a.length:Int))=true:=by simpa using hlt
     have hlt':i<b.length:=by omega
     have hat:=Z1D Z22 a b i hlt hlt'
     rw[hall,Y0e]at hat
     have hfalse:Z22 a[i] b[i]=false->Z2e Z22 a b=false:=Z2d Z22 hlt hlt'
     have hx:=st7 a i hlt
     have hy:=st7 b i hlt'
     have hsz:=Z19 _ _ (Z0c hlt)
     have hse:=Z6K a[i]
     obtain⟨k1,k2,k3,k4,k5,k6,k7,k8⟩:=Z38 (Z1Q hok _ (Z0c hlt))
     have q2:=r1 a[i].thn b[i].thn (by omega) k7 k4
     have q3:=r1 a[i].els b[i].els (by omega) k8 k5
     have q1:=r2 a[i].exprs b[i].exprs k6 k3
     clear hsz hse
     generalize a[i]=u at *
     generalize b[i]=v at *
     obtain⟨k,n,l,o,x,t,e⟩:=u
     obtain⟨k',n',l',o',x',t',e'⟩:=v
     simp only[St.cells,exA,stA,St.thn,St.els,St.exprs]at hx hy q1 q2 q3
     generalize hw1:sameL x x'=w1 at *
     generalize hw2:sameSL t t'=w2 at *
     generalize hw3:sameSL e e'=w3 at *
     have hs:Z22 (.mk k n l o x t e) (.mk k' n' l' o' x' t' e')=((k==k')&&((n==n')&&((l==l')&&((o==o')&&(w1&&(w2&&w3)))))):=by simp only[Z22,hw1,hw2,hw3]
     rw[hs]at hat hfalse
     clear hs
     generalize hb1:(k==k')=b1 at *
     generalize hb2:(n==n')=b2 at *
     generalize hb3:(l==l')=b3 at *
     generalize hb4:(o==o')=b4 at *
     have n1:=Z2P hb1
     have n2:=Zjx hb2
     have n3:=Zjx hb3
     have n4:=Z2P hb4
     cases b1 with
     |false =>
      have n1:(k != k')=true:=n1
      rw[hfalse (by simp)]
      repeat' ((conv=>whnf);first|with_reducible refine exI (q1 _) ?_|with_reducible refine exI (q2 _) ?_|with_reducible refine exI (q3 _) ?_|(with_reducible refine ixJ i rfl ?_ ?_;focus omega)|refine exI hx ?_|refine exI hy ?_|refine stp ?_|with_reducible apply Z03<;>intro h)
      all_goals (first|rfl|(simp[Z0J];done))
     |true =>
      have n1:(k != k')=false:=n1
      cases b2 with
      |false =>
       have n2:(!(n==n'))=true:=n2
       rw[hfalse (by simp)]
       repeat' ((conv=>whnf);first|with_reducible refine exI (q1 _) ?_|with_reducible refine exI (q2 _) ?_|with_reducible refine exI (q3 _) ?_|(with_reducible refine ixJ i rfl ?_ ?_;focus omega)|refine exI hx ?_|refine exI hy ?_|refine stp ?_|with_reducible apply Z03<;>intro h)
       all_goals (first|rfl|(simp[Z0J];done))
      |true =>
       have n2:(!(n==n'))=false:=n2
       cases b3 with
       |false =>
        have n3:(!(l==l'))=true:=n3
        rw[hfalse (by simp)]
        repeat' ((conv=>whnf);first|with_reducible refine exI (q1 _) ?_|with_reducible refine exI (q2 _) ?_|with_reducible refine exI (q3 _) ?_|(with_reducible refine ixJ i rfl ?_ ?_;focus omega)|refine exI hx ?_|refine exI hy ?_|refine stp ?_|with_reducible apply Z03<;>intro h)
        all_goals (first|rfl|(simp[Z0J];done))
       |true =>
        have n3:(!(l==l'))=false:=n3
        cases b4 with
        |false =>
         have n4:(o != o')=true:=n4
         rw[hfalse (by simp)]
         repeat' ((conv=>whnf);first|with_reducible refine exI (q1 _) ?_|with_reducible refine exI (q2 _) ?_|with_reducible refine exI (q3 _) ?_|(with_reducible refine ixJ i rfl ?_ ?_;focus omega)|refine exI hx ?_|refine exI hy ?_|refine stp ?_|with_reducible apply Z03<;>intro h)
         all_goals (first|rfl|(simp[Z0J];done))
        |true =>
         have n4:(o != o')=false:=n4
         cases w1 with
         |false =>
          rw[hfalse (by simp)]
          repeat' ((conv=>whnf);first|with_reducible refine exI (q1 _) ?_|with_reducible refine exI (q2 _) ?_|with_reducible refine exI (q3 _) ?_|(with_reducible refine ixJ i rfl ?_ ?_;focus omega)|refine exI hx ?_|refine exI hy ?_|refine stp ?_|with_reducible apply Z03<;>intro h)
          all_goals (first|rfl|(simp[Z0J];done))
         |true =>
          cases w2 with
          |false =>
           rw[hfalse (by simp)]
           repeat' ((conv=>whnf);first|with_reducible refine exI (q1 _) ?_|with_reducible refine exI (q2 _) ?_|with_reducible refine exI (q3 _) ?_|(with_reducible refine ixJ i rfl ?_ ?_;focus omega)|refine exI hx ?_|refine exI hy ?_|refine stp ?_|with_reducible apply Z03<;>intro h)
           all_goals (first|rfl|(simp[Z0J];done))
          |true =>
           cases w3 with
           |false =>
            rw[hfalse (by simp)]
            repeat' ((conv=>whnf);first|with_reducible refine exI (q1 _) ?_|with_reducible refine exI (q2 _) ?_|with_reducible refine exI (q3 _) ?_|(with_reducible refine ixJ i rfl ?_ ?_;focus omega)|refine exI hx ?_|refine exI hy ?_|refine stp ?_|with_reducible apply Z03<;>intro h)
            all_goals (first|rfl|(simp[Z0J];done))
           |true =>
            simp only[Y0e]at hat
            repeat' ((conv=>whnf);first|with_reducible refine exI (q1 _) ?_|with_reducible refine exI (q2 _) ?_|with_reducible refine exI (q3 _) ?_|(with_reducible refine ixJ i rfl ?_ ?_;focus omega)|refine exI hx ?_|refine exI hy ?_|refine stp ?_|with_reducible apply Z03<;>intro h)
            conv=>whnf
            refine⟨i+1,⟨hlt,hat⟩,by show a.length-(i+1)<a.length-i;omega,Y06 rfl ?_⟩
            exact wks
   · have e1:decide ((i:Int)<(a.length:Int))=false:=by simpa using hlt
     have hi2:i=a.length:=by have:=hi;omega
     subst hi2
     rw[Y04,hl,Y04]at hall
     rw[hall]
     repeat' ((conv=>whnf);first|refine stp ?_|with_reducible apply Z03<;>intro h)
     all_goals rfl
 · rw[Z2c _ _ _ hl]
   have e0:((a.length:Int) != (b.length:Int))=true:=Z2P (b:=false) (by simpa using (λh=>hl (by omega)))
   repeat' ((conv=>whnf);first|refine stp ?_|with_reducible apply Z03<;>intro h)
   all_goals rfl
theorem ZaW:∀(n:Nat)(a b:List St),sizeSL a<=n->okSL a->a.length<=9223372036854775807->Z0k Y00 gl 59 [stA a,stA b] (.bool (sameSL a b))
 |n,a,b,h,hok,ha=>by
  obtain⟨O,hO,p1,p2,-⟩:=fams (P:=Y00) (gl:=gl) [famTwoL (g:=59) (by kernel_rfl) (λp=>sizeSL p.1<n/\okSL p.1/\p.1.length<=9223372036854775807) (λp hp=>match n,(show 1<=n by have:=hp.1;omega),hp.1 with|n+1,_,h=>ZaW n p.1 p.2 (by omega) hp.2.1 hp.2.2),Zlk (g:=80) (by kernel_rfl) (λp=>okL p.1/\p.1.length<=9223372036854775807) (λp hp=>ZaX p.1 p.2 hp.2 λy hy z _=>Zdi _ y z (Y07 _) (Z2n hp.1 _ hy))] rfl
  have r1:∀x y,sizeSL x<n->okSL x->x.length<=9223372036854775807->∀H,Z08 Y00 O H 59 [stA x,stA y]=some (.bool (sameSL x y),H):=λx y h1 h2 h3=>p1 (x,y) ⟨h1,h2,h3⟩
  have r2:∀x y:List Ex,okL x->x.length<=9223372036854775807->∀H,Z08 Y00 O H 80 [exA x,exA y]=some (.bool (sameL x y),H):=λx y h1 h2=>p2 (x,y) ⟨h1,h2⟩
  clear p1 p2
  rw[Z7i]
  unfold stA
  exact ZkZ n a b h hok ha O hO r1 r2
end
section
variable {gl:Glob}
def Z0j:List (List St)->Nat
 |[]=>0
 |l::t=>sizeSL l+Z0j t
def ZfE:List (List St)->Prop
 |[]=>True
 |l::t=>okSL l/\l.length<=9223372036854775807/\ZfE t
theorem Z2H:∀{t:List (List St)},ZfE t->∀l∈t,okSL l/\l.length<=9223372036854775807
 |x::t,h,l,hl=>by
  rcases Y0f.1 hl with rfl|hl
  ·exact⟨h.1,h.2.1⟩
  ·exact Z2H h.2.2 l hl
theorem Z7f:∀(t:List (List St))(i:Nat)(h:i<t.length),Z0j (t.take (i+1))=Z0j (t.take i)+sizeSL t[i]
 |e::l,0,h=>by simp only[Y03,Y02,Z0j,Y09];omega
 |e::l,i+1,h=>by
  have:=Z7f l i (by simpa using h)
  simp only[Y03,Z0j,Y08]at this⊢;omega
theorem Z7g:∀(t:List (List St))(i:Nat)(h:i<t.length),Z0j (t.take i)+sizeSL t[i]<=Z0j t
 |e::l,0,h=>by simp only[Y02,Z0j,Y09];omega
 |e::l,i+1,h=>by
  have:=Z7g l i (by simpa using h)
  simp only[Y03,Z0j,Y08]at this⊢;omega
theorem th1(t:List (List St))(i:Nat)(h:i<t.length):tk 1 ((t.map stA).drop (i*1))=some [stA t[i]]:=Zkg stA t i h (by omega)
structure Dc where
 name:List UInt8
 plain:Bool
 val:Int
def Dc.cells(d:Dc):List AV:=[.str d.name,.bool d.plain,.int .i64 d.val]
def dcC:List Dc->List AV
 |[]=>[]
 |d::l=>d.cells++dcC l
theorem ZiW(d:Dc)(l:List Dc)(i:Nat):(dcC (d::l)).drop ((i+1)*3)=(dcC l).drop (i*3):=by
 have h:(i+1)*3=3+i*3:=by omega
 rw[h,<- Y0u]
 have h2:(dcC (d::l)).drop 3=dcC l:=rfl
 rw[h2]
theorem ZgA:∀(l:List Dc)(i:Nat)(h:i<l.length),(dcC l).drop (i*3)=l[i].cells++dcC (l.drop (i+1))
 |d::l,0,h=>by simp only[Y0v,Y0n,dcC,Y09,Y0g]
 |d::l,i+1,h=>by rw[ZiW,ZgA l i (by simpa using h)];simp only[Y08,Y0g]
theorem dc3(l:List Dc)(i:Nat)(h:i<l.length):tk 3 ((dcC l).drop (i*3))=some l[i].cells:=by
 rw[ZgA l i h];rfl
theorem dcn(l:List Dc)(i:Nat)(h:i<l.length):tk 1 (((dcC l).drop (i*3)).drop 0)=some [.str l[i].name]:=by
 rw[ZgA l i h];rfl
structure Pr where
 decls:List Dc
 threads:List (List St)
def Pr.av(p:Pr):AV:=.agg [.rs p.decls.length 3 (dcC p.decls),.rs p.threads.length 1 (p.threads.map stA)]
def okD(l:List Dc):Prop:=l.length<=9223372036854775807/\∀d∈l,d.name.length<=9223372036854775807
def okP(p:Pr):Prop:=okD p.decls/\ZfE p.threads/\p.threads.length<=9223372036854775807
theorem Z34:∀(t:List (List St))(l:List St),l∈t->sizeSL l<=Z0j t
 |e::t,l,h=>by
  simp only[Z0j]
  rcases Y0f.1 h with rfl|h
  ·omega
  ·have:=Z34 t l h;omega
end
section
variable {gl:Glob}
def ifp(l:Int)(f:Int->Int):Int:=if 0<=l then f l else l
mutual
def Z7G:St->Int->Int
 | .mk _ n lc _ x t e,l=>ifp (ifp (heftL x (l-1-(n.length / 20:Nat)-(lc.length / 20:Nat))) (heftSL t)) (heftSL e)
def heftSL:List St->Int->Int
 |[],l=>l
 |x::k,l=>if 0<=l then heftSL k (Z7G x l) else l
end
theorem Zit:∀(x:St)(l:Int),Z7G x l=ifp (ifp (heftL x.exprs (l-1-(x.name.length / 20:Nat)-(x.loc.length / 20:Nat))) (heftSL x.thn)) (heftSL x.els)
 | .mk _ _ _ _ _ _ _,l=>by simp only[Z7G,St.exprs,St.name,St.loc,St.thn,St.els]
mutual
theorem Zeo:∀(x:St)(l:Int),0<=Z7G x l->(Z1U x:Int)+Z7G x l<=l
 | .mk _ n lc _ x t e,l,h=>by
  simp only[Z7G,Z1U,ifp]at *
  generalize hl1:l-1-((n.length / 20:Nat):Int)-((lc.length / 20:Nat):Int)=l1 at *
  have hx:=heftL_size x l1
  have ht:=heftSL_size t (heftL x l1)
  by_cases h1:0<=heftL x l1
  · simp only[if_pos h1]at *
    have he:=heftSL_size e (heftSL t (heftL x l1))
    by_cases h2:0<=heftSL t (heftL x l1)
    · simp only[if_pos h2]at *
      have:=hx h1;have:=ht h2;have:=he h;omega
    ·simp only[if_neg h2]at *;omega
  ·simp only[if_neg h1]at *;omega
theorem heftSL_size:∀(k:List St)(l:Int),0<=heftSL k l->(sizeSL k:Int)+heftSL k l<=l
 |[],l,h=>by simp only[heftSL,sizeSL]at *;omega
 |x::k,l,h=>by
  simp only[heftSL,sizeSL]at *
  split at h
  · rename_i hl
    rw[if_pos hl]
    have h1:=heftSL_size k _ h
    have h2:0<=Z7G x l:=by omega
    have h3:=Zeo x l h2
    omega
  ·omega
end
theorem ZjI{l:Int}{f:Int->Int}(h:∀m,f m<=m):ifp l f<=l:=by
 unfold ifp;split
 ·exact h l
 ·exact Int.le_refl _
mutual
theorem Zis:∀(x:St)(l:Int),Z7G x l<=l
 | .mk _ n lc _ x t e,l=>by
  simp only[Z7G]
  have h1:=heftL_le x (l-1-((n.length / 20:Nat):Int)-((lc.length / 20:Nat):Int))
  have h2:=ZjI (l:=heftL x (l-1-((n.length / 20:Nat):Int)-((lc.length / 20:Nat):Int))) (heftSL_le t)
  have h3:=ZjI (l:=ifp (heftL x (l-1-((n.length / 20:Nat):Int)-((lc.length / 20:Nat):Int))) (heftSL t)) (heftSL_le e)
  omega
theorem heftSL_le:∀(k:List St)(l:Int),heftSL k l<=l
 |[],l=>by simp only[heftSL];omega
 |x::k,l=>by
  simp only[heftSL]
  split
  ·have:=heftSL_le k (Z7G x l);have:=Zis x l;omega
  ·omega
end
theorem ZaZ:∀(k:List St)(l:Int)(i:Nat)(h:i<k.length),heftSL (k.take (i+1)) l=if 0<=heftSL (k.take i) l then Z7G k[i] (heftSL (k.take i) l) else heftSL (k.take i) l
 |e::k,l,0,h=>by simp only[Y03,Y02,heftSL,Y09]
 |e::k,l,i+1,h=>by
  have ih:=λl=>ZaZ k l i (by simpa using h)
  simp only[Y03,heftSL,Y08]at ih⊢
  split
  ·exact ih _
  ·rename_i h2;simp[h2]
theorem Z7F:∀(k:List St)(l:Int)(i:Nat),heftSL (k.take i) l<0->heftSL k l=heftSL (k.take i) l
 |[],l,i,h=>by simp[heftSL]
 |e::k,l,0,h=>by
  simp only[Y02,heftSL]at *
  rw[if_neg (by omega)]
 |e::k,l,i+1,h=>by
  simp only[Y03,heftSL]at *
  split
  · rename_i hl
    rw[if_pos hl]at h
    exact Z7F k _ i h
  ·rfl
theorem Zne(s:St)(rest:List AV):tk 1 ((s.cells++rest).drop 2)=some [.str s.loc]:=by
 obtain⟨k,n,l,o,x,t,e⟩:=s
 simp only[St.cells,St.loc];rfl
theorem Zdl:∀(n:Nat)(l:List St)(a:Int),sizeSL l<=n->okSL l->l.length<=9223372036854775807->0<=a->a<=1048576->Z0k Y00 gl 44 [stA l,.int .i64 a] (.int .i64 (heftSL l a))
 |n,l,a,h,hok,hl,ha0,ha1=>by
  obtain⟨O,hO,p1,p2,-⟩:=fams (P:=Y00) (gl:=gl) [{ I:=List St×Int,f:=44,G:=λp=>sizeSL p.1<n/\okSL p.1/\p.1.length<=9223372036854775807/\0<=p.2/\p.2<=1048576,A:=λp=>[stA p.1,.int .i64 p.2],R:=λp=>.int .i64 (heftSL p.1 p.2),body:=(by kernel_rfl),inj:=(λi j _ _ h=>by simp only[List.cons.injEq,AV.int.injEq,and_true,true_and]at h;rw[Z3R h.1,h.2]),ok:=(λp hp=>⟨rfl,match n,hp.1 with|n+1,h=>Zdl n p.1 p.2 (by omega) hp.2.1 hp.2.2.1 hp.2.2.2.1 hp.2.2.2.2⟩) },
   { I:=Ex×Int,f:=45,G:=λp=>okE p.1/\0<=p.2/\p.2<=1048576,A:=λp=>[.agg p.1.cells,.int .i64 p.2],R:=λp=>.int .i64 (Z4A p.1 p.2),body:=(by kernel_rfl),inj:=(λi j _ _ h=>by simp only[List.cons.injEq,AV.agg.injEq,AV.int.injEq,and_true,true_and]at h;rw[Z46 _ _ h.1,h.2]),ok:=(λp hp=>⟨by have:=Zgf p.1;simpa[refsL,refs]using this,ZfU _ p.1 p.2 (Y07 _) hp.1 hp.2.1 hp.2.2⟩) }] rfl
  have q1:∀x a,sizeSL x<n->okSL x->x.length<=9223372036854775807->0<=a->a<=1048576->∀H,Z08 Y00 O H 44 [stA x,.int .i64 a]=some (.int .i64 (heftSL x a),H):=λx a h1 h2 h3 h4 h5=>p1 (x,a) ⟨h1,h2,h3,h4,h5⟩
  have q2:∀k a,okE k->0<=a->a<=1048576->∀H,Z08 Y00 O H 45 [.agg k.cells,.int .i64 a]=some (.int .i64 (Z4A k a),H):=λk a h1 h2 h3=>p2 (k,a) ⟨h1,h2,h3⟩
  clear p1 p2
  simp only[stA]at q1⊢
  refine Z0C follows Z0x hO Tryd.func44 rfl ?_
  repeat' ((conv=>whnf);first|refine stp ?_|with_reducible apply Z03<;>intro h)
  conv=>whnf
  refine⟨Nat,(λi=>i<=l.length),(λi=>[(0,.rs l.length 7 (stC l)),(1,.int .i64 (heftSL (l.take i) a)),(5,.int .i64 i)]),(λ_=>[]),(λi=>l.length-i),⟨0,Y05 _,Y06 rfl ?_⟩,?_⟩
  ·simp only[Y02,heftSL];exact wks
  intro i hi
  dsimp only
  have hle:=heftSL_le (l.take i) a
  by_cases hlt:i<l.length
  · have e1:decide ((i:Int)<(l.length:Int))=true:=by simpa using hlt
    by_cases hpos:0<=heftSL (l.take i) a
    · have e2:decide (heftSL (l.take i) a >= 0)=true:=by simpa using hpos
      have hs:=ZaZ l a i hlt
      rw[if_pos hpos,Zit]at hs
      have hsz:=Z19 _ _ (Z0c hlt)
      have hse:=Z6K l[i]
      have hx1:tk 1 (((stC l).drop (i*7)).drop 1)=some [.str l[i].name]:=by rw[Z3Q l i hlt];exact Znd _ _
      have hx2:tk 1 (((stC l).drop (i*7)).drop 2)=some [.str l[i].loc]:=by rw[Z3Q l i hlt];exact Zne _ _
      have hx4:tk 1 (((stC l).drop (i*7)).drop 4)=some [exA l[i].exprs]:=by rw[Z3Q l i hlt];exact ZjU _ _
      have hx5:tk 1 (((stC l).drop (i*7)).drop 5)=some [stA l[i].thn]:=by rw[Z3Q l i hlt];exact ZjV _ _
      have hx6:tk 1 (((stC l).drop (i*7)).drop 6)=some [stA l[i].els]:=by rw[Z3Q l i hlt];exact ZjW _ _
      obtain⟨k1,k2,k3,k4,k5,k6,k7,k8⟩:=Z38 (Z1Q hok _ (Z0c hlt))
      have qt:=λa=>q1 l[i].thn a (by omega) k7 k4
      have qe:=λa=>q1 l[i].els a (by omega) k8 k5
      clear q1
      generalize (heftSL (l.take i) a)=b at *
      generalize l[i]=x at *
      obtain⟨kind,name,loc,order,exprs,thn,els⟩:=x
      simp only[St.name,St.loc,St.exprs,St.thn,St.els,exA,stA]at *
      clear hsz hse
      have q20:Int.tdiv (name.length:Int) 20=((name.length / 20:Nat):Int):=rfl
      have q21:Int.tdiv (loc.length:Int) 20=((loc.length / 20:Nat):Int):=rfl
      have w1:IntKind.i64.wrap (b-1)=b-1:=Z4Q (by omega) (by omega)
      have w2:IntKind.i64.wrap (Int.tdiv (name.length:Int) 20)=((name.length / 20:Nat):Int):=by rw[q20];exact Z4Q (by omega) (by omega)
      have w2':IntKind.i64.wrap (Int.tdiv (loc.length:Int) 20)=((loc.length / 20:Nat):Int):=by rw[q21];exact Z4Q (by omega) (by omega)
      have w3:IntKind.i64.wrap (b-1-((name.length / 20:Nat):Int))=b-1-((name.length / 20:Nat):Int):=Z4Q (by omega) (by omega)
      have w4:IntKind.i64.wrap (b-1-((name.length / 20:Nat):Int)-((loc.length / 20:Nat):Int))=b-1-((name.length / 20:Nat):Int)-((loc.length / 20:Nat):Int):=Z4Q (by omega) (by omega)
      repeat' ((conv=>whnf);first|(with_reducible refine exW w1 ?_)|(refine Y01 (show (20:Int)≠0 by decide) ?_)|(rw[w2])|(rw[w2'])|(with_reducible refine exW w3 ?_)|(with_reducible refine exW w4 ?_)|(with_reducible refine ixJ i rfl ?_ ?_;focus omega)|refine exI hx1 ?_|refine exI hx2 ?_|refine stp ?_|with_reducible apply Z03<;>intro h)
      conv=>whnf
      have hb0:b-1-((name.length / 20:Nat):Int)-((loc.length / 20:Nat):Int)<=1048576:=by omega
      clear w1 w2 w2' w3 w4
      generalize hl0:b-1-((name.length / 20:Nat):Int)-((loc.length / 20:Nat):Int)=l0 at *
      refine⟨Nat,(λk=>k<=exprs.length),(λk=>[(0,.rs l.length 7 (stC l)),(1,.int .i64 (heftL (exprs.take k) l0)),(5,.int .i64 i),(6,.int .i64 k)]),(λ_=>[]),(λk=>exprs.length-k),⟨0,Y05 _,Y06 rfl ?_⟩,?_⟩
      ·simp only[Y02,heftL];exact wks
      intro k hk
      dsimp only
      have hke:=heftL_le (exprs.take k) l0
      have fin:∀v,heftL exprs l0=v->∃w,True:=λ_ _=>⟨(),trivial⟩
      by_cases hkt:k<exprs.length
      · have e3:decide ((k:Int)<(exprs.length:Int))=true:=by simpa using hkt
        by_cases hp2:0<=heftL (exprs.take k) l0
        · have e4:decide (heftL (exprs.take k) l0 >= 0)=true:=by simpa using hp2
          have hy:=ex4 exprs k hkt
          have hat:=Z9L exprs l0 k hkt
          rw[if_pos hp2]at hat
          have qk:=q2 exprs[k] (heftL (exprs.take k) l0) (Z2n k6 _ (Z0c hkt)) hp2 (by omega)
          generalize exprs[k]=y at *
          repeat' ((conv=>whnf);first|with_reducible refine exI (qk _) ?_|(with_reducible refine ixJ i rfl ?_ ?_;focus omega)|(with_reducible refine ixJ k rfl ?_ ?_;focus omega)|refine exI hx4 ?_|refine exI hy ?_|refine exI (qk _) ?_|refine stp ?_|with_reducible apply Z03<;>intro h)
          conv=>whnf
          refine⟨k+1,hkt,by show exprs.length-(k+1)<exprs.length-k;omega,Y06 rfl ?_⟩
          rw[hat];exact wks
        · have e4:decide (heftL (exprs.take k) l0 >= 0)=false:=by simpa using hp2
          have hst:=Z5Q exprs l0 k (by omega)
          rw[hst]at hs
          simp only[ifp,if_neg hp2]at hs
          repeat' ((conv=>whnf);first|(with_reducible refine ixJ i rfl ?_ ?_;focus omega)|refine exI hx4 ?_|refine stp ?_|with_reducible apply Z03<;>intro h)
          conv=>whnf
          refine⟨i+1,hlt,by show l.length-(i+1)<l.length-i;omega,Y06 rfl ?_⟩
          rw[hs];exact wks
      · have e3:decide ((k:Int)<(exprs.length:Int))=false:=by simpa using hkt
        have hk2:k=exprs.length:=by have:=hk;omega
        subst hk2
        rw[Y04]at hke⊢
        generalize heftL exprs l0=l1 at *
        by_cases hp2:0<=l1
        · have e4:decide (l1 >= 0)=true:=by simpa using hp2
          simp only[ifp,if_pos hp2]at hs
          have qt1:=qt l1 hp2 (by omega)
          have ht1:=heftSL_le thn l1
          generalize heftSL thn l1=l2 at *
          by_cases hp3:0<=l2
          · have e5:decide (l2 >= 0)=true:=by simpa using hp3
            simp only[if_pos hp3]at hs
            have qe1:=qe l2 hp3 (by omega)
            generalize heftSL els l2=l3 at *
            repeat' ((conv=>whnf);first|(with_reducible refine ixJ i rfl ?_ ?_;focus omega)|refine exI hx4 ?_|refine exI hx5 ?_|refine exI hx6 ?_|refine exI (qt1 _) ?_|refine exI (qe1 _) ?_|refine stp ?_|with_reducible apply Z03<;>intro h)
            conv=>whnf
            refine⟨i+1,hlt,by show l.length-(i+1)<l.length-i;omega,Y06 rfl ?_⟩
            rw[hs];exact wks
          · have e5:decide (l2 >= 0)=false:=by simpa using hp3
            simp only[if_neg hp3]at hs
            repeat' ((conv=>whnf);first|(with_reducible refine ixJ i rfl ?_ ?_;focus omega)|refine exI hx4 ?_|refine exI hx5 ?_|refine exI hx6 ?_|refine exI (qt1 _) ?_|refine stp ?_|with_reducible apply Z03<;>intro h)
            conv=>whnf
            refine⟨i+1,hlt,by show l.length-(i+1)<l.length-i;omega,Y06 rfl ?_⟩
            rw[hs];exact wks
        · have e4:decide (l1 >= 0)=false:=by simpa using hp2
          simp only[ifp,if_neg hp2]at hs
          repeat' ((conv=>whnf);first|(with_reducible refine ixJ i rfl ?_ ?_;focus omega)|refine exI hx4 ?_|refine stp ?_|with_reducible apply Z03<;>intro h)
          conv=>whnf
          refine⟨i+1,hlt,by show l.length-(i+1)<l.length-i;omega,Y06 rfl ?_⟩
          rw[hs];exact wks
    · have e2:decide (heftSL (l.take i) a >= 0)=false:=by simpa using hpos
      have hst:=Z7F l a i (by omega)
      rw[hst]
      repeat' ((conv=>whnf);first|refine stp ?_|with_reducible apply Z03<;>intro h)
      all_goals rfl
  · have e1:decide ((i:Int)<(l.length:Int))=false:=by simpa using hlt
    have hi2:i=l.length:=by have:=hi;omega
    subst hi2
    rw[Y04]
    repeat' ((conv=>whnf);first|refine stp ?_|with_reducible apply Z03<;>intro h)
    all_goals rfl
end
section
variable {gl:Glob}
def Z1Y:List Dc->Int->Int
 |[],l=>l
 |x::k,l=>if 0<=l then Z1Y k (l-(x.name.length / 20:Nat)) else l
def Z0M:List (List St)->Int->Int
 |[],l=>l
 |x::k,l=>if 0<=l then Z0M k (heftSL x l) else l
def lightP(p:Pr)(m:Int):Bool:=decide (0<=Z0M p.threads (Z1Y p.decls (m-min (m+1) (p.decls.length:Int)-min (m+1) (p.threads.length:Int))))
theorem Z6T:∀(k:List Dc)(l:Int),Z1Y k l<=l
 |[],l=>by simp only[Z1Y];omega
 |x::k,l=>by
  simp only[Z1Y]
  split
  ·have:=Z6T k (l-(x.name.length / 20:Nat));omega
  ·omega
theorem Z7E:∀(k:List (List St))(l:Int),Z0M k l<=l
 |[],l=>by simp only[Z0M];omega
 |x::k,l=>by
  simp only[Z0M]
  split
  ·have:=Z7E k (heftSL x l);have:=heftSL_le x l;omega
  ·omega
theorem Z7D:∀(k:List (List St))(l:Int),0<=Z0M k l->(Z0j k:Int)+Z0M k l<=l
 |[],l,h=>by simp only[Z0M,Z0j]at *;omega
 |x::k,l,h=>by
  simp only[Z0M,Z0j]at *
  split at h
  · rename_i hl
    rw[if_pos hl]
    have h1:=Z7D k _ h
    have h2:0<=heftSL x l:=by omega
    have h3:=heftSL_size x l h2
    omega
  ·omega
theorem Zcf(p:Pr)(m:Nat)(h:lightP p m=true):Z0j p.threads<=m:=by
 simp only[lightP,decide_eq_true_eq]at h
 have h1:=Z7D _ _ h
 have h2:=Z6T p.decls ((m:Int)-min ((m:Int)+1) (p.decls.length:Int)-min ((m:Int)+1) (p.threads.length:Int))
 omega
theorem Zdm:∀(k:List Dc)(l:Int)(i:Nat)(h:i<k.length),Z1Y (k.take (i+1)) l=if 0<=Z1Y (k.take i) l then Z1Y (k.take i) l-(k[i].name.length / 20:Nat) else Z1Y (k.take i) l
 |e::k,l,0,h=>by simp only[Y03,Y02,Z1Y,Y09]
 |e::k,l,i+1,h=>by
  have ih:=λl=>Zdm k l i (by simpa using h)
  simp only[Y03,Z1Y,Y08]at ih⊢
  split
  ·exact ih _
  ·rename_i h2;simp[h2]
theorem Z8U:∀(k:List Dc)(l:Int)(i:Nat),Z1Y (k.take i) l<0->Z1Y k l=Z1Y (k.take i) l
 |[],l,i,h=>by simp[Z1Y]
 |e::k,l,0,h=>by
  simp only[Y02,Z1Y]at *
  rw[if_neg (by omega)]
 |e::k,l,i+1,h=>by
  simp only[Y03,Z1Y]at *
  split
  · rename_i hl
    rw[if_pos hl]at h
    exact Z8U k _ i h
  ·rfl
theorem ZaY:∀(k:List (List St))(l:Int)(i:Nat)(h:i<k.length),Z0M (k.take (i+1)) l=if 0<=Z0M (k.take i) l then heftSL k[i] (Z0M (k.take i) l) else Z0M (k.take i) l
 |e::k,l,0,h=>by simp only[Y03,Y02,Z0M,Y09]
 |e::k,l,i+1,h=>by
  have ih:=λl=>ZaY k l i (by simpa using h)
  simp only[Y03,Z0M,Y08]at ih⊢
  split
  ·exact ih _
  ·rename_i h2;simp[h2]
theorem Z7C:∀(k:List (List St))(l:Int)(i:Nat),Z0M (k.take i) l<0->Z0M k l=Z0M (k.take i) l
 |[],l,i,h=>by simp[Z0M]
 |e::k,l,0,h=>by
  simp only[Y02,Z0M]at *
  rw[if_neg (by omega)]
 |e::k,l,i+1,h=>by
  simp only[Y03,Z0M]at *
  split
  · rename_i hl
    rw[if_pos hl]at h
    exact Z7C k _ i h
  ·rfl
theorem ZaS(p:Pr)(m:Int)(hok:okP p)(hm0:0<=m)(hm1:m<=1048576):Z0k Y00 gl 13 [p.av,.int .i64 m] (.bool (lightP p m)):=by
 obtain⟨⟨hd1,hd2⟩,ht1,ht2⟩:=hok
 obtain⟨O,hO,p1,-⟩:=fams (P:=Y00) (gl:=gl) [{ I:=List St×Int,f:=44,G:=λq=>okSL q.1/\q.1.length<=9223372036854775807/\0<=q.2/\q.2<=1048576,A:=λq=>[stA q.1,.int .i64 q.2],R:=λq=>.int .i64 (heftSL q.1 q.2),body:=(by kernel_rfl),inj:=(λi j _ _ h=>by simp only[List.cons.injEq,AV.int.injEq,and_true,true_and]at h;rw[Z3R h.1,h.2]),ok:=(λq hq=>⟨rfl,Zdl _ q.1 q.2 (Y07 _) hq.1 hq.2.1 hq.2.2.1 hq.2.2.2⟩) }] rfl
 have q1:∀x a,okSL x->x.length<=9223372036854775807->0<=a->a<=1048576->∀H,Z08 Y00 O H 44 [stA x,.int .i64 a]=some (.int .i64 (heftSL x a),H):=λx a h1 h2 h3 h4=>p1 (x,a) ⟨h1,h2,h3,h4⟩
 clear p1
 obtain⟨ds,ts⟩:=p
 simp only[Pr.av,lightP]at *
 have w1:IntKind.i64.wrap (m+1)=m+1:=Z4Q (by omega) (by omega)
 have hl0:m-(if (ds.length:Int)<m+1 then (ds.length:Int) else m+1)-(if (ts.length:Int)<m+1 then (ts.length:Int) else m+1)=m-min (m+1) (ds.length:Int)-min (m+1) (ts.length:Int):=by
  rw[Int.min_def,Int.min_def];split<;>split<;>split<;>split<;>omega
 generalize m-min (m+1) (ds.length:Int)-min (m+1) (ts.length:Int)=l0 at *
 have hlm:l0<=1048576:=by omega
 have hlm2 : -9000000000000000000<=l0:=by omega
 refine Z0C follows Z0x hO Tryd.func13 rfl ?_
 repeat' ((conv=>whnf);first|(with_reducible refine exW w1 ?_)|refine stp ?_|with_reducible apply Z03<;>intro h)
 conv=>whnf
 rw[hl0]
 refine⟨Nat,(λi=>i<=ds.length),(λi=>[(2,.ptr 0 0),(5,.int .i64 (Z1Y (ds.take i) l0)),(6,.int .i64 i)]),(λ_=>[⟨true,0,0,.cells [.rs ds.length 3 (dcC ds),.rs ts.length 1 (ts.map stA)] 25⟩]),(λi=>ds.length-i),⟨0,Y05 _,Y0c [0] rfl ?_ ⟨hbp,trivial⟩ rfl⟩,?_⟩
 ·simp only[Y02,Z1Y];exact wks
 intro i hi
 dsimp only
 have hle:=Z6T (ds.take i) l0
 by_cases hc:i<ds.length/\0<=Z1Y (ds.take i) l0
 · obtain⟨hlt,hpos⟩:=hc
   have e1:decide ((i:Int)<(ds.length:Int))=true:=by simpa using hlt
   have e2:decide (Z1Y (ds.take i) l0 >= 0)=true:=by simpa using hpos
   have hs:=Zdm ds l0 i hlt
   rw[if_pos hpos]at hs
   have hxn:=dcn ds i hlt
   have hln:=hd2 _ (Z0c hlt)
   generalize Z1Y (ds.take i) l0=b at *
   generalize ds[i]=d at *
   obtain⟨name,pl,vl⟩:=d
   simp only at *
   have q20:Int.tdiv (name.length:Int) 20=((name.length / 20:Nat):Int):=rfl
   have w2:IntKind.i64.wrap (Int.tdiv (name.length:Int) 20)=((name.length / 20:Nat):Int):=by rw[q20];exact Z4Q (by omega) (by omega)
   have w3:IntKind.i64.wrap (b-((name.length / 20:Nat):Int))=b-((name.length / 20:Nat):Int):=Z4Q (by omega) (by omega)
   repeat' ((conv=>whnf);first|(refine Y01 (show (20:Int)≠0 by decide) ?_)|(rw[w2])|(with_reducible refine exW w3 ?_)|(with_reducible refine ixJ i rfl ?_ ?_;focus omega)|refine exI hxn ?_|refine stp ?_|with_reducible apply Z03<;>intro h)
   conv=>whnf
   refine⟨i+1,hlt,by show ds.length-(i+1)<ds.length-i;omega,Y0c [0] rfl ?_ ⟨hbp,trivial⟩ rfl⟩
   rw[hs];exact wks
 · have hfin : Z1Y (ds.take i) l0 = Z1Y ds l0 := by
    by_cases hlt:i<ds.length
    ·exact (Z8U ds l0 i (by omega)).symm
    ·rw[List.take_of_length_le (by omega)]
   rw[hfin]at hc hle⊢
   generalize Z1Y ds l0=l1 at *
   obtain⟨b1,e1,hb⟩:∃b1,decide ((i:Int)<(ds.length:Int))=b1/\(b1=true->decide (l1 >= 0)=false):=⟨_,rfl,λh=>by simp only[decide_eq_true_eq,decide_eq_false_iff_not]at *;omega⟩
   have hb2:b1=false\/b1=true/\decide (l1 >= 0)=false:=by cases b1<;>simp_all
   clear hb
   rcases hb2 with rfl|⟨rfl,e2⟩
   all_goals
    repeat' ((conv=>whnf);first|refine stp ?_|with_reducible apply Z03<;>intro h)
    conv=>whnf
    refine⟨Nat,(λi=>i<=ts.length),(λi=>[(2,.ptr 0 0),(5,.int .i64 (Z0M (ts.take i) l1)),(7,.int .i64 i)]),(λ_=>[⟨true,0,0,.cells [.rs ds.length 3 (dcC ds),.rs ts.length 1 (ts.map stA)] 25⟩]),(λi=>ts.length-i),⟨0,Y05 _,Y0c [0] rfl ?_ ⟨hbp,trivial⟩ rfl⟩,?_⟩
    ·simp only[Y02,Z0M];exact wks
    clear e1
    try clear e2
    intro k hk
    dsimp only
    have hlk:=Z7E (ts.take k) l1
    by_cases hkt:k<ts.length
    · have e1:decide ((k:Int)<(ts.length:Int))=true:=by simpa using hkt
      by_cases hpos:0<=Z0M (ts.take k) l1
      · have e2:decide (Z0M (ts.take k) l1 >= 0)=true:=by simpa using hpos
        have hs:=ZaY ts l1 k hkt
        rw[if_pos hpos]at hs
        have hx:=th1 ts k hkt
        have hok:=Z2H ht1 _ (Z0c hkt)
        have q2:=q1 ts[k] (Z0M (ts.take k) l1) hok.1 hok.2 hpos (by omega)
        generalize Z0M (ts.take k) l1=b at *
        generalize ts[k]=t at *
        simp only[stA]at hx q2
        repeat' ((conv=>whnf);first|with_reducible refine exI (q2 _) ?_|(with_reducible refine ixJ k rfl ?_ ?_;focus omega)|refine exI hx ?_|refine stp ?_|with_reducible apply Z03<;>intro h)
        conv=>whnf
        refine⟨k+1,hkt,by show ts.length-(k+1)<ts.length-k;omega,Y0c [0] rfl ?_ ⟨hbp,trivial⟩ rfl⟩
        rw[hs];exact wks
      · have e2:decide (Z0M (ts.take k) l1 >= 0)=false:=by simpa using hpos
        have hst:=Z7C ts l1 k (by omega)
        rw[hst]
        repeat' ((conv=>whnf);first|refine stp ?_|with_reducible apply Z03<;>intro h)
        all_goals rfl
    · have e1:decide ((k:Int)<(ts.length:Int))=false:=by simpa using hkt
      have hk2:k=ts.length:=by have:=hk;omega
      subst hk2
      rw[Y04]
      repeat' ((conv=>whnf);first|refine stp ?_|with_reducible apply Z03<;>intro h)
      all_goals rfl
end
end Go.Proofs.YtajhailaofchlaaDoor.lex
section
namespace Go.Abs
open Go.RowKit Go.ChangeShapes Go.WideShapes Go.ChangeAt
def OpensB(P:Program)(N:Nat)(t:TypeId)(Q:List AV->Prop):Prop :=
 ∀(H:Type)(enc:TypeId×Value->H)(W:World)(fuel:Nat)(cs:List Value)(x:DataW H×List MemPlace),fuel<=N->DataW.trod enc P W 0 (λ_=>true) true fuel t cs=some x->∃us,Q us/\LR (Z2j W) noI us cs
section opens
variable {P:Program}
theorem OpensB.mono{N:Nat}{t:TypeId}{Q Q':List AV->Prop}(h:OpensB P N t Q)(hq:∀u,Q u->Q' u):OpensB P N t Q':=λH enc W fuel cs x hN hx=>let ⟨u,h1,h2⟩:=h H enc W fuel cs x hN hx;⟨u,hq _ h1,h2⟩
theorem OpensB.of{N:Nat}{t:TypeId}{Q:List AV->Prop}(h:Z69 P t Q):OpensB P N t Q:=λH enc W fuel cs x _ hx=>h H enc W fuel cs x hx
theorem OpensB.all{t:TypeId}{Q:List AV->Prop}(h:∀N,OpensB P N t Q):Z69 P t Q:=λH enc W fuel cs x hx=>h fuel H enc W fuel cs x (Y07 _) hx
theorem Z3p{t:TypeId}{Q:List AV->Prop}:OpensB P 0 t Q:=λH enc W fuel cs x hN hx=>by
 obtain rfl:fuel=0:=by omega
 simp[DataW.trod]at hx
theorem Z6j {N : Nat} {t e : TypeId} {z : Nat} {Q : List AV -> Prop} (ht : P.underlying t = some (.slice e)) (hz : P.cellsOf e = z) (hz0 : z ≠ 0) (he : OpensB P N e Q) :
  OpensB P (N+1) t λus=>∃l:List (List AV),(∀u∈l,Q u/\u.length=z)/\us=[.rs l.length z l.flatten]/\l.length<=maxLen:=by
 intro H enc W fuel cs x hN h
 rcases DataW.trod_slice ht h with ⟨rfl,_⟩|⟨a,len,cap,els,rest,n,hfu,rfl,_,_,hlc,hcm,hl,hel,hrest⟩
 ·exact⟨_,⟨[],by simp,rfl,by simp⟩,by simp[LR,VR]⟩
 · rw[hz]at hel
   have each:∀i,i<len->∃ (vs:List Value) (u:List AV),W.cells? 0 (a.add (i*z)) z=some vs/\Q u/\LR (Z2j W) noI u vs:=by
    intro i hi
    have h1:=hel i hi
    have h2:els[i]? = some els[i]:=Y0d (by omega)
    rw[h2]at h1
    simp only[Option.bind_eq_some_iff]at h1
    obtain⟨vs,h3,h4⟩:=h1
    obtain⟨u,h5,h6⟩:=he H enc W n vs _ (by omega) h4
    exact⟨vs,u,h3,h5,h6⟩
   have hex:∃ (l:List (List AV)) (vss:List (List Value)),l.length=len/\vss.length=len/\∀i,i<len->∃vs u,l[i]? = some u/\vss[i]? = some vs/\W.cells? 0 (a.add (i*z)) z=some vs/\Q u/\LR (Z2j W) noI u vs:=by
    clear hel hl h hlc hcm hrest
    induction len with
    |zero=>exact⟨[],[],rfl,rfl,λi hi=>by omega⟩
    |succ m ih =>
     obtain⟨l,vss,h1,h2,h3⟩:=ih λi hi=>each i (by omega)
     obtain⟨vs,u,g1,g2,g3⟩:=each m (by omega)
     refine⟨l++[u],vss++[vs],by simp[h1],by simp[h2],λi hi=>?_⟩
     by_cases e:i=m
     · subst e
       exact⟨vs,u,by simp[<- h1],by simp[<- h2],g1,g2,g3⟩
     · obtain⟨vs',u',k1,k2,k3⟩:=h3 i (by omega)
       exact⟨vs',u',by rw[List.getElem?_append_left (by omega)];exact k1,by rw[List.getElem?_append_left (by omega)];exact k2,k3⟩
   obtain⟨l,vss,h1,h2,h3⟩:=hex
   have hll:∀u∈l,Q u/\u.length=z:=by
    intro u hu
    obtain⟨i,hi,rfl⟩:=List.mem_iff_getElem.1 hu
    obtain⟨vs,u',k1,k2,k3,k4,k5⟩:=h3 i (by omega)
    rw[Y0d hi]at k1;simp at k1
    rw[k1]
    exact⟨k4,by rw[<- k5.length,(cells?_get k3).1]⟩
   refine⟨_,⟨l,hll,rfl,by omega⟩,?_⟩
   simp only[LR]
   refine⟨_,_,rfl,?_,rfl⟩
   simp only[VR]
   have hfl:l.flatten.length=l.length*z:=by
    clear h1 h3
    induction l with
    |nil=>simp
    |cons u l ih=>simp only[Y0q,Y0B,Y0k,(hll u (by simp)).2,ih λv hv=>hll v (by simp[hv])];rw[Nat.add_mul];omega
   have hspot:len≠0->a.spot=none:=by
    intro h0
    obtain⟨vs,u,k1,k2,k3,k4,k5⟩:=h3 0 (by omega)
    obtain⟨g1,g2⟩:=cells?_get k3
    have:W.cell? ((a.add (0*z)).add 0)=some vs[0]:=g2 0 _ (Y0d (by omega))
    rw[Y0v]at this
    simpa[Addr.add]using World.cell?_spot this
   refine .inr ⟨a,cap,by rw[h1],by omega,hfl,Z2o λk u hu=>?_,λh0=>hspot (by rw[<- h1];exact h0)⟩
   obtain⟨x',g1,g2⟩:=Z5T hz0 (λu hu=>(hll u hu).2) hu
   have hklt:k / z<len:=by rw[<- h1];exact (Y0l.1 g1).1
   obtain⟨vs,u',k1,k2,k3,k4,k5⟩:=h3 (k / z) hklt
   rw[g1]at k1;simp at k1;subst k1
   obtain⟨v,e1,e2⟩:=k5.get g2
   refine⟨v,?_,e2⟩
   have hc:=(cells?_get k3).2 _ _ e1
   rw[Z8a a (hspot (Nat.ne_of_gt (Nat.lt_of_le_of_lt (Y05 _) hklt)))]at hc
   have hk:a.off+k / z*z+k % z=a.off+k:=by rw[Nat.add_assoc,Nat.mul_comm,Nat.div_add_mod]
   rw[hk]at hc
   unfold Z2j
   have hlt:a.block<W.heap.size:=by
    cases hq:W.heap[a.block]? with
    |none=>unfold World.cell? at hc;simp only[hq]at hc;cases hc
    |some ob=>exact (Array.getElem?_eq_some_iff.1 hq).1
   rw[if_pos (by exact hlt)];exact hc
def Z2T(P:Program)(N:Nat):List Field->List (List AV->Prop)->Nat->Nat->Prop
 |[],[],off,tot=>off=tot
 |f::fs,Q::Qs,off,tot=>f.offset=off/\OpensB P N f.type Q/\Z2T P N fs Qs (off+P.cellsOf f.type) tot
 |_,_,_,_=>False
theorem ZaG {N : Nat} {H : Type} {enc : TypeId × Value -> H} {W : World} {n tot : Nat} {cs : List Value} (hcs : cs.length = tot) (hN : n <= N) : ∀ {fs : List Field} {Qs : List (List AV -> Prop)} {xs : List (DataW H × List MemPlace)} {off : Nat}, Z2T P N fs Qs off tot -> xs.length = fs.length -> off <= tot ->
  (∀(i:Nat)(f:Field),fs[i]? = some f->DataW.trod enc P W 0 (λ_=>true) true n f.type ((cs.drop f.offset).take (P.cellsOf f.type))=xs[i]?)->∃us,FsQ Qs us/\LR (Z2j W) noI us (cs.drop off)
 |[],[],xs,off,h,hl,ho,hx=>by
  have:off=tot:=h
  subst this
  exact⟨[],rfl,by simp[LR,<- hcs]⟩
 |f::fs,Q::Qs,xs,off,h,hl,ho,hx=>by
  obtain⟨h1,h2,h3⟩:=h
  cases xs with
  |nil=>simp at hl
  |cons x xs =>
   have h0:=hx 0 f rfl
   simp only[List.getElem?_cons_zero]at h0
   obtain⟨u,q1,q2⟩:=h2 H enc W n _ _ hN h0
   have hle:∀(fs:List Field)(Qs:List (List AV->Prop))(o:Nat),Z2T P N fs Qs o tot->o<=tot:=by
    intro fs
    induction fs with
    |nil=>intro Qs o h;cases Qs with|nil=>exact Nat.le_of_eq h|cons _ _=>exact h.elim
    |cons g gs ih=>intro Qs o h;cases Qs with|nil=>exact h.elim|cons _ _=>have:=ih _ _ h.2.2;omega
   obtain⟨us,q3,q4⟩:=ZaG hcs hN h3 (by simpa using hl) (hle _ _ _ h3) λi g hg=>by simpa using hx (i+1) g (by simpa using hg)
   refine⟨u++us,⟨u,us,rfl,q1,q3⟩,?_⟩
   rw[h1]at q2
   have:=q2.append q4
   rwa [<- Y0u,List.take_append_drop]at this
 |[],_::_,xs,off,h,hl,ho,hx=>h.elim
 |_::_,[],xs,off,h,hl,ho,hx=>h.elim
theorem Z5a{N:Nat}{t:TypeId}{fs:Array Field}{Qs:List (List AV->Prop)}(ht:P.underlying t=some (.struct fs))(h:Z2T P N fs.toList Qs 0 (P.cellsOf t)):OpensB P (N+1) t (FsQ Qs):=by
 intro H enc W fuel cs x hN hx
 obtain⟨xs,n,hfu,_,hl,hlen,hf⟩:=DataW.trod_struct ht hx
 obtain⟨us,h1,h2⟩:=ZaG hl (by omega) h (by simpa using hlen) (Y05 _) λi f hi=>hf i f (by simpa using hi)
 exact⟨us,h1,by simpa using h2⟩
end opens
end Go.Abs
end
namespace Go.Proofs.YtajhailaofchlaaDoor.lex
open Go.Abs Go.RowKit
section
def QE(us:List AV):Prop:=∃e:Ex,us=e.cells/\okE e
def QEL(us:List AV):Prop:=∃l:List Ex,us=[exA l]/\okL l/\l.length<=maxLen
def QI(us:List AV):Prop:=∃n,us=[.int .i64 n]/\(Lit.int .i64 n).wf=true
def QB(us:List AV):Prop:=∃b,us=[.bool b]
def QT(us:List AV):Prop:=∃s:List UInt8,us=[.str s]/\s.length<=maxLen
def QS(us:List AV):Prop:=∃e:St,us=e.cells/\okS e
def QSL(us:List AV):Prop:=∃l:List St,us=[stA l]/\okSL l/\l.length<=maxLen
def QTL(us:List AV):Prop:=∃l:List (List St),us=[.rs l.length 1 (l.map stA)]/\ZfE l/\l.length<=maxLen
def QD(us:List AV):Prop:=∃d:Dc,us=d.cells/\d.name.length<=9223372036854775807
def QDL(us:List AV):Prop:=∃l:List Dc,us=[.rs l.length 3 (dcC l)]/\okD l
theorem Zgg:∀l:List (List AV),(∀u∈l,QE u/\u.length=4)->∃m:List Ex,l.flatten=exC m/\l.length=m.length/\okL m
 |[],_=>⟨[],by simp only[exC,Y0x],rfl,trivial⟩
 |u::l,h=>by
  obtain⟨m,h1,h2,h3⟩:=Zgg l λv hv=>h v (by simp[hv])
  obtain⟨⟨e,rfl,h4⟩,_⟩:=h u (by simp)
  exact⟨e::m,by simp only[Y0q,exC,h1],by simp[h2],by simp only[okL];exact⟨h4,h3⟩⟩
theorem Zff:∀l:List (List AV),(∀u∈l,QS u/\u.length=7)->∃m:List St,l.flatten=stC m/\l.length=m.length/\okSL m
 |[],_=>⟨[],by simp only[stC,Y0x],rfl,trivial⟩
 |u::l,h=>by
  obtain⟨m,h1,h2,h3⟩:=Zff l λv hv=>h v (by simp[hv])
  obtain⟨⟨e,rfl,h4⟩,_⟩:=h u (by simp)
  exact⟨e::m,by simp only[Y0q,stC,h1],by simp[h2],by simp only[okSL];exact⟨h4,h3⟩⟩
theorem Zgw:∀l:List (List AV),(∀u∈l,QD u/\u.length=3)->∃m:List Dc,l.flatten=dcC m/\l.length=m.length/\∀d∈m,d.name.length<=9223372036854775807
 |[],_=>⟨[],by simp only[dcC,Y0x],rfl,by simp⟩
 |u::l,h=>by
  obtain⟨m,h1,h2,h3⟩:=Zgw l λv hv=>h v (by simp[hv])
  obtain⟨⟨e,rfl,h4⟩,_⟩:=h u (by simp)
  exact⟨e::m,by simp only[Y0q,dcC,h1],by simp[h2],λd hd=>by rcases Y0f.1 hd with rfl|hd;exact h4;exact h3 d hd⟩
theorem Zf9:∀l:List (List AV),(∀u∈l,QSL u/\u.length=1)->∃m:List (List St),l.flatten=m.map stA/\l.length=m.length/\ZfE m
 |[],_=>⟨[],by simp only[List.map_nil,Y0x],rfl,trivial⟩
 |u::l,h=>by
  obtain⟨m,h1,h2,h3⟩:=Zf9 l λv hv=>h v (by simp[hv])
  obtain⟨⟨e,rfl,h4,h5⟩,_⟩:=h u (by simp)
  exact⟨e::m,by simp only[Y0q,Y0h,h1];rfl,by simp[h2],by simp only[ZfE];exact⟨h4,h5,h3⟩⟩
theorem fsE(N:Nat)(h:OpensB Y00 N 27 QEL):Z2T Y00 N (match Y00.underlying 36 with|some (.struct fs)=>fs.toList|_=>[]) [QI,QI,QT,QEL] 0 (Y00.cellsOf 36):=by
 rw[Y0C]
 refine⟨rfl,.of (Z3V Y0D),?_⟩
 refine⟨by kernel_rfl,.of (Z3V Y0E),?_⟩
 refine⟨by kernel_rfl,.of (Z59 Y0r),?_⟩
 refine⟨by kernel_rfl,h,?_⟩
 unfold Z2T;kernel_rfl
theorem q_e{us:List AV}(h:FsQ [QI,QI,QT,QEL] us):QE us:=by
 obtain⟨a,u1,rfl,⟨n1,rfl,_⟩,b,u2,rfl,⟨n2,rfl,_⟩,c,u3,rfl,⟨s,rfl,hs⟩,d,u4,rfl,⟨k,rfl,hk,hkl⟩,h3⟩:=h
 have h3:u4=[]:=h3
 subst h3
 exact⟨.mk n1 n2 s k,by simp only[Ex.cells];rfl,by simp only[okE,okN];exact⟨⟨hs,hkl⟩,hk⟩⟩
theorem Zju:∀N,OpensB Y00 N 36 QE/\OpensB Y00 N 27 QEL
 |0=>⟨Z3p,Z3p⟩
 |N+1=>by
  obtain⟨h1,h2⟩:=Zju N
  have h3:=fsE N h2
  rw[Y0C]at h3
  refine⟨(Z5a Y0C h3).mono λu hu=>q_e hu,(Z6j Tryd.underlying27 (by kernel_rfl) (show (4:Nat)≠0 by decide) h1).mono ?_⟩
  rintro u ⟨l,hl,rfl,hll⟩
  obtain⟨m,e1,e2,e3⟩:=Zgg l hl
  exact⟨m,by rw[e1,e2];rfl,e3,by rw[<- e2];exact hll⟩
theorem fsS(N:Nat)(h:OpensB Y00 N 28 QSL):Z2T Y00 N (match Y00.underlying 30 with|some (.struct fs)=>fs.toList|_=>[]) [QI,QT,QT,QI,QEL,QSL,QSL] 0 (Y00.cellsOf 30):=by
 rw[Y0F]
 refine⟨rfl,.of (Z3V Y0D),?_⟩
 refine⟨by kernel_rfl,.of (Z59 Y0r),?_⟩
 refine⟨by kernel_rfl,.of (Z59 Y0r),?_⟩
 refine⟨by kernel_rfl,.of (Z3V Y0D),?_⟩
 refine⟨by kernel_rfl,(Zju N).2,?_⟩
 refine⟨by kernel_rfl,h,?_⟩
 refine⟨by kernel_rfl,h,?_⟩
 unfold Z2T;kernel_rfl
theorem q_s{us:List AV}(h:FsQ [QI,QT,QT,QI,QEL,QSL,QSL] us):QS us:=by
 obtain⟨a,u1,rfl,⟨n1,rfl,_⟩,b,u2,rfl,⟨s1,rfl,hs1⟩,c,u3,rfl,⟨s2,rfl,hs2⟩,d,u4,rfl,⟨n2,rfl,_⟩,e,u5,rfl,⟨x,rfl,hx,hxl⟩,f,u6,rfl,⟨t,rfl,ht,htl⟩,g,u7,rfl,⟨k,rfl,hk,hkl⟩,h3⟩:=h
 have h3:u7=[]:=h3
 subst h3
 exact⟨.mk n1 s1 s2 n2 x t k,by simp only[St.cells,stA];rfl,by simp only[okS,okN];exact⟨⟨hs1,hxl⟩,⟨hs2,htl⟩,hkl,hx,ht,hk⟩⟩
theorem Zjt:∀N,OpensB Y00 N 30 QS/\OpensB Y00 N 28 QSL
 |0=>⟨Z3p,Z3p⟩
 |N+1=>by
  obtain⟨h1,h2⟩:=Zjt N
  have h3:=fsS N h2
  rw[Y0F]at h3
  refine⟨(Z5a Y0F h3).mono λu hu=>q_s hu,(Z6j Tryd.underlying28 (by kernel_rfl) (show (7:Nat)≠0 by decide) h1).mono ?_⟩
  rintro u ⟨l,hl,rfl,hll⟩
  obtain⟨m,e1,e2,e3⟩:=Zff l hl
  exact⟨m,by rw[e1,e2];rfl,e3,by rw[<- e2];exact hll⟩
theorem fsD:Z3G Y00 (match Y00.underlying 53 with|some (.struct fs)=>fs.toList|_=>[]) [QT,QB,QI] 0 (Y00.cellsOf 53):=by
 rw[Y0G]
 refine⟨rfl,Z59 Y0r,?_⟩
 refine⟨by kernel_rfl,Zeg Tryd.underlying4,?_⟩
 refine⟨by kernel_rfl,Z3V Y0E,?_⟩
 unfold Z3G;kernel_rfl
theorem q_d{us:List AV}(h:FsQ [QT,QB,QI] us):QD us:=by
 obtain⟨a,u1,rfl,⟨s,rfl,hs⟩,b,u2,rfl,⟨n1,rfl⟩,c,u3,rfl,⟨n2,rfl,_⟩,h3⟩:=h
 have h3:u3=[]:=h3
 subst h3
 exact⟨⟨s,n1,n2⟩,rfl,hs⟩
theorem ZkE:Z69 Y00 22 QDL:=by
 have h3:=fsD
 rw[Y0G]at h3
 refine Z5H (Z7p Tryd.underlying22 (by kernel_rfl) (show (3:Nat)≠0 by decide) (Z5H (Z6i Y0G h3) λu hu=>q_d hu)) ?_
 rintro u ⟨l,hl,rfl,hll⟩
 obtain⟨m,e1,e2,e3⟩:=Zgw l hl
 exact⟨m,by rw[e1,e2],by rw[<- e2];exact hll,e3⟩
theorem ZkD:Z69 Y00 23 QTL:=by
 refine Z5H (Z7p Tryd.underlying23 (by kernel_rfl) (show (1:Nat)≠0 by decide) (OpensB.all λN=>(Zjt N).2)) ?_
 rintro u ⟨l,hl,rfl,hll⟩
 obtain⟨m,e1,e2,e3⟩:=Zf9 l hl
 exact⟨m,by rw[e1,e2],e3,by rw[<- e2];exact hll⟩
theorem fsP:Z3G Y00 (match Y00.underlying 25 with|some (.struct fs)=>fs.toList|_=>[]) [QDL,QTL] 0 (Y00.cellsOf 25):=by
 rw[Y0H]
 refine⟨rfl,ZkE,?_⟩
 refine⟨by kernel_rfl,ZkD,?_⟩
 unfold Z3G;kernel_rfl
theorem opensP:ZbF Y00 25 λu=>∃p:Pr,u=p.av/\okP p:=by
 have h3:=fsP
 rw[Y0H]at h3
 refine Zc8 (Z9D Y0H h3) ?_
 rintro u ⟨us,rfl,a,u1,rfl,⟨ds,rfl,hd⟩,b,u2,rfl,⟨ts,rfl,ht,htl⟩,h4⟩
 have h4:u2=[]:=h4
 subst h4
 exact⟨⟨ds,ts⟩,rfl,hd,ht,htl⟩
end
section
def Z1k(d e:Dc):Bool:=d.name==e.name&&(d.plain==e.plain&&(d.val==e.val&&true))
theorem tgT:Z3K Y00 9=some false:=by kernel_rfl
theorem tgB:Z3K Y00 4=some false:=by kernel_rfl
theorem tgI:Z3K Y00 2=some false:=by kernel_rfl
theorem feD:Z3w Y00 53=some [(9,0),(4,1),(2,2)]:=by kernel_rfl
theorem egD:Y00.eqGuardType Y00.depth 53=false:=by kernel_rfl
theorem ZoN(d e:Dc):ZcB Y00 53 [.str d.name,.bool d.plain,.int .i64 d.val] [.str e.name,.bool e.plain,.int .i64 e.val]=some (Z1k d e) :=
 Zjc egD feD (Za0 tgT rfl rfl (Zlr Y0r _ _) (Za0 tgB rfl rfl (ZiQ Tryd.underlying4 _ _) (Za0 tgI rfl rfl (Zls Y0E _ _) rfl)))
end
section
variable {gl:Glob}
def Ze6(p q:Pr):Bool:=Z2e Z1k p.decls q.decls&&Z2e sameSL p.threads q.threads
theorem ZmW(a b:List Dc)(ha:a.length<=9223372036854775807):Z0k Y00 gl 54 [.rs a.length 3 (dcC a),.rs b.length 3 (dcC b)] (.bool (Z2e Z1k a b)):=by
 obtain⟨O,hO,-⟩:=fams (P:=Y00) (gl:=gl) [] rfl
 refine Z0C follows Z0x hO Tryd.func54 rfl ?_
 by_cases hl:a.length=b.length
 · have e0:((a.length:Int) != (b.length:Int))=false:=Z2P (b:=true) (by rw[hl];simp)
   repeat' ((conv=>whnf);first|refine stp ?_|with_reducible apply Z03<;>intro h)
   conv=>whnf
   refine⟨Nat,(λi=>i<=a.length/\Z2e Z1k (a.take i) (b.take i)=true),(λi=>[(0,.rs a.length 3 (dcC a)),(1,.rs b.length 3 (dcC b)),(12,.int .i64 a.length),(13,.int .i64 i)]),(λ_=>[]),(λi=>a.length-i),⟨0,⟨Y05 _,rfl⟩,Y06 rfl ?_⟩,?_⟩
   ·exact wks
   rintro i ⟨hi,hall⟩
   dsimp only
   by_cases hlt:i<a.length
   · have e1:decide ((i:Int)<(a.length:Int))=true:=by simpa using hlt
     have hlt':i<b.length:=by omega
     have hat:=Z1D Z1k a b i hlt hlt'
     rw[hall,Y0e]at hat
     have hfalse:Z1k a[i] b[i]=false->Z2e Z1k a b=false:=Z2d Z1k hlt hlt'
     have hx:=dc3 a i hlt
     have hy:=dc3 b i hlt'
     have hc:=ZoN a[i] b[i]
     generalize a[i]=x at *
     generalize b[i]=y at *
     generalize Z1k x y=w at *
     obtain⟨xn,xp,xv⟩:=x
     obtain⟨yn,yp,yv⟩:=y
     simp only[Dc.cells]at hx hy hc
     cases w with
     |true =>
      repeat' ((conv=>whnf);first|(with_reducible refine ixJ i rfl ?_ ?_;focus omega)|refine exI hx ?_|refine exI hy ?_|refine exI hc ?_|refine stp ?_|with_reducible apply Z03<;>intro h)
      conv=>whnf
      refine⟨i+1,⟨hlt,hat⟩,by show a.length-(i+1)<a.length-i;omega,Y06 rfl ?_⟩
      exact wks
     |false =>
      rw[hfalse rfl]
      repeat' ((conv=>whnf);first|(with_reducible refine ixJ i rfl ?_ ?_;focus omega)|refine exI hx ?_|refine exI hy ?_|refine exI hc ?_|refine stp ?_|with_reducible apply Z03<;>intro h)
      all_goals rfl
   · have e1:decide ((i:Int)<(a.length:Int))=false:=by simpa using hlt
     have hi2:i=a.length:=by have:=hi;omega
     subst hi2
     rw[Y04,hl,Y04]at hall
     rw[hall]
     repeat' ((conv=>whnf);first|refine stp ?_|with_reducible apply Z03<;>intro h)
     all_goals rfl
 · rw[Z2c _ _ _ hl]
   have e0:((a.length:Int) != (b.length:Int))=true:=Z2P (b:=false) (by simpa using (λh=>hl (by omega)))
   repeat' ((conv=>whnf);first|refine stp ?_|with_reducible apply Z03<;>intro h)
   all_goals rfl
theorem Zlp(a b:List (List St))(hok:ZfE a)(ha:a.length<=9223372036854775807):Z0k Y00 gl 55 [.rs a.length 1 (a.map stA),.rs b.length 1 (b.map stA),.func (.func 56) [] []] (.bool (Z2e sameSL a b)):=by
 obtain⟨O,hO,p1,-⟩:=fams (P:=Y00) (gl:=gl) [famTwoL (g:=56) (by kernel_rfl) (λp=>okSL p.1/\p.1.length<=9223372036854775807) (λp hp=>Zkr p.1 p.2 (Zcr p.1 p.2 hp.2 λy hy z _=>Zd2 _ y z (Y07 _) (Z1Q hp.1 _ hy)))] rfl
 have q1:∀x y,okSL x->x.length<=9223372036854775807->∀H,Z08 Y00 O H 56 [stA x,stA y]=some (.bool (sameSL x y),H):=λx y h1 h2=>p1 (x,y) ⟨h1,h2⟩
 clear p1
 refine Z0C follows Z0x hO Tryd.func55 rfl ?_
 by_cases hl:a.length=b.length
 · have e0:((a.length:Int) != (b.length:Int))=false:=Z2P (b:=true) (by rw[hl];simp)
   have e00:((a.length:Int)==(b.length:Int))=true:=by rw[hl];simp
   repeat' ((conv=>whnf);first|refine stp ?_|with_reducible apply Z03<;>intro h)
   conv=>whnf
   refine⟨Nat,(λi=>i<=a.length/\Z2e sameSL (a.take i) (b.take i)=true),(λi=>[(1,.rs b.length 1 (b.map stA)),(2,.func (.func 56) [] []),(15,.rs a.length 1 (a.map stA)),(16,.int .i64 a.length),(17,.int .i64 i)]),(λ_=>[]),(λi=>a.length-i),⟨0,⟨Y05 _,rfl⟩,Y06 rfl ?_⟩,?_⟩
   ·exact wks
   rintro i ⟨hi,hall⟩
   dsimp only
   by_cases hlt:i<a.length
   · have e1:decide ((i:Int)<(a.length:Int))=true:=by simpa using hlt
     have hlt':i<b.length:=by omega
     have hat:=Z1D sameSL a b i hlt hlt'
     rw[hall,Y0e]at hat
     have hfalse:sameSL a[i] b[i]=false->Z2e sameSL a b=false:=Z2d sameSL hlt hlt'
     have hx:=th1 a i hlt
     have hy:=th1 b i hlt'
     have hk:=Z2H hok _ (Z0c hlt)
     have q2:=q1 a[i] b[i] hk.1 hk.2
     generalize a[i]=x at *
     generalize b[i]=y at *
     generalize sameSL x y=w at *
     simp only[stA]at hx hy q2
     cases w with
     |true =>
      repeat' ((conv=>whnf);first|with_reducible refine exI (q2 _) ?_|(with_reducible refine ixJ i rfl ?_ ?_;focus omega)|refine exI hx ?_|refine exI hy ?_|refine stp ?_|with_reducible apply Z03<;>intro h)
      conv=>whnf
      refine⟨i+1,⟨hlt,hat⟩,by show a.length-(i+1)<a.length-i;omega,Y06 rfl ?_⟩
      exact wks
     |false =>
      rw[hfalse rfl]
      repeat' ((conv=>whnf);first|with_reducible refine exI (q2 _) ?_|(with_reducible refine ixJ i rfl ?_ ?_;focus omega)|refine exI hx ?_|refine exI hy ?_|refine stp ?_|with_reducible apply Z03<;>intro h)
      all_goals rfl
   · have e1:decide ((i:Int)<(a.length:Int))=false:=by simpa using hlt
     have hi2:i=a.length:=by have:=hi;omega
     subst hi2
     rw[Y04,hl,Y04]at hall
     rw[hall]
     repeat' ((conv=>whnf);first|refine stp ?_|with_reducible apply Z03<;>intro h)
     all_goals rfl
 · rw[Z2c _ _ _ hl]
   have e0:((a.length:Int) != (b.length:Int))=true:=Z2P (b:=false) (by simpa using (λh=>hl (by omega)))
   have e00:((a.length:Int)==(b.length:Int))=false:=by simpa using (λh=>hl (by omega))
   repeat' ((conv=>whnf);first|refine stp ?_|with_reducible apply Z03<;>intro h)
   all_goals rfl
theorem Zfu(p q:Pr)(hp:okP p):Z0k Y00 gl 20 [p.av,q.av] (.bool (Ze6 p q)):=by
 obtain⟨O,hO,p1,p2,-⟩:=fams (P:=Y00) (gl:=gl) [Znm (f:=54) (A:=[.rs p.decls.length 3 (dcC p.decls),.rs q.decls.length 3 (dcC q.decls)]) (R:=.bool (Z2e Z1k p.decls q.decls)) True (by kernel_rfl) rfl (λ_=>ZmW _ _ hp.1.1),Znm (f:=55) (A:=[.rs p.threads.length 1 (p.threads.map stA),.rs q.threads.length 1 (q.threads.map stA),.func (.func 56) [] []]) (R:=.bool (Z2e sameSL p.threads q.threads)) True (by kernel_rfl) rfl (λ_=>Zlp _ _ hp.2.1 hp.2.2)] rfl
 have q1:∀H,Z08 Y00 O H 54 [.rs p.decls.length 3 (dcC p.decls),.rs q.decls.length 3 (dcC q.decls)]=some (.bool (Z2e Z1k p.decls q.decls),H):=p1 () trivial
 have q2:∀H,Z08 Y00 O H 55 [.rs p.threads.length 1 (p.threads.map stA),.rs q.threads.length 1 (q.threads.map stA),.func (.func 56) [] []]=some (.bool (Z2e sameSL p.threads q.threads),H):=p2 () trivial
 clear p1 p2
 unfold Ze6
 obtain⟨ds,ts⟩:=p
 obtain⟨ds',ts'⟩:=q
 simp only[Pr.av]at *
 generalize Z2e Z1k ds ds'=w1 at *
 generalize Z2e sameSL ts ts'=w2 at *
 refine Z0C follows Z0x hO Tryd.func20 rfl ?_
 cases w1<;>cases w2
 all_goals (repeat' ((conv=>whnf);first|with_reducible refine exI (q1 _) ?_|with_reducible refine exI (q2 _) ?_|refine stp ?_|with_reducible apply Z03<;>intro h))
 all_goals (first|rfl|(simp[Z0J];done))
theorem Zip(p q:Pr)(hp:okP p):Z0k Y00 gl 24 [p.av,q.av] (.bool (Ze6 p q)):=by
 obtain⟨O,hO,p1,-⟩:=fams (P:=Y00) (gl:=gl) [famTwoL (g:=59) (by kernel_rfl) (λp=>okSL p.1/\p.1.length<=9223372036854775807) (λp hp=>ZaW _ p.1 p.2 (Y07 _) hp.1 hp.2)] rfl
 have q1:∀x y,okSL x->x.length<=9223372036854775807->∀H,Z08 Y00 O H 59 [stA x,stA y]=some (.bool (sameSL x y),H):=λx y h1 h2=>p1 (x,y) ⟨h1,h2⟩
 clear p1
 unfold Ze6
 obtain⟨ds,ts⟩:=p
 obtain⟨ds',ts'⟩:=q
 obtain⟨⟨hd1,hd2⟩,ht1,ht2⟩:=hp
 simp only[Pr.av]at *
 refine Z0C follows Z0x hO Tryd.func24 rfl ?_
 by_cases hl1:ds.length=ds'.length
 case neg =>
  rw[Z2c _ _ _ hl1,Bool.false_and]
  have e0:((ds.length:Int) != (ds'.length:Int))=true:=Z2P (b:=false) (by simpa using (λh=>hl1 (by omega)))
  repeat' ((conv=>whnf);first|refine stp ?_|with_reducible apply Z03<;>intro h)
  all_goals rfl
 have e0:((ds.length:Int) != (ds'.length:Int))=false:=Z2P (b:=true) (by rw[hl1];simp)
 by_cases hl2:ts.length=ts'.length
 case neg =>
  rw[Z2c _ ts ts' hl2,Bool.and_false]
  have e1:((ts.length:Int) != (ts'.length:Int))=true:=Z2P (b:=false) (by simpa using (λh=>hl2 (by omega)))
  repeat' ((conv=>whnf);first|refine stp ?_|with_reducible apply Z03<;>intro h)
  all_goals rfl
 have e1:((ts.length:Int) != (ts'.length:Int))=false:=Z2P (b:=true) (by rw[hl2];simp)
 repeat' ((conv=>whnf);first|refine stp ?_|with_reducible apply Z03<;>intro h)
 conv=>whnf
 refine⟨Nat,(λi=>i<=ds.length/\Z2e Z1k (ds.take i) (ds'.take i)=true),(λi=>[(2,.ptr 0 0),(3,.ptr 1 0),(5,.int .i64 i)]),(λ_=>[⟨true,0,0,.cells [.rs ds.length 3 (dcC ds),.rs ts.length 1 (ts.map stA)] 25⟩,⟨true,1,0,.cells [.rs ds'.length 3 (dcC ds'),.rs ts'.length 1 (ts'.map stA)] 25⟩]),(λi=>ds.length-i),⟨0,⟨Y05 _,rfl⟩,Y0c [0,1] rfl ?_ ⟨hbp,hbp,trivial⟩ rfl⟩,?_⟩
 ·exact wks
 rintro i ⟨hi,hall⟩
 dsimp only
 by_cases hlt:i<ds.length
 · have e2:decide ((i:Int)<(ds.length:Int))=true:=by simpa using hlt
   have hlt':i<ds'.length:=by omega
   have hat:=Z1D Z1k ds ds' i hlt hlt'
   rw[hall,Y0e]at hat
   have hfalse:Z1k ds[i] ds'[i]=false->Z2e Z1k ds ds'=false:=Z2d Z1k hlt hlt'
   have hx:=dc3 ds i hlt
   have hy:=dc3 ds' i hlt'
   have hc:=ZoN ds[i] ds'[i]
   generalize ds[i]=x at *
   generalize ds'[i]=y at *
   generalize Z1k x y=w at *
   obtain⟨xn,xp,xv⟩:=x
   obtain⟨yn,yp,yv⟩:=y
   simp only[Dc.cells]at hx hy hc
   cases w with
   |true =>
    repeat' ((conv=>whnf);first|(with_reducible refine ixJ i rfl ?_ ?_;focus omega)|refine exI hx ?_|refine exI hy ?_|refine exI hc ?_|refine stp ?_|with_reducible apply Z03<;>intro h)
    conv=>whnf
    refine⟨i+1,⟨hlt,hat⟩,by show ds.length-(i+1)<ds.length-i;omega,Y0c [0,1] rfl ?_ ⟨hbp,hbp,trivial⟩ rfl⟩
    exact wks
   |false =>
    rw[hfalse rfl,Bool.false_and]
    repeat' ((conv=>whnf);first|(with_reducible refine ixJ i rfl ?_ ?_;focus omega)|refine exI hx ?_|refine exI hy ?_|refine exI hc ?_|refine stp ?_|with_reducible apply Z03<;>intro h)
    all_goals rfl
 · have e2:decide ((i:Int)<(ds.length:Int))=false:=by simpa using hlt
   have hi2:i=ds.length:=by have:=hi;omega
   subst hi2
   rw[Y04,hl1,Y04]at hall
   rw[hall,Y0e]
   repeat' ((conv=>whnf);first|refine stp ?_|with_reducible apply Z03<;>intro h)
   conv=>whnf
   refine⟨Nat,(λi=>i<=ts.length/\Z2e sameSL (ts.take i) (ts'.take i)=true),(λi=>[(2,.ptr 0 0),(3,.ptr 1 0),(6,.int .i64 i)]),(λ_=>[⟨true,0,0,.cells [.rs ds.length 3 (dcC ds),.rs ts.length 1 (ts.map stA)] 25⟩,⟨true,1,0,.cells [.rs ds'.length 3 (dcC ds'),.rs ts'.length 1 (ts'.map stA)] 25⟩]),(λi=>ts.length-i),⟨0,⟨Y05 _,rfl⟩,Y0c [0,1] rfl ?_ ⟨hbp,hbp,trivial⟩ rfl⟩,?_⟩
   ·exact wks
   clear hall hi
   rintro i ⟨hi,hall⟩
   dsimp only
   by_cases hlt:i<ts.length
   · have e3:decide ((i:Int)<(ts.length:Int))=true:=by simpa using hlt
     have hlt':i<ts'.length:=by omega
     have hat:=Z1D sameSL ts ts' i hlt hlt'
     rw[hall,Y0e]at hat
     have hfalse:sameSL ts[i] ts'[i]=false->Z2e sameSL ts ts'=false:=Z2d sameSL hlt hlt'
     have hx:=th1 ts i hlt
     have hy:=th1 ts' i hlt'
     have hk:=Z2H ht1 _ (Z0c hlt)
     have q2:=q1 ts[i] ts'[i] hk.1 hk.2
     generalize ts[i]=x at *
     generalize ts'[i]=y at *
     generalize sameSL x y=w at *
     simp only[stA]at hx hy q2
     cases w with
     |true =>
      repeat' ((conv=>whnf);first|with_reducible refine exI (q2 _) ?_|(with_reducible refine ixJ i rfl ?_ ?_;focus omega)|refine exI hx ?_|refine exI hy ?_|refine stp ?_|with_reducible apply Z03<;>intro h)
      conv=>whnf
      refine⟨i+1,⟨hlt,hat⟩,by show ts.length-(i+1)<ts.length-i;omega,Y0c [0,1] rfl ?_ ⟨hbp,hbp,trivial⟩ rfl⟩
      exact wks
     |false =>
      rw[hfalse rfl]
      repeat' ((conv=>whnf);first|with_reducible refine exI (q2 _) ?_|(with_reducible refine ixJ i rfl ?_ ?_;focus omega)|refine exI hx ?_|refine exI hy ?_|refine stp ?_|with_reducible apply Z03<;>intro h)
      all_goals rfl
   · have e3:decide ((i:Int)<(ts.length:Int))=false:=by simpa using hlt
     have hi2:i=ts.length:=by have:=hi;omega
     subst hi2
     rw[Y04,hl2,Y04]at hall
     rw[hall]
     repeat' ((conv=>whnf);first|refine stp ?_|with_reducible apply Z03<;>intro h)
     all_goals rfl
end
section
variable {gl:Glob}
theorem Zjy {P : Program} {t e : TypeId} {z b : Nat} {u : AV} {H : Z00} (ht : P.underlying t = some (.slice e)) (hz : tsz P e = some z) (hb : (P.info? e).map (·.bytes) = some b) (hu : Z1o P e = some u) (hul : u.cells.length = z) (hz0 : z ≠ 0) (n : Nat)
  (h:n<=1099511627776) (h2:b*n<=140737488355328):Z0U P t (.int .i64 n) (.int .i64 n) H=some (.slice H.length 0 n n z,Z14 H (Z1a n u.cells) e):=by
 cases hi:P.info? e with
 |none=>rw[hi]at hb;cases hb
 |some i =>
  rw[hi]at hb
  simp only[Y0s,Option.some.injEq]at hb
  have h2':(b:Int)*(n:Int)<=140737488355328:=by
   have:((b*n:Nat):Int)<=((140737488355328:Nat):Int):=Int.ofNat_le.2 h2
   simpa using this
  simp only[Z0U,Z4v,ht,hz,hi,hb,hu]
  rw[if_pos ⟨by omega,by omega,by omega,h2'⟩]
  try simp only[Int.toNat_natCast]
  by_cases hn:n=0
  ·subst hn;simp[Z1a,Z14]
  · have h0:¬(n*z=0):=λe=>by rcases Nat.mul_eq_zero.1 e with e|e;exact hn e;exact hz0 e
    rw[if_neg h0,if_pos hul]
theorem ZhX:∀(a b c vs:List AV),b.length=vs.length->spl (a++(b++c)) a.length vs=some (a++(vs++c))
 |[],[],c,[],_=>by cases c<;>rfl
 |[],x::b,c,v::vs,h=>by
  have:=ZhX [] b c vs (by simpa using h)
  simp only[Y0m,List.length_nil]at this
  simp only[Y0m,List.length_nil,Y0j,spl,this]
 |x::a,b,c,vs,h=>by
  have:=ZhX a b c vs h
  simp only[Y0j,Y0k,spl,this]
 |[],[],c,_::_,h=>by simp at h
 |[],_::_,c,[],h=>by simp at h
def Z6C:AV->Bool
 | .bool _=>true
 | .int _ _=>true
 | .str _=>true
 | .rs _ _ _=>true
 |_=>false
theorem Ziw{H:Z00}{n:Nat}:∀{u:AV},Z6C u=true->frz H (n+1) u=some u
 | .bool _,_=>rfl
 | .int _ _,_=>rfl
 | .str _,_=>rfl
 | .rs _ _ _,_=>rfl
theorem Zb3{H:Z00}{n:Nat}:∀{cs:List AV},cs.all Z6C=true->frzL (frz H (n+1)) cs=some cs
 |[],_=>rfl
 |c::cs,h=>by
  simp only[List.all_cons,Y0b]at h
  simp only[frzL,Ziw h.1,Zb3 h.2]
theorem Z4l{H:Z00}{n b f sh len cap z:Nat}{cs:List AV}{ty:TypeId}(hH:H[b]? = some ⟨true,f,sh,.cells cs ty⟩)(hc:cs.length=len*z)(hl:cs.all Z6C=true):frz H (n+2) (.slice b 0 len cap z)=some (.rs len z cs):=by
 cases len with
 |zero =>
  have:cs=[]:=Y0J (by omega)
  subst this;rfl
 |succ m =>
  have h2:frzL (frz H (n+1)) cs=some cs:=Zb3 hl
  unfold frz
  simp only[hH,Y0n,ZcV hc]
  rw[h2]
def Zcn:AV->Bool
 | .bool _=>true
 | .int _ _=>true
 | .str _=>true
 | .rs _ _ _=>true
 | .nslice=>true
 |_=>false
theorem ZfB:∀{u:AV}{acc:List Nat},Zcn u=true->refs u acc=acc
 | .bool _,_,_=>by simp only[refs]
 | .int _ _,_,_=>by simp only[refs]
 | .str _,_,_=>by simp only[refs]
 | .rs _ _ _,_,_=>by simp only[refs]
 | .nslice,_,_=>by simp only[refs]
theorem Z06:∀{l:List AV}{acc:List Nat},l.all Zcn=true->refsL l acc=acc
 |[],_,_=>by simp only[refsL]
 |c::l,acc,h=>by
  simp only[List.all_cons,Y0b]at h
  simp only[refsL,ZfB h.1,Z06 h.2]
theorem Z26:∀{l:List AV},l.all Z6C=true->l.all Zcn=true:=by
 intro l h
 rw[Y0z]at h⊢
 intro u hu
 have:=h u hu
 cases u<;>simp_all[Z6C,Zcn]
theorem Z0w(z:List AV)(hz:z.all Zcn=true):∀n,(Z1a n z).all Zcn=true
 |0=>rfl
 |n+1=>by simp only[Z1a,Y0I,hz,Z0w z hz n,Bool.and_true]
end
section
variable {gl:Glob}
theorem Z9X:∀l:List Ex,(exC l).all Z6C=true
 |[]=>by simp only[exC];rfl
 | .mk o n s k::l=>by simp only[exC,Ex.cells,Y0I,Z9X l,Bool.and_true];rfl
def Zdy(l:List Ex)(i:Nat):List AV:=exC (l.take i)++Z1a (l.length-i) [.int .i64 0,.int .i64 0,.str [],.nslice]
theorem Zev(l:List Ex)(i:Nat)(h:i<l.length):Zdy l i=exC (l.take i)++([.int .i64 0,.int .i64 0,.str [],.nslice]++Z1a (l.length-(i+1)) [.int .i64 0,.int .i64 0,.str [],.nslice]):=by
 have e:l.length-i=(l.length-(i+1))+1:=by omega
 unfold Zdy;rw[e];rfl
theorem Zgk(l:List Ex)(i:Nat)(h:i<l.length):exC (l.take i)++(l[i].cells++Z1a (l.length-(i+1)) [.int .i64 0,.int .i64 0,.str [],.nslice])=Zdy l (i+1):=by
 unfold Zdy
 rw[List.take_add_one,Zgi,Y0d h]
 simp only[Option.toList_some,exC,List.append_nil,List.append_assoc]
theorem ZiO(l:List Ex)(i k:Nat)(h:i<l.length)(hk:k=i*4):spl (Zdy l i) k l[i].cells=some (Zdy l (i+1)):=by
 have hl:(exC (l.take i)).length=i*4:=by rw[Z9W,List.length_take,Nat.min_eq_left (by omega)]
 rw[Zev l i h,hk,<- hl,ZhX _ _ _ _ (by rw[Z3c];rfl),Zgk l i h]
theorem Zgj(l:List Ex):Zdy l 0=Z1a l.length [.int .i64 0,.int .i64 0,.str [],.nslice]:=by simp only[Zdy,Y02,exC,Y0m,Nat.sub_zero]
theorem ZiP(l:List Ex):Zdy l l.length=exC l:=by simp only[Zdy,Y04,Nat.sub_self,Z1a,List.append_nil]
theorem Z7S(l:List Ex)(i:Nat):refsL (Zdy l i) []=[]:=by
 refine Z06 ?_
 unfold Zdy
 rw[Y0I,Z26 (Z9X _),Z0w _ rfl,Bool.and_true]
theorem ZjB(n:Nat)(h:n<=1048576)(H:Z00):Z0U Y00 27 (.int .i64 n) (.int .i64 n) H=some (.slice H.length 0 n n 4,Z14 H (Z1a n [.int .i64 0,.int .i64 0,.str [],.nslice]) 36):=by
 have hz:tsz Y00 36=some 4:=by kernel_rfl
 have hb:(Y00.info? 36).map (·.bytes)=some 56:=by kernel_rfl
 have hu:Z1o Y00 36=some (.agg [.int .i64 0,.int .i64 0,.str [],.nslice]):=by kernel_rfl
 exact Zjy Tryd.underlying27 hz hb hu rfl (by decide) n (by omega) (by omega)
end
section
variable {gl:Glob}
theorem ZdK:∀(n:Nat)(l:List Ex),sizeL l<=n->okL l->sizeL l<=1048576->Z0k Y00 gl 81 [exA l] (exA l)
 |n,l,h,hok,hs=>by
  obtain⟨O,hO,p1,-⟩:=fams (P:=Y00) (gl:=gl) [{ I:=List Ex,f:=81,G:=λl=>sizeL l<n/\okL l/\sizeL l<=1048576,A:=λl=>[exA l],R:=λl=>exA l,body:=(by kernel_rfl),inj:=(λi j _ _ h=>by simp only[List.cons.injEq,and_true]at h;exact h),ok:=(λl hl=>⟨rfl,match n,hl.1 with|n+1,h=>ZdK n l (by omega) hl.2.1 hl.2.2⟩) }] rfl
  have q1:∀l,sizeL l<n->okL l->sizeL l<=1048576->∀H,Z08 Y00 O H 81 [exA l]=some (exA l,H):=λl h1 h2 h3=>p1 l ⟨h1,h2,h3⟩
  clear p1
  have hlen:=Z3S l
  have hm:=ZjB l.length (by omega)
  simp only[exA]at q1⊢
  refine Z0C follows Z0x hO Tryd.func81 rfl ?_
  repeat' ((conv=>whnf);first|refine exI (hm _) ?_|refine stp ?_|with_reducible apply Z03<;>intro h)
  conv=>whnf
  refine⟨Nat,(λi=>i<=l.length),(λi=>[(3,.slice 0 0 l.length l.length 4),(9,.rs l.length 4 (exC l)),(10,.int .i64 l.length),(11,.int .i64 i)]),(λi=>[⟨true,0,0,.cells (Zdy l i) 36⟩]),(λi=>l.length-i),⟨0,Y05 _,Y0c [0] rfl ?_ ⟨⟨rfl,rfl,rfl,rfl,BodyGe.pre (rest:=[]) ?_ (Z7S l 0)⟩,trivial⟩ rfl⟩,?_⟩
  · refine Y01 (Wk.slice rfl rfl rfl (Y07 _) (Y07 _) rfl) ?_
    exact wks
  ·rw[Zgj];simp
  intro i hi
  dsimp only
  by_cases hlt:i<l.length
  · have e1:decide ((i:Int)<(l.length:Int))=true:=by simpa using hlt
    have hx:=ex4 l i hlt
    have hsp:=ZiO l i (0+i*4) hlt (by omega)
    have hsz:=Z1u _ _ (Z0c hlt)
    have hxo:=Z2n hok _ (Z0c hlt)
    have hrf:=Z7S l (i+1)
    generalize hnx:Zdy l (i+1)=nx at *
    generalize l[i]=x at *
    obtain⟨o,m,s,k⟩:=x
    have hk:=Z3r hxo
    simp only[Ex.kids,Ex.name,okN]at hk
    simp only[Z1v]at hsz
    have q2:=q1 k (by omega) hk.2 (by omega)
    simp only[Ex.cells]at hx hsp
    clear hk hxo
    repeat' ((conv=>whnf);first|with_reducible refine exI (q2 _) ?_|(with_reducible refine ixJ i rfl ?_ ?_;focus omega)|refine exI hx ?_|refine exI hsp ?_|refine stp ?_|with_reducible apply Z03<;>intro h)
    conv=>whnf
    refine⟨i+1,hlt,by show l.length-(i+1)<l.length-i;omega,Y0c [0] rfl ?_ ⟨⟨rfl,rfl,rfl,rfl,BodyGe.pre (rest:=[]) ?_ (Z7S l (i+1))⟩,trivial⟩ rfl⟩
    · refine Y01 (Wk.slice rfl rfl rfl (Y07 _) (Y07 _) rfl) ?_
      exact wks
    ·rw[hnx];simp
  · have e1:decide ((i:Int)<(l.length:Int))=false:=by simpa using hlt
    have hi2:i=l.length:=by have:=hi;omega
    subst hi2
    rw[ZiP]
    repeat' ((conv=>whnf);first|refine stp ?_|with_reducible apply Z03<;>intro h)
    conv=>whnf
    exact⟨_,Z4l (b:=0) rfl (Z9W l) (Z9X l),rfl⟩
end
end Go.Proofs.YtajhailaofchlaaDoor.lex

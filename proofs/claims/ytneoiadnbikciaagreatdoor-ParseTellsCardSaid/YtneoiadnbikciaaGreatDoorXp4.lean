/-
  Texts of this proof, one behind the other (part 4).
-/
import Derived.Test.YtneoiadnbikciaaGreatDoorXp3
import Derived.Test.YtneoiadnbikciaaGreatDoorRows
import Derived.KernelRfl
import Derived.Sort.KeysCollected
import Derived.Maps.OwnSet
set_option linter.unusedVariables false
set_option linter.unusedSimpArgs false
set_option maxRecDepth 100000
set_option maxHeartbeats 4000000
open Go.Proofs.Tryz renaming prog → Y00
open Go.Abs.Wk renaming noref → Y01,int → Y09
open List renaming getElem?_eq_getElem → Y02,getElem?_eq_some_iff → Y06,cons_append → Y08,nil_append → Y0a,length_cons → Y0d,take_zero → Y0f,take_succ_cons → Y0g,length_append → Y0h,drop_succ_cons → Y0i,getElem?_append_left → Y0j,mem_of_getElem? → Y0l,drop_zero → Y0n,getElem_cons_zero → Y0o,getElem_cons_succ → Y0p,getElem?_append_right → Y0r,getD_eq_getElem?_getD → Y0t,drop_eq_getElem_cons → Y0u,mem_cons → Y0v,getElem?_cons_succ → Y0x,mem_map → Y0y,map_cons → Y0z,getElem?_drop → Y0A,getElem?_cons_zero → Y0B,all_eq_true → Y0D,length_drop → Y0E,append_nil → Y0F,length_nil → Y0G
open Nat renaming beq → Y03,le_refl → Y04,le_trans → Y0b,zero_le → Y0e,zero_add → Y0w,lt_of_lt_of_le → Y0C
open Bool renaming and_eq_true → Y05,not_eq_true' → Y0m,false_eq_true → Y0q
open Go.Abs.BodyGe renaming pre → Y07
open And renaming intro → Y0c
open Option renaming map_some → Y0k
open Int renaming le_refl → Y0s
section
namespace Go.Abs
open Go.RowKit
theorem Z4V {sn sn2 : Z0m} {ι : Z0i} {H : Z00} {W : World} (hobj : ∀ (b : Nat) (o : AObj) p, H[b]? = some o -> o.alive = true -> ι b = some p -> OR sn ι W o.body p) (hle : Le sn sn2 noI noI)
  (hcell:∀(b:Nat)(o:AObj) p,H[b]? = some o->o.alive=true -> ι b=some p->∀(off:Nat)(v:Value),W.cell? ⟨p.blk,off,none⟩=some v->sn2 ⟨p.blk,off,none⟩=some v) :
  ∀(n:Nat)(u r:AV)(v:Value),frz H n u=some r->VR sn ι u v->VR sn2 noI r v:=by
 intro n
 induction n with
 |zero=>intro u r v h;simp[frz]at h
 |succ n ih =>
  have cells:∀{b:Nat}{o:AObj}{p:Place}{cs l:List AV}{ty:TypeId}{off:Nat},H[b]? = some o->o.alive=true->o.body = .cells cs ty -> ι b=some p->Z2E (frz H n) (cs.drop off)=some l->MR sn2 l p.blk (p.sh+off):=by
   intro b o p cs l ty off ho ha hb hp hl
   obtain⟨_,h2⟩:=Z67 hl
   have hor:=hobj b o p ho ha hp
   rw[hb]at hor
   simp only[OR]at hor
   obtain⟨arr,k1,k2,k3,k4⟩:=hor
   refine Z4j λi x hx=>?_
   obtain⟨c,hc,hcx⟩:=h2 i x hx
   rw[Y0A]at hc
   obtain⟨v,e1,e2⟩:=k4 (off+i) c hc
   refine⟨v,?_,ih c x v hcx e2⟩
   refine hcell b o p ho ha hp _ _ ?_
   rw[Z2g k1]
   rw[<- e1];congr 1;omega
  intro u r v h hv
  unfold frz at h
  split at h
  · rename_i b off
    split at h<;>try (simp at h;done)
    rename_i o ho
    split at h<;>try (simp at h;done)
    rename_i cs ty ha hb
    split at h<;>simp at h
    rename_i l hl
    subst h
    obtain⟨p,hp,rfl⟩:=hv.ptr
    simp only[VR]
    exact⟨_,_,rfl,cells ho ha hb hp hl⟩
  · rename_i b off len cap z
    obtain⟨p,a,cap',hp,rfl,h1,h2,h3⟩:=hv.slice
    split at h
    · simp at h;subst h
      simp only[VR]
      exact .inr ⟨a,cap',rfl,by omega,by simp,by simp[MR],λh=>absurd rfl h⟩
    · rename_i len
      split at h<;>try (simp at h;done)
      rename_i o ho
      split at h<;>try (simp at h;done)
      rename_i cs ty ha hb
      split at h<;>try (simp at h;done)
      rename_i cs' hcs
      split at h<;>simp at h
      rename_i l hl
      subst h
      obtain⟨ha',_⟩:=h3 (by omega)
      subst ha'
      obtain⟨e1,rfl⟩:=Z4c hcs
      obtain⟨f1,f2⟩:=Z67 hl
      simp only[VR]
      refine .inr ⟨_,cap',rfl,by omega,?_,?_,λ_=>rfl⟩
      ·rw[f1,List.length_take];exact Nat.min_eq_left e1
      · have hor:=hobj b o p ho ha hp
        rw[hb]at hor
        simp only[OR]at hor
        obtain⟨arr,k1,k2,k3,k4⟩:=hor
        refine Z4j λi x hx=>?_
        obtain⟨c,hc,hcx⟩:=f2 i x hx
        rw[List.getElem?_take]at hc
        split at hc<;>try (simp at hc;done)
        rw[Y0A]at hc
        obtain⟨v,g1,g2⟩:=k4 (off+i) c hc
        refine⟨v,?_,ih c x v hcx g2⟩
        refine hcell b o p ho ha hp _ _ ?_
        rw[Z2g k1]
        rw[<- g1];congr 1;simp only;omega
  · split at h<;>simp at h
    rename_i l hl;subst h
    obtain⟨d,rfl,h1⟩:=hv.agg
    exact Z44 (Z1f ih hl h1)
  · split at h<;>simp at h
    rename_i l hl;subst h
    obtain⟨d,rfl,h1⟩:=hv.tuple
    exact Z4C (Z1f ih hl h1)
  · split at h<;>simp at h
    rename_i x hx;subst h
    obtain⟨y,rfl,h1⟩:=hv.iface
    simp only[VR];exact⟨y,rfl,ih _ _ _ hx h1⟩
  · split at h<;>simp at h
    rename_i f c hf hc;subst h
    obtain⟨x,y,rfl,h1,h2⟩:=hv.func
    simp only[VR];exact⟨x,y,rfl,Z1f ih hf h1,Z1f ih hc h2⟩
  ·simp at h
  · rename_i e1 e2 e3 e4 e5 e6 e7
    simp at h;subst h
    cases u with
    |ptr b o=>exact (e1 _ _ rfl).elim
    |slice b o l c z=>exact (e2 _ _ _ _ _ rfl).elim
    |agg cs=>exact (e3 _ rfl).elim
    |tuple cs=>exact (e4 _ rfl).elim
    |iface t v=>exact (e5 _ _ rfl).elim
    |func fn f c=>exact (e6 _ _ _ rfl).elim
    |map b=>exact (e7 _ rfl).elim
    |_=>exact Z16 (ι:=noI) hle _ _ (Z1c (ι:=ι) _ [] _ (λb hb=>by simp[Z2a]at hb) hv)
theorem Zls{m:List Nat}{H H2:Z00}(hp:HpGe H m m H2 0)(hfam:Z0Q (m.map (Z1i H))=true){sn:Z0m}{ι : Z0i}{W:World}(hR:R sn ι H W):R sn (iot m ι) H2 W:=by
 obtain⟨hl,hg⟩:=hp.get
 have at2:∀{b:Nat}{o2:AObj}{p:Place},H2[b]? = some o2->iot m ι b=some p->∃j o,m[b]? = some j/\H[j]? = some o /\ ι j=some p/\o.alive=true/\o2.alive=true/\o2.fam=b/\o2.sh=o.sh/\BodyGe m o.body o2.body:=by
  intro b o2 p hb hp
  obtain⟨j,o,o2',x1,x2,x3,x4,x5,x6,x7,x8⟩:=hg b (by rw[<- hl];exact (Y06.1 hb).1)
  rw[hb]at x3;simp at x3;subst x3
  simp only[iot,x1]at hp
  exact⟨j,o,x1,x2,hp,x4,x5,by omega,x7,x8⟩
 have hR2:R sn (iot m ι) H2 W:=by
  refine⟨λb=>⟨λhb=>?_,λ⟨p,hp⟩=>?_⟩,λb p hp=>?_,λb o2 p hb ha hp=>?_,λb b' o o' p p' hb hb' ha ha' hp hp' e=>?_,λad v hv=>?_,λb o2 p hb hp e=>?_⟩
  · obtain⟨j,o,o2,x1,x2,_⟩:=hg b (by omega)
    obtain⟨p,hp⟩:=hR.place x2
    exact⟨p,by simp only[iot,x1];exact hp⟩
  · unfold iot at hp
    split at hp
    ·rename_i j hj;rw[hl];exact (Y06.1 hj).1
    ·cases hp
  · unfold iot at hp
    split at hp
    ·exact hR.blk _ p hp
    ·cases hp
  · obtain⟨j,o,x1,x2,x3,x4,x5,x6,x7,x8⟩:=at2 hb hp
    exact x8.or (hR.obj j o p x2 x4 x3)
  · obtain⟨j,q,x1,x2,x3,x4,x5,x6,x7,x8⟩:=at2 hb hp
    obtain⟨j',q',y1,y2,y3,y4,y5,y6,y7,y8⟩:=at2 hb' hp'
    have hs:=hR.sep j j' q q' p p' x2 y2 x4 y4 x3 y3 e
    have:b=b':=Z4N (l:=m.map (Z1i H)) (x:=q.fam) hfam (by simp[x1,Z1i,x2]) (by simp[y1,Z1i,y2,hs.1])
    subst this
    exact⟨by rw[x6,y6],by rw[x7,y7];exact hs.2⟩
  · obtain⟨h1,h2,h3⟩:=hR.snap ad v hv
    refine⟨h1,h2,λb o2 p hb ha hp=>?_⟩
    obtain⟨j,o,x1,x2,x3,x4,_⟩:=at2 hb hp
    exact h3 j o p x2 x4 x3
  · obtain⟨j,o,x1,x2,x3,x4,x5,x6,x7,x8⟩:=at2 hb hp
    exact hR.shz j o p x2 x3 (by omega)
 exact hR2
def Zol(m:List Nat)(H:Z00):Z00:=kil (λi _=>mem i m) 0 H
theorem Zev{m:List Nat}{H:Z00}{b:Nat}{o:AObj}(h:(Zol m H)[b]? = some o)(ha:o.alive=true):H[b]? = some o/\b ∉ m:=by
 unfold Zol at h
 rw[Z5p]at h
 cases hx:H[b]? with
 |none=>rw[hx]at h;cases h
 |some x =>
  rw[hx]at h
  simp only[Y0k,Option.some.injEq,Y0w]at h
  split at h
  ·subst h;simp[AObj.dead]at ha
  · rename_i hm
    subst h
    exact⟨rfl,λhb=>hm (Z11.2 hb)⟩
theorem ZdN (m : List Nat) (Hs : Z00) : ∀ (H : Z00) (i b : Nat), (Zff m Hs i H)[b]? = (H[b]?).map fun o => match Z5a m (i + b) 0 with
  |some j=>match Hs[j]? with
   |some o'=>{ o with alive:=o'.alive,body:=Z59 (λb=>m.getD b 0) o'.body }
   |none=>o
  |none=>o
 |[],i,b=>by simp[Zff]
 |o::H,i,0=>by
  simp only[Zff,Y0B,Y0k,Nat.add_zero]<;>rfl
 |o::H,i,b+1=>by
  simp only[Zff,Y0x]
  rw[ZdN m Hs H (i+1) b,show i+1+b=i+(b+1) by omega]
theorem ZfM {sn sn2 : Z0m} {ι : Z0i} {H : Z00} {W : World} {m : List Nat} (hobj : ∀ (b : Nat) (o : AObj) p, H[b]? = some o -> o.alive = true -> ι b = some p -> OR sn ι W o.body p) (hle : Le sn sn2 noI noI)
  (hcell:∀(b:Nat)(o:AObj) p,H[b]? = some o->o.alive=true -> ι b=some p->∀(off:Nat)(v:Value),W.cell? ⟨p.blk,off,none⟩=some v->sn2 ⟨p.blk,off,none⟩=some v) :
  ∀(n:Nat)(u r:AV)(v:Value),ZkX m H n u=some r->VR sn ι u v->VR sn2 (iot m ι) r v:=by
 have lift:∀{r:AV}{v:Value},VR sn2 noI r v->VR sn2 (iot m ι) r v:=λh=>Z16 ⟨λ_ _ h=>h,λb p h=>by simp[noI]at h⟩ _ _ h
 have at_:∀{b i:Nat},Z5a m b 0=some i->∀p,ι b=some p->iot m ι i=some p:=λh p hp=>by
  have:=(Z2e h).2
  simp only[Nat.sub_zero]at this
  simp only[iot,this];exact hp
 intro n
 induction n with
 |zero=>intro u r v h;simp[ZkX]at h
 |succ n ih =>
  intro u r v h hv
  unfold ZkX at h
  split at h
  · split at h
    · rename_i b off i hi
      simp at h;subst h
      obtain⟨p,hp,rfl⟩:=hv.ptr
      simp only[VR];exact⟨p,at_ hi p hp,rfl⟩
    ·exact lift (Z4V hobj hle hcell 30 _ _ _ h hv)
  · split at h
    · rename_i b off len cap z i hi
      simp at h;subst h
      obtain⟨p,a,cap',hp,h1⟩:=hv.slice
      simp only[VR];exact⟨p,a,cap',at_ hi p hp,h1⟩
    ·exact lift (Z4V hobj hle hcell 30 _ _ _ h hv)
  · split at h
    · rename_i b i hi
      simp at h;subst h
      simp only[VR]at hv⊢
      obtain⟨p,hp,h1⟩:=hv
      exact⟨p,at_ hi p hp,h1⟩
    ·cases h
  · split at h<;>simp at h
    rename_i f c hf hc;subst h
    obtain⟨x,y,rfl,h1,h2⟩:=hv.func
    have each:∀{l l':List AV}{vs:List Value},Z2E (ZkX m H n) l=some l'->LR sn ι l vs->LR sn2 (iot m ι) l' vs:=by
     intro l
     induction l with
     |nil=>intro l' vs h e;simp[Z2E]at h;subst h;simpa[LR]using e
     |cons c l ih2 =>
      intro l' vs h e
      simp only[Z2E]at h
      split at h<;>simp at h
      rename_i x y hx hy
      subst h
      simp only[LR]at e⊢
      obtain⟨d,ds,rfl,h1,h2⟩:=e
      exact⟨d,ds,rfl,ih _ _ _ hx h1,ih2 hy h2⟩
    simp only[VR];exact⟨x,y,rfl,each hf h1,each hc h2⟩
  ·exact lift (Z4V hobj hle hcell 30 _ _ _ h hv)
theorem Z8z {sn sn2 : Z0m} {ι : Z0i} {H : Z00} {W : World} {m : List Nat} (hobj : ∀ (b : Nat) (o : AObj) p, H[b]? = some o -> o.alive = true -> ι b = some p -> OR sn ι W o.body p) (hle : Le sn sn2 noI noI)
  (hcell:∀(b:Nat)(o:AObj) p,H[b]? = some o->o.alive=true -> ι b=some p->∀(off:Nat)(v:Value),W.cell? ⟨p.blk,off,none⟩=some v->sn2 ⟨p.blk,off,none⟩=some v) (n:Nat) :
  ∀(us rs:List AV)(vs:List Value),Z2E (ZkX m H n) us=some rs->LR sn ι us vs->LR sn2 (iot m ι) rs vs
 |[],rs,vs,h,e=>by simp[Z2E]at h;subst h;simpa[LR]using e
 |u::us,rs,vs,h,e=>by
  simp only[Z2E]at h
  split at h<;>simp at h
  rename_i x y hx hy
  subst h
  simp only[LR]at e⊢
  obtain⟨d,ds,rfl,h1,h2⟩:=e
  exact⟨d,ds,rfl,ZfM hobj hle hcell n _ _ _ hx h1,Z8z hobj hle hcell n us y ds hy h2⟩
theorem Zbp:∀{H:Z00}{i:Nat}{o:AObj},Zh6 H=true->H[i]? = some o->ZlL o.body=true
 |[],i,o,h,e=>by simp at e
 |x::H,0,o,h,e=>by simp[Zh6]at h e;subst e;exact h.1
 |x::H,i+1,o,h,e=>by simp[Zh6]at h e;exact Zbp h.2 e
theorem Zbs {P : Program} {gl : Z0g} {f : Nat} {Hs Hs' Hc : Z00} {fargs cargs : List AV} {r : AV} {m : List Nat} {n : Nat} (hM : Z2i P gl f fargs Hs r Hs') (hargs : Z2E (ZkX m (Zol m Hc) n) cargs = some fargs) (hsub : HpGe Hc m m Hs 0)
  (hnd:Z0Q (m.map (Z1i Hc))=true) (hlone:Zha m (m.map (Z1i Hc)) 0 Hc=true) (hev:ZiX m.length Hs Hs'=true) (hro:Zh6 Hs'=true) (hrr:ZcS r=true) (hrk:Z12 m.length (Z2a r [])=true) :
  Z2i P gl f cargs Hc (ren (λb=>m.getD b 0) r) (Zff m Hs' 0 Hc):=by
 intro sn ι W vargs hg hR hl
 obtain⟨hl1,hg1⟩:=hsub.get
 obtain⟨hl2,hg2⟩:=ZaB hev
 have inm:∀b,b∈m->∃ (i:Nat) (o o2:AObj) (p:Place),m[i]? = some b/\Hc[b]? = some o/\Hs[i]? = some o2/\o.alive=true/\o2.alive=true /\ ι b=some p:=by
  intro b hb
  obtain⟨i,hi,rfl⟩:=List.mem_iff_getElem.1 hb
  obtain⟨j,o,o2,x1,x2,x3,x4,x5,_⟩:=hg1 i hi
  rw[Y02 hi]at x1
  cases x1
  obtain⟨p,hp⟩:=hR.place x2
  exact⟨i,o,o2,p,Y02 hi,x2,x3,x4,x5,hp⟩
 have apart_:∀(b:Nat)(o:AObj)(p:Place),Hc[b]? = some o->o.alive=true->b ∉ m -> ι b=some p->∀b' p',b'∈m -> ι b'=some p'->p'.blk≠p.blk:=by
  intro b o p ho hoa hb hp b' p' hb' hp' e
  obtain⟨i,o',o2,q,y1,y2,y3,y4,y5,y6⟩:=inm b' hb'
  have hs:=hR.sep b b' o o' p p' ho y2 hoa y4 hp hp' e.symm
  rcases Zbt hlone ho with h|h
  ·exact hb (by simpa using h)
  · refine h ?_
    rw[Y0y]
    exact⟨b',hb',by simp only[Z1i,y2];exact hs.1.symm⟩
 let q:Nat->Prop:=λc=>∃b p,b∈m /\ ι b=some p/\p.blk=c
 let sn2:Z0m:=λa=>open Classical in if q a.block\/¬a.block<W.heap.size then none else W.cell? a
 have hsn2:∀a v,sn2 a=some v->¬q a.block/\a.block<W.heap.size/\W.cell? a=some v:=λa v h=>by
  have h:(open Classical in if q a.block\/¬a.block<W.heap.size then none else W.cell? a)=some v:=h
  split at h
  ·cases h
  · rename_i hx
    simp only[not_or,Classical.not_not]at hx
    exact⟨hx.1,hx.2,h⟩
 have hsn2':∀a v,¬q a.block->a.block<W.heap.size->W.cell? a=some v->sn2 a=some v:=λa v h1 h2 h3=>by
  show (open Classical in if q a.block\/¬a.block<W.heap.size then none else W.cell? a)=some v
  rw[if_neg (by simp only[not_or,Classical.not_not];exact⟨h1,h2⟩)];exact h3
 have hle:∀a v,sn a=some v->sn2 a=some v:=λa v hv=>by
  obtain⟨h1,h2,h3⟩:=hR.snap a v hv
  refine hsn2' a v ?_ h1 h2
  rintro⟨b,p,hb,hp,e⟩
  obtain⟨i,o,o2,p',y1,y2,y3,y4,y5,y6⟩:=inm b hb
  exact h3 b o p y2 y4 hp e
 have hR0:=Zls hsub hnd hR
 have atm:∀{i:Nat}{p:Place},iot m ι i=some p->∃b,m[i]? = some b/\b∈m /\ ι b=some p:=λ{i p} hp=>by
  unfold iot at hp
  split at hp
  ·rename_i b hb;exact⟨b,hb,Y0l hb,hp⟩
  ·cases hp
 have hRs:R sn2 (iot m ι) Hs W:=by
  refine⟨hR0.dom,hR0.blk,λb o p hb ha hp=>Z0M ⟨hle,λ_ _ h=>h⟩ rfl (hR0.obj b o p hb ha hp),hR0.sep,λa v hv=>?_,hR0.shz⟩
  obtain⟨h1,h2,h3⟩:=hsn2 a v hv
  refine⟨h2,h3,λb o p hb ha hp e=>?_⟩
  obtain⟨c,_,hc,hp'⟩:=atm hp
  exact h1 ⟨c,p,hc,hp',e⟩
 have hla:LR sn2 (iot m ι) fargs vargs:=by
  refine Z8z (H:=Zol m Hc) (W:=W) (λb o p hb ha hp=>?_) (Z3b hle) (λb o p hb ha hp off v hv=>?_) n _ _ _ hargs hl
  ·exact hR.obj b o p (Zev hb ha).1 ha hp
  · obtain⟨h1,h2⟩:=Zev hb ha
    refine hsn2' _ v ?_ (hR.blk b p hp) hv
    rintro⟨b',p',hb',hp',e⟩
    exact apart_ b o p h1 ha h2 hp b' p' hb' hp' e
 refine (hM sn2 (iot m ι) W vargs (hg.mono (Z3b hle)) hRs hla).mono ?_
 rintro e W' ⟨v,sn',ι',rfl,hv,hst⟩
 have hback:∀i,i<m.length->∀p,ι' i=some p -> ι (m.getD i 0)=some p:=λi hi p hp=>by
  obtain⟨b,hb⟩:∃b,m[i]? = some b:=⟨m[i],Y02 hi⟩
  obtain⟨p0,hp0⟩:=(hRs.dom i).1 (by omega)
  have h1:=hst.le.ι i p0 hp0
  rw[hp]at h1;cases h1
  obtain⟨c,hc,_,hp1⟩:=atm hp0
  rw[hb]at hc;cases hc
  rw[Y0t,hb];exact hp1
 have hfwd:∀(i b:Nat)(p:Place),m[i]? = some b -> ι b=some p -> ι' i=some p:=λi b p hb hp=>hst.le.ι i p (by simp only[iot,hb];exact hp)
 have pos_:∀b,b∈m->∃i,Z5a m b 0=some i/\m[i]? = some b:=λb hb=>by
  cases hx:Z5a m b 0 with
  |none=>exact (Z5U hx hb).elim
  |some i=>exact⟨i,rfl,by simpa using (Z2e hx).2⟩
 have old:∀(b:Nat)(o:AObj)(p:Place),Hc[b]? = some o->o.alive=true->b ∉ m -> ι b=some p->W'.heap[p.blk]? = W.heap[p.blk]?:=λb o p ho hoa hb hp=>by
  refine hst.frame _ (hR.blk b p hp) λi o2 p2 hi ha hp2 e=>?_
  obtain⟨c,_,hc,hp3⟩:=atm hp2
  exact apart_ b o p ho hoa hb hp c p2 hc hp3 e
 have hup:∀(b:Nat)(o':AObj),(Zff m Hs' 0 Hc)[b]? = some o'->∃o,Hc[b]? = some o/\o'.fam=o.fam/\o'.sh=o.sh/\((b ∉ m/\o'=o)\/∃ (i:Nat) (x:AObj),m[i]? = some b/\Hs'[i]? = some x/\o'.alive=x.alive/\o'.body=Z59 (λb=>m.getD b 0) x.body/\o.alive=true):=by
  intro b o' h
  rw[ZdN]at h
  simp only[Y0w]at h
  cases hx:Hc[b]? with
  |none=>rw[hx]at h;cases h
  |some o =>
   rw[hx]at h
   simp only[Y0k,Option.some.injEq]at h
   refine⟨o,rfl,?_⟩
   by_cases hb:b∈m
   · obtain⟨i,h1,h2⟩:=pos_ b hb
     have hi:i<m.length:=(Y06.1 h2).1
     have hi':i<Hs'.length:=by omega
     rw[h1]at h
     simp only[Y02 hi']at h
     subst h
     obtain⟨_,y,_,_,_,y2,_,y4,_⟩:=inm b hb
     rw[hx]at y2;cases y2
     exact⟨rfl,rfl,.inr ⟨i,Hs'[i],h2,Y02 hi',rfl,rfl,y4⟩⟩
   · have hn : Z5a m b 0 = none := by
      cases hx:Z5a m b 0 with
      |none=>rfl
      |some i=>exact (hb (Y0l (Z2e hx).2)).elim
     rw[hn]at h
     subst h
     exact⟨rfl,rfl,.inl ⟨hb,rfl⟩⟩
 have hlen:(Zff m Hs' 0 Hc).length=Hc.length:=by
  have:∀(H:Z00)(i:Nat),(Zff m Hs' i H).length=H.length:=by
   intro H
   induction H with
   |nil=>intro i;rfl
   |cons o H ih=>intro i;simp[Zff,ih]
  exact this _ _
 have hnr:∀c,c<W.heap.size->(∀(b:Nat)(o:AObj) p,Hc[b]? = some o->o.alive=true -> ι b=some p->p.blk≠c)->W'.heap[c]? = W.heap[c]?:=λc hc hno=>by
  refine hst.frame c hc λi o2 p2 hi ha hp2 e=>?_
  obtain⟨b,_,hb,hp3⟩:=atm hp2
  obtain⟨_,o,_,_,_,y2,_,y4,_⟩:=inm b hb
  exact hno b o p2 y2 y4 hp3 e
 have hR':R sn ι (Zff m Hs' 0 Hc) W':=by
  refine⟨λb=>by rw[hlen];exact hR.dom b,λb p hp=>Y0C (hR.blk b p hp) hst.size,λb o' p hb ha hp=>?_,λb b' o o' p p' hb hb' ha ha' hp hp' e=>?_,λa v hv=>?_,λb o' p hb hp e=>?_⟩
  · obtain⟨o,ho,_,_,h|⟨i,x,h1,h2,h3,h4,h5⟩⟩:=hup b o' hb
    · obtain⟨h1,rfl⟩:=h
      exact Z0M (Le.refl _ _) (old b _ p ho ha h1 hp) (hR.obj b _ p ho ha hp)
    · rw[h4]
      have hi:i<m.length:=(Y06.1 h1).1
      have h6:=hst.rel.obj i x p h2 (by rw[<- h3];exact ha) (hfwd i b p h1 hp)
      have h7:=(hg2 i _ x (Y02 (by omega)) h2).2.2.2
      exact Z8Z x.body (Z27 x.body p (λy hy=>hback y (Z0I h7 y hy)) (ZmW x.body (Zbp hro h2) h6))
  · obtain⟨x,hx,e1,e2,hz⟩:=hup b o hb
    obtain⟨y,hy,e3,e4,hw⟩:=hup b' o' hb'
    have hxa:x.alive=true:=by
     rcases hz with ⟨_,rfl⟩|⟨_,_,_,_,_,_,h⟩
     ·exact ha
     ·exact h
    have hya:y.alive=true:=by
     rcases hw with ⟨_,rfl⟩|⟨_,_,_,_,_,_,h⟩
     ·exact ha'
     ·exact h
    have:=hR.sep b b' x y p p' hx hy hxa hya hp hp' e
    rw[e1,e2,e3,e4];exact this
  · obtain⟨h1,h2,h3⟩:=hR.snap a v hv
    refine⟨Y0C h1 hst.size,?_,λb o' p hb ha hp=>?_⟩
    ·rw[<- h2];exact World.cell?_of_block (hnr _ h1 h3)
    · obtain⟨o,ho,_,_,h|⟨i,x,_,_,_,_,h5⟩⟩:=hup b o' hb
      ·obtain⟨_,rfl⟩:=h;exact h3 b _ p ho ha hp
      ·exact h3 b o p ho h5 hp
  · obtain⟨o,ho,_,e2,_⟩:=hup b o' hb
    exact hR.shz b o p ho hp (by rw[<- e2];exact e)
 refine⟨v,sn,ι,rfl,?_,hR',Le.refl _ _,λ_ _ h=>.inl h,hnr,hst.size,hst.os,hst.tape,hst.output,λ_ _ h=>.inl h,λb o hb=>?_⟩
 ·exact (Z5d r v).2 (Z1c r [] v (λy hy=>hback y (Z0I hrk y hy)) (Z4A r v hrr hv))
 · have hb':b<(Zff m Hs' 0 Hc).length:=by rw[hlen];exact (Y06.1 hb).1
   have hx:=Y02 hb'
   obtain⟨x,hx1,e1,e2,h|⟨i,y,h1,h2,h3,h4,h5⟩⟩:=hup b _ hx
   · rw[hb]at hx1;cases hx1
     exact⟨_,hx,e1,e2,λha=>by rw[h.2]at ha;exact ha⟩
   · rw[hb]at hx1;cases hx1
     exact⟨_,hx,e1,e2,λ_=>h5⟩
end Go.Abs
end
namespace Go.Proofs.YtneoiadnbikciaaGreatDoor.lex
open Go.Abs Go.RowKit
section
theorem follows:Y00.follows .mixedOrders=true:=by kernel_rfl
theorem Zab:(Y00.funcs.toList.all λfn=>!(fn.name == "runtime.NumGoroutine"))=true:=by kernel_rfl
theorem Z06:NoNum Y00:=⟨λg fn h=>by
 have h1:=Y0D.1 Zab fn (Array.mem_toList_iff.2 (Array.mem_of_getElem? h))
 simpa using h1,of_decide_eq_true (by kernel_rfl)⟩
variable {gl:Z0g}
theorem Z0u:OrcSound Y00 gl (ZiT λ_ _=>none):=Z6B λ_ _ _ h=>by cases h
def Z7m(n:Int):Bool:=decide (97<=n)&&decide (n<=122) || decide (65<=n)&&decide (n<=90)
def Z1d(n:Int):Bool:=decide (48<=n)&&decide (n<=57)
theorem Zet(n:Int):ValOK Y00 gl 123 [.int .u8 n] (.bool (Z7m n)):=by
 refine Z0B follows Z06 Z0u Tryz.func123 rfl ?_
 repeat' ((conv=>whnf);first|refine stp ?_|with_reducible apply Z01<;>intro h)
 all_goals (try simp_all[Z0Z,Z7m])
 all_goals omega
theorem ZeO(n:Int):ValOK Y00 gl 125 [.int .u8 n] (.bool (Z1d n)):=by
 refine Z0B follows Z06 Z0u Tryz.func125 rfl ?_
 repeat' ((conv=>whnf);first|refine stp ?_|with_reducible apply Z01<;>intro h)
 all_goals (try simp_all[Z0Z,Z1d])
 all_goals omega
theorem Zaf(n:Int):ValOK Y00 gl 67 [.int .u8 n] (.bool (Z7m n)):=by
 refine Z0B follows Z06 Z0u Tryz.func67 rfl ?_
 repeat' ((conv=>whnf);first|refine stp ?_|with_reducible apply Z01<;>intro h)
 all_goals (try simp_all[Z0Z,Z7m])
 all_goals omega
theorem ZaF(n:Int):ValOK Y00 gl 68 [.int .u8 n] (.bool (Z1d n)):=by
 refine Z0B follows Z06 Z0u Tryz.func68 rfl ?_
 repeat' ((conv=>whnf);first|refine stp ?_|with_reducible apply Z01<;>intro h)
 all_goals (try simp_all[Z0Z,Z1d])
 all_goals omega
def F1(f:Nat)(xs:List AV):Option AV:=match f with
 |123=>match xs with|[.int .u8 n]=>some (.bool (Z7m n))|_=>none
 |125=>match xs with|[.int .u8 n]=>some (.bool (Z1d n))|_=>none
 |67=>match xs with|[.int .u8 n]=>some (.bool (Z7m n))|_=>none
 |68=>match xs with|[.int .u8 n]=>some (.bool (Z1d n))|_=>none
 |_=>none
theorem ZiM{f:Nat}{xs:List AV}{r:AV}(h:F1 f xs=some r):plain r=true/\ValOK Y00 gl f xs r:=by
 unfold F1 at h
 split at h<;>try (cases h;done)
 all_goals (split at h<;>cases h)
 ·exact⟨rfl,Zet _⟩
 ·exact⟨rfl,ZeO _⟩
 ·exact⟨rfl,Zaf _⟩
 ·exact⟨rfl,ZaF _⟩
theorem Z7S:OrcSound Y00 gl (Z7H F1):=Z0V λf xs r h=>ZiM h
def Zcq(n:Int):Bool:=Z7m n || Z1d n || n==95
theorem Z9R(n:Int):ValOK Y00 gl 124 [.int .u8 n] (.bool (Zcq n)):=by
 refine Z0B follows Z06 Z7S Tryz.func124 rfl ?_
 repeat' ((conv=>whnf);first|refine stp ?_|with_reducible apply Z01<;>intro h)
 all_goals (try simp_all[Z0Z,Zcq])
def F2(f:Nat)(xs:List AV):Option AV:=match f with
 |124=>match xs with|[.int .u8 n]=>some (.bool (Zcq n))|_=>none
 |f=>F1 f xs
theorem Z9M{f:Nat}{xs:List AV}{r:AV}(h:F2 f xs=some r):plain r=true/\ValOK Y00 gl f xs r:=by
 unfold F2 at h
 split at h
 · split at h<;>cases h
   exact⟨rfl,Z9R _⟩
 ·exact ZiM h
theorem ZaZ:OrcSound Y00 gl (Z7H F2):=Z0V λf xs r h=>Z9M h
def Z0j(p:Int->Bool)(s:List UInt8):Nat:=(s.takeWhile λc=>p c.toNat).length
theorem Z13{p:Int->Bool}{c:UInt8}(l:List UInt8)(h:p c.toNat=true):Z0j p (c::l)=Z0j p l+1:=by simp[Z0j,h]
theorem Z0Y{p:Int->Bool}{c:UInt8}(l:List UInt8)(h:p c.toNat=false):Z0j p (c::l)=0:=by simp[Z0j,h]
theorem Z39 (g : Nat) (p : Int -> Bool) (hF : ∀ n, F2 g [.int .u8 n] = some (.bool (p n))) (hb : Z0h Y00 g = true) (s : List UInt8) (hs : s.length <= 9223372036854775807) :
  ValOK Y00 gl 112 [.str s,.func (.func g) [] []] (.int .i64 (Z0j p s)):=by
 refine Z0B follows Z06 ZaZ Tryz.func112 rfl ?_
 conv=>whnf
 refine⟨Nat,(λk=>k<=s.length/\Z0j p s=k+Z0j p (s.drop k)),(λk=>[(0,.str s),(1,.func (.func g) [] []),(5,.int .i64 k)]),(λ_=>[]),(λk=>s.length-k),⟨0,⟨Y0e _,by simp⟩,?_⟩,?_⟩
 · refine FgL.mk0 rfl ?_
   refine Y0c (Y01 rfl) ?_
   refine Y0c (Y01 rfl) ?_
   refine Y0c (Y01 rfl) ?_
   trivial
 · intro k ⟨hk,hsp⟩
   by_cases hlt:k<s.length
   · have e1:decide ((k:Int)<(s.length:Int))=true:=by simpa using hlt
     have hc:s[k]? = some s[k]:=by simp[hlt]
     have hd:s.drop k=s[k]::s.drop (k+1):=Y0u hlt
     cases hp:p s[k].toNat with
     |true =>
      repeat' ((conv=>whnf);first|with_reducible refine ixS _ rfl hc ?_|with_reducible refine exI (Z25 hb rfl (hF _)) ?_|refine stp ?_|with_reducible apply Z01<;>intro h)
      (conv=>whnf)
      have hn:=Z13 (s.drop (k+1)) hp
      rw[<- hd]at hn
      exact⟨k+1,⟨hlt,by omega⟩,by show s.length-(k+1)<s.length-k;omega,FgL.mk0 rfl ⟨Y01 rfl,Y01 rfl,Y09 rfl,trivial⟩⟩
     |false =>
      repeat' ((conv=>whnf);first|with_reducible refine ixS _ rfl hc ?_|with_reducible refine exI (Z25 hb rfl (hF _)) ?_|refine stp ?_|with_reducible apply Z01<;>intro h)
      have hn:=Z0Y (s.drop (k+1)) hp
      rw[<- hd]at hn
      rw[hsp,hn];rfl
   · have e1:decide ((k:Int)<(s.length:Int))=false:=by simpa using hlt
     have hk':k=s.length:=by omega
     repeat' ((conv=>whnf);first|refine stp ?_|with_reducible apply Z01<;>intro h)
     rw[hsp,hk'];simp[Z0Z,Z0j]
theorem Z2S(p:Int->Bool)(s:List UInt8):Z0j p s<=s.length:=by
 unfold Z0j;exact (List.takeWhile_prefix _).length_le
theorem Z6r(c:UInt8)(n:Nat)(h:n<256):((c.toNat:Int)==(n:Int))=(c==UInt8.ofNat n):=by
 by_cases e:c=UInt8.ofNat n
 ·subst e;simp;omega
 · have:c.toNat≠n:=λe'=>e (by apply UInt8.toNat_inj.1;rw[e'];simp[Nat.mod_eq_of_lt h])
   rw[beq_eq_false_iff_ne.2 e,beq_eq_false_iff_ne];omega
def F3(f:Nat)(xs:List AV):Option AV:=match f with
 |112=>match xs with
  |[.str s,.func (.func 124) [] []]=>if s.length<=9223372036854775807 then some (.int .i64 (Z0j Zcq s)) else none
  |_=>none
 |f=>F2 f xs
theorem Zch{f:Nat}{xs:List AV}{r:AV}(h:F3 f xs=some r):plain r=true/\ValOK Y00 gl f xs r:=by
 unfold F3 at h
 split at h
 · split at h<;>try (cases h;done)
   split at h<;>cases h
   rename_i hs
   exact⟨rfl,Z39 124 Zcq (λ_=>rfl) (by kernel_rfl) _ hs⟩
 ·exact Z9M h
theorem Z1Y:OrcSound Y00 gl (Z7H F3):=Z0V λf xs r h=>Zch h
def Z0d:List UInt8->Nat
 |[]=>0
 |c::s=>if Z7m c.toNat then Z0j Zcq (c::s) else 0
theorem Zcp(s:List UInt8)(hs:s.length<=9223372036854775807):ValOK Y00 gl 116 [.str s] (.int .i64 (Z0d s)):=by
 match s with
 |[] =>
  refine Z0B follows Z06 Z1Y Tryz.func116 rfl ?_
  repeat' ((conv=>whnf);first|refine stp ?_|with_reducible apply Z01<;>intro h)
  all_goals (try simp_all[Z0Z,Z0d])
 |c::s =>
  have h1:((c::s)==[])=false:=by simp
  have h2:(c::s)[0]? = some c:=rfl
  refine Z0B follows Z06 Z1Y Tryz.func116 rfl ?_
  repeat' ((conv=>whnf);first|with_reducible refine ixS 0 rfl h2 ?_|refine stp ?_|with_reducible apply Z01<;>intro h)
  all_goals (try (simp_all[Z0Z,Z0d];done))
def keysL:List (List UInt8):=[[115,104,97,114,101,100],[112,108,97,105,110],[116,104,114,101,97,100],[105,102],[101,108,115,101],[119,104,105,108,101],[108,111,97,100],[115,116,111,114,101],[99,97,115],[97,100,100],[115,119,97,112],[102,101,110,99,101],[97,115,115,117,109,101],[97,115,115,101,114,116],[110,97],[114,108,120],[97,99,113],[114,101,108],[97,114],[115,99]]
def ZaD:Nat->List (List UInt8)->List (AV×AV×Nat)
 |_,[]=>[]
 |n,k::l=>(.str k,.agg [],n)::ZaD (n+1) l
def ZoL:ABody:=.map (ZaD 0 keysL) 20
theorem Zd9(x:List UInt8):∀(l:List (List UInt8))(n i:Nat),∃o,Z6T .string (.str x) (ZaD n l) i=some o/\o.isSome=l.contains x/\∀p,o=some p->p.2 = .agg []
 |[],n,i=>⟨none,rfl,by simp,λp h=>by cases h⟩
 |k::l,n,i=>by
  obtain⟨o,h1,h2,h3⟩:=Zd9 x l (n+1) (i+1)
  by_cases e:x=k
  · subst e
    exact⟨some (i,.agg []),by simp[ZaD,Z6T,ZaS],by simp,λp h=>by cases h;rfl⟩
  · refine⟨o,?_,by simp[h2,e],h3⟩
    have:(x==k)=false:=by simpa using e
    simp[ZaD,Z6T,ZaS,this,h1]
theorem kdK:Z5q Y00 125=some (.string,142):=by kernel_rfl
theorem Z7L{H:Z00}{b:Nat}(x:List UInt8)(h:ZfB H (.map b)=some (ZaD 0 keysL)):Z2m Y00 125 (.map b) (.str x) true H=some (.tuple [.agg [],.bool (keysL.contains x)]):=by
 obtain⟨o,h1,h2,h3⟩:=Zd9 x keysL 0 0
 have hz:Z47 Y00 142=some (.agg []):=by kernel_rfl
 simp only[Z2m,kdK,h,h1,<- h2]
 cases o with
 |none=>simp[hz]
 |some p=>have:=h3 p rfl;obtain⟨j,v⟩:=p;subst this;simp
def Z91(s:List UInt8):AV:=if s≠[]/\Z0d s=s.length then .tuple [.int .i64 (if keysL.contains s then 2 else 1),.bool true] else .tuple [.int .i64 0,.bool false]
def F4(f:Nat)(xs:List AV):Option AV:=match f with
 |116=>match xs with|[.str s]=>if s.length<=9223372036854775807 then some (.int .i64 (Z0d s)) else none|_=>none
 |f=>F3 f xs
theorem Zfb{f:Nat}{xs:List AV}{r:AV}(h:F4 f xs=some r):plain r=true/\ValOK Y00 gl f xs r:=by
 unfold F4 at h
 split at h
 · split at h<;>try (cases h;done)
   split at h<;>cases h
   rename_i hs;exact⟨rfl,Zcp _ hs⟩
 ·exact Zch h
theorem Z6p:OrcSound Y00 gl (Z7H F4):=Z0V λf xs r h=>Zfb h
section
attribute [local irreducible] Z0d
theorem Zj1(s:List UInt8)(hs:s.length<=9223372036854775807):ValOK Y00 gl 105 [.str s] (Z91 s):=by
 have e2:F4 116 [.str s]=some (.int .i64 (Z0d s)):=by simp only[F4];rw[if_pos (by omega)]
 have hb:Z0h Y00 116=true:=by kernel_rfl
 refine Z1z (λg=>Y03 g 116) 2 follows Z06 Z6p Tryz.func105 rfl ?_
 by_cases h0:s=[]
 · have e1:(s==[])=true:=by simpa using h0
   repeat' ((conv=>whnf);(first|refine stp ?_|with_reducible apply Z01<;>intro h))
   unfold Z91;rw[if_neg (by simp[h0])]
 · have e1:(s==[])=false:=by simpa using h0
   by_cases hw:Z0d s=s.length
   · have e3:((Z0d s:Int) != (s.length:Int))=false:=by rw[hw];simp
     have eR:Z91 s = .tuple [.int .i64 (if keysL.contains s then 2 else 1),.bool true]:=by unfold Z91;rw[if_pos ⟨h0,hw⟩]
     rw[eR]
     cases hc:keysL.contains s with
     |true =>
      repeat' ((conv=>whnf);first|with_reducible refine exI (Z25 hb rfl e2) ?_|(with_reducible refine exI (Z7L _ ?_) ?_;(focus rfl))|refine stp ?_|with_reducible apply Z01<;>intro h)
      conv=>whnf
      refine exI (Z7L _ ?_) ?_
      ·rfl
      rw[hc]
      repeat' ((conv=>whnf);(first|refine stp ?_|with_reducible apply Z01<;>intro h))
      rfl
     |false =>
      repeat' ((conv=>whnf);first|with_reducible refine exI (Z25 hb rfl e2) ?_|(with_reducible refine exI (Z7L _ ?_) ?_;(focus rfl))|refine stp ?_|with_reducible apply Z01<;>intro h)
      conv=>whnf
      refine exI (Z7L _ ?_) ?_
      ·rfl
      rw[hc]
      repeat' ((conv=>whnf);(first|refine stp ?_|with_reducible apply Z01<;>intro h))
      rfl
   · have e3:((Z0d s:Int) != (s.length:Int))=true:=by simp;omega
     repeat' ((conv=>whnf);first|with_reducible refine exI (Z25 hb rfl e2) ?_|refine stp ?_|with_reducible apply Z01<;>intro h)
     unfold Z91;rw[if_neg (λh=>hw h.2)]
end
theorem ZlT(x:List UInt8):ValOK Y00 gl 69 [.str x] (.int .i64 (if keysL.contains x then 2 else 1)):=by
 refine Z1z (λ_=>false) 2 follows Z06 Z7S Tryz.func69 rfl ?_
 repeat' ((conv=>whnf);first|refine stp ?_|with_reducible apply Z01<;>intro h)
 conv=>whnf
 refine⟨Nat,(λi=>i<=20/\keysL.contains x=(keysL.drop i).contains x),(λi=>[(0,.str x),(3,.slice 0 0 20 20 1),(4,.int .i64 i)]),(λ_=>[⟨true,0,0,.cells (keysL.map AV.str) 9⟩]),(λi=>20-i),⟨0,⟨by omega,rfl⟩,?_⟩,?_⟩
 · refine FgL.mk [0] rfl ?_ ?_ rfl
   ·exact⟨Y01 rfl,Wk.slice rfl rfl rfl (Y04 _) (Y04 _) rfl,Y09 rfl,trivial⟩
   ·exact⟨⟨rfl,rfl,rfl,rfl,Y07 (rest:=[]) rfl rfl⟩,trivial⟩
 · intro i ⟨hi,hs⟩
   by_cases hlt:i<20
   · have e1:decide ((i:Int)<20)=true:=by simp;omega
     have hlk:i<keysL.length:=hlt
     have hd:keysL.drop i=keysL[i]::keysL.drop (i+1):=Y0u hlk
     repeat' ((conv=>whnf);first|(with_reducible refine exI (Z9Y AV.str keysL i hlk ?_) ?_;focus omega)|refine stp ?_|with_reducible apply Z01<;>intro h)
     · have hc:keysL.contains x=true:=by rw[hs,hd,List.contains_cons,eq_of_beq h];simp
       rw[hc];rfl
     · conv=>whnf
       have hx:(x==keysL[i])=false:=beq_eq_false_iff_ne.2 (λe=>by rw[<- e]at h;simp at h)
       exact⟨i+1,⟨hlt,by rw[hs,hd,List.contains_cons,hx,Bool.false_or]⟩,by show 20-(i+1)<20-i;omega,FgL.mk [0] rfl ⟨Y01 rfl,Wk.slice rfl rfl rfl (Y04 _) (Y04 _) rfl,Y09 rfl,trivial⟩ ⟨⟨rfl,rfl,rfl,rfl,Y07 (rest:=[]) rfl rfl⟩,trivial⟩ rfl⟩
   · have e1:decide ((i:Int)<20)=false:=by simp;omega
     have hi':i=20:=by omega
     subst hi'
     repeat' ((conv=>whnf);first|refine stp ?_|with_reducible apply Z01<;>intro h)
     have hc:keysL.contains x=false:=by rw[hs];rfl
     rw[hc];rfl
def F5(f:Nat)(xs:List AV):Option AV:=match f with
 |69=>match xs with|[.str x]=>some (.int .i64 (if keysL.contains x then 2 else 1))|_=>none
 |f=>F1 f xs
theorem ZiL{f:Nat}{xs:List AV}{r:AV}(h:F5 f xs=some r):plain r=true/\ValOK Y00 gl f xs r:=by
 unfold F5 at h
 split at h
 · split at h<;>cases h
   exact⟨rfl,ZlT _⟩
 ·exact ZiM h
theorem Zfa:OrcSound Y00 gl (Z7H F5):=Z0V λf xs r h=>ZiL h
end
end Go.Proofs.YtneoiadnbikciaaGreatDoor.lex
section
namespace Go.Abs
open Go.RowKit
theorem Wk.nil{m:List Nat}{z:Nat}:Wk m .nslice (.rs 0 z []):=λsn ι v h=>by simp only[VR]at h⊢;exact .inl ⟨trivial,trivial,h⟩
theorem swA{A B:Prop}(h:A):Zg1 (A/\B) B:=λb=>⟨h,b⟩
theorem stw{P Q:Prop}(q:Q)(h:Zg1 P Q:=by
 first
 |(refine swA (Wk.int ?_);(focus (first|rfl|omega|(simp;done)|(simp;omega))))|(refine swA (Wk.bool ?_);(focus (first|rfl|(simp;done))))|exact swA (Wk.noref rfl)
 |exact swA (Wk.ptr rfl rfl)|(refine swA (Wk.slice rfl ?_ ?_ ?_ ?_ ?_);(focus (first|rfl|omega));(focus (first|rfl|omega));(focus (first|rfl|omega));(focus (first|rfl|omega));(focus rfl))|exact swA Wk.nil|exact swA (Wk.func trivial ⟨Wk.ptr rfl rfl,trivial⟩)|exact swA (Wk.map rfl)):P:=h q
theorem ValOK.weak{P:Program}{gl:Z0g}{f:Nat}{args args2:List AV}{r:AV}(h:ValOK P gl f args2 r)(hw:∀sn vs,LR sn noI args vs->LR sn noI args2 vs):ValOK P gl f args r :=
 λsn W cargs hg hR ha=>h sn W cargs hg hR (hw _ _ ha)
theorem Z2B{z:Nat}{sn:Z0m}{ι : Z0i}{v:Value}(h:VR sn ι .nslice v):VR sn ι (.rs 0 z []) v:=by simp only[VR]at h⊢;exact .inl ⟨trivial,trivial,h⟩
section
open Classical
noncomputable def Zn2{I:Type}(G:I->Prop)(fF:I->Nat)(fA:I->List AV)(fR:I->AV):Orc:=ZiT λf args=>if h:∃i,G i/\fF i=f/\fA i=args then some (fR (Classical.choose h)) else none
theorem Zfz{P:Program}{gl:Z0g}{I:Type}{G:I->Prop}{fF:I->Nat}{fA:I->List AV}{fR:I->AV}(h:∀i,G i->refsL (fA i) []=[]/\ValOK P gl (fF i) (fA i) (fR i)):OrcSound P gl (Zn2 G fF fA fR):=Z6B λf args r e=>by
 split at e
 · rename_i hx
   simp only[Option.some.injEq]at e
   subst e
   obtain⟨g1,e1,e2⟩:=Classical.choose_spec hx
   have:=h _ g1
   rw[e1,e2]at this;exact this
 ·cases e
theorem Zp9 {P : Program} {I : Type} {G : I -> Prop} {fF : I -> Nat} {fA : I -> List AV} {fR : I -> AV} (hinj : ∀ i j, G i -> G j -> fF i = fF j -> fA i = fA j -> fR i = fR j) {H : Z00} (i : I) (hb : Z0h P (fF i) = true) (hi : G i) :
  Z05 P (Zn2 G fF fA fR) H (fF i) (fA i)=some (fR i,H):=by
 have hx:∃j,G j/\fF j=fF i/\fA j=fA i:=⟨i,hi,rfl,rfl⟩
 unfold Z05
 rw[if_pos hb]
 unfold Zn2 ZiT
 simp only[dif_pos hx]
 obtain⟨g1,g2,g3⟩:=Classical.choose_spec hx
 rw[hinj _ i g1 hi g2 g3]
theorem Z3r{I:Type}{G:I->Prop}{fF:I->Nat}{fA:I->List AV}{fH:I->Z00}{fR:I->AV}{fO:I->Z00}{g:Nat}{args:List AV}{H:Z00}(h:∀i,G i->fF i=g->fA i≠args):orcI G fF fA fH fR fO g args H=none:=by
 unfold orcI
 rw[dif_neg]
 rintro⟨i,h1,h2,h3,_⟩
 exact h i h1 h2 h3
end
theorem Z5w{P:Program}{o1 o2:Orc}{H:Z00}{g:Nat}{args:List AV}{x:AV×Z00}(hb:Z0h P g=true)(h:Z05 P o1 H g args=some x):Z05 P (Z3q o1 o2) H g args=some x:=by
 unfold Z05 at h⊢
 rw[if_pos hb]at h⊢
 unfold Z3q;rw[h]
theorem Z5v{P:Program}{o1 o2:Orc}{H:Z00}{g:Nat}{args:List AV}{x:AV×Z00}(hb:Z0h P g=true)(h1:o1 g args H=none)(h:Z05 P o2 H g args=some x):Z05 P (Z3q o1 o2) H g args=some x:=by
 unfold Z05 at h⊢
 rw[if_pos hb]at h⊢
 unfold Z3q;rw[h1];exact h
structure Fam (P:Program) (gl:Z0g) where
 I:Type
 f:Nat
 G:I->Prop
 A:I->List AV
 R:I->AV
 body:Z0h P f=true
 inj:∀i j,G i->G j->A i=A j->R i=R j
 ok:∀i,G i->refsL (A i) []=[]/\ValOK P gl f (A i) (R i)
structure FamM (P:Program) (gl:Z0g) where
 I:Type
 f:Nat
 G:I->Prop
 A:I->List AV
 H:I->Z00
 R:I->AV
 O:I->Z00
 body:Z0h P f=true
 inj:∀i j,G i->G j->A i=A j->H i=H j->R i=R j/\O i=O j
 ok:∀i,G i->Z2i P gl f (A i) (H i) (R i) (O i)
section
variable {P:Program} {gl:Z0g}
def Fam.Ask(F:Fam P gl)(O:Orc):Prop:=∀i,F.G i->∀H,Z05 P O H F.f (F.A i)=some (F.R i,H)
def FamM.Ask(F:FamM P gl)(O:Orc):Prop:=∀i,F.G i->Z05 P O (F.H i) F.f (F.A i)=some (F.R i,F.O i)
def AllAsk(O:Orc):List (Fam P gl)->Prop
 |[]=>True
 |F::l=>F.Ask O/\AllAsk O l
def AllAskM(O:Orc):List (FamM P gl)->Prop
 |[]=>True
 |F::l=>F.Ask O/\AllAskM O l
theorem Zdx{o O:Orc}{f:Nat}(ho:∀g args H,g≠f->o g args H=none):(∀F:Fam P gl,F.f≠f->F.Ask O->F.Ask (Z3q o O))/\(∀F:FamM P gl,F.f≠f->F.Ask O->F.Ask (Z3q o O)) :=
 ⟨λF hf h i hi H=>Z5v F.body (ho _ _ _ hf) (h i hi H),λF hf h i hi=>Z5v F.body (ho _ _ _ hf) (h i hi)⟩
theorem Z7O:∀(l:List (Fam P gl)),Z0Q (l.map (·.f))=true->∃O,OrcSound P gl O/\AllAsk O l
 |[],_=>⟨λ_ _ _=>none,(λf args H r H' h=>by cases h),trivial⟩
 |F::l,h=>by
  simp only[Y0z,Z0Q,Y05,Y0m]at h
  obtain⟨O,hO,ha⟩:=Z7O l h.2
  have ho:∀g args H,g≠F.f->Zn2 F.G (λ_=>F.f) F.A F.R g args H=none:=by
   intro g args H hg
   have:¬ ∃i,F.G i/\F.f=g/\F.A i=args:=by
    rintro⟨i,_,h2,_⟩
    exact hg h2.symm
   simp only[Zn2,ZiT,dif_neg this]
  refine⟨Z3q (Zn2 F.G (λ_=>F.f) F.A F.R) O,Z23 (Zfz F.ok) hO,λi hi H=>Z5w F.body (Zp9 (λi j hi hj _ ha=>F.inj i j hi hj ha) i F.body hi),?_⟩
  have hn:∀G∈l,G.f≠F.f:=λG hG e=>by
   have h1:=h.1
   have:mem F.f (l.map (·.f))=true:=Z11.2 (by rw[<- e];exact List.mem_map_of_mem hG)
   rw[this]at h1;cases h1
  clear h
  induction l with
  |nil=>trivial
  |cons G l ih =>
   exact⟨(Zdx ho).1 G (hn G (by simp)) ha.1,ih ha.2 λK hK=>hn K (by simp[hK])⟩
theorem fams(l:List (Fam P gl))(h:Z0Q (l.map (·.f))=true):∃O,OrcSound P gl O/\AllAsk O l:=Z7O l h
theorem AllAsk.add{o O:Orc}{f:Nat}(ho:∀g args H,g≠f->o g args H=none):∀{l:List (Fam P gl)},mem f (l.map (·.f))=false->AllAsk O l->AllAsk (Z3q o O) l
 |[],_,_=>trivial
 |F::l,h,ha=>by
  simp only[Y0z,mem,Bool.or_eq_false_iff]at h
  exact⟨(Zdx ho).1 F (λe=>by rw[e]at h;simp at h) ha.1,AllAsk.add ho h.2 ha.2⟩
theorem AllAskM.add{o O:Orc}{f:Nat}(ho:∀g args H,g≠f->o g args H=none):∀{l:List (FamM P gl)},mem f (l.map (·.f))=false->AllAskM O l->AllAskM (Z3q o O) l
 |[],_,_=>trivial
 |F::l,h,ha=>by
  simp only[Y0z,mem,Bool.or_eq_false_iff]at h
  exact⟨(Zdx ho).2 F (λe=>by rw[e]at h;simp at h) ha.1,AllAskM.add ho h.2 ha.2⟩
theorem Z3v:∀(m:List (FamM P gl))(l:List (Fam P gl)),Z0Q (m.map (·.f)++l.map (·.f))=true->∃O,OrcSound P gl O/\AllAskM O m/\AllAsk O l
 |[],l,h=>by
  obtain⟨O,h1,h2⟩:=Z7O l h
  exact⟨O,h1,trivial,h2⟩
 |F::m,l,h=>by
  simp only[Y0z,Y08,Z0Q,Y05,Y0m]at h
  obtain⟨O,hO,ha,hb⟩:=Z3v m l h.2
  have ho:∀g args H,g≠F.f->orcI F.G (λ_=>F.f) F.A F.H F.R F.O g args H=none:=λg args H hg=>Z3r λi _ e=>absurd e.symm hg
  have hmem:∀{a b:List Nat},mem F.f (a++b)=false->mem F.f a=false/\mem F.f b=false:=by
   intro a b h
   constructor
   · cases hx:mem F.f a with
     |false=>rfl
     |true=>rw[Z11.2 (List.mem_append.2 (.inl (Z11.1 hx)))]at h;cases h
   · cases hx:mem F.f b with
     |false=>rfl
     |true=>rw[Z11.2 (List.mem_append.2 (.inr (Z11.1 hx)))]at h;cases h
  obtain⟨n1,n2⟩:=hmem h.1
  refine⟨Z3q (orcI F.G (λ_=>F.f) F.A F.H F.R F.O) O,Z23 (Z2r F.ok) hO,⟨λi hi=>Z5w F.body (Zdm (λi j hi hj _ ha hh=>F.inj i j hi hj ha hh) F.body i hi rfl rfl rfl),AllAskM.add ho n1 ha⟩,AllAsk.add ho n2 hb⟩
end
theorem hbp{a b:Bool}{f i s s2:Nat}{m:List Nat}{cs cs2:List AV}{ty:TypeId}(h1:a=true:=by rfl)(h2:b=true:=by rfl)(h3:f=i:=by rfl)(h4:s2=s:=by rfl)(h5:cs=cs2++[]:=by rfl)(h6:refsL cs2 []=[]:=by rfl):a=true/\b=true/\f=i/\s2=s/\BodyGe m (.cells cs ty) (.cells cs2 ty):=⟨h1,h2,h3,h4,BodyGe.pre (rest:=[]) h5 h6⟩
theorem wks{P:Prop}(h:P:=by (repeat (first|exact trivial|refine stw ?_));done):P:=h
theorem neS{α : Type}{l:List α}(h:l≠[]:=by first|exact List.cons_ne_nil _ _|assumption|(simp;done)|(intro hz;simp only[List.append_eq_nil_iff]at hz;simp_all;done)):l≠[]:=h
theorem leS{P:Prop}(h:P:=by (try simp only[List.length_append,List.length_cons,List.length_nil]at *);omega):P:=h
end Go.Abs
end
namespace Go.Proofs.YtneoiadnbikciaaGreatDoor.lex
open Go.Abs Go.RowKit
section
variable {gl:Z0g}
theorem Z5c{α : Type}[BEq α]{x y : α}{b:Bool}(h:(x==y)=b):(x != y) = !b:=by simp only[bne,h]
inductive Ex where
 |mk (op num:Int) (name:List UInt8) (kids:List Ex)
instance:Inhabited Ex:=⟨.mk 0 0 [] []⟩
def Ex.op:Ex->Int
 | .mk o _ _ _=>o
def Ex.num:Ex->Int
 | .mk _ n _ _=>n
def Ex.name:Ex->List UInt8
 | .mk _ _ s _=>s
def Ex.kids:Ex->List Ex
 | .mk _ _ _ k=>k
mutual
def Ex.cells:Ex->List AV
 | .mk op num name kids=>[.int .i64 op,.int .i64 num,.str name,.rs kids.length 4 (exC kids)]
def exC:List Ex->List AV
 |[]=>[]
 |e::l=>e.cells++exC l
end
def exA(l:List Ex):AV:=.rs l.length 4 (exC l)
mutual
def Z1x:Ex->Nat
 | .mk _ _ _ kids=>1+sizeL kids
def sizeL:List Ex->Nat
 |[]=>0
 |e::l=>Z1x e+sizeL l
end
mutual
def ZmB:Ex->Nat
 | .mk _ _ _ kids=>deepL kids+1
def deepL:List Ex->Nat
 |[]=>0
 |e::l=>max (ZmB e) (deepL l)
end
theorem Z4t:∀e:Ex,e.cells.length=4
 | .mk _ _ _ _=>by simp only[Ex.cells];rfl
theorem Z6K:∀l:List Ex,(exC l).length=l.length*4
 |[]=>by simp only[exC];rfl
 |e::l=>by simp only[exC,Y0h,Z4t,Z6K l,Y0d];omega
theorem ZhW:∀a b:List Ex,exC (a++b)=exC a++exC b
 |[],b=>by simp only[exC,Y0a]
 |e::a,b=>by simp only[exC,Y08,ZhW a b,List.append_assoc]
theorem Zkb(e:Ex)(l:List Ex)(i:Nat):(exC (e::l)).drop ((i+1)*4)=(exC l).drop (i*4):=by
 have h:(i+1)*4=4+i*4:=by omega
 rw[h,<- List.drop_drop,exC,List.drop_left' (Z4t e)]
theorem Zgj:∀(a b:List AV),tk a.length (a++b)=some a
 |[],b=>by cases b<;>rfl
 |c::a,b=>by simp only[Y0d,Y08,tk,Zgj a b]
theorem ZeH:∀(l:List Ex)(i:Nat)(h:i<l.length),(exC l).drop (i*4)=l[i].cells++exC (l.drop (i+1))
 |e::l,0,h=>by simp only[Nat.zero_mul,Y0n,exC,Y0o,Y0i]
 |e::l,i+1,h=>by rw[Zkb,ZeH l i (by simpa using h)];simp only[Y0p,Y0i]
theorem ex4(l:List Ex)(i:Nat)(h:i<l.length):tk 4 ((exC l).drop (i*4))=some l[i].cells:=by
 rw[ZeH l i h]
 have:=Zgj l[i].cells (exC (l.drop (i+1)))
 rwa [Z4t]at this
mutual
theorem Z6f:∀(a b:Ex),a.cells=b.cells->a=b
 | .mk o n s k,.mk o' n' s' k',h=>by
  simp only[Ex.cells]at h
  simp at h
  obtain⟨rfl,rfl,rfl,hl,hk⟩:=h
  rw[exC_inj k k' hk hl]
theorem exC_inj:∀(a b:List Ex),exC a=exC b->a.length=b.length->a=b
 |[],[],_,_=>rfl
 |x::a,y::b,h,hl=>by
  simp only[exC]at h
  have h':=List.append_inj h (by rw[Z4t,Z4t])
  rw[Z6f x y h'.1,exC_inj a b h'.2 (by simpa using hl)]
 |[],_::_,_,hl=>by simp at hl
 |_::_,[],_,hl=>by simp at hl
end
theorem Z8K{a b:List Ex}(h:exA a=exA b):a=b:=by
 simp only[exA,AV.rs.injEq,true_and]at h
 exact exC_inj _ _ h.2 h.1
theorem Z8c:∀e:Ex,0<Z1x e
 | .mk _ _ _ _=>by simp only[Z1x];omega
theorem Z5P:∀(l:List Ex)(i:Nat)(h:i<l.length),sizeL l=sizeL (l.take i)+Z1x l[i]+sizeL (l.drop (i+1))
 |e::l,0,h=>by simp only[Y0f,sizeL,Y0o,Y0i,Y0n];omega
 |e::l,i+1,h=>by
  have:=Z5P l i (by simpa using h)
  simp only[Y0g,sizeL,Y0p,Y0i];omega
theorem Z6z:∀(l:List Ex)(i:Nat)(h:i<l.length),sizeL (l.take (i+1))=sizeL (l.take i)+Z1x l[i]
 |e::l,0,h=>by simp only[Y0g,Y0f,sizeL,Y0o];omega
 |e::l,i+1,h=>by
  have:=Z6z l i (by simpa using h)
  simp only[Y0g,sizeL,Y0p]at this⊢;omega
theorem Z8b:∀l:List Ex,l.length<=sizeL l
 |[]=>Y0e _
 |e::l=>by have:=Z8b l;have:=Z8c e;simp only[sizeL,Y0d];omega
theorem Z9i:∀e:Ex,Z1x e=1+sizeL e.kids
 | .mk _ _ _ _=>by simp only[Z1x,Ex.kids]
theorem Z3n:∀(l:List Ex)(e:Ex),e∈l->Z1x e<=sizeL l
 |e::l,f,h=>by
  simp only[sizeL]
  rcases Y0v.1 h with rfl|h
  ·omega
  ·have:=Z3n l f h;omega
theorem ZhV(e:Ex):refsL [.agg e.cells] []=[]:=by
 obtain⟨o,n,s,k⟩:=e
 simp only[Ex.cells];rfl
theorem Zix{a b:Ex}(h:[AV.agg a.cells]=[AV.agg b.cells]):a=b:=by
 simp only[List.cons.injEq,AV.agg.injEq,and_true]at h
 exact Z6f _ _ h
def Zqe{g:Nat}(hb:Z0h Y00 g=true)(r:Ex->AV)(l:List Ex)(each:∀k∈l,ValOK Y00 gl g [.agg k.cells] (r k)):Fam Y00 gl where
 I:=Ex
 f:=g
 G:=λk=>k∈l
 A:=λk=>[.agg k.cells]
 R:=r
 body:=hb
 inj:=λi j _ _ h=>by rw[Zix h]
 ok:=λk hk=>⟨ZhV k,each k hk⟩
theorem Z1g{α : Type}{l:List α}{i:Nat}(h:i<l.length):l[i]∈l:=List.getElem_mem h
theorem Ze3:∀(n:Nat)(e:Ex),Z1x e<=n->Z1x e<=1048576->ValOK Y00 gl 76 [.agg e.cells] (.int .i64 (Z1x e))
 |0,e,h,_=>by have:=Z8c e;omega
 |n+1,.mk op num name kids,h,hb=>by
  simp only[Z1x]at h hb⊢
  obtain⟨O,hO,q,-⟩:=fams (P:=Y00) (gl:=gl) [Zqe (g:=76) (by kernel_rfl) (λk=>.int .i64 (Z1x k)) kids λk hk=>Ze3 n k (by have:=Z3n _ _ hk;omega) (by have:=Z3n _ _ hk;omega)] rfl
  have hlen:=Z8b kids
  simp only[Ex.cells]
  refine Z0B follows Z06 hO Tryz.func76 rfl ?_
  repeat' ((conv=>whnf);first|refine stp ?_|with_reducible apply Z01<;>intro h)
  conv=>whnf
  refine⟨Nat,(λi=>i<=kids.length),(λi=>[(1,.ptr 0 0),(3,.int .i64 (1+sizeL (kids.take i):Nat)),(4,.int .i64 i)]),(λ_=>[⟨true,0,0,.cells [.int .i64 op,.int .i64 num,.str name,.rs kids.length 4 (exC kids)] 47⟩]),(λi=>kids.length-i),⟨0,Y0e _,FgL.mk [0] rfl ?_ ⟨hbp,trivial⟩ rfl⟩,?_⟩
  ·simp only[Y0f,sizeL];exact wks
  intro i hi
  dsimp only
  by_cases hlt:i<kids.length
  · have e1:decide ((i:Int)<(kids.length:Int))=true:=by simpa using hlt
    have hx:=ex4 kids i hlt
    have hs:=Z6z kids i hlt
    have hg:=Z5P kids i hlt
    have q1:∀H,Z05 Y00 O H 76 [.agg kids[i].cells]=some (.int .i64 (Z1x kids[i]),H):=q _ (Z1g hlt)
    generalize kids[i]=k at *
    repeat' ((conv=>whnf);first|refine exI hx ?_|refine exI (q1 _) ?_|(with_reducible refine ixJ i rfl ?_ ?_;focus omega)|refine stp ?_|with_reducible apply Z01<;>intro h)
    conv=>whnf
    refine⟨i+1,hlt,by show kids.length-(i+1)<kids.length-i;omega,FgL.mk [0] rfl ?_ ⟨hbp,trivial⟩ rfl⟩
    rw[hs,<- Nat.add_assoc];exact wks
  · have e1:decide ((i:Int)<(kids.length:Int))=false:=by simpa using hlt
    have hi2:i=kids.length:=by have:=hi;omega
    subst hi2
    repeat' ((conv=>whnf);first|refine stp ?_|with_reducible apply Z01<;>intro h)
    simp only[List.take_length];rfl
end
end Go.Proofs.YtneoiadnbikciaaGreatDoor.lex
section
namespace Go.Abs
open Go.RowKit
theorem Zof {P : Program} {t t2 e : TypeId} {z by_ : Nat} (hT : Zcm P t t2 = some (e, z, by_)) {H : Z00} {x : AV} {xs : List AV} (hx : Z43 H z x = some (0, xs)) :
  Z1A P t t2 .nslice x H=some (.nslice,H):=by
 obtain⟨h1,i,u,h2,h3,h4,rfl,rfl⟩:=Z4v hT
 simp only[Z1A,h1,h2,h3]
 rw[if_pos h4]
 simp only[hx,if_true]
def Zo5(f e:Nat):Z00->Prop
 |[]=>True
 |o::H=>(o.fam≠f\/o.sh+o.body.len<=e)/\Zo5 f e H
theorem ZeK{f e:Nat}:∀{H:Z00},Zo5 f e H->∀o∈H,o.fam=f->o.sh+o.body.len<=e
 |[],_,o,h,_=>by cases h
 |x::H,h,o,ho,hf=>by
  rcases Y0v.1 ho with rfl|ho
  · rcases h.1 with h1|h1
    ·exact absurd hf h1
    ·exact h1
  ·exact ZeK h.2 o ho hf
theorem Zmw{f e:Nat}{H:Z00}(h:Zo5 f e H):ZfP f e H=H:=Zdf (ZeK h)
theorem apS{P Q:Prop}(q:Q)(h:Zg1 P Q:=by
 first
 |(with_reducible apply s1I (Zof (by assumption) ?_));(any_goals (exact rfl));done
 |(with_reducible apply s1I (ZaN (by assumption) ?_));(any_goals (exact rfl));done
 |(with_reducible apply s1I (ZmO (by assumption) ?_ ?_ ?_));(any_goals (exact rfl));(all_goals first|omega|(simp only[List.length_cons];omega))
 |(with_reducible apply s1I (Zdr (by assumption) ?_ ?_ (Zmw ?_) ?_ ?_ ?_ ?_));(any_goals (exact rfl));(all_goals first
  |assumption
  |omega
  |(simp only[List.length_cons];omega)
  |(simp[Zo5,ABody.len];done)|(simp[Zo5,ABody.len];omega)
  |(simp;done)|(simp;omega))):P:=h q
end Go.Abs
end
section
namespace Go.Abs
open Go.RowKit
section
open Classical
noncomputable def snO(sn:Z0m)(ι : Z0i)(H:Z00)(W:World):Z0m:=λa=>if ∃ (b:Nat) (o:AObj) (p:Place),H[b]? = some o/\o.alive=true /\ ι b=some p/\p.blk=a.block then W.cell? a else sn a
end
theorem ZmH{W:World}{a:Addr}{v:Value}(hv:W.cell? a=some v):a.block<W.heap.size:=by
 cases hq:W.heap[a.block]? with
 |none=>unfold World.cell? at hv;rw[hq]at hv;simp at hv
 |some ob=>exact (Array.getElem?_eq_some_iff.1 hq).1
end Go.Abs
end
section
namespace Go.Abs
open Go.RowKit
def ZlJ(fs:List Nat)(H:Z00):Z00:=kil (λ_ o=>!mem o.fam fs) 0 H
def WkZ(fs:List Nat)(H:Z00)(m:List Nat)(u u2:AV):Prop:=Wk m u u2\/frz (ZlJ fs H) 30 u=some u2
def SlotsGeZ(fs:List Nat)(H:Z00)(m:List Nat)(t:Tr):List (Nat×AV)->Prop
 |[]=>True
 |(n,u2)::l=>(onO (Z1a t n) λu=>WkZ fs H m u u2)/\SlotsGeZ fs H m t l
theorem SlotsGeZ.get{fs:List Nat}{H:Z00}{m:List Nat}{t:Tr}:∀{l:List (Nat×AV)},SlotsGeZ fs H m t l->∀n u2,Z1L n l=some u2->∃u,Z1a t n=some u/\WkZ fs H m u u2
 |[],h,n,u2,e=>by simp[Z1L]at e
 |(k,v)::l,h,n,u2,e=>by
  simp only[Z1L]at e
  split at e
  · rename_i hk
    have:=Nat.eq_of_beq_eq_true hk;subst this
    simp at e;subst e
    exact Z04 h.1
  ·exact h.2.get n u2 e
def BodyGeZ(fs:List Nat)(H:Z00)(m:List Nat):ABody->ABody->Prop
 | .cells cs ty,.cells cs2 ty2=>ty=ty2/\cs2.length<=cs.length/\∀(i:Nat)(c2:AV),cs2[i]? = some c2->∃c,cs[i]? = some c/\WkZ fs H m c c2
 |b,b2=>BodyGe m b b2
def HpGeZ(fs:List Nat)(H:Z00)(m:List Nat):List Nat->Z00->Nat->Prop
 |[],[],_=>True
 |j::l,o2::H2,i=>(onO H[j]? λo=>o.alive=true/\o2.alive=true/\o2.fam=i/\o2.sh=o.sh/\BodyGeZ fs H m o.body o2.body)/\HpGeZ fs H m l H2 (i+1)
 |_,_,_=>False
theorem HpGeZ.get{fs:List Nat}{H:Z00}{m:List Nat}:∀{l:List Nat}{H2:Z00}{i:Nat},HpGeZ fs H m l H2 i->H2.length=l.length/\∀b,b<l.length->∃j o o2,l[b]? = some j/\H[j]? = some o/\H2[b]? = some o2/\o.alive=true/\o2.alive=true/\o2.fam=i+b/\o2.sh=o.sh/\BodyGeZ fs H m o.body o2.body
 |[],[],i,h=>⟨rfl,λb hb=>by simp at hb⟩
 |j::l,o2::H2,i,h=>by
  obtain⟨h1,h2⟩:=h
  obtain⟨o,ho,e1,e2,e3,e4,e5⟩:=Z04 h1
  obtain⟨k1,k2⟩:=h2.get
  refine⟨by simp[k1],λb hb=>?_⟩
  cases b with
  |zero=>exact⟨j,o,o2,rfl,ho,rfl,e1,e2,e3,e4,e5⟩
  |succ b =>
   obtain⟨j',o',o2',x1,x2,x3,x4,x5,x6,x7,x8⟩:=k2 b (by simpa using hb)
   exact⟨j',o',o2',by simpa using x1,x2,by simpa using x3,x4,x5,by omega,x7,x8⟩
 |[],_::_,i,h=>h.elim
 |_::_,[],i,h=>h.elim
theorem FgS.giveup {k : Nat} {fs m : List Nat} {tm tm2 : Tr} {H H2 : Z00} (htr : ∀ n u2, Z1a tm2 n = some u2 -> ∃ u, Z1a tm n = some u /\ WkZ fs H m u u2) (htx : ∀ n, tex tm2 n = true -> tex tm n = true)
  (hp:HpGeZ fs H m m H2 0) (hfams:Z0Q (m.map (Z1i H))=true) (hkp:Zeh k 0 m=true) (hd:(m.map (Z1i H)).all (λf=>!mem f fs)=true):FgS k tm H tm2 H2:=by
 intro sn ι W a hR ht
 obtain⟨hl,hg⟩:=hp.get
 generalize hHQ:ZlJ fs H=HQ
 have inQ:∀(b:Nat)(o:AObj),HQ[b]? = some o->o.alive=true->H[b]? = some o/\mem o.fam fs=true:=λb o hb hal=>by
  rw[<- hHQ]at hb
  obtain⟨o0,g1,_,_,g4⟩:=Z2b hb
  obtain⟨rfl,g5⟩:=g4 hal
  exact⟨g1,by simpa using g5⟩
 have hle:∀a v,sn a=some v->snO sn ι HQ W a=some v:=λa v hv=>by
  unfold snO
  split
  ·exact (hR.snap a v hv).2.1
  ·exact hv
 have hcell:∀a v,snO sn ι HQ W a=some v->W.cell? a=some v:=λa v hv=>by
  unfold snO at hv
  split at hv
  ·exact hv
  ·exact (hR.snap a v hv).2.1
 have hobjQ:∀(b:Nat)(o:AObj) p,HQ[b]? = some o->o.alive=true -> ι b=some p->OR sn ι W o.body p:=λb o p hb hal hp=>hR.obj b o p (inQ b o hb hal).1 hal hp
 have hz:∀(u u2:AV)(v:Value),WkZ fs H m u u2->VR sn ι u v->VR (snO sn ι HQ W) (iot m ι) u2 v:=λu u2 v h hv=>by
  rcases h with h|h
  ·exact Z16 ⟨hle,λ_ _ h=>h⟩ _ _ (h _ _ _ hv)
  · rw[hHQ]at h
    exact Zf4 (Z4V hobjQ ⟨hle,λ_ _ h=>h⟩ (λb o p hb hal hp off v hv=>by
     unfold snO;rw[if_pos ⟨b,o,p,hb,hal,hp,rfl⟩];exact hv) 30 u u2 v h hv)
 have at2:∀{b:Nat}{o2:AObj}{p:Place},H2[b]? = some o2->iot m ι b=some p->∃j o,m[b]? = some j/\H[j]? = some o /\ ι j=some p/\o.alive=true/\o2.alive=true/\o2.fam=b/\o2.sh=o.sh/\BodyGeZ fs H m o.body o2.body:=by
  intro b o2 p hb hp
  obtain⟨j,o,o2',x1,x2,x3,x4,x5,x6,x7,x8⟩:=hg b (by rw[<- hl];exact (Y06.1 hb).1)
  rw[hb]at x3;simp at x3;subst x3
  simp only[iot,x1]at hp
  exact⟨j,o,x1,x2,hp,x4,x5,by omega,x7,x8⟩
 have hout:∀{b j:Nat}{o:AObj},m[b]? = some j->H[j]? = some o->mem o.fam fs=false:=λ{b j o} x1 x2=>by
  have hm:o.fam∈m.map (Z1i H):=Y0y.2 ⟨j,Y0l x1,by simp[Z1i,x2]⟩
  have:=Y0D.1 hd _ hm
  simpa using this
 have hR2:R (snO sn ι HQ W) (iot m ι) H2 W:=by
  refine⟨λb=>⟨λhb=>?_,λ⟨p,hp⟩=>?_⟩,λb p hp=>?_,λb o2 p hb ha hp=>?_,λb b' o o' p p' hb hb' ha ha' hp hp' e=>?_,λad v hv=>?_,λb o2 p hb hp e=>?_⟩
  · obtain⟨j,o,o2,x1,x2,_⟩:=hg b (by omega)
    obtain⟨p,hp⟩:=hR.place x2
    exact⟨p,by simp only[iot,x1];exact hp⟩
  · unfold iot at hp
    split at hp
    ·rename_i j hj;rw[hl];exact (Y06.1 hj).1
    ·cases hp
  · unfold iot at hp
    split at hp
    ·exact hR.blk _ p hp
    ·cases hp
  · obtain⟨j,o,x1,x2,x3,x4,x5,x6,x7,x8⟩:=at2 hb hp
    have hor:=hR.obj j o p x2 x4 x3
    generalize o.body=b1 at x8 hor
    generalize o2.body=b2 at x8
    unfold BodyGeZ at x8
    split at x8
    · obtain⟨rfl,h1,h2⟩:=x8
      simp only[OR]at hor⊢
      obtain⟨arr,g1,g2,g3,g4⟩:=hor
      refine⟨arr,g1,g2,by omega,λi c2 hc=>?_⟩
      obtain⟨c,e1,e2⟩:=h2 i c2 hc
      obtain⟨v,e3,e4⟩:=g4 i c e1
      exact⟨v,e3,hz _ _ _ e2 e4⟩
    ·exact Z0M ⟨hle,λ_ _ h=>h⟩ rfl (x8.or hor)
  · obtain⟨j,q,x1,x2,x3,x4,x5,x6,x7,x8⟩:=at2 hb hp
    obtain⟨j',q',y1,y2,y3,y4,y5,y6,y7,y8⟩:=at2 hb' hp'
    have hs:=hR.sep j j' q q' p p' x2 y2 x4 y4 x3 y3 e
    have:b=b':=Z4N (l:=m.map (Z1i H)) (x:=q.fam) hfams (by simp[x1,Z1i,x2]) (by simp[y1,Z1i,y2,hs.1])
    subst this
    exact⟨by rw[x6,y6],by rw[x7,y7];exact hs.2⟩
  · refine⟨ZmH (hcell ad v hv),hcell ad v hv,λb o2 p hb ha hp hne=>?_⟩
    obtain⟨j,o,x1,x2,x3,x4,_⟩:=at2 hb hp
    unfold snO at hv
    split at hv
    · rename_i hex
      obtain⟨b',o',p',z1,z2,z3,z4⟩:=hex
      obtain⟨y1,y2⟩:=inQ b' o' z1 z2
      have:=(hR.sep j b' o o' p p' x2 y1 x4 z2 x3 z3 (hne.trans z4.symm)).1
      have h5:=hout x1 x2
      rw[this,y2]at h5;cases h5
    ·exact (hR.snap ad v hv).2.2 j o p x2 x4 x3 hne
  · obtain⟨j,o,x1,x2,x3,x4,x5,x6,x7,x8⟩:=at2 hb hp
    exact hR.shz j o p x2 x3 (by omega)
 refine⟨snO sn ι HQ W,iot m ι,⟨hR2,hle,λb o2 p hb ha hp=>?_,λ_ _ _=>rfl,Y04 _,rfl,rfl,rfl,λad v hv=>?_,λb p hb hp=>by have:=Za6 hkp b hb;simp only[Y0w]at this;simp only[iot,this];exact hp⟩,λt u2 hu=>?_,λt hx=>ht.2 t (htx t hx)⟩
 · obtain⟨j,o,x1,x2,x3,x4,_⟩:=at2 hb hp
   exact .inr ⟨j,o,p,x2,x4,x3,rfl⟩
 · unfold snO at hv
   split at hv
   · rename_i hex
     obtain⟨b,o,p,x1,x2,x3,x4⟩:=hex
     exact .inr (.inr ⟨b,o,p,(inQ b o x1 x2).1,x2,x3,x4⟩)
   ·exact .inl hv
 · obtain⟨u,h1,h2⟩:=htr t u2 hu
   obtain⟨v,h3,h4⟩:=ht.1 t u h1
   exact⟨v,h3,hz _ _ _ h2 h4⟩
theorem FgLK.mkZ{k:Nat}{t0 tm:Tr}{H:Z00}{l:List (Nat×AV)}{H2:Z00}(fs m:List Nat)(hk:Zeh k 0 m=true)(h:Zg4 t0 tm=true)(h1:SlotsGeZ fs H m tm l)(h2:HpGeZ fs H m m H2 0)(h3:Z0Q (m.map (Z1i H))=true)(h4:(m.map (Z1i H)).all (λf=>!mem f fs)=true):FgLK k t0 tm H l H2:=by
 unfold FgLK;rw[h]
 exact .inr (FgS.giveup (fs:=fs) (m:=m) (λn u2 e=>h1.get n u2 (Z2V _ _ _ _ e)) (λn e=>Z7y h n (by rwa [Z3R]at e)) h2 h3 hk h4)
theorem BodyGe.z{fs:List Nat}{H:Z00}{m:List Nat}{b b2:ABody}(h:BodyGe m b b2):BodyGeZ fs H m b b2:=by
 unfold BodyGeZ
 split
 · obtain⟨h1,h2,h3⟩:=h
   exact⟨h1,h2,λi c2 hc=>let ⟨c,e1,e2⟩:=h3 i c2 hc;⟨c,e1,.inl e2⟩⟩
 ·exact h
end Go.Abs
end
section
namespace Go.Abs
open Go.RowKit
def MemQ(P:Program)(gl:Z0g)(k f:Nat)(args:List AV)(H:Z00)(r:AV)(H':Z00):Prop :=
 ∀(sn:Z0m)(ι : Z0i)(W:World)(cargs:List Value),GlOK gl sn->R sn ι H W->LR sn ι args cargs ->
  CallsY P f cargs.toArray W λe W'=>∃v sn' ι',e = .returned v/\VR sn' ι' r v/\Stq k sn ι H W sn' ι' H' W'
def ZhO(P:Program)(l:List ResultVar)(k:Nat)(r:AV)(N:Z00)(tm:Tr)(H:Z00):Prop :=
 onO (Z3g P tm H l) λvs=>∃m,Zeh k 0 m=true/\HpGe H m m N 0/\Z0Q (m.map (Z1i H))=true/\Wk m (Z0Z vs) r
theorem fn_memqR {rf : AV -> Array Tmp -> Code -> Code -> KN -> KX -> KN -> Tr -> Z00 -> Prop} {P : Program} {gl : Z0g} {orc : Orc} {k : Nat} (hrf : Zov P gl none k rf) (hm : P.follows .mixedOrders = true) (hn : NoNum P) (hO : OrcSound P gl orc) {f : Nat} {fn : Func} {c : Code} {args : List AV} {H0 N : Z00} {r : AV}
  (hf:P.funcs[f]? = some fn) (hc:fn.body=some c) {cw:CW} (hcw:Z6W P orc cw)
  (h:frcTr (tmk (Z7j args fn.ntmps args.length) (Z83 20 fn.ntmps)) λtm=>Z1Z P gl orc cw ⟨Z54 k,rf⟩ c (ZhO P fn.results.toList k r N) (λ_ _ _=>False) (ZhO P fn.results.toList k r N) tm H0):MemQ P gl k f args H0 r N:=by
 intro sn ι W cargs hg hR ha
 rw[Z1H]at h
 refine .inl (Z33 hf hc (Z1E (rd:=none) hrf hm hn hO hcw c h) hg hR ha (λ_ _ _ h=>h) λx tm1 H a1 W1 sn1 ι1 hx s1 t1=>?_)
 have key:ZhO P fn.results.toList k r N tm1 H->∃v,(results fn a1.tmps).run P W1 = .ok v W1/\∃sn' ι',VR sn' ι' r v/\Stq k sn ι H0 W sn' ι' N W1:=by
  intro h
  obtain⟨us,h1,m,h0,h2,h3,h4⟩:=Z04 h
  obtain⟨vs,k1,k2⟩:=Z0P s1.rel t1 _ _ h1
  obtain⟨hS,_⟩:=Fg.sound (k:=k) (m:=m) (tm:=tm1) (tm2:=Z9v (λ_=>none) tm1) ⟨⟨λn u2 e=>(by have:=Z2V _ _ _ _ e;cases this),λn e=>(by rw[Z3R]at e;exact e)⟩,h2,h3,h0⟩ s1.rel t1
  exact⟨_,Z0T k2,sn1,iot m ι1,h4 _ _ _ (Z2y (fn:=fn) k1),s1.trans hS⟩
 cases x with
 |normal =>
  obtain⟨v,k1,sn',ι',k2,k3⟩:=key hx
  exact⟨v,k1,v,sn',ι',rfl,k2,k3⟩
 |exit id=>exact hx.elim
 |ret =>
  obtain⟨v,k1,sn',ι',k2,k3⟩:=key hx
  exact⟨v,k1,v,sn',ι',rfl,k2,k3⟩
theorem Zmh {P : Program} {gl : Z0g} {orc : Orc} (hm : P.follows .mixedOrders = true) (hn : NoNum P) (hO : OrcSound P gl orc) {f k : Nat} {fn : Func} {c : Code} {args : List AV} {H0 N : Z00} {r : AV}
  (hf:P.funcs[f]? = some fn) (hc:fn.body=some c) {cw:CW} (hcw:Z6W P orc cw)
  (h:frcTr (tmk (Z7j args fn.ntmps args.length) (Z83 20 fn.ntmps)) λtm=>Z1Z P gl orc cw (Zb4 k) c (ZhO P fn.results.toList k r N) (λ_ _ _=>False) (ZhO P fn.results.toList k r N) tm H0):MemQ P gl k f args H0 r N :=
 fn_memqR (λ_ _ _ _ _ _ _ _ _ _ _ h=>h.elim) hm hn hO hf hc hcw h
theorem Z2o {P : Program} {gl : Z0g} {orc : Orc} (isC : Nat -> Bool) (n : Nat) (hm : P.follows .mixedOrders = true) (hn : NoNum P) (hO : OrcSound P gl orc) {f k : Nat} {fn : Func} {c : Code} {args : List AV} {H0 N : Z00} {r : AV}
  (hf:P.funcs[f]? = some fn) (hc:fn.body=some c)
  (h:frcTr (tmk (Z7j args fn.ntmps args.length) (Z83 20 fn.ntmps)) λtm=>Z1Z P gl (Z7I P gl orc isC n) (Z7i P gl orc isC n) (Zb4 k) c (ZhO P fn.results.toList k r N) (λ_ _ _=>False) (ZhO P fn.results.toList k r N) tm H0):MemQ P gl k f args H0 r N :=
 Zmh hm hn (Z0e hm hn hO n) hf hc (Z0p n) h
def ZpH(m:List Nat)(σ : Nat->Nat)(k:Nat)(Hs:Z00):Nat->Z00->Z00
 |_,[]=>[]
 |i,o::H=>(match Z5a m i 0 with
  |some j=>if Nat.blt j k then (match Hs[j]? with
   |some o'=>{ o with alive:=o'.alive,body:=Z59 σ o'.body }
   |none=>o) else o.dead
  |none=>o)::ZpH m σ k Hs (i+1) H
def ZfD(m fs:List Nat):Nat->Z00->Bool
 |_,[]=>true
 |i,o::H=>(mem i m || (!o.alive || !mem o.fam fs))&&ZfD m fs (i+1) H
theorem Z8r{m fs:List Nat}:∀{H:Z00}{i j:Nat}{o:AObj},ZfD m fs i H=true->H[j]? = some o->o.alive=true->i+j∈m\/o.fam ∉ fs
 |[],i,j,o,h,e,_=>by simp at e
 |x::H,i,0,o,h,e,ha=>by
  simp only[ZfD,Y05,Bool.or_eq_true,Y0m]at h
  simp at e;subst e
  rcases h.1 with h1|h1|h1
  ·exact .inl (Z11.1 h1)
  ·rw[ha]at h1;cases h1
  ·exact .inr λe=>by rw[Z11.2 e]at h1;cases h1
 |x::H,i,j+1,o,h,e,ha=>by
  simp only[ZfD,Y05]at h
  have:=Z8r h.2 (by simpa using e) ha
  rcases this with h1|h1
  ·exact .inl (by rw[show i+(j+1)=i+1+j by omega];exact h1)
  ·exact .inr h1
end Go.Abs
end
section
namespace Go.Abs
open Go.RowKit
def sgE(k d:Nat)(b:Nat):Nat:=if b<k then b else d+(b-k)
def Zb0(k:Nat)(σ : Nat->Nat)(Hs:Z00):Nat->Z00->Z00
 |_,[]=>[]
 |i,o::H=>(if Nat.blt i k then (match Hs[i]? with
  |some o'=>{ o with alive:=o'.alive,body:=Z59 σ o'.body }
  |none=>o) else o.dead)::Zb0 k σ Hs (i+1) H
theorem ZdP (k : Nat) (σ : Nat -> Nat) (Hs : Z00) : ∀ (H : Z00) (i b : Nat), (Zb0 k σ Hs i H)[b]? = (H[b]?).map fun o => if Nat.blt (i + b) k then (match Hs[i + b]? with
  |some o'=>{ o with alive:=o'.alive,body:=Z59 σ o'.body }
  |none=>o) else o.dead
 |[],i,b=>by simp[Zb0]
 |o::H,i,0=>by
  simp only[Zb0,Y0B,Y0k,Nat.add_zero]<;>rfl
 |o::H,i,b+1=>by
  simp only[Zb0,Y0x]
  rw[ZdP k σ Hs H (i+1) b,show i+1+b=i+(b+1) by omega]
theorem ZdO(k:Nat)(σ : Nat->Nat)(Hs:Z00):∀(H:Z00)(i:Nat),(Zb0 k σ Hs i H).length=H.length
 |[],i=>rfl
 |o::H,i=>by simp only[Zb0,Y0d,ZdO k σ Hs H (i+1)]
def shE(σ : Nat->Nat):Z00->Z00
 |[]=>[]
 |o::H=>{ o with body:=Z59 σ o.body }::shE σ H
theorem ZgF(σ : Nat->Nat):∀(H:Z00)(b:Nat),(shE σ H)[b]? = (H[b]?).map λo=>{ o with body:=Z59 σ o.body }
 |[],b=>by simp[shE]
 |o::H,0=>rfl
 |o::H,b+1=>by simp only[shE,Y0x];exact ZgF σ H b
theorem ZcI(σ : Nat->Nat):∀H:Z00,(shE σ H).length=H.length
 |[]=>rfl
 |o::H=>by simp only[shE,Y0d,ZcI σ H]
theorem Zbr {P : Program} {gl : Z0g} {f k : Nat} {Hs Hs' : Z00} {args : List AV} {r : AV} (hM : MemQ P gl k f args Hs r Hs') (hl : Hs.length = k) (hl' : Hs'.length = k)
  (hev:∀(b:Nat)(o o':AObj),Hs[b]? = some o->Hs'[b]? = some o'->o'.fam=o.fam/\o'.sh=o.sh/\(o'.alive=true->o.alive=true)):Z2i P gl f args Hs r Hs':=by
 intro sn ι W vargs hg hR ha
 refine (hM sn ι W vargs hg hR ha).mono ?_
 rintro e W' ⟨v,sn',ι',rfl,hv,hst⟩
 have hι : ∀b p,ι b=some p -> ι' b=some p:=λb p hp=>hst.keep b p (by have:=(hR.dom b).2 ⟨p,hp⟩;omega) hp
 have hι2:∀b p,ι' b=some p -> ι b=some p:=λb p hp=>by
  obtain⟨q,hq⟩:=(hR.dom b).1 (by have:=(hst.rel.dom b).2 ⟨p,hp⟩;omega)
  have:=hι b q hq
  rw[hp]at this;cases this;exact hq
 refine⟨v,sn',ι',rfl,hv,hst.rel,⟨hst.le,hι⟩,λb p hp=>.inl (hι2 b p hp),hst.frame,hst.size,hst.os,hst.tape,hst.output,hst.sfresh,λb o hb=>?_⟩
 have hb':b<Hs'.length:=by have:=(Y06.1 hb).1;omega
 obtain⟨e1,e2,e3⟩:=hev b o _ hb (Y02 hb')
 exact⟨_,Y02 hb',e1,e2,e3⟩
end Go.Abs
end
namespace Go.Proofs.YtneoiadnbikciaaGreatDoor.lex
open Go.Abs Go.RowKit
section
variable {gl:Z0g}
structure Tq where
 kind:Int
 text:List UInt8
 num:Int
 pos:Int
def Tq.cells(t:Tq):List AV:=[.int .i64 t.kind,.str t.text,.int .i64 t.num,.int .i64 t.pos]
def tqC:List Tq->List AV
 |[]=>[]
 |t::l=>t.cells++tqC l
theorem tq4:∀(l:List Tq)(i:Nat)(h:i<l.length),tk 4 ((tqC l).drop (i*4))=some l[i].cells
 |t::l,0,h=>by simp only[Nat.zero_mul,Y0n,tqC];rfl
 |t::l,i+1,h=>by
  have e:(i+1)*4=4+i*4:=by omega
  have e2:(tqC (t::l)).drop ((i+1)*4)=(tqC l).drop (i*4):=by rw[e,<- List.drop_drop];rfl
  rw[e2,tq4 l i (by simpa using h)];rfl
structure Ps where
 i:Nat
 err:Int
 at_:Int
 op:Int
def psH(T:List Tq)(s:Ps):Z00:=[⟨true,0,0,.cells [.rs T.length 4 (tqC T),.int .i64 (s.i:Nat),.int .i64 s.err,.int .i64 s.at_,.int .i64 s.op] 80⟩]
structure PsOK (T:List Tq) (s:Ps):Prop where
 lt:s.i<T.length
 few:T.length<=1000000
 last:∀i,(h:i<T.length)->T[i].kind≠5->i+1<T.length
 lo : -(s.i:Int)<=s.op
 hi:s.op<=200
def Z0o(T:List Tq)(s:Ps):Tq:=T[s.i]?.getD ⟨5,[],0,0⟩
def Z0r(s:Ps)(e a:Int):Ps:=if s.err=0 then { s with err:=e,at_:=a } else s
def isF(T:List Tq)(s:Ps)(w:List UInt8):Bool:=s.err==0&&(((Z0o T s).kind==4 || (Z0o T s).kind==2)&&(Z0o T s).text==w)
def upB(w:List UInt8):Bool:=w==[40] || w==[123]
def dnB(w:List UInt8):Bool:=w==[41] || w==[125]
def Z0F(T:List Tq)(s:Ps)(w:List UInt8):Bool:=isF T s w && !(upB w&&s.op==200)
def Z0c(T:List Tq)(s:Ps)(w:List UInt8):Ps:=if isF T s w=true then (if upB w=true/\s.op=200 then Z0r s 3 (Z0o T s).pos else { s with i:=s.i+1,op:=if upB w=true then s.op+1 else if dnB w=true then s.op-1 else s.op }) else s
theorem Z0s{T:List Tq}{s:Ps}(h:s.i<T.length):Z0o T s=T[s.i]:=by unfold Z0o;rw[Y02 h];rfl
def isQ(f:Nat):Bool:=false
theorem ZnD{T:List Tq}{s:Ps}(hs:PsOK T s)(w:List UInt8):MemQ Y00 gl 1 90 [.ptr 0 0,.str w] (psH T s) (.bool (isF T s w)) (psH T s):=by
 have hx:=tq4 T s.i hs.lt
 rw[<- Z0s hs.lt]at hx
 have hlt:=hs.lt
 have hfew:=hs.few
 unfold isF
 generalize Z0o T s=t at *
 obtain⟨k,tx,nm,ps⟩:=t
 obtain⟨i,err,at_,op⟩:=s
 simp only[Tq.cells]at hx hlt⊢
 simp only[psH]
 refine Z2o isQ 3 follows Z06 Z0u Tryz.func90 rfl ?_
 cases e1:err==0<;>cases e2:k==4<;>cases e3:k==2
 all_goals repeat' ((conv=>whnf);first|refine exI hx ?_|(with_reducible refine ixJ i rfl ?_ ?_;focus omega)|refine stp ?_|with_reducible apply Z01<;>intro h)
 all_goals (try (conv=>whnf))
 all_goals exact⟨[0],rfl,⟨hbp,trivial⟩,rfl,Wk.bool (by first|rfl|(simp;done))⟩
theorem Za5{f:Nat}{T:List Tq}{s s':Ps}{args:List AV}{r:AV}(h:MemQ Y00 gl 1 f args (psH T s) r (psH T s')):Z2i Y00 gl f args (psH T s) r (psH T s'):=Zbr h rfl rfl λb o o' h h'=>by
 match b,h,h' with
 |0,h,h'=>cases h;cases h';exact⟨rfl,rfl,λ_=>rfl⟩
 |b+1,h,h'=>cases h
def isT(f:Nat):Bool:=Y03 f 90
theorem Zcy{T:List Tq}{s:Ps}(hs:PsOK T s)(w:List UInt8):MemQ Y00 gl 1 45 [.ptr 0 0,.str w] (psH T s) (.bool (Z0F T s w)) (psH T (Z0c T s w)):=by
 have hx:=tq4 T s.i hs.lt
 rw[<- Z0s hs.lt]at hx
 have hlt:=hs.lt
 have hfew:=hs.few
 have hlo:=hs.lo
 have hhi:=hs.hi
 obtain⟨O,hO,⟨p1,-⟩,-⟩:=Z3v (P:=Y00) (gl:=gl) [{ I:=Unit,f:=90,G:=λ_=>True,A:=λ_=>[.ptr 0 0,.str w],H:=λ_=>psH T s,R:=λ_=>.bool (isF T s w),O:=λ_=>psH T s,body:=(by kernel_rfl),inj:=(λ_ _ _ _ _ _=>⟨rfl,rfl⟩),ok:=λ_ _=>Za5 (ZnD hs w) }] [] rfl
 have q1:=p1 () trivial
 simp only at q1
 clear p1
 have herr:isF T s w=true->s.err=0:=λh=>by unfold isF at h;simp at h;exact h.1
 unfold Z0F Z0c upB dnB Z0r
 generalize isF T s w=b at *
 generalize Z0o T s=t at *
 obtain⟨k,tx,nm,ps⟩:=t
 obtain⟨i,err,at_,op⟩:=s
 simp only[Tq.cells]at hx hlt hlo hhi herr⊢
 simp only[psH]at q1⊢
 have wa:IntKind.i64.wrap ((i:Int)+1)=((i+1:Nat):Int):=Z1D (by omega)
 have wb:IntKind.i64.wrap (op+1)=op+1:=Z7h (by omega) (by omega)
 have wc:IntKind.i64.wrap (op-1)=op-1:=Z7h (by omega) (by omega)
 refine Z2o isT 3 follows Z06 hO Tryz.func45 rfl ?_
 cases b with
 |false =>
  repeat' ((conv=>whnf);first|refine exI q1 ?_|refine stp ?_|with_reducible apply Z01<;>intro h)
  all_goals (try (conv=>whnf))
  all_goals exact⟨[0],rfl,⟨hbp,trivial⟩,rfl,Wk.bool rfl⟩
 |true =>
  have herr:=herr rfl
  subst herr
  have hw:(w=[40]\/w=[123])\/(w=[41]\/w=[125])\/((w==[40])=false/\(w==[123])=false/\(w==[41])=false/\(w==[125])=false):=by
   by_cases h1:w=[40]
   ·exact .inl (.inl h1)
   by_cases h2:w=[123]
   ·exact .inl (.inr h2)
   by_cases h3:w=[41]
   ·exact .inr (.inl (.inl h3))
   by_cases h4:w=[125]
   ·exact .inr (.inl (.inr h4))
   exact .inr (.inr ⟨by simpa using h1,by simpa using h2,by simpa using h3,by simpa using h4⟩)
  rcases hw with hw|hw|⟨g1,g2,g3,g4⟩
  · by_cases h5:op=200
    · subst h5
      rcases hw with rfl|rfl
      all_goals repeat' ((conv=>whnf);first|refine exI q1 ?_|refine exI hx ?_|(with_reducible refine exW wa ?_)|(with_reducible refine exW wb ?_)|(with_reducible refine exW wc ?_)|(with_reducible refine ixJ i rfl ?_ ?_;focus omega)|refine stp ?_|with_reducible apply Z01<;>intro h)
      all_goals (try (conv=>whnf))
      all_goals exact⟨[0],rfl,⟨hbp,trivial⟩,rfl,Wk.bool rfl⟩
    · have e5:(op==200)=false:=by simpa using h5
      simp only[h5,and_false,if_false,e5,Bool.and_false]
      rcases hw with rfl|rfl
      all_goals repeat' ((conv=>whnf);first|refine exI q1 ?_|refine exI hx ?_|(with_reducible refine exW wa ?_)|(with_reducible refine exW wb ?_)|(with_reducible refine exW wc ?_)|(with_reducible refine ixJ i rfl ?_ ?_;focus omega)|refine stp ?_|with_reducible apply Z01<;>intro h)
      all_goals (try (conv=>whnf))
      all_goals exact⟨[0],rfl,⟨hbp,trivial⟩,rfl,Wk.bool rfl⟩
  · rcases hw with rfl|rfl
    all_goals repeat' ((conv=>whnf);first|refine exI q1 ?_|refine exI hx ?_|(with_reducible refine exW wa ?_)|(with_reducible refine exW wb ?_)|(with_reducible refine exW wc ?_)|(with_reducible refine ixJ i rfl ?_ ?_;focus omega)|refine stp ?_|with_reducible apply Z01<;>intro h)
    all_goals (try (conv=>whnf))
    all_goals exact⟨[0],rfl,⟨hbp,trivial⟩,rfl,Wk.bool rfl⟩
  · simp only[g1,g2,g3,g4,Bool.or_self,Y0q,false_and,if_false,if_true,Bool.false_and,Bool.not_false,Bool.and_true]
    repeat' ((conv=>whnf);first|refine exI q1 ?_|refine exI hx ?_|(with_reducible refine exW wa ?_)|(with_reducible refine exW wb ?_)|(with_reducible refine exW wc ?_)|(with_reducible refine ixJ i rfl ?_ ?_;focus omega)|refine stp ?_|with_reducible apply Z01<;>intro h)
    all_goals (try (conv=>whnf))
    all_goals exact⟨[0],rfl,⟨hbp,trivial⟩,rfl,Wk.bool rfl⟩
theorem Z5H{T:List Tq}{s:Ps}(hs:PsOK T s){w:List UInt8}(hk:isF T s w=true->(Z0o T s).kind≠5):PsOK T (Z0c T s w):=by
 unfold Z0c
 split
 · rename_i h
   split
   · unfold Z0r;split
     ·exact⟨hs.lt,hs.few,hs.last,hs.lo,hs.hi⟩
     ·exact hs
   · rename_i h2
     have h3:=hk h
     rw[Z0s hs.lt]at h3
     have hlo:=hs.lo
     have hhi:=hs.hi
     refine⟨hs.last _ hs.lt h3,hs.few,hs.last,?_,?_⟩
     · show -((s.i+1:Nat):Int)<=_
       simp only
       split
       ·omega
       ·split<;>omega
     · simp only
       split
       · rename_i h4
         have:s.op≠200:=λe=>h2 ⟨h4,e⟩
         omega
       ·split<;>omega
 ·exact hs
theorem Z4m{T:List Tq}{s:Ps}{w:List UInt8}(h:isF T s w=true):(Z0o T s).kind≠5:=by
 unfold isF at h
 simp only[Y05,Bool.or_eq_true,beq_iff_eq]at h
 omega
def Z03(T:List Tq)(s:Ps)(w:List UInt8):Ps:=if Z0F T s w=true then Z0c T s w else Z0r (Z0c T s w) 5 (Z0o T (Z0c T s w)).pos
def Z1j(T:List Tq)(s:Ps):Bool:=s.err==0&&(Z0o T s).kind==1
def Z0R(T:List Tq)(s:Ps):List UInt8:=if Z1j T s=true then (Z0o T s).text else []
def Z0a(T:List Tq)(s:Ps):Ps:=if Z1j T s=true then { s with i:=s.i+1 } else Z0r s 5 (Z0o T s).pos
end
section
variable {gl:Z0g}
theorem Zat{T:List Tq}{s:Ps}(hs:PsOK T s)(e a:Int):PsOK T (Z0r s e a):=by
 unfold Z0r;split
 ·exact⟨hs.lt,hs.few,hs.last,hs.lo,hs.hi⟩
 ·exact hs
theorem Z4P{T:List Tq}{s:Ps}(hs:PsOK T s)(w:List UInt8):PsOK T (Z03 T s w):=by
 have h:=Z5H hs (w:=w) Z4m
 unfold Z03;split
 ·exact h
 ·exact Zat h _ _
theorem Z9Q{T:List Tq}{s:Ps}(hs:PsOK T s):PsOK T (Z0a T s):=by
 unfold Z0a;split
 · rename_i h
   unfold Z1j at h
   simp only[Y05,beq_iff_eq]at h
   have h3:(Z0o T s).kind≠5:=by omega
   rw[Z0s hs.lt]at h3
   have hlo:=hs.lo
   exact⟨hs.last _ hs.lt h3,hs.few,hs.last,by show -((s.i+1:Nat):Int)<=s.op;omega,hs.hi⟩
 ·exact Zat hs _ _
def isN(f:Nat):Bool:=Y03 f 45
theorem ZlM{T:List Tq}{s:Ps}(hs:PsOK T s)(w:List UInt8):MemQ Y00 gl 1 92 [.ptr 0 0,.str w] (psH T s) (.tuple []) (psH T (Z03 T s w)):=by
 have hs2:=Z5H hs (w:=w) Z4m
 obtain⟨O,hO,⟨p1,-⟩,-⟩:=Z3v (P:=Y00) (gl:=gl) [{ I:=Unit,f:=45,G:=λ_=>True,A:=λ_=>[.ptr 0 0,.str w],H:=λ_=>psH T s,R:=λ_=>.bool (Z0F T s w),O:=λ_=>psH T (Z0c T s w),body:=(by kernel_rfl),inj:=(λ_ _ _ _ _ _=>⟨rfl,rfl⟩),ok:=λ_ _=>Za5 (Zcy hs w) }] [] rfl
 have q1:=p1 () trivial
 simp only at q1
 clear p1
 unfold Z03
 generalize Z0c T s w=s2 at *
 generalize Z0F T s w=b at *
 have hx:=tq4 T s2.i hs2.lt
 rw[<- Z0s hs2.lt]at hx
 have hlt:=hs2.lt
 unfold Z0r
 generalize Z0o T s2=t at *
 obtain⟨k,tx,nm,ps⟩:=t
 obtain⟨i,err,at_,op⟩:=s2
 simp only[Tq.cells]at hx hlt⊢
 simp only[psH]at q1⊢
 refine Z2o isN 3 follows Z06 hO Tryz.func92 rfl ?_
 cases b
 · by_cases he:err=0
   · subst he
     repeat' ((conv=>whnf);first|refine exI q1 ?_|refine exI hx ?_|(with_reducible refine ixJ i rfl ?_ ?_;focus omega)|refine stp ?_|with_reducible apply Z01<;>intro h)
     all_goals (try (conv=>whnf))
     all_goals exact⟨[0],rfl,⟨hbp,trivial⟩,rfl,Y01 rfl⟩
   · have e1:(err==0)=false:=by simpa using he
     simp only[he,if_false,Y0q]
     repeat' ((conv=>whnf);first|refine exI q1 ?_|refine exI hx ?_|(with_reducible refine ixJ i rfl ?_ ?_;focus omega)|refine stp ?_|with_reducible apply Z01<;>intro h)
     all_goals (try (conv=>whnf))
     all_goals exact⟨[0],rfl,⟨hbp,trivial⟩,rfl,Y01 rfl⟩
 · repeat' ((conv=>whnf);first|refine exI q1 ?_|refine stp ?_|with_reducible apply Z01<;>intro h)
   all_goals (try (conv=>whnf))
   all_goals exact⟨[0],rfl,⟨hbp,trivial⟩,rfl,Y01 rfl⟩
theorem Zjt{T:List Tq}{s:Ps}(hs:PsOK T s):MemQ Y00 gl 1 91 [.ptr 0 0] (psH T s) (.str (Z0R T s)) (psH T (Z0a T s)):=by
 have hx:=tq4 T s.i hs.lt
 rw[<- Z0s hs.lt]at hx
 have hlt:=hs.lt
 have hfew:=hs.few
 unfold Z0R Z0a Z1j Z0r
 generalize Z0o T s=t at *
 obtain⟨k,tx,nm,ps⟩:=t
 obtain⟨i,err,at_,op⟩:=s
 simp only[Tq.cells]at hx hlt⊢
 simp only[psH]
 have wa:IntKind.i64.wrap ((i:Int)+1)=((i+1:Nat):Int):=Z1D (by omega)
 refine Z2o isQ 3 follows Z06 Z0u Tryz.func91 rfl ?_
 by_cases he:err=0
 · subst he
   by_cases hk:k=1
   · subst hk
     repeat' ((conv=>whnf);first|refine exI hx ?_|(with_reducible refine exW wa ?_)|(with_reducible refine ixJ i rfl ?_ ?_;focus omega)|refine stp ?_|with_reducible apply Z01<;>intro h)
     all_goals (try (conv=>whnf))
     all_goals exact⟨[0],rfl,⟨hbp,trivial⟩,rfl,Y01 rfl⟩
   · have e1:(k != 1)=true:=by simpa using hk
     have e2:(k==1)=false:=by simpa using hk
     simp only[e2,Bool.and_false,Y0q,if_false,if_true]
     repeat' ((conv=>whnf);first|refine exI hx ?_|(with_reducible refine exW wa ?_)|(with_reducible refine ixJ i rfl ?_ ?_;focus omega)|refine stp ?_|with_reducible apply Z01<;>intro h)
     all_goals (try (conv=>whnf))
     all_goals exact⟨[0],rfl,⟨hbp,trivial⟩,rfl,Y01 rfl⟩
 · have e1:(err != 0)=true:=by simpa using he
   have e2:(err==0)=false:=by simpa using he
   simp only[e2,he,Bool.false_and,Y0q,if_false]
   repeat' ((conv=>whnf);first|refine exI hx ?_|(with_reducible refine exW wa ?_)|(with_reducible refine ixJ i rfl ?_ ?_;focus omega)|refine stp ?_|with_reducible apply Z01<;>intro h)
   all_goals (try (conv=>whnf))
   all_goals exact⟨[0],rfl,⟨hbp,trivial⟩,rfl,Y01 rfl⟩
end
end Go.Proofs.YtneoiadnbikciaaGreatDoor.lex
section
namespace Go.Abs
open Go.RowKit
def Zmo(d:Nat):Z00->Bool
 |[]=>true
 |o::H=>Nat.blt o.fam d&&Zmo d H
theorem Z1e{d:Nat}:∀{H:Z00},Zmo d H=true->∀o∈H,o.fam<d
 |[],_,o,h=>by cases h
 |x::H,h,o,ho=>by
  simp only[Zmo,Y05]at h
  rcases Y0v.1 ho with rfl|ho
  ·exact Z7c h.1
  ·exact Z1e h.2 o ho
end Go.Abs
end
section
namespace Go.Abs
open Go.RowKit
def Zn5(tm:Tr):Nat->Bool
 |0=>true
 |n+1=>tex tm n
def Zd7(k:Nat):Z00->Bool
 |[]=>true
 |o::H=>Z12 k (Z3O o.body [])&&Zd7 k H
theorem Z8E{k:Nat}:∀{H:Z00}{b:Nat}{o:AObj},Zd7 k H=true->H[b]? = some o->Z12 k (Z3O o.body [])=true
 |[],b,o,h,e=>by simp at e
 |x::H,0,o,h,e=>by simp only[Zd7,Y05]at h;simp at e;subst e;exact h.1
 |x::H,b+1,o,h,e=>by simp only[Zd7,Y05]at h;exact Z8E h.2 (by simpa using e)
def Z07(fs:List Nat):Z00->Bool
 |[]=>true
 |o::H=>!mem o.fam fs&&Z07 fs H
theorem Z6A{fs:List Nat}:∀{X:Z00}{b:Nat}{o:AObj},Z07 fs X=true->X[b]? = some o->o.fam ∉ fs
 |[],b,o,h,e=>by simp at e
 |x::X,0,o,h,e=>by
  simp only[Z07,Y05,Y0m]at h
  simp at e;subst e
  intro hm;rw[Z11.2 hm]at h;cases h.1
 |x::X,b+1,o,h,e=>by simp only[Z07,Y05]at h;exact Z6A h.2 (by simpa using e)
theorem Zh7{P:Program}{gl:Z0g}{f:Nat}{args:List AV}{H H':Z00}{r:AV}(hM:Z2i P gl f args H r H')(X:Z00)(hl:H'.length=H.length)(ha:Z12 H.length (refsL args [])=true)(hb:Zd7 H.length H=true)(hX:Z07 (H.map (·.fam)) X=true):Z2i P gl f args (H++X) r (H'++X):=by
 intro sn ι W cargs hg hR hargs
 let ι0:Z0i:=λb=>if b<H.length then ι b else none
 have i0:∀b,b<H.length -> ι0 b = ι b:=λb h=>if_pos h
 have i0':∀b p,ι0 b=some p->b<H.length /\ ι b=some p:=λb p h=>by
  have h:(if b<H.length then ι b else none)=some p:=h
  split at h
  ·exact⟨by assumption,h⟩
  ·cases h
 have gH:∀(b:Nat)(o:AObj),H[b]? = some o->(H++X)[b]? = some o:=λb o h=>by
  rw[Y0j (Y06.1 h).1];exact h
 have hfam:∀(b c:Nat)(o x:AObj)(p q:Place),H[b]? = some o->(H++X)[c]? = some x->o.alive=true->x.alive=true->H.length<=c -> ι b=some p -> ι c=some q->p.blk=q.blk->False:=by
  intro b c o x p q hb hc ha ha' hk hp hq e
  have hf:=(hR.sep b c o x p q (gH b o hb) hc ha ha' hp hq e).1
  rw[Y0r hk]at hc
  exact Z6A hX hc (by rw[<- hf];exact Y0y.2 ⟨o,Y0l hb,rfl⟩)
 have hR0:R sn ι0 H W:=by
  refine⟨λb=>⟨λhb=>?_,λ⟨p,hp⟩=>(i0' b p hp).1⟩,λb p hp=>hR.blk b p (i0' b p hp).2,λb o p ho hal hp=>?_,λb b' o o' p p' ho ho' ha ha' hp hp' e=>hR.sep b b' o o' p p' (gH _ _ ho) (gH _ _ ho') ha ha' (i0' _ _ hp).2 (i0' _ _ hp').2 e,λa v hv=>?_,λb o p ho hp e=>hR.shz b o p (gH _ _ ho) (i0' _ _ hp).2 e⟩
  · obtain⟨p,hp⟩:=(hR.dom b).1 (by rw[Y0h];omega)
    exact⟨p,by rw[i0 b hb];exact hp⟩
  · obtain⟨hbl,hp⟩:=i0' b p hp
    exact Z27 o.body p (λx hx q hq=>by rw[i0 x (Z0I (Z8E hb ho) x hx)];exact hq) (hR.obj b o p (gH _ _ ho) hal hp)
  · obtain⟨h1,h2,h3⟩:=hR.snap a v hv
    exact⟨h1,h2,λb o p ho hal hp=>h3 b o p (gH _ _ ho) hal (i0' _ _ hp).2⟩
 have hl0:LR sn ι0 args cargs:=LR_refs args [] cargs (λb hb' p hp=>by rw[i0 b (Z0I ha b hb')];exact hp) hargs
 refine (hM sn ι0 W cargs hg hR0 hl0).mono ?_
 rintro e W1 ⟨v,sn1,ι1,rfl,hv,hs⟩
 let ι2:Z0i:=λb=>match ι1 b with|some p=>some p|none=>ι b
 have a1:∀b p,ι1 b=some p -> ι2 b=some p:=λb p h=>by show (match ι1 b with|some p=>some p|none=>ι b)=some p;rw[h]
 have a2:∀b,H.length<=b -> ι2 b = ι b:=λb h=>by
  show (match ι1 b with|some p=>some p|none=>ι b) = ι b
  cases hq : ι1 b with
  |none=>rfl
  |some p=>have:=(hs.rel.dom b).2 ⟨p,hq⟩;omega
 have a3:∀b p,ι b=some p -> ι2 b=some p:=λb p h=>by
  by_cases hb':b<H.length
  ·exact a1 b p (hs.le.ι b p (by rw[i0 b hb'];exact h))
  ·rw[a2 b (by omega)];exact h
 have a4:∀b p,b<H.length -> ι2 b=some p -> ι1 b=some p /\ ι b=some p:=λb p hb' h=>by
  obtain⟨q,hq⟩:=(hR.dom b).1 (by rw[Y0h];omega)
  have h1:=hs.le.ι b q (by rw[i0 b hb'];exact hq)
  have h2:=a1 b q h1
  rw[h]at h2;cases h2
  exact⟨h1,hq⟩
 have hle:Le sn sn1 ι ι2:=⟨hs.le.sn,a3⟩
 have g1:∀(b:Nat)(o:AObj),(H'++X)[b]? = some o->(b<H.length/\H'[b]? = some o)\/(H.length<=b/\(H++X)[b]? = some o):=λb o h=>by
  by_cases hb':b<H.length
  ·rw[Y0j (by omega)]at h;exact .inl ⟨hb',h⟩
  · rw[Y0r (by omega),hl]at h
    exact .inr ⟨by omega,by rw[Y0r (by omega)];exact h⟩
 have old:∀(b:Nat)(o:AObj)(p:Place),(H'++X)[b]? = some o -> ι2 b=some p->∃o0,(H++X)[b]? = some o0 /\ ι b=some p/\o.fam=o0.fam/\o.sh=o0.sh/\(o.alive=true->o0.alive=true):=by
  intro b o p ho hp
  rcases g1 b o ho with ⟨h1,h2⟩|⟨h1,h2⟩
  · obtain⟨_,hq⟩:=a4 b p h1 hp
    obtain⟨o',k1,k2,k3,k4⟩:=hs.evo b _ (Y02 h1)
    rw[h2]at k1;cases k1
    exact⟨_,gH _ _ (Y02 h1),hq,k2,k3,k4⟩
  · rw[a2 b h1]at hp
    exact⟨o,h2,hp,rfl,rfl,id⟩
 have same:∀(b:Nat)(o:AObj)(p:Place),(H++X)[b]? = some o->o.alive=true->H.length<=b -> ι b=some p->W1.heap[p.blk]? = W.heap[p.blk]?:=λb o p ho ha hk hp =>
  hs.frame p.blk (hR.blk b p hp) λb' o' p' ho' ha' hp' e=>hfam b' b o' o p' p ho' ho ha' ha hk (i0' _ _ hp').2 hp e
 refine⟨v,sn1,ι2,rfl,Z16 ⟨λ_ _ h=>h,a1⟩ _ _ hv,⟨?_,hle,λb p hp=>?_,λc hc hno=>hs.frame c hc λb o p ho hal hp=>hno b o p (gH _ _ ho) hal (i0' _ _ hp).2,hs.size,hs.os,hs.tape,hs.output,λa v hv=>?_,λb o ho=>?_⟩⟩
 · refine⟨λb=>?_,λb p hp=>?_,λb o p ho hal hp=>?_,λb b' o o' p p' ho ho' ha ha' hp hp' e=>?_,λa u hu=>?_,λb o p ho hp e=>?_⟩
   · have:=hR.dom b
     rw[Y0h,hl,<- Y0h,this]
     constructor
     ·rintro⟨p,hp⟩;exact⟨p,a3 b p hp⟩
     · rintro⟨p,hp⟩
       by_cases hb':b<H.length
       ·exact⟨p,(a4 b p hb' hp).2⟩
       ·exact⟨p,by rw[<- a2 b (by omega)];exact hp⟩
   · by_cases hb':b<H.length
     ·exact hs.rel.blk b p (a4 b p hb' hp).1
     · rw[a2 b (by omega)]at hp
       have:=hR.blk b p hp;have:=hs.size;omega
   · rcases g1 b o ho with ⟨h1,h2⟩|⟨h1,h2⟩
     · obtain⟨hp1,_⟩:=a4 b p h1 hp
       exact Z0M ⟨λ_ _ h=>h,a1⟩ rfl (hs.rel.obj b o p h2 hal hp1)
     · rw[a2 b h1]at hp
       exact Z0M hle (same b o p h2 hal h1 hp) (hR.obj b o p h2 hal hp)
   · obtain⟨o0,k1,k2,k3,k4,k5⟩:=old b o p ho hp
     obtain⟨o0',k1',k2',k3',k4',k5'⟩:=old b' o' p' ho' hp'
     rw[k3,k3',k4,k4']
     exact hR.sep b b' o0 o0' p p' k1 k1' (k5 ha) (k5' ha') k2 k2' e
   · obtain⟨h1,h2,h3⟩:=hs.rel.snap a u hu
     refine⟨h1,h2,λb o p ho hal hp e=>?_⟩
     rcases g1 b o ho with ⟨k1,k2⟩|⟨k1,k2⟩
     ·exact h3 b o p k2 hal (a4 b p k1 hp).1 e
     · rw[a2 b k1]at hp
       rcases hs.sfresh a u hu with f1|f1|⟨b0,o0,p0,f1,f2,f3,f4⟩
       ·exact (hR.snap a u f1).2.2 b o p k2 hal hp e
       ·have:=hR.blk b p hp;omega
       ·exact hfam b0 b o0 o p0 p f1 k2 f2 hal k1 (i0' _ _ f3).2 hp (f4.trans e.symm)
   · obtain⟨o0,k1,k2,_,k4,_⟩:=old b o p ho hp
     exact hR.shz b o0 p k1 k2 (by rw[<- k4];exact e)
 · by_cases hb':b<H.length
   ·exact .inl (a4 b p hb' hp).2
   ·rw[a2 b (by omega)]at hp;exact .inl hp
 · rcases hs.sfresh a v hv with f1|f1|⟨b0,o0,p0,f1,f2,f3,f4⟩
   ·exact .inl f1
   ·exact .inr (.inl f1)
   ·exact .inr (.inr ⟨b0,o0,p0,gH _ _ f1,f2,(i0' _ _ f3).2,f4⟩)
 · by_cases hb':b<H.length
   · rw[Y0j hb']at ho
     obtain⟨o',k1,k2,k3,k4⟩:=hs.evo b o ho
     exact⟨o',by rw[Y0j (by omega)];exact k1,k2,k3,k4⟩
   · rw[Y0r (by omega)]at ho
     exact⟨o,by rw[Y0r (by omega),hl];exact ho,rfl,rfl,id⟩
end Go.Abs
end
namespace Go.Proofs.YtneoiadnbikciaaGreatDoor.lex
open Go.Abs Go.RowKit
section
variable {gl:Z0g}
def ordL:List (List UInt8):=[[110,97],[114,108,120],[97,99,113],[114,101,108],[97,114],[115,99]]
def Z08(T:List Tq)(s:Ps):List (List UInt8)->Int->Int×Ps
 |[],_=>(0,Z0r s 5 (Z0o T s).pos)
 |w::l,k=>if Z0F T s w=true then (k,Z0c T s w) else Z08 T (Z0c T s w) l (k+1)
theorem Znq(i:Nat)(h:i<6):∀off,off=i->tk 1 ((ordL.map AV.str).drop off)=some [.str (ordL[i]'h)]:=by
 intro off e
 subst e
 match off,h with
 |0,h=>rfl
 |1,h=>rfl
 |2,h=>rfl
 |3,h=>rfl
 |4,h=>rfl
 |5,h=>rfl
def Zg6:Z00:=[⟨true,1,0,.cells (ordL.map AV.str) 9⟩]
theorem Zjw{T:List Tq}{s0:Ps}(hs0:PsOK T s0):MemQ Y00 gl 1 121 [.ptr 0 0] (psH T s0) (.int .i64 (Z08 T s0 ordL 1).1) (psH T (Z08 T s0 ordL 1).2):=by
 have hinj:∀i j:Ps×List UInt8,PsOK T i.1->PsOK T j.1->[AV.ptr 0 0,.str i.2]=[AV.ptr 0 0,.str j.2]->psH T i.1++Zg6=psH T j.1++Zg6->AV.bool (Z0F T i.1 i.2)=AV.bool (Z0F T j.1 j.2)/\psH T (Z0c T i.1 i.2)++Zg6=psH T (Z0c T j.1 j.2)++Zg6:=λi j _ _ h h2=>by
  obtain⟨⟨a,b,c,d⟩,w⟩:=i
  obtain⟨⟨a',b',c',d'⟩,w'⟩:=j
  simp only[psH,Y08,Y0a,List.cons.injEq,AV.str.injEq,AV.int.injEq,AObj.mk.injEq,ABody.cells.injEq,true_and,and_true]at h h2
  obtain⟨h3,rfl,rfl,rfl⟩:=h2
  have h4:a=a':=by omega
  subst h4 h
  exact⟨rfl,rfl⟩
 obtain⟨O,hO,⟨p1,-⟩,-⟩:=Z3v (P:=Y00) (gl:=gl) [{ I:=Ps×List UInt8,f:=45,G:=λi=>PsOK T i.1,A:=λi=>[.ptr 0 0,.str i.2],H:=λi=>psH T i.1++Zg6,R:=λi=>.bool (Z0F T i.1 i.2),O:=λi=>psH T (Z0c T i.1 i.2)++Zg6,body:=(by kernel_rfl),inj:=hinj,ok:=λi h=>Zh7 (Za5 (Zcy h i.2)) Zg6 rfl rfl rfl rfl }] [] rfl
 have q1:∀s w,PsOK T s->Z05 Y00 O (psH T s++Zg6) 45 [.ptr 0 0,.str w]=some (.bool (Z0F T s w),psH T (Z0c T s w)++Zg6):=λs w h=>p1 (s,w) h
 clear p1
 generalize hR:Z08 T s0 ordL 1=R
 refine Z2o isN 3 follows Z06 hO Tryz.func121 rfl ?_
 simp only[psH]
 repeat' ((conv=>whnf);first|refine stp ?_|with_reducible apply Z01<;>intro h)
 conv=>whnf
 refine⟨Nat×Ps,(λx=>x.1<=6/\PsOK T x.2/\Z08 T x.2 (ordL.drop x.1) ((x.1:Int)+1)=R),(λx=>[(0,.ptr 0 0),(3,.slice 1 0 6 6 1),(4,.int .i64 (x.1:Nat))]),(λx=>psH T x.2++Zg6),(λx=>6-x.1),⟨(0,s0),⟨Y0e _,hs0,hR⟩,?_⟩,?_⟩
 · refine FgLK.mk [0,1] rfl rfl ?_ ⟨hbp,hbp,trivial⟩ rfl
   exact wks
 clear hR
 rintro⟨i,s⟩ ⟨hi,hs,hf⟩
 dsimp only at hi hs hf
 (try dsimp only)
 have hx:=tq4 T s.i hs.lt
 rw[<- Z0s hs.lt]at hx
 have hlt:=hs.lt
 by_cases h6:i<6
 · have e1:decide ((i:Int)<6)=true:=by simp;omega
   have hw:=Znq i h6
   have wa:IntKind.i64.wrap ((i:Int)+1)=((i+1:Nat):Int):=Z1D (by omega)
   have wb:IntKind.i64.wrap (1+(i:Int))=(i:Int)+1:=by rw[Int.add_comm];exact Z7h (by omega) (by omega)
   rw[Y0u (l:=ordL) h6]at hf
   simp only[Z08]at hf
   have q:=q1 s (ordL[i]'h6) hs
   have hs2:=Z5H hs (w:=ordL[i]'h6) Z4m
   clear q1
   generalize ordL[i]'h6=w at *
   generalize Z0c T s w=s2 at *
   generalize Z0F T s w=b at *
   obtain⟨a2,b2,c2,d2⟩:=s2
   obtain⟨a1,b1,c1,d1⟩:=s
   have hlt2:=hs2.lt
   simp only[psH,Zg6,Y08,Y0a]at q hlt2⊢
   cases b
   · rw[if_neg (by decide)]at hf
     repeat' ((conv=>whnf);first|refine exI q ?_|refine exI (hw _ (by omega)) ?_|(with_reducible refine exW wa ?_)|(with_reducible refine ixJ i rfl ?_ ?_;focus omega)|refine stp ?_|with_reducible apply Z01<;>intro h)
     conv=>whnf
     refine⟨(i+1,⟨a2,b2,c2,d2⟩),⟨h6,hs2,hf⟩,by show 6-(i+1)<6-i;omega,?_⟩
     refine FgLK.mk [0,1] rfl rfl ?_ ⟨hbp,hbp,trivial⟩ rfl
     exact wks
   · rw[if_pos rfl]at hf
     subst hf
     repeat' ((conv=>whnf);first|refine exI q ?_|refine exI (hw _ (by omega)) ?_|(with_reducible refine exW wb ?_)|(with_reducible refine ixJ i rfl ?_ ?_;focus omega)|refine stp ?_|with_reducible apply Z01<;>intro h)
     all_goals (conv=>whnf)
     all_goals exact⟨[0],rfl,⟨hbp,trivial⟩,rfl,Y01 rfl⟩
 · have e1:decide ((i:Int)<6)=false:=by simp;omega
   rw[List.drop_eq_nil_of_le (by show 6<=i;omega)]at hf
   simp only[Z08]at hf
   subst hf
   clear q1
   unfold Z0r
   generalize Z0o T s=t at *
   obtain⟨k,tx,nm,ps⟩:=t
   obtain⟨j,err,at_,op⟩:=s
   simp only[Tq.cells,psH,Zg6,Y08,Y0a]at hx hlt⊢
   by_cases he:err=0
   · subst he
     repeat' ((conv=>whnf);first|refine exI hx ?_|(with_reducible refine ixJ j rfl ?_ ?_;focus omega)|refine stp ?_|with_reducible apply Z01<;>intro h)
     all_goals (try (conv=>whnf))
     all_goals exact⟨[0],rfl,⟨hbp,trivial⟩,rfl,Y01 rfl⟩
   · have e2:(err==0)=false:=by simpa using he
     simp only[he,if_false]
     repeat' ((conv=>whnf);first|refine exI hx ?_|(with_reducible refine ixJ j rfl ?_ ?_;focus omega)|refine stp ?_|with_reducible apply Z01<;>intro h)
     all_goals (try (conv=>whnf))
     all_goals exact⟨[0],rfl,⟨hbp,trivial⟩,rfl,Y01 rfl⟩
end
section
variable {gl:Z0g}
theorem ZlG{T:List Tq}{s s':Ps}{X X':Z00}(h:psH T s++X=psH T s'++X'):s=s'/\X=X':=by
 obtain⟨a,b,c,d⟩:=s
 obtain⟨a',b',c',d'⟩:=s'
 simp only[psH,Y08,Y0a,List.cons.injEq,AV.int.injEq,AObj.mk.injEq,ABody.cells.injEq,true_and,and_true]at h
 obtain⟨⟨h3,rfl,rfl,rfl⟩,rfl⟩:=h
 have h4:a=a':=by omega
 subst h4
 exact⟨rfl,rfl⟩
def Z48(T:List Tq)(f:Nat)(hb:Z0h Y00 f=true){I:Type}(G:I->Ps->Prop)(A:I->List AV)(R:I->Ps->AV)(N:I->Ps->Ps)(hA:∀i,Z12 1 (refsL (A i) [])=true)(hinj:∀i j,A i=A j->i=j)(ok:∀i s,G i s->MemQ Y00 gl 1 f (A i) (psH T s) (R i s) (psH T (N i s))):FamM Y00 gl :=
 have h1:∀x y:I×Ps×Z00,(G x.1 x.2.1/\Z07 [0] x.2.2=true)->(G y.1 y.2.1/\Z07 [0] y.2.2=true)->A x.1=A y.1->psH T x.2.1++x.2.2=psH T y.2.1++y.2.2->R x.1 x.2.1=R y.1 y.2.1/\psH T (N x.1 x.2.1)++x.2.2=psH T (N y.1 y.2.1)++y.2.2:=λx y _ _ h h2=>by
  obtain⟨i,s,X⟩:=x
  obtain⟨j,s',X'⟩:=y
  obtain⟨e1,e2⟩:=ZlG h2
  have e3:=hinj _ _ h
  simp only at e1 e2 e3
  subst e1 e2 e3
  exact⟨rfl,rfl⟩
 { I:=I×Ps×Z00,f:=f,G:=λx=>G x.1 x.2.1/\Z07 [0] x.2.2=true,A:=λx=>A x.1,H:=λx=>psH T x.2.1++x.2.2,R:=λx=>R x.1 x.2.1,O:=λx=>psH T (N x.1 x.2.1)++x.2.2,body:=hb,inj:=h1,ok:=λx h=>Zh7 (Za5 (ok x.1 x.2.1 h.1)) x.2.2 rfl (hA x.1) rfl h.2 }
def ex0:Ex:=.mk 0 0 [] []
def lvS:Nat->List (List UInt8×Int)
 |0=>[([124,124],5)]
 |1=>[([38,38],6)]
 |2=>[([61,61],7),([33,61],8)]
 |3=>[([60],9),([60,61],10)]
 |4=>[([124],11)]
 |5=>[([94],12)]
 |6=>[([38],13)]
 |7=>[([43],14),([45],15)]
 |_=>[([42],16)]
def Z10(T:List Tq)(rec1:Ps->Ex×Ps):List (List UInt8×Int)->Ex->Ps->Bool->Ex×Ps×Bool
 |[],x,s,a=>(x,s,a)
 |(w,o)::l,x,s,a=>if Z0F T s w=true then Z10 T rec1 l (.mk o 0 [] [x,(rec1 (Z0c T s w)).1]) (rec1 (Z0c T s w)).2 true else Z10 T rec1 l x (Z0c T s w) a
def Z1F(T:List Tq)(rec1:Ps->Ex×Ps)(l:List (List UInt8×Int)):Nat->Ex->Ps->Ex×Ps
 |0,x,s=>(x,s)
 |k+1,x,s=>if (Z10 T rec1 l x s false).2.2=true then Z1F T rec1 l k (Z10 T rec1 l x s false).1 (Z10 T rec1 l x s false).2.1 else ((Z10 T rec1 l x s false).1,(Z10 T rec1 l x s false).2.1)
def Z2P(T:List Tq)(un:Ps->Ex×Ps):Nat->Ps->Ex×Ps
 |0,s=>un s
 |m+1,s=>Z1F T (Z2P T un m) (lvS (8-m)) (T.length+1) (Z2P T un m s).1 (Z2P T un m s).2
def Z19(T:List Tq)(ex:Ps->Ex×Ps)(s:Ps):Ex×Ps :=
 if s.err≠0 then (ex0,s)
 else if (Z0o T s).kind=3 then (.mk 1 (Z0o T s).num [] [],{ s with i:=s.i+1 })
 else if (Z0o T s).kind=1 then (.mk 2 0 (Z0o T s).text [],{ s with i:=s.i+1 })
 else if Z0F T s [40]=true then ((ex (Z0c T s [40])).1,Z03 T (ex (Z0c T s [40])).2 [41])
 else (ex0,Z0r (Z0c T s [40]) 5 (Z0o T s).pos)
def unF(T:List Tq):Nat->Ps->Ex×Ps
 |0,s=>(ex0,s)
 |d+1,s=>if isF T s [45]=false/\isF T s [33]=false then Z19 T (Z2P T (unF T d) 9) s
  else if s.op=200 then (ex0,Z0r s 3 (Z0o T s).pos)
  else (.mk (if isF T s [33]=true then 4 else 3) 0 [] [(unF T d { s with i:=s.i+1,op:=s.op+1 }).1],{ (unF T d { s with i:=s.i+1,op:=s.op+1 }).2 with op:=(unF T d { s with i:=s.i+1,op:=s.op+1 }).2.op-1 })
structure PsGo (T:List Tq) (s s':Ps):Prop where
 ok:PsOK T s'
 on:s.i<=s'.i
 lo:s.op+s.i<=s'.op+s'.i
theorem PsGo.trans{T:List Tq}{a b c:Ps}(h:PsGo T a b)(k:PsGo T b c):PsGo T a c:=⟨k.ok,Y0b h.on k.on,Int.le_trans h.lo k.lo⟩
theorem Z4W{T:List Tq}{s:Ps}(hs:PsOK T s)(e a:Int):PsGo T s (Z0r s e a):=⟨Zat hs e a,by unfold Z0r;split<;>exact Y04 _,by unfold Z0r;split<;>exact Y0s _⟩
theorem Z4G{T:List Tq}{s:Ps}(hs:PsOK T s)(w:List UInt8):PsGo T s (Z0c T s w):=by
 refine⟨Z5H hs Z4m,?_,?_⟩
 · unfold Z0c Z0r
   repeat' split
   all_goals (try exact Y04 _)
   all_goals exact Nat.le_succ _
 · unfold Z0c Z0r
   repeat' split
   all_goals (try exact Y0s _)
   all_goals (simp only;omega)
theorem Z0C{T:List Tq}{s:Ps}(hs:PsOK T s)(w:List UInt8):PsGo T s (Z03 T s w):=by
 have h:=Z4G hs w
 unfold Z03;split
 ·exact h
 ·exact h.trans (Z4W h.ok _ _)
end
section
variable {gl:Z0g}
def Z9Z(T:List Tq):FamM Y00 gl:=Z48 T 45 (by kernel_rfl) (I:=List UInt8) (λ_ s=>PsOK T s) (λw=>[.ptr 0 0,.str w]) (λw s=>.bool (Z0F T s w)) (λw s=>Z0c T s w) (λ_=>rfl) (λi j h=>by simpa using h) (λw s h=>Zcy h w)
def Z6D(T:List Tq):FamM Y00 gl:=Z48 T 92 (by kernel_rfl) (I:=List UInt8) (λ_ s=>PsOK T s) (λw=>[.ptr 0 0,.str w]) (λw s=>.tuple []) (λw s=>Z03 T s w) (λ_=>rfl) (λi j h=>by simpa using h) (λw s h=>ZlM h w)
theorem Z3G{m:List Nat}{o n:Int}{nm:List UInt8}:Wk m (.agg [.int .i64 o,.int .i64 n,.str nm,.nslice]) (.agg (Ex.mk o n nm []).cells):=Wk.agg ⟨Y09 rfl,Y09 rfl,Y01 rfl,Wk.nil,trivial⟩
def Zqa(f:Nat):Bool:=Y03 f 45 || (Y03 f 92 || Y03 f 51)
theorem ZmK {T : List Tq} {s : Ps} (hs : PsOK T s) {ex : Ps -> Ex × Ps} (hex : Z0F T s [40] = true -> PsOK T (ex (Z0c T s [40])).2 /\ MemQ Y00 gl 1 51 [.ptr 0 0, .int .i64 0] (psH T (Z0c T s [40])) (.agg (ex (Z0c T s [40])).1.cells) (psH T (ex (Z0c T s [40])).2)) :
  MemQ Y00 gl 1 111 [.ptr 0 0] (psH T s) (.agg (Z19 T ex s).1.cells) (psH T (Z19 T ex s).2):=by
 obtain⟨O,hO,⟨p1,p2,p3,-⟩,-⟩:=Z3v (P:=Y00) (gl:=gl) [Z9Z T,Z6D T,Z48 T 51 (by kernel_rfl) (I:=Unit) (λ_ s'=>s'=Z0c T s [40]/\Z0F T s [40]=true) (λ_=>[.ptr 0 0,.int .i64 0]) (λ_ s'=>.agg (ex s').1.cells) (λ_ s'=>(ex s').2) (λ_=>rfl) (λ_ _ _=>rfl) (λ_ s' h=>by rw[h.1];exact (hex h.2).2)] [] rfl
 have q1:∀X,Z07 [0] X=true->Z05 Y00 O (psH T s++X) 45 [.ptr 0 0,.str [40]]=some (.bool (Z0F T s [40]),psH T (Z0c T s [40])++X):=λX hX=>p1 ([40],s,X) ⟨hs,hX⟩
 have q2:∀s2 X,PsOK T s2->Z07 [0] X=true->Z05 Y00 O (psH T s2++X) 92 [.ptr 0 0,.str [41]]=some (.tuple [],psH T (Z03 T s2 [41])++X):=λs2 X h hX=>p2 ([41],s2,X) ⟨h,hX⟩
 have q3:Z0F T s [40]=true->∀X,Z07 [0] X=true->Z05 Y00 O (psH T (Z0c T s [40])++X) 51 [.ptr 0 0,.int .i64 0]=some (.agg (ex (Z0c T s [40])).1.cells,psH T (ex (Z0c T s [40])).2++X):=λh X hX=>p3 ((),Z0c T s [40],X) ⟨⟨rfl,h⟩,hX⟩
 clear p1 p2 p3
 have hx:=tq4 T s.i hs.lt
 rw[<- Z0s hs.lt]at hx
 have hlt:=hs.lt
 have hfew:=hs.few
 have hex2:=λh=>(hex h).1
 have hs2:=Z5H hs (w:=[40]) Z4m
 clear hex
 unfold Z19
 generalize Z0c T s [40]=s2 at *
 generalize Z0F T s [40]=b at *
 generalize ex s2=r at *
 generalize Z0o T s=t at *
 obtain⟨k,tx,nm,ps⟩:=t
 obtain⟨⟨o,n,nn,ks⟩,s3⟩:=r
 have wa:IntKind.i64.wrap ((s.i:Int)+1)=((s.i+1:Nat):Int):=Z1D (by omega)
 obtain⟨i,err,at_,op⟩:=s
 simp only[Tq.cells,Ex.cells]at hx hlt hex2 q3 wa⊢
 refine Z2o Zqa 3 follows Z06 hO Tryz.func111 rfl ?_
 by_cases he:err=0
 case' neg =>
  have e1:(err != 0)=true:=by simpa using he
  simp only[he,ne_eq,not_false_eq_true,if_true]
  simp only[psH]
  repeat' ((conv=>whnf);first|refine exI hx ?_|(with_reducible refine ixJ i rfl ?_ ?_;focus omega)|refine stp ?_|with_reducible apply Z01<;>intro h)
  all_goals (try (conv=>whnf))
  all_goals exact⟨[0],rfl,⟨hbp,trivial⟩,rfl,Z3G⟩
 subst he
 simp only[ne_eq,not_true_eq_false,if_false]
 by_cases hk3:k=3
 · subst hk3
   simp only[if_true,psH]
   repeat' ((conv=>whnf);first|refine exI hx ?_|(with_reducible refine exW wa ?_)|(with_reducible refine ixJ i rfl ?_ ?_;focus omega)|refine stp ?_|with_reducible apply Z01<;>intro h)
   all_goals (try (conv=>whnf))
   all_goals exact⟨[0],rfl,⟨hbp,trivial⟩,rfl,Z3G⟩
 have g3:(k==3)=false:=by simpa using hk3
 by_cases hk1:k=1
 · subst hk1
   simp only[hk3,if_true,if_false,psH]
   repeat' ((conv=>whnf);first|refine exI hx ?_|(with_reducible refine exW wa ?_)|(with_reducible refine ixJ i rfl ?_ ?_;focus omega)|refine stp ?_|with_reducible apply Z01<;>intro h)
   all_goals (try (conv=>whnf))
   all_goals exact⟨[0],rfl,⟨hbp,trivial⟩,rfl,Z3G⟩
 have g1:(k==1)=false:=by simpa using hk1
 simp only[hk3,hk1,if_false]
 cases b with
 |false =>
  simp only[Y0q,if_false]
  unfold Z0r
  obtain⟨i2,e2,a2,o2⟩:=s2
  by_cases he2:e2=0
  · subst he2
    simp only[psH,if_true]at q1⊢
    repeat' ((conv=>whnf);first|refine exI hx ?_|refine exI (q1 _ rfl) ?_|(with_reducible refine ixJ i rfl ?_ ?_;focus omega)|refine stp ?_|with_reducible apply Z01<;>intro h)
    all_goals (try (conv=>whnf))
    all_goals exact⟨[0],rfl,⟨hbp,trivial⟩,rfl,Z3G⟩
  · have g2:(e2==0)=false:=by simpa using he2
    simp only[psH,he2,if_false]at q1⊢
    repeat' ((conv=>whnf);first|refine exI hx ?_|refine exI (q1 _ rfl) ?_|(with_reducible refine ixJ i rfl ?_ ?_;focus omega)|refine stp ?_|with_reducible apply Z01<;>intro h)
    all_goals (try (conv=>whnf))
    all_goals exact⟨[0],rfl,⟨hbp,trivial⟩,rfl,Z3G⟩
 |true =>
  simp only[if_true]
  have q3:=q3 rfl
  have q2:=λX=>q2 s3 X (hex2 rfl)
  generalize Z03 T s3 [41]=s4 at *
  simp only[psH]at q1 q2 q3⊢
  repeat' ((conv=>whnf);first|refine exI hx ?_|refine exI (q1 _ rfl) ?_|refine exI (q3 _ rfl) ?_|refine exI (q2 _ rfl) ?_|(with_reducible refine ixJ i rfl ?_ ?_;focus omega)|refine stp ?_|with_reducible apply Z01<;>intro h)
  all_goals (try (conv=>whnf))
  all_goals exact⟨[0],rfl,⟨hbp,trivial⟩,rfl,Y01 rfl⟩
end
end Go.Proofs.YtneoiadnbikciaaGreatDoor.lex
section
namespace Go.Abs
open Go.RowKit
def sgS(m:List Nat)(d:Nat)(b:Nat):Nat:=if b<m.length then m.getD b 0 else d+(b-m.length)
def Z90(m:List Nat)(σ : Nat->Nat)(Hs:Z00):Nat->Z00->Z00
 |_,[]=>[]
 |i,o::H=>(match Z5a m i 0 with
  |some j=>match Hs[j]? with
   |some o'=>{ o with alive:=o'.alive,body:=Z59 σ o'.body }
   |none=>o
  |none=>o)::Z90 m σ Hs (i+1) H
theorem Z9W (m : List Nat) (σ : Nat -> Nat) (Hs : Z00) : ∀ (H : Z00) (i b : Nat), (Z90 m σ Hs i H)[b]? = (H[b]?).map fun o => match Z5a m (i + b) 0 with
  |some j=>match Hs[j]? with
   |some o'=>{ o with alive:=o'.alive,body:=Z59 σ o'.body }
   |none=>o
  |none=>o
 |[],i,b=>by simp[Z90]
 |o::H,i,0=>by
  simp only[Z90,Y0B,Y0k,Nat.add_zero]<;>rfl
 |o::H,i,b+1=>by
  simp only[Z90,Y0x]
  rw[Z9W m σ Hs H (i+1) b,show i+1+b=i+(b+1) by omega]
theorem Z9V(m:List Nat)(σ : Nat->Nat)(Hs:Z00):∀(H:Z00)(i:Nat),(Z90 m σ Hs i H).length=H.length
 |[],i=>rfl
 |o::H,i=>by simp only[Z90,Y0d,Z9V m σ Hs H (i+1)]
def shS(σ : Nat->Nat):Nat->Z00->Z00
 |_,[]=>[]
 |n,o::H=>⟨o.alive,n,o.sh,Z59 σ o.body⟩::shS σ (n+1) H
theorem ZcH(σ : Nat->Nat):∀(H:Z00)(n b:Nat),(shS σ n H)[b]? = (H[b]?).map λo=>⟨o.alive,n+b,o.sh,Z59 σ o.body⟩
 |[],n,b=>by simp[shS]
 |o::H,n,0=>rfl
 |o::H,n,b+1=>by
  simp only[shS,Y0x]
  rw[ZcH σ H (n+1) b,show n+1+b=n+(b+1) by omega]
theorem Z8e(σ : Nat->Nat):∀(H:Z00)(n:Nat),(shS σ n H).length=H.length
 |[],n=>rfl
 |o::H,n=>by simp only[shS,Y0d,Z8e σ H (n+1)]
def Z7o:Z00->List Nat
 |[]=>[]
 |o::H=>cond o.alive (o.fam::Z7o H) (Z7o H)
theorem Z8I:∀{H:Z00}{i:Nat}{o:AObj},H[i]? = some o->o.alive=true->mem o.fam (Z7o H)=true
 |[],i,o,h,_=>by simp at h
 |x::H,0,o,h,ha=>by
  simp at h;subst h
  simp only[Z7o,ha,cond_true]
  exact Z11.2 (List.mem_cons_self ..)
 |x::H,i+1,o,h,ha=>by
  have:=Z11.1 (Z8I (H:=H) (by simpa using h) ha)
  unfold Z7o
  cases x.alive
  ·exact Z11.2 this
  ·exact Z11.2 (List.mem_cons_of_mem _ this)
theorem Z2H:∀{H:Z00}{i j:Nat}{o o':AObj},Z0Q (Z7o H)=true->H[i]? = some o->H[j]? = some o'->o.alive=true->o'.alive=true->o.fam=o'.fam->i=j
 |[],i,j,o,o',h,e,_,_,_,_=>by simp at e
 |x::H,i,j,o,o',h,e,e',ha,ha',hf=>by
  have hn:Z0Q (Z7o H)=true:=by
   unfold Z7o at h
   cases hx:x.alive
   ·rw[hx]at h;exact h
   · rw[hx]at h
     simp only[cond_true,Z0Q,Y05]at h
     exact h.2
  have hx:x.alive=true->mem x.fam (Z7o H)=false:=λhx=>by
   unfold Z7o at h
   rw[hx]at h
   simp only[cond_true,Z0Q,Y05,Y0m]at h
   exact h.1
  cases i with
  |zero =>
   cases j with
   |zero=>rfl
   |succ j =>
    simp at e e';subst e
    have:=Z8I e' ha'
    rw[<- hf,hx ha]at this;cases this
  |succ i =>
   cases j with
   |zero =>
    simp at e e';subst e'
    have:=Z8I e ha
    rw[hf,hx ha']at this;cases this
   |succ j =>
    simp at e e'
    rw[Z2H hn e e' ha ha' hf]
theorem ZlO {P : Program} {gl : Z0g} {f : Nat} {Hs Hs' Hc : Z00} {fargs cargs : List AV} {r : AV} {m : List Nat} (hM : Z2i P gl f fargs Hs r Hs') (hargs : Wk m (.tuple cargs) (.tuple fargs)) (hsub : HpGe Hc m m Hs 0)
  (hnd:Z0Q (m.map (Z1i Hc))=true) (hlone:ZfD m (m.map (Z1i Hc)) 0 Hc=true) (hnA:Z0Q (Z7o Hs')=true) (hF:∀o∈Hc,o.fam<Hc.length)
  (hg2:∀(i:Nat)(o:AObj),Hs'[i]? = some o->Z12 Hs'.length (Z3O o.body [])=true) (hrk:Z12 Hs'.length (Z2a r [])=true) :
  Z2i P gl f cargs Hc (ren (sgS m Hc.length) r) (Z90 m (sgS m Hc.length) Hs' 0 Hc++shS (sgS m Hc.length) Hc.length (Hs'.drop m.length)):=by
 intro sn ι W vargs hg hR hl
 obtain⟨hl1,hg1⟩:=hsub.get
 have inm:∀b,b∈m->∃ (i:Nat) (o o2:AObj) (p:Place),m[i]? = some b/\Hc[b]? = some o/\Hs[i]? = some o2/\o.alive=true/\o2.alive=true /\ ι b=some p/\o2.sh=o.sh:=by
  intro b hb
  obtain⟨i,hi,rfl⟩:=List.mem_iff_getElem.1 hb
  obtain⟨j,o,o2,x1,x2,x3,x4,x5,_,x7,_⟩:=hg1 i hi
  rw[Y02 hi]at x1
  cases x1
  obtain⟨p,hp⟩:=hR.place x2
  exact⟨i,o,o2,p,Y02 hi,x2,x3,x4,x5,hp,x7⟩
 have apart_:∀(b:Nat)(o:AObj)(p:Place),Hc[b]? = some o->o.alive=true->b ∉ m -> ι b=some p->∀b' p',b'∈m -> ι b'=some p'->p'.blk≠p.blk:=by
  intro b o p ho hoa hb hp b' p' hb' hp' e
  obtain⟨i,o',o2,q,y1,y2,y3,y4,y5,y6,_⟩:=inm b' hb'
  have hs:=hR.sep b b' o o' p p' ho y2 hoa y4 hp hp' e.symm
  rcases Z8r hlone ho hoa with h|h
  ·exact hb (by simpa using h)
  · refine h ?_
    rw[Y0y]
    exact⟨b',hb',by simp only[Z1i,y2];exact hs.1.symm⟩
 have hRs:R sn (iot m ι) Hs W:=Zls hsub hnd hR
 have atm:∀{i:Nat}{p:Place},iot m ι i=some p->∃b,m[i]? = some b/\b∈m /\ ι b=some p:=λ{i p} hp=>by
  unfold iot at hp
  split at hp
  ·rename_i b hb;exact⟨b,hb,Y0l hb,hp⟩
  ·cases hp
 have hla:LR sn (iot m ι) fargs vargs:=by
  have h1:VR sn ι (.tuple cargs) (.tuple vargs.toArray):=by simp only[VR];exact⟨_,rfl,by simpa using hl⟩
  have h2:=hargs _ _ _ h1
  simp only[VR]at h2
  obtain⟨d,e1,e2⟩:=h2
  simp at e1;subst e1;simpa using e2
 refine (hM sn (iot m ι) W vargs hg hRs hla).mono ?_
 rintro e W' ⟨v,sn',ι',rfl,hv,hst⟩
 generalize hd:Hc.length=d at *
 generalize hk:m.length=k at *
 have hk':k<=Hs'.length:=by
  rcases Nat.eq_zero_or_pos k with h|h
  ·omega
  · have:=(Y06.1 (hst.evo (k-1) _ (Y02 (by omega))).choose_spec.1).1
    omega
 let κ : Z0i:=λb=>if b<d then ι b else ι' (k+(b-d))
 have k1:∀b,b<d -> κ b = ι b:=λb hb=>if_pos hb
 have k2:∀b,d<=b -> κ b = ι' (k+(b-d)):=λb hb=>by show (if b<d then ι b else ι' (k+(b-d)))=_;rw[if_neg (by omega)]
 have mLt:∀{i b:Nat},m[i]? = some b->b<d:=λ{i b} h=>by
  obtain⟨_,o,_,p,_,y2,_⟩:=inm b (Y0l h)
  rw[<- hd];exact (Y06.1 y2).1
 have hfwd:∀(i b:Nat)(p:Place),m[i]? = some b -> ι b=some p -> ι' i=some p:=λi b p hb hp=>hst.le.ι i p (by simp only[iot,hb];exact hp)
 have hback:∀i,i<Hs'.length->∀p,ι' i=some p -> κ (sgS m d i)=some p:=λi hi p hp=>by
  unfold sgS
  rw[hk]
  by_cases hik:i<k
  · obtain⟨b,hb⟩:∃b,m[i]? = some b:=⟨m[i],Y02 (by omega)⟩
    obtain⟨q,hq⟩:=(hR.dom b).1 (by rw[hd];exact mLt hb)
    have:=hfwd i b q hb hq
    rw[hp]at this;cases this
    rw[if_pos hik,Y0t,hb]
    show κ b=some p
    rw[k1 b (mLt hb)];exact hq
  ·rw[if_neg hik,k2 _ (by omega),show k+(d+(i-k)-d)=i by omega];exact hp
 have pos_:∀b,b∈m->∃i,Z5a m b 0=some i/\m[i]? = some b:=λb hb=>by
  cases hx:Z5a m b 0 with
  |none=>exact (Z5U hx hb).elim
  |some i=>exact⟨i,rfl,by simpa using (Z2e hx).2⟩
 have hlen:(Z90 m (sgS m d) Hs' 0 Hc).length=d:=by rw[Z9V,hd]
 have hnr:∀c,c<W.heap.size->(∀(b:Nat)(o:AObj) p,Hc[b]? = some o->o.alive=true -> ι b=some p->p.blk≠c)->W'.heap[c]? = W.heap[c]?:=λc hc hno=>by
  refine hst.frame c hc λi o2 p2 hi ha hp2 e=>?_
  obtain⟨b,_,hb,hp3⟩:=atm hp2
  obtain⟨_,o,_,_,_,y2,_,y4,_⟩:=inm b hb
  exact hno b o p2 y2 y4 hp3 e
 have old:∀(b:Nat)(o:AObj)(p:Place),Hc[b]? = some o->o.alive=true->b ∉ m -> ι b=some p->W'.heap[p.blk]? = W.heap[p.blk]?:=λb o p ho hoa hb hp=>by
  refine hst.frame _ (hR.blk b p hp) λi o2 p2 hi ha hp2 e=>?_
  obtain⟨c,_,hc,hp3⟩:=atm hp2
  exact apart_ b o p ho hoa hb hp c p2 hc hp3 e
 have new_:∀(j:Nat)(x:AObj)(p:Place),Hs'[j]? = some x->x.alive=true->k<=j -> ι' j=some p->∀(b:Nat)(o:AObj)(q:Place),Hc[b]? = some o->o.alive=true->b ∉ m -> ι b=some q->q.blk≠p.blk:=by
  intro j x p hj hja hkj hp b o q ho hoa hb hq e
  rcases hst.fresh j p hp with h|h|⟨b0,o0,p0,e1,e2,e3,e4⟩
  · obtain⟨c,hc,_⟩:=atm h
    have:=(Y06.1 hc).1;omega
  ·have:=hR.blk b q hq;omega
  · obtain⟨c,_,hc,hp3⟩:=atm e3
    exact apart_ b o q ho hoa hb hq c p0 hc hp3 (e4.trans e.symm)
 have hget : ∀ (b : Nat) (o' : AObj) (p : Place), (Z90 m (sgS m d) Hs' 0 Hc ++ shS (sgS m d) d (Hs'.drop k))[b]? = some o' -> κ b = some p ->
   (b<d /\ ι b=some p/\∃o,Hc[b]? = some o/\o'.fam=o.fam/\o'.sh=o.sh/\((b ∉ m/\o'=o)\/∃i x,m[i]? = some b/\i<k/\Hs'[i]? = some x/\o'.alive=x.alive/\o'.body=Z59 (sgS m d) x.body/\o.alive=true /\ ι' i=some p)) \/
   (d<=b /\ ι' (k+(b-d))=some p/\∃x,Hs'[k+(b-d)]? = some x/\o'=⟨x.alive,b,x.sh,Z59 (sgS m d) x.body⟩):=by
  intro b o' p hb hp
  by_cases hlt:b<d
  · rw[Y0j (by omega)]at hb
    rw[k1 b hlt]at hp
    refine .inl ⟨hlt,hp,?_⟩
    rw[Z9W]at hb
    simp only[Y0w]at hb
    cases hx:Hc[b]? with
    |none=>rw[hx]at hb;cases hb
    |some o =>
     rw[hx]at hb
     simp only[Y0k,Option.some.injEq]at hb
     refine⟨o,rfl,?_⟩
     by_cases hbm:b∈m
     · obtain⟨i,h1,h2⟩:=pos_ b hbm
       have hi:i<k:=by rw[<- hk];exact (Y06.1 h2).1
       have hi':i<Hs'.length:=by omega
       rw[h1]at hb
       simp only[Y02 hi']at hb
       subst hb
       obtain⟨_,y,_,_,_,y2,_,y4,_⟩:=inm b hbm
       rw[hx]at y2;cases y2
       exact⟨rfl,rfl,.inr ⟨i,Hs'[i],h2,hi,Y02 hi',rfl,rfl,y4,hfwd i b p h2 hp⟩⟩
     · have hn : Z5a m b 0 = none := by
        cases hx:Z5a m b 0 with
        |none=>rfl
        |some i=>exact (hbm (Y0l (Z2e hx).2)).elim
       rw[hn]at hb
       subst hb
       exact⟨rfl,rfl,.inl ⟨hbm,rfl⟩⟩
  · rw[Y0r (by omega),hlen,ZcH,Y0A]at hb
    rw[k2 b (by omega)]at hp
    cases hx:Hs'[k+(b-d)]? with
    |none=>rw[hx]at hb;cases hb
    |some x =>
     rw[hx]at hb
     simp only[Y0k,Option.some.injEq]at hb
     exact .inr ⟨by omega,hp,x,rfl,by rw[<- hb,show d+(b-d)=b by omega]⟩
 have hal:∀{b:Nat}{o o':AObj}{p:Place},((b ∉ m/\o'=o)\/∃i x,m[i]? = some b/\i<k/\Hs'[i]? = some x/\o'.alive=x.alive/\o'.body=Z59 (sgS m d) x.body/\o.alive=true /\ ι' i=some p)->o'.alive=true->o.alive=true:=λ{b o o' p} h ha=>by
  rcases h with ⟨_,rfl⟩|⟨_,_,_,_,_,_,_,h,_⟩
  ·exact ha
  ·exact h
 have hR':R sn' κ (Z90 m (sgS m d) Hs' 0 Hc++shS (sgS m d) d (Hs'.drop k)) W':=by
  refine⟨λb=>⟨λhb=>?_,λ⟨p,hp⟩=>?_⟩,λb p hp=>?_,λb o' p hb ha hp=>?_,λb b' o o' p p' hb hb' ha ha' hp hp' e=>?_,λa v hv=>?_,λb o' p hb hp e=>?_⟩
  · simp only[Y0h,hlen,Z8e,Y0E]at hb
    by_cases hlt:b<d
    ·rw[k1 b hlt];exact (hR.dom b).1 (by omega)
    ·rw[k2 b (by omega)];exact (hst.rel.dom _).1 (by omega)
  · simp only[Y0h,hlen,Z8e,Y0E]
    by_cases hlt:b<d
    ·omega
    · rw[k2 b (by omega)]at hp
      have:=(hst.rel.dom _).2 ⟨p,hp⟩;omega
  · by_cases hlt:b<d
    ·rw[k1 b hlt]at hp;exact Y0C (hR.blk b p hp) hst.size
    ·rw[k2 b (by omega)]at hp;exact hst.rel.blk _ p hp
  · rcases hget b o' p hb hp with ⟨b1,b2,o,b3,b4,b5,⟨b6,rfl⟩|⟨i,x,c1,c2,c3,c4,c5,c6,c7⟩⟩|⟨b1,b2,x,b3,rfl⟩
    · refine Z0M ⟨hst.le.sn,λc p hc=>?_⟩ (old b _ p b3 ha b6 b2) (hR.obj b _ p b3 ha b2)
      rw[k1 c (by have:=(hR.dom c).2 ⟨p,hc⟩;omega)];exact hc
    · rw[c5]
      exact Z8Z x.body (Z27 x.body p (λy hy=>hback y (Z0I (hg2 i x c3) y hy)) (hst.rel.obj i x p c3 (by rw[<- c4];exact ha) c7))
    ·exact Z8Z x.body (Z27 x.body p (λy hy=>hback y (Z0I (hg2 _ x b3) y hy)) (hst.rel.obj _ x p b3 ha b2))
  · rcases hget b o p hb hp with ⟨b1,b2,x,b3,b4,b5,b6⟩|⟨b1,b2,x,b3,rfl⟩<;>rcases hget b' o' p' hb' hp' with ⟨c1,c2,y,c3,c4,c5,c6⟩|⟨c1,c2,y,c3,rfl⟩
    · rw[b4,b5,c4,c5]
      exact hR.sep b b' x y p p' b3 c3 (hal b6 ha) (hal c6 ha') b2 c2 e
    · exfalso
      rcases b6 with ⟨b6,rfl⟩|⟨i,z,d1,d2,d3,d4,d5,d6,d7⟩
      ·exact new_ _ y p' c3 ha' (by omega) c2 b _ p b3 ha b6 b2 e
      · have hs:=(hst.rel.sep i _ z y p p' d3 c3 (by rw[<- d4];exact ha) ha' d7 c2 e).1
        have:=Z2H hnA d3 c3 (by rw[<- d4];exact ha) ha' hs
        omega
    · exfalso
      rcases c6 with ⟨c6,rfl⟩|⟨i,z,d1,d2,d3,d4,d5,d6,d7⟩
      ·exact new_ _ x p b3 ha (by omega) b2 b' _ p' c3 ha' c6 c2 e.symm
      · have hs:=(hst.rel.sep _ i x z p p' b3 d3 ha (by rw[<- d4];exact ha') b2 d7 e).1
        have:=Z2H hnA b3 d3 ha (by rw[<- d4];exact ha') hs
        omega
    · have hs:=hst.rel.sep _ _ x y p p' b3 c3 ha ha' b2 c2 e
      have:=Z2H hnA b3 c3 ha ha' hs.1
      have hbb:b=b':=by omega
      exact⟨hbb,hs.2⟩
  · obtain⟨h1,h2,h3⟩:=hst.rel.snap a v hv
    refine⟨h1,h2,λb o' p hb ha hp he=>?_⟩
    rcases hget b o' p hb hp with ⟨b1,b2,o,b3,b4,b5,⟨b6,rfl⟩|⟨i,x,c1,c2,c3,c4,c5,c6,c7⟩⟩|⟨b1,b2,x,b3,rfl⟩
    · rcases hst.sfresh a v hv with f1|f1|⟨b0,o0,p0,f1,f2,f3,f4⟩
      ·exact (hR.snap a v f1).2.2 b _ p b3 ha b2 he
      ·have:=hR.blk b p b2;omega
      · obtain⟨c,_,hc,hp3⟩:=atm f3
        exact apart_ b _ p b3 ha b6 b2 c p0 hc hp3 (f4.trans he.symm)
    ·exact h3 i x p c3 (by rw[<- c4];exact ha) c7 he
    ·exact h3 _ x p b3 ha b2 he
  · rcases hget b o' p hb hp with ⟨b1,b2,o,b3,b4,b5,b6⟩|⟨b1,b2,x,b3,rfl⟩
    ·exact hR.shz b o p b3 b2 (by rw[<- b5];exact e)
    ·exact hst.rel.shz _ x p b3 b2 e
 have oldp:∀(b0:Nat)(o0:AObj)(p0:Place),Hs[b0]? = some o0->o0.alive=true->iot m ι b0=some p0->∃ (b1:Nat) (o1:AObj) (p1:Place),Hc[b1]? = some o1/\o1.alive=true /\ ι b1=some p1/\p1.blk=p0.blk:=λb0 o0 p0 e1 e2 e3=>by
  obtain⟨c,_,hc,hp3⟩:=atm e3
  obtain⟨_,o,_,_,_,y2,_,y4,_⟩:=inm c hc
  exact⟨c,o,p0,y2,y4,hp3,rfl⟩
 refine⟨v,sn',κ,rfl,?_,hR',⟨hst.le.sn,λb p hb=>?_⟩,λb p hp=>?_,hnr,hst.size,hst.os,hst.tape,hst.output,λa v hv=>?_,λb o hb=>?_⟩
 ·exact (Z5d r v).2 (Z1c r [] v (λy hy=>hback y (Z0I hrk y hy)) hv)
 ·rw[k1 b (by have:=(hR.dom b).2 ⟨p,hb⟩;omega)];exact hb
 · by_cases hlt:b<d
   ·rw[k1 b hlt]at hp;exact .inl hp
   · rw[k2 b (by omega)]at hp
     rcases hst.fresh _ p hp with h|h|⟨b0,o0,p0,e1,e2,e3,e4⟩
     · obtain⟨c,hc,_⟩:=atm h
       have:=(Y06.1 hc).1;omega
     ·exact .inr (.inl h)
     · obtain⟨b1,o1,p1,g1,g2,g3,g4⟩:=oldp b0 o0 p0 e1 e2 e3
       exact .inr (.inr ⟨b1,o1,p1,g1,g2,g3,g4.trans e4⟩)
 · rcases hst.sfresh a v hv with f1|f1|⟨b0,o0,p0,f1,f2,f3,f4⟩
   ·exact .inl f1
   ·exact .inr (.inl f1)
   · obtain⟨b1,o1,p1,g1,g2,g3,g4⟩:=oldp b0 o0 p0 f1 f2 f3
     exact .inr (.inr ⟨b1,o1,p1,g1,g2,g3,g4.trans f4⟩)
 · have hbd:b<d:=by rw[<- hd];exact (Y06.1 hb).1
   have hb':b<(Z90 m (sgS m d) Hs' 0 Hc).length:=by omega
   have hx:=Y02 hb'
   obtain⟨p,hp⟩:=hR.place hb
   rcases hget b _ p (by rw[Y0j hb'];exact hx) (by rw[k1 b hbd];exact hp)with ⟨b1,b2,o2,b3,b4,b5,b6⟩|⟨b1,_⟩
   · rw[hb]at b3;cases b3
     exact⟨_,by rw[Y0j hb'];exact hx,b4,b5,λha=>hal b6 ha⟩
   ·omega
end Go.Abs
end
section
namespace Go.Abs
open Go.RowKit
def Zqo(fs:List Nat)(H:Z00):List AV->List AV->Prop
 |[],[]=>True
 |u::l,u2::l2=>(u=u2\/frz (ZlJ fs H) 30 u=some u2)/\Zqo fs H l l2
 |_,_=>False
def WkZL(fs:List Nat)(H:Z00)(m:List Nat):List AV->List AV->Prop
 |[],[]=>True
 |u::l,u2::l2=>WkZ fs H m u u2/\WkZL fs H m l l2
 |_,_=>False
theorem WkZL.get{fs:List Nat}{H:Z00}{m:List Nat}:∀{l l2:List AV},WkZL fs H m l l2->l2.length=l.length/\∀(i:Nat)(c2:AV),l2[i]? = some c2->∃c,l[i]? = some c/\WkZ fs H m c c2
 |[],[],_=>⟨rfl,λi c2 h=>by simp at h⟩
 |u::l,u2::l2,h=>by
  obtain⟨h1,h2⟩:=h
  obtain⟨k1,k2⟩:=h2.get
  refine⟨by simp[k1],λi c2 hc=>?_⟩
  cases i with
  |zero=>simp at hc;subst hc;exact⟨u,rfl,h1⟩
  |succ i=>simpa using k2 i c2 (by simpa using hc)
 |[],_::_,h=>h.elim
 |_::_,[],h=>h.elim
theorem BodyGeZ.app{fs:List Nat}{H:Z00}{m:List Nat}{cs l l2:List AV}{ty:TypeId}(h:refsL cs []=[])(hu:WkZL fs H m l l2):BodyGeZ fs H m (.cells (cs++l) ty) (.cells (cs++l2) ty):=by
 obtain⟨k1,k2⟩:=hu.get
 refine⟨rfl,by simp[k1],λi c2 hc=>?_⟩
 by_cases hi:i<cs.length
 · rw[Y0j hi]at hc⊢
   obtain⟨_,_,h3⟩:=Y07 (m:=m) (cs:=cs) (rest:=[]) (ty:=ty) (by simp) h
   obtain⟨c,e1,e2⟩:=h3 i c2 hc
   exact⟨c,e1,.inl e2⟩
 · rw[Y0r (by omega)]at hc⊢
   exact k2 _ _ hc
end Go.Abs
end
section
namespace Go.Abs
open Go.RowKit
theorem FgS.value {k : Nat} {fs m : List Nat} {H H2 : Z00} (hp : HpGeZ fs H m m H2 0) (hfams : Z0Q (m.map (Z1i H)) = true) (hkp : Zeh k 0 m = true) (hd : (m.map (Z1i H)).all (fun f => !mem f fs) = true) {sn : Z0m} {ι : Z0i} {W : World} (a : Act) (hR : R sn ι H W) {u u2 : AV} {v : Value} (hv : VR sn ι u v) (hu : WkZ fs H m u u2) :
  ∃sn' ι',Stq k sn ι H W sn' ι' H2 W/\VR sn' ι' u2 v:=by
 have h1:∀(x:AV)(n:Nat)(y:AV),Z1a (.node (some (some x)) .leaf .leaf) n=some y->n=0/\y=x:=λx n y e=>by
  cases n with
  |zero=>cases e;exact⟨rfl,rfl⟩
  |succ n=>simp only[Z1a]at e;split at e<;>cases e
 have h2:∀(x:AV)(n:Nat),tex (.node (some (some x)) .leaf .leaf) n=true->n=0:=λx n e=>by
  cases n with
  |zero=>rfl
  |succ n=>simp only[tex]at e;split at e<;>cases e
 obtain⟨sn',ι',hS,hT⟩:=FgS.giveup (k:=k) (fs:=fs) (m:=m) (tm:=.node (some (some u)) .leaf .leaf) (tm2:=.node (some (some u2)) .leaf .leaf) (λn x e=>by
  obtain⟨rfl,rfl⟩:=h1 _ _ _ e
  exact⟨u,rfl,hu⟩) (λn e=>by rw[h2 _ _ e];rfl) hp hfams hkp hd sn ι W { a with tmps:=#[v] } hR ⟨λt x e=>by
  obtain⟨rfl,rfl⟩:=h1 _ _ _ e
  exact⟨v,rfl,hv⟩,λt e=>by rw[h2 _ _ e];exact Nat.zero_lt_one⟩
 obtain⟨v',h3,h4⟩:=hT.1 0 u2 rfl
 have h5:v'=v:=by simpa using h3.symm
 exact⟨sn',ι',hS,h5 ▸ h4⟩
def Zmi(P:Program)(l:List ResultVar)(k:Nat)(r:AV)(N:Z00)(tm:Tr)(H:Z00):Prop :=
 onO (Z3g P tm H l) λvs=>∃fs m,Zeh k 0 m=true/\HpGeZ fs H m m N 0/\Z0Q (m.map (Z1i H))=true/\(m.map (Z1i H)).all (λf=>!mem f fs)=true/\WkZ fs H m (Z0Z vs) r
theorem Z0S {P : Program} {gl : Z0g} {orc : Orc} {k : Nat} (hm : P.follows .mixedOrders = true) (hn : NoNum P) (hO : OrcSound P gl orc) {f : Nat} {fn : Func} {c : Code} {args : List AV} {H0 N : Z00} {r : AV}
  (hf:P.funcs[f]? = some fn) (hc:fn.body=some c) {cw:CW} (hcw:Z6W P orc cw)
  (h:frcTr (tmk (Z7j args fn.ntmps args.length) (Z83 20 fn.ntmps)) λtm=>Z1Z P gl orc cw (Zb4 k) c (Zmi P fn.results.toList k r N) (λ_ _ _=>False) (Zmi P fn.results.toList k r N) tm H0):MemQ P gl k f args H0 r N:=by
 intro sn ι W cargs hg hR ha
 rw[Z1H]at h
 refine .inl (Z33 hf hc (Z1E (rd:=none) (λ_ _ _ _ _ _ _ _ _ _ _ h=>h.elim) hm hn hO hcw c h) hg hR ha (λ_ _ _ h=>h) λx tm1 H a1 W1 sn1 ι1 hx s1 t1=>?_)
 have key:Zmi P fn.results.toList k r N tm1 H->∃v,(results fn a1.tmps).run P W1 = .ok v W1/\∃sn' ι',VR sn' ι' r v/\Stq k sn ι H0 W sn' ι' N W1:=by
  intro h
  obtain⟨us,h1,fs,m,h0,h2,h3,h4,h5⟩:=Z04 h
  obtain⟨vs,k1,k2⟩:=Z0P s1.rel t1 _ _ h1
  obtain⟨sn',ι',hS,hv⟩:=FgS.value (k:=k) h2 h3 h0 h4 a1 s1.rel (Z2y (fn:=fn) k1) h5
  exact⟨_,Z0T k2,sn',ι',hv,s1.trans hS⟩
 cases x with
 |normal =>
  obtain⟨v,k1,sn',ι',k2,k3⟩:=key hx
  exact⟨v,k1,v,sn',ι',rfl,k2,k3⟩
 |exit id=>exact hx.elim
 |ret =>
  obtain⟨v,k1,sn',ι',k2,k3⟩:=key hx
  exact⟨v,k1,v,sn',ι',rfl,k2,k3⟩
end Go.Abs
end
namespace Go.Proofs.YtneoiadnbikciaaGreatDoor.lex
open Go.Abs Go.RowKit
section
variable {gl:Z0g}
def ZlZ(T:List Tq):FamM Y00 gl:=Z48 T 90 (by kernel_rfl) (I:=List UInt8) (λ_ s=>PsOK T s) (λw=>[.ptr 0 0,.str w]) (λw s=>.bool (isF T s w)) (λw s=>s) (λ_=>rfl) (λi j h=>by simpa using h) (λw s h=>ZnD h w)
def ZpX(f:Nat):Bool:=Y03 f 90 || (Y03 f 111 || Y03 f 94)
def upF(s:Ps):Ps:={ s with i:=s.i+1,op:=s.op+1 }
theorem Zln {T : List Tq} {s : Ps} {d : Nat} (hs : PsOK T s) (hat : isF T s [45] = false /\ isF T s [33] = false -> MemQ Y00 gl 1 111 [.ptr 0 0] (psH T s) (.agg (Z19 T (Z2P T (unF T d) 9) s).1.cells) (psH T (Z19 T (Z2P T (unF T d) 9) s).2))
  (hrec:¬(isF T s [45]=false/\isF T s [33]=false)->s.op≠200->(unF T d (upF s)).2.op<=1000000000 /\ -1000000000<=(unF T d (upF s)).2.op/\MemQ Y00 gl 1 94 [.ptr 0 0] (psH T (upF s)) (.agg (unF T d (upF s)).1.cells) (psH T (unF T d (upF s)).2)) :
  MemQ Y00 gl 1 94 [.ptr 0 0] (psH T s) (.agg (unF T (d+1) s).1.cells) (psH T (unF T (d+1) s).2):=by
 obtain⟨O,hO,⟨p1,p2,p3,-⟩,-⟩:=Z3v (P:=Y00) (gl:=gl) [ZlZ T,Z48 T 111 (by kernel_rfl) (I:=Unit) (λ_ s'=>s'=s/\(isF T s [45]=false/\isF T s [33]=false)) (λ_=>[.ptr 0 0]) (λ_ s'=>.agg (Z19 T (Z2P T (unF T d) 9) s').1.cells) (λ_ s'=>(Z19 T (Z2P T (unF T d) 9) s').2) (λ_=>rfl) (λ_ _ _=>rfl) (λ_ s' h=>by rw[h.1];exact hat h.2),Z48 T 94 (by kernel_rfl) (I:=Unit) (λ_ s'=>s'=upF s/\¬(isF T s [45]=false/\isF T s [33]=false)/\s.op≠200) (λ_=>[.ptr 0 0]) (λ_ s'=>.agg (unF T d s').1.cells) (λ_ s'=>(unF T d s').2) (λ_=>rfl) (λ_ _ _=>rfl) (λ_ s' h=>by rw[h.1];exact (hrec h.2.1 h.2.2).2.2)] [] rfl
 have q1:∀w X,Z07 [0] X=true->Z05 Y00 O (psH T s++X) 90 [.ptr 0 0,.str w]=some (.bool (isF T s w),psH T s++X):=λw X hX=>p1 (w,s,X) ⟨hs,hX⟩
 have q2:isF T s [45]=false/\isF T s [33]=false->∀X,Z07 [0] X=true->Z05 Y00 O (psH T s++X) 111 [.ptr 0 0]=some (.agg (Z19 T (Z2P T (unF T d) 9) s).1.cells,psH T (Z19 T (Z2P T (unF T d) 9) s).2++X):=λh X hX=>p2 ((),s,X) ⟨⟨rfl,h⟩,hX⟩
 have q3:¬(isF T s [45]=false/\isF T s [33]=false)->s.op≠200->∀X,Z07 [0] X=true->Z05 Y00 O (psH T (upF s)++X) 94 [.ptr 0 0]=some (.agg (unF T d (upF s)).1.cells,psH T (unF T d (upF s)).2++X):=λh h2 X hX=>p3 ((),upF s,X) ⟨⟨rfl,h,h2⟩,hX⟩
 clear p1 p2 p3
 have hx:=tq4 T s.i hs.lt
 rw[<- Z0s hs.lt]at hx
 have hlt:=hs.lt
 have hfew:=hs.few
 have hlo:=hs.lo
 have hhi:=hs.hi
 have hb:=λh h2=>(hrec h h2).1
 have hb2:=λh h2=>(hrec h h2).2.1
 have g1:=q1 [45]
 have g2:=q1 [33]
 clear hat hrec q1
 have e0:unF T (d+1) s=if isF T s [45]=false/\isF T s [33]=false then Z19 T (Z2P T (unF T d) 9) s else if s.op=200 then (ex0,Z0r s 3 (Z0o T s).pos) else (.mk (if isF T s [33]=true then 4 else 3) 0 [] [(unF T d (upF s)).1],{ (unF T d (upF s)).2 with op:=(unF T d (upF s)).2.op-1 }):=rfl
 rw[e0]
 clear e0
 generalize isF T s [45]=b1 at *
 generalize isF T s [33]=b2 at *
 generalize Z19 T (Z2P T (unF T d) 9) s=r1 at *
 generalize unF T d (upF s)=r2 at *
 generalize Z0o T s=t at *
 obtain⟨k,tx,nm,ps⟩:=t
 obtain⟨⟨o1,n1,nn1,ks1⟩,s1⟩:=r1
 obtain⟨⟨o2,n2,nn2,ks2⟩,⟨i2,e2,a2,p2⟩⟩:=r2
 have wa:IntKind.i64.wrap ((s.i:Int)+1)=((s.i+1:Nat):Int):=Z1D (by omega)
 have wb:IntKind.i64.wrap (s.op+1)=s.op+1:=Z7h (by omega) (by omega)
 obtain⟨i,err,at_,op⟩:=s
 simp only[Tq.cells,Ex.cells,upF]at hx hlt q2 q3 wa wb hb hb2⊢
 refine Z0S follows Z06 (Z0e follows Z06 hO 3) Tryz.func94 rfl (Z0p (isC:=ZpX) 3) ?_
 by_cases hn:b1=false/\b2=false
 · have q2b:=q2 hn
   clear q2 q3 hb hb2
   rw[if_pos hn]
   obtain⟨rfl,rfl⟩:=hn
   simp only[psH]at g1 g2 q2b⊢
   repeat' ((conv=>whnf);first|refine exI (g1 _ rfl) ?_|refine exI (g2 _ rfl) ?_|refine exI (q2b _ rfl) ?_|refine stp ?_|with_reducible apply Z01<;>intro h)
   all_goals (try (conv=>whnf))
   all_goals exact⟨[],[0],rfl,⟨⟨rfl,rfl,rfl,rfl,BodyGe.z (Y07 (rest:=[]) rfl rfl)⟩,trivial⟩,rfl,rfl,.inl (Y01 rfl)⟩
 · rw[if_neg hn]
   clear q2
   by_cases h200:op=200
   · subst h200
     rw[if_pos rfl]
     clear q3 hb hb2
     unfold Z0r
     by_cases he:err=0
     · subst he
       simp only[psH,if_true]at g1 g2⊢
       cases b1<;>cases b2<;>(try (exact absurd ⟨rfl,rfl⟩ hn))
       all_goals repeat' ((conv=>whnf);first|refine exI (g1 _ rfl) ?_|refine exI (g2 _ rfl) ?_|refine exI hx ?_|(with_reducible refine exW wa ?_)|(with_reducible refine exW wb ?_)|(with_reducible refine ixJ i rfl ?_ ?_;focus omega)|refine stp ?_|with_reducible apply Z01<;>intro h)
       all_goals (try (conv=>whnf))
       all_goals exact⟨[],[0],rfl,⟨⟨rfl,rfl,rfl,rfl,BodyGe.z (Y07 (rest:=[]) rfl rfl)⟩,trivial⟩,rfl,rfl,.inl Z3G⟩
     · have g3:(err==0)=false:=by simpa using he
       simp only[psH,he,if_false]at g1 g2⊢
       cases b1<;>cases b2<;>(try (exact absurd ⟨rfl,rfl⟩ hn))
       all_goals repeat' ((conv=>whnf);first|refine exI (g1 _ rfl) ?_|refine exI (g2 _ rfl) ?_|refine exI hx ?_|(with_reducible refine exW wa ?_)|(with_reducible refine exW wb ?_)|(with_reducible refine ixJ i rfl ?_ ?_;focus omega)|refine stp ?_|with_reducible apply Z01<;>intro h)
       all_goals (try (conv=>whnf))
       all_goals exact⟨[],[0],rfl,⟨⟨rfl,rfl,rfl,rfl,BodyGe.z (Y07 (rest:=[]) rfl rfl)⟩,trivial⟩,rfl,rfl,.inl Z3G⟩
   · have g5:(op==200)=false:=by simpa using h200
     have q3b:=q3 hn h200
     have hb:=hb hn h200
     have hb2:=hb2 hn h200
     rw[if_neg h200]
     clear q3
     have wc:IntKind.i64.wrap (p2-1)=p2-1:=Z7h (by omega) (by omega)
     simp only[psH]at g1 g2 q3b⊢
     cases b1<;>cases b2<;>(try (exact absurd ⟨rfl,rfl⟩ hn))
     all_goals repeat' ((conv=>whnf);first|refine exI (g1 _ rfl) ?_|refine exI (g2 _ rfl) ?_|refine exI (q3b _ rfl) ?_|refine exI hx ?_|(with_reducible refine exW wa ?_)|(with_reducible refine exW wb ?_)|(with_reducible refine exW wc ?_)|(with_reducible refine ixJ i rfl ?_ ?_;focus omega)|refine stp ?_|with_reducible apply Z01<;>intro h)
     all_goals (try (conv=>whnf))
     all_goals exact⟨[3],[0],rfl,⟨⟨rfl,rfl,rfl,rfl,BodyGe.z (Y07 (rest:=[]) rfl rfl)⟩,trivial⟩,rfl,rfl,.inr rfl⟩
end
section
variable {gl:Z0g}
def lvR(n:Nat):AV:=.tuple [.rs (lvS n).length 1 ((lvS n).map λp=>.str p.1),.rs (lvS n).length 1 ((lvS n).map λp=>.int .i64 p.2)]
theorem ZjK(n:Nat)(hn:n<=8):ValOK Y00 gl 95 [.int .i64 n] (lvR n):=by
 have hΦ : ∀r':AV,(∀sn v,VR sn noI r' v->VR sn noI (lvR n) v)->∀sn v,VR sn noI r' v->VR sn noI (lvR n) v:=λr' h=>h
 have hc:n=0\/n=1\/n=2\/n=3\/n=4\/n=5\/n=6\/n=7\/n=8:=by omega
 refine fn_valX follows Z06 Z0u hΦ Tryz.func95 rfl (Z9G _ _) ?_
 clear hΦ
 rcases hc with rfl|rfl|rfl|rfl|rfl|rfl|rfl|rfl|rfl
 all_goals repeat' ((conv=>whnf);first|refine stp ?_|with_reducible apply Z01<;>intro h)
 all_goals (try (conv=>whnf))
 all_goals exact λsn v h=>h
end
section
variable {gl:Z0g}
def Zpy(f:Nat):Bool:=Y03 f 45 || (Y03 f 51 || (Y03 f 94 || Y03 f 95))
theorem Zcz{T:List Tq}{s:Ps}{w:List UInt8}(h:Z0F T s w=true):(Z0c T s w).i=s.i+1:=by
 unfold Z0F at h
 simp only[Y05,Y0m,Bool.and_eq_false_iff,beq_eq_false_iff_ne]at h
 unfold Z0c
 rw [if_pos h.1, if_neg (fun h2 => by rcases h.2 with h3 | h3
                                      ·rw[h2.1]at h3;cases h3
                                      ·exact h3 h2.2)]
theorem Za9{T:List Tq}{i0:Nat}{rec1:Ps->Ex×Ps}(hrec:∀s,PsOK T s->i0<=s.i->PsGo T s (rec1 s).2):∀(l:List (List UInt8×Int))(x:Ex)(s:Ps)(a:Bool),PsOK T s->i0<=s.i->PsGo T s (Z10 T rec1 l x s a).2.1/\((Z10 T rec1 l x s a).2.2=true->a=true\/s.i<(Z10 T rec1 l x s a).2.1.i)
 |[],x,s,a,h,hi=>⟨⟨h,Y04 _,Y0s _⟩,λh=>.inl h⟩
 |(w,o)::l,x,s,a,h,hi=>by
  have ht:=Z4G h w
  unfold Z10
  split
  · rename_i hb
    have h1:=Zcz hb
    have h2:=hrec _ ht.ok (Y0b hi ht.on)
    have h3:=(Za9 hrec l (.mk o 0 [] [x,(rec1 (Z0c T s w)).1]) (rec1 (Z0c T s w)).2 true h2.ok (Y0b (Y0b hi ht.on) h2.on)).1
    refine⟨ht.trans (h2.trans h3),λ_=>.inr ?_⟩
    have:=h2.on
    have:=h3.on
    omega
  · have h3:=Za9 hrec l x (Z0c T s w) a ht.ok (Y0b hi ht.on)
    refine⟨ht.trans h3.1,λh=>?_⟩
    rcases h3.2 h with h4|h4
    ·exact .inl h4
    · have:=ht.on
      exact .inr (by omega)
structure Jo where
 k:Nat
 x:Ex
 s:Ps
 a:Bool
def zE:List AV:=[.int .i64 0,.int .i64 0,.str [],.nslice]
theorem Zkp {T : List Tq} {n : Nat} (hn : n <= 8) {rec1 : Ps -> Ex × Ps} {s0 : Ps} (hs0 : PsOK T s0) (hrec : ∀ s, PsOK T s -> s0.i <= s.i -> PsGo T s (rec1 s).2 /\ MemQ Y00 gl 1 51 [.ptr 0 0, .int .i64 ((n + 1 : Nat) : Int)] (psH T s) (.agg (rec1 s).1.cells) (psH T (rec1 s).2)) :
  MemQ Y00 gl 1 51 [.ptr 0 0,.int .i64 (n:Nat)] (psH T s0) (.agg (Z1F T rec1 (lvS n) (T.length+1) (rec1 s0).1 (rec1 s0).2).1.cells) (psH T (Z1F T rec1 (lvS n) (T.length+1) (rec1 s0).1 (rec1 s0).2).2):=by
 obtain⟨O,hO,⟨p1,p2,-⟩,p3,-⟩:=Z3v (P:=Y00) (gl:=gl) [Z9Z T,Z48 T 51 (by kernel_rfl) (I:=Unit) (λ_ s=>PsOK T s/\s0.i<=s.i) (λ_=>[.ptr 0 0,.int .i64 ((n+1:Nat):Int)]) (λ_ s=>.agg (rec1 s).1.cells) (λ_ s=>(rec1 s).2) (λ_=>rfl) (λ_ _ _=>rfl) (λ_ s h=>(hrec s h.1 h.2).2)]
  [{ I:=Unit,f:=95,G:=λ_=>True,A:=λ_=>[.int .i64 (n:Nat)],R:=λ_=>lvR n,body:=(by kernel_rfl),inj:=(λ_ _ _ _ _=>rfl),ok:=λ_ _=>⟨rfl,ZjK n hn⟩ }] rfl
 have q1:∀w s X,PsOK T s->Z07 [0] X=true->Z05 Y00 O (psH T s++X) 45 [.ptr 0 0,.str w]=some (.bool (Z0F T s w),psH T (Z0c T s w)++X):=λw s X h hX=>p1 (w,s,X) ⟨h,hX⟩
 have q2:∀s X,PsOK T s->s0.i<=s.i->Z07 [0] X=true->Z05 Y00 O (psH T s++X) 51 [.ptr 0 0,.int .i64 ((n+1:Nat):Int)]=some (.agg (rec1 s).1.cells,psH T (rec1 s).2++X):=λs X h h2 hX=>p2 ((),s,X) ⟨⟨h,h2⟩,hX⟩
 have q3:∀H,Z05 Y00 O H 95 [.int .i64 (n:Nat)]=some (lvR n,H):=p3 () trivial
 clear p1 p2 p3
 have hgo:=λs h h2=>(hrec s h h2).1
 have hpass:=λx s a h h2=>Za9 hgo (lvS n) x s a h h2
 have h00:=hgo s0 hs0 (Y04 _)
 have hr0:=q2 s0
 have hll:(lvS n).length<=2:=by
  have hc:n=0\/n=1\/n=2\/n=3\/n=4\/n=5\/n=6\/n=7\/n=8:=by omega
  rcases hc with rfl|rfl|rfl|rfl|rfl|rfl|rfl|rfl|rfl<;>decide
 generalize hR:Z1F T rec1 (lvS n) (T.length+1) (rec1 s0).1 (rec1 s0).2=R
 obtain⟨⟨Ro,Rn,Rt,Rk⟩,Rs⟩:=R
 have wn:IntKind.i64.wrap ((n:Int)+1)=((n+1:Nat):Int):=Z1D (by omega)
 have en:((n:Int)==9)=false:=by simp;omega
 have hr0:=hr0 [⟨true,1,0,.cells zE 47⟩] hs0 (Y04 _) rfl
 have hlv:lvR n = .tuple [.rs (lvS n).length 1 ((lvS n).map λp=>.str p.1),.rs (lvS n).length 1 ((lvS n).map λp=>.int .i64 p.2)]:=rfl
 rw[hlv]at q3
 generalize hr1:rec1 s0=r1 at *
 obtain⟨⟨xo,xn,xt,xk⟩,⟨ri,re,ra,rp⟩⟩:=r1
 simp only[psH,zE,Y08,Y0a,Ex.cells]at hr0⊢
 refine Z0S follows Z06 (Z0e follows Z06 hO 3) Tryz.func51 rfl (Z0p (isC:=Zpy) 3) ?_
 repeat' ((conv=>whnf);first|(with_reducible refine exW wn ?_)|refine exI hr0 ?_|refine exI (q3 _) ?_|refine stp ?_|with_reducible apply Z01<;>intro h)
 conv=>whnf
 clear q3 hr0 hlv
 have hpass:=hpass
 generalize lvS n=l at *
 refine⟨Jo,(λy=>PsOK T y.s/\s0.i<=y.s.i/\(y.a=true->T.length-y.s.i<y.k/\Z1F T rec1 l y.k y.x y.s=(.mk Ro Rn Rt Rk,Rs))/\(y.a=false->(y.x,y.s)=(.mk Ro Rn Rt Rk,Rs))),
  (λy=>[(0,.ptr 0 0),(1,.int .i64 (n:Nat)),(4,.ptr 1 0),(5,.ptr 2 0),(6,.rs l.length 1 (l.map λp=>.str p.1)),(7,.rs l.length 1 (l.map λp=>.int .i64 p.2)),(8,.bool y.a)]),
  (λy=>psH T y.s++[⟨true,1,0,.cells zE 47⟩,⟨true,2,0,.cells y.x.cells 47⟩]),(λy=>cond y.a (y.k+1) 0),⟨⟨T.length+1,.mk xo xn xt xk,⟨ri,re,ra,rp⟩,true⟩,⟨h00.ok,h00.on,λ_=>⟨by show T.length-ri<T.length+1;omega,hR⟩,λh=>by cases h⟩,?_⟩,?_⟩
 · refine FgLK.mk [0,1,2] rfl rfl ?_ ⟨hbp,hbp,hbp,trivial⟩ rfl
   exact wks
 clear hR h00 hr1
 rintro⟨k,⟨xo,xn,xt,xk⟩,s,a⟩ ⟨hs,hi,ht,hf⟩
 dsimp only at hs hi ht hf
 (try dsimp only)
 cases a with
 |false =>
  have hf:=hf rfl
  simp only[Prod.mk.injEq,Ex.mk.injEq]at hf
  obtain⟨⟨rfl,rfl,rfl,rfl⟩,rfl⟩:=hf
  obtain⟨ri,re,ra,rp⟩:=s
  simp only[psH,Y08,Y0a,Ex.cells]
  repeat' ((conv=>whnf);first|refine stp ?_|with_reducible apply Z01<;>intro h)
  all_goals (try (conv=>whnf))
  all_goals exact⟨[],[0],rfl,⟨⟨rfl,rfl,rfl,rfl,BodyGe.z (Y07 (rest:=[]) rfl rfl)⟩,trivial⟩,rfl,rfl,.inl (Y01 rfl)⟩
 |true =>
  obtain⟨hk,hloop⟩:=ht rfl
  obtain⟨k,rfl⟩:∃k',k=k'+1:=⟨k-1,by omega⟩
  have hp:=hpass (.mk xo xn xt xk) s false hs hi
  unfold Z1F at hloop
  generalize hP:Z10 T rec1 l (.mk xo xn xt xk) s false=P at *
  obtain⟨Px,Ps',Pa⟩:=P
  simp only at hloop hp
  clear hf ht
  have hs1:=hs
  have hi1:=hi
  obtain⟨ri,re,ra,rp⟩:=s
  simp only[psH,Y08,Y0a,Ex.cells]
  repeat' ((conv=>whnf);first|refine stp ?_|with_reducible apply Z01<;>intro h)
  conv=>whnf
  refine⟨Jo,(λy=>y.k<=l.length/\PsOK T y.s/\s0.i<=y.s.i/\Z10 T rec1 (l.drop y.k) y.x y.s y.a=(Px,Ps',Pa)),
   (λy=>[(0,.ptr 0 0),(1,.int .i64 (n:Nat)),(4,.ptr 1 0),(5,.ptr 2 0),(6,.rs l.length 1 (l.map λp=>.str p.1)),(7,.rs l.length 1 (l.map λp=>.int .i64 p.2)),(8,.bool y.a),(9,.int .i64 (y.k:Nat))]),
   (λy=>psH T y.s++[⟨true,1,0,.cells zE 47⟩,⟨true,2,0,.cells y.x.cells 47⟩]),(λy=>l.length-y.k),⟨⟨0,.mk xo xn xt xk,⟨ri,re,ra,rp⟩,false⟩,⟨Y0e _,hs,hi,by rw[Y0n];exact hP⟩,?_⟩,?_⟩
  · refine FgLK.mk [0,1,2] rfl rfl ?_ ⟨hbp,hbp,hbp,trivial⟩ rfl
    exact wks
  clear hP
  rintro⟨j,⟨yo,yn,yt,yk⟩,t,b⟩ ⟨hj,ht,hti,hpf⟩
  dsimp only at hj ht hti hpf
  (try dsimp only)
  by_cases hjl:j<l.length
  · have e1:decide ((j:Int)<(l.length:Int))=true:=by simpa using hjl
    have hx6:∀off,off=j->tk 1 ((l.map λp=>AV.str p.1).drop off)=some [.str l[j].1]:=λoff e=>Z9Y _ l j hjl e
    have hx7:∀off,off=j->tk 1 ((l.map λp=>AV.int .i64 p.2).drop off)=some [.int .i64 l[j].2]:=λoff e=>Z9Y _ l j hjl e
    have wa:IntKind.i64.wrap ((j:Int)+1)=((j+1:Nat):Int):=Z1D (by omega)
    rw[Y0u hjl]at hpf
    have hg1:=Z4G ht l[j].1
    have hg2:=hgo _ hg1.ok (Y0b hti hg1.on)
    have g1:=q1 l[j].1 t [⟨true,1,0,.cells zE 47⟩,⟨true,2,0,.cells [.int .i64 yo,.int .i64 yn,.str yt,.rs yk.length 4 (exC yk)] 47⟩] ht rfl
    have g2:=q2 _ [⟨true,1,0,.cells zE 47⟩,⟨true,2,0,.cells [.int .i64 yo,.int .i64 yn,.str yt,.rs yk.length 4 (exC yk)] 47⟩] hg1.ok (Y0b hti hg1.on) rfl
    have hti2:=Y0b hti hg1.on
    have hti3:=Y0b hti2 hg2.on
    have hok1:=hg1.ok
    have hok2:=hg2.ok
    generalize hw:l[j]=w at *
    obtain⟨w,o⟩:=w
    simp only[Z10]at hpf hx6 hx7 g1 g2 hok1 hok2 hti2 hti3
    clear q1 q2 hg1 hg2 hw hgo hrec hpass
    generalize Z0F T t w=tb at *
    generalize rec1 (Z0c T t w)=r2 at *
    generalize Z0c T t w=t2 at *
    obtain⟨⟨zo,zn,zt,zk⟩,⟨i3,e3,a3,p3⟩⟩:=r2
    obtain⟨i2,e2,a2,p2⟩:=t2
    obtain⟨i1,e1',a1,p1⟩:=t
    simp only[psH,Y08,Y0a,Ex.cells]at g1 g2⊢
    cases tb with
    |false =>
     rw[if_neg (by decide)]at hpf
     repeat' ((conv=>whnf);first|refine exI g1 ?_|refine exI (hx6 _ (by omega)) ?_|(with_reducible refine exW wa ?_)|(with_reducible refine ixJ j rfl ?_ ?_;focus omega)|refine stp ?_|with_reducible apply Z01<;>intro h)
     conv=>whnf
     refine⟨⟨j+1,.mk yo yn yt yk,⟨i2,e2,a2,p2⟩,b⟩,⟨hjl,hok1,hti2,hpf⟩,by show l.length-(j+1)<l.length-j;omega,?_⟩
     refine FgLK.mk [0,1,2] rfl rfl ?_ ⟨hbp,hbp,hbp,trivial⟩ rfl
     exact wks
    |true =>
     rw[if_pos rfl]at hpf
     repeat' ((conv=>whnf);first|refine exI g1 ?_|refine exI g2 ?_|refine exI (hx6 _ (by omega)) ?_|refine exI (hx7 _ (by omega)) ?_|(with_reducible refine exW wn ?_)|(with_reducible refine exW wa ?_)|(with_reducible refine ixJ j rfl ?_ ?_;focus omega)|refine stp ?_|with_reducible apply Z01<;>intro h)
     conv=>whnf
     refine⟨⟨j+1,.mk o 0 [] [.mk yo yn yt yk,.mk zo zn zt zk],⟨i3,e3,a3,p3⟩,true⟩,⟨hjl,hok2,hti3,hpf⟩,by show l.length-(j+1)<l.length-j;omega,?_⟩
     refine FgLK.mkZ [3] [0,1,2] rfl rfl ?_ ⟨⟨rfl,rfl,rfl,rfl,BodyGe.z (Y07 (rest:=[]) rfl rfl)⟩,⟨rfl,rfl,rfl,rfl,BodyGe.z (Y07 (rest:=[]) rfl rfl)⟩,⟨rfl,rfl,rfl,rfl,BodyGeZ.app (cs:=[]) rfl ⟨.inl (Y09 rfl),.inl (Y09 rfl),.inl (Y01 rfl),.inr rfl,trivial⟩⟩,trivial⟩ rfl rfl
     exact⟨.inl (Wk.ptr rfl rfl),.inl (Y09 rfl),.inl (Wk.ptr rfl rfl),.inl (Wk.ptr rfl rfl),.inl (Y01 rfl),.inl (Y01 rfl),.inl (Wk.bool rfl),.inl (Y09 rfl),trivial⟩
  · have e1:decide ((j:Int)<(l.length:Int))=false:=by simpa using hjl
    rw[List.drop_eq_nil_of_le (by omega)]at hpf
    simp only[Z10,Prod.mk.injEq]at hpf
    obtain⟨rfl,rfl,rfl⟩:=hpf
    obtain⟨i1,e1',a1,p1⟩:=t
    simp only[psH,Y08,Y0a,Ex.cells]
    repeat' ((conv=>whnf);first|refine stp ?_|with_reducible apply Z01<;>intro h)
    all_goals (conv=>whnf)
    all_goals refine⟨⟨k,.mk yo yn yt yk,⟨i1,e1',a1,p1⟩,b⟩,⟨ht,hti,λhb=>?_,λhb=>?_⟩,?_,?_⟩
    · have hlt:=ht.lt
      rw[if_pos hb]at hloop
      refine⟨?_,hloop⟩
      rcases hp.2 hb with h|h
      ·cases h
      ·simp only at h hlt hk⊢;omega
    · have hb:b=false:=hb
      subst hb
      rw[if_neg (by decide)]at hloop
      exact hloop
    · cases b
      ·exact Nat.succ_pos _
      ·exact Nat.lt_succ_self _
    · refine FgLK.mk [0,1,2] rfl rfl ?_ ⟨hbp,hbp,hbp,trivial⟩ rfl
      exact wks
end
section
variable {gl:Z0g}
theorem Zqi{T:List Tq}{s s':Ps}{e:Ex}(h:MemQ Y00 gl 1 94 [.ptr 0 0] (psH T s) (.agg e.cells) (psH T s')):MemQ Y00 gl 1 51 [.ptr 0 0,.int .i64 9] (psH T s) (.agg e.cells) (psH T s'):=by
 obtain⟨O,hO,⟨p1,-⟩,-⟩:=Z3v (P:=Y00) (gl:=gl) [Z48 T 94 (by kernel_rfl) (I:=Unit) (λ_ t=>t=s) (λ_=>[.ptr 0 0]) (λ_ t=>.agg e.cells) (λ_ t=>s') (λ_=>rfl) (λ_ _ _=>rfl) (λ_ t ht=>by rw[ht];exact h)] [] rfl
 have q1:∀X,Z07 [0] X=true->Z05 Y00 O (psH T s++X) 94 [.ptr 0 0]=some (.agg e.cells,psH T s'++X):=λX hX=>p1 ((),s,X) ⟨rfl,hX⟩
 clear p1
 obtain⟨o,n,t,ks⟩:=e
 obtain⟨a,b,c,d⟩:=s
 obtain⟨a',b',c',d'⟩:=s'
 simp only[psH,Ex.cells]at q1⊢
 refine Z0S follows Z06 (Z0e follows Z06 hO 3) Tryz.func51 rfl (Z0p (isC:=Zpy) 3) ?_
 repeat' ((conv=>whnf);first|refine exI (q1 _ rfl) ?_|refine stp ?_|with_reducible apply Z01<;>intro h)
 all_goals (try (conv=>whnf))
 all_goals exact⟨[],[0],rfl,⟨⟨rfl,rfl,rfl,rfl,BodyGe.z (Y07 (rest:=[]) rfl rfl)⟩,trivial⟩,rfl,rfl,.inl (Y01 rfl)⟩
theorem ZcU{T:List Tq}{i0:Nat}{rec1:Ps->Ex×Ps}(hrec:∀s,PsOK T s->i0<=s.i->PsGo T s (rec1 s).2)(l:List (List UInt8×Int)):∀(k:Nat)(x:Ex)(s:Ps),PsOK T s->i0<=s.i->PsGo T s (Z1F T rec1 l k x s).2
 |0,x,s,h,hi=>⟨h,Y04 _,Y0s _⟩
 |k+1,x,s,h,hi=>by
  have hp:=(Za9 hrec l x s false h hi).1
  unfold Z1F
  split
  ·exact hp.trans (ZcU hrec l k _ _ hp.ok (Y0b hi hp.on))
  ·exact hp
theorem lev_ok {T : List Tq} {i0 : Nat} {un : Ps -> Ex × Ps} (hun : ∀ s, PsOK T s -> i0 <= s.i -> PsGo T s (un s).2 /\ MemQ Y00 gl 1 94 [.ptr 0 0] (psH T s) (.agg (un s).1.cells) (psH T (un s).2)) : ∀ (m : Nat), m <= 9 -> ∀ s, PsOK T s -> i0 <= s.i ->
  PsGo T s (Z2P T un m s).2/\MemQ Y00 gl 1 51 [.ptr 0 0,.int .i64 ((9-m:Nat):Int)] (psH T s) (.agg (Z2P T un m s).1.cells) (psH T (Z2P T un m s).2)
 |0,_,s,hs,hi=>⟨(hun s hs hi).1,Zqi (hun s hs hi).2⟩
 |m+1,hm,s,hs,hi=>by
  have ih:=lev_ok hun m (by omega)
  have h1:=(ih s hs hi).1
  refine⟨h1.trans (ZcU (λt h h2=>(ih t h h2).1) _ _ _ _ h1.ok (Y0b hi h1.on)),?_⟩
  have e:9-m=(8-m)+1:=by omega
  have e2:9-(m+1)=8-m:=by omega
  rw[e]at ih
  rw[e2]
  exact Zkp (n:=8-m) (by omega) hs (λt h h2=>ih t h (Y0b hi h2))
theorem Zks{T:List Tq}{ex:Ps->Ex×Ps}{s:Ps}(hs:PsOK T s)(hex:Z0F T s [40]=true->PsGo T (Z0c T s [40]) (ex (Z0c T s [40])).2):PsGo T s (Z19 T ex s).2:=by
 have hup:(Z0o T s).kind≠5->PsGo T s { s with i:=s.i+1 }:=λh=>by
  rw[Z0s hs.lt]at h
  have hlo:=hs.lo
  exact⟨⟨hs.last _ hs.lt h,hs.few,hs.last,by show -((s.i+1:Nat):Int)<=s.op;omega,hs.hi⟩,Nat.le_succ _,by show s.op+(s.i:Int)<=s.op+((s.i+1:Nat):Int);omega⟩
 have ht:=Z4G hs [40]
 unfold Z19
 split
 ·exact⟨hs,Y04 _,Y0s _⟩
 split
 ·exact hup (by omega)
 split
 ·exact hup (by omega)
 split
 · rename_i h
   have h2:=hex h
   exact ht.trans (h2.trans (Z0C h2.ok _))
 ·exact ht.trans (Z4W ht.ok _ _)
theorem Zj6{T:List Tq}:∀(d:Nat)(s:Ps),PsOK T s->T.length-s.i<=d->PsGo T s (unF T d s).2/\MemQ Y00 gl 1 94 [.ptr 0 0] (psH T s) (.agg (unF T d s).1.cells) (psH T (unF T d s).2)
 |0,s,hs,hd=>by have:=hs.lt;omega
 |d+1,s,hs,hd=>by
  have hlt:=hs.lt
  have hlo:=hs.lo
  have hhi:=hs.hi
  have hun:∀t,PsOK T t->s.i+1<=t.i->PsGo T t (unF T d t).2/\MemQ Y00 gl 1 94 [.ptr 0 0] (psH T t) (.agg (unF T d t).1.cells) (psH T (unF T d t).2):=λt h h2=>Zj6 d t h (by omega)
  have hat:Z0F T s [40]=true->PsGo T (Z0c T s [40]) (Z2P T (unF T d) 9 (Z0c T s [40])).2/\MemQ Y00 gl 1 51 [.ptr 0 0,.int .i64 0] (psH T (Z0c T s [40])) (.agg (Z2P T (unF T d) 9 (Z0c T s [40])).1.cells) (psH T (Z2P T (unF T d) 9 (Z0c T s [40])).2):=λh=>by
   have h1:=Zcz h
   exact lev_ok hun 9 (by omega) _ (Z4G hs [40]).ok (by omega)
  have hup:¬(isF T s [45]=false/\isF T s [33]=false)->s.op≠200->PsOK T (upF s):=λh h2=>by
   have hk:(Z0o T s).kind≠5:=by
    cases h1:isF T s [45] with
    |true=>exact Z4m h1
    |false =>
     cases h3:isF T s [33] with
     |true=>exact Z4m h3
     |false=>exact absurd ⟨h1,h3⟩ h
   rw[Z0s hlt]at hk
   exact⟨hs.last _ hlt hk,hs.few,hs.last,by show -((s.i+1:Nat):Int)<=s.op+1;omega,by show s.op+1<=200;omega⟩
  refine⟨?_,Zln hs (λ_=>ZmK hs (λh=>⟨(hat h).1.ok,(hat h).2⟩)) (λh h2=>?_)⟩
  · have e0:unF T (d+1) s=if isF T s [45]=false/\isF T s [33]=false then Z19 T (Z2P T (unF T d) 9) s else if s.op=200 then (ex0,Z0r s 3 (Z0o T s).pos) else (.mk (if isF T s [33]=true then 4 else 3) 0 [] [(unF T d (upF s)).1],{ (unF T d (upF s)).2 with op:=(unF T d (upF s)).2.op-1 }):=rfl
    rw[e0]
    split
    ·exact Zks hs (λh=>(hat h).1)
    · rename_i h
      split
      ·exact Z4W hs _ _
      · rename_i h2
        have h3:=hun (upF s) (hup h h2) (Y04 _)
        obtain⟨hok,hon,hlo2⟩:=h3.1
        have h4:s.i+1<=(unF T d (upF s)).2.i:=hon
        have h5:s.op+1+((s.i+1:Nat):Int)<=(unF T d (upF s)).2.op+(unF T d (upF s)).2.i:=hlo2
        have h6:=hok.hi
        exact⟨⟨hok.lt,hok.few,hok.last,by show -((unF T d (upF s)).2.i:Int)<=(unF T d (upF s)).2.op-1;omega,by show (unF T d (upF s)).2.op-1<=200;omega⟩,by show s.i<=(unF T d (upF s)).2.i;omega,by show s.op+(s.i:Int)<=(unF T d (upF s)).2.op-1+((unF T d (upF s)).2.i:Int);omega⟩
  · have h3:=hun (upF s) (hup h h2) (Y04 _)
    have h6:=h3.1.ok.hi
    have h7:=h3.1.ok.lo
    have h8:=h3.1.ok.lt
    have h9:=hs.few
    exact⟨by omega,by omega,h3.2⟩
def Z0X(T:List Tq)(s:Ps):Ex×Ps:=Z2P T (unF T T.length) 9 s
theorem ZhU{T:List Tq}{s:Ps}(hs:PsOK T s):PsGo T s (Z0X T s).2/\MemQ Y00 gl 1 51 [.ptr 0 0,.int .i64 0] (psH T s) (.agg (Z0X T s).1.cells) (psH T (Z0X T s).2) :=
 lev_ok (i0:=0) (λt h _=>Zj6 T.length t h (by omega)) 9 (by omega) s hs (Y0e _)
end
section
variable {gl:Z0g}
def Kp(s s':Ps):Prop:=s.err≠0->s'.err≠0
theorem Kp.rfl'{s:Ps}:Kp s s:=λh=>h
theorem Kp.trans{a b c:Ps}(h:Kp a b)(k:Kp b c):Kp a c:=λe=>k (h e)
theorem Zau(s:Ps)(e a:Int):Kp s (Z0r s e a):=λh=>by unfold Z0r;rw[if_neg h];exact h
theorem ZhQ(s:Ps){e:Int}(a:Int)(he:e≠0):(Z0r s e a).err≠0:=by
 unfold Z0r;split
 ·exact he
 ·assumption
theorem ZcX{T:List Tq}{s:Ps}{w:List UInt8}(h:s.err≠0):isF T s w=false:=by
 unfold isF;simp[h]
theorem Z4F(T:List Tq)(s:Ps)(w:List UInt8):Kp s (Z0c T s w):=λh=>by
 unfold Z0c;rw[ZcX h];simpa using h
theorem Z4Q(T:List Tq)(s:Ps)(w:List UInt8):Kp s (Z03 T s w):=λh=>by
 unfold Z03;split
 ·exact Z4F T s w h
 ·exact Zau _ _ _ (Z4F T s w h)
theorem Zj3(T:List Tq)(s:Ps):Kp s (Z0a T s):=λh=>by
 unfold Z0a Z1j
 simp only[show (s.err==0)=false by simpa using h,Bool.false_and,Y0q,if_false]
 exact Zau _ _ _ h
theorem Zj2(T:List Tq)(s:Ps):(Z0a T s).err≠0\/(Z0a T s).i=s.i+1:=by
 unfold Z0a;split
 ·exact .inr rfl
 ·exact .inl (ZhQ _ _ (by decide))
theorem Z9o(T:List Tq):∀(l:List (List UInt8))(s:Ps)(k:Int),Kp s (Z08 T s l k).2
 |[],s,k=>Zau _ _ _
 |w::l,s,k=>by
  unfold Z08;split
  ·exact Z4F T s w
  ·exact (Z4F T s w).trans (Z9o T l _ _)
theorem Z22{T:List Tq}:∀(l:List (List UInt8))(s:Ps)(k:Int),PsOK T s->PsGo T s (Z08 T s l k).2
 |[],s,k,h=>Z4W h _ _
 |w::l,s,k,h=>by
  have h1:=Z4G h w
  unfold Z08;split
  ·exact h1
  ·exact h1.trans (Z22 l _ _ h1.ok)
theorem Z4B{T:List Tq}{s:Ps}(hs:PsOK T s):PsGo T s (Z0a T s):=by
 refine⟨Z9Q hs,?_,?_⟩
 · unfold Z0a Z0r
   repeat' split
   all_goals (try exact Y04 _)
   all_goals exact Nat.le_succ _
 · unfold Z0a Z0r
   repeat' split
   all_goals (try exact Y0s _)
   all_goals (simp only;omega)
theorem Za8{T:List Tq}{rec1:Ps->Ex×Ps}(hrec:∀s,Kp s (rec1 s).2):∀(l:List (List UInt8×Int))(x:Ex)(s:Ps)(a:Bool),Kp s (Z10 T rec1 l x s a).2.1
 |[],x,s,a=>Kp.rfl'
 |(w,o)::l,x,s,a=>by
  unfold Z10;split
  ·exact (Z4F T s w).trans ((hrec _).trans (Za8 hrec l _ _ _))
  ·exact (Z4F T s w).trans (Za8 hrec l _ _ _)
theorem Zh8{T:List Tq}{rec1:Ps->Ex×Ps}(hrec:∀s,Kp s (rec1 s).2)(l:List (List UInt8×Int)):∀(k:Nat)(x:Ex)(s:Ps),Kp s (Z1F T rec1 l k x s).2
 |0,x,s=>Kp.rfl'
 |k+1,x,s=>by
  unfold Z1F;split
  ·exact (Za8 hrec l _ _ _).trans (Zh8 hrec l k _ _)
  ·exact Za8 hrec l _ _ _
theorem Zip{T:List Tq}{un:Ps->Ex×Ps}(hun:∀s,Kp s (un s).2):∀(m:Nat)(s:Ps),Kp s (Z2P T un m s).2
 |0,s=>hun s
 |m+1,s=>by
  unfold Z2P
  exact (Zip hun m s).trans (Zh8 (Zip hun m) _ _ _ _)
theorem ZmM{T:List Tq}{ex:Ps->Ex×Ps}(s:Ps):Kp s (Z19 T ex s).2:=λh=>by
 unfold Z19;rw[if_pos h];exact h
theorem Zoz(T:List Tq):∀(d:Nat)(s:Ps),Kp s (unF T d s).2
 |0,s=>Kp.rfl'
 |d+1,s=>λh=>by
  unfold unF
  rw[if_pos ⟨ZcX h,ZcX h⟩]
  exact ZmM s h
theorem ZeG(T:List Tq)(s:Ps):Kp s (Z0X T s).2:=Zip (Zoz T _) 9 s
theorem Z3T{T:List Tq}{s:Ps}(hs:PsOK T s):PsGo T s (Z0X T s).2:=(ZhU (gl:=λ_=>none) hs).1
def Z02(s:Ps):Ps:={ s with i:=s.i+1 }
theorem Z0b{T:List Tq}{s:Ps}(hs:PsOK T s){w:List UInt8}(h:isF T s w=true):PsGo T s (Z02 s):=by
 have hk:=Z4m h
 rw[Z0s hs.lt]at hk
 have hlo:=hs.lo
 exact⟨⟨hs.last _ hs.lt hk,hs.few,hs.last,by show -((s.i+1:Nat):Int)<=s.op;omega,hs.hi⟩,Nat.le_succ _,by show s.op+(s.i:Int)<=s.op+((s.i+1:Nat):Int);omega⟩
def kwB(w:List UInt8):Bool:=!upB w && !dnB w
theorem Z2C{T:List Tq}{s:Ps}{w:List UInt8}(hw:kwB w=true):Z0F T s w=isF T s w/\Z0c T s w=if isF T s w=true then Z02 s else s:=by
 unfold kwB at hw
 simp only[Y05,Y0m]at hw
 unfold Z0F Z0c Z02
 rw[hw.1,hw.2]
 simp
def Zgd(T:List Tq):FamM Y00 gl:=Z48 T 91 (by kernel_rfl) (I:=Unit) (λ_ s=>PsOK T s) (λ_=>[.ptr 0 0]) (λ_ s=>.str (Z0R T s)) (λ_ s=>Z0a T s) (λ_=>rfl) (λ_ _ _=>rfl) (λ_ s h=>Zjt h)
def ZkH(T:List Tq):FamM Y00 gl:=Z48 T 121 (by kernel_rfl) (I:=Unit) (λ_ s=>PsOK T s) (λ_=>[.ptr 0 0]) (λ_ s=>.int .i64 (Z08 T s ordL 1).1) (λ_ s=>(Z08 T s ordL 1).2) (λ_=>rfl) (λ_ _ _=>rfl) (λ_ s h=>Zjw h)
def Zda(T:List Tq):FamM Y00 gl:=Z48 T 51 (by kernel_rfl) (I:=Unit) (λ_ s=>PsOK T s) (λ_=>[.ptr 0 0,.int .i64 0]) (λ_ s=>.agg (Z0X T s).1.cells) (λ_ s=>(Z0X T s).2) (λ_=>rfl) (λ_ _ _=>rfl) (λ_ s h=>(ZhU h).2)
def Z1p(T:List Tq)(s:Ps):Ex×Ps:=((Z0X T (Z03 T s [40])).1,Z03 T (Z0X T (Z03 T s [40])).2 [41])
theorem Z3e{T:List Tq}{s:Ps}(hs:PsOK T s):PsGo T s (Z1p T s).2:=by
 have h1:=Z0C hs [40]
 have h2:=Z3T h1.ok
 exact h1.trans (h2.trans (Z0C h2.ok _))
def Zq8(f:Nat):Bool:=Y03 f 92 || Y03 f 51
theorem Zoc{T:List Tq}{s:Ps}(hs:PsOK T s):MemQ Y00 gl 1 109 [.ptr 0 0] (psH T s) (.agg (Z1p T s).1.cells) (psH T (Z1p T s).2):=by
 obtain⟨O,hO,⟨p1,p2,-⟩,-⟩:=Z3v (P:=Y00) (gl:=gl) [Z6D T,Zda T] [] rfl
 have qn:∀w s X,PsOK T s->Z07 [0] X=true->Z05 Y00 O (psH T s++X) 92 [.ptr 0 0,.str w]=some (.tuple [],psH T (Z03 T s w)++X):=λw s X h hX=>p1 (w,s,X) ⟨h,hX⟩
 have qe:∀s X,PsOK T s->Z07 [0] X=true->Z05 Y00 O (psH T s++X) 51 [.ptr 0 0,.int .i64 0]=some (.agg (Z0X T s).1.cells,psH T (Z0X T s).2++X):=λs X h hX=>p2 ((),s,X) ⟨h,hX⟩
 clear p1 p2
 have h1:=Z4P hs [40]
 have h2:=(Z3T h1).ok
 have g1:=λX=>qn [40] s X hs
 have g2:=λX=>qe _ X h1
 have g3:=λX=>qn [41] _ X h2
 clear qn qe
 unfold Z1p
 generalize Z03 T s [40]=s1 at *
 generalize Z0X T s1=r at *
 obtain⟨⟨o,n,nn,ks⟩,s2⟩:=r
 simp only at g3 h2⊢
 generalize Z03 T s2 [41]=s3 at *
 simp only[psH,Ex.cells]at g1 g2 g3⊢
 refine Z2o Zq8 3 follows Z06 hO Tryz.func109 rfl ?_
 repeat' ((conv=>whnf);first|refine exI (g1 _ rfl) ?_|refine exI (g2 _ rfl) ?_|refine exI (g3 _ rfl) ?_|refine stp ?_|with_reducible apply Z01<;>intro h)
 all_goals (try (conv=>whnf))
 all_goals exact⟨[0],rfl,⟨hbp,trivial⟩,rfl,Y01 rfl⟩
end
section
variable {gl:Z0g}
def Z38(s:List UInt8):Bool:=!s.isEmpty&&(Z0d s==s.length && !keysL.contains s)
theorem Zli(s:List UInt8):∃k w,Z91 s = .tuple [.int .i64 k,.bool w]/\(w&&(k==1))=Z38 s/\(k==1)=Z38 s:=by
 unfold Z91 Z38
 by_cases h0:s=[]
 ·subst h0;exact⟨0,false,by rw[if_neg (λh=>h.1 rfl)],rfl,rfl⟩
 · by_cases hw:Z0d s=s.length
   · rw[if_pos ⟨h0,hw⟩]
     refine⟨_,_,rfl,?_⟩
     have:s.isEmpty=false:=by cases s with|nil=>exact absurd rfl h0|cons _ _=>rfl
     rw[this,hw]
     cases keysL.contains s<;>simp
   · rw[if_neg (λh=>hw h.2)]
     refine⟨_,_,rfl,?_⟩
     have:(Z0d s==s.length)=false:=by simpa using hw
     rw[this];simp
theorem ZbB(s:List UInt8)(hs:s.length<=9223372036854775807)(m:Bool):ValOK Y00 gl 63 [.str s,.bool m] (.bool (if m then Z38 s else s==[])):=by
 obtain⟨k,w,h1,h2,h3⟩:=Zli s
 have hO:=ZfA (P:=Y00) (gl:=gl) (l:=[(105,[.str s],Z91 s)]) ⟨rfl,Zj1 s hs,trivial⟩
 have q:∀H,Z05 Y00 (Zok [(105,[.str s],Z91 s)]) H 105 [.str s]=some (Z91 s,H):=λH=>Zpa (by kernel_rfl) ZfO
 rw[h1]at q hO
 rw[<- h3]
 cases m with
 |true =>
  refine Z0B follows Z06 hO Tryz.func63 rfl ?_
  repeat' ((conv=>whnf);first|refine exI (q _) ?_|refine stp ?_|with_reducible apply Z01<;>intro h)
  all_goals rfl
 |false =>
  refine Z0B follows Z06 hO Tryz.func63 rfl ?_
  repeat' ((conv=>whnf);first|refine exI (q _) ?_|refine stp ?_|with_reducible apply Z01<;>intro h)
  all_goals rfl
end
section
variable {gl:Z0g}
def okN(s:List UInt8)(n:Nat):Prop:=s.length<=9223372036854775807/\n<=9223372036854775807
mutual
def okE:Ex->Prop
 | .mk _ _ s k=>okN s k.length/\okL k
def okL:List Ex->Prop
 |[]=>True
 |e::l=>okE e/\okL l
end
theorem Z8n:∀{l:List Ex},okL l->∀e∈l,okE e
 |x::l,h,e,he=>by
  simp only[okL]at h
  rcases Y0v.1 he with rfl|he
  ·exact h.1
  ·exact Z8n h.2 e he
theorem Z7K:∀{e:Ex},okE e->okN e.name e.kids.length/\okL e.kids
 | .mk _ _ s k,h=>by simp only[okE]at h;exact h
def Zag(op:Int):Int:=if op=1\/op=2 then 0 else if op=3\/op=4 then 1 else if 5<=op/\op<=16 then 2 else -1
def ZcP(op num:Int)(name:List UInt8)(n:Nat):Bool:=Zag op==(n:Int)&&((op==2)==Z38 name&&((op==2 || name==[])&&(decide (0<=num)&&(op==1 || num==0))))
def ZoI(e:Ex):Bool:=ZcP e.op e.num e.name e.kids.length
mutual
def Z5R:Ex->Bool
 | .mk o n s k=>ZcP o n s k.length&&rightL k
def rightL:List Ex->Bool
 |[]=>true
 |e::l=>Z5R e&&rightL l
end
end
section
theorem FgLK.same{k:Nat}{t0 tm:Tr}{H:Z00}{l:List (Nat×AV)}(h1:Zg4 t0 tm=true)(hs:SlotsGe (List.range k) tm l)(hH:HpGe H (List.range k) (List.range k) H 0/\Z0Q ((List.range k).map (Z1i H))=true/\Zeh k 0 (List.range k)=true):FgLK k t0 tm H l H:=by
 unfold FgLK
 rw[h1]
 exact .inl ⟨List.range k,hH.2.2,hs,hH.1,hH.2.1⟩
structure TvE (gl:Z0g) where
 σ : Type
 Mem : σ -> Z00
 k:Nat
 len:∀s,(Mem s).length=k
 same:∀s,HpGe (Mem s) (List.range k) (List.range k) (Mem s) 0/\Z0Q ((List.range k).map (Z1i (Mem s)))=true/\Zeh k 0 (List.range k)=true
 evo:∀s s',ZiX k (Mem s) (Mem s')=true
 inj:∀s s',Mem s=Mem s'->s=s'
 I:Int -> σ -> Nat->Prop
 up:∀d s m,0<=d->I (d+1) s m->I d s m
 less:∀d s m,I d s (m+1)->I d s m
 bnd:∀d s m,I d s m->0<=d/\d<=1152921504606846976
 gE:Nat
 cE:List AV
 hE:Ex->Int -> σ -> Bool×σ
 bodyE:Z0h Y00 gE=true
 wkE:WkL (List.range k) cE cE
 okE:∀e rest d s m,okE e->I d s (m+1)->Z2i Y00 gl gE ([.rp (e.cells++rest),.int .i64 d]++cE) (Mem s) (.bool (hE e d s).1) (Mem (hE e d s).2)
 downE:∀e d s m,I d s (m+1)->(hE e d s).1=true->I (d+1) (hE e d s).2 m
section
variable {σ : Type}
mutual
def goE(h:Ex->Int -> σ -> Bool×σ):Ex->Int -> σ -> Bool×σ
 | .mk o n s k,d,t=>if (h (.mk o n s k) d t).1=true then goL h k (d+1) (h (.mk o n s k) d t).2 else (false,(h (.mk o n s k) d t).2)
def goL(h:Ex->Int -> σ -> Bool×σ):List Ex->Int -> σ -> Bool×σ
 |[],d,t=>(true,t)
 |e::l,d,t=>if (goE h e d t).1=true then goL h l d (goE h e d t).2 else (false,(goE h e d t).2)
end
variable {h:Ex->Int -> σ -> Bool×σ}
theorem ZnL(e:Ex)(d:Int)(t : σ):goE h e d t=if (h e d t).1=true then goL h e.kids (d+1) (h e d t).2 else (false,(h e d t).2):=by
 obtain⟨o,n,s,k⟩:=e
 simp only[goE,Ex.kids]
theorem ZkU:∀(l:List Ex)(d:Int)(t : σ)(i:Nat)(hi:i<l.length),(goL h (l.take i) d t).1=true->goL h (l.take (i+1)) d t=goE h l[i] d (goL h (l.take i) d t).2
 |e::l,d,t,0,_,_=>by
  simp only[Y0f,Y0g,goL,Y0o]
  split
  ·rename_i h2;rw[<- h2]
  ·rename_i h2;rw[<- Bool.eq_false_iff.2 h2]
 |e::l,d,t,i+1,hi,ht=>by
  simp only[Y0g,goL,Y0p]at ht⊢
  split
  · rename_i h2
    rw[if_pos h2]at ht
    exact ZkU l d _ i (by simpa using hi) ht
  ·rename_i h2;rw[if_neg h2]at ht;cases ht
theorem ZeA:∀(l:List Ex)(d:Int)(t : σ)(i:Nat),(goL h (l.take i) d t).1=false->goL h l d t=goL h (l.take i) d t
 |[],d,t,i,hf=>by simp
 |e::l,d,t,0,hf=>by simp only[Y0f,goL]at hf;cases hf
 |e::l,d,t,i+1,hf=>by
  simp only[Y0g,goL]at hf⊢
  split
  · rename_i h2
    rw[if_pos h2]at hf
    exact ZeA l d _ i hf
  ·rfl
end
section
variable {gl:Z0g} (V:TvE gl)
def TvE.F:AV:=.func (.func V.gE) [] V.cE
mutual
theorem TvE.keepE:∀(e:Ex)(d:Int)(s:V.σ)(m:Nat),V.I d s (Z1x e+m)->(goE V.hE e d s).1=true->V.I d (goE V.hE e d s).2 m
 | .mk o n t k,d,s,m,hI,ht=>by
  simp only[goE,Z1x]at hI ht⊢
  split
  · rename_i h2
    rw[if_pos h2]at ht
    have h3:=V.downE _ d s (sizeL k+m) (by rw[show 1+sizeL k+m=sizeL k+m+1 from by omega]at hI;exact hI) h2
    exact V.up _ _ _ (V.bnd _ _ _ hI).1 (TvE.keepL k (d+1) _ m h3 ht)
  ·rename_i h2;rw[if_neg h2]at ht;cases ht
theorem TvE.keepL:∀(l:List Ex)(d:Int)(s:V.σ)(m:Nat),V.I d s (sizeL l+m)->(goL V.hE l d s).1=true->V.I d (goL V.hE l d s).2 m
 |[],d,s,m,hI,ht=>by simp only[goL,sizeL,Y0w]at hI⊢;exact hI
 |e::l,d,s,m,hI,ht=>by
  simp only[goL,sizeL]at hI ht⊢
  split
  · rename_i h2
    rw[if_pos h2]at ht
    exact TvE.keepL l d _ m (TvE.keepE e d s (sizeL l+m) (by rw[<- Nat.add_assoc];exact hI) h2) ht
  ·rename_i h2;rw[if_neg h2]at ht;cases ht
end
theorem ZjM(e:Ex)(rest:List AV):tk 1 ((e.cells++rest).drop 3)=some [exA e.kids]:=by
 obtain⟨o,n,s,k⟩:=e
 simp only[Ex.cells,exA,Ex.kids];rfl
theorem TvE.fin(s t:V.σ)(b:Bool):List.take V.k (V.Mem t)=V.Mem t/\(Z12 V.k (Z2a (AV.bool b) [])&&ZiX V.k (V.Mem s) (V.Mem t))=true :=
 ⟨List.take_of_length_le (by rw[V.len];exact Y04 _),by rw[V.evo];rfl⟩
theorem TvE.exprs (hf : Y00.follows .mixedOrders = true) : ∀ (n : Nat) (l : List Ex) (d : Int) (s : V.σ) (m : Nat), sizeL l <= n -> okL l -> l.length <= 9223372036854775807 -> V.I d s (sizeL l + m) ->
  Z2i Y00 gl 78 [exA l,.int .i64 d,V.F] (V.Mem s) (.bool (goL V.hE l d s).1) (V.Mem (goL V.hE l d s).2)
 |n,l,d,s,m,hn,hok,hl,hI=>by
  have hF : ∃ O, OrcSound Y00 gl O /\ (∀ (i : Nat) (hi : i < l.length) (t : V.σ) (q : Nat), n ≠ 0 -> V.I (d + 1) t (sizeL l[i].kids + q) -> Z05 Y00 O (V.Mem t) 78 [exA l[i].kids, .int .i64 (d + 1), V.F] = some (.bool (goL V.hE l[i].kids (d + 1) t).1, V.Mem (goL V.hE l[i].kids (d + 1) t).2)) /\
    (∀(i:Nat)(hi:i<l.length)(t:V.σ)(q:Nat),V.I d t (q+1)->Z05 Y00 O (V.Mem t) V.gE ([.rp ((exC l).drop (i*4)),.int .i64 d]++V.cE)=some (.bool (V.hE l[i] d t).1,V.Mem (V.hE l[i] d t).2)):=by
   have s1:=Z2r (P:=Y00) (gl:=gl) (I:=Nat×V.σ×Nat) (G:=λp=>∃hp:p.1<l.length,n≠0/\V.I (d+1) p.2.1 (sizeL l[p.1].kids+p.2.2)) (fF:=λ_=>78) (fA:=λp=>[exA (l.getD p.1 default).kids,.int .i64 (d+1),V.F]) (fH:=λp=>V.Mem p.2.1) (fR:=λp=>.bool (goL V.hE (l.getD p.1 default).kids (d+1) p.2.1).1) (fO:=λp=>V.Mem (goL V.hE (l.getD p.1 default).kids (d+1) p.2.1).2) λp hp=>by
    obtain⟨hp,h0,h1⟩:=hp
    have hg:l.getD p.1 default=l[p.1]:=by simp[Y0t,hp]
    rw[hg]
    have hke:=Z8n hok _ (Z1g hp)
    have hsz:=Z3n _ _ (Z1g hp)
    have hsk:=Z9i l[p.1]
    match n,hn,h0 with
    |n+1,hn,_=>exact TvE.exprs hf n _ (d+1) p.2.1 p.2.2 (by omega) (Z7K hke).2 (Z7K hke).1.2 h1
   have s2:=Z2r (P:=Y00) (gl:=gl) (I:=Nat×V.σ×Nat) (G:=λp=>p.1<l.length/\V.I d p.2.1 (p.2.2+1)) (fF:=λ_=>V.gE) (fA:=λp=>[.rp ((exC l).drop (p.1*4)),.int .i64 d]++V.cE) (fH:=λp=>V.Mem p.2.1) (fR:=λp=>.bool (V.hE (l.getD p.1 default) d p.2.1).1) (fO:=λp=>V.Mem (V.hE (l.getD p.1 default) d p.2.1).2) λp hp=>by
    obtain⟨hp,h1⟩:=hp
    have hg:l.getD p.1 default=l[p.1]:=by simp[Y0t,hp]
    have hke:=Z8n hok _ (Z1g hp)
    simp only[hg]
    rw[ZeH l p.1 hp]
    exact V.okE _ _ _ _ _ hke h1
   refine⟨_,Z23 s1 s2,λi hi t q h0 h1=>?_,λi hi t q h1=>?_⟩
   · have hg:l.getD i default=l[i]:=by simp[Y0t,hi]
     have:=Zdm (P:=Y00) (I:=Nat×V.σ×Nat) (G:=λp=>∃hp:p.1<l.length,n≠0/\V.I (d+1) p.2.1 (sizeL l[p.1].kids+p.2.2)) (fF:=λ_=>78) (fA:=λp=>[exA (l.getD p.1 default).kids,.int .i64 (d+1),V.F]) (fH:=λp=>V.Mem p.2.1) (fR:=λp=>.bool (goL V.hE (l.getD p.1 default).kids (d+1) p.2.1).1) (fO:=λp=>V.Mem (goL V.hE (l.getD p.1 default).kids (d+1) p.2.1).2)
      (fun p q _ _ _ ha hh => by
        have e2:=V.inj _ _ hh
        simp only[List.cons.injEq,and_true,true_and]at ha
        rw[Z8K ha,e2];exact⟨rfl,rfl⟩) (g:=78) (args:=[exA l[i].kids,.int .i64 (d+1),V.F]) (H:=V.Mem t) (by kernel_rfl) (i,t,q) ⟨hi,h0,h1⟩ rfl (by rw[hg]) rfl
     simp only[hg]at this
     exact Z5w (by kernel_rfl) this
   · have hg:l.getD i default=l[i]:=by simp[Y0t,hi]
     refine Z5v V.bodyE (Z3r λp _ _ ha=>?_) ?_
     · have:=congrArg (λa=>a.head?) ha
       simp[exA]at this
     · have := Zdm (P := Y00) (I := Nat × V.σ × Nat) (G := fun p => p.1 < l.length /\ V.I d p.2.1 (p.2.2 + 1)) (fF := fun _ => V.gE) (fA := fun p => [.rp ((exC l).drop (p.1 * 4)), .int .i64 d] ++ V.cE) (fH := fun p => V.Mem p.2.1) (fR := fun p => .bool (V.hE (l.getD p.1 default) d p.2.1).1) (fO := fun p => V.Mem (V.hE (l.getD p.1 default) d p.2.1).2)
        (fun p q hp hq _ ha hh => by
          have e2:=V.inj _ _ hh
          simp only[Y08,Y0a,List.cons.injEq,AV.rp.injEq,true_and,and_true]at ha
          have:=congrArg List.length ha
          simp only[Y0E,Z6K]at this
          have e:p.1=q.1:=by have:=hp.1;have:=hq.1;omega
          rw[e,e2];exact⟨rfl,rfl⟩) (g:=V.gE) (args:=[.rp ((exC l).drop (i*4)),.int .i64 d]++V.cE) (H:=V.Mem t) V.bodyE (i,t,q) ⟨hi,h1⟩ rfl rfl rfl
       simp only[hg]at this
       exact this
  obtain⟨O,hO,q2,q1⟩:=hF
  have hbd:=V.bnd _ _ _ hI
  have w1:IntKind.i64.wrap (d+1)=d+1:=Z7h (by omega) (by omega)
  simp only[exA,TvE.F]at q2⊢
  refine ZbK (k:=V.k) follows Z06 hO (V.len s) Tryz.func78 rfl (Z9G _ _) ?_
  repeat' ((conv=>whnf);first|(rw[Z0n])|refine stp ?_|with_reducible apply Z01<;>intro h)
  conv=>whnf
  refine⟨Nat,(λi=>i<=l.length/\(goL V.hE (l.take i) d s).1=true),(λi=>[(0,.rs l.length 4 (exC l)),(1,.int .i64 d),(2,.func (.func V.gE) [] V.cE),(9,.int .i64 l.length),(10,.int .i64 i)]),(λi=>V.Mem (goL V.hE (l.take i) d s).2),(λi=>l.length-i),⟨0,⟨Y0e _,by simp only[Y0f,goL]⟩,?_⟩,?_⟩
  · simp only[Y0f,goL]
    refine FgLK.same rfl ?_ (V.same _)
    refine Y0c (Y01 rfl) ?_
    refine Y0c (Y01 rfl) ?_
    refine Y0c (Wk.func trivial V.wkE) ?_
    refine Y0c (Y09 rfl) ?_
    exact⟨Y09 rfl,trivial⟩
  rintro i ⟨hi,hall⟩
  dsimp only
  conv=>whnf
  rw[Z0n]
  by_cases hlt:i<l.length
  · have e1:decide ((i:Int)<(l.length:Int))=true:=by simpa using hlt
    have hat:=ZkU (h:=V.hE) l d s i hlt hall
    have hI2:V.I d (goL V.hE (l.take i) d s).2 (sizeL (l.drop i)+m):=V.keepL (l.take i) d s (sizeL (l.drop i)+m) (by
     have:=Z5P l i hlt
     have e:sizeL (l.drop i)=Z1x l[i]+sizeL (l.drop (i+1)):=by rw[Y0u hlt];simp only[sizeL]
     have e2:sizeL (l.take i)+(sizeL (l.drop i)+m)=sizeL l+m:=by omega
     rw[e2];exact hI) hall
    generalize (goL V.hE (l.take i) d s).2=t at *
    have esz:sizeL (l.drop i)+m=(sizeL l[i].kids+(sizeL (l.drop (i+1))+m))+1:=by
     rw[Y0u hlt];simp only[sizeL];have:=Z9i l[i];omega
    rw[esz]at hI2
    have q1':=q1 i hlt t _ hI2
    have hd2:=V.downE l[i] d t _ hI2
    have hx3:tk 1 (((exC l).drop (i*4)).drop 3)=some [exA l[i].kids]:=by rw[ZeH l i hlt];exact ZjM _ _
    have hn0:n≠0:=by have:=Z3n _ _ (Z1g hlt);have:=Z8c l[i];omega
    have q2':=λt q=>q2 i hlt t q hn0
    rw[ZnL]at hat
    have hst:=ZeA (h:=V.hE) l d s (i+1)
    generalize l[i]=e at *
    generalize hr:V.hE e d t=r at *
    obtain⟨b,t1⟩:=r
    dsimp only at *
    cases b with
    |false =>
     simp only[Y0q,if_false]at hat
     rw[hat]at hst
     rw[hst rfl]
     clear q2 q2' hx3
     repeat' ((conv=>whnf);first|(refine exI q1' ?_)|(rw[Z0n])|(with_reducible refine ixJ i rfl ?_ ?_;focus omega)|refine stp ?_|with_reducible apply Z01<;>intro h)
     all_goals (conv=>whnf)
     all_goals (exact V.fin s t1 false)
    |true =>
     simp only[if_true]at hat
     have q2'':=q2' t1 _ (hd2 rfl)
     generalize hg:goL V.hE e.kids (d+1) t1=g at *
     obtain⟨b2,t2⟩:=g
     dsimp only at *
     simp only[exA]at hx3 q2''
     cases b2 with
     |true =>
      repeat' ((conv=>whnf);first|(refine exI q1' ?_)|(refine exI q2'' ?_)|refine exI hx3 ?_|(rw[Z0n])|(with_reducible refine exW w1 ?_)|(with_reducible refine ixJ i rfl ?_ ?_;focus omega)|refine stp ?_|with_reducible apply Z01<;>intro h)
      all_goals (conv=>whnf)
      refine⟨i+1,⟨hlt,by rw[hat]⟩,by show l.length-(i+1)<l.length-i;omega,?_⟩
      rw[hat]
      refine FgLK.same rfl ?_ (V.same _)
      refine Y0c (Y01 rfl) ?_
      refine Y0c (Y01 rfl) ?_
      refine Y0c (Wk.func trivial V.wkE) ?_
      refine Y0c (Y09 rfl) ?_
      exact⟨Y09 rfl,trivial⟩
     |false =>
      rw[hat]at hst
      rw[hst rfl]
      repeat' ((conv=>whnf);first|(refine exI q1' ?_)|(refine exI q2'' ?_)|refine exI hx3 ?_|(rw[Z0n])|(with_reducible refine exW w1 ?_)|(with_reducible refine ixJ i rfl ?_ ?_;focus omega)|refine stp ?_|with_reducible apply Z01<;>intro h)
      all_goals (conv=>whnf)
      all_goals (exact V.fin s t2 false)
  · have e1:decide ((i:Int)<(l.length:Int))=false:=by simpa using hlt
    have hi2:i=l.length:=by have:=hi;omega
    subst hi2
    rw[List.take_length]at hall⊢
    rw[hall]
    generalize (goL V.hE l d s).2=t at *
    repeat' ((conv=>whnf);first|(rw[Z0n])|refine stp ?_|with_reducible apply Z01<;>intro h)
    all_goals (conv=>whnf)
    all_goals (exact V.fin s t true)
end
end
section
inductive St where
 |mk (kind:Int) (name loc:List UInt8) (order:Int) (exprs:List Ex) (thn els:List St)
instance:Inhabited St:=⟨.mk 0 [] [] 0 [] [] []⟩
def St.kind:St->Int
 | .mk k _ _ _ _ _ _=>k
def St.name:St->List UInt8
 | .mk _ n _ _ _ _ _=>n
def St.loc:St->List UInt8
 | .mk _ _ l _ _ _ _=>l
def St.order:St->Int
 | .mk _ _ _ o _ _ _=>o
def St.exprs:St->List Ex
 | .mk _ _ _ _ x _ _=>x
def St.thn:St->List St
 | .mk _ _ _ _ _ t _=>t
def St.els:St->List St
 | .mk _ _ _ _ _ _ e=>e
mutual
def St.cells:St->List AV
 | .mk k n l o x t e=>[.int .i64 k,.str n,.str l,.int .i64 o,exA x,.rs t.length 7 (stC t),.rs e.length 7 (stC e)]
def stC:List St->List AV
 |[]=>[]
 |s::l=>s.cells++stC l
end
def stA(l:List St):AV:=.rs l.length 7 (stC l)
mutual
def Z1O:St->Nat
 | .mk _ _ _ _ x t e=>1+sizeL x+sizeSL t+sizeSL e
def sizeSL:List St->Nat
 |[]=>0
 |s::l=>Z1O s+sizeSL l
end
mutual
def ZmA:St->Nat
 | .mk _ _ _ _ x t e=>max (max (deepSL t) (deepSL e)) (deepL x)+1
def deepSL:List St->Nat
 |[]=>0
 |s::l=>max (ZmA s) (deepSL l)
end
mutual
def okS:St->Prop
 | .mk _ n l _ x t e=>okN n x.length/\okN l t.length/\e.length<=9223372036854775807/\okL x/\okSL t/\okSL e
def okSL:List St->Prop
 |[]=>True
 |s::l=>okS s/\okSL l
end
theorem Z7J:∀{l:List St},okSL l->∀s∈l,okS s
 |x::l,h,e,he=>by
  simp only[okSL]at h
  rcases Y0v.1 he with rfl|he
  ·exact h.1
  ·exact Z7J h.2 e he
theorem Z8m:∀{s:St},okS s->s.name.length<=9223372036854775807/\s.loc.length<=9223372036854775807/\s.exprs.length<=9223372036854775807/\s.thn.length<=9223372036854775807/\s.els.length<=9223372036854775807/\okL s.exprs/\okSL s.thn/\okSL s.els
 | .mk _ _ _ _ _ _ _,h=>by
  simp only[okS,okN]at h
  simp only[St.name,St.loc,St.exprs,St.thn,St.els]
  exact⟨h.1.1,h.2.1.1,h.1.2,h.2.1.2,h.2.2.1,h.2.2.2⟩
theorem Z3o:∀s:St,s.cells.length=7
 | .mk _ _ _ _ _ _ _=>by simp only[St.cells];rfl
theorem Z5h:∀l:List St,(stC l).length=l.length*7
 |[]=>by simp only[stC];rfl
 |s::l=>by simp only[stC,Y0h,Z3o,Z5h l,Y0d];omega
theorem Zgt:∀a b:List St,stC (a++b)=stC a++stC b
 |[],b=>by simp only[stC,Y0a]
 |e::a,b=>by simp only[stC,Y08,Zgt a b,List.append_assoc]
theorem Zjd(s:St)(l:List St)(i:Nat):(stC (s::l)).drop ((i+1)*7)=(stC l).drop (i*7):=by
 have h:(i+1)*7=7+i*7:=by omega
 rw[h,<- List.drop_drop,stC,List.drop_left' (Z3o s)]
theorem Z5N:∀(l:List St)(i:Nat)(h:i<l.length),(stC l).drop (i*7)=l[i].cells++stC (l.drop (i+1))
 |s::l,0,h=>by simp only[Nat.zero_mul,Y0n,stC,Y0o,Y0i]
 |s::l,i+1,h=>by rw[Zjd,Z5N l i (by simpa using h)];simp only[Y0p,Y0i]
theorem st7(l:List St)(i:Nat)(h:i<l.length):tk 7 ((stC l).drop (i*7))=some l[i].cells:=by
 rw[Z5N l i h]
 have:=Zgj l[i].cells (stC (l.drop (i+1)))
 rwa [Z3o]at this
mutual
theorem Zfo:∀(a b:St),a.cells=b.cells->a=b
 | .mk k n l o x t e,.mk k' n' l' o' x' t' e',h=>by
  simp only[St.cells,List.cons.injEq,AV.int.injEq,AV.str.injEq,AV.rs.injEq,true_and,and_true]at h
  obtain⟨rfl,rfl,rfl,rfl,hx,ht,he⟩:=h
  rw[Z8K hx,stC_inj t t' ht.2 ht.1,stC_inj e e' he.2 he.1]
theorem stC_inj:∀(a b:List St),stC a=stC b->a.length=b.length->a=b
 |[],[],_,_=>rfl
 |x::a,y::b,h,hl=>by
  simp only[stC]at h
  have h':=List.append_inj h (by rw[Z3o,Z3o])
  rw[Zfo x y h'.1,stC_inj a b h'.2 (by simpa using hl)]
 |[],_::_,_,hl=>by simp at hl
 |_::_,[],_,hl=>by simp at hl
end
theorem Z5i{a b:List St}(h:stA a=stA b):a=b:=by
 simp only[stA,AV.rs.injEq,true_and]at h
 exact stC_inj _ _ h.2 h.1
theorem Zgz:∀s:St,0<Z1O s
 | .mk _ _ _ _ _ _ _=>by simp only[Z1O];omega
theorem Z7B:∀s:St,Z1O s=1+sizeL s.exprs+sizeSL s.thn+sizeSL s.els
 | .mk _ _ _ _ _ _ _=>by simp only[Z1O,St.exprs,St.thn,St.els]
theorem Z6y:∀(l:List St)(i:Nat)(h:i<l.length),sizeSL l=sizeSL (l.take i)+Z1O l[i]+sizeSL (l.drop (i+1))
 |s::l,0,h=>by simp only[Y0f,sizeSL,Y0o,Y0i,Y0n];omega
 |s::l,i+1,h=>by
  have:=Z6y l i (by simpa using h)
  simp only[Y0g,sizeSL,Y0p,Y0i];omega
theorem Z8a:∀(l:List St)(i:Nat)(h:i<l.length),sizeSL (l.take (i+1))=sizeSL (l.take i)+Z1O l[i]
 |s::l,0,h=>by simp only[Y0g,Y0f,sizeSL,Y0o];omega
 |s::l,i+1,h=>by
  have:=Z8a l i (by simpa using h)
  simp only[Y0g,sizeSL,Y0p]at this⊢;omega
theorem Z9h:∀l:List St,l.length<=sizeSL l
 |[]=>Y0e _
 |s::l=>by have:=Z9h l;have:=Zgz s;simp only[sizeSL,Y0d];omega
theorem Z6x:∀(l:List St)(s:St),s∈l->Z1O s<=sizeSL l
 |e::l,f,h=>by
  simp only[sizeSL]
  rcases Y0v.1 h with rfl|h
  ·omega
  ·have:=Z6x l f h;omega
theorem Zl4(s:St)(rest:List AV):tk 1 ((s.cells++rest).drop 4)=some [exA s.exprs]:=by
 obtain⟨k,n,l,o,x,t,e⟩:=s
 simp only[St.cells,exA,St.exprs];rfl
theorem Zl5(s:St)(rest:List AV):tk 1 ((s.cells++rest).drop 5)=some [stA s.thn]:=by
 obtain⟨k,n,l,o,x,t,e⟩:=s
 simp only[St.cells,stA,St.thn];rfl
theorem Zl6(s:St)(rest:List AV):tk 1 ((s.cells++rest).drop 6)=some [stA s.els]:=by
 obtain⟨k,n,l,o,x,t,e⟩:=s
 simp only[St.cells,stA,St.els];rfl
end
section
variable {gl:Z0g}
def Z6J:AV->Bool
 | .bool _=>true
 | .int _ _=>true
 | .str _=>true
 | .rs _ _ _=>true
 |_=>false
theorem Zk0{H:Z00}{n:Nat}:∀{u:AV},Z6J u=true->frz H (n+1) u=some u
 | .bool _,_=>rfl
 | .int _ _,_=>rfl
 | .str _,_=>rfl
 | .rs _ _ _,_=>rfl
theorem ZbJ{H:Z00}{n:Nat}:∀{cs:List AV},cs.all Z6J=true->Z2E (frz H (n+1)) cs=some cs
 |[],_=>rfl
 |c::cs,h=>by
  simp only[List.all_cons,Y05]at h
  simp only[Z2E,Zk0 h.1,ZbJ h.2]
theorem Z1t{H:Z00}{n b f sh len cap z:Nat}{cs:List AV}{ty:TypeId}(hH:H[b]? = some ⟨true,f,sh,.cells cs ty⟩)(hc:cs.length=len*z)(hl:cs.all Z6J=true):frz H (n+2) (.slice b 0 len cap z)=some (.rs len z cs):=by
 cases len with
 |zero =>
  have:cs=[]:=List.eq_nil_of_length_eq_zero (by omega)
  subst this;rfl
 |succ m =>
  have h2:Z2E (frz H (n+1)) cs=some cs:=ZbJ hl
  unfold frz
  simp only[hH,Y0n,Z81 hc]
  rw[h2]
def Zk6:AV->Bool
 | .bool _=>true
 | .int _ _=>true
 | .str _=>true
 | .rs _ _ _=>true
 | .nslice=>true
 |_=>false
theorem ZgM:∀{u:AV}{acc:List Nat},Zk6 u=true->Z2a u acc=acc
 | .bool _,_,_=>by simp only[Z2a]
 | .int _ _,_,_=>by simp only[Z2a]
 | .str _,_,_=>by simp only[Z2a]
 | .rs _ _ _,_,_=>by simp only[Z2a]
 | .nslice,_,_=>by simp only[Z2a]
theorem Z9m:∀{l:List AV}{acc:List Nat},l.all Zk6=true->refsL l acc=acc
 |[],_,_=>by simp only[refsL]
 |c::l,acc,h=>by
  simp only[List.all_cons,Y05]at h
  simp only[refsL,ZgM h.1,Z9m h.2]
theorem ZnW:∀{l:List AV},l.all Z6J=true->l.all Zk6=true:=by
 intro l h
 rw[Y0D]at h⊢
 intro u hu
 have:=h u hu
 cases u<;>simp_all[Z6J,Zk6]
end
section
variable {gl:Z0g}
def Z3D(T:List Tq):Nat->Ps->List Ex×Ps
 |0,s=>([],s)
 |n+1,s=>((Z0X T (Z03 T s [44])).1::(Z3D T n (Z0X T (Z03 T s [44])).2).1,(Z3D T n (Z0X T (Z03 T s [44])).2).2)
theorem ZhT{T:List Tq}:∀(n:Nat){s:Ps},PsOK T s->PsGo T s (Z3D T n s).2
 |0,s,h=>⟨h,Y04 _,Y0s _⟩
 |n+1,s,h=>by
  have h1:=Z0C h [44]
  have h2:=Z3T h1.ok
  exact h1.trans (h2.trans (ZhT n h2.ok))
theorem ZhS(T:List Tq):∀(n:Nat)(s:Ps),Kp s (Z3D T n s).2
 |0,s=>Kp.rfl'
 |n+1,s=>(Z4Q T s [44]).trans ((ZeG T _).trans (ZhS T n _))
def Z2j(T:List Tq)(name:List UInt8)(kind:Int)(n:Nat)(s:Ps):St×Ps :=
 let s1:=Z03 T s [40]
 let r:=Z3D T n (Z0a T s1)
 let o:=Z08 T (Z03 T r.2 [44]) ordL 1
 (.mk kind name (Z0R T s1) o.1 r.1 [] [],Z03 T o.2 [41])
theorem Z6R{T:List Tq}{s:Ps}(hs:PsOK T s)(name:List UInt8)(kind:Int)(n:Nat):PsGo T s (Z2j T name kind n s).2:=by
 have h1:=Z0C hs [40]
 have h2:=Z4B h1.ok
 have h3:=ZhT n h2.ok
 have h4:=Z0C h3.ok [44]
 have h5:=Z22 ordL _ 1 h4.ok
 exact h1.trans (h2.trans (h3.trans (h4.trans (h5.trans (Z0C h5.ok _)))))
theorem ZaO(T:List Tq)(s:Ps)(name:List UInt8)(kind:Int)(n:Nat):Kp s (Z2j T name kind n s).2 :=
 (Z4Q T s [40]).trans ((Zj3 T _).trans ((ZhS T n _).trans ((Z4Q T _ _).trans ((Z9o T ordL _ 1).trans (Z4Q T _ _)))))
theorem Z5l:∀l:List Ex,(exC l).all Z6J=true
 |[]=>by simp only[exC];rfl
 | .mk _ _ _ _::l=>by simp only[exC,Ex.cells,List.all_append,Z5l l,Bool.and_true];rfl
theorem Z5m:∀l:List St,(stC l).all Z6J=true
 |[]=>by simp only[stC];rfl
 | .mk _ _ _ _ _ _ _::l=>by simp only[stC,St.cells,List.all_append,Z5m l,Bool.and_true];rfl
theorem ZbL{cs:List AV}(h:cs.all Z6J=true):refsL cs []=[]:=Z9m (ZnW h)
theorem Z0f{m:List Nat}{cs cs2:List AV}{ty:TypeId}(e:cs=cs2)(h:cs2.all Z6J=true):BodyGe m (.cells cs ty) (.cells cs2 ty):=Y07 (rest:=[]) (by rw[e,Y0F]) (ZbL h)
theorem ZgO(l:List Ex)(o n:Int)(t:List UInt8)(ks:List Ex):exC l++[.int .i64 o,.int .i64 n,.str t,.rs ks.length 4 (exC ks)]=exC (l++[.mk o n t ks]):=by rw[ZhW];simp only[exC,Ex.cells,Y0F]
def exS:List Ex->AV
 |[]=>.nslice
 |e::l=>.slice 3 0 (l.length+1) (l.length+1) 4
def exB:List Ex->Z00
 |[]=>[]
 |e::l=>[⟨true,3,0,.cells (exC (e::l)) 47⟩]
def zS:List AV:=[.int .i64 0,.str [],.str [],.int .i64 0,.nslice,.nslice,.nslice]
def exN:List Ex->AV
 |[]=>.nslice
 |e::l=>exA (e::l)
theorem ZhC{H:Z00}{n:Nat}{k o:Int}{a b:List UInt8}{x x':AV}(h:frz H (n+1) x=some x'):frz H (n+2) (.agg [.int .i64 k,.str a,.str b,.int .i64 o,x,.nslice,.nslice])=some (.agg [.int .i64 k,.str a,.str b,.int .i64 o,x',.nslice,.nslice]):=by
 have e:∀u,frz H (n+2) (.agg u)=match Z2E (frz H (n+1)) u with|some l=>some (.agg l)|none=>none:=λu=>rfl
 rw[e]
 have e2:∀u:AV,lit u=true->frz H (n+1) u=some u:=λu hu=>ZhE hu
 clear e
 simp only[Z2E,h,e2 (.int .i64 k) rfl,e2 (.str a) rfl,e2 (.str b) rfl,e2 (.int .i64 o) rfl,show frz H (n+1) .nslice=some .nslice from rfl]
def stN:List St->AV
 |[]=>.nslice
 |e::l=>stA (e::l)
theorem Zo0{sn:Z0m}{ι : Z0i}{v:Value}:∀{l:List Ex},VR sn ι (exN l) v->VR sn ι (exA l) v
 |[],h=>Z2B h
 |_::_,h=>h
theorem ZdZ{sn:Z0m}{ι : Z0i}{v:Value}:∀{l:List St},VR sn ι (stN l) v->VR sn ι (stA l) v
 |[],h=>Z2B h
 |_::_,h=>h
theorem Zgv{sn:Z0m}{ι : Z0i}{v:Value}{k o:Int}{a b:List UInt8}{x:List Ex}{t e:List St}(h:VR sn ι (.agg [.int .i64 k,.str a,.str b,.int .i64 o,exN x,stN t,stN e]) v):VR sn ι (.agg (St.mk k a b o x t e).cells) v:=by
 obtain⟨d,rfl,d1,l1,f1,a1,d2,l2,rfl,a2,d3,l3,rfl,a3,d4,l4,rfl,a4,d5,l5,rfl,a5,d6,l6,rfl,a6,d7,l7,rfl,a7,h1⟩:=h.agg
 exact Z44 ⟨_,_,f1,a1,_,_,rfl,a2,_,_,rfl,a3,_,_,rfl,a4,_,_,rfl,Zo0 a5,_,_,rfl,ZdZ a6,_,_,rfl,ZdZ a7,h1⟩
theorem MemQ.conv{k f:Nat}{args:List AV}{H H':Z00}{r r':AV}(h:MemQ Y00 gl k f args H r H')(hr:∀sn ι v,VR sn ι r v->VR sn ι r' v):MemQ Y00 gl k f args H r' H':=λsn ι W cargs hg hR ha =>
 (h sn ι W cargs hg hR ha).mono λe W' ⟨v,sn',ι',e1,e2,e3⟩=>⟨v,sn',ι',e1,hr _ _ _ e2,e3⟩
def Zqb(f:Nat):Bool:=Y03 f 92 || (Y03 f 51 || (Y03 f 91 || Y03 f 121))
structure As where
 l:List Ex
 s:Ps
theorem Zfw{T:List Tq}{s:Ps}(hs:PsOK T s)(name:List UInt8)(kind:Int)(n:Nat)(hn:n<=2):MemQ Y00 gl 1 120 [.ptr 0 0,.str name,.int .i64 kind,.int .i64 n] (psH T s) (.agg (Z2j T name kind n s).1.cells) (psH T (Z2j T name kind n s).2):=by
 obtain⟨O,hO,⟨p1,p2,p3,p4,-⟩,-⟩:=Z3v (P:=Y00) (gl:=gl) [Z6D T,Zda T,Zgd T,ZkH T] [] rfl
 have qn:∀w s X,PsOK T s->Z07 [0] X=true->Z05 Y00 O (psH T s++X) 92 [.ptr 0 0,.str w]=some (.tuple [],psH T (Z03 T s w)++X):=λw s X h hX=>p1 (w,s,X) ⟨h,hX⟩
 have qe:∀s X,PsOK T s->Z07 [0] X=true->Z05 Y00 O (psH T s++X) 51 [.ptr 0 0,.int .i64 0]=some (.agg (Z0X T s).1.cells,psH T (Z0X T s).2++X):=λs X h hX=>p2 ((),s,X) ⟨h,hX⟩
 have qw:∀s X,PsOK T s->Z07 [0] X=true->Z05 Y00 O (psH T s++X) 91 [.ptr 0 0]=some (.str (Z0R T s),psH T (Z0a T s)++X):=λs X h hX=>p3 ((),s,X) ⟨h,hX⟩
 have qo:∀s X,PsOK T s->Z07 [0] X=true->Z05 Y00 O (psH T s++X) 121 [.ptr 0 0]=some (.int .i64 (Z08 T s ordL 1).1,psH T (Z08 T s ordL 1).2++X):=λs X h hX=>p4 ((),s,X) ⟨h,hX⟩
 clear p1 p2 p3 p4
 have hT:Zcm Y00 45 45=some (47,4,56):=by kernel_rfl
 have h1:=Z4P hs [40]
 have h2:=Z9Q h1
 have g1:=λX=>qn [40] s X hs
 have g2:=λX=>qw _ X h1
 clear qw
 unfold Z2j
 simp only
 generalize Z03 T s [40]=s1 at *
 generalize Z0R T s1=loc at *
 generalize Z0a T s1=s2 at *
 generalize hR:Z3D T n s2=R
 obtain⟨RL,RS⟩:=R
 have hI:([]:List Ex).length<=n/\PsOK T s2/\[]++(Z3D T (n-([]:List Ex).length) s2).1=RL/\(Z3D T (n-([]:List Ex).length) s2).2=RS:=⟨Y0e _,h2,by rw[Y0G,Nat.sub_zero,hR];rfl,by rw[Y0G,Nat.sub_zero,hR]⟩
 clear hR
 simp only
 refine MemQ.conv (r:=.agg [.int .i64 kind,.str name,.str loc,.int .i64 (Z08 T (Z03 T RS [44]) ordL 1).1,exN RL,.nslice,.nslice]) ?_ ?_
 · simp only[psH]at g1 g2⊢
   refine Z0S follows Z06 (Z0e follows Z06 hO 3) Tryz.func120 rfl (Z0p (isC:=Zqb) 3) ?_
   repeat' ((conv=>whnf);first|refine exI (g1 _ rfl) ?_|refine exI (g2 _ rfl) ?_|refine stp ?_|with_reducible apply Z01<;>intro h)
   conv=>whnf
   refine⟨As,(λx=>x.l.length<=n/\PsOK T x.s/\x.l++(Z3D T (n-x.l.length) x.s).1=RL/\(Z3D T (n-x.l.length) x.s).2=RS),(λx=>[(0,.ptr 0 0),(1,.str name),(2,.int .i64 kind),(3,.int .i64 n),(8,.ptr 1 0),(9,.ptr 2 0),(10,.int .i64 (x.l.length:Nat))]),
    (λx=>psH T x.s++[⟨true,1,0,.cells zS 58⟩,⟨true,2,0,.cells [.int .i64 kind,.str name,.str loc,.int .i64 0,exS x.l,.nslice,.nslice] 58⟩]++exB x.l),(λx=>n-x.l.length),⟨⟨[],s2⟩,hI,?_⟩,?_⟩
   · refine FgLK.mk [0,1,2] rfl rfl ?_ ⟨hbp,hbp,hbp,trivial⟩ rfl
     exact wks
   clear hI g1 g2
   rintro⟨l,s⟩ ⟨hl,hsk,hL,hS⟩
   dsimp only at hl hsk hL hS
   (try dsimp only)
   by_cases hlt:l.length<n
   · have e1:decide ((l.length:Int)<(n:Int))=true:=by simpa using hlt
     have wa:IntKind.i64.wrap ((l.length:Int)+1)=((l.length+1:Nat):Int):=Z1D (by omega)
     obtain⟨m,hm⟩:∃m,n-l.length=m+1:=⟨n-l.length-1,by omega⟩
     rw[hm]at hL hS
     simp only[Z3D]at hL hS
     have k1:=Z4P hsk [44]
     have k2:=(Z3T k1).ok
     have g1:=λX=>qn [44] s X hsk
     have g2:=λX=>qe _ X k1
     clear qn qe qo
     generalize Z03 T s [44]=s3 at *
     generalize Z0X T s3=r at *
     obtain⟨⟨o,nu,nn,ks⟩,s4⟩:=r
     simp only[psH,Ex.cells]at g1 g2 k2 hL hS⊢
     rcases l with _|⟨a,l⟩
     · simp only[exS,exB]
       repeat' ((conv=>whnf);first|refine exI (g1 _ rfl) ?_|refine exI (g2 _ rfl) ?_|(with_reducible refine exW wa ?_)|(refine apS ?_)|refine stp ?_|with_reducible apply Z01<;>intro h)
       conv=>whnf
       refine⟨⟨[.mk o nu nn ks],s4⟩,⟨hlt,k2,?_,?_⟩,?_,?_⟩
       · show _::_=_
         have e3:n-[Ex.mk o nu nn ks].length=m:=by simp at hm⊢;omega
         rw[e3];exact hL
       · have e3:n-[Ex.mk o nu nn ks].length=m:=by simp at hm⊢;omega
         simp only
         rw[e3];exact hS
       ·simp at hlt⊢;omega
       · refine FgLK.mk [0,1,2,4] rfl rfl ?_ ⟨hbp,hbp,⟨rfl,rfl,rfl,rfl,BodyGe.cellsL ?_⟩,⟨rfl,rfl,rfl,rfl,Z0f rfl (Z5l [.mk o nu nn ks])⟩,trivial⟩ rfl
         ·exact wks
         · dsimp only[exS,Y0G]
           exact wks
     · have hcl:(exC (a::l)).length=(l.length+1)*4:=Z6K _
       have hsn:=ZgO (a::l) o nu nn ks
       simp only[Y0d]at hl hlt wa hm e1
       simp only[exS,exB,Y0d]
       repeat' ((conv=>whnf);first|refine exI (g1 _ rfl) ?_|refine exI (g2 _ rfl) ?_|(with_reducible refine exW wa ?_)|(refine apS ?_)|refine stp ?_|with_reducible apply Z01<;>intro h)
       conv=>whnf
       have e3:n-((a::l)++[Ex.mk o nu nn ks]).length=m:=by simp;omega
       refine⟨⟨(a::l)++[.mk o nu nn ks],s4⟩,⟨by simp;omega,k2,?_,?_⟩,?_,?_⟩
       · simp only
         rw[e3,<- hL];simp
       · simp only
         rw[e3];exact hS
       ·simp;omega
       · refine FgLK.mk [0,1,2,5] rfl rfl ?_ ⟨hbp,hbp,⟨rfl,rfl,rfl,rfl,BodyGe.cellsL ?_⟩,⟨rfl,rfl,rfl,rfl,Z0f hsn (Z5l _)⟩,trivial⟩ rfl
         ·exact wks
         · show WkL _ _ [_,_,_,_,exS ((a::l)++[Ex.mk o nu nn ks]),_,_]
           rw[show exS ((a::l)++[Ex.mk o nu nn ks]) = .slice 3 0 (l.length+1+1) (l.length+1+1) 4 by simp[exS]]
           exact wks
   · have e1:decide ((l.length:Int)<(n:Int))=false:=by simpa using hlt
     have e3:n-l.length=0:=by omega
     rw[e3]at hL hS
     simp only[Z3D,Y0F]at hL hS
     subst hL hS
     have k1:=Z4P hsk [44]
     have k2:=(Z22 ordL _ 1 k1).ok
     have g1:=λX=>qn [44] s X hsk
     have g2:=λX=>qo _ X k1
     have g3:=λX=>qn [41] _ X k2
     clear qn qe qo
     generalize Z03 T s [44]=s3 at *
     generalize Z08 T s3 ordL 1=r at *
     obtain⟨o,s4⟩:=r
     simp only at g3 k2⊢
     generalize Z03 T s4 [41]=s5 at *
     simp only[psH]at g1 g2 g3⊢
     rcases l with _|⟨a,l⟩
     · simp only[exS,exB,exN]
       repeat' ((conv=>whnf);first|refine exI (g1 _ rfl) ?_|refine exI (g2 _ rfl) ?_|refine exI (g3 _ rfl) ?_|refine stp ?_|with_reducible apply Z01<;>intro h)
       conv=>whnf
       exact⟨[],[0],rfl,⟨⟨rfl,rfl,rfl,rfl,BodyGe.z (Y07 (rest:=[]) rfl rfl)⟩,trivial⟩,rfl,rfl,.inl (Y01 rfl)⟩
     · have hcl:(exC (a::l)).length=(l.length+1)*4:=Z6K _
       simp only[exS,exB,exN]
       repeat' ((conv=>whnf);first|refine exI (g1 _ rfl) ?_|refine exI (g2 _ rfl) ?_|refine exI (g3 _ rfl) ?_|refine stp ?_|with_reducible apply Z01<;>intro h)
       conv=>whnf
       exact⟨[3],[0],rfl,⟨⟨rfl,rfl,rfl,rfl,BodyGe.z (Y07 (rest:=[]) rfl rfl)⟩,trivial⟩,rfl,rfl,.inr (ZhC (Z1t (n:=27) rfl hcl (Z5l _)))⟩
 · intro sn ι v h
   exact Zgv h
end
end Go.Proofs.YtneoiadnbikciaaGreatDoor.lex

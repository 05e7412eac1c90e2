/-
  Texts of this proof, one behind the other (part 4).
-/
import Derived.Test.YthbimonbnaodkaaGreatDoorXj3
import Derived.Test.YthbimonbnaodkaaGreatDoorRows
import Derived.KernelRfl
import Derived.Sort.KeysCollected
import Derived.Maps.OwnSet
set_option linter.unusedVariables false
set_option linter.unusedSimpArgs false
set_option maxRecDepth 100000
set_option maxHeartbeats 4000000
open Go.Proofs.Tryz renaming prog → Y00,func96 → Y0K,func100 → Y0L
open Go.Abs.Wk renaming noref → Y01,int → Y07
open List renaming take_succ_cons → Y02,take_zero → Y03,getElem?_eq_getElem → Y06,getElem_cons_succ → Y0a,getElem_cons_zero → Y0b,getElem?_eq_some_iff → Y0d,length_cons → Y0e,mem_cons → Y0f,map_cons → Y0i,all_eq_true → Y0j,drop_succ_cons → Y0l,take_length → Y0m,cons_append → Y0o,length_append → Y0p,getD_eq_getElem?_getD → Y0r,mem_of_getElem? → Y0t,drop_zero → Y0u,drop_eq_getElem_cons → Y0w,nil_append → Y0y,length_nil → Y0A,mem_append → Y0D,sum_cons → Y0E,getElem?_append_left → Y0F,ext_getElem? → Y0G,getElem?_set_ne → Y0H,getElem?_eq_none → Y0J,getElem_mem → Y0M,mem_singleton → Y0N,getElem?_set_self → Y0P,take_succ_eq_append_getElem → Y0Q
open Nat renaming beq → Y04,le_refl → Y05,eq_of_beq_eq_true → Y0c,zero_le → Y0g,zero_add → Y0q,lt_of_lt_of_le → Y0C
open Bool renaming and_eq_true → Y08,and_true → Y0s,eq_false_iff → Y0v,not_eq_true' → Y0x,true_and → Y0z,eq_iff_iff → Y0B,or_eq_true → Y0O
open And renaming intro → Y09
open Go.Abs.FgL renaming mk → Y0h,mk0 → Y0k
open Option renaming map_some → Y0n
open Go.Abs.BodyGe renaming cellsL → Y0I
section
namespace Go.Abs
open Go.RowKit
theorem Z3j {sn sn2 : Z0g} {ι : Z0f} {H : Z00} {W : World} (hobj : ∀ (b : Nat) (o : AObj) p, H[b]? = some o -> o.alive = true -> ι b = some p -> OR sn ι W o.body p) (hle : Le sn sn2 noI noI)
  (hcell:∀(b:Nat)(o:AObj) p,H[b]? = some o->o.alive=true -> ι b=some p->∀(off:Nat)(v:Value),W.cell? ⟨p.blk,off,none⟩=some v->sn2 ⟨p.blk,off,none⟩=some v) :
  ∀(n:Nat)(u r:AV)(v:Value),frz H n u=some r->VR sn ι u v->VR sn2 noI r v:=by
 intro n
 induction n with
 |zero=>intro u r v h;simp[frz]at h
 |succ n ih =>
  have cells:∀{b:Nat}{o:AObj}{p:Place}{cs l:List AV}{ty:TypeId}{off:Nat},H[b]? = some o->o.alive=true->o.body = .cells cs ty -> ι b=some p->Z0T (frz H n) (cs.drop off)=some l->MR sn2 l p.blk (p.sh+off):=by
   intro b o p cs l ty off ho ha hb hp hl
   obtain⟨_,h2⟩:=Z5z hl
   have hor:=hobj b o p ho ha hp
   rw[hb]at hor
   simp only[OR]at hor
   obtain⟨arr,k1,k2,k3,k4⟩:=hor
   refine Z2x λi x hx=>?_
   obtain⟨c,hc,hcx⟩:=h2 i x hx
   rw[List.getElem?_drop]at hc
   obtain⟨v,e1,e2⟩:=k4 (off+i) c hc
   refine⟨v,?_,ih c x v hcx e2⟩
   refine hcell b o p ho ha hp _ _ ?_
   rw[Z1A k1]
   rw[<- e1];congr 1;omega
  intro u r v h hv
  unfold frz at h
  split at h
  · rename_i b off
    split at h<;>try (simp at h;done)
    rename_i o ho
    split at h<;>try (simp at h;done)
    rename_i cs ty ha hb
    split at h<;>simp at h
    rename_i l hl
    subst h
    obtain⟨p,hp,rfl⟩:=hv.ptr
    simp only[VR]
    exact⟨_,_,rfl,cells ho ha hb hp hl⟩
  · rename_i b off len cap z
    obtain⟨p,a,cap',hp,rfl,h1,h2,h3⟩:=hv.slice
    split at h
    · simp at h;subst h
      simp only[VR]
      exact .inr ⟨a,cap',rfl,by omega,by simp,by simp[MR],λh=>absurd rfl h⟩
    · rename_i len
      split at h<;>try (simp at h;done)
      rename_i o ho
      split at h<;>try (simp at h;done)
      rename_i cs ty ha hb
      split at h<;>try (simp at h;done)
      rename_i cs' hcs
      split at h<;>simp at h
      rename_i l hl
      subst h
      obtain⟨ha',_⟩:=h3 (by omega)
      subst ha'
      obtain⟨e1,rfl⟩:=Z3Z hcs
      obtain⟨f1,f2⟩:=Z5z hl
      simp only[VR]
      refine .inr ⟨_,cap',rfl,by omega,?_,?_,λ_=>rfl⟩
      ·rw[f1,List.length_take];exact Nat.min_eq_left e1
      · have hor:=hobj b o p ho ha hp
        rw[hb]at hor
        simp only[OR]at hor
        obtain⟨arr,k1,k2,k3,k4⟩:=hor
        refine Z2x λi x hx=>?_
        obtain⟨c,hc,hcx⟩:=f2 i x hx
        rw[List.getElem?_take]at hc
        split at hc<;>try (simp at hc;done)
        rw[List.getElem?_drop]at hc
        obtain⟨v,g1,g2⟩:=k4 (off+i) c hc
        refine⟨v,?_,ih c x v hcx g2⟩
        refine hcell b o p ho ha hp _ _ ?_
        rw[Z1A k1]
        rw[<- g1];congr 1;simp only;omega
  · split at h<;>simp at h
    rename_i l hl;subst h
    obtain⟨d,rfl,h1⟩:=hv.agg
    exact Z3Y (Z0Y ih hl h1)
  · split at h<;>simp at h
    rename_i l hl;subst h
    obtain⟨d,rfl,h1⟩:=hv.tuple
    exact Z4k (Z0Y ih hl h1)
  · split at h<;>simp at h
    rename_i x hx;subst h
    obtain⟨y,rfl,h1⟩:=hv.iface
    simp only[VR];exact⟨y,rfl,ih _ _ _ hx h1⟩
  · split at h<;>simp at h
    rename_i f c hf hc;subst h
    obtain⟨x,y,rfl,h1,h2⟩:=hv.func
    simp only[VR];exact⟨x,y,rfl,Z0Y ih hf h1,Z0Y ih hc h2⟩
  ·simp at h
  · rename_i e1 e2 e3 e4 e5 e6 e7
    simp at h;subst h
    cases u with
    |ptr b o=>exact (e1 _ _ rfl).elim
    |slice b o l c z=>exact (e2 _ _ _ _ _ rfl).elim
    |agg cs=>exact (e3 _ rfl).elim
    |tuple cs=>exact (e4 _ rfl).elim
    |iface t v=>exact (e5 _ _ rfl).elim
    |func fn f c=>exact (e6 _ _ _ rfl).elim
    |map b=>exact (e7 _ rfl).elim
    |_=>exact Z0Z (ι:=noI) hle _ _ (Z1n (ι:=ι) _ [] _ (λb hb=>by simp[Z1o]at hb) hv)
theorem ZlP{m:List Nat}{H H2:Z00}(hp:HpGe H m m H2 0)(hfam:Z0L (m.map (Z0e H))=true){sn:Z0g}{ι : Z0f}{W:World}(hR:R sn ι H W):R sn (iot m ι) H2 W:=by
 obtain⟨hl,hg⟩:=hp.get
 have at2:∀{b:Nat}{o2:AObj}{p:Place},H2[b]? = some o2->iot m ι b=some p->∃j o,m[b]? = some j/\H[j]? = some o /\ ι j=some p/\o.alive=true/\o2.alive=true/\o2.fam=b/\o2.sh=o.sh/\BodyGe m o.body o2.body:=by
  intro b o2 p hb hp
  obtain⟨j,o,o2',x1,x2,x3,x4,x5,x6,x7,x8⟩:=hg b (by rw[<- hl];exact (Y0d.1 hb).1)
  rw[hb]at x3;simp at x3;subst x3
  simp only[iot,x1]at hp
  exact⟨j,o,x1,x2,hp,x4,x5,by omega,x7,x8⟩
 have hR2:R sn (iot m ι) H2 W:=by
  refine⟨λb=>⟨λhb=>?_,λ⟨p,hp⟩=>?_⟩,λb p hp=>?_,λb o2 p hb ha hp=>?_,λb b' o o' p p' hb hb' ha ha' hp hp' e=>?_,λad v hv=>?_,λb o2 p hb hp e=>?_⟩
  · obtain⟨j,o,o2,x1,x2,_⟩:=hg b (by omega)
    obtain⟨p,hp⟩:=hR.place x2
    exact⟨p,by simp only[iot,x1];exact hp⟩
  · unfold iot at hp
    split at hp
    ·rename_i j hj;rw[hl];exact (Y0d.1 hj).1
    ·cases hp
  · unfold iot at hp
    split at hp
    ·exact hR.blk _ p hp
    ·cases hp
  · obtain⟨j,o,x1,x2,x3,x4,x5,x6,x7,x8⟩:=at2 hb hp
    exact x8.or (hR.obj j o p x2 x4 x3)
  · obtain⟨j,q,x1,x2,x3,x4,x5,x6,x7,x8⟩:=at2 hb hp
    obtain⟨j',q',y1,y2,y3,y4,y5,y6,y7,y8⟩:=at2 hb' hp'
    have hs:=hR.sep j j' q q' p p' x2 y2 x4 y4 x3 y3 e
    have:b=b':=Z62 (l:=m.map (Z0e H)) (x:=q.fam) hfam (by simp[x1,Z0e,x2]) (by simp[y1,Z0e,y2,hs.1])
    subst this
    exact⟨by rw[x6,y6],by rw[x7,y7];exact hs.2⟩
  · obtain⟨h1,h2,h3⟩:=hR.snap ad v hv
    refine⟨h1,h2,λb o2 p hb ha hp=>?_⟩
    obtain⟨j,o,x1,x2,x3,x4,_⟩:=at2 hb hp
    exact h3 j o p x2 x4 x3
  · obtain⟨j,o,x1,x2,x3,x4,x5,x6,x7,x8⟩:=at2 hb hp
    exact hR.shz j o p x2 x3 (by omega)
 exact hR2
def Z5U(m:List Nat)(H:Z00):Z00:=kil (λi _=>mem i m) 0 H
theorem Z76{m:List Nat}{H:Z00}{b:Nat}{o:AObj}(h:(Z5U m H)[b]? = some o)(ha:o.alive=true):H[b]? = some o/\b ∉ m:=by
 unfold Z5U at h
 rw[Z2Y]at h
 cases hx:H[b]? with
 |none=>rw[hx]at h;cases h
 |some x =>
  rw[hx]at h
  simp only[Y0n,Option.some.injEq,Y0q]at h
  split at h
  ·subst h;simp[AObj.dead]at ha
  · rename_i hm
    subst h
    exact⟨rfl,λhb=>hm (Z0W.2 hb)⟩
theorem ZdU (m : List Nat) (Hs : Z00) : ∀ (H : Z00) (i b : Nat), (ZdV m Hs i H)[b]? = (H[b]?).map fun o => match Z0Q m (i + b) 0 with
  |some j=>match Hs[j]? with
   |some o'=>{ o with alive:=o'.alive,body:=Z36 (λb=>m.getD b 0) o'.body }
   |none=>o
  |none=>o
 |[],i,b=>by simp[ZdV]
 |o::H,i,0=>by
  simp only[ZdV,List.getElem?_cons_zero,Y0n,Nat.add_zero]<;>rfl
 |o::H,i,b+1=>by
  simp only[ZdV,List.getElem?_cons_succ]
  rw[ZdU m Hs H (i+1) b,show i+1+b=i+(b+1) by omega]
theorem ZfU {sn sn2 : Z0g} {ι : Z0f} {H : Z00} {W : World} {m : List Nat} (hobj : ∀ (b : Nat) (o : AObj) p, H[b]? = some o -> o.alive = true -> ι b = some p -> OR sn ι W o.body p) (hle : Le sn sn2 noI noI)
  (hcell:∀(b:Nat)(o:AObj) p,H[b]? = some o->o.alive=true -> ι b=some p->∀(off:Nat)(v:Value),W.cell? ⟨p.blk,off,none⟩=some v->sn2 ⟨p.blk,off,none⟩=some v) :
  ∀(n:Nat)(u r:AV)(v:Value),Z4A m H n u=some r->VR sn ι u v->VR sn2 (iot m ι) r v:=by
 have lift:∀{r:AV}{v:Value},VR sn2 noI r v->VR sn2 (iot m ι) r v:=λh=>Z0Z ⟨λ_ _ h=>h,λb p h=>by simp[noI]at h⟩ _ _ h
 have at_:∀{b i:Nat},Z0Q m b 0=some i->∀p,ι b=some p->iot m ι i=some p:=λh p hp=>by
  have:=(Z27 h).2
  simp only[Nat.sub_zero]at this
  simp only[iot,this];exact hp
 intro n
 induction n with
 |zero=>intro u r v h;simp[Z4A]at h
 |succ n ih =>
  intro u r v h hv
  unfold Z4A at h
  split at h
  · split at h
    · rename_i b off i hi
      simp at h;subst h
      obtain⟨p,hp,rfl⟩:=hv.ptr
      simp only[VR];exact⟨p,at_ hi p hp,rfl⟩
    ·exact lift (Z3j hobj hle hcell 30 _ _ _ h hv)
  · split at h
    · rename_i b off len cap z i hi
      simp at h;subst h
      obtain⟨p,a,cap',hp,h1⟩:=hv.slice
      simp only[VR];exact⟨p,a,cap',at_ hi p hp,h1⟩
    ·exact lift (Z3j hobj hle hcell 30 _ _ _ h hv)
  · split at h
    · rename_i b i hi
      simp at h;subst h
      simp only[VR]at hv⊢
      obtain⟨p,hp,h1⟩:=hv
      exact⟨p,at_ hi p hp,h1⟩
    ·cases h
  · split at h<;>simp at h
    rename_i f c hf hc;subst h
    obtain⟨x,y,rfl,h1,h2⟩:=hv.func
    have each:∀{l l':List AV}{vs:List Value},Z0T (Z4A m H n) l=some l'->LR sn ι l vs->LR sn2 (iot m ι) l' vs:=by
     intro l
     induction l with
     |nil=>intro l' vs h e;simp[Z0T]at h;subst h;simpa[LR]using e
     |cons c l ih2 =>
      intro l' vs h e
      simp only[Z0T]at h
      split at h<;>simp at h
      rename_i x y hx hy
      subst h
      simp only[LR]at e⊢
      obtain⟨d,ds,rfl,h1,h2⟩:=e
      exact⟨d,ds,rfl,ih _ _ _ hx h1,ih2 hy h2⟩
    simp only[VR];exact⟨x,y,rfl,each hf h1,each hc h2⟩
  ·exact lift (Z3j hobj hle hcell 30 _ _ _ h hv)
theorem Z4P {sn sn2 : Z0g} {ι : Z0f} {H : Z00} {W : World} {m : List Nat} (hobj : ∀ (b : Nat) (o : AObj) p, H[b]? = some o -> o.alive = true -> ι b = some p -> OR sn ι W o.body p) (hle : Le sn sn2 noI noI)
  (hcell:∀(b:Nat)(o:AObj) p,H[b]? = some o->o.alive=true -> ι b=some p->∀(off:Nat)(v:Value),W.cell? ⟨p.blk,off,none⟩=some v->sn2 ⟨p.blk,off,none⟩=some v) (n:Nat) :
  ∀(us rs:List AV)(vs:List Value),Z0T (Z4A m H n) us=some rs->LR sn ι us vs->LR sn2 (iot m ι) rs vs
 |[],rs,vs,h,e=>by simp[Z0T]at h;subst h;simpa[LR]using e
 |u::us,rs,vs,h,e=>by
  simp only[Z0T]at h
  split at h<;>simp at h
  rename_i x y hx hy
  subst h
  simp only[LR]at e⊢
  obtain⟨d,ds,rfl,h1,h2⟩:=e
  exact⟨d,ds,rfl,ZfU hobj hle hcell n _ _ _ hx h1,Z4P hobj hle hcell n us y ds hy h2⟩
theorem Z5s:∀{H:Z00}{i:Nat}{o:AObj},Zbc H=true->H[i]? = some o->ZcU o.body=true
 |[],i,o,h,e=>by simp at e
 |x::H,0,o,h,e=>by simp[Zbc]at h e;subst e;exact h.1
 |x::H,i+1,o,h,e=>by simp[Zbc]at h e;exact Z5s h.2 e
theorem Zbg {P : Program} {gl : Z0o} {f : Nat} {Hs Hs' Hc : Z00} {fargs cargs : List AV} {r : AV} {m : List Nat} {n : Nat} (hM : Z10 P gl f fargs Hs r Hs') (hargs : Z0T (Z4A m (Z5U m Hc) n) cargs = some fargs) (hsub : HpGe Hc m m Hs 0)
  (hnd:Z0L (m.map (Z0e Hc))=true) (hlone:ZhE m (m.map (Z0e Hc)) 0 Hc=true) (hev:Zj1 m.length Hs Hs'=true) (hro:Zbc Hs'=true) (hrr:Zck r=true) (hrk:Z0J m.length (Z1o r [])=true) :
  Z10 P gl f cargs Hc (ren (λb=>m.getD b 0) r) (ZdV m Hs' 0 Hc):=by
 intro sn ι W vargs hg hR hl
 obtain⟨hl1,hg1⟩:=hsub.get
 obtain⟨hl2,hg2⟩:=Zae hev
 have inm:∀b,b∈m->∃ (i:Nat) (o o2:AObj) (p:Place),m[i]? = some b/\Hc[b]? = some o/\Hs[i]? = some o2/\o.alive=true/\o2.alive=true /\ ι b=some p:=by
  intro b hb
  obtain⟨i,hi,rfl⟩:=List.mem_iff_getElem.1 hb
  obtain⟨j,o,o2,x1,x2,x3,x4,x5,_⟩:=hg1 i hi
  rw[Y06 hi]at x1
  cases x1
  obtain⟨p,hp⟩:=hR.place x2
  exact⟨i,o,o2,p,Y06 hi,x2,x3,x4,x5,hp⟩
 have apart_:∀(b:Nat)(o:AObj)(p:Place),Hc[b]? = some o->o.alive=true->b ∉ m -> ι b=some p->∀b' p',b'∈m -> ι b'=some p'->p'.blk≠p.blk:=by
  intro b o p ho hoa hb hp b' p' hb' hp' e
  obtain⟨i,o',o2,q,y1,y2,y3,y4,y5,y6⟩:=inm b' hb'
  have hs:=hR.sep b b' o o' p p' ho y2 hoa y4 hp hp' e.symm
  rcases Zbh hlone ho with h|h
  ·exact hb (by simpa using h)
  · refine h ?_
    rw[List.mem_map]
    exact⟨b',hb',by simp only[Z0e,y2];exact hs.1.symm⟩
 let q:Nat->Prop:=λc=>∃b p,b∈m /\ ι b=some p/\p.blk=c
 let sn2:Z0g:=λa=>open Classical in if q a.block\/¬a.block<W.heap.size then none else W.cell? a
 have hsn2:∀a v,sn2 a=some v->¬q a.block/\a.block<W.heap.size/\W.cell? a=some v:=λa v h=>by
  have h:(open Classical in if q a.block\/¬a.block<W.heap.size then none else W.cell? a)=some v:=h
  split at h
  ·cases h
  · rename_i hx
    simp only[not_or,Classical.not_not]at hx
    exact⟨hx.1,hx.2,h⟩
 have hsn2':∀a v,¬q a.block->a.block<W.heap.size->W.cell? a=some v->sn2 a=some v:=λa v h1 h2 h3=>by
  show (open Classical in if q a.block\/¬a.block<W.heap.size then none else W.cell? a)=some v
  rw[if_neg (by simp only[not_or,Classical.not_not];exact⟨h1,h2⟩)];exact h3
 have hle:∀a v,sn a=some v->sn2 a=some v:=λa v hv=>by
  obtain⟨h1,h2,h3⟩:=hR.snap a v hv
  refine hsn2' a v ?_ h1 h2
  rintro⟨b,p,hb,hp,e⟩
  obtain⟨i,o,o2,p',y1,y2,y3,y4,y5,y6⟩:=inm b hb
  exact h3 b o p y2 y4 hp e
 have hR0:=ZlP hsub hnd hR
 have atm:∀{i:Nat}{p:Place},iot m ι i=some p->∃b,m[i]? = some b/\b∈m /\ ι b=some p:=λ{i p} hp=>by
  unfold iot at hp
  split at hp
  ·rename_i b hb;exact⟨b,hb,Y0t hb,hp⟩
  ·cases hp
 have hRs:R sn2 (iot m ι) Hs W:=by
  refine⟨hR0.dom,hR0.blk,λb o p hb ha hp=>Z0P ⟨hle,λ_ _ h=>h⟩ rfl (hR0.obj b o p hb ha hp),hR0.sep,λa v hv=>?_,hR0.shz⟩
  obtain⟨h1,h2,h3⟩:=hsn2 a v hv
  refine⟨h2,h3,λb o p hb ha hp e=>?_⟩
  obtain⟨c,_,hc,hp'⟩:=atm hp
  exact h1 ⟨c,p,hc,hp',e⟩
 have hla:LR sn2 (iot m ι) fargs vargs:=by
  refine Z4P (H:=Z5U m Hc) (W:=W) (λb o p hb ha hp=>?_) (Z8n hle) (λb o p hb ha hp off v hv=>?_) n _ _ _ hargs hl
  ·exact hR.obj b o p (Z76 hb ha).1 ha hp
  · obtain⟨h1,h2⟩:=Z76 hb ha
    refine hsn2' _ v ?_ (hR.blk b p hp) hv
    rintro⟨b',p',hb',hp',e⟩
    exact apart_ b o p h1 ha h2 hp b' p' hb' hp' e
 refine (hM sn2 (iot m ι) W vargs (hg.mono (Z8n hle)) hRs hla).mono ?_
 rintro e W' ⟨v,sn',ι',rfl,hv,hst⟩
 have hback:∀i,i<m.length->∀p,ι' i=some p -> ι (m.getD i 0)=some p:=λi hi p hp=>by
  obtain⟨b,hb⟩:∃b,m[i]? = some b:=⟨m[i],Y06 hi⟩
  obtain⟨p0,hp0⟩:=(hRs.dom i).1 (by omega)
  have h1:=hst.le.ι i p0 hp0
  rw[hp]at h1;cases h1
  obtain⟨c,hc,_,hp1⟩:=atm hp0
  rw[hb]at hc;cases hc
  rw[Y0r,hb];exact hp1
 have hfwd:∀(i b:Nat)(p:Place),m[i]? = some b -> ι b=some p -> ι' i=some p:=λi b p hb hp=>hst.le.ι i p (by simp only[iot,hb];exact hp)
 have pos_:∀b,b∈m->∃i,Z0Q m b 0=some i/\m[i]? = some b:=λb hb=>by
  cases hx:Z0Q m b 0 with
  |none=>exact (Z5m hx hb).elim
  |some i=>exact⟨i,rfl,by simpa using (Z27 hx).2⟩
 have old:∀(b:Nat)(o:AObj)(p:Place),Hc[b]? = some o->o.alive=true->b ∉ m -> ι b=some p->W'.heap[p.blk]? = W.heap[p.blk]?:=λb o p ho hoa hb hp=>by
  refine hst.frame _ (hR.blk b p hp) λi o2 p2 hi ha hp2 e=>?_
  obtain⟨c,_,hc,hp3⟩:=atm hp2
  exact apart_ b o p ho hoa hb hp c p2 hc hp3 e
 have hup:∀(b:Nat)(o':AObj),(ZdV m Hs' 0 Hc)[b]? = some o'->∃o,Hc[b]? = some o/\o'.fam=o.fam/\o'.sh=o.sh/\((b ∉ m/\o'=o)\/∃ (i:Nat) (x:AObj),m[i]? = some b/\Hs'[i]? = some x/\o'.alive=x.alive/\o'.body=Z36 (λb=>m.getD b 0) x.body/\o.alive=true):=by
  intro b o' h
  rw[ZdU]at h
  simp only[Y0q]at h
  cases hx:Hc[b]? with
  |none=>rw[hx]at h;cases h
  |some o =>
   rw[hx]at h
   simp only[Y0n,Option.some.injEq]at h
   refine⟨o,rfl,?_⟩
   by_cases hb:b∈m
   · obtain⟨i,h1,h2⟩:=pos_ b hb
     have hi:i<m.length:=(Y0d.1 h2).1
     have hi':i<Hs'.length:=by omega
     rw[h1]at h
     simp only[Y06 hi']at h
     subst h
     obtain⟨_,y,_,_,_,y2,_,y4,_⟩:=inm b hb
     rw[hx]at y2;cases y2
     exact⟨rfl,rfl,.inr ⟨i,Hs'[i],h2,Y06 hi',rfl,rfl,y4⟩⟩
   · have hn : Z0Q m b 0 = none := by
      cases hx:Z0Q m b 0 with
      |none=>rfl
      |some i=>exact (hb (Y0t (Z27 hx).2)).elim
     rw[hn]at h
     subst h
     exact⟨rfl,rfl,.inl ⟨hb,rfl⟩⟩
 have hlen:(ZdV m Hs' 0 Hc).length=Hc.length:=by
  have:∀(H:Z00)(i:Nat),(ZdV m Hs' i H).length=H.length:=by
   intro H
   induction H with
   |nil=>intro i;rfl
   |cons o H ih=>intro i;simp[ZdV,ih]
  exact this _ _
 have hnr:∀c,c<W.heap.size->(∀(b:Nat)(o:AObj) p,Hc[b]? = some o->o.alive=true -> ι b=some p->p.blk≠c)->W'.heap[c]? = W.heap[c]?:=λc hc hno=>by
  refine hst.frame c hc λi o2 p2 hi ha hp2 e=>?_
  obtain⟨b,_,hb,hp3⟩:=atm hp2
  obtain⟨_,o,_,_,_,y2,_,y4,_⟩:=inm b hb
  exact hno b o p2 y2 y4 hp3 e
 have hR':R sn ι (ZdV m Hs' 0 Hc) W':=by
  refine⟨λb=>by rw[hlen];exact hR.dom b,λb p hp=>Y0C (hR.blk b p hp) hst.size,λb o' p hb ha hp=>?_,λb b' o o' p p' hb hb' ha ha' hp hp' e=>?_,λa v hv=>?_,λb o' p hb hp e=>?_⟩
  · obtain⟨o,ho,_,_,h|⟨i,x,h1,h2,h3,h4,h5⟩⟩:=hup b o' hb
    · obtain⟨h1,rfl⟩:=h
      exact Z0P (Le.refl _ _) (old b _ p ho ha h1 hp) (hR.obj b _ p ho ha hp)
    · rw[h4]
      have hi:i<m.length:=(Y0d.1 h1).1
      have h6:=hst.rel.obj i x p h2 (by rw[<- h3];exact ha) (hfwd i b p h1 hp)
      have h7:=(hg2 i _ x (Y06 (by omega)) h2).2.2.2
      exact Z8i x.body (Z3M x.body p (λy hy=>hback y (Z0N h7 y hy)) (ZdG x.body (Z5s hro h2) h6))
  · obtain⟨x,hx,e1,e2,hz⟩:=hup b o hb
    obtain⟨y,hy,e3,e4,hw⟩:=hup b' o' hb'
    have hxa:x.alive=true:=by
     rcases hz with ⟨_,rfl⟩|⟨_,_,_,_,_,_,h⟩
     ·exact ha
     ·exact h
    have hya:y.alive=true:=by
     rcases hw with ⟨_,rfl⟩|⟨_,_,_,_,_,_,h⟩
     ·exact ha'
     ·exact h
    have:=hR.sep b b' x y p p' hx hy hxa hya hp hp' e
    rw[e1,e2,e3,e4];exact this
  · obtain⟨h1,h2,h3⟩:=hR.snap a v hv
    refine⟨Y0C h1 hst.size,?_,λb o' p hb ha hp=>?_⟩
    ·rw[<- h2];exact World.cell?_of_block (hnr _ h1 h3)
    · obtain⟨o,ho,_,_,h|⟨i,x,_,_,_,_,h5⟩⟩:=hup b o' hb
      ·obtain⟨_,rfl⟩:=h;exact h3 b _ p ho ha hp
      ·exact h3 b o p ho h5 hp
  · obtain⟨o,ho,_,e2,_⟩:=hup b o' hb
    exact hR.shz b o p ho hp (by rw[<- e2];exact e)
 refine⟨v,sn,ι,rfl,?_,hR',Le.refl _ _,λ_ _ h=>.inl h,hnr,hst.size,hst.os,hst.tape,hst.output,λ_ _ h=>.inl h,λb o hb=>?_⟩
 ·exact (Z4G r v).2 (Z1n r [] v (λy hy=>hback y (Z0N hrk y hy)) (Z4j r v hrr hv))
 · have hb':b<(ZdV m Hs' 0 Hc).length:=by rw[hlen];exact (Y0d.1 hb).1
   have hx:=Y06 hb'
   obtain⟨x,hx1,e1,e2,h|⟨i,y,h1,h2,h3,h4,h5⟩⟩:=hup b _ hx
   · rw[hb]at hx1;cases hx1
     exact⟨_,hx,e1,e2,λha=>by rw[h.2]at ha;exact ha⟩
   · rw[hb]at hx1;cases hx1
     exact⟨_,hx,e1,e2,λ_=>h5⟩
end Go.Abs
end
namespace Go.Proofs.YthbimonbnaodkaaGreatDoor.lex
open Go.Abs Go.RowKit
section
theorem follows:Y00.follows .mixedOrders=true:=by kernel_rfl
theorem Z9L:(Y00.funcs.toList.all λfn=>!(fn.name == "runtime.NumGoroutine"))=true:=by kernel_rfl
theorem Z07:NoNum Y00:=⟨λg fn h=>by
 have h1:=Y0j.1 Z9L fn (Array.mem_toList_iff.2 (Array.mem_of_getElem? h))
 simpa using h1,of_decide_eq_true (by kernel_rfl)⟩
variable {gl:Z0o}
theorem Z06:OrcSound Y00 gl (Zl8 λ_ _=>none):=Z5Z λ_ _ _ h=>by cases h
def ZeE(n:Int):Bool:=decide (97<=n)&&decide (n<=122) || decide (65<=n)&&decide (n<=90)
def Zag(n:Int):Bool:=decide (48<=n)&&decide (n<=57)
theorem Zo0(n:Int):ValOK Y00 gl 228 [.int .u8 n] (.bool (ZeE n)):=by
 refine Z05 follows Z07 Z06 Tryz.func228 rfl ?_
 repeat' ((conv=>whnf);first|refine stp ?_|with_reducible apply Z01<;>intro h)
 all_goals (try simp_all[Z1C,ZeE])
 all_goals omega
theorem Zof(n:Int):ValOK Y00 gl 231 [.int .u8 n] (.bool (Zag n)):=by
 refine Z05 follows Z07 Z06 Tryz.func231 rfl ?_
 repeat' ((conv=>whnf);first|refine stp ?_|with_reducible apply Z01<;>intro h)
 all_goals (try simp_all[Z1C,Zag])
 all_goals omega
theorem Zmw(n:Int):ValOK Y00 gl 211 [.int .u8 n] (.bool (ZeE n)):=by
 refine Z05 follows Z07 Z06 Tryz.func211 rfl ?_
 repeat' ((conv=>whnf);first|refine stp ?_|with_reducible apply Z01<;>intro h)
 all_goals (try simp_all[Z1C,ZeE])
 all_goals omega
theorem ZmX(n:Int):ValOK Y00 gl 212 [.int .u8 n] (.bool (Zag n)):=by
 refine Z05 follows Z07 Z06 Tryz.func212 rfl ?_
 repeat' ((conv=>whnf);first|refine stp ?_|with_reducible apply Z01<;>intro h)
 all_goals (try simp_all[Z1C,Zag])
 all_goals omega
def F1(f:Nat)(xs:List AV):Option AV:=match f with
 |228=>match xs with|[.int .u8 n]=>some (.bool (ZeE n))|_=>none
 |231=>match xs with|[.int .u8 n]=>some (.bool (Zag n))|_=>none
 |211=>match xs with|[.int .u8 n]=>some (.bool (ZeE n))|_=>none
 |212=>match xs with|[.int .u8 n]=>some (.bool (Zag n))|_=>none
 |_=>none
theorem ZiQ{f:Nat}{xs:List AV}{r:AV}(h:F1 f xs=some r):plain r=true/\ValOK Y00 gl f xs r:=by
 unfold F1 at h
 split at h<;>try (cases h;done)
 all_goals (split at h<;>cases h)
 ·exact⟨rfl,Zo0 _⟩
 ·exact⟨rfl,Zof _⟩
 ·exact⟨rfl,Zmw _⟩
 ·exact⟨rfl,ZmX _⟩
theorem Zfi:OrcSound Y00 gl (Z9K F1):=Z1z λf xs r h=>ZiQ h
def Z8k(n:Int):Bool:=ZeE n || Zag n || n==95
theorem Zj6(n:Int):ValOK Y00 gl 230 [.int .u8 n] (.bool (Z8k n)):=by
 refine Z05 follows Z07 Zfi Tryz.func230 rfl ?_
 repeat' ((conv=>whnf);first|refine stp ?_|with_reducible apply Z01<;>intro h)
 all_goals (try simp_all[Z1C,Z8k])
def F2(f:Nat)(xs:List AV):Option AV:=match f with
 |230=>match xs with|[.int .u8 n]=>some (.bool (Z8k n))|_=>none
 |f=>F1 f xs
theorem Zlt{f:Nat}{xs:List AV}{r:AV}(h:F2 f xs=some r):plain r=true/\ValOK Y00 gl f xs r:=by
 unfold F2 at h
 split at h
 · split at h<;>cases h
   exact⟨rfl,Zj6 _⟩
 ·exact ZiQ h
theorem ZkU:OrcSound Y00 gl (Z9K F2):=Z1z λf xs r h=>Zlt h
def Z3y(p:Int->Bool)(s:List UInt8):Nat:=(s.takeWhile λc=>p c.toNat).length
theorem Z8N{p:Int->Bool}{c:UInt8}(l:List UInt8)(h:p c.toNat=true):Z3y p (c::l)=Z3y p l+1:=by simp[Z3y,h]
theorem Z7r{p:Int->Bool}{c:UInt8}(l:List UInt8)(h:p c.toNat=false):Z3y p (c::l)=0:=by simp[Z3y,h]
theorem ZlU (g : Nat) (p : Int -> Bool) (hF : ∀ n, F2 g [.int .u8 n] = some (.bool (p n))) (hb : Z0l Y00 g = true) (s : List UInt8) (hs : s.length <= 9223372036854775807) :
  ValOK Y00 gl 229 [.str s,.func (.func g) [] []] (.int .i64 (Z3y p s)):=by
 refine Z05 follows Z07 ZkU Tryz.func229 rfl ?_
 conv=>whnf
 refine⟨Nat,(λk=>k<=s.length/\Z3y p s=k+Z3y p (s.drop k)),(λk=>[(0,.str s),(1,.func (.func g) [] []),(5,.int .i64 k)]),(λ_=>[]),(λk=>s.length-k),⟨0,⟨Y0g _,by simp⟩,?_⟩,?_⟩
 · refine Y0k rfl ?_
   refine Y09 (Y01 rfl) ?_
   refine Y09 (Y01 rfl) ?_
   refine Y09 (Y01 rfl) ?_
   trivial
 · intro k ⟨hk,hsp⟩
   by_cases hlt:k<s.length
   · have e1:decide ((k:Int)<(s.length:Int))=true:=by simpa using hlt
     have hc:s[k]? = some s[k]:=by simp[hlt]
     have hd:s.drop k=s[k]::s.drop (k+1):=Y0w hlt
     cases hp:p s[k].toNat with
     |true =>
      repeat' ((conv=>whnf);first|with_reducible refine ixS _ rfl hc ?_|with_reducible refine exI (Zaj hb rfl (hF _)) ?_|refine stp ?_|with_reducible apply Z01<;>intro h)
      (conv=>whnf)
      have hn:=Z8N (s.drop (k+1)) hp
      rw[<- hd]at hn
      exact⟨k+1,⟨hlt,by omega⟩,by show s.length-(k+1)<s.length-k;omega,Y0k rfl ⟨Y01 rfl,Y01 rfl,Y07 rfl,trivial⟩⟩
     |false =>
      repeat' ((conv=>whnf);first|with_reducible refine ixS _ rfl hc ?_|with_reducible refine exI (Zaj hb rfl (hF _)) ?_|refine stp ?_|with_reducible apply Z01<;>intro h)
      have hn:=Z7r (s.drop (k+1)) hp
      rw[<- hd]at hn
      rw[hsp,hn];rfl
   · have e1:decide ((k:Int)<(s.length:Int))=false:=by simpa using hlt
     have hk':k=s.length:=by omega
     repeat' ((conv=>whnf);first|refine stp ?_|with_reducible apply Z01<;>intro h)
     rw[hsp,hk'];simp[Z1C,Z3y]
theorem Ze2{p:Int->Bool}{s:List UInt8}{e:Nat}(h:e<s.length):Z3y p (s.drop e)=if p s[e].toNat then Z3y p (s.drop (e+1))+1 else 0:=by
 rw[Y0w h]
 cases hp:p s[e].toNat with
 |true=>rw[Z8N _ hp];rfl
 |false=>rw[Z7r _ hp];rfl
theorem ZgF{p:Int->Bool}{s:List UInt8}{e:Nat}(h:¬e<s.length):Z3y p (s.drop e)=0:=by
 rw[List.drop_eq_nil_of_le (by omega)];rfl
theorem ZlI(c:UInt8)(n:Nat)(h:n<256):((c.toNat:Int)==(n:Int))=(c==UInt8.ofNat n):=by
 by_cases e:c=UInt8.ofNat n
 ·subst e;simp;omega
 · have:c.toNat≠n:=λe'=>e (by apply UInt8.toNat_inj.1;rw[e'];simp[Nat.mod_eq_of_lt h])
   rw[beq_eq_false_iff_ne.2 e,beq_eq_false_iff_ne];omega
def F3(f:Nat)(xs:List AV):Option AV:=match f with
 |229=>match xs with
  |[.str s,.func (.func 230) [] []]=>if s.length<=9223372036854775807 then some (.int .i64 (Z3y Z8k s)) else none
  |_=>none
 |f=>F2 f xs
theorem Zls{f:Nat}{xs:List AV}{r:AV}(h:F3 f xs=some r):plain r=true/\ValOK Y00 gl f xs r:=by
 unfold F3 at h
 split at h
 · split at h<;>try (cases h;done)
   split at h<;>cases h
   rename_i hs
   exact⟨rfl,ZlU 230 Z8k (λ_=>rfl) (by kernel_rfl) _ hs⟩
 ·exact Zlt h
theorem Zfh:OrcSound Y00 gl (Z9K F3):=Z1z λf xs r h=>Zls h
def Z3X:List UInt8->Nat
 |[]=>0
 |c::s=>if ZeE c.toNat then Z3y Z8k (c::s) else 0
theorem Zlz(s:List UInt8)(hs:s.length<=9223372036854775807):ValOK Y00 gl 226 [.str s] (.int .i64 (Z3X s)):=by
 match s with
 |[] =>
  refine Z05 follows Z07 Zfh Tryz.func226 rfl ?_
  repeat' ((conv=>whnf);first|refine stp ?_|with_reducible apply Z01<;>intro h)
  all_goals (try simp_all[Z1C,Z3X])
 |c::s =>
  have h1:((c::s)==[])=false:=by simp
  have h2:(c::s)[0]? = some c:=rfl
  refine Z05 follows Z07 Zfh Tryz.func226 rfl ?_
  repeat' ((conv=>whnf);first|with_reducible refine ixS 0 rfl h2 ?_|refine stp ?_|with_reducible apply Z01<;>intro h)
  all_goals (try (simp_all[Z1C,Z3X];done))
def keysL:List (List UInt8):=[[115,104,97,114,101,100],[112,108,97,105,110],[116,104,114,101,97,100],[105,102],[101,108,115,101],[119,104,105,108,101],[108,111,97,100],[115,116,111,114,101],[99,97,115],[97,100,100],[115,119,97,112],[102,101,110,99,101],[97,115,115,117,109,101],[97,115,115,101,114,116],[110,97],[114,108,120],[97,99,113],[114,101,108],[97,114],[115,99]]
def Zij:Nat->List (List UInt8)->List (AV×AV×Nat)
 |_,[]=>[]
 |n,k::l=>(.str k,.agg [],n)::Zij (n+1) l
theorem Zib(x:List UInt8):∀(l:List (List UInt8))(n i:Nat),∃o,Z8w .string (.str x) (Zij n l) i=some o/\o.isSome=l.contains x/\∀p,o=some p->p.2 = .agg []
 |[],n,i=>⟨none,rfl,by simp,λp h=>by cases h⟩
 |k::l,n,i=>by
  obtain⟨o,h1,h2,h3⟩:=Zib x l (n+1) (i+1)
  by_cases e:x=k
  · subst e
    exact⟨some (i,.agg []),by simp[Zij,Z8w,Zc4],by simp,λp h=>by cases h;rfl⟩
  · refine⟨o,?_,by simp[h2,e],h3⟩
    have:(x==k)=false:=by simpa using e
    simp[Zij,Z8w,Zc4,this,h1]
theorem kdK:Z7M Y00 263=some (.string,261):=by kernel_rfl
theorem Z74{H:Z00}{b:Nat}(x:List UInt8)(h:Zml H (.map b)=some (Zij 0 keysL)):Z6k Y00 263 (.map b) (.str x) true H=some (.tuple [.agg [],.bool (keysL.contains x)]):=by
 obtain⟨o,h1,h2,h3⟩:=Zib x keysL 0 0
 have hz:Z2k Y00 261=some (.agg []):=by kernel_rfl
 simp only[Z6k,kdK,h,h1,<- h2]
 cases o with
 |none=>simp[hz]
 |some p=>have:=h3 p rfl;obtain⟨j,v⟩:=p;subst this;simp
def Z3t(s:List UInt8):AV:=if s≠[]/\Z3X s=s.length then .tuple [.int .i64 (if keysL.contains s then 2 else 1),.bool true] else .tuple [.int .i64 0,.bool false]
def F4(f:Nat)(xs:List AV):Option AV:=match f with
 |226=>match xs with|[.str s]=>if s.length<=9223372036854775807 then some (.int .i64 (Z3X s)) else none|_=>none
 |f=>F3 f xs
theorem Zoz{f:Nat}{xs:List AV}{r:AV}(h:F4 f xs=some r):plain r=true/\ValOK Y00 gl f xs r:=by
 unfold F4 at h
 split at h
 · split at h<;>try (cases h;done)
   split at h<;>cases h
   rename_i hs;exact⟨rfl,Zlz _ hs⟩
 ·exact Zls h
theorem ZkT:OrcSound Y00 gl (Z9K F4):=Z1z λf xs r h=>Zoz h
section
attribute [local irreducible] Z3X
theorem Zj4(s:List UInt8)(hs:s.length<=9223372036854775807):ValOK Y00 gl 221 [.str s] (Z3t s):=by
 have e2:F4 226 [.str s]=some (.int .i64 (Z3X s)):=by simp only[F4];rw[if_pos (by omega)]
 have hb:Z0l Y00 226=true:=by kernel_rfl
 refine Z32 (λg=>Y04 g 226) 2 follows Z07 ZkT Tryz.func221 rfl ?_
 by_cases h0:s=[]
 · have e1:(s==[])=true:=by simpa using h0
   repeat' ((conv=>whnf);(first|refine stp ?_|with_reducible apply Z01<;>intro h))
   unfold Z3t;rw[if_neg (by simp[h0])]
 · have e1:(s==[])=false:=by simpa using h0
   by_cases hw:Z3X s=s.length
   · have e3:((Z3X s:Int) != (s.length:Int))=false:=by rw[hw];simp
     have eR:Z3t s = .tuple [.int .i64 (if keysL.contains s then 2 else 1),.bool true]:=by unfold Z3t;rw[if_pos ⟨h0,hw⟩]
     rw[eR]
     cases hc:keysL.contains s with
     |true =>
      repeat' ((conv=>whnf);first|with_reducible refine exI (Zaj hb rfl e2) ?_|(with_reducible refine exI (Z74 _ ?_) ?_;(focus rfl))|refine stp ?_|with_reducible apply Z01<;>intro h)
      conv=>whnf
      refine exI (Z74 _ ?_) ?_
      ·rfl
      rw[hc]
      repeat' ((conv=>whnf);(first|refine stp ?_|with_reducible apply Z01<;>intro h))
      rfl
     |false =>
      repeat' ((conv=>whnf);first|with_reducible refine exI (Zaj hb rfl e2) ?_|(with_reducible refine exI (Z74 _ ?_) ?_;(focus rfl))|refine stp ?_|with_reducible apply Z01<;>intro h)
      conv=>whnf
      refine exI (Z74 _ ?_) ?_
      ·rfl
      rw[hc]
      repeat' ((conv=>whnf);(first|refine stp ?_|with_reducible apply Z01<;>intro h))
      rfl
   · have e3:((Z3X s:Int) != (s.length:Int))=true:=by simp;omega
     repeat' ((conv=>whnf);first|with_reducible refine exI (Zaj hb rfl e2) ?_|refine stp ?_|with_reducible apply Z01<;>intro h)
     unfold Z3t;rw[if_neg (λh=>hw h.2)]
end
theorem Zmy(x:List UInt8):ValOK Y00 gl 213 [.str x] (.int .i64 (if keysL.contains x then 2 else 1)):=by
 refine Z32 (λ_=>false) 2 follows Z07 Zfi Tryz.func213 rfl ?_
 repeat' ((conv=>whnf);first|refine stp ?_|with_reducible apply Z01<;>intro h)
 conv=>whnf
 refine⟨Nat,(λi=>i<=20/\keysL.contains x=(keysL.drop i).contains x),(λi=>[(0,.str x),(3,.slice 0 0 20 20 1),(4,.int .i64 i)]),(λ_=>[⟨true,0,0,.cells (keysL.map AV.str) 9⟩]),(λi=>20-i),⟨0,⟨by omega,rfl⟩,?_⟩,?_⟩
 · refine Y0h [0] rfl ?_ ?_ rfl
   ·exact⟨Y01 rfl,Wk.slice rfl rfl rfl (Y05 _) (Y05 _) rfl,Y07 rfl,trivial⟩
   ·exact⟨⟨rfl,rfl,rfl,rfl,BodyGe.pre (rest:=[]) rfl rfl⟩,trivial⟩
 · intro i ⟨hi,hs⟩
   by_cases hlt:i<20
   · have e1:decide ((i:Int)<20)=true:=by simp;omega
     have hlk:i<keysL.length:=hlt
     have hd:keysL.drop i=keysL[i]::keysL.drop (i+1):=Y0w hlk
     repeat' ((conv=>whnf);first|(with_reducible refine exI (Z1Q AV.str keysL i hlk ?_) ?_;focus omega)|refine stp ?_|with_reducible apply Z01<;>intro h)
     · have hc:keysL.contains x=true:=by rw[hs,hd,List.contains_cons,eq_of_beq h];simp
       rw[hc];rfl
     · conv=>whnf
       have hx:(x==keysL[i])=false:=beq_eq_false_iff_ne.2 (λe=>by rw[<- e]at h;simp at h)
       exact⟨i+1,⟨hlt,by rw[hs,hd,List.contains_cons,hx,Bool.false_or]⟩,by show 20-(i+1)<20-i;omega,Y0h [0] rfl ⟨Y01 rfl,Wk.slice rfl rfl rfl (Y05 _) (Y05 _) rfl,Y07 rfl,trivial⟩ ⟨⟨rfl,rfl,rfl,rfl,BodyGe.pre (rest:=[]) rfl rfl⟩,trivial⟩ rfl⟩
   · have e1:decide ((i:Int)<20)=false:=by simp;omega
     have hi':i=20:=by omega
     subst hi'
     repeat' ((conv=>whnf);first|refine stp ?_|with_reducible apply Z01<;>intro h)
     have hc:keysL.contains x=false:=by rw[hs];rfl
     rw[hc];rfl
def F5(f:Nat)(xs:List AV):Option AV:=match f with
 |213=>match xs with|[.str x]=>some (.int .i64 (if keysL.contains x then 2 else 1))|_=>none
 |f=>F1 f xs
theorem Zoy{f:Nat}{xs:List AV}{r:AV}(h:F5 f xs=some r):plain r=true/\ValOK Y00 gl f xs r:=by
 unfold F5 at h
 split at h
 · split at h<;>cases h
   exact⟨rfl,Zmy _⟩
 ·exact ZiQ h
theorem ZkS:OrcSound Y00 gl (Z9K F5):=Z1z λf xs r h=>Zoy h
theorem ZaB{s:List UInt8}(h:0<s.length):Z3X s=if ZeE s[0].toNat then Z3y Z8k s else 0:=by
 cases s with
 |nil=>simp at h
 |cons c t=>rfl
def Znz(s:List UInt8)(i:Nat):Prop:=i<=s.length/\(i=0\/(0<i/\Z3X s=Z3y Z8k s/\Z3y Z8k s=i+Z3y Z8k (s.drop i)))
theorem ZaF{s:List UInt8}{i:Nat}(h:Znz s i)(hlt:i<s.length)(h2:ZeE s[i].toNat=true\/(i≠0/\Z8k s[i].toNat=true)):Znz s (i+1):=by
 have hat:=Ze2 (p:=Z8k) hlt
 have hw:Z8k s[i].toNat=true:=by rcases h2 with h2|h2;simp[Z8k,h2];exact h2.2
 rw[hw,if_pos rfl]at hat
 refine⟨hlt,.inr ⟨by omega,?_,?_⟩⟩
 · rcases h.2 with h0|h0
   · subst h0
     have:ZeE s[0].toNat=true:=by rcases h2 with h2|h2;exact h2;exact absurd rfl h2.1
     rw[ZaB (by omega),this,if_pos rfl]
   ·exact h0.2.1
 · rcases h.2 with h0|h0
   ·subst h0;rw[Y0u]at hat;omega
   ·omega
theorem ZdL{s:List UInt8}{i:Nat}(h:Znz s i)(hlt:i<s.length)(h1:ZeE s[i].toNat=false)(h2:i=0\/Z8k s[i].toNat=false):Z3t s = .tuple [.int .i64 0,.bool false]:=by
 unfold Z3t
 rw[if_neg]
 rintro⟨_,h4⟩
 rcases h.2 with h0|h0
 · subst h0
   rw[ZaB (by omega),h1]at h4
   simp at h4;omega
 · have hat:=Ze2 (p:=Z8k) hlt
   rcases h2 with h2|h2
   ·omega
   ·rw[h2,if_neg (by decide)]at hat;omega
theorem Zjc{s:List UInt8}(h:Znz s s.length)(h0:s≠[]):Z3t s = .tuple [.int .i64 (if keysL.contains s then 2 else 1),.bool true]:=by
 have hl:0<s.length:=List.length_pos_iff.2 h0
 unfold Z3t
 rw[if_pos]
 refine⟨h0,?_⟩
 rcases h.2 with h1|h1
 ·omega
 ·have:=ZgF (p:=Z8k) (s:=s) (e:=s.length) (by omega);omega
theorem Zj5(s:List UInt8)(hs:s.length<=9223372036854775807):ValOK Y00 gl 188 [.str s] (Z3t s):=by
 refine Z05 follows Z07 ZkS Tryz.func188 rfl ?_
 conv=>whnf
 repeat' ((conv=>whnf);first|refine stp ?_|with_reducible apply Z01<;>intro h)
 conv=>whnf
 refine⟨Nat,Znz s,(λi=>[(0,.str s),(4,.int .i64 i)]),(λ_=>[]),(λi=>s.length-i),⟨0,⟨Y0g _,.inl rfl⟩,Y0k rfl ⟨Y01 rfl,Y07 rfl,trivial⟩⟩,?_⟩
 intro i hI
 have hi:=hI.1
 by_cases hlt:i<s.length
 · have e1:decide ((i:Int)<(s.length:Int))=true:=by simpa using hlt
   have hx:s[i]? = some s[i]:=by simp[hlt]
   have u1:=ZlI s[i] 95 (by decide)
   cases hl:ZeE s[i].toNat with
   |true =>
    repeat' ((conv=>whnf);first|with_reducible refine ixS _ rfl hx ?_|refine stp ?_|with_reducible apply Z01<;>intro h)
    conv=>whnf
    exact⟨i+1,ZaF hI hlt (.inl hl),by show s.length-(i+1)<s.length-i;omega,Y0k rfl ⟨Y01 rfl,Y07 rfl,trivial⟩⟩
   |false =>
    by_cases h0:i=0
    · have e2:((i:Int)==0)=true:=by simp[h0]
      repeat' ((conv=>whnf);first|with_reducible refine ixS _ rfl hx ?_|refine stp ?_|with_reducible apply Z01<;>intro h)
      exact (ZdL hI hlt hl (.inl h0)).symm
    · have e2:((i:Int)==0)=false:=by simp[h0]
      cases hw:Z8k s[i].toNat with
      |true =>
       repeat' ((conv=>whnf);first|with_reducible refine ixS _ rfl hx ?_|refine stp ?_|with_reducible apply Z01<;>intro h)
       all_goals (first|(exfalso;simp_all[Z8k];done)|skip)
       all_goals (conv=>whnf)
       all_goals exact⟨i+1,ZaF hI hlt (.inr ⟨h0,hw⟩),by show s.length-(i+1)<s.length-i;omega,Y0k rfl ⟨Y01 rfl,Y07 rfl,trivial⟩⟩
      |false =>
       repeat' ((conv=>whnf);first|with_reducible refine ixS _ rfl hx ?_|refine stp ?_|with_reducible apply Z01<;>intro h)
       all_goals (first|(exfalso;simp_all[Z8k];done)|skip)
       all_goals exact (ZdL hI hlt hl (.inr hw)).symm
 · have e1:decide ((i:Int)<(s.length:Int))=false:=by simpa using hlt
   have hi2:i=s.length:=by omega
   subst hi2
   by_cases h0:s=[]
   · have e2:(s==[])=true:=by simpa using h0
     repeat' ((conv=>whnf);first|refine stp ?_|with_reducible apply Z01<;>intro h)
     unfold Z3t;rw[if_neg (λh=>h.1 h0)]
   · have e2:(s==[])=false:=by simpa using h0
     repeat' ((conv=>whnf);first|refine stp ?_|with_reducible apply Z01<;>intro h)
     rw[Zjc hI h0]
end
end Go.Proofs.YthbimonbnaodkaaGreatDoor.lex
section
namespace Go.Abs
open Go.RowKit Go.Maps
open Go.Proofs (encStr)
def rsK(l:List (List UInt8)):AV:=.rs l.length 1 (l.map .str)
end Go.Abs
end
section
namespace Go.Abs
open Go.RowKit
theorem Wk.nil{m:List Nat}{z:Nat}:Wk m .nslice (.rs 0 z []):=λsn ι v h=>by simp only[VR]at h⊢;exact .inl ⟨trivial,trivial,h⟩
theorem swA{A B:Prop}(h:A):Zgb (A/\B) B:=λb=>⟨h,b⟩
theorem stw{P Q:Prop}(q:Q)(h:Zgb P Q:=by
 first
 |(refine swA (Wk.int ?_);(focus (first|rfl|omega|(simp;done)|(simp;omega))))|(refine swA (Wk.bool ?_);(focus (first|rfl|(simp;done))))|exact swA (Wk.noref rfl)
 |exact swA (Wk.ptr rfl rfl)|(refine swA (Wk.slice rfl ?_ ?_ ?_ ?_ ?_);(focus (first|rfl|omega));(focus (first|rfl|omega));(focus (first|rfl|omega));(focus (first|rfl|omega));(focus rfl))|exact swA Wk.nil|exact swA (Wk.func trivial ⟨Wk.ptr rfl rfl,trivial⟩)|exact swA (Wk.map rfl)):P:=h q
theorem ValOK.weak{P:Program}{gl:Z0o}{f:Nat}{args args2:List AV}{r:AV}(h:ValOK P gl f args2 r)(hw:∀sn vs,LR sn noI args vs->LR sn noI args2 vs):ValOK P gl f args r :=
 λsn W cargs hg hR ha=>h sn W cargs hg hR (hw _ _ ha)
theorem Zhq{z:Nat}{sn:Z0g}{ι : Z0f}{v:Value}(h:VR sn ι .nslice v):VR sn ι (.rs 0 z []) v:=by simp only[VR]at h⊢;exact .inl ⟨trivial,trivial,h⟩
section
open Classical
noncomputable def Znj{I:Type}(G:I->Prop)(fF:I->Nat)(fA:I->List AV)(fR:I->AV):Orc:=Zl8 λf args=>if h:∃i,G i/\fF i=f/\fA i=args then some (fR (Classical.choose h)) else none
theorem ZfI{P:Program}{gl:Z0o}{I:Type}{G:I->Prop}{fF:I->Nat}{fA:I->List AV}{fR:I->AV}(h:∀i,G i->refsL (fA i) []=[]/\ValOK P gl (fF i) (fA i) (fR i)):OrcSound P gl (Znj G fF fA fR):=Z5Z λf args r e=>by
 split at e
 · rename_i hx
   simp only[Option.some.injEq]at e
   subst e
   obtain⟨g1,e1,e2⟩:=Classical.choose_spec hx
   have:=h _ g1
   rw[e1,e2]at this;exact this
 ·cases e
theorem Zps {P : Program} {I : Type} {G : I -> Prop} {fF : I -> Nat} {fA : I -> List AV} {fR : I -> AV} (hinj : ∀ i j, G i -> G j -> fF i = fF j -> fA i = fA j -> fR i = fR j) {H : Z00} (i : I) (hb : Z0l P (fF i) = true) (hi : G i) :
  Z02 P (Znj G fF fA fR) H (fF i) (fA i)=some (fR i,H):=by
 have hx:∃j,G j/\fF j=fF i/\fA j=fA i:=⟨i,hi,rfl,rfl⟩
 unfold Z02
 rw[if_pos hb]
 unfold Znj Zl8
 simp only[dif_pos hx]
 obtain⟨g1,g2,g3⟩:=Classical.choose_spec hx
 rw[hinj _ i g1 hi g2 g3]
theorem Z7B{I:Type}{G:I->Prop}{fF:I->Nat}{fA:I->List AV}{fH:I->Z00}{fR:I->AV}{fO:I->Z00}{g:Nat}{args:List AV}{H:Z00}(h:∀i,G i->fF i=g->fA i≠args):orcI G fF fA fH fR fO g args H=none:=by
 unfold orcI
 rw[dif_neg]
 rintro⟨i,h1,h2,h3,_⟩
 exact h i h1 h2 h3
end
theorem callOr1{P:Program}{o1 o2:Orc}{H:Z00}{g:Nat}{args:List AV}{x:AV×Z00}(hb:Z0l P g=true)(h:Z02 P o1 H g args=some x):Z02 P (Z3B o1 o2) H g args=some x:=by
 unfold Z02 at h⊢
 rw[if_pos hb]at h⊢
 unfold Z3B;rw[h]
theorem Zak{P:Program}{o1 o2:Orc}{H:Z00}{g:Nat}{args:List AV}{x:AV×Z00}(hb:Z0l P g=true)(h1:o1 g args H=none)(h:Z02 P o2 H g args=some x):Z02 P (Z3B o1 o2) H g args=some x:=by
 unfold Z02 at h⊢
 rw[if_pos hb]at h⊢
 unfold Z3B;rw[h1];exact h
structure Fam (P:Program) (gl:Z0o) where
 I:Type
 f:Nat
 G:I->Prop
 A:I->List AV
 R:I->AV
 body:Z0l P f=true
 inj:∀i j,G i->G j->A i=A j->R i=R j
 ok:∀i,G i->refsL (A i) []=[]/\ValOK P gl f (A i) (R i)
structure FamM (P:Program) (gl:Z0o) where
 I:Type
 f:Nat
 G:I->Prop
 A:I->List AV
 H:I->Z00
 R:I->AV
 O:I->Z00
 body:Z0l P f=true
 inj:∀i j,G i->G j->A i=A j->H i=H j->R i=R j/\O i=O j
 ok:∀i,G i->Z10 P gl f (A i) (H i) (R i) (O i)
section
variable {P:Program} {gl:Z0o}
def Fam.Ask(F:Fam P gl)(O:Orc):Prop:=∀i,F.G i->∀H,Z02 P O H F.f (F.A i)=some (F.R i,H)
def FamM.Ask(F:FamM P gl)(O:Orc):Prop:=∀i,F.G i->Z02 P O (F.H i) F.f (F.A i)=some (F.R i,F.O i)
def AllAsk(O:Orc):List (Fam P gl)->Prop
 |[]=>True
 |F::l=>F.Ask O/\AllAsk O l
def AllAskM(O:Orc):List (FamM P gl)->Prop
 |[]=>True
 |F::l=>F.Ask O/\AllAskM O l
theorem Zdv{o O:Orc}{f:Nat}(ho:∀g args H,g≠f->o g args H=none):(∀F:Fam P gl,F.f≠f->F.Ask O->F.Ask (Z3B o O))/\(∀F:FamM P gl,F.f≠f->F.Ask O->F.Ask (Z3B o O)) :=
 ⟨λF hf h i hi H=>Zak F.body (ho _ _ _ hf) (h i hi H),λF hf h i hi=>Zak F.body (ho _ _ _ hf) (h i hi)⟩
theorem Zaa:∀(l:List (Fam P gl)),Z0L (l.map (·.f))=true->∃O,OrcSound P gl O/\AllAsk O l
 |[],_=>⟨λ_ _ _=>none,(λf args H r H' h=>by cases h),trivial⟩
 |F::l,h=>by
  simp only[Y0i,Z0L,Y08,Y0x]at h
  obtain⟨O,hO,ha⟩:=Zaa l h.2
  have ho:∀g args H,g≠F.f->Znj F.G (λ_=>F.f) F.A F.R g args H=none:=by
   intro g args H hg
   have:¬ ∃i,F.G i/\F.f=g/\F.A i=args:=by
    rintro⟨i,_,h2,_⟩
    exact hg h2.symm
   simp only[Znj,Zl8,dif_neg this]
  refine⟨Z3B (Znj F.G (λ_=>F.f) F.A F.R) O,Z2v (ZfI F.ok) hO,λi hi H=>callOr1 F.body (Zps (λi j hi hj _ ha=>F.inj i j hi hj ha) i F.body hi),?_⟩
  have hn:∀G∈l,G.f≠F.f:=λG hG e=>by
   have h1:=h.1
   have:mem F.f (l.map (·.f))=true:=Z0W.2 (by rw[<- e];exact List.mem_map_of_mem hG)
   rw[this]at h1;cases h1
  clear h
  induction l with
  |nil=>trivial
  |cons G l ih =>
   exact⟨(Zdv ho).1 G (hn G (by simp)) ha.1,ih ha.2 λK hK=>hn K (by simp[hK])⟩
theorem fams(l:List (Fam P gl))(h:Z0L (l.map (·.f))=true):∃O,OrcSound P gl O/\AllAsk O l:=Zaa l h
theorem AllAsk.add{o O:Orc}{f:Nat}(ho:∀g args H,g≠f->o g args H=none):∀{l:List (Fam P gl)},mem f (l.map (·.f))=false->AllAsk O l->AllAsk (Z3B o O) l
 |[],_,_=>trivial
 |F::l,h,ha=>by
  simp only[Y0i,mem,Bool.or_eq_false_iff]at h
  exact⟨(Zdv ho).1 F (λe=>by rw[e]at h;simp at h) ha.1,AllAsk.add ho h.2 ha.2⟩
theorem AllAskM.add{o O:Orc}{f:Nat}(ho:∀g args H,g≠f->o g args H=none):∀{l:List (FamM P gl)},mem f (l.map (·.f))=false->AllAskM O l->AllAskM (Z3B o O) l
 |[],_,_=>trivial
 |F::l,h,ha=>by
  simp only[Y0i,mem,Bool.or_eq_false_iff]at h
  exact⟨(Zdv ho).2 F (λe=>by rw[e]at h;simp at h) ha.1,AllAskM.add ho h.2 ha.2⟩
theorem Z5E:∀(m:List (FamM P gl))(l:List (Fam P gl)),Z0L (m.map (·.f)++l.map (·.f))=true->∃O,OrcSound P gl O/\AllAskM O m/\AllAsk O l
 |[],l,h=>by
  obtain⟨O,h1,h2⟩:=Zaa l h
  exact⟨O,h1,trivial,h2⟩
 |F::m,l,h=>by
  simp only[Y0i,Y0o,Z0L,Y08,Y0x]at h
  obtain⟨O,hO,ha,hb⟩:=Z5E m l h.2
  have ho:∀g args H,g≠F.f->orcI F.G (λ_=>F.f) F.A F.H F.R F.O g args H=none:=λg args H hg=>Z7B λi _ e=>absurd e.symm hg
  have hmem:∀{a b:List Nat},mem F.f (a++b)=false->mem F.f a=false/\mem F.f b=false:=by
   intro a b h
   constructor
   · cases hx:mem F.f a with
     |false=>rfl
     |true=>rw[Z0W.2 (Y0D.2 (.inl (Z0W.1 hx)))]at h;cases h
   · cases hx:mem F.f b with
     |false=>rfl
     |true=>rw[Z0W.2 (Y0D.2 (.inr (Z0W.1 hx)))]at h;cases h
  obtain⟨n1,n2⟩:=hmem h.1
  refine⟨Z3B (orcI F.G (λ_=>F.f) F.A F.H F.R F.O) O,Z2v (Z4p F.ok) hO,⟨λi hi=>callOr1 F.body (ZkJ (λi j hi hj _ ha hh=>F.inj i j hi hj ha hh) F.body i hi rfl rfl rfl),AllAskM.add ho n1 ha⟩,AllAsk.add ho n2 hb⟩
end
theorem hbp{a b:Bool}{f i s s2:Nat}{m:List Nat}{cs cs2:List AV}{ty:TypeId}(h1:a=true:=by rfl)(h2:b=true:=by rfl)(h3:f=i:=by rfl)(h4:s2=s:=by rfl)(h5:cs=cs2++[]:=by rfl)(h6:refsL cs2 []=[]:=by rfl):a=true/\b=true/\f=i/\s2=s/\BodyGe m (.cells cs ty) (.cells cs2 ty):=⟨h1,h2,h3,h4,BodyGe.pre (rest:=[]) h5 h6⟩
theorem wks{P:Prop}(h:P:=by (repeat (first|exact trivial|refine stw ?_));done):P:=h
theorem neS{α : Type}{l:List α}(h:l≠[]:=by first|exact List.cons_ne_nil _ _|assumption|(simp;done)|(intro hz;simp only[List.append_eq_nil_iff]at hz;simp_all;done)):l≠[]:=h
theorem leS{P:Prop}(h:P:=by (try simp only[List.length_append,List.length_cons,List.length_nil]at *);omega):P:=h
end Go.Abs
end
namespace Go.Proofs.YthbimonbnaodkaaGreatDoor.lex
open Go.Abs Go.RowKit
section
variable {gl:Z0o}
theorem Z0n{α : Type}[BEq α]{x y : α}{b:Bool}(h:(x==y)=b):(x != y) = !b:=by simp only[bne,h]
inductive Ex where
 |mk (op num:Int) (name:List UInt8) (kids:List Ex)
instance:Inhabited Ex:=⟨.mk 0 0 [] []⟩
def Ex.op:Ex->Int
 | .mk o _ _ _=>o
def Ex.num:Ex->Int
 | .mk _ n _ _=>n
def Ex.name:Ex->List UInt8
 | .mk _ _ s _=>s
def Ex.kids:Ex->List Ex
 | .mk _ _ _ k=>k
mutual
def Ex.cells:Ex->List AV
 | .mk op num name kids=>[.int .i64 op,.int .i64 num,.str name,.rs kids.length 4 (exC kids)]
def exC:List Ex->List AV
 |[]=>[]
 |e::l=>e.cells++exC l
end
def exA(l:List Ex):AV:=.rs l.length 4 (exC l)
mutual
def Z0a:Ex->Nat
 | .mk _ _ _ kids=>1+sizeL kids
def sizeL:List Ex->Nat
 |[]=>0
 |e::l=>Z0a e+sizeL l
end
mutual
def Z2A:Ex->Nat
 | .mk _ _ _ kids=>deepL kids+1
def deepL:List Ex->Nat
 |[]=>0
 |e::l=>max (Z2A e) (deepL l)
end
theorem Z2c:∀e:Ex,e.cells.length=4
 | .mk _ _ _ _=>by simp only[Ex.cells];rfl
theorem Z6b:∀l:List Ex,(exC l).length=l.length*4
 |[]=>by simp only[exC];rfl
 |e::l=>by simp only[exC,Y0p,Z2c,Z6b l,Y0e];omega
theorem Z4T:∀a b:List Ex,exC (a++b)=exC a++exC b
 |[],b=>by simp only[exC,Y0y]
 |e::a,b=>by simp only[exC,Y0o,Z4T a b,List.append_assoc]
theorem ZkD(e:Ex)(l:List Ex)(i:Nat):(exC (e::l)).drop ((i+1)*4)=(exC l).drop (i*4):=by
 have h:(i+1)*4=4+i*4:=by omega
 rw[h,<- List.drop_drop,exC,List.drop_left' (Z2c e)]
theorem Z8I:∀(a b:List AV),tk a.length (a++b)=some a
 |[],b=>by cases b<;>rfl
 |c::a,b=>by simp only[Y0e,Y0o,tk,Z8I a b]
theorem Z6D:∀(l:List Ex)(i:Nat)(h:i<l.length),(exC l).drop (i*4)=l[i].cells++exC (l.drop (i+1))
 |e::l,0,h=>by simp only[Nat.zero_mul,Y0u,exC,Y0b,Y0l]
 |e::l,i+1,h=>by rw[ZkD,Z6D l i (by simpa using h)];simp only[Y0a,Y0l]
theorem ex4(l:List Ex)(i:Nat)(h:i<l.length):tk 4 ((exC l).drop (i*4))=some l[i].cells:=by
 rw[Z6D l i h]
 have:=Z8I l[i].cells (exC (l.drop (i+1)))
 rwa [Z2c]at this
mutual
theorem Z0M:∀(a b:Ex),a.cells=b.cells->a=b
 | .mk o n s k,.mk o' n' s' k',h=>by
  simp only[Ex.cells]at h
  simp at h
  obtain⟨rfl,rfl,rfl,hl,hk⟩:=h
  rw[exC_inj k k' hk hl]
theorem exC_inj:∀(a b:List Ex),exC a=exC b->a.length=b.length->a=b
 |[],[],_,_=>rfl
 |x::a,y::b,h,hl=>by
  simp only[exC]at h
  have h':=List.append_inj h (by rw[Z2c,Z2c])
  rw[Z0M x y h'.1,exC_inj a b h'.2 (by simpa using hl)]
 |[],_::_,_,hl=>by simp at hl
 |_::_,[],_,hl=>by simp at hl
end
theorem Z83{a b:List Ex}(h:exA a=exA b):a=b:=by
 simp only[exA,AV.rs.injEq,true_and]at h
 exact exC_inj _ _ h.2 h.1
theorem Z1r:∀e:Ex,0<Z0a e
 | .mk _ _ _ _=>by simp only[Z0a];omega
theorem Z43:∀(l:List Ex)(i:Nat)(h:i<l.length),sizeL l=sizeL (l.take i)+Z0a l[i]+sizeL (l.drop (i+1))
 |e::l,0,h=>by simp only[Y03,sizeL,Y0b,Y0l,Y0u];omega
 |e::l,i+1,h=>by
  have:=Z43 l i (by simpa using h)
  simp only[Y02,sizeL,Y0a,Y0l];omega
theorem Z8P:∀(l:List Ex)(i:Nat)(h:i<l.length),sizeL (l.take (i+1))=sizeL (l.take i)+Z0a l[i]
 |e::l,0,h=>by simp only[Y02,Y03,sizeL,Y0b];omega
 |e::l,i+1,h=>by
  have:=Z8P l i (by simpa using h)
  simp only[Y02,sizeL,Y0a]at this⊢;omega
theorem Z1q:∀l:List Ex,l.length<=sizeL l
 |[]=>Y0g _
 |e::l=>by have:=Z1q l;have:=Z1r e;simp only[sizeL,Y0e];omega
theorem Z8Q:∀e:Ex,Z0a e=1+sizeL e.kids
 | .mk _ _ _ _=>by simp only[Z0a,Ex.kids]
theorem Z0h:∀(l:List Ex)(e:Ex),e∈l->Z0a e<=sizeL l
 |e::l,f,h=>by
  simp only[sizeL]
  rcases Y0f.1 h with rfl|h
  ·omega
  ·have:=Z0h l f h;omega
theorem Z9d:∀(l:List Ex)(i:Nat)(h:i<l.length),deepL (l.take (i+1))=max (deepL (l.take i)) (Z2A l[i])
 |e::l,0,h=>by simp only[Y02,Y03,deepL,Y0b];omega
 |e::l,i+1,h=>by
  have:=Z9d l i (by simpa using h)
  simp only[Y02,deepL,Y0a]at this⊢;omega
mutual
theorem Z9e:∀e:Ex,Z2A e<=Z0a e
 | .mk _ _ _ k=>by have:=deepL_size k;simp only[Z2A,Z0a];omega
theorem deepL_size:∀l:List Ex,deepL l<=sizeL l
 |[]=>Y05 _
 |e::l=>by have:=Z9e e;have:=deepL_size l;simp only[deepL,sizeL];omega
end
theorem Z1l(e:Ex):refsL [.agg e.cells] []=[]:=by
 obtain⟨o,n,s,k⟩:=e
 simp only[Ex.cells];rfl
theorem Z3I{a b:Ex}(h:[AV.agg a.cells]=[AV.agg b.cells]):a=b:=by
 simp only[List.cons.injEq,AV.agg.injEq,and_true]at h
 exact Z0M _ _ h
def famE{g:Nat}(hb:Z0l Y00 g=true)(r:Ex->AV)(l:List Ex)(each:∀k∈l,ValOK Y00 gl g [.agg k.cells] (r k)):Fam Y00 gl where
 I:=Ex
 f:=g
 G:=λk=>k∈l
 A:=λk=>[.agg k.cells]
 R:=r
 body:=hb
 inj:=λi j _ _ h=>by rw[Z3I h]
 ok:=λk hk=>⟨Z1l k,each k hk⟩
theorem Z03{α : Type}{l:List α}{i:Nat}(h:i<l.length):l[i]∈l:=Y0M h
theorem Ze6:∀(n:Nat)(e:Ex),Z0a e<=n->Z0a e<=1048576->ValOK Y00 gl 110 [.agg e.cells] (.int .i64 (Z0a e))
 |0,e,h,_=>by have:=Z1r e;omega
 |n+1,.mk op num name kids,h,hb=>by
  simp only[Z0a]at h hb⊢
  obtain⟨O,hO,q,-⟩:=fams (P:=Y00) (gl:=gl) [famE (g:=110) (by kernel_rfl) (λk=>.int .i64 (Z0a k)) kids λk hk=>Ze6 n k (by have:=Z0h _ _ hk;omega) (by have:=Z0h _ _ hk;omega)] rfl
  have hlen:=Z1q kids
  simp only[Ex.cells]
  refine Z05 follows Z07 hO Tryz.func110 rfl ?_
  repeat' ((conv=>whnf);first|refine stp ?_|with_reducible apply Z01<;>intro h)
  conv=>whnf
  refine⟨Nat,(λi=>i<=kids.length),(λi=>[(1,.ptr 0 0),(3,.int .i64 (1+sizeL (kids.take i):Nat)),(4,.int .i64 i)]),(λ_=>[⟨true,0,0,.cells [.int .i64 op,.int .i64 num,.str name,.rs kids.length 4 (exC kids)] 69⟩]),(λi=>kids.length-i),⟨0,Y0g _,Y0h [0] rfl ?_ ⟨hbp,trivial⟩ rfl⟩,?_⟩
  ·simp only[Y03,sizeL];exact wks
  intro i hi
  dsimp only
  by_cases hlt:i<kids.length
  · have e1:decide ((i:Int)<(kids.length:Int))=true:=by simpa using hlt
    have hx:=ex4 kids i hlt
    have hs:=Z8P kids i hlt
    have hg:=Z43 kids i hlt
    have q1:∀H,Z02 Y00 O H 110 [.agg kids[i].cells]=some (.int .i64 (Z0a kids[i]),H):=q _ (Z03 hlt)
    generalize kids[i]=k at *
    repeat' ((conv=>whnf);first|refine exI hx ?_|refine exI (q1 _) ?_|(with_reducible refine ixJ i rfl ?_ ?_;focus omega)|refine stp ?_|with_reducible apply Z01<;>intro h)
    conv=>whnf
    refine⟨i+1,hlt,by show kids.length-(i+1)<kids.length-i;omega,Y0h [0] rfl ?_ ⟨hbp,trivial⟩ rfl⟩
    rw[hs,<- Nat.add_assoc];exact wks
  · have e1:decide ((i:Int)<(kids.length:Int))=false:=by simpa using hlt
    have hi2:i=kids.length:=by have:=hi;omega
    subst hi2
    repeat' ((conv=>whnf);first|refine stp ?_|with_reducible apply Z01<;>intro h)
    simp only[Y0m];rfl
theorem Zf4:∀(n:Nat)(e:Ex),Z0a e<=n->Z0a e<=1048576->ValOK Y00 gl 111 [.agg e.cells] (.int .i64 (Z2A e))
 |0,e,h,_=>by have:=Z1r e;omega
 |n+1,.mk op num name kids,h,hb=>by
  simp only[Z0a]at h hb
  simp only[Z2A]
  obtain⟨O,hO,q,-⟩:=fams (P:=Y00) (gl:=gl) [famE (g:=111) (by kernel_rfl) (λk=>.int .i64 (Z2A k)) kids λk hk=>Zf4 n k (by have:=Z0h _ _ hk;omega) (by have:=Z0h _ _ hk;omega)] rfl
  have hlen:=Z1q kids
  have hds:=deepL_size kids
  simp only[Ex.cells]
  refine Z05 follows Z07 hO Tryz.func111 rfl ?_
  repeat' ((conv=>whnf);first|refine stp ?_|with_reducible apply Z01<;>intro h)
  conv=>whnf
  refine⟨Nat,(λi=>i<=kids.length),(λi=>[(1,.ptr 0 0),(3,.int .i64 (deepL (kids.take i))),(4,.int .i64 i)]),(λ_=>[⟨true,0,0,.cells [.int .i64 op,.int .i64 num,.str name,.rs kids.length 4 (exC kids)] 69⟩]),(λi=>kids.length-i),⟨0,Y0g _,Y0h [0] rfl ?_ ⟨hbp,trivial⟩ rfl⟩,?_⟩
  ·simp only[Y03,deepL];exact wks
  intro i hi
  dsimp only
  by_cases hlt:i<kids.length
  · have e1:decide ((i:Int)<(kids.length:Int))=true:=by simpa using hlt
    have hx:=ex4 kids i hlt
    have hs:=Z9d kids i hlt
    have q1:∀H,Z02 Y00 O H 111 [.agg kids[i].cells]=some (.int .i64 (Z2A kids[i]),H):=q _ (Z03 hlt)
    generalize kids[i]=k at *
    repeat' ((conv=>whnf);first|refine exI hx ?_|refine exI (q1 _) ?_|(with_reducible refine ixJ i rfl ?_ ?_;focus omega)|refine stp ?_|with_reducible apply Z01<;>intro h)
    conv=>whnf
    refine⟨i+1,hlt,by show kids.length-(i+1)<kids.length-i;omega,Y0h [0] rfl ?_ ⟨hbp,trivial⟩ rfl⟩
    refine Y09 (Wk.ptr rfl rfl) ?_
    refine Y09 (Y07 ?_) ?_
    ·rw[hs];split<;>omega
    exact wks
  · have e1:decide ((i:Int)<(kids.length:Int))=false:=by simpa using hlt
    have hi2:i=kids.length:=by have:=hi;omega
    subst hi2
    rw[Y0m]
    repeat' ((conv=>whnf);first|refine stp ?_|with_reducible apply Z01<;>intro h)
    rfl
end
section
variable {gl:Z0o}
def Z3u(s:List UInt8):Bool:=!s.isEmpty&&(Z3X s==s.length && !keysL.contains s)
theorem Zgo(s:List UInt8):∃k w,Z3t s = .tuple [.int .i64 k,.bool w]/\(w&&(k==1))=Z3u s/\(k==1)=Z3u s:=by
 unfold Z3t Z3u
 by_cases h0:s=[]
 ·subst h0;exact⟨0,false,by rw[if_neg (λh=>h.1 rfl)],rfl,rfl⟩
 · by_cases hw:Z3X s=s.length
   · rw[if_pos ⟨h0,hw⟩]
     refine⟨_,_,rfl,?_⟩
     have:s.isEmpty=false:=by cases s with|nil=>exact absurd rfl h0|cons _ _=>rfl
     rw[this,hw]
     cases keysL.contains s<;>simp
   · rw[if_neg (λh=>hw h.2)]
     refine⟨_,_,rfl,?_⟩
     have:(Z3X s==s.length)=false:=by simpa using hw
     rw[this];simp
theorem Zfl(s:List UInt8)(hs:s.length<=9223372036854775807):ValOK Y00 gl 148 [.str s] (.bool (Z3u s)):=by
 obtain⟨k,w,h1,h2,h3⟩:=Zgo s
 have hO:=Z60 (P:=Y00) (gl:=gl) (l:=[(188,[.str s],Z3t s)]) ⟨rfl,Zj5 s hs,trivial⟩
 have q:∀H,Z02 Y00 (Znk [(188,[.str s],Z3t s)]) H 188 [.str s]=some (Z3t s,H):=λH=>Zn1 (by kernel_rfl) Z68
 rw[h1]at q hO
 rw[<- h2]
 refine Z05 follows Z07 hO Tryz.func148 rfl ?_
 repeat' ((conv=>whnf);first|refine exI (q _) ?_|refine stp ?_|with_reducible apply Z01<;>intro h)
 all_goals (try (simp_all[Z1C];done))
theorem ZhO(s:List UInt8)(hs:s.length<=9223372036854775807)(m:Bool):ValOK Y00 gl 203 [.str s,.bool m] (.bool (if m then Z3u s else s==[])):=by
 obtain⟨k,w,h1,h2,h3⟩:=Zgo s
 have hO:=Z60 (P:=Y00) (gl:=gl) (l:=[(221,[.str s],Z3t s)]) ⟨rfl,Zj4 s hs,trivial⟩
 have q:∀H,Z02 Y00 (Znk [(221,[.str s],Z3t s)]) H 221 [.str s]=some (Z3t s,H):=λH=>Zn1 (by kernel_rfl) Z68
 rw[h1]at q hO
 rw[<- h3]
 cases m with
 |true =>
  refine Z05 follows Z07 hO Tryz.func203 rfl ?_
  repeat' ((conv=>whnf);first|refine exI (q _) ?_|refine stp ?_|with_reducible apply Z01<;>intro h)
  all_goals rfl
 |false =>
  refine Z05 follows Z07 hO Tryz.func203 rfl ?_
  repeat' ((conv=>whnf);first|refine exI (q _) ?_|refine stp ?_|with_reducible apply Z01<;>intro h)
  all_goals rfl
end
section
variable {gl:Z0o}
def okN(s:List UInt8)(n:Nat):Prop:=s.length<=9223372036854775807/\n<=9223372036854775807
mutual
def okE:Ex->Prop
 | .mk _ _ s k=>okN s k.length/\okL k
def okL:List Ex->Prop
 |[]=>True
 |e::l=>okE e/\okL l
end
theorem Z0k:∀{l:List Ex},okL l->∀e∈l,okE e
 |x::l,h,e,he=>by
  simp only[okL]at h
  rcases Y0f.1 he with rfl|he
  ·exact h.1
  ·exact Z0k h.2 e he
theorem Z0S:∀{e:Ex},okE e->okN e.name e.kids.length/\okL e.kids
 | .mk _ _ s k,h=>by simp only[okE]at h;exact h
def Z4N(op:Int):Int:=if op=1\/op=2 then 0 else if op=3\/op=4 then 1 else if 5<=op/\op<=16 then 2 else -1
theorem Zmz(op:Int):ValOK Y00 gl 147 [.int .i64 op] (.int .i64 (Z4N op)):=by
 refine Z05 follows Z07 Z06 Tryz.func147 rfl ?_
 repeat' ((conv=>whnf);first|refine stp ?_|with_reducible apply Z01<;>intro h)
 all_goals (show AV.int _ _=AV.int _ _;congr 1;unfold Z4N;simp only[beq_iff_eq,decide_eq_true_eq,beq_eq_false_iff_ne,decide_eq_false_iff_not,ge_iff_le,Int.not_le]at *)
 all_goals (repeat' split)
 all_goals omega
mutual
def Z0X:Ex->Int->Int
 | .mk _ _ s k,l=>heftL k (l-1-(s.length / 20:Nat))
def heftL:List Ex->Int->Int
 |[],l=>l
 |e::k,l=>if 0<=l then heftL k (Z0X e l) else l
end
mutual
theorem Z65:∀(e:Ex)(l:Int),0<=Z0X e l->(Z0a e:Int)+Z0X e l<=l
 | .mk _ _ s k,l,h=>by
  simp only[Z0X,Z0a]at *
  have:=heftL_size k _ h;omega
theorem heftL_size:∀(k:List Ex)(l:Int),0<=heftL k l->(sizeL k:Int)+heftL k l<=l
 |[],l,h=>by simp only[heftL,sizeL]at *;omega
 |e::k,l,h=>by
  simp only[heftL,sizeL]at *
  split at h
  · rename_i hl
    rw[if_pos hl]
    have h1:=heftL_size k _ h
    have h2:0<=Z0X e l:=by omega
    have h3:=Z65 e l h2
    omega
  ·omega
end
mutual
theorem Zkm:∀(e:Ex)(l:Int),Z0X e l<=l
 | .mk _ _ s k,l=>by simp only[Z0X];have:=heftL_le k (l-1-(s.length / 20:Nat));omega
theorem heftL_le:∀(k:List Ex)(l:Int),heftL k l<=l
 |[],l=>by simp only[heftL];omega
 |e::k,l=>by
  simp only[heftL]
  split
  ·have:=heftL_le k (Z0X e l);have:=Zkm e l;omega
  ·omega
end
theorem ZeN:∀(k:List Ex)(l:Int)(i:Nat)(h:i<k.length),heftL (k.take (i+1)) l=if 0<=heftL (k.take i) l then Z0X k[i] (heftL (k.take i) l) else heftL (k.take i) l
 |e::k,l,0,h=>by simp only[Y02,Y03,heftL,Y0b]
 |e::k,l,i+1,h=>by
  have ih:=λl=>ZeN k l i (by simpa using h)
  simp only[Y02,heftL,Y0a]at ih⊢
  split
  ·exact ih _
  ·rename_i h2;simp[h2]
theorem Z95:∀(k:List Ex)(l:Int)(i:Nat),heftL (k.take i) l<0->heftL k l=heftL (k.take i) l
 |[],l,i,h=>by simp[heftL]
 |e::k,l,0,h=>by
  simp only[Y03,heftL]at *
  rw[if_neg (by omega)]
 |e::k,l,i+1,h=>by
  simp only[Y02,heftL]at *
  split
  · rename_i hl
    rw[if_pos hl]at h
    exact Z95 k _ i h
  ·rfl
theorem ZhX:∀(n:Nat)(e:Ex)(l:Int),Z0a e<=n->okE e->0<=l->l<=1048576->ValOK Y00 gl 109 [.agg e.cells,.int .i64 l] (.int .i64 (Z0X e l))
 |0,e,l,h,_,_,_=>by have:=Z1r e;omega
 |n+1,.mk op num name kids,l,h,hok,hl0,hl1=>by
  simp only[Z0a]at h
  obtain⟨⟨hn1,hn2⟩,hok2⟩:=Z0S hok
  simp only[Ex.name,Ex.kids]at hn1 hn2 hok2
  obtain⟨O,hO,q,-⟩:=fams (P:=Y00) (gl:=gl) [{ I:=Ex×Int,f:=109,G:=λp=>p.1∈kids/\0<=p.2/\p.2<=1048576,A:=λp=>[.agg p.1.cells,.int .i64 p.2],R:=λp=>.int .i64 (Z0X p.1 p.2),body:=(by kernel_rfl),inj:=(λi j _ _ h=>by simp only[List.cons.injEq,AV.agg.injEq,AV.int.injEq,and_true,true_and]at h;rw[Z0M _ _ h.1,h.2]),ok:=(λp hp=>⟨by have:=Z1l p.1;simpa[refsL,Z1o]using this,ZhX n p.1 p.2 (by have:=Z0h _ _ hp.1;omega) (Z0k hok2 _ hp.1) hp.2.1 hp.2.2⟩) }] rfl
  have q20:Int.tdiv (name.length:Int) 20=((name.length / 20:Nat):Int):=rfl
  have w1:IntKind.i64.wrap (l-1)=l-1:=Z2r (by omega) (by omega)
  have w2:IntKind.i64.wrap (Int.tdiv (name.length:Int) 20)=((name.length / 20:Nat):Int):=by rw[q20];exact Z2r (by omega) (by omega)
  have w3:IntKind.i64.wrap (l-1-((name.length / 20:Nat):Int))=l-1-((name.length / 20:Nat):Int):=Z2r (by omega) (by omega)
  simp only[Ex.cells,Z0X]
  refine Z05 follows Z07 hO Tryz.func109 rfl ?_
  repeat' ((conv=>whnf);first|(with_reducible refine exW w1 ?_)|(refine Y09 (show (20:Int)≠0 by decide) ?_)|(rw[w2])|(with_reducible refine exW w3 ?_)|refine stp ?_|with_reducible apply Z01<;>intro h)
  conv=>whnf
  generalize hl00:l-1-((name.length / 20:Nat):Int)=l0 at *
  refine⟨Nat,(λi=>i<=kids.length),(λi=>[(1,.int .i64 (heftL (kids.take i) l0)),(2,.ptr 0 0),(5,.int .i64 i)]),(λ_=>[⟨true,0,0,.cells [.int .i64 op,.int .i64 num,.str name,.rs kids.length 4 (exC kids)] 69⟩]),(λi=>kids.length-i),⟨0,Y0g _,Y0h [0] rfl ?_ ⟨hbp,trivial⟩ rfl⟩,?_⟩
  ·simp only[Y03,heftL];exact wks
  intro i hi
  dsimp only
  have hle:=heftL_le (kids.take i) l0
  by_cases hlt:i<kids.length
  · have e1:decide ((i:Int)<(kids.length:Int))=true:=by simpa using hlt
    by_cases hpos:0<=heftL (kids.take i) l0
    · have e2:decide (heftL (kids.take i) l0 >= 0)=true:=by simpa using hpos
      have hx:=ex4 kids i hlt
      have hs:=ZeN kids l0 i hlt
      rw[if_pos hpos]at hs
      have hc':∀H,Z02 Y00 O H 109 [.agg kids[i].cells,.int .i64 (heftL (kids.take i) l0)]=some (.int .i64 (Z0X kids[i] (heftL (kids.take i) l0)),H):=q (kids[i],_) ⟨Z03 hlt,hpos,by show heftL (kids.take i) l0<=1048576;omega⟩
      generalize kids[i]=k at *
      repeat' ((conv=>whnf);first|refine exI hx ?_|refine exI (hc' _) ?_|(with_reducible refine ixJ i rfl ?_ ?_;focus omega)|refine stp ?_|with_reducible apply Z01<;>intro h)
      conv=>whnf
      refine⟨i+1,hlt,by show kids.length-(i+1)<kids.length-i;omega,Y0h [0] rfl ?_ ⟨hbp,trivial⟩ rfl⟩
      rw[hs];exact wks
    · have e2:decide (heftL (kids.take i) l0 >= 0)=false:=by simpa using hpos
      have hst:=Z95 kids l0 i (by omega)
      rw[hst]
      repeat' ((conv=>whnf);first|refine stp ?_|with_reducible apply Z01<;>intro h)
      rfl
  · have e1:decide ((i:Int)<(kids.length:Int))=false:=by simpa using hlt
    have hi2:i=kids.length:=by have:=hi;omega
    subst hi2
    rw[Y0m]
    repeat' ((conv=>whnf);first|refine stp ?_|with_reducible apply Z01<;>intro h)
    rfl
theorem Zkb(e:Ex)(l:Int)(hok:okE e)(hl0:0<=l)(hl1:l<=1048576):ValOK Y00 gl 47 [.agg e.cells,.int .i64 l] (.bool (decide (0<=Z0X e l))):=by
 have hO:=Z60 (P:=Y00) (gl:=gl) (l:=[(109,[.agg e.cells,.int .i64 l],.int .i64 (Z0X e l))]) ⟨by have:=Z1l e;simpa[refsL,Z1o]using this,ZhX _ e l (Y05 _) hok hl0 hl1,trivial⟩
 have q:∀H,Z02 Y00 (Znk [(109,[.agg e.cells,.int .i64 l],.int .i64 (Z0X e l))]) H 109 [.agg e.cells,.int .i64 l]=some (.int .i64 (Z0X e l),H):=λH=>Zn1 (by kernel_rfl) Z68
 obtain⟨op,num,name,kids⟩:=e
 simp only[Ex.cells]at *
 refine Z05 follows Z07 hO Tryz.func47 rfl ?_
 repeat' ((conv=>whnf);first|refine exI (q _) ?_|refine stp ?_|with_reducible apply Z01<;>intro h)
 all_goals rfl
def ZaA(op num:Int)(name:List UInt8)(n:Nat):Bool:=Z4N op==(n:Int)&&((op==2)==Z3u name&&((op==2 || name==[])&&(decide (0<=num)&&(op==1 || num==0))))
def Zp0(e:Ex):Bool:=ZaA e.op e.num e.name e.kids.length
mutual
def Z0j:Ex->Bool
 | .mk o n s k=>ZaA o n s k.length&&rightL k
def rightL:List Ex->Bool
 |[]=>true
 |e::l=>Z0j e&&rightL l
end
theorem Z8S:∀{l:List Ex}{i:Nat}(h:i<l.length),Z0j l[i]=false->rightL l=false
 |e::l,0,h,h2=>by simp only[Y0b]at h2;simp only[rightL,h2,Bool.false_and]
 |e::l,i+1,h,h2=>by simp only[Y0a]at h2;simp only[rightL,Z8S (l:=l) (by simpa using h) h2,Bool.and_false]
theorem Z7u:∀(l:List Ex)(i:Nat)(h:i<l.length),rightL (l.take (i+1))=(rightL (l.take i)&&Z0j l[i])
 |e::l,0,h=>by simp only[Y02,Y03,rightL,Y0b,Y0s,Y0z]
 |e::l,i+1,h=>by
  have:=Z7u l i (by simpa using h)
  simp only[Y02,rightL,Y0a]at this⊢;rw[this,Bool.and_assoc]
theorem Zeh:∀(n:Nat)(e:Ex),Z0a e<=n->okE e->ValOK Y00 gl 112 [.agg e.cells] (.bool (Z0j e))
 |0,e,h,_=>by have:=Z1r e;omega
 |n+1,.mk op num name kids,h,hok=>by
  simp only[Z0a]at h
  obtain⟨⟨hn1,hn2⟩,hok2⟩:=Z0S hok
  simp only[Ex.name,Ex.kids]at hn1 hn2 hok2
  obtain⟨O,hO,p1,p2,p3,-⟩:=fams (P:=Y00) (gl:=gl) [{ I:=Unit,f:=147,G:=λ_=>True,A:=λ_=>[.int .i64 op],R:=λ_=>.int .i64 (Z4N op),body:=by kernel_rfl,inj:=λ_ _ _ _ _=>rfl,ok:=λ_ _=>⟨rfl,Zmz _⟩ },
   { I:=Unit,f:=148,G:=λ_=>True,A:=λ_=>[.str name],R:=λ_=>.bool (Z3u name),body:=by kernel_rfl,inj:=λ_ _ _ _ _=>rfl,ok:=λ_ _=>⟨rfl,Zfl _ hn1⟩ },
   famE (g:=112) (by kernel_rfl) (λk=>.bool (Z0j k)) kids λk hk=>Zeh n k (by have:=Z0h _ _ hk;omega) (Z0k hok2 _ hk)] rfl
  have q1:∀H,Z02 Y00 O H 147 [.int .i64 op]=some (.int .i64 (Z4N op),H):=p1 () trivial
  have q2:∀H,Z02 Y00 O H 148 [.str name]=some (.bool (Z3u name),H):=p2 () trivial
  have q3:∀i (h:i<kids.length) H,Z02 Y00 O H 112 [.agg kids[i].cells]=some (.bool (Z0j kids[i]),H):=λi h=>p3 _ (Z03 h)
  clear p1 p2 p3
  simp only[Ex.cells]
  refine Z05 follows Z07 hO Tryz.func112 rfl ?_
  have hop:(op==2)=true\/(op==2)=false:=by cases (op==2)<;>simp
  obtain⟨w,hw⟩:∃w,Z3u name=w:=⟨_,rfl⟩
  rw[hw]at q2
  cases w<;>rcases hop with hop|hop
  all_goals (repeat' ((conv=>whnf);first|refine exI (q1 _) ?_|refine exI (q2 _) ?_|refine stp ?_|with_reducible apply Z01<;>intro h))
  all_goals (first|(clear q1 q2 q3 hO;simp only[Z0j];(first|(simp_all[Z1C,ZaA];done)|(simp_all[Z1C,ZaA];intros;omega)))|skip)
  all_goals (have hown:ZaA op num name kids.length=true:=by (clear q1 q2 q3 hO;simp_all[ZaA]))
  all_goals (conv=>whnf)
  all_goals refine⟨Nat,(λi=>i<=kids.length/\rightL (kids.take i)=true),(λi=>[(1,.ptr 0 0),(3,.int .i64 i)]),(λ_=>[⟨true,0,0,.cells [.int .i64 op,.int .i64 num,.str name,.rs kids.length 4 (exC kids)] 69⟩]),(λi=>kids.length-i),⟨0,⟨Y0g _,rfl⟩,Y0h [0] rfl ?_ ⟨hbp,trivial⟩ rfl⟩,?_⟩
  all_goals first|((repeat (first|exact trivial|refine stw ?_));done)|skip
  all_goals (
   rintro i ⟨hi,hall⟩
   dsimp only
   by_cases hlt:i<kids.length
   · have e1:decide ((i:Int)<(kids.length:Int))=true:=by simpa using hlt
     have hx:=ex4 kids i hlt
     have q3':=q3 i hlt
     have ht:=Z7u kids i hlt
     rw[hall,Y0z]at ht
     cases hr:Z0j kids[i] with
     |true =>
      rw[hr]at q3' ht
      generalize kids[i]=k at *
      repeat' ((conv=>whnf);first|refine exI hx ?_|refine exI (q3' _) ?_|(with_reducible refine ixJ i rfl ?_ ?_;focus omega)|refine stp ?_|with_reducible apply Z01<;>intro h)
      conv=>whnf
      refine⟨i+1,⟨hlt,ht⟩,by show kids.length-(i+1)<kids.length-i;omega,Y0h [0] rfl ?_ ⟨hbp,trivial⟩ rfl⟩
      exact wks
     |false =>
      have hf:=Z8S hlt hr
      rw[hr]at q3'
      generalize kids[i]=k at *
      repeat' ((conv=>whnf);first|refine exI hx ?_|refine exI (q3' _) ?_|(with_reducible refine ixJ i rfl ?_ ?_;focus omega)|refine stp ?_|with_reducible apply Z01<;>intro h)
      simp only[Z0j,hf,Bool.and_false];rfl
   · have e1:decide ((i:Int)<(kids.length:Int))=false:=by simpa using hlt
     have hi2:i=kids.length:=by have:=hi;omega
     subst hi2
     rw[Y0m]at hall
     repeat' ((conv=>whnf);(first|refine stp ?_|with_reducible apply Z01<;>intro h))
     simp only[Z0j,hall,hown,Y0s];rfl)
def Z0K(e:Ex):Int:=if 2000<Z0a e\/32<Z2A e then 3 else if Z0j e then 0 else 2
theorem Z9h(e:Ex)(hok:okE e)(hs:Z0a e<=1048576):ValOK Y00 gl 48 [.agg e.cells] (.int .i64 (Z0K e)):=by
 have hd:=Z9e e
 obtain⟨O,hO,p1,p2,p3,-⟩:=fams (P:=Y00) (gl:=gl) [famE (g:=110) (by kernel_rfl) (λk=>.int .i64 (Z0a k)) [e] λk hk=>by rw[Y0N.1 hk];exact Ze6 _ e (Y05 _) hs,
  famE (g:=111) (by kernel_rfl) (λk=>.int .i64 (Z2A k)) [e] λk hk=>by rw[Y0N.1 hk];exact Zf4 _ e (Y05 _) hs,
  famE (g:=112) (by kernel_rfl) (λk=>.bool (Z0j k)) [e] λk hk=>by rw[Y0N.1 hk];exact Zeh _ e (Y05 _) hok] rfl
 have q1:∀H,Z02 Y00 O H 110 [.agg e.cells]=some (.int .i64 (Z0a e),H):=p1 e (by show e∈[e];simp)
 have q2:∀H,Z02 Y00 O H 111 [.agg e.cells]=some (.int .i64 (Z2A e),H):=p2 e (by show e∈[e];simp)
 have q3:∀H,Z02 Y00 O H 112 [.agg e.cells]=some (.bool (Z0j e),H):=p3 e (by show e∈[e];simp)
 clear p1 p2 p3
 unfold Z0K
 generalize Z0a e=n at *
 generalize Z2A e=d at *
 generalize Z0j e=r at *
 obtain⟨op,num,name,kids⟩:=e
 simp only[Ex.cells]at *
 refine Z05 follows Z07 hO Tryz.func48 rfl ?_
 repeat' ((conv=>whnf);first|refine exI (q1 _) ?_|refine exI (q2 _) ?_|refine exI (q3 _) ?_|refine stp ?_|with_reducible apply Z01<;>intro h)
 all_goals (show AV.int _ _=AV.int _ _;congr 1;clear q1 q2 q3 hO;simp only[decide_eq_true_eq,decide_eq_false_iff_not,Y0x,Bool.not_eq_false']at *)
 all_goals (repeat' split)
 all_goals (first|rfl|omega|(simp_all;done)|(exfalso;simp_all;omega))
end
end Go.Proofs.YthbimonbnaodkaaGreatDoor.lex
section
namespace Go.Flat
inductive Rch (nx:Nat->List Nat):Nat->Prop
 |zero:Rch nx 0
 |next {v w:Nat} (h:Rch nx v) (hw:w∈nx v):Rch nx w
def upd{α : Type}(f:Nat -> α)(v:Nat)(x : α):Nat -> α:=λu=>if u=v then x else f u
theorem Z0b{α : Type}(f:Nat -> α)(v:Nat)(x : α):upd f v x v=x:=if_pos rfl
theorem Z09{α : Type}{f:Nat -> α}{v u:Nat}{x : α}(h:u≠v):upd f v x u=f u:=if_neg h
structure Ds where
 st:Nat->Nat
 gone:Nat->Nat
 path:List Nat
 l:List Nat
def ZpH(nx:Nat->List Nat)(st:Nat->Nat)(v m:Nat):Prop:=∀j,j<m->∀w,(nx v)[j]? = some w->st w=2
def Up(nx:Nat->List Nat)(st gone:Nat->Nat):Nat->List Nat->Prop
 |v,[]=>v=0
 |v,u::p=>0<gone u/\(nx u)[gone u-1]? = some v/\ZpH nx st u (gone u-1)/\Up nx st gone u p
structure Inv (n:Nat) (nx:Nat->List Nat) (s:Ds):Prop where
 opn:∀v,s.st v=1 ↔ v∈s.path
 cls:∀v,s.st v=2 ↔ v∈s.l
 nd:s.path.Nodup
 ndl:s.l.Nodup
 lt:∀v,s.st v≠0->v<n
 new:∀v,s.st v=0->s.gone v=0
 le:∀v,s.gone v<=(nx v).length
 top:∀v p,s.path=v::p->ZpH nx s.st v (s.gone v)/\Up nx s.st s.gone v p
 zero:s.path=[]->s.st 0=2
 fall:∀a v b,s.l=a++v::b->∀w∈nx v,w∈b
def start:Ds:=⟨upd (λ_=>0) 0 1,λ_=>0,[0],[]⟩
def shut(s:Ds)(v:Nat)(p:List Nat):Ds:=⟨upd s.st v 2,s.gone,p,v::s.l⟩
def left(n:Nat)(nx:Nat->List Nat)(s:Ds):Nat:=((List.range n).map λv=>((nx v).length-s.gone v)+(if s.st v=2 then 0 else 1)).sum
theorem ZaU{f g:Nat->Nat}:∀{l:List Nat}{v:Nat},v∈l->(∀x∈l,g x<=f x)->g v<f v->(l.map g).sum<(l.map f).sum
 |x::l,v,hv,hle,hlt=>by
  simp only[Y0i,Y0E]
  have hx:=hle x (by simp)
  have hls:(l.map g).sum<=(l.map f).sum:=by
   clear hv hlt hx
   induction l with
   |nil=>simp
   |cons y l ih =>
    simp only[Y0i,Y0E]
    have:=hle y (by simp)
    have:=ih λz hz=>hle z (by
     rcases Y0f.1 hz with rfl|hz
     ·simp
     ·simp[hz])
    omega
  by_cases e:v=x
  ·subst e;omega
  · rcases Y0f.1 hv with h|h
    ·exact absurd h e
    · have:=ZaU h (λy hy=>hle y (by simp[hy])) hlt
      omega
end Go.Flat
end
section
namespace Go.Flat
structure In (α : Type) where
 kind:Int
 reg:Int
 loc:Int
 order:Int
 to:Int
 ex:List α
structure Ev where
 kind:Int
 loc:Int
 order:Int
 rd:Int
 wr:Int
structure Th where
 at_:Nat
 regs:List Int
 evs:List Ev
inductive Stp where
 |on (s:Th)
 |ends (e:Int)
 |asks
variable {α : Type} (ev : α -> List Int->Int) (wr:Int->Int)
def val(i:In α)(regs:List Int)(k:Nat):Int:=match i.ex[k]? with|some e=>ev e regs|none=>0
def stp(i:In α)(s:Th):Stp :=
 let v:=val ev i s.regs 0
 let nxt:Th:=⟨s.at_+1,s.regs,s.evs⟩
 if i.kind=1 then .on ⟨s.at_+1,s.regs.set i.reg.toNat v,s.evs⟩
 else if i.kind=3 then .on ⟨s.at_+1,s.regs,s.evs++[⟨2,i.loc,i.order,0,v⟩]⟩
 else if i.kind=7 then .on ⟨s.at_+1,s.regs,s.evs++[⟨4,0,i.order,0,0⟩]⟩
 else if i.kind=8 then (if v=0 then .ends 2 else .on nxt)
 else if i.kind=9 then (if v=0 then .ends 3 else .on nxt)
 else if i.kind=10 then .on ⟨i.to.toNat,s.regs,s.evs⟩
 else if i.kind=11 then (if v=0 then .on ⟨i.to.toNat,s.regs,s.evs⟩ else .on nxt)
 else if i.kind=12 then .ends 4
 else if i.kind=13 then .ends 1
 else .asks
def nxI(i:In α)(at_:Nat):List Nat :=
 if i.kind=10 then [i.to.toNat] else if i.kind=11 then [at_+1,i.to.toNat] else if i.kind=12\/i.kind=13 then [] else [at_+1]
variable (ins:Nat->In α)
end Go.Flat
end
section
namespace Go.Proofs.YthbimonbnaodkaaGreatDoor.lex
open Go.Abs Go.RowKit Go.Flat
abbrev Ins:=In Ex
def icells(i:Ins):List AV:=[.int .i64 i.kind,.int .i64 i.reg,.int .i64 i.loc,.int .i64 i.order,.int .i64 i.to,exA i.ex]
def inC:List Ins->List AV
 |[]=>[]
 |i::l=>icells i++inC l
structure Cd where
 regs:Int
 ins:List Ins
def Cd.av(c:Cd):AV:=.agg [.int .i64 c.regs,.rs c.ins.length 6 (inC c.ins)]
def okC(c:Cd):Prop:=c.ins.length<=9223372036854775807/\∀i∈c.ins,i.ex.length<=9223372036854775807/\okL i.ex
theorem Zd0:∀l:List Ins,(inC l).length=l.length*6
 |[]=>rfl
 |i::l=>by simp only[inC,Y0p,Zd0 l,Y0e,icells,Y0A];omega
theorem Zkl(i:Ins)(l:List Ins)(k:Nat):(inC (i::l)).drop ((k+1)*6)=(inC l).drop (k*6):=by
 rw[show (k+1)*6=k*6+1+1+1+1+1+1 from by omega]
 simp only[inC,icells,Y0o,Y0y,Y0l]
theorem Z94:∀(l:List Ins)(k:Nat)(h:k<l.length),(inC l).drop (k*6)=icells l[k]++inC (l.drop (k+1))
 |i::l,0,h=>by simp only[Nat.zero_mul,Y0u,inC,Y0b,Y0l]
 |i::l,k+1,h=>by rw[Zkl,Z94 l k (by simpa using h)];simp only[Y0a,Y0l]
theorem in6(l:List Ins)(k:Nat)(h:k<l.length):tk 6 ((inC l).drop (k*6))=some (icells l[k]):=by
 rw[Z94 l k h];rfl
end Go.Proofs.YthbimonbnaodkaaGreatDoor.lex
end
section
namespace Go.Abs
open Go.RowKit
def grA{α : Type}(b z:Nat):List α -> AV
 |[]=>.nslice
 |_::r=>.slice b 0 (r.length+1) (r.length+1) z
def grB{α : Type}(b:Nat)(C:List α -> List AV)(ty:TypeId):List α -> Z00
 |[]=>[]
 |x::r=>[⟨true,b,0,.cells (C (x::r)) ty⟩]
theorem Zot {P : Program} {t t2 e : TypeId} {z by_ : Nat} (hT : Z7e P t t2 = some (e, z, by_)) {H : Z00} {x : AV} {xs : List AV} (hx : Z0U H z x = some (0, xs)) :
  Z16 P t t2 .nslice x H=some (.nslice,H):=by
 obtain⟨h1,i,u,h2,h3,h4,rfl,rfl⟩:=Z5M hT
 simp only[Z16,h1,h2,h3]
 rw[if_pos h4]
 simp only[hx,if_true]
def ZfY(f e:Nat):Z00->Prop
 |[]=>True
 |o::H=>(o.fam≠f\/o.sh+o.body.len<=e)/\ZfY f e H
theorem ZeX{f e:Nat}:∀{H:Z00},ZfY f e H->∀o∈H,o.fam=f->o.sh+o.body.len<=e
 |[],_,o,h,_=>by cases h
 |x::H,h,o,ho,hf=>by
  rcases Y0f.1 ho with rfl|ho
  · rcases h.1 with h1|h1
    ·exact absurd hf h1
    ·exact h1
  ·exact ZeX h.2 o ho hf
theorem Z34{f e:Nat}{H:Z00}(h:ZfY f e H):ZfX f e H=H:=Z4U (ZeX h)
theorem apS{P Q:Prop}(q:Q)(h:Zgb P Q:=by
 first
 |(with_reducible apply s1I (Zot (by assumption) ?_));(any_goals (exact rfl));done
 |(with_reducible apply s1I (Z2q (by assumption) ?_));(any_goals (exact rfl));done
 |(with_reducible apply s1I (Zan (by assumption) ?_ ?_ ?_));(any_goals (exact rfl));(all_goals first|omega|(simp only[List.length_cons];omega))
 |(with_reducible apply s1I (Z1m (by assumption) ?_ ?_ (Z34 ?_) ?_ ?_ ?_ ?_));(any_goals (exact rfl));(all_goals first
  |assumption
  |omega
  |(simp only[List.length_cons];omega)
  |(simp[ZfY,ABody.len];done)|(simp[ZfY,ABody.len];omega)
  |(simp;done)|(simp;omega))):P:=h q
theorem Z1H:∀l:List (List UInt8),(l.map AV.str).all one=true
 |[]=>rfl
 |x::l=>Z1H l
theorem ZaV:∀(l:List (List UInt8))(acc:List Nat),refsL (l.map AV.str) acc=acc
 |[],acc=>rfl
 |x::l,acc=>ZaV l acc
end Go.Abs
end
namespace Go.Proofs.YthbimonbnaodkaaGreatDoor.lex
open Go.Abs Go.RowKit
section
variable {gl:Z0o}
theorem Z7F {P : Program} {t e : TypeId} {z b : Nat} {u : AV} {H : Z00} (ht : P.underlying t = some (.slice e)) (hz : tsz P e = some z) (hb : (P.info? e).map (·.bytes) = some b) (hu : Z2k P e = some u) (hul : u.cells.length = z) (hz0 : z ≠ 0) (n : Nat)
  (h:n<=1099511627776) (h2:b*n<=140737488355328):Z1B P t (.int .i64 n) (.int .i64 n) H=some (.slice H.length 0 n n z,Z1s H (Z2D n u.cells) e):=by
 cases hi:P.info? e with
 |none=>rw[hi]at hb;cases hb
 |some i =>
  rw[hi]at hb
  simp only[Y0n,Option.some.injEq]at hb
  have h2':(b:Int)*(n:Int)<=140737488355328:=by
   have:((b*n:Nat):Int)<=((140737488355328:Nat):Int):=Int.ofNat_le.2 h2
   simpa using this
  simp only[Z1B,Z4D,ht,hz,hi,hb,hu]
  rw[if_pos ⟨by omega,by omega,by omega,h2'⟩]
  try simp only[Int.toNat_natCast]
  by_cases hn:n=0
  ·subst hn;simp[Z2D,Z1s]
  · have h0:¬(n*z=0):=λe=>by rcases Nat.mul_eq_zero.1 e with e|e;exact hn e;exact hz0 e
    rw[if_neg h0,if_pos hul]
theorem ZoB:∀(a b c vs:List AV),b.length=vs.length->spl (a++(b++c)) a.length vs=some (a++(vs++c))
 |[],[],c,[],_=>by cases c<;>rfl
 |[],x::b,c,v::vs,h=>by
  have:=ZoB [] b c vs (by simpa using h)
  simp only[Y0y,Y0A]at this
  simp only[Y0y,Y0A,Y0o,spl,this]
 |x::a,b,c,vs,h=>by
  have:=ZoB a b c vs h
  simp only[Y0o,Y0e,spl,this]
 |[],[],c,_::_,h=>by simp at h
 |[],_::_,c,[],h=>by simp at h
def ZbA:AV->Bool
 | .bool _=>true
 | .int _ _=>true
 | .str _=>true
 | .rs _ _ _=>true
 |_=>false
theorem Zko{H:Z00}{n:Nat}:∀{u:AV},ZbA u=true->frz H (n+1) u=some u
 | .bool _,_=>rfl
 | .int _ _,_=>rfl
 | .str _,_=>rfl
 | .rs _ _ _,_=>rfl
theorem Zbz{H:Z00}{n:Nat}:∀{cs:List AV},cs.all ZbA=true->Z0T (frz H (n+1)) cs=some cs
 |[],_=>rfl
 |c::cs,h=>by
  simp only[List.all_cons,Y08]at h
  simp only[Z0T,Zko h.1,Zbz h.2]
theorem Z1h{H:Z00}{n b f sh len cap z:Nat}{cs:List AV}{ty:TypeId}(hH:H[b]? = some ⟨true,f,sh,.cells cs ty⟩)(hc:cs.length=len*z)(hl:cs.all ZbA=true):frz H (n+2) (.slice b 0 len cap z)=some (.rs len z cs):=by
 cases len with
 |zero =>
  have:cs=[]:=List.eq_nil_of_length_eq_zero (by omega)
  subst this;rfl
 |succ m =>
  have h2:Z0T (frz H (n+1)) cs=some cs:=Zbz hl
  unfold frz
  simp only[hH,Y0u,Z6s hc]
  rw[h2]
def ZfV:AV->Bool
 | .bool _=>true
 | .int _ _=>true
 | .str _=>true
 | .rs _ _ _=>true
 | .nslice=>true
 |_=>false
theorem Zh6:∀{u:AV}{acc:List Nat},ZfV u=true->Z1o u acc=acc
 | .bool _,_,_=>by simp only[Z1o]
 | .int _ _,_,_=>by simp only[Z1o]
 | .str _,_,_=>by simp only[Z1o]
 | .rs _ _ _,_,_=>by simp only[Z1o]
 | .nslice,_,_=>by simp only[Z1o]
theorem Z1S:∀{l:List AV}{acc:List Nat},l.all ZfV=true->refsL l acc=acc
 |[],_,_=>by simp only[refsL]
 |c::l,acc,h=>by
  simp only[List.all_cons,Y08]at h
  simp only[refsL,Zh6 h.1,Z1S h.2]
theorem ZeS:∀{l:List AV},l.all ZbA=true->l.all ZfV=true:=by
 intro l h
 rw[Y0j]at h⊢
 intro u hu
 have:=h u hu
 cases u<;>simp_all[ZbA,ZfV]
theorem Z45(z:List AV)(hz:z.all ZfV=true):∀n,(Z2D n z).all ZfV=true
 |0=>rfl
 |n+1=>by simp only[Z2D,List.all_append,hz,Z45 z hz n,Y0s]
end
section
theorem msC {P : Program} {t e : TypeId} {z b : Nat} {u : AV} (ht : P.underlying t = some (.slice e)) (hz : tsz P e = some z) (hb : (P.info? e).map (·.bytes) = some b) (hu : Z2k P e = some u) (hul : u.cells.length = z) (hz0 : z ≠ 0) (n : Nat)
  (h:n<=1099511627776) (h2:b*n<=140737488355328):Z4D P t (.int .i64 n) (.int .i64 n)=some (Z2D n u.cells,e,z,n,n):=by
 cases hi:P.info? e with
 |none=>rw[hi]at hb;cases hb
 |some i =>
  rw[hi]at hb
  simp only[Y0n,Option.some.injEq]at hb
  have h2':(b:Int)*(n:Int)<=140737488355328:=by
   have:((b*n:Nat):Int)<=((140737488355328:Nat):Int):=Int.ofNat_le.2 h2
   simpa using this
  simp only[Z4D,ht,hz,hi,hb,hu]
  rw[if_pos ⟨by omega,by omega,by omega,h2'⟩]
  by_cases hn:n=0
  ·subst hn;simp[Z2D]
  · have h0:¬(n*z=0):=λe=>by rcases Nat.mul_eq_zero.1 e with e|e;exact hn e;exact hz0 e
    simp only[Int.toNat_natCast]
    rw[if_neg h0,if_pos hul]
theorem ZnV {P : Program} {ρ : Operand -> Option AV} {t e ty : TypeId} {z n : Nat} {zs : List AV} {d : Option Nat} {l : Operand} {p : String} {af : Array Edge} {gu : Option (Nat × Bool)} (h : Z4D P t (.int .i64 n) (.int .i64 n) = some (zs, e, z, n, n)) (hl : ρ l = some (.int .i64 n)) :
  Z2C P ρ { dst:=d,op:=.makeSlice t l l,type:=ty,pos:=p,after:=af,guard:=gu }=some (λb=>.slice b 0 n n z,.cells zs e):=by
 simp only[Z2C,hl,h]
theorem Zkp{H:Z00}{n:Nat}{a b a' b':AV}(h1:frz H n a=some a')(h2:frz H n b=some b'):frz H (n+1) (.agg [a,b])=some (.agg [a',b']):=by
 show (match Z0T (frz H n) [a,b] with|some l=>some (AV.agg l)|none=>none)=_
 simp only[Z0T,h1,h2]
end
end Go.Proofs.YthbimonbnaodkaaGreatDoor.lex
section
namespace Go.Flat
structure Rs (nx:Nat->List Nat) (out:Nat->Bool) (stk:List Nat):Prop where
 zero:out 0=true
 rch:∀v,out v=true->Rch nx v
 mark:∀v∈stk,out v=true
 done:∀v,out v=true->v ∉ stk->∀w∈nx v,out w=true
structure Rm (nx:Nat->List Nat) (v k:Nat) (out:Nat->Bool) (stk:List Nat):Prop where
 zero:out 0=true
 rch:∀v,out v=true->Rch nx v
 mark:∀v∈stk,out v=true
 self:out v=true
 done:∀u,out u=true->u ∉ stk->u≠v->∀w∈nx u,out w=true
 part:∀j,j<k->∀w,(nx v)[j]? = some w->out w=true
theorem Rs.start(nx:Nat->List Nat):Rs nx (upd (λ_=>false) 0 true) [0]:=by
 refine⟨Z0b _ _ _,λv h=>?_,λv h=>?_,λv h hn=>?_⟩
 · by_cases e:v=0
   ·subst e;exact .zero
   ·rw[Z09 e]at h;cases h
 ·simp only[Y0f,List.not_mem_nil,or_false]at h;subst h;exact Z0b _ _ _
 · have e:v≠0:=λe=>hn (by simp[e])
   rw[Z09 e]at h;cases h
theorem Rs.pop{nx:Nat->List Nat}{out:Nat->Bool}{stk:List Nat}{v:Nat}(h:Rs nx out (v::stk)):Rm nx v 0 out stk :=
 ⟨h.zero,h.rch,λu hu=>h.mark u (by simp[hu]),h.mark v (by simp),λu hu hn hne=>h.done u hu (by simp[hne,hn]),λj hj=>absurd hj (Nat.not_lt_zero _)⟩
theorem Rm.old{nx:Nat->List Nat}{out:Nat->Bool}{stk:List Nat}{v k w:Nat}(h:Rm nx v k out stk)(hw:(nx v)[k]? = some w)(ho:out w=true):Rm nx v (k+1) out stk :=
 ⟨h.zero, h.rch, h.mark, h.self, h.done, fun j hj x hx => by
   by_cases e:j=k
   ·subst e;rw[hw]at hx;cases hx;exact ho
   ·exact h.part j (by omega) x hx⟩
theorem Rm.push{nx:Nat->List Nat}{out:Nat->Bool}{stk:List Nat}{v k w:Nat}(h:Rm nx v k out stk)(hw:(nx v)[k]? = some w):Rm nx v (k+1) (upd out w true) (w::stk):=by
 have up:∀x,out x=true->upd out w true x=true:=λx hx=>by
  by_cases e:x=w
  ·subst e;exact Z0b _ _ _
  ·rw[Z09 e];exact hx
 refine⟨up _ h.zero,λx hx=>?_,λx hx=>?_,up _ h.self,λu hu hn hne x hx=>?_,λj hj x hx=>?_⟩
 · by_cases e:x=w
   ·subst e;exact .next (h.rch v h.self) (Y0t hw)
   ·rw[Z09 e]at hx;exact h.rch x hx
 · rcases Y0f.1 hx with rfl|hx
   ·exact Z0b _ _ _
   ·exact up _ (h.mark x hx)
 · have e:u≠w:=λe=>hn (by simp[e])
   rw[Z09 e]at hu
   exact up _ (h.done u hu (λhm=>hn (by simp[hm])) hne x hx)
 · by_cases e:j=k
   ·subst e;rw[hw]at hx;cases hx;exact Z0b _ _ _
   ·exact up _ (h.part j (by omega) x hx)
theorem Rm.fin{nx:Nat->List Nat}{out:Nat->Bool}{stk:List Nat}{v:Nat}(h:Rm nx v (nx v).length out stk):Rs nx out stk :=
 ⟨h.zero, h.rch, h.mark, fun u hu hn w hw => by
   by_cases e:u=v
   · subst e
     obtain⟨j,hj,rfl⟩:=List.getElem_of_mem hw
     exact h.part j hj _ (Y06 hj)
   ·exact h.done u hu hn e w hw⟩
theorem Rs.all{nx:Nat->List Nat}{out:Nat->Bool}(h:Rs nx out [])(v:Nat):out v=true ↔ Rch nx v:=by
 refine⟨h.rch v,λhv=>?_⟩
 induction hv with
 |zero=>exact h.zero
 |next hv hw ih=>exact h.done _ ih (by simp) _ hw
def Z1P(n:Nat)(out:Nat->Bool)(stk:List Nat):Nat:=((List.range n).map λv=>if out v=true then 0 else 2).sum+stk.length
theorem Zbm{n:Nat}{out:Nat->Bool}{stk:List Nat}{v:Nat}:Z1P n out stk<Z1P n out (v::stk):=by simp only[Z1P,Y0e];omega
theorem Z90{n:Nat}{out:Nat->Bool}{stk:List Nat}{w:Nat}(hw:w<n)(ho:out w=false):Z1P n (upd out w true) (w::stk)<Z1P n out stk:=by
 have key:((List.range n).map λv=>if upd out w true v=true then 0 else 2).sum+1<((List.range n).map λv=>if out v=true then 0 else 2).sum:=by
  have:∀(l:List Nat),w∈l->((l.map λv=>if upd out w true v=true then 0 else 2).sum+1<(l.map λv=>if out v=true then 0 else 2).sum):=by
   have le:∀(l:List Nat),(l.map λv=>if upd out w true v=true then 0 else 2).sum<=(l.map λv=>if out v=true then 0 else 2).sum:=by
    intro l
    induction l with
    |nil=>simp
    |cons x l ih =>
     simp only[Y0i,Y0E]
     have:(if upd out w true x=true then 0 else 2)<=(if out x=true then 0 else 2):=by
      by_cases e:x=w
      ·subst e;rw[Z0b];simp
      ·rw[Z09 e];exact Y05 _
     omega
   intro l hl
   induction l with
   |nil=>cases hl
   |cons x l ih =>
    simp only[Y0i,Y0E]
    by_cases e:x=w
    · subst e
      have:=le l
      rw[Z0b,ho]
      simp only[if_true,Bool.false_eq_true,if_false]
      omega
    · have:=ih (by rcases Y0f.1 hl with h|h;exact absurd h.symm e;exact h)
      rw[Z09 e]
      omega
  exact this _ (List.mem_range.2 hw)
 simp only[Z1P,Y0e];omega
end Go.Flat
end
section
namespace Go.Abs
open Go.RowKit
section
open Classical
noncomputable def snO(sn:Z0g)(ι : Z0f)(H:Z00)(W:World):Z0g:=λa=>if ∃ (b:Nat) (o:AObj) (p:Place),H[b]? = some o/\o.alive=true /\ ι b=some p/\p.blk=a.block then W.cell? a else sn a
end
def Zm9(F:Nat->List AV->Option AV):Orc:=λf args H=>match Z0T (frz H 30) args with
 |some az=>match F f az with|some r=>some (r,kil (λ_ _=>true) 0 H)|none=>none
 |none=>none
theorem Zdj{W:World}{a:Addr}{v:Value}(hv:W.cell? a=some v):a.block<W.heap.size:=by
 cases hq:W.heap[a.block]? with
 |none=>unfold World.cell? at hv;rw[hq]at hv;simp at hv
 |some ob=>exact (Array.getElem?_eq_some_iff.1 hq).1
theorem ZfJ{P:Program}{gl:Z0o}{F:Nat->List AV->Option AV}(h:∀f args r,F f args=some r->ValOK P gl f args r):OrcSound P gl (Zm9 F):=by
 intro f args H r H' hf sn ι W cargs hg hR ha
 unfold Zm9 at hf
 split at hf<;>try (simp at hf;done)
 rename_i az has
 split at hf<;>simp at hf
 rename_i r' hr
 obtain⟨rfl,rfl⟩:=hf
 have h2:=h f az r' hr
 have hle:∀a v,sn a=some v->snO sn ι H W a=some v:=λa v hv=>by
  unfold snO
  split
  ·exact (hR.snap a v hv).2.1
  ·exact hv
 have hcell:∀a v,snO sn ι H W a=some v->W.cell? a=some v:=λa v hv=>by
  unfold snO at hv
  split at hv
  ·exact hv
  ·exact (hR.snap a v hv).2.1
 have hR':R (snO sn ι H W) noI [] W :=
  ⟨fun b => ⟨fun hb => by simp at hb, fun ⟨p, hp⟩ => by simp [noI] at hp⟩, fun b p hp => by simp [noI] at hp, fun b o p hb => by simp at hb, fun b b' o o' p p' hb => by simp at hb,
    λa v hv=>⟨Zdj (hcell a v hv),hcell a v hv,λb o p hb=>by simp at hb⟩,λb o p hb=>by simp at hb⟩
 have hargs:LR (snO sn ι H W) noI az cargs:=Z0Y (λu r v=>Z3j hR.obj ⟨hle,λ_ _ h=>h⟩ (λb o p hb hal hp off v hv=>by
  unfold snO;rw[if_pos ⟨b,o,p,hb,hal,hp,rfl⟩];exact hv) 30 u r v) has ha
 refine (h2 _ W cargs (hg.mono (Z8n hle)) hR' hargs).monoY ?_
 rintro e W' ⟨v,rfl,hx,hv⟩
 generalize hs1:snx (snO sn ι H W) W.heap.size W'=s1 at hv
 have h1lt:∀a,a.block<W.heap.size->s1 a=snO sn ι H W a:=λa ha=>by rw[<- hs1];unfold snx;rw[if_pos ha]
 have h1ge:∀a,¬a.block<W.heap.size->s1 a=W'.cell? a:=λa ha=>by rw[<- hs1];unfold snx;rw[if_neg ha]
 have hle1:∀a v,sn a=some v->s1 a=some v:=λa v hv=>by rw[h1lt a (hR.snap a v hv).1];exact hle a v hv
 have hcell1:∀a v,s1 a=some v->W'.cell? a=some v:=λa v hv=>by
  by_cases hlt:a.block<W.heap.size
  · rw[h1lt a hlt]at hv
    have:=hcell a v hv
    unfold World.cell? at this⊢
    rw[hx.old _ hlt];exact this
  ·rw[h1ge a hlt]at hv;exact hv
 refine⟨v,s1,ι,rfl,Zcf hv,⟨λb=>⟨λhb=>?_,λ⟨p,hp⟩=>?_⟩,λb p hp=>?_,λb o p hb hal hp=>?_,λb b' o o' p p' hb hb' ha ha' hp hp' e=>?_,λa v hv=>?_,λb o p hb hp e=>?_⟩,⟨hle1,λ_ _ h=>h⟩,λb p hp=>.inl hp,λc hc _=>hx.old c hc,hx.size,hx.os,hx.tape,hx.output,λa v hv=>?_,λb o hb=>?_⟩
 ·rw[Z0z]at hb;exact (hR.dom b).1 hb
 ·rw[Z0z];exact (hR.dom b).2 ⟨p,hp⟩
 ·have:=hR.blk b p hp;have:=hx.size;omega
 · obtain⟨o0,_,_,_,h4⟩:=Z17 hb
   have:=(h4 hal).2;simp at this
 · obtain⟨o0,g1,g2,g3,g4⟩:=Z17 hb
   obtain⟨o0',g1',g2',g3',g4'⟩:=Z17 hb'
   rw[g2,g3,g2',g3']
   exact hR.sep b b' o0 o0' p p' g1 g1' (by rw[<- (g4 ha).1];exact ha) (by rw[<- (g4' ha').1];exact ha') hp hp' e
 · refine⟨Zdj (hcell1 a v hv),hcell1 a v hv,λb o p hb hal hp=>?_⟩
   obtain⟨o0,_,_,_,h4⟩:=Z17 hb
   have:=(h4 hal).2;simp at this
 · obtain⟨o0,g1,g2,g3,_⟩:=Z17 hb
   exact hR.shz b o0 p g1 hp (by rw[<- g3];exact e)
 · by_cases hlt:a.block<W.heap.size
   · rw[h1lt a hlt]at hv
     unfold snO at hv
     split at hv
     · rename_i hex
       obtain⟨b,o,p,x1,x2,x3,x4⟩:=hex
       exact .inr (.inr ⟨b,o,p,x1,x2,x3,x4⟩)
     ·exact .inl hv
   ·exact .inr (.inl (by omega))
 · rw[Z2Y,hb]
   simp only[Y0q,Y0n]
   refine⟨_,rfl,?_⟩
   simp[AObj.dead]
theorem Zpt{P:Program}{F:Nat->List AV->Option AV}{H:Z00}{g:Nat}{args fa:List AV}{r:AV}(h1:Z0l P g=true)(h2:Z0T (frz H 30) args=some fa)(h3:F g fa=some r):Z02 P (Zm9 F) H g args=some (r,kil (λ_ _=>true) 0 H):=by
 simp only[Z02,h1,if_true,Zm9,h2,h3]
end Go.Abs
end
section
namespace Go.Abs
open Go.RowKit
def Zcn(P:Program)(gl:Z0o)(k f:Nat)(args:List AV)(H:Z00)(r:AV)(H':Z00):Prop :=
 ∀(sn:Z0g)(ι : Z0f)(W:World)(cargs:List Value),GlOK gl sn->R sn ι H W->LR sn ι args cargs ->
  CallsY P f cargs.toArray W λe W'=>∃v sn' ι',e = .returned v/\VR sn' ι' r v/\Stq k sn ι H W sn' ι' H' W'
def Zks(P:Program)(l:List ResultVar)(k:Nat)(r:AV)(N:Z00)(tm:Tr)(H:Z00):Prop :=
 onO (Z3W P tm H l) λvs=>∃m,Zeq k 0 m=true/\HpGe H m m N 0/\Z0L (m.map (Z0e H))=true/\Wk m (Z1C vs) r
theorem fn_memqR {rf : AV -> Array Tmp -> Code -> Code -> KN -> KX -> KN -> Tr -> Z00 -> Prop} {P : Program} {gl : Z0o} {orc : Orc} {k : Nat} (hrf : ZoK P gl none k rf) (hm : P.follows .mixedOrders = true) (hn : NoNum P) (hO : OrcSound P gl orc) {f : Nat} {fn : Func} {c : Code} {args : List AV} {H0 N : Z00} {r : AV}
  (hf:P.funcs[f]? = some fn) (hc:fn.body=some c) {cw:CW} (hcw:Zco P orc cw)
  (h:Z0F (tmk (Z8K args fn.ntmps args.length) (Zaz 20 fn.ntmps)) λtm=>Z1G P gl orc cw ⟨Z63 k,rf⟩ c (Zks P fn.results.toList k r N) (λ_ _ _=>False) (Zks P fn.results.toList k r N) tm H0):Zcn P gl k f args H0 r N:=by
 intro sn ι W cargs hg hR ha
 rw[Z0d]at h
 refine .inl (Z4f hf hc (Z1F (rd:=none) hrf hm hn hO hcw c h) hg hR ha (λ_ _ _ h=>h) λx tm1 H a1 W1 sn1 ι1 hx s1 t1=>?_)
 have key:Zks P fn.results.toList k r N tm1 H->∃v,(results fn a1.tmps).run P W1 = .ok v W1/\∃sn' ι',VR sn' ι' r v/\Stq k sn ι H0 W sn' ι' N W1:=by
  intro h
  obtain⟨us,h1,m,h0,h2,h3,h4⟩:=Z04 h
  obtain⟨vs,k1,k2⟩:=Z1y s1.rel t1 _ _ h1
  obtain⟨hS,_⟩:=Fg.sound (k:=k) (m:=m) (tm:=tm1) (tm2:=Z3s (λ_=>none) tm1) ⟨⟨λn u2 e=>(by have:=Z5v _ _ _ _ e;cases this),λn e=>(by rw[Z73]at e;exact e)⟩,h2,h3,h0⟩ s1.rel t1
  exact⟨_,Z26 k2,sn1,iot m ι1,h4 _ _ _ (Zb2 (fn:=fn) k1),s1.trans hS⟩
 cases x with
 |normal =>
  obtain⟨v,k1,sn',ι',k2,k3⟩:=key hx
  exact⟨v,k1,v,sn',ι',rfl,k2,k3⟩
 |exit id=>exact hx.elim
 |ret =>
  obtain⟨v,k1,sn',ι',k2,k3⟩:=key hx
  exact⟨v,k1,v,sn',ι',rfl,k2,k3⟩
theorem Zi7 {P : Program} {gl : Z0o} {orc : Orc} (hm : P.follows .mixedOrders = true) (hn : NoNum P) (hO : OrcSound P gl orc) {f k : Nat} {fn : Func} {c : Code} {args : List AV} {H0 N : Z00} {r : AV}
  (hf:P.funcs[f]? = some fn) (hc:fn.body=some c) {cw:CW} (hcw:Zco P orc cw)
  (h:Z0F (tmk (Z8K args fn.ntmps args.length) (Zaz 20 fn.ntmps)) λtm=>Z1G P gl orc cw (Z8A k) c (Zks P fn.results.toList k r N) (λ_ _ _=>False) (Zks P fn.results.toList k r N) tm H0):Zcn P gl k f args H0 r N :=
 fn_memqR (λ_ _ _ _ _ _ _ _ _ _ _ h=>h.elim) hm hn hO hf hc hcw h
theorem Z5C {P : Program} {gl : Z0o} {orc : Orc} (hm : P.follows .mixedOrders = true) (hn : NoNum P) (hO : OrcSound P gl orc) {f k : Nat} {fn : Func} {c : Code} {args : List AV} {H0 N : Z00} {r : AV}
  (hf:P.funcs[f]? = some fn) (hc:fn.body=some c)
  (h:Z0F (tmk (Z8K args fn.ntmps args.length) (Zaz 20 fn.ntmps)) λtm=>Z1G P gl orc (cw0 P orc) (Z8A k) c (Zks P fn.results.toList k r N) (λ_ _ _=>False) (Zks P fn.results.toList k r N) tm H0):Zcn P gl k f args H0 r N :=
 Zi7 hm hn hO hf hc (Z85 P orc) h
theorem Za9 {P : Program} {gl : Z0o} {orc : Orc} (isC : Nat -> Bool) (n : Nat) (hm : P.follows .mixedOrders = true) (hn : NoNum P) (hO : OrcSound P gl orc) {f k : Nat} {fn : Func} {c : Code} {args : List AV} {H0 N : Z00} {r : AV}
  (hf:P.funcs[f]? = some fn) (hc:fn.body=some c)
  (h:Z0F (tmk (Z8K args fn.ntmps args.length) (Zaz 20 fn.ntmps)) λtm=>Z1G P gl (ZfH P gl orc isC n) (Zj9 P gl orc isC n) (Z8A k) c (Zks P fn.results.toList k r N) (λ_ _ _=>False) (Zks P fn.results.toList k r N) tm H0):Zcn P gl k f args H0 r N :=
 Zi7 hm hn (Z3d hm hn hO n) hf hc (Z55 n) h
def Zay(m:List Nat)(σ : Nat->Nat)(k:Nat)(Hs:Z00):Nat->Z00->Z00
 |_,[]=>[]
 |i,o::H=>(match Z0Q m i 0 with
  |some j=>if Nat.blt j k then (match Hs[j]? with
   |some o'=>{ o with alive:=o'.alive,body:=Z36 σ o'.body }
   |none=>o) else o.dead
  |none=>o)::Zay m σ k Hs (i+1) H
theorem Z4l (m : List Nat) (σ : Nat -> Nat) (k : Nat) (Hs : Z00) : ∀ (H : Z00) (i b : Nat), (Zay m σ k Hs i H)[b]? = (H[b]?).map fun o => match Z0Q m (i + b) 0 with
  |some j=>if Nat.blt j k then (match Hs[j]? with
   |some o'=>{ o with alive:=o'.alive,body:=Z36 σ o'.body }
   |none=>o) else o.dead
  |none=>o
 |[],i,b=>by simp[Zay]
 |o::H,i,0=>by
  simp only[Zay,List.getElem?_cons_zero,Y0n,Nat.add_zero]<;>rfl
 |o::H,i,b+1=>by
  simp only[Zay,List.getElem?_cons_succ]
  rw[Z4l m σ k Hs H (i+1) b,show i+1+b=i+(b+1) by omega]
theorem ZdT(m:List Nat)(σ : Nat->Nat)(k:Nat)(Hs:Z00):∀(H:Z00)(i:Nat),(Zay m σ k Hs i H).length=H.length
 |[],i=>rfl
 |o::H,i=>by simp only[Zay,Y0e,ZdT m σ k Hs H (i+1)]
def Z29(m fs:List Nat):Nat->Z00->Bool
 |_,[]=>true
 |i,o::H=>(mem i m || (!o.alive || !mem o.fam fs))&&Z29 m fs (i+1) H
theorem Z7H{m fs:List Nat}:∀{H:Z00}{i j:Nat}{o:AObj},Z29 m fs i H=true->H[j]? = some o->o.alive=true->i+j∈m\/o.fam ∉ fs
 |[],i,j,o,h,e,_=>by simp at e
 |x::H,i,0,o,h,e,ha=>by
  simp only[Z29,Y08,Y0O,Y0x]at h
  simp at e;subst e
  rcases h.1 with h1|h1|h1
  ·exact .inl (Z0W.1 h1)
  ·rw[ha]at h1;cases h1
  ·exact .inr λe=>by rw[Z0W.2 e]at h1;cases h1
 |x::H,i,j+1,o,h,e,ha=>by
  simp only[Z29,Y08]at h
  have:=Z7H h.2 (by simpa using e) ha
  rcases this with h1|h1
  ·exact .inl (by rw[show i+(j+1)=i+1+j by omega];exact h1)
  ·exact .inr h1
def sig(m:List Nat)(k d:Nat)(b:Nat):Nat:=if b<k then m.getD b 0 else d
theorem Z4t {P : Program} {gl : Z0o} {f k : Nat} {Hs Hs' Hc : Z00} {fargs cargs : List AV} {r : AV} {m : List Nat} {n F : Nat} {bL : ABody} (hM : Zcn P gl k f fargs Hs r Hs') (hargs : Z0T (Z4A m (Z5U m Hc) n) cargs = some fargs) (hsub : HpGe Hc m m Hs 0)
  (hnd:Z0L (m.map (Z0e Hc))=true) (hlone:Z29 m (m.map (Z0e Hc)) 0 Hc=true) (hlen':Hs'.length=k+1) (hL:Hs'[k]? = some ⟨true,k,0,bL⟩)
  (hg2:∀(i:Nat)(o:AObj),Hs'[i]? = some o->o.fam=i/\o.alive=true/\Z0J (k+1) (Z3c o.body [])=true) (hs0:∀(i:Nat)(o:AObj),Hs[i]? = some o->o.sh=0)
  (hro:Zbc Hs'=true) (hrr:Zck r=true) (hrk:Z0J (k+1) (Z1o r [])=true) (hF:(m.length=k/\∀o∈Hc,o.fam<F)\/(m.length=k+1/\F=Z0e Hc (m.getD k 0))) :
  Z10 P gl f cargs Hc (ren (sig m k Hc.length) r) (Zay m (sig m k Hc.length) k Hs' 0 Hc++[⟨true,F,0,Z36 (sig m k Hc.length) bL⟩]):=by
 intro sn ι W vargs hg hR hl
 obtain⟨hl1,hg1⟩:=hsub.get
 have hmk:k<=m.length/\m.length<=k+1:=by rcases hF with ⟨h,_⟩|⟨h,_⟩<;>omega
 have inm:∀b,b∈m->∃ (i:Nat) (o o2:AObj) (p:Place),m[i]? = some b/\Hc[b]? = some o/\Hs[i]? = some o2/\o.alive=true/\o2.alive=true /\ ι b=some p:=by
  intro b hb
  obtain⟨i,hi,rfl⟩:=List.mem_iff_getElem.1 hb
  obtain⟨j,o,o2,x1,x2,x3,x4,x5,_⟩:=hg1 i hi
  rw[Y06 hi]at x1
  cases x1
  obtain⟨p,hp⟩:=hR.place x2
  exact⟨i,o,o2,p,Y06 hi,x2,x3,x4,x5,hp⟩
 have apart_:∀(b:Nat)(o:AObj)(p:Place),Hc[b]? = some o->o.alive=true->b ∉ m -> ι b=some p->∀b' p',b'∈m -> ι b'=some p'->p'.blk≠p.blk:=by
  intro b o p ho hoa hb hp b' p' hb' hp' e
  obtain⟨i,o',o2,q,y1,y2,y3,y4,y5,y6⟩:=inm b' hb'
  have hs:=hR.sep b b' o o' p p' ho y2 hoa y4 hp hp' e.symm
  rcases Z7H hlone ho hoa with h|h
  ·exact hb (by simpa using h)
  · refine h ?_
    rw[List.mem_map]
    exact⟨b',hb',by simp only[Z0e,y2];exact hs.1.symm⟩
 let q:Nat->Prop:=λc=>∃b p,b∈m /\ ι b=some p/\p.blk=c
 let sn2:Z0g:=λa=>open Classical in if q a.block\/¬a.block<W.heap.size then none else W.cell? a
 have hsn2:∀a v,sn2 a=some v->¬q a.block/\a.block<W.heap.size/\W.cell? a=some v:=λa v h=>by
  have h:(open Classical in if q a.block\/¬a.block<W.heap.size then none else W.cell? a)=some v:=h
  split at h
  ·cases h
  · rename_i hx
    simp only[not_or,Classical.not_not]at hx
    exact⟨hx.1,hx.2,h⟩
 have hsn2':∀a v,¬q a.block->a.block<W.heap.size->W.cell? a=some v->sn2 a=some v:=λa v h1 h2 h3=>by
  show (open Classical in if q a.block\/¬a.block<W.heap.size then none else W.cell? a)=some v
  rw[if_neg (by simp only[not_or,Classical.not_not];exact⟨h1,h2⟩)];exact h3
 have hle:∀a v,sn a=some v->sn2 a=some v:=λa v hv=>by
  obtain⟨h1,h2,h3⟩:=hR.snap a v hv
  refine hsn2' a v ?_ h1 h2
  rintro⟨b,p,hb,hp,e⟩
  obtain⟨i,o,o2,p',y1,y2,y3,y4,y5,y6⟩:=inm b hb
  exact h3 b o p y2 y4 hp e
 have hR0:=ZlP hsub hnd hR
 have atm:∀{i:Nat}{p:Place},iot m ι i=some p->∃b,m[i]? = some b/\b∈m /\ ι b=some p:=λ{i p} hp=>by
  unfold iot at hp
  split at hp
  ·rename_i b hb;exact⟨b,hb,Y0t hb,hp⟩
  ·cases hp
 have hRs:R sn2 (iot m ι) Hs W:=by
  refine⟨hR0.dom,hR0.blk,λb o p hb ha hp=>Z0P ⟨hle,λ_ _ h=>h⟩ rfl (hR0.obj b o p hb ha hp),hR0.sep,λa v hv=>?_,hR0.shz⟩
  obtain⟨h1,h2,h3⟩:=hsn2 a v hv
  refine⟨h2,h3,λb o p hb ha hp e=>?_⟩
  obtain⟨c,_,hc,hp'⟩:=atm hp
  exact h1 ⟨c,p,hc,hp',e⟩
 have hla:LR sn2 (iot m ι) fargs vargs:=by
  refine Z4P (H:=Z5U m Hc) (W:=W) (λb o p hb ha hp=>?_) (Z8n hle) (λb o p hb ha hp off v hv=>?_) n _ _ _ hargs hl
  ·exact hR.obj b o p (Z76 hb ha).1 ha hp
  · obtain⟨h1,h2⟩:=Z76 hb ha
    refine hsn2' _ v ?_ (hR.blk b p hp) hv
    rintro⟨b',p',hb',hp',e⟩
    exact apart_ b o p h1 ha h2 hp b' p' hb' hp' e
 refine (hM sn2 (iot m ι) W vargs (hg.mono (Z8n hle)) hRs hla).mono ?_
 rintro e W' ⟨v,sn',ι',rfl,hv,hst⟩
 generalize hd:Hc.length=d at *
 obtain⟨pL,hpL⟩:=(hst.rel.dom k).1 (by omega)
 have hshL:pL.sh=0:=hst.rel.shz k _ pL hL hpL rfl
 have hblkL:=hst.rel.blk k pL hpL
 let κ : Z0f:=λb=>if b<d then ι b else if b=d then some pL else none
 have k1:∀b,b<d -> κ b = ι b:=λb hb=>if_pos hb
 have k2 : κ d=some pL:=by show (if d<d then ι d else if d=d then some pL else none)=some pL;rw[if_neg (by omega),if_pos rfl]
 have kinv:∀b p,κ b=some p->(b<d /\ ι b=some p)\/(b=d/\p=pL):=λb p hp=>by
  by_cases hb:b<d
  ·rw[k1 b hb]at hp;exact .inl ⟨hb,hp⟩
  · have hp:(if b<d then ι b else if b=d then some pL else none)=some p:=hp
    rw[if_neg hb]at hp
    split at hp
    ·cases hp;exact .inr ⟨by assumption,rfl⟩
    ·cases hp
 have whereL:W.heap.size<=pL.blk\/∃ (c:Nat) (oc:AObj) (pc:Place),m.length=k+1/\m[k]? = some c/\Hc[c]? = some oc/\oc.alive=true/\oc.sh=0 /\ ι c=some pc/\pc.blk=pL.blk:=by
  rcases hst.fresh k _ pL hL rfl hpL with h|⟨b0,o0,p0,e1,e2,e3,e4⟩
  ·exact .inl h
  · obtain⟨c,hc,hcm,hpc⟩:=atm e3
    have hb0:b0<m.length:=(Y0d.1 hc).1
    obtain⟨j,o,o2,x1,x2,x3,x4,x5,x6,x7,x8⟩:=hg1 b0 hb0
    rw[hc]at x1;cases x1
    by_cases hlt:b0<k
    · exfalso
      have hkeep:=hst.keep b0 p0 hlt e3
      obtain⟨ob,hob⟩:∃ob,Hs'[b0]? = some ob:=⟨_,Y06 (by omega)⟩
      have hs:=hst.rel.sep b0 k ob _ p0 pL hob hL (hg2 b0 ob hob).2.1 rfl hkeep hpL e4
      have h1:=(hg2 b0 ob hob).1
      rw[h1]at hs
      simp at hs
      omega
    · have hbk:b0=k:=by omega
      subst hbk
      rw[e1]at x3;cases x3
      exact .inr ⟨c,o,p0,by omega,hc,x2,x4,by rw[<- x7];exact hs0 _ _ e1,hpc,e4⟩
 have mLt:∀{i b:Nat},m[i]? = some b->b<d:=λ{i b} h=>by
  obtain⟨_,o,_,p,_,y2,_⟩:=inm b (Y0t h)
  rw[<- hd];exact (Y0d.1 y2).1
 have hback:∀i,i<k+1->∀p,ι' i=some p -> κ (sig m k d i)=some p:=λi hi p hp=>by
  by_cases hik:i<k
  · obtain⟨b,hb⟩:∃b,m[i]? = some b:=⟨m[i],Y06 (by omega)⟩
    obtain⟨p0,hp0⟩:=(hRs.dom i).1 (by omega)
    have h1:=hst.keep i p0 hik hp0
    rw[hp]at h1;cases h1
    obtain⟨c,hc,_,hp1⟩:=atm hp0
    rw[hb]at hc;cases hc
    have:sig m k d i=b:=by unfold sig;rw[if_pos hik,Y0r,hb];rfl
    rw[this,k1 b (mLt hb)];exact hp1
  · have:i=k:=by omega
    subst this
    rw[hpL]at hp;cases hp
    have:sig m i d i=d:=by unfold sig;rw[if_neg (by omega)]
    rw[this];exact k2
 have pos_:∀b,b∈m->∃i,Z0Q m b 0=some i/\m[i]? = some b:=λb hb=>by
  cases hx:Z0Q m b 0 with
  |none=>exact (Z5m hx hb).elim
  |some i=>exact⟨i,rfl,by simpa using (Z27 hx).2⟩
 have old:∀(b:Nat)(o:AObj)(p:Place),Hc[b]? = some o->o.alive=true->b ∉ m -> ι b=some p->W'.heap[p.blk]? = W.heap[p.blk]?:=λb o p ho hoa hb hp=>by
  refine hst.frame _ (hR.blk b p hp) λi o2 p2 hi ha hp2 e=>?_
  obtain⟨c,_,hc,hp3⟩:=atm hp2
  exact apart_ b o p ho hoa hb hp c p2 hc hp3 e
 have hup:∀(b:Nat)(o':AObj),(Zay m (sig m k d) k Hs' 0 Hc)[b]? = some o'->∃o,Hc[b]? = some o/\o'.fam=o.fam/\o'.sh=o.sh/\((b ∉ m/\o'=o)\/(∃ (i:Nat) (x:AObj),i<k/\m[i]? = some b/\Hs'[i]? = some x/\o'.alive=x.alive/\o'.body=Z36 (sig m k d) x.body/\o.alive=true)\/o'.alive=false):=by
  intro b o' h
  rw[Z4l]at h
  simp only[Y0q]at h
  cases hx:Hc[b]? with
  |none=>rw[hx]at h;cases h
  |some o =>
   rw[hx]at h
   simp only[Y0n,Option.some.injEq]at h
   refine⟨o,rfl,?_⟩
   by_cases hb:b∈m
   · obtain⟨i,h1,h2⟩:=pos_ b hb
     have hi:i<m.length:=(Y0d.1 h2).1
     rw[h1]at h
     by_cases hik:i<k
     · have hi':i<Hs'.length:=by omega
       simp only[Nat.blt_eq,hik,Y06 hi',if_true]at h
       subst h
       obtain⟨_,y,_,_,_,y2,_,y4,_⟩:=inm b hb
       rw[hx]at y2;cases y2
       exact⟨rfl,rfl,.inr (.inl ⟨i,Hs'[i],hik,h2,Y06 hi',rfl,rfl,y4⟩)⟩
     · simp only[Nat.blt_eq,hik,if_false]at h
       subst h
       exact⟨rfl,rfl,.inr (.inr rfl)⟩
   · have hn : Z0Q m b 0 = none := by
      cases hx:Z0Q m b 0 with
      |none=>rfl
      |some i=>exact (hb (Y0t (Z27 hx).2)).elim
     rw[hn]at h
     subst h
     exact⟨rfl,rfl,.inl ⟨hb,rfl⟩⟩
 have hlen:(Zay m (sig m k d) k Hs' 0 Hc).length=d:=by rw[ZdT,hd]
 have hget : ∀ (b : Nat) (o' : AObj) (p : Place), (Zay m (sig m k d) k Hs' 0 Hc ++ [⟨true, F, 0, Z36 (sig m k d) bL⟩])[b]? = some o' -> κ b = some p ->
   (b<d /\ ι b=some p/\(Zay m (sig m k d) k Hs' 0 Hc)[b]? = some o')\/(b=d/\p=pL/\o'=⟨true,F,0,Z36 (sig m k d) bL⟩):=by
  intro b o' p hb hp
  rcases kinv b p hp with ⟨h1,h2⟩|⟨rfl,rfl⟩
  · rw[Y0F (by omega)]at hb
    exact .inl ⟨h1,h2,hb⟩
  · rw[List.getElem?_append_right (by omega),hlen,Nat.sub_self]at hb
    simp at hb
    exact .inr ⟨rfl,rfl,hb.symm⟩
 have hnr:∀c,c<W.heap.size->(∀(b:Nat)(o:AObj) p,Hc[b]? = some o->o.alive=true -> ι b=some p->p.blk≠c)->W'.heap[c]? = W.heap[c]?:=λc hc hno=>by
  refine hst.frame c hc λi o2 p2 hi ha hp2 e=>?_
  obtain⟨b,_,hb,hp3⟩:=atm hp2
  obtain⟨_,o,_,_,_,y2,_,y4,_⟩:=inm b hb
  exact hno b o p2 y2 y4 hp3 e
 have sepL:∀(b:Nat)(o:AObj)(p:Place),Hc[b]? = some o->o.alive=true -> ι b=some p->p.blk=pL.blk->o.fam=F/\p.sh=o.sh:=by
  intro b o p ho hoa hp e
  rcases whereL with h|⟨c,oc,pc,g1,g2,g3,g4,g5,g6,g7⟩
  ·have:=hR.blk b p hp;omega
  · have hs:=hR.sep c b oc o pc p g3 ho g4 hoa g6 hp (g7.trans e.symm)
    have hpc:=hR.shz c oc pc g3 g6 g5
    rcases hF with ⟨h,_⟩|⟨_,h⟩
    ·omega
    · have:m.getD k 0=c:=by rw[Y0r,g2];rfl
      rw[this]at h
      simp only[Z0e,g3]at h
      exact⟨by rw[h];exact hs.1.symm,by omega⟩
 have halx:∀{b:Nat}{o x:AObj},((b ∉ m/\o=x)\/(∃ (i:Nat) (y:AObj),i<k/\m[i]? = some b/\Hs'[i]? = some y/\o.alive=y.alive/\o.body=Z36 (sig m k d) y.body/\x.alive=true)\/o.alive=false)->o.alive=true->x.alive=true:=by
  intro b o x hz ha
  rcases hz with ⟨_,rfl⟩|⟨_,_,_,_,_,_,_,h⟩|h
  ·exact ha
  ·exact h
  ·rw[h]at ha;cases ha
 have hR':R sn κ (Zay m (sig m k d) k Hs' 0 Hc++[⟨true,F,0,Z36 (sig m k d) bL⟩]) W':=by
  refine⟨λb=>⟨λhb=>?_,λ⟨p,hp⟩=>?_⟩,λb p hp=>?_,λb o' p hb ha hp=>?_,λb b' o o' p p' hb hb' ha ha' hp hp' e=>?_,λa v hv=>?_,λb o' p hb hp e=>?_⟩
  · simp only[Y0p,hlen,Y0e,Y0A]at hb
    by_cases hlt:b<d
    ·rw[k1 b hlt];exact (hR.dom b).1 (by omega)
    · have:b=d:=by omega
      subst this;exact⟨pL,k2⟩
  · simp only[Y0p,hlen,Y0e,Y0A]
    rcases kinv b p hp with ⟨h1,_⟩|⟨h1,_⟩<;>omega
  · rcases kinv b p hp with ⟨_,h1⟩|⟨_,rfl⟩
    ·exact Y0C (hR.blk b p h1) hst.size
    ·exact hblkL
  · rcases hget b o' p hb hp with ⟨b1,b2,b3⟩|⟨b1,rfl,rfl⟩
    · obtain⟨o,ho,_,_,h|⟨i,x,h0,h1,h2,h3,h4,h5⟩|h⟩:=hup b o' b3
      · obtain⟨h1,rfl⟩:=h
        refine Z0P ⟨λ_ _ h=>h,λc p hc=>?_⟩ (old b _ p ho ha h1 b2) (hR.obj b _ p ho ha b2)
        rw[k1 c (by have:=(hR.dom c).2 ⟨p,hc⟩;omega)];exact hc
      · rw[h4]
        have hi':=hst.rel.obj i x p h2 (by rw[<- h3];exact ha) (hst.keep i p h0 (by simp only[iot,h1];exact b2))
        have h7:=(hg2 i x h2).2.2
        exact Z8i x.body (Z3M x.body p (λy hy=>hback y (Z0N h7 y hy)) (ZdG x.body (Z5s hro h2) hi'))
      ·rw[h]at ha;cases ha
    · have hi':=hst.rel.obj k _ p hL rfl hpL
      have h7:=(hg2 k _ hL).2.2
      exact Z8i bL (Z3M bL p (λy hy=>hback y (Z0N h7 y hy)) (ZdG bL (Z5s hro hL) hi'))
  · rcases hget b o p hb hp with ⟨b1,b2,b3⟩|⟨b1,rfl,rfl⟩<;>rcases hget b' o' p' hb' hp' with ⟨c1,c2,c3⟩|⟨c1,rfl,rfl⟩
    · obtain⟨x,hx,e1,e2,hz⟩:=hup b o b3
      obtain⟨y,hy,e3,e4,hw⟩:=hup b' o' c3
      have:=hR.sep b b' x y p p' hx hy (halx hz ha) (halx hw ha') b2 c2 e
      rw[e1,e2,e3,e4];exact this
    · obtain⟨x,hx,e1,e2,hz⟩:=hup b o b3
      obtain⟨s1,s2⟩:=sepL b x p hx (halx hz ha) b2 e
      exact⟨by rw[e1];exact s1,by rw[e2,hshL,s2];simp⟩
    · obtain⟨x,hx,e1,e2,hz⟩:=hup b' o' c3
      obtain⟨s1,s2⟩:=sepL b' x p' hx (halx hz ha') c2 e.symm
      exact⟨by rw[e1];exact s1.symm,by rw[e2,hshL,s2];simp⟩
    ·exact⟨rfl,rfl⟩
  · obtain⟨h1,h2,h3⟩:=hR.snap a v hv
    refine⟨Y0C h1 hst.size,?_,λb o' p hb ha hp=>?_⟩
    ·rw[<- h2];exact World.cell?_of_block (hnr _ h1 h3)
    · rcases hget b o' p hb hp with ⟨b1,b2,b3⟩|⟨b1,rfl,rfl⟩
      · obtain⟨o,ho,_,_,h|⟨i,x,_,_,_,_,_,h5⟩|h⟩:=hup b o' b3
        ·obtain⟨_,rfl⟩:=h;exact h3 b _ p ho ha b2
        ·exact h3 b o p ho h5 b2
        ·rw[h]at ha;cases ha
      · rcases whereL with h|⟨c,oc,pc,g1,g2,g3,g4,g5,g6,g7⟩
        ·omega
        ·have:=h3 c oc pc g3 g4 g6;omega
  · rcases hget b o' p hb hp with ⟨b1,b2,b3⟩|⟨b1,rfl,rfl⟩
    · obtain⟨o,ho,_,e2,_⟩:=hup b o' b3
      exact hR.shz b o p ho b2 (by rw[<- e2];exact e)
    ·exact hshL
 refine⟨v,sn,κ,rfl,?_,hR',⟨λ_ _ h=>h,λb p hb=>?_⟩,λb p hp=>?_,hnr,hst.size,hst.os,hst.tape,hst.output,λ_ _ h=>.inl h,λb o hb=>?_⟩
 ·exact (Z4G r v).2 (Z1n r [] v (λy hy=>hback y (Z0N hrk y hy)) (Z4j r v hrr hv))
 ·rw[k1 b (by have:=(hR.dom b).2 ⟨p,hb⟩;omega)];exact hb
 · rcases kinv b p hp with ⟨_,h1⟩|⟨_,rfl⟩
   ·exact .inl h1
   · rcases whereL with h|⟨c,oc,pc,g1,g2,g3,g4,g5,g6,g7⟩
     ·exact .inr (.inl h)
     ·exact .inr (.inr ⟨c,oc,pc,g3,g4,g6,g7⟩)
 · have hb':b<(Zay m (sig m k d) k Hs' 0 Hc).length:=by rw[hlen,<- hd];exact (Y0d.1 hb).1
   have hx:=Y06 hb'
   obtain⟨x,hx1,e1,e2,h|⟨i,y,h0,h1,h2,h3,h4,h5⟩|h⟩:=hup b _ hx
   · rw[hb]at hx1;cases hx1
     exact⟨_,by rw[Y0F hb'];exact hx,e1,e2,λha=>by rw[h.2]at ha;exact ha⟩
   · rw[hb]at hx1;cases hx1
     exact⟨_,by rw[Y0F hb'];exact hx,e1,e2,λ_=>h5⟩
   · rw[hb]at hx1;cases hx1
     exact⟨_,by rw[Y0F hb'];exact hx,e1,e2,λha=>by rw[h]at ha;cases ha⟩
end Go.Abs
end
section
namespace Go.Abs
open Go.RowKit
def byt(s:List UInt8):List AV:=s.map λb=>.int .u8 b.toNat
theorem Z89(t:List UInt8):(byt t).all one=true:=by simp[byt,Y0j,one]
theorem Z18:∀(t:List UInt8)(acc:List Nat),refsL (byt t) acc=acc
 |[],_=>rfl
 |c::t,acc=>by show refsL (.int .u8 c.toNat::byt t) acc=acc;simp only[refsL,Z1o];exact Z18 t acc
theorem Z8a(a b:List UInt8):byt (a++b)=byt a++byt b:=by simp[byt]
theorem Z4g(a:List UInt8):(byt a).length=a.length:=by simp[byt]
theorem Z88(f:Nat->Nat):∀t:List UInt8,renL f (byt t)=byt t
 |[]=>rfl
 |c::t=>by show ren f (.int .u8 c.toNat)::renL f (byt t)=_;rw[Z88 f t];rfl
theorem Z5I:∀t:List UInt8,noROL (byt t)=true
 |[]=>rfl
 |c::t=>by show (Zck (.int .u8 c.toNat)&&noROL (byt t))=true;rw[Z5I t];rfl
theorem Zdk:∀{a b:List UInt8},byt a=byt b->a=b
 |[],[],_=>rfl
 |[],_::_,h=>by simp[byt]at h
 |_::_,[],h=>by simp[byt]at h
 |x::a,y::b,h=>by
  have h':AV.int .u8 x.toNat::byt a=AV.int .u8 y.toNat::byt b:=h
  simp only[List.cons.injEq,AV.int.injEq,true_and]at h'
  have h2:x.toNat=y.toNat:=by have:=h'.1;omega
  rw[UInt8.toNat_inj.1 h2,Zdk h'.2]
theorem Zah {P : Program} {ρ : Operand -> Option AV} {o : Oper} {x : Operand} {H : Z00} {b f sh off len cap : Nat} {cs : List AV} {ty s d : TypeId} (bs : List UInt8) (ho : o.op = .convert s d x) (hx : ρ x = some (.slice b off len cap 1)) (hT : Z6K P s d = true)
  (hH:H[b]? = some ⟨true,f,sh,.cells cs ty⟩) (hc:tk len (cs.drop off)=some (byt bs)):Z0s P ρ H o=some (.str bs):=by
 have h1:Z2p (byt bs)=some bs:=Z4W bs
 simp[Z0s,ho,hx,Zfb,hT,hH,hc,h1]
theorem Zdh {P : Program} {orc : Orc} {ρ : Operand -> Option AV} {o : Oper} {x : Operand} {H : Z00} {b f sh off len cap : Nat} {cs : List AV} {ty s d : TypeId} (bs : List UInt8) (ho : o.op = .convert s d x) (hx : ρ x = some (.slice b off len cap 1)) (hT : Z6K P s d = true)
  (hH:H[b]? = some ⟨true,f,sh,.cells cs ty⟩) (hc:tk len (cs.drop off)=some (byt bs)):aop P orc ρ o H=some (.str bs,H):=by
 have h:=Zah bs ho hx hT hH hc
 simp[aop,ho,h]
def WH(tW tB:TypeId):List UInt8->Int->Z00
 |[],d=>[⟨true,0,0,.cells [.nptr,.nslice,.int .i64 d] tW⟩]
 |x::s,d=>[⟨true,0,0,.cells [.ptr 0 0,.slice 1 0 (x::s).length (x::s).length 1,.int .i64 d] tW⟩,⟨true,1,0,.cells (byt (x::s)) tB⟩]
def Z69(d:Nat):Z00->Bool
 |[]=>true
 |o::H=>Nat.blt o.fam d&&Z69 d H
theorem Z2b{d:Nat}:∀{H:Z00},Z69 d H=true->∀o∈H,o.fam<d
 |[],_,o,h=>by cases h
 |x::H,h,o,ho=>by
  simp only[Z69,Y08]at h
  rcases Y0f.1 ho with rfl|ho
  ·exact Z6G h.1
  ·exact Z2b h.2 o ho
def ZjM(tW tB:TypeId)(Hc:Z00)(b fb:Nat)(s':List UInt8)(d:Int):Z00:=Hc.set b ⟨true,fb,0,.cells [.ptr b 0,.slice Hc.length 0 s'.length s'.length 1,.int .i64 d] tW⟩++[⟨true,Hc.length,0,.cells (byt s') tB⟩]
def ZjL(tW tB:TypeId)(Hc:Z00)(b c fb fc:Nat)(s':List UInt8)(d:Int):Z00 :=
 (Hc.set b ⟨true,fb,0,.cells [.ptr b 0,.slice Hc.length 0 s'.length s'.length 1,.int .i64 d] tW⟩).set c ⟨false,fc,0,.cells [] 0⟩++[⟨true,fc,0,.cells (byt s') tB⟩]
def Zp2(tW tB:TypeId)(Hc:Z00)(b fb n:Nat)(s':List UInt8)(d:Int):Z00:=Hc.set b ⟨true,fb,0,.cells [.ptr b 0,.slice n 0 s'.length s'.length 1,.int .i64 d] tW⟩++[⟨true,n,0,.cells (byt s') tB⟩]
def Zp1(tW tB:TypeId)(Hc:Z00)(b c fb fc n:Nat)(s':List UInt8)(d:Int):Z00 :=
 (Hc.set b ⟨true,fb,0,.cells [.ptr b 0,.slice n 0 s'.length s'.length 1,.int .i64 d] tW⟩).set c ⟨false,fc,0,.cells [] 0⟩++[⟨true,fc,0,.cells (byt s') tB⟩]
theorem Znr{tW tB:TypeId}{H:Z00}{b fb:Nat}{s':List UInt8}{d:Int}{o:Option (AV×Z00)}{K:AV×Z00->Prop}(h:o=some (.tuple [],ZjM tW tB H b fb s' d))(k:frcNP H.length λn=>K (.tuple [],Zp2 tW tB H b fb n s' d)):∃r,o=some r/\K r:=by
 rw[Z1t]at k;exact⟨_,h,k⟩
theorem Zd9{tW tB:TypeId}{H:Z00}{b c fb fc:Nat}{s':List UInt8}{d:Int}{o:Option (AV×Z00)}{K:AV×Z00->Prop}(h:o=some (.tuple [],ZjL tW tB H b c fb fc s' d))(k:frcNP H.length λn=>K (.tuple [],Zp1 tW tB H b c fb fc n s' d)):∃r,o=some r/\K r:=by
 rw[Z1t]at k;exact⟨_,h,k⟩
section
variable {P:Program} {gl:Z0o} {tW tB:TypeId}
theorem Z8B{s:List UInt8}{d:Int}{i:Nat}{o:AObj}(h:(WH tW tB s d)[i]? = some o):o.sh=0/\o.fam=i/\ZcU o.body=true/\Z0J 2 (Z3c o.body [])=true:=by
 cases s with
 |nil =>
  simp only[WH]at h
  match i,h with
  |0,h=>simp at h;subst h;exact⟨rfl,rfl,rfl,rfl⟩
  |i+1,h=>simp at h
 |cons x s =>
  simp only[WH]at h
  match i,h with
  |0,h=>simp at h;subst h;exact⟨rfl,rfl,rfl,rfl⟩
  |1,h =>
   simp at h;subst h
   refine⟨rfl,rfl,?_,?_⟩
   ·exact Z5I (x::s)
   · show Z0J 2 (refsL (byt (x::s)) [])=true
     rw[Z18];rfl
  |i+2,h=>simp at h
theorem ZdK{s:List UInt8}{d:Int}{i:Nat}{o:AObj}(h:(WH tW tB s d)[i]? = some o):o.alive=true:=by
 cases s with
 |nil =>
  match i,h with
  |0,h=>cases h;rfl
  |i+1,h=>simp[WH]at h
 |cons x s =>
  match i,h with
  |0,h=>cases h;rfl
  |1,h=>cases h;rfl
  |i+2,h=>simp[WH]at h
theorem Zgs(s:List UInt8)(d:Int):Zbc (WH tW tB s d)=true:=by
 cases s with
 |nil=>rfl
 |cons x s =>
  show (ZcU (.cells [.ptr 0 0,.slice 1 0 (x::s).length (x::s).length 1,.int .i64 d] tW)&&(noROL (byt (x::s))&&true))=true
  rw[Z5I];rfl
theorem Zgm {f b fb : Nat} {Hc : Z00} {fa rest : List AV} {d d' : Int} {s' : List UInt8} (hM : Zcn P gl 1 f (.ptr 0 0 :: fa) (WH tW tB [] d) (.tuple []) (WH tW tB s' d')) (hs' : s' ≠ []) (e1 : Hc[b]? = some ⟨true, fb, 0, .cells [.nptr, .nslice, .int .i64 d] tW⟩)
  (hl:Z29 [b] [fb] 0 Hc=true) (hF:Z69 Hc.length Hc=true) (ha:Z0T (Z4A [b] (Z5U [b] Hc) 30) rest=some fa) :
  Z10 P gl f (.ptr b 0::rest) Hc (.tuple []) (ZjM tW tB Hc b fb s' d'):=by
 obtain⟨x,t,rfl⟩:∃x t,s'=x::t:=by cases s' with|nil=>exact absurd rfl hs'|cons x t=>exact⟨x,t,rfl⟩
 have hfam:Z0e Hc b=fb:=by simp only[Z0e,e1]
 have hp:Z0Q [b] b 0=some 0:=by simp[Z0Q]
 have h:=Z4t (m:=[b]) (n:=30) (F:=Hc.length) (Hc:=Hc) (cargs:=.ptr b 0::rest) (bL:=.cells (byt (x::t)) tB) hM ?_ ?_ rfl ?_ rfl rfl (λi o ho=>⟨(Z8B ho).2.1,ZdK ho,(Z8B ho).2.2.2⟩) (λi o ho=>(Z8B ho).1) (Zgs _ _) rfl rfl (.inl ⟨rfl,Z2b hF⟩)
 · have hu : Zay [b] (sig [b] 1 Hc.length) 1 (WH tW tB (x :: t) d') 0 Hc ++ [⟨true, Hc.length, 0, Z36 (sig [b] 1 Hc.length) (.cells (byt (x :: t)) tB)⟩] = ZjM tW tB Hc b fb (x :: t) d' := by
    unfold ZjM
    congr 1
    · apply Y0G
      intro i
      rw[Z4l]
      simp only[Y0q]
      by_cases hi:i=b
      · subst hi
        rw[hp,Y0P (Y0d.1 e1).1,e1]
        rfl
      · have : Z0Q [b] i 0 = none := by
         have:Y04 b i=false:=Y0v.2 λe=>hi (Y0c e).symm
         simp only[Z0Q,this];rfl
        rw[this,Y0H (λe=>hi e.symm)]
        cases Hc[i]?<;>rfl
    ·simp only[Z36,Z88]
   rw[hu]at h
   exact h
 · have : Z4A [b] (Z5U [b] Hc) 30 (.ptr b 0) = some (.ptr 0 0) := by
    unfold Z4A;simp only[hp]
   simp only[Z0T,this,ha]
 ·exact⟨by rw[e1];exact⟨rfl,rfl,rfl,rfl,Y0I ⟨Y01 rfl,Y01 rfl,Y07 rfl,trivial⟩⟩,trivial⟩
 ·simp only[List.map,hfam];exact hl
theorem Zgl {f b c fb fc : Nat} {Hc : Z00} {fa rest : List AV} {d d' : Int} {s s' : List UInt8} (hM : Zcn P gl 1 f (.ptr 0 0 :: fa) (WH tW tB s d) (.tuple []) (WH tW tB s' d')) (hs : s ≠ []) (hs' : s' ≠ []) (e2 : Hc[c]? = some ⟨true, fc, 0, .cells (byt s) tB⟩)
  (e1:Hc[b]? = some ⟨true,fb,0,.cells [.ptr b 0,.slice c 0 s.length s.length 1,.int .i64 d] tW⟩) (hn:Y04 fb fc=false) (hl:Z29 [b,c] [fb,fc] 0 Hc=true) (ha:Z0T (Z4A [b,c] (Z5U [b,c] Hc) 30) rest=some fa) :
  Z10 P gl f (.ptr b 0::rest) Hc (.tuple []) (ZjL tW tB Hc b c fb fc s' d'):=by
 obtain⟨x,t,rfl⟩:∃x t,s'=x::t:=by cases s' with|nil=>exact absurd rfl hs'|cons x t=>exact⟨x,t,rfl⟩
 obtain⟨y,u,rfl⟩:∃x t,s=x::t:=by cases s with|nil=>exact absurd rfl hs|cons x t=>exact⟨x,t,rfl⟩
 have hfb:Z0e Hc b=fb:=by simp only[Z0e,e1]
 have hfc:Z0e Hc c=fc:=by simp only[Z0e,e2]
 have hne:fb≠fc:=λe=>by rw[e]at hn;simp at hn
 have hbc:b≠c:=λe=>by subst e;rw[hfb]at hfc;exact hne hfc
 have hb1:Y04 b c=false:=Y0v.2 λe=>hbc (Y0c e)
 have hp:Z0Q [b,c] b 0=some 0:=by simp[Z0Q]
 have hpc:Z0Q [b,c] c 0=some 1:=by simp only[Z0Q,hb1];simp
 have h:=Z4t (m:=[b,c]) (n:=30) (F:=fc) (Hc:=Hc) (cargs:=.ptr b 0::rest) (bL:=.cells (byt (x::t)) tB) hM ?_ ?_ ?_ ?_ rfl rfl (λi o ho=>⟨(Z8B ho).2.1,ZdK ho,(Z8B ho).2.2.2⟩) (λi o ho=>(Z8B ho).1) (Zgs _ _) rfl rfl (.inr ⟨rfl,hfc.symm⟩)
 · have hu : Zay [b, c] (sig [b, c] 1 Hc.length) 1 (WH tW tB (x :: t) d') 0 Hc ++ [⟨true, fc, 0, Z36 (sig [b, c] 1 Hc.length) (.cells (byt (x :: t)) tB)⟩] = ZjL tW tB Hc b c fb fc (x :: t) d' := by
    unfold ZjL
    congr 1
    · apply Y0G
      intro i
      rw[Z4l]
      simp only[Y0q]
      have lb:=(Y0d.1 e1).1
      have lc:=(Y0d.1 e2).1
      by_cases hi:i=b
      · subst hi
        rw[hp,Y0H hbc.symm,Y0P lb,e1]
        rfl
      · by_cases hj:i=c
        · subst hj
          rw[hpc,Y0P (by simpa using lc),e2]
          rfl
        · have : Z0Q [b, c] i 0 = none := by
           have h1:Y04 b i=false:=Y0v.2 λe=>hi (Y0c e).symm
           have h2:Y04 c i=false:=Y0v.2 λe=>hj (Y0c e).symm
           simp only[Z0Q,h1,h2];rfl
          rw[this,Y0H (λe=>hj e.symm),Y0H (λe=>hi e.symm)]
          cases Hc[i]?<;>rfl
    ·simp only[Z36,Z88]
   rw[hu]at h
   exact h
 · have : Z4A [b, c] (Z5U [b, c] Hc) 30 (.ptr b 0) = some (.ptr 0 0) := by
    unfold Z4A;simp only[hp]
   simp only[Z0T,this,ha]
 ·refine⟨by rw[e1];exact⟨rfl,rfl,rfl,rfl,Y0I ⟨Wk.ptr rfl rfl,Wk.slice rfl rfl rfl (Y05 _) (Y05 _) rfl,Y07 rfl,trivial⟩⟩,by rw[e2];exact⟨rfl,rfl,rfl,rfl,BodyGe.pre (rest:=[]) (by simp) (Z18 _ _)⟩,trivial⟩
 · simp only[List.map,hfb,hfc,Z0L,mem]
   have:(fb==fc)=false:=by simpa using hne
   simp only[this,Bool.or_false,Bool.not_false,Y0s]
   first|rfl|(simp;exact hne)|(simp[hn])
 ·simp only[List.map,hfb,hfc];exact hl
theorem Znx {H T : Z00} {m rest : List Nat} {b f0 f1 n : Nat} {cs : List AV} {d d' : Int} {s : List UInt8} (hs : s ≠ []) (h0 : H[0]? = some ⟨true, f0, 0, .cells [.ptr 0 0, .slice b 0 n n 1, .int .i64 d'] tW⟩) (h1 : H[b]? = some ⟨true, f1, 0, .cells cs tB⟩) (m0 : m[0]? = some 0) (m1 : m[1]? = some b)
  (hn:n=s.length) (hd:d'=d) (hc:cs=byt s) (hr:HpGe H m rest T 2):HpGe H m (0::b::rest) (WH tW tB s d++T) 0:=by
 subst hn;subst hd;subst hc
 cases s with
 |nil=>exact absurd rfl hs
 |cons x s =>
  exact⟨by rw[h0];exact⟨rfl,rfl,rfl,rfl,Y0I ⟨Wk.ptr m0 rfl,Wk.slice m1 rfl rfl (Y05 _) (Y05 _) rfl,Y07 rfl,trivial⟩⟩,by rw[h1];exact⟨rfl,rfl,rfl,rfl,BodyGe.pre (rest:=[]) (by simp) (Z18 _ _)⟩,hr⟩
theorem Zfm {H : Z00} {b f0 f1 n : Nat} {cs : List AV} {d d' : Int} {s : List UInt8} (hs : s ≠ []) (h0 : H[0]? = some ⟨true, f0, 0, .cells [.ptr 0 0, .slice b 0 n n 1, .int .i64 d'] tW⟩) (h1 : H[b]? = some ⟨true, f1, 0, .cells cs tB⟩)
  (hn:n=s.length) (hd:d'=d) (hc:cs=byt s):HpGe H [0,b] [0,b] (WH tW tB s d) 0:=by
 have h:=Znx (m:=[0,b]) (T:=[]) (rest:=[]) hs h0 h1 rfl rfl hn hd hc trivial
 rwa [List.append_nil]at h
theorem Zny{H:Z00}{b f0 f1:Nat}{d d':Int}{s1 s:List UInt8}(e:s1=s)(hs:s≠[])(h0:H[0]? = some ⟨true,f0,0,.cells [.ptr 0 0,.slice b 0 s1.length s1.length 1,.int .i64 d'] tW⟩)(h1:H[b]? = some ⟨true,f1,0,.cells (byt s1) tB⟩)(hd:d'=d):HpGe H [0,b] [0,b] (WH tW tB s d) 0:=by
 subst e;exact Zfm hs h0 h1 rfl hd rfl
theorem Zj0 {H N : Z00} {b f0 f1 : Nat} {d d' : Int} {s1 s : List UInt8} (hN : WH tW tB s d = N) (e : s1 = s) (hs : s ≠ []) (h0 : H[0]? = some ⟨true, f0, 0, .cells [.ptr 0 0, .slice b 0 s1.length s1.length 1, .int .i64 d'] tW⟩) (h1 : H[b]? = some ⟨true, f1, 0, .cells (byt s1) tB⟩) (hd : d' = d) (hn : Y04 f0 f1 = false) :
  ∃m,Zeq 1 0 m=true/\HpGe H m m N 0/\Z0L (m.map (Z0e H))=true/\Wk m (.tuple []) (.tuple []):=by
 subst hN
 refine⟨[0,b],rfl,Zny e hs h0 h1 hd,?_,Y01 rfl⟩
 have hne:f0≠f1:=λe=>by rw[e]at hn;simp at hn
 simp only[List.map,Z0e,h0,h1,Z0L,mem]
 have:(f0==f1)=false:=by simpa using hne
 first|(simp only[this,Bool.or_false,Bool.not_false,Y0s];done)|(simp[hn];done)|(simp;exact hne)
theorem ZkW{H:Z00}{f0:Nat}{d d':Int}(h0:H[0]? = some ⟨true,f0,0,.cells [.nptr,.nslice,.int .i64 d'] tW⟩)(hd:d'=d):HpGe H [0] [0] (WH tW tB [] d) 0:=by
 subst hd
 exact⟨by rw[h0];exact⟨rfl,rfl,rfl,rfl,Y0I ⟨Y01 rfl,Y01 rfl,Y07 rfl,trivial⟩⟩,trivial⟩
structure WM (P:Program) (gl:Z0o) (tW tB:TypeId) where
 f:Nat
 X:Type
 G:X->Prop
 G0:X->Prop
 A:X->List AV
 D:X->Int
 T:X->List UInt8
 L:Nat
 body:Z0l P f=true
 inj:∀x y,G x->G y->A x=A y->D x=D y->T x=T y
 ne:∀x,G x->G0 x->T x≠[]
 ok:∀x,G x->∀s,(s=[]->G0 x)->(s++T x).length<=L->Zcn P gl 1 f (.ptr 0 0::A x) (WH tW tB s (D x)) (.tuple []) (WH tW tB (s++T x) (D x))
structure WI (X:Type) where
 x:X
 s:List UInt8
 b:Nat
 c:Nat
 fb:Nat
 fc:Nat
 H:Z00
 rest:List AV
def WM.Gd(W:WM P gl tW tB)(i:WI W.X):Prop:=W.G i.x/\(i.s++W.T i.x).length<=W.L/\match i.s with
 |[]=>W.G0 i.x/\i.c=0/\i.fc=0/\i.H[i.b]? = some ⟨true,i.fb,0,.cells [.nptr,.nslice,.int .i64 (W.D i.x)] tW⟩/\Z29 [i.b] [i.fb] 0 i.H=true/\Z69 i.H.length i.H=true/\Z0T (Z4A [i.b] (Z5U [i.b] i.H) 30) i.rest=some (W.A i.x)
 |y::u=>i.H[i.c]? = some ⟨true,i.fc,0,.cells (byt (y::u)) tB⟩/\i.H[i.b]? = some ⟨true,i.fb,0,.cells [.ptr i.b 0,.slice i.c 0 (y::u).length (y::u).length 1,.int .i64 (W.D i.x)] tW⟩ /\
  Y04 i.fb i.fc=false/\Z29 [i.b,i.c] [i.fb,i.fc] 0 i.H=true/\Z0T (Z4A [i.b,i.c] (Z5U [i.b,i.c] i.H) 30) i.rest=some (W.A i.x)
def WM.Out(W:WM P gl tW tB)(i:WI W.X):Z00:=match i.s with
 |[]=>ZjM tW tB i.H i.b i.fb (i.s++W.T i.x) (W.D i.x)
 |_::_=>ZjL tW tB i.H i.b i.c i.fb i.fc (i.s++W.T i.x) (W.D i.x)
def WM.fam(W:WM P gl tW tB):FamM P gl where
 I:=WI W.X
 f:=W.f
 G:=W.Gd
 A:=λi=>.ptr i.b 0::i.rest
 H:=λi=>i.H
 R:=λ_=>.tuple []
 O:=W.Out
 body:=W.body
 inj:=by
  rintro⟨x,s,b,c,fb,fc,H,rest⟩ ⟨x',s',b',c',fb',fc',H',rest'⟩ h h' e1 e2
  simp only[List.cons.injEq,AV.ptr.injEq,and_true]at e1
  obtain⟨rfl,rfl⟩:=e1
  simp only at e2;subst e2
  refine⟨rfl,?_⟩
  simp only[WM.Gd]at h h'
  obtain⟨g,_,h⟩:=h
  obtain⟨g',_,h'⟩:=h'
  cases s with
  |nil =>
   cases s' with
   |nil =>
    obtain⟨_,rfl,rfl,a1,a2,a3,a4⟩:=h
    obtain⟨_,rfl,rfl,b1,b2,b3,b4⟩:=h'
    rw[a1]at b1
    simp only[Option.some.injEq,AObj.mk.injEq,ABody.cells.injEq,List.cons.injEq,AV.int.injEq,true_and,and_true]at b1
    obtain⟨rfl,hd⟩:=b1
    rw[a4]at b4
    have ht:=W.inj x x' g g' (Option.some.inj b4) hd
    simp only[WM.Out,ht,hd]
   |cons y u =>
    obtain⟨_,_,_,a1,a2,a3,a4⟩:=h
    obtain⟨b1,b2,b3,b4,b5⟩:=h'
    rw[a1]at b2
    simp at b2
  |cons y u =>
   cases s' with
   |nil =>
    obtain⟨a1,a2,a3,a4,a5⟩:=h
    obtain⟨_,_,_,b1,b2,b3,b4⟩:=h'
    rw[a2]at b1
    simp at b1
   |cons y' u' =>
    obtain⟨a1,a2,a3,a4,a5⟩:=h
    obtain⟨b1,b2,b3,b4,b5⟩:=h'
    rw[a2]at b2
    simp only[Option.some.injEq,AObj.mk.injEq,ABody.cells.injEq,List.cons.injEq,AV.int.injEq,AV.slice.injEq,true_and,and_true]at b2
    obtain⟨rfl,⟨rfl,_⟩,hd⟩:=b2
    rw[a1]at b1
    simp only[Option.some.injEq,AObj.mk.injEq,ABody.cells.injEq,true_and,and_true]at b1
    obtain⟨rfl,hb⟩:=b1
    have hs:=Zdk hb
    simp only[List.cons.injEq]at hs
    obtain⟨rfl,rfl⟩:=hs
    rw[a5]at b5
    have ht:=W.inj x x' g g' (Option.some.inj b5) hd
    simp only[WM.Out,ht,hd]
 ok:=by
  rintro⟨x,s,b,c,fb,fc,H,rest⟩ h
  simp only[WM.Gd]at h
  obtain⟨g,hl,h⟩:=h
  cases s with
  |nil =>
   obtain⟨g0,rfl,rfl,a1,a2,a3,a4⟩:=h
   exact Zgm (W.ok x g [] (λ_=>g0) hl) (by simpa using W.ne x g g0) a1 a2 a3 a4
  |cons y u =>
   obtain⟨a1,a2,a3,a4,a5⟩:=h
   exact Zgl (W.ok x g (y::u) (λe=>by cases e) hl) (by simp) (by simp) a1 a2 a3 a4 a5
theorem WM.ask0 {W : WM P gl tW tB} {O : Orc} (h : W.fam.Ask O) (x : W.X) {b fb : Nat} {H : Z00} {rest : List AV} (g : W.G x) (g0 : W.G0 x) (hl : (W.T x).length <= W.L) (e1 : H[b]? = some ⟨true, fb, 0, .cells [.nptr, .nslice, .int .i64 (W.D x)] tW⟩) (e2 : Z29 [b] [fb] 0 H = true) (e3 : Z69 H.length H = true)
  (e4:Z0T (Z4A [b] (Z5U [b] H) 30) rest=some (W.A x)):Z02 P O H W.f (.ptr b 0::rest)=some (.tuple [],ZjM tW tB H b fb (W.T x) (W.D x)) :=
 h ⟨x,[],b,0,fb,0,H,rest⟩ ⟨g,hl,g0,rfl,rfl,e1,e2,e3,e4⟩
theorem WM.ask1 {W : WM P gl tW tB} {O : Orc} (h : W.fam.Ask O) (x : W.X) {s : List UInt8} {b c fb fc : Nat} {H : Z00} {rest : List AV} (g : W.G x) (hs : s ≠ []) (hl : (s ++ W.T x).length <= W.L) (e1 : H[c]? = some ⟨true, fc, 0, .cells (byt s) tB⟩)
  (e2:H[b]? = some ⟨true,fb,0,.cells [.ptr b 0,.slice c 0 s.length s.length 1,.int .i64 (W.D x)] tW⟩) (e3:Y04 fb fc=false) (e4:Z29 [b,c] [fb,fc] 0 H=true)
  (e5:Z0T (Z4A [b,c] (Z5U [b,c] H) 30) rest=some (W.A x)):Z02 P O H W.f (.ptr b 0::rest)=some (.tuple [],ZjL tW tB H b c fb fc (s++W.T x) (W.D x)):=by
 cases s with
 |nil=>exact absurd rfl hs
 |cons y u=>exact h ⟨x,y::u,b,c,fb,fc,H,rest⟩ ⟨g,hl,e1,e2,e3,e4,e5⟩
end
end Go.Abs
end
section
namespace Go.Abs
open Go.RowKit
mutual
def wkV:AV->AV->Bool
 | .nslice,.rs 0 _ []=>true
 | .agg a,.agg b=>wkVL a b
 | .rs n z a,.rs n' z' b=>Y04 n n'&&(Y04 z z'&&wkVL a b)
 | .rp a,.rp b=>wkVL a b
 |u,u2=>veq u u2
def wkVL:List AV->List AV->Bool
 |[],[]=>true
 |u::l,u2::l2=>wkV u u2&&wkVL l l2
 |_,_=>false
end
theorem Z9v:∀{l l2:List AV},wkVL l l2=true->l.length=l2.length
 |[],[],_=>rfl
 |u::l,u2::l2,h=>by simp only[wkVL,Y08]at h;simp[Z9v h.2]
 |[],_::_,h=>by simp[wkVL]at h
 |_::_,[],h=>by simp[wkVL]at h
mutual
theorem ZaD{sn:Z0g}{ι : Z0f}:∀(u u2:AV)(v:Value),wkV u u2=true->VR sn ι u v->VR sn ι u2 v
 | .agg a,.agg b,v,h,e=>by
  simp only[wkV]at h
  obtain⟨d,rfl,h1⟩:=e.agg
  exact Z3Y (wkVL_LR a b _ h h1)
 | .rs n z a,.rs n' z' b,v,h,e=>by
  simp only[wkV,Y08]at h
  obtain⟨h1,h2,h3⟩:=h
  have:=Y0c h1;subst this
  have:=Y0c h2;subst this
  have hl:=Z9v h3
  simp only[VR]at e⊢
  rcases e with ⟨e1,rfl,e3⟩|⟨ad,cap,e1,e2,e3,e4,e5⟩
  ·exact .inl ⟨e1,by cases b with|nil=>rfl|cons _ _=>simp at hl,e3⟩
  ·exact .inr ⟨ad,cap,e1,e2,by rw[<- hl];exact e3,wkVL_MR a b _ _ h3 e4,e5⟩
 | .rp a,.rp b,v,h,e=>by
  simp only[wkV]at h
  simp only[VR]at e⊢
  obtain⟨bl,o,e1,e2⟩:=e
  exact⟨bl,o,e1,wkVL_MR a b _ _ h e2⟩
 |u,u2,v,h,e=>by
  by_cases hn:u = .nslice/\∃z,u2 = .rs 0 z []
  · obtain⟨rfl,z,rfl⟩:=hn
    exact Zhq e
  · have : veq u u2 = true \/ ((∃ a b, u = .agg a /\ u2 = .agg b) \/ (∃ n z a n' z' b, u = .rs n z a /\ u2 = .rs n' z' b) \/ (∃ a b, u = .rp a /\ u2 = .rp b)) := by
     unfold wkV at h
     split at h
     ·exact (hn ⟨rfl,_,rfl⟩).elim
     ·exact .inr (.inl ⟨_,_,rfl,rfl⟩)
     ·exact .inr (.inr (.inl ⟨_,_,_,_,_,_,rfl,rfl⟩))
     ·exact .inr (.inr (.inr ⟨_,_,rfl,rfl⟩))
     ·exact .inl h
    rcases this with h|⟨a,b,rfl,rfl⟩|⟨n,z,a,n',z',b,rfl,rfl⟩|⟨a,b,rfl,rfl⟩
    ·have:=Z8D _ _ h;subst this;exact e
    · simp only[wkV]at h
      obtain⟨d,rfl,h1⟩:=e.agg
      exact Z3Y (wkVL_LR a b _ h h1)
    · simp only[wkV,Y08]at h
      obtain⟨h1,h2,h3⟩:=h
      have:=Y0c h1;subst this
      have:=Y0c h2;subst this
      have hl:=Z9v h3
      simp only[VR]at e⊢
      rcases e with ⟨e1,rfl,e3⟩|⟨ad,cap,e1,e2,e3,e4,e5⟩
      ·exact .inl ⟨e1,by cases b with|nil=>rfl|cons _ _=>simp at hl,e3⟩
      ·exact .inr ⟨ad,cap,e1,e2,by rw[<- hl];exact e3,wkVL_MR a b _ _ h3 e4,e5⟩
    · simp only[wkV]at h
      simp only[VR]at e⊢
      obtain⟨bl,o,e1,e2⟩:=e
      exact⟨bl,o,e1,wkVL_MR a b _ _ h e2⟩
theorem wkVL_LR{sn:Z0g}{ι : Z0f}:∀(l l2:List AV)(vs:List Value),wkVL l l2=true->LR sn ι l vs->LR sn ι l2 vs
 |[],[],vs,h,e=>e
 |u::l,u2::l2,vs,h,e=>by
  simp only[wkVL,Y08]at h
  simp only[LR]at e⊢
  obtain⟨d,ds,e1,e2,e3⟩:=e
  exact⟨d,ds,e1,ZaD u u2 d h.1 e2,wkVL_LR l l2 ds h.2 e3⟩
 |[],_::_,_,h,_=>by simp[wkVL]at h
 |_::_,[],_,h,_=>by simp[wkVL]at h
theorem wkVL_MR{sn:Z0g}:∀(l l2:List AV)(b o:Nat),wkVL l l2=true->MR sn l b o->MR sn l2 b o
 |[],[],b,o,h,e=>e
 |u::l,u2::l2,b,o,h,e=>by
  simp only[wkVL,Y08]at h
  simp only[MR]at e⊢
  obtain⟨⟨v,e1,e2⟩,e3⟩:=e
  exact⟨⟨v,e1,ZaD u u2 v h.1 e2⟩,wkVL_MR l l2 b (o+1) h.2 e3⟩
 |[],_::_,_,_,h,_=>by simp[wkVL]at h
 |_::_,[],_,_,h,_=>by simp[wkVL]at h
end
end Go.Abs
end
section
namespace Go.Proofs.YthbimonbnaodkaaGreatDoor.lex
open Go.Abs Go.RowKit Go.Flat
variable {gl:Z0o}
def arr(f:Nat->AV)(n:Nat):List AV:=(List.range n).map f
theorem Z2B(f:Nat->AV)(n:Nat):(arr f n).length=n:=by simp[arr]
theorem Z8b(f:Nat->AV)(n k:Nat)(h:k<n):(arr f n)[k]? = some (f k):=by simp[arr,h]
theorem Z6I(f:Nat->AV){n k:Nat}(h:k<n){off:Nat}(e:off=k):tk 1 ((arr f n).drop off)=some [f k]:=by
 subst e;exact ZlL (Z8b f n off h)
theorem ZoA:∀(cs:List AV)(k:Nat)(v:AV),k<cs.length->spl cs k [v]=some (cs.set k v)
 |c::cs,0,v,_=>by simp only[spl,List.set_cons_zero]
 |c::cs,k+1,v,h=>by simp only[spl,ZoA cs k v (by simpa using h),List.set_cons_succ]
theorem Z4Y(f:Nat->AV){n k:Nat}(v:AV)(h:k<n){off:Nat}(e:off=k):spl (arr f n) off [v]=some (arr (upd f k v) n):=by
 subst e
 rw[ZoA _ _ _ (by rw[Z2B];exact h)]
 congr 1
 apply Y0G
 intro i
 by_cases hi:i<n
 · rw[Z8b _ _ _ hi,List.getElem?_set,Z2B]
   by_cases e:off=i
   ·subst e;rw[if_pos rfl,if_pos hi,Z0b]
   ·rw[if_neg e,Z8b _ _ _ hi,Z09 (λh=>e h.symm)]
 ·rw[Y0J (by rw[List.length_set,Z2B];omega),Y0J (by rw[Z2B];omega)]
theorem Z2J(z:AV)(n:Nat):Z2D n [z]=arr (λ_=>z) n:=by
 have h:∀n,Z2D n [z]=List.replicate n z:=by
  intro n
  induction n with
  |zero=>rfl
  |succ n ih=>simp only[Z2D,ih,List.replicate_succ];rfl
 rw[h]
 apply Y0G
 intro i
 by_cases hi:i<n
 ·rw[Z8b _ _ _ hi];simp[hi]
 ·rw[Y0J (by simp;omega),Y0J (by rw[Z2B];omega)]
theorem Z4x{f:Nat->AV}(h:∀k,Z1o (f k) []=[])(n:Nat):refsL (arr f n) []=[]:=by
 unfold arr
 induction List.range n with
 |nil=>rfl
 |cons k l ih=>simp only[Y0i,refsL,h,ih]
theorem Zam{f:Nat->AV}{p:AV->Bool}(h:∀k,p (f k)=true)(n:Nat):(arr f n).all p=true:=by
 simp[arr,h]
def nis(l:List Nat):List AV:=l.map λv:Nat=>AV.int .i64 v
theorem Z0w(l:List Nat):(nis l).length=l.length:=by simp[nis]
theorem Z3Q(l:List Nat){k:Nat}(h:k<l.length){off:Nat}(e:off=k):tk 1 ((nis l).drop off)=some [.int .i64 (l[k]:Nat)]:=Z1Q _ l k h e
theorem Z4M(l:List Nat):(nis l).all Go.Abs.one=true:=by simp[nis,Y0j,Go.Abs.one]
theorem ZjU(l:List Nat):(nis l).all ZbA=true:=by
 unfold nis
 induction l with
 |nil=>rfl
 |cons a l ih=>simp only[Y0i,List.all_cons,ih,Y0s];rfl
theorem Z0c(l:List Nat):refsL (nis l) []=[]:=Z1S (ZeS (ZjU l))
theorem Z2w(a b:List Nat):nis (a++b)=nis a++nis b:=by simp[nis]
def Z1a(l:List Nat):AV:=.rs l.length 1 (nis l)
def Z6O(l:List Ins)(v:Nat):Ins:=match l[v]? with|some i=>i|none=>⟨13,0,0,0,0,[]⟩
theorem Z15{l:List Ins}{v:Nat}(h:v<l.length):Z6O l v=l[v]:=by simp[Z6O,h]
def Zox(i:Ins):Prop:=i.kind=10\/i.kind=11->0<=i.to/\i.to<=4611686018427387904
def nx8(i:Ins)(a:Nat):List Nat :=
 if i.kind=12\/i.kind=13 then [] else if i.kind=10 then [i.to.toNat] else if i.kind=11 then (if i.to.toNat<a+1 then [i.to.toNat,a+1] else if a+1<i.to.toNat then [a+1,i.to.toNat] else [a+1]) else [a+1]
theorem Zme(i:Ins)(a w:Nat):w∈nx8 i a ↔ w∈nxI i a:=by
 unfold nx8 nxI
 by_cases h12:i.kind=12\/i.kind=13
 · have h1:¬i.kind=10:=by omega
   have h2:¬i.kind=11:=by omega
   rw[if_pos h12,if_neg h1,if_neg h2,if_pos h12]
 · rw[if_neg h12]
   by_cases h10:i.kind=10
   ·simp[h10]
   · rw[if_neg h10,if_neg h10]
     by_cases h11:i.kind=11
     · rw[if_pos h11,if_pos h11]
       split
       ·simp;omega
       · split
         ·simp
         · have:i.to.toNat=a+1:=by omega
           simp[this]
     ·rw[if_neg h11,if_neg h11,if_neg h12]
def nxL(l:List Ins)(v:Nat):List Nat:=nxI (Z6O l v) v
def Z0v(l:List Ins)(v:Nat):List Nat:=nx8 (Z6O l v) v
theorem Zcg{f g:Nat->List Nat}(h:∀v w,w∈f v->w∈g v){v:Nat}(hv:Rch f v):Rch g v:=by
 induction hv with
 |zero=>exact .zero
 |next hv hw ih=>exact .next ih (h _ _ hw)
theorem Znf{f g:Nat->List Nat}(h:∀v w,w∈f v ↔ w∈g v)(v:Nat):Rch f v ↔ Rch g v:=⟨Zcg λv w=>(h v w).1,Zcg λv w=>(h v w).2⟩
theorem Zew(l:List Ins)(v w:Nat):w∈Z0v l v ↔ w∈nxL l v:=Zme _ _ _
structure Good (l:List Ins):Prop where
 pos:0<l.length
 few:l.length<=4000
 to:∀v,v<l.length->Zox (Z6O l v)
 nx:∀v,v<l.length->∀w∈nxL l v,w<l.length
theorem Good.lt{l:List Ins}(h:Good l){v:Nat}(hv:Rch (nxL l) v):v<l.length:=by
 induction hv with
 |zero=>exact h.pos
 |next hv hw ih=>exact h.nx _ ih _ hw
end Go.Proofs.YthbimonbnaodkaaGreatDoor.lex
end
namespace Go.Proofs.YthbimonbnaodkaaGreatDoor.lex
open Go.Abs Go.RowKit
section
variable {gl:Z0o}
def ZaI(l:List UInt8):Nat:=l.foldl (λn c=>n*10+(c.toNat-48)) 0
def Zds(l:List UInt8):Bool:=l.all λc=>Zag c.toNat
theorem Z7j(l:List UInt8)(k:Nat)(h:k<l.length):ZaI (l.take (k+1))=ZaI (l.take k)*10+(l[k].toNat-48):=by
 unfold ZaI
 rw[Y0Q h,List.foldl_append];rfl
theorem ZbW(l:List UInt8)(k:Nat)(h:k<l.length):Zds (l.take (k+1))=(Zds (l.take k)&&Zag l[k].toNat):=by
 unfold Zds
 rw[Y0Q h,List.all_append];simp
theorem ZbV(l:List UInt8)(k:Nat)(h:k<l.length)(hd:Zag l[k].toNat=false):Zds l=false:=by
 unfold Zds
 rw[Y0v];intro h2
 have:=Y0j.1 h2 _ (Y0M h)
 rw[hd]at this;cases this
theorem Zgu(l:List UInt8)(ha:Zds l=true):∀k,k<=l.length->ZaI (l.take k)<10 ^ k
 |0,_=>by simp[ZaI]
 |k+1,h=>by
  have h1:=Zgu l ha k (by omega)
  have h2:=Z7j l k (by omega)
  have h3:Zag l[k].toNat=true:=Y0j.1 ha _ (Y0M (by omega))
  simp only[Zag,Y08,decide_eq_true_eq]at h3
  rw[Nat.pow_succ];omega
theorem Z9w(l:List UInt8)(k:Nat)(hk:k<=l.length)(hl:k<=4)(ha:Zds (l.take k)=true):ZaI (l.take k)<10000:=by
 have h:=Zgu (l.take k) ha k (by simp;omega)
 rw[List.take_take,Nat.min_self]at h
 have:10 ^ k<=10 ^ 4:=Nat.pow_le_pow_right (by decide) hl
 omega
def Zcj(s:List UInt8):Bool:=s==[] || (decide (4<s.length) || (decide (1<s.length)&&(s[0]? == some 48)))
def Z1c(s:List UInt8):Int:=if Zcj s=true then -1 else if Zds s=true then ZaI s else -1
theorem Zmg(s:List UInt8):Z1c s<10000:=by
 unfold Z1c
 split
 ·omega
 · rename_i h
   split
   · rename_i ha
     simp only[Zcj,Y0O,not_or,decide_eq_true_eq]at h
     have:=Z9w s s.length (Y05 _) (by omega) (by rw[Y0m];exact ha)
     rw[Y0m]at this
     omega
   ·omega
theorem Z4r{s:List UInt8}(h:Zcj s=true):Z1c s = -1:=by unfold Z1c;rw[if_pos h]
theorem Zey{s:List UInt8}(h:Zds s=false):Z1c s = -1:=by unfold Z1c;split;rfl;simp[h]
theorem Zex{s:List UInt8}(h:Zcj s=false)(ha:Zds s=true):Z1c s=ZaI s:=by unfold Z1c;rw[h,ha];rfl
def Zgd(s:List UInt8):AV:=if Z1c s<0 then .tuple [.int .i64 0,.bool false] else .tuple [.int .i64 (Z1c s),.bool true]
theorem Z6Y{s:List UInt8}(h:Z1c s = -1):Zgd s = .tuple [.int .i64 0,.bool false]:=by unfold Zgd;rw[h];rfl
theorem ZjD{s:List UInt8}(h:Zcj s=false)(ha:Zds s=true):Zgd s = .tuple [.int .i64 (ZaI s),.bool true]:=by
 unfold Zgd;rw[Zex h ha,if_neg (by omega)]
theorem Zev{s:List UInt8}(h:s.length=0):Zcj s=true:=by
 have:s=[]:=List.length_eq_zero_iff.1 h
 subst this;rfl
theorem Zbb{s:List UInt8}(h:4<s.length):Zcj s=true:=by simp[Zcj,h]
theorem Zba{s:List UInt8}{c:UInt8}(h:1<s.length)(h2:s[0]? = some c)(h3:((c.toNat:Int)==48)=true):Zcj s=true:=by
 have:c=48:=by rw[show ((c.toNat:Int)==48)=(c==48) from ZlI c 48 (by decide)]at h3;simpa using h3
 subst this;simp[Zcj,h,h2]
theorem Zhm{s:List UInt8}{c:UInt8}(h0:s.length≠0)(h4:¬4<s.length)(h2:s[0]? = some c)(h3:¬1<s.length\/((c.toNat:Int)==48)=false):Zcj s=false:=by
 have e0:(s==[])=false:=by cases s with|nil=>simp at h0|cons _ _=>rfl
 rcases h3 with h3|h3
 ·simp[Zcj,e0,h4,h3]
 · have:(c==48)=false:=by rw[show ((c.toNat:Int)==48)=(c==48) from ZlI c 48 (by decide)]at h3;simpa using h3
   have h5:c≠48:=by simpa using this
   simp[Zcj,e0,h4,h2,h5]
theorem Z7w(s:List UInt8)(hs:s.length<=9223372036854775807):ValOK Y00 gl 96 [.str s] (Zgd s):=by
 by_cases h0:s.length=0
 · have e0:((s.length:Int)==0)=true:=by simp[h0]
   have es:(s==[])=true:=by simpa using h0
   rw[Z6Y (Z4r (Zev h0))]
   refine Z05 follows Z07 Z06 Y0K rfl ?_
   repeat' ((conv=>whnf);first|refine stp ?_|with_reducible apply Z01<;>intro h)
   all_goals rfl
 have e0:((s.length:Int)==0)=false:=by simp[h0]
 have es:(s==[])=false:=by simpa using h0
 by_cases h4:4<s.length
 · have e4:decide ((s.length:Int)>4)=true:=by simp;omega
   rw[Z6Y (Z4r (Zbb h4))]
   refine Z05 follows Z07 Z06 Y0K rfl ?_
   repeat' ((conv=>whnf);first|refine stp ?_|with_reducible apply Z01<;>intro h)
   all_goals rfl
 have e4:decide ((s.length:Int)>4)=false:=by simp;omega
 obtain⟨c,hc⟩:∃c,s[0]? = some c:=⟨s[0],by simp⟩
 by_cases hb:1<s.length/\((c.toNat:Int)==48)=true
 · obtain⟨h1,hz⟩:=hb
   have e1:decide ((s.length:Int)>1)=true:=by simp;omega
   rw[Z6Y (Z4r (Zba h1 hc hz))]
   refine Z05 follows Z07 Z06 Y0K rfl ?_
   repeat' ((conv=>whnf);first|with_reducible refine ixS 0 rfl hc ?_|refine stp ?_|with_reducible apply Z01<;>intro h)
   all_goals rfl
 have ho:Zcj s=false:=Zhm h0 h4 hc (by
  by_cases h1:1<s.length
  ·exact .inr (by simpa using λh=>hb ⟨h1,h⟩)
  ·exact .inl h1)
 have hcase:(decide ((s.length:Int)>1)=false)\/(decide ((s.length:Int)>1)=true/\((c.toNat:Int)==48)=false):=by
  by_cases h1:1<s.length
  ·exact .inr ⟨by simp;omega,by simpa using λh=>hb ⟨h1,h⟩⟩
  ·exact .inl (by simp;omega)
 refine Z05 follows Z07 Z06 Y0K rfl ?_
 clear hb
 rcases hcase with e1|⟨e1,hz⟩
 all_goals (repeat' ((conv=>whnf);first|with_reducible refine ixS 0 rfl hc ?_|refine stp ?_|with_reducible apply Z01<;>intro h))
 all_goals (conv=>whnf)
 all_goals (refine⟨Nat,(λi=>i<=s.length/\Zds (s.take i)=true),(λi=>[(0,.str s),(4,.int .i64 (ZaI (s.take i))),(25,.int .i64 s.length),(26,.int .i64 i)]),(λ_=>[]),(λi=>s.length-i),⟨0,⟨Y0g _,rfl⟩,Y0k rfl ?_⟩,?_⟩)
 all_goals (first|(simp only[Y03,ZaI,List.foldl_nil];(repeat (first|exact trivial|refine stw ?_));done)|skip)
 all_goals (
  rintro i ⟨hi,hall⟩
  dsimp only
  by_cases hlt:i<s.length
  · have e2:decide ((i:Int)<(s.length:Int))=true:=by simpa using hlt
    have hx:s[i]? = some s[i]:=by simp[hlt]
    have hsn:=Z7j s i hlt
    have hal:=ZbW s i hlt
    have hst:=ZbV s i hlt
    have hv:=Z9w s i hi (by omega) hall
    rw[hall,Y0z]at hal
    cases hd:Zag s[i].toNat with
    |true =>
     rw[hd]at hal
     have hd':=hd
     simp only[Zag,Y08,decide_eq_true_eq]at hd'
     have d1:decide (((s[i]).toNat:Int)<48)=false:=by simp;omega
     have d2:decide (((s[i]).toNat:Int)>57)=false:=by simp;omega
     clear hst
     generalize ZaI (s.take i)=v at *
     generalize s[i]=b at *
     repeat' ((conv=>whnf);first|with_reducible refine ixS i rfl hx ?_|refine stp ?_|with_reducible apply Z01<;>intro h)
     conv=>whnf
     refine⟨i+1,⟨hlt,hal⟩,by show s.length-(i+1)<s.length-i;omega,Y0k rfl ?_⟩
     have ew:IntKind.i64.wrap (10*(v:Int)+IntKind.i64.wrap (IntKind.u8.wrap ((b.toNat:Int)-48)))=((ZaI (s.take (i+1)):Nat):Int):=by
      rw[hsn];simp only[IntKind.wrap_u8,IntKind.wrap_i64];omega
     skip
     exact wks
    |false =>
     rw[Z6Y (Zey (hst hd))]
     have hd':=hd
     simp only[Zag,Bool.and_eq_false_iff,decide_eq_false_iff_not]at hd'
     clear hst hal hsn
     generalize s[i]=b at *
     by_cases h48:(b.toNat:Int)<48
     · have d1:decide ((b.toNat:Int)<48)=true:=by simpa using h48
       repeat' ((conv=>whnf);first|with_reducible refine ixS i rfl hx ?_|refine stp ?_|with_reducible apply Z01<;>intro h)
       all_goals rfl
     · have d1:decide ((b.toNat:Int)<48)=false:=by simpa using h48
       have d2:decide ((b.toNat:Int)>57)=true:=by simp only[decide_eq_true_eq];omega
       repeat' ((conv=>whnf);first|with_reducible refine ixS i rfl hx ?_|refine stp ?_|with_reducible apply Z01<;>intro h)
       all_goals rfl
  · have e2:decide ((i:Int)<(s.length:Int))=false:=by simpa using hlt
    have hi2:i=s.length:=by omega
    subst hi2
    rw[Y0m]at hall⊢
    rw[ZjD ho hall]
    repeat' ((conv=>whnf);first|refine stp ?_|with_reducible apply Z01<;>intro h)
    all_goals rfl)
theorem Z5r{s:List UInt8}(h:Z1c s = -1):AV.int .i64 (Z1c s) = .int .i64 (-1):=by rw[h]
theorem Zho(s:List UInt8)(hs:s.length<=9223372036854775807):ValOK Y00 gl 100 [.str s] (.int .i64 (Z1c s)):=by
 by_cases h0:s.length=0
 · have e0:((s.length:Int)==0)=true:=by simp[h0]
   have es:(s==[])=true:=by simpa using h0
   rw[Z5r (Z4r (Zev h0))]
   refine Z05 follows Z07 Z06 Y0L rfl ?_
   repeat' ((conv=>whnf);first|refine stp ?_|with_reducible apply Z01<;>intro h)
   all_goals rfl
 have e0:((s.length:Int)==0)=false:=by simp[h0]
 have es:(s==[])=false:=by simpa using h0
 by_cases h4:4<s.length
 · have e4:decide ((s.length:Int)>4)=true:=by simp;omega
   rw[Z5r (Z4r (Zbb h4))]
   refine Z05 follows Z07 Z06 Y0L rfl ?_
   repeat' ((conv=>whnf);first|refine stp ?_|with_reducible apply Z01<;>intro h)
   all_goals rfl
 have e4:decide ((s.length:Int)>4)=false:=by simp;omega
 obtain⟨c,hc⟩:∃c,s[0]? = some c:=⟨s[0],by simp⟩
 by_cases hb:1<s.length/\((c.toNat:Int)==48)=true
 · obtain⟨h1,hz⟩:=hb
   have e1:decide ((s.length:Int)>1)=true:=by simp;omega
   rw[Z5r (Z4r (Zba h1 hc hz))]
   refine Z05 follows Z07 Z06 Y0L rfl ?_
   repeat' ((conv=>whnf);first|with_reducible refine ixS 0 rfl hc ?_|refine stp ?_|with_reducible apply Z01<;>intro h)
   all_goals rfl
 have ho:Zcj s=false:=Zhm h0 h4 hc (by
  by_cases h1:1<s.length
  ·exact .inr (by simpa using λh=>hb ⟨h1,h⟩)
  ·exact .inl h1)
 have hcase:(decide ((s.length:Int)>1)=false)\/(decide ((s.length:Int)>1)=true/\((c.toNat:Int)==48)=false):=by
  by_cases h1:1<s.length
  ·exact .inr ⟨by simp;omega,by simpa using λh=>hb ⟨h1,h⟩⟩
  ·exact .inl (by simp;omega)
 refine Z05 follows Z07 Z06 Y0L rfl ?_
 clear hb
 rcases hcase with e1|⟨e1,hz⟩
 all_goals (repeat' ((conv=>whnf);first|with_reducible refine ixS 0 rfl hc ?_|refine stp ?_|with_reducible apply Z01<;>intro h))
 all_goals (conv=>whnf)
 all_goals (refine⟨Nat,(λi=>i<=s.length/\Zds (s.take i)=true),(λi=>[(0,.str s),(3,.int .i64 (ZaI (s.take i))),(4,.int .i64 i)]),(λ_=>[]),(λi=>s.length-i),⟨0,⟨Y0g _,rfl⟩,Y0k rfl ?_⟩,?_⟩)
 all_goals (first|(simp only[Y03,ZaI,List.foldl_nil];(repeat (first|exact trivial|refine stw ?_));done)|skip)
 all_goals (
  rintro i ⟨hi,hall⟩
  dsimp only
  by_cases hlt:i<s.length
  · have e2:decide ((i:Int)<(s.length:Int))=true:=by simpa using hlt
    have hx:s[i]? = some s[i]:=by simp[hlt]
    have hsn:=Z7j s i hlt
    have hal:=ZbW s i hlt
    have hst:=ZbV s i hlt
    have hv:=Z9w s i hi (by omega) hall
    rw[hall,Y0z]at hal
    cases hd:Zag s[i].toNat with
    |true =>
     rw[hd]at hal
     have hd':=hd
     simp only[Zag,Y08,decide_eq_true_eq]at hd'
     have d1:decide (((s[i]).toNat:Int)<48)=false:=by simp;omega
     have d2:decide (((s[i]).toNat:Int)>57)=false:=by simp;omega
     clear hst
     generalize ZaI (s.take i)=v at *
     generalize s[i]=b at *
     repeat' ((conv=>whnf);first|with_reducible refine ixS i rfl hx ?_|refine stp ?_|with_reducible apply Z01<;>intro h)
     conv=>whnf
     refine⟨i+1,⟨hlt,hal⟩,by show s.length-(i+1)<s.length-i;omega,Y0k rfl ?_⟩
     have ew:IntKind.i64.wrap ((v:Int)*10+IntKind.i64.wrap (IntKind.u8.wrap ((b.toNat:Int)-48)))=((ZaI (s.take (i+1)):Nat):Int):=by
      rw[hsn];simp only[IntKind.wrap_u8,IntKind.wrap_i64];omega
     skip
     exact wks
    |false =>
     rw[Z5r (Zey (hst hd))]
     have hd':=hd
     simp only[Zag,Bool.and_eq_false_iff,decide_eq_false_iff_not]at hd'
     clear hst hal hsn
     generalize s[i]=b at *
     by_cases h48:(b.toNat:Int)<48
     · have d1:decide ((b.toNat:Int)<48)=true:=by simpa using h48
       repeat' ((conv=>whnf);first|with_reducible refine ixS i rfl hx ?_|refine stp ?_|with_reducible apply Z01<;>intro h)
       all_goals rfl
     · have d1:decide ((b.toNat:Int)<48)=false:=by simpa using h48
       have d2:decide ((b.toNat:Int)>57)=true:=by simp only[decide_eq_true_eq];omega
       repeat' ((conv=>whnf);first|with_reducible refine ixS i rfl hx ?_|refine stp ?_|with_reducible apply Z01<;>intro h)
       all_goals rfl
  · have e2:decide ((i:Int)<(s.length:Int))=false:=by simpa using hlt
    have hi2:i=s.length:=by omega
    subst hi2
    rw[Y0m]at hall⊢
    rw[Zex ho hall]
    repeat' ((conv=>whnf);first|refine stp ?_|with_reducible apply Z01<;>intro h)
    all_goals rfl)
end
section
theorem FgLK.same{k:Nat}{t0 tm:Tr}{H:Z00}{l:List (Nat×AV)}(h1:Ze1 t0 tm=true)(hs:SlotsGe (List.range k) tm l)(hH:HpGe H (List.range k) (List.range k) H 0/\Z0L ((List.range k).map (Z0e H))=true/\Zeq k 0 (List.range k)=true):FgLK k t0 tm H l H:=by
 unfold FgLK
 rw[h1]
 exact .inl ⟨List.range k,hH.2.2,hs,hH.1,hH.2.1⟩
structure TvE (gl:Z0o) where
 σ : Type
 Mem : σ -> Z00
 k:Nat
 len:∀s,(Mem s).length=k
 same:∀s,HpGe (Mem s) (List.range k) (List.range k) (Mem s) 0/\Z0L ((List.range k).map (Z0e (Mem s)))=true/\Zeq k 0 (List.range k)=true
 evo:∀s s',Zj1 k (Mem s) (Mem s')=true
 inj:∀s s',Mem s=Mem s'->s=s'
 I:Int -> σ -> Nat->Prop
 up:∀d s m,0<=d->I (d+1) s m->I d s m
 less:∀d s m,I d s (m+1)->I d s m
 bnd:∀d s m,I d s m->0<=d/\d<=1152921504606846976
 gE:Nat
 cE:List AV
 hE:Ex->Int -> σ -> Bool×σ
 bodyE:Z0l Y00 gE=true
 wkE:WkL (List.range k) cE cE
 okE:∀e rest d s m,okE e->I d s (m+1)->Z10 Y00 gl gE ([.rp (e.cells++rest),.int .i64 d]++cE) (Mem s) (.bool (hE e d s).1) (Mem (hE e d s).2)
 downE:∀e d s m,I d s (m+1)->(hE e d s).1=true->I (d+1) (hE e d s).2 m
section
variable {σ : Type}
mutual
def goE(h:Ex->Int -> σ -> Bool×σ):Ex->Int -> σ -> Bool×σ
 | .mk o n s k,d,t=>if (h (.mk o n s k) d t).1=true then goL h k (d+1) (h (.mk o n s k) d t).2 else (false,(h (.mk o n s k) d t).2)
def goL(h:Ex->Int -> σ -> Bool×σ):List Ex->Int -> σ -> Bool×σ
 |[],d,t=>(true,t)
 |e::l,d,t=>if (goE h e d t).1=true then goL h l d (goE h e d t).2 else (false,(goE h e d t).2)
end
variable {h:Ex->Int -> σ -> Bool×σ}
theorem Zo5(e:Ex)(d:Int)(t : σ):goE h e d t=if (h e d t).1=true then goL h e.kids (d+1) (h e d t).2 else (false,(h e d t).2):=by
 obtain⟨o,n,s,k⟩:=e
 simp only[goE,Ex.kids]
theorem Zli:∀(l:List Ex)(d:Int)(t : σ)(i:Nat)(hi:i<l.length),(goL h (l.take i) d t).1=true->goL h (l.take (i+1)) d t=goE h l[i] d (goL h (l.take i) d t).2
 |e::l,d,t,0,_,_=>by
  simp only[Y03,Y02,goL,Y0b]
  split
  ·rename_i h2;rw[<- h2]
  ·rename_i h2;rw[<- Y0v.2 h2]
 |e::l,d,t,i+1,hi,ht=>by
  simp only[Y02,goL,Y0a]at ht⊢
  split
  · rename_i h2
    rw[if_pos h2]at ht
    exact Zli l d _ i (by simpa using hi) ht
  ·rename_i h2;rw[if_neg h2]at ht;cases ht
theorem ZeP:∀(l:List Ex)(d:Int)(t : σ)(i:Nat),(goL h (l.take i) d t).1=false->goL h l d t=goL h (l.take i) d t
 |[],d,t,i,hf=>by simp
 |e::l,d,t,0,hf=>by simp only[Y03,goL]at hf;cases hf
 |e::l,d,t,i+1,hf=>by
  simp only[Y02,goL]at hf⊢
  split
  · rename_i h2
    rw[if_pos h2]at hf
    exact ZeP l d _ i hf
  ·rfl
end
section
variable {gl:Z0o} (V:TvE gl)
def TvE.F:AV:=.func (.func V.gE) [] V.cE
mutual
theorem TvE.keepE:∀(e:Ex)(d:Int)(s:V.σ)(m:Nat),V.I d s (Z0a e+m)->(goE V.hE e d s).1=true->V.I d (goE V.hE e d s).2 m
 | .mk o n t k,d,s,m,hI,ht=>by
  simp only[goE,Z0a]at hI ht⊢
  split
  · rename_i h2
    rw[if_pos h2]at ht
    have h3:=V.downE _ d s (sizeL k+m) (by rw[show 1+sizeL k+m=sizeL k+m+1 from by omega]at hI;exact hI) h2
    exact V.up _ _ _ (V.bnd _ _ _ hI).1 (TvE.keepL k (d+1) _ m h3 ht)
  ·rename_i h2;rw[if_neg h2]at ht;cases ht
theorem TvE.keepL:∀(l:List Ex)(d:Int)(s:V.σ)(m:Nat),V.I d s (sizeL l+m)->(goL V.hE l d s).1=true->V.I d (goL V.hE l d s).2 m
 |[],d,s,m,hI,ht=>by simp only[goL,sizeL,Y0q]at hI⊢;exact hI
 |e::l,d,s,m,hI,ht=>by
  simp only[goL,sizeL]at hI ht⊢
  split
  · rename_i h2
    rw[if_pos h2]at ht
    exact TvE.keepL l d _ m (TvE.keepE e d s (sizeL l+m) (by rw[<- Nat.add_assoc];exact hI) h2) ht
  ·rename_i h2;rw[if_neg h2]at ht;cases ht
end
theorem Zke(e:Ex)(rest:List AV):tk 1 ((e.cells++rest).drop 3)=some [exA e.kids]:=by
 obtain⟨o,n,s,k⟩:=e
 simp only[Ex.cells,exA,Ex.kids];rfl
theorem TvE.fin(s t:V.σ)(b:Bool):List.take V.k (V.Mem t)=V.Mem t/\(Z0J V.k (Z1o (AV.bool b) [])&&Zj1 V.k (V.Mem s) (V.Mem t))=true :=
 ⟨List.take_of_length_le (by rw[V.len];exact Y05 _),by rw[V.evo];rfl⟩
theorem TvE.exprs (hf : Y00.follows .mixedOrders = true) : ∀ (n : Nat) (l : List Ex) (d : Int) (s : V.σ) (m : Nat), sizeL l <= n -> okL l -> l.length <= 9223372036854775807 -> V.I d s (sizeL l + m) ->
  Z10 Y00 gl 168 [exA l,.int .i64 d,V.F] (V.Mem s) (.bool (goL V.hE l d s).1) (V.Mem (goL V.hE l d s).2)
 |n,l,d,s,m,hn,hok,hl,hI=>by
  have hF : ∃ O, OrcSound Y00 gl O /\ (∀ (i : Nat) (hi : i < l.length) (t : V.σ) (q : Nat), n ≠ 0 -> V.I (d + 1) t (sizeL l[i].kids + q) -> Z02 Y00 O (V.Mem t) 168 [exA l[i].kids, .int .i64 (d + 1), V.F] = some (.bool (goL V.hE l[i].kids (d + 1) t).1, V.Mem (goL V.hE l[i].kids (d + 1) t).2)) /\
    (∀(i:Nat)(hi:i<l.length)(t:V.σ)(q:Nat),V.I d t (q+1)->Z02 Y00 O (V.Mem t) V.gE ([.rp ((exC l).drop (i*4)),.int .i64 d]++V.cE)=some (.bool (V.hE l[i] d t).1,V.Mem (V.hE l[i] d t).2)):=by
   have s1:=Z4p (P:=Y00) (gl:=gl) (I:=Nat×V.σ×Nat) (G:=λp=>∃hp:p.1<l.length,n≠0/\V.I (d+1) p.2.1 (sizeL l[p.1].kids+p.2.2)) (fF:=λ_=>168) (fA:=λp=>[exA (l.getD p.1 default).kids,.int .i64 (d+1),V.F]) (fH:=λp=>V.Mem p.2.1) (fR:=λp=>.bool (goL V.hE (l.getD p.1 default).kids (d+1) p.2.1).1) (fO:=λp=>V.Mem (goL V.hE (l.getD p.1 default).kids (d+1) p.2.1).2) λp hp=>by
    obtain⟨hp,h0,h1⟩:=hp
    have hg:l.getD p.1 default=l[p.1]:=by simp[Y0r,hp]
    rw[hg]
    have hke:=Z0k hok _ (Z03 hp)
    have hsz:=Z0h _ _ (Z03 hp)
    have hsk:=Z8Q l[p.1]
    match n,hn,h0 with
    |n+1,hn,_=>exact TvE.exprs hf n _ (d+1) p.2.1 p.2.2 (by omega) (Z0S hke).2 (Z0S hke).1.2 h1
   have s2:=Z4p (P:=Y00) (gl:=gl) (I:=Nat×V.σ×Nat) (G:=λp=>p.1<l.length/\V.I d p.2.1 (p.2.2+1)) (fF:=λ_=>V.gE) (fA:=λp=>[.rp ((exC l).drop (p.1*4)),.int .i64 d]++V.cE) (fH:=λp=>V.Mem p.2.1) (fR:=λp=>.bool (V.hE (l.getD p.1 default) d p.2.1).1) (fO:=λp=>V.Mem (V.hE (l.getD p.1 default) d p.2.1).2) λp hp=>by
    obtain⟨hp,h1⟩:=hp
    have hg:l.getD p.1 default=l[p.1]:=by simp[Y0r,hp]
    have hke:=Z0k hok _ (Z03 hp)
    simp only[hg]
    rw[Z6D l p.1 hp]
    exact V.okE _ _ _ _ _ hke h1
   refine⟨_,Z2v s1 s2,λi hi t q h0 h1=>?_,λi hi t q h1=>?_⟩
   · have hg:l.getD i default=l[i]:=by simp[Y0r,hi]
     have:=ZkJ (P:=Y00) (I:=Nat×V.σ×Nat) (G:=λp=>∃hp:p.1<l.length,n≠0/\V.I (d+1) p.2.1 (sizeL l[p.1].kids+p.2.2)) (fF:=λ_=>168) (fA:=λp=>[exA (l.getD p.1 default).kids,.int .i64 (d+1),V.F]) (fH:=λp=>V.Mem p.2.1) (fR:=λp=>.bool (goL V.hE (l.getD p.1 default).kids (d+1) p.2.1).1) (fO:=λp=>V.Mem (goL V.hE (l.getD p.1 default).kids (d+1) p.2.1).2)
      (fun p q _ _ _ ha hh => by
        have e2:=V.inj _ _ hh
        simp only[List.cons.injEq,and_true,true_and]at ha
        rw[Z83 ha,e2];exact⟨rfl,rfl⟩) (g:=168) (args:=[exA l[i].kids,.int .i64 (d+1),V.F]) (H:=V.Mem t) (by kernel_rfl) (i,t,q) ⟨hi,h0,h1⟩ rfl (by rw[hg]) rfl
     simp only[hg]at this
     exact callOr1 (by kernel_rfl) this
   · have hg:l.getD i default=l[i]:=by simp[Y0r,hi]
     refine Zak V.bodyE (Z7B λp _ _ ha=>?_) ?_
     · have:=congrArg (λa=>a.head?) ha
       simp[exA]at this
     · have := ZkJ (P := Y00) (I := Nat × V.σ × Nat) (G := fun p => p.1 < l.length /\ V.I d p.2.1 (p.2.2 + 1)) (fF := fun _ => V.gE) (fA := fun p => [.rp ((exC l).drop (p.1 * 4)), .int .i64 d] ++ V.cE) (fH := fun p => V.Mem p.2.1) (fR := fun p => .bool (V.hE (l.getD p.1 default) d p.2.1).1) (fO := fun p => V.Mem (V.hE (l.getD p.1 default) d p.2.1).2)
        (fun p q hp hq _ ha hh => by
          have e2:=V.inj _ _ hh
          simp only[Y0o,Y0y,List.cons.injEq,AV.rp.injEq,true_and,and_true]at ha
          have:=congrArg List.length ha
          simp only[List.length_drop,Z6b]at this
          have e:p.1=q.1:=by have:=hp.1;have:=hq.1;omega
          rw[e,e2];exact⟨rfl,rfl⟩) (g:=V.gE) (args:=[.rp ((exC l).drop (i*4)),.int .i64 d]++V.cE) (H:=V.Mem t) V.bodyE (i,t,q) ⟨hi,h1⟩ rfl rfl rfl
       simp only[hg]at this
       exact this
  obtain⟨O,hO,q2,q1⟩:=hF
  have hbd:=V.bnd _ _ _ hI
  have w1:IntKind.i64.wrap (d+1)=d+1:=Z2r (by omega) (by omega)
  simp only[exA,TvE.F]at q2⊢
  refine Zi8 (k:=V.k) follows Z07 hO (V.len s) Tryz.func168 rfl (Z85 _ _) ?_
  repeat' ((conv=>whnf);first|(rw[Z0i])|refine stp ?_|with_reducible apply Z01<;>intro h)
  conv=>whnf
  refine⟨Nat,(λi=>i<=l.length/\(goL V.hE (l.take i) d s).1=true),(λi=>[(0,.rs l.length 4 (exC l)),(1,.int .i64 d),(2,.func (.func V.gE) [] V.cE),(9,.int .i64 l.length),(10,.int .i64 i)]),(λi=>V.Mem (goL V.hE (l.take i) d s).2),(λi=>l.length-i),⟨0,⟨Y0g _,by simp only[Y03,goL]⟩,?_⟩,?_⟩
  · simp only[Y03,goL]
    refine FgLK.same rfl ?_ (V.same _)
    refine Y09 (Y01 rfl) ?_
    refine Y09 (Y01 rfl) ?_
    refine Y09 (Wk.func trivial V.wkE) ?_
    refine Y09 (Y07 rfl) ?_
    exact⟨Y07 rfl,trivial⟩
  rintro i ⟨hi,hall⟩
  dsimp only
  conv=>whnf
  rw[Z0i]
  by_cases hlt:i<l.length
  · have e1:decide ((i:Int)<(l.length:Int))=true:=by simpa using hlt
    have hat:=Zli (h:=V.hE) l d s i hlt hall
    have hI2:V.I d (goL V.hE (l.take i) d s).2 (sizeL (l.drop i)+m):=V.keepL (l.take i) d s (sizeL (l.drop i)+m) (by
     have:=Z43 l i hlt
     have e:sizeL (l.drop i)=Z0a l[i]+sizeL (l.drop (i+1)):=by rw[Y0w hlt];simp only[sizeL]
     have e2:sizeL (l.take i)+(sizeL (l.drop i)+m)=sizeL l+m:=by omega
     rw[e2];exact hI) hall
    generalize (goL V.hE (l.take i) d s).2=t at *
    have esz:sizeL (l.drop i)+m=(sizeL l[i].kids+(sizeL (l.drop (i+1))+m))+1:=by
     rw[Y0w hlt];simp only[sizeL];have:=Z8Q l[i];omega
    rw[esz]at hI2
    have q1':=q1 i hlt t _ hI2
    have hd2:=V.downE l[i] d t _ hI2
    have hx3:tk 1 (((exC l).drop (i*4)).drop 3)=some [exA l[i].kids]:=by rw[Z6D l i hlt];exact Zke _ _
    have hn0:n≠0:=by have:=Z0h _ _ (Z03 hlt);have:=Z1r l[i];omega
    have q2':=λt q=>q2 i hlt t q hn0
    rw[Zo5]at hat
    have hst:=ZeP (h:=V.hE) l d s (i+1)
    generalize l[i]=e at *
    generalize hr:V.hE e d t=r at *
    obtain⟨b,t1⟩:=r
    dsimp only at *
    cases b with
    |false =>
     simp only[Bool.false_eq_true,if_false]at hat
     rw[hat]at hst
     rw[hst rfl]
     clear q2 q2' hx3
     repeat' ((conv=>whnf);first|(refine exI q1' ?_)|(rw[Z0i])|(with_reducible refine ixJ i rfl ?_ ?_;focus omega)|refine stp ?_|with_reducible apply Z01<;>intro h)
     all_goals (conv=>whnf)
     all_goals (exact V.fin s t1 false)
    |true =>
     simp only[if_true]at hat
     have q2'':=q2' t1 _ (hd2 rfl)
     generalize hg:goL V.hE e.kids (d+1) t1=g at *
     obtain⟨b2,t2⟩:=g
     dsimp only at *
     simp only[exA]at hx3 q2''
     cases b2 with
     |true =>
      repeat' ((conv=>whnf);first|(refine exI q1' ?_)|(refine exI q2'' ?_)|refine exI hx3 ?_|(rw[Z0i])|(with_reducible refine exW w1 ?_)|(with_reducible refine ixJ i rfl ?_ ?_;focus omega)|refine stp ?_|with_reducible apply Z01<;>intro h)
      all_goals (conv=>whnf)
      refine⟨i+1,⟨hlt,by rw[hat]⟩,by show l.length-(i+1)<l.length-i;omega,?_⟩
      rw[hat]
      refine FgLK.same rfl ?_ (V.same _)
      refine Y09 (Y01 rfl) ?_
      refine Y09 (Y01 rfl) ?_
      refine Y09 (Wk.func trivial V.wkE) ?_
      refine Y09 (Y07 rfl) ?_
      exact⟨Y07 rfl,trivial⟩
     |false =>
      rw[hat]at hst
      rw[hst rfl]
      repeat' ((conv=>whnf);first|(refine exI q1' ?_)|(refine exI q2'' ?_)|refine exI hx3 ?_|(rw[Z0i])|(with_reducible refine exW w1 ?_)|(with_reducible refine ixJ i rfl ?_ ?_;focus omega)|refine stp ?_|with_reducible apply Z01<;>intro h)
      all_goals (conv=>whnf)
      all_goals (exact V.fin s t2 false)
  · have e1:decide ((i:Int)<(l.length:Int))=false:=by simpa using hlt
    have hi2:i=l.length:=by have:=hi;omega
    subst hi2
    rw[Y0m]at hall⊢
    rw[hall]
    generalize (goL V.hE l d s).2=t at *
    repeat' ((conv=>whnf);first|(rw[Z0i])|refine stp ?_|with_reducible apply Z01<;>intro h)
    all_goals (conv=>whnf)
    all_goals (exact V.fin s t true)
end
end
section
inductive St where
 |mk (kind:Int) (name loc:List UInt8) (order:Int) (exprs:List Ex) (thn els:List St)
instance:Inhabited St:=⟨.mk 0 [] [] 0 [] [] []⟩
def St.kind:St->Int
 | .mk k _ _ _ _ _ _=>k
def St.name:St->List UInt8
 | .mk _ n _ _ _ _ _=>n
def St.loc:St->List UInt8
 | .mk _ _ l _ _ _ _=>l
def St.exprs:St->List Ex
 | .mk _ _ _ _ x _ _=>x
def St.thn:St->List St
 | .mk _ _ _ _ _ t _=>t
def St.els:St->List St
 | .mk _ _ _ _ _ _ e=>e
mutual
def St.cells:St->List AV
 | .mk k n l o x t e=>[.int .i64 k,.str n,.str l,.int .i64 o,exA x,.rs t.length 7 (stC t),.rs e.length 7 (stC e)]
def stC:List St->List AV
 |[]=>[]
 |s::l=>s.cells++stC l
end
def stA(l:List St):AV:=.rs l.length 7 (stC l)
mutual
def Zcx:St->Nat
 | .mk _ _ _ _ x t e=>1+sizeL x+sizeSL t+sizeSL e
def sizeSL:List St->Nat
 |[]=>0
 |s::l=>Zcx s+sizeSL l
end
mutual
def okS:St->Prop
 | .mk _ n l _ x t e=>okN n x.length/\okN l t.length/\e.length<=9223372036854775807/\okL x/\okSL t/\okSL e
def okSL:List St->Prop
 |[]=>True
 |s::l=>okS s/\okSL l
end
theorem Zeu:∀{l:List St},okSL l->∀s∈l,okS s
 |x::l,h,e,he=>by
  simp only[okSL]at h
  rcases Y0f.1 he with rfl|he
  ·exact h.1
  ·exact Zeu h.2 e he
theorem Zhl:∀{s:St},okS s->s.name.length<=9223372036854775807/\s.loc.length<=9223372036854775807/\s.exprs.length<=9223372036854775807/\s.thn.length<=9223372036854775807/\s.els.length<=9223372036854775807/\okL s.exprs/\okSL s.thn/\okSL s.els
 | .mk _ _ _ _ _ _ _,h=>by
  simp only[okS,okN]at h
  simp only[St.name,St.loc,St.exprs,St.thn,St.els]
  exact⟨h.1.1,h.2.1.1,h.1.2,h.2.1.2,h.2.2.1,h.2.2.2⟩
theorem Z5X:∀s:St,s.cells.length=7
 | .mk _ _ _ _ _ _ _=>by simp only[St.cells];rfl
theorem Zjp(s:St)(l:List St)(i:Nat):(stC (s::l)).drop ((i+1)*7)=(stC l).drop (i*7):=by
 have h:(i+1)*7=7+i*7:=by omega
 rw[h,<- List.drop_drop,stC,List.drop_left' (Z5X s)]
theorem ZaW:∀(l:List St)(i:Nat)(h:i<l.length),(stC l).drop (i*7)=l[i].cells++stC (l.drop (i+1))
 |s::l,0,h=>by simp only[Nat.zero_mul,Y0u,stC,Y0b,Y0l]
 |s::l,i+1,h=>by rw[Zjp,ZaW l i (by simpa using h)];simp only[Y0a,Y0l]
mutual
theorem Zfw:∀(a b:St),a.cells=b.cells->a=b
 | .mk k n l o x t e,.mk k' n' l' o' x' t' e',h=>by
  simp only[St.cells,List.cons.injEq,AV.int.injEq,AV.str.injEq,AV.rs.injEq,true_and,and_true]at h
  obtain⟨rfl,rfl,rfl,rfl,hx,ht,he⟩:=h
  rw[Z83 hx,stC_inj t t' ht.2 ht.1,stC_inj e e' he.2 he.1]
theorem stC_inj:∀(a b:List St),stC a=stC b->a.length=b.length->a=b
 |[],[],_,_=>rfl
 |x::a,y::b,h,hl=>by
  simp only[stC]at h
  have h':=List.append_inj h (by rw[Z5X,Z5X])
  rw[Zfw x y h'.1,stC_inj a b h'.2 (by simpa using hl)]
 |[],_::_,_,hl=>by simp at hl
 |_::_,[],_,hl=>by simp at hl
end
theorem ZlS{a b:List St}(h:stA a=stA b):a=b:=by
 simp only[stA,AV.rs.injEq,true_and]at h
 exact stC_inj _ _ h.2 h.1
theorem Zjs:∀s:St,Zcx s=1+sizeL s.exprs+sizeSL s.thn+sizeSL s.els
 | .mk _ _ _ _ _ _ _=>by simp only[Zcx,St.exprs,St.thn,St.els]
theorem Z8O:∀(l:List St)(s:St),s∈l->Zcx s<=sizeSL l
 |e::l,f,h=>by
  simp only[sizeSL]
  rcases Y0f.1 h with rfl|h
  ·omega
  ·have:=Z8O l f h;omega
theorem Zoj(s:St)(rest:List AV):tk 1 ((s.cells++rest).drop 4)=some [exA s.exprs]:=by
 obtain⟨k,n,l,o,x,t,e⟩:=s
 simp only[St.cells,exA,St.exprs];rfl
theorem Zok(s:St)(rest:List AV):tk 1 ((s.cells++rest).drop 5)=some [stA s.thn]:=by
 obtain⟨k,n,l,o,x,t,e⟩:=s
 simp only[St.cells,stA,St.thn];rfl
theorem Zom(s:St)(rest:List AV):tk 1 ((s.cells++rest).drop 6)=some [stA s.els]:=by
 obtain⟨k,n,l,o,x,t,e⟩:=s
 simp only[St.cells,stA,St.els];rfl
theorem Zol(s:St)(rest:List AV):tk 1 ((s.cells++rest).drop 1)=some [.str s.name]:=by
 obtain⟨k,n,l,o,x,t,e⟩:=s
 simp only[St.cells,St.name];rfl
end
section
mutual
def nmE:Ex->List (List UInt8)
 | .mk o _ s k=>(cond (o==2 && !(s==[])) [s] [])++nmL k
def nmL:List Ex->List (List UInt8)
 |[]=>[]
 |e::l=>nmE e++nmL l
end
mutual
def nmS:St->List (List UInt8)
 | .mk _ n _ _ x t e=>(cond (!(n==[])) [n] [])++(nmL x++(nmSL t++nmSL e))
def nmSL:List St->List (List UInt8)
 |[]=>[]
 |x::l=>nmS x++nmSL l
end
mutual
theorem Z48:∀e:Ex,(nmE e).length<=Z0a e
 | .mk o m s k=>by
  have:=nmL_len k
  simp only[nmE,Z0a,Y0p]
  cases (o==2 && !(s==[]))<;>simp<;>omega
theorem nmL_len:∀l:List Ex,(nmL l).length<=sizeL l
 |[]=>by simp[nmL]
 |e::l=>by have:=Z48 e;have:=nmL_len l;simp only[nmL,sizeL,Y0p];omega
end
mutual
theorem Zmh:∀e:St,(nmS e).length<=Zcx e
 | .mk k n lc o x t e=>by
  have:=nmL_len x;have:=nmSL_len t;have:=nmSL_len e
  simp only[nmS,Zcx,Y0p]
  cases (!(n==[]))<;>simp<;>omega
theorem nmSL_len:∀l:List St,(nmSL l).length<=sizeSL l
 |[]=>by simp[nmSL]
 |e::l=>by have:=Zmh e;have:=nmSL_len l;simp only[nmSL,sizeSL,Y0p];omega
end
mutual
theorem Zhp:∀{e:Ex},okE e->∀x∈nmE e,x.length<=9223372036854775807
 | .mk o m s k,h,x,hx=>by
  have h1:=Z0S h
  simp only[Ex.name,Ex.kids,okN]at h1
  simp only[nmE,Y0D]at hx
  rcases hx with hx|hx
  · cases hb:(o==2 && !(s==[])) with
    |true=>rw[hb]at hx;simp at hx;subst hx;exact h1.1.1
    |false=>rw[hb]at hx;simp at hx
  ·exact nmL_ok h1.2 x hx
theorem nmL_ok:∀{l:List Ex},okL l->∀x∈nmL l,x.length<=9223372036854775807
 |[],h,x,hx=>by simp[nmL]at hx
 |e::l,h,x,hx=>by
  simp only[nmL,Y0D]at hx
  rcases hx with hx|hx
  ·exact Zhp (Z0k h e (by simp)) x hx
  ·exact nmL_ok (by simp only[okL]at h;exact h.2) x hx
end
end
section
mutual
def smE:Ex->Int->Nat->Bool×Nat
 | .mk _ _ _ k,d,n=>if n+1<=2000/\d<=32 then smL k (d+1) (n+1) else (false,n+1)
def smL:List Ex->Int->Nat->Bool×Nat
 |[],_,n=>(true,n)
 |e::l,d,n=>if (smE e d n).1=true then smL l d (smE e d n).2 else (false,(smE e d n).2)
end
mutual
theorem ZgH:∀(e:Ex)(d:Int)(n:Nat),((smE e d n).1=true ↔ n+Z0a e<=2000/\d+Z2A e<=33)/\((smE e d n).1=true->(smE e d n).2=n+Z0a e)
 | .mk o m s k,d,n=>by
  simp only[smE,Z0a,Z2A]
  by_cases h:n+1<=2000/\d<=32
  · rw[if_pos h]
    obtain⟨h1,h2⟩:=smL_law k (d+1) (n+1) (by omega) (by omega)
    refine⟨?_,λh3=>by rw[h2 h3];omega⟩
    rw[h1];constructor<;>(intro h;omega)
  · rw[if_neg h]
    refine⟨⟨λh=>(by cases h),λh2=>absurd (show n+1<=2000/\d<=32 by omega) h⟩,λh=>(by cases h)⟩
theorem smL_law:∀(l:List Ex)(d:Int)(n:Nat),n<=2000->d<=33->((smL l d n).1=true ↔ n+sizeL l<=2000/\d+deepL l<=33)/\((smL l d n).1=true->(smL l d n).2=n+sizeL l)
 |[],d,n,h1,h2=>by simp only[smL,sizeL,deepL];refine⟨⟨λ_=>by omega,λ_=>by first|rfl|trivial⟩,λ_=>by first|rfl|trivial|omega⟩
 |e::l,d,n,h1,h2=>by
  obtain⟨g1,g2⟩:=ZgH e d n
  simp only[smL,sizeL,deepL]
  by_cases h:(smE e d n).1=true
  · rw[if_pos h,g2 h]
    have g3:=g1.1 h
    obtain⟨k1,k2⟩:=smL_law l d (n+Z0a e) g3.1 h2
    refine⟨?_,λh3=>by rw[k2 h3];omega⟩
    rw[k1];constructor<;>(intro h;omega)
  · rw[if_neg h]
    refine⟨⟨λh=>(by cases h),λh2=>absurd (g1.2 (by omega)) h⟩,λh=>(by cases h)⟩
end
theorem Zl1:∀(l:List Ex)(d:Int)(n:Nat)(i:Nat)(h:i<l.length),(smL (l.take i) d n).1=true->smL (l.take (i+1)) d n=(if (smE l[i] d (smL (l.take i) d n).2).1=true then (true,(smE l[i] d (smL (l.take i) d n).2).2) else (false,(smE l[i] d (smL (l.take i) d n).2).2))
 |e::l,d,n,0,h,_=>by
  simp only[Y02,Y03,smL,Y0b]
 |e::l,d,n,i+1,h,h2=>by
  simp only[Y02,smL,Y0a]at h2⊢
  by_cases h3:(smE e d n).1=true
  · rw[if_pos h3]at h2⊢
    rw[if_pos h3]
    exact Zl1 l d _ i (by simpa using h) h2
  ·rw[if_neg h3]at h2;cases h2
theorem Ze5:∀(l:List Ex)(d:Int)(n:Nat)(i:Nat),(smL (l.take i) d n).1=false->smL l d n=smL (l.take i) d n
 |[],d,n,i,h=>by simp
 |e::l,d,n,0,h=>by simp only[Y03,smL]at h;cases h
 |e::l,d,n,i+1,h=>by
  simp only[Y02,smL]at h⊢
  split
  · rename_i h2
    rw[if_pos h2]at h
    exact Ze5 l d _ i h
  ·rfl
def Z4X(e:Ex):Bool:=decide (2000<Z0a e\/32<Z2A e)
theorem ZnI(e:Ex):(smE e 1 0).1 = !Z4X e:=by
 have h:=(ZgH e 1 0).1
 unfold Z4X
 rw[Y0B,h,Y0x,decide_eq_false_iff_not]
 constructor<;>(intro h;omega)
def ZjK(regs op num:Int)(name:List UInt8)(n:Nat):Bool :=
 if op=1 then decide (0<=num)&&(name==[]&&decide (n=0))
 else if op=2 then decide (0<=Z1c name)&&(decide (Z1c name<regs)&&(num==0&&decide (n=0)))
 else if op=3\/op=4 then num==0&&(name==[]&&decide (n=1))
 else if 5<=op/\op<=16 then num==0&&(name==[]&&decide (n=2))
 else false
mutual
def Z0m(regs:Int):Ex->Bool
 | .mk op num name kids=>ZjK regs op num name kids.length&&rightPL regs kids
def rightPL(regs:Int):List Ex->Bool
 |[]=>true
 |e::l=>Z0m regs e&&rightPL regs l
end
theorem Zh5(regs:Int):∀e:Ex,Z0m regs e=(ZjK regs e.op e.num e.name e.kids.length&&rightPL regs e.kids)
 | .mk _ _ _ _=>by simp only[Z0m,Ex.op,Ex.num,Ex.name,Ex.kids]
theorem Z2u{regs:Int}:∀{l:List Ex}{i:Nat}(h:i<l.length),Z0m regs l[i]=false->rightPL regs l=false
 |e::l,0,h,h2=>by simp only[Y0b]at h2;simp only[rightPL,h2,Bool.false_and]
 |e::l,i+1,h,h2=>by simp only[Y0a]at h2;simp only[rightPL,Z2u (l:=l) (by simpa using h) h2,Bool.and_false]
theorem Z25(regs:Int):∀(l:List Ex)(i:Nat)(h:i<l.length),rightPL regs (l.take (i+1))=(rightPL regs (l.take i)&&Z0m regs l[i])
 |e::l,0,h=>by simp only[Y02,Y03,rightPL,Y0b,Y0s,Y0z]
 |e::l,i+1,h=>by
  have:=Z25 regs l i (by simpa using h)
  simp only[Y02,rightPL,Y0a]at this⊢;rw[this,Bool.and_assoc]
def Z8Z(name:List UInt8):List UInt8:=if 0<=Z1c name then 114::name else [48]
mutual
def Z1b:Ex->Ex
 | .mk op num name kids=>.mk op num (if op=2 then Z8Z name else name) (namL kids)
def namL:List Ex->List Ex
 |[]=>[]
 |e::l=>Z1b e::namL l
end
theorem Z12:∀l:List Ex,(namL l).length=l.length
 |[]=>by simp only[namL]
 |e::l=>by simp only[namL,Y0e,Z12 l]
mutual
theorem Z49:∀e:Ex,Z0a (Z1b e)=Z0a e
 | .mk _ _ _ k=>by simp only[Z1b,Z0a,namL_size k]
theorem namL_size:∀l:List Ex,sizeL (namL l)=sizeL l
 |[]=>by simp only[namL]
 |e::l=>by simp only[namL,sizeL,Z49 e,namL_size l]
end
mutual
theorem Zbf:∀e:Ex,Z2A (Z1b e)=Z2A e
 | .mk _ _ _ k=>by simp only[Z1b,Z2A,namL_deep k]
theorem namL_deep:∀l:List Ex,deepL (namL l)=deepL l
 |[]=>by simp only[namL]
 |e::l=>by simp only[namL,deepL,Zbf e,namL_deep l]
end
theorem Z3g:∀(l:List Ex)(i:Nat)(h:i<l.length),namL (l.take (i+1))=namL (l.take i)++[Z1b l[i]]
 |e::l,0,h=>by simp[namL]
 |e::l,i+1,h=>by
  have:=Z3g l i (by simpa using h)
  simp only[Y02,namL,Y0a,this,Y0o]
theorem Z9R(s:List UInt8)(h:0<=Z1c s):s.length<=4:=by
 unfold Z1c at h
 split at h
 ·omega
 · rename_i h2
   simp only[Zcj,Y0O,not_or,decide_eq_true_eq]at h2
   omega
theorem Zhw(s:List UInt8):(Z8Z s).length<=5:=by
 unfold Z8Z
 split
 ·rename_i h;have:=Z9R s h;simp only[Y0e];omega
 ·simp
mutual
theorem Z9S:∀e:Ex,okE e->okE (Z1b e)
 | .mk op num name kids,h=>by
  simp only[okE,okN,Z1b,Z12]at h⊢
  refine⟨⟨?_,h.1.2⟩,namL_ok kids h.2⟩
  split
  ·have:=Zhw name;omega
  ·exact h.1.1
theorem namL_ok:∀l:List Ex,okL l->okL (namL l)
 |[],h=>by simp only[namL,okL]
 |e::l,h=>by simp only[namL,okL]at h⊢;exact⟨Z9S e h.1,namL_ok l h.2⟩
end
theorem ZaS{p:UInt8->Bool}:∀{l:List UInt8},(∀c∈l,p c=true)->l.takeWhile p=l
 |[],_=>rfl
 |c::l,h=>by rw[List.takeWhile_cons,h c (by simp),if_pos rfl,ZaS λd hd=>h d (by simp[hd])]
theorem Znv{s:List UInt8}(h0:s≠[])(h:Zds s=true):Z3u (114::s)=true:=by
 have hw:Z3X (114::s)=(114::s).length:=by
  have h1:ZeE ((114:UInt8).toNat:Int)=true:=by decide
  simp only[Z3X,h1,if_true]
  unfold Z3y
  rw[ZaS]
  intro c hc
  rcases Y0f.1 hc with rfl|hc
  ·decide
  · have:=Y0j.1 h c hc
    simp[Z8k,this]
 obtain⟨c,t,rfl⟩:∃c t,s=c::t:=by cases s with|nil=>exact absurd rfl h0|cons c t=>exact⟨c,t,rfl⟩
 have hc:Zag c.toNat=true:=Y0j.1 h c (by simp)
 have h1:c≠108:=λe=>by subst e;revert hc;decide
 have h2:c≠101:=λe=>by subst e;revert hc;decide
 have hk:keysL.contains (114::c::t)=false:=by
  simp[keysL,h1,h2]
 unfold Z3u
 rw[hw,hk];simp
theorem ZlA:Z3u [48]=false:=by decide
theorem Z9s:Z3u []=false:=by decide
def Z8j(regs:Int)(l:List (List UInt8)):Bool:=l.all λs=>decide (Z1c s<regs)
theorem ZjP{s:List UInt8}(h:0<=Z1c s):s≠[]/\Zds s=true:=by
 unfold Z1c at h
 split at h
 ·omega
 · rename_i h2
   split at h
   · rename_i h3
     refine⟨λe=>?_,h3⟩
     subst e;exact h2 (by decide)
   ·omega
theorem ZjJ(regs op num:Int)(name:List UInt8)(n:Nat):ZjK regs op num name n=(ZaA op num (if op=2 then Z8Z name else name) n&&Z8j regs (cond (op==2 && !(name==[])) [name] [])):=by
 unfold ZjK ZaA Z4N
 by_cases h1:op=1
 · subst h1
   cases name with
   |nil=>rw[Y0B];simp[Z9s,Z8j]<;>omega
   |cons c t=>simp
 · by_cases h2:op=2
   · subst h2
     by_cases hn:0<=Z1c name
     · obtain⟨h3,h4⟩:=ZjP hn
       have h5:=Znv h3 h4
       have h6:(name==[])=false:=by simpa using h3
       rw[Y0B]
       simp[Z8Z,hn,h5,h6,Z8j]
       constructor
       ·rintro⟨a,rfl,rfl⟩;simp[a]
       ·rintro⟨⟨a,b,c⟩,d⟩;refine⟨d,c,by omega⟩
     · rw[Y0B]
       simp[Z8Z,hn,ZlA]
   · have h3:(op==2)=false:=by simpa using h2
     cases name with
     |nil =>
      rw[Y0B]
      by_cases h4:op=3\/op=4
      · have h5:¬(op=1\/op=2):=by omega
        have h6:¬op=1:=h1
        simp[h1,h2,h4,h3,Z9s,Z8j]<;>omega
      · by_cases h5:5<=op/\op<=16
        ·simp[h1,h2,h4,h3,h5,Z9s,Z8j]<;>omega
        ·simp[h1,h2,h4,h3,h5,Z9s,Z8j]<;>omega
     |cons c t =>
      have h5:(op==2 || (c::t)==[])=false:=by rw[h3];rfl
      simp[h1,h2,h3]
theorem ZeU(regs:Int)(a b:List (List UInt8)):Z8j regs (a++b)=(Z8j regs a&&Z8j regs b):=by simp[Z8j]
mutual
theorem Z5Y(regs:Int):∀e:Ex,Z0m regs e=(Z0j (Z1b e)&&Z8j regs (nmE e))
 | .mk op num name kids=>by
  simp only[Z0m,Z1b,Z0j,nmE,ZjJ regs op num name kids.length,rightPL_law regs kids,Z12,ZeU]
  generalize ZaA op num (if op=2 then Z8Z name else name) kids.length=a
  generalize Z8j regs (cond (op==2 && !(name==[])) [name] [])=b
  generalize rightL (namL kids)=c
  generalize Z8j regs (nmL kids)=d
  cases a<;>cases b<;>cases c<;>cases d<;>rfl
theorem rightPL_law(regs:Int):∀l:List Ex,rightPL regs l=(rightL (namL l)&&Z8j regs (nmL l))
 |[]=>by simp[rightPL,namL,rightL,nmL,Z8j]
 |e::l=>by
  simp only[rightPL,namL,rightL,nmL,Z5Y regs e,rightPL_law regs l,ZeU]
  generalize Z0j (Z1b e)=a
  generalize Z8j regs (nmE e)=b
  generalize rightL (namL l)=c
  generalize Z8j regs (nmL l)=d
  cases a<;>cases b<;>cases c<;>cases d<;>rfl
end
theorem ZbQ{e:Ex}(h:Z4X e=false):(Z0K (Z1b e)==0)=Z0j (Z1b e):=by
 unfold Z0K
 rw[Z49,Zbf]
 simp only[Z4X,decide_eq_false_iff_not]at h
 rw[if_neg h]
 cases Z0j (Z1b e)<;>rfl
end
end Go.Proofs.YthbimonbnaodkaaGreatDoor.lex
section
namespace Go.Proofs.YthbimonbnaodkaaGreatDoor.runLives
open Go.RowKit Go.Abs
def tbl0:List AV:=[.int .u8 (.ofNat 0),.int .u8 (.ofNat 1),.int .u8 (.ofNat 28),.int .u8 (.ofNat 2),.int .u8 (.ofNat 29),.int .u8 (.ofNat 14),.int .u8 (.ofNat 24),
 .int .u8 (.ofNat 3),.int .u8 (.ofNat 30),.int .u8 (.ofNat 22),.int .u8 (.ofNat 20),.int .u8 (.ofNat 15),.int .u8 (.ofNat 25),
 .int .u8 (.ofNat 17),.int .u8 (.ofNat 4),.int .u8 (.ofNat 8),.int .u8 (.ofNat 31),.int .u8 (.ofNat 27),.int .u8 (.ofNat 13),.int .u8 (.ofNat 23),
 .int .u8 (.ofNat 21),.int .u8 (.ofNat 19),.int .u8 (.ofNat 16),.int .u8 (.ofNat 7),.int .u8 (.ofNat 26),.int .u8 (.ofNat 12),
 .int .u8 (.ofNat 18),.int .u8 (.ofNat 6),.int .u8 (.ofNat 11),.int .u8 (.ofNat 5),.int .u8 (.ofNat 10),.int .u8 (.ofNat 9)]
def ZpC:List AV:=[.int .u8 (.ofNat 0),.int .u8 (.ofNat 1),.int .u8 (.ofNat 56),.int .u8 (.ofNat 2),.int .u8 (.ofNat 57),.int .u8 (.ofNat 49),.int .u8 (.ofNat 28),
 .int .u8 (.ofNat 3),.int .u8 (.ofNat 61),.int .u8 (.ofNat 58),.int .u8 (.ofNat 42),.int .u8 (.ofNat 50),.int .u8 (.ofNat 38),
 .int .u8 (.ofNat 29),.int .u8 (.ofNat 17),.int .u8 (.ofNat 4),.int .u8 (.ofNat 62),.int .u8 (.ofNat 47),.int .u8 (.ofNat 59),
 .int .u8 (.ofNat 36),.int .u8 (.ofNat 45),.int .u8 (.ofNat 43),.int .u8 (.ofNat 51),.int .u8 (.ofNat 22),.int .u8 (.ofNat 53),
 .int .u8 (.ofNat 39),.int .u8 (.ofNat 33),.int .u8 (.ofNat 30),.int .u8 (.ofNat 24),.int .u8 (.ofNat 18),.int .u8 (.ofNat 12),
 .int .u8 (.ofNat 5),.int .u8 (.ofNat 63),.int .u8 (.ofNat 55),.int .u8 (.ofNat 48),.int .u8 (.ofNat 27),.int .u8 (.ofNat 60),
 .int .u8 (.ofNat 41),.int .u8 (.ofNat 37),.int .u8 (.ofNat 16),.int .u8 (.ofNat 46),.int .u8 (.ofNat 35),.int .u8 (.ofNat 44),
 .int .u8 (.ofNat 21),.int .u8 (.ofNat 52),.int .u8 (.ofNat 32),.int .u8 (.ofNat 23),.int .u8 (.ofNat 11),.int .u8 (.ofNat 54),
 .int .u8 (.ofNat 26),.int .u8 (.ofNat 40),.int .u8 (.ofNat 15),.int .u8 (.ofNat 34),.int .u8 (.ofNat 20),.int .u8 (.ofNat 31),
 .int .u8 (.ofNat 10),.int .u8 (.ofNat 25),.int .u8 (.ofNat 14),.int .u8 (.ofNat 19),.int .u8 (.ofNat 9),.int .u8 (.ofNat 13),.int .u8 (.ofNat 8),
 .int .u8 (.ofNat 7),.int .u8 (.ofNat 6)]
def tbl2:List AV:=[.int .u64 (.ofNat 1),.int .u64 (.ofNat 10),.int .u64 (.ofNat 100),.int .u64 (.ofNat 1000),.int .u64 (.ofNat 10000),.int .u64 (.ofNat 100000),
 .int .u64 (.ofNat 1000000),.int .u64 (.ofNat 10000000),.int .u64 (.ofNat 100000000),.int .u64 (.ofNat 1000000000),.int .u64 (.ofNat 10000000000),
 .int .u64 (.ofNat 100000000000),.int .u64 (.ofNat 1000000000000),.int .u64 (.ofNat 10000000000000),.int .u64 (.ofNat 100000000000000),
 .int .u64 (.ofNat 1000000000000000),.int .u64 (.ofNat 10000000000000000),.int .u64 (.ofNat 100000000000000000),
 .int .u64 (.ofNat 1000000000000000000),.int .u64 (.ofNat 10000000000000000000)]
def ZpB:List AV:=[.bool false,.bool false,.int .i64 (.ofNat 0),.bool true,.bool false,.int .i64 (.ofNat 0),.bool false,.bool true,.int .i64 (.ofNat 0),
 .bool false,.bool false,.int .i64 (.ofNat 1),.bool false,.bool false,.int .i64 (.ofNat 1),.bool false,.bool false,.int .i64 (.ofNat 2),
 .bool false,.bool false,.int .i64 (.ofNat 2),.bool false,.bool false,.int .i64 (.ofNat 2),.bool false,.bool false,.int .i64 (.ofNat 2),
 .bool false,.bool false,.int .i64 (.ofNat 2),.bool false,.bool false,.int .i64 (.ofNat 2),.bool false,.bool false,.int .i64 (.ofNat 2),
 .bool false,.bool false,.int .i64 (.ofNat 2),.bool false,.bool false,.int .i64 (.ofNat 2),.bool false,.bool false,.int .i64 (.ofNat 2),
 .bool false,.bool false,.int .i64 (.ofNat 2),.bool false,.bool false,.int .i64 (.ofNat 2)]
def tbl4:List AV:=[.bool false,.bool false,.bool false,.bool false,.int .i64 (.ofNat 0),.bool true,.bool false,.bool false,.bool false,.int .i64 (.ofNat 1),
 .bool true,.bool true,.bool true,.bool false,.int .i64 (.ofNat 0),.bool false,.bool true,.bool true,.bool false,.int .i64 (.ofNat 1),
 .bool true,.bool true,.bool true,.bool false,.int .i64 (.ofNat 2),.bool true,.bool true,.bool true,.bool false,.int .i64 (.ofNat 1),
 .bool true,.bool true,.bool true,.bool false,.int .i64 (.ofNat 1),.bool false,.bool false,.bool true,.bool false,.int .i64 (.ofNat 0),
 .bool false,.bool false,.bool false,.bool false,.int .i64 (.ofNat 1),.bool false,.bool false,.bool false,.bool false,.int .i64 (.ofNat 1),
 .bool false,.bool false,.bool false,.bool true,.int .i64 (.ofNat 0),.bool false,.bool false,.bool false,.bool true,.int .i64 (.ofNat 1),
 .bool false,.bool false,.bool false,.bool false,.int .i64 (.ofNat 0),.bool false,.bool false,.bool false,.bool false,.int .i64 (.ofNat 0)]
def gl:Z0o:=λg=>if Y04 g 1 then some tbl0 else if Y04 g 5 then some ZpC else if Y04 g 4 then some tbl2 else if Y04 g 2 then some ZpB else if Y04 g 0 then some tbl4 else none
theorem follows:Y00.follows .mixedOrders=true:=by kernel_rfl
theorem Z9L:(Y00.funcs.toList.all λfn=>!(fn.name == "runtime.NumGoroutine"))=true:=by kernel_rfl
theorem Z07:NoNum Y00:=⟨λg fn h=>by
 have h1:=Y0j.1 Z9L fn (Array.mem_toList_iff.2 (Array.mem_of_getElem? h))
 simpa using h1,of_decide_eq_true (by kernel_rfl)⟩
theorem n0:Y00.globalNamed "math/bits.deBruijn32tab" = some 1:=by kernel_rfl
theorem ty0:(Y00.globals[1]?).map (·.type)=some 196:=by kernel_rfl
theorem av0:ZiC Y00 6 196 (Rows.laid_math_bits_deBruijn32tab (H:=Unit))=some tbl0:=by kernel_rfl
theorem n1:Y00.globalNamed "math/bits.deBruijn64tab" = some 5:=by kernel_rfl
theorem ty1:(Y00.globals[5]?).map (·.type)=some 265:=by kernel_rfl
theorem av1:ZiC Y00 6 265 (Rows.laid_math_bits_deBruijn64tab (H:=Unit))=some ZpC:=by kernel_rfl
theorem n2:Y00.globalNamed "internal/strconv.uint64pow10" = some 4:=by kernel_rfl
theorem ty2:(Y00.globals[4]?).map (·.type)=some 255:=by kernel_rfl
theorem av2:ZiC Y00 6 255 (Rows.laid_internal_strconv_uint64pow10 (H:=Unit))=some tbl2:=by kernel_rfl
theorem n3:Y00.globalNamed "cantilever/ast.shapes" = some 2:=by kernel_rfl
theorem ty3:(Y00.globals[2]?).map (·.type)=some 245:=by kernel_rfl
theorem av3:ZiC Y00 6 245 (Rows.laid_cantilever_ast_shapes (H:=Unit))=some ZpB:=by kernel_rfl
theorem n4:Y00.globalNamed "cantilever/ir.shapes" = some 0:=by kernel_rfl
theorem ty4:(Y00.globals[0]?).map (·.type)=some 126:=by kernel_rfl
theorem av4:ZiC Y00 6 126 (Rows.laid_cantilever_ir_shapes (H:=Unit))=some tbl4:=by kernel_rfl
theorem globs{W:World}(h:laidMetH Y00 [("math/bits.deBruijn32tab", Rows.laid_math_bits_deBruijn32tab), ("math/bits.deBruijn64tab", Rows.laid_math_bits_deBruijn64tab), ("internal/strconv.uint64pow10", Rows.laid_internal_strconv_uint64pow10), ("cantilever/ast.shapes", Rows.laid_cantilever_ast_shapes), ("cantilever/ir.shapes", Rows.laid_cantilever_ir_shapes)] W):GlOK gl (Z2s W):=by
 have h':laidMet Y00 [("math/bits.deBruijn32tab", Rows.laid_math_bits_deBruijn32tab), ("math/bits.deBruijn64tab", Rows.laid_math_bits_deBruijn64tab), ("internal/strconv.uint64pow10", Rows.laid_internal_strconv_uint64pow10), ("cantilever/ast.shapes", Rows.laid_cantilever_ast_shapes), ("cantilever/ir.shapes", Rows.laid_cantilever_ir_shapes)] W:=h
 obtain⟨_,hv,_⟩:=id h'
 obtain⟨m0,_⟩:=Z4a n0 ty0 av0 hv
 have h':=laidMet.tail h'
 obtain⟨_,hv,_⟩:=id h'
 obtain⟨m1,_⟩:=Z4a n1 ty1 av1 hv
 have h':=laidMet.tail h'
 obtain⟨_,hv,_⟩:=id h'
 obtain⟨m2,_⟩:=Z4a n2 ty2 av2 hv
 have h':=laidMet.tail h'
 obtain⟨_,hv,_⟩:=id h'
 obtain⟨m3,_⟩:=Z4a n3 ty3 av3 hv
 have h':=laidMet.tail h'
 obtain⟨_,hv,_⟩:=id h'
 obtain⟨m4,_⟩:=Z4a n4 ty4 av4 hv
 intro g cs hg
 unfold gl at hg
 split at hg
 ·rename_i e;have:=Y0c e;subst this;simp at hg;subst hg;exact m0
 split at hg
 ·rename_i e;have:=Y0c e;subst this;simp at hg;subst hg;exact m1
 split at hg
 ·rename_i e;have:=Y0c e;subst this;simp at hg;subst hg;exact m2
 split at hg
 ·rename_i e;have:=Y0c e;subst this;simp at hg;subst hg;exact m3
 split at hg
 ·rename_i e;have:=Y0c e;subst this;simp at hg;subst hg;exact m4
 cases hg
end Go.Proofs.YthbimonbnaodkaaGreatDoor.runLives
end

/-
  Texts of this proof, one behind the other (part 3).
-/
import Derived.Test.YtpobjilfhkbhjaaDoorXi2
import Derived.ProofKit
import Derived.OpenShut
import Derived.IntWalk
set_option linter.unusedVariables false
set_option linter.unusedSimpArgs false
set_option maxRecDepth 100000
set_option maxHeartbeats 4000000
open Nat renaming beq → Y00,eq_of_beq_eq_true → Y01,blt_eq → Y02,le_of_ble_eq_true → Y03,zero_add → Y04,le_refl → Y09,pow_succ → Y0a,ble_eq_true_of_le → Y0b,lt_of_lt_of_le → Y0e
open List renaming getElem?_cons_zero → Y05,mem_cons → Y07,getElem?_set → Y08,getElem?_eq_some_iff → Y0d,mem_append → Y0h
open Bool renaming and_eq_true → Y06,false_eq_true → Y0f,or_eq_true → Y0i
open Int renaming natCast_nonneg → Y0c
open Array renaming toList_append → Y0g
section
namespace Go.Abs
open Go.RowKit Go.ChangeShapes Go.WideShapes Go.ChangeAt
def Z27(W:World):Z0f:=λa=>if a.block<W.heap.size then W.cell? a else none
theorem R0(W:World):R (Z27 W) noI [] W:=by
 refine⟨λb=>?_,λb p h=>?_,λb o p h=>?_,λb b' o o' p p' h=>?_,λa v h=>?_,λb o p h=>by simp at h⟩
 ·simp[noI]
 ·simp[noI]at h
 ·simp at h
 ·simp at h
 · unfold Z27 at h
   split at h
   · rename_i hb
     exact⟨hb,h,λb o p h=>by simp at h⟩
   ·simp at h
theorem Stp.below{W W':World}{sn:Z0f}{ι : Z0c}{H:Z00}(h:Stp (Z27 W) noI [] W sn ι H W'):Below W.heap.size W W' :=
 ⟨h.os,h.tape,h.output,h.size,λc hc=>h.frame c hc λb o p hb=>by simp at hb⟩
section av
variable {H:Type} {P:Program}
def ZjX(f:TypeId->DataW H->Option (List AV))(P:Program)(tot:Nat):List Field->List (DataW H)->Nat->Option (List AV)
 |[],[],off=>if Y00 off tot then some [] else none
 | fl :: fs, d :: ds, off => if Y00 fl.offset off then
   match f fl.type d,ZjX f P tot fs ds (off+P.cellsOf fl.type) with
   |some u,some us=>if Y00 u.length (P.cellsOf fl.type) then some (u++us) else none
   |_,_=>none
  else none
 |_,_,_=>none
def Zlx(f:DataW H->Option (List AV))(ct:Nat):List (DataW H)->Option (List AV)
 |[]=>some []
 |d::ds=>match f d,Zlx f ct ds with
  |some u,some us=>if Y00 u.length ct then some (u++us) else none
  |_,_=>none
def Zgv(P:Program):Nat->TypeId->DataW H->Option (List AV)
 |0,_,_=>none
 |n+1,t,d=>match P.underlying t,d with
  |some .bool,.lit (.bool b)=>some [.bool b]
  |some (.int k),.lit (.int _ z)=>some [.int k z]
  |some .string,.lit (.string s)=>some [.str s]
  |some (.struct fs),.agg ds=>ZjX (Zgv P n) P (P.cellsOf t) fs.toList ds 0
  |some (.array m e),.agg ds=>if Y00 (ds.length*P.cellsOf e) (P.cellsOf t)&&Y00 ds.length m then Zlx (Zgv P n e) (P.cellsOf e) ds else none
  |_,_=>none
variable {enc:TypeId×Value->H} {w:World} {base:Nat} {sp:Nat->Bool} {held:Bool} {sn:Z0f} {ι : Z0c}
theorem Z8l {f : TypeId -> DataW H -> Option (List AV)} {m tot : Nat} (hf : ∀ t d us cs p, f t d = some us -> DataW.trod enc P w base sp held m t cs = some (d, p) -> LR sn ι us cs) (cs : List Value) (hl : cs.length = tot) :
  ∀(fs:List Field)(xs:List (DataW H×List MemPlace))(off:Nat)(us:List AV),ZjX f P tot fs (xs.map (·.1)) off=some us ->
   (∀(i:Nat)(fl:Field),fs[i]? = some fl->DataW.trod enc P w base sp held m fl.type ((cs.drop fl.offset).take (P.cellsOf fl.type))=xs[i]?)->LR sn ι us (cs.drop off)
 |[],[],off,us,h,hx=>by
  simp only[ZjX,List.map_nil]at h
  split at h<;>simp at h
  subst h;rename_i e
  have:=Y01 e
  simp[LR];omega
 |[],x::xs,off,us,h,hx=>by simp[ZjX]at h
 |fl::fs,[],off,us,h,hx=>by simp[ZjX]at h
 |fl::fs,x::xs,off,us,h,hx=>by
  simp only[ZjX,List.map_cons]at h
  split at h<;>try (simp at h;done)
  rename_i e
  have:=Y01 e;subst this
  split at h<;>try (simp at h;done)
  rename_i u us' hu hus
  split at h<;>simp at h
  subst h;rename_i hul
  have hul':=Y01 hul
  have h0:=hx 0 fl rfl
  simp only[Y05]at h0
  have h1:=hf _ _ _ _ _ hu h0
  have h2:=Z8l hf cs hl fs xs _ _ hus λi fl' hi=>by simpa using hx (i+1) fl' (by simpa using hi)
  have:=h1.append h2
  rwa [<- List.drop_drop,List.take_append_drop]at this
theorem Z8o {f : DataW H -> Option (List AV)} {m ct : Nat} {e : TypeId} (hf : ∀ d us cs p, f d = some us -> DataW.trod enc P w base sp held m e cs = some (d, p) -> LR sn ι us cs) (cs : List Value) :
  ∀(xs:List (DataW H×List MemPlace))(k:Nat)(us:List AV),cs.length=(k+xs.length)*ct->Zlx f ct (xs.map (·.1))=some us ->
   (∀(i:Nat),i<xs.length->DataW.trod enc P w base sp held m e ((cs.drop ((k+i)*ct)).take ct)=xs[i]?)->LR sn ι us (cs.drop (k*ct))
 |[],k,us,hl,h,hx=>by
  simp[Zlx]at h;subst h
  simp at hl
  simp[LR,hl]
 |x::xs,k,us,hl,h,hx=>by
  simp only[Zlx,List.map_cons]at h
  split at h<;>try (simp at h;done)
  rename_i u us' hu hus
  split at h<;>simp at h
  subst h
  have h0:=hx 0 (by simp)
  simp only[Y05,Nat.add_zero]at h0
  have h1:=hf _ _ _ _ hu h0
  have h2:=Z8o hf cs xs (k+1) _ (by rw[hl];simp only[List.length_cons];congr 1;omega) hus λi hi=>by
   have:=hx (i+1) (by simpa using hi)
   rw[show k+1+i=k+(i+1) from by omega]
   simpa using this
  have:=h1.append h2
  rwa [show (k+1)*ct=k*ct+ct from by rw[Nat.add_mul];simp,<- List.drop_drop,List.take_append_drop]at this
theorem Z5t:∀(n:Nat)(t:TypeId)(d:DataW H)(us:List AV)(m:Nat)(cs:List Value)(p:List MemPlace),Zgv P n t d=some us->DataW.trod enc P w base sp held m t cs=some (d,p)->LR sn ι us cs
 |0,t,d,us,m,cs,p,h,ht=>by simp[Zgv]at h
 |n+1,t,d,us,m,cs,p,h,ht=>by
  simp only[Zgv]at h
  split at h<;>try (simp at h;done)
  · rename_i b hu
    simp at h;subst h
    obtain⟨b',rfl,hx⟩:=DataW.trod_bool hu ht
    simp at hx;simp[LR,VR,hx]
  · rename_i k k' z hu
    simp at h;subst h
    obtain⟨z',rfl,hx,_⟩:=DataW.trod_int hu ht
    simp at hx;simp[LR,VR,hx]
  · rename_i s hu
    simp at h;subst h
    obtain⟨s',rfl,hx,_⟩:=DataW.trod_string hu ht
    simp at hx;simp[LR,VR,hx]
  · rename_i fs ds hu
    obtain⟨xs,m',rfl,hx,hl,hlen,hf⟩:=DataW.trod_struct hu ht
    simp at hx
    obtain⟨rfl,_⟩:=hx
    have:=Z8l (m:=m') (λt d us cs p h1 h2=>Z5t n t d us m' cs p h1 h2) cs hl fs.toList xs 0 us (by simpa using h) λi fl hi=>hf i fl (by simpa using hi)
    simpa using this
  · rename_i k e ds hu
    split at h<;>try (simp at h;done)
    rename_i hc
    simp only[Y06]at hc
    obtain⟨xs,m',rfl,hx,hl,hlen,hf⟩:=DataW.trod_array hu ht
    simp at hx
    obtain⟨rfl,_⟩:=hx
    have e1:=Y01 hc.1
    have:=Z8o (m:=m') (ct:=P.cellsOf e) (e:=e) (λd us cs p h1 h2=>Z5t n e d us m' cs p h1 h2) cs xs 0 us (by rw[hl,<- e1];simp) (by simpa using h) λi hi=>by simpa using hf i (by omega)
    simpa using this
theorem Zd2{W:World}{g:Nat}(hg:g<W.heap.size):∀(us:List AV)(vs:List Value)(o:Nat),LR (Z27 W) noI us vs->(∀(i:Nat)(v:Value),vs[i]? = some v->W.cell? ⟨g,o+i,none⟩=some v)->MR (Z27 W) us g o
 |[],vs,o,h,hc=>by simp[MR]
 |u::us,vs,o,h,hc=>by
  simp only[LR]at h
  obtain⟨d,ds,rfl,h1,h2⟩:=h
  simp only[MR]
  refine⟨⟨d,?_,h1⟩,Zd2 hg us ds (o+1) h2 λi v hi=>?_⟩
  ·unfold Z27;rw[if_pos hg];simpa using hc 0 d rfl
  ·rw[show o+1+i=o+(i+1) from by omega];exact hc (i+1) v (by simpa using hi)
end av
theorem Z3E {P : Program} {W : World} {name : String} {d : DataW Unit} {g n : Nat} {t : TypeId} {us : List AV}
  (hg:P.globalNamed name=some g) (hty:(P.globals[g]?).map (·.type)=some t) (ha:Zgv P n t d=some us) {rest:List (String×DataW Unit)} {ps:List MemPlace} (h:DataW.LaidVars P W ((name,d)::rest) ps) :
  MR (Z27 W) us g 0/\∃qs,DataW.LaidVars P W rest qs:=by
 obtain⟨g',t',cs,fuel,p,q,hg',ht',hvar,hd,hr,_⟩:=h
 obtain rfl:=Option.some.inj (hg.symm.trans hg')
 obtain rfl:=Option.some.inj (hty.symm.trans ht')
 have h1:LR (Z27 W) noI us cs.toList:=Z5t n t d us fuel cs.toList p ha hd
 have hb:g<W.heap.size:=by
  simp only[World.var?,hg,Option.bind_some]at hvar
  split at hvar
  ·rename_i hh;exact (Array.getElem?_eq_some_iff.1 hh).1
  ·simp at hvar
 refine⟨Zd2 hb us cs.toList 0 h1 λi v hi=>?_,q,hr⟩
 rw[Y04,World.var?_cell hg hvar];simpa using hi
theorem Zdg {H : Type} {enc : TypeId × Value -> H} {P : Program} {f : Func} {s : ChangeSpec} {Z60 fresh handsOn again : Bool} {W W' : World} {args : Array Value} {v : Value} {ds gs : List (DataW H)} {before pa pv : List MemPlace}
  (hW:DataW.Whole enc P f.params.toList s.vars Z60 W args.toList ds gs before)
  (hres:∀(b:Nat)(sp:Nat->Bool)(hd:Bool),DataW.TrodAll enc P W' b sp hd f.resultTypes.toList (v.resultList f.resultTypes.size) (s.fn H (ds++gs)).results [])
  (hargs:∀sp:Nat->Bool,(∀p∈before,sp p.block=true)->DataW.TrodAll enc P W' 0 sp true f.params.toList args.toList (s.fn H (ds++gs)).args pa)
  (hvars:∀sp:Nat->Bool,(∀p∈before,sp p.block=true)->DataW.TrodVars enc P W' sp s.vars (s.fn H (ds++gs)).vars pv)
  (hps:before=pa++pv) (hb:Below W.heap.size W W')
  (hok:∀(j:Nat)(t:TypeId)(r:Value),f.resultTypes[j]? = some t->(v.resultList f.resultTypes.size)[j]? = some r->Value.okWide P W' .any 0 t r) :
  s.post enc P f Z60 fresh handsOn again W args v W':=by
 have hlt:∀p∈before,p.block<W.heap.size:=λp hp=>hW.lt p hp
 have hold:∀p∈before,(λb=>decide (b<W.heap.size)) p.block=true:=λp hp=>by simpa using hlt p hp
 have hW':=hW
 obtain⟨_,_,_,_,_,hz,hn⟩:=hW'
 refine⟨ds,gs,before,[],pa,pv,hW,hres _ _ _,hargs _ hold,hvars _ hold,hb.frame _,λ_=>⟨hok,_,_,([]++pa)++pv,⟨[]++pa,pv,trodAll_append (hargs _ (λ_ _=>rfl)) (hres _ _ _),hvars _ (λ_ _=>rfl),rfl,?_,?_⟩,?_⟩⟩
 · intro b off hp
   have hp':MemPlace.cell b off∈before:=by rw[hps];simpa using hp
   rw[hb.frozen (hlt _ hp')]
   exact hz b off hp'
 · intro ha
   have:=hn ha
   rw[hps]at this
   simpa using this
 · intro p hp _
   rw[hps]
   simpa using hp
end Go.Abs
end
section
namespace Go.Abs
open Go.RowKit
def Zbd(P:Program)(gl:Z0n)(tbl:Orc)(fuel:Nat):Nat->Orc
 |0=>λ_ _ _=>none
 |n+1=>λf args H=>match tbl f args H with
  |some r=>some r
  |none=>Z9q P gl (Zbd P gl tbl fuel n) fuel f args H
theorem Z6E{P:Program}{gl:Z0n}{tbl:Orc}{fuel:Nat}(hm:P.follows .mixedOrders=true)(hn:NoNum P)(ht:OrcSound P gl tbl):∀n,OrcSound P gl (Zbd P gl tbl fuel n)
 |0=>by intro f args H r H' h;simp[Zbd]at h
 |n+1=>by
  have:=Z7u (fuel:=fuel) hm hn (Z6E (fuel:=fuel) hm hn ht n)
  intro f args H r H' h
  simp only[Zbd]at h
  split at h
  · rename_i y hy
    simp at h;subst h
    exact ht f args H r H' hy
  ·exact this f args H r H' h
def ZkQ(f:Nat)(args:List AV):List (Nat×List AV)->Bool
 |[]=>false
 |(g,az)::l=>(Y00 f g&&veqL args az) || ZkQ f args l
end Go.Abs
end
section
namespace Go.Abs
open Go.RowKit
structure N8 (α : Type) where
 a0 : α
 a1 : α
 a2 : α
 a3 : α
 a4 : α
 a5 : α
 a6 : α
 a7 : α
structure Bx (α : Type) where
 v : α
def N8.sel{α : Type}(e:N8 α):Nat -> α
 |0=>e.a0|1=>e.a1|2=>e.a2|3=>e.a3|4=>e.a4|5=>e.a5|6=>e.a6|_=>e.a7
def N8.upd{α : Type}(e:N8 α)(v : α):Nat->N8 α
 |0=>{ e with a0:=v }|1=>{ e with a1:=v }|2=>{ e with a2:=v }|3=>{ e with a3:=v }|4=>{ e with a4:=v }|5=>{ e with a5:=v }|6=>{ e with a6:=v }|_=>{ e with a7:=v }
theorem N8.sel_upd{α : Type}(e:N8 α)(v : α){i j:Nat}(hi:i<8)(hj:j<8):(e.upd v i).sel j=if j=i then v else e.sel j:=by
 match i,hi with
 |0,_|1,_|2,_|3,_|4,_|5,_|6,_|7,_ =>
  match j,hj with
  |0,_|1,_|2,_|3,_|4,_|5,_|6,_|7,_=>simp[N8.upd,N8.sel]
def Tre(α : Type):Nat->Type
 |0=>α
 |d+1=>N8 (Tre α d)
def Z2m{α : Type}:(d:Nat)->Nat->Tre α d -> α
 |0,_,e=>e
 |d+1,t,e=>Z2m d (t / 8) (N8.sel e (t % 8))
def Zd9{α : Type}:(d:Nat)->Nat -> α -> Tre α d->Tre α d
 |0,_,v,_=>v
 |d+1,t,v,e=>N8.upd e (Zd9 d (t / 8) v (N8.sel e (t % 8))) (t % 8)
theorem Z3t{α : Type}:∀(d t s:Nat)(v : α)(e:Tre α d),t<8 ^ d->s<8 ^ d->Z2m d s (Zd9 d t v e)=if s=t then v else Z2m d s e
 |0,t,s,v,e,ht,hs=>by
  simp at ht hs;subst ht;subst hs;simp[Z2m,Zd9]
 |d+1,t,s,v,e,ht,hs=>by
  have ht':t / 8<8 ^ d:=by rw[Y0a]at ht;omega
  have hs':s / 8<8 ^ d:=by rw[Y0a]at hs;omega
  refine (congrArg (Z2m d (s / 8)) (N8.sel_upd (α:=Tre α d) e (Zd9 d (t / 8) v (N8.sel (α:=Tre α d) e (t % 8))) (i:=t % 8) (j:=s % 8) (by omega) (by omega))).trans ?_
  by_cases h:s % 8=t % 8
  · rw[if_pos h,Z3t d _ _ _ _ ht' hs']
    have e1:(s / 8=t / 8) ↔ s=t:=by omega
    have e2:Z2m (d+1) s e=Z2m d (s / 8) (N8.sel (α:=Tre α d) e (t % 8)):=by rw[<- h];rfl
    rw[e2];simp only[e1]
  ·rw[if_neg h,if_neg (by intro e;exact h (by rw[e]))];rfl
noncomputable def Zn2{α : Type}(k:Nat):Bx (N8 α -> α) :=
 Nat.rec ⟨λe=>e.a0⟩ (λk _=>Nat.rec ⟨λe=>e.a1⟩ (λk _=>Nat.rec ⟨λe=>e.a2⟩ (λk _=>Nat.rec ⟨λe=>e.a3⟩ (λk _=>Nat.rec ⟨λe=>e.a4⟩ (λk _=>Nat.rec ⟨λe=>e.a5⟩
  (λk _=>Nat.rec ⟨λe=>e.a6⟩ (λ_ _=>⟨λe=>e.a7⟩) k) k) k) k) k) k) k
theorem Zjl{α : Type}:∀(k:Nat)(e:N8 α),(Zn2 k).v e=e.sel k
 |0,_|1,_|2,_|3,_|4,_|5,_|6,_|_+7,_=>rfl
noncomputable def Zfo(α : Type)(d:Nat):Nat->Bx (Tre α d -> α) :=
 Nat.rec (motive:=λd=>Nat->Bx (Tre α d -> α)) (λ_=>⟨λe=>e⟩) (λd ih t=>Bx.rec (λg=>Bx.rec (λs=>⟨λe=>g (s e)⟩) (Zn2 (α:=Tre α d) (Nat.mod t 8))) (ih (Nat.div t 8))) d
theorem Z5p{α : Type}:∀(d t:Nat)(e:Tre α d),(Zfo α d t).v e=Z2m d t e
 |0,t,e=>rfl
 |d+1,t,e=>by
  refine (congrArg (Zfo α d (t / 8)).v (Zjl (α:=Tre α d) (t % 8) e)).trans ?_
  exact Z5p d _ _
abbrev Znu(α β : Type)(d:Nat):=α -> Tre α d->(Tre α d -> β) -> β
noncomputable def Zn4{α β γ : Type}(k:Nat):Bx ((α -> γ -> (γ -> β) -> β) -> α -> N8 γ -> (N8 γ -> β) -> β) :=
 Nat.rec ⟨λg v e f=>N8.rec (λa0 a1 a2 a3 a4 a5 a6 a7=>g v a0 λx=>f ⟨x,a1,a2,a3,a4,a5,a6,a7⟩) e⟩ (λk _ =>
 Nat.rec ⟨λg v e f=>N8.rec (λa0 a1 a2 a3 a4 a5 a6 a7=>g v a1 λx=>f ⟨a0,x,a2,a3,a4,a5,a6,a7⟩) e⟩ (λk _ =>
 Nat.rec ⟨λg v e f=>N8.rec (λa0 a1 a2 a3 a4 a5 a6 a7=>g v a2 λx=>f ⟨a0,a1,x,a3,a4,a5,a6,a7⟩) e⟩ (λk _ =>
 Nat.rec ⟨λg v e f=>N8.rec (λa0 a1 a2 a3 a4 a5 a6 a7=>g v a3 λx=>f ⟨a0,a1,a2,x,a4,a5,a6,a7⟩) e⟩ (λk _ =>
 Nat.rec ⟨λg v e f=>N8.rec (λa0 a1 a2 a3 a4 a5 a6 a7=>g v a4 λx=>f ⟨a0,a1,a2,a3,x,a5,a6,a7⟩) e⟩ (λk _ =>
 Nat.rec ⟨λg v e f=>N8.rec (λa0 a1 a2 a3 a4 a5 a6 a7=>g v a5 λx=>f ⟨a0,a1,a2,a3,a4,x,a6,a7⟩) e⟩ (λk _ =>
 Nat.rec ⟨λg v e f=>N8.rec (λa0 a1 a2 a3 a4 a5 a6 a7=>g v a6 λx=>f ⟨a0,a1,a2,a3,a4,a5,x,a7⟩) e⟩ (λ_ _ =>
 ⟨λg v e f=>N8.rec (λa0 a1 a2 a3 a4 a5 a6 a7=>g v a7 λx=>f ⟨a0,a1,a2,a3,a4,a5,a6,x⟩) e⟩) k) k) k) k) k) k) k
theorem Zjp{α β γ : Type}:∀(k:Nat)(g : α -> γ -> (γ -> β) -> β)(v : α)(e:N8 γ)(f:N8 γ -> β),(Zn4 k).v g v e f=g v (e.sel k) λx=>f (e.upd x k)
 |0,_,_,_,_|1,_,_,_,_|2,_,_,_,_|3,_,_,_,_|4,_,_,_,_|5,_,_,_,_|6,_,_,_,_|_+7,_,_,_,_=>rfl
noncomputable def Zjq(α β : Type)(d:Nat):Nat->Bx (Znu α β d) :=
 Nat.rec (motive:=λd=>Nat->Bx (Znu α β d)) (λ_=>⟨λv _ f=>f v⟩) (λd ih t=>Bx.rec (λg=>Bx.rec (λs=>⟨λv e f=>s g v e f⟩) (Zn4 (γ:=Tre α d) (Nat.mod t 8))) (ih (Nat.div t 8))) d
theorem Zbf{α β : Type}:∀(d t:Nat)(v : α)(e:Tre α d)(f:Tre α d -> β),(Zjq α β d t).v v e f=f (Zd9 d t v e)
 |0,t,v,e,f=>rfl
 |d+1,t,v,e,f=>by
  refine (Zjp (γ:=Tre α d) (t % 8) (Zjq α β d (t / 8)).v v e f).trans ?_
  exact Zbf d _ _ _ _
def Z1o{α : Type}(v : α):(d:Nat)->Tre α d
 |0=>v
 |d+1=>⟨Z1o v d,Z1o v d,Z1o v d,Z1o v d,Z1o v d,Z1o v d,Z1o v d,Z1o v d⟩
theorem Z7W{α : Type}(v : α):∀(d t:Nat),Z2m d t (Z1o v d)=v
 |0,t=>rfl
 |d+1,t=>by
  simp only[Z2m,Z1o]
  have:∀k,N8.sel (⟨Z1o v d,Z1o v d,Z1o v d,Z1o v d,Z1o v d,Z1o v d,Z1o v d,Z1o v d⟩:N8 (Tre α d)) k=Z1o v d:=by
   intro k;match k with
   |0|1|2|3|4|5|6|_+7=>rfl
  rw[this];exact Z7W v d _
def BT(α : Type):Nat->Type
 |0=>α
 |d+1=>BT α d×BT α d
noncomputable def Zbz{α : Type}(z : α)(d:Nat):Nat->BT α d -> α :=
 Nat.rec (motive:=λd=>Nat->BT α d -> α) (λb t=>Bool.rec z t (Y00 b 0)) (λ_ ih b t=>ih (Nat.div b 2) (Bool.rec t.2 t.1 (Y00 (Nat.mod b 2) 0))) d
noncomputable def Z7o{α : Type}(d:Nat):Nat -> α -> BT α d->BT α d :=
 Nat.rec (motive:=λd=>Nat -> α -> BT α d->BT α d) (λ_ v _=>v) (λ_ ih b v t=>Bool.rec (t.1,ih (Nat.div b 2) v t.2) (ih (Nat.div b 2) v t.1,t.2) (Y00 (Nat.mod b 2) 0)) d
noncomputable def Z3Q{α β : Type}(d:Nat):Nat -> α -> BT α d->(BT α d -> β) -> β :=
 Nat.rec (motive:=λd=>Nat -> α -> BT α d->(BT α d -> β) -> β) (λ_ v _ f=>f v)
  (λ_ ih b v t f=>Prod.rec (λl r=>Bool.rec (ih (Nat.div b 2) v r λx=>f (l,x)) (ih (Nat.div b 2) v l λx=>f (x,r)) (Y00 (Nat.mod b 2) 0)) t) d
theorem Z2W{α β : Type}:∀(d b:Nat)(v : α)(t:BT α d)(f:BT α d -> β),Z3Q d b v t f=f (Z7o d b v t)
 |0,b,v,t,f=>rfl
 |d+1,b,v,(l,r),f=>by
  show (Bool.rec (Z3Q d (b / 2) v r λx=>f (l,x)) (Z3Q d (b / 2) v l λx=>f (x,r)) (Y00 (b % 2) 0) : β)=f (Bool.rec (l,Z7o d (b / 2) v r) (Z7o d (b / 2) v l,r) (Y00 (b % 2) 0))
  cases Y00 (b % 2) 0 with
  |true=>exact Z2W d _ _ _ _
  |false=>exact Z2W d _ _ _ _
theorem Z53{α : Type}(z : α):∀(d b c:Nat)(v : α)(t:BT α d),b<2 ^ d->Zbz z d c (Z7o d b v t)=if c=b then v else Zbz z d c t
 |0,b,c,v,t,h=>by
  simp at h;subst h
  show (Bool.rec z v (Y00 c 0) : α)=if c=0 then v else (Bool.rec z t (Y00 c 0) : α)
  by_cases hc:c=0
  ·subst hc;simp
  · have:Y00 c 0=false:=by cases hq:Y00 c 0 with|false=>rfl|true=>exact absurd (Y01 hq) hc
    rw[if_neg hc,this]
 |d+1,b,c,v,t,h=>by
  have h':b / 2<2 ^ d:=by rw[Y0a]at h;omega
  show Zbz z d (c / 2) (Bool.rec (Z7o (d+1) b v t).2 (Z7o (d+1) b v t).1 (Y00 (c % 2) 0))=if c=b then v else Zbz z d (c / 2) (Bool.rec t.2 t.1 (Y00 (c % 2) 0))
  have hb:Z7o (d+1) b v t=Bool.rec (t.1,Z7o d (b / 2) v t.2) (Z7o d (b / 2) v t.1,t.2) (Y00 (b % 2) 0):=rfl
  rw[hb]
  have hcase:∀n:Nat,(n % 2=0/\Y00 (n % 2) 0=true)\/(n % 2=1/\Y00 (n % 2) 0=false):=by
   intro n
   rcases Nat.mod_two_eq_zero_or_one n with e|e
   ·exact .inl ⟨e,by rw[e];rfl⟩
   ·exact .inr ⟨e,by rw[e];rfl⟩
  rcases hcase b with ⟨b1,b2⟩|⟨b1,b2⟩<;>rcases hcase c with ⟨c1,c2⟩|⟨c1,c2⟩<;>rw[b2,c2]<;>simp only
  · rw[Z53 z d _ _ _ _ h']
    have e:(c / 2=b / 2) ↔ c=b:=by omega
    simp only[e]
  ·rw[if_neg (by omega)]
  ·rw[if_neg (by omega)]
  · rw[Z53 z d _ _ _ _ h']
    have e:(c / 2=b / 2) ↔ c=b:=by omega
    simp only[e]
def Z52{α : Type}(z : α):(d:Nat)->BT α d
 |0=>z
 |d+1=>(Z52 z d,Z52 z d)
theorem Z8x{α : Type}(z : α):∀(d b:Nat),Zbz z d b (Z52 z d)=z
 |0,b=>by show (Bool.rec z z (Y00 b 0) : α)=z;cases Y00 b 0<;>rfl
 |d+1,b=>by
  show Zbz z d (b / 2) (Bool.rec (Z52 z d) (Z52 z d) (Y00 (b % 2) 0))=z
  have:(Bool.rec (Z52 z d) (Z52 z d) (Y00 (b % 2) 0):BT α d)=Z52 z d:=by cases Y00 (b % 2) 0<;>rfl
  rw[this];exact Z8x z d _
end Go.Abs
end
section
namespace Go.Abs
open Go.RowKit
structure TH where
 sz:Nat
 tr:BT AObj 12
def Z0z:AObj:=⟨false,0,0,.cells [] 0⟩
noncomputable def TH.get(T:TH)(b:Nat):AObj:=Zbz Z0z 12 b T.tr
def TH.empty:TH:=⟨0,Z52 Z0z 12⟩
structure Rep (T:TH) (H:Z00):Prop where
 sz:T.sz=H.length
 le:T.sz<=4096
 obj:∀b,(T.get b).alive=true->H[b]? = some (T.get b)
 fam:∀b c,(T.get b).alive=true->(T.get c).alive=true->(T.get b).fam=(T.get c).fam->b=c
 flt:∀b,(T.get b).alive=true->(T.get b).fam<T.sz
theorem Rep.empty:Rep TH.empty []:=by
 have h:∀b,TH.empty.get b=Z0z:=λb=>Z8x Z0z 12 b
 refine⟨rfl,by simp[TH.empty],?_,?_,?_⟩<;>intro b<;>simp[h,Z0z]
noncomputable def TH.set(T:TH)(b:Nat)(o:AObj):TH:=⟨T.sz,Z7o 12 b o T.tr⟩
noncomputable def TH.push(T:TH)(o:AObj):TH:=⟨T.sz+1,Z7o 12 T.sz o T.tr⟩
theorem TH.get_set{T:TH}{b:Nat}(o:AObj)(hb:b<4096)(c:Nat):(T.set b o).get c=if c=b then o else T.get c:=Z53 Z0z 12 b c o T.tr hb
theorem TH.get_push{T:TH}(o:AObj)(hb:T.sz<4096)(c:Nat):(T.push o).get c=if c=T.sz then o else T.get c:=Z53 Z0z 12 T.sz c o T.tr hb
theorem Rep.lt{T:TH}{H:Z00}(h:Rep T H){b:Nat}(hb:(T.get b).alive=true):b<T.sz:=by
 have:=(Y0d.1 (h.obj b hb)).1
 rw[h.sz];exact this
theorem Rep.set {T : TH} {H : Z00} (h : Rep T H) {b : Nat} (hb : (T.get b).alive = true) (bd : ABody) :
  Rep (T.set b { T.get b with body:=bd }) ((Z2o b (T.get b).fam H).set b { T.get b with body:=bd }):=by
 have hlt:=h.lt hb
 have hb4:b<4096:=Y0e hlt h.le
 have hg:=TH.get_set (T:=T) (b:=b) { T.get b with body:=bd } hb4
 have hal:∀c,((T.set b { T.get b with body:=bd }).get c).alive=true->(T.get c).alive=true/\((T.set b { T.get b with body:=bd }).get c).fam=(T.get c).fam:=by
  intro c hc
  rw[hg]at hc⊢
  split at hc
  ·rename_i e;subst e;rw[if_pos rfl];exact⟨hb,rfl⟩
  ·rename_i e;rw[if_neg e];exact⟨hc,rfl⟩
 refine⟨by simp[TH.set,Z2o,Z0h,h.sz],h.le,?_,?_,?_⟩
 · intro c hc
   have hc':=(hal c hc).1
   rw[hg]
   split
   · rename_i e;subst e
     rw[Y08,if_pos rfl,if_pos (by rw[Z2o,Z0h,<- h.sz];exact hlt)]
   · rename_i e
     rw[Y08,if_neg (Ne.symm e),Z2o,Z21,h.obj c hc']
     have hf:(T.get c).fam≠(T.get b).fam:=λhf=>e (h.fam c b hc' hb hf)
     have hf2:Y00 (T.get c).fam (T.get b).fam=false:=by cases hq:Y00 (T.get c).fam (T.get b).fam with|false=>rfl|true=>exact absurd (Y01 hq) hf
     simp[hf]
 · intro c c' hc hc' hf
   obtain⟨h1,h2⟩:=hal c hc;obtain⟨h3,h4⟩:=hal c' hc'
   exact h.fam c c' h1 h3 (by rw[<- h2,<- h4];exact hf)
 · intro c hc
   obtain⟨h1,h2⟩:=hal c hc
   rw[h2];exact h.flt c h1
theorem Rep.set'{T:TH}{H:Z00}(h:Rep T H){b fam sh:Nat}{bd0:ABody}(e:T.get b=⟨true,fam,sh,bd0⟩)(bd:ABody):Rep (T.set b ⟨true,fam,sh,bd⟩) ((Z2o b fam H).set b ⟨true,fam,sh,bd⟩):=by
 have:=h.set (b:=b) (by rw[e]) bd
 simp only[e]at this
 exact this
theorem Rep.lose{T:TH}{H:Z00}(h:Rep T H){b:Nat}{o:AObj}(hb:(T.get b).alive=true):Rep (T.set b Z0z) ((Z2o b (T.get b).fam H).set b o.dead):=by
 have hlt:=h.lt hb
 have hb4:b<4096:=Y0e hlt h.le
 have hg:=TH.get_set (T:=T) (b:=b) Z0z hb4
 have hal:∀c,((T.set b Z0z).get c).alive=true->c≠b/\(T.get c).alive=true/\(T.set b Z0z).get c=T.get c:=by
  intro c hc
  rw[hg]at hc
  split at hc
  ·simp[Z0z]at hc
  ·rename_i e;exact⟨e,hc,by rw[hg,if_neg e]⟩
 refine⟨by simp[TH.set,Z2o,Z0h,h.sz],h.le,?_,?_,?_⟩
 · intro c hc
   obtain⟨e,hc',hcc⟩:=hal c hc
   rw[hcc,Y08,if_neg (Ne.symm e),Z2o,Z21,h.obj c hc']
   have hf:(T.get c).fam≠(T.get b).fam:=λhf=>e (h.fam c b hc' hb hf)
   simp[hf]
 · intro c c' hc hc' hf
   obtain⟨_,h1,h2⟩:=hal c hc;obtain⟨_,h3,h4⟩:=hal c' hc'
   rw[h2,h4]at hf
   exact h.fam c c' h1 h3 hf
 · intro c hc
   obtain⟨_,h1,h2⟩:=hal c hc
   rw[h2];exact h.flt c h1
theorem Rep.push{T:TH}{H:Z00}(h:Rep T H)(hs:T.sz<4096)(bd:ABody):Rep (T.push ⟨true,T.sz,0,bd⟩) (H++[⟨true,H.length,0,bd⟩]):=by
 have hg:=TH.get_push (T:=T) ⟨true,T.sz,0,bd⟩ hs
 refine⟨by simp[TH.push,h.sz],hs,?_,?_,?_⟩
 · intro c hc
   rw[hg]at hc⊢
   split at hc
   ·rename_i e;subst e;rw[if_pos rfl,List.getElem?_append_right (by rw[h.sz];exact Y09 _),<- h.sz];simp
   ·rename_i e;rw[if_neg e,List.getElem?_append_left (by rw[<- h.sz];exact h.lt hc)];exact h.obj c hc
 · intro c c' hc hc' hf
   rw[hg]at hc hc';rw[hg,hg]at hf
   split at hc<;>split at hc'
   ·rename_i e e';rw[e,e']
   ·rename_i e e';rw[if_pos e,if_neg e']at hf;have:=h.flt c' hc';simp at hf;omega
   ·rename_i e e';rw[if_neg e,if_pos e']at hf;have:=h.flt c hc;simp at hf;omega
   ·rename_i e e';rw[if_neg e,if_neg e']at hf;exact h.fam c c' hc hc' hf
 · intro c hc
   rw[hg]at hc⊢
   show _<T.sz+1
   split at hc
   ·rename_i e;rw[if_pos e];simp
   ·rename_i e;rw[if_neg e];have:=h.flt c hc;omega
theorem Rep.grow {T : TH} {H : Z00} (h : Rep T H) {b : Nat} (hb : (T.get b).alive = true) (hs : T.sz < 4096) (e sh : Nat) (bd : ABody) :
  Rep ((T.set b Z0z).push ⟨true,(T.get b).fam,sh,bd⟩) (Z8s (T.get b).fam e H++[⟨true,(T.get b).fam,sh,bd⟩]):=by
 have hlt:=h.lt hb
 have hb4:b<4096:=Y0e hlt h.le
 have hg1:=TH.get_set (T:=T) (b:=b) Z0z hb4
 have hg:=TH.get_push (T:=T.set b Z0z) ⟨true,(T.get b).fam,sh,bd⟩ hs
 have hsz:(T.set b Z0z).sz=T.sz:=rfl
 rw[hsz]at hg
 have hal:∀c,c≠T.sz->(((T.set b Z0z).push ⟨true,(T.get b).fam,sh,bd⟩).get c).alive=true->c≠b/\(T.get c).alive=true/\((T.set b Z0z).push ⟨true,(T.get b).fam,sh,bd⟩).get c=T.get c:=by
  intro c hne hc
  rw[hg,if_neg hne,hg1]at hc
  split at hc
  ·simp[Z0z]at hc
  ·rename_i e';exact⟨e',hc,by rw[hg,if_neg hne,hg1,if_neg e']⟩
 refine⟨by simp[TH.push,TH.set,Z8s,Z0h,h.sz],hs,?_,?_,?_⟩
 · intro c hc
   by_cases hne:c=T.sz
   · subst hne
     rw[hg,if_pos rfl,List.getElem?_append_right (by rw[Z8s,Z0h,h.sz];exact Y09 _),Z8s,Z0h,h.sz];simp
   · obtain⟨h1,h2,h3⟩:=hal c hne hc
     have hcl:=h.lt h2
     rw[h3,List.getElem?_append_left (by rw[Z8s,Z0h,<- h.sz];exact hcl),Z8s,Z21,h.obj c h2]
     have hf:(T.get c).fam≠(T.get b).fam:=λhf=>h1 (h.fam c b h2 hb hf)
     have hf2:Y00 (T.get c).fam (T.get b).fam=false:=by cases hq:Y00 (T.get c).fam (T.get b).fam with|false=>rfl|true=>exact absurd (Y01 hq) hf
     simp[hf]
 · intro c c' hc hc' hf
   by_cases hne:c=T.sz<;>by_cases hne':c'=T.sz
   ·rw[hne,hne']
   · obtain⟨h1,h2,h3⟩:=hal c' hne' hc'
     rw[h3,hne,hg,if_pos rfl]at hf
     exact absurd (h.fam c' b h2 hb hf.symm) h1
   · obtain⟨h1,h2,h3⟩:=hal c hne hc
     rw[h3,hne',hg,if_pos rfl]at hf
     exact absurd (h.fam c b h2 hb hf) h1
   · obtain⟨h1,h2,h3⟩:=hal c hne hc
     obtain⟨h1',h2',h3'⟩:=hal c' hne' hc'
     rw[h3,h3']at hf
     exact h.fam c c' h2 h2' hf
 · intro c hc
   show _<T.sz+1
   by_cases hne:c=T.sz
   ·rw[hne,hg,if_pos rfl];have:=h.flt b hb;simp;omega
   · obtain⟨h1,h2,h3⟩:=hal c hne hc
     rw[h3];have:=h.flt c h2;omega
abbrev Res:=Option (AV×TH)
abbrev Knt:=AV->TH->Res
abbrev Z9B:=Nat->List AV->TH->Res
def Z3T(forc:Z9B)(orc:Orc):Prop:=∀f args T r T',forc f args T=some (r,T')->∀H,Rep T H->∃H',orc f args H=some (r,H')/\Rep T' H'
noncomputable def frc1{β : Type}(v:AV):(AV -> β) -> β :=
 AV.rec (motive_1:=λ_=>(AV -> β) -> β) (motive_2:=λ_=>Unit) (λb f=>f (.bool b)) (λk n f=>f (.int k n)) (λs f=>f (.str s)) (λf=>f .nptr) (λb o f=>f (.ptr b o)) (λcs _ f=>f (.rp cs)) (λf=>f .nslice)
  (λb o l c z f=>f (.slice b o l c z)) (λn z cs _ f=>f (.rs n z cs)) (λf=>f .nmap) (λb f=>f (.map b)) (λfn a b _ _ f=>f (.func fn a b)) (λf=>f .nfunc) (λt v _ f=>f (.iface t v)) (λf=>f .niface)
  (λcs _ f=>f (.agg cs)) (λvs _ f=>f (.tuple vs)) () (λ_ _ _ _=>()) v
theorem Z0r{β : Type}(v:AV)(f:AV -> β):frc1 v f=f v:=by cases v<;>rfl
noncomputable def Zdm{β : Type}(v:AV):(IntKind->Int -> β) -> β -> β :=
 AV.rec (motive_1:=λ_=>(IntKind->Int -> β) -> β -> β) (motive_2:=λ_=>Unit) (λ_ _ d=>d) (λk n f _=>f k n) (λ_ _ d=>d) (λ_ d=>d) (λ_ _ _ d=>d) (λ_ _ _ d=>d) (λ_ d=>d)
  (λ_ _ _ _ _ _ d=>d) (λ_ _ _ _ _ d=>d) (λ_ d=>d) (λ_ _ d=>d) (λ_ _ _ _ _ _ d=>d) (λ_ d=>d) (λ_ _ _ _ d=>d) (λ_ d=>d)
  (λ_ _ _ d=>d) (λ_ _ _ d=>d) () (λ_ _ _ _=>()) v
theorem Z6V{β : Type}(v:AV)(f:IntKind->Int -> β)(d : β):(∃k n,v = .int k n/\Zdm v f d=f k n)\/Zdm v f d=d:=by
 cases v<;>first|exact .inl ⟨_,_,rfl,rfl⟩|exact .inr rfl
noncomputable def Z2t{β : Type}(v:AV):(Bool -> β) -> β -> β :=
 AV.rec (motive_1:=λ_=>(Bool -> β) -> β -> β) (motive_2:=λ_=>Unit) (λb f _=>f b) (λ_ _ _ d=>d) (λ_ _ d=>d) (λ_ d=>d) (λ_ _ _ d=>d) (λ_ _ _ d=>d) (λ_ d=>d)
  (λ_ _ _ _ _ _ d=>d) (λ_ _ _ _ _ d=>d) (λ_ d=>d) (λ_ _ d=>d) (λ_ _ _ _ _ _ d=>d) (λ_ d=>d) (λ_ _ _ _ d=>d) (λ_ d=>d)
  (λ_ _ _ d=>d) (λ_ _ _ d=>d) () (λ_ _ _ _=>()) v
theorem Z3A{β : Type}(v:AV)(f:Bool -> β)(d : β):(∃b,v = .bool b/\Z2t v f d=f b)\/((∀b,v ≠ .bool b)/\Z2t v f d=d):=by
 cases v<;>first|exact .inl ⟨_,rfl,rfl⟩|exact .inr ⟨λb h=>(by cases h),rfl⟩
noncomputable def Z4b{β : Type}(v:AV):(List UInt8 -> β) -> β -> β :=
 AV.rec (motive_1:=λ_=>(List UInt8 -> β) -> β -> β) (motive_2:=λ_=>Unit) (λ_ _ d=>d) (λ_ _ _ d=>d) (λs f _=>f s) (λ_ d=>d) (λ_ _ _ d=>d) (λ_ _ _ d=>d) (λ_ d=>d)
  (λ_ _ _ _ _ _ d=>d) (λ_ _ _ _ _ d=>d) (λ_ d=>d) (λ_ _ d=>d) (λ_ _ _ _ _ _ d=>d) (λ_ d=>d) (λ_ _ _ _ d=>d) (λ_ d=>d)
  (λ_ _ _ d=>d) (λ_ _ _ d=>d) () (λ_ _ _ _=>()) v
theorem Z37{β : Type}(v:AV)(f:List UInt8 -> β)(d : β):(∃b,v = .str b/\Z4b v f d=f b)\/Z4b v f d=d:=by
 cases v<;>first|exact .inl ⟨_,rfl,rfl⟩|exact .inr rfl
noncomputable def onPtr{β : Type}(v:AV):(Nat->Nat -> β)->(List AV -> β) -> β -> β :=
 AV.rec (motive_1:=λ_=>(Nat->Nat -> β)->(List AV -> β) -> β -> β) (motive_2:=λ_=>Unit) (λ_ _ _ d=>d) (λ_ _ _ _ d=>d) (λ_ _ _ d=>d) (λ_ _ d=>d) (λb o f _ _=>f b o) (λcs _ _ g _=>g cs) (λ_ _ d=>d)
  (λ_ _ _ _ _ _ _ d=>d) (λ_ _ _ _ _ _ d=>d) (λ_ _ d=>d) (λ_ _ _ d=>d) (λ_ _ _ _ _ _ _ d=>d) (λ_ _ d=>d) (λ_ _ _ _ _ d=>d) (λ_ _ d=>d)
  (λ_ _ _ _ d=>d) (λ_ _ _ _ d=>d) () (λ_ _ _ _=>()) v
theorem Z6U{β : Type}(v:AV)(f:Nat->Nat -> β)(g:List AV -> β)(d : β):(∃b o,v = .ptr b o/\onPtr v f g d=f b o)\/(∃cs,v = .rp cs/\onPtr v f g d=g cs)\/onPtr v f g d=d:=by
 cases v<;>first|exact .inl ⟨_,_,rfl,rfl⟩|exact .inr (.inl ⟨_,rfl,rfl⟩)|exact .inr (.inr rfl)
noncomputable def Z1k{β : Type}(v:AV):(Nat->Nat->Nat->Nat->Nat -> β)->(Nat->Nat->List AV -> β) -> β -> β -> β :=
 AV.rec (motive_1:=λ_=>(Nat->Nat->Nat->Nat->Nat -> β)->(Nat->Nat->List AV -> β) -> β -> β -> β) (motive_2:=λ_=>Unit) (λ_ _ _ _ d=>d) (λ_ _ _ _ _ d=>d) (λ_ _ _ _ d=>d) (λ_ _ _ d=>d) (λ_ _ _ _ _ d=>d) (λ_ _ _ _ _ d=>d) (λ_ _ e _=>e)
  (λb o l c z f _ _ _=>f b o l c z) (λn z cs _ _ g _ _=>g n z cs) (λ_ _ _ d=>d) (λ_ _ _ _ d=>d) (λ_ _ _ _ _ _ _ _ d=>d) (λ_ _ _ d=>d) (λ_ _ _ _ _ _ d=>d) (λ_ _ _ d=>d)
  (λ_ _ _ _ _ d=>d) (λ_ _ _ _ _ d=>d) () (λ_ _ _ _=>()) v
theorem Z92 {β : Type} (v : AV) (f : Nat -> Nat -> Nat -> Nat -> Nat -> β) (g : Nat -> Nat -> List AV -> β) (e d : β) :
  (∃b o l c z,v = .slice b o l c z/\Z1k v f g e d=f b o l c z)\/(∃n z cs,v = .rs n z cs/\Z1k v f g e d=g n z cs)\/(v = .nslice/\Z1k v f g e d=e)\/Z1k v f g e d=d:=by
 cases v<;>first|exact .inl ⟨_,_,_,_,_,rfl,rfl⟩|exact .inr (.inl ⟨_,_,_,rfl,rfl⟩)|exact .inr (.inr (.inl ⟨rfl,rfl⟩))|exact .inr (.inr (.inr rfl))
noncomputable def Z6T{β : Type}(v:AV):(List AV -> β) -> β -> β :=
 AV.rec (motive_1:=λ_=>(List AV -> β) -> β -> β) (motive_2:=λ_=>Unit) (λ_ _ d=>d) (λ_ _ _ d=>d) (λ_ _ d=>d) (λ_ d=>d) (λ_ _ _ d=>d) (λ_ _ _ d=>d) (λ_ d=>d)
  (λ_ _ _ _ _ _ d=>d) (λ_ _ _ _ _ d=>d) (λ_ d=>d) (λ_ _ d=>d) (λ_ _ _ _ _ _ d=>d) (λ_ d=>d) (λ_ _ _ _ d=>d) (λ_ d=>d)
  (λ_ _ _ d=>d) (λvs _ f _=>f vs) () (λ_ _ _ _=>()) v
theorem Z91{β : Type}(v:AV)(f:List AV -> β)(d : β):(∃b,v = .tuple b/\Z6T v f d=f b)\/Z6T v f d=d:=by
 cases v<;>first|exact .inl ⟨_,rfl,rfl⟩|exact .inr rfl
noncomputable def Zbk{β : Type}(v:AV):(List AV -> β) -> β -> β :=
 AV.rec (motive_1:=λ_=>(List AV -> β) -> β -> β) (motive_2:=λ_=>Unit) (λ_ _ d=>d) (λ_ _ _ d=>d) (λ_ _ d=>d) (λ_ d=>d) (λ_ _ _ d=>d) (λ_ _ _ d=>d) (λ_ d=>d)
  (λ_ _ _ _ _ _ d=>d) (λ_ _ _ _ _ d=>d) (λ_ d=>d) (λ_ _ d=>d) (λ_ _ _ _ _ _ d=>d) (λ_ d=>d) (λ_ _ _ _ d=>d) (λ_ d=>d)
  (λvs _ f _=>f vs) (λ_ _ _ d=>d) () (λ_ _ _ _=>()) v
theorem Zbj{β : Type}(v:AV)(f:List AV -> β)(d : β):(∃b,v = .agg b/\Zbk v f d=f b)\/((∀b,v ≠ .agg b)/\Zbk v f d=d):=by
 cases v<;>first|exact .inl ⟨_,rfl,rfl⟩|exact .inr ⟨λb h=>(by cases h),rfl⟩
noncomputable def onFunc{β : Type}(v:AV):(Fn->List AV->List AV -> β) -> β -> β :=
 AV.rec (motive_1:=λ_=>(Fn->List AV->List AV -> β) -> β -> β) (motive_2:=λ_=>Unit) (λ_ _ d=>d) (λ_ _ _ d=>d) (λ_ _ d=>d) (λ_ d=>d) (λ_ _ _ d=>d) (λ_ _ _ d=>d) (λ_ d=>d)
  (λ_ _ _ _ _ _ d=>d) (λ_ _ _ _ _ d=>d) (λ_ d=>d) (λ_ _ d=>d) (λfn a b _ _ f _=>f fn a b) (λ_ d=>d) (λ_ _ _ _ d=>d) (λ_ d=>d)
  (λ_ _ _ d=>d) (λ_ _ _ d=>d) () (λ_ _ _ _=>()) v
theorem Za1{β : Type}(v:AV)(f:Fn->List AV->List AV -> β)(d : β):(∃fn a b,v = .func fn a b/\onFunc v f d=f fn a b)\/onFunc v f d=d:=by
 cases v<;>first|exact .inl ⟨_,_,_,rfl,rfl⟩|exact .inr rfl
noncomputable def onNat{β : Type}(v:AV)(f:IntKind->Nat -> β)(d : β) : β:=Zdm v (λk n=>Int.rec (λm=>f k m) (λ_=>d) n) d
theorem Z2b{β : Type}(v:AV)(f:IntKind->Nat -> β)(d : β):(∃k n,v = .int k (Int.ofNat n)/\onNat v f d=f k n)\/onNat v f d=d:=by
 unfold onNat
 rcases Z6V v (λk n=>(Int.rec (λm=>f k m) (λ_=>d) n : β)) d with ⟨k,n,rfl,h⟩|h
 · cases n with
   |ofNat m=>exact .inl ⟨k,m,rfl,h⟩
   |negSucc m=>exact .inr h
 ·exact .inr h
noncomputable def Z17{β : Type}(o:AObj):(Nat->Nat->List AV->TypeId -> β) -> β -> β :=
 AObj.rec (λalive fam sh body f d=>Bool.rec d (ABody.rec (motive:=λ_=>(Nat->Nat->List AV->TypeId -> β) -> β -> β) (λcs ty f _=>f fam sh cs ty) (λ_ _ _ d=>d) (λ_ _ _ d=>d) (λ_ _ _ d=>d) body f d) alive) o
theorem Z93{β : Type}(o:AObj)(f:Nat->Nat->List AV->TypeId -> β)(d : β):(∃fam sh cs ty,o=⟨true,fam,sh,.cells cs ty⟩/\Z17 o f d=f fam sh cs ty)\/Z17 o f d=d:=by
 obtain⟨alive,fam,sh,body⟩:=o
 cases alive with
 |false=>exact .inr rfl
 |true=>cases body<;>first|exact .inl ⟨_,_,_,_,rfl,rfl⟩|exact .inr rfl
noncomputable def Za0{β : Type}(o:AObj):(Nat->Nat->List (AV×AV×Nat)->Nat -> β) -> β -> β :=
 AObj.rec (λalive fam sh body f d=>Bool.rec d (ABody.rec (motive:=λ_=>(Nat->Nat->List (AV×AV×Nat)->Nat -> β) -> β -> β) (λ_ _ _ d=>d) (λes c f _=>f fam sh es c) (λ_ _ _ d=>d) (λ_ _ _ d=>d) body f d) alive) o
theorem Zbh{β : Type}(o:AObj)(f:Nat->Nat->List (AV×AV×Nat)->Nat -> β)(d : β):(∃fam sh es c,o=⟨true,fam,sh,.map es c⟩/\Za0 o f d=f fam sh es c)\/Za0 o f d=d:=by
 obtain⟨alive,fam,sh,body⟩:=o
 cases alive with
 |false=>exact .inr rfl
 |true=>cases body<;>first|exact .inl ⟨_,_,_,_,rfl,rfl⟩|exact .inr rfl
noncomputable def iff'{β : Type}(b:Bool)(x y : β) : β:=Bool.rec y x b
theorem Z22{β : Type}(b:Bool)(x y : β):iff' b x y=if b=true then x else y:=by cases b<;>rfl
noncomputable def ZiK{α β : Type}(l:List α):Nat->(α -> β) -> β -> β :=
 List.rec (motive:=λ_=>Nat->(α -> β) -> β -> β) (λ_ _ d=>d) (λv _ ih n f d=>Nat.rec (f v) (λm _=>ih m f d) n) l
theorem Z8k{α β : Type}:∀(l:List α)(n:Nat)(f : α -> β)(d : β),(∃v,l[n]? = some v/\ZiK l n f d=f v)\/ZiK l n f d=d
 |[],n,f,d=>.inr rfl
 |v::l,0,f,d=>.inl ⟨v,rfl,rfl⟩
 |v::l,n+1,f,d=>by
  rcases Z8k l n f d with ⟨x,h1,h2⟩|h
  ·exact .inl ⟨x,by simpa using h1,h2⟩
  ·exact .inr h
noncomputable def Z7K{α : Type}(l:List α):Nat->List α :=
 List.rec (motive:=λ_=>Nat->List α) (λ_=>[]) (λv l ih n=>Nat.rec (v::l) (λm _=>ih m) n) l
theorem Z1P{α : Type}:∀(l:List α)(n:Nat),Z7K l n=l.drop n
 |[],n=>by cases n<;>rfl
 |v::l,0=>rfl
 |v::l,n+1=>Z1P l n
noncomputable def Zj7{α β : Type}(l:List α):Nat->(List α -> β) -> β :=
 List.rec (motive:=λ_=>Nat->(List α -> β) -> β) (λ_ f=>f []) (λv _ ih n f=>Nat.rec (f []) (λm _=>ih m λr=>f (v::r)) n) l
theorem Z8J{α β : Type}:∀(l:List α)(n:Nat)(f:List α -> β),Zj7 l n f=f (l.take n)
 |[],n,f=>by cases n<;>rfl
 |v::l,0,f=>rfl
 |v::l,n+1,f=>Z8J l n _
noncomputable def tkR{β : Type}(n:Nat):List AV->(List AV -> β) -> β -> β :=
 Nat.rec (motive:=λ_=>List AV->(List AV -> β) -> β -> β) (λ_ f _=>f []) (λ_ ih l f d=>List.rec (motive:=λ_=>β) d (λc l _=>ih l (λr=>f (c::r)) d) l) n
theorem Z9M{β : Type}:∀(n:Nat)(l:List AV)(f:List AV -> β)(d : β),(∃r,tk n l=some r/\tkR n l f d=f r)\/tkR n l f d=d
 |0,l,f,d=>.inl ⟨[],by cases l<;>rfl,rfl⟩
 |n+1,[],f,d=>.inr rfl
 |n+1,c::l,f,d=>by
  rcases Z9M n l (λr=>f (c::r)) d with ⟨r,h1,h2⟩|h
  ·exact .inl ⟨c::r,by simp[tk,h1],h2⟩
  ·exact .inr h
noncomputable def ZkN{β : Type}(l:List AV):Nat->List AV->(List AV -> β) -> β -> β :=
 List.rec (motive:=λ_=>Nat->List AV->(List AV -> β) -> β -> β) (λn vs f d=>Nat.rec (List.rec (f []) (λ_ _ _=>d) vs) (λ_ _=>d) n)
  (λc l ih n vs f d=>Nat.rec (List.rec (f (c::l)) (λv vs _=>ih 0 vs (λr=>f (v::r)) d) vs) (λm _=>ih m vs (λr=>f (c::r)) d) n) l
theorem Z5h{β : Type}:∀(l:List AV)(n:Nat)(vs:List AV)(f:List AV -> β)(d : β),(∃r,spl l n vs=some r/\ZkN l n vs f d=f r)\/ZkN l n vs f d=d
 |[],0,[],f,d=>.inl ⟨[],rfl,rfl⟩
 |[],0,_::_,f,d=>.inr rfl
 |[],n+1,vs,f,d=>.inr rfl
 |c::l,0,[],f,d=>.inl ⟨c::l,by simp[spl],rfl⟩
 |c::l,0,v::vs,f,d=>by
  rcases Z5h l 0 vs (λr=>f (v::r)) d with ⟨r,h1,h2⟩|h
  ·exact .inl ⟨v::r,by simp[spl,h1],h2⟩
  ·exact .inr h
 |c::l,n+1,vs,f,d=>by
  rcases Z5h l n vs (λr=>f (c::r)) d with ⟨r,h1,h2⟩|h
  ·exact .inl ⟨c::r,by simp[spl,h1],h2⟩
  ·exact .inr h
noncomputable def ZhO{α : Type}(l:List α):Nat:=List.rec 0 (λ_ _ ih=>Nat.succ ih) l
theorem Z38{α : Type}:∀(l:List α),ZhO l=l.length
 |[]=>rfl
 |_::l=>congrArg Nat.succ (Z38 l)
noncomputable def eqS(l:List UInt8):List UInt8->Bool :=
 List.rec (motive:=λ_=>List UInt8->Bool) (λm=>List.rec true (λ_ _ _=>false) m) (λc l ih m=>List.rec false (λc' m _=>Bool.rec false (ih m) (Y00 (UInt8.toNat c) (UInt8.toNat c'))) m) l
theorem ZfJ:∀(l m:List UInt8),eqS l m=(l==m)
 |[],[]=>rfl
 |[],_::_=>rfl
 |_::_,[]=>rfl
 |c::l,c'::m=>by
  show (Bool.rec false (eqS l m) (Y00 (UInt8.toNat c) (UInt8.toNat c')):Bool)=_
  rw[ZfJ l m,List.cons_beq_cons]
  by_cases h:c=c'
  ·subst h;simp
  · have h2:Y00 (UInt8.toNat c) (UInt8.toNat c')=false:=by cases hq:Y00 (UInt8.toNat c) (UInt8.toNat c') with|false=>rfl|true=>exact absurd (UInt8.toNat_inj.1 (Y01 hq)) h
    rw[h2];simp[h]
end Go.Abs
end
section
namespace Go.Abs
open Go.RowKit
noncomputable def Zk3{β : Type}(n:Int):(Int -> β) -> β:=Int.rec (motive:=λ_=>(Int -> β) -> β) (λm f=>Nat.rec (motive:=λ_=>β) (f (.ofNat 0)) (λm _=>f (.ofNat (Nat.succ m))) m) (λm f=>Nat.rec (motive:=λ_=>β) (f (.negSucc 0)) (λm _=>f (.negSucc (Nat.succ m))) m) n
theorem ZhZ{β : Type}(n:Int)(f:Int -> β):Zk3 n f=f n:=by cases n with|ofNat m=>cases m<;>rfl|negSucc m=>cases m<;>rfl
noncomputable def Z0Y{β : Type}(n:Nat):(Nat -> β) -> β:=Nat.rec (motive:=λ_=>(Nat -> β) -> β) (λf=>f 0) (λm _ f=>f (Nat.succ m)) n
theorem Z13{β : Type}(n:Nat)(f:Nat -> β):Z0Y n f=f n:=by cases n<;>rfl
noncomputable def Zbo{β : Type}(b:Bool):(Bool -> β) -> β:=Bool.rec (motive:=λ_=>(Bool -> β) -> β) (λf=>f false) (λf=>f true) b
theorem Z4X{β : Type}(b:Bool)(f:Bool -> β):Zbo b f=f b:=by cases b<;>rfl
noncomputable def ZhX{β : Type}(s:List UInt8):(List UInt8 -> β) -> β:=List.rec (motive:=λ_=>(List UInt8 -> β) -> β) (λf=>f []) (λc _ ih f=>ih λl=>f (c::l)) s
theorem ZcE{β : Type}:∀(s:List UInt8)(f:List UInt8 -> β),ZhX s f=f s
 |[],f=>rfl
 |c::s,f=>by show ZhX s (λl=>f (c::l))=_;rw[ZcE s]
noncomputable def Z5Z{β : Type}(v:AV):(AV -> β) -> β :=
 AV.rec (motive_1:=λ_=>(AV -> β) -> β) (motive_2:=λ_=>(List AV -> β) -> β) (λb f=>Zbo b λb=>f (.bool b)) (λk n f=>Zk3 n λn=>f (.int k n)) (λs f=>ZhX s λs=>f (.str s)) (λf=>f .nptr)
  (λb o f=>Z0Y b λb=>Z0Y o λo=>f (.ptr b o)) (λcs _ f=>f (.rp cs)) (λf=>f .nslice)
  (λb o l c z f=>Z0Y b λb=>Z0Y o λo=>Z0Y l λl=>Z0Y c λc=>Z0Y z λz=>f (.slice b o l c z)) (λn z cs _ f=>Z0Y n λn=>f (.rs n z cs)) (λf=>f .nmap) (λb f=>Z0Y b λb=>f (.map b))
  (λfn _ _ iha ihb f=>iha λa=>ihb λb=>f (.func fn a b)) (λf=>f .nfunc) (λt _ ih f=>ih λv=>f (.iface t v)) (λf=>f .niface)
  (λ_ ih f=>ih λcs=>f (.agg cs)) (λ_ ih f=>ih λvs=>f (.tuple vs)) (λf=>f []) (λ_ _ ihv ihl f=>ihv λv=>ihl λl=>f (v::l)) v
noncomputable def ZcD{β : Type}(l:List AV):(List AV -> β) -> β :=
 AV.rec_1 (motive_1:=λ_=>(AV -> β) -> β) (motive_2:=λ_=>(List AV -> β) -> β) (λb f=>Zbo b λb=>f (.bool b)) (λk n f=>Zk3 n λn=>f (.int k n)) (λs f=>ZhX s λs=>f (.str s)) (λf=>f .nptr)
  (λb o f=>Z0Y b λb=>Z0Y o λo=>f (.ptr b o)) (λcs _ f=>f (.rp cs)) (λf=>f .nslice)
  (λb o l c z f=>Z0Y b λb=>Z0Y o λo=>Z0Y l λl=>Z0Y c λc=>Z0Y z λz=>f (.slice b o l c z)) (λn z cs _ f=>Z0Y n λn=>f (.rs n z cs)) (λf=>f .nmap) (λb f=>Z0Y b λb=>f (.map b))
  (λfn _ _ iha ihb f=>iha λa=>ihb λb=>f (.func fn a b)) (λf=>f .nfunc) (λt _ ih f=>ih λv=>f (.iface t v)) (λf=>f .niface)
  (λ_ ih f=>ih λcs=>f (.agg cs)) (λ_ ih f=>ih λvs=>f (.tuple vs)) (λf=>f []) (λ_ _ ihv ihl f=>ihv λv=>ihl λl=>f (v::l)) l
noncomputable def Z5L{β : Type}(l:List AV):(List AV -> β) -> β:=List.rec (motive:=λ_=>(List AV -> β) -> β) (λf=>f []) (λv _ ih f=>Z5Z v λv=>ih λl=>f (v::l)) l
mutual
theorem Z1x{β : Type}:∀(v:AV)(f:AV -> β),Z5Z v f=f v
 | .bool b,f=>Z4X b _
 | .int k n,f=>ZhZ n _
 | .str s,f=>ZcE s _
 | .nptr,f=>rfl
 | .ptr b o,f=>by show (Z0Y b λb=>Z0Y o λo=>f (.ptr b o))=_;simp only[Z13]
 | .rp cs,f=>rfl
 | .nslice,f=>rfl
 | .slice b o l c z,f=>by show (Z0Y b λb=>Z0Y o λo=>Z0Y l λl=>Z0Y c λc=>Z0Y z λz=>f (.slice b o l c z))=_;simp only[Z13]
 | .rs n z cs,f=>Z13 n _
 | .nmap,f=>rfl
 | .map b,f=>Z13 b _
 | .func fn a b,f=>by show (ZcD a λa=>ZcD b λb=>f (.func fn a b))=_;simp only[frcVLI_eq]
 | .nfunc,f=>rfl
 | .iface t v,f=>Z1x v _
 | .niface,f=>rfl
 | .agg cs,f=>frcVLI_eq cs _
 | .tuple vs,f=>frcVLI_eq vs _
theorem frcVLI_eq{β : Type}:∀(l:List AV)(f:List AV -> β),ZcD l f=f l
 |[],f=>rfl
 |v::l,f=>by show (Z5Z v λv=>ZcD l λl=>f (v::l))=_;rw[Z1x v];exact frcVLI_eq l _
end
theorem Z2f{β : Type}:∀(l:List AV)(f:List AV -> β),Z5L l f=f l
 |[],f=>rfl
 |v::l,f=>by show (Z5Z v λv=>Z5L l λl=>f (v::l))=_;rw[Z1x v];exact Z2f l _
noncomputable def Z0H(gl:Z0n)(d n:Nat)(x:Operand):Option (Tre AV d->AV) :=
 match x with
 | .tmp t=>iff' (Nat.blt t n) (Bx.rec (λg=>some g) (Zfo AV d t)) none
 | .const v=>match ofV v with|some c=>Z5Z c λc=>some λ_=>c|none=>none
 | .global g=>match gl g with|some cs=>some λ_=>.rp cs|none=>none
 | .func f=>some λ_=>.func (.func f) [] []
noncomputable def Z4a(gl:Z0n)(d n:Nat)(E:Tre AV d)(x:Operand):Option AV:=match Z0H gl d n x with|some g=>some (g E)|none=>none
theorem Z06{gl:Z0n}{d n:Nat}{E:Tre AV d}{x:Operand}{g:Tre AV d->AV}(h:Z0H gl d n x=some g):Z4a gl d n E x=some (g E):=by
 simp[Z4a,h]
def EnvSim(d n:Nat)(E:Tre AV d)(tm:Tr):Prop:=∀t,Z10 tm t=if t<n then some (Z2m d t E) else none
theorem Z8R{gl:Z0n}{d n:Nat}{E:Tre AV d}{tm:Tr}(h:EnvSim d n E tm):Z4a gl d n E=Z1C gl tm:=by
 funext x
 unfold Z4a Z0H Z1C
 cases x with
 |tmp t =>
  simp only[h t,Z22]
  by_cases ht:t<n
  · have hb:Nat.blt t n=true:=by simpa[Y02]using ht
    rw[if_pos hb,if_pos ht]
    show some ((Zfo AV d t).v E)=_
    rw[Z5p]
  · have hb:¬Nat.blt t n=true:=by simpa[Y02]using ht
    rw[if_neg hb,if_neg ht]
 |const v=>cases hv:ofV v<;>simp[Z1x,hv]
 |global g=>cases hg:gl g<;>simp[hg]
 |func f=>rfl
abbrev OpF(d:Nat):=Z9B->Tre AV d->TH->Knt->Res
def Z1n(P:Program)(gl:Z0n)(d n:Nat)(o:Oper)(F:OpF d):Prop :=
 ∀forc orc E T k out H,Z3T forc orc->Rep T H->F forc E T k=some out->∃r T' H',aop P orc (Z4a gl d n E) o H=some (r,H')/\Rep T' H'/\k r T'=some out
section ok
variable {P:Program} {gl:Z0n} {d n:Nat} {orc:Orc} {ρ : Operand->Option AV} {H:Z00} {o:Oper}
theorem Zby{c:Call}{b:Builtin}(h:c.callee = .builtin b):callee ρ c=none:=by simp[callee,h]
theorem Z4u(h:kind o<3):aop P orc ρ o H=(match Z02 P ρ H o with|some r=>some (r,H)|none=>Z31 P ρ H o):=by
 have hc:∀c,o.op = .call c->callee ρ c=none:=by
  intro c ho
  unfold kind at h
  simp only[ho]at h
  cases hc:c.callee with
  |builtin b=>exact Zby hc
  |value f=>simp[hc]at h
  |invoke r m=>simp[hc]at h
 unfold aop
 split
 · rename_i g args hx
   split at hx
   ·rename_i c ho;rw[hc c ho]at hx;cases hx
   ·cases hx
 ·rfl
theorem Z0b(hk:kind o<3){r:AV}(h:Z02 P ρ H o=some r):aop P orc ρ o H=some (r,H):=by
 rw[Z4u hk,h]
theorem ZgA(hk:kind o=2){mk:Nat->AV}{body:ABody}(h:Z0v P ρ o=some (mk,body)):aop P orc ρ o H=some (mk H.length,H++[⟨true,H.length,0,body⟩]):=by
 rw[Z4u (by omega)]
 have hp:Z02 P ρ H o=none:=by
  unfold kind at hk
  unfold Z02 Z0p
  cases ho:o.op with
  |call c =>
   simp only[ho]at hk⊢
   cases hc:c.callee with
   |builtin b=>cases b<;>simp[hc]at hk
   |value f=>simp[hc]at hk
   |invoke r m=>simp[hc]at hk
  |_=>simp[ho]at hk⊢
 simp only[hp]
 unfold Z0v at h
 unfold Z31
 cases ho:o.op with
 |alloc e =>
  simp only[ho]at h⊢
  split at h<;>simp at h
  rename_i z hz
  obtain⟨rfl,rfl⟩:=h
  simp[ZaO,hz,Z0X]
 |box e x =>
  simp only[ho]at h⊢
  split at h<;>simp at h
  rename_i z hz
  obtain⟨rfl,rfl⟩:=h
  simp[hz,Zm3,Z0X]
 |buildSlice t len ps =>
  simp only[ho]at h⊢
  split at h<;>try (simp at h;done)
  rename_i us hus
  split at h<;>simp at h
  rename_i cs e z hz
  obtain⟨rfl,rfl⟩:=h
  simp[hus,Z2j,hz,Z0X]
 |makeSlice t l c =>
  simp only[ho]at h⊢
  split at h<;>try (simp at h;done)
  rename_i a b ha hb
  split at h<;>simp at h
  rename_i zs e z ln cp hz
  obtain⟨rfl,rfl⟩:=h
  simp[ha,hb,Z1d,hz,Z0X]
 |makeMap t r =>
  cases r with
  |none =>
   simp only[ho]at h⊢
   simp at h
   obtain⟨rfl,rfl⟩:=h
   simp
  |some x=>simp[ho]at h
 |_=>simp[ho]at h
noncomputable def Z9P(P:Program)(gl:Z0n)(d n:Nat)(o:Oper):OpF d:=λ_ E T k=>match Z02 P (Z4a gl d n E) [] o with|some r=>Z5Z r λr=>k r T|none=>none
theorem Zgx{src dst:TypeId}{x:Operand}(ho:o.op = .convert src dst x){r:AV}(h:Z02 P ρ [] o=some r):Z02 P ρ H o=some r:=by
 unfold Z02 at h⊢
 simp only[ho]at h⊢
 split at h
 · rename_i b off len cap z hx
   split at h
   ·simp[Z5c]at h
   ·cases h
 ·simpa only[Z0p,ho]using h
theorem Zha{src dst:TypeId}{x:Operand}(ho:o.op = .convert src dst x):Z1n P gl d n o (Z9P P gl d n o):=by
 intro forc orc E T k out H hO hR h
 unfold Z9P at h
 split at h<;>try (simp at h;done)
 rename_i r hr
 rw[Z1x]at h
 exact⟨r,T,H,Z0b (by simp[kind,ho]) (Zgx ho hr),hR,h⟩
theorem Z8L(hk:kind o=0):Z1n P gl d n o (Z9P P gl d n o):=by
 intro forc orc E T k out H hO hR h
 unfold Z9P at h
 split at h<;>try (simp at h;done)
 rename_i r hr
 rw[Z1x]at h
 exact⟨r,T,H,Z0b (by omega) (by rw[<- Zl9 hk [] H];exact hr),hR,h⟩
end ok
noncomputable def kix(k:IntKind):Nat:=IntKind.rec 0 1 2 3 4 5 6 7 k
theorem Z74{k k':IntKind}(h:Y00 (kix k) (kix k')=true):k=k':=by
 cases k<;>cases k'<;>first|rfl|(exact absurd (show Y00 (kix _) (kix _)=false from rfl) (by rw[h];simp))
noncomputable def kmx(k:IntKind):Nat:=IntKind.rec 127 32767 2147483647 9223372036854775807 255 65535 4294967295 18446744073709551615 k
theorem Zcy{k:IntKind}{s:Nat}(h:s<=kmx k):k.wrap (s:Int)=s:=by
 cases k with
 |i8=>exact IntWalk.i8_in _ (by have:s<=127:=h;omega)
 |i16=>exact IntWalk.i16_in _ (by have:s<=32767:=h;omega)
 |i32=>exact IntWalk.i32_in _ (by have:s<=2147483647:=h;omega)
 |i64=>exact IntWalk.i64_in _ (by have:s<=9223372036854775807:=h;omega)
 |u8=>exact IntWalk.u8_in _ (by have:s<=255:=h;omega)
 |u16=>exact IntWalk.u16_in _ (by have:s<=65535:=h;omega)
 |u32=>exact IntWalk.u32_in _ (by have:s<=4294967295:=h;omega)
 |u64=>exact IntWalk.u64_in _ (by have:s<=18446744073709551615:=h;omega)
abbrev ZiX:=AV->AV->(AV->Res)->Res->Res
def Zir(P:Program)(op:BinOp)(t:TypeId)(F:ZiX):Prop:=∀x y k dd out,F x y k dd=some out->(∃r,Z5z P op t x y=some r/\k r=some out)\/dd=some out
noncomputable def cmpF(c:Nat->Nat->Bool):ZiX:=λx y k dd =>
 onNat x (λkx a=>onNat y (λky b=>iff' (Y00 (kix kx) (kix ky)) (iff' (c a b) (k (.bool true)) (k (.bool false))) dd) dd) dd
theorem Z7m{P:Program}{op:BinOp}{t:TypeId}{c:Nat->Nat->Bool}(h1:op ≠ .shl)(h2:op ≠ .shr)(hc:∀k (a b:Nat),Z0O op k (a:Int) (b:Int)=some (.bool (c a b))):Zir P op t (cmpF c):=by
 intro x y k dd out h
 unfold cmpF at h
 rcases Z2b x (λkx a=>onNat y (λky b=>iff' (Y00 (kix kx) (kix ky)) (iff' (c a b) (k (.bool true)) (k (.bool false))) dd) dd) dd with ⟨kx,a,rfl,e⟩|e
 · rw[e]at h
   rcases Z2b y (λky b=>iff' (Y00 (kix kx) (kix ky)) (iff' (c a b) (k (.bool true)) (k (.bool false))) dd) dd with ⟨ky,b,rfl,e'⟩|e'
   · rw[e',Z22]at h
     split at h
     · rename_i hk
       have:=Z74 hk;subst this
       refine .inl ⟨.bool (c a b),?_,?_⟩
       · have:=hc kx a b
         cases op<;>first|exact (h1 rfl).elim|exact (h2 rfl).elim|simpa[Z5z]using this
       ·rw[Z22]at h;cases hcab:c a b<;>simpa[hcab]using h
     ·exact .inr h
   ·rw[e']at h;exact .inr h
 ·rw[e]at h;exact .inr h
noncomputable def ZlF(f:Nat->Nat->Nat)(g:Nat->Nat->Bool):ZiX:=λx y k dd =>
 onNat x (λkx a=>onNat y (λky b=>iff' (Y00 (kix kx) (kix ky)) (iff' (g a b) (iff' (Nat.ble (f a b) (kmx kx)) (Z2l (f a b) λs=>k (.int kx (.ofNat s))) dd) dd) dd) dd) dd
theorem Z0q{β : Type}(m:Nat)(f:Nat -> β):Z2l m f=f m:=by cases m<;>rfl
theorem ZbC {P : Program} {op : BinOp} {t : TypeId} {f : Nat -> Nat -> Nat} {g : Nat -> Nat -> Bool} (h1 : op ≠ .shl) (h2 : op ≠ .shr)
  (hc:∀k (a b:Nat),g a b=true->Z0O op k (a:Int) (b:Int)=some (.int k (k.wrap (f a b:Nat)))):Zir P op t (ZlF f g):=by
 intro x y k dd out h
 unfold ZlF at h
 rcases Z2b x (λkx a=>onNat y (λky b=>iff' (Y00 (kix kx) (kix ky)) (iff' (g a b) (iff' (Nat.ble (f a b) (kmx kx)) (Z2l (f a b) λs=>k (.int kx (.ofNat s))) dd) dd) dd) dd) dd with ⟨kx,a,rfl,e⟩|e
 · rw[e]at h
   rcases Z2b y (λky b=>iff' (Y00 (kix kx) (kix ky)) (iff' (g a b) (iff' (Nat.ble (f a b) (kmx kx)) (Z2l (f a b) λs=>k (.int kx (.ofNat s))) dd) dd) dd) dd with ⟨ky,b,rfl,e'⟩|e'
   · rw[e',Z22]at h
     split at h
     · rename_i hk
       have:=Z74 hk;subst this
       rw[Z22]at h
       split at h
       · rename_i hg
         rw[Z22]at h
         split at h
         · rename_i hle
           rw[Z0q]at h
           refine .inl ⟨_,?_,h⟩
           have:=hc kx a b hg
           rw[Zcy (Y03 hle)]at this
           cases op<;>first|exact (h1 rfl).elim|exact (h2 rfl).elim|simpa[Z5z]using this
         ·exact .inr h
       ·exact .inr h
     ·exact .inr h
   ·rw[e']at h;exact .inr h
 ·rw[e]at h;exact .inr h
noncomputable def eqF(want:Bool):ZiX:=λx y k dd =>
 cmpF (λa b=>iff' (Y00 a b) want (!want)) x y k (Z4b x (λs=>Z4b y (λs'=>iff' (eqS s s') (k (.bool want)) (k (.bool (!want)))) dd) dd)
theorem ZiO{P:Program}{op:BinOp}{t:TypeId}{want:Bool}(hop:(op = .eql/\want=true)\/(op = .neq/\want=false)):Zir P op t (eqF want):=by
 intro x y k dd out h
 have hci:∀k (a b:Nat),Z0O op k (a:Int) (b:Int)=some (.bool (iff' (Y00 a b) want (!want))):=by
  intro k a b
  have hab:Y00 a b=decide ((a:Int)=(b:Int)):=by
   by_cases e:a=b
   ·subst e;simp
   · have:¬((a:Int)=b):=by omega
     have h3:Y00 a b=false:=by cases hq:Y00 a b with|false=>rfl|true=>exact absurd (Y01 hq) e
     rw[h3];simp[this]
  rcases hop with ⟨rfl,rfl⟩|⟨rfl,rfl⟩
  ·simp only[Z0O,Z22,hab];by_cases e:(a:Int)=b<;>simp[e]
  ·simp only[Z0O,Z22,hab];by_cases e:(a:Int)=b<;>simp[e]
 rcases Z7m (P:=P) (t:=t) (by rcases hop with ⟨rfl,_⟩|⟨rfl,_⟩<;>simp) (by rcases hop with ⟨rfl,_⟩|⟨rfl,_⟩<;>simp) hci x y k _ out h with h1|h1
 ·exact .inl h1
 · rcases Z37 x (λs=>Z4b y (λs'=>iff' (eqS s s') (k (.bool want)) (k (.bool (!want)))) dd) dd with ⟨s,rfl,e⟩|e
   · rw[e]at h1
     rcases Z37 y (λs'=>iff' (eqS s s') (k (.bool want)) (k (.bool (!want)))) dd with ⟨s',rfl,e'⟩|e'
     · rw[e',Z22,ZfJ]at h1
       rcases hop with ⟨rfl,rfl⟩|⟨rfl,rfl⟩
       · refine .inl ⟨.bool (s==s'),by simp[Z5z,Z4x],?_⟩
         cases hs:(s==s')<;>simpa[hs]using h1
       · refine .inl ⟨.bool !(s==s'),by simp[Z5z,Z4x],?_⟩
         cases hs:(s==s')<;>simpa[hs]using h1
     ·rw[e']at h1;exact .inr h1
   ·rw[e]at h1;exact .inr h1
noncomputable def Zm1(op:BinOp):Option ZiX :=
 match op with
 | .add=>some (ZlF (λa b=>Nat.add a b) (λ_ _=>true))
 | .sub=>some (ZlF (λa b=>Nat.sub a b) (λa b=>Nat.ble b a))
 | .mul=>some (ZlF (λa b=>Nat.mul a b) (λ_ _=>true))
 | .eql=>some (eqF true)
 | .neq=>some (eqF false)
 | .lss=>some (cmpF λa b=>Nat.blt a b)
 | .leq=>some (cmpF λa b=>Nat.ble a b)
 | .gtr=>some (cmpF λa b=>Nat.blt b a)
 | .geq=>some (cmpF λa b=>Nat.ble b a)
 |_=>none
theorem Zkx{P:Program}{op:BinOp}{t:TypeId}{F:ZiX}(h:Zm1 op=some F):Zir P op t F:=by
 unfold Zm1 at h
 cases op<;>simp at h<;>subst h
 ·exact ZbC (by simp) (by simp) λk a b _=>by simp only[Z0O];rfl
 · refine ZbC (by simp) (by simp) λk a b hg=>?_
   have:=Y03 hg
   simp only[Z0O]
   have e:((a:Int)-(b:Int))=((Nat.sub a b:Nat):Int):=by show _=((a-b:Nat):Int);omega
   rw[e];rfl
 ·exact ZbC (by simp) (by simp) λk a b _=>by simp only[Z0O];rfl
 ·exact ZiO (.inl ⟨rfl,rfl⟩)
 ·exact ZiO (.inr ⟨rfl,rfl⟩)
 · refine Z7m (by simp) (by simp) λk a b=>?_
   simp only[Z0O];congr 2
   by_cases e:a<b
   · have h2:Nat.blt a b=true:=by simpa[Y02]using e
     rw[h2];simp[e]
   · have h2:Nat.blt a b=false:=by cases hq:Nat.blt a b with|false=>rfl|true=>exact absurd (by simpa[Y02]using hq) e
     rw[h2];simp[e]
 · refine Z7m (by simp) (by simp) λk a b=>?_
   simp only[Z0O];congr 2
   by_cases e:a<=b
   · have h2:Nat.ble a b=true:=Y0b e
     rw[h2];simp[e]
   · have h2:Nat.ble a b=false:=by cases hq:Nat.ble a b with|false=>rfl|true=>exact absurd (Y03 hq) e
     rw[h2];simp[e]
 · refine Z7m (by simp) (by simp) λk a b=>?_
   simp only[Z0O];congr 2
   by_cases e:b<a
   · have h2:Nat.blt b a=true:=by simpa[Y02]using e
     rw[h2];simp[e]
   · have h2:Nat.blt b a=false:=by cases hq:Nat.blt b a with|false=>rfl|true=>exact absurd (by simpa[Y02]using hq) e
     rw[h2];simp[e]
 · refine Z7m (by simp) (by simp) λk a b=>?_
   simp only[Z0O];congr 2
   by_cases e:b<=a
   · have h2:Nat.ble b a=true:=Y0b e
     rw[h2];simp[e]
   · have h2:Nat.ble b a=false:=by cases hq:Nat.ble b a with|false=>rfl|true=>exact absurd (Y03 hq) e
     rw[h2];simp[e]
end Go.Abs
end
section
namespace Go.Abs
open Go.RowKit
section some
variable {γ : Type} {v:AV} {out : γ}
theorem Z1H{f:IntKind->Nat->Option γ}{dd:Option γ}(h:onNat v f dd=some out):(∃k n,v = .int k (Int.ofNat n)/\f k n=some out)\/dd=some out:=by
 rcases Z2b v f dd with ⟨k,n,rfl,e⟩|e<;>rw[e]at h
 ·exact .inl ⟨k,n,rfl,h⟩
 ·exact .inr h
theorem Z2c{f:Bool->Option γ}{dd:Option γ}(h:Z2t v f dd=some out):(∃b,v = .bool b/\f b=some out)\/((∀b,v ≠ .bool b)/\dd=some out):=by
 rcases Z3A v f dd with ⟨b,rfl,e⟩|⟨e',e⟩<;>rw[e]at h
 ·exact .inl ⟨b,rfl,h⟩
 ·exact .inr ⟨e',h⟩
theorem Z26{f:List UInt8->Option γ}{dd:Option γ}(h:Z4b v f dd=some out):(∃b,v = .str b/\f b=some out)\/dd=some out:=by
 rcases Z37 v f dd with ⟨b,rfl,e⟩|e<;>rw[e]at h
 ·exact .inl ⟨b,rfl,h⟩
 ·exact .inr h
theorem Z1p{f:Nat->Nat->Option γ}{g:List AV->Option γ}{dd:Option γ}(h:onPtr v f g dd=some out):(∃b o,v = .ptr b o/\f b o=some out)\/(∃cs,v = .rp cs/\g cs=some out)\/dd=some out:=by
 rcases Z6U v f g dd with ⟨b,o,rfl,e⟩|⟨cs,rfl,e⟩|e<;>rw[e]at h
 ·exact .inl ⟨b,o,rfl,h⟩
 ·exact .inr (.inl ⟨cs,rfl,h⟩)
 ·exact .inr (.inr h)
theorem Z0C {f : Nat -> Nat -> Nat -> Nat -> Nat -> Option γ} {g : Nat -> Nat -> List AV -> Option γ} {e dd : Option γ} (h : Z1k v f g e dd = some out) :
  (∃b o l c z,v = .slice b o l c z/\f b o l c z=some out)\/(∃n z cs,v = .rs n z cs/\g n z cs=some out)\/(v = .nslice/\e=some out)\/dd=some out:=by
 rcases Z92 v f g e dd with ⟨b,o,l,c,z,rfl,e⟩|⟨n,z,cs,rfl,e⟩|⟨rfl,e⟩|e<;>rw[e]at h
 ·exact .inl ⟨b,o,l,c,z,rfl,h⟩
 ·exact .inr (.inl ⟨n,z,cs,rfl,h⟩)
 ·exact .inr (.inr (.inl ⟨rfl,h⟩))
 ·exact .inr (.inr (.inr h))
theorem Z9Z{f:List AV->Option γ}{dd:Option γ}(h:Z6T v f dd=some out):(∃b,v = .tuple b/\f b=some out)\/dd=some out:=by
 rcases Z91 v f dd with ⟨b,rfl,e⟩|e<;>rw[e]at h
 ·exact .inl ⟨b,rfl,h⟩
 ·exact .inr h
theorem Z5l{f:List AV->Option γ}{dd:Option γ}(h:Zbk v f dd=some out):(∃b,v = .agg b/\f b=some out)\/((∀b,v ≠ .agg b)/\dd=some out):=by
 rcases Zbj v f dd with ⟨b,rfl,e⟩|⟨e',e⟩<;>rw[e]at h
 ·exact .inl ⟨b,rfl,h⟩
 ·exact .inr ⟨e',h⟩
theorem Zbi{f:Fn->List AV->List AV->Option γ}{dd:Option γ}(h:onFunc v f dd=some out):(∃fn a b,v = .func fn a b/\f fn a b=some out)\/dd=some out:=by
 rcases Za1 v f dd with ⟨fn,a,b,rfl,e⟩|e<;>rw[e]at h
 ·exact .inl ⟨fn,a,b,rfl,h⟩
 ·exact .inr h
theorem Z16{o:AObj}{f:Nat->Nat->List AV->TypeId->Option γ}(h:Z17 o f none=some out):∃fam sh cs ty,o=⟨true,fam,sh,.cells cs ty⟩/\f fam sh cs ty=some out:=by
 rcases Z93 o f none with ⟨a,b,c,d,rfl,e⟩|e<;>rw[e]at h
 ·exact⟨a,b,c,d,rfl,h⟩
 ·cases h
theorem Z5k{o:AObj}{f:Nat->Nat->List (AV×AV×Nat)->Nat->Option γ}(h:Za0 o f none=some out):∃fam sh cs ty,o=⟨true,fam,sh,.map cs ty⟩/\f fam sh cs ty=some out:=by
 rcases Zbh o f none with ⟨a,b,c,d,rfl,e⟩|e<;>rw[e]at h
 ·exact⟨a,b,c,d,rfl,h⟩
 ·cases h
theorem Z05{b:Bool}{x:Option γ}(h:iff' b x none=some out):b=true/\x=some out:=by
 cases b
 ·cases h
 ·exact⟨rfl,h⟩
theorem Z3H{α : Type}{l:List α}{n:Nat}{f : α -> Option γ}(h:ZiK l n f none=some out):∃v,l[n]? = some v/\f v=some out:=by
 rcases Z8k l n f none with ⟨v,h1,e⟩|e<;>rw[e]at h
 ·exact⟨v,h1,h⟩
 ·cases h
theorem Z4I{n:Nat}{l:List AV}{f:List AV->Option γ}(h:tkR n l f none=some out):∃r,tk n l=some r/\f r=some out:=by
 rcases Z9M n l f none with ⟨v,h1,e⟩|e<;>rw[e]at h
 ·exact⟨v,h1,h⟩
 ·cases h
theorem Z6A{l:List AV}{n:Nat}{vs:List AV}{f:List AV->Option γ}(h:ZkN l n vs f none=some out):∃r,spl l n vs=some r/\f r=some out:=by
 rcases Z5h l n vs f none with ⟨v,h1,e⟩|e<;>rw[e]at h
 ·exact⟨v,h1,h⟩
 ·cases h
end some
theorem Zef{l:List AV}{n:Nat}{v:AV}(h:l[n]? = some v):tk 1 (l.drop n)=some [v]:=by
 obtain⟨hn,rfl⟩:=Y0d.1 h
 rw[List.drop_eq_getElem_cons hn];simp[tk]
noncomputable def Zmk{β : Type}(T:TH)(f:Nat->BT AObj 12 -> β) : β:=TH.rec f T
noncomputable def Zl8(T:TH)(b:Nat)(o:AObj)(f:TH->Res):Res:=Zmk T λsz tr=>Z3Q 12 b o tr λtr'=>f ⟨sz,tr'⟩
theorem Z8V(T:TH)(b:Nat)(o:AObj)(f:TH->Res):Zl8 T b o f=f (T.set b o):=by
 obtain⟨sz,tr⟩:=T
 show Z3Q 12 b o tr (λtr'=>f ⟨sz,tr'⟩)=_
 rw[Z2W];rfl
noncomputable def Zn9(T:TH)(bd:ABody)(f:Nat->TH->Res):Res :=
 Zmk T λsz tr=>iff' (Nat.blt sz 4096) (Z3Q 12 sz ⟨true,sz,0,bd⟩ tr λtr'=>Z2l (Nat.add sz 1) λs=>f sz ⟨s,tr'⟩) none
theorem Z6Z{T:TH}{bd:ABody}{f:Nat->TH->Res}{out:AV×TH}(h:Zn9 T bd f=some out):T.sz<4096/\f T.sz (T.push ⟨true,T.sz,0,bd⟩)=some out:=by
 obtain⟨sz,tr⟩:=T
 obtain⟨h1,h2⟩:=Z05 (show iff' (Nat.blt sz 4096) (Z3Q 12 sz ⟨true,sz,0,bd⟩ tr λtr'=>Z2l (Nat.add sz 1) λs=>f sz ⟨s,tr'⟩) none=some out from h)
 rw[Z2W,Z0q]at h2
 exact⟨by simpa[Y02]using h1,h2⟩
section ops
variable {P:Program} {gl:Z0n} {d n:Nat} {o:Oper}
noncomputable def ZlS(g:Tre AV d->AV):OpF d:=λ_ E T k=>frc1 (g E) λv=>k v T
theorem ZeZ{x:Operand}{g:Tre AV d->AV}(ho:o.op = .move x\/o.op = .assign x)(hg:Z0H gl d n x=some g):Z1n P gl d n o (ZlS g):=by
 intro forc orc E T k out H hO hR h
 simp only[ZlS,Z0r]at h
 refine⟨g E,T,H,Z0b (by rcases ho with e|e<;>simp[kind,e]) ?_,hR,h⟩
 rcases ho with e|e<;>simp[Z02,Z0p,e,Z06 hg]
noncomputable def Zjs(gc ga gb:Tre AV d->AV):OpF d:=λ_ E T k=>Z2t (gc E) (λb=>iff' b (frc1 (ga E) λv=>k v T) (frc1 (gb E) λv=>k v T)) none
theorem Zhi{c a b:Operand}{gc ga gb:Tre AV d->AV}(ho:o.op = .pick c a b)(hc:Z0H gl d n c=some gc)(ha:Z0H gl d n a=some ga)(hb:Z0H gl d n b=some gb):Z1n P gl d n o (Zjs gc ga gb):=by
 intro forc orc E T k out H hO hR h
 simp only[Zjs,Z0r]at h
 rcases Z2c h with ⟨w,e,h⟩|⟨_,h⟩<;>try (cases h;done)
 cases w with
 |true=>exact⟨ga E,T,H,Z0b (by simp[kind,ho]) (by simp[Z02,Z0p,ho,Z06 hc,Z06 ha,e]),hR,h⟩
 |false=>exact⟨gb E,T,H,Z0b (by simp[kind,ho]) (by simp[Z02,Z0p,ho,Z06 hc,Z06 hb,e]),hR,h⟩
noncomputable def Zno(F:ZiX)(gx gy:Tre AV d->AV)(s:OpF d):OpF d:=λforc E T k=>F (gx E) (gy E) (λr=>k r T) (s forc E T k)
theorem Zkt {op : BinOp} {t t2 : TypeId} {x y : Operand} {F : ZiX} {gx gy : Tre AV d -> AV} {s : OpF d} (ho : o.op = .binOp op t x y t2) (hF : Zm1 op = some F) (hx : Z0H gl d n x = some gx) (hy : Z0H gl d n y = some gy)
  (hs:Z1n P gl d n o s):Z1n P gl d n o (Zno F gx gy s):=by
 intro forc orc E T k out H hO hR h
 rcases Zkx (P:=P) (t:=t) hF _ _ _ _ _ h with ⟨r,h1,h2⟩|h
 ·exact⟨r,T,H,Z0b (by simp[kind,ho]) (by simp[Z02,ho,Z06 hx,Z06 hy,Ziq h1]),hR,h2⟩
 ·exact hs forc orc E T k out H hO hR h
noncomputable def Zn6(g:Tre AV d->AV):OpF d:=λ_ E T k=>Z2t (g E) (λb=>iff' b (k (.bool false) T) (k (.bool true) T)) none
theorem ZjD{t:TypeId}{x:Operand}{g:Tre AV d->AV}(ho:o.op = .unOp .not t x)(hg:Z0H gl d n x=some g):Z1n P gl d n o (Zn6 g):=by
 intro forc orc E T k out H hO hR h
 rcases Z2c h with ⟨w,e,h⟩|⟨_,h⟩<;>try (cases h;done)
 refine⟨.bool !w,T,H,Z0b (by simp[kind,ho]) (by simp[Z02,Z0p,ho,Z06 hg,e,aUn]),hR,?_⟩
 cases w<;>exact h
noncomputable def ZiF(g:Tre AV d->AV):OpF d:=λ_ E T k =>
 onPtr (g E) (λb off=>Z17 (T.get b) (λ_ _ cs _=>ZiK cs off (λv=>k v T) none) none) (λcs=>ZiK cs 0 (λv=>k v T) none) none
theorem Zff{t:TypeId}{x:Operand}{g:Tre AV d->AV}(ho:o.op = .load t x)(ht:Z4d P t=some false)(hg:Z0H gl d n x=some g):Z1n P gl d n o (ZiF g):=by
 intro forc orc E T k out H hO hR h
 rcases Z1p h with ⟨b,off,e,h⟩|⟨cs,e,h⟩|h<;>try (cases h;done)
 · obtain⟨fam,sh,cs,ty,e2,h⟩:=Z16 h
   obtain⟨v,h1,h2⟩:=Z3H h
   have hH:=hR.obj b (by rw[e2])
   rw[e2]at hH
   exact⟨v,T,H,Z0b (by simp[kind,ho]) (by simp[Z02,Z0p,ho,Z06 hg,e,Z5w,ht,rd,hH,Zef h1]),hR,h2⟩
 · obtain⟨v,h1,h2⟩:=Z3H h
   have:=Zef h1
   exact⟨v,T,H,Z0b (by simp[kind,ho]) (by simp[Z02,Z0p,ho,Z06 hg,e,Z5w,ht,rd,show tk 1 cs=some [v] by simpa using this]),hR,h2⟩
noncomputable def ZiE(m:Nat)(g:Tre AV d->AV):OpF d:=λ_ E T k =>
 onPtr (g E) (λb off=>Z17 (T.get b) (λ_ _ cs _=>tkR m (Z7K cs off) (λl=>k (.agg l) T) none) none) (λcs=>tkR m cs (λl=>k (.agg l) T) none) none
theorem Zfe{t:TypeId}{x:Operand}{m:Nat}{g:Tre AV d->AV}(ho:o.op = .load t x)(ht:Z4d P t=some true)(hm:tsz P t=some m)(hg:Z0H gl d n x=some g):Z1n P gl d n o (ZiE m g):=by
 intro forc orc E T k out H hO hR h
 rcases Z1p h with ⟨b,off,e,h⟩|⟨cs,e,h⟩|h<;>try (cases h;done)
 · obtain⟨fam,sh,cs,ty,e2,h⟩:=Z16 h
   obtain⟨v,h1,h2⟩:=Z4I h
   have hH:=hR.obj b (by rw[e2])
   rw[e2]at hH
   rw[Z1P]at h1
   exact⟨.agg v,T,H,Z0b (by simp[kind,ho]) (by simp[Z02,Z0p,ho,Z06 hg,e,Z5w,ht,hm,rd,hH,h1]),hR,h2⟩
 · obtain⟨v,h1,h2⟩:=Z4I h
   exact⟨.agg v,T,H,Z0b (by simp[kind,ho]) (by simp[Z02,Z0p,ho,Z06 hg,e,Z5w,ht,hm,rd,h1]),hR,h2⟩
noncomputable def Znh(c:Nat)(g:Tre AV d->AV):OpF d:=λ_ E T k=>onPtr (g E) (λb off=>Z2l (Nat.add off c) λw=>k (.ptr b w) T) (λcs=>k (.rp (Z7K cs c)) T) none
theorem Zkb{s:TypeId}{x:Operand}{f m:Nat}{fd:Field}{g:Tre AV d->AV}(ho:o.op = .fieldAddr s x f)(hf:Z4o P s f=some fd)(hz:tsz P fd.type=some (m+1))(hg:Z0H gl d n x=some g):Z1n P gl d n o (Znh fd.offset g):=by
 intro forc orc E T k out H hO hR h
 rcases Z1p h with ⟨b,off,e,h⟩|⟨cs,e,h⟩|h<;>try (cases h;done)
 · rw[Z0q]at h
   exact⟨_,T,H,Z0b (by simp[kind,ho]) (by simp only[Z02,Z0p,ho,Z06 hg,e,Z32,hf,hz];rfl),hR,h⟩
 · rw[Z1P]at h
   exact⟨_,T,H,Z0b (by simp[kind,ho]) (by simp only[Z02,Z0p,ho,Z06 hg,e,Z32,hf,hz]),hR,h⟩
noncomputable def Znd(z:Nat)(gx gi:Tre AV d->AV):OpF d:=λ_ E T k =>
 onNat (gi E) (λ_ i=>Z1k (gx E) (λb off len _ z'=>iff' (Nat.blt i len) (iff' (Y00 z' z) (Z2l (Nat.add off (Nat.mul i z)) λw=>k (.ptr b w) T) none) none)
  (λm z' cs=>iff' (Nat.blt i m) (iff' (Y00 z' z) (k (.rp (Z7K cs (Nat.mul i z))) T) none) none) none none) none
theorem ZjV{t e:TypeId}{x i:Operand}{z:Nat}{gx gi:Tre AV d->AV}(ho:o.op = .indexAddr t x i)(ht:P.underlying t=some (.slice e))(hz:tsz P e=some z)(hx:Z0H gl d n x=some gx)(hi:Z0H gl d n i=some gi):Z1n P gl d n o (Znd z gx gi):=by
 intro forc orc E T k out H hO hR h
 rcases Z1H h with ⟨kk,m,e1,h⟩|h<;>try (cases h;done)
 rcases Z0C h with ⟨b,off,l,c,z',e2,h⟩|⟨l,z',cs,e2,h⟩|⟨_,h⟩|h<;>try (cases h;done)
 · obtain⟨h1,h⟩:=Z05 h
   obtain⟨h2,h⟩:=Z05 h
   have h1':m<l:=by simpa[Y02]using h1
   have h2':=Y01 h2
   subst h2'
   rw[Z0q]at h
   refine⟨_,T,H,Z0b (by simp[kind,ho]) ?_,hR,h⟩
   have hc:(0:Int)<=Int.ofNat m/\Int.ofNat m<(l:Int):=⟨Y0c m,by show (m:Int)<l;omega⟩
   simp only[Z02,Z0p,ho,Z06 hx,Z06 hi,e1,e2,Z1L,ht,hz,if_pos hc,if_true]
   rfl
 · obtain⟨h1,h⟩:=Z05 h
   obtain⟨h2,h⟩:=Z05 h
   have h1':m<l:=by simpa[Y02]using h1
   have h2':=Y01 h2
   subst h2'
   rw[Z1P]at h
   refine⟨_,T,H,Z0b (by simp[kind,ho]) ?_,hR,h⟩
   have hc:(0:Int)<=Int.ofNat m/\Int.ofNat m<(l:Int):=⟨Y0c m,by show (m:Int)<l;omega⟩
   simp only[Z02,Z0p,ho,Z06 hx,Z06 hi,e1,e2,Z1L,ht,hz,if_pos hc,if_true]
   rfl
noncomputable def Znc(gx gi:Tre AV d->AV):OpF d:=λ_ E T k =>
 onNat (gi E) (λ_ i=>Z4b (gx E) (λs=>ZiK s i (λc=>Z2l (UInt8.toNat c) λw=>k (.int .u8 (.ofNat w)) T) none) none) none
theorem ZjU{t:TypeId}{x i:Operand}{gx gi:Tre AV d->AV}(ho:o.op = .index t x i)(ht:P.underlying t=some .string)(hx:Z0H gl d n x=some gx)(hi:Z0H gl d n i=some gi):Z1n P gl d n o (Znc gx gi):=by
 intro forc orc E T k out H hO hR h
 rcases Z1H h with ⟨kk,m,e1,h⟩|h<;>try (cases h;done)
 rcases Z26 h with ⟨s,e2,h⟩|h<;>try (cases h;done)
 obtain⟨c,h1,h⟩:=Z3H h
 rw[Z0q]at h
 refine⟨_,T,H,Z0b (by simp[kind,ho]) ?_,hR,h⟩
 have hc:(0:Int)<=Int.ofNat m:=Y0c m
 have ht':(Int.ofNat m).toNat=m:=rfl
 simp only[Z02,Z0p,ho,Z06 hx,Z06 hi,e1,e2,Z8C,ht,if_pos hc,ht',h1]
 rfl
noncomputable def Zni(i:Nat)(g:Tre AV d->AV):OpF d:=λ_ E T k=>Z6T (g E) (λvs=>ZiK vs i (λv=>k v T) none) none
theorem Zkc{x:Operand}{i:Nat}{g:Tre AV d->AV}(ho:o.op = .extract x i)(hg:Z0H gl d n x=some g):Z1n P gl d n o (Zni i g):=by
 intro forc orc E T k out H hO hR h
 rcases Z9Z h with ⟨vs,e,h⟩|h<;>try (cases h;done)
 obtain⟨v,h1,h2⟩:=Z3H h
 exact⟨v,T,H,Z0b (by simp[kind,ho]) (by simp[Z02,Z0p,ho,Z06 hg,e,Z6q,h1]),hR,h2⟩
noncomputable def Zn8(g:Tre AV d->AV)(s:OpF d):OpF d:=λforc E T k=>onPtr (g E) (λb off=>k (.ptr b off) T) (λcs=>k (.rp cs) T) (s forc E T k)
theorem ZjG{x:Operand}{g:Tre AV d->AV}{s:OpF d}(ho:o.op = .nilCheck x)(hg:Z0H gl d n x=some g)(hs:Z1n P gl d n o s):Z1n P gl d n o (Zn8 g s):=by
 intro forc orc E T k out H hO hR h
 rcases Z1p h with ⟨b,off,e,h⟩|⟨cs,e,h⟩|h
 ·exact⟨_,T,H,Z0b (by simp[kind,ho]) (by simp[Z02,Z0p,ho,Z06 hg,e,Zip]),hR,h⟩
 ·exact⟨_,T,H,Z0b (by simp[kind,ho]) (by simp[Z02,Z0p,ho,Z06 hg,e,Zip]),hR,h⟩
 ·exact hs forc orc E T k out H hO hR h
noncomputable def Zli(g:Tre AV d->AV):OpF d:=λ_ E T k=>Z4b (g E) (λs=>Z2l (ZhO s) λm=>k (.int .i64 (.ofNat m)) T) none
noncomputable def Zna(g:Tre AV d->AV):OpF d:=λ_ E T k=>Z1k (g E) (λ_ _ l _ _=>k (.int .i64 (.ofNat l)) T) (λm _ _=>k (.int .i64 (.ofNat m)) T) (k (.int .i64 (.ofNat 0)) T) none
noncomputable def ZjQ(g:Tre AV d->AV):OpF d:=λ_ E T k=>frc1 (g E) λv=>match v with
 | .nmap=>k (.int .i64 (.ofNat 0)) T
 | .map b=>Za0 (T.get b) (λ_ _ es _=>Z2l (ZhO es) λm=>k (.int .i64 (.ofNat m)) T) none
 |_=>none
theorem Z6i{c:Call}(ho:o.op = .call c)(hc:c.callee = .builtin .len):kind o=1:=by simp[kind,ho,hc]
theorem ZhN {c : Call} {x : Operand} {t : TypeId} {ts : List TypeId} {g : Tre AV d -> AV} (ho : o.op = .call c) (hc : c.callee = .builtin .len) (ha : c.args.toList = [x]) (ht : c.argTypes.toList = t :: ts) (hu : P.underlying t = some .string)
  (hg:Z0H gl d n x=some g):Z1n P gl d n o (Zli g):=by
 intro forc orc E T k out H hO hR h
 rcases Z26 h with ⟨s,e,h⟩|h<;>try (cases h;done)
 rw[Z0q,Z38]at h
 exact⟨_,T,H,Z0b (by rw[Z6i ho hc];omega) (by simp only[Z02,Z0p,ho,hc,ha,ht,Z06 hg,e,ZkE,hu];rfl),hR,h⟩
theorem ZjR {c : Call} {x : Operand} {t el : TypeId} {ts : List TypeId} {g : Tre AV d -> AV} (ho : o.op = .call c) (hc : c.callee = .builtin .len) (ha : c.args.toList = [x]) (ht : c.argTypes.toList = t :: ts) (hu : P.underlying t = some (.slice el))
  (hg:Z0H gl d n x=some g):Z1n P gl d n o (Zna g):=by
 intro forc orc E T k out H hO hR h
 rcases Z0C h with ⟨b,off,l,c',z',e,h⟩|⟨l,z',cs,e,h⟩|⟨e,h⟩|h<;>try (cases h;done)
 all_goals exact⟨_,T,H,Z0b (by rw[Z6i ho hc];omega) (by simp only[Z02,Z0p,ho,hc,ha,ht,Z06 hg,e,ZkE,hu];rfl),hR,h⟩
theorem ZhP {c : Call} {x : Operand} {t kt el : TypeId} {ts : List TypeId} {g : Tre AV d -> AV} (ho : o.op = .call c) (hc : c.callee = .builtin .len) (ha : c.args.toList = [x]) (ht : c.argTypes.toList = t :: ts) (hu : P.underlying t = some (.map kt el))
  (hg:Z0H gl d n x=some g):Z1n P gl d n o (ZjQ g):=by
 intro forc orc E T k out H hO hR h
 simp only[ZjQ,Z0r]at h
 split at h<;>try (cases h;done)
 · rename_i e
   exact⟨_,T,H,Z0b (by rw[Z6i ho hc];omega) (by simp only[Z02,Z0p,ho,hc,ha,ht,Z06 hg,e,ZkE,hu];rfl),hR,h⟩
 · rename_i b e
   obtain⟨fam,sh,es,cl,e2,h⟩:=Z5k h
   have hH:=hR.obj b (by rw[e2])
   rw[e2]at hH
   rw[Z0q,Z38]at h
   exact⟨_,T,H,Z0b (by rw[Z6i ho hc];omega) (by simp only[Z02,Z0p,ho,hc,ha,ht,Z06 hg,e,ZkE,hu,Z8b,hH];rfl),hR,h⟩
noncomputable def Zhu(mk:Nat->AV)(bd:ABody)(k:Knt)(T:TH):Res:=Zn9 T bd λsz T'=>frc1 (mk sz) λv=>k v T'
noncomputable def Zk5{β : Type}(b:ABody)(f:ABody -> β) : β:=match b with
 | .cells cs ty=>Z5L cs λcs=>f (.cells cs ty)
 |b=>f b
theorem Zi1{β : Type}(b:ABody)(f:ABody -> β):Zk5 b f=f b:=by cases b<;>simp[Zk5,Z2f]
noncomputable def Zjg(P:Program)(gl:Z0n)(d n:Nat)(o:Oper):OpF d:=λ_ E T k=>match Z0v P (Z4a gl d n E) o with|some (mk,bd)=>Zk5 bd λbd=>Zhu mk bd k T|none=>none
theorem Z70 {E : Tre AV d} {orc : Orc} {T : TH} {k : Knt} {out : AV × TH} {H : Z00} {mk : Nat -> AV} {bd : ABody} (hk : kind o = 2) (ha : Z0v P (Z4a gl d n E) o = some (mk, bd)) (hR : Rep T H) (h : Zhu mk bd k T = some out) :
  ∃r T' H',aop P orc (Z4a gl d n E) o H=some (r,H')/\Rep T' H'/\k r T'=some out:=by
 obtain⟨h1,h2⟩:=Z6Z h
 rw[Z0r]at h2
 refine⟨mk H.length,_,_,ZgA hk ha,hR.push h1 bd,?_⟩
 rw[<- hR.sz];exact h2
theorem Zh9(hk:kind o=2):Z1n P gl d n o (Zjg P gl d n o):=by
 intro forc orc E T k out H hO hR h
 unfold Zjg at h
 split at h<;>try (simp at h;done)
 rename_i mk bd ha
 rw[Zi1]at h
 exact Z70 hk ha hR h
noncomputable def Zns(bd:ABody):OpF d:=λ_ E T k=>Zhu (λm=>.ptr m 0) bd k T
theorem ZkA{e:TypeId}{z:AV}(ho:o.op = .alloc e)(hz:Z1j P e=some z):Z1n P gl d n o (Zns (.cells z.cells e)):=by
 intro forc orc E T k out H hO hR h
 exact Z70 (by simp[kind,ho]) (by simp[Z0v,ho,hz]) hR h
noncomputable def ZmN(e:TypeId)(g:Tre AV d->AV):OpF d:=λ_ E T k=>frc1 (g E) λv=>Zbk v (λcs=>Zhu (λm=>.ptr m 0) (.cells cs e) k T) (Zhu (λm=>.ptr m 0) (.cells [v] e) k T)
theorem Z7n{v:AV}(h:∀b,v ≠ .agg b):v.cells=[v]:=by cases v<;>first|rfl|exact (h _ rfl).elim
theorem Zks{e:TypeId}{x:Operand}{g:Tre AV d->AV}(ho:o.op = .box e x)(hg:Z0H gl d n x=some g):Z1n P gl d n o (ZmN e g):=by
 intro forc orc E T k out H hO hR h
 simp only[ZmN,Z0r]at h
 rcases Z5l h with ⟨cs,e1,h⟩|⟨hne,h⟩
 ·exact Z70 (by simp[kind,ho]) (by simp[Z0v,ho,Z06 hg,e1,AV.cells]) hR h
 ·exact Z70 (by simp[kind,ho]) (by simp[Z0v,ho,Z06 hg,Z7n hne]) hR h
noncomputable def Zau(gl:Z0n)(d n:Nat)(place:Nat->Option (Nat×Nat)):List (Nat×Operand)->Option (Tre AV d->List AV->(List AV->Res)->Res)
 |[]=>some λ_ cs f=>f cs
 |(i,x)::l=>match place i,Z0H gl d n x,Zau gl d n place l with
  |some (off,sz),some g,some G=>Z0Y off λoff=>Z0Y sz λsz=>some λE cs f=>frc1 (g E) λv =>
   Zbk v (λvs=>iff' (Y00 (ZhO vs) sz) (ZkN cs off vs (λcs'=>G E cs' f) none) none) (iff' (Y00 1 sz) (ZkN cs off [v] (λcs'=>G E cs' f) none) none)
  |_,_,_=>none
theorem Z6m {place : Nat -> Option (Nat × Nat)} : ∀ (l : List (Nat × Operand)) (G : Tre AV d -> List AV -> (List AV -> Res) -> Res), Zau gl d n place l = some G -> ∀ E cs f out, G E cs f = some out ->
  ∃us cs',Z2X (Z4a gl d n E) l=some us/\Z4w place cs us=some cs'/\f cs'=some out
 |[],G,h,E,cs,f,out,he=>by simp[Zau]at h;subst h;exact⟨[],cs,rfl,rfl,he⟩
 |(i,x)::l,G,h,E,cs,f,out,he=>by
  simp only[Zau]at h
  split at h<;>try (simp at h;done)
  rename_i off sz g G' hp hg hG
  rw[Z13,Z13]at h
  simp at h;subst h
  simp only[Z0r]at he
  rcases Z5l he with ⟨vs,e,he2⟩|⟨hne,he2⟩
  · obtain⟨h1,he3⟩:=Z05 he2
    have h1':=Y01 h1
    rw[Z38]at h1'
    obtain⟨cs1,h2,he4⟩:=Z6A he3
    obtain⟨us,cs',k1,k2,k3⟩:=Z6m l G' hG E cs1 f out he4
    exact⟨(i,.agg vs)::us,cs',by simp[Z2X,Z06 hg,e,k1],by simp[Z4w,hp,AV.cells,h1',h2,k2],k3⟩
  · obtain⟨h1,he3⟩:=Z05 he2
    have h1':=Y01 h1
    obtain⟨cs1,h2,he4⟩:=Z6A he3
    obtain⟨us,cs',k1,k2,k3⟩:=Z6m l G' hG E cs1 f out he4
    exact⟨(i,g E)::us,cs',by simp[Z2X,Z06 hg,k1],by simp[Z4w,hp,Z7n hne,<- h1',h2,k2],k3⟩
noncomputable def Znp(zs:List AV)(G:Tre AV d->List AV->(List AV->Res)->Res):OpF d:=λ_ E T k=>G E zs λcs=>k (.agg cs) T
theorem Zku {t : TypeId} {ps : Array (Nat × Operand)} {z : AV} {fs : Array Field} {G : Tre AV d -> List AV -> (List AV -> Res) -> Res} (ho : o.op = .build t ps) (hz : Z1j P t = some z) (hu : P.underlying t = some (.struct fs)) (ha : Z6o P t = true)
  (hG:Zau gl d n (Zae P t) ps.toList=some G):Z1n P gl d n o (Znp z.cells G):=by
 intro forc orc E T k out H hO hR h
 obtain⟨us,cs',h1,h2,h3⟩:=Z6m _ _ hG E _ _ _ h
 exact⟨.agg cs',T,H,Z0b (by simp[kind,ho]) (by simp[Z02,Z0p,ho,h1,ZcX,hz,hu,ha,h2]),hR,h3⟩
noncomputable def Znn(len:Nat)(zs:List AV)(e:TypeId)(z:Nat)(G:Tre AV d->List AV->(List AV->Res)->Res):OpF d:=λ_ E T k=>G E zs λcs=>Zhu (λm=>.slice m 0 len len z) (.cells cs e) k T
theorem ZbA{t:TypeId}{len:Nat}{zs cs:List AV}{e:TypeId}{z:Nat}{us:List (Nat×AV)}(h:Z54 P t len []=some (zs,e,z))(hf:Z4w (λi=>some (i*z,z)) zs us=some cs):Z54 P t len us=some (cs,e,z):=by
 unfold Z54 at h⊢
 split at h<;>try (simp at h;done)
 rename_i e' hu
 split at h<;>try (simp at h;done)
 rename_i z' hz
 split at h<;>try (simp at h;done)
 rename_i hle
 split at h<;>try (simp at h;done)
 rename_i zs' hzs
 simp only[Z4w,Option.some.injEq,Prod.mk.injEq]at h
 obtain⟨rfl,rfl,rfl⟩:=h
 simp only[hu,hz,if_pos hle,hzs,hf]
theorem Zkr {t : TypeId} {len : Nat} {ps : Array (Nat × Operand)} {zs : List AV} {e : TypeId} {z : Nat} {G : Tre AV d -> List AV -> (List AV -> Res) -> Res} (ho : o.op = .buildSlice t len ps) (hz : Z54 P t len [] = some (zs, e, z))
  (hG:Zau gl d n (λi=>some (i*z,z)) ps.toList=some G):Z1n P gl d n o (Znn len zs e z G):=by
 intro forc orc E T k out H hO hR h
 obtain⟨us,cs',h1,h2,h3⟩:=Z6m _ _ hG E _ _ _ h
 exact Z70 (by simp[kind,ho]) (by simp[Z0v,ho,h1,ZbA hz h2]) hR h3
noncomputable def Zig(gl:Z0n)(d n:Nat):Option Operand->Option (Tre AV d->Nat->(Nat->Res)->Res)
 |none=>some λ_ m f=>f m
 |some x=>match Z0H gl d n x with|some g=>some λE _ f=>onNat (g E) (λ_ i=>f i) none|none=>none
theorem Z3O {b : Option Operand} {B : Tre AV d -> Nat -> (Nat -> Res) -> Res} (h : Zig gl d n b = some B) {E : Tre AV d} {m top : Nat} {f : Nat -> Res} {out : AV × TH} (hm : m <= top) (he : B E m (fun i => iff' (Nat.ble i top) (f i) none) = some out) :
  ∃ob i,Z5v (Z4a gl d n E) b=some ob/\bnd ob m top=some i/\f i=some out:=by
 cases b with
 |none =>
  simp[Zig]at h;subst h
  obtain⟨_,h2⟩:=Z05 he
  exact⟨none,m,rfl,rfl,h2⟩
 |some x =>
  simp only[Zig]at h
  split at h<;>simp at h
  rename_i g hg
  subst h
  rcases Z1H he with ⟨kk,i,e,he2⟩|he2<;>try (cases he2;done)
  obtain⟨h1,h2⟩:=Z05 he2
  have h1':i<=top:=Y03 h1
  refine⟨some (g E),i,by simp[Z5v,Z06 hg],?_,h2⟩
  have hc:(0:Int)<=Int.ofNat i/\Int.ofNat i<=(top:Int):=⟨Y0c i,by show (i:Int)<=top;omega⟩
  simp only[bnd,e,if_pos hc];rfl
noncomputable def ZmZ(gx:Tre AV d->AV)(lo hi:Tre AV d->Nat->(Nat->Res)->Res):OpF d:=λ_ E T k=>Z4b (gx E) (λs=>Z0Y (ZhO s) λm=>hi E m λh=>iff' (Nat.ble h m) (lo E 0 λl=>iff' (Nat.ble l h) (Zj7 (Z7K s l) (Nat.sub h l) λr=>k (.str r) T) none) none) none
theorem Zjf {t : TypeId} {x : Operand} {lo hi : Option Operand} {gx : Tre AV d -> AV} {L R : Tre AV d -> Nat -> (Nat -> Res) -> Res} (ho : o.op = .slice t x lo hi none) (ht : P.underlying t = some .string) (hx : Z0H gl d n x = some gx) (hL : Zig gl d n lo = some L) (hH : Zig gl d n hi = some R) :
  Z1n P gl d n o (ZmZ gx L R):=by
 intro forc orc E T k out H hO hR h
 rcases Z26 h with ⟨s,e,h⟩|h<;>try (cases h;done)
 rw[Z13,Z38]at h
 obtain⟨oh,i,a1,a2,h⟩:=Z3O hH (Y09 _) h
 obtain⟨ol,l,b1,b2,h⟩:=Z3O hL (Nat.zero_le _) h
 rw[Z8J,Z1P]at h
 exact⟨_,T,H,Z0b (by simp[kind,ho]) (by simp only[Z02,Z0p,ho,Z06 hx,a1,b1,e,Z4h,ht,a2,b2];rfl),hR,h⟩
noncomputable def Zn0(z:Nat)(gx:Tre AV d->AV)(lo hi:Tre AV d->Nat->(Nat->Res)->Res):OpF d:=λ_ E T k=>Z1k (gx E)
 (λb off len cap z'=>iff' (Nat.ble len cap) (iff' (Y00 z z') (hi E len λh=>iff' (Nat.ble h cap) (lo E 0 λl=>iff' (Nat.ble l h) (Z0Y (Nat.add off (Nat.mul l z')) λo'=>Z0Y (Nat.sub h l) λn'=>Z0Y (Nat.sub cap l) λc'=>k (.slice b o' n' c' z') T) none) none) none) none)
 (λm z' cs=>iff' (Y00 z z') (hi E m λh=>iff' (Nat.ble h m) (lo E 0 λl=>iff' (Nat.ble l h) (Z0Y (Nat.sub h l) λn'=>Zj7 (Z7K cs (Nat.mul l z')) (Nat.mul n' z') λr=>k (.rs n' z' r) T) none) none) none)
 (hi E 0 λh=>iff' (Nat.ble h 0) (lo E 0 λl=>iff' (Nat.ble l h) (k .nslice T) none) none) none
theorem Zjh {t e : TypeId} {x : Operand} {z : Nat} {lo hi : Option Operand} {gx : Tre AV d -> AV} {L R : Tre AV d -> Nat -> (Nat -> Res) -> Res} (ho : o.op = .slice t x lo hi none) (ht : P.underlying t = some (.slice e)) (hz : tsz P e = some z) (hx : Z0H gl d n x = some gx)
  (hL:Zig gl d n lo=some L) (hH:Zig gl d n hi=some R):Z1n P gl d n o (Zn0 z gx L R):=by
 intro forc orc E T k out H hO hR h
 rcases Z0C h with ⟨b,off,len,cap,z',e1,h1⟩|⟨m,z',cs,e1,h1⟩|⟨e1,h1⟩|h1<;>try (cases h1;done)
 · obtain⟨g1,h1⟩:=Z05 h1
   obtain⟨g2,h2⟩:=Z05 h1
   have g2':=Y01 g2
   obtain⟨oh,i,a1,a2,h3⟩:=Z3O hH (Y03 g1) h2
   obtain⟨ol,l,b1,b2,h4⟩:=Z3O hL (Nat.zero_le _) h3
   simp only[Z13]at h4
   exact⟨_,T,H,Z0b (by simp[kind,ho]) (by simp only[Z02,Z0p,ho,Z06 hx,a1,b1,e1,Z4h,ht,hz,if_pos g2',a2,b2];rfl),hR,h4⟩
 · obtain⟨g2,h2⟩:=Z05 h1
   have g2':=Y01 g2
   obtain⟨oh,i,a1,a2,h3⟩:=Z3O hH (Y09 _) h2
   obtain⟨ol,l,b1,b2,h4⟩:=Z3O hL (Nat.zero_le _) h3
   simp only[Z13]at h4
   rw[Z8J,Z1P]at h4
   exact⟨_,T,H,Z0b (by simp[kind,ho]) (by simp only[Z02,Z0p,ho,Z06 hx,a1,b1,e1,Z4h,ht,hz,if_pos g2',a2,b2];rfl),hR,h4⟩
 · obtain⟨oh,i,a1,a2,h3⟩:=Z3O hH (Y09 _) h1
   obtain⟨ol,l,b1,b2,h4⟩:=Z3O hL (Nat.zero_le _) h3
   exact⟨_,T,H,Z0b (by simp[kind,ho]) (by simp only[Z02,Z0p,ho,Z06 hx,a1,b1,e1,Z4h,ht,hz,a2,b2]),hR,h4⟩
noncomputable def Znk(kk:IntKind)(g:Tre AV d->AV)(s:OpF d):OpF d:=λforc E T k=>onNat (g E) (λ_ m=>iff' (Nat.ble m (kmx kk)) (k (.int kk (.ofNat m)) T) (s forc E T k)) (s forc E T k)
theorem Zkl{src dst:TypeId}{x:Operand}{kk:IntKind}{td:TypeDesc}{g:Tre AV d->AV}{s:OpF d}(ho:o.op = .convert src dst x)(hs:P.underlying src=some td)(hd:P.underlying dst=some (.int kk))(hg:Z0H gl d n x=some g)(hsl:Z1n P gl d n o s):Z1n P gl d n o (Znk kk g s):=by
 intro forc orc E T k out H hO hR h
 rcases Z1H h with ⟨k0,m,e,h1⟩|h1
 · cases hb:Nat.ble m (kmx kk) with
   |true =>
    rw[hb]at h1
    have hw:=Zcy (Y03 hb)
    have hw':kk.wrap (Int.ofNat m)=Int.ofNat m:=hw
    exact⟨_,T,H,Z0b (by simp[kind,ho]) (by simp only[Z02,Z0p,ho,Z06 hg,e,ZdX,hs,hd,hw']),hR,h1⟩
   |false =>
    rw[hb]at h1
    exact hsl forc orc E T k out H hO hR h1
 ·exact hsl forc orc E T k out H hO hR h1
noncomputable def Zmn(s:List UInt8):List AV:=List.rec [] (λb _ ih=>.int .u8 (Int.ofNat (UInt8.toNat b))::ih) s
theorem Zf4:∀s:List UInt8,Zmn s=s.map λb=>.int .u8 b.toNat
 |[]=>rfl
 |b::s=>by show _::Zmn s=_;rw[Zf4 s];rfl
noncomputable def ZmY(g:Tre AV d->AV):OpF d:=λ_ E T k=>Z4b (g E) (λs=>Z0Y (ZhO s) λm=>Z5L (Zmn s) λcs=>k (.rs m 1 cs) T) none
theorem Zjc{src dst x:_}{e:TypeId}{g:Tre AV d->AV}(ho:o.op = .convert src dst x)(hs:P.underlying src=some .string)(hd:P.underlying dst=some (.slice e))(he:P.underlying e=some (.int .u8))(hg:Z0H gl d n x=some g):Z1n P gl d n o (ZmY g):=by
 intro forc orc E T k out H hO hR h
 rcases Z26 h with ⟨s,e1,h1⟩|h1<;>try (cases h1;done)
 rw[Z13,Z2f,Zf4,Z38]at h1
 refine⟨_,T,H,?_,hR,h1⟩
 rw[Z4u (by simp[kind,ho])]
 simp[Z02,Z0p,Z31,ho,Z06 hg,e1,ZdX,hs,hd,Z7z,he]
noncomputable def Zmj(v:AV):Bool:=Zbk v (λ_=>false) (Z6T v (λ_=>false) true)
theorem Zjz(v:AV):Zmj v=one v:=by cases v<;>rfl
noncomputable def ZcW(l:List AV):Bool:=List.rec true (λv _ ih=>iff' (Zmj v) ih false) l
theorem Z7t:∀l:List AV,ZcW l=l.all one
 |[]=>rfl
 |v::l=>by
  show iff' (Zmj v) (ZcW l) false=_
  rw[Z7t l,Zjz,List.all_cons,Z22];cases one v<;>simp
noncomputable def wrF(a:AV)(vs:List AV)(T:TH)(f:TH->Res):Res :=
 onPtr a (λb off=>Z17 (T.get b) (λfam sh cs ty=>iff' (ZcW vs) (ZkN cs off vs (λcs'=>Zl8 T b ⟨true,fam,sh,.cells cs' ty⟩ f) none) none) none) (λ_=>none) none
theorem Z9C{T:TH}{H:Z00}{a:AV}{vs:List AV}{f:TH->Res}{out:AV×TH}(hR:Rep T H)(h:wrF a vs T f=some out):∃T' H',wr H a vs=some H'/\Rep T' H'/\f T'=some out:=by
 unfold wrF at h
 rcases Z1p h with ⟨b,off,rfl,h⟩|⟨_,_,h⟩|h<;>try (cases h;done)
 replace h:Z17 (T.get b) _ none=some out:=h
 obtain⟨fam,sh,cs,ty,e2,h⟩:=Z16 h
 have e2:T.get b=⟨true,fam,sh,.cells cs ty⟩:=e2
 obtain⟨h1,h⟩:=Z05 h
 obtain⟨cs',h2,h⟩:=Z6A h
 rw[Z8V]at h
 have hH:=hR.obj b (by rw[e2])
 have hs:=hR.set' e2 (.cells cs' ty)
 rw[e2]at hH
 rw[Z7t]at h1
 exact⟨_,_,by simp only[wr,hH,h1,if_true,h2],hs,h⟩
noncomputable def Zmc(m:Nat)(ga gx:Tre AV d->AV):OpF d:=λ_ E T k =>
 frc1 (gx E) λv=>Zbk v (λcs=>iff' (Y00 (ZhO cs) m) (wrF (ga E) cs T λT'=>k (.tuple []) T') none) (iff' (Y00 1 m) (wrF (ga E) [v] T λT'=>k (.tuple []) T') none)
theorem Z8d{t:TypeId}{a x:Operand}(ho:o.op = .store t a x){ρ : Operand->Option AV}{orc:Orc}{H H':Z00}{u v:AV}(ha : ρ a=some u)(hx : ρ x=some v)(h:Z5T P t u v H=some H'):aop P orc ρ o H=some (.tuple [],H'):=by
 simp[aop,Z02,Z0p,Z31,ho,ha,hx,h]
theorem Zjb{t:TypeId}{a x:Operand}{m:Nat}{ga gx:Tre AV d->AV}(ho:o.op = .store t a x)(hm:tsz P t=some m)(ha:Z0H gl d n a=some ga)(hx:Z0H gl d n x=some gx):Z1n P gl d n o (Zmc m ga gx):=by
 intro forc orc E T k out H hO hR h
 simp only[Zmc,Z0r]at h
 rcases Z5l h with ⟨cs,e,h⟩|⟨hne,h⟩
 · obtain⟨h1,h⟩:=Z05 h
   have h1':=Y01 h1
   rw[Z38]at h1'
   obtain⟨T',H',g1,g2,g3⟩:=Z9C hR h
   exact⟨_,T',H',Z8d ho (Z06 ha) (Z06 hx) (by simp[Z5T,hm,e,AV.cells,h1',g1]),g2,g3⟩
 · obtain⟨h1,h⟩:=Z05 h
   have h1':=Y01 h1
   obtain⟨T',H',g1,g2,g3⟩:=Z9C hR h
   exact⟨_,T',H',Z8d ho (Z06 ha) (Z06 hx) (by simp[Z5T,hm,Z7n hne,<- h1',g1]),g2,g3⟩
end ops
end Go.Abs
end
section
namespace Go.Abs
open Go.RowKit
noncomputable def Zlq{α β : Type}(l:List α):(List α -> β) -> β:=List.rec (motive:=λ_=>(List α -> β) -> β) (λf=>f []) (λv _ ih f=>ih λr=>f (v::r)) l
theorem Z9d{α β : Type}:∀(l:List α)(f:List α -> β),Zlq l f=f l
 |[],f=>rfl
 |v::l,f=>by show Zlq l (λr=>f (v::r))=_;rw[Z9d l]
noncomputable def Zgz{α : Type}(l m:List α):List α:=List.rec m (λv _ ih=>v::ih) l
theorem Z5u{α : Type}:∀(l m:List α),Zgz l m=l++m
 |[],m=>rfl
 |v::l,m=>by show v::Zgz l m=_;rw[Z5u l];rfl
section ops
variable {P:Program} {gl:Z0n} {d n:Nat} {o:Oper}
noncomputable def cargs(gl:Z0n)(d n:Nat):List Operand->Option (Tre AV d->(List AV->Res)->Res)
 |[]=>some λ_ f=>f []
 |x::l=>match Z0H gl d n x,cargs gl d n l with|some g,some G=>some λE f=>frc1 (g E) λv=>G E λvs=>f (v::vs)|_,_=>none
theorem Z43:∀(l:List Operand)(G:Tre AV d->(List AV->Res)->Res),cargs gl d n l=some G->∀E f,∃vs,Z1E (Z4a gl d n E) l=some vs/\G E f=f vs
 |[],G,h,E,f=>by simp[cargs]at h;subst h;exact⟨[],rfl,rfl⟩
 |x::l,G,h,E,f=>by
  simp only[cargs]at h
  split at h<;>simp at h
  rename_i g G' hg hG
  subst h
  obtain⟨vs,h1,h2⟩:=Z43 l G' hG E (λvs=>f (g E::vs))
  exact⟨g E::vs,by simp[Z1E,Z06 hg,h1],by simp only[Z0r];exact h2⟩
noncomputable def ZdL(r:Res)(k:Knt):Res:=Option.rec none (λp=>Prod.rec (λv T=>k v T) p) r
theorem Z8w{r:Res}{k:Knt}{out:AV×TH}(h:ZdL r k=some out):∃v T,r=some (v,T)/\k v T=some out:=by
 cases r with
 |none=>cases h
 |some p=>obtain⟨v,T⟩:=p;exact⟨v,T,rfl,h⟩
noncomputable def ZlC(g:Nat)(G:Tre AV d->(List AV->Res)->Res):OpF d:=λforc E T k=>G E λvs=>ZdL (forc g vs T) k
theorem Zih{c:Call}{g:Nat}{G:Tre AV d->(List AV->Res)->Res}(ho:o.op = .call c)(hc:c.callee = .value (.func g))(hb:Z0k P g=true)(hG:cargs gl d n c.args.toList=some G):Z1n P gl d n o (ZlC g G):=by
 intro forc orc E T k out H hO hR h
 obtain⟨vs,h1,h2⟩:=Z43 _ _ hG E (λvs=>ZdL (forc g vs T) k)
 have h:G E (λvs=>ZdL (forc g vs T) k)=some out:=h
 rw[h2]at h
 obtain⟨v,T',h3,h4⟩:=Z8w h
 obtain⟨H',h5,h6⟩:=hO g vs T v T' h3 H hR
 refine⟨v,T',H',?_,h6,h4⟩
 have hf:Z4a gl d n E (.func g)=some (.func (.func g) [] []):=rfl
 simp[aop,ho,callee,hc,hf,h1,Z0e,hb,h5]
noncomputable def fnG(fn:Fn)(f:Nat->Res):Res:=match fn with | .func g=>f g|_=>none
noncomputable def Zkq(P:Program)(gf:Tre AV d->AV)(G:Tre AV d->(List AV->Res)->Res):OpF d:=λforc E T k =>
 onFunc (gf E) (λfn a b=>G E λvs=>fnG fn λg=>iff' (Z0k P g) (ZdL (forc g (Zgz a (Zgz vs b)) T) k) none) none
theorem Zii{c:Call}{f:Operand}{gf:Tre AV d->AV}{G:Tre AV d->(List AV->Res)->Res}(ho:o.op = .call c)(hc:c.callee = .value f)(hf:Z0H gl d n f=some gf)(hG:cargs gl d n c.args.toList=some G):Z1n P gl d n o (Zkq P gf G):=by
 intro forc orc E T k out H hO hR h
 unfold Zkq at h
 rcases Zbi h with ⟨fn,a,b,e,h⟩|h<;>try (cases h;done)
 obtain⟨vs,h1,h2⟩:=Z43 _ _ hG E (λvs=>fnG fn λg=>iff' (Z0k P g) (ZdL (forc g (Zgz a (Zgz vs b)) T) k) none)
 rw[h2]at h
 unfold fnG at h
 split at h<;>try (cases h;done)
 rename_i g
 obtain⟨hb,h⟩:=Z05 h
 obtain⟨v,T',h3,h4⟩:=Z8w h
 obtain⟨H',h5,h6⟩:=hO _ _ _ _ _ h3 H hR
 refine⟨v,T',H',?_,h6,h4⟩
 rw[Z5u,Z5u]at h5
 simp[aop,ho,callee,hc,Z06 hf,e,h1,Z0e,hb,h5]
noncomputable def xcF(z:Nat)(x:AV)(T:TH)(f:Nat->List AV->Res):Res :=
 Z1k x (λb off len _ z'=>iff' (Y00 z' z) (Z17 (T.get b) (λ_ _ cs _=>tkR (Nat.mul len z) (Z7K cs off) (λl=>f len l) none) none) none) (λm z' cs=>iff' (Y00 z' z) (f m cs) none) (f 0 [])
  (Z4b x (λs=>iff' (Y00 z 1) (frcVL (s.map λb=>.int .u8 b.toNat) λl=>Z2l (ZhO s) λm=>f m l) none) none)
theorem Zis{z:Nat}{x:AV}{T:TH}{H:Z00}{f:Nat->List AV->Res}{out:AV×TH}(hR:Rep T H)(h:xcF z x T f=some out):∃m xs,Z1f H z x=some (m,xs)/\f m xs=some out:=by
 unfold xcF at h
 rcases Z0C h with ⟨b,off,l,c,z',e1,h3⟩|⟨m,z',cs,e1,h3⟩|⟨e1,h3⟩|h3
 · obtain⟨h1,h4⟩:=Z05 h3
   have hz:=Y01 h1
   replace h4:Z17 (T.get b) _ none=some out:=h4
   obtain⟨fam,sh,cs,ty,e2,h5⟩:=Z16 h4
   have e2:T.get b=⟨true,fam,sh,.cells cs ty⟩:=e2
   obtain⟨r,h2,h6⟩:=Z4I h5
   have hH:=hR.obj b (by rw[e2])
   rw[e2]at hH
   rw[Z1P]at h2
   have h2':tk (l*z) (cs.drop off)=some r:=h2
   exact⟨l,r,by simp[Z1f,rd,hH,h2',e1,hz],h6⟩
 · obtain⟨h1,h4⟩:=Z05 h3
   have hz:=Y01 h1
   exact⟨m,cs,by simp[Z1f,e1,hz],h4⟩
 ·exact⟨0,[],by simp[Z1f,e1],h3⟩
 · rcases Z26 h3 with ⟨s,e1,h4⟩|h4<;>try (cases h4;done)
   obtain⟨h1,h5⟩:=Z05 h4
   have hz:=Y01 h1
   rw[frcVL_eq,Z0q,Z38]at h5
   exact⟨_,_,by simp[Z1f,e1,hz],h5⟩
noncomputable def Zne(T:TH)(b fam sh:Nat)(cs:List AV)(ty:TypeId)(f:Nat->TH->Res):Res :=
 Zmk T λsz tr=>iff' (Nat.blt sz 4096) (Z3Q 12 b Z0z tr λtr1=>Z3Q 12 sz ⟨true,fam,sh,.cells cs ty⟩ tr1 λtr2=>Z2l (Nat.add sz 1) λs=>f sz ⟨s,tr2⟩) none
theorem Zfm {T : TH} {b fam sh : Nat} {cs : List AV} {ty : TypeId} {f : Nat -> TH -> Res} {out : AV × TH} (h : Zne T b fam sh cs ty f = some out) :
  T.sz<4096/\f T.sz ((T.set b Z0z).push ⟨true,fam,sh,.cells cs ty⟩)=some out:=by
 obtain⟨sz,tr⟩:=T
 obtain⟨h1,h2⟩:=Z05 (show iff' (Nat.blt sz 4096) (Z3Q 12 b Z0z tr λtr1=>Z3Q 12 sz ⟨true,fam,sh,.cells cs ty⟩ tr1 λtr2=>Z2l (Nat.add sz 1) λs=>f sz ⟨s,tr2⟩) none=some out from h)
 rw[Z2W,Z2W,Z0q]at h2
 exact⟨by simpa[Y02]using h1,h2⟩
theorem Rep.grow' {T : TH} {H : Z00} (h : Rep T H) {b fam sh0 : Nat} {bd0 : ABody} (e : T.get b = ⟨true, fam, sh0, bd0⟩) (hs : T.sz < 4096) (en sh : Nat) (bd : ABody) :
  Rep ((T.set b Z0z).push ⟨true,fam,sh,bd⟩) (Z8s fam en H++[⟨true,fam,sh,bd⟩]):=by
 have:=h.grow (b:=b) (by rw[e]) hs en sh bd
 simp only[e]at this
 exact this
noncomputable def Zb2{α : Type}(l:List α):Bool:=List.rec false (λ_ _ _=>true) l
theorem Z7Y{α : Type}(l:List α)(k:Nat):Zb2 (l.drop k)=true ↔ k<l.length:=by
 have:∀m:List α,Zb2 m=true ↔ 0<m.length:=λm=>by cases m<;>simp[Zb2]
 rw[this,List.length_drop];omega
noncomputable def ZmP(e:TypeId)(by' b off len z' lm:Nat)(xs:List AV)(fam sh:Nat)(cs:List AV)(ty:TypeId)(T:TH)(k:Knt):Res :=
 iff' (Nat.ble lm 1099511627776) (iff' (Nat.ble (Nat.mul lm by') 70368744177664)
  (iff' (Y00 (Nat.add off (Nat.mul len z')) (ZhO cs)) (iff' (Y00 ty e) (iff' (ZcW xs)
    (Zlq (Zgz (Z7K cs off) xs) λcs'=>Z2l (Nat.add sh off) λso=>Zne T b fam so cs' ty λa T'=>k (.slice a 0 lm lm z') T') none) none) none) none) none
noncomputable def ZmQ(e:TypeId)(z by':Nat)(s:AV)(m:Nat)(xs:List AV)(T:TH)(k:Knt):Res :=
 iff' (Y00 m 0) (Z1k s (λb o l c z'=>k (.slice b o l c z') T) (λm' z' cs=>k (.rs m' z' cs) T) (k .nslice T) none)
  (Z1k s (fun b off len cap z' => iff' (Y00 z' z) (Z2l (Nat.add len m) fun lm => Z17 (T.get b) (fun fam sh cs ty => iff' (Nat.ble lm cap)
     (iff' (Zb2 (Z7K cs (Nat.add off (Nat.mul len z')))) (wrF (.ptr b (Nat.add off (Nat.mul len z'))) xs T λT'=>k (.slice b off lm cap z') T') (ZmP e by' b off len z' lm xs fam sh cs ty T k))
     (ZmP e by' b off len z' lm xs fam sh cs ty T k)) none) none)
    (λ_ _ _=>none) (iff' (Nat.ble m 1099511627776) (iff' (Nat.ble (Nat.mul m by') 70368744177664) (Zhu (λa=>.slice a 0 m m z) (.cells xs e) k T) none) none) none)
theorem Z0N{γ : Type}{b:Bool}{x y:Option γ}{out : γ}(h:iff' b x y=some out):(b=true/\x=some out)\/(b=false/\y=some out):=by
 cases b
 ·exact .inr ⟨rfl,h⟩
 ·exact .inl ⟨rfl,h⟩
theorem Zkz {e t t2 : TypeId} {i : TypeInfo} {u : AV} {s x : AV} {m : Nat} {xs : List AV} {T : TH} {H : Z00} {k : Knt} {out : AV × TH} (hu : P.underlying t = some (.slice e)) (hi : P.info? e = some i) (hz : Z1j P e = some u) (hx2 : apx P t2 = true) (hsz : u.cells.length = i.size)
  (hR:Rep T H) (hxs:Z1f H i.size x=some (m,xs)) (h:ZmQ e i.size i.bytes s m xs T k=some out):∃r T' H',Z0B P t t2 s x H=some (r,H')/\Rep T' H'/\k r T'=some out:=by
 have hcond:(apx P t2&&u.cells.length==i.size)=true:=by simp[hx2,hsz]
 unfold ZmQ at h
 rcases Z0N h with ⟨h0,h⟩|⟨h0,h⟩
 · have h0':=Y01 h0
   subst h0'
   rcases Z0C h with ⟨b,off,l,c,z',rfl,h⟩|⟨l,z',cs,rfl,h⟩|⟨rfl,h⟩|h<;>try (cases h;done)
   all_goals exact⟨_,T,H,by simp only[Z0B,hu,hi,hz,hcond,hxs,if_true],hR,h⟩
 · have h0':¬m=0:=by intro e;subst e;simp at h0
   rcases Z0C h with ⟨b,off,l,c,z',rfl,h⟩|⟨_,_,_,_,h⟩|⟨rfl,h⟩|h<;>try (cases h;done)
   · obtain⟨h1,h⟩:=Z05 h
     have:=Y01 h1;subst this
     rw[Z0q]at h
     replace h:Z17 (T.get b) _ none=some out:=h
     obtain⟨fam,sh,cs,ty,e2,h⟩:=Z16 h
     have e2:T.get b=⟨true,fam,sh,.cells cs ty⟩:=e2
     have hH:=hR.obj b (by rw[e2])
     rw[e2]at hH
     have hcl:ZiS H b=cs.length:=by simp[ZiS,hH]
     have grow:¬(l+m<=c/\off+l*i.size<ZiS H b)->ZmP e i.bytes b off l i.size (Nat.add l m) xs fam sh cs ty T k=some out->∃r T' H',Z0B P t t2 (.slice b off l c i.size) x H=some (r,H')/\Rep T' H'/\k r T'=some out:=by
      intro h2' h
      obtain⟨h3,h⟩:=Z05 h
      obtain⟨h4,h⟩:=Z05 h
      have h3':l+m<=1099511627776:=Y03 h3
      have h4':(l+m)*i.bytes<=70368744177664:=Y03 h4
      obtain⟨h5,h⟩:=Z05 h
      obtain⟨h6,h⟩:=Z05 h
      obtain⟨h7,h⟩:=Z05 h
      have h5':off+l*i.size=cs.length:=by rw[<- Z38];exact Y01 h5
      have h6':=Y01 h6
      rw[Z7t]at h7
      rw[Z9d,Z0q,Z5u,Z1P]at h
      obtain⟨h8,h⟩:=Zfm h
      have hg:=hR.grow' e2 h8 (sh+cs.length) (sh+off) (.cells (cs.drop off++xs) ty)
      refine⟨.slice H.length 0 (l+m) (l+m) i.size,_,_,?_,hg,?_⟩
      · simp only [Z0B, hu, hi, hz, hcond, hxs, if_true, if_neg h0', if_neg h2', if_pos (show l + m <= 1099511627776 /\ (l + m) * i.bytes <= 70368744177664 from ⟨h3', h4'⟩), hH,
         if_pos (show off+l*i.size=cs.length/\ty=e/\xs.all one=true from ⟨h5',h6',h7⟩)]
      ·rw[<- hR.sz];exact h
     rcases Z0N h with ⟨h2,h⟩|⟨h2,h⟩
     · have h2':l+m<=c:=Y03 h2
       rw[Z1P]at h
       rcases Z0N h with ⟨h9,h⟩|⟨h9,h⟩
       · have h9':off+l*i.size<ZiS H b:=by rw[hcl];exact (Z7Y cs _).1 h9
         obtain⟨T',H',g1,g2,g3⟩:=Z9C hR h
         have g1':wr H (.ptr b (off+l*i.size)) xs=some H':=g1
         exact⟨_,T',H',by simp only[Z0B,hu,hi,hz,hcond,hxs,if_true,if_neg h0',if_pos (show l+m<=c/\off+l*i.size<ZiS H b from ⟨h2',h9'⟩),g1'];rfl,g2,g3⟩
       · refine grow (λhc=>?_) h
         have:Zb2 (cs.drop (off+l*i.size))=true:=(Z7Y cs _).2 (by rw[<- hcl];exact hc.2)
         rw[show Zb2 (List.drop (Nat.add off (Nat.mul l i.size)) cs)=Zb2 (cs.drop (off+l*i.size)) from rfl,this]at h9
         cases h9
     · have h2':¬l+m<=c:=λhle=>by rw[show Nat.ble (Nat.add l m) c=true from Y0b hle]at h2;cases h2
       exact grow (λhc=>h2' hc.1) h
   · obtain⟨h3,h⟩:=Z05 h
     obtain⟨h4,h⟩:=Z05 h
     have h3':m<=1099511627776:=Y03 h3
     have h4':m*i.bytes<=70368744177664:=Y03 h4
     obtain⟨h5,h⟩:=Z6Z h
     rw[Z0r]at h
     refine⟨.slice H.length 0 m m i.size,_,_,?_,hR.push h5 (.cells xs e),?_⟩
     ·simp only[Z0B,hu,hi,hz,hcond,hxs,if_true,if_neg h0',if_pos (show m<=1099511627776/\m*i.bytes<=70368744177664 from ⟨h3',h4'⟩)];rfl
     ·rw[<- hR.sz];exact h
noncomputable def Znq(e:TypeId)(z by':Nat)(gs gx:Tre AV d->AV):OpF d:=λ_ E T k=>xcF z (gx E) T λm xs=>ZmQ e z by' (gs E) m xs T k
theorem ZgC{ρ : Operand->Option AV}{orc:Orc}{H:Z00}{c:Call}{b:Builtin}(ho:o.op = .call c)(hc:c.callee = .builtin b)(hb:b = .append\/b = .copy):aop P orc ρ o H=Z31 P ρ H o:=by
 rcases hb with rfl|rfl<;>simp[aop,Z02,Z0p,ho,hc,callee]
theorem Zky {c : Call} {s x : Operand} {t t2 e : TypeId} {i : TypeInfo} {u : AV} {gs gx : Tre AV d -> AV} (ho : o.op = .call c) (hc : c.callee = .builtin .append) (ha : c.args.toList = [s, x]) (ht : c.argTypes.toList = [t, t2])
  (hu:P.underlying t=some (.slice e)) (hi:P.info? e=some i) (hz:Z1j P e=some u) (hx2:apx P t2=true) (hsz:u.cells.length=i.size) (hs:Z0H gl d n s=some gs) (hx:Z0H gl d n x=some gx):Z1n P gl d n o (Znq e i.size i.bytes gs gx):=by
 intro forc orc E T k out H hO hR h
 obtain⟨m,xs,h1,h2⟩:=Zis hR h
 obtain⟨r,T',H',g1,g2,g3⟩:=Zkz hu hi hz hx2 hsz hR h1 h2
 refine⟨r,T',H',?_,g2,g3⟩
 rw[ZgC ho hc (.inl rfl)]
 simp[Z31,ho,hc,ha,ht,Z06 hs,Z06 hx,g1]
noncomputable def Znj(z:Nat)(gs gx:Tre AV d->AV):OpF d:=λ_ E T k=>xcF z (gx E) T λm xs=>Z1k (gs E)
 (λb off len _ z'=>iff' (Y00 z' z) (Z2l (Nat.min m len) λmn=>iff' (Y00 mn 0) (k (.int .i64 (.ofNat 0)) T) (tkR (Nat.mul mn z') xs (λcs=>wrF (.ptr b off) cs T λT'=>k (.int .i64 (.ofNat mn)) T') none)) none)
 (λ_ _ _=>none) (k (.int .i64 (.ofNat 0)) T) none
theorem Zkk {c : Call} {s x : Operand} {t t2 e : TypeId} {z : Nat} {gs gx : Tre AV d -> AV} (ho : o.op = .call c) (hc : c.callee = .builtin .copy) (ha : c.args.toList = [s, x]) (ht : c.argTypes.toList = [t, t2])
  (hu:P.underlying t=some (.slice e)) (hz:tsz P e=some z) (hs:Z0H gl d n s=some gs) (hx:Z0H gl d n x=some gx):Z1n P gl d n o (Znj z gs gx):=by
 intro forc orc E T k out H hO hR h
 obtain⟨m,xs,h1,h⟩:=Zis hR h
 have key:∀r H',ZbQ P t (gs E) (gx E) H=some (r,H')->aop P orc (Z4a gl d n E) o H=some (r,H'):=by
  intro r H' g
  rw[ZgC ho hc (.inr rfl)]
  simp[Z31,ho,hc,ha,ht,Z06 hs,Z06 hx,g]
 rcases Z0C h with ⟨b,off,l,cp,z',e1,h⟩|⟨_,_,_,_,h⟩|⟨e1,h⟩|h<;>try (cases h;done)
 · obtain⟨h2,h5⟩:=Z05 h
   have hzz:=Y01 h2
   rw[Z0q]at h5
   rcases Z0N h5 with ⟨h3,h6⟩|⟨h3,h6⟩
   · have h3':=Y01 h3
     exact⟨_,T,H,key _ _ (by simp only[ZbQ,hu,hz,h1,e1,hzz,if_true,if_pos h3'];rfl),hR,h6⟩
   · have h3':¬Nat.min m l=0:=λe=>by rw[e]at h3;simp at h3
     obtain⟨cs,h4,h7⟩:=Z4I h6
     have h4':tk (Nat.min m l*z') xs=some cs:=h4
     rw[hzz]at h4'
     obtain⟨T',H',g1,g2,g3⟩:=Z9C hR h7
     exact⟨_,T',H',key _ _ (by simp only[ZbQ,hu,hz,h1,e1,hzz,if_true,if_neg h3',h4',g1];rfl),g2,g3⟩
 ·exact⟨_,T,H,key _ _ (by simp only[ZbQ,hu,hz,h1,e1];rfl),hR,h⟩
noncomputable def ZmH(P:Program)(s t:TypeId)(g:Tre AV d->AV):OpF d:=λ_ E T k=>onPtr (g E) (λb off=>iff' (Z5U P s t 0 off [T.get b]) (k (.ptr b off) T) none) (λ_=>none) none
theorem Zgk{s t:TypeId}{x:Operand}{g:Tre AV d->AV}(ho:o.op = .convert s t x)(ht:(∃e,P.underlying t=some (.pointer e))\/P.underlying t=some .unsafePointer)(hg:Z0H gl d n x=some g):Z1n P gl d n o (ZmH P s t g):=by
 intro forc orc E T k out H hO hR h
 rcases Z1p h with ⟨b,off,e,h⟩|⟨_,_,h⟩|h<;>try (cases h;done)
 obtain⟨h1,h2⟩:=Z05 h
 have hal:(T.get b).alive=true:=by
  unfold Z5U at h1
  simp only[Y05]at h1
  split at h1
  ·rename_i ha _;exact ha
  ·cases h1
 have hH:=hR.obj b hal
 have h3:Z5U P s t b off H=true:=by
  unfold Z5U at h1⊢
  rw[hH];exact h1
 refine⟨.ptr b off,T,H,?_,hR,h2⟩
 rw[Z4u (by simp[kind,ho])]
 have hp:Z02 P (Z4a gl d n E) H o=none:=by simp[Z02,Z0p,ho,Z06 hg,e,ZdX]
 rw[hp]
 simp[Z31,ho,Z06 hg,e,Z7z,h3]
def Zi7(P:Program)(g:Nat):Bool:=match P.funcs[g]? with|some fn=>decide (fn.body.isNone=true/\fn.name = "internal/abi.NoEscape" /\ fn.origin = "")|none=>false
theorem ZdF{g:Nat}(h:Zi7 P g=true)(x:AV):Z7i P g [x]=some x/\Z0k P g=false:=by
 unfold Zi7 at h
 unfold Z7i Z0k
 split at h
 · rename_i fn hfn
   have h':=of_decide_eq_true h
   simp only[hfn]
   rw[if_pos h']
   refine⟨rfl,?_⟩
   cases hb:fn.body with
   |none=>rfl
   |some c=>have:=h'.1;rw[hb]at this;cases this
 ·cases h
noncomputable def Zdl(vs:List AV)(f:AV->Res):Res:=List.rec none (λv l _=>List.rec (f v) (λ_ _ _=>none) l) vs
theorem Z87{vs:List AV}{f:AV->Res}{out:AV×TH}(h:Zdl vs f=some out):∃v,vs=[v]/\f v=some out:=by
 match vs,h with
 |[v],h=>exact⟨v,rfl,h⟩
noncomputable def Zlw(G:Tre AV d->(List AV->Res)->Res):OpF d:=λ_ E T k=>G E λvs=>Zdl vs λv=>k v T
theorem Zi6{c:Call}{g:Nat}{G:Tre AV d->(List AV->Res)->Res}(ho:o.op = .call c)(hc:c.callee = .value (.func g))(hb:Zi7 P g=true)(hG:cargs gl d n c.args.toList=some G):Z1n P gl d n o (Zlw G):=by
 intro forc orc E T k out H hO hR h
 obtain⟨vs,h1,h2⟩:=Z43 _ _ hG E (λvs=>Zdl vs λv=>k v T)
 have h:G E (λvs=>Zdl vs λv=>k v T)=some out:=h
 rw[h2]at h
 obtain⟨v,rfl,h3⟩:=Z87 h
 obtain⟨e1,e2⟩:=ZdF hb v
 refine⟨v,T,H,?_,hR,h3⟩
 have hf:Z4a gl d n E (.func g)=some (.func (.func g) [] []):=rfl
 simp[aop,ho,callee,hc,hf,h1,Z0e,e1,e2]
theorem ZdG{g:Nat}{e:TypeId}(h:Zal P g=some e)(vs:List AV):Z7i P g vs=none/\Z9j P g vs=none/\Z0k P g=false:=by
 unfold Zal at h
 unfold Z7i Z9j Z0k
 split at h<;>try (cases h;done)
 rename_i fn hfn
 split at h<;>try (cases h;done)
 rename_i hc
 refine⟨?_,?_,?_⟩
 ·rw[if_neg];rintro⟨_,h2,_⟩;rw[hc.2.1]at h2;exact absurd h2 (by decide)
 ·rw[if_neg (by rintro⟨_,h2,_⟩;rw[hc.2.1]at h2;exact absurd h2 (by decide)),if_neg (by rintro⟨_,h2,_⟩;rw[hc.2.1]at h2;exact absurd h2 (by decide))]
 · cases hb:fn.body with
   |none=>rfl
   |some c=>have:=hc.1;rw[hb]at this;cases this
def Z9i(P:Program)(g:Nat):Bool:=match P.funcs[g]? with|some fn=>decide (fn.body.isNone=true/\fn.name = "internal/bytealg.IndexByteString" /\ fn.origin = "")|none=>false
theorem Zam{g:Nat}(h:Z9i P g=true)(s:List UInt8)(m:Nat):Z7i P g [.str s,.int .u8 (.ofNat m)]=none/\Z9j P g [.str s,.int .u8 (.ofNat m)]=some (.int .i64 (ixB (UInt8.ofNat m) s 0))/\Z0k P g=false:=by
 unfold Z9i at h
 unfold Z7i Z9j Z0k
 split at h<;>try (cases h;done)
 rename_i fn hfn
 have hc:=of_decide_eq_true h
 simp only[hfn]
 refine⟨?_,?_,?_⟩
 ·rw[if_neg];rintro⟨_,h2,_⟩;rw[hc.2.1]at h2;exact absurd h2 (by decide)
 ·rw[if_pos hc]
 · cases hb:fn.body with
   |none=>rfl
   |some c=>have:=hc.1;rw[hb]at this;cases this
noncomputable def Zjv(vs:List AV)(f:AV->AV->Res):Res:=List.rec none (λv l _=>List.rec none (λw l _=>List.rec (f v w) (λ_ _ _=>none) l) l) vs
theorem Zdk{vs:List AV}{f:AV->AV->Res}{out:AV×TH}(h:Zjv vs f=some out):∃v w,vs=[v,w]/\f v w=some out:=by
 match vs,h with
 |[v,w],h=>exact⟨v,w,rfl,h⟩
noncomputable def Zmu(G:Tre AV d->(List AV->Res)->Res):OpF d:=λ_ E T k=>G E λvs=>Zjv vs λv w=>Z4b v (λs=>onNat w (λkk m=>iff' (Y00 (kix kk) (kix .u8)) (Z5Z (.int .i64 (ixB (UInt8.ofNat m) s 0)) λr=>k r T) none) none) none
theorem ZjS{c:Call}{g:Nat}{G:Tre AV d->(List AV->Res)->Res}(ho:o.op = .call c)(hc:c.callee = .value (.func g))(he:Z9i P g=true)(hG:cargs gl d n c.args.toList=some G):Z1n P gl d n o (Zmu G):=by
 intro forc orc E T k out H hO hR h
 obtain⟨vs,h1,h2⟩:=Z43 _ _ hG E (λvs=>Zjv vs λv w=>Z4b v (λs=>onNat w (λkk m=>iff' (Y00 (kix kk) (kix .u8)) (Z5Z (.int .i64 (ixB (UInt8.ofNat m) s 0)) λr=>k r T) none) none) none)
 unfold Zmu at h
 rw[h2]at h
 obtain⟨v,w,rfl,h3⟩:=Zdk h
 rcases Z26 h3 with ⟨s,rfl,h4⟩|h4<;>try (cases h4;done)
 rcases Z1H h4 with ⟨kk,m,rfl,h5⟩|h5<;>try (cases h5;done)
 obtain⟨h6,h7⟩:=Z05 h5
 have hk:=Z74 h6
 subst hk
 rw[Z1x]at h7
 obtain⟨e1,e2,e3⟩:=Zam he s m
 refine⟨_,T,H,?_,hR,h7⟩
 have hf:Z4a gl d n E (.func g)=some (.func (.func g) [] []):=rfl
 have e1':Z7i P g [.str s,.int .u8 (Int.ofNat m)]=none:=e1
 have e2':Z9j P g [.str s,.int .u8 (Int.ofNat m)]=some (.int .i64 (ixB (UInt8.ofNat m) s 0)):=e2
 simp only[aop,ho,callee,hc,hf,h1,Z0e,e3,List.nil_append,List.append_nil,Y0f,if_false,e1',e2']
noncomputable def Zmm(e:TypeId)(G:Tre AV d->(List AV->Res)->Res):OpF d:=λ_ E T k=>G E λvs=>Zdl vs λv=>onNat v (λkk m=>iff' (Y00 (kix kk) 3) (iff' (Nat.ble m 281474976710656) (Zhu (λa=>.slice a 0 m m 1) (.cells [] e) k T) none) none) none
theorem ZjJ{c:Call}{g:Nat}{e:TypeId}{G:Tre AV d->(List AV->Res)->Res}(ho:o.op = .call c)(hc:c.callee = .value (.func g))(he:Zal P g=some e)(hG:cargs gl d n c.args.toList=some G):Z1n P gl d n o (Zmm e G):=by
 intro forc orc E T k out H hO hR h
 obtain⟨vs,h1,h2⟩:=Z43 _ _ hG E (λvs=>Zdl vs λv=>onNat v (λkk m=>iff' (Y00 (kix kk) 3) (iff' (Nat.ble m 281474976710656) (Zhu (λa=>.slice a 0 m m 1) (.cells [] e) k T) none) none) none)
 unfold Zmm at h
 rw[h2]at h
 obtain⟨v,rfl,h3⟩:=Z87 h
 rcases Z1H h3 with ⟨kk,m,rfl,h4⟩|h4<;>try (cases h4;done)
 obtain⟨h5,h6⟩:=Z05 h4
 have hk:kk = .i64:=Z74 (k':=.i64) h5
 subst hk
 obtain⟨h7,h8⟩:=Z05 h6
 have h7':m<=281474976710656:=Y03 h7
 obtain⟨h9,h10⟩:=Z6Z h8
 rw[Z0r]at h10
 obtain⟨e1,e4,e2⟩:=ZdG he [.int .i64 (Int.ofNat m)]
 refine⟨.slice H.length 0 m m 1,_,_,?_,hR.push h9 (.cells [] e),?_⟩
 · have hf:Z4a gl d n E (.func g)=some (.func (.func g) [] []):=rfl
   simp only[aop,ho,callee,hc,hf,h1,Z0e,e2,List.nil_append,List.append_nil,Y0f,if_false,e1,e4,he,if_pos h7',hR.sz]
 ·rw[<- hR.sz];exact h10
noncomputable def Znm(g:Tre AV d->AV):OpF d:=λ_ E T k=>Z1k (g E) (λ_ _ _ _ _=>none) (λ_ _ _=>none) (k (.int .i64 (.ofNat 0)) T) none
theorem Zkp{c:Call}{x:Operand}{t e:TypeId}{g:Tre AV d->AV}(ho:o.op = .call c)(hc:c.callee = .builtin .cap)(ha:c.args.toList=[x])(ht:c.argTypes.toList=[t])(hu:P.underlying t=some (.slice e))(hg:Z0H gl d n x=some g):Z1n P gl d n o (Znm g):=by
 intro forc orc E T k out H hO hR h
 have ha':aop P orc (Z4a gl d n E) o H=Z31 P (Z4a gl d n E) H o:=by simp[aop,Z02,Z0p,ho,hc,callee]
 rcases Z0C h with ⟨_,_,_,_,_,_,h⟩|⟨_,_,_,_,h⟩|⟨e,h⟩|h<;>try (cases h;done)
 refine⟨_,T,H,?_,hR,h⟩
 rw[ha'];simp[Z31,ho,hc,ha,ht,hu,Z06 hg,e]
noncomputable def Znl(zs:List AV)(z:Nat)(g:Tre AV d->AV):OpF d:=λ_ E T k=>Z1k (g E)
 (λb off len _ z'=>iff' (Y00 len 0) (k (.tuple []) T) (iff' (Y00 z z') (wrF (.ptr b off) (Z3W len zs) T λT'=>k (.tuple []) T') none)) (λ_ _ _=>none) (k (.tuple []) T) none
theorem Zkm{c:Call}{x:Operand}{t e:TypeId}{u:AV}{g:Tre AV d->AV}(ho:o.op = .call c)(hc:c.callee = .builtin .clear)(ha:c.args.toList=[x])(ht:c.argTypes.toList=[t])(hu:P.underlying t=some (.slice e))(hz:Z1j P e=some u)(hg:Z0H gl d n x=some g):Z1n P gl d n o (Znl u.cells u.cells.length g):=by
 intro forc orc E T k out H hO hR h
 have ha':aop P orc (Z4a gl d n E) o H=Z31 P (Z4a gl d n E) H o:=by simp[aop,Z02,Z0p,ho,hc,callee]
 have key:∀H',Z7A P t (g E) H=some H'->aop P orc (Z4a gl d n E) o H=some (.tuple [],H'):=by
  intro H' q
  rw[ha'];simp[Z31,ho,hc,ha,ht,Z06 hg,q]
 rcases Z0C h with ⟨b,off,l,cp,z',e1,h⟩|⟨_,_,_,_,h⟩|⟨e1,h⟩|h<;>try (cases h;done)
 · rcases Z0N h with ⟨h1,h2⟩|⟨h1,h2⟩
   · have h1':=Y01 h1
     exact⟨_,T,H,key _ (by simp only[Z7A,hu,hz,e1,if_pos h1']),hR,h2⟩
   · obtain⟨h3,h4⟩:=Z05 h2
     have h3':=Y01 h3
     have h1':¬l=0:=λe=>by rw[e]at h1;cases h1
     obtain⟨T',H',g1,g2,g3⟩:=Z9C hR h4
     exact⟨_,T',H',key _ (by simp only[Z7A,hu,hz,e1,if_neg h1',if_pos h3'];exact g1),g2,g3⟩
 ·exact⟨_,T,H,key _ (by simp only[Z7A,hu,hz,e1]),hR,h⟩
noncomputable def Zn1(g:Tre AV d->AV):OpF d:=λ_ E T k=>Z1k (g E) (λb off _ cap _=>Nat.rec none (λ_ _=>k (.ptr b off) T) cap) (λ_ _ _=>none) (k .nptr T) none
theorem Zji{c:Call}{x:Operand}{g:Tre AV d->AV}(ho:o.op = .call c)(hc:c.callee = .builtin .unsafeSliceData)(ha:c.args.toList=[x])(hg:Z0H gl d n x=some g):Z1n P gl d n o (Zn1 g):=by
 intro forc orc E T k out H hO hR h
 have ha':aop P orc (Z4a gl d n E) o H=Z31 P (Z4a gl d n E) H o:=by simp[aop,Z02,Z0p,ho,hc,callee]
 rcases Z0C h with ⟨b,off,l,cp,z,e,h⟩|⟨_,_,_,_,h⟩|⟨e,h⟩|h<;>try (cases h;done)
 · cases cp with
   |zero=>cases h
   |succ cp =>
    refine⟨.ptr b off,T,H,?_,hR,h⟩
    rw[ha'];simp[Z31,ho,hc,ha,Z06 hg,e]
 · refine⟨.nptr,T,H,?_,hR,h⟩
   rw[ha'];simp[Z31,ho,hc,ha,Z06 hg,e]
noncomputable def ZmU(P:Program)(t:TypeId)(gx gn:Tre AV d->AV):OpF d:=λ_ E T k=>onNat (gn E) (λkk m=>iff' (Y00 (kix kk) 3) (frc1 (gx E) λp=>match m with
 |0=>(match p with | .nptr=>k (.str []) T | .ptr _ _=>k (.str []) T|_=>none)
 |m+1=>(match p with
  | .ptr b 0=>(match Z7w P t (.ptr 0 0) (m+1) [T.get b] with|some (r,_)=>Z5Z r λr=>Zl8 T b Z0z λT'=>k r T'|none=>none)
  |_=>none)) none) none
theorem ZgI{t:TypeId}{b m:Nat}{o:AObj}{H H1:Z00}{r:AV}(hb:H[b]? = some o)(h:Z7w P t (.ptr 0 0) (m+1) [o]=some (r,H1)):o.alive=true/\Z7w P t (.ptr b 0) (m+1) H=some (r,(Z2o b o.fam H).set b o.dead):=by
 unfold Z7w at h⊢
 simp only[Y05]at h
 simp only[hb]
 split at h<;>try (simp at h;done)
 rename_i cs ty hal hbd
 split at h<;>try (simp at h;done)
 rename_i e ht
 split at h<;>try (simp at h;done)
 rename_i hc
 split at h<;>try (simp at h;done)
 rename_i l hl
 split at h<;>simp at h
 rename_i bs hbs
 obtain⟨rfl,_⟩:=h
 refine⟨hal,?_⟩
 simp only[hal,hbd,ht,if_pos hc,hl,hbs]
theorem Zj2 {c : Call} {x y : Operand} {t t2 : TypeId} {gx gn : Tre AV d -> AV} (ho : o.op = .call c) (hc : c.callee = .builtin .unsafeString) (ha : c.args.toList = [x, y]) (ht : c.argTypes.toList = [t, t2]) (hx : Z0H gl d n x = some gx) (hy : Z0H gl d n y = some gn) :
  Z1n P gl d n o (ZmU P t gx gn):=by
 intro forc orc E T k out H hO hR h
 have ha':aop P orc (Z4a gl d n E) o H=Z31 P (Z4a gl d n E) H o:=by simp[aop,Z02,Z0p,ho,hc,callee]
 rcases Z1H h with ⟨kk,m,e1,h⟩|h<;>try (cases h;done)
 obtain⟨h1,h⟩:=Z05 h
 have hk:kk = .i64:=by cases kk<;>first|rfl|cases h1
 subst hk
 simp only[Z0r]at h
 have key:∀r H',Z7w P t (gx E) m H=some (r,H')->aop P orc (Z4a gl d n E) o H=some (r,H'):=by
  intro r H' g
  rw[ha'];simp only[Z31,ho,hc,ha,ht,Z06 hx,Z06 hy,e1,g]
 cases m with
 |zero =>
  simp only at h
  split at h<;>try (cases h;done)
  ·rename_i e;exact⟨_,T,H,key _ _ (by simp[e,Z7w]),hR,h⟩
  ·rename_i e;exact⟨_,T,H,key _ _ (by simp[e,Z7w]),hR,h⟩
 |succ m =>
  simp only at h
  split at h<;>try (cases h;done)
  rename_i b e
  split at h<;>try (cases h;done)
  rename_i r H1 hu
  rw[Z1x,Z8V]at h
  have hal:(T.get b).alive=true:=by
   unfold Z7w at hu
   simp only[Y05]at hu
   split at hu
   ·rename_i ha _;exact ha
   ·cases hu
  have hH:=hR.obj b hal
  obtain⟨_,g1⟩:=ZgI hH hu
  exact⟨r,_,_,key _ _ (by rw[e];exact g1),hR.lose hal,h⟩
noncomputable def ZmE(g:Tre AV d->AV):OpF d:=λ_ E T k=>frc1 (g E) λu=>match u with
 | .slice b off len cap z=>(match Z5c (.slice 0 off len cap z) [T.get b] with|some r=>Z5Z r λr=>k r T|none=>none)
 |_=>none
theorem ZdW{b off len cap z:Nat}{o:AObj}{H:Z00}{r:AV}(hb:H[b]? = some o)(h:Z5c (.slice 0 off len cap z) [o]=some r):Z5c (.slice b off len cap z) H=some r:=by
 unfold Z5c at h⊢
 simp only[Y05]at h
 simp only[hb]
 exact h
theorem Zki{src dst:TypeId}{x:Operand}{g:Tre AV d->AV}(ho:o.op = .convert src dst x)(hs:Z7y P src dst=true)(hx:Z0H gl d n x=some g):Z1n P gl d n o (ZmE g):=by
 intro forc orc E T k out H hO hR h
 unfold ZmE at h
 simp only[Z0r]at h
 split at h<;>try (cases h;done)
 rename_i b off len cap z e
 split at h<;>try (cases h;done)
 rename_i r hr
 rw[Z1x]at h
 have hal:(T.get b).alive=true:=by
  unfold Z5c at hr
  simp only[Y05]at hr
  split at hr
  · split at hr
    ·rename_i ha _;exact ha
    ·cases hr
  ·cases hr
 have hH:=hR.obj b hal
 refine⟨r,T,H,Z0b (by simp[kind,ho]) ?_,hR,h⟩
 unfold Z02
 simp only[ho,Z06 hx,e,hs,if_true]
 exact ZdW hH hr
def mvS(b:Nat):AV->AV
 | .slice _ o l c z=>.slice b o l c z
 |v=>v
noncomputable def Zme(P:Program)(gl:Z0n)(d n:Nat)(t:TypeId)(x:Operand)(lo hi:Option Operand):OpF d:=λ_ E T k=>match Z4a gl d n E x,Z5v (Z4a gl d n E) lo,Z5v (Z4a gl d n E) hi with
 |some u,some lo,some hi=>(match u with
  | .ptr b off=>(match Z2H P t (.ptr 0 off) lo hi [T.get b] with|some r=>Z5Z (mvS b r) λr=>k r T|none=>none)
  |_=>none)
 |_,_,_=>none
theorem ZbL{t:TypeId}{b off:Nat}{lo hi:Option AV}{o:AObj}{H:Z00}{r:AV}(hb:H[b]? = some o)(h:Z2H P t (.ptr 0 off) lo hi [o]=some r):o.alive=true/\Z2H P t (.ptr b off) lo hi H=some (mvS b r):=by
 unfold Z2H at h⊢
 simp only[Y05]at h
 simp only[hb]
 split at h<;>try (simp at h;done)
 rename_i n e ht
 split at h<;>try (simp at h;done)
 rename_i z hz
 split at h<;>try (simp at h;done)
 rename_i cs ty hal hbd
 split at h<;>try (simp at h;done)
 rename_i hle
 split at h<;>try (simp at h;done)
 rename_i k hk
 split at h<;>simp at h
 subst h;rename_i l hl
 refine⟨hal,?_⟩
 simp only[ht,hz,hal,hbd,hle,if_true,hk,hl,mvS]
theorem Zjj{t:TypeId}{x:Operand}{lo hi:Option Operand}(ho:o.op = .slice t x lo hi none)(ht:∃m e,P.underlying t=some (.array m e)):Z1n P gl d n o (Zme P gl d n t x lo hi):=by
 intro forc orc E T k out H hO hR h
 unfold Zme at h
 split at h<;>try (cases h;done)
 rename_i u lo1 hi1 hu hlo hhi
 split at h<;>try (cases h;done)
 rename_i b off
 split at h<;>try (cases h;done)
 rename_i r hr
 rw[Z1x]at h
 obtain⟨m,e,ht⟩:=ht
 have hal:(T.get b).alive=true:=by
  unfold Z2H at hr
  simp only[Y05,ht]at hr
  split at hr<;>try (simp at hr;done)
  split at hr
  ·rename_i ha _;exact ha
  ·cases hr
 obtain⟨_,hr2⟩:=ZbL (hR.obj b hal) hr
 have hp:Z02 P (Z4a gl d n E) H o=none:=by
  simp[Z02,Z0p,ho,hu,hlo,hhi,Z4h]
 refine⟨_,T,H,?_,hR,h⟩
 rw[Z4u (by simp[kind,ho]),hp]
 simp only[Z31,ho,hu,hlo,hhi,hr2]
noncomputable def ZjK(dd:TypeDesc)(gm gk gv:Tre AV d->AV):OpF d:=λ_ E T k=>frc1 (gm E) λm=>frc1 (gk E) λkey=>frc1 (gv E) λv=>match m with
 | .map b=>Za0 (T.get b) (λfam sh es clock=>match Z9x dd key es 0 with
  |some (some (i,_))=>Zlq (ZjI key v i es) λes'=>Zl8 T b ⟨true,fam,sh,.map es' clock⟩ λT'=>k (.tuple []) T'
  |some none=>Zlq (Zgz es [(key,v,clock)]) λes'=>Z2l (Nat.add clock 1) λc'=>Zl8 T b ⟨true,fam,sh,.map es' c'⟩ λT'=>k (.tuple []) T'
  |none=>none) none
 |_=>none
theorem ZhA {t e : TypeId} {m key v : Operand} {dd : TypeDesc} {gm gk gv : Tre AV d -> AV} (ho : o.op = .mapUpdate t m key v \/ o.op = .insert t m key v) (hd : Z3F P t = some (dd, e)) (hm : Z0H gl d n m = some gm) (hk : Z0H gl d n key = some gk)
  (hv:Z0H gl d n v=some gv):Z1n P gl d n o (ZjK dd gm gk gv):=by
 intro forc orc E T k out H hO hR h
 simp only[ZjK,Z0r]at h
 split at h<;>try (cases h;done)
 rename_i b e1
 replace h:Za0 (T.get b) _ none=some out:=h
 obtain⟨fam,sh,es,clock,e2,h⟩:=Z5k h
 have e2:T.get b=⟨true,fam,sh,.map es clock⟩:=e2
 have hH:=hR.obj b (by rw[e2])
 rw[e2]at hH
 have key:∀H',Z3h P t (gm E) (gk E) (gv E) H=some H'->aop P orc (Z4a gl d n E) o H=some (.tuple [],H'):=by
  intro H' g
  rcases ho with ho|ho<;>simp[aop,Z02,Z0p,Z31,ho,Z06 hm,Z06 hk,Z06 hv,g]
 split at h<;>try (cases h;done)
 · rename_i i w hf
   rw[Z9d,Z8V]at h
   exact⟨_,_,_,key _ (by simp only[Z3h,hd,e1,hH,hf]),hR.set' e2 _,h⟩
 · rename_i hf
   rw[Z9d,Z0q,Z8V,Z5u]at h
   exact⟨_,_,_,key _ (by simp only[Z3h,hd,e1,hH,hf]),hR.set' e2 _,h⟩
noncomputable def Zms(dd:TypeDesc)(z:AV)(ok:Bool)(gm gk:Tre AV d->AV):OpF d:=λ_ E T k=>frc1 (gm E) λm=>frc1 (gk E) λkey =>
 match (match m with | .nmap=>some [] | .map b=>Za0 (T.get b) (λ_ _ es _=>some es) none|_=>none) with
 |some es=>(match Z9x dd key es 0 with
  |some (some (_,v))=>frc1 v λv=>iff' ok (k (.tuple [v,.bool true]) T) (k v T)
  |some none=>iff' ok (k (.tuple [z,.bool false]) T) (k z T)
  |none=>none)
 |none=>none
theorem ZjO {t e : TypeId} {m key : Operand} {dd : TypeDesc} {z : AV} {ok : Bool} {gm gk : Tre AV d -> AV} (ho : o.op = .lookup t m key ok) (hd : Z3F P t = some (dd, e)) (hz : Z1j P e = some z) (hm : Z0H gl d n m = some gm) (hk : Z0H gl d n key = some gk) :
  Z1n P gl d n o (Zms dd z ok gm gk):=by
 intro forc orc E T k out H hO hR h
 simp only[Zms,Z0r]at h
 split at h<;>try (cases h;done)
 rename_i es hes
 have hes':ZhB H (gm E)=some es:=by
  split at hes<;>try (cases hes;done)
  ·rename_i e1;simp at hes;subst hes;rw[e1];rfl
  · rename_i b e1
    replace hes:Za0 (T.get b) _ none=some es:=hes
    obtain⟨fam,sh,es',cl,e2,h3⟩:=Z5k hes
    have e2:T.get b=⟨true,fam,sh,.map es' cl⟩:=e2
    have h3:es'=es:=by simpa using h3
    subst h3
    have hH:=hR.obj b (by rw[e2])
    rw[e2]at hH
    rw[e1];simp[ZhB,Z8b,hH]
 split at h<;>try (cases h;done)
 · rename_i i v hf
   rw[Z22]at h
   refine⟨if ok=true then .tuple [v,.bool true] else v,T,H,Z0b (by simp[kind,ho]) (by simp only[Z02,ho,Z06 hm,Z06 hk,Z5x,hd,hes',hf]),hR,?_⟩
   cases ok<;>simpa using h
 · rename_i hf
   rw[Z22]at h
   refine⟨if ok=true then .tuple [z,.bool false] else z,T,H,Z0b (by simp[kind,ho]) (by simp only[Z02,ho,Z06 hm,Z06 hk,Z5x,hd,hes',hf,hz]),hR,?_⟩
   cases ok<;>simpa using h
end ops
end Go.Abs
end
section
namespace Go.Abs
open Go.RowKit
section cop
variable (P:Program) (gl:Z0n) (d n:Nat)
noncomputable def Z3c(o:Oper):Option (OpF d):=match kind o with
 |0=>some (Z9P P gl d n o)
 |2=>some (Zjg P gl d n o)
 |_=>none
noncomputable def Zgg(o:Oper)(op:BinOp)(x y:Operand):Option (OpF d):=match Zm1 op,Z0H gl d n x,Z0H gl d n y with
 |some F,some gx,some gy=>some (Zno F gx gy (Z9P P gl d n o))
 |_,_,_=>Z3c P gl d n o
noncomputable def Zbv(t:TypeId)(x:Operand):Option (OpF d):=match Z0H gl d n x with
 |some g=>match Z4d P t with
  |some false=>some (ZiF g)
  |some true=>match tsz P t with|some m=>Z2l m λm=>some (ZiE m g)|none=>none
  |none=>none
 |none=>none
noncomputable def Zg6(s:TypeId)(x:Operand)(f:Nat):Option (OpF d):=match Z0H gl d n x,Z4o P s f with
 |some g,some fd=>match tsz P fd.type with
  |some (_+1)=>Z2l fd.offset λc=>some (Znh c g)
  |_=>none
 |_,_=>none
noncomputable def Zg4(o:Oper)(t:TypeId)(x i:Operand):Option (OpF d):=match Z0H gl d n x,Z0H gl d n i with
 |some gx,some gi=>match P.underlying t with
  |some (.slice e)=>match tsz P e with|some z=>Z2l z λz=>some (Znd z gx gi)|none=>none
  |_=>Z3c P gl d n o
 |_,_=>none
noncomputable def Zg2(o:Oper)(t:TypeId)(x i:Operand):Option (OpF d):=match Z0H gl d n x,Z0H gl d n i with
 |some gx,some gi=>match P.underlying t with
  |some .string=>some (Znc gx gi)
  |_=>Z3c P gl d n o
 |_,_=>none
noncomputable def Zg0(o:Oper)(x:Operand)(t:TypeId):Option (OpF d):=match Z0H gl d n x with
 |some g=>match P.underlying t with
  |some .string=>some (Zli g)
  |some (.slice _)=>some (Zna g)
  |some (.map _ _)=>some (ZjQ g)
  |_=>none
 |none=>none
noncomputable def Zgi(s x:Operand)(t t2:TypeId):Option (OpF d):=match Z0H gl d n s,Z0H gl d n x with
 |some gs,some gx=>match P.underlying t with
  |some (.slice e)=>match P.info? e,Z1j P e with
   |some i,some u=>iff' (apx P t2&&Y00 u.cells.length i.size) (Z2l i.size λz=>Z2l i.bytes λb=>some (Znq e z b gs gx)) none
   |_,_=>none
  |_=>none
 |_,_=>none
noncomputable def Zg8(s x:Operand)(t:TypeId):Option (OpF d):=match Z0H gl d n s,Z0H gl d n x with
 |some gs,some gx=>match P.underlying t with
  |some (.slice e)=>match tsz P e with
   |some z=>Z2l z λz=>some (Znj z gs gx)
   |none=>none
  |_=>none
 |_,_=>none
noncomputable def Zbw(o:Oper)(c:Call):Option (OpF d):=match c.callee with
 | .value (.func g)=>match cargs gl d n c.args.toList with|some G=>iff' (Z0k P g) (some (ZlC g G)) (iff' (Zi7 P g) (some (Zlw G)) (iff' (Z9i P g) (some (Zmu G)) (match Zal P g with|some e=>Z2l e λe=>some (Zmm e G)|none=>none)))|none=>none
 | .value f=>match Z0H gl d n f,cargs gl d n c.args.toList with|some gf,some G=>some (Zkq P gf G)|_,_=>none
 | .builtin .len=>match c.args.toList,c.argTypes.toList with|[x],t::_=>Zg0 P gl d n o x t|_,_=>none
 | .builtin .append=>match c.args.toList,c.argTypes.toList with|[s,x],[t,t2]=>Zgi P gl d n s x t t2|_,_=>none
 | .builtin .cap=>match c.args.toList,c.argTypes.toList with|[x],[t]=>(match Z0H gl d n x,P.underlying t with|some g,some (.slice _)=>some (Znm g)|_,_=>none)|_,_=>none
 | .builtin .clear=>match c.args.toList,c.argTypes.toList with
  |[x],[t]=>(match Z0H gl d n x,P.underlying t with|some g,some (.slice e)=>(match Z1j P e with|some u=>Z5L u.cells λzs=>Z2l zs.length λz=>some (Znl zs z g)|none=>none)|_,_=>none)
  |_,_=>none
 | .builtin .unsafeSliceData=>match c.args.toList with|[x]=>(match Z0H gl d n x with|some g=>some (Zn1 g)|none=>none)|_=>none
 | .builtin .unsafeString=>match c.args.toList,c.argTypes.toList with|[x,y],[t,_]=>(match Z0H gl d n x,Z0H gl d n y with|some gx,some gn=>some (ZmU P t gx gn)|_,_=>none)|_,_=>none
 | .builtin .copy=>match c.args.toList,c.argTypes.toList with|[s,x],[t,_]=>Zg8 P gl d n s x t|_,_=>none
 |_=>Z3c P gl d n o
noncomputable def ZfU(t:TypeId)(a x:Operand):Option (OpF d):=match Z0H gl d n a,Z0H gl d n x,tsz P t with
 |some ga,some gx,some m=>Z2l m λm=>some (Zmc m ga gx)
 |_,_,_=>none
noncomputable def ZcQ(t:TypeId)(m k v:Operand):Option (OpF d):=match Z3F P t,Z0H gl d n m,Z0H gl d n k,Z0H gl d n v with
 |some (dd,_),some gm,some gk,some gv=>some (ZjK dd gm gk gv)
 |_,_,_,_=>none
noncomputable def ZfY(t:TypeId)(m k:Operand)(ok:Bool):Option (OpF d):=match Z3F P t,Z0H gl d n m,Z0H gl d n k with
 |some (dd,e),some gm,some gk=>match Z1j P e with|some z=>Z5Z z λz=>some (Zms dd z ok gm gk)|none=>none
 |_,_,_=>none
noncomputable def Zge(o:Oper)(t:TypeId)(ps:Array (Nat×Operand)):Option (OpF d):=match P.underlying t,Z1j P t with
 |some (.struct _),some z=>iff' (Z6o P t) (match Zau gl d n (Zae P t) ps.toList with|some G=>Z5L z.cells λzs=>some (Znp zs G)|none=>none) none
 |_,_=>Z3c P gl d n o
noncomputable def Zgc(t:TypeId)(len:Nat)(ps:Array (Nat×Operand)):Option (OpF d):=match Z54 P t len [] with
 |some (zs,e,z)=>match Zau gl d n (λi=>some (i*z,z)) ps.toList with|some G=>Z5L zs λzs=>Z0Y z λz=>some (Znn len zs e z G)|none=>none
 |none=>none
noncomputable def ZfW(t:TypeId)(x:Operand)(lo hi:Option Operand):Option (OpF d):=match Z0H gl d n x,Zig gl d n lo,Zig gl d n hi with
 |some gx,some L,some R=>match P.underlying t with
  |some .string=>some (ZmZ gx L R)
  |some (.slice e)=>match tsz P e with|some z=>Z0Y z λz=>some (Zn0 z gx L R)|none=>none
  |some (.array _ _)=>some (Zme P gl d n t x lo hi)
  |_=>none
 |_,_,_=>none
noncomputable def Zga(o:Oper)(src dst:TypeId)(x:Operand):Option (OpF d):=match P.underlying src,P.underlying dst,Z0H gl d n x with
 |some _,some (.int kk),some g=>some (Znk kk g (Z9P P gl d n o))
 |some .string,some (.slice e),some g=>match P.underlying e with|some (.int .u8)=>some (ZmY g)|_=>none
 |some (.pointer _),some .unsafePointer,some g=>some (ZmH P src dst g)
 |some .unsafePointer,some (.pointer _),some g=>some (ZmH P src dst g)
 |some (.slice _),some .string,some g=>iff' (Z7y P src dst) (some (ZmE g)) none
 |_,_,_=>Z3c P gl d n o
noncomputable def cop(o:Oper):Option (OpF d):=match o.op with
 | .move x=>match Z0H gl d n x with|some g=>some (ZlS g)|none=>none
 | .assign x=>match Z0H gl d n x with|some g=>some (ZlS g)|none=>none
 | .pick c a b=>match Z0H gl d n c,Z0H gl d n a,Z0H gl d n b with|some gc,some ga,some gb=>some (Zjs gc ga gb)|_,_,_=>none
 | .binOp op _ x y _=>Zgg P gl d n o op x y
 | .unOp .not _ x=>match Z0H gl d n x with|some g=>some (Zn6 g)|none=>none
 | .load t x=>Zbv P gl d n t x
 | .fieldAddr s x f=>Zg6 P gl d n s x f
 | .indexAddr t x i=>Zg4 P gl d n o t x i
 | .index t x i=>Zg2 P gl d n o t x i
 | .extract x i=>match Z0H gl d n x with|some g=>some (Zni i g)|none=>none
 | .nilCheck x=>match Z0H gl d n x with|some g=>some (Zn8 g (Z9P P gl d n o))|none=>none
 | .build t ps=>Zge P gl d n o t ps
 | .buildSlice t len ps=>Zgc P gl d n t len ps
 | .slice t x lo hi none=>ZfW P gl d n t x lo hi
 | .convert s t x=>Zga P gl d n o s t x
 | .alloc e=>match Z1j P e with|some z=>Z5L z.cells λcs=>some (Zns (.cells cs e))|none=>none
 | .box e x=>match Z0H gl d n x with|some g=>some (ZmN e g)|none=>none
 | .store t a x=>ZfU P gl d n t a x
 | .mapUpdate t m k v=>ZcQ P gl d n t m k v
 | .insert t m k v=>ZcQ P gl d n t m k v
 | .lookup t m k ok=>ZfY P gl d n t m k ok
 | .call c=>Zbw P gl d n o c
 |_=>Z3c P gl d n o
end cop
section ok
variable {P:Program} {gl:Z0n} {d n:Nat} {o:Oper}
theorem Z1K{F:OpF d}(h:Z3c P gl d n o=some F):Z1n P gl d n o F:=by
 unfold Z3c at h
 split at h<;>simp at h
 ·subst h;exact Z8L (by assumption)
 ·subst h;exact Zh9 (by assumption)
theorem Zgf{op:BinOp}{t t2:TypeId}{x y:Operand}(ho:o.op = .binOp op t x y t2){F:OpF d}(h:Zgg P gl d n o op x y=some F):Z1n P gl d n o F:=by
 unfold Zgg at h
 split at h
 · rename_i B gx gy hB hx hy
   simp at h;subst h
   exact Zkt ho hB hx hy (Z8L (by simp[kind,ho]))
 ·exact Z1K h
theorem ZdI{t:TypeId}{x:Operand}(ho:o.op = .load t x){F:OpF d}(h:Zbv P gl d n t x=some F):Z1n P gl d n o F:=by
 unfold Zbv at h
 split at h<;>try (simp at h;done)
 rename_i g hg
 split at h<;>try (simp at h;done)
 ·rename_i ht;simp at h;subst h;exact Zff ho ht hg
 · rename_i ht
   split at h<;>try (simp at h;done)
   rename_i m hm
   rw[Z0q]at h;simp at h;subst h;exact Zfe ho ht hm hg
theorem Zg5{s:TypeId}{x:Operand}{f:Nat}(ho:o.op = .fieldAddr s x f){F:OpF d}(h:Zg6 P gl d n s x f=some F):Z1n P gl d n o F:=by
 unfold Zg6 at h
 split at h<;>try (simp at h;done)
 rename_i g fd hg hf
 split at h<;>try (simp at h;done)
 rename_i m hm
 rw[Z0q]at h;simp at h;subst h;exact Zkb ho hf hm hg
theorem Zg3{t:TypeId}{x i:Operand}(ho:o.op = .indexAddr t x i){F:OpF d}(h:Zg4 P gl d n o t x i=some F):Z1n P gl d n o F:=by
 unfold Zg4 at h
 split at h<;>try (simp at h;done)
 rename_i gx gi hx hi
 split at h
 · rename_i e ht
   split at h<;>try (simp at h;done)
   rename_i z hz
   rw[Z0q]at h;simp at h;subst h;exact ZjV ho ht hz hx hi
 ·exact Z1K h
theorem Zg1{t:TypeId}{x i:Operand}(ho:o.op = .index t x i){F:OpF d}(h:Zg2 P gl d n o t x i=some F):Z1n P gl d n o F:=by
 unfold Zg2 at h
 split at h<;>try (simp at h;done)
 rename_i gx gi hx hi
 split at h
 ·rename_i ht;simp at h;subst h;exact ZjU ho ht hx hi
 ·exact Z1K h
theorem ZfZ{c:Call}{x:Operand}{t:TypeId}{ts:List TypeId}(ho:o.op = .call c)(hc:c.callee = .builtin .len)(ha:c.args.toList=[x])(ht:c.argTypes.toList=t::ts){F:OpF d}(h:Zg0 P gl d n o x t=some F):Z1n P gl d n o F:=by
 unfold Zg0 at h
 split at h<;>try (simp at h;done)
 rename_i g hg
 split at h<;>simp at h
 ·rename_i hu;subst h;exact ZhN ho hc ha ht hu hg
 ·rename_i hu;subst h;exact ZjR ho hc ha ht hu hg
 ·rename_i hu;subst h;exact ZhP ho hc ha ht hu hg
theorem Zgh{c:Call}{s x:Operand}{t t2:TypeId}(ho:o.op = .call c)(hc:c.callee = .builtin .append)(ha:c.args.toList=[s,x])(ht:c.argTypes.toList=[t,t2]){F:OpF d}(h:Zgi P gl d n s x t t2=some F):Z1n P gl d n o F:=by
 unfold Zgi at h
 split at h<;>try (simp at h;done)
 rename_i gs gx hs hx
 split at h<;>try (simp at h;done)
 rename_i e hu
 split at h<;>try (simp at h;done)
 rename_i i u hi hz
 obtain⟨h1,h2⟩:=Z05 h
 rw[Z0q,Z0q]at h2
 simp at h2;subst h2
 rw[Y06]at h1
 exact Zky ho hc ha ht hu hi hz h1.1 (Y01 h1.2) hs hx
theorem Zg7{c:Call}{s x:Operand}{t t2:TypeId}(ho:o.op = .call c)(hc:c.callee = .builtin .copy)(ha:c.args.toList=[s,x])(ht:c.argTypes.toList=[t,t2]){F:OpF d}(h:Zg8 P gl d n s x t=some F):Z1n P gl d n o F:=by
 unfold Zg8 at h
 split at h<;>try (simp at h;done)
 rename_i gs gx hs hx
 split at h<;>try (simp at h;done)
 rename_i e hu
 split at h<;>try (simp at h;done)
 rename_i z hz
 rw[Z0q]at h;simp at h;subst h
 exact Zkk ho hc ha ht hu hz hs hx
theorem ZdJ{c:Call}(ho:o.op = .call c){F:OpF d}(h:Zbw P gl d n o c=some F):Z1n P gl d n o F:=by
 unfold Zbw at h
 split at h
 · rename_i g hc
   split at h<;>try (simp at h;done)
   rename_i G hG
   rcases Z0N h with ⟨h1,h2⟩|⟨_,h2⟩
   · simp at h2;subst h2
     exact Zih ho hc h1 hG
   · rcases Z0N h2 with ⟨h1,h2⟩|⟨_,h2⟩
     · simp at h2;subst h2
       exact Zi6 ho hc h1 hG
     rcases Z0N h2 with ⟨h1,h2⟩|⟨_,h2⟩
     · simp at h2;subst h2
       exact ZjS ho hc h1 hG
     · split at h2<;>try (simp at h2;done)
       rename_i e he
       rw[Z0q]at h2;simp at h2;subst h2
       exact ZjJ ho hc he hG
 · rename_i f hc _
   split at h<;>simp at h
   rename_i gf G hf hG
   subst h
   exact Zii ho (by assumption) hf hG
 · rename_i hc
   split at h<;>try (simp at h;done)
   rename_i x t ts ha ht
   exact ZfZ ho hc ha ht h
 · rename_i hc
   split at h<;>try (simp at h;done)
   rename_i s x t t2 ha ht
   exact Zgh ho hc ha ht h
 · rename_i hc
   split at h<;>try (simp at h;done)
   rename_i x t ha ht
   split at h<;>simp at h
   subst h
   exact Zkp ho hc ha ht (by assumption) (by assumption)
 · rename_i hc
   split at h<;>try (simp at h;done)
   rename_i x t ha ht
   split at h<;>try (simp at h;done)
   rename_i g e hg hu
   split at h<;>try (simp at h;done)
   rename_i u hz
   rw[Z2f,Z0q]at h
   simp at h
   subst h
   exact Zkm ho hc ha ht hu hz hg
 · rename_i hc
   split at h<;>try (simp at h;done)
   rename_i x ha
   split at h<;>simp at h
   subst h
   exact Zji ho hc ha (by assumption)
 · rename_i hc
   split at h<;>try (simp at h;done)
   rename_i x y t t2 ha ht
   split at h<;>simp at h
   subst h
   exact Zj2 ho hc ha ht (by assumption) (by assumption)
 · rename_i hc
   split at h<;>try (simp at h;done)
   rename_i s x t t2 ha ht
   exact Zg7 ho hc ha ht h
 ·exact Z1K h
theorem ZfT{t:TypeId}{a x:Operand}(ho:o.op = .store t a x){F:OpF d}(h:ZfU P gl d n t a x=some F):Z1n P gl d n o F:=by
 unfold ZfU at h
 split at h<;>try (simp at h;done)
 rename_i ga gx m ha hx hm
 rw[Z0q]at h;simp at h;subst h
 exact Zjb ho hm ha hx
theorem Zat{t:TypeId}{m k v:Operand}(ho:o.op = .mapUpdate t m k v\/o.op = .insert t m k v){F:OpF d}(h:ZcQ P gl d n t m k v=some F):Z1n P gl d n o F:=by
 unfold ZcQ at h
 split at h<;>simp at h
 subst h
 exact ZhA ho (by assumption) (by assumption) (by assumption) (by assumption)
theorem ZfX{t:TypeId}{m k:Operand}{ok:Bool}(ho:o.op = .lookup t m k ok){F:OpF d}(h:ZfY P gl d n t m k ok=some F):Z1n P gl d n o F:=by
 unfold ZfY at h
 split at h<;>try (simp at h;done)
 rename_i dd e gm gk hd hm hk
 split at h<;>try (simp at h;done)
 rename_i z hz
 rw[Z1x]at h;simp at h;subst h
 exact ZjO ho hd hz hm hk
theorem Zgd{t:TypeId}{ps:Array (Nat×Operand)}(ho:o.op = .build t ps){F:OpF d}(h:Zge P gl d n o t ps=some F):Z1n P gl d n o F:=by
 unfold Zge at h
 split at h
 · rename_i fs z hu hz
   obtain⟨h1,h2⟩:=Z05 h
   split at h2<;>try (simp at h2;done)
   rename_i G hG
   rw[Z2f]at h2;simp at h2;subst h2
   exact Zku ho hz hu h1 hG
 ·exact Z1K h
theorem Zgb{t:TypeId}{len:Nat}{ps:Array (Nat×Operand)}(ho:o.op = .buildSlice t len ps){F:OpF d}(h:Zgc P gl d n t len ps=some F):Z1n P gl d n o F:=by
 unfold Zgc at h
 split at h<;>try (simp at h;done)
 rename_i zs e z hz
 split at h<;>try (simp at h;done)
 rename_i G hG
 rw[Z2f,Z13]at h;simp at h;subst h
 exact Zkr ho hz hG
theorem ZfV{t:TypeId}{x:Operand}{lo hi:Option Operand}(ho:o.op = .slice t x lo hi none){F:OpF d}(h:ZfW P gl d n t x lo hi=some F):Z1n P gl d n o F:=by
 unfold ZfW at h
 split at h<;>try (simp at h;done)
 rename_i gx L R hx hL hR
 split at h<;>try (simp at h;done)
 ·rename_i ht;simp at h;subst h;exact Zjf ho ht hx hL hR
 · rename_i e ht
   split at h<;>try (simp at h;done)
   rename_i z hz
   rw[Z13]at h;simp at h;subst h;exact Zjh ho ht hz hx hL hR
 · rename_i m e ht
   simp at h;subst h;exact Zjj ho ⟨m,e,ht⟩
theorem Zg9{src dst:TypeId}{x:Operand}(ho:o.op = .convert src dst x){F:OpF d}(h:Zga P gl d n o src dst x=some F):Z1n P gl d n o F:=by
 unfold Zga at h
 split at h
 · rename_i td kk g hs hd hg
   simp at h;subst h
   exact Zkl ho hs hd hg (Zha ho)
 · rename_i e g hs hd hg
   split at h<;>simp at h
   rename_i he
   subst h
   exact Zjc ho hs hd he hg
 · rename_i e g hs hd hg
   simp at h;subst h
   exact Zgk ho (.inr hd) hg
 · rename_i e g hs hd hg
   simp at h;subst h
   exact Zgk ho (.inl ⟨_,hd⟩) hg
 · rename_i e g hs hd hg
   obtain⟨h1,h2⟩:=Z05 h
   simp at h2;subst h2
   exact Zki ho h1 hg
 ·exact Z1K h
theorem ZiR{F:OpF d}(h:cop P gl d n o=some F):Z1n P gl d n o F:=by
 unfold cop at h
 split at h
 ·rename_i x ho;split at h<;>simp at h;subst h;exact ZeZ (.inl ho) (by assumption)
 ·rename_i x ho;split at h<;>simp at h;subst h;exact ZeZ (.inr ho) (by assumption)
 ·rename_i c a b ho;split at h<;>simp at h;subst h;exact Zhi ho (by assumption) (by assumption) (by assumption)
 ·rename_i ho;exact Zgf ho h
 ·rename_i ho;split at h<;>simp at h;subst h;exact ZjD ho (by assumption)
 ·rename_i ho;exact ZdI ho h
 ·rename_i ho;exact Zg5 ho h
 ·rename_i ho;exact Zg3 ho h
 ·rename_i ho;exact Zg1 ho h
 ·rename_i ho;split at h<;>simp at h;subst h;exact Zkc ho (by assumption)
 ·rename_i ho;split at h<;>simp at h;subst h;exact ZjG ho (by assumption) (Z8L (by simp[kind,ho]))
 ·rename_i ho;exact Zgd ho h
 ·rename_i ho;exact Zgb ho h
 ·rename_i ho;exact ZfV ho h
 ·rename_i ho;exact Zg9 ho h
 · rename_i ho;split at h<;>try (simp at h;done)
   rename_i z hz
   rw[Z2f]at h;simp at h;subst h;exact ZkA ho hz
 ·rename_i ho;split at h<;>simp at h;subst h;exact Zks ho (by assumption)
 ·rename_i ho;exact ZfT ho h
 ·rename_i ho;exact Zat (.inl ho) h
 ·rename_i ho;exact Zat (.inr ho) h
 ·rename_i ho;exact ZfX ho h
 ·rename_i ho;exact ZdJ ho h
 ·exact Z1K h
end ok
section seq
variable (P:Program) (gl:Z0n) (d n:Nat)
abbrev StF(d:Nat):=Z9B->Tre AV d->TH->(Tre AV d->TH->Res)->Res
noncomputable def ZlA(dst:Option Tmp):Option (AV->Tre AV d->(Tre AV d->Res)->Res):=match dst with
 |none=>some λ_ E f=>f E
 |some t=>iff' (Nat.blt t n) (Bx.rec (λp=>some p) (Zjq AV Res d t)) none
noncomputable def ZkV(ops:List Oper)(o:Oper):Option (Option ((Tre AV d->AV)×Bool)):=match o.guard with
 |none=>some none
 |some (j,want)=>match ops[j]? with
  |some g=>match g.dst with
   |some t=>iff' (Nat.blt t n) (Bx.rec (λq=>some (some (q,want))) (Zfo AV d t)) none
   |none=>none
  |none=>none
noncomputable def Zas(ops:List Oper)(o:Oper):Option (StF d):=match cop P gl d n o,ZlA d n o.dst,ZkV d n ops o with
 |some F,some p,some none=>some λforc E T k=>F forc E T λv T'=>p v E λE'=>k E' T'
 |some F,some p,some (some (q,want))=>some λforc E T k=>Z2t (q E) (λb=>iff' b (iff' want (F forc E T λv T'=>p v E λE'=>k E' T') (p (.tuple []) E λE'=>k E' T))
  (iff' want (p (.tuple []) E λE'=>k E' T) (F forc E T λv T'=>p v E λE'=>k E' T'))) (p (.tuple []) E λE'=>k E' T)
 |_,_,_=>none
noncomputable def ZlW(ops:List Oper)(forc:Z9B)(l:List Oper):Tre AV d->TH->(Tre AV d->TH->Res)->Res :=
 List.rec (motive:=λ_=>Tre AV d->TH->(Tre AV d->TH->Res)->Res) (λE T k=>k E T) (λo _ ih E T k=>Option.rec none (λs=>s forc E T λE' T'=>ih E' T' k) (Zas P gl d n ops o)) l
end seq
theorem Zi0{β : Type}(o:Oper)(r:AV)(H:Z00)(f:AV->Z00 -> β):Zk4 o r H f=f r H:=Z1y o r H f
theorem Z4G:∀{t:Tr}{n:Nat},tex t n=true->∀v,∃t',Zc8 t n v=some t'
 | .leaf,n,h,v=>by simp[tex]at h
 | .node x l r,0,h,v=>by
  cases x with
  |none=>simp[tex]at h
  |some y=>exact⟨_,rfl⟩
 | .node x l r,n+1,h,v=>by
  simp only[tex]at h
  simp only[Zc8]
  split at h
  · rename_i e
    obtain⟨t',h'⟩:=Z4G (t:=l) h v
    simp only[e,h'];exact⟨_,rfl⟩
  · rename_i e
    obtain⟨t',h'⟩:=Z4G (t:=r) h v
    cases hm:Nat.mod n 2 with
    |zero=>exact (e hm).elim
    |succ m=>simp only[h'];exact⟨_,rfl⟩
theorem Z8H:∀(d:Nat)(g:Nat->Option AV)(n:Nat),n+1<2 ^ d->Z10 (tmk g d) n=g n
 |0,g,n,h=>by simp at h
 |d+1,g,0,h=>by simp only[tmk,Z10];cases g 0<;>rfl
 |d+1,g,n+1,h=>by
  rw[Y0a]at h
  simp only[tmk,Z10]
  split
  · rename_i e
    have e':n % 2=0:=e
    have hd:Nat.div n 2=n / 2:=rfl
    rw[Z8H d _ _ (by rw[hd];omega)]
    show g (2*(n / 2)+1)=_
    congr 1;omega
  · rename_i e
    have e':¬n % 2=0:=e
    have hd:Nat.div n 2=n / 2:=rfl
    rw[Z8H d _ _ (by rw[hd];omega)]
    show g (2*(n / 2)+2)=_
    congr 1;omega
section seqok
variable {P:Program} {gl:Z0n} {d n:Nat}
theorem EnvSim.put{E:Tre AV d}{tm:Tr}(hn:n<=8 ^ d)(h:EnvSim d n E tm){t:Nat}(ht:t<n)(v:AV):∃tm',Zc8 tm t v=some tm'/\EnvSim d n (Zd9 d t v E) tm':=by
 have hg:tex tm t=true:=Z68 _ _ _ (by rw[h t,if_pos ht])
 obtain⟨tm',h1⟩:=Z4G hg v
 refine⟨tm',h1,λs=>?_⟩
 rw[(Z2p _ _ _ _ h1).2.1 s]
 by_cases hs:s<n
 · rw[if_pos hs,Z3t d t s v E (by omega) (by omega)]
   by_cases e:s=t
   ·rw[if_pos e,if_pos e]
   ·rw[if_neg e,if_neg e,h s,if_pos hs]
 ·rw[if_neg hs,if_neg (by omega),h s,if_neg hs]
theorem ZfS (hn : n <= 8 ^ d) {dst : Option Tmp} {p : AV -> Tre AV d -> (Tre AV d -> Res) -> Res} (h : ZlA d n dst = some p) {E : Tre AV d} {tm : Tr} (hE : EnvSim d n E tm) (v : AV) (f : Tre AV d -> Res) :
  ∃E' tm',Z3r dst v tm=some tm'/\EnvSim d n E' tm'/\p v E f=f E':=by
 unfold ZlA at h
 cases dst with
 |none=>simp at h;subst h;exact⟨E,tm,rfl,hE,rfl⟩
 |some t =>
  obtain⟨h1,h2⟩:=Z05 (show iff' (Nat.blt t n) (Bx.rec (λp=>some p) (Zjq AV Res d t)) none=some p from h)
  have ht:t<n:=by simpa[Y02]using h1
  have h3:some (Zjq AV Res d t).v=some p:=h2
  simp at h3;subst h3
  obtain⟨tm',g1,g2⟩:=hE.put hn ht v
  exact⟨_,tm',g1,g2,Zbf d t v E f⟩
def ZlK(P:Program)(gl:Z0n)(d n:Nat)(ops:List Oper)(o:Oper)(s:StF d):Prop :=
 ∀forc orc E T (k:Tre AV d->TH->Res) out H tm,Z3T forc orc->Rep T H->EnvSim d n E tm->s forc E T k=some out ->
  ∃E' T' tm' H',EnvSim d n E' tm'/\Rep T' H'/\k E' T'=some out /\
   ((Z0x ops o tm=some true/\∃r,aop P orc (Z1C gl tm) o H=some (r,H')/\Z3r o.dst r tm=some tm')\/(Z0x ops o tm=some false/\Z3r o.dst (.tuple []) tm=some tm'/\H'=H))
theorem ZcP(hn:n<=8 ^ d){ops:List Oper}{o:Oper}{s:StF d}(h:Zas P gl d n ops o=some s):ZlK P gl d n ops o s:=by
 intro forc orc E T k out H tm hO hR hE he
 have run : ∀ {F : OpF d} {p : AV -> Tre AV d -> (Tre AV d -> Res) -> Res}, cop P gl d n o = some F -> ZlA d n o.dst = some p -> (F forc E T fun v T' => p v E fun E' => k E' T') = some out ->
   ∃E' T' tm' H',EnvSim d n E' tm'/\Rep T' H'/\k E' T'=some out/\∃r,aop P orc (Z1C gl tm) o H=some (r,H')/\Z3r o.dst r tm=some tm':=by
  intro F p hF hp h1
  obtain⟨r,T',H',g1,g2,g3⟩:=ZiR hF forc orc E T _ out H hO hR h1
  rw[Z8R hE]at g1
  obtain⟨E',tm',g4,g5,g6⟩:=ZfS hn hp hE r (λE'=>k E' T')
  rw[g6]at g3
  exact⟨E',T',tm',H',g5,g2,g3,r,g1,g4⟩
 have skip : ∀ {p : AV -> Tre AV d -> (Tre AV d -> Res) -> Res}, ZlA d n o.dst = some p -> (p (.tuple []) E fun E' => k E' T) = some out ->
   ∃E' T' tm' H',EnvSim d n E' tm'/\Rep T' H'/\k E' T'=some out/\Z3r o.dst (.tuple []) tm=some tm'/\H'=H:=by
  intro p hp h1
  obtain⟨E',tm',g4,g5,g6⟩:=ZfS hn hp hE (.tuple []) (λE'=>k E' T)
  rw[g6]at h1
  exact⟨E',T,tm',H,g5,hR,h1,g4,rfl⟩
 unfold Zas at h
 split at h<;>try (simp at h;done)
 · rename_i F p hF hp hg
   simp at h;subst h
   have hw:Z0x ops o tm=some true:=by
    unfold ZkV at hg
    unfold Z0x
    split at hg
    ·rename_i e;simp[e]
    · exfalso
      split at hg<;>try (simp at hg;done)
      split at hg<;>try (simp at hg;done)
      obtain⟨_,h2⟩:=Z05 hg
      simp at h2
   obtain⟨E',T',tm',H',g1,g2,g3,g4⟩:=run hF hp he
   exact⟨E',T',tm',H',g1,g2,g3,.inl ⟨hw,g4⟩⟩
 · rename_i F p q want hF hp hg
   simp at h;subst h
   have hw:Z0x ops o tm=(match q E with | .bool b=>some (b==want)|_=>some false):=by
    unfold ZkV at hg
    unfold Z0x
    split at hg
    ·simp at hg
    · rename_i j w e
      split at hg<;>try (simp at hg;done)
      rename_i g hj
      split at hg<;>try (simp at hg;done)
      rename_i t ht
      obtain⟨h1,h2⟩:=Z05 hg
      have h3:some (some ((Zfo AV d t).v,w))=some (some (q,want)):=h2
      simp at h3
      obtain⟨rfl,rfl⟩:=h3
      have htn:t<n:=by simpa[Y02]using h1
      simp only[e,hj,ht,hE t,if_pos htn,Z5p]
      split<;>simp_all
   rcases Z2c he with ⟨b,e,h1⟩|⟨e,h1⟩
   · rw[e]at hw
     cases b<;>cases want
     · obtain⟨E',T',tm',H',g1,g2,g3,g4⟩:=run hF hp h1
       exact⟨E',T',tm',H',g1,g2,g3,.inl ⟨hw,g4⟩⟩
     · obtain⟨E',T',tm',H',g1,g2,g3,g4⟩:=skip hp h1
       exact⟨E',T',tm',H',g1,g2,g3,.inr ⟨hw,g4⟩⟩
     · obtain⟨E',T',tm',H',g1,g2,g3,g4⟩:=skip hp h1
       exact⟨E',T',tm',H',g1,g2,g3,.inr ⟨hw,g4⟩⟩
     · obtain⟨E',T',tm',H',g1,g2,g3,g4⟩:=run hF hp h1
       exact⟨E',T',tm',H',g1,g2,g3,.inl ⟨hw,g4⟩⟩
   · have hw2:Z0x ops o tm=some false:=by rw[hw];split<;>simp_all
     obtain⟨E',T',tm',H',g1,g2,g3,g4⟩:=skip hp h1
     exact⟨E',T',tm',H',g1,g2,g3,.inr ⟨hw2,g4⟩⟩
theorem Zfp (hn : n <= 8 ^ d) {ops : List Oper} {forc : Z9B} {orc : Orc} (hO : Z3T forc orc) : ∀ (l : List Oper) (E : Tre AV d) (T : TH) (k : Tre AV d -> TH -> Res) (out : AV × TH) (H : Z00) (tm : Tr), Rep T H -> EnvSim d n E tm -> ZlW P gl d n ops forc l E T k = some out ->
  ∃E' T' tm' H',ZdN P gl orc ops l tm H=some (tm',H')/\EnvSim d n E' tm'/\Rep T' H'/\k E' T'=some out
 |[],E,T,k,out,H,tm,hR,hE,h=>⟨E,T,tm,H,rfl,hE,hR,h⟩
 |o::l,E,T,k,out,H,tm,hR,hE,h=>by
  have h:(Option.rec none (λs=>s forc E T λE' T'=>ZlW P gl d n ops forc l E' T' k) (Zas P gl d n ops o):Res)=some out:=h
  cases hs:Zas P gl d n ops o with
  |none=>rw[hs]at h;cases h
  |some s =>
   rw[hs]at h
   obtain⟨E1,T1,tm1,H1,g1,g2,g3,g4⟩:=ZcP hn hs forc orc E T _ out H tm hO hR hE h
   obtain⟨E2,T2,tm2,H2,k1,k2,k3,k4⟩:=Zfp hn hO l E1 T1 k out H1 tm1 g2 g1 g3
   refine⟨E2,T2,tm2,H2,?_,k2,k3,k4⟩
   rcases g4 with ⟨w1,r,w2,w3⟩|⟨w1,w2,rfl⟩
   ·simp only[ZdN,w1,w2,Zi0,w3,k1]
   ·simp only[ZdN,w1,w2,k1]
end seqok
end Go.Abs
end
section
namespace Go.Abs
open Go.RowKit
noncomputable def ieq(a b:Int):Bool:=Int.rec (motive:=λ_=>Int->Bool) (λa b=>Int.rec (λb=>Y00 a b) (λ_=>false) b) (λa b=>Int.rec (λ_=>false) (λb=>Y00 a b) b) a b
theorem Zlm{a b:Int}(h:ieq a b=true):a=b:=by
 cases a<;>cases b
 ·exact congrArg _ (Y01 h)
 ·cases h
 ·cases h
 ·exact congrArg _ (Y01 h)
noncomputable def ZkM(v w:AV):Bool :=
 Zdm v (λk n=>Zdm w (λk' n'=>iff' (Y00 (kix k) (kix k')) (ieq n n') false) false)
  (Z4b v (λs=>Z4b w (λs'=>eqS s s') false) (Z2t v (λb=>Z2t w (λb'=>iff' b b' (!b')) false) (onPtr v (λb o=>onPtr w (λb' o'=>iff' (Y00 b b') (Y00 o o') false) (λ_=>false) false) (λ_=>veq v w) (veq v w))))
theorem Z0K{b x:Bool}(h:iff' b x false=true):b=true/\x=true:=by
 cases b
 ·cases h
 ·exact⟨rfl,h⟩
theorem Zj0{v w:AV}(h:ZkM v w=true):v=w:=by
 unfold ZkM at h
 cases v<;>try exact Z6u _ _ h
 · rename_i b
   replace h:Z2t w (λb'=>iff' b b' (!b')) false=true:=h
   rcases Z3A w (λb'=>iff' b b' (!b')) false with ⟨b',rfl,e⟩|⟨_,e⟩<;>rw[e]at h
   ·cases b<;>cases b'<;>first|rfl|cases h
   ·cases h
 · rename_i k n
   replace h:Zdm w (λk' n'=>iff' (Y00 (kix k) (kix k')) (ieq n n') false) false=true:=h
   rcases Z6V w (λk' n'=>iff' (Y00 (kix k) (kix k')) (ieq n n') false) false with ⟨k',n',rfl,e⟩|e<;>rw[e]at h
   · obtain⟨h1,h2⟩:=Z0K h
     rw[Z74 h1,Zlm h2]
   ·cases h
 · rename_i s
   replace h:Z4b w (λs'=>eqS s s') false=true:=h
   rcases Z37 w (λs'=>eqS s s') false with ⟨s',rfl,e⟩|e<;>rw[e]at h
   ·rw[ZfJ]at h;simp at h;rw[h]
   ·cases h
 · rename_i b o
   replace h:onPtr w (λb' o'=>iff' (Y00 b b') (Y00 o o') false) (λ_=>false) false=true:=h
   rcases Z6U w (λb' o'=>iff' (Y00 b b') (Y00 o o') false) (λ_=>false) false with ⟨b',o',rfl,e⟩|⟨_,_,e⟩|e<;>rw[e]at h
   · obtain⟨h1,h2⟩:=Z0K h
     rw[Y01 h1,Y01 h2]
   ·cases h
   ·cases h
mutual
theorem Z1u:∀v:AV,veq v v=true
 | .bool b=>by simp[veq]
 | .int k n=>by simp[veq]
 | .str s=>by simp[veq]
 | .nptr=>rfl
 | .ptr b o=>by simp[veq]
 | .rp cs=>by simp[veq,veqL_refl cs]
 | .nslice=>rfl
 | .slice b o l c z=>by simp[veq]
 | .rs n z cs=>by simp[veq,veqL_refl cs]
 | .nmap=>rfl
 | .map b=>by simp[veq]
 | .func f a b=>by simp[veq,veqL_refl a,veqL_refl b]
 | .nfunc=>rfl
 | .iface t v=>by simp[veq,Z1u v]
 | .niface=>rfl
 | .agg cs=>by simp[veq,veqL_refl cs]
 | .tuple vs=>by simp[veq,veqL_refl vs]
theorem veqL_refl:∀l:List AV,veqL l l=true
 |[]=>rfl
 |v::l=>by simp[veqL,Z1u v,veqL_refl l]
end
noncomputable def ltV(n:Nat)(v:AV):Bool :=
 AV.rec (motive_1:=λ_=>Nat->Bool) (motive_2:=λ_=>Nat->Bool) (λ_ _=>true) (λ_ _ _=>true) (λ_ _=>true) (λ_=>true) (λb _ n=>Nat.blt b n) (λ_ _ _=>true) (λ_=>true)
  (λb _ _ _ _ n=>Nat.blt b n) (λ_ _ _ _ _=>true) (λ_=>true) (λb n=>Nat.blt b n) (λ_ _ _ iha ihb n=>iff' (iha n) (ihb n) false) (λ_=>true) (λ_ _ ih n=>ih n) (λ_=>true)
  (λ_ ih n=>ih n) (λ_ ih n=>ih n) (λ_=>true) (λ_ _ ihv ihl n=>iff' (ihv n) (ihl n) false) v n
noncomputable def ZlT(n:Nat)(l:List AV):Bool :=
 AV.rec_1 (motive_1:=λ_=>Nat->Bool) (motive_2:=λ_=>Nat->Bool) (λ_ _=>true) (λ_ _ _=>true) (λ_ _=>true) (λ_=>true) (λb _ n=>Nat.blt b n) (λ_ _ _=>true) (λ_=>true)
  (λb _ _ _ _ n=>Nat.blt b n) (λ_ _ _ _ _=>true) (λ_=>true) (λb n=>Nat.blt b n) (λ_ _ _ iha ihb n=>iff' (iha n) (ihb n) false) (λ_=>true) (λ_ _ ih n=>ih n) (λ_=>true)
  (λ_ ih n=>ih n) (λ_ ih n=>ih n) (λ_=>true) (λ_ _ ihv ihl n=>iff' (ihv n) (ihl n) false) l n
mutual
theorem Z6h{n:Nat}:∀(v:AV)(acc:List Nat),ltV n v=true->(∀x∈acc,x<n)->∀x∈Z0W v acc,x<n
 | .ptr b o,acc,h,ha=>by
  have hb:Nat.blt b n=true:=h
  have:b<n:=by simpa[Y02]using hb
  intro x hx;simp only[Z0W,Y07]at hx
  rcases hx with rfl|hx
  ·exact this
  ·exact ha x hx
 | .slice b o l c z,acc,h,ha=>by
  have hb:Nat.blt b n=true:=h
  have:b<n:=by simpa[Y02]using hb
  intro x hx;simp only[Z0W,Y07]at hx
  rcases hx with rfl|hx
  ·exact this
  ·exact ha x hx
 | .map b,acc,h,ha=>by
  have hb:Nat.blt b n=true:=h
  have:b<n:=by simpa[Y02]using hb
  intro x hx;simp only[Z0W,Y07]at hx
  rcases hx with rfl|hx
  ·exact this
  ·exact ha x hx
 | .func f a b,acc,h,ha=>by
  obtain⟨h1,h2⟩:=Z0K (show iff' (ZlT n a) (ZlT n b) false=true from h)
  simp only[Z0W]
  exact ltVI_refs a _ h1 (ltVI_refs b acc h2 ha)
 | .iface t v,acc,h,ha=>by simp only[Z0W];exact Z6h v acc h ha
 | .agg cs,acc,h,ha=>by simp only[Z0W];exact ltVI_refs cs acc h ha
 | .tuple cs,acc,h,ha=>by simp only[Z0W];exact ltVI_refs cs acc h ha
 | .bool _,acc,h,ha=>by simpa[Z0W]using ha
 | .int _ _,acc,h,ha=>by simpa[Z0W]using ha
 | .str _,acc,h,ha=>by simpa[Z0W]using ha
 | .nptr,acc,h,ha=>by simpa[Z0W]using ha
 | .rp _,acc,h,ha=>by simpa[Z0W]using ha
 | .nslice,acc,h,ha=>by simpa[Z0W]using ha
 | .rs _ _ _,acc,h,ha=>by simpa[Z0W]using ha
 | .nmap,acc,h,ha=>by simpa[Z0W]using ha
 | .nfunc,acc,h,ha=>by simpa[Z0W]using ha
 | .niface,acc,h,ha=>by simpa[Z0W]using ha
theorem ltVI_refs{n:Nat}:∀(l:List AV)(acc:List Nat),ZlT n l=true->(∀x∈acc,x<n)->∀x∈refsL l acc,x<n
 |[],acc,h,ha=>by simpa[refsL]using ha
 |v::l,acc,h,ha=>by
  obtain⟨h1,h2⟩:=Z0K (show iff' (ltV n v) (ZlT n l) false=true from h)
  simp only[refsL]
  exact Z6h v _ h1 (ltVI_refs l acc h2 ha)
end
noncomputable def ltL(n:Nat)(l:List AV):Bool:=List.rec true (λv _ ih=>iff' (ltV n v) ih false) l
theorem Zfb{n:Nat}:∀{l:List AV},ltL n l=true->∀v∈l,ltV n v=true
 |[],h,v,hv=>by simp at hv
 |u::l,h,v,hv=>by
  obtain⟨h1,h2⟩:=Z0K (show iff' (ltV n u) (ltL n l) false=true from h)
  rcases Y07.1 hv with rfl|hv
  ·exact h1
  ·exact Zfb h2 v hv
theorem Zcu{n:Nat}:∀(l:List AV)(acc:List Nat),ltL n l=true->(∀x∈acc,x<n)->∀x∈refsL l acc,x<n
 |[],acc,h,ha=>by simpa[refsL]using ha
 |v::l,acc,h,ha=>by
  obtain⟨h1,h2⟩:=Z0K (show iff' (ltV n v) (ltL n l) false=true from h)
  simp only[refsL]
  exact Z6h v _ h1 (Zcu l acc h2 ha)
theorem Z9p{n:Nat}:∀{l:List Nat},(∀x∈l,x<n)->Z0G n l=true
 |[],h=>rfl
 |i::l,h=>by
  simp only[Z0G,Y06]
  exact⟨by simpa[Y02]using h i (by simp),Z9p λx hx=>h x (by simp[hx])⟩
noncomputable def ltO(n:Nat)(o:AObj):Bool :=
 AObj.rec (λalive _ _ body=>iff' alive (ABody.rec (motive:=λ_=>Bool) (λcs _=>ltL n cs) (λes _=>List.rec true (λ_ _ _=>false) es) (λ_ _=>true) (λ_ _=>false) body) false) o
theorem ZhF{n:Nat}{o:AObj}(h:ltO n o=true):o.alive=true/\Z0G n (Z2M o.body [])=true:=by
 obtain⟨alive,fam,sh,body⟩:=o
 obtain⟨h1,h2⟩:=Z0K h
 refine⟨h1,Z9p ?_⟩
 cases body with
 |cells cs ty=>exact Zcu cs [] h2 (by simp)
 |map es c =>
  cases es with
  |nil=>simp[Z2M,Z8T]
  |cons e es=>cases h2
 |siter s p=>simp[Z2M]
 |loop g ts=>cases h2
theorem Z80{n:Nat}:∀{env:List (Nat×AV)},(∀t v,(t,v)∈env->ltV n v=true)->∀acc:List Nat,(∀x∈acc,x<n)->∀x∈Z0R env acc,x<n
 |[],h,acc,ha=>by simpa[Z0R]using ha
 |(t,v)::l,h,acc,ha=>by
  simp only[Z0R]
  exact Z6h v _ (h t v (by simp)) (Z80 (λt v hv=>h t v (by simp[hv])) acc ha)
section congr
variable {P:Program} {ρ ρ':Operand->Option AV} {H:Z00} {o:Oper} {orc:Orc}
theorem aevals_congr:∀{l:List Operand},(∀x∈l,ρ x = ρ' x)->Z1E ρ l=Z1E ρ' l
 |[],h=>rfl
 |x::l,h=>by
  simp only[Z1E]
  rw[h x (by simp),aevals_congr λy hy=>h y (by simp[hy])]
theorem Z2E:∀{l:List (Nat×Operand)},(∀p∈l,ρ p.2 = ρ' p.2)->Z2X ρ l=Z2X ρ' l
 |[],h=>rfl
 |(i,x)::l,h=>by
  simp only[Z2X]
  rw[h (i,x) (by simp),Z2E λy hy=>h y (by simp[hy])]
theorem Z2Z:∀{x:Option Operand},(∀y,x=some y -> ρ y = ρ' y)->Z5v ρ x=Z5v ρ' x
 |none,h=>rfl
 |some x,h=>by simp only[Z5v];rw[h x rfl]
theorem Zay{c:Call}(h:∀x∈c.operands.toList,ρ x = ρ' x):callee ρ c=callee ρ' c:=by
 unfold callee
 cases hc:c.callee with
 |value f =>
  have h1 : ρ f = ρ' f:=h f (by simp[Call.operands,hc])
  have h2:Z1E ρ c.args.toList=Z1E ρ' c.args.toList:=aevals_congr λx hx=>h x (by simp[Call.operands,hc];exact .inr (by simpa using hx))
  simp only[h1,h2]
 |_=>rfl
theorem Z2V{c:Call}{l:List Operand}(hl:c.args.toList=l)(h:∀x∈c.operands.toList,ρ x = ρ' x):∀x∈l,ρ x = ρ' x:=by
 subst hl
 intro x hx
 exact h x (by simp only[Call.operands,Y0g,Y0h];exact .inr hx)
theorem Z4t(h:∀x∈o.op.operands.toList,ρ x = ρ' x):Z02 P ρ H o=Z02 P ρ' H o:=by
 unfold Z02 Z0p
 cases ho:o.op with
 |build t ps =>
  rw[ho]at h;simp only
  rw[Z2E (ρ:=ρ) (ρ':=ρ') λp hp=>h p.2 (by simp only[Op.operands];exact List.mem_map.2 ⟨p,hp,rfl⟩)]
 |makeFunc fn f c =>
  rw[ho]at h;simp only
  rw[aevals_congr (ρ:=ρ) (ρ':=ρ') (l:=f.toList) λx hx=>h x (by simp only[Op.operands,Y0g,Y0h];exact .inl hx),
   aevals_congr (ρ:=ρ) (ρ':=ρ') (l:=c.toList) λx hx=>h x (by simp only[Op.operands,Y0g,Y0h];exact .inr hx)]
 |slice t x lo hi mx =>
  rw[ho]at h
  cases mx with
  |some m =>
   cases hi with
   |none=>rfl
   |some hi =>
    simp only
    have h1 : ρ x = ρ' x:=h x (by simp[Op.operands])
    have h2:Z5v ρ lo=Z5v ρ' lo:=Z2Z λy hy=>h y (by subst hy;simp[Op.operands])
    have h3 : ρ hi = ρ' hi:=h hi (by simp[Op.operands])
    have h4 : ρ m = ρ' m:=h m (by simp[Op.operands])
    rw[h1,h2,h3,h4]
  |none =>
   simp only
   have h1 : ρ x = ρ' x:=h x (by simp[Op.operands])
   have h2:Z5v ρ lo=Z5v ρ' lo:=Z2Z λy hy=>h y (by subst hy;simp[Op.operands])
   have h3:Z5v ρ hi=Z5v ρ' hi:=Z2Z λy hy=>h y (by subst hy;simp[Op.operands])
   rw[h1,h2,h3]
 |call c =>
  rw[ho]at h
  have h':∀x∈c.operands.toList,ρ x = ρ' x:=h
  simp only
  cases hc:c.callee with
  |builtin b =>
   cases b<;>simp only
   all_goals first
    |rfl
    |(rw[aevals_congr (ρ:=ρ) (ρ':=ρ') (Z2V rfl h')])
    | (split
       · rename_i x t ts ha ht
         rw[Z2V ha h' x (by simp)]
       ·rfl)
  |_=>rfl
 |_=>(rw[ho]at h)<;>(simp only[Op.operands]at h;simp_all)
theorem ZdQ(h:∀x∈o.op.operands.toList,ρ x = ρ' x):Z31 P ρ H o=Z31 P ρ' H o:=by
 unfold Z31
 cases ho:o.op with
 |buildSlice t len ps =>
  rw[ho]at h;simp only
  rw[Z2E (ρ:=ρ) (ρ':=ρ') λp hp=>h p.2 (by simp only[Op.operands];exact List.mem_map.2 ⟨p,hp,rfl⟩)]
 |call c =>
  rw[ho]at h
  have h':∀x∈c.operands.toList,ρ x = ρ' x:=h
  simp only
  cases hc:c.callee with
  |builtin b =>
   cases b<;>simp only
   all_goals first
    |rfl
    | (split
       · rename_i s x t ts ha ht
         rw[Z2V ha h' x (by simp),Z2V ha h' s (by simp)]
       ·rfl)
    | (split
       · rename_i x ha
         rw[Z2V ha h' x (by simp)]
       ·rfl)
    | (split
       · rename_i x t ha ht
         rw[Z2V ha h' x (by simp)]
       ·rfl)
  |_=>rfl
 |makeMap t r=>cases r<;>rfl
 |slice t x lo hi mx =>
  cases mx with
  |some m=>rfl
  |none =>
   rw[ho]at h
   simp only
   have h1 : ρ x = ρ' x:=h x (by simp[Op.operands])
   have h2:Z5v ρ lo=Z5v ρ' lo:=Z2Z λy hy=>h y (by subst hy;simp[Op.operands])
   have h3:Z5v ρ hi=Z5v ρ' hi:=Z2Z λy hy=>h y (by subst hy;simp[Op.operands])
   rw[h1,h2,h3]
 |_=>(rw[ho]at h)<;>(simp only[Op.operands]at h;simp_all)
theorem ZgD(h:∀x∈o.op.operands.toList,ρ x = ρ' x):aop P orc ρ o H=aop P orc ρ' o H:=by
 unfold aop
 rw[Z4t h,ZdQ h]
 cases ho:o.op with
 |call c =>
  rw[ho]at h
  simp only[Zay (show ∀x∈c.operands.toList,ρ x = ρ' x from h)]
 |_=>rfl
theorem Z9s(h:∀x∈o.op.operands.toList,ρ x = ρ' x):Z0v P ρ o=Z0v P ρ' o:=by
 unfold Z0v
 cases ho:o.op with
 |buildSlice t len ps =>
  rw[ho]at h;simp only
  rw[Z2E (ρ:=ρ) (ρ':=ρ') λp hp=>h p.2 (by simp only[Op.operands];exact List.mem_map.2 ⟨p,hp,rfl⟩)]
 |makeMap t r=>cases r<;>rfl
 |_=>(rw[ho]at h)<;>(simp only[Op.operands]at h;simp_all)
def ZjB(P:Program)(o:Oper):Bool:=match o.op with
 | .convert s d _=>match P.underlying s,P.underlying d with|_,some (.slice _)=>true|_,some .unsafePointer=>true|some .unsafePointer,_=>true|_,_=>false
 | .slice t _ _ _ _=>match P.underlying t with|some (.array _ _)=>true|_=>false
 |_=>false
def Zdp(P:Program):List Oper->Bool
 |[]=>true
 |o::l=>!ZjB P o&&Zdp P l
theorem Z89:∀{l:List Oper},Zdp P l=true->∀o∈l,ZjB P o=false
 |[],h,o,ho=>by simp at ho
 |x::l,h,o,ho=>by
  simp only[Zdp,Y06,Bool.not_eq_true']at h
  rcases Y07.1 ho with rfl|ho
  ·exact h.1
  ·exact Z89 h.2 o ho
theorem Z7s(hk:kind o<2)(hodd:ZjB P o=false){r:AV}{H':Z00}(h:aop P orc ρ o H=some (r,H')):Z02 P ρ H o=some r/\H'=H:=by
 rw[Z4u (by omega)]at h
 have he:Z31 P ρ H o=none:=by
  unfold kind at hk
  unfold Z31
  cases ho:o.op with
  |call c =>
   simp only[ho]at hk⊢
   cases hc:c.callee with
   |builtin b=>cases b<;>simp[hc]at hk⊢
   |value f=>simp[hc]at hk
   |invoke r m=>simp[hc]at hk
  |convert s d x =>
   simp only
   split
   · rename_i u hu
     have:Z7z P s d u H=none:=by
      unfold ZjB at hodd
      simp only[ho]at hodd
      unfold Z7z
      split
      · split
        · rename_i e hs hd
          simp only[hs,hd]at hodd
          cases hodd
        ·rfl
      · rw[if_neg]
        intro hc
        unfold Z5U at hc
        split at hc<;>try (cases hc;done)
        split at hc<;>try (cases hc;done)
        split at hc
        ·rename_i hs hd;simp only[hs,hd]at hodd;cases hodd
        ·rename_i hs hd;simp only[hs,hd]at hodd;cases hodd
        ·cases hc
      ·rfl
     rw[this]
   ·rfl
  |slice t x lo hi mx =>
   cases mx with
   |some m=>rfl
   |none =>
    simp only
    split
    · rename_i u lo1 hi1 _ _ _
      have:Z2H P t u lo1 hi1 H=none:=by
       unfold ZjB at hodd
       simp only[ho]at hodd
       unfold Z2H
       split
       · split
         ·rename_i ht;simp only[ht]at hodd;cases hodd
         ·rfl
       ·rfl
      rw[this]
    ·rfl
  |_=>simp[ho]at hk⊢
 split at h
 ·rename_i r' hr;simp at h;obtain⟨rfl,rfl⟩:=h;exact⟨hr,rfl⟩
 ·rw[he]at h;cases h
theorem ZbE(hk:kind o=2){r:AV}{H':Z00}(h:aop P orc ρ o H=some (r,H')):∃mk body,Z0v P ρ o=some (mk,body)/\r=mk H.length/\H'=H++[⟨true,H.length,0,body⟩]:=by
 cases ha:Z0v P ρ o with
 |some p =>
  obtain⟨mk,body⟩:=p
  rw[ZgA hk ha]at h
  simp at h
  exact⟨mk,body,rfl,h.1.symm,h.2.symm⟩
 |none =>
  exfalso
  rw[Z4u (by omega)]at h
  have hp:Z02 P ρ H o=none:=by
   unfold kind at hk
   unfold Z02 Z0p
   cases ho:o.op with
   |call c =>
    simp only[ho]at hk⊢
    cases hc:c.callee with
    |builtin b=>cases b<;>simp[hc]at hk
    |value f=>simp[hc]at hk
    |invoke r m=>simp[hc]at hk
   |_=>simp[ho]at hk⊢
  rw[hp]at h
  simp only at h
  unfold kind at hk
  unfold Z0v at ha
  unfold Z31 at h
  cases ho:o.op with
  |alloc e=>simp only[ho]at ha h;split at ha<;>simp at ha;rename_i hz;simp[ZaO,hz]at h
  |box e x=>simp only[ho]at ha h;split at ha<;>simp at ha;rename_i hz;simp[hz]at h
  |buildSlice t len ps =>
   simp only[ho]at ha h
   split at ha
   · rename_i us hus
     split at ha<;>simp at ha
     rename_i hz
     simp[hus,Z2j,hz]at h
   ·rename_i hus;simp[hus]at h
  |makeSlice t l c =>
   simp only[ho]at ha h
   split at ha
   · rename_i a b hl hc
     split at ha<;>simp at ha
     rename_i hz
     simp[hl,hc,Z1d,hz]at h
   · rename_i hne
     split at h
     ·rename_i a b hl hc;exact hne _ _ hl hc
     ·cases h
  |makeMap t r=>cases r<;>simp[ho]at ha h
  |call c =>
   simp only[ho]at hk
   cases hc:c.callee with
   |builtin b=>cases b<;>simp[hc]at hk
   |value f=>simp[hc]at hk
   |invoke r m=>simp[hc]at hk
  |_=>simp[ho]at hk
end congr
end Go.Abs
end
section
namespace Go.Abs
open Go.RowKit
theorem Z5o{vals vals':List (Option AV)}{D:Nat->Bool}{t:Nat}:∀(l:List Oper)(i:Nat)(acc:Option AV),(∀k,D k=true->vals[k]? = vals'[k]?)->Z15 vals D t l i acc=Z15 vals' D t l i acc
 |[],i,acc,h=>rfl
 |o::l,i,acc,h=>by
  simp only[Z15]
  by_cases e:D i=true
  ·rw[h i e];exact Z5o l (i+1) _ h
  · have e2:D i=false:=by cases hq:D i with|false=>rfl|true=>exact absurd hq e
    rw[e2];simp only[Bool.and_false,Y0f,if_false]
    exact Z5o l (i+1) _ h
theorem Z8U{dst:Option Tmp}{v:AV}{tm tm1:Tr}{o:Oper}(ho:o.dst=dst)(hp:Z3r dst v tm=some tm1)(t:Nat):Z10 tm1 t=if Z2g o t=true then some v else Z10 tm t:=by
 unfold Z2g
 rw[ho]
 cases dst with
 |none=>simp[Z3r]at hp;subst hp;simp
 |some d =>
  obtain⟨h3,h4,_⟩:=Z2p _ _ _ _ hp
  rw[h4]
  by_cases e:t=d
  ·simp[e]
  ·rw[if_neg e,if_neg];simpa using Ne.symm e
theorem Zcm{dst:Option Tmp}{v:AV}{tm tm1:Tr}(hp:Z3r dst v tm=some tm1)(t:Nat):tex tm1 t=tex tm t:=by
 cases dst with
 |none=>simp[Z3r]at hp;subst hp;rfl
 |some d=>exact (Z2p _ _ _ _ hp).2.2 t
theorem ZcS{m i:Nat}(h:m+1=2 ^ i)(k:Nat):bit m k=decide (k<i):=by
 have:m=2 ^ i-1:=by omega
 rw[Z56,this,Nat.testBit_two_pow_sub_one]
structure VInv (ops:List Oper) (an:List Nat) (tm:Tr) (vals:List (Option AV)) (done:Nat) (tmc:Tr):Prop where
 vlen:vals.length=ops.length
 known:∀k,bit done k=true->∃v,vals[k]? = some (some v)
 unk:∀k,bit done k=false->∀v,vals[k]? = some (some v)->False
 cls:∀k j,bit done k=true->bit (an.getD k 0) j=true->bit done j=true
 cur:∀t,Z15 vals (bit done) t ops 0 (Z10 tm t)=Z10 tmc t
 dst:∀k o d,bit done k=true->ops[k]? = some o->o.dst=some d->∃x,Z10 tmc d=some x
theorem VInv.start(ops:List Oper)(an:List Nat)(tm:Tr):VInv ops an tm (Z14 ops) 0 tm :=
 ⟨Z1A ops,λk h=>(by rw[Z1i]at h;cases h),λk _ v h=>Z2x ops k v h,λk j h=>(by rw[Z1i]at h;cases h),λt=>Z40 _ _ _ λk o _ _=>Z1i _,λk o d h=>(by rw[Z1i]at h;cases h)⟩
theorem VInv.vle{ops:List Oper}{an:List Nat}{tm tmc:Tr}{i:Nat}{vals:List (Option AV)}{done:Nat}(h:VInv ops an tm vals done tmc)(hi:bit done i=false)(r:AV):VLe vals (vals.set i (some r)) :=
 Zb8 λu hu=>h.unk i hi u hu
theorem Z45(m i k:Nat):bit (Nat.lor m (2 ^ i)) k=(bit m k || Y00 k i):=by
 rw[Z9o,ZbB]
 congr 1
 by_cases e:i=k
 ·subst e;simp
 · rw[decide_eq_false e]
   cases hq:Y00 k i with
   |false=>rfl
   |true=>exact absurd (Y01 hq).symm e
theorem VInv.next {ops : List Oper} {an : List Nat} {tm tmc tm1 : Tr} {i : Nat} {vals : List (Option AV)} {done : Nat} (h : VInv ops an tm vals done tmc) {o : Oper} (ho : ops[i]? = some o) {r : AV} (hp : Z3r o.dst r tmc = some tm1)
  (hi:bit done i=false) (han:∀k,bit (an.getD i 0) k=true->bit done k=true) (hb:an.getD i 0<2 ^ i) (htm:Z0P ops an i o=true):VInv ops an tm (vals.set i (some r)) (Nat.lor done (2 ^ i)) tm1:=by
 have hil:i<ops.length:=(Y0d.1 ho).1
 have hself:(vals.set i (some r))[i]? = some (some r):=by rw[Y08,if_pos rfl,if_pos (by rw[h.vlen];exact hil)]
 have hne:∀k,bit done k=true->k≠i:=λk hk e=>by subst e;rw[hi]at hk;cases hk
 refine⟨by rw[List.length_set,h.vlen],?_,?_,?_,?_,?_⟩
 · intro k hk
   rw[Z45,Y0i]at hk
   by_cases e:k=i
   ·subst e;exact⟨r,hself⟩
   · rw[Y08,if_neg (Ne.symm e)]
     rcases hk with hk|hk
     ·exact h.known k hk
     ·exact absurd (Y01 hk) e
 · intro k hk v hv
   rw[Z45,Bool.or_eq_false_iff]at hk
   have e:k≠i:=λe=>by subst e;simp at hk
   rw[Y08,if_neg (Ne.symm e)]at hv
   exact h.unk k hk.1 v hv
 · intro k j hk hj
   rw[Z45,Y0i]at hk⊢
   rcases hk with hk|hk
   ·exact .inl (h.cls k j hk hj)
   · have:=Y01 hk;subst this
     exact .inl (han j hj)
 · intro t
   rw [Z73 ops 0 _ o (j := i) ho (by rw [Y04]; exact hself) (D := bit done) (fun k => by rw [Y04]; exact Z45 done i k) (fun k x hx hd1 hd2 hlt => by
       rw[Y04]
       cases hq:bit done k with
       |false=>rfl
       |true =>
        exfalso
        simp only[Z0P,Y06]at htm
        have hw:Z2I an i t ops 0=true:=by
         unfold Z2g at hd1
         cases hd:o.dst with
         |none=>rw[hd]at hd1;cases hd1
         |some d=>rw[hd]at hd1;have:=Y01 hd1;subst this;have:=htm.2;rw[hd]at this;exact this
        rcases Z0Z ops 0 k x hw hx hd2 with h1|h1|h1
        ·omega
        ·rw[Y04]at h1;have:=Zgr hb h1;omega
        · rw[Y04]at h1
          have:=h.cls k i hq h1
          rw[hi]at this;cases this) (by rw[Y04];exact hi)]
   rw[Z8U rfl hp t]
   rw[Z5o (vals':=vals) ops 0 _ (λk hk=>by rw[Y08,if_neg (Ne.symm (hne k hk))]),h.cur t]
 · intro k x dd hk hx hd
   rw[Z8U rfl hp dd]
   split
   ·exact⟨r,rfl⟩
   · rename_i hnd
     rw[Z45,Y0i]at hk
     rcases hk with hk|hk
     ·exact h.dst k x dd hk hx hd
     · have:=Y01 hk;subst this
       have:x=o:=by rw[ho]at hx;simpa using hx.symm
       subst this
       exact absurd (by simp[Z2g,hd]) hnd
theorem Z3I{vals:List (Option AV)}:∀(l:List Oper)(i:Nat)(tm:Tr),(∀k,k<l.length->∃v,vals[i+k]? = some (some v))->(∀o∈l,∀d,o.dst=some d->tex tm d=true)->∃tm',Z1z vals l i tm=some tm'
 |[],i,tm,hv,hd=>⟨tm,rfl⟩
 |o::l,i,tm,hv,hd=>by
  obtain⟨v,hv0⟩:=hv 0 (by simp)
  simp only[Nat.add_zero]at hv0
  have hp:∃tm1,Z3r o.dst v tm=some tm1:=by
   cases hdo:o.dst with
   |none=>exact⟨tm,rfl⟩
   |some d=>exact Z4G (hd o (by simp) d hdo) v
  obtain⟨tm1,hp⟩:=hp
  obtain⟨tm',h'⟩:=Z3I l (i+1) tm1 (λk hk=>by have:=hv (k+1) (by simpa using hk);rwa [show i+(k+1)=i+1+k from by omega]at this) (λx hx d hdx=>by
   rw[Zcm hp d];exact hd x (by simp[hx]) d hdx)
  exact⟨tm',by simp only[Z1z,hv0,hp,h']⟩
theorem Z8r{tm:Tr}{vals:List (Option AV)}{ops:List Oper}{D:Nat->Bool}:∀(ts:List Nat),(∀t∈ts,∃v,Z15 vals D t ops 0 (Z10 tm t)=some v)->∃env,Z1r tm vals ops D ts=some env
 |[],h=>⟨[],rfl⟩
 |t::ts,h=>by
  obtain⟨v,hv⟩:=h t (by simp)
  obtain⟨e,he⟩:=Z8r ts λs hs=>h s (by simp[hs])
  exact⟨(t,v)::e,by simp[Z1r,hv,he]⟩
theorem Z8q{tm:Tr}{vals:List (Option AV)}{ops:List Oper}{D:Nat->Bool}{Q:AV->Prop}:∀(ts:List Nat)(env:List (Nat×AV)),Z1r tm vals ops D ts=some env->(∀t∈ts,∀v,Z15 vals D t ops 0 (Z10 tm t)=some v->Q v)->∀t v,(t,v)∈env->Q v
 |[],env,e,h,t,v,hm=>by simp[Z1r]at e;subst e;simp at hm
 |s::ts,env,e,h,t,v,hm=>by
  simp only[Z1r]at e
  split at e<;>simp at e
  subst e;rename_i u e' hu he
  rcases Y07.1 hm with heq|hm
  ·simp at heq;obtain⟨e1,e2⟩:=heq;rw[e2];exact h s (by simp) u hu
  ·exact Z8q ts e' he (λt ht v hv=>h t (by simp[ht]) v hv) t v hm
def Z6p(n:Nat)(ops:List Oper):List Oper->Bool
 |[]=>true
 |o::l=>Z0G n (looks ops o)&&Z6p n ops l
theorem Z5a{n:Nat}{ops:List Oper}:∀{l:List Oper},Z6p n ops l=true->∀o∈l,Z0G n (looks ops o)=true
 |[],h,o,ho=>by simp at ho
 |x::l,h,o,ho=>by
  simp only[Z6p,Y06]at h
  rcases Y07.1 ho with rfl|ho
  ·exact h.1
  ·exact Z5a h.2 o ho
def sOK(ops:List Oper)(an:List Nat):List Nat->Nat->List Nat->Bool
 |[],m,_=>Y00 (m+1) (2 ^ ops.length)
 |i::l,m,pend=>match ops[i]? with
  |none=>false
  |some o=>!bit m i&&Y00 (Nat.land (an.getD i 0) m) (an.getD i 0)&&(match kind o with
   |3=>Z3S (an.getD i 0) pend&&sOK ops an l (Nat.lor m (2 ^ i)) []
   |2=>sOK ops an l (Nat.lor m (2 ^ i)) (pend++[i])
   |_=>sOK ops an l (Nat.lor m (2 ^ i)) pend)
def Zbt(ops:List Oper):List Nat->List Nat
 |[]=>[]
 |i::l=>match ops[i]? with|some o=>if Y00 (kind o) 3 then i::Zbt ops l else Zbt ops l|none=>Zbt ops l
noncomputable def dOK(n:Nat)(ops:List Oper)(an:List Nat):Bool :=
 iff' (Z4H ops an ops 0) (iff' (Z4s an 0) (iff' (sOK ops an (Z6N ops an) 0 []) (iff' (Z3N an (Zbt ops (Z6N ops an))) (Z6p n ops ops) false) false) false) false
theorem Zcx{a m:Nat}(h:Y00 (Nat.land a m) a=true):∀k,bit a k=true->bit m k=true:=by
 intro k hk
 have e:=Y01 h
 have e':(a &&& m)=a:=e
 rw[Z56]at hk⊢
 rw[<- e',Nat.testBit_and,Y06]at hk
 exact hk.2
def Z77:List Oper->Bool
 |[]=>false
 |o::l=>Nat.ble 2 (kind o) || Z77 l
theorem Z4m:∀{l:List Oper},Z77 l=false->∀o∈l,kind o<2
 |[],h,o,ho=>by simp at ho
 |x::l,h,o,ho=>by
  simp only[Z77,Bool.or_eq_false_iff]at h
  rcases Y07.1 ho with rfl|ho
  · have:=h.1
    cases hq:Nat.ble 2 (kind o) with
    |false=>exact Nat.lt_of_not_le λhle=>by rw[Y0b hle]at hq;cases hq
    |true=>rw[hq]at this;cases this
  ·exact Z4m h.2 o ho
section facts
variable {gl:Z0n} {d n:Nat} {ops:List Oper} {an:List Nat} {tm tmc:Tr} {i:Nat} {vals:List (Option AV)} {done:Nat} {E:Tre AV d} {o:Oper}
theorem Zia (htm : Z0P ops an i o = true) (hlt : ∀ t ∈ looks ops o, t < n) (hV : VInv ops an tm vals done tmc) (hE : EnvSim d n E tmc) (hi : bit done i = false) (han : ∀ k, bit (an.getD i 0) k = true -> bit done k = true) :
  ∃env,Z1r tm vals ops (bit (an.getD i 0)) (looks ops o)=some env/\(∀t∈looks ops o,Z1s t env=some (Z2m d t E))/\(∀t v,(t,v)∈env->∃s∈looks ops o,v=Z2m d s E):=by
 simp only[Z0P,Y06]at htm
 have hlast:∀t∈looks ops o,Z15 vals (bit (an.getD i 0)) t ops 0 (Z10 tm t)=some (Z2m d t E):=by
  intro t ht
  have hw:=List.all_eq_true.1 htm.1 t ht
  rw[Z18 (D':=bit done) ops 0 _ (λk x hx hd=>?_),hV.cur t,hE t,if_pos (hlt t ht)]
  simp only[Y04]
  cases hq:bit done k with
  |true =>
   rcases Z0Z ops 0 k x hw hx hd with h1|h1|h1
   ·rw[Y04]at h1;subst h1;rw[hi]at hq;cases hq
   ·rwa [Y04]at h1
   · rw[Y04]at h1
     have:=hV.cls k i hq h1
     rw[hi]at this;cases this
  |false =>
   cases hp:bit (an.getD i 0) k with
   |false=>rfl
   |true=>rw[han k hp]at hq;cases hq
 obtain⟨env,he⟩:=Z8r (looks ops o) λt ht=>⟨_,hlast t ht⟩
 refine⟨env,he,λt ht=>?_,λt v hm=>?_⟩
 · obtain⟨u,hu⟩:=Z7k _ _ he t ht
   obtain⟨_,h2⟩:=Z5s _ _ he t u hu
   rw[hlast t ht]at h2
   rw[hu,<- h2]
 ·exact Z8q (Q:=λv=>∃s∈looks ops o,v=Z2m d s E) _ _ he (λt ht v hv=>⟨t,ht,by rw[hlast t ht]at hv;simpa using hv.symm⟩) t v hm
theorem ZhH{x:Operand}{t:Nat}(hx:x∈o.op.operands.toList)(e:x = .tmp t):t∈looks ops o:=by
 subst e
 have:=Z8a _ hx
 unfold looks
 split
 ·exact this
 · split
   · split
     ·exact List.mem_cons_of_mem _ this
     ·exact this
   ·exact this
theorem ZdH{env:List (Nat×AV)}(hl:∀t∈looks ops o,Z1s t env=some (Z2m d t E))(hE:EnvSim d n E tmc)(hlt:∀t∈looks ops o,t<n):∀x∈o.op.operands.toList,Z0L gl env x=Z1C gl tmc x:=by
 intro x hx
 cases x with
 |tmp t =>
  have ht:=ZhH (ops:=ops) hx rfl
  simp only[Z0L,Z1C,hl t ht,hE t,if_pos (hlt t ht)]
 |const v=>rfl
 |global g=>rfl
 |func f=>rfl
theorem Z1F{env:List (Nat×AV)}(hl:∀t∈looks ops o,Z1s t env=some (Z2m d t E))(hE:EnvSim d n E tmc)(hlt:∀t∈looks ops o,t<n){b:Bool}(h:Z0x ops o tmc=some b):Z0a ops env o=b:=by
 unfold Z0x at h
 unfold Z0a
 split at h
 ·rename_i e;simp at h;subst h;simp[e]
 · rename_i j want e
   split at h<;>try (simp at h;done)
   rename_i g hj
   split at h<;>try (simp at h;done)
   rename_i t ht
   have hmem:t∈looks ops o:=by simp[looks,e,hj,ht]
   simp only[e,hj,ht,hl t hmem]
   rw[hE t,if_pos (hlt t hmem)]at h
   split at h
   ·rename_i b' hb;simp at hb;simp at h;rw[hb];exact h
   · rename_i u hne hu
     simp at h hu
     subst h;subst hu
     split
     ·rename_i b' hb;simp at hb;exact absurd hb (hne b')
     ·rfl
   ·rename_i hn;cases hn
end facts
section run
variable (P:Program) (gl:Z0n) (d n:Nat)
noncomputable def ZmI(ops:List Oper)(o:Oper):Option (Z9B->Tre AV d->TH->AV->Res->Res):=if ZjB P o=true then none else match cop P gl d n o,ZkV d n ops o with
 |some F,some none=>some λforc E B v k=>F forc E B λu _=>iff' (ZkM v u) k none
 |some F,some (some (q,want))=>some λforc E B v k=>Z2t (q E) (λb=>iff' b (iff' want (F forc E B λu _=>iff' (ZkM v u) k none) k) (iff' want k (F forc E B λu _=>iff' (ZkM v u) k none))) k
 |_,_=>none
noncomputable def Zlo(an:List Nat)(aj j:Nat)(chk:TH->Res->Res)(base:TH)(k:Res)(sts:List (Nat×TH)):Res :=
 List.rec (chk base k) (λp _ ih=>Prod.rec (λe B=>iff' (bit aj e) ih (chk B (iff' (bit (an.getD e 0) j) k ih))) p) sts
abbrev Rec(d:Nat):=Nat×Tre AV d×AV
noncomputable def Zie(ops:List Oper)(j:Nat):Option (Z9B->Tre AV d->TH->AV->Res->Res):=match ops[j]? with|some o=>ZmI P gl d n ops o|none=>none
noncomputable def ZfD(ops:List Oper)(an:List Nat)(forc:Z9B)(sts:List (Nat×TH))(base:TH)(k:Res)(recs:List (Rec d)):Res :=
 List.rec k (λp _ ih=>Prod.rec (λj q=>Prod.rec (λE v=>Option.rec none (λc=>Zlo an (an.getD j 0) j (λB k=>c forc E B v k) base ih sts) (Zie P gl d n ops j)) q) p) recs
noncomputable def clk(gl:Z0n)(d n:Nat):List Nat->Option (Tre AV d->List AV)
 |[]=>some λ_=>[]
 |t::l=>match Z0H gl d n (.tmp t),clk gl d n l with|some g,some G=>some λE=>g E::G E|_,_=>none
noncomputable def ZkW(gl:Z0n)(d n:Nat)(o:Oper):Option (Tre AV d->AV):=match o.dst with|some t=>Z0H gl d n (.tmp t)|none=>none
noncomputable def Znf{β : Type}(k:Nat)(a b c e : β) : β:=Nat.rec a (λk _=>Nat.rec b (λk _=>Nat.rec c (λ_ _=>e) k) k) k
abbrev ZlM(d:Nat):=Tre AV d->TH->TH->List (Nat×TH)->List (Rec d)->(Tre AV d->TH->Res)->Res
noncomputable def Zlv(ops:List Oper)(rc:Bool)(forc:Z9B)(i:Nat)(o:Oper)(ih:ZlM d):ZlM d:=λE T B sts recs k =>
 Option.rec none (fun s => Znf (kind o)
   (s forc E T λE' T'=>ih E' T' B sts recs k)
   (iff' rc (Option.rec none (λg=>s forc E T λE' T'=>frc1 (g E') λv=>ih E' T' B sts ((i,E,v)::recs) k) (ZkW gl d n o)) (s forc E T λE' T'=>ih E' T' B sts recs k))
   (s forc E T λE' T'=>iff' (iff' (Y00 T'.sz T.sz) true (ltO T.sz (T'.get T.sz))) (ih E' T' B sts recs k) none)
   (Option.rec none (λL=>iff' (ltL T.sz (L E)) (s forc E T λE' T'=>iff' (Nat.ble T.sz T'.sz) (ih E' T' T' (Zgz sts [(i,B)]) recs k) none) none) (clk gl d n (looks ops o))))
  (Zas P gl d n ops o)
noncomputable def ZaU(ops:List Oper)(an:List Nat)(rc:Bool)(forc:Z9B)(l:List Nat):ZlM d :=
 List.rec (motive:=λ_=>ZlM d) (λE T B sts recs k=>ZfD P gl d n ops an forc sts B (k E T) recs) (λi _ ih=>Option.rec (λ_ _ _ _ _ _=>none) (λo=>Zlv P gl d n ops rc forc i o ih) (ops[i]?)) l
noncomputable def Zk9(ops:List Oper)(forc:Z9B)(E:Tre AV d)(T:TH)(k:Tre AV d->TH->Res):Res :=
 iff' (Zdp P ops) (iff' (dOK n ops (Z0T ops [])) (ZaU P gl d n ops (Z0T ops []) (Z77 ops) forc (Z6N ops (Z0T ops [])) E T T [] [] k) none) none
end run
end Go.Abs
end

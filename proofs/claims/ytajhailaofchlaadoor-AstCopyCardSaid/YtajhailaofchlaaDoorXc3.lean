/-
  Texts of this proof, one behind the other (part 3).
-/
import Derived.Test.YtajhailaofchlaaDoorXc2
import Derived.ProofKit
import Derived.OpenShut
import Derived.IntWalk
set_option linter.unusedVariables false
set_option linter.unusedSimpArgs false
set_option maxRecDepth 100000
set_option maxHeartbeats 4000000
open Nat renaming beq → Y00,eq_of_beq_eq_true → Y01,blt_eq → Y02,le_of_ble_eq_true → Y03,zero_add → Y04,le_refl → Y09,pow_succ → Y0a,ble_eq_true_of_le → Y0b,lt_of_lt_of_le → Y0e
open List renaming getElem?_cons_zero → Y05,mem_cons → Y07,getElem?_set → Y08,getElem?_eq_some_iff → Y0d,mem_append → Y0h
open Bool renaming and_eq_true → Y06,false_eq_true → Y0f,or_eq_true → Y0i
open Int renaming natCast_nonneg → Y0c
open Array renaming toList_append → Y0g
section
namespace Go.Abs
open Go.RowKit Go.ChangeShapes Go.WideShapes Go.ChangeAt
def Z2j(W:World):Z0h:=λa=>if a.block<W.heap.size then W.cell? a else none
theorem R0(W:World):R (Z2j W) noI [] W:=by
 refine⟨λb=>?_,λb p h=>?_,λb o p h=>?_,λb b' o o' p p' h=>?_,λa v h=>?_,λb o p h=>by simp at h⟩
 ·simp[noI]
 ·simp[noI]at h
 ·simp at h
 ·simp at h
 · unfold Z2j at h
   split at h
   · rename_i hb
     exact⟨hb,h,λb o p h=>by simp at h⟩
   ·simp at h
theorem Stp.below{W W':World}{sn:Z0h}{ι : Z0g}{H:Z00}(h:Stp (Z2j W) noI [] W sn ι H W'):Below W.heap.size W W' :=
 ⟨h.os,h.tape,h.output,h.size,λc hc=>h.frame c hc λb o p hb=>by simp at hb⟩
section av
variable {H:Type} {P:Program}
def Zl8(f:TypeId->DataW H->Option (List AV))(P:Program)(tot:Nat):List Field->List (DataW H)->Nat->Option (List AV)
 |[],[],off=>if Y00 off tot then some [] else none
 | fl :: fs, d :: ds, off => if Y00 fl.offset off then
   match f fl.type d,Zl8 f P tot fs ds (off+P.cellsOf fl.type) with
   |some u,some us=>if Y00 u.length (P.cellsOf fl.type) then some (u++us) else none
   |_,_=>none
  else none
 |_,_,_=>none
def ZmV(f:DataW H->Option (List AV))(ct:Nat):List (DataW H)->Option (List AV)
 |[]=>some []
 |d::ds=>match f d,ZmV f ct ds with
  |some u,some us=>if Y00 u.length ct then some (u++us) else none
  |_,_=>none
def ZjZ(P:Program):Nat->TypeId->DataW H->Option (List AV)
 |0,_,_=>none
 |n+1,t,d=>match P.underlying t,d with
  |some .bool,.lit (.bool b)=>some [.bool b]
  |some (.int k),.lit (.int _ z)=>some [.int k z]
  |some .string,.lit (.string s)=>some [.str s]
  |some (.struct fs),.agg ds=>Zl8 (ZjZ P n) P (P.cellsOf t) fs.toList ds 0
  |some (.array m e),.agg ds=>if Y00 (ds.length*P.cellsOf e) (P.cellsOf t)&&Y00 ds.length m then ZmV (ZjZ P n e) (P.cellsOf e) ds else none
  |_,_=>none
variable {enc:TypeId×Value->H} {w:World} {base:Nat} {sp:Nat->Bool} {held:Bool} {sn:Z0h} {ι : Z0g}
theorem Z8W {f : TypeId -> DataW H -> Option (List AV)} {m tot : Nat} (hf : ∀ t d us cs p, f t d = some us -> DataW.trod enc P w base sp held m t cs = some (d, p) -> LR sn ι us cs) (cs : List Value) (hl : cs.length = tot) :
  ∀(fs:List Field)(xs:List (DataW H×List MemPlace))(off:Nat)(us:List AV),Zl8 f P tot fs (xs.map (·.1)) off=some us ->
   (∀(i:Nat)(fl:Field),fs[i]? = some fl->DataW.trod enc P w base sp held m fl.type ((cs.drop fl.offset).take (P.cellsOf fl.type))=xs[i]?)->LR sn ι us (cs.drop off)
 |[],[],off,us,h,hx=>by
  simp only[Zl8,List.map_nil]at h
  split at h<;>simp at h
  subst h;rename_i e
  have:=Y01 e
  simp[LR];omega
 |[],x::xs,off,us,h,hx=>by simp[Zl8]at h
 |fl::fs,[],off,us,h,hx=>by simp[Zl8]at h
 |fl::fs,x::xs,off,us,h,hx=>by
  simp only[Zl8,List.map_cons]at h
  split at h<;>try (simp at h;done)
  rename_i e
  have:=Y01 e;subst this
  split at h<;>try (simp at h;done)
  rename_i u us' hu hus
  split at h<;>simp at h
  subst h;rename_i hul
  have hul':=Y01 hul
  have h0:=hx 0 fl rfl
  simp only[Y05]at h0
  have h1:=hf _ _ _ _ _ hu h0
  have h2:=Z8W hf cs hl fs xs _ _ hus λi fl' hi=>by simpa using hx (i+1) fl' (by simpa using hi)
  have:=h1.append h2
  rwa [<- List.drop_drop,List.take_append_drop]at this
theorem Z90 {f : DataW H -> Option (List AV)} {m ct : Nat} {e : TypeId} (hf : ∀ d us cs p, f d = some us -> DataW.trod enc P w base sp held m e cs = some (d, p) -> LR sn ι us cs) (cs : List Value) :
  ∀(xs:List (DataW H×List MemPlace))(k:Nat)(us:List AV),cs.length=(k+xs.length)*ct->ZmV f ct (xs.map (·.1))=some us ->
   (∀(i:Nat),i<xs.length->DataW.trod enc P w base sp held m e ((cs.drop ((k+i)*ct)).take ct)=xs[i]?)->LR sn ι us (cs.drop (k*ct))
 |[],k,us,hl,h,hx=>by
  simp[ZmV]at h;subst h
  simp at hl
  simp[LR,hl]
 |x::xs,k,us,hl,h,hx=>by
  simp only[ZmV,List.map_cons]at h
  split at h<;>try (simp at h;done)
  rename_i u us' hu hus
  split at h<;>simp at h
  subst h
  have h0:=hx 0 (by simp)
  simp only[Y05,Nat.add_zero]at h0
  have h1:=hf _ _ _ _ hu h0
  have h2:=Z90 hf cs xs (k+1) _ (by rw[hl];simp only[List.length_cons];congr 1;omega) hus λi hi=>by
   have:=hx (i+1) (by simpa using hi)
   rw[show k+1+i=k+(i+1) from by omega]
   simpa using this
  have:=h1.append h2
  rwa [show (k+1)*ct=k*ct+ct from by rw[Nat.add_mul];simp,<- List.drop_drop,List.take_append_drop]at this
theorem Z62:∀(n:Nat)(t:TypeId)(d:DataW H)(us:List AV)(m:Nat)(cs:List Value)(p:List MemPlace),ZjZ P n t d=some us->DataW.trod enc P w base sp held m t cs=some (d,p)->LR sn ι us cs
 |0,t,d,us,m,cs,p,h,ht=>by simp[ZjZ]at h
 |n+1,t,d,us,m,cs,p,h,ht=>by
  simp only[ZjZ]at h
  split at h<;>try (simp at h;done)
  · rename_i b hu
    simp at h;subst h
    obtain⟨b',rfl,hx⟩:=DataW.trod_bool hu ht
    simp at hx;simp[LR,VR,hx]
  · rename_i k k' z hu
    simp at h;subst h
    obtain⟨z',rfl,hx,_⟩:=DataW.trod_int hu ht
    simp at hx;simp[LR,VR,hx]
  · rename_i s hu
    simp at h;subst h
    obtain⟨s',rfl,hx,_⟩:=DataW.trod_string hu ht
    simp at hx;simp[LR,VR,hx]
  · rename_i fs ds hu
    obtain⟨xs,m',rfl,hx,hl,hlen,hf⟩:=DataW.trod_struct hu ht
    simp at hx
    obtain⟨rfl,_⟩:=hx
    have:=Z8W (m:=m') (λt d us cs p h1 h2=>Z62 n t d us m' cs p h1 h2) cs hl fs.toList xs 0 us (by simpa using h) λi fl hi=>hf i fl (by simpa using hi)
    simpa using this
  · rename_i k e ds hu
    split at h<;>try (simp at h;done)
    rename_i hc
    simp only[Y06]at hc
    obtain⟨xs,m',rfl,hx,hl,hlen,hf⟩:=DataW.trod_array hu ht
    simp at hx
    obtain⟨rfl,_⟩:=hx
    have e1:=Y01 hc.1
    have:=Z90 (m:=m') (ct:=P.cellsOf e) (e:=e) (λd us cs p h1 h2=>Z62 n e d us m' cs p h1 h2) cs xs 0 us (by rw[hl,<- e1];simp) (by simpa using h) λi hi=>by simpa using hf i (by omega)
    simpa using this
theorem ZdU{W:World}{g:Nat}(hg:g<W.heap.size):∀(us:List AV)(vs:List Value)(o:Nat),LR (Z2j W) noI us vs->(∀(i:Nat)(v:Value),vs[i]? = some v->W.cell? ⟨g,o+i,none⟩=some v)->MR (Z2j W) us g o
 |[],vs,o,h,hc=>by simp[MR]
 |u::us,vs,o,h,hc=>by
  simp only[LR]at h
  obtain⟨d,ds,rfl,h1,h2⟩:=h
  simp only[MR]
  refine⟨⟨d,?_,h1⟩,ZdU hg us ds (o+1) h2 λi v hi=>?_⟩
  ·unfold Z2j;rw[if_pos hg];simpa using hc 0 d rfl
  ·rw[show o+1+i=o+(i+1) from by omega];exact hc (i+1) v (by simpa using hi)
end av
theorem ZaV {P : Program} {W : World} {name : String} {d : DataW Unit} {g n : Nat} {t : TypeId} {us : List AV}
  (hg:P.globalNamed name=some g) (hty:(P.globals[g]?).map (·.type)=some t) (ha:ZjZ P n t d=some us) {rest:List (String×DataW Unit)} {ps:List MemPlace} (h:DataW.LaidVars P W ((name,d)::rest) ps) :
  MR (Z2j W) us g 0/\∃qs,DataW.LaidVars P W rest qs:=by
 obtain⟨g',t',cs,fuel,p,q,hg',ht',hvar,hd,hr,_⟩:=h
 obtain rfl:=Option.some.inj (hg.symm.trans hg')
 obtain rfl:=Option.some.inj (hty.symm.trans ht')
 have h1:LR (Z2j W) noI us cs.toList:=Z62 n t d us fuel cs.toList p ha hd
 have hb:g<W.heap.size:=by
  simp only[World.var?,hg,Option.bind_some]at hvar
  split at hvar
  ·rename_i hh;exact (Array.getElem?_eq_some_iff.1 hh).1
  ·simp at hvar
 refine⟨ZdU hb us cs.toList 0 h1 λi v hi=>?_,q,hr⟩
 rw[Y04,World.var?_cell hg hvar];simpa using hi
theorem Zec {H : Type} {enc : TypeId × Value -> H} {P : Program} {f : Func} {s : ChangeSpec} {Z64 fresh handsOn again : Bool} {W W' : World} {args : Array Value} {v : Value} {ds gs : List (DataW H)} {before pa pv : List MemPlace}
  (hW:DataW.Whole enc P f.params.toList s.vars Z64 W args.toList ds gs before)
  (hres:∀(b:Nat)(sp:Nat->Bool)(hd:Bool),DataW.TrodAll enc P W' b sp hd f.resultTypes.toList (v.resultList f.resultTypes.size) (s.fn H (ds++gs)).results [])
  (hargs:∀sp:Nat->Bool,(∀p∈before,sp p.block=true)->DataW.TrodAll enc P W' 0 sp true f.params.toList args.toList (s.fn H (ds++gs)).args pa)
  (hvars:∀sp:Nat->Bool,(∀p∈before,sp p.block=true)->DataW.TrodVars enc P W' sp s.vars (s.fn H (ds++gs)).vars pv)
  (hps:before=pa++pv) (hb:Below W.heap.size W W')
  (hok:∀(j:Nat)(t:TypeId)(r:Value),f.resultTypes[j]? = some t->(v.resultList f.resultTypes.size)[j]? = some r->Value.okWide P W' .any 0 t r) :
  s.post enc P f Z64 fresh handsOn again W args v W':=by
 have hlt:∀p∈before,p.block<W.heap.size:=λp hp=>hW.lt p hp
 have hold:∀p∈before,(λb=>decide (b<W.heap.size)) p.block=true:=λp hp=>by simpa using hlt p hp
 have hW':=hW
 obtain⟨_,_,_,_,_,hz,hn⟩:=hW'
 refine⟨ds,gs,before,[],pa,pv,hW,hres _ _ _,hargs _ hold,hvars _ hold,hb.frame _,λ_=>⟨hok,_,_,([]++pa)++pv,⟨[]++pa,pv,trodAll_append (hargs _ (λ_ _=>rfl)) (hres _ _ _),hvars _ (λ_ _=>rfl),rfl,?_,?_⟩,?_⟩⟩
 · intro b off hp
   have hp':MemPlace.cell b off∈before:=by rw[hps];simpa using hp
   rw[hb.frozen (hlt _ hp')]
   exact hz b off hp'
 · intro ha
   have:=hn ha
   rw[hps]at this
   simpa using this
 · intro p hp _
   rw[hps]
   simpa using hp
end Go.Abs
end
section
namespace Go.Abs
open Go.RowKit
def Zmb(f:Nat)(args:List AV):List (Nat×List AV)->Bool
 |[]=>false
 |(g,az)::l=>(Y00 f g&&veqL args az) || Zmb f args l
end Go.Abs
end
section
namespace Go.Abs
open Go.RowKit
structure N8 (α : Type) where
 a0 : α
 a1 : α
 a2 : α
 a3 : α
 a4 : α
 a5 : α
 a6 : α
 a7 : α
structure Bx (α : Type) where
 v : α
def N8.sel{α : Type}(e:N8 α):Nat -> α
 |0=>e.a0|1=>e.a1|2=>e.a2|3=>e.a3|4=>e.a4|5=>e.a5|6=>e.a6|_=>e.a7
def N8.upd{α : Type}(e:N8 α)(v : α):Nat->N8 α
 |0=>{ e with a0:=v }|1=>{ e with a1:=v }|2=>{ e with a2:=v }|3=>{ e with a3:=v }|4=>{ e with a4:=v }|5=>{ e with a5:=v }|6=>{ e with a6:=v }|_=>{ e with a7:=v }
theorem N8.sel_upd{α : Type}(e:N8 α)(v : α){i j:Nat}(hi:i<8)(hj:j<8):(e.upd v i).sel j=if j=i then v else e.sel j:=by
 match i,hi with
 |0,_|1,_|2,_|3,_|4,_|5,_|6,_|7,_ =>
  match j,hj with
  |0,_|1,_|2,_|3,_|4,_|5,_|6,_|7,_=>simp[N8.upd,N8.sel]
def Tre(α : Type):Nat->Type
 |0=>α
 |d+1=>N8 (Tre α d)
def Z2z{α : Type}:(d:Nat)->Nat->Tre α d -> α
 |0,_,e=>e
 |d+1,t,e=>Z2z d (t / 8) (N8.sel e (t % 8))
def Ze0{α : Type}:(d:Nat)->Nat -> α -> Tre α d->Tre α d
 |0,_,v,_=>v
 |d+1,t,v,e=>N8.upd e (Ze0 d (t / 8) v (N8.sel e (t % 8))) (t % 8)
theorem Z3O{α : Type}:∀(d t s:Nat)(v : α)(e:Tre α d),t<8 ^ d->s<8 ^ d->Z2z d s (Ze0 d t v e)=if s=t then v else Z2z d s e
 |0,t,s,v,e,ht,hs=>by
  simp at ht hs;subst ht;subst hs;simp[Z2z,Ze0]
 |d+1,t,s,v,e,ht,hs=>by
  have ht':t / 8<8 ^ d:=by rw[Y0a]at ht;omega
  have hs':s / 8<8 ^ d:=by rw[Y0a]at hs;omega
  refine (congrArg (Z2z d (s / 8)) (N8.sel_upd (α:=Tre α d) e (Ze0 d (t / 8) v (N8.sel (α:=Tre α d) e (t % 8))) (i:=t % 8) (j:=s % 8) (by omega) (by omega))).trans ?_
  by_cases h:s % 8=t % 8
  · rw[if_pos h,Z3O d _ _ _ _ ht' hs']
    have e1:(s / 8=t / 8) ↔ s=t:=by omega
    have e2:Z2z (d+1) s e=Z2z d (s / 8) (N8.sel (α:=Tre α d) e (t % 8)):=by rw[<- h];rfl
    rw[e2];simp only[e1]
  ·rw[if_neg h,if_neg (by intro e;exact h (by rw[e]))];rfl
noncomputable def Zop{α : Type}(k:Nat):Bx (N8 α -> α) :=
 Nat.rec ⟨λe=>e.a0⟩ (λk _=>Nat.rec ⟨λe=>e.a1⟩ (λk _=>Nat.rec ⟨λe=>e.a2⟩ (λk _=>Nat.rec ⟨λe=>e.a3⟩ (λk _=>Nat.rec ⟨λe=>e.a4⟩ (λk _=>Nat.rec ⟨λe=>e.a5⟩
  (λk _=>Nat.rec ⟨λe=>e.a6⟩ (λ_ _=>⟨λe=>e.a7⟩) k) k) k) k) k) k) k
theorem Zkz{α : Type}:∀(k:Nat)(e:N8 α),(Zop k).v e=e.sel k
 |0,_|1,_|2,_|3,_|4,_|5,_|6,_|_+7,_=>rfl
noncomputable def ZfX(α : Type)(d:Nat):Nat->Bx (Tre α d -> α) :=
 Nat.rec (motive:=λd=>Nat->Bx (Tre α d -> α)) (λ_=>⟨λe=>e⟩) (λd ih t=>Bx.rec (λg=>Bx.rec (λs=>⟨λe=>g (s e)⟩) (Zop (α:=Tre α d) (Nat.mod t 8))) (ih (Nat.div t 8))) d
theorem Z5R{α : Type}:∀(d t:Nat)(e:Tre α d),(ZfX α d t).v e=Z2z d t e
 |0,t,e=>rfl
 |d+1,t,e=>by
  refine (congrArg (ZfX α d (t / 8)).v (Zkz (α:=Tre α d) (t % 8) e)).trans ?_
  exact Z5R d _ _
abbrev ZoO(α β : Type)(d:Nat):=α -> Tre α d->(Tre α d -> β) -> β
noncomputable def Zor{α β γ : Type}(k:Nat):Bx ((α -> γ -> (γ -> β) -> β) -> α -> N8 γ -> (N8 γ -> β) -> β) :=
 Nat.rec ⟨λg v e f=>N8.rec (λa0 a1 a2 a3 a4 a5 a6 a7=>g v a0 λx=>f ⟨x,a1,a2,a3,a4,a5,a6,a7⟩) e⟩ (λk _ =>
 Nat.rec ⟨λg v e f=>N8.rec (λa0 a1 a2 a3 a4 a5 a6 a7=>g v a1 λx=>f ⟨a0,x,a2,a3,a4,a5,a6,a7⟩) e⟩ (λk _ =>
 Nat.rec ⟨λg v e f=>N8.rec (λa0 a1 a2 a3 a4 a5 a6 a7=>g v a2 λx=>f ⟨a0,a1,x,a3,a4,a5,a6,a7⟩) e⟩ (λk _ =>
 Nat.rec ⟨λg v e f=>N8.rec (λa0 a1 a2 a3 a4 a5 a6 a7=>g v a3 λx=>f ⟨a0,a1,a2,x,a4,a5,a6,a7⟩) e⟩ (λk _ =>
 Nat.rec ⟨λg v e f=>N8.rec (λa0 a1 a2 a3 a4 a5 a6 a7=>g v a4 λx=>f ⟨a0,a1,a2,a3,x,a5,a6,a7⟩) e⟩ (λk _ =>
 Nat.rec ⟨λg v e f=>N8.rec (λa0 a1 a2 a3 a4 a5 a6 a7=>g v a5 λx=>f ⟨a0,a1,a2,a3,a4,x,a6,a7⟩) e⟩ (λk _ =>
 Nat.rec ⟨λg v e f=>N8.rec (λa0 a1 a2 a3 a4 a5 a6 a7=>g v a6 λx=>f ⟨a0,a1,a2,a3,a4,a5,x,a7⟩) e⟩ (λ_ _ =>
 ⟨λg v e f=>N8.rec (λa0 a1 a2 a3 a4 a5 a6 a7=>g v a7 λx=>f ⟨a0,a1,a2,a3,a4,a5,a6,x⟩) e⟩) k) k) k) k) k) k) k
theorem ZkA{α β γ : Type}:∀(k:Nat)(g : α -> γ -> (γ -> β) -> β)(v : α)(e:N8 γ)(f:N8 γ -> β),(Zor k).v g v e f=g v (e.sel k) λx=>f (e.upd x k)
 |0,_,_,_,_|1,_,_,_,_|2,_,_,_,_|3,_,_,_,_|4,_,_,_,_|5,_,_,_,_|6,_,_,_,_|_+7,_,_,_,_=>rfl
noncomputable def ZkB(α β : Type)(d:Nat):Nat->Bx (ZoO α β d) :=
 Nat.rec (motive:=λd=>Nat->Bx (ZoO α β d)) (λ_=>⟨λv _ f=>f v⟩) (λd ih t=>Bx.rec (λg=>Bx.rec (λs=>⟨λv e f=>s g v e f⟩) (Zor (γ:=Tre α d) (Nat.mod t 8))) (ih (Nat.div t 8))) d
theorem Zc3{α β : Type}:∀(d t:Nat)(v : α)(e:Tre α d)(f:Tre α d -> β),(ZkB α β d t).v v e f=f (Ze0 d t v e)
 |0,t,v,e,f=>rfl
 |d+1,t,v,e,f=>by
  refine (ZkA (γ:=Tre α d) (t % 8) (ZkB α β d (t / 8)).v v e f).trans ?_
  exact Zc3 d _ _ _ _
def Z1j{α : Type}(v : α):(d:Nat)->Tre α d
 |0=>v
 |d+1=>⟨Z1j v d,Z1j v d,Z1j v d,Z1j v d,Z1j v d,Z1j v d,Z1j v d,Z1j v d⟩
theorem Z8s{α : Type}(v : α):∀(d t:Nat),Z2z d t (Z1j v d)=v
 |0,t=>rfl
 |d+1,t=>by
  simp only[Z2z,Z1j]
  have:∀k,N8.sel (⟨Z1j v d,Z1j v d,Z1j v d,Z1j v d,Z1j v d,Z1j v d,Z1j v d,Z1j v d⟩:N8 (Tre α d)) k=Z1j v d:=by
   intro k;match k with
   |0|1|2|3|4|5|6|_+7=>rfl
  rw[this];exact Z8s v d _
def BT(α : Type):Nat->Type
 |0=>α
 |d+1=>BT α d×BT α d
noncomputable def Zcw{α : Type}(z : α)(d:Nat):Nat->BT α d -> α :=
 Nat.rec (motive:=λd=>Nat->BT α d -> α) (λb t=>Bool.rec z t (Y00 b 0)) (λ_ ih b t=>ih (Nat.div b 2) (Bool.rec t.2 t.1 (Y00 (Nat.mod b 2) 0))) d
noncomputable def Z82{α : Type}(d:Nat):Nat -> α -> BT α d->BT α d :=
 Nat.rec (motive:=λd=>Nat -> α -> BT α d->BT α d) (λ_ v _=>v) (λ_ ih b v t=>Bool.rec (t.1,ih (Nat.div b 2) v t.2) (ih (Nat.div b 2) v t.1,t.2) (Y00 (Nat.mod b 2) 0)) d
noncomputable def Z4a{α β : Type}(d:Nat):Nat -> α -> BT α d->(BT α d -> β) -> β :=
 Nat.rec (motive:=λd=>Nat -> α -> BT α d->(BT α d -> β) -> β) (λ_ v _ f=>f v)
  (λ_ ih b v t f=>Prod.rec (λl r=>Bool.rec (ih (Nat.div b 2) v r λx=>f (l,x)) (ih (Nat.div b 2) v l λx=>f (x,r)) (Y00 (Nat.mod b 2) 0)) t) d
theorem Z3e{α β : Type}:∀(d b:Nat)(v : α)(t:BT α d)(f:BT α d -> β),Z4a d b v t f=f (Z82 d b v t)
 |0,b,v,t,f=>rfl
 |d+1,b,v,(l,r),f=>by
  show (Bool.rec (Z4a d (b / 2) v r λx=>f (l,x)) (Z4a d (b / 2) v l λx=>f (x,r)) (Y00 (b % 2) 0) : β)=f (Bool.rec (l,Z82 d (b / 2) v r) (Z82 d (b / 2) v l,r) (Y00 (b % 2) 0))
  cases Y00 (b % 2) 0 with
  |true=>exact Z3e d _ _ _ _
  |false=>exact Z3e d _ _ _ _
theorem Z5n{α : Type}(z : α):∀(d b c:Nat)(v : α)(t:BT α d),b<2 ^ d->Zcw z d c (Z82 d b v t)=if c=b then v else Zcw z d c t
 |0,b,c,v,t,h=>by
  simp at h;subst h
  show (Bool.rec z v (Y00 c 0) : α)=if c=0 then v else (Bool.rec z t (Y00 c 0) : α)
  by_cases hc:c=0
  ·subst hc;simp
  · have:Y00 c 0=false:=by cases hq:Y00 c 0 with|false=>rfl|true=>exact absurd (Y01 hq) hc
    rw[if_neg hc,this]
 |d+1,b,c,v,t,h=>by
  have h':b / 2<2 ^ d:=by rw[Y0a]at h;omega
  show Zcw z d (c / 2) (Bool.rec (Z82 (d+1) b v t).2 (Z82 (d+1) b v t).1 (Y00 (c % 2) 0))=if c=b then v else Zcw z d (c / 2) (Bool.rec t.2 t.1 (Y00 (c % 2) 0))
  have hb:Z82 (d+1) b v t=Bool.rec (t.1,Z82 d (b / 2) v t.2) (Z82 d (b / 2) v t.1,t.2) (Y00 (b % 2) 0):=rfl
  rw[hb]
  have hcase:∀n:Nat,(n % 2=0/\Y00 (n % 2) 0=true)\/(n % 2=1/\Y00 (n % 2) 0=false):=by
   intro n
   rcases Nat.mod_two_eq_zero_or_one n with e|e
   ·exact .inl ⟨e,by rw[e];rfl⟩
   ·exact .inr ⟨e,by rw[e];rfl⟩
  rcases hcase b with ⟨b1,b2⟩|⟨b1,b2⟩<;>rcases hcase c with ⟨c1,c2⟩|⟨c1,c2⟩<;>rw[b2,c2]<;>simp only
  · rw[Z5n z d _ _ _ _ h']
    have e:(c / 2=b / 2) ↔ c=b:=by omega
    simp only[e]
  ·rw[if_neg (by omega)]
  ·rw[if_neg (by omega)]
  · rw[Z5n z d _ _ _ _ h']
    have e:(c / 2=b / 2) ↔ c=b:=by omega
    simp only[e]
def Z5m{α : Type}(z : α):(d:Nat)->BT α d
 |0=>z
 |d+1=>(Z5m z d,Z5m z d)
theorem Z97{α : Type}(z : α):∀(d b:Nat),Zcw z d b (Z5m z d)=z
 |0,b=>by show (Bool.rec z z (Y00 b 0) : α)=z;cases Y00 b 0<;>rfl
 |d+1,b=>by
  show Zcw z d (b / 2) (Bool.rec (Z5m z d) (Z5m z d) (Y00 (b % 2) 0))=z
  have:(Bool.rec (Z5m z d) (Z5m z d) (Y00 (b % 2) 0):BT α d)=Z5m z d:=by cases Y00 (b % 2) 0<;>rfl
  rw[this];exact Z97 z d _
end Go.Abs
end
section
namespace Go.Abs
open Go.RowKit
structure TH where
 sz:Nat
 tr:BT AObj 12
def Z0z:AObj:=⟨false,0,0,.cells [] 0⟩
noncomputable def TH.get(T:TH)(b:Nat):AObj:=Zcw Z0z 12 b T.tr
def TH.empty:TH:=⟨0,Z5m Z0z 12⟩
structure Rep (T:TH) (H:Z00):Prop where
 sz:T.sz=H.length
 le:T.sz<=4096
 obj:∀b,(T.get b).alive=true->H[b]? = some (T.get b)
 fam:∀b c,(T.get b).alive=true->(T.get c).alive=true->(T.get b).fam=(T.get c).fam->b=c
 flt:∀b,(T.get b).alive=true->(T.get b).fam<T.sz
theorem Rep.empty:Rep TH.empty []:=by
 have h:∀b,TH.empty.get b=Z0z:=λb=>Z97 Z0z 12 b
 refine⟨rfl,by simp[TH.empty],?_,?_,?_⟩<;>intro b<;>simp[h,Z0z]
noncomputable def TH.set(T:TH)(b:Nat)(o:AObj):TH:=⟨T.sz,Z82 12 b o T.tr⟩
noncomputable def TH.push(T:TH)(o:AObj):TH:=⟨T.sz+1,Z82 12 T.sz o T.tr⟩
theorem TH.get_set{T:TH}{b:Nat}(o:AObj)(hb:b<4096)(c:Nat):(T.set b o).get c=if c=b then o else T.get c:=Z5n Z0z 12 b c o T.tr hb
theorem TH.get_push{T:TH}(o:AObj)(hb:T.sz<4096)(c:Nat):(T.push o).get c=if c=T.sz then o else T.get c:=Z5n Z0z 12 T.sz c o T.tr hb
theorem Rep.lt{T:TH}{H:Z00}(h:Rep T H){b:Nat}(hb:(T.get b).alive=true):b<T.sz:=by
 have:=(Y0d.1 (h.obj b hb)).1
 rw[h.sz];exact this
theorem Rep.set {T : TH} {H : Z00} (h : Rep T H) {b : Nat} (hb : (T.get b).alive = true) (bd : ABody) :
  Rep (T.set b { T.get b with body:=bd }) ((Z30 b (T.get b).fam H).set b { T.get b with body:=bd }):=by
 have hlt:=h.lt hb
 have hb4:b<4096:=Y0e hlt h.le
 have hg:=TH.get_set (T:=T) (b:=b) { T.get b with body:=bd } hb4
 have hal:∀c,((T.set b { T.get b with body:=bd }).get c).alive=true->(T.get c).alive=true/\((T.set b { T.get b with body:=bd }).get c).fam=(T.get c).fam:=by
  intro c hc
  rw[hg]at hc⊢
  split at hc
  ·rename_i e;subst e;rw[if_pos rfl];exact⟨hb,rfl⟩
  ·rename_i e;rw[if_neg e];exact⟨hc,rfl⟩
 refine⟨by simp[TH.set,Z30,Z0i,h.sz],h.le,?_,?_,?_⟩
 · intro c hc
   have hc':=(hal c hc).1
   rw[hg]
   split
   · rename_i e;subst e
     rw[Y08,if_pos rfl,if_pos (by rw[Z30,Z0i,<- h.sz];exact hlt)]
   · rename_i e
     rw[Y08,if_neg (Ne.symm e),Z30,Z2p,h.obj c hc']
     have hf:(T.get c).fam≠(T.get b).fam:=λhf=>e (h.fam c b hc' hb hf)
     have hf2:Y00 (T.get c).fam (T.get b).fam=false:=by cases hq:Y00 (T.get c).fam (T.get b).fam with|false=>rfl|true=>exact absurd (Y01 hq) hf
     simp[hf]
 · intro c c' hc hc' hf
   obtain⟨h1,h2⟩:=hal c hc;obtain⟨h3,h4⟩:=hal c' hc'
   exact h.fam c c' h1 h3 (by rw[<- h2,<- h4];exact hf)
 · intro c hc
   obtain⟨h1,h2⟩:=hal c hc
   rw[h2];exact h.flt c h1
theorem Rep.set'{T:TH}{H:Z00}(h:Rep T H){b fam sh:Nat}{bd0:ABody}(e:T.get b=⟨true,fam,sh,bd0⟩)(bd:ABody):Rep (T.set b ⟨true,fam,sh,bd⟩) ((Z30 b fam H).set b ⟨true,fam,sh,bd⟩):=by
 have:=h.set (b:=b) (by rw[e]) bd
 simp only[e]at this
 exact this
theorem Rep.lose{T:TH}{H:Z00}(h:Rep T H){b:Nat}{o:AObj}(hb:(T.get b).alive=true):Rep (T.set b Z0z) ((Z30 b (T.get b).fam H).set b o.dead):=by
 have hlt:=h.lt hb
 have hb4:b<4096:=Y0e hlt h.le
 have hg:=TH.get_set (T:=T) (b:=b) Z0z hb4
 have hal:∀c,((T.set b Z0z).get c).alive=true->c≠b/\(T.get c).alive=true/\(T.set b Z0z).get c=T.get c:=by
  intro c hc
  rw[hg]at hc
  split at hc
  ·simp[Z0z]at hc
  ·rename_i e;exact⟨e,hc,by rw[hg,if_neg e]⟩
 refine⟨by simp[TH.set,Z30,Z0i,h.sz],h.le,?_,?_,?_⟩
 · intro c hc
   obtain⟨e,hc',hcc⟩:=hal c hc
   rw[hcc,Y08,if_neg (Ne.symm e),Z30,Z2p,h.obj c hc']
   have hf:(T.get c).fam≠(T.get b).fam:=λhf=>e (h.fam c b hc' hb hf)
   simp[hf]
 · intro c c' hc hc' hf
   obtain⟨_,h1,h2⟩:=hal c hc;obtain⟨_,h3,h4⟩:=hal c' hc'
   rw[h2,h4]at hf
   exact h.fam c c' h1 h3 hf
 · intro c hc
   obtain⟨_,h1,h2⟩:=hal c hc
   rw[h2];exact h.flt c h1
theorem Rep.push{T:TH}{H:Z00}(h:Rep T H)(hs:T.sz<4096)(bd:ABody):Rep (T.push ⟨true,T.sz,0,bd⟩) (H++[⟨true,H.length,0,bd⟩]):=by
 have hg:=TH.get_push (T:=T) ⟨true,T.sz,0,bd⟩ hs
 refine⟨by simp[TH.push,h.sz],hs,?_,?_,?_⟩
 · intro c hc
   rw[hg]at hc⊢
   split at hc
   ·rename_i e;subst e;rw[if_pos rfl,List.getElem?_append_right (by rw[h.sz];exact Y09 _),<- h.sz];simp
   ·rename_i e;rw[if_neg e,List.getElem?_append_left (by rw[<- h.sz];exact h.lt hc)];exact h.obj c hc
 · intro c c' hc hc' hf
   rw[hg]at hc hc';rw[hg,hg]at hf
   split at hc<;>split at hc'
   ·rename_i e e';rw[e,e']
   ·rename_i e e';rw[if_pos e,if_neg e']at hf;have:=h.flt c' hc';simp at hf;omega
   ·rename_i e e';rw[if_neg e,if_pos e']at hf;have:=h.flt c hc;simp at hf;omega
   ·rename_i e e';rw[if_neg e,if_neg e']at hf;exact h.fam c c' hc hc' hf
 · intro c hc
   rw[hg]at hc⊢
   show _<T.sz+1
   split at hc
   ·rename_i e;rw[if_pos e];simp
   ·rename_i e;rw[if_neg e];have:=h.flt c hc;omega
theorem Rep.grow {T : TH} {H : Z00} (h : Rep T H) {b : Nat} (hb : (T.get b).alive = true) (hs : T.sz < 4096) (e sh : Nat) (bd : ABody) :
  Rep ((T.set b Z0z).push ⟨true,(T.get b).fam,sh,bd⟩) (ZbM (T.get b).fam e H++[⟨true,(T.get b).fam,sh,bd⟩]):=by
 have hlt:=h.lt hb
 have hb4:b<4096:=Y0e hlt h.le
 have hg1:=TH.get_set (T:=T) (b:=b) Z0z hb4
 have hg:=TH.get_push (T:=T.set b Z0z) ⟨true,(T.get b).fam,sh,bd⟩ hs
 have hsz:(T.set b Z0z).sz=T.sz:=rfl
 rw[hsz]at hg
 have hal:∀c,c≠T.sz->(((T.set b Z0z).push ⟨true,(T.get b).fam,sh,bd⟩).get c).alive=true->c≠b/\(T.get c).alive=true/\((T.set b Z0z).push ⟨true,(T.get b).fam,sh,bd⟩).get c=T.get c:=by
  intro c hne hc
  rw[hg,if_neg hne,hg1]at hc
  split at hc
  ·simp[Z0z]at hc
  ·rename_i e';exact⟨e',hc,by rw[hg,if_neg hne,hg1,if_neg e']⟩
 refine⟨by simp[TH.push,TH.set,ZbM,Z0i,h.sz],hs,?_,?_,?_⟩
 · intro c hc
   by_cases hne:c=T.sz
   · subst hne
     rw[hg,if_pos rfl,List.getElem?_append_right (by rw[ZbM,Z0i,h.sz];exact Y09 _),ZbM,Z0i,h.sz];simp
   · obtain⟨h1,h2,h3⟩:=hal c hne hc
     have hcl:=h.lt h2
     rw[h3,List.getElem?_append_left (by rw[ZbM,Z0i,<- h.sz];exact hcl),ZbM,Z2p,h.obj c h2]
     have hf:(T.get c).fam≠(T.get b).fam:=λhf=>h1 (h.fam c b h2 hb hf)
     have hf2:Y00 (T.get c).fam (T.get b).fam=false:=by cases hq:Y00 (T.get c).fam (T.get b).fam with|false=>rfl|true=>exact absurd (Y01 hq) hf
     simp[hf]
 · intro c c' hc hc' hf
   by_cases hne:c=T.sz<;>by_cases hne':c'=T.sz
   ·rw[hne,hne']
   · obtain⟨h1,h2,h3⟩:=hal c' hne' hc'
     rw[h3,hne,hg,if_pos rfl]at hf
     exact absurd (h.fam c' b h2 hb hf.symm) h1
   · obtain⟨h1,h2,h3⟩:=hal c hne hc
     rw[h3,hne',hg,if_pos rfl]at hf
     exact absurd (h.fam c b h2 hb hf) h1
   · obtain⟨h1,h2,h3⟩:=hal c hne hc
     obtain⟨h1',h2',h3'⟩:=hal c' hne' hc'
     rw[h3,h3']at hf
     exact h.fam c c' h2 h2' hf
 · intro c hc
   show _<T.sz+1
   by_cases hne:c=T.sz
   ·rw[hne,hg,if_pos rfl];have:=h.flt b hb;simp;omega
   · obtain⟨h1,h2,h3⟩:=hal c hne hc
     rw[h3];have:=h.flt c h2;omega
abbrev Res:=Option (AV×TH)
abbrev Knt:=AV->TH->Res
abbrev Z5z:=Nat->List AV->TH->Res
def Z1F(forc:Z5z)(orc:Orc):Prop:=∀f args T r T',forc f args T=some (r,T')->∀H,Rep T H->∃H',orc f args H=some (r,H')/\Rep T' H'
noncomputable def frc1{β : Type}(v:AV):(AV -> β) -> β :=
 AV.rec (motive_1:=λ_=>(AV -> β) -> β) (motive_2:=λ_=>Unit) (λb f=>f (.bool b)) (λk n f=>f (.int k n)) (λs f=>f (.str s)) (λf=>f .nptr) (λb o f=>f (.ptr b o)) (λcs _ f=>f (.rp cs)) (λf=>f .nslice)
  (λb o l c z f=>f (.slice b o l c z)) (λn z cs _ f=>f (.rs n z cs)) (λf=>f .nmap) (λb f=>f (.map b)) (λfn a b _ _ f=>f (.func fn a b)) (λf=>f .nfunc) (λt v _ f=>f (.iface t v)) (λf=>f .niface)
  (λcs _ f=>f (.agg cs)) (λvs _ f=>f (.tuple vs)) () (λ_ _ _ _=>()) v
theorem Z0o{β : Type}(v:AV)(f:AV -> β):frc1 v f=f v:=by cases v<;>rfl
noncomputable def Zej{β : Type}(v:AV):(IntKind->Int -> β) -> β -> β :=
 AV.rec (motive_1:=λ_=>(IntKind->Int -> β) -> β -> β) (motive_2:=λ_=>Unit) (λ_ _ d=>d) (λk n f _=>f k n) (λ_ _ d=>d) (λ_ d=>d) (λ_ _ _ d=>d) (λ_ _ _ d=>d) (λ_ d=>d)
  (λ_ _ _ _ _ _ d=>d) (λ_ _ _ _ _ d=>d) (λ_ d=>d) (λ_ _ d=>d) (λ_ _ _ _ _ _ d=>d) (λ_ d=>d) (λ_ _ _ _ d=>d) (λ_ d=>d)
  (λ_ _ _ d=>d) (λ_ _ _ d=>d) () (λ_ _ _ _=>()) v
theorem Z7s{β : Type}(v:AV)(f:IntKind->Int -> β)(d : β):(∃k n,v = .int k n/\Zej v f d=f k n)\/Zej v f d=d:=by
 cases v<;>first|exact .inl ⟨_,_,rfl,rfl⟩|exact .inr rfl
noncomputable def Z2G{β : Type}(v:AV):(Bool -> β) -> β -> β :=
 AV.rec (motive_1:=λ_=>(Bool -> β) -> β -> β) (motive_2:=λ_=>Unit) (λb f _=>f b) (λ_ _ _ d=>d) (λ_ _ d=>d) (λ_ d=>d) (λ_ _ _ d=>d) (λ_ _ _ d=>d) (λ_ d=>d)
  (λ_ _ _ _ _ _ d=>d) (λ_ _ _ _ _ d=>d) (λ_ d=>d) (λ_ _ d=>d) (λ_ _ _ _ _ _ d=>d) (λ_ d=>d) (λ_ _ _ _ d=>d) (λ_ d=>d)
  (λ_ _ _ d=>d) (λ_ _ _ d=>d) () (λ_ _ _ _=>()) v
theorem Z3W{β : Type}(v:AV)(f:Bool -> β)(d : β):(∃b,v = .bool b/\Z2G v f d=f b)\/((∀b,v ≠ .bool b)/\Z2G v f d=d):=by
 cases v<;>first|exact .inl ⟨_,rfl,rfl⟩|exact .inr ⟨λb h=>(by cases h),rfl⟩
noncomputable def Z4s{β : Type}(v:AV):(List UInt8 -> β) -> β -> β :=
 AV.rec (motive_1:=λ_=>(List UInt8 -> β) -> β -> β) (motive_2:=λ_=>Unit) (λ_ _ d=>d) (λ_ _ _ d=>d) (λs f _=>f s) (λ_ d=>d) (λ_ _ _ d=>d) (λ_ _ _ d=>d) (λ_ d=>d)
  (λ_ _ _ _ _ _ d=>d) (λ_ _ _ _ _ d=>d) (λ_ d=>d) (λ_ _ d=>d) (λ_ _ _ _ _ _ d=>d) (λ_ d=>d) (λ_ _ _ _ d=>d) (λ_ d=>d)
  (λ_ _ _ d=>d) (λ_ _ _ d=>d) () (λ_ _ _ _=>()) v
theorem Z3q{β : Type}(v:AV)(f:List UInt8 -> β)(d : β):(∃b,v = .str b/\Z4s v f d=f b)\/Z4s v f d=d:=by
 cases v<;>first|exact .inl ⟨_,rfl,rfl⟩|exact .inr rfl
noncomputable def onPtr{β : Type}(v:AV):(Nat->Nat -> β)->(List AV -> β) -> β -> β :=
 AV.rec (motive_1:=λ_=>(Nat->Nat -> β)->(List AV -> β) -> β -> β) (motive_2:=λ_=>Unit) (λ_ _ _ d=>d) (λ_ _ _ _ d=>d) (λ_ _ _ d=>d) (λ_ _ d=>d) (λb o f _ _=>f b o) (λcs _ _ g _=>g cs) (λ_ _ d=>d)
  (λ_ _ _ _ _ _ _ d=>d) (λ_ _ _ _ _ _ d=>d) (λ_ _ d=>d) (λ_ _ _ d=>d) (λ_ _ _ _ _ _ _ d=>d) (λ_ _ d=>d) (λ_ _ _ _ _ d=>d) (λ_ _ d=>d)
  (λ_ _ _ _ d=>d) (λ_ _ _ _ d=>d) () (λ_ _ _ _=>()) v
theorem Z7r{β : Type}(v:AV)(f:Nat->Nat -> β)(g:List AV -> β)(d : β):(∃b o,v = .ptr b o/\onPtr v f g d=f b o)\/(∃cs,v = .rp cs/\onPtr v f g d=g cs)\/onPtr v f g d=d:=by
 cases v<;>first|exact .inl ⟨_,_,rfl,rfl⟩|exact .inr (.inl ⟨_,rfl,rfl⟩)|exact .inr (.inr rfl)
noncomputable def Z1e{β : Type}(v:AV):(Nat->Nat->Nat->Nat->Nat -> β)->(Nat->Nat->List AV -> β) -> β -> β -> β :=
 AV.rec (motive_1:=λ_=>(Nat->Nat->Nat->Nat->Nat -> β)->(Nat->Nat->List AV -> β) -> β -> β -> β) (motive_2:=λ_=>Unit) (λ_ _ _ _ d=>d) (λ_ _ _ _ _ d=>d) (λ_ _ _ _ d=>d) (λ_ _ _ d=>d) (λ_ _ _ _ _ d=>d) (λ_ _ _ _ _ d=>d) (λ_ _ e _=>e)
  (λb o l c z f _ _ _=>f b o l c z) (λn z cs _ _ g _ _=>g n z cs) (λ_ _ _ d=>d) (λ_ _ _ _ d=>d) (λ_ _ _ _ _ _ _ _ d=>d) (λ_ _ _ d=>d) (λ_ _ _ _ _ _ d=>d) (λ_ _ _ d=>d)
  (λ_ _ _ _ _ d=>d) (λ_ _ _ _ _ d=>d) () (λ_ _ _ _=>()) v
theorem Z9F {β : Type} (v : AV) (f : Nat -> Nat -> Nat -> Nat -> Nat -> β) (g : Nat -> Nat -> List AV -> β) (e d : β) :
  (∃b o l c z,v = .slice b o l c z/\Z1e v f g e d=f b o l c z)\/(∃n z cs,v = .rs n z cs/\Z1e v f g e d=g n z cs)\/(v = .nslice/\Z1e v f g e d=e)\/Z1e v f g e d=d:=by
 cases v<;>first|exact .inl ⟨_,_,_,_,_,rfl,rfl⟩|exact .inr (.inl ⟨_,_,_,rfl,rfl⟩)|exact .inr (.inr (.inl ⟨rfl,rfl⟩))|exact .inr (.inr (.inr rfl))
noncomputable def Z7q{β : Type}(v:AV):(List AV -> β) -> β -> β :=
 AV.rec (motive_1:=λ_=>(List AV -> β) -> β -> β) (motive_2:=λ_=>Unit) (λ_ _ d=>d) (λ_ _ _ d=>d) (λ_ _ d=>d) (λ_ d=>d) (λ_ _ _ d=>d) (λ_ _ _ d=>d) (λ_ d=>d)
  (λ_ _ _ _ _ _ d=>d) (λ_ _ _ _ _ d=>d) (λ_ d=>d) (λ_ _ d=>d) (λ_ _ _ _ _ _ d=>d) (λ_ d=>d) (λ_ _ _ _ d=>d) (λ_ d=>d)
  (λ_ _ _ d=>d) (λvs _ f _=>f vs) () (λ_ _ _ _=>()) v
theorem Z9E{β : Type}(v:AV)(f:List AV -> β)(d : β):(∃b,v = .tuple b/\Z7q v f d=f b)\/Z7q v f d=d:=by
 cases v<;>first|exact .inl ⟨_,rfl,rfl⟩|exact .inr rfl
noncomputable def Zcc{β : Type}(v:AV):(List AV -> β) -> β -> β :=
 AV.rec (motive_1:=λ_=>(List AV -> β) -> β -> β) (motive_2:=λ_=>Unit) (λ_ _ d=>d) (λ_ _ _ d=>d) (λ_ _ d=>d) (λ_ d=>d) (λ_ _ _ d=>d) (λ_ _ _ d=>d) (λ_ d=>d)
  (λ_ _ _ _ _ _ d=>d) (λ_ _ _ _ _ d=>d) (λ_ d=>d) (λ_ _ d=>d) (λ_ _ _ _ _ _ d=>d) (λ_ d=>d) (λ_ _ _ _ d=>d) (λ_ d=>d)
  (λvs _ f _=>f vs) (λ_ _ _ d=>d) () (λ_ _ _ _=>()) v
theorem Zcb{β : Type}(v:AV)(f:List AV -> β)(d : β):(∃b,v = .agg b/\Zcc v f d=f b)\/((∀b,v ≠ .agg b)/\Zcc v f d=d):=by
 cases v<;>first|exact .inl ⟨_,rfl,rfl⟩|exact .inr ⟨λb h=>(by cases h),rfl⟩
noncomputable def onFunc{β : Type}(v:AV):(Fn->List AV->List AV -> β) -> β -> β :=
 AV.rec (motive_1:=λ_=>(Fn->List AV->List AV -> β) -> β -> β) (motive_2:=λ_=>Unit) (λ_ _ d=>d) (λ_ _ _ d=>d) (λ_ _ d=>d) (λ_ d=>d) (λ_ _ _ d=>d) (λ_ _ _ d=>d) (λ_ d=>d)
  (λ_ _ _ _ _ _ d=>d) (λ_ _ _ _ _ d=>d) (λ_ d=>d) (λ_ _ d=>d) (λfn a b _ _ f _=>f fn a b) (λ_ d=>d) (λ_ _ _ _ d=>d) (λ_ d=>d)
  (λ_ _ _ d=>d) (λ_ _ _ d=>d) () (λ_ _ _ _=>()) v
theorem ZaL{β : Type}(v:AV)(f:Fn->List AV->List AV -> β)(d : β):(∃fn a b,v = .func fn a b/\onFunc v f d=f fn a b)\/onFunc v f d=d:=by
 cases v<;>first|exact .inl ⟨_,_,_,rfl,rfl⟩|exact .inr rfl
noncomputable def onNat{β : Type}(v:AV)(f:IntKind->Nat -> β)(d : β) : β:=Zej v (λk n=>Int.rec (λm=>f k m) (λ_=>d) n) d
theorem Z2l{β : Type}(v:AV)(f:IntKind->Nat -> β)(d : β):(∃k n,v = .int k (Int.ofNat n)/\onNat v f d=f k n)\/onNat v f d=d:=by
 unfold onNat
 rcases Z7s v (λk n=>(Int.rec (λm=>f k m) (λ_=>d) n : β)) d with ⟨k,n,rfl,h⟩|h
 · cases n with
   |ofNat m=>exact .inl ⟨k,m,rfl,h⟩
   |negSucc m=>exact .inr h
 ·exact .inr h
noncomputable def Z1f{β : Type}(o:AObj):(Nat->Nat->List AV->TypeId -> β) -> β -> β :=
 AObj.rec (λalive fam sh body f d=>Bool.rec d (ABody.rec (motive:=λ_=>(Nat->Nat->List AV->TypeId -> β) -> β -> β) (λcs ty f _=>f fam sh cs ty) (λ_ _ _ d=>d) (λ_ _ _ d=>d) (λ_ _ _ d=>d) body f d) alive) o
theorem Z9G{β : Type}(o:AObj)(f:Nat->Nat->List AV->TypeId -> β)(d : β):(∃fam sh cs ty,o=⟨true,fam,sh,.cells cs ty⟩/\Z1f o f d=f fam sh cs ty)\/Z1f o f d=d:=by
 obtain⟨alive,fam,sh,body⟩:=o
 cases alive with
 |false=>exact .inr rfl
 |true=>cases body<;>first|exact .inl ⟨_,_,_,_,rfl,rfl⟩|exact .inr rfl
noncomputable def ZaK{β : Type}(o:AObj):(Nat->Nat->List (AV×AV×Nat)->Nat -> β) -> β -> β :=
 AObj.rec (λalive fam sh body f d=>Bool.rec d (ABody.rec (motive:=λ_=>(Nat->Nat->List (AV×AV×Nat)->Nat -> β) -> β -> β) (λ_ _ _ d=>d) (λes c f _=>f fam sh es c) (λ_ _ _ d=>d) (λ_ _ _ d=>d) body f d) alive) o
theorem Zc9{β : Type}(o:AObj)(f:Nat->Nat->List (AV×AV×Nat)->Nat -> β)(d : β):(∃fam sh es c,o=⟨true,fam,sh,.map es c⟩/\ZaK o f d=f fam sh es c)\/ZaK o f d=d:=by
 obtain⟨alive,fam,sh,body⟩:=o
 cases alive with
 |false=>exact .inr rfl
 |true=>cases body<;>first|exact .inl ⟨_,_,_,_,rfl,rfl⟩|exact .inr rfl
noncomputable def iff'{β : Type}(b:Bool)(x y : β) : β:=Bool.rec y x b
theorem Z24{β : Type}(b:Bool)(x y : β):iff' b x y=if b=true then x else y:=by cases b<;>rfl
noncomputable def ZjL{α β : Type}(l:List α):Nat->(α -> β) -> β -> β :=
 List.rec (motive:=λ_=>Nat->(α -> β) -> β -> β) (λ_ _ d=>d) (λv _ ih n f d=>Nat.rec (f v) (λm _=>ih m f d) n) l
theorem Z8V{α β : Type}:∀(l:List α)(n:Nat)(f : α -> β)(d : β),(∃v,l[n]? = some v/\ZjL l n f d=f v)\/ZjL l n f d=d
 |[],n,f,d=>.inr rfl
 |v::l,0,f,d=>.inl ⟨v,rfl,rfl⟩
 |v::l,n+1,f,d=>by
  rcases Z8V l n f d with ⟨x,h1,h2⟩|h
  ·exact .inl ⟨x,by simpa using h1,h2⟩
  ·exact .inr h
noncomputable def Z8l{α : Type}(l:List α):Nat->List α :=
 List.rec (motive:=λ_=>Nat->List α) (λ_=>[]) (λv l ih n=>Nat.rec (v::l) (λm _=>ih m) n) l
theorem Z1R{α : Type}:∀(l:List α)(n:Nat),Z8l l n=l.drop n
 |[],n=>by cases n<;>rfl
 |v::l,0=>rfl
 |v::l,n+1=>Z1R l n
noncomputable def Zkj{α β : Type}(l:List α):Nat->(List α -> β) -> β :=
 List.rec (motive:=λ_=>Nat->(List α -> β) -> β) (λ_ f=>f []) (λv _ ih n f=>Nat.rec (f []) (λm _=>ih m λr=>f (v::r)) n) l
theorem Z9k{α β : Type}:∀(l:List α)(n:Nat)(f:List α -> β),Zkj l n f=f (l.take n)
 |[],n,f=>by cases n<;>rfl
 |v::l,0,f=>rfl
 |v::l,n+1,f=>Z9k l n _
noncomputable def tkR{β : Type}(n:Nat):List AV->(List AV -> β) -> β -> β :=
 Nat.rec (motive:=λ_=>List AV->(List AV -> β) -> β -> β) (λ_ f _=>f []) (λ_ ih l f d=>List.rec (motive:=λ_=>β) d (λc l _=>ih l (λr=>f (c::r)) d) l) n
theorem Zar{β : Type}:∀(n:Nat)(l:List AV)(f:List AV -> β)(d : β),(∃r,tk n l=some r/\tkR n l f d=f r)\/tkR n l f d=d
 |0,l,f,d=>.inl ⟨[],by cases l<;>rfl,rfl⟩
 |n+1,[],f,d=>.inr rfl
 |n+1,c::l,f,d=>by
  rcases Zar n l (λr=>f (c::r)) d with ⟨r,h1,h2⟩|h
  ·exact .inl ⟨c::r,by simp[tk,h1],h2⟩
  ·exact .inr h
noncomputable def Zm9{β : Type}(l:List AV):Nat->List AV->(List AV -> β) -> β -> β :=
 List.rec (motive:=λ_=>Nat->List AV->(List AV -> β) -> β -> β) (λn vs f d=>Nat.rec (List.rec (f []) (λ_ _ _=>d) vs) (λ_ _=>d) n)
  (λc l ih n vs f d=>Nat.rec (List.rec (f (c::l)) (λv vs _=>ih 0 vs (λr=>f (v::r)) d) vs) (λm _=>ih m vs (λr=>f (c::r)) d) n) l
theorem Z5D{β : Type}:∀(l:List AV)(n:Nat)(vs:List AV)(f:List AV -> β)(d : β),(∃r,spl l n vs=some r/\Zm9 l n vs f d=f r)\/Zm9 l n vs f d=d
 |[],0,[],f,d=>.inl ⟨[],rfl,rfl⟩
 |[],0,_::_,f,d=>.inr rfl
 |[],n+1,vs,f,d=>.inr rfl
 |c::l,0,[],f,d=>.inl ⟨c::l,by simp[spl],rfl⟩
 |c::l,0,v::vs,f,d=>by
  rcases Z5D l 0 vs (λr=>f (v::r)) d with ⟨r,h1,h2⟩|h
  ·exact .inl ⟨v::r,by simp[spl,h1],h2⟩
  ·exact .inr h
 |c::l,n+1,vs,f,d=>by
  rcases Z5D l n vs (λr=>f (c::r)) d with ⟨r,h1,h2⟩|h
  ·exact .inl ⟨c::r,by simp[spl,h1],h2⟩
  ·exact .inr h
noncomputable def Zil{α : Type}(l:List α):Nat:=List.rec 0 (λ_ _ ih=>Nat.succ ih) l
theorem Z3s{α : Type}:∀(l:List α),Zil l=l.length
 |[]=>rfl
 |_::l=>congrArg Nat.succ (Z3s l)
noncomputable def eqS(l:List UInt8):List UInt8->Bool :=
 List.rec (motive:=λ_=>List UInt8->Bool) (λm=>List.rec true (λ_ _ _=>false) m) (λc l ih m=>List.rec false (λc' m _=>Bool.rec false (ih m) (Y00 (UInt8.toNat c) (UInt8.toNat c'))) m) l
theorem Zgm:∀(l m:List UInt8),eqS l m=(l==m)
 |[],[]=>rfl
 |[],_::_=>rfl
 |_::_,[]=>rfl
 |c::l,c'::m=>by
  show (Bool.rec false (eqS l m) (Y00 (UInt8.toNat c) (UInt8.toNat c')):Bool)=_
  rw[Zgm l m,List.cons_beq_cons]
  by_cases h:c=c'
  ·subst h;simp
  · have h2:Y00 (UInt8.toNat c) (UInt8.toNat c')=false:=by cases hq:Y00 (UInt8.toNat c) (UInt8.toNat c') with|false=>rfl|true=>exact absurd (UInt8.toNat_inj.1 (Y01 hq)) h
    rw[h2];simp[h]
end Go.Abs
end
section
namespace Go.Abs
open Go.RowKit
noncomputable def Zle{β : Type}(n:Int):(Int -> β) -> β:=Int.rec (motive:=λ_=>(Int -> β) -> β) (λm f=>Nat.rec (motive:=λ_=>β) (f (.ofNat 0)) (λm _=>f (.ofNat (Nat.succ m))) m) (λm f=>Nat.rec (motive:=λ_=>β) (f (.negSucc 0)) (λm _=>f (.negSucc (Nat.succ m))) m) n
theorem ZiE{β : Type}(n:Int)(f:Int -> β):Zle n f=f n:=by cases n with|ofNat m=>cases m<;>rfl|negSucc m=>cases m<;>rfl
noncomputable def Z0S{β : Type}(n:Nat):(Nat -> β) -> β:=Nat.rec (motive:=λ_=>(Nat -> β) -> β) (λf=>f 0) (λm _ f=>f (Nat.succ m)) n
theorem Z0X{β : Type}(n:Nat)(f:Nat -> β):Z0S n f=f n:=by cases n<;>rfl
noncomputable def Zcl{β : Type}(b:Bool):(Bool -> β) -> β:=Bool.rec (motive:=λ_=>(Bool -> β) -> β) (λf=>f false) (λf=>f true) b
theorem Z5g{β : Type}(b:Bool)(f:Bool -> β):Zcl b f=f b:=by cases b<;>rfl
noncomputable def ZiC{β : Type}(s:List UInt8):(List UInt8 -> β) -> β:=List.rec (motive:=λ_=>(List UInt8 -> β) -> β) (λf=>f []) (λc _ ih f=>ih λl=>f (c::l)) s
theorem Zdu{β : Type}:∀(s:List UInt8)(f:List UInt8 -> β),ZiC s f=f s
 |[],f=>rfl
 |c::s,f=>by show ZiC s (λl=>f (c::l))=_;rw[Zdu s]
noncomputable def Z6B{β : Type}(v:AV):(AV -> β) -> β :=
 AV.rec (motive_1:=λ_=>(AV -> β) -> β) (motive_2:=λ_=>(List AV -> β) -> β) (λb f=>Zcl b λb=>f (.bool b)) (λk n f=>Zle n λn=>f (.int k n)) (λs f=>ZiC s λs=>f (.str s)) (λf=>f .nptr)
  (λb o f=>Z0S b λb=>Z0S o λo=>f (.ptr b o)) (λcs _ f=>f (.rp cs)) (λf=>f .nslice)
  (λb o l c z f=>Z0S b λb=>Z0S o λo=>Z0S l λl=>Z0S c λc=>Z0S z λz=>f (.slice b o l c z)) (λn z cs _ f=>Z0S n λn=>f (.rs n z cs)) (λf=>f .nmap) (λb f=>Z0S b λb=>f (.map b))
  (λfn _ _ iha ihb f=>iha λa=>ihb λb=>f (.func fn a b)) (λf=>f .nfunc) (λt _ ih f=>ih λv=>f (.iface t v)) (λf=>f .niface)
  (λ_ ih f=>ih λcs=>f (.agg cs)) (λ_ ih f=>ih λvs=>f (.tuple vs)) (λf=>f []) (λ_ _ ihv ihl f=>ihv λv=>ihl λl=>f (v::l)) v
noncomputable def Zdt{β : Type}(l:List AV):(List AV -> β) -> β :=
 AV.rec_1 (motive_1:=λ_=>(AV -> β) -> β) (motive_2:=λ_=>(List AV -> β) -> β) (λb f=>Zcl b λb=>f (.bool b)) (λk n f=>Zle n λn=>f (.int k n)) (λs f=>ZiC s λs=>f (.str s)) (λf=>f .nptr)
  (λb o f=>Z0S b λb=>Z0S o λo=>f (.ptr b o)) (λcs _ f=>f (.rp cs)) (λf=>f .nslice)
  (λb o l c z f=>Z0S b λb=>Z0S o λo=>Z0S l λl=>Z0S c λc=>Z0S z λz=>f (.slice b o l c z)) (λn z cs _ f=>Z0S n λn=>f (.rs n z cs)) (λf=>f .nmap) (λb f=>Z0S b λb=>f (.map b))
  (λfn _ _ iha ihb f=>iha λa=>ihb λb=>f (.func fn a b)) (λf=>f .nfunc) (λt _ ih f=>ih λv=>f (.iface t v)) (λf=>f .niface)
  (λ_ ih f=>ih λcs=>f (.agg cs)) (λ_ ih f=>ih λvs=>f (.tuple vs)) (λf=>f []) (λ_ _ ihv ihl f=>ihv λv=>ihl λl=>f (v::l)) l
noncomputable def Z6p{β : Type}(l:List AV):(List AV -> β) -> β:=List.rec (motive:=λ_=>(List AV -> β) -> β) (λf=>f []) (λv _ ih f=>Z6B v λv=>ih λl=>f (v::l)) l
mutual
theorem Z1y{β : Type}:∀(v:AV)(f:AV -> β),Z6B v f=f v
 | .bool b,f=>Z5g b _
 | .int k n,f=>ZiE n _
 | .str s,f=>Zdu s _
 | .nptr,f=>rfl
 | .ptr b o,f=>by show (Z0S b λb=>Z0S o λo=>f (.ptr b o))=_;simp only[Z0X]
 | .rp cs,f=>rfl
 | .nslice,f=>rfl
 | .slice b o l c z,f=>by show (Z0S b λb=>Z0S o λo=>Z0S l λl=>Z0S c λc=>Z0S z λz=>f (.slice b o l c z))=_;simp only[Z0X]
 | .rs n z cs,f=>Z0X n _
 | .nmap,f=>rfl
 | .map b,f=>Z0X b _
 | .func fn a b,f=>by show (Zdt a λa=>Zdt b λb=>f (.func fn a b))=_;simp only[frcVLI_eq]
 | .nfunc,f=>rfl
 | .iface t v,f=>Z1y v _
 | .niface,f=>rfl
 | .agg cs,f=>frcVLI_eq cs _
 | .tuple vs,f=>frcVLI_eq vs _
theorem frcVLI_eq{β : Type}:∀(l:List AV)(f:List AV -> β),Zdt l f=f l
 |[],f=>rfl
 |v::l,f=>by show (Z6B v λv=>Zdt l λl=>f (v::l))=_;rw[Z1y v];exact frcVLI_eq l _
end
theorem Z2q{β : Type}:∀(l:List AV)(f:List AV -> β),Z6p l f=f l
 |[],f=>rfl
 |v::l,f=>by show (Z6B v λv=>Z6p l λl=>f (v::l))=_;rw[Z1y v];exact Z2q l _
noncomputable def Z0E(gl:Glob)(d n:Nat)(x:Operand):Option (Tre AV d->AV) :=
 match x with
 | .tmp t=>iff' (Nat.blt t n) (Bx.rec (λg=>some g) (ZfX AV d t)) none
 | .const v=>match ofV v with|some c=>Z6B c λc=>some λ_=>c|none=>none
 | .global g=>match gl g with|some cs=>some λ_=>.rp cs|none=>none
 | .func f=>some λ_=>.func (.func f) [] []
noncomputable def Z4r(gl:Glob)(d n:Nat)(E:Tre AV d)(x:Operand):Option AV:=match Z0E gl d n x with|some g=>some (g E)|none=>none
theorem Z05{gl:Glob}{d n:Nat}{E:Tre AV d}{x:Operand}{g:Tre AV d->AV}(h:Z0E gl d n x=some g):Z4r gl d n E x=some (g E):=by
 simp[Z4r,h]
def EnvSim(d n:Nat)(E:Tre AV d)(tm:Tr):Prop:=∀t,Z11 tm t=if t<n then some (Z2z d t E) else none
theorem Z9y{gl:Glob}{d n:Nat}{E:Tre AV d}{tm:Tr}(h:EnvSim d n E tm):Z4r gl d n E=Z1E gl tm:=by
 funext x
 unfold Z4r Z0E Z1E
 cases x with
 |tmp t =>
  simp only[h t,Z24]
  by_cases ht:t<n
  · have hb:Nat.blt t n=true:=by simpa[Y02]using ht
    rw[if_pos hb,if_pos ht]
    show some ((ZfX AV d t).v E)=_
    rw[Z5R]
  · have hb:¬Nat.blt t n=true:=by simpa[Y02]using ht
    rw[if_neg hb,if_neg ht]
 |const v=>cases hv:ofV v<;>simp[Z1y,hv]
 |global g=>cases hg:gl g<;>simp[hg]
 |func f=>rfl
abbrev OpF(d:Nat):=Z5z->Tre AV d->TH->Knt->Res
def Z1i(P:Program)(gl:Glob)(d n:Nat)(o:Oper)(F:OpF d):Prop :=
 ∀forc orc E T k out H,Z1F forc orc->Rep T H->F forc E T k=some out->∃r T' H',aop P orc (Z4r gl d n E) o H=some (r,H')/\Rep T' H'/\k r T'=some out
section ok
variable {P:Program} {gl:Glob} {d n:Nat} {orc:Orc} {ρ : Operand->Option AV} {H:Z00} {o:Oper}
theorem Zcv{c:Call}{b:Builtin}(h:c.callee = .builtin b):callee ρ c=none:=by simp[callee,h]
theorem Z4K(h:kind o<3):aop P orc ρ o H=(match Z02 P ρ H o with|some r=>some (r,H)|none=>Z3j P ρ H o):=by
 have hc:∀c,o.op = .call c->callee ρ c=none:=by
  intro c ho
  unfold kind at h
  simp only[ho]at h
  cases hc:c.callee with
  |builtin b=>exact Zcv hc
  |value f=>simp[hc]at h
  |invoke r m=>simp[hc]at h
 unfold aop
 split
 · rename_i g args hx
   split at hx
   ·rename_i c ho;rw[hc c ho]at hx;cases hx
   ·cases hx
 ·rfl
theorem Z0d(hk:kind o<3){r:AV}(h:Z02 P ρ H o=some r):aop P orc ρ o H=some (r,H):=by
 rw[Z4K hk,h]
theorem Zhg(hk:kind o=2){mk:Nat->AV}{body:ABody}(h:Z0t P ρ o=some (mk,body)):aop P orc ρ o H=some (mk H.length,H++[⟨true,H.length,0,body⟩]):=by
 rw[Z4K (by omega)]
 have hp:Z02 P ρ H o=none:=by
  unfold kind at hk
  unfold Z02 Z0l
  cases ho:o.op with
  |call c =>
   simp only[ho]at hk⊢
   cases hc:c.callee with
   |builtin b=>cases b<;>simp[hc]at hk
   |value f=>simp[hc]at hk
   |invoke r m=>simp[hc]at hk
  |_=>simp[ho]at hk⊢
 simp only[hp]
 unfold Z0t at h
 unfold Z3j
 cases ho:o.op with
 |alloc e =>
  simp only[ho]at h⊢
  split at h<;>simp at h
  rename_i z hz
  obtain⟨rfl,rfl⟩:=h
  simp[ZbE,hz,Z14]
 |box e x =>
  simp only[ho]at h⊢
  split at h<;>simp at h
  rename_i z hz
  obtain⟨rfl,rfl⟩:=h
  simp[hz,Zny,Z14]
 |buildSlice t len ps =>
  simp only[ho]at h⊢
  split at h<;>try (simp at h;done)
  rename_i us hus
  split at h<;>simp at h
  rename_i cs e z hz
  obtain⟨rfl,rfl⟩:=h
  simp[hus,Z2x,hz,Z14]
 |makeSlice t l c =>
  simp only[ho]at h⊢
  split at h<;>try (simp at h;done)
  rename_i a b ha hb
  split at h<;>simp at h
  rename_i zs e z ln cp hz
  obtain⟨rfl,rfl⟩:=h
  simp[ha,hb,Z0U,hz,Z14]
 |makeMap t r =>
  cases r with
  |none =>
   simp only[ho]at h⊢
   simp at h
   obtain⟨rfl,rfl⟩:=h
   simp
  |some x=>simp[ho]at h
 |_=>simp[ho]at h
noncomputable def Zay(P:Program)(gl:Glob)(d n:Nat)(o:Oper):OpF d:=λ_ E T k=>match Z02 P (Z4r gl d n E) [] o with|some r=>Z6B r λr=>k r T|none=>none
theorem Zhe{src dst:TypeId}{x:Operand}(ho:o.op = .convert src dst x){r:AV}(h:Z02 P ρ [] o=some r):Z02 P ρ H o=some r:=by
 unfold Z02 at h⊢
 simp only[ho]at h⊢
 split at h
 · rename_i b off len cap z hx
   split at h
   ·simp[Z5w]at h
   ·cases h
 ·simpa only[Z0l,ho]using h
theorem Zi0{src dst:TypeId}{x:Operand}(ho:o.op = .convert src dst x):Z1i P gl d n o (Zay P gl d n o):=by
 intro forc orc E T k out H hO hR h
 unfold Zay at h
 split at h<;>try (simp at h;done)
 rename_i r hr
 rw[Z1y]at h
 exact⟨r,T,H,Z0d (by simp[kind,ho]) (Zhe ho hr),hR,h⟩
theorem Z9q(hk:kind o=0):Z1i P gl d n o (Zay P gl d n o):=by
 intro forc orc E T k out H hO hR h
 unfold Zay at h
 split at h<;>try (simp at h;done)
 rename_i r hr
 rw[Z1y]at h
 exact⟨r,T,H,Z0d (by omega) (by rw[<- Zmx hk [] H];exact hr),hR,h⟩
end ok
noncomputable def kix(k:IntKind):Nat:=IntKind.rec 0 1 2 3 4 5 6 7 k
theorem Z7z{k k':IntKind}(h:Y00 (kix k) (kix k')=true):k=k':=by
 cases k<;>cases k'<;>first|rfl|(exact absurd (show Y00 (kix _) (kix _)=false from rfl) (by rw[h];simp))
noncomputable def kmx(k:IntKind):Nat:=IntKind.rec 127 32767 2147483647 9223372036854775807 255 65535 4294967295 18446744073709551615 k
theorem Zdg{k:IntKind}{s:Nat}(h:s<=kmx k):k.wrap (s:Int)=s:=by
 cases k with
 |i8=>exact IntWalk.i8_in _ (by have:s<=127:=h;omega)
 |i16=>exact IntWalk.i16_in _ (by have:s<=32767:=h;omega)
 |i32=>exact IntWalk.i32_in _ (by have:s<=2147483647:=h;omega)
 |i64=>exact IntWalk.i64_in _ (by have:s<=9223372036854775807:=h;omega)
 |u8=>exact IntWalk.u8_in _ (by have:s<=255:=h;omega)
 |u16=>exact IntWalk.u16_in _ (by have:s<=65535:=h;omega)
 |u32=>exact IntWalk.u32_in _ (by have:s<=4294967295:=h;omega)
 |u64=>exact IntWalk.u64_in _ (by have:s<=18446744073709551615:=h;omega)
abbrev Zk8:=AV->AV->(AV->Res)->Res->Res
def Zjj(P:Program)(op:BinOp)(t:TypeId)(F:Zk8):Prop:=∀x y k dd out,F x y k dd=some out->(∃r,Z68 P op t x y=some r/\k r=some out)\/dd=some out
noncomputable def cmpF(c:Nat->Nat->Bool):Zk8:=λx y k dd =>
 onNat x (λkx a=>onNat y (λky b=>iff' (Y00 (kix kx) (kix ky)) (iff' (c a b) (k (.bool true)) (k (.bool false))) dd) dd) dd
theorem Z80{P:Program}{op:BinOp}{t:TypeId}{c:Nat->Nat->Bool}(h1:op ≠ .shl)(h2:op ≠ .shr)(hc:∀k (a b:Nat),Z0L op k (a:Int) (b:Int)=some (.bool (c a b))):Zjj P op t (cmpF c):=by
 intro x y k dd out h
 unfold cmpF at h
 rcases Z2l x (λkx a=>onNat y (λky b=>iff' (Y00 (kix kx) (kix ky)) (iff' (c a b) (k (.bool true)) (k (.bool false))) dd) dd) dd with ⟨kx,a,rfl,e⟩|e
 · rw[e]at h
   rcases Z2l y (λky b=>iff' (Y00 (kix kx) (kix ky)) (iff' (c a b) (k (.bool true)) (k (.bool false))) dd) dd with ⟨ky,b,rfl,e'⟩|e'
   · rw[e',Z24]at h
     split at h
     · rename_i hk
       have:=Z7z hk;subst this
       refine .inl ⟨.bool (c a b),?_,?_⟩
       · have:=hc kx a b
         cases op<;>first|exact (h1 rfl).elim|exact (h2 rfl).elim|simpa[Z68]using this
       ·rw[Z24]at h;cases hcab:c a b<;>simpa[hcab]using h
     ·exact .inr h
   ·rw[e']at h;exact .inr h
 ·rw[e]at h;exact .inr h
noncomputable def Zng(f:Nat->Nat->Nat)(g:Nat->Nat->Bool):Zk8:=λx y k dd =>
 onNat x (λkx a=>onNat y (λky b=>iff' (Y00 (kix kx) (kix ky)) (iff' (g a b) (iff' (Nat.ble (f a b) (kmx kx)) (Z2y (f a b) λs=>k (.int kx (.ofNat s))) dd) dd) dd) dd) dd
theorem Z0n{β : Type}(m:Nat)(f:Nat -> β):Z2y m f=f m:=by cases m<;>rfl
theorem Zcz {P : Program} {op : BinOp} {t : TypeId} {f : Nat -> Nat -> Nat} {g : Nat -> Nat -> Bool} (h1 : op ≠ .shl) (h2 : op ≠ .shr)
  (hc:∀k (a b:Nat),g a b=true->Z0L op k (a:Int) (b:Int)=some (.int k (k.wrap (f a b:Nat)))):Zjj P op t (Zng f g):=by
 intro x y k dd out h
 unfold Zng at h
 rcases Z2l x (λkx a=>onNat y (λky b=>iff' (Y00 (kix kx) (kix ky)) (iff' (g a b) (iff' (Nat.ble (f a b) (kmx kx)) (Z2y (f a b) λs=>k (.int kx (.ofNat s))) dd) dd) dd) dd) dd with ⟨kx,a,rfl,e⟩|e
 · rw[e]at h
   rcases Z2l y (λky b=>iff' (Y00 (kix kx) (kix ky)) (iff' (g a b) (iff' (Nat.ble (f a b) (kmx kx)) (Z2y (f a b) λs=>k (.int kx (.ofNat s))) dd) dd) dd) dd with ⟨ky,b,rfl,e'⟩|e'
   · rw[e',Z24]at h
     split at h
     · rename_i hk
       have:=Z7z hk;subst this
       rw[Z24]at h
       split at h
       · rename_i hg
         rw[Z24]at h
         split at h
         · rename_i hle
           rw[Z0n]at h
           refine .inl ⟨_,?_,h⟩
           have:=hc kx a b hg
           rw[Zdg (Y03 hle)]at this
           cases op<;>first|exact (h1 rfl).elim|exact (h2 rfl).elim|simpa[Z68]using this
         ·exact .inr h
       ·exact .inr h
     ·exact .inr h
   ·rw[e']at h;exact .inr h
 ·rw[e]at h;exact .inr h
noncomputable def eqF(want:Bool):Zk8:=λx y k dd =>
 cmpF (λa b=>iff' (Y00 a b) want (!want)) x y k (Z4s x (λs=>Z4s y (λs'=>iff' (eqS s s') (k (.bool want)) (k (.bool (!want)))) dd) dd)
theorem ZjP{P:Program}{op:BinOp}{t:TypeId}{want:Bool}(hop:(op = .eql/\want=true)\/(op = .neq/\want=false)):Zjj P op t (eqF want):=by
 intro x y k dd out h
 have hci:∀k (a b:Nat),Z0L op k (a:Int) (b:Int)=some (.bool (iff' (Y00 a b) want (!want))):=by
  intro k a b
  have hab:Y00 a b=decide ((a:Int)=(b:Int)):=by
   by_cases e:a=b
   ·subst e;simp
   · have:¬((a:Int)=b):=by omega
     have h3:Y00 a b=false:=by cases hq:Y00 a b with|false=>rfl|true=>exact absurd (Y01 hq) e
     rw[h3];simp[this]
  rcases hop with ⟨rfl,rfl⟩|⟨rfl,rfl⟩
  ·simp only[Z0L,Z24,hab];by_cases e:(a:Int)=b<;>simp[e]
  ·simp only[Z0L,Z24,hab];by_cases e:(a:Int)=b<;>simp[e]
 rcases Z80 (P:=P) (t:=t) (by rcases hop with ⟨rfl,_⟩|⟨rfl,_⟩<;>simp) (by rcases hop with ⟨rfl,_⟩|⟨rfl,_⟩<;>simp) hci x y k _ out h with h1|h1
 ·exact .inl h1
 · rcases Z3q x (λs=>Z4s y (λs'=>iff' (eqS s s') (k (.bool want)) (k (.bool (!want)))) dd) dd with ⟨s,rfl,e⟩|e
   · rw[e]at h1
     rcases Z3q y (λs'=>iff' (eqS s s') (k (.bool want)) (k (.bool (!want)))) dd with ⟨s',rfl,e'⟩|e'
     · rw[e',Z24,Zgm]at h1
       rcases hop with ⟨rfl,rfl⟩|⟨rfl,rfl⟩
       · refine .inl ⟨.bool (s==s'),by simp[Z68,Z4N],?_⟩
         cases hs:(s==s')<;>simpa[hs]using h1
       · refine .inl ⟨.bool !(s==s'),by simp[Z68,Z4N],?_⟩
         cases hs:(s==s')<;>simpa[hs]using h1
     ·rw[e']at h1;exact .inr h1
   ·rw[e]at h1;exact .inr h1
noncomputable def Znx(op:BinOp):Option Zk8 :=
 match op with
 | .add=>some (Zng (λa b=>Nat.add a b) (λ_ _=>true))
 | .sub=>some (Zng (λa b=>Nat.sub a b) (λa b=>Nat.ble b a))
 | .mul=>some (Zng (λa b=>Nat.mul a b) (λ_ _=>true))
 | .eql=>some (eqF true)
 | .neq=>some (eqF false)
 | .lss=>some (cmpF λa b=>Nat.blt a b)
 | .leq=>some (cmpF λa b=>Nat.ble a b)
 | .gtr=>some (cmpF λa b=>Nat.blt b a)
 | .geq=>some (cmpF λa b=>Nat.ble b a)
 |_=>none
theorem ZlW{P:Program}{op:BinOp}{t:TypeId}{F:Zk8}(h:Znx op=some F):Zjj P op t F:=by
 unfold Znx at h
 cases op<;>simp at h<;>subst h
 ·exact Zcz (by simp) (by simp) λk a b _=>by simp only[Z0L];rfl
 · refine Zcz (by simp) (by simp) λk a b hg=>?_
   have:=Y03 hg
   simp only[Z0L]
   have e:((a:Int)-(b:Int))=((Nat.sub a b:Nat):Int):=by show _=((a-b:Nat):Int);omega
   rw[e];rfl
 ·exact Zcz (by simp) (by simp) λk a b _=>by simp only[Z0L];rfl
 ·exact ZjP (.inl ⟨rfl,rfl⟩)
 ·exact ZjP (.inr ⟨rfl,rfl⟩)
 · refine Z80 (by simp) (by simp) λk a b=>?_
   simp only[Z0L];congr 2
   by_cases e:a<b
   · have h2:Nat.blt a b=true:=by simpa[Y02]using e
     rw[h2];simp[e]
   · have h2:Nat.blt a b=false:=by cases hq:Nat.blt a b with|false=>rfl|true=>exact absurd (by simpa[Y02]using hq) e
     rw[h2];simp[e]
 · refine Z80 (by simp) (by simp) λk a b=>?_
   simp only[Z0L];congr 2
   by_cases e:a<=b
   · have h2:Nat.ble a b=true:=Y0b e
     rw[h2];simp[e]
   · have h2:Nat.ble a b=false:=by cases hq:Nat.ble a b with|false=>rfl|true=>exact absurd (Y03 hq) e
     rw[h2];simp[e]
 · refine Z80 (by simp) (by simp) λk a b=>?_
   simp only[Z0L];congr 2
   by_cases e:b<a
   · have h2:Nat.blt b a=true:=by simpa[Y02]using e
     rw[h2];simp[e]
   · have h2:Nat.blt b a=false:=by cases hq:Nat.blt b a with|false=>rfl|true=>exact absurd (by simpa[Y02]using hq) e
     rw[h2];simp[e]
 · refine Z80 (by simp) (by simp) λk a b=>?_
   simp only[Z0L];congr 2
   by_cases e:b<=a
   · have h2:Nat.ble b a=true:=Y0b e
     rw[h2];simp[e]
   · have h2:Nat.ble b a=false:=by cases hq:Nat.ble b a with|false=>rfl|true=>exact absurd (Y03 hq) e
     rw[h2];simp[e]
end Go.Abs
end
section
namespace Go.Abs
open Go.RowKit
section some
variable {γ : Type} {v:AV} {out : γ}
theorem Z1J{f:IntKind->Nat->Option γ}{dd:Option γ}(h:onNat v f dd=some out):(∃k n,v = .int k (Int.ofNat n)/\f k n=some out)\/dd=some out:=by
 rcases Z2l v f dd with ⟨k,n,rfl,e⟩|e<;>rw[e]at h
 ·exact .inl ⟨k,n,rfl,h⟩
 ·exact .inr h
theorem Z2m{f:Bool->Option γ}{dd:Option γ}(h:Z2G v f dd=some out):(∃b,v = .bool b/\f b=some out)\/((∀b,v ≠ .bool b)/\dd=some out):=by
 rcases Z3W v f dd with ⟨b,rfl,e⟩|⟨e',e⟩<;>rw[e]at h
 ·exact .inl ⟨b,rfl,h⟩
 ·exact .inr ⟨e',h⟩
theorem Z2i{f:List UInt8->Option γ}{dd:Option γ}(h:Z4s v f dd=some out):(∃b,v = .str b/\f b=some out)\/dd=some out:=by
 rcases Z3q v f dd with ⟨b,rfl,e⟩|e<;>rw[e]at h
 ·exact .inl ⟨b,rfl,h⟩
 ·exact .inr h
theorem Z1l{f:Nat->Nat->Option γ}{g:List AV->Option γ}{dd:Option γ}(h:onPtr v f g dd=some out):(∃b o,v = .ptr b o/\f b o=some out)\/(∃cs,v = .rp cs/\g cs=some out)\/dd=some out:=by
 rcases Z7r v f g dd with ⟨b,o,rfl,e⟩|⟨cs,rfl,e⟩|e<;>rw[e]at h
 ·exact .inl ⟨b,o,rfl,h⟩
 ·exact .inr (.inl ⟨cs,rfl,h⟩)
 ·exact .inr (.inr h)
theorem Z0B {f : Nat -> Nat -> Nat -> Nat -> Nat -> Option γ} {g : Nat -> Nat -> List AV -> Option γ} {e dd : Option γ} (h : Z1e v f g e dd = some out) :
  (∃b o l c z,v = .slice b o l c z/\f b o l c z=some out)\/(∃n z cs,v = .rs n z cs/\g n z cs=some out)\/(v = .nslice/\e=some out)\/dd=some out:=by
 rcases Z9F v f g e dd with ⟨b,o,l,c,z,rfl,e⟩|⟨n,z,cs,rfl,e⟩|⟨rfl,e⟩|e<;>rw[e]at h
 ·exact .inl ⟨b,o,l,c,z,rfl,h⟩
 ·exact .inr (.inl ⟨n,z,cs,rfl,h⟩)
 ·exact .inr (.inr (.inl ⟨rfl,h⟩))
 ·exact .inr (.inr (.inr h))
theorem ZaJ{f:List AV->Option γ}{dd:Option γ}(h:Z7q v f dd=some out):(∃b,v = .tuple b/\f b=some out)\/dd=some out:=by
 rcases Z9E v f dd with ⟨b,rfl,e⟩|e<;>rw[e]at h
 ·exact .inl ⟨b,rfl,h⟩
 ·exact .inr h
theorem Z5J{f:List AV->Option γ}{dd:Option γ}(h:Zcc v f dd=some out):(∃b,v = .agg b/\f b=some out)\/((∀b,v ≠ .agg b)/\dd=some out):=by
 rcases Zcb v f dd with ⟨b,rfl,e⟩|⟨e',e⟩<;>rw[e]at h
 ·exact .inl ⟨b,rfl,h⟩
 ·exact .inr ⟨e',h⟩
theorem Zca{f:Fn->List AV->List AV->Option γ}{dd:Option γ}(h:onFunc v f dd=some out):(∃fn a b,v = .func fn a b/\f fn a b=some out)\/dd=some out:=by
 rcases ZaL v f dd with ⟨fn,a,b,rfl,e⟩|e<;>rw[e]at h
 ·exact .inl ⟨fn,a,b,rfl,h⟩
 ·exact .inr h
theorem Z13{o:AObj}{f:Nat->Nat->List AV->TypeId->Option γ}(h:Z1f o f none=some out):∃fam sh cs ty,o=⟨true,fam,sh,.cells cs ty⟩/\f fam sh cs ty=some out:=by
 rcases Z9G o f none with ⟨a,b,c,d,rfl,e⟩|e<;>rw[e]at h
 ·exact⟨a,b,c,d,rfl,h⟩
 ·cases h
theorem Z5I{o:AObj}{f:Nat->Nat->List (AV×AV×Nat)->Nat->Option γ}(h:ZaK o f none=some out):∃fam sh cs ty,o=⟨true,fam,sh,.map cs ty⟩/\f fam sh cs ty=some out:=by
 rcases Zc9 o f none with ⟨a,b,c,d,rfl,e⟩|e<;>rw[e]at h
 ·exact⟨a,b,c,d,rfl,h⟩
 ·cases h
theorem Z04{b:Bool}{x:Option γ}(h:iff' b x none=some out):b=true/\x=some out:=by
 cases b
 ·cases h
 ·exact⟨rfl,h⟩
theorem Z3X{α : Type}{l:List α}{n:Nat}{f : α -> Option γ}(h:ZjL l n f none=some out):∃v,l[n]? = some v/\f v=some out:=by
 rcases Z8V l n f none with ⟨v,h1,e⟩|e<;>rw[e]at h
 ·exact⟨v,h1,h⟩
 ·cases h
theorem Z4Y{n:Nat}{l:List AV}{f:List AV->Option γ}(h:tkR n l f none=some out):∃r,tk n l=some r/\f r=some out:=by
 rcases Zar n l f none with ⟨v,h1,e⟩|e<;>rw[e]at h
 ·exact⟨v,h1,h⟩
 ·cases h
theorem Z7d{l:List AV}{n:Nat}{vs:List AV}{f:List AV->Option γ}(h:Zm9 l n vs f none=some out):∃r,spl l n vs=some r/\f r=some out:=by
 rcases Z5D l n vs f none with ⟨v,h1,e⟩|e<;>rw[e]at h
 ·exact⟨v,h1,h⟩
 ·cases h
end some
theorem Z8q{l:List AV}{n:Nat}{v:AV}(h:l[n]? = some v):tk 1 (l.drop n)=some [v]:=by
 obtain⟨hn,rfl⟩:=Y0d.1 h
 rw[List.drop_eq_getElem_cons hn];simp[tk]
noncomputable def ZnL{β : Type}(T:TH)(f:Nat->BT AObj 12 -> β) : β:=TH.rec f T
noncomputable def Zmw(T:TH)(b:Nat)(o:AObj)(f:TH->Res):Res:=ZnL T λsz tr=>Z4a 12 b o tr λtr'=>f ⟨sz,tr'⟩
theorem Z9C(T:TH)(b:Nat)(o:AObj)(f:TH->Res):Zmw T b o f=f (T.set b o):=by
 obtain⟨sz,tr⟩:=T
 show Z4a 12 b o tr (λtr'=>f ⟨sz,tr'⟩)=_
 rw[Z3e];rfl
noncomputable def Zov(T:TH)(bd:ABody)(f:Nat->TH->Res):Res :=
 ZnL T λsz tr=>iff' (Nat.blt sz 4096) (Z4a 12 sz ⟨true,sz,0,bd⟩ tr λtr'=>Z2y (Nat.add sz 1) λs=>f sz ⟨s,tr'⟩) none
theorem Z7u{T:TH}{bd:ABody}{f:Nat->TH->Res}{out:AV×TH}(h:Zov T bd f=some out):T.sz<4096/\f T.sz (T.push ⟨true,T.sz,0,bd⟩)=some out:=by
 obtain⟨sz,tr⟩:=T
 obtain⟨h1,h2⟩:=Z04 (show iff' (Nat.blt sz 4096) (Z4a 12 sz ⟨true,sz,0,bd⟩ tr λtr'=>Z2y (Nat.add sz 1) λs=>f sz ⟨s,tr'⟩) none=some out from h)
 rw[Z3e,Z0n]at h2
 exact⟨by simpa[Y02]using h1,h2⟩
section ops
variable {P:Program} {gl:Glob} {d n:Nat} {o:Oper}
noncomputable def Zno(g:Tre AV d->AV):OpF d:=λ_ E T k=>frc1 (g E) λv=>k v T
theorem ZfH{x:Operand}{g:Tre AV d->AV}(ho:o.op = .move x\/o.op = .assign x)(hg:Z0E gl d n x=some g):Z1i P gl d n o (Zno g):=by
 intro forc orc E T k out H hO hR h
 simp only[Zno,Z0o]at h
 refine⟨g E,T,H,Z0d (by rcases ho with e|e<;>simp[kind,e]) ?_,hR,h⟩
 rcases ho with e|e<;>simp[Z02,Z0l,e,Z05 hg]
noncomputable def ZkC(gc ga gb:Tre AV d->AV):OpF d:=λ_ E T k=>Z2G (gc E) (λb=>iff' b (frc1 (ga E) λv=>k v T) (frc1 (gb E) λv=>k v T)) none
theorem Zi3{c a b:Operand}{gc ga gb:Tre AV d->AV}(ho:o.op = .pick c a b)(hc:Z0E gl d n c=some gc)(ha:Z0E gl d n a=some ga)(hb:Z0E gl d n b=some gb):Z1i P gl d n o (ZkC gc ga gb):=by
 intro forc orc E T k out H hO hR h
 simp only[ZkC,Z0o]at h
 rcases Z2m h with ⟨w,e,h⟩|⟨_,h⟩<;>try (cases h;done)
 cases w with
 |true=>exact⟨ga E,T,H,Z0d (by simp[kind,ho]) (by simp[Z02,Z0l,ho,Z05 hc,Z05 ha,e]),hR,h⟩
 |false=>exact⟨gb E,T,H,Z0d (by simp[kind,ho]) (by simp[Z02,Z0l,ho,Z05 hc,Z05 hb,e]),hR,h⟩
noncomputable def ZoJ(F:Zk8)(gx gy:Tre AV d->AV)(s:OpF d):OpF d:=λforc E T k=>F (gx E) (gy E) (λr=>k r T) (s forc E T k)
theorem ZlS {op : BinOp} {t t2 : TypeId} {x y : Operand} {F : Zk8} {gx gy : Tre AV d -> AV} {s : OpF d} (ho : o.op = .binOp op t x y t2) (hF : Znx op = some F) (hx : Z0E gl d n x = some gx) (hy : Z0E gl d n y = some gy)
  (hs:Z1i P gl d n o s):Z1i P gl d n o (ZoJ F gx gy s):=by
 intro forc orc E T k out H hO hR h
 rcases ZlW (P:=P) (t:=t) hF _ _ _ _ _ h with ⟨r,h1,h2⟩|h
 ·exact⟨r,T,H,Z0d (by simp[kind,ho]) (by simp[Z02,ho,Z05 hx,Z05 hy,Zje h1]),hR,h2⟩
 ·exact hs forc orc E T k out H hO hR h
noncomputable def Zos(g:Tre AV d->AV):OpF d:=λ_ E T k=>Z2G (g E) (λb=>iff' b (k (.bool false) T) (k (.bool true) T)) none
theorem ZkI{t:TypeId}{x:Operand}{g:Tre AV d->AV}(ho:o.op = .unOp .not t x)(hg:Z0E gl d n x=some g):Z1i P gl d n o (Zos g):=by
 intro forc orc E T k out H hO hR h
 rcases Z2m h with ⟨w,e,h⟩|⟨_,h⟩<;>try (cases h;done)
 refine⟨.bool !w,T,H,Z0d (by simp[kind,ho]) (by simp[Z02,Z0l,ho,Z05 hg,e,aUn]),hR,?_⟩
 cases w<;>exact h
noncomputable def ZjE(g:Tre AV d->AV):OpF d:=λ_ E T k =>
 onPtr (g E) (λb off=>Z1f (T.get b) (λ_ _ cs _=>ZjL cs off (λv=>k v T) none) none) (λcs=>ZjL cs 0 (λv=>k v T) none) none
theorem ZfQ{t:TypeId}{x:Operand}{g:Tre AV d->AV}(ho:o.op = .load t x)(ht:Z3K P t=some false)(hg:Z0E gl d n x=some g):Z1i P gl d n o (ZjE g):=by
 intro forc orc E T k out H hO hR h
 rcases Z1l h with ⟨b,off,e,h⟩|⟨cs,e,h⟩|h<;>try (cases h;done)
 · obtain⟨fam,sh,cs,ty,e2,h⟩:=Z13 h
   obtain⟨v,h1,h2⟩:=Z3X h
   have hH:=hR.obj b (by rw[e2])
   rw[e2]at hH
   exact⟨v,T,H,Z0d (by simp[kind,ho]) (by simp[Z02,Z0l,ho,Z05 hg,e,Z66,ht,rd,hH,Z8q h1]),hR,h2⟩
 · obtain⟨v,h1,h2⟩:=Z3X h
   have:=Z8q h1
   exact⟨v,T,H,Z0d (by simp[kind,ho]) (by simp[Z02,Z0l,ho,Z05 hg,e,Z66,ht,rd,show tk 1 cs=some [v] by simpa using this]),hR,h2⟩
noncomputable def ZjD(m:Nat)(g:Tre AV d->AV):OpF d:=λ_ E T k =>
 onPtr (g E) (λb off=>Z1f (T.get b) (λ_ _ cs _=>tkR m (Z8l cs off) (λl=>k (.agg l) T) none) none) (λcs=>tkR m cs (λl=>k (.agg l) T) none) none
theorem ZfP{t:TypeId}{x:Operand}{m:Nat}{g:Tre AV d->AV}(ho:o.op = .load t x)(ht:Z3K P t=some true)(hm:tsz P t=some m)(hg:Z0E gl d n x=some g):Z1i P gl d n o (ZjD m g):=by
 intro forc orc E T k out H hO hR h
 rcases Z1l h with ⟨b,off,e,h⟩|⟨cs,e,h⟩|h<;>try (cases h;done)
 · obtain⟨fam,sh,cs,ty,e2,h⟩:=Z13 h
   obtain⟨v,h1,h2⟩:=Z4Y h
   have hH:=hR.obj b (by rw[e2])
   rw[e2]at hH
   rw[Z1R]at h1
   exact⟨.agg v,T,H,Z0d (by simp[kind,ho]) (by simp[Z02,Z0l,ho,Z05 hg,e,Z66,ht,hm,rd,hH,h1]),hR,h2⟩
 · obtain⟨v,h1,h2⟩:=Z4Y h
   exact⟨.agg v,T,H,Z0d (by simp[kind,ho]) (by simp[Z02,Z0l,ho,Z05 hg,e,Z66,ht,hm,rd,h1]),hR,h2⟩
noncomputable def ZoC(c:Nat)(g:Tre AV d->AV):OpF d:=λ_ E T k=>onPtr (g E) (λb off=>Z2y (Nat.add off c) λw=>k (.ptr b w) T) (λcs=>k (.rp (Z8l cs c)) T) none
theorem Zln{s:TypeId}{x:Operand}{f m:Nat}{fd:Field}{g:Tre AV d->AV}(ho:o.op = .fieldAddr s x f)(hf:Z4D P s f=some fd)(hz:tsz P fd.type=some (m+1))(hg:Z0E gl d n x=some g):Z1i P gl d n o (ZoC fd.offset g):=by
 intro forc orc E T k out H hO hR h
 rcases Z1l h with ⟨b,off,e,h⟩|⟨cs,e,h⟩|h<;>try (cases h;done)
 · rw[Z0n]at h
   exact⟨_,T,H,Z0d (by simp[kind,ho]) (by simp only[Z02,Z0l,ho,Z05 hg,e,Z3k,hf,hz];rfl),hR,h⟩
 · rw[Z1R]at h
   exact⟨_,T,H,Z0d (by simp[kind,ho]) (by simp only[Z02,Z0l,ho,Z05 hg,e,Z3k,hf,hz]),hR,h⟩
noncomputable def Zoy(z:Nat)(gx gi:Tre AV d->AV):OpF d:=λ_ E T k =>
 onNat (gi E) (λ_ i=>Z1e (gx E) (λb off len _ z'=>iff' (Nat.blt i len) (iff' (Y00 z' z) (Z2y (Nat.add off (Nat.mul i z)) λw=>k (.ptr b w) T) none) none)
  (λm z' cs=>iff' (Nat.blt i m) (iff' (Y00 z' z) (k (.rp (Z8l cs (Nat.mul i z))) T) none) none) none none) none
theorem Zl5{t e:TypeId}{x i:Operand}{z:Nat}{gx gi:Tre AV d->AV}(ho:o.op = .indexAddr t x i)(ht:P.underlying t=some (.slice e))(hz:tsz P e=some z)(hx:Z0E gl d n x=some gx)(hi:Z0E gl d n i=some gi):Z1i P gl d n o (Zoy z gx gi):=by
 intro forc orc E T k out H hO hR h
 rcases Z1J h with ⟨kk,m,e1,h⟩|h<;>try (cases h;done)
 rcases Z0B h with ⟨b,off,l,c,z',e2,h⟩|⟨l,z',cs,e2,h⟩|⟨_,h⟩|h<;>try (cases h;done)
 · obtain⟨h1,h⟩:=Z04 h
   obtain⟨h2,h⟩:=Z04 h
   have h1':m<l:=by simpa[Y02]using h1
   have h2':=Y01 h2
   subst h2'
   rw[Z0n]at h
   refine⟨_,T,H,Z0d (by simp[kind,ho]) ?_,hR,h⟩
   have hc:(0:Int)<=Int.ofNat m/\Int.ofNat m<(l:Int):=⟨Y0c m,by show (m:Int)<l;omega⟩
   simp only[Z02,Z0l,ho,Z05 hx,Z05 hi,e1,e2,Z1O,ht,hz,if_pos hc,if_true]
   rfl
 · obtain⟨h1,h⟩:=Z04 h
   obtain⟨h2,h⟩:=Z04 h
   have h1':m<l:=by simpa[Y02]using h1
   have h2':=Y01 h2
   subst h2'
   rw[Z1R]at h
   refine⟨_,T,H,Z0d (by simp[kind,ho]) ?_,hR,h⟩
   have hc:(0:Int)<=Int.ofNat m/\Int.ofNat m<(l:Int):=⟨Y0c m,by show (m:Int)<l;omega⟩
   simp only[Z02,Z0l,ho,Z05 hx,Z05 hi,e1,e2,Z1O,ht,hz,if_pos hc,if_true]
   rfl
noncomputable def Zox(gx gi:Tre AV d->AV):OpF d:=λ_ E T k =>
 onNat (gi E) (λ_ i=>Z4s (gx E) (λs=>ZjL s i (λc=>Z2y (UInt8.toNat c) λw=>k (.int .u8 (.ofNat w)) T) none) none) none
theorem Zl4{t:TypeId}{x i:Operand}{gx gi:Tre AV d->AV}(ho:o.op = .index t x i)(ht:P.underlying t=some .string)(hx:Z0E gl d n x=some gx)(hi:Z0E gl d n i=some gi):Z1i P gl d n o (Zox gx gi):=by
 intro forc orc E T k out H hO hR h
 rcases Z1J h with ⟨kk,m,e1,h⟩|h<;>try (cases h;done)
 rcases Z2i h with ⟨s,e2,h⟩|h<;>try (cases h;done)
 obtain⟨c,h1,h⟩:=Z3X h
 rw[Z0n]at h
 refine⟨_,T,H,Z0d (by simp[kind,ho]) ?_,hR,h⟩
 have hc:(0:Int)<=Int.ofNat m:=Y0c m
 have ht':(Int.ofNat m).toNat=m:=rfl
 simp only[Z02,Z0l,ho,Z05 hx,Z05 hi,e1,e2,Z9c,ht,if_pos hc,ht',h1]
 rfl
noncomputable def ZoD(i:Nat)(g:Tre AV d->AV):OpF d:=λ_ E T k=>Z7q (g E) (λvs=>ZjL vs i (λv=>k v T) none) none
theorem Zlo{x:Operand}{i:Nat}{g:Tre AV d->AV}(ho:o.op = .extract x i)(hg:Z0E gl d n x=some g):Z1i P gl d n o (ZoD i g):=by
 intro forc orc E T k out H hO hR h
 rcases ZaJ h with ⟨vs,e,h⟩|h<;>try (cases h;done)
 obtain⟨v,h1,h2⟩:=Z3X h
 exact⟨v,T,H,Z0d (by simp[kind,ho]) (by simp[Z02,Z0l,ho,Z05 hg,e,Z74,h1]),hR,h2⟩
noncomputable def Zou(g:Tre AV d->AV)(s:OpF d):OpF d:=λforc E T k=>onPtr (g E) (λb off=>k (.ptr b off) T) (λcs=>k (.rp cs) T) (s forc E T k)
theorem ZkK{x:Operand}{g:Tre AV d->AV}{s:OpF d}(ho:o.op = .nilCheck x)(hg:Z0E gl d n x=some g)(hs:Z1i P gl d n o s):Z1i P gl d n o (Zou g s):=by
 intro forc orc E T k out H hO hR h
 rcases Z1l h with ⟨b,off,e,h⟩|⟨cs,e,h⟩|h
 ·exact⟨_,T,H,Z0d (by simp[kind,ho]) (by simp[Z02,Z0l,ho,Z05 hg,e,Zjd]),hR,h⟩
 ·exact⟨_,T,H,Z0d (by simp[kind,ho]) (by simp[Z02,Z0l,ho,Z05 hg,e,Zjd]),hR,h⟩
 ·exact hs forc orc E T k out H hO hR h
noncomputable def ZmD(g:Tre AV d->AV):OpF d:=λ_ E T k=>Z4s (g E) (λs=>Z2y (Zil s) λm=>k (.int .i64 (.ofNat m)) T) none
noncomputable def Zow(g:Tre AV d->AV):OpF d:=λ_ E T k=>Z1e (g E) (λ_ _ l _ _=>k (.int .i64 (.ofNat l)) T) (λm _ _=>k (.int .i64 (.ofNat m)) T) (k (.int .i64 (.ofNat 0)) T) none
noncomputable def ZkU(g:Tre AV d->AV):OpF d:=λ_ E T k=>frc1 (g E) λv=>match v with
 | .nmap=>k (.int .i64 (.ofNat 0)) T
 | .map b=>ZaK (T.get b) (λ_ _ es _=>Z2y (Zil es) λm=>k (.int .i64 (.ofNat m)) T) none
 |_=>none
theorem Z6R{c:Call}(ho:o.op = .call c)(hc:c.callee = .builtin .len):kind o=1:=by simp[kind,ho,hc]
theorem Zik {c : Call} {x : Operand} {t : TypeId} {ts : List TypeId} {g : Tre AV d -> AV} (ho : o.op = .call c) (hc : c.callee = .builtin .len) (ha : c.args.toList = [x]) (ht : c.argTypes.toList = t :: ts) (hu : P.underlying t = some .string)
  (hg:Z0E gl d n x=some g):Z1i P gl d n o (ZmD g):=by
 intro forc orc E T k out H hO hR h
 rcases Z2i h with ⟨s,e,h⟩|h<;>try (cases h;done)
 rw[Z0n,Z3s]at h
 exact⟨_,T,H,Z0d (by rw[Z6R ho hc];omega) (by simp only[Z02,Z0l,ho,hc,ha,ht,Z05 hg,e,Zm3,hu];rfl),hR,h⟩
theorem ZkV {c : Call} {x : Operand} {t el : TypeId} {ts : List TypeId} {g : Tre AV d -> AV} (ho : o.op = .call c) (hc : c.callee = .builtin .len) (ha : c.args.toList = [x]) (ht : c.argTypes.toList = t :: ts) (hu : P.underlying t = some (.slice el))
  (hg:Z0E gl d n x=some g):Z1i P gl d n o (Zow g):=by
 intro forc orc E T k out H hO hR h
 rcases Z0B h with ⟨b,off,l,c',z',e,h⟩|⟨l,z',cs,e,h⟩|⟨e,h⟩|h<;>try (cases h;done)
 all_goals exact⟨_,T,H,Z0d (by rw[Z6R ho hc];omega) (by simp only[Z02,Z0l,ho,hc,ha,ht,Z05 hg,e,Zm3,hu];rfl),hR,h⟩
theorem Zim {c : Call} {x : Operand} {t kt el : TypeId} {ts : List TypeId} {g : Tre AV d -> AV} (ho : o.op = .call c) (hc : c.callee = .builtin .len) (ha : c.args.toList = [x]) (ht : c.argTypes.toList = t :: ts) (hu : P.underlying t = some (.map kt el))
  (hg:Z0E gl d n x=some g):Z1i P gl d n o (ZkU g):=by
 intro forc orc E T k out H hO hR h
 simp only[ZkU,Z0o]at h
 split at h<;>try (cases h;done)
 · rename_i e
   exact⟨_,T,H,Z0d (by rw[Z6R ho hc];omega) (by simp only[Z02,Z0l,ho,hc,ha,ht,Z05 hg,e,Zm3,hu];rfl),hR,h⟩
 · rename_i b e
   obtain⟨fam,sh,es,cl,e2,h⟩:=Z5I h
   have hH:=hR.obj b (by rw[e2])
   rw[e2]at hH
   rw[Z0n,Z3s]at h
   exact⟨_,T,H,Z0d (by rw[Z6R ho hc];omega) (by simp only[Z02,Z0l,ho,hc,ha,ht,Z05 hg,e,Zm3,hu,Z8O,hH];rfl),hR,h⟩
noncomputable def Zia(mk:Nat->AV)(bd:ABody)(k:Knt)(T:TH):Res:=Zov T bd λsz T'=>frc1 (mk sz) λv=>k v T'
noncomputable def Zlg{β : Type}(b:ABody)(f:ABody -> β) : β:=match b with
 | .cells cs ty=>Z6p cs λcs=>f (.cells cs ty)
 |b=>f b
theorem ZiG{β : Type}(b:ABody)(f:ABody -> β):Zlg b f=f b:=by cases b<;>simp[Zlg,Z2q]
noncomputable def Zku(P:Program)(gl:Glob)(d n:Nat)(o:Oper):OpF d:=λ_ E T k=>match Z0t P (Z4r gl d n E) o with|some (mk,bd)=>Zlg bd λbd=>Zia mk bd k T|none=>none
theorem Z7v {E : Tre AV d} {orc : Orc} {T : TH} {k : Knt} {out : AV × TH} {H : Z00} {mk : Nat -> AV} {bd : ABody} (hk : kind o = 2) (ha : Z0t P (Z4r gl d n E) o = some (mk, bd)) (hR : Rep T H) (h : Zia mk bd k T = some out) :
  ∃r T' H',aop P orc (Z4r gl d n E) o H=some (r,H')/\Rep T' H'/\k r T'=some out:=by
 obtain⟨h1,h2⟩:=Z7u h
 rw[Z0o]at h2
 refine⟨mk H.length,_,_,Zhg hk ha,hR.push h1 bd,?_⟩
 rw[<- hR.sz];exact h2
theorem ZhZ(hk:kind o=2):Z1i P gl d n o (Zku P gl d n o):=by
 intro forc orc E T k out H hO hR h
 unfold Zku at h
 split at h<;>try (simp at h;done)
 rename_i mk bd ha
 rw[ZiG]at h
 exact Z7v hk ha hR h
noncomputable def ZoM(bd:ABody):OpF d:=λ_ E T k=>Zia (λm=>.ptr m 0) bd k T
theorem ZlZ{e:TypeId}{z:AV}(ho:o.op = .alloc e)(hz:Z1o P e=some z):Z1i P gl d n o (ZoM (.cells z.cells e)):=by
 intro forc orc E T k out H hO hR h
 exact Z7v (by simp[kind,ho]) (by simp[Z0t,ho,hz]) hR h
noncomputable def Zoc(e:TypeId)(g:Tre AV d->AV):OpF d:=λ_ E T k=>frc1 (g E) λv=>Zcc v (λcs=>Zia (λm=>.ptr m 0) (.cells cs e) k T) (Zia (λm=>.ptr m 0) (.cells [v] e) k T)
theorem Z81{v:AV}(h:∀b,v ≠ .agg b):v.cells=[v]:=by cases v<;>first|rfl|exact (h _ rfl).elim
theorem ZlR{e:TypeId}{x:Operand}{g:Tre AV d->AV}(ho:o.op = .box e x)(hg:Z0E gl d n x=some g):Z1i P gl d n o (Zoc e g):=by
 intro forc orc E T k out H hO hR h
 simp only[Zoc,Z0o]at h
 rcases Z5J h with ⟨cs,e1,h⟩|⟨hne,h⟩
 ·exact Z7v (by simp[kind,ho]) (by simp[Z0t,ho,Z05 hg,e1,AV.cells]) hR h
 ·exact Z7v (by simp[kind,ho]) (by simp[Z0t,ho,Z05 hg,Z81 hne]) hR h
noncomputable def Zbk(gl:Glob)(d n:Nat)(place:Nat->Option (Nat×Nat)):List (Nat×Operand)->Option (Tre AV d->List AV->(List AV->Res)->Res)
 |[]=>some λ_ cs f=>f cs
 |(i,x)::l=>match place i,Z0E gl d n x,Zbk gl d n place l with
  |some (off,sz),some g,some G=>Z0S off λoff=>Z0S sz λsz=>some λE cs f=>frc1 (g E) λv =>
   Zcc v (λvs=>iff' (Y00 (Zil vs) sz) (Zm9 cs off vs (λcs'=>G E cs' f) none) none) (iff' (Y00 1 sz) (Zm9 cs off [v] (λcs'=>G E cs' f) none) none)
  |_,_,_=>none
theorem Z6Y {place : Nat -> Option (Nat × Nat)} : ∀ (l : List (Nat × Operand)) (G : Tre AV d -> List AV -> (List AV -> Res) -> Res), Zbk gl d n place l = some G -> ∀ E cs f out, G E cs f = some out ->
  ∃us cs',Z3f (Z4r gl d n E) l=some us/\Z4M place cs us=some cs'/\f cs'=some out
 |[],G,h,E,cs,f,out,he=>by simp[Zbk]at h;subst h;exact⟨[],cs,rfl,rfl,he⟩
 |(i,x)::l,G,h,E,cs,f,out,he=>by
  simp only[Zbk]at h
  split at h<;>try (simp at h;done)
  rename_i off sz g G' hp hg hG
  rw[Z0X,Z0X]at h
  simp at h;subst h
  simp only[Z0o]at he
  rcases Z5J he with ⟨vs,e,he2⟩|⟨hne,he2⟩
  · obtain⟨h1,he3⟩:=Z04 he2
    have h1':=Y01 h1
    rw[Z3s]at h1'
    obtain⟨cs1,h2,he4⟩:=Z7d he3
    obtain⟨us,cs',k1,k2,k3⟩:=Z6Y l G' hG E cs1 f out he4
    exact⟨(i,.agg vs)::us,cs',by simp[Z3f,Z05 hg,e,k1],by simp[Z4M,hp,AV.cells,h1',h2,k2],k3⟩
  · obtain⟨h1,he3⟩:=Z04 he2
    have h1':=Y01 h1
    obtain⟨cs1,h2,he4⟩:=Z7d he3
    obtain⟨us,cs',k1,k2,k3⟩:=Z6Y l G' hG E cs1 f out he4
    exact⟨(i,g E)::us,cs',by simp[Z3f,Z05 hg,k1],by simp[Z4M,hp,Z81 hne,<- h1',h2,k2],k3⟩
noncomputable def ZoK(zs:List AV)(G:Tre AV d->List AV->(List AV->Res)->Res):OpF d:=λ_ E T k=>G E zs λcs=>k (.agg cs) T
theorem ZlU {t : TypeId} {ps : Array (Nat × Operand)} {z : AV} {fs : Array Field} {G : Tre AV d -> List AV -> (List AV -> Res) -> Res} (ho : o.op = .build t ps) (hz : Z1o P t = some z) (hu : P.underlying t = some (.struct fs)) (ha : Z72 P t = true)
  (hG:Zbk gl d n (Zb4 P t) ps.toList=some G):Z1i P gl d n o (ZoK z.cells G):=by
 intro forc orc E T k out H hO hR h
 obtain⟨us,cs',h1,h2,h3⟩:=Z6Y _ _ hG E _ _ _ h
 exact⟨.agg cs',T,H,Z0d (by simp[kind,ho]) (by simp[Z02,Z0l,ho,h1,ZdQ,hz,hu,ha,h2]),hR,h3⟩
noncomputable def ZoI(len:Nat)(zs:List AV)(e:TypeId)(z:Nat)(G:Tre AV d->List AV->(List AV->Res)->Res):OpF d:=λ_ E T k=>G E zs λcs=>Zia (λm=>.slice m 0 len len z) (.cells cs e) k T
theorem Zcx{t:TypeId}{len:Nat}{zs cs:List AV}{e:TypeId}{z:Nat}{us:List (Nat×AV)}(h:Z5o P t len []=some (zs,e,z))(hf:Z4M (λi=>some (i*z,z)) zs us=some cs):Z5o P t len us=some (cs,e,z):=by
 unfold Z5o at h⊢
 split at h<;>try (simp at h;done)
 rename_i e' hu
 split at h<;>try (simp at h;done)
 rename_i z' hz
 split at h<;>try (simp at h;done)
 rename_i hle
 split at h<;>try (simp at h;done)
 rename_i zs' hzs
 simp only[Z4M,Option.some.injEq,Prod.mk.injEq]at h
 obtain⟨rfl,rfl,rfl⟩:=h
 simp only[hu,hz,if_pos hle,hzs,hf]
theorem ZlQ {t : TypeId} {len : Nat} {ps : Array (Nat × Operand)} {zs : List AV} {e : TypeId} {z : Nat} {G : Tre AV d -> List AV -> (List AV -> Res) -> Res} (ho : o.op = .buildSlice t len ps) (hz : Z5o P t len [] = some (zs, e, z))
  (hG:Zbk gl d n (λi=>some (i*z,z)) ps.toList=some G):Z1i P gl d n o (ZoI len zs e z G):=by
 intro forc orc E T k out H hO hR h
 obtain⟨us,cs',h1,h2,h3⟩:=Z6Y _ _ hG E _ _ _ h
 exact Z7v (by simp[kind,ho]) (by simp[Z0t,ho,h1,Zcx hz h2]) hR h3
noncomputable def Zj4(gl:Glob)(d n:Nat):Option Operand->Option (Tre AV d->Nat->(Nat->Res)->Res)
 |none=>some λ_ m f=>f m
 |some x=>match Z0E gl d n x with|some g=>some λE _ f=>onNat (g E) (λ_ i=>f i) none|none=>none
theorem Z47 {b : Option Operand} {B : Tre AV d -> Nat -> (Nat -> Res) -> Res} (h : Zj4 gl d n b = some B) {E : Tre AV d} {m top : Nat} {f : Nat -> Res} {out : AV × TH} (hm : m <= top) (he : B E m (fun i => iff' (Nat.ble i top) (f i) none) = some out) :
  ∃ob i,Z65 (Z4r gl d n E) b=some ob/\bnd ob m top=some i/\f i=some out:=by
 cases b with
 |none =>
  simp[Zj4]at h;subst h
  obtain⟨_,h2⟩:=Z04 he
  exact⟨none,m,rfl,rfl,h2⟩
 |some x =>
  simp only[Zj4]at h
  split at h<;>simp at h
  rename_i g hg
  subst h
  rcases Z1J he with ⟨kk,i,e,he2⟩|he2<;>try (cases he2;done)
  obtain⟨h1,h2⟩:=Z04 he2
  have h1':i<=top:=Y03 h1
  refine⟨some (g E),i,by simp[Z65,Z05 hg],?_,h2⟩
  have hc:(0:Int)<=Int.ofNat i/\Int.ofNat i<=(top:Int):=⟨Y0c i,by show (i:Int)<=top;omega⟩
  simp only[bnd,e,if_pos hc];rfl
noncomputable def Zom(gx:Tre AV d->AV)(lo hi:Tre AV d->Nat->(Nat->Res)->Res):OpF d:=λ_ E T k=>Z4s (gx E) (λs=>Z0S (Zil s) λm=>hi E m λh=>iff' (Nat.ble h m) (lo E 0 λl=>iff' (Nat.ble l h) (Zkj (Z8l s l) (Nat.sub h l) λr=>k (.str r) T) none) none) none
theorem Zkt {t : TypeId} {x : Operand} {lo hi : Option Operand} {gx : Tre AV d -> AV} {L R : Tre AV d -> Nat -> (Nat -> Res) -> Res} (ho : o.op = .slice t x lo hi none) (ht : P.underlying t = some .string) (hx : Z0E gl d n x = some gx) (hL : Zj4 gl d n lo = some L) (hH : Zj4 gl d n hi = some R) :
  Z1i P gl d n o (Zom gx L R):=by
 intro forc orc E T k out H hO hR h
 rcases Z2i h with ⟨s,e,h⟩|h<;>try (cases h;done)
 rw[Z0X,Z3s]at h
 obtain⟨oh,i,a1,a2,h⟩:=Z47 hH (Y09 _) h
 obtain⟨ol,l,b1,b2,h⟩:=Z47 hL (Nat.zero_le _) h
 rw[Z9k,Z1R]at h
 exact⟨_,T,H,Z0d (by simp[kind,ho]) (by simp only[Z02,Z0l,ho,Z05 hx,a1,b1,e,Z4w,ht,a2,b2];rfl),hR,h⟩
noncomputable def Zon(z:Nat)(gx:Tre AV d->AV)(lo hi:Tre AV d->Nat->(Nat->Res)->Res):OpF d:=λ_ E T k=>Z1e (gx E)
 (λb off len cap z'=>iff' (Nat.ble len cap) (iff' (Y00 z z') (hi E len λh=>iff' (Nat.ble h cap) (lo E 0 λl=>iff' (Nat.ble l h) (Z0S (Nat.add off (Nat.mul l z')) λo'=>Z0S (Nat.sub h l) λn'=>Z0S (Nat.sub cap l) λc'=>k (.slice b o' n' c' z') T) none) none) none) none)
 (λm z' cs=>iff' (Y00 z z') (hi E m λh=>iff' (Nat.ble h m) (lo E 0 λl=>iff' (Nat.ble l h) (Z0S (Nat.sub h l) λn'=>Zkj (Z8l cs (Nat.mul l z')) (Nat.mul n' z') λr=>k (.rs n' z' r) T) none) none) none)
 (hi E 0 λh=>iff' (Nat.ble h 0) (lo E 0 λl=>iff' (Nat.ble l h) (k .nslice T) none) none) none
theorem Zkv {t e : TypeId} {x : Operand} {z : Nat} {lo hi : Option Operand} {gx : Tre AV d -> AV} {L R : Tre AV d -> Nat -> (Nat -> Res) -> Res} (ho : o.op = .slice t x lo hi none) (ht : P.underlying t = some (.slice e)) (hz : tsz P e = some z) (hx : Z0E gl d n x = some gx)
  (hL:Zj4 gl d n lo=some L) (hH:Zj4 gl d n hi=some R):Z1i P gl d n o (Zon z gx L R):=by
 intro forc orc E T k out H hO hR h
 rcases Z0B h with ⟨b,off,len,cap,z',e1,h1⟩|⟨m,z',cs,e1,h1⟩|⟨e1,h1⟩|h1<;>try (cases h1;done)
 · obtain⟨g1,h1⟩:=Z04 h1
   obtain⟨g2,h2⟩:=Z04 h1
   have g2':=Y01 g2
   obtain⟨oh,i,a1,a2,h3⟩:=Z47 hH (Y03 g1) h2
   obtain⟨ol,l,b1,b2,h4⟩:=Z47 hL (Nat.zero_le _) h3
   simp only[Z0X]at h4
   exact⟨_,T,H,Z0d (by simp[kind,ho]) (by simp only[Z02,Z0l,ho,Z05 hx,a1,b1,e1,Z4w,ht,hz,if_pos g2',a2,b2];rfl),hR,h4⟩
 · obtain⟨g2,h2⟩:=Z04 h1
   have g2':=Y01 g2
   obtain⟨oh,i,a1,a2,h3⟩:=Z47 hH (Y09 _) h2
   obtain⟨ol,l,b1,b2,h4⟩:=Z47 hL (Nat.zero_le _) h3
   simp only[Z0X]at h4
   rw[Z9k,Z1R]at h4
   exact⟨_,T,H,Z0d (by simp[kind,ho]) (by simp only[Z02,Z0l,ho,Z05 hx,a1,b1,e1,Z4w,ht,hz,if_pos g2',a2,b2];rfl),hR,h4⟩
 · obtain⟨oh,i,a1,a2,h3⟩:=Z47 hH (Y09 _) h1
   obtain⟨ol,l,b1,b2,h4⟩:=Z47 hL (Nat.zero_le _) h3
   exact⟨_,T,H,Z0d (by simp[kind,ho]) (by simp only[Z02,Z0l,ho,Z05 hx,a1,b1,e1,Z4w,ht,hz,a2,b2]),hR,h4⟩
noncomputable def ZoF(kk:IntKind)(g:Tre AV d->AV)(s:OpF d):OpF d:=λforc E T k=>onNat (g E) (λ_ m=>iff' (Nat.ble m (kmx kk)) (k (.int kk (.ofNat m)) T) (s forc E T k)) (s forc E T k)
theorem ZlL{src dst:TypeId}{x:Operand}{kk:IntKind}{td:TypeDesc}{g:Tre AV d->AV}{s:OpF d}(ho:o.op = .convert src dst x)(hs:P.underlying src=some td)(hd:P.underlying dst=some (.int kk))(hg:Z0E gl d n x=some g)(hsl:Z1i P gl d n o s):Z1i P gl d n o (ZoF kk g s):=by
 intro forc orc E T k out H hO hR h
 rcases Z1J h with ⟨k0,m,e,h1⟩|h1
 · cases hb:Nat.ble m (kmx kk) with
   |true =>
    rw[hb]at h1
    have hw:=Zdg (Y03 hb)
    have hw':kk.wrap (Int.ofNat m)=Int.ofNat m:=hw
    exact⟨_,T,H,Z0d (by simp[kind,ho]) (by simp only[Z02,Z0l,ho,Z05 hg,e,ZeR,hs,hd,hw']),hR,h1⟩
   |false =>
    rw[hb]at h1
    exact hsl forc orc E T k out H hO hR h1
 ·exact hsl forc orc E T k out H hO hR h1
noncomputable def ZnN(s:List UInt8):List AV:=List.rec [] (λb _ ih=>.int .u8 (Int.ofNat (UInt8.toNat b))::ih) s
theorem ZfK:∀s:List UInt8,ZnN s=s.map λb=>.int .u8 b.toNat
 |[]=>rfl
 |b::s=>by show _::ZnN s=_;rw[ZfK s];rfl
noncomputable def Zol(g:Tre AV d->AV):OpF d:=λ_ E T k=>Z4s (g E) (λs=>Z0S (Zil s) λm=>Z6p (ZnN s) λcs=>k (.rs m 1 cs) T) none
theorem Zkp{src dst x:_}{e:TypeId}{g:Tre AV d->AV}(ho:o.op = .convert src dst x)(hs:P.underlying src=some .string)(hd:P.underlying dst=some (.slice e))(he:P.underlying e=some (.int .u8))(hg:Z0E gl d n x=some g):Z1i P gl d n o (Zol g):=by
 intro forc orc E T k out H hO hR h
 rcases Z2i h with ⟨s,e1,h1⟩|h1<;>try (cases h1;done)
 rw[Z0X,Z2q,ZfK,Z3s]at h1
 refine⟨_,T,H,?_,hR,h1⟩
 rw[Z4K (by simp[kind,ho])]
 simp[Z02,Z0l,Z3j,ho,Z05 hg,e1,ZeR,hs,hd,Z8e,he]
noncomputable def ZnK(v:AV):Bool:=Zcc v (λ_=>false) (Z7q v (λ_=>false) true)
theorem ZkG(v:AV):ZnK v=one v:=by cases v<;>rfl
noncomputable def ZdP(l:List AV):Bool:=List.rec true (λv _ ih=>iff' (ZnK v) ih false) l
theorem Z87:∀l:List AV,ZdP l=l.all one
 |[]=>rfl
 |v::l=>by
  show iff' (ZnK v) (ZdP l) false=_
  rw[Z87 l,ZkG,List.all_cons,Z24];cases one v<;>simp
noncomputable def wrF(a:AV)(vs:List AV)(T:TH)(f:TH->Res):Res :=
 onPtr a (λb off=>Z1f (T.get b) (λfam sh cs ty=>iff' (ZdP vs) (Zm9 cs off vs (λcs'=>Zmw T b ⟨true,fam,sh,.cells cs' ty⟩ f) none) none) none) (λ_=>none) none
theorem Zam{T:TH}{H:Z00}{a:AV}{vs:List AV}{f:TH->Res}{out:AV×TH}(hR:Rep T H)(h:wrF a vs T f=some out):∃T' H',wr H a vs=some H'/\Rep T' H'/\f T'=some out:=by
 unfold wrF at h
 rcases Z1l h with ⟨b,off,rfl,h⟩|⟨_,_,h⟩|h<;>try (cases h;done)
 replace h:Z1f (T.get b) _ none=some out:=h
 obtain⟨fam,sh,cs,ty,e2,h⟩:=Z13 h
 have e2:T.get b=⟨true,fam,sh,.cells cs ty⟩:=e2
 obtain⟨h1,h⟩:=Z04 h
 obtain⟨cs',h2,h⟩:=Z7d h
 rw[Z9C]at h
 have hH:=hR.obj b (by rw[e2])
 have hs:=hR.set' e2 (.cells cs' ty)
 rw[e2]at hH
 rw[Z87]at h1
 exact⟨_,_,by simp only[wr,hH,h1,if_true,h2],hs,h⟩
noncomputable def ZnF(m:Nat)(ga gx:Tre AV d->AV):OpF d:=λ_ E T k =>
 frc1 (gx E) λv=>Zcc v (λcs=>iff' (Y00 (Zil cs) m) (wrF (ga E) cs T λT'=>k (.tuple []) T') none) (iff' (Y00 1 m) (wrF (ga E) [v] T λT'=>k (.tuple []) T') none)
theorem Z8R{t:TypeId}{a x:Operand}(ho:o.op = .store t a x){ρ : Operand->Option AV}{orc:Orc}{H H':Z00}{u v:AV}(ha : ρ a=some u)(hx : ρ x=some v)(h:Z6w P t u v H=some H'):aop P orc ρ o H=some (.tuple [],H'):=by
 simp[aop,Z02,Z0l,Z3j,ho,ha,hx,h]
theorem Zko{t:TypeId}{a x:Operand}{m:Nat}{ga gx:Tre AV d->AV}(ho:o.op = .store t a x)(hm:tsz P t=some m)(ha:Z0E gl d n a=some ga)(hx:Z0E gl d n x=some gx):Z1i P gl d n o (ZnF m ga gx):=by
 intro forc orc E T k out H hO hR h
 simp only[ZnF,Z0o]at h
 rcases Z5J h with ⟨cs,e,h⟩|⟨hne,h⟩
 · obtain⟨h1,h⟩:=Z04 h
   have h1':=Y01 h1
   rw[Z3s]at h1'
   obtain⟨T',H',g1,g2,g3⟩:=Zam hR h
   exact⟨_,T',H',Z8R ho (Z05 ha) (Z05 hx) (by simp[Z6w,hm,e,AV.cells,h1',g1]),g2,g3⟩
 · obtain⟨h1,h⟩:=Z04 h
   have h1':=Y01 h1
   obtain⟨T',H',g1,g2,g3⟩:=Zam hR h
   exact⟨_,T',H',Z8R ho (Z05 ha) (Z05 hx) (by simp[Z6w,hm,Z81 hne,<- h1',g1]),g2,g3⟩
end ops
end Go.Abs
end
section
namespace Go.Abs
open Go.RowKit
noncomputable def ZmQ{α β : Type}(l:List α):(List α -> β) -> β:=List.rec (motive:=λ_=>(List α -> β) -> β) (λf=>f []) (λv _ ih f=>ih λr=>f (v::r)) l
theorem Z9N{α β : Type}:∀(l:List α)(f:List α -> β),ZmQ l f=f l
 |[],f=>rfl
 |v::l,f=>by show ZmQ l (λr=>f (v::r))=_;rw[Z9N l]
noncomputable def Zhf{α : Type}(l m:List α):List α:=List.rec m (λv _ ih=>v::ih) l
theorem Z63{α : Type}:∀(l m:List α),Zhf l m=l++m
 |[],m=>rfl
 |v::l,m=>by show v::Zhf l m=_;rw[Z63 l];rfl
section ops
variable {P:Program} {gl:Glob} {d n:Nat} {o:Oper}
noncomputable def cargs(gl:Glob)(d n:Nat):List Operand->Option (Tre AV d->(List AV->Res)->Res)
 |[]=>some λ_ f=>f []
 |x::l=>match Z0E gl d n x,cargs gl d n l with|some g,some G=>some λE f=>frc1 (g E) λv=>G E λvs=>f (v::vs)|_,_=>none
theorem Z4m:∀(l:List Operand)(G:Tre AV d->(List AV->Res)->Res),cargs gl d n l=some G->∀E f,∃vs,Z1G (Z4r gl d n E) l=some vs/\G E f=f vs
 |[],G,h,E,f=>by simp[cargs]at h;subst h;exact⟨[],rfl,rfl⟩
 |x::l,G,h,E,f=>by
  simp only[cargs]at h
  split at h<;>simp at h
  rename_i g G' hg hG
  subst h
  obtain⟨vs,h1,h2⟩:=Z4m l G' hG E (λvs=>f (g E::vs))
  exact⟨g E::vs,by simp[Z1G,Z05 hg,h1],by simp only[Z0o];exact h2⟩
noncomputable def ZeF(r:Res)(k:Knt):Res:=Option.rec none (λp=>Prod.rec (λv T=>k v T) p) r
theorem Z96{r:Res}{k:Knt}{out:AV×TH}(h:ZeF r k=some out):∃v T,r=some (v,T)/\k v T=some out:=by
 cases r with
 |none=>cases h
 |some p=>obtain⟨v,T⟩:=p;exact⟨v,T,rfl,h⟩
noncomputable def Znf(g:Nat)(G:Tre AV d->(List AV->Res)->Res):OpF d:=λforc E T k=>G E λvs=>ZeF (forc g vs T) k
theorem Zj5{c:Call}{g:Nat}{G:Tre AV d->(List AV->Res)->Res}(ho:o.op = .call c)(hc:c.callee = .value (.func g))(hb:Z0b P g=true)(hG:cargs gl d n c.args.toList=some G):Z1i P gl d n o (Znf g G):=by
 intro forc orc E T k out H hO hR h
 obtain⟨vs,h1,h2⟩:=Z4m _ _ hG E (λvs=>ZeF (forc g vs T) k)
 have h:G E (λvs=>ZeF (forc g vs T) k)=some out:=h
 rw[h2]at h
 obtain⟨v,T',h3,h4⟩:=Z96 h
 obtain⟨H',h5,h6⟩:=hO g vs T v T' h3 H hR
 refine⟨v,T',H',?_,h6,h4⟩
 have hf:Z4r gl d n E (.func g)=some (.func (.func g) [] []):=rfl
 simp[aop,ho,callee,hc,hf,h1,Z08,hb,h5]
noncomputable def fnG(fn:Fn)(f:Nat->Res):Res:=match fn with | .func g=>f g|_=>none
noncomputable def ZlP(P:Program)(gf:Tre AV d->AV)(G:Tre AV d->(List AV->Res)->Res):OpF d:=λforc E T k =>
 onFunc (gf E) (λfn a b=>G E λvs=>fnG fn λg=>iff' (Z0b P g) (ZeF (forc g (Zhf a (Zhf vs b)) T) k) none) none
theorem Zj6{c:Call}{f:Operand}{gf:Tre AV d->AV}{G:Tre AV d->(List AV->Res)->Res}(ho:o.op = .call c)(hc:c.callee = .value f)(hf:Z0E gl d n f=some gf)(hG:cargs gl d n c.args.toList=some G):Z1i P gl d n o (ZlP P gf G):=by
 intro forc orc E T k out H hO hR h
 unfold ZlP at h
 rcases Zca h with ⟨fn,a,b,e,h⟩|h<;>try (cases h;done)
 obtain⟨vs,h1,h2⟩:=Z4m _ _ hG E (λvs=>fnG fn λg=>iff' (Z0b P g) (ZeF (forc g (Zhf a (Zhf vs b)) T) k) none)
 rw[h2]at h
 unfold fnG at h
 split at h<;>try (cases h;done)
 rename_i g
 obtain⟨hb,h⟩:=Z04 h
 obtain⟨v,T',h3,h4⟩:=Z96 h
 obtain⟨H',h5,h6⟩:=hO _ _ _ _ _ h3 H hR
 refine⟨v,T',H',?_,h6,h4⟩
 rw[Z63,Z63]at h5
 simp[aop,ho,callee,hc,Z05 hf,e,h1,Z08,hb,h5]
noncomputable def xcF(z:Nat)(x:AV)(T:TH)(f:Nat->List AV->Res):Res :=
 Z1e x (λb off len _ z'=>iff' (Y00 z' z) (Z1f (T.get b) (λ_ _ cs _=>tkR (Nat.mul len z) (Z8l cs off) (λl=>f len l) none) none) none) (λm z' cs=>iff' (Y00 z' z) (f m cs) none) (f 0 [])
  (Z4s x (λs=>iff' (Y00 z 1) (frcVL (s.map λb=>.int .u8 b.toNat) λl=>Z2y (Zil s) λm=>f m l) none) none)
theorem Zjk{z:Nat}{x:AV}{T:TH}{H:Z00}{f:Nat->List AV->Res}{out:AV×TH}(hR:Rep T H)(h:xcF z x T f=some out):∃m xs,Z2Y H z x=some (m,xs)/\f m xs=some out:=by
 unfold xcF at h
 rcases Z0B h with ⟨b,off,l,c,z',e1,h3⟩|⟨m,z',cs,e1,h3⟩|⟨e1,h3⟩|h3
 · obtain⟨h1,h4⟩:=Z04 h3
   have hz:=Y01 h1
   replace h4:Z1f (T.get b) _ none=some out:=h4
   obtain⟨fam,sh,cs,ty,e2,h5⟩:=Z13 h4
   have e2:T.get b=⟨true,fam,sh,.cells cs ty⟩:=e2
   obtain⟨r,h2,h6⟩:=Z4Y h5
   have hH:=hR.obj b (by rw[e2])
   rw[e2]at hH
   rw[Z1R]at h2
   have h2':tk (l*z) (cs.drop off)=some r:=h2
   exact⟨l,r,by simp[Z2Y,rd,hH,h2',e1,hz],h6⟩
 · obtain⟨h1,h4⟩:=Z04 h3
   have hz:=Y01 h1
   exact⟨m,cs,by simp[Z2Y,e1,hz],h4⟩
 ·exact⟨0,[],by simp[Z2Y,e1],h3⟩
 · rcases Z2i h3 with ⟨s,e1,h4⟩|h4<;>try (cases h4;done)
   obtain⟨h1,h5⟩:=Z04 h4
   have hz:=Y01 h1
   rw[frcVL_eq,Z0n,Z3s]at h5
   exact⟨_,_,by simp[Z2Y,e1,hz],h5⟩
noncomputable def Zoz(T:TH)(b fam sh:Nat)(cs:List AV)(ty:TypeId)(f:Nat->TH->Res):Res :=
 ZnL T λsz tr=>iff' (Nat.blt sz 4096) (Z4a 12 b Z0z tr λtr1=>Z4a 12 sz ⟨true,fam,sh,.cells cs ty⟩ tr1 λtr2=>Z2y (Nat.add sz 1) λs=>f sz ⟨s,tr2⟩) none
theorem ZfV {T : TH} {b fam sh : Nat} {cs : List AV} {ty : TypeId} {f : Nat -> TH -> Res} {out : AV × TH} (h : Zoz T b fam sh cs ty f = some out) :
  T.sz<4096/\f T.sz ((T.set b Z0z).push ⟨true,fam,sh,.cells cs ty⟩)=some out:=by
 obtain⟨sz,tr⟩:=T
 obtain⟨h1,h2⟩:=Z04 (show iff' (Nat.blt sz 4096) (Z4a 12 b Z0z tr λtr1=>Z4a 12 sz ⟨true,fam,sh,.cells cs ty⟩ tr1 λtr2=>Z2y (Nat.add sz 1) λs=>f sz ⟨s,tr2⟩) none=some out from h)
 rw[Z3e,Z3e,Z0n]at h2
 exact⟨by simpa[Y02]using h1,h2⟩
theorem Rep.grow' {T : TH} {H : Z00} (h : Rep T H) {b fam sh0 : Nat} {bd0 : ABody} (e : T.get b = ⟨true, fam, sh0, bd0⟩) (hs : T.sz < 4096) (en sh : Nat) (bd : ABody) :
  Rep ((T.set b Z0z).push ⟨true,fam,sh,bd⟩) (ZbM fam en H++[⟨true,fam,sh,bd⟩]):=by
 have:=h.grow (b:=b) (by rw[e]) hs en sh bd
 simp only[e]at this
 exact this
noncomputable def ZbV{α : Type}(l:List α):Bool:=List.rec false (λ_ _ _=>true) l
theorem Z8x{α : Type}(l:List α)(k:Nat):ZbV (l.drop k)=true ↔ k<l.length:=by
 have:∀m:List α,ZbV m=true ↔ 0<m.length:=λm=>by cases m<;>simp[ZbV]
 rw[this,List.length_drop];omega
noncomputable def Zoe(e:TypeId)(by' b off len z' lm:Nat)(xs:List AV)(fam sh:Nat)(cs:List AV)(ty:TypeId)(T:TH)(k:Knt):Res :=
 iff' (Nat.ble lm 1099511627776) (iff' (Nat.ble (Nat.mul lm by') 70368744177664)
  (iff' (Y00 (Nat.add off (Nat.mul len z')) (Zil cs)) (iff' (Y00 ty e) (iff' (ZdP xs)
    (ZmQ (Zhf (Z8l cs off) xs) λcs'=>Z2y (Nat.add sh off) λso=>Zoz T b fam so cs' ty λa T'=>k (.slice a 0 lm lm z') T') none) none) none) none) none
noncomputable def Zof(e:TypeId)(z by':Nat)(s:AV)(m:Nat)(xs:List AV)(T:TH)(k:Knt):Res :=
 iff' (Y00 m 0) (Z1e s (λb o l c z'=>k (.slice b o l c z') T) (λm' z' cs=>k (.rs m' z' cs) T) (k .nslice T) none)
  (Z1e s (fun b off len cap z' => iff' (Y00 z' z) (Z2y (Nat.add len m) fun lm => Z1f (T.get b) (fun fam sh cs ty => iff' (Nat.ble lm cap)
     (iff' (ZbV (Z8l cs (Nat.add off (Nat.mul len z')))) (wrF (.ptr b (Nat.add off (Nat.mul len z'))) xs T λT'=>k (.slice b off lm cap z') T') (Zoe e by' b off len z' lm xs fam sh cs ty T k))
     (Zoe e by' b off len z' lm xs fam sh cs ty T k)) none) none)
    (λ_ _ _=>none) (iff' (Nat.ble m 1099511627776) (iff' (Nat.ble (Nat.mul m by') 70368744177664) (Zia (λa=>.slice a 0 m m z) (.cells xs e) k T) none) none) none)
theorem Z0I{γ : Type}{b:Bool}{x y:Option γ}{out : γ}(h:iff' b x y=some out):(b=true/\x=some out)\/(b=false/\y=some out):=by
 cases b
 ·exact .inr ⟨rfl,h⟩
 ·exact .inl ⟨rfl,h⟩
theorem ZlY {e t t2 : TypeId} {i : TypeInfo} {u : AV} {s x : AV} {m : Nat} {xs : List AV} {T : TH} {H : Z00} {k : Knt} {out : AV × TH} (hu : P.underlying t = some (.slice e)) (hi : P.info? e = some i) (hz : Z1o P e = some u) (hx2 : apx P t2 = true) (hsz : u.cells.length = i.size)
  (hR:Rep T H) (hxs:Z2Y H i.size x=some (m,xs)) (h:Zof e i.size i.bytes s m xs T k=some out):∃r T' H',Z2X P t t2 s x H=some (r,H')/\Rep T' H'/\k r T'=some out:=by
 have hcond:(apx P t2&&u.cells.length==i.size)=true:=by simp[hx2,hsz]
 unfold Zof at h
 rcases Z0I h with ⟨h0,h⟩|⟨h0,h⟩
 · have h0':=Y01 h0
   subst h0'
   rcases Z0B h with ⟨b,off,l,c,z',rfl,h⟩|⟨l,z',cs,rfl,h⟩|⟨rfl,h⟩|h<;>try (cases h;done)
   all_goals exact⟨_,T,H,by simp only[Z2X,hu,hi,hz,hcond,hxs,if_true],hR,h⟩
 · have h0':¬m=0:=by intro e;subst e;simp at h0
   rcases Z0B h with ⟨b,off,l,c,z',rfl,h⟩|⟨_,_,_,_,h⟩|⟨rfl,h⟩|h<;>try (cases h;done)
   · obtain⟨h1,h⟩:=Z04 h
     have:=Y01 h1;subst this
     rw[Z0n]at h
     replace h:Z1f (T.get b) _ none=some out:=h
     obtain⟨fam,sh,cs,ty,e2,h⟩:=Z13 h
     have e2:T.get b=⟨true,fam,sh,.cells cs ty⟩:=e2
     have hH:=hR.obj b (by rw[e2])
     rw[e2]at hH
     have hcl:Zmf H b=cs.length:=by simp[Zmf,hH]
     have grow:¬(l+m<=c/\off+l*i.size<Zmf H b)->Zoe e i.bytes b off l i.size (Nat.add l m) xs fam sh cs ty T k=some out->∃r T' H',Z2X P t t2 (.slice b off l c i.size) x H=some (r,H')/\Rep T' H'/\k r T'=some out:=by
      intro h2' h
      obtain⟨h3,h⟩:=Z04 h
      obtain⟨h4,h⟩:=Z04 h
      have h3':l+m<=1099511627776:=Y03 h3
      have h4':(l+m)*i.bytes<=70368744177664:=Y03 h4
      obtain⟨h5,h⟩:=Z04 h
      obtain⟨h6,h⟩:=Z04 h
      obtain⟨h7,h⟩:=Z04 h
      have h5':off+l*i.size=cs.length:=by rw[<- Z3s];exact Y01 h5
      have h6':=Y01 h6
      rw[Z87]at h7
      rw[Z9N,Z0n,Z63,Z1R]at h
      obtain⟨h8,h⟩:=ZfV h
      have hg:=hR.grow' e2 h8 (sh+cs.length) (sh+off) (.cells (cs.drop off++xs) ty)
      refine⟨.slice H.length 0 (l+m) (l+m) i.size,_,_,?_,hg,?_⟩
      · simp only [Z2X, hu, hi, hz, hcond, hxs, if_true, if_neg h0', if_neg h2', if_pos (show l + m <= 1099511627776 /\ (l + m) * i.bytes <= 70368744177664 from ⟨h3', h4'⟩), hH,
         if_pos (show off+l*i.size=cs.length/\ty=e/\xs.all one=true from ⟨h5',h6',h7⟩)]
      ·rw[<- hR.sz];exact h
     rcases Z0I h with ⟨h2,h⟩|⟨h2,h⟩
     · have h2':l+m<=c:=Y03 h2
       rw[Z1R]at h
       rcases Z0I h with ⟨h9,h⟩|⟨h9,h⟩
       · have h9':off+l*i.size<Zmf H b:=by rw[hcl];exact (Z8x cs _).1 h9
         obtain⟨T',H',g1,g2,g3⟩:=Zam hR h
         have g1':wr H (.ptr b (off+l*i.size)) xs=some H':=g1
         exact⟨_,T',H',by simp only[Z2X,hu,hi,hz,hcond,hxs,if_true,if_neg h0',if_pos (show l+m<=c/\off+l*i.size<Zmf H b from ⟨h2',h9'⟩),g1'];rfl,g2,g3⟩
       · refine grow (λhc=>?_) h
         have:ZbV (cs.drop (off+l*i.size))=true:=(Z8x cs _).2 (by rw[<- hcl];exact hc.2)
         rw[show ZbV (List.drop (Nat.add off (Nat.mul l i.size)) cs)=ZbV (cs.drop (off+l*i.size)) from rfl,this]at h9
         cases h9
     · have h2':¬l+m<=c:=λhle=>by rw[show Nat.ble (Nat.add l m) c=true from Y0b hle]at h2;cases h2
       exact grow (λhc=>h2' hc.1) h
   · obtain⟨h3,h⟩:=Z04 h
     obtain⟨h4,h⟩:=Z04 h
     have h3':m<=1099511627776:=Y03 h3
     have h4':m*i.bytes<=70368744177664:=Y03 h4
     obtain⟨h5,h⟩:=Z7u h
     rw[Z0o]at h
     refine⟨.slice H.length 0 m m i.size,_,_,?_,hR.push h5 (.cells xs e),?_⟩
     ·simp only[Z2X,hu,hi,hz,hcond,hxs,if_true,if_neg h0',if_pos (show m<=1099511627776/\m*i.bytes<=70368744177664 from ⟨h3',h4'⟩)];rfl
     ·rw[<- hR.sz];exact h
noncomputable def ZoL(e:TypeId)(z by':Nat)(gs gx:Tre AV d->AV):OpF d:=λ_ E T k=>xcF z (gx E) T λm xs=>Zof e z by' (gs E) m xs T k
theorem Zhi{ρ : Operand->Option AV}{orc:Orc}{H:Z00}{c:Call}{b:Builtin}(ho:o.op = .call c)(hc:c.callee = .builtin b)(hb:b = .append\/b = .copy):aop P orc ρ o H=Z3j P ρ H o:=by
 rcases hb with rfl|rfl<;>simp[aop,Z02,Z0l,ho,hc,callee]
theorem ZlX {c : Call} {s x : Operand} {t t2 e : TypeId} {i : TypeInfo} {u : AV} {gs gx : Tre AV d -> AV} (ho : o.op = .call c) (hc : c.callee = .builtin .append) (ha : c.args.toList = [s, x]) (ht : c.argTypes.toList = [t, t2])
  (hu:P.underlying t=some (.slice e)) (hi:P.info? e=some i) (hz:Z1o P e=some u) (hx2:apx P t2=true) (hsz:u.cells.length=i.size) (hs:Z0E gl d n s=some gs) (hx:Z0E gl d n x=some gx):Z1i P gl d n o (ZoL e i.size i.bytes gs gx):=by
 intro forc orc E T k out H hO hR h
 obtain⟨m,xs,h1,h2⟩:=Zjk hR h
 obtain⟨r,T',H',g1,g2,g3⟩:=ZlY hu hi hz hx2 hsz hR h1 h2
 refine⟨r,T',H',?_,g2,g3⟩
 rw[Zhi ho hc (.inl rfl)]
 simp[Z3j,ho,hc,ha,ht,Z05 hs,Z05 hx,g1]
noncomputable def ZoE(z:Nat)(gs gx:Tre AV d->AV):OpF d:=λ_ E T k=>xcF z (gx E) T λm xs=>Z1e (gs E)
 (λb off len _ z'=>iff' (Y00 z' z) (Z2y (Nat.min m len) λmn=>iff' (Y00 mn 0) (k (.int .i64 (.ofNat 0)) T) (tkR (Nat.mul mn z') xs (λcs=>wrF (.ptr b off) cs T λT'=>k (.int .i64 (.ofNat mn)) T') none)) none)
 (λ_ _ _=>none) (k (.int .i64 (.ofNat 0)) T) none
theorem ZlG {c : Call} {s x : Operand} {t t2 e : TypeId} {z : Nat} {gs gx : Tre AV d -> AV} (ho : o.op = .call c) (hc : c.callee = .builtin .copy) (ha : c.args.toList = [s, x]) (ht : c.argTypes.toList = [t, t2])
  (hu:P.underlying t=some (.slice e)) (hz:tsz P e=some z) (hs:Z0E gl d n s=some gs) (hx:Z0E gl d n x=some gx):Z1i P gl d n o (ZoE z gs gx):=by
 intro forc orc E T k out H hO hR h
 obtain⟨m,xs,h1,h⟩:=Zjk hR h
 have key:∀r H',Zaf P t (gs E) (gx E) H=some (r,H')->aop P orc (Z4r gl d n E) o H=some (r,H'):=by
  intro r H' g
  rw[Zhi ho hc (.inr rfl)]
  simp[Z3j,ho,hc,ha,ht,Z05 hs,Z05 hx,g]
 rcases Z0B h with ⟨b,off,l,cp,z',e1,h⟩|⟨_,_,_,_,h⟩|⟨e1,h⟩|h<;>try (cases h;done)
 · obtain⟨h2,h5⟩:=Z04 h
   have hzz:=Y01 h2
   rw[Z0n]at h5
   rcases Z0I h5 with ⟨h3,h6⟩|⟨h3,h6⟩
   · have h3':=Y01 h3
     exact⟨_,T,H,key _ _ (by simp only[Zaf,hu,hz,h1,e1,hzz,if_true,if_pos h3'];rfl),hR,h6⟩
   · have h3':¬Nat.min m l=0:=λe=>by rw[e]at h3;simp at h3
     obtain⟨cs,h4,h7⟩:=Z4Y h6
     have h4':tk (Nat.min m l*z') xs=some cs:=h4
     rw[hzz]at h4'
     obtain⟨T',H',g1,g2,g3⟩:=Zam hR h7
     exact⟨_,T',H',key _ _ (by simp only[Zaf,hu,hz,h1,e1,hzz,if_true,if_neg h3',h4',g1];rfl),g2,g3⟩
 ·exact⟨_,T,H,key _ _ (by simp only[Zaf,hu,hz,h1,e1];rfl),hR,h⟩
noncomputable def Zo8(P:Program)(s t:TypeId)(g:Tre AV d->AV):OpF d:=λ_ E T k=>onPtr (g E) (λb off=>iff' (Z6x P s t 0 off [T.get b]) (k (.ptr b off) T) none) (λ_=>none) none
theorem Zh5{s t:TypeId}{x:Operand}{g:Tre AV d->AV}(ho:o.op = .convert s t x)(ht:(∃e,P.underlying t=some (.pointer e))\/P.underlying t=some .unsafePointer)(hg:Z0E gl d n x=some g):Z1i P gl d n o (Zo8 P s t g):=by
 intro forc orc E T k out H hO hR h
 rcases Z1l h with ⟨b,off,e,h⟩|⟨_,_,h⟩|h<;>try (cases h;done)
 obtain⟨h1,h2⟩:=Z04 h
 have hal:(T.get b).alive=true:=by
  unfold Z6x at h1
  simp only[Y05]at h1
  split at h1
  ·rename_i ha _;exact ha
  ·cases h1
 have hH:=hR.obj b hal
 have h3:Z6x P s t b off H=true:=by
  unfold Z6x at h1⊢
  rw[hH];exact h1
 refine⟨.ptr b off,T,H,?_,hR,h2⟩
 rw[Z4K (by simp[kind,ho])]
 have hp:Z02 P (Z4r gl d n E) H o=none:=by simp[Z02,Z0l,ho,Z05 hg,e,ZeR]
 rw[hp]
 simp[Z3j,ho,Z05 hg,e,Z8e,h3]
def ZiM(P:Program)(g:Nat):Bool:=match P.funcs[g]? with|some fn=>decide (fn.body.isNone=true/\fn.name = "internal/abi.NoEscape" /\ fn.origin = "")|none=>false
theorem Zet{g:Nat}(h:ZiM P g=true)(x:AV):Z7R P g [x]=some x/\Z0b P g=false:=by
 unfold ZiM at h
 unfold Z7R Z0b
 split at h
 · rename_i fn hfn
   have h':=of_decide_eq_true h
   simp only[hfn]
   rw[if_pos h']
   refine⟨rfl,?_⟩
   cases hb:fn.body with
   |none=>rfl
   |some c=>have:=h'.1;rw[hb]at this;cases this
 ·cases h
noncomputable def Zei(vs:List AV)(f:AV->Res):Res:=List.rec none (λv l _=>List.rec (f v) (λ_ _ _=>none) l) vs
theorem Z8J{vs:List AV}{f:AV->Res}{out:AV×TH}(h:Zei vs f=some out):∃v,vs=[v]/\f v=some out:=by
 match vs,h with
 |[v],h=>exact⟨v,rfl,h⟩
noncomputable def ZmU(G:Tre AV d->(List AV->Res)->Res):OpF d:=λ_ E T k=>G E λvs=>Zei vs λv=>k v T
theorem ZiL{c:Call}{g:Nat}{G:Tre AV d->(List AV->Res)->Res}(ho:o.op = .call c)(hc:c.callee = .value (.func g))(hb:ZiM P g=true)(hG:cargs gl d n c.args.toList=some G):Z1i P gl d n o (ZmU G):=by
 intro forc orc E T k out H hO hR h
 obtain⟨vs,h1,h2⟩:=Z4m _ _ hG E (λvs=>Zei vs λv=>k v T)
 have h:G E (λvs=>Zei vs λv=>k v T)=some out:=h
 rw[h2]at h
 obtain⟨v,rfl,h3⟩:=Z8J h
 obtain⟨e1,e2⟩:=Zet hb v
 refine⟨v,T,H,?_,hR,h3⟩
 have hf:Z4r gl d n E (.func g)=some (.func (.func g) [] []):=rfl
 simp[aop,ho,callee,hc,hf,h1,Z08,e1,e2]
theorem Zeu{g:Nat}{e:TypeId}(h:Zb9 P g=some e)(vs:List AV):Z7R P g vs=none/\Z9V P g vs=none/\Z0b P g=false:=by
 unfold Zb9 at h
 unfold Z7R Z9V Z0b
 split at h<;>try (cases h;done)
 rename_i fn hfn
 split at h<;>try (cases h;done)
 rename_i hc
 refine⟨?_,?_,?_⟩
 ·rw[if_neg];rintro⟨_,h2,_⟩;rw[hc.2.1]at h2;exact absurd h2 (by decide)
 ·rw[if_neg (by rintro⟨_,h2,_⟩;rw[hc.2.1]at h2;exact absurd h2 (by decide)),if_neg (by rintro⟨_,h2,_⟩;rw[hc.2.1]at h2;exact absurd h2 (by decide))]
 · cases hb:fn.body with
   |none=>rfl
   |some c=>have:=hc.1;rw[hb]at this;cases this
def Z9U(P:Program)(g:Nat):Bool:=match P.funcs[g]? with|some fn=>decide (fn.body.isNone=true/\fn.name = "internal/bytealg.IndexByteString" /\ fn.origin = "")|none=>false
theorem Zba{g:Nat}(h:Z9U P g=true)(s:List UInt8)(m:Nat):Z7R P g [.str s,.int .u8 (.ofNat m)]=none/\Z9V P g [.str s,.int .u8 (.ofNat m)]=some (.int .i64 (ixB (UInt8.ofNat m) s 0))/\Z0b P g=false:=by
 unfold Z9U at h
 unfold Z7R Z9V Z0b
 split at h<;>try (cases h;done)
 rename_i fn hfn
 have hc:=of_decide_eq_true h
 simp only[hfn]
 refine⟨?_,?_,?_⟩
 ·rw[if_neg];rintro⟨_,h2,_⟩;rw[hc.2.1]at h2;exact absurd h2 (by decide)
 ·rw[if_pos hc]
 · cases hb:fn.body with
   |none=>rfl
   |some c=>have:=hc.1;rw[hb]at this;cases this
noncomputable def ZkF(vs:List AV)(f:AV->AV->Res):Res:=List.rec none (λv l _=>List.rec none (λw l _=>List.rec (f v w) (λ_ _ _=>none) l) l) vs
theorem Zeh{vs:List AV}{f:AV->AV->Res}{out:AV×TH}(h:ZkF vs f=some out):∃v w,vs=[v,w]/\f v w=some out:=by
 match vs,h with
 |[v,w],h=>exact⟨v,w,rfl,h⟩
noncomputable def ZnT(G:Tre AV d->(List AV->Res)->Res):OpF d:=λ_ E T k=>G E λvs=>ZkF vs λv w=>Z4s v (λs=>onNat w (λkk m=>iff' (Y00 (kix kk) (kix .u8)) (Z6B (.int .i64 (ixB (UInt8.ofNat m) s 0)) λr=>k r T) none) none) none
theorem Zl1{c:Call}{g:Nat}{G:Tre AV d->(List AV->Res)->Res}(ho:o.op = .call c)(hc:c.callee = .value (.func g))(he:Z9U P g=true)(hG:cargs gl d n c.args.toList=some G):Z1i P gl d n o (ZnT G):=by
 intro forc orc E T k out H hO hR h
 obtain⟨vs,h1,h2⟩:=Z4m _ _ hG E (λvs=>ZkF vs λv w=>Z4s v (λs=>onNat w (λkk m=>iff' (Y00 (kix kk) (kix .u8)) (Z6B (.int .i64 (ixB (UInt8.ofNat m) s 0)) λr=>k r T) none) none) none)
 unfold ZnT at h
 rw[h2]at h
 obtain⟨v,w,rfl,h3⟩:=Zeh h
 rcases Z2i h3 with ⟨s,rfl,h4⟩|h4<;>try (cases h4;done)
 rcases Z1J h4 with ⟨kk,m,rfl,h5⟩|h5<;>try (cases h5;done)
 obtain⟨h6,h7⟩:=Z04 h5
 have hk:=Z7z h6
 subst hk
 rw[Z1y]at h7
 obtain⟨e1,e2,e3⟩:=Zba he s m
 refine⟨_,T,H,?_,hR,h7⟩
 have hf:Z4r gl d n E (.func g)=some (.func (.func g) [] []):=rfl
 have e1':Z7R P g [.str s,.int .u8 (Int.ofNat m)]=none:=e1
 have e2':Z9V P g [.str s,.int .u8 (Int.ofNat m)]=some (.int .i64 (ixB (UInt8.ofNat m) s 0)):=e2
 simp only[aop,ho,callee,hc,hf,h1,Z08,e3,List.nil_append,List.append_nil,Y0f,if_false,e1',e2']
noncomputable def ZnM(e:TypeId)(G:Tre AV d->(List AV->Res)->Res):OpF d:=λ_ E T k=>G E λvs=>Zei vs λv=>onNat v (λkk m=>iff' (Y00 (kix kk) 3) (iff' (Nat.ble m 281474976710656) (Zia (λa=>.slice a 0 m m 1) (.cells [] e) k T) none) none) none
theorem ZkM{c:Call}{g:Nat}{e:TypeId}{G:Tre AV d->(List AV->Res)->Res}(ho:o.op = .call c)(hc:c.callee = .value (.func g))(he:Zb9 P g=some e)(hG:cargs gl d n c.args.toList=some G):Z1i P gl d n o (ZnM e G):=by
 intro forc orc E T k out H hO hR h
 obtain⟨vs,h1,h2⟩:=Z4m _ _ hG E (λvs=>Zei vs λv=>onNat v (λkk m=>iff' (Y00 (kix kk) 3) (iff' (Nat.ble m 281474976710656) (Zia (λa=>.slice a 0 m m 1) (.cells [] e) k T) none) none) none)
 unfold ZnM at h
 rw[h2]at h
 obtain⟨v,rfl,h3⟩:=Z8J h
 rcases Z1J h3 with ⟨kk,m,rfl,h4⟩|h4<;>try (cases h4;done)
 obtain⟨h5,h6⟩:=Z04 h4
 have hk:kk = .i64:=Z7z (k':=.i64) h5
 subst hk
 obtain⟨h7,h8⟩:=Z04 h6
 have h7':m<=281474976710656:=Y03 h7
 obtain⟨h9,h10⟩:=Z7u h8
 rw[Z0o]at h10
 obtain⟨e1,e4,e2⟩:=Zeu he [.int .i64 (Int.ofNat m)]
 refine⟨.slice H.length 0 m m 1,_,_,?_,hR.push h9 (.cells [] e),?_⟩
 · have hf:Z4r gl d n E (.func g)=some (.func (.func g) [] []):=rfl
   simp only[aop,ho,callee,hc,hf,h1,Z08,e2,List.nil_append,List.append_nil,Y0f,if_false,e1,e4,he,if_pos h7',hR.sz]
 ·rw[<- hR.sz];exact h10
noncomputable def ZoH(g:Tre AV d->AV):OpF d:=λ_ E T k=>Z1e (g E) (λ_ _ _ _ _=>none) (λ_ _ _=>none) (k (.int .i64 (.ofNat 0)) T) none
theorem ZlO{c:Call}{x:Operand}{t e:TypeId}{g:Tre AV d->AV}(ho:o.op = .call c)(hc:c.callee = .builtin .cap)(ha:c.args.toList=[x])(ht:c.argTypes.toList=[t])(hu:P.underlying t=some (.slice e))(hg:Z0E gl d n x=some g):Z1i P gl d n o (ZoH g):=by
 intro forc orc E T k out H hO hR h
 have ha':aop P orc (Z4r gl d n E) o H=Z3j P (Z4r gl d n E) H o:=by simp[aop,Z02,Z0l,ho,hc,callee]
 rcases Z0B h with ⟨_,_,_,_,_,_,h⟩|⟨_,_,_,_,h⟩|⟨e,h⟩|h<;>try (cases h;done)
 refine⟨_,T,H,?_,hR,h⟩
 rw[ha'];simp[Z3j,ho,hc,ha,ht,hu,Z05 hg,e]
noncomputable def ZoG(zs:List AV)(z:Nat)(g:Tre AV d->AV):OpF d:=λ_ E T k=>Z1e (g E)
 (λb off len _ z'=>iff' (Y00 len 0) (k (.tuple []) T) (iff' (Y00 z z') (wrF (.ptr b off) (Z1a len zs) T λT'=>k (.tuple []) T') none)) (λ_ _ _=>none) (k (.tuple []) T) none
theorem ZlM{c:Call}{x:Operand}{t e:TypeId}{u:AV}{g:Tre AV d->AV}(ho:o.op = .call c)(hc:c.callee = .builtin .clear)(ha:c.args.toList=[x])(ht:c.argTypes.toList=[t])(hu:P.underlying t=some (.slice e))(hz:Z1o P e=some u)(hg:Z0E gl d n x=some g):Z1i P gl d n o (ZoG u.cells u.cells.length g):=by
 intro forc orc E T k out H hO hR h
 have ha':aop P orc (Z4r gl d n E) o H=Z3j P (Z4r gl d n E) H o:=by simp[aop,Z02,Z0l,ho,hc,callee]
 have key:∀H',Z8f P t (g E) H=some H'->aop P orc (Z4r gl d n E) o H=some (.tuple [],H'):=by
  intro H' q
  rw[ha'];simp[Z3j,ho,hc,ha,ht,Z05 hg,q]
 rcases Z0B h with ⟨b,off,l,cp,z',e1,h⟩|⟨_,_,_,_,h⟩|⟨e1,h⟩|h<;>try (cases h;done)
 · rcases Z0I h with ⟨h1,h2⟩|⟨h1,h2⟩
   · have h1':=Y01 h1
     exact⟨_,T,H,key _ (by simp only[Z8f,hu,hz,e1,if_pos h1']),hR,h2⟩
   · obtain⟨h3,h4⟩:=Z04 h2
     have h3':=Y01 h3
     have h1':¬l=0:=λe=>by rw[e]at h1;cases h1
     obtain⟨T',H',g1,g2,g3⟩:=Zam hR h4
     exact⟨_,T',H',key _ (by simp only[Z8f,hu,hz,e1,if_neg h1',if_pos h3'];exact g1),g2,g3⟩
 ·exact⟨_,T,H,key _ (by simp only[Z8f,hu,hz,e1]),hR,h⟩
noncomputable def Zoo(g:Tre AV d->AV):OpF d:=λ_ E T k=>Z1e (g E) (λb off _ cap _=>Nat.rec none (λ_ _=>k (.ptr b off) T) cap) (λ_ _ _=>none) (k .nptr T) none
theorem Zkw{c:Call}{x:Operand}{g:Tre AV d->AV}(ho:o.op = .call c)(hc:c.callee = .builtin .unsafeSliceData)(ha:c.args.toList=[x])(hg:Z0E gl d n x=some g):Z1i P gl d n o (Zoo g):=by
 intro forc orc E T k out H hO hR h
 have ha':aop P orc (Z4r gl d n E) o H=Z3j P (Z4r gl d n E) H o:=by simp[aop,Z02,Z0l,ho,hc,callee]
 rcases Z0B h with ⟨b,off,l,cp,z,e,h⟩|⟨_,_,_,_,h⟩|⟨e,h⟩|h<;>try (cases h;done)
 · cases cp with
   |zero=>cases h
   |succ cp =>
    refine⟨.ptr b off,T,H,?_,hR,h⟩
    rw[ha'];simp[Z3j,ho,hc,ha,Z05 hg,e]
 · refine⟨.nptr,T,H,?_,hR,h⟩
   rw[ha'];simp[Z3j,ho,hc,ha,Z05 hg,e]
noncomputable def Zoi(P:Program)(t:TypeId)(gx gn:Tre AV d->AV):OpF d:=λ_ E T k=>onNat (gn E) (λkk m=>iff' (Y00 (kix kk) 3) (frc1 (gx E) λp=>match m with
 |0=>(match p with | .nptr=>k (.str []) T | .ptr _ _=>k (.str []) T|_=>none)
 |m+1=>(match p with
  | .ptr b 0=>(match Z8b P t (.ptr 0 0) (m+1) [T.get b] with|some (r,_)=>Z6B r λr=>Zmw T b Z0z λT'=>k r T'|none=>none)
  |_=>none)) none) none
theorem Zhm{t:TypeId}{b m:Nat}{o:AObj}{H H1:Z00}{r:AV}(hb:H[b]? = some o)(h:Z8b P t (.ptr 0 0) (m+1) [o]=some (r,H1)):o.alive=true/\Z8b P t (.ptr b 0) (m+1) H=some (r,(Z30 b o.fam H).set b o.dead):=by
 unfold Z8b at h⊢
 simp only[Y05]at h
 simp only[hb]
 split at h<;>try (simp at h;done)
 rename_i cs ty hal hbd
 split at h<;>try (simp at h;done)
 rename_i e ht
 split at h<;>try (simp at h;done)
 rename_i hc
 split at h<;>try (simp at h;done)
 rename_i l hl
 split at h<;>simp at h
 rename_i bs hbs
 obtain⟨rfl,_⟩:=h
 refine⟨hal,?_⟩
 simp only[hal,hbd,ht,if_pos hc,hl,hbs]
theorem Zke {c : Call} {x y : Operand} {t t2 : TypeId} {gx gn : Tre AV d -> AV} (ho : o.op = .call c) (hc : c.callee = .builtin .unsafeString) (ha : c.args.toList = [x, y]) (ht : c.argTypes.toList = [t, t2]) (hx : Z0E gl d n x = some gx) (hy : Z0E gl d n y = some gn) :
  Z1i P gl d n o (Zoi P t gx gn):=by
 intro forc orc E T k out H hO hR h
 have ha':aop P orc (Z4r gl d n E) o H=Z3j P (Z4r gl d n E) H o:=by simp[aop,Z02,Z0l,ho,hc,callee]
 rcases Z1J h with ⟨kk,m,e1,h⟩|h<;>try (cases h;done)
 obtain⟨h1,h⟩:=Z04 h
 have hk:kk = .i64:=by cases kk<;>first|rfl|cases h1
 subst hk
 simp only[Z0o]at h
 have key:∀r H',Z8b P t (gx E) m H=some (r,H')->aop P orc (Z4r gl d n E) o H=some (r,H'):=by
  intro r H' g
  rw[ha'];simp only[Z3j,ho,hc,ha,ht,Z05 hx,Z05 hy,e1,g]
 cases m with
 |zero =>
  simp only at h
  split at h<;>try (cases h;done)
  ·rename_i e;exact⟨_,T,H,key _ _ (by simp[e,Z8b]),hR,h⟩
  ·rename_i e;exact⟨_,T,H,key _ _ (by simp[e,Z8b]),hR,h⟩
 |succ m =>
  simp only at h
  split at h<;>try (cases h;done)
  rename_i b e
  split at h<;>try (cases h;done)
  rename_i r H1 hu
  rw[Z1y,Z9C]at h
  have hal:(T.get b).alive=true:=by
   unfold Z8b at hu
   simp only[Y05]at hu
   split at hu
   ·rename_i ha _;exact ha
   ·cases hu
  have hH:=hR.obj b hal
  obtain⟨_,g1⟩:=Zhm hH hu
  exact⟨r,_,_,key _ _ (by rw[e];exact g1),hR.lose hal,h⟩
noncomputable def Zo5(g:Tre AV d->AV):OpF d:=λ_ E T k=>frc1 (g E) λu=>match u with
 | .slice b off len cap z=>(match Z5w (.slice 0 off len cap z) [T.get b] with|some r=>Z6B r λr=>k r T|none=>none)
 |_=>none
theorem ZeQ{b off len cap z:Nat}{o:AObj}{H:Z00}{r:AV}(hb:H[b]? = some o)(h:Z5w (.slice 0 off len cap z) [o]=some r):Z5w (.slice b off len cap z) H=some r:=by
 unfold Z5w at h⊢
 simp only[Y05]at h
 simp only[hb]
 exact h
theorem ZlC{src dst:TypeId}{x:Operand}{g:Tre AV d->AV}(ho:o.op = .convert src dst x)(hs:Z8d P src dst=true)(hx:Z0E gl d n x=some g):Z1i P gl d n o (Zo5 g):=by
 intro forc orc E T k out H hO hR h
 unfold Zo5 at h
 simp only[Z0o]at h
 split at h<;>try (cases h;done)
 rename_i b off len cap z e
 split at h<;>try (cases h;done)
 rename_i r hr
 rw[Z1y]at h
 have hal:(T.get b).alive=true:=by
  unfold Z5w at hr
  simp only[Y05]at hr
  split at hr
  · split at hr
    ·rename_i ha _;exact ha
    ·cases hr
  ·cases hr
 have hH:=hR.obj b hal
 refine⟨r,T,H,Z0d (by simp[kind,ho]) ?_,hR,h⟩
 unfold Z02
 simp only[ho,Z05 hx,e,hs,if_true]
 exact ZeQ hH hr
def mvS(b:Nat):AV->AV
 | .slice _ o l c z=>.slice b o l c z
 |v=>v
noncomputable def ZnH(P:Program)(gl:Glob)(d n:Nat)(t:TypeId)(x:Operand)(lo hi:Option Operand):OpF d:=λ_ E T k=>match Z4r gl d n E x,Z65 (Z4r gl d n E) lo,Z65 (Z4r gl d n E) hi with
 |some u,some lo,some hi=>(match u with
  | .ptr b off=>(match Z2W P t (.ptr 0 off) lo hi [T.get b] with|some r=>Z6B (mvS b r) λr=>k r T|none=>none)
  |_=>none)
 |_,_,_=>none
theorem ZcG{t:TypeId}{b off:Nat}{lo hi:Option AV}{o:AObj}{H:Z00}{r:AV}(hb:H[b]? = some o)(h:Z2W P t (.ptr 0 off) lo hi [o]=some r):o.alive=true/\Z2W P t (.ptr b off) lo hi H=some (mvS b r):=by
 unfold Z2W at h⊢
 simp only[Y05]at h
 simp only[hb]
 split at h<;>try (simp at h;done)
 rename_i n e ht
 split at h<;>try (simp at h;done)
 rename_i z hz
 split at h<;>try (simp at h;done)
 rename_i cs ty hal hbd
 split at h<;>try (simp at h;done)
 rename_i hle
 split at h<;>try (simp at h;done)
 rename_i k hk
 split at h<;>simp at h
 subst h;rename_i l hl
 refine⟨hal,?_⟩
 simp only[ht,hz,hal,hbd,hle,if_true,hk,hl,mvS]
theorem Zkx{t:TypeId}{x:Operand}{lo hi:Option Operand}(ho:o.op = .slice t x lo hi none)(ht:∃m e,P.underlying t=some (.array m e)):Z1i P gl d n o (ZnH P gl d n t x lo hi):=by
 intro forc orc E T k out H hO hR h
 unfold ZnH at h
 split at h<;>try (cases h;done)
 rename_i u lo1 hi1 hu hlo hhi
 split at h<;>try (cases h;done)
 rename_i b off
 split at h<;>try (cases h;done)
 rename_i r hr
 rw[Z1y]at h
 obtain⟨m,e,ht⟩:=ht
 have hal:(T.get b).alive=true:=by
  unfold Z2W at hr
  simp only[Y05,ht]at hr
  split at hr<;>try (simp at hr;done)
  split at hr
  ·rename_i ha _;exact ha
  ·cases hr
 obtain⟨_,hr2⟩:=ZcG (hR.obj b hal) hr
 have hp:Z02 P (Z4r gl d n E) H o=none:=by
  simp[Z02,Z0l,ho,hu,hlo,hhi,Z4w]
 refine⟨_,T,H,?_,hR,h⟩
 rw[Z4K (by simp[kind,ho]),hp]
 simp only[Z3j,ho,hu,hlo,hhi,hr2]
noncomputable def ZkN(dd:TypeDesc)(gm gk gv:Tre AV d->AV):OpF d:=λ_ E T k=>frc1 (gm E) λm=>frc1 (gk E) λkey=>frc1 (gv E) λv=>match m with
 | .map b=>ZaK (T.get b) (λfam sh es clock=>match Z6G dd key es 0 with
  |some (some (i,_))=>ZmQ (ZkL key v i es) λes'=>Zmw T b ⟨true,fam,sh,.map es' clock⟩ λT'=>k (.tuple []) T'
  |some none=>ZmQ (Zhf es [(key,v,clock)]) λes'=>Z2y (Nat.add clock 1) λc'=>Zmw T b ⟨true,fam,sh,.map es' c'⟩ λT'=>k (.tuple []) T'
  |none=>none) none
 |_=>none
theorem Zic {t e : TypeId} {m key v : Operand} {dd : TypeDesc} {gm gk gv : Tre AV d -> AV} (ho : o.op = .mapUpdate t m key v \/ o.op = .insert t m key v) (hd : Z3t P t = some (dd, e)) (hm : Z0E gl d n m = some gm) (hk : Z0E gl d n key = some gk)
  (hv:Z0E gl d n v=some gv):Z1i P gl d n o (ZkN dd gm gk gv):=by
 intro forc orc E T k out H hO hR h
 simp only[ZkN,Z0o]at h
 split at h<;>try (cases h;done)
 rename_i b e1
 replace h:ZaK (T.get b) _ none=some out:=h
 obtain⟨fam,sh,es,clock,e2,h⟩:=Z5I h
 have e2:T.get b=⟨true,fam,sh,.map es clock⟩:=e2
 have hH:=hR.obj b (by rw[e2])
 rw[e2]at hH
 have key:∀H',Z3D P t (gm E) (gk E) (gv E) H=some H'->aop P orc (Z4r gl d n E) o H=some (.tuple [],H'):=by
  intro H' g
  rcases ho with ho|ho<;>simp[aop,Z02,Z0l,Z3j,ho,Z05 hm,Z05 hk,Z05 hv,g]
 split at h<;>try (cases h;done)
 · rename_i i w hf
   rw[Z9N,Z9C]at h
   exact⟨_,_,_,key _ (by simp only[Z3D,hd,e1,hH,hf]),hR.set' e2 _,h⟩
 · rename_i hf
   rw[Z9N,Z0n,Z9C,Z63]at h
   exact⟨_,_,_,key _ (by simp only[Z3D,hd,e1,hH,hf]),hR.set' e2 _,h⟩
noncomputable def ZnQ(dd:TypeDesc)(z:AV)(ok:Bool)(gm gk:Tre AV d->AV):OpF d:=λ_ E T k=>frc1 (gm E) λm=>frc1 (gk E) λkey =>
 match (match m with | .nmap=>some [] | .map b=>ZaK (T.get b) (λ_ _ es _=>some es) none|_=>none) with
 |some es=>(match Z6G dd key es 0 with
  |some (some (_,v))=>frc1 v λv=>iff' ok (k (.tuple [v,.bool true]) T) (k v T)
  |some none=>iff' ok (k (.tuple [z,.bool false]) T) (k z T)
  |none=>none)
 |none=>none
theorem ZkS {t e : TypeId} {m key : Operand} {dd : TypeDesc} {z : AV} {ok : Bool} {gm gk : Tre AV d -> AV} (ho : o.op = .lookup t m key ok) (hd : Z3t P t = some (dd, e)) (hz : Z1o P e = some z) (hm : Z0E gl d n m = some gm) (hk : Z0E gl d n key = some gk) :
  Z1i P gl d n o (ZnQ dd z ok gm gk):=by
 intro forc orc E T k out H hO hR h
 simp only[ZnQ,Z0o]at h
 split at h<;>try (cases h;done)
 rename_i es hes
 have hes':ZfJ H (gm E)=some es:=by
  split at hes<;>try (cases hes;done)
  ·rename_i e1;simp at hes;subst hes;rw[e1];rfl
  · rename_i b e1
    replace hes:ZaK (T.get b) _ none=some es:=hes
    obtain⟨fam,sh,es',cl,e2,h3⟩:=Z5I hes
    have e2:T.get b=⟨true,fam,sh,.map es' cl⟩:=e2
    have h3:es'=es:=by simpa using h3
    subst h3
    have hH:=hR.obj b (by rw[e2])
    rw[e2]at hH
    rw[e1];simp[ZfJ,Z8O,hH]
 split at h<;>try (cases h;done)
 · rename_i i v hf
   rw[Z24]at h
   refine⟨if ok=true then .tuple [v,.bool true] else v,T,H,Z0d (by simp[kind,ho]) (by simp only[Z02,ho,Z05 hm,Z05 hk,Z4d,hd,hes',hf]),hR,?_⟩
   cases ok<;>simpa using h
 · rename_i hf
   rw[Z24]at h
   refine⟨if ok=true then .tuple [z,.bool false] else z,T,H,Z0d (by simp[kind,ho]) (by simp only[Z02,ho,Z05 hm,Z05 hk,Z4d,hd,hes',hf,hz]),hR,?_⟩
   cases ok<;>simpa using h
end ops
end Go.Abs
end
section
namespace Go.Abs
open Go.RowKit
section cop
variable (P:Program) (gl:Glob) (d n:Nat)
noncomputable def Z3y(o:Oper):Option (OpF d):=match kind o with
 |0=>some (Zay P gl d n o)
 |2=>some (Zku P gl d n o)
 |_=>none
noncomputable def Zh2(o:Oper)(op:BinOp)(x y:Operand):Option (OpF d):=match Znx op,Z0E gl d n x,Z0E gl d n y with
 |some F,some gx,some gy=>some (ZoJ F gx gy (Zay P gl d n o))
 |_,_,_=>Z3y P gl d n o
noncomputable def Zct(t:TypeId)(x:Operand):Option (OpF d):=match Z0E gl d n x with
 |some g=>match Z3K P t with
  |some false=>some (ZjE g)
  |some true=>match tsz P t with|some m=>Z2y m λm=>some (ZjD m g)|none=>none
  |none=>none
 |none=>none
noncomputable def ZgS(s:TypeId)(x:Operand)(f:Nat):Option (OpF d):=match Z0E gl d n x,Z4D P s f with
 |some g,some fd=>match tsz P fd.type with
  |some (_+1)=>Z2y fd.offset λc=>some (ZoC c g)
  |_=>none
 |_,_=>none
noncomputable def ZgQ(o:Oper)(t:TypeId)(x i:Operand):Option (OpF d):=match Z0E gl d n x,Z0E gl d n i with
 |some gx,some gi=>match P.underlying t with
  |some (.slice e)=>match tsz P e with|some z=>Z2y z λz=>some (Zoy z gx gi)|none=>none
  |_=>Z3y P gl d n o
 |_,_=>none
noncomputable def ZgO(o:Oper)(t:TypeId)(x i:Operand):Option (OpF d):=match Z0E gl d n x,Z0E gl d n i with
 |some gx,some gi=>match P.underlying t with
  |some .string=>some (Zox gx gi)
  |_=>Z3y P gl d n o
 |_,_=>none
noncomputable def ZgM(o:Oper)(x:Operand)(t:TypeId):Option (OpF d):=match Z0E gl d n x with
 |some g=>match P.underlying t with
  |some .string=>some (ZmD g)
  |some (.slice _)=>some (Zow g)
  |some (.map _ _)=>some (ZkU g)
  |_=>none
 |none=>none
noncomputable def Zh4(s x:Operand)(t t2:TypeId):Option (OpF d):=match Z0E gl d n s,Z0E gl d n x with
 |some gs,some gx=>match P.underlying t with
  |some (.slice e)=>match P.info? e,Z1o P e with
   |some i,some u=>iff' (apx P t2&&Y00 u.cells.length i.size) (Z2y i.size λz=>Z2y i.bytes λb=>some (ZoL e z b gs gx)) none
   |_,_=>none
  |_=>none
 |_,_=>none
noncomputable def ZgU(s x:Operand)(t:TypeId):Option (OpF d):=match Z0E gl d n s,Z0E gl d n x with
 |some gs,some gx=>match P.underlying t with
  |some (.slice e)=>match tsz P e with
   |some z=>Z2y z λz=>some (ZoE z gs gx)
   |none=>none
  |_=>none
 |_,_=>none
noncomputable def Zcu(o:Oper)(c:Call):Option (OpF d):=match c.callee with
 | .value (.func g)=>match cargs gl d n c.args.toList with|some G=>iff' (Z0b P g) (some (Znf g G)) (iff' (ZiM P g) (some (ZmU G)) (iff' (Z9U P g) (some (ZnT G)) (match Zb9 P g with|some e=>Z2y e λe=>some (ZnM e G)|none=>none)))|none=>none
 | .value f=>match Z0E gl d n f,cargs gl d n c.args.toList with|some gf,some G=>some (ZlP P gf G)|_,_=>none
 | .builtin .len=>match c.args.toList,c.argTypes.toList with|[x],t::_=>ZgM P gl d n o x t|_,_=>none
 | .builtin .append=>match c.args.toList,c.argTypes.toList with|[s,x],[t,t2]=>Zh4 P gl d n s x t t2|_,_=>none
 | .builtin .cap=>match c.args.toList,c.argTypes.toList with|[x],[t]=>(match Z0E gl d n x,P.underlying t with|some g,some (.slice _)=>some (ZoH g)|_,_=>none)|_,_=>none
 | .builtin .clear=>match c.args.toList,c.argTypes.toList with
  |[x],[t]=>(match Z0E gl d n x,P.underlying t with|some g,some (.slice e)=>(match Z1o P e with|some u=>Z6p u.cells λzs=>Z2y zs.length λz=>some (ZoG zs z g)|none=>none)|_,_=>none)
  |_,_=>none
 | .builtin .unsafeSliceData=>match c.args.toList with|[x]=>(match Z0E gl d n x with|some g=>some (Zoo g)|none=>none)|_=>none
 | .builtin .unsafeString=>match c.args.toList,c.argTypes.toList with|[x,y],[t,_]=>(match Z0E gl d n x,Z0E gl d n y with|some gx,some gn=>some (Zoi P t gx gn)|_,_=>none)|_,_=>none
 | .builtin .copy=>match c.args.toList,c.argTypes.toList with|[s,x],[t,_]=>ZgU P gl d n s x t|_,_=>none
 |_=>Z3y P gl d n o
noncomputable def ZgG(t:TypeId)(a x:Operand):Option (OpF d):=match Z0E gl d n a,Z0E gl d n x,tsz P t with
 |some ga,some gx,some m=>Z2y m λm=>some (ZnF m ga gx)
 |_,_,_=>none
noncomputable def ZdL(t:TypeId)(m k v:Operand):Option (OpF d):=match Z3t P t,Z0E gl d n m,Z0E gl d n k,Z0E gl d n v with
 |some (dd,_),some gm,some gk,some gv=>some (ZkN dd gm gk gv)
 |_,_,_,_=>none
noncomputable def ZgK(t:TypeId)(m k:Operand)(ok:Bool):Option (OpF d):=match Z3t P t,Z0E gl d n m,Z0E gl d n k with
 |some (dd,e),some gm,some gk=>match Z1o P e with|some z=>Z6B z λz=>some (ZnQ dd z ok gm gk)|none=>none
 |_,_,_=>none
noncomputable def Zh0(o:Oper)(t:TypeId)(ps:Array (Nat×Operand)):Option (OpF d):=match P.underlying t,Z1o P t with
 |some (.struct _),some z=>iff' (Z72 P t) (match Zbk gl d n (Zb4 P t) ps.toList with|some G=>Z6p z.cells λzs=>some (ZoK zs G)|none=>none) none
 |_,_=>Z3y P gl d n o
noncomputable def ZgY(t:TypeId)(len:Nat)(ps:Array (Nat×Operand)):Option (OpF d):=match Z5o P t len [] with
 |some (zs,e,z)=>match Zbk gl d n (λi=>some (i*z,z)) ps.toList with|some G=>Z6p zs λzs=>Z0S z λz=>some (ZoI len zs e z G)|none=>none
 |none=>none
noncomputable def ZgI(t:TypeId)(x:Operand)(lo hi:Option Operand):Option (OpF d):=match Z0E gl d n x,Zj4 gl d n lo,Zj4 gl d n hi with
 |some gx,some L,some R=>match P.underlying t with
  |some .string=>some (Zom gx L R)
  |some (.slice e)=>match tsz P e with|some z=>Z0S z λz=>some (Zon z gx L R)|none=>none
  |some (.array _ _)=>some (ZnH P gl d n t x lo hi)
  |_=>none
 |_,_,_=>none
noncomputable def ZgW(o:Oper)(src dst:TypeId)(x:Operand):Option (OpF d):=match P.underlying src,P.underlying dst,Z0E gl d n x with
 |some _,some (.int kk),some g=>some (ZoF kk g (Zay P gl d n o))
 |some .string,some (.slice e),some g=>match P.underlying e with|some (.int .u8)=>some (Zol g)|_=>none
 |some (.pointer _),some .unsafePointer,some g=>some (Zo8 P src dst g)
 |some .unsafePointer,some (.pointer _),some g=>some (Zo8 P src dst g)
 |some (.slice _),some .string,some g=>iff' (Z8d P src dst) (some (Zo5 g)) none
 |_,_,_=>Z3y P gl d n o
noncomputable def cop(o:Oper):Option (OpF d):=match o.op with
 | .move x=>match Z0E gl d n x with|some g=>some (Zno g)|none=>none
 | .assign x=>match Z0E gl d n x with|some g=>some (Zno g)|none=>none
 | .pick c a b=>match Z0E gl d n c,Z0E gl d n a,Z0E gl d n b with|some gc,some ga,some gb=>some (ZkC gc ga gb)|_,_,_=>none
 | .binOp op _ x y _=>Zh2 P gl d n o op x y
 | .unOp .not _ x=>match Z0E gl d n x with|some g=>some (Zos g)|none=>none
 | .load t x=>Zct P gl d n t x
 | .fieldAddr s x f=>ZgS P gl d n s x f
 | .indexAddr t x i=>ZgQ P gl d n o t x i
 | .index t x i=>ZgO P gl d n o t x i
 | .extract x i=>match Z0E gl d n x with|some g=>some (ZoD i g)|none=>none
 | .nilCheck x=>match Z0E gl d n x with|some g=>some (Zou g (Zay P gl d n o))|none=>none
 | .build t ps=>Zh0 P gl d n o t ps
 | .buildSlice t len ps=>ZgY P gl d n t len ps
 | .slice t x lo hi none=>ZgI P gl d n t x lo hi
 | .convert s t x=>ZgW P gl d n o s t x
 | .alloc e=>match Z1o P e with|some z=>Z6p z.cells λcs=>some (ZoM (.cells cs e))|none=>none
 | .box e x=>match Z0E gl d n x with|some g=>some (Zoc e g)|none=>none
 | .store t a x=>ZgG P gl d n t a x
 | .mapUpdate t m k v=>ZdL P gl d n t m k v
 | .insert t m k v=>ZdL P gl d n t m k v
 | .lookup t m k ok=>ZgK P gl d n t m k ok
 | .call c=>Zcu P gl d n o c
 |_=>Z3y P gl d n o
end cop
section ok
variable {P:Program} {gl:Glob} {d n:Nat} {o:Oper}
theorem Z1M{F:OpF d}(h:Z3y P gl d n o=some F):Z1i P gl d n o F:=by
 unfold Z3y at h
 split at h<;>simp at h
 ·subst h;exact Z9q (by assumption)
 ·subst h;exact ZhZ (by assumption)
theorem Zh1{op:BinOp}{t t2:TypeId}{x y:Operand}(ho:o.op = .binOp op t x y t2){F:OpF d}(h:Zh2 P gl d n o op x y=some F):Z1i P gl d n o F:=by
 unfold Zh2 at h
 split at h
 · rename_i B gx gy hB hx hy
   simp at h;subst h
   exact ZlS ho hB hx hy (Z9q (by simp[kind,ho]))
 ·exact Z1M h
theorem ZeB{t:TypeId}{x:Operand}(ho:o.op = .load t x){F:OpF d}(h:Zct P gl d n t x=some F):Z1i P gl d n o F:=by
 unfold Zct at h
 split at h<;>try (simp at h;done)
 rename_i g hg
 split at h<;>try (simp at h;done)
 ·rename_i ht;simp at h;subst h;exact ZfQ ho ht hg
 · rename_i ht
   split at h<;>try (simp at h;done)
   rename_i m hm
   rw[Z0n]at h;simp at h;subst h;exact ZfP ho ht hm hg
theorem ZgR{s:TypeId}{x:Operand}{f:Nat}(ho:o.op = .fieldAddr s x f){F:OpF d}(h:ZgS P gl d n s x f=some F):Z1i P gl d n o F:=by
 unfold ZgS at h
 split at h<;>try (simp at h;done)
 rename_i g fd hg hf
 split at h<;>try (simp at h;done)
 rename_i m hm
 rw[Z0n]at h;simp at h;subst h;exact Zln ho hf hm hg
theorem ZgP{t:TypeId}{x i:Operand}(ho:o.op = .indexAddr t x i){F:OpF d}(h:ZgQ P gl d n o t x i=some F):Z1i P gl d n o F:=by
 unfold ZgQ at h
 split at h<;>try (simp at h;done)
 rename_i gx gi hx hi
 split at h
 · rename_i e ht
   split at h<;>try (simp at h;done)
   rename_i z hz
   rw[Z0n]at h;simp at h;subst h;exact Zl5 ho ht hz hx hi
 ·exact Z1M h
theorem ZgN{t:TypeId}{x i:Operand}(ho:o.op = .index t x i){F:OpF d}(h:ZgO P gl d n o t x i=some F):Z1i P gl d n o F:=by
 unfold ZgO at h
 split at h<;>try (simp at h;done)
 rename_i gx gi hx hi
 split at h
 ·rename_i ht;simp at h;subst h;exact Zl4 ho ht hx hi
 ·exact Z1M h
theorem ZgL{c:Call}{x:Operand}{t:TypeId}{ts:List TypeId}(ho:o.op = .call c)(hc:c.callee = .builtin .len)(ha:c.args.toList=[x])(ht:c.argTypes.toList=t::ts){F:OpF d}(h:ZgM P gl d n o x t=some F):Z1i P gl d n o F:=by
 unfold ZgM at h
 split at h<;>try (simp at h;done)
 rename_i g hg
 split at h<;>simp at h
 ·rename_i hu;subst h;exact Zik ho hc ha ht hu hg
 ·rename_i hu;subst h;exact ZkV ho hc ha ht hu hg
 ·rename_i hu;subst h;exact Zim ho hc ha ht hu hg
theorem Zh3{c:Call}{s x:Operand}{t t2:TypeId}(ho:o.op = .call c)(hc:c.callee = .builtin .append)(ha:c.args.toList=[s,x])(ht:c.argTypes.toList=[t,t2]){F:OpF d}(h:Zh4 P gl d n s x t t2=some F):Z1i P gl d n o F:=by
 unfold Zh4 at h
 split at h<;>try (simp at h;done)
 rename_i gs gx hs hx
 split at h<;>try (simp at h;done)
 rename_i e hu
 split at h<;>try (simp at h;done)
 rename_i i u hi hz
 obtain⟨h1,h2⟩:=Z04 h
 rw[Z0n,Z0n]at h2
 simp at h2;subst h2
 rw[Y06]at h1
 exact ZlX ho hc ha ht hu hi hz h1.1 (Y01 h1.2) hs hx
theorem ZgT{c:Call}{s x:Operand}{t t2:TypeId}(ho:o.op = .call c)(hc:c.callee = .builtin .copy)(ha:c.args.toList=[s,x])(ht:c.argTypes.toList=[t,t2]){F:OpF d}(h:ZgU P gl d n s x t=some F):Z1i P gl d n o F:=by
 unfold ZgU at h
 split at h<;>try (simp at h;done)
 rename_i gs gx hs hx
 split at h<;>try (simp at h;done)
 rename_i e hu
 split at h<;>try (simp at h;done)
 rename_i z hz
 rw[Z0n]at h;simp at h;subst h
 exact ZlG ho hc ha ht hu hz hs hx
theorem ZeC{c:Call}(ho:o.op = .call c){F:OpF d}(h:Zcu P gl d n o c=some F):Z1i P gl d n o F:=by
 unfold Zcu at h
 split at h
 · rename_i g hc
   split at h<;>try (simp at h;done)
   rename_i G hG
   rcases Z0I h with ⟨h1,h2⟩|⟨_,h2⟩
   · simp at h2;subst h2
     exact Zj5 ho hc h1 hG
   · rcases Z0I h2 with ⟨h1,h2⟩|⟨_,h2⟩
     · simp at h2;subst h2
       exact ZiL ho hc h1 hG
     rcases Z0I h2 with ⟨h1,h2⟩|⟨_,h2⟩
     · simp at h2;subst h2
       exact Zl1 ho hc h1 hG
     · split at h2<;>try (simp at h2;done)
       rename_i e he
       rw[Z0n]at h2;simp at h2;subst h2
       exact ZkM ho hc he hG
 · rename_i f hc _
   split at h<;>simp at h
   rename_i gf G hf hG
   subst h
   exact Zj6 ho (by assumption) hf hG
 · rename_i hc
   split at h<;>try (simp at h;done)
   rename_i x t ts ha ht
   exact ZgL ho hc ha ht h
 · rename_i hc
   split at h<;>try (simp at h;done)
   rename_i s x t t2 ha ht
   exact Zh3 ho hc ha ht h
 · rename_i hc
   split at h<;>try (simp at h;done)
   rename_i x t ha ht
   split at h<;>simp at h
   subst h
   exact ZlO ho hc ha ht (by assumption) (by assumption)
 · rename_i hc
   split at h<;>try (simp at h;done)
   rename_i x t ha ht
   split at h<;>try (simp at h;done)
   rename_i g e hg hu
   split at h<;>try (simp at h;done)
   rename_i u hz
   rw[Z2q,Z0n]at h
   simp at h
   subst h
   exact ZlM ho hc ha ht hu hz hg
 · rename_i hc
   split at h<;>try (simp at h;done)
   rename_i x ha
   split at h<;>simp at h
   subst h
   exact Zkw ho hc ha (by assumption)
 · rename_i hc
   split at h<;>try (simp at h;done)
   rename_i x y t t2 ha ht
   split at h<;>simp at h
   subst h
   exact Zke ho hc ha ht (by assumption) (by assumption)
 · rename_i hc
   split at h<;>try (simp at h;done)
   rename_i s x t t2 ha ht
   exact ZgT ho hc ha ht h
 ·exact Z1M h
theorem ZgF{t:TypeId}{a x:Operand}(ho:o.op = .store t a x){F:OpF d}(h:ZgG P gl d n t a x=some F):Z1i P gl d n o F:=by
 unfold ZgG at h
 split at h<;>try (simp at h;done)
 rename_i ga gx m ha hx hm
 rw[Z0n]at h;simp at h;subst h
 exact Zko ho hm ha hx
theorem Zbj{t:TypeId}{m k v:Operand}(ho:o.op = .mapUpdate t m k v\/o.op = .insert t m k v){F:OpF d}(h:ZdL P gl d n t m k v=some F):Z1i P gl d n o F:=by
 unfold ZdL at h
 split at h<;>simp at h
 subst h
 exact Zic ho (by assumption) (by assumption) (by assumption) (by assumption)
theorem ZgJ{t:TypeId}{m k:Operand}{ok:Bool}(ho:o.op = .lookup t m k ok){F:OpF d}(h:ZgK P gl d n t m k ok=some F):Z1i P gl d n o F:=by
 unfold ZgK at h
 split at h<;>try (simp at h;done)
 rename_i dd e gm gk hd hm hk
 split at h<;>try (simp at h;done)
 rename_i z hz
 rw[Z1y]at h;simp at h;subst h
 exact ZkS ho hd hz hm hk
theorem ZgZ{t:TypeId}{ps:Array (Nat×Operand)}(ho:o.op = .build t ps){F:OpF d}(h:Zh0 P gl d n o t ps=some F):Z1i P gl d n o F:=by
 unfold Zh0 at h
 split at h
 · rename_i fs z hu hz
   obtain⟨h1,h2⟩:=Z04 h
   split at h2<;>try (simp at h2;done)
   rename_i G hG
   rw[Z2q]at h2;simp at h2;subst h2
   exact ZlU ho hz hu h1 hG
 ·exact Z1M h
theorem ZgX{t:TypeId}{len:Nat}{ps:Array (Nat×Operand)}(ho:o.op = .buildSlice t len ps){F:OpF d}(h:ZgY P gl d n t len ps=some F):Z1i P gl d n o F:=by
 unfold ZgY at h
 split at h<;>try (simp at h;done)
 rename_i zs e z hz
 split at h<;>try (simp at h;done)
 rename_i G hG
 rw[Z2q,Z0X]at h;simp at h;subst h
 exact ZlQ ho hz hG
theorem ZgH{t:TypeId}{x:Operand}{lo hi:Option Operand}(ho:o.op = .slice t x lo hi none){F:OpF d}(h:ZgI P gl d n t x lo hi=some F):Z1i P gl d n o F:=by
 unfold ZgI at h
 split at h<;>try (simp at h;done)
 rename_i gx L R hx hL hR
 split at h<;>try (simp at h;done)
 ·rename_i ht;simp at h;subst h;exact Zkt ho ht hx hL hR
 · rename_i e ht
   split at h<;>try (simp at h;done)
   rename_i z hz
   rw[Z0X]at h;simp at h;subst h;exact Zkv ho ht hz hx hL hR
 · rename_i m e ht
   simp at h;subst h;exact Zkx ho ⟨m,e,ht⟩
theorem ZgV{src dst:TypeId}{x:Operand}(ho:o.op = .convert src dst x){F:OpF d}(h:ZgW P gl d n o src dst x=some F):Z1i P gl d n o F:=by
 unfold ZgW at h
 split at h
 · rename_i td kk g hs hd hg
   simp at h;subst h
   exact ZlL ho hs hd hg (Zi0 ho)
 · rename_i e g hs hd hg
   split at h<;>simp at h
   rename_i he
   subst h
   exact Zkp ho hs hd he hg
 · rename_i e g hs hd hg
   simp at h;subst h
   exact Zh5 ho (.inr hd) hg
 · rename_i e g hs hd hg
   simp at h;subst h
   exact Zh5 ho (.inl ⟨_,hd⟩) hg
 · rename_i e g hs hd hg
   obtain⟨h1,h2⟩:=Z04 h
   simp at h2;subst h2
   exact ZlC ho h1 hg
 ·exact Z1M h
theorem ZjR{F:OpF d}(h:cop P gl d n o=some F):Z1i P gl d n o F:=by
 unfold cop at h
 split at h
 ·rename_i x ho;split at h<;>simp at h;subst h;exact ZfH (.inl ho) (by assumption)
 ·rename_i x ho;split at h<;>simp at h;subst h;exact ZfH (.inr ho) (by assumption)
 ·rename_i c a b ho;split at h<;>simp at h;subst h;exact Zi3 ho (by assumption) (by assumption) (by assumption)
 ·rename_i ho;exact Zh1 ho h
 ·rename_i ho;split at h<;>simp at h;subst h;exact ZkI ho (by assumption)
 ·rename_i ho;exact ZeB ho h
 ·rename_i ho;exact ZgR ho h
 ·rename_i ho;exact ZgP ho h
 ·rename_i ho;exact ZgN ho h
 ·rename_i ho;split at h<;>simp at h;subst h;exact Zlo ho (by assumption)
 ·rename_i ho;split at h<;>simp at h;subst h;exact ZkK ho (by assumption) (Z9q (by simp[kind,ho]))
 ·rename_i ho;exact ZgZ ho h
 ·rename_i ho;exact ZgX ho h
 ·rename_i ho;exact ZgH ho h
 ·rename_i ho;exact ZgV ho h
 · rename_i ho;split at h<;>try (simp at h;done)
   rename_i z hz
   rw[Z2q]at h;simp at h;subst h;exact ZlZ ho hz
 ·rename_i ho;split at h<;>simp at h;subst h;exact ZlR ho (by assumption)
 ·rename_i ho;exact ZgF ho h
 ·rename_i ho;exact Zbj (.inl ho) h
 ·rename_i ho;exact Zbj (.inr ho) h
 ·rename_i ho;exact ZgJ ho h
 ·rename_i ho;exact ZeC ho h
 ·exact Z1M h
end ok
section seq
variable (P:Program) (gl:Glob) (d n:Nat)
abbrev StF(d:Nat):=Z5z->Tre AV d->TH->(Tre AV d->TH->Res)->Res
noncomputable def Zn5(dst:Option Tmp):Option (AV->Tre AV d->(Tre AV d->Res)->Res):=match dst with
 |none=>some λ_ E f=>f E
 |some t=>iff' (Nat.blt t n) (Bx.rec (λp=>some p) (ZkB AV Res d t)) none
noncomputable def Zmg(ops:List Oper)(o:Oper):Option (Option ((Tre AV d->AV)×Bool)):=match o.guard with
 |none=>some none
 |some (j,want)=>match ops[j]? with
  |some g=>match g.dst with
   |some t=>iff' (Nat.blt t n) (Bx.rec (λq=>some (some (q,want))) (ZfX AV d t)) none
   |none=>none
  |none=>none
noncomputable def Zbg(ops:List Oper)(o:Oper):Option (StF d):=match cop P gl d n o,Zn5 d n o.dst,Zmg d n ops o with
 |some F,some p,some none=>some λforc E T k=>F forc E T λv T'=>p v E λE'=>k E' T'
 |some F,some p,some (some (q,want))=>some λforc E T k=>Z2G (q E) (λb=>iff' b (iff' want (F forc E T λv T'=>p v E λE'=>k E' T') (p (.tuple []) E λE'=>k E' T))
  (iff' want (p (.tuple []) E λE'=>k E' T) (F forc E T λv T'=>p v E λE'=>k E' T'))) (p (.tuple []) E λE'=>k E' T)
 |_,_,_=>none
noncomputable def Znr(ops:List Oper)(forc:Z5z)(l:List Oper):Tre AV d->TH->(Tre AV d->TH->Res)->Res :=
 List.rec (motive:=λ_=>Tre AV d->TH->(Tre AV d->TH->Res)->Res) (λE T k=>k E T) (λo _ ih E T k=>Option.rec none (λs=>s forc E T λE' T'=>ih E' T' k) (Zbg P gl d n ops o)) l
end seq
theorem ZiF{β : Type}(o:Oper)(r:AV)(H:Z00)(f:AV->Z00 -> β):Zlf o r H f=f r H:=Z1z o r H f
theorem Z4W:∀{t:Tr}{n:Nat},tex t n=true->∀v,∃t',ZcR t n v=some t'
 | .leaf,n,h,v=>by simp[tex]at h
 | .node x l r,0,h,v=>by
  cases x with
  |none=>simp[tex]at h
  |some y=>exact⟨_,rfl⟩
 | .node x l r,n+1,h,v=>by
  simp only[tex]at h
  simp only[ZcR]
  split at h
  · rename_i e
    obtain⟨t',h'⟩:=Z4W (t:=l) h v
    simp only[e,h'];exact⟨_,rfl⟩
  · rename_i e
    obtain⟨t',h'⟩:=Z4W (t:=r) h v
    cases hm:Nat.mod n 2 with
    |zero=>exact (e hm).elim
    |succ m=>simp only[h'];exact⟨_,rfl⟩
theorem Z9g:∀(d:Nat)(g:Nat->Option AV)(n:Nat),n+1<2 ^ d->Z11 (tmk g d) n=g n
 |0,g,n,h=>by simp at h
 |d+1,g,0,h=>by simp only[tmk,Z11];cases g 0<;>rfl
 |d+1,g,n+1,h=>by
  rw[Y0a]at h
  simp only[tmk,Z11]
  split
  · rename_i e
    have e':n % 2=0:=e
    have hd:Nat.div n 2=n / 2:=rfl
    rw[Z9g d _ _ (by rw[hd];omega)]
    show g (2*(n / 2)+1)=_
    congr 1;omega
  · rename_i e
    have e':¬n % 2=0:=e
    have hd:Nat.div n 2=n / 2:=rfl
    rw[Z9g d _ _ (by rw[hd];omega)]
    show g (2*(n / 2)+2)=_
    congr 1;omega
section seqok
variable {P:Program} {gl:Glob} {d n:Nat}
theorem EnvSim.put{E:Tre AV d}{tm:Tr}(hn:n<=8 ^ d)(h:EnvSim d n E tm){t:Nat}(ht:t<n)(v:AV):∃tm',ZcR tm t v=some tm'/\EnvSim d n (Ze0 d t v E) tm':=by
 have hg:tex tm t=true:=Z6J _ _ _ (by rw[h t,if_pos ht])
 obtain⟨tm',h1⟩:=Z4W hg v
 refine⟨tm',h1,λs=>?_⟩
 rw[(Z2C _ _ _ _ h1).2.1 s]
 by_cases hs:s<n
 · rw[if_pos hs,Z3O d t s v E (by omega) (by omega)]
   by_cases e:s=t
   ·rw[if_pos e,if_pos e]
   ·rw[if_neg e,if_neg e,h s,if_pos hs]
 ·rw[if_neg hs,if_neg (by omega),h s,if_neg hs]
theorem ZgB (hn : n <= 8 ^ d) {dst : Option Tmp} {p : AV -> Tre AV d -> (Tre AV d -> Res) -> Res} (h : Zn5 d n dst = some p) {E : Tre AV d} {tm : Tr} (hE : EnvSim d n E tm) (v : AV) (f : Tre AV d -> Res) :
  ∃E' tm',Z3L dst v tm=some tm'/\EnvSim d n E' tm'/\p v E f=f E':=by
 unfold Zn5 at h
 cases dst with
 |none=>simp at h;subst h;exact⟨E,tm,rfl,hE,rfl⟩
 |some t =>
  obtain⟨h1,h2⟩:=Z04 (show iff' (Nat.blt t n) (Bx.rec (λp=>some p) (ZkB AV Res d t)) none=some p from h)
  have ht:t<n:=by simpa[Y02]using h1
  have h3:some (ZkB AV Res d t).v=some p:=h2
  simp at h3;subst h3
  obtain⟨tm',g1,g2⟩:=hE.put hn ht v
  exact⟨_,tm',g1,g2,Zc3 d t v E f⟩
def Zni(P:Program)(gl:Glob)(d n:Nat)(ops:List Oper)(o:Oper)(s:StF d):Prop :=
 ∀forc orc E T (k:Tre AV d->TH->Res) out H tm,Z1F forc orc->Rep T H->EnvSim d n E tm->s forc E T k=some out ->
  ∃E' T' tm' H',EnvSim d n E' tm'/\Rep T' H'/\k E' T'=some out /\
   ((Z0v ops o tm=some true/\∃r,aop P orc (Z1E gl tm) o H=some (r,H')/\Z3L o.dst r tm=some tm')\/(Z0v ops o tm=some false/\Z3L o.dst (.tuple []) tm=some tm'/\H'=H))
theorem ZdF(hn:n<=8 ^ d){ops:List Oper}{o:Oper}{s:StF d}(h:Zbg P gl d n ops o=some s):Zni P gl d n ops o s:=by
 intro forc orc E T k out H tm hO hR hE he
 have run : ∀ {F : OpF d} {p : AV -> Tre AV d -> (Tre AV d -> Res) -> Res}, cop P gl d n o = some F -> Zn5 d n o.dst = some p -> (F forc E T fun v T' => p v E fun E' => k E' T') = some out ->
   ∃E' T' tm' H',EnvSim d n E' tm'/\Rep T' H'/\k E' T'=some out/\∃r,aop P orc (Z1E gl tm) o H=some (r,H')/\Z3L o.dst r tm=some tm':=by
  intro F p hF hp h1
  obtain⟨r,T',H',g1,g2,g3⟩:=ZjR hF forc orc E T _ out H hO hR h1
  rw[Z9y hE]at g1
  obtain⟨E',tm',g4,g5,g6⟩:=ZgB hn hp hE r (λE'=>k E' T')
  rw[g6]at g3
  exact⟨E',T',tm',H',g5,g2,g3,r,g1,g4⟩
 have skip : ∀ {p : AV -> Tre AV d -> (Tre AV d -> Res) -> Res}, Zn5 d n o.dst = some p -> (p (.tuple []) E fun E' => k E' T) = some out ->
   ∃E' T' tm' H',EnvSim d n E' tm'/\Rep T' H'/\k E' T'=some out/\Z3L o.dst (.tuple []) tm=some tm'/\H'=H:=by
  intro p hp h1
  obtain⟨E',tm',g4,g5,g6⟩:=ZgB hn hp hE (.tuple []) (λE'=>k E' T)
  rw[g6]at h1
  exact⟨E',T,tm',H,g5,hR,h1,g4,rfl⟩
 unfold Zbg at h
 split at h<;>try (simp at h;done)
 · rename_i F p hF hp hg
   simp at h;subst h
   have hw:Z0v ops o tm=some true:=by
    unfold Zmg at hg
    unfold Z0v
    split at hg
    ·rename_i e;simp[e]
    · exfalso
      split at hg<;>try (simp at hg;done)
      split at hg<;>try (simp at hg;done)
      obtain⟨_,h2⟩:=Z04 hg
      simp at h2
   obtain⟨E',T',tm',H',g1,g2,g3,g4⟩:=run hF hp he
   exact⟨E',T',tm',H',g1,g2,g3,.inl ⟨hw,g4⟩⟩
 · rename_i F p q want hF hp hg
   simp at h;subst h
   have hw:Z0v ops o tm=(match q E with | .bool b=>some (b==want)|_=>some false):=by
    unfold Zmg at hg
    unfold Z0v
    split at hg
    ·simp at hg
    · rename_i j w e
      split at hg<;>try (simp at hg;done)
      rename_i g hj
      split at hg<;>try (simp at hg;done)
      rename_i t ht
      obtain⟨h1,h2⟩:=Z04 hg
      have h3:some (some ((ZfX AV d t).v,w))=some (some (q,want)):=h2
      simp at h3
      obtain⟨rfl,rfl⟩:=h3
      have htn:t<n:=by simpa[Y02]using h1
      simp only[e,hj,ht,hE t,if_pos htn,Z5R]
      split<;>simp_all
   rcases Z2m he with ⟨b,e,h1⟩|⟨e,h1⟩
   · rw[e]at hw
     cases b<;>cases want
     · obtain⟨E',T',tm',H',g1,g2,g3,g4⟩:=run hF hp h1
       exact⟨E',T',tm',H',g1,g2,g3,.inl ⟨hw,g4⟩⟩
     · obtain⟨E',T',tm',H',g1,g2,g3,g4⟩:=skip hp h1
       exact⟨E',T',tm',H',g1,g2,g3,.inr ⟨hw,g4⟩⟩
     · obtain⟨E',T',tm',H',g1,g2,g3,g4⟩:=skip hp h1
       exact⟨E',T',tm',H',g1,g2,g3,.inr ⟨hw,g4⟩⟩
     · obtain⟨E',T',tm',H',g1,g2,g3,g4⟩:=run hF hp h1
       exact⟨E',T',tm',H',g1,g2,g3,.inl ⟨hw,g4⟩⟩
   · have hw2:Z0v ops o tm=some false:=by rw[hw];split<;>simp_all
     obtain⟨E',T',tm',H',g1,g2,g3,g4⟩:=skip hp h1
     exact⟨E',T',tm',H',g1,g2,g3,.inr ⟨hw2,g4⟩⟩
theorem Zg0 (hn : n <= 8 ^ d) {ops : List Oper} {forc : Z5z} {orc : Orc} (hO : Z1F forc orc) : ∀ (l : List Oper) (E : Tre AV d) (T : TH) (k : Tre AV d -> TH -> Res) (out : AV × TH) (H : Z00) (tm : Tr), Rep T H -> EnvSim d n E tm -> Znr P gl d n ops forc l E T k = some out ->
  ∃E' T' tm' H',ZeI P gl orc ops l tm H=some (tm',H')/\EnvSim d n E' tm'/\Rep T' H'/\k E' T'=some out
 |[],E,T,k,out,H,tm,hR,hE,h=>⟨E,T,tm,H,rfl,hE,hR,h⟩
 |o::l,E,T,k,out,H,tm,hR,hE,h=>by
  have h:(Option.rec none (λs=>s forc E T λE' T'=>Znr P gl d n ops forc l E' T' k) (Zbg P gl d n ops o):Res)=some out:=h
  cases hs:Zbg P gl d n ops o with
  |none=>rw[hs]at h;cases h
  |some s =>
   rw[hs]at h
   obtain⟨E1,T1,tm1,H1,g1,g2,g3,g4⟩:=ZdF hn hs forc orc E T _ out H tm hO hR hE h
   obtain⟨E2,T2,tm2,H2,k1,k2,k3,k4⟩:=Zg0 hn hO l E1 T1 k out H1 tm1 g2 g1 g3
   refine⟨E2,T2,tm2,H2,?_,k2,k3,k4⟩
   rcases g4 with ⟨w1,r,w2,w3⟩|⟨w1,w2,rfl⟩
   ·simp only[ZeI,w1,w2,ZiF,w3,k1]
   ·simp only[ZeI,w1,w2,k1]
end seqok
end Go.Abs
end
section
namespace Go.Abs
open Go.RowKit
noncomputable def ieq(a b:Int):Bool:=Int.rec (motive:=λ_=>Int->Bool) (λa b=>Int.rec (λb=>Y00 a b) (λ_=>false) b) (λa b=>Int.rec (λ_=>false) (λb=>Y00 a b) b) a b
theorem ZmH{a b:Int}(h:ieq a b=true):a=b:=by
 cases a<;>cases b
 ·exact congrArg _ (Y01 h)
 ·cases h
 ·cases h
 ·exact congrArg _ (Y01 h)
noncomputable def Zm8(v w:AV):Bool :=
 Zej v (λk n=>Zej w (λk' n'=>iff' (Y00 (kix k) (kix k')) (ieq n n') false) false)
  (Z4s v (λs=>Z4s w (λs'=>eqS s s') false) (Z2G v (λb=>Z2G w (λb'=>iff' b b' (!b')) false) (onPtr v (λb o=>onPtr w (λb' o'=>iff' (Y00 b b') (Y00 o o') false) (λ_=>false) false) (λ_=>veq v w) (veq v w))))
theorem Z0F{b x:Bool}(h:iff' b x false=true):b=true/\x=true:=by
 cases b
 ·cases h
 ·exact⟨rfl,h⟩
theorem Zkd{v w:AV}(h:Zm8 v w=true):v=w:=by
 unfold Zm8 at h
 cases v<;>try exact Zap _ _ h
 · rename_i b
   replace h:Z2G w (λb'=>iff' b b' (!b')) false=true:=h
   rcases Z3W w (λb'=>iff' b b' (!b')) false with ⟨b',rfl,e⟩|⟨_,e⟩<;>rw[e]at h
   ·cases b<;>cases b'<;>first|rfl|cases h
   ·cases h
 · rename_i k n
   replace h:Zej w (λk' n'=>iff' (Y00 (kix k) (kix k')) (ieq n n') false) false=true:=h
   rcases Z7s w (λk' n'=>iff' (Y00 (kix k) (kix k')) (ieq n n') false) false with ⟨k',n',rfl,e⟩|e<;>rw[e]at h
   · obtain⟨h1,h2⟩:=Z0F h
     rw[Z7z h1,ZmH h2]
   ·cases h
 · rename_i s
   replace h:Z4s w (λs'=>eqS s s') false=true:=h
   rcases Z3q w (λs'=>eqS s s') false with ⟨s',rfl,e⟩|e<;>rw[e]at h
   ·rw[Zgm]at h;simp at h;rw[h]
   ·cases h
 · rename_i b o
   replace h:onPtr w (λb' o'=>iff' (Y00 b b') (Y00 o o') false) (λ_=>false) false=true:=h
   rcases Z7r w (λb' o'=>iff' (Y00 b b') (Y00 o o') false) (λ_=>false) false with ⟨b',o',rfl,e⟩|⟨_,_,e⟩|e<;>rw[e]at h
   · obtain⟨h1,h2⟩:=Z0F h
     rw[Y01 h1,Y01 h2]
   ·cases h
   ·cases h
mutual
theorem Z1t:∀v:AV,veq v v=true
 | .bool b=>by simp[veq]
 | .int k n=>by simp[veq]
 | .str s=>by simp[veq]
 | .nptr=>rfl
 | .ptr b o=>by simp[veq]
 | .rp cs=>by simp[veq,veqL_refl cs]
 | .nslice=>rfl
 | .slice b o l c z=>by simp[veq]
 | .rs n z cs=>by simp[veq,veqL_refl cs]
 | .nmap=>rfl
 | .map b=>by simp[veq]
 | .func f a b=>by simp[veq,veqL_refl a,veqL_refl b]
 | .nfunc=>rfl
 | .iface t v=>by simp[veq,Z1t v]
 | .niface=>rfl
 | .agg cs=>by simp[veq,veqL_refl cs]
 | .tuple vs=>by simp[veq,veqL_refl vs]
theorem veqL_refl:∀l:List AV,veqL l l=true
 |[]=>rfl
 |v::l=>by simp[veqL,Z1t v,veqL_refl l]
end
noncomputable def ltV(n:Nat)(v:AV):Bool :=
 AV.rec (motive_1:=λ_=>Nat->Bool) (motive_2:=λ_=>Nat->Bool) (λ_ _=>true) (λ_ _ _=>true) (λ_ _=>true) (λ_=>true) (λb _ n=>Nat.blt b n) (λ_ _ _=>true) (λ_=>true)
  (λb _ _ _ _ n=>Nat.blt b n) (λ_ _ _ _ _=>true) (λ_=>true) (λb n=>Nat.blt b n) (λ_ _ _ iha ihb n=>iff' (iha n) (ihb n) false) (λ_=>true) (λ_ _ ih n=>ih n) (λ_=>true)
  (λ_ ih n=>ih n) (λ_ ih n=>ih n) (λ_=>true) (λ_ _ ihv ihl n=>iff' (ihv n) (ihl n) false) v n
noncomputable def Znp(n:Nat)(l:List AV):Bool :=
 AV.rec_1 (motive_1:=λ_=>Nat->Bool) (motive_2:=λ_=>Nat->Bool) (λ_ _=>true) (λ_ _ _=>true) (λ_ _=>true) (λ_=>true) (λb _ n=>Nat.blt b n) (λ_ _ _=>true) (λ_=>true)
  (λb _ _ _ _ n=>Nat.blt b n) (λ_ _ _ _ _=>true) (λ_=>true) (λb n=>Nat.blt b n) (λ_ _ _ iha ihb n=>iff' (iha n) (ihb n) false) (λ_=>true) (λ_ _ ih n=>ih n) (λ_=>true)
  (λ_ ih n=>ih n) (λ_ ih n=>ih n) (λ_=>true) (λ_ _ ihv ihl n=>iff' (ihv n) (ihl n) false) l n
mutual
theorem Z6P{n:Nat}:∀(v:AV)(acc:List Nat),ltV n v=true->(∀x∈acc,x<n)->∀x∈refs v acc,x<n
 | .ptr b o,acc,h,ha=>by
  have hb:Nat.blt b n=true:=h
  have:b<n:=by simpa[Y02]using hb
  intro x hx;simp only[refs,Y07]at hx
  rcases hx with rfl|hx
  ·exact this
  ·exact ha x hx
 | .slice b o l c z,acc,h,ha=>by
  have hb:Nat.blt b n=true:=h
  have:b<n:=by simpa[Y02]using hb
  intro x hx;simp only[refs,Y07]at hx
  rcases hx with rfl|hx
  ·exact this
  ·exact ha x hx
 | .map b,acc,h,ha=>by
  have hb:Nat.blt b n=true:=h
  have:b<n:=by simpa[Y02]using hb
  intro x hx;simp only[refs,Y07]at hx
  rcases hx with rfl|hx
  ·exact this
  ·exact ha x hx
 | .func f a b,acc,h,ha=>by
  obtain⟨h1,h2⟩:=Z0F (show iff' (Znp n a) (Znp n b) false=true from h)
  simp only[refs]
  exact ltVI_refs a _ h1 (ltVI_refs b acc h2 ha)
 | .iface t v,acc,h,ha=>by simp only[refs];exact Z6P v acc h ha
 | .agg cs,acc,h,ha=>by simp only[refs];exact ltVI_refs cs acc h ha
 | .tuple cs,acc,h,ha=>by simp only[refs];exact ltVI_refs cs acc h ha
 | .bool _,acc,h,ha=>by simpa[refs]using ha
 | .int _ _,acc,h,ha=>by simpa[refs]using ha
 | .str _,acc,h,ha=>by simpa[refs]using ha
 | .nptr,acc,h,ha=>by simpa[refs]using ha
 | .rp _,acc,h,ha=>by simpa[refs]using ha
 | .nslice,acc,h,ha=>by simpa[refs]using ha
 | .rs _ _ _,acc,h,ha=>by simpa[refs]using ha
 | .nmap,acc,h,ha=>by simpa[refs]using ha
 | .nfunc,acc,h,ha=>by simpa[refs]using ha
 | .niface,acc,h,ha=>by simpa[refs]using ha
theorem ltVI_refs{n:Nat}:∀(l:List AV)(acc:List Nat),Znp n l=true->(∀x∈acc,x<n)->∀x∈refsL l acc,x<n
 |[],acc,h,ha=>by simpa[refsL]using ha
 |v::l,acc,h,ha=>by
  obtain⟨h1,h2⟩:=Z0F (show iff' (ltV n v) (Znp n l) false=true from h)
  simp only[refsL]
  exact Z6P v _ h1 (ltVI_refs l acc h2 ha)
end
noncomputable def ltL(n:Nat)(l:List AV):Bool:=List.rec true (λv _ ih=>iff' (ltV n v) ih false) l
theorem ZfN{n:Nat}:∀{l:List AV},ltL n l=true->∀v∈l,ltV n v=true
 |[],h,v,hv=>by simp at hv
 |u::l,h,v,hv=>by
  obtain⟨h1,h2⟩:=Z0F (show iff' (ltV n u) (ltL n l) false=true from h)
  rcases Y07.1 hv with rfl|hv
  ·exact h1
  ·exact ZfN h2 v hv
theorem Zdd{n:Nat}:∀(l:List AV)(acc:List Nat),ltL n l=true->(∀x∈acc,x<n)->∀x∈refsL l acc,x<n
 |[],acc,h,ha=>by simpa[refsL]using ha
 |v::l,acc,h,ha=>by
  obtain⟨h1,h2⟩:=Z0F (show iff' (ltV n v) (ltL n l) false=true from h)
  simp only[refsL]
  exact Z6P v _ h1 (Zdd l acc h2 ha)
theorem Z5s{n:Nat}:∀{l:List Nat},(∀x∈l,x<n)->Z0e n l=true
 |[],h=>rfl
 |i::l,h=>by
  simp only[Z0e,Y06]
  exact⟨by simpa[Y02]using h i (by simp),Z5s λx hx=>h x (by simp[hx])⟩
noncomputable def ltO(n:Nat)(o:AObj):Bool :=
 AObj.rec (λalive _ _ body=>iff' alive (ABody.rec (motive:=λ_=>Bool) (λcs _=>ltL n cs) (λes _=>List.rec true (λ_ _ _=>false) es) (λ_ _=>true) (λ_ _=>false) body) false) o
theorem Zih{n:Nat}{o:AObj}(h:ltO n o=true):o.alive=true/\Z0e n (Z36 o.body [])=true:=by
 obtain⟨alive,fam,sh,body⟩:=o
 obtain⟨h1,h2⟩:=Z0F h
 refine⟨h1,Z5s ?_⟩
 cases body with
 |cells cs ty=>exact Zdd cs [] h2 (by simp)
 |map es c =>
  cases es with
  |nil=>simp[Z36,Z9A]
  |cons e es=>cases h2
 |siter s p=>simp[Z36]
 |loop g ts=>cases h2
theorem Z8E{n:Nat}:∀{env:List (Nat×AV)},(∀t v,(t,v)∈env->ltV n v=true)->∀acc:List Nat,(∀x∈acc,x<n)->∀x∈Z1d env acc,x<n
 |[],h,acc,ha=>by simpa[Z1d]using ha
 |(t,v)::l,h,acc,ha=>by
  simp only[Z1d]
  exact Z6P v _ (h t v (by simp)) (Z8E (λt v hv=>h t v (by simp[hv])) acc ha)
section congr
variable {P:Program} {ρ ρ':Operand->Option AV} {H:Z00} {o:Oper} {orc:Orc}
theorem aevals_congr:∀{l:List Operand},(∀x∈l,ρ x = ρ' x)->Z1G ρ l=Z1G ρ' l
 |[],h=>rfl
 |x::l,h=>by
  simp only[Z1G]
  rw[h x (by simp),aevals_congr λy hy=>h y (by simp[hy])]
theorem Z2S:∀{l:List (Nat×Operand)},(∀p∈l,ρ p.2 = ρ' p.2)->Z3f ρ l=Z3f ρ' l
 |[],h=>rfl
 |(i,x)::l,h=>by
  simp only[Z3f]
  rw[h (i,x) (by simp),Z2S λy hy=>h y (by simp[hy])]
theorem Z3h:∀{x:Option Operand},(∀y,x=some y -> ρ y = ρ' y)->Z65 ρ x=Z65 ρ' x
 |none,h=>rfl
 |some x,h=>by simp only[Z65];rw[h x rfl]
theorem Zbp{c:Call}(h:∀x∈c.operands.toList,ρ x = ρ' x):callee ρ c=callee ρ' c:=by
 unfold callee
 cases hc:c.callee with
 |value f =>
  have h1 : ρ f = ρ' f:=h f (by simp[Call.operands,hc])
  have h2:Z1G ρ c.args.toList=Z1G ρ' c.args.toList:=aevals_congr λx hx=>h x (by simp[Call.operands,hc];exact .inr (by simpa using hx))
  simp only[h1,h2]
 |_=>rfl
theorem Z3d{c:Call}{l:List Operand}(hl:c.args.toList=l)(h:∀x∈c.operands.toList,ρ x = ρ' x):∀x∈l,ρ x = ρ' x:=by
 subst hl
 intro x hx
 exact h x (by simp only[Call.operands,Y0g,Y0h];exact .inr hx)
theorem Z4J(h:∀x∈o.op.operands.toList,ρ x = ρ' x):Z02 P ρ H o=Z02 P ρ' H o:=by
 unfold Z02 Z0l
 cases ho:o.op with
 |build t ps =>
  rw[ho]at h;simp only
  rw[Z2S (ρ:=ρ) (ρ':=ρ') λp hp=>h p.2 (by simp only[Op.operands];exact List.mem_map.2 ⟨p,hp,rfl⟩)]
 |makeFunc fn f c =>
  rw[ho]at h;simp only
  rw[aevals_congr (ρ:=ρ) (ρ':=ρ') (l:=f.toList) λx hx=>h x (by simp only[Op.operands,Y0g,Y0h];exact .inl hx),
   aevals_congr (ρ:=ρ) (ρ':=ρ') (l:=c.toList) λx hx=>h x (by simp only[Op.operands,Y0g,Y0h];exact .inr hx)]
 |slice t x lo hi mx =>
  rw[ho]at h
  cases mx with
  |some m =>
   cases hi with
   |none=>rfl
   |some hi =>
    simp only
    have h1 : ρ x = ρ' x:=h x (by simp[Op.operands])
    have h2:Z65 ρ lo=Z65 ρ' lo:=Z3h λy hy=>h y (by subst hy;simp[Op.operands])
    have h3 : ρ hi = ρ' hi:=h hi (by simp[Op.operands])
    have h4 : ρ m = ρ' m:=h m (by simp[Op.operands])
    rw[h1,h2,h3,h4]
  |none =>
   simp only
   have h1 : ρ x = ρ' x:=h x (by simp[Op.operands])
   have h2:Z65 ρ lo=Z65 ρ' lo:=Z3h λy hy=>h y (by subst hy;simp[Op.operands])
   have h3:Z65 ρ hi=Z65 ρ' hi:=Z3h λy hy=>h y (by subst hy;simp[Op.operands])
   rw[h1,h2,h3]
 |call c =>
  rw[ho]at h
  have h':∀x∈c.operands.toList,ρ x = ρ' x:=h
  simp only
  cases hc:c.callee with
  |builtin b =>
   cases b<;>simp only
   all_goals first
    |rfl
    |(rw[aevals_congr (ρ:=ρ) (ρ':=ρ') (Z3d rfl h')])
    | (split
       · rename_i x t ts ha ht
         rw[Z3d ha h' x (by simp)]
       ·rfl)
  |_=>rfl
 |_=>(rw[ho]at h)<;>(simp only[Op.operands]at h;simp_all)
theorem ZeL(h:∀x∈o.op.operands.toList,ρ x = ρ' x):Z3j P ρ H o=Z3j P ρ' H o:=by
 unfold Z3j
 cases ho:o.op with
 |buildSlice t len ps =>
  rw[ho]at h;simp only
  rw[Z2S (ρ:=ρ) (ρ':=ρ') λp hp=>h p.2 (by simp only[Op.operands];exact List.mem_map.2 ⟨p,hp,rfl⟩)]
 |call c =>
  rw[ho]at h
  have h':∀x∈c.operands.toList,ρ x = ρ' x:=h
  simp only
  cases hc:c.callee with
  |builtin b =>
   cases b<;>simp only
   all_goals first
    |rfl
    | (split
       · rename_i s x t ts ha ht
         rw[Z3d ha h' x (by simp),Z3d ha h' s (by simp)]
       ·rfl)
    | (split
       · rename_i x ha
         rw[Z3d ha h' x (by simp)]
       ·rfl)
    | (split
       · rename_i x t ha ht
         rw[Z3d ha h' x (by simp)]
       ·rfl)
  |_=>rfl
 |makeMap t r=>cases r<;>rfl
 |slice t x lo hi mx =>
  cases mx with
  |some m=>rfl
  |none =>
   rw[ho]at h
   simp only
   have h1 : ρ x = ρ' x:=h x (by simp[Op.operands])
   have h2:Z65 ρ lo=Z65 ρ' lo:=Z3h λy hy=>h y (by subst hy;simp[Op.operands])
   have h3:Z65 ρ hi=Z65 ρ' hi:=Z3h λy hy=>h y (by subst hy;simp[Op.operands])
   rw[h1,h2,h3]
 |_=>(rw[ho]at h)<;>(simp only[Op.operands]at h;simp_all)
theorem Zhj(h:∀x∈o.op.operands.toList,ρ x = ρ' x):aop P orc ρ o H=aop P orc ρ' o H:=by
 unfold aop
 rw[Z4J h,ZeL h]
 cases ho:o.op with
 |call c =>
  rw[ho]at h
  simp only[Zbp (show ∀x∈c.operands.toList,ρ x = ρ' x from h)]
 |_=>rfl
theorem Zaa(h:∀x∈o.op.operands.toList,ρ x = ρ' x):Z0t P ρ o=Z0t P ρ' o:=by
 unfold Z0t
 cases ho:o.op with
 |buildSlice t len ps =>
  rw[ho]at h;simp only
  rw[Z2S (ρ:=ρ) (ρ':=ρ') λp hp=>h p.2 (by simp only[Op.operands];exact List.mem_map.2 ⟨p,hp,rfl⟩)]
 |makeMap t r=>cases r<;>rfl
 |_=>(rw[ho]at h)<;>(simp only[Op.operands]at h;simp_all)
def ZkH(P:Program)(o:Oper):Bool:=match o.op with
 | .convert s d _=>match P.underlying s,P.underlying d with|_,some (.slice _)=>true|_,some .unsafePointer=>true|some .unsafePointer,_=>true|_,_=>false
 | .slice t _ _ _ _=>match P.underlying t with|some (.array _ _)=>true|_=>false
 |_=>false
def Zek(P:Program):List Oper->Bool
 |[]=>true
 |o::l=>!ZkH P o&&Zek P l
theorem Z8L:∀{l:List Oper},Zek P l=true->∀o∈l,ZkH P o=false
 |[],h,o,ho=>by simp at ho
 |x::l,h,o,ho=>by
  simp only[Zek,Y06,Bool.not_eq_true']at h
  rcases Y07.1 ho with rfl|ho
  ·exact h.1
  ·exact Z8L h.2 o ho
theorem Z86(hk:kind o<2)(hodd:ZkH P o=false){r:AV}{H':Z00}(h:aop P orc ρ o H=some (r,H')):Z02 P ρ H o=some r/\H'=H:=by
 rw[Z4K (by omega)]at h
 have he:Z3j P ρ H o=none:=by
  unfold kind at hk
  unfold Z3j
  cases ho:o.op with
  |call c =>
   simp only[ho]at hk⊢
   cases hc:c.callee with
   |builtin b=>cases b<;>simp[hc]at hk⊢
   |value f=>simp[hc]at hk
   |invoke r m=>simp[hc]at hk
  |convert s d x =>
   simp only
   split
   · rename_i u hu
     have:Z8e P s d u H=none:=by
      unfold ZkH at hodd
      simp only[ho]at hodd
      unfold Z8e
      split
      · split
        · rename_i e hs hd
          simp only[hs,hd]at hodd
          cases hodd
        ·rfl
      · rw[if_neg]
        intro hc
        unfold Z6x at hc
        split at hc<;>try (cases hc;done)
        split at hc<;>try (cases hc;done)
        split at hc
        ·rename_i hs hd;simp only[hs,hd]at hodd;cases hodd
        ·rename_i hs hd;simp only[hs,hd]at hodd;cases hodd
        ·cases hc
      ·rfl
     rw[this]
   ·rfl
  |slice t x lo hi mx =>
   cases mx with
   |some m=>rfl
   |none =>
    simp only
    split
    · rename_i u lo1 hi1 _ _ _
      have:Z2W P t u lo1 hi1 H=none:=by
       unfold ZkH at hodd
       simp only[ho]at hodd
       unfold Z2W
       split
       · split
         ·rename_i ht;simp only[ht]at hodd;cases hodd
         ·rfl
       ·rfl
      rw[this]
    ·rfl
  |_=>simp[ho]at hk⊢
 split at h
 ·rename_i r' hr;simp at h;obtain⟨rfl,rfl⟩:=h;exact⟨hr,rfl⟩
 ·rw[he]at h;cases h
theorem ZcA(hk:kind o=2){r:AV}{H':Z00}(h:aop P orc ρ o H=some (r,H')):∃mk body,Z0t P ρ o=some (mk,body)/\r=mk H.length/\H'=H++[⟨true,H.length,0,body⟩]:=by
 cases ha:Z0t P ρ o with
 |some p =>
  obtain⟨mk,body⟩:=p
  rw[Zhg hk ha]at h
  simp at h
  exact⟨mk,body,rfl,h.1.symm,h.2.symm⟩
 |none =>
  exfalso
  rw[Z4K (by omega)]at h
  have hp:Z02 P ρ H o=none:=by
   unfold kind at hk
   unfold Z02 Z0l
   cases ho:o.op with
   |call c =>
    simp only[ho]at hk⊢
    cases hc:c.callee with
    |builtin b=>cases b<;>simp[hc]at hk
    |value f=>simp[hc]at hk
    |invoke r m=>simp[hc]at hk
   |_=>simp[ho]at hk⊢
  rw[hp]at h
  simp only at h
  unfold kind at hk
  unfold Z0t at ha
  unfold Z3j at h
  cases ho:o.op with
  |alloc e=>simp only[ho]at ha h;split at ha<;>simp at ha;rename_i hz;simp[ZbE,hz]at h
  |box e x=>simp only[ho]at ha h;split at ha<;>simp at ha;rename_i hz;simp[hz]at h
  |buildSlice t len ps =>
   simp only[ho]at ha h
   split at ha
   · rename_i us hus
     split at ha<;>simp at ha
     rename_i hz
     simp[hus,Z2x,hz]at h
   ·rename_i hus;simp[hus]at h
  |makeSlice t l c =>
   simp only[ho]at ha h
   split at ha
   · rename_i a b hl hc
     split at ha<;>simp at ha
     rename_i hz
     simp[hl,hc,Z0U,hz]at h
   · rename_i hne
     split at h
     ·rename_i a b hl hc;exact hne _ _ hl hc
     ·cases h
  |makeMap t r=>cases r<;>simp[ho]at ha h
  |call c =>
   simp only[ho]at hk
   cases hc:c.callee with
   |builtin b=>cases b<;>simp[hc]at hk
   |value f=>simp[hc]at hk
   |invoke r m=>simp[hc]at hk
  |_=>simp[ho]at hk
end congr
end Go.Abs
end
section
namespace Go.Abs
open Go.RowKit
theorem Z5O{vals vals':List (Option AV)}{D:Nat->Bool}{t:Nat}:∀(l:List Oper)(i:Nat)(acc:Option AV),(∀k,D k=true->vals[k]? = vals'[k]?)->Z0Z vals D t l i acc=Z0Z vals' D t l i acc
 |[],i,acc,h=>rfl
 |o::l,i,acc,h=>by
  simp only[Z0Z]
  by_cases e:D i=true
  ·rw[h i e];exact Z5O l (i+1) _ h
  · have e2:D i=false:=by cases hq:D i with|false=>rfl|true=>exact absurd hq e
    rw[e2];simp only[Bool.and_false,Y0f,if_false]
    exact Z5O l (i+1) _ h
theorem Z9B{dst:Option Tmp}{v:AV}{tm tm1:Tr}{o:Oper}(ho:o.dst=dst)(hp:Z3L dst v tm=some tm1)(t:Nat):Z11 tm1 t=if Z2t o t=true then some v else Z11 tm t:=by
 unfold Z2t
 rw[ho]
 cases dst with
 |none=>simp[Z3L]at hp;subst hp;simp
 |some d =>
  obtain⟨h3,h4,_⟩:=Z2C _ _ _ _ hp
  rw[h4]
  by_cases e:t=d
  ·simp[e]
  ·rw[if_neg e,if_neg];simpa using Ne.symm e
theorem Zd6{dst:Option Tmp}{v:AV}{tm tm1:Tr}(hp:Z3L dst v tm=some tm1)(t:Nat):tex tm1 t=tex tm t:=by
 cases dst with
 |none=>simp[Z3L]at hp;subst hp;rfl
 |some d=>exact (Z2C _ _ _ _ hp).2.2 t
theorem ZdM{m i:Nat}(h:m+1=2 ^ i)(k:Nat):bit m k=decide (k<i):=by
 have:m=2 ^ i-1:=by omega
 rw[Z5q,this,Nat.testBit_two_pow_sub_one]
structure VInv (ops:List Oper) (an:List Nat) (tm:Tr) (vals:List (Option AV)) (done:Nat) (tmc:Tr):Prop where
 vlen:vals.length=ops.length
 known:∀k,bit done k=true->∃v,vals[k]? = some (some v)
 unk:∀k,bit done k=false->∀v,vals[k]? = some (some v)->False
 cls:∀k j,bit done k=true->bit (an.getD k 0) j=true->bit done j=true
 cur:∀t,Z0Z vals (bit done) t ops 0 (Z11 tm t)=Z11 tmc t
 dst:∀k o d,bit done k=true->ops[k]? = some o->o.dst=some d->∃x,Z11 tmc d=some x
theorem VInv.start(ops:List Oper)(an:List Nat)(tm:Tr):VInv ops an tm (Z0Y ops) 0 tm :=
 ⟨Z1B ops,λk h=>(by rw[Z1c]at h;cases h),λk _ v h=>Z2K ops k v h,λk j h=>(by rw[Z1c]at h;cases h),λt=>Z4k _ _ _ λk o _ _=>Z1c _,λk o d h=>(by rw[Z1c]at h;cases h)⟩
theorem VInv.vle{ops:List Oper}{an:List Nat}{tm tmc:Tr}{i:Nat}{vals:List (Option AV)}{done:Nat}(h:VInv ops an tm vals done tmc)(hi:bit done i=false)(r:AV):VLe vals (vals.set i (some r)) :=
 ZbX λu hu=>h.unk i hi u hu
theorem Z4o(m i k:Nat):bit (Nat.lor m (2 ^ i)) k=(bit m k || Y00 k i):=by
 rw[Za6,Zcy]
 congr 1
 by_cases e:i=k
 ·subst e;simp
 · rw[decide_eq_false e]
   cases hq:Y00 k i with
   |false=>rfl
   |true=>exact absurd (Y01 hq).symm e
theorem VInv.next {ops : List Oper} {an : List Nat} {tm tmc tm1 : Tr} {i : Nat} {vals : List (Option AV)} {done : Nat} (h : VInv ops an tm vals done tmc) {o : Oper} (ho : ops[i]? = some o) {r : AV} (hp : Z3L o.dst r tmc = some tm1)
  (hi:bit done i=false) (han:∀k,bit (an.getD i 0) k=true->bit done k=true) (hb:an.getD i 0<2 ^ i) (htm:Z0N ops an i o=true):VInv ops an tm (vals.set i (some r)) (Nat.lor done (2 ^ i)) tm1:=by
 have hil:i<ops.length:=(Y0d.1 ho).1
 have hself:(vals.set i (some r))[i]? = some (some r):=by rw[Y08,if_pos rfl,if_pos (by rw[h.vlen];exact hil)]
 have hne:∀k,bit done k=true->k≠i:=λk hk e=>by subst e;rw[hi]at hk;cases hk
 refine⟨by rw[List.length_set,h.vlen],?_,?_,?_,?_,?_⟩
 · intro k hk
   rw[Z4o,Y0i]at hk
   by_cases e:k=i
   ·subst e;exact⟨r,hself⟩
   · rw[Y08,if_neg (Ne.symm e)]
     rcases hk with hk|hk
     ·exact h.known k hk
     ·exact absurd (Y01 hk) e
 · intro k hk v hv
   rw[Z4o,Bool.or_eq_false_iff]at hk
   have e:k≠i:=λe=>by subst e;simp at hk
   rw[Y08,if_neg (Ne.symm e)]at hv
   exact h.unk k hk.1 v hv
 · intro k j hk hj
   rw[Z4o,Y0i]at hk⊢
   rcases hk with hk|hk
   ·exact .inl (h.cls k j hk hj)
   · have:=Y01 hk;subst this
     exact .inl (han j hj)
 · intro t
   rw [Z7y ops 0 _ o (j := i) ho (by rw [Y04]; exact hself) (D := bit done) (fun k => by rw [Y04]; exact Z4o done i k) (fun k x hx hd1 hd2 hlt => by
       rw[Y04]
       cases hq:bit done k with
       |false=>rfl
       |true =>
        exfalso
        simp only[Z0N,Y06]at htm
        have hw:Z2Z an i t ops 0=true:=by
         unfold Z2t at hd1
         cases hd:o.dst with
         |none=>rw[hd]at hd1;cases hd1
         |some d=>rw[hd]at hd1;have:=Y01 hd1;subst this;have:=htm.2;rw[hd]at this;exact this
        rcases Z0T ops 0 k x hw hx hd2 with h1|h1|h1
        ·omega
        ·rw[Y04]at h1;have:=Zhb hb h1;omega
        · rw[Y04]at h1
          have:=h.cls k i hq h1
          rw[hi]at this;cases this) (by rw[Y04];exact hi)]
   rw[Z9B rfl hp t]
   rw[Z5O (vals':=vals) ops 0 _ (λk hk=>by rw[Y08,if_neg (Ne.symm (hne k hk))]),h.cur t]
 · intro k x dd hk hx hd
   rw[Z9B rfl hp dd]
   split
   ·exact⟨r,rfl⟩
   · rename_i hnd
     rw[Z4o,Y0i]at hk
     rcases hk with hk|hk
     ·exact h.dst k x dd hk hx hd
     · have:=Y01 hk;subst this
       have:x=o:=by rw[ho]at hx;simpa using hx.symm
       subst this
       exact absurd (by simp[Z2t,hd]) hnd
theorem Z3Y{vals:List (Option AV)}:∀(l:List Oper)(i:Nat)(tm:Tr),(∀k,k<l.length->∃v,vals[i+k]? = some (some v))->(∀o∈l,∀d,o.dst=some d->tex tm d=true)->∃tm',Z1A vals l i tm=some tm'
 |[],i,tm,hv,hd=>⟨tm,rfl⟩
 |o::l,i,tm,hv,hd=>by
  obtain⟨v,hv0⟩:=hv 0 (by simp)
  simp only[Nat.add_zero]at hv0
  have hp:∃tm1,Z3L o.dst v tm=some tm1:=by
   cases hdo:o.dst with
   |none=>exact⟨tm,rfl⟩
   |some d=>exact Z4W (hd o (by simp) d hdo) v
  obtain⟨tm1,hp⟩:=hp
  obtain⟨tm',h'⟩:=Z3Y l (i+1) tm1 (λk hk=>by have:=hv (k+1) (by simpa using hk);rwa [show i+(k+1)=i+1+k from by omega]at this) (λx hx d hdx=>by
   rw[Zd6 hp d];exact hd x (by simp[hx]) d hdx)
  exact⟨tm',by simp only[Z1A,hv0,hp,h']⟩
theorem Z93{tm:Tr}{vals:List (Option AV)}{ops:List Oper}{D:Nat->Bool}:∀(ts:List Nat),(∀t∈ts,∃v,Z0Z vals D t ops 0 (Z11 tm t)=some v)->∃env,Z1q tm vals ops D ts=some env
 |[],h=>⟨[],rfl⟩
 |t::ts,h=>by
  obtain⟨v,hv⟩:=h t (by simp)
  obtain⟨e,he⟩:=Z93 ts λs hs=>h s (by simp[hs])
  exact⟨(t,v)::e,by simp[Z1q,hv,he]⟩
theorem Z92{tm:Tr}{vals:List (Option AV)}{ops:List Oper}{D:Nat->Bool}{Q:AV->Prop}:∀(ts:List Nat)(env:List (Nat×AV)),Z1q tm vals ops D ts=some env->(∀t∈ts,∀v,Z0Z vals D t ops 0 (Z11 tm t)=some v->Q v)->∀t v,(t,v)∈env->Q v
 |[],env,e,h,t,v,hm=>by simp[Z1q]at e;subst e;simp at hm
 |s::ts,env,e,h,t,v,hm=>by
  simp only[Z1q]at e
  split at e<;>simp at e
  subst e;rename_i u e' hu he
  rcases Y07.1 hm with heq|hm
  ·simp at heq;obtain⟨e1,e2⟩:=heq;rw[e2];exact h s (by simp) u hu
  ·exact Z92 ts e' he (λt ht v hv=>h t (by simp[ht]) v hv) t v hm
def Z73(n:Nat)(ops:List Oper):List Oper->Bool
 |[]=>true
 |o::l=>Z0e n (looks ops o)&&Z73 n ops l
theorem Z5u{n:Nat}{ops:List Oper}:∀{l:List Oper},Z73 n ops l=true->∀o∈l,Z0e n (looks ops o)=true
 |[],h,o,ho=>by simp at ho
 |x::l,h,o,ho=>by
  simp only[Z73,Y06]at h
  rcases Y07.1 ho with rfl|ho
  ·exact h.1
  ·exact Z5u h.2 o ho
def sOK(ops:List Oper)(an:List Nat):List Nat->Nat->List Nat->Bool
 |[],m,_=>Y00 (m+1) (2 ^ ops.length)
 |i::l,m,pend=>match ops[i]? with
  |none=>false
  |some o=>!bit m i&&Y00 (Nat.land (an.getD i 0) m) (an.getD i 0)&&(match kind o with
   |3=>Z4c (an.getD i 0) pend&&sOK ops an l (Nat.lor m (2 ^ i)) []
   |2=>sOK ops an l (Nat.lor m (2 ^ i)) (pend++[i])
   |_=>sOK ops an l (Nat.lor m (2 ^ i)) pend)
def Zcs(ops:List Oper):List Nat->List Nat
 |[]=>[]
 |i::l=>match ops[i]? with|some o=>if Y00 (kind o) 3 then i::Zcs ops l else Zcs ops l|none=>Zcs ops l
noncomputable def dOK(n:Nat)(ops:List Oper)(an:List Nat):Bool :=
 iff' (Z4X ops an ops 0) (iff' (Z4I an 0) (iff' (sOK ops an (Z7o ops an) 0 []) (iff' (Z45 an (Zcs ops (Z7o ops an))) (Z73 n ops ops) false) false) false) false
theorem Zdf{a m:Nat}(h:Y00 (Nat.land a m) a=true):∀k,bit a k=true->bit m k=true:=by
 intro k hk
 have e:=Y01 h
 have e':(a &&& m)=a:=e
 rw[Z5q]at hk⊢
 rw[<- e',Nat.testBit_and,Y06]at hk
 exact hk.2
def Z7H:List Oper->Bool
 |[]=>false
 |o::l=>Nat.ble 2 (kind o) || Z7H l
theorem Z4B:∀{l:List Oper},Z7H l=false->∀o∈l,kind o<2
 |[],h,o,ho=>by simp at ho
 |x::l,h,o,ho=>by
  simp only[Z7H,Bool.or_eq_false_iff]at h
  rcases Y07.1 ho with rfl|ho
  · have:=h.1
    cases hq:Nat.ble 2 (kind o) with
    |false=>exact Nat.lt_of_not_le λhle=>by rw[Y0b hle]at hq;cases hq
    |true=>rw[hq]at this;cases this
  ·exact Z4B h.2 o ho
section facts
variable {gl:Glob} {d n:Nat} {ops:List Oper} {an:List Nat} {tm tmc:Tr} {i:Nat} {vals:List (Option AV)} {done:Nat} {E:Tre AV d} {o:Oper}
theorem ZiR (htm : Z0N ops an i o = true) (hlt : ∀ t ∈ looks ops o, t < n) (hV : VInv ops an tm vals done tmc) (hE : EnvSim d n E tmc) (hi : bit done i = false) (han : ∀ k, bit (an.getD i 0) k = true -> bit done k = true) :
  ∃env,Z1q tm vals ops (bit (an.getD i 0)) (looks ops o)=some env/\(∀t∈looks ops o,Z1N t env=some (Z2z d t E))/\(∀t v,(t,v)∈env->∃s∈looks ops o,v=Z2z d s E):=by
 simp only[Z0N,Y06]at htm
 have hlast:∀t∈looks ops o,Z0Z vals (bit (an.getD i 0)) t ops 0 (Z11 tm t)=some (Z2z d t E):=by
  intro t ht
  have hw:=List.all_eq_true.1 htm.1 t ht
  rw[Z15 (D':=bit done) ops 0 _ (λk x hx hd=>?_),hV.cur t,hE t,if_pos (hlt t ht)]
  simp only[Y04]
  cases hq:bit done k with
  |true =>
   rcases Z0T ops 0 k x hw hx hd with h1|h1|h1
   ·rw[Y04]at h1;subst h1;rw[hi]at hq;cases hq
   ·rwa [Y04]at h1
   · rw[Y04]at h1
     have:=hV.cls k i hq h1
     rw[hi]at this;cases this
  |false =>
   cases hp:bit (an.getD i 0) k with
   |false=>rfl
   |true=>rw[han k hp]at hq;cases hq
 obtain⟨env,he⟩:=Z93 (looks ops o) λt ht=>⟨_,hlast t ht⟩
 refine⟨env,he,λt ht=>?_,λt v hm=>?_⟩
 · obtain⟨u,hu⟩:=Z7U _ _ he t ht
   obtain⟨_,h2⟩:=Z5W _ _ he t u hu
   rw[hlast t ht]at h2
   rw[hu,<- h2]
 ·exact Z92 (Q:=λv=>∃s∈looks ops o,v=Z2z d s E) _ _ he (λt ht v hv=>⟨t,ht,by rw[hlast t ht]at hv;simpa using hv.symm⟩) t v hm
theorem Zii{x:Operand}{t:Nat}(hx:x∈o.op.operands.toList)(e:x = .tmp t):t∈looks ops o:=by
 subst e
 have:=Z8M _ hx
 unfold looks
 split
 ·exact this
 · split
   · split
     ·exact List.mem_cons_of_mem _ this
     ·exact this
   ·exact this
theorem Zew{env:List (Nat×AV)}(hl:∀t∈looks ops o,Z1N t env=some (Z2z d t E))(hE:EnvSim d n E tmc)(hlt:∀t∈looks ops o,t<n):∀x∈o.op.operands.toList,Z0G gl env x=Z1E gl tmc x:=by
 intro x hx
 cases x with
 |tmp t =>
  have ht:=Zii (ops:=ops) hx rfl
  simp only[Z0G,Z1E,hl t ht,hE t,if_pos (hlt t ht)]
 |const v=>rfl
 |global g=>rfl
 |func f=>rfl
theorem Z1H{env:List (Nat×AV)}(hl:∀t∈looks ops o,Z1N t env=some (Z2z d t E))(hE:EnvSim d n E tmc)(hlt:∀t∈looks ops o,t<n){b:Bool}(h:Z0v ops o tmc=some b):Z09 ops env o=b:=by
 unfold Z0v at h
 unfold Z09
 split at h
 ·rename_i e;simp at h;subst h;simp[e]
 · rename_i j want e
   split at h<;>try (simp at h;done)
   rename_i g hj
   split at h<;>try (simp at h;done)
   rename_i t ht
   have hmem:t∈looks ops o:=by simp[looks,e,hj,ht]
   simp only[e,hj,ht,hl t hmem]
   rw[hE t,if_pos (hlt t hmem)]at h
   split at h
   ·rename_i b' hb;simp at hb;simp at h;rw[hb];exact h
   · rename_i u hne hu
     simp at h hu
     subst h;subst hu
     split
     ·rename_i b' hb;simp at hb;exact absurd hb (hne b')
     ·rfl
   ·rename_i hn;cases hn
end facts
section run
variable (P:Program) (gl:Glob) (d n:Nat)
noncomputable def Zo9(ops:List Oper)(o:Oper):Option (Z5z->Tre AV d->TH->AV->Res->Res):=if ZkH P o=true then none else match cop P gl d n o,Zmg d n ops o with
 |some F,some none=>some λforc E B v k=>F forc E B λu _=>iff' (Zm8 v u) k none
 |some F,some (some (q,want))=>some λforc E B v k=>Z2G (q E) (λb=>iff' b (iff' want (F forc E B λu _=>iff' (Zm8 v u) k none) k) (iff' want k (F forc E B λu _=>iff' (Zm8 v u) k none))) k
 |_,_=>none
noncomputable def ZmP(an:List Nat)(aj j:Nat)(chk:TH->Res->Res)(base:TH)(k:Res)(sts:List (Nat×TH)):Res :=
 List.rec (chk base k) (λp _ ih=>Prod.rec (λe B=>iff' (bit aj e) ih (chk B (iff' (bit (an.getD e 0) j) k ih))) p) sts
abbrev Rec(d:Nat):=Nat×Tre AV d×AV
noncomputable def Zj0(ops:List Oper)(j:Nat):Option (Z5z->Tre AV d->TH->AV->Res->Res):=match ops[j]? with|some o=>Zo9 P gl d n ops o|none=>none
noncomputable def Zgd(ops:List Oper)(an:List Nat)(forc:Z5z)(sts:List (Nat×TH))(base:TH)(k:Res)(recs:List (Rec d)):Res :=
 List.rec k (λp _ ih=>Prod.rec (λj q=>Prod.rec (λE v=>Option.rec none (λc=>ZmP an (an.getD j 0) j (λB k=>c forc E B v k) base ih sts) (Zj0 P gl d n ops j)) q) p) recs
noncomputable def clk(gl:Glob)(d n:Nat):List Nat->Option (Tre AV d->List AV)
 |[]=>some λ_=>[]
 |t::l=>match Z0E gl d n (.tmp t),clk gl d n l with|some g,some G=>some λE=>g E::G E|_,_=>none
noncomputable def Zmh(gl:Glob)(d n:Nat)(o:Oper):Option (Tre AV d->AV):=match o.dst with|some t=>Z0E gl d n (.tmp t)|none=>none
noncomputable def ZoA{β : Type}(k:Nat)(a b c e : β) : β:=Nat.rec a (λk _=>Nat.rec b (λk _=>Nat.rec c (λ_ _=>e) k) k) k
abbrev Znk(d:Nat):=Tre AV d->TH->TH->List (Nat×TH)->List (Rec d)->(Tre AV d->TH->Res)->Res
noncomputable def ZmT(ops:List Oper)(rc:Bool)(forc:Z5z)(i:Nat)(o:Oper)(ih:Znk d):Znk d:=λE T B sts recs k =>
 Option.rec none (fun s => ZoA (kind o)
   (s forc E T λE' T'=>ih E' T' B sts recs k)
   (iff' rc (Option.rec none (λg=>s forc E T λE' T'=>frc1 (g E') λv=>ih E' T' B sts ((i,E,v)::recs) k) (Zmh gl d n o)) (s forc E T λE' T'=>ih E' T' B sts recs k))
   (s forc E T λE' T'=>iff' (iff' (Y00 T'.sz T.sz) true (ltO T.sz (T'.get T.sz))) (ih E' T' B sts recs k) none)
   (Option.rec none (λL=>iff' (ltL T.sz (L E)) (s forc E T λE' T'=>iff' (Nat.ble T.sz T'.sz) (ih E' T' T' (Zhf sts [(i,B)]) recs k) none) none) (clk gl d n (looks ops o))))
  (Zbg P gl d n ops o)
noncomputable def ZbL(ops:List Oper)(an:List Nat)(rc:Bool)(forc:Z5z)(l:List Nat):Znk d :=
 List.rec (motive:=λ_=>Znk d) (λE T B sts recs k=>Zgd P gl d n ops an forc sts B (k E T) recs) (λi _ ih=>Option.rec (λ_ _ _ _ _ _=>none) (λo=>ZmT P gl d n ops rc forc i o ih) (ops[i]?)) l
noncomputable def Zlj(ops:List Oper)(forc:Z5z)(E:Tre AV d)(T:TH)(k:Tre AV d->TH->Res):Res :=
 iff' (Zek P ops) (iff' (dOK n ops (Z0R ops [])) (ZbL P gl d n ops (Z0R ops []) (Z7H ops) forc (Z7o ops (Z0R ops [])) E T T [] [] k) none) none
end run
end Go.Abs
end

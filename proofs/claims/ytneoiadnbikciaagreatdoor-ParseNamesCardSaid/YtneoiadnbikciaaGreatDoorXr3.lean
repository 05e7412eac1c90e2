/-
  Texts of this proof, one behind the other (part 3).
-/
import Derived.Test.YtneoiadnbikciaaGreatDoorXr2
import Derived.ProofKit
import Derived.OpenShut
import Derived.IntWalk
import Derived.Stop.LaidErr
import Derived.RangeFuncRecord
import Derived.RangeFuncIn
import Derived.ChangeReads
import Derived.ChangeArms
set_option linter.unusedVariables false
set_option linter.unusedSimpArgs false
set_option maxRecDepth 100000
set_option maxHeartbeats 4000000
open Nat renaming beq → Y00,zero_add → Y02,eq_of_beq_eq_true → Y03,add_zero → Y06
open Bool renaming and_eq_true → Y01,false_eq_true → Y07,or_eq_true → Y09,not_eq_true' → Y0h
open List renaming getElem?_eq_some_iff → Y04,getElem?_eq_getElem → Y05,mem_cons → Y08,getElem?_set → Y0d,length_cons → Y0f,all_eq_true → Y0g,mem_of_getElem? → Y0i,getElem?_drop → Y0j,mem_flatMap → Y0k,getElem?_cons_zero → Y0m,mem_append → Y0n,append_nil → Y0o
open Option renaming map_eq_some_iff → Y0a,bind_eq_some_iff → Y0b,map_some → Y0l
open Array renaming getElem?_eq_some_iff → Y0c
open Int renaming toNat_natCast → Y0e
section
namespace Go.Abs
open Go.RowKit Go.ChangeShapes Go.WideShapes Go.ChangeAt
def Z4H(W:World):Z0o:=λa=>if a.block<W.heap.size then W.cell? a else none
theorem R0(W:World):R (Z4H W) noI [] W:=by
 refine⟨λb=>?_,λb p h=>?_,λb o p h=>?_,λb b' o o' p p' h=>?_,λa v h=>?_,λb o p h=>by simp at h⟩
 ·simp[noI]
 ·simp[noI]at h
 ·simp at h
 ·simp at h
 · unfold Z4H at h
   split at h
   · rename_i hb
     exact⟨hb,h,λb o p h=>by simp at h⟩
   ·simp at h
theorem Stp.below{W W':World}{sn:Z0o}{ι : Z0n}{H:Z00}(h:Stp (Z4H W) noI [] W sn ι H W'):Below W.heap.size W W' :=
 ⟨h.os,h.tape,h.output,h.size,λc hc=>h.frame c hc λb o p hb=>by simp at hb⟩
section av
variable {H:Type} {P:Program}
def Zop(f:TypeId->DataW H->Option (List AV))(P:Program)(tot:Nat):List Field->List (DataW H)->Nat->Option (List AV)
 |[],[],off=>if Y00 off tot then some [] else none
 | fl :: fs, d :: ds, off => if Y00 fl.offset off then
   match f fl.type d,Zop f P tot fs ds (off+P.cellsOf fl.type) with
   |some u,some us=>if Y00 u.length (P.cellsOf fl.type) then some (u++us) else none
   |_,_=>none
  else none
 |_,_,_=>none
def Zqy(f:DataW H->Option (List AV))(ct:Nat):List (DataW H)->Option (List AV)
 |[]=>some []
 |d::ds=>match f d,Zqy f ct ds with
  |some u,some us=>if Y00 u.length ct then some (u++us) else none
  |_,_=>none
def Zkk(P:Program):Nat->TypeId->DataW H->Option (List AV)
 |0,_,_=>none
 |n+1,t,d=>match P.underlying t,d with
  |some .bool,.lit (.bool b)=>some [.bool b]
  |some (.int k),.lit (.int _ z)=>some [.int k z]
  |some .string,.lit (.string s)=>some [.str s]
  |some (.struct fs),.agg ds=>Zop (Zkk P n) P (P.cellsOf t) fs.toList ds 0
  |some (.array m e),.agg ds=>if Y00 (ds.length*P.cellsOf e) (P.cellsOf t)&&Y00 ds.length m then Zqy (Zkk P n e) (P.cellsOf e) ds else none
  |_,_=>none
variable {enc:TypeId×Value->H} {w:World} {base:Nat} {sp:Nat->Bool} {held:Bool} {sn:Z0o} {ι : Z0n}
theorem ZaA {f : TypeId -> DataW H -> Option (List AV)} {m tot : Nat} (hf : ∀ t d us cs p, f t d = some us -> DataW.trod enc P w base sp held m t cs = some (d, p) -> LR sn ι us cs) (cs : List Value) (hl : cs.length = tot) :
  ∀(fs:List Field)(xs:List (DataW H×List MemPlace))(off:Nat)(us:List AV),Zop f P tot fs (xs.map (·.1)) off=some us ->
   (∀(i:Nat)(fl:Field),fs[i]? = some fl->DataW.trod enc P w base sp held m fl.type ((cs.drop fl.offset).take (P.cellsOf fl.type))=xs[i]?)->LR sn ι us (cs.drop off)
 |[],[],off,us,h,hx=>by
  simp only[Zop,List.map_nil]at h
  split at h<;>simp at h
  subst h;rename_i e
  have:=Y03 e
  simp[LR];omega
 |[],x::xs,off,us,h,hx=>by simp[Zop]at h
 |fl::fs,[],off,us,h,hx=>by simp[Zop]at h
 |fl::fs,x::xs,off,us,h,hx=>by
  simp only[Zop,List.map_cons]at h
  split at h<;>try (simp at h;done)
  rename_i e
  have:=Y03 e;subst this
  split at h<;>try (simp at h;done)
  rename_i u us' hu hus
  split at h<;>simp at h
  subst h;rename_i hul
  have hul':=Y03 hul
  have h0:=hx 0 fl rfl
  simp only[Y0m]at h0
  have h1:=hf _ _ _ _ _ hu h0
  have h2:=ZaA hf cs hl fs xs _ _ hus λi fl' hi=>by simpa using hx (i+1) fl' (by simpa using hi)
  have:=h1.append h2
  rwa [<- List.drop_drop,List.take_append_drop]at this
theorem ZaE {f : DataW H -> Option (List AV)} {m ct : Nat} {e : TypeId} (hf : ∀ d us cs p, f d = some us -> DataW.trod enc P w base sp held m e cs = some (d, p) -> LR sn ι us cs) (cs : List Value) :
  ∀(xs:List (DataW H×List MemPlace))(k:Nat)(us:List AV),cs.length=(k+xs.length)*ct->Zqy f ct (xs.map (·.1))=some us ->
   (∀(i:Nat),i<xs.length->DataW.trod enc P w base sp held m e ((cs.drop ((k+i)*ct)).take ct)=xs[i]?)->LR sn ι us (cs.drop (k*ct))
 |[],k,us,hl,h,hx=>by
  simp[Zqy]at h;subst h
  simp at hl
  simp[LR,hl]
 |x::xs,k,us,hl,h,hx=>by
  simp only[Zqy,List.map_cons]at h
  split at h<;>try (simp at h;done)
  rename_i u us' hu hus
  split at h<;>simp at h
  subst h
  have h0:=hx 0 (by simp)
  simp only[Y0m,Y06]at h0
  have h1:=hf _ _ _ _ hu h0
  have h2:=ZaE hf cs xs (k+1) _ (by rw[hl];simp only[Y0f];congr 1;omega) hus λi hi=>by
   have:=hx (i+1) (by simpa using hi)
   rw[show k+1+i=k+(i+1) from by omega]
   simpa using this
  have:=h1.append h2
  rwa [show (k+1)*ct=k*ct+ct from by rw[Nat.add_mul];simp,<- List.drop_drop,List.take_append_drop]at this
theorem Z7D:∀(n:Nat)(t:TypeId)(d:DataW H)(us:List AV)(m:Nat)(cs:List Value)(p:List MemPlace),Zkk P n t d=some us->DataW.trod enc P w base sp held m t cs=some (d,p)->LR sn ι us cs
 |0,t,d,us,m,cs,p,h,ht=>by simp[Zkk]at h
 |n+1,t,d,us,m,cs,p,h,ht=>by
  simp only[Zkk]at h
  split at h<;>try (simp at h;done)
  · rename_i b hu
    simp at h;subst h
    obtain⟨b',rfl,hx⟩:=DataW.trod_bool hu ht
    simp at hx;simp[LR,VR,hx]
  · rename_i k k' z hu
    simp at h;subst h
    obtain⟨z',rfl,hx,_⟩:=DataW.trod_int hu ht
    simp at hx;simp[LR,VR,hx]
  · rename_i s hu
    simp at h;subst h
    obtain⟨s',rfl,hx,_⟩:=DataW.trod_string hu ht
    simp at hx;simp[LR,VR,hx]
  · rename_i fs ds hu
    obtain⟨xs,m',rfl,hx,hl,hlen,hf⟩:=DataW.trod_struct hu ht
    simp at hx
    obtain⟨rfl,_⟩:=hx
    have:=ZaA (m:=m') (λt d us cs p h1 h2=>Z7D n t d us m' cs p h1 h2) cs hl fs.toList xs 0 us (by simpa using h) λi fl hi=>hf i fl (by simpa using hi)
    simpa using this
  · rename_i k e ds hu
    split at h<;>try (simp at h;done)
    rename_i hc
    simp only[Y01]at hc
    obtain⟨xs,m',rfl,hx,hl,hlen,hf⟩:=DataW.trod_array hu ht
    simp at hx
    obtain⟨rfl,_⟩:=hx
    have e1:=Y03 hc.1
    have:=ZaE (m:=m') (ct:=P.cellsOf e) (e:=e) (λd us cs p h1 h2=>Z7D n e d us m' cs p h1 h2) cs xs 0 us (by rw[hl,<- e1];simp) (by simpa using h) λi hi=>by simpa using hf i (by omega)
    simpa using this
theorem ZgJ{W:World}{g:Nat}(hg:g<W.heap.size):∀(us:List AV)(vs:List Value)(o:Nat),LR (Z4H W) noI us vs->(∀(i:Nat)(v:Value),vs[i]? = some v->W.cell? ⟨g,o+i,none⟩=some v)->MR (Z4H W) us g o
 |[],vs,o,h,hc=>by simp[MR]
 |u::us,vs,o,h,hc=>by
  simp only[LR]at h
  obtain⟨d,ds,rfl,h1,h2⟩:=h
  simp only[MR]
  refine⟨⟨d,?_,h1⟩,ZgJ hg us ds (o+1) h2 λi v hi=>?_⟩
  ·unfold Z4H;rw[if_pos hg];simpa using hc 0 d rfl
  ·rw[show o+1+i=o+(i+1) from by omega];exact hc (i+1) v (by simpa using hi)
end av
theorem Z4T {P : Program} {W : World} {name : String} {d : DataW Unit} {g n : Nat} {t : TypeId} {us : List AV}
  (hg:P.globalNamed name=some g) (hty:(P.globals[g]?).map (·.type)=some t) (ha:Zkk P n t d=some us) {rest:List (String×DataW Unit)} {ps:List MemPlace} (h:DataW.LaidVars P W ((name,d)::rest) ps) :
  MR (Z4H W) us g 0/\∃qs,DataW.LaidVars P W rest qs:=by
 obtain⟨g',t',cs,fuel,p,q,hg',ht',hvar,hd,hr,_⟩:=h
 obtain rfl:=Option.some.inj (hg.symm.trans hg')
 obtain rfl:=Option.some.inj (hty.symm.trans ht')
 have h1:LR (Z4H W) noI us cs.toList:=Z7D n t d us fuel cs.toList p ha hd
 have hb:g<W.heap.size:=by
  simp only[World.var?,hg,Option.bind_some]at hvar
  split at hvar
  ·rename_i hh;exact (Y0c.1 hh).1
  ·simp at hvar
 refine⟨ZgJ hb us cs.toList 0 h1 λi v hi=>?_,q,hr⟩
 rw[Y02,World.var?_cell hg hvar];simpa using hi
theorem Zh4 {H : Type} {enc : TypeId × Value -> H} {P : Program} {f : Func} {s : ChangeSpec} {Z6U fresh handsOn again : Bool} {W W' : World} {args : Array Value} {v : Value} {ds gs : List (DataW H)} {before pa pv : List MemPlace}
  (hW:DataW.Whole enc P f.params.toList s.vars Z6U W args.toList ds gs before)
  (hres:∀(b:Nat)(sp:Nat->Bool)(hd:Bool),DataW.TrodAll enc P W' b sp hd f.resultTypes.toList (v.resultList f.resultTypes.size) (s.fn H (ds++gs)).results [])
  (hargs:∀sp:Nat->Bool,(∀p∈before,sp p.block=true)->DataW.TrodAll enc P W' 0 sp true f.params.toList args.toList (s.fn H (ds++gs)).args pa)
  (hvars:∀sp:Nat->Bool,(∀p∈before,sp p.block=true)->DataW.TrodVars enc P W' sp s.vars (s.fn H (ds++gs)).vars pv)
  (hps:before=pa++pv) (hb:Below W.heap.size W W')
  (hok:∀(j:Nat)(t:TypeId)(r:Value),f.resultTypes[j]? = some t->(v.resultList f.resultTypes.size)[j]? = some r->Value.okWide P W' .any 0 t r) :
  s.post enc P f Z6U fresh handsOn again W args v W':=by
 have hlt:∀p∈before,p.block<W.heap.size:=λp hp=>hW.lt p hp
 have hold:∀p∈before,(λb=>decide (b<W.heap.size)) p.block=true:=λp hp=>by simpa using hlt p hp
 have hW':=hW
 obtain⟨_,_,_,_,_,hz,hn⟩:=hW'
 refine⟨ds,gs,before,[],pa,pv,hW,hres _ _ _,hargs _ hold,hvars _ hold,hb.frame _,λ_=>⟨hok,_,_,([]++pa)++pv,⟨[]++pa,pv,trodAll_append (hargs _ (λ_ _=>rfl)) (hres _ _ _),hvars _ (λ_ _=>rfl),rfl,?_,?_⟩,?_⟩⟩
 · intro b off hp
   have hp':MemPlace.cell b off∈before:=by rw[hps];simpa using hp
   rw[hb.frozen (hlt _ hp')]
   exact hz b off hp'
 · intro ha
   have:=hn ha
   rw[hps]at this
   simpa using this
 · intro p hp _
   rw[hps]
   simpa using hp
end Go.Abs
end
section
namespace Go.Abs
open Go.RowKit
noncomputable def Zjy{β : Type}(v:AV):(AV -> β) -> β :=
 AV.rec (motive_1:=λ_=>(AV -> β) -> β) (motive_2:=λ_=>Unit) (λb f=>f (.bool b)) (λk n f=>f (.int k n)) (λs f=>f (.str s)) (λf=>f .nptr) (λb o f=>f (.ptr b o)) (λcs _ f=>f (.rp cs)) (λf=>f .nslice)
  (λb o l c z f=>f (.slice b o l c z)) (λn z cs _ f=>f (.rs n z cs)) (λf=>f .nmap) (λb f=>f (.map b)) (λfn a b _ _ f=>f (.func fn a b)) (λf=>f .nfunc) (λt v _ f=>f (.iface t v)) (λf=>f .niface)
  (λcs _ f=>f (.agg cs)) (λvs _ f=>f (.tuple vs)) () (λ_ _ _ _=>()) v
theorem Z3I{β : Type}(v:AV)(f:AV -> β):Zjy v f=f v:=by cases v<;>rfl
end Go.Abs
end
section
namespace Go.Abs
open Go.RowKit
noncomputable def Zjx{β : Type}(b:Bool):(Bool -> β) -> β:=Bool.rec (motive:=λ_=>(Bool -> β) -> β) (λf=>f false) (λf=>f true) b
theorem Z8G{β : Type}(b:Bool)(f:Bool -> β):Zjx b f=f b:=by cases b<;>rfl
end Go.Abs
end
section
namespace Go.Abs
open Go.RowKit
theorem Z8S:∀{t:Tr}{n:Nat},tex t n=true->∀v,∃t',ZgO t n v=some t'
 | .leaf,n,h,v=>by simp[tex]at h
 | .node x l r,0,h,v=>by
  cases x with
  |none=>simp[tex]at h
  |some y=>exact⟨_,rfl⟩
 | .node x l r,n+1,h,v=>by
  simp only[tex]at h
  simp only[ZgO]
  split at h
  · rename_i e
    obtain⟨t',h'⟩:=Z8S (t:=l) h v
    simp only[e,h'];exact⟨_,rfl⟩
  · rename_i e
    obtain⟨t',h'⟩:=Z8S (t:=r) h v
    cases hm:Nat.mod n 2 with
    |zero=>exact (e hm).elim
    |succ m=>simp only[h'];exact⟨_,rfl⟩
end Go.Abs
end
section
namespace Go.Abs
open Go.RowKit
mutual
theorem Z4b:∀v:AV,veq v v=true
 | .bool b=>by simp[veq]
 | .int k n=>by simp[veq]
 | .str s=>by simp[veq]
 | .nptr=>rfl
 | .ptr b o=>by simp[veq]
 | .rp cs=>by simp[veq,veqL_refl cs]
 | .nslice=>rfl
 | .slice b o l c z=>by simp[veq]
 | .rs n z cs=>by simp[veq,veqL_refl cs]
 | .nmap=>rfl
 | .map b=>by simp[veq]
 | .func f a b=>by simp[veq,veqL_refl a,veqL_refl b]
 | .nfunc=>rfl
 | .iface t v=>by simp[veq,Z4b v]
 | .niface=>rfl
 | .agg cs=>by simp[veq,veqL_refl cs]
 | .tuple vs=>by simp[veq,veqL_refl vs]
theorem veqL_refl:∀l:List AV,veqL l l=true
 |[]=>rfl
 |v::l=>by simp[veqL,Z4b v,veqL_refl l]
end
end Go.Abs
end
section
namespace Go.Abs
open Go.RowKit
theorem Z7m{vals vals':List (Option AV)}{D:Nat->Bool}{t:Nat}:∀(l:List Oper)(i:Nat)(acc:Option AV),(∀k,D k=true->vals[k]? = vals'[k]?)->Z1S vals D t l i acc=Z1S vals' D t l i acc
 |[],i,acc,h=>rfl
 |o::l,i,acc,h=>by
  simp only[Z1S]
  by_cases e:D i=true
  ·rw[h i e];exact Z7m l (i+1) _ h
  · have e2:D i=false:=by cases hq:D i with|false=>rfl|true=>exact absurd hq e
    rw[e2];simp only[Bool.and_false,Y07,if_false]
    exact Z7m l (i+1) _ h
theorem ZfI{dst:Option Tmp}{v:AV}{tm tm1:Tr}{o:Oper}(ho:o.dst=dst)(hp:Z4O dst v tm=some tm1)(t:Nat):Z1p tm1 t=if Z3i o t=true then some v else Z1p tm t:=by
 unfold Z3i
 rw[ho]
 cases dst with
 |none=>simp[Z4O]at hp;subst hp;simp
 |some d =>
  obtain⟨h3,h4,_⟩:=Z3l _ _ _ _ hp
  rw[h4]
  by_cases e:t=d
  ·simp[e]
  ·rw[if_neg e,if_neg];simpa using Ne.symm e
theorem ZfG{dst:Option Tmp}{v:AV}{tm tm1:Tr}(hp:Z4O dst v tm=some tm1)(t:Nat):tex tm1 t=tex tm t:=by
 cases dst with
 |none=>simp[Z4O]at hp;subst hp;rfl
 |some d=>exact (Z3l _ _ _ _ hp).2.2 t
theorem Zgw{m i:Nat}(h:m+1=2 ^ i)(k:Nat):bit m k=decide (k<i):=by
 have:m=2 ^ i-1:=by omega
 rw[Z3z,this,Nat.testBit_two_pow_sub_one]
structure VInv (ops:List Oper) (an:List Nat) (tm:Tr) (vals:List (Option AV)) (done:Nat) (tmc:Tr):Prop where
 vlen:vals.length=ops.length
 known:∀k,bit done k=true->∃v,vals[k]? = some (some v)
 unk:∀k,bit done k=false->∀v,vals[k]? = some (some v)->False
 cls:∀k j,bit done k=true->bit (an.getD k 0) j=true->bit done j=true
 cur:∀t,Z1S vals (bit done) t ops 0 (Z1p tm t)=Z1p tmc t
 dst:∀k o d,bit done k=true->ops[k]? = some o->o.dst=some d->∃x,Z1p tmc d=some x
theorem VInv.start(ops:List Oper)(an:List Nat)(tm:Tr):VInv ops an tm (Z1X ops) 0 tm :=
 ⟨Z2h ops,λk h=>(by rw[Z2l]at h;cases h),λk _ v h=>Z3s ops k v h,λk j h=>(by rw[Z2l]at h;cases h),λt=>Z5w _ _ _ λk o _ _=>Z2l _,λk o d h=>(by rw[Z2l]at h;cases h)⟩
theorem VInv.vle{ops:List Oper}{an:List Nat}{tm tmc:Tr}{i:Nat}{vals:List (Option AV)}{done:Nat}(h:VInv ops an tm vals done tmc)(hi:bit done i=false)(r:AV):VLe vals (vals.set i (some r)) :=
 Zei λu hu=>h.unk i hi u hu
theorem Z5C(m i k:Nat):bit (Nat.lor m (2 ^ i)) k=(bit m k || Y00 k i):=by
 rw[Z7B,ZbZ]
 congr 1
 by_cases e:i=k
 ·subst e;simp
 · rw[decide_eq_false e]
   cases hq:Y00 k i with
   |false=>rfl
   |true=>exact absurd (Y03 hq).symm e
theorem VInv.next {ops : List Oper} {an : List Nat} {tm tmc tm1 : Tr} {i : Nat} {vals : List (Option AV)} {done : Nat} (h : VInv ops an tm vals done tmc) {o : Oper} (ho : ops[i]? = some o) {r : AV} (hp : Z4O o.dst r tmc = some tm1)
  (hi:bit done i=false) (han:∀k,bit (an.getD i 0) k=true->bit done k=true) (hb:an.getD i 0<2 ^ i) (htm:Z1J ops an i o=true):VInv ops an tm (vals.set i (some r)) (Nat.lor done (2 ^ i)) tm1:=by
 have hil:i<ops.length:=(Y04.1 ho).1
 have hself:(vals.set i (some r))[i]? = some (some r):=by rw[Y0d,if_pos rfl,if_pos (by rw[h.vlen];exact hil)]
 have hne:∀k,bit done k=true->k≠i:=λk hk e=>by subst e;rw[hi]at hk;cases hk
 refine⟨by rw[List.length_set,h.vlen],?_,?_,?_,?_,?_⟩
 · intro k hk
   rw[Z5C,Y09]at hk
   by_cases e:k=i
   ·subst e;exact⟨r,hself⟩
   · rw[Y0d,if_neg (Ne.symm e)]
     rcases hk with hk|hk
     ·exact h.known k hk
     ·exact absurd (Y03 hk) e
 · intro k hk v hv
   rw[Z5C,Bool.or_eq_false_iff]at hk
   have e:k≠i:=λe=>by subst e;simp at hk
   rw[Y0d,if_neg (Ne.symm e)]at hv
   exact h.unk k hk.1 v hv
 · intro k j hk hj
   rw[Z5C,Y09]at hk⊢
   rcases hk with hk|hk
   ·exact .inl (h.cls k j hk hj)
   · have:=Y03 hk;subst this
     exact .inl (han j hj)
 · intro t
   rw [Z9m ops 0 _ o (j := i) ho (by rw [Y02]; exact hself) (D := bit done) (fun k => by rw [Y02]; exact Z5C done i k) (fun k x hx hd1 hd2 hlt => by
       rw[Y02]
       cases hq:bit done k with
       |false=>rfl
       |true =>
        exfalso
        simp only[Z1J,Y01]at htm
        have hw:Z3O an i t ops 0=true:=by
         unfold Z3i at hd1
         cases hd:o.dst with
         |none=>rw[hd]at hd1;cases hd1
         |some d=>rw[hd]at hd1;have:=Y03 hd1;subst this;have:=htm.2;rw[hd]at this;exact this
        rcases Z1U ops 0 k x hw hx hd2 with h1|h1|h1
        ·omega
        ·rw[Y02]at h1;have:=ZaM hb h1;omega
        · rw[Y02]at h1
          have:=h.cls k i hq h1
          rw[hi]at this;cases this) (by rw[Y02];exact hi)]
   rw[ZfI rfl hp t]
   rw[Z7m (vals':=vals) ops 0 _ (λk hk=>by rw[Y0d,if_neg (Ne.symm (hne k hk))]),h.cur t]
 · intro k x dd hk hx hd
   rw[ZfI rfl hp dd]
   split
   ·exact⟨r,rfl⟩
   · rename_i hnd
     rw[Z5C,Y09]at hk
     rcases hk with hk|hk
     ·exact h.dst k x dd hk hx hd
     · have:=Y03 hk;subst this
       have:x=o:=by rw[ho]at hx;simpa using hx.symm
       subst this
       exact absurd (by simp[Z3i,hd]) hnd
theorem Z81{vals:List (Option AV)}:∀(l:List Oper)(i:Nat)(tm:Tr),(∀k,k<l.length->∃v,vals[i+k]? = some (some v))->(∀o∈l,∀d,o.dst=some d->tex tm d=true)->∃tm',Z2g vals l i tm=some tm'
 |[],i,tm,hv,hd=>⟨tm,rfl⟩
 |o::l,i,tm,hv,hd=>by
  obtain⟨v,hv0⟩:=hv 0 (by simp)
  simp only[Y06]at hv0
  have hp:∃tm1,Z4O o.dst v tm=some tm1:=by
   cases hdo:o.dst with
   |none=>exact⟨tm,rfl⟩
   |some d=>exact Z8S (hd o (by simp) d hdo) v
  obtain⟨tm1,hp⟩:=hp
  obtain⟨tm',h'⟩:=Z81 l (i+1) tm1 (λk hk=>by have:=hv (k+1) (by simpa using hk);rwa [show i+(k+1)=i+1+k from by omega]at this) (λx hx d hdx=>by
   rw[ZfG hp d];exact hd x (by simp[hx]) d hdx)
  exact⟨tm',by simp only[Z2g,hv0,hp,h']⟩
theorem ZlM{a m:Nat}(h:Y00 (Nat.land a m) a=true):∀k,bit a k=true->bit m k=true:=by
 intro k hk
 have e:=Y03 h
 have e':(a &&& m)=a:=e
 rw[Z3z]at hk⊢
 rw[<- e',Nat.testBit_and,Y01]at hk
 exact hk.2
end Go.Abs
end
section
namespace Go.Abs
open Go.RowKit
theorem ZcX {P : Program} {n nm : String} {text : List UInt8} {r : List (String × DataW Unit)} {W : World} {g : Nat} {ti tp te ts : TypeId} {ms : Array (String × TypeId)} {f : Field}
  (h:laidMet P ((n,.iface nm (.ptr (.agg [.lit (.string text)])))::r) W)
  (hg:P.globalNamed n=some g) (ht:(P.globals[g]?).map (·.type)=some ti) (hi:P.underlying ti=some (.interface ms)) (hrow:∀u,P.typeName? 3 u=some nm->u=tp)
  (hp:P.underlying tp=some (.pointer te)) (he:P.underlying te=some (.struct #[f])) (hft:f.type=ts) (hfo:f.offset=0) (hs:P.underlying ts=some .string) (hc:P.cellsOf te=1) (hcs:P.cellsOf ts=1) :
  MR (Z4H W) [.iface tp (.rp [.str text])] g 0:=by
 obtain⟨a,s,hv,hcell,hst,_⟩:=laid_sentinel h hg ht hi hrow hp he hft hfo hs hc hcs
 have hin:∀(b:Nat)(v:Value)(o:Nat),W.cell? ⟨b,o,none⟩=some v->Z4H W ⟨b,o,none⟩=some v:=by
  intro b v o hq
  have hb:b<W.heap.size:=by
   cases hh:W.heap[b]? with
   |none=>unfold World.cell? at hq;simp[hh]at hq
   |some ob=>exact (Y0c.1 hh).1
  unfold Z4H;rw[if_pos hb];exact hq
 have hsp:a=⟨a.block,a.off,none⟩:=by
  obtain⟨b,o,sp⟩:=a
  cases sp with
  |none=>rfl
  |some k=>exfalso;unfold World.cell? at hcell;split at hcell<;>simp at hcell
 have h0:W.cell? ⟨g,0,none⟩=some (.iface tp (.pointer (some a))):=by rw[World.var?_cell hg hv];rfl
 rw[hsp]at h0 hcell
 simp only[MR]
 refine⟨⟨_,hin _ _ _ h0,?_⟩,trivial⟩
 simp only[VR]
 refine⟨_,rfl,a.block,a.off,rfl,?_⟩
 simp only[MR]
 refine⟨⟨_,hin _ _ _ hcell,?_⟩,trivial⟩
 simp only[VR]
 exact⟨s,rfl,hst⟩
end Go.Abs
end
section
namespace Go.Abs
open Go.RowKit
def onO{α : Type}(o:Option α)(k : α -> Prop):Prop:=match o with|some v=>k v|none=>False
theorem Z04{α : Type}{o:Option α}{k : α -> Prop}(h:onO o k):∃v,o=some v/\k v:=by
 cases o with
 |none=>exact h.elim
 |some v=>exact⟨v,rfl,h⟩
section W
variable (P:Program)
def rdW(H:Z00)(a:AV)(n:Nat)(k:List AV->Prop):Prop :=
 match a with
 | .ptr b off=>onO H[b]? λo=>match o.alive,o.body with
  |true,.cells cs _=>∃r,tk n (cs.drop off)=some r/\k r
  |_,_=>False
 | .rp cs=>∃r,tk n cs=some r/\k r
 |_=>False
theorem ZmO{H:Z00}{a:AV}{n:Nat}{k:List AV->Prop}(h:rdW H a n k):∃r,rd H a n=some r/\k r:=by
 unfold rdW at h
 unfold rd
 split at h
 · rename_i b off
   obtain⟨o,ho,h⟩:=Z04 h
   simp only[ho]
   split at h
   ·rename_i e1 e2;simp only[e1,e2];exact h
   ·exact h.elim
 ·exact h
 ·exact h.elim
def Zo5(t:TypeId)(a:AV)(H:Z00)(k:AV->Prop):Prop :=
 match Z5j P t with
 |some true=>onO (tsz P t) λn=>rdW H a n λcs=>k (.agg cs)
 |some false=>rdW H a 1 λcs=>match cs with|[c]=>Zjy c k|_=>False
 |none=>False
theorem ZlK{t:TypeId}{a:AV}{H:Z00}{k:AV->Prop}(h:Zo5 P t a H k):∃r,ZeZ P t a H=some r/\k r:=by
 unfold Zo5 at h
 unfold ZeZ
 split at h
 · rename_i e
   obtain⟨n,hn,h⟩:=Z04 h
   obtain⟨cs,h1,h2⟩:=ZmO h
   simp only[e,hn,h1];exact⟨_,rfl,h2⟩
 · rename_i e
   obtain⟨cs,h1,h2⟩:=ZmO h
   simp only[e,h1]
   split at h2
   ·rw[Z3I]at h2;exact⟨_,rfl,h2⟩
   ·exact h2.elim
 ·exact h.elim
def ZbO(e:TypeId->AV->AV->Option Bool)(P:Program):List (TypeId×Nat)->List AV->List AV->Option Bool
 |[],_,_=>some true
 |(t,off)::fs,xs,ys =>
  match Z6U P t xs off,Z6U P t ys off with
  |some a,some b=>match e t a b,ZbO e P fs xs ys with
   |some x,some y=>some (x&&y)
   |_,_=>none
  |_,_=>none
def eqB(P:Program):Nat->TypeId->AV->AV->Option Bool
 |0,_,_,_=>none
 |d+1,t,x,y =>
  match x,y with
  | .agg xs,.agg ys=>match Z3t P t with|some fs=>ZbO (eqB P d) P fs xs ys|none=>none
  |x,y=>aEq P (d+1) t x y
theorem Zgf{e e':TypeId->AV->AV->Option Bool}(he:∀t x y b,e t x y=some b->e' t x y=some b):∀(fs:List (TypeId×Nat))(xs ys:List AV)(b:Bool),ZbO e P fs xs ys=some b->ZoE e' P fs xs ys=some b
 |[],xs,ys,b,h=>h
 |(t,off)::fs,xs,ys,b,h=>by
  simp only[ZbO]at h
  simp only[ZoE]
  split at h<;>try (simp at h;done)
  rename_i a c ha hc
  split at h<;>simp at h
  rename_i x y hx hy
  simp only[ha,hc,he _ _ _ _ hx]
  cases x with
  |true=>simp at h;subst h;exact Zgf he fs xs ys _ hy
  |false=>simp at h;subst h;rfl
theorem Zna:∀(d:Nat)(t:TypeId)(x y:AV)(b:Bool),eqB P d t x y=some b->aEq P d t x y=some b
 |0,t,x,y,b,h=>by simp[eqB]at h
 |d+1,t,x,y,b,h=>by
  unfold eqB at h
  split at h
  · split at h<;>try (simp at h;done)
    rename_i fs hfs
    simp only[aEq,hfs]
    exact Zgf P (λt x y b h=>Zna d t x y b h) fs _ _ b h
  ·exact h
def ZdA(P:Program)(t:TypeId)(a b:List AV):Option Bool:=if P.eqGuardType P.depth t then none else eqB P 10000 t (.agg a) (.agg b)
def ZrD(op:BinOp)(t:TypeId)(c:Bool)(u v:AV)(k:AV->Prop):Prop :=
 match u,v with
 | .int kx a,.int ky b=>match op with
  | .quo=>if kx=ky then b≠0/\k (.int kx (kx.wrap (a.tdiv b))) else False
  | .rem=>if kx=ky then b≠0/\k (.int kx (a.tmod b)) else False
  | .add=>if kx=ky then ∃n,kx.wrap (a+b)=n/\k (.int kx n) else False
  | .sub=>if kx=ky then ∃n,kx.wrap (a-b)=n/\k (.int kx n) else False
  | .mul=>if kx=ky then ∃n,kx.wrap (a*b)=n/\k (.int kx n) else False
  | .shl=>0<=b/\k (.int kx (kx.wrap (a*2 ^ (min b.toNat kx.bits))))
  | .shr=>0<=b/\k (.int kx (a.fdiv (2 ^ (min b.toNat kx.bits))))
  |op=>if kx=ky then onO (Z4q op kx a b) k else False
 | .str a,.str b=>match op with
  | .add=>a.length+b.length<=9223372036854775807/\k (.str (a++b))
  |op=>onO (Z9U op a b) k
 | .agg a,.agg b=>match op with
  | .eql=>∃r,ZdA P t a b=some r/\k (.bool r)
  | .neq=>∃r,ZdA P t a b=some r/\k (.bool !r)
  |_=>False
 |u,v=>onO (Z5a P op t c u v) k
theorem Zp4{op:BinOp}{t:TypeId}{c:Bool}{u v:AV}{k:AV->Prop}(h:ZrD P op t c u v k):∃r,Z5a P op t c u v=some r/\k r:=by
 unfold ZrD at h
 split at h
 · rename_i kx a ky b
   split at h
   · split at h
     ·rename_i e;subst e;exact⟨_,by simp[Z5a,ZdY,Z4q,h.1],h.2⟩
     ·exact h.elim
   · split at h
     ·rename_i e;subst e;exact⟨_,by simp[Z5a,ZdY,Z4q,h.1],h.2⟩
     ·exact h.elim
   · split at h
     ·rename_i e;subst e;obtain⟨n,rfl,h⟩:=h;exact⟨_,by simp[Z5a,ZdY,Z4q],h⟩
     ·exact h.elim
   · split at h
     ·rename_i e;subst e;obtain⟨n,rfl,h⟩:=h;exact⟨_,by simp[Z5a,ZdY,Z4q],h⟩
     ·exact h.elim
   · split at h
     ·rename_i e;subst e;obtain⟨n,rfl,h⟩:=h;exact⟨_,by simp[Z5a,ZdY,Z4q],h⟩
     ·exact h.elim
   ·exact⟨_,by simp only[Z5a,ZdY];rw[if_neg (by omega)],h.2⟩
   ·exact⟨_,by simp only[Z5a,ZdY];rw[if_neg (by omega)],h.2⟩
   · rename_i o1 o2 o5 o6 o7 o3 o4
     split at h
     · rename_i e;subst e
       obtain⟨r,h1,h2⟩:=Z04 h
       refine⟨r,?_,h2⟩
       simp only[Z5a,ZdY]
       cases op with
       |shl=>exact (o3 rfl).elim
       |shr=>exact (o4 rfl).elim
       |_=>simpa using h1
     ·exact h.elim
 · split at h
   ·exact⟨_,by simp[Z5a,ZdY,Z9U,h.1],h.2⟩
   · obtain⟨r,h1,h2⟩:=Z04 h
     exact⟨r,by simp only[Z5a,ZdY];exact h1,h2⟩
 · have key : ∀ {x y : List AV} {r : Bool}, ZdA P t x y = some r -> ¬ P.eqGuardType P.depth t = true /\ aEq P 10000 t (.agg x) (.agg y) = some r := by
    intro x y r h1
    unfold ZdA at h1
    split at h1
    ·cases h1
    ·rename_i hg;exact⟨hg,Zna P _ _ _ _ _ h1⟩
   split at h
   · obtain⟨r,h1,h2⟩:=h
     exact⟨_,by simp only[Z5a,ZdY];rw[if_neg (key h1).1,(key h1).2],h2⟩
   · obtain⟨r,h1,h2⟩:=h
     exact⟨_,by simp only[Z5a,ZdY];rw[if_neg (key h1).1,(key h1).2],h2⟩
   ·exact h.elim
 ·exact Z04 h
def Zri(t:TypeId)(x i:AV)(k:AV->Prop):Prop :=
 match i with
 | .int _ i=>match P.underlying t with
  |some (.slice e)=>onO (tsz P e) λz'=>match x with
   | .slice b off len _ z=>∃j:Nat,(i=(j:Int)/\j<len)/\(if z'=z then k (.ptr b (off+j*z)) else False)
   | .rs n z cs=>∃j:Nat,(i=(j:Int)/\j<n)/\(if z'=z then k (.rp (cs.drop (j*z))) else False)
   |_=>False
  |some (.array n e)=>onO (tsz P e) λz=>∃j:Nat,(i=(j:Int)/\j<n)/\(match x with
   | .ptr b off=>k (.ptr b (off+j*z))
   | .rp cs=>k (.rp (cs.drop (j*z)))
   |_=>False)
  |_=>False
 |_=>False
theorem Zob{t:TypeId}{x i:AV}{k:AV->Prop}(h:Zri P t x i k):∃r,Z45 P t x i=some r/\k r:=by
 unfold Zri at h
 unfold Z45
 split at h
 · split at h
   · rename_i e
     obtain⟨z',hz,h1⟩:=Z04 h
     clear h
     simp only[e,hz]
     split at h1
     · obtain⟨j,⟨ej,hb⟩,h2⟩:=h1
       subst ej
       simp only
       rw[if_pos (by omega),Y0e]
       split at h2
       ·rename_i hq;rw[if_pos hq];exact⟨_,rfl,h2⟩
       ·exact h2.elim
     · obtain⟨j,⟨ej,hb⟩,h2⟩:=h1
       subst ej
       simp only
       rw[if_pos (by omega),Y0e]
       split at h2
       ·rename_i hq;rw[if_pos hq];exact⟨_,rfl,h2⟩
       ·exact h2.elim
     ·exact h1.elim
   · rename_i e
     obtain⟨z',hz,h1⟩:=Z04 h
     clear h
     simp only[e,hz]
     obtain⟨j,⟨ej,hb⟩,h2⟩:=h1
     subst ej
     rw[if_pos (by omega),Y0e]
     split at h2
     ·exact⟨_,rfl,h2⟩
     ·exact⟨_,rfl,h2⟩
     ·exact h2.elim
   ·exact h.elim
 ·exact h.elim
def ixW(t:TypeId)(x i:AV)(k:AV->Prop):Prop :=
 match i with
 | .int _ i=>match x with
  | .str s=>match P.underlying t with
   |some .string=>∃j:Nat,i=(j:Int)/\∃b,s[j]? = some b/\k (.int .u8 b.toNat)
   |_=>False
  | .agg cs=>match P.underlying t with
   |some (.array n e)=>onO (tsz P e) λz=>(0<=i/\i<(n:Int))/\∃r,Z6U P e cs (i.toNat*z)=some r/\k r
   |_=>False
  |_=>False
 |_=>False
theorem Zqc{t:TypeId}{x i:AV}{k:AV->Prop}(h:ixW P t x i k):∃r,ZdJ P t x i=some r/\k r:=by
 unfold ixW at h
 unfold ZdJ
 split at h
 · split at h
   · split at h
     · rename_i e
       obtain⟨j,rfl,b,h2,h3⟩:=h
       simp only[e]
       rw[if_pos (by omega),Y0e,h2];exact⟨_,rfl,h3⟩
     ·exact h.elim
   · split at h
     · rename_i e
       obtain⟨z,hz,hb,r,h1,h2⟩:=Z04 h
       simp only[e,hz]
       rw[if_pos hb];exact⟨r,h1,h2⟩
     ·exact h.elim
   ·exact h.elim
 ·exact h.elim
def ZhJ(x:Option AV)(dflt top:Nat)(k:Nat->Prop):Prop :=
 match x with
 |none=>k dflt
 |some (.int _ i)=>∃j:Nat,(i=(j:Int)/\j<=top)/\k j
 |_=>False
theorem Z3M{x:Option AV}{d top:Nat}{k:Nat->Prop}(h:ZhJ x d top k):∃n,bnd x d top=some n/\k n:=by
 unfold ZhJ at h
 unfold bnd
 split at h
 ·exact⟨_,rfl,h⟩
 · obtain⟨j,⟨rfl,hb⟩,h⟩:=h
   simp only;rw[if_pos (by omega),Y0e];exact⟨_,rfl,h⟩
 ·exact h.elim
def Zie(t:TypeId)(x:AV)(lo hi:Option AV)(k:AV->Prop):Prop :=
 match x with
 | .str s=>match P.underlying t with
  |some .string=>match lo,hi with
   |none,none=>k (.str s)
   |some lo,none=>ZhJ (some lo) 0 s.length λl=>k (.str (s.drop l))
   |none,some hi=>ZhJ (some hi) s.length s.length λh=>k (.str (s.take h))
   |some lo,some hi=>ZhJ (some hi) s.length s.length λh=>ZhJ (some lo) 0 h λl=>k (.str ((s.drop l).take (h-l)))
  |_=>False
 | .slice b off len cap z=>match P.underlying t with
  |some (.slice e)=>onO (tsz P e) λz'=>if z'=z then ZhJ hi len cap λh=>ZhJ lo 0 h λl=>k (.slice b (off+l*z) (h-l) (cap-l) z) else False
  |_=>False
 | .rs n z cs=>match P.underlying t with
  |some (.slice e)=>onO (tsz P e) λz'=>if z'=z then ZhJ hi n n λh=>ZhJ lo 0 h λl=>k (.rs (h-l) z ((cs.drop (l*z)).take ((h-l)*z))) else False
  |_=>False
 | .nslice=>match P.underlying t with
  |some (.slice e)=>onO (tsz P e) λ_=>ZhJ hi 0 0 λh=>ZhJ lo 0 h λl=>k .nslice
  |_=>False
 |_=>False
theorem Zid{t:TypeId}{x:AV}{lo hi:Option AV}{k:AV->Prop}(h:Zie P t x lo hi k):∃r,ZdH P t x lo hi=some r/\k r:=by
 unfold Zie at h
 unfold ZdH
 split at h
 · split at h
   · rename_i e
     split at h
     ·simp only[e,bnd];exact⟨_,rfl,by simpa using h⟩
     · obtain⟨b,h2,h⟩:=Z3M h
       simp only[e]
       rw[show bnd none _ _=some _ from rfl]
       simp only[h2]
       exact⟨_,rfl,by rw[List.take_of_length_le (by simp)];exact h⟩
     · obtain⟨b,h2,h⟩:=Z3M h
       simp only[e,h2]
       rw[show bnd none 0 b=some 0 from rfl]
       exact⟨_,rfl,by simpa using h⟩
     · obtain⟨a,h1,h⟩:=Z3M h
       obtain⟨b,h2,h⟩:=Z3M h
       simp only[e,h1,h2];exact⟨_,rfl,h⟩
   ·exact h.elim
 · split at h
   · rename_i e
     obtain⟨z',hz,h⟩:=Z04 h
     split at h
     · rename_i ez
       obtain⟨a,h1,h⟩:=Z3M h
       obtain⟨b,h2,h⟩:=Z3M h
       simp only[e,hz];rw[if_pos ez];simp only[h1,h2];exact⟨_,rfl,h⟩
     ·exact h.elim
   ·exact h.elim
 · split at h
   · rename_i e
     obtain⟨z',hz,h⟩:=Z04 h
     split at h
     · rename_i ez
       obtain⟨a,h1,h⟩:=Z3M h
       obtain⟨b,h2,h⟩:=Z3M h
       simp only[e,hz];rw[if_pos ez];simp only[h1,h2];exact⟨_,rfl,h⟩
     ·exact h.elim
   ·exact h.elim
 · split at h
   · rename_i e
     obtain⟨z',hz,h⟩:=Z04 h
     obtain⟨a,h1,h⟩:=Z3M h
     obtain⟨b,h2,h⟩:=Z3M h
     simp only[e,hz,h1,h2];exact⟨_,rfl,h⟩
   ·exact h.elim
 ·exact h.elim
def Z8f(ρ : Operand->Option AV)(H:Z00)(o:Oper)(k:AV->Prop):Prop :=
 match o.op with
 | .move x=>onO (ρ x) λv=>Zjy v k
 | .assign x=>onO (ρ x) λv=>Zjy v k
 | .pick c a b=>onO (ρ c) λc=>match c with
  | .bool c=>(c=true->onO (ρ a) λv=>Zjy v k)/\(c=false->onO (ρ b) λv=>Zjy v k)
  |_=>False
 | .load t a=>onO (ρ a) λa=>Zo5 P t a H k
 | .binOp op t x y _=>onO (ρ x) λu=>onO (ρ y) λv=>ZrD P op t (isC x || isC y) u v k
 | .indexAddr t x i=>onO (ρ x) λu=>onO (ρ i) λv=>Zri P t u v k
 | .index t x i=>onO (ρ x) λu=>onO (ρ i) λv=>ixW P t u v k
 | .slice t x lo hi none=>onO (ρ x) λu=>onO (ZkU ρ lo) λlo=>onO (ZkU ρ hi) λhi=>Zie P t u lo hi k
 | .lookup t m key ok=>onO (ρ m) λm=>onO (ρ key) λkey=>∃r,Z2T P t m key ok H=some r/\k r
 | .convert s d _=>match ZdL P s d with
  |true=>∃r,Z0K P ρ H o=some r/\k r
  |false=>onO (Z0K P ρ H o) λr=>Zjy r k
 |_=>onO (Z0K P ρ H o) λr=>Zjy r k
theorem Z4g{ρ : Operand->Option AV}{H:Z00}{o:Oper}{k:AV->Prop}(h:Z8f P ρ H o k):∃r,Z0K P ρ H o=some r/\k r:=by
 unfold Z8f at h
 unfold Z0K Z4n
 split at h
 ·rename_i e;obtain⟨v,h1,h⟩:=Z04 h;rw[Z3I]at h;exact⟨v,by simp only[e];exact h1,h⟩
 ·rename_i e;obtain⟨v,h1,h⟩:=Z04 h;rw[Z3I]at h;exact⟨v,by simp only[e];exact h1,h⟩
 · rename_i e;obtain⟨c,h1,h⟩:=Z04 h
   split at h
   · rename_i c b'
     cases b' with
     |true=>obtain⟨v,h2,h⟩:=Z04 (h.1 rfl);rw[Z3I]at h;exact⟨v,by simp only[e,h1];exact h2,h⟩
     |false=>obtain⟨v,h2,h⟩:=Z04 (h.2 rfl);rw[Z3I]at h;exact⟨v,by simp only[e,h1];exact h2,h⟩
   ·exact h.elim
 ·rename_i e;obtain⟨v,h1,h⟩:=Z04 h;obtain⟨r,h2,h⟩:=ZlK P h;exact⟨r,by simp only[e,h1];exact h2,h⟩
 ·rename_i e;obtain⟨u,h1,h⟩:=Z04 h;obtain⟨v,h2,h⟩:=Z04 h;obtain⟨r,h3,h⟩:=Zp4 P h;exact⟨r,by simp only[e,h1,h2];exact h3,h⟩
 ·rename_i e;obtain⟨u,h1,h⟩:=Z04 h;obtain⟨v,h2,h⟩:=Z04 h;obtain⟨r,h3,h⟩:=Zob P h;exact⟨r,by simp only[e,h1,h2];exact h3,h⟩
 ·rename_i e;obtain⟨u,h1,h⟩:=Z04 h;obtain⟨v,h2,h⟩:=Z04 h;obtain⟨r,h3,h⟩:=Zqc P h;exact⟨r,by simp only[e,h1,h2];exact h3,h⟩
 ·rename_i e;obtain⟨u,h1,h⟩:=Z04 h;obtain⟨v,h2,h⟩:=Z04 h;obtain⟨x,h3,h⟩:=Z04 h;obtain⟨r,h4,h⟩:=Zid P h;exact⟨r,by simp only[e,h1,h2,h3];exact h4,h⟩
 ·rename_i e;obtain⟨u,h1,h⟩:=Z04 h;obtain⟨v,h2,h⟩:=Z04 h;obtain⟨r,h3,h⟩:=h;exact⟨r,by simp only[e,h1,h2];exact h3,h⟩
 · rename_i e
   split at h
   · obtain⟨r,h1,h⟩:=h
     exact⟨r,by simpa only[Z0K,Z4n]using h1,h⟩
   · obtain⟨r,h1,h⟩:=Z04 h
     rw[Z3I]at h
     exact⟨r,by simpa only[Z0K,Z4n]using h1,h⟩
 · obtain⟨r,h1,h⟩:=Z04 h
   rw[Z3I]at h
   exact⟨r,by simpa only[Z0K,Z4n]using h1,h⟩
noncomputable def Z7t(n:Nat)(k:Nat->Prop):Prop :=
 Nat.rec (motive:=λ_=>Prop) (k 0) (λm0 _=>Nat.rec (motive:=λ_=>Prop) (k 1) (λm1 _=>Nat.rec (motive:=λ_=>Prop) (k 2) (λm2 _=>Nat.rec (motive:=λ_=>Prop) (k 3) (λm3 _=>Nat.rec (motive:=λ_=>Prop) (k 4) (λm4 _=>Nat.rec (motive:=λ_=>Prop) (k 5) (λm5 _=>Nat.rec (motive:=λ_=>Prop) (k 6) (λm6 _=>Nat.rec (motive:=λ_=>Prop) (k 7) (λm7 _=>Nat.rec (motive:=λ_=>Prop) (k 8) (λm8 _=>Nat.rec (motive:=λ_=>Prop) (k 9) (λm9 _=>Nat.rec (motive:=λ_=>Prop) (k 10) (λm10 _=>Nat.rec (motive:=λ_=>Prop) (k 11) (λm11 _=>Nat.rec (motive:=λ_=>Prop) (k 12) (λm12 _=>Nat.rec (motive:=λ_=>Prop) (k 13) (λm13 _=>Nat.rec (motive:=λ_=>Prop) (k 14) (λm14 _=>Nat.rec (motive:=λ_=>Prop) (k 15) (λm15 _=>Nat.rec (motive:=λ_=>Prop) (k 16) (λm16 _=>Nat.rec (motive:=λ_=>Prop) (k 17) (λm17 _=>Nat.rec (motive:=λ_=>Prop) (k 18) (λm18 _=>Nat.rec (motive:=λ_=>Prop) (k 19) (λm19 _=>Nat.rec (motive:=λ_=>Prop) (k 20) (λm20 _=>Nat.rec (motive:=λ_=>Prop) (k 21) (λm21 _=>Nat.rec (motive:=λ_=>Prop) (k 22) (λm22 _=>Nat.rec (motive:=λ_=>Prop) (k 23) (λm23 _=>Nat.rec (motive:=λ_=>Prop) (k 24) (λm24 _=>Nat.rec (motive:=λ_=>Prop) (k 25) (λm25 _=>Nat.rec (motive:=λ_=>Prop) (k 26) (λm26 _=>Nat.rec (motive:=λ_=>Prop) (k 27) (λm27 _=>Nat.rec (motive:=λ_=>Prop) (k 28) (λm28 _=>Nat.rec (motive:=λ_=>Prop) (k 29) (λm29 _=>Nat.rec (motive:=λ_=>Prop) (k 30) (λm30 _=>Nat.rec (motive:=λ_=>Prop) (k 31) (λm31 _=>Nat.rec (motive:=λ_=>Prop) (k 32) (λm32 _=>Nat.rec (motive:=λ_=>Prop) (k 33) (λm33 _=>Nat.rec (motive:=λ_=>Prop) (k 34) (λm34 _=>Nat.rec (motive:=λ_=>Prop) (k 35) (λm35 _=>Nat.rec (motive:=λ_=>Prop) (k 36) (λm36 _=>Nat.rec (motive:=λ_=>Prop) (k 37) (λm37 _=>Nat.rec (motive:=λ_=>Prop) (k 38) (λm38 _=>Nat.rec (motive:=λ_=>Prop) (k 39) (λm39 _=>Nat.rec (motive:=λ_=>Prop) (k 40) (λm40 _=>Nat.rec (motive:=λ_=>Prop) (k 41) (λm41 _=>Nat.rec (motive:=λ_=>Prop) (k 42) (λm42 _=>Nat.rec (motive:=λ_=>Prop) (k 43) (λm43 _=>Nat.rec (motive:=λ_=>Prop) (k 44) (λm44 _=>Nat.rec (motive:=λ_=>Prop) (k 45) (λm45 _=>Nat.rec (motive:=λ_=>Prop) (k 46) (λm46 _=>Nat.rec (motive:=λ_=>Prop) (k 47) (λm47 _=>k (m47+48)) m46) m45) m44) m43) m42) m41) m40) m39) m38) m37) m36) m35) m34) m33) m32) m31) m30) m29) m28) m27) m26) m25) m24) m23) m22) m21) m20) m19) m18) m17) m16) m15) m14) m13) m12) m11) m10) m9) m8) m7) m6) m5) m4) m3) m2) m1) m0) n
theorem Z6K(n:Nat)(k:Nat->Prop):Z7t n k=k n:=match n with
 |0=>rfl
 |1=>rfl
 |2=>rfl
 |3=>rfl
 |4=>rfl
 |5=>rfl
 |6=>rfl
 |7=>rfl
 |8=>rfl
 |9=>rfl
 |10=>rfl
 |11=>rfl
 |12=>rfl
 |13=>rfl
 |14=>rfl
 |15=>rfl
 |16=>rfl
 |17=>rfl
 |18=>rfl
 |19=>rfl
 |20=>rfl
 |21=>rfl
 |22=>rfl
 |23=>rfl
 |24=>rfl
 |25=>rfl
 |26=>rfl
 |27=>rfl
 |28=>rfl
 |29=>rfl
 |30=>rfl
 |31=>rfl
 |32=>rfl
 |33=>rfl
 |34=>rfl
 |35=>rfl
 |36=>rfl
 |37=>rfl
 |38=>rfl
 |39=>rfl
 |40=>rfl
 |41=>rfl
 |42=>rfl
 |43=>rfl
 |44=>rfl
 |45=>rfl
 |46=>rfl
 |47=>rfl
 |n+48=>rfl
noncomputable def Z9t(v:AV)(k:AV->Prop):Prop :=
 match v with
 | .ptr b off=>Z7t b λb=>k (.ptr b off)
 | .slice b off len cap z=>Z7t b λb=>Z7t z λz=>k (.slice b off len cap z)
 | .map b=>Z7t b λb=>k (.map b)
 |v=>Zjy v k
theorem Z3b(v:AV)(k:AV->Prop):Z9t v k=k v:=by
 unfold Z9t
 split<;>simp only[Z6K,Z3I]
noncomputable def Z1M:Z00->(Z00->Prop)->Prop
 |[],k=>k []
 |⟨al,fam,sh,.cells cs t⟩::l,k=>Zjx al λal=>Z7t fam λfam=>Z7t sh λsh=>Z1M l λl=>k (⟨al,fam,sh,.cells cs t⟩::l)
 |⟨al,fam,sh,.map es c⟩::l,k=>Zjx al λal=>Z7t fam λfam=>Z7t sh λsh=>Z1M l λl=>k (⟨al,fam,sh,.map es c⟩::l)
 |⟨al,fam,sh,.siter a b⟩::l,k=>Zjx al λal=>Z7t fam λfam=>Z7t sh λsh=>Z1M l λl=>k (⟨al,fam,sh,.siter a b⟩::l)
 |⟨al,fam,sh,.loop g ts⟩::l,k=>Zjx al λal=>Z7t fam λfam=>Z7t sh λsh=>Z1M l λl=>k (⟨al,fam,sh,.loop g ts⟩::l)
theorem Z0u:∀(H:Z00)(k:Z00->Prop),Z1M H k=k H
 |[],k=>rfl
 |⟨al,fam,sh,.cells cs t⟩::l,k=>by simp only[Z1M,Z8G,Z6K,Z0u l]
 |⟨al,fam,sh,.map es c⟩::l,k=>by simp only[Z1M,Z8G,Z6K,Z0u l]
 |⟨al,fam,sh,.siter a b⟩::l,k=>by simp only[Z1M,Z8G,Z6K,Z0u l]
 |⟨al,fam,sh,.loop g ts⟩::l,k=>by simp only[Z1M,Z8G,Z6K,Z0u l]
noncomputable def wrW(H:Z00)(a:AV)(vs:List AV)(k:Z00->Prop):Prop :=
 match a with
 | .ptr b off=>onO H[b]? λo=>match o.alive,o.body with
  |true,.cells cs ty=>if vs.all one then ∃cs',spl cs off vs=some cs'/\Z1M ((Zb0 b o.fam H).set b { o with body:=.cells cs' ty }) k else False
  |_,_=>False
 |_=>False
theorem ZpC{H:Z00}{a:AV}{vs:List AV}{k:Z00->Prop}(h:wrW H a vs k):∃H',wr H a vs=some H'/\k H':=by
 unfold wrW at h
 unfold wr
 split at h
 · obtain⟨o,ho,h⟩:=Z04 h
   simp only[ho]
   split at h
   · rename_i e1 e2
     split at h
     · rename_i e3
       obtain⟨cs',h1,h⟩:=h
       rw[Z0u]at h
       simp only[e1]at h
       simp only[e1,e2];rw[if_pos e3,h1];exact⟨_,rfl,h⟩
     ·exact h.elim
   ·exact h.elim
 ·exact h.elim
def Zr6(t:TypeId)(a v:AV)(H:Z00)(k:Z00->Prop):Prop :=
 onO (tsz P t) λn=>if v.cells.length=n then wrW H a v.cells k else False
theorem ZnC{t:TypeId}{a v:AV}{H:Z00}{k:Z00->Prop}(h:Zr6 P t a v H k):∃H',ZdF P t a v H=some H'/\k H':=by
 unfold Zr6 at h
 unfold ZdF
 obtain⟨n,hn,h⟩:=Z04 h
 simp only[hn]
 split at h
 ·rename_i e;rw[if_pos e];exact ZpC h
 ·exact h.elim
def Zj5(o:Oper):Bool :=
 match o.op with
 | .move _=>true | .assign _=>true | .pick ..=>true | .build ..=>true | .nilCheck _=>true | .binOp ..=>true | .unOp ..=>true
 | .makeInterface ..=>true | .makeFunc ..=>true | .slice ..=>true | .fieldAddr ..=>true | .field ..=>true | .indexAddr ..=>true | .index ..=>true | .extract ..=>true
 | .load ..=>true | .lookup ..=>true
 | .call c=>match c.callee with | .builtin .len=>true | .builtin .max=>true | .builtin .min=>true|_=>false
 |_=>false
abbrev CW:=Nat->List AV->Z00->(AV->Z00->Prop)->Prop
def Z5O(P:Program)(orc:Orc)(cw:CW):Prop:=∀g args H k,cw g args H k->∃r H',Z06 P orc H g args=some (r,H')/\k r H'
noncomputable def cw0(orc:Orc):CW:=λg args H k=>∃y,Z06 P orc H g args=some y/\Z9t y.1 λr=>Z1M y.2 λH'=>k r H'
theorem Z83(orc:Orc):Z5O P orc (cw0 P orc):=λg args H k ⟨y,h1,h2⟩=>⟨y.1,y.2,h1,by rw[Z3b,Z0u]at h2;exact h2⟩
def Zsg(o:Oper):Bool:=match o.op with
 | .slice t _ _ _ _=>match P.underlying t with|some (.array _ _)=>true|_=>false
 |_=>false
def opW(orc:Orc)(cw:CW)(ρ : Operand->Option AV)(o:Oper)(H:Z00)(k:AV->Z00->Prop):Prop :=
 match Zj5 o with
 |true=>match Zsg P o with
  |true=>∃x,aop P orc ρ o H=some x/\Z9t x.1 λr=>Z1M x.2 λH'=>k r H'
  |false=>Z8f P ρ H o λr=>k r H
 |false=>match o.op with
  | .convert s d _=>match ZdL P s d with
   |true=>∃x,aop P orc ρ o H=some x/\Z9t x.1 λr=>Z1M x.2 λH'=>k r H'
   |false=>match Z0K P ρ H o with
    |some r=>Zjy r λr=>k r H
    |none=>∃x,aop P orc ρ o H=some x/\Z9t x.1 λr=>Z1M x.2 λH'=>k r H'
  | .store t a x=>onO (ρ a) λa=>onO (ρ x) λx=>Zr6 P t a x H λH'=>k (.tuple []) H'
  | .alloc _=>onO (ZdX P ρ H o) λx=>Z9t x.1 λr=>Z1M x.2 λH'=>k r H'
  | .box ..=>onO (ZdX P ρ H o) λx=>Z9t x.1 λr=>Z1M x.2 λH'=>k r H'
  | .buildSlice ..=>onO (ZdX P ρ H o) λx=>Z9t x.1 λr=>Z1M x.2 λH'=>k r H'
  | .makeMap ..=>onO (ZdX P ρ H o) λx=>Z9t x.1 λr=>Z1M x.2 λH'=>k r H'
  | .mapUpdate t m i v=>onO (ρ m) λm=>onO (ρ i) λi=>onO (ρ v) λv=>∃x,Z7I P t m i v H=some x/\Z1M x λH'=>k (.tuple []) H'
  | .insert t m i v=>onO (ρ m) λm=>onO (ρ i) λi=>onO (ρ v) λv=>∃x,Z7I P t m i v H=some x/\Z1M x λH'=>k (.tuple []) H'
  | .makeSlice t l c=>onO (ρ l) λl=>onO (ρ c) λc=>∃x,Z32 P t l c H=some x/\Z9t x.1 λr=>Z1M x.2 λH'=>k r H'
  | .call c=>match c.callee with
   | .builtin .append=>match c.args.toList,c.argTypes.toList with
    |[s,x],[t,t2]=>onO (ρ s) λs=>onO (ρ x) λx=>∃y,Z2m P t t2 s x H=some y/\Z9t y.1 λr=>Z1M y.2 λH'=>k r H'
    |_,_=>False
   | .value _=>onO (callee ρ c) λ(g,args)=>cw g args H k
   |_=>∃x,aop P orc ρ o H=some x/\Z9t x.1 λr=>Z1M x.2 λH'=>k r H'
  |_=>∃x,aop P orc ρ o H=some x/\Z9t x.1 λr=>Z1M x.2 λH'=>k r H'
theorem Zbz{ρ : Operand->Option AV}{o:Oper}(h:Zj5 o=true)(c:Call)(e:o.op = .call c):callee ρ c=none:=by
 unfold Zj5 at h
 simp only[e]at h
 unfold callee
 split
 ·rename_i f hf;simp[hf]at h
 ·rfl
theorem Zkq{orc:Orc}{ρ : Operand->Option AV}{o:Oper}{H:Z00}(h:∀c,o.op = .call c->callee ρ c=none):aop P orc ρ o H=(match Z0K P ρ H o with|some r=>some (r,H)|none=>ZdX P ρ H o):=by
 unfold aop
 split
 · rename_i g args hx
   split at hx
   ·rename_i c ho;rw[h c ho]at hx;cases hx
   ·cases hx
 ·rfl
theorem ZfL{orc:Orc}{cw:CW}(hcw:Z5O P orc cw){ρ : Operand->Option AV}{o:Oper}{H:Z00}{k:AV->Z00->Prop}(h:opW P orc cw ρ o H k):∃r H',aop P orc ρ o H=some (r,H')/\k r H':=by
 have gen:(∃x,aop P orc ρ o H=some x/\Z9t x.1 λr=>Z1M x.2 λH'=>k r H')->∃r H',aop P orc ρ o H=some (r,H')/\k r H':=λ⟨x,h1,h2⟩=>⟨x.1,x.2,h1,by rw[Z3b,Z0u]at h2;exact h2⟩
 have eff:∀{x:AV×Z00},(∀c,o.op = .call c->callee ρ c=none)->Z0K P ρ H o=none->ZdX P ρ H o=some x->k x.1 x.2->∃r H',aop P orc ρ o H=some (r,H')/\k r H' :=
  λ{x} h1 h2 h3 h4=>⟨x.1,x.2,by rw[Zkq P h1,h2];exact h3,h4⟩
 unfold opW at h
 split at h
 · rename_i hp
   split at h
   ·exact gen h
   · obtain⟨r,h1,h⟩:=Z4g P h
     exact⟨r,H,by rw[Zkq P (Zbz hp),h1],h⟩
 · split at h
   · rename_i e
     split at h
     ·exact gen h
     · split at h
       · rename_i r hr
         rw[Z3I]at h
         exact⟨r,H,by rw[Zkq P (by simp[e]),hr],h⟩
       ·exact gen h
   · rename_i t a x e
     obtain⟨a',h1,h⟩:=Z04 h
     obtain⟨x',h2,h⟩:=Z04 h
     obtain⟨H',h3,h⟩:=ZnC P h
     exact eff (x:=(.tuple [],H')) (by simp[e]) (by simp only[Z0K,Z4n,e]) (by simp only[ZdX,e,h1,h2,h3]) h
   · rename_i e
     obtain⟨x,h1,h⟩:=Z04 h
     rw[Z3b,Z0u]at h
     exact eff (by simp[e]) (by simp only[Z0K,Z4n,e]) h1 h
   · rename_i e
     obtain⟨x,h1,h⟩:=Z04 h
     rw[Z3b,Z0u]at h
     exact eff (by simp[e]) (by simp only[Z0K,Z4n,e]) h1 h
   · rename_i e
     obtain⟨x,h1,h⟩:=Z04 h
     rw[Z3b,Z0u]at h
     exact eff (by simp[e]) (by simp only[Z0K,Z4n,e]) h1 h
   · rename_i e
     obtain⟨x,h1,h⟩:=Z04 h
     rw[Z3b,Z0u]at h
     exact eff (by simp[e]) (by simp only[Z0K,Z4n,e]) h1 h
   · rename_i t m i v e
     obtain⟨m',h1,h⟩:=Z04 h
     obtain⟨i',h2,h⟩:=Z04 h
     obtain⟨v',h3,h⟩:=Z04 h
     obtain⟨x,h4,h⟩:=h
     rw[Z0u]at h
     exact eff (x:=(.tuple [],x)) (by simp[e]) (by simp only[Z0K,Z4n,e]) (by simp only[ZdX,e,h1,h2,h3,h4]) h
   · rename_i t m i v e
     obtain⟨m',h1,h⟩:=Z04 h
     obtain⟨i',h2,h⟩:=Z04 h
     obtain⟨v',h3,h⟩:=Z04 h
     obtain⟨x,h4,h⟩:=h
     rw[Z0u]at h
     exact eff (x:=(.tuple [],x)) (by simp[e]) (by simp only[Z0K,Z4n,e]) (by simp only[ZdX,e,h1,h2,h3,h4]) h
   · rename_i t l c e
     obtain⟨l',h1,h⟩:=Z04 h
     obtain⟨c',h2,h⟩:=Z04 h
     obtain⟨x,h3,h⟩:=h
     rw[Z3b,Z0u]at h
     exact eff (by simp[e]) (by simp only[Z0K,Z4n,e]) (by simp only[ZdX,e,h1,h2];exact h3) h
   · rename_i c e
     split at h
     · rename_i hc
       split at h
       · rename_i s x t t2 ha ht
         obtain⟨s',h1,h⟩:=Z04 h
         obtain⟨x',h2,h⟩:=Z04 h
         obtain⟨y,h3,h⟩:=h
         rw[Z3b,Z0u]at h
         exact eff (λc' e'=>by rw[e]at e';cases e';simp[callee,hc]) (by simp only[Z0K,Z4n,e,hc]) (by simp only[ZdX,e,hc,ha,ht,h1,h2];exact h3) h
       ·exact h.elim
     · rename_i f hc
       obtain⟨⟨g,args⟩,h1,h⟩:=Z04 h
       obtain⟨r,H',h2,h⟩:=hcw _ _ _ _ h
       exact⟨r,H',by unfold aop;simp only[e,h1];exact h2,h⟩
     ·exact gen h
   ·exact gen h
end W
end Go.Abs
end
section
namespace Go.Abs
open Go.RowKit
section reg
variable (P:Program) (gl:Z0k) (orc:Orc) (cw:CW)
def Ze1(ops:List Oper)(o:Oper)(tm:Tr)(A B:Prop):Prop :=
 match o.guard with
 |none=>A
 |some (j,want)=>onO ops[j]? λg=>onO g.dst λd=>onO (Z1p tm d) λv=>match v with
  | .bool b=>match want with
   |true=>(b=true->A)/\(b=false->B)
   |false=>(b=true->B)/\(b=false->A)
  |_=>B
theorem Zff{ops:List Oper}{o:Oper}{tm:Tr}{A B:Prop}(h:Ze1 ops o tm A B):(Z7C ops o tm=some true/\A)\/(Z7C ops o tm=some false/\B):=by
 unfold Ze1 at h
 unfold Z7C
 split at h
 ·rename_i e;exact .inl ⟨by simp only[e],h⟩
 · rename_i j want e
   obtain⟨g,h1,h⟩:=Z04 h
   obtain⟨d,h2,h⟩:=Z04 h
   obtain⟨v,h3,h⟩:=Z04 h
   split at h
   · rename_i b
     simp only[e,h1,h2,h3]
     cases b<;>cases want
     ·exact .inl ⟨rfl,h.2 rfl⟩
     ·exact .inr ⟨rfl,h.2 rfl⟩
     ·exact .inr ⟨rfl,h.1 rfl⟩
     ·exact .inl ⟨rfl,h.1 rfl⟩
   · rename_i hne
     refine .inr ⟨?_,h⟩
     simp only[e,h1,h2,h3]
noncomputable def ZfA(ops:List Oper)(l:List Oper):Tr->Z00->(Tr->Z00->Prop)->Prop :=
 List.rec (motive:=λ_=>Tr->Z00->(Tr->Z00->Prop)->Prop) (λtm H k=>k tm H)
  (λo _ ih tm H k=>Ze1 ops o tm (opW P orc cw (Z3f gl tm) o H λr H'=>onO (Z4O o.dst r tm) λtm'=>ih tm' H' k) (onO (Z4O o.dst (.tuple []) tm) λtm'=>ih tm' H k)) l
theorem Zin(ops:List Oper)(o:Oper)(l:List Oper)(tm:Tr)(H:Z00)(k:Tr->Z00->Prop) :
 ZfA P gl orc cw ops (o::l) tm H k=Ze1 ops o tm (opW P orc cw (Z3f gl tm) o H λr H'=>onO (Z4O o.dst r tm) λtm'=>ZfA P gl orc cw ops l tm' H' k) (onO (Z4O o.dst (.tuple []) tm) λtm'=>ZfA P gl orc cw ops l tm' H k):=rfl
theorem Z4K(hcw:Z5O P orc cw){ops:List Oper}:∀{l:List Oper}{tm:Tr}{H:Z00}{k:Tr->Z00->Prop},ZfA P gl orc cw ops l tm H k->∃tm' H',Zgz P gl orc ops l tm H=some (tm',H')/\k tm' H'
 |[],tm,H,k,h=>⟨tm,H,rfl,h⟩
 |o::l,tm,H,k,h=>by
  rw[Zin]at h
  rcases Zff h with ⟨h1,h⟩|⟨h1,h⟩
  · obtain⟨r,H',h2,h⟩:=ZfL P hcw h
    obtain⟨tm',h3,h⟩:=Z04 h
    obtain⟨tm2,H2,h4,h⟩:=Z4K hcw h
    exact⟨tm2,H2,by simp only[Zgz,h1,h2,Z3c,h3];exact h4,h⟩
  · obtain⟨tm',h3,h⟩:=Z04 h
    obtain⟨tm2,H2,h4,h⟩:=Z4K hcw h
    exact⟨tm2,H2,by simp only[Zgz,h1,h3];exact h4,h⟩
def Zac(ops:List Oper)(env:List (Nat×AV))(o:Oper)(A B:Prop):Prop :=
 match o.guard with
 |none=>A
 |some (j,want)=>match ops[j]? with
  |some g=>match g.dst with
   |some d=>match Z21 d env with
    |some (.bool b)=>match want with
     |true=>(b=true->A)/\(b=false->B)
     |false=>(b=true->B)/\(b=false->A)
    |_=>B
   |none=>B
  |none=>B
theorem Z6c{ops:List Oper}{env:List (Nat×AV)}{o:Oper}{A B:Prop}(h:Zac ops env o A B):(Z0x ops env o=true/\A)\/(Z0x ops env o=false/\B):=by
 unfold Zac at h
 unfold Z0x
 split at h
 ·rename_i e;exact .inl ⟨by simp only[e],h⟩
 · rename_i j want e
   split at h
   · rename_i g e1
     split at h
     · rename_i d e2
       split at h
       · rename_i b e3
         simp only[e,e1,e2,e3]
         cases b<;>cases want
         ·exact .inl ⟨rfl,h.2 rfl⟩
         ·exact .inr ⟨rfl,h.2 rfl⟩
         ·exact .inr ⟨rfl,h.1 rfl⟩
         ·exact .inl ⟨rfl,h.1 rfl⟩
       · rename_i hne
         refine .inr ⟨?_,h⟩
         simp only[e,e1,e2]
     ·rename_i e2;exact .inr ⟨by simp only[e,e1,e2],h⟩
   ·rename_i e1;exact .inr ⟨by simp only[e,e1],h⟩
def Zpz(tm:Tr):List Nat->Option (List (Nat×AV))
 |[]=>some []
 |t::ts=>match Z1p tm t,Zpz tm ts with|some v,some e=>some ((t,v)::e)|_,_=>none
theorem ZjP{tm tmc:Tr}{vals:List (Option AV)}{ops:List Oper}{D:Nat->Bool}:∀{ts:List Nat},(∀t∈ts,Z1S vals D t ops 0 (Z1p tm t)=Z1p tmc t)->Z3K tm vals ops D ts=Zpz tmc ts
 |[],h=>rfl
 |t::ts,h=>by
  have ih:Z3K tm vals ops D ts=Zpz tmc ts:=ZjP λs hs=>h s (by simp[hs])
  simp only[Z3K,Zpz,h t (by simp),ih]
  rfl
theorem ZoH {ops : List Oper} {an : List Nat} {tm tmc : Tr} {i : Nat} {o : Oper} {vals : List (Option AV)} {done : Nat} (htm : Z1J ops an i o = true) (hV : VInv ops an tm vals done tmc) (hi : bit done i = false) (han : ∀ k, bit (an.getD i 0) k = true -> bit done k = true) :
  Z3K tm vals ops (bit (an.getD i 0)) (looks ops o)=Zpz tmc (looks ops o):=by
 simp only[Z1J,Y01]at htm
 refine ZjP λt ht=>?_
 have hw:=Y0g.1 htm.1 t ht
 rw[Z2v (D':=bit done) ops 0 _ (λk x hx hd=>?_),hV.cur t]
 simp only[Y02]
 cases hq:bit done k with
 |true =>
  rcases Z1U ops 0 k x hw hx hd with h1|h1|h1
  ·rw[Y02]at h1;subst h1;rw[hi]at hq;cases hq
  ·rwa [Y02]at h1
  · rw[Y02]at h1
    have:=hV.cls k i hq h1
    rw[hi]at this;cases this
 |false =>
  cases hp:bit (an.getD i 0) k with
  |false=>rfl
  |true=>rw[han k hp]at hq;cases hq
abbrev Zfc:=Nat×Oper×List (Nat×AV)×AV
abbrev StK:=Tr->Nat->Z00->List Nat->Z00->List (Nat×Z00×List Nat)->List Zfc->Prop
def Zgj(ops:List Oper)(an:List Nat)(i:Nat)(tmc:Tr)(done:Nat)(base:Z00)(new:List Nat)(heap:Z00)(sts:List (Nat×Z00×List Nat))(recs:List Zfc)(k:StK):Prop :=
 onO ops[i]? λo=>onO (Zpz tmc (looks ops o)) λenv =>
  match !(bit done i)&&Y00 (Nat.land (an.getD i 0) done) (an.getD i 0) with
  |false=>False
  |true=>Za3 (Nat.lor done (2 ^ i)) λdone' =>
   match kind o with
   |2=>Zac ops env o
    (onO (Z4o P (Z27 gl env) o) fun x => if Z11 heap.length (Z3V x.2 []) then Z9t (x.1 heap.length) fun r => Z1M (heap ++ [⟨true, heap.length, 0, x.2⟩]) fun H' =>
      onO (Z4O o.dst r tmc) λtmc=>k tmc done' base (new++[i]) H' sts recs else False)
    (onO (Z4O o.dst (.tuple []) tmc) λtmc=>k tmc done' base new heap sts recs)
   | 3 => if ZaP (an.getD i 0) new && Z11 heap.length (Z3F env []) then Zac ops env o
     (opW P orc cw (Z27 gl env) o heap λr H'=>if Nat.ble heap.length H'.length then onO (Z4O o.dst r tmc) λtmc=>k tmc done' H' [] H' (sts++[(i,base,new)]) recs else False)
     (onO (Z4O o.dst (.tuple []) tmc) λtmc=>k tmc done' heap [] heap (sts++[(i,base,new)]) recs)
    else False
   |1=>Zac ops env o
    (Z8f P (Z27 gl env) heap o λr=>onO (Z4O o.dst r tmc) λtmc=>k tmc done' base new heap sts ((i,o,env,r)::recs))
    (onO (Z4O o.dst (.tuple []) tmc) λtmc=>k tmc done' base new heap sts recs)
   |_=>Zac ops env o
    (Z8f P (Z27 gl env) heap o λr=>onO (Z4O o.dst r tmc) λtmc=>k tmc done' base new heap sts recs)
    (onO (Z4O o.dst (.tuple []) tmc) λtmc=>k tmc done' base new heap sts recs)
structure RecOK (ops:List Oper) (an:List Nat) (tm:Tr) (vals:List (Option AV)) (done:Nat) (recs:List Zfc):Prop where
 at_:∀r∈recs,At ops an tm vals r.1 r.2.1 r.2.2.1 r.2.2.2
 all:∀(j:Nat)(o:Oper)(env:List (Nat×AV))(v:AV),bit done j=true->kind o=1->At ops an tm vals j o env v->Z0x ops env o=true->(j,o,env,v)∈recs
theorem RecOK.next {ops : List Oper} {an : List Nat} {tm tmc : Tr} {i : Nat} {o : Oper} {env : List (Nat × AV)} {vals : List (Option AV)} {done : Nat} {recs recs' : List Zfc} {r : AV} (h : RecOK ops an tm vals done recs) (hV : VInv ops an tm vals done tmc) (hi : bit done i = false) (ho : ops[i]? = some o)
  (henv:Z3K tm vals ops (bit (an.getD i 0)) (looks ops o)=some env) (hF:∀k,bit done k=true->∃o env v,At ops an tm vals k o env v)
  (hr:recs'=recs/\(kind o=1->Z0x ops env o=false)\/recs'=(i,o,env,r)::recs):RecOK ops an tm (vals.set i (some r)) (Nat.lor done (2 ^ i)) recs'/\∀k,bit (Nat.lor done (2 ^ i)) k=true->∃o env v,At ops an tm (vals.set i (some r)) k o env v:=by
 have hil:i<vals.length:=by rw[hV.vlen];exact (Y04.1 ho).1
 have hle:=hV.vle hi r
 have hat:At ops an tm (vals.set i (some r)) i o env r:=⟨ho,Z41 hle _ _ henv,by simp[hil]⟩
 refine⟨⟨λx hx=>?_,λj o' env' v hj hk ha hw=>?_⟩,λk hk=>?_⟩
 · rcases hr with ⟨rfl,_⟩|rfl
   ·exact (h.at_ x hx).mono hle
   · rcases Y08.1 hx with rfl|hx
     ·exact hat
     ·exact (h.at_ x hx).mono hle
 · rcases (Z5D _ _ _).1 hj with hj|rfl
   · obtain⟨o2,env2,v2,ha2⟩:=hF j hj
     obtain⟨rfl,rfl,rfl⟩:=ha.uniq (ha2.mono hle)
     have:=h.all j _ _ _ hj hk ha2 hw
     rcases hr with ⟨rfl,_⟩|rfl
     ·exact this
     ·exact List.mem_cons_of_mem _ this
   · obtain⟨rfl,rfl,rfl⟩:=ha.uniq hat
     rcases hr with ⟨rfl,h1⟩|rfl
     ·rw[h1 hk]at hw;cases hw
     ·exact List.mem_cons_self ..
 · rcases (Z5D _ _ _).1 hk with hk|rfl
   · obtain⟨o2,env2,v2,ha2⟩:=hF k hk
     exact⟨o2,env2,v2,ha2.mono hle⟩
   ·exact⟨o,env,r,hat⟩
def shp:Tr->Tr->Prop
 | .leaf,.leaf=>True
 | .node _ l r,.node _ l2 r2=>shp l l2/\shp r r2
 |_,_=>False
theorem shp.refl:∀t:Tr,shp t t
 | .leaf=>trivial
 | .node _ l r=>⟨shp.refl l,shp.refl r⟩
theorem shp.symm:∀{t u:Tr},shp t u->shp u t
 | .leaf,.leaf,_=>trivial
 | .node _ _ _,.node _ _ _,h=>⟨shp.symm h.1,shp.symm h.2⟩
 | .leaf,.node _ _ _,h=>h.elim
 | .node _ _ _,.leaf,h=>h.elim
theorem shp.trans:∀{t u v:Tr},shp t u->shp u v->shp t v
 | .leaf,.leaf,.leaf,_,_=>trivial
 | .node _ _ _,.node _ _ _,.node _ _ _,h,k=>⟨h.1.trans k.1,h.2.trans k.2⟩
 | .leaf,.node _ _ _,_,h,_=>h.elim
 | .node _ _ _,.leaf,_,h,_=>h.elim
 | .leaf,.leaf,.node _ _ _,_,k=>k.elim
 | .node _ _ _,.node _ _ _,.leaf,_,k=>k.elim
theorem Zb5:∀{t:Tr}{n:Nat}{v:AV}{t':Tr},ZgO t n v=some t'->shp t t'
 | .leaf,n,v,t',h=>by simp[ZgO]at h
 | .node x l r,0,v,t',h=>by
  simp only[ZgO]at h
  split at h<;>simp at h
  subst h;exact⟨shp.refl l,shp.refl r⟩
 | .node x l r,n+1,v,t',h=>by
  simp only[ZgO]at h
  split at h
  · split at h<;>simp at h
    subst h;rename_i l' hl;exact⟨Zb5 hl,shp.refl r⟩
  · split at h<;>simp at h
    subst h;rename_i r' hr;exact⟨shp.refl l,Zb5 hr⟩
theorem ZfH{d:Option Tmp}{v:AV}{t t':Tr}(h:Z4O d v t=some t'):shp t t':=by
 cases d with
 |none=>simp[Z4O]at h;subst h;exact shp.refl t
 |some d=>exact Zb5 h
theorem Z9z{vals:List (Option AV)}:∀{l:List Oper}{i:Nat}{tm tm':Tr},Z2g vals l i tm=some tm'->shp tm tm'
 |[],i,tm,tm',h=>by simp[Z2g]at h;subst h;exact shp.refl tm
 |o::l,i,tm,tm',h=>by
  simp only[Z2g]at h
  split at h<;>try (simp at h;done)
  split at h<;>try (simp at h;done)
  rename_i tm1 hp
  exact (ZfH hp).trans (Z9z h)
theorem Zef:∀{t u:Tr},shp t u->(∀n,Z1p t n=Z1p u n)->(∀n,tex t n=tex u n)->t=u
 | .leaf,.leaf,_,_,_=>rfl
 | .node x l r,.node y l2 r2,h,hg,hx=>by
  have e0:x=y:=by
   have h1:=hg 0
   have h2:=hx 0
   simp only[Z1p,tex]at h1 h2
   cases x<;>cases y<;>simp_all
  have hl:l=l2:=Zef h.1 (λn=>by
   have:=hg (2*n+1)
   have e:Nat.mod (2*n) 2=0:=by show (2*n) % 2=0;omega
   have e2:Nat.div (2*n) 2=n:=by show (2*n) / 2=n;omega
   simpa only[Z1p,e,e2]using this) (λn=>by
   have:=hx (2*n+1)
   have e:Nat.mod (2*n) 2=0:=by show (2*n) % 2=0;omega
   have e2:Nat.div (2*n) 2=n:=by show (2*n) / 2=n;omega
   simpa only[tex,e,e2]using this)
  have hr:r=r2:=Zef h.2 (λn=>by
   have:=hg (2*n+1+1)
   have e:Nat.mod (2*n+1) 2=1:=by show (2*n+1) % 2=1;omega
   have e2:Nat.div (2*n+1) 2=n:=by show (2*n+1) / 2=n;omega
   simpa only[Z1p,e,e2]using this) (λn=>by
   have:=hx (2*n+1+1)
   have e:Nat.mod (2*n+1) 2=1:=by show (2*n+1) % 2=1;omega
   have e2:Nat.div (2*n+1) 2=n:=by show (2*n+1) / 2=n;omega
   simpa only[tex,e,e2]using this)
  rw[e0,hl,hr]
 | .leaf,.node _ _ _,h,_,_=>h.elim
 | .node _ _ _,.leaf,h,_,_=>h.elim
structure DW (ops:List Oper) (an:List Nat) (tm tmc:Tr) (s:DSt) (recs:List Zfc):Prop where
 v:VInv ops an tm s.vals s.done tmc
 r:RecOK ops an tm s.vals s.done recs
 f:∀k,bit s.done k=true->∃o env v,At ops an tm s.vals k o env v
 ex:∀t,tex tmc t=tex tm t
 sh:shp tm tmc
theorem DW.next {ops : List Oper} {an : List Nat} {tm tmc tmc' : Tr} {s : DSt} {recs recs' : List Zfc} {i : Nat} {o : Oper} {env : List (Nat × AV)} {r : AV} {base heap : Z00} {new : List Nat} {sts : List (Nat × Z00 × List Nat)} (h : DW ops an tm tmc s recs) (ho : ops[i]? = some o) (hi : bit s.done i = false) (han : ∀ k, bit (an.getD i 0) k = true -> bit s.done k = true)
  (hb:an.getD i 0<2 ^ i) (htm:Z1J ops an i o=true) (henv:Z3K tm s.vals ops (bit (an.getD i 0)) (looks ops o)=some env) (hp:Z4O o.dst r tmc=some tmc') (hr:recs'=recs/\(kind o=1->Z0x ops env o=false)\/recs'=(i,o,env,r)::recs) :
  DW ops an tm tmc' ⟨s.vals.set i (some r),Nat.lor s.done (2 ^ i),base,new,heap,sts⟩ recs':=by
 obtain⟨g1,g2⟩:=h.r.next h.v hi ho henv h.f hr
 exact⟨h.v.next ho hp hi han hb htm,g1,g2,λt=>by rw[ZfG hp t];exact h.ex t,h.sh.trans (ZfH hp)⟩
theorem ZjV (hcw : Z5O P orc cw) {ops : List Oper} {an : List Nat} {tm tmc : Tr} {i : Nat} {s : DSt} {recs : List Zfc} {k : StK} (hW : DW ops an tm tmc s recs) (htm : ∀ i o, ops[i]? = some o -> Z1J ops an i o = true) (hb : ∀ i, i < ops.length -> an.getD i 0 < 2 ^ i)
  (h:Zgj P gl orc cw ops an i tmc s.done s.base s.new s.heap s.sts recs k):∃s' tmc' recs',ZeU P gl orc ops an tm i s=some s'/\DW ops an tm tmc' s' recs'/\k tmc' s'.done s'.base s'.new s'.heap s'.sts recs':=by
 unfold Zgj at h
 obtain⟨o,ho,h⟩:=Z04 h
 obtain⟨env,henvT,h⟩:=Z04 h
 split at h
 ·exact h.elim
 · rename_i hc
   simp only[Y01,Y0h]at hc
   obtain⟨hi,hsub⟩:=hc
   have han:=ZlM hsub
   have htm':=htm i o ho
   have hb':=hb i (Y04.1 ho).1
   have henv:Z3K tm s.vals ops (bit (an.getD i 0)) (looks ops o)=some env:=by rw[ZoH htm' hW.v hi han,henvT]
   rw[Z3H]at h
   unfold ZeU
   simp only[ho,henv,hi,Y07,if_false]
   split at h
   · rename_i hk
     simp only[hk]
     have hk1:∀{b:Bool},kind o=1->Z0x ops env o=b:=λe=>by rw[hk]at e;cases e
     rcases Z6c h with ⟨h1,h⟩|⟨h1,h⟩
     · obtain⟨⟨mk,body⟩,h2,h⟩:=Z04 h
       split at h
       · rename_i h3
         rw[Z3b,Z0u]at h
         obtain⟨tmc',h4,h⟩:=Z04 h
         simp only at h3
         exact⟨_,tmc',recs,by simp only[h1,if_true,h2];rw[if_pos h3,Z3c],hW.next ho hi han hb' htm' henv h4 (.inl ⟨rfl,hk1⟩),h⟩
       ·exact h.elim
     · obtain⟨tmc',h4,h⟩:=Z04 h
       exact⟨_,tmc',recs,by simp only[h1,Y07,if_false],hW.next ho hi han hb' htm' henv h4 (.inl ⟨rfl,hk1⟩),h⟩
   · rename_i hk
     simp only[hk]
     have hk1:∀{b:Bool},kind o=1->Z0x ops env o=b:=λe=>by rw[hk]at e;cases e
     split at h
     · rename_i h0
       rcases Z6c h with ⟨h1,h⟩|⟨h1,h⟩
       · obtain⟨r,H',h2,h⟩:=ZfL P hcw h
         split at h
         · rename_i h3
           obtain⟨tmc',h4,h⟩:=Z04 h
           exact⟨_,tmc',recs,by rw[if_pos h0];simp only[h1,if_true,h2,Z3c];rw[if_pos h3],hW.next ho hi han hb' htm' henv h4 (.inl ⟨rfl,hk1⟩),h⟩
         ·exact h.elim
       · obtain⟨tmc',h4,h⟩:=Z04 h
         exact⟨_,tmc',recs,by rw[if_pos h0];simp only[h1,Y07,if_false],hW.next ho hi han hb' htm' henv h4 (.inl ⟨rfl,hk1⟩),h⟩
     ·exact h.elim
   · rename_i hk
     simp only[hk]
     rcases Z6c h with ⟨h1,h⟩|⟨h1,h⟩
     · obtain⟨r,h2,h⟩:=Z4g P h
       obtain⟨tmc',h4,h⟩:=Z04 h
       exact⟨_,tmc',_,by simp only[h1,if_true,h2,Z3c],hW.next ho hi han hb' htm' henv h4 (.inr rfl),h⟩
     · obtain⟨tmc',h4,h⟩:=Z04 h
       exact⟨_,tmc',recs,by simp only[h1,Y07,if_false],hW.next ho hi han hb' htm' henv h4 (.inl ⟨rfl,λ_=>h1⟩),h⟩
   · rename_i hk2 hk3 hk1
     have key:∀{A B C:Option DSt},(match kind o with|2=>A|3=>B|_=>C)=C:=by
      intro A B C
      split
      ·rename_i e;exact (hk2 e).elim
      ·rename_i e;exact (hk3 e).elim
      ·rfl
     rcases Z6c h with ⟨h1,h⟩|⟨h1,h⟩
     · obtain⟨r,h2,h⟩:=Z4g P h
       obtain⟨tmc',h4,h⟩:=Z04 h
       exact⟨_,tmc',recs,key.trans (by simp only[h1,if_true,h2,Z3c]),hW.next ho hi han hb' htm' henv h4 (.inl ⟨rfl,λe=>(hk1 e).elim⟩),h⟩
     · obtain⟨tmc',h4,h⟩:=Z04 h
       exact⟨_,tmc',recs,key.trans (by simp only[h1,Y07,if_false]),hW.next ho hi han hb' htm' henv h4 (.inl ⟨rfl,λe=>(hk1 e).elim⟩),h⟩
noncomputable def ZjW(ops:List Oper)(an:List Nat)(l:List Nat):Tr->Nat->Z00->List Nat->Z00->List (Nat×Z00×List Nat)->List Zfc->StK->Prop :=
 List.rec (motive:=λ_=>Tr->Nat->Z00->List Nat->Z00->List (Nat×Z00×List Nat)->List Zfc->StK->Prop) (λtmc done base new heap sts recs k=>k tmc done base new heap sts recs)
  (λi _ ih tmc done base new heap sts recs k=>Zgj P gl orc cw ops an i tmc done base new heap sts recs λtmc done base new heap sts recs=>ih tmc done base new heap sts recs k) l
theorem Zdn (hcw : Z5O P orc cw) {ops : List Oper} {an : List Nat} {tm : Tr} (htm : ∀ i o, ops[i]? = some o -> Z1J ops an i o = true) (hb : ∀ i, i < ops.length -> an.getD i 0 < 2 ^ i) : ∀ {l : List Nat} {tmc : Tr} {s : DSt} {recs : List Zfc} {k : StK}, DW ops an tm tmc s recs -> ZjW P gl orc cw ops an l tmc s.done s.base s.new s.heap s.sts recs k ->
  ∃s' tmc' recs',Za6 P gl orc ops an tm l s=some s'/\DW ops an tm tmc' s' recs'/\k tmc' s'.done s'.base s'.new s'.heap s'.sts recs'
 |[],tmc,s,recs,k,hW,h=>⟨s,tmc,recs,rfl,hW,h⟩
 |i::l,tmc,s,recs,k,hW,h=>by
  replace h:Zgj P gl orc cw ops an i tmc s.done s.base s.new s.heap s.sts recs λtmc done base new heap sts recs=>ZjW P gl orc cw ops an l tmc done base new heap sts recs k:=h
  obtain⟨s1,t1,r1,h1,w1,h⟩:=ZjV P gl orc cw hcw hW htm hb h
  obtain⟨s2,t2,r2,h2,w2,h⟩:=Zdn hcw htm hb w1 h
  exact⟨s2,t2,r2,by simp only[Za6,h1];exact h2,w2,h⟩
noncomputable def Z5S(o:Oper)(env:List (Nat×AV))(v:AV)(j:Nat)(an:List Nat)(aj:Nat)(K:Prop)(l:List (Nat×Z00×List Nat)):Z00->Prop :=
 List.rec (motive:=λ_=>Z00->Prop) (λH=>Z8f P (Z27 gl env) H o λu=>u=v/\K)
  (fun p _ ih H => Prod.rec (fun e q => Prod.rec (fun B _ => match bit aj e with
    |true=>ih H
    |false=>Z8f P (Z27 gl env) B o λu=>u=v/\(match bit (an.getD e 0) j with|true=>K|false=>ih H)) q) p) l
theorem Z3S{o:Oper}{env:List (Nat×AV)}{v:AV}{j:Nat}{an:List Nat}{aj:Nat}{K:Prop}:∀{l:List (Nat×Z00×List Nat)}{H:Z00},Z5S P gl o env v j an aj K l H->stages P gl o env v j an aj veq l H=true/\K
 |[],H,h=>by
  obtain⟨u,h1,h2,hK⟩:=Z4g P h
  subst h2
  exact⟨by simp only[stages,h1,Z4b],hK⟩
 |(e,B,nw)::l,H,h=>by
  replace h:(match bit aj e with
   |true=>Z5S P gl o env v j an aj K l H
   |false=>Z8f P (Z27 gl env) B o λu=>u=v/\(match bit (an.getD e 0) j with|true=>K|false=>Z5S P gl o env v j an aj K l H)):=h
  simp only[stages]
  split at h
  ·rename_i hb;rw[if_pos hb];exact Z3S h
  · rename_i hb
    rw[if_neg (by rw[hb];simp)]
    obtain⟨u,h3,h4,h2⟩:=Z4g P h
    subst h4
    simp only[h3,Z4b,Bool.true_and,Y09]
    split at h2
    ·rename_i hc;exact⟨.inl hc,h2⟩
    ·exact⟨.inr (Z3S h2).1,(Z3S h2).2⟩
noncomputable def Z6j(F:Z00->Z00)(o:Oper)(env:List (Nat×AV))(v:AV)(j:Nat)(an:List Nat)(aj:Nat)(K:Prop)(l:List (Nat×Z00×List Nat)):Z00->Prop :=
 List.rec (motive:=λ_=>Z00->Prop) (λH=>Z1M (F H) λH=>Z8f P (Z27 gl env) H o λu=>u=v/\K)
  (fun p _ ih H => Prod.rec (fun e q => Prod.rec (fun B _ => match bit aj e with
    |true=>ih H
    |false=>Z1M (F B) λB=>Z8f P (Z27 gl env) B o λu=>u=v/\(match bit (an.getD e 0) j with|true=>K|false=>ih H)) q) p) l
theorem Z4d{F:Z00->Z00}{o:Oper}{env:List (Nat×AV)}{v:AV}{j:Nat}{an:List Nat}{aj:Nat}{K:Prop}:∀{l:List (Nat×Z00×List Nat)}{H:Z00},Z6j P gl F o env v j an aj K l H->stages P gl o env v j an aj veq (ZdW F l) (F H)=true/\K
 |[],H,h=>by
  replace h:Z1M (F H) λH=>Z8f P (Z27 gl env) H o λu=>u=v/\K:=h
  rw[Z0u]at h
  obtain⟨u,h1,h2,hK⟩:=Z4g P h
  subst h2
  exact⟨by simp only[ZdW,stages,h1,Z4b],hK⟩
 |(e,B,nw)::l,H,h=>by
  replace h:(match bit aj e with
   |true=>Z6j P gl F o env v j an aj K l H
   |false=>Z1M (F B) λB=>Z8f P (Z27 gl env) B o λu=>u=v/\(match bit (an.getD e 0) j with|true=>K|false=>Z6j P gl F o env v j an aj K l H)):=h
  simp only[ZdW,stages]
  split at h
  ·rename_i hb;rw[if_pos hb];exact Z4d h
  · rename_i hb
    rw[if_neg (by rw[hb];simp)]
    rw[Z0u]at h
    obtain⟨u,h3,h4,h2⟩:=Z4g P h
    subst h4
    simp only[h3,Z4b,Bool.true_and,Y09]
    split at h2
    ·rename_i hc;exact⟨.inl hc,h2⟩
    ·exact⟨.inr (Z4d h2).1,(Z4d h2).2⟩
noncomputable def Z6k(an:List Nat)(sts:List (Nat×Z00×List Nat))(base:Z00)(nw:List Nat)(heap:Z00)(K:Prop)(l:List Zfc):Prop :=
 List.rec (motive:=λ_=>Prop) K (λr _ ih=>Prod.rec (λj q=>Prod.rec (λo q=>Prod.rec (λenv v=>match Z11 base.length (Z3F env []) with
  |true=>Z5S P gl o env v j an (an.getD j 0) ih sts base
  |false=>Z6j P gl (Z3v (an.getD j 0) base nw heap) o env v j an (an.getD j 0) ih sts base) q) q) r) l
theorem Z8X{an:List Nat}{sts:List (Nat×Z00×List Nat)}{base heap:Z00}{nw:List Nat}{K:Prop}:∀{l:List Zfc},Z6k P gl an sts base nw heap K l->(∀r∈l,(stages P gl r.2.1 r.2.2.1 r.2.2.2 r.1 an (an.getD r.1 0) veq sts base || stages P gl r.2.1 r.2.2.1 r.2.2.2 r.1 an (an.getD r.1 0) veq (ZdW (Z3v (an.getD r.1 0) base nw heap) sts) (Z3v (an.getD r.1 0) base nw heap base))=true)/\K
 |[],h=>⟨λr hr=>by simp at hr,h⟩
 |(j,o,env,v)::l,h=>by
  replace h:(match Z11 base.length (Z3F env []) with
   |true=>Z5S P gl o env v j an (an.getD j 0) (Z6k P gl an sts base nw heap K l) sts base
   |false=>Z6j P gl (Z3v (an.getD j 0) base nw heap) o env v j an (an.getD j 0) (Z6k P gl an sts base nw heap K l) sts base):=h
  have h':(stages P gl o env v j an (an.getD j 0) veq sts base || stages P gl o env v j an (an.getD j 0) veq (ZdW (Z3v (an.getD j 0) base nw heap) sts) (Z3v (an.getD j 0) base nw heap base))=true/\Z6k P gl an sts base nw heap K l:=by
   split at h
   · obtain⟨h1,h2⟩:=Z3S P gl h
     exact⟨by rw[h1];rfl,h2⟩
   · obtain⟨h1,h2⟩:=Z4d P gl h
     exact⟨by rw[h1,Bool.or_true],h2⟩
  obtain⟨h1,h2⟩:=h'
  obtain⟨h3,h4⟩:=Z8X h2
  refine⟨λr hr=>?_,h4⟩
  rcases Y08.1 hr with rfl|hr
  ·exact h1
  ·exact h3 r hr
noncomputable def Zed(an:List Nat)(sts:List (Nat×Z00×List Nat))(base:Z00)(K:Prop)(l:List Zfc):Prop :=
 List.rec (motive:=λ_=>Prop) K (λr _ ih=>Prod.rec (λj q=>Prod.rec (λo q=>Prod.rec (λenv v=>Z5S P gl o env v j an (an.getD j 0) ih sts base) q) q) r) l
theorem Zae{an:List Nat}{sts:List (Nat×Z00×List Nat)}{base:Z00}{K:Prop}:∀{l:List Zfc},Zed P gl an sts base K l->(∀r∈l,stages P gl r.2.1 r.2.2.1 r.2.2.2 r.1 an (an.getD r.1 0) veq sts base=true)/\K
 |[],h=>⟨λr hr=>by simp at hr,h⟩
 |(j,o,env,v)::l,h=>by
  replace h:Z5S P gl o env v j an (an.getD j 0) (Zed P gl an sts base K l) sts base:=h
  obtain⟨h1,h2⟩:=Z3S P gl h
  obtain⟨h3,h4⟩:=Zae h2
  refine⟨λr hr=>?_,h4⟩
  rcases Y08.1 hr with rfl|hr
  ·exact h1
  ·exact h3 r hr
theorem Z79 {ops : List Oper} {an : List Nat} {tm tmc : Tr} {s : DSt} {recs : List Zfc} (hW : DW ops an tm tmc s recs) (hr : ∀ r ∈ recs, (stages P gl r.2.1 r.2.2.1 r.2.2.2 r.1 an (an.getD r.1 0) veq s.sts s.base || stages P gl r.2.1 r.2.2.1 r.2.2.2 r.1 an (an.getD r.1 0) veq (ZdW (Z3v (an.getD r.1 0) s.base s.new s.heap) s.sts) (Z3v (an.getD r.1 0) s.base s.new s.heap s.base)) = true) :
  ∀(l:List Oper)(j:Nat),(∀i,i<l.length->bit s.done (j+i)=true/\ops[j+i]? = l[i]?)->Z2C P gl tm ops an s l j=true
 |[],j,hd=>rfl
 |o::l,j,hd=>by
  simp only[Z2C,Y01]
  refine⟨?_,Z79 hW hr l (j+1) λi hi=>?_⟩
  · split
    · rename_i hk
      obtain⟨h1,h2⟩:=hd 0 (by simp)
      simp only[Y06]at h1 h2
      obtain⟨o2,env,v,hat⟩:=hW.f j h1
      have:o2=o:=by have:=hat.op;rw[h2]at this;simpa using this.symm
      subst this
      simp only[hat.val,hat.env]
      split
      · rename_i hw
        exact hr _ (hW.r.all j o2 env v h1 (Y03 hk) hat hw)
      ·rfl
    ·rfl
  · have:=hd (i+1) (by simpa using hi)
    rw[show j+(i+1)=j+1+i from by omega]at this
    simpa using this
def Z99:List Oper->Bool
 |[]=>true
 |o::l=>Nat.ble (kind o) 1&&Z99 l
theorem Zal:∀{ops:List Oper}{i:Nat}{o:Oper},Z99 ops=true->ops[i]? = some o->kind o<=1
 |[],i,o,h,e=>by simp at e
 |x::l,0,o,h,e=>by simp[Z99]at h e;subst e;exact h.1
 |x::l,i+1,o,h,e=>by simp[Z99]at h e;exact Zal h.2 e
structure QI (ops:List Oper) (an:List Nat) (tm:Tr) (H0:Z00) (s:DSt):Prop where
 base:s.base=H0
 heap:s.heap=H0
 sts:s.sts=[]
 done:∀i,bit s.done i=true->∃o env v,At ops an tm s.vals i o env v/\(Z0x ops env o=true->Z0K P (Z27 gl env) H0 o=some v)
 vdone:∀(i:Nat)(v:AV),s.vals[i]? = some (some v)->bit s.done i=true
theorem QI.start(ops:List Oper)(an:List Nat)(tm:Tr)(H:Z00):QI P gl ops an tm H ⟨Z1X ops,0,H,[],H,[]⟩ :=
 ⟨rfl,rfl,rfl,λi h=>(by rw[Z2l]at h;cases h),λi v h=>(Z3s ops i v h).elim⟩
theorem Zmi{ops:List Oper}{an:List Nat}{tm:Tr}{H0:Z00}{i:Nat}{s s':DSt}(hq:Z99 ops=true)(hl:s.vals.length=ops.length)(h:QI P gl ops an tm H0 s)(e:ZeU P gl orc ops an tm i s=some s'):QI P gl ops an tm H0 s'/\s'.vals.length=ops.length:=by
 unfold ZeU at e
 split at e
 ·cases e
 · rename_i o ho
   have hk:=Zal hq ho
   have hil:i<s.vals.length:=by rw[hl];exact (Y04.1 ho).1
   split at e
   ·cases e
   · rename_i env henv
     split at e
     ·cases e
     · rename_i hb
       have hnew:∀(v:AV),(Z0x ops env o=true->Z0K P (Z27 gl env) H0 o=some v)->QI P gl ops an tm H0 ⟨s.vals.set i (some v),Nat.lor s.done (2 ^ i),s.base,s.new,s.heap,s.sts⟩/\(s.vals.set i (some v)).length=ops.length:=by
        intro v hv
        have hle:VLe s.vals (s.vals.set i (some v)):=Zei λu hu=>hb (h.vdone i u hu)
        refine⟨⟨h.base,h.heap,h.sts,λj hj=>?_,λj u hu=>?_⟩,by simpa using hl⟩
        · rcases (Z5D _ _ _).1 hj with hj|rfl
          · obtain⟨o',env',v',h1,h2⟩:=h.done j hj
            exact⟨o',env',v',h1.mono hle,h2⟩
          ·exact⟨o,env,v,⟨ho,Z41 hle _ _ henv,by simp[hil]⟩,hv⟩
        · refine (Z5D _ _ _).2 ?_
          simp only[Y0d]at hu
          split at hu
          ·rename_i e;exact .inr e
          ·exact .inl (h.vdone j u hu)
       split at e
       ·rename_i hk2;omega
       ·rename_i hk2;omega
       · split at e
         · rename_i hw
           split at e
           · rename_i r hr
             rw[Z3c]at e
             simp at e;subst e
             rw[h.heap]at hr
             exact hnew r λ_=>hr
           ·cases e
         · rename_i hw
           simp at e;subst e
           exact hnew _ λh=>absurd h hw
theorem Zgk{ops:List Oper}{an:List Nat}{tm:Tr}{H0:Z00}(hq:Z99 ops=true):∀{l:List Nat}{s s':DSt},s.vals.length=ops.length->QI P gl ops an tm H0 s->Za6 P gl orc ops an tm l s=some s'->QI P gl ops an tm H0 s'
 |[],s,s',hl,h,e=>by simp[Za6]at e;subst e;exact h
 |i::l,s,s',hl,h,e=>by
  simp only[Za6]at e
  split at e
  · rename_i s1 h1
    obtain⟨g1,g2⟩:=Zmi P gl orc hq hl h h1
    exact Zgk hq g2 g1 e
  ·cases e
theorem Z7S{ops:List Oper}{an:List Nat}{tm:Tr}{H0:Z00}{s:DSt}(h:QI P gl ops an tm H0 s):∀(l:List Oper)(j:Nat),(∀i,i<l.length->bit s.done (j+i)=true/\∃o,ops[j+i]? = some o/\l[i]? = some o)->Z2C P gl tm ops an s l j=true
 |[],j,hd=>rfl
 |o::l,j,hd=>by
  simp only[Z2C,Y01]
  refine⟨?_,Z7S h l (j+1) λi hi=>?_⟩
  · split
    · obtain⟨h1,o',h2,h3⟩:=hd 0 (by simp)
      simp only[Y06]at h1 h2
      simp at h3;subst h3
      obtain⟨o2,env,v,hat,hv⟩:=h.done j h1
      have:o2=o:=by have:=hat.op;rw[h2]at this;simpa using this.symm
      subst this
      simp only[hat.val,hat.env]
      split
      · rename_i hw
        rw[h.sts,h.base]
        simp only[stages,hv hw,Z4b,Bool.true_or]
      ·rfl
    ·rfl
  · obtain⟨h1,o',h2,h3⟩:=hd (i+1) (by simpa using hi)
    rw[show j+(i+1)=j+1+i from by omega]at h1 h2
    exact⟨h1,o',h2,by simpa using h3⟩
def frcNL:List Nat->(List Nat->Prop)->Prop
 |[],k=>k []
 |n::l,k=>Za3 n λn=>frcNL l λl=>k (n::l)
theorem Z8F:∀(l:List Nat)(k:List Nat->Prop),frcNL l k=k l
 |[],k=>rfl
 |n::l,k=>by simp only[frcNL,Z3H,Z8F l]
noncomputable def Zdo(ops:List Oper)(tm:Tr)(H:Z00)(k:Tr->Z00->Prop):Prop :=
 frcNL (Z2W ops []) λan =>
 match Z7Q ops an ops 0&&Z55 an 0 with
 |true=>frcNL (ZpZ ops an) λord=>ZjW P gl orc cw ops an ord tm 0 H [] H [] [] λtmc done base nw heap sts recs =>
  match Z7A an (Z0y sts)&&Y00 (done+1) (2 ^ ops.length) with
  |true=>match Z99 ops with
   |true=>k tmc heap
   |false=>match nw with
    |[]=>Zed P gl an sts base (k tmc heap) recs
    |_::_=>Z6k P gl an sts base nw heap (k tmc heap) recs
  |false=>False
 |false=>False
theorem Zcw{ops:List Oper}{an:List Nat}:∀{l:List Oper}{j i:Nat}{o:Oper},Z7Q ops an l j=true->l[i]? = some o->Z1J ops an (j+i) o=true
 |[],j,i,o,h,ho=>by simp at ho
 |x::l,j,i,o,h,ho=>by
  simp only[Z7Q,Y01]at h
  cases i with
  |zero=>simp at ho;subst ho;exact h.1
  |succ i=>have:=Zcw h.2 (by simpa using ho);rwa [show j+1+i=j+(i+1) from by omega]at this
theorem Z8J(hcw:Z5O P orc cw){ops:List Oper}{tm:Tr}{H:Z00}{k:Tr->Z00->Prop}(h:Zdo P gl orc cw ops tm H k):∃tm' H',ZdB P gl orc ops tm H=some (tm',H')/\k tm' H':=by
 unfold Zdo at h
 rw[Z8F]at h
 split at h
 · rename_i h1
   have h1':=h1
   simp only[Y01]at h1'
   have htm:∀i o,ops[i]? = some o->Z1J ops (Z2W ops []) i o=true:=λi o ho=>by have:=Zcw h1'.1 ho;rwa [Y02]at this
   have hb:∀i,i<ops.length->(Z2W ops []).getD i 0<2 ^ i:=λi hi=>by have:=Z1I _ 0 i h1'.2 (by rw[Z2z];exact hi);rwa [Y02]at this
   rw[Z8F]at h
   obtain⟨s,tmc,recs,h2,hW,h⟩:=Zdn P gl orc cw hcw (tm:=tm) (tmc:=tm) (s:=⟨Z1X ops,0,H,[],H,[]⟩) (recs:=[]) htm hb
    ⟨VInv.start ops _ tm,⟨λr hr=>by simp at hr,λj o env v hj=>by rw[Z2l]at hj;cases hj⟩,λk hk=>(by rw[Z2l]at hk;cases hk),λt=>rfl,shp.refl tm⟩ h
   split at h
   · rename_i h3
     have h3':=h3
     simp only[Y01]at h3'
     have hdone:=Y03 h3'.2
     have hall:∀i,i<ops.length->bit s.done i=true:=λi hi=>by rw[Zgw hdone];simpa using hi
     have hfin:∃tm',Z2g s.vals ops 0 tm=some tm':=Z81 ops 0 tm (λk hk=>by rw[Y02];exact hW.v.known k (hall k hk)) λo ho d hd=>by
      obtain⟨k,hk,hko⟩:=List.mem_iff_getElem.1 ho
      obtain⟨x,hx⟩:=hW.v.dst k o d (hall k hk) (by rw[<- hko];exact Y05 hk) hd
      rw[<- hW.ex];exact Zfp _ _ _ hx
     obtain⟨tm',hfin⟩:=hfin
     have fin:Z2C P gl tm ops (Z2W ops []) s ops 0=true->ZdB P gl orc ops tm H=some (tm',s.heap):=by
      intro h4
      unfold ZdB
      simp only[h1,if_true,h2,h3'.1,h3'.2,h4,Bool.and_self,hfin]
     have hget:∀t,Z1p tm' t=Z1p tmc t:=λt=>by
      rw[(Z50 ops 0 tm tm' hfin).2 t _ rfl,<- hW.v.cur t]
      exact Z2v ops 0 _ λk o hk _=>by
       rw[Y02]
       exact (hall k (Y04.1 hk).1).symm
     have hex:∀t,tex tm' t=tex tmc t:=λt=>by rw[Z63 hfin t,hW.ex t]
     have heq:tm'=tmc:=Zef ((Z9z hfin).symm.trans hW.sh) hget hex
     subst heq
     split at h
     · rename_i hq
       refine⟨tm',s.heap,fin ?_,h⟩
       have hqi:=Zgk P gl orc hq (Z2h ops) (QI.start P gl ops (Z2W ops []) tm H) h2
       exact Z7S P gl hqi ops 0 λi hi=>⟨by rw[Y02];exact hall i hi,ops[i],by simp[hi],by simp[hi]⟩
     · split at h
       · obtain⟨h4,h⟩:=Zae P gl h
         exact⟨tm',s.heap,fin (Z79 P gl hW (λr hr=>by rw[h4 r hr];rfl) ops 0 λi hi=>⟨by rw[Y02];exact hall i hi,by rw[Y02]⟩),h⟩
       · skip
         obtain⟨h4,h⟩:=Z8X P gl h
         exact⟨tm',s.heap,fin (Z79 P gl hW h4 ops 0 λi hi=>⟨by rw[Y02];exact hall i hi,by rw[Y02]⟩),h⟩
   ·exact h.elim
 ·exact h.elim
end reg
end Go.Abs
end
section
namespace Go.Abs
open Go.RowKit
structure Stq (k:Nat) (sn:Z0o) (ι : Z0n) (H:Z00) (W:World) (sn':Z0o) (ι':Z0n) (H':Z00) (W':World):Prop where
 rel:R sn' ι' H' W'
 le:∀a v,sn a=some v->sn' a=some v
 fresh:∀(b:Nat)(o:AObj) p,H'[b]? = some o->o.alive=true -> ι' b=some p->W.heap.size<=p.blk\/∃ (b0:Nat) (o0:AObj) (p0:Place),H[b0]? = some o0/\o0.alive=true /\ ι b0=some p0/\p0.blk=p.blk
 frame:∀c,c<W.heap.size->(∀(b:Nat)(o:AObj) p,H[b]? = some o->o.alive=true -> ι b=some p->p.blk≠c)->W'.heap[c]? = W.heap[c]?
 size:W.heap.size<=W'.heap.size
 os:W'.os=W.os
 tape:W'.tape=W.tape
 output:W'.output=W.output
 sfresh:∀a v,sn' a=some v->sn a=some v\/W.heap.size<=a.block\/∃ (b0:Nat) (o0:AObj) (p0:Place),H[b0]? = some o0/\o0.alive=true /\ ι b0=some p0/\p0.blk=a.block
 keep:∀b p,b<k -> ι b=some p -> ι' b=some p
theorem Stp.q{k:Nat}{sn sn':Z0o}{ι ι':Z0n}{H H':Z00}{W W':World}(h0:R sn ι H W)(h:Stp sn ι H W sn' ι' H' W'):Stq k sn ι H W sn' ι' H' W':=by
 refine⟨h.rel,h.le.sn,λb o p hb ha hp=>?_,h.frame,h.size,h.os,h.tape,h.output,h.sfresh,λb p _ hp=>h.le.ι b p hp⟩
 rcases h.fresh b p hp with h1|h1|h1
 · have hbl:b<H.length:=(h0.dom b).2 ⟨p,h1⟩
   have hg:H[b]? = some H[b]:=Y05 hbl
   obtain⟨o',e1,_,_,e4⟩:=h.evo b _ hg
   rw[hb]at e1;simp at e1;subst e1
   exact .inr ⟨b,_,p,hg,e4 ha,h1,rfl⟩
 ·exact .inl h1
 ·exact .inr h1
theorem Stq.refl{k:Nat}{sn:Z0o}{ι : Z0n}{H:Z00}{W:World}(h:R sn ι H W):Stq k sn ι H W sn ι H W:=(Stp.refl h).q h
theorem Stq.trans{n:Nat}{sn sn1 sn2:Z0o}{ι ι1 ι2:Z0n}{H H1 H2:Z00}{W W1 W2:World}(h:Stq n sn ι H W sn1 ι1 H1 W1)(k:Stq n sn1 ι1 H1 W1 sn2 ι2 H2 W2):Stq n sn ι H W sn2 ι2 H2 W2:=by
 have via : ∀ c, (W1.heap.size <= c \/ ∃ (b0 : Nat) (o0 : AObj) (p0 : Place), H1[b0]? = some o0 /\ o0.alive = true /\ ι1 b0 = some p0 /\ p0.blk = c) ->
   W.heap.size<=c\/∃ (b0:Nat) (o0:AObj) (p0:Place),H[b0]? = some o0/\o0.alive=true /\ ι b0=some p0/\p0.blk=c:=by
  rintro c (h1|⟨b1,o1,p1,g1,g2,g3,rfl⟩)
  ·exact .inl (Nat.le_trans h.size h1)
  ·exact h.fresh b1 o1 p1 g1 g2 g3
 refine⟨k.rel,λa v e=>k.le a v (h.le a v e),λb o p hb ha hp=>via _ (k.fresh b o p hb ha hp),λc hc hno=>?_,Nat.le_trans h.size k.size,k.os.trans h.os,k.tape.trans h.tape,k.output.trans h.output,λa v hv=>?_,λb p hb hp=>k.keep b p hb (h.keep b p hb hp)⟩
 · rw[k.frame c (by have:=h.size;omega),h.frame c hc hno]
   intro b o p hb ha hp e
   rcases h.fresh b o p hb ha hp with h1|⟨b0,o0,p0,e1,e2,e3,e4⟩
   ·omega
   ·exact hno b0 o0 p0 e1 e2 e3 (by omega)
 · rcases k.sfresh a v hv with h1|h1
   ·exact h.sfresh a v h1
   ·exact .inr (via _ h1)
def iot(m:List Nat)(ι : Z0n):Z0n:=λb=>match m[b]? with|some j=>ι j|none=>none
def Wk(m:List Nat)(u u2:AV):Prop:=∀sn ι v,VR sn ι u v->VR sn (iot m ι) u2 v
theorem Wk.noref{m:List Nat}{u:AV}(h:Z2a u []=[]):Wk m u u:=λsn ι v hv=>Z1n u [] v (λb hb=>by rw[h]at hb;cases hb) hv
theorem Wk.int{m:List Nat}{k:IntKind}{a b:Int}(h:a=b):Wk m (.int k a) (.int k b):=by subst h;exact Wk.noref rfl
theorem Wk.bool{m:List Nat}{a b:Bool}(h:a=b):Wk m (.bool a) (.bool b):=by subst h;exact Wk.noref rfl
theorem Wk.str{m:List Nat}{a b:List UInt8}(h:a=b):Wk m (.str a) (.str b):=by subst h;exact Wk.noref rfl
theorem Wk.ptr{m:List Nat}{b b2 off off2:Nat}(h:m[b2]? = some b)(e:off=off2):Wk m (.ptr b off) (.ptr b2 off2):=by
 subst e
 intro sn ι v hv
 obtain⟨p,h1,h2⟩:=hv.ptr
 simp only[VR];exact⟨p,by simp only[iot,h];exact h1,h2⟩
theorem Wk.map{m:List Nat}{b b2:Nat}(h:m[b2]? = some b):Wk m (.map b) (.map b2):=by
 intro sn ι v hv
 obtain⟨p,h1,h2⟩:=hv.map
 simp only[VR];exact⟨p,by simp only[iot,h];exact h1,h2⟩
theorem Wk.slice{m:List Nat}{b b2 off off2 len len2 c c2 z z2:Nat}(h:m[b2]? = some b)(eo:off=off2)(el:len=len2)(h1:len2<=c2)(h2:c2<=c)(ez:z=z2):Wk m (.slice b off len c z) (.slice b2 off2 len2 c2 z2):=by
 subst eo;subst el;subst ez
 intro sn ι v hv
 obtain⟨p,a,cap',g1,rfl,g2,g3,g4⟩:=hv.slice
 simp only[VR];exact⟨p,a,cap',by simp only[iot,h];exact g1,rfl,h1,by omega,g4⟩
def WkL(m:List Nat):List AV->List AV->Prop
 |[],[]=>True
 |a::l,b::l2=>Wk m a b/\WkL m l l2
 |_,_=>False
theorem WkL.lr{m:List Nat}{sn:Z0o}{ι : Z0n}:∀{l l2:List AV}{vs:List Value},WkL m l l2->LR sn ι l vs->LR sn (iot m ι) l2 vs
 |[],[],vs,h,hv=>by simpa[LR]using hv
 |a::l,b::l2,vs,h,hv=>by
  simp only[LR]at hv⊢
  obtain⟨d,ds,rfl,h1,h2⟩:=hv
  exact⟨d,ds,rfl,h.1 _ _ _ h1,WkL.lr h.2 h2⟩
 |[],_::_,vs,h,hv=>h.elim
 |_::_,[],vs,h,hv=>h.elim
theorem Wk.agg{m:List Nat}{l l2:List AV}(h:WkL m l l2):Wk m (.agg l) (.agg l2):=by
 intro sn ι v hv
 obtain⟨d,rfl,h2⟩:=hv.agg
 exact Z33 (h.lr h2)
theorem Wk.tuple{m:List Nat}{l l2:List AV}(h:WkL m l l2):Wk m (.tuple l) (.tuple l2):=by
 intro sn ι v hv
 obtain⟨d,rfl,h2⟩:=hv.tuple
 exact Z5e (h.lr h2)
theorem Wk.func{m:List Nat}{fn:Fn}{f f2 c c2:List AV}(h:WkL m f f2)(k:WkL m c c2):Wk m (.func fn f c) (.func fn f2 c2):=by
 intro sn ι v hv
 obtain⟨x,y,rfl,h1,h2⟩:=hv.func
 simp only[VR];exact⟨x,y,rfl,h.lr h1,k.lr h2⟩
def ZsI(m:List Nat)(t t2:Tr):Prop:=(∀n u2,Z1p t2 n=some u2->∃u,Z1p t n=some u/\Wk m u u2)/\∀n,tex t2 n=true->tex t n=true
def Zau:(Nat->Option AV)->Tr->Tr
 |_,.leaf=>.leaf
 |g,.node x l r=>.node (match x with|some _=>some (g 0)|none=>none) (Zau (λi=>g (Nat.add (Nat.mul 2 i) 1)) l) (Zau (λi=>g (Nat.add (Nat.mul 2 i) 2)) r)
theorem Z3q:∀(t:Tr)(g:Nat->Option AV)(n:Nat)(u:AV),Z1p (Zau g t) n=some u->g n=some u
 | .leaf,g,n,u,h=>by simp[Zau,Z1p]at h
 | .node x l r,g,0,u,h=>by cases x<;>simp[Zau,Z1p]at h;exact h
 | .node x l r,g,n+1,u,h=>by
  simp only[Zau,Z1p]at h
  split at h
  · rename_i hn
    have:=Z3q l _ _ u h
    have hn':n % 2=0:=hn
    have e:Nat.add (Nat.mul 2 (Nat.div n 2)) 1=n+1:=by show 2*(n / 2)+1=n+1;omega
    rw[e]at this;exact this
  · rename_i hn
    have:=Z3q r _ _ u h
    have hn':¬n % 2=0:=hn
    have e:Nat.add (Nat.mul 2 (Nat.div n 2)) 2=n+1:=by show 2*(n / 2)+2=n+1;omega
    rw[e]at this;exact this
theorem Z4i:∀(t:Tr)(g:Nat->Option AV)(n:Nat),tex (Zau g t) n=tex t n
 | .leaf,g,n=>rfl
 | .node x l r,g,0=>by cases x<;>rfl
 | .node x l r,g,n+1=>by
  simp only[Zau,tex]
  split<;>exact Z4i _ _ _
def ZhF:Tr->Tr->Bool
 | .leaf,_=>true
 | .node x l r,.node y l2 r2=>(match x,y with|some _,none=>false|_,_=>true)&&(ZhF l l2&&ZhF r r2)
 | .node ..,.leaf=>false
theorem Z8s:∀{t t2:Tr},ZhF t t2=true->∀n,tex t n=true->tex t2 n=true
 | .leaf,t2,h,n,e=>by simp[tex]at e
 | .node x l r,.node y l2 r2,h,0,e=>by
  simp only[ZhF,Y01]at h
  cases x with
  |none=>simp[tex]at e
  |some x=>cases y with
   |none=>simp at h
   |some y=>rfl
 | .node x l r,.node y l2 r2,h,n+1,e=>by
  simp only[ZhF,Y01]at h
  simp only[tex]at e⊢
  split at e
  ·exact Z8s h.2.1 _ e
  ·exact Z8s h.2.2 _ e
 | .node ..,.leaf,h,n,e=>by simp[ZhF]at h
def SlotsGe(m:List Nat)(t:Tr):List (Nat×AV)->Prop
 |[]=>True
 |(n,u2)::l=>(onO (Z1p t n) λu=>Wk m u u2)/\SlotsGe m t l
theorem SlotsGe.get{m:List Nat}{t:Tr}:∀{l:List (Nat×AV)},SlotsGe m t l->∀n u2,Z21 n l=some u2->∃u,Z1p t n=some u/\Wk m u u2
 |[],h,n,u2,e=>by simp[Z21]at e
 |(k,v)::l,h,n,u2,e=>by
  simp only[Z21]at e
  split at e
  · rename_i hk
    have:=Y03 hk;subst this
    simp at e;subst e
    exact Z04 h.1
  ·exact h.2.get n u2 e
def EGe(m:List Nat):List (AV×AV×Nat)->List (AV×AV×Nat)->Prop
 |[],[]=>True
 |(k,v,n)::l,(k2,v2,n2)::l2=>Wk m k k2/\Wk m v v2/\n=n2/\EGe m l l2
 |_,_=>False
theorem EGe.er{m:List Nat}{sn:Z0o}{ι : Z0n}:∀{l l2:List (AV×AV×Nat)}{es:List MapEntry},EGe m l l2->ER sn ι l es->ER sn (iot m ι) l2 es
 |[],[],es,h,e=>by simpa[ER]using e
 |(k,v,n)::l,(k2,v2,n2)::l2,es,h,e=>by
  obtain⟨h1,h2,rfl,h4⟩:=h
  simp only[ER]at e⊢
  obtain⟨x,l',rfl,g1,g2,g3,g4⟩:=e
  exact⟨x,l',rfl,h1 _ _ _ g1,h2 _ _ _ g2,g3,h4.er g4⟩
 |[],_::_,es,h,e=>h.elim
 |_::_,[],es,h,e=>h.elim
def TSGe(m:List Nat):List (Nat×AV)->List (Nat×AV)->Prop
 |[],[]=>True
 |x::l,y::l2=>x.1=y.1/\Wk m x.2 y.2/\TSGe m l l2
 |_,_=>False
theorem TSGe.tsr{m:List Nat}{sn:Z0o}{ι : Z0n}{a:Array Value}:∀{l l2:List (Nat×AV)},TSGe m l l2->TSR sn ι l a->TSR sn (iot m ι) l2 a
 |[],[],_,_=>trivial
 |x::l,y::l2,⟨h1,h2,h3⟩,⟨⟨v,e1,e2⟩,e3⟩=>⟨⟨v,h1 ▸ e1,h2 _ _ _ e2⟩,h3.tsr e3⟩
 |[],_::_,h,_=>h.elim
 |_::_,[],h,_=>h.elim
def BodyGe(m:List Nat):ABody->ABody->Prop
 | .cells cs ty,.cells cs2 ty2=>ty=ty2/\cs2.length<=cs.length/\∀(i:Nat)(c2:AV),cs2[i]? = some c2->∃c,cs[i]? = some c/\Wk m c c2
 | .map es c,.map es2 c2=>c=c2/\EGe m es es2
 | .siter s p,.siter s2 p2=>s=s2/\p=p2
 | .loop g ts,.loop g2 ts2=>g=g2/\TSGe m ts ts2
 |_,_=>False
theorem BodyGe.pre{m:List Nat}{cs cs2 rest:List AV}{ty:TypeId}(e:cs=cs2++rest)(h:refsL cs2 []=[]):BodyGe m (.cells cs ty) (.cells cs2 ty):=by
 subst e
 refine⟨rfl,by simp,λi c hc=>⟨c,?_,λsn ι v hv=>?_⟩⟩
 ·rw[List.getElem?_append_left (Y04.1 hc).1];exact hc
 · have key : ∀ (l : List AV), refsL l [] = [] -> ∀ (i : Nat) (c : AV), l[i]? = some c -> ∀ b, b ∈ Z2a c [] -> False := by
    intro l
    induction l with
    |nil=>intro _ i c hc;simp at hc
    |cons x l ih =>
     intro hl i c hc b hb
     have hx:∀y,y∈Z2a x (refsL l [])->False:=λy hy=>by simp only[refsL]at hl;rw[hl]at hy;cases hy
     have hl':refsL l []=[]:=by
      rw[List.eq_nil_iff_forall_not_mem];intro y hy;exact hx y (Z2E x _ y hy)
     cases i with
     |zero=>simp at hc;subst hc;rw[hl']at hx;exact hx b hb
     |succ i=>exact ih hl' i c (by simpa using hc) b hb
   exact Z1n c [] v (λb hb=>(key cs2 h i c hc b hb).elim) hv
theorem BodyGe.cellsL{m:List Nat}{cs cs2:List AV}{ty:TypeId}(h:WkL m cs cs2):BodyGe m (.cells cs ty) (.cells cs2 ty):=by
 refine⟨rfl,?_,?_⟩
 · have : ∀ (l l2 : List AV), WkL m l l2 -> l2.length <= l.length := by
    intro l
    induction l with
    |nil=>intro l2 h;cases l2 with|nil=>simp|cons _ _=>exact h.elim
    |cons x l ih=>intro l2 h;cases l2 with|nil=>exact h.elim|cons _ _=>simp;exact ih _ h.2
   exact this _ _ h
 · have : ∀ (l l2 : List AV), WkL m l l2 -> ∀ (i : Nat) (c2 : AV), l2[i]? = some c2 -> ∃ c, l[i]? = some c /\ Wk m c c2 := by
    intro l
    induction l with
    |nil=>intro l2 h i c2 hc;cases l2 with|nil=>simp at hc|cons _ _=>exact h.elim
    |cons x l ih =>
     intro l2 h i c2 hc
     cases l2 with
     |nil=>exact h.elim
     |cons y l2=>cases i with
      |zero=>simp at hc;subst hc;exact⟨x,rfl,h.1⟩
      |succ i=>simpa using ih _ h.2 i c2 (by simpa using hc)
   exact this _ _ h
theorem BodyGe.or{m:List Nat}{sn:Z0o}{ι : Z0n}{W:World}{p:Place}:∀{b b2:ABody},BodyGe m b b2->OR sn ι W b p->OR sn (iot m ι) W b2 p
 | .cells cs ty,.cells cs2 ty2,h,e=>by
  obtain⟨rfl,h1,h2⟩:=h
  simp only[OR]at e⊢
  obtain⟨arr,g1,g2,g3,g4⟩:=e
  refine⟨arr,g1,g2,by omega,λi c2 hc=>?_⟩
  obtain⟨c,e1,e2⟩:=h2 i c2 hc
  obtain⟨v,e3,e4⟩:=g4 i c e1
  exact⟨v,e3,e2 _ _ _ e4⟩
 | .map es c,.map es2 c2,h,e=>by
  obtain⟨rfl,h1⟩:=h
  simp only[OR]at e⊢
  obtain⟨mes,g1,g2⟩:=e
  exact⟨mes,g1,h1.er g2⟩
 | .siter s q,.siter s2 q2,h,e=>by
  obtain⟨rfl,rfl⟩:=h
  simpa only[OR]using e
 | .loop g ts,.loop g2 ts2,h,e=>by
  obtain⟨rfl,h2⟩:=h
  simp only[OR]at e⊢
  obtain⟨r,g1,g2,g3,g4⟩:=e
  exact⟨r,g1,g2,g3,h2.tsr g4⟩
 | .cells _ _,.loop _ _,h,_=>h.elim
 | .map _ _,.loop _ _,h,_=>h.elim
 | .siter _ _,.loop _ _,h,_=>h.elim
 | .loop _ _,.cells _ _,h,_=>h.elim
 | .loop _ _,.map _ _,h,_=>h.elim
 | .loop _ _,.siter _ _,h,_=>h.elim
 | .cells _ _,.map _ _,h,_=>h.elim
 | .cells _ _,.siter _ _,h,_=>h.elim
 | .map _ _,.cells _ _,h,_=>h.elim
 | .map _ _,.siter _ _,h,_=>h.elim
 | .siter _ _,.cells _ _,h,_=>h.elim
 | .siter _ _,.map _ _,h,_=>h.elim
def HpGe(H:Z00)(m:List Nat):List Nat->Z00->Nat->Prop
 |[],[],_=>True
 |j::l,o2::H2,i=>(onO H[j]? λo=>o.alive=true/\o2.alive=true/\o2.fam=i/\o2.sh=o.sh/\BodyGe m o.body o2.body)/\HpGe H m l H2 (i+1)
 |_,_,_=>False
theorem HpGe.get{H:Z00}{m:List Nat}:∀{l:List Nat}{H2:Z00}{i:Nat},HpGe H m l H2 i->H2.length=l.length/\∀b,b<l.length->∃j o o2,l[b]? = some j/\H[j]? = some o/\H2[b]? = some o2/\o.alive=true/\o2.alive=true/\o2.fam=i+b/\o2.sh=o.sh/\BodyGe m o.body o2.body
 |[],[],i,h=>⟨rfl,λb hb=>by simp at hb⟩
 |j::l,o2::H2,i,h=>by
  obtain⟨h1,h2⟩:=h
  obtain⟨o,ho,e1,e2,e3,e4,e5⟩:=Z04 h1
  obtain⟨k1,k2⟩:=h2.get
  refine⟨by simp[k1],λb hb=>?_⟩
  cases b with
  |zero=>exact⟨j,o,o2,rfl,ho,rfl,e1,e2,e3,e4,e5⟩
  |succ b =>
   obtain⟨j',o',o2',x1,x2,x3,x4,x5,x6,x7,x8⟩:=k2 b (by simpa using hb)
   exact⟨j',o',o2',by simpa using x1,x2,by simpa using x3,x4,x5,by omega,x7,x8⟩
 |[],_::_,i,h=>h.elim
 |_::_,[],i,h=>h.elim
def Z1x(H:Z00)(j:Nat):Nat:=match H[j]? with|some o=>o.fam|none=>0
def Z0U:List Nat->Bool
 |[]=>true
 |n::l=>!(mem n l)&&Z0U l
theorem Z5r:∀{l:List Nat}{i j:Nat}{x:Nat},Z0U l=true->l[i]? = some x->l[j]? = some x->i=j
 |[],i,j,x,h,hi,hj=>by simp at hi
 |n::l,i,j,x,h,hi,hj=>by
  simp only[Z0U,Y01,Y0h]at h
  have nm:∀k,l[k]? = some n->False:=λk hk=>by
   have:mem n l=true:=Z18.2 (Y0i hk)
   rw[h.1]at this;cases this
  cases i with
  |zero=>cases j with
   |zero=>rfl
   |succ j=>simp at hi hj;subst hi;exact (nm j hj).elim
  |succ i=>cases j with
   |zero=>simp at hi hj;subst hj;exact (nm i hi).elim
   |succ j=>simp at hi hj;rw[Z5r h.2 hi hj]
def ZfK:Nat->Nat->List Nat->Bool
 |0,_,_=>true
 |k+1,i,j::m=>Y00 j i&&ZfK k (i+1) m
 |_+1,_,[]=>false
theorem Zbn:∀{k i:Nat}{m:List Nat},ZfK k i m=true->∀b,b<k->m[b]? = some (i+b)
 |0,i,m,h,b,hb=>by omega
 |k+1,i,[],h,b,hb=>by simp[ZfK]at h
 |k+1,i,j::m,h,b,hb=>by
  simp only[ZfK,Y01]at h
  have:=Y03 h.1;subst this
  cases b with
  |zero=>simp
  |succ b=>have:=Zbn h.2 b (by omega);simp only[List.getElem?_cons_succ,this];congr 1;omega
structure Fg (k:Nat) (m:List Nat) (tm:Tr) (H:Z00) (tm2:Tr) (H2:Z00):Prop where
 tr:ZsI m tm tm2
 hp:HpGe H m m H2 0
 fams:Z0U (m.map (Z1x H))=true
 kp:ZfK k 0 m=true
theorem Fg.sound{k:Nat}{m:List Nat}{tm tm2:Tr}{H H2:Z00}(h:Fg k m tm H tm2 H2){sn:Z0o}{ι : Z0n}{W:World}{a:Act}(hR:R sn ι H W)(ht:TRel sn ι tm a):Stq k sn ι H W sn (iot m ι) H2 W/\TRel sn (iot m ι) tm2 a:=by
 obtain⟨hl,hg⟩:=h.hp.get
 have at2:∀{b:Nat}{o2:AObj}{p:Place},H2[b]? = some o2->iot m ι b=some p->∃j o,m[b]? = some j/\H[j]? = some o /\ ι j=some p/\o.alive=true/\o2.alive=true/\o2.fam=b/\o2.sh=o.sh/\BodyGe m o.body o2.body:=by
  intro b o2 p hb hp
  obtain⟨j,o,o2',x1,x2,x3,x4,x5,x6,x7,x8⟩:=hg b (by rw[<- hl];exact (Y04.1 hb).1)
  rw[hb]at x3;simp at x3;subst x3
  simp only[iot,x1]at hp
  exact⟨j,o,x1,x2,hp,x4,x5,by omega,x7,x8⟩
 have hR2:R sn (iot m ι) H2 W:=by
  refine⟨λb=>⟨λhb=>?_,λ⟨p,hp⟩=>?_⟩,λb p hp=>?_,λb o2 p hb ha hp=>?_,λb b' o o' p p' hb hb' ha ha' hp hp' e=>?_,λad v hv=>?_,λb o2 p hb hp e=>?_⟩
  · obtain⟨j,o,o2,x1,x2,_⟩:=hg b (by omega)
    obtain⟨p,hp⟩:=hR.place x2
    exact⟨p,by simp only[iot,x1];exact hp⟩
  · unfold iot at hp
    split at hp
    ·rename_i j hj;rw[hl];exact (Y04.1 hj).1
    ·cases hp
  · unfold iot at hp
    split at hp
    ·exact hR.blk _ p hp
    ·cases hp
  · obtain⟨j,o,x1,x2,x3,x4,x5,x6,x7,x8⟩:=at2 hb hp
    exact x8.or (hR.obj j o p x2 x4 x3)
  · obtain⟨j,q,x1,x2,x3,x4,x5,x6,x7,x8⟩:=at2 hb hp
    obtain⟨j',q',y1,y2,y3,y4,y5,y6,y7,y8⟩:=at2 hb' hp'
    have hs:=hR.sep j j' q q' p p' x2 y2 x4 y4 x3 y3 e
    have:b=b':=Z5r (l:=m.map (Z1x H)) (x:=q.fam) h.fams (by simp[x1,Z1x,x2]) (by simp[y1,Z1x,y2,hs.1])
    subst this
    exact⟨by rw[x6,y6],by rw[x7,y7];exact hs.2⟩
  · obtain⟨h1,h2,h3⟩:=hR.snap ad v hv
    refine⟨h1,h2,λb o2 p hb ha hp=>?_⟩
    obtain⟨j,o,x1,x2,x3,x4,_⟩:=at2 hb hp
    exact h3 j o p x2 x4 x3
  · obtain⟨j,o,x1,x2,x3,x4,x5,x6,x7,x8⟩:=at2 hb hp
    exact hR.shz j o p x2 x3 (by omega)
 refine⟨⟨hR2,λ_ _ h=>h,λb o2 p hb ha hp=>?_,λ_ _ _=>rfl,Nat.le_refl _,rfl,rfl,rfl,λ_ _ h=>.inl h,λb p hb hp=>by have:=Zbn h.kp b hb;simp only[Y02]at this;simp only[iot,this];exact hp⟩,λt u2 hu=>?_,λt hx=>ht.2 t (h.tr.2 t hx)⟩
 · obtain⟨j,o,x1,x2,x3,x4,_⟩:=at2 hb hp
   exact .inr ⟨j,o,p,x2,x4,x3,rfl⟩
 · obtain⟨u,h1,h2⟩:=h.tr.1 t u2 hu
   obtain⟨v,h3,h4⟩:=ht.1 t u h1
   exact⟨v,h3,h2 _ _ _ h4⟩
theorem Z38{sn sn':Z0o}(h:∀a v,sn a=some v->sn' a=some v):Le sn sn' noI noI:=⟨h,λ_ _ h=>h⟩
def FgS(k:Nat)(tm:Tr)(H:Z00)(tm2:Tr)(H2:Z00):Prop :=
 ∀(sn:Z0o)(ι : Z0n)(W:World)(a:Act),R sn ι H W->TRel sn ι tm a->∃sn' ι',Stq k sn ι H W sn' ι' H2 W/\TRel sn' ι' tm2 a
theorem Fg.s{k:Nat}{m:List Nat}{tm tm2:Tr}{H H2:Z00}(h:Fg k m tm H tm2 H2):FgS k tm H tm2 H2:=λsn ι W a hR ht=>⟨sn,iot m ι,h.sound hR ht⟩
def FgLK(k:Nat)(t0 tm:Tr)(H:Z00)(l:List (Nat×AV))(H2:Z00):Prop :=
 match ZhF t0 tm with
 |true=>(∃m,ZfK k 0 m=true/\SlotsGe m tm l/\HpGe H m m H2 0/\Z0U (m.map (Z1x H))=true)\/FgS k tm H (Zau (λn=>Z21 n l) t0) H2
 |false=>False
abbrev FgL:=FgLK 0
theorem FgLK.fg{k:Nat}{t0 tm:Tr}{H:Z00}{l:List (Nat×AV)}{H2:Z00}(h:FgLK k t0 tm H l H2):FgS k tm H (Zau (λn=>Z21 n l) t0) H2:=by
 unfold FgLK at h
 split at h
 · rename_i hs
   rcases h with ⟨m,h0,h1,h2,h3⟩|h
   ·exact Fg.s (m:=m) ⟨⟨λn u2 e=>h1.get n u2 (Z3q _ _ _ _ e),λn e=>Z8s hs n (by rwa [Z4i]at e)⟩,h2,h3,h0⟩
   ·exact h
 ·exact h.elim
def Zos(x:Option (Option AV))(k:Option (Option AV)->Prop):Prop:=match x with
 |none=>k none
 |some none=>k (some none)
 |some (some v)=>Zjy v λv=>k (some (some v))
theorem Zm2(x:Option (Option AV))(k:Option (Option AV)->Prop):Zos x k=k x:=by
 cases x with
 |none=>rfl
 |some x=>cases x with
  |none=>rfl
  |some v=>simp only[Zos,Z3I]
def frcTr:Tr->(Tr->Prop)->Prop
 | .leaf,k=>k .leaf
 | .node x l r,k=>Zos x λx=>frcTr l λl=>frcTr r λr=>k (.node x l r)
theorem Z1L:∀(t:Tr)(k:Tr->Prop),frcTr t k=k t
 | .leaf,k=>rfl
 | .node x l r,k=>by simp only[frcTr,Zm2,Z1L l,Z1L r]
def ZoR(D:Nat):Deferred:={ target:=.collected D,args:=#[] }
def DefOK(W0:World)(d0:List Deferred)(ι : Z0n)(H:Z00)(W:World)(d:List Deferred):Prop :=
 ∃ds:List Nat,d=ds.map ZoR++d0/\ds.Nodup/\∀D∈ds,W0.heap.size<=D/\W.heap[D]? = some (.deferred (some []))/\∀(b:Nat)(o:AObj) p,H[b]? = some o->o.alive=true -> ι b=some p->p.blk≠D
theorem DefOK.eq{W0 W:World}{d0 d:List Deferred}{ι : Z0n}{H:Z00}(h:d=d0):DefOK W0 d0 ι H W d:=⟨[],by simp[h],List.nodup_nil,λ_ h=>by cases h⟩
theorem DefOK.trans{k:Nat}{W W1 W2:World}{d d1 d2:List Deferred}{sn1 sn2:Z0o}{ι1 ι2:Z0n}{H1 H2:Z00}(hs:W.heap.size<=W1.heap.size)(h:DefOK W d ι1 H1 W1 d1)(s:Stq k sn1 ι1 H1 W1 sn2 ι2 H2 W2)(h2:DefOK W1 d1 ι2 H2 W2 d2):DefOK W d ι2 H2 W2 d2:=by
 obtain⟨ds,rfl,n1,e1⟩:=h
 obtain⟨ds2,rfl,n2,e2⟩:=h2
 have hlt:∀D∈ds,D<W1.heap.size:=λD hD=>(Y0c.1 (e1 D hD).2.1).1
 refine⟨ds2++ds,by simp,?_,λD hD=>?_⟩
 · rw[List.nodup_append]
   refine⟨n2,n1,λa ha b hb e=>?_⟩
   subst e
   have:=(e2 a ha).1;have:=hlt a hb;omega
 · rcases Y0n.1 hD with hD|hD
   · obtain⟨g1,g2,g3⟩:=e2 D hD
     exact⟨by omega,g2,g3⟩
   · obtain⟨g1,g2,g3⟩:=e1 D hD
     refine⟨g1,by rw[s.frame D (hlt D hD) g3];exact g2,λb o p hb ha hp e=>?_⟩
     rcases s.fresh b o p hb ha hp with f1|⟨b0,o0,p0,f1,f2,f3,f4⟩
     ·have:=hlt D hD;omega
     ·exact g3 b0 o0 p0 f1 f2 f3 (f4.trans e)
structure Shut (ds:List Nat) (W W':World):Prop where
 other:∀c,c ∉ ds->W'.heap[c]? = W.heap[c]?
 size:W'.heap.size=W.heap.size
 os:W'.os=W.os
 tape:W'.tape=W.tape
 output:W'.output=W.output
theorem Stq.shut{k:Nat}{ds:List Nat}{sn sn1:Z0o}{ι ι1:Z0n}{H H1:Z00}{W W1 W2:World}(s:Stq k sn ι H W sn1 ι1 H1 W1)(hd:∀D∈ds,W.heap.size<=D/\W1.heap[D]? = some (.deferred (some []))/\∀(b:Nat)(o:AObj) p,H1[b]? = some o->o.alive=true -> ι1 b=some p->p.blk≠D)(h:Shut ds W1 W2):Stq k sn ι H W sn1 ι1 H1 W2:=by
 have hR:=s.rel
 refine⟨⟨hR.dom,λb p hp=>by rw[h.size];exact hR.blk b p hp,λb o p hb ha hp=>?_,hR.sep,λa v hv=>?_,hR.shz⟩,s.le,s.fresh,λc hc hno=>?_,by rw[h.size];exact s.size,h.os.trans s.os,h.tape.trans s.tape,h.output.trans s.output,s.sfresh,s.keep⟩
 ·exact Z0P (Le.refl _ _) (h.other _ λhm=>(hd _ hm).2.2 b o p hb ha hp rfl) (hR.obj b o p hb ha hp)
 · obtain⟨g1,g2,g3⟩:=hR.snap a v hv
   refine⟨by rw[h.size];exact g1,?_,g3⟩
   rw[World.cell?_of_block (h.other _ λhm=>?_)]
   ·exact g2
   · have:=(hd _ hm).2.1
     unfold World.cell? at g2
     rw[this]at g2;cases g2
 · rw[h.other c λhm=>by have:=(hd _ hm).1;omega]
   exact s.frame c hc hno
def Tri(P:Program)(gl:Z0k)(rd:Option Nat)(k:Nat)(c:Code)(tm:Tr)(H:Z00)(Φ : AEx->Tr->Z00->Prop):Prop :=
 ∀(a:Act)(W:World)(sn:Z0o)(ι : Z0n)(Q:Exit->Act->World->Prop),GlOK gl sn->R sn ι H W->TRel sn ι tm a ->
  (∀x tm' H' a' W' sn' ι',Φ x tm' H'->Stq k sn ι H W sn' ι' H' W'->TRel sn' ι' tm' a'->DefOK W a.defers ι' H' W' a'.defers->Q (Zpy x) a' W')->c.wpIn (Fq rd) 0 P Q a W
def Zpx(kn:Tr->Z00->Prop)(kx:Nat->Tr->Z00->Prop)(kr:Tr->Z00->Prop)(x:AEx)(tm:Tr)(H:Z00):Prop:=match x with
 | .normal=>kn tm H
 | .exit id=>kx id tm H
 | .ret=>kr tm H
def Z5J(k:Nat)(body:(Tr->Z00->Prop)->Tr->Z00->Prop)(tm:Tr)(H:Z00):Prop :=
 ∃ (S:Type) (I:S->Prop) (L:S->List (Nat×AV)) (B:S->Z00) (μ : S->Nat),(∃s,I s/\FgLK k tm tm H (L s) (B s)) /\
  ∀s,I s->frcTr (Zau (λn=>Z21 n (L s)) tm) λtm1=>Z1M (B s) λH1=>body (λtm' H'=>∃s',I s' /\ μ s'<μ s/\FgLK k tm tm' H' (L s') (B s')) tm1 H1
abbrev KN:=Tr->Z00->Prop
abbrev KX:=Nat->Tr->Z00->Prop
structure LH where
 lp:((Tr->Z00->Prop)->Tr->Z00->Prop)->Tr->Z00->Prop
 rf:AV->Array Tmp->Code->Code->KN->KX->KN->Tr->Z00->Prop
def ZrS:AV->Array Tmp->Code->Code->KN->KX->KN->Tr->Z00->Prop:=λ_ _ _ _ _ _ _ _ _=>False
def Z6A:LH:=⟨λ_ _ _=>False,ZrS⟩
def Zab(k:Nat):LH:=⟨Z5J k,ZrS⟩
abbrev ZhO:=Zab 0
noncomputable def Z29(P:Program)(gl:Z0k)(orc:Orc)(cw:CW)(lh:LH)(c:Code):KN->KX->KN->Tr->Z00->Prop :=
 Code.rec (motive:=λ_=>KN->KX->KN->Tr->Z00->Prop)
  (λkn _ _ tm H=>kn tm H)
  (fun _ ops draw kn _ _ tm H => match draw with
    |true=>Zdo P gl orc cw ops.toList tm H kn
    |false=>ZfA P gl orc cw ops.toList ops.toList tm H kn)
  (λ_ _ iha ihb kn kx kr tm H=>iha (λtm H=>ihb kn kx kr tm H) kx kr tm H)
  (fun c _ _ iha ihb kn kx kr tm H => onO (Z3f gl tm c) fun v => match v with
    | .bool t=>(t=true->iha kn kx kr tm H)/\(t=false->ihb kn kx kr tm H)
    |_=>False)
  (λid _ ih kn kx kr tm H=>ih kn (λid' tm H=>match Y00 id' id with|true=>kn tm H|false=>kx id' tm H) kr tm H)
  (λ_ ih _ kx kr tm H=>lh.lp (λkn tm H=>ih kn kx kr tm H) tm H)
  (λf ps asg bd _ _ kn kx kr tm H=>onO (Z3f gl tm f) λv=>lh.rf v ps asg bd kn kx kr tm H)
  (λid _ kx _ tm H=>kx id tm H)
  (λ_ _ _ _ _ _ _=>False)
  (λ_ _ _ _ _ _=>False)
  (λ_ _ _ _ _ _=>False)
  (λ_ _ kr tm H=>kr tm H)
  (λ_ _ _ _ _ _=>False) c
section code
variable {P:Program} {gl:Z0k} {orc:Orc} {k:Nat} {rd:Option Nat}
theorem Tri.mono{c:Code}{tm:Tr}{H:Z00}{Φ Ψ : AEx->Tr->Z00->Prop}(h:Tri P gl rd k c tm H Φ)(hk:∀x tm' H',Φ x tm' H' -> Ψ x tm' H'):Tri P gl rd k c tm H Ψ :=
 λa W sn ι Q hg hR ht hQ=>h a W sn ι Q hg hR ht λx tm' H' a' W' sn' ι' hx=>hQ x tm' H' a' W' sn' ι' (hk _ _ _ hx)
theorem Tri.seq{c d:Code}{tm:Tr}{H:Z00}{Φ : AEx->Tr->Z00->Prop}(h:Tri P gl rd k c tm H λx tm1 H1=>match x with | .normal=>Tri P gl rd k d tm1 H1 Φ | x=>Φ x tm1 H1):Tri P gl rd k (.seq c d) tm H Φ:=by
 intro a W sn ι Q hg hR ht hQ
 refine wpIn_seq (h a W sn ι _ hg hR ht λx tm1 H1 a1 W1 sn1 ι1 hx s1 t1 d1=>?_)
 cases x with
 |normal =>
  show Code.wpIn (Fq rd) 0 P d Q a1 W1
  refine hx a1 W1 sn1 ι1 Q (hg.mono (Z38 s1.le)) s1.rel t1 λx tm2 H2 a2 W2 sn2 ι2 hx2 s2 t2 d2=>?_
  exact hQ _ _ _ _ _ _ _ hx2 (s1.trans s2) t2 (DefOK.trans s1.size d1 s2 d2)
 |exit id=>exact hQ (.exit id) tm1 H1 _ _ _ _ hx s1 t1 d1
 |ret=>exact hQ .ret tm1 H1 _ _ _ _ hx s1 t1 d1
theorem Tri.forget{c:Code}{tm:Tr}{H:Z00}{Φ : AEx->Tr->Z00->Prop}{tm2:Tr}{H2:Z00}(hf:FgS k tm H tm2 H2)(h:Tri P gl rd k c tm2 H2 Φ):Tri P gl rd k c tm H Φ:=by
 intro a W sn ι Q hg hR ht hQ
 obtain⟨sn1,ι1,s1,t1⟩:=hf sn ι W a hR ht
 exact h a W sn1 ι1 Q (hg.mono (Z38 s1.le)) s1.rel t1 λx tm' H' a' W' sn' ι' hx s2 t2 d2=>hQ x tm' H' a' W' sn' ι' hx (s1.trans s2) t2 d2
theorem Tri.loop {b : Code} {S : Type} {I : S -> Prop} {T : S -> Tr} {B : S -> Z00} {μ : S -> Nat} {Φ : AEx -> Tr -> Z00 -> Prop}
  (h:∀s,I s->Tri P gl rd k b (T s) (B s) λx tm' H'=>match x with | .normal=>∃s',I s' /\ μ s'<μ s/\FgS k tm' H' (T s') (B s')|x=>Φ x tm' H') {s:S} (h0:I s):Tri P gl rd k (.loop b) (T s) (B s) Φ:=by
 have key : ∀ (n : Nat) (s : S), μ s < n -> I s -> ∀ (a : Act) (W : World) (sn : Z0o) (ι : Z0n) (Q : Exit -> Act -> World -> Prop), GlOK gl sn -> R sn ι (B s) W -> TRel sn ι (T s) a ->
   (∀x tm' H' a' W' sn' ι',Φ x tm' H'->Stq k sn ι (B s) W sn' ι' H' W'->TRel sn' ι' tm' a'->DefOK W a.defers ι' H' W' a'.defers->Q (Zpy x) a' W')->Code.roundsIn (Fq rd) 0 P b Q n a W:=by
  intro n
  induction n with
  |zero=>intro s hs;omega
  |succ n ih =>
   intro s hs hI a W sn ι Q hg hR ht hQ
   rw[roundsIn_succ]
   refine h s hI a W sn ι _ hg hR ht λx tm1 H1 a1 W1 sn1 ι1 hx s1 t1 d1=>?_
   cases x with
   |normal =>
    show Code.roundsIn (Fq rd) 0 P b Q n a1 W1
    obtain⟨s',hI',hs',hf⟩:=hx
    obtain⟨sn2,ι2,s2,t2⟩:=hf sn1 ι1 W1 a1 s1.rel t1
    refine ih s' (by omega) hI' a1 W1 sn2 ι2 Q ((hg.mono (Z38 s1.le)).mono (Z38 s2.le)) s2.rel t2 λx tm3 H3 a3 W3 sn3 ι3 hx3 s3 t3 d3=>?_
    exact hQ _ _ _ _ _ _ _ hx3 ((s1.trans s2).trans s3) t3 (DefOK.trans s1.size d1 (s2.trans s3) d3)
   |exit id=>exact hQ (.exit id) tm1 H1 _ _ _ _ hx s1 t1 d1
   |ret=>exact hQ .ret tm1 H1 _ _ _ _ hx s1 t1 d1
 intro a W sn ι Q hg hR ht hQ
 exact wpIn_loop_rounds (μ s+1) (key (μ s+1) s (by omega) h0 a W sn ι Q hg hR ht hQ)
def Zr2(P:Program)(gl:Z0k)(rd:Option Nat)(k:Nat)(rf:AV->Array Tmp->Code->Code->KN->KX->KN->Tr->Z00->Prop):Prop :=
 ∀f v ps asg bd kn kx kr tm H,Z3f gl tm f=some v->rf v ps asg bd kn kx kr tm H->Tri P gl rd k (.rangeFunc f ps asg bd) tm H (Zpx kn kx kr)
theorem Z1B {rf : AV -> Array Tmp -> Code -> Code -> KN -> KX -> KN -> Tr -> Z00 -> Prop} (hrf : Zr2 P gl rd k rf) (hm : P.follows .mixedOrders = true) (hn : NoNum P) (hO : OrcSound P gl orc) {cw : CW} (hcw : Z5O P orc cw) : ∀ (c : Code) {kn : Tr -> Z00 -> Prop} {kx : Nat -> Tr -> Z00 -> Prop} {kr : Tr -> Z00 -> Prop} {tm : Tr} {H : Z00},
  Z29 P gl orc cw ⟨Z5J k,rf⟩ c kn kx kr tm H->Tri P gl rd k c tm H (Zpx kn kx kr)
 | .skip,kn,kx,kr,tm,H,h=>λa W sn ι Q hg hR ht hQ=>by
  exact wpIn_skip (hQ .normal tm H a W sn ι h (Stq.refl hR) ht (DefOK.eq rfl))
 | .region id ops draw,kn,kx,kr,tm,H,h=>λa W sn ι Q hg hR ht hQ=>by
  cases draw with
  |true =>
   replace h:Zdo P gl orc cw ops.toList tm H kn:=h
   obtain⟨tm',H',h1,h⟩:=Z8J P gl orc cw hcw h
   exact Zf1 hm hn hO hg hR ht h1 (λa' W' sn' ι' s1 t1 d1=>hQ .normal tm' H' a' W' sn' ι' h (s1.q hR) t1 (DefOK.eq d1)) id
  |false =>
   replace h:ZfA P gl orc cw ops.toList ops.toList tm H kn:=h
   obtain⟨tm',H',h1,h⟩:=Z4K P gl orc cw hcw h
   exact wpIn_region_list (Zhu hn hO ops _ _ _ _ _ _ _ _ _ h1 hg hR ht λa' W' sn' ι' s1 t1 d1=>hQ .normal tm' H' a' W' sn' ι' h (s1.q hR) t1 (DefOK.eq d1))
 | .seq c d,kn,kx,kr,tm,H,h=>by
  replace h:Z29 P gl orc cw ⟨Z5J k,rf⟩ c (λtm H=>Z29 P gl orc cw ⟨Z5J k,rf⟩ d kn kx kr tm H) kx kr tm H:=h
  refine Tri.seq ((Z1B hrf hm hn hO hcw c h).mono λx tm1 H1 hx=>?_)
  cases x with
  |normal=>exact Z1B hrf hm hn hO hcw d hx
  |exit id=>exact hx
  |ret=>exact hx
 | .cond e c d,kn,kx,kr,tm,H,h=>λa W sn ι Q hg hR ht hQ=>by
  replace h:(onO (Z3f gl tm e) λv=>match v with
   | .bool t=>(t=true->Z29 P gl orc cw ⟨Z5J k,rf⟩ c kn kx kr tm H)/\(t=false->Z29 P gl orc cw ⟨Z5J k,rf⟩ d kn kx kr tm H)
   |_=>False):=h
  obtain⟨v,hv,h⟩:=Z04 h
  split at h
  · rename_i t
    have he:=(Z1e hg ht _ _ hv).bool
    cases t with
    |true=>exact wpIn_cond_true he (Z1B hrf hm hn hO hcw c (h.1 rfl) a W sn ι Q hg hR ht hQ)
    |false=>exact wpIn_cond_false he (Z1B hrf hm hn hO hcw d (h.2 rfl) a W sn ι Q hg hR ht hQ)
  ·exact h.elim
 | .block id b,kn,kx,kr,tm,H,h=>λa W sn ι Q hg hR ht hQ=>by
  replace h:Z29 P gl orc cw ⟨Z5J k,rf⟩ b kn (λid' tm H=>match Y00 id' id with|true=>kn tm H|false=>kx id' tm H) kr tm H:=h
  refine wpIn_block (Z1B hrf hm hn hO hcw b h a W sn ι _ hg hR ht λx tm1 H1 a1 W1 sn1 ι1 hx s1 t1 d1=>?_)
  cases x with
  |normal=>exact hQ .normal tm1 H1 _ _ _ _ hx s1 t1 d1
  |ret=>exact hQ .ret tm1 H1 _ _ _ _ hx s1 t1 d1
  |exit id' =>
   show (if id'=id then Q .normal a1 W1 else Q (.exit id') a1 W1)
   have hx:(match Y00 id' id with|true=>kn tm1 H1|false=>kx id' tm1 H1):=hx
   by_cases e:id'=id
   · rw[if_pos e]
     subst e
     have:Y00 id' id'=true:=by simp
     rw[this]at hx
     exact hQ .normal tm1 H1 _ _ _ _ hx s1 t1 d1
   · rw[if_neg e]
     have:Y00 id' id=false:=by cases hb:Y00 id' id with|false=>rfl|true=>exact (e (Y03 hb)).elim
     rw[this]at hx
     exact hQ (.exit id') tm1 H1 _ _ _ _ hx s1 t1 d1
 | .loop b,kn,kx,kr,tm,H,h=>by
  replace h:Z5J k (λkn tm H=>Z29 P gl orc cw ⟨Z5J k,rf⟩ b kn kx kr tm H) tm H:=h
  unfold Z5J at h
  obtain⟨S,I,L,B,μ,⟨s,h0,hf⟩,h⟩:=h
  refine Tri.forget hf.fg (Tri.loop (I:=I) (T:=λs=>Zau (λn=>Z21 n (L s)) tm) (B:=B) (μ:=μ) (λs hI=>?_) h0)
  have h:=h s hI
  rw[Z1L,Z0u]at h
  refine (Z1B hrf hm hn hO hcw b h).mono λx tm' H' hx=>?_
  cases x with
  |normal =>
   obtain⟨s',k1,k2,k3⟩:=hx
   exact⟨s',k1,k2,k3.fg⟩
  |exit id=>exact hx
  |ret=>exact hx
 | .exit id,kn,kx,kr,tm,H,h=>λa W sn ι Q hg hR ht hQ=>by
  exact wpIn_exit (hQ (.exit id) tm H a W sn ι h (Stq.refl hR) ht (DefOK.eq rfl))
 | .ret,kn,kx,kr,tm,H,h=>λa W sn ι Q hg hR ht hQ=>by
  exact wpIn_ret (hQ .ret tm H a W sn ι h (Stq.refl hR) ht (DefOK.eq rfl))
 | .rangeFunc f ps asg bd,kn,kx,kr,tm,H,h=>by
  replace h:(onO (Z3f gl tm f) λv=>rf v ps asg bd kn kx kr tm H):=h
  obtain⟨v,hv,h⟩:=Z04 h
  exact hrf f v ps asg bd kn kx kr tm H hv h
 | .scope ..,kn,kx,kr,tm,H,h=>(h:False).elim
 | .label ..,kn,kx,kr,tm,H,h=>(h:False).elim
 | .goto ..,kn,kx,kr,tm,H,h=>(h:False).elim
 | .refuse ..,kn,kx,kr,tm,H,h=>(h:False).elim
theorem Z3P {fuel : Nat} {cw : CW} (hcw : Z5O P orc cw) : ∀ (c : Code) {kn : Tr -> Z00 -> Prop} {kx : Nat -> Tr -> Z00 -> Prop} {kr : Tr -> Z00 -> Prop} {tm : Tr} {H : Z00},
  Z29 P gl orc cw Z6A c kn kx kr tm H->∃x tm' H',Z1O P gl orc fuel c tm H=some (x,tm',H')/\Zpx kn kx kr x tm' H'
 | .skip,kn,kx,kr,tm,H,h=>⟨.normal,tm,H,rfl,h⟩
 | .region id ops draw,kn,kx,kr,tm,H,h=>by
  cases draw with
  |true =>
   replace h:Zdo P gl orc cw ops.toList tm H kn:=h
   obtain⟨tm',H',h1,h⟩:=Z8J P gl orc cw hcw h
   exact⟨.normal,tm',H',by simp only[Z1O,if_true,h1],h⟩
  |false =>
   replace h:ZfA P gl orc cw ops.toList ops.toList tm H kn:=h
   obtain⟨tm',H',h1,h⟩:=Z4K P gl orc cw hcw h
   exact⟨.normal,tm',H',by simp only[Z1O,Y07,if_false,h1],h⟩
 | .seq c d,kn,kx,kr,tm,H,h=>by
  replace h:Z29 P gl orc cw Z6A c (λtm H=>Z29 P gl orc cw Z6A d kn kx kr tm H) kx kr tm H:=h
  obtain⟨x,tm1,H1,h1,h⟩:=Z3P (fuel:=fuel) hcw c h
  cases x with
  |normal =>
   obtain⟨x2,tm2,H2,h2,h⟩:=Z3P (fuel:=fuel) hcw d (show Z29 P gl orc cw Z6A d kn kx kr tm1 H1 from h)
   exact⟨x2,tm2,H2,by simp only[Z1O,h1,h2],h⟩
  |exit id=>exact⟨.exit id,tm1,H1,by simp only[Z1O,h1],h⟩
  |ret=>exact⟨.ret,tm1,H1,by simp only[Z1O,h1],h⟩
 | .cond e c d,kn,kx,kr,tm,H,h=>by
  replace h:(onO (Z3f gl tm e) λv=>match v with
   | .bool t=>(t=true->Z29 P gl orc cw Z6A c kn kx kr tm H)/\(t=false->Z29 P gl orc cw Z6A d kn kx kr tm H)
   |_=>False):=h
  obtain⟨v,hv,h⟩:=Z04 h
  split at h
  · rename_i t
    cases t with
    |true=>obtain⟨x,tm1,H1,h1,h⟩:=Z3P (fuel:=fuel) hcw c (h.1 rfl);exact⟨x,tm1,H1,by simp only[Z1O,hv,h1],h⟩
    |false=>obtain⟨x,tm1,H1,h1,h⟩:=Z3P (fuel:=fuel) hcw d (h.2 rfl);exact⟨x,tm1,H1,by simp only[Z1O,hv,h1],h⟩
  ·exact h.elim
 | .block id b,kn,kx,kr,tm,H,h=>by
  replace h:Z29 P gl orc cw Z6A b kn (λid' tm H=>match Y00 id' id with|true=>kn tm H|false=>kx id' tm H) kr tm H:=h
  obtain⟨x,tm1,H1,h1,h⟩:=Z3P (fuel:=fuel) hcw b h
  cases x with
  |normal=>exact⟨.normal,tm1,H1,by simp only[Z1O,h1],h⟩
  |ret=>exact⟨.ret,tm1,H1,by simp only[Z1O,h1],h⟩
  |exit id' =>
   have h:(match Y00 id' id with|true=>kn tm1 H1|false=>kx id' tm1 H1):=h
   cases hb:Y00 id' id with
   |true=>rw[hb]at h;exact⟨.normal,tm1,H1,by simp only[Z1O,h1,hb,if_true],h⟩
   |false=>rw[hb]at h;exact⟨.exit id',tm1,H1,by simp only[Z1O,h1,hb,Y07,if_false],h⟩
 | .loop b,kn,kx,kr,tm,H,h=>(h:False).elim
 | .exit id,kn,kx,kr,tm,H,h=>⟨.exit id,tm,H,rfl,h⟩
 | .ret,kn,kx,kr,tm,H,h=>⟨.ret,tm,H,rfl,h⟩
 | .rangeFunc f ps asg bd,kn,kx,kr,tm,H,h=>by
  replace h:(onO (Z3f gl tm f) λ_=>False):=h
  obtain⟨_,_,h⟩:=Z04 h
  exact h.elim
 | .scope ..,kn,kx,kr,tm,H,h=>(h:False).elim
 | .label ..,kn,kx,kr,tm,H,h=>(h:False).elim
 | .goto ..,kn,kx,kr,tm,H,h=>(h:False).elim
 | .refuse ..,kn,kx,kr,tm,H,h=>(h:False).elim
theorem Z7Y {fn : Func} {tmps : Array Value} {Q : Ending -> World -> Prop} : ∀ (ds : List Nat) (W : World), ds.Nodup -> (∀ D ∈ ds, W.heap[D]? = some (.deferred (some []))) ->
  (∀W',Shut ds W W'->∃v,(results fn tmps).run P W' = .ok v W'/\Q (.returned v) W')->LeavesInM (Fq none) 0 P fn tmps Q (ds.map ZoR) .returning W
 |[],W,hn,hd,h=>by
  obtain⟨v,h1,h2⟩:=h W ⟨λ_ _=>rfl,rfl,rfl,rfl,rfl⟩
  exact⟨v,h1,h2⟩
 |D::ds,W,hn,hd,h=>by
  have hn':=List.nodup_cons.1 hn
  refine⟨by simp,.inl ⟨D,W.putObj D (.deferred none),rfl,run_takeDeferred (hd D (by simp)),?_⟩⟩
  have hlt:D<W.heap.size:=(Y0c.1 (hd D (by simp))).1
  refine Z7Y ds _ hn'.2 (λE hE=>?_) λW' hs=>h W' ?_
  · rw[World.putObj_heap_other (by rintro rfl;exact hn'.1 hE)]
    exact hd E (by simp[hE])
  · refine⟨λc hc=>?_,by rw[hs.size];simp,hs.os,hs.tape,hs.output⟩
    simp only[Y08,not_or]at hc
    rw[hs.other c hc.2,World.putObj_heap_other hc.1]
theorem Z2P {f : Nat} {fn : Func} {c : Code} {args : List AV} {cargs : List Value} {H0 : Z00} {W : World} {sn : Z0o} {ι : Z0n} {Φ : AEx -> Tr -> Z00 -> Prop} {Q : Ending -> World -> Prop} (hf : P.funcs[f]? = some fn) (hc : fn.body = some c)
  (h:Tri P gl none k c (tmk (Z76 args fn.ntmps args.length) (Z8c 20 fn.ntmps)) H0 Φ) (hg:GlOK gl sn) (hR:R sn ι H0 W) (ha:LR sn ι args cargs) (hx:∀id tm H,¬Φ (.exit id) tm H)
  (hq:∀x tm1 H1 a1 W1 sn1 ι1,Φ x tm1 H1->Stq k sn ι H0 W sn1 ι1 H1 W1->TRel sn1 ι1 tm1 a1->∃v,(results fn a1.tmps).run P W1 = .ok v W1/\Q (.returned v) W1):Calls P f cargs.toArray W Q:=by
 refine Zdw.1 (callsIn_of_wp_marks (F:=Fq none) (n:=0) hf hc trivial (h _ W sn ι _ hg hR (Z3R ha _ _ _) λx tm1 H1 a1 W1 sn1 ι1 hx1 s1 t1 d1=>?_))
 have key:LeavesInM (Fq none) 0 P fn a1.tmps Q a1.defers .returning W1:=by
  obtain⟨ds,e,n1,hd⟩:=d1
  have e:a1.defers=ds.map ZoR:=by rw[e];simp
  rw[e]
  exact Z7Y ds W1 n1 (λD hD=>(hd D hD).2.1) λW2 hs=>hq x tm1 H1 a1 W2 sn1 ι1 hx1 (s1.shut hd hs) t1
 cases x with
 |normal=>exact key
 |ret=>exact key
 |exit id=>exact (hx id tm1 H1 hx1).elim
end code
end Go.Abs
end
section
namespace Go.Abs
open Go.RowKit
def Z3a(f:AV->Option AV):List AV->Option (List AV)
 |[]=>some []
 |c::l=>match f c,Z3a f l with|some x,some y=>some (x::y)|_,_=>none
def frz(H:Z00):Nat->AV->Option AV
 |0,_=>none
 |n+1,u=>match u with
  | .ptr b off=>match H[b]? with
   |some o=>match o.alive,o.body with
    |true,.cells cs _=>match Z3a (frz H n) (cs.drop off) with|some l=>some (.rp l)|none=>none
    |_,_=>none
   |none=>none
  | .slice b off len _ z=>match len with
   |0=>some (.rs 0 z [])
   |_+1=>match H[b]? with
    |some o=>match o.alive,o.body with
     |true,.cells cs _=>match tk (len*z) (cs.drop off) with
      |some cs=>match Z3a (frz H n) cs with|some l=>some (.rs len z l)|none=>none
      |none=>none
     |_,_=>none
    |none=>none
  | .agg cs=>match Z3a (frz H n) cs with|some l=>some (.agg l)|none=>none
  | .tuple cs=>match Z3a (frz H n) cs with|some l=>some (.tuple l)|none=>none
  | .iface t v=>match frz H n v with|some x=>some (.iface t x)|none=>none
  | .func fn f c=>match Z3a (frz H n) f,Z3a (frz H n) c with|some f,some c=>some (.func fn f c)|_,_=>none
  | .map _=>none
  |u=>some u
section frz
variable {sn:Z0o} {ι : Z0n} {H:Z00} {W:World} {g:Nat}
theorem Z1y{f:AV->Option AV}{sn':Z0o}(hf:∀u r v,f u=some r->VR sn ι u v->VR sn' noI r v):∀{l l':List AV}{vs:List Value},Z3a f l=some l'->LR sn ι l vs->LR sn' noI l' vs
 |[],l',vs,h,e=>by simp[Z3a]at h;subst h;simpa[LR]using e
 |c::l,l',vs,h,e=>by
  simp only[Z3a]at h
  split at h<;>simp at h
  rename_i x y hx hy
  subst h
  simp only[LR]at e⊢
  obtain⟨d,ds,rfl,h1,h2⟩:=e
  exact⟨d,ds,rfl,hf _ _ _ hx h1,Z1y hf hy h2⟩
theorem Z6J{f:AV->Option AV}:∀{l l':List AV},Z3a f l=some l'->l'.length=l.length/\∀(i:Nat)(x:AV),l'[i]? = some x->∃c,l[i]? = some c/\f c=some x
 |[],l',h=>by simp[Z3a]at h;subst h;simp
 |c::l,l',h=>by
  simp only[Z3a]at h
  split at h<;>simp at h
  rename_i x y hx hy
  subst h
  obtain⟨h1,h2⟩:=Z6J hy
  refine⟨by simp[h1],λi z hz=>?_⟩
  cases i with
  |zero=>simp at hz;subst hz;exact⟨c,rfl,hx⟩
  |succ i=>simpa using h2 i z (by simpa using hz)
theorem Z4Q{sn:Z0o}:∀{us:List AV}{b o:Nat},(∀(i:Nat)(u:AV),us[i]? = some u->∃v,sn ⟨b,o+i,none⟩=some v/\VR sn noI u v)->MR sn us b o
 |[],b,o,h=>by simp[MR]
 |u::us,b,o,h=>by
  simp only[MR]
  refine⟨by simpa using h 0 u rfl,Z4Q λi x hx=>?_⟩
  have:=h (i+1) x (by simpa using hx)
  rwa [show o+(i+1)=o+1+i from by omega]at this
theorem Zd9 (hR : R sn ι H W) (hfr : ∀ (b : Nat) (o : AObj) p, H[b]? = some o -> o.alive = true -> ι b = some p -> g <= p.blk) :
  ∀(n:Nat)(u r:AV)(v:Value),frz H n u=some r->VR sn ι u v->VR (snx sn g W) noI r v:=by
 have hle:Le sn (snx sn g W) noI noI:=⟨λa v hv=>by
  unfold snx
  split
  ·exact hv
  ·exact (hR.snap a v hv).2.1,λ_ _ h=>h⟩
 intro n
 induction n with
 |zero=>intro u r v h;simp[frz]at h
 |succ n ih =>
  have cells:∀{b:Nat}{o:AObj}{p:Place}{cs l:List AV}{ty:TypeId}{off:Nat},H[b]? = some o->o.alive=true->o.body = .cells cs ty -> ι b=some p->Z3a (frz H n) (cs.drop off)=some l->MR (snx sn g W) l p.blk (p.sh+off):=by
   intro b o p cs l ty off ho ha hb hp hl
   obtain⟨_,h2⟩:=Z6J hl
   have hor:=hR.obj b o p ho ha hp
   rw[hb]at hor
   simp only[OR]at hor
   obtain⟨arr,k1,k2,k3,k4⟩:=hor
   refine Z4Q λi x hx=>?_
   obtain⟨c,hc,hcx⟩:=h2 i x hx
   rw[Y0j]at hc
   obtain⟨v,e1,e2⟩:=k4 (off+i) c hc
   refine⟨v,?_,ih c x v hcx e2⟩
   have hge:=hfr b o p ho ha hp
   unfold snx
   rw[if_neg (by show ¬p.blk<g;omega),Z2O k1]
   rw[<- e1];congr 1;omega
  intro u r v h hv
  unfold frz at h
  split at h
  · rename_i b off
    split at h<;>try (simp at h;done)
    rename_i o ho
    split at h<;>try (simp at h;done)
    rename_i cs ty ha hb
    split at h<;>simp at h
    rename_i l hl
    subst h
    obtain⟨p,hp,rfl⟩:=hv.ptr
    simp only[VR]
    exact⟨_,_,rfl,cells ho ha hb hp hl⟩
  · rename_i b off len cap z
    obtain⟨p,a,cap',hp,rfl,h1,h2,h3⟩:=hv.slice
    split at h
    · simp at h;subst h
      simp only[VR]
      exact .inr ⟨a,cap',rfl,by omega,by simp,by simp[MR],λh=>absurd rfl h⟩
    · rename_i len
      split at h<;>try (simp at h;done)
      rename_i o ho
      split at h<;>try (simp at h;done)
      rename_i cs ty ha hb
      split at h<;>try (simp at h;done)
      rename_i cs' hcs
      split at h<;>simp at h
      rename_i l hl
      subst h
      obtain⟨ha',_⟩:=h3 (by omega)
      subst ha'
      obtain⟨e1,rfl⟩:=Z4B hcs
      obtain⟨f1,f2⟩:=Z6J hl
      simp only[VR]
      refine .inr ⟨_,cap',rfl,by omega,?_,?_,λ_=>rfl⟩
      ·rw[f1,List.length_take];exact Nat.min_eq_left e1
      · have hor:=hR.obj b o p ho ha hp
        rw[hb]at hor
        simp only[OR]at hor
        obtain⟨arr,k1,k2,k3,k4⟩:=hor
        refine Z4Q λi x hx=>?_
        obtain⟨c,hc,hcx⟩:=f2 i x hx
        rw[List.getElem?_take]at hc
        split at hc<;>try (simp at hc;done)
        rw[Y0j]at hc
        obtain⟨v,g1,g2⟩:=k4 (off+i) c hc
        refine⟨v,?_,ih c x v hcx g2⟩
        have hge:=hfr b o p ho ha hp
        unfold snx
        rw[if_neg (by show ¬p.blk<g;omega),Z2O k1]
        rw[<- g1];congr 1;simp only;omega
  · split at h<;>simp at h
    rename_i l hl;subst h
    obtain⟨d,rfl,h1⟩:=hv.agg
    exact Z33 (Z1y ih hl h1)
  · split at h<;>simp at h
    rename_i l hl;subst h
    obtain⟨d,rfl,h1⟩:=hv.tuple
    exact Z5e (Z1y ih hl h1)
  · split at h<;>simp at h
    rename_i x hx;subst h
    obtain⟨y,rfl,h1⟩:=hv.iface
    simp only[VR];exact⟨y,rfl,ih _ _ _ hx h1⟩
  · split at h<;>simp at h
    rename_i f c hf hc;subst h
    obtain⟨x,y,rfl,h1,h2⟩:=hv.func
    simp only[VR];exact⟨x,y,rfl,Z1y ih hf h1,Z1y ih hc h2⟩
  ·simp at h
  · rename_i e1 e2 e3 e4 e5 e6 e7
    simp at h;subst h
    cases u with
    |ptr b o=>exact (e1 _ _ rfl).elim
    |slice b o l c z=>exact (e2 _ _ _ _ _ rfl).elim
    |agg cs=>exact (e3 _ rfl).elim
    |tuple cs=>exact (e4 _ rfl).elim
    |iface t v=>exact (e5 _ _ rfl).elim
    |func fn f c=>exact (e6 _ _ _ rfl).elim
    |map b=>exact (e7 _ rfl).elim
    |_=>exact Z1f (ι:=noI) hle _ _ (Z1n (ι:=ι) _ [] _ (λb hb=>by simp[Z2a]at hb) hv)
end frz
def ValOK(P:Program)(gl:Z0k)(f:Nat)(args:List AV)(r:AV):Prop :=
 ∀(sn:Z0o)(W:World)(cargs:List Value),GlOK gl sn->R sn noI [] W->LR sn noI args cargs ->
  Calls P f cargs.toArray W λe W'=>∃v,e = .returned v/\Ext W W'/\VR (snx sn W.heap.size W') noI r v
theorem R.none{sn:Z0o}{ι : Z0n}{H:Z00}{W:World}(h:R sn ι H W):R sn noI [] W :=
 ⟨fun b => ⟨fun hb => by simp at hb, fun ⟨p, hp⟩ => by simp [noI] at hp⟩, fun b p hp => by simp [noI] at hp, fun b o p hb => by simp at hb, fun b b' o o' p p' hb => by simp at hb,
   λa v hv=>⟨(h.snap a v hv).1,(h.snap a v hv).2.1,λb o p hb=>by simp at hb⟩,λb o p hb=>by simp at hb⟩
theorem Stq.ext{k:Nat}{sn sn':Z0o}{ι':Z0n}{H':Z00}{W W':World}(h:Stq k sn noI [] W sn' ι' H' W'):Ext W W' :=
 ⟨λc hc=>h.frame c hc λb o p hb=>by simp at hb,h.size,h.os,h.tape,h.output⟩
def ZkP(F:Nat->List AV->Option AV):Orc:=λf args H=>match F f args with|some r=>some (r,H)|none=>none
theorem Z7h{P:Program}{gl:Z0k}{F:Nat->List AV->Option AV}(h:∀f args r,F f args=some r->refsL args []=[]/\ValOK P gl f args r):OrcSound P gl (ZkP F):=by
 intro f args H r H' hf sn ι W cargs hg hR ha
 unfold ZkP at hf
 split at hf<;>simp at hf
 rename_i r' hr
 obtain⟨rfl,rfl⟩:=hf
 obtain⟨h1,h2⟩:=h f args r' hr
 refine .inl ((h2 sn W cargs hg hR.none (LR_refs args [] _ (λb hb=>by rw[h1]at hb;cases hb) ha)).mono ?_)
 rintro e W' ⟨v,rfl,hx,hv⟩
 exact⟨v,_,ι,rfl,ZgF hv,Stp.snap hR hx⟩
def Z2t(o1 o2:Orc):Orc:=λf args H=>match o1 f args H with|some r=>some r|none=>o2 f args H
theorem Z1E{P:Program}{gl:Z0k}{o1 o2:Orc}(h1:OrcSound P gl o1)(h2:OrcSound P gl o2):OrcSound P gl (Z2t o1 o2):=by
 intro f args H r H' hf
 unfold Z2t at hf
 split at hf
 · rename_i x hx
   simp at hf;subst hf
   exact h1 f args H r H' hx
 ·exact h2 f args H r H' hf
def Z0Y:List AV->AV
 |[v]=>v
 |vs=>.tuple vs
def Z8h(P:Program)(gl:Z0k)(orc:Orc)(isC:Nat->Bool):Nat->Orc
 |0=>orc
 |n+1=>λf args H=>match isC f || !(Z0m P f) with|true=>orc f args H|false=>Zhv P gl (Z8h P gl orc isC n) 0 f args H
theorem Z09{P:Program}{gl:Z0k}{orc:Orc}{isC:Nat->Bool}(hm:P.follows .mixedOrders=true)(hn:NoNum P)(hO:OrcSound P gl orc):∀n,OrcSound P gl (Z8h P gl orc isC n)
 |0=>hO
 |n+1=>by
  intro f args H r H' hf
  simp only[Z8h]at hf
  split at hf
  ·exact hO f args H r H' hf
  ·exact Zf0 (fuel:=0) hm hn (Z09 hm hn hO n) f args H r H' hf
noncomputable def Z74(P:Program)(gl:Z0k)(orc:Orc)(isC:Nat->Bool):Nat->CW :=
 Nat.rec (motive:=λ_=>CW) (cw0 P orc) (λn ih g args H k=>match isC g || !(Z0m P g) with
  |true=>∃y,Z06 P orc H g args=some y/\Z9t y.1 λr=>Z1M y.2 λH'=>k r H'
  |false=>onO P.funcs[g]? λfn=>onO fn.body λc=>frcTr (tmk (Z76 args fn.ntmps args.length) (Z8c 20 fn.ntmps)) λtm =>
   Z29 P gl (Z8h P gl orc isC n) ih Z6A c (λtm H=>onO (Z3j P tm H fn.results.toList) λvs=>Z9t (Z0Y vs) λr=>k r H) (λ_ _ _=>False) (λtm H=>onO (Z3j P tm H fn.results.toList) λvs=>Z9t (Z0Y vs) λr=>k r H) tm H)
def ZjE(P:Program)(l:List ResultVar)(Φ : AV->Prop)(tm:Tr)(H:Z00):Prop:=onO (Z3j P tm H l) λvs=>∃r,frz H 30 (Z0Y vs)=some r /\ Φ r
theorem Z0f{P:Program}{gl:Z0k}{orc:Orc}{isC:Nat->Bool}:∀n,Z5O P (Z8h P gl orc isC n) (Z74 P gl orc isC n)
 |0=>Z83 P orc
 |n+1=>by
  intro g args H k h
  replace h:(match isC g || !(Z0m P g) with
   |true=>∃y,Z06 P orc H g args=some y/\Z9t y.1 λr=>Z1M y.2 λH'=>k r H'
   |false=>onO P.funcs[g]? λfn=>onO fn.body λc=>frcTr (tmk (Z76 args fn.ntmps args.length) (Z8c 20 fn.ntmps)) λtm =>
    Z29 P gl (Z8h P gl orc isC n) (Z74 P gl orc isC n) Z6A c (λtm H=>onO (Z3j P tm H fn.results.toList) λvs=>Z9t (Z0Y vs) λr=>k r H) (λ_ _ _=>False) (λtm H=>onO (Z3j P tm H fn.results.toList) λvs=>Z9t (Z0Y vs) λr=>k r H) tm H):=h
  split at h
  · obtain⟨y,h1,h2⟩:=h
    rename_i hc
    rw[Z3b,Z0u]at h2
    refine⟨y.1,y.2,?_,h2⟩
    have ho:Z8h P gl orc isC (n+1) g=orc g:=by funext args H;simp only[Z8h,hc]
    have hy:yl (Z8h P gl orc isC (n+1)) H g args=yl orc H g args:=by unfold yl;simp only[ho]
    unfold Z06 at h1⊢
    rw[ho,hy];exact h1
  · rename_i hb
    have hi:isC g=false:=by cases hq:isC g with|false=>rfl|true=>rw[hq]at hb;simp at hb
    have hb':Z0m P g=true:=by cases hq:Z0m P g with|true=>rfl|false=>rw[hq]at hb;simp at hb
    obtain⟨fn,hfn,h⟩:=Z04 h
    obtain⟨c,hc,h⟩:=Z04 h
    rw[Z1L]at h
    unfold Z06
    rw[if_pos hb']
    simp only[Z8h,hi,hb',Bool.not_true,Bool.or_false]
    obtain⟨x,tm1,H1,h1,h⟩:=Z3P (fuel:=0) (Z0f n) c h
    have fin:∀{tm1 H1},(onO (Z3j P tm1 H1 fn.results.toList) λvs=>Z9t (Z0Y vs) λr=>k r H1)->∃us,Z3j P tm1 H1 fn.results.toList=some us/\k (Z0Y us) H1:=λh=>by
     obtain⟨us,e1,e2⟩:=Z04 h
     rw[Z3b]at e2
     exact⟨us,e1,e2⟩
    have done:∀{us:List AV},Z3j P tm1 H1 fn.results.toList=some us->(x = .normal\/x = .ret)->Zhv P gl (Z8h P gl orc isC n) 0 g args H=some (Z0Y us,H1):=by
     intro us e hx
     unfold Zhv
     simp only[hfn,hc,frcVL_eq,ZbH,h1]
     rcases hx with rfl|rfl
     all_goals
      simp only[e]
      match us with
      |[]=>rfl
      |[u]=>rfl
      |u::u'::l=>rfl
    cases x with
    |normal=>obtain⟨us,e1,e2⟩:=fin h;exact⟨_,_,done e1 (.inl rfl),e2⟩
    |exit id=>exact (h:False).elim
    |ret=>obtain⟨us,e1,e2⟩:=fin h;exact⟨_,_,done e1 (.inr rfl),e2⟩
theorem fn_valXR {rf : AV -> Array Tmp -> Code -> Code -> KN -> KX -> KN -> Tr -> Z00 -> Prop} {Φ : AV -> Prop} {P : Program} {gl : Z0k} {orc : Orc} (hrf : Zr2 P gl none 0 rf) (hm : P.follows .mixedOrders = true) (hn : NoNum P) (hO : OrcSound P gl orc) {f : Nat} {fn : Func} {c : Code} {args : List AV} {r : AV} (hΦ : ∀ r', Φ r' -> ∀ sn v, VR sn noI r' v -> VR sn noI r v)
  (hf:P.funcs[f]? = some fn) (hc:fn.body=some c)
  {cw:CW} (hcw:Z5O P orc cw)
  (h:frcTr (tmk (Z76 args fn.ntmps args.length) (Z8c 20 fn.ntmps)) λtm=>Z29 P gl orc cw ⟨Z5J 0,rf⟩ c (ZjE P fn.results.toList Φ) (λ_ _ _=>False) (ZjE P fn.results.toList Φ) tm []):ValOK P gl f args r:=by
 intro sn W cargs hg hR ha
 rw[Z1L]at h
 refine Z2P hf hc (Z1B (rd:=none) hrf hm hn hO hcw c h) hg hR ha (λ_ _ _ h=>h) λx tm1 H1 a1 W1 sn1 ι1 hx s1 t1=>?_
 have key:ZjE P fn.results.toList Φ tm1 H1->∃v,(results fn a1.tmps).run P W1 = .ok v W1/\VR (snx sn W.heap.size W1) noI r v:=by
  intro h
  obtain⟨us,h1,r',h2,h3⟩:=Z04 h
  obtain⟨vs,h4,h5⟩:=Z0O s1.rel t1 _ _ h1
  have hle:Le (snx sn1 W.heap.size W1) (snx sn W.heap.size W1) noI noI:=⟨λa v hv=>by
   unfold snx at hv⊢
   split at hv
   · rename_i hlt
     rw[if_pos hlt]
     rcases s1.sfresh a v hv with h|h|⟨b0,o0,p0,hb,_⟩
     ·exact h
     ·omega
     ·simp at hb
   · rename_i hlt
     rw[if_neg hlt];exact hv,λ_ _ h=>h⟩
  have hfr:∀(b:Nat)(o:AObj) p,H1[b]? = some o->o.alive=true -> ι1 b=some p->W.heap.size<=p.blk:=by
   intro b o p hb ha hp
   rcases s1.fresh b o p hb ha hp with h|⟨b0,o0,p0,hb,_⟩
   ·exact h
   ·simp at hb
  refine⟨_,Z0R h5,hΦ _ h3 _ _ (Z1f hle _ _ (Zd9 s1.rel hfr 30 _ _ _ h2 ?_))⟩
  clear h1 h2 h3
  match us,h4 with
  |[],h4=>simp only[LR]at h4;subst h4;simp[Z0Y,VR,LR]
  |[u],h4 =>
   simp only[LR]at h4
   obtain⟨d,ds,rfl,hd,rfl⟩:=h4
   simpa[Z0Y]using hd
  |u::u'::l,h4 =>
   have hl:=h4.length
   simp only[Y0f]at hl
   have:vs.toArray.size≠1:=by simp[hl]
   rw[dif_neg this]
   simp only[Z0Y,VR]
   exact⟨_,rfl,h4⟩
 cases x with
 |normal =>
  obtain⟨v,k1,k2⟩:=key hx
  exact⟨v,k1,v,rfl,s1.ext,k2⟩
 |exit id=>exact hx.elim
 |ret =>
  obtain⟨v,k1,k2⟩:=key hx
  exact⟨v,k1,v,rfl,s1.ext,k2⟩
theorem fn_valX {Φ : AV -> Prop} {P : Program} {gl : Z0k} {orc : Orc} (hm : P.follows .mixedOrders = true) (hn : NoNum P) (hO : OrcSound P gl orc) {f : Nat} {fn : Func} {c : Code} {args : List AV} {r : AV} (hΦ : ∀ r', Φ r' -> ∀ sn v, VR sn noI r' v -> VR sn noI r v)
  (hf:P.funcs[f]? = some fn) (hc:fn.body=some c)
  {cw:CW} (hcw:Z5O P orc cw)
  (h:frcTr (tmk (Z76 args fn.ntmps args.length) (Z8c 20 fn.ntmps)) λtm=>Z29 P gl orc cw ZhO c (ZjE P fn.results.toList Φ) (λ_ _ _=>False) (ZjE P fn.results.toList Φ) tm []):ValOK P gl f args r :=
 fn_valXR (λ_ _ _ _ _ _ _ _ _ _ _ h=>h.elim) hm hn hO hΦ hf hc hcw h
theorem ZjB {P : Program} {gl : Z0k} {orc : Orc} (hm : P.follows .mixedOrders = true) (hn : NoNum P) (hO : OrcSound P gl orc) {f : Nat} {fn : Func} {c : Code} {args : List AV} {r : AV}
  (hf:P.funcs[f]? = some fn) (hc:fn.body=some c)
  {cw:CW} (hcw:Z5O P orc cw)
  (h:frcTr (tmk (Z76 args fn.ntmps args.length) (Z8c 20 fn.ntmps)) λtm=>Z29 P gl orc cw ZhO c (ZjE P fn.results.toList (· = r)) (λ_ _ _=>False) (ZjE P fn.results.toList (· = r)) tm []):ValOK P gl f args r :=
 fn_valX (Φ:=(· = r)) hm hn hO (λr' e sn v h=>e ▸ h) hf hc hcw h
theorem Z0v {P : Program} {gl : Z0k} {orc : Orc} (hm : P.follows .mixedOrders = true) (hn : NoNum P) (hO : OrcSound P gl orc) {f : Nat} {fn : Func} {c : Code} {args : List AV} {r : AV} (hf : P.funcs[f]? = some fn) (hc : fn.body = some c)
  (h:frcTr (tmk (Z76 args fn.ntmps args.length) (Z8c 20 fn.ntmps)) λtm=>Z29 P gl orc (cw0 P orc) ZhO c (ZjE P fn.results.toList (· = r)) (λ_ _ _=>False) (ZjE P fn.results.toList (· = r)) tm []):ValOK P gl f args r :=
 ZjB hm hn hO hf hc (Z83 P orc) h
theorem Z2f {P : Program} {gl : Z0k} {orc : Orc} (isC : Nat -> Bool) (n : Nat) (hm : P.follows .mixedOrders = true) (hn : NoNum P) (hO : OrcSound P gl orc) {f : Nat} {fn : Func} {c : Code} {args : List AV} {r : AV} (hf : P.funcs[f]? = some fn) (hc : fn.body = some c)
  (h:frcTr (tmk (Z76 args fn.ntmps args.length) (Z8c 20 fn.ntmps)) λtm=>Z29 P gl (Z8h P gl orc isC n) (Z74 P gl orc isC n) ZhO c (ZjE P fn.results.toList (· = r)) (λ_ _ _=>False) (ZjE P fn.results.toList (· = r)) tm []):ValOK P gl f args r :=
 ZjB hm hn (Z09 hm hn hO n) hf hc (Z0f n) h
end Go.Abs
end
section
namespace Go.Abs
open Go.RowKit
mutual
def plain:AV->Bool
 | .bool _=>true
 | .int _ _=>true
 | .str _=>true
 | .nptr=>true
 | .nslice=>true
 | .nmap=>true
 | .nfunc=>true
 | .niface=>true
 | .agg cs=>plainL cs
 | .tuple cs=>plainL cs
 | .iface _ u=>plain u
 |_=>false
def plainL:List AV->Bool
 |[]=>true
 |c::l=>plain c&&plainL l
end
mutual
theorem Z6t{sn sn':Z0o}{ι ι':Z0n}:∀{u:AV}{v:Value},plain u=true->VR sn ι u v->VR sn' ι' u v
 | .bool _,v,h,e=>by simpa[VR]using e
 | .int _ _,v,h,e=>by simpa[VR]using e
 | .str _,v,h,e=>by simpa[VR]using e
 | .nptr,v,h,e=>by simpa[VR]using e
 | .nslice,v,h,e=>by simpa[VR]using e
 | .nmap,v,h,e=>by simpa[VR]using e
 | .nfunc,v,h,e=>by simpa[VR]using e
 | .niface,v,h,e=>by simpa[VR]using e
 | .agg cs,v,h,e=>by
  obtain⟨d,rfl,h1⟩:=e.agg
  exact Z33 (plainL_LR (by simpa[plain]using h) h1)
 | .tuple cs,v,h,e=>by
  obtain⟨d,rfl,h1⟩:=e.tuple
  exact Z5e (plainL_LR (by simpa[plain]using h) h1)
 | .ptr _ _,v,h,e=>by simp[plain]at h
 | .rp _,v,h,e=>by simp[plain]at h
 | .slice ..,v,h,e=>by simp[plain]at h
 | .rs ..,v,h,e=>by simp[plain]at h
 | .map _,v,h,e=>by simp[plain]at h
 | .func ..,v,h,e=>by simp[plain]at h
 | .iface t u,v,h,e=>by
  simp only[VR]at e⊢
  obtain⟨x,rfl,h1⟩:=e
  exact⟨x,rfl,Z6t (by simpa[plain]using h) h1⟩
theorem plainL_LR{sn sn':Z0o}{ι ι':Z0n}:∀{l:List AV}{vs:List Value},plainL l=true->LR sn ι l vs->LR sn' ι' l vs
 |[],vs,h,e=>by simpa[LR]using e
 |c::l,vs,h,e=>by
  simp only[plainL,Y01]at h
  simp only[LR]at e⊢
  obtain⟨d,ds,rfl,h1,h2⟩:=e
  exact⟨d,ds,rfl,Z6t h.1 h1,plainL_LR h.2 h2⟩
end
def Z6v(F:Nat->List AV->Option AV):Orc:=λf args H=>match Z3a (frz H 30) args with
 |some az=>match F f az with|some r=>some (r,H)|none=>none
 |none=>none
theorem Z0J{P:Program}{gl:Z0k}{F:Nat->List AV->Option AV}(h:∀f args r,F f args=some r->plain r=true/\ValOK P gl f args r):OrcSound P gl (Z6v F):=by
 intro f args H r H' hf sn ι W cargs hg hR ha
 unfold Z6v at hf
 split at hf<;>try (simp at hf;done)
 rename_i az has
 split at hf<;>simp at hf
 rename_i r' hr
 obtain⟨rfl,rfl⟩:=hf
 obtain⟨h1,h2⟩:=h f az r' hr
 have hle:∀a v,sn a=some v->snx sn 0 W a=some v:=λa v hv=>by
  unfold snx;rw[if_neg (by omega)];exact (hR.snap a v hv).2.1
 have hR':R (snx sn 0 W) noI [] W :=
  ⟨fun b => ⟨fun hb => by simp at hb, fun ⟨p, hp⟩ => by simp [noI] at hp⟩, fun b p hp => by simp [noI] at hp, fun b o p hb => by simp at hb, fun b b' o o' p p' hb => by simp at hb,
    λa v hv=>by
     unfold snx at hv;rw[if_neg (by omega)]at hv
     refine⟨?_,hv,λb o p hb=>by simp at hb⟩
     cases hq:W.heap[a.block]? with
     |none=>unfold World.cell? at hv;rw[hq]at hv;simp at hv
     |some ob=>exact (Y0c.1 hq).1,
    λb o p hb=>by simp at hb⟩
 have hargs:LR (snx sn 0 W) noI az cargs:=Z1y (λu r v=>Zd9 hR (λ_ _ _ _ _ _=>Nat.zero_le _) 30 u r v) has ha
 refine (h2 _ W cargs (hg.mono (Z38 hle)) hR' hargs).monoY ?_
 rintro e W' ⟨v,rfl,hx,hv⟩
 exact⟨v,sn,ι,rfl,Z6t h1 hv,Stp.ext hR hx⟩
theorem Zrz{t:Bool}{A B:Prop}(h:t=true)(a:A):(t=true->A)/\(t=false->B):=⟨λ_=>a,λe=>(by rw[h]at e;cases e)⟩
theorem ZqG{t:Bool}{A B:Prop}(h:t=false)(b:B):(t=true->A)/\(t=false->B):=⟨λe=>(by rw[h]at e;cases e),λ_=>b⟩
theorem Z01{t:Bool}{A B:Prop}(a:t=true->A)(b:t=false->B):(t=true->A)/\(t=false->B):=⟨a,b⟩
theorem exI{α : Type}{o:Option α}{r : α}{K : α -> Prop}(h:o=some r)(k:K r):∃r,o=some r/\K r:=⟨r,h,k⟩
theorem exW{α : Type}{x n : α}{K : α -> Prop}(h:x=n)(k:K n):∃n,x=n/\K n:=⟨n,h,k⟩
theorem ZaW{m j:Nat}(h:m+j<=9223372036854775807):IntKind.i64.wrap ((m:Int)+(j:Int))=((m+j:Nat):Int):=by rw[IntWalk.i64_in _ ⟨by omega,by omega⟩];omega
theorem Z1P{m:Nat}(h:m+1<=9223372036854775807):IntKind.i64.wrap ((m:Int)+1)=((m+1:Nat):Int):=by rw[IntWalk.i64_in _ ⟨by omega,by omega⟩];omega
theorem Z8b{n:Int}(h1 : -9223372036854775808<=n)(h2:n<=9223372036854775807):IntKind.i64.wrap n=n:=IntWalk.i64_in n ⟨h1,h2⟩
theorem ixJ{i:Int}{n:Nat}{K:Nat->Prop}(j:Nat)(h1:i=(j:Int))(h2:j<n)(k:K j):∃j:Nat,(i=(j:Int)/\j<n)/\K j:=⟨j,⟨h1,h2⟩,k⟩
theorem ZrT{i:Int}{n:Nat}{K:Nat->Prop}(j:Nat)(h1:i=(j:Int))(h2:j<=n)(k:K j):∃j:Nat,(i=(j:Int)/\j<=n)/\K j:=⟨j,⟨h1,h2⟩,k⟩
theorem ixS{i:Int}{s:List UInt8}{K:Nat->UInt8->Prop}(j:Nat){b:UInt8}(h1:i=(j:Int))(h2:s[j]? = some b)(k:K j b):∃j:Nat,i=(j:Int)/\∃b,s[j]? = some b/\K j b:=⟨j,h1,b,h2,k⟩
theorem eqR{u v:AV}{K:Prop}(h:u=v)(k:K):u=v/\K:=⟨h,k⟩
theorem Z1d{P:Program}{F:Nat->List AV->Option AV}{H:Z00}{g:Nat}{args fa:List AV}{r:AV}(h1:Z0m P g=true)(h2:Z3a (frz H 30) args=some fa)(h3:F g fa=some r):Z06 P (Z6v F) H g args=some (r,H):=by
 simp only[Z06,h1,if_true,Z6v,h2,h3]
end Go.Abs
end
section
namespace Go.Abs
open Go.RowKit Go.ChangeShapes Go.WideShapes Go.ChangeAt
def ZiI(P:Program)(t:TypeId):Bool:=match P.underlying t with
 |some (.slice e)=>Nat.blt e P.types.size && !(Y00 (P.cellsOf e) 0)
 |some (.pointer e)=>Nat.blt e P.types.size
 |some (.array _ e)=>Nat.blt e P.types.size
 |some (.map _ e)=>Nat.blt e P.types.size
 |some (.struct fs)=>fs.toList.all λf=>Nat.blt f.type P.types.size
 |_=>true
def Solid(P:Program):Prop:=((List.range P.types.size).all λt=>ZiI P t)=true
theorem Solid.at{P:Program}(h:Solid P){t:TypeId}(ht:t<P.types.size):ZiI P t=true:=Y0g.1 h t (List.mem_range.2 ht)
theorem Z85{a b:Nat}(h:Nat.blt a b=true):a<b:=by simpa[Nat.blt_eq]using h
section keep
variable {H:Type} {enc:TypeId×Value->H} {P:Program} {w w':World} {base:Nat} {sp:Nat->Bool}
theorem ZgP(hP:Solid P):∀(n:Nat)(t:TypeId)(cs:List Value)(x:DataW H×List MemPlace),t<P.types.size->DataW.trod enc P w base (λ_=>true) true n t cs=some x->(∀p∈x.2,sp p.block=true)->DataW.trod enc P w base sp true n t cs=some x:=by
 intro n
 induction n with
 |zero=>intro t cs x _ h;simp[DataW.trod]at h
 |succ n ih =>
  intro t cs x htl h hs
  have hok:=hP.at htl
  unfold ZiI at hok
  rw[DataW.trod_step]at h⊢
  unfold DataW.trodStep at h⊢
  split at h
  case h_6 e a hu =>
   simp only[hu]at hok
   simp only[Y0a,Y0b]at h⊢
   obtain⟨y,⟨cs',hc,hy⟩,rfl⟩:=h
   exact⟨y,⟨cs',hc,ih _ _ _ (Z85 hok) hy λp hp=>hs p (by simp[hp])⟩,rfl⟩
  case h_8 e a len cap hu =>
   simp only[hu,Y01]at hok
   have hel:=Z85 hok.1
   have hz:P.cellsOf e≠0:=λh0=>by rw[h0]at hok;cases hok.2
   simp only[if_true]at h⊢
   split at h
   · rename_i hc
     rw[if_pos hc]
     simp only[Y0a,Y0b]at h⊢
     obtain⟨els,he,rest,hrest,rfl⟩:=h
     have each : ∀ (i : Nat) (y : DataW H × List MemPlace), y ∈ els ++ rest -> (w.cells? base (a.add (i * P.cellsOf e)) (P.cellsOf e)).bind (DataW.trod enc P w base (fun _ => true) true n e) = some y ->
       (w.cells? base (a.add (i*P.cellsOf e)) (P.cellsOf e)).bind (DataW.trod enc P w base sp true n e)=some y:=by
      intro i y hy hv
      simp only[Y0b]at hv⊢
      obtain⟨cs',h1,h2⟩:=hv
      exact⟨cs',h1,ih _ _ _ hel h2 λp hp=>hs p (by simp only[Y0n,Y0k];exact .inr ⟨y,by simpa using hy,hp⟩)⟩
     refine⟨els,mapM_carry he λi y _ hy hv=>each i y (by simp[hy]) hv,rest,?_,rfl⟩
     have hr:=mapM_carry hrest λj y _ hy hv=>each (len+j) y (by simp[hy]) hv
     cases hsp:sp a.block with
     |true=>simpa using hr
     |false =>
      have h0:rest=[]:=by
       cases hq:rest with
       |nil=>rfl
       |cons y l =>
        exfalso
        have h1:0<(els.length+rest.length)*P.cellsOf e:=Nat.mul_pos (by rw[hq];simp only[Y0f];omega) (by omega)
        have:=hs (.cell a.block (a.off+0)) (by simp only[Y0n];exact .inl (MemPlace.mem_row.2 ⟨0,h1,rfl⟩))
        simp only[MemPlace.block]at this
        rw[hsp]at this;cases this
      subst h0
      have hl:([]:List (DataW H×List MemPlace)).length=cap-len:=by simpa using mapM_some_length hrest
      rfl
   ·cases h
  case h_9 fs hu =>
   simp only[hu]at hok
   split at h
   · rename_i hc
     rw[if_pos hc]
     simp only[Y0a]at h⊢
     obtain⟨xs,hx,rfl⟩:=h
     exact⟨xs,mapM_carry hx λf y hf hy hv=>ih _ _ _ (Z85 (Y0g.1 hok f hf)) hv λp hp=>hs p (Y0k.2 ⟨y,hy,hp⟩),rfl⟩
   ·cases h
  case h_10 k e hu =>
   simp only[hu]at hok
   split at h
   · rename_i hc
     rw[if_pos hc]
     simp only[Y0a]at h⊢
     obtain⟨xs,hx,rfl⟩:=h
     exact⟨xs,mapM_carry hx λf y _ hy hv=>ih _ _ _ (Z85 hok) hv λp hp=>hs p (Y0k.2 ⟨y,hy,hp⟩),rfl⟩
   ·cases h
  case h_12=>split at h<;>first|exact h|(rename_i e _;cases e)|cases h
  case h_14 k e b hu =>
   simp only[hu]at hok
   split at h
   · rename_i es clock hb
     split at h
     · rename_i hc
       simp only[Y0b]at h
       obtain⟨entries,he,hd⟩:=h
       split at hd
       · rename_i hris
         have hx:=Option.some.inj hd
         subst hx
         simp only[hb,if_pos hc,Y0b]
         refine⟨entries,mapM_carry he (λx y _ hy hv=>?_),by simp[hris]⟩
         simp only[Y0b]at hv⊢
         obtain⟨key,hk,hz⟩:=hv
         refine⟨key,hk,?_⟩
         split at hz
         · rename_i hf
           rw[if_pos hf]
           simp only[Y0a]at hz⊢
           obtain⟨q,hq,rfl⟩:=hz
           exact⟨q,ih _ _ _ (Z85 hok) hq λp hp=>hs p (by simp only[Y08,Y0k];exact .inr ⟨_,hy,hp⟩),rfl⟩
         ·cases hz
       ·cases hd
     ·cases h
   ·cases h
  all_goals first|exact h|cases h
theorem ZgV(he:Ext w w'){p:MemPlace}(hp:p.block<w.heap.size):w.sameAt w' p:=by
 cases p with
 |cell b off =>
  have:=he.old b hp
  simp only[World.sameAt,World.cell?,this]
 |map b=>exact he.old b hp
theorem Z7P (hP : Solid P) (he : Ext w w') : ∀ {ts : List TypeId} {vs : List Value} {ds : List (DataW H)} {ps : List MemPlace}, (∀ t ∈ ts, t < P.types.size) -> DataW.TrodAll enc P w base (fun _ => true) true ts vs ds ps -> (∀ p ∈ ps, p.block < w.heap.size) -> (∀ p ∈ ps, sp p.block = true) ->
  DataW.TrodAll enc P w' base sp true ts vs ds ps
 |[],[],[],ps,_,h,_,_=>h
 |t::ts,v::vs,d::ds,ps,ht,h,h1,h2=>by
  obtain⟨p,q,⟨fuel,hp⟩,hq,rfl⟩:=h
  refine⟨p,q,⟨fuel,ZgP hP _ _ _ _ (ht t (by simp)) (DataW.trod_carry _ _ _ _ hp λx hx=>ZgV he (h1 x (by simp[hx]))) λx hx=>h2 x (by simp[hx])⟩,
   Z7P hP he (λt h=>ht t (by simp[h])) hq (λx hx=>h1 x (by simp[hx])) (λx hx=>h2 x (by simp[hx])),rfl⟩
 |[],[],_::_,_,_,h,_,_=>h.elim
 |[],_::_,_,_,_,h,_,_=>h.elim
 |_::_,[],_,_,_,h,_,_=>h.elim
 |_::_,_::_,[],_,_,h,_,_=>h.elim
end keep
end Go.Abs
end
section
namespace Go.Abs
open Go.RowKit Go.ChangeShapes Go.WideShapes Go.ChangeAt
def Znm(P:Program)(t:TypeId)(Q:AV->Prop):Prop :=
 ∀(H:Type)(enc:TypeId×Value->H)(W:World)(r:Reach)(b:Nat)(v:Value)(d:DataW H)(p:List MemPlace),Value.okWide P W r b t v->DataW.Trod enc P W 0 (λ_=>true) true t v d p->∃u,Q u/\VR (Z4H W) noI u v
def Z6Z(P:Program):List TypeId->List (AV->Prop)->Prop
 |[],[]=>True
 |t::ts,Q::Qs=>Znm P t Q/\Z6Z P ts Qs
 |_,_=>False
def Znp:List (AV->Prop)->List AV->Prop
 |[],[]=>True
 |Q::Qs,u::us=>Q u/\Znp Qs us
 |_,_=>False
theorem ZgD{us:List AV}(h:Znp [] us):us=[]:=by cases us with|nil=>rfl|cons _ _=>exact h.elim
theorem ZcQ {P : Program} {H : Type} {enc : TypeId × Value -> H} {W : World} {r : Reach} {b : Nat} : ∀ {ts : List TypeId} {Qs : List (AV -> Prop)} {vs : List Value} {ds : List (DataW H)} {ps : List MemPlace}, Z6Z P ts Qs ->
  (∀(j:Nat) t v,ts[j]? = some t->vs[j]? = some v->Value.okWide P W r b t v)->DataW.TrodAll enc P W 0 (λ_=>true) true ts vs ds ps->ds.length=ts.length/\∃us,Znp Qs us/\LR (Z4H W) noI us vs
 |[],[],[],[],ps,ho,hv,h=>⟨rfl,[],trivial,by simp[LR]⟩
 |t::ts,Q::Qs,v::vs,d::ds,ps,ho,hv,h=>by
  obtain⟨p,q,hp,hq,_⟩:=h
  obtain⟨u,h1,h2⟩:=ho.1 H enc W r b v d p (hv 0 t v rfl rfl) hp
  obtain⟨hl,us,h3,h4⟩:=ZcQ ho.2 (λj t v ht hv'=>hv (j+1) t v (by simpa using ht) (by simpa using hv')) hq
  exact⟨by simp[hl],u::us,⟨h1,h3⟩,by simp only[LR];exact⟨v,vs,rfl,h2,h4⟩⟩
 |[],_::_,_,_,_,ho,_,_=>ho.elim
 |_::_,[],_,_,_,ho,_,_=>ho.elim
 |[],[],[],_::_,_,_,_,h=>h.elim
 |[],[],_::_,_,_,_,_,h=>h.elim
 |_::_,_::_,[],_,_,_,_,h=>h.elim
 |_::_,_::_,_::_,[],_,_,_,h=>h.elim
theorem law_calls {P : Program} {gl : Z0k} {f : Nat} {fn : Func} {s : ChangeSpec} {Qs : List (AV -> Prop)} {tb : TypeId} (hP : Solid P) (hts : (fn.params.toList.all fun t => Nat.blt t P.types.size) = true) (ho : Z6Z P fn.params.toList Qs) (hlaw : ∀ us, Znp Qs us -> ValOK P gl f us (.bool true))
  (hvars:s.vars=[]) (hfn:∀(H:Type)(ds:List (DataW H)),ds.length=fn.params.toList.length->(s.fn H ds).results=[.lit (.bool true)]/\(s.fn H ds).args=ds/\(s.fn H ds).vars=[]) (hr:fn.resultTypes = #[tb]) (hb:P.underlying tb=some .bool)
  {H:Type} {enc:TypeId×Value->H} {W:World} {base:Nat} {args:Array Value} {ds gs:List (DataW H)} {before:List MemPlace} (hg:GlOK gl (Z4H W))
  (hval:∀(j:Nat) t v,fn.params[j]? = some t->args[j]? = some v->Value.okWide P W .any base t v) (hW:DataW.Whole enc P fn.params.toList s.vars false W args.toList ds gs before) :
  Calls P f args W λe W'=>∃v,e = .returned v/\s.post enc P fn false true false false W args v W':=by
 have hW':=hW
 obtain⟨p,q,hA,hV,rfl,hfz,hnd⟩:=hW
 rw[hvars]at hV
 obtain⟨rfl,rfl⟩:=trodVars_none hV
 obtain⟨hl,us,hq,hlr⟩:=ZcQ ho (λj t v ht hv=>hval j t v (by simpa using ht) (by simpa using hv)) hA
 have hlt:∀x∈p++[],x.block<W.heap.size:=λx hx=>hW'.lt x hx
 refine ((hlaw us hq) (Z4H W) W args.toList hg (R0 W) hlr).mono ?_
 rintro e W' ⟨v,rfl,hx,hv⟩
 cases hv.bool
 obtain⟨h1,h2,h3⟩:=hfn H ds (by simpa using hl)
 refine⟨_,rfl,Zh4 (pa:=p) (pv:=[]) hW' (λb sp hd=>?_) (λsp hsp=>?_) (λsp _=>by rw[hvars,Y0o,h3];rfl) rfl (Stp.below (Stp.ext (R0 W) hx)) (ok_one hr rfl (okWide_bool_mk hb _))⟩
 · rw[Y0o,h1,hr]
   exact trodAll_cons_mk (shut_bool hb _) trodAll_mk0
 · rw[Y0o,h2]
   exact Z7P hP hx (λt ht=>Z85 (Y0g.1 hts t ht)) hA (λx hx=>hlt x (by simp[hx])) λx hx=>hsp x (by simp[hx])
end Go.Abs
end
section
namespace Go.Abs
open Go.RowKit
theorem FgL.mk{t0 tm:Tr}{H:Z00}{l:List (Nat×AV)}{H2:Z00}(m:List Nat)(h:ZhF t0 tm=true)(h1:SlotsGe m tm l)(h2:HpGe H m m H2 0)(h3:Z0U (m.map (Z1x H))=true):FgL t0 tm H l H2:=by
 unfold FgL FgLK;rw[h];exact .inl ⟨m,rfl,h1,h2,h3⟩
theorem FgLK.mk{k:Nat}{t0 tm:Tr}{H:Z00}{l:List (Nat×AV)}{H2:Z00}(m:List Nat)(hk:ZfK k 0 m=true)(h:ZhF t0 tm=true)(h1:SlotsGe m tm l)(h2:HpGe H m m H2 0)(h3:Z0U (m.map (Z1x H))=true):FgLK k t0 tm H l H2:=by
 unfold FgLK;rw[h];exact .inl ⟨m,hk,h1,h2,h3⟩
theorem FgL.mk0{t0 tm:Tr}{H:Z00}{l:List (Nat×AV)}(h:ZhF t0 tm=true)(h1:SlotsGe [] tm l):FgL t0 tm H l []:=FgL.mk [] h h1 trivial rfl
theorem Zsb{a b:Int}{K:Prop}(h:a<=b)(k:K):a<=b/\K:=⟨h,k⟩
def ZhB(P Q:Prop):Prop:=Q->P
theorem s1T{t:Bool}{A B:Prop}(h:t=true):ZhB ((t=true->A)/\(t=false->B)) A:=Zrz h
theorem s1F{t:Bool}{A B:Prop}(h:t=false):ZhB ((t=true->A)/\(t=false->B)) B:=ZqG h
theorem s1I{α : Type}{o:Option α}{r : α}{K : α -> Prop}(h:o=some r):ZhB (∃r,o=some r/\K r) (K r):=exI h
theorem s1R{u v:AV}{K:Prop}(h:u=v):ZhB (u=v/\K) K:=eqR h
theorem s1W{α : Type}{x n : α}{K : α -> Prop}(h:x=n):ZhB (∃n,x=n/\K n) (K n):=exW h
theorem s1J{i:Int}{n:Nat}{K:Nat->Prop}(j:Nat)(h1:i=(j:Int))(h2:j<n):ZhB (∃j:Nat,(i=(j:Int)/\j<n)/\K j) (K j):=ixJ j h1 h2
theorem ZrQ{i:Int}{n:Nat}{K:Nat->Prop}(j:Nat)(h1:i=(j:Int))(h2:j<=n):ZhB (∃j:Nat,(i=(j:Int)/\j<=n)/\K j) (K j):=ZrT j h1 h2
theorem s1S{i:Int}{s:List UInt8}{K:Nat->UInt8->Prop}(j:Nat){b:UInt8}(h1:i=(j:Int))(h2:s[j]? = some b):ZhB (∃j:Nat,i=(j:Int)/\∃b,s[j]? = some b/\K j b) (K j b):=ixS j h1 h2
theorem s1L{a b:Int}{K:Prop}(h:a<=b):ZhB (a<=b/\K) K:=Zsb h
theorem stp{P Q:Prop}(q:Q)(h:ZhB P Q:=by
 first
 |(with_reducible refine s1T ?_;(focus (assumption)))|(with_reducible refine s1F ?_;(focus (assumption)))
 |(with_reducible refine s1T ?_;(focus (decide)))|(with_reducible refine s1F ?_;(focus (decide)))
 |(with_reducible refine s1T ?_;(focus ((first|assumption|decide|(simp;done)|(simp;omega));done)))
 |(with_reducible refine s1F ?_;(focus ((first|assumption|decide|(simp;done)|(simp;omega));done)))
 |with_reducible exact s1I rfl
 |with_reducible exact s1R rfl
 |(with_reducible refine s1W (Z1P ?_);focus omega)|(with_reducible refine s1W (ZaW ?_);focus omega)|(with_reducible refine s1W (Z8b ?_ ?_);(focus (omega));focus omega)
 |with_reducible exact s1W rfl
 |(with_reducible refine s1J _ rfl ?_;(focus ((first|decide|omega|(simp;done)|(simp;omega));done)))
 |(with_reducible refine ZrQ _ rfl ?_;(focus ((first|decide|omega|(simp;done)|(simp;omega));done)))
 |(refine s1J (Int.toNat _) ?_ ?_;(focus ((first|rfl|decide|omega|(simp;done));done));(focus ((first|decide|omega|(simp;done)|(simp;omega));done)))
 |(refine ZrQ (Int.toNat _) ?_ ?_;(focus ((first|rfl|decide|omega|(simp;done));done));(focus ((first|decide|omega|(simp;done)|(simp;omega));done)))
 |with_reducible exact s1S _ rfl (by assumption)
 |(with_reducible refine s1L ?_;(focus (first|decide|omega)))
 |(refine s1I (Z1d rfl rfl (if_pos ?_));(focus ((first|decide|omega|(simp;done)|(simp;omega));done)))):P:=h q
end Go.Abs
end
section
namespace Go.Abs
open Go.RowKit
def lone(f b:Nat):Nat->Z00->Bool
 |_,[]=>true
 |i,o::H=>(Y00 i b || !Y00 o.fam f)&&lone f b (i+1) H
theorem ZfS{f b:Nat}:∀{H:Z00}{i j:Nat}{o:AObj},lone f b i H=true->H[j]? = some o->i+j=b\/o.fam≠f
 |[],i,j,o,h,e=>by simp at e
 |x::H,i,0,o,h,e=>by
  simp only[lone,Y01,Y09,Y0h]at h
  simp at e;subst e
  rcases h.1 with h1|h1
  ·exact .inl (Y03 h1)
  ·exact .inr λe=>by rw[e]at h1;simp at h1
 |x::H,i,j+1,o,h,e=>by
  simp only[lone,Y01]at h
  have:=ZfS h.2 (by simpa using e)
  rcases this with h1|h1
  ·exact .inl (by omega)
  ·exact .inr h1
theorem Zj3{q:Nat->AObj->Bool}:∀(H:Z00)(i:Nat),(∀j o,H[j]? = some o->q (i+j) o=false)->kil q i H=H
 |[],i,h=>rfl
 |o::H,i,h=>by
  have h0:=h 0 o rfl
  simp only[Y06]at h0
  simp only[kil,h0]
  rw[Zj3 H (i+1) λj o' e=>by have:=h (j+1) o' (by simpa using e);rw[<- this];congr 1;omega]
  simp
theorem ZjU{f b sh:Nat}{H:Z00}{cs:List AV}{ty:TypeId}(hH:H[b]? = some ⟨true,f,sh,.cells cs ty⟩)(hl:lone f b 0 H=true):Zho f (sh+cs.length) H=H:=by
 refine Zj3 H 0 λj o e=>?_
 rcases ZfS hl e with h|h
 ·simp only[Y02]at h;subst h;rw[hH]at e;cases e;simp[ABody.len]
 · have:Y00 o.fam f=false:=Bool.eq_false_iff.2 λe=>h (Y03 e)
   rw[this];rfl
def Zcj(P:Program)(t t2:TypeId):Option (TypeId×Nat×Nat) :=
 match P.underlying t with
 |some (.slice e)=>match P.info? e,Z4y P e with
  |some i,some u=>if apx P t2&&u.cells.length==i.size then some (e,i.size,i.bytes) else none
  |_,_=>none
 |_=>none
theorem Z56{P:Program}{t t2 e:TypeId}{z by_:Nat}(h:Zcj P t t2=some (e,z,by_)):P.underlying t=some (.slice e)/\∃i u,P.info? e=some i/\Z4y P e=some u/\(apx P t2&&u.cells.length==i.size)=true/\i.size=z/\i.bytes=by_:=by
 unfold Zcj at h
 split at h<;>try (cases h;done)
 rename_i e' he
 split at h<;>try (cases h;done)
 rename_i i u hi hu
 split at h<;>cases h
 rename_i hc
 exact⟨he,i,u,hi,hu,hc,rfl,rfl⟩
theorem Z6T {P : Program} {t t2 e : TypeId} {z by_ : Nat} (hT : Zcj P t t2 = some (e, z, by_)) {H : Z00} {x : AV} {b f len n : Nat} {cs xs : List AV} (hx : Z4r H z x = some (n, xs)) (hH : H[b]? = some ⟨true, f, 0, .cells cs e⟩)
  (hl:lone f b 0 H=true) (hc:cs.length=len*z) (ho:xs.all one=true) (hn:n≠0) (hs:len+n<=1099511627776/\(len+n)*by_<=70368744177664) :
  Z2m P t t2 (.slice b 0 len len z) x H=some (.slice H.length 0 (len+n) (len+n) z,H++[⟨true,f,0,.cells (cs++xs) e⟩]):=by
 obtain⟨h1,i,u,h2,h3,h4,rfl,rfl⟩:=Z56 hT
 have hk:=ZjU hH hl
 simp only[Z2m,h1,h2,h3]
 rw[if_pos h4]
 simp only[hx]
 rw[if_neg hn,if_pos trivial,if_neg (by intro h;omega),if_pos hs]
 simp only[hH]
 rw[if_pos ⟨by omega,trivial,ho⟩]
 simp only[List.drop_zero,Y06,hk]
theorem ZoO{f e:Nat}{H:Z00}(h:∀o∈H,o.fam=f->o.sh+o.body.len<=e):Zho f e H=H:=by
 refine Zj3 H 0 λj o ho=>?_
 by_cases hf:o.fam=f
 · have:=h o (Y0i ho) hf
   simp[hf,this]
 · have:Y00 o.fam f=false:=Bool.eq_false_iff.2 λe=>hf (Y03 e)
   rw[this];rfl
theorem Zpa {P : Program} {t t2 e : TypeId} {z by_ : Nat} (hT : Zcj P t t2 = some (e, z, by_)) {H : Z00} {x : AV} {b f len cap n : Nat} {cs xs : List AV} (hx : Z4r H z x = some (n, xs)) (hH : H[b]? = some ⟨true, f, 0, .cells cs e⟩)
  (hk:Zho f cs.length H=H) (hc:cs.length=len*z) (ho:xs.all one=true) (hn:n≠0) (hs:len+n<=1099511627776/\(len+n)*by_<=70368744177664) :
  Z2m P t t2 (.slice b 0 len cap z) x H=some (.slice H.length 0 (len+n) (len+n) z,H++[⟨true,f,0,.cells (cs++xs) e⟩]):=by
 obtain⟨h1,i,u,h2,h3,h4,rfl,rfl⟩:=Z56 hT
 have hcl:ZrA H b=cs.length:=by unfold ZrA;rw[hH]
 simp only[Z2m,h1,h2,h3]
 rw[if_pos h4]
 simp only[hx]
 rw[if_neg hn,if_pos trivial,if_neg (by intro h;rw[hcl]at h;omega),if_pos hs]
 simp only[hH]
 rw[if_pos ⟨by omega,trivial,ho⟩]
 simp only[List.drop_zero,Y06,Y02,hk]
theorem ZmD {P : Program} {t t2 e : TypeId} {z by_ : Nat} (hT : Zcj P t t2 = some (e, z, by_)) {H : Z00} {x : AV} {b off len cap : Nat} {xs : List AV} (hx : Z4r H z x = some (0, xs)) :
  Z2m P t t2 (.slice b off len cap z) x H=some (.slice b off len cap z,H):=by
 obtain⟨h1,i,u,h2,h3,h4,rfl,rfl⟩:=Z56 hT
 simp only[Z2m,h1,h2,h3]
 rw[if_pos h4]
 simp only[hx,if_true]
theorem Z8U:∀{cs:List AV}{n:Nat},cs.length=n->tk n cs=some cs
 |[],0,_=>rfl
 |c::cs,n+1,h=>by simp only[tk,Z8U (cs:=cs) (n:=n) (by simpa using h)]
 |c::cs,0,h=>by simp at h
 |[],n+1,h=>by simp at h
theorem Zpb {P : Program} {t t2 e : TypeId} {z by_ : Nat} (hT : Zcj P t t2 = some (e, z, by_)) {H : Z00} {x : AV} {n : Nat} {xs : List AV} (hx : Z4r H z x = some (n, xs)) (hn : n ≠ 0) (hs : n <= 1099511627776 /\ n * by_ <= 70368744177664) :
  Z2m P t t2 .nslice x H=some (.slice H.length 0 n n z,Z7U H xs e):=by
 obtain⟨h1,i,u,h2,h3,h4,rfl,rfl⟩:=Z56 hT
 simp only[Z2m,h1,h2,h3]
 rw[if_pos h4]
 simp only[hx]
 rw[if_neg hn,if_pos hs]
def lit:AV->Bool
 | .bool _=>true
 | .int _ _=>true
 | .str _=>true
 |_=>false
theorem Zjt{H:Z00}{n:Nat}:∀{u:AV},lit u=true->frz H (n+1) u=some u
 | .bool _,_=>rfl
 | .int _ _,_=>rfl
 | .str _,_=>rfl
theorem ZbG{H:Z00}{n:Nat}:∀{cs:List AV},cs.all lit=true->Z3a (frz H (n+1)) cs=some cs
 |[],_=>rfl
 |c::cs,h=>by
  simp only[List.all_cons,Y01]at h
  simp only[Z3a,Zjt h.1,ZbG h.2]
theorem Zba{α : Type}(f : α -> AV)(l:List α)(j:Nat)(h:j<l.length){off:Nat}(e:off=j):tk 1 ((l.map f).drop off)=some [f l[j]]:=by
 subst e
 rw[List.drop_eq_getElem_cons (by simpa using h)];simp[tk]
theorem Zda{H:Z00}{n b f sh len cap z:Nat}{cs:List AV}{ty:TypeId}(hH:H[b]? = some ⟨true,f,sh,.cells cs ty⟩)(hc:cs.length=len*z)(hl:cs.all lit=true):frz H (n+2) (.slice b 0 len cap z)=some (.rs len z cs):=by
 cases len with
 |zero =>
  have:cs=[]:=List.eq_nil_of_length_eq_zero (by omega)
  subst this;rfl
 |succ m =>
  have h2:Z3a (frz H (n+1)) cs=some cs:=ZbG hl
  unfold frz
  simp only[hH,List.drop_zero,Z8U hc]
  rw[h2]
theorem Z7s{H:Z00}{n:Nat}{a b x y:AV}(h1:frz H n a=some x)(h2:frz H n b=some y):frz H (n+1) (Z0Y [a,b])=some (.tuple [x,y]):=by
 have h:Z3a (frz H n) [a,b]=some [x,y]:=by simp only[Z3a,h1,h2]
 show frz H (n+1) (.tuple [a,b])=_
 unfold frz
 show (match Z3a (frz H n) [a,b] with|some l=>some (AV.tuple l)|none=>none)=_
 rw[h]
theorem Z5y{H:Z00}{n:Nat}{cs:List AV}(h:cs.all lit=true):frz H (n+2) (.agg cs)=some (.agg cs):=by
 have h:Z3a (frz H (n+1)) cs=some cs:=ZbG h
 unfold frz
 show (match Z3a (frz H (n+1)) cs with|some l=>some (AV.agg l)|none=>none)=_
 rw[h]
theorem ZeR{P:Program}{d t:Nat}{k:IntKind}(h:P.underlying t=some (.int k))(a b:Int):eqB P (d+1) t (.int k a) (.int k b)=some (a==b):=by simp[eqB,aEq,h]
theorem ZoF{P:Program}{d t:Nat}(h:P.underlying t=some .string)(a b:List UInt8):eqB P (d+1) t (.str a) (.str b)=some (a==b):=by simp[eqB,aEq,h]
theorem Zmg{P:Program}{d t:Nat}(h:P.underlying t=some .bool)(a b:Bool):eqB P (d+1) t (.bool a) (.bool b)=some (a==b):=by simp[eqB,aEq,h]
theorem Z6P {P : Program} {e : TypeId -> AV -> AV -> Option Bool} {t off : Nat} {fs : List (TypeId × Nat)} {xs ys : List AV} {a b : AV} {p q : Bool} (ht : Z5j P t = some false) (hx : xs[off]? = some a) (hy : ys[off]? = some b) (h : e t a b = some p) (h2 : ZbO e P fs xs ys = some q) :
  ZbO e P ((t,off)::fs) xs ys=some (p&&q):=by
 simp only[ZbO,Z6U,ht,hx,hy,h,h2]
theorem ZoG{P:Program}{d t:Nat}{fs:List (TypeId×Nat)}{xs ys:List AV}(hf:Z3t P t=some fs):eqB P (d+1) t (.agg xs) (.agg ys)=ZbO (eqB P d) P fs xs ys:=by simp only[eqB,hf]
theorem ZgE{P:Program}{t:TypeId}{fs:List (TypeId×Nat)}{xs ys:List AV}{r:Bool}(hg:P.eqGuardType P.depth t=false)(hf:Z3t P t=some fs)(h:ZbO (eqB P 9999) P fs xs ys=some r):ZdA P t xs ys=some r:=by
 unfold ZdA
 rw[hg,if_neg (by decide)]
 exact (ZoG (d:=9999) hf).trans h
section facts
open Classical
noncomputable def Zq0(l:List (Nat×List AV×AV)):Orc:=ZkP λf args=>(l.find? λp=>decide (p.1=f/\p.2.1=args)).map (·.2.2)
def Facts(P:Program)(gl:Z0k):List (Nat×List AV×AV)->Prop
 |[]=>True
 |(f,args,r)::l=>refsL args []=[]/\ValOK P gl f args r/\Facts P gl l
theorem Facts.mem{P:Program}{gl:Z0k}:∀{l:List (Nat×List AV×AV)}{p},Facts P gl l->p∈l->refsL p.2.1 []=[]/\ValOK P gl p.1 p.2.1 p.2.2
 |(f,args,r)::l,p,h,hm=>by
  rcases Y08.1 hm with rfl|hm
  ·exact⟨h.1,h.2.1⟩
  ·exact Facts.mem h.2.2 hm
theorem Zap{P:Program}{gl:Z0k}{l:List (Nat×List AV×AV)}(h:Facts P gl l):OrcSound P gl (Zq0 l):=Z7h λf args r e=>by
 simp only[Y0a]at e
 obtain⟨p,e1,rfl⟩:=e
 have hm:=List.mem_of_find?_eq_some e1
 have hp:=List.find?_some e1
 simp only[decide_eq_true_eq]at hp
 obtain⟨rfl,rfl⟩:=hp
 exact h.mem hm
theorem ZqL{P:Program}{l:List (Nat×List AV×AV)}{H:Z00}{g:Nat}{args:List AV}{r:AV}(h1:Z0m P g=true)(h2:l.find? (λp=>decide (p.1=g/\p.2.1=args))=some (g,args,r)):Z06 P (Zq0 l) H g args=some (r,H):=by
 simp only[Z06,h1,if_true,Zq0,ZkP,h2,Y0l]
theorem ZaD{l:List (Nat×List AV×AV)}{g:Nat}{args:List AV}{r:AV}:((g,args,r)::l).find? (λp=>decide (p.1=g/\p.2.1=args))=some (g,args,r):=by simp
end facts
end Go.Abs
end
section
namespace Go.Abs
open Go.RowKit
def Z1v(P:Program)(gl:Z0k)(f:Nat)(args:List AV)(H:Z00)(r:AV)(H':Z00):Prop :=
 ∀(sn:Z0o)(ι : Z0n)(W:World)(cargs:List Value),GlOK gl sn->R sn ι H W->LR sn ι args cargs ->
  CallsY P f cargs.toArray W λe W'=>∃v sn' ι',e = .returned v/\VR sn' ι' r v/\Stp sn ι H W sn' ι' H' W'
def ZkT(k:Nat):Z00->Z00->Bool
 |[],[]=>true
 |o::H,o'::H'=>Y00 o'.fam o.fam&&(Y00 o'.sh o.sh&&((!o'.alive || o.alive)&&(Z11 k (Z3V o'.body [])&&ZkT k H H')))
 |_,_=>false
theorem ZbN{k:Nat}:∀{H H':Z00},ZkT k H H'=true->H'.length=H.length/\∀(b:Nat)(o o':AObj),H[b]? = some o->H'[b]? = some o'->o'.fam=o.fam/\o'.sh=o.sh/\(o'.alive=true->o.alive=true)/\Z11 k (Z3V o'.body [])=true
 |[],[],h=>⟨rfl,λb o o' e=>by simp at e⟩
 |x::H,y::H',h=>by
  simp only[ZkT,Y01]at h
  obtain⟨h1,h2,h3,h4,h5⟩:=h
  obtain⟨k1,k2⟩:=ZbN h5
  refine⟨by simp[k1],λb o o' e e'=>?_⟩
  cases b with
  |zero =>
   simp at e e';subst e;subst e'
   exact⟨Y03 h1,Y03 h2,λha=>by simpa[ha]using h3,h4⟩
  |succ b=>exact k2 b o o' (by simpa using e) (by simpa using e')
 |[],_::_,h=>by simp[ZkT]at h
 |_::_,[],h=>by simp[ZkT]at h
theorem Z0M{k:Nat}:∀{l:List Nat},Z11 k l=true->∀b∈l,b<k
 |[],h,b,hb=>by cases hb
 |n::l,h,b,hb=>by
  simp only[Z11,Y01]at h
  rcases Y08.1 hb with rfl|hb
  ·exact Z85 h.1
  ·exact Z0M h.2 b hb
def Zqu(P:Program)(l:List ResultVar)(k:Nat)(H0:Z00)(r:AV)(H1:Z00)(tm:Tr)(H:Z00):Prop :=
 onO (Z3j P tm H l) λvs=>Z0Y vs=r/\H.take k=H1/\(Z11 k (Z2a r [])&&ZkT k H0 H1)=true
theorem Z2K{sn:Z0o}{ι : Z0n}{us:List AV}{vs:List Value}{fn:Func}(h4:LR sn ι us vs):VR sn ι (Z0Y us) (if h:vs.toArray.size=1 then vs.toArray[0] else .tuple vs.toArray):=by
 match us,h4 with
 |[],h4=>simp only[LR]at h4;subst h4;simp[Z0Y,VR,LR]
 |[u],h4 =>
  simp only[LR]at h4
  obtain⟨d,ds,rfl,hd,rfl⟩:=h4
  simpa[Z0Y]using hd
 |u::u'::l,h4 =>
  have hl:=h4.length
  simp only[Y0f]at hl
  have:vs.toArray.size≠1:=by simp[hl]
  rw[dif_neg this]
  simp only[Z0Y,VR]
  exact⟨_,rfl,h4⟩
theorem ZgR {sn sn1 : Z0o} {ι ι1 : Z0n} {H0 H H1 : Z00} {W W1 : World} {k : Nat} (hk : H0.length = k) (hR : R sn ι H0 W) (s1 : Stq k sn ι H0 W sn1 ι1 H W1) (h3 : H.take k = H1) (h5 : ZkT k H0 H1 = true) :
  ∃ι',Stp sn ι H0 W sn1 ι' H1 W1/\∀u v,Z11 k (Z2a u [])=true->VR sn1 ι1 u v->VR sn1 ι' u v:=by
 obtain⟨e1,e2⟩:=ZbN h5
 have hpl:∀b,b<k->∃p,ι b=some p /\ ι1 b=some p:=λb hb=>by
  obtain⟨p,hp⟩:=(hR.dom b).1 (by omega)
  exact⟨p,hp,s1.keep b p hb hp⟩
 let ι':Z0n:=λb=>if b<k then ι1 b else none
 have hi:∀b,b<k->∀p,ι1 b=some p -> ι' b=some p:=λb hb p hp=>by show (if b<k then ι1 b else none)=some p;rw[if_pos hb];exact hp
 have hi2:∀b p,ι' b=some p->b<k /\ ι1 b=some p:=λb p hp=>by
  have hp:(if b<k then ι1 b else none)=some p:=hp
  split at hp
  ·exact⟨by assumption,hp⟩
  ·cases hp
 have hH:∀(b:Nat)(o:AObj),H1[b]? = some o->b<k/\H[b]? = some o:=λb o hb=>by
  have hb':b<H1.length:=(Y04.1 hb).1
  rw[e1,hk]at hb'
  rw[<- h3,List.getElem?_take_of_lt hb']at hb
  exact⟨hb',hb⟩
 have hR1:R sn1 ι' H1 W1:=by
  refine⟨λb=>⟨λhb=>?_,λ⟨p,hp⟩=>?_⟩,λb p hp=>s1.rel.blk b p (hi2 b p hp).2,λb o p hb hal hp=>?_,λb b' o o' p p' hb hb' ha ha' hp hp' e=>?_,λad v hv=>?_,λb o p hb hp e=>?_⟩
  · rw[e1,hk]at hb
    obtain⟨p,_,hp⟩:=hpl b hb
    exact⟨p,hi b hb p hp⟩
  ·rw[e1,hk];exact (hi2 b p hp).1
  · obtain⟨hb1,hb2⟩:=hH b o hb
    obtain⟨_,hp⟩:=hi2 b p hp
    have h0:b<H0.length:=by omega
    have h6:=(e2 b _ o (Y05 h0) hb).2.2.2
    exact Z2B o.body p (λx hx q hq=>hi x (Z0M h6 x hx) q hq) (s1.rel.obj b o p hb2 hal hp)
  · obtain⟨_,hb2⟩:=hH b o hb
    obtain⟨_,hb2'⟩:=hH b' o' hb'
    exact s1.rel.sep b b' o o' p p' hb2 hb2' ha ha' (hi2 _ _ hp).2 (hi2 _ _ hp').2 e
  · obtain⟨g1,g2,g3⟩:=s1.rel.snap ad v hv
    refine⟨g1,g2,λb o p hb hal hp=>?_⟩
    obtain⟨_,hb2⟩:=hH b o hb
    exact g3 b o p hb2 hal (hi2 _ _ hp).2
  · obtain⟨_,hb2⟩:=hH b o hb
    exact s1.rel.shz b o p hb2 (hi2 _ _ hp).2 e
 refine⟨ι',⟨hR1,⟨s1.le,λb p hb=>?_⟩,λb p hp=>.inl ?_,s1.frame,s1.size,s1.os,s1.tape,s1.output,s1.sfresh,λb o hb=>?_⟩,λu v hu hv=>?_⟩
 · have hbk:b<k:=by have:=(hR.dom b).2 ⟨p,hb⟩;omega
   exact hi b hbk p (s1.keep b p hbk hb)
 · obtain⟨hbk,hp1⟩:=hi2 b p hp
   obtain⟨q,hq,hq1⟩:=hpl b hbk
   rw[hq1]at hp1;cases hp1;exact hq
 · have hb0:=(Y04.1 hb).1
   have hb1:b<H1.length:=by omega
   obtain⟨g1,g2,g3,_⟩:=e2 b o _ hb (Y05 hb1)
   exact⟨_,Y05 hb1,g1,g2,g3⟩
 ·exact Z1n (ι:=ι1) u [] _ (λx hx q hq=>hi x (Z0M hu x hx) q hq) hv
theorem fn_memR {rf : AV -> Array Tmp -> Code -> Code -> KN -> KX -> KN -> Tr -> Z00 -> Prop} {P : Program} {gl : Z0k} {orc : Orc} {k : Nat} (hrf : Zr2 P gl none k rf) (hm : P.follows .mixedOrders = true) (hn : NoNum P) (hO : OrcSound P gl orc) {f : Nat} {fn : Func} {c : Code} {args : List AV} {H0 H1 : Z00} {r : AV} (hk : H0.length = k)
  (hf:P.funcs[f]? = some fn) (hc:fn.body=some c) {cw:CW} (hcw:Z5O P orc cw)
  (h:frcTr (tmk (Z76 args fn.ntmps args.length) (Z8c 20 fn.ntmps)) λtm=>Z29 P gl orc cw ⟨Z5J k,rf⟩ c (Zqu P fn.results.toList k H0 r H1) (λ_ _ _=>False) (Zqu P fn.results.toList k H0 r H1) tm H0):Z1v P gl f args H0 r H1:=by
 intro sn ι W cargs hg hR ha
 rw[Z1L]at h
 refine .inl (Z2P hf hc (Z1B (rd:=none) hrf hm hn hO hcw c h) hg hR ha (λ_ _ _ h=>h) λx tm1 H a1 W1 sn1 ι1 hx s1 t1=>?_)
 have key:Zqu P fn.results.toList k H0 r H1 tm1 H->∃v,(results fn a1.tmps).run P W1 = .ok v W1/\∃sn' ι',VR sn' ι' r v/\Stp sn ι H0 W sn' ι' H1 W1:=by
  intro h
  obtain⟨us,h1,h2,h3,h4⟩:=Z04 h
  simp only[Y01]at h4
  obtain⟨h4,h5⟩:=h4
  obtain⟨vs,k1,k2⟩:=Z0O s1.rel t1 _ _ h1
  obtain⟨ι',g1,g2⟩:=ZgR hk hR s1 h3 h5
  refine⟨_,Z0R k2,sn1,ι',?_,g1⟩
  rw[<- h2]at h4⊢
  exact g2 _ _ h4 (Z2K (fn:=fn) k1)
 cases x with
 |normal =>
  obtain⟨v,k1,sn',ι',k2,k3⟩:=key hx
  exact⟨v,k1,v,sn',ι',rfl,k2,k3⟩
 |exit id=>exact hx.elim
 |ret =>
  obtain⟨v,k1,sn',ι',k2,k3⟩:=key hx
  exact⟨v,k1,v,sn',ι',rfl,k2,k3⟩
theorem ZaB {P : Program} {gl : Z0k} {orc : Orc} (hm : P.follows .mixedOrders = true) (hn : NoNum P) (hO : OrcSound P gl orc) {f k : Nat} {fn : Func} {c : Code} {args : List AV} {H0 H1 : Z00} {r : AV} (hk : H0.length = k)
  (hf:P.funcs[f]? = some fn) (hc:fn.body=some c) {cw:CW} (hcw:Z5O P orc cw)
  (h:frcTr (tmk (Z76 args fn.ntmps args.length) (Z8c 20 fn.ntmps)) λtm=>Z29 P gl orc cw (Zab k) c (Zqu P fn.results.toList k H0 r H1) (λ_ _ _=>False) (Zqu P fn.results.toList k H0 r H1) tm H0):Z1v P gl f args H0 r H1 :=
 fn_memR (λ_ _ _ _ _ _ _ _ _ _ _ h=>h.elim) hm hn hO hk hf hc hcw h
section orcI
open Classical
noncomputable def orcI{I:Type}(G:I->Prop)(fF:I->Nat)(fA:I->List AV)(fH:I->Z00)(fR:I->AV)(fO:I->Z00):Orc:=λf args H =>
 if h:∃i,G i/\fF i=f/\fA i=args/\fH i=H then some (fR (Classical.choose h),fO (Classical.choose h)) else none
theorem Z2u{P:Program}{gl:Z0k}{I:Type}{G:I->Prop}{fF:I->Nat}{fA:I->List AV}{fH:I->Z00}{fR:I->AV}{fO:I->Z00}(h:∀i,G i->Z1v P gl (fF i) (fA i) (fH i) (fR i) (fO i)):OrcSound P gl (orcI G fF fA fH fR fO):=by
 intro f args H r H' e
 unfold orcI at e
 split at e
 · rename_i hx
   simp only[Option.some.injEq,Prod.mk.injEq]at e
   obtain⟨rfl,rfl⟩:=e
   obtain⟨g1,e1,e2,e3⟩:=Classical.choose_spec hx
   have:=h _ g1
   rw[e1,e2,e3]at this;exact this
 ·cases e
theorem Zdy {P : Program} {I : Type} {G : I -> Prop} {fF : I -> Nat} {fA : I -> List AV} {fH : I -> Z00} {fR : I -> AV} {fO : I -> Z00} (hinj : ∀ i j, G i -> G j -> fF i = fF j -> fA i = fA j -> fH i = fH j -> fR i = fR j /\ fO i = fO j) {g : Nat} {args : List AV} {H : Z00} (hb : Z0m P g = true) (i : I) (hi : G i) (h1 : fF i = g) (h2 : fA i = args) (h3 : fH i = H) :
  Z06 P (orcI G fF fA fH fR fO) H g args=some (fR i,fO i):=by
 have hx:∃i,G i/\fF i=g/\fA i=args/\fH i=H:=⟨i,hi,h1,h2,h3⟩
 unfold Z06
 rw[if_pos hb]
 unfold orcI
 rw[dif_pos hx]
 obtain⟨g1,g2,g3,g4⟩:=Classical.choose_spec hx
 obtain⟨e1,e2⟩:=hinj _ i g1 hi (g2.trans h1.symm) (g3.trans h2.symm) (g4.trans h3.symm)
 rw[e1,e2]
end orcI
end Go.Abs
end
section
namespace Go.Abs
open Go.RowKit
mutual
def Zeu:AV->Bool
 | .rp _=>false
 | .rs _ _ _=>false
 | .func _ f c=>noROL f&&noROL c
 | .iface _ v=>Zeu v
 | .agg cs=>noROL cs
 | .tuple cs=>noROL cs
 | .bool _=>true
 | .int _ _=>true
 | .str _=>true
 | .nptr=>true
 | .ptr _ _=>true
 | .nslice=>true
 | .slice _ _ _ _ _=>true
 | .nmap=>true
 | .map _=>true
 | .nfunc=>true
 | .niface=>true
def noROL:List AV->Bool
 |[]=>true
 |c::l=>Zeu c&&noROL l
end
def ZlD:List (AV×AV×Nat)->Bool
 |[]=>true
 |(k,v,_)::l=>Zeu k&&(Zeu v&&ZlD l)
def ZlC:List (Nat×AV)->Bool
 |[]=>true
 |x::l=>Zeu x.2&&ZlC l
def Zo2:ABody->Bool
 | .cells cs _=>noROL cs
 | .map es _=>ZlD es
 | .siter _ _=>true
 | .loop _ ts=>ZlC ts
def ZiM:Z00->Bool
 |[]=>true
 |o::l=>Zo2 o.body&&ZiM l
mutual
theorem Z5b{sn sn':Z0o}{ι : Z0n}:∀(u:AV)(v:Value),Zeu u=true->VR sn ι u v->VR sn' ι u v
 | .rp _,v,h,e=>by simp[Zeu]at h
 | .rs _ _ _,v,h,e=>by simp[Zeu]at h
 | .func fn f c,v,h,e=>by
  simp only[Zeu,Y01]at h
  simp only[VR]at *;obtain⟨x,y,h1,h2,h3⟩:=e
  exact⟨x,y,h1,LR_snap f _ h.1 h2,LR_snap c _ h.2 h3⟩
 | .iface t u,v,h,e=>by
  simp only[Zeu]at h
  simp only[VR]at *;obtain⟨x,h1,h2⟩:=e
  exact⟨x,h1,Z5b u _ h h2⟩
 | .agg cs,v,h,e=>by
  simp only[Zeu]at h
  simp only[VR]at *;obtain⟨x,h1,h2⟩:=e
  exact⟨x,h1,LR_snap cs _ h h2⟩
 | .tuple cs,v,h,e=>by
  simp only[Zeu]at h
  simp only[VR]at *;obtain⟨x,h1,h2⟩:=e
  exact⟨x,h1,LR_snap cs _ h h2⟩
 | .bool _,v,h,e=>by simpa[VR]using e
 | .int _ _,v,h,e=>by simpa[VR]using e
 | .str _,v,h,e=>by simpa[VR]using e
 | .nptr,v,h,e=>by simpa[VR]using e
 | .ptr _ _,v,h,e=>by simpa[VR]using e
 | .nslice,v,h,e=>by simpa[VR]using e
 | .slice _ _ _ _ _,v,h,e=>by simpa[VR]using e
 | .nmap,v,h,e=>by simpa[VR]using e
 | .map _,v,h,e=>by simpa[VR]using e
 | .nfunc,v,h,e=>by simpa[VR]using e
 | .niface,v,h,e=>by simpa[VR]using e
theorem LR_snap{sn sn':Z0o}{ι : Z0n}:∀(us:List AV)(vs:List Value),noROL us=true->LR sn ι us vs->LR sn' ι us vs
 |[],vs,h,e=>by simpa[LR]using e
 |u::us,vs,h,e=>by
  simp only[noROL,Y01]at h
  simp only[LR]at *;obtain⟨d,ds,h1,h2,h3⟩:=e
  exact⟨d,ds,h1,Z5b u _ h.1 h2,LR_snap us _ h.2 h3⟩
end
theorem ZkK{sn sn':Z0o}{ι : Z0n}:∀(es:List (AV×AV×Nat))(l:List MapEntry),ZlD es=true->ER sn ι es l->ER sn' ι es l
 |[],l,h,e=>by simpa[ER]using e
 |(k,v,n)::es,l,h,e=>by
  simp only[ZlD,Y01]at h
  simp only[ER]at *
  obtain⟨x,l',h1,h2,h3,h4,h5⟩:=e
  exact⟨x,l',h1,Z5b k _ h.1 h2,Z5b v _ h.2.1 h3,h4,ZkK es _ h.2.2 h5⟩
theorem ZgG{sn sn':Z0o}{ι : Z0n}{a:Array Value}:∀(ts:List (Nat×AV)),ZlC ts=true->TSR sn ι ts a->TSR sn' ι ts a
 |[],h,e=>trivial
 |x::l,h,⟨⟨v,h1,h2⟩,h3⟩=>by
  simp only[ZlC,Y01]at h
  exact⟨⟨v,h1,Z5b x.2 v h.1 h2⟩,ZgG l h.2 h3⟩
theorem Zpi{sn sn':Z0o}{ι : Z0n}{W:World}{p:Place}:∀(b:ABody),Zo2 b=true->OR sn ι W b p->OR sn' ι W b p
 | .cells cs ty,h,e=>by
  simp only[OR]at e⊢
  obtain⟨arr,h1,h2,h3,h4⟩:=e
  refine⟨arr,h1,h2,h3,λi c hc=>?_⟩
  obtain⟨v,k1,k2⟩:=h4 i c hc
  have hn:∀(l:List AV)(i:Nat),noROL l=true->l[i]? = some c->Zeu c=true:=by
   intro l
   induction l with
   |nil=>intro i h hc;simp at hc
   |cons x l ih =>
    intro i h hc
    simp only[noROL,Y01]at h
    cases i with
    |zero=>simp at hc;subst hc;exact h.1
    |succ i=>exact ih i h.2 (by simpa using hc)
  exact⟨v,k1,Z5b c v (hn cs i h hc) k2⟩
 | .map es c,h,e=>by
  simp only[OR]at e⊢
  obtain⟨mes,h1,h2⟩:=e
  exact⟨mes,h1,ZkK es _ h h2⟩
 | .siter s q,h,e=>by simpa only[OR]using e
 | .loop g ts,h,e=>by
  simp only[OR]at e⊢
  obtain⟨r,h1,h2,h3,h4⟩:=e
  exact⟨r,h1,h2,h3,ZgG ts h h4⟩
def ZhG(f:Nat->Nat):List (AV×AV×Nat)->List (AV×AV×Nat)
 |[]=>[]
 |(k,v,n)::l=>(ren f k,ren f v,n)::ZhG f l
def Zr9(f:Nat->Nat):List (Nat×AV)->List (Nat×AV)
 |[]=>[]
 |x::l=>(x.1,ren f x.2)::Zr9 f l
def Z5I(f:Nat->Nat):ABody->ABody
 | .cells cs ty=>.cells (renL f cs) ty
 | .map es c=>.map (ZhG f es) c
 | .siter s p=>.siter s p
 | .loop g ts=>.loop g (Zr9 f ts)
theorem ZfE(f:Nat->Nat):∀(l:List AV)(i:Nat),(renL f l)[i]? = (l[i]?).map (ren f)
 |[],i=>by simp[renL]
 |c::l,0=>by simp[renL]
 |c::l,i+1=>by simpa[renL]using ZfE f l i
theorem ZfD(f:Nat->Nat):∀(l:List AV),(renL f l).length=l.length
 |[]=>rfl
 |c::l=>by simp[renL,ZfD f l]
theorem Zno{sn:Z0o}{ι : Z0n}{f:Nat->Nat}:∀(es:List (AV×AV×Nat))(l:List MapEntry),ER sn (λb=>ι (f b)) es l->ER sn ι (ZhG f es) l
 |[],l,e=>by simpa[ER,ZhG]using e
 |(k,v,n)::es,l,e=>by
  simp only[ER,ZhG]at *
  obtain⟨x,l',h1,h2,h3,h4,h5⟩:=e
  exact⟨x,l',h1,(Z5c k _).2 h2,(Z5c v _).2 h3,h4,Zno es _ h5⟩
theorem ZkG{sn:Z0o}{ι : Z0n}{f:Nat->Nat}{a:Array Value}:∀(ts:List (Nat×AV)),TSR sn (λb=>ι (f b)) ts a->TSR sn ι (Zr9 f ts) a
 |[],e=>trivial
 |x::l,⟨⟨v,h1,h2⟩,h3⟩=>⟨⟨v,h1,(Z5c x.2 _).2 h2⟩,ZkG l h3⟩
theorem Z89{sn:Z0o}{ι : Z0n}{f:Nat->Nat}{W:World}{p:Place}:∀(b:ABody),OR sn (λb=>ι (f b)) W b p->OR sn ι W (Z5I f b) p
 | .cells cs ty,e=>by
  simp only[OR,Z5I]at *
  obtain⟨arr,h1,h2,h3,h4⟩:=e
  refine⟨arr,h1,h2,by rw[ZfD];exact h3,λi c hc=>?_⟩
  rw[ZfE]at hc
  cases hx:cs[i]? with
  |none=>rw[hx]at hc;cases hc
  |some x =>
   rw[hx]at hc;simp at hc;subst hc
   obtain⟨v,k1,k2⟩:=h4 i x hx
   exact⟨v,k1,(Z5c x _).2 k2⟩
 | .map es c,e=>by
  simp only[OR,Z5I]at *
  obtain⟨mes,h1,h2⟩:=e
  exact⟨mes,h1,Zno es _ h2⟩
 | .siter s q,e=>by simpa only[OR,Z5I]using e
 | .loop g ts,e=>by
  simp only[OR,Z5I]at *
  obtain⟨r,h1,h2,h3,h4⟩:=e
  exact⟨r,h1,h2,h3,ZkG ts h4⟩
def Z5M:List Nat->Nat->Nat->Option Nat
 |[],_,_=>none
 |j::l,b,i=>if Y00 j b then some i else Z5M l b (i+1)
theorem Z2L:∀{m:List Nat}{b i j:Nat},Z5M m b i=some j->i<=j/\m[j-i]? = some b
 |[],b,i,j,h=>by simp[Z5M]at h
 |x::m,b,i,j,h=>by
  simp only[Z5M]at h
  split at h
  · rename_i e
    cases h
    exact⟨Nat.le_refl _,by simp[Y03 e]⟩
  · obtain⟨h1,h2⟩:=Z2L h
    refine⟨by omega,?_⟩
    rw[show j-i=(j-(i+1))+1 by omega];simpa using h2
theorem Z6s:∀{m:List Nat}{b i:Nat},Z5M m b i=none->b ∉ m
 |[],b,i,h=>by simp
 |x::m,b,i,h=>by
  simp only[Z5M]at h
  split at h
  ·cases h
  · rename_i e
    intro hm
    rcases Y08.1 hm with rfl|hm
    ·exact e (by simp)
    ·exact Z6s h hm
def Zn7(m:List Nat)(Hk:Z00):Nat->AV->Option AV
 |0,_=>none
 |n+1,u=>match u with
  | .ptr b off=>match Z5M m b 0 with|some i=>some (.ptr i off)|none=>frz Hk 30 (.ptr b off)
  | .slice b off len cap z=>match Z5M m b 0 with|some i=>some (.slice i off len cap z)|none=>frz Hk 30 (.slice b off len cap z)
  | .map b=>match Z5M m b 0 with|some i=>some (.map i)|none=>none
  | .func fn f c=>match Z3a (Zn7 m Hk n) f,Z3a (Zn7 m Hk n) c with|some f,some c=>some (.func fn f c)|_,_=>none
  |u=>frz Hk 30 u
def ZiS(m fs:List Nat):Nat->Z00->Bool
 |_,[]=>true
 |i,o::H=>(mem i m || !mem o.fam fs)&&ZiS m fs (i+1) H
theorem ZcV{m fs:List Nat}:∀{H:Z00}{i j:Nat}{o:AObj},ZiS m fs i H=true->H[j]? = some o->i+j∈m\/o.fam ∉ fs
 |[],i,j,o,h,e=>by simp at e
 |x::H,i,0,o,h,e=>by
  simp only[ZiS,Y01,Y09,Y0h]at h
  simp at e;subst e
  rcases h.1 with h1|h1
  ·exact .inl (Z18.1 h1)
  ·exact .inr λe=>by rw[Z18.2 e]at h1;cases h1
 |x::H,i,j+1,o,h,e=>by
  simp only[ZiS,Y01]at h
  have:=ZcV h.2 (by simpa using e)
  rcases this with h1|h1
  ·exact .inl (by rw[show i+(j+1)=i+1+j by omega];exact h1)
  ·exact .inr h1
def Zfj(m:List Nat)(Hs:Z00):Nat->Z00->Z00
 |_,[]=>[]
 |i,o::H=>(match Z5M m i 0 with
  |some j=>match Hs[j]? with
   |some o'=>{ o with alive:=o'.alive,body:=Z5I (λb=>m.getD b 0) o'.body }
   |none=>o
  |none=>o)::Zfj m Hs (i+1) H
end Go.Abs
end
section
namespace Go.Abs
open Go.RowKit
theorem Z5x {sn sn2 : Z0o} {ι : Z0n} {H : Z00} {W : World} (hobj : ∀ (b : Nat) (o : AObj) p, H[b]? = some o -> o.alive = true -> ι b = some p -> OR sn ι W o.body p) (hle : Le sn sn2 noI noI)
  (hcell:∀(b:Nat)(o:AObj) p,H[b]? = some o->o.alive=true -> ι b=some p->∀(off:Nat)(v:Value),W.cell? ⟨p.blk,off,none⟩=some v->sn2 ⟨p.blk,off,none⟩=some v) :
  ∀(n:Nat)(u r:AV)(v:Value),frz H n u=some r->VR sn ι u v->VR sn2 noI r v:=by
 intro n
 induction n with
 |zero=>intro u r v h;simp[frz]at h
 |succ n ih =>
  have cells:∀{b:Nat}{o:AObj}{p:Place}{cs l:List AV}{ty:TypeId}{off:Nat},H[b]? = some o->o.alive=true->o.body = .cells cs ty -> ι b=some p->Z3a (frz H n) (cs.drop off)=some l->MR sn2 l p.blk (p.sh+off):=by
   intro b o p cs l ty off ho ha hb hp hl
   obtain⟨_,h2⟩:=Z6J hl
   have hor:=hobj b o p ho ha hp
   rw[hb]at hor
   simp only[OR]at hor
   obtain⟨arr,k1,k2,k3,k4⟩:=hor
   refine Z4Q λi x hx=>?_
   obtain⟨c,hc,hcx⟩:=h2 i x hx
   rw[Y0j]at hc
   obtain⟨v,e1,e2⟩:=k4 (off+i) c hc
   refine⟨v,?_,ih c x v hcx e2⟩
   refine hcell b o p ho ha hp _ _ ?_
   rw[Z2O k1]
   rw[<- e1];congr 1;omega
  intro u r v h hv
  unfold frz at h
  split at h
  · rename_i b off
    split at h<;>try (simp at h;done)
    rename_i o ho
    split at h<;>try (simp at h;done)
    rename_i cs ty ha hb
    split at h<;>simp at h
    rename_i l hl
    subst h
    obtain⟨p,hp,rfl⟩:=hv.ptr
    simp only[VR]
    exact⟨_,_,rfl,cells ho ha hb hp hl⟩
  · rename_i b off len cap z
    obtain⟨p,a,cap',hp,rfl,h1,h2,h3⟩:=hv.slice
    split at h
    · simp at h;subst h
      simp only[VR]
      exact .inr ⟨a,cap',rfl,by omega,by simp,by simp[MR],λh=>absurd rfl h⟩
    · rename_i len
      split at h<;>try (simp at h;done)
      rename_i o ho
      split at h<;>try (simp at h;done)
      rename_i cs ty ha hb
      split at h<;>try (simp at h;done)
      rename_i cs' hcs
      split at h<;>simp at h
      rename_i l hl
      subst h
      obtain⟨ha',_⟩:=h3 (by omega)
      subst ha'
      obtain⟨e1,rfl⟩:=Z4B hcs
      obtain⟨f1,f2⟩:=Z6J hl
      simp only[VR]
      refine .inr ⟨_,cap',rfl,by omega,?_,?_,λ_=>rfl⟩
      ·rw[f1,List.length_take];exact Nat.min_eq_left e1
      · have hor:=hobj b o p ho ha hp
        rw[hb]at hor
        simp only[OR]at hor
        obtain⟨arr,k1,k2,k3,k4⟩:=hor
        refine Z4Q λi x hx=>?_
        obtain⟨c,hc,hcx⟩:=f2 i x hx
        rw[List.getElem?_take]at hc
        split at hc<;>try (simp at hc;done)
        rw[Y0j]at hc
        obtain⟨v,g1,g2⟩:=k4 (off+i) c hc
        refine⟨v,?_,ih c x v hcx g2⟩
        refine hcell b o p ho ha hp _ _ ?_
        rw[Z2O k1]
        rw[<- g1];congr 1;simp only;omega
  · split at h<;>simp at h
    rename_i l hl;subst h
    obtain⟨d,rfl,h1⟩:=hv.agg
    exact Z33 (Z1y ih hl h1)
  · split at h<;>simp at h
    rename_i l hl;subst h
    obtain⟨d,rfl,h1⟩:=hv.tuple
    exact Z5e (Z1y ih hl h1)
  · split at h<;>simp at h
    rename_i x hx;subst h
    obtain⟨y,rfl,h1⟩:=hv.iface
    simp only[VR];exact⟨y,rfl,ih _ _ _ hx h1⟩
  · split at h<;>simp at h
    rename_i f c hf hc;subst h
    obtain⟨x,y,rfl,h1,h2⟩:=hv.func
    simp only[VR];exact⟨x,y,rfl,Z1y ih hf h1,Z1y ih hc h2⟩
  ·simp at h
  · rename_i e1 e2 e3 e4 e5 e6 e7
    simp at h;subst h
    cases u with
    |ptr b o=>exact (e1 _ _ rfl).elim
    |slice b o l c z=>exact (e2 _ _ _ _ _ rfl).elim
    |agg cs=>exact (e3 _ rfl).elim
    |tuple cs=>exact (e4 _ rfl).elim
    |iface t v=>exact (e5 _ _ rfl).elim
    |func fn f c=>exact (e6 _ _ _ rfl).elim
    |map b=>exact (e7 _ rfl).elim
    |_=>exact Z1f (ι:=noI) hle _ _ (Z1n (ι:=ι) _ [] _ (λb hb=>by simp[Z2a]at hb) hv)
theorem ZnB{m:List Nat}{H H2:Z00}(hp:HpGe H m m H2 0)(hfam:Z0U (m.map (Z1x H))=true){sn:Z0o}{ι : Z0n}{W:World}(hR:R sn ι H W):R sn (iot m ι) H2 W:=by
 obtain⟨hl,hg⟩:=hp.get
 have at2:∀{b:Nat}{o2:AObj}{p:Place},H2[b]? = some o2->iot m ι b=some p->∃j o,m[b]? = some j/\H[j]? = some o /\ ι j=some p/\o.alive=true/\o2.alive=true/\o2.fam=b/\o2.sh=o.sh/\BodyGe m o.body o2.body:=by
  intro b o2 p hb hp
  obtain⟨j,o,o2',x1,x2,x3,x4,x5,x6,x7,x8⟩:=hg b (by rw[<- hl];exact (Y04.1 hb).1)
  rw[hb]at x3;simp at x3;subst x3
  simp only[iot,x1]at hp
  exact⟨j,o,x1,x2,hp,x4,x5,by omega,x7,x8⟩
 have hR2:R sn (iot m ι) H2 W:=by
  refine⟨λb=>⟨λhb=>?_,λ⟨p,hp⟩=>?_⟩,λb p hp=>?_,λb o2 p hb ha hp=>?_,λb b' o o' p p' hb hb' ha ha' hp hp' e=>?_,λad v hv=>?_,λb o2 p hb hp e=>?_⟩
  · obtain⟨j,o,o2,x1,x2,_⟩:=hg b (by omega)
    obtain⟨p,hp⟩:=hR.place x2
    exact⟨p,by simp only[iot,x1];exact hp⟩
  · unfold iot at hp
    split at hp
    ·rename_i j hj;rw[hl];exact (Y04.1 hj).1
    ·cases hp
  · unfold iot at hp
    split at hp
    ·exact hR.blk _ p hp
    ·cases hp
  · obtain⟨j,o,x1,x2,x3,x4,x5,x6,x7,x8⟩:=at2 hb hp
    exact x8.or (hR.obj j o p x2 x4 x3)
  · obtain⟨j,q,x1,x2,x3,x4,x5,x6,x7,x8⟩:=at2 hb hp
    obtain⟨j',q',y1,y2,y3,y4,y5,y6,y7,y8⟩:=at2 hb' hp'
    have hs:=hR.sep j j' q q' p p' x2 y2 x4 y4 x3 y3 e
    have:b=b':=Z5r (l:=m.map (Z1x H)) (x:=q.fam) hfam (by simp[x1,Z1x,x2]) (by simp[y1,Z1x,y2,hs.1])
    subst this
    exact⟨by rw[x6,y6],by rw[x7,y7];exact hs.2⟩
  · obtain⟨h1,h2,h3⟩:=hR.snap ad v hv
    refine⟨h1,h2,λb o2 p hb ha hp=>?_⟩
    obtain⟨j,o,x1,x2,x3,x4,_⟩:=at2 hb hp
    exact h3 j o p x2 x4 x3
  · obtain⟨j,o,x1,x2,x3,x4,x5,x6,x7,x8⟩:=at2 hb hp
    exact hR.shz j o p x2 x3 (by omega)
 exact hR2
def ZqW(m:List Nat)(H:Z00):Z00:=kil (λi _=>mem i m) 0 H
theorem ZfX{m:List Nat}{H:Z00}{b:Nat}{o:AObj}(h:(ZqW m H)[b]? = some o)(ha:o.alive=true):H[b]? = some o/\b ∉ m:=by
 unfold ZqW at h
 rw[Z60]at h
 cases hx:H[b]? with
 |none=>rw[hx]at h;cases h
 |some x =>
  rw[hx]at h
  simp only[Y0l,Option.some.injEq,Y02]at h
  split at h
  ·subst h;simp[AObj.dead]at ha
  · rename_i hm
    subst h
    exact⟨rfl,λhb=>hm (Z18.2 hb)⟩
theorem Zfi (m : List Nat) (Hs : Z00) : ∀ (H : Z00) (i b : Nat), (Zfj m Hs i H)[b]? = (H[b]?).map fun o => match Z5M m (i + b) 0 with
  |some j=>match Hs[j]? with
   |some o'=>{ o with alive:=o'.alive,body:=Z5I (λb=>m.getD b 0) o'.body }
   |none=>o
  |none=>o
 |[],i,b=>by simp[Zfj]
 |o::H,i,0=>by
  simp only[Zfj,Y0m,Y0l,Y06]<;>rfl
 |o::H,i,b+1=>by
  simp only[Zfj,List.getElem?_cons_succ]
  rw[Zfi m Hs H (i+1) b,show i+1+b=i+(b+1) by omega]
theorem Zhn {sn sn2 : Z0o} {ι : Z0n} {H : Z00} {W : World} {m : List Nat} (hobj : ∀ (b : Nat) (o : AObj) p, H[b]? = some o -> o.alive = true -> ι b = some p -> OR sn ι W o.body p) (hle : Le sn sn2 noI noI)
  (hcell:∀(b:Nat)(o:AObj) p,H[b]? = some o->o.alive=true -> ι b=some p->∀(off:Nat)(v:Value),W.cell? ⟨p.blk,off,none⟩=some v->sn2 ⟨p.blk,off,none⟩=some v) :
  ∀(n:Nat)(u r:AV)(v:Value),Zn7 m H n u=some r->VR sn ι u v->VR sn2 (iot m ι) r v:=by
 have lift:∀{r:AV}{v:Value},VR sn2 noI r v->VR sn2 (iot m ι) r v:=λh=>Z1f ⟨λ_ _ h=>h,λb p h=>by simp[noI]at h⟩ _ _ h
 have at_:∀{b i:Nat},Z5M m b 0=some i->∀p,ι b=some p->iot m ι i=some p:=λh p hp=>by
  have:=(Z2L h).2
  simp only[Nat.sub_zero]at this
  simp only[iot,this];exact hp
 intro n
 induction n with
 |zero=>intro u r v h;simp[Zn7]at h
 |succ n ih =>
  intro u r v h hv
  unfold Zn7 at h
  split at h
  · split at h
    · rename_i b off i hi
      simp at h;subst h
      obtain⟨p,hp,rfl⟩:=hv.ptr
      simp only[VR];exact⟨p,at_ hi p hp,rfl⟩
    ·exact lift (Z5x hobj hle hcell 30 _ _ _ h hv)
  · split at h
    · rename_i b off len cap z i hi
      simp at h;subst h
      obtain⟨p,a,cap',hp,h1⟩:=hv.slice
      simp only[VR];exact⟨p,a,cap',at_ hi p hp,h1⟩
    ·exact lift (Z5x hobj hle hcell 30 _ _ _ h hv)
  · split at h
    · rename_i b i hi
      simp at h;subst h
      simp only[VR]at hv⊢
      obtain⟨p,hp,h1⟩:=hv
      exact⟨p,at_ hi p hp,h1⟩
    ·cases h
  · split at h<;>simp at h
    rename_i f c hf hc;subst h
    obtain⟨x,y,rfl,h1,h2⟩:=hv.func
    have each:∀{l l':List AV}{vs:List Value},Z3a (Zn7 m H n) l=some l'->LR sn ι l vs->LR sn2 (iot m ι) l' vs:=by
     intro l
     induction l with
     |nil=>intro l' vs h e;simp[Z3a]at h;subst h;simpa[LR]using e
     |cons c l ih2 =>
      intro l' vs h e
      simp only[Z3a]at h
      split at h<;>simp at h
      rename_i x y hx hy
      subst h
      simp only[LR]at e⊢
      obtain⟨d,ds,rfl,h1,h2⟩:=e
      exact⟨d,ds,rfl,ih _ _ _ hx h1,ih2 hy h2⟩
    simp only[VR];exact⟨x,y,rfl,each hf h1,each hc h2⟩
  ·exact lift (Z5x hobj hle hcell 30 _ _ _ h hv)
theorem Z9s {sn sn2 : Z0o} {ι : Z0n} {H : Z00} {W : World} {m : List Nat} (hobj : ∀ (b : Nat) (o : AObj) p, H[b]? = some o -> o.alive = true -> ι b = some p -> OR sn ι W o.body p) (hle : Le sn sn2 noI noI)
  (hcell:∀(b:Nat)(o:AObj) p,H[b]? = some o->o.alive=true -> ι b=some p->∀(off:Nat)(v:Value),W.cell? ⟨p.blk,off,none⟩=some v->sn2 ⟨p.blk,off,none⟩=some v) (n:Nat) :
  ∀(us rs:List AV)(vs:List Value),Z3a (Zn7 m H n) us=some rs->LR sn ι us vs->LR sn2 (iot m ι) rs vs
 |[],rs,vs,h,e=>by simp[Z3a]at h;subst h;simpa[LR]using e
 |u::us,rs,vs,h,e=>by
  simp only[Z3a]at h
  split at h<;>simp at h
  rename_i x y hx hy
  subst h
  simp only[LR]at e⊢
  obtain⟨d,ds,rfl,h1,h2⟩:=e
  exact⟨d,ds,rfl,Zhn hobj hle hcell n _ _ _ hx h1,Z9s hobj hle hcell n us y ds hy h2⟩
theorem ZcT:∀{H:Z00}{i:Nat}{o:AObj},ZiM H=true->H[i]? = some o->Zo2 o.body=true
 |[],i,o,h,e=>by simp at e
 |x::H,0,o,h,e=>by simp[ZiM]at h e;subst e;exact h.1
 |x::H,i+1,o,h,e=>by simp[ZiM]at h e;exact ZcT h.2 e
theorem Z9j {P : Program} {gl : Z0k} {f : Nat} {Hs Hs' Hc : Z00} {fargs cargs : List AV} {r : AV} {m : List Nat} {n : Nat} (hM : Z1v P gl f fargs Hs r Hs') (hargs : Z3a (Zn7 m (ZqW m Hc) n) cargs = some fargs) (hsub : HpGe Hc m m Hs 0)
  (hnd:Z0U (m.map (Z1x Hc))=true) (hlone:ZiS m (m.map (Z1x Hc)) 0 Hc=true) (hev:ZkT m.length Hs Hs'=true) (hro:ZiM Hs'=true) (hrr:Zeu r=true) (hrk:Z11 m.length (Z2a r [])=true) :
  Z1v P gl f cargs Hc (ren (λb=>m.getD b 0) r) (Zfj m Hs' 0 Hc):=by
 intro sn ι W vargs hg hR hl
 obtain⟨hl1,hg1⟩:=hsub.get
 obtain⟨hl2,hg2⟩:=ZbN hev
 have inm:∀b,b∈m->∃ (i:Nat) (o o2:AObj) (p:Place),m[i]? = some b/\Hc[b]? = some o/\Hs[i]? = some o2/\o.alive=true/\o2.alive=true /\ ι b=some p:=by
  intro b hb
  obtain⟨i,hi,rfl⟩:=List.mem_iff_getElem.1 hb
  obtain⟨j,o,o2,x1,x2,x3,x4,x5,_⟩:=hg1 i hi
  rw[Y05 hi]at x1
  cases x1
  obtain⟨p,hp⟩:=hR.place x2
  exact⟨i,o,o2,p,Y05 hi,x2,x3,x4,x5,hp⟩
 have apart_:∀(b:Nat)(o:AObj)(p:Place),Hc[b]? = some o->o.alive=true->b ∉ m -> ι b=some p->∀b' p',b'∈m -> ι b'=some p'->p'.blk≠p.blk:=by
  intro b o p ho hoa hb hp b' p' hb' hp' e
  obtain⟨i,o',o2,q,y1,y2,y3,y4,y5,y6⟩:=inm b' hb'
  have hs:=hR.sep b b' o o' p p' ho y2 hoa y4 hp hp' e.symm
  rcases ZcV hlone ho with h|h
  ·exact hb (by simpa using h)
  · refine h ?_
    rw[List.mem_map]
    exact⟨b',hb',by simp only[Z1x,y2];exact hs.1.symm⟩
 let q:Nat->Prop:=λc=>∃b p,b∈m /\ ι b=some p/\p.blk=c
 let sn2:Z0o:=λa=>open Classical in if q a.block\/¬a.block<W.heap.size then none else W.cell? a
 have hsn2:∀a v,sn2 a=some v->¬q a.block/\a.block<W.heap.size/\W.cell? a=some v:=λa v h=>by
  have h:(open Classical in if q a.block\/¬a.block<W.heap.size then none else W.cell? a)=some v:=h
  split at h
  ·cases h
  · rename_i hx
    simp only[not_or,Classical.not_not]at hx
    exact⟨hx.1,hx.2,h⟩
 have hsn2':∀a v,¬q a.block->a.block<W.heap.size->W.cell? a=some v->sn2 a=some v:=λa v h1 h2 h3=>by
  show (open Classical in if q a.block\/¬a.block<W.heap.size then none else W.cell? a)=some v
  rw[if_neg (by simp only[not_or,Classical.not_not];exact⟨h1,h2⟩)];exact h3
 have hle:∀a v,sn a=some v->sn2 a=some v:=λa v hv=>by
  obtain⟨h1,h2,h3⟩:=hR.snap a v hv
  refine hsn2' a v ?_ h1 h2
  rintro⟨b,p,hb,hp,e⟩
  obtain⟨i,o,o2,p',y1,y2,y3,y4,y5,y6⟩:=inm b hb
  exact h3 b o p y2 y4 hp e
 have hR0:=ZnB hsub hnd hR
 have atm:∀{i:Nat}{p:Place},iot m ι i=some p->∃b,m[i]? = some b/\b∈m /\ ι b=some p:=λ{i p} hp=>by
  unfold iot at hp
  split at hp
  ·rename_i b hb;exact⟨b,hb,Y0i hb,hp⟩
  ·cases hp
 have hRs:R sn2 (iot m ι) Hs W:=by
  refine⟨hR0.dom,hR0.blk,λb o p hb ha hp=>Z0P ⟨hle,λ_ _ h=>h⟩ rfl (hR0.obj b o p hb ha hp),hR0.sep,λa v hv=>?_,hR0.shz⟩
  obtain⟨h1,h2,h3⟩:=hsn2 a v hv
  refine⟨h2,h3,λb o p hb ha hp e=>?_⟩
  obtain⟨c,_,hc,hp'⟩:=atm hp
  exact h1 ⟨c,p,hc,hp',e⟩
 have hla:LR sn2 (iot m ι) fargs vargs:=by
  refine Z9s (H:=ZqW m Hc) (W:=W) (λb o p hb ha hp=>?_) (Z38 hle) (λb o p hb ha hp off v hv=>?_) n _ _ _ hargs hl
  ·exact hR.obj b o p (ZfX hb ha).1 ha hp
  · obtain⟨h1,h2⟩:=ZfX hb ha
    refine hsn2' _ v ?_ (hR.blk b p hp) hv
    rintro⟨b',p',hb',hp',e⟩
    exact apart_ b o p h1 ha h2 hp b' p' hb' hp' e
 refine (hM sn2 (iot m ι) W vargs (hg.mono (Z38 hle)) hRs hla).mono ?_
 rintro e W' ⟨v,sn',ι',rfl,hv,hst⟩
 have hback:∀i,i<m.length->∀p,ι' i=some p -> ι (m.getD i 0)=some p:=λi hi p hp=>by
  obtain⟨b,hb⟩:∃b,m[i]? = some b:=⟨m[i],Y05 hi⟩
  obtain⟨p0,hp0⟩:=(hRs.dom i).1 (by omega)
  have h1:=hst.le.ι i p0 hp0
  rw[hp]at h1;cases h1
  obtain⟨c,hc,_,hp1⟩:=atm hp0
  rw[hb]at hc;cases hc
  rw[List.getD_eq_getElem?_getD,hb];exact hp1
 have hfwd:∀(i b:Nat)(p:Place),m[i]? = some b -> ι b=some p -> ι' i=some p:=λi b p hb hp=>hst.le.ι i p (by simp only[iot,hb];exact hp)
 have pos_:∀b,b∈m->∃i,Z5M m b 0=some i/\m[i]? = some b:=λb hb=>by
  cases hx:Z5M m b 0 with
  |none=>exact (Z6s hx hb).elim
  |some i=>exact⟨i,rfl,by simpa using (Z2L hx).2⟩
 have old:∀(b:Nat)(o:AObj)(p:Place),Hc[b]? = some o->o.alive=true->b ∉ m -> ι b=some p->W'.heap[p.blk]? = W.heap[p.blk]?:=λb o p ho hoa hb hp=>by
  refine hst.frame _ (hR.blk b p hp) λi o2 p2 hi ha hp2 e=>?_
  obtain⟨c,_,hc,hp3⟩:=atm hp2
  exact apart_ b o p ho hoa hb hp c p2 hc hp3 e
 have hup:∀(b:Nat)(o':AObj),(Zfj m Hs' 0 Hc)[b]? = some o'->∃o,Hc[b]? = some o/\o'.fam=o.fam/\o'.sh=o.sh/\((b ∉ m/\o'=o)\/∃ (i:Nat) (x:AObj),m[i]? = some b/\Hs'[i]? = some x/\o'.alive=x.alive/\o'.body=Z5I (λb=>m.getD b 0) x.body/\o.alive=true):=by
  intro b o' h
  rw[Zfi]at h
  simp only[Y02]at h
  cases hx:Hc[b]? with
  |none=>rw[hx]at h;cases h
  |some o =>
   rw[hx]at h
   simp only[Y0l,Option.some.injEq]at h
   refine⟨o,rfl,?_⟩
   by_cases hb:b∈m
   · obtain⟨i,h1,h2⟩:=pos_ b hb
     have hi:i<m.length:=(Y04.1 h2).1
     have hi':i<Hs'.length:=by omega
     rw[h1]at h
     simp only[Y05 hi']at h
     subst h
     obtain⟨_,y,_,_,_,y2,_,y4,_⟩:=inm b hb
     rw[hx]at y2;cases y2
     exact⟨rfl,rfl,.inr ⟨i,Hs'[i],h2,Y05 hi',rfl,rfl,y4⟩⟩
   · have hn : Z5M m b 0 = none := by
      cases hx:Z5M m b 0 with
      |none=>rfl
      |some i=>exact (hb (Y0i (Z2L hx).2)).elim
     rw[hn]at h
     subst h
     exact⟨rfl,rfl,.inl ⟨hb,rfl⟩⟩
 have hlen:(Zfj m Hs' 0 Hc).length=Hc.length:=by
  have:∀(H:Z00)(i:Nat),(Zfj m Hs' i H).length=H.length:=by
   intro H
   induction H with
   |nil=>intro i;rfl
   |cons o H ih=>intro i;simp[Zfj,ih]
  exact this _ _
 have hnr:∀c,c<W.heap.size->(∀(b:Nat)(o:AObj) p,Hc[b]? = some o->o.alive=true -> ι b=some p->p.blk≠c)->W'.heap[c]? = W.heap[c]?:=λc hc hno=>by
  refine hst.frame c hc λi o2 p2 hi ha hp2 e=>?_
  obtain⟨b,_,hb,hp3⟩:=atm hp2
  obtain⟨_,o,_,_,_,y2,_,y4,_⟩:=inm b hb
  exact hno b o p2 y2 y4 hp3 e
 have hR':R sn ι (Zfj m Hs' 0 Hc) W':=by
  refine⟨λb=>by rw[hlen];exact hR.dom b,λb p hp=>Nat.lt_of_lt_of_le (hR.blk b p hp) hst.size,λb o' p hb ha hp=>?_,λb b' o o' p p' hb hb' ha ha' hp hp' e=>?_,λa v hv=>?_,λb o' p hb hp e=>?_⟩
  · obtain⟨o,ho,_,_,h|⟨i,x,h1,h2,h3,h4,h5⟩⟩:=hup b o' hb
    · obtain⟨h1,rfl⟩:=h
      exact Z0P (Le.refl _ _) (old b _ p ho ha h1 hp) (hR.obj b _ p ho ha hp)
    · rw[h4]
      have hi:i<m.length:=(Y04.1 h1).1
      have h6:=hst.rel.obj i x p h2 (by rw[<- h3];exact ha) (hfwd i b p h1 hp)
      have h7:=(hg2 i _ x (Y05 (by omega)) h2).2.2.2
      exact Z89 x.body (Z2B x.body p (λy hy=>hback y (Z0M h7 y hy)) (Zpi x.body (ZcT hro h2) h6))
  · obtain⟨x,hx,e1,e2,hz⟩:=hup b o hb
    obtain⟨y,hy,e3,e4,hw⟩:=hup b' o' hb'
    have hxa:x.alive=true:=by
     rcases hz with ⟨_,rfl⟩|⟨_,_,_,_,_,_,h⟩
     ·exact ha
     ·exact h
    have hya:y.alive=true:=by
     rcases hw with ⟨_,rfl⟩|⟨_,_,_,_,_,_,h⟩
     ·exact ha'
     ·exact h
    have:=hR.sep b b' x y p p' hx hy hxa hya hp hp' e
    rw[e1,e2,e3,e4];exact this
  · obtain⟨h1,h2,h3⟩:=hR.snap a v hv
    refine⟨Nat.lt_of_lt_of_le h1 hst.size,?_,λb o' p hb ha hp=>?_⟩
    ·rw[<- h2];exact World.cell?_of_block (hnr _ h1 h3)
    · obtain⟨o,ho,_,_,h|⟨i,x,_,_,_,_,h5⟩⟩:=hup b o' hb
      ·obtain⟨_,rfl⟩:=h;exact h3 b _ p ho ha hp
      ·exact h3 b o p ho h5 hp
  · obtain⟨o,ho,_,e2,_⟩:=hup b o' hb
    exact hR.shz b o p ho hp (by rw[<- e2];exact e)
 refine⟨v,sn,ι,rfl,?_,hR',Le.refl _ _,λ_ _ h=>.inl h,hnr,hst.size,hst.os,hst.tape,hst.output,λ_ _ h=>.inl h,λb o hb=>?_⟩
 ·exact (Z5c r v).2 (Z1n r [] v (λy hy=>hback y (Z0M hrk y hy)) (Z5b r v hrr hv))
 · have hb':b<(Zfj m Hs' 0 Hc).length:=by rw[hlen];exact (Y04.1 hb).1
   have hx:=Y05 hb'
   obtain⟨x,hx1,e1,e2,h|⟨i,y,h1,h2,h3,h4,h5⟩⟩:=hup b _ hx
   · rw[hb]at hx1;cases hx1
     exact⟨_,hx,e1,e2,λha=>by rw[h.2]at ha;exact ha⟩
   · rw[hb]at hx1;cases hx1
     exact⟨_,hx,e1,e2,λ_=>h5⟩
end Go.Abs
end

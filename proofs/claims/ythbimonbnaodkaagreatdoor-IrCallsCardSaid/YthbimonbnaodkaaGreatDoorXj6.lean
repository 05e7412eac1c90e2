/-
  Texts of this proof, one behind the other (part 6).
-/
import Derived.Test.YthbimonbnaodkaaGreatDoorXj5
import Derived.Shelf.SortM.Plain
import Derived.Shelf.SortM.SortNone
import Derived.Shelf.SlicesG.CompactI
import Derived.Laws.BitsAllLaws
import Derived.Lib.TrailingZeros
set_option linter.unusedVariables false
set_option linter.unusedSimpArgs false
set_option maxRecDepth 100000
set_option maxHeartbeats 4000000
open Go.Proofs.Tryz renaming prog → Y00,underlying3 → Y0b,isAgg3 → Y0I,sizeOf3 → Y0J,zeroValue3 → Y0K,underlying31 → Y0L,func94 → Y0M,zeroValue31 → Y0Y,underlying69 → Y16,underlying37 → Y17,underlying24 → Y18
open Nat renaming le_refl → Y01,zero_le → Y07,mul_one → Y0o,not_lt_zero → Y0z,zero_add → Y0N,lt_of_lt_of_le → Y0S,lt_of_le_of_lt → Y0T,pow_lt_pow_right → Y0X,ble_eq_true_of_le → Y12
open Go.Abs.BodyGe renaming pre → Y02,z → Y05,cellsL → Y0i
open List renaming append_nil → Y03,length_cons → Y06,mem_cons → Y09,length_append → Y0a,length_nil → Y0c,mem_append → Y0e,take_length → Y0f,getElem?_append_right → Y0g,mem_range → Y0h,getElem?_append_left → Y0j,filter_cons → Y0l,getElem_cons_succ → Y0n,getElem?_eq_some_iff → Y0p,foldl_cons → Y0q,mem_singleton → Y0r,nil_append → Y0s,getElem?_range' → Y0t,map_append → Y0u,sum_append → Y0v,map_cons → Y0w,all_eq_true → Y0x,getElem?_eq_getElem → Y0y,getElem?_set → Y0A,any_eq_true → Y0B,range_succ → Y0C,map_nil → Y0D,take_succ_cons → Y0F,append_assoc → Y0G,map_congr_left → Y0H,mem_of_getElem? → Y0P,not_mem_nil → Y0Q,getElem_cons_zero → Y0R,take_succ_eq_append_getElem → Y0U,mem_range'_1 → Y0W,cons_ne_nil → Y10,nodup_cons → Y11,getElem_mem → Y13,length_reverse → Y14,flatten_cons → Y15,eq_nil_of_length_eq_zero → Y19
open Bool renaming and_eq_true → Y04,true_and → Y08,false_eq_true → Y0E,false_and → Y0O,or_eq_true → Y0V
open Go.Abs.Wk renaming slice → Y0d,noref → Y0m
open And renaming intro → Y0k
open Int renaming toNat_natCast → Y0Z
section
namespace Go.Live
open Go.Flat
def andN(a b:Nat):Nat:=a &&& (4294967295-b)
theorem bit_hi{a i:Nat}(ha:a<4294967296)(hi:32<=i):a.testBit i=false:=Nat.testBit_lt_two_pow (Y0S ha (show 4294967296<=2 ^ i from Nat.pow_le_pow_right (n:=2) (by decide) hi))
theorem andN_bit{a b:Nat}(ha:a<4294967296)(hb:b<4294967296)(i:Nat):(andN a b).testBit i=(a.testBit i && !b.testBit i):=by
 unfold andN
 rw[Nat.testBit_and,show 4294967295-b=2 ^ 32-(b+1) by omega,Nat.testBit_two_pow_sub_succ (by omega)]
 by_cases hi:i<32
 ·simp[hi]
 ·rw[bit_hi ha (by omega)];simp
theorem andN_lt{a b:Nat}(ha:a<4294967296):andN a b<4294967296:=Y0T Nat.and_le_left ha
theorem ZnO{a b:Nat}(ha:a<4294967296)(hb:b<4294967296):a ||| b<4294967296:=Nat.or_lt_two_pow (n:=32) ha hb
def joinN(live:Nat->Nat)(l:List Nat):Nat:=l.foldl (λm t=>m ||| live t) 0
theorem ZeR(live:Nat->Nat)(i:Nat):∀(l:List Nat)(m:Nat),(l.foldl (λm t=>m ||| live t) m).testBit i=(m.testBit i || l.any λt=>(live t).testBit i)
 |[],m=>by simp
 |t::l,m=>by rw[Y0q,ZeR live i l,Nat.testBit_or,List.any_cons,Bool.or_assoc]
theorem Zbp(live:Nat->Nat)(l:List Nat)(i:Nat):(joinN live l).testBit i=l.any λt=>(live t).testBit i:=by
 unfold joinN;rw[ZeR];simp
theorem Za8{live:Nat->Nat}:∀{l:List Nat}{m:Nat},(∀t∈l,live t<4294967296)->m<4294967296->l.foldl (λm t=>m ||| live t) m<4294967296
 |[],m,_,h=>h
 |t::l,m,h,hm=>by rw[Y0q];exact Za8 (λt ht=>h t (by simp[ht])) (ZnO hm (h t (by simp)))
theorem joinN_lt{live:Nat->Nat}{l:List Nat}(h:∀t,live t<4294967296):joinN live l<4294967296:=Za8 (λt _=>h t) (by decide)
theorem joinN_take{live:Nat->Nat}{l:List Nat}{j:Nat}(h:j<l.length):joinN live (l.take (j+1))=joinN live (l.take j) ||| live l[j]:=by
 unfold joinN
 rw[Y0U h,List.foldl_append]
 rfl
def stepF(us st:Nat->Nat)(nx:Nat->List Nat)(live:Nat->Nat)(v:Nat):Nat:=us v ||| andN (joinN live (nx v)) (st v)
inductive Lv (us st:Nat->Nat) (nx:Nat->List Nat) (r:Nat):Nat->Prop
 |use {v:Nat}:(us v).testBit r=true->Lv us st nx r v
 |next {v w:Nat}:w∈nx v->Lv us st nx r w->(st v).testBit r=false->Lv us st nx r v
structure In32 (us st:Nat->Nat):Prop where
 us:∀v,us v<4294967296
 st:∀v,st v<4294967296
variable {us st:Nat->Nat} {nx:Nat->List Nat}
theorem Z41(h:In32 us st){live:Nat->Nat}(hl:∀v,live v<4294967296)(v i:Nat):(stepF us st nx live v).testBit i=((us v).testBit i || ((nx v).any (λt=>(live t).testBit i) && !(st v).testBit i)):=by
 unfold stepF
 rw[Nat.testBit_or,andN_bit (joinN_lt hl) (h.st v),Zbp]
theorem Z6W(h:In32 us st){live:Nat->Nat}(hl:∀v,live v<4294967296)(v:Nat):stepF us st nx live v<4294967296:=ZnO (h.us v) (andN_lt (joinN_lt hl))
theorem ZgC{live:Nat->Nat}{v u x:Nat}(h:v ∉ nx u):stepF us st nx (upd live v x) u=stepF us st nx live u:=by
 unfold stepF joinN
 have key:∀(l:List Nat)(m:Nat),v ∉ l->l.foldl (λm t=>m ||| upd live v x t) m=l.foldl (λm t=>m ||| live t) m:=by
  intro l
  induction l with
  |nil=>intro m _;rfl
  |cons t l ih =>
   intro m hm
   simp only[Y09,not_or]at hm
   rw[Y0q,Y0q,ih _ hm.2,Z09 (λe=>hm.1 e.symm)]
 rw[key _ _ h]
structure Inv (us st:Nat->Nat) (nx:Nat->List Nat) (n:Nat) (live:Nat->Nat) (w:List Nat):Prop where
 b32:∀v,live v<4294967296
 done:∀v,v<n->v ∉ w->live v=stepF us st nx live v
 le:∀v,v<n->∀i,(live v).testBit i=true->(stepF us st nx live v).testBit i=true
 snd:∀v i,(live v).testBit i=true->Lv us st nx i v
 wl:∀v∈w,v<n
theorem Inv.start(n:Nat):Inv us st nx n (λ_=>0) (List.range n).reverse:=⟨λ_=>by decide,λv hv hn=>(hn (by simp[hv])).elim,λv _ i h=>by simp at h,λv i h=>by simp at h,λv hv=>by simpa using hv⟩
theorem Inv.same{n v:Nat}{live:Nat->Nat}{w:List Nat}(h:Inv us st nx n live (v::w))(e:stepF us st nx live v=live v):Inv us st nx n live w :=
 ⟨h.b32, fun u hu hn => by
   by_cases hv:u=v
   ·subst hv;exact e.symm
   ·exact h.done u hu (by simp[hv,hn]),h.le,h.snd,λu hu=>h.wl u (by simp[hu])⟩
theorem Inv.new{n v:Nat}{live:Nat->Nat}{w a:List Nat}(h:Inv us st nx n live (v::w))(h3:In32 us st)(ha:∀u,u<n->v∈nx u->u∈a)(ha2:∀u∈a,u<n):Inv us st nx n (upd live v (stepF us st nx live v)) (a++w):=by
 have hv:v<n:=h.wl v (by simp)
 have hlt:∀u,upd live v (stepF us st nx live v) u<4294967296:=λu=>by
  by_cases e:u=v
  ·subst e;rw[Z0b];exact Z6W h3 h.b32 _
  ·rw[Z09 e];exact h.b32 u
 have hle:∀u i,(live u).testBit i=true->(upd live v (stepF us st nx live v) u).testBit i=true:=λu i hi=>by
  by_cases e:u=v
  ·subst e;rw[Z0b];exact h.le _ hv i hi
  ·rw[Z09 e];exact hi
 have hmono:∀u i,(stepF us st nx live u).testBit i=true->(stepF us st nx (upd live v (stepF us st nx live v)) u).testBit i=true:=λu i hi=>by
  rw[Z41 h3 h.b32]at hi
  rw[Z41 h3 hlt]
  simp only[Y0V,Y04,Y0B]at hi⊢
  rcases hi with hi|⟨⟨t,ht,hi⟩,h2⟩
  ·exact .inl hi
  ·exact .inr ⟨⟨t,ht,hle t i hi⟩,h2⟩
 refine⟨hlt,λu hu hn=>?_,λu hu i hi=>?_,λu i hi=>?_,λu hu=>?_⟩
 · simp only[Y0e,not_or]at hn
   have hnx:v ∉ nx u:=λhm=>hn.1 (ha u hu hm)
   rw[ZgC hnx]
   by_cases e:u=v
   ·subst e;rw[Z0b]
   ·rw[Z09 e];exact h.done u hu (by simp[e,hn.2])
 · by_cases e:u=v
   · subst e
     rw[Z0b]at hi
     exact hmono _ i hi
   · rw[Z09 e]at hi
     exact hmono u i (h.le u hu i hi)
 · by_cases e:u=v
   · subst e
     rw[Z0b,Z41 h3 h.b32]at hi
     simp only[Y0V,Y04,Y0B,Bool.not_eq_true']at hi
     rcases hi with hi|⟨⟨t,ht,hi⟩,h2⟩
     ·exact .use hi
     ·exact .next ht (h.snd t i hi) h2
   · rw[Z09 e]at hi
     exact h.snd u i hi
 · rcases Y0e.1 hu with hu|hu
   ·exact ha2 u hu
   ·exact h.wl u (by simp[hu])
theorem Inv.all{n:Nat}{live:Nat->Nat}(h:Inv us st nx n live [])(h3:In32 us st)(hnx:∀v,v<n->∀w∈nx v,w<n){v:Nat}(hv:v<n)(i:Nat):(live v).testBit i=true ↔ Lv us st nx i v:=by
 refine⟨h.snd v i,λhl=>?_⟩
 induction hl with
 |use hu=>rw[h.done _ hv (by simp),Z41 h3 h.b32];simp[hu]
 |next hw hl hs ih =>
  rw[h.done _ hv (by simp),Z41 h3 h.b32]
  have:=ih (hnx _ hv _ hw)
  simp only[Y0V,Y04,Y0B]
  exact .inr ⟨⟨_,hw,this⟩,by simp[hs]⟩
def bitsOf(m:Nat):List Nat:=(List.range 32).filter λi=>m.testBit i
theorem ZbE{p q:Nat->Bool}(h:∀i,p i=true->q i=true):∀l:List Nat,(l.filter p).length<=(l.filter q).length
 |[]=>Y01 _
 |x::l=>by
  have:=ZbE h l
  rw[Y0l,Y0l]
  cases hp:p x with
  |true=>rw[h x hp];simp;exact this
  |false =>
   cases q x with
   |true=>simp;omega
   |false=>simpa using this
theorem ZbD{p q:Nat->Bool}(h:∀i,p i=true->q i=true):∀{l:List Nat}{x:Nat},x∈l->p x=false->q x=true->(l.filter p).length<(l.filter q).length
 |y::l,x,hx,h1,h2=>by
  rw[Y0l,Y0l]
  rcases Y09.1 hx with rfl|hx
  · rw[h1,h2]
    have:=ZbE h l
    simp;omega
  · have:=ZbD h hx h1 h2
    cases hp:p y with
    |true=>rw[h y hp];simpa using this
    |false =>
     cases q y with
     |true=>simp;omega
     |false=>simpa using this
theorem Zdo{a b:Nat}(ha:a<4294967296)(hb:b<4294967296)(h:∀i,a.testBit i=true->b.testBit i=true)(hne:a≠b):(bitsOf a).length<(bitsOf b).length:=by
 have:∃i,i<32/\a.testBit i=false/\b.testBit i=true:=by
  apply Classical.byContradiction
  intro hn
  apply hne
  apply Nat.eq_of_testBit_eq
  intro i
  by_cases hi:i<32
  · cases ea:a.testBit i with
    |true=>rw[h i ea]
    |false =>
     cases eb:b.testBit i with
     |false=>rfl
     |true=>exact (hn ⟨i,hi,ea,eb⟩).elim
  ·rw[bit_hi ha (by omega),bit_hi hb (by omega)]
 obtain⟨i,hi,h1,h2⟩:=this
 exact ZbD h (Y0h.2 hi) h1 h2
theorem bits_le(a:Nat):(bitsOf a).length<=32:=by
 have:=List.length_filter_le (λi=>a.testBit i) (List.range 32)
 simpa[bitsOf]using this
theorem ZkY{f g:Nat->Nat}:∀{n:Nat},(∀u,u<n->f u<=g u)->((List.range n).map f).sum<=((List.range n).map g).sum
 |0,_=>Y01 _
 |n+1,h=>by
  have h1:=ZkY (f:=f) (g:=g) (n:=n) λu hu=>h u (by omega)
  have h2:=h n (by omega)
  rw[Y0C,Y0u,Y0u,Y0v,Y0v]
  simp;omega
theorem ZaU{f g:Nat->Nat}:∀{n v:Nat},(∀u,u<n->f u<=g u)->v<n->f v<g v->((List.range n).map f).sum<((List.range n).map g).sum
 |0,v,_,hv,_=>by omega
 |n+1,v,h,hv,hlt=>by
  rw[Y0C,Y0u,Y0u,Y0v,Y0v]
  have h2:=h n (by omega)
  by_cases e:v=n
  · subst e
    have h1:=ZkY (f:=f) (g:=g) (n:=v) λu hu=>h u (by omega)
    simp;omega
  · have h1:=ZaU (f:=f) (g:=g) (n:=n) (v:=v) (λu hu=>h u (by omega)) (by omega) hlt
    simp;omega
def leftL(n:Nat)(live:Nat->Nat)(w:List Nat):Nat:=(n+1)*((List.range n).map λv=>32-(bitsOf (live v)).length).sum+w.length
theorem leftL_le(n:Nat)(live:Nat->Nat)(w:List Nat):leftL n live w<=(n+1)*(32*n)+w.length:=by
 unfold leftL
 have:∀n,((List.range n).map λv=>32-(bitsOf (live v)).length).sum<=32*n:=by
  intro n
  induction n with
  |zero=>simp
  |succ n ih=>rw[Y0C,Y0u,Y0v];simp only[Y0w,Y0D,List.sum_cons,List.sum_nil];omega
 exact Nat.add_le_add_right (Nat.mul_le_mul_left _ (this n)) _
theorem leftL_ge(n:Nat)(live:Nat->Nat)(w:List Nat):w.length<=leftL n live w:=by unfold leftL;omega
theorem leftL_pop(n v:Nat)(live:Nat->Nat)(w:List Nat):leftL n live w<leftL n live (v::w):=by unfold leftL;simp
theorem leftL_new{n v:Nat}{live:Nat->Nat}{w a:List Nat}(h:Inv us st nx n live (v::w))(h3:In32 us st)(hne:stepF us st nx live v≠live v)(ha:a.length<=n):leftL n (upd live v (stepF us st nx live v)) (a++w)<leftL n live (v::w):=by
 have hv:v<n:=h.wl v (by simp)
 have hb:=Zdo (h.b32 v) (Z6W h3 h.b32 v) (λi hi=>h.le v hv i hi) (λe=>hne e.symm)
 have hb2:=bits_le (stepF us st nx live v)
 have:=ZaU (f:=λu=>32-(bitsOf (upd live v (stepF us st nx live v) u)).length) (g:=λu=>32-(bitsOf (live u)).length) (n:=n) (v:=v) (λu hu=>by
  by_cases e:u=v
  ·subst e;rw[Z0b];omega
  ·rw[Z09 e];exact Y01 _) hv (by simp only[Z0b];omega)
 unfold leftL
 generalize ((List.range n).map λv_1=>32-(bitsOf (upd live v (stepF us st nx live v) v_1)).length).sum=x at *
 generalize ((List.range n).map λv=>32-(bitsOf (live v)).length).sum=y at *
 have h4:(n+1)*(x+1)<=(n+1)*y:=Nat.mul_le_mul_left _ this
 rw[Nat.mul_succ]at h4
 simp only[Y0a,Y06]
 omega
theorem Z6C{p q:Nat->Bool}{k:Nat}(h1:∀i,i<k->p i=false)(h2:p k=true)(h3:∀i,i<=k->q i=false)(h4:∀i,k<i->q i=p i):∀(n a:Nat),a<=k->k<a+n->(List.range' a n).filter p=k::(List.range' a n).filter q
 |0,a,h,h'=>by omega
 |n+1,a,h,h'=>by
  rw[List.range'_succ,Y0l,Y0l]
  by_cases e:a=k
  · subst e
    rw[h2,h3 a (Y01 _)]
    simp only[if_true,Y0E,if_false,List.cons.injEq,true_and]
    refine List.filter_congr λx hx=>?_
    rw[Y0W]at hx
    exact (h4 x (by omega)).symm
  · rw[h1 a (by omega),h3 a (by omega)]
    simp only[Y0E,if_false]
    exact Z6C h1 h2 h3 h4 n (a+1) (by omega) (by omega)
theorem bits_first{k q:Nat}(hk:k<32):bitsOf (2 ^ k*(2*q+1))=k::bitsOf (2 ^ k*(2*q+1) &&& (2 ^ k*(2*q+1)-1)):=by
 have hp:0<2 ^ k:=Nat.two_pow_pos k
 have e1:∀i,(2 ^ k*(2*q+1)).testBit i=(decide (k<=i)&&(2*q+1).testBit (i-k)):=λi=>by rw[Nat.mul_comm,Nat.testBit_mul_two_pow]
 have e2:2 ^ k*(2*q+1)-1=2 ^ k*(2*q)+(2 ^ k-1):=by rw[Nat.mul_add];omega
 have e3:∀i,(2 ^ k*(2*q+1)-1).testBit i=if i<k then (2 ^ k-1).testBit i else (2*q).testBit (i-k):=λi=>by rw[e2,Nat.testBit_two_pow_mul_add _ (by omega)]
 unfold bitsOf
 rw[List.range_eq_range']
 refine Z6C (k:=k) (λi hi=>?_) ?_ (λi hi=>?_) (λi hi=>?_) 32 0 (Y07 _) (by omega)
 ·rw[e1];simp;omega
 ·rw[e1];simp
 · rw[Nat.testBit_and,e1,e3]
   by_cases h:i<k
   · have:¬k<=i:=by omega
     simp[this]
   · have:i=k:=by omega
     subst this
     simp
 · rw[Nat.testBit_and,e1,e3,if_neg (by omega)]
   obtain⟨d,rfl⟩:∃d,i=k+(d+1):=⟨i-k-1,by omega⟩
   have:k+(d+1)-k=d+1:=by omega
   rw[this,Nat.testBit_succ,Nat.testBit_succ]
   have d1:(2*q+1) / 2=q:=by omega
   have d2:(2*q) / 2=q:=by omega
   rw[d1,d2]
   have:k<=k+(d+1):=by omega
   simp[this]
def maskL(l:List Nat):Nat:=l.foldl (λm r=>m ||| 2 ^ r) 0
theorem ZjZ(l:List Nat):maskL l=joinN (λr=>2 ^ r) l:=rfl
theorem maskL_bit(l:List Nat)(i:Nat):(maskL l).testBit i=true ↔ i∈l:=by
 rw[ZjZ,Zbp,Y0B]
 constructor
 · rintro⟨t,ht,h⟩
   rw[Nat.testBit_two_pow]at h
   have:t=i:=by simpa using h
   subst this;exact ht
 ·intro h;exact⟨i,h,by rw[Nat.testBit_two_pow];simp⟩
theorem maskL_lt{l:List Nat}(h:∀r∈l,r<32):maskL l<4294967296:=Za8 (λt ht=>Y0X (by decide) (h t ht)) (by decide)
theorem maskL_take{l:List Nat}{j:Nat}(h:j<l.length):maskL (l.take (j+1))=maskL (l.take j) ||| 2 ^ l[j]:=joinN_take (live:=λr=>2 ^ r) h
noncomputable def lvB(us st:Nat->Nat)(nx:Nat->List Nat)(v:Nat)(r:Nat):Bool:=@decide (Lv us st nx r v) (Classical.propDecidable _)
noncomputable def liveL(us st:Nat->Nat)(nx:Nat->List Nat)(v:Nat):List Nat:=(List.range 32).filter (lvB us st nx v)
theorem lvB_iff{v r:Nat}:lvB us st nx v r=true ↔ Lv us st nx r v:=by unfold lvB;simp
theorem Inv.bits{n:Nat}{live:Nat->Nat}(h:Inv us st nx n live [])(h3:In32 us st)(hnx:∀v,v<n->∀w∈nx v,w<n){v:Nat}(hv:v<n):bitsOf (live v)=liveL us st nx v:=by
 unfold bitsOf liveL
 congr 1
 funext i
 rw[Bool.eq_iff_iff,lvB_iff]
 exact h.all h3 hnx hv i
end Go.Live
end
section
namespace Go.Proofs.YthbimonbnaodkaaGreatDoor.lex
open Go.Abs Go.RowKit Go.Flat
def Zer(op:Int)(name:List UInt8):List Int:=cond (decide (0<=Z1c name)&&(op==2)) [Z1c name] []
mutual
def Zfq:Ex->List Int
 | .mk op num name kids=>Zer op name++ursL kids
def ursL:List Ex->List Int
 |[]=>[]
 |e::l=>Zfq e++ursL l
end
theorem ZaM:∀(l:List Ex)(i:Nat)(h:i<l.length),ursL (l.take (i+1))=ursL (l.take i)++Zfq l[i]
 |e::l,0,h=>by simp[ursL]
 |e::l,i+1,h=>by
  have:=ZaM l i (by simpa using h)
  simp only[Y0F,ursL,Y0n,this,Y0G]
theorem ZjI(op:Int)(name:List UInt8):(Zer op name).length<=1:=by
 unfold Zer;cases (decide (0<=Z1c name)&&(op==2))<;>simp
mutual
theorem Zjf:∀e:Ex,(Zfq e).length<=Z0a e
 | .mk op num name kids=>by
  have h1:=ZjI op name
  have h2:=ursL_len kids
  simp only[Zfq,Z0a,Y0a];omega
theorem ursL_len:∀l:List Ex,(ursL l).length<=sizeL l
 |[]=>Y01 _
 |e::l=>by
  have h1:=Zjf e
  have h2:=ursL_len l
  simp only[ursL,sizeL,Y0a];omega
end
theorem Zm6{op:Int}{name:List UInt8}{x:Int}(h:x∈Zer op name):0<=x:=by
 unfold Zer at h
 cases hc:(decide (0<=Z1c name)&&(op==2)) with
 |false=>rw[hc]at h;cases h
 |true =>
  rw[hc]at h
  simp only[Y04,decide_eq_true_eq]at hc
  simp only[cond_true,Y0r]at h
  omega
mutual
theorem ZlG:∀(e:Ex)(x:Int),x∈Zfq e->0<=x
 | .mk op num name kids,x,h=>by
  simp only[Zfq,Y0e]at h
  rcases h with h|h
  ·exact Zm6 h
  ·exact ursL_nn kids x h
theorem ursL_nn:∀(l:List Ex)(x:Int),x∈ursL l->0<=x
 |[],x,h=>by simp[ursL]at h
 |e::l,x,h=>by
  simp only[ursL,Y0e]at h
  rcases h with h|h
  ·exact ZlG e x h
  ·exact ursL_nn l x h
end
mutual
theorem ZlH{regs:Int}:∀(e:Ex),Z0m regs e=true->∀x∈Zfq e,x<regs
 | .mk op num name kids,hr,x,h=>by
  simp only[Zfq,Y0e]at h
  rcases h with h|h
  · unfold Zer at h
    cases hc:(decide (0<=Z1c name)&&(op==2)) with
    |false=>rw[hc]at h;cases h
    |true =>
     rw[hc]at h
     simp only[Y04,beq_iff_eq]at hc
     obtain⟨_,rfl⟩:=hc
     rw[ZcL]at hr
     simp only[Y04,decide_eq_true_eq]at hr
     simp only[cond_true,Y0r]at h
     omega
  · simp only[Z0m,Y04]at hr
    exact ursL_lt kids hr.2 x h
theorem ursL_lt{regs:Int}:∀(l:List Ex),rightPL regs l=true->∀x∈ursL l,x<regs
 |[],hr,x,h=>by simp[ursL]at h
 |e::l,hr,x,h=>by
  simp only[rightPL,Y04]at hr
  simp only[ursL,Y0e]at h
  rcases h with h|h
  ·exact ZlH e hr.1 x h
  ·exact ursL_lt l hr.2 x h
end
def Z1w(i:Ins):List Nat:=(Lib.compact ((ursL i.ex).mergeSort leI)).map Int.toNat
theorem Z9x(i:Ins):Lib.compact ((ursL i.ex).mergeSort leI)=(Z1w i).map λn:Nat=>(n:Int):=by
 unfold Z1w
 rw[List.map_map]
 refine (List.map_id _).symm.trans (Y0H λx hx=>?_)
 rw[Z4e,List.mem_mergeSort]at hx
 have:=ursL_nn _ _ hx
 simp only[id_eq,Function.comp]
 omega
theorem ZaJ(i:Ins)(r:Nat):r∈Z1w i ↔ (r:Int)∈ursL i.ex:=by
 have h:(r:Int)∈(Z1w i).map (λn:Nat=>(n:Int)) ↔ r∈Z1w i:=by
  rw[List.mem_map]
  constructor
  · rintro⟨n,hn,e⟩
    rwa [show n=r by omega]at hn
  ·intro h;exact⟨r,h,rfl⟩
 rw[<- h,<- Z9x,Z4e,List.mem_mergeSort]
theorem Z58(i:Ins):(Z1w i).length<=(ursL i.ex).length:=by
 unfold Z1w
 rw[List.length_map]
 exact Nat.le_trans (Z86 _) (by simp)
def ZhT(l:List Ins)(v:Nat):List Nat:=Z1w (Z6O l v)
theorem Z82{regs:Int}{n:Nat}{i:Ins}(h:Z0y regs n i=true):rightPL regs i.ex=true:=by
 unfold Z0y at h
 simp only[Y04]at h
 exact h.2.2.2.2.2.2
theorem Fine.uses{c:Cd}(h:Fine c){v:Nat}(hv:v<c.ins.length):∀r∈ZhT c.ins v,r<16:=λr hr=>by
 unfold ZhT at hr
 rw[Z15 hv,ZaJ]at hr
 have:=ursL_lt _ (Z82 (h.right _ (Z03 hv))) _ hr
 have:=h.reg1
 omega
def Z2g(i:Ins):Int:=if i.kind=1\/i.kind=2\/i.kind=4\/i.kind=5\/i.kind=6 then i.reg else -1
theorem Fine.sets{c:Cd}(h:Fine c){v:Nat}(hv:v<c.ins.length) : -1<=Z2g (Z6O c.ins v)/\Z2g (Z6O c.ins v)<16:=by
 rw[Z15 hv]
 have h1:=h.right _ (Z03 hv)
 have h2:=h.reg1
 unfold Z0y at h1
 simp only[Y04]at h1
 have h3:=h1.2.1
 unfold Z2g
 split
 · rename_i hk
   have:Z0R c.ins[v].kind=true:=by
    unfold Z0R
    rcases hk with hk|hk|hk|hk|hk<;>rw[hk]<;>decide
   rw[this]at h3
   simp only[inW,if_true,Y04,decide_eq_true_eq]at h3
   omega
 ·omega
def usU(l:List Ins)(v:Nat):Nat:=Go.Live.maskL (ZhT l v)
def Zlp(n:Int):Nat:=if 0<=n then 2 ^ n.toNat else 0
def stU(l:List Ins)(v:Nat):Nat:=Zlp (Z2g (Z6O l v))
theorem Z7O{l:List Ins}{v:Nat}(h:l.length<=v):Z6O l v=⟨13,0,0,0,0,[]⟩:=by unfold Z6O;rw[List.getElem?_eq_none h]
theorem Fine.in32{c:Cd}(h:Fine c):Go.Live.In32 (usU c.ins) (stU c.ins):=by
 refine⟨λv=>?_,λv=>?_⟩
 · by_cases hv:v<c.ins.length
   ·exact Go.Live.maskL_lt λr hr=>by have:=h.uses hv r hr;omega
   · have h1 : Z1w (Z6O c.ins v) = [] := by
      rw[Z7O (by omega)]
      exact Y19 (Nat.le_zero.1 (Z58 _))
     unfold usU ZhT
     rw[h1];decide
 · by_cases hv:v<c.ins.length
   · have:=h.sets hv
     unfold stU Zlp
     split
     ·exact Y0S (Y0X (by decide) (show (Z2g (Z6O c.ins v)).toNat<16 by omega)) (by decide)
     ·decide
   · unfold stU
     rw[Z7O (by omega)];decide
def fil{α : Type}(z : α)(f:Nat -> α)(k:Nat):Nat -> α:=λv=>if v<k then f v else z
theorem Z4v{α : Type}(z : α)(f:Nat -> α)(k:Nat):upd (fil z f k) k (f k)=fil z f (k+1):=by
 funext v
 unfold fil
 by_cases h:v=k
 ·subst h;rw[Z0b,if_pos (by omega)]
 · rw[Z09 h]
   by_cases h2:v<k
   ·rw[if_pos h2,if_pos (by omega)]
   ·rw[if_neg h2,if_neg (by omega)]
theorem Zkt{α : Type}(z : α)(f:Nat -> α):fil z f 0=λ_=>z:=by funext v;simp[fil]
theorem Z7m{α : Type}(f:Nat -> α)(k:Nat)(x y : α):upd (upd f k x) k y=upd f k y:=by
 funext v
 by_cases h:v=k
 ·subst h;rw[Z0b,Z0b]
 ·rw[Z09 h,Z09 h,Z09 h]
theorem ZnB{α : Type}(f:Nat -> α)(k:Nat):upd f k (f k)=f:=by
 funext v
 by_cases h:v=k
 ·subst h;rw[Z0b]
 ·rw[Z09 h]
def aF(nx:Nat->List Nat)(k v:Nat):List Nat:=(List.range k).filter λu=>decide (v∈nx u)
theorem Znd(nx:Nat->List Nat)(k v:Nat):aF nx (k+1) v=aF nx k v++(if v∈nx k then [k] else []):=by
 unfold aF
 rw[Y0C,List.filter_append]
 congr 1
 by_cases h:v∈nx k
 ·rw[if_pos h,Y0l,if_pos (by simpa using h)];rfl
 ·rw[if_neg h,Y0l,if_neg (by simpa using h)];rfl
theorem Zlq(nx:Nat->List Nat)(k v:Nat):(aF nx k v).length<=k:=by
 have:=List.length_filter_le (λu=>decide (v∈nx u)) (List.range k)
 simpa[aF]using this
theorem Zow{nx:Nat->List Nat}{k v u:Nat}:u∈aF nx k v ↔ u<k/\v∈nx u:=by simp[aF]
def aG(nx:Nat->List Nat)(k j v:Nat):List Nat:=aF nx k v++(if v∈(nx k).take j then [k] else [])
theorem Znb(nx:Nat->List Nat)(k:Nat):aG nx k 0=aF nx k:=by funext v;simp[aG]
theorem Zov(nx:Nat->List Nat)(k:Nat):aG nx k (nx k).length=aF nx (k+1):=by funext v;rw[Znd];simp[aG]
theorem Zou(nx:Nat->List Nat)(k j v:Nat):(aG nx k j v).length<=k+1:=by
 have:=Zlq nx k v
 unfold aG
 rw[Y0a]
 split<;>simp<;>omega
theorem ZjR{l:List Nat}(h:l.Nodup){i j:Nat}(hi:i<l.length)(hj:j<l.length)(hij:i<j):l[i]≠l[j]:=List.pairwise_iff_getElem.1 h i j hi hj hij
theorem Znc{nx:Nat->List Nat}{k j:Nat}(hj:j<(nx k).length)(hnd:(nx k).Nodup):aG nx k (j+1)=upd (aG nx k j) (nx k)[j] (aG nx k j (nx k)[j]++[k]):=by
 funext v
 have ht:∀x,x∈(nx k).take (j+1) ↔ x∈(nx k).take j\/x=(nx k)[j]:=λx=>by
  rw[Y0U hj,Y0e,Y0r]
 have hnot:¬(nx k)[j]∈(nx k).take j:=by
  intro h
  rw[List.mem_take_iff_getElem]at h
  obtain⟨m,hm,e⟩:=h
  exact ZjR hnd (by omega) hj (by omega) e
 by_cases h:v=(nx k)[j]
 · subst h
   rw[Z0b]
   unfold aG
   rw[if_neg hnot,if_pos ((ht _).2 (.inr rfl)),Y03]
 · rw[Z09 h]
   unfold aG
   congr 1
   by_cases h2:v∈(nx k).take j
   ·rw[if_pos h2,if_pos ((ht _).2 (.inl h2))]
   ·rw[if_neg h2,if_neg (λh3=>((ht _).1 h3).elim h2 h)]
theorem ZfM(i:Ins)(a:Nat):(nx8 i a).Pairwise (· < ·):=by
 unfold nx8
 split
 ·simp
 · split
   ·simp
   · split
     · split
       ·simp;omega
       · split
         ·simp;omega
         ·simp
     ·simp
theorem Zhn(l:List Ins)(v:Nat):(Z0v l v).Nodup:=(ZfM _ _).imp λh=>by omega
end Go.Proofs.YthbimonbnaodkaaGreatDoor.lex
end
section
namespace Go.Proofs.YthbimonbnaodkaaGreatDoor.shelf
open Go.Shelf Go.RowKit Go.Sort
def ZgG:Go.Shelf.Ren:=⟨fun|5=>97|8=>143|7=>142|19=>184|20=>185|10=>175|11=>176|12=>177|13=>178|14=>179|15=>180|16=>181|17=>182|18=>183|30=>204|31=>205|32=>206|33=>207|34=>208|35=>209|40=>222|n=>n,fun|23=>31|25=>3|3=>3|32=>146|22=>31|0=>0|44=>145|46=>149|4=>4|36=>221|35=>220|41=>112|5=>5|9=>9|53=>247|57=>135|63=>257|64=>258|n=>n,fun|n=>n⟩
theorem ZnH:Go.Proofs.SlLaysM.n5 Y00 ZgG:={
 mixed:=by kernel_rfl
 f5:=⟨Tryz.f97.name,by decide,Tryz.func97.trans (congrArg some (by kernel_rfl))⟩
 f7:=⟨Tryz.f142.name,by decide,Tryz.func142.trans (congrArg some (by kernel_rfl))⟩
 f8:=Tryz.func143.trans (congrArg some (by kernel_rfl))
 f10:=⟨Tryz.f175.name,by decide,Tryz.func175.trans (congrArg some (by kernel_rfl))⟩
 f11:=⟨Tryz.f176.name,by decide,Tryz.func176.trans (congrArg some (by kernel_rfl))⟩
 f12:=⟨Tryz.f177.name,by decide,Tryz.func177.trans (congrArg some (by kernel_rfl))⟩
 f13:=⟨Tryz.f178.name,by decide,Tryz.func178.trans (congrArg some (by kernel_rfl))⟩
 f14:=⟨Tryz.f179.name,by decide,Tryz.func179.trans (congrArg some (by kernel_rfl))⟩
 f15:=⟨Tryz.f180.name,by decide,Tryz.func180.trans (congrArg some (by kernel_rfl))⟩
 f16:=⟨Tryz.f181.name,by decide,Tryz.func181.trans (congrArg some (by kernel_rfl))⟩
 f17:=⟨Tryz.f182.name,by decide,Tryz.func182.trans (congrArg some (by kernel_rfl))⟩
 f18:=⟨Tryz.f183.name,by decide,Tryz.func183.trans (congrArg some (by kernel_rfl))⟩
 f19:=Tryz.func184.trans (congrArg some (by kernel_rfl))
 f20:=Tryz.func185.trans (congrArg some (by kernel_rfl))
 f30:=⟨Tryz.f204.name,by decide,Tryz.func204.trans (congrArg some (by kernel_rfl))⟩
 f31:=Tryz.func205.trans (congrArg some (by kernel_rfl))
 f32:=Tryz.func206.trans (congrArg some (by kernel_rfl))
 f33:=⟨Tryz.f207.name,by decide,Tryz.func207.trans (congrArg some (by kernel_rfl))⟩
 f34:=⟨Tryz.f208.name,by decide,Tryz.func208.trans (congrArg some (by kernel_rfl))⟩
 f35:=⟨Tryz.f209.name,by decide,Tryz.func209.trans (congrArg some (by kernel_rfl))⟩
 f40:=⟨Tryz.f222.name,by decide,Tryz.func222.trans (congrArg some (by kernel_rfl))⟩
 t0:=Tryz.underlying0
 a0:=Tryz.isAgg0
 z0:=Tryz.sizeOf0
 v0:=Tryz.zeroValue0
 t3:=Y0b
 a3:=Y0I
 z3:=Y0J
 v3:=Y0K
 t4:=Tryz.underlying4
 a4:=Tryz.isAgg4
 z4:=Tryz.sizeOf4
 v4:=Tryz.zeroValue4
 t5:=Tryz.underlying5
 a5:=Tryz.isAgg5
 z5:=Tryz.sizeOf5
 v5:=Tryz.zeroValue5
 t9:=Tryz.underlying9
 a9:=Tryz.isAgg9
 z9:=Tryz.sizeOf9
 v9:=Tryz.zeroValue9
 t22:=Y0L
 a22:=Tryz.isAgg31
 z22:=Tryz.sizeOf31
 v22:=Y0Y
 t23:=Y0L
 a23:=Tryz.isAgg31
 z23:=Tryz.sizeOf31
 v23:=Y0Y
 t25:=Y0b
 a25:=Y0I
 z25:=Y0J
 v25:=Y0K
 t32:=Tryz.underlying146
 a32:=Tryz.isAgg146
 z32:=Tryz.sizeOf146
 v32:=Tryz.zeroValue146
 t35:=Tryz.underlying220
 a35:=Tryz.isAgg220
 z35:=Tryz.sizeOf220
 v35:=Tryz.zeroValue220
 t36:=Tryz.underlying221
 a36:=Tryz.isAgg221
 z36:=Tryz.sizeOf221
 v36:=Tryz.zeroValue221
 t41:=Tryz.underlying112
 a41:=Tryz.isAgg112
 z41:=Tryz.sizeOf112
 v41:=Tryz.zeroValue112
 t44:=Tryz.underlying145
 a44:=Tryz.isAgg145
 z44:=Tryz.sizeOf145
 v44:=Tryz.zeroValue145
 t46:=Tryz.underlying149
 a46:=Tryz.isAgg149
 z46:=Tryz.sizeOf149
 v46:=Tryz.zeroValue149
 t53:=Tryz.underlying247
 a53:=Tryz.isAgg247
 z53:=Tryz.sizeOf247
 v53:=Tryz.zeroValue247
 t57:=Tryz.underlying135
 a57:=Tryz.isAgg135
 z57:=Tryz.sizeOf135
 v57:=Tryz.zeroValue135
 t63:=Tryz.underlying257
 a63:=Tryz.isAgg257
 z63:=Tryz.sizeOf257
 v63:=Tryz.zeroValue257
 t64:=Tryz.underlying258
 a64:=Tryz.isAgg258
 z64:=Tryz.sizeOf258
 v64:=Tryz.zeroValue258 }
def Zio:Go.Shelf.Ren:=⟨fun|43=>98|n=>n,fun|22=>31|23=>3|3=>3|4=>4|0=>0|n=>n,fun|n=>n⟩
theorem Zog:Go.Proofs.SlLaysN.n43 Y00 Zio:={
 mixed:=by kernel_rfl
 f43:=⟨Tryz.f98.name,by decide,Tryz.func98.trans (congrArg some (by kernel_rfl))⟩
 t0:=Tryz.underlying0
 a0:=Tryz.isAgg0
 z0:=Tryz.sizeOf0
 v0:=Tryz.zeroValue0
 t3:=Y0b
 a3:=Y0I
 z3:=Y0J
 v3:=Y0K
 t4:=Tryz.underlying4
 a4:=Tryz.isAgg4
 z4:=Tryz.sizeOf4
 v4:=Tryz.zeroValue4
 t22:=Y0L
 a22:=Tryz.isAgg31
 z22:=Tryz.sizeOf31
 v22:=Y0Y
 t23:=Y0b
 a23:=Y0I
 z23:=Y0J
 v23:=Y0K
 i23:=by kernel_rfl }
theorem sortI:Go.Proofs.YthbimonbnaodkaaGreatDoor.lex.SortsI Y00 97:=λblk off cap zs w h1 h2 h3=>AnyM.slices_Sort_int ZnH blk off cap zs w h1 h2 h3
theorem sortN:Go.Proofs.YthbimonbnaodkaaGreatDoor.lex.SortsNone Y00 97:=λp cap w=>AnyM.slices_Sort_int_none ZnH p cap w
theorem compactI:Go.Proofs.YthbimonbnaodkaaGreatDoor.lex.CompactsI Y00 98:=λblk off cap zs w h1 h2 h3=>AnyG.slices_Compact_int Zog blk off cap zs w h1 h2 h3
theorem compactN:Go.Proofs.YthbimonbnaodkaaGreatDoor.lex.CompactsNone Y00 98:=λa cap w=>AnyG.slices_Compact_int_empty Zog a cap w
end Go.Proofs.YthbimonbnaodkaaGreatDoor.shelf
end
section
namespace Go.Proofs.YthbimonbnaodkaaGreatDoor.lex
open Go.Abs Go.RowKit Go.Flat
variable {gl:Z0o}
theorem Ze3{P:Program}{O:Orc}{fS:Nat}(p:∀i:SoI,i.G->Z02 P O i.H fS i.A=some (.tuple [],i.O (i.zs.mergeSort leI)))(x:Int)(r:List Int)(hl:(x::r).length<4611686018427387904){H:Z00}{b f cap:Nat}{ty:TypeId}(h:H[b]? = some ⟨true,f,0,.cells (Z0t (x::r)) ty⟩) :
 Z02 P O H fS [.slice b 0 (r.length+1) cap 1]=some (.tuple [],(Z3T b f H).set b ⟨true,f,0,.cells (Z0t ((x::r).mergeSort leI)) ty⟩):=p ⟨H,b,f,x::r,cap,ty⟩ ⟨hl,λ_=>h⟩
theorem Zf5 {P : Program} {O : Orc} {fC : Nat} (p : ∀ i : SoI, i.G -> Z02 P O i.H fC i.A = some (i.R, i.O (cpt i.zs))) {zs : List Int} {L : List Nat} (hL : Lib.compact zs = L.map fun n : Nat => (n : Int)) (x : Int) (r : List Int) (hz : zs = x :: r) (hl : (x :: r).length < 4611686018427387904) : ∃ rest, ∀ {H : Z00} {b f cap : Nat} {ty : TypeId}, H[b]? = some ⟨true, f, 0, .cells (Z0t (x :: r)) ty⟩ ->
  Z02 P O H fC [.slice b 0 (r.length+1) cap 1]=some (.slice b 0 L.length cap 1,(Z3T b f H).set b ⟨true,f,0,.cells (nis L++rest) ty⟩):=by
 subst hz
 refine⟨Z0t (List.replicate ((x::r).length-(Lib.compact (x::r)).length) 0),λ{H b f cap ty} h=>?_⟩
 have h1:=p ⟨H,b,f,x::r,cap,ty⟩ ⟨hl,λ_=>h⟩
 simp only[SoI.A,SoI.R,SoI.O,cpt]at h1
 rw[h1,hL]
 simp[Z0t,nis,Function.comp_def]
theorem Z1U(l:List Nat):(nis l).all lit=true:=by simp[nis,Y0x,lit]
theorem ZoU(x y:Int):∃s t,[x,y].mergeSort leI=[s,t]:=by
 have h:([x,y].mergeSort leI).length=2:=by simp
 match hm:[x,y].mergeSort leI,h with
 |[s,t],_=>exact⟨s,t,rfl⟩
theorem ZlV(x:Int):[x].mergeSort leI=[x]:=by simp[List.mergeSort]
theorem Zpd(l:List Ins)(k:Nat)(h:k<l.length):∃rest,(inC l).drop (k*6)=icells l[k]++rest:=⟨_,Z94 l k h⟩
theorem Z9O(regs:Int)(l:List Ins)(a:Nat)(ha:a<l.length)(hl:l.length<=4000)(h0:Zox (Z6O l a)):ValOK Y00 gl 94 [.agg [.int .i64 regs,.rs l.length 6 (inC l)],.int .i64 a] (Z1a (Z0v l a)):=by
 obtain⟨O,hO,⟨p1,p2,-⟩,-⟩:=Z5E (P:=Y00) (gl:=gl) [sortFam (by kernel_rfl) shelf.sortI shelf.sortN,Z9g (by kernel_rfl) shelf.compactI shelf.compactN] [] rfl
 have p1:∀i:SoI,i.G->Z02 Y00 O i.H 97 i.A=some (.tuple [],i.O (i.zs.mergeSort leI)):=p1
 have p2:∀i:SoI,i.G->Z02 Y00 O i.H 98 i.A=some (i.R,i.O (cpt i.zs)):=p2
 obtain⟨rest,hx⟩:=Zpd l a ha
 have ha2:=ha
 unfold Z0v
 rw[Z15 ha]at h0⊢
 generalize l[a]=i at *
 obtain⟨k,r,lo,od,to,ex⟩:=i
 simp only[Zox]at h0
 simp only[nx8,icells,exA,Z1a]at *
 have hT:Z7e Y00 31 31=some (3,1,8):=by kernel_rfl
 have hk:tk 1 (((inC l).drop (a*6)).drop 0)=some [.int .i64 k]:=by rw[hx];rfl
 have ht:tk 1 (((inC l).drop (a*6)).drop 4)=some [.int .i64 to]:=by rw[hx];rfl
 clear hx
 by_cases h12:k=12\/k=13
 · rw[if_pos h12]
   have q1:∀H,Z02 Y00 O H 97 [.nslice]=some (.tuple [],H):=λH=>p1 ⟨H,0,0,[],0,0⟩ ⟨by simp,λh=>(h rfl).elim⟩
   have q2:∀H,Z02 Y00 O H 98 [.nslice]=some (.nslice,H):=λH=>p2 ⟨H,0,0,[],0,0⟩ ⟨by simp,λh=>(h rfl).elim⟩
   clear p1 p2
   simp only[nis,Y0D,Y0c]
   refine Z4Q follows Z07 hO Y0M rfl ?_
   rcases h12 with rfl|rfl
   · repeat' ((conv=>whnf);first|refine exI hk ?_|refine exI (q1 _) ?_|refine exI (q2 _) ?_|(with_reducible refine ixJ a rfl ?_ ?_;focus omega)|refine stp ?_|with_reducible apply Z01<;>intro h)
     all_goals exact .inr ⟨rfl,1,rfl⟩
   · repeat' ((conv=>whnf);first|refine exI hk ?_|refine exI (q1 _) ?_|refine exI (q2 _) ?_|(with_reducible refine ixJ a rfl ?_ ?_;focus omega)|refine stp ?_|with_reducible apply Z01<;>intro h)
     all_goals exact .inr ⟨rfl,1,rfl⟩
 rw[if_neg h12]
 have e12:(k==12)=false:=by simp;omega
 have e13:(k==13)=false:=by simp;omega
 have w:IntKind.i64.wrap ((a:Int)+1)=((a+1:Nat):Int):=ZdH (by omega)
 by_cases h11:k=11
 · subst h11
   obtain⟨t,rfl⟩:∃t:Nat,to=t:=⟨to.toNat,by omega⟩
   simp only[Y0Z,show ¬((11:Int)=10) by decide,if_false,if_true]
   obtain⟨s,u,hs⟩:=ZoU (t:Int) ((a+1:Nat):Int)
   generalize hL:(if t<a+1 then [t,a+1] else if a+1<t then [a+1,t] else [a+1])=L
   have hc:Lib.compact [s,u]=L.map λn:Nat=>(n:Int):=by
    rw[<- hs]
    refine ZgE ?_ λx=>?_
    · rw[<- hL];split
      ·simp;omega
      · split
        ·simp;omega
        ·simp
    · rw[<- hL]
      split
      ·simp
      · split
        ·simp;omega
        · have:t=a+1:=by omega
          subst this;simp
   have q1:=λ{H b f cap ty}=>Ze3 p1 (t:Int) [((a+1:Nat):Int)] (by simp) (H:=H) (b:=b) (f:=f) (cap:=cap) (ty:=ty)
   rw[hs]at q1
   obtain⟨rest2,q2⟩:=Zf5 p2 hc s [u] rfl (by simp)
   clear p1 p2 hs hc hL
   have hlen:=Z0w L
   have hlit:=Z1U L
   generalize nis L=C at *
   refine Z05 follows Z07 hO Y0M rfl ?_
   repeat' ((conv=>whnf);first|refine exI hk ?_|refine exI ht ?_|refine exI (q1 rfl) ?_|refine exI (q2 rfl) ?_|(with_reducible refine exW w ?_)|(with_reducible refine ixJ a rfl ?_ ?_;focus omega)|(refine apS ?_)|refine stp ?_|with_reducible apply Z01<;>intro h)
   all_goals (conv=>whnf)
   all_goals exact⟨_,Za2 (n:=28) rfl (by rw[hlen];omega) hlit,rfl⟩
 have e11:(k==11)=false:=by simpa using h11
 have main:∀x:Nat,Lib.compact [(x:Int)]=[x].map λn:Nat=>(n:Int):=λx=>by
  rw[<- ZlV (x:Int)]
  exact ZgE (by simp) (by simp)
 by_cases h10:k=10
 · subst h10
   obtain⟨t,rfl⟩:∃t:Nat,to=t:=⟨to.toNat,by omega⟩
   simp only[Y0Z,if_true]
   have q1:=λ{H b f cap ty}=>Ze3 p1 (t:Int) [] (by simp) (H:=H) (b:=b) (f:=f) (cap:=cap) (ty:=ty)
   rw[ZlV]at q1
   obtain⟨rest2,q2⟩:=Zf5 p2 (main t) (t:Int) [] rfl (by simp)
   clear p1 p2 main
   have hlen:=Z0w [t]
   have hlit:=Z1U [t]
   simp only[Y06,Y0c]at *
   generalize nis [t]=C at *
   refine Z05 follows Z07 hO Y0M rfl ?_
   repeat' ((conv=>whnf);first|refine exI hk ?_|refine exI ht ?_|refine exI (q1 rfl) ?_|refine exI (q2 rfl) ?_|(with_reducible refine exW w ?_)|(with_reducible refine ixJ a rfl ?_ ?_;focus omega)|(refine apS ?_)|refine stp ?_|with_reducible apply Z01<;>intro h)
   all_goals (conv=>whnf)
   all_goals exact⟨_,Za2 (n:=28) rfl (by rw[hlen]) hlit,rfl⟩
 · have e10:(k==10)=false:=by simpa using h10
   rw[if_neg h10,if_neg h11]
   have q1:=λ{H b f cap ty}=>Ze3 p1 ((a+1:Nat):Int) [] (by simp) (H:=H) (b:=b) (f:=f) (cap:=cap) (ty:=ty)
   rw[ZlV]at q1
   obtain⟨rest2,q2⟩:=Zf5 p2 (main (a+1)) ((a+1:Nat):Int) [] rfl (by simp)
   clear p1 p2 main
   have hlen:=Z0w [a+1]
   have hlit:=Z1U [a+1]
   simp only[Y06,Y0c]at *
   generalize nis [a+1]=C at *
   refine Z05 follows Z07 hO Y0M rfl ?_
   repeat' ((conv=>whnf);first|refine exI hk ?_|refine exI ht ?_|refine exI (q1 rfl) ?_|refine exI (q2 rfl) ?_|(with_reducible refine exW w ?_)|(with_reducible refine ixJ a rfl ?_ ?_;focus omega)|(refine apS ?_)|refine stp ?_|with_reducible apply Z01<;>intro h)
   all_goals (conv=>whnf)
   all_goals exact⟨_,Za2 (n:=28) rfl (by rw[hlen]) hlit,rfl⟩
theorem Ze9(i:Ins):ValOK Y00 gl 38 [.agg (icells i)] (.int .i64 (Z2g i)):=by
 obtain⟨k,r,lo,od,to,ex⟩:=i
 simp only[icells,Z2g]
 refine Z05 follows Z07 Z06 Tryz.func38 rfl ?_
 by_cases h:k=1\/k=2\/k=4\/k=5\/k=6
 · rw[if_pos h]
   rcases h with rfl|rfl|rfl|rfl|rfl
   all_goals repeat' ((conv=>whnf);first|refine stp ?_|with_reducible apply Z01<;>intro h)
   all_goals rfl
 · rw[if_neg h]
   have e1:(k==1)=false:=by simp;omega
   have e2:(k==2)=false:=by simp;omega
   have e4:(k==4)=false:=by simp;omega
   have e5:(k==5)=false:=by simp;omega
   have e6:(k==6)=false:=by simp;omega
   repeat' ((conv=>whnf);first|refine stp ?_|with_reducible apply Z01<;>intro h)
   all_goals rfl
end Go.Proofs.YthbimonbnaodkaaGreatDoor.lex
end
namespace Go.Proofs.YthbimonbnaodkaaGreatDoor.lex
open Go.Abs Go.RowKit
section
theorem ZjY{P:Program}{gl:Z0o}{f:Nat}{q:Nat->AObj->Bool}{H H1 H':Z00}{args:List AV}{r:AV}(hM:Z10 P gl f args H1 r H')(h1:kil q 0 H=H1):Z10 P gl f args H r H':=by
 subst h1
 intro sn ι W cargs hg hR ha
 have hs:=Stp.kil hR q
 refine (hM sn ι W cargs hg hs.rel ha).mono ?_
 rintro e W' ⟨v,sn',ι',rfl,hv,hst⟩
 exact⟨v,sn',ι',rfl,hv,Stp.trans hR hs hst⟩
end
end Go.Proofs.YthbimonbnaodkaaGreatDoor.lex
section
namespace Go.Proofs.YthbimonbnaodkaaGreatDoor.lex
open Go.Abs Go.RowKit Go.Flat
variable {gl:Z0o}
theorem Z3i:∀l:List Int,refsL (Z0t l) []=[]
 |[]=>rfl
 |x::l=>by have:=Z3i l;simp only[Z0t,Y0w,refsL,Z1o]at this⊢;exact this
theorem Z2a(f:Nat->Nat):∀l:List Int,renL f (Z0t l)=Z0t l
 |[]=>rfl
 |x::l=>by have:=Z2a f l;simp only[Z0t,Y0w,renL,ren]at this⊢;rw[this]
theorem Zbs(a b:List Int):Z0t (a++b)=Z0t a++Z0t b:=by simp[Z0t]
def uxC(sl:AV):AObj:=⟨true,0,0,.cells [sl] 31⟩
def uxE:AObj:=⟨true,1,0,.cells [.func (.func 95) [] [.ptr 0 0,.ptr 1 0]] 138⟩
def usH(L:List Int):Z00:=uxC (grA 2 1 L)::uxE::grB 2 Z0t 3 L
def uxA(es:List Ex):List AV:=[.rs es.length 4 (exC es),.ptr 0 0,.ptr 1 0]
theorem Zcp{L:List Int}{i:Nat}{o:AObj}(h:(usH L)[i]? = some o):o.fam=i/\o.alive=true/\Z0J (usH L).length (Z3c o.body [])=true:=by
 cases L with
 |nil =>
  match i,h with
  |0,h=>cases h;exact⟨rfl,rfl,rfl⟩
  |1,h=>cases h;exact⟨rfl,rfl,rfl⟩
  |i+2,h=>cases h
 |cons x r =>
  match i,h with
  |0,h=>cases h;exact⟨rfl,rfl,rfl⟩
  |1,h=>cases h;exact⟨rfl,rfl,rfl⟩
  |2,h=>cases h;exact⟨rfl,rfl,by show Z0J _ (refsL (Z0t (x::r)) [])=true;rw[Z3i];rfl⟩
  |i+3,h=>cases h
theorem Zgw(L:List Int):2<=(usH L).length:=Nat.le_add_left _ _
def ClU(P:Program)(gl:Z0o)(es:List Ex)(L:List Int):Prop:=Zcn P gl 2 95 (uxA es) (usH L) (.tuple []) (usH (L++ursL es))
theorem Z59{es:List Ex}{L:List Int}(h:ClU Y00 gl es L):Z10 Y00 gl 95 (uxA es) (usH L) (.tuple []) (Z8G 2 (sgE 2 (usH L).length) (usH (L++ursL es)) 0 (usH L)++shE (sgE 2 (usH L).length) ((usH (L++ursL es)).drop 2)) :=
 ZfN h (Zgw _) (Zgw _) (λi o hi=>Zcp hi) (λi o hi=>⟨(Zcp hi).2.1,(Zcp hi).1⟩) rfl
theorem ZaL{es:List Ex}{L:List Int}(n:Nat):∀(i:Nat)(o:AObj),(Z8G 2 (sgE 2 (usH L).length) (usH (L++ursL es)) 0 (usH L)++shE (sgE 2 (usH L).length) ((usH (L++ursL es)).drop 2))[i]? = some o->Z0J (Z8G 2 (sgE 2 (usH L).length) (usH (L++ursL es)) 0 (usH L)++shE (sgE 2 (usH L).length) ((usH (L++ursL es)).drop 2)).length (Z3c o.body [])=true:=by
 intro i o h
 generalize hM:L++ursL es=M at *
 cases L with
 |nil =>
  cases M with
  |nil =>
   match i,h with
   |0,h=>cases h;rfl
   |1,h=>cases h;rfl
   |i+2,h=>cases h
  |cons y s =>
   match i,h with
   |0,h=>cases h;rfl
   |1,h=>cases h;rfl
   |2,h=>cases h;show Z0J _ (refsL (renL _ (Z0t (y::s))) [])=true;rw[Z2a,Z3i];rfl
   |i+3,h=>cases h
 |cons x r =>
  cases M with
  |nil=>cases hM
  |cons y s =>
   match i,h with
   |0,h=>cases h;rfl
   |1,h=>cases h;rfl
   |2,h=>cases h;rfl
   |3,h=>cases h;show Z0J _ (refsL (renL _ (Z0t (y::s))) [])=true;rw[Z2a,Z3i];rfl
   |i+4,h=>cases h
def uxF(H:Z00)(R:List Int):Z00:=match H with
 |[_,_,e]=>(match R with
  |[]=>[uxC .nslice,uxE,e]
  |y::s=>[uxC (.slice 3 0 (s.length+1) (s.length+1) 1),uxE,e,⟨true,3,0,.cells (Z0t (y::s)) 3⟩])
 |[_,_,⟨_,_,_,.cells L _⟩,e]=>[uxC (.slice 4 0 (L.length+R.length) (L.length+R.length) 1),uxE,⟨false,2,0,.cells [] 0⟩,e,⟨true,4,0,.cells (L++Z0t R) 3⟩]
 |[_,_,e,va,⟨_,_,_,.cells L _⟩]=>[uxC (.slice 5 0 (L.length+R.length) (L.length+R.length) 1),uxE,e,va,⟨false,4,0,.cells [] 0⟩,⟨true,5,0,.cells (L++Z0t R) 3⟩]
 |[_,_,_,e,va,⟨_,_,_,.cells L _⟩]=>[uxC (.slice 6 0 (L.length+R.length) (L.length+R.length) 1),uxE,⟨false,2,0,.cells [] 0⟩,e,va,⟨false,2,0,.cells [] 0⟩,⟨true,6,0,.cells (L++Z0t R) 3⟩]
 |_=>[]
theorem Z8E{m r:List Nat}(h:m=0::1::r):BodyGe m uxE.body uxE.body:=Y0i ⟨Wk.func trivial ⟨Wk.ptr (by rw[h];rfl) rfl,Wk.ptr (by rw[h];rfl) rfl,trivial⟩,trivial⟩
theorem ZdM{m r:List Nat}(h:m=0::1::r)(es:List Ex):Wk m (.tuple (uxA es)) (.tuple (uxA es)):=Wk.tuple ⟨Y0m rfl,Wk.ptr (by rw[h];rfl) rfl,Wk.ptr (by rw[h];rfl) rfl,trivial⟩
theorem Z5x{m:List Nat}{a:List AV}{L:List Int}{ty:TypeId}(h:a=Z0t L):BodyGe m (.cells a ty) (.cells (Z0t L) ty):=Y02 (rest:=[]) (by rw[h,Y03]) (Z3i _)
theorem ZoQ{es:List Ex}{e:ABody}(h:ClU Y00 gl es []):Z10 Y00 gl 95 (uxA es) [uxC .nslice,uxE,⟨true,2,0,e⟩] (.tuple []) (uxF [uxC .nslice,uxE,⟨true,2,0,e⟩] (ursL es)):=by
 have h2:=Z7G (m:=[0,1]) (Hc:=[uxC .nslice,uxE,⟨true,2,0,e⟩]) (cargs:=uxA es) (Z59 h) (ZdM rfl es)
  ⟨⟨rfl,rfl,rfl,rfl,Y0i ⟨Y0m rfl,trivial⟩⟩,⟨rfl,rfl,rfl,rfl,Z8E rfl⟩,trivial⟩ rfl rfl (by generalize ursL es=R;cases R<;>rfl) (Z2b rfl) (ZaL 0) rfl
 refine cast ?_ h2
 cases hR:ursL es<;>simp[uxF,usH,uxC,uxE,ZaN,Z0Q,shS,sgS,Z8G,sgE,shE,Z36,renL,ren,Z2a,grA,grB,AObj.dead,hR]
theorem ZoP {es : List Ex} {x : Int} {r : List Int} {e : ABody} (h : ClU Y00 gl es (x :: r)) : Z10 Y00 gl 95 (uxA es) [uxC (.slice 2 0 (r.length + 1) (r.length + 1) 1), uxE, ⟨true, 2, 0, .cells (Z0t (x :: r)) 3⟩, ⟨true, 3, 0, e⟩] (.tuple [])
  (uxF [uxC (.slice 2 0 (r.length+1) (r.length+1) 1),uxE,⟨true,2,0,.cells (Z0t (x::r)) 3⟩,⟨true,3,0,e⟩] (ursL es)):=by
 have h2:=Z7G (m:=[0,1,2]) (Hc:=[uxC (.slice 2 0 (r.length+1) (r.length+1) 1),uxE,⟨true,2,0,.cells (Z0t (x::r)) 3⟩,⟨true,3,0,e⟩]) (cargs:=uxA es) (Z59 h) (ZdM rfl es)
  ⟨⟨rfl,rfl,rfl,rfl,Y0i ⟨Y0d rfl rfl rfl (Y01 _) (Y01 _) rfl,trivial⟩⟩,⟨rfl,rfl,rfl,rfl,Z8E rfl⟩,⟨rfl,rfl,rfl,rfl,Z5x rfl⟩,trivial⟩ rfl rfl rfl (Z2b rfl) (ZaL 0) rfl
 refine cast ?_ h2
 simp[uxF,usH,uxC,uxE,ZaN,Z0Q,shS,sgS,Z8G,sgE,shE,Z36,renL,ren,Z2a,Z1J,grA,grB,AObj.dead]
 simp[Z0t,Nat.add_assoc,Nat.add_comm,Nat.add_left_comm]
theorem ZoO {es : List Ex} {v : Int} {e va : ABody} (h : ClU Y00 gl es [v]) : Z10 Y00 gl 95 (uxA es) [uxC (.slice 4 0 1 1 1), uxE, ⟨true, 2, 0, e⟩, ⟨true, 3, 0, va⟩, ⟨true, 4, 0, .cells [.int .i64 v] 3⟩] (.tuple [])
  (uxF [uxC (.slice 4 0 1 1 1),uxE,⟨true,2,0,e⟩,⟨true,3,0,va⟩,⟨true,4,0,.cells [.int .i64 v] 3⟩] (ursL es)):=by
 have h2:=Z7G (m:=[0,1,4]) (Hc:=[uxC (.slice 4 0 1 1 1),uxE,⟨true,2,0,e⟩,⟨true,3,0,va⟩,⟨true,4,0,.cells [.int .i64 v] 3⟩]) (cargs:=uxA es) (Z59 h) (ZdM rfl es)
  ⟨⟨rfl,rfl,rfl,rfl,Y0i ⟨Y0d rfl rfl rfl (Y01 _) (Y01 _) rfl,trivial⟩⟩,⟨rfl,rfl,rfl,rfl,Z8E rfl⟩,⟨rfl,rfl,rfl,rfl,Z5x rfl⟩,trivial⟩ rfl rfl rfl (Z2b rfl) (ZaL 0) rfl
 refine cast ?_ h2
 have e1:Z0t [v]=[.int .i64 v]:=rfl
 simp[uxF,usH,uxC,uxE,ZaN,Z0Q,shS,sgS,Z8G,sgE,shE,Z36,renL,ren,Z2a,Zbs,Z1J,grA,grB,AObj.dead,e1]
 simp[Z0t,Nat.add_comm]
theorem ZoN {es : List Ex} {v x : Int} {r : List Int} {e va : ABody} (h : ClU Y00 gl es (x :: r ++ [v])) : Z10 Y00 gl 95 (uxA es) [uxC (.slice 5 0 (r.length + 1 + 1) (r.length + 1 + 1) 1), uxE, ⟨true, 2, 0, .cells (Z0t (x :: r)) 3⟩, ⟨true, 3, 0, e⟩, ⟨true, 4, 0, va⟩, ⟨true, 2, 0, .cells (Z0t (x :: r) ++ [.int .i64 v]) 3⟩] (.tuple [])
  (uxF [uxC (.slice 5 0 (r.length+1+1) (r.length+1+1) 1),uxE,⟨true,2,0,.cells (Z0t (x::r)) 3⟩,⟨true,3,0,e⟩,⟨true,4,0,va⟩,⟨true,2,0,.cells (Z0t (x::r)++[.int .i64 v]) 3⟩] (ursL es)):=by
 have h2:=Z7G (m:=[0,1,5]) (Hc:=kil (λi _=>mem i [2]) 0 [uxC (.slice 5 0 (r.length+1+1) (r.length+1+1) 1),uxE,⟨true,2,0,.cells (Z0t (x::r)) 3⟩,⟨true,3,0,e⟩,⟨true,4,0,va⟩,⟨true,2,0,.cells (Z0t (x::r)++[.int .i64 v]) 3⟩]) (cargs:=uxA es) (Z59 h) (ZdM rfl es)
  ⟨⟨rfl,rfl,rfl,rfl,Y0i ⟨Y0d rfl rfl (by simp) (Y01 _) (by simp) rfl,trivial⟩⟩,⟨rfl,rfl,rfl,rfl,Z8E rfl⟩,⟨rfl,rfl,rfl,rfl,Z5x (by simp[Z0t])⟩,trivial⟩ rfl rfl rfl (Z2b rfl) (ZaL 0) rfl
 refine ZjY (q:=λi _=>mem i [2]) (cast (congrArg (λH'=>Z10 Y00 gl 95 (uxA es) _ (.tuple []) H') ?_) h2) rfl
 simp[uxF,usH,uxC,uxE,kil,mem,ZaN,Z0Q,shS,sgS,Z8G,sgE,shE,Z36,renL,ren,Z2a,grA,grB,AObj.dead]
 simp[Z0t]
 omega
end Go.Proofs.YthbimonbnaodkaaGreatDoor.lex
end
section
namespace Go.Abs
open Go.RowKit
theorem Z0x{H:Z00}{k:Z00->Prop}(h:k H):frcHW H k:=by rw[Z0i];exact h
theorem Z4F{H H':Z00}{k:Z00->Prop}(e:H=H')(h:k H'):frcHW H k:=by rw[Z0i,e];exact h
theorem Z1N{o:Option (AV×Z00)}{r:AV}{H':Z00}{k:AV->Z00->Prop}(h:o=some (r,H'))(hk:k r H'):∃y,o=some y/\Z79 y.1 λr=>frcHW y.2 λH'=>k r H':=⟨_,h,by rw[Z2i,Z0i];exact hk⟩
theorem ZbI{o:Option (List AV)}{cs':List AV}{F:List AV->Z00}{H':Z00}{k:Z00->Prop}(h:o=some cs')(e:F cs'=H')(hk:k H'):∃cs',o=some cs'/\frcHW (F cs') k:=⟨_,h,by rw[Z0i,e];exact hk⟩
theorem Z0E{n:Nat}{k:Nat->Prop}(h:k n):frcNP n k:=by rw[Z1t];exact h
theorem Z13{α : Type}{o:Option α}{x : α}{k : α -> Prop}(e:o=some x)(h:k x):onO o k:=by rw[e];exact h
theorem Z9t{H:Z00}{b f:Nat}(h:∀i o,H[i]? = some o->i≠b->o.fam≠f):Z3T b f H=H:=by
 unfold Z3T
 refine List.ext_getElem? λi=>?_
 rw[Z2Y]
 cases hi:H[i]? with
 |none=>rfl
 |some o =>
  simp only[Option.map_some,Y0N,Option.some.injEq]
  by_cases hb:i=b
  ·subst hb;simp
  · have:=h i o hi hb
    rw[if_neg]
    simp[hb,this]
end Go.Abs
end
section
namespace Go.Proofs.YthbimonbnaodkaaGreatDoor.lex
open Go.Abs Go.RowKit Go.Flat
variable {gl:Z0o}
theorem ZlB{a b:List Ex}(h:uxA a=uxA b):a=b:=by
 simp only[uxA,List.cons.injEq,AV.rs.injEq,and_true,true_and]at h
 exact exC_inj _ _ h.2 h.1
theorem Zgv{H:Z00}{o0 o1:AObj}(h0:H[0]? = some o0)(e0:o0=uxC .nslice)(h1:H[1]? = some o1)(e1:o1=uxE):HpGe H [0,1] [0,1] (usH []) 0:=by
 subst e0 e1
 exact⟨Z13 h0 ⟨rfl,rfl,rfl,rfl,Y0i ⟨Y0m rfl,trivial⟩⟩,Z13 h1 ⟨rfl,rfl,rfl,rfl,Z8E rfl⟩,trivial⟩
theorem Z8F{H:Z00}{o0 o1:AObj}{b l f:Nat}{cs:List AV}{L:List Int}(h0:H[0]? = some o0)(e0:o0=uxC (.slice b 0 l l 1))(h1:H[1]? = some o1)(e1:o1=uxE)(h2:H[b]? = some ⟨true,f,0,.cells cs 3⟩)(hl:l=L.length)(hcs:cs=Z0t L)(hne:L≠[]):HpGe H [0,1,b] [0,1,b] (usH L) 0:=by
 subst e0 e1
 cases L with
 |nil=>exact (hne rfl).elim
 |cons x r =>
  exact⟨Z13 h0 ⟨rfl,rfl,rfl,rfl,Y0i ⟨Y0d rfl rfl hl (Y01 _) (by rw[hl];exact Y01 _) rfl,trivial⟩⟩,Z13 h1 ⟨rfl,rfl,rfl,rfl,Z8E rfl⟩,Z13 h2 ⟨rfl,rfl,rfl,rfl,Z5x hcs⟩,trivial⟩
def usS(es:List Ex)(i:Nat):List (Nat×AV):=[(0,.rs es.length 4 (exC es)),(1,.ptr 0 0),(2,.ptr 1 0),(8,.rs es.length 4 (exC es)),(9,.int .i64 es.length),(10,.int .i64 i)]
theorem Zik:∀(q:Nat)(es:List Ex)(L:List Int),sizeL es<=q->okL es->es.length<=9223372036854775807->L.length+sizeL es<=800000->ClU Y00 gl es L
 |q,es,L,hq,hok,hl,hL=>by
  obtain⟨O,hO,⟨p1,-⟩,p2,-⟩:=Z5E (P:=Y00) (gl:=gl) [{ I:=List Ex×Z00,f:=95,G:=λi=>Z10 Y00 gl 95 (uxA i.1) i.2 (.tuple []) (uxF i.2 (ursL i.1)),A:=λi=>uxA i.1,H:=λi=>i.2,R:=λ_=>.tuple [],O:=λi=>uxF i.2 (ursL i.1),body:=(by kernel_rfl),inj:=(λi j _ _ h1 h2=>by rw[ZlB h1,h2];exact⟨rfl,rfl⟩),ok:=λi h=>h }]
   [{ I:=List UInt8,f:=96,G:=λs=>s.length<=9223372036854775807,A:=λs=>[.str s],R:=λs=>Zgd s,body:=(by kernel_rfl),inj:=(λs t _ _ h=>by simp only[List.cons.injEq,AV.str.injEq,and_true]at h;rw[h]),ok:=λs hs=>⟨rfl,Z7w s hs⟩ }] rfl
  have q1:∀(k:List Ex)(H:Z00),Z10 Y00 gl 95 (uxA k) H (.tuple []) (uxF H (ursL k))->Z02 Y00 O H 95 (uxA k)=some (.tuple [],uxF H (ursL k)):=λk H h=>p1 (k,H) h
  have q2:∀s:List UInt8,s.length<=9223372036854775807->∀H,Z02 Y00 O H 96 [.str s]=some (Zgd s,H):=p2
  clear p1 p2
  have hT:Z7e Y00 31 31=some (3,1,8):=by kernel_rfl
  unfold ClU
  simp only[uxA]at q1⊢
  refine Za9 (λ_=>true) 0 follows Z07 hO Tryz.func95 rfl ?_
  simp only[usH]
  repeat' ((conv=>whnf);first|refine stp ?_|with_reducible apply Z01<;>intro h)
  conv=>whnf
  refine⟨Nat,(λi=>i<=es.length),usS es,(λi=>usH (L++ursL (es.take i))),(λi=>es.length-i),⟨0,Y07 _,?_⟩,?_⟩
  · dsimp only
    rw[show L++ursL (es.take 0)=L by simp[ursL]]
    cases L with
    |nil =>
     refine FgLK.mk [0,1] rfl rfl ?_ (Zgv rfl rfl rfl rfl) rfl
     exact wks
    |cons x r =>
     refine FgLK.mk [0,1,2] rfl rfl ?_ (Z8F (L:=x::r) rfl rfl rfl rfl rfl rfl rfl (Y10 _ _)) rfl
     exact wks
  intro i hi
  dsimp only at hi⊢
  by_cases hlt:i<es.length
  case neg =>
   have e1:decide ((i:Int)<(es.length:Int))=false:=by simpa using hlt
   have hi2:i=es.length:=by omega
   subst hi2
   rw[Y0f]
   generalize L++ursL es=Li
   cases Li with
   |nil =>
    simp only[usH,uxC,uxE,grA,grB,usS]
    repeat' ((conv=>whnf);first|refine stp ?_|with_reducible apply Z01<;>intro h)
    conv=>whnf
    exact⟨[0,1],rfl,Zgv rfl rfl rfl rfl,rfl,Y0m rfl⟩
   |cons x r =>
    simp only[usH,uxC,uxE,grA,grB,usS]
    repeat' ((conv=>whnf);first|refine stp ?_|with_reducible apply Z01<;>intro h)
    conv=>whnf
    exact⟨[0,1,2],rfl,Z8F (L:=x::r) rfl rfl rfl rfl rfl rfl rfl (Y10 _ _),rfl,Y0m rfl⟩
  have e1:decide ((i:Int)<(es.length:Int))=true:=by simpa using hlt
  have hx:=ex4 es i hlt
  have hx2:=hx
  have htk:=ZaM es i hlt
  have hmem:es[i]∈es:=Z03 hlt
  have hsz:=Z0h _ _ hmem
  have hoe:=Z0k hok _ hmem
  have hln:(L++ursL (es.take i)).length<=800000:=by
   have h1:=ursL_len (es.take i)
   have h2:=Z43 es i hlt
   rw[Y0a];omega
  have hln2:(L++ursL (es.take i)).length+Z0a es[i]<=800000:=by
   have h1:=ursL_len (es.take i)
   have h2:=Z43 es i hlt
   rw[Y0a];omega
  generalize hei:es[i]=e at *
  obtain⟨op,num,name,kids⟩:=e
  obtain⟨⟨hn1,hn2⟩,hok2⟩:=Z0S hoe
  simp only[Ex.name,Ex.kids]at hn1 hn2 hok2
  simp only[Z0a]at hsz hln2
  simp only[Ex.cells,exA]at hx
  simp only[Zfq]at htk
  have q2n:=q2 name hn1
  have hq0:0<q:=by omega
  have IH:∀L',L'.length+sizeL kids<=800000->ClU Y00 gl kids L':=λL' h=>Zik (q-1) kids L' (by omega) hok2 hn2 h
  have hnext:L++ursL (es.take (i+1))=(L++ursL (es.take i))++(Zer op name++ursL kids):=by rw[htk,<- Y0G]
  generalize hLi:L++ursL (es.take i)=Li at *
  have hR:=ursL_len kids
  clear q2 hei htk hmem hx2
  obtain⟨n,b,hreg,hb⟩:∃n b,Zgd name = .tuple [.int .i64 n,.bool b]/\(b&&(op==2))=(decide (0<=Z1c name)&&(op==2))/\(b=true->n=Z1c name):=by
   unfold Zgd
   by_cases hr:Z1c name<0
   ·rw[if_pos hr];exact⟨0,false,rfl,by rw[show decide (0<=Z1c name)=false by simpa using hr],λh=>by cases h⟩
   ·rw[if_neg hr];exact⟨Z1c name,true,rfl,by rw[show decide (0<=Z1c name)=true by simpa using hr],λ_=>rfl⟩
  rw[hreg]at q2n
  obtain⟨hb,hbn⟩:=hb
  cases hc:(decide (0<=Z1c name)&&(op==2)) with
  |false =>
   have hown:Zer op name=[]:=by unfold Zer;rw[hc];rfl
   rw[hown,Y0s]at hnext
   rw[hc]at hb
   cases Li with
   |nil =>
    have qA:=λeb=>q1 kids _ (ZoQ (gl:=gl) (es:=kids) (e:=eb) (IH [] (by simp only[Y0c];omega)))
    rw[Y0s]at hnext
    cases hRk:ursL kids with
    |nil =>
     rw[hRk]at qA hnext
     simp only[usH,uxC,uxE,grA,grB,usS]at qA⊢
     cases b<;>simp only[Y08,Y0O,reduceCtorEq]at hb
     all_goals (repeat' ((conv=>whnf);first|refine exI hx ?_|refine exI (q2n _) ?_|refine exI (qA _) ?_|(with_reducible refine ixJ i rfl ?_ ?_;focus omega)|(refine apS ?_)|refine stp ?_|with_reducible apply Z01<;>intro h))
     all_goals (conv=>whnf)
     all_goals (refine⟨i+1,hlt,by show es.length-(i+1)<es.length-i;omega,?_⟩)
     all_goals (try dsimp only)
     all_goals rw[hnext]
     all_goals refine FgLK.mk [0,1] rfl rfl ?_ (Zgv rfl rfl rfl rfl) rfl
     all_goals exact wks
    |cons y s =>
     rw[hRk]at qA hnext
     simp only[usH,uxC,uxE,grA,grB,usS]at qA⊢
     cases b<;>simp only[Y08,Y0O,reduceCtorEq]at hb
     all_goals (repeat' ((conv=>whnf);first|refine exI hx ?_|refine exI (q2n _) ?_|refine exI (qA _) ?_|(with_reducible refine ixJ i rfl ?_ ?_;focus omega)|(refine apS ?_)|refine stp ?_|with_reducible apply Z01<;>intro h))
     all_goals (conv=>whnf)
     all_goals (refine⟨i+1,hlt,by show es.length-(i+1)<es.length-i;omega,?_⟩)
     all_goals (try dsimp only)
     all_goals rw[hnext]
     all_goals refine FgLK.mk [0,1,3] rfl rfl ?_ (Z8F (L:=y::s) rfl rfl rfl rfl rfl rfl rfl (Y10 _ _)) rfl
     all_goals exact wks
   |cons x r =>
    have qA:=λeb=>q1 kids _ (ZoP (gl:=gl) (es:=kids) (x:=x) (r:=r) (e:=eb) (IH (x::r) (by omega)))
    simp only[usH,uxC,uxE,grA,grB,usS]at qA⊢
    cases b<;>simp only[Y08,Y0O,reduceCtorEq]at hb
    all_goals (repeat' ((conv=>whnf);first|refine exI hx ?_|refine exI (q2n _) ?_|refine exI (qA _) ?_|(with_reducible refine ixJ i rfl ?_ ?_;focus omega)|(refine apS ?_)|refine stp ?_|with_reducible apply Z01<;>intro h))
    all_goals (conv=>whnf)
    all_goals (refine⟨i+1,hlt,by show es.length-(i+1)<es.length-i;omega,?_⟩)
    all_goals (try dsimp only)
    all_goals rw[hnext]
    all_goals refine FgLK.mk [0,1,4] rfl rfl ?_ (Z8F (L:=x::r++ursL kids) rfl rfl rfl rfl rfl (by rw[Y0a,Z1J]) (Zbs _ _).symm (by simp)) rfl
    all_goals exact wks
  |true =>
   have hown:Zer op name=[Z1c name]:=by unfold Zer;rw[hc];rfl
   have hbt:b=true:=by rw[hc]at hb;simp only[Y04]at hb;exact hb.1
   have hop:(op==2)=true:=by simp only[Y04]at hc;exact hc.2
   have hnn:=hbn hbt
   subst hbt hnn
   rw[hown]at hnext
   clear hb hbn hown hc hreg
   generalize Z1c name=v at *
   cases Li with
   |nil =>
    have qA:=λeb va=>q1 kids _ (ZoO (gl:=gl) (es:=kids) (v:=v) (e:=eb) (va:=va) (IH [v] (by simp only[Y06,Y0c];omega)))
    simp only[usH,uxC,uxE,grA,grB,usS]at qA⊢
    repeat' ((conv=>whnf);first|refine exI hx ?_|refine exI (q2n _) ?_|refine exI (qA _ _) ?_|(with_reducible refine ixJ i rfl ?_ ?_;focus omega)|(refine apS ?_)|refine stp ?_|with_reducible apply Z01<;>intro h)
    conv=>whnf
    refine⟨i+1,hlt,by show es.length-(i+1)<es.length-i;omega,?_⟩
    (try dsimp only)
    rw[hnext]
    refine FgLK.mk [0,1,5] rfl rfl ?_ (Z8F (L:=[]++([v]++ursL kids)) rfl rfl rfl rfl rfl (by simp;omega) (by simp[Z0t]) (by simp)) rfl
    exact wks
   |cons x r =>
    have qA:=λeb va=>q1 kids _ (ZoN (gl:=gl) (es:=kids) (v:=v) (x:=x) (r:=r) (e:=eb) (va:=va) (IH (x::r++[v]) (by simp only[Y0a,Y06,Y0c]at hln2⊢;omega)))
    have hlr:r.length+1<=800000:=by simpa using hln
    have hcl:(Z0t (x::r)).length=(r.length+1)*1:=by rw[Z1J,Y06,Y0o]
    simp only[usH,uxC,uxE,grA,grB,usS]at qA⊢
    repeat' ((conv=>whnf);first|refine exI hx ?_|refine exI (q2n _) ?_|refine exI (qA _ _) ?_|(with_reducible refine ixJ i rfl ?_ ?_;focus omega)|(refine apS ?_)|refine stp ?_|with_reducible apply Z01<;>intro h)
    conv=>whnf
    refine⟨i+1,hlt,by show es.length-(i+1)<es.length-i;omega,?_⟩
    (try dsimp only)
    rw[hnext]
    refine FgLK.mk [0,1,6] rfl rfl ?_ (Z8F (L:=x::r++([v]++ursL kids)) rfl rfl rfl rfl rfl (by simp[Z1J];omega) (by simp[Z0t]) (by simp)) rfl
    exact wks
 termination_by q=>q
 decreasing_by omega
def uyH(i:Ins)(R:List Int):Z00:=⟨true,0,0,.cells (icells i) 37⟩::⟨true,1,0,.cells [grA 3 1 R] 31⟩::⟨true,2,0,.cells [.func (.func 95) [] [.ptr 1 0,.ptr 2 0]] 138⟩::grB 3 Z0t 3 R
theorem ZlE{i:Ins}(h:ClU Y00 gl i.ex []):Z10 Y00 gl 95 [.rs i.ex.length 4 (exC i.ex),.ptr 1 0,.ptr 2 0] (uyH i []) (.tuple []) (uyH i (ursL i.ex)):=by
 have h2:=Z7G (m:=[1,2]) (Hc:=uyH i []) (cargs:=[.rs i.ex.length 4 (exC i.ex),.ptr 1 0,.ptr 2 0]) (Z59 h) (Wk.tuple ⟨Y0m rfl,Wk.ptr rfl rfl,Wk.ptr rfl rfl,trivial⟩)
  ⟨⟨rfl,rfl,rfl,rfl,Y0i ⟨Y0m rfl,trivial⟩⟩,⟨rfl,rfl,rfl,rfl,Y0i ⟨Wk.func trivial ⟨Wk.ptr rfl rfl,Wk.ptr rfl rfl,trivial⟩,trivial⟩⟩,trivial⟩ rfl rfl (by generalize ursL i.ex=R;cases R<;>rfl) (Z2b rfl) (ZaL 0) rfl
 refine cast (congrArg (λH'=>Z10 Y00 gl 95 [.rs i.ex.length 4 (exC i.ex),.ptr 1 0,.ptr 2 0] (uyH i []) (.tuple []) H') ?_) h2
 cases hR:ursL i.ex<;>simp[uyH,usH,uxC,uxE,ZaN,Z0Q,shS,sgS,Z8G,sgE,shE,Z36,renL,ren,Z2a,grA,grB,AObj.dead,hR]
theorem ZdO(i:Ins)(hok:okL i.ex)(hl:i.ex.length<=9223372036854775807)(hs:sizeL i.ex<=800000):ValOK Y00 gl 36 [.agg (icells i)] (Z1a (Z1w i)):=by
 have hcl:=ZlE (gl:=gl) (i:=i) (Zik (sizeL i.ex) i.ex [] (Y01 _) hok hl (by simp only[Y0c];omega))
 obtain⟨O,hO,⟨p0,p1,p2,-⟩,-⟩:=Z5E (P:=Y00) (gl:=gl) [{ I:=Unit,f:=95,G:=λ_=>True,A:=λ_=>[.rs i.ex.length 4 (exC i.ex),.ptr 1 0,.ptr 2 0],H:=λ_=>uyH i [],R:=λ_=>.tuple [],O:=λ_=>uyH i (ursL i.ex),body:=(by kernel_rfl),inj:=(λ_ _ _ _ _ _=>⟨rfl,rfl⟩),ok:=λ_ _=>hcl },
  sortFam (by kernel_rfl) shelf.sortI shelf.sortN,Z9g (by kernel_rfl) shelf.compactI shelf.compactN] [] rfl
 have q0:Z02 Y00 O (uyH i []) 95 [.rs i.ex.length 4 (exC i.ex),.ptr 1 0,.ptr 2 0]=some (.tuple [],uyH i (ursL i.ex)):=p0 () trivial
 have p1:∀i:SoI,i.G->Z02 Y00 O i.H 97 i.A=some (.tuple [],i.O (i.zs.mergeSort leI)):=p1
 have p2:∀i:SoI,i.G->Z02 Y00 O i.H 98 i.A=some (i.R,i.O (cpt i.zs)):=p2
 clear p0 hcl
 have hlen:=ursL_len i.ex
 have heq:=Z9x i
 obtain⟨k,r,lo,od,to,ex⟩:=i
 simp only[icells,exA,Z1a,uyH]at *
 generalize hU:Z1w ⟨k,r,lo,od,to,ex⟩=U at *
 cases hR:ursL ex with
 |nil =>
  have hU0:U=[]:=by
   rw[hR]at heq
   cases U with
   |nil=>rfl
   |cons a b=>exact absurd (congrArg List.length heq) (by simp[Lib.compact,Lib.compactUpTo])
  subst hU0
  have q1:∀H,Z02 Y00 O H 97 [.nslice]=some (.tuple [],H):=λH=>p1 ⟨H,0,0,[],0,0⟩ ⟨by simp,λh=>(h rfl).elim⟩
  have q2:∀H,Z02 Y00 O H 98 [.nslice]=some (.nslice,H):=λH=>p2 ⟨H,0,0,[],0,0⟩ ⟨by simp,λh=>(h rfl).elim⟩
  rw[hR]at q0
  clear p1 p2
  simp only[nis,Y0D,Y0c,grA,grB]at q0⊢
  refine Z4Q follows Z07 hO Tryz.func36 rfl ?_
  repeat' ((conv=>whnf);first|refine exI q0 ?_|refine exI (q1 _) ?_|refine exI (q2 _) ?_|refine stp ?_|with_reducible apply Z01<;>intro h)
  all_goals exact .inr ⟨rfl,1,rfl⟩
 |cons y s =>
  rw[hR]at q0 heq hlen
  have q1:=λ{H b f cap ty}=>Ze3 p1 y s (by omega) (H:=H) (b:=b) (f:=f) (cap:=cap) (ty:=ty)
  obtain⟨z,zs,hz⟩:∃z zs,(y::s).mergeSort leI=z::zs:=by
   have h:((y::s).mergeSort leI).length=s.length+1:=by simp
   match hm:(y::s).mergeSort leI,h with
   |z::zs,_=>exact⟨z,zs,rfl⟩
  have hzl:zs.length=s.length:=by
   have h:((y::s).mergeSort leI).length=s.length+1:=by simp
   rw[hz]at h;simpa using h
  rw[hz]at q1 heq
  obtain⟨rest2,q2⟩:=Zf5 p2 heq z zs rfl (by simp only[Y06]at *;omega)
  rw[hzl]at q2
  clear p1 p2 hz hU heq
  have hnl:=Z0w U
  have hlit:=Z1U U
  generalize nis U=C at *
  simp only[grA,grB]at q0⊢
  refine Z05 follows Z07 hO Tryz.func36 rfl ?_
  repeat' ((conv=>whnf);first|refine exI q0 ?_|refine exI (q1 rfl) ?_|refine exI (q2 rfl) ?_|refine stp ?_|with_reducible apply Z01<;>intro h)
  all_goals (conv=>whnf)
  all_goals exact⟨_,Za2 (n:=28) rfl (by rw[hnl,Y0o]) hlit,rfl⟩
end Go.Proofs.YthbimonbnaodkaaGreatDoor.lex
end
section
namespace Go.Abs
open Go.RowKit
def WkW(fs:List Nat)(H:Z00)(m:List Nat)(u u2:AV):Prop:=WkZ fs H m u u2\/∃u1,WkZ fs H m u u1/\wkV u1 u2=true
structure HpD (fs:List Nat) (m:List Nat) (H H2:Z00):Prop where
 len:H2.length=m.length
 get:∀(b:Nat)(o2:AObj),H2[b]? = some o2->∃ (j:Nat) (o:AObj),m[b]? = some j/\H[j]? = some o/\(o2.sh=0->o.sh=0)/\(o2.alive=true->o.alive=true/\o2.sh=o.sh/\mem o.fam fs=false/\BodyGeZ fs H m o.body o2.body)
 sep:∀(b b':Nat)(o2 o2':AObj)(j j':Nat),H2[b]? = some o2->H2[b']? = some o2'->o2.alive=true->o2'.alive=true->m[b]? = some j->m[b']? = some j'->Z0e H j=Z0e H j'->b=b'
theorem FgS.dead {k : Nat} {fs m : List Nat} {tm tm2 : Tr} {H H2 : Z00} (htr : ∀ n u2, Z1j tm2 n = some u2 -> ∃ u, Z1j tm n = some u /\ WkW fs H m u u2) (htx : ∀ n, tex tm2 n = true -> tex tm n = true)
  (hp:HpD fs m H H2) (hkp:Zeq k 0 m=true):FgS k tm H tm2 H2:=by
 intro sn ι W a hR ht
 obtain⟨hl,hg,hsep⟩:=hp
 generalize hHQ:ZfL fs H=HQ
 have inQ:∀(b:Nat)(o:AObj),HQ[b]? = some o->o.alive=true->H[b]? = some o/\mem o.fam fs=true:=λb o hb hal=>by
  rw[<- hHQ]at hb
  obtain⟨o0,g1,_,_,g4⟩:=Z17 hb
  obtain⟨rfl,g5⟩:=g4 hal
  exact⟨g1,by simpa using g5⟩
 have hle:∀a v,sn a=some v->snO sn ι HQ W a=some v:=λa v hv=>by
  unfold snO
  split
  ·exact (hR.snap a v hv).2.1
  ·exact hv
 have hcell:∀a v,snO sn ι HQ W a=some v->W.cell? a=some v:=λa v hv=>by
  unfold snO at hv
  split at hv
  ·exact hv
  ·exact (hR.snap a v hv).2.1
 have hobjQ:∀(b:Nat)(o:AObj) p,HQ[b]? = some o->o.alive=true -> ι b=some p->OR sn ι W o.body p:=λb o p hb hal hp=>hR.obj b o p (inQ b o hb hal).1 hal hp
 have hz:∀(u u2:AV)(v:Value),WkZ fs H m u u2->VR sn ι u v->VR (snO sn ι HQ W) (iot m ι) u2 v:=λu u2 v h hv=>by
  rcases h with h|h
  ·exact Z0Z ⟨hle,λ_ _ h=>h⟩ _ _ (h _ _ _ hv)
  · rw[hHQ]at h
    exact Zcf (Z3j hobjQ ⟨hle,λ_ _ h=>h⟩ (λb o p hb hal hp off v hv=>by
     unfold snO;rw[if_pos ⟨b,o,p,hb,hal,hp,rfl⟩];exact hv) 30 u u2 v h hv)
 have at2:∀{b:Nat}{o2:AObj}{p:Place},H2[b]? = some o2->o2.alive=true->iot m ι b=some p->∃j o,m[b]? = some j/\H[j]? = some o /\ ι j=some p/\o.alive=true/\o2.sh=o.sh/\mem o.fam fs=false/\BodyGeZ fs H m o.body o2.body:=by
  intro b o2 p hb ha hp
  obtain⟨j,o,x1,x2,x3,x4⟩:=hg b o2 hb
  obtain⟨y1,y2,y3,y4⟩:=x4 ha
  simp only[iot,x1]at hp
  exact⟨j,o,x1,x2,hp,y1,y2,y3,y4⟩
 have hR2:R (snO sn ι HQ W) (iot m ι) H2 W:=by
  refine⟨λb=>⟨λhb=>?_,λ⟨p,hp⟩=>?_⟩,λb p hp=>?_,λb o2 p hb ha hp=>?_,λb b' o o' p p' hb hb' ha ha' hp hp' e=>?_,λad v hv=>?_,λb o2 p hb hp e=>?_⟩
  · obtain⟨j,o,x1,x2,_⟩:=hg b _ (Y0y hb)
    obtain⟨p,hp⟩:=hR.place x2
    exact⟨p,by simp only[iot,x1];exact hp⟩
  · unfold iot at hp
    split at hp
    ·rename_i j hj;rw[hl];exact (Y0p.1 hj).1
    ·cases hp
  · unfold iot at hp
    split at hp
    ·exact hR.blk _ p hp
    ·cases hp
  · obtain⟨j,o,x1,x2,x3,x4,x5,x6,x8⟩:=at2 hb ha hp
    have hor:=hR.obj j o p x2 x4 x3
    generalize o.body=b1 at x8 hor
    generalize o2.body=b2 at x8
    unfold BodyGeZ at x8
    split at x8
    · obtain⟨rfl,h1,h2⟩:=x8
      simp only[OR]at hor⊢
      obtain⟨arr,g1,g2,g3,g4⟩:=hor
      refine⟨arr,g1,g2,by omega,λi c2 hc=>?_⟩
      obtain⟨c,e1,e2⟩:=h2 i c2 hc
      obtain⟨v,e3,e4⟩:=g4 i c e1
      exact⟨v,e3,hz _ _ _ e2 e4⟩
    ·exact Z0P ⟨hle,λ_ _ h=>h⟩ rfl (x8.or hor)
  · obtain⟨j,q,x1,x2,x3,x4,x5,x6,x8⟩:=at2 hb ha hp
    obtain⟨j',q',y1,y2,y3,y4,y5,y6,y8⟩:=at2 hb' ha' hp'
    have hs:=hR.sep j j' q q' p p' x2 y2 x4 y4 x3 y3 e
    have:b=b':=hsep b b' o o' j j' hb hb' ha ha' x1 y1 (by simp[Z0e,x2,y2,hs.1])
    subst this
    rw[hb]at hb';cases hb'
    exact⟨rfl,by rw[x1]at y1;cases y1;rw[x2]at y2;cases y2;exact (by have:=hs.2;omega)⟩
  · refine⟨Zdj (hcell ad v hv),hcell ad v hv,λb o2 p hb ha hp hne=>?_⟩
    obtain⟨j,o,x1,x2,x3,x4,x5,x6,_⟩:=at2 hb ha hp
    unfold snO at hv
    split at hv
    · rename_i hex
      obtain⟨b',o',p',z1,z2,z3,z4⟩:=hex
      obtain⟨y1,y2⟩:=inQ b' o' z1 z2
      have:=(hR.sep j b' o o' p p' x2 y1 x4 z2 x3 z3 (hne.trans z4.symm)).1
      rw[this,y2]at x6;cases x6
    ·exact (hR.snap ad v hv).2.2 j o p x2 x4 x3 hne
  · obtain⟨j,o,x1,x2,x3,x4⟩:=hg b o2 hb
    simp only[iot,x1]at hp
    exact hR.shz j o p x2 hp (x3 e)
 refine⟨snO sn ι HQ W,iot m ι,⟨hR2,hle,λb o2 p hb ha hp=>?_,λ_ _ _=>rfl,Y01 _,rfl,rfl,rfl,λad v hv=>?_,λb p hb hp=>by have:=Z9I hkp b hb;simp only[Y0N]at this;simp only[iot,this];exact hp⟩,λt u2 hu=>?_,λt hx=>ht.2 t (htx t hx)⟩
 · obtain⟨j,o,x1,x2,x3,x4,_⟩:=at2 hb ha hp
   exact .inr ⟨j,o,p,x2,x4,x3,rfl⟩
 · unfold snO at hv
   split at hv
   · rename_i hex
     obtain⟨b,o,p,x1,x2,x3,x4⟩:=hex
     exact .inr (.inr ⟨b,o,p,(inQ b o x1 x2).1,x2,x3,x4⟩)
   ·exact .inl hv
 · obtain⟨u,h1,h2⟩:=htr t u2 hu
   obtain⟨v,h4,h5⟩:=ht.1 t u h1
   rcases h2 with h2|⟨u1,h2,h3⟩
   ·exact⟨v,h4,hz _ _ _ h2 h5⟩
   ·exact⟨v,h4,ZaD u1 u2 v h3 (hz _ _ _ h2 h5)⟩
def SlotsGeW(fs:List Nat)(H:Z00)(m:List Nat)(t:Tr):List (Nat×AV)->Prop
 |[]=>True
 |(n,u2)::l=>(onO (Z1j t n) λu=>WkW fs H m u u2)/\SlotsGeW fs H m t l
theorem SlotsGeW.get{fs:List Nat}{H:Z00}{m:List Nat}{t:Tr}:∀{l:List (Nat×AV)},SlotsGeW fs H m t l->∀n u2,Z1X n l=some u2->∃u,Z1j t n=some u/\WkW fs H m u u2
 |[],h,n,u2,e=>by simp[Z1X]at e
 |(k,v)::l,h,n,u2,e=>by
  simp only[Z1X]at e
  split at e
  · rename_i hk
    have:=Nat.eq_of_beq_eq_true hk;subst this
    simp at e;subst e
    exact Z04 h.1
  ·exact h.2.get n u2 e
theorem FgLK.mkD{k:Nat}{t0 tm:Tr}{H:Z00}{l:List (Nat×AV)}{H2:Z00}(fs m:List Nat)(hk:Zeq k 0 m=true)(h:Ze1 t0 tm=true)(h1:SlotsGeW fs H m tm l)(h2:HpD fs m H H2):FgLK k t0 tm H l H2:=by
 unfold FgLK;rw[h]
 exact .inr (FgS.dead (fs:=fs) (m:=m) (λn u2 e=>h1.get n u2 (Z5v _ _ _ _ e)) (λn e=>Z6V h n (by rwa [Z73]at e)) h2 hk)
theorem WkW.wk{fs:List Nat}{H:Z00}{m:List Nat}{u u2:AV}(h:Wk m u u2):WkW fs H m u u2:=.inl (.inl h)
theorem WkW.fz{fs:List Nat}{H:Z00}{m:List Nat}{u u1 u2:AV}(h:frz (ZfL fs H) 30 u=some u1)(hw:wkV u1 u2=true):WkW fs H m u u2:=.inr ⟨u1,.inr h,hw⟩
theorem ValOK.res{P:Program}{gl:Z0o}{f:Nat}{args:List AV}{r r2:AV}(h:ValOK P gl f args r)(hw:wkV r r2=true):ValOK P gl f args r2:=by
 intro sn W cargs hg hR ha
 exact (h sn W cargs hg hR ha).mono λe W' ⟨v,e1,hs,hv⟩=>⟨v,e1,hs,ZaD r r2 v hw hv⟩
end Go.Abs
end
section
namespace Go.Abs
open Go.RowKit
theorem Zi0{H:Z00}{n b f sh len cap z:Nat}{cs l:List AV}{ty:TypeId}(hH:H[b]? = some ⟨true,f,sh,.cells cs ty⟩)(hc:cs.length=len*z)(hl:Z0T (frz H n) cs=some l):frz H (n+1) (.slice b 0 len cap z)=some (.rs len z l):=by
 cases len with
 |zero =>
  have:cs=[]:=Y19 (by omega)
  subst this
  simp only[Z0T,Option.some.injEq]at hl
  subst hl
  rfl
 |succ m =>
  unfold frz
  simp only[hH,List.drop_zero,Z6s hc,hl]
end Go.Abs
end
section
namespace Go.Proofs.YthbimonbnaodkaaGreatDoor.lex
open Go.Abs Go.RowKit Go.Flat
def inb(b:Nat)(ty:TypeId):List AV->AObj
 |[]=>⟨false,b,0,.cells [] ty⟩
 |c::r=>⟨true,b,0,.cells (c::r) ty⟩
def grn(b z:Nat):Nat->AV
 |0=>.nslice
 |n+1=>.slice b 0 (n+1) (n+1) z
def inn(k:Nat)(ty:TypeId)(g:Nat->List AV)(n:Nat):Z00:=(List.range n).map λi=>inb (k+i) ty (g i)
def Z7A(k z:Nat)(len:Nat->Nat)(n:Nat):List AV:=arr (λi=>grn (k+i) z (len i)) n
theorem Z2y{b:Nat}{ty:TypeId}{l:List AV}(h:l≠[]):inb b ty l=⟨true,b,0,.cells l ty⟩:=by
 cases l with
 |nil=>exact (h rfl).elim
 |cons c r=>rfl
theorem Z93{b:Nat}{ty:TypeId}{l:List AV}:(inb b ty l).alive=true ↔ l≠[]:=by
 cases l with
 |nil=>simp[inb]
 |cons c r=>simp[inb]
theorem ZhV{b:Nat}{ty:TypeId}{l:List AV}:(inb b ty l).sh=0:=by cases l<;>rfl
theorem Z4O{b:Nat}{ty:TypeId}{l:List AV}:(inb b ty l).fam=b:=by cases l<;>rfl
theorem Z2Z(k:Nat)(ty:TypeId)(g:Nat->List AV)(n:Nat):(inn k ty g n).length=n:=by simp[inn]
theorem Z9Z(k:Nat)(ty:TypeId)(g:Nat->List AV){n i:Nat}(h:i<n):(inn k ty g n)[i]? = some (inb (k+i) ty (g i)):=by simp[inn,h]
theorem Z2K(k z:Nat)(len:Nat->Nat)(n:Nat):(Z7A k z len n).length=n:=Z2B _ _
theorem Z71(k z:Nat)(len:Nat->Nat){n i:Nat}(h:i<n):(Z7A k z len n)[i]? = some (grn (k+i) z (len i)):=Z8b _ _ _ h
theorem Zhg(k z:Nat)(len:Nat->Nat){n i:Nat}(h:i<n){off:Nat}(e:off=i):tk 1 ((Z7A k z len n).drop off)=some [grn (k+i) z (len i)]:=Z6I _ h e
theorem Z9J(k z n:Nat):Z2D n [AV.nslice]=Z7A k z (λ_=>0) n:=Z2J _ _
def HpGeD(fs:List Nat)(H:Z00)(m:List Nat):List Nat->Z00->Prop
 |[],[]=>True
 |j::l,o2::H2=>(onO H[j]? λo=>(o2.alive=false/\o2.sh=0/\o.sh=0)\/(o.alive=true/\o2.alive=true/\o2.sh=o.sh/\BodyGeZ fs H m o.body o2.body))/\HpGeD fs H m l H2
 |_,_=>False
theorem HpGeD.get{fs:List Nat}{H:Z00}{m:List Nat}:∀{l:List Nat}{H2:Z00},HpGeD fs H m l H2->H2.length=l.length/\∀(b:Nat)(o2:AObj),H2[b]? = some o2->∃ (j:Nat) (o:AObj),l[b]? = some j/\H[j]? = some o/\((o2.alive=false/\o2.sh=0/\o.sh=0)\/(o.alive=true/\o2.alive=true/\o2.sh=o.sh/\BodyGeZ fs H m o.body o2.body))
 |[],[],h=>⟨rfl,λb o2 hb=>by simp at hb⟩
 |j::l,x::H2,h=>by
  obtain⟨h1,h2⟩:=h
  obtain⟨o,ho,e⟩:=Z04 h1
  obtain⟨k1,k2⟩:=h2.get
  refine⟨by simp[k1],λb o2 hb=>?_⟩
  cases b with
  |zero=>simp at hb;subst hb;exact⟨j,o,rfl,ho,e⟩
  |succ b =>
   obtain⟨j',o',x1,x2,x3⟩:=k2 b o2 (by simpa using hb)
   exact⟨j',o',by simpa using x1,x2,x3⟩
 |[],_::_,h=>h.elim
 |_::_,[],h=>h.elim
def Z0G(H:Z00):Z00->List Nat->List Nat
 |o::A,j::l=>cond o.alive (Z0e H j::Z0G H A l) (Z0G H A l)
 |_,_=>[]
theorem Z2z{H:Z00}:∀{A:Z00}{l:List Nat}{b j:Nat}{o:AObj},A[b]? = some o->o.alive=true->l[b]? = some j->Z0e H j∈Z0G H A l
 |[],l,b,j,o,h,_,_=>by simp at h
 |x::A,[],b,j,o,_,_,h=>by simp at h
 |x::A,i::l,0,j,o,h1,h2,h3=>by
  simp at h1 h3;subst h1;subst h3
  simp[Z0G,h2]
 |x::A,i::l,b+1,j,o,h1,h2,h3=>by
  have:=Z2z (H:=H) (A:=A) (l:=l) (b:=b) (j:=j) (by simpa using h1) h2 (by simpa using h3)
  unfold Z0G
  cases x.alive with
  |true=>exact List.mem_cons_of_mem _ this
  |false=>exact this
theorem Z7W{H:Z00}:∀{A:Z00}{l:List Nat},(Z0G H A l).Nodup->∀{b b' j j':Nat}{o o':AObj},A[b]? = some o->o.alive=true->l[b]? = some j->A[b']? = some o'->o'.alive=true->l[b']? = some j'->Z0e H j=Z0e H j'->b=b'
 |[],l,_,b,b',j,j',o,o',h,_,_,_,_,_,_=>by simp at h
 |x::A,[],_,b,b',j,j',o,o',_,_,h,_,_,_,_=>by simp at h
 |x::A,i::l,hn,b,b',j,j',o,o',h1,h2,h3,g1,g2,g3,e=>by
  unfold Z0G at hn
  cases b with
  |zero =>
   cases b' with
   |zero=>rfl
   |succ b' =>
    exfalso
    simp at h1 h3;subst h1;subst h3
    rw[h2]at hn
    simp only[cond_true,Y11]at hn
    exact hn.1 (by rw[e];exact Z2z (by simpa using g1) g2 (by simpa using g3))
  |succ b =>
   have hn2:(Z0G H A l).Nodup:=by
    cases hx:x.alive with
    |true=>rw[hx]at hn;simp only[cond_true,Y11]at hn;exact hn.2
    |false=>rw[hx]at hn;exact hn
   cases b' with
   |zero =>
    exfalso
    simp at g1 g3;subst g1;subst g3
    rw[g2]at hn
    simp only[cond_true,Y11]at hn
    exact hn.1 (by rw[<- e];exact Z2z (by simpa using h1) h2 (by simpa using h3))
   |succ b' =>
    have:=Z7W hn2 (b:=b) (b':=b') (by simpa using h1) h2 (by simpa using h3) (by simpa using g1) g2 (by simpa using g3) e
    omega
theorem HpD.sec {fs ml mi : List Nat} {H A2 : Z00} {k n : Nat} {ty : TypeId} {g : Nat -> List AV} (hA : HpGeD fs H (ml ++ mi) ml A2) (hk : ml.length = k) (hmi : mi.length = n)
  (hI0:∀i,i<n->∃j o,mi[i]? = some j/\H[j]? = some o/\o.sh=0)
  (hI:∀i j,i<n->g i≠[]->mi[i]? = some j->∃o,H[j]? = some o/\o.alive=true/\mem o.fam fs=false/\o.body = .cells (g i) ty)
  (hr:∀i,i<n->refsL (g i) []=[]) (hs:(Z0G H A2 ml).Nodup) (hfs:∀f∈Z0G H A2 ml,mem f fs=false)
  (hf:∀i j,i<n->g i≠[]->mi[i]? = some j->Z0e H j ∉ Z0G H A2 ml)
  (hf2:∀i i' j j',i<n->i'<n->g i≠[]->g i'≠[]->mi[i]? = some j->mi[i']? = some j'->Z0e H j=Z0e H j'->i=i'):HpD fs (ml++mi) H (A2++inn k ty g n):=by
 obtain⟨hl,hg⟩:=hA.get
 have lo:∀b,b<k->(ml++mi)[b]? = ml[b]?:=λb hb=>Y0j (by omega)
 have hi:∀b,¬b<k->(ml++mi)[b]? = mi[b-k]?:=λb hb=>by rw[Y0g (by omega),hk]
 have lo2:∀b,b<k->(A2++inn k ty g n)[b]? = A2[b]?:=λb hb=>Y0j (by omega)
 have hi2:∀b o2,¬b<k->(A2++inn k ty g n)[b]? = some o2->b-k<n/\o2=inb b ty (g (b-k)):=λb o2 hb h=>by
  rw[Y0g (by omega),hl,hk]at h
  have hlt:b-k<n:=by have:=(Y0p.1 h).1;rwa [Z2Z]at this
  rw[Z9Z _ _ _ hlt,Option.some.injEq]at h
  refine⟨hlt,?_⟩
  rw[<- h];congr 1;omega
 refine⟨by simp[hl,hk,hmi,Z2Z],λb o2 hb=>?_,λb b' o2 o2' j j' hb hb' ha ha' hj hj' e=>?_⟩
 · by_cases hlt:b<k
   · rw[lo2 b hlt]at hb
     obtain⟨j,o,x1,x2,x3⟩:=hg b o2 hb
     refine⟨j,o,(lo b hlt).trans x1,x2,λe=>?_,λha=>?_⟩
     · rcases x3 with ⟨_,_,y⟩|⟨_,_,y,_⟩
       ·exact y
       ·omega
     · rcases x3 with ⟨y,_,_⟩|⟨y1,y2,y3,y4⟩
       ·rw[y]at ha;cases ha
       · refine⟨y1,y3,?_,y4⟩
         have:=hfs _ (Z2z hb ha x1)
         have e:Z0e H j=o.fam:=by simp[Z0e,x2]
         rwa [e]at this
   · obtain⟨h1,rfl⟩:=hi2 b o2 hlt hb
     obtain⟨j,o,x1,x2,x3⟩:=hI0 _ h1
     refine⟨j,o,(hi b hlt).trans x1,x2,λ_=>x3,λha=>?_⟩
     rw[Z93]at ha
     obtain⟨o',y1,y2,y3,y4⟩:=hI _ j h1 ha x1
     rw[x2]at y1;cases y1
     refine⟨y2,by rw[ZhV,x3],y3,?_⟩
     rw[Z2y ha,y4]
     exact Y05 (Y02 (rest:=[]) (by simp) (hr _ h1))
 · by_cases hlt:b<k
   · rw[lo b hlt]at hj
     rw[lo2 b hlt]at hb
     by_cases hlt':b'<k
     · rw[lo b' hlt']at hj'
       rw[lo2 b' hlt']at hb'
       exact Z7W hs hb ha hj hb' ha' hj' e
     · obtain⟨h1,rfl⟩:=hi2 b' o2' hlt' hb'
       rw[hi b' hlt']at hj'
       rw[Z93]at ha'
       exact absurd (by rw[<- e];exact Z2z hb ha hj) (hf _ j' h1 ha' hj')
   · obtain⟨h1,rfl⟩:=hi2 b o2 hlt hb
     rw[hi b hlt]at hj
     rw[Z93]at ha
     by_cases hlt':b'<k
     · rw[lo b' hlt']at hj'
       rw[lo2 b' hlt']at hb'
       exact absurd (by rw[e];exact Z2z hb' ha' hj') (hf _ j h1 ha hj)
     · obtain⟨h1',rfl⟩:=hi2 b' o2' hlt' hb'
       rw[hi b' hlt']at hj'
       rw[Z93]at ha'
       have:=hf2 _ _ j j' h1 h1' ha ha' hj hj' e
       omega
theorem HpD.of{fs m:List Nat}{H A2:Z00}(hA:HpGeD fs H m m A2)(hs:(Z0G H A2 m).Nodup)(hfs:∀f∈Z0G H A2 m,mem f fs=false):HpD fs m H A2:=by
 have h:=HpD.sec (mi:=[]) (n:=0) (k:=m.length) (ty:=0) (g:=λ_=>[]) (by rw[Y03];exact hA) rfl rfl (λi hi=>absurd hi (Y0z _)) (λi j hi=>absurd hi (Y0z _)) (λi hi=>absurd hi (Y0z _)) hs hfs (λi j hi=>absurd hi (Y0z _)) (λi i' j j' hi=>absurd hi (Y0z _))
 simpa[inn]using h
theorem Z0u{H:Z00}{j:Nat}{o:AObj}(h:H[j]? = some o):Z0e H j=o.fam:=by unfold Z0e;rw[h]
theorem HpD.start {fs ml : List Nat} {H A2 : Z00} {k n : Nat} {ty : TypeId} (hA : HpGeD fs H (ml ++ List.replicate n 0) ml A2) (hk : ml.length = k) (h0 : ∃ o, H[0]? = some o /\ o.sh = 0)
  (hs:(Z0G H A2 ml).Nodup) (hfs:∀f∈Z0G H A2 ml,mem f fs=false):HpD fs (ml++List.replicate n 0) H (A2++inn k ty (λ_=>[]) n):=by
 obtain⟨o,h1,h2⟩:=h0
 refine HpD.sec hA hk (by simp) (λi hi=>⟨0,o,by simp[hi],h1,h2⟩) (λi j _ h=>(h rfl).elim) (λ_ _=>rfl) hs hfs (λi j _ h=>(h rfl).elim) (λi i' j j' _ _ h=>(h rfl).elim)
structure Sec (H:Z00) (k n:Nat) (ty:TypeId) (g:Nat->List AV):Prop where
 get:∀i,i<n->H[k+i]? = some (inb (k+i) ty (g i))
theorem HpD.stay {ml : List Nat} {H A2 : Z00} {k n : Nat} {ty : TypeId} {g : Nat -> List AV} (hS : Sec H k n ty g) (hA : HpGeD [] H (ml ++ List.range' k n) ml A2) (hk : ml.length = k) (hr : ∀ i, i < n -> refsL (g i) [] = [])
  (hs:(Z0G H A2 ml).Nodup) (hm:∀f∈Z0G H A2 ml,f<k\/k+n<=f):HpD [] (ml++List.range' k n) H (A2++inn k ty g n):=by
 have at_:∀i j,i<n->(List.range' k n)[i]? = some j->j=k+i:=λi j hi h=>by rw[Y0t hi,Option.some.injEq]at h;omega
 refine HpD.sec hA hk (by simp) (λi hi=>⟨k+i,_,by rw[Y0t hi];simp,hS.get i hi,ZhV⟩) (λi j hi hne hj=>?_) hr hs (λ_ _=>rfl) (λi j hi hne hj=>?_) (λi i' j j' hi hi' hne hne' hj hj' e=>?_)
 · obtain rfl:=at_ i j hi hj
   exact⟨_,hS.get i hi,Z93.2 hne,rfl,by rw[Z2y hne]⟩
 · obtain rfl:=at_ i j hi hj
   intro hx
   have:=hm _ hx
   rw[Z0u (hS.get i hi),Z4O]at this
   omega
 · obtain rfl:=at_ i j hi hj
   obtain rfl:=at_ i' j' hi' hj'
   rw[Z0u (hS.get i hi),Z0u (hS.get i' hi'),Z4O,Z4O]at e
   omega
theorem HpD.grow {ml : List Nat} {H A2 : Z00} {k n i n1 f : Nat} {ty : TypeId} {g : Nat -> List AV} {cs : List AV} (hS : Sec H k n ty g) (hi : i < n) (hA : HpGeD [] H (ml ++ (List.range' k n).set i n1) ml A2) (hk : ml.length = k) (hr : ∀ i, i < n -> refsL (g i) [] = [])
  (hcs:refsL cs []=[]) (h1:H[n1]? = some ⟨true,f,0,.cells cs ty⟩) (hf:f=k+i\/k+n<=f) (hs:(Z0G H A2 ml).Nodup) (hm:∀x∈Z0G H A2 ml,(x<k\/k+n<=x)/\x≠f):HpD [] (ml++(List.range' k n).set i n1) H (A2++inn k ty (upd g i cs) n):=by
 have at_:∀a j,a<n->((List.range' k n).set i n1)[a]? = some j->(a=i/\j=n1)\/(a≠i/\j=k+a):=λa j ha h=>by
  rw[Y0A]at h
  by_cases e:i=a
  ·rw[if_pos e,if_pos (by simp;omega),Option.some.injEq]at h;exact .inl ⟨e.symm,h.symm⟩
  ·rw[if_neg e,Y0t ha,Option.some.injEq]at h;exact .inr ⟨λh=>e h.symm,by omega⟩
 have fam_:∀a j,a<n->((List.range' k n).set i n1)[a]? = some j->Z0e H j=if a=i then f else k+a:=λa j ha h=>by
  rcases at_ a j ha h with ⟨rfl,rfl⟩|⟨h2,rfl⟩
  ·rw[Z0u h1,if_pos rfl]
  ·rw[Z0u (hS.get a ha),Z4O,if_neg h2]
 refine HpD.sec hA hk (by simp) (λa ha=>?_) (λa j ha hne hj=>?_) (λa ha=>?_) hs (λ_ _=>rfl) (λa j ha hne hj hx=>?_) (λa a' j j' ha ha' hne hne' hj hj' e=>?_)
 · have hl:a<((List.range' k n).set i n1).length:=by simpa using ha
   have hg:=Y0y hl
   rcases at_ a _ ha hg with ⟨rfl,h2⟩|⟨h2,h3⟩
   ·exact⟨_,_,hg,by rw[h2];exact h1,rfl⟩
   ·exact⟨_,_,hg,by rw[h3];exact hS.get a ha,ZhV⟩
 · rcases at_ a j ha hj with ⟨rfl,rfl⟩|⟨h2,rfl⟩
   ·rw[Z0b];exact⟨_,h1,rfl,rfl,rfl⟩
   ·rw[Z09 h2]at hne⊢;exact⟨_,hS.get a ha,Z93.2 hne,rfl,by rw[Z2y hne]⟩
 · by_cases e:a=i
   ·subst e;rw[Z0b];exact hcs
   ·rw[Z09 e];exact hr a ha
 · have:=hm _ hx
   rw[fam_ a j ha hj]at this
   split at this<;>omega
 · rw[fam_ a j ha hj,fam_ a' j' ha' hj']at e
   split at e<;>split at e<;>omega
theorem ZjX{ml mi:List Nat}{k:Nat}(h:ml.length=k)(i:Nat):(ml++mi)[k+i]? = mi[i]?:=by
 subst h
 rw[Y0g (by omega),Nat.add_sub_cancel_left]
theorem Wk.nil{m:List Nat}:Wk m .nslice .nslice:=Y0m rfl
theorem Zlh{m:List Nat}{b z n:Nat}(h:m[b]? = some b):Wk m (grn b z n) (grn b z n):=by
 cases n with
 |zero=>exact Wk.nil
 |succ n=>exact Y0d h rfl rfl (Y01 _) (Y01 _) rfl
theorem Z46{m:List Nat}{k z n:Nat}{len:Nat->Nat}{t:TypeId}(hm:∀i,i<n->m[k+i]? = some (k+i)):BodyGe m (.cells (Z7A k z len n) t) (.cells (Z7A k z len n) t):=by
 refine⟨rfl,Y01 _,λi c hc=>?_⟩
 have hi:i<n:=by have:=(Y0p.1 hc).1;rwa [Z2K]at this
 rw[Z71 _ _ _ hi,Option.some.injEq]at hc
 subst hc
 exact⟨_,Z71 _ _ _ hi,Zlh (hm i hi)⟩
theorem Zb4 {m : List Nat} {k z n i n1 l c : Nat} {len : Nat -> Nat} {t : TypeId} (hi : i < n) (hm : ∀ a, a < n -> a ≠ i -> m[k + a]? = some (k + a)) (h1 : m[k + i]? = some n1) (hl : 0 < l) (hc : l <= c) :
  BodyGe m (.cells ((Z7A k z len n).set i (.slice n1 0 l c z)) t) (.cells (Z7A k z (upd len i l) n) t):=by
 refine⟨rfl,by rw[List.length_set,Z2K,Z2K];exact Y01 _,λa c2 hc2=>?_⟩
 have ha:a<n:=by have:=(Y0p.1 hc2).1;rwa [Z2K]at this
 rw[Z71 _ _ _ ha,Option.some.injEq]at hc2
 subst hc2
 by_cases e:a=i
 · subst e
   refine⟨.slice n1 0 l c z,by rw[Y0A];simp[Z2K,ha],?_⟩
   rw[Z0b]
   cases l with
   |zero=>omega
   |succ l=>exact Y0d h1 rfl rfl (Y01 _) hc rfl
 · refine⟨grn (k+a) z (len a),by rw[Y0A,if_neg (λh=>e h.symm),Z71 _ _ _ ha],?_⟩
   rw[Z09 e]
   exact Zlh (hm a ha e)
theorem ZaY{k n i n1 a:Nat}(ha:a<n)(e:a≠i):((List.range' k n).set i n1)[a]? = some (k+a):=by
 rw[Y0A,if_neg (λh=>e h.symm),Y0t ha];simp
theorem Z7s{k n i n1:Nat}(hi:i<n):((List.range' k n).set i n1)[i]? = some n1:=by
 rw[Y0A,if_pos rfl,if_pos (by simpa using hi)]
def frn(z n:Nat)(l:List AV):AV:=match n with|0=>.nslice|m+1=>.rs (m+1) z l
theorem Zkq{f:AV->Option AV}{a b:Nat->AV}:∀{n:Nat},(∀i,i<n->f (a i)=some (b i))->Z0T f (arr a n)=some (arr b n):=by
 intro n h
 have key:∀l:List Nat,(∀i∈l,f (a i)=some (b i))->Z0T f (l.map a)=some (l.map b):=by
  intro l
  induction l with
  |nil=>intro _;rfl
  |cons x l ih =>
   intro h
   have h1:=h x (by simp)
   have h2:=ih λi hi=>h i (by simp[hi])
   simp only[Y0w,Z0T,h1,h2]
 exact key _ λi hi=>h i (Y0h.1 hi)
theorem Zbx {H : Z00} {d o f k z n cap : Nat} {ty t : TypeId} {g : Nat -> List AV} {len : Nat -> Nat} (hH : H[o]? = some ⟨true, f, 0, .cells (Z7A k z len n) t⟩) (hS : ∀ i, i < n -> len i ≠ 0 -> ∃ f', H[k + i]? = some ⟨true, f', 0, .cells (g i) ty⟩)
  (hl:∀i,i<n->(g i).length=len i*z) (hg:∀i,i<n->(g i).all lit=true):frz H (d+3) (.slice o 0 n cap 1)=some (.rs n 1 (arr (λi=>frn z (len i) (g i)) n)):=by
 refine Zi0 hH (by rw[Z2K,Y0o]) (Zkq λi hi=>?_)
 cases e:len i with
 |zero=>rfl
 |succ m =>
  obtain⟨f',h1⟩:=hS i hi (by omega)
  have h2:=hl i hi
  rw[e]at h2
  exact Z1e h1 h2 (hg i hi)
theorem ZaE:∀l:List AV,l.all lit=true->wkVL l l=true
 |[],_=>rfl
 |u::l,h=>by
  simp only[List.all_cons,Y04]at h
  simp only[wkVL,Y04]
  refine⟨?_,ZaE l h.2⟩
  cases u<;>simp[lit]at h<;>simp[wkV,veq]
theorem Z9u{z n:Nat}{g:Nat->List AV}{len:Nat->Nat}(hl:∀i,i<n->(g i).length=len i*z)(hg:∀i,i<n->(g i).all lit=true):wkV (.rs n 1 (arr (λi=>frn z (len i) (g i)) n)) (.rs n 1 (arr (λi=>.rs (len i) z (g i)) n))=true:=by
 simp only[wkV,Nat.beq_refl,Y08]
 have key:∀l:List Nat,(∀i∈l,i<n)->wkVL (l.map λi=>frn z (len i) (g i)) (l.map λi=>.rs (len i) z (g i))=true:=by
  intro l
  induction l with
  |nil=>intro _;rfl
  |cons x l ih =>
   intro h
   have hx:=h x (by simp)
   simp only[Y0w,wkVL,Y04]
   refine⟨?_,ih λi hi=>h i (by simp[hi])⟩
   have h1:=hl x hx
   cases e:len x with
   |zero =>
    rw[e,Nat.zero_mul]at h1
    rw[List.length_eq_zero_iff.1 h1]
    rfl
   |succ m=>simp only[frn,wkV,Nat.beq_refl,Y08];exact ZaE _ (hg x hx)
 exact key _ λi hi=>Y0h.1 hi
theorem Z3e{fs:List Nat}{H:Z00}{b:Nat}{o:AObj}(h:H[b]? = some o)(hm:mem o.fam fs=true):(ZfL fs H)[b]? = some o:=by
 unfold ZfL
 rw[Z2Y,h]
 simp[hm]
end Go.Proofs.YthbimonbnaodkaaGreatDoor.lex
end
section
namespace Go.Proofs.YthbimonbnaodkaaGreatDoor.lex
open Go.Abs Go.RowKit Go.Flat
def sec(A T E:Z00):Z00:=A++(T++E)
theorem Z4E{n m:Nat}{k:Nat->Prop}(e:n=m)(h:k m):frcNP n k:=by rw[Z1t,e];exact h
theorem Z9G{A T E:Z00}{n:Nat}(h:A.length+T.length+E.length=n):(sec A T E).length=n:=by simp[sec];omega
theorem Z08{A T E:Z00}{j:Nat}{o:AObj}(h:A[j]? = some o):(sec A T E)[j]? = some o:=by
 unfold sec;rw[Y0j (Y0p.1 h).1];exact h
theorem ZcH{A T E:Z00}{k i:Nat}{o:AObj}(hk:A.length=k)(h:T[i]? = some o):(sec A T E)[k+i]? = some o:=by
 subst hk
 unfold sec
 rw[Y0g (by omega),Nat.add_sub_cancel_left,Y0j (Y0p.1 h).1]
 exact h
theorem Zea{A T E:Z00}{n e:Nat}{o:AObj}(hn:A.length+T.length+e=n)(h:E[e]? = some o):(sec A T E)[n]? = some o:=by
 subst hn
 unfold sec
 rw[Y0g (by omega),Y0g (by omega),show A.length+T.length+e-A.length-T.length=e from by omega]
 exact h
theorem ZgX{A T E:Z00}(o:AObj):sec A T E++[o]=sec A T (E++[o]):=by simp[sec]
theorem ZcG{A T E:Z00}{n:Nat}{cs:List AV}{ty:TypeId}(hn:A.length+T.length+E.length=n):Z1s (sec A T E) cs ty=sec A T (E++[⟨true,n,0,.cells cs ty⟩]):=by
 unfold Z1s
 rw[Z9G hn,ZgX]
theorem ZgY{A T E:Z00}{i:Nat}{o:AObj}(h:(sec A T E)[i]? = some o):A[i]? = some o\/o∈T\/o∈E:=by
 unfold sec at h
 by_cases hi:i<A.length
 ·rw[Y0j hi]at h;exact .inl h
 · rw[Y0g (by omega)]at h
   exact .inr (Y0e.1 (Y0P h))
theorem ZgV{A T E:Z00}{b f:Nat}{o':AObj}(hb:b<A.length)(hA:Go.Abs.lone f b 0 A=true)(hT:∀o∈T,o.fam≠f)(hE:∀o∈E,o.fam≠f):(Z3T b f (sec A T E)).set b o'=sec (A.set b o') T E:=by
 rw[Z9t λi o hi hne=>by
  rcases ZgY hi with h|h|h
  · rcases Go.Abs.lone_get hA h with h1|h1
    ·omega
    ·exact h1
  ·exact hT o h
  ·exact hE o h]
 unfold sec
 rw[List.set_append_left _ _ hb]
theorem Zjx{A T E:Z00}{n e f:Nat}{o':AObj}(hn:A.length+T.length+e=n)(he:e<E.length)(hA:∀o∈A,o.fam≠f)(hT:∀o∈T,o.fam≠f)(hE:Go.Abs.lone f e 0 E=true):(Z3T n f (sec A T E)).set n o'=sec A T (E.set e o'):=by
 subst hn
 rw[Z9t λi o hi hne=>by
  by_cases h1:i<A.length
  · have:A[i]? = some o:=by unfold sec at hi;rwa [Y0j h1]at hi
    exact hA o (Y0P this)
  · by_cases h2:i<A.length+T.length
    · have:T[i-A.length]? = some o:=by unfold sec at hi;rwa [Y0g (by omega),Y0j (by omega)]at hi
      exact hT o (Y0P this)
    · have h3:E[i-A.length-T.length]? = some o:=by unfold sec at hi;rwa [Y0g (by omega),Y0g (by omega)]at hi
      rcases Go.Abs.lone_get hE h3 with h4|h4
      ·omega
      ·exact h4]
 unfold sec
 rw[List.set_append_right _ _ (by omega),List.set_append_right _ _ (by omega),show A.length+T.length+e-A.length-T.length=e from by omega]
def Znq(k:Nat)(A:Z00):Bool:=A.all λo=>Nat.blt o.fam k
theorem Zif{k f:Nat}{A:Z00}(h:Znq k A=true)(hf:k<=f):∀o∈A,o.fam≠f:=λo ho=>by
 have:=Y0x.1 h o ho
 simp only[Nat.blt_eq]at this
 omega
theorem ZcZ{k n:Nat}{ty:TypeId}{g:Nat->List AV}:∀o∈inn k ty g n,k<=o.fam/\o.fam<k+n:=λo ho=>by
 simp only[inn,List.mem_map,Y0h]at ho
 obtain⟨i,hi,rfl⟩:=ho
 rw[Z4O];omega
theorem SlotsGe.w{fs:List Nat}{H:Z00}{m:List Nat}{t:Tr}:∀{l:List (Nat×AV)},SlotsGe m t l->SlotsGeW fs H m t l
 |[],_=>trivial
 |(n,u)::l,h=>by
  refine⟨?_,SlotsGe.w h.2⟩
  obtain⟨v,e1,e2⟩:=Z04 h.1
  exact Z13 e1 (WkW.wk e2)
theorem Sec.of{A E:Z00}{k n:Nat}{ty:TypeId}{g:Nat->List AV}(hk:A.length=k):Sec (sec A (inn k ty g n) E) k n ty g:=⟨λi hi=>ZcH hk (Z9Z _ _ _ hi)⟩
theorem ZhY {P : Program} {t t2 e : TypeId} {z by_ : Nat} (hT : Z7e P t t2 = some (e, z, by_)) {A E : Z00} {k i n n0 N len : Nat} {g : Nat -> List AV} {x : AV} {xs : List AV} (hx : Z0U (sec A (inn k e g n) E) z x = some (n0, xs)) (hn0 : n0 ≠ 0) (hk : A.length = k) (hi : i < n) (hN : k + n + E.length = N) (hl : (g i).length = len * z) (hz : z ≠ 0)
  (ho:xs.all Go.Abs.one=true) (hs:len+n0<=1099511627776/\(len+n0)*by_<=70368744177664) (hA:Znq k A=true) (hE:∀o∈E,k+n<=o.fam) :
  Z16 P t t2 (grn (k+i) z len) x (sec A (inn k e g n) E)=some (.slice N 0 (len+n0) (len+n0) z,sec A (inn k e g n) (E++[⟨true,if len=0 then N else k+i,0,.cells (g i++xs) e⟩])):=by
 have hlen:(sec A (inn k e g n) E).length=N:=Z9G (by rw[hk,Z2Z,hN])
 cases len with
 |zero =>
  rw[Nat.zero_mul]at hl
  rw[List.length_eq_zero_iff.1 hl]
  rw[Y0N]at hs
  have:=Zan hT hx hn0 hs
  show Z16 P t t2 .nslice x _=_
  rw[this,hlen]
  simp only[Y0N,Y0s,Option.some.injEq,Prod.mk.injEq,true_and,if_true]
  exact ZcG (by rw[hk,Z2Z];omega)
 |succ m =>
  rw[if_neg (Nat.succ_ne_zero m)]
  have hne:g i≠[]:=λe0=>by rw[e0,Nat.succ_mul]at hl;simp only[Y0c]at hl;omega
  have hb:(sec A (inn k e g n) E)[k+i]? = some ⟨true,k+i,0,.cells (g i) e⟩:=by
   rw[ZcH hk (Z9Z _ _ _ hi),Z2y hne]
  have hek:ZfX (k+i) (g i).length (sec A (inn k e g n) E)=sec A (inn k e g n) E:=Z4U λo ho hf=>by
   obtain⟨j,hj⟩:=List.getElem?_of_mem ho
   rcases ZgY hj with h|h|h
   ·exact absurd hf (Zif hA (Nat.le_add_right k i) o (Y0P h))
   · simp only[inn,List.mem_map,Y0h]at h
     obtain⟨a,ha,rfl⟩:=h
     rw[Z4O]at hf
     have:a=i:=by omega
     subst this
     rw[Z2y hne]
     simp[ABody.len]
   ·have:=hE o h;omega
  have:=Z1m (cap:=m+1) hT hx hb hek hl ho hn0 hs
  show Z16 P t t2 (.slice (k+i) 0 (m+1) (m+1) z) x _=_
  rw[this,hlen,ZgX]
section one
variable {a:AObj} {T E:Z00} {n:Nat}
theorem Zhj(h:1+T.length+E.length=n):(sec [a] T E).length=n:=Z9G (by simpa using h)
theorem Zmb{cs:List AV}{ty:TypeId}(h:1+T.length+E.length=n):Z1s (sec [a] T E) cs ty=sec [a] T (E++[⟨true,n,0,.cells cs ty⟩]):=ZcG (by simpa using h)
theorem Zma{A':Z00}{o':AObj}(hA:Go.Abs.lone 0 0 0 [a]=true)(hT:∀o∈T,1<=o.fam)(hE:∀o∈E,1<=o.fam)(e':[a].set 0 o'=A'):(Z3T 0 0 (sec [a] T E)).set 0 o'=sec A' T E:=by
 rw[ZgV (by simp) hA (λo ho=>by have:=hT o ho;omega) (λo ho=>by have:=hE o ho;omega),e']
theorem Zp3{fm:Nat}{u:AV}{ty:TypeId}(h:1+T.length=n):Z0U (sec [a] T [⟨true,fm,0,.cells [u] ty⟩]) 1 (.slice n 0 1 1 1)=some (1,[u]):=by
 have h1:(sec [a] T [⟨true,fm,0,.cells [u] ty⟩])[n]? = some ⟨true,fm,0,.cells [u] ty⟩:=Zea (e:=0) (by simpa using h) rfl
 simp only[Z0U,rd,h1]
 rfl
theorem ZnP{i:Nat}{o:AObj}(h:1+T.length+i=n)(ho:E[i]? = some o):(sec [a] T E)[n]? = some o:=Zea (by simpa using h) ho
end one
theorem ZgW(A T:Z00):sec A T []=A++T:=by simp[sec]
theorem ZpT:([]:Z00).length=0:=rfl
theorem ZpS(a:AObj):[a].length=1:=rfl
theorem len2(a b:AObj):[a,b].length=2:=rfl
theorem ZpR(a b c:AObj):[a,b,c].length=3:=rfl
theorem ZpQ(a b c d:AObj):[a,b,c,d].length=4:=rfl
theorem nb0(cs:List AV)(ty:TypeId):Z1s [] cs ty=[⟨true,0,0,.cells cs ty⟩]:=rfl
theorem nb4(a b c d:AObj)(cs:List AV)(ty:TypeId):Z1s [a,b,c,d] cs ty=[a,b,c,d,⟨true,4,0,.cells cs ty⟩]:=rfl
theorem ap1(a b:AObj):[a]++[b]=[a,b]:=rfl
theorem ap2(a b c:AObj):[a,b]++[c]=[a,b,c]:=rfl
theorem ap3(a b c d:AObj):[a,b,c]++[d]=[a,b,c,d]:=rfl
section six
variable {a b c d e f:AObj} {T E:Z00} {n:Nat}
theorem Zcz(h:6+T.length+E.length=n):(sec [a,b,c,d,e,f] T E).length=n:=Z9G (by simpa using h)
theorem Zcy{cs:List AV}{ty:TypeId}(h:6+T.length+E.length=n):Z1s (sec [a,b,c,d,e,f] T E) cs ty=sec [a,b,c,d,e,f] T (E++[⟨true,n,0,.cells cs ty⟩]):=ZcG (by simpa using h)
theorem Zjt{x x':AObj}(h:6+T.length=n)(hA:Znq 6 [a,b,c,d,e,f]=true)(hT:∀o∈T,o.fam<n)(hx:x.fam=n):(Z3T n x.fam (sec [a,b,c,d,e,f] T [x])).set n x'=sec [a,b,c,d,e,f] T [x']:=by
 rw[hx]
 exact Zjx (e:=0) (by simpa using h) (by simp) (Zif hA (by omega)) (λo ho=>by have:=hT o ho;omega) (by simp[Go.Abs.lone])
theorem Z9C{q:Nat}{A':Z00}{o':AObj}(hq:q<6)(hA:Go.Abs.lone q q 0 [a,b,c,d,e,f]=true)(hT:∀o∈T,6<=o.fam)(hE:∀o∈E,6<=o.fam)(e':[a,b,c,d,e,f].set q o'=A'):(Z3T q q (sec [a,b,c,d,e,f] T E)).set q o'=sec A' T E:=by
 rw[ZgV (by simpa using hq) hA (λo ho=>by have:=hT o ho;omega) (λo ho=>by have:=hE o ho;omega),e']
theorem ZoW{fm:Nat}{u:AV}{ty:TypeId}(h:6+T.length=n):Z0U (sec [a,b,c,d,e,f] T [⟨true,fm,0,.cells [u] ty⟩]) 1 (.slice n 0 1 1 1)=some (1,[u]):=by
 have h1:(sec [a,b,c,d,e,f] T [⟨true,fm,0,.cells [u] ty⟩])[n]? = some ⟨true,fm,0,.cells [u] ty⟩:=Zea (e:=0) (by simpa using h) rfl
 simp only[Z0U,rd,h1]
 rfl
theorem ZgK{i:Nat}{o:AObj}(h:6+T.length+i=n)(ho:E[i]? = some o):(sec [a,b,c,d,e,f] T E)[n]? = some o:=Zea (by simpa using h) ho
end six
theorem Z8L{a b c c':AObj}{f:Nat}(h:Go.Abs.lone f 2 0 [a,b,c]=true):(Z3T 2 f [a,b,c]).set 2 c'=[a,b,c']:=by
 rw[Z9t λi o hi hne=>(Go.Abs.lone_get h hi).elim (λe=>by omega) id]
 rfl
theorem ZgA {P : Program} {t t2 e : TypeId} {by_ : Nat} (hT : Z7e P t t2 = some (e, 1, by_)) {a c : AObj} {cs xs : List AV} {len n : Nat} (ha : a.fam ≠ 1) (hc : c.fam ≠ 1) (hl : cs.length = len) (hn : n ≠ 0) (ho : xs.all Go.Abs.one = true) (hs : len + n <= 1099511627776 /\ (len + n) * by_ <= 70368744177664) :
  Z16 P t t2 (.slice 1 0 len len 1) (.rs n 1 xs) [a,⟨true,1,0,.cells cs e⟩,c]=some (.slice 3 0 (len+n) (len+n) 1,[a,⟨true,1,0,.cells cs e⟩,c,⟨true,1,0,.cells (cs++xs) e⟩]):=by
 rw[Z1m (H:=[a,⟨true,1,0,.cells cs e⟩,c]) (b:=1) (f:=1) (cs:=cs) (xs:=xs) (cap:=len) hT rfl rfl (Z34 ⟨.inl ha,.inr (by simp[ABody.len]),.inl hc,trivial⟩) (by omega) ho hn hs]
 rfl
theorem ZbO{c:Prop}{i:Decidable c}{B:¬c->Prop}{A:c->Prop}(h:c)(a:A h):Decidable.rec (motive:=λ_=>Prop) B A i:=by
 cases i with
 |isTrue h'=>exact a
 |isFalse h'=>exact absurd h h'
theorem Zdq{a b:Bool}(h:a=true)(k:b=true):(a&&b)=true:=by rw[h,k];rfl
theorem Zor{n:Nat}:Nat.ble n n=true:=Y12 (Y01 _)
theorem ZjN{a a':AObj}{T E:Z00}:Nat.ble (sec [a] T E).length (sec [a'] T E).length=true:=Y12 (by simp[sec])
theorem Zmc{a a':AObj}{T:Z00}{x x' y:AObj}:Nat.ble (sec [a] T [x]).length (sec [a'] T [x',y]).length=true:=Y12 (by simp[sec])
theorem ZhB{n:Nat}:Z0J n []=true:=rfl
theorem ZhC{n x:Nat}{l:List Nat}(h:x<n)(k:Z0J n l=true):Z0J n (x::l)=true:=by
 have h':Nat.blt x n=true:=by rw[Nat.blt_eq];exact h
 show (Nat.blt x n&&Z0J n l)=true
 rw[h',k];rfl
theorem ZcT{a:AObj}{T E:Z00}{n m:Nat}(e:Nat){l:List Nat}(h:1+T.length=n)(he:E.length=e)(hm:m=n+e)(k:Z0J m l=true):Z0J (sec [a] T E).length l=true:=by
 rw[Zhj (n:=m) (by omega)];exact k
end Go.Proofs.YthbimonbnaodkaaGreatDoor.lex
end
section
namespace Go.Proofs.YthbimonbnaodkaaGreatDoor.lex
open Go.Abs Go.RowKit Go.Flat
theorem Zmn{m:Nat}(h0:0<m)(h1:m<4294967296):∃t q,t<32/\m=2 ^ t*(2*q+1):=by
 obtain⟨q,h2,h3⟩:=Lib.ctzFrom_spec 32 m h0 h1
 exact⟨_,q,h3,h2⟩
theorem Zfk{m:Nat}(h0:0<m)(h1:m<4294967296):IntKind.u32.wrap (0-(m:Int))=((4294967296-m:Nat):Int):=by
 simp only[IntKind.wrap,IntKind.signed,IntKind.bits]
 simp
 omega
def tzX(t:Nat):Nat:=2 ^ t*125613361 % 4294967296 / 134217728
theorem ZnC:∀t,t<32->tzX t<32/\(IntKind.u32.wrap (((2 ^ t:Nat):Int)*125613361)).fdiv (2 ^ min (Int.toNat 27) IntKind.u32.bits)=((tzX t:Nat):Int):=by decide +kernel
theorem ZlM:((List.range 32).all λt=>match tk 1 (runLives.tbl0.drop (tzX t*1)) with|some [u]=>veq u (.int .u8 (t:Nat))|_=>false)=true:=by kernel_rfl
theorem ZnE{t:Nat}(ht:t<32):tk 1 (runLives.tbl0.drop (tzX t*1))=some [.int .u8 (t:Nat)]:=by
 have h:=Y0x.1 ZlM t (Y0h.2 ht)
 split at h
 ·rename_i u e;rw[e,Z8D _ _ h]
 ·cases h
theorem ZoR{t q:Nat}(ht:t<32)(hm:2 ^ t*(2*q+1)<4294967296):ValOK Y00 runLives.gl 101 [.int .u32 (2 ^ t*(2*q+1):Nat)] (.int .i64 (t:Nat)):=by
 have hp:0<2 ^ t:=Nat.two_pow_pos t
 have h0:0<2 ^ t*(2*q+1):=Nat.mul_pos hp (by omega)
 have hneg:=Zfk h0 hm
 have hand:=u32_and_nat (2 ^ t*(2*q+1)) (4294967296-2 ^ t*(2*q+1)) hm (by omega)
 rw[Lib.and_neg 32 t q hm,<- hneg]at hand
 obtain⟨hi1,hi2⟩:=ZnC t ht
 rw[<- hand]at hi2
 have htab:=ZnE ht
 generalize tzX t=ix at *
 generalize 2 ^ t*(2*q+1)=m at *
 have e0:((m:Int)==0)=false:=by simp;omega
 have hcv:IntKind.i64.wrap ((t:Nat):Int)=((t:Nat):Int):=Z2r (by omega) (by omega)
 refine Z05 follows Z07 Z06 Tryz.func101 rfl ?_
 repeat' ((conv=>whnf);first|(with_reducible refine ixJ ix hi2 hi1 ?_)|refine exI htab ?_|refine stp ?_|with_reducible apply Z01<;>intro h)
 show AV.int _ _=AV.int _ _
 rw[hcv]
end Go.Proofs.YthbimonbnaodkaaGreatDoor.lex
end
section
namespace Go.Proofs.YthbimonbnaodkaaGreatDoor.lex
open Go.Abs Go.RowKit Go.Flat
variable {gl:Z0o}
def Z3N(f:Nat->Nat)(n:Nat):List AV:=arr (λv=>.int .u32 (f v:Nat)) n
def Zhv(f:Nat->Nat)(n:Nat):List AV:=arr (λv=>.int .i64 (f v:Nat)) n
def lvX:AObj:=⟨false,5,0,.cells [] 0⟩
def lvI(i:Ins):AObj:=⟨true,5,0,.cells (icells i) 37⟩
def lvA(regs:Int)(l:List Ins)(uf sf:Nat->Nat)(af:Nat->List Nat)(wf:Nat->Nat)(b:AObj):Z00 :=
 [⟨true,0,0,.cells [.int .i64 regs,.rs l.length 6 (inC l)] 24⟩,⟨true,1,0,.cells (Z3N uf l.length) 145⟩,⟨true,2,0,.cells (Z3N sf l.length) 145⟩,⟨true,3,0,.cells (Z7A 6 1 (λv=>(af v).length) l.length) 31⟩,⟨true,4,0,.cells (Zhv wf l.length) 3⟩,b]
def lvT(af:Nat->List Nat)(n:Nat):Z00:=inn 6 3 (λv=>nis (af v)) n
theorem Z23(f:Nat->Nat)(n:Nat):refsL (Z3N f n) []=[]:=Z4x (λ_=>rfl) n
theorem Zhu(f:Nat->Nat)(n:Nat):refsL (Zhv f n) []=[]:=Z4x (λ_=>rfl) n
theorem ZdY(f:Nat->Nat)(n:Nat):Z2D n [.int .u32 0]=Z3N (fil 0 f 0) n:=by rw[Z2J];simp[Z3N,fil]
theorem ZjW(f:Nat->Nat)(n:Nat):Z2D n [.int .i64 0]=Zhv (fil 0 f 0) n:=by rw[Z2J];simp[Zhv,fil]
theorem Zes(nx:Nat->List Nat)(n:Nat):Z2D n [AV.nslice]=Z7A 6 1 (λv=>(aF nx 0 v).length) n:=by rw[Z9J 6 1];simp[aF]
theorem Zk2(nx:Nat->List Nat)(n:Nat):lvT (aF nx 0) n=inn 6 3 (λ_=>[]) n:=by unfold lvT;simp[aF,nis]
theorem Z8W(k z:Nat)(n:Nat):refsL (Z7A k z (λ_=>0) n) []=[]:=Z4x (λ_=>rfl) n
theorem ZfP {H : Z00} {m r : List Nat} {b5 : Nat} {regs : Int} {l : List Ins} {uf sf wf : Nat -> Nat} {af : Nat -> List Nat} {c1 c2 c3 c4 : List AV} {f0 f1 f2 f3 f4 : Nat} {B : AObj} (hm : m = 0 :: 1 :: 2 :: 3 :: 4 :: r) (h0 : H[0]? = some ⟨true, f0, 0, .cells [.int .i64 regs, .rs l.length 6 (inC l)] 24⟩)
  (h1:H[1]? = some ⟨true,f1,0,.cells c1 145⟩) (h2:H[2]? = some ⟨true,f2,0,.cells c2 145⟩) (h3:H[3]? = some ⟨true,f3,0,.cells c3 31⟩) (h4:H[4]? = some ⟨true,f4,0,.cells c4 3⟩)
  (e1:c1=Z3N uf l.length) (e2:c2=Z3N sf l.length) (e3:BodyGe m (.cells c3 31) (.cells (Z7A 6 1 (λv=>(af v).length) l.length) 31)) (e4:c4=Zhv wf l.length)
  (h5:onO H[b5]? λo=>(B.alive=false/\B.sh=0/\o.sh=0)\/(o.alive=true/\B.alive=true/\B.sh=o.sh/\BodyGeZ [] H m o.body B.body)):HpGeD [] H m [0,1,2,3,4,b5] (lvA regs l uf sf af wf B):=by
 refine⟨Z13 h0 (.inr ⟨rfl,rfl,rfl,Y05 (Y02 (rest:=[]) rfl rfl)⟩),Z13 h1 (.inr ⟨rfl,rfl,rfl,Y05 (Y02 (rest:=[]) (by rw[e1,Y03]) (Z23 _ _))⟩),Z13 h2 (.inr ⟨rfl,rfl,rfl,Y05 (Y02 (rest:=[]) (by rw[e2,Y03]) (Z23 _ _))⟩),
  Z13 h3 (.inr ⟨rfl,rfl,rfl,Y05 e3⟩),Z13 h4 (.inr ⟨rfl,rfl,rfl,Y05 (Y02 (rest:=[]) (by rw[e4,Y03]) (Zhu _ _))⟩),h5,trivial⟩
theorem ZhA {H : Z00} {b5 f0 f1 f2 f3 f4 f5 : Nat} {regs : Int} {l : List Ins} {uf sf wf : Nat -> Nat} {af : Nat -> List Nat} {o0 o1 o2 o3 o4 o5 B : AObj} (h0 : H[0]? = some o0) (h1 : H[1]? = some o1) (h2 : H[2]? = some o2) (h3 : H[3]? = some o3) (h4 : H[4]? = some o4) (h5 : H[b5]? = some o5)
  (e0:o0.fam=f0) (e1:o1.fam=f1) (e2:o2.fam=f2) (e3:o3.fam=f3) (e4:o4.fam=f4) (e5:o5.fam=f5):Z0G H (lvA regs l uf sf af wf B) [0,1,2,3,4,b5]=[f0,f1,f2,f3,f4]++(cond B.alive [f5] []):=by
 simp only[Z0G,lvA,Z0u h0,Z0u h1,Z0u h2,Z0u h3,Z0u h4,Z0u h5,e0,e1,e2,e3,e4,e5,cond_true]
 cases B.alive<;>rfl
theorem Zhy {H : Z00} {b5 f0 f1 f2 f3 f4 f5 : Nat} {regs : Int} {l : List Ins} {uf sf wf : Nat -> Nat} {af : Nat -> List Nat} {o0 o1 o2 o3 o4 o5 B : AObj} (h0 : H[0]? = some o0) (h1 : H[1]? = some o1) (h2 : H[2]? = some o2) (h3 : H[3]? = some o3) (h4 : H[4]? = some o4) (h5 : H[b5]? = some o5)
  (e0:o0.fam=f0) (e1:o1.fam=f1) (e2:o2.fam=f2) (e3:o3.fam=f3) (e4:o4.fam=f4) (e5:o5.fam=f5) (h:([f0,f1,f2,f3,f4]++cond B.alive [f5] []).Nodup):(Z0G H (lvA regs l uf sf af wf B) [0,1,2,3,4,b5]).Nodup:=by
 rw[ZhA h0 h1 h2 h3 h4 h5 e0 e1 e2 e3 e4 e5];exact h
theorem Zhz {P : Nat -> Prop} {H : Z00} {b5 f0 f1 f2 f3 f4 f5 : Nat} {regs : Int} {l : List Ins} {uf sf wf : Nat -> Nat} {af : Nat -> List Nat} {o0 o1 o2 o3 o4 o5 B : AObj} (h0 : H[0]? = some o0) (h1 : H[1]? = some o1) (h2 : H[2]? = some o2) (h3 : H[3]? = some o3) (h4 : H[4]? = some o4) (h5 : H[b5]? = some o5)
  (e0:o0.fam=f0) (e1:o1.fam=f1) (e2:o2.fam=f2) (e3:o3.fam=f3) (e4:o4.fam=f4) (e5:o5.fam=f5) (h:∀f∈[f0,f1,f2,f3,f4]++cond B.alive [f5] [],P f):∀f∈Z0G H (lvA regs l uf sf af wf B) [0,1,2,3,4,b5],P f:=by
 rw[ZhA h0 h1 h2 h3 h4 h5 e0 e1 e2 e3 e4 e5];exact h
theorem Zjv:∀r,r<16->IntKind.u32.wrap (1*2 ^ (min (IntKind.u64.wrap (r:Nat)).toNat IntKind.u32.bits))=((2 ^ r:Nat):Int)/\0<=IntKind.u64.wrap (r:Nat):=by decide +kernel
theorem ZpO{M r:Nat}(hM:M<4294967296)(hr:r<16):bits .or .u32 (M:Nat) (IntKind.u32.wrap (1*2 ^ (min (IntKind.u64.wrap (r:Nat)).toNat IntKind.u32.bits)))=((M ||| 2 ^ r:Nat):Int):=by
 rw[(Zjv r hr).1]
 exact u32_or_nat M (2 ^ r) hM (Y0S (Y0X (by decide) hr) (by decide))
theorem Z8H(f:Nat->Nat){n k x:Nat}(h:k<n)(hx:f k=x){off:Nat}(e:off=k):tk 1 ((Z3N f n).drop off)=some [.int .u32 (x:Nat)]:=by
 rw[<- hx];exact Z6I (λv=>AV.int .u32 ((f v:Nat):Int)) h e
theorem Zcr(f:Nat->Nat){n k x:Nat}(h:k<n){off:Nat}(e:off=k):spl (Z3N f n) off [.int .u32 (x:Nat)]=some (Z3N (upd f k x) n):=by
 unfold Z3N
 rw[Z4Y _ _ h e]
 congr 2
 funext v
 by_cases h:v=k
 ·subst h;rw[Z0b,Z0b]
 ·rw[Z09 h,Z09 h]
theorem ZeT{α : Type}(z : α)(f:Nat -> α)(k:Nat):upd (fil z f k) k z=fil z f k:=by
 have h:=ZnB (fil z f k) k
 rw[show fil z f k k=z by simp[fil]]at h
 exact h
theorem Z4b{fs m:List Nat}{H A2 T T':Z00}(h:HpD fs m H (A2++T'))(e:T=T'):HpD fs m H (sec A2 T []):=by rw[ZgW,e];exact h
theorem Zeg{ml:List Nat}{n:Nat}(hk:ml.length=6):∀i,i<n->(ml++List.range' 6 n)[6+i]? = some (6+i):=λi hi=>by rw[ZjX hk,Y0t hi];simp
def lvS(l:List Ins)(k:Nat):List (Nat×AV):=[(1,.ptr 0 0),(3,.int .i64 l.length),(4,.slice 1 0 l.length l.length 1),(5,.slice 2 0 l.length l.length 1),(6,.slice 3 0 l.length l.length 1),(7,.slice 4 0 l.length l.length 1),(39,.rs l.length 6 (inC l)),(40,.int .i64 l.length),(41,.int .i64 k)]
def Zp9(l:List Ins)(k:Nat)(U:List Nat)(j:Nat):List (Nat×AV):=(8,.int .i64 k)::(79,.rs U.length 1 (nis U))::(80,.int .i64 U.length)::(81,.int .i64 j)::lvS l k
def Zpa(l:List Ins)(k:Nat)(U:List Nat)(j:Nat):List (Nat×AV):=(8,.int .i64 k)::(9,.ptr 5 0)::(51,.rs U.length 1 (nis U))::(52,.int .i64 U.length)::(53,.int .i64 j)::lvS l k
theorem Z72(L:List Nat)(k:Nat):nis (L++[k])=nis L++[.int .i64 (k:Nat)]:=by rw[Z2w];rfl
theorem ZnX {H : Z00} {regs : Int} {l : List Ins} {uf sf wf : Nat -> Nat} {af af' : Nat -> List Nat} {f f0 f1 f2 f3 f4 w k n7 al : Nat} {B : AObj} {cs : List AV} (hal : (af w).length = al) (hw : w < l.length) (hS : Sec H 6 l.length 3 (fun v => nis (af v)))
  (h0:H[0]? = some ⟨true,f0,0,.cells [.int .i64 regs,.rs l.length 6 (inC l)] 24⟩) (h1:H[1]? = some ⟨true,f1,0,.cells (Z3N uf l.length) 145⟩) (h2:H[2]? = some ⟨true,f2,0,.cells (Z3N sf l.length) 145⟩)
  (h3:H[3]? = some ⟨true,f3,0,.cells ((Z7A 6 1 (λv=>(af v).length) l.length).set w (.slice n7 0 (al+1) (al+1) 1)) 31⟩) (h4:H[4]? = some ⟨true,f4,0,.cells (Zhv wf l.length) 3⟩) (h5:H[5]? = some B) (hB:B.alive=true) (hBr:∃bc bt,B.body = .cells bc bt/\refsL bc []=[])
  (h7:H[n7]? = some ⟨true,f,0,.cells cs 3⟩) (hcs:cs=nis (af w)++[.int .i64 (k:Nat)]) (hf:f=6+w\/6+l.length<=f) (e0:f0=0) (e1:f1=1) (e2:f2=2) (e3:f3=3) (e4:f4=4) (e5:B.fam=5) (he:af'=upd af w (af w++[k])) :
  HpD [] ([0,1,2,3,4,5]++(List.range' 6 l.length).set w n7) H (sec (lvA regs l uf sf af' wf B) (lvT af' l.length) []):=by
 subst e0 e1 e2 e3 e4 he hcs hal
 obtain⟨bc,bt,hb1,hb2⟩:=hBr
 have hg:(λv=>nis (upd af w (af w++[k]) v))=upd (λv=>nis (af v)) w (nis (af w)++[.int .i64 (k:Nat)]):=by
  funext v
  by_cases h:v=w
  ·subst h;rw[Z0b,Z0b,Z72]
  ·rw[Z09 h,Z09 h]
 have hl:(λv=>(upd af w (af w++[k]) v).length)=upd (λv=>(af v).length) w ((af w).length+1):=by
  funext v
  by_cases h:v=w
  ·subst h;rw[Z0b,Z0b];simp
  ·rw[Z09 h,Z09 h]
 have hr:refsL (nis (af w)++[.int .i64 (k:Nat)]) []=[]:=by rw[<- Z72];exact Z0c _
 have hm:([0,1,2,3,4,5]++(List.range' 6 l.length).set w n7)=0::1::2::3::4::(5::(List.range' 6 l.length).set w n7):=rfl
 have hat:∀i,([0,1,2,3,4,5]++(List.range' 6 l.length).set w n7)[6+i]? = ((List.range' 6 l.length).set w n7)[i]?:=λi=>ZjX rfl i
 refine Z4b (HpD.grow hS hw (ZfP hm h0 h1 h2 h3 h4 rfl rfl (by
  rw[hl]
  exact Zb4 hw (λa ha hne=>by rw[hat];exact ZaY ha hne) (by rw[hat];exact Z7s hw) (Nat.succ_pos _) (Y01 _)) rfl (Z13 h5 (.inr ⟨hB,hB,rfl,by rw[hb1];exact Y05 (Y02 (rest:=[]) (by rw[Y03]) hb2)⟩))) rfl (λi _=>Z0c _) hr h7 hf ?_ ?_) ?_
 · refine Zhy h0 h1 h2 h3 h4 h5 rfl rfl rfl rfl rfl e5 ?_
   rw[hB];simp
 · refine Zhz h0 h1 h2 h3 h4 h5 rfl rfl rfl rfl rfl e5 ?_
   rw[hB];simp;omega
 ·unfold lvT;rw[hg]
def lwH(regs:Int)(l:List Ins)(live:Nat->Nat)(stk:List Nat):Z00:=[⟨true,0,0,.cells [.int .i64 regs,.rs l.length 6 (inC l)] 24⟩,⟨true,1,0,.cells (nis stk.reverse) 3⟩,⟨true,2,0,.cells (Z3N live l.length) 145⟩]
def ZbY(l:List Ins):List AV:=arr (λv=>Z1a (aF (Z0v l) l.length v)) l.length
def lwS(l:List Ins)(stk:List Nat):List (Nat×AV):=[(1,.ptr 0 0),(3,.int .i64 l.length),(4,.rs l.length 1 (Z3N (usU l) l.length)),(5,.rs l.length 1 (Z3N (stU l) l.length)),(6,.rs l.length 1 (ZbY l)),(7,.slice 1 0 stk.length stk.length 1),(15,.slice 2 0 l.length l.length 1)]
theorem Zp7{H:Z00}{a b c f0 f1 f2:Nat}{regs:Int}{l:List Ins}{live:Nat->Nat}{stk:List Nat}{o0 o1 o2:AObj}(h0:H[a]? = some o0)(h1:H[b]? = some o1)(h2:H[c]? = some o2)(e0:o0.fam=f0)(e1:o1.fam=f1)(e2:o2.fam=f2)(h:[f0,f1,f2].Nodup):(Z0G H (lwH regs l live stk) [a,b,c]).Nodup:=by
 show [Z0e H a,Z0e H b,Z0e H c].Nodup
 rw[Z0u h0,Z0u h1,Z0u h2,e0,e1,e2];exact h
theorem Zp8{P:Nat->Prop}{H:Z00}{a b c f0 f1 f2:Nat}{regs:Int}{l:List Ins}{live:Nat->Nat}{stk:List Nat}{o0 o1 o2:AObj}(h0:H[a]? = some o0)(h1:H[b]? = some o1)(h2:H[c]? = some o2)(e0:o0.fam=f0)(e1:o1.fam=f1)(e2:o2.fam=f2)(h:P f0/\P f1/\P f2):∀f∈Z0G H (lwH regs l live stk) [a,b,c],P f:=by
 show ∀f∈[Z0e H a,Z0e H b,Z0e H c],P f
 rw[Z0u h0,Z0u h1,Z0u h2,e0,e1,e2]
 intro f hf
 simp only[Y09,Y0Q,or_false]at hf
 rcases hf with rfl|rfl|rfl
 ·exact h.1
 ·exact h.2.1
 ·exact h.2.2
theorem Zjj(f:Nat->Nat)(n:Nat):(Z3N f n).all lit=true:=Zam (λ_=>rfl) n
theorem Zgq{fs m:List Nat}{H:Z00}{b f n cap:Nat}{g h:Nat->Nat}{ty:TypeId}(h1:H[b]? = some ⟨true,f,0,.cells (Z3N g n) ty⟩)(hm:mem f fs=true)(e:Z3N g n=Z3N h n):WkW fs H m (.slice b 0 n cap 1) (.rs n 1 (Z3N h n)):=by
 rw[e]at h1
 exact .inl (.inr (Z1e (Z3e h1 hm) (by unfold Z3N;rw[Z2B,Y0o]) (Zjj _ _)))
theorem Zj8 {fs m : List Nat} {H : Z00} {f cap : Nat} {l : List Ins} {ty : TypeId} (h1 : H[3]? = some ⟨true, f, 0, .cells (Z7A 6 1 (fun v => (aF (Z0v l) l.length v).length) l.length) ty⟩) (hm : mem f fs = true)
  (h2:∀i,i<l.length->H[6+i]? = some (inb (6+i) 3 (nis (aF (Z0v l) l.length i)))) (hm2:∀i,i<l.length->mem (6+i) fs=true):WkW fs H m (.slice 3 0 l.length cap 1) (.rs l.length 1 (ZbY l)):=by
 refine WkW.fz (Zbx (d:=27) (ty:=3) (k:=6) (z:=1) (len:=λv=>(aF (Z0v l) l.length v).length) (g:=λv=>nis (aF (Z0v l) l.length v)) (Z3e h1 hm) (λi hi hne=>⟨6+i,?_⟩) (λi _=>by rw[Z0w,Y0o]) (λi _=>Z1U _)) (Z9u (λi _=>by rw[Z0w,Y0o]) (λi _=>Z1U _))
 have hne':nis (aF (Z0v l) l.length i)≠[]:=λe=>hne (by have:=congrArg List.length e;rwa [Z0w]at this)
 have h3:=Z3e (fs:=fs) (h2 i hi) (by rw[Z4O];exact hm2 i hi)
 rw[h3,Z2y hne']
theorem Zic{f:Nat->Nat}{n:Nat}:Z3N (fil 0 f n) n=Z3N f n:=by
 unfold Z3N arr
 refine Y0H λv hv=>?_
 rw[Y0h]at hv
 simp[fil,hv]
theorem Zmk(n:Nat):Zhv (fil 0 id n) n=nis (List.range n).reverse.reverse:=by
 rw[List.reverse_reverse]
 unfold Zhv arr nis
 refine Y0H λv hv=>?_
 rw[Y0h]at hv
 simp[fil,hv]
def lxA(n:Nat)(rf:Nat->List Nat):Z00:=[⟨true,0,0,.cells (Z7A 1 1 (λv=>(rf v).length) n) 31⟩]
def lxT(n:Nat)(rf:Nat->List Nat):Z00:=inn 1 3 (λv=>nis (rf v)) n
def lxS(n:Nat)(live:Nat->Nat)(k:Nat):List (Nat×AV):=[(21,.slice 0 0 n n 1),(157,.rs n 1 (Z3N live n)),(158,.int .i64 n),(159,.int .i64 k)]
theorem Zhx{H:Z00}{n f0:Nat}{rf:Nat->List Nat}(hS:Sec H 1 n 3 (λv=>nis (rf v)))(h0:H[0]? = some ⟨true,f0,0,.cells (Z7A 1 1 (λv=>(rf v).length) n) 31⟩)(e0:f0=0):HpD [] ([0]++List.range' 1 n) H (sec (lxA n rf) (lxT n rf) []):=by
 subst e0
 refine Z4b (HpD.stay hS ⟨Z13 h0 (.inr ⟨rfl,rfl,rfl,Y05 (Z46 λi hi=>by rw[ZjX (k:=1) rfl,Y0t hi];simp)⟩),trivial⟩ rfl (λi _=>Z0c _) ?_ ?_) rfl
 · show [Z0e H 0].Nodup
   simp
 · show ∀f∈[Z0e H 0],_
   rw[Z0u h0];simp
theorem Zmm {H : Z00} {n f f0 k t n2 al : Nat} {rf rf' : Nat -> List Nat} {cs : List AV} (hal : (rf k).length = al) (hk : k < n) (hS : Sec H 1 n 3 (fun v => nis (rf v))) (h0 : H[0]? = some ⟨true, f0, 0, .cells ((Z7A 1 1 (fun v => (rf v).length) n).set k (.slice n2 0 (al + 1) (al + 1) 1)) 31⟩) (e0 : f0 = 0)
  (h7:H[n2]? = some ⟨true,f,0,.cells cs 3⟩) (hcs:cs=nis (rf k)++[.int .i64 (t:Nat)]) (hf:f=1+k\/1+n<=f) (he:rf'=upd rf k (rf k++[t])):HpD [] ([0]++(List.range' 1 n).set k n2) H (sec (lxA n rf') (lxT n rf') []):=by
 subst e0 he hcs hal
 have hg:(λv=>nis (upd rf k (rf k++[t]) v))=upd (λv=>nis (rf v)) k (nis (rf k)++[.int .i64 (t:Nat)]):=by
  funext v
  by_cases h:v=k
  ·subst h;rw[Z0b,Z0b,Z72]
  ·rw[Z09 h,Z09 h]
 have hl:(λv=>(upd rf k (rf k++[t]) v).length)=upd (λv=>(rf v).length) k ((rf k).length+1):=by
  funext v
  by_cases h:v=k
  ·subst h;rw[Z0b,Z0b];simp
  ·rw[Z09 h,Z09 h]
 have hr:refsL (nis (rf k)++[.int .i64 (t:Nat)]) []=[]:=by rw[<- Z72];exact Z0c _
 have hat:∀i,([0]++(List.range' 1 n).set k n2)[1+i]? = ((List.range' 1 n).set k n2)[i]?:=λi=>ZjX (k:=1) rfl i
 refine Z4b (HpD.grow hS hk ⟨Z13 h0 (.inr ⟨rfl,rfl,rfl,Y05 (by
  show BodyGe _ _ (.cells (Z7A 1 1 (λv=>(upd rf k (rf k++[t]) v).length) n) 31)
  rw[hl]
  exact Zb4 hk (λa ha hne=>by rw[hat];exact ZaY ha hne) (by rw[hat];exact Z7s hk) (Nat.succ_pos _) (Y01 _))⟩),trivial⟩ rfl (λi _=>Z0c _) hr h7 hf ?_ ?_) ?_
 · show [Z0e H 0].Nodup
   simp
 · show ∀x∈[Z0e H 0],_
   rw[Z0u h0];simp;omega
 ·unfold lxT;rw[hg]
theorem Zpm{α : Type}(z : α)(f:Nat -> α):fil z f 0=λ_=>z:=Zkt z f
section
attribute [local irreducible] Go.Abs.frcHW Go.Abs.frcNP sec
theorem ZeD(c:Cd)(hok:okC c)(hc:Z2o c=0)(hs:∀i∈c.ins,sizeL i.ex<=800000):ValOK Y00 runLives.gl 41 [c.av] (.rs c.ins.length 1 (arr (λv=>Z1a (Go.Live.liveL (usU c.ins) (stU c.ins) (Z0v c.ins) v)) c.ins.length)):=by
 have hck:=Z14 c hok
 rw[hc]at hck
 have hfine:=Z2j hc
 have hg:=hfine.good
 have hU:=λv (hv:v<c.ins.length)=>hfine.uses hv
 have hS:=λv (hv:v<c.ins.length)=>hfine.sets hv
 have h32:=hfine.in32
 obtain⟨regs,l⟩:=c
 simp only[Cd.av]at *
 have hp:=hg.pos
 have hf:=hg.few
 have hx2:=hok.2
 simp only at hx2
 obtain⟨O,hO,p1,p2,p3,p4,p5,-⟩:=fams (P:=Y00) (gl:=runLives.gl) [{ I:=Unit,f:=31,G:=λ_=>True,A:=λ_=>[.agg [.int .i64 regs,.rs l.length 6 (inC l)]],R:=λ_=>.int .i64 0,body:=(by kernel_rfl),inj:=λ_ _ _ _ _=>rfl,ok:=λ_ _=>⟨rfl,hck⟩ },
  { I:=Nat,f:=94,G:=λa=>a<l.length,A:=λa=>[.agg [.int .i64 regs,.rs l.length 6 (inC l)],.int .i64 a],R:=λa=>Z1a (Z0v l a),body:=(by kernel_rfl),inj:=(λi j _ _ h=>by simp only[List.cons.injEq,AV.int.injEq,and_true,true_and]at h;rw[show i=j by omega]),ok:=λa ha=>⟨rfl,Z9O regs l a ha hf (hg.to a ha)⟩ },
  { I:=Ins,f:=36,G:=λi=>i∈l,A:=λi=>[.agg (icells i)],R:=λi=>Z1a (Z1w i),body:=(by kernel_rfl),inj:=(λi j _ _ h=>by simp only[List.cons.injEq,AV.agg.injEq,and_true]at h;rw[Z1g h]),ok:=λi hi=>⟨rfl,ZdO i (hx2 i hi).2 (hx2 i hi).1 (hs i hi)⟩ },
  { I:=Ins,f:=38,G:=λi=>True,A:=λi=>[.agg (icells i)],R:=λi=>.int .i64 (Z2g i),body:=(by kernel_rfl),inj:=(λi j _ _ h=>by simp only[List.cons.injEq,AV.agg.injEq,and_true]at h;rw[Z1g h]),ok:=λi hi=>⟨rfl,Ze9 i⟩ },
  { I := Nat × Nat, f := 101, G := fun p => p.1 < 32 /\ 2 ^ p.1 * (2 * p.2 + 1) < 4294967296, A := fun p => [.int .u32 (2 ^ p.1 * (2 * p.2 + 1) : Nat)], R := fun p => .int .i64 (p.1 : Nat), body := (by kernel_rfl), inj := (fun i j hi hj h => by
    simp only[List.cons.injEq,AV.int.injEq,and_true,true_and]at h
    have h1:=Go.Live.bits_first (q:=i.2) hi.1
    have h2:=Go.Live.bits_first (q:=j.2) hj.1
    rw[show 2 ^ i.1*(2*i.2+1)=2 ^ j.1*(2*j.2+1) by omega,h2]at h1
    rw[(List.cons.inj h1).1]),ok:=λp hp=>⟨rfl,ZoR hp.1 hp.2⟩ }] rfl
 have q1:∀H,Z02 Y00 O H 31 [.agg [.int .i64 regs,.rs l.length 6 (inC l)]]=some (.int .i64 0,H):=p1 () trivial
 have q2:∀a,a<l.length->∀H,Z02 Y00 O H 94 [.agg [.int .i64 regs,.rs l.length 6 (inC l)],.int .i64 a]=some (Z1a (Z0v l a),H):=p2
 have q3:∀i,i∈l->∀H,Z02 Y00 O H 36 [.agg (icells i)]=some (Z1a (Z1w i),H):=p3
 have q4:∀i H,Z02 Y00 O H 38 [.agg (icells i)]=some (.int .i64 (Z2g i),H):=λi=>p4 i trivial
 have q5:∀t q,t<32->2 ^ t*(2*q+1)<4294967296->∀H,Z02 Y00 O H 101 [.int .u32 (2 ^ t*(2*q+1):Nat)]=some (.int .i64 (t:Nat),H):=λt q h1 h2=>p5 (t,q) ⟨h1,h2⟩
 clear p1 p2 p3 p4 p5 hck hc
 have hzu:tsz Y00 145=some 1:=by kernel_rfl
 have hbu:(Y00.info? 145).map (·.bytes)=some 4:=by kernel_rfl
 have huu:Z2k Y00 145=some (.int .u32 0):=by kernel_rfl
 have hzi:tsz Y00 3=some 1:=by kernel_rfl
 have hbi:(Y00.info? 3).map (·.bytes)=some 8:=by kernel_rfl
 have hui:Z2k Y00 3=some (.int .i64 0):=by kernel_rfl
 have hzl:tsz Y00 31=some 1:=by kernel_rfl
 have hbl:(Y00.info? 31).map (·.bytes)=some 24:=by kernel_rfl
 have hul:Z2k Y00 31=some .nslice:=by kernel_rfl
 have mu:Z4D Y00 144 (.int .i64 (l.length:Nat)) (.int .i64 (l.length:Nat))=some (Z2D l.length [.int .u32 0],145,1,l.length,l.length):=msC Tryz.underlying144 hzu hbu huu rfl (by decide) l.length (by omega) (by omega)
 have ml:Z4D Y00 62 (.int .i64 (l.length:Nat)) (.int .i64 (l.length:Nat))=some (Z2D l.length [.nslice],31,1,l.length,l.length):=msC Tryz.underlying62 hzl hbl hul rfl (by decide) l.length (by omega) (by omega)
 have mi:=λH=>Z7F (H:=H) Y0L hzi hbi hui rfl (by decide) l.length (by omega) (by omega)
 have mu2:=λH=>Z7F (H:=H) Tryz.underlying144 hzu hbu huu rfl (by decide) l.length (by omega) (by omega)
 have ml2:=λH=>Z7F (H:=H) Tryz.underlying62 hzl hbl hul rfl (by decide) l.length (by omega) (by omega)
 have hru:∀k,Z0J k (Z3c (.cells (Z2D l.length [.int .u32 0]) 145) [])=true:=λk=>by
  have:Z3c (.cells (Z2D l.length [.int .u32 0]) 145) []=[]:=Z1S (Z45 _ rfl _)
  rw[this];rfl
 have hrl:∀k,Z0J k (Z3c (.cells (Z2D l.length [.nslice]) 31) [])=true:=λk=>by
  have:Z3c (.cells (Z2D l.length [.nslice]) 31) []=[]:=Z1S (Z45 _ rfl _)
  rw[this];rfl
 refine ValOK.res (r:=.rs l.length 1 (arr (λv=>frn 1 (Go.Live.liveL (usU l) (stU l) (Z0v l) v).length (nis (Go.Live.liveL (usU l) (stU l) (Z0v l) v))) l.length)) ?_ (Z9u (z:=1) (len:=λv=>(Go.Live.liveL (usU l) (stU l) (Z0v l) v).length) (g:=λv=>nis (Go.Live.liveL (usU l) (stU l) (Z0v l) v)) (λi _=>by rw[Z0w,Y0o]) (λi _=>Z1U _))
 refine Z05 follows Z07 hO Tryz.func41 rfl ?_
 show Z0F _ _
 rw[Z0d]
 generalize hA:AV.agg [.int .i64 regs,.rs l.length 6 (inC l)]=A0
 conv in (tmk _ _)=>reduce
 subst hA
 repeat' ((conv=>whnf);first|(refine Z1N (q1 _) ?_)|(with_reducible refine Z4E ZpT ?_)|(with_reducible refine Z4F (nb0 _ _) ?_)|(with_reducible refine Z4E (ZpS _) ?_)|(with_reducible refine Z4E (len2 _ _) ?_)|(with_reducible refine Z4E (ZpR _ _ _) ?_)|(with_reducible refine Z4E (ZpQ _ _ _ _) ?_)|(with_reducible refine Z4F (nb4 _ _ _ _ _ _) ?_)|(with_reducible refine Z4F (ap1 _ _) ?_)|(with_reducible refine Z4F (ap2 _ _ _) ?_)|(with_reducible refine Z4F (ap3 _ _ _ _) ?_)|(with_reducible refine Z0x ?_)|(with_reducible refine Z0E ?_)|(rw[ZnV mu];rotate_left;(focus (rfl));dsimp only;rw[if_pos (hru _)])|(rw[ZnV ml];rotate_left;(focus (rfl));dsimp only;rw[if_pos (hrl _)])|refine exI (mi _) ?_|refine stp ?_|with_reducible apply Z01<;>intro h)
 conv=>whnf
 refine⟨Nat,(λk=>k<=l.length),lvS l,(λk=>sec (lvA regs l (fil 0 (usU l) k) (fil 0 (stU l) k) (aF (Z0v l) k) (fil 0 id k) lvX) (lvT (aF (Z0v l) k) l.length) []),(λk=>l.length-k),⟨0,Y07 _,?_⟩,?_⟩
 · dsimp only
   rw[ZgW,Zk2]
   refine FgLK.mkD [] ([0,1,2,3,4,0]++List.replicate l.length 0) rfl rfl (SlotsGe.w ?_) (HpD.start (ZfP rfl rfl rfl rfl rfl rfl (ZdY _ _) (ZdY _ _) (Y02 (rest:=[]) (by rw[Y03];exact Zes _ _) ?_) (ZjW _ _) (.inl ⟨rfl,rfl,rfl⟩)) rfl ⟨_,rfl,rfl⟩ (by simp[Z0G,lvA,lvX,Z0e]) (λ_ _=>rfl))
   ·exact wks
   ·rw[<- Zes,Z9J 6 1];exact Z8W _ _ _
 intro k hk
 dsimp only at hk⊢
 by_cases hlt:k<l.length
 · have e1:decide ((k:Int)<(l.length:Int))=true:=by simpa using hlt
   have hx6:=in6 l k hlt
   unfold lvS lvA
   show Z0F _ _
   rw[Z0d]
   generalize hI:((k:Nat):Int)=iv at *
   conv in (Z3s _ _)=>reduce
   subst hI
   have hT0:(lvT (aF (Z0v l) k) l.length).length=l.length:=Z2Z _ _ _ _
   have hTf:∀o∈lvT (aF (Z0v l) k) l.length,6<=o.fam/\o.fam<6+l.length:=ZcZ
   have hSec:∀{A E:Z00},A.length=6->Sec (sec A (lvT (aF (Z0v l) k) l.length) E) 6 l.length 3 (λv=>nis (aF (Z0v l) k v)):=λhA=>Sec.of hA
   generalize hTT:lvT (aF (Z0v l) k) l.length=T0 at *
   generalize hn6:6+l.length=n6
   have sl0:∀{a b c d e f:AObj},(sec [a,b,c,d,e,f] T0 []).length=n6:=Zcz (by rw[hT0];exact hn6)
   have nw0:∀{a b c d e f:AObj}{cs:List AV}{ty:TypeId},Z1s (sec [a,b,c,d,e,f] T0 []) cs ty=sec [a,b,c,d,e,f] T0 [⟨true,n6,0,.cells cs ty⟩]:=Zcy (by rw[hT0];exact hn6)
   have at0:∀{a b c d e f x:AObj},(sec [a,b,c,d,e,f] T0 [x])[n6]? = some x:=ZgK (i:=0) (by rw[hT0];exact hn6) rfl
   have hT6:∀o∈T0,6<=o.fam:=λo ho=>(hTf o ho).1
   have hTn:∀o∈T0,o.fam<n6:=λo ho=>by have:=(hTf o ho).2;omega
   have stE:∀{a b c d e f x x':AObj},Znq 6 [a,b,c,d,e,f]=true->x.fam=n6->(Z3T n6 x.fam (sec [a,b,c,d,e,f] T0 [x])).set n6 x'=sec [a,b,c,d,e,f] T0 [x']:=λhA hx=>Zjt (by rw[hT0];exact hn6) hA hTn hx
   have hE1:∀{x:AObj},x.fam=n6->∀o∈[x],6<=o.fam:=λhx o ho=>by rw[Y0r]at ho;subst ho;omega
   have hw:∀off,off=k->spl (Zhv (fil 0 id k) l.length) off [.int .i64 (k:Nat)]=some (Zhv (fil 0 id (k+1)) l.length):=λoff e=>by
    rw[show Zhv (fil 0 id k) l.length=arr (λv=>AV.int .i64 ((fil 0 id k v:Nat):Int)) l.length from rfl,Z4Y _ _ hlt e,<- Z4v]
    congr 2
    funext v
    by_cases h:v=k
    ·subst h;rw[Z0b,Z0b];rfl
    ·rw[Z09 h,Z09 h]
   have q3k:=q3 l[k] (Z03 hlt)
   repeat' ((conv=>whnf);first|refine exI hx6 ?_|(refine ZbI rfl (stE rfl rfl) ?_)|(refine ZbI (hw _ (by show 0+k*1=k;omega)) (Z9C (q:=4) (by decide) rfl hT6 (hE1 rfl) rfl) ?_)|(refine Z1N (q3k _) ?_)|(with_reducible refine ixJ k rfl ?_ ?_;focus omega)|(refine Z4E sl0 ?_)|(refine Z4F nw0 ?_)|(refine Z13 at0 ?_)|(refine Z13 (Z08 rfl) ?_)|(with_reducible refine Z0x ?_)|refine stp ?_|with_reducible apply Z01<;>intro h)
   conv=>whnf
   have hUk:=hU k hlt
   unfold ZhT at hUk
   rw[Z15 hlt]at hUk
   have hUl:(Z1w l[k]).length<=800000:=Nat.le_trans (Z58 _) (Nat.le_trans (ursL_len _) (hs _ (Z03 hlt)))
   have huk:usU l k=Go.Live.maskL (Z1w l[k]):=by unfold usU ZhT;rw[Z15 hlt]
   have hsk:stU l k=Zlp (Z2g l[k]):=by unfold stU;rw[Z15 hlt]
   have hsr:=hS k hlt
   rw[Z15 hlt]at hsr
   generalize hik:l[k]=ik at *
   generalize hUU:Z1w ik=U at *
   refine⟨Nat,(λj=>j<=U.length),Zpa l k U,(λj=>sec (lvA regs l (upd (fil 0 (usU l) k) k (Go.Live.maskL (U.take j))) (fil 0 (stU l) k) (aF (Z0v l) k) (fil 0 id (k+1)) (lvI ik)) T0 []),(λj=>U.length-j),⟨0,Y07 _,?_⟩,?_⟩
   · dsimp only
     refine FgLK.mkD [] ([0,1,2,3,4,n6]++List.range' 6 l.length) rfl rfl (SlotsGe.w ?_) (Z4b (HpD.stay (hSec rfl) (ZfP rfl (Z08 rfl) (Z08 rfl) (Z08 rfl) (Z08 rfl) (Z08 rfl) (by rw[show Go.Live.maskL (U.take 0)=0 from rfl,ZeT]) rfl (Z46 (Zeg rfl)) rfl (Z13 at0 (.inr ⟨rfl,rfl,rfl,Y05 (Y02 (rest:=[]) rfl rfl)⟩))) rfl (λi _=>Z0c _) ?_ ?_) hTT.symm)
     ·exact wks
     · refine Zhy (f5:=n6) (Z08 rfl) (Z08 rfl) (Z08 rfl) (Z08 rfl) (Z08 rfl) at0 rfl rfl rfl rfl rfl rfl ?_
       simp[lvI];omega
     · refine Zhz (f5:=n6) (Z08 rfl) (Z08 rfl) (Z08 rfl) (Z08 rfl) (Z08 rfl) at0 rfl rfl rfl rfl rfl rfl ?_
       simp[lvI];omega
   intro j hj
   dsimp only at hj⊢
   by_cases hjt:j<U.length
   · have e2:decide ((j:Int)<(U.length:Int))=true:=by simpa using hjt
     have hrj:=hUk U[j] (Y13 hjt)
     have hmt:=Go.Live.maskL_take hjt
     have hxj:∀off,off=j->tk 1 ((nis U).drop off)=some [.int .i64 (U[j]:Nat)]:=λoff e=>Z3Q U hjt e
     generalize U[j]=r at *
     have hM:Go.Live.maskL (U.take j)<4294967296:=Go.Live.maskL_lt λr hr=>by have:=hUk r (List.mem_of_mem_take hr);omega
     generalize hMM:Go.Live.maskL (U.take j)=M at *
     have hua:=Z8H (upd (fil 0 (usU l) k) k M) (off:=0+k*1) hlt (Z0b _ _ _) (by omega)
     have hus:=Zcr (upd (fil 0 (usU l) k) k M) (x:=M ||| 2 ^ r) (off:=0+k*1) hlt (by omega)
     rw[<- ZpO hM hrj,Z7m]at hus
     have hw0:=(Zjv r hrj).2
     unfold Zpa lvS lvA
     show Z0F _ _
     rw[Z0d]
     generalize hI:((k:Nat):Int)=iv at *
     generalize hJ:((j:Nat):Int)=jv at *
     generalize nis U=nU at *
     conv in (Z3s _ _)=>reduce
     subst hI hJ
     repeat' ((conv=>whnf);first|refine exI (hxj _ (by show j*1=j;omega)) ?_|refine exI hua ?_|(refine Y0k hw0 ?_)|(refine ZbI hus (Z9C (q:=1) (by decide) rfl hT6 (by simp) rfl) ?_)|(with_reducible refine ixJ j rfl ?_ ?_;focus omega)|(with_reducible refine ixJ k rfl ?_ ?_;focus omega)|(refine Z4E sl0 ?_)|(refine Z4F nw0 ?_)|(refine Z13 at0 ?_)|(refine Z13 (Z08 rfl) ?_)|(with_reducible refine Z0x ?_)|refine stp ?_|with_reducible apply Z01<;>intro h)
     conv=>whnf
     refine⟨j+1,hjt,by show U.length-(j+1)<U.length-j;omega,?_⟩
     (try dsimp only)
     rw[hmt]
     refine FgLK.mkD [] ([0,1,2,3,4,5]++List.range' 6 l.length) rfl rfl (SlotsGe.w ?_) (Z4b (HpD.stay (hSec rfl) (ZfP rfl (Z08 rfl) (Z08 rfl) (Z08 rfl) (Z08 rfl) (Z08 rfl) rfl rfl (Z46 (Zeg rfl)) rfl (Z13 (Z08 rfl) (.inr ⟨rfl,rfl,rfl,Y05 (Y02 (rest:=[]) rfl rfl)⟩))) rfl (λi _=>Z0c _) ?_ ?_) hTT.symm)
     ·exact wks
     · refine Zhy (f5:=5) (Z08 rfl) (Z08 rfl) (Z08 rfl) (Z08 rfl) (Z08 rfl) (Z08 rfl) rfl rfl rfl rfl rfl rfl ?_
       simp[lvI]
     · refine Zhz (f5:=5) (Z08 rfl) (Z08 rfl) (Z08 rfl) (Z08 rfl) (Z08 rfl) (Z08 rfl) rfl rfl rfl rfl rfl rfl ?_
       simp[lvI]
   · have e2:decide ((j:Int)<(U.length:Int))=false:=by simpa using hjt
     have hj2:j=U.length:=by omega
     subst hj2
     rw[Y0f,<- huk,Z4v]
     have q2k:=q2 k hlt
     have q4k:=q4 ik
     have hnl:=Z0w (Z0v l k)
     have hn2:=Z61 l k
     simp only[Z1a]at q2k
     generalize hs0:Z2g ik=s0 at *
     generalize hnx:Z0v l k=nxk at *
     generalize hnn:nis nxk=nN at *
     unfold Zpa lvS lvA
     rcases (show 0<=s0\/s0<0 by omega)with hs1|hs1
     case' inl =>
      have e3:decide (s0 >= 0)=true:=by simpa using hs1
      obtain⟨r,rfl⟩:∃r:Nat,s0=r:=⟨s0.toNat,by omega⟩
      have hw0:=(Zjv r (by omega)).2
      have hws:=(Zjv r (by omega)).1
      have hus:=Zcr (fil 0 (stU l) k) (x:=2 ^ r) (off:=0+k*1) hlt (by omega)
      have hst:Z3N (upd (fil 0 (stU l) k) k (2 ^ r)) l.length=Z3N (fil 0 (stU l) (k+1)) l.length:=by
       rw[<- Z4v,hsk]
       unfold Zlp
       rw[if_pos hs1,Y0Z]
      rw[<- hws]at hus
      show Z0F _ _
      rw[Z0d]
      generalize hI:((k:Nat):Int)=iv at *
      generalize nis U=nU at *
      conv in (Z3s _ _)=>reduce
      subst hI
      repeat' ((conv=>whnf);first|(refine Y0k hw0 ?_)|(refine ZbI hus (Z9C (q:=2) (by decide) rfl hT6 (by simp) rfl) ?_)|(refine Z1N (q4k _) ?_)|(refine Z1N (q2k _) ?_)|(with_reducible refine ixJ k rfl ?_ ?_;focus omega)|(refine Z13 (Z08 rfl) ?_)|(with_reducible refine Z0x ?_)|refine stp ?_|with_reducible apply Z01<;>intro h)
      conv=>whnf
     case' inr =>
      have e3:decide (s0 >= 0)=false:=by simpa using hs1
      have hst:Z3N (fil 0 (stU l) k) l.length=Z3N (fil 0 (stU l) (k+1)) l.length:=by
       rw[<- Z4v,hsk]
       unfold Zlp
       rw[if_neg (by omega),ZeT]
      show Z0F _ _
      rw[Z0d]
      generalize hI:((k:Nat):Int)=iv at *
      generalize nis U=nU at *
      conv in (Z3s _ _)=>reduce
      subst hI
      repeat' ((conv=>whnf);first|(refine Z1N (q4k _) ?_)|(refine Z1N (q2k _) ?_)|(with_reducible refine ixJ k rfl ?_ ?_;focus omega)|(refine Z13 (Z08 rfl) ?_)|(with_reducible refine Z0x ?_)|refine stp ?_|with_reducible apply Z01<;>intro h)
      conv=>whnf
     all_goals
      subst hnn
      refine⟨Nat,(λj=>j<=nxk.length),Zp9 l k nxk,(λj=>sec (lvA regs l (fil 0 (usU l) (k+1)) (fil 0 (stU l) (k+1)) (aG (Z0v l) k j) (fil 0 id (k+1)) (lvI ik)) (lvT (aG (Z0v l) k j) l.length) []),(λj=>nxk.length-j),⟨0,Y07 _,?_⟩,?_⟩
      · (try dsimp only)
        rw[Znb]
        refine FgLK.mkD [] ([0,1,2,3,4,5]++List.range' 6 l.length) rfl rfl (SlotsGe.w ?_) (Z4b (HpD.stay (hSec rfl) (ZfP rfl (Z08 rfl) (Z08 rfl) (Z08 rfl) (Z08 rfl) (Z08 rfl) rfl hst (Z46 (Zeg rfl)) rfl (Z13 (Z08 rfl) (.inr ⟨rfl,rfl,rfl,Y05 (Y02 (rest:=[]) rfl rfl)⟩))) rfl (λi _=>Z0c _) ?_ ?_) rfl)
        ·exact wks
        · refine Zhy (f5:=5) (Z08 rfl) (Z08 rfl) (Z08 rfl) (Z08 rfl) (Z08 rfl) (Z08 rfl) rfl rfl rfl rfl rfl rfl ?_
          simp[lvI]
        · refine Zhz (f5:=5) (Z08 rfl) (Z08 rfl) (Z08 rfl) (Z08 rfl) (Z08 rfl) (Z08 rfl) rfl rfl rfl rfl rfl rfl ?_
          simp[lvI]
      clear hT0 hTf hSec hT6 hTn stE sl0 nw0 at0 hTT hst
      intro j hj
      dsimp only at hj⊢
      by_cases hjt:j<nxk.length
      case' neg=>skip
      case' pos =>
       have e2:decide ((j:Int)<(nxk.length:Int))=true:=by simpa using hjt
       have hxj:∀off,off=j->tk 1 ((nis nxk).drop off)=some [.int .i64 (nxk[j]:Nat)]:=λoff e=>Z3Q nxk hjt e
       have hwl:nxk[j]<l.length:=hg.nx8 hlt (by rw[hnx];exact Y13 hjt)
       have hGs:aG (Z0v l) k (j+1)=upd (aG (Z0v l) k j) nxk[j] (aG (Z0v l) k j nxk[j]++[k]):=by
        subst hnx
        exact Znc hjt (Zhn l k)
       have hGl:=Zou (Z0v l) k j nxk[j]
       generalize nxk[j]=w at *
       generalize aG (Z0v l) k j=af at *
       have hoc:=Zhg 6 1 (λv=>(af v).length) hwl (off:=0+w*1) (by omega)
       have hos:∀v,spl (Z7A 6 1 (λv=>(af v).length) l.length) (0+w*1) [v]=some ((Z7A 6 1 (λv=>(af v).length) l.length).set w v):=λv=>by
        rw[show 0+w*1=w by omega]
        exact ZoA _ _ _ (by rw[Z2K];exact hwl)
       have hT1:(lvT af l.length).length=l.length:=Z2Z _ _ _ _
       have hTf:∀o∈lvT af l.length,6<=o.fam/\o.fam<6+l.length:=ZcZ
       have hSec:∀{A E:Z00},A.length=6->Sec (sec A (lvT af l.length) E) 6 l.length 3 (λv=>nis (af v)):=λhA=>Sec.of hA
       have hapT:Z7e Y00 31 31=some (3,1,8):=by kernel_rfl
       generalize hn7:n6+1=n7
       have hap:∀{a b c d e f:AObj}{ty:TypeId},Znq 6 [a,b,c,d,e,f]=true->Z16 Y00 31 31 (grn (6+w) 1 (af w).length) (.slice n6 0 1 1 1) (sec [a,b,c,d,e,f] (lvT af l.length) [⟨true,n6,0,.cells [.int .i64 (k:Nat)] ty⟩])=some (.slice n7 0 ((af w).length+1) ((af w).length+1) 1,sec [a,b,c,d,e,f] (lvT af l.length) [⟨true,n6,0,.cells [.int .i64 (k:Nat)] ty⟩,⟨true,if (af w).length=0 then n7 else 6+w,0,.cells (nis (af w)++[.int .i64 (k:Nat)]) 3⟩]):=λhA =>
        ZhY hapT (ZoW (by rw[Z2Z];exact hn6)) (by decide) rfl hwl (by simp;omega) (by rw[Z0w];omega) (by decide) rfl (by omega) hA (λo ho=>by rw[Y0r]at ho;subst ho;show 6+l.length<=n6;omega)
       generalize hal:(af w).length=al at hoc hap hGl
       generalize hTT:lvT af l.length=T1 at *
       have sl0:∀{a b c d e f:AObj},(sec [a,b,c,d,e,f] T1 []).length=n6:=Zcz (by rw[hT1];exact hn6)
       have nw0:∀{a b c d e f:AObj}{cs:List AV}{ty:TypeId},Z1s (sec [a,b,c,d,e,f] T1 []) cs ty=sec [a,b,c,d,e,f] T1 [⟨true,n6,0,.cells cs ty⟩]:=Zcy (by rw[hT1];exact hn6)
       have at1:∀{a b c d e f x y:AObj},(sec [a,b,c,d,e,f] T1 [x,y])[n7]? = some y:=ZgK (i:=1) (by rw[hT1];omega) rfl
       have hT6:∀o∈T1,6<=o.fam:=λo ho=>(hTf o ho).1
       have hE2:∀{x y:AObj},x.fam=n6->(y.fam=if al=0 then n7 else 6+w)->∀o∈[x,y],6<=o.fam:=λhx hy o ho=>by
        simp only[Y09,Y0Q,or_false]at ho
        rcases ho with rfl|rfl
        ·omega
        ·rw[hy];split<;>omega
       unfold Zp9 lvS lvA
       show Z0F _ _
       rw[Z0d]
       generalize hI:((k:Nat):Int)=iv at *
       generalize hJ:((j:Nat):Int)=jv at *
       generalize hnN:nis nxk=nN at *
       conv in (Z3s _ _)=>reduce
       subst hI hJ
       cases al
       all_goals simp only[grn]at hoc hap
       all_goals repeat' ((conv=>whnf);first|refine exI (hxj _ (by show j*1=j;omega)) ?_|refine exI hoc ?_|(with_reducible refine ixJ j rfl ?_ ?_;focus omega)|(with_reducible refine ixJ w rfl ?_ ?_;focus omega)|(refine Z4E sl0 ?_)|(refine Z4F nw0 ?_)|(refine Z1N (hap rfl) ?_)|(refine ZbI (hos _) (Z9C (q:=3) (by decide) rfl hT6 (hE2 rfl rfl) rfl) ?_)|(refine Z13 (Z08 rfl) ?_)|(with_reducible refine Z0x ?_)|(with_reducible refine Z0E ?_)|refine stp ?_|with_reducible apply Z01<;>intro h)
       all_goals (conv=>whnf)
       all_goals subst hnN
       all_goals (refine⟨j+1,hjt,by show nxk.length-(j+1)<nxk.length-j;omega,?_⟩)
       all_goals (try dsimp only)
       all_goals rw[hGs]
       all_goals (refine FgLK.mkD [] ([0,1,2,3,4,5]++(List.range' 6 l.length).set w n7) rfl rfl (SlotsGe.w ?_) (ZnX (af:=af) (w:=w) hal hwl (hSec rfl) (Z08 rfl) (Z08 rfl) (Z08 rfl) (Z08 rfl) (Z08 rfl) (Z08 rfl) rfl ⟨_,_,rfl,rfl⟩ at1 rfl ?_ rfl rfl rfl rfl rfl rfl rfl))
       all_goals first|((repeat (first|exact trivial|refine stw ?_));done)|(split<;>omega)
     all_goals
      have e2:decide ((j:Int)<(nxk.length:Int))=false:=by simpa using hjt
      have hj2:j=nxk.length:=by omega
      subst hj2
      subst hnx
      rw[Zov]
      unfold Zp9 lvS lvA
      show Z0F _ _
      rw[Z0d]
      generalize hI:((k:Nat):Int)=iv at *
      generalize hnN:nis (Z0v l k)=nN at *
      conv in (Z3s _ _)=>reduce
      subst hI
      repeat' ((conv=>whnf);first|(refine Z13 (Z08 rfl) ?_)|(with_reducible refine Z0x ?_)|(with_reducible refine Z0E ?_)|refine stp ?_|with_reducible apply Z01<;>intro h)
      conv=>whnf
      refine⟨k+1,hlt,by show l.length-(k+1)<l.length-k;omega,?_⟩
      (try dsimp only)
      refine FgLK.mkD [] ([0,1,2,3,4,5]++List.range' 6 l.length) rfl rfl (SlotsGe.w ?_) (Z4b (HpD.stay (Sec.of rfl) (ZfP rfl (Z08 rfl) (Z08 rfl) (Z08 rfl) (Z08 rfl) (Z08 rfl) rfl rfl (Z46 (Zeg rfl)) rfl (Z13 (Z08 rfl) (.inl ⟨rfl,rfl,rfl⟩))) rfl (λi _=>Z0c _) ?_ ?_) rfl)
      ·exact wks
      · refine Zhy (f5:=5) (Z08 rfl) (Z08 rfl) (Z08 rfl) (Z08 rfl) (Z08 rfl) (Z08 rfl) rfl rfl rfl rfl rfl rfl ?_
        simp[lvX]
      · refine Zhz (f5:=5) (Z08 rfl) (Z08 rfl) (Z08 rfl) (Z08 rfl) (Z08 rfl) (Z08 rfl) rfl rfl rfl rfl rfl rfl ?_
        simp[lvX]
 · have e1:decide ((k:Int)<(l.length:Int))=false:=by simpa using hlt
   have hk2:k=l.length:=by omega
   subst hk2
   have hT0:(lvT (aF (Z0v l) l.length) l.length).length=l.length:=Z2Z _ _ _ _
   have hTg:∀i,i<l.length->(lvT (aF (Z0v l) l.length) l.length)[i]? = some (inb (6+i) 3 (nis (aF (Z0v l) l.length i))):=λi hi=>Z9Z _ _ _ hi
   generalize lvT (aF (Z0v l) l.length) l.length=T0 at *
   generalize hn6:6+l.length=n6
   have sl0:∀{a b c d e f:AObj},(sec [a,b,c,d,e,f] T0 []).length=n6:=Zcz (by rw[hT0];exact hn6)
   have nw0:∀{a b c d e f:AObj}{cs:List AV}{ty:TypeId},Z1s (sec [a,b,c,d,e,f] T0 []) cs ty=sec [a,b,c,d,e,f] T0 [⟨true,n6,0,.cells cs ty⟩]:=Zcy (by rw[hT0];exact hn6)
   have at0:∀{a b c d e f x:AObj},(sec [a,b,c,d,e,f] T0 [x])[n6]? = some x:=ZgK (i:=0) (by rw[hT0];exact hn6) rfl
   unfold lvS lvA
   show Z0F _ _
   rw[Z0d]
   generalize hI:((l.length:Nat):Int)=iv at *
   conv in (Z3s _ _)=>reduce
   subst hI
   repeat' ((conv=>whnf);first|(refine Z4E sl0 ?_)|(refine Z4F nw0 ?_)|refine exI (mu2 _) ?_|(refine Z13 (Z08 rfl) ?_)|(with_reducible refine Z0x ?_)|(with_reducible refine Z0E ?_)|refine stp ?_|with_reducible apply Z01<;>intro h)
   conv=>whnf
   refine⟨(Nat->Nat)×List Nat,(λs=>Go.Live.Inv (usU l) (stU l) (Z0v l) l.length s.1 s.2/\Go.Live.leftL l.length s.1 s.2<=600000000),(λs=>lwS l s.2),(λs=>lwH regs l s.1 s.2),(λs=>Go.Live.leftL l.length s.1 s.2),⟨(λ_=>0,(List.range l.length).reverse),⟨Go.Live.Inv.start _,?_⟩,?_⟩,?_⟩
   · have:=Go.Live.leftL_le l.length (λ_=>0) (List.range l.length).reverse
     rw[Y14,List.length_range]at this
     have h2:(l.length+1)*(32*l.length)<=4001*(32*4000):=Nat.mul_le_mul (by omega) (by omega)
     dsimp only
     omega
   · (try dsimp only)
     refine FgLK.mkD ([1,2,3]++List.range' 6 l.length) [0,4,n6] rfl rfl ?_ (HpD.of ⟨Z13 (Z08 rfl) (.inr ⟨rfl,rfl,rfl,Y05 (Y02 (rest:=[]) rfl rfl)⟩),Z13 (Z08 rfl) (.inr ⟨rfl,rfl,rfl,Y05 (Y02 (rest:=[]) (by rw[Y03];exact Zmk _) (Z0c _))⟩),Z13 at0 (.inr ⟨rfl,rfl,rfl,Y05 (Y02 (rest:=[]) (by rw[Y03];exact Z2J _ _) (Z23 _ _))⟩),trivial⟩ ?_ ?_)
     · refine⟨WkW.wk (Wk.ptr rfl rfl),WkW.wk (Wk.int rfl),Zgq (f:=1) (Z08 rfl) rfl Zic,Zgq (f:=2) (Z08 rfl) rfl Zic,Zj8 (f:=3) (Z08 rfl) rfl (λi hi=>ZcH rfl (hTg i hi)) (λi hi=>?_),WkW.wk (Y0d rfl rfl (by simp) (by simp) (by simp) rfl),WkW.wk (Y0d rfl rfl rfl (Y01 _) (Y01 _) rfl),trivial⟩
       rw[Z0W,Y0e,Y0W]
       right;omega
     ·exact Zp7 (f0:=0) (f1:=4) (f2:=n6) (Z08 rfl) (Z08 rfl) at0 rfl rfl rfl (by simp;omega)
     · have hno : ∀ x, x = 0 \/ x = 4 \/ x = n6 -> mem x ([1, 2, 3] ++ List.range' 6 l.length) = false := fun x hx => by
        cases hm:mem x ([1,2,3]++List.range' 6 l.length) with
        |false=>rfl
        |true =>
         rw[Z0W,Y0e,Y0W]at hm
         simp only[Y09,Y0Q,or_false]at hm
         omega
       exact Zp8 (f0:=0) (f1:=4) (f2:=n6) (Z08 rfl) (Z08 rfl) at0 rfl rfl rfl ⟨hno 0 (by simp),hno 4 (by simp),hno n6 (by simp)⟩
   clear hT0 hTg sl0 nw0 at0 hru hrl
   rintro⟨live,stk⟩ ⟨hI,hb⟩
   dsimp only at hI hb⊢
   cases stk with
   |nil =>
    have hfix:=λv hv=>hI.bits h32 (λv hv w hw=>hg.nx8 hv hw) (v:=v) hv
    unfold lwS lwH
    show Z0F _ _
    rw[Z0d]
    generalize hK:((l.length:Nat):Int)=iv at *
    generalize Z3N (usU l) l.length=cU at *
    generalize Z3N (stU l) l.length=cS at *
    generalize ZbY l=cA at *
    conv in (Z3s _ _)=>reduce
    subst hK
    repeat' ((conv=>whnf);first|refine exI (ml2 _) ?_|(with_reducible refine Z0x ?_)|(with_reducible refine Z0E ?_)|refine stp ?_|with_reducible apply Z01<;>intro h)
    conv=>whnf
    refine⟨Nat,(λk=>k<=l.length),lxS l.length live,(λk=>sec (lxA l.length (fil [] (λv=>Go.Live.bitsOf (live v)) k)) (lxT l.length (fil [] (λv=>Go.Live.bitsOf (live v)) k)) []),(λk=>l.length-k),⟨0,Y07 _,?_⟩,?_⟩
    · (try dsimp only)
      rw[Zpm]
      refine FgLK.mkD [2] ([3]++List.replicate l.length 0) rfl rfl ?_ (Z4b (HpD.start (k:=1) ⟨.inr ⟨rfl,rfl,rfl,Y05 (Y02 (rest:=[]) (by rw[Y03];exact Z9J 1 1 _) (Z8W _ _ _))⟩,trivial⟩ rfl ⟨_,rfl,rfl⟩ (by simp[Z0G,lxA]) (by simp[Z0G,lxA,Z0e];rfl)) rfl)
      exact⟨WkW.wk (Y0d rfl rfl rfl (Y01 _) (Y01 _) rfl),Zgq (f:=2) rfl rfl rfl,WkW.wk (Wk.int rfl),WkW.wk (Wk.int rfl),trivial⟩
    intro k hk
    dsimp only at hk⊢
    by_cases hkt:k<l.length
    · have e1:decide ((k:Int)<(l.length:Int))=true:=by simpa using hkt
      have hxk:=Z8H live (n:=l.length) (off:=k*1) hkt rfl (by omega)
      have hb32:=hI.b32 k
      unfold lxS lxA
      have hSec:∀{a:AObj}{E:Z00},Sec (sec [a] (lxT l.length (fil [] (λv=>Go.Live.bitsOf (live v)) k)) E) 1 l.length 3 (λv=>nis (fil [] (λv=>Go.Live.bitsOf (live v)) k v)):=Sec.of rfl
      generalize lxT l.length (fil [] (λv=>Go.Live.bitsOf (live v)) k)=T0 at *
      show Z0F _ _
      rw[Z0d]
      generalize hK:((l.length:Nat):Int)=iv at *
      generalize hK2:((k:Nat):Int)=jv at *
      generalize hN:Z3N live l.length=nN at *
      conv in (Z3s _ _)=>reduce
      subst hK hK2
      repeat' ((conv=>whnf);first|refine exI hxk ?_|(with_reducible refine ixJ k rfl ?_ ?_;focus omega)|(refine Z13 (Z08 rfl) ?_)|(with_reducible refine Z0x ?_)|(with_reducible refine Z0E ?_)|refine stp ?_|with_reducible apply Z01<;>intro h)
      conv=>whnf
      subst hN
      refine⟨Nat×List Nat,(λs=>s.2++Go.Live.bitsOf s.1=Go.Live.bitsOf (live k)/\s.1<4294967296),(λs=>(22,.int .i64 (k:Nat))::(23,.int .u32 (s.1:Nat))::lxS l.length live k),(λs=>sec (lxA l.length (upd (fil [] (λv=>Go.Live.bitsOf (live v)) k) k s.2)) (lxT l.length (upd (fil [] (λv=>Go.Live.bitsOf (live v)) k) k s.2)) []),(λs=>(Go.Live.bitsOf s.1).length),⟨(live k,[]),⟨Y0s _,hb32⟩,?_⟩,?_⟩
      · (try dsimp only)
        rw[ZeT]
        refine FgLK.mkD [] ([0]++List.range' 1 l.length) rfl rfl (SlotsGe.w ?_) (Zhx hSec (Z08 rfl) rfl)
        exact wks
      clear hSec
      rintro⟨m,pre⟩ ⟨hpre,hm⟩
      dsimp only at hpre hm⊢
      have hpl:pre.length<=32:=by
       have h1:=congrArg List.length hpre
       rw[Y0a]at h1
       have h2:=Go.Live.bits_le (live k)
       omega
      by_cases hm0:m=0
      · subst hm0
        have em:(((0:Nat):Int) != 0)=false:=rfl
        have hpr:pre=Go.Live.bitsOf (live k):=by rw[<- hpre];simp[Go.Live.bitsOf]
        have hSec:∀{a:AObj}{E:Z00},Sec (sec [a] (lxT l.length (fil [] (λv=>Go.Live.bitsOf (live v)) (k+1))) E) 1 l.length 3 (λv=>nis (fil [] (λv=>Go.Live.bitsOf (live v)) (k+1) v)):=Sec.of rfl
        rw[hpr,Z4v]
        generalize lxT l.length (fil [] (λv=>Go.Live.bitsOf (live v)) (k+1))=T1 at *
        unfold lxS lxA
        show Z0F _ _
        rw[Z0d]
        generalize hK:((l.length:Nat):Int)=iv at *
        generalize hK2:((k:Nat):Int)=jv at *
        generalize hN:Z3N live l.length=nN at *
        conv in (Z3s _ _)=>reduce
        subst hK hK2
        repeat' ((conv=>whnf);first|(with_reducible refine Z0x ?_)|(with_reducible refine Z0E ?_)|refine stp ?_|with_reducible apply Z01<;>intro h)
        conv=>whnf
        subst hN
        refine⟨k+1,hkt,by show l.length-(k+1)<l.length-k;omega,?_⟩
        dsimp only
        refine FgLK.mkD [] ([0]++List.range' 1 l.length) rfl rfl (SlotsGe.w ?_) (Zhx hSec (Z08 rfl) rfl)
        exact wks
      · have em:((m:Int) != 0)=true:=by simp;omega
        obtain⟨t,q,ht,hmt⟩:=Zmn (by omega) hm
        have q5m:=q5 t q ht (by omega)
        have hbf:=Go.Live.bits_first (q:=q) ht
        rw[<- hmt]at q5m hbf
        have hsub:IntKind.u32.wrap ((m:Int)-1)=((m-1:Nat):Int):=by
         simp only[IntKind.wrap,IntKind.signed,IntKind.bits]
         simp
         omega
        have hand:=u32_and_nat m (m-1) hm (by omega)
        rw[hbf,List.append_cons]at hpre
        generalize hrf:upd (fil [] (λv=>Go.Live.bitsOf (live v)) k) k pre=rf at *
        have hrk:rf k=pre:=by rw[<- hrf,Z0b]
        have hrf':upd (fil [] (λv=>Go.Live.bitsOf (live v)) k) k (pre++[t])=upd rf k (rf k++[t]):=by rw[hrk,<- hrf,Z7m]
        have hoc:=Zhg 1 1 (λv=>(rf v).length) hkt (off:=0+k*1) (by omega)
        have hos:∀v,spl (Z7A 1 1 (λv=>(rf v).length) l.length) (0+k*1) [v]=some ((Z7A 1 1 (λv=>(rf v).length) l.length).set k v):=λv=>by
         rw[show 0+k*1=k by omega]
         exact ZoA _ _ _ (by rw[Z2K];exact hkt)
        have hT1:(lxT l.length rf).length=l.length:=Z2Z _ _ _ _
        have hTf:∀o∈lxT l.length rf,1<=o.fam/\o.fam<1+l.length:=ZcZ
        have hSec:∀{a:AObj}{E:Z00},Sec (sec [a] (lxT l.length rf) E) 1 l.length 3 (λv=>nis (rf v)):=Sec.of rfl
        have hapT:Z7e Y00 31 31=some (3,1,8):=by kernel_rfl
        generalize hn1:1+l.length=n1
        generalize hn2:n1+1=n2
        have hap:∀{a:AObj}{ty:TypeId},Znq 1 [a]=true->Z16 Y00 31 31 (grn (1+k) 1 (rf k).length) (.slice n1 0 1 1 1) (sec [a] (lxT l.length rf) [⟨true,n1,0,.cells [.int .i64 (t:Nat)] ty⟩])=some (.slice n2 0 ((rf k).length+1) ((rf k).length+1) 1,sec [a] (lxT l.length rf) [⟨true,n1,0,.cells [.int .i64 (t:Nat)] ty⟩,⟨true,if (rf k).length=0 then n2 else 1+k,0,.cells (nis (rf k)++[.int .i64 (t:Nat)]) 3⟩]):=λhA =>
         ZhY hapT (Zp3 (by rw[Z2Z];exact hn1)) (by decide) rfl hkt (by simp;omega) (by rw[Z0w];omega) (by decide) rfl (by rw[hrk];omega) hA (λo ho=>by rw[Y0r]at ho;subst ho;show 1+l.length<=n1;omega)
        generalize hal:(rf k).length=al at hoc hap
        have hall:al<=32:=by rw[<- hal,hrk];exact hpl
        generalize hTT:lxT l.length rf=T1 at *
        have sl0:∀{a:AObj},(sec [a] T1 []).length=n1:=Zhj (by rw[hT1];exact hn1)
        have nw0:∀{a:AObj}{cs:List AV}{ty:TypeId},Z1s (sec [a] T1 []) cs ty=sec [a] T1 [⟨true,n1,0,.cells cs ty⟩]:=Zmb (by rw[hT1];exact hn1)
        have at1:∀{a x y:AObj},(sec [a] T1 [x,y])[n2]? = some y:=ZnP (i:=1) (by rw[hT1];omega) rfl
        have hlt0:∀{a:AObj}{rs:List Nat},Z0J n1 rs=true->Z0J (sec [a] T1 []).length rs=true:=ZcT 0 (by rw[hT1];exact hn1) rfl rfl
        have hlt2:∀{a x y:AObj}{rs:List Nat},Z0J (n2+1) rs=true->Z0J (sec [a] T1 [x,y]).length rs=true:=ZcT (n:=n1) 2 (by rw[hT1];exact hn1) rfl (by omega)
        have hlt1:∀{a x:AObj}{rs:List Nat},Z0J n2 rs=true->Z0J (sec [a] T1 [x]).length rs=true:=ZcT 1 (by rw[hT1];exact hn1) rfl hn2.symm
        have hT6:∀o∈T1,1<=o.fam:=λo ho=>(hTf o ho).1
        have hE2:∀{x y:AObj},x.fam=n1->(y.fam=if al=0 then n2 else 1+k)->∀o∈[x,y],1<=o.fam:=λhx hy o ho=>by
         simp only[Y09,Y0Q,or_false]at ho
         rcases ho with rfl|rfl
         ·omega
         ·rw[hy];split<;>omega
        unfold lxS lxA
        show Z0F _ _
        rw[Z0d]
        generalize hK:((l.length:Nat):Int)=iv at *
        generalize hK2:((k:Nat):Int)=jv at *
        generalize hK3:((m:Nat):Int)=mv at *
        generalize hN:Z3N live l.length=nN at *
        conv in (Z3s _ _)=>reduce
        subst hK hK2 hK3
        cases al
        all_goals simp only[grn]at hoc hap
        all_goals repeat' ((conv=>whnf);first|refine exI hoc ?_|(refine Z1N (q5m _) ?_)|(with_reducible refine exW hsub ?_)|(with_reducible refine ixJ k rfl ?_ ?_;focus omega)|(refine Z4E sl0 ?_)|(refine Z4F nw0 ?_)|(refine Z1N (hap rfl) ?_)|(refine ZbI (hos _) (Zma rfl hT6 (hE2 rfl rfl) rfl) ?_)|(refine Z13 (Z08 rfl) ?_)|(refine ZbO Zor ?_)|(refine ZbO Zmc ?_)|(refine ZbO ZjN ?_)|(refine ZbO (hlt0 (by (try simp only[Z1x,Z1o,refsL]);repeat (first|exact ZhB|refine ZhC (by omega) ?_))) ?_)|(refine ZbO (hlt1 (by (try simp only[Z1x,Z1o,refsL]);repeat (first|exact ZhB|refine ZhC (by omega) ?_))) ?_)|(refine ZbO (Zdq rfl (hlt0 (by (try simp only[Z1x,Z1o,refsL]);repeat (first|exact ZhB|refine ZhC (by omega) ?_)))) ?_)|(refine ZbO (Zdq rfl (hlt1 (by (try simp only[Z1x,Z1o,refsL]);repeat (first|exact ZhB|refine ZhC (by omega) ?_)))) ?_)|(refine ZbO (Zdq rfl (hlt2 (by (try simp only[Z1x,Z1o,refsL]);repeat (first|exact ZhB|refine ZhC (by omega) ?_)))) ?_)|(with_reducible refine Z0x ?_)|(with_reducible refine Z0E ?_)|refine stp ?_|with_reducible apply Z01<;>intro h)
        all_goals (conv=>whnf)
        all_goals subst hN
        all_goals refine⟨(m &&& (m-1),pre++[t]),⟨hpre,?_⟩,?_,?_⟩
        all_goals dsimp only
        all_goals try exact Y0T Nat.and_le_left hm
        all_goals try (rw[hbf];exact Nat.lt_succ_self _)
        all_goals rw[hrf']
        all_goals refine FgLK.mkD [] ([0]++(List.range' 1 l.length).set k n2) rfl rfl (SlotsGe.w ?_) (Zmm hal hkt hSec (Z08 rfl) rfl at1 rfl (by split<;>omega) rfl)
        · refine Y0k (Wk.int rfl) (Y0k (Wk.int hand) ?_)
          exact wks
        · refine Y0k (Wk.int rfl) (Y0k (Wk.int hand) ?_)
          exact wks
    · have e1:decide ((k:Int)<(l.length:Int))=false:=by simpa using hkt
      have hk2:k=l.length:=by omega
      subst hk2
      have hSec:∀{a:AObj}{E:Z00},Sec (sec [a] (lxT l.length (fil [] (λv=>Go.Live.bitsOf (live v)) l.length)) E) 1 l.length 3 (λv=>nis (fil [] (λv=>Go.Live.bitsOf (live v)) l.length v)):=Sec.of rfl
      unfold lxS lxA
      show Z0F _ _
      rw[Z0d]
      generalize hK:((l.length:Nat):Int)=iv at *
      generalize hN:Z3N live l.length=nN at *
      conv in (Z3s _ _)=>reduce
      subst hK
      repeat' ((conv=>whnf);first|(with_reducible refine Z0x ?_)|(with_reducible refine Z0E ?_)|refine stp ?_|with_reducible apply Z01<;>intro h)
      conv=>whnf
      subst hN
      refine⟨_,Zbx (d:=27) (k:=1) (z:=1) (f:=0) (ty:=3) (g:=λv=>nis (fil [] (λv=>Go.Live.bitsOf (live v)) l.length v)) (len:=λv=>(fil [] (λv=>Go.Live.bitsOf (live v)) l.length v).length) (Z08 rfl) (λi hi hne=>⟨1+i,by rw[hSec.get i hi,Z2y (λe0=>hne (by rw[<- Z0w,e0];rfl))]⟩) (λi hi=>by rw[Z0w];omega) (λi hi=>Z1U _),?_⟩
      · show AV.rs _ _ _=AV.rs _ _ _
        refine congrArg _ (Y0H λi hi=>?_)
        rw[Y0h]at hi
        have:fil [] (λv=>Go.Live.bitsOf (live v)) l.length i=Go.Live.liveL (usU l) (stU l) (Z0v l) i:=by rw[<- hfix i hi];simp[fil,hi]
        rw[this]
   |cons v stk =>
    have hv:v<l.length:=hI.wl v (by simp)
    have hge:=Go.Live.leftL_ge l.length live (v::stk)
    simp only[Y06]at hge
    have e1:decide (((stk.length+1:Nat):Int)>0)=true:=by simp<;>omega
    have w1:IntKind.i64.wrap (((stk.length+1:Nat):Int)-1)=(stk.length:Int):=by rw[Z2r (by omega) (by omega)];omega
    have hx:∀off,off=stk.length->tk 1 ((nis (stk.reverse++[v])).drop off)=some [.int .i64 v]:=λoff e=>by
     have:=Z3Q (stk.reverse++[v]) (k:=stk.length) (by simp) e
     rw[this];simp
    have q2v:=q2 v hv
    have hn2:=Z61 l v
    simp only[Z1a]at q2v
    have hxU:=Z8H (usU l) (n:=l.length) (off:=v*1) hv rfl (by omega)
    have hxS:=Z8H (stU l) (n:=l.length) (off:=v*1) hv rfl (by omega)
    have hxL:=Z8H live (n:=l.length) (off:=0+v*1) hv rfl (by omega)
    have hxA:tk 1 ((ZbY l).drop (v*1))=some [Z1a (aF (Z0v l) l.length v)]:=Z6I _ hv (by omega)
    have hnxv:∀w∈Z0v l v,w<l.length:=λw hw=>hg.nx8 hv hw
    have haL:=Zlq (Z0v l) l.length v
    have haM:∀u,u∈aF (Z0v l) l.length v ↔ u<l.length/\v∈Z0v l u:=λu=>Zow
    have hnew:=hI.new (a:=(aF (Z0v l) l.length v).reverse) h32 (λu hu hm=>by rw[List.mem_reverse];exact (haM u).2 ⟨hu,hm⟩) (λu hu=>by rw[List.mem_reverse]at hu;exact ((haM u).1 hu).1)
    have hlnew:=λhne=>Go.Live.leftL_new (a:=(aF (Z0v l) l.length v).reverse) hI h32 hne (by rw[Y14];exact haL)
    have hsame:=hI.same
    have hlpop:=Go.Live.leftL_pop l.length v live stk
    have hJ32:∀j,Go.Live.joinN live ((Z0v l v).take j)<4294967296:=λj=>Go.Live.joinN_lt hI.b32
    have hl32:=hI.b32
    have hu32:=h32.us v
    have hs32:=h32.st v
    unfold lwS lwH
    rw[List.reverse_cons]
    show Z0F _ _
    rw[Z0d]
    generalize hK:((l.length:Nat):Int)=iv at *
    generalize hS1:(v::stk).length=sl at *
    generalize Z3N (usU l) l.length=cU at *
    generalize Z3N (stU l) l.length=cS at *
    generalize ZbY l=cA at *
    conv in (Z3s _ _)=>reduce
    subst hK
    subst hS1
    repeat' ((conv=>whnf);first|(with_reducible refine exW w1 ?_)|refine exI (hx _ (by show 0+stk.length*1=stk.length;omega)) ?_|(refine Z1N (q2v _) ?_)|(with_reducible refine ixJ stk.length rfl ?_ ?_;focus omega)|(with_reducible refine ZoD stk.length rfl ?_ ?_;focus omega)|(with_reducible refine Z0x ?_)|(with_reducible refine Z0E ?_)|refine stp ?_|with_reducible apply Z01<;>intro h)
    conv=>whnf
    generalize hnx:Z0v l v=nxv at *
    refine⟨Nat,(λj=>j<=nxv.length),(λj=>[(1,.ptr 0 0),(3,.int .i64 l.length),(4,.rs l.length 1 cU),(5,.rs l.length 1 cS),(6,.rs l.length 1 cA),(7,.slice 1 0 stk.length stk.length 1),(15,.slice 2 0 l.length l.length 1),(16,.int .i64 v),(17,.int .u32 (Go.Live.joinN live (nxv.take j):Nat)),(115,.rs nxv.length 1 (nis nxv)),(116,.int .i64 nxv.length),(117,.int .i64 (j:Nat))]),(λj=>lwH regs l live stk),(λj=>nxv.length-j),⟨0,Y07 _,?_⟩,?_⟩
    · refine FgL.mk [0,1,2] rfl ?_ ⟨hbp,⟨rfl,rfl,rfl,rfl,Y02 (rest:=[.int .i64 v]) (Z2w _ _) (Z0c _)⟩,⟨rfl,rfl,rfl,rfl,Y02 (rest:=[]) (by rw[Y03]) (Z23 _ _)⟩,trivial⟩ rfl
      iterate 5 refine stw ?_
      refine Y0k (Y0d rfl rfl rfl (Y01 _) (by show stk.length<=stk.length+1;omega) rfl) ?_
      exact wks
    intro j hj
    dsimp only at hj⊢
    clear hx w1 e1 hge q2v
    by_cases hjt:j<nxv.length
    · have e2:decide ((j:Int)<(nxv.length:Int))=true:=by simpa using hjt
      have hxj:∀off,off=j->tk 1 ((nis nxv).drop off)=some [.int .i64 (nxv[j]:Nat)]:=λoff e=>Z3Q nxv hjt e
      have hwl:=hnxv nxv[j] (Y13 hjt)
      have hjn:=Go.Live.joinN_take (live:=live) hjt
      have hor:=u32_or_nat (Go.Live.joinN live (nxv.take j)) (live nxv[j]) (hJ32 j) (hl32 _)
      rw[<- hjn]at hor
      have hJ1:=hJ32 (j+1)
      generalize nxv[j]=w at *
      have hxw:=Z8H live (n:=l.length) (off:=0+w*1) hwl rfl (by omega)
      generalize Go.Live.joinN live (nxv.take j)=J at *
      generalize hJJ1:Go.Live.joinN live (nxv.take (j+1))=J1 at *
      unfold lwH
      show Z0F _ _
      rw[Z0d]
      generalize hK:((l.length:Nat):Int)=iv at *
      generalize hK2:((j:Nat):Int)=jv at *
      generalize hK3:((v:Nat):Int)=vv at *
      generalize hK4:((J:Nat):Int)=jj at *
      generalize hN:nis nxv=nN at *
      conv in (Z3s _ _)=>reduce
      subst hK hK2 hK3 hK4
      repeat' ((conv=>whnf);first|refine exI (hxj _ (by show j*1=j;omega)) ?_|refine exI hxw ?_|(with_reducible refine ixJ j rfl ?_ ?_;focus omega)|(with_reducible refine ixJ w rfl ?_ ?_;focus omega)|(with_reducible refine Z0x ?_)|(with_reducible refine Z0E ?_)|refine stp ?_|with_reducible apply Z01<;>intro h)
      conv=>whnf
      subst hN
      refine⟨j+1,hjt,by show nxv.length-(j+1)<nxv.length-j;omega,?_⟩
      refine FgL.mk [0,1,2] rfl ?_ ⟨hbp,⟨rfl,rfl,rfl,rfl,Y02 (rest:=[]) (by rw[Y03]) (Z0c _)⟩,⟨rfl,rfl,rfl,rfl,Y02 (rest:=[]) (by rw[Y03]) (Z23 _ _)⟩,trivial⟩ rfl
      iterate 8 refine stw ?_
      refine Y0k (Wk.int (by rw[hJJ1];exact hor)) ?_
      exact wks
    · have e2:decide ((j:Int)<(nxv.length:Int))=false:=by simpa using hjt
      have hj2:j=nxv.length:=by omega
      subst hj2
      rw[Y0f]
      have hJv:=hJ32 nxv.length
      rw[Y0f]at hJv
      have hstep:Go.Live.stepF (usU l) (stU l) (Z0v l) live v=usU l v ||| Go.Live.andN (Go.Live.joinN live nxv) (stU l v):=by unfold Go.Live.stepF;rw[hnx]
      have hand:=u32_andNot_nat (Go.Live.joinN live nxv) (stU l v) hJv hs32
      have hnow:bits .or .u32 (usU l v:Nat) (bits .andNot .u32 (Go.Live.joinN live nxv:Nat) (stU l v:Nat))=((Go.Live.stepF (usU l) (stU l) (Z0v l) live v:Nat):Int):=by
       rw[hstep,hand]
       exact u32_or_nat _ _ hu32 (Go.Live.andN_lt hJv)
      have hset:=Zcr live (n:=l.length) (x:=Go.Live.stepF (usU l) (stU l) (Z0v l) live v) (off:=0+v*1) hv (by omega)
      rw[<- hnow]at hset
      generalize hFF:Go.Live.stepF (usU l) (stU l) (Z0v l) live v=F at *
      generalize Go.Live.joinN live nxv=J at *
      clear hJ32 hand hstep
      have haO:=Z4M (aF (Z0v l) l.length v)
      have haN:=Z0w (aF (Z0v l) l.length v)
      generalize hAA:aF (Z0v l) l.length v=av at *
      have hsl:=Z0w stk.reverse
      rw[Y14]at hsl
      have hT:Z7e Y00 31 31=some (3,1,8):=by kernel_rfl
      generalize hUv:usU l v=uv at *
      generalize hSv:stU l v=sv at *
      generalize hLv:live v=lv at *
      simp only[Z1a]at hxA
      unfold lwH
      by_cases hq:F=lv
      · have hne:(bits .or .u32 (uv:Nat) (bits .andNot .u32 (J:Nat) (sv:Nat)) != ((lv:Nat):Int))=false:=by rw[hnow,hq];simp
        show Z0F _ _
        rw[Z0d]
        generalize hK:((l.length:Nat):Int)=iv at *
        generalize hK2:((nxv.length:Nat):Int)=jv at *
        generalize hK3:((v:Nat):Int)=vv at *
        generalize hK4:((J:Nat):Int)=jj at *
        generalize hN:nis nxv=nN at *
        conv in (Z3s _ _)=>reduce
        subst hK hK2 hK3 hK4
        repeat' ((conv=>whnf);first|refine exI hxU ?_|refine exI hxS ?_|refine exI hxL ?_|refine exI hxA ?_|(with_reducible refine ixJ v rfl ?_ ?_;focus omega)|(with_reducible refine Z0x ?_)|(with_reducible refine Z0E ?_)|refine stp ?_|with_reducible apply Z01<;>intro h)
        conv=>whnf
        subst hN
        refine⟨(live,stk),⟨hsame hq,by show Go.Live.leftL l.length live stk<=_;omega⟩,hlpop,?_⟩
        refine FgL.mk [0,1,2] rfl ?_ ⟨hbp,⟨rfl,rfl,rfl,rfl,Y02 (rest:=[]) (by rw[Y03]) (Z0c _)⟩,⟨rfl,rfl,rfl,rfl,Y02 (rest:=[]) (by rw[Y03]) (Z23 _ _)⟩,trivial⟩ rfl
        dsimp only
        exact wks
      · have hne:(bits .or .u32 (uv:Nat) (bits .andNot .u32 (J:Nat) (sv:Nat)) != ((lv:Nat):Int))=true:=by rw[hnow];simp;omega
        have hl2:=hlnew hq
        have hmem:nis (av.reverse++stk).reverse=nis stk.reverse++nis av:=by rw[List.reverse_append,List.reverse_reverse,Z2w]
        show Z0F _ _
        rw[Z0d]
        generalize hK:((l.length:Nat):Int)=iv at *
        generalize hK2:((nxv.length:Nat):Int)=jv at *
        generalize hK3:((v:Nat):Int)=vv at *
        generalize hK4:((J:Nat):Int)=jj at *
        generalize hN:nis nxv=nN at *
        conv in (Z3s _ _)=>reduce
        subst hK hK2 hK3 hK4
        cases av with
        |nil =>
         simp only[nis,Y0D,Y0c]at hxA
         repeat' ((conv=>whnf);first|refine exI hxU ?_|refine exI hxS ?_|refine exI hxL ?_|refine exI hxA ?_|(refine ZbI hset (Z8L rfl) ?_)|(refine Z1N (hap (by decide) (by decide)) ?_)|(with_reducible refine ixJ v rfl ?_ ?_;focus omega)|(refine apS ?_)|(with_reducible refine Z0x ?_)|(with_reducible refine Z0E ?_)|refine stp ?_|with_reducible apply Z01<;>intro h)
         conv=>whnf
         subst hN
         rw[List.reverse_nil,Y0s]at hnew hl2
         refine⟨(upd live v F,stk),⟨hnew,by show Go.Live.leftL l.length (upd live v F) stk<=_;omega⟩,hl2,?_⟩
         refine FgL.mk [0,1,2] rfl ?_ ⟨hbp,⟨rfl,rfl,rfl,rfl,Y02 (rest:=[]) (by rw[Y03]) (Z0c _)⟩,⟨rfl,rfl,rfl,rfl,Y02 (rest:=[]) (by rw[Y03]) (Z23 _ _)⟩,trivial⟩ rfl
         dsimp only
         exact wks
        |cons a r =>
         have hge2:=Go.Live.leftL_ge l.length live (v::stk)
         simp only[Y06]at *
         have hap:=λ{a0 c0:AObj} (h0:a0.fam≠1) (h2:c0.fam≠1)=>ZgA hT (a:=a0) (c:=c0) (cs:=nis stk.reverse) (xs:=nis (a::r)) (n:=r.length+1) h0 h2 hsl (Nat.succ_ne_zero _) haO (by omega)
         repeat' ((conv=>whnf);first|refine exI hxU ?_|refine exI hxS ?_|refine exI hxL ?_|refine exI hxA ?_|(refine ZbI hset (Z8L rfl) ?_)|(refine Z1N (hap (by decide) (by decide)) ?_)|(with_reducible refine ixJ v rfl ?_ ?_;focus omega)|(refine apS ?_)|(with_reducible refine Z0x ?_)|(with_reducible refine Z0E ?_)|refine stp ?_|with_reducible apply Z01<;>intro h)
         conv=>whnf
         subst hN
         refine⟨(upd live v F,(a::r).reverse++stk),⟨hnew,by show Go.Live.leftL l.length (upd live v F) ((a::r).reverse++stk)<=_;omega⟩,hl2,?_⟩
         refine FgL.mk [0,3,2] rfl ?_ ⟨hbp,⟨rfl,rfl,rfl,rfl,Y02 (rest:=[]) (by rw[Y03];exact hmem.symm) (Z0c _)⟩,⟨rfl,rfl,rfl,rfl,Y02 (rest:=[]) (by rw[Y03]) (Z23 _ _)⟩,trivial⟩ rfl
         dsimp only
         iterate 5 refine stw ?_
         refine Y0k (Y0d rfl rfl (by simp;omega) (Y01 _) (by simp;omega) rfl) ?_
         exact wks
end
end Go.Proofs.YthbimonbnaodkaaGreatDoor.lex
end
namespace Go.Proofs.YthbimonbnaodkaaGreatDoor.lex
open Go.Abs Go.RowKit
section
def ksC(n:List Int):List AV:=n.map (AV.int .i64)
end
end Go.Proofs.YthbimonbnaodkaaGreatDoor.lex
section
namespace Go.Abs
open Go.RowKit Go.ChangeShapes Go.WideShapes Go.ChangeAt
def OpensB(P:Program)(N:Nat)(t:TypeId)(Q:List AV->Prop):Prop :=
 ∀(H:Type)(enc:TypeId×Value->H)(W:World)(fuel:Nat)(cs:List Value)(x:DataW H×List MemPlace),fuel<=N->DataW.trod enc P W 0 (λ_=>true) true fuel t cs=some x->∃us,Q us/\LR (Z2s W) noI us cs
section opens
variable {P:Program}
theorem OpensB.mono{N:Nat}{t:TypeId}{Q Q':List AV->Prop}(h:OpensB P N t Q)(hq:∀u,Q u->Q' u):OpensB P N t Q':=λH enc W fuel cs x hN hx=>let ⟨u,h1,h2⟩:=h H enc W fuel cs x hN hx;⟨u,hq _ h1,h2⟩
theorem OpensB.of{N:Nat}{t:TypeId}{Q:List AV->Prop}(h:Z6T P t Q):OpensB P N t Q:=λH enc W fuel cs x _ hx=>h H enc W fuel cs x hx
theorem OpensB.all{t:TypeId}{Q:List AV->Prop}(h:∀N,OpensB P N t Q):Z6T P t Q:=λH enc W fuel cs x hx=>h fuel H enc W fuel cs x (Y01 _) hx
theorem Z3D{t:TypeId}{Q:List AV->Prop}:OpensB P 0 t Q:=λH enc W fuel cs x hN hx=>by
 obtain rfl:fuel=0:=by omega
 simp[DataW.trod]at hx
theorem Z6v {N : Nat} {t e : TypeId} {z : Nat} {Q : List AV -> Prop} (ht : P.underlying t = some (.slice e)) (hz : P.cellsOf e = z) (hz0 : z ≠ 0) (he : OpensB P N e Q) :
  OpensB P (N+1) t λus=>∃l:List (List AV),(∀u∈l,Q u/\u.length=z)/\us=[.rs l.length z l.flatten]/\l.length<=maxLen:=by
 intro H enc W fuel cs x hN h
 rcases DataW.trod_slice ht h with ⟨rfl,_⟩|⟨a,len,cap,els,rest,n,hfu,rfl,_,_,hlc,hcm,hl,hel,hrest⟩
 ·exact⟨_,⟨[],by simp,rfl,by simp⟩,by simp[LR,VR]⟩
 · rw[hz]at hel
   have each:∀i,i<len->∃ (vs:List Value) (u:List AV),W.cells? 0 (a.add (i*z)) z=some vs/\Q u/\LR (Z2s W) noI u vs:=by
    intro i hi
    have h1:=hel i hi
    have h2:els[i]? = some els[i]:=Y0y (by omega)
    rw[h2]at h1
    simp only[Option.bind_eq_some_iff]at h1
    obtain⟨vs,h3,h4⟩:=h1
    obtain⟨u,h5,h6⟩:=he H enc W n vs _ (by omega) h4
    exact⟨vs,u,h3,h5,h6⟩
   have hex:∃ (l:List (List AV)) (vss:List (List Value)),l.length=len/\vss.length=len/\∀i,i<len->∃vs u,l[i]? = some u/\vss[i]? = some vs/\W.cells? 0 (a.add (i*z)) z=some vs/\Q u/\LR (Z2s W) noI u vs:=by
    clear hel hl h hlc hcm hrest
    induction len with
    |zero=>exact⟨[],[],rfl,rfl,λi hi=>by omega⟩
    |succ m ih =>
     obtain⟨l,vss,h1,h2,h3⟩:=ih λi hi=>each i (by omega)
     obtain⟨vs,u,g1,g2,g3⟩:=each m (by omega)
     refine⟨l++[u],vss++[vs],by simp[h1],by simp[h2],λi hi=>?_⟩
     by_cases e:i=m
     · subst e
       exact⟨vs,u,by simp[<- h1],by simp[<- h2],g1,g2,g3⟩
     · obtain⟨vs',u',k1,k2,k3⟩:=h3 i (by omega)
       exact⟨vs',u',by rw[Y0j (by omega)];exact k1,by rw[Y0j (by omega)];exact k2,k3⟩
   obtain⟨l,vss,h1,h2,h3⟩:=hex
   have hll:∀u∈l,Q u/\u.length=z:=by
    intro u hu
    obtain⟨i,hi,rfl⟩:=List.mem_iff_getElem.1 hu
    obtain⟨vs,u',k1,k2,k3,k4,k5⟩:=h3 i (by omega)
    rw[Y0y hi]at k1;simp at k1
    rw[k1]
    exact⟨k4,by rw[<- k5.length,(cells?_get k3).1]⟩
   refine⟨_,⟨l,hll,rfl,by omega⟩,?_⟩
   simp only[LR]
   refine⟨_,_,rfl,?_,rfl⟩
   simp only[VR]
   have hfl:l.flatten.length=l.length*z:=by
    clear h1 h3
    induction l with
    |nil=>simp
    |cons u l ih=>simp only[Y15,Y0a,Y06,(hll u (by simp)).2,ih λv hv=>hll v (by simp[hv])];rw[Nat.add_mul];omega
   have hspot:len≠0->a.spot=none:=by
    intro h0
    obtain⟨vs,u,k1,k2,k3,k4,k5⟩:=h3 0 (by omega)
    obtain⟨g1,g2⟩:=cells?_get k3
    have:W.cell? ((a.add (0*z)).add 0)=some vs[0]:=g2 0 _ (Y0y (by omega))
    rw[Nat.zero_mul]at this
    simpa[Addr.add]using World.cell?_spot this
   refine .inr ⟨a,cap,by rw[h1],by omega,hfl,Z2x λk u hu=>?_,λh0=>hspot (by rw[<- h1];exact h0)⟩
   obtain⟨x',g1,g2⟩:=Z66 hz0 (λu hu=>(hll u hu).2) hu
   have hklt:k / z<len:=by rw[<- h1];exact (Y0p.1 g1).1
   obtain⟨vs,u',k1,k2,k3,k4,k5⟩:=h3 (k / z) hklt
   rw[g1]at k1;simp at k1;subst k1
   obtain⟨v,e1,e2⟩:=k5.get g2
   refine⟨v,?_,e2⟩
   have hc:=(cells?_get k3).2 _ _ e1
   rw[Z8f a (hspot (Nat.ne_of_gt (Y0T (Y07 _) hklt)))]at hc
   have hk:a.off+k / z*z+k % z=a.off+k:=by rw[Nat.add_assoc,Nat.mul_comm,Nat.div_add_mod]
   rw[hk]at hc
   unfold Z2s
   have hlt:a.block<W.heap.size:=by
    cases hq:W.heap[a.block]? with
    |none=>unfold World.cell? at hc;simp only[hq]at hc;cases hc
    |some ob=>exact (Array.getElem?_eq_some_iff.1 hq).1
   rw[if_pos (by exact hlt)];exact hc
def Z2W(P:Program)(N:Nat):List Field->List (List AV->Prop)->Nat->Nat->Prop
 |[],[],off,tot=>off=tot
 |f::fs,Q::Qs,off,tot=>f.offset=off/\OpensB P N f.type Q/\Z2W P N fs Qs (off+P.cellsOf f.type) tot
 |_,_,_,_=>False
theorem Zb8 {N : Nat} {H : Type} {enc : TypeId × Value -> H} {W : World} {n tot : Nat} {cs : List Value} (hcs : cs.length = tot) (hN : n <= N) : ∀ {fs : List Field} {Qs : List (List AV -> Prop)} {xs : List (DataW H × List MemPlace)} {off : Nat}, Z2W P N fs Qs off tot -> xs.length = fs.length -> off <= tot ->
  (∀(i:Nat)(f:Field),fs[i]? = some f->DataW.trod enc P W 0 (λ_=>true) true n f.type ((cs.drop f.offset).take (P.cellsOf f.type))=xs[i]?)->∃us,FsQ Qs us/\LR (Z2s W) noI us (cs.drop off)
 |[],[],xs,off,h,hl,ho,hx=>by
  have:off=tot:=h
  subst this
  exact⟨[],rfl,by simp[LR,<- hcs]⟩
 |f::fs,Q::Qs,xs,off,h,hl,ho,hx=>by
  obtain⟨h1,h2,h3⟩:=h
  cases xs with
  |nil=>simp at hl
  |cons x xs =>
   have h0:=hx 0 f rfl
   simp only[List.getElem?_cons_zero]at h0
   obtain⟨u,q1,q2⟩:=h2 H enc W n _ _ hN h0
   have hle:∀(fs:List Field)(Qs:List (List AV->Prop))(o:Nat),Z2W P N fs Qs o tot->o<=tot:=by
    intro fs
    induction fs with
    |nil=>intro Qs o h;cases Qs with|nil=>exact Nat.le_of_eq h|cons _ _=>exact h.elim
    |cons g gs ih=>intro Qs o h;cases Qs with|nil=>exact h.elim|cons _ _=>have:=ih _ _ h.2.2;omega
   obtain⟨us,q3,q4⟩:=Zb8 hcs hN h3 (by simpa using hl) (hle _ _ _ h3) λi g hg=>by simpa using hx (i+1) g (by simpa using hg)
   refine⟨u++us,⟨u,us,rfl,q1,q3⟩,?_⟩
   rw[h1]at q2
   have:=q2.append q4
   rwa [<- List.drop_drop,List.take_append_drop]at this
 |[],_::_,xs,off,h,hl,ho,hx=>h.elim
 |_::_,[],xs,off,h,hl,ho,hx=>h.elim
theorem Z5q{N:Nat}{t:TypeId}{fs:Array Field}{Qs:List (List AV->Prop)}(ht:P.underlying t=some (.struct fs))(h:Z2W P N fs.toList Qs 0 (P.cellsOf t)):OpensB P (N+1) t (FsQ Qs):=by
 intro H enc W fuel cs x hN hx
 obtain⟨xs,n,hfu,_,hl,hlen,hf⟩:=DataW.trod_struct ht hx
 obtain⟨us,h1,h2⟩:=Zb8 hl (by omega) h (by simpa using hlen) (Y07 _) λi f hi=>hf i f (by simpa using hi)
 exact⟨us,h1,by simpa using h2⟩
end opens
end Go.Abs
end
section
namespace Go.Proofs.YthbimonbnaodkaaGreatDoor.lex
open Go.Abs Go.RowKit Go.Flat
def QE(us:List AV):Prop:=∃e:Ex,us=e.cells/\okE e
def QEL(us:List AV):Prop:=∃l:List Ex,us=[exA l]/\okL l/\l.length<=maxLen
def QI(us:List AV):Prop:=∃n,us=[.int .i64 n]/\(Lit.int .i64 n).wf=true
def QT(us:List AV):Prop:=∃s:List UInt8,us=[.str s]/\s.length<=maxLen
theorem Z81:∀l:List (List AV),(∀u∈l,QE u/\u.length=4)->∃m:List Ex,l.flatten=exC m/\l.length=m.length/\okL m
 |[],_=>⟨[],by simp only[exC,List.flatten_nil],rfl,trivial⟩
 |u::l,h=>by
  obtain⟨m,h1,h2,h3⟩:=Z81 l λv hv=>h v (by simp[hv])
  obtain⟨⟨e,rfl,h4⟩,_⟩:=h u (by simp)
  exact⟨e::m,by simp only[Y15,exC,h1],by simp[h2],by simp only[okL];exact⟨h4,h3⟩⟩
theorem fsE(N:Nat)(h:OpensB Y00 N 35 QEL):Z2W Y00 N (match Y00.underlying 69 with|some (.struct fs)=>fs.toList|_=>[]) [QI,QI,QT,QEL] 0 (Y00.cellsOf 69):=by
 rw[Y16]
 refine⟨rfl,.of (Z0B Y0b),?_⟩
 refine⟨by kernel_rfl,.of (Z0B Tryz.underlying2),?_⟩
 refine⟨by kernel_rfl,.of (Zb6 Tryz.underlying9),?_⟩
 refine⟨by kernel_rfl,h,?_⟩
 unfold Z2W;kernel_rfl
theorem q_e{us:List AV}(h:FsQ [QI,QI,QT,QEL] us):QE us:=by
 obtain⟨a,u1,rfl,⟨n1,rfl,_⟩,b,u2,rfl,⟨n2,rfl,_⟩,c,u3,rfl,⟨s,rfl,hs⟩,d,u4,rfl,⟨k,rfl,hk,hkl⟩,h3⟩:=h
 have h3:u4=[]:=h3
 subst h3
 exact⟨.mk n1 n2 s k,by simp only[Ex.cells];rfl,by simp only[okE,okN];exact⟨⟨hs,hkl⟩,hk⟩⟩
theorem Zb7:∀N,OpensB Y00 N 69 QE/\OpensB Y00 N 35 QEL
 |0=>⟨Z3D,Z3D⟩
 |N+1=>by
  obtain⟨h1,h2⟩:=Zb7 N
  have h3:=fsE N h2
  rw[Y16]at h3
  refine⟨(Z5q Y16 h3).mono λu hu=>q_e hu,(Z6v Tryz.underlying35 (by kernel_rfl) (show (4:Nat)≠0 by decide) h1).mono ?_⟩
  rintro u ⟨l,hl,rfl,hll⟩
  obtain⟨m,e1,e2,e3⟩:=Z81 l hl
  exact⟨m,by rw[e1,e2];rfl,e3,by rw[<- e2];exact hll⟩
def QN(us:List AV):Prop:=∃i:Ins,us=icells i/\i.ex.length<=9223372036854775807/\okL i.ex
def QNL(us:List AV):Prop:=∃l:List Ins,us=[.rs l.length 6 (inC l)]/\l.length<=9223372036854775807/\∀i∈l,i.ex.length<=9223372036854775807/\okL i.ex
theorem Z7P:∀l:List (List AV),(∀u∈l,QN u/\u.length=6)->∃m:List Ins,l.flatten=inC m/\l.length=m.length/\∀i∈m,i.ex.length<=9223372036854775807/\okL i.ex
 |[],_=>⟨[],by simp only[inC,List.flatten_nil],rfl,by simp⟩
 |u::l,h=>by
  obtain⟨m,h1,h2,h3⟩:=Z7P l λv hv=>h v (by simp[hv])
  obtain⟨⟨e,rfl,h4⟩,_⟩:=h u (by simp)
  exact⟨e::m,by simp only[Y15,inC,h1],by simp[h2],λd hd=>by rcases Y09.1 hd with rfl|hd;exact h4;exact h3 d hd⟩
theorem fsN:Z1Z Y00 (match Y00.underlying 37 with|some (.struct fs)=>fs.toList|_=>[]) [QI,QI,QI,QI,QI,QEL] 0 (Y00.cellsOf 37):=by
 rw[Y17]
 refine⟨rfl,Z0B Y0b,?_⟩
 refine⟨by kernel_rfl,Z0B Y0b,?_⟩
 refine⟨by kernel_rfl,Z0B Y0b,?_⟩
 refine⟨by kernel_rfl,Z0B Y0b,?_⟩
 refine⟨by kernel_rfl,Z0B Y0b,?_⟩
 refine⟨by kernel_rfl,OpensB.all λN=>(Zb7 N).2,?_⟩
 unfold Z1Z;kernel_rfl
theorem q_n{us:List AV}(h:FsQ [QI,QI,QI,QI,QI,QEL] us):QN us:=by
 obtain⟨a,u1,rfl,⟨n1,rfl,_⟩,b,u2,rfl,⟨n2,rfl,_⟩,c,u3,rfl,⟨n3,rfl,_⟩,d,u4,rfl,⟨n4,rfl,_⟩,e,u5,rfl,⟨n5,rfl,_⟩,f,u6,rfl,⟨k,rfl,hk,hkl⟩,h3⟩:=h
 have h3:u6=[]:=h3
 subst h3
 exact⟨⟨n1,n2,n3,n4,n5,k⟩,rfl,hkl,hk⟩
theorem ZcS:Z6T Y00 22 QNL:=by
 have h3:=fsN
 rw[Y17]at h3
 refine Z4q (Z7C Tryz.underlying22 (by kernel_rfl) (show (6:Nat)≠0 by decide) (Z4q (Z47 Y17 h3) λu hu=>q_n hu)) ?_
 rintro u ⟨l,hl,rfl,hll⟩
 obtain⟨m,e1,e2,e3⟩:=Z7P l hl
 exact⟨m,by rw[e1,e2],by rw[<- e2];exact hll,e3⟩
theorem fsC:Z1Z Y00 (match Y00.underlying 24 with|some (.struct fs)=>fs.toList|_=>[]) [QI,QNL] 0 (Y00.cellsOf 24):=by
 rw[Y18]
 refine⟨rfl,Z0B Y0b,?_⟩
 refine⟨by kernel_rfl,ZcS,?_⟩
 unfold Z1Z;kernel_rfl
theorem opensC:Z6L Y00 24 λu=>∃c:Cd,u=c.av/\okC c:=by
 have h3:=fsC
 rw[Y18]at h3
 refine Z4L (Z3C Y18 h3) ?_
 rintro u ⟨us,rfl,a,u1,rfl,⟨n,rfl,_⟩,b,u2,rfl,⟨l,rfl,hl,ho⟩,h4⟩
 have h4:u2=[]:=h4
 subst h4
 exact⟨⟨n,l⟩,rfl,hl,ho⟩
def ltI(i:Ins):Bool:=decide (i.ex.length<=4)&&i.ex.all λe=>decide (0<=Z0X e 60)
def ltC(c:Cd)(n:Int):Bool:=decide ((c.ins.length:Int)<=n)&&c.ins.all ltI
theorem Z9T{c:Cd}{n:Int}(h:ltC c n=true):(c.ins.length:Int)<=n/\∀i∈c.ins,∀e∈i.ex,Z0a e<=800000:=by
 unfold ltC at h
 simp only[Y04,decide_eq_true_eq]at h
 refine⟨h.1,λi hi e he=>?_⟩
 have h1:=Y0x.1 h.2 i hi
 unfold ltI at h1
 simp only[Y04,decide_eq_true_eq]at h1
 have h2:=Y0x.1 h1.2 e he
 simp only[decide_eq_true_eq]at h2
 have:=Z65 e 60 h2
 omega
variable {gl:Z0o}
theorem Zbl(c:Cd)(hok:okC c)(n:Int):ValOK Y00 gl 9 [c.av,.int .i64 n] (.bool (ltC c n)):=by
 obtain⟨regs,ins⟩:=c
 obtain⟨hl,hx⟩:=hok
 simp only at hl hx
 have hinj:∀x y:Ex,okE x->okE y->[AV.agg x.cells,.int .i64 60]=[AV.agg y.cells,.int .i64 60]->AV.bool (decide (0<=Z0X x 60)) = .bool (decide (0<=Z0X y 60)):=λx y _ _ h=>by
  simp only[List.cons.injEq,AV.agg.injEq,and_true]at h
  rw[Z0M _ _ h]
 obtain⟨O,hO,p1,-⟩:=fams (P:=Y00) (gl:=gl) [{ I:=Ex,f:=47,G:=λx=>okE x,A:=λx=>[.agg x.cells,.int .i64 60],R:=λx=>.bool (decide (0<=Z0X x 60)),body:=(by kernel_rfl),inj:=hinj,ok:=(λx hx=>⟨by obtain⟨o,m,s,k⟩:=x;simp only[Ex.cells];rfl,Zkb x 60 hx (by decide) (by decide)⟩) }] rfl
 have q1:∀x,okE x->∀H,Z02 Y00 O H 47 [.agg x.cells,.int .i64 60]=some (.bool (decide (0<=Z0X x 60)),H):=p1
 clear p1 hinj
 unfold ltC
 simp only[Cd.av]
 refine Z05 follows Z07 hO Tryz.func9 rfl ?_
 by_cases h1:(ins.length:Int)<=n
 case' neg =>
  have e1:decide ((ins.length:Int)>n)=true:=by simp;omega
  rw[show decide ((ins.length:Int)<=n)=false by simpa using h1]
  repeat' ((conv=>whnf);first|refine stp ?_|with_reducible apply Z01<;>intro h)
  all_goals rfl
 have e1:decide ((ins.length:Int)>n)=false:=by simp;omega
 rw[show decide ((ins.length:Int)<=n)=true by simpa using h1,Y08]
 repeat' ((conv=>whnf);first|refine stp ?_|with_reducible apply Z01<;>intro h)
 conv=>whnf
 refine⟨Nat,(λi=>i<=ins.length/\(ins.take i).all ltI=true),(λi=>[(2,.ptr 0 0),(5,.int .i64 (i:Nat))]),(λi=>[⟨true,0,0,.cells [.int .i64 regs,.rs ins.length 6 (inC ins)] 24⟩]),(λi=>ins.length-i),⟨0,⟨Y07 _,rfl⟩,?_⟩,?_⟩
 · refine FgL.mk [0] rfl ?_ ⟨hbp,trivial⟩ rfl
   exact wks
 rintro i ⟨hi,hall⟩
 dsimp only
 by_cases hlt:i<ins.length
 · have e3:decide ((i:Int)<(ins.length:Int))=true:=by simpa using hlt
   have hx5:=ZmC ins i hlt
   have hat:=Znt (p:=ltI) ins i hlt
   rw[hall,Y08]at hat
   have hst:=Z6h (p:=ltI) hlt
   have hxi:=hx _ (Z03 hlt)
   generalize ins[i]=y at *
   obtain⟨k,r,lo,od,to,ex⟩:=y
   simp only[exA,ltI]at *
   by_cases h4:ex.length<=4
   · have e4:decide ((ex.length:Int)>4)=false:=by simp;omega
     rw[show decide (ex.length<=4)=true by simpa using h4,Y08]at hat hst
     repeat' ((conv=>whnf);first|refine exI hx5 ?_|(with_reducible refine ixJ i rfl ?_ ?_;focus omega)|refine stp ?_|with_reducible apply Z01<;>intro h)
     conv=>whnf
     refine⟨Nat,(λm=>m<=ex.length/\(ex.take m).all (λe=>decide (0<=Z0X e 60))=true),(λm=>[(2,.ptr 0 0),(5,.int .i64 (i:Nat)),(6,.int .i64 (m:Nat))]),(λm=>[⟨true,0,0,.cells [.int .i64 regs,.rs ins.length 6 (inC ins)] 24⟩]),(λm=>ex.length-m),⟨0,⟨Y07 _,rfl⟩,?_⟩,?_⟩
     · refine FgL.mk [0] rfl ?_ ⟨hbp,trivial⟩ rfl
       exact wks
     rintro m ⟨hm,hall2⟩
     dsimp only
     by_cases hmt:m<ex.length
     · have e5:decide ((m:Int)<(ex.length:Int))=true:=by simpa using hmt
       have q3:=q1 ex[m] (Z0k hxi.2 _ (Z03 hmt))
       have hx4:=ex4 ex m hmt
       have ham:=Znt (p:=λe=>decide (0<=Z0X e 60)) ex m hmt
       rw[hall2,Y08]at ham
       have hb2:=Z6h (p:=λe=>decide (0<=Z0X e 60)) (l:=ex) hmt
       clear q1
       generalize Z0X ex[m] 60=ce at *
       generalize ex[m]=x at *
       obtain⟨xo,xn,xs,xk⟩:=x
       simp only[Ex.cells]at hx4 q3
       cases hb:decide (0<=ce) with
       |true =>
        rw[hb]at ham q3
        repeat' ((conv=>whnf);first|refine exI (q3 _) ?_|refine exI hx5 ?_|refine exI hx4 ?_|(with_reducible refine ixJ i rfl ?_ ?_;focus omega)|(with_reducible refine ixJ m rfl ?_ ?_;focus omega)|refine stp ?_|with_reducible apply Z01<;>intro h)
        conv=>whnf
        refine⟨m+1,⟨hmt,ham⟩,by show ex.length-(m+1)<ex.length-m;omega,?_⟩
        refine FgL.mk [0] rfl ?_ ⟨hbp,trivial⟩ rfl
        exact wks
       |false =>
        rw[hst (hb2 hb)]
        rw[hb]at q3
        repeat' ((conv=>whnf);first|refine exI (q3 _) ?_|refine exI hx5 ?_|refine exI hx4 ?_|(with_reducible refine ixJ i rfl ?_ ?_;focus omega)|(with_reducible refine ixJ m rfl ?_ ?_;focus omega)|refine stp ?_|with_reducible apply Z01<;>intro h)
        all_goals rfl
     · have e5:decide ((m:Int)<(ex.length:Int))=false:=by simpa using hmt
       have hm2:m=ex.length:=by omega
       subst hm2
       rw[Y0f]at hall2
       rw[hall2]at hat
       repeat' ((conv=>whnf);first|refine exI hx5 ?_|(with_reducible refine ixJ i rfl ?_ ?_;focus omega)|refine stp ?_|with_reducible apply Z01<;>intro h)
       conv=>whnf
       refine⟨i+1,⟨hlt,hat⟩,by show ins.length-(i+1)<ins.length-i;omega,?_⟩
       refine FgL.mk [0] rfl ?_ ⟨hbp,trivial⟩ rfl
       exact wks
   · have e4:decide ((ex.length:Int)>4)=true:=by simp;omega
     rw[hst (by rw[show decide (ex.length<=4)=false by simpa using h4];rfl)]
     repeat' ((conv=>whnf);first|refine exI hx5 ?_|(with_reducible refine ixJ i rfl ?_ ?_;focus omega)|refine stp ?_|with_reducible apply Z01<;>intro h)
     all_goals rfl
 · have e3:decide ((i:Int)<(ins.length:Int))=false:=by simpa using hlt
   have hi2:i=ins.length:=by omega
   subst hi2
   rw[Y0f]at hall
   rw[hall]
   repeat' ((conv=>whnf);first|refine stp ?_|with_reducible apply Z01<;>intro h)
   all_goals rfl
end Go.Proofs.YthbimonbnaodkaaGreatDoor.lex
end
section
namespace Go.Proofs.YthbimonbnaodkaaGreatDoor.lex
open Go.Abs Go.RowKit Go.Flat
theorem Z9N(c:Cd)(hok:okC c)(hc:Z2o c=0)(a:Nat)(ha:a<c.ins.length):ValOK Y00 runLives.gl 32 [c.av,.int .i64 a] (Z1a (Z0v c.ins a)):=by
 have hck:=Z14 c hok
 rw[hc]at hck
 have hg:=(Z2j hc).good
 obtain⟨regs,l⟩:=c
 simp only[Cd.av]at *
 have hf:=hg.few
 obtain⟨O,hO,p1,p2,-⟩:=fams (P:=Y00) (gl:=runLives.gl) [{ I:=Unit,f:=31,G:=λ_=>True,A:=λ_=>[.agg [.int .i64 regs,.rs l.length 6 (inC l)]],R:=λ_=>.int .i64 0,body:=(by kernel_rfl),inj:=λ_ _ _ _ _=>rfl,ok:=λ_ _=>⟨rfl,hck⟩ },
  { I:=Unit,f:=94,G:=λ_=>True,A:=λ_=>[.agg [.int .i64 regs,.rs l.length 6 (inC l)],.int .i64 a],R:=λ_=>Z1a (Z0v l a),body:=(by kernel_rfl),inj:=(λ_ _ _ _ _=>rfl),ok:=λ_ _=>⟨rfl,Z9O regs l a ha hf (hg.to a ha)⟩ }] rfl
 have q1:∀H,Z02 Y00 O H 31 [.agg [.int .i64 regs,.rs l.length 6 (inC l)]]=some (.int .i64 0,H):=p1 () trivial
 have q2:∀H,Z02 Y00 O H 94 [.agg [.int .i64 regs,.rs l.length 6 (inC l)],.int .i64 a]=some (Z1a (Z0v l a),H):=p2 () trivial
 clear p1 p2 hck
 have e1:decide ((a:Int)<0)=false:=by simp
 have e2:decide ((a:Int) >= (l.length:Int))=false:=by simp;omega
 generalize Z0v l a=L at *
 simp only[Z1a]at q2⊢
 refine Z05 follows Z07 hO Tryz.func32 rfl ?_
 repeat' ((conv=>whnf);first|(refine Z1N (q1 _) ?_)|(refine Z1N (q2 _) ?_)|refine stp ?_|with_reducible apply Z01<;>intro h)
 all_goals rfl
end Go.Proofs.YthbimonbnaodkaaGreatDoor.lex
end
namespace Go.Proofs.YthbimonbnaodkaaGreatDoor.lex
open Go.Abs Go.RowKit
section
variable {gl:Z0o}
def Z3S{α β : Type}(f : α -> β -> Bool):List α -> List β -> Bool
 |[],[]=>true
 |x::a,y::b=>f x y&&Z3S f a b
 |_,_=>false
theorem Z2U{α β : Type}(f : α -> β -> Bool):∀(a:List α)(b:List β),a.length≠b.length->Z3S f a b=false
 |[],[],h=>by simp at h
 |[],_::_,_=>rfl
 |_::_,[],_=>rfl
 |x::a,y::b,h=>by simp only[Z3S,Z2U f a b (by simpa using h),Bool.and_false]
theorem Z2e{α β : Type}(f : α -> β -> Bool):∀(a:List α)(b:List β)(i:Nat)(h:i<a.length)(h':i<b.length),Z3S f (a.take (i+1)) (b.take (i+1))=(Z3S f (a.take i) (b.take i)&&f a[i] b[i])
 |x::a,y::b,0,h,h'=>by simp[Z3S]
 |x::a,y::b,i+1,h,h'=>by
  have:=Z2e f a b i (by simpa using h) (by simpa using h')
  simp only[Y0F,Z3S,Y0n]at this⊢;rw[this,Bool.and_assoc]
theorem Z2V{α β : Type}(f : α -> β -> Bool):∀{a:List α}{b:List β}{i:Nat}(h:i<a.length)(h':i<b.length),f a[i] b[i]=false->Z3S f a b=false
 |x::a,y::b,0,h,h',e=>by simp only[Y0R]at e;simp only[Z3S,e,Y0O]
 |x::a,y::b,i+1,h,h',e=>by simp only[Y0n]at e;simp only[Z3S,Z2V f (a:=a) (b:=b) (by simpa using h) (by simpa using h') e,Bool.and_false]
theorem ZbX{α : Type}(f : α -> α -> Bool):∀{a:List α},(∀x∈a,f x x=true)->Z3S f a a=true
 |[],_=>rfl
 |x::a,h=>by simp only[Z3S,h x (by simp),ZbX f (a:=a) λy hy=>h y (by simp[hy]),Y08]
mutual
def Z0O:Ex->Ex->Bool
 | .mk o n s k,.mk o' n' s' k'=>(o==o')&&((n==n')&&((s==s')&&sameL k k'))
def sameL:List Ex->List Ex->Bool
 |[],[]=>true
 |x::a,y::b=>Z0O x y&&sameL a b
 |_,_=>false
end
theorem Z5h:∀(a b:List Ex),sameL a b=Z3S Z0O a b
 |[],[]=>by simp only[sameL,Z3S]
 |[],_::_=>by simp only[sameL,Z3S]
 |_::_,[]=>by simp only[sameL,Z3S]
 |x::a,y::b=>by simp only[sameL,Z3S,Z5h a b]
theorem Zjk(a b:Ex):refsL [.agg a.cells,.agg b.cells] []=[]:=by
 obtain⟨o,n,s,k⟩:=a
 obtain⟨o',n',s',k'⟩:=b
 simp only[Ex.cells];rfl
def ZeV{g:Nat}(hb:Z0l Y00 g=true)(G:Ex×Ex->Prop)(h:∀p,G p->ValOK Y00 gl g [.agg p.1.cells,.agg p.2.cells] (.bool (Z0O p.1 p.2))):Fam Y00 gl:={ I:=Ex×Ex,f:=g,G:=G,A:=λp=>[.agg p.1.cells,.agg p.2.cells],R:=λp=>.bool (Z0O p.1 p.2),body:=hb,inj:=(λi j _ _ h=>by simp only[List.cons.injEq,AV.agg.injEq,and_true]at h;rw[Z0M _ _ h.1,Z0M _ _ h.2]),ok:=(λp hp=>⟨Zjk p.1 p.2,h p hp⟩) }
theorem Zih(a b:List Ex)(ha:a.length<=9223372036854775807)(each:∀x∈a,∀y∈b,ValOK Y00 gl 146 [.agg x.cells,.agg y.cells] (.bool (Z0O x y))):ValOK Y00 gl 145 [exA a,exA b,.func (.func 146) [] []] (.bool (sameL a b)):=by
 obtain⟨O,hO,p1,-⟩:=fams (P:=Y00) (gl:=gl) [ZeV (g:=146) (by kernel_rfl) (λp=>p.1∈a/\p.2∈b) (λp hp=>each _ hp.1 _ hp.2)] rfl
 have q1:∀x∈a,∀y∈b,∀H,Z02 Y00 O H 146 [.agg x.cells,.agg y.cells]=some (.bool (Z0O x y),H):=λx hx y hy=>p1 (x,y) ⟨hx,hy⟩
 clear p1
 rw[Z5h]
 unfold exA
 refine Z05 follows Z07 hO Tryz.func145 rfl ?_
 by_cases hl:a.length=b.length
 · have e0:((a.length:Int)==(b.length:Int))=true:=by rw[hl];simp
   repeat' ((conv=>whnf);first|refine stp ?_|with_reducible apply Z01<;>intro h)
   conv=>whnf
   refine⟨Nat,(λi=>i<=a.length/\Z3S Z0O (a.take i) (b.take i)=true),(λi=>[(1,.rs b.length 4 (exC b)),(2,.func (.func 146) [] []),(15,.rs a.length 4 (exC a)),(16,.int .i64 a.length),(17,.int .i64 i)]),(λ_=>[]),(λi=>a.length-i),⟨0,⟨Y07 _,rfl⟩,FgL.mk0 rfl ?_⟩,?_⟩
   ·exact wks
   rintro i ⟨hi,hall⟩
   dsimp only
   by_cases hlt:i<a.length
   · have e1:decide ((i:Int)<(a.length:Int))=true:=by simpa using hlt
     have hlt':i<b.length:=by omega
     have hat:=Z2e Z0O a b i hlt hlt'
     rw[hall,Y08]at hat
     have hfalse:Z0O a[i] b[i]=false->Z3S Z0O a b=false:=Z2V Z0O hlt hlt'
     have hx:=ex4 a i hlt
     have hy:=ex4 b i hlt'
     have q2:=q1 a[i] (Z03 hlt) b[i] (Z03 hlt')
     generalize a[i]=x at *
     generalize b[i]=y at *
     generalize Z0O x y=w at *
     obtain⟨o,n,s,k⟩:=x
     obtain⟨o',n',s',k'⟩:=y
     simp only[Ex.cells]at hx hy q2
     cases w with
     |true =>
      repeat' ((conv=>whnf);first|with_reducible refine exI (q2 _) ?_|(with_reducible refine ixJ i rfl ?_ ?_;focus omega)|refine exI hx ?_|refine exI hy ?_|refine stp ?_|with_reducible apply Z01<;>intro h)
      conv=>whnf
      refine⟨i+1,⟨hlt,hat⟩,by show a.length-(i+1)<a.length-i;omega,FgL.mk0 rfl ?_⟩
      exact wks
     |false =>
      rw[hfalse rfl]
      repeat' ((conv=>whnf);first|with_reducible refine exI (q2 _) ?_|(with_reducible refine ixJ i rfl ?_ ?_;focus omega)|refine exI hx ?_|refine exI hy ?_|refine stp ?_|with_reducible apply Z01<;>intro h)
      all_goals rfl
   · have e1:decide ((i:Int)<(a.length:Int))=false:=by simpa using hlt
     have hi2:i=a.length:=by have:=hi;omega
     subst hi2
     rw[Y0f,hl,Y0f]at hall
     rw[hall]
     repeat' ((conv=>whnf);first|refine stp ?_|with_reducible apply Z01<;>intro h)
     all_goals rfl
 · rw[Z2U _ _ _ hl]
   have e0:((a.length:Int)==(b.length:Int))=false:=by simpa using (λh=>hl (by omega))
   repeat' ((conv=>whnf);first|refine stp ?_|with_reducible apply Z01<;>intro h)
   all_goals rfl
theorem Zeb:∀(n:Nat)(a b:Ex),Z0a a<=n->okE a->ValOK Y00 gl 146 [.agg a.cells,.agg b.cells] (.bool (Z0O a b))
 |n,.mk o m s k,.mk o' m' s' k',h,hok=>by
  have hk:=Z0S hok
  simp only[Ex.kids,Ex.name,okN]at hk
  simp only[Z0a]at h
  obtain⟨O,hO,p1,-⟩:=fams (P:=Y00) (gl:=gl) [{ I:=Unit,f:=145,G:=λ_=>True,A:=λ_=>[exA k,exA k',.func (.func 146) [] []],R:=λ_=>.bool (sameL k k'),body:=(by kernel_rfl),inj:=(λ_ _ _ _ _=>rfl),ok:=(λ_ _=>⟨rfl,Zih k k' hk.1.2 λx hx y _=>match n,(show 1<=n by omega),h with|n+1,_,h=>Zeb n x y (by have:=Z0h _ _ hx;omega) (Z0k hk.2 _ hx)⟩) }] rfl
  have q1:∀H,Z02 Y00 O H 145 [exA k,exA k',.func (.func 146) [] []]=some (.bool (sameL k k'),H):=p1 () trivial
  clear p1
  simp only[Ex.cells,exA,Z0O]at q1⊢
  generalize sameL k k'=w at *
  refine Z05 follows Z07 hO Tryz.func146 rfl ?_
  generalize hb1:(o==o')=b1
  generalize hb2:(m==m')=b2
  generalize hb3:(s==s')=b3
  cases b1<;>cases b2<;>cases b3<;>cases w
  all_goals (repeat' ((conv=>whnf);first|with_reducible refine exI (q1 _) ?_|refine stp ?_|with_reducible apply Z01<;>intro h))
  all_goals (first|rfl|(simp_all[Z1C];done))
theorem Zbo(a b:List Ex)(ha:a.length<=9223372036854775807)(each:∀x∈a,∀y∈b,ValOK Y00 gl 163 [.agg x.cells,.agg y.cells] (.bool (Z0O x y))):ValOK Y00 gl 131 [exA a,exA b] (.bool (sameL a b)):=by
 obtain⟨O,hO,p1,-⟩:=fams (P:=Y00) (gl:=gl) [ZeV (g:=163) (by kernel_rfl) (λp=>p.1∈a/\p.2∈b) (λp hp=>each _ hp.1 _ hp.2)] rfl
 have q1:∀x∈a,∀y∈b,∀H,Z02 Y00 O H 163 [.agg x.cells,.agg y.cells]=some (.bool (Z0O x y),H):=λx hx y hy=>p1 (x,y) ⟨hx,hy⟩
 clear p1
 rw[Z5h]
 unfold exA
 refine Z05 follows Z07 hO Tryz.func131 rfl ?_
 by_cases hl:a.length=b.length
 · have e0:((a.length:Int) != (b.length:Int))=false:=Z0n (b:=true) (by rw[hl];simp)
   repeat' ((conv=>whnf);first|refine stp ?_|with_reducible apply Z01<;>intro h)
   conv=>whnf
   refine⟨Nat,(λi=>i<=a.length/\Z3S Z0O (a.take i) (b.take i)=true),(λi=>[(0,.rs a.length 4 (exC a)),(1,.rs b.length 4 (exC b)),(5,.int .i64 i)]),(λ_=>[]),(λi=>a.length-i),⟨0,⟨Y07 _,rfl⟩,FgL.mk0 rfl ?_⟩,?_⟩
   ·exact wks
   rintro i ⟨hi,hall⟩
   dsimp only
   by_cases hlt:i<a.length
   · have e1:decide ((i:Int)<(a.length:Int))=true:=by simpa using hlt
     have hlt':i<b.length:=by omega
     have hat:=Z2e Z0O a b i hlt hlt'
     rw[hall,Y08]at hat
     have hfalse:Z0O a[i] b[i]=false->Z3S Z0O a b=false:=Z2V Z0O hlt hlt'
     have hx:=ex4 a i hlt
     have hy:=ex4 b i hlt'
     have q2:=q1 a[i] (Z03 hlt) b[i] (Z03 hlt')
     generalize a[i]=x at *
     generalize b[i]=y at *
     generalize Z0O x y=w at *
     obtain⟨o,n,s,k⟩:=x
     obtain⟨o',n',s',k'⟩:=y
     simp only[Ex.cells]at hx hy q2
     cases w with
     |true =>
      repeat' ((conv=>whnf);first|with_reducible refine exI (q2 _) ?_|(with_reducible refine ixJ i rfl ?_ ?_;focus omega)|refine exI hx ?_|refine exI hy ?_|refine stp ?_|with_reducible apply Z01<;>intro h)
      conv=>whnf
      refine⟨i+1,⟨hlt,hat⟩,by show a.length-(i+1)<a.length-i;omega,FgL.mk0 rfl ?_⟩
      exact wks
     |false =>
      rw[hfalse rfl]
      repeat' ((conv=>whnf);first|with_reducible refine exI (q2 _) ?_|(with_reducible refine ixJ i rfl ?_ ?_;focus omega)|refine exI hx ?_|refine exI hy ?_|refine stp ?_|with_reducible apply Z01<;>intro h)
      all_goals rfl
   · have e1:decide ((i:Int)<(a.length:Int))=false:=by simpa using hlt
     have hi2:i=a.length:=by have:=hi;omega
     subst hi2
     rw[Y0f,hl,Y0f]at hall
     rw[hall]
     repeat' ((conv=>whnf);first|refine stp ?_|with_reducible apply Z01<;>intro h)
     all_goals rfl
 · rw[Z2U _ _ _ hl]
   have e0:((a.length:Int) != (b.length:Int))=true:=Z0n (b:=false) (by simpa using (λh=>hl (by omega)))
   repeat' ((conv=>whnf);first|refine stp ?_|with_reducible apply Z01<;>intro h)
   all_goals rfl
theorem ZeG:∀(n:Nat)(a b:Ex),Z0a a<=n->okE a->ValOK Y00 gl 163 [.agg a.cells,.agg b.cells] (.bool (Z0O a b))
 |n,.mk o m s k,.mk o' m' s' k',h,hok=>by
  have hk:=Z0S hok
  simp only[Ex.kids,Ex.name,okN]at hk
  simp only[Z0a]at h
  obtain⟨O,hO,p1,-⟩:=fams (P:=Y00) (gl:=gl) [{ I:=Unit,f:=131,G:=λ_=>True,A:=λ_=>[exA k,exA k'],R:=λ_=>.bool (sameL k k'),body:=(by kernel_rfl),inj:=(λ_ _ _ _ _=>rfl),ok:=(λ_ _=>⟨rfl,Zbo k k' hk.1.2 λx hx y _=>match n,(show 1<=n by omega),h with|n+1,_,h=>ZeG n x y (by have:=Z0h _ _ hx;omega) (Z0k hk.2 _ hx)⟩) }] rfl
  have q1:∀H,Z02 Y00 O H 131 [exA k,exA k']=some (.bool (sameL k k'),H):=p1 () trivial
  clear p1
  simp only[Ex.cells,exA,Z0O]at q1⊢
  generalize sameL k k'=w at *
  refine Z05 follows Z07 hO Tryz.func163 rfl ?_
  generalize hb1:(o==o')=b1
  generalize hb2:(m==m')=b2
  generalize hb3:(s==s')=b3
  cases b1<;>cases b2<;>cases b3<;>cases w
  all_goals (repeat' ((conv=>whnf);first|with_reducible refine exI (q1 _) ?_|refine stp ?_|with_reducible apply Z01<;>intro h))
  all_goals (first|rfl|(simp_all[Z1C];done))
end
section
def Z3P(s:List UInt8):List (List UInt8)->Nat
 |[]=>0
 |x::o=>if Op.bytesLess x s=true then Z3P s o+1 else 0
def Z9W(s:List UInt8):List (List UInt8)->List (List UInt8)
 |[]=>[s]
 |x::o=>if Op.bytesLess x s=true then x::Z9W s o else if (x==s)=true then x::o else s::x::o
def Z3r(l:List (List UInt8)):List (List UInt8):=l.foldl (λo s=>Z9W s o) []
theorem ZcQ(s:List UInt8):∀o,Z3P s o<=o.length
 |[]=>Y01 _
 |x::o=>by have:=ZcQ s o;simp only[Z3P,Y06];split<;>omega
theorem Zhb(s:List UInt8):∀(o:List (List UInt8))(k:Nat)(h:k<o.length),k<Z3P s o->Op.bytesLess o[k] s=true
 |x::o,0,h,hk=>by
  simp only[Z3P]at hk
  split at hk
  ·assumption
  ·omega
 |x::o,k+1,h,hk=>by
  simp only[Z3P]at hk
  split at hk
  ·exact Zhb s o k (by simpa using h) (by omega)
  ·omega
theorem Zhc(s:List UInt8):∀(o:List (List UInt8))(h:Z3P s o<o.length),Op.bytesLess o[Z3P s o] s=false
 |x::o,h=>by
  cases hx:Op.bytesLess x s with
  |true =>
   have e:Z3P s (x::o)=Z3P s o+1:=by simp[Z3P,hx]
   simp only[e,Y06]at h
   simp only[e,Y0n]
   exact Zhc s o (by omega)
  |false =>
   have e:Z3P s (x::o)=0:=by simp[Z3P,hx]
   simp only[e,Y0R];exact hx
theorem Zbt(s:List UInt8):∀(o:List (List UInt8))(h:Z3P s o<o.length),(o[Z3P s o]==s)=true->Z9W s o=o
 |x::o,h,he=>by
  cases hx:Op.bytesLess x s with
  |true =>
   have e:Z3P s (x::o)=Z3P s o+1:=by simp[Z3P,hx]
   simp only[e,Y06]at h
   simp only[e,Y0n]at he
   simp only[Z9W,hx,if_true,Zbt s o (by omega) he]
  |false =>
   have e:Z3P s (x::o)=0:=by simp[Z3P,hx]
   simp only[e,Y0R]at he
   simp only[Z9W,hx,he,if_true,Y0E,if_false]
theorem ZeI(s:List UInt8):∀(o:List (List UInt8)),(∀h:Z3P s o<o.length,(o[Z3P s o]==s)=false)->Z9W s o=o.take (Z3P s o)++(s::o.drop (Z3P s o))
 |[],_=>rfl
 |x::o,he=>by
  cases hx:Op.bytesLess x s with
  |true =>
   have e:Z3P s (x::o)=Z3P s o+1:=by simp[Z3P,hx]
   have:=ZeI s o λh=>by
    have:=he (by rw[e];simpa using h)
    simpa only[e,Y0n]using this
   rw[e]
   simp only[Z9W,hx,if_true,Y0F,List.drop_succ_cons,List.cons_append,<- this]
  |false =>
   have e:Z3P s (x::o)=0:=by simp[Z3P,hx]
   have h2:=he (by rw[e];simp)
   simp only[e,Y0R]at h2
   rw[e]
   simp only[Z9W,hx,h2,Y0E,if_false,List.take_zero,List.drop_zero,Y0s]
theorem ZeJ{s x:List UInt8}:∀{o:List (List UInt8)},x∈Z9W s o ↔ x∈o\/x=s
 |[]=>by simp[Z9W]
 |y::o=>by
  have ih:=ZeJ (s:=s) (x:=x) (o:=o)
  simp only[Z9W]
  split
  ·simp only[Y09,ih,or_assoc]
  · split
    · rename_i h
      have:y=s:=by simpa using h
      subst this
      simp only[Y09]
      constructor
      ·exact .inl
      · rintro (h|rfl)
        ·exact h
        ·exact .inl rfl
    · simp only[Y09]
      constructor
      · rintro (h|h)
        ·exact .inr h
        ·exact .inl h
      · rintro (h|h)
        ·exact .inr h
        ·exact .inl h
theorem ZeK(s:List UInt8):∀o,(Z9W s o).length<=o.length+1
 |[]=>by simp[Z9W]
 |x::o=>by have:=ZeK s o;simp only[Z9W];split<;>(try split)<;>simp only[Y06]<;>omega
theorem Z9E:∀(l o:List (List UInt8)),(l.foldl (λo s=>Z9W s o) o).length<=o.length+l.length
 |[],o=>by simp
 |s::l,o=>by
  have:=Z9E l (Z9W s o)
  have h2:=ZeK s o
  simp only[Y0q,Y06];omega
theorem Z5g{x:List UInt8}:∀{l o:List (List UInt8)},x∈l.foldl (λo s=>Z9W s o) o ↔ x∈o\/x∈l
 |[],o=>by simp
 |s::l,o=>by
  have:=Z5g (x:=x) (l:=l) (o:=Z9W s o)
  simp only[Y0q,this,ZeJ,Y09,or_assoc]
theorem ZgT(l:List (List UInt8))(i:Nat)(h:i<l.length):Z3r (l.take (i+1))=Z9W l[i] (Z3r (l.take i)):=by
 unfold Z3r
 rw[Y0U h,List.foldl_append];rfl
theorem Z9D(l:List (List UInt8))(i:Nat):(Z3r (l.take i)).length<=l.length:=by
 have:=Z9E (l.take i) []
 unfold Z3r
 simp only[Y0c,List.length_take]at this
 omega
end
section
variable {gl:Z0o}
def Z19(l:List (List UInt8)):List AV:=l.map AV.str
theorem Z2H(l:List (List UInt8)):(Z19 l).length=l.length*1:=by simp[Z19]
theorem Z1I(x:List UInt8)(l:List (List UInt8)):(Z19 (x::l)).length=(l.length+1)*1:=by simp[Z19]
theorem Zjo(a b:List (List UInt8)):Z19 (a++b)=Z19 a++Z19 b:=by simp[Z19]
theorem Z4n:∀l:List (List UInt8),(Z19 l).all lit=true
 |[]=>rfl
 |x::l=>Z4n l
theorem Z0r(l:List (List UInt8)):refsL (Z19 l) []=[]:=ZaV l []
theorem Z5u:∀(l:List Ex)(i:Nat)(h:i<l.length),nmL (l.take (i+1))=nmL (l.take i)++nmE l[i]
 |e::l,0,h=>by simp[nmL]
 |e::l,i+1,h=>by
  have:=Z5u l i (by simpa using h)
  simp only[Y0F,nmL,Y0n]at this⊢
  rw[this,Y0G]
theorem Z2L(l:List Ex)(i:Nat):(nmL (l.take i)).length<=(nmL l).length:=by
 have h:nmL l=nmL (l.take i)++nmL (l.drop i):=by
  have hg:∀a b:List Ex,nmL (a++b)=nmL a++nmL b:=by
   intro a b
   induction a with
   |nil=>rfl
   |cons x a ih=>simp only[List.cons_append,nmL,ih,Y0G]
  rw[<- hg,List.take_append_drop]
 rw[h,Y0a];omega
end
end Go.Proofs.YthbimonbnaodkaaGreatDoor.lex

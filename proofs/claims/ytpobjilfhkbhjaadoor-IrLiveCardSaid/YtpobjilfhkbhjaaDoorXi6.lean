/-
  Texts of this proof, one behind the other (part 6).
-/
import Derived.Test.YtpobjilfhkbhjaaDoorXi5
import Derived.Shelf.SortM.Plain
import Derived.Shelf.SortM.SortNone
import Derived.Shelf.SlicesG.CompactI
import Derived.Test.YtpobjilfhkbhjaaDoorProg
import Derived.Laws.BitsAllLaws
import Derived.Lib.TrailingZeros
set_option linter.unusedVariables false
set_option linter.unusedSimpArgs false
set_option maxRecDepth 100000
set_option maxHeartbeats 4000000
open Go.Proofs.Tryd renaming prog → Y00,underlying3 → Y09,underlying25 → Y0r,isAgg3 → Y0y,sizeOf3 → Y0z,zeroValue3 → Y0A,func20 → Y0B,zeroValue25 → Y0H,underlying50 → Y0P,underlying38 → Y0Q,underlying24 → Y0R
open Go.Abs.BodyGe renaming pre → Y01,z → Y05,cellsL → Y0g
open List renaming append_nil → Y02,length_cons → Y04,length_nil → Y07,getElem?_append_right → Y0c,length_append → Y0e,mem_append → Y0f,getElem?_append_left → Y0i,mem_range → Y0k,mem_singleton → Y0l,getElem?_eq_getElem → Y0n,getElem?_eq_some_iff → Y0o,take_length → Y0p,getElem?_range' → Y0q,nil_append → Y0s,getElem?_set → Y0u,mem_cons → Y0v,getElem_mem → Y0w,map_congr_left → Y0x,map_cons → Y0C,mem_of_getElem? → Y0E,not_mem_nil → Y0F,length_reverse → Y0G,all_eq_true → Y0I,cons_ne_nil → Y0K,nodup_cons → Y0L,reverse_cons → Y0N,flatten_cons → Y0O,eq_nil_of_length_eq_zero → Y0S,take_succ_eq_append_getElem → Y0T
open Nat renaming le_refl → Y03,zero_le → Y0a,mul_one → Y0m,not_lt_zero → Y0t,zero_add → Y0D,ble_eq_true_of_le → Y0M
open Go.Abs.FgL renaming mk → Y06
open Bool renaming and_eq_true → Y08,true_and → Y0h
open Go.Abs.Wk renaming slice → Y0b,noref → Y0j
open And renaming intro → Y0d
open Int renaming toNat_natCast → Y0J
section
namespace Go.Proofs.YtpobjilfhkbhjaaDoor.lex
open Go.Abs Go.RowKit Go.Flat
def ZeI(op:Int)(name:List UInt8):List Int:=cond (decide (0<=Z4k name)&&(op==2)) [Z4k name] []
mutual
def Zh3:Ex->List Int
 | .mk op num name kids=>ZeI op name++ursL kids
def ursL:List Ex->List Int
 |[]=>[]
 |e::l=>Zh3 e++ursL l
end
theorem Z9I:∀(l:List Ex)(i:Nat)(h:i<l.length),ursL (l.take (i+1))=ursL (l.take i)++Zh3 l[i]
 |e::l,0,h=>by simp[ursL]
 |e::l,i+1,h=>by
  have:=Z9I l i (by simpa using h)
  simp only[List.take_succ_cons,ursL,List.getElem_cons_succ,this,List.append_assoc]
theorem Zhj(op:Int)(name:List UInt8):(ZeI op name).length<=1:=by
 unfold ZeI;cases (decide (0<=Z4k name)&&(op==2))<;>simp
mutual
theorem Zh2:∀e:Ex,(Zh3 e).length<=Z28 e
 | .mk op num name kids=>by
  have h1:=Zhj op name
  have h2:=ursL_len kids
  simp only[Zh3,Z28,Y0e];omega
theorem ursL_len:∀l:List Ex,(ursL l).length<=sizeL l
 |[]=>Y03 _
 |e::l=>by
  have h1:=Zh2 e
  have h2:=ursL_len l
  simp only[ursL,sizeL,Y0e];omega
end
theorem Zjt{op:Int}{name:List UInt8}{x:Int}(h:x∈ZeI op name):0<=x:=by
 unfold ZeI at h
 cases hc:(decide (0<=Z4k name)&&(op==2)) with
 |false=>rw[hc]at h;cases h
 |true =>
  rw[hc]at h
  simp only[Y08,decide_eq_true_eq]at hc
  simp only[cond_true,Y0l]at h
  omega
mutual
theorem Zj4:∀(e:Ex)(x:Int),x∈Zh3 e->0<=x
 | .mk op num name kids,x,h=>by
  simp only[Zh3,Y0f]at h
  rcases h with h|h
  ·exact Zjt h
  ·exact ursL_nn kids x h
theorem ursL_nn:∀(l:List Ex)(x:Int),x∈ursL l->0<=x
 |[],x,h=>by simp[ursL]at h
 |e::l,x,h=>by
  simp only[ursL,Y0f]at h
  rcases h with h|h
  ·exact Zj4 e x h
  ·exact ursL_nn l x h
end
mutual
theorem Zj5{regs:Int}:∀(e:Ex),Z0I regs e=true->∀x∈Zh3 e,x<regs
 | .mk op num name kids,hr,x,h=>by
  simp only[Zh3,Y0f]at h
  rcases h with h|h
  · unfold ZeI at h
    cases hc:(decide (0<=Z4k name)&&(op==2)) with
    |false=>rw[hc]at h;cases h
    |true =>
     rw[hc]at h
     simp only[Y08,beq_iff_eq]at hc
     obtain⟨_,rfl⟩:=hc
     rw[ZeF]at hr
     simp only[Y08,decide_eq_true_eq]at hr
     simp only[cond_true,Y0l]at h
     omega
  · simp only[Z0I,Y08]at hr
    exact ursL_lt kids hr.2 x h
theorem ursL_lt{regs:Int}:∀(l:List Ex),rightPL regs l=true->∀x∈ursL l,x<regs
 |[],hr,x,h=>by simp[ursL]at h
 |e::l,hr,x,h=>by
  simp only[rightPL,Y08]at hr
  simp only[ursL,Y0f]at h
  rcases h with h|h
  ·exact Zj5 e hr.1 x h
  ·exact ursL_lt l hr.2 x h
end
def Z1Z(i:Ins):List Nat:=(Lib.compact ((ursL i.ex).mergeSort leI)).map Int.toNat
theorem Zc0(i:Ins):Lib.compact ((ursL i.ex).mergeSort leI)=(Z1Z i).map λn:Nat=>(n:Int):=by
 unfold Z1Z
 rw[List.map_map]
 refine (List.map_id _).symm.trans (Y0x λx hx=>?_)
 rw[Z3M,List.mem_mergeSort]at hx
 have:=ursL_nn _ _ hx
 simp only[id_eq,Function.comp]
 omega
theorem Zeb(i:Ins)(r:Nat):r∈Z1Z i ↔ (r:Int)∈ursL i.ex:=by
 have h:(r:Int)∈(Z1Z i).map (λn:Nat=>(n:Int)) ↔ r∈Z1Z i:=by
  rw[List.mem_map]
  constructor
  · rintro⟨n,hn,e⟩
    rwa [show n=r by omega]at hn
  ·intro h;exact⟨r,h,rfl⟩
 rw[<- h,<- Zc0,Z3M,List.mem_mergeSort]
theorem Z6v(i:Ins):(Z1Z i).length<=(ursL i.ex).length:=by
 unfold Z1Z
 rw[List.length_map]
 exact Nat.le_trans (Z7l _) (by simp)
def Zdx(l:List Ins)(v:Nat):List Nat:=Z1Z (Z75 l v)
theorem ZfH{regs:Int}{n:Nat}{i:Ins}(h:Z1g regs n i=true):rightPL regs i.ex=true:=by
 unfold Z1g at h
 simp only[Y08]at h
 exact h.2.2.2.2.2.2
theorem Fine.uses{c:Cd}(h:Fine c){v:Nat}(hv:v<c.ins.length):∀r∈Zdx c.ins v,r<16:=λr hr=>by
 unfold Zdx at hr
 rw[Z2e hv,Zeb]at hr
 have:=ursL_lt _ (ZfH (h.right _ (Z12 hv))) _ hr
 have:=h.reg1
 omega
def Z3q(i:Ins):Int:=if i.kind=1\/i.kind=2\/i.kind=4\/i.kind=5\/i.kind=6 then i.reg else -1
theorem Fine.sets{c:Cd}(h:Fine c){v:Nat}(hv:v<c.ins.length) : -1<=Z3q (Z75 c.ins v)/\Z3q (Z75 c.ins v)<16:=by
 rw[Z2e hv]
 have h1:=h.right _ (Z12 hv)
 have h2:=h.reg1
 unfold Z1g at h1
 simp only[Y08]at h1
 have h3:=h1.2.1
 unfold Z3q
 split
 · rename_i hk
   have:Zdb c.ins[v].kind=true:=by
    unfold Zdb
    rcases hk with hk|hk|hk|hk|hk<;>rw[hk]<;>decide
   rw[this]at h3
   simp only[inW,if_true,Y08,decide_eq_true_eq]at h3
   omega
 ·omega
def usU(l:List Ins)(v:Nat):Nat:=Go.Live.maskL (Zdx l v)
def ZkX(n:Int):Nat:=if 0<=n then 2 ^ n.toNat else 0
def stU(l:List Ins)(v:Nat):Nat:=ZkX (Z3q (Z75 l v))
theorem Za9{l:List Ins}{v:Nat}(h:l.length<=v):Z75 l v=⟨13,0,0,0,0,[]⟩:=by unfold Z75;rw[List.getElem?_eq_none h]
theorem Fine.in32{c:Cd}(h:Fine c):Go.Live.In32 (usU c.ins) (stU c.ins):=by
 refine⟨λv=>?_,λv=>?_⟩
 · by_cases hv:v<c.ins.length
   ·exact Go.Live.maskL_lt λr hr=>by have:=h.uses hv r hr;omega
   · have h1 : Z1Z (Z75 c.ins v) = [] := by
      rw[Za9 (by omega)]
      exact Y0S (Nat.le_zero.1 (Z6v _))
     unfold usU Zdx
     rw[h1];decide
 · by_cases hv:v<c.ins.length
   · have:=h.sets hv
     unfold stU ZkX
     split
     ·exact Nat.lt_of_lt_of_le (Nat.pow_lt_pow_right (by decide) (show (Z3q (Z75 c.ins v)).toNat<16 by omega)) (by decide)
     ·decide
   · unfold stU
     rw[Za9 (by omega)];decide
def fil{α : Type}(z : α)(f:Nat -> α)(k:Nat):Nat -> α:=λv=>if v<k then f v else z
theorem Z4Y{α : Type}(z : α)(f:Nat -> α)(k:Nat):upd (fil z f k) k (f k)=fil z f (k+1):=by
 funext v
 unfold fil
 by_cases h:v=k
 ·subst h;rw[Z08,if_pos (by omega)]
 · rw[Z07 h]
   by_cases h2:v<k
   ·rw[if_pos h2,if_pos (by omega)]
   ·rw[if_neg h2,if_neg (by omega)]
theorem Zi3{α : Type}(z : α)(f:Nat -> α):fil z f 0=λ_=>z:=by funext v;simp[fil]
theorem Z9J{α : Type}(f:Nat -> α)(k:Nat)(x y : α):upd (upd f k x) k y=upd f k y:=by
 funext v
 by_cases h:v=k
 ·subst h;rw[Z08,Z08]
 ·rw[Z07 h,Z07 h,Z07 h]
theorem ZkZ{α : Type}(f:Nat -> α)(k:Nat):upd f k (f k)=f:=by
 funext v
 by_cases h:v=k
 ·subst h;rw[Z08]
 ·rw[Z07 h]
def aF(nx:Nat->List Nat)(k v:Nat):List Nat:=(List.range k).filter λu=>decide (v∈nx u)
theorem ZkH(nx:Nat->List Nat)(k v:Nat):aF nx (k+1) v=aF nx k v++(if v∈nx k then [k] else []):=by
 unfold aF
 rw[List.range_succ,List.filter_append]
 congr 1
 by_cases h:v∈nx k
 ·rw[if_pos h,List.filter_cons,if_pos (by simpa using h)];rfl
 ·rw[if_neg h,List.filter_cons,if_neg (by simpa using h)];rfl
theorem ZiT(nx:Nat->List Nat)(k v:Nat):(aF nx k v).length<=k:=by
 have:=List.length_filter_le (λu=>decide (v∈nx u)) (List.range k)
 simpa[aF]using this
theorem ZlJ{nx:Nat->List Nat}{k v u:Nat}:u∈aF nx k v ↔ u<k/\v∈nx u:=by simp[aF]
def aG(nx:Nat->List Nat)(k j v:Nat):List Nat:=aF nx k v++(if v∈(nx k).take j then [k] else [])
theorem ZkF(nx:Nat->List Nat)(k:Nat):aG nx k 0=aF nx k:=by funext v;simp[aG]
theorem ZlI(nx:Nat->List Nat)(k:Nat):aG nx k (nx k).length=aF nx (k+1):=by funext v;rw[ZkH];simp[aG]
theorem ZlH(nx:Nat->List Nat)(k j v:Nat):(aG nx k j v).length<=k+1:=by
 have:=ZiT nx k v
 unfold aG
 rw[Y0e]
 split<;>simp<;>omega
theorem Zho{l:List Nat}(h:l.Nodup){i j:Nat}(hi:i<l.length)(hj:j<l.length)(hij:i<j):l[i]≠l[j]:=List.pairwise_iff_getElem.1 h i j hi hj hij
theorem ZkG{nx:Nat->List Nat}{k j:Nat}(hj:j<(nx k).length)(hnd:(nx k).Nodup):aG nx k (j+1)=upd (aG nx k j) (nx k)[j] (aG nx k j (nx k)[j]++[k]):=by
 funext v
 have ht:∀x,x∈(nx k).take (j+1) ↔ x∈(nx k).take j\/x=(nx k)[j]:=λx=>by
  rw[Y0T hj,Y0f,Y0l]
 have hnot:¬(nx k)[j]∈(nx k).take j:=by
  intro h
  rw[List.mem_take_iff_getElem]at h
  obtain⟨m,hm,e⟩:=h
  exact Zho hnd (by omega) hj (by omega) e
 by_cases h:v=(nx k)[j]
 · subst h
   rw[Z08]
   unfold aG
   rw[if_neg hnot,if_pos ((ht _).2 (.inr rfl)),Y02]
 · rw[Z07 h]
   unfold aG
   congr 1
   by_cases h2:v∈(nx k).take j
   ·rw[if_pos h2,if_pos ((ht _).2 (.inl h2))]
   ·rw[if_neg h2,if_neg (λh3=>((ht _).1 h3).elim h2 h)]
theorem Zdo(i:Ins)(a:Nat):(nx8 i a).Pairwise (· < ·):=by
 unfold nx8
 split
 ·simp
 · split
   ·simp
   · split
     · split
       ·simp;omega
       · split
         ·simp;omega
         ·simp
     ·simp
theorem ZeS(l:List Ins)(v:Nat):(Z0D l v).Nodup:=(Zdo _ _).imp λh=>by omega
end Go.Proofs.YtpobjilfhkbhjaaDoor.lex
end
section
namespace Go.Proofs.YtpobjilfhkbhjaaDoor.shelf
open Go.Shelf Go.RowKit Go.Sort
def Zeo:Go.Shelf.Ren:=⟨fun|5=>24|8=>42|7=>41|19=>57|20=>58|10=>48|11=>49|12=>50|13=>51|14=>52|15=>53|16=>54|17=>55|18=>56|30=>70|31=>71|32=>72|33=>73|34=>74|35=>75|40=>83|n=>n,fun|23=>25|25=>3|3=>3|32=>58|22=>25|0=>0|44=>57|46=>108|4=>4|36=>101|35=>100|41=>61|5=>5|9=>9|53=>118|57=>53|63=>133|64=>134|n=>n,fun|n=>n⟩
theorem Zl4:Go.Proofs.SlLaysM.n5 Y00 Zeo:={
 mixed:=by kernel_rfl
 f5:=⟨Tryd.f24.name,by decide,Tryd.func24.trans (congrArg some (by kernel_rfl))⟩
 f7:=⟨Tryd.f41.name,by decide,Tryd.func41.trans (congrArg some (by kernel_rfl))⟩
 f8:=Tryd.func42.trans (congrArg some (by kernel_rfl))
 f10:=⟨Tryd.f48.name,by decide,Tryd.func48.trans (congrArg some (by kernel_rfl))⟩
 f11:=⟨Tryd.f49.name,by decide,Tryd.func49.trans (congrArg some (by kernel_rfl))⟩
 f12:=⟨Tryd.f50.name,by decide,Tryd.func50.trans (congrArg some (by kernel_rfl))⟩
 f13:=⟨Tryd.f51.name,by decide,Tryd.func51.trans (congrArg some (by kernel_rfl))⟩
 f14:=⟨Tryd.f52.name,by decide,Tryd.func52.trans (congrArg some (by kernel_rfl))⟩
 f15:=⟨Tryd.f53.name,by decide,Tryd.func53.trans (congrArg some (by kernel_rfl))⟩
 f16:=⟨Tryd.f54.name,by decide,Tryd.func54.trans (congrArg some (by kernel_rfl))⟩
 f17:=⟨Tryd.f55.name,by decide,Tryd.func55.trans (congrArg some (by kernel_rfl))⟩
 f18:=⟨Tryd.f56.name,by decide,Tryd.func56.trans (congrArg some (by kernel_rfl))⟩
 f19:=Tryd.func57.trans (congrArg some (by kernel_rfl))
 f20:=Tryd.func58.trans (congrArg some (by kernel_rfl))
 f30:=⟨Tryd.f70.name,by decide,Tryd.func70.trans (congrArg some (by kernel_rfl))⟩
 f31:=Tryd.func71.trans (congrArg some (by kernel_rfl))
 f32:=Tryd.func72.trans (congrArg some (by kernel_rfl))
 f33:=⟨Tryd.f73.name,by decide,Tryd.func73.trans (congrArg some (by kernel_rfl))⟩
 f34:=⟨Tryd.f74.name,by decide,Tryd.func74.trans (congrArg some (by kernel_rfl))⟩
 f35:=⟨Tryd.f75.name,by decide,Tryd.func75.trans (congrArg some (by kernel_rfl))⟩
 f40:=⟨Tryd.f83.name,by decide,Tryd.func83.trans (congrArg some (by kernel_rfl))⟩
 t0:=Tryd.underlying0
 a0:=Tryd.isAgg0
 z0:=Tryd.sizeOf0
 v0:=Tryd.zeroValue0
 t3:=Y09
 a3:=Y0y
 z3:=Y0z
 v3:=Y0A
 t4:=Tryd.underlying4
 a4:=Tryd.isAgg4
 z4:=Tryd.sizeOf4
 v4:=Tryd.zeroValue4
 t5:=Tryd.underlying5
 a5:=Tryd.isAgg5
 z5:=Tryd.sizeOf5
 v5:=Tryd.zeroValue5
 t9:=Tryd.underlying9
 a9:=Tryd.isAgg9
 z9:=Tryd.sizeOf9
 v9:=Tryd.zeroValue9
 t22:=Y0r
 a22:=Tryd.isAgg25
 z22:=Tryd.sizeOf25
 v22:=Y0H
 t23:=Y0r
 a23:=Tryd.isAgg25
 z23:=Tryd.sizeOf25
 v23:=Y0H
 t25:=Y09
 a25:=Y0y
 z25:=Y0z
 v25:=Y0A
 t32:=Tryd.underlying58
 a32:=Tryd.isAgg58
 z32:=Tryd.sizeOf58
 v32:=Tryd.zeroValue58
 t35:=Tryd.underlying100
 a35:=Tryd.isAgg100
 z35:=Tryd.sizeOf100
 v35:=Tryd.zeroValue100
 t36:=Tryd.underlying101
 a36:=Tryd.isAgg101
 z36:=Tryd.sizeOf101
 v36:=Tryd.zeroValue101
 t41:=Tryd.underlying61
 a41:=Tryd.isAgg61
 z41:=Tryd.sizeOf61
 v41:=Tryd.zeroValue61
 t44:=Tryd.underlying57
 a44:=Tryd.isAgg57
 z44:=Tryd.sizeOf57
 v44:=Tryd.zeroValue57
 t46:=Tryd.underlying108
 a46:=Tryd.isAgg108
 z46:=Tryd.sizeOf108
 v46:=Tryd.zeroValue108
 t53:=Tryd.underlying118
 a53:=Tryd.isAgg118
 z53:=Tryd.sizeOf118
 v53:=Tryd.zeroValue118
 t57:=Tryd.underlying53
 a57:=Tryd.isAgg53
 z57:=Tryd.sizeOf53
 v57:=Tryd.zeroValue53
 t63:=Tryd.underlying133
 a63:=Tryd.isAgg133
 z63:=Tryd.sizeOf133
 v63:=Tryd.zeroValue133
 t64:=Tryd.underlying134
 a64:=Tryd.isAgg134
 z64:=Tryd.sizeOf134
 v64:=Tryd.zeroValue134 }
def Zgj:Go.Shelf.Ren:=⟨fun|43=>25|n=>n,fun|22=>25|23=>3|3=>3|4=>4|0=>0|n=>n,fun|n=>n⟩
theorem ZlB:Go.Proofs.SlLaysN.n43 Y00 Zgj:={
 mixed:=by kernel_rfl
 f43:=⟨Tryd.f25.name,by decide,Tryd.func25.trans (congrArg some (by kernel_rfl))⟩
 t0:=Tryd.underlying0
 a0:=Tryd.isAgg0
 z0:=Tryd.sizeOf0
 v0:=Tryd.zeroValue0
 t3:=Y09
 a3:=Y0y
 z3:=Y0z
 v3:=Y0A
 t4:=Tryd.underlying4
 a4:=Tryd.isAgg4
 z4:=Tryd.sizeOf4
 v4:=Tryd.zeroValue4
 t22:=Y0r
 a22:=Tryd.isAgg25
 z22:=Tryd.sizeOf25
 v22:=Y0H
 t23:=Y09
 a23:=Y0y
 z23:=Y0z
 v23:=Y0A
 i23:=by kernel_rfl }
theorem sortI:Go.Proofs.YtpobjilfhkbhjaaDoor.lex.SortsI Y00 24:=λblk off cap zs w h1 h2 h3=>AnyM.slices_Sort_int Zl4 blk off cap zs w h1 h2 h3
theorem sortN:Go.Proofs.YtpobjilfhkbhjaaDoor.lex.SortsNone Y00 24:=λp cap w=>AnyM.slices_Sort_int_none Zl4 p cap w
theorem compactI:Go.Proofs.YtpobjilfhkbhjaaDoor.lex.CompactsI Y00 25:=λblk off cap zs w h1 h2 h3=>AnyG.slices_Compact_int ZlB blk off cap zs w h1 h2 h3
theorem compactN:Go.Proofs.YtpobjilfhkbhjaaDoor.lex.CompactsNone Y00 25:=λa cap w=>AnyG.slices_Compact_int_empty ZlB a cap w
end Go.Proofs.YtpobjilfhkbhjaaDoor.shelf
end
section
namespace Go.Proofs.YtpobjilfhkbhjaaDoor.lex
open Go.Abs Go.RowKit Go.Flat
variable {gl:Z0n}
theorem Zce{P:Program}{O:Orc}{fS:Nat}(p:∀i:SoI,i.G->Z0e P O i.H fS i.A=some (.tuple [],i.O (i.zs.mergeSort leI)))(x:Int)(r:List Int)(hl:(x::r).length<4611686018427387904){H:Z00}{b f cap:Nat}{ty:TypeId}(h:H[b]? = some ⟨true,f,0,.cells (Z0l (x::r)) ty⟩) :
 Z0e P O H fS [.slice b 0 (r.length+1) cap 1]=some (.tuple [],(Z2o b f H).set b ⟨true,f,0,.cells (Z0l ((x::r).mergeSort leI)) ty⟩):=p ⟨H,b,f,x::r,cap,ty⟩ ⟨hl,λ_=>h⟩
theorem ZcR {P : Program} {O : Orc} {fC : Nat} (p : ∀ i : SoI, i.G -> Z0e P O i.H fC i.A = some (i.R, i.O (cpt i.zs))) {zs : List Int} {L : List Nat} (hL : Lib.compact zs = L.map fun n : Nat => (n : Int)) (x : Int) (r : List Int) (hz : zs = x :: r) (hl : (x :: r).length < 4611686018427387904) : ∃ rest, ∀ {H : Z00} {b f cap : Nat} {ty : TypeId}, H[b]? = some ⟨true, f, 0, .cells (Z0l (x :: r)) ty⟩ ->
  Z0e P O H fC [.slice b 0 (r.length+1) cap 1]=some (.slice b 0 L.length cap 1,(Z2o b f H).set b ⟨true,f,0,.cells (nis L++rest) ty⟩):=by
 subst hz
 refine⟨Z0l (List.replicate ((x::r).length-(Lib.compact (x::r)).length) 0),λ{H b f cap ty} h=>?_⟩
 have h1:=p ⟨H,b,f,x::r,cap,ty⟩ ⟨hl,λ_=>h⟩
 simp only[SoI.A,SoI.R,SoI.O,cpt]at h1
 rw[h1,hL]
 simp[Z0l,nis,Function.comp_def]
theorem Z3C(l:List Nat):(nis l).all lit=true:=by simp[nis,Y0I,lit]
theorem Zmd(x y:Int):∃s t,[x,y].mergeSort leI=[s,t]:=by
 have h:([x,y].mergeSort leI).length=2:=by simp
 match hm:[x,y].mergeSort leI,h with
 |[s,t],_=>exact⟨s,t,rfl⟩
theorem Zje(x:Int):[x].mergeSort leI=[x]:=by simp[List.mergeSort]
theorem Zmy(l:List Ins)(k:Nat)(h:k<l.length):∃rest,(inC l).drop (k*6)=Z0E l[k]++rest:=⟨_,Z8g l k h⟩
theorem Z96(regs:Int)(l:List Ins)(a:Nat)(ha:a<l.length)(hl:l.length<=4000)(h0:ZmS (Z75 l a)):ValOK Y00 gl 20 [.agg [.int .i64 regs,.rs l.length 6 (inC l)],.int .i64 a] (Z3D (Z0D l a)):=by
 obtain⟨O,hO,⟨p1,p2,-⟩,-⟩:=ZdE (P:=Y00) (gl:=gl) [sortFam (by kernel_rfl) shelf.sortI shelf.sortN,Z8v (by kernel_rfl) shelf.compactI shelf.compactN] [] rfl
 have p1:∀i:SoI,i.G->Z0e Y00 O i.H 24 i.A=some (.tuple [],i.O (i.zs.mergeSort leI)):=p1
 have p2:∀i:SoI,i.G->Z0e Y00 O i.H 25 i.A=some (i.R,i.O (cpt i.zs)):=p2
 obtain⟨rest,hx⟩:=Zmy l a ha
 have ha2:=ha
 unfold Z0D
 rw[Z2e ha]at h0⊢
 generalize l[a]=i at *
 obtain⟨k,r,lo,od,to,ex⟩:=i
 simp only[ZmS]at h0
 simp only[nx8,Z0E,exA,Z3D]at *
 have hT:ZcU Y00 25 25=some (3,1,8):=by kernel_rfl
 have hk:tk 1 (((inC l).drop (a*6)).drop 0)=some [.int .i64 k]:=by rw[hx];rfl
 have ht:tk 1 (((inC l).drop (a*6)).drop 4)=some [.int .i64 to]:=by rw[hx];rfl
 clear hx
 by_cases h12:k=12\/k=13
 · rw[if_pos h12]
   have q1:∀H,Z0e Y00 O H 24 [.nslice]=some (.tuple [],H):=λH=>p1 ⟨H,0,0,[],0,0⟩ ⟨by simp,λh=>(h rfl).elim⟩
   have q2:∀H,Z0e Y00 O H 25 [.nslice]=some (.nslice,H):=λH=>p2 ⟨H,0,0,[],0,0⟩ ⟨by simp,λh=>(h rfl).elim⟩
   clear p1 p2
   simp only[nis,List.map_nil,Y07]
   refine Zfw follows Z11 hO Y0B rfl ?_
   rcases h12 with rfl|rfl
   · repeat' ((conv=>whnf);first|refine exI hk ?_|refine exI (q1 _) ?_|refine exI (q2 _) ?_|(with_reducible refine ixJ a rfl ?_ ?_;focus omega)|refine stp ?_|with_reducible apply Z04<;>intro h)
     all_goals exact .inr ⟨rfl,1,rfl⟩
   · repeat' ((conv=>whnf);first|refine exI hk ?_|refine exI (q1 _) ?_|refine exI (q2 _) ?_|(with_reducible refine ixJ a rfl ?_ ?_;focus omega)|refine stp ?_|with_reducible apply Z04<;>intro h)
     all_goals exact .inr ⟨rfl,1,rfl⟩
 rw[if_neg h12]
 have e12:(k==12)=false:=by simp;omega
 have e13:(k==13)=false:=by simp;omega
 have w:IntKind.i64.wrap ((a:Int)+1)=((a+1:Nat):Int):=Ze6 (by omega)
 by_cases h11:k=11
 · subst h11
   obtain⟨t,rfl⟩:∃t:Nat,to=t:=⟨to.toNat,by omega⟩
   simp only[Y0J,show ¬((11:Int)=10) by decide,if_false,if_true]
   obtain⟨s,u,hs⟩:=Zmd (t:Int) ((a+1:Nat):Int)
   generalize hL:(if t<a+1 then [t,a+1] else if a+1<t then [a+1,t] else [a+1])=L
   have hc:Lib.compact [s,u]=L.map λn:Nat=>(n:Int):=by
    rw[<- hs]
    refine Zix ?_ λx=>?_
    · rw[<- hL];split
      ·simp;omega
      · split
        ·simp;omega
        ·simp
    · rw[<- hL]
      split
      ·simp
      · split
        ·simp;omega
        · have:t=a+1:=by omega
          subst this;simp
   have q1:=λ{H b f cap ty}=>Zce p1 (t:Int) [((a+1:Nat):Int)] (by simp) (H:=H) (b:=b) (f:=f) (cap:=cap) (ty:=ty)
   rw[hs]at q1
   obtain⟨rest2,q2⟩:=ZcR p2 hc s [u] rfl (by simp)
   clear p1 p2 hs hc hL
   have hlen:=Z1e L
   have hlit:=Z3C L
   generalize nis L=C at *
   refine Z0J follows Z11 hO Y0B rfl ?_
   repeat' ((conv=>whnf);first|refine exI hk ?_|refine exI ht ?_|refine exI (q1 rfl) ?_|refine exI (q2 rfl) ?_|(with_reducible refine exW w ?_)|(with_reducible refine ixJ a rfl ?_ ?_;focus omega)|(refine apS ?_)|refine stp ?_|with_reducible apply Z04<;>intro h)
   all_goals (conv=>whnf)
   all_goals exact⟨_,Z9a (n:=28) rfl (by rw[hlen];omega) hlit,rfl⟩
 have e11:(k==11)=false:=by simpa using h11
 have main:∀x:Nat,Lib.compact [(x:Int)]=[x].map λn:Nat=>(n:Int):=λx=>by
  rw[<- Zje (x:Int)]
  exact Zix (by simp) (by simp)
 by_cases h10:k=10
 · subst h10
   obtain⟨t,rfl⟩:∃t:Nat,to=t:=⟨to.toNat,by omega⟩
   simp only[Y0J,if_true]
   have q1:=λ{H b f cap ty}=>Zce p1 (t:Int) [] (by simp) (H:=H) (b:=b) (f:=f) (cap:=cap) (ty:=ty)
   rw[Zje]at q1
   obtain⟨rest2,q2⟩:=ZcR p2 (main t) (t:Int) [] rfl (by simp)
   clear p1 p2 main
   have hlen:=Z1e [t]
   have hlit:=Z3C [t]
   simp only[Y04,Y07]at *
   generalize nis [t]=C at *
   refine Z0J follows Z11 hO Y0B rfl ?_
   repeat' ((conv=>whnf);first|refine exI hk ?_|refine exI ht ?_|refine exI (q1 rfl) ?_|refine exI (q2 rfl) ?_|(with_reducible refine exW w ?_)|(with_reducible refine ixJ a rfl ?_ ?_;focus omega)|(refine apS ?_)|refine stp ?_|with_reducible apply Z04<;>intro h)
   all_goals (conv=>whnf)
   all_goals exact⟨_,Z9a (n:=28) rfl (by rw[hlen]) hlit,rfl⟩
 · have e10:(k==10)=false:=by simpa using h10
   rw[if_neg h10,if_neg h11]
   have q1:=λ{H b f cap ty}=>Zce p1 ((a+1:Nat):Int) [] (by simp) (H:=H) (b:=b) (f:=f) (cap:=cap) (ty:=ty)
   rw[Zje]at q1
   obtain⟨rest2,q2⟩:=ZcR p2 (main (a+1)) ((a+1:Nat):Int) [] rfl (by simp)
   clear p1 p2 main
   have hlen:=Z1e [a+1]
   have hlit:=Z3C [a+1]
   simp only[Y04,Y07]at *
   generalize nis [a+1]=C at *
   refine Z0J follows Z11 hO Y0B rfl ?_
   repeat' ((conv=>whnf);first|refine exI hk ?_|refine exI ht ?_|refine exI (q1 rfl) ?_|refine exI (q2 rfl) ?_|(with_reducible refine exW w ?_)|(with_reducible refine ixJ a rfl ?_ ?_;focus omega)|(refine apS ?_)|refine stp ?_|with_reducible apply Z04<;>intro h)
   all_goals (conv=>whnf)
   all_goals exact⟨_,Z9a (n:=28) rfl (by rw[hlen]) hlit,rfl⟩
theorem Zch(i:Ins):ValOK Y00 gl 11 [.agg (Z0E i)] (.int .i64 (Z3q i)):=by
 obtain⟨k,r,lo,od,to,ex⟩:=i
 simp only[Z0E,Z3q]
 refine Z0J follows Z11 Z1b Tryd.func11 rfl ?_
 by_cases h:k=1\/k=2\/k=4\/k=5\/k=6
 · rw[if_pos h]
   rcases h with rfl|rfl|rfl|rfl|rfl
   all_goals repeat' ((conv=>whnf);first|refine stp ?_|with_reducible apply Z04<;>intro h)
   all_goals rfl
 · rw[if_neg h]
   have e1:(k==1)=false:=by simp;omega
   have e2:(k==2)=false:=by simp;omega
   have e4:(k==4)=false:=by simp;omega
   have e5:(k==5)=false:=by simp;omega
   have e6:(k==6)=false:=by simp;omega
   repeat' ((conv=>whnf);first|refine stp ?_|with_reducible apply Z04<;>intro h)
   all_goals rfl
end Go.Proofs.YtpobjilfhkbhjaaDoor.lex
end
namespace Go.Proofs.YtpobjilfhkbhjaaDoor.lex
open Go.Abs Go.RowKit
section
theorem Zhx{P:Program}{gl:Z0n}{f:Nat}{q:Nat->AObj->Bool}{H H1 H':Z00}{args:List AV}{r:AV}(hM:Z1N P gl f args H1 r H')(h1:kil q 0 H=H1):Z1N P gl f args H r H':=by
 subst h1
 intro sn ι W cargs hg hR ha
 have hs:=Stp.kil hR q
 refine (hM sn ι W cargs hg hs.rel ha).mono ?_
 rintro e W' ⟨v,sn',ι',rfl,hv,hst⟩
 exact⟨v,sn',ι',rfl,hv,Stp.trans hR hs hst⟩
end
end Go.Proofs.YtpobjilfhkbhjaaDoor.lex
section
namespace Go.Proofs.YtpobjilfhkbhjaaDoor.lex
open Go.Abs Go.RowKit Go.Flat
variable {gl:Z0n}
theorem Z2P:∀l:List Int,refsL (Z0l l) []=[]
 |[]=>rfl
 |x::l=>by have:=Z2P l;simp only[Z0l,Y0C,refsL,Z0W]at this⊢;exact this
theorem Z1V(f:Nat->Nat):∀l:List Int,renL f (Z0l l)=Z0l l
 |[]=>rfl
 |x::l=>by have:=Z1V f l;simp only[Z0l,Y0C,renL,ren]at this⊢;rw[this]
theorem Za8(a b:List Int):Z0l (a++b)=Z0l a++Z0l b:=by simp[Z0l]
def uxC(sl:AV):AObj:=⟨true,0,0,.cells [sl] 25⟩
def uxE:AObj:=⟨true,1,0,.cells [.func (.func 22) [] [.ptr 0 0,.ptr 1 0]] 60⟩
def usH(L:List Int):Z00:=uxC (grA 2 1 L)::uxE::grB 2 Z0l 3 L
def uxA(es:List Ex):List AV:=[.rs es.length 4 (exC es),.ptr 0 0,.ptr 1 0]
theorem ZaW{L:List Int}{i:Nat}{o:AObj}(h:(usH L)[i]? = some o):o.fam=i/\o.alive=true/\Z0G (usH L).length (Z2M o.body [])=true:=by
 cases L with
 |nil =>
  match i,h with
  |0,h=>cases h;exact⟨rfl,rfl,rfl⟩
  |1,h=>cases h;exact⟨rfl,rfl,rfl⟩
  |i+2,h=>cases h
 |cons x r =>
  match i,h with
  |0,h=>cases h;exact⟨rfl,rfl,rfl⟩
  |1,h=>cases h;exact⟨rfl,rfl,rfl⟩
  |2,h=>cases h;exact⟨rfl,rfl,by show Z0G _ (refsL (Z0l (x::r)) [])=true;rw[Z2P];rfl⟩
  |i+3,h=>cases h
theorem Zed(L:List Int):2<=(usH L).length:=Nat.le_add_left _ _
def ClU(P:Program)(gl:Z0n)(es:List Ex)(L:List Int):Prop:=ZlL P gl 2 22 (uxA es) (usH L) (.tuple []) (usH (L++ursL es))
theorem Z4E{es:List Ex}{L:List Int}(h:ClU Y00 gl es L):Z1N Y00 gl 22 (uxA es) (usH L) (.tuple []) (Z7S 2 (sgE 2 (usH L).length) (usH (L++ursL es)) 0 (usH L)++shE (sgE 2 (usH L).length) ((usH (L++ursL es)).drop 2)) :=
 Zdq h (Zed _) (Zed _) (λi o hi=>ZaW hi) (λi o hi=>⟨(ZaW hi).2.1,(ZaW hi).1⟩) rfl
theorem Z9H{es:List Ex}{L:List Int}(n:Nat):∀(i:Nat)(o:AObj),(Z7S 2 (sgE 2 (usH L).length) (usH (L++ursL es)) 0 (usH L)++shE (sgE 2 (usH L).length) ((usH (L++ursL es)).drop 2))[i]? = some o->Z0G (Z7S 2 (sgE 2 (usH L).length) (usH (L++ursL es)) 0 (usH L)++shE (sgE 2 (usH L).length) ((usH (L++ursL es)).drop 2)).length (Z2M o.body [])=true:=by
 intro i o h
 generalize hM:L++ursL es=M at *
 cases L with
 |nil =>
  cases M with
  |nil =>
   match i,h with
   |0,h=>cases h;rfl
   |1,h=>cases h;rfl
   |i+2,h=>cases h
  |cons y s =>
   match i,h with
   |0,h=>cases h;rfl
   |1,h=>cases h;rfl
   |2,h=>cases h;show Z0G _ (refsL (renL _ (Z0l (y::s))) [])=true;rw[Z1V,Z2P];rfl
   |i+3,h=>cases h
 |cons x r =>
  cases M with
  |nil=>cases hM
  |cons y s =>
   match i,h with
   |0,h=>cases h;rfl
   |1,h=>cases h;rfl
   |2,h=>cases h;rfl
   |3,h=>cases h;show Z0G _ (refsL (renL _ (Z0l (y::s))) [])=true;rw[Z1V,Z2P];rfl
   |i+4,h=>cases h
def uxF(H:Z00)(R:List Int):Z00:=match H with
 |[_,_,e]=>(match R with
  |[]=>[uxC .nslice,uxE,e]
  |y::s=>[uxC (.slice 3 0 (s.length+1) (s.length+1) 1),uxE,e,⟨true,3,0,.cells (Z0l (y::s)) 3⟩])
 |[_,_,⟨_,_,_,.cells L _⟩,e]=>[uxC (.slice 4 0 (L.length+R.length) (L.length+R.length) 1),uxE,⟨false,2,0,.cells [] 0⟩,e,⟨true,4,0,.cells (L++Z0l R) 3⟩]
 |[_,_,e,va,⟨_,_,_,.cells L _⟩]=>[uxC (.slice 5 0 (L.length+R.length) (L.length+R.length) 1),uxE,e,va,⟨false,4,0,.cells [] 0⟩,⟨true,5,0,.cells (L++Z0l R) 3⟩]
 |[_,_,_,e,va,⟨_,_,_,.cells L _⟩]=>[uxC (.slice 6 0 (L.length+R.length) (L.length+R.length) 1),uxE,⟨false,2,0,.cells [] 0⟩,e,va,⟨false,2,0,.cells [] 0⟩,⟨true,6,0,.cells (L++Z0l R) 3⟩]
 |_=>[]
theorem Z7Q{m r:List Nat}(h:m=0::1::r):BodyGe m uxE.body uxE.body:=Y0g ⟨Wk.func trivial ⟨Wk.ptr (by rw[h];rfl) rfl,Wk.ptr (by rw[h];rfl) rfl,trivial⟩,trivial⟩
theorem ZbY{m r:List Nat}(h:m=0::1::r)(es:List Ex):Wk m (.tuple (uxA es)) (.tuple (uxA es)):=Wk.tuple ⟨Y0j rfl,Wk.ptr (by rw[h];rfl) rfl,Wk.ptr (by rw[h];rfl) rfl,trivial⟩
theorem Z4V{m:List Nat}{a:List AV}{L:List Int}{ty:TypeId}(h:a=Z0l L):BodyGe m (.cells a ty) (.cells (Z0l L) ty):=Y01 (rest:=[]) (by rw[h,Y02]) (Z2P _)
theorem Zm9{es:List Ex}{e:ABody}(h:ClU Y00 gl es []):Z1N Y00 gl 22 (uxA es) [uxC .nslice,uxE,⟨true,2,0,e⟩] (.tuple []) (uxF [uxC .nslice,uxE,⟨true,2,0,e⟩] (ursL es)):=by
 have h2:=Z71 (m:=[0,1]) (Hc:=[uxC .nslice,uxE,⟨true,2,0,e⟩]) (cargs:=uxA es) (Z4E h) (ZbY rfl es)
  ⟨⟨rfl,rfl,rfl,rfl,Y0g ⟨Y0j rfl,trivial⟩⟩,⟨rfl,rfl,rfl,rfl,Z7Q rfl⟩,trivial⟩ rfl rfl (by generalize ursL es=R;cases R<;>rfl) (Z2T rfl) (Z9H 0) rfl
 refine cast ?_ h2
 cases hR:ursL es<;>simp[uxF,usH,uxC,uxE,Z9K,Z5f,shS,sgS,Z7S,sgE,shE,Z5i,renL,ren,Z1V,grA,grB,AObj.dead,hR]
theorem Zm8 {es : List Ex} {x : Int} {r : List Int} {e : ABody} (h : ClU Y00 gl es (x :: r)) : Z1N Y00 gl 22 (uxA es) [uxC (.slice 2 0 (r.length + 1) (r.length + 1) 1), uxE, ⟨true, 2, 0, .cells (Z0l (x :: r)) 3⟩, ⟨true, 3, 0, e⟩] (.tuple [])
  (uxF [uxC (.slice 2 0 (r.length+1) (r.length+1) 1),uxE,⟨true,2,0,.cells (Z0l (x::r)) 3⟩,⟨true,3,0,e⟩] (ursL es)):=by
 have h2:=Z71 (m:=[0,1,2]) (Hc:=[uxC (.slice 2 0 (r.length+1) (r.length+1) 1),uxE,⟨true,2,0,.cells (Z0l (x::r)) 3⟩,⟨true,3,0,e⟩]) (cargs:=uxA es) (Z4E h) (ZbY rfl es)
  ⟨⟨rfl,rfl,rfl,rfl,Y0g ⟨Y0b rfl rfl rfl (Y03 _) (Y03 _) rfl,trivial⟩⟩,⟨rfl,rfl,rfl,rfl,Z7Q rfl⟩,⟨rfl,rfl,rfl,rfl,Z4V rfl⟩,trivial⟩ rfl rfl rfl (Z2T rfl) (Z9H 0) rfl
 refine cast ?_ h2
 simp[uxF,usH,uxC,uxE,Z9K,Z5f,shS,sgS,Z7S,sgE,shE,Z5i,renL,ren,Z1V,Z1w,grA,grB,AObj.dead]
 simp[Z0l,Nat.add_assoc,Nat.add_comm,Nat.add_left_comm]
theorem Zm7 {es : List Ex} {v : Int} {e va : ABody} (h : ClU Y00 gl es [v]) : Z1N Y00 gl 22 (uxA es) [uxC (.slice 4 0 1 1 1), uxE, ⟨true, 2, 0, e⟩, ⟨true, 3, 0, va⟩, ⟨true, 4, 0, .cells [.int .i64 v] 3⟩] (.tuple [])
  (uxF [uxC (.slice 4 0 1 1 1),uxE,⟨true,2,0,e⟩,⟨true,3,0,va⟩,⟨true,4,0,.cells [.int .i64 v] 3⟩] (ursL es)):=by
 have h2:=Z71 (m:=[0,1,4]) (Hc:=[uxC (.slice 4 0 1 1 1),uxE,⟨true,2,0,e⟩,⟨true,3,0,va⟩,⟨true,4,0,.cells [.int .i64 v] 3⟩]) (cargs:=uxA es) (Z4E h) (ZbY rfl es)
  ⟨⟨rfl,rfl,rfl,rfl,Y0g ⟨Y0b rfl rfl rfl (Y03 _) (Y03 _) rfl,trivial⟩⟩,⟨rfl,rfl,rfl,rfl,Z7Q rfl⟩,⟨rfl,rfl,rfl,rfl,Z4V rfl⟩,trivial⟩ rfl rfl rfl (Z2T rfl) (Z9H 0) rfl
 refine cast ?_ h2
 have e1:Z0l [v]=[.int .i64 v]:=rfl
 simp[uxF,usH,uxC,uxE,Z9K,Z5f,shS,sgS,Z7S,sgE,shE,Z5i,renL,ren,Z1V,Za8,Z1w,grA,grB,AObj.dead,e1]
 simp[Z0l,Nat.add_comm]
theorem Zm6 {es : List Ex} {v x : Int} {r : List Int} {e va : ABody} (h : ClU Y00 gl es (x :: r ++ [v])) : Z1N Y00 gl 22 (uxA es) [uxC (.slice 5 0 (r.length + 1 + 1) (r.length + 1 + 1) 1), uxE, ⟨true, 2, 0, .cells (Z0l (x :: r)) 3⟩, ⟨true, 3, 0, e⟩, ⟨true, 4, 0, va⟩, ⟨true, 2, 0, .cells (Z0l (x :: r) ++ [.int .i64 v]) 3⟩] (.tuple [])
  (uxF [uxC (.slice 5 0 (r.length+1+1) (r.length+1+1) 1),uxE,⟨true,2,0,.cells (Z0l (x::r)) 3⟩,⟨true,3,0,e⟩,⟨true,4,0,va⟩,⟨true,2,0,.cells (Z0l (x::r)++[.int .i64 v]) 3⟩] (ursL es)):=by
 have h2:=Z71 (m:=[0,1,5]) (Hc:=kil (λi _=>mem i [2]) 0 [uxC (.slice 5 0 (r.length+1+1) (r.length+1+1) 1),uxE,⟨true,2,0,.cells (Z0l (x::r)) 3⟩,⟨true,3,0,e⟩,⟨true,4,0,va⟩,⟨true,2,0,.cells (Z0l (x::r)++[.int .i64 v]) 3⟩]) (cargs:=uxA es) (Z4E h) (ZbY rfl es)
  ⟨⟨rfl,rfl,rfl,rfl,Y0g ⟨Y0b rfl rfl (by simp) (Y03 _) (by simp) rfl,trivial⟩⟩,⟨rfl,rfl,rfl,rfl,Z7Q rfl⟩,⟨rfl,rfl,rfl,rfl,Z4V (by simp[Z0l])⟩,trivial⟩ rfl rfl rfl (Z2T rfl) (Z9H 0) rfl
 refine Zhx (q:=λi _=>mem i [2]) (cast (congrArg (λH'=>Z1N Y00 gl 22 (uxA es) _ (.tuple []) H') ?_) h2) rfl
 simp[uxF,usH,uxC,uxE,kil,mem,Z9K,Z5f,shS,sgS,Z7S,sgE,shE,Z5i,renL,ren,Z1V,grA,grB,AObj.dead]
 simp[Z0l]
 omega
end Go.Proofs.YtpobjilfhkbhjaaDoor.lex
end
section
namespace Go.Abs
open Go.RowKit
theorem Z0g{H:Z00}{k:Z00->Prop}(h:k H):frcHW H k:=by rw[Z0m];exact h
theorem Z2v{H H':Z00}{k:Z00->Prop}(e:H=H')(h:k H'):frcHW H k:=by rw[Z0m,e];exact h
theorem Z0j{o:Option (AV×Z00)}{r:AV}{H':Z00}{k:AV->Z00->Prop}(h:o=some (r,H'))(hk:k r H'):∃y,o=some y/\Z6k y.1 λr=>frcHW y.2 λH'=>k r H':=⟨_,h,by rw[Z23,Z0m];exact hk⟩
theorem Z7J{o:Option (List AV)}{cs':List AV}{F:List AV->Z00}{H':Z00}{k:Z00->Prop}(h:o=some cs')(e:F cs'=H')(hk:k H'):∃cs',o=some cs'/\frcHW (F cs') k:=⟨_,h,by rw[Z0m,e];exact hk⟩
theorem Z0i{n:Nat}{k:Nat->Prop}(h:k n):frcNP n k:=by rw[Z3b];exact h
theorem Z4f{α : Type}{o:Option α}{x : α}{k : α -> Prop}(e:o=some x)(h:k x):onO o k:=by rw[e];exact h
theorem Z67{H:Z00}{b f:Nat}(h:∀i o,H[i]? = some o->i≠b->o.fam≠f):Z2o b f H=H:=by
 unfold Z2o
 refine List.ext_getElem? λi=>?_
 rw[Z21]
 cases hi:H[i]? with
 |none=>rfl
 |some o =>
  simp only[Option.map_some,Y0D,Option.some.injEq]
  by_cases hb:i=b
  ·subst hb;simp
  · have:=h i o hi hb
    rw[if_neg]
    simp[hb,this]
end Go.Abs
end
section
namespace Go.Proofs.YtpobjilfhkbhjaaDoor.lex
open Go.Abs Go.RowKit Go.Flat
variable {gl:Z0n}
theorem Zj1{a b:List Ex}(h:uxA a=uxA b):a=b:=by
 simp only[uxA,List.cons.injEq,AV.rs.injEq,and_true,true_and]at h
 exact exC_inj _ _ h.2 h.1
theorem Zec{H:Z00}{o0 o1:AObj}(h0:H[0]? = some o0)(e0:o0=uxC .nslice)(h1:H[1]? = some o1)(e1:o1=uxE):HpGe H [0,1] [0,1] (usH []) 0:=by
 subst e0 e1
 exact⟨Z4f h0 ⟨rfl,rfl,rfl,rfl,Y0g ⟨Y0j rfl,trivial⟩⟩,Z4f h1 ⟨rfl,rfl,rfl,rfl,Z7Q rfl⟩,trivial⟩
theorem Z7R{H:Z00}{o0 o1:AObj}{b l f:Nat}{cs:List AV}{L:List Int}(h0:H[0]? = some o0)(e0:o0=uxC (.slice b 0 l l 1))(h1:H[1]? = some o1)(e1:o1=uxE)(h2:H[b]? = some ⟨true,f,0,.cells cs 3⟩)(hl:l=L.length)(hcs:cs=Z0l L)(hne:L≠[]):HpGe H [0,1,b] [0,1,b] (usH L) 0:=by
 subst e0 e1
 cases L with
 |nil=>exact (hne rfl).elim
 |cons x r =>
  exact⟨Z4f h0 ⟨rfl,rfl,rfl,rfl,Y0g ⟨Y0b rfl rfl hl (Y03 _) (by rw[hl];exact Y03 _) rfl,trivial⟩⟩,Z4f h1 ⟨rfl,rfl,rfl,rfl,Z7Q rfl⟩,Z4f h2 ⟨rfl,rfl,rfl,rfl,Z4V hcs⟩,trivial⟩
def usS(es:List Ex)(i:Nat):List (Nat×AV):=[(0,.rs es.length 4 (exC es)),(1,.ptr 0 0),(2,.ptr 1 0),(8,.rs es.length 4 (exC es)),(9,.int .i64 es.length),(10,.int .i64 i)]
theorem ZfO:∀(q:Nat)(es:List Ex)(L:List Int),sizeL es<=q->okL es->es.length<=9223372036854775807->L.length+sizeL es<=800000->ClU Y00 gl es L
 |q,es,L,hq,hok,hl,hL=>by
  obtain⟨O,hO,⟨p1,-⟩,p2,-⟩:=ZdE (P:=Y00) (gl:=gl) [{ I:=List Ex×Z00,f:=22,G:=λi=>Z1N Y00 gl 22 (uxA i.1) i.2 (.tuple []) (uxF i.2 (ursL i.1)),A:=λi=>uxA i.1,H:=λi=>i.2,R:=λ_=>.tuple [],O:=λi=>uxF i.2 (ursL i.1),body:=(by kernel_rfl),inj:=(λi j _ _ h1 h2=>by rw[Zj1 h1,h2];exact⟨rfl,rfl⟩),ok:=λi h=>h }]
   [{ I:=List UInt8,f:=23,G:=λs=>s.length<=9223372036854775807,A:=λs=>[.str s],R:=λs=>Ze1 s,body:=(by kernel_rfl),inj:=(λs t _ _ h=>by simp only[List.cons.injEq,AV.str.injEq,and_true]at h;rw[h]),ok:=λs hs=>⟨rfl,Z6H s hs⟩ }] rfl
  have q1:∀(k:List Ex)(H:Z00),Z1N Y00 gl 22 (uxA k) H (.tuple []) (uxF H (ursL k))->Z0e Y00 O H 22 (uxA k)=some (.tuple [],uxF H (ursL k)):=λk H h=>p1 (k,H) h
  have q2:∀s:List UInt8,s.length<=9223372036854775807->∀H,Z0e Y00 O H 23 [.str s]=some (Ze1 s,H):=p2
  clear p1 p2
  have hT:ZcU Y00 25 25=some (3,1,8):=by kernel_rfl
  unfold ClU
  simp only[uxA]at q1⊢
  refine Zi2 (λ_=>true) 0 follows Z11 hO Tryd.func22 rfl ?_
  simp only[usH]
  repeat' ((conv=>whnf);first|refine stp ?_|with_reducible apply Z04<;>intro h)
  conv=>whnf
  refine⟨Nat,(λi=>i<=es.length),usS es,(λi=>usH (L++ursL (es.take i))),(λi=>es.length-i),⟨0,Y0a _,?_⟩,?_⟩
  · dsimp only
    rw[show L++ursL (es.take 0)=L by simp[ursL]]
    cases L with
    |nil =>
     refine FgLK.mk [0,1] rfl rfl ?_ (Zec rfl rfl rfl rfl) rfl
     exact wks
    |cons x r =>
     refine FgLK.mk [0,1,2] rfl rfl ?_ (Z7R (L:=x::r) rfl rfl rfl rfl rfl rfl rfl (Y0K _ _)) rfl
     exact wks
  intro i hi
  dsimp only at hi⊢
  by_cases hlt:i<es.length
  case neg =>
   have e1:decide ((i:Int)<(es.length:Int))=false:=by simpa using hlt
   have hi2:i=es.length:=by omega
   subst hi2
   rw[Y0p]
   generalize L++ursL es=Li
   cases Li with
   |nil =>
    simp only[usH,uxC,uxE,grA,grB,usS]
    repeat' ((conv=>whnf);first|refine stp ?_|with_reducible apply Z04<;>intro h)
    conv=>whnf
    exact⟨[0,1],rfl,Zec rfl rfl rfl rfl,rfl,Y0j rfl⟩
   |cons x r =>
    simp only[usH,uxC,uxE,grA,grB,usS]
    repeat' ((conv=>whnf);first|refine stp ?_|with_reducible apply Z04<;>intro h)
    conv=>whnf
    exact⟨[0,1,2],rfl,Z7R (L:=x::r) rfl rfl rfl rfl rfl rfl rfl (Y0K _ _),rfl,Y0j rfl⟩
  have e1:decide ((i:Int)<(es.length:Int))=true:=by simpa using hlt
  have hx:=ex4 es i hlt
  have hx2:=hx
  have htk:=Z9I es i hlt
  have hmem:es[i]∈es:=Z12 hlt
  have hsz:=Z3w _ _ hmem
  have hoe:=Z3B hok _ hmem
  have hln:(L++ursL (es.take i)).length<=800000:=by
   have h1:=ursL_len (es.take i)
   have h2:=Z6B es i hlt
   rw[Y0e];omega
  have hln2:(L++ursL (es.take i)).length+Z28 es[i]<=800000:=by
   have h1:=ursL_len (es.take i)
   have h2:=Z6B es i hlt
   rw[Y0e];omega
  generalize hei:es[i]=e at *
  obtain⟨op,num,name,kids⟩:=e
  obtain⟨⟨hn1,hn2⟩,hok2⟩:=Z6e hoe
  simp only[Ex.name,Ex.kids]at hn1 hn2 hok2
  simp only[Z28]at hsz hln2
  simp only[Ex.cells,exA]at hx
  simp only[Zh3]at htk
  have q2n:=q2 name hn1
  have hq0:0<q:=by omega
  have IH:∀L',L'.length+sizeL kids<=800000->ClU Y00 gl kids L':=λL' h=>ZfO (q-1) kids L' (by omega) hok2 hn2 h
  have hnext:L++ursL (es.take (i+1))=(L++ursL (es.take i))++(ZeI op name++ursL kids):=by rw[htk,<- List.append_assoc]
  generalize hLi:L++ursL (es.take i)=Li at *
  have hR:=ursL_len kids
  clear q2 hei htk hmem hx2
  obtain⟨n,b,hreg,hb⟩:∃n b,Ze1 name = .tuple [.int .i64 n,.bool b]/\(b&&(op==2))=(decide (0<=Z4k name)&&(op==2))/\(b=true->n=Z4k name):=by
   unfold Ze1
   by_cases hr:Z4k name<0
   ·rw[if_pos hr];exact⟨0,false,rfl,by rw[show decide (0<=Z4k name)=false by simpa using hr],λh=>by cases h⟩
   ·rw[if_neg hr];exact⟨Z4k name,true,rfl,by rw[show decide (0<=Z4k name)=true by simpa using hr],λ_=>rfl⟩
  rw[hreg]at q2n
  obtain⟨hb,hbn⟩:=hb
  cases hc:(decide (0<=Z4k name)&&(op==2)) with
  |false =>
   have hown:ZeI op name=[]:=by unfold ZeI;rw[hc];rfl
   rw[hown,Y0s]at hnext
   rw[hc]at hb
   cases Li with
   |nil =>
    have qA:=λeb=>q1 kids _ (Zm9 (gl:=gl) (es:=kids) (e:=eb) (IH [] (by simp only[Y07];omega)))
    rw[Y0s]at hnext
    cases hRk:ursL kids with
    |nil =>
     rw[hRk]at qA hnext
     simp only[usH,uxC,uxE,grA,grB,usS]at qA⊢
     cases b<;>simp only[Y0h,Bool.false_and,reduceCtorEq]at hb
     all_goals (repeat' ((conv=>whnf);first|refine exI hx ?_|refine exI (q2n _) ?_|refine exI (qA _) ?_|(with_reducible refine ixJ i rfl ?_ ?_;focus omega)|(refine apS ?_)|refine stp ?_|with_reducible apply Z04<;>intro h))
     all_goals (conv=>whnf)
     all_goals (refine⟨i+1,hlt,by show es.length-(i+1)<es.length-i;omega,?_⟩)
     all_goals (try dsimp only)
     all_goals rw[hnext]
     all_goals refine FgLK.mk [0,1] rfl rfl ?_ (Zec rfl rfl rfl rfl) rfl
     all_goals exact wks
    |cons y s =>
     rw[hRk]at qA hnext
     simp only[usH,uxC,uxE,grA,grB,usS]at qA⊢
     cases b<;>simp only[Y0h,Bool.false_and,reduceCtorEq]at hb
     all_goals (repeat' ((conv=>whnf);first|refine exI hx ?_|refine exI (q2n _) ?_|refine exI (qA _) ?_|(with_reducible refine ixJ i rfl ?_ ?_;focus omega)|(refine apS ?_)|refine stp ?_|with_reducible apply Z04<;>intro h))
     all_goals (conv=>whnf)
     all_goals (refine⟨i+1,hlt,by show es.length-(i+1)<es.length-i;omega,?_⟩)
     all_goals (try dsimp only)
     all_goals rw[hnext]
     all_goals refine FgLK.mk [0,1,3] rfl rfl ?_ (Z7R (L:=y::s) rfl rfl rfl rfl rfl rfl rfl (Y0K _ _)) rfl
     all_goals exact wks
   |cons x r =>
    have qA:=λeb=>q1 kids _ (Zm8 (gl:=gl) (es:=kids) (x:=x) (r:=r) (e:=eb) (IH (x::r) (by omega)))
    simp only[usH,uxC,uxE,grA,grB,usS]at qA⊢
    cases b<;>simp only[Y0h,Bool.false_and,reduceCtorEq]at hb
    all_goals (repeat' ((conv=>whnf);first|refine exI hx ?_|refine exI (q2n _) ?_|refine exI (qA _) ?_|(with_reducible refine ixJ i rfl ?_ ?_;focus omega)|(refine apS ?_)|refine stp ?_|with_reducible apply Z04<;>intro h))
    all_goals (conv=>whnf)
    all_goals (refine⟨i+1,hlt,by show es.length-(i+1)<es.length-i;omega,?_⟩)
    all_goals (try dsimp only)
    all_goals rw[hnext]
    all_goals refine FgLK.mk [0,1,4] rfl rfl ?_ (Z7R (L:=x::r++ursL kids) rfl rfl rfl rfl rfl (by rw[Y0e,Z1w]) (Za8 _ _).symm (by simp)) rfl
    all_goals exact wks
  |true =>
   have hown:ZeI op name=[Z4k name]:=by unfold ZeI;rw[hc];rfl
   have hbt:b=true:=by rw[hc]at hb;simp only[Y08]at hb;exact hb.1
   have hop:(op==2)=true:=by simp only[Y08]at hc;exact hc.2
   have hnn:=hbn hbt
   subst hbt hnn
   rw[hown]at hnext
   clear hb hbn hown hc hreg
   generalize Z4k name=v at *
   cases Li with
   |nil =>
    have qA:=λeb va=>q1 kids _ (Zm7 (gl:=gl) (es:=kids) (v:=v) (e:=eb) (va:=va) (IH [v] (by simp only[Y04,Y07];omega)))
    simp only[usH,uxC,uxE,grA,grB,usS]at qA⊢
    repeat' ((conv=>whnf);first|refine exI hx ?_|refine exI (q2n _) ?_|refine exI (qA _ _) ?_|(with_reducible refine ixJ i rfl ?_ ?_;focus omega)|(refine apS ?_)|refine stp ?_|with_reducible apply Z04<;>intro h)
    conv=>whnf
    refine⟨i+1,hlt,by show es.length-(i+1)<es.length-i;omega,?_⟩
    (try dsimp only)
    rw[hnext]
    refine FgLK.mk [0,1,5] rfl rfl ?_ (Z7R (L:=[]++([v]++ursL kids)) rfl rfl rfl rfl rfl (by simp;omega) (by simp[Z0l]) (by simp)) rfl
    exact wks
   |cons x r =>
    have qA:=λeb va=>q1 kids _ (Zm6 (gl:=gl) (es:=kids) (v:=v) (x:=x) (r:=r) (e:=eb) (va:=va) (IH (x::r++[v]) (by simp only[Y0e,Y04,Y07]at hln2⊢;omega)))
    have hlr:r.length+1<=800000:=by simpa using hln
    have hcl:(Z0l (x::r)).length=(r.length+1)*1:=by rw[Z1w,Y04,Y0m]
    simp only[usH,uxC,uxE,grA,grB,usS]at qA⊢
    repeat' ((conv=>whnf);first|refine exI hx ?_|refine exI (q2n _) ?_|refine exI (qA _ _) ?_|(with_reducible refine ixJ i rfl ?_ ?_;focus omega)|(refine apS ?_)|refine stp ?_|with_reducible apply Z04<;>intro h)
    conv=>whnf
    refine⟨i+1,hlt,by show es.length-(i+1)<es.length-i;omega,?_⟩
    (try dsimp only)
    rw[hnext]
    refine FgLK.mk [0,1,6] rfl rfl ?_ (Z7R (L:=x::r++([v]++ursL kids)) rfl rfl rfl rfl rfl (by simp[Z1w];omega) (by simp[Z0l]) (by simp)) rfl
    exact wks
 termination_by q=>q
 decreasing_by omega
def uyH(i:Ins)(R:List Int):Z00:=⟨true,0,0,.cells (Z0E i) 38⟩::⟨true,1,0,.cells [grA 3 1 R] 25⟩::⟨true,2,0,.cells [.func (.func 22) [] [.ptr 1 0,.ptr 2 0]] 60⟩::grB 3 Z0l 3 R
theorem Zj3{i:Ins}(h:ClU Y00 gl i.ex []):Z1N Y00 gl 22 [.rs i.ex.length 4 (exC i.ex),.ptr 1 0,.ptr 2 0] (uyH i []) (.tuple []) (uyH i (ursL i.ex)):=by
 have h2:=Z71 (m:=[1,2]) (Hc:=uyH i []) (cargs:=[.rs i.ex.length 4 (exC i.ex),.ptr 1 0,.ptr 2 0]) (Z4E h) (Wk.tuple ⟨Y0j rfl,Wk.ptr rfl rfl,Wk.ptr rfl rfl,trivial⟩)
  ⟨⟨rfl,rfl,rfl,rfl,Y0g ⟨Y0j rfl,trivial⟩⟩,⟨rfl,rfl,rfl,rfl,Y0g ⟨Wk.func trivial ⟨Wk.ptr rfl rfl,Wk.ptr rfl rfl,trivial⟩,trivial⟩⟩,trivial⟩ rfl rfl (by generalize ursL i.ex=R;cases R<;>rfl) (Z2T rfl) (Z9H 0) rfl
 refine cast (congrArg (λH'=>Z1N Y00 gl 22 [.rs i.ex.length 4 (exC i.ex),.ptr 1 0,.ptr 2 0] (uyH i []) (.tuple []) H') ?_) h2
 cases hR:ursL i.ex<;>simp[uyH,usH,uxC,uxE,Z9K,Z5f,shS,sgS,Z7S,sgE,shE,Z5i,renL,ren,Z1V,grA,grB,AObj.dead,hR]
theorem ZbZ(i:Ins)(hok:okL i.ex)(hl:i.ex.length<=9223372036854775807)(hs:sizeL i.ex<=800000):ValOK Y00 gl 9 [.agg (Z0E i)] (Z3D (Z1Z i)):=by
 have hcl:=Zj3 (gl:=gl) (i:=i) (ZfO (sizeL i.ex) i.ex [] (Y03 _) hok hl (by simp only[Y07];omega))
 obtain⟨O,hO,⟨p0,p1,p2,-⟩,-⟩:=ZdE (P:=Y00) (gl:=gl) [{ I:=Unit,f:=22,G:=λ_=>True,A:=λ_=>[.rs i.ex.length 4 (exC i.ex),.ptr 1 0,.ptr 2 0],H:=λ_=>uyH i [],R:=λ_=>.tuple [],O:=λ_=>uyH i (ursL i.ex),body:=(by kernel_rfl),inj:=(λ_ _ _ _ _ _=>⟨rfl,rfl⟩),ok:=λ_ _=>hcl },
  sortFam (by kernel_rfl) shelf.sortI shelf.sortN,Z8v (by kernel_rfl) shelf.compactI shelf.compactN] [] rfl
 have q0:Z0e Y00 O (uyH i []) 22 [.rs i.ex.length 4 (exC i.ex),.ptr 1 0,.ptr 2 0]=some (.tuple [],uyH i (ursL i.ex)):=p0 () trivial
 have p1:∀i:SoI,i.G->Z0e Y00 O i.H 24 i.A=some (.tuple [],i.O (i.zs.mergeSort leI)):=p1
 have p2:∀i:SoI,i.G->Z0e Y00 O i.H 25 i.A=some (i.R,i.O (cpt i.zs)):=p2
 clear p0 hcl
 have hlen:=ursL_len i.ex
 have heq:=Zc0 i
 obtain⟨k,r,lo,od,to,ex⟩:=i
 simp only[Z0E,exA,Z3D,uyH]at *
 generalize hU:Z1Z ⟨k,r,lo,od,to,ex⟩=U at *
 cases hR:ursL ex with
 |nil =>
  have hU0:U=[]:=by
   rw[hR]at heq
   cases U with
   |nil=>rfl
   |cons a b=>exact absurd (congrArg List.length heq) (by simp[Lib.compact,Lib.compactUpTo])
  subst hU0
  have q1:∀H,Z0e Y00 O H 24 [.nslice]=some (.tuple [],H):=λH=>p1 ⟨H,0,0,[],0,0⟩ ⟨by simp,λh=>(h rfl).elim⟩
  have q2:∀H,Z0e Y00 O H 25 [.nslice]=some (.nslice,H):=λH=>p2 ⟨H,0,0,[],0,0⟩ ⟨by simp,λh=>(h rfl).elim⟩
  rw[hR]at q0
  clear p1 p2
  simp only[nis,List.map_nil,Y07,grA,grB]at q0⊢
  refine Zfw follows Z11 hO Tryd.func9 rfl ?_
  repeat' ((conv=>whnf);first|refine exI q0 ?_|refine exI (q1 _) ?_|refine exI (q2 _) ?_|refine stp ?_|with_reducible apply Z04<;>intro h)
  all_goals exact .inr ⟨rfl,1,rfl⟩
 |cons y s =>
  rw[hR]at q0 heq hlen
  have q1:=λ{H b f cap ty}=>Zce p1 y s (by omega) (H:=H) (b:=b) (f:=f) (cap:=cap) (ty:=ty)
  obtain⟨z,zs,hz⟩:∃z zs,(y::s).mergeSort leI=z::zs:=by
   have h:((y::s).mergeSort leI).length=s.length+1:=by simp
   match hm:(y::s).mergeSort leI,h with
   |z::zs,_=>exact⟨z,zs,rfl⟩
  have hzl:zs.length=s.length:=by
   have h:((y::s).mergeSort leI).length=s.length+1:=by simp
   rw[hz]at h;simpa using h
  rw[hz]at q1 heq
  obtain⟨rest2,q2⟩:=ZcR p2 heq z zs rfl (by simp only[Y04]at *;omega)
  rw[hzl]at q2
  clear p1 p2 hz hU heq
  have hnl:=Z1e U
  have hlit:=Z3C U
  generalize nis U=C at *
  simp only[grA,grB]at q0⊢
  refine Z0J follows Z11 hO Tryd.func9 rfl ?_
  repeat' ((conv=>whnf);first|refine exI q0 ?_|refine exI (q1 rfl) ?_|refine exI (q2 rfl) ?_|refine stp ?_|with_reducible apply Z04<;>intro h)
  all_goals (conv=>whnf)
  all_goals exact⟨_,Z9a (n:=28) rfl (by rw[hnl,Y0m]) hlit,rfl⟩
end Go.Proofs.YtpobjilfhkbhjaaDoor.lex
end
section
namespace Go.Abs
open Go.RowKit
def WkW(fs:List Nat)(H:Z00)(m:List Nat)(u u2:AV):Prop:=WkZ fs H m u u2\/∃u1,WkZ fs H m u u1/\wkV u1 u2=true
structure HpD (fs:List Nat) (m:List Nat) (H H2:Z00):Prop where
 len:H2.length=m.length
 get:∀(b:Nat)(o2:AObj),H2[b]? = some o2->∃ (j:Nat) (o:AObj),m[b]? = some j/\H[j]? = some o/\(o2.sh=0->o.sh=0)/\(o2.alive=true->o.alive=true/\o2.sh=o.sh/\mem o.fam fs=false/\Z3U fs H m o.body o2.body)
 sep:∀(b b':Nat)(o2 o2':AObj)(j j':Nat),H2[b]? = some o2->H2[b']? = some o2'->o2.alive=true->o2'.alive=true->m[b]? = some j->m[b']? = some j'->Z0M H j=Z0M H j'->b=b'
theorem FgS.dead {k : Nat} {fs m : List Nat} {tm tm2 : Tr} {H H2 : Z00} (htr : ∀ n u2, Z10 tm2 n = some u2 -> ∃ u, Z10 tm n = some u /\ WkW fs H m u u2) (htx : ∀ n, tex tm2 n = true -> tex tm n = true)
  (hp:HpD fs m H H2) (hkp:ZgT k 0 m=true):FgS k tm H tm2 H2:=by
 intro sn ι W a hR ht
 obtain⟨hl,hg,hsep⟩:=hp
 generalize hHQ:ZeM fs H=HQ
 have inQ:∀(b:Nat)(o:AObj),HQ[b]? = some o->o.alive=true->H[b]? = some o/\mem o.fam fs=true:=λb o hb hal=>by
  rw[<- hHQ]at hb
  obtain⟨o0,g1,_,_,g4⟩:=Z24 hb
  obtain⟨rfl,g5⟩:=g4 hal
  exact⟨g1,by simpa using g5⟩
 have hle:∀a v,sn a=some v->snO sn ι HQ W a=some v:=λa v hv=>by
  unfold snO
  split
  ·exact (hR.snap a v hv).2.1
  ·exact hv
 have hcell:∀a v,snO sn ι HQ W a=some v->W.cell? a=some v:=λa v hv=>by
  unfold snO at hv
  split at hv
  ·exact hv
  ·exact (hR.snap a v hv).2.1
 have hobjQ:∀(b:Nat)(o:AObj) p,HQ[b]? = some o->o.alive=true -> ι b=some p->OR sn ι W o.body p:=λb o p hb hal hp=>hR.obj b o p (inQ b o hb hal).1 hal hp
 have hz:∀(u u2:AV)(v:Value),WkZ fs H m u u2->VR sn ι u v->VR (snO sn ι HQ W) (iot m ι) u2 v:=λu u2 v h hv=>by
  rcases h with h|h
  ·exact Z0U ⟨hle,λ_ _ h=>h⟩ _ _ (h _ _ _ hv)
  · rw[hHQ]at h
    exact ZcY (Z42 hobjQ ⟨hle,λ_ _ h=>h⟩ (λb o p hb hal hp off v hv=>by
     unfold snO;rw[if_pos ⟨b,o,p,hb,hal,hp,rfl⟩];exact hv) 30 u u2 v h hv)
 have at2:∀{b:Nat}{o2:AObj}{p:Place},H2[b]? = some o2->o2.alive=true->iot m ι b=some p->∃j o,m[b]? = some j/\H[j]? = some o /\ ι j=some p/\o.alive=true/\o2.sh=o.sh/\mem o.fam fs=false/\Z3U fs H m o.body o2.body:=by
  intro b o2 p hb ha hp
  obtain⟨j,o,x1,x2,x3,x4⟩:=hg b o2 hb
  obtain⟨y1,y2,y3,y4⟩:=x4 ha
  simp only[iot,x1]at hp
  exact⟨j,o,x1,x2,hp,y1,y2,y3,y4⟩
 have hR2:R (snO sn ι HQ W) (iot m ι) H2 W:=by
  refine⟨λb=>⟨λhb=>?_,λ⟨p,hp⟩=>?_⟩,λb p hp=>?_,λb o2 p hb ha hp=>?_,λb b' o o' p p' hb hb' ha ha' hp hp' e=>?_,λad v hv=>?_,λb o2 p hb hp e=>?_⟩
  · obtain⟨j,o,x1,x2,_⟩:=hg b _ (Y0n hb)
    obtain⟨p,hp⟩:=hR.place x2
    exact⟨p,by simp only[iot,x1];exact hp⟩
  · unfold iot at hp
    split at hp
    ·rename_i j hj;rw[hl];exact (Y0o.1 hj).1
    ·cases hp
  · unfold iot at hp
    split at hp
    ·exact hR.blk _ p hp
    ·cases hp
  · obtain⟨j,o,x1,x2,x3,x4,x5,x6,x8⟩:=at2 hb ha hp
    have hor:=hR.obj j o p x2 x4 x3
    generalize o.body=b1 at x8 hor
    generalize o2.body=b2 at x8
    unfold Z3U at x8
    split at x8
    · obtain⟨rfl,h1,h2⟩:=x8
      simp only[OR]at hor⊢
      obtain⟨arr,g1,g2,g3,g4⟩:=hor
      refine⟨arr,g1,g2,by omega,λi c2 hc=>?_⟩
      obtain⟨c,e1,e2⟩:=h2 i c2 hc
      obtain⟨v,e3,e4⟩:=g4 i c e1
      exact⟨v,e3,hz _ _ _ e2 e4⟩
    ·exact Z0V ⟨hle,λ_ _ h=>h⟩ rfl (x8.or hor)
  · obtain⟨j,q,x1,x2,x3,x4,x5,x6,x8⟩:=at2 hb ha hp
    obtain⟨j',q',y1,y2,y3,y4,y5,y6,y8⟩:=at2 hb' ha' hp'
    have hs:=hR.sep j j' q q' p p' x2 y2 x4 y4 x3 y3 e
    have:b=b':=hsep b b' o o' j j' hb hb' ha ha' x1 y1 (by simp[Z0M,x2,y2,hs.1])
    subst this
    rw[hb]at hb';cases hb'
    exact⟨rfl,by rw[x1]at y1;cases y1;rw[x2]at y2;cases y2;exact (by have:=hs.2;omega)⟩
  · refine⟨Zkn (hcell ad v hv),hcell ad v hv,λb o2 p hb ha hp hne=>?_⟩
    obtain⟨j,o,x1,x2,x3,x4,x5,x6,_⟩:=at2 hb ha hp
    unfold snO at hv
    split at hv
    · rename_i hex
      obtain⟨b',o',p',z1,z2,z3,z4⟩:=hex
      obtain⟨y1,y2⟩:=inQ b' o' z1 z2
      have:=(hR.sep j b' o o' p p' x2 y1 x4 z2 x3 z3 (hne.trans z4.symm)).1
      rw[this,y2]at x6;cases x6
    ·exact (hR.snap ad v hv).2.2 j o p x2 x4 x3 hne
  · obtain⟨j,o,x1,x2,x3,x4⟩:=hg b o2 hb
    simp only[iot,x1]at hp
    exact hR.shz j o p x2 hp (x3 e)
 refine⟨snO sn ι HQ W,iot m ι,⟨hR2,hle,λb o2 p hb ha hp=>?_,λ_ _ _=>rfl,Y03 _,rfl,rfl,rfl,λad v hv=>?_,λb p hb hp=>by have:=Z8W hkp b hb;simp only[Y0D]at this;simp only[iot,this];exact hp⟩,λt u2 hu=>?_,λt hx=>ht.2 t (htx t hx)⟩
 · obtain⟨j,o,x1,x2,x3,x4,_⟩:=at2 hb ha hp
   exact .inr ⟨j,o,p,x2,x4,x3,rfl⟩
 · unfold snO at hv
   split at hv
   · rename_i hex
     obtain⟨b,o,p,x1,x2,x3,x4⟩:=hex
     exact .inr (.inr ⟨b,o,p,(inQ b o x1 x2).1,x2,x3,x4⟩)
   ·exact .inl hv
 · obtain⟨u,h1,h2⟩:=htr t u2 hu
   obtain⟨v,h4,h5⟩:=ht.1 t u h1
   rcases h2 with h2|⟨u1,h2,h3⟩
   ·exact⟨v,h4,hz _ _ _ h2 h5⟩
   ·exact⟨v,h4,ZbW u1 u2 v h3 (hz _ _ _ h2 h5)⟩
def SlotsGeW(fs:List Nat)(H:Z00)(m:List Nat)(t:Tr):List (Nat×AV)->Prop
 |[]=>True
 |(n,u2)::l=>(onO (Z10 t n) λu=>WkW fs H m u u2)/\SlotsGeW fs H m t l
theorem SlotsGeW.get{fs:List Nat}{H:Z00}{m:List Nat}{t:Tr}:∀{l:List (Nat×AV)},SlotsGeW fs H m t l->∀n u2,Z1s n l=some u2->∃u,Z10 t n=some u/\WkW fs H m u u2
 |[],h,n,u2,e=>by simp[Z1s]at e
 |(k,v)::l,h,n,u2,e=>by
  simp only[Z1s]at e
  split at e
  · rename_i hk
    have:=Nat.eq_of_beq_eq_true hk;subst this
    simp at e;subst e
    exact Z01 h.1
  ·exact h.2.get n u2 e
theorem FgLK.mkD{k:Nat}{t0 tm:Tr}{H:Z00}{l:List (Nat×AV)}{H2:Z00}(fs m:List Nat)(hk:ZgT k 0 m=true)(h:Zel t0 tm=true)(h1:SlotsGeW fs H m tm l)(h2:HpD fs m H H2):FgLK k t0 tm H l H2:=by
 unfold FgLK;rw[h]
 exact .inr (FgS.dead (fs:=fs) (m:=m) (λn u2 e=>h1.get n u2 (Z4T _ _ _ _ e)) (λn e=>Z69 h n (by rwa [Z6g]at e)) h2 hk)
theorem WkW.wk{fs:List Nat}{H:Z00}{m:List Nat}{u u2:AV}(h:Wk m u u2):WkW fs H m u u2:=.inl (.inl h)
theorem WkW.fz{fs:List Nat}{H:Z00}{m:List Nat}{u u1 u2:AV}(h:frz (ZeM fs H) 30 u=some u1)(hw:wkV u1 u2=true):WkW fs H m u u2:=.inr ⟨u1,.inr h,hw⟩
theorem ValOK.res{P:Program}{gl:Z0n}{f:Nat}{args:List AV}{r r2:AV}(h:ValOK P gl f args r)(hw:wkV r r2=true):ValOK P gl f args r2:=by
 intro sn W cargs hg hR ha
 exact (h sn W cargs hg hR ha).mono λe W' ⟨v,e1,hs,hv⟩=>⟨v,e1,hs,ZbW r r2 v hw hv⟩
end Go.Abs
end
section
namespace Go.Abs
open Go.RowKit
theorem Zfr{H:Z00}{n b f sh len cap z:Nat}{cs l:List AV}{ty:TypeId}(hH:H[b]? = some ⟨true,f,sh,.cells cs ty⟩)(hc:cs.length=len*z)(hl:Z3o (frz H n) cs=some l):frz H (n+1) (.slice b 0 len cap z)=some (.rs len z l):=by
 cases len with
 |zero =>
  have:cs=[]:=Y0S (by omega)
  subst this
  simp only[Z3o,Option.some.injEq]at hl
  subst hl
  rfl
 |succ m =>
  unfold frz
  simp only[hH,List.drop_zero,Zc9 hc,hl]
end Go.Abs
end
section
namespace Go.Proofs.YtpobjilfhkbhjaaDoor.lex
open Go.Abs Go.RowKit Go.Flat
def inb(b:Nat)(ty:TypeId):List AV->AObj
 |[]=>⟨false,b,0,.cells [] ty⟩
 |c::r=>⟨true,b,0,.cells (c::r) ty⟩
def grn(b z:Nat):Nat->AV
 |0=>.nslice
 |n+1=>.slice b 0 (n+1) (n+1) z
def inn(k:Nat)(ty:TypeId)(g:Nat->List AV)(n:Nat):Z00:=(List.range n).map λi=>inb (k+i) ty (g i)
def Z6M(k z:Nat)(len:Nat->Nat)(n:Nat):List AV:=arr (λi=>grn (k+i) z (len i)) n
theorem Z76{b:Nat}{ty:TypeId}{l:List AV}(h:l≠[]):inb b ty l=⟨true,b,0,.cells l ty⟩:=by
 cases l with
 |nil=>exact (h rfl).elim
 |cons c r=>rfl
theorem Z8f{b:Nat}{ty:TypeId}{l:List AV}:(inb b ty l).alive=true ↔ l≠[]:=by
 cases l with
 |nil=>simp[inb]
 |cons c r=>simp[inb]
theorem Zfj{b:Nat}{ty:TypeId}{l:List AV}:(inb b ty l).sh=0:=by cases l<;>rfl
theorem Z4l{b:Nat}{ty:TypeId}{l:List AV}:(inb b ty l).fam=b:=by cases l<;>rfl
theorem Z2F(k:Nat)(ty:TypeId)(g:Nat->List AV)(n:Nat):(inn k ty g n).length=n:=by simp[inn]
theorem Z99(k:Nat)(ty:TypeId)(g:Nat->List AV){n i:Nat}(h:i<n):(inn k ty g n)[i]? = some (inb (k+i) ty (g i)):=by simp[inn,h]
theorem Z2s(k z:Nat)(len:Nat->Nat)(n:Nat):(Z6M k z len n).length=n:=Z3R _ _
theorem Z6d(k z:Nat)(len:Nat->Nat){n i:Nat}(h:i<n):(Z6M k z len n)[i]? = some (grn (k+i) z (len i)):=Z7q _ _ _ h
theorem ZeJ(k z:Nat)(len:Nat->Nat){n i:Nat}(h:i<n){off:Nat}(e:off=i):tk 1 ((Z6M k z len n).drop off)=some [grn (k+i) z (len i)]:=Z5R _ h e
theorem Z8Y(k z n:Nat):Z3W n [AV.nslice]=Z6M k z (λ_=>0) n:=Z4P _ _
def HpGeD(fs:List Nat)(H:Z00)(m:List Nat):List Nat->Z00->Prop
 |[],[]=>True
 |j::l,o2::H2=>(onO H[j]? λo=>(o2.alive=false/\o2.sh=0/\o.sh=0)\/(o.alive=true/\o2.alive=true/\o2.sh=o.sh/\Z3U fs H m o.body o2.body))/\HpGeD fs H m l H2
 |_,_=>False
theorem HpGeD.get{fs:List Nat}{H:Z00}{m:List Nat}:∀{l:List Nat}{H2:Z00},HpGeD fs H m l H2->H2.length=l.length/\∀(b:Nat)(o2:AObj),H2[b]? = some o2->∃ (j:Nat) (o:AObj),l[b]? = some j/\H[j]? = some o/\((o2.alive=false/\o2.sh=0/\o.sh=0)\/(o.alive=true/\o2.alive=true/\o2.sh=o.sh/\Z3U fs H m o.body o2.body))
 |[],[],h=>⟨rfl,λb o2 hb=>by simp at hb⟩
 |j::l,x::H2,h=>by
  obtain⟨h1,h2⟩:=h
  obtain⟨o,ho,e⟩:=Z01 h1
  obtain⟨k1,k2⟩:=h2.get
  refine⟨by simp[k1],λb o2 hb=>?_⟩
  cases b with
  |zero=>simp at hb;subst hb;exact⟨j,o,rfl,ho,e⟩
  |succ b =>
   obtain⟨j',o',x1,x2,x3⟩:=k2 b o2 (by simpa using hb)
   exact⟨j',o',by simpa using x1,x2,x3⟩
 |[],_::_,h=>h.elim
 |_::_,[],h=>h.elim
def Z1D(H:Z00):Z00->List Nat->List Nat
 |o::A,j::l=>cond o.alive (Z0M H j::Z1D H A l) (Z1D H A l)
 |_,_=>[]
theorem Z2S{H:Z00}:∀{A:Z00}{l:List Nat}{b j:Nat}{o:AObj},A[b]? = some o->o.alive=true->l[b]? = some j->Z0M H j∈Z1D H A l
 |[],l,b,j,o,h,_,_=>by simp at h
 |x::A,[],b,j,o,_,_,h=>by simp at h
 |x::A,i::l,0,j,o,h1,h2,h3=>by
  simp at h1 h3;subst h1;subst h3
  simp[Z1D,h2]
 |x::A,i::l,b+1,j,o,h1,h2,h3=>by
  have:=Z2S (H:=H) (A:=A) (l:=l) (b:=b) (j:=j) (by simpa using h1) h2 (by simpa using h3)
  unfold Z1D
  cases x.alive with
  |true=>exact List.mem_cons_of_mem _ this
  |false=>exact this
theorem Zaj{H:Z00}:∀{A:Z00}{l:List Nat},(Z1D H A l).Nodup->∀{b b' j j':Nat}{o o':AObj},A[b]? = some o->o.alive=true->l[b]? = some j->A[b']? = some o'->o'.alive=true->l[b']? = some j'->Z0M H j=Z0M H j'->b=b'
 |[],l,_,b,b',j,j',o,o',h,_,_,_,_,_,_=>by simp at h
 |x::A,[],_,b,b',j,j',o,o',_,_,h,_,_,_,_=>by simp at h
 |x::A,i::l,hn,b,b',j,j',o,o',h1,h2,h3,g1,g2,g3,e=>by
  unfold Z1D at hn
  cases b with
  |zero =>
   cases b' with
   |zero=>rfl
   |succ b' =>
    exfalso
    simp at h1 h3;subst h1;subst h3
    rw[h2]at hn
    simp only[cond_true,Y0L]at hn
    exact hn.1 (by rw[e];exact Z2S (by simpa using g1) g2 (by simpa using g3))
  |succ b =>
   have hn2:(Z1D H A l).Nodup:=by
    cases hx:x.alive with
    |true=>rw[hx]at hn;simp only[cond_true,Y0L]at hn;exact hn.2
    |false=>rw[hx]at hn;exact hn
   cases b' with
   |zero =>
    exfalso
    simp at g1 g3;subst g1;subst g3
    rw[g2]at hn
    simp only[cond_true,Y0L]at hn
    exact hn.1 (by rw[<- e];exact Z2S (by simpa using h1) h2 (by simpa using h3))
   |succ b' =>
    have:=Zaj hn2 (b:=b) (b':=b') (by simpa using h1) h2 (by simpa using h3) (by simpa using g1) g2 (by simpa using g3) e
    omega
theorem HpD.sec {fs ml mi : List Nat} {H A2 : Z00} {k n : Nat} {ty : TypeId} {g : Nat -> List AV} (hA : HpGeD fs H (ml ++ mi) ml A2) (hk : ml.length = k) (hmi : mi.length = n)
  (hI0:∀i,i<n->∃j o,mi[i]? = some j/\H[j]? = some o/\o.sh=0)
  (hI:∀i j,i<n->g i≠[]->mi[i]? = some j->∃o,H[j]? = some o/\o.alive=true/\mem o.fam fs=false/\o.body = .cells (g i) ty)
  (hr:∀i,i<n->refsL (g i) []=[]) (hs:(Z1D H A2 ml).Nodup) (hfs:∀f∈Z1D H A2 ml,mem f fs=false)
  (hf:∀i j,i<n->g i≠[]->mi[i]? = some j->Z0M H j ∉ Z1D H A2 ml)
  (hf2:∀i i' j j',i<n->i'<n->g i≠[]->g i'≠[]->mi[i]? = some j->mi[i']? = some j'->Z0M H j=Z0M H j'->i=i'):HpD fs (ml++mi) H (A2++inn k ty g n):=by
 obtain⟨hl,hg⟩:=hA.get
 have lo:∀b,b<k->(ml++mi)[b]? = ml[b]?:=λb hb=>Y0i (by omega)
 have hi:∀b,¬b<k->(ml++mi)[b]? = mi[b-k]?:=λb hb=>by rw[Y0c (by omega),hk]
 have lo2:∀b,b<k->(A2++inn k ty g n)[b]? = A2[b]?:=λb hb=>Y0i (by omega)
 have hi2:∀b o2,¬b<k->(A2++inn k ty g n)[b]? = some o2->b-k<n/\o2=inb b ty (g (b-k)):=λb o2 hb h=>by
  rw[Y0c (by omega),hl,hk]at h
  have hlt:b-k<n:=by have:=(Y0o.1 h).1;rwa [Z2F]at this
  rw[Z99 _ _ _ hlt,Option.some.injEq]at h
  refine⟨hlt,?_⟩
  rw[<- h];congr 1;omega
 refine⟨by simp[hl,hk,hmi,Z2F],λb o2 hb=>?_,λb b' o2 o2' j j' hb hb' ha ha' hj hj' e=>?_⟩
 · by_cases hlt:b<k
   · rw[lo2 b hlt]at hb
     obtain⟨j,o,x1,x2,x3⟩:=hg b o2 hb
     refine⟨j,o,(lo b hlt).trans x1,x2,λe=>?_,λha=>?_⟩
     · rcases x3 with ⟨_,_,y⟩|⟨_,_,y,_⟩
       ·exact y
       ·omega
     · rcases x3 with ⟨y,_,_⟩|⟨y1,y2,y3,y4⟩
       ·rw[y]at ha;cases ha
       · refine⟨y1,y3,?_,y4⟩
         have:=hfs _ (Z2S hb ha x1)
         have e:Z0M H j=o.fam:=by simp[Z0M,x2]
         rwa [e]at this
   · obtain⟨h1,rfl⟩:=hi2 b o2 hlt hb
     obtain⟨j,o,x1,x2,x3⟩:=hI0 _ h1
     refine⟨j,o,(hi b hlt).trans x1,x2,λ_=>x3,λha=>?_⟩
     rw[Z8f]at ha
     obtain⟨o',y1,y2,y3,y4⟩:=hI _ j h1 ha x1
     rw[x2]at y1;cases y1
     refine⟨y2,by rw[Zfj,x3],y3,?_⟩
     rw[Z76 ha,y4]
     exact Y05 (Y01 (rest:=[]) (by simp) (hr _ h1))
 · by_cases hlt:b<k
   · rw[lo b hlt]at hj
     rw[lo2 b hlt]at hb
     by_cases hlt':b'<k
     · rw[lo b' hlt']at hj'
       rw[lo2 b' hlt']at hb'
       exact Zaj hs hb ha hj hb' ha' hj' e
     · obtain⟨h1,rfl⟩:=hi2 b' o2' hlt' hb'
       rw[hi b' hlt']at hj'
       rw[Z8f]at ha'
       exact absurd (by rw[<- e];exact Z2S hb ha hj) (hf _ j' h1 ha' hj')
   · obtain⟨h1,rfl⟩:=hi2 b o2 hlt hb
     rw[hi b hlt]at hj
     rw[Z8f]at ha
     by_cases hlt':b'<k
     · rw[lo b' hlt']at hj'
       rw[lo2 b' hlt']at hb'
       exact absurd (by rw[e];exact Z2S hb' ha' hj') (hf _ j h1 ha hj)
     · obtain⟨h1',rfl⟩:=hi2 b' o2' hlt' hb'
       rw[hi b' hlt']at hj'
       rw[Z8f]at ha'
       have:=hf2 _ _ j j' h1 h1' ha ha' hj hj' e
       omega
theorem HpD.of{fs m:List Nat}{H A2:Z00}(hA:HpGeD fs H m m A2)(hs:(Z1D H A2 m).Nodup)(hfs:∀f∈Z1D H A2 m,mem f fs=false):HpD fs m H A2:=by
 have h:=HpD.sec (mi:=[]) (n:=0) (k:=m.length) (ty:=0) (g:=λ_=>[]) (by rw[Y02];exact hA) rfl rfl (λi hi=>absurd hi (Y0t _)) (λi j hi=>absurd hi (Y0t _)) (λi hi=>absurd hi (Y0t _)) hs hfs (λi j hi=>absurd hi (Y0t _)) (λi i' j j' hi=>absurd hi (Y0t _))
 simpa[inn]using h
theorem Z0o{H:Z00}{j:Nat}{o:AObj}(h:H[j]? = some o):Z0M H j=o.fam:=by unfold Z0M;rw[h]
theorem HpD.start {fs ml : List Nat} {H A2 : Z00} {k n : Nat} {ty : TypeId} (hA : HpGeD fs H (ml ++ List.replicate n 0) ml A2) (hk : ml.length = k) (h0 : ∃ o, H[0]? = some o /\ o.sh = 0)
  (hs:(Z1D H A2 ml).Nodup) (hfs:∀f∈Z1D H A2 ml,mem f fs=false):HpD fs (ml++List.replicate n 0) H (A2++inn k ty (λ_=>[]) n):=by
 obtain⟨o,h1,h2⟩:=h0
 refine HpD.sec hA hk (by simp) (λi hi=>⟨0,o,by simp[hi],h1,h2⟩) (λi j _ h=>(h rfl).elim) (λ_ _=>rfl) hs hfs (λi j _ h=>(h rfl).elim) (λi i' j j' _ _ h=>(h rfl).elim)
structure Sec (H:Z00) (k n:Nat) (ty:TypeId) (g:Nat->List AV):Prop where
 get:∀i,i<n->H[k+i]? = some (inb (k+i) ty (g i))
theorem HpD.stay {ml : List Nat} {H A2 : Z00} {k n : Nat} {ty : TypeId} {g : Nat -> List AV} (hS : Sec H k n ty g) (hA : HpGeD [] H (ml ++ List.range' k n) ml A2) (hk : ml.length = k) (hr : ∀ i, i < n -> refsL (g i) [] = [])
  (hs:(Z1D H A2 ml).Nodup) (hm:∀f∈Z1D H A2 ml,f<k\/k+n<=f):HpD [] (ml++List.range' k n) H (A2++inn k ty g n):=by
 have at_:∀i j,i<n->(List.range' k n)[i]? = some j->j=k+i:=λi j hi h=>by rw[Y0q hi,Option.some.injEq]at h;omega
 refine HpD.sec hA hk (by simp) (λi hi=>⟨k+i,_,by rw[Y0q hi];simp,hS.get i hi,Zfj⟩) (λi j hi hne hj=>?_) hr hs (λ_ _=>rfl) (λi j hi hne hj=>?_) (λi i' j j' hi hi' hne hne' hj hj' e=>?_)
 · obtain rfl:=at_ i j hi hj
   exact⟨_,hS.get i hi,Z8f.2 hne,rfl,by rw[Z76 hne]⟩
 · obtain rfl:=at_ i j hi hj
   intro hx
   have:=hm _ hx
   rw[Z0o (hS.get i hi),Z4l]at this
   omega
 · obtain rfl:=at_ i j hi hj
   obtain rfl:=at_ i' j' hi' hj'
   rw[Z0o (hS.get i hi),Z0o (hS.get i' hi'),Z4l,Z4l]at e
   omega
theorem HpD.grow {ml : List Nat} {H A2 : Z00} {k n i n1 f : Nat} {ty : TypeId} {g : Nat -> List AV} {cs : List AV} (hS : Sec H k n ty g) (hi : i < n) (hA : HpGeD [] H (ml ++ (List.range' k n).set i n1) ml A2) (hk : ml.length = k) (hr : ∀ i, i < n -> refsL (g i) [] = [])
  (hcs:refsL cs []=[]) (h1:H[n1]? = some ⟨true,f,0,.cells cs ty⟩) (hf:f=k+i\/k+n<=f) (hs:(Z1D H A2 ml).Nodup) (hm:∀x∈Z1D H A2 ml,(x<k\/k+n<=x)/\x≠f):HpD [] (ml++(List.range' k n).set i n1) H (A2++inn k ty (upd g i cs) n):=by
 have at_:∀a j,a<n->((List.range' k n).set i n1)[a]? = some j->(a=i/\j=n1)\/(a≠i/\j=k+a):=λa j ha h=>by
  rw[Y0u]at h
  by_cases e:i=a
  ·rw[if_pos e,if_pos (by simp;omega),Option.some.injEq]at h;exact .inl ⟨e.symm,h.symm⟩
  ·rw[if_neg e,Y0q ha,Option.some.injEq]at h;exact .inr ⟨λh=>e h.symm,by omega⟩
 have fam_:∀a j,a<n->((List.range' k n).set i n1)[a]? = some j->Z0M H j=if a=i then f else k+a:=λa j ha h=>by
  rcases at_ a j ha h with ⟨rfl,rfl⟩|⟨h2,rfl⟩
  ·rw[Z0o h1,if_pos rfl]
  ·rw[Z0o (hS.get a ha),Z4l,if_neg h2]
 refine HpD.sec hA hk (by simp) (λa ha=>?_) (λa j ha hne hj=>?_) (λa ha=>?_) hs (λ_ _=>rfl) (λa j ha hne hj hx=>?_) (λa a' j j' ha ha' hne hne' hj hj' e=>?_)
 · have hl:a<((List.range' k n).set i n1).length:=by simpa using ha
   have hg:=Y0n hl
   rcases at_ a _ ha hg with ⟨rfl,h2⟩|⟨h2,h3⟩
   ·exact⟨_,_,hg,by rw[h2];exact h1,rfl⟩
   ·exact⟨_,_,hg,by rw[h3];exact hS.get a ha,Zfj⟩
 · rcases at_ a j ha hj with ⟨rfl,rfl⟩|⟨h2,rfl⟩
   ·rw[Z08];exact⟨_,h1,rfl,rfl,rfl⟩
   ·rw[Z07 h2]at hne⊢;exact⟨_,hS.get a ha,Z8f.2 hne,rfl,by rw[Z76 hne]⟩
 · by_cases e:a=i
   ·subst e;rw[Z08];exact hcs
   ·rw[Z07 e];exact hr a ha
 · have:=hm _ hx
   rw[fam_ a j ha hj]at this
   split at this<;>omega
 · rw[fam_ a j ha hj,fam_ a' j' ha' hj']at e
   split at e<;>split at e<;>omega
theorem Zhw{ml mi:List Nat}{k:Nat}(h:ml.length=k)(i:Nat):(ml++mi)[k+i]? = mi[i]?:=by
 subst h
 rw[Y0c (by omega),Nat.add_sub_cancel_left]
theorem Wk.nil{m:List Nat}:Wk m .nslice .nslice:=Y0j rfl
theorem ZiJ{m:List Nat}{b z n:Nat}(h:m[b]? = some b):Wk m (grn b z n) (grn b z n):=by
 cases n with
 |zero=>exact Wk.nil
 |succ n=>exact Y0b h rfl rfl (Y03 _) (Y03 _) rfl
theorem Z3z{m:List Nat}{k z n:Nat}{len:Nat->Nat}{t:TypeId}(hm:∀i,i<n->m[k+i]? = some (k+i)):BodyGe m (.cells (Z6M k z len n) t) (.cells (Z6M k z len n) t):=by
 refine⟨rfl,Y03 _,λi c hc=>?_⟩
 have hi:i<n:=by have:=(Y0o.1 hc).1;rwa [Z2s]at this
 rw[Z6d _ _ _ hi,Option.some.injEq]at hc
 subst hc
 exact⟨_,Z6d _ _ _ hi,ZiJ (hm i hi)⟩
theorem Z9U {m : List Nat} {k z n i n1 l c : Nat} {len : Nat -> Nat} {t : TypeId} (hi : i < n) (hm : ∀ a, a < n -> a ≠ i -> m[k + a]? = some (k + a)) (h1 : m[k + i]? = some n1) (hl : 0 < l) (hc : l <= c) :
  BodyGe m (.cells ((Z6M k z len n).set i (.slice n1 0 l c z)) t) (.cells (Z6M k z (upd len i l) n) t):=by
 refine⟨rfl,by rw[List.length_set,Z2s,Z2s];exact Y03 _,λa c2 hc2=>?_⟩
 have ha:a<n:=by have:=(Y0o.1 hc2).1;rwa [Z2s]at this
 rw[Z6d _ _ _ ha,Option.some.injEq]at hc2
 subst hc2
 by_cases e:a=i
 · subst e
   refine⟨.slice n1 0 l c z,by rw[Y0u];simp[Z2s,ha],?_⟩
   rw[Z08]
   cases l with
   |zero=>omega
   |succ l=>exact Y0b h1 rfl rfl (Y03 _) hc rfl
 · refine⟨grn (k+a) z (len a),by rw[Y0u,if_neg (λh=>e h.symm),Z6d _ _ _ ha],?_⟩
   rw[Z07 e]
   exact ZiJ (hm a ha e)
theorem Z9Q{k n i n1 a:Nat}(ha:a<n)(e:a≠i):((List.range' k n).set i n1)[a]? = some (k+a):=by
 rw[Y0u,if_neg (λh=>e h.symm),Y0q ha];simp
theorem Z6D{k n i n1:Nat}(hi:i<n):((List.range' k n).set i n1)[i]? = some n1:=by
 rw[Y0u,if_pos rfl,if_pos (by simpa using hi)]
def frn(z n:Nat)(l:List AV):AV:=match n with|0=>.nslice|m+1=>.rs (m+1) z l
theorem ZhW{f:AV->Option AV}{a b:Nat->AV}:∀{n:Nat},(∀i,i<n->f (a i)=some (b i))->Z3o f (arr a n)=some (arr b n):=by
 intro n h
 have key:∀l:List Nat,(∀i∈l,f (a i)=some (b i))->Z3o f (l.map a)=some (l.map b):=by
  intro l
  induction l with
  |nil=>intro _;rfl
  |cons x l ih =>
   intro h
   have h1:=h x (by simp)
   have h2:=ih λi hi=>h i (by simp[hi])
   simp only[Y0C,Z3o,h1,h2]
 exact key _ λi hi=>h i (Y0k.1 hi)
theorem Zac {H : Z00} {d o f k z n cap : Nat} {ty t : TypeId} {g : Nat -> List AV} {len : Nat -> Nat} (hH : H[o]? = some ⟨true, f, 0, .cells (Z6M k z len n) t⟩) (hS : ∀ i, i < n -> len i ≠ 0 -> ∃ f', H[k + i]? = some ⟨true, f', 0, .cells (g i) ty⟩)
  (hl:∀i,i<n->(g i).length=len i*z) (hg:∀i,i<n->(g i).all lit=true):frz H (d+3) (.slice o 0 n cap 1)=some (.rs n 1 (arr (λi=>frn z (len i) (g i)) n)):=by
 refine Zfr hH (by rw[Z2s,Y0m]) (ZhW λi hi=>?_)
 cases e:len i with
 |zero=>rfl
 |succ m =>
  obtain⟨f',h1⟩:=hS i hi (by omega)
  have h2:=hl i hi
  rw[e]at h2
  exact Zab h1 h2 (hg i hi)
theorem Z9D:∀l:List AV,l.all lit=true->wkVL l l=true
 |[],_=>rfl
 |u::l,h=>by
  simp only[List.all_cons,Y08]at h
  simp only[wkVL,Y08]
  refine⟨?_,Z9D l h.2⟩
  cases u<;>simp[lit]at h<;>simp[wkV,veq]
theorem ZbV{z n:Nat}{g:Nat->List AV}{len:Nat->Nat}(hl:∀i,i<n->(g i).length=len i*z)(hg:∀i,i<n->(g i).all lit=true):wkV (.rs n 1 (arr (λi=>frn z (len i) (g i)) n)) (.rs n 1 (arr (λi=>.rs (len i) z (g i)) n))=true:=by
 simp only[wkV,Nat.beq_refl,Y0h]
 have key:∀l:List Nat,(∀i∈l,i<n)->wkVL (l.map λi=>frn z (len i) (g i)) (l.map λi=>.rs (len i) z (g i))=true:=by
  intro l
  induction l with
  |nil=>intro _;rfl
  |cons x l ih =>
   intro h
   have hx:=h x (by simp)
   simp only[Y0C,wkVL,Y08]
   refine⟨?_,ih λi hi=>h i (by simp[hi])⟩
   have h1:=hl x hx
   cases e:len x with
   |zero =>
    rw[e,Nat.zero_mul]at h1
    rw[List.length_eq_zero_iff.1 h1]
    rfl
   |succ m=>simp only[frn,wkV,Nat.beq_refl,Y0h];exact Z9D _ (hg x hx)
 exact key _ λi hi=>Y0k.1 hi
theorem Z6S{fs:List Nat}{H:Z00}{b:Nat}{o:AObj}(h:H[b]? = some o)(hm:mem o.fam fs=true):(ZeM fs H)[b]? = some o:=by
 unfold ZeM
 rw[Z21,h]
 simp[hm]
end Go.Proofs.YtpobjilfhkbhjaaDoor.lex
end
section
namespace Go.Proofs.YtpobjilfhkbhjaaDoor.lex
open Go.Abs Go.RowKit Go.Flat
def sec(A T E:Z00):Z00:=A++(T++E)
theorem Z2u{n m:Nat}{k:Nat->Prop}(e:n=m)(h:k m):frcNP n k:=by rw[Z3b,e];exact h
theorem Z8O{A T E:Z00}{n:Nat}(h:A.length+T.length+E.length=n):(sec A T E).length=n:=by simp[sec];omega
theorem Z03{A T E:Z00}{j:Nat}{o:AObj}(h:A[j]? = some o):(sec A T E)[j]? = some o:=by
 unfold sec;rw[Y0i (Y0o.1 h).1];exact h
theorem Zba{A T E:Z00}{k i:Nat}{o:AObj}(hk:A.length=k)(h:T[i]? = some o):(sec A T E)[k+i]? = some o:=by
 subst hk
 unfold sec
 rw[Y0c (by omega),Nat.add_sub_cancel_left,Y0i (Y0o.1 h).1]
 exact h
theorem Zci{A T E:Z00}{n e:Nat}{o:AObj}(hn:A.length+T.length+e=n)(h:E[e]? = some o):(sec A T E)[n]? = some o:=by
 subst hn
 unfold sec
 rw[Y0c (by omega),Y0c (by omega),show A.length+T.length+e-A.length-T.length=e from by omega]
 exact h
theorem Zez{A T E:Z00}(o:AObj):sec A T E++[o]=sec A T (E++[o]):=by simp[sec]
theorem Zb9{A T E:Z00}{n:Nat}{cs:List AV}{ty:TypeId}(hn:A.length+T.length+E.length=n):Z0X (sec A T E) cs ty=sec A T (E++[⟨true,n,0,.cells cs ty⟩]):=by
 unfold Z0X
 rw[Z8O hn,Zez]
theorem ZeA{A T E:Z00}{i:Nat}{o:AObj}(h:(sec A T E)[i]? = some o):A[i]? = some o\/o∈T\/o∈E:=by
 unfold sec at h
 by_cases hi:i<A.length
 ·rw[Y0i hi]at h;exact .inl h
 · rw[Y0c (by omega)]at h
   exact .inr (Y0f.1 (Y0E h))
theorem Zex{A T E:Z00}{b f:Nat}{o':AObj}(hb:b<A.length)(hA:Go.Abs.lone f b 0 A=true)(hT:∀o∈T,o.fam≠f)(hE:∀o∈E,o.fam≠f):(Z2o b f (sec A T E)).set b o'=sec (A.set b o') T E:=by
 rw[Z67 λi o hi hne=>by
  rcases ZeA hi with h|h|h
  · rcases Go.Abs.lone_get hA h with h1|h1
    ·omega
    ·exact h1
  ·exact hT o h
  ·exact hE o h]
 unfold sec
 rw[List.set_append_left _ _ hb]
theorem Zhf{A T E:Z00}{n e f:Nat}{o':AObj}(hn:A.length+T.length+e=n)(he:e<E.length)(hA:∀o∈A,o.fam≠f)(hT:∀o∈T,o.fam≠f)(hE:Go.Abs.lone f e 0 E=true):(Z2o n f (sec A T E)).set n o'=sec A T (E.set e o'):=by
 subst hn
 rw[Z67 λi o hi hne=>by
  by_cases h1:i<A.length
  · have:A[i]? = some o:=by unfold sec at hi;rwa [Y0i h1]at hi
    exact hA o (Y0E this)
  · by_cases h2:i<A.length+T.length
    · have:T[i-A.length]? = some o:=by unfold sec at hi;rwa [Y0c (by omega),Y0i (by omega)]at hi
      exact hT o (Y0E this)
    · have h3:E[i-A.length-T.length]? = some o:=by unfold sec at hi;rwa [Y0c (by omega),Y0c (by omega)]at hi
      rcases Go.Abs.lone_get hE h3 with h4|h4
      ·omega
      ·exact h4]
 unfold sec
 rw[List.set_append_right _ _ (by omega),List.set_append_right _ _ (by omega),show A.length+T.length+e-A.length-T.length=e from by omega]
def ZkT(k:Nat)(A:Z00):Bool:=A.all λo=>Nat.blt o.fam k
theorem ZfE{k f:Nat}{A:Z00}(h:ZkT k A=true)(hf:k<=f):∀o∈A,o.fam≠f:=λo ho=>by
 have:=Y0I.1 h o ho
 simp only[Nat.blt_eq]at this
 omega
theorem Zbl{k n:Nat}{ty:TypeId}{g:Nat->List AV}:∀o∈inn k ty g n,k<=o.fam/\o.fam<k+n:=λo ho=>by
 simp only[inn,List.mem_map,Y0k]at ho
 obtain⟨i,hi,rfl⟩:=ho
 rw[Z4l];omega
theorem SlotsGe.w{fs:List Nat}{H:Z00}{m:List Nat}{t:Tr}:∀{l:List (Nat×AV)},SlotsGe m t l->SlotsGeW fs H m t l
 |[],_=>trivial
 |(n,u)::l,h=>by
  refine⟨?_,SlotsGe.w h.2⟩
  obtain⟨v,e1,e2⟩:=Z01 h.1
  exact Z4f e1 (WkW.wk e2)
theorem Sec.of{A E:Z00}{k n:Nat}{ty:TypeId}{g:Nat->List AV}(hk:A.length=k):Sec (sec A (inn k ty g n) E) k n ty g:=⟨λi hi=>Zba hk (Z99 _ _ _ hi)⟩
theorem Zfn {P : Program} {t t2 e : TypeId} {z by_ : Nat} (hT : ZcU P t t2 = some (e, z, by_)) {A E : Z00} {k i n n0 N len : Nat} {g : Nat -> List AV} {x : AV} {xs : List AV} (hx : Z1f (sec A (inn k e g n) E) z x = some (n0, xs)) (hn0 : n0 ≠ 0) (hk : A.length = k) (hi : i < n) (hN : k + n + E.length = N) (hl : (g i).length = len * z) (hz : z ≠ 0)
  (ho:xs.all Go.Abs.one=true) (hs:len+n0<=1099511627776/\(len+n0)*by_<=70368744177664) (hA:ZkT k A=true) (hE:∀o∈E,k+n<=o.fam) :
  Z0B P t t2 (grn (k+i) z len) x (sec A (inn k e g n) E)=some (.slice N 0 (len+n0) (len+n0) z,sec A (inn k e g n) (E++[⟨true,if len=0 then N else k+i,0,.cells (g i++xs) e⟩])):=by
 have hlen:(sec A (inn k e g n) E).length=N:=Z8O (by rw[hk,Z2F,hN])
 cases len with
 |zero =>
  rw[Nat.zero_mul]at hl
  rw[List.length_eq_zero_iff.1 hl]
  rw[Y0D]at hs
  have:=Zgy hT hx hn0 hs
  show Z0B P t t2 .nslice x _=_
  rw[this,hlen]
  simp only[Y0D,Y0s,Option.some.injEq,Prod.mk.injEq,true_and,if_true]
  exact Zb9 (by rw[hk,Z2F];omega)
 |succ m =>
  rw[if_neg (Nat.succ_ne_zero m)]
  have hne:g i≠[]:=λe0=>by rw[e0,Nat.succ_mul]at hl;simp only[Y07]at hl;omega
  have hb:(sec A (inn k e g n) E)[k+i]? = some ⟨true,k+i,0,.cells (g i) e⟩:=by
   rw[Zba hk (Z99 _ _ _ hi),Z76 hne]
  have hek:Z8s (k+i) (g i).length (sec A (inn k e g n) E)=sec A (inn k e g n) E:=ZfN λo ho hf=>by
   obtain⟨j,hj⟩:=List.getElem?_of_mem ho
   rcases ZeA hj with h|h|h
   ·exact absurd hf (ZfE hA (Nat.le_add_right k i) o (Y0E h))
   · simp only[inn,List.mem_map,Y0k]at h
     obtain⟨a,ha,rfl⟩:=h
     rw[Z4l]at hf
     have:a=i:=by omega
     subst this
     rw[Z76 hne]
     simp[ABody.len]
   ·have:=hE o h;omega
  have:=ZbD (cap:=m+1) hT hx hb hek hl ho hn0 hs
  show Z0B P t t2 (.slice (k+i) 0 (m+1) (m+1) z) x _=_
  rw[this,hlen,Zez]
section one
variable {a:AObj} {T E:Z00} {n:Nat}
theorem ZeN(h:1+T.length+E.length=n):(sec [a] T E).length=n:=Z8O (by simpa using h)
theorem Zjx{cs:List AV}{ty:TypeId}(h:1+T.length+E.length=n):Z0X (sec [a] T E) cs ty=sec [a] T (E++[⟨true,n,0,.cells cs ty⟩]):=Zb9 (by simpa using h)
theorem Zjw{A':Z00}{o':AObj}(hA:Go.Abs.lone 0 0 0 [a]=true)(hT:∀o∈T,1<=o.fam)(hE:∀o∈E,1<=o.fam)(e':[a].set 0 o'=A'):(Z2o 0 0 (sec [a] T E)).set 0 o'=sec A' T E:=by
 rw[Zex (by simp) hA (λo ho=>by have:=hT o ho;omega) (λo ho=>by have:=hE o ho;omega),e']
theorem Zmi{fm:Nat}{u:AV}{ty:TypeId}(h:1+T.length=n):Z1f (sec [a] T [⟨true,fm,0,.cells [u] ty⟩]) 1 (.slice n 0 1 1 1)=some (1,[u]):=by
 have h1:(sec [a] T [⟨true,fm,0,.cells [u] ty⟩])[n]? = some ⟨true,fm,0,.cells [u] ty⟩:=Zci (e:=0) (by simpa using h) rfl
 simp only[Z1f,rd,h1]
 rfl
theorem Zlb{i:Nat}{o:AObj}(h:1+T.length+i=n)(ho:E[i]? = some o):(sec [a] T E)[n]? = some o:=Zci (by simpa using h) ho
end one
theorem Zey(A T:Z00):sec A T []=A++T:=by simp[sec]
theorem ZlU:([]:Z00).length=0:=rfl
theorem Znb(a:AObj):[a].length=1:=rfl
theorem len2(a b:AObj):[a,b].length=2:=rfl
theorem ZnA(a b c:AObj):[a,b,c].length=3:=rfl
theorem Znz(a b c d:AObj):[a,b,c,d].length=4:=rfl
theorem nb0(cs:List AV)(ty:TypeId):Z0X [] cs ty=[⟨true,0,0,.cells cs ty⟩]:=rfl
theorem nb1(a:AObj)(cs:List AV)(ty:TypeId):Z0X [a] cs ty=[a,⟨true,1,0,.cells cs ty⟩]:=rfl
theorem nb4(a b c d:AObj)(cs:List AV)(ty:TypeId):Z0X [a,b,c,d] cs ty=[a,b,c,d,⟨true,4,0,.cells cs ty⟩]:=rfl
theorem ap1(a b:AObj):[a]++[b]=[a,b]:=rfl
theorem ap2(a b c:AObj):[a,b]++[c]=[a,b,c]:=rfl
theorem ap3(a b c d:AObj):[a,b,c]++[d]=[a,b,c,d]:=rfl
section six
variable {a b c d e f:AObj} {T E:Z00} {n:Nat}
theorem Zb4(h:6+T.length+E.length=n):(sec [a,b,c,d,e,f] T E).length=n:=Z8O (by simpa using h)
theorem Zb3{cs:List AV}{ty:TypeId}(h:6+T.length+E.length=n):Z0X (sec [a,b,c,d,e,f] T E) cs ty=sec [a,b,c,d,e,f] T (E++[⟨true,n,0,.cells cs ty⟩]):=Zb9 (by simpa using h)
theorem Zhb{x x':AObj}(h:6+T.length=n)(hA:ZkT 6 [a,b,c,d,e,f]=true)(hT:∀o∈T,o.fam<n)(hx:x.fam=n):(Z2o n x.fam (sec [a,b,c,d,e,f] T [x])).set n x'=sec [a,b,c,d,e,f] T [x']:=by
 rw[hx]
 exact Zhf (e:=0) (by simpa using h) (by simp) (ZfE hA (by omega)) (λo ho=>by have:=hT o ho;omega) (by simp[Go.Abs.lone])
theorem Z8M{q:Nat}{A':Z00}{o':AObj}(hq:q<6)(hA:Go.Abs.lone q q 0 [a,b,c,d,e,f]=true)(hT:∀o∈T,6<=o.fam)(hE:∀o∈E,6<=o.fam)(e':[a,b,c,d,e,f].set q o'=A'):(Z2o q q (sec [a,b,c,d,e,f] T E)).set q o'=sec A' T E:=by
 rw[Zex (by simpa using hq) hA (λo ho=>by have:=hT o ho;omega) (λo ho=>by have:=hE o ho;omega),e']
theorem Zmf{fm:Nat}{u:AV}{ty:TypeId}(h:6+T.length=n):Z1f (sec [a,b,c,d,e,f] T [⟨true,fm,0,.cells [u] ty⟩]) 1 (.slice n 0 1 1 1)=some (1,[u]):=by
 have h1:(sec [a,b,c,d,e,f] T [⟨true,fm,0,.cells [u] ty⟩])[n]? = some ⟨true,fm,0,.cells [u] ty⟩:=Zci (e:=0) (by simpa using h) rfl
 simp only[Z1f,rd,h1]
 rfl
theorem Zes{i:Nat}{o:AObj}(h:6+T.length+i=n)(ho:E[i]? = some o):(sec [a,b,c,d,e,f] T E)[n]? = some o:=Zci (by simpa using h) ho
end six
theorem Z7V{a b c c':AObj}{f:Nat}(h:Go.Abs.lone f 2 0 [a,b,c]=true):(Z2o 2 f [a,b,c]).set 2 c'=[a,b,c']:=by
 rw[Z67 λi o hi hne=>(Go.Abs.lone_get h hi).elim (λe=>by omega) id]
 rfl
theorem Zei {P : Program} {t t2 e : TypeId} {by_ : Nat} (hT : ZcU P t t2 = some (e, 1, by_)) {a c : AObj} {cs xs : List AV} {len n : Nat} (ha : a.fam ≠ 1) (hc : c.fam ≠ 1) (hl : cs.length = len) (hn : n ≠ 0) (ho : xs.all Go.Abs.one = true) (hs : len + n <= 1099511627776 /\ (len + n) * by_ <= 70368744177664) :
  Z0B P t t2 (.slice 1 0 len len 1) (.rs n 1 xs) [a,⟨true,1,0,.cells cs e⟩,c]=some (.slice 3 0 (len+n) (len+n) 1,[a,⟨true,1,0,.cells cs e⟩,c,⟨true,1,0,.cells (cs++xs) e⟩]):=by
 rw[ZbD (H:=[a,⟨true,1,0,.cells cs e⟩,c]) (b:=1) (f:=1) (cs:=cs) (xs:=xs) (cap:=len) hT rfl rfl (ZfM ⟨.inl ha,.inr (by simp[ABody.len]),.inl hc,trivial⟩) (by omega) ho hn hs]
 rfl
theorem Zar{c:Prop}{i:Decidable c}{B:¬c->Prop}{A:c->Prop}(h:c)(a:A h):Decidable.rec (motive:=λ_=>Prop) B A i:=by
 cases i with
 |isTrue h'=>exact a
 |isFalse h'=>exact absurd h h'
theorem ZbF{a b:Bool}(h:a=true)(k:b=true):(a&&b)=true:=by rw[h,k];rfl
theorem ZlD{n:Nat}:Nat.ble n n=true:=Y0M (Y03 _)
theorem Zhk{a a':AObj}{T E:Z00}:Nat.ble (sec [a] T E).length (sec [a'] T E).length=true:=Y0M (by simp[sec])
theorem Zjy{a a':AObj}{T:Z00}{x x' y:AObj}:Nat.ble (sec [a] T [x]).length (sec [a'] T [x',y]).length=true:=Y0M (by simp[sec])
theorem Zf9{n:Nat}:Z0G n []=true:=rfl
theorem Zfa{n x:Nat}{l:List Nat}(h:x<n)(k:Z0G n l=true):Z0G n (x::l)=true:=by
 have h':Nat.blt x n=true:=by rw[Nat.blt_eq];exact h
 show (Nat.blt x n&&Z0G n l)=true
 rw[h',k];rfl
theorem Zbg{a:AObj}{T E:Z00}{n m:Nat}(e:Nat){l:List Nat}(h:1+T.length=n)(he:E.length=e)(hm:m=n+e)(k:Z0G m l=true):Z0G (sec [a] T E).length l=true:=by
 rw[ZeN (n:=m) (by omega)];exact k
end Go.Proofs.YtpobjilfhkbhjaaDoor.lex
end
section
namespace Go.Proofs.YtpobjilfhkbhjaaDoor.lex
open Go.Abs Go.RowKit Go.Flat
theorem ZjM{m:Nat}(h0:0<m)(h1:m<4294967296):∃t q,t<32/\m=2 ^ t*(2*q+1):=by
 obtain⟨q,h2,h3⟩:=Lib.ctzFrom_spec 32 m h0 h1
 exact⟨_,q,h3,h2⟩
theorem Zd4{m:Nat}(h0:0<m)(h1:m<4294967296):IntKind.u32.wrap (0-(m:Int))=((4294967296-m:Nat):Int):=by
 simp only[IntKind.wrap,IntKind.signed,IntKind.bits]
 simp
 omega
def tzX(t:Nat):Nat:=2 ^ t*125613361 % 4294967296 / 134217728
theorem Zl1:∀t,t<32->tzX t<32/\(IntKind.u32.wrap (((2 ^ t:Nat):Int)*125613361)).fdiv (2 ^ min (Int.toNat 27) IntKind.u32.bits)=((tzX t:Nat):Int):=by decide +kernel
theorem Zj8:((List.range 32).all λt=>match tk 1 (runLives.tbl0.drop (tzX t*1)) with|some [u]=>veq u (.int .u8 (t:Nat))|_=>false)=true:=by kernel_rfl
theorem Zl2{t:Nat}(ht:t<32):tk 1 (runLives.tbl0.drop (tzX t*1))=some [.int .u8 (t:Nat)]:=by
 have h:=Y0I.1 Zj8 t (Y0k.2 ht)
 split at h
 ·rename_i u e;rw[e,Z6u _ _ h]
 ·cases h
theorem Zma{t q:Nat}(ht:t<32)(hm:2 ^ t*(2*q+1)<4294967296):ValOK Y00 runLives.gl 21 [.int .u32 (2 ^ t*(2*q+1):Nat)] (.int .i64 (t:Nat)):=by
 have hp:0<2 ^ t:=Nat.two_pow_pos t
 have h0:0<2 ^ t*(2*q+1):=Nat.mul_pos hp (by omega)
 have hneg:=Zd4 h0 hm
 have hand:=u32_and_nat (2 ^ t*(2*q+1)) (4294967296-2 ^ t*(2*q+1)) hm (by omega)
 rw[Lib.and_neg 32 t q hm,<- hneg]at hand
 obtain⟨hi1,hi2⟩:=Zl1 t ht
 rw[<- hand]at hi2
 have htab:=Zl2 ht
 generalize tzX t=ix at *
 generalize 2 ^ t*(2*q+1)=m at *
 have e0:((m:Int)==0)=false:=by simp;omega
 have hcv:IntKind.i64.wrap ((t:Nat):Int)=((t:Nat):Int):=Z7D (by omega) (by omega)
 refine Z0J follows Z11 Z1b Tryd.func21 rfl ?_
 repeat' ((conv=>whnf);first|(with_reducible refine ixJ ix hi2 hi1 ?_)|refine exI htab ?_|refine stp ?_|with_reducible apply Z04<;>intro h)
 show AV.int _ _=AV.int _ _
 rw[hcv]
end Go.Proofs.YtpobjilfhkbhjaaDoor.lex
end
section
namespace Go.Proofs.YtpobjilfhkbhjaaDoor.lex
open Go.Abs Go.RowKit Go.Flat
variable {gl:Z0n}
def Z3l(f:Nat->Nat)(n:Nat):List AV:=arr (λv=>.int .u32 (f v:Nat)) n
def ZeY(f:Nat->Nat)(n:Nat):List AV:=arr (λv=>.int .i64 (f v:Nat)) n
def lvX:AObj:=⟨false,5,0,.cells [] 0⟩
def lvI(i:Ins):AObj:=⟨true,5,0,.cells (Z0E i) 38⟩
def lvA(regs:Int)(l:List Ins)(uf sf:Nat->Nat)(af:Nat->List Nat)(wf:Nat->Nat)(b:AObj):Z00 :=
 [⟨true,0,0,.cells [.int .i64 regs,.rs l.length 6 (inC l)] 24⟩,⟨true,1,0,.cells (Z3l uf l.length) 57⟩,⟨true,2,0,.cells (Z3l sf l.length) 57⟩,⟨true,3,0,.cells (Z6M 6 1 (λv=>(af v).length) l.length) 25⟩,⟨true,4,0,.cells (ZeY wf l.length) 3⟩,b]
def lvT(af:Nat->List Nat)(n:Nat):Z00:=inn 6 3 (λv=>nis (af v)) n
theorem Z1R(f:Nat->Nat)(n:Nat):refsL (Z3l f n) []=[]:=Z57 (λ_=>rfl) n
theorem ZeX(f:Nat->Nat)(n:Nat):refsL (ZeY f n) []=[]:=Z57 (λ_=>rfl) n
theorem Zc6(f:Nat->Nat)(n:Nat):Z3W n [.int .u32 0]=Z3l (fil 0 f 0) n:=by rw[Z4P];simp[Z3l,fil]
theorem Zhv(f:Nat->Nat)(n:Nat):Z3W n [.int .i64 0]=ZeY (fil 0 f 0) n:=by rw[Z4P];simp[ZeY,fil]
theorem Zco(nx:Nat->List Nat)(n:Nat):Z3W n [AV.nslice]=Z6M 6 1 (λv=>(aF nx 0 v).length) n:=by rw[Z8Y 6 1];simp[aF]
theorem ZhE(nx:Nat->List Nat)(n:Nat):lvT (aF nx 0) n=inn 6 3 (λ_=>[]) n:=by unfold lvT;simp[aF,nis]
theorem Z83(k z:Nat)(n:Nat):refsL (Z6M k z (λ_=>0) n) []=[]:=Z57 (λ_=>rfl) n
theorem Zdr {H : Z00} {m r : List Nat} {b5 : Nat} {regs : Int} {l : List Ins} {uf sf wf : Nat -> Nat} {af : Nat -> List Nat} {c1 c2 c3 c4 : List AV} {f0 f1 f2 f3 f4 : Nat} {B : AObj} (hm : m = 0 :: 1 :: 2 :: 3 :: 4 :: r) (h0 : H[0]? = some ⟨true, f0, 0, .cells [.int .i64 regs, .rs l.length 6 (inC l)] 24⟩)
  (h1:H[1]? = some ⟨true,f1,0,.cells c1 57⟩) (h2:H[2]? = some ⟨true,f2,0,.cells c2 57⟩) (h3:H[3]? = some ⟨true,f3,0,.cells c3 25⟩) (h4:H[4]? = some ⟨true,f4,0,.cells c4 3⟩)
  (e1:c1=Z3l uf l.length) (e2:c2=Z3l sf l.length) (e3:BodyGe m (.cells c3 25) (.cells (Z6M 6 1 (λv=>(af v).length) l.length) 25)) (e4:c4=ZeY wf l.length)
  (h5:onO H[b5]? λo=>(B.alive=false/\B.sh=0/\o.sh=0)\/(o.alive=true/\B.alive=true/\B.sh=o.sh/\Z3U [] H m o.body B.body)):HpGeD [] H m [0,1,2,3,4,b5] (lvA regs l uf sf af wf B):=by
 refine⟨Z4f h0 (.inr ⟨rfl,rfl,rfl,Y05 (Y01 (rest:=[]) rfl rfl)⟩),Z4f h1 (.inr ⟨rfl,rfl,rfl,Y05 (Y01 (rest:=[]) (by rw[e1,Y02]) (Z1R _ _))⟩),Z4f h2 (.inr ⟨rfl,rfl,rfl,Y05 (Y01 (rest:=[]) (by rw[e2,Y02]) (Z1R _ _))⟩),
  Z4f h3 (.inr ⟨rfl,rfl,rfl,Y05 e3⟩),Z4f h4 (.inr ⟨rfl,rfl,rfl,Y05 (Y01 (rest:=[]) (by rw[e4,Y02]) (ZeX _ _))⟩),h5,trivial⟩
theorem Zf8 {H : Z00} {b5 f0 f1 f2 f3 f4 f5 : Nat} {regs : Int} {l : List Ins} {uf sf wf : Nat -> Nat} {af : Nat -> List Nat} {o0 o1 o2 o3 o4 o5 B : AObj} (h0 : H[0]? = some o0) (h1 : H[1]? = some o1) (h2 : H[2]? = some o2) (h3 : H[3]? = some o3) (h4 : H[4]? = some o4) (h5 : H[b5]? = some o5)
  (e0:o0.fam=f0) (e1:o1.fam=f1) (e2:o2.fam=f2) (e3:o3.fam=f3) (e4:o4.fam=f4) (e5:o5.fam=f5):Z1D H (lvA regs l uf sf af wf B) [0,1,2,3,4,b5]=[f0,f1,f2,f3,f4]++(cond B.alive [f5] []):=by
 simp only[Z1D,lvA,Z0o h0,Z0o h1,Z0o h2,Z0o h3,Z0o h4,Z0o h5,e0,e1,e2,e3,e4,e5,cond_true]
 cases B.alive<;>rfl
theorem Zf6 {H : Z00} {b5 f0 f1 f2 f3 f4 f5 : Nat} {regs : Int} {l : List Ins} {uf sf wf : Nat -> Nat} {af : Nat -> List Nat} {o0 o1 o2 o3 o4 o5 B : AObj} (h0 : H[0]? = some o0) (h1 : H[1]? = some o1) (h2 : H[2]? = some o2) (h3 : H[3]? = some o3) (h4 : H[4]? = some o4) (h5 : H[b5]? = some o5)
  (e0:o0.fam=f0) (e1:o1.fam=f1) (e2:o2.fam=f2) (e3:o3.fam=f3) (e4:o4.fam=f4) (e5:o5.fam=f5) (h:([f0,f1,f2,f3,f4]++cond B.alive [f5] []).Nodup):(Z1D H (lvA regs l uf sf af wf B) [0,1,2,3,4,b5]).Nodup:=by
 rw[Zf8 h0 h1 h2 h3 h4 h5 e0 e1 e2 e3 e4 e5];exact h
theorem Zf7 {P : Nat -> Prop} {H : Z00} {b5 f0 f1 f2 f3 f4 f5 : Nat} {regs : Int} {l : List Ins} {uf sf wf : Nat -> Nat} {af : Nat -> List Nat} {o0 o1 o2 o3 o4 o5 B : AObj} (h0 : H[0]? = some o0) (h1 : H[1]? = some o1) (h2 : H[2]? = some o2) (h3 : H[3]? = some o3) (h4 : H[4]? = some o4) (h5 : H[b5]? = some o5)
  (e0:o0.fam=f0) (e1:o1.fam=f1) (e2:o2.fam=f2) (e3:o3.fam=f3) (e4:o4.fam=f4) (e5:o5.fam=f5) (h:∀f∈[f0,f1,f2,f3,f4]++cond B.alive [f5] [],P f):∀f∈Z1D H (lvA regs l uf sf af wf B) [0,1,2,3,4,b5],P f:=by
 rw[Zf8 h0 h1 h2 h3 h4 h5 e0 e1 e2 e3 e4 e5];exact h
theorem Zhd:∀r,r<16->IntKind.u32.wrap (1*2 ^ (min (IntKind.u64.wrap (r:Nat)).toNat IntKind.u32.bits))=((2 ^ r:Nat):Int)/\0<=IntKind.u64.wrap (r:Nat):=by decide +kernel
theorem Znx{M r:Nat}(hM:M<4294967296)(hr:r<16):bits .or .u32 (M:Nat) (IntKind.u32.wrap (1*2 ^ (min (IntKind.u64.wrap (r:Nat)).toNat IntKind.u32.bits)))=((M ||| 2 ^ r:Nat):Int):=by
 rw[(Zhd r hr).1]
 exact u32_or_nat M (2 ^ r) hM (Nat.lt_of_lt_of_le (Nat.pow_lt_pow_right (by decide) hr) (by decide))
theorem Z7T(f:Nat->Nat){n k x:Nat}(h:k<n)(hx:f k=x){off:Nat}(e:off=k):tk 1 ((Z3l f n).drop off)=some [.int .u32 (x:Nat)]:=by
 rw[<- hx];exact Z5R (λv=>AV.int .u32 ((f v:Nat):Int)) h e
theorem ZaX(f:Nat->Nat){n k x:Nat}(h:k<n){off:Nat}(e:off=k):spl (Z3l f n) off [.int .u32 (x:Nat)]=some (Z3l (upd f k x) n):=by
 unfold Z3l
 rw[Z7p _ _ h e]
 congr 2
 funext v
 by_cases h:v=k
 ·subst h;rw[Z08,Z08]
 ·rw[Z07 h,Z07 h]
theorem Zfz{α : Type}(z : α)(f:Nat -> α)(k:Nat):upd (fil z f k) k z=fil z f k:=by
 have h:=ZkZ (fil z f k) k
 rw[show fil z f k k=z by simp[fil]]at h
 exact h
theorem Z3G{fs m:List Nat}{H A2 T T':Z00}(h:HpD fs m H (A2++T'))(e:T=T'):HpD fs m H (sec A2 T []):=by rw[Zey,e];exact h
theorem Zcj{ml:List Nat}{n:Nat}(hk:ml.length=6):∀i,i<n->(ml++List.range' 6 n)[6+i]? = some (6+i):=λi hi=>by rw[Zhw hk,Y0q hi];simp
def lvS(l:List Ins)(k:Nat):List (Nat×AV):=[(1,.ptr 0 0),(3,.int .i64 l.length),(4,.slice 1 0 l.length l.length 1),(5,.slice 2 0 l.length l.length 1),(6,.slice 3 0 l.length l.length 1),(7,.slice 4 0 l.length l.length 1),(39,.rs l.length 6 (inC l)),(40,.int .i64 l.length),(41,.int .i64 k)]
def Zmq(l:List Ins)(k:Nat)(U:List Nat)(j:Nat):List (Nat×AV):=(8,.int .i64 k)::(79,.rs U.length 1 (nis U))::(80,.int .i64 U.length)::(81,.int .i64 j)::lvS l k
def Zmr(l:List Ins)(k:Nat)(U:List Nat)(j:Nat):List (Nat×AV):=(8,.int .i64 k)::(9,.ptr 5 0)::(51,.rs U.length 1 (nis U))::(52,.int .i64 U.length)::(53,.int .i64 j)::lvS l k
theorem Z6f(L:List Nat)(k:Nat):nis (L++[k])=nis L++[.int .i64 (k:Nat)]:=by rw[Z6X];rfl
theorem Zlg {H : Z00} {regs : Int} {l : List Ins} {uf sf wf : Nat -> Nat} {af af' : Nat -> List Nat} {f f0 f1 f2 f3 f4 w k n7 al : Nat} {B : AObj} {cs : List AV} (hal : (af w).length = al) (hw : w < l.length) (hS : Sec H 6 l.length 3 (fun v => nis (af v)))
  (h0:H[0]? = some ⟨true,f0,0,.cells [.int .i64 regs,.rs l.length 6 (inC l)] 24⟩) (h1:H[1]? = some ⟨true,f1,0,.cells (Z3l uf l.length) 57⟩) (h2:H[2]? = some ⟨true,f2,0,.cells (Z3l sf l.length) 57⟩)
  (h3:H[3]? = some ⟨true,f3,0,.cells ((Z6M 6 1 (λv=>(af v).length) l.length).set w (.slice n7 0 (al+1) (al+1) 1)) 25⟩) (h4:H[4]? = some ⟨true,f4,0,.cells (ZeY wf l.length) 3⟩) (h5:H[5]? = some B) (hB:B.alive=true) (hBr:∃bc bt,B.body = .cells bc bt/\refsL bc []=[])
  (h7:H[n7]? = some ⟨true,f,0,.cells cs 3⟩) (hcs:cs=nis (af w)++[.int .i64 (k:Nat)]) (hf:f=6+w\/6+l.length<=f) (e0:f0=0) (e1:f1=1) (e2:f2=2) (e3:f3=3) (e4:f4=4) (e5:B.fam=5) (he:af'=upd af w (af w++[k])) :
  HpD [] ([0,1,2,3,4,5]++(List.range' 6 l.length).set w n7) H (sec (lvA regs l uf sf af' wf B) (lvT af' l.length) []):=by
 subst e0 e1 e2 e3 e4 he hcs hal
 obtain⟨bc,bt,hb1,hb2⟩:=hBr
 have hg:(λv=>nis (upd af w (af w++[k]) v))=upd (λv=>nis (af v)) w (nis (af w)++[.int .i64 (k:Nat)]):=by
  funext v
  by_cases h:v=w
  ·subst h;rw[Z08,Z08,Z6f]
  ·rw[Z07 h,Z07 h]
 have hl:(λv=>(upd af w (af w++[k]) v).length)=upd (λv=>(af v).length) w ((af w).length+1):=by
  funext v
  by_cases h:v=w
  ·subst h;rw[Z08,Z08];simp
  ·rw[Z07 h,Z07 h]
 have hr:refsL (nis (af w)++[.int .i64 (k:Nat)]) []=[]:=by rw[<- Z6f];exact Z0y _
 have hm:([0,1,2,3,4,5]++(List.range' 6 l.length).set w n7)=0::1::2::3::4::(5::(List.range' 6 l.length).set w n7):=rfl
 have hat:∀i,([0,1,2,3,4,5]++(List.range' 6 l.length).set w n7)[6+i]? = ((List.range' 6 l.length).set w n7)[i]?:=λi=>Zhw rfl i
 refine Z3G (HpD.grow hS hw (Zdr hm h0 h1 h2 h3 h4 rfl rfl (by
  rw[hl]
  exact Z9U hw (λa ha hne=>by rw[hat];exact Z9Q ha hne) (by rw[hat];exact Z6D hw) (Nat.succ_pos _) (Y03 _)) rfl (Z4f h5 (.inr ⟨hB,hB,rfl,by rw[hb1];exact Y05 (Y01 (rest:=[]) (by rw[Y02]) hb2)⟩))) rfl (λi _=>Z0y _) hr h7 hf ?_ ?_) ?_
 · refine Zf6 h0 h1 h2 h3 h4 h5 rfl rfl rfl rfl rfl e5 ?_
   rw[hB];simp
 · refine Zf7 h0 h1 h2 h3 h4 h5 rfl rfl rfl rfl rfl e5 ?_
   rw[hB];simp;omega
 ·unfold lvT;rw[hg]
def lwH(regs:Int)(l:List Ins)(live:Nat->Nat)(stk:List Nat):Z00:=[⟨true,0,0,.cells [.int .i64 regs,.rs l.length 6 (inC l)] 24⟩,⟨true,1,0,.cells (nis stk.reverse) 3⟩,⟨true,2,0,.cells (Z3l live l.length) 57⟩]
def ZaC(l:List Ins):List AV:=arr (λv=>Z3D (aF (Z0D l) l.length v)) l.length
def lwS(l:List Ins)(stk:List Nat):List (Nat×AV):=[(1,.ptr 0 0),(3,.int .i64 l.length),(4,.rs l.length 1 (Z3l (usU l) l.length)),(5,.rs l.length 1 (Z3l (stU l) l.length)),(6,.rs l.length 1 (ZaC l)),(7,.slice 1 0 stk.length stk.length 1),(15,.slice 2 0 l.length l.length 1)]
theorem Zmo{H:Z00}{a b c f0 f1 f2:Nat}{regs:Int}{l:List Ins}{live:Nat->Nat}{stk:List Nat}{o0 o1 o2:AObj}(h0:H[a]? = some o0)(h1:H[b]? = some o1)(h2:H[c]? = some o2)(e0:o0.fam=f0)(e1:o1.fam=f1)(e2:o2.fam=f2)(h:[f0,f1,f2].Nodup):(Z1D H (lwH regs l live stk) [a,b,c]).Nodup:=by
 show [Z0M H a,Z0M H b,Z0M H c].Nodup
 rw[Z0o h0,Z0o h1,Z0o h2,e0,e1,e2];exact h
theorem Zmp{P:Nat->Prop}{H:Z00}{a b c f0 f1 f2:Nat}{regs:Int}{l:List Ins}{live:Nat->Nat}{stk:List Nat}{o0 o1 o2:AObj}(h0:H[a]? = some o0)(h1:H[b]? = some o1)(h2:H[c]? = some o2)(e0:o0.fam=f0)(e1:o1.fam=f1)(e2:o2.fam=f2)(h:P f0/\P f1/\P f2):∀f∈Z1D H (lwH regs l live stk) [a,b,c],P f:=by
 show ∀f∈[Z0M H a,Z0M H b,Z0M H c],P f
 rw[Z0o h0,Z0o h1,Z0o h2,e0,e1,e2]
 intro f hf
 simp only[Y0v,Y0F,or_false]at hf
 rcases hf with rfl|rfl|rfl
 ·exact h.1
 ·exact h.2.1
 ·exact h.2.2
theorem Zh4(f:Nat->Nat)(n:Nat):(Z3l f n).all lit=true:=Zgw (λ_=>rfl) n
theorem Ze7{fs m:List Nat}{H:Z00}{b f n cap:Nat}{g h:Nat->Nat}{ty:TypeId}(h1:H[b]? = some ⟨true,f,0,.cells (Z3l g n) ty⟩)(hm:mem f fs=true)(e:Z3l g n=Z3l h n):WkW fs H m (.slice b 0 n cap 1) (.rs n 1 (Z3l h n)):=by
 rw[e]at h1
 exact .inl (.inr (Zab (Z6S h1 hm) (by unfold Z3l;rw[Z3R,Y0m]) (Zh4 _ _)))
theorem ZgY {fs m : List Nat} {H : Z00} {f cap : Nat} {l : List Ins} {ty : TypeId} (h1 : H[3]? = some ⟨true, f, 0, .cells (Z6M 6 1 (fun v => (aF (Z0D l) l.length v).length) l.length) ty⟩) (hm : mem f fs = true)
  (h2:∀i,i<l.length->H[6+i]? = some (inb (6+i) 3 (nis (aF (Z0D l) l.length i)))) (hm2:∀i,i<l.length->mem (6+i) fs=true):WkW fs H m (.slice 3 0 l.length cap 1) (.rs l.length 1 (ZaC l)):=by
 refine WkW.fz (Zac (d:=27) (ty:=3) (k:=6) (z:=1) (len:=λv=>(aF (Z0D l) l.length v).length) (g:=λv=>nis (aF (Z0D l) l.length v)) (Z6S h1 hm) (λi hi hne=>⟨6+i,?_⟩) (λi _=>by rw[Z1e,Y0m]) (λi _=>Z3C _)) (ZbV (λi _=>by rw[Z1e,Y0m]) (λi _=>Z3C _))
 have hne':nis (aF (Z0D l) l.length i)≠[]:=λe=>hne (by have:=congrArg List.length e;rwa [Z1e]at this)
 have h3:=Z6S (fs:=fs) (h2 i hi) (by rw[Z4l];exact hm2 i hi)
 rw[h3,Z76 hne']
theorem ZfA{f:Nat->Nat}{n:Nat}:Z3l (fil 0 f n) n=Z3l f n:=by
 unfold Z3l arr
 refine Y0x λv hv=>?_
 rw[Y0k]at hv
 simp[fil,hv]
theorem ZjH(n:Nat):ZeY (fil 0 id n) n=nis (List.range n).reverse.reverse:=by
 rw[List.reverse_reverse]
 unfold ZeY arr nis
 refine Y0x λv hv=>?_
 rw[Y0k]at hv
 simp[fil,hv]
def lxA(n:Nat)(rf:Nat->List Nat):Z00:=[⟨true,0,0,.cells (Z6M 1 1 (λv=>(rf v).length) n) 25⟩]
def lxT(n:Nat)(rf:Nat->List Nat):Z00:=inn 1 3 (λv=>nis (rf v)) n
def lxS(n:Nat)(live:Nat->Nat)(k:Nat):List (Nat×AV):=[(21,.slice 0 0 n n 1),(157,.rs n 1 (Z3l live n)),(158,.int .i64 n),(159,.int .i64 k)]
theorem Zf5{H:Z00}{n f0:Nat}{rf:Nat->List Nat}(hS:Sec H 1 n 3 (λv=>nis (rf v)))(h0:H[0]? = some ⟨true,f0,0,.cells (Z6M 1 1 (λv=>(rf v).length) n) 25⟩)(e0:f0=0):HpD [] ([0]++List.range' 1 n) H (sec (lxA n rf) (lxT n rf) []):=by
 subst e0
 refine Z3G (HpD.stay hS ⟨Z4f h0 (.inr ⟨rfl,rfl,rfl,Y05 (Z3z λi hi=>by rw[Zhw (k:=1) rfl,Y0q hi];simp)⟩),trivial⟩ rfl (λi _=>Z0y _) ?_ ?_) rfl
 · show [Z0M H 0].Nodup
   simp
 · show ∀f∈[Z0M H 0],_
   rw[Z0o h0];simp
theorem ZjL {H : Z00} {n f f0 k t n2 al : Nat} {rf rf' : Nat -> List Nat} {cs : List AV} (hal : (rf k).length = al) (hk : k < n) (hS : Sec H 1 n 3 (fun v => nis (rf v))) (h0 : H[0]? = some ⟨true, f0, 0, .cells ((Z6M 1 1 (fun v => (rf v).length) n).set k (.slice n2 0 (al + 1) (al + 1) 1)) 25⟩) (e0 : f0 = 0)
  (h7:H[n2]? = some ⟨true,f,0,.cells cs 3⟩) (hcs:cs=nis (rf k)++[.int .i64 (t:Nat)]) (hf:f=1+k\/1+n<=f) (he:rf'=upd rf k (rf k++[t])):HpD [] ([0]++(List.range' 1 n).set k n2) H (sec (lxA n rf') (lxT n rf') []):=by
 subst e0 he hcs hal
 have hg:(λv=>nis (upd rf k (rf k++[t]) v))=upd (λv=>nis (rf v)) k (nis (rf k)++[.int .i64 (t:Nat)]):=by
  funext v
  by_cases h:v=k
  ·subst h;rw[Z08,Z08,Z6f]
  ·rw[Z07 h,Z07 h]
 have hl:(λv=>(upd rf k (rf k++[t]) v).length)=upd (λv=>(rf v).length) k ((rf k).length+1):=by
  funext v
  by_cases h:v=k
  ·subst h;rw[Z08,Z08];simp
  ·rw[Z07 h,Z07 h]
 have hr:refsL (nis (rf k)++[.int .i64 (t:Nat)]) []=[]:=by rw[<- Z6f];exact Z0y _
 have hat:∀i,([0]++(List.range' 1 n).set k n2)[1+i]? = ((List.range' 1 n).set k n2)[i]?:=λi=>Zhw (k:=1) rfl i
 refine Z3G (HpD.grow hS hk ⟨Z4f h0 (.inr ⟨rfl,rfl,rfl,Y05 (by
  show BodyGe _ _ (.cells (Z6M 1 1 (λv=>(upd rf k (rf k++[t]) v).length) n) 25)
  rw[hl]
  exact Z9U hk (λa ha hne=>by rw[hat];exact Z9Q ha hne) (by rw[hat];exact Z6D hk) (Nat.succ_pos _) (Y03 _))⟩),trivial⟩ rfl (λi _=>Z0y _) hr h7 hf ?_ ?_) ?_
 · show [Z0M H 0].Nodup
   simp
 · show ∀x∈[Z0M H 0],_
   rw[Z0o h0];simp;omega
 ·unfold lxT;rw[hg]
theorem ZmC{α : Type}(z : α)(f:Nat -> α):fil z f 0=λ_=>z:=Zi3 z f
section
attribute [local irreducible] Go.Abs.frcHW Go.Abs.frcNP sec
theorem ZhL(c:Cd)(hok:okC c)(hc:ZgV c=0)(hs:∀i∈c.ins,sizeL i.ex<=800000):ValOK Y00 runLives.gl 7 [c.av] (.rs c.ins.length 1 (arr (λv=>Z3D (Go.Live.liveL (usU c.ins) (stU c.ins) (Z0D c.ins) v)) c.ins.length)):=by
 have hck:=Z41 c hok
 rw[hc]at hck
 have hfine:=Z9f hc
 have hg:=hfine.good
 have hU:=λv (hv:v<c.ins.length)=>hfine.uses hv
 have hS:=λv (hv:v<c.ins.length)=>hfine.sets hv
 have h32:=hfine.in32
 obtain⟨regs,l⟩:=c
 simp only[Cd.av]at *
 have hp:=hg.pos
 have hf:=hg.few
 have hx2:=hok.2
 simp only at hx2
 obtain⟨O,hO,p1,p2,p3,p4,p5,-⟩:=fams (P:=Y00) (gl:=runLives.gl) [{ I:=Unit,f:=6,G:=λ_=>True,A:=λ_=>[.agg [.int .i64 regs,.rs l.length 6 (inC l)]],R:=λ_=>.int .i64 0,body:=(by kernel_rfl),inj:=λ_ _ _ _ _=>rfl,ok:=λ_ _=>⟨rfl,hck⟩ },
  { I:=Nat,f:=20,G:=λa=>a<l.length,A:=λa=>[.agg [.int .i64 regs,.rs l.length 6 (inC l)],.int .i64 a],R:=λa=>Z3D (Z0D l a),body:=(by kernel_rfl),inj:=(λi j _ _ h=>by simp only[List.cons.injEq,AV.int.injEq,and_true,true_and]at h;rw[show i=j by omega]),ok:=λa ha=>⟨rfl,Z96 regs l a ha hf (hg.to a ha)⟩ },
  { I:=Ins,f:=9,G:=λi=>i∈l,A:=λi=>[.agg (Z0E i)],R:=λi=>Z3D (Z1Z i),body:=(by kernel_rfl),inj:=(λi j _ _ h=>by simp only[List.cons.injEq,AV.agg.injEq,and_true]at h;rw[Z2Q h]),ok:=λi hi=>⟨rfl,ZbZ i (hx2 i hi).2 (hx2 i hi).1 (hs i hi)⟩ },
  { I:=Ins,f:=11,G:=λi=>True,A:=λi=>[.agg (Z0E i)],R:=λi=>.int .i64 (Z3q i),body:=(by kernel_rfl),inj:=(λi j _ _ h=>by simp only[List.cons.injEq,AV.agg.injEq,and_true]at h;rw[Z2Q h]),ok:=λi hi=>⟨rfl,Zch i⟩ },
  { I := Nat × Nat, f := 21, G := fun p => p.1 < 32 /\ 2 ^ p.1 * (2 * p.2 + 1) < 4294967296, A := fun p => [.int .u32 (2 ^ p.1 * (2 * p.2 + 1) : Nat)], R := fun p => .int .i64 (p.1 : Nat), body := (by kernel_rfl), inj := (fun i j hi hj h => by
    simp only[List.cons.injEq,AV.int.injEq,and_true,true_and]at h
    have h1:=Go.Live.bits_first (q:=i.2) hi.1
    have h2:=Go.Live.bits_first (q:=j.2) hj.1
    rw[show 2 ^ i.1*(2*i.2+1)=2 ^ j.1*(2*j.2+1) by omega,h2]at h1
    rw[(List.cons.inj h1).1]),ok:=λp hp=>⟨rfl,Zma hp.1 hp.2⟩ }] rfl
 have q1:∀H,Z0e Y00 O H 6 [.agg [.int .i64 regs,.rs l.length 6 (inC l)]]=some (.int .i64 0,H):=p1 () trivial
 have q2:∀a,a<l.length->∀H,Z0e Y00 O H 20 [.agg [.int .i64 regs,.rs l.length 6 (inC l)],.int .i64 a]=some (Z3D (Z0D l a),H):=p2
 have q3:∀i,i∈l->∀H,Z0e Y00 O H 9 [.agg (Z0E i)]=some (Z3D (Z1Z i),H):=p3
 have q4:∀i H,Z0e Y00 O H 11 [.agg (Z0E i)]=some (.int .i64 (Z3q i),H):=λi=>p4 i trivial
 have q5:∀t q,t<32->2 ^ t*(2*q+1)<4294967296->∀H,Z0e Y00 O H 21 [.int .u32 (2 ^ t*(2*q+1):Nat)]=some (.int .i64 (t:Nat),H):=λt q h1 h2=>p5 (t,q) ⟨h1,h2⟩
 clear p1 p2 p3 p4 p5 hck hc
 have hzu:tsz Y00 57=some 1:=by kernel_rfl
 have hbu:(Y00.info? 57).map (·.bytes)=some 4:=by kernel_rfl
 have huu:Z1j Y00 57=some (.int .u32 0):=by kernel_rfl
 have hzi:tsz Y00 3=some 1:=by kernel_rfl
 have hbi:(Y00.info? 3).map (·.bytes)=some 8:=by kernel_rfl
 have hui:Z1j Y00 3=some (.int .i64 0):=by kernel_rfl
 have hzl:tsz Y00 25=some 1:=by kernel_rfl
 have hbl:(Y00.info? 25).map (·.bytes)=some 24:=by kernel_rfl
 have hul:Z1j Y00 25=some .nslice:=by kernel_rfl
 have mu:Z4g Y00 56 (.int .i64 (l.length:Nat)) (.int .i64 (l.length:Nat))=some (Z3W l.length [.int .u32 0],57,1,l.length,l.length):=msC Tryd.underlying56 hzu hbu huu rfl (by decide) l.length (by omega) (by omega)
 have ml:Z4g Y00 30 (.int .i64 (l.length:Nat)) (.int .i64 (l.length:Nat))=some (Z3W l.length [.nslice],25,1,l.length,l.length):=msC Tryd.underlying30 hzl hbl hul rfl (by decide) l.length (by omega) (by omega)
 have mi:=λH=>Zcs (H:=H) Y0r hzi hbi hui rfl (by decide) l.length (by omega) (by omega)
 have mu2:=λH=>Zcs (H:=H) Tryd.underlying56 hzu hbu huu rfl (by decide) l.length (by omega) (by omega)
 have ml2:=λH=>Zcs (H:=H) Tryd.underlying30 hzl hbl hul rfl (by decide) l.length (by omega) (by omega)
 have hru:∀k,Z0G k (Z2M (.cells (Z3W l.length [.int .u32 0]) 57) [])=true:=λk=>by
  have:Z2M (.cells (Z3W l.length [.int .u32 0]) 57) []=[]:=Z3X (Z6G _ rfl _)
  rw[this];rfl
 have hrl:∀k,Z0G k (Z2M (.cells (Z3W l.length [.nslice]) 25) [])=true:=λk=>by
  have:Z2M (.cells (Z3W l.length [.nslice]) 25) []=[]:=Z3X (Z6G _ rfl _)
  rw[this];rfl
 refine ValOK.res (r:=.rs l.length 1 (arr (λv=>frn 1 (Go.Live.liveL (usU l) (stU l) (Z0D l) v).length (nis (Go.Live.liveL (usU l) (stU l) (Z0D l) v))) l.length)) ?_ (ZbV (z:=1) (len:=λv=>(Go.Live.liveL (usU l) (stU l) (Z0D l) v).length) (g:=λv=>nis (Go.Live.liveL (usU l) (stU l) (Z0D l) v)) (λi _=>by rw[Z1e,Y0m]) (λi _=>Z3C _))
 refine Z0J follows Z11 hO Tryd.func7 rfl ?_
 show Z0s _ _
 rw[Z09]
 generalize hA:AV.agg [.int .i64 regs,.rs l.length 6 (inC l)]=A0
 conv in (tmk _ _)=>reduce
 subst hA
 repeat' ((conv=>whnf);first|(refine Z0j (q1 _) ?_)|(with_reducible refine Z2u ZlU ?_)|(with_reducible refine Z2v (nb0 _ _) ?_)|(with_reducible refine Z2u (Znb _) ?_)|(with_reducible refine Z2u (len2 _ _) ?_)|(with_reducible refine Z2u (ZnA _ _ _) ?_)|(with_reducible refine Z2u (Znz _ _ _ _) ?_)|(with_reducible refine Z2v (nb4 _ _ _ _ _ _) ?_)|(with_reducible refine Z2v (ap1 _ _) ?_)|(with_reducible refine Z2v (ap2 _ _ _) ?_)|(with_reducible refine Z2v (ap3 _ _ _ _) ?_)|(with_reducible refine Z0g ?_)|(with_reducible refine Z0i ?_)|(rw[Zld mu];rotate_left;(focus (rfl));dsimp only;rw[if_pos (hru _)])|(rw[Zld ml];rotate_left;(focus (rfl));dsimp only;rw[if_pos (hrl _)])|refine exI (mi _) ?_|refine stp ?_|with_reducible apply Z04<;>intro h)
 conv=>whnf
 refine⟨Nat,(λk=>k<=l.length),lvS l,(λk=>sec (lvA regs l (fil 0 (usU l) k) (fil 0 (stU l) k) (aF (Z0D l) k) (fil 0 id k) lvX) (lvT (aF (Z0D l) k) l.length) []),(λk=>l.length-k),⟨0,Y0a _,?_⟩,?_⟩
 · dsimp only
   rw[Zey,ZhE]
   refine FgLK.mkD [] ([0,1,2,3,4,0]++List.replicate l.length 0) rfl rfl (SlotsGe.w ?_) (HpD.start (Zdr rfl rfl rfl rfl rfl rfl (Zc6 _ _) (Zc6 _ _) (Y01 (rest:=[]) (by rw[Y02];exact Zco _ _) ?_) (Zhv _ _) (.inl ⟨rfl,rfl,rfl⟩)) rfl ⟨_,rfl,rfl⟩ (by simp[Z1D,lvA,lvX,Z0M]) (λ_ _=>rfl))
   ·exact wks
   ·rw[<- Zco,Z8Y 6 1];exact Z83 _ _ _
 intro k hk
 dsimp only at hk⊢
 by_cases hlt:k<l.length
 · have e1:decide ((k:Int)<(l.length:Int))=true:=by simpa using hlt
   have hx6:=in6 l k hlt
   unfold lvS lvA
   show Z0s _ _
   rw[Z09]
   generalize hI:((k:Nat):Int)=iv at *
   conv in (Z2k _ _)=>reduce
   subst hI
   have hT0:(lvT (aF (Z0D l) k) l.length).length=l.length:=Z2F _ _ _ _
   have hTf:∀o∈lvT (aF (Z0D l) k) l.length,6<=o.fam/\o.fam<6+l.length:=Zbl
   have hSec:∀{A E:Z00},A.length=6->Sec (sec A (lvT (aF (Z0D l) k) l.length) E) 6 l.length 3 (λv=>nis (aF (Z0D l) k v)):=λhA=>Sec.of hA
   generalize hTT:lvT (aF (Z0D l) k) l.length=T0 at *
   generalize hn6:6+l.length=n6
   have sl0:∀{a b c d e f:AObj},(sec [a,b,c,d,e,f] T0 []).length=n6:=Zb4 (by rw[hT0];exact hn6)
   have nw0:∀{a b c d e f:AObj}{cs:List AV}{ty:TypeId},Z0X (sec [a,b,c,d,e,f] T0 []) cs ty=sec [a,b,c,d,e,f] T0 [⟨true,n6,0,.cells cs ty⟩]:=Zb3 (by rw[hT0];exact hn6)
   have at0:∀{a b c d e f x:AObj},(sec [a,b,c,d,e,f] T0 [x])[n6]? = some x:=Zes (i:=0) (by rw[hT0];exact hn6) rfl
   have hT6:∀o∈T0,6<=o.fam:=λo ho=>(hTf o ho).1
   have hTn:∀o∈T0,o.fam<n6:=λo ho=>by have:=(hTf o ho).2;omega
   have stE:∀{a b c d e f x x':AObj},ZkT 6 [a,b,c,d,e,f]=true->x.fam=n6->(Z2o n6 x.fam (sec [a,b,c,d,e,f] T0 [x])).set n6 x'=sec [a,b,c,d,e,f] T0 [x']:=λhA hx=>Zhb (by rw[hT0];exact hn6) hA hTn hx
   have hE1:∀{x:AObj},x.fam=n6->∀o∈[x],6<=o.fam:=λhx o ho=>by rw[Y0l]at ho;subst ho;omega
   have hw:∀off,off=k->spl (ZeY (fil 0 id k) l.length) off [.int .i64 (k:Nat)]=some (ZeY (fil 0 id (k+1)) l.length):=λoff e=>by
    rw[show ZeY (fil 0 id k) l.length=arr (λv=>AV.int .i64 ((fil 0 id k v:Nat):Int)) l.length from rfl,Z7p _ _ hlt e,<- Z4Y]
    congr 2
    funext v
    by_cases h:v=k
    ·subst h;rw[Z08,Z08];rfl
    ·rw[Z07 h,Z07 h]
   have q3k:=q3 l[k] (Z12 hlt)
   repeat' ((conv=>whnf);first|refine exI hx6 ?_|(refine Z7J rfl (stE rfl rfl) ?_)|(refine Z7J (hw _ (by show 0+k*1=k;omega)) (Z8M (q:=4) (by decide) rfl hT6 (hE1 rfl) rfl) ?_)|(refine Z0j (q3k _) ?_)|(with_reducible refine ixJ k rfl ?_ ?_;focus omega)|(refine Z2u sl0 ?_)|(refine Z2v nw0 ?_)|(refine Z4f at0 ?_)|(refine Z4f (Z03 rfl) ?_)|(with_reducible refine Z0g ?_)|refine stp ?_|with_reducible apply Z04<;>intro h)
   conv=>whnf
   have hUk:=hU k hlt
   unfold Zdx at hUk
   rw[Z2e hlt]at hUk
   have hUl:(Z1Z l[k]).length<=800000:=Nat.le_trans (Z6v _) (Nat.le_trans (ursL_len _) (hs _ (Z12 hlt)))
   have huk:usU l k=Go.Live.maskL (Z1Z l[k]):=by unfold usU Zdx;rw[Z2e hlt]
   have hsk:stU l k=ZkX (Z3q l[k]):=by unfold stU;rw[Z2e hlt]
   have hsr:=hS k hlt
   rw[Z2e hlt]at hsr
   generalize hik:l[k]=ik at *
   generalize hUU:Z1Z ik=U at *
   refine⟨Nat,(λj=>j<=U.length),Zmr l k U,(λj=>sec (lvA regs l (upd (fil 0 (usU l) k) k (Go.Live.maskL (U.take j))) (fil 0 (stU l) k) (aF (Z0D l) k) (fil 0 id (k+1)) (lvI ik)) T0 []),(λj=>U.length-j),⟨0,Y0a _,?_⟩,?_⟩
   · dsimp only
     refine FgLK.mkD [] ([0,1,2,3,4,n6]++List.range' 6 l.length) rfl rfl (SlotsGe.w ?_) (Z3G (HpD.stay (hSec rfl) (Zdr rfl (Z03 rfl) (Z03 rfl) (Z03 rfl) (Z03 rfl) (Z03 rfl) (by rw[show Go.Live.maskL (U.take 0)=0 from rfl,Zfz]) rfl (Z3z (Zcj rfl)) rfl (Z4f at0 (.inr ⟨rfl,rfl,rfl,Y05 (Y01 (rest:=[]) rfl rfl)⟩))) rfl (λi _=>Z0y _) ?_ ?_) hTT.symm)
     ·exact wks
     · refine Zf6 (f5:=n6) (Z03 rfl) (Z03 rfl) (Z03 rfl) (Z03 rfl) (Z03 rfl) at0 rfl rfl rfl rfl rfl rfl ?_
       simp[lvI];omega
     · refine Zf7 (f5:=n6) (Z03 rfl) (Z03 rfl) (Z03 rfl) (Z03 rfl) (Z03 rfl) at0 rfl rfl rfl rfl rfl rfl ?_
       simp[lvI];omega
   intro j hj
   dsimp only at hj⊢
   by_cases hjt:j<U.length
   · have e2:decide ((j:Int)<(U.length:Int))=true:=by simpa using hjt
     have hrj:=hUk U[j] (Y0w hjt)
     have hmt:=Go.Live.maskL_take hjt
     have hxj:∀off,off=j->tk 1 ((nis U).drop off)=some [.int .i64 (U[j]:Nat)]:=λoff e=>Z3n U hjt e
     generalize U[j]=r at *
     have hM:Go.Live.maskL (U.take j)<4294967296:=Go.Live.maskL_lt λr hr=>by have:=hUk r (List.mem_of_mem_take hr);omega
     generalize hMM:Go.Live.maskL (U.take j)=M at *
     have hua:=Z7T (upd (fil 0 (usU l) k) k M) (off:=0+k*1) hlt (Z08 _ _ _) (by omega)
     have hus:=ZaX (upd (fil 0 (usU l) k) k M) (x:=M ||| 2 ^ r) (off:=0+k*1) hlt (by omega)
     rw[<- Znx hM hrj,Z9J]at hus
     have hw0:=(Zhd r hrj).2
     unfold Zmr lvS lvA
     show Z0s _ _
     rw[Z09]
     generalize hI:((k:Nat):Int)=iv at *
     generalize hJ:((j:Nat):Int)=jv at *
     generalize nis U=nU at *
     conv in (Z2k _ _)=>reduce
     subst hI hJ
     repeat' ((conv=>whnf);first|refine exI (hxj _ (by show j*1=j;omega)) ?_|refine exI hua ?_|(refine Y0d hw0 ?_)|(refine Z7J hus (Z8M (q:=1) (by decide) rfl hT6 (by simp) rfl) ?_)|(with_reducible refine ixJ j rfl ?_ ?_;focus omega)|(with_reducible refine ixJ k rfl ?_ ?_;focus omega)|(refine Z2u sl0 ?_)|(refine Z2v nw0 ?_)|(refine Z4f at0 ?_)|(refine Z4f (Z03 rfl) ?_)|(with_reducible refine Z0g ?_)|refine stp ?_|with_reducible apply Z04<;>intro h)
     conv=>whnf
     refine⟨j+1,hjt,by show U.length-(j+1)<U.length-j;omega,?_⟩
     (try dsimp only)
     rw[hmt]
     refine FgLK.mkD [] ([0,1,2,3,4,5]++List.range' 6 l.length) rfl rfl (SlotsGe.w ?_) (Z3G (HpD.stay (hSec rfl) (Zdr rfl (Z03 rfl) (Z03 rfl) (Z03 rfl) (Z03 rfl) (Z03 rfl) rfl rfl (Z3z (Zcj rfl)) rfl (Z4f (Z03 rfl) (.inr ⟨rfl,rfl,rfl,Y05 (Y01 (rest:=[]) rfl rfl)⟩))) rfl (λi _=>Z0y _) ?_ ?_) hTT.symm)
     ·exact wks
     · refine Zf6 (f5:=5) (Z03 rfl) (Z03 rfl) (Z03 rfl) (Z03 rfl) (Z03 rfl) (Z03 rfl) rfl rfl rfl rfl rfl rfl ?_
       simp[lvI]
     · refine Zf7 (f5:=5) (Z03 rfl) (Z03 rfl) (Z03 rfl) (Z03 rfl) (Z03 rfl) (Z03 rfl) rfl rfl rfl rfl rfl rfl ?_
       simp[lvI]
   · have e2:decide ((j:Int)<(U.length:Int))=false:=by simpa using hjt
     have hj2:j=U.length:=by omega
     subst hj2
     rw[Y0p,<- huk,Z4Y]
     have q2k:=q2 k hlt
     have q4k:=q4 ik
     have hnl:=Z1e (Z0D l k)
     have hn2:=Z6W l k
     simp only[Z3D]at q2k
     generalize hs0:Z3q ik=s0 at *
     generalize hnx:Z0D l k=nxk at *
     generalize hnn:nis nxk=nN at *
     unfold Zmr lvS lvA
     rcases (show 0<=s0\/s0<0 by omega)with hs1|hs1
     case' inl =>
      have e3:decide (s0 >= 0)=true:=by simpa using hs1
      obtain⟨r,rfl⟩:∃r:Nat,s0=r:=⟨s0.toNat,by omega⟩
      have hw0:=(Zhd r (by omega)).2
      have hws:=(Zhd r (by omega)).1
      have hus:=ZaX (fil 0 (stU l) k) (x:=2 ^ r) (off:=0+k*1) hlt (by omega)
      have hst:Z3l (upd (fil 0 (stU l) k) k (2 ^ r)) l.length=Z3l (fil 0 (stU l) (k+1)) l.length:=by
       rw[<- Z4Y,hsk]
       unfold ZkX
       rw[if_pos hs1,Y0J]
      rw[<- hws]at hus
      show Z0s _ _
      rw[Z09]
      generalize hI:((k:Nat):Int)=iv at *
      generalize nis U=nU at *
      conv in (Z2k _ _)=>reduce
      subst hI
      repeat' ((conv=>whnf);first|(refine Y0d hw0 ?_)|(refine Z7J hus (Z8M (q:=2) (by decide) rfl hT6 (by simp) rfl) ?_)|(refine Z0j (q4k _) ?_)|(refine Z0j (q2k _) ?_)|(with_reducible refine ixJ k rfl ?_ ?_;focus omega)|(refine Z4f (Z03 rfl) ?_)|(with_reducible refine Z0g ?_)|refine stp ?_|with_reducible apply Z04<;>intro h)
      conv=>whnf
     case' inr =>
      have e3:decide (s0 >= 0)=false:=by simpa using hs1
      have hst:Z3l (fil 0 (stU l) k) l.length=Z3l (fil 0 (stU l) (k+1)) l.length:=by
       rw[<- Z4Y,hsk]
       unfold ZkX
       rw[if_neg (by omega),Zfz]
      show Z0s _ _
      rw[Z09]
      generalize hI:((k:Nat):Int)=iv at *
      generalize nis U=nU at *
      conv in (Z2k _ _)=>reduce
      subst hI
      repeat' ((conv=>whnf);first|(refine Z0j (q4k _) ?_)|(refine Z0j (q2k _) ?_)|(with_reducible refine ixJ k rfl ?_ ?_;focus omega)|(refine Z4f (Z03 rfl) ?_)|(with_reducible refine Z0g ?_)|refine stp ?_|with_reducible apply Z04<;>intro h)
      conv=>whnf
     all_goals
      subst hnn
      refine⟨Nat,(λj=>j<=nxk.length),Zmq l k nxk,(λj=>sec (lvA regs l (fil 0 (usU l) (k+1)) (fil 0 (stU l) (k+1)) (aG (Z0D l) k j) (fil 0 id (k+1)) (lvI ik)) (lvT (aG (Z0D l) k j) l.length) []),(λj=>nxk.length-j),⟨0,Y0a _,?_⟩,?_⟩
      · (try dsimp only)
        rw[ZkF]
        refine FgLK.mkD [] ([0,1,2,3,4,5]++List.range' 6 l.length) rfl rfl (SlotsGe.w ?_) (Z3G (HpD.stay (hSec rfl) (Zdr rfl (Z03 rfl) (Z03 rfl) (Z03 rfl) (Z03 rfl) (Z03 rfl) rfl hst (Z3z (Zcj rfl)) rfl (Z4f (Z03 rfl) (.inr ⟨rfl,rfl,rfl,Y05 (Y01 (rest:=[]) rfl rfl)⟩))) rfl (λi _=>Z0y _) ?_ ?_) rfl)
        ·exact wks
        · refine Zf6 (f5:=5) (Z03 rfl) (Z03 rfl) (Z03 rfl) (Z03 rfl) (Z03 rfl) (Z03 rfl) rfl rfl rfl rfl rfl rfl ?_
          simp[lvI]
        · refine Zf7 (f5:=5) (Z03 rfl) (Z03 rfl) (Z03 rfl) (Z03 rfl) (Z03 rfl) (Z03 rfl) rfl rfl rfl rfl rfl rfl ?_
          simp[lvI]
      clear hT0 hTf hSec hT6 hTn stE sl0 nw0 at0 hTT hst
      intro j hj
      dsimp only at hj⊢
      by_cases hjt:j<nxk.length
      case' neg=>skip
      case' pos =>
       have e2:decide ((j:Int)<(nxk.length:Int))=true:=by simpa using hjt
       have hxj:∀off,off=j->tk 1 ((nis nxk).drop off)=some [.int .i64 (nxk[j]:Nat)]:=λoff e=>Z3n nxk hjt e
       have hwl:nxk[j]<l.length:=hg.nx8 hlt (by rw[hnx];exact Y0w hjt)
       have hGs:aG (Z0D l) k (j+1)=upd (aG (Z0D l) k j) nxk[j] (aG (Z0D l) k j nxk[j]++[k]):=by
        subst hnx
        exact ZkG hjt (ZeS l k)
       have hGl:=ZlH (Z0D l) k j nxk[j]
       generalize nxk[j]=w at *
       generalize aG (Z0D l) k j=af at *
       have hoc:=ZeJ 6 1 (λv=>(af v).length) hwl (off:=0+w*1) (by omega)
       have hos:∀v,spl (Z6M 6 1 (λv=>(af v).length) l.length) (0+w*1) [v]=some ((Z6M 6 1 (λv=>(af v).length) l.length).set w v):=λv=>by
        rw[show 0+w*1=w by omega]
        exact ZlN _ _ _ (by rw[Z2s];exact hwl)
       have hT1:(lvT af l.length).length=l.length:=Z2F _ _ _ _
       have hTf:∀o∈lvT af l.length,6<=o.fam/\o.fam<6+l.length:=Zbl
       have hSec:∀{A E:Z00},A.length=6->Sec (sec A (lvT af l.length) E) 6 l.length 3 (λv=>nis (af v)):=λhA=>Sec.of hA
       have hapT:ZcU Y00 25 25=some (3,1,8):=by kernel_rfl
       generalize hn7:n6+1=n7
       have hap:∀{a b c d e f:AObj}{ty:TypeId},ZkT 6 [a,b,c,d,e,f]=true->Z0B Y00 25 25 (grn (6+w) 1 (af w).length) (.slice n6 0 1 1 1) (sec [a,b,c,d,e,f] (lvT af l.length) [⟨true,n6,0,.cells [.int .i64 (k:Nat)] ty⟩])=some (.slice n7 0 ((af w).length+1) ((af w).length+1) 1,sec [a,b,c,d,e,f] (lvT af l.length) [⟨true,n6,0,.cells [.int .i64 (k:Nat)] ty⟩,⟨true,if (af w).length=0 then n7 else 6+w,0,.cells (nis (af w)++[.int .i64 (k:Nat)]) 3⟩]):=λhA =>
        Zfn hapT (Zmf (by rw[Z2F];exact hn6)) (by decide) rfl hwl (by simp;omega) (by rw[Z1e];omega) (by decide) rfl (by omega) hA (λo ho=>by rw[Y0l]at ho;subst ho;show 6+l.length<=n6;omega)
       generalize hal:(af w).length=al at hoc hap hGl
       generalize hTT:lvT af l.length=T1 at *
       have sl0:∀{a b c d e f:AObj},(sec [a,b,c,d,e,f] T1 []).length=n6:=Zb4 (by rw[hT1];exact hn6)
       have nw0:∀{a b c d e f:AObj}{cs:List AV}{ty:TypeId},Z0X (sec [a,b,c,d,e,f] T1 []) cs ty=sec [a,b,c,d,e,f] T1 [⟨true,n6,0,.cells cs ty⟩]:=Zb3 (by rw[hT1];exact hn6)
       have at1:∀{a b c d e f x y:AObj},(sec [a,b,c,d,e,f] T1 [x,y])[n7]? = some y:=Zes (i:=1) (by rw[hT1];omega) rfl
       have hT6:∀o∈T1,6<=o.fam:=λo ho=>(hTf o ho).1
       have hE2:∀{x y:AObj},x.fam=n6->(y.fam=if al=0 then n7 else 6+w)->∀o∈[x,y],6<=o.fam:=λhx hy o ho=>by
        simp only[Y0v,Y0F,or_false]at ho
        rcases ho with rfl|rfl
        ·omega
        ·rw[hy];split<;>omega
       unfold Zmq lvS lvA
       show Z0s _ _
       rw[Z09]
       generalize hI:((k:Nat):Int)=iv at *
       generalize hJ:((j:Nat):Int)=jv at *
       generalize hnN:nis nxk=nN at *
       conv in (Z2k _ _)=>reduce
       subst hI hJ
       cases al
       all_goals simp only[grn]at hoc hap
       all_goals repeat' ((conv=>whnf);first|refine exI (hxj _ (by show j*1=j;omega)) ?_|refine exI hoc ?_|(with_reducible refine ixJ j rfl ?_ ?_;focus omega)|(with_reducible refine ixJ w rfl ?_ ?_;focus omega)|(refine Z2u sl0 ?_)|(refine Z2v nw0 ?_)|(refine Z0j (hap rfl) ?_)|(refine Z7J (hos _) (Z8M (q:=3) (by decide) rfl hT6 (hE2 rfl rfl) rfl) ?_)|(refine Z4f (Z03 rfl) ?_)|(with_reducible refine Z0g ?_)|(with_reducible refine Z0i ?_)|refine stp ?_|with_reducible apply Z04<;>intro h)
       all_goals (conv=>whnf)
       all_goals subst hnN
       all_goals (refine⟨j+1,hjt,by show nxk.length-(j+1)<nxk.length-j;omega,?_⟩)
       all_goals (try dsimp only)
       all_goals rw[hGs]
       all_goals (refine FgLK.mkD [] ([0,1,2,3,4,5]++(List.range' 6 l.length).set w n7) rfl rfl (SlotsGe.w ?_) (Zlg (af:=af) (w:=w) hal hwl (hSec rfl) (Z03 rfl) (Z03 rfl) (Z03 rfl) (Z03 rfl) (Z03 rfl) (Z03 rfl) rfl ⟨_,_,rfl,rfl⟩ at1 rfl ?_ rfl rfl rfl rfl rfl rfl rfl))
       all_goals first|((repeat (first|exact trivial|refine stw ?_));done)|(split<;>omega)
     all_goals
      have e2:decide ((j:Int)<(nxk.length:Int))=false:=by simpa using hjt
      have hj2:j=nxk.length:=by omega
      subst hj2
      subst hnx
      rw[ZlI]
      unfold Zmq lvS lvA
      show Z0s _ _
      rw[Z09]
      generalize hI:((k:Nat):Int)=iv at *
      generalize hnN:nis (Z0D l k)=nN at *
      conv in (Z2k _ _)=>reduce
      subst hI
      repeat' ((conv=>whnf);first|(refine Z4f (Z03 rfl) ?_)|(with_reducible refine Z0g ?_)|(with_reducible refine Z0i ?_)|refine stp ?_|with_reducible apply Z04<;>intro h)
      conv=>whnf
      refine⟨k+1,hlt,by show l.length-(k+1)<l.length-k;omega,?_⟩
      (try dsimp only)
      refine FgLK.mkD [] ([0,1,2,3,4,5]++List.range' 6 l.length) rfl rfl (SlotsGe.w ?_) (Z3G (HpD.stay (Sec.of rfl) (Zdr rfl (Z03 rfl) (Z03 rfl) (Z03 rfl) (Z03 rfl) (Z03 rfl) rfl rfl (Z3z (Zcj rfl)) rfl (Z4f (Z03 rfl) (.inl ⟨rfl,rfl,rfl⟩))) rfl (λi _=>Z0y _) ?_ ?_) rfl)
      ·exact wks
      · refine Zf6 (f5:=5) (Z03 rfl) (Z03 rfl) (Z03 rfl) (Z03 rfl) (Z03 rfl) (Z03 rfl) rfl rfl rfl rfl rfl rfl ?_
        simp[lvX]
      · refine Zf7 (f5:=5) (Z03 rfl) (Z03 rfl) (Z03 rfl) (Z03 rfl) (Z03 rfl) (Z03 rfl) rfl rfl rfl rfl rfl rfl ?_
        simp[lvX]
 · have e1:decide ((k:Int)<(l.length:Int))=false:=by simpa using hlt
   have hk2:k=l.length:=by omega
   subst hk2
   have hT0:(lvT (aF (Z0D l) l.length) l.length).length=l.length:=Z2F _ _ _ _
   have hTg:∀i,i<l.length->(lvT (aF (Z0D l) l.length) l.length)[i]? = some (inb (6+i) 3 (nis (aF (Z0D l) l.length i))):=λi hi=>Z99 _ _ _ hi
   generalize lvT (aF (Z0D l) l.length) l.length=T0 at *
   generalize hn6:6+l.length=n6
   have sl0:∀{a b c d e f:AObj},(sec [a,b,c,d,e,f] T0 []).length=n6:=Zb4 (by rw[hT0];exact hn6)
   have nw0:∀{a b c d e f:AObj}{cs:List AV}{ty:TypeId},Z0X (sec [a,b,c,d,e,f] T0 []) cs ty=sec [a,b,c,d,e,f] T0 [⟨true,n6,0,.cells cs ty⟩]:=Zb3 (by rw[hT0];exact hn6)
   have at0:∀{a b c d e f x:AObj},(sec [a,b,c,d,e,f] T0 [x])[n6]? = some x:=Zes (i:=0) (by rw[hT0];exact hn6) rfl
   unfold lvS lvA
   show Z0s _ _
   rw[Z09]
   generalize hI:((l.length:Nat):Int)=iv at *
   conv in (Z2k _ _)=>reduce
   subst hI
   repeat' ((conv=>whnf);first|(refine Z2u sl0 ?_)|(refine Z2v nw0 ?_)|refine exI (mu2 _) ?_|(refine Z4f (Z03 rfl) ?_)|(with_reducible refine Z0g ?_)|(with_reducible refine Z0i ?_)|refine stp ?_|with_reducible apply Z04<;>intro h)
   conv=>whnf
   refine⟨(Nat->Nat)×List Nat,(λs=>Go.Live.Inv (usU l) (stU l) (Z0D l) l.length s.1 s.2/\Go.Live.leftL l.length s.1 s.2<=600000000),(λs=>lwS l s.2),(λs=>lwH regs l s.1 s.2),(λs=>Go.Live.leftL l.length s.1 s.2),⟨(λ_=>0,(List.range l.length).reverse),⟨Go.Live.Inv.start _,?_⟩,?_⟩,?_⟩
   · have:=Go.Live.leftL_le l.length (λ_=>0) (List.range l.length).reverse
     rw[Y0G,List.length_range]at this
     have h2:(l.length+1)*(32*l.length)<=4001*(32*4000):=Nat.mul_le_mul (by omega) (by omega)
     dsimp only
     omega
   · (try dsimp only)
     refine FgLK.mkD ([1,2,3]++List.range' 6 l.length) [0,4,n6] rfl rfl ?_ (HpD.of ⟨Z4f (Z03 rfl) (.inr ⟨rfl,rfl,rfl,Y05 (Y01 (rest:=[]) rfl rfl)⟩),Z4f (Z03 rfl) (.inr ⟨rfl,rfl,rfl,Y05 (Y01 (rest:=[]) (by rw[Y02];exact ZjH _) (Z0y _))⟩),Z4f at0 (.inr ⟨rfl,rfl,rfl,Y05 (Y01 (rest:=[]) (by rw[Y02];exact Z4P _ _) (Z1R _ _))⟩),trivial⟩ ?_ ?_)
     · refine⟨WkW.wk (Wk.ptr rfl rfl),WkW.wk (Wk.int rfl),Ze7 (f:=1) (Z03 rfl) rfl ZfA,Ze7 (f:=2) (Z03 rfl) rfl ZfA,ZgY (f:=3) (Z03 rfl) rfl (λi hi=>Zba rfl (hTg i hi)) (λi hi=>?_),WkW.wk (Y0b rfl rfl (by simp) (by simp) (by simp) rfl),WkW.wk (Y0b rfl rfl rfl (Y03 _) (Y03 _) rfl),trivial⟩
       rw[Z0S,Y0f,List.mem_range'_1]
       right;omega
     ·exact Zmo (f0:=0) (f1:=4) (f2:=n6) (Z03 rfl) (Z03 rfl) at0 rfl rfl rfl (by simp;omega)
     · have hno : ∀ x, x = 0 \/ x = 4 \/ x = n6 -> mem x ([1, 2, 3] ++ List.range' 6 l.length) = false := fun x hx => by
        cases hm:mem x ([1,2,3]++List.range' 6 l.length) with
        |false=>rfl
        |true =>
         rw[Z0S,Y0f,List.mem_range'_1]at hm
         simp only[Y0v,Y0F,or_false]at hm
         omega
       exact Zmp (f0:=0) (f1:=4) (f2:=n6) (Z03 rfl) (Z03 rfl) at0 rfl rfl rfl ⟨hno 0 (by simp),hno 4 (by simp),hno n6 (by simp)⟩
   clear hT0 hTg sl0 nw0 at0 hru hrl
   rintro⟨live,stk⟩ ⟨hI,hb⟩
   dsimp only at hI hb⊢
   cases stk with
   |nil =>
    have hfix:=λv hv=>hI.bits h32 (λv hv w hw=>hg.nx8 hv hw) (v:=v) hv
    unfold lwS lwH
    show Z0s _ _
    rw[Z09]
    generalize hK:((l.length:Nat):Int)=iv at *
    generalize Z3l (usU l) l.length=cU at *
    generalize Z3l (stU l) l.length=cS at *
    generalize ZaC l=cA at *
    conv in (Z2k _ _)=>reduce
    subst hK
    repeat' ((conv=>whnf);first|refine exI (ml2 _) ?_|(with_reducible refine Z0g ?_)|(with_reducible refine Z0i ?_)|refine stp ?_|with_reducible apply Z04<;>intro h)
    conv=>whnf
    refine⟨Nat,(λk=>k<=l.length),lxS l.length live,(λk=>sec (lxA l.length (fil [] (λv=>Go.Live.bitsOf (live v)) k)) (lxT l.length (fil [] (λv=>Go.Live.bitsOf (live v)) k)) []),(λk=>l.length-k),⟨0,Y0a _,?_⟩,?_⟩
    · (try dsimp only)
      rw[ZmC]
      refine FgLK.mkD [2] ([3]++List.replicate l.length 0) rfl rfl ?_ (Z3G (HpD.start (k:=1) ⟨.inr ⟨rfl,rfl,rfl,Y05 (Y01 (rest:=[]) (by rw[Y02];exact Z8Y 1 1 _) (Z83 _ _ _))⟩,trivial⟩ rfl ⟨_,rfl,rfl⟩ (by simp[Z1D,lxA]) (by simp[Z1D,lxA,Z0M];rfl)) rfl)
      exact⟨WkW.wk (Y0b rfl rfl rfl (Y03 _) (Y03 _) rfl),Ze7 (f:=2) rfl rfl rfl,WkW.wk (Wk.int rfl),WkW.wk (Wk.int rfl),trivial⟩
    intro k hk
    dsimp only at hk⊢
    by_cases hkt:k<l.length
    · have e1:decide ((k:Int)<(l.length:Int))=true:=by simpa using hkt
      have hxk:=Z7T live (n:=l.length) (off:=k*1) hkt rfl (by omega)
      have hb32:=hI.b32 k
      unfold lxS lxA
      have hSec:∀{a:AObj}{E:Z00},Sec (sec [a] (lxT l.length (fil [] (λv=>Go.Live.bitsOf (live v)) k)) E) 1 l.length 3 (λv=>nis (fil [] (λv=>Go.Live.bitsOf (live v)) k v)):=Sec.of rfl
      generalize lxT l.length (fil [] (λv=>Go.Live.bitsOf (live v)) k)=T0 at *
      show Z0s _ _
      rw[Z09]
      generalize hK:((l.length:Nat):Int)=iv at *
      generalize hK2:((k:Nat):Int)=jv at *
      generalize hN:Z3l live l.length=nN at *
      conv in (Z2k _ _)=>reduce
      subst hK hK2
      repeat' ((conv=>whnf);first|refine exI hxk ?_|(with_reducible refine ixJ k rfl ?_ ?_;focus omega)|(refine Z4f (Z03 rfl) ?_)|(with_reducible refine Z0g ?_)|(with_reducible refine Z0i ?_)|refine stp ?_|with_reducible apply Z04<;>intro h)
      conv=>whnf
      subst hN
      refine⟨Nat×List Nat,(λs=>s.2++Go.Live.bitsOf s.1=Go.Live.bitsOf (live k)/\s.1<4294967296),(λs=>(22,.int .i64 (k:Nat))::(23,.int .u32 (s.1:Nat))::lxS l.length live k),(λs=>sec (lxA l.length (upd (fil [] (λv=>Go.Live.bitsOf (live v)) k) k s.2)) (lxT l.length (upd (fil [] (λv=>Go.Live.bitsOf (live v)) k) k s.2)) []),(λs=>(Go.Live.bitsOf s.1).length),⟨(live k,[]),⟨Y0s _,hb32⟩,?_⟩,?_⟩
      · (try dsimp only)
        rw[Zfz]
        refine FgLK.mkD [] ([0]++List.range' 1 l.length) rfl rfl (SlotsGe.w ?_) (Zf5 hSec (Z03 rfl) rfl)
        exact wks
      clear hSec
      rintro⟨m,pre⟩ ⟨hpre,hm⟩
      dsimp only at hpre hm⊢
      have hpl:pre.length<=32:=by
       have h1:=congrArg List.length hpre
       rw[Y0e]at h1
       have h2:=Go.Live.bits_le (live k)
       omega
      by_cases hm0:m=0
      · subst hm0
        have em:(((0:Nat):Int) != 0)=false:=rfl
        have hpr:pre=Go.Live.bitsOf (live k):=by rw[<- hpre];simp[Go.Live.bitsOf]
        have hSec:∀{a:AObj}{E:Z00},Sec (sec [a] (lxT l.length (fil [] (λv=>Go.Live.bitsOf (live v)) (k+1))) E) 1 l.length 3 (λv=>nis (fil [] (λv=>Go.Live.bitsOf (live v)) (k+1) v)):=Sec.of rfl
        rw[hpr,Z4Y]
        generalize lxT l.length (fil [] (λv=>Go.Live.bitsOf (live v)) (k+1))=T1 at *
        unfold lxS lxA
        show Z0s _ _
        rw[Z09]
        generalize hK:((l.length:Nat):Int)=iv at *
        generalize hK2:((k:Nat):Int)=jv at *
        generalize hN:Z3l live l.length=nN at *
        conv in (Z2k _ _)=>reduce
        subst hK hK2
        repeat' ((conv=>whnf);first|(with_reducible refine Z0g ?_)|(with_reducible refine Z0i ?_)|refine stp ?_|with_reducible apply Z04<;>intro h)
        conv=>whnf
        subst hN
        refine⟨k+1,hkt,by show l.length-(k+1)<l.length-k;omega,?_⟩
        dsimp only
        refine FgLK.mkD [] ([0]++List.range' 1 l.length) rfl rfl (SlotsGe.w ?_) (Zf5 hSec (Z03 rfl) rfl)
        exact wks
      · have em:((m:Int) != 0)=true:=by simp;omega
        obtain⟨t,q,ht,hmt⟩:=ZjM (by omega) hm
        have q5m:=q5 t q ht (by omega)
        have hbf:=Go.Live.bits_first (q:=q) ht
        rw[<- hmt]at q5m hbf
        have hsub:IntKind.u32.wrap ((m:Int)-1)=((m-1:Nat):Int):=by
         simp only[IntKind.wrap,IntKind.signed,IntKind.bits]
         simp
         omega
        have hand:=u32_and_nat m (m-1) hm (by omega)
        rw[hbf,List.append_cons]at hpre
        generalize hrf:upd (fil [] (λv=>Go.Live.bitsOf (live v)) k) k pre=rf at *
        have hrk:rf k=pre:=by rw[<- hrf,Z08]
        have hrf':upd (fil [] (λv=>Go.Live.bitsOf (live v)) k) k (pre++[t])=upd rf k (rf k++[t]):=by rw[hrk,<- hrf,Z9J]
        have hoc:=ZeJ 1 1 (λv=>(rf v).length) hkt (off:=0+k*1) (by omega)
        have hos:∀v,spl (Z6M 1 1 (λv=>(rf v).length) l.length) (0+k*1) [v]=some ((Z6M 1 1 (λv=>(rf v).length) l.length).set k v):=λv=>by
         rw[show 0+k*1=k by omega]
         exact ZlN _ _ _ (by rw[Z2s];exact hkt)
        have hT1:(lxT l.length rf).length=l.length:=Z2F _ _ _ _
        have hTf:∀o∈lxT l.length rf,1<=o.fam/\o.fam<1+l.length:=Zbl
        have hSec:∀{a:AObj}{E:Z00},Sec (sec [a] (lxT l.length rf) E) 1 l.length 3 (λv=>nis (rf v)):=Sec.of rfl
        have hapT:ZcU Y00 25 25=some (3,1,8):=by kernel_rfl
        generalize hn1:1+l.length=n1
        generalize hn2:n1+1=n2
        have hap:∀{a:AObj}{ty:TypeId},ZkT 1 [a]=true->Z0B Y00 25 25 (grn (1+k) 1 (rf k).length) (.slice n1 0 1 1 1) (sec [a] (lxT l.length rf) [⟨true,n1,0,.cells [.int .i64 (t:Nat)] ty⟩])=some (.slice n2 0 ((rf k).length+1) ((rf k).length+1) 1,sec [a] (lxT l.length rf) [⟨true,n1,0,.cells [.int .i64 (t:Nat)] ty⟩,⟨true,if (rf k).length=0 then n2 else 1+k,0,.cells (nis (rf k)++[.int .i64 (t:Nat)]) 3⟩]):=λhA =>
         Zfn hapT (Zmi (by rw[Z2F];exact hn1)) (by decide) rfl hkt (by simp;omega) (by rw[Z1e];omega) (by decide) rfl (by rw[hrk];omega) hA (λo ho=>by rw[Y0l]at ho;subst ho;show 1+l.length<=n1;omega)
        generalize hal:(rf k).length=al at hoc hap
        have hall:al<=32:=by rw[<- hal,hrk];exact hpl
        generalize hTT:lxT l.length rf=T1 at *
        have sl0:∀{a:AObj},(sec [a] T1 []).length=n1:=ZeN (by rw[hT1];exact hn1)
        have nw0:∀{a:AObj}{cs:List AV}{ty:TypeId},Z0X (sec [a] T1 []) cs ty=sec [a] T1 [⟨true,n1,0,.cells cs ty⟩]:=Zjx (by rw[hT1];exact hn1)
        have at1:∀{a x y:AObj},(sec [a] T1 [x,y])[n2]? = some y:=Zlb (i:=1) (by rw[hT1];omega) rfl
        have hlt0:∀{a:AObj}{rs:List Nat},Z0G n1 rs=true->Z0G (sec [a] T1 []).length rs=true:=Zbg 0 (by rw[hT1];exact hn1) rfl rfl
        have hlt2:∀{a x y:AObj}{rs:List Nat},Z0G (n2+1) rs=true->Z0G (sec [a] T1 [x,y]).length rs=true:=Zbg (n:=n1) 2 (by rw[hT1];exact hn1) rfl (by omega)
        have hlt1:∀{a x:AObj}{rs:List Nat},Z0G n2 rs=true->Z0G (sec [a] T1 [x]).length rs=true:=Zbg 1 (by rw[hT1];exact hn1) rfl hn2.symm
        have hT6:∀o∈T1,1<=o.fam:=λo ho=>(hTf o ho).1
        have hE2:∀{x y:AObj},x.fam=n1->(y.fam=if al=0 then n2 else 1+k)->∀o∈[x,y],1<=o.fam:=λhx hy o ho=>by
         simp only[Y0v,Y0F,or_false]at ho
         rcases ho with rfl|rfl
         ·omega
         ·rw[hy];split<;>omega
        unfold lxS lxA
        show Z0s _ _
        rw[Z09]
        generalize hK:((l.length:Nat):Int)=iv at *
        generalize hK2:((k:Nat):Int)=jv at *
        generalize hK3:((m:Nat):Int)=mv at *
        generalize hN:Z3l live l.length=nN at *
        conv in (Z2k _ _)=>reduce
        subst hK hK2 hK3
        cases al
        all_goals simp only[grn]at hoc hap
        all_goals repeat' ((conv=>whnf);first|refine exI hoc ?_|(refine Z0j (q5m _) ?_)|(with_reducible refine exW hsub ?_)|(with_reducible refine ixJ k rfl ?_ ?_;focus omega)|(refine Z2u sl0 ?_)|(refine Z2v nw0 ?_)|(refine Z0j (hap rfl) ?_)|(refine Z7J (hos _) (Zjw rfl hT6 (hE2 rfl rfl) rfl) ?_)|(refine Z4f (Z03 rfl) ?_)|(refine Zar ZlD ?_)|(refine Zar Zjy ?_)|(refine Zar Zhk ?_)|(refine Zar (hlt0 (by (try simp only[Z0R,Z0W,refsL]);repeat (first|exact Zf9|refine Zfa (by omega) ?_))) ?_)|(refine Zar (hlt1 (by (try simp only[Z0R,Z0W,refsL]);repeat (first|exact Zf9|refine Zfa (by omega) ?_))) ?_)|(refine Zar (ZbF rfl (hlt0 (by (try simp only[Z0R,Z0W,refsL]);repeat (first|exact Zf9|refine Zfa (by omega) ?_)))) ?_)|(refine Zar (ZbF rfl (hlt1 (by (try simp only[Z0R,Z0W,refsL]);repeat (first|exact Zf9|refine Zfa (by omega) ?_)))) ?_)|(refine Zar (ZbF rfl (hlt2 (by (try simp only[Z0R,Z0W,refsL]);repeat (first|exact Zf9|refine Zfa (by omega) ?_)))) ?_)|(with_reducible refine Z0g ?_)|(with_reducible refine Z0i ?_)|refine stp ?_|with_reducible apply Z04<;>intro h)
        all_goals (conv=>whnf)
        all_goals subst hN
        all_goals refine⟨(m &&& (m-1),pre++[t]),⟨hpre,?_⟩,?_,?_⟩
        all_goals dsimp only
        all_goals try exact Nat.lt_of_le_of_lt Nat.and_le_left hm
        all_goals try (rw[hbf];exact Nat.lt_succ_self _)
        all_goals rw[hrf']
        all_goals refine FgLK.mkD [] ([0]++(List.range' 1 l.length).set k n2) rfl rfl (SlotsGe.w ?_) (ZjL hal hkt hSec (Z03 rfl) rfl at1 rfl (by split<;>omega) rfl)
        · refine Y0d (Wk.int rfl) (Y0d (Wk.int hand) ?_)
          exact wks
        · refine Y0d (Wk.int rfl) (Y0d (Wk.int hand) ?_)
          exact wks
    · have e1:decide ((k:Int)<(l.length:Int))=false:=by simpa using hkt
      have hk2:k=l.length:=by omega
      subst hk2
      have hSec:∀{a:AObj}{E:Z00},Sec (sec [a] (lxT l.length (fil [] (λv=>Go.Live.bitsOf (live v)) l.length)) E) 1 l.length 3 (λv=>nis (fil [] (λv=>Go.Live.bitsOf (live v)) l.length v)):=Sec.of rfl
      unfold lxS lxA
      show Z0s _ _
      rw[Z09]
      generalize hK:((l.length:Nat):Int)=iv at *
      generalize hN:Z3l live l.length=nN at *
      conv in (Z2k _ _)=>reduce
      subst hK
      repeat' ((conv=>whnf);first|(with_reducible refine Z0g ?_)|(with_reducible refine Z0i ?_)|refine stp ?_|with_reducible apply Z04<;>intro h)
      conv=>whnf
      subst hN
      refine⟨_,Zac (d:=27) (k:=1) (z:=1) (f:=0) (ty:=3) (g:=λv=>nis (fil [] (λv=>Go.Live.bitsOf (live v)) l.length v)) (len:=λv=>(fil [] (λv=>Go.Live.bitsOf (live v)) l.length v).length) (Z03 rfl) (λi hi hne=>⟨1+i,by rw[hSec.get i hi,Z76 (λe0=>hne (by rw[<- Z1e,e0];rfl))]⟩) (λi hi=>by rw[Z1e];omega) (λi hi=>Z3C _),?_⟩
      · show AV.rs _ _ _=AV.rs _ _ _
        refine congrArg _ (Y0x λi hi=>?_)
        rw[Y0k]at hi
        have:fil [] (λv=>Go.Live.bitsOf (live v)) l.length i=Go.Live.liveL (usU l) (stU l) (Z0D l) i:=by rw[<- hfix i hi];simp[fil,hi]
        rw[this]
   |cons v stk =>
    have hv:v<l.length:=hI.wl v (by simp)
    have hge:=Go.Live.leftL_ge l.length live (v::stk)
    simp only[Y04]at hge
    have e1:decide (((stk.length+1:Nat):Int)>0)=true:=by simp<;>omega
    have w1:IntKind.i64.wrap (((stk.length+1:Nat):Int)-1)=(stk.length:Int):=by rw[Z7D (by omega) (by omega)];omega
    have hx:∀off,off=stk.length->tk 1 ((nis (stk.reverse++[v])).drop off)=some [.int .i64 v]:=λoff e=>by
     have:=Z3n (stk.reverse++[v]) (k:=stk.length) (by simp) e
     rw[this];simp
    have q2v:=q2 v hv
    have hn2:=Z6W l v
    simp only[Z3D]at q2v
    have hxU:=Z7T (usU l) (n:=l.length) (off:=v*1) hv rfl (by omega)
    have hxS:=Z7T (stU l) (n:=l.length) (off:=v*1) hv rfl (by omega)
    have hxL:=Z7T live (n:=l.length) (off:=0+v*1) hv rfl (by omega)
    have hxA:tk 1 ((ZaC l).drop (v*1))=some [Z3D (aF (Z0D l) l.length v)]:=Z5R _ hv (by omega)
    have hnxv:∀w∈Z0D l v,w<l.length:=λw hw=>hg.nx8 hv hw
    have haL:=ZiT (Z0D l) l.length v
    have haM:∀u,u∈aF (Z0D l) l.length v ↔ u<l.length/\v∈Z0D l u:=λu=>ZlJ
    have hnew:=hI.new (a:=(aF (Z0D l) l.length v).reverse) h32 (λu hu hm=>by rw[List.mem_reverse];exact (haM u).2 ⟨hu,hm⟩) (λu hu=>by rw[List.mem_reverse]at hu;exact ((haM u).1 hu).1)
    have hlnew:=λhne=>Go.Live.leftL_new (a:=(aF (Z0D l) l.length v).reverse) hI h32 hne (by rw[Y0G];exact haL)
    have hsame:=hI.same
    have hlpop:=Go.Live.leftL_pop l.length v live stk
    have hJ32:∀j,Go.Live.joinN live ((Z0D l v).take j)<4294967296:=λj=>Go.Live.joinN_lt hI.b32
    have hl32:=hI.b32
    have hu32:=h32.us v
    have hs32:=h32.st v
    unfold lwS lwH
    rw[Y0N]
    show Z0s _ _
    rw[Z09]
    generalize hK:((l.length:Nat):Int)=iv at *
    generalize hS1:(v::stk).length=sl at *
    generalize Z3l (usU l) l.length=cU at *
    generalize Z3l (stU l) l.length=cS at *
    generalize ZaC l=cA at *
    conv in (Z2k _ _)=>reduce
    subst hK
    subst hS1
    repeat' ((conv=>whnf);first|(with_reducible refine exW w1 ?_)|refine exI (hx _ (by show 0+stk.length*1=stk.length;omega)) ?_|(refine Z0j (q2v _) ?_)|(with_reducible refine ixJ stk.length rfl ?_ ?_;focus omega)|(with_reducible refine Zmw stk.length rfl ?_ ?_;focus omega)|(with_reducible refine Z0g ?_)|(with_reducible refine Z0i ?_)|refine stp ?_|with_reducible apply Z04<;>intro h)
    conv=>whnf
    generalize hnx:Z0D l v=nxv at *
    refine⟨Nat,(λj=>j<=nxv.length),(λj=>[(1,.ptr 0 0),(3,.int .i64 l.length),(4,.rs l.length 1 cU),(5,.rs l.length 1 cS),(6,.rs l.length 1 cA),(7,.slice 1 0 stk.length stk.length 1),(15,.slice 2 0 l.length l.length 1),(16,.int .i64 v),(17,.int .u32 (Go.Live.joinN live (nxv.take j):Nat)),(115,.rs nxv.length 1 (nis nxv)),(116,.int .i64 nxv.length),(117,.int .i64 (j:Nat))]),(λj=>lwH regs l live stk),(λj=>nxv.length-j),⟨0,Y0a _,?_⟩,?_⟩
    · refine Y06 [0,1,2] rfl ?_ ⟨hbp,⟨rfl,rfl,rfl,rfl,Y01 (rest:=[.int .i64 v]) (Z6X _ _) (Z0y _)⟩,⟨rfl,rfl,rfl,rfl,Y01 (rest:=[]) (by rw[Y02]) (Z1R _ _)⟩,trivial⟩ rfl
      iterate 5 refine stw ?_
      refine Y0d (Y0b rfl rfl rfl (Y03 _) (by show stk.length<=stk.length+1;omega) rfl) ?_
      exact wks
    intro j hj
    dsimp only at hj⊢
    clear hx w1 e1 hge q2v
    by_cases hjt:j<nxv.length
    · have e2:decide ((j:Int)<(nxv.length:Int))=true:=by simpa using hjt
      have hxj:∀off,off=j->tk 1 ((nis nxv).drop off)=some [.int .i64 (nxv[j]:Nat)]:=λoff e=>Z3n nxv hjt e
      have hwl:=hnxv nxv[j] (Y0w hjt)
      have hjn:=Go.Live.joinN_take (live:=live) hjt
      have hor:=u32_or_nat (Go.Live.joinN live (nxv.take j)) (live nxv[j]) (hJ32 j) (hl32 _)
      rw[<- hjn]at hor
      have hJ1:=hJ32 (j+1)
      generalize nxv[j]=w at *
      have hxw:=Z7T live (n:=l.length) (off:=0+w*1) hwl rfl (by omega)
      generalize Go.Live.joinN live (nxv.take j)=J at *
      generalize hJJ1:Go.Live.joinN live (nxv.take (j+1))=J1 at *
      unfold lwH
      show Z0s _ _
      rw[Z09]
      generalize hK:((l.length:Nat):Int)=iv at *
      generalize hK2:((j:Nat):Int)=jv at *
      generalize hK3:((v:Nat):Int)=vv at *
      generalize hK4:((J:Nat):Int)=jj at *
      generalize hN:nis nxv=nN at *
      conv in (Z2k _ _)=>reduce
      subst hK hK2 hK3 hK4
      repeat' ((conv=>whnf);first|refine exI (hxj _ (by show j*1=j;omega)) ?_|refine exI hxw ?_|(with_reducible refine ixJ j rfl ?_ ?_;focus omega)|(with_reducible refine ixJ w rfl ?_ ?_;focus omega)|(with_reducible refine Z0g ?_)|(with_reducible refine Z0i ?_)|refine stp ?_|with_reducible apply Z04<;>intro h)
      conv=>whnf
      subst hN
      refine⟨j+1,hjt,by show nxv.length-(j+1)<nxv.length-j;omega,?_⟩
      refine Y06 [0,1,2] rfl ?_ ⟨hbp,⟨rfl,rfl,rfl,rfl,Y01 (rest:=[]) (by rw[Y02]) (Z0y _)⟩,⟨rfl,rfl,rfl,rfl,Y01 (rest:=[]) (by rw[Y02]) (Z1R _ _)⟩,trivial⟩ rfl
      iterate 8 refine stw ?_
      refine Y0d (Wk.int (by rw[hJJ1];exact hor)) ?_
      exact wks
    · have e2:decide ((j:Int)<(nxv.length:Int))=false:=by simpa using hjt
      have hj2:j=nxv.length:=by omega
      subst hj2
      rw[Y0p]
      have hJv:=hJ32 nxv.length
      rw[Y0p]at hJv
      have hstep:Go.Live.stepF (usU l) (stU l) (Z0D l) live v=usU l v ||| Go.Live.andN (Go.Live.joinN live nxv) (stU l v):=by unfold Go.Live.stepF;rw[hnx]
      have hand:=u32_andNot_nat (Go.Live.joinN live nxv) (stU l v) hJv hs32
      have hnow:bits .or .u32 (usU l v:Nat) (bits .andNot .u32 (Go.Live.joinN live nxv:Nat) (stU l v:Nat))=((Go.Live.stepF (usU l) (stU l) (Z0D l) live v:Nat):Int):=by
       rw[hstep,hand]
       exact u32_or_nat _ _ hu32 (Go.Live.andN_lt hJv)
      have hset:=ZaX live (n:=l.length) (x:=Go.Live.stepF (usU l) (stU l) (Z0D l) live v) (off:=0+v*1) hv (by omega)
      rw[<- hnow]at hset
      generalize hFF:Go.Live.stepF (usU l) (stU l) (Z0D l) live v=F at *
      generalize Go.Live.joinN live nxv=J at *
      clear hJ32 hand hstep
      have haO:=ZeU (aF (Z0D l) l.length v)
      have haN:=Z1e (aF (Z0D l) l.length v)
      generalize hAA:aF (Z0D l) l.length v=av at *
      have hsl:=Z1e stk.reverse
      rw[Y0G]at hsl
      have hT:ZcU Y00 25 25=some (3,1,8):=by kernel_rfl
      generalize hUv:usU l v=uv at *
      generalize hSv:stU l v=sv at *
      generalize hLv:live v=lv at *
      simp only[Z3D]at hxA
      unfold lwH
      by_cases hq:F=lv
      · have hne:(bits .or .u32 (uv:Nat) (bits .andNot .u32 (J:Nat) (sv:Nat)) != ((lv:Nat):Int))=false:=by rw[hnow,hq];simp
        show Z0s _ _
        rw[Z09]
        generalize hK:((l.length:Nat):Int)=iv at *
        generalize hK2:((nxv.length:Nat):Int)=jv at *
        generalize hK3:((v:Nat):Int)=vv at *
        generalize hK4:((J:Nat):Int)=jj at *
        generalize hN:nis nxv=nN at *
        conv in (Z2k _ _)=>reduce
        subst hK hK2 hK3 hK4
        repeat' ((conv=>whnf);first|refine exI hxU ?_|refine exI hxS ?_|refine exI hxL ?_|refine exI hxA ?_|(with_reducible refine ixJ v rfl ?_ ?_;focus omega)|(with_reducible refine Z0g ?_)|(with_reducible refine Z0i ?_)|refine stp ?_|with_reducible apply Z04<;>intro h)
        conv=>whnf
        subst hN
        refine⟨(live,stk),⟨hsame hq,by show Go.Live.leftL l.length live stk<=_;omega⟩,hlpop,?_⟩
        refine Y06 [0,1,2] rfl ?_ ⟨hbp,⟨rfl,rfl,rfl,rfl,Y01 (rest:=[]) (by rw[Y02]) (Z0y _)⟩,⟨rfl,rfl,rfl,rfl,Y01 (rest:=[]) (by rw[Y02]) (Z1R _ _)⟩,trivial⟩ rfl
        dsimp only
        exact wks
      · have hne:(bits .or .u32 (uv:Nat) (bits .andNot .u32 (J:Nat) (sv:Nat)) != ((lv:Nat):Int))=true:=by rw[hnow];simp;omega
        have hl2:=hlnew hq
        have hmem:nis (av.reverse++stk).reverse=nis stk.reverse++nis av:=by rw[List.reverse_append,List.reverse_reverse,Z6X]
        show Z0s _ _
        rw[Z09]
        generalize hK:((l.length:Nat):Int)=iv at *
        generalize hK2:((nxv.length:Nat):Int)=jv at *
        generalize hK3:((v:Nat):Int)=vv at *
        generalize hK4:((J:Nat):Int)=jj at *
        generalize hN:nis nxv=nN at *
        conv in (Z2k _ _)=>reduce
        subst hK hK2 hK3 hK4
        cases av with
        |nil =>
         simp only[nis,List.map_nil,Y07]at hxA
         repeat' ((conv=>whnf);first|refine exI hxU ?_|refine exI hxS ?_|refine exI hxL ?_|refine exI hxA ?_|(refine Z7J hset (Z7V rfl) ?_)|(refine Z0j (hap (by decide) (by decide)) ?_)|(with_reducible refine ixJ v rfl ?_ ?_;focus omega)|(refine apS ?_)|(with_reducible refine Z0g ?_)|(with_reducible refine Z0i ?_)|refine stp ?_|with_reducible apply Z04<;>intro h)
         conv=>whnf
         subst hN
         rw[List.reverse_nil,Y0s]at hnew hl2
         refine⟨(upd live v F,stk),⟨hnew,by show Go.Live.leftL l.length (upd live v F) stk<=_;omega⟩,hl2,?_⟩
         refine Y06 [0,1,2] rfl ?_ ⟨hbp,⟨rfl,rfl,rfl,rfl,Y01 (rest:=[]) (by rw[Y02]) (Z0y _)⟩,⟨rfl,rfl,rfl,rfl,Y01 (rest:=[]) (by rw[Y02]) (Z1R _ _)⟩,trivial⟩ rfl
         dsimp only
         exact wks
        |cons a r =>
         have hge2:=Go.Live.leftL_ge l.length live (v::stk)
         simp only[Y04]at *
         have hap:=λ{a0 c0:AObj} (h0:a0.fam≠1) (h2:c0.fam≠1)=>Zei hT (a:=a0) (c:=c0) (cs:=nis stk.reverse) (xs:=nis (a::r)) (n:=r.length+1) h0 h2 hsl (Nat.succ_ne_zero _) haO (by omega)
         repeat' ((conv=>whnf);first|refine exI hxU ?_|refine exI hxS ?_|refine exI hxL ?_|refine exI hxA ?_|(refine Z7J hset (Z7V rfl) ?_)|(refine Z0j (hap (by decide) (by decide)) ?_)|(with_reducible refine ixJ v rfl ?_ ?_;focus omega)|(refine apS ?_)|(with_reducible refine Z0g ?_)|(with_reducible refine Z0i ?_)|refine stp ?_|with_reducible apply Z04<;>intro h)
         conv=>whnf
         subst hN
         refine⟨(upd live v F,(a::r).reverse++stk),⟨hnew,by show Go.Live.leftL l.length (upd live v F) ((a::r).reverse++stk)<=_;omega⟩,hl2,?_⟩
         refine Y06 [0,3,2] rfl ?_ ⟨hbp,⟨rfl,rfl,rfl,rfl,Y01 (rest:=[]) (by rw[Y02];exact hmem.symm) (Z0y _)⟩,⟨rfl,rfl,rfl,rfl,Y01 (rest:=[]) (by rw[Y02]) (Z1R _ _)⟩,trivial⟩ rfl
         dsimp only
         iterate 5 refine stw ?_
         refine Y0d (Y0b rfl rfl (by simp;omega) (Y03 _) (by simp;omega) rfl) ?_
         exact wks
end
end Go.Proofs.YtpobjilfhkbhjaaDoor.lex
end
namespace Go.Proofs.YtpobjilfhkbhjaaDoor.lex
open Go.Abs Go.RowKit
section
def ksC(n:List Int):List AV:=n.map (AV.int .i64)
theorem ZjW{s:List Int}{j:Nat}(h:j<s.length):s.getD j 0=s[j]:=by rw[List.getD_eq_getElem?_getD,Y0n h];rfl
theorem Zlj(s:List Int)(j:Nat)(h:j<s.length):tk 1 ((ksC s).drop (0+j*1))=some [.int .i64 (s.getD j 0)]:=by
 have:=Zeh (AV.int .i64) s j h (off:=0+j*1) (by omega)
 rw[ZjW h];exact this
def rsI(l:List Int):AV:=.rs l.length 1 (ksC l)
end
end Go.Proofs.YtpobjilfhkbhjaaDoor.lex
section
namespace Go.Abs
open Go.RowKit Go.ChangeShapes Go.WideShapes Go.ChangeAt
def OpensB(P:Program)(N:Nat)(t:TypeId)(Q:List AV->Prop):Prop :=
 ∀(H:Type)(enc:TypeId×Value->H)(W:World)(fuel:Nat)(cs:List Value)(x:DataW H×List MemPlace),fuel<=N->DataW.trod enc P W 0 (λ_=>true) true fuel t cs=some x->∃us,Q us/\LR (Z27 W) noI us cs
section opens
variable {P:Program}
theorem OpensB.mono{N:Nat}{t:TypeId}{Q Q':List AV->Prop}(h:OpensB P N t Q)(hq:∀u,Q u->Q' u):OpensB P N t Q':=λH enc W fuel cs x hN hx=>let ⟨u,h1,h2⟩:=h H enc W fuel cs x hN hx;⟨u,hq _ h1,h2⟩
theorem OpensB.of{N:Nat}{t:TypeId}{Q:List AV->Prop}(h:Z65 P t Q):OpensB P N t Q:=λH enc W fuel cs x _ hx=>h H enc W fuel cs x hx
theorem OpensB.all{t:TypeId}{Q:List AV->Prop}(h:∀N,OpensB P N t Q):Z65 P t Q:=λH enc W fuel cs x hx=>h fuel H enc W fuel cs x (Y03 _) hx
theorem Z6R{t:TypeId}{Q:List AV->Prop}:OpensB P 0 t Q:=λH enc W fuel cs x hN hx=>by
 obtain rfl:fuel=0:=by omega
 simp[DataW.trod]at hx
theorem Z9W {N : Nat} {t e : TypeId} {z : Nat} {Q : List AV -> Prop} (ht : P.underlying t = some (.slice e)) (hz : P.cellsOf e = z) (hz0 : z ≠ 0) (he : OpensB P N e Q) :
  OpensB P (N+1) t λus=>∃l:List (List AV),(∀u∈l,Q u/\u.length=z)/\us=[.rs l.length z l.flatten]/\l.length<=maxLen:=by
 intro H enc W fuel cs x hN h
 rcases DataW.trod_slice ht h with ⟨rfl,_⟩|⟨a,len,cap,els,rest,n,hfu,rfl,_,_,hlc,hcm,hl,hel,hrest⟩
 ·exact⟨_,⟨[],by simp,rfl,by simp⟩,by simp[LR,VR]⟩
 · rw[hz]at hel
   have each:∀i,i<len->∃ (vs:List Value) (u:List AV),W.cells? 0 (a.add (i*z)) z=some vs/\Q u/\LR (Z27 W) noI u vs:=by
    intro i hi
    have h1:=hel i hi
    have h2:els[i]? = some els[i]:=Y0n (by omega)
    rw[h2]at h1
    simp only[Option.bind_eq_some_iff]at h1
    obtain⟨vs,h3,h4⟩:=h1
    obtain⟨u,h5,h6⟩:=he H enc W n vs _ (by omega) h4
    exact⟨vs,u,h3,h5,h6⟩
   have hex:∃ (l:List (List AV)) (vss:List (List Value)),l.length=len/\vss.length=len/\∀i,i<len->∃vs u,l[i]? = some u/\vss[i]? = some vs/\W.cells? 0 (a.add (i*z)) z=some vs/\Q u/\LR (Z27 W) noI u vs:=by
    clear hel hl h hlc hcm hrest
    induction len with
    |zero=>exact⟨[],[],rfl,rfl,λi hi=>by omega⟩
    |succ m ih =>
     obtain⟨l,vss,h1,h2,h3⟩:=ih λi hi=>each i (by omega)
     obtain⟨vs,u,g1,g2,g3⟩:=each m (by omega)
     refine⟨l++[u],vss++[vs],by simp[h1],by simp[h2],λi hi=>?_⟩
     by_cases e:i=m
     · subst e
       exact⟨vs,u,by simp[<- h1],by simp[<- h2],g1,g2,g3⟩
     · obtain⟨vs',u',k1,k2,k3⟩:=h3 i (by omega)
       exact⟨vs',u',by rw[Y0i (by omega)];exact k1,by rw[Y0i (by omega)];exact k2,k3⟩
   obtain⟨l,vss,h1,h2,h3⟩:=hex
   have hll:∀u∈l,Q u/\u.length=z:=by
    intro u hu
    obtain⟨i,hi,rfl⟩:=List.mem_iff_getElem.1 hu
    obtain⟨vs,u',k1,k2,k3,k4,k5⟩:=h3 i (by omega)
    rw[Y0n hi]at k1;simp at k1
    rw[k1]
    exact⟨k4,by rw[<- k5.length,(cells?_get k3).1]⟩
   refine⟨_,⟨l,hll,rfl,by omega⟩,?_⟩
   simp only[LR]
   refine⟨_,_,rfl,?_,rfl⟩
   simp only[VR]
   have hfl:l.flatten.length=l.length*z:=by
    clear h1 h3
    induction l with
    |nil=>simp
    |cons u l ih=>simp only[Y0O,Y0e,Y04,(hll u (by simp)).2,ih λv hv=>hll v (by simp[hv])];rw[Nat.add_mul];omega
   have hspot:len≠0->a.spot=none:=by
    intro h0
    obtain⟨vs,u,k1,k2,k3,k4,k5⟩:=h3 0 (by omega)
    obtain⟨g1,g2⟩:=cells?_get k3
    have:W.cell? ((a.add (0*z)).add 0)=some vs[0]:=g2 0 _ (Y0n (by omega))
    rw[Nat.zero_mul]at this
    simpa[Addr.add]using World.cell?_spot this
   refine .inr ⟨a,cap,by rw[h1],by omega,hfl,Z2d λk u hu=>?_,λh0=>hspot (by rw[<- h1];exact h0)⟩
   obtain⟨x',g1,g2⟩:=Z5q hz0 (λu hu=>(hll u hu).2) hu
   have hklt:k / z<len:=by rw[<- h1];exact (Y0o.1 g1).1
   obtain⟨vs,u',k1,k2,k3,k4,k5⟩:=h3 (k / z) hklt
   rw[g1]at k1;simp at k1;subst k1
   obtain⟨v,e1,e2⟩:=k5.get g2
   refine⟨v,?_,e2⟩
   have hc:=(cells?_get k3).2 _ _ e1
   rw[Z7v a (hspot (Nat.ne_of_gt (Nat.lt_of_le_of_lt (Y0a _) hklt)))]at hc
   have hk:a.off+k / z*z+k % z=a.off+k:=by rw[Nat.add_assoc,Nat.mul_comm,Nat.div_add_mod]
   rw[hk]at hc
   unfold Z27
   have hlt:a.block<W.heap.size:=by
    cases hq:W.heap[a.block]? with
    |none=>unfold World.cell? at hc;simp only[hq]at hc;cases hc
    |some ob=>exact (Array.getElem?_eq_some_iff.1 hq).1
   rw[if_pos (by exact hlt)];exact hc
def Z49(P:Program)(N:Nat):List Field->List (List AV->Prop)->Nat->Nat->Prop
 |[],[],off,tot=>off=tot
 |f::fs,Q::Qs,off,tot=>f.offset=off/\OpensB P N f.type Q/\Z49 P N fs Qs (off+P.cellsOf f.type) tot
 |_,_,_,_=>False
theorem Z9X {N : Nat} {H : Type} {enc : TypeId × Value -> H} {W : World} {n tot : Nat} {cs : List Value} (hcs : cs.length = tot) (hN : n <= N) : ∀ {fs : List Field} {Qs : List (List AV -> Prop)} {xs : List (DataW H × List MemPlace)} {off : Nat}, Z49 P N fs Qs off tot -> xs.length = fs.length -> off <= tot ->
  (∀(i:Nat)(f:Field),fs[i]? = some f->DataW.trod enc P W 0 (λ_=>true) true n f.type ((cs.drop f.offset).take (P.cellsOf f.type))=xs[i]?)->∃us,FsQ Qs us/\LR (Z27 W) noI us (cs.drop off)
 |[],[],xs,off,h,hl,ho,hx=>by
  have:off=tot:=h
  subst this
  exact⟨[],rfl,by simp[LR,<- hcs]⟩
 |f::fs,Q::Qs,xs,off,h,hl,ho,hx=>by
  obtain⟨h1,h2,h3⟩:=h
  cases xs with
  |nil=>simp at hl
  |cons x xs =>
   have h0:=hx 0 f rfl
   simp only[List.getElem?_cons_zero]at h0
   obtain⟨u,q1,q2⟩:=h2 H enc W n _ _ hN h0
   have hle:∀(fs:List Field)(Qs:List (List AV->Prop))(o:Nat),Z49 P N fs Qs o tot->o<=tot:=by
    intro fs
    induction fs with
    |nil=>intro Qs o h;cases Qs with|nil=>exact Nat.le_of_eq h|cons _ _=>exact h.elim
    |cons g gs ih=>intro Qs o h;cases Qs with|nil=>exact h.elim|cons _ _=>have:=ih _ _ h.2.2;omega
   obtain⟨us,q3,q4⟩:=Z9X hcs hN h3 (by simpa using hl) (hle _ _ _ h3) λi g hg=>by simpa using hx (i+1) g (by simpa using hg)
   refine⟨u++us,⟨u,us,rfl,q1,q3⟩,?_⟩
   rw[h1]at q2
   have:=q2.append q4
   rwa [<- List.drop_drop,List.take_append_drop]at this
 |[],_::_,xs,off,h,hl,ho,hx=>h.elim
 |_::_,[],xs,off,h,hl,ho,hx=>h.elim
theorem Z90{N:Nat}{t:TypeId}{fs:Array Field}{Qs:List (List AV->Prop)}(ht:P.underlying t=some (.struct fs))(h:Z49 P N fs.toList Qs 0 (P.cellsOf t)):OpensB P (N+1) t (FsQ Qs):=by
 intro H enc W fuel cs x hN hx
 obtain⟨xs,n,hfu,_,hl,hlen,hf⟩:=DataW.trod_struct ht hx
 obtain⟨us,h1,h2⟩:=Z9X hl (by omega) h (by simpa using hlen) (Y0a _) λi f hi=>hf i f (by simpa using hi)
 exact⟨us,h1,by simpa using h2⟩
end opens
end Go.Abs
end
section
namespace Go.Proofs.YtpobjilfhkbhjaaDoor.lex
open Go.Abs Go.RowKit Go.Flat
def QE(us:List AV):Prop:=∃e:Ex,us=e.cells/\okE e
def QEL(us:List AV):Prop:=∃l:List Ex,us=[exA l]/\okL l/\l.length<=maxLen
def QI(us:List AV):Prop:=∃n,us=[.int .i64 n]/\(Lit.int .i64 n).wf=true
def QT(us:List AV):Prop:=∃s:List UInt8,us=[.str s]/\s.length<=maxLen
theorem ZfG:∀l:List (List AV),(∀u∈l,QE u/\u.length=4)->∃m:List Ex,l.flatten=exC m/\l.length=m.length/\okL m
 |[],_=>⟨[],by simp only[exC,List.flatten_nil],rfl,trivial⟩
 |u::l,h=>by
  obtain⟨m,h1,h2,h3⟩:=ZfG l λv hv=>h v (by simp[hv])
  obtain⟨⟨e,rfl,h4⟩,_⟩:=h u (by simp)
  exact⟨e::m,by simp only[Y0O,exC,h1],by simp[h2],by simp only[okL];exact⟨h4,h3⟩⟩
theorem fsE(N:Nat)(h:OpensB Y00 N 36 QEL):Z49 Y00 N (match Y00.underlying 50 with|some (.struct fs)=>fs.toList|_=>[]) [QI,QI,QT,QEL] 0 (Y00.cellsOf 50):=by
 rw[Y0P]
 refine⟨rfl,.of (Z1v Y09),?_⟩
 refine⟨by kernel_rfl,.of (Z1v Tryd.underlying2),?_⟩
 refine⟨by kernel_rfl,.of (ZeL Tryd.underlying9),?_⟩
 refine⟨by kernel_rfl,h,?_⟩
 unfold Z49;kernel_rfl
theorem q_e{us:List AV}(h:FsQ [QI,QI,QT,QEL] us):QE us:=by
 obtain⟨a,u1,rfl,⟨n1,rfl,_⟩,b,u2,rfl,⟨n2,rfl,_⟩,c,u3,rfl,⟨s,rfl,hs⟩,d,u4,rfl,⟨k,rfl,hk,hkl⟩,h3⟩:=h
 have h3:u4=[]:=h3
 subst h3
 exact⟨.mk n1 n2 s k,by simp only[Ex.cells];rfl,by simp only[okE,okN];exact⟨⟨hs,hkl⟩,hk⟩⟩
theorem ZiC:∀N,OpensB Y00 N 50 QE/\OpensB Y00 N 36 QEL
 |0=>⟨Z6R,Z6R⟩
 |N+1=>by
  obtain⟨h1,h2⟩:=ZiC N
  have h3:=fsE N h2
  rw[Y0P]at h3
  refine⟨(Z90 Y0P h3).mono λu hu=>q_e hu,(Z9W Tryd.underlying36 (by kernel_rfl) (show (4:Nat)≠0 by decide) h1).mono ?_⟩
  rintro u ⟨l,hl,rfl,hll⟩
  obtain⟨m,e1,e2,e3⟩:=ZfG l hl
  exact⟨m,by rw[e1,e2];rfl,e3,by rw[<- e2];exact hll⟩
def QN(us:List AV):Prop:=∃i:Ins,us=Z0E i/\i.ex.length<=9223372036854775807/\okL i.ex
def QNL(us:List AV):Prop:=∃l:List Ins,us=[.rs l.length 6 (inC l)]/\l.length<=9223372036854775807/\∀i∈l,i.ex.length<=9223372036854775807/\okL i.ex
theorem Zfk:∀l:List (List AV),(∀u∈l,QN u/\u.length=6)->∃m:List Ins,l.flatten=inC m/\l.length=m.length/\∀i∈m,i.ex.length<=9223372036854775807/\okL i.ex
 |[],_=>⟨[],by simp only[inC,List.flatten_nil],rfl,by simp⟩
 |u::l,h=>by
  obtain⟨m,h1,h2,h3⟩:=Zfk l λv hv=>h v (by simp[hv])
  obtain⟨⟨e,rfl,h4⟩,_⟩:=h u (by simp)
  exact⟨e::m,by simp only[Y0O,inC,h1],by simp[h2],λd hd=>by rcases Y0v.1 hd with rfl|hd;exact h4;exact h3 d hd⟩
theorem fsN:Z3k Y00 (match Y00.underlying 38 with|some (.struct fs)=>fs.toList|_=>[]) [QI,QI,QI,QI,QI,QEL] 0 (Y00.cellsOf 38):=by
 rw[Y0Q]
 refine⟨rfl,Z1v Y09,?_⟩
 refine⟨by kernel_rfl,Z1v Y09,?_⟩
 refine⟨by kernel_rfl,Z1v Y09,?_⟩
 refine⟨by kernel_rfl,Z1v Y09,?_⟩
 refine⟨by kernel_rfl,Z1v Y09,?_⟩
 refine⟨by kernel_rfl,OpensB.all λN=>(ZiC N).2,?_⟩
 unfold Z3k;kernel_rfl
theorem q_n{us:List AV}(h:FsQ [QI,QI,QI,QI,QI,QEL] us):QN us:=by
 obtain⟨a,u1,rfl,⟨n1,rfl,_⟩,b,u2,rfl,⟨n2,rfl,_⟩,c,u3,rfl,⟨n3,rfl,_⟩,d,u4,rfl,⟨n4,rfl,_⟩,e,u5,rfl,⟨n5,rfl,_⟩,f,u6,rfl,⟨k,rfl,hk,hkl⟩,h3⟩:=h
 have h3:u6=[]:=h3
 subst h3
 exact⟨⟨n1,n2,n3,n4,n5,k⟩,rfl,hkl,hk⟩
theorem Zju:Z65 Y00 22 QNL:=by
 have h3:=fsN
 rw[Y0Q]at h3
 refine Z85 (Z6P Tryd.underlying22 (by kernel_rfl) (show (6:Nat)≠0 by decide) (Z85 (Z5F Y0Q h3) λu hu=>q_n hu)) ?_
 rintro u ⟨l,hl,rfl,hll⟩
 obtain⟨m,e1,e2,e3⟩:=Zfk l hl
 exact⟨m,by rw[e1,e2],by rw[<- e2];exact hll,e3⟩
theorem fsC:Z3k Y00 (match Y00.underlying 24 with|some (.struct fs)=>fs.toList|_=>[]) [QI,QNL] 0 (Y00.cellsOf 24):=by
 rw[Y0R]
 refine⟨rfl,Z1v Y09,?_⟩
 refine⟨by kernel_rfl,Zju,?_⟩
 unfold Z3k;kernel_rfl
theorem opensC:Z7B Y00 24 λu=>∃c:Cd,u=c.av/\okC c:=by
 have h3:=fsC
 rw[Y0R]at h3
 refine Z6Q (Z8Z Y0R h3) ?_
 rintro u ⟨us,rfl,a,u1,rfl,⟨n,rfl,_⟩,b,u2,rfl,⟨l,rfl,hl,ho⟩,h4⟩
 have h4:u2=[]:=h4
 subst h4
 exact⟨⟨n,l⟩,rfl,hl,ho⟩
theorem ZeP:∀l:List (List AV),(∀u∈l,QI u/\u.length=1)->∃m:List Int,l.flatten=ksC m/\l.length=m.length
 |[],_=>⟨[],by simp[ksC],rfl⟩
 |u::l,h=>by
  obtain⟨m,h1,h2⟩:=ZeP l λv hv=>h v (by simp[hv])
  obtain⟨⟨s,rfl,_⟩,_⟩:=h u (by simp)
  exact⟨s::m,by simp[h1,ksC],by simp[h2]⟩
theorem opensNs:Z7B Y00 25 λu=>∃l:List Int,u=rsI l/\l.length<=9223372036854775807:=by
 refine Z6Q (Z9V Y0r (by kernel_rfl) (show (1:Nat)≠0 by decide) (Z1v Y09)) ?_
 rintro u ⟨l,hl,rfl,hll⟩
 obtain⟨m,e1,e2⟩:=ZeP l hl
 exact⟨m,by rw[e1,e2];rfl,by rw[<- e2];exact hll⟩
def ltI(i:Ins):Bool:=decide (i.ex.length<=4)&&i.ex.all λe=>decide (0<=Z1I e 60)
def ltC(c:Cd)(n:Int):Bool:=decide ((c.ins.length:Int)<=n)&&c.ins.all ltI
variable {gl:Z0n}
theorem Zfg(c:Cd)(hok:okC c)(n:Int):ValOK Y00 gl 5 [c.av,.int .i64 n] (.bool (ltC c n)):=by
 obtain⟨regs,ins⟩:=c
 obtain⟨hl,hx⟩:=hok
 simp only at hl hx
 have hinj:∀x y:Ex,okE x->okE y->[AV.agg x.cells,.int .i64 60]=[AV.agg y.cells,.int .i64 60]->AV.bool (decide (0<=Z1I x 60)) = .bool (decide (0<=Z1I y 60)):=λx y _ _ h=>by
  simp only[List.cons.injEq,AV.agg.injEq,and_true]at h
  rw[Z51 _ _ h]
 obtain⟨O,hO,p1,-⟩:=fams (P:=Y00) (gl:=gl) [{ I:=Ex,f:=17,G:=λx=>okE x,A:=λx=>[.agg x.cells,.int .i64 60],R:=λx=>.bool (decide (0<=Z1I x 60)),body:=(by kernel_rfl),inj:=hinj,ok:=(λx hx=>⟨by obtain⟨o,m,s,k⟩:=x;simp only[Ex.cells];rfl,ZhM x 60 hx (by decide) (by decide)⟩) }] rfl
 have q1:∀x,okE x->∀H,Z0e Y00 O H 17 [.agg x.cells,.int .i64 60]=some (.bool (decide (0<=Z1I x 60)),H):=p1
 clear p1 hinj
 unfold ltC
 simp only[Cd.av]
 refine Z0J follows Z11 hO Tryd.func5 rfl ?_
 by_cases h1:(ins.length:Int)<=n
 case' neg =>
  have e1:decide ((ins.length:Int)>n)=true:=by simp;omega
  rw[show decide ((ins.length:Int)<=n)=false by simpa using h1]
  repeat' ((conv=>whnf);first|refine stp ?_|with_reducible apply Z04<;>intro h)
  all_goals rfl
 have e1:decide ((ins.length:Int)>n)=false:=by simp;omega
 rw[show decide ((ins.length:Int)<=n)=true by simpa using h1,Y0h]
 repeat' ((conv=>whnf);first|refine stp ?_|with_reducible apply Z04<;>intro h)
 conv=>whnf
 refine⟨Nat,(λi=>i<=ins.length/\(ins.take i).all ltI=true),(λi=>[(2,.ptr 0 0),(5,.int .i64 (i:Nat))]),(λi=>[⟨true,0,0,.cells [.int .i64 regs,.rs ins.length 6 (inC ins)] 24⟩]),(λi=>ins.length-i),⟨0,⟨Y0a _,rfl⟩,?_⟩,?_⟩
 · refine Y06 [0] rfl ?_ ⟨hbp,trivial⟩ rfl
   exact wks
 rintro i ⟨hi,hall⟩
 dsimp only
 by_cases hlt:i<ins.length
 · have e3:decide ((i:Int)<(ins.length:Int))=true:=by simpa using hlt
   have hx5:=Zll ins i hlt
   have hat:=ZmR (p:=ltI) ins i hlt
   rw[hall,Y0h]at hat
   have hst:=ZbG (p:=ltI) hlt
   have hxi:=hx _ (Z12 hlt)
   generalize ins[i]=y at *
   obtain⟨k,r,lo,od,to,ex⟩:=y
   simp only[exA,ltI]at *
   by_cases h4:ex.length<=4
   · have e4:decide ((ex.length:Int)>4)=false:=by simp;omega
     rw[show decide (ex.length<=4)=true by simpa using h4,Y0h]at hat hst
     repeat' ((conv=>whnf);first|refine exI hx5 ?_|(with_reducible refine ixJ i rfl ?_ ?_;focus omega)|refine stp ?_|with_reducible apply Z04<;>intro h)
     conv=>whnf
     refine⟨Nat,(λm=>m<=ex.length/\(ex.take m).all (λe=>decide (0<=Z1I e 60))=true),(λm=>[(2,.ptr 0 0),(5,.int .i64 (i:Nat)),(6,.int .i64 (m:Nat))]),(λm=>[⟨true,0,0,.cells [.int .i64 regs,.rs ins.length 6 (inC ins)] 24⟩]),(λm=>ex.length-m),⟨0,⟨Y0a _,rfl⟩,?_⟩,?_⟩
     · refine Y06 [0] rfl ?_ ⟨hbp,trivial⟩ rfl
       exact wks
     rintro m ⟨hm,hall2⟩
     dsimp only
     by_cases hmt:m<ex.length
     · have e5:decide ((m:Int)<(ex.length:Int))=true:=by simpa using hmt
       have q3:=q1 ex[m] (Z3B hxi.2 _ (Z12 hmt))
       have hx4:=ex4 ex m hmt
       have ham:=ZmR (p:=λe=>decide (0<=Z1I e 60)) ex m hmt
       rw[hall2,Y0h]at ham
       have hb2:=ZbG (p:=λe=>decide (0<=Z1I e 60)) (l:=ex) hmt
       clear q1
       generalize Z1I ex[m] 60=ce at *
       generalize ex[m]=x at *
       obtain⟨xo,xn,xs,xk⟩:=x
       simp only[Ex.cells]at hx4 q3
       cases hb:decide (0<=ce) with
       |true =>
        rw[hb]at ham q3
        repeat' ((conv=>whnf);first|refine exI (q3 _) ?_|refine exI hx5 ?_|refine exI hx4 ?_|(with_reducible refine ixJ i rfl ?_ ?_;focus omega)|(with_reducible refine ixJ m rfl ?_ ?_;focus omega)|refine stp ?_|with_reducible apply Z04<;>intro h)
        conv=>whnf
        refine⟨m+1,⟨hmt,ham⟩,by show ex.length-(m+1)<ex.length-m;omega,?_⟩
        refine Y06 [0] rfl ?_ ⟨hbp,trivial⟩ rfl
        exact wks
       |false =>
        rw[hst (hb2 hb)]
        rw[hb]at q3
        repeat' ((conv=>whnf);first|refine exI (q3 _) ?_|refine exI hx5 ?_|refine exI hx4 ?_|(with_reducible refine ixJ i rfl ?_ ?_;focus omega)|(with_reducible refine ixJ m rfl ?_ ?_;focus omega)|refine stp ?_|with_reducible apply Z04<;>intro h)
        all_goals rfl
     · have e5:decide ((m:Int)<(ex.length:Int))=false:=by simpa using hmt
       have hm2:m=ex.length:=by omega
       subst hm2
       rw[Y0p]at hall2
       rw[hall2]at hat
       repeat' ((conv=>whnf);first|refine exI hx5 ?_|(with_reducible refine ixJ i rfl ?_ ?_;focus omega)|refine stp ?_|with_reducible apply Z04<;>intro h)
       conv=>whnf
       refine⟨i+1,⟨hlt,hat⟩,by show ins.length-(i+1)<ins.length-i;omega,?_⟩
       refine Y06 [0] rfl ?_ ⟨hbp,trivial⟩ rfl
       exact wks
   · have e4:decide ((ex.length:Int)>4)=true:=by simp;omega
     rw[hst (by rw[show decide (ex.length<=4)=false by simpa using h4];rfl)]
     repeat' ((conv=>whnf);first|refine exI hx5 ?_|(with_reducible refine ixJ i rfl ?_ ?_;focus omega)|refine stp ?_|with_reducible apply Z04<;>intro h)
     all_goals rfl
 · have e3:decide ((i:Int)<(ins.length:Int))=false:=by simpa using hlt
   have hi2:i=ins.length:=by omega
   subst hi2
   rw[Y0p]at hall
   rw[hall]
   repeat' ((conv=>whnf);first|refine stp ?_|with_reducible apply Z04<;>intro h)
   all_goals rfl
end Go.Proofs.YtpobjilfhkbhjaaDoor.lex
end
namespace Go.Proofs.YtpobjilfhkbhjaaDoor.lex
open Go.Abs Go.RowKit
section
variable {gl:Z0n}
def Z5X(n:Int)(m:Nat):Int:=cond (decide (n.tmod m<0)) (n.tmod m+m) (n.tmod m)
theorem Z8X(n:Int){m:Nat}(h:0<m):0<=Z5X n m/\Z5X n m<m:=by
 have h1:=Int.tmod_lt_of_pos n (b:=(m:Int)) (by omega)
 have h2 : -(m:Int)<n.tmod m:=by
  have:=Int.tmod_lt_of_pos (-n) (b:=(m:Int)) (by omega)
  rw[Int.neg_tmod]at this;omega
 unfold Z5X
 cases h3:decide (n.tmod m<0) with
 |true=>have:=of_decide_eq_true h3;simp only[cond_true];omega
 |false=>have:=of_decide_eq_false h3;simp only[cond_false];omega
theorem Zjr(n:Int)(m:Nat)(hm:0<m)(hm2:m<=9223372036854775807):ValOK Y00 gl 13 [.int .i64 n,.int .i64 m] (.int .i64 (Z5X n m)):=by
 refine Z0J follows Z11 Z1b Tryd.func13 rfl ?_
 have h0:(m:Int)≠0:=by omega
 repeat' ((conv=>whnf);first|(refine Y0d h0 ?_)|refine stp ?_|with_reducible apply Z04<;>intro h)
 · show AV.int _ _=AV.int _ _
   have h1:=Z8X n hm
   unfold Z5X at h1⊢
   rw[h]at h1⊢
   simp only[cond_true]at h1⊢
   rw[Z7D (by omega) (by omega)]
 · show AV.int _ _=AV.int _ _
   unfold Z5X
   rw[h];rfl
end
end Go.Proofs.YtpobjilfhkbhjaaDoor.lex
section
namespace Go.Proofs.YtpobjilfhkbhjaaDoor.lex
open Go.Abs Go.RowKit Go.Flat
theorem Zhs(c:Cd)(hok:okC c)(hc:ZgV c=0)(a:Nat)(ha:a<c.ins.length):ValOK Y00 runLives.gl 12 [c.av,.int .i64 a] (Z3D (Z0D c.ins a)):=by
 have hck:=Z41 c hok
 rw[hc]at hck
 have hg:=(Z9f hc).good
 obtain⟨regs,l⟩:=c
 simp only[Cd.av]at *
 have hf:=hg.few
 obtain⟨O,hO,p1,p2,-⟩:=fams (P:=Y00) (gl:=runLives.gl) [{ I:=Unit,f:=6,G:=λ_=>True,A:=λ_=>[.agg [.int .i64 regs,.rs l.length 6 (inC l)]],R:=λ_=>.int .i64 0,body:=(by kernel_rfl),inj:=λ_ _ _ _ _=>rfl,ok:=λ_ _=>⟨rfl,hck⟩ },
  { I:=Unit,f:=20,G:=λ_=>True,A:=λ_=>[.agg [.int .i64 regs,.rs l.length 6 (inC l)],.int .i64 a],R:=λ_=>Z3D (Z0D l a),body:=(by kernel_rfl),inj:=(λ_ _ _ _ _=>rfl),ok:=λ_ _=>⟨rfl,Z96 regs l a ha hf (hg.to a ha)⟩ }] rfl
 have q1:∀H,Z0e Y00 O H 6 [.agg [.int .i64 regs,.rs l.length 6 (inC l)]]=some (.int .i64 0,H):=p1 () trivial
 have q2:∀H,Z0e Y00 O H 20 [.agg [.int .i64 regs,.rs l.length 6 (inC l)],.int .i64 a]=some (Z3D (Z0D l a),H):=p2 () trivial
 clear p1 p2 hck
 have e1:decide ((a:Int)<0)=false:=by simp
 have e2:decide ((a:Int) >= (l.length:Int))=false:=by simp;omega
 generalize Z0D l a=L at *
 simp only[Z3D]at q2⊢
 refine Z0J follows Z11 hO Tryd.func12 rfl ?_
 repeat' ((conv=>whnf);first|(refine Z0j (q1 _) ?_)|(refine Z0j (q2 _) ?_)|refine stp ?_|with_reducible apply Z04<;>intro h)
 all_goals rfl
theorem Zln(L:List Nat)(r:Nat)(hl:L.length<=9223372036854775807):ValOK Y00 runLives.gl 10 [Z3D L,.int .i64 r] (.bool (decide (r∈L))):=by
 simp only[Z3D]
 refine Z0J follows Z11 Z1b Tryd.func10 rfl ?_
 repeat' ((conv=>whnf);first|refine stp ?_|with_reducible apply Z04<;>intro h)
 conv=>whnf
 refine⟨Nat,(λi=>i<=L.length/\r ∉ L.take i),(λi=>[(0,.rs L.length 1 (nis L)),(1,.int .i64 r),(5,.int .i64 (i:Nat))]),(λi=>[]),(λi=>L.length-i),⟨0,⟨Y0a _,by simp⟩,?_⟩,?_⟩
 · refine Y06 [] rfl ?_ trivial rfl
   exact wks
 rintro i ⟨hi,hni⟩
 dsimp only at hi hni⊢
 by_cases hlt:i<L.length
 · have e1:decide ((i:Int)<(L.length:Int))=true:=by simpa using hlt
   have hx:=Z3n L (k:=i) hlt (off:=i*1) (by omega)
   have hts:=Y0T hlt
   have hin:L[i]∈L:=Y0w hlt
   generalize L[i]=x at *
   by_cases hq:x=r
   · subst hq
     have e2:((x:Int)==(x:Int))=true:=by simp
     rw[show decide (x∈L)=true by simpa using hin]
     repeat' ((conv=>whnf);first|refine exI hx ?_|(with_reducible refine ixJ i rfl ?_ ?_;focus omega)|refine stp ?_|with_reducible apply Z04<;>intro h)
     all_goals rfl
   · have e2:((x:Int)==(r:Int))=false:=by simp;omega
     repeat' ((conv=>whnf);first|refine exI hx ?_|(with_reducible refine ixJ i rfl ?_ ?_;focus omega)|refine stp ?_|with_reducible apply Z04<;>intro h)
     conv=>whnf
     refine⟨i+1,⟨hlt,by rw[hts];simp only[Y0f,Y0l,not_or];exact⟨hni,λe=>hq e.symm⟩⟩,by show L.length-(i+1)<L.length-i;omega,?_⟩
     refine Y06 [] rfl ?_ trivial rfl
     exact wks
 · have e1:decide ((i:Int)<(L.length:Int))=false:=by simpa using hlt
   rw[List.take_of_length_le (by omega)]at hni
   rw[show decide (r∈L)=false by simpa using hni]
   repeat' ((conv=>whnf);first|refine stp ?_|with_reducible apply Z04<;>intro h)
   all_goals rfl
end Go.Proofs.YtpobjilfhkbhjaaDoor.lex
end
section
namespace Go.Proofs.YtpobjilfhkbhjaaDoor.lex
open Go.Abs Go.RowKit Go.Flat
theorem Zbe(c:Cd)(hok:okC c)(hc:ZgV c=0):ValOK Y00 runLives.gl 8 [c.av] (.rs c.ins.length 1 (arr (λv=>.bool (Zhh (Z0D c.ins) v)) c.ins.length)):=by
 have hck:=Z41 c hok
 rw[hc]at hck
 have hg:=(Z9f hc).good
 obtain⟨regs,l⟩:=c
 simp only[Cd.av]at *
 have hp:=hg.pos
 have hf:=hg.few
 obtain⟨O,hO,p1,p2,-⟩:=fams (P:=Y00) (gl:=runLives.gl) [{ I:=Unit,f:=6,G:=λ_=>True,A:=λ_=>[.agg [.int .i64 regs,.rs l.length 6 (inC l)]],R:=λ_=>.int .i64 0,body:=(by kernel_rfl),inj:=λ_ _ _ _ _=>rfl,ok:=λ_ _=>⟨rfl,hck⟩ },
  { I:=Nat,f:=20,G:=λa=>a<l.length,A:=λa=>[.agg [.int .i64 regs,.rs l.length 6 (inC l)],.int .i64 a],R:=λa=>Z3D (Z0D l a),body:=(by kernel_rfl),inj:=(λi j _ _ h=>by simp only[List.cons.injEq,AV.int.injEq,and_true,true_and]at h;rw[show i=j by omega]),ok:=λa ha=>⟨rfl,Z96 regs l a ha hf (hg.to a ha)⟩ }] rfl
 have q1:∀H,Z0e Y00 O H 6 [.agg [.int .i64 regs,.rs l.length 6 (inC l)]]=some (.int .i64 0,H):=p1 () trivial
 have q2:∀a,a<l.length->∀H,Z0e Y00 O H 20 [.agg [.int .i64 regs,.rs l.length 6 (inC l)],.int .i64 a]=some (Z3D (Z0D l a),H):=p2
 clear p1 p2 hck hc
 have hm:=Zle l.length (by omega)
 have hT:ZcU Y00 25 25=some (3,1,8):=by kernel_rfl
 have hz:∀off,off=0->spl (Z3W l.length [AV.bool false]) off [.bool true]=some (arr (λv=>.bool (upd (λ_=>false) 0 true v)) l.length):=λoff e=>by
  rw[Z4P,Z7p _ _ hp e]
  congr 2
  funext v
  by_cases h:v=0
  ·subst h;rw[Z08,Z08]
  ·rw[Z07 h,Z07 h]
 simp only[Z3D]at q2
 have hnx:∀v,v<l.length->∀w∈Z0D l v,w<l.length:=λv hv w hw=>hg.nx8 hv hw
 have hlt:∀v,Rch (Z0D l) v->v<l.length:=λv hv=>hg.lt8 hv
 have h2:∀v,(Z0D l v).length<=2:=Z6W l
 clear hok hg
 generalize Z0D l=nx at *
 refine Z0J follows Z11 hO Tryd.func8 rfl ?_
 repeat' ((conv=>whnf);first|refine exI (q1 _) ?_|refine exI (hm _) ?_|refine exI (hz _ rfl) ?_|(with_reducible refine ixJ 0 rfl ?_ ?_;focus omega)|refine stp ?_|with_reducible apply Z04<;>intro h)
 conv=>whnf
 refine⟨(Nat->Bool)×List Nat,(λs=>Rs nx s.1 s.2/\Z39 l.length s.1 s.2<=8001),(λs=>[(1,.ptr 0 0),(3,.slice 1 0 l.length l.length 1),(4,.slice 2 0 s.2.length s.2.length 1)]),(λs=>reH regs l s.1 s.2),(λs=>Z39 l.length s.1 s.2),⟨(upd (λ_=>false) 0 true,[0]),⟨Rs.start nx,by have:=ZhQ l.length (upd (λ_=>false) 0 true) [0];simp only[Y04,Y07]at this;show Z39 _ (upd (λ_=>false) 0 true) [0]<=_;omega⟩,?_⟩,?_⟩
 · refine Y06 [0,1,2] rfl ?_ ⟨hbp,⟨rfl,rfl,rfl,rfl,Y01 (rest:=[]) (by rw[Y02]) (Z1Y _ _)⟩,hbp,trivial⟩ rfl
   simp only[Y04,Y07]
   exact wks
 rintro⟨out,stk⟩ ⟨hR,hb⟩
 dsimp only at *
 cases stk with
 |nil =>
  have ha:arr (λv=>AV.bool (out v)) l.length=arr (λv=>.bool (Zhh nx v)) l.length:=by
   congr 1
   funext v
   congr 1
   rw[Bool.eq_iff_iff,Z6b];exact hR.all v
  rw[<- ha]
  simp only[reH,Y07]
  repeat' ((conv=>whnf);first|refine stp ?_|with_reducible apply Z04<;>intro h)
  all_goals (conv=>whnf)
  all_goals exact⟨_,Zdz (n:=28) (b:=1) rfl (by rw[Z3R];omega) (Zgw (λ_=>rfl) _),rfl⟩
 |cons v stk =>
  have hv:=hlt v (hR.rch v (hR.mark v (by simp)))
  have hge:=Zcw l.length out (v::stk)
  simp only[Y04]at hge
  have e1:decide (((stk.length+1:Nat):Int)>0)=true:=by simp<;>omega
  have w1:IntKind.i64.wrap (((stk.length+1:Nat):Int)-1)=(stk.length:Int):=by rw[Z7D (by omega) (by omega)];omega
  have hx:∀off,off=stk.length->tk 1 ((nis (stk.reverse++[v])).drop off)=some [.int .i64 v]:=λoff e=>by
   have:=Z3n (stk.reverse++[v]) (k:=stk.length) (by simp) e
   rw[this];simp
  have q2v:=q2 v hv
  have hnxv:=hnx v hv
  have hpop:=hR.pop
  simp only[reH,Y04,Y0N]at *
  repeat' ((conv=>whnf);first|(with_reducible refine exW w1 ?_)|refine exI (hx _ (by omega)) ?_|refine exI (q2v _) ?_|(with_reducible refine ixJ stk.length rfl ?_ ?_;focus omega)|(with_reducible refine Zmw stk.length rfl ?_ ?_;focus omega)|refine stp ?_|with_reducible apply Z04<;>intro h)
  conv=>whnf
  refine⟨(Nat->Bool)×List Nat×Nat,(λs=>Rm nx v s.2.2 s.1 s.2.1/\s.2.2<=(nx v).length/\Z39 l.length s.1 s.2.1<Z39 l.length out (v::stk)),(λs=>[(1,.ptr 0 0),(3,.slice 1 0 l.length l.length 1),(4,.slice 2 0 s.2.1.length s.2.1.length 1),(34,.rs (nx v).length 1 (nis (nx v))),(35,.int .i64 (nx v).length),(36,.int .i64 (s.2.2:Nat))]),(λs=>reH regs l s.1 s.2.1),(λs=>(nx v).length-s.2.2),⟨(out,stk,0),⟨hpop,Y0a _,Zfh⟩,?_⟩,?_⟩
  · refine Y06 [0,1,2] rfl ?_ ⟨hbp,⟨rfl,rfl,rfl,rfl,Y01 (rest:=[]) (by rw[Y02]) (Z1Y _ _)⟩,⟨rfl,rfl,rfl,rfl,Y01 (rest:=[.int .i64 v]) (Z6X _ _) (Z0y _)⟩,trivial⟩ rfl
    simp only[Y04,Y07]
    exact wks
  rintro⟨out2,stk2,j⟩ ⟨hM,hj,hl2⟩
  dsimp only at *
  simp only[reH]
  clear hx w1 e1 hge q2v
  by_cases hjt:j<(nx v).length
  · have e1:decide ((j:Int)<((nx v).length:Int))=true:=by simpa using hjt
    have hx2:∀off,off=j->tk 1 ((nis (nx v)).drop off)=some [.int .i64 ((nx v)[j]:Nat)]:=λoff e=>Z3n (nx v) hjt e
    have hw:=Y0n hjt
    have hwl:=hnxv _ (Y0w hjt)
    have hlen:=h2 v
    generalize (nx v)[j]=w at *
    have hx3:∀off,off=w->tk 1 ((arr (λv=>AV.bool (out2 v)) l.length).drop off)=some [.bool (out2 w)]:=λoff e=>Z5R _ hwl e
    cases ho:out2 w with
    |true =>
     rw[ho]at hx3
     repeat' ((conv=>whnf);first|refine exI (hx2 _ (by omega)) ?_|refine exI (hx3 _ (by omega)) ?_|(with_reducible refine ixJ j rfl ?_ ?_;focus omega)|(with_reducible refine ixJ w rfl ?_ ?_;focus omega)|refine stp ?_|with_reducible apply Z04<;>intro h)
     conv=>whnf
     refine⟨(out2,stk2,j+1),⟨hM.old hw ho,hjt,hl2⟩,by show (nx v).length-(j+1)<(nx v).length-j;omega,?_⟩
     refine Y06 [0,1,2] rfl ?_ ⟨hbp,⟨rfl,rfl,rfl,rfl,Y01 (rest:=[]) (by rw[Y02]) (Z1Y _ _)⟩,⟨rfl,rfl,rfl,rfl,Y01 (rest:=[]) (by rw[Y02]) (Z0y _)⟩,trivial⟩ rfl
     simp only[Y04]
     exact wks
    |false =>
     rw[ho]at hx3
     have hl3:=Zdt (stk:=stk2) hwl ho
     have hge:=Zcw l.length out2 stk2
     have hso:=ZeU stk2.reverse
     have hsl:=Z1e stk2.reverse
     rw[Y0G]at hsl
     have hy:∀off,off=w->spl (arr (λv=>AV.bool (out2 v)) l.length) off [.bool true]=some (arr (λv=>.bool (upd out2 w true v)) l.length):=λoff e=>by
      rw[Z7p _ _ hwl e]
      congr 2
      funext u
      by_cases h:u=w
      ·subst h;rw[Z08,Z08]
      ·rw[Z07 h,Z07 h]
     repeat' ((conv=>whnf);first|refine exI (hx2 _ (by omega)) ?_|refine exI (hx3 _ (by omega)) ?_|refine exI (hy _ (by omega)) ?_|(with_reducible refine ixJ j rfl ?_ ?_;focus omega)|(with_reducible refine ixJ w rfl ?_ ?_;focus omega)|(refine apS ?_)|refine stp ?_|with_reducible apply Z04<;>intro h)
     conv=>whnf
     refine⟨(upd out2 w true,w::stk2,j+1),⟨hM.push hw,hjt,by show Z39 l.length (upd out2 w true) (w::stk2)<_;omega⟩,by show (nx v).length-(j+1)<(nx v).length-j;omega,?_⟩
     refine Y06 [0,1,4] rfl ?_ ⟨hbp,⟨rfl,rfl,rfl,rfl,Y01 (rest:=[]) (by rw[Y02]) (Z1Y _ _)⟩,⟨rfl,rfl,rfl,rfl,Y01 (rest:=[]) (by rw[Y02,Y0N,Z6X];rfl) (Z0y _)⟩,trivial⟩ rfl
     simp only[Y04]
     exact wks
  · have e1:decide ((j:Int)<((nx v).length:Int))=false:=by simpa using hjt
    have hj2:j=(nx v).length:=by omega
    subst hj2
    repeat' ((conv=>whnf);first|refine stp ?_|with_reducible apply Z04<;>intro h)
    conv=>whnf
    refine⟨(out2,stk2),⟨hM.fin,by show Z39 l.length out2 stk2<=_;omega⟩,by show Z39 l.length out2 stk2<Z39 l.length out (v::stk);omega,?_⟩
    refine Y06 [0,1,2] rfl ?_ ⟨hbp,⟨rfl,rfl,rfl,rfl,Y01 (rest:=[]) (by rw[Y02]) (Z1Y _ _)⟩,⟨rfl,rfl,rfl,rfl,Y01 (rest:=[]) (by rw[Y02]) (Z0y _)⟩,trivial⟩ rfl
    simp only[Y04,Y07]
    exact wks
end Go.Proofs.YtpobjilfhkbhjaaDoor.lex
end
section
namespace Go.Proofs.YtpobjilfhkbhjaaDoor.runLives
open Go.RowKit Go.Abs
theorem Zmt:Z8Q (Zlp Y00 gl [] 100000 100 4 [] TH.empty)=true:=by kernel_rfl
theorem knownLives:OrcSound Y00 gl (Zcb [(4,[])]):=Zdv follows Z11 Zh6 rfl Zmt
end Go.Proofs.YtpobjilfhkbhjaaDoor.runLives
end

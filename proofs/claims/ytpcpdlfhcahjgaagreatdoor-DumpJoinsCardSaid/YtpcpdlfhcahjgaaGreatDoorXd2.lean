/-
  Texts of this proof, one behind the other (part 2).
-/
import Derived.Test.YtpcpdlfhcahjgaaGreatDoorXd1
import Derived.Laws.IdiomStrings
import Derived.Lib.Builder
import Derived.Lib.MakeNoZero
import Derived.Lib.UnsafeStr
import Derived.Lib.Bytealg
import Derived.TacticsIn
import Derived.OrdersIn
import Derived.LoopN
import Derived.Scope
import Derived.LoopNIn
import Derived.RangeFuncLeaves
set_option linter.unusedVariables false
set_option linter.unusedSimpArgs false
set_option maxRecDepth 100000
set_option maxHeartbeats 4000000
open Nat renaming beq → Y00,eq_of_beq_eq_true → Y04,zero_add → Y06,le_refl → Y0d,blt_eq → Y0i,lt_or_ge → Y0o,le_of_ble_eq_true → Y0q,lt_of_lt_of_le → Y0s
open Go.Sem renaming run_bind → Y01,run_pure → Y03
open Go.Result renaming andThen_ok → Y02
open Bool renaming and_eq_true → Y05,or_eq_true → Y0c,false_eq_true → Y0n
open List renaming mem_cons → Y07,mem_append → Y08,getElem?_eq_some_iff → Y09,map_cons → Y0a,getElem?_eq_getElem → Y0b,map_toArray → Y0e,map_nil → Y0f,getElem?_append_right → Y0h,append_assoc → Y0j,getElem?_cons_succ → Y0k,getElem?_take → Y0m,nil_append → Y0p,getElem?_append_left → Y0u
open Array renaming getElem?_toList → Y0g,getElem?_eq_some_iff → Y0l,getD_eq_getD_getElem? → Y0t,mem_toList_iff → Y0v,getElem?_append_left → Y0w,getElem?_setIfInBounds → Y0x
open Option renaming map_none → Y0r
section
namespace Go.Abs
open Go.RowKit
def isC:Operand->Bool
 | .const _=>true
 |_=>false
def Z7b(P:Program)(op:BinOp)(t:TypeId)(b:Bool):Option AV:=match P.underlying t with
 |some (.interface _)=>match op with | .eql=>some (.bool b) | .neq=>some (.bool !b)|_=>none
 |_=>none
def Zja(P:Program)(op:BinOp)(t t1 t2:TypeId)(u v:AV):Option AV :=
 if Y00 t1 t2 then match P.info? t1 with
  |some i=>if i.comparable then (match aEq P 9999 t1 u v with|some b=>Z7b P op t b|none=>none) else none
  |none=>none
 else Z7b P op t false
def ZfA(P:Program)(op:BinOp)(t:TypeId):Option AV:=match P.underlying t with
 |some (.pointer e)=>match tsz P e with
  |some (_+1)=>match op with | .eql=>some (.bool true) | .neq=>some (.bool false)|_=>none
  |_=>none
 |_=>none
def Z43(P:Program)(op:BinOp)(t:TypeId)(c:Bool)(u v:AV):Option AV :=
 match u,v with
 | .niface,.niface=>if c then Z7b P op t true else none
 | .iface _ _,.niface=>Z7b P op t false
 | .niface,.iface _ _=>Z7b P op t false
 | .iface t1 u,.iface t2 v=>Zja P op t t1 t2 u v
 | .ptr b o,.ptr b' o'=>if Y00 b b'&&Y00 o o' then ZfA P op t else none
 |u,v=>Zbl P op t u v
def Zhb(P:Program)(s d:TypeId)(b off:Nat)(H:Z00):Bool :=
 match H[b]? with
 |some o=>match o.alive,o.body with
  |true,.cells cs ty=>match P.underlying s,P.underlying d with
   |some (.pointer t),some .unsafePointer=>(match tsz P t with|some (_+1)=>Nat.blt off cs.length|_=>false)
   |some .unsafePointer,some (.pointer u)=>(match tsz P u with
    |some _=>Y00 o.sh 0&&(Nat.blt 0 (P.cellsOf ty)&&(Nat.ble (P.cellsOf ty) cs.length&&liesAt P P.depth ty 1 off u 1))
    |none=>false)
   |_,_=>false
  |_,_=>false
 |none=>false
def Z2i:List AV->Option (List UInt8)
 |[]=>some []
 | .int .u8 (.ofNat k)::l=>if Nat.blt k 256 then (match Z2i l with|some r=>some (UInt8.ofNat k::r)|none=>none) else none
 |_=>none
def ZaZ(P:Program)(t:TypeId)(p:AV)(m:Nat)(H:Z00):Option (AV×Z00) :=
 match m with
 |0=>match p with
  | .nptr=>some (.str [],H)
  | .ptr _ _=>some (.str [],H)
  |_=>none
 |m+1=>match p with
  | .ptr b 0=>match H[b]? with
   |some o=>match o.alive,o.body with
    |true,.cells cs ty=>match P.underlying t with
     | some (.pointer e) => if (Y00 e ty && Y00 (P.cellsOf ty) 1 && Y00 o.sh 0 && Nat.ble (m + 1) 9223372036854775807) = true then
       match tk (m+1) cs with
       |some l=>match Z2i l with
        |some bs=>some (.str bs,(Z3G b o.fam H).set b o.dead)
        |none=>none
       |none=>none
      else none
     |_=>none
    |_,_=>none
   |none=>none
  |_=>none
def Z5y(P:Program)(s d:TypeId):Bool:=match P.underlying s,P.underlying d with
 |some (.slice e),some .string=>match P.underlying e with
  |some (.int .u8)=>true
  |_=>false
 |_,_=>false
def ZdN(u:AV)(H:Z00):Option AV:=match u with
 | .slice b off len _ z=>if Y00 z 1=true then (match H[b]? with
  |some o=>match o.alive,o.body with
   |true,.cells cs _=>match tk len (cs.drop off) with
    |some l=>match Z2i l with
     |some bs=>some (.str bs)
     |none=>none
    |none=>none
   |_,_=>none
  |none=>none) else none
 |_=>none
def Zhc(P:Program)(s d:TypeId)(x:AV)(H:Z00):Option AV :=
 match x with
 | .str bs=>match P.underlying s,P.underlying d with
  |some .string,some (.slice e)=>match P.underlying e with
   |some (.int .u8)=>some (.rs bs.length 1 (bs.map λb=>.int .u8 b.toNat))
   |_=>none
  |_,_=>none
 | .ptr b off=>if Zhb P s d b off H then some (.ptr b off) else none
 |_=>none
def Z7z(P:Program)(t:TypeId)(x:AV)(lo hi:Option AV)(H:Z00):Option AV :=
 match x with
 | .ptr b off=>match P.underlying t with
  |some (.array n e)=>match tsz P e with
   |some z=>match H[b]? with
    |some o=>match o.alive,o.body with
     |true,.cells cs _=>if Nat.ble (off+n*z) cs.length=true then (match bnd hi n n with
      |some h=>match bnd lo 0 h with
       |some l=>some (.slice b (off+l*z) (h-l) (n-l) z)
       |none=>none
      |none=>none) else none
     |_,_=>none
    |none=>none
   |none=>none
  |_=>none
 |_=>none
def Zcg(P:Program)(t:TypeId)(x:AV)(lo:Option AV)(hi mx:AV):Option AV :=
 match x with
 | .slice b off _ cap z=>match P.underlying t with
  |some (.slice e)=>match tsz P e with
   |some z'=>if z'=z then (match bnd (some mx) 0 cap with
    |some m=>match bnd (some hi) 0 m with
     |some h=>match bnd lo 0 h with
      |some l=>some (.slice b (off+l*z) (h-l) (m-l) z)
      |none=>none
     |none=>none
    |none=>none) else none
   |none=>none
  |_=>none
 |_=>none
def Z0q(P:Program)(ρ : Operand->Option AV)(H:Z00)(o:Oper):Option AV :=
 match o.op with
 | .slice t x lo (some hi) (some mx)=>match ρ x,ZeZ ρ lo,ρ hi,ρ mx with|some x,some lo,some hi,some mx=>Zcg P t x lo hi mx|_,_,_,_=>none
 | .binOp op t x y _=>match ρ x,ρ y with|some u,some v=>Z43 P op t (isC x || isC y) u v|_,_=>none
 | .lookup t m k ok=>match ρ m,ρ k with|some m,some k=>Z29 P t m k ok H|_,_=>none
 | .convert s d x=>match ρ x with|some (.slice b off len cap z)=>if Z5y P s d=true then ZdN (.slice b off len cap z) H else none|_=>Z2q P ρ H o
 |_=>Z2q P ρ H o
def Z7H(P:Program)(ρ : Operand->Option AV)(H:Z00)(o:Oper):Option (AV×Z00) :=
 match o.op with
 | .alloc e=>Zhf P e H
 | .box e x=>match ρ x with|some v=>Znv e v H|none=>none
 | .buildSlice t len ps=>match Z7y ρ ps.toList with|some us=>Z4Q P t len us H|none=>none
 | .makeSlice t l c=>match ρ l,ρ c with|some l,some c=>Z1P P t l c H|_,_=>none
 | .makeMap t none=>some (.map H.length,H++[⟨true,H.length,0,.map [] 0⟩])
 | .store t a x=>match ρ a,ρ x with|some a,some x=>(match Zb1 P t a x H with|some H'=>some (.tuple [],H')|none=>none)|_,_=>none
 | .mapUpdate t m k x=>match ρ m,ρ k,ρ x with|some m,some k,some x=>(match Z41 P t m k x H with|some H'=>some (.tuple [],H')|none=>none)|_,_,_=>none
 | .insert t m k x=>match ρ m,ρ k,ρ x with|some m,some k,some x=>(match Z41 P t m k x H with|some H'=>some (.tuple [],H')|none=>none)|_,_,_=>none
 | .convert s d x=>match ρ x with|some u=>(match Zhc P s d u H with|some r=>some (r,H)|none=>none)|none=>none
 | .slice t x lo hi none=>match ρ x,ZeZ ρ lo,ZeZ ρ hi with|some u,some lo,some hi=>(match Z7z P t u lo hi H with|some r=>some (r,H)|none=>none)|_,_,_=>none
 | .call c=>match c.callee with
  | .builtin .append=>match c.args.toList,c.argTypes.toList with
   |[s,x],[t,t2]=>match ρ s,ρ x with|some s,some x=>Z0U P t t2 s x H|_,_=>none
   |_,_=>none
  | .builtin .cap=>match c.args.toList,c.argTypes.toList with
   |[x],[t]=>match ρ x,P.underlying t with
    |some .nslice,some (.slice _)=>some (.int .i64 (.ofNat 0),H)
    |_,_=>none
   |_,_=>none
  | .builtin .clear=>match c.args.toList,c.argTypes.toList with
   |[x],[t]=>match ρ x with
    |some x=>(match Zhd P t x H with|some H'=>some (.tuple [],H')|none=>none)
    |none=>none
   |_,_=>none
  | .builtin .unsafeSliceData=>match c.args.toList with
   |[x]=>match ρ x with
    |some (.slice b off _ (_+1) _)=>some (.ptr b off,H)
    |some .nslice=>some (.nptr,H)
    |_=>none
   |_=>none
  | .builtin .unsafeString=>match c.args.toList,c.argTypes.toList with
   |[x,y],[t,_]=>match ρ x,ρ y with
    |some p,some (.int .i64 (.ofNat m))=>ZaZ P t p m H
    |_,_=>none
   |_,_=>none
  | .builtin .copy=>match c.args.toList,c.argTypes.toList with
   |[s,x],[t,t2]=>match ρ s,ρ x with|some s,some x=>Zl1 P t s x H|_,_=>none
   |_,_=>none
  | .builtin .delete=>match c.args.toList,c.argTypes.toList with
   |[m,k],[t,_]=>match ρ m,ρ k with
    |some m,some k=>(match Z7D P t m k H with|some H'=>some (.tuple [],H')|none=>none)
    |_,_=>none
   |_,_=>none
  |_=>none
 |_=>none
def Zny(P:Program)(s:Sem Next)(W:World)(v:Value)(W':World):Prop:=s.run P W = .ok (.value v) W'\/(s.run P W = .ok .skip W'/\v=undef)
section eff
variable {P:Program} {sn:Z0l} {ι : Z0i} {H:Z00} {W:World}
theorem ZbU{t e:TypeId}{n:Nat}(ht:P.underlying t=some (.pointer e))(hn:tsz P e=some n)(hn0:n≠0)(a:Addr)(d:Nat)(w:World):(Op.equalIn (d+1) t (.pointer (some a)) (.pointer (some a))).run P w = .ok true w:=by
 have hsz:(sizeOf e).run P w = .ok n w:=by
  unfold tsz at hn
  split at hn<;>simp at hn
  rename_i i hi
  subst hn
  simp[sizeOf,typeInfo,hi]
 simp[Op.equalIn,run_underlying ht,hsz,hn0,sameAddr]
theorem ZbV{t:TypeId}{ms}(ht:P.underlying t=some (.interface ms))(d:Nat)(w:World):(Op.equalIn (d+1) t .nilIface .nilIface).run P w = .ok true w:=by
 simp[Op.equalIn,run_underlying ht]
theorem ZaB{t:TypeId}{ms}(ht:P.underlying t=some (.interface ms))(u:TypeId)(v:Value)(d:Nat)(w:World):(Op.equalIn (d+1) t (.iface u v) .nilIface).run P w = .ok false w:=by
 simp[Op.equalIn,run_underlying ht]
theorem ZaA{t:TypeId}{ms}(ht:P.underlying t=some (.interface ms))(u:TypeId)(v:Value)(d:Nat)(w:World):(Op.equalIn (d+1) t .nilIface (.iface u v)).run P w = .ok false w:=by
 simp[Op.equalIn,run_underlying ht]
theorem ZbW {t u : TypeId} {ms} {i : TypeInfo} {x y : Value} {b : Bool} (ht : P.underlying t = some (.interface ms)) (hi : P.info? u = some i) (hc : i.comparable = true) (d : Nat) (w : World) (h : (Op.equalIn d u x y).run P w = .ok b w) :
  (Op.equalIn (d+1) t (.iface u x) (.iface u y)).run P w = .ok b w:=by
 simp[Op.equalIn,run_underlying ht,typeInfo,hi,hc,h]
theorem ZaC{t u u':TypeId}{ms}{x y:Value}(ht:P.underlying t=some (.interface ms))(hn:u≠u')(d:Nat)(w:World):(Op.equalIn (d+1) t (.iface u x) (.iface u' y)).run P w = .ok false w:=by
 simp[Op.equalIn,run_underlying ht,hn]
theorem Zh4 {t : TypeId} {x y : Value} {ox oy : Operand} {w : World} {b : Bool} (hg : (eqGuard .eql t ox oy x y).run P w = .ok () w) (he : (Op.equalIn 10000 t x y).run P w = .ok b w)
  (h1:binOp .eql t x y=(do pure (.bool (<- Op.equal t x y)):Sem Value)):(do eqGuard .eql t ox oy x y;binOp .eql t x y:Sem Value).run P w = .ok (.bool b) w:=by
 have he':(Op.equal t x y).run P w = .ok b w:=he
 rw[Y01,hg];show (binOp .eql t x y).run P w=_
 rw[h1,Y01,he'];rfl
theorem Zh3 {t : TypeId} {x y : Value} {ox oy : Operand} {w : World} {b : Bool} (hg : (eqGuard .neq t ox oy x y).run P w = .ok () w) (he : (Op.equalIn 10000 t x y).run P w = .ok b w)
  (h1:binOp .neq t x y=(do pure (.bool (!(<- Op.equal t x y))):Sem Value)):(do eqGuard .neq t ox oy x y;binOp .neq t x y:Sem Value).run P w = .ok (.bool !b) w:=by
 have he':(Op.equal t x y).run P w = .ok b w:=he
 rw[Y01,hg];show (binOp .neq t x y).run P w=_
 rw[h1,Y01,he'];rfl
theorem Zeb {op : BinOp} {t : TypeId} {r : AV} (h : ZfA P op t = some r) (a : Addr) (ox oy : Operand) (w : World) :
  ∃z,(do eqGuard op t ox oy (.pointer (some a)) (.pointer (some a));binOp op t (.pointer (some a)) (.pointer (some a)):Sem Value).run P w = .ok z w/\VR sn ι r z:=by
 unfold ZfA at h
 split at h<;>try (simp at h;done)
 rename_i e ht
 split at h<;>try (simp at h;done)
 rename_i m hm
 have hg:(eqGuard op t ox oy (.pointer (some a)) (.pointer (some a))).run P w = .ok () w:=by cases op<;>rfl
 have heq:=ZbU ht hm (by omega) a 9999 w
 split at h<;>simp at h
 · subst h
   exact⟨_,Zh4 hg heq rfl,by simp[VR]⟩
 · subst h
   exact⟨_,Zh3 hg heq rfl,by simp[VR]⟩
theorem Z2U {op : BinOp} {t : TypeId} {r : AV} {b : Bool} (h : Z7b P op t b = some r) {x y : Value} {ox oy : Operand} {w : World} (hg : op = .eql \/ op = .neq -> (eqGuard op t ox oy x y).run P w = .ok () w)
  (he:∀ms,P.underlying t=some (.interface ms)->(Op.equalIn 10000 t x y).run P w = .ok b w) (h1:binOp .eql t x y=(do pure (.bool (<- Op.equal t x y)):Sem Value)) (h2:binOp .neq t x y=(do pure (.bool (!(<- Op.equal t x y))):Sem Value)) :
  ∃z,(do eqGuard op t ox oy x y;binOp op t x y:Sem Value).run P w = .ok z w/\VR sn ι r z:=by
 unfold Z7b at h
 split at h<;>try (simp at h;done)
 rename_i ms ht
 split at h<;>simp at h
 · subst h
   exact⟨_,Zh4 (hg (.inl rfl)) (he ms ht) h1,by simp[VR]⟩
 · subst h
   exact⟨_,Zh3 (hg (.inr rfl)) (he ms ht) h2,by simp[VR]⟩
theorem Zcl {op : BinOp} {t : TypeId} {x y u : AV} {ox oy : Operand} (h : Z43 P op t (isC ox || isC oy) x y = some u) {x' y' : Value} (hx : VR sn ι x x') (hy : VR sn ι y y') (w : World) :
  ∃z,(do eqGuard op t ox oy x' y';binOp op t x' y':Sem Value).run P w = .ok z w/\VR sn ι u z:=by
 unfold Z43 at h
 split at h
 · split at h<;>try (simp at h;done)
   rename_i hc
   simp only[VR]at hx hy
   subst hx;subst hy
   refine Z2U h (λhop=>?_) (λms ht=>ZbV ht 9999 w) rfl rfl
   rcases hop with rfl|rfl<;>cases ox<;>cases oy<;>first|(simp[isC]at hc;done)|rfl|simp[eqGuard]
 · simp only[VR]at hx hy
   obtain⟨z,rfl,_⟩:=hx;subst hy
   exact Z2U h (λhop=>by rcases hop with rfl|rfl<;>rfl) (λms ht=>ZaB ht _ _ 9999 w) rfl rfl
 · simp only[VR]at hx hy
   obtain⟨z,rfl,_⟩:=hy;subst hx
   exact Z2U h (λhop=>by rcases hop with rfl|rfl<;>rfl) (λms ht=>ZaA ht _ _ 9999 w) rfl rfl
 · simp only[VR]at hx hy
   obtain⟨z,rfl,hz⟩:=hx;obtain⟨z',rfl,hz'⟩:=hy
   unfold Zja at h
   split at h
   · rename_i he
     have he:=Y04 he;subst he
     split at h<;>try (simp at h;done)
     rename_i i hi
     split at h<;>try (simp at h;done)
     rename_i hcmp
     split at h<;>try (simp at h;done)
     rename_i b hb
     exact Z2U h (λhop=>by rcases hop with rfl|rfl<;>rfl) (λms ht=>ZbW ht hi hcmp 9999 w (Z3b 9999 _ _ _ _ hb _ _ hz hz' w)) rfl rfl
   · rename_i he
     exact Z2U h (λhop=>by rcases hop with rfl|rfl<;>rfl) (λms ht=>ZaC ht (λe=>he (by rw[e];exact Nat.beq_refl _)) 9999 w) rfl rfl
 · split at h<;>try (simp at h;done)
   rename_i b o b' o' hc
   simp only[Y05]at hc
   have e1:=Y04 hc.1;subst e1
   have e2:=Y04 hc.2;subst e2
   simp only[VR]at hx hy
   obtain⟨p,hp,rfl⟩:=hx
   obtain⟨p',hp',rfl⟩:=hy
   rw[hp]at hp';simp at hp';subst hp'
   exact Zeb h _ ox oy w
 ·exact Z8x h hx hy ox oy w
def snx(sn:Z0l)(g:Nat)(W':World):Z0l:=λa=>if a.block<g then sn a else W'.cell? a
theorem Stp.snap{W':World}(h:R sn ι H W)(e:Ext W W'):Stp sn ι H W (snx sn W.heap.size W') ι H W':=by
 have hr:=h.ext e
 have hle:Le sn (snx sn W.heap.size W') ι ι:=⟨λa v hv=>by
  unfold snx
  rw[if_pos (h.snap a v hv).1];exact hv,λ_ _ h=>h⟩
 refine⟨⟨hr.dom,hr.blk,λb o p hb ha hp=>Z0Q hle rfl (hr.obj b o p hb ha hp),hr.sep,?_,hr.shz⟩,hle,λ_ _ h=>.inl h,λc hc _=>e.old c hc,e.size,e.os,e.tape,e.output,?_,λb o hb=>⟨o,hb,rfl,rfl,id⟩⟩
 · intro a v hv
   unfold snx at hv
   split at hv
   ·exact hr.snap a v hv
   · rename_i hge
     refine⟨?_,hv,λb o p hb ha hp=>?_⟩
     · cases hq:W'.heap[a.block]? with
       |none=>unfold World.cell? at hv;rw[hq]at hv;simp at hv
       |some ob=>exact (Y0l.1 hq).1
     ·have:=h.blk b p hp;omega
 · intro a v hv
   unfold snx at hv
   split at hv
   ·exact .inl hv
   ·exact .inr (.inl (by omega))
theorem Ze6{fits:TypeId->Bool}:∀(d:Nat)(e:TypeId)(c c' off n:Nat),c<=c'->rowAt P fits d e c off n=true->rowAt P fits d e c' off n=true
 |0,e,c,c',off,n,hc,h=>by simp[rowAt]at h
 |d+1,e,c,c',off,n,hc,h=>by
  unfold rowAt at h⊢
  simp only at h⊢
  split at h
  ·cases h
  · rename_i hs
    rw[if_neg hs]
    simp only[Y0c,Y05,decide_eq_true_eq]at h⊢
    rcases h with ⟨⟨h1,h2⟩,h3⟩|⟨h1,h2⟩
    ·exact .inl ⟨⟨h1,by omega⟩,h3⟩
    ·exact .inr ⟨by omega,h2⟩
theorem Z7g:∀(d:Nat)(e:TypeId)(c c' off:Nat)(u:TypeId)(n:Nat),c<=c'->liesAt P d e c off u n=true->liesAt P d e c' off u n=true
 |0,e,c,c',off,u,n,hc,h=>by simp[liesAt]at h
 |d+1,e,c,c',off,u,n,hc,h=>by
  unfold liesAt at h⊢
  simp only[Y0c]at h⊢
  rcases h with h|h
  ·exact .inl (Ze6 _ _ _ _ _ _ hc h)
  · right
    split at h
    ·exact Z7g d e c c' off _ _ hc h
    ·cases h
theorem Z4v{g:Nat}{arr:Array Value}{ty:TypeId}{fr:Nat×Nat}(h:W.heap[g]? = some (.cells arr ty fr)):W.shape? g=some (ty,arr.size):=by
 simp[World.shape?,h]
theorem Zb7(hR:R sn ι H W){s d:TypeId}{b off:Nat}(h:Zhb P s d b off H=true){x':Value}(hx:VR sn ι (.ptr b off) x'):(convert s d x').run P W = .ok x' W:=by
 unfold Zhb at h
 split at h<;>try (cases h;done)
 rename_i o hb
 split at h<;>try (cases h;done)
 rename_i cs ty hal hbd
 simp only[VR]at hx
 obtain⟨p,hp,rfl⟩:=hx
 have hob:=hR.obj b o p hb hal hp
 rw[hbd]at hob
 simp only[OR]at hob
 obtain⟨arr,g1,g2,g3,g4⟩:=hob
 have hsh:=Z4v g1
 split at h
 · rename_i t hs hd
   split at h<;>try (cases h;done)
   rename_i m hm
   have hlt:off<cs.length:=by simpa[Y0i]using h
   unfold tsz at hm
   split at hm<;>simp at hm
   rename_i i hi
   exact Lib.run_to_unsafe W _ hs hd hi (by omega) hsh (by show p.sh+off<arr.size;omega)
 · rename_i u hs hd
   split at h<;>try (cases h;done)
   rename_i m hm
   simp only[Y05]at h
   obtain⟨h1,h2,h3,h4⟩:=h
   have hsz:=hR.shz b o p hb hp (Y04 h1)
   have hpos:0<P.cellsOf ty:=by simpa[Y0i]using h2
   have hle:P.cellsOf ty<=cs.length:=Y0q h3
   unfold tsz at hm
   split at hm<;>simp at hm
   rename_i i hi
   have hcount:1<=arr.size / P.cellsOf ty:=by
    rw[Nat.le_div_iff_mul_le hpos];omega
   refine Lib.run_from_unsafe W _ hs hd hi hsh ?_
   show liesAt P P.depth ty (arr.size / P.cellsOf ty) (p.sh+off) u 1=true
   rw[hsz,Y06]
   exact Z7g _ _ _ _ _ _ _ hcount h4
 ·cases h
theorem Z3s:∀{l:List AV}{bs:List UInt8},Z2i l=some bs->l.length=bs.length/\∀(i:Nat)(x:UInt8),bs[i]? = some x->l[i]? = some (.int .u8 x.toNat)
 |[],bs,h=>by simp[Z2i]at h;subst h;simp
 |v::l,bs,h=>by
  unfold Z2i at h
  split at h
  ·rename_i e;cases e
  · rename_i k l' e
    simp only[List.cons.injEq]at e
    obtain⟨rfl,rfl⟩:=e
    split at h<;>try (cases h;done)
    rename_i hk
    split at h<;>simp at h
    rename_i r hr
    subst h
    obtain⟨h1,h2⟩:=Z3s hr
    have hk':k<256:=by simpa[Y0i]using hk
    refine⟨by simp[h1],λi x hx=>?_⟩
    cases i with
    |zero =>
     simp at hx;subst hx
     simp only[List.getElem?_cons_zero]
     congr 1
     have:(UInt8.ofNat k).toNat=k:=by simp;omega
     rw[this];rfl
    |succ i=>simpa using h2 i x (by simpa using hx)
  ·cases h
theorem Zbr(a:Addr)(n:Nat):Turn W (W.freeze a n) a.block:=by
 unfold World.freeze
 split
 ·exact⟨λ_ _=>rfl,rfl,rfl,rfl,rfl⟩
 · refine⟨λc hc=>?_,by simp,rfl,rfl,rfl⟩
   simp only[Array.getElem?_modify]
   rw[if_neg (Ne.symm hc)]
theorem Zbu:∀{n:Nat}{l r:List AV},tk n l=some r->r=l.take n/\n<=l.length
 |0,l,r,h=>by cases l<;>simp[tk]at h<;>subst h<;>simp
 |n+1,[],r,h=>by simp[tk]at h
 |n+1,c::l,r,h=>by
  simp only[tk]at h
  split at h<;>simp at h
  rename_i r' hr
  subst h
  obtain⟨h1,h2⟩:=Zbu hr
  exact⟨by simp[h1],by simp;omega⟩
theorem Zcf (hR : R sn ι H W) {t t2 ty0 : TypeId} {p r : AV} {m : Nat} {H' : Z00} (h : ZaZ P t p m H = some (r, H')) {p' : Value} (hp : VR sn ι p p') :
  ∃v W',(Builtin.unsafeString_ #[t,t2] ty0 #[p',.int .i64 (Int.ofNat m)]).run P W = .ok v W'/\VR sn ι r v/\Stp sn ι H W sn ι H' W':=by
 unfold ZaZ at h
 split at h
 · have hz:(Int.ofNat 0)=0:=rfl
   split at h<;>simp at h
   · obtain⟨rfl,rfl⟩:=h
     simp only[VR]at hp;subst hp
     exact⟨_,W,Lib.run_unsafeString_none W t t2 ty0 none,Z9A rfl,Stp.refl hR⟩
   · obtain⟨rfl,rfl⟩:=h
     simp only[VR]at hp;obtain⟨q,_,rfl⟩:=hp
     exact⟨_,W,Lib.run_unsafeString_none W t t2 ty0 _,Z9A rfl,Stp.refl hR⟩
 · rename_i m
   split at h<;>try (simp at h;done)
   rename_i b
   split at h<;>try (simp at h;done)
   rename_i o hb
   split at h<;>try (simp at h;done)
   rename_i cs ty hal hbd
   split at h<;>try (simp at h;done)
   rename_i e ht
   split at h<;>try (simp at h;done)
   rename_i hc
   split at h<;>try (simp at h;done)
   rename_i l hl
   split at h<;>simp at h
   rename_i bs hbs
   obtain⟨rfl,rfl⟩:=h
   simp only[Y05]at hc
   obtain⟨⟨⟨c1,c2⟩,c3⟩,c4⟩:=hc
   have e1:=Y04 c1;subst e1
   simp only[VR]at hp
   obtain⟨q,hq,rfl⟩:=hp
   have hsz:=hR.shz b o q hb hq (Y04 c3)
   have hob:=hR.obj b o q hb hal hq
   rw[hbd]at hob
   simp only[OR]at hob
   obtain⟨arr,g1,g2,g3,g4⟩:=hob
   obtain⟨k1,k2⟩:=Zbu hl
   obtain⟨b1,b2⟩:=Z3s hbs
   have hlen:bs.length=m+1:=by rw[<- b1,k1];simp;omega
   have hrun:=Lib.run_unsafeString_row (P:=P) W t t2 ty0 e ht (Y04 c2) q.blk arr.size (Z4v g1) bs (λe=>by rw[e]at hlen;simp at hlen) (by omega) (by rw[hlen];exact Y0q c4) (λj x hx=>by
    have h1:=b2 j x hx
    have hj:j<m+1:=by rw[<- hlen];exact (Y09.1 hx).1
    have h2:cs[j]? = some (.int .u8 x.toNat):=by rw[k1,Y0m,if_pos hj]at h1;exact h1
    obtain⟨v,h3,h4⟩:=g4 j _ h2
    rw[hsz,Y06]at h3
    cases h4.int
    simp only[Z0I,Y06,World.cell?,g1]
    exact h3)
   rw[hlen]at hrun
   refine⟨.string ⟨bs.toArray⟩,_,?_,by simp only[VR];exact⟨⟨bs.toArray⟩,rfl,rfl⟩,Stp.lose hR hb hal hq (Zbr ⟨q.blk,0,none⟩ (m+1))⟩
   rw[hsz]
   exact hrun
theorem Z9l (hR : R sn ι H W) {t : TypeId} {x : AV} {lo hi : Option AV} {u : AV} (h : Z7z P t x lo hi H = some u) {x' : Value} (hx : VR sn ι x x') {lo' hi' : Option Value} (hlo : OVR sn ι lo lo') (hhi : OVR sn ι hi hi') :
  ∃z,(Instr.sliceAt t x' lo' hi' none).run P W = .ok z W/\VR sn ι u z:=by
 unfold Z7z at h
 split at h<;>try (simp at h;done)
 rename_i b off
 split at h<;>try (simp at h;done)
 rename_i n e ht
 split at h<;>try (simp at h;done)
 rename_i z hz
 split at h<;>try (simp at h;done)
 rename_i o hb
 split at h<;>try (simp at h;done)
 rename_i cs ty hal hbd
 split at h<;>try (simp at h;done)
 rename_i hle
 split at h<;>try (simp at h;done)
 rename_i k hk
 split at h<;>simp at h
 subst h;rename_i l hl
 obtain⟨p,hp,rfl⟩:=hx.ptr
 have hob:=hR.obj b o p hb hal hp
 rw[hbd]at hob
 simp only[OR]at hob
 obtain⟨arr,g1,g2,g3,g4⟩:=hob
 have hle:=Y0q hle
 obtain⟨h1,h2,h3⟩:=Z0T (P:=P) (isS:=false) hk hl (Y0d _) (Y0d _) hlo hhi W
 refine⟨.slice (some (if n=l then ⟨p.blk,p.sh+off,none⟩ else (⟨p.blk,p.sh+off,none⟩:Addr).add (l*z))) (k-l) (n-l),?_,?_⟩
 · have hs:(Instr.sureAddr (Value.pointer (some (⟨p.blk,p.sh+off,none⟩:Addr)))).run P W = .ok ⟨p.blk,p.sh+off,none⟩ W:=by simp[Instr.sureAddr]
   simp only[Instr.sliceAt,hs,Y01,run_underlying ht,Y02,h3,Z0D hz,Y03]
 · simp only[VR]
   have hm:(n-l)*z+l*z=n*z:=by rw[<- Nat.add_mul];congr 1;omega
   refine⟨p,_,n-l,hp,rfl,by omega,Y0d _,λhne=>?_⟩
   rw[if_neg (by omega),Z0I]
   exact⟨by rw[Nat.add_assoc],by omega⟩
theorem Zb8 (hR : R sn ι H W) {s d : TypeId} {x r : AV} (h : Zhc P s d x H = some r) {x' : Value} (hx : VR sn ι x x') :
  ∃v W' sn',(convert s d x').run P W = .ok v W'/\VR sn' ι r v/\Stp sn ι H W sn' ι H W':=by
 unfold Zhc at h
 split at h<;>try (simp at h;done)
 case h_2 b off =>
  split at h<;>simp at h
  rename_i hc
  subst h
  exact⟨x',W,sn,Zb7 hR hc hx,hx,Stp.refl hR⟩
 rename_i bs
 obtain⟨ba,rfl,hba⟩:=hx.str
 split at h<;>try (simp at h;done)
 rename_i e hs hd
 split at h<;>simp at h
 rename_i he
 subst h
 have hrun:=run_bytes_of_string W s d e ba hs hd he
 generalize hcap:grownCap W ba.size 0 e=cap at hrun
 generalize hrow:bytesRow ba cap=row at hrun
 have hext:Ext W (W.drew.alloc (.cells row e (row.size,row.size+1))):=by
  refine⟨λc hc=>?_,?_,rfl,rfl,rfl⟩
  · have h1:=Below.heap_alloc W.drew (.cells row e (row.size,row.size+1)) c hc
    rw[h1];rfl
  ·simp
 refine⟨_,_,_,hrun,?_,Stp.snap hR hext⟩
 have hlen:ba.size=bs.length:=by rw[<- hba];simp
 simp only[VR]
 refine .inr ⟨⟨W.heap.size,0,none⟩,cap,by rw[hlen],?_,by simp,?_,λ_=>rfl⟩
 ·rw[<- hcap,hlen.symm];exact grownCap_ge W ba.size 0 e
 · have key : ∀ (l : List UInt8) (k : Nat), (∀ (i : Nat) (c : UInt8), l[i]? = some c -> row[k + i]? = some (.int .u8 c.toNat)) -> MR (snx sn W.heap.size (W.drew.alloc (.cells row e (row.size, row.size + 1)))) (l.map fun b => .int .u8 b.toNat) W.heap.size k := by
    intro l
    induction l with
    |nil=>intro k _;simp[MR]
    |cons c l ih =>
     intro k hk
     simp only[Y0a,MR]
     refine⟨⟨.int .u8 c.toNat,?_,by simp[VR]⟩,ih (k+1) λi x hx=>by have:=hk (i+1) x (by simpa using hx);rwa [show k+(i+1)=k+1+i from by omega]at this⟩
     have h0:=hk 0 c rfl
     simp only[snx,if_neg (Nat.lt_irrefl _)]
     have hb:(W.drew.alloc (.cells row e (row.size,row.size+1))).heap[W.heap.size]? = some (.cells row e (row.size,row.size+1)):=heap_alloc_new W.drew _
     simp only[World.cell?,hb]
     simpa using h0
   refine key bs 0 λi c hc=>?_
   have hil:i<ba.data.size:=by obtain⟨h1,_⟩:=Y09.1 hc;rw[<- hba]at h1;simpa using h1
   rw[<- hrow,bytesRow,Y0w (by simpa using hil)]
   simp only[Y06,Array.getElem?_map]
   have:ba.data[i]? = some c:=by rw[<- hba]at hc;simpa using hc
   rw[this];rfl
theorem Zb6(hR:RO sn ι H W){s d:TypeId}{u r:AV}(hty:Z5y P s d=true)(h:ZdN u H=some r){x':Value}(hx:VR sn ι u x'):∃z,(convert s d x').run P W = .ok z W/\VR sn ι r z:=by
 unfold ZdN at h
 split at h<;>try (simp at h;done)
 rename_i b off len cap z
 split at h<;>try (simp at h;done)
 split at h<;>try (simp at h;done)
 rename_i o hb
 split at h<;>try (simp at h;done)
 rename_i cs ty hal hbd
 split at h<;>try (simp at h;done)
 rename_i l hl
 split at h<;>simp at h
 rename_i bs hbs
 subst h
 unfold Z5y at hty
 split at hty<;>try (simp at hty;done)
 rename_i e hs hd
 split at hty<;>try (simp at hty;done)
 rename_i he
 obtain⟨p,a,cap',hp,rfl,c1,c2,c3⟩:=hx.slice
 have hob:=hR.obj b o p hb hal hp
 rw[hbd]at hob
 simp only[OR]at hob
 obtain⟨arr,g1,g2,g3,g4⟩:=hob
 obtain⟨k1,k2⟩:=Z3J hl
 obtain⟨b1,b2⟩:=Z3s hbs
 have hlen:bs.length=len:=by rw[<- b1,k2,List.length_take];omega
 have hrun:=run_convert_bytes_back (P:=P) W s d e a cap' bs hs he hd (λj hj=>by
  have h1:=b2 j bs[j] (Y0b hj)
  have hj':j<len:=by omega
  have h2:cs[off+j]? = some (.int .u8 bs[j].toNat):=by rw[k2,Y0m,if_pos hj',List.getElem?_drop]at h1;exact h1
  obtain⟨v,h3,h4⟩:=g4 _ _ h2
  cases h4.int
  obtain⟨ha,_⟩:=c3 (by omega)
  subst ha
  simp only[Z0I,World.cell?,g1]
  rw[Nat.add_assoc];exact h3)
 rw[hlen]at hrun
 exact⟨_,hrun,by simp only[VR];exact⟨⟨bs.toArray⟩,rfl,rfl⟩⟩
theorem Z9m {t : TypeId} {x : AV} {lo : Option AV} {hi mx u : AV} (h : Zcg P t x lo hi mx = some u) {x' : Value} (hx : VR sn ι x x') {lo' : Option Value} {hi' mx' : Value} (hlo : OVR sn ι lo lo') (hhi : VR sn ι hi hi') (hmx : VR sn ι mx mx') (w : World) :
  ∃z,(Instr.sliceAt t x' lo' (some hi') (some mx')).run P w = .ok z w/\VR sn ι u z:=by
 unfold Zcg at h
 split at h<;>try (simp at h;done)
 rename_i b off len cap z
 split at h<;>try (simp at h;done)
 rename_i e ht
 split at h<;>try (simp at h;done)
 rename_i z' hz
 split at h<;>try (simp at h;done)
 rename_i hzz;subst hzz
 split at h<;>try (simp at h;done)
 rename_i m hm
 split at h<;>try (simp at h;done)
 rename_i k hk
 split at h<;>simp at h
 subst h;rename_i l hl
 obtain⟨p,a,cap',hp,rfl,hlc,hcc,hne⟩:=hx.slice
 rcases Z5r hm (x':=some mx') ⟨_,rfl,hmx⟩ with ⟨e1,_⟩|⟨km,im,e1,m0,m1,rfl⟩
 ·cases e1
 rcases Z5r hk (x':=some hi') ⟨_,rfl,hhi⟩ with ⟨e2,_⟩|⟨kh,ih,e2,h0,h1,rfl⟩
 ·cases e2
 cases e1;cases e2
 have hmc:im<=(cap':Int):=by omega
 have hb:(Instr.sliceBounds true len cap' lo' (some (.int kh ih)) (some (.int km im))).run P w = .ok (l,ih.toNat,im.toNat) w/\l<=ih.toNat:=by
  have hih:(ih:Int)<=(im.toNat:Int):=by omega
  rcases Z5r hl hlo with ⟨rfl,rfl⟩|⟨k',j,rfl,j0,j1,rfl⟩
  · refine⟨?_,by omega⟩
    simp[Instr.sliceBounds,Instr.sliceBound,asIntOf,m0,hmc,h0]
    omega
  · refine⟨?_,by omega⟩
    have hj:(j:Int)<=(ih.toNat:Int):=by omega
    simp only[Instr.sliceBounds,Instr.sliceBound,asIntOf,Y01,Y03,Y02,m0,hmc,h0,hih,j0,hj,and_self,if_true]
 obtain⟨h3,h4⟩:=hb
 refine⟨.slice (if im.toNat=l then some a else (some a).map (·.add (l*z'))) (ih.toNat-l) (im.toNat-l),?_,?_⟩
 ·simp only[Instr.sliceAt,Instr.slice,Y01,run_underlying ht,Y02,h3,Z0D hz,Y03]
 · simp only[VR]
   by_cases hcl:im.toNat=l
   ·exact⟨p,a,im.toNat-l,hp,by simp[hcl],by omega,by omega,by omega⟩
   · refine⟨p,a.add (l*z'),im.toNat-l,hp,by simp[hcl],by omega,by omega,λ_=>?_⟩
     obtain⟨rfl,hb⟩:=hne (by omega)
     refine⟨by rw[Z0I,Nat.add_assoc],?_⟩
     have h5:l*z'+(im.toNat-l)*z'=im.toNat*z':=by rw[<- Nat.add_mul];congr 1;omega
     have h6:im.toNat*z'<=cap'*z':=Nat.mul_le_mul_right _ (by omega)
     omega
theorem Z2B (hR : RO sn ι H W) {ρ : Operand -> Option AV} {ρ' : Operand -> Value} (hρ : ∀ x u, ρ x = some u -> VR sn ι u (ρ' x))
  {o:Oper} {r:AV} (h:Z0q P ρ H o=some r):∃v,(execOp ρ' o).run P W = .ok (.value v) W/\VR sn ι r v:=by
 unfold Z0q at h
 split at h
 · rename_i t x lo hi mx hop
   split at h<;>try (simp at h;done)
   rename_i u lo1 hi1 mx1 hu hlo hhi hmx
   obtain⟨z,h1,h2⟩:=Z9m h (hρ _ _ hu) (Z38 hρ _ _ hlo) (hρ _ _ hhi) (hρ _ _ hmx) W
   exact⟨z,by simp only[execOp,hop,Option.map_some,Y01,h1,Y02,Y03],h2⟩
 · rename_i op t x y yt hop
   split at h<;>try (simp at h;done)
   rename_i a b ha hb
   obtain⟨z,h1,h2⟩:=Zcl h (hρ _ _ ha) (hρ _ _ hb) W
   exact⟨z,by simp only[execOp,hop];rw[Y01,h1];rfl,h2⟩
 · rename_i t m k ok hop
   split at h<;>try (simp at h;done)
   rename_i a b ha hb
   obtain⟨z,h1,h2⟩:=Z9p hR h (hρ _ _ ha) (hρ _ _ hb)
   exact⟨z,by simp only[execOp,hop,Y01,h1,Y02,Y03],h2⟩
 · rename_i s d x hop
   split at h
   · rename_i hu
     split at h<;>try (simp at h;done)
     rename_i hty
     obtain⟨z,h1,h2⟩:=Zb6 hR hty h (hρ _ _ hu)
     exact⟨z,by simp only[execOp,hop,Y01,h1,Y02,Y03],h2⟩
   ·exact Z7x hR hρ h
 ·exact Z7x hR hρ h
theorem ZeL (hR : R sn ι H W) {ρ : Operand -> Option AV} {ρ' : Operand -> Value} (hρ : ∀ x u, ρ x = some u -> VR sn ι u (ρ' x))
  {o:Oper} {r:AV} {H':Z00} (h:Z7H P ρ H o=some (r,H')):∃v W' sn' ι',Zny P (execOp ρ' o) W v W'/\VR sn' ι' r v/\Stp sn ι H W sn' ι' H' W':=by
 have wrap : ∀ (s : Sem Value), execOp ρ' o = (do pure (.value (<- s)) : Sem Next) -> (∃ v W' ι', s.run P W = .ok v W' /\ VR sn ι' r v /\ Stp sn ι H W sn ι' H' W') ->
   ∃v W' sn' ι',Zny P (execOp ρ' o) W v W'/\VR sn' ι' r v/\Stp sn ι H W sn' ι' H' W':=by
  rintro s e ⟨v,W',ι',h1,h2,h3⟩
  exact⟨v,W',sn,ι',.inl (by rw[e];simp only[Y01,h1,Y02,Y03]),h2,h3⟩
 have wrapu : ∀ (s : Sem Unit), r = .tuple [] -> execOp ρ' o = (do s; pure .skip : Sem Next) -> (∃ W', s.run P W = .ok () W' /\ Stp sn ι H W sn ι H' W') ->
   ∃v W' sn' ι',Zny P (execOp ρ' o) W v W'/\VR sn' ι' r v/\Stp sn ι H W sn' ι' H' W':=by
  rintro s rfl e ⟨W',h1,h3⟩
  exact⟨undef,W',sn,ι,.inr ⟨by rw[e];simp only[Y01,h1,Y02,Y03],rfl⟩,Z4Y,h3⟩
 unfold Z7H at h
 cases hop:o.op with
 |alloc e=>simp only[hop]at h;exact wrap _ (by simp only[execOp,hop]) (Zbb hR h)
 |box e x =>
  simp only[hop]at h;split at h<;>try (simp at h;done)
  rename_i u hu
  exact wrap _ (by simp only[execOp,hop]) (ZeQ hR h (hρ _ _ hu))
 |buildSlice t len ps =>
  simp only[hop]at h;split at h<;>try (simp at h;done)
  rename_i us hus
  exact wrap (Instr.buildSlice t len (ps.map λ(i,x)=>(i,ρ' x))) (by simp only[execOp,hop]) (Z5Y hR h (by rw[Array.toList_map];exact Z2C hρ _ _ hus))
 |makeSlice t l c =>
  simp only[hop]at h;split at h<;>try (simp at h;done)
  rename_i a b ha hb
  exact wrap _ (by simp only[execOp,hop]) (Z6r hR h (hρ _ _ ha) (hρ _ _ hb))
 |makeMap t r' =>
  cases r' with
  |some x=>simp[hop]at h
  |none =>
   simp[hop]at h
   obtain⟨rfl,rfl⟩:=h
   refine wrap (Instr.makeMap t none) (by simp only[execOp,hop,Y0r]) ⟨.map (some W.heap.size),W.alloc (.map #[] 0),upd ι H.length ⟨W.heap.size,0,0⟩,?_,?_,?_⟩
   ·simp[Instr.makeMap,run_newObj_alloc]
   ·simp only[VR];exact⟨_,Z4Z _ _ _,rfl⟩
   ·exact Stp.alloc hR ⟨true,H.length,0,.map [] 0⟩ (.map #[] 0) 0 λ_=>⟨#[],heap_alloc_new W _,by simp[ER]⟩
 |store t a x =>
  simp only[hop]at h;split at h<;>try (simp at h;done)
  rename_i u v hu hv
  split at h<;>simp at h
  rename_i H1 hw
  obtain⟨rfl,rfl⟩:=h
  exact wrapu _ rfl (by simp only[execOp,hop]) (Zb0 hR hw (hρ _ _ hu) (hρ _ _ hv))
 |mapUpdate t m k x =>
  simp only[hop]at h;split at h<;>try (simp at h;done)
  rename_i u v w hu hv hw'
  split at h<;>simp at h
  rename_i H1 hw
  obtain⟨rfl,rfl⟩:=h
  exact wrapu _ rfl (by simp only[execOp,hop]) (Z5x hR hw (hρ _ _ hu) (hρ _ _ hv) (hρ _ _ hw'))
 |insert t m k x =>
  simp only[hop]at h;split at h<;>try (simp at h;done)
  rename_i u v w hu hv hw'
  split at h<;>simp at h
  rename_i H1 hw
  obtain⟨rfl,rfl⟩:=h
  exact wrapu _ rfl (by simp only[execOp,hop]) (Z5x hR hw (hρ _ _ hu) (hρ _ _ hv) (hρ _ _ hw'))
 |slice t x lo hi mx =>
  cases mx with
  |some y=>simp[hop]at h
  |none =>
   simp only[hop]at h;split at h<;>try (simp at h;done)
   rename_i u lo1 hi1 hu hlo hhi
   split at h<;>simp at h
   rename_i r' hr
   obtain⟨rfl,rfl⟩:=h
   obtain⟨v,h1,h2⟩:=Z9l hR hr (hρ _ _ hu) (Z38 hρ _ _ hlo) (Z38 hρ _ _ hhi)
   exact⟨v,W,sn,ι,.inl (by simp only[execOp,hop,Y0r,Y01,h1,Y02,Y03]),h2,Stp.refl hR⟩
 |convert s d x =>
  simp only[hop]at h;split at h<;>try (simp at h;done)
  rename_i u hu
  split at h<;>simp at h
  rename_i r' hr
  obtain⟨rfl,rfl⟩:=h
  obtain⟨v,W',sn',h1,h2,h3⟩:=Zb8 hR hr (hρ _ _ hu)
  exact⟨v,W',sn',ι,.inl (by simp only[execOp,hop,Y01,h1,Y02,Y03]),h2,h3⟩
 |call c =>
  simp only[hop]at h
  split at h<;>try (simp at h;done)
  · rename_i hc
    split at h<;>try (simp at h;done)
    rename_i s x t t2 hx ht
    split at h<;>try (simp at h;done)
    rename_i u v hu hv
    have hx':c.args = #[s,x]:=by apply Array.ext';simpa using hx
    have ht':c.argTypes = #[t,t2]:=by apply Array.ext';simpa using ht
    obtain⟨v',W',ι',h1,h2,h3⟩:=Z9t (ty:=o.type) hR h (hρ _ _ hu) (hρ _ _ hv)
    refine⟨v',W',sn,ι',.inl ?_,h2,h3⟩
    simp only[execOp,hop,resolve,hc,invoke,builtin,Y01,Y03,Y02,hx',ht',Y0e,Y0a,Y0f,h1]
  · rename_i hc
    split at h<;>try (simp at h;done)
    rename_i x t hx ht
    have hx':c.args = #[x]:=by apply Array.ext';simpa using hx
    have ht':c.argTypes = #[t]:=by apply Array.ext';simpa using ht
    split at h<;>simp at h
    rename_i hu htt
    obtain⟨rfl,rfl⟩:=h
    have he:=(hρ _ _ hu).nslice
    refine⟨.int .i64 0,W,sn,ι,.inl ?_,Z62 _ _,Stp.refl hR⟩
    simp[execOp,hop,resolve,hc,invoke,builtin,Builtin.cap_,hx',ht',he,run_underlying htt,goInt]
  · rename_i hc
    split at h<;>try (simp at h;done)
    rename_i x t hx ht
    have hx':c.args = #[x]:=by apply Array.ext';simpa using hx
    have ht':c.argTypes = #[t]:=by apply Array.ext';simpa using ht
    split at h<;>try (simp at h;done)
    rename_i u hu
    split at h<;>simp at h
    rename_i H1 hcl
    obtain⟨rfl,rfl⟩:=h
    obtain⟨W',h1,h2⟩:=Zb9 (ty:=o.type) hR hcl (hρ _ _ hu)
    refine⟨.tuple #[],W',sn,ι,.inl ?_,by simp[VR,LR],h2⟩
    simp only[execOp,hop,resolve,hc,invoke,builtin,Y01,Y03,Y02,hx',ht',Y0e,Y0a,Y0f,h1]
  · rename_i hc
    split at h<;>try (simp at h;done)
    rename_i x hx
    have hx':c.args = #[x]:=by apply Array.ext';simpa using hx
    split at h<;>simp at h
    · rename_i b off l cp z hu
      obtain⟨rfl,rfl⟩:=h
      obtain⟨p,a,cap',hp,he,_,hcc,hne⟩:=(hρ _ _ hu).slice
      obtain⟨rfl,_⟩:=hne (by omega)
      have hrun:=Lib.run_unsafeSliceData_row (P:=P) W c.argTypes o.type ⟨p.blk,p.sh+off,none⟩ l cap' (by omega)
      rw[<- he]at hrun
      refine⟨.pointer (some ⟨p.blk,p.sh+off,none⟩),W,sn,ι,.inl ?_,?_,Stp.refl hR⟩
      ·simp only[execOp,hop,resolve,hc,invoke,builtin,Y01,Y03,Y02,hx',Y0e,Y0a,Y0f,hrun]
      ·simp only[VR];exact⟨p,hp,rfl⟩
    · rename_i hu
      obtain⟨rfl,rfl⟩:=h
      have he:=(hρ _ _ hu)
      simp only[VR]at he
      have hrun:=Lib.run_unsafeSliceData_nil (P:=P) W c.argTypes o.type 0 0
      rw[<- he]at hrun
      refine⟨.pointer none,W,sn,ι,.inl ?_,?_,Stp.refl hR⟩
      ·simp only[execOp,hop,resolve,hc,invoke,builtin,Y01,Y03,Y02,hx',Y0e,Y0a,Y0f,hrun]
      ·simp only[VR]
  · rename_i hc
    split at h<;>try (simp at h;done)
    rename_i x y t t2 hx ht
    have hx':c.args = #[x,y]:=by apply Array.ext';simpa using hx
    have ht':c.argTypes = #[t,t2]:=by apply Array.ext';simpa using ht
    split at h<;>try (simp at h;done)
    rename_i p m hu hv
    obtain⟨v',W',h1,h2,h3⟩:=Zcf (t2:=t2) (ty0:=o.type) hR h (hρ _ _ hu)
    have he:=hρ _ _ hv
    simp only[VR]at he
    rw[<- he]at h1
    refine⟨v',W',sn,ι,.inl ?_,h2,h3⟩
    simp only[execOp,hop,resolve,hc,invoke,builtin,Y01,Y03,Y02,hx',ht',Y0e,Y0a,Y0f,h1]
  · rename_i hc
    split at h<;>try (simp at h;done)
    rename_i s x t t2 hx ht
    split at h<;>try (simp at h;done)
    rename_i u v hu hv
    have hx':c.args = #[s,x]:=by apply Array.ext';simpa using hx
    have ht':c.argTypes = #[t,t2]:=by apply Array.ext';simpa using ht
    obtain⟨v',W',h1,h2,h3⟩:=Zcj (t2:=t2) (ty:=o.type) hR h (hρ _ _ hu) (hρ _ _ hv)
    refine⟨v',W',sn,ι,.inl ?_,h2,h3⟩
    simp only[execOp,hop,resolve,hc,invoke,builtin,Y01,Y03,Y02,hx',ht',Y0e,Y0a,Y0f,h1]
  · rename_i hc
    split at h<;>try (simp at h;done)
    rename_i m k t t2 hx ht
    split at h<;>try (simp at h;done)
    rename_i u v hu hv
    split at h<;>simp at h
    rename_i H1 hw
    obtain⟨rfl,rfl⟩:=h
    have hx':c.args = #[m,k]:=by apply Array.ext';simpa using hx
    have ht':c.argTypes = #[t,t2]:=by apply Array.ext';simpa using ht
    obtain⟨W',h1,h2⟩:=Z9o (t2:=t2) (ty:=o.type) hR hw (hρ _ _ hu) (hρ _ _ hv)
    refine⟨.tuple #[],W',sn,ι,.inl ?_,by simp[VR,LR],h2⟩
    simp only[execOp,hop,resolve,hc,invoke,builtin,Y01,Y03,Y02,hx',ht',Y0e,Y0a,Y0f,h1]
 |_=>simp[hop]at h
end eff
def GlOK(gl:Z0w)(sn:Z0l):Prop:=∀g cs,gl g=some cs->MR sn cs g 0
abbrev Orc:=Nat->List AV->Z00->Option (AV×Z00)
def Fq(r:Option Nat):Fence:={ fn:=λ_=>True,depth:=none,alive:=false,round:=r }
def Zjx(P:Program)(l:Nat)(args:Array Value)(W:World)(Q:Ending->World->Prop):Prop :=
 ∃fn tmps asg bd,(Instr.yield l args).run P W = .ok (.round l fn tmps asg bd) W/\RoundIn (Fq none) 0 P l fn tmps asg bd W Q
def ZeR(l:Nat):Nat:=Nat.add l 1024
def Zhw(l:Nat):AV:=.tuple [.int .i64 (Int.ofNat l),.rs 1 1 []]
def CallsY(P:Program)(f:Nat)(args:Array Value)(W:World)(Q:Ending->World->Prop):Prop :=
 Calls P f args W Q\/∃l,f=ZeR l/\P.funcs[f]? = none/\Zjx P l args W Q
theorem CallsY.mono{P:Program}{f:Nat}{args:Array Value}{W:World}{Q Q':Ending->World->Prop}(h:CallsY P f args W Q)(hq:∀e w,Q e w->Q' e w):CallsY P f args W Q':=by
 rcases h with h|⟨l,h1,h2,fn,tmps,asg,bd,h3,h4⟩
 ·exact .inl (h.mono hq)
 ·exact .inr ⟨l,h1,h2,fn,tmps,asg,bd,h3,h4.mono hq⟩
theorem _root_.Go.Calls.monoY{P:Program}{f:Nat}{args:Array Value}{W:World}{Q Q':Ending->World->Prop}(h:Calls P f args W Q)(hq:∀e w,Q e w->Q' e w):CallsY P f args W Q':=.inl (h.mono hq)
theorem CallsY.calls{P:Program}{f:Nat}{fn:Func}{args:Array Value}{W:World}{Q:Ending->World->Prop}(h:CallsY P f args W Q)(hf:P.funcs[f]? = some fn):Calls P f args W Q:=by
 rcases h with h|⟨l,_,h2,_⟩
 ·exact h
 ·rw[hf]at h2;cases h2
theorem CallsY.yields{P:Program}{l:Nat}{args:Array Value}{W:World}{Q:Value->World->Prop}(h:CallsY P (ZeR l) args W λe W'=>∃v,e = .returned v/\Q v W')(hf:P.funcs[ZeR l]? = none):Zjx P l args W λe W'=>∃v,e = .returned v/\Q v W':=by
 rcases h with h|⟨l',h1,h2,h3⟩
 · exfalso
   obtain⟨e,w',fr,⟨v,rfl,_⟩,_,hfn,hl⟩:=h []
   obtain⟨_,_,_,fn,hfn',_⟩:=hl
   rw[hfn]at hfn'
   rw[hf]at hfn';cases hfn'
 · have:l'=l:=by unfold ZeR at h1;have:=Nat.add_right_cancel (show l+1024=l'+1024 from h1);omega
   subst this;exact h3
def OrcSound(P:Program)(gl:Z0w)(orc:Orc):Prop :=
 ∀f args H r H',orc f args H=some (r,H')->∀sn ι W (cargs:List Value),GlOK gl sn->R sn ι H W->LR sn ι args cargs ->
  CallsY P f cargs.toArray W λe W'=>∃v sn' ι',e = .returned v/\VR sn' ι' r v/\Stp sn ι H W sn' ι' H' W'
def PanR(X:AV->Prop)(sn:Z0l)(ι : Z0i)(H:Z00)(W:World)(ch:List PanicEntry)(W':World):Prop :=
 ∃u v,X u/\ch=[{ v:=v,recovered:=false }]/\VR (λ_=>none) noI u v/\(∀c,c<W.heap.size->(∀(b:Nat)(o:AObj) p,H[b]? = some o->o.alive=true -> ι b=some p->p.blk≠c)->W'.heap[c]? = W.heap[c]?) /\
  W.heap.size<=W'.heap.size/\W'.os=W.os/\W'.tape=W.tape/\W'.output=W.output
theorem PanR.back{X:AV->Prop}{sn sn1:Z0l}{ι ι1:Z0i}{H H1:Z00}{W W1 W':World}{ch:List PanicEntry}(hR:R sn ι H W)(h:Stp sn ι H W sn1 ι1 H1 W1)(p:PanR X sn1 ι1 H1 W1 ch W'):PanR X sn ι H W ch W':=by
 obtain⟨u,v,h1,h2,h3,h4,h5,h6,h7,h8⟩:=p
 refine⟨u,v,h1,h2,h3,λc hc hno=>?_,Nat.le_trans h.size h5,h6.trans h.os,h7.trans h.tape,h8.trans h.output⟩
 rw[h4 c (Y0s hc h.size) λb o p hb ha hp e=>?_,h.frame c hc hno]
 rcases h.fresh b p hp with g|g|⟨b0,o0,p0,g1,g2,g3,g4⟩
 · obtain⟨o0,g1⟩:∃o0,H[b]? = some o0:=⟨_,Y0b ((hR.dom b).2 ⟨p,g⟩)⟩
   obtain⟨o',k1,_,_,k2⟩:=h.evo b o0 g1
   rw[hb]at k1;cases k1
   exact hno b o0 p g1 (k2 ha) g e
 ·omega
 ·exact hno b0 o0 p0 g1 g2 g3 (g4.trans e)
def OrcSoundX(X:AV->Prop)(P:Program)(gl:Z0w)(orc:Orc):Prop :=
 ∀f args H r H',orc f args H=some (r,H')->∀sn ι W (cargs:List Value),GlOK gl sn->R sn ι H W->LR sn ι args cargs ->
  CallsY P f cargs.toArray W λe W'=>(∃v sn' ι',e = .returned v/\VR sn' ι' r v/\Stp sn ι H W sn' ι' H' W')\/((∃fn,P.funcs[f]? = some fn)/\∃ch,e = .panicked ch/\PanR X sn ι H W ch W')
theorem OrcSound.x{X:AV->Prop}{P:Program}{gl:Z0w}{orc:Orc}(h:OrcSound P gl orc):OrcSoundX X P gl orc:=λf args H r H' e sn ι W cargs hg hR ha =>
 (h f args H r H' e sn ι W cargs hg hR ha).mono λ_ _ h=>.inl h
def callee(ρ : Operand->Option AV)(c:Call):Option (Nat×List AV) :=
 match c.callee with
 | .value f=>match ρ f,Z40 ρ c.args.toList with
  |some (.func (.func g) first captured),some args=>some (g,first++args++captured)
  |some (.func (.yield l) [] []),some args=>some (ZeR l,Zhw l::args)
  |_,_=>none
 |_=>none
theorem Z21 {ρ : Operand -> Option AV} {c : Call} {g : Nat} {args : List AV} (h : callee ρ c = some (g, args)) : ∃ f, c.callee = .value f /\
  ((∃ first captured args', ρ f = some (.func (.func g) first captured) /\ Z40 ρ c.args.toList = some args' /\ args = first ++ args' ++ captured) \/
    ∃l args',ρ f=some (.func (.yield l) [] [])/\Z40 ρ c.args.toList=some args'/\g=ZeR l/\args=Zhw l::args'):=by
 unfold callee at h
 split at h<;>try (simp at h;done)
 rename_i f hc
 split at h<;>try (simp at h;done)
 · rename_i g' first captured args' hf hargs
   simp only[Option.some.injEq,Prod.mk.injEq]at h
   obtain⟨rfl,rfl⟩:=h
   exact⟨f,hc,.inl ⟨_,_,_,hf,hargs,rfl⟩⟩
 · rename_i l args' hf hargs
   simp only[Option.some.injEq,Prod.mk.injEq]at h
   obtain⟨rfl,rfl⟩:=h
   exact⟨f,hc,.inr ⟨_,_,hf,hargs,rfl,rfl⟩⟩
def Z0E(P:Program)(g:Nat):Bool:=match P.funcs[g]? with|some fn=>fn.body.isSome|none=>false
structure NoNum (P:Program):Prop where
 num:∀(g:Nat)(fn:Func),P.funcs[g]? = some fn->(fn.name == "runtime.NumGoroutine")=false
 few:P.funcs.size<=1024
theorem NoNum.key{P:Program}(h:NoNum P)(l:Nat):P.funcs[ZeR l]? = none:=by
 rw[Array.getElem?_eq_none_iff];have:=h.few;unfold ZeR;show P.funcs.size<=l+1024;omega
theorem NoNum.noBody{P:Program}(h:NoNum P)(l:Nat):Z0E P (ZeR l)=false:=by unfold Z0E;rw[h.key]
def ZbS(P:Program)(g:Nat)(args:List AV):Option AV :=
 match P.funcs[g]? with
 |some fn=>if fn.body.isNone=true/\fn.name = "internal/abi.NoEscape" /\ fn.origin = "" then (match args with|[x]=>some x|_=>none) else none
 |none=>none
def ixB(c:UInt8):List UInt8->Nat->Int
 |[],_=>-1
 |b::l,i=>bif Y00 b.toNat c.toNat then Int.ofNat i else ixB c l (Nat.add i 1)
def ZbR(P:Program)(g:Nat)(args:List AV):Option AV :=
 match P.funcs[g]? with
 | some fn => if fn.body.isNone = true /\ fn.name = "internal/bytealg.IndexByteString" /\ fn.origin = "" then
   (match args with|[.str s,.int .u8 (.ofNat m)]=>some (.int .i64 (ixB (UInt8.ofNat m) s 0))|_=>none)
  else if fn.body.isNone=true/\fn.name = "internal/bytealg.CountString" /\ fn.origin = "" then
   (match args with|[.str s,.int .u8 (.ofNat m)]=>some (.int .i64 (s.count (UInt8.ofNat m):Nat))|_=>none)
  else none
 |none=>none
def Zaz(P:Program)(g:Nat):Option TypeId :=
 match P.funcs[g]? with
 |some fn=>if fn.body.isNone=true/\fn.name = "internal/bytealg.MakeNoZero" /\ fn.origin = "" then
  (match fn.resultTypes.toList with
    |t::_=>(match P.underlying t with|some (.slice e)=>some e|_=>none)
    |[]=>none) else none
 |none=>none
def yl(orc:Orc)(H:Z00)(g:Nat):List AV->Option (AV×Z00)
 | .tuple [.int .i64 (.ofNat l),.rs 1 1 []]::args=>if g=ZeR l then orc g args H else none
 |_=>none
theorem Zjz{orc:Orc}{H:Z00}{g:Nat}{args:List AV}{x:AV×Z00}(h:yl orc H g args=some x):∃l args',args=Zhw l::args'/\g=ZeR l/\orc g args' H=some x:=by
 unfold yl at h
 split at h
 · rename_i l args'
   split at h
   ·rename_i e;exact⟨l,args',rfl,e,h⟩
   ·cases h
 ·cases h
theorem ZdU{sn:Z0l}{ι : Z0i}{l:Nat}{args:List AV}{vs:List Value}(h:LR sn ι (Zhw l::args) vs):False:=by
 simp only[LR]at h
 obtain⟨d,ds,_,h1,_⟩:=h
 obtain⟨e,_,h2⟩:=VR.tuple h1
 simp only[LR]at h2
 obtain⟨_,_,_,_,d2,ds2,_,h3,_⟩:=h2
 rcases h3.rs with ⟨h4,_⟩|⟨_,_,_,_,h4,_⟩
 ·cases h4
 ·simp at h4
def Z02(P:Program)(orc:Orc)(H:Z00)(g:Nat)(args:List AV):Option (AV×Z00) :=
 if Z0E P g then orc g args H else match ZbS P g args with
  |some x=>some (x,H)
  |none=>match ZbR P g args with
   |some x=>some (x,H)
   |none=>match Zaz P g,args with
    |some e,[.int .i64 (.ofNat m)]=>if m<=281474976710656 then some (.slice H.length 0 m m 1,H++[⟨true,H.length,0,.cells [] e⟩]) else none
    |_,_=>yl orc H g args
section call
variable {P:Program} {sn:Z0l} {ι : Z0i} {H:Z00} {W:World}
theorem Zay{fn:Func}(h1:fn.name = "internal/abi.NoEscape") (h2:fn.origin = ""):Extern.findNext fn=none/\Extern.find fn=some Extern.AbiNoEscape.same:=by
 constructor
 ·unfold Extern.findNext;simp only[h1,h2];rfl
 ·unfold Extern.find;simp only[h1,h2];rfl
theorem Z95{fn:Func}(h1:fn.name = "internal/bytealg.IndexByteString") (h2:fn.origin = ""):Extern.findNext fn=none/\Extern.find fn=some Extern.BytealgIndexByte.indexByte:=by
 constructor
 ·unfold Extern.findNext;simp only[h1,h2];rfl
 ·unfold Extern.find;simp only[h1,h2];rfl
theorem Z7t{fn:Func}(h1:fn.name = "internal/bytealg.CountString") (h2:fn.origin = ""):Extern.findNext fn=none/\Extern.find fn=some Extern.BytealgCount.count:=by
 constructor
 ·unfold Extern.findNext;simp only[h1,h2];rfl
 ·unfold Extern.find;simp only[h1,h2];rfl
theorem Zdb (s : ByteArray) (c : UInt8) : ∀ (l : List UInt8) (k : Nat), (∀ (j : Nat) (h : j < l.length), s[k + j]! = l[j]) ->
  (match (List.range' k l.length).find? (λi=>s[i]! == c) with|some i=>(i:Int)|none=>-1)=ixB c l k
 |[],k,h=>by simp[ixB]
 |b::l,k,h=>by
  have h0:s[k]! = b:=h 0 (by simp)
  have ih:=Zdb s c l (k+1) λj hj=>by have:=h (j+1) (by simpa using hj);rw[show k+1+j=k+(j+1) from by omega];simpa using this
  simp only[List.length_cons,List.range'_succ,List.find?_cons,h0,ixB]
  by_cases e:b=c
  ·subst e;simp
  · have e1:(b==c)=false:=by simpa using e
    have e2:Y00 b.toNat c.toNat=false:=by
     cases q:Y00 b.toNat c.toNat with
     |false=>rfl
     |true=>exact absurd (UInt8.toNat.inj (Y04 q)) e
    simp only[e1,e2,cond_false]
    exact ih
theorem Zau(s:ByteArray)(c:UInt8):firstIdx s c=ixB c s.data.toList 0:=by
 have hsz:s.data.toList.length=s.size:=by cases s;rfl
 have:=Zdb s c s.data.toList 0 λj hj=>by
  rw[Y06,getElem!_pos s j (by omega)];rfl
 rw[<- this,hsz,<- List.range_eq_range'];rfl
theorem Z7M{fn:Func}(h1:fn.name = "internal/bytealg.MakeNoZero") (h2:fn.origin = ""):Extern.findNext fn=none/\Extern.find fn=some (Extern.BytealgMakeNoZero.makeNoZero fn.params fn.resultTypes):=by
 constructor
 ·unfold Extern.findNext;simp only[h1,h2];rfl
 ·unfold Extern.find;simp only[h1,h2];rfl
theorem ZaS (hn : NoNum P) {ρ : Operand -> Option AV} {ρ' : Operand -> Value} (hρ : ∀ x u, ρ x = some u -> VR sn ι u (ρ' x)) {o : Oper} {c : Call} (ho : o.op = .call c) {g : Nat} {args : List AV} (h : callee ρ c = some (g, args)) (hb : Z0E P g = true) (w : World) :
  ∃cargs:List Value,LR sn ι args cargs/\(execOp ρ' o).run P w = .ok (.enter g cargs.toArray) w:=by
 obtain⟨f,hc,⟨first,captured,args',hf,hargs,rfl⟩|⟨l,args',hf,hargs,rfl,rfl⟩⟩:=Z21 h
 case inr=>rw[hn.noBody]at hb;cases hb
 obtain⟨f',c',hfv,h1,h2⟩:=(hρ _ _ hf).func
 have h3:=Z0F hρ _ _ hargs
 have hlr:=(h1.append h3).append h2
 refine⟨_,hlr,?_⟩
 unfold Z0E at hb
 cases hfn:P.funcs[g]? with
 |none=>simp[hfn]at hb
 |some fn =>
  simp only[hfn]at hb
  have hbn:fn.body.isNone=false:=by cases hfb:fn.body with|none=>simp[hfb]at hb|some _=>rfl
  simp only[execOp,ho,resolve,hc,Deferred.ofValue,hfv,Y01,Y03,Y02,invoke,callFunc,run_program,hfn,hn.num _ fn hfn,hbn,Y0n,if_false]
  congr 2
  apply Array.ext';simp
theorem ZeF (hn : NoNum P) {ρ : Operand -> Option AV} {ρ' : Operand -> Value} (hρ : ∀ x u, ρ x = some u -> VR sn ι u (ρ' x)) {o : Oper} {c : Call} (ho : o.op = .call c) {g : Nat} {args : List AV} (h : callee ρ c = some (g, args)) {x : AV} (hx : ZbS P g args = some x) (w : World) :
  ∃v,VR sn ι x v/\(execOp ρ' o).run P w = .ok (.value v) w:=by
 obtain⟨f,hc,⟨first,captured,args',hf,hargs,rfl⟩|⟨l,args',hf,hargs,rfl,rfl⟩⟩:=Z21 h
 case inr=>simp[ZbS,hn.key]at hx
 obtain⟨f',c',hfv,h1,h2⟩:=(hρ _ _ hf).func
 have h3:=Z0F hρ _ _ hargs
 have hlr:=(h1.append h3).append h2
 unfold ZbS at hx
 split at hx<;>try (simp at hx;done)
 rename_i fn hfn
 split at hx<;>try (simp at hx;done)
 rename_i hcond
 obtain⟨hb,hname,horig⟩:=hcond
 split at hx<;>simp at hx
 rename_i y hy
 subst hx
 rw[hy]at hlr
 simp only[LR]at hlr
 obtain⟨d,ds,hd,hv,rfl⟩:=hlr
 obtain⟨e1,e2⟩:=Zay hname horig
 refine⟨d,hv,?_⟩
 have harr:f'++(c.args.map ρ')++c' = #[d]:=by apply Array.ext';simpa using hd
 simp only[execOp,ho,resolve,hc,Deferred.ofValue,hfv,Y01,Y03,Y02,invoke,callFunc,run_program,hfn,hn.num _ fn hfn,hb,Y0n,if_false,if_true,mark,e1,e2]
 simp only[harr]
 rfl
theorem ZgV (hn : NoNum P) {ρ : Operand -> Option AV} {ρ' : Operand -> Value} (hρ : ∀ x u, ρ x = some u -> VR sn ι u (ρ' x)) {o : Oper} {c : Call} (ho : o.op = .call c) {g : Nat} {args : List AV} (h : callee ρ c = some (g, args)) {x : AV} (hx : ZbR P g args = some x) (w : World) :
  ∃v,VR sn ι x v/\(execOp ρ' o).run P w = .ok (.value v) w:=by
 obtain⟨f,hc,⟨first,captured,args',hf,hargs,rfl⟩|⟨l,args',hf,hargs,rfl,rfl⟩⟩:=Z21 h
 case inr=>simp[ZbR,hn.key]at hx
 obtain⟨f',c',hfv,h1,h2⟩:=(hρ _ _ hf).func
 have h3:=Z0F hρ _ _ hargs
 have hlr:=(h1.append h3).append h2
 unfold ZbR at hx
 split at hx<;>try (simp at hx;done)
 rename_i fn hfn
 split at hx
 · rename_i hcond
   obtain⟨hb,hname,horig⟩:=hcond
   split at hx<;>simp at hx
   rename_i s m hy
   subst hx
   rw[hy]at hlr
   simp only[LR]at hlr
   obtain⟨d,ds,hd,hv,d2,ds2,rfl,hv2,rfl⟩:=hlr
   obtain⟨ba,rfl,rfl⟩:=hv.str
   simp only[VR]at hv2
   subst hv2
   obtain⟨e1,e2⟩:=Z95 hname horig
   have harr:f'++(c.args.map ρ')++c' = #[.string ba,.int .u8 (Int.ofNat m)]:=by apply Array.ext';simpa using hd
   refine⟨.int .i64 (firstIdx ba (UInt8.ofNat m)),by rw[Zau];exact Z62 _ _,?_⟩
   simp only[execOp,ho,resolve,hc,Deferred.ofValue,hfv,Y01,Y03,Y02,invoke]
   rw[harr,run_callFunc_extern hfn (hn.num _ fn hfn) hb e1 e2,run_indexByte_string]
   rfl
 split at hx<;>try (simp at hx;done)
 rename_i hcond
 obtain⟨hb,hname,horig⟩:=hcond
 split at hx<;>simp at hx
 rename_i s m hy
 subst hx
 rw[hy]at hlr
 simp only[LR]at hlr
 obtain⟨d,ds,hd,hv,d2,ds2,rfl,hv2,rfl⟩:=hlr
 obtain⟨ba,rfl,rfl⟩:=hv.str
 simp only[VR]at hv2
 subst hv2
 obtain⟨e1,e2⟩:=Z7t hname horig
 have harr:f'++(c.args.map ρ')++c' = #[.string ba,.int .u8 (Int.ofNat m)]:=by apply Array.ext';simpa using hd
 refine⟨.int .i64 (Lib.countByte ba.data.toList (Int.ofNat m).toNat.toUInt8:Nat),Z62 _ _,?_⟩
 simp only[execOp,ho,resolve,hc,Deferred.ofValue,hfv,Y01,Y03,Y02,invoke]
 rw[harr,run_callFunc_extern hfn (hn.num _ fn hfn) hb e1 e2,Lib.run_countString]
 rfl
theorem ZgU (hR : R sn ι H W) (hn : NoNum P) {ρ : Operand -> Option AV} {ρ' : Operand -> Value} (hρ : ∀ x u, ρ x = some u -> VR sn ι u (ρ' x)) {o : Oper} {c : Call} (ho : o.op = .call c) {g m : Nat} (h : callee ρ c = some (g, [.int .i64 (.ofNat m)])) {e : TypeId} (hx : Zaz P g = some e) (hm : m <= 281474976710656) :
  ∃v W' ι',VR sn ι' (.slice H.length 0 m m 1) v/\(execOp ρ' o).run P W = .ok (.value v) W'/\Stp sn ι H W sn ι' (H++[⟨true,H.length,0,.cells [] e⟩]) W':=by
 obtain⟨f,hc,⟨first,captured,args',hf,hargs,hy⟩|⟨l,args',hf,hargs,rfl,hy⟩⟩:=Z21 h
 case inr=>simp[Zaz,hn.key]at hx
 obtain⟨f',c',hfv,h1,h2⟩:=(hρ _ _ hf).func
 have h3:=Z0F hρ _ _ hargs
 have hlr:=(h1.append h3).append h2
 unfold Zaz at hx
 split at hx<;>try (simp at hx;done)
 rename_i fn hfn
 split at hx<;>try (simp at hx;done)
 rename_i hcond
 obtain⟨hb,hname,horig⟩:=hcond
 split at hx<;>try (simp at hx;done)
 rename_i t ts hts
 split at hx<;>simp at hx
 rename_i e' ht
 subst hx
 rw[<- hy]at hlr
 simp only[LR]at hlr
 obtain⟨d,ds,hd,hv,rfl⟩:=hlr
 simp only[VR]at hv
 subst hv
 obtain⟨e1,e2⟩:=Z7M hname horig
 have harr:f'++(c.args.map ρ')++c' = #[.int .i64 (.ofNat m)]:=by apply Array.ext';simpa using hd
 have hres:fn.resultTypes=⟨t::ts⟩:=by apply Array.ext';exact hts
 obtain⟨cs,hrun,hle,_⟩:=Lib.run_makeNoZero (P:=P) W fn.params t e' ht m hm
 have hrun':(Extern.BytealgMakeNoZero.makeNoZero fn.params fn.resultTypes #[.int .i64 (.ofNat m)]).run P W = .ok (.slice (some ⟨W.heap.size,0,none⟩) m cs.size) (W.drew.drew.alloc (.cells cs e')):=by
  rw[hres]
  exact hrun
 refine⟨.slice (some ⟨W.heap.size,0,none⟩) m cs.size,W.drew.drew.alloc (.cells cs e'),upd ι H.length ⟨W.heap.size,0,cs.size⟩,?_,?_,?_⟩
 · simp only[VR]
   exact⟨_,_,_,Z4Z _ _ _,rfl,Y0d _,hle,λ_=>⟨rfl,by simp⟩⟩
 · simp only[execOp,ho,resolve,hc,Deferred.ofValue,hfv,Y01,Y03,Y02,invoke]
   rw[harr,run_callFunc_extern hfn (hn.num _ fn hfn) hb e1 e2,hrun']
   rfl
 · refine Stp.trans hR (Stp.ext hR (Ext.drew W)) ?_
   have hR1:=hR.ext (Ext.drew W)
   refine Stp.trans hR1 (Stp.ext hR1 (Ext.drew W.drew)) ?_
   have hR2:=hR1.ext (Ext.drew W.drew)
   refine Stp.alloc hR2 ⟨true,H.length,0,.cells [] e'⟩ _ _ λ_=>?_
   exact or_cells (heap_alloc_new _ _) (l:=[]) (l':=cs.toList) (by simp) (by simp[LR])
end call
def aop(P:Program)(orc:Orc)(ρ : Operand->Option AV)(o:Oper)(H:Z00):Option (AV×Z00) :=
 match (match o.op with | .call c=>callee ρ c|_=>none) with
 |some (g,args)=>Z02 P orc H g args
 |none=>match Z0q P ρ H o with
  |some r=>some (r,H)
  |none=>Z7H P ρ H o
theorem ZlB(r:Option Nat)(n:Nat):(Fq r).room n:=λ_ h=>by cases h
theorem ZaR{P:Program}{r:Option Nat}{n:Nat}{f:Nat}{args:Array Value}{w:World}{Q:Ending->World->Prop}:CallsIn (Fq r) n P f args w Q ↔ Calls P f args w Q:=callsIn_wide
theorem Zfu{P:Program}{r:Option Nat}{n l f:Nat}{tmps:Array Value}{asg bd:Code}{w:World}{Q:Ending->World->Prop}(h:RoundIn (Fq none) 0 P l f tmps asg bd w Q):RoundIn (Fq r) n P l f tmps asg bd w Q :=
 ⟨trivial,λc cs _=>h.2 c cs (ZlB _ _)⟩
theorem Zhr{P:Program}{o:Oper}{a:Act}{w:World}{K:Act->World->Prop}{Q:Exit->Act->World->Prop}{r:Option Nat}(hd:∀c,o.op ≠ .defer c)(h:o.wp P a w K Q):o.wpIn (Fq r) 0 P a w K Q:=by
 refine⟨λf _=>trivial,?_⟩
 rw[Oper.semAt_eq _ _ _ hd]
 unfold Oper.wp at h
 generalize (execOp a.eval o).run P w=x at h⊢
 cases x with
 |ok x w' =>
  cases x with
  |enter f args=>exact⟨λh=>(by cases h),ZaR.2 h⟩
  |row rw args =>
   refine⟨λh=>(by cases h),λc cs _=>?_⟩
   obtain⟨v,w',h1,h2⟩:=h c cs
   exact⟨v,w',h1,stepsIn_wide.2 h2⟩
  |round l f tmps asg bd=>exact h.elim
  |_=>exact h
 |halt x w'=>cases x<;>exact h
theorem Z6M{P:Program}{ρ : Operand->Option AV}{H:Z00}{o:Oper}{r:AV}(h:Z0q P ρ H o=some r):∀c,o.op ≠ .defer c:=by
 intro c e;simp[Z0q,Z2q,e]at h
theorem ZkX{P:Program}{ρ : Operand->Option AV}{H:Z00}{o:Oper}{r:AV×Z00}(h:Z7H P ρ H o=some r):∀c,o.op ≠ .defer c:=by
 intro c e;simp[Z7H,e]at h
theorem Z8s {X : AV -> Prop} {P : Program} {gl : Z0w} {orc : Orc} {sn : Z0l} {ι : Z0i} {H : Z00} {W : World} {a : Act} {rd : Option Nat} (hn : NoNum P) (hO : OrcSoundX X P gl orc) (hg : GlOK gl sn) (hR : R sn ι H W) {ρ : Operand -> Option AV} (hρ : ∀ x u, ρ x = some u -> VR sn ι u (a.eval x)) {o : Oper} {r : AV} {H' : Z00} (h : aop P orc ρ o H = some (r, H'))
  {K:Act->World->Prop} {Q:Exit->Act->World->Prop} (hK:∀v W' sn' ι',VR sn' ι' r v->Stp sn ι H W sn' ι' H' W'->K (a.put o.dst v) W') (hP:∀ch W',PanR X sn ι H W ch W'->Q (.panic ch) a W'):o.wpIn (Fq rd) 0 P a W K Q:=by
 unfold aop at h
 split at h
 · rename_i g args hc
   split at hc<;>try (simp at hc;done)
   rename_i c hop
   have hd:∀c,o.op ≠ .defer c:=by rw[hop];intro _ e;cases e
   unfold Z02 at h
   split at h
   case isFalse =>
    split at h
    · rename_i x hx
      simp at h
      obtain⟨rfl,rfl⟩:=h
      obtain⟨v,h1,h2⟩:=ZeF (w:=W) hn hρ hop hc hx
      refine Zhr hd ?_
      unfold Oper.wp
      rw[h2,Oper.upon_value]
      exact hK v W sn ι h1 (Stp.refl hR)
    split at h
    · rename_i x hx
      simp at h
      obtain⟨rfl,rfl⟩:=h
      obtain⟨v,h1,h2⟩:=ZgV (w:=W) hn hρ hop hc hx
      refine Zhr hd ?_
      unfold Oper.wp
      rw[h2,Oper.upon_value]
      exact hK v W sn ι h1 (Stp.refl hR)
    · split at h
      · rename_i e m he _ _
        split at h<;>simp at h
        rename_i hm
        obtain⟨rfl,rfl⟩:=h
        obtain⟨v,W',ι',h1,h2,h3⟩:=ZgU (W:=W) hR hn hρ hop hc he hm
        refine Zhr hd ?_
        unfold Oper.wp
        rw[h2,Oper.upon_value]
        exact hK v W' sn ι' h1 h3
      · obtain⟨l,args',rfl,rfl,ho⟩:=Zjz h
        obtain⟨f,hcf,⟨first,captured,args2,hf,hargs,e⟩|⟨l2,args2,hf,hargs,e1,e2⟩⟩:=Z21 hc
        · exfalso
          obtain⟨f',c',hfv,h1,h2⟩:=(hρ _ _ hf).func
          have h3:=Z0F hρ _ _ hargs
          have:=(h1.append h3).append h2
          rw[<- e]at this
          exact ZdU this
        · simp only[List.cons.injEq]at e2
          obtain⟨e2,rfl⟩:=e2
          have:l2=l:=by unfold ZeR at e1;have:=Nat.add_right_cancel (show l+1024=l2+1024 from e1);omega
          subst this
          obtain⟨f',c',hfv,h1,h2⟩:=(hρ _ _ hf).func
          simp only[LR]at h1 h2
          have hf':f' = #[]:=Array.ext' (by simpa using h1)
          have hc':c' = #[]:=Array.ext' (by simpa using h2)
          subst hf';subst hc'
          have h3:=Z0F hρ _ _ hargs
          obtain⟨fn,tmps,asg,bd,k1,k2⟩:=CallsY.yields (Q:=λv W'=>∃sn' ι',VR sn' ι' r v/\Stp sn ι H W sn' ι' H' W') ((hO _ _ H r H' ho sn ι W _ hg hR h3).mono λe W' hh=>by
           rcases hh with ⟨v,sn',ι',h1,h2⟩|⟨⟨fn,h1⟩,_⟩
           ·exact⟨v,h1,sn',ι',h2⟩
           ·rw[hn.key l2]at h1;cases h1) (hn.key l2)
          refine⟨λf _=>trivial,?_⟩
          rw[Oper.semAt_eq _ _ _ hd]
          have hrun:(execOp a.eval o).run P W = .ok (.round l2 fn tmps asg bd) W:=by
           have harr:(#[]:Array Value)++c.args.map a.eval=(List.map a.eval c.args.toList).toArray:=by apply Array.ext';simp
           simp only[execOp,hop,resolve,hcf,Deferred.ofValue,hfv,Y01,Y03,Y02,invoke,harr]
           exact k1
          rw[hrun,Oper.uponIn_round]
          refine⟨λh=>(by cases h),(Zfu k2).mono ?_⟩
          rintro e W' ⟨v,rfl,sn',ι',hv,hst⟩
          exact hK v W' sn' ι' hv hst
   rename_i hb
   obtain⟨cargs,h1,h2⟩:=ZaS (w:=W) hn hρ hop hc hb
   have hfn:∃fn,P.funcs[g]? = some fn:=by
    unfold Z0E at hb
    cases hfn:P.funcs[g]? with
    |none=>rw[hfn]at hb;cases hb
    |some fn=>exact⟨fn,rfl⟩
   obtain⟨fn,hfn⟩:=hfn
   have hcall:=(hO g args H r H' h sn ι W cargs hg hR h1).calls hfn
   refine Zhr hd ?_
   unfold Oper.wp
   rw[h2,Oper.upon_enter]
   refine hcall.mono ?_
   rintro e W' (⟨v,sn',ι',rfl,hv,hst⟩|⟨_,ch,rfl,hp⟩)
   ·exact hK v W' sn' ι' hv hst
   ·exact hP ch W' hp
 · split at h
   · rename_i r' hr
     simp at h;obtain⟨rfl,rfl⟩:=h
     obtain⟨v,h1,h2⟩:=Z2B hR.ro hρ hr
     refine Zhr (Z6M hr) ?_
     unfold Oper.wp
     rw[h1,Oper.upon_value]
     exact hK v W sn ι h2 (Stp.refl hR)
   · obtain⟨v,W',sn',ι',h1,h2,h3⟩:=ZeL hR hρ h
     refine Zhr (ZkX h) ?_
     unfold Oper.wp
     rcases h1 with h1|⟨h1,rfl⟩
     ·rw[h1,Oper.upon_value];exact hK v W' sn' ι' h2 h3
     ·rw[h1,Oper.upon_skip];exact hK undef W' sn' ι' h2 h3
theorem PanR.no{sn:Z0l}{ι : Z0i}{H:Z00}{W W':World}{ch:List PanicEntry}(p:PanR (λ_=>False) sn ι H W ch W'):False:=by
 obtain⟨_,_,h,_⟩:=p
 exact h
inductive Tr where
 |leaf
 |node (v:Option (Option AV)) (l r:Tr)
def Z15:Tr->Nat->Option AV
 | .leaf,_=>none
 | .node v _ _,0=>match v with|some x=>x|none=>none
 | .node _ l r,n+1=>match Nat.mod n 2 with|0=>Z15 l (Nat.div n 2)|_=>Z15 r (Nat.div n 2)
def tex:Tr->Nat->Bool
 | .leaf,_=>false
 | .node v _ _,0=>match v with|some _=>true|none=>false
 | .node _ l r,n+1=>match Nat.mod n 2 with|0=>tex l (Nat.div n 2)|_=>tex r (Nat.div n 2)
def ZdX:Tr->Nat->AV->Option Tr
 | .leaf,_,_=>none
 | .node x l r,0,v=>match x with|some _=>some (.node (some (some v)) l r)|none=>none
 | .node x l r,n+1,v=>match Nat.mod n 2 with
  |0=>match ZdX l (Nat.div n 2) v with|some l'=>some (.node x l' r)|none=>none
  |_=>match ZdX r (Nat.div n 2) v with|some r'=>some (.node x l r')|none=>none
def tmk(g:Nat->Option AV):Nat->Tr
 |0=>.leaf
 |d+1=>.node (match g 0 with|some v=>some (some v)|none=>none) (tmk (λi=>g (Nat.add (Nat.mul 2 i) 1)) d) (tmk (λi=>g (Nat.add (Nat.mul 2 i) 2)) d)
theorem ZcA:∀(t:Tr)(n:Nat)(x:AV),Z15 t n=some x->tex t n=true
 | .leaf,n,x,h=>by simp[Z15]at h
 | .node v l r,0,x,h=>by cases v<;>simp[Z15]at h;simp[tex]
 | .node v l r,n+1,x,h=>by
  simp only[Z15]at h
  simp only[tex]
  split at h<;>exact ZcA _ _ _ h
theorem Zdf(m n:Nat)(h:m % 2=n % 2):(Nat.div m 2=Nat.div n 2) ↔ (m+1=n+1):=by
 show (m / 2=n / 2) ↔ _
 omega
theorem Z3e:∀(t:Tr)(n:Nat)(v:AV)(t':Tr),ZdX t n v=some t'->tex t n=true/\(∀m,Z15 t' m=if m=n then some v else Z15 t m)/\∀m,tex t' m=tex t m
 | .leaf,n,v,t',h=>by simp[ZdX]at h
 | .node x l r,0,v,t',h=>by
  simp only[ZdX]at h
  split at h<;>simp at h
  subst h
  refine⟨rfl,λm=>?_,λm=>?_⟩<;>cases m<;>simp[Z15,tex]
 | .node x l r,n+1,v,t',h=>by
  simp only[ZdX]at h
  split at h
  · rename_i hn
    split at h<;>simp at h
    subst h;rename_i l' hl
    obtain⟨h1,h2,h3⟩:=Z3e l _ v l' hl
    refine⟨by simp only[tex,hn];exact h1,λm=>?_,λm=>?_⟩
    · cases m with
      |zero=>simp[Z15]
      |succ m =>
       simp only[Z15]
       split
       · rename_i hm
         rw[h2]
         simp only[Zdf m n (show m % 2=n % 2 from Eq.trans hm (Eq.symm hn))]
       · rename_i hm
         rw[if_neg]
         intro e
         have:m=n:=by omega
         subst this;exact hm hn
    · cases m with
      |zero=>simp[tex]
      |succ m=>simp only[tex];split<;>simp[h3]
  · rename_i hn
    split at h<;>simp at h
    subst h;rename_i l' hl
    obtain⟨h1,h2,h3⟩:=Z3e r _ v l' hl
    refine⟨by simp only[tex];exact h1,λm=>?_,λm=>?_⟩
    · cases m with
      |zero=>simp[Z15]
      |succ m =>
       simp only[Z15]
       split
       · rename_i hm
         rw[if_neg]
         intro e
         have:m=n:=by omega
         subst this;exact hn hm
       · rename_i hm
         rw[h2]
         have hn':¬n % 2=0:=hn
         have hm':¬m % 2=0:=hm
         simp only[Zdf m n (by omega)]
    · cases m with
      |zero=>simp[tex]
      |succ m=>simp only[tex];split<;>simp[h3]
theorem Zbt:∀(d:Nat)(g:Nat->Option AV)(n:Nat)(u:AV),Z15 (tmk g d) n=some u->g n=some u
 |0,g,n,u,h=>by simp[tmk,Z15]at h
 |d+1,g,0,u,h=>by
  simp only[tmk,Z15]at h
  cases hg:g 0 with
  |none=>simp[hg]at h
  |some v=>simpa[hg]using h
 |d+1,g,n+1,u,h=>by
  simp only[tmk,Z15]at h
  split at h
  · rename_i hn
    have:=Zbt d _ _ u h
    have hn':n % 2=0:=hn
    have e:Nat.add (Nat.mul 2 (Nat.div n 2)) 1=n+1:=by show 2*(n / 2)+1=n+1;omega
    rw[e]at this;exact this
  · rename_i hn
    have:=Zbt d _ _ u h
    have hn':¬n % 2=0:=hn
    have e:Nat.add (Nat.mul 2 (Nat.div n 2)) 2=n+1:=by show 2*(n / 2)+2=n+1;omega
    rw[e]at this;exact this
theorem Zbs:∀(d:Nat)(g:Nat->Option AV)(n:Nat),tex (tmk g d) n=true->∃u,g n=some u
 |0,g,n,h=>by simp[tmk,tex]at h
 |d+1,g,0,h=>by
  simp only[tmk,tex]at h
  cases hg:g 0 with
  |none=>simp[hg]at h
  |some v=>exact⟨v,rfl⟩
 |d+1,g,n+1,h=>by
  simp only[tmk,tex]at h
  split at h
  · rename_i hn
    have:=Zbs d _ _ h
    have hn':n % 2=0:=hn
    have e:Nat.add (Nat.mul 2 (Nat.div n 2)) 1=n+1:=by show 2*(n / 2)+1=n+1;omega
    rw[e]at this;exact this
  · rename_i hn
    have:=Zbs d _ _ h
    have hn':¬n % 2=0:=hn
    have e:Nat.add (Nat.mul 2 (Nat.div n 2)) 2=n+1:=by show 2*(n / 2)+2=n+1;omega
    rw[e]at this;exact this
def TRel(sn:Z0l)(ι : Z0i)(tm:Tr)(a:Act):Prop:=(∀t u,Z15 tm t=some u->∃v,a.tmps[t]? = some v/\VR sn ι u v)/\∀t,tex tm t=true->t<a.tmps.size
def Z5w(gl:Z0w)(tm:Tr):Operand->Option AV
 | .tmp t=>Z15 tm t
 | .const v=>ofV v
 | .global g=>match gl g with|some cs=>some (.rp cs)|none=>none
 | .func f=>some (.func (.func f) [] [])
def Z5z(d:Option Tmp)(v:AV)(tm:Tr):Option Tr:=match d with|some d=>ZdX tm d v|none=>some tm
def Z91{β : Type}(n:Nat)(f:Nat -> β) : β:=match n with|0=>f 0|Nat.succ m=>f (Nat.succ m)
def Znb{β : Type}(n:Int)(f:Int -> β) : β:=match n with | .ofNat n=>Z91 n λn=>f (.ofNat n) | .negSucc n=>Z91 n λn=>f (.negSucc n)
def ZmK{β : Type}(b:Bool)(f:Bool -> β) : β:=match b with|true=>f true|false=>f false
def ZmJ{β : Type}:List UInt8->(List UInt8 -> β) -> β
 |[],f=>f []
 |c::l,f=>ZmJ l λl=>f (c::l)
mutual
def Z4U{β : Type}:AV->(AV -> β) -> β
 | .bool b,f=>ZmK b λb=>f (.bool b)
 | .int k n,f=>Znb n λn=>f (.int k n)
 | .str s,f=>f (.str s)
 | .nptr,f=>f .nptr
 | .ptr b o,f=>Z91 b λb=>Z91 o λo=>f (.ptr b o)
 | .rp cs,f=>f (.rp cs)
 | .nslice,f=>f .nslice
 | .slice b o l c z,f=>Z91 b λb=>Z91 o λo=>Z91 l λl=>Z91 c λc=>Z91 z λz=>f (.slice b o l c z)
 | .rs n z cs,f=>Z91 n λn=>f (.rs n z cs)
 | .nmap,f=>f .nmap
 | .map b,f=>Z91 b λb=>f (.map b)
 | .func fn a b,f=>frcVL a λa=>frcVL b λb=>f (.func fn a b)
 | .nfunc,f=>f .nfunc
 | .iface t v,f=>Z4U v λv=>f (.iface t v)
 | .niface,f=>f .niface
 | .agg cs,f=>frcVL cs λcs=>f (.agg cs)
 | .tuple cs,f=>frcVL cs λcs=>f (.tuple cs)
def frcVL{β : Type}:List AV->(List AV -> β) -> β
 |[],f=>f []
 |v::l,f=>Z4U v λv=>frcVL l λl=>f (v::l)
end
def Zmb{β : Type}:List (AV×AV×Nat)->(List (AV×AV×Nat) -> β) -> β
 |[],f=>f []
 |(k,v,n)::l,f=>Z4U k λk=>Z4U v λv=>Z91 n λn=>Zmb l λl=>f ((k,v,n)::l)
def Zna{β : Type}(o:AObj)(f:AObj -> β) : β :=
 match o with
 |⟨a,fam,sh,b⟩=>ZmK a λa=>Z91 fam λfam=>Z91 sh λsh=>match b with
  | .cells cs ty=>frcVL cs λcs=>f ⟨a,fam,sh,.cells cs ty⟩
  | .map es c=>Zmb es λes=>Z91 c λc=>f ⟨a,fam,sh,.map es c⟩
  | .siter s p=>Z91 p λp=>f ⟨a,fam,sh,.siter s p⟩
  | .loop g ts=>f ⟨a,fam,sh,.loop g ts⟩
def Zlg{β : Type}:Z00->(Z00 -> β) -> β
 |[],f=>f []
 |o::l,f=>Zna o λo=>Zlg l λl=>f (o::l)
theorem Z3k{β : Type}(n:Nat)(f:Nat -> β):Z91 n f=f n:=by cases n<;>rfl
theorem Zkx{β : Type}(n:Int)(f:Int -> β):Znb n f=f n:=by cases n<;>simp[Znb,Z3k]
theorem ZbP{β : Type}(n:Bool)(f:Bool -> β):ZmK n f=f n:=by cases n<;>rfl
theorem Zgi{β : Type}:∀(l:List UInt8)(f:List UInt8 -> β),ZmJ l f=f l
 |[],f=>rfl
 |c::l,f=>by simp[ZmJ,Zgi l]
mutual
theorem Z7l{β : Type}:∀(v:AV)(f:AV -> β),Z4U v f=f v
 | .bool b,f=>by simp[Z4U,ZbP]
 | .int k n,f=>by simp[Z4U,Zkx]
 | .str s,f=>by simp[Z4U]
 | .nptr,f=>by simp[Z4U]
 | .ptr b o,f=>by simp[Z4U,Z3k]
 | .rp cs,f=>by simp[Z4U]
 | .nslice,f=>by simp[Z4U]
 | .slice b o l c z,f=>by simp[Z4U,Z3k]
 | .rs n z cs,f=>by simp[Z4U,Z3k]
 | .nmap,f=>by simp[Z4U]
 | .map b,f=>by simp[Z4U,Z3k]
 | .func fn a b,f=>by simp[Z4U,frcVL_eq a,frcVL_eq b]
 | .nfunc,f=>by simp[Z4U]
 | .iface t v,f=>by simp[Z4U,Z7l v]
 | .niface,f=>by simp[Z4U]
 | .agg cs,f=>by simp[Z4U,frcVL_eq cs]
 | .tuple cs,f=>by simp[Z4U,frcVL_eq cs]
theorem frcVL_eq{β : Type}:∀(l:List AV)(f:List AV -> β),frcVL l f=f l
 |[],f=>by simp[frcVL]
 |v::l,f=>by simp[frcVL,Z7l v,frcVL_eq l]
end
theorem Zgj{β : Type}:∀(l:List (AV×AV×Nat))(f:List (AV×AV×Nat) -> β),Zmb l f=f l
 |[],f=>by simp[Zmb]
 |(k,v,n)::l,f=>by simp[Zmb,Z7l,Z3k,Zgj l]
theorem Zkv{β : Type}(o:AObj)(f:AObj -> β):Zna o f=f o:=by
 obtain⟨a,fam,sh,b⟩:=o
 cases b<;>simp[Zna,ZbP,Z3k,frcVL_eq,Zgj]
theorem Z92{β : Type}:∀(l:Z00)(f:Z00 -> β),Zlg l f=f l
 |[],f=>by simp[Zlg]
 |o::l,f=>by simp[Zlg,Zkv,Z92 l]
def Zlf{β : Type}(v:AV)(f:AV -> β) : β:=match v with | .str s=>ZmJ s λs=>f (.str s)|v=>Z4U v f
theorem Zku{β : Type}(v:AV)(f:AV -> β):Zlf v f=f v:=by cases v<;>simp[Zlf,Zgi,Z7l]
def Z7m{β : Type}:Z00->(Z00 -> β) -> β
 |[],f=>f []
 |o::l,f=>match o with
  |⟨a,fam,sh,b⟩=>ZmK a λa=>match b with
   | .cells cs ty=>Z7m l λl=>f (⟨a,fam,sh,.cells cs ty⟩::l)
   | .map es c=>Z7m l λl=>f (⟨a,fam,sh,.map es c⟩::l)
   | .siter s p=>Z7m l λl=>f (⟨a,fam,sh,.siter s p⟩::l)
   | .loop g ts=>Z7m l λl=>f (⟨a,fam,sh,.loop g ts⟩::l)
theorem Zdl{β : Type}:∀(l:Z00)(f:Z00 -> β),Z7m l f=f l
 |[],f=>by simp[Z7m]
 |⟨a,fam,sh,b⟩::l,f=>by cases b<;>simp[Z7m,ZbP,Zdl l]
def Zlh{β : Type}(o:Oper)(r:AV)(H:Z00)(f:AV->Z00 -> β) : β :=
 match o.op with
 | .move _=>f r H
 | .assign _=>f r H
 | .pick ..=>f r H
 | .nilCheck _=>f r H
 | .extract ..=>f r H
 | .load ..=>f r H
 | .build ..=>f r H
 | .field ..=>f r H
 | .fieldAddr ..=>Z4U r λr=>f r H
 | .indexAddr ..=>Z4U r λr=>f r H
 | .index ..=>Z4U r λr=>f r H
 | .binOp ..=>Zlf r λr=>f r H
 | .unOp ..=>Zlf r λr=>f r H
 | .convert ..=>Zlf r λr=>f r H
 | .slice ..=>Zlf r λr=>f r H
 | .store ..=>Z7m H λH=>f r H
 | .alloc _=>Z4U r λr=>Z7m H λH=>f r H
 | .box ..=>Z4U r λr=>Z7m H λH=>f r H
 | .buildSlice ..=>Z4U r λr=>Z7m H λH=>f r H
 |_=>Z4U r λr=>Zlg H λH=>f r H
theorem Z2F{β : Type}(o:Oper)(r:AV)(H:Z00)(f:AV->Z00 -> β):Zlh o r H f=f r H:=by
 unfold Zlh;split<;>simp[Z7l,Zku,Zdl,Z92]
section op
variable {P:Program} {gl:Z0w} {orc:Orc} {sn:Z0l} {ι : Z0i} {H:Z00} {W:World} {a:Act} {tm:Tr}
theorem Z3v(hg:GlOK gl sn)(ht:TRel sn ι tm a):∀x u,Z5w gl tm x=some u->VR sn ι u (a.eval x):=by
 intro x u h
 cases x with
 |tmp t =>
  obtain⟨v,h1,h2⟩:=ht.1 t u h
  have:a.eval (.tmp t)=v:=by simp[Act.eval,Y0t,h1]
  rw[this];exact h2
 |const v=>exact Z8c v u h
 |global g =>
  simp only[Z5w]at h;split at h<;>simp at h
  subst h;rename_i cs hcs
  simp only[VR,Act.eval];exact⟨g,0,rfl,hg g cs hcs⟩
 |func f=>simp[Z5w]at h;subst h;simp[VR,Act.eval,LR]
theorem TRel.mono{sn':Z0l}{ι':Z0i}(ht:TRel sn ι tm a)(h:Le sn sn' ι ι'):TRel sn' ι' tm a:=⟨λt u e=>let ⟨v,h1,h2⟩:=ht.1 t u e;⟨v,h1,Z0R h _ _ h2⟩,ht.2⟩
theorem Z89(ht:TRel sn ι tm a){d:Option Tmp}{r:AV}{v:Value}(hv:VR sn ι r v){tm':Tr}(h:Z5z d r tm=some tm'):TRel sn ι tm' (a.put d v):=by
 cases d with
 |none=>simp[Z5z]at h;subst h;exact ht
 |some d =>
  obtain⟨h1,h2,h3⟩:=Z3e _ _ _ _ h
  have hd:d<a.tmps.size:=ht.2 d h1
  refine⟨λt u hu=>?_,λt hx=>?_⟩
  · rw[h2]at hu
    simp only[Act.put,Y0x]
    split at hu
    ·simp at hu;subst hu;rename_i e;subst e;simp[hd];exact hv
    ·rename_i e;rw[if_neg (Ne.symm e)];exact ht.1 t u hu
  · rw[h3]at hx
    simp only[Act.put,Array.size_setIfInBounds]
    exact ht.2 t hx
theorem GlOK.mono{sn sn':Z0l}{ι ι':Z0i}(h:GlOK gl sn)(hl:Le sn sn' ι ι'):GlOK gl sn':=λg cs e=>MR_mono hl cs g 0 (h g cs e)
def Z5T(ops:List Oper)(o:Oper)(tm:Tr):Option Bool :=
 match o.guard with
 |none=>some true
 |some (j,want)=>match ops[j]? with
  |some g=>match g.dst with
   |some d=>match Z15 tm d with
    |some (.bool b)=>some (b==want)
    |some _=>some false
    |none=>none
   |none=>none
  |none=>none
theorem Z8r(ht:TRel sn ι tm a)(ops:Array Oper)(o:Oper){b:Bool}(h:Z5T ops.toList o tm=some b):Region.wanted o (yielded ops a.tmps)=b:=by
 unfold Z5T at h
 unfold Region.wanted yielded
 cases hgd:o.guard with
 |none=>simp[hgd]at h;simp[h]
 |some jw =>
  obtain⟨j,want⟩:=jw
  simp only[hgd]at h
  split at h<;>try (simp at h;done)
  rename_i g hg
  rw[Y0g]at hg
  split at h<;>try (simp at h;done)
  rename_i d hd
  split at h<;>try (simp at h;done)
  · rename_i c hc
    simp at h;subst h
    obtain⟨v,h1,h2⟩:=ht.1 d _ hc
    cases h2.bool
    simp[hg,hd,h1]
  · rename_i u hne hu
    simp at h;subst h
    obtain⟨v,h1,h2⟩:=ht.1 d _ hu
    simp only[hg,Option.bind_some,hd,h1]
    cases u with
    |bool b=>exact (hne b rfl).elim
    |_=>simp only[VR]at h2;cases v<;>first|rfl|(exfalso;simp at h2)
def Zhv(P:Program)(gl:Z0w)(orc:Orc)(ops:List Oper):List Oper->Tr->Z00->Option (Tr×Z00)
 |[],tm,H=>some (tm,H)
 |o::l,tm,H =>
  match Z5T ops o tm with
  |some true =>
   match aop P orc (Z5w gl tm) o H with
   |some (r,H')=>Zlh o r H' λr H'=>match Z5z o.dst r tm with|some tm'=>Zhv P gl orc ops l tm' H'|none=>none
   |none=>none
  |some false=>match Z5z o.dst (.tuple []) tm with|some tm'=>Zhv P gl orc ops l tm' H|none=>none
  |none=>none
theorem Act.put_defers'(a:Act)(d:Option Tmp)(v:Value):(a.put d v).defers=a.defers:=by cases d<;>rfl
theorem Z3t {X : AV -> Prop} {rd : Option Nat} (hn : NoNum P) (hO : OrcSoundX X P gl orc) (ops : Array Oper) : ∀ (l : List Oper) (tm : Tr) (H : Z00) (tm' : Tr) (H' : Z00) (a : Act) (W : World) (sn : Z0l) (ι : Z0i),
  Zhv P gl orc ops.toList l tm H=some (tm',H')->GlOK gl sn->R sn ι H W->TRel sn ι tm a->∀{Q:Exit->Act->World->Prop},
  (∀a' W' sn' ι',Stp sn ι H W sn' ι' H' W'->TRel sn' ι' tm' a'->a'.defers=a.defers->Q .normal a' W')->(∀a' ch W',a'.defers=a.defers->PanR X sn ι H W ch W'->Q (.panic ch) a' W')->wpListIn (Fq rd) 0 P ops Q l a W
 |[],tm,H,tm',H',a,W,sn,ι,h,hg,hR,ht,Q,hQ,hP=>by
  simp[Zhv]at h;obtain⟨rfl,rfl⟩:=h
  exact wpListIn_nil (hQ a W sn ι (Stp.refl hR) ht rfl)
 |o::l,tm,H,tm',H',a,W,sn,ι,h,hg,hR,ht,Q,hQ,hP=>by
  refine wpListIn_step λK hK=>?_
  simp only[Zhv]at h
  split at h
  · rename_i hw
    rw[if_pos (Z8r ht ops o hw)]
    split at h<;>try (simp at h;done)
    rename_i r H1 hop
    simp only[Z2F]at h
    split at h<;>try (simp at h;done)
    rename_i tm1 hp
    refine Z8s hn hO hg hR (Z3v hg ht) hop (λv W' sn' ι' hv hst=>hK _ _ ?_) (λch W' p=>hP a ch W' rfl p)
    refine Z3t hn hO ops l _ _ _ _ _ _ sn' ι' h (hg.mono hst.le) hst.rel (Z89 (ht.mono hst.le) hv hp) (λa' W'' sn'' ι'' hst' ht' hd=>?_) (λa' ch W'' hd p=>hP a' ch W'' (hd.trans (Act.put_defers' _ _ _)) (p.back hR hst))
    exact hQ a' W'' sn'' ι'' (hst.trans hR hst') ht' (hd.trans (Act.put_defers' _ _ _))
  · rename_i hw
    rw[if_neg (by rw[Z8r ht ops o hw];simp)]
    split at h<;>try (simp at h;done)
    rename_i tm1 hp
    refine⟨λf _=>trivial,hK _ _ (Z3t hn hO ops l _ _ _ _ _ _ sn ι h hg hR (Z89 ht Z4Y hp) (λa' W'' sn'' ι'' hst' ht' hd=>?_) (λa' ch W'' hd p=>hP a' ch W'' (hd.trans (Act.put_defers' _ _ _)) p))⟩
    exact hQ a' W'' sn'' ι'' hst' ht' (hd.trans (Act.put_defers' _ _ _))
  ·simp at h
theorem ZeH{rd:Option Nat}(hn:NoNum P)(hO:OrcSound P gl orc)(ops:Array Oper):∀(l:List Oper)(tm:Tr)(H:Z00)(tm':Tr)(H':Z00)(a:Act)(W:World)(sn:Z0l)(ι : Z0i),
 Zhv P gl orc ops.toList l tm H=some (tm',H')->GlOK gl sn->R sn ι H W->TRel sn ι tm a->∀{Q:Exit->Act->World->Prop},
 (∀a' W' sn' ι',Stp sn ι H W sn' ι' H' W'->TRel sn' ι' tm' a'->a'.defers=a.defers->Q .normal a' W')->wpListIn (Fq rd) 0 P ops Q l a W:=λl tm H tm' H' a W sn ι h hg hR ht Q hQ=>Z3t (X:=λ_=>False) hn hO.x ops l tm H tm' H' a W sn ι h hg hR ht hQ (λa' ch W' _ p=>p.no.elim)
end op
end Go.Abs
end
section
namespace Go.Abs
open Go.RowKit
def bit(m j:Nat):Bool:=Y00 (Nat.land (Nat.shiftRight m j) 1) 1
def kind(o:Oper):Nat :=
 match o.op with
 | .move _=>0 | .assign _=>0 | .pick ..=>0 | .build ..=>0 | .nilCheck _=>0 | .binOp ..=>0 | .unOp ..=>0 | .convert ..=>1
 | .makeInterface ..=>0 | .makeFunc ..=>0 | .slice ..=>0 | .fieldAddr ..=>0 | .field ..=>0 | .indexAddr ..=>0 | .index ..=>0 | .extract ..=>0
 | .load ..=>1 | .lookup ..=>1
 | .alloc _=>2 | .box ..=>2 | .buildSlice ..=>2 | .makeSlice ..=>2 | .makeMap ..=>2
 | .call c=>match c.callee with
  | .builtin .len=>1 | .builtin .max=>0 | .builtin .min=>0
  |_=>3
 |_=>3
def Z2h(acc:List Nat):List Edge->Nat
 |[]=>0
 |e::es=>if Region.binds .any e then Nat.lor (Nat.lor (2 ^ e.on) (acc.getD e.on 0)) (Z2h acc es) else Z2h acc es
def Z3u:List Oper->List Nat->List Nat
 |[],acc=>acc
 |o::l,acc=>Z3u l (acc++[Z2h acc o.after.toList])
def Znk:List Oper->Nat->List Nat
 |[],_=>[]
 |o::l,i=>if Y00 (kind o) 3 then i::Znk l (i+1) else Znk l (i+1)
def Z5R(an:List Nat):List Nat->Bool
 |[]=>true
 |[_]=>true
 |e::f::l=>bit (an.getD f 0) e&&Z5R an (f::l)
def ZjG(n m:Nat)(e:Nat):Nat->Nat->List Nat×Nat
 |0,done=>([e],Nat.lor done (2 ^ e))
 |k+1,done =>
  let i:=n-(k+1)
  if bit m i && !bit done i then (let (l,d):=ZjG n m e k (Nat.lor done (2 ^ i));(i::l,d)) else ZjG n m e k done
def rest(n:Nat):Nat->Nat->List Nat
 |0,_=>[]
 |k+1,done=>let i:=n-(k+1);if bit done i then rest n k done else i::rest n k done
def ZaQ(n:Nat)(an:List Nat):List Nat->Nat->List Nat
 |[],done=>rest n n done
 |e::es,done=>let (l,d):=ZjG n (an.getD e 0) e n done;l++ZaQ n an es d
def ZfD(l:List Operand):List Nat:=match l with
 |[]=>[]
 | .tmp t::l=>t::ZfD l
 |_::l=>ZfD l
def looks(ops:List Oper)(o:Oper):List Nat :=
 let l:=ZfD o.op.operands.toList
 match o.guard with
 |none=>l
 |some (j,_)=>match ops[j]? with
  |some g=>match g.dst with|some d=>d::l|none=>l
  |none=>l
def Z2t(o:Oper)(t:Nat):Bool:=match o.dst with|some d=>Y00 d t|none=>false
def Z1d(vals:List (Option AV))(D:Nat->Bool)(t:Nat):List Oper->Nat->Option AV->Option AV
 |[],_,acc=>acc
 |o::l,i,acc=>Z1d vals D t l (i+1) (if Z2t o t&&D i then (match vals[i]? with|some v=>v|none=>none) else acc)
def Z2H(tm:Tr)(vals:List (Option AV))(ops:List Oper)(D:Nat->Bool):List Nat->Option (List (Nat×AV))
 |[]=>some []
 |t::ts=>match Z1d vals D t ops 0 (Z15 tm t),Z2H tm vals ops D ts with|some v,some e=>some ((t,v)::e)|_,_=>none
def Z1O(t:Nat):List (Nat×AV)->Option AV
 |[]=>none
 |(u,v)::l=>if Y00 u t then some v else Z1O t l
def Z1o(gl:Z0w)(env:List (Nat×AV)):Operand->Option AV
 | .tmp t=>Z1O t env
 | .const v=>ofV v
 | .global g=>match gl g with|some cs=>some (.rp cs)|none=>none
 | .func f=>some (.func (.func f) [] [])
def Z0n(ops:List Oper)(env:List (Nat×AV))(o:Oper):Bool :=
 match o.guard with
 |none=>true
 |some (j,want)=>match ops[j]? with
  |some g=>match g.dst with
   |some d=>match Z1O d env with|some (.bool b)=>b==want|_=>false
   |none=>false
  |none=>false
structure DSt where
 vals:List (Option AV)
 done:Nat
 base:Z00
 new:List Nat
 heap:Z00
 sts:List (Nat×Z00×List Nat)
def Z8u(m:Nat):List Nat->Bool
 |[]=>true
 |i::l=>bit m i&&Z8u m l
def Z0h(n:Nat):List Nat->Bool
 |[]=>true
 |i::l=>Nat.blt i n&&Z0h n l
def Z08:List (Nat×AV)->List Nat->List Nat
 |[],acc=>acc
 |(_,v)::l,acc=>Z0z v (Z08 l acc)
def Z3w(P:Program)(ρ : Operand->Option AV)(o:Oper):Option ((Nat->AV)×ABody) :=
 match o.op with
 | .alloc e=>match Z3C P e with|some z=>some (λn=>.ptr n 0,.cells z.cells e)|none=>none
 | .box e x=>match ρ x with|some v=>some (λn=>.ptr n 0,.cells v.cells e)|none=>none
 | .buildSlice t len ps=>match Z7y ρ ps.toList with
  |some us=>match ZdH P t len us with
   |some (cs,e,z)=>some (λn=>.slice n 0 len len z,.cells cs e)
   |none=>none
  |none=>none
 | .makeSlice t l c=>match ρ l,ρ c with
  |some l,some c=>match Za5 P t l c with
   |some (zs,e,z,ln,cp)=>some (λn=>.slice n 0 ln cp z,.cells zs e)
   |none=>none
  |_,_=>none
 | .makeMap _ none=>some (λn=>.map n,.map [] 0)
 |_=>none
def ZbY(P:Program)(gl:Z0w)(orc:Orc)(ops:List Oper)(an:List Nat)(tm:Tr)(i:Nat)(s:DSt):Option DSt :=
 match ops[i]? with
 |none=>none
 |some o=>match Z2H tm s.vals ops (bit (an.getD i 0)) (looks ops o) with
  |none=>none
  |some env =>
   if bit s.done i then none else
   match kind o with
   |2 =>
    if Z0n ops env o then
     match Z3w P (Z1o gl env) o with
     | some (mk, body) => if Z0h s.heap.length (Z6m body []) then
       Zlh o (mk s.heap.length) (s.heap++[⟨true,s.heap.length,0,body⟩]) λr H'=>some ⟨s.vals.set i (some r),Nat.lor s.done (2 ^ i),s.base,s.new++[i],H',s.sts⟩
      else none
     |none=>none
    else some ⟨s.vals.set i (some (.tuple [])),Nat.lor s.done (2 ^ i),s.base,s.new,s.heap,s.sts⟩
   |3 =>
    if Z8u (an.getD i 0) s.new&&Z0h s.heap.length (Z08 env []) then
     if Z0n ops env o then
      match aop P orc (Z1o gl env) o s.heap with
      |some (r,H')=>Zlh o r H' λr H'=>if Nat.ble s.heap.length H'.length then some ⟨s.vals.set i (some r),Nat.lor s.done (2 ^ i),H',[],H',s.sts++[(i,s.base,s.new)]⟩ else none
      |none=>none
     else some ⟨s.vals.set i (some (.tuple [])),Nat.lor s.done (2 ^ i),s.heap,[],s.heap,s.sts++[(i,s.base,s.new)]⟩
    else none
   |_ =>
    if Z0n ops env o then
     match Z0q P (Z1o gl env) s.heap o with
     |some r=>Zlh o r s.heap λr _=>some ⟨s.vals.set i (some r),Nat.lor s.done (2 ^ i),s.base,s.new,s.heap,s.sts⟩
     |none=>none
    else some ⟨s.vals.set i (some (.tuple [])),Nat.lor s.done (2 ^ i),s.base,s.new,s.heap,s.sts⟩
def Z7N(P:Program)(gl:Z0w)(orc:Orc)(ops:List Oper)(an:List Nat)(tm:Tr):List Nat->DSt->Option DSt
 |[],s=>some s
 |i::l,s=>match ZbY P gl orc ops an tm i s with|some s'=>Z7N P gl orc ops an tm l s'|none=>none
def Z2N(an:List Nat)(j t:Nat):List Oper->Nat->Bool
 |[],_=>true
 |o::l,k=>(!Z2t o t || Y00 k j || bit (an.getD j 0) k || bit (an.getD k 0) j)&&Z2N an j t l (k+1)
def Z1a(ops:List Oper)(an:List Nat)(j:Nat)(o:Oper):Bool :=
 (looks ops o).all (λt=>Z2N an j t ops 0)&&(match o.dst with|some d=>Z2N an j d ops 0|none=>true)
def Z64(ops:List Oper)(an:List Nat):List Oper->Nat->Bool
 |[],_=>true
 |o::l,j=>Z1a ops an j o&&Z64 ops an l (j+1)
def stages(P:Program)(gl:Z0w)(o:Oper)(env:List (Nat×AV))(v:AV)(j:Nat)(an:List Nat)(aj:Nat)(eq:AV->AV->Bool):List (Nat×Z00×List Nat)->Z00->Bool
 |[],H=>(match Z0q P (Z1o gl env) H o with|some u=>eq u v|none=>false)
 |(e,B,_)::l,H =>
  if bit aj e then stages P gl o env v j an aj eq l H else
  (match Z0q P (Z1o gl env) B o with|some u=>eq u v|none=>false)&&(bit (an.getD e 0) j || stages P gl o env v j an aj eq l H)
mutual
def veq:AV->AV->Bool
 | .bool a,.bool b=>a==b
 | .int k a,.int k' b=>k==k'&&a==b
 | .str a,.str b=>a==b
 | .nptr,.nptr=>true
 | .ptr a b,.ptr c d=>Y00 a c&&Y00 b d
 | .rp a,.rp b=>veqL a b
 | .nslice,.nslice=>true
 | .slice a b c d e,.slice a' b' c' d' e'=>Y00 a a'&&Y00 b b'&&Y00 c c'&&Y00 d d'&&Y00 e e'
 | .rs n z a,.rs n' z' b=>Y00 n n'&&Y00 z z'&&veqL a b
 | .nmap,.nmap=>true
 | .map a,.map b=>Y00 a b
 | .nfunc,.nfunc=>true
 | .niface,.niface=>true
 | .agg a,.agg b=>veqL a b
 | .tuple a,.tuple b=>veqL a b
 | .func f a b,.func f' a' b'=>f==f'&&veqL a a'&&veqL b b'
 | .iface t a,.iface t' b=>Y00 t t'&&veq a b
 |_,_=>false
def veqL:List AV->List AV->Bool
 |[],[]=>true
 |a::l,b::m=>veq a b&&veqL l m
 |_,_=>false
end
def Zbv(aj:Nat):List Nat->Z00->Z00
 |j::nw,o::h=>if bit aj j then o::Zbv aj nw h else []
 |_,_=>[]
def Z2y(aj:Nat)(base:Z00)(nw:List Nat)(heap B:Z00):Z00:=if Y00 B.length base.length then B++Zbv aj nw (heap.drop base.length) else B
def Zbi(F:Z00->Z00):List (Nat×Z00×List Nat)->List (Nat×Z00×List Nat)
 |[]=>[]
 |(e,B,nw)::l=>(e,F B,nw)::Zbi F l
def Z1R(P:Program)(gl:Z0w)(tm:Tr)(ops:List Oper)(an:List Nat)(s:DSt):List Oper->Nat->Bool
 |[],_=>true
 |o::l,j =>
  (if Y00 (kind o) 1 then
    match s.vals[j]?,Z2H tm s.vals ops (bit (an.getD j 0)) (looks ops o) with
    |some (some v),some env=>if Z0n ops env o then stages P gl o env v j an (an.getD j 0) veq s.sts s.base || stages P gl o env v j an (an.getD j 0) veq (Zbi (Z2y (an.getD j 0) s.base s.new s.heap) s.sts) (Z2y (an.getD j 0) s.base s.new s.heap s.base) else true
    |_,_=>false
  else true)&&Z1R P gl tm ops an s l (j+1)
def Z1h:List Oper->List (Option AV)
 |[]=>[]
 |_::l=>none::Z1h l
def Z1w(vals:List (Option AV)):List Oper->Nat->Tr->Option Tr
 |[],_,tm=>some tm
 |o::l,i,tm=>match vals[i]? with
  |some (some v)=>match Z5z o.dst v tm with|some tm'=>Z1w vals l (i+1) tm'|none=>none
  |_=>none
def Z5S:List Nat->Nat->Bool
 |[],_=>true
 |a::l,i=>Nat.blt a (2 ^ i)&&Z5S l (i+1)
def Z0o:List (Nat×Z00×List Nat)->List Nat
 |[]=>[]
 |(i,_,_)::l=>i::Z0o l
def ZcB(an:List Nat)(m:Nat):List Oper->Nat->Bool
 |[],_=>true
 |o::l,i=>(!Y00 (kind o) 2 || bit m i)&&ZcB an m l (i+1)
def ZiS(ops:List Oper)(an:List Nat):List Oper->Nat->Bool
 |[],_=>true
 |o::l,j=>(!Y00 (kind o) 3 || ZcB an (an.getD j 0) (ops.take j) 0)&&ZiS ops an l (j+1)
def Zj9:Nat->Nat->List Nat
 |0,_=>[]
 |n+1,k=>k::Zj9 n (k+1)
def ZlJ(ops:List Oper)(an:List Nat):List Nat :=
 if ZiS ops an ops 0 then Zj9 ops.length 0 else ZaQ ops.length an (Znk ops 0) 0
def ZaY(P:Program)(gl:Z0w)(orc:Orc)(ops:List Oper)(tm:Tr)(H:Z00):Option (Tr×Z00) :=
 let an:=Z3u ops []
 if Z64 ops an ops 0&&Z5S an 0 then
  match Z7N P gl orc ops an tm (ZlJ ops an) ⟨Z1h ops,0,H,[],H,[]⟩ with
  | some s => if Z5R an (Z0o s.sts) && Y00 (s.done + 1) (2 ^ ops.length) && Z1R P gl tm ops an s ops 0 then
    match Z1w s.vals ops 0 tm with|some tm'=>some (tm',s.heap)|none=>none
   else none
  |none=>none
 else none
inductive AEx where
 |normal
 |exit (id:Nat)
 |ret
def ZfS(f:Tr->Z00->Option (AEx×Tr×Z00)):Nat->Tr->Z00->Option (AEx×Tr×Z00)
 |0,_,_=>none
 |n+1,tm,H=>match f tm H with
  |some (.normal,tm',H')=>ZfS f n tm' H'
  |r=>r
def Z1c(P:Program)(gl:Z0w)(orc:Orc)(fuel:Nat):Code->Tr->Z00->Option (AEx×Tr×Z00)
 | .skip,tm,H=>some (.normal,tm,H)
 | .region _ ops draw,tm,H =>
  match (if draw then ZaY P gl orc ops.toList tm H else Zhv P gl orc ops.toList ops.toList tm H) with
  |some (tm',H')=>some (.normal,tm',H')
  |none=>none
 | .seq a b,tm,H=>match Z1c P gl orc fuel a tm H with
  |some (.normal,tm',H')=>Z1c P gl orc fuel b tm' H'
  |r=>r
 | .cond c a b,tm,H=>match Z5w gl tm c with
  |some (.bool true)=>Z1c P gl orc fuel a tm H
  |some (.bool false)=>Z1c P gl orc fuel b tm H
  |_=>none
 | .block id b,tm,H=>match Z1c P gl orc fuel b tm H with
  |some (.exit id',tm',H')=>if Y00 id' id then some (.normal,tm',H') else some (.exit id',tm',H')
  |r=>r
 | .loop b,tm,H=>ZfS (Z1c P gl orc fuel b) fuel tm H
 | .exit id,tm,H=>some (.exit id,tm,H)
 | .ret,tm,H=>some (.ret,tm,H)
 | .scope b,tm,H=>Z1c P gl orc fuel b tm H
 | .label _,tm,H=>some (.normal,tm,H)
 |_,_,_=>none
def Z37(P:Program)(tm:Tr)(H:Z00):List ResultVar->Option (List AV)
 |[]=>some []
 | .tmp t::l=>match Z15 tm t,Z37 P tm H l with|some v,some vs=>some (v::vs)|_,_=>none
 | .cell a t::l=>match Z15 tm a with
  |some (.ptr b off)=>match Z9f P t (.ptr b off) H,Z37 P tm H l with|some v,some vs=>some (v::vs)|_,_=>none
  |_=>none
def Zbg(args:List AV)(n m:Nat)(i:Nat):Option AV:=match args[i]? with|some v=>some v|none=>if Nat.blt i n then some (.tuple []) else none
def ZcC:Nat->Nat->Nat
 |0,_=>0
 |k+1,n=>match n with|0=>0|Nat.succ n=>Nat.succ (ZcC k (Nat.div (Nat.succ n) 2))
def ZeK(P:Program)(gl:Z0w)(orc:Orc)(fuel:Nat)(f:Nat)(args:List AV)(H:Z00):Option (AV×Z00) :=
 match P.funcs[f]? with
 |some fn=>match fn.body with
  |some c=>frcVL args λargs=>Zlg H λH =>
   match Z1c P gl orc fuel c (tmk (Zbg args fn.ntmps args.length) (ZcC 20 fn.ntmps)) H with
   |some (x,tm,H')=>match x with
    | .exit _=>none
    |_=>match Z37 P tm H' fn.results.toList with
     |some [v]=>some (v,H')
     |some vs=>some (.tuple vs,H')
     |none=>none
   |none=>none
  |none=>none
 |none=>none
end Go.Abs
end
section
namespace Go.Abs
open Go.RowKit
theorem Z5t(m j:Nat):bit m j=Nat.testBit m j:=by
 unfold bit Nat.testBit
 have e:Nat.land (Nat.shiftRight m j) 1=(m >>> j) % 2:=by
  show (m >>> j) &&& 1=_
  rw[Nat.and_one_is_mod]
 have e':1 &&& (m >>> j)=(m >>> j) % 2:=by rw[Nat.and_comm,Nat.and_one_is_mod]
 rw[e,e']
 have:(m >>> j) % 2=0\/(m >>> j) % 2=1:=by omega
 rcases this with h|h<;>rw[h]<;>rfl
theorem Z9e(a b k:Nat):bit (Nat.lor a b) k=(bit a k || bit b k):=by
 rw[Z5t,Z5t,Z5t];exact Nat.testBit_or a b k
theorem Zc8(j k:Nat):bit (2 ^ j) k=decide (j=k):=by
 rw[Z5t,Nat.testBit_two_pow]
theorem Z1B(k:Nat):bit 0 k=false:=by rw[Z5t];simp
theorem Zh1{m n k:Nat}(h:m<2 ^ n)(hb:bit m k=true):k<n:=by
 rw[Z5t]at hb
 rcases Y0o k n with hk|hk
 ·exact hk
 · have:m<2 ^ k:=Y0s h (Nat.pow_le_pow_right (by decide) hk)
   rw[Nat.testBit_lt_two_pow this]at hb;cases hb
theorem Z2x(acc:List Nat)(k:Nat):∀(es:List Edge),bit (Z2h acc es) k=true ↔ ∃e∈es,Region.binds .any e=true/\(e.on=k\/bit (acc.getD e.on 0) k=true)
 |[]=>by simp[Z2h,Z1B]
 |e::es=>by
  simp only[Z2h]
  split
  · rename_i hb
    rw[Z9e,Z9e,Zc8]
    simp only[Y0c,decide_eq_true_eq,Z2x acc k es,Y07,exists_eq_or_imp,hb,true_and]
  · rename_i hb
    rw[Z2x acc k es]
    simp only[Y07,exists_eq_or_imp,hb,false_and,Y0n,false_or]
theorem Z5v:∀(l:List Oper)(acc:List Nat),∃r,Z3u l acc=acc++r/\r.length=l.length/\∀j o,l[j]? = some o->r[j]? = some (Z2h ((acc++r).take (acc.length+j)) o.after.toList)
 |[],acc=>⟨[],by simp[Z3u],rfl,by simp⟩
 |o::l,acc=>by
  obtain⟨r,h1,h2,h3⟩:=Z5v l (acc++[Z2h acc o.after.toList])
  refine⟨Z2h acc o.after.toList::r,by simp[Z3u,h1],by simp[h2],λj x hx=>?_⟩
  cases j with
  |zero=>simp at hx;subst hx;simp
  |succ j =>
   simp at hx
   have:=h3 j x hx
   simp only[Y0k]
   rw[this]
   simp only[Y0j,List.singleton_append,List.length_append,List.length_singleton]
   congr 3;omega
theorem ZiK {ops : List Oper} {i k : Nat} {o : Oper} (ho : ops[i]? = some o) (h : bit ((Z3u ops []).getD i 0) k = true) :
  ∃e∈o.after.toList,Region.binds .any e=true/\(e.on=k\/(e.on<i/\bit ((Z3u ops []).getD e.on 0) k=true)):=by
 obtain⟨r,h1,h2,h3⟩:=Z5v ops []
 simp only[Y0p]at h1 h3
 rw[h1]at h⊢
 have:=h3 i o ho
 rw[List.getD,this]at h
 simp only[Option.getD_some,List.length_nil,Y06]at h
 obtain⟨e,he,hb,hc⟩:=(Z2x _ _ _).1 h
 refine⟨e,he,hb,hc.imp id λhc=>?_⟩
 by_cases hlt:e.on<i
 · refine⟨hlt,?_⟩
   have:(List.take i r).getD e.on 0=r.getD e.on 0:=by simp[List.getD,Y0m,hlt]
   rw[this]at hc;exact hc
 · have:(List.take i r).getD e.on 0=0:=by simp[List.getD,Y0m,hlt]
   rw[this,Z1B]at hc;cases hc
theorem Z2A:∀(l:List Nat)(i j:Nat),Z5S l i=true->j<l.length->l.getD j 0<2 ^ (i+j)
 |[],i,j,h,hj=>by simp at hj
 |a::l,i,j,h,hj=>by
  simp only[Z5S,Y05]at h
  cases j with
  |zero=>simpa[Y0i]using h.1
  |succ j=>have:=Z2A l (i+1) j h.2 (by simpa using hj);rw[show i+(j+1)=i+1+j from by omega];simpa using this
def Zbe(ops:List Oper)(D:Nat->Bool):Prop:=∀i o,ops[i]? = some o->D i=true->∀e∈o.after.toList,Region.binds .any e=true->D e.on=true
theorem Z35{ops:List Oper}{D:Nat->Bool}(hD:Zbe ops D):∀(i k:Nat)(o:Oper),ops[i]? = some o->(∀e∈o.after.toList,Region.binds .any e=true->D e.on=true)->bit ((Z3u ops []).getD i 0) k=true->D k=true:=by
 intro i
 induction i using Nat.strongRecOn with
 |_ i ih =>
  intro k o ho hd hb
  obtain⟨e,he,hbi,hc⟩:=ZiK ho hb
  rcases hc with rfl|⟨hlt,hc⟩
  ·exact hd e he hbi
  · have hil:i<ops.length:=(Y09.1 ho).1
    have hx:ops[e.on]? = some ops[e.on]:=Y0b (by omega)
    exact ih e.on hlt k _ hx (hD e.on _ hx (hd e he hbi)) hc
def VLe(vals vals':List (Option AV)):Prop:=∀(i:Nat)(v:AV),vals[i]? = some (some v)->vals'[i]? = some (some v)
theorem Z8f{vals vals':List (Option AV)}(h:VLe vals vals'){D:Nat->Bool}{t:Nat}:∀(l:List Oper)(i:Nat)(acc acc':Option AV),(∀v,acc=some v->acc'=some v)->∀v,Z1d vals D t l i acc=some v->Z1d vals' D t l i acc'=some v
 |[],i,acc,acc',ha,v,e=>ha v e
 |o::l,i,acc,acc',ha,v,e=>by
  simp only[Z1d]at e⊢
  refine Z8f h l (i+1) _ _ ?_ v e
  intro u hu
  split at hu
  · rename_i hc
    rw[if_pos hc]
    split at hu
    · rename_i x hx
      subst hu
      rw[h i u hx]
    ·cases hu
  · rename_i hc
    rw[if_neg hc];exact ha u hu
theorem Z1K{vals:List (Option AV)}{D D':Nat->Bool}{t:Nat}:∀(l:List Oper)(i:Nat)(acc:Option AV),(∀k o,l[k]? = some o->Z2t o t=true->D (i+k)=D' (i+k))->Z1d vals D t l i acc=Z1d vals D' t l i acc
 |[],i,acc,h=>rfl
 |o::l,i,acc,h=>by
  simp only[Z1d]
  have h0:(Z2t o t&&D i)=(Z2t o t&&D' i):=by
   cases hd:Z2t o t with
   |false=>rfl
   |true=>have:=h 0 o rfl hd;simpa using this
  rw[h0]
  exact Z1K l (i+1) _ λk x hx hd=>by have:=h (k+1) x (by simpa using hx) hd;rwa [show i+(k+1)=i+1+k from by omega]at this
theorem Z4h{vals:List (Option AV)}{D:Nat->Bool}{t:Nat}:∀(l:List Oper)(i:Nat)(acc:Option AV),(∀k o,l[k]? = some o->Z2t o t=true->D (i+k)=false)->Z1d vals D t l i acc=acc
 |[],i,acc,h=>rfl
 |o::l,i,acc,h=>by
  simp only[Z1d]
  have h0:(Z2t o t&&D i)=false:=by
   cases hd:Z2t o t with
   |false=>rfl
   |true=>have:=h 0 o rfl hd;simpa using this
  rw[h0]
  exact Z4h l (i+1) _ λk x hx hd=>by have:=h (k+1) x (by simpa using hx) hd;rwa [show i+(k+1)=i+1+k from by omega]at this
theorem Z7i {vals : List (Option AV)} {D D' : Nat -> Bool} {t j : Nat} {v : AV} : ∀ (l : List Oper) (i : Nat) (acc : Option AV) (o : Oper), l[j]? = some o -> vals[i + j]? = some (some v) -> (∀ k, D' k = (D k || Y00 k (i + j))) ->
  (∀k x,l[k]? = some x->Z2t o t=true->Z2t x t=true->j<k->D (i+k)=false)->D (i+j)=false ->
  Z1d vals D' t l i acc=if Z2t o t=true then some v else Z1d vals D t l i acc
 |[],i,acc,o,ho,hv,hD,hlast,hj=>by simp at ho
 |x::l,i,acc,o,ho,hv,hD,hlast,hj=>by
  cases j with
  |zero =>
   simp at ho;subst ho
   simp only[Nat.add_zero]at hv hj hD
   simp only[Z1d]
   have hDi:D' i=true:=by rw[hD];simp
   rw[hDi,hj]
   simp only[Bool.and_true,Bool.and_false,Y0n,if_false,hv]
   split
   · rename_i hd
     refine Z4h l (i+1) _ λk y hy hdy=>?_
     have h1:=hlast (k+1) y (by simpa using hy) hd hdy (by omega)
     rw[hD,show i+1+k=i+(k+1) from by omega,h1]
     have h2:Y00 (i+(k+1)) i=false:=by
      cases hq:Y00 (i+(k+1)) i with
      |false=>rfl
      |true=>have:=Y04 hq;omega
     rw[h2];rfl
   · rename_i hd
     refine Z1K l (i+1) acc λk y hy _=>?_
     rw[hD]
     have h2:Y00 (i+1+k) i=false:=by
      cases hq:Y00 (i+1+k) i with
      |false=>rfl
      |true=>have:=Y04 hq;omega
     rw[h2];simp
  |succ j =>
   simp at ho
   simp only[Z1d]
   have hDi:D' i=D i:=by
    rw[hD]
    have h2:Y00 i (i+(j+1))=false:=by
     cases hq:Y00 i (i+(j+1)) with
     |false=>rfl
     |true=>have:=Y04 hq;omega
    rw[h2];simp
   rw[hDi]
   exact Z7i l (i+1) _ o ho (by rw[show i+1+j=i+(j+1) from by omega];exact hv) (λk=>by rw[hD,show i+1+j=i+(j+1) from by omega])
    (λk y hy h1 h2 h3=>by have:=hlast (k+1) y (by simpa using hy) h1 h2 (by omega);rwa [show i+1+k=i+(k+1) from by omega])
    (by rw[show i+1+j=i+(j+1) from by omega];exact hj)
theorem Z34{tm:Tr}{vals vals':List (Option AV)}(h:VLe vals vals'){ops:List Oper}{D:Nat->Bool}:∀(ts:List Nat)(env:List (Nat×AV)),Z2H tm vals ops D ts=some env->Z2H tm vals' ops D ts=some env
 |[],env,e=>by simpa[Z2H]using e
 |t::ts,env,e=>by
  simp only[Z2H]at e
  split at e<;>simp at e
  subst e;rename_i v e' hv he
  simp only[Z2H,Z8f h ops 0 _ _ (λ_ h=>h) v hv,Z34 h ts e' he]
theorem Z8o {tm : Tr} {vals : List (Option AV)} {ops : List Oper} {D : Nat -> Bool} : ∀ (ts : List Nat) (env : List (Nat × AV)), Z2H tm vals ops D ts = some env ->
  ∀t u,Z1O t env=some u->t∈ts/\Z1d vals D t ops 0 (Z15 tm t)=some u
 |[],env,e,t,u,h=>by simp[Z2H]at e;subst e;simp[Z1O]at h
 |s::ts,env,e,t,u,h=>by
  simp only[Z2H]at e
  split at e<;>simp at e
  subst e;rename_i v e' hv he
  simp only[Z1O]at h
  split at h
  · rename_i hst
    have:=Y04 hst;subst this
    simp at h;subst h;exact⟨by simp,hv⟩
  · obtain⟨h1,h2⟩:=Z8o ts e' he t u h
    exact⟨by simp[h1],h2⟩
theorem ZaD{tm:Tr}{vals:List (Option AV)}{ops:List Oper}{D:Nat->Bool}:∀(ts:List Nat)(env:List (Nat×AV)),Z2H tm vals ops D ts=some env->∀t,t∈ts->∃u,Z1O t env=some u
 |[],env,e,t,h=>by simp at h
 |s::ts,env,e,t,h=>by
  simp only[Z2H]at e
  split at e<;>simp at e
  subst e;rename_i v e' hv he
  simp only[Z1O]
  split
  ·exact⟨v,rfl⟩
  · rename_i hst
    rcases Y07.1 h with rfl|h
    ·exfalso;exact hst (by simp)
    ·exact ZaD ts e' he t h
theorem Z1e{an:List Nat}{j t:Nat}:∀(l:List Oper)(i k:Nat)(o:Oper),Z2N an j t l i=true->l[k]? = some o->Z2t o t=true->i+k=j\/bit (an.getD j 0) (i+k)=true\/bit (an.getD (i+k) 0) j=true
 |[],i,k,o,h,ho,hd=>by simp at ho
 |x::l,i,k,o,h,ho,hd=>by
  simp only[Z2N,Y05,Y0c,Bool.not_eq_true']at h
  cases k with
  |zero =>
   simp at ho;subst ho
   rw[hd]at h
   rcases h.1 with ((h1|h1)|h1)|h1
   ·cases h1
   ·exact .inl (by simpa using h1)
   ·exact .inr (.inl (by simpa using h1))
   ·exact .inr (.inr (by simpa using h1))
  |succ k =>
   have:=Z1e l (i+1) k o h.2 (by simpa using ho) hd
   rwa [show i+1+k=i+(k+1) from by omega]at this
theorem Z4A{ops:List Oper}{an:List Nat}:∀(l:List Oper)(i j:Nat)(o:Oper),Z64 ops an l i=true->l[j]? = some o->Z1a ops an (i+j) o=true
 |[],i,j,o,h,ho=>by simp at ho
 |x::l,i,j,o,h,ho=>by
  simp only[Z64,Y05]at h
  cases j with
  |zero=>simp at ho;subst ho;simpa using h.1
  |succ j=>have:=Z4A l (i+1) j o h.2 (by simpa using ho);rwa [show i+1+j=i+(j+1) from by omega]at this
mutual
theorem Z9C:∀(a b:AV),veq a b=true->a=b
 | .bool a,b,h=>by cases b<;>simp[veq]at h;subst h;rfl
 | .int k a,b,h=>by cases b<;>simp[veq]at h;obtain⟨rfl,rfl⟩:=h;rfl
 | .str a,b,h=>by cases b<;>simp[veq]at h;subst h;rfl
 | .nptr,b,h=>by cases b<;>simp[veq]at h;rfl
 | .ptr a c,b,h=>by cases b<;>simp[veq]at h;obtain⟨rfl,rfl⟩:=h;rfl
 | .rp a,b,h=>by cases b<;>simp[veq]at h;rw[veqL_eq _ _ h]
 | .nslice,b,h=>by cases b<;>simp[veq]at h;rfl
 | .slice a c d e f,b,h=>by cases b<;>simp[veq]at h;obtain⟨⟨⟨⟨rfl,rfl⟩,rfl⟩,rfl⟩,rfl⟩:=h;rfl
 | .rs n z a,b,h=>by cases b<;>simp[veq]at h;obtain⟨⟨rfl,rfl⟩,h⟩:=h;rw[veqL_eq _ _ h]
 | .nmap,b,h=>by cases b<;>simp[veq]at h;rfl
 | .map a,b,h=>by cases b<;>simp[veq]at h;subst h;rfl
 | .nfunc,b,h=>by cases b<;>simp[veq]at h;rfl
 | .niface,b,h=>by cases b<;>simp[veq]at h;rfl
 | .agg a,b,h=>by cases b<;>simp[veq]at h;rw[veqL_eq _ _ h]
 | .tuple a,b,h=>by cases b<;>simp[veq]at h;rw[veqL_eq _ _ h]
 | .func f a c,b,h=>by cases b<;>simp[veq]at h;obtain⟨⟨rfl,h1⟩,h2⟩:=h;rw[veqL_eq _ _ h1,veqL_eq _ _ h2]
 | .iface t a,b,h=>by cases b<;>simp[veq]at h;obtain⟨rfl,h⟩:=h;rw[Z9C _ _ h]
theorem veqL_eq:∀(a b:List AV),veqL a b=true->a=b
 |[],b,h=>by cases b<;>simp[veqL]at h;rfl
 |a::l,b,h=>by cases b<;>simp[veqL]at h;rw[Z9C _ _ h.1,veqL_eq _ _ h.2]
end
mutual
theorem Z1S:∀(v:AV)(acc:List Nat)(x:Nat),x∈acc->x∈Z0z v acc
 | .ptr b _,acc,x,h=>by simp[Z0z,h]
 | .slice b _ _ _ _,acc,x,h=>by simp[Z0z,h]
 | .map b,acc,x,h=>by simp[Z0z,h]
 | .func _ f c,acc,x,h=>by simp only[Z0z];exact refsL_acc f _ x (refsL_acc c _ x h)
 | .iface _ v,acc,x,h=>by simp only[Z0z];exact Z1S v _ x h
 | .agg cs,acc,x,h=>by simp only[Z0z];exact refsL_acc cs _ x h
 | .tuple cs,acc,x,h=>by simp only[Z0z];exact refsL_acc cs _ x h
 | .bool _,acc,x,h=>by simpa[Z0z]using h
 | .int _ _,acc,x,h=>by simpa[Z0z]using h
 | .str _,acc,x,h=>by simpa[Z0z]using h
 | .nptr,acc,x,h=>by simpa[Z0z]using h
 | .rp _,acc,x,h=>by simpa[Z0z]using h
 | .nslice,acc,x,h=>by simpa[Z0z]using h
 | .rs _ _ _,acc,x,h=>by simpa[Z0z]using h
 | .nmap,acc,x,h=>by simpa[Z0z]using h
 | .nfunc,acc,x,h=>by simpa[Z0z]using h
 | .niface,acc,x,h=>by simpa[Z0z]using h
theorem refsL_acc:∀(l:List AV)(acc:List Nat)(x:Nat),x∈acc->x∈refsL l acc
 |[],acc,x,h=>by simpa[refsL]using h
 |v::l,acc,x,h=>by simp only[refsL];exact Z1S v _ x (refsL_acc l _ x h)
end
mutual
theorem Z1Q{sn:Z0l}{ι ι':Z0i}:∀(u:AV)(acc:List Nat)(v:Value),(∀b,b∈Z0z u acc->∀p,ι b=some p -> ι' b=some p)->VR sn ι u v->VR sn ι' u v
 | .ptr b off,acc,v,h,e=>by simp only[VR]at *;obtain⟨p,h1,h2⟩:=e;exact⟨p,h b (by simp[Z0z]) p h1,h2⟩
 | .slice b off len cap z,acc,v,h,e=>by simp only[VR]at *;obtain⟨p,a,c,h1,h2⟩:=e;exact⟨p,a,c,h b (by simp[Z0z]) p h1,h2⟩
 | .map b,acc,v,h,e=>by simp only[VR]at *;obtain⟨p,h1,h2⟩:=e;exact⟨p,h b (by simp[Z0z]) p h1,h2⟩
 | .func fn first captured,acc,v,h,e=>by
  simp only[VR]at *;obtain⟨f,c,h1,h2,h3⟩:=e
  exact⟨f,c,h1,LR_refs first (refsL captured acc) _ (λb hb=>h b (by simpa[Z0z]using hb)) h2,
   LR_refs captured acc _ (λb hb=>h b (by simp only[Z0z];exact refsL_acc first _ b hb)) h3⟩
 | .iface t u,acc,v,h,e=>by simp only[VR]at *;obtain⟨x,h1,h2⟩:=e;exact⟨x,h1,Z1Q u acc _ (λb hb=>h b (by simpa[Z0z]using hb)) h2⟩
 | .agg cs,acc,v,h,e=>by simp only[VR]at *;obtain⟨x,h1,h2⟩:=e;exact⟨x,h1,LR_refs cs acc _ (λb hb=>h b (by simpa[Z0z]using hb)) h2⟩
 | .tuple cs,acc,v,h,e=>by simp only[VR]at *;obtain⟨x,h1,h2⟩:=e;exact⟨x,h1,LR_refs cs acc _ (λb hb=>h b (by simpa[Z0z]using hb)) h2⟩
 | .rp cs,acc,v,h,e=>by simpa[VR]using e
 | .rs n z cs,acc,v,h,e=>by simpa[VR]using e
 | .bool b,acc,v,h,e=>by simpa[VR]using e
 | .int k n,acc,v,h,e=>by simpa[VR]using e
 | .str s,acc,v,h,e=>by simpa[VR]using e
 | .nptr,acc,v,h,e=>by simpa[VR]using e
 | .nslice,acc,v,h,e=>by simpa[VR]using e
 | .nmap,acc,v,h,e=>by simpa[VR]using e
 | .nfunc,acc,v,h,e=>by simpa[VR]using e
 | .niface,acc,v,h,e=>by simpa[VR]using e
theorem LR_refs{sn:Z0l}{ι ι':Z0i}:∀(us:List AV)(acc:List Nat)(vs:List Value),(∀b,b∈refsL us acc->∀p,ι b=some p -> ι' b=some p)->LR sn ι us vs->LR sn ι' us vs
 |[],acc,vs,h,e=>by simpa[LR]using e
 |u::us,acc,vs,h,e=>by
  simp only[LR]at *;obtain⟨d,ds,h1,h2,h3⟩:=e
  exact⟨d,ds,h1,Z1Q u (refsL us acc) _ (λb hb=>h b (by simpa[refsL]using hb)) h2,LR_refs us acc _ (λb hb=>h b (by simp only[refsL];exact Z1S u _ b hb)) h3⟩
end
theorem Z71:∀(env:List (Nat×AV))(t:Nat)(u:AV),Z1O t env=some u->∃acc,∀b,b∈Z0z u acc->b∈Z08 env []
 |[],t,u,h=>by simp[Z1O]at h
 |(s,v)::l,t,u,h=>by
  simp only[Z1O]at h
  split at h
  ·simp at h;subst h;exact⟨Z08 l [],λb hb=>by simpa[Z08]using hb⟩
  · obtain⟨acc,h1⟩:=Z71 l t u h
    exact⟨acc,λb hb=>by simp only[Z08];exact Z1S v _ b (h1 b hb)⟩
theorem Z5W{n:Nat}:∀{l:List Nat},Z0h n l=true->∀i∈l,i<n
 |[],_,i,hi=>by simp at hi
 |j::l,h,i,hi=>by
  simp only[Z0h,Y05]at h
  rcases Y07.1 hi with rfl|hi
  ·simpa[Y0i]using h.1
  ·exact Z5W h.2 i hi
theorem Z4O{m:Nat}:∀{l:List Nat},Z8u m l=true->∀i∈l,bit m i=true
 |[],_,i,hi=>by simp at hi
 |j::l,h,i,hi=>by
  simp only[Z8u,Y05]at h
  rcases Y07.1 hi with rfl|hi
  ·exact h.1
  ·exact Z4O h.2 i hi
end Go.Abs
end
section
namespace Go.Abs
open Go.RowKit
section alloc
variable {P:Program} {sn:Z0l} {ι : Z0i} {H:Z00}
theorem Zce{ρ : Operand->Option AV}{o:Oper}{mk:Nat->AV}{body:ABody}(h:Z3w P ρ o=some (mk,body)){a b:Nat}(e:mk a=mk b):a=b:=by
 unfold Z3w at h
 split at h<;>(repeat' (split at h))<;>simp at h<;>(try (obtain⟨rfl,_⟩:=h))<;>simpa using e
theorem Z9k {ρ : Operand -> Option AV} {ρ' : Operand -> Value} (hρ : ∀ x u, ρ x = some u -> VR sn ι u (ρ' x)) {o : Oper} {mk : Nat -> AV} {body : ABody} (h : Z3w P ρ o = some (mk, body)) (W : World) :
  ∃v ob n,(execOp ρ' o).run P W = .ok (.value v) (W.alloc ob)/\OR sn ι (W.alloc ob) body ⟨W.heap.size,0,n⟩/\∀sn' ι' id,ι' id=some ⟨W.heap.size,0,n⟩->VR sn' ι' (mk id) v:=by
 have wrap:∀(s:Sem Value),execOp ρ' o=(do pure (.value (<- s)):Sem Next)->∀v ob,s.run P W = .ok v (W.alloc ob)->(execOp ρ' o).run P W = .ok (.value v) (W.alloc ob):=by
  intro s e v ob h1
  rw[e];simp only[Y01,h1,Y02,Y03]
 have vptr:∀n sn' (ι':Z0i) id,ι' id=some ⟨W.heap.size,0,n⟩->VR sn' ι' (.ptr id 0) (.pointer (some ⟨W.heap.size,0,none⟩)):=by
  intro n sn' ι' id hid;simp only[VR];exact⟨_,hid,rfl⟩
 have vsl:∀n l c z,l<=c->c*z<=n->∀sn' (ι':Z0i) id,ι' id=some ⟨W.heap.size,0,n⟩->VR sn' ι' (.slice id 0 l c z) (.slice (some ⟨W.heap.size,0,none⟩) l c):=by
  intro n l c z h1 h2 sn' ι' id hid;simp only[VR];exact⟨_,_,c,hid,rfl,h1,Y0d _,λ_=>⟨rfl,by simpa using h2⟩⟩
 unfold Z3w at h
 cases hop:o.op with
 |alloc e =>
  simp only[hop]at h
  split at h<;>simp at h
  obtain⟨rfl,rfl⟩:=h;rename_i z hz
  obtain⟨z',h1,h2⟩:=Z2P hz
  have hrun:(Instr.alloc e true (.tuple #[])).run P W = .ok (.pointer (some ⟨W.heap.size,0,none⟩)) (W.alloc (.cells z'.cells e)):=by
   simp[Instr.alloc,h1,newVar,newRow,run_newObj_alloc]
  have hor:OR sn ι (W.alloc (.cells z'.cells e)) (.cells z.cells e) ⟨W.heap.size,0,z'.cells.size⟩:=or_cells (l:=z'.cells.toList) (l':=[]) (heap_alloc_new W (.cells z'.cells e)) (by simp) ((h2 sn ι).cells)
  have hv:=vptr z'.cells.size
  exact⟨_,_,z'.cells.size,wrap (Instr.alloc e true (.tuple #[])) (by simp only[execOp,hop]) _ _ hrun,hor,hv⟩
 |box e x =>
  simp only[hop]at h
  split at h<;>simp at h
  obtain⟨rfl,rfl⟩:=h;rename_i u hu
  have hrun:(Instr.box e (ρ' x)).run P W = .ok (.pointer (some ⟨W.heap.size,0,none⟩)) (W.alloc (.cells (ρ' x).cells e)):=by
   simp[Instr.box,newVar,newRow,run_newObj_alloc]
  have hor:OR sn ι (W.alloc (.cells (ρ' x).cells e)) (.cells u.cells e) ⟨W.heap.size,0,(ρ' x).cells.size⟩:=or_cells (l:=(ρ' x).cells.toList) (l':=[]) (heap_alloc_new W (.cells (ρ' x).cells e)) (by simp) ((hρ _ _ hu).cells)
  have hv:=vptr (ρ' x).cells.size
  exact⟨_,_,(ρ' x).cells.size,wrap (Instr.box e (ρ' x)) (by simp only[execOp,hop]) _ _ hrun,hor,hv⟩
 |buildSlice t len ps =>
  simp only[hop]at h
  split at h<;>try (simp at h;done)
  rename_i us hus
  split at h<;>simp at h
  obtain⟨rfl,rfl⟩:=h;rename_i cs e z hb
  obtain⟨r',h1,h2,h3⟩:=Z6f (sn:=sn) (ι:=ι) hb (ps':=ps.map λ(i,x)=>(i,ρ' x)) (by rw[Array.toList_map];exact Z2C hρ _ _ hus)
  have hor:OR sn ι (W.alloc (.cells r' e)) (.cells cs e) ⟨W.heap.size,0,r'.size⟩:=or_cells (l:=r'.toList) (l':=[]) (heap_alloc_new W (.cells r' e)) (by simp) h2
  have hv:=vsl r'.size len len z (Y0d _) (by omega)
  have hx:=h1 W
  refine⟨_,_,r'.size,?_,hor,hv⟩
  simp only[execOp,hop,Y01,hx,Y02,Y03]
 |makeSlice t l c =>
  simp only[hop]at h
  split at h<;>try (simp at h;done)
  rename_i u v hu hv
  split at h<;>simp at h
  obtain⟨rfl,rfl⟩:=h;rename_i zs e z ln cp hb
  obtain⟨r',h1,h2,h3,h4⟩:=Z68 hb (hρ _ _ hu) (hρ _ _ hv)
  have hor:OR sn ι (W.alloc (.cells r' e)) (.cells zs e) ⟨W.heap.size,0,r'.size⟩:=or_cells (l:=r'.toList) (l':=[]) (heap_alloc_new W (.cells r' e)) (by simp) h2
  have hv:=vsl r'.size ln cp z h4 (by omega)
  have hx:=h1 W
  refine⟨_,_,r'.size,?_,hor,hv⟩
  simp only[execOp,hop,Y01,hx,Y02,Y03]
 |makeMap t r' =>
  cases r' with
  |some x=>simp[hop]at h
  |none =>
   simp[hop]at h
   obtain⟨rfl,rfl⟩:=h
   refine⟨_,_,0,wrap (Instr.makeMap t none) (by simp only[execOp,hop,Y0r]) (.map (some W.heap.size)) (.map #[] 0) (by simp[Instr.makeMap,run_newObj_alloc]),⟨#[],heap_alloc_new W _,by simp[ER]⟩,?_⟩
   intro sn' ι' id hid;simp only[VR];exact⟨_,hid,rfl⟩
 |_=>simp[hop]at h
end alloc
section known
variable (P:Program) (gl:Z0w) (orc:Orc) (ops:List Oper) (an:List Nat) (tm:Tr)
structure At (vals:List (Option AV)) (i:Nat) (o:Oper) (env:List (Nat×AV)) (v:AV):Prop where
 op:ops[i]? = some o
 env:Z2H tm vals ops (bit (an.getD i 0)) (looks ops o)=some env
 val:vals[i]? = some (some v)
inductive Allocs (vals:List (Option AV)):Z00->List Nat->Z00->Prop
 |nil (B:Z00):Allocs vals B [] B
 |snoc {B H:Z00} {nw:List Nat} {i:Nat} {o:Oper} {env:List (Nat×AV)} {mk:Nat->AV} {body:ABody}:Allocs vals B nw H->At ops an tm vals i o env (mk H.length)->kind o=2->Z0n ops env o=true ->
  Z3w P (Z1o gl env) o=some (mk,body)->Z0h H.length (Z6m body [])=true->Allocs vals B (nw++[i]) (H++[⟨true,H.length,0,body⟩])
structure EffOK (vals:List (Option AV)) (i:Nat) (nw:List Nat) (H B':Z00):Prop where
 ex:∃o env v,At ops an tm vals i o env v/\kind o=3/\Z8u (an.getD i 0) nw=true/\Z0h H.length (Z08 env [])=true/\H.length<=B'.length /\
  (Z0n ops env o=true->aop P orc (Z1o gl env) o H=some (v,B'))/\(Z0n ops env o=false->v = .tuple []/\B'=H)
inductive Chain (vals:List (Option AV)):Z00->List (Nat×Z00×List Nat)->Z00->Prop
 |nil (B:Z00):Chain vals B [] B
 |cons {B H B' Bf:Z00} {nw:List Nat} {i:Nat} {l:List (Nat×Z00×List Nat)}:Allocs P gl ops an tm vals B nw H->EffOK P gl orc ops an tm vals i nw H B'->Chain vals B' l Bf->Chain vals B ((i,B,nw)::l) Bf
structure Fact (s:DSt) (i:Nat):Prop where
 ex:∃o env v,At ops an tm s.vals i o env v/\(Z0n ops env o=false->v = .tuple [])/\(Z0n ops env o=true->kind o≠2->kind o≠3->∃H,Z0q P (Z1o gl env) H o=some v) /\
  (kind o=3->i∈Z0o s.sts)/\(kind o=2->Z0n ops env o=true->i∈s.new\/∃st∈s.sts,i∈st.2.2)
structure DI (H0:Z00) (s:DSt):Prop where
 vdone:∀(i:Nat)(v:AV),s.vals[i]? = some (some v)->bit s.done i=true
 fact:∀i,bit s.done i=true->Fact P gl ops an tm s i
 allocs:Allocs P gl ops an tm s.vals s.base s.new s.heap
 chain:Chain P gl orc ops an tm s.vals H0 s.sts s.base
 len:s.vals.length=ops.length
end known
section run
variable {P:Program} {gl:Z0w} {orc:Orc} {ops:List Oper} {an:List Nat} {tm:Tr}
theorem At.mono{vals vals':List (Option AV)}(h:VLe vals vals'){i:Nat}{o:Oper}{env:List (Nat×AV)}{v:AV}(k:At ops an tm vals i o env v):At ops an tm vals' i o env v :=
 ⟨k.op,Z34 h _ _ k.env,h _ _ k.val⟩
theorem Allocs.mono{vals vals':List (Option AV)}(h:VLe vals vals'){B H:Z00}{nw:List Nat}(k:Allocs P gl ops an tm vals B nw H):Allocs P gl ops an tm vals' B nw H:=by
 induction k with
 |nil=>exact .nil _
 |snoc _ ha hk hw he hr ih=>exact .snoc ih (ha.mono h) hk hw he hr
theorem EffOK.mono{vals vals':List (Option AV)}(h:VLe vals vals'){i:Nat}{nw:List Nat}{H B':Z00}(k:EffOK P gl orc ops an tm vals i nw H B'):EffOK P gl orc ops an tm vals' i nw H B':=by
 obtain⟨o,env,v,h1,h2⟩:=k.ex
 exact⟨o,env,v,h1.mono h,h2⟩
theorem Chain.mono{vals vals':List (Option AV)}(h:VLe vals vals'){B Bf:Z00}{l:List (Nat×Z00×List Nat)}(k:Chain P gl orc ops an tm vals B l Bf):Chain P gl orc ops an tm vals' B l Bf:=by
 induction k with
 |nil B=>exact .nil B
 |cons ha he _ ih=>exact .cons (ha.mono h) (he.mono h) ih
theorem Chain.snoc {vals : List (Option AV)} {B B1 H B2 : Z00} {l : List (Nat × Z00 × List Nat)} {i : Nat} {nw : List Nat} (k : Chain P gl orc ops an tm vals B l B1) (ha : Allocs P gl ops an tm vals B1 nw H) (he : EffOK P gl orc ops an tm vals i nw H B2) :
  Chain P gl orc ops an tm vals B (l++[(i,B1,nw)]) B2:=by
 induction k with
 |nil B=>exact .cons ha he (.nil _)
 |cons ha' he' _ ih=>exact .cons ha' he' (ih ha)
theorem Allocs.length{vals:List (Option AV)}{B H:Z00}{nw:List Nat}(k:Allocs P gl ops an tm vals B nw H):H.length=B.length+nw.length:=by
 induction k with
 |nil=>simp
 |snoc _ ha hk hw he hr ih=>simp[ih];omega
theorem Z3M(l:List (Nat×Z00×List Nat))(i:Nat)(B:Z00)(nw:List Nat):Z0o (l++[(i,B,nw)])=Z0o l++[i]:=by
 induction l with
 |nil=>rfl
 |cons x l ih=>obtain⟨a,b,c⟩:=x;simp[Z0o,ih]
theorem ZbA{vals:List (Option AV)}{i:Nat}{v:AV}(h:∀u,vals[i]? = some (some u)->False):VLe vals (vals.set i (some v)):=by
 intro j u hj
 rw[List.getElem?_set]
 split
 ·rename_i e;subst e;exact (h u hj).elim
 ·exact hj
theorem Z4k(m i j:Nat):bit (Nat.lor m (2 ^ i)) j=true ↔ bit m j=true\/i=j:=by
 rw[Z9e,Zc8];simp
theorem ZiA{H0:Z00}{i:Nat}{s s':DSt}(h:DI P gl orc ops an tm H0 s)(e:ZbY P gl orc ops an tm i s=some s'):DI P gl orc ops an tm H0 s':=by
 unfold ZbY at e
 split at e<;>try (simp at e;done)
 rename_i o ho
 split at e<;>try (simp at e;done)
 rename_i env henv
 split at e<;>try (simp at e;done)
 rename_i hnd
 have hil:i<s.vals.length:=by rw[h.len];exact (Y09.1 ho).1
 have hle:∀v,VLe s.vals (s.vals.set i (some v)):=λv=>ZbA λu hu=>hnd (h.vdone i u hu)
 have hat:∀v,At ops an tm (s.vals.set i (some v)) i o env v:=λv=>⟨ho,Z34 (hle v) _ _ henv,by simp[hil]⟩
 have build : ∀ (v : AV) (base heap : Z00) (new : List Nat) (sts : List (Nat × Z00 × List Nat)),
   (∀j,j∈Z0o s.sts->j∈Z0o sts)->(∀j,(j∈s.new\/∃st∈s.sts,j∈st.2.2)->(j∈new\/∃st∈sts,j∈st.2.2)) ->
   (Z0n ops env o=false->v = .tuple [])->(Z0n ops env o=true->kind o≠2->kind o≠3->∃H,Z0q P (Z1o gl env) H o=some v) ->
   (kind o=3->i∈Z0o sts)->(kind o=2->Z0n ops env o=true->i∈new\/∃st∈sts,i∈st.2.2) ->
   Allocs P gl ops an tm (s.vals.set i (some v)) base new heap->Chain P gl orc ops an tm (s.vals.set i (some v)) H0 sts base ->
   DI P gl orc ops an tm H0 ⟨s.vals.set i (some v),Nat.lor s.done (2 ^ i),base,new,heap,sts⟩:=by
  intro v base heap new sts h1 h2 h3 h4 h5 h6 h7 h8
  refine⟨?_,?_,h7,h8,by simpa using h.len⟩
  · intro j u hj
    rw[Z4k]
    simp only[List.getElem?_set]at hj
    split at hj
    ·rename_i e;exact .inr e
    ·exact .inl (h.vdone j u hj)
  · intro j hj
    rcases (Z4k _ _ _).1 hj with hj|rfl
    · obtain⟨o',env',v',a1,a2,a3,a4,a5⟩:=(h.fact j hj).ex
      exact⟨o',env',v',a1.mono (hle v),a2,a3,λhk=>h1 j (a4 hk),λhk hw=>h2 j (a5 hk hw)⟩
    ·exact⟨o,env,v,hat v,h3,h4,h5,h6⟩
 split at e
 ·
  rename_i hk
  split at e
  · rename_i hw
    split at e<;>try (simp at e;done)
    rename_i mk body he
    split at e<;>try (simp at e;done)
    rename_i hr
    simp only[Z2F,Option.some.injEq]at e
    subst e
    refine build (mk s.heap.length) _ _ _ _ (λj hj=>hj) (λj hj=>hj.imp (λh=>by simp[h]) id) (λh=>by simp[hw]at h) (λ_ hk2=>absurd hk hk2) (λhk3=>by simp[hk]at hk3) (λ_ _=>.inl (by simp)) ?_ (h.chain.mono (hle _))
    exact .snoc (h.allocs.mono (hle _)) (hat _) hk hw he hr
  · rename_i hw
    simp only[Option.some.injEq]at e
    subst e
    have hw':Z0n ops env o=false:=by simpa using hw
    exact build _ _ _ _ _ (λj hj=>hj) (λj hj=>hj) (λ_=>rfl) (λh=>by simp[hw']at h) (λhk3=>by simp[hk]at hk3) (λ_ h=>by simp[hw']at h) (h.allocs.mono (hle _)) (h.chain.mono (hle _))
 ·
  rename_i hk
  split at e<;>try (simp at e;done)
  rename_i hchk
  simp only[Y05]at hchk
  have h1:∀j,j∈Z0o s.sts->j∈Z0o (s.sts++[(i,s.base,s.new)]):=λj hj=>by rw[Z3M];simp[hj]
  have h2:∀j,(j∈s.new\/∃st∈s.sts,j∈st.2.2)->(j∈([]:List Nat)\/∃st∈s.sts++[(i,s.base,s.new)],j∈st.2.2):=by
   rintro j (hj|⟨st,hs,hj⟩)
   ·exact .inr ⟨(i,s.base,s.new),by simp,hj⟩
   ·exact .inr ⟨st,by simp[hs],hj⟩
  split at e
  · rename_i hw
    split at e<;>try (simp at e;done)
    rename_i r H' he
    simp only[Z2F]at e
    split at e<;>simp at e
    rename_i hlen
    subst e
    refine build r _ _ _ _ h1 h2 (λh=>by simp[hw]at h) (λ_ _ hk3=>absurd hk hk3) (λ_=>by rw[Z3M];simp) (λhk2=>by simp[hk]at hk2) (.nil _) ?_
    refine Chain.snoc (h.chain.mono (hle r)) (h.allocs.mono (hle r)) ⟨o,env,r,hat r,hk,hchk.1,hchk.2,by simpa using hlen,λ_=>he,λh=>by simp[hw]at h⟩
  · rename_i hw
    have hw':Z0n ops env o=false:=by simpa using hw
    simp only[Option.some.injEq]at e
    subst e
    refine build _ _ _ _ _ h1 h2 (λ_=>rfl) (λh=>by simp[hw']at h) (λ_=>by rw[Z3M];simp) (λhk2=>by simp[hk]at hk2) (.nil _) ?_
    exact Chain.snoc (h.chain.mono (hle _)) (h.allocs.mono (hle _)) ⟨o,env,_,hat _,hk,hchk.1,hchk.2,Y0d _,λh=>by simp[hw']at h,λ_=>⟨rfl,rfl⟩⟩
 ·
  rename_i hk2 hk3
  split at e
  · rename_i hw
    split at e<;>try (simp at e;done)
    rename_i r he
    simp only[Z2F,Option.some.injEq]at e
    subst e
    exact build r _ _ _ _ (λj hj=>hj) (λj hj=>hj) (λh=>by simp[hw]at h) (λ_ _ _=>⟨_,he⟩) (λh=>absurd h hk3) (λh=>absurd h hk2) (h.allocs.mono (hle r)) (h.chain.mono (hle r))
  · rename_i hw
    have hw':Z0n ops env o=false:=by simpa using hw
    simp only[Option.some.injEq]at e
    subst e
    exact build _ _ _ _ _ (λj hj=>hj) (λj hj=>hj) (λ_=>rfl) (λh=>by simp[hw']at h) (λh=>absurd h hk3) (λh=>absurd h hk2) (h.allocs.mono (hle _)) (h.chain.mono (hle _))
theorem Zdw{H0:Z00}:∀{l:List Nat}{s s':DSt},DI P gl orc ops an tm H0 s->Z7N P gl orc ops an tm l s=some s'->DI P gl orc ops an tm H0 s'
 |[],s,s',h,e=>by simp[Z7N]at e;subst e;exact h
 |i::l,s,s',h,e=>by
  simp only[Z7N]at e
  split at e<;>try (simp at e;done)
  rename_i s1 hs
  exact Zdw (ZiA h hs) e
theorem Z1x:∀(l:List Oper),(Z1h l).length=l.length
 |[]=>rfl
 |_::l=>by simp[Z1h,Z1x l]
theorem Z2v:∀(l:List Oper)(i:Nat)(v:AV),(Z1h l)[i]? = some (some v)->False
 |[],i,v,h=>by simp[Z1h]at h
 |_::l,0,v,h=>by simp[Z1h]at h
 |_::l,i+1,v,h=>by simp[Z1h]at h;exact Z2v l i v h
theorem DI.start(H:Z00):DI P gl orc ops an tm H ⟨Z1h ops,0,H,[],H,[]⟩ :=
 ⟨λi v h=>(Z2v _ _ _ h).elim,λi h=>by simp[Z1B]at h,.nil _,.nil _,Z1x _⟩
end run
end Go.Abs
end
section
namespace Go.Abs
open Go.RowKit
theorem Z72{sn:Z0l}{ι ι':Z0i}:∀(cs:List AV)(acc:List Nat),(∀b,b∈refsL cs acc->∀p,ι b=some p -> ι' b=some p)->∀(i:Nat)(c:AV)(v:Value),cs[i]? = some c->VR sn ι c v->VR sn ι' c v
 |[],acc,h,i,c,v,hc,hv=>by simp at hc
 |x::cs,acc,h,0,c,v,hc,hv=>by simp at hc;subst hc;exact Z1Q x (refsL cs acc) v (λb hb=>h b (by simpa[refsL]using hb)) hv
 |x::cs,acc,h,i+1,c,v,hc,hv=>Z72 cs acc (λb hb=>h b (by simp only[refsL];exact Z1S x _ b hb)) i c v (by simpa using hc) hv
theorem Zhn{sn:Z0l}{ι ι':Z0i}:∀(es:List (AV×AV×Nat))(acc:List Nat)(l:List MapEntry),(∀b,b∈Z9U es acc->∀p,ι b=some p -> ι' b=some p)->ER sn ι es l->ER sn ι' es l
 |[],acc,l,h,e=>by simpa[ER]using e
 |(k,v,n)::es,acc,l,h,e=>by
  simp only[ER]at *;obtain⟨x,l',h1,h2,h3,h4,h5⟩:=e
  exact⟨x,l',h1,Z1Q k (Z0z v (Z9U es acc)) _ (λb hb=>h b (by simpa[Z9U]using hb)) h2,
   Z1Q v (Z9U es acc) _ (λb hb=>h b (by simp only[Z9U];exact Z1S k _ b hb)) h3,h4,
   Zhn es acc l' (λb hb=>h b (by simp only[Z9U];exact Z1S k _ b (Z1S v _ b hb))) h5⟩
theorem ZdP{sn:Z0l}{ι ι':Z0i}{a:Array Value}:∀(ts:List (Nat×AV))(acc:List Nat),(∀b,b∈Ze7 ts acc->∀p,ι b=some p -> ι' b=some p)->TSR sn ι ts a->TSR sn ι' ts a
 |[],acc,h,e=>trivial
 |x::l,acc,h,⟨⟨v,h1,h2⟩,h3⟩=>⟨⟨v,h1,Z1Q x.2 (Ze7 l acc) v (λb hb=>h b (by simpa[Ze7]using hb)) h2⟩,
  ZdP l acc (λb hb=>h b (by simp only[Ze7];exact Z1S x.2 _ b hb)) h3⟩
theorem Z60{sn:Z0l}{ι ι':Z0i}{W:World}:∀(o:ABody)(p:Place),(∀b,b∈Z6m o []->∀q,ι b=some q -> ι' b=some q)->OR sn ι W o p->OR sn ι' W o p
 | .cells cs ty,p,h,e=>by
  simp only[OR]at *;obtain⟨arr,h1,h2,h3,h4⟩:=e
  refine⟨arr,h1,h2,h3,λi c hc=>?_⟩
  obtain⟨v,e1,e2⟩:=h4 i c hc
  exact⟨v,e1,Z72 cs [] (λb hb=>h b (by simpa[Z6m]using hb)) i c v hc e2⟩
 | .map es clock,p,h,e=>by
  simp only[OR]at *;obtain⟨m,h1,h2⟩:=e
  exact⟨m,h1,Zhn es [] _ (λb hb=>h b (by simpa[Z6m]using hb)) h2⟩
 | .siter s ps,p,h,e=>by simpa[OR]using e
 | .loop g ts,p,h,e=>by
  simp only[OR]at *;obtain⟨m,h1,h2,h3,h4⟩:=e
  exact⟨m,h1,h2,h3,ZdP ts [] (λb hb=>h b (by simpa[Z6m]using hb)) h4⟩
theorem Stp.absorb {sn0 sn : Z0l} {ι0 ι : Z0i} {H0 B : Z00} {W0 W : World} (h : Stp sn0 ι0 H0 W0 sn ι B W) (p : Place) (hp0 : p.sh = 0) (hw0 : W0.heap.size <= p.blk) (hlt : p.blk < W.heap.size)
  (hno:∀b q,ι b=some q->q.blk≠p.blk) (hsn:∀a v,sn a=some v->a.block≠p.blk) (body:ABody) (ho:OR sn ι W body p) :
  Stp sn0 ι0 H0 W0 sn (upd ι B.length p) (B++[⟨true,B.length,0,body⟩]) W:=by
 have hR:=h.rel
 have hn:=hR.fresh_none
 have hle:Le sn sn ι (Abs.upd ι B.length p):=Le.upd hn _
 have hcase:∀b q,Abs.upd ι B.length p b=some q->(b=B.length/\q=p)\/(b<B.length /\ ι b=some q):=by
  intro b q hq
  unfold Abs.upd at hq
  split at hq
  ·simp at hq;exact .inl ⟨by assumption,hq.symm⟩
  ·exact .inr ⟨(hR.dom b).2 ⟨q,hq⟩,hq⟩
 have hget:∀(b:Nat)(x:AObj),(B++[⟨true,B.length,0,body⟩])[b]? = some x->(b=B.length/\x=⟨true,B.length,0,body⟩)\/(b<B.length/\B[b]? = some x):=by
  intro b x hx
  rw[List.getElem?_append]at hx
  split at hx
  ·exact .inr ⟨by assumption,hx⟩
  · rw[List.getElem?_singleton]at hx;split at hx
    ·simp at hx;exact .inl ⟨by omega,hx.symm⟩
    ·cases hx
 refine⟨⟨?_,?_,?_,?_,?_,λb x q hb hq hz=>by
  rcases hcase b q hq with ⟨_,rfl⟩|⟨hlt',hq⟩
  ·exact hp0
  · rcases hget b x hb with ⟨rfl,_⟩|⟨_,hb⟩
    ·omega
    ·exact hR.shz b x q hb hq hz⟩,h.le.trans hle,?_,h.frame,h.size,h.os,h.tape,h.output,h.sfresh,?_⟩
 · intro b
   simp only[List.length_append,List.length_singleton]
   constructor
   · intro hb
     by_cases hb':b<B.length
     ·obtain⟨q,hq⟩:=(hR.dom b).1 hb';exact⟨q,hle.ι _ _ hq⟩
     ·exact⟨_,by unfold Abs.upd;rw[if_pos (by omega)]⟩
   · rintro⟨q,hq⟩
     rcases hcase b q hq with ⟨rfl,_⟩|⟨hb,_⟩<;>omega
 · intro b q hq
   rcases hcase b q hq with ⟨_,rfl⟩|⟨_,hq⟩
   ·exact hlt
   ·exact hR.blk b q hq
 · intro b x q hb ha hq
   rcases hget b x hb with ⟨rfl,rfl⟩|⟨hl,hb⟩
   · rcases hcase _ q hq with ⟨_,rfl⟩|⟨hl,_⟩
     ·exact Z0Q hle rfl ho
     ·omega
   · rcases hcase _ q hq with ⟨rfl,rfl⟩|⟨_,hq⟩
     ·omega
     ·exact Z0Q hle rfl (hR.obj b x q hb ha hq)
 · intro b b' x x' q q' hb hb' ha ha' hq hq' e
   rcases hcase b q hq with ⟨rfl,rfl⟩|⟨hl,hq1⟩<;>rcases hcase b' q' hq' with ⟨rfl,rfl⟩|⟨hl',hq1'⟩
   ·rw[hb]at hb';simp at hb';subst hb';exact⟨rfl,rfl⟩
   ·exact absurd e.symm (hno b' q' hq1')
   ·exact absurd e (hno b q hq1)
   · have hq:=hq1
     have hq':=hq1'
     rcases hget b x hb with ⟨rfl,_⟩|⟨_,hb⟩
     ·omega
     rcases hget b' x' hb' with ⟨rfl,_⟩|⟨_,hb'⟩
     ·omega
     exact hR.sep b b' x x' q q' hb hb' ha ha' hq hq' e
 · intro a v hv
   obtain⟨h1,h2,h3⟩:=hR.snap a v hv
   refine⟨h1,h2,λb x q hb ha hq=>?_⟩
   rcases hcase b q hq with ⟨rfl,rfl⟩|⟨hl,hq⟩
   ·exact Ne.symm (hsn a v hv)
   · rcases hget b x hb with ⟨rfl,_⟩|⟨_,hb⟩
     ·omega
     exact h3 b x q hb ha hq
 · intro b q hq
   rcases hcase b q hq with ⟨rfl,rfl⟩|⟨_,hq⟩
   ·exact .inr (.inl hw0)
   ·exact h.fresh b q hq
 · intro b o hb
   obtain⟨o',e1,e2⟩:=h.evo b o hb
   have hl:b<B.length:=(Y09.1 e1).1
   exact⟨o',by rw[Y0u hl];exact e1,e2⟩
structure PRec where
 op:Nat
 id:Nat
 blk:Nat
 n:Nat
 body:ABody
def PRec.pl(r:PRec):Place:=⟨r.blk,0,r.n⟩
def pex(ι : Z0i)(pend:List PRec):Z0i:=λb=>match ι b with|some q=>some q|none=>(pend.find? λr=>Y00 r.id b).map (·.pl)
theorem Z67(sn:Z0l)(ι : Z0i)(pend:List PRec):Le sn sn ι (pex ι pend):=⟨λ_ _ h=>h,λb p h=>by simp[pex,h]⟩
theorem Z5a{ι : Z0i}{pend:List PRec}{b:Nat}{q:Place}(h:pex ι pend b=some q) : ι b=some q\/(ι b=none/\∃r∈pend,r.id=b/\r.pl=q):=by
 unfold pex at h
 split at h
 ·exact .inl (by rw[<- h];assumption)
 · rename_i hn
   simp at h
   obtain⟨r,hr,rfl⟩:=h
   exact .inr ⟨hn,r,List.mem_of_find?_eq_some hr,by have:=List.find?_some hr;simpa using this,rfl⟩
def Z7S(pend:List PRec):Prop:=pend.Pairwise λr r'=>r.pl.blk≠r'.pl.blk/\r.id≠r'.id
theorem Z4m:∀{pend:List PRec},Z7S pend->∀r∈pend,pend.find? (λr'=>Y00 r'.id r.id)=some r
 |[],h,r,hr=>by simp at hr
 |x::l,h,r,hr=>by
  unfold Z7S at h
  rw[List.pairwise_cons]at h
  rcases Y07.1 hr with rfl|hr
  ·simp
  · have hne:x.id≠r.id:=(h.1 r hr).2
    have:Y00 x.id r.id=false:=by cases hq:Y00 x.id r.id with|false=>rfl|true=>exact absurd (Y04 hq) hne
    rw[List.find?_cons,this]
    exact Z4m h.2 r hr
theorem ZdK{pend:List PRec}(h:Z7S pend){r r':PRec}(hr:r∈pend)(hr':r'∈pend)(hid:r.id≠r'.id):r.pl.blk≠r'.pl.blk:=by
 unfold Z7S at h
 induction h with
 |nil=>simp at hr
 |cons hx _ ih =>
  rcases Y07.1 hr with rfl|h1<;>rcases Y07.1 hr' with rfl|h2
  ·exact absurd rfl hid
  ·exact (hx r' h2).1
  ·exact Ne.symm (hx r h1).1
  ·exact ih h1 h2
theorem Z6D{ι : Z0i}{pend:List PRec}(h:Z7S pend){r:PRec}(hr:r∈pend)(hn : ι r.id=none):pex ι pend r.id=some r.pl:=by
 simp[pex,hn,Z4m h r hr]
section sim
variable {P:Program} {gl:Z0w} {orc:Orc} {ops:List Oper} {an:List Nat} {tm:Tr} {vals:List (Option AV)}
theorem At.uniq{i:Nat}{o o':Oper}{env env':List (Nat×AV)}{v v':AV}(h:At ops an tm vals i o env v)(h':At ops an tm vals i o' env' v'):o=o'/\env=env'/\v=v':=by
 have h1:=h.op;rw[h'.op]at h1;simp at h1;subst h1
 have h2:=h.env;rw[h'.env]at h2;simp at h2;subst h2
 have h3:=h.val;rw[h'.val]at h3;simp at h3;subst h3
 exact⟨rfl,rfl,rfl⟩
def IdOf(P:Program)(gl:Z0w)(ops:List Oper)(an:List Nat)(tm:Tr)(vals:List (Option AV))(i id:Nat)(body:ABody):Prop :=
 ∃o env mk,At ops an tm vals i o env (mk id)/\kind o=2/\Z0n ops env o=true/\Z3w P (Z1o gl env) o=some (mk,body)
theorem IdOf.uniq{i id id':Nat}{body body':ABody}(h:IdOf P gl ops an tm vals i id body)(h':IdOf P gl ops an tm vals i id' body'):id=id'/\body=body':=by
 obtain⟨o,env,mk,h1,h2,h3,h4⟩:=h
 obtain⟨o',env',mk',k1,k2,k3,k4⟩:=h'
 obtain⟨rfl,rfl,e⟩:=h1.uniq k1
 rw[h4]at k4;simp at k4;obtain⟨rfl,rfl⟩:=k4
 exact⟨Zce h4 e,rfl⟩
theorem Allocs.ids{B H:Z00}{nw:List Nat}(k:Allocs P gl ops an tm vals B nw H):∀i∈nw,∃id body,IdOf P gl ops an tm vals i id body/\B.length<=id/\id<H.length:=by
 induction k with
 |nil=>simp
 |snoc hk ha hkd hw he hr ih =>
  intro i hi
  rcases Y08.1 hi with hi|hi
  · obtain⟨id,body,h1,h2,h3⟩:=ih i hi
    exact⟨id,body,h1,h2,by simp;omega⟩
  · simp at hi;subst hi
    have:=hk.length
    exact⟨_,_,⟨_,_,_,ha,hkd,hw,he⟩,by omega,by simp⟩
theorem Allocs.inj{B H:Z00}{nw:List Nat}(k:Allocs P gl ops an tm vals B nw H):∀i∈nw,∀j∈nw,∀id b b',IdOf P gl ops an tm vals i id b->IdOf P gl ops an tm vals j id b'->i=j:=by
 induction k with
 |nil=>simp
 |snoc hk ha hkd hw he hr ih =>
  intro i hi j hj id b b' h1 h2
  have hnew:IdOf P gl ops an tm vals _ _ _:=⟨_,_,_,ha,hkd,hw,he⟩
  rcases Y08.1 hi with hi1|hi1<;>rcases Y08.1 hj with hj1|hj1
  ·exact ih i hi1 j hj1 id b b' h1 h2
  · simp at hj1;subst hj1
    obtain⟨rfl,_⟩:=h2.uniq hnew
    obtain⟨id',_,k1,k2,k3⟩:=hk.ids i hi1
    obtain⟨rfl,_⟩:=h1.uniq k1;omega
  · simp at hi1;subst hi1
    obtain⟨rfl,_⟩:=h1.uniq hnew
    obtain⟨id',_,k1,k2,k3⟩:=hk.ids j hj1
    obtain⟨rfl,_⟩:=h2.uniq k1;omega
  ·simp at hi1 hj1;rw[hi1,hj1]
def news:List (Nat×Z00×List Nat)->List Nat
 |[]=>[]
 |(_,_,nw)::l=>nw++news l
theorem Chain.ids {B Bf H : Z00} {l : List (Nat × Z00 × List Nat)} {nf : List Nat} (k : Chain P gl orc ops an tm vals B l Bf) (kf : Allocs P gl ops an tm vals Bf nf H) :
  ∀i∈news l++nf,∃id body,IdOf P gl ops an tm vals i id body/\B.length<=id:=by
 induction k with
 |nil B=>intro i hi;simp[news]at hi;obtain⟨id,b,h1,h2,_⟩:=kf.ids i hi;exact⟨id,b,h1,h2⟩
 |cons ha he _ ih =>
  intro i hi
  simp only[news,Y0j]at hi
  rcases Y08.1 hi with hi|hi
  ·obtain⟨id,b,h1,h2,_⟩:=ha.ids i hi;exact⟨id,b,h1,h2⟩
  · obtain⟨id,b,h1,h2⟩:=ih kf i hi
    obtain⟨o,env,v,_,_,_,_,hlen,_⟩:=he.ex
    have:=ha.length
    exact⟨id,b,h1,by omega⟩
theorem Chain.inj {B Bf H : Z00} {l : List (Nat × Z00 × List Nat)} {nf : List Nat} (k : Chain P gl orc ops an tm vals B l Bf) (kf : Allocs P gl ops an tm vals Bf nf H) :
  ∀i∈news l++nf,∀j∈news l++nf,∀id b b',IdOf P gl ops an tm vals i id b->IdOf P gl ops an tm vals j id b'->i=j:=by
 induction k with
 |nil B=>intro i hi j hj;simp[news]at hi hj;exact kf.inj i hi j hj
 |cons ha he hc ih =>
  intro i hi j hj id b b' h1 h2
  simp only[news,Y0j]at hi hj
  obtain⟨o,env,v,_,_,_,_,hlen,_⟩:=he.ex
  rcases Y08.1 hi with hi|hi<;>rcases Y08.1 hj with hj|hj
  ·exact ha.inj i hi j hj id b b' h1 h2
  · obtain⟨id1,_,k1,k2,k3⟩:=ha.ids i hi
    obtain⟨id2,_,m1,m2⟩:=hc.ids kf j hj
    obtain⟨rfl,_⟩:=h1.uniq k1
    obtain⟨rfl,_⟩:=h2.uniq m1
    omega
  · obtain⟨id1,_,k1,k2,k3⟩:=ha.ids j hj
    obtain⟨id2,_,m1,m2⟩:=hc.ids kf i hi
    obtain⟨rfl,_⟩:=h2.uniq k1
    obtain⟨rfl,_⟩:=h1.uniq m1
    omega
  ·exact ih kf i hi j hj id b b' h1 h2
theorem Chain.mem{B Bf:Z00}{l:List (Nat×Z00×List Nat)}(k:Chain P gl orc ops an tm vals B l Bf):∀st∈l,∃H B',EffOK P gl orc ops an tm vals st.1 st.2.2 H B':=by
 induction k with
 |nil=>simp
 |cons ha he _ ih =>
  intro st hst
  rcases Y07.1 hst with rfl|hst
  ·exact⟨_,_,he⟩
  ·exact ih st hst
theorem Z8v {sn0 sn : Z0l} {ι0 ι : Z0i} {H0 B H : Z00} {W0 W : World} {nw : List Nat} (k : Allocs P gl ops an tm vals B nw H) {pend : List PRec} (hap : Z7S pend) (h : Stp sn0 ι0 H0 W0 sn ι B W)
  (hp:∀r∈pend,IdOf P gl ops an tm vals r.op r.id r.body/\W0.heap.size<=r.pl.blk/\r.pl.blk<W.heap.size/\(∀b q,ι b=some q->q.blk≠r.pl.blk)/\(∀a v,sn a=some v->a.block≠r.pl.blk)/\B.length<=r.id/\OR sn (pex ι pend) W r.body r.pl)
  (hc:∀i∈nw,∃r∈pend,r.op=i) :
  ∃ι',Stp sn0 ι0 H0 W0 sn ι' H W/\(∀b q,ι' b=some q -> ι b=some q\/∃r∈pend,r.id=b/\r.pl=q/\b<H.length)/\(∀b q,pex ι pend b=some q->b<H.length -> ι' b=some q)/\Le sn sn ι ι':=by
 induction k with
 |nil=>exact⟨ι,h,λb q hq=>.inl hq,λb q hq hlt=>by
  rcases Z5a hq with hq|⟨hn,r,hr,hid,_⟩
  ·exact hq
  ·have:=(hp r hr).2.2.2.2.2.1;omega,Le.refl _ _⟩
 |@snoc H nw i o env mk body hk ha hkd hw he hr ih =>
  obtain⟨ι1,s1,e1,e2,e3⟩:=ih λj hj=>hc j (by simp[hj])
  obtain⟨r,hrm,hro⟩:=hc i (by simp)
  obtain⟨q1,q2,q3,q4,q5,q6,q7⟩:=hp r hrm
  have hidof:IdOf P gl ops an tm vals i H.length body:=⟨o,env,mk,ha,hkd,hw,he⟩
  rw[hro]at q1
  obtain⟨hid,hbody⟩:=q1.uniq hidof
  have hno:∀b q,ι1 b=some q->q.blk≠r.pl.blk:=by
   intro b q hq
   rcases e1 b q hq with hq|⟨r',hr',hid',rfl,hlt⟩
   ·exact q4 b q hq
   ·exact ZdK hap hr' hrm (by omega)
  have hor:OR sn ι1 W r.body r.pl:=Z60 _ _ (λb hb q hq=>e2 b q hq (by rw[hbody]at hb;exact Z5W hr b hb)) q7
  have hs:=s1.absorb r.pl rfl q2 q3 hno q5 body (hbody ▸ hor)
  have hn1:=s1.rel.fresh_none
  refine⟨upd ι1 H.length r.pl,hs,?_,?_,e3.trans (Le.upd hn1 _)⟩
  · intro b q hq
    unfold upd at hq
    split at hq
    ·rename_i hb;simp at hq;exact .inr ⟨r,hrm,by omega,hq,by simp;omega⟩
    · rcases e1 b q hq with h1|⟨r',h1,h2,h3,h4⟩
      ·exact .inl h1
      ·exact .inr ⟨r',h1,h2,h3,by simp;omega⟩
  · intro b q hq hlt
    unfold upd
    split
    · rename_i hb
      rcases Z5a hq with hq|⟨hn,r',hr',hid',hpl⟩
      ·have:=(h.rel.dom b).2 ⟨q,hq⟩;omega
      · have : r' = r := by
         have f1:=Z4m hap r hrm
         have f2:=Z4m hap r' hr'
         rw[hid',hb]at f2;rw[hid]at f1
         rw[f1]at f2;simpa using f2.symm
        rw[<- hpl,this]
    · rename_i hb
      exact e2 b q hq (by simp at hlt;omega)
structure Sim (P:Program) (gl:Z0w) (orc:Orc) (ops:List Oper) (an:List Nat) (tm:Tr) (s:DSt) (sn0:Z0l) (ι0:Z0i) (H0:Z00) (W0:World) (ds:List Deferred) (D:Nat->Bool) (a:Act) (W:World):Prop where
 ex:∃ (sn:Z0l) (ι : Z0i) (l1 l2:List (Nat×Z00×List Nat)) (B:Z00) (pend:List PRec),
  s.sts=l1++l2/\Chain P gl orc ops an tm s.vals B l2 s.base/\(∀i∈Z0o l1,D i=true)/\(∀i∈Z0o l2,D i=false)/\Stp sn0 ι0 H0 W0 sn ι B W/\Z7S pend /\
  (∀ r ∈ pend, IdOf P gl ops an tm s.vals r.op r.id r.body /\ D r.op = true /\ r.op ∈ news l2 ++ s.new /\ W0.heap.size <= r.pl.blk /\ r.pl.blk < W.heap.size /\ (∀ b q, ι b = some q -> q.blk ≠ r.pl.blk) /\
    (∀a v,sn a=some v->a.block≠r.pl.blk)/\B.length<=r.id/\OR sn (pex ι pend) W r.body r.pl) /\
  (∀i∈news l2++s.new,D i=true->∃r∈pend,r.op=i) /\
  (∀t u,Z1d s.vals D t ops 0 (Z15 tm t)=some u->∃v,a.tmps[t]? = some v/\VR sn (pex ι pend) u v)/\a.defers=ds
theorem Zff{l:List (Nat×Z00×List Nat)}{st:Nat×Z00×List Nat}(h:st∈l):st.1∈Z0o l:=by
 induction l with
 |nil=>simp at h
 |cons x l ih =>
  obtain⟨a,b,c⟩:=x
  rcases Y07.1 h with rfl|h
  ·simp[Z0o]
  ·simp[Z0o,ih h]
theorem Zi4{l:List (Nat×Z00×List Nat)}{i:Nat}:i∈news l ↔ ∃st∈l,i∈st.2.2:=by
 induction l with
 |nil=>simp[news]
 |cons x l ih=>obtain⟨a,b,c⟩:=x;simp[news,ih]
theorem Zn1{ρ : Operand->Option AV}{o:Oper}(hk:kind o=0)(H H':Z00):Z0q P ρ H o=Z0q P ρ H' o:=by
 unfold Z0q Z2q
 unfold kind at hk
 cases hop:o.op<;>simp only[hop]at hk⊢ <;> first|rfl|(cases hk;done)|skip
 case slice t x lo hi mx=>cases mx<;>cases hi<;>rfl
 case call c =>
  split at hk<;>first|(cases hk;done)|(rename_i hc;rw[hc])
theorem Zeu(o:Oper):kind o=0\/kind o=1\/kind o=2\/kind o=3:=by
 unfold kind
 split<;>first|(simp;done)|(split<;>simp)
end sim
end Go.Abs
end
section
namespace Go.Abs
open Go.RowKit
theorem ZeJ{ops:List Oper}{i:Nat}{o:Oper}(ho:ops[i]? = some o){e:Edge}(he:e∈o.after.toList)(hb:Region.binds .any e=true):bit ((Z3u ops []).getD i 0) e.on=true:=by
 obtain⟨r,h1,h2,h3⟩:=Z5v ops []
 simp only[Y0p]at h1 h3
 rw[h1]
 have:=h3 i o ho
 rw[List.getD,this]
 simp only[Option.getD_some]
 exact (Z2x _ _ _).2 ⟨e,he,hb,.inl rfl⟩
theorem Z4n(ops:List Oper):(Z3u ops []).length=ops.length:=by
 obtain⟨r,h1,h2,_⟩:=Z5v ops []
 rw[h1];simpa using h2
structure Checked (P:Program) (gl:Z0w) (orc:Orc) (ops:List Oper) (tm:Tr) (H0:Z00) (s:DSt):Prop where
 di:DI P gl orc ops (Z3u ops []) tm H0 s
 tmps:Z64 ops (Z3u ops []) ops 0=true
 bound:Z5S (Z3u ops []) 0=true
 chain:Z5R (Z3u ops []) (Z0o s.sts)=true
 done:s.done+1=2 ^ ops.length
 stages:Z1R P gl tm ops (Z3u ops []) s ops 0=true
section steps
variable {P:Program} {gl:Z0w} {orc:Orc} {ops:List Oper} {tm:Tr} {H0:Z00} {s:DSt}
theorem Checked.fact(c:Checked P gl orc ops tm H0 s){i:Nat}(hi:i<ops.length):Fact P gl ops (Z3u ops []) tm s i:=by
 refine c.di.fact i ?_
 have h:s.done=2 ^ ops.length-1:=by have:=c.done;omega
 rw[Z5t,h,Nat.testBit_two_pow_sub_one];simpa using hi
theorem Z55 {an : List Nat} : ∀ (l : List Oper) (j k : Nat) (o : Oper), Z1R P gl tm ops an s l j = true -> l[k]? = some o -> kind o = 1 ->
  ∀env v,At ops an tm s.vals (j+k) o env v->Z0n ops env o=true->stages P gl o env v (j+k) an (an.getD (j+k) 0) veq s.sts s.base=true\/stages P gl o env v (j+k) an (an.getD (j+k) 0) veq (Zbi (Z2y (an.getD (j+k) 0) s.base s.new s.heap) s.sts) (Z2y (an.getD (j+k) 0) s.base s.new s.heap s.base)=true
 |[],j,k,o,h,ho,_,_,_,_,_=>by simp at ho
 |x::l,j,k,o,h,ho,hk,env,v,hat,hw=>by
  simp only[Z1R,Y05]at h
  cases k with
  |zero =>
   simp at ho;subst ho
   have h1:=h.1
   simp only[Nat.add_zero]at hat⊢
   rw[hk]at h1
   simp only[hat.val,hat.env,hw,if_true]at h1
   simpa only[Nat.beq_refl,if_true,Y0c]using h1
  |succ k =>
   have:=Z55 l (j+1) k o h.2 (by simpa using ho) hk env v (by rw[show j+1+k=j+(k+1) from by omega];exact hat) hw
   rwa [show j+1+k=j+(k+1) from by omega]at this
def ZmP(l:List (Nat×Z00×List Nat))(B:Z00):Z00:=match l with|[]=>B|(_,C,_)::_=>C
theorem Zi7(F:Z00->Z00)(l l':List (Nat×Z00×List Nat)):Zbi F (l++l')=Zbi F l++Zbi F l':=by
 induction l with
 |nil=>rfl
 |cons x l ih=>obtain⟨a,b,c⟩:=x;simp only[List.cons_append,Zbi,ih]
theorem ZcY(F:Z00->Z00)(l:List (Nat×Z00×List Nat)):Z0o (Zbi F l)=Z0o l:=by
 induction l with
 |nil=>rfl
 |cons x l ih=>obtain⟨a,b,c⟩:=x;simp only[Zbi,Z0o,ih]
theorem Zi6(F:Z00->Z00)(l:List (Nat×Z00×List Nat))(B:Z00):ZmP (Zbi F l) (F B)=F (ZmP l B):=by
 cases l with
 |nil=>rfl
 |cons x l=>obtain⟨a,b,c⟩:=x;rfl
theorem Z9J{aj:Nat}:∀(nw:List Nat)(t:Z00)(k:Nat)(o:AObj),(Zbv aj nw t)[k]? = some o->∃j,nw[k]? = some j/\bit aj j=true/\t[k]? = some o
 |[],t,k,o,h=>by simp[Zbv]at h
 |j::nw,[],k,o,h=>by simp[Zbv]at h
 |j::nw,x::t,k,o,h=>by
  simp only[Zbv]at h
  split at h
  · rename_i hb
    cases k with
    |zero=>simp at h;subst h;exact⟨j,rfl,hb,rfl⟩
    |succ k =>
     obtain⟨j',h1,h2,h3⟩:=Z9J nw t k o (by simpa using h)
     exact⟨j',by simpa using h1,h2,by simpa using h3⟩
  ·simp at h
theorem Allocs.get{an:List Nat}{vals:List (Option AV)}{B H:Z00}{nw:List Nat}(h:Allocs P gl ops an tm vals B nw H):∀(k j:Nat),nw[k]? = some j->∃body,IdOf P gl ops an tm vals j (B.length+k) body/\H[B.length+k]? = some ⟨true,B.length+k,0,body⟩:=by
 induction h with
 |nil=>intro k j hk;simp at hk
 |@snoc H nw i o env mk body hk ha hkd hw he hr ih =>
  intro k j hkj
  have hlen:=hk.length
  rw[List.getElem?_append]at hkj
  split at hkj
  · rename_i hlt
    obtain⟨body',h1,h2⟩:=ih k j hkj
    exact⟨body',h1,by rw[Y0u (by omega)];exact h2⟩
  · rename_i hge
    rw[List.getElem?_singleton]at hkj
    split at hkj
    · rename_i h0
      simp at hkj;subst hkj
      have e:B.length+k=H.length:=by omega
      rw[e]
      exact⟨body,⟨o,env,mk,ha,hkd,hw,he⟩,by simp⟩
    ·cases hkj
theorem Z52 {o : Oper} {env : List (Nat × AV)} {v : AV} {j : Nat} {an : List Nat} {aj : Nat} {D : Nat -> Bool} (hj : D j = false) (hanc : ∀ k, bit aj k = true -> D k = true) (hcl : ∀ e, D e = true -> bit (an.getD e 0) j = true -> D j = true) :
  ∀(l1 l2:List (Nat×Z00×List Nat))(B:Z00),stages P gl o env v j an aj veq (l1++l2) B=true->(∀i∈Z0o l1,D i=true)->(∀i∈Z0o l2,D i=false) ->
   Z0q P (Z1o gl env) (ZmP l2 B) o=some v
 |[],[],B,h,_,_=>by
  simp only[List.append_nil,stages]at h
  split at h<;>try (simp at h;done)
  rename_i u hu
  show Z0q P (Z1o gl env) B o=some v
  rw[hu];have:=Z9C _ _ h;rw[this]
 |[],(e,C,nw)::l2,B,h,_,h2=>by
  simp only[Y0p,stages]at h
  have he:D e=false:=h2 e (by simp[Z0o])
  split at h
  ·rename_i hb;have:=hanc e hb;rw[he]at this;cases this
  · simp only[Y05]at h
    have h1:=h.1
    split at h1<;>try (simp at h1;done)
    rename_i u hu
    show Z0q P (Z1o gl env) C o=some v
    rw[hu];have:=Z9C _ _ h1;rw[this]
 |(e,C,nw)::l1,l2,B,h,h1,h2=>by
  simp only[List.cons_append,stages]at h
  have he:D e=true:=h1 e (by simp[Z0o])
  have h1':∀i∈Z0o l1,D i=true:=λi hi=>h1 i (by simp[Z0o,hi])
  split at h
  ·exact Z52 hj hanc hcl l1 l2 B h h1' h2
  · simp only[Y05,Y0c]at h
    rcases h.2 with hb|hr
    ·have:=hcl e he hb;rw[hj]at this;cases this
    ·exact Z52 hj hanc hcl l1 l2 B hr h1' h2
theorem Z2z{an:List Nat}:∀(l:List Nat)(k e f:Nat),Z5R an l=true->l[k]? = some e->l[k+1]? = some f->bit (an.getD f 0) e=true
 |[],k,e,f,h,h1,h2=>by simp at h1
 |[_],k,e,f,h,h1,h2=>by simp at h2
 |a::b::l,k,e,f,h,h1,h2=>by
  simp only[Z5R,Y05]at h
  cases k with
  |zero=>simp at h1 h2;subst h1;subst h2;exact h.1
  |succ k=>exact Z2z (b::l) k e f h.2 (by simpa using h1) (by simpa using h2)
theorem Z1V(l l':List (Nat×Z00×List Nat)):Z0o (l++l')=Z0o l++Z0o l':=by
 induction l with
 |nil=>rfl
 |cons x l ih=>obtain⟨a,b,c⟩:=x;simp[Z0o,ih]
theorem Zn0 {sn : Z0l} {ι : Z0i} {a : Act} {d : Option Tmp} {t : Nat} {u v0 : AV} {v : Value} {x : Option AV}
  (hold:∀u,x=some u->∃y,a.tmps[t]? = some y/\VR sn ι u y) (hv:VR sn ι v0 v) (h:(if (match d with|some d=>Y00 d t|none=>false)=true then some v0 else x)=some u) (hin:∀d',d=some d'->d'<a.tmps.size) :
  ∃y,(a.put d v).tmps[t]? = some y/\VR sn ι u y:=by
 cases d with
 |none=>simp at h;exact hold u h
 |some d =>
  have h:(if Y00 d t=true then some v0 else x)=some u:=h
  simp only[Act.put,Y0x]
  split at h
  · rename_i hd
    have:=Y04 hd;subst this
    simp at h;subst h
    have:=hin d rfl
    exact⟨v,by simp[this],hv⟩
  · rename_i hd
    have hne:d≠t:=by rintro rfl;exact hd (by simp)
    rw[if_neg hne];exact hold u h
theorem Zml (c : Checked P gl orc ops tm H0 s) {D : Nat -> Bool} (hD : Zbe ops D) {i : Nat} {o : Oper} {env : List (Nat × AV)} {v : AV} (hat : At ops (Z3u ops []) tm s.vals i o env v)
  (hanc:∀k,bit ((Z3u ops []).getD i 0) k=true->D k=true) (hi:D i=false):∀t u,Z1O t env=some u->Z1d s.vals D t ops 0 (Z15 tm t)=some u:=by
 intro t u h
 obtain⟨hmem,hl⟩:=Z8o _ _ hat.env t u h
 rw[<- hl]
 refine Z1K ops 0 _ λk x hx hd=>?_
 have hok:=Z4A ops 0 i o c.tmps hat.op
 simp only[Z1a,Y05,Y06]at hok
 have hw:=List.all_eq_true.1 hok.1 t hmem
 have:=Z1e ops 0 k x hw hx hd
 simp only[Y06]at this⊢
 rcases this with rfl|h1|h1
 · rw[hi]
   cases hb:bit ((Z3u ops []).getD k 0) k with
   |false=>rfl
   |true=>have:=hanc k hb;rw[hi]at this;cases this
 ·rw[h1,hanc k h1]
 · cases hDk:D k with
   |false =>
    cases hb:bit ((Z3u ops []).getD i 0) k with
    |false=>rfl
    |true=>have:=hanc k hb;rw[hDk]at this;cases this
   |true =>
    have:=Z35 hD k i x hx (λe he hb=>hD k x hx hDk e he hb) h1
    rw[hi]at this;cases this
theorem Zet (c : Checked P gl orc ops tm H0 s) {D D' : Nat -> Bool} (hD : Zbe ops D) {i : Nat} {o : Oper} {env : List (Nat × AV)} {v : AV} (hat : At ops (Z3u ops []) tm s.vals i o env v)
  (hi:D i=false) (hD':∀k,D' k=(D k || Y00 k i)) (t:Nat):Z1d s.vals D' t ops 0 (Z15 tm t)=if Z2t o t=true then some v else Z1d s.vals D t ops 0 (Z15 tm t):=by
 refine Z7i ops 0 _ o hat.op (by simpa using hat.val) (by simpa using hD') ?_ (by simpa using hi)
 intro k x hx h1 h2 h3
 simp only[Y06]
 have hok:=Z4A ops 0 i o c.tmps hat.op
 simp only[Z1a,Y05,Y06]at hok
 have hd:∃d,o.dst=some d/\d=t:=by
  unfold Z2t at h1
  split at h1
  ·rename_i d hd;exact⟨d,hd,Y04 h1⟩
  ·cases h1
 obtain⟨d,hd,rfl⟩:=hd
 have hw:=hok.2
 rw[hd]at hw
 have:=Z1e ops 0 k x hw hx h2
 simp only[Y06]at this
 have hil:i<ops.length:=(Y09.1 hat.op).1
 rcases this with rfl|h4|h4
 ·omega
 · have hb:=Z2A (Z3u ops []) 0 i c.bound (by rw[Z4n];exact hil)
   simp only[Y06]at hb
   have:=Zh1 hb h4;omega
 · cases hDk:D k with
   |false=>rfl
   |true =>
    have:=Z35 hD k i x hx (λe he hb=>hD k x hx hDk e he hb) h4
    rw[hi]at this;cases this
theorem ZdW {sn : Z0l} {ι : Z0i} {a : Act} {ops : Array Oper} {an : List Nat} {o : Oper} {env : List (Nat × AV)} {v : AV} {i : Nat} {vals : List (Option AV)} (hat : At ops.toList an tm vals i o env v)
  (hv:∀t u,Z1O t env=some u->∃y,a.tmps[t]? = some y/\VR sn ι u y):Region.wanted o (yielded ops a.tmps)=Z0n ops.toList env o:=by
 unfold Region.wanted Z0n
 cases hg:o.guard with
 |none=>rfl
 |some jw =>
  obtain⟨j,want⟩:=jw
  simp only[Y0g]
  cases hj:ops[j]? with
  |none=>simp[yielded,hj]
  |some g =>
   simp only
   cases hd:g.dst with
   |none=>simp[yielded,hj,hd]
   |some d =>
    simp only
    have hmem:d∈looks ops.toList o:=by simp[looks,hg,Y0g,hj,hd]
    obtain⟨u,hu⟩:=ZaD _ _ hat.env d hmem
    obtain⟨y,h1,h2⟩:=hv d u hu
    rw[hu]
    unfold yielded
    simp only[hj,Option.bind_some,hd,h1]
    cases u with
    |bool b=>cases h2.bool;simp
    |_=>simp only[VR]at h2;cases y<;>first|rfl|(exfalso;simp at h2)
theorem Z7u {sn : Z0l} {ι : Z0i} {a : Act} {env : List (Nat × AV)} (hg : GlOK gl sn) (hv : ∀ t u, Z1O t env = some u -> ∃ y, a.tmps[t]? = some y /\ VR sn ι u y) :
  ∀x u,Z1o gl env x=some u->VR sn ι u (a.eval x):=by
 intro x u h
 cases x with
 |tmp t =>
  obtain⟨v,h1,h2⟩:=hv t u h
  have:a.eval (.tmp t)=v:=by simp[Act.eval,Y0t,h1]
  rw[this];exact h2
 |const v=>exact Z8c v u h
 |global g =>
  simp only[Z1o]at h;split at h<;>simp at h
  subst h;rename_i cs hcs
  simp only[VR,Act.eval];exact⟨g,0,rfl,hg g cs hcs⟩
 |func f=>simp[Z1o]at h;subst h;simp[VR,Act.eval,LR]
theorem Z4J{vals:List (Option AV)}:∀{l:List Oper}{i:Nat}{tm tm':Tr},Z1w vals l i tm=some tm'->∀t,tex tm' t=tex tm t
 |[],i,tm,tm',h,t=>by simp[Z1w]at h;subst h;rfl
 |o::l,i,tm,tm',h,t=>by
  simp only[Z1w]at h
  split at h<;>try (simp at h;done)
  split at h<;>try (simp at h;done)
  rename_i tm1 hp
  rw[Z4J h t]
  cases hd:o.dst with
  |none=>rw[hd]at hp;simp[Z5z]at hp;subst hp;rfl
  |some d=>rw[hd]at hp;exact (Z3e _ _ _ _ hp).2.2 t
theorem Z3V {vals : List (Option AV)} : ∀ (l : List Oper) (i : Nat) (tm tm' : Tr), Z1w vals l i tm = some tm' ->
  (∀o∈l,∀d,o.dst=some d->tex tm d=true)/\∀t (acc:Option AV),acc=Z15 tm t->Z15 tm' t=Z1d vals (λ_=>true) t l i acc
 |[],i,tm,tm',h=>by simp[Z1w]at h;subst h;exact⟨by simp,λt acc e=>by simp[Z1d,e]⟩
 |o::l,i,tm,tm',h=>by
  simp only[Z1w]at h
  split at h<;>try (simp at h;done)
  rename_i v hv
  split at h<;>try (simp at h;done)
  rename_i tm1 hp
  obtain⟨h1,h2⟩:=Z3V l (i+1) tm1 tm' h
  have hput:(∀d,o.dst=some d->tex tm d=true)/\(∀t,Z15 tm1 t=if Z2t o t=true then some v else Z15 tm t)/\∀t,tex tm1 t=tex tm t:=by
   unfold Z2t
   cases hd:o.dst with
   |none=>rw[hd]at hp;simp[Z5z]at hp;subst hp;exact⟨by simp,by simp,λ_=>rfl⟩
   |some d =>
    rw[hd]at hp
    obtain⟨h3,h4,h5⟩:=Z3e _ _ _ _ hp
    refine⟨λd' e=>by simp at e;subst e;exact h3,λt=>?_,h5⟩
    rw[h4]
    by_cases e:t=d
    ·simp[e]
    ·rw[if_neg e,if_neg];simpa using Ne.symm e
  refine⟨?_,?_⟩
  · intro x hx d hd
    rcases Y07.1 hx with rfl|hx
    ·exact hput.1 d hd
    · have hy:=h1 x hx d hd
      rw[hput.2.2]at hy;exact hy
  · intro t acc e
    rw[h2 t _ rfl,Z1d]
    congr 1
    rw[hput.2.1,hv,e];simp
end steps
end Go.Abs
end
section
namespace Go.Abs
open Go.RowKit
theorem Z8l:∀(l:List Bool)(i:Nat),l[i]? = some false->((l.set i true).filter id).length=(l.filter id).length+1
 |[],i,h=>by simp at h
 |x::l,0,h=>by simp at h;subst h;simp
 |x::l,i+1,h=>by
  simp at h
  have:=Z8l l i h
  cases x<;>simp[this]
section draw
variable {P:Program} {gl:Z0w} {orc:Orc} {ops:Array Oper} {tm:Tr} {H0:Z00} {s:DSt} {sn0:Z0l} {ι0:Z0i} {W0:World} {ds:List Deferred}
theorem Z6S {sn sn' : Z0l} {j j' : Z0i} {a : Act} {D D' : Nat -> Bool} {o : Oper} {v : AV} {y : Value} (hle : Le sn sn' j j') (hv : VR sn' j' v y)
  (hw:∀t,Z1d s.vals D' t ops.toList 0 (Z15 tm t)=if Z2t o t=true then some v else Z1d s.vals D t ops.toList 0 (Z15 tm t)) (hsz:∀d,o.dst=some d->d<a.tmps.size)
  (ht:∀t u,Z1d s.vals D t ops.toList 0 (Z15 tm t)=some u->∃x,a.tmps[t]? = some x/\VR sn j u x) :
  ∀t u,Z1d s.vals D' t ops.toList 0 (Z15 tm t)=some u->∃x,(a.put o.dst y).tmps[t]? = some x/\VR sn' j' u x:=by
 intro t u hu
 rw[hw]at hu
 refine Zn0 (λu hu=>?_) hv hu hsz
 obtain⟨x,h1,h2⟩:=ht t u hu
 exact⟨x,h1,Z0R hle _ _ h2⟩
theorem ZdI{k i:Nat}(h:k≠i):Y00 k i=false:=by
 cases hq:Y00 k i with
 |false=>rfl
 |true=>exact absurd (Y04 hq) h
theorem Zfn {X : AV -> Prop} {rd : Option Nat} (hn : NoNum P) (hO : OrcSoundX X P gl orc) (hg0 : GlOK gl sn0) (hR0 : R sn0 ι0 H0 W0) (c : Checked P gl orc ops.toList tm H0 s) {D : Nat -> Bool} (hD : Zbe ops.toList D) {i : Nat} (hi : D i = false) {o : Oper} (ho : ops.toList[i]? = some o)
  (hanc:∀k,bit ((Z3u ops.toList []).getD i 0) k=true->D k=true) {a:Act} {W:World} (h:Sim P gl orc ops.toList (Z3u ops.toList []) tm s sn0 ι0 H0 W0 ds D a W) (hsz:∀o∈ops.toList,∀d,o.dst=some d->d<a.tmps.size)
  {D':Nat->Bool} (hD':∀k,D' k=(D k || Y00 k i)) {K:Act->World->Prop} {Q:Exit->Act->World->Prop}
  (hK:∀a' W',Sim P gl orc ops.toList (Z3u ops.toList []) tm s sn0 ι0 H0 W0 ds D' a' W'->a'.tmps.size=a.tmps.size->K a' W') (hP:∀a' ch W',a'.defers=ds->PanR X sn0 ι0 H0 W0 ch W'->Q (.panic ch) a' W'):wpOpIn (Fq rd) 0 P ops Q i K a W:=by
 obtain⟨sn,ι,l1,l2,B,pend,x1,x2,x3,x4,x5,x6,x7,x8,x9,x10⟩:=h.ex
 have hil:i<ops.toList.length:=(Y09.1 ho).1
 obtain⟨o',env,v,hat,f1,f2,f3,f4⟩:=(c.fact hil).ex
 have hoo:=hat.op
 rw[ho]at hoo;simp at hoo;subst hoo
 have hsz':∀d,o.dst=some d->d<a.tmps.size:=hsz o (List.mem_of_getElem? ho)
 have henv:∀t u,Z1O t env=some u->∃y,a.tmps[t]? = some y/\VR sn (pex ι pend) u y:=λt u hu=>x9 t u (Zml c hD hat hanc hi t u hu)
 have hw:=ZdW (o:=o) hat henv
 have hnext:=Zet c hD hat hi hD'
 have hgl:GlOK gl sn:=hg0.mono x5.le
 have hρ:=Z7u hgl henv
 have hDi:D' i=true:=by rw[hD'];simp
 have hDk:∀k,D k=true->D' k=true:=λk hk=>by rw[hD',hk];rfl
 have hDn:∀k,D' k=true->D k=true\/k=i:=by
  intro k hk
  rw[hD']at hk
  cases hq:D k with
  |true=>exact .inl rfl
  |false=>rw[hq]at hk;exact .inr (Y04 (by simpa using hk))
 have hsput:∀y,(a.put o.dst y).tmps.size=a.tmps.size:=by intro y;cases o.dst<;>simp[Act.put]
 have hnews:∀j,j∈news l2++s.new->∃id body,IdOf P gl ops.toList (Z3u ops.toList []) tm s.vals j id body/\B.length<=id:=x2.ids c.di.allocs
 have hinew:i∈news l2++s.new->kind o=2/\Z0n ops.toList env o=true:=by
  intro hm
  obtain⟨id,body,⟨o2,env2,mk,g1,g2,g3,g4⟩,_⟩:=hnews i hm
  obtain⟨rfl,rfl,_⟩:=hat.uniq g1
  exact⟨g2,g3⟩
 have hist:i∈Z0o l2->kind o=3:=by
  intro hm
  have:∃st∈l2,st.1=i:=by
   clear x1 x2 x4 hnews hinew x7 x8
   induction l2 with
   |nil=>simp[Z0o]at hm
   |cons y l ih =>
    obtain⟨p,q,r⟩:=y
    simp only[Z0o,Y07]at hm
    rcases hm with rfl|hm
    ·exact⟨(i,q,r),List.mem_cons_self,rfl⟩
    ·obtain⟨st,h1,h2⟩:=ih hm;exact⟨st,by simp[h1],h2⟩
  obtain⟨st,h1,rfl⟩:=this
  obtain⟨H,B',he⟩:=x2.mem st h1
  obtain⟨o2,env2,v2,g1,g2,_⟩:=he.ex
  obtain⟨rfl,_,_⟩:=hat.uniq g1
  exact g2
 have quiet:(kind o=2->Z0n ops.toList env o=false)->kind o≠3->∀y,VR sn (pex ι pend) v y->K (a.put o.dst y) W:=by
  intro hq2 hq3 y hy
  refine hK _ _ ⟨sn,ι,l1,l2,B,pend,x1,x2,λj hj=>hDk j (x3 j hj),λj hj=>?_,x5,x6,λr hr=>?_,λj hj hdj=>?_,Z6S (Le.refl _ _) hy hnext hsz' x9,by rw[Act.put_defers'];exact x10⟩ (hsput y)
  · have hne:j≠i:=by rintro rfl;exact hq3 (hist hj)
    rw[hD',x4 j hj,ZdI hne];rfl
  · obtain⟨r1,r2,r3⟩:=x7 r hr
    exact⟨r1,hDk _ r2,r3⟩
  · rcases hDn j hdj with hdj|rfl
    ·exact x8 j hj hdj
    · obtain⟨g1,g2⟩:=hinew hj
      have:=hq2 g1;rw[g2]at this;cases this
 unfold wpOpIn
 have hoa:ops[i]? = some o:=by rw[<- Y0g];exact ho
 rw[hoa]
 simp only
 have effect : kind o = 3 -> ∃ (nw : List Nat) (l2' : List (Nat × Z00 × List Nat)) (H B' : Z00) (ι' : Z0i), l2 = (i, B, nw) :: l2' /\ Stp sn0 ι0 H0 W0 sn ι' H W /\
   (∀t u,Z1O t env=some u->∃y,a.tmps[t]? = some y/\VR sn ι' u y) /\
   (Z0n ops.toList env o=true->aop P orc (Z1o gl env) o H=some (v,B'))/\(Z0n ops.toList env o=false->v = .tuple []/\B'=H) /\
   (∀y W' sn2 ι2,VR sn2 ι2 v y->Stp sn ι' H W sn2 ι2 B' W'->K (a.put o.dst y) W'):=by
  intro hk3
  have hmem:=f3 hk3
  rw[x1,Z1V]at hmem
  have hm2:i∈Z0o l2:=by
   rcases Y08.1 hmem with hm|hm
   ·have:=x3 i hm;rw[hi]at this;cases this
   ·exact hm
  obtain⟨nw,l2',rfl⟩:∃nw l2',l2=(i,B,nw)::l2':=by
   cases l2 with
   |nil=>simp[Z0o]at hm2
   |cons y l =>
    obtain⟨p,q,r⟩:=y
    cases x2 with
    |cons ha he hc =>
    simp only[Z0o,Y07]at hm2
    rcases hm2 with rfl|hm2
    ·exact⟨r,l,rfl⟩
    · exfalso
      obtain⟨k,hk⟩:=List.getElem?_of_mem hm2
      have hprev:∃e,(Z0o (l1++(p,B,r)::l))[(Z0o l1).length+k]? = some e/\e∈Z0o ((p,B,r)::l):=by
       rw[Z1V,Y0h (by omega)]
       simp only[Nat.add_sub_cancel_left]
       have hkl:k<(Z0o l).length:=(Y09.1 hk).1
       have hkl':k<(Z0o ((p,B,r)::l)).length:=by simp[Z0o];omega
       exact⟨_,Y0b hkl',List.getElem_mem hkl'⟩
      obtain⟨e,he1,he2⟩:=hprev
      have hcur:(Z0o (l1++(p,B,r)::l))[(Z0o l1).length+k+1]? = some i:=by
       rw[Z1V,Y0h (by omega)]
       rw[show (Z0o l1).length+k+1-(Z0o l1).length=k+1 from by omega]
       simp only[Z0o,Y0k];exact hk
      have hch:=c.chain
      rw[x1]at hch
      have:=hanc e (Z2z _ _ e i hch he1 hcur)
      rw[x4 e he2]at this;cases this
  cases x2 with
  |@cons _ H B' _ _ _ _ ha he hc =>
  obtain⟨o2,env2,v2,g1,g2,g3,g4,g5,g6,g7⟩:=he.ex
  obtain⟨rfl,rfl,rfl⟩:=hat.uniq g1
  have hnw:∀j∈nw,D j=true:=λj hj=>hanc j (Z4O g3 j hj)
  obtain⟨ι',s1,e1,e2,e3⟩:=Z8v (H:=H) ha x6 x5 (λr hr=>by
   obtain⟨r1,r2,r3,r4,r5,r6,r7,r8,r9⟩:=x7 r hr
   exact⟨r1,r4,r5,r6,r7,r8,r9⟩) λj hj=>x8 j (by simp[news,hj]) (hnw j hj)
  have hids:=ha.ids
  have hleft:∀r∈pend,r.op ∉ nw->B'.length<=r.id:=by
   intro r hr hnin
   obtain⟨r1,r2,r3,_⟩:=x7 r hr
   have:r.op∈news l2'++s.new:=by
    simp only[news,Y0j]at r3
    rcases Y08.1 r3 with h1|h1
    ·exact absurd h1 hnin
    ·exact h1
   obtain⟨id,body,q1,q2⟩:=hc.ids c.di.allocs r.op this
   obtain⟨rfl,_⟩:=r1.uniq q1
   exact q2
  have hgone:∀r∈pend,r.op∈nw->r.id<H.length:=by
   intro r hr hin
   obtain⟨r1,_⟩:=x7 r hr
   obtain⟨id,body,q1,_,q3⟩:=hids r.op hin
   obtain⟨rfl,_⟩:=r1.uniq q1
   exact q3
  have hblk:∀r∈pend,r.op ∉ nw->∀b q,ι' b=some q->q.blk≠r.pl.blk:=by
   intro r hr hnin b q hq
   rcases e1 b q hq with hq|⟨r',hr',hid',rfl,hlt⟩
   ·exact (x7 r hr).2.2.2.2.2.1 b q hq
   · have:=hleft r hr hnin
     exact ZdK x6 hr' hr (by omega)
  refine⟨nw,l2',H,B',ι',rfl,s1,?_,g6,g7,?_⟩
  · intro t u hu
    obtain⟨y,h1,h2⟩:=henv t u hu
    obtain⟨acc,hacc⟩:=Z71 env t u hu
    exact⟨y,h1,Z1Q u acc y (λb hb q hq=>e2 b q hq (Z5W g4 b (hacc b hb))) h2⟩
  · intro y W' sn2 ι2 hy hst
    let pend':=pend.filter λr=>!mem r.op nw
    have hp':∀r,r∈pend' ↔ r∈pend/\r.op ∉ nw:=by
     intro r
     simp only[pend',List.mem_filter,Bool.not_eq_true']
     constructor
     ·rintro⟨h1,h2⟩;exact⟨h1,λhm=>by rw[Z0W.2 hm]at h2;cases h2⟩
     · rintro⟨h1,h2⟩;refine⟨h1,?_⟩
       cases hq:mem r.op nw with
       |false=>rfl
       |true=>exact absurd (Z0W.1 hq) h2
    have hap':Z7S pend':=x6.filter _
    have hnone:∀r∈pend',ι2 r.id=none:=by
     intro r hr
     obtain⟨h1,h2⟩:=(hp' r).1 hr
     have:=hleft r h1 h2
     cases hq : ι2 r.id with
     |none=>rfl
     |some q=>have:=(hst.rel.dom _).2 ⟨q,hq⟩;omega
    have hlex:Le sn sn2 (pex ι pend) (pex ι2 pend'):=by
     refine⟨hst.le.sn,λb q hq=>?_⟩
     rcases Z5a hq with hq1|⟨hn1,r,hr,hid,rfl⟩
     ·exact (Z67 sn2 ι2 pend').ι b q (hst.le.ι b q (e3.ι b q hq1))
     · by_cases hin:r.op∈nw
       · have hlt:=hgone r hr hin
         have:=e2 b _ hq (by omega)
         exact (Z67 sn2 ι2 pend').ι b _ (hst.le.ι b _ this)
       · have hr':r∈pend':=(hp' r).2 ⟨hr,hin⟩
         have:=Z6D hap' hr' (hnone r hr')
         rw[hid]at this;exact this
    have hblk2:∀r∈pend',∀b q,ι2 b=some q->q.blk≠r.pl.blk:=by
     intro r hr b q hq
     obtain⟨h1,h2⟩:=(hp' r).1 hr
     rcases hst.fresh b q hq with h3|h3|⟨b0,o0,p0,k1,k2,k3,k4⟩
     ·exact hblk r h1 h2 b q h3
     ·have:=(x7 r h1).2.2.2.2.1;omega
     ·have:=hblk r h1 h2 b0 p0 k3;omega
    refine hK _ _ ⟨sn2,ι2,l1++[(i,B,nw)],l2',B',pend',by rw[x1];simp,hc,?_,?_,s1.trans hR0 hst,hap',?_,?_,Z6S hlex (Z0R (Z67 sn2 ι2 pend') _ _ hy) hnext hsz' x9,by rw[Act.put_defers'];exact x10⟩ (hsput y)
    · intro j hj
      rw[Z1V]at hj
      rcases Y08.1 hj with hj|hj
      ·exact hDk j (x3 j hj)
      ·simp[Z0o]at hj;rw[hj];exact hDi
    · intro j hj
      have hjx:=x4 j (by simp[Z0o,hj])
      have hne:j≠i:=by
       rintro rfl
       obtain⟨k,hk⟩:=List.getElem?_of_mem hj
       cases k with
       |zero =>
        have h1:(Z0o (l1++(j,B,nw)::l2'))[(Z0o l1).length]? = some j:=by rw[Z1V,Y0h (by omega)];simp[Z0o]
        have h2:(Z0o (l1++(j,B,nw)::l2'))[(Z0o l1).length+1]? = some j:=by
         rw[Z1V,Y0h (by omega),show (Z0o l1).length+1-(Z0o l1).length=1 from by omega]
         simp only[Z0o,Y0k];exact hk
        have hch:=c.chain
        rw[x1]at hch
        have:=hanc j (Z2z _ _ j j hch h1 h2)
        rw[hi]at this;cases this
       |succ k =>
        have hkl:k<(Z0o l2').length:=by have:=(Y09.1 hk).1;omega
        have h1:(Z0o (l1++(j,B,nw)::l2'))[(Z0o l1).length+(k+1)]? = some (Z0o l2')[k]:=by
         rw[Z1V,Y0h (by omega),show (Z0o l1).length+(k+1)-(Z0o l1).length=k+1 from by omega]
         simp only[Z0o,Y0k];exact Y0b hkl
        have h2:(Z0o (l1++(j,B,nw)::l2'))[(Z0o l1).length+(k+1)+1]? = some j:=by
         rw[Z1V,Y0h (by omega),show (Z0o l1).length+(k+1)+1-(Z0o l1).length=k+1+1 from by omega]
         simp only[Z0o,Y0k];exact hk
        have hch:=c.chain
        rw[x1]at hch
        have:=hanc _ (Z2z _ _ _ j hch h1 h2)
        rw[x4 _ (by simp[Z0o,List.getElem_mem hkl])]at this;cases this
      rw[hD',hjx,ZdI hne];rfl
    · intro r hr
      obtain⟨h1,h2⟩:=(hp' r).1 hr
      obtain⟨r1,r2,r3,r4,r5,r6,r7,r8,r9⟩:=x7 r h1
      refine⟨r1,hDk _ r2,?_,r4,Y0s r5 hst.size,hblk2 r hr,?_,hleft r h1 h2,Z0Q hlex ?_ r9⟩
      · simp only[news,Y0j]at r3
        rcases Y08.1 r3 with h3|h3
        ·exact absurd h3 h2
        ·exact h3
      · intro ad u hu
        rcases hst.sfresh ad u hu with h3|h3|⟨b0,o0,p0,k1,k2,k3,k4⟩
        ·exact r7 ad u h3
        ·omega
        ·have:=hblk r h1 h2 b0 p0 k3;omega
      ·exact hst.frame _ r5 λb o' q hb hal hq=>hblk r h1 h2 b q hq
    · intro j hj hdj
      have hj':j∈news ((i,B,nw)::l2')++s.new:=by simp only[news,Y0j];exact Y08.2 (.inr hj)
      rcases hDn j hdj with hdj|rfl
      · obtain⟨r,hr,hro⟩:=x8 j hj' hdj
        refine⟨r,(hp' r).2 ⟨hr,λhin=>?_⟩,hro⟩
        have hlt:=hgone r hr hin
        obtain⟨id,body,q1,q2⟩:=hc.ids c.di.allocs j hj
        obtain⟨r1,_⟩:=x7 r hr
        rw[hro]at r1
        obtain⟨rfl,_⟩:=r1.uniq q1
        omega
      · obtain⟨g1',_⟩:=hinew hj'
        rw[hk3]at g1';cases g1'
 by_cases hwant:Z0n ops.toList env o=true
 · rw[hw,if_pos hwant]
   rcases Zeu o with hk|hk|hk|hk
   ·
    obtain⟨H,hp⟩:=f2 hwant (by omega) (by omega)
    rw[Zn1 hk H B]at hp
    obtain⟨y,h1,h2⟩:=Z2B (x5.rel.ro.le (Z67 sn ι pend)) hρ hp
    refine Zhr (Z6M hp) ?_
    unfold Oper.wp
    rw[h1,Oper.upon_value]
    exact quiet (λh=>by omega) (by omega) y h2
   ·
    have hst:=Z55 ops.toList 0 i o c.stages ho hk env v (by simpa using hat) hwant
    simp only[Y06]at hst
    have hB:ZmP l2 s.base=B:=by
     cases x2 with
     |nil=>rfl
     |cons _ _ _=>rfl
    have hcl1:∀e,D e=true->bit ((Z3u ops.toList []).getD e 0) i=true->D i=true:=λe he hb=>by
     have hel:e<ops.toList.length:=by
      rcases Y0o e ops.toList.length with h|h
      ·exact h
      · have:(Z3u ops.toList []).getD e 0=0:=by simp[List.getD,List.getElem?_eq_none (by rw[Z4n];exact h)]
        rw[this,Z1B]at hb;cases hb
     exact Z35 hD e i _ (Y0b hel) (λx hx hbx=>hD e _ (Y0b hel) he x hx hbx) hb
    rcases hst with hst|hst
    rotate_left
    · rw[x1,Zi7]at hst
      have hp:=Z52 (D:=D) hi hanc hcl1 _ _ _ hst (by rw[ZcY];exact x3) (by rw[ZcY];exact x4)
      rw[Zi6,hB]at hp
      have hro:RO sn (pex ι pend) (Z2y ((Z3u ops.toList []).getD i 0) s.base s.new s.heap B) W:=by
       have ro:=x5.rel.ro.le (Z67 sn ι pend)
       unfold Z2y
       split
       · rename_i hlen
         have hlen:=Y04 hlen
         have key:∀b o,B.length<=b->(B++Zbv ((Z3u ops.toList []).getD i 0) s.new (s.heap.drop s.base.length))[b]? = some o->∃r∈pend,r.id=b/\o.body=r.body/\pex ι pend b=some r.pl:=by
          intro b o hb ho
          rw[Y0h hb]at ho
          obtain⟨j,g1,g2,g3⟩:=Z9J _ _ _ _ ho
          rw[List.getElem?_drop]at g3
          obtain⟨body,g4,g5⟩:=c.di.allocs.get _ _ g1
          rw[g5]at g3
          simp at g3;subst g3
          obtain⟨r,hr,hro⟩:=x8 j (Y08.2 (.inr (List.mem_of_getElem? g1))) (hanc j g2)
          obtain⟨r1,r2,r3,r4,r5,r6,r7,r8,r9⟩:=x7 r hr
          rw[hro]at r1
          obtain⟨u1,u2⟩:=r1.uniq g4
          have hid:r.id=b:=by omega
          refine⟨r,hr,hid,u2.symm,?_⟩
          rw[<- hid]
          refine Z6D x6 hr ?_
          cases hq : ι r.id with
          |none=>rfl
          |some q=>have:=(x5.rel.dom r.id).2 ⟨q,hq⟩;omega
         refine⟨λb hb=>?_,λb o p hb hal hp=>?_,ro.snap⟩
         · rcases Y0o b B.length with h|h
           ·exact ro.pl b h
           · obtain⟨r,_,_,_,hx⟩:=key b _ h (Y0b hb)
             exact⟨_,hx⟩
         · rcases Y0o b B.length with h|h
           · rw[Y0u h]at hb
             exact ro.obj b o p hb hal hp
           · obtain⟨r,hr,_,hbo,hx⟩:=key b o h hb
             rw[hx]at hp;simp at hp;subst hp
             obtain⟨r1,r2,r3,r4,r5,r6,r7,r8,r9⟩:=x7 r hr
             rw[hbo];exact r9
       ·exact ro
      obtain⟨y,h1,h2⟩:=Z2B hro hρ hp
      refine Zhr (Z6M hp) ?_
      unfold Oper.wp
      rw[h1,Oper.upon_value]
      exact quiet (λh=>by omega) (by omega) y h2
    rw[x1]at hst
    have hp:=Z52 (D:=D) hi hanc hcl1 l1 l2 s.base hst x3 x4
    rw[hB]at hp
    obtain⟨y,h1,h2⟩:=Z2B (x5.rel.ro.le (Z67 sn ι pend)) hρ hp
    refine Zhr (Z6M hp) ?_
    unfold Oper.wp
    rw[h1,Oper.upon_value]
    exact quiet (λh=>by omega) (by omega) y h2
   ·
    have hin:i∈news l2++s.new:=by
     rcases f4 hk hwant with h1|⟨st,h1,h2⟩
     ·simp[h1]
     · rw[x1]at h1
       rcases Y08.1 h1 with h1|h1
       · exfalso
         have hch:=c.di.chain
         obtain⟨H,B',he⟩:=hch.mem st (by rw[x1];simp[h1])
         obtain⟨o2,env2,v2,g1,g2,g3,_⟩:=he.ex
         have hDe:=x3 st.1 (Zff h1)
         have:=Z35 hD st.1 i o2 g1.op (λx hx hbx=>hD st.1 o2 g1.op hDe x hx hbx) (Z4O g3 i h2)
         rw[hi]at this;cases this
       ·exact Y08.2 (.inl (Zi4.2 ⟨st,h1,h2⟩))
    obtain⟨id,body,hid,hidl⟩:=hnews i hin
    obtain⟨o2,env2,mk,g1,g2,g3,g4⟩:=hid
    obtain⟨rfl,rfl,hvm⟩:=hat.uniq g1
    obtain⟨y,ob,n,h1,h2,h3⟩:=Z9k (P:=P) hρ g4 W
    refine Zhr (λc e=>by simp[Z3w,e]at g4) ?_
    unfold Oper.wp
    rw[h1,Oper.upon_value]
    have hidn : ι id=none:=by
     cases hq : ι id with
     |none=>rfl
     |some q=>have:=(x5.rel.dom id).2 ⟨q,hq⟩;omega
    let r0:PRec:=⟨i,id,W.heap.size,n,body⟩
    have hnew:∀r∈pend,r.id≠id/\r.pl.blk≠W.heap.size:=by
     intro r hr
     obtain⟨r1,r2,r3,r4,r5,_⟩:=x7 r hr
     refine⟨?_,by omega⟩
     rintro rfl
     have:=x2.inj c.di.allocs r.op r3 i hin _ _ _ r1 ⟨_,_,_,g1,g2,g3,g4⟩
     rw[this,hi]at r2;cases r2
    have hap':Z7S (r0::pend):=by
     unfold Z7S
     rw[List.pairwise_cons]
     exact⟨λr hr=>⟨Ne.symm (hnew r hr).2,Ne.symm (hnew r hr).1⟩,x6⟩
    have hlex:Le sn sn (pex ι pend) (pex ι (r0::pend)):=by
     refine⟨λ_ _ h=>h,λb q hq=>?_⟩
     rcases Z5a hq with hq1|⟨hn1,r,hr,hid',rfl⟩
     ·exact (Z67 sn ι _).ι b q hq1
     · have:=Z6D (ι:=ι) hap' (List.mem_cons_of_mem _ hr) (by rw[hid'];exact hn1)
       rw[hid']at this;exact this
    have hst:=Stp.ext x5.rel (Ext.alloc W ob)
    have hold:∀b,b<W.heap.size->(W.alloc ob).heap[b]? = W.heap[b]?:=λb hb=>Below.heap_alloc W ob b hb
    have hv:VR sn (pex ι (r0::pend)) v y:=by
     rw[hvm]
     exact h3 sn _ id (Z6D hap' (r:=r0) (by simp) hidn)
    refine hK _ _ ⟨sn,ι,l1,l2,B,r0::pend,x1,x2,λj hj=>hDk j (x3 j hj),λj hj=>?_,x5.trans hR0 hst,hap',λr hr=>?_,λj hj hdj=>?_,Z6S hlex hv hnext hsz' x9,by rw[Act.put_defers'];exact x10⟩ (hsput y)
    · have hne:j≠i:=by rintro rfl;have:=hist hj;omega
      rw[hD',x4 j hj,ZdI hne];rfl
    · rcases Y07.1 hr with rfl|hr
      · refine⟨⟨_,_,_,g1,g2,g3,g4⟩,hDi,hin,x5.size,by simp[r0,PRec.pl],λb q hq=>?_,λad u hu=>?_,hidl,Z0Q hlex rfl h2⟩
        ·have:=x5.rel.blk b q hq;simp[r0,PRec.pl];omega
        ·have:=(x5.rel.snap ad u hu).1;simp[r0,PRec.pl];omega
      · obtain⟨r1,r2,r3,r4,r5,r6,r7,r8,r9⟩:=x7 r hr
        exact⟨r1,hDk _ r2,r3,r4,by simp;omega,r6,r7,r8,Z0Q hlex (hold _ r5) r9⟩
    · rcases hDn j hdj with hdj|rfl
      · obtain⟨r,hr,hro⟩:=x8 j hj hdj
        exact⟨r,by simp[hr],hro⟩
      ·exact⟨r0,by simp,rfl⟩
   · obtain⟨nw,l2',H,B',ι',rfl,s1,henv',g6,g7,fin⟩:=effect hk
     exact Z8s hn hO hgl s1.rel (Z7u hgl henv') (g6 hwant) (λy W' sn2 ι2 hy hst=>fin y W' sn2 ι2 hy hst) (λch W' p=>hP a ch W' x10 (p.back hR0 s1))
 · have hwf:Z0n ops.toList env o=false:=by simpa using hwant
   rw[hw,if_neg hwant]
   refine⟨λf _=>trivial,?_⟩
   by_cases hk:kind o=3
   · obtain⟨nw,l2',H,B',ι',rfl,s1,henv',g6,g7,fin⟩:=effect hk
     obtain⟨rfl,rfl⟩:=g7 hwf
     exact fin undef W sn ι' Z4Y (Stp.refl s1.rel)
   · have:=f1 hwf;subst this
     exact quiet (λ_=>hwf) hk undef Z4Y
theorem ZhP {X : AV -> Prop} {rd : Option Nat} (hn : NoNum P) (hO : OrcSoundX X P gl orc) (hg0 : GlOK gl sn0) (hR0 : R sn0 ι0 H0 W0) (c : Checked P gl orc ops.toList tm H0 s) {Q : Exit -> Act -> World -> Prop}
  {N:Nat} (hQ:∀D a W,(∀i,i<ops.size->D i=true)->Sim P gl orc ops.toList (Z3u ops.toList []) tm s sn0 ι0 H0 W0 ds D a W->a.tmps.size=N->Q .normal a W) (hP:∀a' ch W',a'.defers=ds->PanR X sn0 ι0 H0 W0 ch W'->Q (.panic ch) a' W') :
  ∀(fuel:Nat)(listed:Array Bool)(a:Act)(W:World),listed.size=ops.size->ops.size<=fuel+(listed.toList.filter id).length->Zbe ops.toList (λi=>listed.getD i false) ->
   Sim P gl orc ops.toList (Z3u ops.toList []) tm s sn0 ι0 H0 W0 ds (λi=>listed.getD i false) a W->(∀o∈ops.toList,∀d,o.dst=some d->d<a.tmps.size)->a.tmps.size=N->wpAnyIn (Fq rd) 0 P .any ops Q fuel listed a W:=by
 have hend:∀(listed:Array Bool),listed.size=ops.size->Region.ready .any ops listed=[]->∀i,i<ops.size->listed.getD i false=true:=by
  intro listed hls hr i
  induction i using Nat.strongRecOn with
  |_ i ih =>
   intro hi
   cases hq:listed.getD i false with
   |true=>rfl
   |false =>
    exfalso
    have hq':listed.getD i true=false:=by
     have hl:i<listed.size:=by omega
     simp[Array.getD,hl]at hq⊢;exact hq
    have hx:ops[i]? = some ops[i]:=Array.getElem?_eq_getElem hi
    have:i∈Region.ready .any ops listed:=by
     rw[mem_ready]
     refine⟨hq',ops[i],hx,λe he hb=>?_⟩
     have hbit:=ZeJ (ops:=ops.toList) (i:=i) (by rw[Y0g];exact hx) (Y0v.2 he) hb
     have hbd:=Z2A (Z3u ops.toList []) 0 i c.bound (by rw[Z4n];simpa using hi)
     simp only[Y06]at hbd
     have:=Zh1 hbd hbit
     exact ih e.on this (by omega)
    rw[hr]at this;simp at this
 intro fuel
 induction fuel with
 |zero =>
  intro listed a W hls hcnt hcl hsim hsz hN
  have hall:∀i,i<ops.size->listed.getD i false=true:=by
   intro i hi
   have hlen:(listed.toList.filter id).length=listed.toList.length:=by
    have:=List.length_filter_le id listed.toList
    simp at this⊢;omega
   have:=List.length_filter_eq_length_iff.1 hlen
   have hl:i<listed.size:=by omega
   have h1:=this listed[i] (by simp)
   simp[Array.getD,hl];simpa using h1
  refine⟨?_,hQ _ a W hall hsim hN⟩
  rw[List.eq_nil_iff_forall_not_mem]
  intro i hi
  rw[mem_ready]at hi
  obtain⟨h1,o,ho,_⟩:=hi
  have hlt:i<ops.size:=(Y0l.1 ho).1
  have h2:=hall i hlt
  have hl:i<listed.size:=by omega
  simp[Array.getD,hl]at h1 h2
  rw[h1]at h2;cases h2
 |succ fuel ih =>
  intro listed a W hls hcnt hcl hsim hsz hN
  refine⟨λhr=>hQ _ a W (hend listed hls hr) hsim hN,λi hi=>?_⟩
  obtain⟨h1,o,ho,hpre⟩:=mem_ready.1 hi
  have hlt:i<ops.size:=(Y0l.1 ho).1
  have hl:i<listed.size:=by omega
  have hif:listed.getD i false=false:=by simp[Array.getD,hl]at h1⊢;exact h1
  have hol:ops.toList[i]? = some o:=by rw[Y0g];exact ho
  have hanc:∀k,bit ((Z3u ops.toList []).getD i 0) k=true->listed.getD k false=true:=λk hk =>
   Z35 hcl i k o hol (λe he hb=>hpre e (Y0v.1 he) hb) hk
  have hD':∀k,(listed.setIfInBounds i true).getD k false=(listed.getD k false || Y00 k i):=by
   intro k
   by_cases hki:k=i
   ·subst hki;simp[hl]
   ·rw[getD_set_ne false (Ne.symm hki),ZdI hki];simp
  refine Zfn hn hO hg0 hR0 c hcl hif hol hanc hsim hsz hD' (λa' W' hs' hsz'=>?_) hP
  refine ih _ a' W' (by simpa using hls) ?_ ?_ hs' (λo ho d hd=>by rw[hsz'];exact hsz o ho d hd) (hsz'.trans hN)
  ·
   have hcount:((listed.setIfInBounds i true).toList.filter id).length=(listed.toList.filter id).length+1:=by
    rw[Array.toList_setIfInBounds]
    have hli:listed.toList[i]? = some false:=by
     rw[Y0g,Array.getElem?_eq_getElem hl]
     simp[Array.getD,hl]at hif;rw[hif]
    exact Z8l _ _ hli
   omega
  · intro k o' ho' hk e he hb
    show (listed.setIfInBounds i true).getD e.on false=true
    have hk:(listed.setIfInBounds i true).getD k false=true:=hk
    rw[hD']at hk⊢
    simp only[Y0c]at hk⊢
    rcases hk with hk|hk
    ·exact .inl (hcl k o' ho' hk e he hb)
    · have:=Y04 hk;subst this
      rw[hol]at ho';simp at ho';subst ho'
      exact .inl (hpre e (Y0v.1 he) hb)
theorem ZeM {X : AV -> Prop} {rd : Option Nat} (hn : NoNum P) (hO : OrcSoundX X P gl orc) {sn : Z0l} {ι : Z0i} {H : Z00} {W : World} {a : Act} (hg : GlOK gl sn) (hR : R sn ι H W) (ht : TRel sn ι tm a) {tm' : Tr} {H' : Z00}
  (h:ZaY P gl orc ops.toList tm H=some (tm',H')) {Q:Exit->Act->World->Prop} (hQ:∀a' W' sn' ι',Stp sn ι H W sn' ι' H' W'->TRel sn' ι' tm' a'->a'.defers=a.defers->Q .normal a' W') (hP:∀a' ch W',a'.defers=a.defers->PanR X sn ι H W ch W'->Q (.panic ch) a' W') :
  wpAnyIn (Fq rd) 0 P .any ops Q ops.size (Array.replicate ops.size false) a W.drew:=by
 unfold ZaY at h
 simp only at h
 split at h<;>try (simp at h;done)
 rename_i hc1
 split at h<;>try (simp at h;done)
 rename_i s hs
 split at h<;>try (simp at h;done)
 rename_i hc2
 split at h<;>simp at h
 rename_i tm1 hfin
 obtain⟨rfl,rfl⟩:=h
 simp only[Y05]at hc1 hc2
 have c:Checked P gl orc ops.toList tm H s:=⟨Zdw (DI.start H) hs,hc1.1,hc1.2,hc2.1.1,Y04 hc2.1.2,hc2.2⟩
 obtain⟨hf1,hf2⟩:=Z3V _ _ _ _ hfin
 have hst0:=Stp.ext hR (Ext.drew W)
 have hR0:=hst0.rel
 have hrep:∀i,(Array.replicate ops.size false).getD i false=false:=λi=>by
  by_cases hi:i<ops.size<;>simp[Array.getD,hi]
 refine ZhP (sn0:=sn) (ι0:=ι) (W0:=W.drew) (ds:=a.defers) hn hO hg hR0 c ?_ (λa' ch W' hd p=>hP a' ch W' hd (p.back hR hst0)) ops.size _ a _ (by simp) (by omega) ?_ ?_ ?_ rfl
 · intro D a' W' hall hsim hN
   obtain⟨sn',ι',l1,l2,B,pend,x1,x2,x3,x4,x5,x6,x7,x8,x9,x10⟩:=hsim.ex
   have hl2:l2=[]:=by
    cases l2 with
    |nil=>rfl
    |cons y l =>
     obtain⟨p,q,r⟩:=y
     exfalso
     have h1:=x4 p (by simp[Z0o])
     obtain⟨_,_,he⟩:=x2.mem (p,q,r) (by simp)
     obtain⟨o2,_,_,g1,_⟩:=he.ex
     have hp:p<ops.size:=by have:=(Y09.1 g1.op).1;simpa using this
     rw[hall p hp]at h1;cases h1
   subst hl2
   cases x2
   have hnewD:∀j∈s.new,∃r∈pend,r.op=j:=by
    intro j hj
    refine x8 j (by simp[news,hj]) ?_
    obtain⟨_,_,⟨o2,_,_,g1,_⟩,_⟩:=c.di.allocs.ids j hj
    exact hall j (by have:=(Y09.1 g1.op).1;simpa using this)
   obtain⟨ι2,s1,e1,e2,e3⟩:=Z8v c.di.allocs x6 x5 (λr hr=>by
    obtain⟨r1,r2,r3,r4,r5,r6,r7,r8,r9⟩:=x7 r hr
    exact⟨r1,r4,r5,r6,r7,r8,r9⟩) hnewD
   refine hQ a' W' sn' ι2 (hst0.trans hR s1) ?_ x10
   refine⟨?_,λt hx=>by rw[hN];exact ht.2 t (by rw[Z4J hfin]at hx;exact hx)⟩
   intro t u hu
   rw[hf2 t _ rfl]at hu
   have hD:Z1d s.vals D t ops.toList 0 (Z15 tm t)=Z1d s.vals (λ_=>true) t ops.toList 0 (Z15 tm t):=Z1K _ _ _ λk o hk _=>by
    simp only[Y06]
    exact hall k (by have:=(Y09.1 hk).1;simpa using this)
   rw[<- hD]at hu
   obtain⟨y,h1,h2⟩:=x9 t u hu
   refine⟨y,h1,Z0R ⟨λ_ _ h=>h,λb q hq=>?_⟩ _ _ h2⟩
   rcases Z5a hq with hq1|⟨hn1,r,hr,hid,rfl⟩
   ·exact e3.ι b q hq1
   · refine e2 b _ hq ?_
     obtain⟨r1,r2,r3,_⟩:=x7 r hr
     simp only[news,Y0p]at r3
     obtain⟨id',body,q1,_,q3⟩:=c.di.allocs.ids r.op r3
     obtain⟨rfl,_⟩:=r1.uniq q1
     omega
 · intro i o ho hi
   have hi':=(hrep i).symm.trans hi;cases hi'
 · refine⟨⟨sn,ι,[],s.sts,H,[],rfl,c.di.chain,by simp[Z0o],λi _=>hrep i,Stp.refl hR0,List.Pairwise.nil,by simp,λi _ hi=>(by have h2:=(hrep i).symm.trans hi;cases h2),?_,rfl⟩⟩
   intro t u hu
   rw[Z4h _ _ _ (λk o _ _=>hrep _)]at hu
   obtain⟨y,h1,h2⟩:=ht.1 t u hu
   exact⟨y,h1,Z0R (Z67 sn ι []) _ _ h2⟩
 · intro o ho d hd
   exact ht.2 d (hf1 o ho d hd)
theorem Z6i{X:AV->Prop}{rd:Option Nat}(hm:P.follows .mixedOrders=true)(hn:NoNum P)(hO:OrcSoundX X P gl orc){sn:Z0l}{ι : Z0i}{H:Z00}{W:World}{a:Act}(hg:GlOK gl sn)(hR:R sn ι H W)(ht:TRel sn ι tm a){tm':Tr}{H':Z00}
 (h:ZaY P gl orc ops.toList tm H=some (tm',H')) {Q:Exit->Act->World->Prop} (hQ:∀a' W' sn' ι',Stp sn ι H W sn' ι' H' W'->TRel sn' ι' tm' a'->a'.defers=a.defers->Q .normal a' W') (hP:∀a' ch W',a'.defers=a.defers->PanR X sn ι H W ch W'->Q (.panic ch) a' W') (id:Nat) :
 (Code.region id ops true).wpIn (Fq rd) 0 P Q a W:=wpIn_region_any hm (ZeM hn hO hg hR ht h hQ hP)
theorem Zcb{rd:Option Nat}(hm:P.follows .mixedOrders=true)(hn:NoNum P)(hO:OrcSound P gl orc){sn:Z0l}{ι : Z0i}{H:Z00}{W:World}{a:Act}(hg:GlOK gl sn)(hR:R sn ι H W)(ht:TRel sn ι tm a){tm':Tr}{H':Z00}
 (h:ZaY P gl orc ops.toList tm H=some (tm',H')) {Q:Exit->Act->World->Prop} (hQ:∀a' W' sn' ι',Stp sn ι H W sn' ι' H' W'->TRel sn' ι' tm' a'->a'.defers=a.defers->Q .normal a' W') (id:Nat) :
 (Code.region id ops true).wpIn (Fq rd) 0 P Q a W:=Z6i (X:=λ_=>False) hm hn hO.x hg hR ht h hQ (λa' ch W' _ p=>p.no.elim) id
end draw
end Go.Abs
end
section
namespace Go.Abs
open Go.RowKit
section scope
variable {P:Program} {F:Fence} {n:Nat} {b:Frame} {a:Act} {k:List Item} {cs:List Frame} {w:World} {Q:Exit->Act->World->Prop}
theorem Z1H{c:Code}:step P (lone (b.atR a (.code (.scope c)::k)) cs w) = .next (lone (b.atR a (.code c::.inScope c::k)) cs w) :=
 step_lone_go (by simp[stepG,stepG.exec,Frame.atR])
theorem Z8F{c:Code}:step P (lone (b.atR a (.inScope c::k)) cs w) = .next (lone (b.atR a k) cs w) :=
 step_lone_go (by simp[stepG,stepG.exec,Frame.atR])
theorem Z4z{c:Code}(h:c.wpIn F n P (Exit.noGoto Q) a w):(Code.scope c).wpIn F n P Q a w:=by
 intro b k cs hro hb hr
 have h0:(lone (b.atR a (.code (.scope c)::k)) cs w).fenced P F:=fenced_calm hb hr rfl
 obtain⟨e,a₁,w₁,hq,harr⟩:=h b (.inScope c::k) cs hro hb hr
 cases e with
 |normal=>exact⟨.normal,a₁,w₁,hq,.head h0 Z1H (StepsIn.trans harr (.one (fenced_calm hb hr rfl) Z8F))⟩
 |exit id =>
  have hx:exitTo id (.inScope c::k)=exitTo id k:=by simp[exitTo]
  exact⟨.exit id,a₁,w₁,hq,λk' hk=>.head h0 Z1H (harr.1 k' (by rw[hx];exact hk)),
   λhr' hk=>let ⟨k₁,h1,h2⟩:=harr.2 hr' (by rw[hx];exact hk);⟨k₁,h1,.head h0 Z1H h2⟩⟩
 |goto l=>exact hq.elim
 |ret=>exact⟨_,a₁,w₁,hq,.of_steps (.one h0 Z1H) harr⟩
 |panic ch=>exact⟨_,a₁,w₁,hq,.of_steps (.one h0 Z1H) harr⟩
 |outgrown=>exact⟨_,a₁,w₁,hq,.of_steps (.one h0 Z1H) harr⟩
end scope
def ZmL:AEx->Exit
 | .normal=>.normal
 | .exit id=>.exit id
 | .ret=>.ret
section code
variable {P:Program} {gl:Z0w} {orc:Orc} {fuel:Nat}
def Z8z(X:AV->Prop)(P:Program)(gl:Z0w)(rd:Option Nat)(c:Code)(f:Tr->Z00->Option (AEx×Tr×Z00)):Prop :=
 ∀(tm:Tr)(H:Z00)(x:AEx)(tm':Tr)(H':Z00)(a:Act)(W:World)(sn:Z0l)(ι : Z0i)(Q:Exit->Act->World->Prop),f tm H=some (x,tm',H')->GlOK gl sn->R sn ι H W->TRel sn ι tm a ->
  (∀a' W' sn' ι',Stp sn ι H W sn' ι' H' W'->TRel sn' ι' tm' a'->a'.defers=a.defers->Q (ZmL x) a' W')->(∀a' ch W',a'.defers=a.defers->PanR X sn ι H W ch W'->Q (.panic ch) a' W')->c.wpIn (Fq rd) 0 P Q a W
theorem Z6a {X : AV -> Prop} {rd : Option Nat} {c : Code} {f : Tr -> Z00 -> Option (AEx × Tr × Z00)} (hf : Z8z X P gl rd c f) : ∀ (n : Nat) (tm : Tr) (H : Z00) (x : AEx) (tm' : Tr) (H' : Z00) (a : Act) (W : World) (sn : Z0l) (ι : Z0i) (Q : Exit -> Act -> World -> Prop), ZfS f n tm H = some (x, tm', H') -> GlOK gl sn -> R sn ι H W -> TRel sn ι tm a ->
  (∀a' W' sn' ι',Stp sn ι H W sn' ι' H' W'->TRel sn' ι' tm' a'->a'.defers=a.defers->Q (ZmL x) a' W')->(∀a' ch W',a'.defers=a.defers->PanR X sn ι H W ch W'->Q (.panic ch) a' W')->Code.roundsIn (Fq rd) 0 P c Q n a W
 |0,tm,H,x,tm',H',a,W,sn,ι,Q,h,hg,hR,ht,hQ,hP=>by simp[ZfS]at h
 |n+1,tm,H,x,tm',H',a,W,sn,ι,Q,h,hg,hR,ht,hQ,hP=>by
  simp only[ZfS]at h
  rw[roundsIn_succ]
  split at h
  · rename_i tm1 H1 h1
    refine hf _ _ _ _ _ _ _ _ _ _ h1 hg hR ht (λa1 W1 sn1 ι1 s1 t1 d1=>?_) hP
    show Code.roundsIn (Fq rd) 0 P c Q n a1 W1
    refine Z6a hf n _ _ _ _ _ _ _ sn1 ι1 Q h (hg.mono s1.le) s1.rel t1 (λa2 W2 sn2 ι2 s2 t2 d2=>?_) (λa' ch W' hd p=>hP a' ch W' (hd.trans d1) (p.back hR s1))
    exact hQ _ _ _ _ (s1.trans hR s2) t2 (d2.trans d1)
  · rename_i hne
    refine hf _ _ _ _ _ _ _ _ _ _ h hg hR ht (λa1 W1 sn1 ι1 s1 t1 d1=>?_) hP
    have:=hQ _ _ _ _ s1 t1 d1
    cases x with
    |normal=>exact (hne _ _ h).elim
    |exit id=>exact this
    |ret=>exact this
theorem Z0K{X:AV->Prop}{rd:Option Nat}(hm:P.follows .mixedOrders=true)(hn:NoNum P)(hO:OrcSoundX X P gl orc):∀c:Code,Z8z X P gl rd c (Z1c P gl orc fuel c)
 | .skip=>by
  intro tm H x tm' H' a W sn ι Q h hg hR ht hQ hP
  simp[Z1c]at h;obtain⟨rfl,rfl,rfl⟩:=h
  exact wpIn_skip (hQ a W sn ι (Stp.refl hR) ht rfl)
 | .region id ops draw=>by
  intro tm H x tm' H' a W sn ι Q h hg hR ht hQ hP
  simp only[Z1c]at h
  split at h<;>simp at h
  obtain⟨rfl,rfl,rfl⟩:=h
  rename_i tm1 H1 h1
  cases draw with
  |true=>exact Z6i hm hn hO hg hR ht (by simpa using h1) (λa' W' sn' ι' h1 h2 h3=>hQ a' W' sn' ι' h1 h2 h3) hP id
  |false=>exact wpIn_region_list (Z3t hn hO ops _ _ _ _ _ _ _ _ _ (by simpa using h1) hg hR ht (λa' W' sn' ι' h1 h2 h3=>hQ a' W' sn' ι' h1 h2 h3) hP)
 | .seq c d=>by
  intro tm H x tm' H' a W sn ι Q h hg hR ht hQ hP
  simp only[Z1c]at h
  refine wpIn_seq ?_
  split at h
  · rename_i tm1 H1 h1
    refine Z0K hm hn hO c _ _ _ _ _ _ _ _ _ _ h1 hg hR ht (λa1 W1 sn1 ι1 s1 t1 d1=>?_) hP
    show Code.wpIn (Fq rd) 0 P d Q a1 W1
    refine Z0K hm hn hO d _ _ _ _ _ _ _ sn1 ι1 Q h (hg.mono s1.le) s1.rel t1 (λa2 W2 sn2 ι2 s2 t2 d2=>?_) (λa' ch W' hd p=>hP a' ch W' (hd.trans d1) (p.back hR s1))
    exact hQ _ _ _ _ (s1.trans hR s2) t2 (d2.trans d1)
  · rename_i hne
    refine Z0K hm hn hO c _ _ _ _ _ _ _ _ _ _ h hg hR ht (λa1 W1 sn1 ι1 s1 t1 d1=>?_) hP
    have:=hQ _ _ _ _ s1 t1 d1
    cases x with
    |normal=>exact (hne _ _ h).elim
    |exit id=>exact this
    |ret=>exact this
 | .cond e c d=>by
  intro tm H x tm' H' a W sn ι Q h hg hR ht hQ hP
  simp only[Z1c]at h
  split at h<;>try (simp at h;done)
  · rename_i he
    exact wpIn_cond_true (Z3v hg ht _ _ he).bool (Z0K hm hn hO c _ _ _ _ _ _ _ _ _ _ h hg hR ht hQ hP)
  · rename_i he
    exact wpIn_cond_false (Z3v hg ht _ _ he).bool (Z0K hm hn hO d _ _ _ _ _ _ _ _ _ _ h hg hR ht hQ hP)
 | .block id b=>by
  intro tm H x tm' H' a W sn ι Q h hg hR ht hQ hP
  simp only[Z1c]at h
  refine wpIn_block ?_
  split at h
  · rename_i id' tm1 H1 h1
    refine Z0K hm hn hO b _ _ _ _ _ _ _ _ _ _ h1 hg hR ht (λa1 W1 sn1 ι1 s1 t1 d1=>?_) hP
    show (if id'=id then Q .normal a1 W1 else Q (.exit id') a1 W1)
    split at h
    · rename_i e
      rw[if_pos (Y04 e)]
      simp at h;obtain⟨rfl,rfl,rfl⟩:=h
      exact hQ _ _ _ _ s1 t1 d1
    · rename_i e
      rw[if_neg (λe'=>e (by simp[e']))]
      simp at h;obtain⟨rfl,rfl,rfl⟩:=h
      exact hQ _ _ _ _ s1 t1 d1
  · rename_i hne
    refine Z0K hm hn hO b _ _ _ _ _ _ _ _ _ _ h hg hR ht (λa1 W1 sn1 ι1 s1 t1 d1=>?_) hP
    have:=hQ _ _ _ _ s1 t1 d1
    cases x with
    |normal=>exact this
    |exit id=>exact (hne _ _ _ h).elim
    |ret=>exact this
 | .loop b=>by
  intro tm H x tm' H' a W sn ι Q h hg hR ht hQ hP
  simp only[Z1c]at h
  exact wpIn_loop_rounds fuel (Z6a (Z0K hm hn hO b) fuel _ _ _ _ _ _ _ _ _ _ h hg hR ht hQ hP)
 | .exit id=>by
  intro tm H x tm' H' a W sn ι Q h hg hR ht hQ hP
  simp[Z1c]at h;obtain⟨rfl,rfl,rfl⟩:=h
  exact wpIn_exit (hQ a W sn ι (Stp.refl hR) ht rfl)
 | .ret=>by
  intro tm H x tm' H' a W sn ι Q h hg hR ht hQ hP
  simp[Z1c]at h;obtain⟨rfl,rfl,rfl⟩:=h
  exact wpIn_ret (hQ a W sn ι (Stp.refl hR) ht rfl)
 | .rangeFunc ..=>λtm H x tm' H' a W sn ι Q h hg hR ht hQ hP=>by simp[Z1c]at h
 | .scope b=>by
  intro tm H x tm' H' a W sn ι Q h hg hR ht hQ hP
  simp only[Z1c]at h
  refine Z4z (Z0K hm hn hO b _ _ _ _ _ _ _ _ _ _ h hg hR ht (λa1 W1 sn1 ι1 h1 h2 h3=>?_) hP)
  have:=hQ a1 W1 sn1 ι1 h1 h2 h3
  cases x<;>exact this
 | .label l=>by
  intro tm H x tm' H' a W sn ι Q h hg hR ht hQ hP
  simp[Z1c]at h;obtain⟨rfl,rfl,rfl⟩:=h
  exact wpIn_label (hQ a W sn ι (Stp.refl hR) ht rfl)
 | .goto ..=>λtm H x tm' H' a W sn ι Q h hg hR ht hQ hP=>by simp[Z1c]at h
 | .refuse ..=>λtm H x tm' H' a W sn ι Q h hg hR ht hQ hP=>by simp[Z1c]at h
end code
section fin
variable {P:Program} {gl:Z0w} {sn:Z0l} {ι : Z0i} {H:Z00} {W:World}
theorem Z9F{a:Act}{tm:Tr}(ht:TRel sn ι tm a){t:Nat}{u:AV}(h:Z15 tm t=some u):VR sn ι u (a.tmps.getD t undef):=by
 obtain⟨v,h1,h2⟩:=ht.1 t u h
 simpa[Y0t,h1]using h2
theorem Z1k (hR : R sn ι H W) {tm : Tr} {a : Act} (ht : TRel sn ι tm a) : ∀ (l : List ResultVar) (us : List AV), Z37 P tm H l = some us -> ∃ vs : List Value, LR sn ι us vs /\
  (l.mapM λr=>(match r with | .tmp t=>pure (a.tmps.getD t undef) | .cell ad t=>do loadVar t (<- asAddr (a.tmps.getD ad undef)):Sem Value)).run P W = .ok vs W
 |[],us,h=>by simp[Z37]at h;subst h;exact⟨[],by simp[LR],by simp⟩
 | .tmp t::l,us,h=>by
  simp only[Z37]at h
  split at h<;>simp at h
  subst h;rename_i v vs hv hvs
  obtain⟨vs',h1,h2⟩:=Z1k hR ht l _ hvs
  refine⟨a.tmps.getD t undef::vs',?_,?_⟩
  ·simp only[LR];exact⟨_,_,rfl,Z9F ht hv,h1⟩
  · rw[List.mapM_cons]
    simp only[Y01,Y03,Y02]
    rw[h2];rfl
 | .cell ad t::l,us,h=>by
  simp only[Z37]at h
  split at h<;>try (simp at h;done)
  rename_i b off hb
  split at h<;>simp at h
  subst h;rename_i v vs hv hvs
  obtain⟨vs',h1,h2⟩:=Z1k hR ht l _ hvs
  obtain⟨x,y,e1,e2,e3⟩:=Z5g hR.ro hv (Z9F ht hb)
  refine⟨y::vs',?_,?_⟩
  ·simp only[LR];exact⟨_,_,rfl,e3,h1⟩
  · have hy : (do loadVar t (<- asAddr (a.tmps.getD ad undef)) : Sem Value).run P W = .ok y W := by
     simp only[Y01,e1,asAddr,Y03,Y02,e2]
    generalize hF:(λr:ResultVar=>(match r with | .tmp t=>pure (a.tmps.getD t undef) | .cell ad t=>do loadVar t (<- asAddr (a.tmps.getD ad undef)):Sem Value))=F at h2⊢
    have hFc:(F (.cell ad t)).run P W = .ok y W:=by subst hF;exact hy
    rw[List.mapM_cons]
    simp only[Y01,Y03,Y02,hFc,h2]
theorem Z1W {fn : Func} {tmps : Array Value} {vs : List Value} (h : (fn.results.toList.mapM fun r => (match r with | .tmp t => pure (tmps.getD t undef) | .cell ad t => do loadVar t (<- asAddr (tmps.getD ad undef)) : Sem Value)).run P W = .ok vs W) :
  (results fn tmps).run P W = .ok (if h:vs.toArray.size=1 then vs.toArray[0] else .tuple vs.toArray) W:=by
 unfold results
 rw[Array.mapM_eq_mapM_toList,Y01,Sem.run_map]
 refine (congrArg (λz=>Result.andThen (Result.andThen z (λa w'=>.ok a.toArray w')) (λa w'=>(pure (if h:a.size=1 then a[0] else .tuple a):Sem Value).run P w')) h).trans ?_
 rfl
theorem Z7W{args:List AV}{cargs:List Value}(ha:LR sn ι args cargs)(n m d:Nat):TRel sn ι (tmk (Zbg args n m) d) { tmps:=cargs.toArray++Array.replicate (n-cargs.toArray.size) undef,defers:=[] }:=by
 have h1:∀t u,Zbg args n m t=some u->∃v,(cargs.toArray++Array.replicate (n-cargs.toArray.size) undef)[t]? = some v/\VR sn ι u v:=by
  intro t u h
  have hl:=ha.length
  unfold Zbg at h
  split at h
  · simp at h;subst h
    rename_i v hv
    obtain⟨x,h1,h2⟩:=ha.get hv
    refine⟨x,?_,h2⟩
    have ht:t<cargs.length:=(Y09.1 h1).1
    rw[Y0w (by simpa using ht)]
    simpa using h1
  · rename_i hv
    split at h<;>simp at h
    subst h;rename_i hb
    have hb':t<n:=by simpa[Y0i]using hb
    have hv':args.length<=t:=by simpa using hv
    refine⟨undef,?_,Z4Y⟩
    rw[Array.getElem?_append_right (by simp;omega)]
    simp only[Array.getElem?_replicate]
    rw[if_pos (by simp;omega)]
 refine⟨λt u hu=>h1 t u (Zbt _ _ _ _ hu),λt hx=>?_⟩
 obtain⟨u,hu⟩:=Zbs _ _ _ hx
 obtain⟨v,hv,_⟩:=h1 t u hu
 exact (Y0l.1 hv).1
theorem ZaX{X:AV->Prop}{orc:Orc}{fuel:Nat}(hm:P.follows .mixedOrders=true)(hn:NoNum P)(hO:OrcSoundX X P gl orc):OrcSoundX X P gl (λf args H=>ZeK P gl orc fuel f args H):=by
 intro f args H r H' h sn ι W cargs hg hR ha
 simp only[ZeK]at h
 split at h<;>try (simp at h;done)
 rename_i fn hfn
 split at h<;>try (simp at h;done)
 rename_i c hc
 simp only[frcVL_eq,Z92]at h
 split at h<;>try (simp at h;done)
 rename_i x tm H1 hx
 refine .inl (calls_of_wp hfn hc (wpIn_wide.1 (Z0K (rd:=none) hm hn hO c _ _ _ _ _ _ _ sn ι _ hx hg hR (Z7W ha _ _ _) (λa1 W1 sn1 ι1 s1 t1 d1=>?_) (λa' ch W' hd p=>⟨hd,.inr ⟨⟨fn,hfn⟩,ch,rfl,p⟩⟩))))
 have key : ∀ {y}, (match Z37 P tm H1 fn.results.toList with
   |some [v]=>some (v,H1)
   |some vs=>some (.tuple vs,H1)
   |none=>none)=some y->y=(r,H')->∃v,(results fn a1.tmps).run P W1 = .ok v W1/\VR sn1 ι1 r v/\H1=H':=by
  rintro y h rfl
  split at h<;>try (simp at h;done)
  · rename_i v hv
    obtain⟨vs,h1,h2⟩:=Z1k s1.rel t1 _ _ hv
    simp only[LR]at h1
    obtain⟨d,ds,rfl,hd,rfl⟩:=h1
    simp at h;obtain⟨rfl,rfl⟩:=h
    refine⟨d,?_,hd,rfl⟩
    rw[Z1W h2];rfl
  · rename_i us hus hv
    obtain⟨vs,h1,h2⟩:=Z1k s1.rel t1 _ _ hv
    simp at h;obtain⟨rfl,rfl⟩:=h
    refine⟨.tuple vs.toArray,?_,by simpa[VR]using h1,rfl⟩
    rw[Z1W h2]
    have hl:=h1.length
    have:vs.length≠1:=by
     intro e
     rw[e]at hl
     match us,hl with
     |[u],_=>exact hus u rfl
    simp[this]
 cases x with
 |normal =>
  obtain⟨v,k1,k2,rfl⟩:=key h rfl
  exact bodyPost_end k1 d1 (.inl ⟨v,sn1,ι1,rfl,k2,s1⟩)
 |exit id=>simp at h
 |ret =>
  obtain⟨v,k1,k2,rfl⟩:=key h rfl
  exact bodyPost_ret k1 d1 (.inl ⟨v,sn1,ι1,rfl,k2,s1⟩)
theorem OrcSoundX.plain{P:Program}{gl:Z0w}{orc:Orc}(h:OrcSoundX (λ_=>False) P gl orc):OrcSound P gl orc:=λf args H r H' e sn ι W cargs hg hR ha =>
 (h f args H r H' e sn ι W cargs hg hR ha).mono λ_ _ h=>by
  rcases h with h|⟨_,_,_,p⟩
  ·exact h
  ·exact p.no.elim
theorem Zca{orc:Orc}{fuel:Nat}(hm:P.follows .mixedOrders=true)(hn:NoNum P)(hO:OrcSound P gl orc):OrcSound P gl (λf args H=>ZeK P gl orc fuel f args H):=(ZaX (X:=λ_=>False) hm hn hO.x).plain
end fin
end Go.Abs
end

/-
  Texts of this proof, one behind the other (part 4).
-/
import Derived.Test.YtneoiadnbikciaaGreatDoorXr3
import Derived.Test.YtneoiadnbikciaaGreatDoorRows
import Derived.KernelRfl
import Derived.Sort.KeysCollected
import Derived.Maps.OwnSet
set_option linter.unusedVariables false
set_option linter.unusedSimpArgs false
set_option maxRecDepth 100000
set_option maxHeartbeats 4000000
open Go.Proofs.Tryz renaming prog → Y00
open Nat renaming beq → Y01,le_refl → Y04,le_trans → Y07,zero_add → Y0h,eq_of_beq_eq_true → Y0m,lt_of_lt_of_le → Y0B
open Go.Abs.Wk renaming noref → Y02,int → Y0d
open Bool renaming and_eq_true → Y03,not_eq_true' → Y0g,or_eq_true → Y0o,false_eq_true → Y0p,or_eq_false_iff → Y0z
open List renaming getElem?_eq_getElem → Y05,cons_append → Y06,getElem?_eq_some_iff → Y08,getElem?_append_left → Y09,getElem?_append_right → Y0a,length_append → Y0c,nil_append → Y0e,map_cons → Y0j,length_cons → Y0k,mem_of_getElem? → Y0n,drop_eq_getElem_cons → Y0r,mem_append → Y0s,drop_zero → Y0t,drop_succ_cons → Y0u,mem_map → Y0v,getElem?_cons_succ → Y0x,all_eq_true → Y0y,getElem?_cons_zero → Y0A,eq_nil_iff_forall_not_mem → Y0D,length_filter_eq_length_iff → Y0E
open Go.Abs.BodyGe renaming pre → Y0b
open Array renaming mem_toList_iff → Y0f,getElem?_toList → Y0i,getElem?_eq_some_iff → Y0l,getElem?_eq_getElem → Y0C
open Int renaming le_refl → Y0q
open Option renaming map_some → Y0w
namespace Go.Proofs.YtneoiadnbikciaaGreatDoor.lex
open Go.Abs Go.RowKit
section
theorem follows:Y00.follows .mixedOrders=true:=by kernel_rfl
theorem Zbu:(Y00.funcs.toList.all λfn=>!(fn.name == "runtime.NumGoroutine"))=true:=by kernel_rfl
theorem Z05:NoNum Y00:=⟨λg fn h=>by
 have h1:=Y0y.1 Zbu fn (Y0f.2 (Array.mem_of_getElem? h))
 simpa using h1,of_decide_eq_true (by kernel_rfl)⟩
variable {gl:Z0k}
theorem Z0g:OrcSound Y00 gl (ZkP λ_ _=>none):=Z7h λ_ _ _ h=>by cases h
def Z4S(n:Int):Bool:=decide (97<=n)&&decide (n<=122) || decide (65<=n)&&decide (n<=90)
def Z0W(n:Int):Bool:=decide (48<=n)&&decide (n<=57)
theorem ZfV(n:Int):ValOK Y00 gl 123 [.int .u8 n] (.bool (Z4S n)):=by
 refine Z0v follows Z05 Z0g Tryz.func123 rfl ?_
 repeat' ((conv=>whnf);first|refine stp ?_|with_reducible apply Z01<;>intro h)
 all_goals (try simp_all[Z0Y,Z4S])
 all_goals omega
theorem Zgm(n:Int):ValOK Y00 gl 125 [.int .u8 n] (.bool (Z0W n)):=by
 refine Z0v follows Z05 Z0g Tryz.func125 rfl ?_
 repeat' ((conv=>whnf);first|refine stp ?_|with_reducible apply Z01<;>intro h)
 all_goals (try simp_all[Z0Y,Z0W])
 all_goals omega
theorem Zbx(n:Int):ValOK Y00 gl 67 [.int .u8 n] (.bool (Z4S n)):=by
 refine Z0v follows Z05 Z0g Tryz.func67 rfl ?_
 repeat' ((conv=>whnf);first|refine stp ?_|with_reducible apply Z01<;>intro h)
 all_goals (try simp_all[Z0Y,Z4S])
 all_goals omega
theorem ZbS(n:Int):ValOK Y00 gl 68 [.int .u8 n] (.bool (Z0W n)):=by
 refine Z0v follows Z05 Z0g Tryz.func68 rfl ?_
 repeat' ((conv=>whnf);first|refine stp ?_|with_reducible apply Z01<;>intro h)
 all_goals (try simp_all[Z0Y,Z0W])
 all_goals omega
def F1(f:Nat)(xs:List AV):Option AV:=match f with
 |123=>match xs with|[.int .u8 n]=>some (.bool (Z4S n))|_=>none
 |125=>match xs with|[.int .u8 n]=>some (.bool (Z0W n))|_=>none
 |67=>match xs with|[.int .u8 n]=>some (.bool (Z4S n))|_=>none
 |68=>match xs with|[.int .u8 n]=>some (.bool (Z0W n))|_=>none
 |_=>none
theorem ZkI{f:Nat}{xs:List AV}{r:AV}(h:F1 f xs=some r):plain r=true/\ValOK Y00 gl f xs r:=by
 unfold F1 at h
 split at h<;>try (cases h;done)
 all_goals (split at h<;>cases h)
 ·exact⟨rfl,ZfV _⟩
 ·exact⟨rfl,Zgm _⟩
 ·exact⟨rfl,Zbx _⟩
 ·exact⟨rfl,ZbS _⟩
theorem Z8M:OrcSound Y00 gl (Z6v F1):=Z0J λf xs r h=>ZkI h
def Z4s(n:Int):Bool:=Z4S n || Z0W n || n==95
theorem ZaZ(n:Int):ValOK Y00 gl 124 [.int .u8 n] (.bool (Z4s n)):=by
 refine Z0v follows Z05 Z8M Tryz.func124 rfl ?_
 repeat' ((conv=>whnf);first|refine stp ?_|with_reducible apply Z01<;>intro h)
 all_goals (try simp_all[Z0Y,Z4s])
def F2(f:Nat)(xs:List AV):Option AV:=match f with
 |124=>match xs with|[.int .u8 n]=>some (.bool (Z4s n))|_=>none
 |f=>F1 f xs
theorem ZaU{f:Nat}{xs:List AV}{r:AV}(h:F2 f xs=some r):plain r=true/\ValOK Y00 gl f xs r:=by
 unfold F2 at h
 split at h
 · split at h<;>cases h
   exact⟨rfl,ZaZ _⟩
 ·exact ZkI h
theorem Zce:OrcSound Y00 gl (Z6v F2):=Z0J λf xs r h=>ZaU h
def Z0d(p:Int->Bool)(s:List UInt8):Nat:=(s.takeWhile λc=>p c.toNat).length
theorem Z1i{p:Int->Bool}{c:UInt8}(l:List UInt8)(h:p c.toNat=true):Z0d p (c::l)=Z0d p l+1:=by simp[Z0d,h]
theorem Z1r{p:Int->Bool}{c:UInt8}(l:List UInt8)(h:p c.toNat=false):Z0d p (c::l)=0:=by simp[Z0d,h]
theorem Z3E (g : Nat) (p : Int -> Bool) (hF : ∀ n, F2 g [.int .u8 n] = some (.bool (p n))) (hb : Z0m Y00 g = true) (s : List UInt8) (hs : s.length <= 9223372036854775807) :
  ValOK Y00 gl 112 [.str s,.func (.func g) [] []] (.int .i64 (Z0d p s)):=by
 refine Z0v follows Z05 Zce Tryz.func112 rfl ?_
 conv=>whnf
 refine⟨Nat,(λk=>k<=s.length/\Z0d p s=k+Z0d p (s.drop k)),(λk=>[(0,.str s),(1,.func (.func g) [] []),(5,.int .i64 k)]),(λ_=>[]),(λk=>s.length-k),⟨0,⟨Nat.zero_le _,by simp⟩,?_⟩,?_⟩
 · refine FgL.mk0 rfl ?_
   refine And.intro (Y02 rfl) ?_
   refine And.intro (Y02 rfl) ?_
   refine And.intro (Y02 rfl) ?_
   trivial
 · intro k ⟨hk,hsp⟩
   by_cases hlt:k<s.length
   · have e1:decide ((k:Int)<(s.length:Int))=true:=by simpa using hlt
     have hc:s[k]? = some s[k]:=by simp[hlt]
     have hd:s.drop k=s[k]::s.drop (k+1):=Y0r hlt
     cases hp:p s[k].toNat with
     |true =>
      repeat' ((conv=>whnf);first|with_reducible refine ixS _ rfl hc ?_|with_reducible refine exI (Z1d hb rfl (hF _)) ?_|refine stp ?_|with_reducible apply Z01<;>intro h)
      (conv=>whnf)
      have hn:=Z1i (s.drop (k+1)) hp
      rw[<- hd]at hn
      exact⟨k+1,⟨hlt,by omega⟩,by show s.length-(k+1)<s.length-k;omega,FgL.mk0 rfl ⟨Y02 rfl,Y02 rfl,Y0d rfl,trivial⟩⟩
     |false =>
      repeat' ((conv=>whnf);first|with_reducible refine ixS _ rfl hc ?_|with_reducible refine exI (Z1d hb rfl (hF _)) ?_|refine stp ?_|with_reducible apply Z01<;>intro h)
      have hn:=Z1r (s.drop (k+1)) hp
      rw[<- hd]at hn
      rw[hsp,hn];rfl
   · have e1:decide ((k:Int)<(s.length:Int))=false:=by simpa using hlt
     have hk':k=s.length:=by omega
     repeat' ((conv=>whnf);first|refine stp ?_|with_reducible apply Z01<;>intro h)
     rw[hsp,hk'];simp[Z0Y,Z0d]
theorem Z4f(p:Int->Bool)(s:List UInt8):Z0d p s<=s.length:=by
 unfold Z0d;exact (List.takeWhile_prefix _).length_le
theorem Z5F(c:UInt8)(n:Nat)(h:n<256):((c.toNat:Int)==(n:Int))=(c==UInt8.ofNat n):=by
 by_cases e:c=UInt8.ofNat n
 ·subst e;simp;omega
 · have:c.toNat≠n:=λe'=>e (by apply UInt8.toNat_inj.1;rw[e'];simp[Nat.mod_eq_of_lt h])
   rw[beq_eq_false_iff_ne.2 e,beq_eq_false_iff_ne];omega
def F3(f:Nat)(xs:List AV):Option AV:=match f with
 |112=>match xs with
  |[.str s,.func (.func 124) [] []]=>if s.length<=9223372036854775807 then some (.int .i64 (Z0d Z4s s)) else none
  |_=>none
 |f=>F2 f xs
theorem ZdS{f:Nat}{xs:List AV}{r:AV}(h:F3 f xs=some r):plain r=true/\ValOK Y00 gl f xs r:=by
 unfold F3 at h
 split at h
 · split at h<;>try (cases h;done)
   split at h<;>cases h
   rename_i hs
   exact⟨rfl,Z3E 124 Z4s (λ_=>rfl) (by kernel_rfl) _ hs⟩
 ·exact ZaU h
theorem Z2n:OrcSound Y00 gl (Z6v F3):=Z0J λf xs r h=>ZdS h
def Z0j:List UInt8->Nat
 |[]=>0
 |c::s=>if Z4S c.toNat then Z0d Z4s (c::s) else 0
theorem ZdZ(s:List UInt8)(hs:s.length<=9223372036854775807):ValOK Y00 gl 116 [.str s] (.int .i64 (Z0j s)):=by
 match s with
 |[] =>
  refine Z0v follows Z05 Z2n Tryz.func116 rfl ?_
  repeat' ((conv=>whnf);first|refine stp ?_|with_reducible apply Z01<;>intro h)
  all_goals (try simp_all[Z0Y,Z0j])
 |c::s =>
  have h1:((c::s)==[])=false:=by simp
  have h2:(c::s)[0]? = some c:=rfl
  refine Z0v follows Z05 Z2n Tryz.func116 rfl ?_
  repeat' ((conv=>whnf);first|with_reducible refine ixS 0 rfl h2 ?_|refine stp ?_|with_reducible apply Z01<;>intro h)
  all_goals (try (simp_all[Z0Y,Z0j];done))
def keysL:List (List UInt8):=[[115,104,97,114,101,100],[112,108,97,105,110],[116,104,114,101,97,100],[105,102],[101,108,115,101],[119,104,105,108,101],[108,111,97,100],[115,116,111,114,101],[99,97,115],[97,100,100],[115,119,97,112],[102,101,110,99,101],[97,115,115,117,109,101],[97,115,115,101,114,116],[110,97],[114,108,120],[97,99,113],[114,101,108],[97,114],[115,99]]
def ZbP:Nat->List (List UInt8)->List (AV×AV×Nat)
 |_,[]=>[]
 |n,k::l=>(.str k,.agg [],n)::ZbP (n+1) l
def Zrh:ABody:=.map (ZbP 0 keysL) 20
theorem ZeL(x:List UInt8):∀(l:List (List UInt8))(n i:Nat),∃o,Z7J .string (.str x) (ZbP n l) i=some o/\o.isSome=l.contains x/\∀p,o=some p->p.2 = .agg []
 |[],n,i=>⟨none,rfl,by simp,λp h=>by cases h⟩
 |k::l,n,i=>by
  obtain⟨o,h1,h2,h3⟩:=ZeL x l (n+1) (i+1)
  by_cases e:x=k
  · subst e
    exact⟨some (i,.agg []),by simp[ZbP,Z7J,Zc6],by simp,λp h=>by cases h;rfl⟩
  · refine⟨o,?_,by simp[h2,e],h3⟩
    have:(x==k)=false:=by simpa using e
    simp[ZbP,Z7J,Zc6,this,h1]
theorem kdK:Z61 Y00 125=some (.string,142):=by kernel_rfl
theorem Z8A{H:Z00}{b:Nat}(x:List UInt8)(h:Zhb H (.map b)=some (ZbP 0 keysL)):Z2T Y00 125 (.map b) (.str x) true H=some (.tuple [.agg [],.bool (keysL.contains x)]):=by
 obtain⟨o,h1,h2,h3⟩:=ZeL x keysL 0 0
 have hz:Z4y Y00 142=some (.agg []):=by kernel_rfl
 simp only[Z2T,kdK,h,h1,<- h2]
 cases o with
 |none=>simp[hz]
 |some p=>have:=h3 p rfl;obtain⟨j,v⟩:=p;subst this;simp
def Z47(s:List UInt8):AV:=if s≠[]/\Z0j s=s.length then .tuple [.int .i64 (if keysL.contains s then 2 else 1),.bool true] else .tuple [.int .i64 0,.bool false]
def F4(f:Nat)(xs:List AV):Option AV:=match f with
 |116=>match xs with|[.str s]=>if s.length<=9223372036854775807 then some (.int .i64 (Z0j s)) else none|_=>none
 |f=>F3 f xs
theorem ZgL{f:Nat}{xs:List AV}{r:AV}(h:F4 f xs=some r):plain r=true/\ValOK Y00 gl f xs r:=by
 unfold F4 at h
 split at h
 · split at h<;>try (cases h;done)
   split at h<;>cases h
   rename_i hs;exact⟨rfl,ZdZ _ hs⟩
 ·exact ZdS h
theorem Z71:OrcSound Y00 gl (Z6v F4):=Z0J λf xs r h=>ZgL h
section
attribute [local irreducible] Z0j
theorem ZkX(s:List UInt8)(hs:s.length<=9223372036854775807):ValOK Y00 gl 105 [.str s] (Z47 s):=by
 have e2:F4 116 [.str s]=some (.int .i64 (Z0j s)):=by simp only[F4];rw[if_pos (by omega)]
 have hb:Z0m Y00 116=true:=by kernel_rfl
 refine Z2f (λg=>Y01 g 116) 2 follows Z05 Z71 Tryz.func105 rfl ?_
 by_cases h0:s=[]
 · have e1:(s==[])=true:=by simpa using h0
   repeat' ((conv=>whnf);(first|refine stp ?_|with_reducible apply Z01<;>intro h))
   unfold Z47;rw[if_neg (by simp[h0])]
 · have e1:(s==[])=false:=by simpa using h0
   by_cases hw:Z0j s=s.length
   · have e3:((Z0j s:Int) != (s.length:Int))=false:=by rw[hw];simp
     have eR:Z47 s = .tuple [.int .i64 (if keysL.contains s then 2 else 1),.bool true]:=by unfold Z47;rw[if_pos ⟨h0,hw⟩]
     rw[eR]
     cases hc:keysL.contains s with
     |true =>
      repeat' ((conv=>whnf);first|with_reducible refine exI (Z1d hb rfl e2) ?_|(with_reducible refine exI (Z8A _ ?_) ?_;(focus rfl))|refine stp ?_|with_reducible apply Z01<;>intro h)
      conv=>whnf
      refine exI (Z8A _ ?_) ?_
      ·rfl
      rw[hc]
      repeat' ((conv=>whnf);(first|refine stp ?_|with_reducible apply Z01<;>intro h))
      rfl
     |false =>
      repeat' ((conv=>whnf);first|with_reducible refine exI (Z1d hb rfl e2) ?_|(with_reducible refine exI (Z8A _ ?_) ?_;(focus rfl))|refine stp ?_|with_reducible apply Z01<;>intro h)
      conv=>whnf
      refine exI (Z8A _ ?_) ?_
      ·rfl
      rw[hc]
      repeat' ((conv=>whnf);(first|refine stp ?_|with_reducible apply Z01<;>intro h))
      rfl
   · have e3:((Z0j s:Int) != (s.length:Int))=true:=by simp;omega
     repeat' ((conv=>whnf);first|with_reducible refine exI (Z1d hb rfl e2) ?_|refine stp ?_|with_reducible apply Z01<;>intro h)
     unfold Z47;rw[if_neg (λh=>hw h.2)]
end
theorem Zj2(x:List UInt8):ValOK Y00 gl 69 [.str x] (.int .i64 (if keysL.contains x then 2 else 1)):=by
 refine Z2f (λ_=>false) 2 follows Z05 Z8M Tryz.func69 rfl ?_
 repeat' ((conv=>whnf);first|refine stp ?_|with_reducible apply Z01<;>intro h)
 conv=>whnf
 refine⟨Nat,(λi=>i<=20/\keysL.contains x=(keysL.drop i).contains x),(λi=>[(0,.str x),(3,.slice 0 0 20 20 1),(4,.int .i64 i)]),(λ_=>[⟨true,0,0,.cells (keysL.map AV.str) 9⟩]),(λi=>20-i),⟨0,⟨by omega,rfl⟩,?_⟩,?_⟩
 · refine FgL.mk [0] rfl ?_ ?_ rfl
   ·exact⟨Y02 rfl,Wk.slice rfl rfl rfl (Y04 _) (Y04 _) rfl,Y0d rfl,trivial⟩
   ·exact⟨⟨rfl,rfl,rfl,rfl,Y0b (rest:=[]) rfl rfl⟩,trivial⟩
 · intro i ⟨hi,hs⟩
   by_cases hlt:i<20
   · have e1:decide ((i:Int)<20)=true:=by simp;omega
     have hlk:i<keysL.length:=hlt
     have hd:keysL.drop i=keysL[i]::keysL.drop (i+1):=Y0r hlk
     repeat' ((conv=>whnf);first|(with_reducible refine exI (Zba AV.str keysL i hlk ?_) ?_;focus omega)|refine stp ?_|with_reducible apply Z01<;>intro h)
     · have hc:keysL.contains x=true:=by rw[hs,hd,List.contains_cons,eq_of_beq h];simp
       rw[hc];rfl
     · conv=>whnf
       have hx:(x==keysL[i])=false:=beq_eq_false_iff_ne.2 (λe=>by rw[<- e]at h;simp at h)
       exact⟨i+1,⟨hlt,by rw[hs,hd,List.contains_cons,hx,Bool.false_or]⟩,by show 20-(i+1)<20-i;omega,FgL.mk [0] rfl ⟨Y02 rfl,Wk.slice rfl rfl rfl (Y04 _) (Y04 _) rfl,Y0d rfl,trivial⟩ ⟨⟨rfl,rfl,rfl,rfl,Y0b (rest:=[]) rfl rfl⟩,trivial⟩ rfl⟩
   · have e1:decide ((i:Int)<20)=false:=by simp;omega
     have hi':i=20:=by omega
     subst hi'
     repeat' ((conv=>whnf);first|refine stp ?_|with_reducible apply Z01<;>intro h)
     have hc:keysL.contains x=false:=by rw[hs];rfl
     rw[hc];rfl
def F5(f:Nat)(xs:List AV):Option AV:=match f with
 |69=>match xs with|[.str x]=>some (.int .i64 (if keysL.contains x then 2 else 1))|_=>none
 |f=>F1 f xs
theorem ZgK{f:Nat}{xs:List AV}{r:AV}(h:F5 f xs=some r):plain r=true/\ValOK Y00 gl f xs r:=by
 unfold F5 at h
 split at h
 · split at h<;>cases h
   exact⟨rfl,Zj2 _⟩
 ·exact ZkI h
theorem Z8L:OrcSound Y00 gl (Z6v F5):=Z0J λf xs r h=>ZgK h
end
end Go.Proofs.YtneoiadnbikciaaGreatDoor.lex
section
namespace Go.Abs
open Go.RowKit
theorem Wk.nil{m:List Nat}{z:Nat}:Wk m .nslice (.rs 0 z []):=λsn ι v h=>by simp only[VR]at h⊢;exact .inl ⟨trivial,trivial,h⟩
theorem swA{A B:Prop}(h:A):ZhB (A/\B) B:=λb=>⟨h,b⟩
theorem stw{P Q:Prop}(q:Q)(h:ZhB P Q:=by
 first
 |(refine swA (Wk.int ?_);(focus (first|rfl|omega|(simp;done)|(simp;omega))))|(refine swA (Wk.bool ?_);(focus (first|rfl|(simp;done))))|exact swA (Wk.noref rfl)
 |exact swA (Wk.ptr rfl rfl)|(refine swA (Wk.slice rfl ?_ ?_ ?_ ?_ ?_);(focus (first|rfl|omega));(focus (first|rfl|omega));(focus (first|rfl|omega));(focus (first|rfl|omega));(focus rfl))|exact swA Wk.nil|exact swA (Wk.func trivial ⟨Wk.ptr rfl rfl,trivial⟩)|exact swA (Wk.map rfl)):P:=h q
theorem ValOK.weak{P:Program}{gl:Z0k}{f:Nat}{args args2:List AV}{r:AV}(h:ValOK P gl f args2 r)(hw:∀sn vs,LR sn noI args vs->LR sn noI args2 vs):ValOK P gl f args r :=
 λsn W cargs hg hR ha=>h sn W cargs hg hR (hw _ _ ha)
theorem Z2o{z:Nat}{sn:Z0o}{ι : Z0n}{v:Value}(h:VR sn ι .nslice v):VR sn ι (.rs 0 z []) v:=by simp only[VR]at h⊢;exact .inl ⟨trivial,trivial,h⟩
section
open Classical
noncomputable def Zpp{I:Type}(G:I->Prop)(fF:I->Nat)(fA:I->List AV)(fR:I->AV):Orc:=ZkP λf args=>if h:∃i,G i/\fF i=f/\fA i=args then some (fR (Classical.choose h)) else none
theorem Zh9{P:Program}{gl:Z0k}{I:Type}{G:I->Prop}{fF:I->Nat}{fA:I->List AV}{fR:I->AV}(h:∀i,G i->refsL (fA i) []=[]/\ValOK P gl (fF i) (fA i) (fR i)):OrcSound P gl (Zpp G fF fA fR):=Z7h λf args r e=>by
 split at e
 · rename_i hx
   simp only[Option.some.injEq]at e
   subst e
   obtain⟨g1,e1,e2⟩:=Classical.choose_spec hx
   have:=h _ g1
   rw[e1,e2]at this;exact this
 ·cases e
theorem ZrC {P : Program} {I : Type} {G : I -> Prop} {fF : I -> Nat} {fA : I -> List AV} {fR : I -> AV} (hinj : ∀ i j, G i -> G j -> fF i = fF j -> fA i = fA j -> fR i = fR j) {H : Z00} (i : I) (hb : Z0m P (fF i) = true) (hi : G i) :
  Z06 P (Zpp G fF fA fR) H (fF i) (fA i)=some (fR i,H):=by
 have hx:∃j,G j/\fF j=fF i/\fA j=fA i:=⟨i,hi,rfl,rfl⟩
 unfold Z06
 rw[if_pos hb]
 unfold Zpp ZkP
 simp only[dif_pos hx]
 obtain⟨g1,g2,g3⟩:=Classical.choose_spec hx
 rw[hinj _ i g1 hi g2 g3]
theorem Z37{I:Type}{G:I->Prop}{fF:I->Nat}{fA:I->List AV}{fH:I->Z00}{fR:I->AV}{fO:I->Z00}{g:Nat}{args:List AV}{H:Z00}(h:∀i,G i->fF i=g->fA i≠args):orcI G fF fA fH fR fO g args H=none:=by
 unfold orcI
 rw[dif_neg]
 rintro⟨i,h1,h2,h3,_⟩
 exact h i h1 h2 h3
end
theorem callOr1{P:Program}{o1 o2:Orc}{H:Z00}{g:Nat}{args:List AV}{x:AV×Z00}(hb:Z0m P g=true)(h:Z06 P o1 H g args=some x):Z06 P (Z2t o1 o2) H g args=some x:=by
 unfold Z06 at h⊢
 rw[if_pos hb]at h⊢
 unfold Z2t;rw[h]
theorem Z54{P:Program}{o1 o2:Orc}{H:Z00}{g:Nat}{args:List AV}{x:AV×Z00}(hb:Z0m P g=true)(h1:o1 g args H=none)(h:Z06 P o2 H g args=some x):Z06 P (Z2t o1 o2) H g args=some x:=by
 unfold Z06 at h⊢
 rw[if_pos hb]at h⊢
 unfold Z2t;rw[h1];exact h
structure Fam (P:Program) (gl:Z0k) where
 I:Type
 f:Nat
 G:I->Prop
 A:I->List AV
 R:I->AV
 body:Z0m P f=true
 inj:∀i j,G i->G j->A i=A j->R i=R j
 ok:∀i,G i->refsL (A i) []=[]/\ValOK P gl f (A i) (R i)
structure FamM (P:Program) (gl:Z0k) where
 I:Type
 f:Nat
 G:I->Prop
 A:I->List AV
 H:I->Z00
 R:I->AV
 O:I->Z00
 body:Z0m P f=true
 inj:∀i j,G i->G j->A i=A j->H i=H j->R i=R j/\O i=O j
 ok:∀i,G i->Z1v P gl f (A i) (H i) (R i) (O i)
section
variable {P:Program} {gl:Z0k}
def Fam.Ask(F:Fam P gl)(O:Orc):Prop:=∀i,F.G i->∀H,Z06 P O H F.f (F.A i)=some (F.R i,H)
def FamM.Ask(F:FamM P gl)(O:Orc):Prop:=∀i,F.G i->Z06 P O (F.H i) F.f (F.A i)=some (F.R i,F.O i)
def AllAsk(O:Orc):List (Fam P gl)->Prop
 |[]=>True
 |F::l=>F.Ask O/\AllAsk O l
def AllAskM(O:Orc):List (FamM P gl)->Prop
 |[]=>True
 |F::l=>F.Ask O/\AllAskM O l
theorem Zf2{o O:Orc}{f:Nat}(ho:∀g args H,g≠f->o g args H=none):(∀F:Fam P gl,F.f≠f->F.Ask O->F.Ask (Z2t o O))/\(∀F:FamM P gl,F.f≠f->F.Ask O->F.Ask (Z2t o O)) :=
 ⟨λF hf h i hi H=>Z54 F.body (ho _ _ _ hf) (h i hi H),λF hf h i hi=>Z54 F.body (ho _ _ _ hf) (h i hi)⟩
theorem Z8H:∀(l:List (Fam P gl)),Z0U (l.map (·.f))=true->∃O,OrcSound P gl O/\AllAsk O l
 |[],_=>⟨λ_ _ _=>none,(λf args H r H' h=>by cases h),trivial⟩
 |F::l,h=>by
  simp only[Y0j,Z0U,Y03,Y0g]at h
  obtain⟨O,hO,ha⟩:=Z8H l h.2
  have ho:∀g args H,g≠F.f->Zpp F.G (λ_=>F.f) F.A F.R g args H=none:=by
   intro g args H hg
   have:¬ ∃i,F.G i/\F.f=g/\F.A i=args:=by
    rintro⟨i,_,h2,_⟩
    exact hg h2.symm
   simp only[Zpp,ZkP,dif_neg this]
  refine⟨Z2t (Zpp F.G (λ_=>F.f) F.A F.R) O,Z1E (Zh9 F.ok) hO,λi hi H=>callOr1 F.body (ZrC (λi j hi hj _ ha=>F.inj i j hi hj ha) i F.body hi),?_⟩
  have hn:∀G∈l,G.f≠F.f:=λG hG e=>by
   have h1:=h.1
   have:mem F.f (l.map (·.f))=true:=Z18.2 (by rw[<- e];exact List.mem_map_of_mem hG)
   rw[this]at h1;cases h1
  clear h
  induction l with
  |nil=>trivial
  |cons G l ih =>
   exact⟨(Zf2 ho).1 G (hn G (by simp)) ha.1,ih ha.2 λK hK=>hn K (by simp[hK])⟩
theorem fams(l:List (Fam P gl))(h:Z0U (l.map (·.f))=true):∃O,OrcSound P gl O/\AllAsk O l:=Z8H l h
theorem AllAsk.add{o O:Orc}{f:Nat}(ho:∀g args H,g≠f->o g args H=none):∀{l:List (Fam P gl)},mem f (l.map (·.f))=false->AllAsk O l->AllAsk (Z2t o O) l
 |[],_,_=>trivial
 |F::l,h,ha=>by
  simp only[Y0j,mem,Y0z]at h
  exact⟨(Zf2 ho).1 F (λe=>by rw[e]at h;simp at h) ha.1,AllAsk.add ho h.2 ha.2⟩
theorem AllAskM.add{o O:Orc}{f:Nat}(ho:∀g args H,g≠f->o g args H=none):∀{l:List (FamM P gl)},mem f (l.map (·.f))=false->AllAskM O l->AllAskM (Z2t o O) l
 |[],_,_=>trivial
 |F::l,h,ha=>by
  simp only[Y0j,mem,Y0z]at h
  exact⟨(Zf2 ho).2 F (λe=>by rw[e]at h;simp at h) ha.1,AllAskM.add ho h.2 ha.2⟩
theorem Z25:∀(m:List (FamM P gl))(l:List (Fam P gl)),Z0U (m.map (·.f)++l.map (·.f))=true->∃O,OrcSound P gl O/\AllAskM O m/\AllAsk O l
 |[],l,h=>by
  obtain⟨O,h1,h2⟩:=Z8H l h
  exact⟨O,h1,trivial,h2⟩
 |F::m,l,h=>by
  simp only[Y0j,Y06,Z0U,Y03,Y0g]at h
  obtain⟨O,hO,ha,hb⟩:=Z25 m l h.2
  have ho:∀g args H,g≠F.f->orcI F.G (λ_=>F.f) F.A F.H F.R F.O g args H=none:=λg args H hg=>Z37 λi _ e=>absurd e.symm hg
  have hmem:∀{a b:List Nat},mem F.f (a++b)=false->mem F.f a=false/\mem F.f b=false:=by
   intro a b h
   constructor
   · cases hx:mem F.f a with
     |false=>rfl
     |true=>rw[Z18.2 (Y0s.2 (.inl (Z18.1 hx)))]at h;cases h
   · cases hx:mem F.f b with
     |false=>rfl
     |true=>rw[Z18.2 (Y0s.2 (.inr (Z18.1 hx)))]at h;cases h
  obtain⟨n1,n2⟩:=hmem h.1
  refine⟨Z2t (orcI F.G (λ_=>F.f) F.A F.H F.R F.O) O,Z1E (Z2u F.ok) hO,⟨λi hi=>callOr1 F.body (Zdy (λi j hi hj _ ha hh=>F.inj i j hi hj ha hh) F.body i hi rfl rfl rfl),AllAskM.add ho n1 ha⟩,AllAsk.add ho n2 hb⟩
end
theorem hbp{a b:Bool}{f i s s2:Nat}{m:List Nat}{cs cs2:List AV}{ty:TypeId}(h1:a=true:=by rfl)(h2:b=true:=by rfl)(h3:f=i:=by rfl)(h4:s2=s:=by rfl)(h5:cs=cs2++[]:=by rfl)(h6:refsL cs2 []=[]:=by rfl):a=true/\b=true/\f=i/\s2=s/\BodyGe m (.cells cs ty) (.cells cs2 ty):=⟨h1,h2,h3,h4,BodyGe.pre (rest:=[]) h5 h6⟩
theorem wks{P:Prop}(h:P:=by (repeat (first|exact trivial|refine stw ?_));done):P:=h
theorem neS{α : Type}{l:List α}(h:l≠[]:=by first|exact List.cons_ne_nil _ _|assumption|(simp;done)|(intro hz;simp only[List.append_eq_nil_iff]at hz;simp_all;done)):l≠[]:=h
theorem leS{P:Prop}(h:P:=by (try simp only[List.length_append,List.length_cons,List.length_nil]at *);omega):P:=h
end Go.Abs
end
namespace Go.Proofs.YtneoiadnbikciaaGreatDoor.lex
open Go.Abs Go.RowKit
section
variable {gl:Z0k}
theorem Z5N{α : Type}[BEq α]{x y : α}{b:Bool}(h:(x==y)=b):(x != y) = !b:=by simp only[bne,h]
inductive Ex where
 |mk (op num:Int) (name:List UInt8) (kids:List Ex)
instance:Inhabited Ex:=⟨.mk 0 0 [] []⟩
def Ex.op:Ex->Int
 | .mk o _ _ _=>o
def Ex.num:Ex->Int
 | .mk _ n _ _=>n
def Ex.name:Ex->List UInt8
 | .mk _ _ s _=>s
def Ex.kids:Ex->List Ex
 | .mk _ _ _ k=>k
mutual
def Ex.cells:Ex->List AV
 | .mk op num name kids=>[.int .i64 op,.int .i64 num,.str name,.rs kids.length 4 (exC kids)]
def exC:List Ex->List AV
 |[]=>[]
 |e::l=>e.cells++exC l
end
def exA(l:List Ex):AV:=.rs l.length 4 (exC l)
mutual
def Z0A:Ex->Nat
 | .mk _ _ _ kids=>1+sizeL kids
def sizeL:List Ex->Nat
 |[]=>0
 |e::l=>Z0A e+sizeL l
end
mutual
def Z4z:Ex->Nat
 | .mk _ _ _ kids=>deepL kids+1
def deepL:List Ex->Nat
 |[]=>0
 |e::l=>max (Z4z e) (deepL l)
end
theorem Z53:∀e:Ex,e.cells.length=4
 | .mk _ _ _ _=>by simp only[Ex.cells];rfl
theorem Z7w:∀l:List Ex,(exC l).length=l.length*4
 |[]=>by simp only[exC];rfl
 |e::l=>by simp only[exC,Y0c,Z53,Z7w l,Y0k];omega
theorem ZjN:∀a b:List Ex,exC (a++b)=exC a++exC b
 |[],b=>by simp only[exC,Y0e]
 |e::a,b=>by simp only[exC,Y06,ZjN a b,List.append_assoc]
theorem Zmf(e:Ex)(l:List Ex)(i:Nat):(exC (e::l)).drop ((i+1)*4)=(exC l).drop (i*4):=by
 have h:(i+1)*4=4+i*4:=by omega
 rw[h,<- List.drop_drop,exC,List.drop_left' (Z53 e)]
theorem Zi0:∀(a b:List AV),tk a.length (a++b)=some a
 |[],b=>by cases b<;>rfl
 |c::a,b=>by simp only[Y0k,Y06,tk,Zi0 a b]
theorem Zge:∀(l:List Ex)(i:Nat)(h:i<l.length),(exC l).drop (i*4)=l[i].cells++exC (l.drop (i+1))
 |e::l,0,h=>by simp only[Nat.zero_mul,Y0t,exC,List.getElem_cons_zero,Y0u]
 |e::l,i+1,h=>by rw[Zmf,Zge l i (by simpa using h)];simp only[List.getElem_cons_succ,Y0u]
theorem ex4(l:List Ex)(i:Nat)(h:i<l.length):tk 4 ((exC l).drop (i*4))=some l[i].cells:=by
 rw[Zge l i h]
 have:=Zi0 l[i].cells (exC (l.drop (i+1)))
 rwa [Z53]at this
mutual
theorem Z6R:∀(a b:Ex),a.cells=b.cells->a=b
 | .mk o n s k,.mk o' n' s' k',h=>by
  simp only[Ex.cells]at h
  simp at h
  obtain⟨rfl,rfl,rfl,hl,hk⟩:=h
  rw[exC_inj k k' hk hl]
theorem exC_inj:∀(a b:List Ex),exC a=exC b->a.length=b.length->a=b
 |[],[],_,_=>rfl
 |x::a,y::b,h,hl=>by
  simp only[exC]at h
  have h':=List.append_inj h (by rw[Z53,Z53])
  rw[Z6R x y h'.1,exC_inj a b h'.2 (by simpa using hl)]
 |[],_::_,_,hl=>by simp at hl
 |_::_,[],_,hl=>by simp at hl
end
theorem Z9F{a b:List Ex}(h:exA a=exA b):a=b:=by
 simp only[exA,AV.rs.injEq,true_and]at h
 exact exC_inj _ _ h.2 h.1
theorem Z4J:∀e:Ex,0<Z0A e
 | .mk _ _ _ _=>by simp only[Z0A];omega
theorem Z6n:∀(l:List Ex)(i:Nat)(h:i<l.length),sizeL l=sizeL (l.take i)+Z0A l[i]+sizeL (l.drop (i+1))
 |e::l,0,h=>by simp only[List.take_zero,sizeL,List.getElem_cons_zero,Y0u,Y0t];omega
 |e::l,i+1,h=>by
  have:=Z6n l i (by simpa using h)
  simp only[List.take_succ_cons,sizeL,List.getElem_cons_succ,Y0u];omega
theorem Zag:∀e:Ex,Z0A e=1+sizeL e.kids
 | .mk _ _ _ _=>by simp only[Z0A,Ex.kids]
theorem Z1V:∀(l:List Ex)(e:Ex),e∈l->Z0A e<=sizeL l
 |e::l,f,h=>by
  simp only[sizeL]
  rcases List.mem_cons.1 h with rfl|h
  ·omega
  ·have:=Z1V l f h;omega
theorem Z0N{α : Type}{l:List α}{i:Nat}(h:i<l.length):l[i]∈l:=List.getElem_mem h
end
end Go.Proofs.YtneoiadnbikciaaGreatDoor.lex
section
namespace Go.Abs
open Go.RowKit
theorem ZqP {P : Program} {t t2 e : TypeId} {z by_ : Nat} (hT : Zcj P t t2 = some (e, z, by_)) {H : Z00} {x : AV} {xs : List AV} (hx : Z4r H z x = some (0, xs)) :
  Z2m P t t2 .nslice x H=some (.nslice,H):=by
 obtain⟨h1,i,u,h2,h3,h4,rfl,rfl⟩:=Z56 hT
 simp only[Z2m,h1,h2,h3]
 rw[if_pos h4]
 simp only[hx,if_true]
def ZqC(f e:Nat):Z00->Prop
 |[]=>True
 |o::H=>(o.fam≠f\/o.sh+o.body.len<=e)/\ZqC f e H
theorem Zgi{f e:Nat}:∀{H:Z00},ZqC f e H->∀o∈H,o.fam=f->o.sh+o.body.len<=e
 |[],_,o,h,_=>by cases h
 |x::H,h,o,ho,hf=>by
  rcases List.mem_cons.1 ho with rfl|ho
  · rcases h.1 with h1|h1
    ·exact absurd hf h1
    ·exact h1
  ·exact Zgi h.2 o ho hf
theorem ZoN{f e:Nat}{H:Z00}(h:ZqC f e H):Zho f e H=H:=ZoO (Zgi h)
theorem apS{P Q:Prop}(q:Q)(h:ZhB P Q:=by
 first
 |(with_reducible apply s1I (ZqP (by assumption) ?_));(any_goals (exact rfl));done
 |(with_reducible apply s1I (ZmD (by assumption) ?_));(any_goals (exact rfl));done
 |(with_reducible apply s1I (Zpb (by assumption) ?_ ?_ ?_));(any_goals (exact rfl));(all_goals first|omega|(simp only[List.length_cons];omega))
 |(with_reducible apply s1I (Zpa (by assumption) ?_ ?_ (ZoN ?_) ?_ ?_ ?_ ?_));(any_goals (exact rfl));(all_goals first
  |assumption
  |omega
  |(simp only[List.length_cons];omega)
  |(simp[ZqC,ABody.len];done)|(simp[ZqC,ABody.len];omega)
  |(simp;done)|(simp;omega))):P:=h q
end Go.Abs
end
section
namespace Go.Abs
open Go.RowKit
section
open Classical
noncomputable def snO(sn:Z0o)(ι : Z0n)(H:Z00)(W:World):Z0o:=λa=>if ∃ (b:Nat) (o:AObj) (p:Place),H[b]? = some o/\o.alive=true /\ ι b=some p/\p.blk=a.block then W.cell? a else sn a
end
theorem Zp0{W:World}{a:Addr}{v:Value}(hv:W.cell? a=some v):a.block<W.heap.size:=by
 cases hq:W.heap[a.block]? with
 |none=>unfold World.cell? at hv;rw[hq]at hv;simp at hv
 |some ob=>exact (Y0l.1 hq).1
end Go.Abs
end
section
namespace Go.Abs
open Go.RowKit
def ZnZ(fs:List Nat)(H:Z00):Z00:=kil (λ_ o=>!mem o.fam fs) 0 H
def WkZ(fs:List Nat)(H:Z00)(m:List Nat)(u u2:AV):Prop:=Wk m u u2\/frz (ZnZ fs H) 30 u=some u2
def SlotsGeZ(fs:List Nat)(H:Z00)(m:List Nat)(t:Tr):List (Nat×AV)->Prop
 |[]=>True
 |(n,u2)::l=>(onO (Z1p t n) λu=>WkZ fs H m u u2)/\SlotsGeZ fs H m t l
theorem SlotsGeZ.get{fs:List Nat}{H:Z00}{m:List Nat}{t:Tr}:∀{l:List (Nat×AV)},SlotsGeZ fs H m t l->∀n u2,Z21 n l=some u2->∃u,Z1p t n=some u/\WkZ fs H m u u2
 |[],h,n,u2,e=>by simp[Z21]at e
 |(k,v)::l,h,n,u2,e=>by
  simp only[Z21]at e
  split at e
  · rename_i hk
    have:=Y0m hk;subst this
    simp at e;subst e
    exact Z04 h.1
  ·exact h.2.get n u2 e
def BodyGeZ(fs:List Nat)(H:Z00)(m:List Nat):ABody->ABody->Prop
 | .cells cs ty,.cells cs2 ty2=>ty=ty2/\cs2.length<=cs.length/\∀(i:Nat)(c2:AV),cs2[i]? = some c2->∃c,cs[i]? = some c/\WkZ fs H m c c2
 |b,b2=>BodyGe m b b2
def HpGeZ(fs:List Nat)(H:Z00)(m:List Nat):List Nat->Z00->Nat->Prop
 |[],[],_=>True
 |j::l,o2::H2,i=>(onO H[j]? λo=>o.alive=true/\o2.alive=true/\o2.fam=i/\o2.sh=o.sh/\BodyGeZ fs H m o.body o2.body)/\HpGeZ fs H m l H2 (i+1)
 |_,_,_=>False
theorem HpGeZ.get{fs:List Nat}{H:Z00}{m:List Nat}:∀{l:List Nat}{H2:Z00}{i:Nat},HpGeZ fs H m l H2 i->H2.length=l.length/\∀b,b<l.length->∃j o o2,l[b]? = some j/\H[j]? = some o/\H2[b]? = some o2/\o.alive=true/\o2.alive=true/\o2.fam=i+b/\o2.sh=o.sh/\BodyGeZ fs H m o.body o2.body
 |[],[],i,h=>⟨rfl,λb hb=>by simp at hb⟩
 |j::l,o2::H2,i,h=>by
  obtain⟨h1,h2⟩:=h
  obtain⟨o,ho,e1,e2,e3,e4,e5⟩:=Z04 h1
  obtain⟨k1,k2⟩:=h2.get
  refine⟨by simp[k1],λb hb=>?_⟩
  cases b with
  |zero=>exact⟨j,o,o2,rfl,ho,rfl,e1,e2,e3,e4,e5⟩
  |succ b =>
   obtain⟨j',o',o2',x1,x2,x3,x4,x5,x6,x7,x8⟩:=k2 b (by simpa using hb)
   exact⟨j',o',o2',by simpa using x1,x2,by simpa using x3,x4,x5,by omega,x7,x8⟩
 |[],_::_,i,h=>h.elim
 |_::_,[],i,h=>h.elim
theorem FgS.giveup {k : Nat} {fs m : List Nat} {tm tm2 : Tr} {H H2 : Z00} (htr : ∀ n u2, Z1p tm2 n = some u2 -> ∃ u, Z1p tm n = some u /\ WkZ fs H m u u2) (htx : ∀ n, tex tm2 n = true -> tex tm n = true)
  (hp:HpGeZ fs H m m H2 0) (hfams:Z0U (m.map (Z1x H))=true) (hkp:ZfK k 0 m=true) (hd:(m.map (Z1x H)).all (λf=>!mem f fs)=true):FgS k tm H tm2 H2:=by
 intro sn ι W a hR ht
 obtain⟨hl,hg⟩:=hp.get
 generalize hHQ:ZnZ fs H=HQ
 have inQ:∀(b:Nat)(o:AObj),HQ[b]? = some o->o.alive=true->H[b]? = some o/\mem o.fam fs=true:=λb o hb hal=>by
  rw[<- hHQ]at hb
  obtain⟨o0,g1,_,_,g4⟩:=Z2F hb
  obtain⟨rfl,g5⟩:=g4 hal
  exact⟨g1,by simpa using g5⟩
 have hle:∀a v,sn a=some v->snO sn ι HQ W a=some v:=λa v hv=>by
  unfold snO
  split
  ·exact (hR.snap a v hv).2.1
  ·exact hv
 have hcell:∀a v,snO sn ι HQ W a=some v->W.cell? a=some v:=λa v hv=>by
  unfold snO at hv
  split at hv
  ·exact hv
  ·exact (hR.snap a v hv).2.1
 have hobjQ:∀(b:Nat)(o:AObj) p,HQ[b]? = some o->o.alive=true -> ι b=some p->OR sn ι W o.body p:=λb o p hb hal hp=>hR.obj b o p (inQ b o hb hal).1 hal hp
 have hz:∀(u u2:AV)(v:Value),WkZ fs H m u u2->VR sn ι u v->VR (snO sn ι HQ W) (iot m ι) u2 v:=λu u2 v h hv=>by
  rcases h with h|h
  ·exact Z1f ⟨hle,λ_ _ h=>h⟩ _ _ (h _ _ _ hv)
  · rw[hHQ]at h
    exact ZgF (Z5x hobjQ ⟨hle,λ_ _ h=>h⟩ (λb o p hb hal hp off v hv=>by
     unfold snO;rw[if_pos ⟨b,o,p,hb,hal,hp,rfl⟩];exact hv) 30 u u2 v h hv)
 have at2:∀{b:Nat}{o2:AObj}{p:Place},H2[b]? = some o2->iot m ι b=some p->∃j o,m[b]? = some j/\H[j]? = some o /\ ι j=some p/\o.alive=true/\o2.alive=true/\o2.fam=b/\o2.sh=o.sh/\BodyGeZ fs H m o.body o2.body:=by
  intro b o2 p hb hp
  obtain⟨j,o,o2',x1,x2,x3,x4,x5,x6,x7,x8⟩:=hg b (by rw[<- hl];exact (Y08.1 hb).1)
  rw[hb]at x3;simp at x3;subst x3
  simp only[iot,x1]at hp
  exact⟨j,o,x1,x2,hp,x4,x5,by omega,x7,x8⟩
 have hout:∀{b j:Nat}{o:AObj},m[b]? = some j->H[j]? = some o->mem o.fam fs=false:=λ{b j o} x1 x2=>by
  have hm:o.fam∈m.map (Z1x H):=Y0v.2 ⟨j,Y0n x1,by simp[Z1x,x2]⟩
  have:=Y0y.1 hd _ hm
  simpa using this
 have hR2:R (snO sn ι HQ W) (iot m ι) H2 W:=by
  refine⟨λb=>⟨λhb=>?_,λ⟨p,hp⟩=>?_⟩,λb p hp=>?_,λb o2 p hb ha hp=>?_,λb b' o o' p p' hb hb' ha ha' hp hp' e=>?_,λad v hv=>?_,λb o2 p hb hp e=>?_⟩
  · obtain⟨j,o,o2,x1,x2,_⟩:=hg b (by omega)
    obtain⟨p,hp⟩:=hR.place x2
    exact⟨p,by simp only[iot,x1];exact hp⟩
  · unfold iot at hp
    split at hp
    ·rename_i j hj;rw[hl];exact (Y08.1 hj).1
    ·cases hp
  · unfold iot at hp
    split at hp
    ·exact hR.blk _ p hp
    ·cases hp
  · obtain⟨j,o,x1,x2,x3,x4,x5,x6,x7,x8⟩:=at2 hb hp
    have hor:=hR.obj j o p x2 x4 x3
    generalize o.body=b1 at x8 hor
    generalize o2.body=b2 at x8
    unfold BodyGeZ at x8
    split at x8
    · obtain⟨rfl,h1,h2⟩:=x8
      simp only[OR]at hor⊢
      obtain⟨arr,g1,g2,g3,g4⟩:=hor
      refine⟨arr,g1,g2,by omega,λi c2 hc=>?_⟩
      obtain⟨c,e1,e2⟩:=h2 i c2 hc
      obtain⟨v,e3,e4⟩:=g4 i c e1
      exact⟨v,e3,hz _ _ _ e2 e4⟩
    ·exact Z0P ⟨hle,λ_ _ h=>h⟩ rfl (x8.or hor)
  · obtain⟨j,q,x1,x2,x3,x4,x5,x6,x7,x8⟩:=at2 hb hp
    obtain⟨j',q',y1,y2,y3,y4,y5,y6,y7,y8⟩:=at2 hb' hp'
    have hs:=hR.sep j j' q q' p p' x2 y2 x4 y4 x3 y3 e
    have:b=b':=Z5r (l:=m.map (Z1x H)) (x:=q.fam) hfams (by simp[x1,Z1x,x2]) (by simp[y1,Z1x,y2,hs.1])
    subst this
    exact⟨by rw[x6,y6],by rw[x7,y7];exact hs.2⟩
  · refine⟨Zp0 (hcell ad v hv),hcell ad v hv,λb o2 p hb ha hp hne=>?_⟩
    obtain⟨j,o,x1,x2,x3,x4,_⟩:=at2 hb hp
    unfold snO at hv
    split at hv
    · rename_i hex
      obtain⟨b',o',p',z1,z2,z3,z4⟩:=hex
      obtain⟨y1,y2⟩:=inQ b' o' z1 z2
      have:=(hR.sep j b' o o' p p' x2 y1 x4 z2 x3 z3 (hne.trans z4.symm)).1
      have h5:=hout x1 x2
      rw[this,y2]at h5;cases h5
    ·exact (hR.snap ad v hv).2.2 j o p x2 x4 x3 hne
  · obtain⟨j,o,x1,x2,x3,x4,x5,x6,x7,x8⟩:=at2 hb hp
    exact hR.shz j o p x2 x3 (by omega)
 refine⟨snO sn ι HQ W,iot m ι,⟨hR2,hle,λb o2 p hb ha hp=>?_,λ_ _ _=>rfl,Y04 _,rfl,rfl,rfl,λad v hv=>?_,λb p hb hp=>by have:=Zbn hkp b hb;simp only[Y0h]at this;simp only[iot,this];exact hp⟩,λt u2 hu=>?_,λt hx=>ht.2 t (htx t hx)⟩
 · obtain⟨j,o,x1,x2,x3,x4,_⟩:=at2 hb hp
   exact .inr ⟨j,o,p,x2,x4,x3,rfl⟩
 · unfold snO at hv
   split at hv
   · rename_i hex
     obtain⟨b,o,p,x1,x2,x3,x4⟩:=hex
     exact .inr (.inr ⟨b,o,p,(inQ b o x1 x2).1,x2,x3,x4⟩)
   ·exact .inl hv
 · obtain⟨u,h1,h2⟩:=htr t u2 hu
   obtain⟨v,h3,h4⟩:=ht.1 t u h1
   exact⟨v,h3,hz _ _ _ h2 h4⟩
theorem FgLK.mkZ{k:Nat}{t0 tm:Tr}{H:Z00}{l:List (Nat×AV)}{H2:Z00}(fs m:List Nat)(hk:ZfK k 0 m=true)(h:ZhF t0 tm=true)(h1:SlotsGeZ fs H m tm l)(h2:HpGeZ fs H m m H2 0)(h3:Z0U (m.map (Z1x H))=true)(h4:(m.map (Z1x H)).all (λf=>!mem f fs)=true):FgLK k t0 tm H l H2:=by
 unfold FgLK;rw[h]
 exact .inr (FgS.giveup (fs:=fs) (m:=m) (λn u2 e=>h1.get n u2 (Z3q _ _ _ _ e)) (λn e=>Z8s h n (by rwa [Z4i]at e)) h2 h3 hk h4)
theorem BodyGe.z{fs:List Nat}{H:Z00}{m:List Nat}{b b2:ABody}(h:BodyGe m b b2):BodyGeZ fs H m b b2:=by
 unfold BodyGeZ
 split
 · obtain⟨h1,h2,h3⟩:=h
   exact⟨h1,h2,λi c2 hc=>let ⟨c,e1,e2⟩:=h3 i c2 hc;⟨c,e1,.inl e2⟩⟩
 ·exact h
end Go.Abs
end
section
namespace Go.Abs
open Go.RowKit
def MemQ(P:Program)(gl:Z0k)(k f:Nat)(args:List AV)(H:Z00)(r:AV)(H':Z00):Prop :=
 ∀(sn:Z0o)(ι : Z0n)(W:World)(cargs:List Value),GlOK gl sn->R sn ι H W->LR sn ι args cargs ->
  CallsY P f cargs.toArray W λe W'=>∃v sn' ι',e = .returned v/\VR sn' ι' r v/\Stq k sn ι H W sn' ι' H' W'
def ZjF(P:Program)(l:List ResultVar)(k:Nat)(r:AV)(N:Z00)(tm:Tr)(H:Z00):Prop :=
 onO (Z3j P tm H l) λvs=>∃m,ZfK k 0 m=true/\HpGe H m m N 0/\Z0U (m.map (Z1x H))=true/\Wk m (Z0Y vs) r
theorem fn_memqR {rf : AV -> Array Tmp -> Code -> Code -> KN -> KX -> KN -> Tr -> Z00 -> Prop} {P : Program} {gl : Z0k} {orc : Orc} {k : Nat} (hrf : Zr2 P gl none k rf) (hm : P.follows .mixedOrders = true) (hn : NoNum P) (hO : OrcSound P gl orc) {f : Nat} {fn : Func} {c : Code} {args : List AV} {H0 N : Z00} {r : AV}
  (hf:P.funcs[f]? = some fn) (hc:fn.body=some c) {cw:CW} (hcw:Z5O P orc cw)
  (h:frcTr (tmk (Z76 args fn.ntmps args.length) (Z8c 20 fn.ntmps)) λtm=>Z29 P gl orc cw ⟨Z5J k,rf⟩ c (ZjF P fn.results.toList k r N) (λ_ _ _=>False) (ZjF P fn.results.toList k r N) tm H0):MemQ P gl k f args H0 r N:=by
 intro sn ι W cargs hg hR ha
 rw[Z1L]at h
 refine .inl (Z2P hf hc (Z1B (rd:=none) hrf hm hn hO hcw c h) hg hR ha (λ_ _ _ h=>h) λx tm1 H a1 W1 sn1 ι1 hx s1 t1=>?_)
 have key:ZjF P fn.results.toList k r N tm1 H->∃v,(results fn a1.tmps).run P W1 = .ok v W1/\∃sn' ι',VR sn' ι' r v/\Stq k sn ι H0 W sn' ι' N W1:=by
  intro h
  obtain⟨us,h1,m,h0,h2,h3,h4⟩:=Z04 h
  obtain⟨vs,k1,k2⟩:=Z0O s1.rel t1 _ _ h1
  obtain⟨hS,_⟩:=Fg.sound (k:=k) (m:=m) (tm:=tm1) (tm2:=Zau (λ_=>none) tm1) ⟨⟨λn u2 e=>(by have:=Z3q _ _ _ _ e;cases this),λn e=>(by rw[Z4i]at e;exact e)⟩,h2,h3,h0⟩ s1.rel t1
  exact⟨_,Z0R k2,sn1,iot m ι1,h4 _ _ _ (Z2K (fn:=fn) k1),s1.trans hS⟩
 cases x with
 |normal =>
  obtain⟨v,k1,sn',ι',k2,k3⟩:=key hx
  exact⟨v,k1,v,sn',ι',rfl,k2,k3⟩
 |exit id=>exact hx.elim
 |ret =>
  obtain⟨v,k1,sn',ι',k2,k3⟩:=key hx
  exact⟨v,k1,v,sn',ι',rfl,k2,k3⟩
theorem Zou {P : Program} {gl : Z0k} {orc : Orc} (hm : P.follows .mixedOrders = true) (hn : NoNum P) (hO : OrcSound P gl orc) {f k : Nat} {fn : Func} {c : Code} {args : List AV} {H0 N : Z00} {r : AV}
  (hf:P.funcs[f]? = some fn) (hc:fn.body=some c) {cw:CW} (hcw:Z5O P orc cw)
  (h:frcTr (tmk (Z76 args fn.ntmps args.length) (Z8c 20 fn.ntmps)) λtm=>Z29 P gl orc cw (Zab k) c (ZjF P fn.results.toList k r N) (λ_ _ _=>False) (ZjF P fn.results.toList k r N) tm H0):MemQ P gl k f args H0 r N :=
 fn_memqR (λ_ _ _ _ _ _ _ _ _ _ _ h=>h.elim) hm hn hO hf hc hcw h
theorem Z1c {P : Program} {gl : Z0k} {orc : Orc} (isC : Nat -> Bool) (n : Nat) (hm : P.follows .mixedOrders = true) (hn : NoNum P) (hO : OrcSound P gl orc) {f k : Nat} {fn : Func} {c : Code} {args : List AV} {H0 N : Z00} {r : AV}
  (hf:P.funcs[f]? = some fn) (hc:fn.body=some c)
  (h:frcTr (tmk (Z76 args fn.ntmps args.length) (Z8c 20 fn.ntmps)) λtm=>Z29 P gl (Z8h P gl orc isC n) (Z74 P gl orc isC n) (Zab k) c (ZjF P fn.results.toList k r N) (λ_ _ _=>False) (ZjF P fn.results.toList k r N) tm H0):MemQ P gl k f args H0 r N :=
 Zou hm hn (Z09 hm hn hO n) hf hc (Z0f n) h
def Zs4(m:List Nat)(σ : Nat->Nat)(k:Nat)(Hs:Z00):Nat->Z00->Z00
 |_,[]=>[]
 |i,o::H=>(match Z5M m i 0 with
  |some j=>if Nat.blt j k then (match Hs[j]? with
   |some o'=>{ o with alive:=o'.alive,body:=Z5I σ o'.body }
   |none=>o) else o.dead
  |none=>o)::Zs4 m σ k Hs (i+1) H
def Zhd(m fs:List Nat):Nat->Z00->Bool
 |_,[]=>true
 |i,o::H=>(mem i m || (!o.alive || !mem o.fam fs))&&Zhd m fs (i+1) H
theorem Z9k{m fs:List Nat}:∀{H:Z00}{i j:Nat}{o:AObj},Zhd m fs i H=true->H[j]? = some o->o.alive=true->i+j∈m\/o.fam ∉ fs
 |[],i,j,o,h,e,_=>by simp at e
 |x::H,i,0,o,h,e,ha=>by
  simp only[Zhd,Y03,Y0o,Y0g]at h
  simp at e;subst e
  rcases h.1 with h1|h1|h1
  ·exact .inl (Z18.1 h1)
  ·rw[ha]at h1;cases h1
  ·exact .inr λe=>by rw[Z18.2 e]at h1;cases h1
 |x::H,i,j+1,o,h,e,ha=>by
  simp only[Zhd,Y03]at h
  have:=Z9k h.2 (by simpa using e) ha
  rcases this with h1|h1
  ·exact .inl (by rw[show i+(j+1)=i+1+j by omega];exact h1)
  ·exact .inr h1
end Go.Abs
end
section
namespace Go.Abs
open Go.RowKit
def sgE(k d:Nat)(b:Nat):Nat:=if b<k then b else d+(b-k)
def Zcf(k:Nat)(σ : Nat->Nat)(Hs:Z00):Nat->Z00->Z00
 |_,[]=>[]
 |i,o::H=>(if Nat.blt i k then (match Hs[i]? with
  |some o'=>{ o with alive:=o'.alive,body:=Z5I σ o'.body }
  |none=>o) else o.dead)::Zcf k σ Hs (i+1) H
theorem Zfl (k : Nat) (σ : Nat -> Nat) (Hs : Z00) : ∀ (H : Z00) (i b : Nat), (Zcf k σ Hs i H)[b]? = (H[b]?).map fun o => if Nat.blt (i + b) k then (match Hs[i + b]? with
  |some o'=>{ o with alive:=o'.alive,body:=Z5I σ o'.body }
  |none=>o) else o.dead
 |[],i,b=>by simp[Zcf]
 |o::H,i,0=>by
  simp only[Zcf,Y0A,Y0w,Nat.add_zero]<;>rfl
 |o::H,i,b+1=>by
  simp only[Zcf,Y0x]
  rw[Zfl k σ Hs H (i+1) b,show i+1+b=i+(b+1) by omega]
theorem Zfk(k:Nat)(σ : Nat->Nat)(Hs:Z00):∀(H:Z00)(i:Nat),(Zcf k σ Hs i H).length=H.length
 |[],i=>rfl
 |o::H,i=>by simp only[Zcf,Y0k,Zfk k σ Hs H (i+1)]
def shE(σ : Nat->Nat):Z00->Z00
 |[]=>[]
 |o::H=>{ o with body:=Z5I σ o.body }::shE σ H
theorem Zim(σ : Nat->Nat):∀(H:Z00)(b:Nat),(shE σ H)[b]? = (H[b]?).map λo=>{ o with body:=Z5I σ o.body }
 |[],b=>by simp[shE]
 |o::H,0=>rfl
 |o::H,b+1=>by simp only[shE,Y0x];exact Zim σ H b
theorem Zeh(σ : Nat->Nat):∀H:Z00,(shE σ H).length=H.length
 |[]=>rfl
 |o::H=>by simp only[shE,Y0k,Zeh σ H]
theorem Z9i {P : Program} {gl : Z0k} {f k : Nat} {Hs Hs' : Z00} {args : List AV} {r : AV} (hM : MemQ P gl k f args Hs r Hs') (hl : Hs.length = k) (hl' : Hs'.length = k)
  (hev:∀(b:Nat)(o o':AObj),Hs[b]? = some o->Hs'[b]? = some o'->o'.fam=o.fam/\o'.sh=o.sh/\(o'.alive=true->o.alive=true)):Z1v P gl f args Hs r Hs':=by
 intro sn ι W vargs hg hR ha
 refine (hM sn ι W vargs hg hR ha).mono ?_
 rintro e W' ⟨v,sn',ι',rfl,hv,hst⟩
 have hι : ∀b p,ι b=some p -> ι' b=some p:=λb p hp=>hst.keep b p (by have:=(hR.dom b).2 ⟨p,hp⟩;omega) hp
 have hι2:∀b p,ι' b=some p -> ι b=some p:=λb p hp=>by
  obtain⟨q,hq⟩:=(hR.dom b).1 (by have:=(hst.rel.dom b).2 ⟨p,hp⟩;omega)
  have:=hι b q hq
  rw[hp]at this;cases this;exact hq
 refine⟨v,sn',ι',rfl,hv,hst.rel,⟨hst.le,hι⟩,λb p hp=>.inl (hι2 b p hp),hst.frame,hst.size,hst.os,hst.tape,hst.output,hst.sfresh,λb o hb=>?_⟩
 have hb':b<Hs'.length:=by have:=(Y08.1 hb).1;omega
 obtain⟨e1,e2,e3⟩:=hev b o _ hb (Y05 hb')
 exact⟨_,Y05 hb',e1,e2,e3⟩
end Go.Abs
end
namespace Go.Proofs.YtneoiadnbikciaaGreatDoor.lex
open Go.Abs Go.RowKit
section
variable {gl:Z0k}
structure Tq where
 kind:Int
 text:List UInt8
 num:Int
 pos:Int
def Tq.cells(t:Tq):List AV:=[.int .i64 t.kind,.str t.text,.int .i64 t.num,.int .i64 t.pos]
def tqC:List Tq->List AV
 |[]=>[]
 |t::l=>t.cells++tqC l
theorem tq4:∀(l:List Tq)(i:Nat)(h:i<l.length),tk 4 ((tqC l).drop (i*4))=some l[i].cells
 |t::l,0,h=>by simp only[Nat.zero_mul,Y0t,tqC];rfl
 |t::l,i+1,h=>by
  have e:(i+1)*4=4+i*4:=by omega
  have e2:(tqC (t::l)).drop ((i+1)*4)=(tqC l).drop (i*4):=by rw[e,<- List.drop_drop];rfl
  rw[e2,tq4 l i (by simpa using h)];rfl
structure Ps where
 i:Nat
 err:Int
 at_:Int
 op:Int
def psH(T:List Tq)(s:Ps):Z00:=[⟨true,0,0,.cells [.rs T.length 4 (tqC T),.int .i64 (s.i:Nat),.int .i64 s.err,.int .i64 s.at_,.int .i64 s.op] 80⟩]
structure PsOK (T:List Tq) (s:Ps):Prop where
 lt:s.i<T.length
 few:T.length<=1000000
 last:∀i,(h:i<T.length)->T[i].kind≠5->i+1<T.length
 lo : -(s.i:Int)<=s.op
 hi:s.op<=200
def Z0r(T:List Tq)(s:Ps):Tq:=T[s.i]?.getD ⟨5,[],0,0⟩
def Z0p(s:Ps)(e a:Int):Ps:=if s.err=0 then { s with err:=e,at_:=a } else s
def isF(T:List Tq)(s:Ps)(w:List UInt8):Bool:=s.err==0&&(((Z0r T s).kind==4 || (Z0r T s).kind==2)&&(Z0r T s).text==w)
def upB(w:List UInt8):Bool:=w==[40] || w==[123]
def dnB(w:List UInt8):Bool:=w==[41] || w==[125]
def Z0L(T:List Tq)(s:Ps)(w:List UInt8):Bool:=isF T s w && !(upB w&&s.op==200)
def Z0l(T:List Tq)(s:Ps)(w:List UInt8):Ps:=if isF T s w=true then (if upB w=true/\s.op=200 then Z0p s 3 (Z0r T s).pos else { s with i:=s.i+1,op:=if upB w=true then s.op+1 else if dnB w=true then s.op-1 else s.op }) else s
theorem Z0t{T:List Tq}{s:Ps}(h:s.i<T.length):Z0r T s=T[s.i]:=by unfold Z0r;rw[Y05 h];rfl
def isQ(f:Nat):Bool:=false
theorem Zqd{T:List Tq}{s:Ps}(hs:PsOK T s)(w:List UInt8):MemQ Y00 gl 1 90 [.ptr 0 0,.str w] (psH T s) (.bool (isF T s w)) (psH T s):=by
 have hx:=tq4 T s.i hs.lt
 rw[<- Z0t hs.lt]at hx
 have hlt:=hs.lt
 have hfew:=hs.few
 unfold isF
 generalize Z0r T s=t at *
 obtain⟨k,tx,nm,ps⟩:=t
 obtain⟨i,err,at_,op⟩:=s
 simp only[Tq.cells]at hx hlt⊢
 simp only[psH]
 refine Z1c isQ 3 follows Z05 Z0g Tryz.func90 rfl ?_
 cases e1:err==0<;>cases e2:k==4<;>cases e3:k==2
 all_goals repeat' ((conv=>whnf);first|refine exI hx ?_|(with_reducible refine ixJ i rfl ?_ ?_;focus omega)|refine stp ?_|with_reducible apply Z01<;>intro h)
 all_goals (try (conv=>whnf))
 all_goals exact⟨[0],rfl,⟨hbp,trivial⟩,rfl,Wk.bool (by first|rfl|(simp;done))⟩
theorem Z4P{f:Nat}{T:List Tq}{s s':Ps}{args:List AV}{r:AV}(h:MemQ Y00 gl 1 f args (psH T s) r (psH T s')):Z1v Y00 gl f args (psH T s) r (psH T s'):=Z9i h rfl rfl λb o o' h h'=>by
 match b,h,h' with
 |0,h,h'=>cases h;cases h';exact⟨rfl,rfl,λ_=>rfl⟩
 |b+1,h,h'=>cases h
def isT(f:Nat):Bool:=Y01 f 90
theorem Ze8{T:List Tq}{s:Ps}(hs:PsOK T s)(w:List UInt8):MemQ Y00 gl 1 45 [.ptr 0 0,.str w] (psH T s) (.bool (Z0L T s w)) (psH T (Z0l T s w)):=by
 have hx:=tq4 T s.i hs.lt
 rw[<- Z0t hs.lt]at hx
 have hlt:=hs.lt
 have hfew:=hs.few
 have hlo:=hs.lo
 have hhi:=hs.hi
 obtain⟨O,hO,⟨p1,-⟩,-⟩:=Z25 (P:=Y00) (gl:=gl) [{ I:=Unit,f:=90,G:=λ_=>True,A:=λ_=>[.ptr 0 0,.str w],H:=λ_=>psH T s,R:=λ_=>.bool (isF T s w),O:=λ_=>psH T s,body:=(by kernel_rfl),inj:=(λ_ _ _ _ _ _=>⟨rfl,rfl⟩),ok:=λ_ _=>Z4P (Zqd hs w) }] [] rfl
 have q1:=p1 () trivial
 simp only at q1
 clear p1
 have herr:isF T s w=true->s.err=0:=λh=>by unfold isF at h;simp at h;exact h.1
 unfold Z0L Z0l upB dnB Z0p
 generalize isF T s w=b at *
 generalize Z0r T s=t at *
 obtain⟨k,tx,nm,ps⟩:=t
 obtain⟨i,err,at_,op⟩:=s
 simp only[Tq.cells]at hx hlt hlo hhi herr⊢
 simp only[psH]at q1⊢
 have wa:IntKind.i64.wrap ((i:Int)+1)=((i+1:Nat):Int):=Z1P (by omega)
 have wb:IntKind.i64.wrap (op+1)=op+1:=Z8b (by omega) (by omega)
 have wc:IntKind.i64.wrap (op-1)=op-1:=Z8b (by omega) (by omega)
 refine Z1c isT 3 follows Z05 hO Tryz.func45 rfl ?_
 cases b with
 |false =>
  repeat' ((conv=>whnf);first|refine exI q1 ?_|refine stp ?_|with_reducible apply Z01<;>intro h)
  all_goals (try (conv=>whnf))
  all_goals exact⟨[0],rfl,⟨hbp,trivial⟩,rfl,Wk.bool rfl⟩
 |true =>
  have herr:=herr rfl
  subst herr
  have hw:(w=[40]\/w=[123])\/(w=[41]\/w=[125])\/((w==[40])=false/\(w==[123])=false/\(w==[41])=false/\(w==[125])=false):=by
   by_cases h1:w=[40]
   ·exact .inl (.inl h1)
   by_cases h2:w=[123]
   ·exact .inl (.inr h2)
   by_cases h3:w=[41]
   ·exact .inr (.inl (.inl h3))
   by_cases h4:w=[125]
   ·exact .inr (.inl (.inr h4))
   exact .inr (.inr ⟨by simpa using h1,by simpa using h2,by simpa using h3,by simpa using h4⟩)
  rcases hw with hw|hw|⟨g1,g2,g3,g4⟩
  · by_cases h5:op=200
    · subst h5
      rcases hw with rfl|rfl
      all_goals repeat' ((conv=>whnf);first|refine exI q1 ?_|refine exI hx ?_|(with_reducible refine exW wa ?_)|(with_reducible refine exW wb ?_)|(with_reducible refine exW wc ?_)|(with_reducible refine ixJ i rfl ?_ ?_;focus omega)|refine stp ?_|with_reducible apply Z01<;>intro h)
      all_goals (try (conv=>whnf))
      all_goals exact⟨[0],rfl,⟨hbp,trivial⟩,rfl,Wk.bool rfl⟩
    · have e5:(op==200)=false:=by simpa using h5
      simp only[h5,and_false,if_false,e5,Bool.and_false]
      rcases hw with rfl|rfl
      all_goals repeat' ((conv=>whnf);first|refine exI q1 ?_|refine exI hx ?_|(with_reducible refine exW wa ?_)|(with_reducible refine exW wb ?_)|(with_reducible refine exW wc ?_)|(with_reducible refine ixJ i rfl ?_ ?_;focus omega)|refine stp ?_|with_reducible apply Z01<;>intro h)
      all_goals (try (conv=>whnf))
      all_goals exact⟨[0],rfl,⟨hbp,trivial⟩,rfl,Wk.bool rfl⟩
  · rcases hw with rfl|rfl
    all_goals repeat' ((conv=>whnf);first|refine exI q1 ?_|refine exI hx ?_|(with_reducible refine exW wa ?_)|(with_reducible refine exW wb ?_)|(with_reducible refine exW wc ?_)|(with_reducible refine ixJ i rfl ?_ ?_;focus omega)|refine stp ?_|with_reducible apply Z01<;>intro h)
    all_goals (try (conv=>whnf))
    all_goals exact⟨[0],rfl,⟨hbp,trivial⟩,rfl,Wk.bool rfl⟩
  · simp only[g1,g2,g3,g4,Bool.or_self,Y0p,false_and,if_false,if_true,Bool.false_and,Bool.not_false,Bool.and_true]
    repeat' ((conv=>whnf);first|refine exI q1 ?_|refine exI hx ?_|(with_reducible refine exW wa ?_)|(with_reducible refine exW wb ?_)|(with_reducible refine exW wc ?_)|(with_reducible refine ixJ i rfl ?_ ?_;focus omega)|refine stp ?_|with_reducible apply Z01<;>intro h)
    all_goals (try (conv=>whnf))
    all_goals exact⟨[0],rfl,⟨hbp,trivial⟩,rfl,Wk.bool rfl⟩
theorem Z6e{T:List Tq}{s:Ps}(hs:PsOK T s){w:List UInt8}(hk:isF T s w=true->(Z0r T s).kind≠5):PsOK T (Z0l T s w):=by
 unfold Z0l
 split
 · rename_i h
   split
   · unfold Z0p;split
     ·exact⟨hs.lt,hs.few,hs.last,hs.lo,hs.hi⟩
     ·exact hs
   · rename_i h2
     have h3:=hk h
     rw[Z0t hs.lt]at h3
     have hlo:=hs.lo
     have hhi:=hs.hi
     refine⟨hs.last _ hs.lt h3,hs.few,hs.last,?_,?_⟩
     · show -((s.i+1:Nat):Int)<=_
       simp only
       split
       ·omega
       ·split<;>omega
     · simp only
       split
       · rename_i h4
         have:s.op≠200:=λe=>h2 ⟨h4,e⟩
         omega
       ·split<;>omega
 ·exact hs
theorem Z4U{T:List Tq}{s:Ps}{w:List UInt8}(h:isF T s w=true):(Z0r T s).kind≠5:=by
 unfold isF at h
 simp only[Y03,Y0o,beq_iff_eq]at h
 omega
def Z03(T:List Tq)(s:Ps)(w:List UInt8):Ps:=if Z0L T s w=true then Z0l T s w else Z0p (Z0l T s w) 5 (Z0r T (Z0l T s w)).pos
def Z1Q(T:List Tq)(s:Ps):Bool:=s.err==0&&(Z0r T s).kind==1
def Z0Z(T:List Tq)(s:Ps):List UInt8:=if Z1Q T s=true then (Z0r T s).text else []
def Z0e(T:List Tq)(s:Ps):Ps:=if Z1Q T s=true then { s with i:=s.i+1 } else Z0p s 5 (Z0r T s).pos
end
section
variable {gl:Z0k}
theorem Z8I{T:List Tq}{s:Ps}(hs:PsOK T s)(e a:Int):PsOK T (Z0p s e a):=by
 unfold Z0p;split
 ·exact⟨hs.lt,hs.few,hs.last,hs.lo,hs.hi⟩
 ·exact hs
theorem Z5t{T:List Tq}{s:Ps}(hs:PsOK T s)(w:List UInt8):PsOK T (Z03 T s w):=by
 have h:=Z6e hs (w:=w) Z4U
 unfold Z03;split
 ·exact h
 ·exact Z8I h _ _
theorem Z8q{T:List Tq}{s:Ps}(hs:PsOK T s):PsOK T (Z0e T s):=by
 unfold Z0e;split
 · rename_i h
   unfold Z1Q at h
   simp only[Y03,beq_iff_eq]at h
   have h3:(Z0r T s).kind≠5:=by omega
   rw[Z0t hs.lt]at h3
   have hlo:=hs.lo
   exact⟨hs.last _ hs.lt h3,hs.few,hs.last,by show -((s.i+1:Nat):Int)<=s.op;omega,hs.hi⟩
 ·exact Z8I hs _ _
def isN(f:Nat):Bool:=Y01 f 45
theorem Zo3{T:List Tq}{s:Ps}(hs:PsOK T s)(w:List UInt8):MemQ Y00 gl 1 92 [.ptr 0 0,.str w] (psH T s) (.tuple []) (psH T (Z03 T s w)):=by
 have hs2:=Z6e hs (w:=w) Z4U
 obtain⟨O,hO,⟨p1,-⟩,-⟩:=Z25 (P:=Y00) (gl:=gl) [{ I:=Unit,f:=45,G:=λ_=>True,A:=λ_=>[.ptr 0 0,.str w],H:=λ_=>psH T s,R:=λ_=>.bool (Z0L T s w),O:=λ_=>psH T (Z0l T s w),body:=(by kernel_rfl),inj:=(λ_ _ _ _ _ _=>⟨rfl,rfl⟩),ok:=λ_ _=>Z4P (Ze8 hs w) }] [] rfl
 have q1:=p1 () trivial
 simp only at q1
 clear p1
 unfold Z03
 generalize Z0l T s w=s2 at *
 generalize Z0L T s w=b at *
 have hx:=tq4 T s2.i hs2.lt
 rw[<- Z0t hs2.lt]at hx
 have hlt:=hs2.lt
 unfold Z0p
 generalize Z0r T s2=t at *
 obtain⟨k,tx,nm,ps⟩:=t
 obtain⟨i,err,at_,op⟩:=s2
 simp only[Tq.cells]at hx hlt⊢
 simp only[psH]at q1⊢
 refine Z1c isN 3 follows Z05 hO Tryz.func92 rfl ?_
 cases b
 · by_cases he:err=0
   · subst he
     repeat' ((conv=>whnf);first|refine exI q1 ?_|refine exI hx ?_|(with_reducible refine ixJ i rfl ?_ ?_;focus omega)|refine stp ?_|with_reducible apply Z01<;>intro h)
     all_goals (try (conv=>whnf))
     all_goals exact⟨[0],rfl,⟨hbp,trivial⟩,rfl,Y02 rfl⟩
   · have e1:(err==0)=false:=by simpa using he
     simp only[he,if_false,Y0p]
     repeat' ((conv=>whnf);first|refine exI q1 ?_|refine exI hx ?_|(with_reducible refine ixJ i rfl ?_ ?_;focus omega)|refine stp ?_|with_reducible apply Z01<;>intro h)
     all_goals (try (conv=>whnf))
     all_goals exact⟨[0],rfl,⟨hbp,trivial⟩,rfl,Y02 rfl⟩
 · repeat' ((conv=>whnf);first|refine exI q1 ?_|refine stp ?_|with_reducible apply Z01<;>intro h)
   all_goals (try (conv=>whnf))
   all_goals exact⟨[0],rfl,⟨hbp,trivial⟩,rfl,Y02 rfl⟩
theorem Zlq{T:List Tq}{s:Ps}(hs:PsOK T s):MemQ Y00 gl 1 91 [.ptr 0 0] (psH T s) (.str (Z0Z T s)) (psH T (Z0e T s)):=by
 have hx:=tq4 T s.i hs.lt
 rw[<- Z0t hs.lt]at hx
 have hlt:=hs.lt
 have hfew:=hs.few
 unfold Z0Z Z0e Z1Q Z0p
 generalize Z0r T s=t at *
 obtain⟨k,tx,nm,ps⟩:=t
 obtain⟨i,err,at_,op⟩:=s
 simp only[Tq.cells]at hx hlt⊢
 simp only[psH]
 have wa:IntKind.i64.wrap ((i:Int)+1)=((i+1:Nat):Int):=Z1P (by omega)
 refine Z1c isQ 3 follows Z05 Z0g Tryz.func91 rfl ?_
 by_cases he:err=0
 · subst he
   by_cases hk:k=1
   · subst hk
     repeat' ((conv=>whnf);first|refine exI hx ?_|(with_reducible refine exW wa ?_)|(with_reducible refine ixJ i rfl ?_ ?_;focus omega)|refine stp ?_|with_reducible apply Z01<;>intro h)
     all_goals (try (conv=>whnf))
     all_goals exact⟨[0],rfl,⟨hbp,trivial⟩,rfl,Y02 rfl⟩
   · have e1:(k != 1)=true:=by simpa using hk
     have e2:(k==1)=false:=by simpa using hk
     simp only[e2,Bool.and_false,Y0p,if_false,if_true]
     repeat' ((conv=>whnf);first|refine exI hx ?_|(with_reducible refine exW wa ?_)|(with_reducible refine ixJ i rfl ?_ ?_;focus omega)|refine stp ?_|with_reducible apply Z01<;>intro h)
     all_goals (try (conv=>whnf))
     all_goals exact⟨[0],rfl,⟨hbp,trivial⟩,rfl,Y02 rfl⟩
 · have e1:(err != 0)=true:=by simpa using he
   have e2:(err==0)=false:=by simpa using he
   simp only[e2,he,Bool.false_and,Y0p,if_false]
   repeat' ((conv=>whnf);first|refine exI hx ?_|(with_reducible refine exW wa ?_)|(with_reducible refine ixJ i rfl ?_ ?_;focus omega)|refine stp ?_|with_reducible apply Z01<;>intro h)
   all_goals (try (conv=>whnf))
   all_goals exact⟨[0],rfl,⟨hbp,trivial⟩,rfl,Y02 rfl⟩
end
end Go.Proofs.YtneoiadnbikciaaGreatDoor.lex
section
namespace Go.Abs
open Go.RowKit
def ZoA(d:Nat):Z00->Bool
 |[]=>true
 |o::H=>Nat.blt o.fam d&&ZoA d H
theorem Z10{d:Nat}:∀{H:Z00},ZoA d H=true->∀o∈H,o.fam<d
 |[],_,o,h=>by cases h
 |x::H,h,o,ho=>by
  simp only[ZoA,Y03]at h
  rcases List.mem_cons.1 ho with rfl|ho
  ·exact Z85 h.1
  ·exact Z10 h.2 o ho
end Go.Abs
end
section
namespace Go.Abs
open Go.RowKit
def Zey(tm:Tr):Nat->Bool
 |0=>true
 |n+1=>tex tm n
def ZeJ(k:Nat):Z00->Bool
 |[]=>true
 |o::H=>Z11 k (Z3V o.body [])&&ZeJ k H
theorem Z9x{k:Nat}:∀{H:Z00}{b:Nat}{o:AObj},ZeJ k H=true->H[b]? = some o->Z11 k (Z3V o.body [])=true
 |[],b,o,h,e=>by simp at e
 |x::H,0,o,h,e=>by simp only[ZeJ,Y03]at h;simp at e;subst e;exact h.1
 |x::H,b+1,o,h,e=>by simp only[ZeJ,Y03]at h;exact Z9x h.2 (by simpa using e)
def Z08(fs:List Nat):Z00->Bool
 |[]=>true
 |o::H=>!mem o.fam fs&&Z08 fs H
theorem Z7g{fs:List Nat}:∀{X:Z00}{b:Nat}{o:AObj},Z08 fs X=true->X[b]? = some o->o.fam ∉ fs
 |[],b,o,h,e=>by simp at e
 |x::X,0,o,h,e=>by
  simp only[Z08,Y03,Y0g]at h
  simp at e;subst e
  intro hm;rw[Z18.2 hm]at h;cases h.1
 |x::X,b+1,o,h,e=>by simp only[Z08,Y03]at h;exact Z7g h.2 (by simpa using e)
theorem ZiN{P:Program}{gl:Z0k}{f:Nat}{args:List AV}{H H':Z00}{r:AV}(hM:Z1v P gl f args H r H')(X:Z00)(hl:H'.length=H.length)(ha:Z11 H.length (refsL args [])=true)(hb:ZeJ H.length H=true)(hX:Z08 (H.map (·.fam)) X=true):Z1v P gl f args (H++X) r (H'++X):=by
 intro sn ι W cargs hg hR hargs
 let ι0:Z0n:=λb=>if b<H.length then ι b else none
 have i0:∀b,b<H.length -> ι0 b = ι b:=λb h=>if_pos h
 have i0':∀b p,ι0 b=some p->b<H.length /\ ι b=some p:=λb p h=>by
  have h:(if b<H.length then ι b else none)=some p:=h
  split at h
  ·exact⟨by assumption,h⟩
  ·cases h
 have gH:∀(b:Nat)(o:AObj),H[b]? = some o->(H++X)[b]? = some o:=λb o h=>by
  rw[Y09 (Y08.1 h).1];exact h
 have hfam:∀(b c:Nat)(o x:AObj)(p q:Place),H[b]? = some o->(H++X)[c]? = some x->o.alive=true->x.alive=true->H.length<=c -> ι b=some p -> ι c=some q->p.blk=q.blk->False:=by
  intro b c o x p q hb hc ha ha' hk hp hq e
  have hf:=(hR.sep b c o x p q (gH b o hb) hc ha ha' hp hq e).1
  rw[Y0a hk]at hc
  exact Z7g hX hc (by rw[<- hf];exact Y0v.2 ⟨o,Y0n hb,rfl⟩)
 have hR0:R sn ι0 H W:=by
  refine⟨λb=>⟨λhb=>?_,λ⟨p,hp⟩=>(i0' b p hp).1⟩,λb p hp=>hR.blk b p (i0' b p hp).2,λb o p ho hal hp=>?_,λb b' o o' p p' ho ho' ha ha' hp hp' e=>hR.sep b b' o o' p p' (gH _ _ ho) (gH _ _ ho') ha ha' (i0' _ _ hp).2 (i0' _ _ hp').2 e,λa v hv=>?_,λb o p ho hp e=>hR.shz b o p (gH _ _ ho) (i0' _ _ hp).2 e⟩
  · obtain⟨p,hp⟩:=(hR.dom b).1 (by rw[Y0c];omega)
    exact⟨p,by rw[i0 b hb];exact hp⟩
  · obtain⟨hbl,hp⟩:=i0' b p hp
    exact Z2B o.body p (λx hx q hq=>by rw[i0 x (Z0M (Z9x hb ho) x hx)];exact hq) (hR.obj b o p (gH _ _ ho) hal hp)
  · obtain⟨h1,h2,h3⟩:=hR.snap a v hv
    exact⟨h1,h2,λb o p ho hal hp=>h3 b o p (gH _ _ ho) hal (i0' _ _ hp).2⟩
 have hl0:LR sn ι0 args cargs:=LR_refs args [] cargs (λb hb' p hp=>by rw[i0 b (Z0M ha b hb')];exact hp) hargs
 refine (hM sn ι0 W cargs hg hR0 hl0).mono ?_
 rintro e W1 ⟨v,sn1,ι1,rfl,hv,hs⟩
 let ι2:Z0n:=λb=>match ι1 b with|some p=>some p|none=>ι b
 have a1:∀b p,ι1 b=some p -> ι2 b=some p:=λb p h=>by show (match ι1 b with|some p=>some p|none=>ι b)=some p;rw[h]
 have a2:∀b,H.length<=b -> ι2 b = ι b:=λb h=>by
  show (match ι1 b with|some p=>some p|none=>ι b) = ι b
  cases hq : ι1 b with
  |none=>rfl
  |some p=>have:=(hs.rel.dom b).2 ⟨p,hq⟩;omega
 have a3:∀b p,ι b=some p -> ι2 b=some p:=λb p h=>by
  by_cases hb':b<H.length
  ·exact a1 b p (hs.le.ι b p (by rw[i0 b hb'];exact h))
  ·rw[a2 b (by omega)];exact h
 have a4:∀b p,b<H.length -> ι2 b=some p -> ι1 b=some p /\ ι b=some p:=λb p hb' h=>by
  obtain⟨q,hq⟩:=(hR.dom b).1 (by rw[Y0c];omega)
  have h1:=hs.le.ι b q (by rw[i0 b hb'];exact hq)
  have h2:=a1 b q h1
  rw[h]at h2;cases h2
  exact⟨h1,hq⟩
 have hle:Le sn sn1 ι ι2:=⟨hs.le.sn,a3⟩
 have g1:∀(b:Nat)(o:AObj),(H'++X)[b]? = some o->(b<H.length/\H'[b]? = some o)\/(H.length<=b/\(H++X)[b]? = some o):=λb o h=>by
  by_cases hb':b<H.length
  ·rw[Y09 (by omega)]at h;exact .inl ⟨hb',h⟩
  · rw[Y0a (by omega),hl]at h
    exact .inr ⟨by omega,by rw[Y0a (by omega)];exact h⟩
 have old:∀(b:Nat)(o:AObj)(p:Place),(H'++X)[b]? = some o -> ι2 b=some p->∃o0,(H++X)[b]? = some o0 /\ ι b=some p/\o.fam=o0.fam/\o.sh=o0.sh/\(o.alive=true->o0.alive=true):=by
  intro b o p ho hp
  rcases g1 b o ho with ⟨h1,h2⟩|⟨h1,h2⟩
  · obtain⟨_,hq⟩:=a4 b p h1 hp
    obtain⟨o',k1,k2,k3,k4⟩:=hs.evo b _ (Y05 h1)
    rw[h2]at k1;cases k1
    exact⟨_,gH _ _ (Y05 h1),hq,k2,k3,k4⟩
  · rw[a2 b h1]at hp
    exact⟨o,h2,hp,rfl,rfl,id⟩
 have same:∀(b:Nat)(o:AObj)(p:Place),(H++X)[b]? = some o->o.alive=true->H.length<=b -> ι b=some p->W1.heap[p.blk]? = W.heap[p.blk]?:=λb o p ho ha hk hp =>
  hs.frame p.blk (hR.blk b p hp) λb' o' p' ho' ha' hp' e=>hfam b' b o' o p' p ho' ho ha' ha hk (i0' _ _ hp').2 hp e
 refine⟨v,sn1,ι2,rfl,Z1f ⟨λ_ _ h=>h,a1⟩ _ _ hv,⟨?_,hle,λb p hp=>?_,λc hc hno=>hs.frame c hc λb o p ho hal hp=>hno b o p (gH _ _ ho) hal (i0' _ _ hp).2,hs.size,hs.os,hs.tape,hs.output,λa v hv=>?_,λb o ho=>?_⟩⟩
 · refine⟨λb=>?_,λb p hp=>?_,λb o p ho hal hp=>?_,λb b' o o' p p' ho ho' ha ha' hp hp' e=>?_,λa u hu=>?_,λb o p ho hp e=>?_⟩
   · have:=hR.dom b
     rw[Y0c,hl,<- Y0c,this]
     constructor
     ·rintro⟨p,hp⟩;exact⟨p,a3 b p hp⟩
     · rintro⟨p,hp⟩
       by_cases hb':b<H.length
       ·exact⟨p,(a4 b p hb' hp).2⟩
       ·exact⟨p,by rw[<- a2 b (by omega)];exact hp⟩
   · by_cases hb':b<H.length
     ·exact hs.rel.blk b p (a4 b p hb' hp).1
     · rw[a2 b (by omega)]at hp
       have:=hR.blk b p hp;have:=hs.size;omega
   · rcases g1 b o ho with ⟨h1,h2⟩|⟨h1,h2⟩
     · obtain⟨hp1,_⟩:=a4 b p h1 hp
       exact Z0P ⟨λ_ _ h=>h,a1⟩ rfl (hs.rel.obj b o p h2 hal hp1)
     · rw[a2 b h1]at hp
       exact Z0P hle (same b o p h2 hal h1 hp) (hR.obj b o p h2 hal hp)
   · obtain⟨o0,k1,k2,k3,k4,k5⟩:=old b o p ho hp
     obtain⟨o0',k1',k2',k3',k4',k5'⟩:=old b' o' p' ho' hp'
     rw[k3,k3',k4,k4']
     exact hR.sep b b' o0 o0' p p' k1 k1' (k5 ha) (k5' ha') k2 k2' e
   · obtain⟨h1,h2,h3⟩:=hs.rel.snap a u hu
     refine⟨h1,h2,λb o p ho hal hp e=>?_⟩
     rcases g1 b o ho with ⟨k1,k2⟩|⟨k1,k2⟩
     ·exact h3 b o p k2 hal (a4 b p k1 hp).1 e
     · rw[a2 b k1]at hp
       rcases hs.sfresh a u hu with f1|f1|⟨b0,o0,p0,f1,f2,f3,f4⟩
       ·exact (hR.snap a u f1).2.2 b o p k2 hal hp e
       ·have:=hR.blk b p hp;omega
       ·exact hfam b0 b o0 o p0 p f1 k2 f2 hal k1 (i0' _ _ f3).2 hp (f4.trans e.symm)
   · obtain⟨o0,k1,k2,_,k4,_⟩:=old b o p ho hp
     exact hR.shz b o0 p k1 k2 (by rw[<- k4];exact e)
 · by_cases hb':b<H.length
   ·exact .inl (a4 b p hb' hp).2
   ·rw[a2 b (by omega)]at hp;exact .inl hp
 · rcases hs.sfresh a v hv with f1|f1|⟨b0,o0,p0,f1,f2,f3,f4⟩
   ·exact .inl f1
   ·exact .inr (.inl f1)
   ·exact .inr (.inr ⟨b0,o0,p0,gH _ _ f1,f2,(i0' _ _ f3).2,f4⟩)
 · by_cases hb':b<H.length
   · rw[Y09 hb']at ho
     obtain⟨o',k1,k2,k3,k4⟩:=hs.evo b o ho
     exact⟨o',by rw[Y09 (by omega)];exact k1,k2,k3,k4⟩
   · rw[Y0a (by omega)]at ho
     exact⟨o,by rw[Y0a (by omega),hl];exact ho,rfl,rfl,id⟩
end Go.Abs
end
namespace Go.Proofs.YtneoiadnbikciaaGreatDoor.lex
open Go.Abs Go.RowKit
section
variable {gl:Z0k}
def ordL:List (List UInt8):=[[110,97],[114,108,120],[97,99,113],[114,101,108],[97,114],[115,99]]
def Z0a(T:List Tq)(s:Ps):List (List UInt8)->Int->Int×Ps
 |[],_=>(0,Z0p s 5 (Z0r T s).pos)
 |w::l,k=>if Z0L T s w=true then (k,Z0l T s w) else Z0a T (Z0l T s w) l (k+1)
theorem ZpW(i:Nat)(h:i<6):∀off,off=i->tk 1 ((ordL.map AV.str).drop off)=some [.str (ordL[i]'h)]:=by
 intro off e
 subst e
 match off,h with
 |0,h=>rfl
 |1,h=>rfl
 |2,h=>rfl
 |3,h=>rfl
 |4,h=>rfl
 |5,h=>rfl
def ZhH:Z00:=[⟨true,1,0,.cells (ordL.map AV.str) 9⟩]
theorem Zlw{T:List Tq}{s0:Ps}(hs0:PsOK T s0):MemQ Y00 gl 1 121 [.ptr 0 0] (psH T s0) (.int .i64 (Z0a T s0 ordL 1).1) (psH T (Z0a T s0 ordL 1).2):=by
 have hinj:∀i j:Ps×List UInt8,PsOK T i.1->PsOK T j.1->[AV.ptr 0 0,.str i.2]=[AV.ptr 0 0,.str j.2]->psH T i.1++ZhH=psH T j.1++ZhH->AV.bool (Z0L T i.1 i.2)=AV.bool (Z0L T j.1 j.2)/\psH T (Z0l T i.1 i.2)++ZhH=psH T (Z0l T j.1 j.2)++ZhH:=λi j _ _ h h2=>by
  obtain⟨⟨a,b,c,d⟩,w⟩:=i
  obtain⟨⟨a',b',c',d'⟩,w'⟩:=j
  simp only[psH,Y06,Y0e,List.cons.injEq,AV.str.injEq,AV.int.injEq,AObj.mk.injEq,ABody.cells.injEq,true_and,and_true]at h h2
  obtain⟨h3,rfl,rfl,rfl⟩:=h2
  have h4:a=a':=by omega
  subst h4 h
  exact⟨rfl,rfl⟩
 obtain⟨O,hO,⟨p1,-⟩,-⟩:=Z25 (P:=Y00) (gl:=gl) [{ I:=Ps×List UInt8,f:=45,G:=λi=>PsOK T i.1,A:=λi=>[.ptr 0 0,.str i.2],H:=λi=>psH T i.1++ZhH,R:=λi=>.bool (Z0L T i.1 i.2),O:=λi=>psH T (Z0l T i.1 i.2)++ZhH,body:=(by kernel_rfl),inj:=hinj,ok:=λi h=>ZiN (Z4P (Ze8 h i.2)) ZhH rfl rfl rfl rfl }] [] rfl
 have q1:∀s w,PsOK T s->Z06 Y00 O (psH T s++ZhH) 45 [.ptr 0 0,.str w]=some (.bool (Z0L T s w),psH T (Z0l T s w)++ZhH):=λs w h=>p1 (s,w) h
 clear p1
 generalize hR:Z0a T s0 ordL 1=R
 refine Z1c isN 3 follows Z05 hO Tryz.func121 rfl ?_
 simp only[psH]
 repeat' ((conv=>whnf);first|refine stp ?_|with_reducible apply Z01<;>intro h)
 conv=>whnf
 refine⟨Nat×Ps,(λx=>x.1<=6/\PsOK T x.2/\Z0a T x.2 (ordL.drop x.1) ((x.1:Int)+1)=R),(λx=>[(0,.ptr 0 0),(3,.slice 1 0 6 6 1),(4,.int .i64 (x.1:Nat))]),(λx=>psH T x.2++ZhH),(λx=>6-x.1),⟨(0,s0),⟨Nat.zero_le _,hs0,hR⟩,?_⟩,?_⟩
 · refine FgLK.mk [0,1] rfl rfl ?_ ⟨hbp,hbp,trivial⟩ rfl
   exact wks
 clear hR
 rintro⟨i,s⟩ ⟨hi,hs,hf⟩
 dsimp only at hi hs hf
 (try dsimp only)
 have hx:=tq4 T s.i hs.lt
 rw[<- Z0t hs.lt]at hx
 have hlt:=hs.lt
 by_cases h6:i<6
 · have e1:decide ((i:Int)<6)=true:=by simp;omega
   have hw:=ZpW i h6
   have wa:IntKind.i64.wrap ((i:Int)+1)=((i+1:Nat):Int):=Z1P (by omega)
   have wb:IntKind.i64.wrap (1+(i:Int))=(i:Int)+1:=by rw[Int.add_comm];exact Z8b (by omega) (by omega)
   rw[Y0r (l:=ordL) h6]at hf
   simp only[Z0a]at hf
   have q:=q1 s (ordL[i]'h6) hs
   have hs2:=Z6e hs (w:=ordL[i]'h6) Z4U
   clear q1
   generalize ordL[i]'h6=w at *
   generalize Z0l T s w=s2 at *
   generalize Z0L T s w=b at *
   obtain⟨a2,b2,c2,d2⟩:=s2
   obtain⟨a1,b1,c1,d1⟩:=s
   have hlt2:=hs2.lt
   simp only[psH,ZhH,Y06,Y0e]at q hlt2⊢
   cases b
   · rw[if_neg (by decide)]at hf
     repeat' ((conv=>whnf);first|refine exI q ?_|refine exI (hw _ (by omega)) ?_|(with_reducible refine exW wa ?_)|(with_reducible refine ixJ i rfl ?_ ?_;focus omega)|refine stp ?_|with_reducible apply Z01<;>intro h)
     conv=>whnf
     refine⟨(i+1,⟨a2,b2,c2,d2⟩),⟨h6,hs2,hf⟩,by show 6-(i+1)<6-i;omega,?_⟩
     refine FgLK.mk [0,1] rfl rfl ?_ ⟨hbp,hbp,trivial⟩ rfl
     exact wks
   · rw[if_pos rfl]at hf
     subst hf
     repeat' ((conv=>whnf);first|refine exI q ?_|refine exI (hw _ (by omega)) ?_|(with_reducible refine exW wb ?_)|(with_reducible refine ixJ i rfl ?_ ?_;focus omega)|refine stp ?_|with_reducible apply Z01<;>intro h)
     all_goals (conv=>whnf)
     all_goals exact⟨[0],rfl,⟨hbp,trivial⟩,rfl,Y02 rfl⟩
 · have e1:decide ((i:Int)<6)=false:=by simp;omega
   rw[List.drop_eq_nil_of_le (by show 6<=i;omega)]at hf
   simp only[Z0a]at hf
   subst hf
   clear q1
   unfold Z0p
   generalize Z0r T s=t at *
   obtain⟨k,tx,nm,ps⟩:=t
   obtain⟨j,err,at_,op⟩:=s
   simp only[Tq.cells,psH,ZhH,Y06,Y0e]at hx hlt⊢
   by_cases he:err=0
   · subst he
     repeat' ((conv=>whnf);first|refine exI hx ?_|(with_reducible refine ixJ j rfl ?_ ?_;focus omega)|refine stp ?_|with_reducible apply Z01<;>intro h)
     all_goals (try (conv=>whnf))
     all_goals exact⟨[0],rfl,⟨hbp,trivial⟩,rfl,Y02 rfl⟩
   · have e2:(err==0)=false:=by simpa using he
     simp only[he,if_false]
     repeat' ((conv=>whnf);first|refine exI hx ?_|(with_reducible refine ixJ j rfl ?_ ?_;focus omega)|refine stp ?_|with_reducible apply Z01<;>intro h)
     all_goals (try (conv=>whnf))
     all_goals exact⟨[0],rfl,⟨hbp,trivial⟩,rfl,Y02 rfl⟩
end
section
variable {gl:Z0k}
theorem ZnT{T:List Tq}{s s':Ps}{X X':Z00}(h:psH T s++X=psH T s'++X'):s=s'/\X=X':=by
 obtain⟨a,b,c,d⟩:=s
 obtain⟨a',b',c',d'⟩:=s'
 simp only[psH,Y06,Y0e,List.cons.injEq,AV.int.injEq,AObj.mk.injEq,ABody.cells.injEq,true_and,and_true]at h
 obtain⟨⟨h3,rfl,rfl,rfl⟩,rfl⟩:=h
 have h4:a=a':=by omega
 subst h4
 exact⟨rfl,rfl⟩
def Z3g(T:List Tq)(f:Nat)(hb:Z0m Y00 f=true){I:Type}(G:I->Ps->Prop)(A:I->List AV)(R:I->Ps->AV)(N:I->Ps->Ps)(hA:∀i,Z11 1 (refsL (A i) [])=true)(hinj:∀i j,A i=A j->i=j)(ok:∀i s,G i s->MemQ Y00 gl 1 f (A i) (psH T s) (R i s) (psH T (N i s))):FamM Y00 gl :=
 have h1:∀x y:I×Ps×Z00,(G x.1 x.2.1/\Z08 [0] x.2.2=true)->(G y.1 y.2.1/\Z08 [0] y.2.2=true)->A x.1=A y.1->psH T x.2.1++x.2.2=psH T y.2.1++y.2.2->R x.1 x.2.1=R y.1 y.2.1/\psH T (N x.1 x.2.1)++x.2.2=psH T (N y.1 y.2.1)++y.2.2:=λx y _ _ h h2=>by
  obtain⟨i,s,X⟩:=x
  obtain⟨j,s',X'⟩:=y
  obtain⟨e1,e2⟩:=ZnT h2
  have e3:=hinj _ _ h
  simp only at e1 e2 e3
  subst e1 e2 e3
  exact⟨rfl,rfl⟩
 { I:=I×Ps×Z00,f:=f,G:=λx=>G x.1 x.2.1/\Z08 [0] x.2.2=true,A:=λx=>A x.1,H:=λx=>psH T x.2.1++x.2.2,R:=λx=>R x.1 x.2.1,O:=λx=>psH T (N x.1 x.2.1)++x.2.2,body:=hb,inj:=h1,ok:=λx h=>ZiN (Z4P (ok x.1 x.2.1 h.1)) x.2.2 rfl (hA x.1) rfl h.2 }
def ex0:Ex:=.mk 0 0 [] []
def lvS:Nat->List (List UInt8×Int)
 |0=>[([124,124],5)]
 |1=>[([38,38],6)]
 |2=>[([61,61],7),([33,61],8)]
 |3=>[([60],9),([60,61],10)]
 |4=>[([124],11)]
 |5=>[([94],12)]
 |6=>[([38],13)]
 |7=>[([43],14),([45],15)]
 |_=>[([42],16)]
def Z1s(T:List Tq)(rec1:Ps->Ex×Ps):List (List UInt8×Int)->Ex->Ps->Bool->Ex×Ps×Bool
 |[],x,s,a=>(x,s,a)
 |(w,o)::l,x,s,a=>if Z0L T s w=true then Z1s T rec1 l (.mk o 0 [] [x,(rec1 (Z0l T s w)).1]) (rec1 (Z0l T s w)).2 true else Z1s T rec1 l x (Z0l T s w) a
def Z24(T:List Tq)(rec1:Ps->Ex×Ps)(l:List (List UInt8×Int)):Nat->Ex->Ps->Ex×Ps
 |0,x,s=>(x,s)
 |k+1,x,s=>if (Z1s T rec1 l x s false).2.2=true then Z24 T rec1 l k (Z1s T rec1 l x s false).1 (Z1s T rec1 l x s false).2.1 else ((Z1s T rec1 l x s false).1,(Z1s T rec1 l x s false).2.1)
def Z3A(T:List Tq)(un:Ps->Ex×Ps):Nat->Ps->Ex×Ps
 |0,s=>un s
 |m+1,s=>Z24 T (Z3A T un m) (lvS (8-m)) (T.length+1) (Z3A T un m s).1 (Z3A T un m s).2
def Z1m(T:List Tq)(ex:Ps->Ex×Ps)(s:Ps):Ex×Ps :=
 if s.err≠0 then (ex0,s)
 else if (Z0r T s).kind=3 then (.mk 1 (Z0r T s).num [] [],{ s with i:=s.i+1 })
 else if (Z0r T s).kind=1 then (.mk 2 0 (Z0r T s).text [],{ s with i:=s.i+1 })
 else if Z0L T s [40]=true then ((ex (Z0l T s [40])).1,Z03 T (ex (Z0l T s [40])).2 [41])
 else (ex0,Z0p (Z0l T s [40]) 5 (Z0r T s).pos)
def unF(T:List Tq):Nat->Ps->Ex×Ps
 |0,s=>(ex0,s)
 |d+1,s=>if isF T s [45]=false/\isF T s [33]=false then Z1m T (Z3A T (unF T d) 9) s
  else if s.op=200 then (ex0,Z0p s 3 (Z0r T s).pos)
  else (.mk (if isF T s [33]=true then 4 else 3) 0 [] [(unF T d { s with i:=s.i+1,op:=s.op+1 }).1],{ (unF T d { s with i:=s.i+1,op:=s.op+1 }).2 with op:=(unF T d { s with i:=s.i+1,op:=s.op+1 }).2.op-1 })
structure PsGo (T:List Tq) (s s':Ps):Prop where
 ok:PsOK T s'
 on:s.i<=s'.i
 lo:s.op+s.i<=s'.op+s'.i
theorem PsGo.trans{T:List Tq}{a b c:Ps}(h:PsGo T a b)(k:PsGo T b c):PsGo T a c:=⟨k.ok,Y07 h.on k.on,Int.le_trans h.lo k.lo⟩
theorem Z5z{T:List Tq}{s:Ps}(hs:PsOK T s)(e a:Int):PsGo T s (Z0p s e a):=⟨Z8I hs e a,by unfold Z0p;split<;>exact Y04 _,by unfold Z0p;split<;>exact Y0q _⟩
theorem Z5h{T:List Tq}{s:Ps}(hs:PsOK T s)(w:List UInt8):PsGo T s (Z0l T s w):=by
 refine⟨Z6e hs Z4U,?_,?_⟩
 · unfold Z0l Z0p
   repeat' split
   all_goals (try exact Y04 _)
   all_goals exact Nat.le_succ _
 · unfold Z0l Z0p
   repeat' split
   all_goals (try exact Y0q _)
   all_goals (simp only;omega)
theorem Z0F{T:List Tq}{s:Ps}(hs:PsOK T s)(w:List UInt8):PsGo T s (Z03 T s w):=by
 have h:=Z5h hs w
 unfold Z03;split
 ·exact h
 ·exact h.trans (Z5z h.ok _ _)
end
section
variable {gl:Z0k}
def Z77(T:List Tq):FamM Y00 gl:=Z3g T 45 (by kernel_rfl) (I:=List UInt8) (λ_ s=>PsOK T s) (λw=>[.ptr 0 0,.str w]) (λw s=>.bool (Z0L T s w)) (λw s=>Z0l T s w) (λ_=>rfl) (λi j h=>by simpa using h) (λw s h=>Ze8 h w)
def Z5Z(T:List Tq):FamM Y00 gl:=Z3g T 92 (by kernel_rfl) (I:=List UInt8) (λ_ s=>PsOK T s) (λw=>[.ptr 0 0,.str w]) (λw s=>.tuple []) (λw s=>Z03 T s w) (λ_=>rfl) (λi j h=>by simpa using h) (λw s h=>Zo3 h w)
theorem Z49{m:List Nat}{o n:Int}{nm:List UInt8}:Wk m (.agg [.int .i64 o,.int .i64 n,.str nm,.nslice]) (.agg (Ex.mk o n nm []).cells):=Wk.agg ⟨Y0d rfl,Y0d rfl,Y02 rfl,Wk.nil,trivial⟩
def ZsB(f:Nat):Bool:=Y01 f 45 || (Y01 f 92 || Y01 f 51)
theorem Zp6 {T : List Tq} {s : Ps} (hs : PsOK T s) {ex : Ps -> Ex × Ps} (hex : Z0L T s [40] = true -> PsOK T (ex (Z0l T s [40])).2 /\ MemQ Y00 gl 1 51 [.ptr 0 0, .int .i64 0] (psH T (Z0l T s [40])) (.agg (ex (Z0l T s [40])).1.cells) (psH T (ex (Z0l T s [40])).2)) :
  MemQ Y00 gl 1 111 [.ptr 0 0] (psH T s) (.agg (Z1m T ex s).1.cells) (psH T (Z1m T ex s).2):=by
 obtain⟨O,hO,⟨p1,p2,p3,-⟩,-⟩:=Z25 (P:=Y00) (gl:=gl) [Z77 T,Z5Z T,Z3g T 51 (by kernel_rfl) (I:=Unit) (λ_ s'=>s'=Z0l T s [40]/\Z0L T s [40]=true) (λ_=>[.ptr 0 0,.int .i64 0]) (λ_ s'=>.agg (ex s').1.cells) (λ_ s'=>(ex s').2) (λ_=>rfl) (λ_ _ _=>rfl) (λ_ s' h=>by rw[h.1];exact (hex h.2).2)] [] rfl
 have q1:∀X,Z08 [0] X=true->Z06 Y00 O (psH T s++X) 45 [.ptr 0 0,.str [40]]=some (.bool (Z0L T s [40]),psH T (Z0l T s [40])++X):=λX hX=>p1 ([40],s,X) ⟨hs,hX⟩
 have q2:∀s2 X,PsOK T s2->Z08 [0] X=true->Z06 Y00 O (psH T s2++X) 92 [.ptr 0 0,.str [41]]=some (.tuple [],psH T (Z03 T s2 [41])++X):=λs2 X h hX=>p2 ([41],s2,X) ⟨h,hX⟩
 have q3:Z0L T s [40]=true->∀X,Z08 [0] X=true->Z06 Y00 O (psH T (Z0l T s [40])++X) 51 [.ptr 0 0,.int .i64 0]=some (.agg (ex (Z0l T s [40])).1.cells,psH T (ex (Z0l T s [40])).2++X):=λh X hX=>p3 ((),Z0l T s [40],X) ⟨⟨rfl,h⟩,hX⟩
 clear p1 p2 p3
 have hx:=tq4 T s.i hs.lt
 rw[<- Z0t hs.lt]at hx
 have hlt:=hs.lt
 have hfew:=hs.few
 have hex2:=λh=>(hex h).1
 have hs2:=Z6e hs (w:=[40]) Z4U
 clear hex
 unfold Z1m
 generalize Z0l T s [40]=s2 at *
 generalize Z0L T s [40]=b at *
 generalize ex s2=r at *
 generalize Z0r T s=t at *
 obtain⟨k,tx,nm,ps⟩:=t
 obtain⟨⟨o,n,nn,ks⟩,s3⟩:=r
 have wa:IntKind.i64.wrap ((s.i:Int)+1)=((s.i+1:Nat):Int):=Z1P (by omega)
 obtain⟨i,err,at_,op⟩:=s
 simp only[Tq.cells,Ex.cells]at hx hlt hex2 q3 wa⊢
 refine Z1c ZsB 3 follows Z05 hO Tryz.func111 rfl ?_
 by_cases he:err=0
 case' neg =>
  have e1:(err != 0)=true:=by simpa using he
  simp only[he,ne_eq,not_false_eq_true,if_true]
  simp only[psH]
  repeat' ((conv=>whnf);first|refine exI hx ?_|(with_reducible refine ixJ i rfl ?_ ?_;focus omega)|refine stp ?_|with_reducible apply Z01<;>intro h)
  all_goals (try (conv=>whnf))
  all_goals exact⟨[0],rfl,⟨hbp,trivial⟩,rfl,Z49⟩
 subst he
 simp only[ne_eq,not_true_eq_false,if_false]
 by_cases hk3:k=3
 · subst hk3
   simp only[if_true,psH]
   repeat' ((conv=>whnf);first|refine exI hx ?_|(with_reducible refine exW wa ?_)|(with_reducible refine ixJ i rfl ?_ ?_;focus omega)|refine stp ?_|with_reducible apply Z01<;>intro h)
   all_goals (try (conv=>whnf))
   all_goals exact⟨[0],rfl,⟨hbp,trivial⟩,rfl,Z49⟩
 have g3:(k==3)=false:=by simpa using hk3
 by_cases hk1:k=1
 · subst hk1
   simp only[hk3,if_true,if_false,psH]
   repeat' ((conv=>whnf);first|refine exI hx ?_|(with_reducible refine exW wa ?_)|(with_reducible refine ixJ i rfl ?_ ?_;focus omega)|refine stp ?_|with_reducible apply Z01<;>intro h)
   all_goals (try (conv=>whnf))
   all_goals exact⟨[0],rfl,⟨hbp,trivial⟩,rfl,Z49⟩
 have g1:(k==1)=false:=by simpa using hk1
 simp only[hk3,hk1,if_false]
 cases b with
 |false =>
  simp only[Y0p,if_false]
  unfold Z0p
  obtain⟨i2,e2,a2,o2⟩:=s2
  by_cases he2:e2=0
  · subst he2
    simp only[psH,if_true]at q1⊢
    repeat' ((conv=>whnf);first|refine exI hx ?_|refine exI (q1 _ rfl) ?_|(with_reducible refine ixJ i rfl ?_ ?_;focus omega)|refine stp ?_|with_reducible apply Z01<;>intro h)
    all_goals (try (conv=>whnf))
    all_goals exact⟨[0],rfl,⟨hbp,trivial⟩,rfl,Z49⟩
  · have g2:(e2==0)=false:=by simpa using he2
    simp only[psH,he2,if_false]at q1⊢
    repeat' ((conv=>whnf);first|refine exI hx ?_|refine exI (q1 _ rfl) ?_|(with_reducible refine ixJ i rfl ?_ ?_;focus omega)|refine stp ?_|with_reducible apply Z01<;>intro h)
    all_goals (try (conv=>whnf))
    all_goals exact⟨[0],rfl,⟨hbp,trivial⟩,rfl,Z49⟩
 |true =>
  simp only[if_true]
  have q3:=q3 rfl
  have q2:=λX=>q2 s3 X (hex2 rfl)
  generalize Z03 T s3 [41]=s4 at *
  simp only[psH]at q1 q2 q3⊢
  repeat' ((conv=>whnf);first|refine exI hx ?_|refine exI (q1 _ rfl) ?_|refine exI (q3 _ rfl) ?_|refine exI (q2 _ rfl) ?_|(with_reducible refine ixJ i rfl ?_ ?_;focus omega)|refine stp ?_|with_reducible apply Z01<;>intro h)
  all_goals (try (conv=>whnf))
  all_goals exact⟨[0],rfl,⟨hbp,trivial⟩,rfl,Y02 rfl⟩
end
end Go.Proofs.YtneoiadnbikciaaGreatDoor.lex
section
namespace Go.Abs
open Go.RowKit
def sgS(m:List Nat)(d:Nat)(b:Nat):Nat:=if b<m.length then m.getD b 0 else d+(b-m.length)
def Z9X(m:List Nat)(σ : Nat->Nat)(Hs:Z00):Nat->Z00->Z00
 |_,[]=>[]
 |i,o::H=>(match Z5M m i 0 with
  |some j=>match Hs[j]? with
   |some o'=>{ o with alive:=o'.alive,body:=Z5I σ o'.body }
   |none=>o
  |none=>o)::Z9X m σ Hs (i+1) H
theorem Zb4 (m : List Nat) (σ : Nat -> Nat) (Hs : Z00) : ∀ (H : Z00) (i b : Nat), (Z9X m σ Hs i H)[b]? = (H[b]?).map fun o => match Z5M m (i + b) 0 with
  |some j=>match Hs[j]? with
   |some o'=>{ o with alive:=o'.alive,body:=Z5I σ o'.body }
   |none=>o
  |none=>o
 |[],i,b=>by simp[Z9X]
 |o::H,i,0=>by
  simp only[Z9X,Y0A,Y0w,Nat.add_zero]<;>rfl
 |o::H,i,b+1=>by
  simp only[Z9X,Y0x]
  rw[Zb4 m σ Hs H (i+1) b,show i+1+b=i+(b+1) by omega]
theorem Zb3(m:List Nat)(σ : Nat->Nat)(Hs:Z00):∀(H:Z00)(i:Nat),(Z9X m σ Hs i H).length=H.length
 |[],i=>rfl
 |o::H,i=>by simp only[Z9X,Y0k,Zb3 m σ Hs H (i+1)]
def shS(σ : Nat->Nat):Nat->Z00->Z00
 |_,[]=>[]
 |n,o::H=>⟨o.alive,n,o.sh,Z5I σ o.body⟩::shS σ (n+1) H
theorem Zeg(σ : Nat->Nat):∀(H:Z00)(n b:Nat),(shS σ n H)[b]? = (H[b]?).map λo=>⟨o.alive,n+b,o.sh,Z5I σ o.body⟩
 |[],n,b=>by simp[shS]
 |o::H,n,0=>rfl
 |o::H,n,b+1=>by
  simp only[shS,Y0x]
  rw[Zeg σ H (n+1) b,show n+1+b=n+(b+1) by omega]
theorem Z92(σ : Nat->Nat):∀(H:Z00)(n:Nat),(shS σ n H).length=H.length
 |[],n=>rfl
 |o::H,n=>by simp only[shS,Y0k,Z92 σ H (n+1)]
def Z8k:Z00->List Nat
 |[]=>[]
 |o::H=>cond o.alive (o.fam::Z8k H) (Z8k H)
theorem Z9B:∀{H:Z00}{i:Nat}{o:AObj},H[i]? = some o->o.alive=true->mem o.fam (Z8k H)=true
 |[],i,o,h,_=>by simp at h
 |x::H,0,o,h,ha=>by
  simp at h;subst h
  simp only[Z8k,ha,cond_true]
  exact Z18.2 (List.mem_cons_self ..)
 |x::H,i+1,o,h,ha=>by
  have:=Z18.1 (Z9B (H:=H) (by simpa using h) ha)
  unfold Z8k
  cases x.alive
  ·exact Z18.2 this
  ·exact Z18.2 (List.mem_cons_of_mem _ this)
theorem Z3d:∀{H:Z00}{i j:Nat}{o o':AObj},Z0U (Z8k H)=true->H[i]? = some o->H[j]? = some o'->o.alive=true->o'.alive=true->o.fam=o'.fam->i=j
 |[],i,j,o,o',h,e,_,_,_,_=>by simp at e
 |x::H,i,j,o,o',h,e,e',ha,ha',hf=>by
  have hn:Z0U (Z8k H)=true:=by
   unfold Z8k at h
   cases hx:x.alive
   ·rw[hx]at h;exact h
   · rw[hx]at h
     simp only[cond_true,Z0U,Y03]at h
     exact h.2
  have hx:x.alive=true->mem x.fam (Z8k H)=false:=λhx=>by
   unfold Z8k at h
   rw[hx]at h
   simp only[cond_true,Z0U,Y03,Y0g]at h
   exact h.1
  cases i with
  |zero =>
   cases j with
   |zero=>rfl
   |succ j =>
    simp at e e';subst e
    have:=Z9B e' ha'
    rw[<- hf,hx ha]at this;cases this
  |succ i =>
   cases j with
   |zero =>
    simp at e e';subst e'
    have:=Z9B e ha
    rw[hf,hx ha']at this;cases this
   |succ j =>
    simp at e e'
    rw[Z3d hn e e' ha ha' hf]
theorem Z7k {P : Program} {gl : Z0k} {f : Nat} {Hs Hs' Hc : Z00} {fargs cargs : List AV} {r : AV} {m : List Nat} (hM : Z1v P gl f fargs Hs r Hs') (hargs : Wk m (.tuple cargs) (.tuple fargs)) (hsub : HpGe Hc m m Hs 0)
  (hnd:Z0U (m.map (Z1x Hc))=true) (hlone:Zhd m (m.map (Z1x Hc)) 0 Hc=true) (hnA:Z0U (Z8k Hs')=true) (hF:∀o∈Hc,o.fam<Hc.length)
  (hg2:∀(i:Nat)(o:AObj),Hs'[i]? = some o->Z11 Hs'.length (Z3V o.body [])=true) (hrk:Z11 Hs'.length (Z2a r [])=true) :
  Z1v P gl f cargs Hc (ren (sgS m Hc.length) r) (Z9X m (sgS m Hc.length) Hs' 0 Hc++shS (sgS m Hc.length) Hc.length (Hs'.drop m.length)):=by
 intro sn ι W vargs hg hR hl
 obtain⟨hl1,hg1⟩:=hsub.get
 have inm:∀b,b∈m->∃ (i:Nat) (o o2:AObj) (p:Place),m[i]? = some b/\Hc[b]? = some o/\Hs[i]? = some o2/\o.alive=true/\o2.alive=true /\ ι b=some p/\o2.sh=o.sh:=by
  intro b hb
  obtain⟨i,hi,rfl⟩:=List.mem_iff_getElem.1 hb
  obtain⟨j,o,o2,x1,x2,x3,x4,x5,_,x7,_⟩:=hg1 i hi
  rw[Y05 hi]at x1
  cases x1
  obtain⟨p,hp⟩:=hR.place x2
  exact⟨i,o,o2,p,Y05 hi,x2,x3,x4,x5,hp,x7⟩
 have apart_:∀(b:Nat)(o:AObj)(p:Place),Hc[b]? = some o->o.alive=true->b ∉ m -> ι b=some p->∀b' p',b'∈m -> ι b'=some p'->p'.blk≠p.blk:=by
  intro b o p ho hoa hb hp b' p' hb' hp' e
  obtain⟨i,o',o2,q,y1,y2,y3,y4,y5,y6,_⟩:=inm b' hb'
  have hs:=hR.sep b b' o o' p p' ho y2 hoa y4 hp hp' e.symm
  rcases Z9k hlone ho hoa with h|h
  ·exact hb (by simpa using h)
  · refine h ?_
    rw[Y0v]
    exact⟨b',hb',by simp only[Z1x,y2];exact hs.1.symm⟩
 have hRs:R sn (iot m ι) Hs W:=ZnB hsub hnd hR
 have atm:∀{i:Nat}{p:Place},iot m ι i=some p->∃b,m[i]? = some b/\b∈m /\ ι b=some p:=λ{i p} hp=>by
  unfold iot at hp
  split at hp
  ·rename_i b hb;exact⟨b,hb,Y0n hb,hp⟩
  ·cases hp
 have hla:LR sn (iot m ι) fargs vargs:=by
  have h1:VR sn ι (.tuple cargs) (.tuple vargs.toArray):=by simp only[VR];exact⟨_,rfl,by simpa using hl⟩
  have h2:=hargs _ _ _ h1
  simp only[VR]at h2
  obtain⟨d,e1,e2⟩:=h2
  simp at e1;subst e1;simpa using e2
 refine (hM sn (iot m ι) W vargs hg hRs hla).mono ?_
 rintro e W' ⟨v,sn',ι',rfl,hv,hst⟩
 generalize hd:Hc.length=d at *
 generalize hk:m.length=k at *
 have hk':k<=Hs'.length:=by
  rcases Nat.eq_zero_or_pos k with h|h
  ·omega
  · have:=(Y08.1 (hst.evo (k-1) _ (Y05 (by omega))).choose_spec.1).1
    omega
 let κ : Z0n:=λb=>if b<d then ι b else ι' (k+(b-d))
 have k1:∀b,b<d -> κ b = ι b:=λb hb=>if_pos hb
 have k2:∀b,d<=b -> κ b = ι' (k+(b-d)):=λb hb=>by show (if b<d then ι b else ι' (k+(b-d)))=_;rw[if_neg (by omega)]
 have mLt:∀{i b:Nat},m[i]? = some b->b<d:=λ{i b} h=>by
  obtain⟨_,o,_,p,_,y2,_⟩:=inm b (Y0n h)
  rw[<- hd];exact (Y08.1 y2).1
 have hfwd:∀(i b:Nat)(p:Place),m[i]? = some b -> ι b=some p -> ι' i=some p:=λi b p hb hp=>hst.le.ι i p (by simp only[iot,hb];exact hp)
 have hback:∀i,i<Hs'.length->∀p,ι' i=some p -> κ (sgS m d i)=some p:=λi hi p hp=>by
  unfold sgS
  rw[hk]
  by_cases hik:i<k
  · obtain⟨b,hb⟩:∃b,m[i]? = some b:=⟨m[i],Y05 (by omega)⟩
    obtain⟨q,hq⟩:=(hR.dom b).1 (by rw[hd];exact mLt hb)
    have:=hfwd i b q hb hq
    rw[hp]at this;cases this
    rw[if_pos hik,List.getD_eq_getElem?_getD,hb]
    show κ b=some p
    rw[k1 b (mLt hb)];exact hq
  ·rw[if_neg hik,k2 _ (by omega),show k+(d+(i-k)-d)=i by omega];exact hp
 have pos_:∀b,b∈m->∃i,Z5M m b 0=some i/\m[i]? = some b:=λb hb=>by
  cases hx:Z5M m b 0 with
  |none=>exact (Z6s hx hb).elim
  |some i=>exact⟨i,rfl,by simpa using (Z2L hx).2⟩
 have hlen:(Z9X m (sgS m d) Hs' 0 Hc).length=d:=by rw[Zb3,hd]
 have hnr:∀c,c<W.heap.size->(∀(b:Nat)(o:AObj) p,Hc[b]? = some o->o.alive=true -> ι b=some p->p.blk≠c)->W'.heap[c]? = W.heap[c]?:=λc hc hno=>by
  refine hst.frame c hc λi o2 p2 hi ha hp2 e=>?_
  obtain⟨b,_,hb,hp3⟩:=atm hp2
  obtain⟨_,o,_,_,_,y2,_,y4,_⟩:=inm b hb
  exact hno b o p2 y2 y4 hp3 e
 have old:∀(b:Nat)(o:AObj)(p:Place),Hc[b]? = some o->o.alive=true->b ∉ m -> ι b=some p->W'.heap[p.blk]? = W.heap[p.blk]?:=λb o p ho hoa hb hp=>by
  refine hst.frame _ (hR.blk b p hp) λi o2 p2 hi ha hp2 e=>?_
  obtain⟨c,_,hc,hp3⟩:=atm hp2
  exact apart_ b o p ho hoa hb hp c p2 hc hp3 e
 have new_:∀(j:Nat)(x:AObj)(p:Place),Hs'[j]? = some x->x.alive=true->k<=j -> ι' j=some p->∀(b:Nat)(o:AObj)(q:Place),Hc[b]? = some o->o.alive=true->b ∉ m -> ι b=some q->q.blk≠p.blk:=by
  intro j x p hj hja hkj hp b o q ho hoa hb hq e
  rcases hst.fresh j p hp with h|h|⟨b0,o0,p0,e1,e2,e3,e4⟩
  · obtain⟨c,hc,_⟩:=atm h
    have:=(Y08.1 hc).1;omega
  ·have:=hR.blk b q hq;omega
  · obtain⟨c,_,hc,hp3⟩:=atm e3
    exact apart_ b o q ho hoa hb hq c p0 hc hp3 (e4.trans e.symm)
 have hget : ∀ (b : Nat) (o' : AObj) (p : Place), (Z9X m (sgS m d) Hs' 0 Hc ++ shS (sgS m d) d (Hs'.drop k))[b]? = some o' -> κ b = some p ->
   (b<d /\ ι b=some p/\∃o,Hc[b]? = some o/\o'.fam=o.fam/\o'.sh=o.sh/\((b ∉ m/\o'=o)\/∃i x,m[i]? = some b/\i<k/\Hs'[i]? = some x/\o'.alive=x.alive/\o'.body=Z5I (sgS m d) x.body/\o.alive=true /\ ι' i=some p)) \/
   (d<=b /\ ι' (k+(b-d))=some p/\∃x,Hs'[k+(b-d)]? = some x/\o'=⟨x.alive,b,x.sh,Z5I (sgS m d) x.body⟩):=by
  intro b o' p hb hp
  by_cases hlt:b<d
  · rw[Y09 (by omega)]at hb
    rw[k1 b hlt]at hp
    refine .inl ⟨hlt,hp,?_⟩
    rw[Zb4]at hb
    simp only[Y0h]at hb
    cases hx:Hc[b]? with
    |none=>rw[hx]at hb;cases hb
    |some o =>
     rw[hx]at hb
     simp only[Y0w,Option.some.injEq]at hb
     refine⟨o,rfl,?_⟩
     by_cases hbm:b∈m
     · obtain⟨i,h1,h2⟩:=pos_ b hbm
       have hi:i<k:=by rw[<- hk];exact (Y08.1 h2).1
       have hi':i<Hs'.length:=by omega
       rw[h1]at hb
       simp only[Y05 hi']at hb
       subst hb
       obtain⟨_,y,_,_,_,y2,_,y4,_⟩:=inm b hbm
       rw[hx]at y2;cases y2
       exact⟨rfl,rfl,.inr ⟨i,Hs'[i],h2,hi,Y05 hi',rfl,rfl,y4,hfwd i b p h2 hp⟩⟩
     · have hn : Z5M m b 0 = none := by
        cases hx:Z5M m b 0 with
        |none=>rfl
        |some i=>exact (hbm (Y0n (Z2L hx).2)).elim
       rw[hn]at hb
       subst hb
       exact⟨rfl,rfl,.inl ⟨hbm,rfl⟩⟩
  · rw[Y0a (by omega),hlen,Zeg,List.getElem?_drop]at hb
    rw[k2 b (by omega)]at hp
    cases hx:Hs'[k+(b-d)]? with
    |none=>rw[hx]at hb;cases hb
    |some x =>
     rw[hx]at hb
     simp only[Y0w,Option.some.injEq]at hb
     exact .inr ⟨by omega,hp,x,rfl,by rw[<- hb,show d+(b-d)=b by omega]⟩
 have hal:∀{b:Nat}{o o':AObj}{p:Place},((b ∉ m/\o'=o)\/∃i x,m[i]? = some b/\i<k/\Hs'[i]? = some x/\o'.alive=x.alive/\o'.body=Z5I (sgS m d) x.body/\o.alive=true /\ ι' i=some p)->o'.alive=true->o.alive=true:=λ{b o o' p} h ha=>by
  rcases h with ⟨_,rfl⟩|⟨_,_,_,_,_,_,_,h,_⟩
  ·exact ha
  ·exact h
 have hR':R sn' κ (Z9X m (sgS m d) Hs' 0 Hc++shS (sgS m d) d (Hs'.drop k)) W':=by
  refine⟨λb=>⟨λhb=>?_,λ⟨p,hp⟩=>?_⟩,λb p hp=>?_,λb o' p hb ha hp=>?_,λb b' o o' p p' hb hb' ha ha' hp hp' e=>?_,λa v hv=>?_,λb o' p hb hp e=>?_⟩
  · simp only[Y0c,hlen,Z92,List.length_drop]at hb
    by_cases hlt:b<d
    ·rw[k1 b hlt];exact (hR.dom b).1 (by omega)
    ·rw[k2 b (by omega)];exact (hst.rel.dom _).1 (by omega)
  · simp only[Y0c,hlen,Z92,List.length_drop]
    by_cases hlt:b<d
    ·omega
    · rw[k2 b (by omega)]at hp
      have:=(hst.rel.dom _).2 ⟨p,hp⟩;omega
  · by_cases hlt:b<d
    ·rw[k1 b hlt]at hp;exact Y0B (hR.blk b p hp) hst.size
    ·rw[k2 b (by omega)]at hp;exact hst.rel.blk _ p hp
  · rcases hget b o' p hb hp with ⟨b1,b2,o,b3,b4,b5,⟨b6,rfl⟩|⟨i,x,c1,c2,c3,c4,c5,c6,c7⟩⟩|⟨b1,b2,x,b3,rfl⟩
    · refine Z0P ⟨hst.le.sn,λc p hc=>?_⟩ (old b _ p b3 ha b6 b2) (hR.obj b _ p b3 ha b2)
      rw[k1 c (by have:=(hR.dom c).2 ⟨p,hc⟩;omega)];exact hc
    · rw[c5]
      exact Z89 x.body (Z2B x.body p (λy hy=>hback y (Z0M (hg2 i x c3) y hy)) (hst.rel.obj i x p c3 (by rw[<- c4];exact ha) c7))
    ·exact Z89 x.body (Z2B x.body p (λy hy=>hback y (Z0M (hg2 _ x b3) y hy)) (hst.rel.obj _ x p b3 ha b2))
  · rcases hget b o p hb hp with ⟨b1,b2,x,b3,b4,b5,b6⟩|⟨b1,b2,x,b3,rfl⟩<;>rcases hget b' o' p' hb' hp' with ⟨c1,c2,y,c3,c4,c5,c6⟩|⟨c1,c2,y,c3,rfl⟩
    · rw[b4,b5,c4,c5]
      exact hR.sep b b' x y p p' b3 c3 (hal b6 ha) (hal c6 ha') b2 c2 e
    · exfalso
      rcases b6 with ⟨b6,rfl⟩|⟨i,z,d1,d2,d3,d4,d5,d6,d7⟩
      ·exact new_ _ y p' c3 ha' (by omega) c2 b _ p b3 ha b6 b2 e
      · have hs:=(hst.rel.sep i _ z y p p' d3 c3 (by rw[<- d4];exact ha) ha' d7 c2 e).1
        have:=Z3d hnA d3 c3 (by rw[<- d4];exact ha) ha' hs
        omega
    · exfalso
      rcases c6 with ⟨c6,rfl⟩|⟨i,z,d1,d2,d3,d4,d5,d6,d7⟩
      ·exact new_ _ x p b3 ha (by omega) b2 b' _ p' c3 ha' c6 c2 e.symm
      · have hs:=(hst.rel.sep _ i x z p p' b3 d3 ha (by rw[<- d4];exact ha') b2 d7 e).1
        have:=Z3d hnA b3 d3 ha (by rw[<- d4];exact ha') hs
        omega
    · have hs:=hst.rel.sep _ _ x y p p' b3 c3 ha ha' b2 c2 e
      have:=Z3d hnA b3 c3 ha ha' hs.1
      have hbb:b=b':=by omega
      exact⟨hbb,hs.2⟩
  · obtain⟨h1,h2,h3⟩:=hst.rel.snap a v hv
    refine⟨h1,h2,λb o' p hb ha hp he=>?_⟩
    rcases hget b o' p hb hp with ⟨b1,b2,o,b3,b4,b5,⟨b6,rfl⟩|⟨i,x,c1,c2,c3,c4,c5,c6,c7⟩⟩|⟨b1,b2,x,b3,rfl⟩
    · rcases hst.sfresh a v hv with f1|f1|⟨b0,o0,p0,f1,f2,f3,f4⟩
      ·exact (hR.snap a v f1).2.2 b _ p b3 ha b2 he
      ·have:=hR.blk b p b2;omega
      · obtain⟨c,_,hc,hp3⟩:=atm f3
        exact apart_ b _ p b3 ha b6 b2 c p0 hc hp3 (f4.trans he.symm)
    ·exact h3 i x p c3 (by rw[<- c4];exact ha) c7 he
    ·exact h3 _ x p b3 ha b2 he
  · rcases hget b o' p hb hp with ⟨b1,b2,o,b3,b4,b5,b6⟩|⟨b1,b2,x,b3,rfl⟩
    ·exact hR.shz b o p b3 b2 (by rw[<- b5];exact e)
    ·exact hst.rel.shz _ x p b3 b2 e
 have oldp:∀(b0:Nat)(o0:AObj)(p0:Place),Hs[b0]? = some o0->o0.alive=true->iot m ι b0=some p0->∃ (b1:Nat) (o1:AObj) (p1:Place),Hc[b1]? = some o1/\o1.alive=true /\ ι b1=some p1/\p1.blk=p0.blk:=λb0 o0 p0 e1 e2 e3=>by
  obtain⟨c,_,hc,hp3⟩:=atm e3
  obtain⟨_,o,_,_,_,y2,_,y4,_⟩:=inm c hc
  exact⟨c,o,p0,y2,y4,hp3,rfl⟩
 refine⟨v,sn',κ,rfl,?_,hR',⟨hst.le.sn,λb p hb=>?_⟩,λb p hp=>?_,hnr,hst.size,hst.os,hst.tape,hst.output,λa v hv=>?_,λb o hb=>?_⟩
 ·exact (Z5c r v).2 (Z1n r [] v (λy hy=>hback y (Z0M hrk y hy)) hv)
 ·rw[k1 b (by have:=(hR.dom b).2 ⟨p,hb⟩;omega)];exact hb
 · by_cases hlt:b<d
   ·rw[k1 b hlt]at hp;exact .inl hp
   · rw[k2 b (by omega)]at hp
     rcases hst.fresh _ p hp with h|h|⟨b0,o0,p0,e1,e2,e3,e4⟩
     · obtain⟨c,hc,_⟩:=atm h
       have:=(Y08.1 hc).1;omega
     ·exact .inr (.inl h)
     · obtain⟨b1,o1,p1,g1,g2,g3,g4⟩:=oldp b0 o0 p0 e1 e2 e3
       exact .inr (.inr ⟨b1,o1,p1,g1,g2,g3,g4.trans e4⟩)
 · rcases hst.sfresh a v hv with f1|f1|⟨b0,o0,p0,f1,f2,f3,f4⟩
   ·exact .inl f1
   ·exact .inr (.inl f1)
   · obtain⟨b1,o1,p1,g1,g2,g3,g4⟩:=oldp b0 o0 p0 f1 f2 f3
     exact .inr (.inr ⟨b1,o1,p1,g1,g2,g3,g4.trans f4⟩)
 · have hbd:b<d:=by rw[<- hd];exact (Y08.1 hb).1
   have hb':b<(Z9X m (sgS m d) Hs' 0 Hc).length:=by omega
   have hx:=Y05 hb'
   obtain⟨p,hp⟩:=hR.place hb
   rcases hget b _ p (by rw[Y09 hb'];exact hx) (by rw[k1 b hbd];exact hp)with ⟨b1,b2,o2,b3,b4,b5,b6⟩|⟨b1,_⟩
   · rw[hb]at b3;cases b3
     exact⟨_,by rw[Y09 hb'];exact hx,b4,b5,λha=>hal b6 ha⟩
   ·omega
end Go.Abs
end
section
namespace Go.Abs
open Go.RowKit
def ZsL(fs:List Nat)(H:Z00):List AV->List AV->Prop
 |[],[]=>True
 |u::l,u2::l2=>(u=u2\/frz (ZnZ fs H) 30 u=some u2)/\ZsL fs H l l2
 |_,_=>False
def WkZL(fs:List Nat)(H:Z00)(m:List Nat):List AV->List AV->Prop
 |[],[]=>True
 |u::l,u2::l2=>WkZ fs H m u u2/\WkZL fs H m l l2
 |_,_=>False
theorem WkZL.get{fs:List Nat}{H:Z00}{m:List Nat}:∀{l l2:List AV},WkZL fs H m l l2->l2.length=l.length/\∀(i:Nat)(c2:AV),l2[i]? = some c2->∃c,l[i]? = some c/\WkZ fs H m c c2
 |[],[],_=>⟨rfl,λi c2 h=>by simp at h⟩
 |u::l,u2::l2,h=>by
  obtain⟨h1,h2⟩:=h
  obtain⟨k1,k2⟩:=h2.get
  refine⟨by simp[k1],λi c2 hc=>?_⟩
  cases i with
  |zero=>simp at hc;subst hc;exact⟨u,rfl,h1⟩
  |succ i=>simpa using k2 i c2 (by simpa using hc)
 |[],_::_,h=>h.elim
 |_::_,[],h=>h.elim
theorem BodyGeZ.app{fs:List Nat}{H:Z00}{m:List Nat}{cs l l2:List AV}{ty:TypeId}(h:refsL cs []=[])(hu:WkZL fs H m l l2):BodyGeZ fs H m (.cells (cs++l) ty) (.cells (cs++l2) ty):=by
 obtain⟨k1,k2⟩:=hu.get
 refine⟨rfl,by simp[k1],λi c2 hc=>?_⟩
 by_cases hi:i<cs.length
 · rw[Y09 hi]at hc⊢
   obtain⟨_,_,h3⟩:=Y0b (m:=m) (cs:=cs) (rest:=[]) (ty:=ty) (by simp) h
   obtain⟨c,e1,e2⟩:=h3 i c2 hc
   exact⟨c,e1,.inl e2⟩
 · rw[Y0a (by omega)]at hc⊢
   exact k2 _ _ hc
end Go.Abs
end
section
namespace Go.Abs
open Go.RowKit
theorem FgS.value {k : Nat} {fs m : List Nat} {H H2 : Z00} (hp : HpGeZ fs H m m H2 0) (hfams : Z0U (m.map (Z1x H)) = true) (hkp : ZfK k 0 m = true) (hd : (m.map (Z1x H)).all (fun f => !mem f fs) = true) {sn : Z0o} {ι : Z0n} {W : World} (a : Act) (hR : R sn ι H W) {u u2 : AV} {v : Value} (hv : VR sn ι u v) (hu : WkZ fs H m u u2) :
  ∃sn' ι',Stq k sn ι H W sn' ι' H2 W/\VR sn' ι' u2 v:=by
 have h1:∀(x:AV)(n:Nat)(y:AV),Z1p (.node (some (some x)) .leaf .leaf) n=some y->n=0/\y=x:=λx n y e=>by
  cases n with
  |zero=>cases e;exact⟨rfl,rfl⟩
  |succ n=>simp only[Z1p]at e;split at e<;>cases e
 have h2:∀(x:AV)(n:Nat),tex (.node (some (some x)) .leaf .leaf) n=true->n=0:=λx n e=>by
  cases n with
  |zero=>rfl
  |succ n=>simp only[tex]at e;split at e<;>cases e
 obtain⟨sn',ι',hS,hT⟩:=FgS.giveup (k:=k) (fs:=fs) (m:=m) (tm:=.node (some (some u)) .leaf .leaf) (tm2:=.node (some (some u2)) .leaf .leaf) (λn x e=>by
  obtain⟨rfl,rfl⟩:=h1 _ _ _ e
  exact⟨u,rfl,hu⟩) (λn e=>by rw[h2 _ _ e];rfl) hp hfams hkp hd sn ι W { a with tmps:=#[v] } hR ⟨λt x e=>by
  obtain⟨rfl,rfl⟩:=h1 _ _ _ e
  exact⟨v,rfl,hv⟩,λt e=>by rw[h2 _ _ e];exact Nat.zero_lt_one⟩
 obtain⟨v',h3,h4⟩:=hT.1 0 u2 rfl
 have h5:v'=v:=by simpa using h3.symm
 exact⟨sn',ι',hS,h5 ▸ h4⟩
def Zm7(P:Program)(l:List ResultVar)(k:Nat)(r:AV)(N:Z00)(tm:Tr)(H:Z00):Prop :=
 onO (Z3j P tm H l) λvs=>∃fs m,ZfK k 0 m=true/\HpGeZ fs H m m N 0/\Z0U (m.map (Z1x H))=true/\(m.map (Z1x H)).all (λf=>!mem f fs)=true/\WkZ fs H m (Z0Y vs) r
theorem Z0V {P : Program} {gl : Z0k} {orc : Orc} {k : Nat} (hm : P.follows .mixedOrders = true) (hn : NoNum P) (hO : OrcSound P gl orc) {f : Nat} {fn : Func} {c : Code} {args : List AV} {H0 N : Z00} {r : AV}
  (hf:P.funcs[f]? = some fn) (hc:fn.body=some c) {cw:CW} (hcw:Z5O P orc cw)
  (h:frcTr (tmk (Z76 args fn.ntmps args.length) (Z8c 20 fn.ntmps)) λtm=>Z29 P gl orc cw (Zab k) c (Zm7 P fn.results.toList k r N) (λ_ _ _=>False) (Zm7 P fn.results.toList k r N) tm H0):MemQ P gl k f args H0 r N:=by
 intro sn ι W cargs hg hR ha
 rw[Z1L]at h
 refine .inl (Z2P hf hc (Z1B (rd:=none) (λ_ _ _ _ _ _ _ _ _ _ _ h=>h.elim) hm hn hO hcw c h) hg hR ha (λ_ _ _ h=>h) λx tm1 H a1 W1 sn1 ι1 hx s1 t1=>?_)
 have key:Zm7 P fn.results.toList k r N tm1 H->∃v,(results fn a1.tmps).run P W1 = .ok v W1/\∃sn' ι',VR sn' ι' r v/\Stq k sn ι H0 W sn' ι' N W1:=by
  intro h
  obtain⟨us,h1,fs,m,h0,h2,h3,h4,h5⟩:=Z04 h
  obtain⟨vs,k1,k2⟩:=Z0O s1.rel t1 _ _ h1
  obtain⟨sn',ι',hS,hv⟩:=FgS.value (k:=k) h2 h3 h0 h4 a1 s1.rel (Z2K (fn:=fn) k1) h5
  exact⟨_,Z0R k2,sn',ι',hv,s1.trans hS⟩
 cases x with
 |normal =>
  obtain⟨v,k1,sn',ι',k2,k3⟩:=key hx
  exact⟨v,k1,v,sn',ι',rfl,k2,k3⟩
 |exit id=>exact hx.elim
 |ret =>
  obtain⟨v,k1,sn',ι',k2,k3⟩:=key hx
  exact⟨v,k1,v,sn',ι',rfl,k2,k3⟩
end Go.Abs
end
namespace Go.Proofs.YtneoiadnbikciaaGreatDoor.lex
open Go.Abs Go.RowKit
section
variable {gl:Z0k}
def Zoc(T:List Tq):FamM Y00 gl:=Z3g T 90 (by kernel_rfl) (I:=List UInt8) (λ_ s=>PsOK T s) (λw=>[.ptr 0 0,.str w]) (λw s=>.bool (isF T s w)) (λw s=>s) (λ_=>rfl) (λi j h=>by simpa using h) (λw s h=>Zqd h w)
def Zsk(f:Nat):Bool:=Y01 f 90 || (Y01 f 111 || Y01 f 94)
def upF(s:Ps):Ps:={ s with i:=s.i+1,op:=s.op+1 }
theorem Znw {T : List Tq} {s : Ps} {d : Nat} (hs : PsOK T s) (hat : isF T s [45] = false /\ isF T s [33] = false -> MemQ Y00 gl 1 111 [.ptr 0 0] (psH T s) (.agg (Z1m T (Z3A T (unF T d) 9) s).1.cells) (psH T (Z1m T (Z3A T (unF T d) 9) s).2))
  (hrec:¬(isF T s [45]=false/\isF T s [33]=false)->s.op≠200->(unF T d (upF s)).2.op<=1000000000 /\ -1000000000<=(unF T d (upF s)).2.op/\MemQ Y00 gl 1 94 [.ptr 0 0] (psH T (upF s)) (.agg (unF T d (upF s)).1.cells) (psH T (unF T d (upF s)).2)) :
  MemQ Y00 gl 1 94 [.ptr 0 0] (psH T s) (.agg (unF T (d+1) s).1.cells) (psH T (unF T (d+1) s).2):=by
 obtain⟨O,hO,⟨p1,p2,p3,-⟩,-⟩:=Z25 (P:=Y00) (gl:=gl) [Zoc T,Z3g T 111 (by kernel_rfl) (I:=Unit) (λ_ s'=>s'=s/\(isF T s [45]=false/\isF T s [33]=false)) (λ_=>[.ptr 0 0]) (λ_ s'=>.agg (Z1m T (Z3A T (unF T d) 9) s').1.cells) (λ_ s'=>(Z1m T (Z3A T (unF T d) 9) s').2) (λ_=>rfl) (λ_ _ _=>rfl) (λ_ s' h=>by rw[h.1];exact hat h.2),Z3g T 94 (by kernel_rfl) (I:=Unit) (λ_ s'=>s'=upF s/\¬(isF T s [45]=false/\isF T s [33]=false)/\s.op≠200) (λ_=>[.ptr 0 0]) (λ_ s'=>.agg (unF T d s').1.cells) (λ_ s'=>(unF T d s').2) (λ_=>rfl) (λ_ _ _=>rfl) (λ_ s' h=>by rw[h.1];exact (hrec h.2.1 h.2.2).2.2)] [] rfl
 have q1:∀w X,Z08 [0] X=true->Z06 Y00 O (psH T s++X) 90 [.ptr 0 0,.str w]=some (.bool (isF T s w),psH T s++X):=λw X hX=>p1 (w,s,X) ⟨hs,hX⟩
 have q2:isF T s [45]=false/\isF T s [33]=false->∀X,Z08 [0] X=true->Z06 Y00 O (psH T s++X) 111 [.ptr 0 0]=some (.agg (Z1m T (Z3A T (unF T d) 9) s).1.cells,psH T (Z1m T (Z3A T (unF T d) 9) s).2++X):=λh X hX=>p2 ((),s,X) ⟨⟨rfl,h⟩,hX⟩
 have q3:¬(isF T s [45]=false/\isF T s [33]=false)->s.op≠200->∀X,Z08 [0] X=true->Z06 Y00 O (psH T (upF s)++X) 94 [.ptr 0 0]=some (.agg (unF T d (upF s)).1.cells,psH T (unF T d (upF s)).2++X):=λh h2 X hX=>p3 ((),upF s,X) ⟨⟨rfl,h,h2⟩,hX⟩
 clear p1 p2 p3
 have hx:=tq4 T s.i hs.lt
 rw[<- Z0t hs.lt]at hx
 have hlt:=hs.lt
 have hfew:=hs.few
 have hlo:=hs.lo
 have hhi:=hs.hi
 have hb:=λh h2=>(hrec h h2).1
 have hb2:=λh h2=>(hrec h h2).2.1
 have g1:=q1 [45]
 have g2:=q1 [33]
 clear hat hrec q1
 have e0:unF T (d+1) s=if isF T s [45]=false/\isF T s [33]=false then Z1m T (Z3A T (unF T d) 9) s else if s.op=200 then (ex0,Z0p s 3 (Z0r T s).pos) else (.mk (if isF T s [33]=true then 4 else 3) 0 [] [(unF T d (upF s)).1],{ (unF T d (upF s)).2 with op:=(unF T d (upF s)).2.op-1 }):=rfl
 rw[e0]
 clear e0
 generalize isF T s [45]=b1 at *
 generalize isF T s [33]=b2 at *
 generalize Z1m T (Z3A T (unF T d) 9) s=r1 at *
 generalize unF T d (upF s)=r2 at *
 generalize Z0r T s=t at *
 obtain⟨k,tx,nm,ps⟩:=t
 obtain⟨⟨o1,n1,nn1,ks1⟩,s1⟩:=r1
 obtain⟨⟨o2,n2,nn2,ks2⟩,⟨i2,e2,a2,p2⟩⟩:=r2
 have wa:IntKind.i64.wrap ((s.i:Int)+1)=((s.i+1:Nat):Int):=Z1P (by omega)
 have wb:IntKind.i64.wrap (s.op+1)=s.op+1:=Z8b (by omega) (by omega)
 obtain⟨i,err,at_,op⟩:=s
 simp only[Tq.cells,Ex.cells,upF]at hx hlt q2 q3 wa wb hb hb2⊢
 refine Z0V follows Z05 (Z09 follows Z05 hO 3) Tryz.func94 rfl (Z0f (isC:=Zsk) 3) ?_
 by_cases hn:b1=false/\b2=false
 · have q2b:=q2 hn
   clear q2 q3 hb hb2
   rw[if_pos hn]
   obtain⟨rfl,rfl⟩:=hn
   simp only[psH]at g1 g2 q2b⊢
   repeat' ((conv=>whnf);first|refine exI (g1 _ rfl) ?_|refine exI (g2 _ rfl) ?_|refine exI (q2b _ rfl) ?_|refine stp ?_|with_reducible apply Z01<;>intro h)
   all_goals (try (conv=>whnf))
   all_goals exact⟨[],[0],rfl,⟨⟨rfl,rfl,rfl,rfl,BodyGe.z (Y0b (rest:=[]) rfl rfl)⟩,trivial⟩,rfl,rfl,.inl (Y02 rfl)⟩
 · rw[if_neg hn]
   clear q2
   by_cases h200:op=200
   · subst h200
     rw[if_pos rfl]
     clear q3 hb hb2
     unfold Z0p
     by_cases he:err=0
     · subst he
       simp only[psH,if_true]at g1 g2⊢
       cases b1<;>cases b2<;>(try (exact absurd ⟨rfl,rfl⟩ hn))
       all_goals repeat' ((conv=>whnf);first|refine exI (g1 _ rfl) ?_|refine exI (g2 _ rfl) ?_|refine exI hx ?_|(with_reducible refine exW wa ?_)|(with_reducible refine exW wb ?_)|(with_reducible refine ixJ i rfl ?_ ?_;focus omega)|refine stp ?_|with_reducible apply Z01<;>intro h)
       all_goals (try (conv=>whnf))
       all_goals exact⟨[],[0],rfl,⟨⟨rfl,rfl,rfl,rfl,BodyGe.z (Y0b (rest:=[]) rfl rfl)⟩,trivial⟩,rfl,rfl,.inl Z49⟩
     · have g3:(err==0)=false:=by simpa using he
       simp only[psH,he,if_false]at g1 g2⊢
       cases b1<;>cases b2<;>(try (exact absurd ⟨rfl,rfl⟩ hn))
       all_goals repeat' ((conv=>whnf);first|refine exI (g1 _ rfl) ?_|refine exI (g2 _ rfl) ?_|refine exI hx ?_|(with_reducible refine exW wa ?_)|(with_reducible refine exW wb ?_)|(with_reducible refine ixJ i rfl ?_ ?_;focus omega)|refine stp ?_|with_reducible apply Z01<;>intro h)
       all_goals (try (conv=>whnf))
       all_goals exact⟨[],[0],rfl,⟨⟨rfl,rfl,rfl,rfl,BodyGe.z (Y0b (rest:=[]) rfl rfl)⟩,trivial⟩,rfl,rfl,.inl Z49⟩
   · have g5:(op==200)=false:=by simpa using h200
     have q3b:=q3 hn h200
     have hb:=hb hn h200
     have hb2:=hb2 hn h200
     rw[if_neg h200]
     clear q3
     have wc:IntKind.i64.wrap (p2-1)=p2-1:=Z8b (by omega) (by omega)
     simp only[psH]at g1 g2 q3b⊢
     cases b1<;>cases b2<;>(try (exact absurd ⟨rfl,rfl⟩ hn))
     all_goals repeat' ((conv=>whnf);first|refine exI (g1 _ rfl) ?_|refine exI (g2 _ rfl) ?_|refine exI (q3b _ rfl) ?_|refine exI hx ?_|(with_reducible refine exW wa ?_)|(with_reducible refine exW wb ?_)|(with_reducible refine exW wc ?_)|(with_reducible refine ixJ i rfl ?_ ?_;focus omega)|refine stp ?_|with_reducible apply Z01<;>intro h)
     all_goals (try (conv=>whnf))
     all_goals exact⟨[3],[0],rfl,⟨⟨rfl,rfl,rfl,rfl,BodyGe.z (Y0b (rest:=[]) rfl rfl)⟩,trivial⟩,rfl,rfl,.inr rfl⟩
end
section
variable {gl:Z0k}
def lvR(n:Nat):AV:=.tuple [.rs (lvS n).length 1 ((lvS n).map λp=>.str p.1),.rs (lvS n).length 1 ((lvS n).map λp=>.int .i64 p.2)]
theorem ZlL(n:Nat)(hn:n<=8):ValOK Y00 gl 95 [.int .i64 n] (lvR n):=by
 have hΦ : ∀r':AV,(∀sn v,VR sn noI r' v->VR sn noI (lvR n) v)->∀sn v,VR sn noI r' v->VR sn noI (lvR n) v:=λr' h=>h
 have hc:n=0\/n=1\/n=2\/n=3\/n=4\/n=5\/n=6\/n=7\/n=8:=by omega
 refine fn_valX follows Z05 Z0g hΦ Tryz.func95 rfl (Z83 _ _) ?_
 clear hΦ
 rcases hc with rfl|rfl|rfl|rfl|rfl|rfl|rfl|rfl|rfl
 all_goals repeat' ((conv=>whnf);first|refine stp ?_|with_reducible apply Z01<;>intro h)
 all_goals (try (conv=>whnf))
 all_goals exact λsn v h=>h
end
section
variable {gl:Z0k}
def ZrX(f:Nat):Bool:=Y01 f 45 || (Y01 f 51 || (Y01 f 94 || Y01 f 95))
theorem Ze9{T:List Tq}{s:Ps}{w:List UInt8}(h:Z0L T s w=true):(Z0l T s w).i=s.i+1:=by
 unfold Z0L at h
 simp only[Y03,Y0g,Bool.and_eq_false_iff,beq_eq_false_iff_ne]at h
 unfold Z0l
 rw [if_pos h.1, if_neg (fun h2 => by rcases h.2 with h3 | h3
                                      ·rw[h2.1]at h3;cases h3
                                      ·exact h3 h2.2)]
theorem Zbq{T:List Tq}{i0:Nat}{rec1:Ps->Ex×Ps}(hrec:∀s,PsOK T s->i0<=s.i->PsGo T s (rec1 s).2):∀(l:List (List UInt8×Int))(x:Ex)(s:Ps)(a:Bool),PsOK T s->i0<=s.i->PsGo T s (Z1s T rec1 l x s a).2.1/\((Z1s T rec1 l x s a).2.2=true->a=true\/s.i<(Z1s T rec1 l x s a).2.1.i)
 |[],x,s,a,h,hi=>⟨⟨h,Y04 _,Y0q _⟩,λh=>.inl h⟩
 |(w,o)::l,x,s,a,h,hi=>by
  have ht:=Z5h h w
  unfold Z1s
  split
  · rename_i hb
    have h1:=Ze9 hb
    have h2:=hrec _ ht.ok (Y07 hi ht.on)
    have h3:=(Zbq hrec l (.mk o 0 [] [x,(rec1 (Z0l T s w)).1]) (rec1 (Z0l T s w)).2 true h2.ok (Y07 (Y07 hi ht.on) h2.on)).1
    refine⟨ht.trans (h2.trans h3),λ_=>.inr ?_⟩
    have:=h2.on
    have:=h3.on
    omega
  · have h3:=Zbq hrec l x (Z0l T s w) a ht.ok (Y07 hi ht.on)
    refine⟨ht.trans h3.1,λh=>?_⟩
    rcases h3.2 h with h4|h4
    ·exact .inl h4
    · have:=ht.on
      exact .inr (by omega)
structure Jo where
 k:Nat
 x:Ex
 s:Ps
 a:Bool
def zE:List AV:=[.int .i64 0,.int .i64 0,.str [],.nslice]
theorem Zmz {T : List Tq} {n : Nat} (hn : n <= 8) {rec1 : Ps -> Ex × Ps} {s0 : Ps} (hs0 : PsOK T s0) (hrec : ∀ s, PsOK T s -> s0.i <= s.i -> PsGo T s (rec1 s).2 /\ MemQ Y00 gl 1 51 [.ptr 0 0, .int .i64 ((n + 1 : Nat) : Int)] (psH T s) (.agg (rec1 s).1.cells) (psH T (rec1 s).2)) :
  MemQ Y00 gl 1 51 [.ptr 0 0,.int .i64 (n:Nat)] (psH T s0) (.agg (Z24 T rec1 (lvS n) (T.length+1) (rec1 s0).1 (rec1 s0).2).1.cells) (psH T (Z24 T rec1 (lvS n) (T.length+1) (rec1 s0).1 (rec1 s0).2).2):=by
 obtain⟨O,hO,⟨p1,p2,-⟩,p3,-⟩:=Z25 (P:=Y00) (gl:=gl) [Z77 T,Z3g T 51 (by kernel_rfl) (I:=Unit) (λ_ s=>PsOK T s/\s0.i<=s.i) (λ_=>[.ptr 0 0,.int .i64 ((n+1:Nat):Int)]) (λ_ s=>.agg (rec1 s).1.cells) (λ_ s=>(rec1 s).2) (λ_=>rfl) (λ_ _ _=>rfl) (λ_ s h=>(hrec s h.1 h.2).2)]
  [{ I:=Unit,f:=95,G:=λ_=>True,A:=λ_=>[.int .i64 (n:Nat)],R:=λ_=>lvR n,body:=(by kernel_rfl),inj:=(λ_ _ _ _ _=>rfl),ok:=λ_ _=>⟨rfl,ZlL n hn⟩ }] rfl
 have q1:∀w s X,PsOK T s->Z08 [0] X=true->Z06 Y00 O (psH T s++X) 45 [.ptr 0 0,.str w]=some (.bool (Z0L T s w),psH T (Z0l T s w)++X):=λw s X h hX=>p1 (w,s,X) ⟨h,hX⟩
 have q2:∀s X,PsOK T s->s0.i<=s.i->Z08 [0] X=true->Z06 Y00 O (psH T s++X) 51 [.ptr 0 0,.int .i64 ((n+1:Nat):Int)]=some (.agg (rec1 s).1.cells,psH T (rec1 s).2++X):=λs X h h2 hX=>p2 ((),s,X) ⟨⟨h,h2⟩,hX⟩
 have q3:∀H,Z06 Y00 O H 95 [.int .i64 (n:Nat)]=some (lvR n,H):=p3 () trivial
 clear p1 p2 p3
 have hgo:=λs h h2=>(hrec s h h2).1
 have hpass:=λx s a h h2=>Zbq hgo (lvS n) x s a h h2
 have h00:=hgo s0 hs0 (Y04 _)
 have hr0:=q2 s0
 have hll:(lvS n).length<=2:=by
  have hc:n=0\/n=1\/n=2\/n=3\/n=4\/n=5\/n=6\/n=7\/n=8:=by omega
  rcases hc with rfl|rfl|rfl|rfl|rfl|rfl|rfl|rfl|rfl<;>decide
 generalize hR:Z24 T rec1 (lvS n) (T.length+1) (rec1 s0).1 (rec1 s0).2=R
 obtain⟨⟨Ro,Rn,Rt,Rk⟩,Rs⟩:=R
 have wn:IntKind.i64.wrap ((n:Int)+1)=((n+1:Nat):Int):=Z1P (by omega)
 have en:((n:Int)==9)=false:=by simp;omega
 have hr0:=hr0 [⟨true,1,0,.cells zE 47⟩] hs0 (Y04 _) rfl
 have hlv:lvR n = .tuple [.rs (lvS n).length 1 ((lvS n).map λp=>.str p.1),.rs (lvS n).length 1 ((lvS n).map λp=>.int .i64 p.2)]:=rfl
 rw[hlv]at q3
 generalize hr1:rec1 s0=r1 at *
 obtain⟨⟨xo,xn,xt,xk⟩,⟨ri,re,ra,rp⟩⟩:=r1
 simp only[psH,zE,Y06,Y0e,Ex.cells]at hr0⊢
 refine Z0V follows Z05 (Z09 follows Z05 hO 3) Tryz.func51 rfl (Z0f (isC:=ZrX) 3) ?_
 repeat' ((conv=>whnf);first|(with_reducible refine exW wn ?_)|refine exI hr0 ?_|refine exI (q3 _) ?_|refine stp ?_|with_reducible apply Z01<;>intro h)
 conv=>whnf
 clear q3 hr0 hlv
 have hpass:=hpass
 generalize lvS n=l at *
 refine⟨Jo,(λy=>PsOK T y.s/\s0.i<=y.s.i/\(y.a=true->T.length-y.s.i<y.k/\Z24 T rec1 l y.k y.x y.s=(.mk Ro Rn Rt Rk,Rs))/\(y.a=false->(y.x,y.s)=(.mk Ro Rn Rt Rk,Rs))),
  (λy=>[(0,.ptr 0 0),(1,.int .i64 (n:Nat)),(4,.ptr 1 0),(5,.ptr 2 0),(6,.rs l.length 1 (l.map λp=>.str p.1)),(7,.rs l.length 1 (l.map λp=>.int .i64 p.2)),(8,.bool y.a)]),
  (λy=>psH T y.s++[⟨true,1,0,.cells zE 47⟩,⟨true,2,0,.cells y.x.cells 47⟩]),(λy=>cond y.a (y.k+1) 0),⟨⟨T.length+1,.mk xo xn xt xk,⟨ri,re,ra,rp⟩,true⟩,⟨h00.ok,h00.on,λ_=>⟨by show T.length-ri<T.length+1;omega,hR⟩,λh=>by cases h⟩,?_⟩,?_⟩
 · refine FgLK.mk [0,1,2] rfl rfl ?_ ⟨hbp,hbp,hbp,trivial⟩ rfl
   exact wks
 clear hR h00 hr1
 rintro⟨k,⟨xo,xn,xt,xk⟩,s,a⟩ ⟨hs,hi,ht,hf⟩
 dsimp only at hs hi ht hf
 (try dsimp only)
 cases a with
 |false =>
  have hf:=hf rfl
  simp only[Prod.mk.injEq,Ex.mk.injEq]at hf
  obtain⟨⟨rfl,rfl,rfl,rfl⟩,rfl⟩:=hf
  obtain⟨ri,re,ra,rp⟩:=s
  simp only[psH,Y06,Y0e,Ex.cells]
  repeat' ((conv=>whnf);first|refine stp ?_|with_reducible apply Z01<;>intro h)
  all_goals (try (conv=>whnf))
  all_goals exact⟨[],[0],rfl,⟨⟨rfl,rfl,rfl,rfl,BodyGe.z (Y0b (rest:=[]) rfl rfl)⟩,trivial⟩,rfl,rfl,.inl (Y02 rfl)⟩
 |true =>
  obtain⟨hk,hloop⟩:=ht rfl
  obtain⟨k,rfl⟩:∃k',k=k'+1:=⟨k-1,by omega⟩
  have hp:=hpass (.mk xo xn xt xk) s false hs hi
  unfold Z24 at hloop
  generalize hP:Z1s T rec1 l (.mk xo xn xt xk) s false=P at *
  obtain⟨Px,Ps',Pa⟩:=P
  simp only at hloop hp
  clear hf ht
  have hs1:=hs
  have hi1:=hi
  obtain⟨ri,re,ra,rp⟩:=s
  simp only[psH,Y06,Y0e,Ex.cells]
  repeat' ((conv=>whnf);first|refine stp ?_|with_reducible apply Z01<;>intro h)
  conv=>whnf
  refine⟨Jo,(λy=>y.k<=l.length/\PsOK T y.s/\s0.i<=y.s.i/\Z1s T rec1 (l.drop y.k) y.x y.s y.a=(Px,Ps',Pa)),
   (λy=>[(0,.ptr 0 0),(1,.int .i64 (n:Nat)),(4,.ptr 1 0),(5,.ptr 2 0),(6,.rs l.length 1 (l.map λp=>.str p.1)),(7,.rs l.length 1 (l.map λp=>.int .i64 p.2)),(8,.bool y.a),(9,.int .i64 (y.k:Nat))]),
   (λy=>psH T y.s++[⟨true,1,0,.cells zE 47⟩,⟨true,2,0,.cells y.x.cells 47⟩]),(λy=>l.length-y.k),⟨⟨0,.mk xo xn xt xk,⟨ri,re,ra,rp⟩,false⟩,⟨Nat.zero_le _,hs,hi,by rw[Y0t];exact hP⟩,?_⟩,?_⟩
  · refine FgLK.mk [0,1,2] rfl rfl ?_ ⟨hbp,hbp,hbp,trivial⟩ rfl
    exact wks
  clear hP
  rintro⟨j,⟨yo,yn,yt,yk⟩,t,b⟩ ⟨hj,ht,hti,hpf⟩
  dsimp only at hj ht hti hpf
  (try dsimp only)
  by_cases hjl:j<l.length
  · have e1:decide ((j:Int)<(l.length:Int))=true:=by simpa using hjl
    have hx6:∀off,off=j->tk 1 ((l.map λp=>AV.str p.1).drop off)=some [.str l[j].1]:=λoff e=>Zba _ l j hjl e
    have hx7:∀off,off=j->tk 1 ((l.map λp=>AV.int .i64 p.2).drop off)=some [.int .i64 l[j].2]:=λoff e=>Zba _ l j hjl e
    have wa:IntKind.i64.wrap ((j:Int)+1)=((j+1:Nat):Int):=Z1P (by omega)
    rw[Y0r hjl]at hpf
    have hg1:=Z5h ht l[j].1
    have hg2:=hgo _ hg1.ok (Y07 hti hg1.on)
    have g1:=q1 l[j].1 t [⟨true,1,0,.cells zE 47⟩,⟨true,2,0,.cells [.int .i64 yo,.int .i64 yn,.str yt,.rs yk.length 4 (exC yk)] 47⟩] ht rfl
    have g2:=q2 _ [⟨true,1,0,.cells zE 47⟩,⟨true,2,0,.cells [.int .i64 yo,.int .i64 yn,.str yt,.rs yk.length 4 (exC yk)] 47⟩] hg1.ok (Y07 hti hg1.on) rfl
    have hti2:=Y07 hti hg1.on
    have hti3:=Y07 hti2 hg2.on
    have hok1:=hg1.ok
    have hok2:=hg2.ok
    generalize hw:l[j]=w at *
    obtain⟨w,o⟩:=w
    simp only[Z1s]at hpf hx6 hx7 g1 g2 hok1 hok2 hti2 hti3
    clear q1 q2 hg1 hg2 hw hgo hrec hpass
    generalize Z0L T t w=tb at *
    generalize rec1 (Z0l T t w)=r2 at *
    generalize Z0l T t w=t2 at *
    obtain⟨⟨zo,zn,zt,zk⟩,⟨i3,e3,a3,p3⟩⟩:=r2
    obtain⟨i2,e2,a2,p2⟩:=t2
    obtain⟨i1,e1',a1,p1⟩:=t
    simp only[psH,Y06,Y0e,Ex.cells]at g1 g2⊢
    cases tb with
    |false =>
     rw[if_neg (by decide)]at hpf
     repeat' ((conv=>whnf);first|refine exI g1 ?_|refine exI (hx6 _ (by omega)) ?_|(with_reducible refine exW wa ?_)|(with_reducible refine ixJ j rfl ?_ ?_;focus omega)|refine stp ?_|with_reducible apply Z01<;>intro h)
     conv=>whnf
     refine⟨⟨j+1,.mk yo yn yt yk,⟨i2,e2,a2,p2⟩,b⟩,⟨hjl,hok1,hti2,hpf⟩,by show l.length-(j+1)<l.length-j;omega,?_⟩
     refine FgLK.mk [0,1,2] rfl rfl ?_ ⟨hbp,hbp,hbp,trivial⟩ rfl
     exact wks
    |true =>
     rw[if_pos rfl]at hpf
     repeat' ((conv=>whnf);first|refine exI g1 ?_|refine exI g2 ?_|refine exI (hx6 _ (by omega)) ?_|refine exI (hx7 _ (by omega)) ?_|(with_reducible refine exW wn ?_)|(with_reducible refine exW wa ?_)|(with_reducible refine ixJ j rfl ?_ ?_;focus omega)|refine stp ?_|with_reducible apply Z01<;>intro h)
     conv=>whnf
     refine⟨⟨j+1,.mk o 0 [] [.mk yo yn yt yk,.mk zo zn zt zk],⟨i3,e3,a3,p3⟩,true⟩,⟨hjl,hok2,hti3,hpf⟩,by show l.length-(j+1)<l.length-j;omega,?_⟩
     refine FgLK.mkZ [3] [0,1,2] rfl rfl ?_ ⟨⟨rfl,rfl,rfl,rfl,BodyGe.z (Y0b (rest:=[]) rfl rfl)⟩,⟨rfl,rfl,rfl,rfl,BodyGe.z (Y0b (rest:=[]) rfl rfl)⟩,⟨rfl,rfl,rfl,rfl,BodyGeZ.app (cs:=[]) rfl ⟨.inl (Y0d rfl),.inl (Y0d rfl),.inl (Y02 rfl),.inr rfl,trivial⟩⟩,trivial⟩ rfl rfl
     exact⟨.inl (Wk.ptr rfl rfl),.inl (Y0d rfl),.inl (Wk.ptr rfl rfl),.inl (Wk.ptr rfl rfl),.inl (Y02 rfl),.inl (Y02 rfl),.inl (Wk.bool rfl),.inl (Y0d rfl),trivial⟩
  · have e1:decide ((j:Int)<(l.length:Int))=false:=by simpa using hjl
    rw[List.drop_eq_nil_of_le (by omega)]at hpf
    simp only[Z1s,Prod.mk.injEq]at hpf
    obtain⟨rfl,rfl,rfl⟩:=hpf
    obtain⟨i1,e1',a1,p1⟩:=t
    simp only[psH,Y06,Y0e,Ex.cells]
    repeat' ((conv=>whnf);first|refine stp ?_|with_reducible apply Z01<;>intro h)
    all_goals (conv=>whnf)
    all_goals refine⟨⟨k,.mk yo yn yt yk,⟨i1,e1',a1,p1⟩,b⟩,⟨ht,hti,λhb=>?_,λhb=>?_⟩,?_,?_⟩
    · have hlt:=ht.lt
      rw[if_pos hb]at hloop
      refine⟨?_,hloop⟩
      rcases hp.2 hb with h|h
      ·cases h
      ·simp only at h hlt hk⊢;omega
    · have hb:b=false:=hb
      subst hb
      rw[if_neg (by decide)]at hloop
      exact hloop
    · cases b
      ·exact Nat.succ_pos _
      ·exact Nat.lt_succ_self _
    · refine FgLK.mk [0,1,2] rfl rfl ?_ ⟨hbp,hbp,hbp,trivial⟩ rfl
      exact wks
end
section
variable {gl:Z0k}
theorem ZsG{T:List Tq}{s s':Ps}{e:Ex}(h:MemQ Y00 gl 1 94 [.ptr 0 0] (psH T s) (.agg e.cells) (psH T s')):MemQ Y00 gl 1 51 [.ptr 0 0,.int .i64 9] (psH T s) (.agg e.cells) (psH T s'):=by
 obtain⟨O,hO,⟨p1,-⟩,-⟩:=Z25 (P:=Y00) (gl:=gl) [Z3g T 94 (by kernel_rfl) (I:=Unit) (λ_ t=>t=s) (λ_=>[.ptr 0 0]) (λ_ t=>.agg e.cells) (λ_ t=>s') (λ_=>rfl) (λ_ _ _=>rfl) (λ_ t ht=>by rw[ht];exact h)] [] rfl
 have q1:∀X,Z08 [0] X=true->Z06 Y00 O (psH T s++X) 94 [.ptr 0 0]=some (.agg e.cells,psH T s'++X):=λX hX=>p1 ((),s,X) ⟨rfl,hX⟩
 clear p1
 obtain⟨o,n,t,ks⟩:=e
 obtain⟨a,b,c,d⟩:=s
 obtain⟨a',b',c',d'⟩:=s'
 simp only[psH,Ex.cells]at q1⊢
 refine Z0V follows Z05 (Z09 follows Z05 hO 3) Tryz.func51 rfl (Z0f (isC:=ZrX) 3) ?_
 repeat' ((conv=>whnf);first|refine exI (q1 _ rfl) ?_|refine stp ?_|with_reducible apply Z01<;>intro h)
 all_goals (try (conv=>whnf))
 all_goals exact⟨[],[0],rfl,⟨⟨rfl,rfl,rfl,rfl,BodyGe.z (Y0b (rest:=[]) rfl rfl)⟩,trivial⟩,rfl,rfl,.inl (Y02 rfl)⟩
theorem Zew{T:List Tq}{i0:Nat}{rec1:Ps->Ex×Ps}(hrec:∀s,PsOK T s->i0<=s.i->PsGo T s (rec1 s).2)(l:List (List UInt8×Int)):∀(k:Nat)(x:Ex)(s:Ps),PsOK T s->i0<=s.i->PsGo T s (Z24 T rec1 l k x s).2
 |0,x,s,h,hi=>⟨h,Y04 _,Y0q _⟩
 |k+1,x,s,h,hi=>by
  have hp:=(Zbq hrec l x s false h hi).1
  unfold Z24
  split
  ·exact hp.trans (Zew hrec l k _ _ hp.ok (Y07 hi hp.on))
  ·exact hp
theorem lev_ok {T : List Tq} {i0 : Nat} {un : Ps -> Ex × Ps} (hun : ∀ s, PsOK T s -> i0 <= s.i -> PsGo T s (un s).2 /\ MemQ Y00 gl 1 94 [.ptr 0 0] (psH T s) (.agg (un s).1.cells) (psH T (un s).2)) : ∀ (m : Nat), m <= 9 -> ∀ s, PsOK T s -> i0 <= s.i ->
  PsGo T s (Z3A T un m s).2/\MemQ Y00 gl 1 51 [.ptr 0 0,.int .i64 ((9-m:Nat):Int)] (psH T s) (.agg (Z3A T un m s).1.cells) (psH T (Z3A T un m s).2)
 |0,_,s,hs,hi=>⟨(hun s hs hi).1,ZsG (hun s hs hi).2⟩
 |m+1,hm,s,hs,hi=>by
  have ih:=lev_ok hun m (by omega)
  have h1:=(ih s hs hi).1
  refine⟨h1.trans (Zew (λt h h2=>(ih t h h2).1) _ _ _ _ h1.ok (Y07 hi h1.on)),?_⟩
  have e:9-m=(8-m)+1:=by omega
  have e2:9-(m+1)=8-m:=by omega
  rw[e]at ih
  rw[e2]
  exact Zmz (n:=8-m) (by omega) hs (λt h h2=>ih t h (Y07 hi h2))
theorem ZmB{T:List Tq}{ex:Ps->Ex×Ps}{s:Ps}(hs:PsOK T s)(hex:Z0L T s [40]=true->PsGo T (Z0l T s [40]) (ex (Z0l T s [40])).2):PsGo T s (Z1m T ex s).2:=by
 have hup:(Z0r T s).kind≠5->PsGo T s { s with i:=s.i+1 }:=λh=>by
  rw[Z0t hs.lt]at h
  have hlo:=hs.lo
  exact⟨⟨hs.last _ hs.lt h,hs.few,hs.last,by show -((s.i+1:Nat):Int)<=s.op;omega,hs.hi⟩,Nat.le_succ _,by show s.op+(s.i:Int)<=s.op+((s.i+1:Nat):Int);omega⟩
 have ht:=Z5h hs [40]
 unfold Z1m
 split
 ·exact⟨hs,Y04 _,Y0q _⟩
 split
 ·exact hup (by omega)
 split
 ·exact hup (by omega)
 split
 · rename_i h
   have h2:=hex h
   exact ht.trans (h2.trans (Z0F h2.ok _))
 ·exact ht.trans (Z5z ht.ok _ _)
theorem Zl7{T:List Tq}:∀(d:Nat)(s:Ps),PsOK T s->T.length-s.i<=d->PsGo T s (unF T d s).2/\MemQ Y00 gl 1 94 [.ptr 0 0] (psH T s) (.agg (unF T d s).1.cells) (psH T (unF T d s).2)
 |0,s,hs,hd=>by have:=hs.lt;omega
 |d+1,s,hs,hd=>by
  have hlt:=hs.lt
  have hlo:=hs.lo
  have hhi:=hs.hi
  have hun:∀t,PsOK T t->s.i+1<=t.i->PsGo T t (unF T d t).2/\MemQ Y00 gl 1 94 [.ptr 0 0] (psH T t) (.agg (unF T d t).1.cells) (psH T (unF T d t).2):=λt h h2=>Zl7 d t h (by omega)
  have hat:Z0L T s [40]=true->PsGo T (Z0l T s [40]) (Z3A T (unF T d) 9 (Z0l T s [40])).2/\MemQ Y00 gl 1 51 [.ptr 0 0,.int .i64 0] (psH T (Z0l T s [40])) (.agg (Z3A T (unF T d) 9 (Z0l T s [40])).1.cells) (psH T (Z3A T (unF T d) 9 (Z0l T s [40])).2):=λh=>by
   have h1:=Ze9 h
   exact lev_ok hun 9 (by omega) _ (Z5h hs [40]).ok (by omega)
  have hup:¬(isF T s [45]=false/\isF T s [33]=false)->s.op≠200->PsOK T (upF s):=λh h2=>by
   have hk:(Z0r T s).kind≠5:=by
    cases h1:isF T s [45] with
    |true=>exact Z4U h1
    |false =>
     cases h3:isF T s [33] with
     |true=>exact Z4U h3
     |false=>exact absurd ⟨h1,h3⟩ h
   rw[Z0t hlt]at hk
   exact⟨hs.last _ hlt hk,hs.few,hs.last,by show -((s.i+1:Nat):Int)<=s.op+1;omega,by show s.op+1<=200;omega⟩
  refine⟨?_,Znw hs (λ_=>Zp6 hs (λh=>⟨(hat h).1.ok,(hat h).2⟩)) (λh h2=>?_)⟩
  · have e0:unF T (d+1) s=if isF T s [45]=false/\isF T s [33]=false then Z1m T (Z3A T (unF T d) 9) s else if s.op=200 then (ex0,Z0p s 3 (Z0r T s).pos) else (.mk (if isF T s [33]=true then 4 else 3) 0 [] [(unF T d (upF s)).1],{ (unF T d (upF s)).2 with op:=(unF T d (upF s)).2.op-1 }):=rfl
    rw[e0]
    split
    ·exact ZmB hs (λh=>(hat h).1)
    · rename_i h
      split
      ·exact Z5z hs _ _
      · rename_i h2
        have h3:=hun (upF s) (hup h h2) (Y04 _)
        obtain⟨hok,hon,hlo2⟩:=h3.1
        have h4:s.i+1<=(unF T d (upF s)).2.i:=hon
        have h5:s.op+1+((s.i+1:Nat):Int)<=(unF T d (upF s)).2.op+(unF T d (upF s)).2.i:=hlo2
        have h6:=hok.hi
        exact⟨⟨hok.lt,hok.few,hok.last,by show -((unF T d (upF s)).2.i:Int)<=(unF T d (upF s)).2.op-1;omega,by show (unF T d (upF s)).2.op-1<=200;omega⟩,by show s.i<=(unF T d (upF s)).2.i;omega,by show s.op+(s.i:Int)<=(unF T d (upF s)).2.op-1+((unF T d (upF s)).2.i:Int);omega⟩
  · have h3:=hun (upF s) (hup h h2) (Y04 _)
    have h6:=h3.1.ok.hi
    have h7:=h3.1.ok.lo
    have h8:=h3.1.ok.lt
    have h9:=hs.few
    exact⟨by omega,by omega,h3.2⟩
def Z0D(T:List Tq)(s:Ps):Ex×Ps:=Z3A T (unF T T.length) 9 s
theorem ZeM{T:List Tq}{s:Ps}(hs:PsOK T s):PsGo T s (Z0D T s).2/\MemQ Y00 gl 1 51 [.ptr 0 0,.int .i64 0] (psH T s) (.agg (Z0D T s).1.cells) (psH T (Z0D T s).2) :=
 lev_ok (i0:=0) (λt h _=>Zl7 T.length t h (by omega)) 9 (by omega) s hs (Nat.zero_le _)
end
end Go.Proofs.YtneoiadnbikciaaGreatDoor.lex
section
namespace Go.Abs
open Go.RowKit
def ZcR(K:Act->World->Prop)(Q:Exit->Act->World->Prop):Exit->Act->World->Prop
 | .normal,a,w=>K a w
 |x,a,w=>Q x a w
theorem Z8O{F:Fence}{n:Nat}{P:Program}{o:Oper}{a:Act}{w:World}{K K1:Act->World->Prop}{Q:Exit->Act->World->Prop}(h:o.wpIn F n P a w K (ZcR K1 Q)):o.wpIn F n P a w K Q:=by
 unfold Oper.wpIn at *
 refine⟨h.1,?_⟩
 have hh:=h.2
 generalize (o.semAt F.round a.eval).run P w=r at *
 cases r with
 |ok x w'=>cases x<;>simp only[Oper.uponIn]at hh⊢ <;> exact hh
 |halt x w'=>cases x<;>simp only[Oper.uponIn]at hh⊢ <;> exact hh
section
variable {X:AV->Prop} {P:Program} {gl:Z0k} {orc:Orc} {rd:Option Nat}
theorem ZnY (hn : NoNum P) (hO : OrcSoundX X P gl orc) {ops : Array Oper} {i : Nat} {o : Oper} (ho : ops[i]? = some o) {tm tm' : Tr} {H H' : Z00} {a : Act} {W : World} {sn : Z0o} {ι : Z0n}
  (h:Zgz P gl orc ops.toList [o] tm H=some (tm',H')) (hg:GlOK gl sn) (hR:R sn ι H W) (ht:TRel sn ι tm a) {Q:Exit->Act->World->Prop} {K:Act->World->Prop}
  (hK:∀a' W' sn' ι',Stp sn ι H W sn' ι' H' W'->TRel sn' ι' tm' a'->a'.defers=a.defers->K a' W') (hP:∀a' ch W',a'.defers=a.defers->PanR X sn ι H W ch W'->Q (.panic ch) a' W'):wpOpIn (Fq rd) 0 P ops Q i K a W:=by
 have h1:wpListIn (Fq rd) 0 P ops (ZcR K Q) [o] a W:=Z2y hn hO ops [o] tm H tm' H' a W sn ι h hg hR ht (Q:=ZcR K Q) hK hP
 unfold wpOpIn
 simp only[ho]
 simp only[wpListIn]at h1
 split
 · rename_i hw
   rw[if_pos hw]at h1
   exact Z8O (Oper.wpIn_mono (λa w h=>h) h1)
 · rename_i hw
   rw[if_neg hw]at h1
   exact h1
def Za2(d:Nat):Nat->Bool
 |0=>true
 |n+1=>bit d n&&Za2 d n
theorem Z7r{d:Nat}:∀{n:Nat},Za2 d n=true->∀i,i<n->bit d i=true
 |0,h,i,hi=>absurd hi (Nat.not_lt_zero i)
 |n+1,h,i,hi=>by
  simp only[Za2,Y03]at h
  rcases Nat.lt_succ_iff_lt_or_eq.1 hi with h1|rfl
  ·exact Z7r h.2 i h1
  ·exact h.1
theorem Zd7{d:Nat}:∀{n:Nat},Za2 d n=false->∃i,i<n/\bit d i=false
 |0,h=>by cases h
 |n+1,h=>by
  simp only[Za2,Bool.and_eq_false_iff]at h
  rcases h with h|h
  ·exact⟨n,Nat.lt_succ_self n,h⟩
  · obtain⟨i,h1,h2⟩:=Zd7 h
    exact⟨i,Nat.lt_succ_of_lt h1,h2⟩
def ZpQ(an:List Nat)(d i:Nat):Bool:=!bit d i&&Y01 (Nat.lor d (an.getD i 0)) d
noncomputable def ZgQ(P:Program)(gl:Z0k)(orc:Orc)(cw:CW)(ops:List Oper)(an:List Nat)(d:Nat)(tm:Tr)(H:Z00)(k:Nat->Tr->Z00->Prop)(l:List Oper):Nat->Prop :=
 List.rec (motive:=λ_=>Nat->Prop) (λ_=>True) (λo _ ih i=>match ZpQ an d i with
  |true=>ZfA P gl orc cw ops [o] tm H (λtm H=>Za3 (Nat.lor d (2 ^ i)) λd=>k d tm H)/\ih (i+1)
  |false=>ih (i+1)) l
noncomputable def Znx(P:Program)(gl:Z0k)(orc:Orc)(cw:CW)(ops:List Oper)(an:List Nat)(k:Tr->Z00->Prop)(f:Nat):Nat->Tr->Z00->Prop :=
 Nat.rec (motive:=λ_=>Nat->Tr->Z00->Prop) (λd tm H=>match Za2 d ops.length with|true=>k tm H|false=>False)
  (λ_ ih d tm H=>match Za2 d ops.length with|true=>False|false=>ZgQ P gl orc cw ops an d tm H ih ops 0) f
variable {cw:CW}
theorem Zfm{ops:List Oper}{an:List Nat}{d:Nat}{tm:Tr}{H:Z00}{k:Nat->Tr->Z00->Prop}:∀{l:List Oper}{j:Nat},ZgQ P gl orc cw ops an d tm H k l j->∀i o,l[i]? = some o->ZpQ an d (j+i)=true->ZfA P gl orc cw ops [o] tm H (λtm H=>k (Nat.lor d (2 ^ (j+i))) tm H)
 |[],j,h,i,o,ho,hr=>by cases ho
 |x::l,j,h,i,o,ho,hr=>by
  replace h:(match ZpQ an d j with
   |true=>ZfA P gl orc cw ops [x] tm H (λtm H=>Za3 (Nat.lor d (2 ^ j)) λd=>k d tm H)/\ZgQ P gl orc cw ops an d tm H k l (j+1)
   |false=>ZgQ P gl orc cw ops an d tm H k l (j+1)):=h
  cases i with
  |zero =>
   simp only[Y0A,Option.some.injEq]at ho
   subst ho
   rw[Nat.add_zero]at hr⊢
   rw[hr]at h
   simp only[Z3H]at h
   exact h.1
  |succ i =>
   have h2:ZgQ P gl orc cw ops an d tm H k l (j+1):=by
    split at h
    ·exact h.2
    ·exact h
   have:=Zfm h2 i o (by simpa using ho) (by rw[show j+1+i=j+(i+1) from by omega];exact hr)
   rw[show j+1+i=j+(i+1) from by omega]at this
   exact this
theorem ZgB{ops:Array Oper}(hb:∀i o,ops[i]? = some o->∀e∈o.after,Region.binds .any e=true->e.on<i){listed:Array Bool}(hls:listed.size=ops.size)(hr:Region.ready .any ops listed=[]):∀i,i<ops.size->listed.getD i false=true:=by
 intro i
 induction i using Nat.strongRecOn with
 |_ i ih =>
  intro hi
  cases hq:listed.getD i false with
  |true=>rfl
  |false =>
   exfalso
   have hq':listed.getD i true=false:=by
    have hl:i<listed.size:=by omega
    simp[Array.getD,hl]at hq⊢;exact hq
   have hx:ops[i]? = some ops[i]:=Y0C hi
   have:i∈Region.ready .any ops listed:=by
    rw[mem_ready]
    exact⟨hq',ops[i],hx,λe he hbi=>ih e.on (hb i _ hx e he hbi) (Nat.lt_trans (hb i _ hx e he hbi) hi)⟩
   rw[hr]at this;cases this
theorem Z8x{ops:Array Oper}{listed:Array Bool}{i:Nat}(h:i∈Region.ready .any ops listed):i<ops.size:=by
 rw[mem_ready]at h
 obtain⟨_,o,ho,_⟩:=h
 exact (Y0l.1 ho).1
theorem Zla (hn : NoNum P) (hO : OrcSoundX X P gl orc) (hcw : Z5O P orc cw) {ops : Array Oper} (hbo : Z55 (Z2W ops.toList []) 0 = true) {k : Tr -> Z00 -> Prop} {Q : Exit -> Act -> World -> Prop} : ∀ (f d : Nat) (listed : Array Bool) (tm : Tr) (H : Z00) (a : Act) (W : World) (sn : Z0o) (ι : Z0n),
  Znx P gl orc cw ops.toList (Z2W ops.toList []) k f d tm H->listed.size=ops.size->(∀i,i<ops.size->listed.getD i false=bit d i)->Z4x ops.toList (λi=>listed.getD i false)->GlOK gl sn->R sn ι H W->TRel sn ι tm a ->
  (∀tm' H' a' W' sn' ι',k tm' H'->Stp sn ι H W sn' ι' H' W'->TRel sn' ι' tm' a'->a'.defers=a.defers->Q .normal a' W')->(∀a' ch W',a'.defers=a.defers->PanR X sn ι H W ch W'->Q (.panic ch) a' W')->wpAnyIn (Fq rd) 0 P .any ops Q f listed a W:=by
 have hb:∀i o,ops[i]? = some o->∀e∈o.after,Region.binds .any e=true->e.on<i:=by
  intro i o ho e he hbi
  have hi:i<ops.toList.length:=by have:=(Y0l.1 ho).1;simpa using this
  have h1:=Z7E (ops:=ops.toList) (i:=i) (by rw[Y0i];exact ho) (Y0f.2 he) hbi
  have h2:=Z1I _ 0 i hbo (by rw[Z2z];exact hi)
  rw[Y0h]at h2
  exact ZaM h2 h1
 intro f
 induction f with
 |zero =>
  intro d listed tm H a W sn ι h hls hd hcl hg hR ht hQ hP
  replace h:(match Za2 d ops.toList.length with|true=>k tm H|false=>False):=h
  split at h
  · rename_i hf
    have hall:=Z7r hf
    refine⟨?_,hQ tm H a W sn ι h (Stp.refl hR) ht rfl⟩
    rw[Y0D]
    intro i hi
    have hlt:=Z8x hi
    rw[mem_ready]at hi
    have h2:=hall i (by simpa using hlt)
    rw[<- hd i hlt]at h2
    have hl:i<listed.size:=by omega
    have h1:=hi.1
    simp[Array.getD,hl]at h1 h2
    rw[h1]at h2;cases h2
  ·exact h.elim
 |succ f ih =>
  intro d listed tm H a W sn ι h hls hd hcl hg hR ht hQ hP
  replace h:(match Za2 d ops.toList.length with|true=>False|false=>ZgQ P gl orc cw ops.toList (Z2W ops.toList []) d tm H (Znx P gl orc cw ops.toList (Z2W ops.toList []) k f) ops.toList 0):=h
  split at h
  ·exact h.elim
  rename_i hf
  obtain⟨i0,hi0,hn0⟩:=Zd7 hf
  replace hi0:i0<ops.size:=by simpa using hi0
  refine⟨λhr=>?_,λi hi=>?_⟩
  · exfalso
    have:=ZgB hb hls hr i0 hi0
    rw[hd i0 hi0,hn0]at this;cases this
  · have hlt:=Z8x hi
    obtain⟨h1,o,ho,hpre⟩:=mem_ready.1 hi
    have hol:ops.toList[i]? = some o:=by rw[Y0i];exact ho
    have hl:i<listed.size:=by omega
    have hif:bit d i=false:=by rw[<- hd i hlt];simp[Array.getD,hl]at h1⊢;exact h1
    have hanc:∀j,bit ((Z2W ops.toList []).getD i 0) j=true->bit d j=true:=λj hj=>by
     have h3:=Z23 hcl i j o hol (λe he hbi=>hpre e (Y0f.1 he) hbi) hj
     have h4:=Z1I _ 0 i hbo (by rw[Z2z];simpa using hlt)
     rw[Y0h]at h4
     have h5:=ZaM h4 hj
     rw[<- hd j (by omega)];exact h3
    have hrd:ZpQ (Z2W ops.toList []) d (0+i)=true:=by
     rw[Y0h]
     unfold ZpQ
     rw[hif]
     have:Nat.lor d ((Z2W ops.toList []).getD i 0)=d:=by
      refine Nat.eq_of_testBit_eq λj=>?_
      have h6:=Z7B d ((Z2W ops.toList []).getD i 0) j
      rw[Z3z,Z3z,Z3z]at h6
      rw[h6]
      cases hq:Nat.testBit ((Z2W ops.toList []).getD i 0) j with
      |false=>simp
      |true =>
       have:=hanc j (by rw[Z3z];exact hq)
       rw[Z3z]at this
       simp[this]
     rw[this];simp
    have hs:=Zfm h i o hol hrd
    obtain⟨tm1,H1,e1,hk⟩:=Z4K P gl orc cw hcw hs
    rw[Y0h]at hk
    refine ZnY hn hO ho e1 hg hR ht (λa1 W1 sn1 ι1 s1 t1 d1=>?_) hP
    refine ih (Nat.lor d (2 ^ i)) (listed.setIfInBounds i true) tm1 H1 a1 W1 sn1 ι1 hk (by simpa using hls) (λj hj=>?_) ?_ (hg.mono (Z38 s1.le.sn)) s1.rel t1 (λtm' H' a' W' sn' ι' hkk s2 t2 d2=>hQ tm' H' a' W' sn' ι' hkk (s1.trans hR s2) t2 (d2.trans d1)) λa' ch W' hd' p=>hP a' ch W' (hd'.trans d1) (p.back hR s1)
    · rw[Z5C]
      by_cases hji:j=i
      ·subst hji;simp[hl]
      ·rw[getD_set_ne false (Ne.symm hji),hd j hj,Z86 hji];simp
    · have hD' : ∀ j, (listed.setIfInBounds i true).getD j false = (listed.getD j false || Y01 j i) := by
       intro j
       by_cases hji:j=i
       ·subst hji;simp[hl]
       ·rw[getD_set_ne false (Ne.symm hji),Z86 hji];simp
      intro j o' ho' hk' e he hbi
      show (listed.setIfInBounds i true).getD e.on false=true
      have hk':(listed.setIfInBounds i true).getD j false=true:=hk'
      rw[hD']at hk' ⊢
      simp only[Y0o]at hk' ⊢
      rcases hk' with hk'|hk'
      ·exact .inl (hcl j o' ho' hk' e he hbi)
      · have:=Y0m hk';subst this
        rw[hol]at ho';simp at ho';subst ho'
        exact .inl (hpre e (Y0f.1 he) hbi)
theorem Zkr {F : Fence} {n : Nat} {ops ops' : Array Oper} {m : Nat} {K : Act -> World -> Prop} {Q : Exit -> Act -> World -> Prop} (hpre : ∀ i, i < m -> ops'[i]? = ops[i]?) (hsz' : ops'.size = m) (hle : m <= ops.size) (hg : ∀ (i : Nat) (o : Oper), ops[i]? = some o -> o.guard = none)
  (hb:∀i o,ops[i]? = some o->∀e∈o.after,Region.binds .any e=true->e.on<i)
  (hlate:∀D:Nat->Bool,Z4x ops.toList D->∀i o,m<=i->ops[i]? = some o->(∀e∈o.after.toList,Region.binds .any e=true->D e.on=true)->∀j,j<m->D j=true)
  (hK:∀a w,K a w->∀listed:Array Bool,listed.size=ops.size->(∀i,i<m->listed.getD i false=true)->(∀i,m<=i->listed.getD i false=false)->Z4x ops.toList (λi=>listed.getD i false)->wpAnyIn F n P .any ops Q (ops.size-m) listed a w) :
  ∀(f:Nat)(listed' listed:Array Bool)(a:Act)(w:World),listed'.size=m->listed.size=ops.size->(∀i,i<m->listed.getD i false=listed'.getD i false)->(∀i,m<=i->listed.getD i false=false)->Z4x ops.toList (λi=>listed.getD i false) ->
   m=f+(listed'.toList.filter id).length->wpAnyIn F n P .any ops' (ZcR K Q) f listed' a w->wpAnyIn F n P .any ops Q (f+(ops.size-m)) listed a w:=by
 have full:∀listed':Array Bool,listed'.size=m->m=(listed'.toList.filter id).length->∀i,i<m->listed'.getD i false=true:=by
  intro listed' hs hc i hi
  have hlen:(listed'.toList.filter id).length=listed'.toList.length:=by rw[<- hc];simpa using hs.symm
  have:=Y0E.1 hlen
  have hl:i<listed'.size:=by omega
  have h1:=this listed'[i] (by simp)
  simp[Array.getD,hl];simpa using h1
 have notfull:∀listed':Array Bool,listed'.size=m->(∀i,i<m->listed'.getD i false=true)->m=(listed'.toList.filter id).length:=by
  intro listed' hs h
  have:(listed'.toList.filter id).length=listed'.toList.length:=by
   refine Y0E.2 λx hx=>?_
   obtain⟨i,hi,rfl⟩:=List.mem_iff_getElem.1 hx
   have hi':i<listed'.size:=by simpa using hi
   have:=h i (by omega)
   simp[Array.getD,hi']at this
   simpa using this
  rw[this];simpa using hs.symm
 intro f
 induction f with
 |zero =>
  intro listed' listed a w hs' hs h1 h2 hcl hc h
  rw[Y0h]at hc⊢
  exact hK a w h.2 listed hs (λi hi=>by rw[h1 i hi];exact full listed' hs' hc i hi) h2 hcl
 |succ f ih =>
  intro listed' listed a w hs' hs h1 h2 hcl hc h
  rw[show f+1+(ops.size-m)=f+(ops.size-m)+1 from by omega]
  have hb':∀i o,ops'[i]? = some o->∀e∈o.after,Region.binds .any e=true->e.on<i:=λi o ho=>hb i o (by rw[<- hpre i (by have:=(Y0l.1 ho).1;omega)];exact ho)
  have up:∀i,i∈Region.ready .any ops' listed'->i∈Region.ready .any ops listed:=by
   intro i hi
   have hlt:=Z8x hi
   obtain⟨k1,o,ho,hp⟩:=mem_ready.1 hi
   refine mem_ready.2 ⟨?_,o,by rw[<- hpre i (by omega)];exact ho,λe he hbi=>?_⟩
   · have k2 : listed'.getD i false = false := by
      have hl:i<listed'.size:=by omega
      simp[Array.getD,hl]at k1⊢;exact k1
     rw[<- h1 i (by omega)]at k2
     have hl:i<listed.size:=by omega
     simp[Array.getD,hl]at k2⊢;exact k2
   ·rw[h1 e.on (by have:=hb' i o ho e he hbi;omega)];exact hp e he hbi
  refine⟨λhr=>?_,λi hi=>?_⟩
  · exfalso
    have hr':Region.ready .any ops' listed'=[]:=by
     rw[Y0D]
     intro i hi
     have:=up i hi
     rw[hr]at this;cases this
    have:=notfull listed' hs' λi hi=>ZgB hb' (hs'.trans hsz'.symm) hr' i (by omega)
    omega
  · have hlt:=Z8x hi
    obtain⟨k1,o,ho,hp⟩:=mem_ready.1 hi
    have him:i<m:=by
     refine Classical.byContradiction λhge=>?_
     have h3:=hlate _ hcl i o (by omega) ho (λe he hbi=>hp e (Y0f.1 he) hbi)
     have:=notfull listed' hs' λj hj=>by rw[<- h1 j hj];exact h3 j hj
     omega
    have ho':ops'[i]? = some o:=by rw[hpre i him];exact ho
    have hf':listed'.getD i false=false:=by
     rw[<- h1 i him]
     have hl:i<listed.size:=by omega
     simp[Array.getD,hl]at k1⊢;exact k1
    have hi':i∈Region.ready .any ops' listed':=by
     refine mem_ready.2 ⟨?_,o,ho',λe he hbi=>?_⟩
     · have hl:i<listed'.size:=by omega
       simp[Array.getD,hl]at hf' ⊢;exact hf'
     · have:=hp e he hbi
       rw[h1 e.on (by have:=hb i o ho e he hbi;omega)]at this
       exact this
    have hw:=h.2 i hi'
    have hcnt:m=f+((listed'.setIfInBounds i true).toList.filter id).length:=by
     rw[Array.toList_setIfInBounds]
     have hl:i<listed'.size:=by omega
     have hli:listed'.toList[i]? = some false:=by
      rw[Y0i,Y0C hl]
      simp[Array.getD,hl]at hf';rw[hf']
     have:=Z7v _ _ hli
     omega
    have hset:∀(l:Array Bool)(j:Nat),i<l.size->(l.setIfInBounds i true).getD j false=(l.getD j false || Y01 j i):=by
     intro l j hl
     by_cases hji:j=i
     ·subst hji;simp[hl]
     ·rw[getD_set_ne false (Ne.symm hji),Z86 hji];simp
    have hnext:=λa w=>ih (listed'.setIfInBounds i true) (listed.setIfInBounds i true) a w (by simpa using hs') (by simpa using hs) (λj hj=>by rw[hset _ _ (by omega),hset _ _ (by omega),h1 j hj]) (λj hj=>by
     rw[hset _ _ (by omega),h2 j hj,Z86 (by omega)];rfl) (λj o' hj hk' e he hbi=>by
     show (listed.setIfInBounds i true).getD e.on false=true
     have hk':(listed.setIfInBounds i true).getD j false=true:=hk'
     rw[hset _ _ (by omega)]at hk' ⊢
     simp only[Y0o]at hk' ⊢
     rcases hk' with hk'|hk'
     ·exact .inl (hcl j o' hj hk' e he hbi)
     · have:=Y0m hk';subst this
       rw[Y0i,ho]at hj
       simp at hj;subst hj
       exact .inl (hp e (Y0f.1 he) hbi)) hcnt
    have hwant:∀(os:Array Oper),Region.wanted o (yielded os a.tmps)=true:=λos=>by simp[Region.wanted,hg i o ho]
    unfold wpOpIn at hw⊢
    simp only[ho',ho,hwant,if_true]at hw⊢
    exact Oper.wpIn_mono hnext (Z8O hw)
def ZmF(an:List Nat)(b:Nat):List Oper->Nat->Bool
 |[],_=>true
 |_::l,i=>bit (an.getD i 0) b&&ZmF an b l (i+1)
theorem ZaO{an:List Nat}{b:Nat}:∀{l:List Oper}{i:Nat},ZmF an b l i=true->∀k,k<l.length->bit (an.getD (i+k) 0) b=true
 |[],i,h,k,hk=>absurd hk (Nat.not_lt_zero k)
 |x::l,i,h,k,hk=>by
  simp only[ZmF,Y03]at h
  cases k with
  |zero=>exact h.1
  |succ k =>
   have:=ZaO h.2 k (by simpa using hk)
   rwa [show i+1+k=i+(k+1) from by omega]at this
def Zs0(ops:List Oper)(an:List Nat)(m:Nat):Bool :=
 Z55 an 0&&(Nat.blt 0 m&&(Nat.ble m ops.length&&(ops.all (λo=>match o.guard with|none=>true|some _=>false)&&(Za2 (Nat.lor (an.getD (m-1) 0) (2 ^ (m-1))) m&&ZmF an (m-1) (ops.drop m) m))))
noncomputable def Zfv(P:Program)(gl:Z0k)(orc:Orc)(cw:CW)(m:Nat)(ops:List Oper)(tm:Tr)(H:Z00)(k:Tr->Z00->Prop):Prop :=
 frcNL (Z2W ops []) λan=>match Zs0 ops an m with
 |true=>Zdo P gl orc cw (ops.take m) tm H λtm H=>Znx P gl orc cw ops an k (ops.length-m) (2 ^ m-1) tm H
 |false=>False
theorem Zib {cw : CW} (hm : P.follows .mixedOrders = true) (hn : NoNum P) (hO : OrcSoundX X P gl orc) (hcw : Z5O P orc cw) {m : Nat} {ops : Array Oper} {tm : Tr} {H : Z00} {k : Tr -> Z00 -> Prop} (h : Zfv P gl orc cw m ops.toList tm H k) {sn : Z0o} {ι : Z0n} {W : World} {a : Act} (hg : GlOK gl sn) (hR : R sn ι H W) (ht : TRel sn ι tm a)
  {Q:Exit->Act->World->Prop} (hQ:∀tm' H' a' W' sn' ι',k tm' H'->Stp sn ι H W sn' ι' H' W'->TRel sn' ι' tm' a'->a'.defers=a.defers->Q .normal a' W') (hP:∀a' ch W',a'.defers=a.defers->PanR X sn ι H W ch W'->Q (.panic ch) a' W') (id:Nat) :
  (Code.region id ops true).wpIn (Fq rd) 0 P Q a W:=by
 unfold Zfv at h
 rw[Z8F]at h
 split at h
 rotate_left
 ·exact h.elim
 rename_i hc
 obtain⟨tm1,H1,e1,hk⟩:=Z8J P gl orc cw hcw h
 unfold Zs0 at hc
 simp only[Y03]at hc
 obtain⟨c1,c2,c3,c4,c5,c6⟩:=hc
 have c2:0<m:=Y0B Nat.zero_lt_one (by simpa[Nat.blt]using c2)
 have c3:m<=ops.size:=by have:=Nat.le_of_ble_eq_true c3;simpa using this
 have hb:∀i o,ops[i]? = some o->∀e∈o.after,Region.binds .any e=true->e.on<i:=by
  intro i o ho e he hbi
  have hi:i<ops.toList.length:=by have:=(Y0l.1 ho).1;simpa using this
  have h1:=Z7E (ops:=ops.toList) (i:=i) (by rw[Y0i];exact ho) (Y0f.2 he) hbi
  have h2:=Z1I _ 0 i c1 (by rw[Z2z];exact hi)
  rw[Y0h]at h2
  exact ZaM h2 h1
 have hgd:∀(i:Nat)(o:Oper),ops[i]? = some o->o.guard=none:=by
  intro i o ho
  have:=Y0y.1 c4 o (by rw[Y0f];exact Array.mem_of_getElem? ho)
  cases hgu:o.guard with
  |none=>rfl
  |some x=>rw[hgu]at this;cases this
 have hlate:∀D:Nat->Bool,Z4x ops.toList D->∀i o,m<=i->ops[i]? = some o->(∀e∈o.after.toList,Region.binds .any e=true->D e.on=true)->∀j,j<m->D j=true:=by
  intro D hD i o hmi ho hd j hj
  have hi:i<ops.size:=(Y0l.1 ho).1
  have h1:=ZaO c6 (i-m) (by simp;omega)
  rw[show m+(i-m)=i from by omega]at h1
  have h2:=Z23 hD i (m-1) o (by rw[Y0i];exact ho) hd h1
  by_cases hjm:j=m-1
  ·rw[hjm];exact h2
  · have h3:=Z7r c5 j hj
    rw[Z7B,ZbZ]at h3
    have h4:bit ((Z2W ops.toList []).getD (m-1) 0) j=true:=by
     simp only[Y0o,decide_eq_true_eq]at h3
     rcases h3 with h3|h3
     ·exact h3
     ·omega
    have hx:ops.toList[m-1]? = some ops[m-1]:=by rw[Y0i];exact Y0C (by omega)
    exact Z23 hD (m-1) j _ hx (λe he hbi=>hD (m-1) _ hx h2 e he hbi) h4
 have hst0:=Stp.ext hR (Ext.drew W)
 have hR0:=hst0.rel
 have hrep:∀(n i:Nat),(Array.replicate n false).getD i false=false:=λn i=>by
  by_cases hi:i<n<;>simp[Array.getD,hi]
 have hsz':(ops.toList.take m).toArray.size=m:=by simp;omega
 have hdraw:=ZaQ (rd:=rd) (ops:=(ops.toList.take m).toArray) hn hO hg hR ht (tm':=tm1) (H':=H1) (by simpa using e1)
  (Q:=ZcR (λa w=>∀listed:Array Bool,listed.size=ops.size->(∀i,i<m->listed.getD i false=true)->(∀i,m<=i->listed.getD i false=false)->Z4x ops.toList (λi=>listed.getD i false)->wpAnyIn (Fq rd) 0 P .any ops Q (ops.size-m) listed a w) Q)
  (fun a' W' sn' ι' s1 t1 d1 => by
    intro listed l1 l2 l3 l4
    refine Zla hn hO hcw c1 (ops.size-m) (2 ^ m-1) listed tm1 H1 a' W' sn' ι' (by simpa using hk) l1 (λi hi=>?_) l4 (hg.mono (Z38 s1.le.sn)) s1.rel t1 (λtm' H' a2 W2 sn2 ι2 hkk s2 t2 d2=>hQ tm' H' a2 W2 sn2 ι2 hkk (s1.trans hR s2) t2 (d2.trans d1)) λa2 ch W2 hd' p=>hP a2 ch W2 (hd'.trans d1) (p.back hR s1)
    rw[Zgw (i:=m) (by have:=Nat.one_le_two_pow (n:=m);omega)]
    by_cases him:i<m
    ·rw[l2 i him];simp[him]
    ·rw[l3 i (by omega)];simp[him]) hP
 have := Zkr (F := Fq rd) (n := 0) (P := P) (ops := ops) (ops' := (ops.toList.take m).toArray) (m := m) (Q := Q) (fun i hi => by
   rw[List.getElem?_toArray,List.getElem?_take_of_lt hi,Y0i]) hsz' c3 hgd hb hlate (K:=λa w=>∀listed:Array Bool,listed.size=ops.size->(∀i,i<m->listed.getD i false=true)->(∀i,m<=i->listed.getD i false=false)->Z4x ops.toList (λi=>listed.getD i false)->wpAnyIn (Fq rd) 0 P .any ops Q (ops.size-m) listed a w)
  (λa w h=>h) m (Array.replicate (ops.toList.take m).toArray.size false) (Array.replicate ops.size false) a W.drew (by rw[hsz'];simp) (by simp) (λi _=>by rw[hrep,hrep]) (λi _=>hrep _ i) (λi o _ hi=>by
   have h2:=(hrep ops.size i).symm.trans hi;cases h2) (by rw[hsz'];simp) (by rw[hsz']at hdraw⊢;exact hdraw)
 rw[show m+(ops.size-m)=ops.size from by omega]at this
 exact wpIn_region_any hm this
end
end Go.Abs
end
section
namespace Go.Abs
open Go.RowKit
theorem PanR.backQ{X:AV->Prop}{k:Nat}{sn sn1:Z0o}{ι ι1:Z0n}{H H1:Z00}{W W1 W':World}{ch:List PanicEntry}(h:Stq k sn ι H W sn1 ι1 H1 W1)(p:PanR X sn1 ι1 H1 W1 ch W'):PanR X sn ι H W ch W':=by
 obtain⟨u,v,h1,h2,h3,h4,h5,h6,h7,h8⟩:=p
 refine⟨u,v,h1,h2,h3,λc hc hno=>?_,Y07 h.size h5,h6.trans h.os,h7.trans h.tape,h8.trans h.output⟩
 rw[h4 c (Y0B hc h.size) λb o p hb ha hp e=>?_,h.frame c hc hno]
 rcases h.fresh b o p hb ha hp with g|⟨b0,o0,p0,g1,g2,g3,g4⟩
 ·omega
 ·exact hno b0 o0 p0 g1 g2 g3 (g4.trans e)
theorem PanR.less{X Y:AV->Prop}{sn:Z0o}{ι : Z0n}{H:Z00}{W W':World}{ch:List PanicEntry}(h:∀u,X u->Y u)(p:PanR X sn ι H W ch W'):PanR Y sn ι H W ch W':=by
 obtain⟨u,v,h1,h2⟩:=p
 exact⟨u,v,h _ h1,h2⟩
def Zr0:ABody->Bool
 | .cells (.rs n z cs::_) _=>Y01 z 1&&(Y01 n 1&&(match cs with|[]=>true|_=>false))
 |_=>false
def Z8l:Z00->Bool
 |[]=>false
 |⟨al,_,_,b⟩::l=>(al&&Zr0 b) || Z8l l
theorem Z3w{sn:Z0o}{ι : Z0n}{H:Z00}{W:World}(hR:R sn ι H W)(h:Z8l H=true):False:=by
 have key:∀(l:Z00),Z8l l=true->∃ (b:Nat) (o:AObj),l[b]? = some o/\o.alive=true/\Zr0 o.body=true:=by
  intro l
  induction l with
  |nil=>intro h;cases h
  |cons o l ih =>
   intro h
   obtain⟨al,f,s,b⟩:=o
   simp only[Z8l,Y0o,Y03]at h
   rcases h with h|h
   ·exact⟨0,_,rfl,h.1,h.2⟩
   · obtain⟨b,o,h1,h2⟩:=ih h
     exact⟨b+1,o,by simpa using h1,h2⟩
 obtain⟨b,o,h1,h2,h3⟩:=key H h
 obtain⟨p,hp⟩:=hR.place h1
 have ho:=hR.obj b o p h1 h2 hp
 unfold Zr0 at h3
 split at h3
 · rename_i n z cs l ty e
   simp only[Y03]at h3
   obtain⟨e1,e2,e3⟩:=h3
   have e1:=Y0m e1
   have e2:=Y0m e2
   subst e1 e2
   split at e3
   · rw[e]at ho
     simp only[OR]at ho
     obtain⟨arr,k1,k2,k3,k4⟩:=ho
     obtain⟨v,g1,g2⟩:=k4 0 _ rfl
     exact Zmw g2
   ·cases e3
 ·cases h3
def dK(H:Z00)(p:Prop):Prop:=Z8l H=true\/p
def TriX(X:AV->Prop)(P:Program)(gl:Z0k)(rd:Option Nat)(k:Nat)(c:Code)(tm:Tr)(H:Z00)(Φ : AEx->Tr->Z00->Prop):Prop :=
 ∀(a:Act)(W:World)(sn:Z0o)(ι : Z0n)(Q:Exit->Act->World->Prop),GlOK gl sn->R sn ι H W->TRel sn ι tm a ->
  (∀x tm' H' a' W' sn' ι',Φ x tm' H'->Stq k sn ι H W sn' ι' H' W'->TRel sn' ι' tm' a'->a'.defers=a.defers->Q (Zpy x) a' W') ->
  (∀a' ch W',a'.defers=a.defers->PanR X sn ι H W ch W'->Q (.panic ch) a' W')->c.wpIn (Fq rd) 0 P Q a W
noncomputable def Z3k(P:Program)(gl:Z0k)(orc:Orc)(cw:CW)(sp:Nat->Nat->Option Nat)(k:Nat)(c:Code):KN->KX->KN->Tr->Z00->Prop :=
 Code.rec (motive:=λ_=>KN->KX->KN->Tr->Z00->Prop)
  (λkn _ _ tm H=>kn tm H)
  (fun id ops draw kn _ _ tm H => match draw with
    |true=>match sp id ops.size with
     |some m=>Zfv P gl orc cw m ops.toList tm H λtm H=>dK H (kn tm H)
     |none=>Zdo P gl orc cw ops.toList tm H λtm H=>dK H (kn tm H)
    |false=>ZfA P gl orc cw ops.toList ops.toList tm H λtm H=>dK H (kn tm H))
  (λ_ _ iha ihb kn kx kr tm H=>iha (λtm H=>ihb kn kx kr tm H) kx kr tm H)
  (fun c _ _ iha ihb kn kx kr tm H => onO (Z3f gl tm c) fun v => match v with
    | .bool t=>(t=true->iha kn kx kr tm H)/\(t=false->ihb kn kx kr tm H)
    |_=>False)
  (λid _ ih kn kx kr tm H=>ih kn (λid' tm H=>match Y01 id' id with|true=>kn tm H|false=>kx id' tm H) kr tm H)
  (λ_ ih _ kx kr tm H=>Z5J k (λkn tm H=>ih kn kx kr tm H) tm H)
  (λ_ _ _ _ _ _ _ _ _ _ _=>False)
  (λid _ kx _ tm H=>kx id tm H)
  (λ_ _ _ _ _ _ _=>False)
  (λ_ _ _ _ _ _=>False)
  (λ_ _ _ _ _ _=>False)
  (λ_ _ kr tm H=>kr tm H)
  (λ_ _ _ _ _ _=>False) c
section code
variable {X:AV->Prop} {P:Program} {gl:Z0k} {orc:Orc} {k:Nat} {rd:Option Nat}
theorem TriX.mono{c:Code}{tm:Tr}{H:Z00}{Φ Ψ : AEx->Tr->Z00->Prop}(h:TriX X P gl rd k c tm H Φ)(hk:∀x tm' H',Φ x tm' H' -> Ψ x tm' H'):TriX X P gl rd k c tm H Ψ :=
 λa W sn ι Q hg hR ht hQ hP=>h a W sn ι Q hg hR ht (λx tm' H' a' W' sn' ι' hx=>hQ x tm' H' a' W' sn' ι' (hk _ _ _ hx)) hP
theorem TriX.seq{c d:Code}{tm:Tr}{H:Z00}{Φ : AEx->Tr->Z00->Prop}(h:TriX X P gl rd k c tm H λx tm1 H1=>match x with | .normal=>TriX X P gl rd k d tm1 H1 Φ | x=>Φ x tm1 H1):TriX X P gl rd k (.seq c d) tm H Φ:=by
 intro a W sn ι Q hg hR ht hQ hP
 refine wpIn_seq (h a W sn ι _ hg hR ht (λx tm1 H1 a1 W1 sn1 ι1 hx s1 t1 d1=>?_) hP)
 cases x with
 |normal =>
  show Code.wpIn (Fq rd) 0 P d Q a1 W1
  refine hx a1 W1 sn1 ι1 Q (hg.mono (Z38 s1.le)) s1.rel t1 (λx tm2 H2 a2 W2 sn2 ι2 hx2 s2 t2 d2=>?_) λa' ch W' hd p=>hP a' ch W' (hd.trans d1) (p.backQ s1)
  exact hQ _ _ _ _ _ _ _ hx2 (s1.trans s2) t2 (d2.trans d1)
 |exit id=>exact hQ (.exit id) tm1 H1 _ _ _ _ hx s1 t1 d1
 |ret=>exact hQ .ret tm1 H1 _ _ _ _ hx s1 t1 d1
theorem TriX.forget{c:Code}{tm:Tr}{H:Z00}{Φ : AEx->Tr->Z00->Prop}{tm2:Tr}{H2:Z00}(hf:FgS k tm H tm2 H2)(h:TriX X P gl rd k c tm2 H2 Φ):TriX X P gl rd k c tm H Φ:=by
 intro a W sn ι Q hg hR ht hQ hP
 obtain⟨sn1,ι1,s1,t1⟩:=hf sn ι W a hR ht
 exact h a W sn1 ι1 Q (hg.mono (Z38 s1.le)) s1.rel t1 (λx tm' H' a' W' sn' ι' hx s2 t2 d2=>hQ x tm' H' a' W' sn' ι' hx (s1.trans s2) t2 d2) λa' ch W' hd p=>hP a' ch W' hd (p.backQ s1)
theorem TriX.loop {b : Code} {S : Type} {I : S -> Prop} {T : S -> Tr} {B : S -> Z00} {μ : S -> Nat} {Φ : AEx -> Tr -> Z00 -> Prop}
  (h:∀s,I s->TriX X P gl rd k b (T s) (B s) λx tm' H'=>match x with | .normal=>∃s',I s' /\ μ s'<μ s/\FgS k tm' H' (T s') (B s')|x=>Φ x tm' H') {s:S} (h0:I s):TriX X P gl rd k (.loop b) (T s) (B s) Φ:=by
 have key : ∀ (n : Nat) (s : S), μ s < n -> I s -> ∀ (a : Act) (W : World) (sn : Z0o) (ι : Z0n) (Q : Exit -> Act -> World -> Prop), GlOK gl sn -> R sn ι (B s) W -> TRel sn ι (T s) a ->
   (∀x tm' H' a' W' sn' ι',Φ x tm' H'->Stq k sn ι (B s) W sn' ι' H' W'->TRel sn' ι' tm' a'->a'.defers=a.defers->Q (Zpy x) a' W')->(∀a' ch W',a'.defers=a.defers->PanR X sn ι (B s) W ch W'->Q (.panic ch) a' W')->Code.roundsIn (Fq rd) 0 P b Q n a W:=by
  intro n
  induction n with
  |zero=>intro s hs;omega
  |succ n ih =>
   intro s hs hI a W sn ι Q hg hR ht hQ hP
   rw[roundsIn_succ]
   refine h s hI a W sn ι _ hg hR ht (λx tm1 H1 a1 W1 sn1 ι1 hx s1 t1 d1=>?_) hP
   cases x with
   |normal =>
    show Code.roundsIn (Fq rd) 0 P b Q n a1 W1
    obtain⟨s',hI',hs',hf⟩:=hx
    obtain⟨sn2,ι2,s2,t2⟩:=hf sn1 ι1 W1 a1 s1.rel t1
    refine ih s' (by omega) hI' a1 W1 sn2 ι2 Q ((hg.mono (Z38 s1.le)).mono (Z38 s2.le)) s2.rel t2 (λx tm3 H3 a3 W3 sn3 ι3 hx3 s3 t3 d3=>?_) λa' ch W' hd p=>hP a' ch W' (hd.trans d1) ((p.backQ s2).backQ s1)
    exact hQ _ _ _ _ _ _ _ hx3 ((s1.trans s2).trans s3) t3 (d3.trans d1)
   |exit id=>exact hQ (.exit id) tm1 H1 _ _ _ _ hx s1 t1 d1
   |ret=>exact hQ .ret tm1 H1 _ _ _ _ hx s1 t1 d1
 intro a W sn ι Q hg hR ht hQ hP
 exact wpIn_loop_rounds (μ s+1) (key (μ s+1) s (by omega) h0 a W sn ι Q hg hR ht hQ hP)
theorem Z2I (hm : P.follows .mixedOrders = true) (hn : NoNum P) (hO : OrcSoundX X P gl orc) {cw : CW} (hcw : Z5O P orc cw) {sp : Nat -> Nat -> Option Nat} : ∀ (c : Code) {kn : Tr -> Z00 -> Prop} {kx : Nat -> Tr -> Z00 -> Prop} {kr : Tr -> Z00 -> Prop} {tm : Tr} {H : Z00},
  Z3k P gl orc cw sp k c kn kx kr tm H->TriX X P gl rd k c tm H (Zpx kn kx kr)
 | .skip,kn,kx,kr,tm,H,h=>λa W sn ι Q hg hR ht hQ hP=>by
  exact wpIn_skip (hQ .normal tm H a W sn ι h (Stq.refl hR) ht rfl)
 | .region id ops draw,kn,kx,kr,tm,H,h=>λa W sn ι Q hg hR ht hQ hP=>by
  cases draw with
  |true =>
   replace h:(match sp id ops.size with
    |some m=>Zfv P gl orc cw m ops.toList tm H (λtm H=>dK H (kn tm H))
    |none=>Zdo P gl orc cw ops.toList tm H (λtm H=>dK H (kn tm H))):=h
   split at h
   · refine Zib hm hn hO hcw h hg hR ht (λtm' H' a' W' sn' ι' h s1 t1 d1=>?_) hP id
     rcases h with h|h
     ·exact (Z3w s1.rel h).elim
     ·exact hQ .normal tm' H' a' W' sn' ι' h (s1.q hR) t1 d1
   · obtain⟨tm',H',h1,h⟩:=Z8J P gl orc cw hcw h
     refine Z59 hm hn hO hg hR ht h1 (λa' W' sn' ι' s1 t1 d1=>?_) hP id
     rcases h with h|h
     ·exact (Z3w s1.rel h).elim
     ·exact hQ .normal tm' H' a' W' sn' ι' h (s1.q hR) t1 d1
  |false =>
   replace h:ZfA P gl orc cw ops.toList ops.toList tm H (λtm H=>dK H (kn tm H)):=h
   obtain⟨tm',H',h1,h⟩:=Z4K P gl orc cw hcw h
   refine wpIn_region_list (Z2y hn hO ops _ _ _ _ _ _ _ _ _ h1 hg hR ht (λa' W' sn' ι' s1 t1 d1=>?_) hP)
   rcases h with h|h
   ·exact (Z3w s1.rel h).elim
   ·exact hQ .normal tm' H' a' W' sn' ι' h (s1.q hR) t1 d1
 | .seq c d,kn,kx,kr,tm,H,h=>by
  replace h:Z3k P gl orc cw sp k c (λtm H=>Z3k P gl orc cw sp k d kn kx kr tm H) kx kr tm H:=h
  refine TriX.seq ((Z2I hm hn hO hcw c h).mono λx tm1 H1 hx=>?_)
  cases x with
  |normal=>exact Z2I hm hn hO hcw d hx
  |exit id=>exact hx
  |ret=>exact hx
 | .cond e c d,kn,kx,kr,tm,H,h=>λa W sn ι Q hg hR ht hQ hP=>by
  replace h:(onO (Z3f gl tm e) λv=>match v with
   | .bool t=>(t=true->Z3k P gl orc cw sp k c kn kx kr tm H)/\(t=false->Z3k P gl orc cw sp k d kn kx kr tm H)
   |_=>False):=h
  obtain⟨v,hv,h⟩:=Z04 h
  split at h
  · rename_i t
    have he:=(Z1e hg ht _ _ hv).bool
    cases t with
    |true=>exact wpIn_cond_true he (Z2I hm hn hO hcw c (h.1 rfl) a W sn ι Q hg hR ht hQ hP)
    |false=>exact wpIn_cond_false he (Z2I hm hn hO hcw d (h.2 rfl) a W sn ι Q hg hR ht hQ hP)
  ·exact h.elim
 | .block id b,kn,kx,kr,tm,H,h=>λa W sn ι Q hg hR ht hQ hP=>by
  replace h:Z3k P gl orc cw sp k b kn (λid' tm H=>match Y01 id' id with|true=>kn tm H|false=>kx id' tm H) kr tm H:=h
  refine wpIn_block (Z2I hm hn hO hcw b h a W sn ι _ hg hR ht (λx tm1 H1 a1 W1 sn1 ι1 hx s1 t1 d1=>?_) hP)
  cases x with
  |normal=>exact hQ .normal tm1 H1 _ _ _ _ hx s1 t1 d1
  |ret=>exact hQ .ret tm1 H1 _ _ _ _ hx s1 t1 d1
  |exit id' =>
   show (if id'=id then Q .normal a1 W1 else Q (.exit id') a1 W1)
   have hx:(match Y01 id' id with|true=>kn tm1 H1|false=>kx id' tm1 H1):=hx
   by_cases e:id'=id
   · rw[if_pos e]
     subst e
     have:Y01 id' id'=true:=by simp
     rw[this]at hx
     exact hQ .normal tm1 H1 _ _ _ _ hx s1 t1 d1
   · rw[if_neg e]
     have:Y01 id' id=false:=by cases hb:Y01 id' id with|false=>rfl|true=>exact (e (Y0m hb)).elim
     rw[this]at hx
     exact hQ (.exit id') tm1 H1 _ _ _ _ hx s1 t1 d1
 | .loop b,kn,kx,kr,tm,H,h=>by
  replace h:Z5J k (λkn tm H=>Z3k P gl orc cw sp k b kn kx kr tm H) tm H:=h
  unfold Z5J at h
  obtain⟨S,I,L,B,μ,⟨s,h0,hf⟩,h⟩:=h
  refine TriX.forget hf.fg (TriX.loop (I:=I) (T:=λs=>Zau (λn=>Z21 n (L s)) tm) (B:=B) (μ:=μ) (λs hI=>?_) h0)
  have h:=h s hI
  rw[Z1L,Z0u]at h
  refine (Z2I hm hn hO hcw b h).mono λx tm' H' hx=>?_
  cases x with
  |normal =>
   obtain⟨s',k1,k2,k3⟩:=hx
   exact⟨s',k1,k2,k3.fg⟩
  |exit id=>exact hx
  |ret=>exact hx
 | .exit id,kn,kx,kr,tm,H,h=>λa W sn ι Q hg hR ht hQ hP=>by
  exact wpIn_exit (hQ (.exit id) tm H a W sn ι h (Stq.refl hR) ht rfl)
 | .ret,kn,kx,kr,tm,H,h=>λa W sn ι Q hg hR ht hQ hP=>by
  exact wpIn_ret (hQ .ret tm H a W sn ι h (Stq.refl hR) ht rfl)
 | .rangeFunc ..,kn,kx,kr,tm,H,h=>(h:False).elim
 | .scope ..,kn,kx,kr,tm,H,h=>(h:False).elim
 | .label ..,kn,kx,kr,tm,H,h=>(h:False).elim
 | .goto ..,kn,kx,kr,tm,H,h=>(h:False).elim
 | .refuse ..,kn,kx,kr,tm,H,h=>(h:False).elim
noncomputable def Z7N(P:Program)(gl:Z0k)(orc:Orc)(cw:CW)(k:Nat)(c:Code):KN->KX->KN->Tr->Z00->Prop:=Z3k P gl orc cw (λ_ _=>none) k c
theorem Zco(hm:P.follows .mixedOrders=true)(hn:NoNum P)(hO:OrcSoundX X P gl orc){cw:CW}(hcw:Z5O P orc cw)(c:Code){kn:Tr->Z00->Prop}{kx:Nat->Tr->Z00->Prop}{kr:Tr->Z00->Prop}{tm:Tr}{H:Z00}
 (h:Z7N P gl orc cw k c kn kx kr tm H):TriX X P gl rd k c tm H (Zpx kn kx kr):=Z2I hm hn hO hcw c h
end code
def MemX(P:Program)(gl:Z0k)(X:AV->Prop)(f:Nat)(args:List AV)(H:Z00)(r:AV)(H':Z00):Prop :=
 ∀(sn:Z0o)(ι : Z0n)(W:World)(cargs:List Value),GlOK gl sn->R sn ι H W->LR sn ι args cargs ->
  CallsY P f cargs.toArray W λe W'=>(∃v sn' ι',e = .returned v/\VR sn' ι' r v/\Stp sn ι H W sn' ι' H' W')\/((∃fn,P.funcs[f]? = some fn)/\∃ch,e = .panicked ch/\PanR X sn ι H W ch W')
def MemXQ(P:Program)(gl:Z0k)(X:AV->Prop)(k f:Nat)(args:List AV)(H:Z00)(r:AV)(H':Z00):Prop :=
 ∀(sn:Z0o)(ι : Z0n)(W:World)(cargs:List Value),GlOK gl sn->R sn ι H W->LR sn ι args cargs ->
  CallsY P f cargs.toArray W λe W'=>(∃v sn' ι',e = .returned v/\VR sn' ι' r v/\Stq k sn ι H W sn' ι' H' W')\/((∃fn,P.funcs[f]? = some fn)/\∃ch,e = .panicked ch/\PanR X sn ι H W ch W')
theorem MemX.less{P:Program}{gl:Z0k}{X Y:AV->Prop}{f:Nat}{args:List AV}{H H':Z00}{r:AV}(h:MemX P gl X f args H r H')(hl:∀u,X u->Y u):MemX P gl Y f args H r H':=λsn ι W cargs hg hR ha =>
 (h sn ι W cargs hg hR ha).mono λe W' h=>h.imp id λ⟨a,ch,b,c⟩=>⟨a,ch,b,c.less hl⟩
theorem MemX.dead{P:Program}{gl:Z0k}{X:AV->Prop}{f:Nat}{args:List AV}{H H':Z00}{r:AV}(h:Z8l H=true):MemX P gl X f args H r H':=λsn ι W cargs hg hR ha=>(Z3w hR h).elim
theorem memx_same {P : Program} {gl : Z0k} {X : AV -> Prop} {f k : Nat} {Hs Hs' : Z00} {args : List AV} {r : AV} (hM : MemXQ P gl X k f args Hs r Hs') (hl : Hs.length = k) (hl' : Hs'.length = k)
  (hev:∀(b:Nat)(o o':AObj),Hs[b]? = some o->Hs'[b]? = some o'->o'.fam=o.fam/\o'.sh=o.sh/\(o'.alive=true->o.alive=true)):MemX P gl X f args Hs r Hs':=by
 intro sn ι W vargs hg hR ha
 refine (hM sn ι W vargs hg hR ha).mono ?_
 rintro e W' (⟨v,sn',ι',rfl,hv,hst⟩|h)
 · have hι : ∀b p,ι b=some p -> ι' b=some p:=λb p hp=>hst.keep b p (by have:=(hR.dom b).2 ⟨p,hp⟩;omega) hp
   have hι2:∀b p,ι' b=some p -> ι b=some p:=λb p hp=>by
    obtain⟨q,hq⟩:=(hR.dom b).1 (by have:=(hst.rel.dom b).2 ⟨p,hp⟩;omega)
    have:=hι b q hq
    rw[hp]at this;cases this;exact hq
   refine .inl ⟨v,sn',ι',rfl,hv,hst.rel,⟨hst.le,hι⟩,λb p hp=>.inl (hι2 b p hp),hst.frame,hst.size,hst.os,hst.tape,hst.output,hst.sfresh,λb o hb=>?_⟩
   have hb':b<Hs'.length:=by have:=(Y08.1 hb).1;omega
   obtain⟨e1,e2,e3⟩:=hev b o _ hb (Y05 hb')
   exact⟨_,Y05 hb',e1,e2,e3⟩
 ·exact .inr h
section fn
variable {X:AV->Prop} {P:Program} {gl:Z0k} {orc:Orc} {k:Nat}
theorem Zgb (hm : P.follows .mixedOrders = true) (hn : NoNum P) (hO : OrcSoundX X P gl orc) {f : Nat} {fn : Func} {c : Code} {args : List AV} {H0 N : Z00} {r : AV} {Φ : Tr -> Z00 -> Prop}
  (hf:P.funcs[f]? = some fn) (hc:fn.body=some c) {cw:CW} (hcw:Z5O P orc cw) {sp:Nat->Nat->Option Nat}
  (hfin:∀{tm1:Tr}{H:Z00}{a1:Act}{W W1:World}{sn sn1:Z0o}{ι ι1:Z0n},Φ tm1 H->Stq k sn ι H0 W sn1 ι1 H W1->TRel sn1 ι1 tm1 a1->∃v,(results fn a1.tmps).run P W1 = .ok v W1/\∃sn' ι',VR sn' ι' r v/\Stq k sn ι H0 W sn' ι' N W1)
  (h:frcTr (tmk (Z76 args fn.ntmps args.length) (Z8c 20 fn.ntmps)) λtm=>Z3k P gl orc cw sp k c Φ (λ_ _ _=>False) Φ tm H0):MemXQ P gl X k f args H0 r N:=by
 intro sn ι W cargs hg hR ha
 rw[Z1L]at h
 refine .inl (calls_of_wp hf hc (wpIn_wide.1 (Z2I (rd:=none) hm hn hO hcw c h _ W sn ι _ hg hR (Z3R ha _ _ _) (λx tm1 H a1 W1 sn1 ι1 hx s1 t1 d1=>?_) (λa' ch W' hd p=>⟨hd,.inr ⟨⟨fn,hf⟩,ch,rfl,p⟩⟩))))
 cases x with
 |normal =>
  obtain⟨v,k1,sn',ι',k2,k3⟩:=hfin hx s1 t1
  exact bodyPost_end k1 d1 (.inl ⟨v,sn',ι',rfl,k2,k3⟩)
 |exit id=>exact hx.elim
 |ret =>
  obtain⟨v,k1,sn',ι',k2,k3⟩:=hfin hx s1 t1
  exact bodyPost_ret k1 d1 (.inl ⟨v,sn',ι',rfl,k2,k3⟩)
theorem Zm4 (hm : P.follows .mixedOrders = true) (hn : NoNum P) (hO : OrcSoundX X P gl orc) {f : Nat} {fn : Func} {c : Code} {args : List AV} {H0 N : Z00} {r : AV}
  (hf:P.funcs[f]? = some fn) (hc:fn.body=some c) {cw:CW} (hcw:Z5O P orc cw) {sp:Nat->Nat->Option Nat}
  (h:frcTr (tmk (Z76 args fn.ntmps args.length) (Z8c 20 fn.ntmps)) λtm=>Z3k P gl orc cw sp k c (ZjF P fn.results.toList k r N) (λ_ _ _=>False) (ZjF P fn.results.toList k r N) tm H0):MemXQ P gl X k f args H0 r N:=by
 refine Zgb hm hn hO hf hc hcw (λ{tm1 H a1 W W1 sn sn1 ι ι1} hx s1 t1=>?_) h
 obtain⟨us,h1,m,h0,h2,h3,h4⟩:=Z04 hx
 obtain⟨vs,k1,k2⟩:=Z0O s1.rel t1 _ _ h1
 obtain⟨hS,_⟩:=Fg.sound (k:=k) (m:=m) (tm:=tm1) (tm2:=Zau (λ_=>none) tm1) ⟨⟨λn u2 e=>(by have:=Z3q _ _ _ _ e;cases this),λn e=>(by rw[Z4i]at e;exact e)⟩,h2,h3,h0⟩ s1.rel t1
 exact⟨_,Z0R k2,sn1,iot m ι1,h4 _ _ _ (Z2K (fn:=fn) k1),s1.trans hS⟩
theorem Zga (hm : P.follows .mixedOrders = true) (hn : NoNum P) (hO : OrcSoundX X P gl orc) {f : Nat} {fn : Func} {c : Code} {args : List AV} {H0 N : Z00} {r : AV}
  (hf:P.funcs[f]? = some fn) (hc:fn.body=some c) {cw:CW} (hcw:Z5O P orc cw) {sp:Nat->Nat->Option Nat}
  (h:frcTr (tmk (Z76 args fn.ntmps args.length) (Z8c 20 fn.ntmps)) λtm=>Z3k P gl orc cw sp k c (Zm7 P fn.results.toList k r N) (λ_ _ _=>False) (Zm7 P fn.results.toList k r N) tm H0):MemXQ P gl X k f args H0 r N:=by
 refine Zgb hm hn hO hf hc hcw (λ{tm1 H a1 W W1 sn sn1 ι ι1} hx s1 t1=>?_) h
 obtain⟨us,h1,fs,m,h0,h2,h3,h4,h5⟩:=Z04 hx
 obtain⟨vs,k1,k2⟩:=Z0O s1.rel t1 _ _ h1
 obtain⟨sn',ι',hS,hv⟩:=FgS.value (k:=k) h2 h3 h0 h4 a1 s1.rel (Z2K (fn:=fn) k1) h5
 exact⟨_,Z0R k2,sn',ι',hv,s1.trans hS⟩
theorem Z1F{isC:Nat->Bool}(hm:P.follows .mixedOrders=true)(hn:NoNum P)(hO:OrcSoundX X P gl orc):∀n,OrcSoundX X P gl (Z8h P gl orc isC n)
 |0=>hO
 |n+1=>by
  intro f args H r H' hf
  simp only[Z8h]at hf
  split at hf
  ·exact hO f args H r H' hf
  ·exact Z88 (fuel:=0) hm hn (Z1F hm hn hO n) f args H r H' hf
theorem Z1N (isC : Nat -> Bool) (n : Nat) (hm : P.follows .mixedOrders = true) (hn : NoNum P) (hO : OrcSoundX X P gl orc) {f : Nat} {fn : Func} {c : Code} {args : List AV} {H0 N : Z00} {r : AV}
  (hf:P.funcs[f]? = some fn) (hc:fn.body=some c)
  (h:frcTr (tmk (Z76 args fn.ntmps args.length) (Z8c 20 fn.ntmps)) λtm=>Z3k P gl (Z8h P gl orc isC n) (Z74 P gl orc isC n) (λ_ _=>none) k c (ZjF P fn.results.toList k r N) (λ_ _ _=>False) (ZjF P fn.results.toList k r N) tm H0):MemXQ P gl X k f args H0 r N :=
 Zm4 hm hn (Z1F hm hn hO n) hf hc (Z0f n) h
theorem Z0w (isC : Nat -> Bool) (n : Nat) (hm : P.follows .mixedOrders = true) (hn : NoNum P) (hO : OrcSoundX X P gl orc) {f : Nat} {fn : Func} {c : Code} {args : List AV} {H0 N : Z00} {r : AV}
  (hf:P.funcs[f]? = some fn) (hc:fn.body=some c)
  (h:frcTr (tmk (Z76 args fn.ntmps args.length) (Z8c 20 fn.ntmps)) λtm=>Z3k P gl (Z8h P gl orc isC n) (Z74 P gl orc isC n) (λ_ _=>none) k c (Zm7 P fn.results.toList k r N) (λ_ _ _=>False) (Zm7 P fn.results.toList k r N) tm H0):MemXQ P gl X k f args H0 r N :=
 Zga hm hn (Z1F hm hn hO n) hf hc (Z0f n) h
theorem Zm5 (isC : Nat -> Bool) (n : Nat) (sp : Nat -> Nat -> Option Nat) (hm : P.follows .mixedOrders = true) (hn : NoNum P) (hO : OrcSoundX X P gl orc) {f : Nat} {fn : Func} {c : Code} {args : List AV} {H0 N : Z00} {r : AV}
  (hf:P.funcs[f]? = some fn) (hc:fn.body=some c)
  (h:frcTr (tmk (Z76 args fn.ntmps args.length) (Z8c 20 fn.ntmps)) λtm=>Z3k P gl (Z8h P gl orc isC n) (Z74 P gl orc isC n) sp k c (Zm7 P fn.results.toList k r N) (λ_ _ _=>False) (Zm7 P fn.results.toList k r N) tm H0):MemXQ P gl X k f args H0 r N :=
 Zga hm hn (Z1F hm hn hO n) hf hc (Z0f n) h
theorem ZcP{o1 o2:Orc}(h1:OrcSoundX X P gl o1)(h2:OrcSoundX X P gl o2):OrcSoundX X P gl (Z2t o1 o2):=by
 intro f args H r H' hf
 unfold Z2t at hf
 split at hf
 · rename_i x hx
   simp at hf;subst hf
   exact h1 f args H r H' hx
 ·exact h2 f args H r H' hf
theorem Zer{I:Type}{G:I->Prop}{fF:I->Nat}{fA:I->List AV}{fH:I->Z00}{fR:I->AV}{fO:I->Z00}(h:∀i,G i->MemX P gl X (fF i) (fA i) (fH i) (fR i) (fO i)):OrcSoundX X P gl (orcI G fF fA fH fR fO):=by
 intro f args H r H' e
 unfold orcI at e
 split at e
 · rename_i hx
   simp only[Option.some.injEq,Prod.mk.injEq]at e
   obtain⟨rfl,rfl⟩:=e
   obtain⟨g1,e1,e2,e3⟩:=Classical.choose_spec hx
   have:=h _ g1
   rw[e1,e2,e3]at this;exact this
 ·cases e
end fn
structure FamX (P:Program) (gl:Z0k) where
 I:Type
 f:Nat
 X:I->AV->Prop
 G:I->Prop
 A:I->List AV
 H:I->Z00
 R:I->AV
 O:I->Z00
 body:Z0m P f=true
 inj:∀i j,G i->G j->A i=A j->H i=H j->R i=R j/\O i=O j
 ok:∀i,G i->MemX P gl (X i) f (A i) (H i) (R i) (O i)
section
variable {P:Program} {gl:Z0k} {X:AV->Prop}
def FamX.Ask(X:AV->Prop)(F:FamX P gl)(O:Orc):Prop:=∀i,F.G i->(∀u,F.X i u->X u)->Z06 P O (F.H i) F.f (F.A i)=some (F.R i,F.O i)
def AllAskX(X:AV->Prop)(O:Orc):List (FamX P gl)->Prop
 |[]=>True
 |F::l=>F.Ask X O/\AllAskX X O l
theorem AllAskX.add{o O:Orc}{f:Nat}(ho:∀g args H,g≠f->o g args H=none):∀{l:List (FamX P gl)},mem f (l.map (·.f))=false->AllAskX X O l->AllAskX X (Z2t o O) l
 |[],_,_=>trivial
 |F::l,h,ha=>by
  simp only[Y0j,mem,Y0z]at h
  have hf:F.f≠f:=λe=>by rw[e]at h;simp at h
  exact⟨λi hi hx=>Z54 F.body (ho _ _ _ hf) (ha.1 i hi hx),AllAskX.add ho h.2 ha.2⟩
theorem Z2w(X:AV->Prop):∀(m:List (FamX P gl))(l:List (Fam P gl)),Z0U (m.map (·.f)++l.map (·.f))=true->∃O,OrcSoundX X P gl O/\AllAskX X O m/\AllAsk O l
 |[],l,h=>by
  obtain⟨O,h1,h2⟩:=Z8H l h
  exact⟨O,h1.x,trivial,h2⟩
 |F::m,l,h=>by
  simp only[Y0j,Y06,Z0U,Y03,Y0g]at h
  obtain⟨O,hO,ha,hb⟩:=Z2w X m l h.2
  have ho:∀g args H,g≠F.f->orcI (λi=>F.G i/\∀u,F.X i u->X u) (λ_=>F.f) F.A F.H F.R F.O g args H=none:=λg args H hg=>Z37 λi _ e=>absurd e.symm hg
  have hmem:∀{a b:List Nat},mem F.f (a++b)=false->mem F.f a=false/\mem F.f b=false:=by
   intro a b h
   constructor
   · cases hx:mem F.f a with
     |false=>rfl
     |true=>rw[Z18.2 (Y0s.2 (.inl (Z18.1 hx)))]at h;cases h
   · cases hx:mem F.f b with
     |false=>rfl
     |true=>rw[Z18.2 (Y0s.2 (.inr (Z18.1 hx)))]at h;cases h
  obtain⟨n1,n2⟩:=hmem h.1
  refine⟨Z2t (orcI (λi=>F.G i/\∀u,F.X i u->X u) (λ_=>F.f) F.A F.H F.R F.O) O,ZcP (Zer λi hi=>(F.ok i hi.1).less hi.2) hO,
   ⟨λi hi hx=>callOr1 F.body (Zdy (λi j hi hj _ ha hh=>F.inj i j hi.1 hj.1 ha hh) F.body i ⟨hi,hx⟩ rfl rfl rfl),AllAskX.add ho n1 ha⟩,AllAsk.add ho n2 hb⟩
end
end Go.Abs
end
section
namespace Go.Abs
open Go.RowKit
noncomputable def Zpo(P:Program)(gl:Z0k)(orc:Orc)(cw:CW)(ops:List Oper)(l:List Oper):Tr->Z00->(AV->Prop)->Prop :=
 List.rec (motive:=λ_=>Tr->Z00->(AV->Prop)->Prop) (λ_ _ _=>False)
  (fun o _ ih tm H K => match o.op with
    | .panic x=>match o.guard with
     |none=>onO (Z3f gl tm x) K
     |some _=>False
    |_=>Ze1 ops o tm (opW P orc cw (Z3f gl tm) o H λr H'=>onO (Z4O o.dst r tm) λtm'=>ih tm' H' K) (onO (Z4O o.dst (.tuple []) tm) λtm'=>ih tm' H K)) l
def ZnU(u:AV):Prop:=(∃t x,u = .iface t x)/\Z2a u []=[]/\Zeu u=true
theorem Zeq {X : AV -> Prop} {P : Program} {gl : Z0k} {orc : Orc} {cw : CW} {rd : Option Nat} (hn : NoNum P) (hO : OrcSoundX X P gl orc) (hcw : Z5O P orc cw) (ops : Array Oper) : ∀ (l : List Oper) (tm : Tr) (H : Z00) (a : Act) (W : World) (sn : Z0o) (ι : Z0n),
  Zpo P gl orc cw ops.toList l tm H (λu=>X u/\ZnU u)->GlOK gl sn->R sn ι H W->TRel sn ι tm a->∀{Q:Exit->Act->World->Prop},
  (∀a' ch W',a'.defers=a.defers->PanR X sn ι H W ch W'->Q (.panic ch) a' W')->wpListIn (Fq rd) 0 P ops Q l a W
 |[],tm,H,a,W,sn,ι,h,hg,hR,ht,Q,hP=>(h:False).elim
 |o::l,tm,H,a,W,sn,ι,h,hg,hR,ht,Q,hP=>by
  have key:Ze1 ops.toList o tm (opW P orc cw (Z3f gl tm) o H λr H'=>onO (Z4O o.dst r tm) λtm'=>Zpo P gl orc cw ops.toList l tm' H' (λu=>X u/\ZnU u)) (onO (Z4O o.dst (.tuple []) tm) λtm'=>Zpo P gl orc cw ops.toList l tm' H (λu=>X u/\ZnU u))->wpListIn (Fq rd) 0 P ops Q (o::l) a W:=λh=>by
   refine wpListIn_step λK hK=>?_
   rcases Zff h with ⟨hw,h⟩|⟨hw,h⟩
   · rw[if_pos (Z31 ht ops o hw)]
     obtain⟨r,H1,hop,h⟩:=ZfL P hcw h
     obtain⟨tm1,hp,h⟩:=Z04 h
     refine Z44 hn hO hg hR (Z1e hg ht) hop (λv W' sn' ι' hv hst=>hK _ _ ?_) (λch W' p=>hP a ch W' rfl p)
     exact Zeq hn hO hcw ops l _ _ _ _ sn' ι' h (hg.mono hst.le) hst.rel (Z2r (ht.mono hst.le) hv hp) (λa' ch W'' hd p=>hP a' ch W'' (hd.trans (Act.put_defers' _ _ _)) (p.back hR hst))
   · rw[if_neg (by rw[Z31 ht ops o hw];simp)]
     obtain⟨tm1,hp,h⟩:=Z04 h
     exact⟨λf _=>trivial,hK _ _ (Zeq hn hO hcw ops l _ _ _ _ sn ι h hg hR (Z2r ht Z4a hp) (λa' ch W'' hd p=>hP a' ch W'' (hd.trans (Act.put_defers' _ _ _)) p))⟩
  replace h:(match o.op with
   | .panic x=>match o.guard with
    |none=>onO (Z3f gl tm x) (λu=>X u/\ZnU u)
    |some _=>False
   |_=>Ze1 ops.toList o tm (opW P orc cw (Z3f gl tm) o H λr H'=>onO (Z4O o.dst r tm) λtm'=>Zpo P gl orc cw ops.toList l tm' H' (λu=>X u/\ZnU u)) (onO (Z4O o.dst (.tuple []) tm) λtm'=>Zpo P gl orc cw ops.toList l tm' H (λu=>X u/\ZnU u))):=h
  split at h
  · rename_i x hop
    split at h
    · rename_i hgd
      obtain⟨u,hu,hX,⟨t,y,rfl⟩,h1,h2⟩:=Z04 h
      have hv:=Z1e hg ht _ _ hu
      refine wpListIn_plain hgd λK hK=>?_
      refine ZhL (λc e=>by rw[hop]at e;cases e) ?_
      have hrun:(execOp a.eval o).run P W = .halt (.panic (a.eval x)) W:=by
       have hv':=hv
       simp only[VR]at hv'
       obtain⟨z,hz,_⟩:=hv'
       simp only[execOp,hop,hz]
       rfl
      unfold Oper.wp
      rw[hrun,Oper.upon_panic]
      refine hP a _ W rfl ⟨_,_,hX,rfl,Z5b _ _ h2 (Z1n _ [] _ (λb hb=>by rw[h1]at hb;cases hb) hv),λ_ _ _=>rfl,Y04 _,rfl,rfl,rfl⟩
    ·exact h.elim
  ·exact key h
theorem Zm3 {X : AV -> Prop} {P : Program} {gl : Z0k} {orc : Orc} {cw : CW} {id : Nat} {ops : Array Oper} (hn : NoNum P) (hO : OrcSoundX X P gl orc) {f : Nat} {fn : Func} {args : List AV} {H0 H1 : Z00} {r : AV}
  (hf:P.funcs[f]? = some fn) (hc:fn.body=some (.region id ops false)) (hcw:Z5O P orc cw)
  (h:frcTr (tmk (Z76 args fn.ntmps args.length) (Z8c 20 fn.ntmps)) λtm=>Zpo P gl orc cw ops.toList ops.toList tm H0 (λu=>X u/\ZnU u)):MemX P gl X f args H0 r H1:=by
 intro sn ι W cargs hg hR ha
 rw[Z1L]at h
 exact .inl (calls_of_wp hf hc (wpIn_wide.1 (wpIn_region_list (Zeq (rd:=none) hn hO hcw ops _ _ _ _ W sn ι h hg hR (Z3R ha _ _ _) λa' ch W' hd p=>⟨hd,.inr ⟨⟨fn,hf⟩,ch,rfl,p⟩⟩))))
theorem ZlH{P:Program}{gl:Z0k}{Y:AV->Prop}{f:Nat}{args:List AV}{H H':Z00}{r:AV}(hM:MemX P gl Y f args H r H')(X:Z00)(hl:H'.length=H.length)(ha:Z11 H.length (refsL args [])=true)(hb:ZeJ H.length H=true)(hX:Z08 (H.map (·.fam)) X=true):MemX P gl Y f args (H++X) r (H'++X):=by
 intro sn ι W cargs hg hR hargs
 let ι0:Z0n:=λb=>if b<H.length then ι b else none
 have i0:∀b,b<H.length -> ι0 b = ι b:=λb h=>if_pos h
 have i0':∀b p,ι0 b=some p->b<H.length /\ ι b=some p:=λb p h=>by
  have h:(if b<H.length then ι b else none)=some p:=h
  split at h
  ·exact⟨by assumption,h⟩
  ·cases h
 have gH:∀(b:Nat)(o:AObj),H[b]? = some o->(H++X)[b]? = some o:=λb o h=>by
  rw[Y09 (Y08.1 h).1];exact h
 have hfam:∀(b c:Nat)(o x:AObj)(p q:Place),H[b]? = some o->(H++X)[c]? = some x->o.alive=true->x.alive=true->H.length<=c -> ι b=some p -> ι c=some q->p.blk=q.blk->False:=by
  intro b c o x p q hb hc ha ha' hk hp hq e
  have hf:=(hR.sep b c o x p q (gH b o hb) hc ha ha' hp hq e).1
  rw[Y0a hk]at hc
  exact Z7g hX hc (by rw[<- hf];exact Y0v.2 ⟨o,Y0n hb,rfl⟩)
 have hR0:R sn ι0 H W:=by
  refine⟨λb=>⟨λhb=>?_,λ⟨p,hp⟩=>(i0' b p hp).1⟩,λb p hp=>hR.blk b p (i0' b p hp).2,λb o p ho hal hp=>?_,λb b' o o' p p' ho ho' ha ha' hp hp' e=>hR.sep b b' o o' p p' (gH _ _ ho) (gH _ _ ho') ha ha' (i0' _ _ hp).2 (i0' _ _ hp').2 e,λa v hv=>?_,λb o p ho hp e=>hR.shz b o p (gH _ _ ho) (i0' _ _ hp).2 e⟩
  · obtain⟨p,hp⟩:=(hR.dom b).1 (by rw[Y0c];omega)
    exact⟨p,by rw[i0 b hb];exact hp⟩
  · obtain⟨hbl,hp⟩:=i0' b p hp
    exact Z2B o.body p (λx hx q hq=>by rw[i0 x (Z0M (Z9x hb ho) x hx)];exact hq) (hR.obj b o p (gH _ _ ho) hal hp)
  · obtain⟨h1,h2,h3⟩:=hR.snap a v hv
    exact⟨h1,h2,λb o p ho hal hp=>h3 b o p (gH _ _ ho) hal (i0' _ _ hp).2⟩
 have hl0:LR sn ι0 args cargs:=LR_refs args [] cargs (λb hb' p hp=>by rw[i0 b (Z0M ha b hb')];exact hp) hargs
 refine (hM sn ι0 W cargs hg hR0 hl0).mono ?_
 rintro e W1 (⟨v,sn1,ι1,rfl,hv,hs⟩|⟨hfn,ch,rfl,u,v,p1,p2,p3,p4,p5⟩)
 case inr =>
  exact .inr ⟨hfn,ch,rfl,u,v,p1,p2,p3,λc hc hno=>p4 c hc λb o p ho hal hp=>hno b o p (gH _ _ ho) hal (i0' _ _ hp).2,p5⟩
 let ι2:Z0n:=λb=>match ι1 b with|some p=>some p|none=>ι b
 have a1:∀b p,ι1 b=some p -> ι2 b=some p:=λb p h=>by show (match ι1 b with|some p=>some p|none=>ι b)=some p;rw[h]
 have a2:∀b,H.length<=b -> ι2 b = ι b:=λb h=>by
  show (match ι1 b with|some p=>some p|none=>ι b) = ι b
  cases hq : ι1 b with
  |none=>rfl
  |some p=>have:=(hs.rel.dom b).2 ⟨p,hq⟩;omega
 have a3:∀b p,ι b=some p -> ι2 b=some p:=λb p h=>by
  by_cases hb':b<H.length
  ·exact a1 b p (hs.le.ι b p (by rw[i0 b hb'];exact h))
  ·rw[a2 b (by omega)];exact h
 have a4:∀b p,b<H.length -> ι2 b=some p -> ι1 b=some p /\ ι b=some p:=λb p hb' h=>by
  obtain⟨q,hq⟩:=(hR.dom b).1 (by rw[Y0c];omega)
  have h1:=hs.le.ι b q (by rw[i0 b hb'];exact hq)
  have h2:=a1 b q h1
  rw[h]at h2;cases h2
  exact⟨h1,hq⟩
 have hle:Le sn sn1 ι ι2:=⟨hs.le.sn,a3⟩
 have g1:∀(b:Nat)(o:AObj),(H'++X)[b]? = some o->(b<H.length/\H'[b]? = some o)\/(H.length<=b/\(H++X)[b]? = some o):=λb o h=>by
  by_cases hb':b<H.length
  ·rw[Y09 (by omega)]at h;exact .inl ⟨hb',h⟩
  · rw[Y0a (by omega),hl]at h
    exact .inr ⟨by omega,by rw[Y0a (by omega)];exact h⟩
 have old:∀(b:Nat)(o:AObj)(p:Place),(H'++X)[b]? = some o -> ι2 b=some p->∃o0,(H++X)[b]? = some o0 /\ ι b=some p/\o.fam=o0.fam/\o.sh=o0.sh/\(o.alive=true->o0.alive=true):=by
  intro b o p ho hp
  rcases g1 b o ho with ⟨h1,h2⟩|⟨h1,h2⟩
  · obtain⟨_,hq⟩:=a4 b p h1 hp
    obtain⟨o',k1,k2,k3,k4⟩:=hs.evo b _ (Y05 h1)
    rw[h2]at k1;cases k1
    exact⟨_,gH _ _ (Y05 h1),hq,k2,k3,k4⟩
  · rw[a2 b h1]at hp
    exact⟨o,h2,hp,rfl,rfl,id⟩
 have same:∀(b:Nat)(o:AObj)(p:Place),(H++X)[b]? = some o->o.alive=true->H.length<=b -> ι b=some p->W1.heap[p.blk]? = W.heap[p.blk]?:=λb o p ho ha hk hp =>
  hs.frame p.blk (hR.blk b p hp) λb' o' p' ho' ha' hp' e=>hfam b' b o' o p' p ho' ho ha' ha hk (i0' _ _ hp').2 hp e
 refine .inl ⟨v,sn1,ι2,rfl,Z1f ⟨λ_ _ h=>h,a1⟩ _ _ hv,⟨?_,hle,λb p hp=>?_,λc hc hno=>hs.frame c hc λb o p ho hal hp=>hno b o p (gH _ _ ho) hal (i0' _ _ hp).2,hs.size,hs.os,hs.tape,hs.output,λa v hv=>?_,λb o ho=>?_⟩⟩
 · refine⟨λb=>?_,λb p hp=>?_,λb o p ho hal hp=>?_,λb b' o o' p p' ho ho' ha ha' hp hp' e=>?_,λa u hu=>?_,λb o p ho hp e=>?_⟩
   · have:=hR.dom b
     rw[Y0c,hl,<- Y0c,this]
     constructor
     ·rintro⟨p,hp⟩;exact⟨p,a3 b p hp⟩
     · rintro⟨p,hp⟩
       by_cases hb':b<H.length
       ·exact⟨p,(a4 b p hb' hp).2⟩
       ·exact⟨p,by rw[<- a2 b (by omega)];exact hp⟩
   · by_cases hb':b<H.length
     ·exact hs.rel.blk b p (a4 b p hb' hp).1
     · rw[a2 b (by omega)]at hp
       have:=hR.blk b p hp;have:=hs.size;omega
   · rcases g1 b o ho with ⟨h1,h2⟩|⟨h1,h2⟩
     · obtain⟨hp1,_⟩:=a4 b p h1 hp
       exact Z0P ⟨λ_ _ h=>h,a1⟩ rfl (hs.rel.obj b o p h2 hal hp1)
     · rw[a2 b h1]at hp
       exact Z0P hle (same b o p h2 hal h1 hp) (hR.obj b o p h2 hal hp)
   · obtain⟨o0,k1,k2,k3,k4,k5⟩:=old b o p ho hp
     obtain⟨o0',k1',k2',k3',k4',k5'⟩:=old b' o' p' ho' hp'
     rw[k3,k3',k4,k4']
     exact hR.sep b b' o0 o0' p p' k1 k1' (k5 ha) (k5' ha') k2 k2' e
   · obtain⟨h1,h2,h3⟩:=hs.rel.snap a u hu
     refine⟨h1,h2,λb o p ho hal hp e=>?_⟩
     rcases g1 b o ho with ⟨k1,k2⟩|⟨k1,k2⟩
     ·exact h3 b o p k2 hal (a4 b p k1 hp).1 e
     · rw[a2 b k1]at hp
       rcases hs.sfresh a u hu with f1|f1|⟨b0,o0,p0,f1,f2,f3,f4⟩
       ·exact (hR.snap a u f1).2.2 b o p k2 hal hp e
       ·have:=hR.blk b p hp;omega
       ·exact hfam b0 b o0 o p0 p f1 k2 f2 hal k1 (i0' _ _ f3).2 hp (f4.trans e.symm)
   · obtain⟨o0,k1,k2,_,k4,_⟩:=old b o p ho hp
     exact hR.shz b o0 p k1 k2 (by rw[<- k4];exact e)
 · by_cases hb':b<H.length
   ·exact .inl (a4 b p hb' hp).2
   ·rw[a2 b (by omega)]at hp;exact .inl hp
 · rcases hs.sfresh a v hv with f1|f1|⟨b0,o0,p0,f1,f2,f3,f4⟩
   ·exact .inl f1
   ·exact .inr (.inl f1)
   ·exact .inr (.inr ⟨b0,o0,p0,gH _ _ f1,f2,(i0' _ _ f3).2,f4⟩)
 · by_cases hb':b<H.length
   · rw[Y09 hb']at ho
     obtain⟨o',k1,k2,k3,k4⟩:=hs.evo b o ho
     exact⟨o',by rw[Y09 (by omega)];exact k1,k2,k3,k4⟩
   · rw[Y0a (by omega)]at ho
     exact⟨o,by rw[Y0a (by omega),hl];exact ho,rfl,rfl,id⟩
end Go.Abs
end
namespace Go.Proofs.YtneoiadnbikciaaGreatDoor.lex
open Go.Abs Go.RowKit
section
variable {gl:Z0k}
def LV:Z00:=[⟨true,1,0,.map [(.str [124,124],.int .i64 5,0)] 1⟩,⟨true,2,0,.map [(.str [38,38],.int .i64 6,0)] 1⟩,⟨true,3,0,.map [(.str [61,61],.int .i64 7,0),(.str [33,61],.int .i64 8,1)] 2⟩,
 ⟨true,4,0,.map [(.str [60],.int .i64 9,0),(.str [60,61],.int .i64 10,1)] 2⟩,⟨true,5,0,.map [(.str [124],.int .i64 11,0)] 1⟩,⟨true,6,0,.map [(.str [94],.int .i64 12,0)] 1⟩,⟨true,7,0,.map [(.str [38],.int .i64 13,0)] 1⟩,
 ⟨true,8,0,.map [(.str [43],.int .i64 14,0),(.str [45],.int .i64 15,1)] 2⟩,⟨true,9,0,.map [(.str [42],.int .i64 16,0)] 1⟩,⟨true,10,0,.cells [.map 1,.map 2,.map 3,.map 4,.map 5,.map 6,.map 7,.map 8,.map 9] 128⟩]
def Zny(T:List Tq)(e:Int):AV:=cond (e==0) (.rs T.length 4 (tqC T)) bot
def gO(T:List Tq)(s:Ps):AObj:=⟨true,0,0,.cells [Zny T s.err,.int .i64 (s.i:Nat),.int .i64 s.op,.slice 10 0 9 9 1] 92⟩
def gB(T:List Tq)(s:Ps):Z00:=gO T s::LV
def gD(s:Ps):Z00:=⟨true,0,0,.cells [bot,.int .i64 (s.i:Nat),.int .i64 s.op,.slice 10 0 9 9 1] 92⟩::LV
theorem Z62{T:List Tq}{s:Ps}(h:s.err≠0):gB T s=gD s:=by
 have e:(s.err==0)=false:=by simpa using h
 unfold gB gD gO Zny
 rw[e]
 rfl
def ZpK(e a:Int):AV:=.iface 88 (.agg [.int .i64 e,.int .i64 a])
def XF(s:Ps):AV->Prop:=λu=>s.err≠0/\u=ZpK s.err s.at_
def M11:List Nat:=[0,1,2,3,4,5,6,7,8,9,10]
theorem eG{m:List Nat}:∀{k:List UInt8}{v:Int}{n:Nat}{l l2:List (AV×AV×Nat)},EGe m l l2->EGe m ((.str k,.int .i64 v,n)::l) ((.str k,.int .i64 v,n)::l2):=λh=>⟨Wk.str rfl,Y0d rfl,rfl,h⟩
theorem Zjq(T:List Tq)(s:Ps):(gB T s).length=11:=rfl
theorem Zjr{T:List Tq}{s s':Ps}:∀(b:Nat)(o o':AObj),(gB T s)[b]? = some o->(gB T s')[b]? = some o'->o'.fam=o.fam/\o'.sh=o.sh/\(o'.alive=true->o.alive=true)
 |0,o,o',h,h'=>by cases h;cases h';exact⟨rfl,rfl,λ_=>rfl⟩
 |b+1,o,o',h,h'=>by
  have h:LV[b]? = some o:=h
  have h':LV[b]? = some o':=h'
  rw[h]at h';cases h'
  exact⟨rfl,rfl,id⟩
theorem Zoo(T:List Tq)(s:Ps):ZeJ (gB T s).length (gB T s)=true:=by
 unfold gB gO Zny
 cases s.err==0<;>rfl
theorem Zqr{T:List Tq}{s s':Ps}{X X':Z00}(h:gB T s++X=gB T s'++X'):(Zny T s.err=Zny T s'.err/\s.i=s'.i/\s.op=s'.op)/\X=X':=by
 simp only[gB,gO,Y06,List.cons.injEq,AV.int.injEq,AObj.mk.injEq,ABody.cells.injEq,true_and,and_true]at h
 obtain⟨⟨h1,h2,h3⟩,h4⟩:=h
 exact⟨⟨h1,by omega,h3⟩,List.append_cancel_left h4⟩
def GX(gl:Z0k)(T:List Tq)(f:Nat)(A:List AV)(s:Ps)(r:AV)(s':Ps):Prop:=MemX Y00 gl (XF s') f A (gB T s) r (gB T s')
theorem GX.of{T:List Tq}{f:Nat}{A:List AV}{s s':Ps}{r:AV}(h:s.err=0->MemXQ Y00 gl (XF s') 11 f A (gB T s) r (gB T s')):GX gl T f A s r s':=by
 by_cases he:s.err=0
 ·exact memx_same (h he) rfl rfl Zjr
 · unfold GX
   exact MemX.dead (by rw[Z62 he];rfl)
theorem GX.dead{T:List Tq}{f:Nat}{A:List AV}{s s':Ps}{r:AV}(h:s.err≠0):GX gl T f A s r s':=GX.of λe=>absurd e h
def Z0z:List Nat:=[0,1,2,3,4,5,6,7,8,9,10]
def Z9r(T:List Tq)(f:Nat)(hb:Z0m Y00 f=true){I:Type}(G:I->Ps->Prop)(A:I->List AV)(R:I->Ps->AV)(N:I->Ps->Ps)(hA:∀i,Z11 11 (refsL (A i) [])=true)(hinj:∀i j,A i=A j->i=j)(ok:∀i s,G i s->GX gl T f (A i) s (R i s) (N i s)):FamX Y00 gl :=
 have h1:∀x y:I×Ps×Z00,(G x.1 x.2.1/\(x.2.1.err=0/\x.2.1.at_=0)/\Z08 Z0z x.2.2=true)->(G y.1 y.2.1/\(y.2.1.err=0/\y.2.1.at_=0)/\Z08 Z0z y.2.2=true)->A x.1=A y.1->gB T x.2.1++x.2.2=gB T y.2.1++y.2.2->R x.1 x.2.1=R y.1 y.2.1/\gB T (N x.1 x.2.1)++x.2.2=gB T (N y.1 y.2.1)++y.2.2:=λx y hx hy h h2=>by
  obtain⟨i,s,X⟩:=x
  obtain⟨j,s',X'⟩:=y
  obtain⟨⟨_,e1,e2⟩,e3⟩:=Zqr h2
  have e4:=hinj _ _ h
  simp only at e1 e2 e3 e4
  subst e3 e4
  obtain⟨a,b,c,d⟩:=s
  obtain⟨a',b',c',d'⟩:=s'
  obtain⟨-,⟨f1,f2⟩,-⟩:=hx
  obtain⟨-,⟨f3,f4⟩,-⟩:=hy
  simp only at e1 e2 f1 f2 f3 f4
  subst e1 e2 f1 f2 f3 f4
  exact⟨rfl,rfl⟩
 { I:=I×Ps×Z00,f:=f,X:=λx=>XF (N x.1 x.2.1),G:=λx=>G x.1 x.2.1/\(x.2.1.err=0/\x.2.1.at_=0)/\Z08 Z0z x.2.2=true,A:=λx=>A x.1,H:=λx=>gB T x.2.1++x.2.2,R:=λx=>R x.1 x.2.1,O:=λx=>gB T (N x.1 x.2.1)++x.2.2,body:=hb,inj:=h1,ok:=λx h=>ZlH (ok x.1 x.2.1 h.1) x.2.2 rfl (hA x.1) (Zoo T x.2.1) h.2.2 }
theorem XF.less{s s':Ps}(h:s.err≠0->s'.err=s.err/\s'.at_=s.at_):∀u,XF s u->XF s' u:=λu ⟨h1,h2⟩=>by
 obtain⟨h3,h4⟩:=h h1
 exact⟨by rw[h3];exact h1,by rw[h3,h4];exact h2⟩
def Zsm(f:Nat):Bool:=false
theorem Zg4{T:List Tq}{s:Ps}(hs:PsOK T s){e:Int}(he:e≠0):GX gl T 56 [.ptr 0 0,.int .i64 e] s (.tuple []) (Z0p s e (Z0r T s).pos):=by
 by_cases h0:s.err=0
 case neg=>exact GX.dead h0
 have hx:=tq4 T s.i hs.lt
 rw[<- Z0t hs.lt]at hx
 have hlt:=hs.lt
 have hfew:=hs.few
 unfold GX
 unfold Z0p
 generalize Z0r T s=t at *
 obtain⟨k,tx,nm,ps⟩:=t
 obtain⟨i,err,at_,op⟩:=s
 simp only at h0
 subst h0
 simp only[Tq.cells]at hx hlt⊢
 refine Zm3 Z05 (Z1F follows Z05 (Z0g (gl:=gl)).x 2) Tryz.func56 rfl (Z0f (isC:=Zsm) 2) ?_
 simp only[gB,gO,Zny,LV]
 repeat' ((conv=>whnf);first|refine exI hx ?_|(with_reducible refine ixJ i rfl ?_ ?_;focus omega)|refine stp ?_|with_reducible apply Z01<;>intro h)
 exact⟨⟨he,rfl⟩,⟨_,_,rfl⟩,rfl,rfl⟩
end
section
variable {gl:Z0k}
def Kp(s s':Ps):Prop:=s.err≠0->s'.err≠0
theorem Kp.rfl'{s:Ps}:Kp s s:=λh=>h
theorem Kp.trans{a b c:Ps}(h:Kp a b)(k:Kp b c):Kp a c:=λe=>k (h e)
theorem ZbI(s:Ps)(e a:Int):Kp s (Z0p s e a):=λh=>by unfold Z0p;rw[if_neg h];exact h
theorem Zdg(s:Ps){e:Int}(a:Int)(he:e≠0):(Z0p s e a).err≠0:=by
 unfold Z0p;split
 ·exact he
 ·assumption
theorem ZbB{T:List Tq}{s:Ps}{w:List UInt8}(h:s.err≠0):isF T s w=false:=by
 unfold isF;simp[h]
theorem Z5g(T:List Tq)(s:Ps)(w:List UInt8):Kp s (Z0l T s w):=λh=>by
 unfold Z0l;rw[ZbB h];simpa using h
theorem Z5u(T:List Tq)(s:Ps)(w:List UInt8):Kp s (Z03 T s w):=λh=>by
 unfold Z03;split
 ·exact Z5g T s w h
 ·exact ZbI _ _ _ (Z5g T s w h)
theorem ZkZ(T:List Tq)(s:Ps):Kp s (Z0e T s):=λh=>by
 unfold Z0e Z1Q
 simp only[show (s.err==0)=false by simpa using h,Bool.false_and,Y0p,if_false]
 exact ZbI _ _ _ h
theorem ZkY(T:List Tq)(s:Ps):(Z0e T s).err≠0\/(Z0e T s).i=s.i+1:=by
 unfold Z0e;split
 ·exact .inr rfl
 ·exact .inl (Zdg _ _ (by decide))
theorem Zao(T:List Tq):∀(l:List (List UInt8))(s:Ps)(k:Int),Kp s (Z0a T s l k).2
 |[],s,k=>ZbI _ _ _
 |w::l,s,k=>by
  unfold Z0a;split
  ·exact Z5g T s w
  ·exact (Z5g T s w).trans (Zao T l _ _)
theorem Z2s{T:List Tq}:∀(l:List (List UInt8))(s:Ps)(k:Int),PsOK T s->PsGo T s (Z0a T s l k).2
 |[],s,k,h=>Z5z h _ _
 |w::l,s,k,h=>by
  have h1:=Z5h h w
  unfold Z0a;split
  ·exact h1
  ·exact h1.trans (Z2s l _ _ h1.ok)
theorem Z5d{T:List Tq}{s:Ps}(hs:PsOK T s):PsGo T s (Z0e T s):=by
 refine⟨Z8q hs,?_,?_⟩
 · unfold Z0e Z0p
   repeat' split
   all_goals (try exact Y04 _)
   all_goals exact Nat.le_succ _
 · unfold Z0e Z0p
   repeat' split
   all_goals (try exact Y0q _)
   all_goals (simp only;omega)
theorem Zbp{T:List Tq}{rec1:Ps->Ex×Ps}(hrec:∀s,Kp s (rec1 s).2):∀(l:List (List UInt8×Int))(x:Ex)(s:Ps)(a:Bool),Kp s (Z1s T rec1 l x s a).2.1
 |[],x,s,a=>Kp.rfl'
 |(w,o)::l,x,s,a=>by
  unfold Z1s;split
  ·exact (Z5g T s w).trans ((hrec _).trans (Zbp hrec l _ _ _))
  ·exact (Z5g T s w).trans (Zbp hrec l _ _ _)
theorem ZiQ{T:List Tq}{rec1:Ps->Ex×Ps}(hrec:∀s,Kp s (rec1 s).2)(l:List (List UInt8×Int)):∀(k:Nat)(x:Ex)(s:Ps),Kp s (Z24 T rec1 l k x s).2
 |0,x,s=>Kp.rfl'
 |k+1,x,s=>by
  unfold Z24;split
  ·exact (Zbp hrec l _ _ _).trans (ZiQ hrec l k _ _)
  ·exact Zbp hrec l _ _ _
theorem Zkh{T:List Tq}{un:Ps->Ex×Ps}(hun:∀s,Kp s (un s).2):∀(m:Nat)(s:Ps),Kp s (Z3A T un m s).2
 |0,s=>hun s
 |m+1,s=>by
  unfold Z3A
  exact (Zkh hun m s).trans (ZiQ (Zkh hun m) _ _ _ _)
theorem Zp8{T:List Tq}{ex:Ps->Ex×Ps}(s:Ps):Kp s (Z1m T ex s).2:=λh=>by
 unfold Z1m;rw[if_pos h];exact h
theorem Zr5(T:List Tq):∀(d:Nat)(s:Ps),Kp s (unF T d s).2
 |0,s=>Kp.rfl'
 |d+1,s=>λh=>by
  unfold unF
  rw[if_pos ⟨ZbB h,ZbB h⟩]
  exact Zp8 s h
theorem Zgd(T:List Tq)(s:Ps):Kp s (Z0D T s).2:=Zkh (Zr5 T _) 9 s
theorem Z2i{T:List Tq}{s:Ps}(hs:PsOK T s):PsGo T s (Z0D T s).2:=(ZeM (gl:=λ_=>none) hs).1
def Z02(s:Ps):Ps:={ s with i:=s.i+1 }
theorem Z0b{T:List Tq}{s:Ps}(hs:PsOK T s){w:List UInt8}(h:isF T s w=true):PsGo T s (Z02 s):=by
 have hk:=Z4U h
 rw[Z0t hs.lt]at hk
 have hlo:=hs.lo
 exact⟨⟨hs.last _ hs.lt hk,hs.few,hs.last,by show -((s.i+1:Nat):Int)<=s.op;omega,hs.hi⟩,Nat.le_succ _,by show s.op+(s.i:Int)<=s.op+((s.i+1:Nat):Int);omega⟩
def kwB(w:List UInt8):Bool:=!upB w && !dnB w
theorem Z1u{T:List Tq}{s:Ps}{w:List UInt8}(hw:kwB w=true):Z0L T s w=isF T s w/\Z0l T s w=if isF T s w=true then Z02 s else s:=by
 unfold kwB at hw
 simp only[Y03,Y0g]at hw
 unfold Z0L Z0l Z02
 rw[hw.1,hw.2]
 simp
def Ze0(T:List Tq):FamM Y00 gl:=Z3g T 91 (by kernel_rfl) (I:=Unit) (λ_ s=>PsOK T s) (λ_=>[.ptr 0 0]) (λ_ s=>.str (Z0Z T s)) (λ_ s=>Z0e T s) (λ_=>rfl) (λ_ _ _=>rfl) (λ_ s h=>Zlq h)
def ZmS(T:List Tq):FamM Y00 gl:=Z3g T 121 (by kernel_rfl) (I:=Unit) (λ_ s=>PsOK T s) (λ_=>[.ptr 0 0]) (λ_ s=>.int .i64 (Z0a T s ordL 1).1) (λ_ s=>(Z0a T s ordL 1).2) (λ_=>rfl) (λ_ _ _=>rfl) (λ_ s h=>Zlw h)
def ZeN(T:List Tq):FamM Y00 gl:=Z3g T 51 (by kernel_rfl) (I:=Unit) (λ_ s=>PsOK T s) (λ_=>[.ptr 0 0,.int .i64 0]) (λ_ s=>.agg (Z0D T s).1.cells) (λ_ s=>(Z0D T s).2) (λ_=>rfl) (λ_ _ _=>rfl) (λ_ s h=>(ZeM h).2)
def Z28(T:List Tq)(s:Ps):Ex×Ps:=((Z0D T (Z03 T s [40])).1,Z03 T (Z0D T (Z03 T s [40])).2 [41])
theorem Z3L{T:List Tq}{s:Ps}(hs:PsOK T s):PsGo T s (Z28 T s).2:=by
 have h1:=Z0F hs [40]
 have h2:=Z2i h1.ok
 exact h1.trans (h2.trans (Z0F h2.ok _))
def Zsz(f:Nat):Bool:=Y01 f 92 || Y01 f 51
theorem ZqM{T:List Tq}{s:Ps}(hs:PsOK T s):MemQ Y00 gl 1 109 [.ptr 0 0] (psH T s) (.agg (Z28 T s).1.cells) (psH T (Z28 T s).2):=by
 obtain⟨O,hO,⟨p1,p2,-⟩,-⟩:=Z25 (P:=Y00) (gl:=gl) [Z5Z T,ZeN T] [] rfl
 have qn:∀w s X,PsOK T s->Z08 [0] X=true->Z06 Y00 O (psH T s++X) 92 [.ptr 0 0,.str w]=some (.tuple [],psH T (Z03 T s w)++X):=λw s X h hX=>p1 (w,s,X) ⟨h,hX⟩
 have qe:∀s X,PsOK T s->Z08 [0] X=true->Z06 Y00 O (psH T s++X) 51 [.ptr 0 0,.int .i64 0]=some (.agg (Z0D T s).1.cells,psH T (Z0D T s).2++X):=λs X h hX=>p2 ((),s,X) ⟨h,hX⟩
 clear p1 p2
 have h1:=Z5t hs [40]
 have h2:=(Z2i h1).ok
 have g1:=λX=>qn [40] s X hs
 have g2:=λX=>qe _ X h1
 have g3:=λX=>qn [41] _ X h2
 clear qn qe
 unfold Z28
 generalize Z03 T s [40]=s1 at *
 generalize Z0D T s1=r at *
 obtain⟨⟨o,n,nn,ks⟩,s2⟩:=r
 simp only at g3 h2⊢
 generalize Z03 T s2 [41]=s3 at *
 simp only[psH,Ex.cells]at g1 g2 g3⊢
 refine Z1c Zsz 3 follows Z05 hO Tryz.func109 rfl ?_
 repeat' ((conv=>whnf);first|refine exI (g1 _ rfl) ?_|refine exI (g2 _ rfl) ?_|refine exI (g3 _ rfl) ?_|refine stp ?_|with_reducible apply Z01<;>intro h)
 all_goals (try (conv=>whnf))
 all_goals exact⟨[0],rfl,⟨hbp,trivial⟩,rfl,Y02 rfl⟩
end
section
structure Kr (s s':Ps):Prop where
 st:s.err≠0->s'.err=s.err/\s'.at_=s.at_
 no:s'.err=0->s'.at_=s.at_
theorem Kr.rfl'{s:Ps}:Kr s s:=⟨λ_=>⟨rfl,rfl⟩,λ_=>rfl⟩
theorem Kr.eq{s s':Ps}(h:s'.err=s.err)(h2:s'.at_=s.at_):Kr s s':=⟨λ_=>⟨h,h2⟩,λ_=>h2⟩
theorem Kr.trans{a b c:Ps}(h:Kr a b)(k:Kr b c):Kr a c:=by
 refine⟨λe=>?_,λe=>?_⟩
 · obtain⟨h1,h2⟩:=h.st e
   obtain⟨h3,h4⟩:=k.st (by rw[h1];exact e)
   exact⟨h3.trans h1,h4.trans h2⟩
 · by_cases hb:b.err=0
   ·exact (k.no e).trans (h.no hb)
   ·exact absurd ((k.st hb).1.symm.trans e) hb
theorem Kr.live{s s':Ps}(h:Kr s s')(e:s'.err=0):s.err=0:=by
 by_cases hb:s.err=0
 ·exact hb
 ·exact absurd ((h.st hb).1.symm.trans e) hb
theorem Kr.x{s s':Ps}(h:Kr s s'):∀u,XF s u->XF s' u:=XF.less h.st
theorem Z2Z(s:Ps){e:Int}(a:Int)(he:e≠0):Kr s (Z0p s e a):=by
 unfold Z0p;split
 ·rename_i h;exact⟨λe=>absurd h e,λh=>absurd h he⟩
 ·exact Kr.rfl'
theorem Z0q(s:Ps):Kr s (Z02 s):=Kr.eq rfl rfl
theorem Z3m(T:List Tq)(s:Ps)(w:List UInt8):Kr s (Z0l T s w):=by
 unfold Z0l;split
 · split
   ·exact Z2Z _ _ (by decide)
   ·exact Kr.eq rfl rfl
 ·exact Kr.rfl'
theorem Z0s(T:List Tq)(s:Ps)(w:List UInt8):Kr s (Z03 T s w):=by
 unfold Z03;split
 ·exact Z3m T s w
 ·exact (Z3m T s w).trans (Z2Z _ _ (by decide))
theorem Z48(T:List Tq)(s:Ps):Kr s (Z0e T s):=by
 unfold Z0e;split
 ·exact Kr.eq rfl rfl
 ·exact Z2Z _ _ (by decide)
theorem Z3X(T:List Tq):∀(l:List (List UInt8))(s:Ps)(k:Int),Kr s (Z0a T s l k).2
 |[],s,k=>Z2Z _ _ (by decide)
 |w::l,s,k=>by
  unfold Z0a;split
  ·exact Z3m T s w
  ·exact (Z3m T s w).trans (Z3X T l _ _)
theorem Zbo{T:List Tq}{rec1:Ps->Ex×Ps}(hrec:∀s,Kr s (rec1 s).2):∀(l:List (List UInt8×Int))(x:Ex)(s:Ps)(a:Bool),Kr s (Z1s T rec1 l x s a).2.1
 |[],x,s,a=>Kr.rfl'
 |(w,o)::l,x,s,a=>by
  unfold Z1s;split
  ·exact (Z3m T s w).trans ((hrec _).trans (Zbo hrec l _ _ _))
  ·exact (Z3m T s w).trans (Zbo hrec l _ _ _)
theorem Zev{T:List Tq}{rec1:Ps->Ex×Ps}(hrec:∀s,Kr s (rec1 s).2)(l:List (List UInt8×Int)):∀(k:Nat)(x:Ex)(s:Ps),Kr s (Z24 T rec1 l k x s).2
 |0,x,s=>Kr.rfl'
 |k+1,x,s=>by
  unfold Z24;split
  ·exact (Zbo hrec l _ _ _).trans (Zev hrec l k _ _)
  ·exact Zbo hrec l _ _ _
theorem ZaN{T:List Tq}{un:Ps->Ex×Ps}(hun:∀s,Kr s (un s).2):∀(m:Nat)(s:Ps),Kr s (Z3A T un m s).2
 |0,s=>hun s
 |m+1,s=>by
  unfold Z3A
  exact (ZaN hun m s).trans (Zev (ZaN hun m) _ _ _ _)
theorem Zp7{T:List Tq}{ex:Ps->Ex×Ps}(hex:∀s,Kr s (ex s).2)(s:Ps):Kr s (Z1m T ex s).2:=by
 unfold Z1m
 repeat' split
 ·exact Kr.rfl'
 ·exact Kr.eq rfl rfl
 ·exact Kr.eq rfl rfl
 ·exact (Z3m T s _).trans ((hex _).trans (Z0s T _ _))
 ·exact (Z3m T s _).trans (Z2Z _ _ (by decide))
theorem Ze2(T:List Tq):∀(d:Nat)(s:Ps),Kr s (unF T d s).2
 |0,s=>Kr.rfl'
 |d+1,s=>by
  unfold unF
  have h1:∀x:Int,Kr s { (unF T d { s with i:=s.i+1,op:=s.op+1 }).2 with op:=x }:=λx=>(Kr.eq (s:=s) (s':={ s with i:=s.i+1,op:=s.op+1 }) rfl rfl).trans ((Ze2 T d _).trans (Kr.eq rfl rfl))
  split
  ·exact Zp7 (λs=>ZaN (Ze2 T d) 9 s) s
  · split
    ·exact Z2Z _ _ (by decide)
    ·exact h1 _
theorem Z6M(T:List Tq)(s:Ps):Kr s (Z0D T s).2:=ZaN (Ze2 T _) 9 s
theorem Z65(T:List Tq)(s:Ps):Kr s (Z28 T s).2:=(Z0s T s [40]).trans ((Z6M T _).trans (Z0s T _ _))
def kyB(w:List UInt8):Bool:=match w with
 |b::_=>decide (97<=b)&&decide (b<=122)
 |[]=>false
structure TqOK (T:List Tq):Prop where
 sg:∀i (h:i<T.length),T[i].kind=4->kyB T[i].text=false/\T[i].text≠[]
 ky:∀i (h:i<T.length),T[i].kind=2->kyB T[i].text=true
def gis(T:List Tq)(s:Ps)(k:Int)(w:List UInt8):Bool:=(Z0r T s).kind==k&&(Z0r T s).text==w
theorem Z4X{T:List Tq}{s:Ps}(hT:TqOK T)(hs:PsOK T s)(he:s.err=0){w:List UInt8}(hw:kyB w=false):gis T s 4 w=isF T s w:=by
 unfold gis isF
 have h1:=hT.ky s.i hs.lt
 rw[<- Z0t hs.lt]at h1
 rw[he]
 by_cases h2:(Z0r T s).kind=2
 · have h3:=h1 h2
   have h4:((Z0r T s).text==w)=false:=by
    cases hq:(Z0r T s).text==w with
    |false=>rfl
    |true=>rw[eq_of_beq hq,hw]at h3;cases h3
   rw[h4];simp
 · have h3:((Z0r T s).kind==2)=false:=by simpa using h2
   rw[h3];simp
theorem Z4Y{T:List Tq}{s:Ps}(hT:TqOK T)(hs:PsOK T s)(he:s.err=0){w:List UInt8}(hw:kyB w=true):gis T s 2 w=isF T s w:=by
 unfold gis isF
 have h1:=hT.sg s.i hs.lt
 rw[<- Z0t hs.lt]at h1
 rw[he]
 by_cases h2:(Z0r T s).kind=4
 · have h3:=(h1 h2).1
   have h4:((Z0r T s).text==w)=false:=by
    cases hq:(Z0r T s).text==w with
    |false=>rfl
    |true=>rw[eq_of_beq hq,hw]at h3;cases h3
   rw[h4];simp
 · have h3:((Z0r T s).kind==4)=false:=by simpa using h2
   rw[h3];simp
theorem Z6H{T:List Tq}{s:Ps}{k:Int}{w:List UInt8}(h:gis T s k w=true):(Z0r T s).kind=k:=by
 unfold gis at h
 simp only[Y03,beq_iff_eq]at h
 exact h.1
def sgF(T:List Tq)(s:Ps)(w:List UInt8):Ps:=if gis T s 4 w=true then Z02 s else Z0p s 5 (Z0r T s).pos
def enF(T:List Tq)(s:Ps)(w:List UInt8):Ps:=if gis T s 4 w=true then (if s.op=200 then Z0p s 3 (Z0r T s).pos else { s with i:=s.i+1,op:=s.op+1 }) else Z0p s 5 (Z0r T s).pos
def lvF(T:List Tq)(s:Ps)(w:List UInt8):Ps:=if gis T s 4 w=true then { s with i:=s.i+1,op:=s.op-1 } else Z0p s 5 (Z0r T s).pos
theorem Zlj{T:List Tq}{s:Ps}(hT:TqOK T)(hs:PsOK T s)(he:s.err=0){w:List UInt8}(hw:kyB w=false)(hk:kwB w=true):sgF T s w=Z03 T s w:=by
 obtain⟨h1,h2⟩:=Z1u (T:=T) (s:=s) hk
 unfold sgF Z03
 rw[Z4X hT hs he hw,h1,h2]
 split
 ·rfl
 ·rfl
theorem Zgh{T:List Tq}{s:Ps}(hT:TqOK T)(hs:PsOK T s)(he:s.err=0){w:List UInt8}(hw:kyB w=false)(hk:upB w=true):enF T s w=Z03 T s w:=by
 unfold enF Z03 Z0L Z0l
 rw[Z4X hT hs he hw,hk]
 by_cases h1:isF T s w=true
 · by_cases h2:s.op=200
   ·simp[h1,h2,Z0p,he]
   · have h3:(s.op==200)=false:=by simpa using h2
     simp[h1,h2,h3]
 · have h3:isF T s w=false:=by simpa using h1
   simp[h3]
theorem ZfQ{T:List Tq}{s:Ps}(hT:TqOK T)(hs:PsOK T s)(he:s.err=0){w:List UInt8}(hw:kyB w=false)(hk:upB w=false)(hd:dnB w=true):lvF T s w=Z03 T s w:=by
 unfold lvF Z03 Z0L Z0l
 rw[Z4X hT hs he hw,hk,hd]
 by_cases h1:isF T s w=true
 ·simp[h1]
 · have h3:isF T s w=false:=by simpa using h1
   simp[h3]
end
end Go.Proofs.YtneoiadnbikciaaGreatDoor.lex

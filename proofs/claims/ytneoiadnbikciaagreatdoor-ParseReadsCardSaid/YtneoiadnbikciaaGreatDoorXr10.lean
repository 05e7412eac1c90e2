/-
  Texts of this proof, one behind the other (part 10).
-/
import Derived.Test.YtneoiadnbikciaaGreatDoorXr7
set_option linter.unusedVariables false
set_option linter.unusedSimpArgs false
set_option linter.unusedSectionVars false
set_option maxRecDepth 100000
set_option maxHeartbeats 4000000
open Go.Proofs.Tryz renaming prog → Y00,func49 → Y0s
open Nat renaming le_refl → Y01,zero_le → Y05,beq → Y0i,lt_succ_self → Y0j,le_trans → Y0n,sub_add_cancel → Y0t
open Go.Abs.Wk renaming int → Y02,noref → Y03,ptr → Y06,slice → Y0e
open Go.Abs.FgL renaming mk → Y04,mk0 → Y0a
open List renaming take_zero → Y07,take_succ_cons → Y08,length_nil → Y09,take_length → Y0b,append_nil → Y0d,getElem_cons_zero → Y0k,getElem_cons_succ → Y0l,drop_eq_getElem_cons → Y0o,length_cons → Y0p,mem_singleton → Y0r,length_drop → Y0w,drop_eq_nil_of_le → Y0x,getElem_mem → Y0z,length_take → Y0A
open And renaming intro → Y0c
open Go.Abs.FgLK renaming mk → Y0f
open Bool renaming and_eq_true → Y0g,true_and → Y0h,and_true → Y0q,false_eq_true → Y0u,and_false → Y0v,not_eq_true' → Y0y
open Go.Abs.BodyGe renaming pre → Y0m
section
namespace Go.Abs
open Go.RowKit
section code
variable {P:Program} {gl:Z0k} {orc:Orc} {k:Nat} {rd:Option Nat}
theorem Zl3(hm:P.follows .mixedOrders=true)(hn:NoNum P)(hO:OrcSound P gl orc){cw:CW}(hcw:Z5O P orc cw)(c:Code){kn:Tr->Z00->Prop}{kx:Nat->Tr->Z00->Prop}{kr:Tr->Z00->Prop}{tm:Tr}{H:Z00}
 (h:Z29 P gl orc cw (Zab k) c kn kx kr tm H):Tri P gl rd k c tm H (Zpx kn kx kr):=Z1B (λ_ _ _ _ _ _ _ _ _ _ _ h=>h.elim) hm hn hO hcw c h
end code
end Go.Abs
end
section
namespace Go.Abs
open Go.RowKit Go.ChangeShapes Go.WideShapes Go.ChangeAt
def ZrG(P:Program)(t:TypeId)(Q:List AV->Prop):Prop :=
 ∀(H:Type)(enc:TypeId×Value->H)(W:World)(fuel:Nat)(cs:List Value)(x:DataW H×List MemPlace),DataW.trod enc P W 0 (λ_=>true) true fuel t cs=some x->∃us,Q us/\LR (Z4H W) noI us cs
section opens
variable {P:Program}
theorem ZiG{t:TypeId}(ht:P.underlying t=some .string):ZrG P t λus=>∃s:List UInt8,us=[.str s]/\s.length<=maxLen:=by
 intro H enc W fuel cs x h
 obtain⟨s,rfl,_,hw⟩:=DataW.trod_string ht h
 refine⟨_,⟨s.data.toList,rfl,?_⟩,by simp[LR,VR]⟩
 have:s.data.toList.length=s.size:=by cases s;rfl
 omega
end opens
end Go.Abs
end
section
namespace Go.Abs
open Go.RowKit Go.ChangeShapes Go.WideShapes Go.ChangeAt
section opens
variable {P:Program}
theorem Zqa{sn:Z0o}{ι : Z0n}{u:AV}{v:Value}(h:LR sn ι [u] [v]):VR sn ι u v:=by
 simp only[LR]at h
 obtain⟨d,ds,e,h1,h2⟩:=h
 simp at e;obtain⟨rfl,rfl⟩:=e
 exact h1
theorem Zha{t:TypeId}(ht:P.underlying t=some .string):Znm P t λu=>∃s:List UInt8,u = .str s/\s.length<=maxLen:=by
 intro H enc W r b v d p hv ⟨fuel,h⟩
 obtain⟨n,rfl⟩:=okWide_string ht hv
 obtain⟨us,⟨s,rfl,hs⟩,hl⟩:=ZiG ht H enc W fuel _ _ h
 exact⟨_,⟨s,rfl,hs⟩,Zqa (by simpa[Value.cells]using hl)⟩
end opens
theorem Zku{Q:AV->Prop}{Qs:List (AV->Prop)}{us:List AV}(h:Znp (Q::Qs) us):∃u us',us=u::us'/\Q u/\Znp Qs us':=by
 cases us with
 |nil=>exact h.elim
 |cons u us=>exact⟨u,us,rfl,h.1,h.2⟩
end Go.Abs
end
section
namespace Go.Abs
open Go.RowKit
theorem Zbb{cs:List AV}{off:Nat}{c:AV}(h:cs[off]? = some c):tk 1 (cs.drop off)=some [c]:=by
 obtain⟨hl,rfl⟩:=List.getElem?_eq_some_iff.1 h
 rw[Y0o hl];simp[tk]
end Go.Abs
end
namespace Go.Proofs.YtneoiadnbikciaaGreatDoor.lex
open Go.Abs Go.RowKit
section
variable {gl:Z0k}
theorem Z2D{p:Int->Bool}{s:List UInt8}{e:Nat}(h:e<s.length):Z0d p (s.drop e)=if p s[e].toNat then Z0d p (s.drop (e+1))+1 else 0:=by
 rw[Y0o h]
 cases hp:p s[e].toNat with
 |true=>rw[Z1i _ hp];rfl
 |false=>rw[Z1r _ hp];rfl
theorem Z4G{p:Int->Bool}{s:List UInt8}{e:Nat}(h:¬e<s.length):Z0d p (s.drop e)=0:=by
 rw[Y0x (by omega)];rfl
section
attribute [local irreducible] Z0j
end
theorem Zcm{s:List UInt8}(h:0<s.length):Z0j s=if Z4S s[0].toNat then Z0d Z4s s else 0:=by
 cases s with
 |nil=>simp at h
 |cons c t=>rfl
def ZpD(s:List UInt8)(i:Nat):Prop:=i<=s.length/\(i=0\/(0<i/\Z0j s=Z0d Z4s s/\Z0d Z4s s=i+Z0d Z4s (s.drop i)))
theorem Zcp{s:List UInt8}{i:Nat}(h:ZpD s i)(hlt:i<s.length)(h2:Z4S s[i].toNat=true\/(i≠0/\Z4s s[i].toNat=true)):ZpD s (i+1):=by
 have hat:=Z2D (p:=Z4s) hlt
 have hw:Z4s s[i].toNat=true:=by rcases h2 with h2|h2;simp[Z4s,h2];exact h2.2
 rw[hw,if_pos rfl]at hat
 refine⟨hlt,.inr ⟨by omega,?_,?_⟩⟩
 · rcases h.2 with h0|h0
   · subst h0
     have:Z4S s[0].toNat=true:=by rcases h2 with h2|h2;exact h2;exact absurd rfl h2.1
     rw[Zcm (by omega),this,if_pos rfl]
   ·exact h0.2.1
 · rcases h.2 with h0|h0
   ·subst h0;rw[List.drop_zero]at hat;omega
   ·omega
theorem Zfg{s:List UInt8}{i:Nat}(h:ZpD s i)(hlt:i<s.length)(h1:Z4S s[i].toNat=false)(h2:i=0\/Z4s s[i].toNat=false):Z47 s = .tuple [.int .i64 0,.bool false]:=by
 unfold Z47
 rw[if_neg]
 rintro⟨_,h4⟩
 rcases h.2 with h0|h0
 · subst h0
   rw[Zcm (by omega),h1]at h4
   simp at h4;omega
 · have hat:=Z2D (p:=Z4s) hlt
   rcases h2 with h2|h2
   ·omega
   ·rw[h2,if_neg (by decide)]at hat;omega
theorem Zl4{s:List UInt8}(h:ZpD s s.length)(h0:s≠[]):Z47 s = .tuple [.int .i64 (if keysL.contains s then 2 else 1),.bool true]:=by
 have hl:0<s.length:=List.length_pos_iff.2 h0
 unfold Z47
 rw[if_pos]
 refine⟨h0,?_⟩
 rcases h.2 with h1|h1
 ·omega
 ·have:=Z4G (p:=Z4s) (s:=s) (e:=s.length) (by omega);omega
theorem Zl0(s:List UInt8)(hs:s.length<=9223372036854775807):ValOK Y00 gl 73 [.str s] (Z47 s):=by
 refine Z0v follows Z05 Z8L Tryz.func73 rfl ?_
 conv=>whnf
 repeat' ((conv=>whnf);first|refine stp ?_|with_reducible apply Z01<;>intro h)
 conv=>whnf
 refine⟨Nat,ZpD s,(λi=>[(0,.str s),(4,.int .i64 i)]),(λ_=>[]),(λi=>s.length-i),⟨0,⟨Y05 _,.inl rfl⟩,Y0a rfl ⟨Y03 rfl,Y02 rfl,trivial⟩⟩,?_⟩
 intro i hI
 have hi:=hI.1
 by_cases hlt:i<s.length
 · have e1:decide ((i:Int)<(s.length:Int))=true:=by simpa using hlt
   have hx:s[i]? = some s[i]:=by simp[hlt]
   have u1:=Z5F s[i] 95 (by decide)
   cases hl:Z4S s[i].toNat with
   |true =>
    repeat' ((conv=>whnf);first|with_reducible refine ixS _ rfl hx ?_|refine stp ?_|with_reducible apply Z01<;>intro h)
    conv=>whnf
    exact⟨i+1,Zcp hI hlt (.inl hl),by show s.length-(i+1)<s.length-i;omega,Y0a rfl ⟨Y03 rfl,Y02 rfl,trivial⟩⟩
   |false =>
    by_cases h0:i=0
    · have e2:((i:Int)==0)=true:=by simp[h0]
      repeat' ((conv=>whnf);first|with_reducible refine ixS _ rfl hx ?_|refine stp ?_|with_reducible apply Z01<;>intro h)
      exact (Zfg hI hlt hl (.inl h0)).symm
    · have e2:((i:Int)==0)=false:=by simp[h0]
      cases hw:Z4s s[i].toNat with
      |true =>
       repeat' ((conv=>whnf);first|with_reducible refine ixS _ rfl hx ?_|refine stp ?_|with_reducible apply Z01<;>intro h)
       all_goals (first|(exfalso;simp_all[Z4s];done)|skip)
       all_goals (conv=>whnf)
       all_goals exact⟨i+1,Zcp hI hlt (.inr ⟨h0,hw⟩),by show s.length-(i+1)<s.length-i;omega,Y0a rfl ⟨Y03 rfl,Y02 rfl,trivial⟩⟩
      |false =>
       repeat' ((conv=>whnf);first|with_reducible refine ixS _ rfl hx ?_|refine stp ?_|with_reducible apply Z01<;>intro h)
       all_goals (first|(exfalso;simp_all[Z4s];done)|skip)
       all_goals exact (Zfg hI hlt hl (.inr hw)).symm
 · have e1:decide ((i:Int)<(s.length:Int))=false:=by simpa using hlt
   have hi2:i=s.length:=by omega
   subst hi2
   by_cases h0:s=[]
   · have e2:(s==[])=true:=by simpa using h0
     repeat' ((conv=>whnf);first|refine stp ?_|with_reducible apply Z01<;>intro h)
     unfold Z47;rw[if_neg (λh=>h.1 h0)]
   · have e2:(s==[])=false:=by simpa using h0
     repeat' ((conv=>whnf);first|refine stp ?_|with_reducible apply Z01<;>intro h)
     rw[Zl4 hI h0]
end
section
variable {gl:Z0k}
theorem Z7c:∀(l:List Ex)(i:Nat)(h:i<l.length),sizeL (l.take (i+1))=sizeL (l.take i)+Z0A l[i]
 |e::l,0,h=>by simp only[Y08,Y07,sizeL,Y0k];omega
 |e::l,i+1,h=>by
  have:=Z7c l i (by simpa using h)
  simp only[Y08,sizeL,Y0l]at this⊢;omega
theorem Z35:∀l:List Ex,l.length<=sizeL l
 |[]=>Y05 _
 |e::l=>by have:=Z35 l;have:=Z4J e;simp only[sizeL,Y0p];omega
theorem Z7y:∀(l:List Ex)(i:Nat)(h:i<l.length),deepL (l.take (i+1))=max (deepL (l.take i)) (Z4z l[i])
 |e::l,0,h=>by simp only[Y08,Y07,deepL,Y0k];omega
 |e::l,i+1,h=>by
  have:=Z7y l i (by simpa using h)
  simp only[Y08,deepL,Y0l]at this⊢;omega
mutual
theorem ZaJ:∀e:Ex,Z4z e<=Z0A e
 | .mk _ _ _ k=>by have:=deepL_size k;simp only[Z4z,Z0A];omega
theorem deepL_size:∀l:List Ex,deepL l<=sizeL l
 |[]=>Y01 _
 |e::l=>by have:=ZaJ e;have:=deepL_size l;simp only[deepL,sizeL];omega
end
theorem ZjM(e:Ex):refsL [.agg e.cells] []=[]:=by
 obtain⟨o,n,s,k⟩:=e
 simp only[Ex.cells];rfl
theorem Zkv{a b:Ex}(h:[AV.agg a.cells]=[AV.agg b.cells]):a=b:=by
 simp only[List.cons.injEq,AV.agg.injEq,and_true]at h
 exact Z6R _ _ h
def famE{g:Nat}(hb:Z0m Y00 g=true)(r:Ex->AV)(l:List Ex)(each:∀k∈l,ValOK Y00 gl g [.agg k.cells] (r k)):Fam Y00 gl where
 I:=Ex
 f:=g
 G:=λk=>k∈l
 A:=λk=>[.agg k.cells]
 R:=r
 body:=hb
 inj:=λi j _ _ h=>by rw[Zkv h]
 ok:=λk hk=>⟨ZjM k,each k hk⟩
theorem Zbj:∀(n:Nat)(e:Ex),Z0A e<=n->Z0A e<=1048576->ValOK Y00 gl 76 [.agg e.cells] (.int .i64 (Z0A e))
 |0,e,h,_=>by have:=Z4J e;omega
 |n+1,.mk op num name kids,h,hb=>by
  simp only[Z0A]at h hb⊢
  obtain⟨O,hO,q,-⟩:=fams (P:=Y00) (gl:=gl) [famE (g:=76) (by kernel_rfl) (λk=>.int .i64 (Z0A k)) kids λk hk=>Zbj n k (by have:=Z1V _ _ hk;omega) (by have:=Z1V _ _ hk;omega)] rfl
  have hlen:=Z35 kids
  simp only[Ex.cells]
  refine Z0v follows Z05 hO Tryz.func76 rfl ?_
  repeat' ((conv=>whnf);first|refine stp ?_|with_reducible apply Z01<;>intro h)
  conv=>whnf
  refine⟨Nat,(λi=>i<=kids.length),(λi=>[(1,.ptr 0 0),(3,.int .i64 (1+sizeL (kids.take i):Nat)),(4,.int .i64 i)]),(λ_=>[⟨true,0,0,.cells [.int .i64 op,.int .i64 num,.str name,.rs kids.length 4 (exC kids)] 47⟩]),(λi=>kids.length-i),⟨0,Y05 _,Y04 [0] rfl ?_ ⟨hbp,trivial⟩ rfl⟩,?_⟩
  ·simp only[Y07,sizeL];exact wks
  intro i hi
  dsimp only
  by_cases hlt:i<kids.length
  · have e1:decide ((i:Int)<(kids.length:Int))=true:=by simpa using hlt
    have hx:=ex4 kids i hlt
    have hs:=Z7c kids i hlt
    have hg:=Z6n kids i hlt
    have q1:∀H,Z06 Y00 O H 76 [.agg kids[i].cells]=some (.int .i64 (Z0A kids[i]),H):=q _ (Z0N hlt)
    generalize kids[i]=k at *
    repeat' ((conv=>whnf);first|refine exI hx ?_|refine exI (q1 _) ?_|(with_reducible refine ixJ i rfl ?_ ?_;focus omega)|refine stp ?_|with_reducible apply Z01<;>intro h)
    conv=>whnf
    refine⟨i+1,hlt,by show kids.length-(i+1)<kids.length-i;omega,Y04 [0] rfl ?_ ⟨hbp,trivial⟩ rfl⟩
    rw[hs,<- Nat.add_assoc];exact wks
  · have e1:decide ((i:Int)<(kids.length:Int))=false:=by simpa using hlt
    have hi2:i=kids.length:=by have:=hi;omega
    subst hi2
    repeat' ((conv=>whnf);first|refine stp ?_|with_reducible apply Z01<;>intro h)
    simp only[Y0b];rfl
theorem ZbT:∀(n:Nat)(e:Ex),Z0A e<=n->Z0A e<=1048576->ValOK Y00 gl 96 [.agg e.cells] (.int .i64 (Z4z e))
 |0,e,h,_=>by have:=Z4J e;omega
 |n+1,.mk op num name kids,h,hb=>by
  simp only[Z0A]at h hb
  simp only[Z4z]
  obtain⟨O,hO,q,-⟩:=fams (P:=Y00) (gl:=gl) [famE (g:=96) (by kernel_rfl) (λk=>.int .i64 (Z4z k)) kids λk hk=>ZbT n k (by have:=Z1V _ _ hk;omega) (by have:=Z1V _ _ hk;omega)] rfl
  have hlen:=Z35 kids
  have hds:=deepL_size kids
  simp only[Ex.cells]
  refine Z0v follows Z05 hO Tryz.func96 rfl ?_
  repeat' ((conv=>whnf);first|refine stp ?_|with_reducible apply Z01<;>intro h)
  conv=>whnf
  refine⟨Nat,(λi=>i<=kids.length),(λi=>[(1,.ptr 0 0),(3,.int .i64 (deepL (kids.take i))),(4,.int .i64 i)]),(λ_=>[⟨true,0,0,.cells [.int .i64 op,.int .i64 num,.str name,.rs kids.length 4 (exC kids)] 47⟩]),(λi=>kids.length-i),⟨0,Y05 _,Y04 [0] rfl ?_ ⟨hbp,trivial⟩ rfl⟩,?_⟩
  ·simp only[Y07,deepL];exact wks
  intro i hi
  dsimp only
  by_cases hlt:i<kids.length
  · have e1:decide ((i:Int)<(kids.length:Int))=true:=by simpa using hlt
    have hx:=ex4 kids i hlt
    have hs:=Z7y kids i hlt
    have q1:∀H,Z06 Y00 O H 96 [.agg kids[i].cells]=some (.int .i64 (Z4z kids[i]),H):=q _ (Z0N hlt)
    generalize kids[i]=k at *
    repeat' ((conv=>whnf);first|refine exI hx ?_|refine exI (q1 _) ?_|(with_reducible refine ixJ i rfl ?_ ?_;focus omega)|refine stp ?_|with_reducible apply Z01<;>intro h)
    conv=>whnf
    refine⟨i+1,hlt,by show kids.length-(i+1)<kids.length-i;omega,Y04 [0] rfl ?_ ⟨hbp,trivial⟩ rfl⟩
    refine Y0c (Y06 rfl rfl) ?_
    refine Y0c (Y02 ?_) ?_
    ·rw[hs];split<;>omega
    exact wks
  · have e1:decide ((i:Int)<(kids.length:Int))=false:=by simpa using hlt
    have hi2:i=kids.length:=by have:=hi;omega
    subst hi2
    rw[Y0b]
    repeat' ((conv=>whnf);first|refine stp ?_|with_reducible apply Z01<;>intro h)
    rfl
end
end Go.Proofs.YtneoiadnbikciaaGreatDoor.lex
section
namespace Go.Abs
open Go.RowKit
def Z9W(P:Program)(gl:Z0k)(f:Nat)(args:List AV)(r:AV)(N:Z00):Prop :=
 ∀(sn:Z0o)(W:World)(cargs:List Value),GlOK gl sn->R sn noI [] W->LR sn noI args cargs ->
  Calls P f cargs.toArray W λe W'=>∃v sn' ι',e = .returned v/\VR sn' ι' r v/\Stq 0 sn noI [] W sn' ι' N W'
def shO(d:Nat)(o:AObj):AObj:=⟨o.alive,o.fam+d,o.sh,Z5I (· + d) o.body⟩
def shA(d:Nat)(N:Z00):Z00:=N.map (shO d)
theorem ZnN{d:Nat}{N:Z00}{b:Nat}{o:AObj}(h:(shA d N)[b]? = some o):∃o0,N[b]? = some o0/\o=shO d o0:=by
 unfold shA at h
 rw[List.getElem?_map]at h
 cases hN:N[b]? with
 |none=>rw[hN]at h;cases h
 |some o0=>rw[hN]at h;simp at h;exact⟨o0,rfl,h.symm⟩
section
open Classical
noncomputable def ZnX{I:Type}(G:I->Prop)(fF:I->Nat)(fA:I->List AV)(fR:I->AV)(fN:I->Z00):Orc:=λf args H =>
 if h:∃i,G i/\fF i=f/\fA i=args then some (ren (· + H.length) (fR (Classical.choose h)),H++shA H.length (fN (Classical.choose h))) else none
theorem Zh8 {P : Program} {gl : Z0k} {I : Type} {G : I -> Prop} {fF : I -> Nat} {fA : I -> List AV} {fR : I -> AV} {fN : I -> Z00}
  (h:∀i,G i->refsL (fA i) []=[]/\(∀o∈fN i,o.alive=true)/\Z9W P gl (fF i) (fA i) (fR i) (fN i)):OrcSound P gl (ZnX G fF fA fR fN):=by
 intro f args H r H' e sn ι W cargs hg hR ha
 unfold ZnX at e
 split at e
 · rename_i hi
   simp only[Option.some.injEq,Prod.mk.injEq]at e
   obtain⟨rfl,rfl⟩:=e
   obtain⟨h1,h2,h3⟩:=Classical.choose_spec hi
   generalize Classical.choose hi=i at *
   subst h2;subst h3
   obtain⟨hr,hal,hok⟩:=h i h1
   have hR0:R sn noI [] W:=⟨λb=>⟨λhb=>(by simp at hb),λ⟨p,hp⟩=>(by cases hp)⟩,λb p hp=>(by cases hp),λb o p hb=>(by simp at hb),λb b' o o' p p' hb=>(by simp at hb),
    λa v hv=>⟨(hR.snap a v hv).1,(hR.snap a v hv).2.1,λb o p hb=>(by simp at hb)⟩,λb o p hb=>(by simp at hb)⟩
   have ha0:LR sn noI (fA i) cargs:=by
    have:VR sn ι (.tuple (fA i)) (.tuple cargs.toArray):=by simp only[VR];exact⟨_,rfl,by simpa using ha⟩
    have h2:=Z1n (ι:=ι) (ι':=noI) (.tuple (fA i)) [] _ (λx hx=>by simp only[Z2a]at hx;rw[hr]at hx;cases hx) this
    simp only[VR]at h2
    obtain⟨d,e1,e2⟩:=h2
    simp at e1;subst e1;simpa using e2
   refine (hok sn W cargs hg hR0 ha0).monoY ?_
   rintro e W' ⟨v,sn',ι',rfl,hv,hs⟩
   generalize hd:H.length=d
   let κ : Z0n:=λb=>if b<d then ι b else ι' (b-d)
   have k1:∀b,b<d -> κ b = ι b:=λb hb=>if_pos hb
   have k2:∀b,κ (b+d) = ι' b:=λb=>by show (if b+d<d then ι (b+d) else ι' (b+d-d)) = ι' b;rw[if_neg (by omega),Nat.add_sub_cancel]
   have hκ : (λb=>κ (b+d)) = ι':=funext k2
   have hle:Le sn sn' ι κ:=⟨hs.le,λb p hb=>by
    have:b<d:=by have:=(hR.dom b).2 ⟨p,hb⟩;omega
    rw[k1 b this];exact hb⟩
   have hframe:∀c,c<W.heap.size->W'.heap[c]? = W.heap[c]?:=λc hc=>hs.frame c hc λb o p hb=>by simp at hb
   have hnew:∀(b:Nat)(o:AObj) p,(fN i)[b]? = some o -> ι' b=some p->W.heap.size<=p.blk:=λb o p hb hp=>by
    rcases hs.fresh b o p hb (hal o (List.mem_of_getElem? hb)) hp with h|⟨b0,o0,p0,h,_⟩
    ·exact h
    ·simp at h
   have hget:∀(b:Nat)(o:AObj) p,(H++shA d (fN i))[b]? = some o -> κ b=some p->(b<d/\H[b]? = some o /\ ι b=some p/\p.blk<W.heap.size)\/∃o0,d<=b/\(fN i)[b-d]? = some o0/\o=shO d o0 /\ ι' (b-d)=some p/\W.heap.size<=p.blk:=by
    intro b o p hb hp
    by_cases hlt:b<d
    · rw[List.getElem?_append_left (by omega)]at hb
      rw[k1 b hlt]at hp
      exact .inl ⟨hlt,hb,hp,hR.blk b p hp⟩
    · rw[List.getElem?_append_right (by omega),hd]at hb
      obtain⟨o0,e1,e2⟩:=ZnN hb
      have hp2 : ι' (b-d)=some p:=by have:=k2 (b-d);rw[Y0t (by omega)]at this;rw[<- this];exact hp
      exact .inr ⟨o0,by omega,e1,e2,hp2,hnew _ _ _ e1 hp2⟩
   have hrel:R sn' κ (H++shA d (fN i)) W':=by
    refine⟨λb=>⟨λhb=>?_,λ⟨p,hp⟩=>?_⟩,λb p hp=>?_,λb o p hb ha hp=>?_,λb b' o o' p p' hb hb' ha ha' hp hp' e=>?_,λa v hv=>?_,λb o p hb hp e=>?_⟩
    · by_cases hlt:b<d
      ·rw[k1 b hlt];exact (hR.dom b).1 (by omega)
      · have:b-d<(fN i).length:=by simp[shA]at hb;omega
        obtain⟨p,hp⟩:=(hs.rel.dom (b-d)).1 this
        have:=k2 (b-d);rw[Y0t (by omega)]at this
        exact⟨p,by rw[this];exact hp⟩
    · by_cases hlt:b<d
      ·simp;omega
      · have:=k2 (b-d);rw[Y0t (by omega)]at this
        rw[this]at hp
        have:=(hs.rel.dom (b-d)).2 ⟨p,hp⟩
        simp[shA];omega
    · by_cases hlt:b<d
      · rw[k1 b hlt]at hp
        have:=hR.blk b p hp;have:=hs.size;omega
      · have:=k2 (b-d);rw[Y0t (by omega)]at this
        rw[this]at hp
        exact hs.rel.blk _ p hp
    · rcases hget b o p hb hp with ⟨h1,h2,h3,h4⟩|⟨o0,h1,h2,rfl,h3,h4⟩
      ·exact Z0P hle (hframe _ h4) (hR.obj b o p h2 ha h3)
      · have h5:=hs.rel.obj _ _ _ h2 ha h3
        refine Z89 _ ?_
        show OR sn' (λb=>κ (b+d)) W' o0.body p
        rw[hκ];exact h5
    · rcases hget b o p hb hp with ⟨h1,h2,h3,h4⟩|⟨o0,h1,h2,rfl,h3,h4⟩<;>rcases hget b' o' p' hb' hp' with ⟨g1,g2,g3,g4⟩|⟨o0',g1,g2,rfl,g3,g4⟩
      ·exact hR.sep b b' o o' p p' h2 g2 ha ha' h3 g3 e
      ·omega
      ·omega
      · obtain⟨e1,e2⟩:=hs.rel.sep _ _ _ _ p p' h2 g2 ha ha' h3 g3 e
        exact⟨by simp only[shO,e1],e2⟩
    · obtain⟨g1,g2,g3⟩:=hs.rel.snap a v hv
      refine⟨g1,g2,λb o p hb ha hp=>?_⟩
      rcases hget b o p hb hp with ⟨h1,h2,h3,h4⟩|⟨o0,h1,h2,rfl,h3,h4⟩
      · rcases hs.sfresh a v hv with h|h|⟨b0,o0,p0,h,_⟩
        ·exact (hR.snap a v h).2.2 b o p h2 ha h3
        ·omega
        ·simp at h
      ·exact g3 _ _ p h2 ha h3
    · rcases hget b o p hb hp with ⟨h1,h2,h3,h4⟩|⟨o0,h1,h2,rfl,h3,h4⟩
      ·exact hR.shz b o p h2 h3 e
      ·exact hs.rel.shz _ _ p h2 h3 e
   refine⟨v,sn',κ,rfl,?_,hrel,hle,λb p hp=>?_,λc hc _=>hframe c hc,hs.size,hs.os,hs.tape,hs.output,λa v hv=>?_,λb o hb=>?_⟩
   ·rw[Z5c,hκ];exact hv
   · by_cases hlt:b<d
     ·rw[k1 b hlt]at hp;exact .inl hp
     · have h3:=k2 (b-d);rw[Y0t (by omega)]at h3
       rw[h3]at hp
       obtain⟨o,ho⟩:∃o,(fN i)[b-d]? = some o:=⟨_,List.getElem?_eq_getElem ((hs.rel.dom (b-d)).2 ⟨p,hp⟩)⟩
       exact .inr (.inl (hnew _ _ _ ho hp))
   · rcases hs.sfresh a v hv with h|h|⟨b0,o0,p0,h,_⟩
     ·exact .inl h
     ·exact .inr (.inl h)
     ·simp at h
   ·exact⟨o,by rw[List.getElem?_append_left (List.getElem?_eq_some_iff.1 hb).1];exact hb,rfl,rfl,id⟩
 ·cases e
end
structure FamN (P:Program) (gl:Z0k) where
 I:Type
 f:Nat
 G:I->Prop
 A:I->List AV
 R:I->AV
 N:I->Z00
 body:Z0m P f=true
 inj:∀i j,G i->G j->A i=A j->R i=R j/\N i=N j
 ok:∀i,G i->refsL (A i) []=[]/\(∀o∈N i,o.alive=true)/\Z9W P gl f (A i) (R i) (N i)
theorem Zm9 {P : Program} {gl : Z0k} (F : FamN P gl) {O : Orc} (hO : OrcSound P gl O) : ∃ O', OrcSound P gl O' /\ (∀ i, F.G i -> ∀ H, Z06 P O' H F.f (F.A i) = some (ren (· + H.length) (F.R i), H ++ shA H.length (F.N i))) /\
  ∀g,g≠F.f->∀args H,Z06 P O' H g args=Z06 P O H g args:=by
 refine⟨Z2t (ZnX F.G (λ_=>F.f) F.A F.R F.N) O,Z1E (Zh8 F.ok) hO,λi hi H=>callOr1 F.body ?_,λg hg args H=>?_⟩
 · unfold Z06
   rw[if_pos F.body]
   unfold ZnX
   have h:∃j,F.G j/\F.f=F.f/\F.A j=F.A i:=⟨i,hi,rfl,rfl⟩
   rw[dif_pos h]
   obtain⟨h1,_,h3⟩:=Classical.choose_spec h
   obtain⟨e1,e2⟩:=F.inj _ _ h1 hi h3
   rw[e1,e2]
 · unfold Z06
   have:∀args H,Z2t (ZnX F.G (λ_=>F.f) F.A F.R F.N) O g args H=O g args H:=λargs H=>by
    unfold Z2t ZnX
    rw[dif_neg (λ⟨j,_,h2,_⟩=>hg h2.symm)]
   have hy:yl (Z2t (ZnX F.G (λ_=>F.f) F.A F.R F.N) O) H g args=yl O H g args:=by unfold yl;simp only[this]
   rw[this,hy]
end Go.Abs
end
namespace Go.Proofs.YtneoiadnbikciaaGreatDoor.lex
open Go.Abs Go.RowKit
section
variable {gl:Z0k}
theorem Z73(s:List UInt8)(hs:s.length<=9223372036854775807):ValOK Y00 gl 33 [.str s] (.bool (Z1A s)):=by
 obtain⟨k,w,h1,h2,h3⟩:=ZhN s
 have hO:=Zap (P:=Y00) (gl:=gl) (l:=[(73,[.str s],Z47 s)]) ⟨rfl,Zl0 s hs,trivial⟩
 have q:∀H,Z06 Y00 (Zq0 [(73,[.str s],Z47 s)]) H 73 [.str s]=some (Z47 s,H):=λH=>ZqL (by kernel_rfl) ZaD
 rw[h1]at q hO
 rw[<- h2]
 refine Z0v follows Z05 hO Tryz.func33 rfl ?_
 repeat' ((conv=>whnf);first|refine exI (q _) ?_|refine stp ?_|with_reducible apply Z01<;>intro h)
 all_goals (try (simp_all[Z0Y];done))
end
section
variable {gl:Z0k}
theorem Zo9(op:Int):ValOK Y00 gl 107 [.int .i64 op] (.int .i64 (Z7n op)):=by
 refine Z0v follows Z05 Z0g Tryz.func107 rfl ?_
 repeat' ((conv=>whnf);first|refine stp ?_|with_reducible apply Z01<;>intro h)
 all_goals (show AV.int _ _=AV.int _ _;congr 1;unfold Z7n;simp only[beq_iff_eq,decide_eq_true_eq,beq_eq_false_iff_ne,decide_eq_false_iff_not,ge_iff_le,Int.not_le]at *)
 all_goals (repeat' split)
 all_goals omega
theorem Z7e:∀{l:List Ex}{i:Nat}(h:i<l.length),Z14 l[i]=false->rightL l=false
 |e::l,0,h,h2=>by simp only[Y0k]at h2;simp only[rightL,h2,Bool.false_and]
 |e::l,i+1,h,h2=>by simp only[Y0l]at h2;simp only[rightL,Z7e (l:=l) (by simpa using h) h2,Y0v]
theorem Z5W:∀(l:List Ex)(i:Nat)(h:i<l.length),rightL (l.take (i+1))=(rightL (l.take i)&&Z14 l[i])
 |e::l,0,h=>by simp only[Y08,Y07,rightL,Y0k,Y0q,Y0h]
 |e::l,i+1,h=>by
  have:=Z5W l i (by simpa using h)
  simp only[Y08,rightL,Y0l]at this⊢;rw[this,Bool.and_assoc]
theorem Zbk:∀(n:Nat)(e:Ex),Z0A e<=n->okE e->ValOK Y00 gl 75 [.agg e.cells] (.bool (Z14 e))
 |0,e,h,_=>by have:=Z4J e;omega
 |n+1,.mk op num name kids,h,hok=>by
  simp only[Z0A]at h
  obtain⟨⟨hn1,hn2⟩,hok2⟩:=Z6y hok
  simp only[Ex.name,Ex.kids]at hn1 hn2 hok2
  obtain⟨O,hO,p1,p2,p3,-⟩:=fams (P:=Y00) (gl:=gl) [{ I:=Unit,f:=107,G:=λ_=>True,A:=λ_=>[.int .i64 op],R:=λ_=>.int .i64 (Z7n op),body:=by kernel_rfl,inj:=λ_ _ _ _ _=>rfl,ok:=λ_ _=>⟨rfl,Zo9 _⟩ },
   { I:=Unit,f:=33,G:=λ_=>True,A:=λ_=>[.str name],R:=λ_=>.bool (Z1A name),body:=by kernel_rfl,inj:=λ_ _ _ _ _=>rfl,ok:=λ_ _=>⟨rfl,Z73 _ hn1⟩ },
   famE (g:=75) (by kernel_rfl) (λk=>.bool (Z14 k)) kids λk hk=>Zbk n k (by have:=Z1V _ _ hk;omega) (Z5Y hok2 _ hk)] rfl
  have q1:∀H,Z06 Y00 O H 107 [.int .i64 op]=some (.int .i64 (Z7n op),H):=p1 () trivial
  have q2:∀H,Z06 Y00 O H 33 [.str name]=some (.bool (Z1A name),H):=p2 () trivial
  have q3:∀i (h:i<kids.length) H,Z06 Y00 O H 75 [.agg kids[i].cells]=some (.bool (Z14 kids[i]),H):=λi h=>p3 _ (Z0N h)
  clear p1 p2 p3
  simp only[Ex.cells]
  refine Z0v follows Z05 hO Tryz.func75 rfl ?_
  have hop:(op==2)=true\/(op==2)=false:=by cases (op==2)<;>simp
  obtain⟨w,hw⟩:∃w,Z1A name=w:=⟨_,rfl⟩
  rw[hw]at q2
  cases w<;>rcases hop with hop|hop
  all_goals (repeat' ((conv=>whnf);first|refine exI (q1 _) ?_|refine exI (q2 _) ?_|refine stp ?_|with_reducible apply Z01<;>intro h))
  all_goals (first|(clear q1 q2 q3 hO;simp only[Z14];(first|(simp_all[Z0Y,Zbt];done)|(simp_all[Z0Y,Zbt];intros;omega)))|skip)
  all_goals (have hown:Zbt op num name kids.length=true:=by (clear q1 q2 q3 hO;simp_all[Zbt]))
  all_goals (conv=>whnf)
  all_goals refine⟨Nat,(λi=>i<=kids.length/\rightL (kids.take i)=true),(λi=>[(1,.ptr 0 0),(3,.int .i64 i)]),(λ_=>[⟨true,0,0,.cells [.int .i64 op,.int .i64 num,.str name,.rs kids.length 4 (exC kids)] 47⟩]),(λi=>kids.length-i),⟨0,⟨Y05 _,rfl⟩,Y04 [0] rfl ?_ ⟨hbp,trivial⟩ rfl⟩,?_⟩
  all_goals first|((repeat (first|exact trivial|refine stw ?_));done)|skip
  all_goals (
   rintro i ⟨hi,hall⟩
   dsimp only
   by_cases hlt:i<kids.length
   · have e1:decide ((i:Int)<(kids.length:Int))=true:=by simpa using hlt
     have hx:=ex4 kids i hlt
     have q3':=q3 i hlt
     have ht:=Z5W kids i hlt
     rw[hall,Y0h]at ht
     cases hr:Z14 kids[i] with
     |true =>
      rw[hr]at q3' ht
      generalize kids[i]=k at *
      repeat' ((conv=>whnf);first|refine exI hx ?_|refine exI (q3' _) ?_|(with_reducible refine ixJ i rfl ?_ ?_;focus omega)|refine stp ?_|with_reducible apply Z01<;>intro h)
      conv=>whnf
      refine⟨i+1,⟨hlt,ht⟩,by show kids.length-(i+1)<kids.length-i;omega,Y04 [0] rfl ?_ ⟨hbp,trivial⟩ rfl⟩
      exact wks
     |false =>
      have hf:=Z7e hlt hr
      rw[hr]at q3'
      generalize kids[i]=k at *
      repeat' ((conv=>whnf);first|refine exI hx ?_|refine exI (q3' _) ?_|(with_reducible refine ixJ i rfl ?_ ?_;focus omega)|refine stp ?_|with_reducible apply Z01<;>intro h)
      simp only[Z14,hf,Y0v];rfl
   · have e1:decide ((i:Int)<(kids.length:Int))=false:=by simpa using hlt
     have hi2:i=kids.length:=by have:=hi;omega
     subst hi2
     rw[Y0b]at hall
     repeat' ((conv=>whnf);(first|refine stp ?_|with_reducible apply Z01<;>intro h))
     simp only[Z14,hall,hown,Y0q];rfl)
theorem ZaL(e:Ex)(hok:okE e)(hs:Z0A e<=1048576):ValOK Y00 gl 52 [.agg e.cells] (.int .i64 (Z2V e)):=by
 have hd:=ZaJ e
 obtain⟨O,hO,p1,p2,p3,-⟩:=fams (P:=Y00) (gl:=gl) [famE (g:=76) (by kernel_rfl) (λk=>.int .i64 (Z0A k)) [e] λk hk=>by rw[Y0r.1 hk];exact Zbj _ e (Y01 _) hs,
  famE (g:=96) (by kernel_rfl) (λk=>.int .i64 (Z4z k)) [e] λk hk=>by rw[Y0r.1 hk];exact ZbT _ e (Y01 _) hs,
  famE (g:=75) (by kernel_rfl) (λk=>.bool (Z14 k)) [e] λk hk=>by rw[Y0r.1 hk];exact Zbk _ e (Y01 _) hok] rfl
 have q1:∀H,Z06 Y00 O H 76 [.agg e.cells]=some (.int .i64 (Z0A e),H):=p1 e (by show e∈[e];simp)
 have q2:∀H,Z06 Y00 O H 96 [.agg e.cells]=some (.int .i64 (Z4z e),H):=p2 e (by show e∈[e];simp)
 have q3:∀H,Z06 Y00 O H 75 [.agg e.cells]=some (.bool (Z14 e),H):=p3 e (by show e∈[e];simp)
 clear p1 p2 p3
 unfold Z2V
 generalize Z0A e=n at *
 generalize Z4z e=d at *
 generalize Z14 e=r at *
 obtain⟨op,num,name,kids⟩:=e
 simp only[Ex.cells]at *
 refine Z0v follows Z05 hO Tryz.func52 rfl ?_
 repeat' ((conv=>whnf);first|refine exI (q1 _) ?_|refine exI (q2 _) ?_|refine exI (q3 _) ?_|refine stp ?_|with_reducible apply Z01<;>intro h)
 all_goals (show AV.int _ _=AV.int _ _;congr 1;clear q1 q2 q3 hO;simp only[decide_eq_true_eq,decide_eq_false_iff_not,Y0y,Bool.not_eq_false']at *)
 all_goals (repeat' split)
 all_goals (first|rfl|omega|(simp_all;done)|(exfalso;simp_all;omega))
end
section
theorem Zig:∀s:St,0<Z12 s
 | .mk _ _ _ _ _ _ _=>by simp only[Z12];omega
theorem Zml:∀s:St,Zds s=max (max (deepSL s.thn) (deepSL s.els)) (deepL s.exprs)+1
 | .mk _ _ _ _ _ _ _=>by simp only[Zds,St.exprs,St.thn,St.els]
theorem Z90:∀(l:List St)(i:Nat)(h:i<l.length),sizeSL (l.take (i+1))=sizeSL (l.take i)+Z12 l[i]
 |s::l,0,h=>by simp only[Y08,Y07,sizeSL,Y0k];omega
 |s::l,i+1,h=>by
  have:=Z90 l i (by simpa using h)
  simp only[Y08,sizeSL,Y0l]at this⊢;omega
theorem Z5m:∀l:List St,l.length<=sizeSL l
 |[]=>Y05 _
 |s::l=>by have:=Z5m l;have:=Zig s;simp only[sizeSL,Y0p];omega
theorem Z9J:∀(l:List St)(i:Nat)(h:i<l.length),deepSL (l.take (i+1))=max (deepSL (l.take i)) (Zds l[i])
 |e::l,0,h=>by simp only[Y08,Y07,deepSL,Y0k];omega
 |e::l,i+1,h=>by
  have:=Z9J l i (by simpa using h)
  simp only[Y08,deepSL,Y0l]at this⊢;omega
mutual
theorem Zhp:∀s:St,Zds s<=Z12 s
 | .mk _ _ _ _ x t e=>by have:=deepSL_size t;have:=deepSL_size e;have:=deepL_size x;simp only[Zds,Z12];omega
theorem deepSL_size:∀l:List St,deepSL l<=sizeSL l
 |[]=>Y01 _
 |s::l=>by have:=Zhp s;have:=deepSL_size l;simp only[deepSL,sizeSL];omega
end
theorem Zdr:∀(l:List St)(i:Nat),deepSL (l.take i)<=deepSL l
 |[],i=>by simp[deepSL]
 |e::l,0=>by simp[deepSL]
 |e::l,i+1=>by have:=Zdr l i;simp only[Y08,deepSL];omega
end
section
variable {gl:Z0k}
theorem Z8Z:∀(t:List (List St))(i:Nat)(h:i<t.length),Z0H (t.take (i+1))=Z0H (t.take i)+sizeSL t[i]
 |e::l,0,h=>by simp only[Y08,Y07,Z0H,Y0k];omega
 |e::l,i+1,h=>by
  have:=Z8Z l i (by simpa using h)
  simp only[Y08,Z0H,Y0l]at this⊢;omega
theorem ZcD:∀(t:List (List St))(i:Nat)(h:i<t.length),Z0H (t.take i)+sizeSL t[i]<=Z0H t
 |e::l,0,h=>by simp only[Y07,Z0H,Y0k];omega
 |e::l,i+1,h=>by
  have:=ZcD l i (by simpa using h)
  simp only[Y08,Z0H,Y0l]at this⊢;omega
theorem dcn(l:List Dc)(i:Nat)(h:i<l.length):tk 1 (((dcC l).drop (i*3)).drop 0)=some [.str l[i].name]:=by
 rw[Zgp l i h];rfl
theorem dcv(l:List Dc)(i:Nat)(h:i<l.length):tk 1 (((dcC l).drop (i*3)).drop 2)=some [.int .i64 l[i].val]:=by
 rw[Zgp l i h];rfl
end
section
variable {gl:Z0k}
def dcS:List Dc->AV
 |[]=>.nslice
 |e::l=>.slice 1 0 (l.length+1) (l.length+1) 3
def Zmp:List Dc->Z00
 |[]=>[]
 |e::l=>[⟨true,1,0,.cells (dcC (e::l)) 66⟩]
def Zsw(f:Nat):Bool:=Y0i f 45 || (Y0i f 91 || Y0i f 92)
structure Bs5 where
 l:List Dc
 s:Ps
 k:Nat
 m:Bool
theorem Zmm {T : List Tq} {s0 : Ps} (hs0 : PsOK T s0) (pl : Bool) :
  MemQ Y00 gl 1 46 [.ptr 0 0,.bool pl] (psH T s0) (dcA (Z0E T pl s0).1) (psH T (Z0E T pl s0).2):=by
 obtain⟨O,hO,⟨p1,p2,p3,-⟩,-⟩:=Z25 (P:=Y00) (gl:=gl) [Z77 T,Ze0 T,Z5Z T] [] rfl
 have tk:∀w s X,kwB w=true->isF T s w=true->PsOK T s->Z08 [0] X=true->Z06 Y00 O (psH T s++X) 45 [.ptr 0 0,.str w]=some (.bool true,psH T (Z02 s)++X):=λw s X hw hi h hX=>by
  have this:Z06 Y00 O (psH T s++X) 45 [.ptr 0 0,.str w]=some (.bool (Z0L T s w),psH T (Z0l T s w)++X):=p1 (w,s,X) ⟨h,hX⟩
  rw[(Z1u hw).1,(Z1u hw).2,hi,if_pos rfl]at this
  exact this
 have tn:∀w s X,kwB w=true->isF T s w=false->PsOK T s->Z08 [0] X=true->Z06 Y00 O (psH T s++X) 45 [.ptr 0 0,.str w]=some (.bool false,psH T s++X):=λw s X hw hi h hX=>by
  have this:Z06 Y00 O (psH T s++X) 45 [.ptr 0 0,.str w]=some (.bool (Z0L T s w),psH T (Z0l T s w)++X):=p1 (w,s,X) ⟨h,hX⟩
  rw[(Z1u hw).1,(Z1u hw).2,hi,if_neg (by decide)]at this
  exact this
 have qw:∀s X,PsOK T s->Z08 [0] X=true->Z06 Y00 O (psH T s++X) 91 [.ptr 0 0]=some (.str (Z0Z T s),psH T (Z0e T s)++X):=λs X h hX=>p2 ((),s,X) ⟨h,hX⟩
 have qn:∀w s X,PsOK T s->Z08 [0] X=true->Z06 Y00 O (psH T s++X) 92 [.ptr 0 0,.str w]=some (.tuple [],psH T (Z03 T s w)++X):=λw s X h hX=>p3 (w,s,X) ⟨h,hX⟩
 clear p1 p2 p3
 have hT:Zcj Y00 23 23=some (66,3,32):=by kernel_rfl
 unfold Z0E
 simp only
 generalize hR:Z3N T pl (T.length+1) s0=R
 obtain⟨RL,RS⟩:=R
 have hfew:=hs0.few
 have hI:PsOK T s0/\([]:List Dc).length+(T.length+1)<=T.length+1/\(true=true->T.length-s0.i<T.length+1/\[]++(Z3N T pl (T.length+1) s0).1=RL/\(Z3N T pl (T.length+1) s0).2=RS)/\(true=false->[]=RL/\s0=RS):=⟨hs0,by simp,λ_=>⟨by omega,by rw[hR];rfl,by rw[hR]⟩,λh=>by cases h⟩
 clear hR
 simp only
 refine MemQ.conv (r:=dcN RL) ?_ (λ_ _ _ h=>Zk1 h)
 simp only[psH]
 refine Z0V follows Z05 (Z09 follows Z05 hO 3) Tryz.func46 rfl (Z0f (isC:=Zsw) 3) ?_
 repeat' ((conv=>whnf);first|refine stp ?_|with_reducible apply Z01<;>intro h)
 conv=>whnf
 refine⟨Bs5,(λy=>PsOK T y.s/\y.l.length+y.k<=T.length+1/\(y.m=true->T.length-y.s.i<y.k/\y.l++(Z3N T pl y.k y.s).1=RL/\(Z3N T pl y.k y.s).2=RS)/\(y.m=false->y.l=RL/\y.s=RS)),(λy=>[(0,.ptr 0 0),(1,.bool pl),(5,dcS y.l),(6,.bool y.m)]),
  (λy=>psH T y.s++Zmp y.l),(λy=>y.k),⟨⟨[],s0,T.length+1,true⟩,hI,?_⟩,?_⟩
 · refine Y0f [0] rfl rfl ?_ ⟨hbp,trivial⟩ rfl
   exact wks
 clear hI hs0
 rintro⟨l,s,k,m⟩ ⟨hs,hlk,h1,h2⟩
 dsimp only at hs hlk h1 h2
 (try dsimp only)
 cases m with
 |false =>
  obtain⟨e1,e2⟩:=h2 rfl
  subst e1 e2
  have g1:=λX=>qn [59] s X hs
  clear h1 h2 tk tn qw qn
  generalize Z03 T s [59]=s5 at *
  have hcl:=Z1T l
  simp only[psH]at g1⊢
  rcases l with _|⟨a,l⟩
  · simp only[dcS,Zmp,dcN]
    repeat' ((conv=>whnf);first|refine exI (g1 [] rfl) ?_|refine stp ?_|with_reducible apply Z01<;>intro h)
    conv=>whnf
    exact⟨[],[0],rfl,⟨⟨rfl,rfl,rfl,rfl,BodyGe.z (Y0m (rest:=[]) rfl rfl)⟩,trivial⟩,rfl,rfl,.inl (Y03 rfl)⟩
  · simp only[dcS,Zmp,dcN]
    repeat' ((conv=>whnf);first|refine exI (g1 [_] rfl) ?_|refine stp ?_|with_reducible apply Z01<;>intro h)
    conv=>whnf
    exact⟨[1],[0],rfl,⟨⟨rfl,rfl,rfl,rfl,BodyGe.z (Y0m (rest:=[]) rfl rfl)⟩,trivial⟩,rfl,rfl,.inr (Z0B (n:=28) rfl hcl (Z0h _))⟩
 |true =>
  obtain⟨hk,hL,hS⟩:=h1 rfl
  clear h1 h2
  obtain⟨k,rfl⟩:∃k',k=k'+1:=⟨k-1,by omega⟩
  have hgo:=ZeX pl hs
  have hlt:=hs.lt
  unfold Z3N at hL hS
  have gw:=λX=>qw s X hs
  have hs1:=Z8q hs
  unfold Z5B at hL hS hgo
  generalize Z0Z T s=nm at *
  generalize Z0e T s=s1 at *
  clear qw qn
  cases h61:isF T s1 [61] with
  |false =>
   rw[h61]at hL hS hgo
   simp only[Y0u,if_false]at hL hS hgo
   have f1:=λX=>tn [61] s1 X rfl h61 hs1
   obtain⟨i1,e1,a1,o1⟩:=s1
   have ok4:=hgo.ok
   have hon:s.i<=_:=hgo.on
   cases h44:isF T ⟨i1,e1,a1,o1⟩ [44] with
   |true =>
    rw[h44]at hL hS
    simp only[if_true]at hL hS
    have g3:=λX=>tk [44] ⟨i1,e1,a1,o1⟩ X rfl h44 ok4
    have ok5:=(Z0b ok4 h44).ok
    clear tk tn
    simp only[psH,Z02]at *
    rcases l with _|⟨a,l⟩
    all_goals simp only[dcS,Zmp,Y0d,Y0p,Y09]at *
    all_goals (try have hcl:=Z1T (a::l))
    all_goals (try have hsn:=Z52 (a::l) nm pl (0))
    all_goals repeat' ((conv=>whnf);first|refine exI (gw [] rfl) ?_|refine exI (gw [_] rfl) ?_|refine exI (f1 _ rfl) ?_|refine exI (g3 _ rfl) ?_|refine exI hx ?_|(with_reducible refine ixJ _ rfl ?_ ?_;focus omega)|(with_reducible refine exW wa ?_)|(refine apS ?_)|refine stp ?_|with_reducible apply Z01<;>intro h)
    all_goals (conv=>whnf)
    all_goals (try have hl1:(l++[(⟨nm,pl,0⟩:Dc)]).length=l.length+1:=by simp)
    · refine⟨⟨[(⟨nm,pl,0⟩:Dc)],⟨i1+1,e1,a1,o1⟩,k,true⟩,⟨ok5,by simp at hlk⊢;omega,λ_=>⟨by simp only at hon⊢;omega,by simpa using hL,hS⟩,(by intro h;cases h)⟩,Y0j _,?_⟩
      (refine Y0f [0,3] rfl rfl ?_ ⟨hbp,⟨rfl,rfl,rfl,rfl,Z07 rfl (Z0h [⟨nm,pl,0⟩])⟩,trivial⟩ rfl;(focus (dsimp only[dcS,Y09];(repeat (first|exact trivial|refine stw ?_));done)))
    · refine⟨⟨a::(l++[(⟨nm,pl,0⟩:Dc)]),⟨i1+1,e1,a1,o1⟩,k,true⟩,⟨ok5,by simp at hlk⊢;omega,λ_=>⟨by simp only at hon⊢;omega,by rw[<- hL];simp,hS⟩,(by intro h;cases h)⟩,Y0j _,?_⟩
      (refine Y0f [0,4] rfl rfl ?_ ⟨hbp,⟨rfl,rfl,rfl,rfl,Z07 hsn (Z0h _)⟩,trivial⟩ rfl;(focus (dsimp only[dcS,Y09];(repeat (first|exact trivial|refine stw ?_));done)))
   |false =>
    rw[h44]at hL hS
    simp only[Y0u,if_false]at hL hS
    have g3:=λX=>tn [44] ⟨i1,e1,a1,o1⟩ X rfl h44 ok4
    clear tk tn
    simp only[psH,Z02]at *
    rcases l with _|⟨a,l⟩
    all_goals simp only[dcS,Zmp,Y0d,Y0p,Y09]at *
    all_goals (try have hcl:=Z1T (a::l))
    all_goals (try have hsn:=Z52 (a::l) nm pl (0))
    all_goals repeat' ((conv=>whnf);first|refine exI (gw [] rfl) ?_|refine exI (gw [_] rfl) ?_|refine exI (f1 _ rfl) ?_|refine exI (g3 _ rfl) ?_|refine exI hx ?_|(with_reducible refine ixJ _ rfl ?_ ?_;focus omega)|(with_reducible refine exW wa ?_)|(refine apS ?_)|refine stp ?_|with_reducible apply Z01<;>intro h)
    all_goals (conv=>whnf)
    all_goals (try have hl1:(l++[(⟨nm,pl,0⟩:Dc)]).length=l.length+1:=by simp)
    · refine⟨⟨[(⟨nm,pl,0⟩:Dc)],⟨i1,e1,a1,o1⟩,k,false⟩,⟨ok4,by simp at hlk⊢;omega,(by intro h;cases h),λ_=>⟨by simpa using hL,hS⟩⟩,Y0j _,?_⟩
      (refine Y0f [0,3] rfl rfl ?_ ⟨hbp,⟨rfl,rfl,rfl,rfl,Z07 rfl (Z0h [⟨nm,pl,0⟩])⟩,trivial⟩ rfl;(focus (dsimp only[dcS,Y09];(repeat (first|exact trivial|refine stw ?_));done)))
    · refine⟨⟨a::(l++[(⟨nm,pl,0⟩:Dc)]),⟨i1,e1,a1,o1⟩,k,false⟩,⟨ok4,by simp at hlk⊢;omega,(by intro h;cases h),λ_=>⟨by rw[<- hL];simp,hS⟩⟩,Y0j _,?_⟩
      (refine Y0f [0,4] rfl rfl ?_ ⟨hbp,⟨rfl,rfl,rfl,rfl,Z07 hsn (Z0h _)⟩,trivial⟩ rfl;(focus (dsimp only[dcS,Y09];(repeat (first|exact trivial|refine stw ?_));done)))
  |true =>
   rw[h61]at hL hS hgo
   simp only[if_true]at hL hS hgo
   have f1:=λX=>tk [61] s1 X rfl h61 hs1
   have he1:s1.err=0:=Classical.byContradiction λh=>by rw[ZbB h]at h61;cases h61
   have ok2:=(Z0b hs1 h61).ok
   have hx:=tq4 T _ ok2.lt
   rw[<- Z0t ok2.lt]at hx
   have hlt2:=ok2.lt
   have hfew2:=ok2.few
   generalize Z0r T (Z02 s1)=t at *
   obtain⟨i1,e1,a1,o1⟩:=s1
   simp only at he1
   subst he1
   simp only[Z02]at *
   obtain⟨tk_,tx,tn_,tp⟩:=t
   simp only[Tq.cells]at hx hL hS hgo
   have wa:IntKind.i64.wrap (((i1+1:Nat):Int)+1)=((i1+1+1:Nat):Int):=Z1P (by omega)
   by_cases h3:tk_=3
   · subst h3
     simp only[if_true]at hL hS hgo
     have ok4:=hgo.ok
     have hon:s.i<=_:=hgo.on
     cases h44:isF T ⟨i1+1+1,0,a1,o1⟩ [44] with
     |true =>
      rw[h44]at hL hS
      simp only[if_true]at hL hS
      have g3:=λX=>tk [44] ⟨i1+1+1,0,a1,o1⟩ X rfl h44 ok4
      have ok5:=(Z0b ok4 h44).ok
      clear tk tn
      simp only[psH,Z02]at *
      rcases l with _|⟨a,l⟩
      all_goals simp only[dcS,Zmp,Y0d,Y0p,Y09]at *
      all_goals (try have hcl:=Z1T (a::l))
      all_goals (try have hsn:=Z52 (a::l) nm pl (tn_))
      all_goals repeat' ((conv=>whnf);first|refine exI (gw [] rfl) ?_|refine exI (gw [_] rfl) ?_|refine exI (f1 _ rfl) ?_|refine exI (g3 _ rfl) ?_|refine exI hx ?_|(with_reducible refine ixJ _ rfl ?_ ?_;focus omega)|(with_reducible refine exW wa ?_)|(refine apS ?_)|refine stp ?_|with_reducible apply Z01<;>intro h)
      all_goals (conv=>whnf)
      all_goals (try have hl1:(l++[(⟨nm,pl,tn_⟩:Dc)]).length=l.length+1:=by simp)
      · refine⟨⟨[(⟨nm,pl,tn_⟩:Dc)],⟨i1+1+1+1,0,a1,o1⟩,k,true⟩,⟨ok5,by simp at hlk⊢;omega,λ_=>⟨by simp only at hon⊢;omega,by simpa using hL,hS⟩,(by intro h;cases h)⟩,Y0j _,?_⟩
        (refine Y0f [0,5] rfl rfl ?_ ⟨hbp,⟨rfl,rfl,rfl,rfl,Z07 rfl (Z0h [⟨nm,pl,tn_⟩])⟩,trivial⟩ rfl;(focus (dsimp only[dcS,Y09];(repeat (first|exact trivial|refine stw ?_));done)))
      · refine⟨⟨a::(l++[(⟨nm,pl,tn_⟩:Dc)]),⟨i1+1+1+1,0,a1,o1⟩,k,true⟩,⟨ok5,by simp at hlk⊢;omega,λ_=>⟨by simp only at hon⊢;omega,by rw[<- hL];simp,hS⟩,(by intro h;cases h)⟩,Y0j _,?_⟩
        (refine Y0f [0,6] rfl rfl ?_ ⟨hbp,⟨rfl,rfl,rfl,rfl,Z07 hsn (Z0h _)⟩,trivial⟩ rfl;(focus (dsimp only[dcS,Y09];(repeat (first|exact trivial|refine stw ?_));done)))
     |false =>
      rw[h44]at hL hS
      simp only[Y0u,if_false]at hL hS
      have g3:=λX=>tn [44] ⟨i1+1+1,0,a1,o1⟩ X rfl h44 ok4
      clear tk tn
      simp only[psH,Z02]at *
      rcases l with _|⟨a,l⟩
      all_goals simp only[dcS,Zmp,Y0d,Y0p,Y09]at *
      all_goals (try have hcl:=Z1T (a::l))
      all_goals (try have hsn:=Z52 (a::l) nm pl (tn_))
      all_goals repeat' ((conv=>whnf);first|refine exI (gw [] rfl) ?_|refine exI (gw [_] rfl) ?_|refine exI (f1 _ rfl) ?_|refine exI (g3 _ rfl) ?_|refine exI hx ?_|(with_reducible refine ixJ _ rfl ?_ ?_;focus omega)|(with_reducible refine exW wa ?_)|(refine apS ?_)|refine stp ?_|with_reducible apply Z01<;>intro h)
      all_goals (conv=>whnf)
      all_goals (try have hl1:(l++[(⟨nm,pl,tn_⟩:Dc)]).length=l.length+1:=by simp)
      · refine⟨⟨[(⟨nm,pl,tn_⟩:Dc)],⟨i1+1+1,0,a1,o1⟩,k,false⟩,⟨ok4,by simp at hlk⊢;omega,(by intro h;cases h),λ_=>⟨by simpa using hL,hS⟩⟩,Y0j _,?_⟩
        (refine Y0f [0,5] rfl rfl ?_ ⟨hbp,⟨rfl,rfl,rfl,rfl,Z07 rfl (Z0h [⟨nm,pl,tn_⟩])⟩,trivial⟩ rfl;(focus (dsimp only[dcS,Y09];(repeat (first|exact trivial|refine stw ?_));done)))
      · refine⟨⟨a::(l++[(⟨nm,pl,tn_⟩:Dc)]),⟨i1+1+1,0,a1,o1⟩,k,false⟩,⟨ok4,by simp at hlk⊢;omega,(by intro h;cases h),λ_=>⟨by rw[<- hL];simp,hS⟩⟩,Y0j _,?_⟩
        (refine Y0f [0,6] rfl rfl ?_ ⟨hbp,⟨rfl,rfl,rfl,rfl,Z07 hsn (Z0h _)⟩,trivial⟩ rfl;(focus (dsimp only[dcS,Y09];(repeat (first|exact trivial|refine stw ?_));done)))
   · have e3:(tk_==3)=false:=by simpa using h3
     simp only[h3,if_false,Z0p,if_true]at hL hS hgo
     have ok4:=hgo.ok
     have hon:s.i<=_:=hgo.on
     cases h44:isF T ⟨i1+1,5,tp,o1⟩ [44] with
     |true =>
      rw[h44]at hL hS
      simp only[if_true]at hL hS
      have g3:=λX=>tk [44] ⟨i1+1,5,tp,o1⟩ X rfl h44 ok4
      have ok5:=(Z0b ok4 h44).ok
      clear tk tn
      simp only[psH,Z02]at *
      rcases l with _|⟨a,l⟩
      all_goals simp only[dcS,Zmp,Y0d,Y0p,Y09]at *
      all_goals (try have hcl:=Z1T (a::l))
      all_goals (try have hsn:=Z52 (a::l) nm pl (0))
      all_goals repeat' ((conv=>whnf);first|refine exI (gw [] rfl) ?_|refine exI (gw [_] rfl) ?_|refine exI (f1 _ rfl) ?_|refine exI (g3 _ rfl) ?_|refine exI hx ?_|(with_reducible refine ixJ _ rfl ?_ ?_;focus omega)|(with_reducible refine exW wa ?_)|(refine apS ?_)|refine stp ?_|with_reducible apply Z01<;>intro h)
      all_goals (conv=>whnf)
      all_goals (try have hl1:(l++[(⟨nm,pl,0⟩:Dc)]).length=l.length+1:=by simp)
      · refine⟨⟨[(⟨nm,pl,0⟩:Dc)],⟨i1+1+1,5,tp,o1⟩,k,true⟩,⟨ok5,by simp at hlk⊢;omega,λ_=>⟨by simp only at hon⊢;omega,by simpa using hL,hS⟩,(by intro h;cases h)⟩,Y0j _,?_⟩
        (refine Y0f [0,5] rfl rfl ?_ ⟨hbp,⟨rfl,rfl,rfl,rfl,Z07 rfl (Z0h [⟨nm,pl,0⟩])⟩,trivial⟩ rfl;(focus (dsimp only[dcS,Y09];(repeat (first|exact trivial|refine stw ?_));done)))
      · refine⟨⟨a::(l++[(⟨nm,pl,0⟩:Dc)]),⟨i1+1+1,5,tp,o1⟩,k,true⟩,⟨ok5,by simp at hlk⊢;omega,λ_=>⟨by simp only at hon⊢;omega,by rw[<- hL];simp,hS⟩,(by intro h;cases h)⟩,Y0j _,?_⟩
        (refine Y0f [0,6] rfl rfl ?_ ⟨hbp,⟨rfl,rfl,rfl,rfl,Z07 hsn (Z0h _)⟩,trivial⟩ rfl;(focus (dsimp only[dcS,Y09];(repeat (first|exact trivial|refine stw ?_));done)))
     |false =>
      rw[h44]at hL hS
      simp only[Y0u,if_false]at hL hS
      have g3:=λX=>tn [44] ⟨i1+1,5,tp,o1⟩ X rfl h44 ok4
      clear tk tn
      simp only[psH,Z02]at *
      rcases l with _|⟨a,l⟩
      all_goals simp only[dcS,Zmp,Y0d,Y0p,Y09]at *
      all_goals (try have hcl:=Z1T (a::l))
      all_goals (try have hsn:=Z52 (a::l) nm pl (0))
      all_goals repeat' ((conv=>whnf);first|refine exI (gw [] rfl) ?_|refine exI (gw [_] rfl) ?_|refine exI (f1 _ rfl) ?_|refine exI (g3 _ rfl) ?_|refine exI hx ?_|(with_reducible refine ixJ _ rfl ?_ ?_;focus omega)|(with_reducible refine exW wa ?_)|(refine apS ?_)|refine stp ?_|with_reducible apply Z01<;>intro h)
      all_goals (conv=>whnf)
      all_goals (try have hl1:(l++[(⟨nm,pl,0⟩:Dc)]).length=l.length+1:=by simp)
      · refine⟨⟨[(⟨nm,pl,0⟩:Dc)],⟨i1+1,5,tp,o1⟩,k,false⟩,⟨ok4,by simp at hlk⊢;omega,(by intro h;cases h),λ_=>⟨by simpa using hL,hS⟩⟩,Y0j _,?_⟩
        (refine Y0f [0,5] rfl rfl ?_ ⟨hbp,⟨rfl,rfl,rfl,rfl,Z07 rfl (Z0h [⟨nm,pl,0⟩])⟩,trivial⟩ rfl;(focus (dsimp only[dcS,Y09];(repeat (first|exact trivial|refine stw ?_));done)))
      · refine⟨⟨a::(l++[(⟨nm,pl,0⟩:Dc)]),⟨i1+1,5,tp,o1⟩,k,false⟩,⟨ok4,by simp at hlk⊢;omega,(by intro h;cases h),λ_=>⟨by rw[<- hL];simp,hS⟩⟩,Y0j _,?_⟩
        (refine Y0f [0,6] rfl rfl ?_ ⟨hbp,⟨rfl,rfl,rfl,rfl,Z07 hsn (Z0h _)⟩,trivial⟩ rfl;(focus (dsimp only[dcS,Y09];(repeat (first|exact trivial|refine stw ?_));done)))
end
section
variable {gl:Z0k}
theorem ZhR(l:List UInt8)(hd:∀c∈l,Z0W c.toNat=true):∀k,k<=l.length->Z2U (l.take k)<10 ^ k
 |0,_=>by simp[Z2U]
 |k+1,h=>by
  have h1:=ZhR l hd k (by omega)
  have h2:=Z4A l k (by omega)
  have h3:=hd l[k] (Y0z _)
  simp only[Z0W,Y0g,decide_eq_true_eq]at h3
  rw[h2,Nat.pow_succ];omega
def ZdV(l:List UInt8):AV:=if (1<l.length/\l.head? = some 48)\/19<l.length then .tuple [.int .i64 0,.bool false] else .tuple [.int .i64 (IntKind.i64.wrap (Z2U l)),.bool (decide ((Z2U l:Int)<9223372036854775808))]
theorem Zlz(l:List UInt8)(h0:l≠[])(hl:l.length<=65536)(hd:∀c∈l,Z0W c.toNat=true):ValOK Y00 gl 70 [.str l] (ZdV l):=by
 obtain⟨c,t,rfl⟩:∃c t,l=c::t:=by cases l with|nil=>exact absurd rfl h0|cons c t=>exact⟨c,t,rfl⟩
 have hc0:(c::t)[0]? = some c:=rfl
 have u0:=Z5F c 48 (by decide)
 have d1:decide (((c::t).length:Int)>1)=decide (1<(c::t).length):=by simp;omega
 have d2:decide (((c::t).length:Int)>19)=decide (19<(c::t).length):=by simp;omega
 refine Z0v follows Z05 Z8L Tryz.func70 rfl ?_
 generalize hl':c::t=l at *
 have hh:l.head? = some c:=by rw[<- hl'];rfl
 by_cases hbad:(1<l.length/\c=48)\/19<l.length
 · have e:ZdV l = .tuple [.int .i64 0,.bool false]:=by unfold ZdV;rw[hh];rw[if_pos];simpa using hbad
   rw[e]
   clear e
   repeat' ((conv=>whnf);first|with_reducible refine ixS 0 rfl hc0 ?_|refine stp ?_|with_reducible apply Z01<;>intro h)
   all_goals (first|rfl|(exfalso;simp_all;done)|(exfalso;simp_all;omega))
 · have e:ZdV l = .tuple [.int .i64 (IntKind.i64.wrap (Z2U l)),.bool (decide ((Z2U l:Int)<9223372036854775808))]:=by unfold ZdV;rw[hh];rw[if_neg];simpa using hbad
   rw[e]
   have hl19:¬19<l.length:=λh=>hbad (.inr h)
   have d2':decide ((l.length:Int)>19)=false:=by rw[d2];simpa using hl19
   repeat' ((conv=>whnf);first|with_reducible refine ixS 0 rfl hc0 ?_|refine stp ?_|with_reducible apply Z01<;>intro h)
   all_goals (first|(exfalso;simp_all;done)|(exfalso;simp_all;omega)|skip)
   all_goals (conv=>whnf)
   all_goals (
    refine⟨Nat,(λk=>k<=l.length),(λk=>[(0,.str l),(4,.int .u64 (Z2U (l.take k))),(5,.int .i64 k)]),(λ_=>[]),(λk=>l.length-k),⟨0,Y05 _,Y0a rfl ⟨Y03 rfl,Y02 rfl,Y02 rfl,trivial⟩⟩,?_⟩
    intro k hk
    by_cases hlt:k<l.length
    · have e1:decide ((k:Int)<(l.length:Int))=true:=by simpa using hlt
      have hx:l[k]? = some l[k]:=by simp[hlt]
      have hdk:48<=l[k].toNat/\l[k].toNat<=57:=by have:=hd l[k] (Y0z hlt);simp[Z0W]at this;omega
      have hm1:=Z4A l k hlt
      have hm2:=ZhR l hd (k+1) hlt
      have hm3:10 ^ (k+1)<=10 ^ 19:=Nat.pow_le_pow_right (by decide) (by omega)
      repeat' ((conv=>whnf);first|with_reducible refine ixS _ rfl hx ?_|refine stp ?_|with_reducible apply Z01<;>intro h)
      conv=>whnf
      have e:IntKind.u64.wrap (IntKind.u64.wrap (↑(Z2U (List.take k l))*10)+IntKind.u64.wrap (IntKind.u8.wrap (↑l[k].toNat-48)))=(Z2U (l.take (k+1)):Int):=by
       simp only[ZpI,IntKind.wrap_u8];omega
      first|rw[e]|skip
      exact⟨k+1,hlt,by show l.length-(k+1)<l.length-k;omega,Y0a rfl ⟨Y03 rfl,Y02 rfl,Y02 rfl,trivial⟩⟩
    · have e1:decide ((k:Int)<(l.length:Int))=false:=by simpa using hlt
      have hk':k=l.length:=by omega
      repeat' ((conv=>whnf);first|refine stp ?_|with_reducible apply Z01<;>intro h)
      rw[hk',Y0b];try rfl)
end
section
variable {gl:Z0k}
theorem ZoB{T:List Tq}{s:Ps}(e a:Int):MemQ Y00 gl 1 48 [.ptr 0 0,.int .i64 e,.int .i64 a] (psH T s) (.tuple []) (psH T (Z0p s e a)):=by
 unfold Z0p
 obtain⟨i,err,at_,op⟩:=s
 simp only
 by_cases he:err=0
 · subst he
   simp only[psH,if_true]
   refine Z1c isQ 3 follows Z05 Z0g Tryz.func48 rfl ?_
   repeat' ((conv=>whnf);first|refine stp ?_|with_reducible apply Z01<;>intro h)
   all_goals (try (conv=>whnf))
   all_goals exact⟨[0],rfl,⟨hbp,trivial⟩,rfl,Y03 rfl⟩
 · have e1:(err==0)=false:=by simpa using he
   simp only[psH,he,if_false]
   refine Z1c isQ 3 follows Z05 Z0g Tryz.func48 rfl ?_
   repeat' ((conv=>whnf);first|refine stp ?_|with_reducible apply Z01<;>intro h)
   all_goals (try (conv=>whnf))
   all_goals exact⟨[0],rfl,⟨hbp,trivial⟩,rfl,Y03 rfl⟩
def ZoC(T:List Tq):FamM Y00 gl:=Z3g T 48 (by kernel_rfl) (I:=Int×Int) (λ_ s=>True) (λi=>[.ptr 0 0,.int .i64 i.1,.int .i64 i.2]) (λ_ s=>.tuple []) (λi s=>Z0p s i.1 i.2) (λ_=>rfl) (λi j h=>by
 obtain⟨a,b⟩:=i
 obtain⟨c,d⟩:=j
 simp only[List.cons.injEq,AV.int.injEq,true_and,and_true]at h
 rw[h.1,h.2]) (λi s h=>ZoB i.1 i.2)
theorem Zk0:∀l:List Dc,(dcC l).all one=true
 |[]=>rfl
 |d::l=>by simp only[dcC,Dc.cells,List.all_append,Zk0 l,Y0q];rfl
end
section
variable {gl:Z0k}
theorem Zh6(l:List UInt8):plain (ZdV l)=true:=by unfold ZdV;split<;>rfl
def G7(f:Nat)(xs:List AV):Option AV:=match f with
 |69=>match xs with|[.str x]=>some (.int .i64 (if keysL.contains x then 2 else 1))|_=>none
 |70=>match xs with|[.str l]=>if Znb l&&decide (l.length<=65536) then some (ZdV l) else none|_=>none
 |30=>match xs with|[.int .u8 n]=>some (.bool (Z4l n))|_=>none
 |f=>F5 f xs
theorem Znn{f:Nat}{xs:List AV}{r:AV}(h:G7 f xs=some r):plain r=true/\ValOK Y00 gl f xs r:=by
 unfold G7 at h
 split at h
 · split at h<;>cases h
   exact⟨rfl,Zj2 _⟩
 · split at h<;>try (cases h;done)
   split at h<;>cases h
   rename_i hd
   simp only[Y0g,decide_eq_true_eq]at hd
   obtain⟨h1,h2,h3⟩:=ZbR hd.1
   exact⟨Zh6 _,Zlz _ h1 hd.2 h3⟩
 · split at h<;>cases h
   exact⟨rfl,ZbY _⟩
 ·exact ZgK h
theorem Zcd:OrcSound Y00 gl (Z6v G7):=Z0J λf xs r h=>Znn h
def sgnsL:List (List UInt8):=[[124,124],[38,38],[61,61],[33,61],[60,61],[60],[43],[45],[42],[38],[124],[94],[33],[61],[40],[41],[123],[125],[44],[59]]
def ZaC(t p:List UInt8):Bool:=t.take p.length==p
def Z8d(t:List UInt8)(l:List (List UInt8)):Nat:=match l.find? (ZaC t) with|some p=>p.length|none=>0
theorem ZnP(c:UInt8):Z8d [c] sgnsL=Z0i [c]:=by
 by_cases h1:c=124;· subst h1;decide
 by_cases h2:c=38;· subst h2;decide
 by_cases h3:c=61;· subst h3;decide
 by_cases h4:c=33;· subst h4;decide
 by_cases h5:c=60;· subst h5;decide
 by_cases h6:c=43;· subst h6;decide
 by_cases h7:c=45;· subst h7;decide
 by_cases h8:c=42;· subst h8;decide
 by_cases h9:c=94;· subst h9;decide
 by_cases h10:c=40;· subst h10;decide
 by_cases h11:c=41;· subst h11;decide
 by_cases h12:c=123;· subst h12;decide
 by_cases h13:c=125;· subst h13;decide
 by_cases h14:c=44;· subst h14;decide
 by_cases h15:c=59;· subst h15;decide
 have e:Z8d [c] sgnsL=0:=by simp[Z8d,sgnsL,ZaC, *]
 rw[e];simp[Z0i, *]
theorem ZnO(c d:UInt8)(t:List UInt8):Z8d (c::d::t) sgnsL=Z0i (c::d::t):=by
 by_cases k1:d=124<;>by_cases k2:d=38<;>by_cases k3:d=61
 all_goals (try (subst k1);try (subst k2);try (subst k3))
 all_goals (try (exfalso;revert k1;decide))
 all_goals (try (exfalso;revert k2;decide))
 all_goals (try (exfalso;revert k3;decide))
 all_goals (try have b1:(d==124)=false:=beq_eq_false_iff_ne.2 k1)
 all_goals (try have b2:(d==38)=false:=beq_eq_false_iff_ne.2 k2)
 all_goals (try have b3:(d==61)=false:=beq_eq_false_iff_ne.2 k3)
 all_goals (
  by_cases h1:c=124;· subst h1;simp[Z8d,sgnsL,ZaC,Z0i,List.find?, *]
  by_cases h2:c=38;· subst h2;simp[Z8d,sgnsL,ZaC,Z0i,List.find?, *]
  by_cases h3:c=61;· subst h3;simp[Z8d,sgnsL,ZaC,Z0i,List.find?, *]
  by_cases h4:c=33;· subst h4;simp[Z8d,sgnsL,ZaC,Z0i,List.find?, *]
  by_cases h5:c=60;· subst h5;simp[Z8d,sgnsL,ZaC,Z0i,List.find?, *]
  by_cases h6:c=43;· subst h6;simp[Z8d,sgnsL,ZaC,Z0i,List.find?, *]
  by_cases h7:c=45;· subst h7;simp[Z8d,sgnsL,ZaC,Z0i,List.find?, *]
  by_cases h8:c=42;· subst h8;simp[Z8d,sgnsL,ZaC,Z0i,List.find?, *]
  by_cases h9:c=94;· subst h9;simp[Z8d,sgnsL,ZaC,Z0i,List.find?, *]
  by_cases h10:c=40;· subst h10;simp[Z8d,sgnsL,ZaC,Z0i,List.find?, *]
  by_cases h11:c=41;· subst h11;simp[Z8d,sgnsL,ZaC,Z0i,List.find?, *]
  by_cases h12:c=123;· subst h12;simp[Z8d,sgnsL,ZaC,Z0i,List.find?, *]
  by_cases h13:c=125;· subst h13;simp[Z8d,sgnsL,ZaC,Z0i,List.find?, *]
  by_cases h14:c=44;· subst h14;simp[Z8d,sgnsL,ZaC,Z0i,List.find?, *]
  by_cases h15:c=59;· subst h15;simp[Z8d,sgnsL,ZaC,Z0i,List.find?, *]
  simp[Z8d,sgnsL,ZaC,Z0i,List.find?, *,beq_eq_false_iff_ne.2 h1,beq_eq_false_iff_ne.2 h2,beq_eq_false_iff_ne.2 h3,beq_eq_false_iff_ne.2 h4,beq_eq_false_iff_ne.2 h5,beq_eq_false_iff_ne.2 h6,beq_eq_false_iff_ne.2 h7,beq_eq_false_iff_ne.2 h8,beq_eq_false_iff_ne.2 h9,beq_eq_false_iff_ne.2 h10,beq_eq_false_iff_ne.2 h11,beq_eq_false_iff_ne.2 h12,beq_eq_false_iff_ne.2 h13,beq_eq_false_iff_ne.2 h14,beq_eq_false_iff_ne.2 h15])
theorem ZpL(t:List UInt8):Z8d t sgnsL=Z0i t:=by
 match t with
 |[]=>decide
 |[c]=>exact ZnP c
 |c::d::t=>exact ZnO c d t
def ZrR:Z00:=[⟨true,0,0,.cells [.int .i64 0,.str [],.int .i64 0,.int .i64 0] 38⟩]
def Zq4:AV:=.tuple [.agg [.int .i64 0,.str [],.int .i64 0,.int .i64 0],.bool false]
def Z9e(s:List UInt8)(k:Nat):AV:=match Z4c (s.drop k) with
 |none=>Zq4
 |some (kind,len,num)=>.tuple [.agg [.int .i64 kind,.str ((s.drop k).take len),.int .i64 num,.int .i64 k],.bool true]
theorem Z8P{s:List UInt8}{k:Nat}(hk:k<s.length):Z0j (s.drop k)=if Z4S s[k].toNat then Z0d Z4s (s.drop k) else 0:=by
 rw[Y0o hk];rfl
theorem Zlx{s:List UInt8}{k:Nat}(hs:s.length<=65536)(hk:k<s.length)(hl:Z4S s[k].toNat=true):ValOK Y00 gl 31 [.str s,.int .i64 k] (Z9e s k):=by
 have hx:s[k]? = some s[k]:=by simp[hk]
 have hw:Z0j (s.drop k)=Z0d Z4s (s.drop k):=by rw[Z8P hk,if_pos hl]
 have hw0:0<Z0j (s.drop k):=by rw[hw,Z2D hk];simp[Z4s,hl]
 have ht:Z4c (s.drop k)=some (if keysL.contains ((s.drop k).take (Z0j (s.drop k))) then 2 else 1,Z0j (s.drop k),0):=by unfold Z4c;rw[if_pos hw0]
 refine Z0v follows Z05 Zcd Tryz.func31 rfl ?_
 repeat' ((conv=>whnf);first|with_reducible refine ixS _ rfl hx ?_|refine stp ?_|with_reducible apply Z01<;>intro h)
 conv=>whnf
 refine⟨Nat,(λe=>e<=s.length/\k<=e/\Z0d Z4s (s.drop k)=(e-k)+Z0d Z4s (s.drop e)),(λe=>[(0,.str s),(1,.int .i64 k),(4,.ptr 0 0),(6,.int .i64 e)]),(λ_=>ZrR),(λe=>s.length-e),⟨k,⟨by omega,by omega,by omega⟩,Y04 [0] rfl ⟨Y03 rfl,Y02 rfl,Y06 rfl rfl,Y02 rfl,trivial⟩ ⟨hbp,trivial⟩ rfl⟩,?_⟩
 intro e ⟨he,hke,hsp⟩
 by_cases hlt:e<s.length
 · have e1:decide ((e:Int)<(s.length:Int))=true:=by simpa using hlt
   have hy:s[e]? = some s[e]:=by simp[hlt]
   have hat:=Z2D (p:=Z4s) hlt
   cases hp:Z4s s[e].toNat with
   |true =>
    rw[hp,if_pos rfl]at hat
    repeat' ((conv=>whnf);first|with_reducible refine ixS _ rfl hy ?_|refine stp ?_|with_reducible apply Z01<;>intro h)
    all_goals (first|(exfalso;simp_all[Z4s];done)|skip)
    all_goals (conv=>whnf)
    all_goals exact⟨e+1,⟨hlt,by omega,by omega⟩,by show s.length-(e+1)<s.length-e;omega,Y04 [0] rfl ⟨Y03 rfl,Y02 rfl,Y06 rfl rfl,Y02 rfl,trivial⟩ ⟨hbp,trivial⟩ rfl⟩
   |false =>
    rw[hp,if_neg (by decide)]at hat
    have hn:e-k=Z0j (s.drop k):=by omega
    repeat' ((conv=>whnf);first|with_reducible refine ixS _ rfl hy ?_|refine stp ?_|with_reducible apply Z01<;>intro h)
    all_goals (first|(exfalso;simp_all[Z4s];done)|skip)
    all_goals (unfold Z9e;rw[ht];simp only[hn];try rfl)
    all_goals (split<;>rfl)
 · have e1:decide ((e:Int)<(s.length:Int))=false:=by simpa using hlt
   have hat:=Z4G (p:=Z4s) hlt
   have hn:e-k=Z0j (s.drop k):=by omega
   repeat' ((conv=>whnf);first|refine stp ?_|with_reducible apply Z01<;>intro h)
   unfold Z9e;rw[ht];simp only[hn];split<;>rfl
def Zsc:Z00:=[⟨true,0,0,.cells [.int .i64 0,.str [],.int .i64 0,.int .i64 0] 38⟩,⟨true,1,0,.cells (sgnsL.map AV.str) 9⟩]
theorem ZeV{c:UInt8}(h:Z0W c.toNat=true)(t:List UInt8):Z0i (c::t)=0:=by
 have hc:48<=c.toNat/\c.toNat<=57:=by simp[Z0W]at h;omega
 have ne:∀d:UInt8,(d.toNat<48\/57<d.toNat)->c≠d:=λd hd e=>by subst e;omega
 have hm:[124,38,61,33,60,43,45,42,94,40,41,123,125,44,59].contains c=false:=by
  rw[Bool.eq_false_iff]
  intro hc
  rw[List.contains_iff_mem]at hc
  simp only[List.mem_cons,List.not_mem_nil,or_false]at hc
  rcases hc with h|h|h|h|h|h|h|h|h|h|h|h|h|h|h<;>exact ne _ (by decide) h
 match t with
 |[]=>simp only[Z0i];rw[hm];rfl
 |d::t =>
  simp only[Z0i]
  rw[if_neg (by
   rintro (⟨_,h|h|h⟩|⟨_,h|h⟩)<;>exact ne _ (by decide) h),hm];rfl
theorem ZhS(l:List UInt8)(h0:l.head? ≠ some 48)(hd:∀c∈l,Z0W c.toNat=true):∀k,k+1<=l.length->10 ^ k<=Z2U (l.take (k+1))
 |0,h=>by
  cases l with
  |nil=>simp at h
  |cons c t =>
   have h3:=hd c (by simp)
   simp only[Z0W,Y0g,decide_eq_true_eq]at h3
   have h4:c.toNat≠48:=λe=>h0 (by
    have:c=48:=UInt8.toNat_inj.1 e
    subst this;rfl)
   simp[Z2U];omega
 |k+1,h=>by
  have h1:=ZhS l h0 hd k (by omega)
  have h2:=Z4A l (k+1) h
  rw[h2,Nat.pow_succ];omega
theorem Zl5{l:List UInt8}(h0:l.head? ≠ some 48)(hd:∀c∈l,Z0W c.toNat=true)(h:19<l.length):¬Z2U l<9223372036854775808:=by
 have h1:=ZhS l h0 hd (l.length-1) (by omega)
 have e:l.length-1+1=l.length:=by omega
 rw[e,Y0b]at h1
 have h2:10 ^ 19<=10 ^ (l.length-1):=Nat.pow_le_pow_right (by decide) (by omega)
 omega
theorem Zj6{s:List UInt8}{n:Nat}(h:0<n):(s.take n).head? = s.head?:=by
 cases s with
 |nil=>simp
 |cons c t=>cases n with|zero=>omega|succ n=>rfl
theorem Zo0{s:List UInt8}{k:Nat}(hs:s.length<=65536)(hk:k<s.length)(hl:Z4S s[k].toNat=false)(hd:Z0W s[k].toNat=true):ValOK Y00 gl 31 [.str s,.int .i64 k] (Z9e s k):=by
 have hx:s[k]? = some s[k]:=by simp[hk]
 have hdr:=Y0o hk
 have hw:Z0j (s.drop k)=0:=by rw[Z8P hk,hl];rfl
 have hsg:Z0i (s.drop k)=0:=by rw[hdr];exact ZeV hd _
 have hn0:0<Z0d Z0W (s.drop k):=by rw[Z2D hk,hd,if_pos rfl];omega
 have hle:=Z4f Z0W (s.drop k)
 have hdl:(s.drop k).length=s.length-k:=Y0w
 have hdg:=Zdp (s:=s.drop k) (by omega) hn0
 have htl:((s.drop k).take (Z0d Z0W (s.drop k))).length=Z0d Z0W (s.drop k):=by rw[Y0A];omega
 have hhd:((s.drop k).take (Z0d Z0W (s.drop k))).head? = (s.drop k).head?:=Zj6 hn0
 have hne:=Z9f (s.drop k)
 have hy:(s.drop k)[Z0d Z0W (s.drop k)]? = s[k+Z0d Z0W (s.drop k)]?:=by simp
 have e0:G7 70 [.str ((s.drop k).take (Z0d Z0W (s.drop k)))]=some (ZdV ((s.drop k).take (Z0d Z0W (s.drop k)))):=by
  simp only[G7];rw[if_pos];simp only[hdg,Y0h,decide_eq_true_eq];omega
 have hb:Z0m Y00 70=true:=by kernel_rfl
 refine Z0v follows Z05 Zcd Tryz.func31 rfl ?_
 repeat' ((conv=>whnf);first|with_reducible refine ixS _ rfl hx ?_|refine stp ?_|with_reducible apply Z01<;>intro h)
 conv=>whnf
 refine⟨Nat,(λe=>e<=s.length/\k<=e/\Z0d Z0W (s.drop k)=(e-k)+Z0d Z0W (s.drop e)),(λe=>[(0,.str s),(1,.int .i64 k),(4,.ptr 0 0),(6,.int .i64 e)]),(λ_=>ZrR),(λe=>s.length-e),⟨k,⟨by omega,by omega,by omega⟩,Y04 [0] rfl ⟨Y03 rfl,Y02 rfl,Y06 rfl rfl,Y02 rfl,trivial⟩ ⟨hbp,trivial⟩ rfl⟩,?_⟩
 intro e ⟨he,hke,hsp⟩
 generalize hnn:Z0d Z0W (s.drop k)=n at *
 generalize hxx:(s.drop k).take n=x at *
 have hdx:=ZbR hdg
 have hcs:(∃w,ZdV x = .tuple [.int .i64 w,.bool false]/\Z4c (s.drop k)=none)\/(∃v:Nat,ZdV x = .tuple [.int .i64 v,.bool true]/\Z4c (s.drop k)=if Zbc (s.drop k) n then none else some (3,n,v)):=by
  have t1:(Z1R (s.drop k)).1=0->Z4c (s.drop k)=none:=λh=>by unfold Z4c;rw[if_neg (by omega),if_neg (by omega),if_neg (by omega)]
  by_cases hbad:(1<x.length/\x.head? = some 48)\/19<x.length
  · refine .inl ⟨0,by unfold ZdV;rw[if_pos hbad],t1 ?_⟩
    rw[hne,if_pos]
    by_cases hz:1<x.length/\x.head? = some 48
    ·exact .inr (.inl (by rw[<- htl,<- hhd];exact hz))
    · have h19:19<x.length:=by rcases hbad with h|h;exact absurd h hz;exact h
      exact .inr (.inr (.inr (Zl5 (λh=>hz ⟨by omega,h⟩) hdx.2.2 h19)))
  · by_cases hv:Z2U x<9223372036854775808
    · have dv:decide ((Z2U x:Int)<9223372036854775808)=true:=by simp;omega
      refine .inr ⟨Z2U x,by unfold ZdV;rw[if_neg hbad,IntWalk.i64_in _ ⟨by omega,by omega⟩,dv],?_⟩
      by_cases htB:Zbc (s.drop k) n=true
      ·rw[if_pos htB];exact t1 (by rw[hne,if_pos (.inr (.inr (.inl htB)))])
      · rw[if_neg htB]
        have e2:Z1R (s.drop k)=(n,Z2U x):=by
         rw[hne,if_neg]
         rintro (h|h|h|h)
         ·omega
         ·rw[<- htl,<- hhd]at h;exact hbad (.inl h)
         ·exact htB h
         ·exact h hv
        unfold Z4c;rw[if_neg (by omega),e2,if_pos hn0]
    · have dv:decide ((Z2U x:Int)<9223372036854775808)=false:=by simp;omega
      refine .inl ⟨IntKind.i64.wrap (Z2U x),by unfold ZdV;rw[if_neg hbad,dv],t1 (by rw[hne,if_pos (.inr (.inr (.inr hv)))])⟩
 by_cases hlt:e<s.length
 · have e1:decide ((e:Int)<(s.length:Int))=true:=by simpa using hlt
   have hye:s[e]? = some s[e]:=by simp[hlt]
   have hat:=Z2D (p:=Z0W) hlt
   cases hp:Z0W s[e].toNat with
   |true =>
    rw[hp,if_pos rfl]at hat
    clear hcs hy hne hdg e0 hdx hxx htl
    repeat' ((conv=>whnf);first|with_reducible refine ixS _ rfl hye ?_|refine stp ?_|with_reducible apply Z01<;>intro h)
    conv=>whnf
    exact⟨e+1,⟨hlt,by omega,by omega⟩,by show s.length-(e+1)<s.length-e;omega,Y04 [0] rfl ⟨Y03 rfl,Y02 rfl,Y06 rfl rfl,Y02 rfl,trivial⟩ ⟨hbp,trivial⟩ rfl⟩
   |false =>
    rw[hp,if_neg (by decide)]at hat
    have hn:n=e-k:=by omega
    have hke':k+n=e:=by omega
    have hxe:(s.drop k).take (e-k)=x:=by rw[<- hn];exact hxx
    have htl2:Zbc (s.drop k) n=(Z4S s[e].toNat || s[e]==95):=by unfold Zbc;rw[hy,hke',hye]
    have u1:=Z5F s[e] 95 (by decide)
    have e0':G7 70 [.str ((s.drop k).take (e-k))]=some (ZdV x):=by rw[hxe];exact e0
    rcases hcs with ⟨w,h1,h2⟩|⟨v,h1,h2⟩
    · rw[h1]at e0'
      clear hy hne hdg e0 hdx htl htl2 u1 hx
      repeat' ((conv=>whnf);first|with_reducible refine ixS _ rfl hye ?_|with_reducible refine exI (Z1d hb rfl e0') ?_|refine stp ?_|with_reducible apply Z01<;>intro h)
      unfold Z9e;rw[h2];rfl
    · rw[h1]at e0'
      rw[htl2]at h2
      clear hy hne hdg e0 hdx htl htl2 hx
      repeat' ((conv=>whnf);first|with_reducible refine ixS _ rfl hye ?_|with_reducible refine exI (Z1d hb rfl e0') ?_|refine stp ?_|with_reducible apply Z01<;>intro h)
      ·unfold Z9e;rw[h2,if_pos (by simp_all)];rfl
      ·unfold Z9e;rw[h2,if_pos (by simp_all)];rfl
      ·unfold Z9e;rw[h2,if_neg (by simp_all)];simp only[hn];rfl
 · have e1:decide ((e:Int)<(s.length:Int))=false:=by simpa using hlt
   have hat:=Z4G (p:=Z0W) hlt
   have hn:n=e-k:=by omega
   have hxe:(s.drop k).take (e-k)=x:=by rw[<- hn];exact hxx
   have htl2:Zbc (s.drop k) n=false:=by unfold Zbc;rw[hy,List.getElem?_eq_none (by omega)]
   have e0':G7 70 [.str ((s.drop k).take (e-k))]=some (ZdV x):=by rw[hxe];exact e0
   rcases hcs with ⟨w,h1,h2⟩|⟨v,h1,h2⟩
   · rw[h1]at e0'
     clear hy hne hdg e0 hdx htl htl2 hx
     repeat' ((conv=>whnf);first|with_reducible refine exI (Z1d hb rfl e0') ?_|refine stp ?_|with_reducible apply Z01<;>intro h)
     unfold Z9e;rw[h2];rfl
   · rw[h1]at e0'
     rw[htl2]at h2
     clear hy hne hdg e0 hdx htl htl2 hx
     repeat' ((conv=>whnf);first|with_reducible refine exI (Z1d hb rfl e0') ?_|refine stp ?_|with_reducible apply Z01<;>intro h)
     unfold Z9e;rw[h2];simp only[hn];rfl
theorem Zly{s:List UInt8}{k:Nat}(hs:s.length<=65536)(hk:k<s.length)(hl:Z4S s[k].toNat=false)(hd:Z0W s[k].toNat=false):ValOK Y00 gl 31 [.str s,.int .i64 k] (Z9e s k):=by
 have hx:s[k]? = some s[k]:=by simp[hk]
 have hw:Z0j (s.drop k)=0:=by rw[Z8P hk,hl];rfl
 have hn:(Z1R (s.drop k)).1=0:=by unfold Z1R;rw[if_pos];exact .inl (by rw[Z2D hk,hd];rfl)
 have ht:Z4c (s.drop k)=if 0<Z0i (s.drop k) then some (4,Z0i (s.drop k),0) else none:=by unfold Z4c;rw[if_neg (by omega),if_neg (by omega)]
 refine Z2f (λg=>!Y0i g 71) 2 follows Z05 Zcd Tryz.func31 rfl ?_
 repeat' ((conv=>whnf);first|with_reducible refine ixS _ rfl hx ?_|refine stp ?_|with_reducible apply Z01<;>intro h)
 conv=>whnf
 refine⟨Nat,(λi=>i<=20/\Z0i (s.drop k)=Z8d (s.drop k) (sgnsL.drop i)),(λi=>[(0,.str s),(1,.int .i64 k),(4,.ptr 0 0),(9,.slice 1 0 20 20 1),(10,.int .i64 i)]),(λ_=>Zsc),(λi=>20-i),⟨0,⟨by omega,(ZpL _).symm⟩,?_⟩,?_⟩
 · refine Y04 [0,1] rfl ?_ ?_ rfl
   ·exact⟨Y03 rfl,Y02 rfl,Y06 rfl rfl,Y0e rfl rfl rfl (Y01 _) (Y01 _) rfl,Y02 rfl,trivial⟩
   ·exact⟨hbp,hbp,trivial⟩
 intro i ⟨hi,hsg⟩
 by_cases hlt:i<20
 · have e1:decide ((i:Int)<20)=true:=by simp;omega
   have hlk:i<sgnsL.length:=hlt
   have hdr:sgnsL.drop i=sgnsL[i]::sgnsL.drop (i+1):=Y0o hlk
   have hl2:sgnsL[i].length<=2/\0<sgnsL[i].length:=by
    have h:(sgnsL.all λp=>decide (p.length<=2/\0<p.length))=true:=by decide
    simpa using List.all_eq_true.1 h _ (Y0z hlk)
   have hdl:(s.drop k).length=s.length-k:=Y0w
   have hcell:(sgnsL.map AV.str)[i]? = some (.str sgnsL[i]):=by simp[hlk]
   generalize sgnsL[i]=p at *
   by_cases hfit:ZaC (s.drop k) p=true
   · have hpl : p.length <= s.length - k := by
      have:=congrArg List.length (eq_of_beq hfit)
      rw[Y0A]at this;omega
     have d1:decide ((s.length:Int)-(k:Int) >= (p.length:Int))=true:=by simp;omega
     have d2:(List.take (k+p.length-k) (List.drop k s)==p)=true:=by rw[Nat.add_sub_cancel_left];exact hfit
     have hsn:Z0i (s.drop k)=p.length:=by rw[hsg,hdr,Z8d,List.find?,hfit]
     have htk:(s.drop k).take p.length=p:=eq_of_beq hfit
     repeat' ((conv=>whnf);first|with_reducible refine exI (Zbb (c:=.str p) hcell) ?_|refine exI (Zbb (c:=.str p) (by simpa using hcell)) ?_|refine stp ?_|with_reducible apply Z01<;>intro h)
     unfold Z9e;rw[ht,if_pos (by omega)];simp only[hsn,htk];rfl
   · have d2:(List.take (k+p.length-k) (List.drop k s)==p)=false:=by rw[Nat.add_sub_cancel_left];simpa[ZaC]using hfit
     have hsn:Z0i (s.drop k)=Z8d (s.drop k) (sgnsL.drop (i+1)):=by rw[hsg,hdr,Z8d,List.find?,Bool.eq_false_iff.2 hfit];rfl
     by_cases hpl:p.length<=s.length-k
     · have d1:decide ((s.length:Int)-(k:Int) >= (p.length:Int))=true:=by simp;omega
       repeat' ((conv=>whnf);first|refine exI (Zbb (c:=.str p) (by simpa using hcell)) ?_|refine stp ?_|with_reducible apply Z01<;>intro h)
       conv=>whnf
       exact⟨i+1,⟨hlt,hsn⟩,by show 20-(i+1)<20-i;omega,Y04 [0,1] rfl ⟨Y03 rfl,Y02 rfl,Y06 rfl rfl,Y0e rfl rfl rfl (Y01 _) (Y01 _) rfl,Y02 rfl,trivial⟩ ⟨hbp,hbp,trivial⟩ rfl⟩
     · have d1:decide ((s.length:Int)-(k:Int) >= (p.length:Int))=false:=by simp;omega
       repeat' ((conv=>whnf);first|refine exI (Zbb (c:=.str p) (by simpa using hcell)) ?_|refine stp ?_|with_reducible apply Z01<;>intro h)
       conv=>whnf
       exact⟨i+1,⟨hlt,hsn⟩,by show 20-(i+1)<20-i;omega,Y04 [0,1] rfl ⟨Y03 rfl,Y02 rfl,Y06 rfl rfl,Y0e rfl rfl rfl (Y01 _) (Y01 _) rfl,Y02 rfl,trivial⟩ ⟨hbp,hbp,trivial⟩ rfl⟩
 · have e1:decide ((i:Int)<20)=false:=by simp;omega
   have hi':i=20:=by omega
   subst hi'
   have h0:Z0i (s.drop k)=0:=hsg
   repeat' ((conv=>whnf);first|refine stp ?_|with_reducible apply Z01<;>intro h)
   unfold Z9e;rw[ht,if_neg (by omega)];rfl
end
section
variable {gl:Z0k}
theorem Zh5(s:List UInt8)(k:Nat):plain (Z9e s k)=true:=by unfold Z9e;split<;>rfl
theorem Zq1{s:List UInt8}{k:Nat}(hs:s.length<=65536)(hk:k<s.length):ValOK Y00 gl 31 [.str s,.int .i64 k] (Z9e s k):=by
 cases hl:Z4S s[k].toNat with
 |true=>exact Zlx hs hk hl
 |false=>cases hd:Z0W s[k].toNat with
  |true=>exact Zo0 hs hk hl hd
  |false=>exact Zly hs hk hl hd
def G8(f:Nat)(xs:List AV):Option AV:=match f with
 |31=>match xs with|[.str s,.int .i64 (.ofNat k)]=>if s.length<=65536/\k<s.length then some (Z9e s k) else none|_=>none
 |f=>G7 f xs
theorem ZqS{f:Nat}{xs:List AV}{r:AV}(h:G8 f xs=some r):plain r=true/\ValOK Y00 gl f xs r:=by
 unfold G8 at h
 split at h<;>try (exact Znn h)
 split at h<;>try (cases h;done)
 split at h<;>cases h
 rename_i hd
 exact⟨Zh5 _ _,Zq1 hd.1 hd.2⟩
theorem ZmG:OrcSound Y00 gl (Z6v G8):=Z0J λf xs r h=>ZqS h
def lexAt(n k:Nat)(s:List UInt8):Nat ⊕ List Tk:=Z9Y n (k+skip false (s.drop k)) (s.drop (k+skip false (s.drop k)))
theorem Zj1{n k:Nat}{s:List UInt8}(hk:k<s.length)(h:Z4l s[k].toNat=true):lexAt n k s=lexAt n (k+1) s:=by
 have:skip false (s.drop k)=skip false (s.drop (k+1))+1:=by rw[Y0o hk];simp only[skip];rw[if_pos h]
 unfold lexAt;rw[this]
 have e:k+(skip false (s.drop (k+1))+1)=k+1+skip false (s.drop (k+1)):=by omega
 rw[e]
theorem Zee{k:Nat}{s:List UInt8}(hk:k+1<s.length)(h1:s[k]=47)(h2:s[k+1]=47):skip false (s.drop k)=skip true (s.drop k):=by
 rw[Y0o (by omega:k<s.length)]
 have hb:Z4l ((47:UInt8).toNat:Int)=false:=by decide
 have hh:(s.drop (k+1)).head? = some 47:=by rw[Y0o hk,h2];rfl
 simp only[skip,h1,hb,hh]
 rw[if_neg (by decide),if_pos (by simp),if_neg (by decide)]
theorem ZiZ{n k:Nat}{s:List UInt8}(hk:k+1<s.length)(h1:s[k]=47)(h2:s[k+1]=47):lexAt n k s=lexAt n (k+Z0d (· != 10) (s.drop k)) s:=by
 have e1:=Zee hk h1 h2
 have e2:=Zbi (s.drop k)
 rw[List.drop_drop]at e2
 unfold lexAt;rw[e1,e2,<- Nat.add_assoc]
theorem Zif{k:Nat}{s:List UInt8}(hk:k<s.length)(hb:Z4l s[k].toNat=false)(h:¬(s[k]=47/\s[k+1]? = some 47)):skip false (s.drop k)=0:=by
 rw[Y0o hk]
 have hh:(s.drop (k+1)).head? = s[k+1]?:=by simp[List.head?_drop]
 simp only[skip,hb,hh]
 rw[if_neg (by decide),if_neg h]
theorem ZiY {n k : Nat} {s : List UInt8} (hk : k < s.length) (hb : Z4l s[k].toNat = false) (h : ¬ (s[k] = 47 /\ s[k + 1]? = some 47)) :
  lexAt (n+1) k s=match Z4c (s.drop k) with
   |none=>.inl k
   |some (kind,len,num)=>match lexAt n (k+len) s with
    | .inl e=>.inl e
    | .inr l=>.inr (⟨kind,(s.drop k).take len,num,k⟩::l):=by
 have h0:=Zif hk hb h
 have hne:¬s.drop k=[]:=by intro e;have:=congrArg List.length e;simp at this;omega
 unfold lexAt
 rw[h0]
 simp only[Nat.add_zero]
 rw[Z9Y,if_neg hne]
 cases Z4c (s.drop k) with
 |none=>rfl
 |some p=>obtain⟨a,b,c⟩:=p;simp only[List.drop_drop];rw[<- Nat.add_assoc];rfl
theorem Zj0{n k:Nat}{s:List UInt8}(hk:s.length<=k):lexAt (n+1) k s = .inr []:=by
 have:s.drop k=[]:=Y0x hk
 have h2:s.drop (k+skip false (s.drop k))=[]:=Y0x (by omega)
 unfold lexAt;rw[Z9Y,if_pos h2]
theorem Zhf(s:List UInt8):Z6D s=lexAt (s.length+1) 0 s:=by unfold Z6D lexAt;simp only[List.drop_zero,Nat.zero_add]
attribute [local irreducible] Z1R Z0j Z0i skip Z0d
theorem Zkt(s:List UInt8)(hs:s.length<=65536):ValOK Y00 gl 10 [.str s] (Zck s):=by
 have e0:decide ((s.length:Int)>65536)=false:=by simp;omega
 refine Z0v follows Z05 ZmG Tryz.func10 rfl ?_
 repeat' ((conv=>whnf);first|refine stp ?_|with_reducible apply Z01<;>intro h)
 conv=>whnf
 refine⟨Nat×Nat×List Tk,(λp=>p.1<=s.length/\s.length<p.1+p.2.1/\Z6D s=Z7q p.2.2 (lexAt p.2.1 p.1 s)/\p.2.2.length<=p.1),(λp=>[(0,.str s),(3,.ptr 0 0),(4,match p.2.2 with|[]=>.nslice|_::_=>.slice 1 0 p.2.2.length p.2.2.length 4),(5,.int .i64 p.1)]),
  (λp=>⟨true,0,0,.cells [.int .i64 0,.int .i64 0] 29⟩::match p.2.2 with|[]=>[]|_::_=>[⟨true,1,0,.cells (Zcg p.2.2) 38⟩]),(λp=>s.length-p.1),⟨(0,s.length+1,[]),?_,?_⟩,?_⟩
 ·exact⟨Y05 _,by show s.length<0+(s.length+1);omega,((Zd1 _).trans (Zhf s).symm).symm,Y05 _⟩
 · refine Y04 [0] rfl ?_ ?_ rfl
   ·exact⟨Y03 rfl,Y06 rfl rfl,Y03 rfl,Y02 rfl,trivial⟩
   ·exact⟨hbp,trivial⟩
 · rintro⟨k,n,acc⟩ ⟨h1,h2,h3,h4⟩
   dsimp only at h1 h2 h3 h4
   by_cases hk:k<s.length
   · have e1:decide ((k:Int)<(s.length:Int))=true:=by simpa using hk
     have hx:s[k]? = some s[k]:=by simp[hk]
     cases hb:Z4l s[k].toNat with
     |true =>
      have h5:=Zj1 (n:=n) hk hb
      cases acc with
      |nil =>
       dsimp only
       repeat' ((conv=>whnf);first|with_reducible refine ixS _ rfl hx ?_|refine stp ?_|with_reducible apply Z01<;>intro h)
       conv=>whnf
       refine⟨(k+1,n,[]),⟨hk,by show s.length<k+1+n;omega,h3.trans (by rw[h5]),Y05 _⟩,by show s.length-(k+1)<s.length-k;omega,Y04 [0] rfl ⟨Y03 rfl,Y06 rfl rfl,Y03 rfl,Y02 rfl,trivial⟩ ⟨hbp,trivial⟩ rfl⟩
      |cons a acc =>
       dsimp only
       repeat' ((conv=>whnf);first|with_reducible refine ixS _ rfl hx ?_|refine stp ?_|with_reducible apply Z01<;>intro h)
       conv=>whnf
       refine⟨(k+1,n,a::acc),⟨hk,by show s.length<k+1+n;omega,h3.trans (by rw[h5]),by show (a::acc).length<=k+1;omega⟩,by show s.length-(k+1)<s.length-k;omega,Y04 [0,1] rfl ⟨Y03 rfl,Y06 rfl rfl,Y0e rfl rfl rfl (Y01 _) (Y01 _) rfl,Y02 rfl,trivial⟩ ⟨hbp,⟨rfl,rfl,rfl,rfl,Y0m (rest:=[]) (Y0d _).symm (Z1g _)⟩,trivial⟩ rfl⟩
     |false =>
      by_cases hr:s[k]=47/\s[k+1]? = some 47
      ·
       obtain⟨r1,r2⟩:=hr
       have hk1:k+1<s.length:=by
        refine Classical.byContradiction λh=>?_
        rw[List.getElem?_eq_none (by omega)]at r2;cases r2
       have r3:s[k+1]=47:=by have:=List.getElem?_eq_getElem hk1;rw[this]at r2;exact Option.some.inj r2
       have e2:decide (((k+1:Nat):Int)<(s.length:Int))=true:=by simp;omega
       have hx1:s[k+1]? = some s[k+1]:=by simp[hk1]
       have h5:=ZiZ (n:=n) hk1 r1 r3
       have q1:((s[k].toNat:Int)==47)=true:=by rw[r1];rfl
       have q2:((s[k+1].toNat:Int)==47)=true:=by rw[r3];rfl
       have hpos:0<Z0d (· != 10) (s.drop k):=by rw[Z2D hk,r1,if_pos (by decide)];omega
       cases acc with
       |nil =>
        dsimp only
        repeat' ((conv=>whnf);first|with_reducible refine ixS _ rfl hx ?_|with_reducible refine ixS _ rfl hx1 ?_|refine stp ?_|with_reducible apply Z01<;>intro h)
        conv=>whnf
        refine⟨Nat,(λe=>e<=s.length/\k<=e/\Z0d (· != 10) (s.drop k)=(e-k)+Z0d (· != 10) (s.drop e)),(λe=>[(0,.str s),(3,.ptr 0 0),(4,.nslice),(5,.int .i64 e)]),(λ_=>[⟨true,0,0,.cells [.int .i64 0,.int .i64 0] 29⟩]),(λe=>s.length-e),⟨k,⟨by omega,by omega,by omega⟩,Y04 [0] rfl ⟨Y03 rfl,Y06 rfl rfl,Y03 rfl,Y02 rfl,trivial⟩ ⟨hbp,trivial⟩ rfl⟩,?_⟩
        intro e ⟨he,hke,hsp⟩
        by_cases hlt:e<s.length
        · have f1:decide ((e:Int)<(s.length:Int))=true:=by simpa using hlt
          have hye:s[e]? = some s[e]:=by simp[hlt]
          have hat:=Z2D (p:=(· != 10)) hlt
          cases hp:((s[e].toNat:Int) != 10) with
          |true =>
           rw[hp,if_pos rfl]at hat
           repeat' ((conv=>whnf);first|with_reducible refine ixS _ rfl hye ?_|refine stp ?_|with_reducible apply Z01<;>intro h)
           conv=>whnf
           exact⟨e+1,⟨hlt,by omega,by omega⟩,by show s.length-(e+1)<s.length-e;omega,Y04 [0] rfl ⟨Y03 rfl,Y06 rfl rfl,Y03 rfl,Y02 rfl,trivial⟩ ⟨hbp,trivial⟩ rfl⟩
          |false =>
           rw[hp,if_neg (by decide)]at hat
           have h6:k+Z0d (· != 10) (s.drop k)=e:=by omega
           rw[h6]at h5
           repeat' ((conv=>whnf);first|with_reducible refine ixS _ rfl hye ?_|refine stp ?_|with_reducible apply Z01<;>intro h)
           conv=>whnf
           exact⟨(e,n,[]),⟨he,by show s.length<e+n;omega,h3.trans (by rw[h5]),by show List.length []<=e;omega⟩,by show s.length-e<s.length-k;omega,Y04 [0] rfl ⟨Y03 rfl,Y06 rfl rfl,Y03 rfl,Y02 rfl,trivial⟩ ⟨hbp,trivial⟩ rfl⟩
        · have f1:decide ((e:Int)<(s.length:Int))=false:=by simpa using hlt
          have hat:=Z4G (p:=(· != 10)) hlt
          have h6:k+Z0d (· != 10) (s.drop k)=e:=by omega
          rw[h6]at h5
          repeat' ((conv=>whnf);(first|refine stp ?_|with_reducible apply Z01<;>intro h))
          conv=>whnf
          exact⟨(e,n,[]),⟨he,by show s.length<e+n;omega,h3.trans (by rw[h5]),by show List.length []<=e;omega⟩,by show s.length-e<s.length-k;omega,Y04 [0] rfl ⟨Y03 rfl,Y06 rfl rfl,Y03 rfl,Y02 rfl,trivial⟩ ⟨hbp,trivial⟩ rfl⟩
       |cons a acc =>
        dsimp only
        repeat' ((conv=>whnf);first|with_reducible refine ixS _ rfl hx ?_|with_reducible refine ixS _ rfl hx1 ?_|refine stp ?_|with_reducible apply Z01<;>intro h)
        conv=>whnf
        refine⟨Nat,(λe=>e<=s.length/\k<=e/\Z0d (· != 10) (s.drop k)=(e-k)+Z0d (· != 10) (s.drop e)),(λe=>[(0,.str s),(3,.ptr 0 0),(4,.slice 1 0 (a::acc).length (a::acc).length 4),(5,.int .i64 e)]),(λ_=>[⟨true,0,0,.cells [.int .i64 0,.int .i64 0] 29⟩,⟨true,1,0,.cells (Zcg (a::acc)) 38⟩]),(λe=>s.length-e),⟨k,⟨by omega,by omega,by omega⟩,Y04 [0,1] rfl ⟨Y03 rfl,Y06 rfl rfl,Y0e rfl rfl rfl (Y01 _) (Y01 _) rfl,Y02 rfl,trivial⟩ ⟨hbp,⟨rfl,rfl,rfl,rfl,Y0m (rest:=[]) (Y0d _).symm (Z1g _)⟩,trivial⟩ rfl⟩,?_⟩
        intro e ⟨he,hke,hsp⟩
        by_cases hlt:e<s.length
        · have f1:decide ((e:Int)<(s.length:Int))=true:=by simpa using hlt
          have hye:s[e]? = some s[e]:=by simp[hlt]
          have hat:=Z2D (p:=(· != 10)) hlt
          cases hp:((s[e].toNat:Int) != 10) with
          |true =>
           rw[hp,if_pos rfl]at hat
           repeat' ((conv=>whnf);first|with_reducible refine ixS _ rfl hye ?_|refine stp ?_|with_reducible apply Z01<;>intro h)
           conv=>whnf
           exact⟨e+1,⟨hlt,by omega,by omega⟩,by show s.length-(e+1)<s.length-e;omega,Y04 [0,1] rfl ⟨Y03 rfl,Y06 rfl rfl,Y0e rfl rfl rfl (Y01 _) (Y01 _) rfl,Y02 rfl,trivial⟩ ⟨hbp,⟨rfl,rfl,rfl,rfl,Y0m (rest:=[]) (Y0d _).symm (Z1g _)⟩,trivial⟩ rfl⟩
          |false =>
           rw[hp,if_neg (by decide)]at hat
           have h6:k+Z0d (· != 10) (s.drop k)=e:=by omega
           rw[h6]at h5
           repeat' ((conv=>whnf);first|with_reducible refine ixS _ rfl hye ?_|refine stp ?_|with_reducible apply Z01<;>intro h)
           conv=>whnf
           exact⟨(e,n,(a::acc)),⟨he,by show s.length<e+n;omega,h3.trans (by rw[h5]),by show List.length (a::acc)<=e;omega⟩,by show s.length-e<s.length-k;omega,Y04 [0,1] rfl ⟨Y03 rfl,Y06 rfl rfl,Y0e rfl rfl rfl (Y01 _) (Y01 _) rfl,Y02 rfl,trivial⟩ ⟨hbp,⟨rfl,rfl,rfl,rfl,Y0m (rest:=[]) (Y0d _).symm (Z1g _)⟩,trivial⟩ rfl⟩
        · have f1:decide ((e:Int)<(s.length:Int))=false:=by simpa using hlt
          have hat:=Z4G (p:=(· != 10)) hlt
          have h6:k+Z0d (· != 10) (s.drop k)=e:=by omega
          rw[h6]at h5
          repeat' ((conv=>whnf);(first|refine stp ?_|with_reducible apply Z01<;>intro h))
          conv=>whnf
          exact⟨(e,n,(a::acc)),⟨he,by show s.length<e+n;omega,h3.trans (by rw[h5]),by show List.length (a::acc)<=e;omega⟩,by show s.length-e<s.length-k;omega,Y04 [0,1] rfl ⟨Y03 rfl,Y06 rfl rfl,Y0e rfl rfl rfl (Y01 _) (Y01 _) rfl,Y02 rfl,trivial⟩ ⟨hbp,⟨rfl,rfl,rfl,rfl,Y0m (rest:=[]) (Y0d _).symm (Z1g _)⟩,trivial⟩ rfl⟩
      · have e2 : G8 31 [.str s, .int .i64 k] = some (Z9e s k) := by
         show (if s.length<=65536/\k<s.length then some (Z9e s k) else none)=_
         rw[if_pos ⟨hs,hk⟩]
        have hb21:Z0m Y00 31=true:=by kernel_rfl
        obtain⟨n,rfl⟩:∃m,n=m+1:=⟨n-1,by omega⟩
        have h5:=ZiY (n:=n) hk hb hr
        cases htk:Z4c (s.drop k) with
        |none =>
         rw[htk]at h5
         have e3:Z9e s k=Zq4:=by unfold Z9e;rw[htk]
         rw[e3]at e2
         have e9:Z6D s = .inl k:=by rw[h3,h5];rfl
         have eR:Zck s = .tuple [.nslice,.agg [.int .i64 4,.int .i64 k]]:=by unfold Zck;rw[if_neg (by omega),e9]
         rw[eR]
         clear h3 h5 htk e9 eR
         by_cases h47:s[k]=47
         · have q1:((s[k].toNat:Int)==47)=true:=by rw[h47];rfl
           by_cases hk1:k+1<s.length
           · have f2:decide (((k+1:Nat):Int)<(s.length:Int))=true:=by simp;omega
             have hx1:s[k+1]? = some s[k+1]:=by simp[hk1]
             have q2:((s[k+1].toNat:Int)==47)=false:=by
              refine beq_eq_false_iff_ne.2 λe=>hr ⟨h47,by rw[hx1];congr 1;apply UInt8.toNat_inj.1;simp;omega⟩
             cases acc with
             |nil =>
              dsimp only
              repeat' ((conv=>whnf);first|with_reducible refine ixS _ rfl hx ?_|with_reducible refine ixS _ rfl hx1 ?_|with_reducible refine exI (Z1d hb21 rfl e2) ?_|refine stp ?_|with_reducible apply Z01<;>intro h)
              rfl
             |cons a acc =>
              dsimp only
              repeat' ((conv=>whnf);first|with_reducible refine ixS _ rfl hx ?_|with_reducible refine ixS _ rfl hx1 ?_|with_reducible refine exI (Z1d hb21 rfl e2) ?_|refine stp ?_|with_reducible apply Z01<;>intro h)
              rfl
           · have f2:decide (((k+1:Nat):Int)<(s.length:Int))=false:=by simp;omega
             cases acc with
             |nil =>
              dsimp only
              repeat' ((conv=>whnf);first|with_reducible refine ixS _ rfl hx ?_|with_reducible refine exI (Z1d hb21 rfl e2) ?_|refine stp ?_|with_reducible apply Z01<;>intro h)
              rfl
             |cons a acc =>
              dsimp only
              repeat' ((conv=>whnf);first|with_reducible refine ixS _ rfl hx ?_|with_reducible refine exI (Z1d hb21 rfl e2) ?_|refine stp ?_|with_reducible apply Z01<;>intro h)
              rfl
         · have q1:((s[k].toNat:Int)==47)=false:=beq_eq_false_iff_ne.2 λe=>h47 (by apply UInt8.toNat_inj.1;simp;omega)
           cases acc with
           |nil =>
            dsimp only
            repeat' ((conv=>whnf);first|with_reducible refine ixS _ rfl hx ?_|with_reducible refine exI (Z1d hb21 rfl e2) ?_|refine stp ?_|with_reducible apply Z01<;>intro h)
            rfl
           |cons a acc =>
            dsimp only
            repeat' ((conv=>whnf);first|with_reducible refine ixS _ rfl hx ?_|with_reducible refine exI (Z1d hb21 rfl e2) ?_|refine stp ?_|with_reducible apply Z01<;>intro h)
            rfl
        |some tk =>
         obtain⟨kd,len,num⟩:=tk
         rw[htk]at h5
         have e3:Z9e s k = .tuple [.agg [.int .i64 kd,.str ((s.drop k).take len),.int .i64 num,.int .i64 k],.bool true]:=by unfold Z9e;rw[htk]
         rw[e3]at e2
         have hl:=Zb7 htk
         rw[Y0w]at hl
         have tl:((s.drop k).take len).length=len:=by rw[Y0A,Y0w];omega
         have h6:Z6D s=Z7q (acc++[⟨kd,(s.drop k).take len,num,k⟩]) (lexAt n (k+len) s):=by rw[h3,h5];exact Zax _ _ _
         clear h3 h5 htk
         by_cases h47:s[k]=47
         · have q1:((s[k].toNat:Int)==47)=true:=by rw[h47];rfl
           by_cases hk1:k+1<s.length
           · have f2:decide (((k+1:Nat):Int)<(s.length:Int))=true:=by simp;omega
             have hx1:s[k+1]? = some s[k+1]:=by simp[hk1]
             have q2:((s[k+1].toNat:Int)==47)=false:=by
              refine beq_eq_false_iff_ne.2 λe=>hr ⟨h47,by rw[hx1];congr 1;apply UInt8.toNat_inj.1;simp;omega⟩
             cases acc with
             |nil =>
              dsimp only
              repeat' ((conv=>whnf);first|with_reducible refine ixS _ rfl hx ?_|with_reducible refine ixS _ rfl hx1 ?_|with_reducible refine exI (Z1d hb21 rfl e2) ?_|refine stp ?_|with_reducible apply Z01<;>intro h)
              conv=>whnf
              exact⟨(k+len,n,[⟨kd,(s.drop k).take len,num,k⟩]),⟨by show k+len<=s.length;omega,by show s.length<k+len+n;omega,h6,by show 1<=k+len;omega⟩,by show s.length-(k+len)<s.length-k;omega,Y04 [0,3] rfl ⟨Y03 rfl,Y06 rfl rfl,Y0e rfl rfl rfl (Y01 _) (Y01 _) rfl,Y02 (by rw[tl]),trivial⟩ ⟨hbp,hbp,trivial⟩ rfl⟩
             |cons a acc =>
              dsimp only
              repeat' ((conv=>whnf);first|with_reducible refine ixS _ rfl hx ?_|with_reducible refine ixS _ rfl hx1 ?_|with_reducible refine exI (Z1d hb21 rfl e2) ?_|refine stp ?_|with_reducible apply Z01<;>intro h)
              conv=>whnf
              refine exI (Z6T aT (xs:=[.int .i64 kd,.str ((s.drop k).take len),.int .i64 num,.int .i64 k]) rfl rfl rfl (Z1W _) rfl (by decide) ⟨by simp at h4⊢;omega,by simp at h4⊢;omega⟩) ?_
              repeat' ((conv=>whnf);(first|refine stp ?_|with_reducible apply Z01<;>intro h))
              conv=>whnf
              refine⟨(k+len,n,(a::acc)++[⟨kd,(s.drop k).take len,num,k⟩]),⟨by show k+len<=s.length;omega,by show s.length<k+len+n;omega,h6,by show ((a::acc)++[_]).length<=k+len;rw[Z1b];omega⟩,by show s.length-(k+len)<s.length-k;omega,Y04 [0,4] rfl ?_ ?_ rfl⟩
              · refine⟨Y03 rfl,Y06 rfl rfl,Y0e rfl rfl ?_ ?_ ?_ rfl,Y02 ?_,trivial⟩
                ·exact (Z1b (a::acc) _).symm
                ·exact Y01 _
                ·exact Nat.le_of_eq (Z1b (a::acc) _)
                ·rw[tl]
              ·exact⟨hbp,⟨rfl,rfl,rfl,rfl,Y0m (rest:=[]) ((Z0I (a::acc) ⟨kd,(s.drop k).take len,num,k⟩).symm.trans (Y0d _).symm) (Z1g _)⟩,trivial⟩
           · have f2:decide (((k+1:Nat):Int)<(s.length:Int))=false:=by simp;omega
             cases acc with
             |nil =>
              dsimp only
              repeat' ((conv=>whnf);first|with_reducible refine ixS _ rfl hx ?_|with_reducible refine exI (Z1d hb21 rfl e2) ?_|refine stp ?_|with_reducible apply Z01<;>intro h)
              conv=>whnf
              exact⟨(k+len,n,[⟨kd,(s.drop k).take len,num,k⟩]),⟨by show k+len<=s.length;omega,by show s.length<k+len+n;omega,h6,by show 1<=k+len;omega⟩,by show s.length-(k+len)<s.length-k;omega,Y04 [0,3] rfl ⟨Y03 rfl,Y06 rfl rfl,Y0e rfl rfl rfl (Y01 _) (Y01 _) rfl,Y02 (by rw[tl]),trivial⟩ ⟨hbp,hbp,trivial⟩ rfl⟩
             |cons a acc =>
              dsimp only
              repeat' ((conv=>whnf);first|with_reducible refine ixS _ rfl hx ?_|with_reducible refine exI (Z1d hb21 rfl e2) ?_|refine stp ?_|with_reducible apply Z01<;>intro h)
              conv=>whnf
              refine exI (Z6T aT (xs:=[.int .i64 kd,.str ((s.drop k).take len),.int .i64 num,.int .i64 k]) rfl rfl rfl (Z1W _) rfl (by decide) ⟨by simp at h4⊢;omega,by simp at h4⊢;omega⟩) ?_
              repeat' ((conv=>whnf);(first|refine stp ?_|with_reducible apply Z01<;>intro h))
              conv=>whnf
              refine⟨(k+len,n,(a::acc)++[⟨kd,(s.drop k).take len,num,k⟩]),⟨by show k+len<=s.length;omega,by show s.length<k+len+n;omega,h6,by show ((a::acc)++[_]).length<=k+len;rw[Z1b];omega⟩,by show s.length-(k+len)<s.length-k;omega,Y04 [0,4] rfl ?_ ?_ rfl⟩
              · refine⟨Y03 rfl,Y06 rfl rfl,Y0e rfl rfl ?_ ?_ ?_ rfl,Y02 ?_,trivial⟩
                ·exact (Z1b (a::acc) _).symm
                ·exact Y01 _
                ·exact Nat.le_of_eq (Z1b (a::acc) _)
                ·rw[tl]
              ·exact⟨hbp,⟨rfl,rfl,rfl,rfl,Y0m (rest:=[]) ((Z0I (a::acc) ⟨kd,(s.drop k).take len,num,k⟩).symm.trans (Y0d _).symm) (Z1g _)⟩,trivial⟩
         · have q1:((s[k].toNat:Int)==47)=false:=beq_eq_false_iff_ne.2 λe=>h47 (by apply UInt8.toNat_inj.1;simp;omega)
           cases acc with
           |nil =>
            dsimp only
            repeat' ((conv=>whnf);first|with_reducible refine ixS _ rfl hx ?_|with_reducible refine exI (Z1d hb21 rfl e2) ?_|refine stp ?_|with_reducible apply Z01<;>intro h)
            conv=>whnf
            exact⟨(k+len,n,[⟨kd,(s.drop k).take len,num,k⟩]),⟨by show k+len<=s.length;omega,by show s.length<k+len+n;omega,h6,by show 1<=k+len;omega⟩,by show s.length-(k+len)<s.length-k;omega,Y04 [0,3] rfl ⟨Y03 rfl,Y06 rfl rfl,Y0e rfl rfl rfl (Y01 _) (Y01 _) rfl,Y02 (by rw[tl]),trivial⟩ ⟨hbp,hbp,trivial⟩ rfl⟩
           |cons a acc =>
            dsimp only
            repeat' ((conv=>whnf);first|with_reducible refine ixS _ rfl hx ?_|with_reducible refine exI (Z1d hb21 rfl e2) ?_|refine stp ?_|with_reducible apply Z01<;>intro h)
            conv=>whnf
            refine exI (Z6T aT (xs:=[.int .i64 kd,.str ((s.drop k).take len),.int .i64 num,.int .i64 k]) rfl rfl rfl (Z1W _) rfl (by decide) ⟨by simp at h4⊢;omega,by simp at h4⊢;omega⟩) ?_
            repeat' ((conv=>whnf);(first|refine stp ?_|with_reducible apply Z01<;>intro h))
            conv=>whnf
            refine⟨(k+len,n,(a::acc)++[⟨kd,(s.drop k).take len,num,k⟩]),⟨by show k+len<=s.length;omega,by show s.length<k+len+n;omega,h6,by show ((a::acc)++[_]).length<=k+len;rw[Z1b];omega⟩,by show s.length-(k+len)<s.length-k;omega,Y04 [0,4] rfl ?_ ?_ rfl⟩
            · refine⟨Y03 rfl,Y06 rfl rfl,Y0e rfl rfl ?_ ?_ ?_ rfl,Y02 ?_,trivial⟩
              ·exact (Z1b (a::acc) _).symm
              ·exact Y01 _
              ·exact Nat.le_of_eq (Z1b (a::acc) _)
              ·rw[tl]
            ·exact⟨hbp,⟨rfl,rfl,rfl,rfl,Y0m (rest:=[]) ((Z0I (a::acc) ⟨kd,(s.drop k).take len,num,k⟩).symm.trans (Y0d _).symm) (Z1g _)⟩,trivial⟩
   · have e1:decide ((k:Int)<(s.length:Int))=false:=by simpa using hk
     have e9:Z6D s = .inr acc:=by
      obtain⟨n,rfl⟩:∃m,n=m+1:=⟨n-1,by omega⟩
      rw[h3,Zj0 (by omega)];simp[Z7q]
     cases acc with
     |nil =>
      dsimp only
      repeat' ((conv=>whnf);first|refine stp ?_|with_reducible apply Z01<;>intro h)
      unfold Zck;rw[if_neg (by omega),e9];rfl
     |cons a acc =>
      dsimp only
      repeat' ((conv=>whnf);(first|refine stp ?_|with_reducible apply Z01<;>intro h))
      conv=>whnf
      refine exI (Z6T aT (xs:=[.int .i64 5,.str [],.int .i64 0,.int .i64 s.length]) rfl rfl rfl (Z1W _) rfl (by decide) ⟨by simp at h4⊢;omega,by simp at h4⊢;omega⟩) ?_
      repeat' ((conv=>whnf);(first|refine stp ?_|with_reducible apply Z01<;>intro h))
      conv=>whnf
      refine⟨.tuple [.rs (acc.length+1+1) 4 (Zcg (a::acc)++Tk.cells ⟨5,[],0,s.length⟩),.agg [.int .i64 0,.int .i64 0]],Z7s (Zda (b:=3) rfl ?_ ?_) (Z5y rfl),?_⟩
      ·exact (congrArg List.length (Z0I (a::acc) ⟨5,[],0,s.length⟩)).symm.trans ((Z1W _).trans (by simp))
      ·exact (congrArg (List.all · lit) (Z0I (a::acc) ⟨5,[],0,s.length⟩)).symm.trans (Zb8 _)
      · show _=Zck s
        unfold Zck;rw[if_neg (by omega),e9,<- Z0I];rfl
end
section
theorem Zir:∀x:St,Z4v x=(ZmR x&&(rightL x.exprs&&(rightSL x.thn&&rightSL x.els)))
 | .mk _ _ _ _ _ _ _=>by simp only[Z4v,St.exprs,St.thn,St.els]
end
section
theorem Z9H:∀(t:List (List St))(i:Nat)(h:i<t.length),Z2p (t.take (i+1))=max (Z2p (t.take i)) (deepSL t[i])
 |e::l,0,h=>by simp only[Y08,Y07,Z2p,Y0k];omega
 |e::l,i+1,h=>by
  have:=Z9H l i (by simpa using h)
  simp only[Y08,Z2p,Y0l]at this⊢;omega
end
section
variable {gl:Z0k}
def Zm8{g:Nat}(hb:Z0m Y00 g=true)(r:List St->AV)(G:List St->Prop)(each:∀x,G x->ValOK Y00 gl g [stA x] (r x)):Fam Y00 gl where
 I:=List St
 f:=g
 G:=G
 A:=λx=>[stA x]
 R:=r
 body:=hb
 inj:=λi j _ _ h=>by simp only[List.cons.injEq,and_true]at h;rw[Z7a h]
 ok:=λx hx=>⟨rfl,each x hx⟩
def famX{g:Nat}(hb:Z0m Y00 g=true)(r:Ex->AV)(G:Ex->Prop)(each:∀k,G k->ValOK Y00 gl g [.agg k.cells] (r k)):Fam Y00 gl where
 I:=Ex
 f:=g
 G:=G
 A:=λk=>[.agg k.cells]
 R:=r
 body:=hb
 inj:=λi j _ _ h=>by rw[Zkv h]
 ok:=λk hk=>⟨ZjM k,each k hk⟩
theorem ZcC:∀(n:Nat)(l:List St),sizeSL l<=n->sizeSL l<=1048576->ValOK Y00 gl 35 [stA l] (.int .i64 (sizeSL l))
 |n,l,h,hb=>by
  obtain⟨O,hO,p1,p2,-⟩:=fams (P:=Y00) (gl:=gl) [Zm8 (g:=35) (by kernel_rfl) (λx=>.int .i64 (sizeSL x)) (λx=>sizeSL x<n/\sizeSL x<=1048576) (λx hx=>match n,hx with|n+1,hx=>ZcC n x (by omega) hx.2),
   famX (g:=76) (by kernel_rfl) (λk=>.int .i64 (Z0A k)) (λk=>Z0A k<=1048576) (λk hk=>Zbj _ k (Y01 _) hk)] rfl
  have q1:∀x,sizeSL x<n/\sizeSL x<=1048576->∀H,Z06 Y00 O H 35 [stA x]=some (.int .i64 (sizeSL x),H):=p1
  have q2:∀k,Z0A k<=1048576->∀H,Z06 Y00 O H 76 [.agg k.cells]=some (.int .i64 (Z0A k),H):=p2
  clear p1 p2
  have hlen:=Z5m l
  simp only[stA]at q1⊢
  refine Z0v follows Z05 hO Tryz.func35 rfl ?_
  repeat' ((conv=>whnf);first|refine stp ?_|with_reducible apply Z01<;>intro h)
  conv=>whnf
  refine⟨Nat,(λi=>i<=l.length),(λi=>[(0,.rs l.length 7 (stC l)),(3,.int .i64 (sizeSL (l.take i):Nat)),(4,.int .i64 i)]),(λ_=>[]),(λi=>l.length-i),⟨0,Y05 _,Y0a rfl ?_⟩,?_⟩
  ·simp only[Y07,sizeSL];exact wks
  intro i hi
  dsimp only
  by_cases hlt:i<l.length
  · have e1:decide ((i:Int)<(l.length:Int))=true:=by simpa using hlt
    have hs:=Z90 l i hlt
    have hg:=Z5n l i hlt
    have hse:=Z5k l[i]
    have hx4:tk 1 (((stC l).drop (i*7)).drop 4)=some [exA l[i].exprs]:=by rw[Z4t l i hlt];exact Zk6 _ _
    have hx5:tk 1 (((stC l).drop (i*7)).drop 5)=some [stA l[i].thn]:=by rw[Z4t l i hlt];exact Zk7 _ _
    have hx6:tk 1 (((stC l).drop (i*7)).drop 6)=some [stA l[i].els]:=by rw[Z4t l i hlt];exact Zk8 _ _
    have qt:=q1 l[i].thn ⟨by omega,by omega⟩
    have qe:=q1 l[i].els ⟨by omega,by omega⟩
    generalize l[i]=x at *
    simp only[exA,stA]at hx4 hx5 hx6
    have hxl:=Z35 x.exprs
    generalize hT:sizeSL x.thn=zt at *
    generalize hE:sizeSL x.els=ze at *
    repeat' ((conv=>whnf);first|refine exI hx4 ?_|refine exI hx5 ?_|refine exI hx6 ?_|refine exI (qt _) ?_|refine exI (qe _) ?_|(with_reducible refine ixJ i rfl ?_ ?_;focus omega)|refine stp ?_|with_reducible apply Z01<;>intro h)
    conv=>whnf
    refine⟨Nat,(λk=>k<=x.exprs.length),(λk=>[(0,.rs l.length 7 (stC l)),(3,.int .i64 (sizeSL (l.take i)+1+zt+ze+sizeL (x.exprs.take k):Nat)),(4,.int .i64 i),(5,.int .i64 k)]),(λ_=>[]),(λk=>x.exprs.length-k),⟨0,Y05 _,Y0a rfl ?_⟩,?_⟩
    ·simp only[Y07,sizeL];exact wks
    intro k hk
    dsimp only
    by_cases hkt:k<x.exprs.length
    · have e2:decide ((k:Int)<(x.exprs.length:Int))=true:=by simpa using hkt
      have hy:=ex4 x.exprs k hkt
      have ht:=Z7c x.exprs k hkt
      have hgk:=Z6n x.exprs k hkt
      have qk:=q2 x.exprs[k] (by omega)
      generalize x.exprs[k]=y at *
      repeat' ((conv=>whnf);first|refine exI hx4 ?_|refine exI hy ?_|refine exI (qk _) ?_|(with_reducible refine ixJ i rfl ?_ ?_;focus omega)|(with_reducible refine ixJ k rfl ?_ ?_;focus omega)|refine stp ?_|with_reducible apply Z01<;>intro h)
      conv=>whnf
      refine⟨k+1,hkt,by show x.exprs.length-(k+1)<x.exprs.length-k;omega,Y0a rfl ?_⟩
      rw[ht];exact wks
    · have e2:decide ((k:Int)<(x.exprs.length:Int))=false:=by simpa using hkt
      have hk2:k=x.exprs.length:=by have:=hk;omega
      subst hk2
      repeat' ((conv=>whnf);first|refine exI hx4 ?_|(with_reducible refine ixJ i rfl ?_ ?_;focus omega)|refine stp ?_|with_reducible apply Z01<;>intro h)
      conv=>whnf
      refine⟨i+1,hlt,by show l.length-(i+1)<l.length-i;omega,Y0a rfl ?_⟩
      rw[hs,Y0b,hse];exact wks
  · have e1:decide ((i:Int)<(l.length:Int))=false:=by simpa using hlt
    have hi2:i=l.length:=by have:=hi;omega
    subst hi2
    rw[Y0b]
    repeat' ((conv=>whnf);first|refine stp ?_|with_reducible apply Z01<;>intro h)
    all_goals rfl
theorem Zdq:∀(n:Nat)(l:List St),sizeSL l<=n->sizeSL l<=1048576->ValOK Y00 gl 72 [stA l] (.int .i64 (deepSL l))
 |n,l,h,hb=>by
  obtain⟨O,hO,p1,p2,-⟩:=fams (P:=Y00) (gl:=gl) [Zm8 (g:=72) (by kernel_rfl) (λx=>.int .i64 (deepSL x)) (λx=>sizeSL x<n/\sizeSL x<=1048576) (λx hx=>match n,hx with|n+1,hx=>Zdq n x (by omega) hx.2),
   famX (g:=96) (by kernel_rfl) (λk=>.int .i64 (Z4z k)) (λk=>Z0A k<=1048576) (λk hk=>ZbT _ k (Y01 _) hk)] rfl
  have q1:∀x,sizeSL x<n/\sizeSL x<=1048576->∀H,Z06 Y00 O H 72 [stA x]=some (.int .i64 (deepSL x),H):=p1
  have q2:∀k,Z0A k<=1048576->∀H,Z06 Y00 O H 96 [.agg k.cells]=some (.int .i64 (Z4z k),H):=p2
  clear p1 p2
  have hlen:=Z5m l
  have hds:=deepSL_size l
  simp only[stA]at q1⊢
  refine Z0v follows Z05 hO Tryz.func72 rfl ?_
  repeat' ((conv=>whnf);first|refine stp ?_|with_reducible apply Z01<;>intro h)
  conv=>whnf
  refine⟨Nat,(λi=>i<=l.length),(λi=>[(0,.rs l.length 7 (stC l)),(3,.int .i64 (deepSL (l.take i):Nat)),(4,.int .i64 i)]),(λ_=>[]),(λi=>l.length-i),⟨0,Y05 _,Y0a rfl ?_⟩,?_⟩
  ·simp only[Y07,deepSL];exact wks
  intro i hi
  dsimp only
  by_cases hlt:i<l.length
  · have e1:decide ((i:Int)<(l.length:Int))=true:=by simpa using hlt
    have hs:=Z9J l i hlt
    have hle:=Zdr l i
    have hsz:=Z5l _ _ (Z0N hlt)
    have hse:=Z5k l[i]
    have hde:=Zml l[i]
    have hx4:tk 1 (((stC l).drop (i*7)).drop 4)=some [exA l[i].exprs]:=by rw[Z4t l i hlt];exact Zk6 _ _
    have hx5:tk 1 (((stC l).drop (i*7)).drop 5)=some [stA l[i].thn]:=by rw[Z4t l i hlt];exact Zk7 _ _
    have hx6:tk 1 (((stC l).drop (i*7)).drop 6)=some [stA l[i].els]:=by rw[Z4t l i hlt];exact Zk8 _ _
    have qt:=q1 l[i].thn ⟨by omega,by omega⟩
    have qe:=q1 l[i].els ⟨by omega,by omega⟩
    generalize l[i]=x at *
    simp only[exA,stA]at hx4 hx5 hx6
    have hxl:=Z35 x.exprs
    have h1:=deepSL_size x.thn
    have h2:=deepSL_size x.els
    have h3:=deepL_size x.exprs
    generalize hT:deepSL x.thn=zt at *
    generalize hE:deepSL x.els=ze at *
    repeat' ((conv=>whnf);first|refine exI hx4 ?_|refine exI hx5 ?_|refine exI hx6 ?_|refine exI (qt _) ?_|refine exI (qe _) ?_|(with_reducible refine ixJ i rfl ?_ ?_;focus omega)|refine stp ?_|with_reducible apply Z01<;>intro h)
    conv=>whnf
    refine⟨Nat,(λk=>k<=x.exprs.length),(λk=>[(0,.rs l.length 7 (stC l)),(3,.int .i64 (deepSL (l.take i):Nat)),(4,.int .i64 i),(5,.int .i64 (max (max zt ze) (deepL (x.exprs.take k)):Nat)),(6,.int .i64 k)]),(λ_=>[]),(λk=>x.exprs.length-k),⟨0,Y05 _,Y0a rfl ?_⟩,?_⟩
    · refine Y0c (Y03 rfl) ?_
      refine Y0c (Y03 rfl) ?_
      refine Y0c (Y03 rfl) ?_
      refine Y0c (Y02 ?_) ?_
      ·simp only[Y07,deepL];first|omega|(split<;>omega)
      exact⟨Y02 rfl,trivial⟩
    intro k hk
    dsimp only
    by_cases hkt:k<x.exprs.length
    · have e2:decide ((k:Int)<(x.exprs.length:Int))=true:=by simpa using hkt
      have hy:=ex4 x.exprs k hkt
      have ht:=Z7y x.exprs k hkt
      have hmk:=Z1V _ _ (Z0N hkt)
      have qk:=q2 x.exprs[k] (by omega)
      generalize x.exprs[k]=y at *
      repeat' ((conv=>whnf);first|refine exI hx4 ?_|refine exI hy ?_|refine exI (qk _) ?_|(with_reducible refine ixJ i rfl ?_ ?_;focus omega)|(with_reducible refine ixJ k rfl ?_ ?_;focus omega)|refine stp ?_|with_reducible apply Z01<;>intro h)
      conv=>whnf
      refine⟨k+1,hkt,by show x.exprs.length-(k+1)<x.exprs.length-k;omega,Y0a rfl ?_⟩
      refine Y0c (Y03 rfl) ?_
      refine Y0c (Y03 rfl) ?_
      refine Y0c (Y03 rfl) ?_
      refine Y0c (Y02 ?_) ?_
      ·rw[ht];first|omega|(split<;>omega)
      exact⟨Y02 rfl,trivial⟩
    · have e2:decide ((k:Int)<(x.exprs.length:Int))=false:=by simpa using hkt
      have hk2:k=x.exprs.length:=by have:=hk;omega
      subst hk2
      rw[Y0b]
      repeat' ((conv=>whnf);first|refine exI hx4 ?_|(with_reducible refine ixJ i rfl ?_ ?_;focus omega)|refine stp ?_|with_reducible apply Z01<;>intro h)
      conv=>whnf
      refine⟨i+1,hlt,by show l.length-(i+1)<l.length-i;omega,Y0a rfl ?_⟩
      refine Y0c (Y03 rfl) ?_
      refine Y0c (Y02 ?_) ?_
      ·rw[hs,hde];first|omega|(split<;>omega)
      exact⟨Y02 rfl,trivial⟩
  · have e1:decide ((i:Int)<(l.length:Int))=false:=by simpa using hlt
    have hi2:i=l.length:=by have:=hi;omega
    subst hi2
    rw[Y0b]
    repeat' ((conv=>whnf);first|refine stp ?_|with_reducible apply Z01<;>intro h)
    all_goals rfl
end
section
set_option maxHeartbeats 8000000
variable {gl:Z0k}
def Zan(k:Int):AV:=.tuple [.agg [.bool (Zey k),.bool (Zhj k),.bool (ZfZ k),.int .i64 (hX k),.bool (hT k),.bool (Zj7 k)],.bool (isK k)]
theorem Zlt(k:Int):ValOK Y00 gl 74 [.int .i64 k] (Zan k):=by
 by_cases hk:1<=k/\k<=11
 · have hop:k=1\/k=2\/k=3\/k=4\/k=5\/k=6\/k=7\/k=8\/k=9\/k=10\/k=11:=by omega
   rcases hop with rfl|rfl|rfl|rfl|rfl|rfl|rfl|rfl|rfl|rfl|rfl
   all_goals (refine Z0v follows Z05 Z0g Tryz.func74 rfl ?_)
   all_goals (repeat' ((conv=>whnf);first|refine stp ?_|with_reducible apply Z01<;>intro h))
   all_goals rfl
 · have e : Zan k = .tuple [.agg [.bool false, .bool false, .bool false, .int .i64 0, .bool false, .bool false], .bool false] := by
    have h1:isK k=false:=by unfold isK;simpa using λh=>by omega
    simp only[Zan,hX,hT,h1,Bool.false_and,Y0u,if_false]
    unfold Zey Zhj ZfZ Zj7
    have:(k==1)=false/\(k==2)=false/\(k==4)=false/\(k==5)=false/\(k==6)=false/\(k==10)=false:=by simp only[beq_eq_false_iff_ne];omega
    obtain⟨a,b,c,d,e,f⟩:=this
    simp only[a,b,c,d,e,f,Bool.false_or]
    have g1:decide (2<=k/\k<=6)=false:=by simpa using λh=>by omega
    have g2:decide (2<=k/\k<=7)=false:=by simpa using λh=>by omega
    rw[g1,g2]
   rw[e]
   have n1:(k==1)=false:=by simp only[beq_eq_false_iff_ne];omega
   have n2:(k==2)=false:=by simp only[beq_eq_false_iff_ne];omega
   have n3:(k==3)=false:=by simp only[beq_eq_false_iff_ne];omega
   have n4:(k==4)=false:=by simp only[beq_eq_false_iff_ne];omega
   have n5:(k==5)=false:=by simp only[beq_eq_false_iff_ne];omega
   have n6:(k==6)=false:=by simp only[beq_eq_false_iff_ne];omega
   have n7:(k==7)=false:=by simp only[beq_eq_false_iff_ne];omega
   have n8:(k==8)=false:=by simp only[beq_eq_false_iff_ne];omega
   have n9:(k==9)=false:=by simp only[beq_eq_false_iff_ne];omega
   have n10:(k==10)=false:=by simp only[beq_eq_false_iff_ne];omega
   have n11:(k==11)=false:=by simp only[beq_eq_false_iff_ne];omega
   refine Z0v follows Z05 Z0g Tryz.func74 rfl ?_
   repeat' ((conv=>whnf);first|(with_reducible refine ZqG ?_ ?_;(focus (assumption)))|refine stp ?_|with_reducible apply Z01<;>intro h)
   all_goals rfl
def ZpU(n lo o t e is:Bool)(x:Int)(name loc:List UInt8)(order:Int)(nx nt ne:Nat):Bool :=
 is&&((n==Z1A name)&&((n || name==[])&&((lo==Z1A loc)&&((lo || loc==[])&&(decide ((nx:Int)=x)&&((t || decide (nt=0))&&((e || decide (ne=0))&&(if o then decide (1<=order/\order<=6) else order==0))))))))
theorem ZmW(m:Bool)(s:List UInt8):isW m s=((m==Z1A s)&&(m || s==[])):=by
 unfold isW
 cases m with
 |true=>simp
 |false =>
  by_cases h:s=[]
  ·subst h;rfl
  ·simp[h]
theorem ZnV(k:Int)(name loc:List UInt8)(order:Int)(nx nt ne:Nat):ZpU (Zey k) (Zhj k) (ZfZ k) (hT k) (Zj7 k) (isK k) (hX k) name loc order nx nt ne=Z8g k name loc order nx nt ne:=by
 unfold ZpU Z8g
 rw[ZmW,ZmW]
 cases hk:isK k with
 |false=>unfold isK at hk;rw[hk];simp
 |true =>
  have h2:decide (1<=k/\k<=11)=true:=hk
  have h3:decide ((nx:Int)=(ZlR k:Int))=decide (nx=ZlR k):=by rw[decide_eq_decide];omega
  simp only[h2,hX,hT,hk,if_true,Y0h,h3]
  rw[Bool.eq_iff_iff]
  simp only[Y0g]
  constructor
  ·rintro⟨a,b,c,d,e,f,g,h⟩;exact⟨⟨a,b⟩,⟨c,d⟩,h,e,f,g⟩
  ·rintro⟨⟨a,b⟩,⟨c,d⟩,h,e,f,g⟩;exact⟨a,b,c,d,e,f,g,h⟩
theorem Z7R:∀(l:List St)(i:Nat)(h:i<l.length),rightSL (l.take (i+1))=(rightSL (l.take i)&&Z4v l[i])
 |e::l,0,h=>by simp only[Y08,Y07,rightSL,Y0k,Y0q,Y0h]
 |e::l,i+1,h=>by
  have:=Z7R l i (by simpa using h)
  simp only[Y08,rightSL,Y0l]at this⊢;rw[this,Bool.and_assoc]
theorem Z93:∀{l:List St}{i:Nat}(h:i<l.length),Z4v l[i]=false->rightSL l=false
 |e::l,0,h,h2=>by simp only[Y0k]at h2;simp only[rightSL,h2,Bool.false_and]
 |e::l,i+1,h,h2=>by simp only[Y0l]at h2;simp only[rightSL,Z93 (l:=l) (by simpa using h) h2,Y0v]
end
section
set_option maxHeartbeats 8000000
variable {gl:Z0k}
theorem ZcG:∀(n:Nat)(l:List St),sizeSL l<=n->okSL l->sizeSL l<=1048576->ValOK Y00 gl 34 [stA l] (.bool (rightSL l))
 |n,l,h,hok,hb=>by
  obtain⟨O,hO,p1,p2,p3,p4,-⟩:=fams (P:=Y00) (gl:=gl) [Zm8 (g:=34) (by kernel_rfl) (λx=>.bool (rightSL x)) (λx=>sizeSL x<n/\okSL x/\sizeSL x<=1048576) (λx hx=>match n,hx with|n+1,hx=>ZcG n x (by omega) hx.2.1 hx.2.2),
   famX (g:=75) (by kernel_rfl) (λk=>.bool (Z14 k)) okE (λk hk=>Zbk _ k (Y01 _) hk),
   { I:=Int,f:=74,G:=λ_=>True,A:=λk=>[.int .i64 k],R:=Zan,body:=(by kernel_rfl),inj:=(λi j _ _ h=>by simp only[List.cons.injEq,AV.int.injEq,true_and,and_true]at h;rw[h]),ok:=(λk _=>⟨rfl,Zlt k⟩) },
   { I:=List UInt8,f:=33,G:=λs=>s.length<=9223372036854775807,A:=λs=>[.str s],R:=λs=>.bool (Z1A s),body:=(by kernel_rfl),inj:=(λi j _ _ h=>by simp only[List.cons.injEq,AV.str.injEq,and_true]at h;rw[h]),ok:=(λs hs=>⟨rfl,Z73 s hs⟩) }] rfl
  have q1:∀x,sizeSL x<n/\okSL x/\sizeSL x<=1048576->∀H,Z06 Y00 O H 34 [stA x]=some (.bool (rightSL x),H):=p1
  have q2:∀k,okE k->∀H,Z06 Y00 O H 75 [.agg k.cells]=some (.bool (Z14 k),H):=p2
  have q3:∀k H,Z06 Y00 O H 74 [.int .i64 k]=some (Zan k,H):=λk=>p3 k trivial
  have q4:∀s,s.length<=9223372036854775807->∀H,Z06 Y00 O H 33 [.str s]=some (.bool (Z1A s),H):=p4
  clear p1 p2 p3 p4
  have hlen:=Z5m l
  simp only[stA]at q1⊢
  refine Z0v follows Z05 hO Tryz.func34 rfl ?_
  repeat' ((conv=>whnf);first|refine stp ?_|with_reducible apply Z01<;>intro h)
  conv=>whnf
  refine⟨Nat,(λi=>i<=l.length/\rightSL (l.take i)=true),(λi=>[(0,.rs l.length 7 (stC l)),(3,.int .i64 i)]),(λ_=>[]),(λi=>l.length-i),⟨0,⟨Y05 _,by simp only[Y07,rightSL]⟩,Y0a rfl ?_⟩,?_⟩
  ·exact wks
  rintro i ⟨hi,hall⟩
  dsimp only
  by_cases hlt:i<l.length
  · have e1:decide ((i:Int)<(l.length:Int))=true:=by simpa using hlt
    have hg:=Z5n l i hlt
    have hse:=Z5k l[i]
    have hat:=Z7R l i hlt
    have hfalse:Z4v l[i]=false->rightSL l=false:=Z93 hlt
    have hx:=st7 l i hlt
    obtain⟨k1,k2,k3,k4,k5,k6,k7,k8⟩:=Z6w (Z6x hok _ (Z0N hlt))
    have qt:=q1 l[i].thn ⟨by omega,k7,by omega⟩
    have qe:=q1 l[i].els ⟨by omega,k8,by omega⟩
    have hr:=Zir l[i]
    have ho:ZmR l[i]=ZpU (Zey l[i].kind) (Zhj l[i].kind) (ZfZ l[i].kind) (hT l[i].kind) (Zj7 l[i].kind) (isK l[i].kind) (hX l[i].kind) l[i].name l[i].loc l[i].order l[i].exprs.length l[i].thn.length l[i].els.length:=by
     rw[ZnV];rfl
    rw[hall,Y0h]at hat
    have hxs:=Z35 l[i].exprs
    have hbx:sizeL l[i].exprs<=1048576:=by omega
    generalize l[i]=x at *
    obtain⟨kind,name,loc,order,exprs,thn,els⟩:=x
    simp only[St.kind,St.name,St.loc,St.order,St.exprs,St.thn,St.els,St.cells,exA]at *
    have qn:=q4 name k1
    have ql:=q4 loc k2
    have qp:=q3 kind
    simp only[Zan]at qp
    clear q1 q3 q4 hse hg
    obtain⟨w1,hw1⟩:∃w,Z1A name=w:=⟨_,rfl⟩
    obtain⟨w2,hw2⟩:∃w,Z1A loc=w:=⟨_,rfl⟩
    rw[hw1]at qn
    rw[hw2]at ql
    cases hk:isK kind with
    |false =>
     have ho2:ZmR (.mk kind name loc order exprs thn els)=false:=by rw[ho];simp[ZpU,hk]
     rw[hfalse (by rw[hr,ho2];rfl)]
     rw[hk]at qp
     clear hr ho hat hfalse
     repeat' ((conv=>whnf);first|refine exI hx ?_|refine exI (qp _) ?_|(with_reducible refine ixJ i rfl ?_ ?_;focus omega)|refine stp ?_|with_reducible apply Z01<;>intro h)
     all_goals rfl
    |true =>
     have hop:kind=1\/kind=2\/kind=3\/kind=4\/kind=5\/kind=6\/kind=7\/kind=8\/kind=9\/kind=10\/kind=11:=by
      unfold isK at hk;simp only[decide_eq_true_eq]at hk;omega
     rw[hk]at qp ho
     clear hk
     simp only[ZpU,hw1,hw2,Y0h]at ho
     cases hown:((Zey kind==w1)&&((Zey kind || name==[])&&((Zhj kind==w2)&&((Zhj kind || loc==[])&&(decide ((exprs.length:Int)=hX kind)&&((hT kind || decide (thn.length=0))&&((Zj7 kind || decide (els.length=0))&&(if ZfZ kind then decide (1<=order/\order<=6) else order==0)))))))) with
     |false =>
      rw[hown]at ho
      rw[hfalse (by rw[hr,ho];rfl)]
      clear hr ho hat hfalse hw1 hw2
      rcases hop with rfl|rfl|rfl|rfl|rfl|rfl|rfl|rfl|rfl|rfl|rfl
      all_goals (as_aux_lemma=>(
       repeat' ((conv=>whnf);first|with_reducible refine exI (qp _) ?_|with_reducible refine exI (qn _) ?_|with_reducible refine exI (ql _) ?_|(with_reducible refine ixJ i rfl ?_ ?_;focus omega)|refine exI hx ?_|refine stp ?_|with_reducible apply Z01<;>intro h)
       all_goals (first|rfl|(exfalso;clear qp qn ql qt qe q2 hO hx;simp_all[Zey,Zhj,ZfZ,hX,ZlR,hT,Zpt,Zj7,isK];done)|(exfalso;clear qp qn ql qt qe q2 hO hx;simp_all[Zey,Zhj,ZfZ,hX,ZlR,hT,Zpt,Zj7,isK];omega))))
     |true =>
      rw[hown]at ho
      rw[ho,Y0h]at hr
      simp only[Y0g,beq_iff_eq,Bool.or_eq_true,decide_eq_true_eq]at hown
      obtain⟨f1,f2,f3,f4,f5,f6,f7,f8⟩:=hown
      have g5:((exprs.length:Int) != hX kind)=false:=by rw[f5];simp
      have g6:hT kind=false->decide ((thn.length:Int)>0)=false:=λh=>by rw[h]at f6;simpa using f6
      have g7:Zj7 kind=false->decide ((els.length:Int)>0)=false:=λh=>by rw[h]at f7;simpa using f7
      have g8:ZfZ kind=true->decide (order<1)=false/\decide (order>6)=false:=λh=>by rw[h]at f8;simp at f8⊢;omega
      have g9:ZfZ kind=false->(order != 0)=false:=λh=>by rw[h]at f8;simpa using f8
      have f2':Zey kind=false->name=[]:=λh=>by rw[h]at f2;simpa using f2
      have f4':Zhj kind=false->loc=[]:=λh=>by rw[h]at f4;simpa using f4
      subst f1;subst f3
      have hle:=Z35 exprs
      have hf2:=hfalse
      clear f2 f4 f5 f6 f7 f8 hw1 hw2 ho hfalse
      rcases hop with rfl|rfl|rfl|rfl|rfl|rfl|rfl|rfl|rfl|rfl|rfl
      all_goals (try (obtain rfl:=f2' rfl))
      all_goals (try (obtain rfl:=f4' rfl))
      all_goals (try (replace g6:=g6 rfl))
      all_goals (try (replace g7:=g7 rfl))
      all_goals (try (obtain⟨g81,g82⟩:=g8 rfl))
      all_goals (try (replace g9:=g9 rfl))
      all_goals (generalize rightSL thn=rt at *;generalize rightSL els=re at *)
      all_goals (as_aux_lemma=>(
       repeat' ((conv=>whnf);first|with_reducible refine exI (qp _) ?_|with_reducible refine exI (qn _) ?_|with_reducible refine exI (ql _) ?_|with_reducible refine exI (qt _) ?_|with_reducible refine exI (qe _) ?_|(with_reducible refine ixJ i rfl ?_ ?_;focus omega)|refine exI hx ?_|refine stp ?_|with_reducible apply Z01<;>intro h)
       all_goals (first|(rw[hf2 (by rw[hr,show rt=false from by simpa using ‹(!rt)=true›];simp)];rfl)|(rw[hf2 (by rw[hr,show re=false from by simpa using ‹(!re)=true›];simp)];rfl)|skip)
       all_goals (rw[show rt=true from by simpa using ‹(!rt)=false›,show re=true from by simpa using ‹(!re)=false›,Y0q,Y0q]at hr)
       all_goals (conv=>whnf)
       all_goals (refine⟨Nat,(λk=>k<=exprs.length/\rightL (exprs.take k)=true),(λk=>[(0,.rs l.length 7 (stC l)),(3,.int .i64 i),(4,.ptr 0 0),(7,.int .i64 k)]),(λ_=>[⟨true,0,0,.cells [.int .i64 _,.str _,.str _,.int .i64 order,.rs exprs.length 4 (exC exprs),.rs thn.length 7 (stC thn),.rs els.length 7 (stC els)] 58⟩]),(λk=>exprs.length-k),⟨0,⟨Y05 _,by simp only[Y07,rightL]⟩,Y04 [0] rfl ?_ ⟨hbp,trivial⟩ rfl⟩,?_⟩)
       all_goals (first|((repeat (first|exact trivial|refine stw ?_));done)|skip)
       all_goals (
        rintro k ⟨hk,hkall⟩
        dsimp only
        by_cases hkt:k<exprs.length
        · have e2:decide ((k:Int)<(exprs.length:Int))=true:=by simpa using hkt
          have hy:=ex4 exprs k hkt
          have htk:=Z5W exprs k hkt
          have hgf:=λh=>Z7e (l:=exprs) hkt h
          rw[hkall,Y0h]at htk
          have qk:=q2 exprs[k] (Z5Y k6 _ (Z0N hkt))
          cases hrk:Z14 exprs[k] with
          |true =>
           rw[hrk]at qk htk
           generalize exprs[k]=y at *
           repeat' ((conv=>whnf);first|with_reducible refine exI (qk _) ?_|(with_reducible refine ixJ k rfl ?_ ?_;focus omega)|refine exI hy ?_|refine stp ?_|with_reducible apply Z01<;>intro h)
           conv=>whnf
           refine⟨k+1,⟨hkt,htk⟩,by show exprs.length-(k+1)<exprs.length-k;omega,Y04 [0] rfl ?_ ⟨hbp,trivial⟩ rfl⟩
           exact wks
          |false =>
           have hfx:=hgf hrk
           rw[hrk]at qk
           rw[hf2 (by rw[hr,hfx])]
           generalize exprs[k]=y at *
           repeat' ((conv=>whnf);first|with_reducible refine exI (qk _) ?_|(with_reducible refine ixJ k rfl ?_ ?_;focus omega)|refine exI hy ?_|refine stp ?_|with_reducible apply Z01<;>intro h)
           all_goals rfl
        · have e2:decide ((k:Int)<(exprs.length:Int))=false:=by simpa using hkt
          have hk2:k=exprs.length:=by have:=hk;omega
          subst hk2
          rw[Y0b]at hkall
          rw[hkall]at hr
          repeat' ((conv=>whnf);first|(with_reducible refine ixJ i rfl ?_ ?_;focus omega)|refine stp ?_|with_reducible apply Z01<;>intro h)
          conv=>whnf
          refine⟨i+1,⟨hlt,by rw[hat,hr]⟩,by show l.length-(i+1)<l.length-i;omega,Y0a rfl ?_⟩
          exact wks)))
  · have e1:decide ((i:Int)<(l.length:Int))=false:=by simpa using hlt
    have hi2:i=l.length:=by have:=hi;omega
    subst hi2
    rw[Y0b]at hall
    rw[hall]
    repeat' ((conv=>whnf);first|refine stp ?_|with_reducible apply Z01<;>intro h)
    all_goals rfl
end
section
variable {gl:Z0k}
def famTL{g:Nat}(hb:Z0m Y00 g=true)(r:List St->AV)(ts:List (List St))(each:∀x∈ts,ValOK Y00 gl g [stA x] (r x)):Fam Y00 gl:=Zm8 hb r (λx=>x∈ts) each
theorem Z9I:∀(t:List (List St)),Z2p t<=Z0H t
 |[]=>Y01 _
 |e::t=>by have:=deepSL_size e;have:=Z9I t;simp only[Z2p,Z0H];omega
theorem Zih(p:Pr)(hl:p.threads.length<=9223372036854775807)(hs:Z0H p.threads<=1048576):ValOK Y00 gl 14 [p.av] (.int .i64 (Z0H p.threads)):=by
 obtain⟨ds,ts⟩:=p
 simp only[Pr.av]at *
 obtain⟨O,hO,p1,-⟩:=fams (P:=Y00) (gl:=gl) [famTL (g:=35) (by kernel_rfl) (λx=>.int .i64 (sizeSL x)) ts (λx hx=>ZcC _ x (Y01 _) (by have:=Z3T _ _ hx;omega))] rfl
 have q1:∀x∈ts,∀H,Z06 Y00 O H 35 [stA x]=some (.int .i64 (sizeSL x),H):=p1
 clear p1
 refine Z0v follows Z05 hO Tryz.func14 rfl ?_
 repeat' ((conv=>whnf);first|refine stp ?_|with_reducible apply Z01<;>intro h)
 conv=>whnf
 refine⟨Nat,(λi=>i<=ts.length),(λi=>[(1,.ptr 0 0),(3,.int .i64 (Z0H (ts.take i):Nat)),(4,.int .i64 i)]),(λ_=>[⟨true,0,0,.cells [.rs ds.length 3 (dcC ds),.rs ts.length 1 (ts.map stA)] 26⟩]),(λi=>ts.length-i),⟨0,Y05 _,Y04 [0] rfl ?_ ⟨hbp,trivial⟩ rfl⟩,?_⟩
 ·simp only[Y07,Z0H];exact wks
 intro i hi
 dsimp only
 by_cases hlt:i<ts.length
 · have e1:decide ((i:Int)<(ts.length:Int))=true:=by simpa using hlt
   have hst:=Z8Z ts i hlt
   have hle:=ZcD ts i hlt
   have hx:=th1 ts i hlt
   have q2:=q1 ts[i] (Z0N hlt)
   generalize ts[i]=l at *
   simp only[stA]at hx q2
   repeat' ((conv=>whnf);first|with_reducible refine exI (q2 _) ?_|(with_reducible refine ixJ i rfl ?_ ?_;focus omega)|refine exI hx ?_|refine stp ?_|with_reducible apply Z01<;>intro h)
   conv=>whnf
   refine⟨i+1,hlt,by show ts.length-(i+1)<ts.length-i;omega,Y04 [0] rfl ?_ ⟨hbp,trivial⟩ rfl⟩
   rw[hst];exact wks
 · have e1:decide ((i:Int)<(ts.length:Int))=false:=by simpa using hlt
   have hi2:i=ts.length:=by have:=hi;omega
   subst hi2
   rw[Y0b]
   repeat' ((conv=>whnf);first|refine stp ?_|with_reducible apply Z01<;>intro h)
   all_goals rfl
theorem ZjX(p:Pr)(hl:p.threads.length<=9223372036854775807)(hs:Z0H p.threads<=1048576):ValOK Y00 gl 32 [p.av] (.int .i64 (Z2p p.threads)):=by
 obtain⟨ds,ts⟩:=p
 simp only[Pr.av]at *
 obtain⟨O,hO,p1,-⟩:=fams (P:=Y00) (gl:=gl) [famTL (g:=72) (by kernel_rfl) (λx=>.int .i64 (deepSL x)) ts (λx hx=>Zdq _ x (Y01 _) (by have:=Z3T _ _ hx;omega))] rfl
 have q1:∀x∈ts,∀H,Z06 Y00 O H 72 [stA x]=some (.int .i64 (deepSL x),H):=p1
 clear p1
 refine Z0v follows Z05 hO Tryz.func32 rfl ?_
 repeat' ((conv=>whnf);first|refine stp ?_|with_reducible apply Z01<;>intro h)
 conv=>whnf
 refine⟨Nat,(λi=>i<=ts.length),(λi=>[(1,.ptr 0 0),(3,.int .i64 (Z2p (ts.take i):Nat)),(4,.int .i64 i)]),(λ_=>[⟨true,0,0,.cells [.rs ds.length 3 (dcC ds),.rs ts.length 1 (ts.map stA)] 26⟩]),(λi=>ts.length-i),⟨0,Y05 _,Y04 [0] rfl ?_ ⟨hbp,trivial⟩ rfl⟩,?_⟩
 ·simp only[Y07,Z2p];exact wks
 intro i hi
 dsimp only
 by_cases hlt:i<ts.length
 · have e1:decide ((i:Int)<(ts.length:Int))=true:=by simpa using hlt
   have hst:=Z9H ts i hlt
   have hx:=th1 ts i hlt
   have q2:=q1 ts[i] (Z0N hlt)
   generalize ts[i]=l at *
   simp only[stA]at hx q2
   repeat' ((conv=>whnf);first|with_reducible refine exI (q2 _) ?_|(with_reducible refine ixJ i rfl ?_ ?_;focus omega)|refine exI hx ?_|refine stp ?_|with_reducible apply Z01<;>intro h)
   conv=>whnf
   refine⟨i+1,hlt,by show ts.length-(i+1)<ts.length-i;omega,Y04 [0] rfl ?_ ⟨hbp,trivial⟩ rfl⟩
   refine Y0c (Y06 rfl rfl) ?_
   refine Y0c (Y02 ?_) ?_
   ·rw[hst];split<;>omega
   exact⟨Y02 rfl,trivial⟩
 · have e1:decide ((i:Int)<(ts.length:Int))=false:=by simpa using hlt
   have hi2:i=ts.length:=by have:=hi;omega
   subst hi2
   rw[Y0b]
   repeat' ((conv=>whnf);first|refine stp ?_|with_reducible apply Z01<;>intro h)
   all_goals rfl
theorem Z7z(p:Pr)(hok:okP p)(hs:Z0H p.threads<=1048576):ValOK Y00 gl 11 [p.av] (.int .i64 (Z19 p)):=by
 obtain⟨⟨hd1,hd2⟩,ht1,ht2⟩:=hok
 have hdp:=Z9I p.threads
 obtain⟨O,hO,p1,p2,p3,p4,-⟩:=fams (P:=Y00) (gl:=gl) [{ I:=Unit,f:=14,G:=λ_=>True,A:=λ_=>[p.av],R:=λ_=>.int .i64 (Z0H p.threads),body:=(by kernel_rfl),inj:=(λ_ _ _ _ _=>rfl),ok:=(λ_ _=>⟨rfl,Zih p ht2 hs⟩) },
  { I:=Unit,f:=32,G:=λ_=>True,A:=λ_=>[p.av],R:=λ_=>.int .i64 (Z2p p.threads),body:=(by kernel_rfl),inj:=(λ_ _ _ _ _=>rfl),ok:=(λ_ _=>⟨rfl,ZjX p ht2 hs⟩) },
  famTL (g:=34) (by kernel_rfl) (λx=>.bool (rightSL x)) p.threads (λx hx=>ZcG _ x (Y01 _) (Z5q ht1 _ hx).1 (by have:=Z3T _ _ hx;omega)),
  { I:=List UInt8,f:=33,G:=λs=>s.length<=9223372036854775807,A:=λs=>[.str s],R:=λs=>.bool (Z1A s),body:=(by kernel_rfl),inj:=(λi j _ _ h=>by simp only[List.cons.injEq,AV.str.injEq,and_true]at h;rw[h]),ok:=(λs hs=>⟨rfl,Z73 s hs⟩) }] rfl
 have q1:∀H,Z06 Y00 O H 14 [p.av]=some (.int .i64 (Z0H p.threads),H):=p1 () trivial
 have q2:∀H,Z06 Y00 O H 32 [p.av]=some (.int .i64 (Z2p p.threads),H):=p2 () trivial
 have q3:∀x∈p.threads,∀H,Z06 Y00 O H 34 [stA x]=some (.bool (rightSL x),H):=p3
 have q4:∀s,s.length<=9223372036854775807->∀H,Z06 Y00 O H 33 [.str s]=some (.bool (Z1A s),H):=p4
 clear p1 p2 p3 p4
 unfold Z19
 obtain⟨ds,ts⟩:=p
 simp only[Pr.av]at *
 generalize Z0H ts=sz at *
 generalize Z2p ts=dp at *
 refine Z0v follows Z05 hO Tryz.func11 rfl ?_
 by_cases hlong:2000<sz\/32<dp
 · rw[if_pos hlong]
   by_cases h1:2000<sz
   · have e1:decide ((sz:Int)>2000)=true:=by simp only[decide_eq_true_eq];omega
     repeat' ((conv=>whnf);first|with_reducible refine exI (q1 _) ?_|with_reducible refine exI (q2 _) ?_|refine stp ?_|with_reducible apply Z01<;>intro h)
     all_goals rfl
   · have e1:decide ((sz:Int)>2000)=false:=by simp only[decide_eq_false_iff_not];omega
     have e2:decide ((dp:Int)>32)=true:=by simp only[decide_eq_true_eq];omega
     repeat' ((conv=>whnf);first|with_reducible refine exI (q1 _) ?_|with_reducible refine exI (q2 _) ?_|refine stp ?_|with_reducible apply Z01<;>intro h)
     all_goals rfl
 rw[if_neg hlong]
 have e1:decide ((sz:Int)>2000)=false:=by simp only[decide_eq_false_iff_not];omega
 have e2:decide ((dp:Int)>32)=false:=by simp only[decide_eq_false_iff_not];omega
 repeat' ((conv=>whnf);first|with_reducible refine exI (q1 _) ?_|with_reducible refine exI (q2 _) ?_|refine stp ?_|with_reducible apply Z01<;>intro h)
 conv=>whnf
 refine⟨Nat,(λi=>i<=ds.length/\(ds.take i).all dcB=true),(λi=>[(1,.ptr 0 0),(3,.int .i64 i)]),(λ_=>[⟨true,0,0,.cells [.rs ds.length 3 (dcC ds),.rs ts.length 1 (ts.map stA)] 26⟩]),(λi=>ds.length-i),⟨0,⟨Y05 _,rfl⟩,Y04 [0] rfl ?_ ⟨hbp,trivial⟩ rfl⟩,?_⟩
 ·exact wks
 rintro i ⟨hi,hall⟩
 dsimp only
 by_cases hlt:i<ds.length
 · have e1:decide ((i:Int)<(ds.length:Int))=true:=by simpa using hlt
   have hat:=Zc1 dcB ds i hlt
   rw[hall,Y0h]at hat
   have hfalse:dcB ds[i]=false->ds.all dcB=false:=Zks dcB hlt
   have hxn:=dcn ds i hlt
   have hxv:=dcv ds i hlt
   have qn:=q4 ds[i].name (hd2 _ (Z0N hlt))
   generalize hd:ds[i]=d at *
   obtain⟨nm,pl,vl⟩:=d
   simp only[dcB]at hat hfalse hxn hxv qn
   generalize Z1A nm=w at *
   by_cases hv:0<=vl
   · have e3:decide (vl<0)=false:=by simpa using hv
     rw[show decide (0<=vl)=true from by simpa using hv,Y0q]at hat hfalse
     cases w with
     |true =>
      repeat' ((conv=>whnf);first|with_reducible refine exI (qn _) ?_|(with_reducible refine ixJ i rfl ?_ ?_;focus omega)|refine exI hxn ?_|refine exI hxv ?_|refine stp ?_|with_reducible apply Z01<;>intro h)
      conv=>whnf
      refine⟨i+1,⟨hlt,hat⟩,by show ds.length-(i+1)<ds.length-i;omega,Y04 [0] rfl ?_ ⟨hbp,trivial⟩ rfl⟩
      exact wks
     |false =>
      rw[hfalse rfl]
      repeat' ((conv=>whnf);first|with_reducible refine exI (qn _) ?_|(with_reducible refine ixJ i rfl ?_ ?_;focus omega)|refine exI hxn ?_|refine exI hxv ?_|refine stp ?_|with_reducible apply Z01<;>intro h)
      all_goals rfl
   · have e3:decide (vl<0)=true:=by simp only[decide_eq_true_eq];omega
     rw[show decide (0<=vl)=false from by simpa using hv,Y0v]at hat hfalse
     rw[hfalse rfl]
     cases w
     all_goals (repeat' ((conv=>whnf);first|with_reducible refine exI (qn _) ?_|(with_reducible refine ixJ i rfl ?_ ?_;focus omega)|refine exI hxn ?_|refine exI hxv ?_|refine stp ?_|with_reducible apply Z01<;>intro h))
     all_goals rfl
 · have e1:decide ((i:Int)<(ds.length:Int))=false:=by simpa using hlt
   have hi2:i=ds.length:=by have:=hi;omega
   subst hi2
   rw[Y0b]at hall
   rw[hall,Y0h]
   repeat' ((conv=>whnf);first|refine stp ?_|with_reducible apply Z01<;>intro h)
   conv=>whnf
   refine⟨Nat,(λi=>i<=ts.length/\Z1z (ts.take i)=true),(λi=>[(1,.ptr 0 0),(4,.int .i64 i)]),(λ_=>[⟨true,0,0,.cells [.rs ds.length 3 (dcC ds),.rs ts.length 1 (ts.map stA)] 26⟩]),(λi=>ts.length-i),⟨0,⟨Y05 _,rfl⟩,Y04 [0] rfl ?_ ⟨hbp,trivial⟩ rfl⟩,?_⟩
   ·exact wks
   rintro i ⟨hi,hrl⟩
   dsimp only
   by_cases hlt:i<ts.length
   · have e1:decide ((i:Int)<(ts.length:Int))=true:=by simpa using hlt
     have hat:=Z4N ts i hlt
     rw[hrl,Y0h]at hat
     have hfalse:rightSL ts[i]=false->Z1z ts=false:=Z5V hlt
     have hx:=th1 ts i hlt
     have qr:=q3 ts[i] (Z0N hlt)
     generalize ts[i]=l at *
     simp only[stA]at hx qr
     cases hr:rightSL l with
     |true =>
      rw[hr]at hat qr
      repeat' ((conv=>whnf);first|with_reducible refine exI (qr _) ?_|(with_reducible refine ixJ i rfl ?_ ?_;focus omega)|refine exI hx ?_|refine stp ?_|with_reducible apply Z01<;>intro h)
      conv=>whnf
      refine⟨i+1,⟨hlt,hat⟩,by show ts.length-(i+1)<ts.length-i;omega,Y04 [0] rfl ?_ ⟨hbp,trivial⟩ rfl⟩
      exact wks
     |false =>
      rw[hr]at qr
      rw[hfalse hr]
      repeat' ((conv=>whnf);first|with_reducible refine exI (qr _) ?_|(with_reducible refine ixJ i rfl ?_ ?_;focus omega)|refine exI hx ?_|refine stp ?_|with_reducible apply Z01<;>intro h)
      all_goals rfl
   · have e1:decide ((i:Int)<(ts.length:Int))=false:=by simpa using hlt
     have hi2:i=ts.length:=by have:=hi;omega
     subst hi2
     rw[Y0b]at hrl
     rw[hrl]
     repeat' ((conv=>whnf);first|refine stp ?_|with_reducible apply Z01<;>intro h)
     all_goals rfl
end
section
variable {gl:Z0k}
def ZaH(T:List Tq)(s:Ps)(e:Int):Ps:=if e=3 then Z0p (Z2x T s) 3 0 else Z2x T s
theorem ZeT{T:List Tq}{s:Ps}(hs:PsOK T s)(e:Int):MemQ Y00 gl 1 49 [.ptr 0 0,.int .i64 e] (psH T s) (.agg [.int .i64 (ZaH T s e).err,.int .i64 (ZaH T s e).at_]) (psH T (ZaH T s e)):=by
 have hx:=tq4 T s.i hs.lt
 rw[<- Z0t hs.lt]at hx
 have hlt:=hs.lt
 unfold ZaH Z2x
 generalize Z0r T s=t at *
 obtain⟨k,tx,nm,ps⟩:=t
 obtain⟨i,err,at_,op⟩:=s
 simp only[Tq.cells]at hx hlt⊢
 by_cases he:err=0
 · subst he
   by_cases hk:k=5
   · subst hk
     by_cases h3:e=3
     · subst h3
       simp only[Z0p,psH]
       simp
       refine Z1c isQ 3 follows Z05 Z0g Y0s rfl ?_
       repeat' ((conv=>whnf);first|refine exI hx ?_|(with_reducible refine ixJ i rfl ?_ ?_;focus omega)|refine stp ?_|with_reducible apply Z01<;>intro h)
       all_goals (try (conv=>whnf))
       all_goals exact⟨[0],rfl,⟨hbp,trivial⟩,rfl,Y03 rfl⟩
     · have e3:(e==3)=false:=by simpa using h3
       simp only[Z0p,psH]
       simp[h3]
       refine Z1c isQ 3 follows Z05 Z0g Y0s rfl ?_
       repeat' ((conv=>whnf);first|refine exI hx ?_|(with_reducible refine ixJ i rfl ?_ ?_;focus omega)|refine stp ?_|with_reducible apply Z01<;>intro h)
       all_goals (try (conv=>whnf))
       all_goals exact⟨[0],rfl,⟨hbp,trivial⟩,rfl,Y03 rfl⟩
   · have ek:(k != 5)=true:=by simpa using hk
     by_cases h3:e=3
     · subst h3
       simp only[Z0p,psH]
       simp[hk]
       refine Z1c isQ 3 follows Z05 Z0g Y0s rfl ?_
       repeat' ((conv=>whnf);first|refine exI hx ?_|(with_reducible refine ixJ i rfl ?_ ?_;focus omega)|refine stp ?_|with_reducible apply Z01<;>intro h)
       all_goals (try (conv=>whnf))
       all_goals exact⟨[0],rfl,⟨hbp,trivial⟩,rfl,Y03 rfl⟩
     · have e3:(e==3)=false:=by simpa using h3
       simp only[Z0p,psH]
       simp[hk,h3]
       refine Z1c isQ 3 follows Z05 Z0g Y0s rfl ?_
       repeat' ((conv=>whnf);first|refine exI hx ?_|(with_reducible refine ixJ i rfl ?_ ?_;focus omega)|refine stp ?_|with_reducible apply Z01<;>intro h)
       all_goals (try (conv=>whnf))
       all_goals exact⟨[0],rfl,⟨hbp,trivial⟩,rfl,Y03 rfl⟩
 · have e1:(err==0)=false:=by simpa using he
   by_cases h3:e=3
   · subst h3
     simp only[Z0p,psH]
     simp[he]
     refine Z1c isQ 3 follows Z05 Z0g Y0s rfl ?_
     repeat' ((conv=>whnf);first|refine exI hx ?_|(with_reducible refine ixJ i rfl ?_ ?_;focus omega)|refine stp ?_|with_reducible apply Z01<;>intro h)
     all_goals (try (conv=>whnf))
     all_goals exact⟨[0],rfl,⟨hbp,trivial⟩,rfl,Y03 rfl⟩
   · have e3:(e==3)=false:=by simpa using h3
     simp only[Z0p,psH]
     simp[he,h3]
     refine Z1c isQ 3 follows Z05 Z0g Y0s rfl ?_
     repeat' ((conv=>whnf);first|refine exI hx ?_|(with_reducible refine ixJ i rfl ?_ ?_;focus omega)|refine stp ?_|with_reducible apply Z01<;>intro h)
     all_goals (try (conv=>whnf))
     all_goals exact⟨[0],rfl,⟨hbp,trivial⟩,rfl,Y03 rfl⟩
end
section
variable {gl:Z0k}
def ZqV{f:Nat}{A:List AV}{R:AV}(hb:Z0m Y00 f=true)(hr:refsL A []=[])(h:ValOK Y00 gl f A R):Fam Y00 gl:={ I:=Unit,f:=f,G:=λ_=>True,A:=λ_=>A,R:=λ_=>R,body:=hb,inj:=(λ_ _ _ _ _=>rfl),ok:=(λ_ hG=>⟨hr,h⟩) }
def thS:List (List St)->Nat->AV
 |[],_=>.nslice
 |e::l,n=>.slice n 0 (l.length+1) (l.length+1) 1
def Zpm:List (List St)->Nat->Z00
 |[],_=>[]
 |e::l,n=>[⟨true,n,0,.cells ((e::l).map stA) 53⟩]
def Za0:List Dc->AV
 |[]=>.nslice
 |e::l=>.slice 4 0 (l.length+1) (l.length+1) 3
def ZpA:List Dc->Z00
 |[]=>[]
 |e::l=>[⟨true,4,0,.cells (dcC (e::l)) 66⟩]
def Z8V:List Dc->Nat
 |[]=>4
 |_::_=>5
def thN:List (List St)->AV
 |[]=>.nslice
 |e::l=>.rs (l.length+1) 1 ((e::l).map stA)
theorem ZpJ{sn:Z0o}{ι : Z0n}{v:Value}:∀{l:List (List St)},VR sn ι (thN l) v->VR sn ι (.rs l.length 1 (l.map stA)) v
 |[],h=>Z2o h
 |_::_,h=>h
theorem ZpT{sn:Z0o}{ι : Z0n}{v:Value}{D:List Dc}{S:List (List St)}(h:VR sn ι (.agg [dcN D,thN S]) v):VR sn ι (Pr.mk D S).av v:=by
 obtain⟨d,rfl,d1,l1,f1,a1,d2,l2,rfl,a2,h1⟩:=h.agg
 exact Z33 ⟨_,_,f1,Zk1 a1,_,_,rfl,ZpJ a2,h1⟩
theorem Z1Z:∀l:List (List St),(l.map stA).all Z8j=true
 |[]=>rfl
 |e::l=>by simp only[List.map_cons,List.all_cons,Z1Z l,Y0q];rfl
theorem Zg8{H:Z00}{a b:AV}(h:frz H 30 a=some b):Z3a (frz H 30) [a]=some [b]:=by simp only[Z3a,h]
theorem Z80{H:Z00}{n:Nat}{a b a' b':AV}(h1:frz H n a=some a')(h2:frz H n b=some b'):frz H (n+1) (.agg [a,b])=some (.agg [a',b']):=by
 show (match Z3a (frz H n) [a,b] with|some l=>some (AV.agg l)|none=>none)=_
 simp only[Z3a,h1,h2]
theorem Z5G{sn:Z0o}{v:Value}{D:List Dc}{S:List (List St)}{x:AV}(h:VR sn noI (.tuple [.agg [dcN D,thN S],x]) v):VR sn noI (.tuple [(Pr.mk D S).av,x]) v:=by
 simp only[VR,LR]at h⊢
 obtain⟨ds,e,d,l,e1,h1,h2⟩:=h
 exact⟨ds,e,d,l,e1,ZpT h1,h2⟩
structure Bs6 where
 ds:List Dc
 ts:List (List St)
 s:Ps
 k:Nat
end
end Go.Proofs.YtneoiadnbikciaaGreatDoor.lex
section
namespace Go.Abs
open Go.RowKit
def Zov(P:Program)(l:List ResultVar)(r:AV)(N:Z00)(tm:Tr)(H:Z00):Prop :=
 onO (Z3j P tm H l) λvs=>∃fs m,HpGeZ fs H m m N 0/\Z0U (m.map (Z1x H))=true/\(m.map (Z1x H)).all (λf=>!mem f fs)=true/\WkZ fs H m (Z0Y vs) r
theorem ZjC {P : Program} {gl : Z0k} {orc : Orc} (hm : P.follows .mixedOrders = true) (hn : NoNum P) (hO : OrcSound P gl orc) {f : Nat} {fn : Func} {c : Code} {args : List AV} {N : Z00} {r : AV}
  (hf:P.funcs[f]? = some fn) (hc:fn.body=some c) {cw:CW} (hcw:Z5O P orc cw)
  (h:frcTr (tmk (Z76 args fn.ntmps args.length) (Z8c 20 fn.ntmps)) λtm=>Z29 P gl orc cw ZhO c (Zov P fn.results.toList r N) (λ_ _ _=>False) (Zov P fn.results.toList r N) tm []):Z9W P gl f args r N:=by
 intro sn W cargs hg hR ha
 rw[Z1L]at h
 refine Z2P hf hc (Zl3 (rd:=none) hm hn hO hcw c h) hg hR ha (λ_ _ _ h=>h) λx tm1 H a1 W1 sn1 ι1 hx s1 t1=>?_
 have key:Zov P fn.results.toList r N tm1 H->∃v,(results fn a1.tmps).run P W1 = .ok v W1/\∃sn' ι',VR sn' ι' r v/\Stq 0 sn noI [] W sn' ι' N W1:=by
  intro h
  obtain⟨us,h1,fs,m,h2,h3,h5,h4⟩:=Z04 h
  obtain⟨vs,k1,k2⟩:=Z0O s1.rel t1 _ _ h1
  obtain⟨sn',ι',hS,hv⟩:=FgS.value (k:=0) h2 h3 rfl h5 a1 s1.rel (Z2K (fn:=fn) k1) h4
  exact⟨_,Z0R k2,sn',ι',hv,s1.trans hS⟩
 cases x with
 |normal =>
  obtain⟨v,k1,sn',ι',k2,k3⟩:=key hx
  exact⟨v,k1,v,sn',ι',rfl,k2,k3⟩
 |exit id=>exact hx.elim
 |ret =>
  obtain⟨v,k1,sn',ι',k2,k3⟩:=key hx
  exact⟨v,k1,v,sn',ι',rfl,k2,k3⟩
end Go.Abs
end
namespace Go.Proofs.YtneoiadnbikciaaGreatDoor.lex
open Go.Abs Go.RowKit
section
variable {gl:Z0k}
def endT:List Tq:=[⟨5,[],0,0⟩]
theorem ZeS(e a:Int):PsOK endT ⟨0,e,a,0⟩:=by
 refine⟨Nat.zero_lt_one,by show 1<=_;decide,λi hi hk=>?_,by show -((0:Nat):Int)<=0;decide,by show (0:Int)<=200;decide⟩
 exfalso
 match i,hi with
 |0,hi=>exact hk rfl
 |i+1,hi=>exact absurd hi (by show ¬i+1<1;omega)
theorem Zht{T:List Tq}{txt:List UInt8}(hA:ValOK Y00 gl 10 [.str txt] (.tuple [.rs T.length 4 (tqC T),.agg [.int .i64 0,.int .i64 0]])):Z9W Y00 gl 43 [.str txt] (.ptr 0 0) (psH T ⟨0,0,0,0⟩):=by
 obtain⟨O,hO,-,⟨p1,-⟩⟩:=Z25 (P:=Y00) (gl:=gl) [] [ZqV (by kernel_rfl) rfl hA] rfl
 have q1:∀H,Z06 Y00 O H 10 [.str txt]=some (.tuple [.rs T.length 4 (tqC T),.agg [.int .i64 0,.int .i64 0]],H):=λH=>p1 () trivial H
 clear p1 hA
 refine ZjC follows Z05 hO Tryz.func43 rfl (Z83 _ _) ?_
 repeat' ((conv=>whnf);first|refine exI (q1 _) ?_|refine stp ?_|with_reducible apply Z01<;>intro h)
 all_goals (try (conv=>whnf))
 all_goals exact⟨[],[1],⟨⟨rfl,rfl,rfl,rfl,BodyGe.z (Y0m (rest:=[]) rfl rfl)⟩,trivial⟩,rfl,rfl,.inl (Y06 rfl rfl)⟩
theorem Zkj{txt:List UInt8}{e a:Int}(he:e≠0)(hA:ValOK Y00 gl 10 [.str txt] (.tuple [.nslice,.agg [.int .i64 e,.int .i64 a]])):Z9W Y00 gl 43 [.str txt] (.ptr 0 0) (psH endT ⟨0,e,a,0⟩):=by
 obtain⟨O,hO,-,⟨p1,-⟩⟩:=Z25 (P:=Y00) (gl:=gl) [] [ZqV (by kernel_rfl) rfl hA] rfl
 have q1:∀H,Z06 Y00 O H 10 [.str txt]=some (.tuple [.nslice,.agg [.int .i64 e,.int .i64 a]],H):=λH=>p1 () trivial H
 clear p1 hA
 have e1:(e==0)=false:=by simpa using he
 have e2:(e != 0)=true:=by simpa using he
 refine ZjC follows Z05 hO Tryz.func43 rfl (Z83 _ _) ?_
 repeat' ((conv=>whnf);first|refine exI (q1 _) ?_|refine stp ?_|with_reducible apply Z01<;>intro h)
 all_goals (try (conv=>whnf))
 all_goals exact⟨[1],[2],⟨⟨rfl,rfl,rfl,rfl,BodyGeZ.app (cs:=[]) rfl ⟨.inr rfl,.inl (Y02 rfl),.inl (Y02 rfl),.inl (Y02 rfl),.inl (Y02 rfl),trivial⟩⟩,trivial⟩,rfl,rfl,.inl (Y06 rfl rfl)⟩
theorem Zix(T:List Tq)(s:Ps):∀o∈psH T s,o.alive=true:=by
 intro o ho
 simp only[psH,Y0r]at ho
 rw[ho]
theorem Z9O {T : List Tq} {σ : Ps} {txt : List UInt8} (h : Z9W Y00 gl 43 [.str txt] (.ptr 0 0) (psH T σ)) {O : Orc} (hO : OrcSound Y00 gl O) : ∃ O', OrcSound Y00 gl O' /\ (∀ H, Z06 Y00 O' H 43 [.str txt] = some (.ptr (0 + H.length) 0, H ++ shA H.length (psH T σ))) /\
  ∀g,g≠43->∀args H,Z06 Y00 O' H g args=Z06 Y00 O H g args:=by
 obtain⟨O',h1,h2,h3⟩:=Zm9 (P:=Y00) (gl:=gl) { I:=Unit,f:=43,G:=λ_=>True,A:=λ_=>[.str txt],R:=λ_=>.ptr 0 0,N:=λ_=>psH T σ,body:=(by kernel_rfl),inj:=(λ_ _ _ _ _=>⟨rfl,rfl⟩),ok:=(λ_ _=>⟨rfl,Zix T σ,h⟩) } hO
 exact⟨O',h1,λH=>h2 () trivial H,h3⟩
end
section
variable {gl:Z0k}
theorem Zlr{T:List Tq}{s:Ps}(i:Nat)(o:AObj)(h:(psH T s)[i]? = some o):Z11 (psH T s).length (Z3V o.body [])=true:=by
 match i,h with
 |0,h=>cases h;rfl
 |i+1,h=>cases h
end
section
variable {gl:Z0k}
def gEx(T:List Tq)(s:Ps):Z00:=[⟨true,0,0,.cells [.int .i64 0,.int .i64 0,.str [],.nslice] 47⟩,⟨true,1,0,.cells [.int .i64 0,.int .i64 0] 29⟩,
 ⟨true,2,0,.cells [.rs T.length 4 (tqC T),.int .i64 (s.i:Nat),.int .i64 s.err,.int .i64 s.at_,.int .i64 s.op] 80⟩]
theorem Zon{T:List Tq}{f:Nat}{s s':Ps}{k:Int}{r:AV}(h:Z1v Y00 gl f [.ptr 0 0,.int .i64 k] (psH T s) r (psH T s'))(hr:Z11 1 (Z2a r [])=true)(hren:ren (sgS [2] 3) r=r):Z1v Y00 gl f [.ptr 2 0,.int .i64 k] (gEx T s) r (gEx T s'):=by
 have h2:=Z7k (m:=[2]) (Hc:=gEx T s) (cargs:=[.ptr 2 0,.int .i64 k]) h (Wk.tuple ⟨Y06 rfl rfl,Y02 rfl,trivial⟩) ⟨hbp,trivial⟩ rfl rfl rfl (Z10 rfl) Zlr hr
 refine cast ?_ h2
 have e:ren (sgS [2] (gEx T s).length) r=r:=hren
 rw[e]
 rfl
def gEy(T:List Tq)(s:Ps)(o n:Int)(t:List UInt8)(k:Nat)(c:List AV):Z00:=gEx T s++[⟨true,3,0,.cells [.int .i64 o,.int .i64 n,.str t,.rs k 4 c] 47⟩]
theorem Zom{T:List Tq}{f:Nat}{s s':Ps}{o n:Int}{t:List UInt8}{kk:Nat}{cc:List AV}{k:Int}{r:AV}(h:Z1v Y00 gl f [.ptr 0 0,.int .i64 k] (psH T s) r (psH T s'))(hr:Z11 1 (Z2a r [])=true)(hren:ren (sgS [2] 4) r=r):Z1v Y00 gl f [.ptr 2 0,.int .i64 k] (gEy T s o n t kk cc) r (gEy T s' o n t kk cc):=by
 have h2:=Z7k (m:=[2]) (Hc:=gEy T s o n t kk cc) (cargs:=[.ptr 2 0,.int .i64 k]) h (Wk.tuple ⟨Y06 rfl rfl,Y02 rfl,trivial⟩) ⟨hbp,trivial⟩ rfl rfl rfl (Z10 rfl) Zlr hr
 refine cast ?_ h2
 have e:ren (sgS [2] (gEy T s o n t kk cc).length) r=r:=hren
 rw[e]
 rfl
def Zqg(f:Nat):Bool:=Y0i f 43 || (Y0i f 52 || (Y0i f 51 || Y0i f 49))
theorem ZcM {T : List Tq} {σ : Ps} (h0 : PsOK T σ) {txt : List UInt8} {e : Ex} {E F : Ps} (hA : Z9W Y00 gl 43 [.str txt] (.ptr 0 0) (psH T σ))
  (hP:Z0D T σ = (e,E)) {c:Int} (hC:ValOK Y00 gl 52 [.agg e.cells] (.int .i64 c)) (hEF:ZaH T E c=F) {e':Ex} (hD:(F.err=0/\e'=e)\/(F.err≠0/\e'=ex0)) :
  ValOK Y00 gl 23 [.str txt] (.tuple [.agg e'.cells,.agg [.int .i64 F.err,.int .i64 F.at_]]):=by
 have hx:=ZeM (gl:=gl) h0
 rw[hP]at hx
 have hE1:=ZeT (gl:=gl) hx.1.ok c
 rw[hEF]at hE1
 have hΦ : ∀r':AV,(∀sn v,VR sn noI r' v->VR sn noI (.tuple [.agg e'.cells,.agg [.int .i64 F.err,.int .i64 F.at_]]) v)->∀sn v,VR sn noI r' v->VR sn noI (.tuple [.agg e'.cells,.agg [.int .i64 F.err,.int .i64 F.at_]]) v:=λr' h=>h
 obtain⟨o,n,t,ks⟩:=e
 simp only[Ex.cells]at hx hC
 have m1:=Zon (k:=0) (Z4P hx.2) rfl rfl
 have m2:=Zom (k:=c) (o:=o) (n:=n) (t:=t) (kk:=ks.length) (cc:=exC ks) (Z4P hE1) rfl rfl
 obtain⟨O1,hO1,⟨p1,p2,-⟩,⟨p4,-⟩⟩:=Z25 (P:=Y00) (gl:=gl) [{ I:=Unit,f:=51,G:=λ_=>True,A:=λ_=>[.ptr 2 0,.int .i64 0],H:=λ_=>gEx T σ,R:=λ_=>.agg [.int .i64 o,.int .i64 n,.str t,.rs ks.length 4 (exC ks)],O:=λ_=>gEx T E,body:=(by kernel_rfl),inj:=(λ_ _ _ _ _ _=>⟨rfl,rfl⟩),ok:=(λ_ _=>m1) },
  { I:=Unit,f:=49,G:=λ_=>True,A:=λ_=>[.ptr 2 0,.int .i64 c],H:=λ_=>gEy T E o n t ks.length (exC ks),R:=λ_=>.agg [.int .i64 F.err,.int .i64 F.at_],O:=λ_=>gEy T F o n t ks.length (exC ks),body:=(by kernel_rfl),inj:=(λ_ _ _ _ _ _=>⟨rfl,rfl⟩),ok:=(λ_ _=>m2) }]
  [ZqV (by kernel_rfl) rfl hC] rfl
 obtain⟨O,hO,qb,ho⟩:=Z9O hA hO1
 have q3:=qb [⟨true,0,0,.cells [.int .i64 0,.int .i64 0,.str [],.nslice] 47⟩,⟨true,1,0,.cells [.int .i64 0,.int .i64 0] 29⟩]
 have q1:=(ho 51 (by decide) _ _).trans (p1 () trivial)
 have q2:=(ho 49 (by decide) _ _).trans (p2 () trivial)
 have q4:=λH=>(ho 52 (by decide) _ _).trans (p4 () trivial H)
 simp only[ZqV]at q1 q2 q3 q4
 clear p1 p2 p4 m1 m2 hE1 hx hC hA qb ho hO1 hP hEF h0
 obtain⟨i,er,a,op⟩:=E
 obtain⟨fi,fe,fa,fo⟩:=F
 simp only at hD hΦ
 simp only[gEx,gEy,List.cons_append,List.nil_append]at q1 q2
 rcases hD with ⟨rfl,rfl⟩|⟨hf,rfl⟩
 · refine fn_valX follows Z05 (Z09 follows Z05 hO 3) hΦ Tryz.func23 rfl (Z0f (isC:=Zqg) 3) ?_
   repeat' ((conv=>whnf);first|refine exI q3 ?_|refine exI q1 ?_|refine exI (q4 _) ?_|refine exI q2 ?_|refine stp ?_|with_reducible apply Z01<;>intro h)
   all_goals (try (conv=>whnf))
   all_goals exact λsn v h=>h
 · have f1:(fe==0)=false:=by simpa using hf
   have f2:(fe != 0)=true:=by simpa using hf
   refine fn_valX follows Z05 (Z09 follows Z05 hO 3) hΦ Tryz.func23 rfl (Z0f (isC:=Zqg) 3) ?_
   repeat' ((conv=>whnf);first|refine exI q3 ?_|refine exI q1 ?_|refine exI (q4 _) ?_|refine exI q2 ?_|refine stp ?_|with_reducible apply Z01<;>intro h)
   all_goals (try (conv=>whnf))
   all_goals exact λsn v h=>ZoQ h
def gSx(T:List Tq)(s:Ps):Z00:=[⟨true,0,0,.cells [.int .i64 0,.int .i64 0] 29⟩,
 ⟨true,1,0,.cells [.rs T.length 4 (tqC T),.int .i64 (s.i:Nat),.int .i64 s.err,.int .i64 s.at_,.int .i64 s.op] 80⟩]
theorem Zok{T:List Tq}{f:Nat}{s s':Ps}{w:List UInt8}{r:AV}(h:Z1v Y00 gl f [.ptr 0 0,.str w] (psH T s) r (psH T s'))(hr:Z11 1 (Z2a r [])=true)(hren:ren (sgS [1] 2) r=r):Z1v Y00 gl f [.ptr 1 0,.str w] (gSx T s) r (gSx T s'):=by
 have h2:=Z7k (m:=[1]) (Hc:=gSx T s) (cargs:=[.ptr 1 0,.str w]) h (Wk.tuple ⟨Y06 rfl rfl,Y03 rfl,trivial⟩) ⟨hbp,trivial⟩ rfl rfl rfl (Z10 rfl) Zlr hr
 refine cast ?_ h2
 have e:ren (sgS [1] (gSx T s).length) r=r:=hren
 rw[e]
 rfl
def gSy(T:List Tq)(s:Ps)(n:Nat)(c:List AV):Z00:=gSx T s++[⟨true,2,0,.cells [.rs n 7 c] 53⟩]
theorem Zoj{T:List Tq}{f:Nat}{s s':Ps}{n:Nat}{cc:List AV}{k:Int}{r:AV}(h:Z1v Y00 gl f [.ptr 0 0,.int .i64 k] (psH T s) r (psH T s'))(hr:Z11 1 (Z2a r [])=true)(hren:ren (sgS [1] 3) r=r):Z1v Y00 gl f [.ptr 1 0,.int .i64 k] (gSy T s n cc) r (gSy T s' n cc):=by
 have h2:=Z7k (m:=[1]) (Hc:=gSy T s n cc) (cargs:=[.ptr 1 0,.int .i64 k]) h (Wk.tuple ⟨Y06 rfl rfl,Y02 rfl,trivial⟩) ⟨hbp,trivial⟩ rfl rfl rfl (Z10 rfl) Zlr hr
 refine cast ?_ h2
 have e:ren (sgS [1] (gSy T s n cc).length) r=r:=hren
 rw[e]
 rfl
def Zqe(f:Nat):Bool:=Y0i f 43 || (Y0i f 11 || (Y0i f 50 || Y0i f 49))
theorem Zam {T : List Tq} {σ : Ps} (h0 : PsOK T σ) {txt : List UInt8} {l : List St} {E F : Ps} (hA : Z9W Y00 gl 43 [.str txt] (.ptr 0 0) (psH T σ))
  (hP:Z20 T (Z1D T) [] (T.length+1) σ = (l,E)) {c:Int} (hC:ValOK Y00 gl 11 [.agg [.nslice,.rs 1 1 [stA l]]] (.int .i64 c)) (hEF:ZaH T E c=F) {l':List St} (hD:(F.err=0/\l'=l)\/(F.err≠0/\l'=[])) :
  ValOK Y00 gl 22 [.str txt] (.tuple [stA l',.agg [.int .i64 F.err,.int .i64 F.at_]]):=by
 have hg:=stsF_go (T:=T) (i0:=0) (stm:=Z1D T) (λs h _=>(Z6h (gl:=gl) T s h (Y05 _)).1.1) [] (T.length+1) σ h0 (Y05 _)
 have hx:=Zfs (Z6h (gl:=gl) T) h0 (Y05 _) []
 rw[hP]at hx hg
 have hE1:=ZeT (gl:=gl) hg.ok c
 rw[hEF]at hE1
 have hΦ : ∀r':AV,(∀sn v,VR sn noI r' v->VR sn noI (.tuple [stA l',.agg [.int .i64 F.err,.int .i64 F.at_]]) v)->∀sn v,VR sn noI r' v->VR sn noI (.tuple [stA l',.agg [.int .i64 F.err,.int .i64 F.at_]]) v:=λr' h=>h
 simp only[stA]at hx hC
 have m1:=Zok (Z4P hx) rfl rfl
 have m2:=Zoj (k:=c) (n:=l.length) (cc:=stC l) (Z4P hE1) rfl rfl
 obtain⟨O1,hO1,⟨p1,p2,-⟩,-⟩:=Z25 (P:=Y00) (gl:=gl) [{ I:=Unit,f:=50,G:=λ_=>True,A:=λ_=>[.ptr 1 0,.str []],H:=λ_=>gSx T σ,R:=λ_=>.rs l.length 7 (stC l),O:=λ_=>gSx T E,body:=(by kernel_rfl),inj:=(λ_ _ _ _ _ _=>⟨rfl,rfl⟩),ok:=(λ_ _=>m1) },
  { I:=Unit,f:=49,G:=λ_=>True,A:=λ_=>[.ptr 1 0,.int .i64 c],H:=λ_=>gSy T E l.length (stC l),R:=λ_=>.agg [.int .i64 F.err,.int .i64 F.at_],O:=λ_=>gSy T F l.length (stC l),body:=(by kernel_rfl),inj:=(λ_ _ _ _ _ _=>⟨rfl,rfl⟩),ok:=(λ_ _=>m2) }] [] rfl
 obtain⟨O2,hO2,q4',ho2⟩:=Zg7 hO1 (f0:=11) rfl hC (by kernel_rfl)
 obtain⟨O,hO,qb,ho3⟩:=Z9O hA hO2
 have q4:=λH az hz=>(ho3 11 (by decide) az H).trans (q4' H az hz)
 have q3:=qb [⟨true,0,0,.cells [.int .i64 0,.int .i64 0] 29⟩]
 have q1:=(ho3 50 (by decide) _ _).trans ((ho2 50 (by decide) _ _).trans (p1 () trivial))
 have q2:=(ho3 49 (by decide) _ _).trans ((ho2 49 (by decide) _ _).trans (p2 () trivial))
 simp only[]at q1 q2
 clear p1 p2 m1 m2 hE1 hg hx hC hA qb ho2 ho3 hO1 hO2 q4' hP hEF h0
 obtain⟨i,er,a,op⟩:=E
 obtain⟨fi,fe,fa,fo⟩:=F
 simp only at hD hΦ
 simp only[gSx,gSy,List.cons_append,List.nil_append]at q1 q2
 rcases hD with ⟨rfl,rfl⟩|⟨hf,rfl⟩
 · refine fn_valX follows Z05 (Z09 follows Z05 hO 3) hΦ Tryz.func22 rfl (Z0f (isC:=Zqe) 3) ?_
   repeat' ((conv=>whnf);first|refine exI q3 ?_|refine exI q1 ?_|refine exI (q4 _ _ rfl) ?_|refine exI q2 ?_|refine stp ?_|with_reducible apply Z01<;>intro h)
   all_goals (try (conv=>whnf))
   all_goals exact λsn v h=>h
 · have f1:(fe==0)=false:=by simpa using hf
   have f2:(fe != 0)=true:=by simpa using hf
   refine fn_valX follows Z05 (Z09 follows Z05 hO 3) hΦ Tryz.func22 rfl (Z0f (isC:=Zqe) 3) ?_
   repeat' ((conv=>whnf);first|refine exI q3 ?_|refine exI q1 ?_|refine exI (q4 _ _ rfl) ?_|refine exI q2 ?_|refine stp ?_|with_reducible apply Z01<;>intro h)
   all_goals (try (conv=>whnf))
   all_goals exact λsn v h=>Zfu h
end
section
def Wz(T:List Tq)(p:Nat)(s:Ps)(z:Nat)(s':Ps):Prop:=s.i<=s'.i/\(s.err≠0->s'.err≠0/\z<=p)/\(s.err=0->s'.i<T.length->z+s.i<=s'.i+if s'.err=0 then 0 else p)
theorem Wz.refl{T:List Tq}{p:Nat}(s:Ps):Wz T p s 0 s:=⟨Y01 _,λh=>⟨h,Y05 _⟩,λh _=>by rw[if_pos h];omega⟩
theorem Wz.le{T:List Tq}{p:Nat}{s s':Ps}{z z':Nat}(h:Wz T p s z s')(hz:z'<=z):Wz T p s z' s':=⟨h.1,λh1=>⟨(h.2.1 h1).1,by have:=(h.2.1 h1).2;omega⟩,λh1 hl=>by have:=h.2.2 h1 hl;omega⟩
theorem Wz.trans{T:List Tq}{p q:Nat}{s s1 s2:Ps}{z1 z2:Nat}(h:Wz T p s z1 s1)(k:Wz T q s1 z2 s2):Wz T (p+q) s (z1+z2) s2:=by
 refine⟨Y0n h.1 k.1,λh1=>?_,λh1 hl=>?_⟩
 · obtain⟨a,b⟩:=h.2.1 h1
   obtain⟨c,d⟩:=k.2.1 a
   exact⟨c,by omega⟩
 · have b:=k.1
   have a:=h.2.2 h1 (by omega)
   by_cases h2:s1.err=0
   · rw[if_pos h2]at a
     have c:=k.2.2 h2 hl
     split at c
     ·rename_i h3;rw[if_pos h3];omega
     ·rename_i h3;rw[if_neg h3];omega
   · rw[if_neg h2]at a
     obtain⟨c,d⟩:=k.2.1 h2
     rw[if_neg c];omega
theorem Wz.fail{T:List Tq}{p:Nat}(s:Ps){e a:Int}(he:e≠0){z:Nat}(hz:z<=p):Wz T p s z (Z0p s e a):=⟨by rw[Z9C];exact Y01 _,λh=>⟨Z1H he,hz⟩,λh _=>by rw[if_neg (Z1H he),Z9C];omega⟩
theorem Wz.one{T:List Tq}{s s':Ps}(he:s.err=0)(he':s'.err=0)(hi:s'.i=s.i+1){z:Nat}(hz:z<=1){p:Nat}:Wz T p s z s':=⟨by omega,λh=>absurd he h,λ_ _=>by rw[if_pos he'];omega⟩
theorem Z4C{T:List Tq}(s:Ps)(w:List UInt8):Wz T 0 s 0 (Z0l T s w)/\(Z0L T s w=true->Wz T 0 s 1 (Z0l T s w)):=by
 constructor
 · unfold Z0l
   split
   · split
     ·exact Wz.fail s (by decide) (Y01 _)
     · rename_i h h2
       have he:s.err=0:=by unfold isF at h;simp only[Y0g,beq_iff_eq]at h;exact h.1
       exact Wz.one he (by exact he) rfl (Y05 _)
   ·exact Wz.refl s
 · intro h
   unfold Z0L at h
   simp only[Y0g,Y0y]at h
   have h1:=h.1
   have he:s.err=0:=by unfold isF at h1;simp only[Y0g,beq_iff_eq]at h1;exact h1.1
   unfold Z0l
   rw[if_pos h.1,if_neg (by rintro⟨a,b⟩;have:=h.2;simp[a,b]at this)]
   exact Wz.one he (by exact he) rfl (Y01 _)
theorem Z2c{T:List Tq}(s:Ps)(w:List UInt8):Wz T 0 s 0 (Z03 T s w):=by
 unfold Z03
 split
 ·exact (Z4C s w).1
 ·exact ((Z4C s w).1.trans (Wz.fail (p:=0) _ (by decide) (Y01 0)))
theorem ZhM{T:List Tq}(s:Ps):Wz T 0 s 0 (Z0e T s):=by
 unfold Z0e
 split
 · rename_i h
   unfold Z1Q at h
   simp only[Y0g,beq_iff_eq]at h
   exact Wz.one h.1 (by exact h.1) rfl (Y05 _)
 ·exact Wz.fail s (by decide) (Y01 _)
theorem ZiE{T:List Tq}:∀(l:List (List UInt8))(s:Ps)(k:Int),Wz T 0 s 0 (Z0a T s l k).2
 |[],s,k=>Wz.fail s (by decide) (Y01 _)
 |w::l,s,k=>by
  unfold Z0a
  split
  ·exact (Z4C s w).1
  ·exact (Z4C s w).1.trans (ZiE l _ _)
def WzE(T:List Tq)(s:Ps)(x:Ex)(s':Ps):Prop:=Wz T 1 s (Z0A x) s'
theorem Zeo{T:List Tq}{i0:Nat}{rec1:Ps->Ex×Ps}(hrec:∀s,i0<=s.i->WzE T s (rec1 s).1 (rec1 s).2){s0:Ps}(hi:i0<=s0.i):∀(l:List (List UInt8×Int))(x:Ex)(s:Ps)(a:Bool),WzE T s0 x s->WzE T s0 (Z1s T rec1 l x s a).1 (Z1s T rec1 l x s a).2.1
 |[],x,s,a,h=>h
 |(w,o)::l,x,s,a,h=>by
  unfold Z1s
  split
  · rename_i ht
    refine Zeo hrec hi l _ _ _ ?_
    have he:s.err=0:=by
     unfold Z0L isF at ht;simp only[Y0g,beq_iff_eq]at ht;exact ht.1.1
    have t1:=(Z4C (T:=T) s w).2 ht
    have t2:=hrec (Z0l T s w) (Y0n hi (Y0n h.1 t1.1))
    have t3:=t1.trans t2
    refine⟨Y0n h.1 t3.1,λh1=>absurd he ((h.2.1 h1).1),λh1 hl=>?_⟩
    have a0:=t3.1
    have a1:=h.2.2 h1 (by omega)
    rw[if_pos he]at a1
    have a2:=t3.2.2 he hl
    simp only[Z0A,sizeL]
    split at a2
    ·rename_i h3;rw[if_pos h3];omega
    ·rename_i h3;rw[if_neg h3];omega
  ·exact Zeo hrec hi l _ _ _ ((h.trans (Z4C (T:=T) s w).1).le (by omega))
theorem ZiO{T:List Tq}{i0:Nat}{rec1:Ps->Ex×Ps}(hrec:∀s,i0<=s.i->WzE T s (rec1 s).1 (rec1 s).2){s0:Ps}(hi:i0<=s0.i)(l:List (List UInt8×Int)):∀(k:Nat)(x:Ex)(s:Ps),WzE T s0 x s->WzE T s0 (Z24 T rec1 l k x s).1 (Z24 T rec1 l k x s).2
 |0,x,s,h=>h
 |k+1,x,s,h=>by
  unfold Z24
  have h1:=Zeo (T:=T) hrec hi l x s false h
  split
  ·exact ZiO hrec hi l k _ _ h1
  ·exact h1
theorem Zgx{T:List Tq}{i0:Nat}{un:Ps->Ex×Ps}(hun:∀s,i0<=s.i->WzE T s (un s).1 (un s).2):∀(m:Nat)(s:Ps),i0<=s.i->WzE T s (Z3A T un m s).1 (Z3A T un m s).2
 |0,s,h=>hun s h
 |m+1,s,h=>by
  unfold Z3A
  exact ZiO (λt ht=>Zgx hun m t ht) h _ _ _ _ (Zgx hun m s h)
theorem Zp5{T:List Tq}{ex:Ps->Ex×Ps}{s:Ps}(hex:∀t,s.i+1<=t.i->WzE T t (ex t).1 (ex t).2):WzE T s (Z1m T ex s).1 (Z1m T ex s).2:=by
 unfold Z1m
 split
 · rename_i he
   exact⟨Y01 _,λ_=>⟨he,by simp[ex0,Z0A,sizeL]⟩,λh=>absurd h he⟩
 rename_i he
 replace he:s.err=0:=Classical.not_not.1 he
 split
 ·exact Wz.one he (by exact he) rfl (by simp[Z0A,sizeL])
 split
 ·exact Wz.one he (by exact he) rfl (by simp[Z0A,sizeL])
 split
 · rename_i ht
   have t1:=(Z4C (T:=T) s [40]).2 ht
   have t0:s.i+1<=(Z0l T s [40]).i:=by
    have h1:=ht
    unfold Z0L at h1
    simp only[Y0g,Y0y]at h1
    unfold Z0l
    rw[if_pos h1.1,if_neg (by rintro⟨a,b⟩;have:=h1.2;simp[a,b]at this)]
    exact Y01 _
   have t2:=hex _ t0
   have t3:=Z2c (T:=T) (ex (Z0l T s [40])).2 [41]
   exact ((t1.trans t2).trans t3).le (show Z0A (ex (Z0l T s [40])).1<=_ by omega)
 · have t:=(Z4C (T:=T) s [40]).1.trans (Wz.fail (T:=T) (p:=1) (Z0l T s [40]) (e:=5) (a:=(Z0r T s).pos) (by decide) (z:=1) (Y01 _))
   exact t.le (by simp[ex0,Z0A,sizeL])
theorem Znv{T:List Tq}:∀(d:Nat)(s:Ps),T.length<=s.i+d->WzE T s (unF T d s).1 (unF T d s).2
 |0,s,h=>⟨Y01 _,λhe=>⟨he,by simp[unF,ex0,Z0A,sizeL]⟩,λ_ hl=>absurd hl (by show ¬s.i<_;omega)⟩
 |d+1,s,h=>by
  unfold unF
  split
  ·exact Zp5 λt ht=>Zgx (i0:=t.i) (λu hu=>Znv d u (by omega)) 9 t (Y01 _)
  rename_i h2
  have he:s.err=0:=by
   refine Classical.byContradiction λhq=>h2 ?_
   have:(s.err==0)=false:=by simpa using hq
   unfold isF
   rw[this]
   exact⟨rfl,rfl⟩
  split
  ·exact Wz.fail s (by decide) (by simp[ex0,Z0A,sizeL])
  · have t2:=Znv (T:=T) d { s with i:=s.i+1,op:=s.op+1 } (by show _<=s.i+1+d;omega)
    have a0:s.i+1<=(unF T d { s with i:=s.i+1,op:=s.op+1 }).2.i:=t2.1
    refine⟨by show s.i<=(unF T d { s with i:=s.i+1,op:=s.op+1 }).2.i;omega,λh1=>absurd he h1,λ_ hl=>?_⟩
    have a2:=t2.2.2 he hl
    simp only[Z0A,sizeL]
    show _+_<=(unF T d { s with i:=s.i+1,op:=s.op+1 }).2.i+if (unF T d { s with i:=s.i+1,op:=s.op+1 }).2.err=0 then 0 else 1
    have a3:Z0A (unF T d { s with i:=s.i+1,op:=s.op+1 }).1+(s.i+1)<=(unF T d { s with i:=s.i+1,op:=s.op+1 }).2.i+if (unF T d { s with i:=s.i+1,op:=s.op+1 }).2.err=0 then 0 else 1:=a2
    omega
theorem ZbL{T:List Tq}(s:Ps):WzE T s (Z0D T s).1 (Z0D T s).2:=Zgx (i0:=0) (λu hu=>Znv T.length u (by omega)) 9 s (Y05 _)
end
section
theorem ZbA{T:List Tq}{s:Ps}{w:List UInt8}(h:isF T s w=true):s.err=0:=by
 unfold isF at h
 simp only[Y0g,beq_iff_eq]at h
 exact h.1
end
section
def Wy(T:List Tq)(p q:Nat)(s:Ps)(z:Nat)(s':Ps):Prop:=s.i<=s'.i/\(s.err≠0->s'.err≠0/\z<=p)/\(s.err=0->s'.i<T.length->z+s.i<=s'.i+if s'.err=0 then 0 else q)
theorem Wz.y{T:List Tq}{p:Nat}{s s':Ps}{z:Nat}(h:Wz T p s z s'):Wy T p p s z s':=h
theorem Wy.to{T:List Tq}{p q p' q':Nat}{s s':Ps}{z z':Nat}(h:Wy T p q s z s')(hp:p<=p')(hq:q<=q')(hz:z'<=z):Wy T p' q' s z' s':=by
 refine⟨h.1,λh1=>⟨(h.2.1 h1).1,by have:=(h.2.1 h1).2;omega⟩,λh1 hl=>?_⟩
 have:=h.2.2 h1 hl
 split at this
 ·rename_i h2;rw[if_pos h2];omega
 ·rename_i h2;rw[if_neg h2];omega
theorem Wy.trans{T:List Tq}{p1 q1 p2 q2 p q:Nat}{s s1 s2:Ps}{z1 z2:Nat}(h:Wy T p1 q1 s z1 s1)(k:Wy T p2 q2 s1 z2 s2)(hp:p1+p2<=p)(hq:q1+p2<=q)(hq2:q2<=q):Wy T p q s (z1+z2) s2:=by
 refine⟨Y0n h.1 k.1,λh1=>?_,λh1 hl=>?_⟩
 · obtain⟨a,b⟩:=h.2.1 h1
   obtain⟨c,d⟩:=k.2.1 a
   exact⟨c,by omega⟩
 · have b:=k.1
   have a:=h.2.2 h1 (by omega)
   by_cases h2:s1.err=0
   · rw[if_pos h2]at a
     have c:=k.2.2 h2 hl
     split at c
     ·rename_i h3;rw[if_pos h3];omega
     ·rename_i h3;rw[if_neg h3];omega
   · rw[if_neg h2]at a
     obtain⟨c,d⟩:=k.2.1 h2
     rw[if_neg c];omega
theorem Z2R{T:List Tq}{s:Ps}{w:List UInt8}(h:isF T s w=true):Wy T 0 0 s 1 (Z02 s):=by
 have he:=ZbA h
 exact Wz.one (T:=T) (s':=Z02 s) he he rfl (Y01 _)
theorem ZkW{T:List Tq}(s:Ps):Wy T 1 1 s 1 (Z0e T s):=by
 unfold Z0e
 split
 · rename_i h
   unfold Z1Q at h
   simp only[Y0g,beq_iff_eq]at h
   exact Wz.one (T:=T) h.1 (by exact h.1) rfl (Y01 _)
 ·exact Wz.fail (T:=T) s (by decide) (Y01 _)
theorem Zgt{T:List Tq}(s:Ps):Wy T 1 1 s (Z0A (Z28 T s).1) (Z28 T s).2:=by
 have t1:=(Z2c (T:=T) s [40]).y
 have t2:=(ZbL (T:=T) (Z03 T s [40])).y
 have t3:=(Z2c (T:=T) (Z0D T (Z03 T s [40])).2 [41]).y
 exact ((t1.trans t2 (p:=1) (q:=1) (by omega) (by omega) (by omega)).trans t3 (by omega) (by omega) (by omega)).to (Y01 1) (Y01 1) (by show Z0A (Z0D T (Z03 T s [40])).1<=_;omega)
theorem Zn9{T:List Tq}:∀(n:Nat)(s:Ps),Wy T n n s (sizeL (Z3J T n s).1) (Z3J T n s).2
 |0,s=>(Wz.refl (T:=T) s).y
 |n+1,s=>by
  have t1:=(Z2c (T:=T) s [44]).y
  have t2:=(ZbL (T:=T) (Z03 T s [44])).y
  have t3:=Zn9 (T:=T) n (Z0D T (Z03 T s [44])).2
  exact ((t1.trans t2 (p:=1) (q:=1) (by omega) (by omega) (by omega)).trans t3 (p:=n+1) (q:=n+1) (by omega) (by omega) (by omega)).to (Y01 _) (Y01 _) (by simp only[Z3J,sizeL];omega)
theorem Wy.ok{T:List Tq}{p q p':Nat}{s s':Ps}{z:Nat}(h:Wy T p q s z s')(he:s.err=0):Wy T p' q s z s':=⟨h.1,λh1=>absurd he h1,h.2.2⟩
theorem ZdC{T:List Tq}(s:Ps)(nm:List UInt8)(k:Int)(n:Nat)(hn:n<=2):Wy T 2 2 s (Z12 (Z2H T nm k n s).1-1) (Z2H T nm k n s).2:=by
 have t1:=(Z2c (T:=T) s [40]).y
 have t2:=(ZhM (T:=T) (Z03 T s [40])).y
 have t3:=Zn9 (T:=T) n (Z0e T (Z03 T s [40]))
 have t4:=(Z2c (T:=T) (Z3J T n (Z0e T (Z03 T s [40]))).2 [44]).y
 have t5:=(ZiE (T:=T) ordL (Z03 T (Z3J T n (Z0e T (Z03 T s [40]))).2 [44]) 1).y
 have t6:=(Z2c (T:=T) (Z0a T (Z03 T (Z3J T n (Z0e T (Z03 T s [40]))).2 [44]) ordL 1).2 [41]).y
 exact (((((t1.trans t2 (p:=0) (q:=0) (by omega) (by omega) (by omega)).trans t3 (p:=2) (q:=2) (by omega) (by omega) (by omega)).trans t4 (p:=2) (q:=2) (by omega) (by omega) (by omega)).trans t5 (p:=2) (q:=2) (by omega) (by omega) (by omega)).trans t6 (p:=2) (q:=2) (by omega) (by omega) (by omega)).to (Y01 _) (Y01 _) (by simp only[Z2H,Z12,sizeSL];omega)
theorem Zqv{T:List Tq}(s:Ps):Wy T 0 0 s 0 (Zdf T s).2:=by
 have t1:=(Z2c (T:=T) s [40]).y
 have t2:=(ZiE (T:=T) ordL (Z03 T s [40]) 1).y
 have t3:=(Z2c (T:=T) (Z0a T (Z03 T s [40]) ordL 1).2 [41]).y
 exact (t1.trans t2 (p:=0) (q:=0) (by omega) (by omega) (by omega)).trans t3 (p:=0) (q:=0) (by omega) (by omega) (by omega)
theorem ZpH{T:List Tq}(s:Ps)(nm:List UInt8):Wy T 2 2 s (Z12 (Z3D T nm s).1-1) (Z3D T nm s).2:=by
 unfold Z3D
 split
 ·rename_i h;exact ((Z2R h).trans (ZdC (T:=T) (Z02 s) nm 2 0 (by omega)) (p:=2) (q:=2) (by omega) (by omega) (by omega)).to (Y01 _) (Y01 _) (by omega)
 split
 ·rename_i h;exact ((Z2R h).trans (ZdC (T:=T) (Z02 s) nm 4 2 (by omega)) (p:=2) (q:=2) (by omega) (by omega) (by omega)).to (Y01 _) (Y01 _) (by omega)
 split
 ·rename_i h;exact ((Z2R h).trans (ZdC (T:=T) (Z02 s) nm 5 1 (by omega)) (p:=2) (q:=2) (by omega) (by omega) (by omega)).to (Y01 _) (Y01 _) (by omega)
 split
 ·rename_i h;exact ((Z2R h).trans (ZdC (T:=T) (Z02 s) nm 6 1 (by omega)) (p:=2) (q:=2) (by omega) (by omega) (by omega)).to (Y01 _) (Y01 _) (by omega)
 ·exact (ZbL (T:=T) s).y.to (by omega) (by omega) (by simp only[Z12,sizeSL,sizeL];omega)
theorem ZnK{T:List Tq}(s:Ps):Wy T 3 3 s (Z12 (Z1w T s).1) (Z1w T s).2:=by
 unfold Z1w
 split
 ·rename_i h;exact ((Z2R h).trans (ZdC (T:=T) (Z02 s) [] 3 1 (by omega)) (p:=3) (q:=3) (by omega) (by omega) (by omega)).to (Y01 _) (Y01 _) (by omega)
 split
 ·rename_i h;exact ((Z2R h).trans (Zqv (T:=T) (Z02 s)) (p:=3) (q:=3) (by omega) (by omega) (by omega)).to (Y01 _) (Y01 _) (by simp only[Zdf,Z12,sizeSL,sizeL];omega)
 split
 ·rename_i h;exact ((Z2R h).trans (Zgt (T:=T) (Z02 s)) (p:=3) (q:=3) (by omega) (by omega) (by omega)).to (Y01 _) (Y01 _) (by simp only[Zci,Z12,sizeSL,sizeL];omega)
 split
 ·rename_i h;exact ((Z2R h).trans (Zgt (T:=T) (Z02 s)) (p:=3) (q:=3) (by omega) (by omega) (by omega)).to (Y01 _) (Y01 _) (by simp only[Zci,Z12,sizeSL,sizeL];omega)
 · have t1:=ZkW (T:=T) s
   have t2:=(Z2c (T:=T) (Z0e T s) [61]).y
   have t3:=ZpH (T:=T) (Z03 T (Z0e T s) [61]) (Z0Z T s)
   exact ((t1.trans t2 (p:=1) (q:=1) (by omega) (by omega) (by omega)).trans t3 (p:=3) (q:=3) (by omega) (by omega) (by omega)).to (Y01 _) (Y01 _) (by omega)
theorem Zi4{T:List Tq}{i0:Nat}{stm:Ps->St×Ps}(hstm:∀s,i0<=s.i->Wy T 3 4 s (Z12 (stm s).1) (stm s).2)(w:List UInt8):∀(k:Nat)(s:Ps),i0<=s.i->Wy T 0 4 s (sizeSL (Z20 T stm w k s).1) (Z20 T stm w k s).2
 |0,s,h=>(Wz.refl (T:=T) (p:=0) s).y.to (by omega) (by omega) (Y01 _)
 |k+1,s,h=>by
  unfold Z20
  split
  · rename_i c
    have t1:=hstm s h
    have t2:=Zi4 hstm w k (stm s).2 (Y0n h t1.1)
    exact ((t1.trans t2 (p:=3) (q:=4) (by omega) (by omega) (by omega)).ok c.1).to (Y01 _) (Y01 _) (by simp only[sizeSL];omega)
  ·exact (Wz.refl (T:=T) (p:=0) s).y.to (by omega) (by omega) (Y01 _)
theorem Zng{T:List Tq}{i0:Nat}{stm:Ps->St×Ps}(hstm:∀s,i0<=s.i->Wy T 3 4 s (Z12 (stm s).1) (stm s).2)(s:Ps)(h:i0<=s.i):Wy T 0 4 s (sizeSL (Z9M T stm s).1) (Z9M T stm s).2:=by
 have t1:=(Z2c (T:=T) s [123]).y
 have t2:=Zi4 hstm [125] (T.length+1) (Z03 T s [123]) (Y0n h t1.1)
 have t3:=(Z2c (T:=T) (Z20 T stm [125] (T.length+1) (Z03 T s [123])).2 [125]).y
 exact ((t1.trans t2 (p:=0) (q:=4) (by omega) (by omega) (by omega)).trans t3 (p:=0) (q:=4) (by omega) (by omega) (by omega)).to (Y01 _) (Y01 _) (by simp only[Z9M];omega)
theorem ZqB{T:List Tq}{i0:Nat}{blk:Ps->List St×Ps}{stm:Ps->St×Ps}(hblk:∀s,i0<=s.i->Wy T 0 4 s (sizeSL (blk s).1) (blk s).2)(hstm:∀s,i0<=s.i->Wy T 3 4 s (Z12 (stm s).1) (stm s).2)(s:Ps)(h:i0<=s.i):Wy T 0 4 s (sizeSL (Z9Z T blk stm s).1) (Z9Z T blk stm s).2:=by
 unfold Z9Z
 split
 · rename_i h1
   have h2:i0<=(Z02 s).i:=Y0n h (Nat.le_succ _)
   split
   ·exact (((Z2R h1).trans (hstm (Z02 s) h2) (p:=3) (q:=4) (by omega) (by omega) (by omega)).ok (ZbA h1)).to (Y01 _) (Y01 _) (by simp only[sizeSL];omega)
   ·exact ((Z2R h1).trans (hblk (Z02 s) h2) (p:=0) (q:=4) (by omega) (by omega) (by omega)).to (Y01 _) (Y01 _) (by omega)
 ·exact (Wz.refl (T:=T) (p:=0) s).y.to (by omega) (by omega) (Y01 _)
theorem ZnF{T:List Tq}{blk:Ps->List St×Ps}{stm:Ps->St×Ps}(s:Ps)(hblk:∀t,s.i+1<=t.i->Wy T 0 4 t (sizeSL (blk t).1) (blk t).2)(hstm:∀t,s.i+1<=t.i->Wy T 3 4 t (Z12 (stm t).1) (stm t).2):Wy T 3 4 s (Z12 (Z3n T blk stm s).1) (Z3n T blk stm s).2:=by
 unfold Z3n
 split
 · rename_i h
   have t2:=Zgt (T:=T) (Z02 s)
   have h2:s.i+1<=(Z28 T (Z02 s)).2.i:=t2.1
   have t3:=hblk _ h2
   have t4:=ZqB hblk hstm _ (Y0n h2 t3.1)
   exact ((((Z2R h).trans t2 (p:=1) (q:=1) (by omega) (by omega) (by omega)).trans t3 (p:=1) (q:=4) (by omega) (by omega) (by omega)).trans t4 (p:=3) (q:=4) (by omega) (by omega) (by omega)).to (Y01 _) (Y01 _) (by simp only[Zch,Z12,sizeL];omega)
 split
 · rename_i h
   have t2:=Zgt (T:=T) (Z02 s)
   have h2:s.i+1<=(Z28 T (Z02 s)).2.i:=t2.1
   have t3:=hblk _ h2
   exact (((Z2R h).trans t2 (p:=1) (q:=1) (by omega) (by omega) (by omega)).trans t3 (p:=3) (q:=4) (by omega) (by omega) (by omega)).to (Y01 _) (Y01 _) (by simp only[Zl2,Z12,sizeL,sizeSL];omega)
 · have t1:=ZnK (T:=T) s
   have t2:=(Z2c (T:=T) (Z1w T s).2 [59]).y
   exact (t1.trans t2 (p:=3) (q:=4) (by omega) (by omega) (by omega)).to (Y01 _) (Y01 _) (show Z12 (Z1w T s).1<=_ by omega)
theorem Zeb{T:List Tq}:∀(d:Nat)(s:Ps),T.length<=s.i+d->Wy T 3 4 s (Z12 (Z5R T d s).1) (Z5R T d s).2
 |0,s,h=>⟨Y01 _,λhe=>⟨he,by simp[Z5R,Z12,sizeL,sizeSL]⟩,λ_ hl=>absurd hl (by show ¬s.i<_;omega)⟩
 |d+1,s,h=>ZnF s (λt ht=>Zng (i0:=s.i+1) (λu hu=>Zeb (T:=T) d u (by omega)) t ht) (λt ht=>Zeb (T:=T) d t (by omega))
theorem Zi6{T:List Tq}(s:Ps):Wy T 3 4 s (Z12 (Z1D T s).1) (Z1D T s).2:=Zeb T.length s (by omega)
theorem Zp2{T:List Tq}(s:Ps):Wy T 0 4 s (sizeSL (Z6a T s).1) (Z6a T s).2:=Zng (i0:=0) (λu _=>Zi6 u) s (Y05 _)
end
section
theorem Zmx{T:List Tq}(hT:TqW T)(s:Ps):okSL (Z6a T s).1/\(Z6a T s).1.length<=1000001:=Zgv hT (λt=>Z8u hT T.length t) s
end
section
theorem ZqF{T:List Tq}(pl:Bool)(s:Ps):Wz T 0 s 0 (Z5B T pl s).2:=by
 have t1:=ZhM (T:=T) s
 unfold Z5B
 split
 · rename_i h
   have he:=ZbA h
   have t2:Wz T 0 (Z0e T s) 0 (Z02 (Z0e T s)):=Wz.one he (by exact he) rfl (Y05 _)
   split
   · have t3:Wz T 0 (Z02 (Z0e T s)) 0 (Z02 (Z02 (Z0e T s))):=Wz.one (by exact he) (by exact he) rfl (Y05 _)
     exact (t1.trans t2).trans t3
   · have t3:Wz T 0 (Z02 (Z0e T s)) 0 (Z0p (Z02 (Z0e T s)) 5 (Z0r T (Z02 (Z0e T s))).pos):=Wz.fail _ (by decide) (Y01 _)
     exact (t1.trans t2).trans t3
 ·exact t1
theorem Znc{T:List Tq}(pl:Bool):∀(k:Nat)(s:Ps),Wz T 0 s 0 (Z3N T pl k s).2
 |0,s=>Wz.refl s
 |k+1,s=>by
  have t1:=ZqF (T:=T) pl s
  unfold Z3N
  split
  · rename_i h
    have he:=ZbA h
    have t2:Wz T 0 (Z5B T pl s).2 0 (Z02 (Z5B T pl s).2):=Wz.one he (by exact he) rfl (Y05 _)
    exact (t1.trans t2).trans (Znc pl k _)
  ·exact t1
theorem ZoT{T:List Tq}(pl:Bool)(s:Ps):Wz T 0 s 0 (Z0E T pl s).2:=(Znc pl _ s).trans (Z2c (T:=T) _ [59])
theorem Z9a {T : List Tq} : ∀ (k : Nat) (ds : List Dc) (ts : List (List St)) (s : Ps), (s.i < T.length -> Z0H ts <= s.i + if s.err = 0 then 0 else 4) ->
  ((Z1k T k ds ts s).2.i<T.length->Z0H (Z1k T k ds ts s).1.2<=(Z1k T k ds ts s).2.i+if (Z1k T k ds ts s).2.err=0 then 0 else 4)
 |0,ds,ts,s,h=>h
 |k+1,ds,ts,s,h=>by
  unfold Z1k
  split
  · rename_i hs
    have decl:∀(pl:Bool),(Z0E T pl (Z02 s)).2.i<T.length->Z0H ts<=(Z0E T pl (Z02 s)).2.i+if (Z0E T pl (Z02 s)).2.err=0 then 0 else 4:=by
     intro pl hl
     have h1:=(ZoT (T:=T) pl (Z02 s)).1
     have h2:(Z02 s).i=s.i+1:=rfl
     have h3:=h (by omega)
     rw[if_pos hs.1]at h3
     omega
    split
    ·exact Z9a k _ _ _ (decl false)
    split
    ·exact Z9a k _ _ _ (decl true)
    split
    · refine Z9a k _ _ _ λhl=>?_
      have t:=Zp2 (T:=T) (Z02 s)
      have h1:=t.1
      have h2:(Z02 s).i=s.i+1:=rfl
      have h3:=h (by omega)
      rw[if_pos hs.1]at h3
      have h4:=t.2.2 (show (Z02 s).err=0 from hs.1) hl
      rw[Z5U]
      split
      ·rename_i h5;rw[if_pos h5]at h4;omega
      ·rename_i h5;rw[if_neg h5]at h4;omega
    · refine Z9a k _ _ _ λhl=>?_
      rw[Z9C]at hl⊢
      have h3:=h hl
      rw[if_pos hs.1]at h3
      omega
  ·exact h
theorem Zdt{T:List Tq}(hT:TqW T)(pl:Bool):∀(k:Nat)(s:Ps),∀d∈(Z3N T pl k s).1,d.name.length<=9223372036854775807
 |0,s,d,h=>by cases h
 |k+1,s,d,h=>by
  have h1:(Z5B T pl s).1.name=Z0Z T s:=by unfold Z5B;split<;>(try split)<;>rfl
  unfold Z3N at h
  split at h
  · rcases List.mem_cons.1 h with rfl|h
    ·rw[h1];exact Z6b hT s
    ·exact Zdt hT pl k _ d h
  ·rw[Y0r.1 h,h1];exact Z6b hT s
theorem Z6q {T : List Tq} (hT : TqW T) : ∀ (k : Nat) (ds : List Dc) (ts : List (List St)) (s : Ps) (N M : Nat), (∀ d ∈ ds, d.name.length <= 9223372036854775807) -> (∀ t ∈ ts, okSL t /\ t.length <= 1000001) -> ds.length <= N -> ts.length <= M ->
  ((∀d∈(Z1k T k ds ts s).1.1,d.name.length<=9223372036854775807)/\(∀t∈(Z1k T k ds ts s).1.2,okSL t/\t.length<=1000001))/\(Z1k T k ds ts s).1.1.length<=N+1000001*k/\(Z1k T k ds ts s).1.2.length<=M+k
 |0,ds,ts,s,N,M,h1,h2,h3,h4=>⟨⟨h1,h2⟩,h3,h4⟩
 |k+1,ds,ts,s,N,M,h1,h2,h3,h4=>by
  have hf:=hT.few
  have decl:∀pl:Bool,(∀d∈ds++(Z0E T pl (Z02 s)).1,d.name.length<=9223372036854775807)/\(ds++(Z0E T pl (Z02 s)).1).length<=N+1000001:=by
   intro pl
   obtain⟨d0,l0,e0,e1⟩:=Z42 T pl (Z02 s)
   refine⟨λd hd=>?_,?_⟩
   · rcases List.mem_append.1 hd with hd|hd
     ·exact h1 d hd
     ·exact Zdt hT pl _ _ d hd
   ·rw[List.length_append,e0,Y0p];omega
  unfold Z1k
  split
  · split
    · obtain⟨a,b⟩:=decl false
      obtain⟨c,d,e⟩:=Z6q hT k _ ts (Z0E T false (Z02 s)).2 (N+1000001) M a h2 b h4
      exact⟨c,by omega,by omega⟩
    split
    · obtain⟨a,b⟩:=decl true
      obtain⟨c,d,e⟩:=Z6q hT k _ ts (Z0E T true (Z02 s)).2 (N+1000001) M a h2 b h4
      exact⟨c,by omega,by omega⟩
    split
    · have b:=Zmx hT (Z02 s)
      obtain⟨c,d,e⟩:=Z6q hT k ds (ts++[(Z6a T (Z02 s)).1]) (Z6a T (Z02 s)).2 N (M+1) h1 (λt ht=>by
       rcases List.mem_append.1 ht with ht|ht
       ·exact h2 t ht
       ·rw[Y0r.1 ht];exact b) h3 (by rw[List.length_append];simp only[List.length_singleton];omega)
      exact⟨c,by omega,by omega⟩
    · obtain⟨c,d,e⟩:=Z6q hT k ds ts (Z0p s 5 (Z0r T s).pos) N M h1 h2 h3 h4
      exact⟨c,by omega,by omega⟩
  ·exact⟨⟨h1,h2⟩,(by show ds.length<=_;omega),(by show ts.length<=_;omega)⟩
theorem ZfN:∀{ts:List (List St)},(∀t∈ts,okSL t/\t.length<=1000001)->ZhI ts
 |[],_=>trivial
 |t::l,h=>by
  have h1:=h t (by simp)
  simp only[ZhI]
  exact⟨h1.1,by have:=h1.2;omega,ZfN (λx hx=>h x (by simp[hx]))⟩
theorem Zls{T:List Tq}(hT:TqW T)(h0:PsOK T s0):okP ⟨(Z1k T (T.length+1) [] [] s0).1.1,(Z1k T (T.length+1) [] [] s0).1.2⟩/\Z0H (Z1k T (T.length+1) [] [] s0).1.2<=1048576:=by
 have hf:=hT.few
 obtain⟨⟨a,b⟩,c,d⟩:=Z6q hT (T.length+1) [] [] s0 0 0 (λd hd=>by cases hd) (λd hd=>by cases hd) (Y01 _) (Y01 _)
 refine⟨⟨⟨Y0n c (by omega),a⟩,ZfN b,Y0n d (by omega)⟩,?_⟩
 have h1:=Z9a (T:=T) (T.length+1) [] [] s0 (λ_=>Y05 _)
 have h2:=(Z3p (T:=T) (T.length+1) [] [] s0 h0).lt
 have h3:=h1 h2
 split at h3<;>omega
theorem Zme{T:List Tq}(hT:TqW T)(h0:PsOK T s0):okE (Z0D T s0).1/\Z0A (Z0D T s0).1<=1048576:=by
 have hf:=hT.few
 refine⟨Z3e hT s0,?_⟩
 have h2:=(Z2i h0).ok.lt
 have h3:=(ZbL (T:=T) s0).2.2 rfl h2
 have h4:s0.i=0:=rfl
 split at h3<;>omega
theorem Zi5{T:List Tq}(hT:TqW T)(h0:PsOK T s0)(hl:(Z20 T (Z1D T) [] (T.length+1) s0).2.i<T.length):okSL (Z20 T (Z1D T) [] (T.length+1) s0).1/\(Z20 T (Z1D T) [] (T.length+1) s0).1.length<=1000001/\sizeSL (Z20 T (Z1D T) [] (T.length+1) s0).1<=1048576:=by
 have hf:=hT.few
 obtain⟨a,b⟩:=Z8t (T:=T) (λt=>Z8u hT T.length t) [] (T.length+1) s0
 refine⟨a,by show (Z20 T (Z5R T T.length) [] (T.length+1) s0).1.length<=_;omega,?_⟩
 have h3:=(Zi4 (T:=T) (i0:=0) (λu _=>Zi6 u) [] (T.length+1) s0 (Y05 _)).2.2 rfl hl
 have h4:s0.i=0:=rfl
 split at h3<;>omega
end
end Go.Proofs.YtneoiadnbikciaaGreatDoor.lex
